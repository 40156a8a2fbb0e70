/-
  The reference's l4Mutate: a copy of a clause, sometimes made invalid.
-/
import Derived.Test.YtognkaebiafgbaaGreatMv39
import Derived.Test.YtognkaebiafgbaaGreatMv35
import Derived.Test.YtognkaebiafgbaaGreatMv16
namespace Go.Proofs.YtognkaebiafgbaaGreat
open Go.RowKit
set_option linter.unusedVariables false
theorem own_lt9 {T : Nat} {Z : Nat → Prop} {ts : List Tm} {v : Value} {w : World} {g : Nat} (h : AppI T Z ts v w) (hg : v.ownBlock = some g) : g < w.heap.size := by
  obtain ⟨xs, h1, _⟩ := h
  exact (h1.lt g hg).2
set_option maxRecDepth 100000 in
set_option maxHeartbeats 8000000 in
theorem specl4Mutate (r p K : Nat) (c : Cl) (v : Value) (S : Nat → Prop) (w : World) (hK : K ≤ 1000) (hb : c.body.length ≤ K) (hp : p + 170 ≤ 1099511627776) (hr : Rd w r p) (hc : Cl.at S w c v) : Calls Tryz.prog 34 #[.pointer (some ⟨r, 0, none⟩), v] w (ClPost r p 170 (K + 7) w) := by
  have hrl := hr.lt
  have HR0 := Lib.hid hr
  have n1 : w.heap.size + 1 ≠ r := by omega
  obtain ⟨a0, ca0, b0, cb0, rfl, hat0, hbd0⟩ := Cl.form hc
  have hnm : c.head.name.size ≤ 1048576 := (Tm.at_iff.1 hat0).1
  have hkl : c.head.kids.length ≤ 1048576 := (at_small hat0).2
  have HNM := Lib.hid hnm
  have HKL := Lib.hid hkl
  have HB := Lib.hid hb
  obtain ⟨W0, hW0⟩ : ∃ z, z = (w.alloc (.cells #[.int .i64 c.head.kind, .int .i64 c.head.n, .string c.head.name, .slice a0 c.head.kids.length ca0, .slice b0 c.body.length cb0] 38)).alloc (.cells #[.int .i64 0, .int .i64 0, .string ⟨#[]⟩, .slice none 0 0, .slice none 0 0] 38) := ⟨_, rfl⟩
  have hE0 : Ext w W0 := by rw [hW0]; exact (Ext.alloc _ _).trans (Ext.alloc _ _)
  have hB0 : BoxCZ W0 (w.heap.size + 1) := by rw [hW0]; exact BoxC.new _ _ _ _ _ _ 38 (by simp)
  have hA0 : BoxC W0 w.heap.size (.int .i64 c.head.kind) (.int .i64 c.head.n) (.string c.head.name) (.slice a0 c.head.kids.length ca0) (.slice b0 c.body.length cb0) := by rw [hW0]; exact (BoxC.new w _ _ _ _ _ 38 rfl).ext (Ext.alloc _ _)
  have s0 : W0.heap.size = w.heap.size + 2 := by rw [hW0]; simp
  have E0 := Lib.hid hE0
  have B0 := Lib.hid hB0
  have A0 := Lib.hid hA0
  have C0 := Lib.hid (Cl.at_ext hE0 hc)
  obtain ⟨i0, hi, hz0, hz1, hz2⟩ := info_parts info_term3
  have HI := Lib.hid hi
  have HZ := Lib.hid hz0
  have HZ1 := Lib.hid hz1
  have HZ2 := Lib.hid hz2
  clear hi hz0 hz1 hz2 hr hE0 hB0 hA0 hc hat0 hbd0 hnm hkl hb
  go_enter Tryz.func34, Tryz.ntmps34
  go_upto_region 1 with (fail)
  rw [← hW0]
  clear hW0
  obtain ⟨x0, x1, x2, x3, x4, _, _, _, _, _⟩ := A0.out
  have lA0 := A0.out.lt
  go_wp2_with fail
  refine (specl4Copy c _ _ W0 C0.out).mono ?_
  rintro e w1 ⟨v1, rfl, hv1, e1⟩
  obtain ⟨ah, ch, ab, cb, m, rfl, hhd, hbd, hm1, hm2⟩ := hv1
  have e1a := e1.trans (Ext.alloc w1 (.cells #[.int .i64 c.head.kind, .int .i64 c.head.n, .string c.head.name, .slice ah c.head.kids.length ch, .slice ab c.body.length cb] 38))
  have H1 := Lib.hid (Tm.at_ext (Ext.alloc w1 (.cells #[.int .i64 c.head.kind, .int .i64 c.head.n, .string c.head.name, .slice ah c.head.kids.length ch, .slice ab c.body.length cb] 38)) (Tm.at_mono (S' := fun k => w.heap.size + 2 ≤ k ∧ k < m) (fun k hk => by omega) (Agree.refl _) (own_flat _ _ _ hhd)))
  have A1 := Lib.hid (((hbd.app).zone (Z' := fun k => m ≤ k ∧ k ≠ w1.heap.size) (fun k hk => by omega)).ext (Ext.alloc w1 (.cells #[.int .i64 c.head.kind, .int .i64 c.head.n, .string c.head.name, .slice ah c.head.kids.length ch, .slice ab c.body.length cb] 38)))
  have C1 := Lib.hid (BoxC.new w1 (.int .i64 c.head.kind) (.int .i64 c.head.n) (.string c.head.name) (.slice ah c.head.kids.length ch) (.slice ab c.body.length cb) 38 rfl)
  have E1 := Lib.hid (ExtR.of_ext (r := r) (E0.out.trans e1a))
  have B1 := Lib.hid (B0.out.ext e1a)
  have R1 := Lib.hid (HR0.out.ext (E0.out.trans e1a))
  have s1 : (w1.alloc (.cells #[.int .i64 c.head.kind, .int .i64 c.head.n, .string c.head.name, .slice ah c.head.kids.length ch, .slice ab c.body.length cb] 38)).heap.size = w1.heap.size + 1 := by simp
  have s01 := Below.size e1
  clear hhd hbd e1 e1a x0 x1 x2 x3 x4 A0 C0 B0 E0
  go_upto_region 2 with (fail)
  obtain ⟨w2, hw2⟩ : ∃ z, z = w1.alloc (.cells #[.int .i64 c.head.kind, .int .i64 c.head.n, .string c.head.name, .slice ah c.head.kids.length ch, .slice ab c.body.length cb] 38) := ⟨_, rfl⟩
  rw [← hw2] at H1 A1 C1 E1 B1 R1 s1 ⊢
  clear hw2
  obtain ⟨O, hO⟩ : ∃ O, O = w1.heap.size := ⟨_, rfl⟩
  rw [← hO] at A1 C1 s1 hm2 s01 ⊢
  clear hO
  have nO : O ≠ r := by omega
  have hOm : w.heap.size + 2 ≤ m := by omega
  go_wp2_with fail
  refine (rdpick r p 40 _ (by omega) (by decide) (by decide) R1.out).mono ?_
  rintro e w3 ⟨x, rfl, hx0, hx1, hr3, he3⟩
  have H := Lib.hid (Tm.at_mono (fun _ h => h) (he3.agree (S := fun k => w.heap.size + 2 ≤ k ∧ k < m) (by omega)) H1.out)
  have A := Lib.hid (A1.out.keep (M := fun k => k = r) (Fr.of_extR he3 rfl) (fun k _ h => by omega))
  have C := Lib.hid (C1.out.extR he3 nO)
  have E := Lib.hid (E1.out.trans he3)
  have B := Lib.hid (B1.out.extR he3 n1)
  have R := Lib.hid hr3
  have s3 := he3.1.size
  clear hr3 he3 H1 A1 C1 E1 B1 R1
  have lO := C.out.lt
  have lB := B.out.lt
  obtain rfl | rfl | rfl | rfl | hx : x = 0 ∨ x = 1 ∨ x = 2 ∨ x = 3 ∨ 4 ≤ x := by omega
  · go_wp2_with fail
    refine (specl1Some r (p + 1) _ (by omega) R.out).mono ?_
    rintro e w4 ⟨t4, v4, p4, rfl, hv4, _, hr4, hp4, he4⟩
    have V4 := Lib.hid hv4
    have R4 := Lib.hid hr4
    have E4 := Lib.hid he4
    have s4 := he4.1.size
    clear hr4 he4 hv4
    go_wp2_with fail
    refine (specl1Mutate r p4 t4 v4 _ w4 (by omega) R4.out V4.out).mono ?_
    rintro e w5 ⟨t5, v5, p5, rfl, hv5, _, hr5, hp5, he5⟩
    obtain ⟨a5, c5, rfl⟩ := at_form hv5
    have e35 := E4.out.trans he5
    have R5 := Lib.hid hr5
    have E5 := Lib.hid (E.out.trans e35)
    have B5 := Lib.hid (B.out.extR e35 n1)
    have C5 := Lib.hid (C.out.extR e35 nO)
    have A5 := Lib.hid (A.out.keep (M := fun k => k = r) (Fr.of_extR e35 rfl) (fun k _ h => by omega))
    have V5 := Lib.hid hv5
    have s5 := he5.1.size
    obtain ⟨q0, q1, q2, q3, q4, f0, f1, f2, f3, f4⟩ := C5.out
    obtain ⟨y0, y1, y2, y3, y4, g0, g1, g2, g3, g4⟩ := B5.out
    have l5 := C5.out.lt
    clear hr5 he5 hv5 e35 A B C H
    go_wp2_with fail
    have F5 := put4_frw (M := fun k => k = O) w5 (b := O) (.int .i64 t5.kind) (.int .i64 t5.n) (.string t5.name) (.slice a5 t5.kids.length c5) rfl
    refine ret5_set (p := 4) (T := 38) (b := w.heap.size + 1) (by kernel_rfl) (fun _ => by kernel_rfl) (fun _ => by kernel_rfl) rfl rfl (B5.out.fr F5 (by omega)) ?_
    intro X hX
    exact cl_end (c := ⟨t5, c.body⟩) (B := w.heap.size + 1) (by omega) hX (E5.out.fr F5 (fun k _ h => by omega)) HR0.out (Rd.fr HR0.out E5.out R5.out F5 (fun k _ h => by omega)) ⟨_, _, rfl, Tm.at_mono (fun b hb => ⟨by omega, by omega⟩) (F5.agree (fun k hk h => by omega)) V5.out, Tm.sl_mono (fun b hb => ⟨by omega, by omega⟩) (F5.agree (fun k hk h => hk.2 h)) (A5.out.sl (by have := HB.out; omega))⟩ (by omega) (by have := HB.out; show c.body.length ≤ K + 7; omega)
  · have hbl : c.body.length < 1048576 := by have := HB.out; omega
    obtain ⟨_, _, _, _, c4, _, _, _, _, f4⟩ := C.out
    go_wp2_with fail
    go_region_law (first
      | (go_simp; go_at_call 17; refine (specl1Some r (p + 1) _ (by omega) (by first | exact R.out | exact R.out.ext (Ext.drew _))).mono ?_; rintro e x1 ⟨t4, v4, p4, rfl, hv4, _, hr4, hp4, he4⟩; try replace he4 := (ExtR.of_ext (Ext.drew _)).trans he4; have V4 := Lib.hid hv4; have R4 := Lib.hid hr4; have E4 := Lib.hid he4; have s4 := he4.1.size; have y4 : O < x1.heap.size := (by omega); have u4 := he4.cell nO c4; have g4 := he4.frozen lO nO f4; clear hr4 he4 hv4; dsimp only)
      | (go_simp; go_at_call 16; refine (specl1Mutate r p4 t4 v4 _ x1 (by omega) R4.out V4.out).mono ?_; rintro e x2 ⟨t5, v5, p5, rfl, hv5, _, hr5, hp5, he5⟩; obtain ⟨a5, c5, rfl⟩ := at_form hv5; have V5 := Lib.hid hv5; have R5 := Lib.hid hr5; have E5 := Lib.hid (E4.out.trans he5); have s5 := he5.1.size; have y5 : O < x2.heap.size := (by omega); have u5 := he5.cell nO u4; have g5 := he5.frozen y4 nO g4; clear hr5 he5 hv5; dsimp only)
      | (refine step_append_tm rfl (.tmp 20) (.tmp 25) 24 rfl (fun k => m ≤ k ∧ k ≠ O) 26 i0 Tryz.underlying24 HI.out HZ.out HZ1.out HZ2.out (.slice ab c.body.length cb) c.body t5 a5 c5 rfl (A.out.keep (M := fun k => k = r) (Fr.of_extR E5.out rfl) (fun k _ h => by omega)) rfl (Tm.at_mono (fun k hk => ⟨⟨by omega, by omega⟩, fun h => by have := (A.out.keep (M := fun k => k = r) (Fr.of_extR E5.out rfl) (fun k _ h => by omega)); exact absurd (own_lt9 A.out h) (by omega)⟩) (Agree.refl _) V5.out) hbl (fun b hb => by omega) ?_; intro av2 cv2 x3 hA2 hf2; have A2 := Lib.hid hA2; have F2 := Lib.hid hf2; have s6 := hf2.size; have y6 : O < x3.heap.size := (by omega); have u6 := hf2.cell (fun h => h.2 rfl) u5; have g6 := hf2.frozen y5 (fun h => h.2 rfl) g5; clear hA2 hf2))
    all_goals
      have FF : ∀ u, Fr (fun k => m ≤ k) x2 (x3.setCell ⟨O, 4, none⟩ u) := fun u => (F2.out.mono (fun _ _ h => h.1)).trans (Fr.setCell _ (by omega))
      have CX := (((C.out.extR E5.out nO).fr F2.out (fun h => h.2 rfl)).setBody (.slice av2 (c.body.length + 1) cv2))
      have BX := (B.out.extR E5.out n1).fr (FF (.slice av2 (c.body.length + 1) cv2)) (by omega)
      have EX := (E.out.trans E5.out).fr (FF (.slice av2 (c.body.length + 1) cv2)) (fun k _ h => by omega)
      have RX := Rd.fr HR0.out (E.out.trans E5.out) R5.out (FF (.slice av2 (c.body.length + 1) cv2)) (fun k _ h => by omega)
      have HX := Tm.at_mono (fun _ h => h) ((E5.out.agree (S := fun k => w.heap.size + 2 ≤ k ∧ k < m) (by omega)).trans ((FF (.slice av2 (c.body.length + 1) cv2)).agree (fun k hk h => by omega))) H.out
      have hlen : (c.body ++ [t5]).length = c.body.length + 1 := by simp
      have AX := (A2.out.keep (M := fun k => k = O) (Fr.setCell (b := O) (i := 4) (u := .slice av2 (c.body.length + 1) cv2) x3 rfl) (fun k _ h hz => hz.2 h)).sl (by rw [hlen]; omega)
      obtain ⟨X9, hX9⟩ : ∃ z, z = x3.setCell ⟨O, 4, none⟩ (.slice av2 (c.body.length + 1) cv2) := ⟨_, rfl⟩
      rw [← hX9] at CX BX EX RX HX AX ⊢
      clear hX9 u4 u5 u6 g4 g5 g6 c4 f4
      have CX9 := Lib.hid CX
      have BX9 := Lib.hid BX
      have EX9 := Lib.hid EX
      have RX9 := Lib.hid RX
      have HX9 := Lib.hid HX
      have AX9 := Lib.hid AX
      obtain ⟨q0, q1, q2, q3, q4, _, _, _, _, _⟩ := CX
      obtain ⟨y0, y1, y2, y3, y7, g0, g1, g2, g3, g4⟩ := BX
      clear EX RX HX AX
      go_wp2_with fail
      refine ret5_set (p := 4) (T := 38) (b := w.heap.size + 1) (by kernel_rfl) (fun _ => by kernel_rfl) (fun _ => by kernel_rfl) rfl rfl BX9.out ?_
      intro X hX
      exact cl_end (c := ⟨c.head, c.body ++ [t5]⟩) (B := w.heap.size + 1) (by omega) hX EX9.out HR0.out RX9.out ⟨_, _, rfl, Tm.at_mono (fun b hb => ⟨by omega, by omega⟩) (Agree.refl _) HX9.out, by show Tm.sl _ _ (c.body ++ [t5]) _; exact Tm.sl_mono (fun b hb => ⟨by omega, by omega⟩) (Agree.refl _) AX9.out⟩ (by omega) (by have := HB.out; show (c.body ++ [t5]).length ≤ K + 7; rw [hlen]; omega)
  · go_wp2_with fail
    have B0' := Lib.hid B.out
    go_loopg [] (7 - c.body.length) (fun g wr => ∃ (us : List Tm) (av : Option Addr) (cv : Nat), g = 7 - us.length ∧ us.length ≤ K + 7 ∧ Hid (AppI 26 (fun k => m ≤ k ∧ k ≠ O) us (.slice av us.length cv) wr) ∧ Hid (Rd wr r (p + 1)) ∧ Hid (ExtR r w wr) ∧
        Hid (BoxC wr (w.heap.size + 1) (.int .i64 0) (.int .i64 0) (.string ⟨#[]⟩) (.slice none 0 0) (.slice none 0 0)) ∧ Hid (BoxC wr O (.int .i64 c.head.kind) (.int .i64 c.head.n) (.string c.head.name) (.slice ah c.head.kids.length ch) (.slice av us.length cv)) ∧
        Hid (Tm.at (fun k => w.heap.size + 2 ≤ k ∧ k < m) wr c.head (.agg #[.int .i64 c.head.kind, .int .i64 c.head.n, .string c.head.name, .slice ah c.head.kids.length ch])))
    case atStart => exact ⟨c.body, ab, cb, rfl, by have := HB.out; omega, A, R, E, B, C, H⟩
    case round =>
      clear A R E B C H B0'
      obtain ⟨us, av, cv, hg, hus, A, R, E, B, C, H⟩ := hrel
      have lO := C.out.lt
      have HG := Lib.hid hg
      have HUS := Lib.hid hus
      clear hg
      by_cases hlt : us.length ≤ 6
      · have hl1 : us.length < 1048576 := by omega
        obtain ⟨_, _, _, _, c4, _, _, _, _, f4⟩ := C.out
        clear hus
        go_wp2_with fail
        go_region_law (first
          | (go_simp; go_at_call 35; refine (specl1Struct0 ⟨#[116, 114, 117, 101]⟩ _ (by decide)).mono ?_; rintro e x1 ⟨v5, rfl, hv5, e5⟩; try replace e5 := Ext.undrew e5; obtain ⟨a5, c5, rfl⟩ := at_form (hv5 (fun _ => True)); have V5 := Lib.hid hv5; have E5 := Lib.hid e5; have s5 := Below.size e5; have y5 : O < x1.heap.size := (by omega); have u5 := e5.cell c4; have g5 := e5.frozen (a := ⟨O, 4, none⟩) (by show O < _; exact lO) f4; clear e5 hv5; dsimp only)
          | (refine step_append_tm rfl (.tmp 35) (.tmp 37) 24 rfl (fun k => m ≤ k ∧ k ≠ O) 26 i0 Tryz.underlying24 HI.out HZ.out HZ1.out HZ2.out (.slice av us.length cv) us (.mk 3 0 ⟨#[116, 114, 117, 101]⟩ []) a5 c5 rfl (A.out.ext E5.out) rfl (V5.out _) hl1 (fun b hb => by omega) ?_; intro av2 cv2 x3 hA2 hf2; have A2 := Lib.hid hA2; have F2 := Lib.hid hf2; have s6 := hf2.size; have y6 : O < x3.heap.size := (by omega); have u6 := hf2.cell (fun h => h.2 rfl) u5; have g6 := hf2.frozen y5 (fun h => h.2 rfl) g5; clear hA2 hf2))
        all_goals go_wp2_with fail
        all_goals
          have FF : ∀ u, Fr (fun k => m ≤ k) x1 (x3.setCell ⟨O, 4, none⟩ u) := fun u => (F2.out.mono (fun _ _ h => h.1)).trans (Fr.setCell _ (by omega))
          have hlen : (us ++ [Tm.mk 3 0 ⟨#[116, 114, 117, 101]⟩ []]).length = us.length + 1 := by simp
          go_roundg (7 - (us.length + 1))
          case rel =>
            refine ⟨us ++ [Tm.mk 3 0 ⟨#[116, 114, 117, 101]⟩ []], av2, cv2, by rw [hlen], by rw [hlen]; omega, Lib.hid ?_, Lib.hid ?_, Lib.hid ?_, Lib.hid ?_, Lib.hid ?_, Lib.hid ?_⟩
            · rw [hlen]
              exact A2.out.keep (M := fun k => k = O) (Fr.setCell _ rfl) (fun k _ h hz => hz.2 h)
            · exact Rd.fr HR0.out (E.out.trans (ExtR.of_ext E5.out)) (R.out.ext E5.out) (FF _) (fun k _ h => by omega)
            · exact (E.out.trans (ExtR.of_ext E5.out)).fr (FF _) (fun k _ h => by omega)
            · exact (B.out.ext E5.out).fr (FF _) (by omega)
            · rw [hlen]
              exact ((C.out.ext E5.out).fr F2.out (fun h => h.2 rfl)).setBody _
            · exact Tm.at_mono (fun _ h => h) ((Agree.of_ext E5.out).trans ((FF _).agree (fun k hk h => by omega))) H.out
          case measure => have := HG.out; omega
      · obtain ⟨q0, q1, q2, q3, q4, f0, f1, f2, f3, f4⟩ := C.out
        obtain ⟨y0, y1, y2, y3, y4, g0, g1, g2, g3, g4⟩ := B.out
        clear hus
        go_wp2_with fail
        refine ret5_set (p := 4) (T := 38) (b := w.heap.size + 1) (by kernel_rfl) (fun _ => by kernel_rfl) (fun _ => by kernel_rfl) rfl rfl B.out ?_
        intro X hX
        exact cl_end (c := ⟨c.head, us⟩) (B := w.heap.size + 1) (by omega) hX E.out HR0.out R.out ⟨_, _, rfl, Tm.at_mono (fun b hb => ⟨by omega, by omega⟩) (Agree.refl _) H.out, Tm.sl_mono (fun b hb => ⟨by omega, by omega⟩) (Agree.refl _) (A.out.sl (by have := HUS.out; omega))⟩ (by omega) (by exact HUS.out)
  · go_wp2_with fail
    refine (rdof_new [⟨#[116, 114, 117, 101]⟩, ⟨#[105, 115]⟩, ⟨#[61]⟩, ⟨#[109, 111, 100]⟩, ⟨#[113]⟩] 5 rfl rfl (by decide) (by decide) (by simp) (by omega) R.out (by simp)).mono ?_
    rintro e w5 ⟨y, rfl, hy, hr5, he5⟩
    have hys : y.size ≤ 1048576 := (show ∀ z ∈ ([⟨#[116, 114, 117, 101]⟩, ⟨#[105, 115]⟩, ⟨#[61]⟩, ⟨#[109, 111, 100]⟩, ⟨#[113]⟩] : List ByteArray), z.size ≤ 1048576 by decide) y hy
    have HYS := Lib.hid hys
    have R5 := Lib.hid hr5
    have E5 := Lib.hid (E.out.trans he5)
    have B5 := Lib.hid (B.out.extR he5 n1)
    have C5 := Lib.hid (C.out.extR he5 nO)
    have A5 := Lib.hid (A.out.keep (M := fun k => k = r) (Fr.of_extR he5 rfl) (fun k _ h => by omega))
    have H5 := Lib.hid (Tm.at_mono (fun _ h => h) (he5.agree (S := fun k => w.heap.size + 2 ≤ k ∧ k < m) (by omega)) H.out)
    obtain ⟨q0, q1, q2, q3, q4, f0, f1, f2, f3, f4⟩ := C5.out
    obtain ⟨y0, y1, y2, y3, y4, g0, g1, g2, g3, g4⟩ := B5.out
    have l5 := C5.out.lt
    clear hr5 he5 hy hys A B C H
    go_wp2_with fail
    have F5 : Fr (fun k => k = O) w5 (w5.setCell ⟨O, 2, none⟩ (.string y)) := Fr.setCell _ rfl
    have H6 : Tm.at (fun k => w.heap.size + 2 ≤ k ∧ k < m) w5 (.mk c.head.kind c.head.n y c.head.kids) (.agg #[.int .i64 c.head.kind, .int .i64 c.head.n, .string y, .slice ah c.head.kids.length ch]) := by
      obtain ⟨_, sv, he, hs⟩ := Tm.at_iff.1 H5.out
      have hsv : sv = .slice ah c.head.kids.length ch := by
        simp only [Value.agg.injEq] at he
        have := congrArg (fun x : Array Value => x[3]?) he
        simpa using this.symm
      subst hsv
      exact Tm.at_iff.2 ⟨HYS.out, _, rfl, hs⟩
    refine ret5_set (p := 4) (T := 38) (b := w.heap.size + 1) (by kernel_rfl) (fun _ => by kernel_rfl) (fun _ => by kernel_rfl) rfl rfl (B5.out.fr F5 (by omega)) ?_
    intro X hX
    exact cl_end (c := ⟨.mk c.head.kind c.head.n y c.head.kids, c.body⟩) (B := w.heap.size + 1) (by omega) hX (E5.out.fr F5 (fun k _ h => by omega)) HR0.out (Rd.fr HR0.out E5.out R5.out F5 (fun k _ h => by omega)) ⟨_, _, rfl, Tm.at_mono (fun b hb => ⟨by omega, by omega⟩) (F5.agree (fun k hk h => by omega)) H6, Tm.sl_mono (fun b hb => ⟨by omega, by omega⟩) (F5.agree (fun k hk h => hk.2 h)) (A5.out.sl (by have := HB.out; omega))⟩ (by omega) (by have := HB.out; show c.body.length ≤ K + 7; omega)
  · have h0 : (x == 0) = false := by simp; omega
    have h1 : (x == 1) = false := by simp; omega
    have h2 : (x == 2) = false := by simp; omega
    have h3 : (x == 3) = false := by simp; omega
    obtain ⟨q0, q1, q2, q3, q4, f0, f1, f2, f3, f4⟩ := C.out
    obtain ⟨y0, y1, y2, y3, y4, g0, g1, g2, g3, g4⟩ := B.out
    go_wp2_with fail
    refine ret5_set (p := 4) (T := 38) (b := w.heap.size + 1) (by kernel_rfl) (fun _ => by kernel_rfl) (fun _ => by kernel_rfl) rfl rfl B.out ?_
    intro X hX
    exact cl_end (c := c) (B := w.heap.size + 1) (by omega) hX E.out HR0.out R.out ⟨_, _, rfl, Tm.at_mono (fun b hb => ⟨by omega, by omega⟩) (Agree.refl _) H.out, Tm.sl_mono (fun b hb => ⟨by omega, by omega⟩) (Agree.refl _) (A.out.sl (by have := HB.out; omega))⟩ (by omega) (by have := HB.out; omega)
end Go.Proofs.YtognkaebiafgbaaGreat
