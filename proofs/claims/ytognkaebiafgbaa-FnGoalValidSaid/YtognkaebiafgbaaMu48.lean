/-
  The reference's draws of clauses.
-/
import Derived.Deep.CutBlock
import Derived.Test.YtognkaebiafgbaaMu47
namespace Go.Proofs.Ytognkaebiafgbaa
open Go.RowKit
set_option linter.unusedVariables false
theorem rdof_newd (ss : List ByteArray) {r p : Nat} {w : World} {T : Nat} {cs : Array Value} (n : Nat) (hn : ss.length = n) (hcs : cs = (ss.map Value.string).toArray) (hl : n ≤ 1048576) (hs : ∀ s ∈ ss, s.size ≤ 1048576) (h0 : ss ≠ []) (hp : p ≤ 1099511627776) (hr : Rd w r p) {b : Nat} (hb : b = w.heap.size) :
    Calls Try.prog 20 #[.pointer (some ⟨r, 0, none⟩), .slice (some ⟨b, 0, none⟩) n n] ((w.alloc (.cells cs T)).drew) (OfPost r p ss w) := by
  subst hb
  have hlt := hr.lt
  refine (rdof r p ss _ _ hp (hr.ext ((Ext.alloc _ _).trans (Ext.drew _))) h0 ?_ (StrsAt.ext (strs_at_new ss n hn w T cs hcs hl hs) (Ext.drew _))).mono ?_
  · rintro b o c l h
    simp at h; omega
  · rintro e w' ⟨s, h1, h2, h3, h4⟩
    exact ⟨s, h1, h2, h3, (ExtR.of_ext ((Ext.alloc _ _).trans (Ext.drew _))).trans h4⟩
def ClPost (r p C K : Nat) (w : World) (e : Ending) (w' : World) : Prop := ∃ c v P, e = .returned v ∧ c.body.length ≤ K ∧ Cl.at (fun b => w.heap.size ≤ b) w' c v ∧ Rd w' r P ∧ P ≤ p + C ∧ ExtR r w w'
theorem cl_end {B r p P q C K : Nat} {w wk X : World} {c : Cl} {v : Value} (hB : w.heap.size ≤ B) (hX : wk.grownBy X (some B)) (he : ExtR r w wk) (hr0 : Rd w r q) (hr : Rd wk r P)
    (hv : Cl.at (fun b => w.heap.size ≤ b ∧ b ≠ B) wk c v) (hp : P ≤ p + C) (hk : c.body.length ≤ K) : ClPost r p C K w (.returned v) X := by
  have hrk := hr0.lt
  have f : Fr (fun k => k = B) wk X := Fr.of_grown hX (fun k e => by cases e; rfl)
  exact ⟨c, v, P, rfl, hk, Cl.at_mono (fun b h => h.1) (f.agree (S := fun b => w.heap.size ≤ b ∧ b ≠ B) (fun k hk h => hk.2 h)) hv, Rd.fr hr0 he hr f (fun k _ h => by omega), hp, he.fr f (fun k _ h => by omega)⟩
theorem BoxC.extR {w w' : World} {r b : Nat} {v0 v1 v2 v3 v4 : Value} (h : BoxC w b v0 v1 v2 v3 v4) (e : ExtR r w w') (hb : b ≠ r) : BoxC w' b v0 v1 v2 v3 v4 := h.fr (M := fun k => k = r) (Fr.of_extR e rfl) hb
set_option maxRecDepth 100000 in
set_option maxHeartbeats 4000000 in
theorem specl4Clause (r p : Nat) (w : World) (hp : p + 100 ≤ 1099511627776) (hr : Rd w r p) : Calls Try.prog 13 #[.pointer (some ⟨r, 0, none⟩)] w (ClPost r p 100 6 w) := by
  have hrl := hr.lt
  have HR0 := Lib.hid hr
  have n0 : w.heap.size ≠ r := by omega
  obtain ⟨W0, hW0⟩ : ∃ z, z = w.alloc (.cells #[.int .i64 0, .int .i64 0, .string ⟨#[]⟩, .slice none 0 0, .slice none 0 0] 33) := ⟨_, rfl⟩
  have hE0 : Ext w W0 := by rw [hW0]; exact Ext.alloc _ _
  have hB0 : BoxCZ W0 w.heap.size := by rw [hW0]; exact BoxC.new _ _ _ _ _ _ 33 rfl
  have E0 := Lib.hid (ExtR.of_ext (r := r) hE0)
  have B0 := Lib.hid hB0
  have R0 := Lib.hid (hr.ext hE0)
  have s0 : W0.heap.size = w.heap.size + 1 := by rw [hW0]; simp
  obtain ⟨i0, hi, hz0, hz1, hz2⟩ := info_parts info_term3
  have HI := Lib.hid hi
  have HZ := Lib.hid hz0
  have HZ1 := Lib.hid hz1
  have HZ2 := Lib.hid hz2
  clear hi hz0 hz1 hz2 hr hE0 hB0
  go_enter Try.func13, Try.ntmps13
  go_upto_region 1 with (fail)
  rw [← hW0]
  clear hW0
  go_wp2_with fail
  refine (specl4Program r p _ (by omega) R0.out).mono ?_
  rintro e w1 ⟨cs, ap, cp, rfl, hP, hval, hne, hlen, hr1, he1⟩
  have P1 := Lib.hid hP
  have R1 := Lib.hid hr1
  have E1 := Lib.hid (E0.out.trans he1)
  have B1 := Lib.hid (B0.out.extR he1 n0)
  have hpos : 1 ≤ cs.length := List.length_pos_iff.2 hne
  have s1 := he1.1.size
  have HVAL := Lib.hid hval
  clear hP hr1 he1 hval hne
  go_wp2_with fail
  refine (rdpick r (p + 1) 4 _ (by omega) (by decide) (by decide) R1.out).mono ?_
  rintro e w2 ⟨x, rfl, hx0, hx1, hr2, he2⟩
  have P2 := Lib.hid (Cl.sl_mono (fun _ h => h) (he2.agree (S := fun b => W0.heap.size ≤ b) (by omega)) P1.out)
  have R2 := Lib.hid hr2
  have E2 := Lib.hid (E1.out.trans he2)
  have B2 := Lib.hid (B1.out.extR he2 n0)
  have s2 := he2.1.size
  clear hr2 he2
  by_cases hx : 0 < x
  · go_wp2_with fail
    refine (rdpick r (p + 1 + 1) cs.length _ (by omega) (by omega) (by omega) R2.out).mono ?_
    rintro e w3 ⟨y, rfl, hy0, hy1, hr3, he3⟩
    obtain ⟨k, rfl⟩ := Int.eq_ofNat_of_zero_le hy0
    have hk : k < cs.length := by omega
    have hP3 := Cl.sl_mono (fun _ h => h) (he3.agree (S := fun b => W0.heap.size ≤ b) (by omega)) P2.out
    have R3 := Lib.hid hr3
    have E3 := Lib.hid (E2.out.trans he3)
    have B3 := Lib.hid (B2.out.extR he3 n0)
    obtain ⟨_, _, hsl, _, _, _, h4⟩ := hP3
    simp only [Value.slice.injEq, true_and] at hsl
    obtain ⟨rfl, rfl⟩ := hsl
    obtain ⟨c, hc⟩ := cgetk hk
    obtain ⟨b, off, ak, ck, al, cl, rfl, k0, k1, k2, k3, k4, hat, hbd⟩ := Cl.get h4 hc (Ext.refl _)
    have V := Lib.hid (And.intro hat hbd)
    have HBL := Lib.hid ((cl_parts ((pr_mem HVAL.out).2 c (List.mem_of_getElem? hc))).2.1)
    obtain ⟨q0, q1, q2, q3, q4, f0, f1, f2, f3, f4⟩ := B3.out
    clear hr3 he3 h4 hc hat hbd
    go_wp2_with fail
    refine ret5_set (p := 2) (T := 33) (b := w.heap.size) (by kernel_rfl) (fun _ => by kernel_rfl) (fun _ => by kernel_rfl) rfl rfl B3.out ?_
    intro X hX
    exact cl_end (c := c) (Nat.le_refl _) hX E3.out HR0.out R3.out ⟨_, _, rfl, Tm.at_mono (fun b hb => ⟨by omega, by omega⟩) (Agree.refl _) V.out.1, Tm.sl_mono (fun b hb => ⟨by omega, by omega⟩) (Agree.refl _) V.out.2⟩ (by omega) HBL.out
  · go_wp2_with fail
    refine (rdof_new [⟨#[112]⟩, ⟨#[113]⟩, ⟨#[102, 111, 111]⟩] 3 rfl rfl (by decide) (by decide) (by simp) (by omega) R2.out (by simp)).mono ?_
    rintro e w3 ⟨nm, rfl, hnm, hr3, he3⟩
    have hnms : nm.size ≤ 1048576 := (show ∀ z ∈ ([⟨#[112]⟩, ⟨#[113]⟩, ⟨#[102, 111, 111]⟩] : List ByteArray), z.size ≤ 1048576 by decide) nm hnm
    have R3 := Lib.hid hr3
    have E3 := Lib.hid (E2.out.trans he3)
    have B3 := Lib.hid (B2.out.extR he3 n0)
    have s3 := he3.1.size
    clear hr3 he3 hnm
    go_wp2_with fail
    refine (specl1Draw 1 2 r (p + 1 + 1 + 1) _ (by omega) (by omega) (by omega) (by show p + 1 + 1 + 1 + 16 ≤ _; omega) R3.out).mono ?_
    rintro e w4 ⟨t1, v1, p1, rfl, hv1, _, hr4, hp1, he4⟩
    have hp1 : p1 ≤ p + 1 + 1 + 1 + 16 := hp1
    obtain ⟨a1, c1, rfl⟩ := at_form hv1
    have V1 := Lib.hid hv1
    have R4 := Lib.hid hr4
    have E4 := Lib.hid (E3.out.trans he4)
    have B4 := Lib.hid (B3.out.extR he4 n0)
    have s4 := he4.1.size
    clear hr4 he4 hv1
    go_wp2_with fail
    refine (specl1Struct nm [t1] hnms (by simp) _ (fun b => W0.heap.size ≤ b ∨ b = w4.heap.size) _ (sl_new (S := fun b => W0.heap.size ≤ b) (xs := tcells t1 a1 c1 ++ []) ⟨a1, c1, _, rfl, Tm.at_mono (fun b h => by omega) (Agree.refl _) V1.out, rfl⟩ rfl rfl (by simp))).mono ?_
    rintro e w5 ⟨v, rfl, hv, e5⟩
    obtain ⟨a5, c5, rfl⟩ := at_form hv
    have e45 := (Ext.alloc w4 _).trans e5
    have s5 := Below.size e45
    obtain ⟨hd, hhd⟩ : ∃ z, z = Tm.mk 3 0 nm [t1] := ⟨_, rfl⟩
    clear hnms
    rw [← hhd] at hv ⊢
    have hv9 : Tm.at (fun b => W0.heap.size ≤ b ∧ b < w5.heap.size) w5 hd (.agg #[.int .i64 hd.kind, .int .i64 hd.n, .string hd.name, .slice a5 hd.kids.length c5]) := Tm.at_mono (fun b h => by have h1 := h.1; have h2 := h.2; (try simp at h1); omega) (Agree.refl _) (Tm.at_bound hv)
    have R5 := Lib.hid (R4.out.ext e45)
    have E5 := Lib.hid (E4.out.trans (ExtR.of_ext e45))
    have B5 := Lib.hid (B4.out.ext e45)
    have HV9 := Lib.hid hv9
    have c6 := BoxC.new w5 (.int .i64 hd.kind) (.int .i64 hd.n) (.string hd.name) (.slice a5 hd.kids.length c5) (.slice none 0 0) 33 rfl
    have e6 := Ext.alloc w5 (.cells #[.int .i64 hd.kind, .int .i64 hd.n, .string hd.name, .slice a5 hd.kids.length c5, .slice none 0 0] 33)
    have s6 : (w5.alloc (.cells #[.int .i64 hd.kind, .int .i64 hd.n, .string hd.name, .slice a5 hd.kids.length c5, .slice none 0 0] 33)).heap.size = w5.heap.size + 1 := by simp
    have C6 := Lib.hid c6
    have E56 := Lib.hid e6
    clear hv hv9 e5 e45 V1 hhd c6 e6
    go_upto_region 5 with (fail)
    obtain ⟨w6, hw6⟩ : ∃ z, z = w5.alloc (.cells #[.int .i64 hd.kind, .int .i64 hd.n, .string hd.name, .slice a5 hd.kids.length c5, .slice none 0 0] 33) := ⟨_, rfl⟩
    rw [← hw6] at C6 E56 s6 ⊢
    clear hw6
    obtain ⟨O, hO⟩ : ∃ O, O = w5.heap.size := ⟨_, rfl⟩
    rw [← hO] at C6 s6 HV9 ⊢
    have H6 := Lib.hid (Tm.at_ext E56.out HV9.out)
    have R6 := Lib.hid (R5.out.ext E56.out)
    have E6 := Lib.hid (E5.out.trans (ExtR.of_ext E56.out))
    have B6 := Lib.hid (B5.out.ext E56.out)
    have nO : O ≠ r := by omega
    have hOw : W0.heap.size ≤ O := by omega
    clear hO HV9 E56 E5 B5 R5
    go_wp2_with fail
    refine (rdpick r p1 3 _ (by omega) (by decide) (by decide) R6.out).mono ?_
    rintro e w7 ⟨n, rfl, hn0, hn1, hr7, he7⟩
    obtain ⟨n, rfl⟩ := Int.eq_ofNat_of_zero_le hn0
    have R7 := Lib.hid hr7
    have E7 := Lib.hid (E6.out.trans he7)
    have B7 := Lib.hid (B6.out.extR he7 n0)
    have C7 := Lib.hid (C6.out.extR he7 nO)
    have H7 := Lib.hid (Tm.at_mono (fun _ h => h) (he7.agree (S := fun b => W0.heap.size ≤ b ∧ b < O) (by omega)) H6.out)
    have s7 := he7.1.size
    clear hr7 he7 C6 H6 E6 B6 R6 R4 E4 B4 R3 E3 B3 R2 E2 B2 P2 R1 E1 B1 P1
    go_wp2_with fail
    go_loopw [5] (fun i wr => ∃ (k : Nat) (ts : List Tm) (av : Option Addr) (cv P : Nat), ts.length + k ≤ 2 ∧ i = .int .i64 k ∧ Hid (AppI 25 (fun b => O + 1 ≤ b) ts (.slice av ts.length cv) wr) ∧ Hid (Rd wr r P) ∧ P + k * 33 ≤ p + 90 ∧ Hid (ExtR r w wr) ∧
        Hid (BoxC wr w.heap.size (.int .i64 0) (.int .i64 0) (.string ⟨#[]⟩) (.slice none 0 0) (.slice none 0 0)) ∧ Hid (BoxC wr O (.int .i64 hd.kind) (.int .i64 hd.n) (.string hd.name) (.slice a5 hd.kids.length c5) (.slice av ts.length cv)) ∧
        Hid (Tm.at (fun b => W0.heap.size ≤ b ∧ b < O) wr hd (.agg #[.int .i64 hd.kind, .int .i64 hd.n, .string hd.name, .slice a5 hd.kids.length c5]))) (fun i _ => (intOf i).toNat)
    case atStart => exact ⟨n, [], none, 0, _, by simp; omega, rfl, Lib.hid (AppI.nil _ _ _), R7, by omega, E7, B7, C7, H7⟩
    case round =>
      obtain ⟨k, ts, av, cv, P, hk, rfl, A, R, hP, E, B, C, H⟩ := hrel
      clear R7 E7 B7 C7 H7
      have szO := C.out.lt
      by_cases hk0 : k = 0
      · subst hk0
        obtain ⟨c0, c1, c2, c3, c4, _, _, _, _, _⟩ := C.out
        obtain ⟨q0, q1, q2, q3, q4, f0, f1, f2, f3, f4⟩ := B.out
        have hts : ts.length ≤ 1048576 := by omega
        have HTS := Lib.hid hts
        have HT6 := Lib.hid (show ts.length ≤ 6 by omega)
        clear hts
        go_wp2_with fail
        refine ret5_set (p := 2) (T := 33) (b := w.heap.size) (by kernel_rfl) (fun _ => by kernel_rfl) (fun _ => by kernel_rfl) rfl rfl B.out ?_
        intro X hX
        exact cl_end (c := ⟨hd, ts⟩) (Nat.le_refl _) hX E.out HR0.out R.out ⟨_, _, rfl, Tm.at_mono (fun b hb => ⟨by omega, by omega⟩) (Agree.refl _) H.out, Tm.sl_mono (fun b hb => ⟨by omega, by omega⟩) (Agree.refl _) (A.out.sl HTS.out)⟩ (by omega) HT6.out
      · have hpos : (0 : Int) < (k : Int) := by omega
        obtain ⟨_, _, _, _, c4, _, _, _, _, f4⟩ := C.out
        have hP2 : P + 33 ≤ p + 90 := by omega
        have HP := Lib.hid hP
        have hl1 : ts.length < 1048576 := by omega
        clear hP
        go_wp2_with fail
        go_region_law (first
          | (go_simp; go_at_call 20; refine (rdof_newd [⟨#[112]⟩, ⟨#[61]⟩, ⟨#[60]⟩, ⟨#[113]⟩] 4 rfl rfl (by decide) (by decide) (by simp) (by omega) R.out (by simp)).mono ?_; rintro e x1 ⟨y, rfl, hy, hr1, he1⟩; have hys : y.size ≤ 1048576 := (show ∀ z ∈ ([⟨#[112]⟩, ⟨#[61]⟩, ⟨#[60]⟩, ⟨#[113]⟩] : List ByteArray), z.size ≤ 1048576 by decide) y hy; have RA := Lib.hid hr1; have EA := Lib.hid he1; have z1 := he1.1.size; have y1 : O < x1.heap.size := (by omega); have u4 := he1.cell nO c4; have g4 := he1.frozen szO nO f4; clear hr1 he1 hy; dsimp only)
          | (go_simp; go_at_call 27; refine (specl1Draw 1 2 r q1 _ (by omega) (by omega) (by omega) (by show q1 + 16 ≤ _; omega) RB.out).mono ?_; rintro e x3 ⟨t3, v3, q2, rfl, hv3, _, hr3, hq2, he3⟩; have hq2 : q2 ≤ q1 + 16 := hq2; have V2 := Lib.hid (Tm.at_mono (fun _ h => h) (he3.agree (S := fun b => x1.heap.size ≤ b) (by omega)) V1.out); have V3 := Lib.hid hv3; have RC := Lib.hid hr3; have EC := Lib.hid he3; have z3 := he3.1.size; have y3 : O < x3.heap.size := (by omega); have u6 := he3.cell nO u5; have g6 := he3.frozen (by omega) nO g5; obtain ⟨a3, d3, rfl⟩ := at_form hv3; clear hr3 he3 hv3; dsimp only)
          | (go_simp; go_at_call 27; refine (specl1Draw 1 2 r (P + 1) _ (by omega) (by omega) (by omega) (by show P + 1 + 16 ≤ _; omega) RA.out).mono ?_; rintro e x2 ⟨t2, v2, q1, rfl, hv2, _, hr2, hq1, he2⟩; have hq1 : q1 ≤ P + 1 + 16 := hq1; have V1 := Lib.hid hv2; have RB := Lib.hid hr2; have EB := Lib.hid he2; have z2 := he2.1.size; have y2 : O < x2.heap.size := (by omega); have u5 := he2.cell nO u4; have g5 := he2.frozen (by omega) nO g4; obtain ⟨a2, d2, rfl⟩ := at_form hv2; clear hr2 he2 hv2; dsimp only)
          | (go_simp; go_at_call 26; refine (specl1Struct y [t2, t3] hys (by simp) _ (fun b => wr.heap.size ≤ b ∨ b = x3.heap.size) _ (sl_new (S := fun b => wr.heap.size ≤ b) (xs := tcells t2 a2 d2 ++ (tcells t3 a3 d3 ++ [])) ⟨a2, d2, _, rfl, Tm.at_mono (fun b h => by omega) (Agree.refl _) V2.out, a3, d3, _, rfl, Tm.at_mono (fun b h => by omega) (Agree.refl _) V3.out, rfl⟩ rfl rfl (by simp))).mono ?_; rintro e x4 ⟨v4, rfl, hv4, e4⟩; obtain ⟨a4, d4, rfl⟩ := at_form hv4; have e34 := (Ext.alloc x3 _).trans e4; have E4 := Lib.hid e34; have z4 := Below.size e34; have y4 : O < x4.heap.size := (by omega); have V4 := Lib.hid (Tm.at_mono (S' := fun b => wr.heap.size ≤ b) (fun b h => by have h1 := h; simp at h1; omega) (Agree.refl _) hv4); have u7 := e34.cell u6; have g7 := e34.frozen (a := ⟨O, 4, none⟩) (by show O < _; omega) g6; clear hv4 e4 e34; dsimp only)
          | (refine step_append_tm rfl (.tmp 33) (.tmp 43) 23 rfl (fun b => O + 1 ≤ b) 25 i0 Try.underlying23 HI.out HZ.out HZ1.out HZ2.out (.slice av ts.length cv) ts (.mk 3 0 y [t2, t3]) a4 d4 rfl (((A.out.keep (M := fun k => k = r) (Fr.of_extR ((EA.out.trans EB.out).trans EC.out) rfl) (fun k _ h => by omega))).ext E4.out) rfl (A.out.apart (fun b hb => by omega) V4.out) hl1 (fun b hb => by omega) ?_; intro av2 cv2 x5 hA2 hf2; have A2 := Lib.hid hA2; have F2 := Lib.hid hf2; have z5 := hf2.size; have y5 : O < x5.heap.size := (by omega); have u8 := hf2.cell (fun h => by omega) u7; have g8 := hf2.frozen (k := O) (by omega) (fun h => by omega) g7; clear hA2 hf2))
        all_goals go_wp2_with fail
        all_goals
          have EX : ExtR r wr x4 := ((EA.out.trans EB.out).trans EC.out).trans (ExtR.of_ext E4.out)
          have FF : ∀ u, Fr (fun b => O ≤ b) x4 (x5.setCell ⟨O, 4, none⟩ u) := fun u => (F2.out.mono (fun _ _ h => by omega)).trans (Fr.setCell _ (Nat.le_refl _))
          have hlen : (ts ++ [Tm.mk 3 0 y [t2, t3]]).length = ts.length + 1 := by simp
          have hmul : k * 33 = (k - 1) * 33 + 33 := by omega
          have hPP : q2 + (k - 1) * 33 ≤ p + 90 := by have := HP.out; omega
          go_roundw
          case rel =>
            refine ⟨k - 1, ts ++ [Tm.mk 3 0 y [t2, t3]], av2, cv2, q2, by rw [hlen]; omega, by congr 1; omega, Lib.hid ?_, Lib.hid ?_, hPP, Lib.hid ?_, Lib.hid ?_, Lib.hid ?_, Lib.hid ?_⟩
            · rw [hlen]
              exact A2.out.keep (M := fun k => k = O) (Fr.setCell _ rfl) (fun k _ h hz => by omega)
            · exact Rd.fr HR0.out (E.out.trans EX) (RC.out.ext E4.out) (FF _) (fun k _ h => by omega)
            · exact (E.out.trans EX).fr (FF _) (fun k _ h => by omega)
            · exact (B.out.extR EX n0).fr (FF _) (by omega)
            · rw [hlen]
              exact ((C.out.extR EX nO).fr F2.out (by omega)).setBody _
            · exact Tm.at_mono (fun _ h => h) ((EX.agree (S := fun b => W0.heap.size ≤ b ∧ b < O) (by omega)).trans ((FF _).agree (fun k hk h => by omega))) H.out
          case measure => simp [intOf]; omega
end Go.Proofs.Ytognkaebiafgbaa
