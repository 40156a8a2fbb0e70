/-
  The reference's unification: a term with what its variables stand for laid in (l3Full).
-/
import Derived.Test.YtdelhgodhkbjdaaMg41
import Derived.Test.YtdelhgodhkbjdaaMg18
import Derived.Test.YtdelhgodhkbjdaaMg28
import Derived.Test.YtdelhgodhkbjdaaMg19
namespace Go.Proofs.Ytdelhgodhkbjdaa
open Go.RowKit
set_option linter.unusedVariables false

/-- what l3Full leaves: the term and what is left of the room, or too little of it -/
def FullP (T : Tm) (r : Int) (w : World) (e : Ending) (w' : World) : Prop :=
  Ext w w' ∧ ∃ (T' : Tm) (l : Int) (a : Option Addr) (cc : Nat), e = .returned (.tuple #[.agg #[.int .i64 T'.kind, .int .i64 T'.n, .string T'.name, .slice a T'.kids.length cc], .int .i64 l]) ∧ Tm.own (fun b => w.heap.size ≤ b) w' T' (.slice a T'.kids.length cc) ∧
    -1 ≤ l ∧ l ≤ 120 ∧ (((Tm.sz T : Int) ≤ r ∧ T' = T ∧ l = r - (Tm.sz T : Int)) ∨ (r < (Tm.sz T : Int) ∧ l = -1))
def FullC (K : List Tm) (t T : Tm) : Prop := ∀ (v : Value) (S : Nat → Prop) (w : World) (kb kc dd : Nat) (r : Int), shapeF t dd = true → (∀ b, S b → b < w.heap.size) → Tm.at S w t v → Kn S w kb K → CapOk kc → VK K → -1 ≤ r → r ≤ 120 →
  Calls Try.prog 45 #[v, .slice (some ⟨kb, 0, none⟩) 26 kc, .int .i64 r] w (FullP T r w)

set_option maxRecDepth 100000 in
set_option maxHeartbeats 8000000 in
theorem specl3Full : ∀ (f : Nat) (K : List Tm) (t T : Tm), resF f K t = some T → FullC K t T := by
  intro f
  induction f with
  | zero => intro K t T h; unfold resF at h; simp at h
  | succ f ih =>
    intro K t T h v S w kb kc dd r hsh hB ht hk hc hv hr0 hr1
    obtain ⟨g, x, ks, e, hx, hks, rfl⟩ := resF_walk h
    cases e
    have HB := Lib.hid hB
    have HT := Lib.hid ht
    have HKN := Lib.hid hk
    have HV := Lib.hid hv
    have HX := Lib.hid hx
    have HC := Lib.hid hc
    obtain ⟨d', hsx⟩ := walk_shape hv hsh hx
    have SX := Lib.hid hsx
    have SH := Lib.hid hsh
    obtain ⟨hlen, hat0⟩ := resL_at hks
    have HKS := Lib.hid hat0
    have IH := Lib.hid ih
    have LKS : Hid (ks.length = x.kids.length) := Lib.hid hlen.symm
    have lkb := hk.lt
    obtain ⟨hc1, hc2⟩ := hc
    obtain ⟨i0, hi, hz0, hz1, hz2⟩ := info_parts info_term3
    have HI := Lib.hid hi
    have HZ := Lib.hid hz0
    have HZ1 := Lib.hid hz1
    have HZ2 := Lib.hid hz2
    obtain ⟨a, ca, rfl⟩ := at_form ht
    clear hB ht hk hv hx hsx hsh hlen hat0 ih h hks hi hz0 hz1 hz2
    go_enter Try.func45, Try.ntmps45
    go_upto_region 1 with (fail)
    obtain ⟨w2, hw2⟩ : ∃ z, z = (w.alloc (.cells #[.int .i64 t.kind, .int .i64 t.n, .string t.name, .slice a t.kids.length ca] 25)).alloc (.cells #[.int .i64 0, .int .i64 0, .string ⟨#[]⟩, .slice none 0 0] 25) := ⟨_, rfl⟩
    have E2 : Hid (Ext w w2) := Lib.hid (by rw [hw2]; exact (Ext.alloc _ _).trans (Ext.alloc _ _))
    have X2 : Hid (BoxT w2 w.heap.size (.int .i64 t.kind) (.int .i64 t.n) (.string t.name) (.slice a t.kids.length ca)) := Lib.hid (by rw [hw2]; exact (BoxT.new _ _ _ _ _ _ rfl).ext (Ext.alloc _ _))
    have R2 : Hid (BoxT w2 (w.heap.size + 1) (.int .i64 0) (.int .i64 0) (.string ⟨#[]⟩) (.slice none 0 0)) := Lib.hid (by rw [hw2]; exact BoxT.new _ _ _ _ _ _ (by simp))
    rw [← hw2]
    clear hw2
    have hx2 : w.heap.size < w2.heap.size := X2.out.lt
    have hr2 : w.heap.size + 1 < w2.heap.size := R2.out.lt
    by_cases h1 : r < 1
    · have HF : Hid (r < (Tm.sz (.mk x.kind x.n x.name ks) : Int)) := Lib.hid (by have := Tm.sz_pos (.mk x.kind x.n x.name ks); omega)
      obtain ⟨r0, r1, r2, r3, z0, z1, z2, z3⟩ := R2.out
      go_wp2_with fail
      refine ret4b_set (p := 6) (q := 7) (T := 25) (by kernel_rfl) (fun _ => by kernel_rfl) (fun _ => by kernel_rfl) rfl rfl rfl R2.out ?_
      intro X f
      exact ⟨((Fr.of_ext E2.out).trans f).toExt (fun k hk h => by omega), .mk 0 0 ⟨#[]⟩ [], -1, none, 0, rfl, own_nil _ _ _ _ _ (by decide), by omega, by omega, .inr ⟨HF.out, rfl⟩⟩
    · have h1' : 1 ≤ r := by omega
      clear h1
      obtain ⟨x0, x1, x2, x3, _, _, _, _⟩ := X2.out
      go_wp2_with fail
      refine (specl3Walk _ _ _ _ HX.out _ S w2 kb kc _ HV.out SH.out (fun b hb => Nat.lt_of_lt_of_le (HB.out b hb) (Below.size E2.out)) (Tm.at_ext E2.out HT.out) (HKN.out.ext E2.out) HC.out).mono ?_
      rintro e w3 ⟨v3, rfl, hv3, e3⟩
      obtain ⟨px, pc, rfl⟩ := at_form hv3
      have E3 := Lib.hid (E2.out.trans e3)
      have X3 := Lib.hid (X2.out.ext e3)
      have R3 := Lib.hid (R2.out.ext e3)
      have AX3 := Lib.hid hv3
      have hr3 : w.heap.size + 1 < w3.heap.size := R3.out.lt
      clear e3 hv3 x0 x1 x2 x3
      obtain ⟨x0, x1, x2, x3, _, _, _, _⟩ := X3.out
      go_upto_region 4 with (fail)
      obtain ⟨w4, hw4⟩ : ∃ z, z = (((w3.setCell ⟨w.heap.size, 0, none⟩ (.int .i64 x.kind)).setCell ⟨w.heap.size, 1, none⟩ (.int .i64 x.n)).setCell ⟨w.heap.size, 2, none⟩ (.string x.name)).setCell ⟨w.heap.size, 3, none⟩ (.slice px x.kids.length pc) := ⟨_, rfl⟩
      have F4 : Hid (Fr (fun k => k = w.heap.size) w3 w4) := Lib.hid (by rw [hw4]; exact put4_frw w3 _ _ _ _ rfl)
      have X4 : Hid (BoxT w4 w.heap.size (.int .i64 x.kind) (.int .i64 x.n) (.string x.name) (.slice px x.kids.length pc)) := Lib.hid (by rw [hw4]; exact BoxT.put4w X3.out _ _ _ _)
      rw [← hw4]
      clear hw4 x0 x1 x2 x3
      have R4 := Lib.hid (R3.out.fr F4.out (by omega))
      have E4 := Lib.hid (((Fr.of_ext E3.out).trans F4.out).toExt (fun k hk h => by omega))
      have AX4 := Lib.hid (F4.out.at AX3.out (fun k hk h => by have := HB.out k hk; omega))
      have KN4 := Lib.hid (HKN.out.ext E4.out)
      obtain ⟨x0, x1, x2, x3, _, _, _, _⟩ := X4.out
      have hx4 : w.heap.size < w4.heap.size := X4.out.lt
      have hr4 : w.heap.size + 1 < w4.heap.size := R4.out.lt
      clear AX3 F4 X3 R3 X2 R2
      go_wp2_with fail
      go_loopw [9, 10] (fun q i wr => ∃ (j : Nat) (l : Int) (av : Option Addr) (cv : Nat) (ts : List Tm), j ≤ x.kids.length ∧ i = .int .i64 j ∧ q = .int .i64 l ∧ -1 ≤ l ∧ l ≤ 120 ∧ Hid (ts.length = j) ∧
          Hid ((l = r - 1 - (Tm.szL (ks.take j) : Int) ∧ ts = ks.take j ∧ 0 ≤ l) ∨ (l = -1 ∧ r < 1 + (Tm.szL ks : Int))) ∧
          Hid (BoxT wr w.heap.size (.int .i64 x.kind) (.int .i64 x.n) (.string x.name) (.slice px x.kids.length pc)) ∧
          Hid (KidO w4 w4.heap.size (w.heap.size + 1) (w4.heap.size + 1) ts (.int .i64 x.kind) (.int .i64 x.n) (.string x.name) av cv wr)) (fun _ i _ => x.kids.length - (intOf i).toNat)
      case atStart =>
        exact ⟨0, r - 1, none, 0, [], Nat.zero_le _, rfl, by first | rfl | go_num, by omega, by omega, Lib.hid rfl, Lib.hid (.inl ⟨by simp [Tm.szL], rfl, by omega⟩), Lib.hid (X4.out.ext (Ext.alloc _ _)), Lib.hid ⟨OwnS.nil _ _, Ext.alloc _ _, BoxT.new _ _ _ _ _ _ rfl, R4.out.ext (Ext.alloc _ _)⟩⟩
      case round =>
        obtain ⟨j, l, av, cv, ts, hj, rfl, rfl, hl0, hl1, HTL, HL, HXR, HK⟩ := hrel
        obtain ⟨p0, p1, p2, p3, _, _, _, _⟩ := HXR.out
        have lwr := Below.size HK.out.ext
        have lor : w4.heap.size < wr.heap.size := HK.out.box.lt
        by_cases hgo : j < x.kids.length ∧ 0 ≤ l
        · obtain ⟨hlt, hl⟩ := hgo
          have HL2 : Hid (l = r - 1 - (Tm.szL (ks.take j) : Int) ∧ ts = ks.take j) := Lib.hid (by
            rcases HL.out with h | h
            · exact ⟨h.1, h.2.1⟩
            · omega)
          obtain ⟨tk, htk⟩ := getk hlt
          obtain ⟨_, sv, esv, hsl⟩ := Tm.at_iff.1 (Tm.at_ext HK.out.ext AX4.out)
          simp only [Value.agg.injEq, Array.mk.injEq, List.cons.injEq, and_true, true_and] at esv
          subst esv
          obtain ⟨_, _, e8, hcx, _, hlx, r4⟩ := hsl
          cases e8
          obtain ⟨b6, off6, a1, c1, rfl, hSb, l1, l2, l3, l4, hat1⟩ := tget r4 htk
          obtain ⟨Tk, hTk, hres⟩ := HKS.out j tk htk
          have HTK := Lib.hid hTk
          have HRS := Lib.hid hres
          have V1 := Lib.hid hat1
          have SHK := Lib.hid (shapeL_mem (kids_shape SX.out) (List.mem_of_getElem? htk))
          have hl' : l < 120 := by have := HL2.out.1; omega
          clear r4 htk hat1 hTk hres
          go_wp2_with fail
          refine (IH.out K tk Tk HRS.out _ S wr kb kc _ l SHK.out (fun b hb => by have := HB.out b hb; have := Below.size E4.out; omega) V1.out (KN4.out.ext HK.out.ext) HC.out HV.out (by omega) (by omega)).mono ?_
          rintro e w6 ⟨e6, T', l', a2, c2, rfl, ho, hl0', hl1', hcase⟩
          have E6 := Lib.hid e6
          have HO := Lib.hid ho
          have HCASE := Lib.hid hcase
          have lw6 := Below.size e6
          clear e6 ho hcase p0 p1 p2 p3 l1 l2 l3 l4
          go_upto_region 10 with (fail)
          obtain ⟨w7, hw7⟩ : ∃ z, z = w6.alloc (.cells #[.int .i64 T'.kind, .int .i64 T'.n, .string T'.name, .slice a2 T'.kids.length c2] 25) := ⟨_, rfl⟩
          have E7 : Hid (Ext w6 w7) := Lib.hid (by rw [hw7]; exact Ext.alloc _ _)
          have Y7 : Hid (BoxT w7 w6.heap.size (.int .i64 T'.kind) (.int .i64 T'.n) (.string T'.name) (.slice a2 T'.kids.length c2)) := Lib.hid (by rw [hw7]; exact BoxT.new _ _ _ _ _ _ rfl)
          rw [← hw7]
          clear hw7
          have lw7 := Below.size E7.out
          have E67 := Lib.hid (E6.out.trans E7.out)
          have B7 := Lib.hid (HK.out.box.ext E67.out)
          have HO7 := Lib.hid (own_ext1 HO.out E7.out)
          have A7 := Lib.hid (HK.out.app.ext E67.out)
          obtain ⟨g0, g1, g2, g3, y0, y1, y2, y3⟩ := B7.out
          obtain ⟨t0, t1, t2, t3, _, _, _, _⟩ := Y7.out
          have ly7 := Y7.out.lt
          have lb7 : w4.heap.size < w7.heap.size := by omega
          have hls : ts.length < 1048576 := by have := HTL.out; omega
          have hzr : w4.heap.size + 1 ≤ wr.heap.size := by omega
          have hw07 : wr.heap.size ≤ w7.heap.size := by omega
          go_wp2_with (at_builtin; refine wpList_append_ow (w0 := wr) (w1 := w7) rfl (.tmp 51) (.tmp 53) 23 rfl (w4.heap.size + 1) i0 Try.underlying23 HI.out HZ.out HZ1.out HZ2.out (.slice av ts.length cv) ts T' a2 c2 rfl A7.out rfl HO7.out hw07 hzr hls rfl ?_; intro av2 cv2 w8 hA2 hf2; have K8 := Lib.hid (HK.out.next (by omega) (by omega) (by omega) (by omega) E67.out hA2 hf2); have X8 := Lib.hid (((HXR.out.ext E67.out).fr hf2 (by omega)).fr (M := fun k => k = w4.heap.size) (Fr.setCell (i := 3) (u := .slice av2 (ts.length + 1) cv2) w8 rfl) (by omega)); have g3 := hf2.cell (k := w4.heap.size) (by omega) g3; have y3 := hf2.frozen (k := w4.heap.size) (by omega) (by omega) y3; clear hA2 hf2)
          have hsz := szL_add HTK.out
          have hsz2 := szL_le2 ks (j + 1)
          refine ⟨⟨j + 1, l', av2, cv2, ts ++ [T'], by omega, by go_num, rfl, hl0', hl1', Lib.hid (by have := HTL.out; simp; omega), Lib.hid ?_, X8, K8⟩, by simp [intOf]; omega⟩
          rcases HCASE.out with ⟨h1, rfl, h3⟩ | ⟨h1, h2⟩
          · have := HL2.out
            refine .inl ⟨by omega, ?_, by omega⟩
            rw [this.2, take_snoc_of HTK.out]
          · have := HL2.out
            exact .inr ⟨h2, by omega⟩
        · have hgo2 : ¬ (j < x.kids.length) ∨ (j < x.kids.length ∧ l < 0) := by
            by_cases h : j < x.kids.length
            · exact .inr ⟨h, by omega⟩
            · exact .inl h
          have FIN : Hid (∀ X, Fr (fun k => k = w.heap.size + 1) wr X → ∀ e, e = Ending.returned (.tuple #[.agg #[.int .i64 x.kind, .int .i64 x.n, .string x.name, .slice av ts.length cv], .int .i64 l]) → FullP (.mk x.kind x.n x.name ks) r w e X) := Lib.hid (fun X f e he => by
            have hn := (at_small AX4.out)
            refine ⟨((Fr.of_ext (E4.out.trans HK.out.ext)).trans f).toExt (fun k hk h => by omega), .mk x.kind x.n x.name ts, l, av, cv, he, own_iff.2 ⟨hn.1, by simp only [Tm.kids]; have := HTL.out; omega, ?_⟩, hl0, hl1, ?_⟩
            · exact HK.out.app.mono (fun b hb => by have := Below.size E4.out; omega) f (fun b hb h => by omega)
            · simp only [Tm.sz]
              rcases HL.out with ⟨h1, h2, h3⟩ | ⟨h1, h2⟩
              · have hjl : j = x.kids.length := by
                  rcases hgo2 with h | h
                  · omega
                  · omega
                rw [List.take_of_length_le (by have := LKS.out; omega)] at h1 h2
                exact .inl ⟨by omega, by rw [h2], by omega⟩
              · exact .inr ⟨by omega, h1⟩)
          clear hgo
          obtain ⟨g0, g1, g2, g3, _, _, _, _⟩ := HK.out.box
          obtain ⟨r0, r1, r2, r3, z0, z1, z2, z3⟩ := HK.out.res
          have hr5 : w.heap.size + 1 < wr.heap.size := by omega
          rcases hgo2 with h | ⟨h, h2⟩
          all_goals
            go_wp2_with fail
            refine ret4b_set (p := 6) (q := 7) (T := 25) (by kernel_rfl) (fun _ => by kernel_rfl) (fun _ => by kernel_rfl) rfl rfl rfl HK.out.res ?_
            intro X f
            exact FIN.out X f _ rfl
end Go.Proofs.Ytdelhgodhkbjdaa

/-
  A new row of 26 terms.
-/
namespace Go.Proofs.Ytdelhgodhkbjdaa
open Go.RowKit
set_option linter.unusedVariables false

theorem bound2 {S S' : Nat → Prop} {w : World} {t : Tm} {v : Value} (h : Tm.at S w t v) : Tm.at (fun b => b < w.heap.size) w t v := Tm.at_mono (fun _ h => h.2) (Agree.refl _) (Tm.at_bound h)

def row26 : Array Value := ((List.replicate 26 [.int .i64 0, .int .i64 0, .string ⟨#[]⟩, .slice none 0 0]).flatten).toArray
theorem make26 (w : World) : (Instr.makeSlice 23 (.int .i64 26) (.int .i64 26)).run Try.prog w = .ok (.slice (some ⟨w.heap.size, 0, none⟩) 26 26) (w.alloc (.cells row26 25)) := by kernel_rfl
theorem rep_get (l : List Value) (hl : l.length = 4) : ∀ (n i j : Nat), i < n → j < 4 → ((List.replicate n l).flatten)[i * 4 + j]? = l[j]?
  | 0, _, _, h, _ => by omega
  | n + 1, 0, j, _, hj => by
    rw [List.replicate_succ, List.flatten_cons, List.getElem?_append_left (by omega)]
    simp
  | n + 1, i + 1, j, hi, hj => by
    rw [List.replicate_succ, List.flatten_cons, List.getElem?_append_right (by omega), hl]
    rw [show (i + 1) * 4 + j - 4 = i * 4 + j by omega]
    exact rep_get l hl n i j (by omega) hj
theorem Kn.made (S : Nat → Prop) (w : World) (T : Nat) (hS : ¬ S w.heap.size) : Kn S (w.alloc (.cells row26 T)) w.heap.size known0 := by
  refine ⟨hS, by simp [known0], fun i t ht => ?_⟩
  have hi : i < 26 := by have := (List.getElem?_eq_some_iff.1 ht).1; simpa [known0] using this
  have e : t = zeroT := by
    unfold known0 at ht
    rw [List.getElem?_replicate, if_pos hi] at ht
    exact (Option.some.inj ht).symm
  subst e
  have hc : ∀ j v, j < 4 → [Value.int .i64 0, .int .i64 0, .string ⟨#[]⟩, .slice none 0 0][j]? = some v → (w.alloc (.cells row26 T)).cell? ⟨w.heap.size, i * 4 + j, none⟩ = some v := by
    intro j v hj hv
    have h1 := rep_get [Value.int .i64 0, .int .i64 0, .string ⟨#[]⟩, .slice none 0 0] rfl 26 i j hi hj
    rw [hv] at h1
    have h2 := cell_new w row26 T (i * 4 + j) v (by unfold row26; rw [List.getElem?_toArray]; exact h1)
    rw [Nat.zero_add] at h2
    exact h2
  refine ⟨Tm.cells_iff.2 ⟨.slice none 0 0, hc 0 _ (by omega) rfl, hc 1 _ (by omega) rfl, hc 2 _ (by omega) rfl, hc 3 _ (by omega) rfl, by decide, none, 0, rfl, by decide, by decide, by decide, .inl rfl⟩, fun j hj => by go_simp⟩
end Go.Proofs.Ytdelhgodhkbjdaa
