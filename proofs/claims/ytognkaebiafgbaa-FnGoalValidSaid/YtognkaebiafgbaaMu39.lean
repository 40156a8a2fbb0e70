/-
  The reference's readers with operators: l2Items.
-/
import Derived.Test.YtognkaebiafgbaaMu38
namespace Go.Proofs.Ytognkaebiafgbaa
open Go.RowKit
set_option linter.unusedVariables false
noncomputable def itemsR (F e : Nat) (rest : List UInt8) : Option (Tm × List UInt8) :=
  match termsF F e 93 124 [] rest with
  | some (ks, c :: r') => if c = 93 then some (chainT ks (sT nilN []), r') else
      match rdF F e 3 r' with
      | some (tl, d :: r'') => if d = 93 then some (chainT ks tl, r'') else none
      | _ => none
  | _ => none
theorem terms_end : ∀ (F e : Nat) (x y : UInt8) (acc : List Tm) (rest : List UInt8) (ks : List Tm) (q : List UInt8), termsF F e x y acc rest = some (ks, q) → ∃ c r', q = c :: r' ∧ (c = x ∨ c = y)
  | 0, e, x, y, acc, rest, ks, q, h => by rw [termsF] at h; cases h
  | F + 1, e, x, y, acc, rest, ks, q, h => by
    rw [termsF] at h
    split at h
    · split at h
      · rename_i hc
        cases h
        exact ⟨_, _, rfl, hc⟩
      · split at h
        · exact terms_end F e x y _ _ ks q h
        · cases h
    · cases h
theorem SpTm.failI {s : ByteArray} {w Z : World} {e : Ending} {i : Int} (he : e = .returned (.tuple #[.agg #[.int .i64 0, .int .i64 0, .string ⟨#[]⟩, .slice none 0 0], .int .i64 i])) (hi : i < 0) (hi2 : -1048576 ≤ i) (hx : Ext w Z) : SpTm s none w e Z :=
  ⟨zTm, none, 0, i, he, at_zero _ _ _ _ _ (by decide), hx, AtR.no hi hi2, fun u r h => by cases h⟩
set_option maxRecDepth 100000 in
set_option maxHeartbeats 4000000 in
theorem specl2Items (F : Nat) (hT : TrC F) (hR : RdC F) (s : ByteArray) (rest : List UInt8) (i : Int) (e0 : Nat) (w : World) (hs : s.size ≤ 1000) (he : e0 ≤ 100) (hat : AtR s (some rest) i) (hF : 6 * rest.length + 5 ≤ F) :
    Calls Try.prog 69 #[.string s, .int .i64 i, .int .i64 e0] w (SpTm s (itemsR F e0 rest) w) := by
  have TC := Lib.hid (show Calls Try.prog 73 #[.string s, .int .i64 i, .int .i64 e0, .int .u8 93, .int .u8 124] (w.alloc (.cells #[.int .i64 0, .int .i64 0, .string ⟨#[]⟩, .slice none 0 0] 25)) (SpTms s (termsF F e0 93 124 [] rest) (w.alloc (.cells #[.int .i64 0, .int .i64 0, .string ⟨#[]⟩, .slice none 0 0] 25))) from hT s rest i e0 93 124 _ hs he hat hF)
  have HR := Lib.hid hR
  have hs' : s.size ≤ 1048576 := by omega
  have hrl := hat.len
  have hi0 : 0 ≤ i := by obtain ⟨n, rfl, _⟩ := hat.good; omega
  clear hT hR hat
  go_enter Try.func69, Try.ntmps69
  go_wp2_with fail
  refine TC.out.mono ?_
  rintro e w1 ⟨ts, av, cv, i1, rfl, hsl, e1, hat1, hX1⟩
  have E1 := Lib.hid ((Ext.alloc w (.cells #[.int .i64 0, .int .i64 0, .string ⟨#[]⟩, .slice none 0 0] 25)).trans e1)
  have Z1 := Lib.hid ((BoxT.new w (.int .i64 0) (.int .i64 0) (.string ⟨#[]⟩) (.slice none 0 0) 25 rfl).ext e1)
  have S1 := Lib.hid (Tm.sl_mono (S' := fun b => w.heap.size + 1 ≤ b) (fun b hb => by have hb' : _ ≤ b := hb; simp at hb'; omega) (Agree.refl _) hsl)
  have HAt1 := Lib.hid hat1
  have HX1 := Lib.hid hX1
  clear e1 hsl hat1 hX1
  cases ht : termsF F e0 93 124 [] rest with
  | none =>
    rw [ht] at HAt1
    have HNG := Lib.hid HAt1.out.bad
    have hneg := HNG.out.1
    have HXN := Lib.hid (show itemsR F e0 rest = none by unfold itemsR; rw [ht])
    have bz := Z1.out
    obtain ⟨z0, z1, z2, z3, y0, y1, y2, y3⟩ := bz
    have lz9 := Z1.out.lt
    clear ht
    go_wp2_with fail
    refine ret4b_set (p := 6) (q := 7) (T := 25) (b := w.heap.size) (v0 := .int .i64 0) (v1 := .int .i64 0) (v2 := .string ⟨#[]⟩) (v3 := .slice none 0 0) (y := .int .i64 (i1)) (by kernel_rfl) (fun _ => by kernel_rfl) (fun _ => by kernel_rfl) rfl rfl rfl Z1.out ?_
    intro Z fZ
    rw [HXN.out]
    exact SpTm.failI rfl HNG.out.1 HNG.out.2 (((Fr.of_ext E1.out).trans fZ).toExt (fun q hq h => by omega))
  | some p =>
    obtain ⟨ks, q⟩ := p
    have hks := HX1.out ks q ht
    subst hks
    obtain ⟨c, r', rfl, hc⟩ := terms_end _ _ _ _ _ _ _ _ ht
    rw [ht] at HAt1
    have hql := (sl_all F).2.2 _ _ _ _ _ _ _ ht
    simp only [List.length_cons] at hql
    have hlen := HAt1.out.len
    simp only [List.length_cons] at hlen
    have hpos : ¬ i1 < 0 := by obtain ⟨n, rfl, _⟩ := HAt1.out.good; omega
    have hi1 : i1 ≤ 1000 := by omega
    have HAn := Lib.hid (show AtR s (some r') (i1 + 1) from AtR.next (b := c) HAt1.out)
    have SG := fun w' => signX HAt1.out 93 93 rfl w' hs'
    by_cases h93 : c = 93
    · have hh : hdB (isB 93) ((some (ts, c :: r')).map Prod.snd) = true := by show decide (c = 93) = true; exact decide_eq_true h93
      have SG := Lib.hid (fun w' => hh ▸ SG w')
      have HXn := Lib.hid (show itemsR F e0 rest = some (chainT ts (sT nilN []), r') by unfold itemsR; rw [ht]; simp only [if_pos h93])
      clear ht hh h93 hc hql hlen
      go_wp2_with fail
      refine (SG.out w1).mono ?_
      rintro e w2 ⟨rfl, e2⟩
      have E2 := Lib.hid (E1.out.trans e2)
      have Z2 := Lib.hid (Z1.out.ext e2)
      have S2 := Lib.hid (Tm.sl_ext e2 S1.out)
      clear e2
      go_wp2_with fail
      refine (specl1Struct0 ⟨#[91, 93]⟩ w2 (by decide)).mono ?_
      rintro e w3 ⟨v3, rfl, hv3, e3⟩
      obtain ⟨a0, c0, hf0⟩ := at_form (hv3 (fun b => w.heap.size + 1 ≤ b))
      simp only [Tm.kind, Tm.n, Tm.name, Tm.kids, List.length_nil] at hf0
      have HN0 := Lib.hid (hv3 (fun b => w.heap.size + 1 ≤ b))
      subst hf0
      have E3 := Lib.hid (E2.out.trans e3)
      have Z3 := Lib.hid (Z2.out.ext e3)
      have S3 := Lib.hid (Tm.sl_ext e3 S2.out)
      clear hv3 e3
      have CH := Lib.hid (specl1Chain (tl := sT nilN []) S3.out HN0.out)
      go_wp2_with fail
      refine CH.out.mono ?_
      rintro e w9 ⟨a9, c9, rfl, h9, e9⟩
      have H9 := Lib.hid h9
      have E9 := Lib.hid (E3.out.trans e9)
      have s9 := Below.size e9
      have sk := Below.size E3.out
      have Z9 := Lib.hid (Z3.out.ext e9)
      have lzk := Z3.out.lt
      have bz := Z9.out
      obtain ⟨z0, z1, z2, z3, y0, y1, y2, y3⟩ := bz
      have lz9 := Z9.out.lt
      clear h9 e9
      go_wp2_with fail
      refine ret4b_set (p := 6) (q := 7) (T := 25) (b := w.heap.size) (y := .int .i64 (i1 + 1)) (by kernel_rfl) (fun _ => by kernel_rfl) (fun _ => by kernel_rfl) rfl rfl rfl Z9.out ?_
      intro Z fZ
      rw [HXn.out]
      have hz9 := fZ.at H9.out (fun b hb e => by rcases hb with hb | hb; (have hb' : w.heap.size + 1 ≤ b := hb; omega); (have hb' : w3.heap.size ≤ b := hb; omega))
      exact ⟨chainT ts (sT nilN []), a9, c9, i1 + 1, rfl, Tm.at_mono (fun b hb => by rcases hb with hb | hb; (have hb' : w.heap.size + 1 ≤ b := hb; show w.heap.size ≤ b; omega); (have hb' : w3.heap.size ≤ b := hb; show w.heap.size ≤ b; omega)) (Agree.refl _) hz9, ((Fr.of_ext E9.out).trans fZ).toExt (fun q hq h => by omega), HAn.out, fun u r h => by cases h; rfl⟩
    · have hh : hdB (isB 93) ((some (ts, c :: r')).map Prod.snd) = false := by show decide (c = 93) = false; exact decide_eq_false h93
      have SG := Lib.hid (fun w' => hh ▸ SG w')
      have HIT := Lib.hid (show itemsR F e0 rest = match rdF F e0 3 r' with | some (tl, d :: r'') => if d = 93 then some (chainT ts tl, r'') else none | _ => none by unfold itemsR; rw [ht]; simp only [if_neg h93])
      have RC := Lib.hid (fun w' => HR.out s r' (i1 + 1) e0 3 w' hs he (by omega) HAn.out (by omega))
      clear ht hh h93 hc
      go_wp2_with fail
      refine (SG.out w1).mono ?_
      rintro e w2 ⟨rfl, e2⟩
      have E2 := Lib.hid (E1.out.trans e2)
      have Z2 := Lib.hid (Z1.out.ext e2)
      have S2 := Lib.hid (Tm.sl_ext e2 S1.out)
      have hz2 := Below.size E2.out
      have lz2 := Z2.out.lt
      clear e2
      go_wp2_with fail
      refine (RC.out w2).mono ?_
      rintro e w3 ⟨tl, ta, tc, i2, rfl, hat2, e3, ha2, hX2⟩
      have E3 := Lib.hid (E2.out.trans (e3.trans (Ext.alloc w3 (.cells #[.int .i64 tl.kind, .int .i64 tl.n, .string tl.name, .slice ta tl.kids.length tc] 25))))
      have Z3 := Lib.hid ((Z2.out.ext e3).ext (Ext.alloc w3 (.cells #[.int .i64 tl.kind, .int .i64 tl.n, .string tl.name, .slice ta tl.kids.length tc] 25)))
      have S3 := Lib.hid (Tm.sl_ext (Ext.alloc w3 (.cells #[.int .i64 tl.kind, .int .i64 tl.n, .string tl.name, .slice ta tl.kids.length tc] 25)) (Tm.sl_ext e3 S2.out))
      have T3 := Lib.hid (Tm.at_ext (Ext.alloc w3 (.cells #[.int .i64 tl.kind, .int .i64 tl.n, .string tl.name, .slice ta tl.kids.length tc] 25)) (Tm.at_mono (S' := fun b => w.heap.size + 1 ≤ b) (fun b hb => by have hb' : w2.heap.size ≤ b := hb; omega) (Agree.refl _) hat2))
      have B3 := Lib.hid (BoxT.new w3 (.int .i64 tl.kind) (.int .i64 tl.n) (.string tl.name) (.slice ta tl.kids.length tc) 25 rfl)
      have HAt2 := Lib.hid ha2
      have HX2 := Lib.hid hX2
      have l2 := ha2.le hs'
      clear hat2 e3 ha2 hX2
      cases hr : rdF F e0 3 r' with
      | none =>
        rw [hr] at HAt2
        have HNG := Lib.hid HAt2.out.bad
        have hneg := HNG.out.1
        have HXN := Lib.hid (show itemsR F e0 rest = none by rw [HIT.out, hr])
        have bz := Z3.out
        obtain ⟨z0, z1, z2, z3, y0, y1, y2, y3⟩ := bz
        have lz9 := Z3.out.lt
        clear hr
        go_upto_region 8 with (fail)
        obtain ⟨w4, hw4⟩ : ∃ z, z = w3.alloc (.cells #[.int .i64 tl.kind, .int .i64 tl.n, .string tl.name, .slice ta tl.kids.length tc] 25) := ⟨_, rfl⟩
        rw [← hw4] at E3 Z3 z0 z1 z2 z3 y0 y1 y2 y3 lz9 ⊢
        clear hw4 S3 T3 B3
        go_wp2_with fail
        refine ret4b_set (p := 6) (q := 7) (T := 25) (b := w.heap.size) (v0 := .int .i64 0) (v1 := .int .i64 0) (v2 := .string ⟨#[]⟩) (v3 := .slice none 0 0) (y := .int .i64 (i2)) (by kernel_rfl) (fun _ => by kernel_rfl) (fun _ => by kernel_rfl) rfl rfl rfl Z3.out ?_
        intro Z fZ
        rw [HXN.out]
        exact SpTm.failI rfl HNG.out.1 HNG.out.2 (((Fr.of_ext E3.out).trans fZ).toExt (fun q hq h => by omega))
      | some p =>
        obtain ⟨tl', q2⟩ := p
        have htl := HX2.out tl' q2 hr
        subst htl
        rw [hr] at HAt2
        have hpos2 : ¬ i2 < 0 := by obtain ⟨n, rfl, _⟩ := HAt2.out.good; omega
        have HI2 := Lib.hid (show 0 ≤ i2 ∧ i2 ≤ 1000 from ⟨by omega, by have := HAt2.out.len; omega⟩)
        have SG2 := fun w' => signX HAt2.out 93 93 rfl w' hs'
        go_upto_region 9 with (fail)
        obtain ⟨w4, hw4⟩ : ∃ z, z = w3.alloc (.cells #[.int .i64 tl.kind, .int .i64 tl.n, .string tl.name, .slice ta tl.kids.length tc] 25) := ⟨_, rfl⟩
        rw [← hw4] at E3 Z3 S3 T3 B3 ⊢
        clear hw4
        cases hd : hdB (isB 93) ((some (tl, q2)).map Prod.snd)
        · have SG2 := Lib.hid (fun w' => hd ▸ SG2 w')
          have HXN := Lib.hid (show itemsR F e0 rest = none by
            rw [HIT.out, hr]
            cases q2 with
            | nil => rfl
            | cons c q => simp only [if_neg (show ¬ c = 93 by simpa [hdB, isB] using hd)])
          have HNG := Lib.hid (show -1 - i2 < 0 ∧ -1048576 ≤ -1 - i2 by have := HI2.out; omega)
          clear hr hd
          go_wp2_with fail
          refine (SG2.out w4).mono ?_
          rintro e w5 ⟨rfl, e5⟩
          have E5 := Lib.hid (E3.out.trans e5)
          have Z5 := Lib.hid (Z3.out.ext e5)
          have FL := Lib.hid (specl2Fails i2 w5 (by have := HI2.out; omega) (by have := HI2.out; omega) s)
          clear e5
          go_wp2_with fail
          refine FL.out.mono ?_
          rintro e w6 ⟨rfl, e6⟩
          have E6 := Lib.hid (E5.out.trans e6)
          have Z6 := Lib.hid (Z5.out.ext e6)
          have bz := Z6.out
          obtain ⟨z0, z1, z2, z3, y0, y1, y2, y3⟩ := bz
          have lz9 := Z6.out.lt
          clear e6
          go_wp2_with fail
          refine ret4b_set (p := 6) (q := 7) (T := 25) (b := w.heap.size) (v0 := .int .i64 0) (v1 := .int .i64 0) (v2 := .string ⟨#[]⟩) (v3 := .slice none 0 0) (y := .int .i64 (-1 - i2)) (by kernel_rfl) (fun _ => by kernel_rfl) (fun _ => by kernel_rfl) rfl rfl rfl Z6.out ?_
          intro Z fZ
          rw [HXN.out]
          exact SpTm.failI rfl HNG.out.1 HNG.out.2 (((Fr.of_ext E6.out).trans fZ).toExt (fun q hq h => by omega))
        · have SG2 := Lib.hid (fun w' => hd ▸ SG2 w')
          obtain ⟨r'', hq2⟩ : ∃ r'', q2 = 93 :: r'' := by
            cases q2 with
            | nil => cases hd
            | cons c q => exact ⟨q, by rw [show c = 93 by simpa [hdB, isB] using hd]⟩
          have HXn := Lib.hid (show itemsR F e0 rest = some (chainT ts tl, r'') by rw [HIT.out, hr, hq2]; simp)
          have HAn2 := Lib.hid (show AtR s (some r'') (i2 + 1) from AtR.next (b := 93) (by have := HAt2.out; rw [hq2] at this; exact this))
          clear hr hd hq2
          go_wp2_with fail
          refine (SG2.out w4).mono ?_
          rintro e w5 ⟨rfl, e5⟩
          have E5 := Lib.hid (E3.out.trans e5)
          have Z5 := Lib.hid (Z3.out.ext e5)
          have S5 := Lib.hid (Tm.sl_ext e5 S3.out)
          have T5 := Lib.hid (Tm.at_ext e5 T3.out)
          have B5 := B3.out.ext e5
          obtain ⟨m0, m1, m2, m3, _⟩ := B5
          clear e5
          have CH := Lib.hid (specl1Chain (tl := tl) S5.out T5.out)
          go_wp2_with fail
          refine CH.out.mono ?_
          rintro e w9 ⟨a9, c9, rfl, h9, e9⟩
          have H9 := Lib.hid h9
          have E9 := Lib.hid (E5.out.trans e9)
          have s9 := Below.size e9
          have sk := Below.size E5.out
          have Z9 := Lib.hid (Z5.out.ext e9)
          have lzk := Z5.out.lt
          have bz := Z9.out
          obtain ⟨z0, z1, z2, z3, y0, y1, y2, y3⟩ := bz
          have lz9 := Z9.out.lt
          clear h9 e9
          go_wp2_with fail
          refine ret4b_set (p := 6) (q := 7) (T := 25) (b := w.heap.size) (y := .int .i64 (i2 + 1)) (by kernel_rfl) (fun _ => by kernel_rfl) (fun _ => by kernel_rfl) rfl rfl rfl Z9.out ?_
          intro Z fZ
          rw [HXn.out]
          have hz9 := fZ.at H9.out (fun b hb e => by rcases hb with hb | hb; (have hb' : w.heap.size + 1 ≤ b := hb; omega); (have hb' : w5.heap.size ≤ b := hb; omega))
          exact ⟨chainT ts (tl), a9, c9, i2 + 1, rfl, Tm.at_mono (fun b hb => by rcases hb with hb | hb; (have hb' : w.heap.size + 1 ≤ b := hb; show w.heap.size ≤ b; omega); (have hb' : w5.heap.size ≤ b := hb; show w.heap.size ≤ b; omega)) (Agree.refl _) hz9, ((Fr.of_ext E9.out).trans fZ).toExt (fun q hq h => by omega), HAn2.out, fun u r h => by cases h; rfl⟩
end Go.Proofs.Ytognkaebiafgbaa
