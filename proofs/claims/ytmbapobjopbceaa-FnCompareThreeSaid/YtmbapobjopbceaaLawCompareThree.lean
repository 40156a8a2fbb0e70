/-
  For every two codes FnCompareThree returns true: the standard order is transitive.
-/
import Derived.Test.YtmbapobjopbceaaRows
import Derived.Test.YtmbapobjopbceaaCmpT
import Derived.Test.YtmbapobjopbceaaCmpP
import Derived.Test.YtmbapobjopbceaaDraws
import Derived.Test.YtmbapobjopbceaaSame2
import Derived.Test.YtmbapobjopbceaaBRep
import Derived.ProofKit
import Derived.OpenShut
import Derived.ShutString
namespace Go.Proofs.Ytmbapobjopbceaa.fnCompareThree
open Go.ChangeShapes Go.WideShapes Go.ChangeAt Go.RowKit
open Go.ChangeMaps (open_string shut_string)
set_option linter.unusedVariables false

theorem own : ownKnob Try.prog.godebug = none := by kernel_rfl
theorem laidOut : laidOutB Try.prog = true := by kernel_rfl

theorem ct_neg {t u : Tm} (ht : validF t = true) (hu : validF u = true) : ctF u t = - ctF t u := by
  unfold ctF
  rw [ht, hu]
  simp only [Bool.and_self, if_true]
  exact cmp_neg u t
theorem ct_same {t u : Tm} (ht : validF t = true) (hu : validF u = true) : (ctF t u == 0) = Tm.same t u := by
  unfold ctF
  rw [ht, hu]
  simp only [Bool.and_self, if_true]
  have h := cmp_same t u 30 30 (valid_shape ht) (valid_shape hu)
  cases hs : Tm.same t u
  · have : cmpF t u ≠ 0 := fun e => by rw [h.1 e] at hs; cases hs
    simpa using this
  · rw [h.2 hs]
    rfl
theorem ct_no1 {t u : Tm} (ht : validF t = false) : ctF t u = 0 := by unfold ctF; rw [ht]; simp
theorem ct_no2 {t u : Tm} (hu : validF u = false) : ctF t u = 0 := by unfold ctF; rw [hu]; simp
theorem ct_three {t u v : Tm} (ht : validF t = true) (hu : validF u = true) (hv : validF v = true) : P3 (ctF t u) (ctF u v) (ctF t v) := by
  unfold ctF
  rw [ht, hu, hv]
  simp only [Bool.and_self, if_true]
  exact cmp_three t u v

/-- the lesser one -/
def minI (a b : Int) : Int := if a < b then a else b
set_option maxHeartbeats 400000 in
theorem lawspgLeast (a b : Int) (w : World) : Calls Try.prog 22 #[.int .i64 a, .int .i64 b] w fun e w' => e = .returned (.int .i64 (minI a b)) ∧ Ext w w' := by
  by_cases h : a < b
  · go_enter Try.func22, Try.ntmps22
    go_wp2_with fail
    go_ret
    exact ⟨retI (by unfold minI; rw [if_pos (by omega)]), Ext.refl _⟩
  · go_enter Try.func22, Try.ntmps22
    go_wp2_with fail
    go_ret
    exact ⟨retI (by unfold minI; rw [if_neg (by omega)]), Ext.refl _⟩

set_option maxRecDepth 100000 in
set_option maxHeartbeats 8000000 in
theorem walk (v0 : Value) (v1 : Value) (w : World) (hv0 : BytesAt w v0) (hv1 : BytesAt w v1) :
    Calls Try.prog 5 #[v0, v1] w fun e w' => e = .returned (.bool true) ∧ Below w.heap.size w w' := by
  have HV := Lib.hid hv0
  have HM := Lib.hid hv1
  obtain ⟨a, len, cap, rfl, h1, h2, h3⟩ := hv0
  obtain ⟨ma, mlen, mcap, rfl, h1m, h2m, h3m⟩ := hv1
  clear h3 h3m
  by_cases hl : len ≤ 1048576
  · by_cases hml : mlen ≤ 1048576
    · go_enter Try.func5, Try.ntmps5
      go_wp2_with fail
      refine (drawCompareTerms _ _ HV.out).mono ?_
      rintro e w1 ⟨t, u, v1, v2, rfl, hv1, hv2, q⟩
      obtain ⟨a1, c1, rfl⟩ := at_form hv1
      obtain ⟨a2, c2, rfl⟩ := at_form hv2
      have ea := (Ext.alloc w1 (.cells #[.int .i64 t.kind, .int .i64 t.n, .string t.name, .slice a1 t.kids.length c1] 29)).trans (Ext.alloc _ (.cells #[.int .i64 u.kind, .int .i64 u.n, .string u.name, .slice a2 u.kids.length c2] 29))
      have B := Lib.hid (q.trans ea)
      have X := Lib.hid ((BoxT.new w1 (.int .i64 t.kind) (.int .i64 t.n) (.string t.name) (.slice a1 t.kids.length c1) 29 rfl).ext (Ext.alloc _ (.cells #[.int .i64 u.kind, .int .i64 u.n, .string u.name, .slice a2 u.kids.length c2] 29)))
      have Y := Lib.hid (BoxT.new (w1.alloc (.cells #[.int .i64 t.kind, .int .i64 t.n, .string t.name, .slice a1 t.kids.length c1] 29)) (.int .i64 u.kind) (.int .i64 u.n) (.string u.name) (.slice a2 u.kids.length c2) 29 (b := w1.heap.size + 1) (by simp))
      have V := Lib.hid (Tm.at_ext ea hv1)
      have U := Lib.hid (Tm.at_ext ea hv2)
      clear q ea hv1 hv2
      go_wp2_with fail
      refine (drawCompareTerms _ _ (BytesAt.ext HM.out B.out)).mono ?_
      rintro e w2 ⟨r, s, v1, v2, rfl, hv1, hv2, q⟩
      obtain ⟨a1, c1, rfl⟩ := at_form hv1
      obtain ⟨a2, c2, rfl⟩ := at_form hv2
      have ea := (Ext.alloc w2 (.cells #[.int .i64 r.kind, .int .i64 r.n, .string r.name, .slice a1 r.kids.length c1] 29)).trans (Ext.alloc _ (.cells #[.int .i64 s.kind, .int .i64 s.n, .string s.name, .slice a2 s.kids.length c2] 29))
      replace q := q.trans ea
      have B := Lib.hid (B.out.trans q)
      have X := Lib.hid (X.out.ext q)
      have Y := Lib.hid (Y.out.ext q)
      have V := Lib.hid (Tm.at_ext q V.out)
      have U := Lib.hid (Tm.at_ext q U.out)
      have R := Lib.hid ((BoxT.new w2 (.int .i64 r.kind) (.int .i64 r.n) (.string r.name) (.slice a1 r.kids.length c1) 29 rfl).ext (Ext.alloc _ (.cells #[.int .i64 s.kind, .int .i64 s.n, .string s.name, .slice a2 s.kids.length c2] 29)))
      have S := Lib.hid (BoxT.new (w2.alloc (.cells #[.int .i64 r.kind, .int .i64 r.n, .string r.name, .slice a1 r.kids.length c1] 29)) (.int .i64 s.kind) (.int .i64 s.n) (.string s.name) (.slice a2 s.kids.length c2) 29 (b := w2.heap.size + 1) (by simp))
      have VR := Lib.hid (Tm.at_ext ea hv1)
      have VS := Lib.hid (Tm.at_ext ea hv2)
      clear q ea hv1 hv2
      obtain ⟨kx0, kx1, kx2, kx3, _, _, _, _⟩ := X.out
      obtain ⟨ky0, ky1, ky2, ky3, _, _, _, _⟩ := Y.out
      go_wp2_with fail
      refine (implCompareTerms t u _ _ _ _ _ V.out U.out).mono ?_
      rintro e w3 ⟨rfl, q⟩
      clear kx0 kx1 kx2 kx3
      clear ky0 ky1 ky2 ky3
      have B := Lib.hid (B.out.trans q)
      have X := Lib.hid (X.out.ext q)
      have Y := Lib.hid (Y.out.ext q)
      have V := Lib.hid (Tm.at_ext q V.out)
      have U := Lib.hid (Tm.at_ext q U.out)
      have R := Lib.hid (R.out.ext q)
      have S := Lib.hid (S.out.ext q)
      have VR := Lib.hid (Tm.at_ext q VR.out)
      have VS := Lib.hid (Tm.at_ext q VS.out)
      clear q
      obtain ⟨kx0, kx1, kx2, kx3, _, _, _, _⟩ := X.out
      obtain ⟨ky0, ky1, ky2, ky3, _, _, _, _⟩ := Y.out
      go_wp2_with fail
      refine (specCompareTerms t u _ _ _ _ _ V.out U.out).mono ?_
      rintro e w4 ⟨rfl, q⟩
      clear kx0 kx1 kx2 kx3
      clear ky0 ky1 ky2 ky3
      have B := Lib.hid (B.out.trans q)
      have X := Lib.hid (X.out.ext q)
      have Y := Lib.hid (Y.out.ext q)
      have V := Lib.hid (Tm.at_ext q V.out)
      have U := Lib.hid (Tm.at_ext q U.out)
      have R := Lib.hid (R.out.ext q)
      have S := Lib.hid (S.out.ext q)
      have VR := Lib.hid (Tm.at_ext q VR.out)
      have VS := Lib.hid (Tm.at_ext q VS.out)
      clear q
      obtain ⟨x, hx⟩ : ∃ c, c = ctF t u := ⟨_, rfl⟩
      rw [← hx]
      have HX := Lib.hid hx
      clear hx
      cases hv : validF t
      · have Ht := Lib.hid hv
        clear hv
        obtain ⟨kx0, kx1, kx2, kx3, _, _, _, _⟩ := X.out
        obtain ⟨ky0, ky1, ky2, ky3, _, _, _, _⟩ := Y.out
        go_wp2_with fail
        refine (implTermValid t _ _ _ V.out).mono ?_
        rw [Ht.out]
        rintro e w5 ⟨rfl, q⟩
        clear kx0 kx1 kx2 kx3
        clear ky0 ky1 ky2 ky3
        have B := Lib.hid (B.out.trans q)
        have X := Lib.hid (X.out.ext q)
        have Y := Lib.hid (Y.out.ext q)
        have V := Lib.hid (Tm.at_ext q V.out)
        have U := Lib.hid (Tm.at_ext q U.out)
        have R := Lib.hid (R.out.ext q)
        have S := Lib.hid (S.out.ext q)
        have VR := Lib.hid (Tm.at_ext q VR.out)
        have VS := Lib.hid (Tm.at_ext q VS.out)
        clear q
        obtain ⟨kx0, kx1, kx2, kx3, _, _, _, _⟩ := X.out
        obtain ⟨ky0, ky1, ky2, ky3, _, _, _, _⟩ := Y.out
        go_wp2_with fail
        refine (specCompareTerms t u _ _ _ _ _ V.out U.out).mono ?_
        rw [← HX.out]
        rintro e w6 ⟨rfl, q⟩
        clear kx0 kx1 kx2 kx3
        clear ky0 ky1 ky2 ky3
        have B := Lib.hid (B.out.trans q)
        have X := Lib.hid (X.out.ext q)
        have Y := Lib.hid (Y.out.ext q)
        have V := Lib.hid (Tm.at_ext q V.out)
        have U := Lib.hid (Tm.at_ext q U.out)
        have R := Lib.hid (R.out.ext q)
        have S := Lib.hid (S.out.ext q)
        have VR := Lib.hid (Tm.at_ext q VR.out)
        have VS := Lib.hid (Tm.at_ext q VS.out)
        clear q
        go_wp2_with fail
        go_ret
        exact ⟨rfl, B.out⟩
      · have Ht := Lib.hid hv
        clear hv
        obtain ⟨kx0, kx1, kx2, kx3, _, _, _, _⟩ := X.out
        obtain ⟨ky0, ky1, ky2, ky3, _, _, _, _⟩ := Y.out
        go_wp2_with fail
        refine (implTermValid t _ _ _ V.out).mono ?_
        rw [Ht.out]
        rintro e w5 ⟨rfl, q⟩
        clear kx0 kx1 kx2 kx3
        clear ky0 ky1 ky2 ky3
        have B := Lib.hid (B.out.trans q)
        have X := Lib.hid (X.out.ext q)
        have Y := Lib.hid (Y.out.ext q)
        have V := Lib.hid (Tm.at_ext q V.out)
        have U := Lib.hid (Tm.at_ext q U.out)
        have R := Lib.hid (R.out.ext q)
        have S := Lib.hid (S.out.ext q)
        have VR := Lib.hid (Tm.at_ext q VR.out)
        have VS := Lib.hid (Tm.at_ext q VS.out)
        clear q
        cases hv : validF u
        · have Hu := Lib.hid hv
          clear hv
          obtain ⟨kx0, kx1, kx2, kx3, _, _, _, _⟩ := X.out
          obtain ⟨ky0, ky1, ky2, ky3, _, _, _, _⟩ := Y.out
          go_wp2_with fail
          refine (implTermValid u _ _ _ U.out).mono ?_
          rw [Hu.out]
          rintro e w6 ⟨rfl, q⟩
          clear kx0 kx1 kx2 kx3
          clear ky0 ky1 ky2 ky3
          have B := Lib.hid (B.out.trans q)
          have X := Lib.hid (X.out.ext q)
          have Y := Lib.hid (Y.out.ext q)
          have V := Lib.hid (Tm.at_ext q V.out)
          have U := Lib.hid (Tm.at_ext q U.out)
          have R := Lib.hid (R.out.ext q)
          have S := Lib.hid (S.out.ext q)
          have VR := Lib.hid (Tm.at_ext q VR.out)
          have VS := Lib.hid (Tm.at_ext q VS.out)
          clear q
          obtain ⟨kx0, kx1, kx2, kx3, _, _, _, _⟩ := X.out
          obtain ⟨ky0, ky1, ky2, ky3, _, _, _, _⟩ := Y.out
          go_wp2_with fail
          refine (specCompareTerms t u _ _ _ _ _ V.out U.out).mono ?_
          rw [← HX.out]
          rintro e w7 ⟨rfl, q⟩
          clear kx0 kx1 kx2 kx3
          clear ky0 ky1 ky2 ky3
          have B := Lib.hid (B.out.trans q)
          have X := Lib.hid (X.out.ext q)
          have Y := Lib.hid (Y.out.ext q)
          have V := Lib.hid (Tm.at_ext q V.out)
          have U := Lib.hid (Tm.at_ext q U.out)
          have R := Lib.hid (R.out.ext q)
          have S := Lib.hid (S.out.ext q)
          have VR := Lib.hid (Tm.at_ext q VR.out)
          have VS := Lib.hid (Tm.at_ext q VS.out)
          clear q
          go_wp2_with fail
          go_ret
          exact ⟨rfl, B.out⟩
        · have Hu := Lib.hid hv
          clear hv
          obtain ⟨kx0, kx1, kx2, kx3, _, _, _, _⟩ := X.out
          obtain ⟨ky0, ky1, ky2, ky3, _, _, _, _⟩ := Y.out
          go_wp2_with fail
          refine (implTermValid u _ _ _ U.out).mono ?_
          rw [Hu.out]
          rintro e w6 ⟨rfl, q⟩
          clear kx0 kx1 kx2 kx3
          clear ky0 ky1 ky2 ky3
          have B := Lib.hid (B.out.trans q)
          have X := Lib.hid (X.out.ext q)
          have Y := Lib.hid (Y.out.ext q)
          have V := Lib.hid (Tm.at_ext q V.out)
          have U := Lib.hid (Tm.at_ext q U.out)
          have R := Lib.hid (R.out.ext q)
          have S := Lib.hid (S.out.ext q)
          have VR := Lib.hid (Tm.at_ext q VR.out)
          have VS := Lib.hid (Tm.at_ext q VS.out)
          clear q
          cases hv : validF r
          · have Hr := Lib.hid hv
            clear hv
            obtain ⟨kr0, kr1, kr2, kr3, _, _, _, _⟩ := R.out
            go_wp2_with fail
            refine (implTermValid r _ _ _ VR.out).mono ?_
            rw [Hr.out]
            rintro e w7 ⟨rfl, q⟩
            clear kr0 kr1 kr2 kr3
            have B := Lib.hid (B.out.trans q)
            have X := Lib.hid (X.out.ext q)
            have Y := Lib.hid (Y.out.ext q)
            have V := Lib.hid (Tm.at_ext q V.out)
            have U := Lib.hid (Tm.at_ext q U.out)
            have R := Lib.hid (R.out.ext q)
            have S := Lib.hid (S.out.ext q)
            have VR := Lib.hid (Tm.at_ext q VR.out)
            have VS := Lib.hid (Tm.at_ext q VS.out)
            clear q
            obtain ⟨kx0, kx1, kx2, kx3, _, _, _, _⟩ := X.out
            obtain ⟨ky0, ky1, ky2, ky3, _, _, _, _⟩ := Y.out
            go_wp2_with fail
            refine (specCompareTerms t u _ _ _ _ _ V.out U.out).mono ?_
            rw [← HX.out]
            rintro e w8 ⟨rfl, q⟩
            clear kx0 kx1 kx2 kx3
            clear ky0 ky1 ky2 ky3
            have B := Lib.hid (B.out.trans q)
            have X := Lib.hid (X.out.ext q)
            have Y := Lib.hid (Y.out.ext q)
            have V := Lib.hid (Tm.at_ext q V.out)
            have U := Lib.hid (Tm.at_ext q U.out)
            have R := Lib.hid (R.out.ext q)
            have S := Lib.hid (S.out.ext q)
            have VR := Lib.hid (Tm.at_ext q VR.out)
            have VS := Lib.hid (Tm.at_ext q VS.out)
            clear q
            go_wp2_with fail
            go_ret
            exact ⟨rfl, B.out⟩
          · have Hr := Lib.hid hv
            clear hv
            obtain ⟨kr0, kr1, kr2, kr3, _, _, _, _⟩ := R.out
            go_wp2_with fail
            refine (implTermValid r _ _ _ VR.out).mono ?_
            rw [Hr.out]
            rintro e w7 ⟨rfl, q⟩
            clear kr0 kr1 kr2 kr3
            have B := Lib.hid (B.out.trans q)
            have X := Lib.hid (X.out.ext q)
            have Y := Lib.hid (Y.out.ext q)
            have V := Lib.hid (Tm.at_ext q V.out)
            have U := Lib.hid (Tm.at_ext q U.out)
            have R := Lib.hid (R.out.ext q)
            have S := Lib.hid (S.out.ext q)
            have VR := Lib.hid (Tm.at_ext q VR.out)
            have VS := Lib.hid (Tm.at_ext q VS.out)
            clear q
            cases hv : validF s
            · have Hs := Lib.hid hv
              clear hv
              obtain ⟨ks0, ks1, ks2, ks3, _, _, _, _⟩ := S.out
              go_wp2_with fail
              refine (implTermValid s _ _ _ VS.out).mono ?_
              rw [Hs.out]
              rintro e w8 ⟨rfl, q⟩
              clear ks0 ks1 ks2 ks3
              have B := Lib.hid (B.out.trans q)
              have X := Lib.hid (X.out.ext q)
              have Y := Lib.hid (Y.out.ext q)
              have V := Lib.hid (Tm.at_ext q V.out)
              have U := Lib.hid (Tm.at_ext q U.out)
              have R := Lib.hid (R.out.ext q)
              have S := Lib.hid (S.out.ext q)
              have VR := Lib.hid (Tm.at_ext q VR.out)
              have VS := Lib.hid (Tm.at_ext q VS.out)
              clear q
              obtain ⟨kx0, kx1, kx2, kx3, _, _, _, _⟩ := X.out
              obtain ⟨ky0, ky1, ky2, ky3, _, _, _, _⟩ := Y.out
              go_wp2_with fail
              refine (specCompareTerms t u _ _ _ _ _ V.out U.out).mono ?_
              rw [← HX.out]
              rintro e w9 ⟨rfl, q⟩
              clear kx0 kx1 kx2 kx3
              clear ky0 ky1 ky2 ky3
              have B := Lib.hid (B.out.trans q)
              have X := Lib.hid (X.out.ext q)
              have Y := Lib.hid (Y.out.ext q)
              have V := Lib.hid (Tm.at_ext q V.out)
              have U := Lib.hid (Tm.at_ext q U.out)
              have R := Lib.hid (R.out.ext q)
              have S := Lib.hid (S.out.ext q)
              have VR := Lib.hid (Tm.at_ext q VR.out)
              have VS := Lib.hid (Tm.at_ext q VS.out)
              clear q
              go_wp2_with fail
              go_ret
              exact ⟨rfl, B.out⟩
            · have Hs := Lib.hid hv
              clear hv
              obtain ⟨ks0, ks1, ks2, ks3, _, _, _, _⟩ := S.out
              go_wp2_with fail
              refine (implTermValid s _ _ _ VS.out).mono ?_
              rw [Hs.out]
              rintro e w8 ⟨rfl, q⟩
              clear ks0 ks1 ks2 ks3
              have B := Lib.hid (B.out.trans q)
              have X := Lib.hid (X.out.ext q)
              have Y := Lib.hid (Y.out.ext q)
              have V := Lib.hid (Tm.at_ext q V.out)
              have U := Lib.hid (Tm.at_ext q U.out)
              have R := Lib.hid (R.out.ext q)
              have S := Lib.hid (S.out.ext q)
              have VR := Lib.hid (Tm.at_ext q VR.out)
              have VS := Lib.hid (Tm.at_ext q VS.out)
              clear q
              obtain ⟨ky0, ky1, ky2, ky3, _, _, _, _⟩ := Y.out
              obtain ⟨kr0, kr1, kr2, kr3, _, _, _, _⟩ := R.out
              go_wp2_with fail
              refine (implCompareTerms u r _ _ _ _ _ U.out VR.out).mono ?_
              rintro e w9 ⟨rfl, q⟩
              clear ky0 ky1 ky2 ky3
              clear kr0 kr1 kr2 kr3
              have B := Lib.hid (B.out.trans q)
              have X := Lib.hid (X.out.ext q)
              have Y := Lib.hid (Y.out.ext q)
              have V := Lib.hid (Tm.at_ext q V.out)
              have U := Lib.hid (Tm.at_ext q U.out)
              have R := Lib.hid (R.out.ext q)
              have S := Lib.hid (S.out.ext q)
              have VR := Lib.hid (Tm.at_ext q VR.out)
              have VS := Lib.hid (Tm.at_ext q VS.out)
              clear q
              obtain ⟨y, hy⟩ : ∃ c, c = ctF u r := ⟨_, rfl⟩
              rw [← hy]
              have HY := Lib.hid hy
              clear hy
              obtain ⟨kr0, kr1, kr2, kr3, _, _, _, _⟩ := R.out
              obtain ⟨ks0, ks1, ks2, ks3, _, _, _, _⟩ := S.out
              go_wp2_with fail
              refine (implCompareTerms r s _ _ _ _ _ VR.out VS.out).mono ?_
              rintro e w10 ⟨rfl, q⟩
              clear kr0 kr1 kr2 kr3
              clear ks0 ks1 ks2 ks3
              have B := Lib.hid (B.out.trans q)
              have X := Lib.hid (X.out.ext q)
              have Y := Lib.hid (Y.out.ext q)
              have V := Lib.hid (Tm.at_ext q V.out)
              have U := Lib.hid (Tm.at_ext q U.out)
              have R := Lib.hid (R.out.ext q)
              have S := Lib.hid (S.out.ext q)
              have VR := Lib.hid (Tm.at_ext q VR.out)
              have VS := Lib.hid (Tm.at_ext q VS.out)
              clear q
              obtain ⟨z, hz⟩ : ∃ c, c = ctF r s := ⟨_, rfl⟩
              rw [← hz]
              have HZ := Lib.hid hz
              clear hz
              have hbx : -1 ≤ x ∧ x ≤ 1 := by have := cmp_bd t u; rw [HX.out]; unfold ctF; split <;> omega
              obtain ⟨xl, xg⟩ := hbx
              have hby : -1 ≤ y ∧ y ≤ 1 := by have := cmp_bd u r; rw [HY.out]; unfold ctF; split <;> omega
              obtain ⟨yl, yg⟩ := hby
              have hbz : -1 ≤ z ∧ z ≤ 1 := by have := cmp_bd r s; rw [HZ.out]; unfold ctF; split <;> omega
              obtain ⟨zl, zg⟩ := hbz
              by_cases px : 0 < x <;> by_cases py : 0 < y <;> by_cases pz : 0 < z
              · have tok : True := trivial
                obtain ⟨kx0, kx1, kx2, kx3, _, _, _, _⟩ := X.out
                obtain ⟨ky0, ky1, ky2, ky3, _, _, _, _⟩ := Y.out
                obtain ⟨kr0, kr1, kr2, kr3, _, _, _, _⟩ := R.out
                obtain ⟨ks0, ks1, ks2, ks3, _, _, _, _⟩ := S.out
                go_wp2_with fail
                go_ret
                exact ⟨by first | rfl | exact retB (by simp), B.out⟩
              · have tok : True := trivial
                obtain ⟨kx0, kx1, kx2, kx3, _, _, _, _⟩ := X.out
                obtain ⟨ky0, ky1, ky2, ky3, _, _, _, _⟩ := Y.out
                obtain ⟨kr0, kr1, kr2, kr3, _, _, _, _⟩ := R.out
                obtain ⟨ks0, ks1, ks2, ks3, _, _, _, _⟩ := S.out
                go_wp2_with fail
                go_ret
                exact ⟨by first | rfl | exact retB (by simp), B.out⟩
              · have tok : True := trivial
                obtain ⟨kx0, kx1, kx2, kx3, _, _, _, _⟩ := X.out
                obtain ⟨ky0, ky1, ky2, ky3, _, _, _, _⟩ := Y.out
                obtain ⟨kr0, kr1, kr2, kr3, _, _, _, _⟩ := R.out
                obtain ⟨ks0, ks1, ks2, ks3, _, _, _, _⟩ := S.out
                go_wp2_with fail
                go_ret
                exact ⟨by first | rfl | exact retB (by simp), B.out⟩
              · have tok : True := trivial
                obtain ⟨ky0, ky1, ky2, ky3, _, _, _, _⟩ := Y.out
                obtain ⟨ks0, ks1, ks2, ks3, _, _, _, _⟩ := S.out
                go_wp2_with fail
                refine (implCompareTerms u s _ _ _ _ _ U.out VS.out).mono ?_
                rw [show ctF u s = minI y z by rw [HY.out, HZ.out]; exact (ct_three Hu.out Hr.out Hs.out).2.2 (by rw [← HY.out]; omega) (by rw [← HZ.out]; omega)]
                rintro e w11 ⟨rfl, q⟩
                clear ky0 ky1 ky2 ky3
                clear ks0 ks1 ks2 ks3
                have B := Lib.hid (B.out.trans q)
                have X := Lib.hid (X.out.ext q)
                have Y := Lib.hid (Y.out.ext q)
                have V := Lib.hid (Tm.at_ext q V.out)
                have U := Lib.hid (Tm.at_ext q U.out)
                have R := Lib.hid (R.out.ext q)
                have S := Lib.hid (S.out.ext q)
                have VR := Lib.hid (Tm.at_ext q VR.out)
                have VS := Lib.hid (Tm.at_ext q VS.out)
                clear q
                obtain ⟨ky0, ky1, ky2, ky3, _, _, _, _⟩ := Y.out
                obtain ⟨ks0, ks1, ks2, ks3, _, _, _, _⟩ := S.out
                go_wp2_with fail
                refine (lawspgLeast y z _).mono ?_
                rintro e w12 ⟨rfl, q⟩
                clear ky0 ky1 ky2 ky3
                clear ks0 ks1 ks2 ks3
                have B := Lib.hid (B.out.trans q)
                have X := Lib.hid (X.out.ext q)
                have Y := Lib.hid (Y.out.ext q)
                have V := Lib.hid (Tm.at_ext q V.out)
                have U := Lib.hid (Tm.at_ext q U.out)
                have R := Lib.hid (R.out.ext q)
                have S := Lib.hid (S.out.ext q)
                have VR := Lib.hid (Tm.at_ext q VR.out)
                have VS := Lib.hid (Tm.at_ext q VS.out)
                clear q
                obtain ⟨kx0, kx1, kx2, kx3, _, _, _, _⟩ := X.out
                obtain ⟨ky0, ky1, ky2, ky3, _, _, _, _⟩ := Y.out
                obtain ⟨kr0, kr1, kr2, kr3, _, _, _, _⟩ := R.out
                obtain ⟨ks0, ks1, ks2, ks3, _, _, _, _⟩ := S.out
                go_wp2_with fail
                go_ret
                exact ⟨by first | rfl | exact retB (by simp), B.out⟩
              · have tok : True := trivial
                obtain ⟨kx0, kx1, kx2, kx3, _, _, _, _⟩ := X.out
                obtain ⟨ky0, ky1, ky2, ky3, _, _, _, _⟩ := Y.out
                obtain ⟨kr0, kr1, kr2, kr3, _, _, _, _⟩ := R.out
                obtain ⟨ks0, ks1, ks2, ks3, _, _, _, _⟩ := S.out
                go_wp2_with fail
                go_ret
                exact ⟨by first | rfl | exact retB (by simp), B.out⟩
              · have tok : True := trivial
                obtain ⟨kx0, kx1, kx2, kx3, _, _, _, _⟩ := X.out
                obtain ⟨ky0, ky1, ky2, ky3, _, _, _, _⟩ := Y.out
                obtain ⟨kr0, kr1, kr2, kr3, _, _, _, _⟩ := R.out
                obtain ⟨ks0, ks1, ks2, ks3, _, _, _, _⟩ := S.out
                go_wp2_with fail
                go_ret
                exact ⟨by first | rfl | exact retB (by simp), B.out⟩
              · have tok : True := trivial
                obtain ⟨kx0, kx1, kx2, kx3, _, _, _, _⟩ := X.out
                obtain ⟨kr0, kr1, kr2, kr3, _, _, _, _⟩ := R.out
                obtain ⟨ky0, ky1, ky2, ky3, _, _, _, _⟩ := Y.out
                obtain ⟨ks0, ks1, ks2, ks3, _, _, _, _⟩ := S.out
                go_wp2_with fail
                refine (implCompareTerms t r _ _ _ _ _ V.out VR.out).mono ?_
                rw [show ctF t r = minI x y by rw [HX.out, HY.out]; exact (ct_three Ht.out Hu.out Hr.out).2.2 (by rw [← HX.out]; omega) (by rw [← HY.out]; omega)]
                rintro e w11 ⟨rfl, q⟩
                clear kx0 kx1 kx2 kx3
                clear kr0 kr1 kr2 kr3
                clear ky0 ky1 ky2 ky3
                clear ks0 ks1 ks2 ks3
                have B := Lib.hid (B.out.trans q)
                have X := Lib.hid (X.out.ext q)
                have Y := Lib.hid (Y.out.ext q)
                have V := Lib.hid (Tm.at_ext q V.out)
                have U := Lib.hid (Tm.at_ext q U.out)
                have R := Lib.hid (R.out.ext q)
                have S := Lib.hid (S.out.ext q)
                have VR := Lib.hid (Tm.at_ext q VR.out)
                have VS := Lib.hid (Tm.at_ext q VS.out)
                clear q
                obtain ⟨kx0, kx1, kx2, kx3, _, _, _, _⟩ := X.out
                obtain ⟨kr0, kr1, kr2, kr3, _, _, _, _⟩ := R.out
                obtain ⟨ky0, ky1, ky2, ky3, _, _, _, _⟩ := Y.out
                obtain ⟨ks0, ks1, ks2, ks3, _, _, _, _⟩ := S.out
                go_wp2_with fail
                refine (lawspgLeast x y _).mono ?_
                rintro e w12 ⟨rfl, q⟩
                clear kx0 kx1 kx2 kx3
                clear kr0 kr1 kr2 kr3
                clear ky0 ky1 ky2 ky3
                clear ks0 ks1 ks2 ks3
                have B := Lib.hid (B.out.trans q)
                have X := Lib.hid (X.out.ext q)
                have Y := Lib.hid (Y.out.ext q)
                have V := Lib.hid (Tm.at_ext q V.out)
                have U := Lib.hid (Tm.at_ext q U.out)
                have R := Lib.hid (R.out.ext q)
                have S := Lib.hid (S.out.ext q)
                have VR := Lib.hid (Tm.at_ext q VR.out)
                have VS := Lib.hid (Tm.at_ext q VS.out)
                clear q
                obtain ⟨kx0, kx1, kx2, kx3, _, _, _, _⟩ := X.out
                obtain ⟨ky0, ky1, ky2, ky3, _, _, _, _⟩ := Y.out
                obtain ⟨kr0, kr1, kr2, kr3, _, _, _, _⟩ := R.out
                obtain ⟨ks0, ks1, ks2, ks3, _, _, _, _⟩ := S.out
                go_wp2_with fail
                go_ret
                exact ⟨by first | rfl | exact retB (by simp), B.out⟩
              · have tok : True := trivial
                obtain ⟨kx0, kx1, kx2, kx3, _, _, _, _⟩ := X.out
                obtain ⟨kr0, kr1, kr2, kr3, _, _, _, _⟩ := R.out
                obtain ⟨ky0, ky1, ky2, ky3, _, _, _, _⟩ := Y.out
                obtain ⟨ks0, ks1, ks2, ks3, _, _, _, _⟩ := S.out
                go_wp2_with fail
                refine (implCompareTerms t r _ _ _ _ _ V.out VR.out).mono ?_
                rw [show ctF t r = minI x y by rw [HX.out, HY.out]; exact (ct_three Ht.out Hu.out Hr.out).2.2 (by rw [← HX.out]; omega) (by rw [← HY.out]; omega)]
                rintro e w11 ⟨rfl, q⟩
                clear kx0 kx1 kx2 kx3
                clear kr0 kr1 kr2 kr3
                clear ky0 ky1 ky2 ky3
                clear ks0 ks1 ks2 ks3
                have B := Lib.hid (B.out.trans q)
                have X := Lib.hid (X.out.ext q)
                have Y := Lib.hid (Y.out.ext q)
                have V := Lib.hid (Tm.at_ext q V.out)
                have U := Lib.hid (Tm.at_ext q U.out)
                have R := Lib.hid (R.out.ext q)
                have S := Lib.hid (S.out.ext q)
                have VR := Lib.hid (Tm.at_ext q VR.out)
                have VS := Lib.hid (Tm.at_ext q VS.out)
                clear q
                obtain ⟨kx0, kx1, kx2, kx3, _, _, _, _⟩ := X.out
                obtain ⟨kr0, kr1, kr2, kr3, _, _, _, _⟩ := R.out
                obtain ⟨ky0, ky1, ky2, ky3, _, _, _, _⟩ := Y.out
                obtain ⟨ks0, ks1, ks2, ks3, _, _, _, _⟩ := S.out
                go_wp2_with fail
                refine (lawspgLeast x y _).mono ?_
                rintro e w12 ⟨rfl, q⟩
                clear kx0 kx1 kx2 kx3
                clear kr0 kr1 kr2 kr3
                clear ky0 ky1 ky2 ky3
                clear ks0 ks1 ks2 ks3
                have B := Lib.hid (B.out.trans q)
                have X := Lib.hid (X.out.ext q)
                have Y := Lib.hid (Y.out.ext q)
                have V := Lib.hid (Tm.at_ext q V.out)
                have U := Lib.hid (Tm.at_ext q U.out)
                have R := Lib.hid (R.out.ext q)
                have S := Lib.hid (S.out.ext q)
                have VR := Lib.hid (Tm.at_ext q VR.out)
                have VS := Lib.hid (Tm.at_ext q VS.out)
                clear q
                obtain ⟨ky0, ky1, ky2, ky3, _, _, _, _⟩ := Y.out
                obtain ⟨ks0, ks1, ks2, ks3, _, _, _, _⟩ := S.out
                go_wp2_with fail
                refine (implCompareTerms u s _ _ _ _ _ U.out VS.out).mono ?_
                rw [show ctF u s = minI y z by rw [HY.out, HZ.out]; exact (ct_three Hu.out Hr.out Hs.out).2.2 (by rw [← HY.out]; omega) (by rw [← HZ.out]; omega)]
                rintro e w13 ⟨rfl, q⟩
                clear ky0 ky1 ky2 ky3
                clear ks0 ks1 ks2 ks3
                have B := Lib.hid (B.out.trans q)
                have X := Lib.hid (X.out.ext q)
                have Y := Lib.hid (Y.out.ext q)
                have V := Lib.hid (Tm.at_ext q V.out)
                have U := Lib.hid (Tm.at_ext q U.out)
                have R := Lib.hid (R.out.ext q)
                have S := Lib.hid (S.out.ext q)
                have VR := Lib.hid (Tm.at_ext q VR.out)
                have VS := Lib.hid (Tm.at_ext q VS.out)
                clear q
                obtain ⟨ky0, ky1, ky2, ky3, _, _, _, _⟩ := Y.out
                obtain ⟨ks0, ks1, ks2, ks3, _, _, _, _⟩ := S.out
                go_wp2_with fail
                refine (lawspgLeast y z _).mono ?_
                rintro e w14 ⟨rfl, q⟩
                clear ky0 ky1 ky2 ky3
                clear ks0 ks1 ks2 ks3
                have B := Lib.hid (B.out.trans q)
                have X := Lib.hid (X.out.ext q)
                have Y := Lib.hid (Y.out.ext q)
                have V := Lib.hid (Tm.at_ext q V.out)
                have U := Lib.hid (Tm.at_ext q U.out)
                have R := Lib.hid (R.out.ext q)
                have S := Lib.hid (S.out.ext q)
                have VR := Lib.hid (Tm.at_ext q VR.out)
                have VS := Lib.hid (Tm.at_ext q VS.out)
                clear q
                obtain ⟨kx0, kx1, kx2, kx3, _, _, _, _⟩ := X.out
                obtain ⟨ky0, ky1, ky2, ky3, _, _, _, _⟩ := Y.out
                obtain ⟨kr0, kr1, kr2, kr3, _, _, _, _⟩ := R.out
                obtain ⟨ks0, ks1, ks2, ks3, _, _, _, _⟩ := S.out
                go_wp2_with fail
                go_ret
                exact ⟨by first | rfl | exact retB (by simp), B.out⟩
    · go_enter Try.func5, Try.ntmps5
      go_wp2_with fail
      go_ret
      exact ⟨rfl, Below.refl _ _⟩
  · go_enter Try.func5, Try.ntmps5
    go_wp2_with fail
    go_ret
    exact ⟨rfl, Below.refl _ _⟩


set_option maxRecDepth 100000 in
theorem lifted (os : Os) (started : os.Started) (H : Type) (enc : TypeId × Value → H) :
    ReturnsInHanded {} Try.checked os 5 .any (Rows.fnCompareThreeSpec.pre6 enc Try.prog Try.f5 Rows.fnCompareThreeRow.domain false) (Rows.fnCompareThreeSpec.post enc Try.prog Try.f5 false true false false) := by
  refine returnsInHanded_of_change (C := Try.checked) own started (by kernel_rfl) Try.func5
    (ChangeSpec.witness6 (enc := enc) (C := Try.checked) false ⟨#[], #[.slice none 0 0, .slice none 0 0], []⟩ 8 (by kernel_rfl) (by kernel_rfl) (by kernel_rfl) (by kernel_rfl)) ?_
  intro W base args ds gs before hval0 hW hcnd _
  have hval : ∀ (j : Nat) t v, Try.f5.params[j]? = some t → args[j]? = some v → Value.okWide Try.prog W .any base t v := hval0
  have hW' := hW
  obtain ⟨p, q, hA0, hV, rfl, hfz, hnd⟩ := hW
  have hA : DataW.TrodAll enc Try.prog W 0 (fun _ => true) true Try.f5.params.toList args.toList ds p := hA0
  rw [Try.params5] at hA hval
  obtain ⟨v0, vs0, d0, ds0, p0, q0, hargs, rfl, rfl, h0, r0⟩ := trodAll_cons hA
  obtain ⟨v1, vs1, d1, ds1, p1, q1, rfl, rfl, rfl, h1, r1⟩ := trodAll_cons r0
  obtain ⟨rfl, rfl, rfl⟩ := trodAll_nil r1
  obtain rfl : args = #[v0, v1] := by cases args; simp_all
  obtain ⟨rfl, rfl⟩ := trodVars_none hV
  have k0 := h0
  have lt0 : ∀ x ∈ p0, x.block < W.heap.size := by obtain ⟨m, hm⟩ := k0; exact DataW.trod_lt m _ _ _ hm
  obtain ⟨a0, len0, cap0, rfl⟩ := okWide_slice Try.underlying33 (hval 0 33 v0 rfl rfl)
  have w0 := bytes_of_trod h0
  have k1 := h1
  have lt1 : ∀ x ∈ p1, x.block < W.heap.size := by obtain ⟨m, hm⟩ := k1; exact DataW.trod_lt m _ _ _ hm
  obtain ⟨a1, len1, cap1, rfl⟩ := okWide_slice Try.underlying33 (hval 1 33 v1 rfl rfl)
  have w1 := bytes_of_trod h1
  clear hA0 hval0 hval
  refine (walk _ _ W w0 w1).mono fun e W' ⟨he, bel⟩ => ?_
  subst he
  exact ⟨_, rfl, _, _, _, [], _, [], hW', trodAll_mk1 (shut_bool Try.underlying4 _), (trodAll_cons_mk (Below.trod laidOut (by kernel_rfl) (of_decide_eq_true (by kernel_rfl)) k0 bel lt0) (trodAll_cons_mk (Below.trod laidOut (by kernel_rfl) (of_decide_eq_true (by kernel_rfl)) k1 bel lt1) trodAll_mk0)), rfl, bel.frame _, fun h => by cases h⟩

set_option maxRecDepth 100000 in
theorem over : Rows.fnCompareThreeRow.holds Try.pinned (OpenSpec.ofChange Rows.fnCompareThreeSpec) :=
  OpenClaim.holds_of_wide 5 Try.f5 rfl rfl rfl rfl rfl rfl rfl ⟨rfl, rfl, rfl, rfl, rfl⟩ rfl rfl rfl rfl rfl (by kernel_rfl) Try.func5 (by kernel_rfl)
    (of_decide_eq_true (by kernel_rfl)) (by unfold Func.isWrapper; first | (rw [if_pos (by decide +kernel)]; kernel_rfl) | (rw [if_neg (by decide +kernel)]; exact ⟨rfl, rfl⟩))
    (fun os started H enc _ => lifted os started H enc)

/-- the statement -/
theorem proved : Rows.FnCompareThreeSaid := over
end Go.Proofs.Ytmbapobjopbceaa.fnCompareThree
