/-
  For every two codes FnEvalArith returns true: the value of a sum is the sum of the values, within the limits.
-/
import Derived.Test.YtagaciadcgijoaaRows
import Derived.Test.YtagaciadcgijoaaArithT
import Derived.Test.YtagaciadcgijoaaDrawA
import Derived.Test.YtagaciadcgijoaaBRep
import Derived.ProofKit
import Derived.OpenShut
import Derived.ShutString
namespace Go.Proofs.Ytagaciadcgijoaa.fnEvalArith
open Go.ChangeShapes Go.WideShapes Go.ChangeAt Go.RowKit
open Go.ChangeMaps (open_string shut_string)
set_option linter.unusedVariables false

theorem own : ownKnob Try.prog.godebug = none := by kernel_rfl
theorem laidOut : laidOutB Try.prog = true := by kernel_rfl

theorem plus_has : hasF opsA ⟨#[43]⟩ = true := by simp [hasF, opsA]
theorem rng_code (n : Int) (h : (rngI n).2 ≠ 0) : (rngI n).1 = 0 := by
  unfold rngI at h ⊢
  split
  · rename_i hh
    rw [if_pos hh] at h
    exact absurd rfl h
  · rfl
theorem op_code (s : List UInt8) (a b : Int) (h : (arOp s a b).2 ≠ 0) : (arOp s a b).1 = 0 := by
  unfold arOp at h ⊢
  split
  · rename_i e; rw [if_pos e] at h; exact rng_code _ h
  · rename_i e; rw [if_neg e] at h
    split
    · rename_i e; rw [if_pos e] at h; exact rng_code _ h
    · rename_i e; rw [if_neg e] at h
      split
      · rename_i e; rw [if_pos e] at h; exact rng_code _ h
      · rename_i e; rw [if_neg e] at h
        split
        · rfl
        · rename_i e; rw [if_neg e] at h
          split
          · rename_i e; rw [if_pos e] at h; exact absurd rfl h
          · rename_i e; rw [if_neg e] at h; exact absurd rfl h
theorem arC_code (k n : Int) (s : ByteArray) (ps : List (Int × Int)) (h : (arC k n s ps).2 ≠ 0) : (arC k n s ps).1 = 0 := by
  unfold arC at h ⊢
  split
  · rename_i e; rw [if_pos e] at h; exact absurd rfl h
  · rename_i e; rw [if_neg e] at h
    split
    · rfl
    · rename_i e; rw [if_neg e] at h
      split
      · rename_i e; rw [if_pos e] at h
        split
        · rename_i e; rw [if_pos e] at h
          split
          · rename_i e; rw [if_pos e] at h; exact op_code _ _ _ h
          · rfl
        · rfl
      · rfl
theorem ev_zero {t : Tm} {n k : Int} (h : evF t = (n, k)) (hk : k ≠ 0) : n = 0 := by
  unfold evF at h
  split at h
  · obtain ⟨k0, n0, s, ks⟩ := t
    simp only [arF] at h
    have := arC_code k0 n0 s (arL ks) (by rw [h]; exact hk)
    rw [h] at this
    exact this
  · have := congrArg Prod.fst h
    exact this.symm
theorem ev_valid {t : Tm} {n : Int} (h : evF t = (n, 0)) : validF t = true ∧ arF t = (n, 0) := by
  unfold evF at h
  split at h
  · rename_i hv
    exact ⟨hv, h⟩
  · simp at h
theorem ev_bd {t : Tm} {n : Int} (h : evF t = (n, 0)) : -999 ≤ n ∧ n ≤ 999 := by
  obtain ⟨h1, h2⟩ := ev_valid h
  have := ar_bd t 30 (valid_shape h1)
  rw [h2] at this
  exact this
theorem ev_two {s : ByteArray} {t u : Tm} {n m x c : Int} (hs : hasF opsA s = true) (ht : evF t = (n, 0)) (hu : evF u = (m, 0)) (h : evF (.mk 3 0 s [t, u]) = (x, c)) (hc : c ≠ 6) : (x, c) = arOp s.toList n m := by
  obtain ⟨_, h1⟩ := ev_valid ht
  obtain ⟨_, h2⟩ := ev_valid hu
  unfold evF at h
  split at h
  · rw [← h]
    simp [arF, arL, arC, h1, h2, hs]
  · simp at h; omega

set_option maxRecDepth 100000 in
set_option maxHeartbeats 8000000 in
theorem walk (v0 : Value) (v1 : Value) (w : World) (hv0 : BytesAt w v0) (hv1 : BytesAt w v1) :
    Calls Try.prog 4 #[v0, v1] w fun e w' => e = .returned (.bool true) ∧ Below w.heap.size w w' := by
  have HV := Lib.hid hv0
  have HM := Lib.hid hv1
  obtain ⟨a, len, cap, rfl, h1, h2, h3⟩ := hv0
  obtain ⟨ma, mlen, mcap, rfl, h1m, h2m, h3m⟩ := hv1
  clear h3 h3m
  by_cases hl : len ≤ 1048576
  · by_cases hml : mlen ≤ 1048576
    · go_enter Try.func4, Try.ntmps4
      go_wp2_with fail
      refine (drawEvalArith _ _ HV.out).mono ?_
      rintro e w1 ⟨t, v1, rfl, hv1, q⟩
      obtain ⟨aX, cX, rfl⟩ := at_form hv1
      have ea := Ext.alloc w1 (.cells #[.int .i64 t.kind, .int .i64 t.n, .string t.name, .slice aX t.kids.length cX] 25)
      have B := Lib.hid (q.trans ea)
      have X := Lib.hid (BoxT.new w1 (.int .i64 t.kind) (.int .i64 t.n) (.string t.name) (.slice aX t.kids.length cX) 25 rfl)
      have V := Lib.hid (Tm.at_ext ea hv1)
      clear q ea hv1
      obtain ⟨n, k, hP⟩ : ∃ n k, evF t = (n, k) := ⟨_, _, rfl⟩
      have HP := Lib.hid hP
      clear hP
      obtain ⟨kx0, kx1, kx2, kx3, _, _, _, _⟩ := X.out
      go_wp2_with fail
      refine (implEvalArith t _ _ _ V.out).mono ?_
      rw [HP.out]
      rintro e w2 ⟨rfl, q⟩
      clear kx0 kx1 kx2 kx3
      have B := Lib.hid (B.out.trans q)
      have X := Lib.hid (X.out.ext q)
      have V := Lib.hid (Tm.at_ext q V.out)
      clear q
      dsimp only
      obtain ⟨kx0, kx1, kx2, kx3, _, _, _, _⟩ := X.out
      go_wp2_with fail
      refine (specEvalArith t _ _ _ V.out).mono ?_
      rw [HP.out]
      rintro e w3 ⟨rfl, q⟩
      clear kx0 kx1 kx2 kx3
      have B := Lib.hid (B.out.trans q)
      have X := Lib.hid (X.out.ext q)
      have V := Lib.hid (Tm.at_ext q V.out)
      clear q
      dsimp only
      by_cases hk : k = 0
      · subst hk
        obtain ⟨hn1, hn2⟩ := ev_bd HP.out
        go_wp2_with fail
        refine (drawEvalArith _ _ (BytesAt.ext HM.out B.out)).mono ?_
        rintro e w4 ⟨u, v1, rfl, hv1, q⟩
        obtain ⟨aY, cY, rfl⟩ := at_form hv1
        have ea := Ext.alloc w4 (.cells #[.int .i64 u.kind, .int .i64 u.n, .string u.name, .slice aY u.kids.length cY] 25)
        replace q := q.trans ea
        have B := Lib.hid (B.out.trans q)
        have X := Lib.hid (X.out.ext q)
        have V := Lib.hid (Tm.at_ext q V.out)
        have Y := Lib.hid (BoxT.new w4 (.int .i64 u.kind) (.int .i64 u.n) (.string u.name) (.slice aY u.kids.length cY) 25 rfl)
        have U := Lib.hid (Tm.at_ext ea hv1)
        clear q ea hv1
        obtain ⟨m, j, hQ⟩ : ∃ n k, evF u = (n, k) := ⟨_, _, rfl⟩
        have HQ := Lib.hid hQ
        clear hQ
        obtain ⟨x, c, hR⟩ : ∃ n k, evF (.mk 3 0 ⟨#[43]⟩ [t, u]) = (n, k) := ⟨_, _, rfl⟩
        have HR := Lib.hid hR
        clear hR
        obtain ⟨ky0, ky1, ky2, ky3, _, _, _, _⟩ := Y.out
        obtain ⟨kx0, kx1, kx2, kx3, _, _, _, _⟩ := X.out
        go_wp2_with fail
        refine (implEvalArith u _ _ _ U.out).mono ?_
        rw [HQ.out]
        rintro e w5 ⟨rfl, q⟩
        clear ky0 ky1 ky2 ky3
        clear kx0 kx1 kx2 kx3
        have B := Lib.hid (B.out.trans q)
        have X := Lib.hid (X.out.ext q)
        have V := Lib.hid (Tm.at_ext q V.out)
        have Y := Lib.hid (Y.out.ext q)
        have U := Lib.hid (Tm.at_ext q U.out)
        clear q
        dsimp only
        obtain ⟨kx0, kx1, kx2, kx3, _, _, _, _⟩ := X.out
        obtain ⟨ky0, ky1, ky2, ky3, _, _, _, _⟩ := Y.out
        have lX := X.out.lt
        have lY := Y.out.lt
        go_wp2_with fail
        refine (implEvalArith (.mk 3 0 ⟨#[43]⟩ [t, u]) _ (fun b => True) _ (Tm.at_iff.2 ⟨by show (⟨#[43]⟩ : ByteArray).size ≤ 1048576; decide, _, rfl, Tm.sl_mono (fun _ _ => trivial) (Agree.refl _) (sl_new (S := fun _ => True) (xs := tcells t aX cX ++ (tcells u aY cY ++ [])) ⟨aX, cX, _, rfl, Tm.at_mono (fun _ _ => trivial) (Agree.refl _) V.out, aY, cY, _, rfl, Tm.at_mono (fun _ _ => trivial) (Agree.refl _) U.out, rfl⟩ rfl rfl (by show 2 ≤ 1048576; decide))⟩)).mono ?_
        rw [HR.out]
        rintro e w6 ⟨rfl, q⟩
        replace q := (Ext.alloc _ _).trans q
        clear lX lY
        clear kx0 kx1 kx2 kx3
        clear ky0 ky1 ky2 ky3
        have B := Lib.hid (B.out.trans q)
        have X := Lib.hid (X.out.ext q)
        have V := Lib.hid (Tm.at_ext q V.out)
        have Y := Lib.hid (Y.out.ext q)
        have U := Lib.hid (Tm.at_ext q U.out)
        clear q
        dsimp only
        by_cases hj : j = 0
        · subst hj
          by_cases hc : c = 6
          · subst hc
            go_wp2_with fail
            go_ret
            exact ⟨rfl, B.out⟩
          · have hf := ev_two plus_has HP.out HQ.out HR.out hc
            obtain ⟨hm1, hm2⟩ := ev_bd HQ.out
            have qc : (c == 6) = false := by simpa using hc
            have hf2 : (x, c) = rngI (n + m) := by rw [hf]; simp [arOp]
            clear hf hc HP HQ HR
            by_cases r1 : -999 ≤ n + m
            · by_cases r2 : n + m ≤ 999
              · have h : x = n + m ∧ c = 0 := by unfold rngI at hf2; rw [if_pos ⟨r1, r2⟩] at hf2; simpa using hf2
                obtain ⟨rfl, rfl⟩ := h
                clear hf2
                go_wp2_with fail
                go_ret
                exact ⟨by first | rfl | exact retB (by simp), B.out⟩
              · have h : x = 0 ∧ c = 5 := by unfold rngI at hf2; rw [if_neg (fun h => r2 h.2)] at hf2; simpa using hf2
                obtain ⟨rfl, rfl⟩ := h
                clear hf2
                have r3 : 999 < n + m := by omega
                go_wp2_with fail
                go_ret
                exact ⟨by first | rfl | exact retB (by simp; omega), B.out⟩
            · have h : x = 0 ∧ c = 5 := by unfold rngI at hf2; rw [if_neg (fun h => r1 h.1)] at hf2; simpa using hf2
              obtain ⟨rfl, rfl⟩ := h
              clear hf2
              have r3 : n + m < -999 := by omega
              have r4 : ¬ 999 < n + m := by omega
              go_wp2_with fail
              go_ret
              exact ⟨by first | rfl | exact retB (by simp; omega), B.out⟩
        · have qj : (j != 0) = true := by simpa using hj
          go_wp2_with fail
          go_ret
          exact ⟨by first | rfl | exact retB (by simp), B.out⟩
      · have qk : (k != 0) = true := by simpa using hk
        obtain rfl : n = 0 := ev_zero HP.out hk
        go_wp2_with fail
        go_ret
        exact ⟨by first | rfl | exact retB (by simp), B.out⟩
    · go_enter Try.func4, Try.ntmps4
      go_wp2_with fail
      go_ret
      exact ⟨rfl, Below.refl _ _⟩
  · go_enter Try.func4, Try.ntmps4
    go_wp2_with fail
    go_ret
    exact ⟨rfl, Below.refl _ _⟩


set_option maxRecDepth 100000 in
theorem lifted (os : Os) (started : os.Started) (H : Type) (enc : TypeId × Value → H) :
    ReturnsInHanded {} Try.checked os 4 .any (Rows.fnEvalArithSpec.pre6 enc Try.prog Try.f4 Rows.fnEvalArithRow.domain false) (Rows.fnEvalArithSpec.post enc Try.prog Try.f4 false true false false) := by
  refine returnsInHanded_of_change (C := Try.checked) own started (by kernel_rfl) Try.func4
    (ChangeSpec.witness6 (enc := enc) (C := Try.checked) false ⟨#[], #[.slice none 0 0, .slice none 0 0], []⟩ 8 (by kernel_rfl) (by kernel_rfl) (by kernel_rfl) (by kernel_rfl)) ?_
  intro W base args ds gs before hval0 hW hcnd _
  have hval : ∀ (j : Nat) t v, Try.f4.params[j]? = some t → args[j]? = some v → Value.okWide Try.prog W .any base t v := hval0
  have hW' := hW
  obtain ⟨p, q, hA0, hV, rfl, hfz, hnd⟩ := hW
  have hA : DataW.TrodAll enc Try.prog W 0 (fun _ => true) true Try.f4.params.toList args.toList ds p := hA0
  rw [Try.params4] at hA hval
  obtain ⟨v0, vs0, d0, ds0, p0, q0, hargs, rfl, rfl, h0, r0⟩ := trodAll_cons hA
  obtain ⟨v1, vs1, d1, ds1, p1, q1, rfl, rfl, rfl, h1, r1⟩ := trodAll_cons r0
  obtain ⟨rfl, rfl, rfl⟩ := trodAll_nil r1
  obtain rfl : args = #[v0, v1] := by cases args; simp_all
  obtain ⟨rfl, rfl⟩ := trodVars_none hV
  have k0 := h0
  have lt0 : ∀ x ∈ p0, x.block < W.heap.size := by obtain ⟨m, hm⟩ := k0; exact DataW.trod_lt m _ _ _ hm
  obtain ⟨a0, len0, cap0, rfl⟩ := okWide_slice Try.underlying22 (hval 0 22 v0 rfl rfl)
  have w0 := bytes_of_trod h0
  have k1 := h1
  have lt1 : ∀ x ∈ p1, x.block < W.heap.size := by obtain ⟨m, hm⟩ := k1; exact DataW.trod_lt m _ _ _ hm
  obtain ⟨a1, len1, cap1, rfl⟩ := okWide_slice Try.underlying22 (hval 1 22 v1 rfl rfl)
  have w1 := bytes_of_trod h1
  clear hA0 hval0 hval
  refine (walk _ _ W w0 w1).mono fun e W' ⟨he, bel⟩ => ?_
  subst he
  exact ⟨_, rfl, _, _, _, [], _, [], hW', trodAll_mk1 (shut_bool Try.underlying4 _), (trodAll_cons_mk (Below.trod laidOut (by kernel_rfl) (of_decide_eq_true (by kernel_rfl)) k0 bel lt0) (trodAll_cons_mk (Below.trod laidOut (by kernel_rfl) (of_decide_eq_true (by kernel_rfl)) k1 bel lt1) trodAll_mk0)), rfl, bel.frame _, fun h => by cases h⟩

set_option maxRecDepth 100000 in
theorem over : Rows.fnEvalArithRow.holds Try.pinned (OpenSpec.ofChange Rows.fnEvalArithSpec) :=
  OpenClaim.holds_of_wide 4 Try.f4 rfl rfl rfl rfl rfl rfl rfl ⟨rfl, rfl, rfl, rfl, rfl⟩ rfl rfl rfl rfl rfl (by kernel_rfl) Try.func4 (by kernel_rfl)
    (of_decide_eq_true (by kernel_rfl)) (by unfold Func.isWrapper; first | (rw [if_pos (by decide +kernel)]; kernel_rfl) | (rw [if_neg (by decide +kernel)]; exact ⟨rfl, rfl⟩))
    (fun os started H enc _ => lifted os started H enc)

/-- the statement -/
theorem proved : Rows.FnEvalArithSaid := over
end Go.Proofs.Ytagaciadcgijoaa.fnEvalArith
