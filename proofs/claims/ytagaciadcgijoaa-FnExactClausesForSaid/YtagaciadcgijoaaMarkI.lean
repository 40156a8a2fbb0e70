/-
  A law's marks in a list of numbers; equality of lists of numbers.
-/
import Derived.Test.YtagaciadcgijoaaVars
namespace Go.Proofs.Ytagaciadcgijoaa
open Go.RowKit
set_option linter.unusedVariables false

/-- the marks from k on -/
def markZ : Nat → Nat → List Int
  | 0, _ => []
  | n + 1, k => (k : Int) :: markZ n (k + 1)
theorem markZ_len : ∀ (n k : Nat), (markZ n k).length = n
  | 0, _ => rfl
  | n + 1, k => by simp [markZ, markZ_len n]
theorem markZ_get : ∀ {n j k : Nat}, j < n → (markZ n k)[j]? = some ((k + j : Nat) : Int)
  | 0, _, _, h => by omega
  | n + 1, 0, k, _ => by simp [markZ]
  | n + 1, j + 1, k, h => by
    simp only [markZ, List.getElem?_cons_succ]
    rw [markZ_get (by omega)]
    congr 2
    omega
theorem markZ_set {zs : List Int} {j k : Nat} (h : j < zs.length) : (markZ j k ++ zs.drop j).set j ((k + j : Nat) : Int) = markZ (j + 1) k ++ zs.drop (j + 1) := by
  apply List.ext_getElem?
  intro i
  rw [List.getElem?_set]
  by_cases hi : i = j
  · subst hi
    rw [if_pos rfl, if_pos (by simp [markZ_len]; omega), List.getElem?_append_left (by simp [markZ_len]), markZ_get (by omega)]
  · rw [if_neg (fun e => hi e.symm)]
    rcases Nat.lt_or_gt_of_ne hi with hlt | hgt
    · rw [List.getElem?_append_left (by simp [markZ_len]; omega), List.getElem?_append_left (by simp [markZ_len]; omega), markZ_get hlt, markZ_get (by omega)]
    · rw [List.getElem?_append_right (by simp [markZ_len]; omega), List.getElem?_append_right (by simp [markZ_len]; omega), markZ_len, markZ_len, List.getElem?_drop, List.getElem?_drop]
      congr 1
      omega

theorem eqI_refl (zs : List Int) : eqI zs zs = true := by simp [eqI]
set_option maxRecDepth 100000 in
theorem lawsmarkIntS (zs : List Int) (v : Value) (F : Nat → Prop) (w : World) (k : Nat) (hk : k + zs.length < 9000000) (ho : IntI F zs v w) :
    Calls Try.prog 59 #[v, .int .i64 k] w fun e w' => e = .returned (.int .i64 (k + zs.length : Nat)) ∧ IntI F (markZ zs.length k) v w' ∧ Fr F w w' := by
  obtain ⟨a, cap, rfl⟩ := ho.form
  have hl := ho.2.2
  have HK := Lib.hid hk
  have HO := Lib.hid ho
  clear hk ho
  go_enter Try.func59, Try.ntmps59
  go_wp2_with fail
  go_loopw [1, 5] (fun q i wr => ∃ j : Nat, j ≤ zs.length ∧ i = .int .i64 j ∧ q = .int .i64 (k + j : Nat) ∧ Hid (IntI F (markZ j k ++ zs.drop j) (.slice a zs.length cap) wr) ∧ Hid (Fr F w wr)) (fun _ i _ => zs.length - (intOf i).toNat)
  case atStart => exact ⟨0, Nat.zero_le _, rfl, rfl, Lib.hid (by simpa [markZ] using HO.out), Lib.hid (Fr.refl _ _)⟩
  case round =>
    obtain ⟨j, hj, rfl, rfl, HI, HF⟩ := hrel
    have hlen : (markZ j k ++ zs.drop j).length = zs.length := by simp [markZ_len]; omega
    by_cases hlt : j < zs.length
    · have hI := HI.out
      obtain ⟨how, hFg, _⟩ := hI
      rw [hlen] at how
      obtain ⟨g, rfl⟩ : ∃ g, a = some ⟨g, 0, none⟩ := by
        rcases how.2 with ⟨h1, h2⟩ | ⟨g, cap, cur, h1, _⟩
        · omega
        · simp only [Value.slice.injEq] at h1
          exact ⟨g, h1.1⟩
      have o0 : ∃ u, wr.cell? ⟨g, j, none⟩ = some u := by
        have := how.cellAt j (by simp; omega)
        obtain ⟨x, hx⟩ : ∃ x, (List.map (Value.int IntKind.i64) (markZ j k ++ List.drop j zs))[j]? = some x := ⟨_, List.getElem?_eq_getElem (by simp [markZ_len]; omega)⟩
        exact ⟨x, by rw [this]; exact hx⟩
      obtain ⟨u, o0⟩ := o0
      have f0 := how.frozenAt j
      have hb : k + j ≤ 9223372036854775800 := by have := HK.out; omega
      have HOW := Lib.hid how
      have HFG := Lib.hid (hFg g rfl)
      have HLEN := Lib.hid hlen
      clear how hFg hlen
      go_wp2_with fail
      go_roundw
      case rel =>
        obtain ⟨r1, g1⟩ := HOW.out.stored j (.int .i64 (k + j : Nat))
        refine ⟨j + 1, by omega, by go_num, by go_num, Lib.hid ⟨?_, fun g' hg' => ?_, ?_⟩, Lib.hid (HF.out.trans (Fr.setCell _ HFG.out))⟩
        · have e1 : (markZ (j + 1) k ++ zs.drop (j + 1)).length = zs.length := by simp [markZ_len]; omega
          rw [e1, ← markZ_set hlt]
          simpa using r1
        · simp [Value.ownBlock] at hg'
          subst hg'
          exact HFG.out
        · simp [markZ_len]; omega
      case measure => simp [intOf]; omega
    · obtain rfl : j = zs.length := by omega
      have hs := HI.out
      simp only [List.drop_length, List.append_nil] at hs
      have HS := Lib.hid hs
      clear hs hlen
      go_wp2_with fail
      go_ret
      exact ⟨rfl, HS.out, HF.out⟩

set_option maxRecDepth 100000 in
theorem lawsheldIntS (n : Nat) (v : Value) (w : World) (k : Nat) (hk : k + n < 9000000) (ho : IntsAt w (markZ n k) v) :
    Calls Try.prog 60 #[v, .int .i64 k] w fun e w' => e = .returned (.int .i64 (k + n : Nat)) ∧ Ext w w' := by
  obtain ⟨a, cap, rfl, h1, h2, h3, h4⟩ := ho
  rw [markZ_len] at h1 h3
  rw [markZ_len]
  have HK := Lib.hid hk
  have H4 := Lib.hid h4
  clear hk h4
  go_enter Try.func60, Try.ntmps60
  go_wp2_with fail
  go_loop [1, 5] (fun q i => ∃ j : Nat, j ≤ n ∧ i = .int .i64 j ∧ q = .int .i64 (k + j : Nat)) (fun _ i => n - (intOf i).toNat)
  case atStart => exact ⟨0, Nat.zero_le _, rfl, rfl⟩
  case round =>
    obtain ⟨j, hj, rfl, rfl⟩ := hrel
    by_cases hlt : j < n
    · rcases H4.out with h4 | ⟨b, off, rfl, h5⟩
      · have := congrArg List.length h4
        rw [markZ_len] at this
        simp at this
        omega
      have c0 := h5 j _ (markZ_get hlt)
      have hb : k + j ≤ 9223372036854775800 := by have := HK.out; omega
      clear h5
      go_wp2_with fail
      go_round
      case rel => exact ⟨j + 1, by omega, by go_num, by go_num⟩
      case measure => simp [intOf]; omega
    · obtain rfl : j = n := by omega
      go_wp2_with fail
      go_ret
      exact ⟨rfl, Ext.refl _⟩

theorem ints_ne2 {zs us : List Int} {k : Nat} {z u : Int} (hz : zs[k]? = some z) (hu : us[k]? = some u) (h : z ≠ u) : eqI zs us = false := by
  simp [eqI]
  intro e
  subst e
  rw [hz] at hu
  exact h (by simpa using hu)
set_option maxHeartbeats 1000000 in
theorem lawseqIntS (zs us : List Int) (v v' : Value) (w : World) (hv : IntsAt w zs v) (hu : IntsAt w us v') : Calls Try.prog 57 #[v, v'] w fun e w' => e = .returned (.bool (eqI zs us)) ∧ Ext w w' := by
  obtain ⟨a, cap, rfl, h1, h2, h3, h4⟩ := hv
  obtain ⟨a', cap', rfl, h1', h2', h3', h4'⟩ := hu
  have H4 := Lib.hid h4
  have H4' := Lib.hid h4'
  clear h4 h4'
  by_cases hl : zs.length = us.length
  · have HL := Lib.hid hl
    have hl' : ((zs.length : Int) != (us.length : Int)) = false := by simp [bne]; omega
    clear hl
    go_enter Try.func57, Try.ntmps57
    go_wp2_with fail
    go_loopw [5] (fun i wr => ∃ k : Nat, k ≤ zs.length ∧ i = .int .i64 k ∧ Hid (zs.take k = us.take k) ∧ Hid (Ext w wr)) (fun i _ => zs.length - (intOf i).toNat)
    case atStart => exact ⟨0, Nat.zero_le _, rfl, Lib.hid (by simp), Lib.hid (Ext.refl _)⟩
    case round =>
      obtain ⟨k, hk, rfl, Ha, HE⟩ := hrel
      by_cases hlt : k < zs.length
      · have hlt' : k < us.length := by have := HL.out; omega
        rcases H4.out with h4 | ⟨b, off, rfl, h5⟩
        · subst h4; simp at hlt
        rcases H4'.out with h4 | ⟨b', off', rfl, h5'⟩
        · subst h4; simp at hlt'
        obtain ⟨z, hz⟩ : ∃ z, zs[k]? = some z := ⟨zs[k], by simp [hlt]⟩
        obtain ⟨u, hu⟩ : ∃ u, us[k]? = some u := ⟨us[k], by simp [hlt']⟩
        have hc := cell_regrown (HE.out.cell (h5 k z hz))
        have hc' := cell_regrown (HE.out.cell (h5' k u hu))
        have Hz := Lib.hid hz
        have Hu := Lib.hid hu
        clear hz hu h5 h5'
        by_cases he : z = u
        · subst he
          have hf := Lib.hid (show zs.take (k + 1) = us.take (k + 1) by rw [take_snoc_of Hz.out, take_snoc_of Hu.out, Ha.out])
          have he' : (z != z) = false := by simp
          go_wp2_with fail
          refine region_ext (by kernel_rfl) (by kernel_rfl) ?_
          repeat (quiet_step (fail))
          refine wpQuiet_nil ?_
          intro wq eq
          go_wp2_with fail
          go_roundw
          case rel => exact ⟨k + 1, by omega, by go_num, hf, Lib.hid (HE.out.trans eq)⟩
          case measure => simp [intOf]; omega
        · have hf := Lib.hid (ints_ne2 Hz.out Hu.out he)
          have he' : (z != u) = true := by simpa [bne] using he
          go_wp2_with fail
          refine region_ext (by kernel_rfl) (by kernel_rfl) ?_
          repeat (quiet_step (fail))
          refine wpQuiet_nil ?_
          intro wq eq
          go_wp2_with fail
          go_ret
          exact ⟨retB hf.out.symm, HE.out.trans eq⟩
      · have hf := Lib.hid (show eqI zs us = true by
          have := Ha.out
          rw [List.take_of_length_le (by omega), List.take_of_length_le (by have := HL.out; omega)] at this
          simpa [eqI] using this)
        go_wp2_with fail
        go_ret
        exact ⟨retB hf.out.symm, HE.out⟩
  · have hl' : ((zs.length : Int) != (us.length : Int)) = true := by simp [bne]; omega
    have hf := Lib.hid (show eqI zs us = false by simp [eqI]; intro e; exact hl (by rw [e]))
    clear hl
    go_enter Try.func57, Try.ntmps57
    go_wp2_with fail
    go_ret
    exact ⟨retB hf.out.symm, Ext.refl _⟩
end Go.Proofs.Ytagaciadcgijoaa
