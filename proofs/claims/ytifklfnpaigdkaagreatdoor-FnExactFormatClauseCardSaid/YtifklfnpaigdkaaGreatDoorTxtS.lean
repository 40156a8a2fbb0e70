/-
  Texts of terms, the reference's: letters, numbers.
-/
import Derived.Test.YtifklfnpaigdkaaGreatDoorTxtI4
namespace Go.Proofs.YtifklfnpaigdkaaGreatDoor
open Go.RowKit
set_option linter.unusedVariables false

def digT (k : Nat) : UInt8 := UInt8.ofNat (48 + k % 10)
theorem digT_toNat (j : Nat) : (48 + (j : Int) % 10) = ((digT j).toNat : Int) := by
  unfold digT
  rw [UInt8.toNat_ofNat']
  omega
theorem digT_small {j : Nat} (h : j < 10) : (48 + (j : Int)) = ((digT j).toNat : Int) := by
  unfold digT
  rw [UInt8.toNat_ofNat']
  omega
theorem dec_big {u : Nat} (h : ¬ u < 10) : Lib.decDigits u = Lib.decDigits (u / 10) ++ [digT u] := by
  rw [Lib.decDigits, dif_neg h]
  rfl
theorem dec_one {u : Nat} (h : u < 10) : Lib.decDigits u = [digT u] := by
  rw [Lib.decDigits_one h]
  unfold digT
  rw [Nat.mod_eq_of_lt h]
theorem dec_len (u : Nat) (h : u < 1000) : (Lib.decDigits u).length ≤ 3 := by
  by_cases h1 : u < 10
  · rw [dec_one h1]; simp
  · rw [dec_big h1]
    by_cases h2 : u / 10 < 10
    · rw [dec_one h2]; simp
    · rw [dec_big h2, dec_one (by omega)]; simp

set_option maxRecDepth 100000 in
theorem specl1Letter (n : Int) (h0 : 0 ≤ n) (h1 : n ≤ 25) (w : World) : Calls Tryz.prog 73 #[.int .i64 n] w fun e w' => e = .returned (.string (bs [letB n])) ∧ Ext w w' := by
  have hcv := conv_oneT w 5 _ _ (letter_toNat h0 h1)
  go_enter Tryz.func73, Tryz.ntmps73
  go_wp2_with fail
  go_ret
  exact ⟨rfl, Ext.alloc _ _⟩
set_option maxRecDepth 100000 in
set_option maxHeartbeats 1000000 in
theorem specl18Dec (n : Nat) (hn : n ≤ 999) (w : World) : Calls Tryz.prog 94 #[.int .i64 n] w fun e w' => e = .returned (.string (bs (Lib.decDigits n))) ∧ Ext w w' := by
  have HD := Lib.hid (dec_len n (by omega))
  have HN := Lib.hid hn
  go_enter Tryz.func94, Tryz.ntmps94
  go_wp2_with fail
  go_loopw [0, 3] (fun i s wr => ∃ (j : Nat) (acc : List UInt8), j ≤ n ∧ i = .int .i64 j ∧ s = .string (bs acc) ∧ Hid (Lib.decDigits j ++ acc = Lib.decDigits n) ∧ Ext w wr) (fun i _ _ => (intOf i).toNat)
  case atStart => exact ⟨n, [], Nat.le_refl _, rfl, rfl, Lib.hid (by simp), Ext.refl _⟩
  case round =>
    obtain ⟨j, acc, hj, rfl, rfl, HA, he⟩ := hrel
    have hacc : acc.length ≤ 3 := by
      have h1 := congrArg List.length HA.out
      have h2 := HD.out
      simp only [List.length_append] at h1
      omega
    have lb : ¬ 9223372036854775807 < 1 + (bs acc).size := by rw [bs_size]; omega
    by_cases hz : j < 10
    · have hcv := conv_oneT wr 5 _ _ (digT_small hz)
      have H1 := Lib.hid (dec_one hz)
      go_wp2_with fail
      go_ret
      refine ⟨?_, he.trans (Ext.alloc _ _)⟩
      have h := HA.out
      rw [H1.out] at h
      rw [← h]
      exact congrArg (fun x => Ending.returned (Value.string x)) (bs_app [digT j] acc)
    · have hcv := conv_oneT wr 5 _ _ (digT_toNat j)
      have H1 := Lib.hid (dec_big hz)
      have hd1 : j / 10 ≤ n := by omega
      go_wp2_with fail
      go_roundw
      case rel => exact ⟨j / 10, digT j :: acc, hd1, by go_num, congrArg Value.string (bs_app [digT j] acc), Lib.hid (by rw [← HA.out, H1.out]; simp), he.trans (Ext.alloc _ _)⟩
      case measure => simp only [intOf]; omega
set_option maxRecDepth 100000 in
theorem specl1Dec (n : Int) (h0 : -999 ≤ n) (h1 : n ≤ 999) (w : World) : Calls Tryz.prog 74 #[.int .i64 n] w fun e w' => e = .returned (.string (bs (Lib.itoa n))) ∧ Ext w w' := by
  by_cases hn : n < 0
  · obtain ⟨u, rfl⟩ : ∃ u : Nat, n = -(u : Int) := ⟨n.natAbs, by omega⟩
    have HF := Lib.hid (show Lib.itoa (-(u : Int)) = 45 :: Lib.decDigits u by unfold Lib.itoa; rw [if_pos hn]; simp)
    have HU := Lib.hid (show u ≤ 999 by omega)
    have lb : ¬ 9223372036854775807 < 1 + (bs (Lib.decDigits u)).size := by rw [bs_size]; have := dec_len u (by omega); omega
    have hneg : -(-(u : Int)) = (u : Int) := by omega
    go_enter Tryz.func74, Tryz.ntmps74
    go_wp2_with (go_at_call 94; (try rw [hneg]); refine (specl18Dec u HU.out _).mono ?_; rintro e w1 ⟨rfl, e1⟩)
    go_ret
    exact ⟨by rw [HF.out]; exact congrArg (fun x => Ending.returned (Value.string x)) (bs_app [45] _), e1⟩
  · obtain ⟨u, rfl⟩ := Int.eq_ofNat_of_zero_le (show 0 ≤ n by omega)
    have HF := Lib.hid (show Lib.itoa (u : Int) = Lib.decDigits u by unfold Lib.itoa; rw [if_neg hn]; simp)
    have HU := Lib.hid (show u ≤ 999 by omega)
    go_enter Tryz.func74, Tryz.ntmps74
    go_wp2_with (go_at_call 94; refine (specl18Dec u HU.out _).mono ?_; rintro e w1 ⟨rfl, e1⟩)
    go_ret
    exact ⟨by rw [HF.out]; rfl, e1⟩
end Go.Proofs.YtifklfnpaigdkaaGreatDoor
