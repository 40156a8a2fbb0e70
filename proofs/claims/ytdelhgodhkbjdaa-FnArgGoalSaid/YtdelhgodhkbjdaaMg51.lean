/-
  The laws' pgBinds, at the same bindings in two places.
-/
import Derived.Test.YtdelhgodhkbjdaaMg32
import Derived.Test.YtdelhgodhkbjdaaMg36
namespace Go.Proofs.Ytdelhgodhkbjdaa
open Go.RowKit
set_option linter.unusedVariables false

set_option maxRecDepth 100000 in
set_option maxHeartbeats 2000000 in
theorem lawspgBinds (ts : List Bd) (v v' : Value) (S S' : Nat → Prop) (w : World) (ht : Bd.sl S w ts v) (hu : Bd.sl S' w ts v') :
    Calls Try.prog 21 #[v, v'] w fun e w' => e = .returned (.bool true) ∧ Ext w w' := by
  obtain ⟨a, cap, rfl, h1, h2, h3, h4⟩ := ht
  obtain ⟨a', cap', rfl, h1', h2', h3', h4'⟩ := hu
  have H4 := Lib.hid h4
  have H4' := Lib.hid h4'
  clear h4 h4'
  have e4' : ((ts.length : Int) != (ts.length : Int)) = false := by simp
  go_enter Try.func21, Try.ntmps21
  go_wp2_with fail
  go_loopw [5] (fun i wr => ∃ k : Nat, k ≤ ts.length ∧ i = .int .i64 k ∧ Hid (Ext w wr)) (fun i _ => ts.length - (intOf i).toNat)
  case atStart => exact ⟨0, Nat.zero_le _, rfl, Lib.hid (Ext.refl _)⟩
  case round =>
    obtain ⟨k, hk, rfl, HE⟩ := hrel
    by_cases hlt : k < ts.length
    · obtain ⟨x, hx⟩ := bgetk hlt
      obtain ⟨b, off, ak, ck, rfl, p0, p1, p2, p3, p4, hat⟩ := Bd.get H4.out hx HE.out
      obtain ⟨b', off', ak', ck', rfl, q0, q1, q2, q3, q4, hat'⟩ := Bd.get H4'.out hx HE.out
      have cQ := quiet_call (w := wr) (fun w' e' => implTermSame _ x.t x.t _ _ _ _ w' (Nat.le_refl _) (Tm.at_ext (HE.out.trans e') hat) (Tm.at_ext (HE.out.trans e') hat'))
      rw [same_refl] at cQ
      have hnn : (x.n != x.n) = false := by simp
      have k0 := cell_regrown p0
      have k1 := cell_regrown p1
      have k2 := cell_regrown p2
      have k3 := cell_regrown p3
      have k4 := cell_regrown p4
      have l0 := cell_regrown q0
      have l1 := cell_regrown q1
      have l2 := cell_regrown q2
      have l3 := cell_regrown q3
      have l4 := cell_regrown q4
      clear p0 p1 p2 p3 p4 q0 q1 q2 q3 q4 hat hat' hx
      go_wp2_with fail
      refine region_ext (by kernel_rfl) (by kernel_rfl) ?_
      repeat (quiet_step (exact cQ _ _))
      refine wpQuiet_nil ?_
      intro wq eq
      go_wp2_with fail
      go_roundw
      case rel => exact ⟨k + 1, by omega, by go_num, Lib.hid (HE.out.trans eq)⟩
      case measure => simp [intOf]; omega
    · go_wp2_with fail
      go_ret
      exact ⟨rfl, HE.out⟩
end Go.Proofs.Ytdelhgodhkbjdaa
