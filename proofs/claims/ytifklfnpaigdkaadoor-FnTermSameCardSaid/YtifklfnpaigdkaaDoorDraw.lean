/-
  The reference's draws of terms (begun): l1Var, l1Int.
-/
import Derived.Test.YtifklfnpaigdkaaDoorRd
namespace Go.Proofs.YtifklfnpaigdkaaDoor
open Go.RowKit
set_option linter.unusedVariables false

set_option maxHeartbeats 1000000 in
theorem specl1Var (n : Int) (w : World) : Calls Tryd.prog 81 #[.int .i64 n] w fun e w' => ∃ v, e = .returned v ∧ (∀ S, Tm.at S w' (.mk 1 n ⟨#[]⟩ []) v) ∧ Ext w w' := by
  go_enter Tryd.func81, Tryd.ntmps81
  go_wp2_with fail
  refine ret4 (p := 2) (T := 29) (v0 := .int .i64 1) (v1 := .int .i64 n) (v2 := .string ⟨#[]⟩) (v3 := .slice none 0 0) (by kernel_rfl) (fun _ => by kernel_rfl) (fun _ => by kernel_rfl) rfl rfl (by go_simp) (by go_simp) (by go_simp) (by go_simp) ?_
  exact ⟨_, rfl, fun S => Tm.at_iff.2 ⟨by show (⟨#[]⟩ : ByteArray).size ≤ 1048576; decide, _, rfl, none, 0, by simp [Tm.kids], by simp [Tm.kids], by omega, by simp [Tm.kids], .inl rfl⟩, Ext.alloc _ _⟩
set_option maxHeartbeats 1000000 in
theorem specl1Int (n : Int) (w : World) : Calls Tryd.prog 60 #[.int .i64 n] w fun e w' => ∃ v, e = .returned v ∧ (∀ S, Tm.at S w' (.mk 2 n ⟨#[]⟩ []) v) ∧ Ext w w' := by
  go_enter Tryd.func60, Tryd.ntmps60
  go_wp2_with fail
  refine ret4 (p := 2) (T := 29) (v0 := .int .i64 2) (v1 := .int .i64 n) (v2 := .string ⟨#[]⟩) (v3 := .slice none 0 0) (by kernel_rfl) (fun _ => by kernel_rfl) (fun _ => by kernel_rfl) rfl rfl (by go_simp) (by go_simp) (by go_simp) (by go_simp) ?_
  exact ⟨_, rfl, fun S => Tm.at_iff.2 ⟨by show (⟨#[]⟩ : ByteArray).size ≤ 1048576; decide, _, rfl, none, 0, by simp [Tm.kids], by simp [Tm.kids], by omega, by simp [Tm.kids], .inl rfl⟩, Ext.alloc _ _⟩

theorem info_term2 : (Tryd.prog.info? 29).map (fun i => (i.zero, i.size, i.bytes)) = some (some (.agg #[.int .i64 0, .int .i64 0, .string ⟨#[]⟩, .slice none 0 0]), 4, 56) := by kernel_rfl
set_option maxHeartbeats 1000000 in
theorem specl1Struct0 (s : ByteArray) (w : World) (hs : s.size ≤ 1048576) : Calls Tryd.prog 61 #[.string s, .slice none 0 0] w fun e w' => ∃ v, e = .returned v ∧ (∀ S, Tm.at S w' (.mk 3 0 s []) v) ∧ Ext w w' := by
  go_enter Tryd.func61, Tryd.ntmps61
  go_wp2_with fail
  refine ret4 (p := 4) (T := 29) (v0 := .int .i64 3) (v1 := .int .i64 0) (v2 := .string s) (v3 := .slice (some ⟨w.heap.size + 1, 0, none⟩) 0 0) (by kernel_rfl) (fun _ => by kernel_rfl) (fun _ => by kernel_rfl) rfl rfl (by go_simp) (by go_simp) (by go_simp) (by go_simp) ?_
  exact ⟨_, rfl, fun S => Tm.at_iff.2 ⟨hs, _, rfl, some ⟨w.heap.size + 1, 0, none⟩, 0, by simp [Tm.kids], by simp [Tm.kids], by omega, by simp [Tm.kids], .inl rfl⟩, (Ext.alloc _ _).trans (Ext.alloc _ _)⟩

end Go.Proofs.YtifklfnpaigdkaaDoor
