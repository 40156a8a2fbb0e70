/-
  The draws of two terms that are l3Two's own.
-/
import Derived.Test.YtdelhgodhkbjdaaMg55
namespace Go.Proofs.Ytdelhgodhkbjdaa
open Go.RowKit
set_option linter.unusedVariables false


set_option maxRecDepth 100000 in
set_option maxHeartbeats 2000000 in
theorem drawUnifyTerms (v : Value) (w : World) (hv : BytesAt w v) : Calls Try.prog 25 #[v] w (TmOut2 w) := by
  have hb1 := BoxT.new w (.int .i64 0) (.int .i64 0) (.string ⟨#[]⟩) (.slice none 0 0) 25 rfl
  have hb2 := BoxT.new (w.alloc (.cells #[.int .i64 0, .int .i64 0, .string ⟨#[]⟩, .slice none 0 0] 25)) (.int .i64 0) (.int .i64 0) (.string ⟨#[]⟩) (.slice none 0 0) 25 (b := w.heap.size + 1) (by simp)
  have e02 := (Ext.alloc w (.cells #[.int .i64 0, .int .i64 0, .string ⟨#[]⟩, .slice none 0 0] 25)).trans (Ext.alloc _ (.cells #[.int .i64 0, .int .i64 0, .string ⟨#[]⟩, .slice none 0 0] 25))
  have B1 := Lib.hid (hb1.ext (Ext.alloc _ (.cells #[.int .i64 0, .int .i64 0, .string ⟨#[]⟩, .slice none 0 0] 25)))
  have B2 := Lib.hid hb2
  have HV := Lib.hid (hv.ext e02)
  have E02 := Lib.hid e02
  clear hb1 hb2 e02
  obtain ⟨a, len, cap, rfl, _⟩ := hv
  go_enter Try.func25, Try.ntmps25
  go_wp2_with fail
  refine (specl3Two _ _ HV.out).mono ?_
  rintro e w1 ⟨t, u, v1, v2, rfl, hv1, hv2, e1⟩
  obtain ⟨a1, c1, rfl⟩ := at_form hv1
  obtain ⟨a2, c2, rfl⟩ := at_form hv2
  have s1 : w.heap.size + 2 ≤ w1.heap.size := by have := Below.size e1; simpa using this
  have HB1 := Lib.hid (B1.out.ext e1)
  have HB2 := Lib.hid (B2.out.ext e1)
  have V1 := Lib.hid hv1
  have V2 := Lib.hid hv2
  have E1 := Lib.hid (E02.out.trans e1)
  clear hv1 hv2 e1 B1 B2 HV
  obtain ⟨g0, g1, g2, g3, g4, g5, g6, g7⟩ := HB1.out
  obtain ⟨q0, q1, q2, q3, q4, q5, q6, q7⟩ := HB2.out
  go_wp2_with fail
  refine ret44_set (p1 := 2) (p2 := 3) (T := 25) (b1 := w.heap.size) (b2 := w.heap.size + 1) (by kernel_rfl) (fun _ => by kernel_rfl) (fun _ => by kernel_rfl) rfl rfl rfl (by omega) HB1.out HB2.out ?_
  intro X hX
  have hag := hX.agree (S := fun b => w.heap.size + 2 ≤ b) (fun k hk h => by omega)
  exact ⟨t, u, _, _, rfl, Tm.at_mono (fun b h => by omega) hag (Tm.at_mono (fun b h => by simp at h; omega) (Agree.refl _) V1.out), Tm.at_mono (fun b h => by omega) hag (Tm.at_mono (fun b h => by simp at h; omega) (Agree.refl _) V2.out), ((Fr.of_ext E1.out).trans (hX.mono (fun k _ h => show w.heap.size ≤ k by omega))).toExt (fun k hk hm => by omega)⟩

end Go.Proofs.Ytdelhgodhkbjdaa
