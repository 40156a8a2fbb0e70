/-
  The draws of two terms that are l3Two's own.
-/
import Derived.Test.YtdelhgodhkbjdaaRows
import Derived.Test.YtdelhgodhkbjdaaMg50
import Derived.Test.YtdelhgodhkbjdaaMg44
import Derived.Test.YtdelhgodhkbjdaaMg49
import Derived.ProofKit
import Derived.OpenShut
import Derived.ShutString
import Derived.Test.YtdelhgodhkbjdaaMg32
import Derived.Test.YtdelhgodhkbjdaaMg36
import Derived.Test.YtdelhgodhkbjdaaMg55
namespace Go.Proofs.Ytdelhgodhkbjdaa
open Go.RowKit
set_option linter.unusedVariables false


set_option maxRecDepth 100000 in
set_option maxHeartbeats 2000000 in
theorem drawUnifyTerms (v : Value) (w : World) (hv : BytesAt w v) : Calls Try.prog 25 #[v] w (TmOut2 w) := by
  have hb1 := BoxT.new w (.int .i64 0) (.int .i64 0) (.string ⟨#[]⟩) (.slice none 0 0) 25 rfl
  have hb2 := BoxT.new (w.alloc (.cells #[.int .i64 0, .int .i64 0, .string ⟨#[]⟩, .slice none 0 0] 25)) (.int .i64 0) (.int .i64 0) (.string ⟨#[]⟩) (.slice none 0 0) 25 (b := w.heap.size + 1) (by simp)
  have e02 := (Ext.alloc w (.cells #[.int .i64 0, .int .i64 0, .string ⟨#[]⟩, .slice none 0 0] 25)).trans (Ext.alloc _ (.cells #[.int .i64 0, .int .i64 0, .string ⟨#[]⟩, .slice none 0 0] 25))
  have B1 := Lib.hid (hb1.ext (Ext.alloc _ (.cells #[.int .i64 0, .int .i64 0, .string ⟨#[]⟩, .slice none 0 0] 25)))
  have B2 := Lib.hid hb2
  have HV := Lib.hid (hv.ext e02)
  have E02 := Lib.hid e02
  clear hb1 hb2 e02
  obtain ⟨a, len, cap, rfl, _⟩ := hv
  go_enter Try.func25, Try.ntmps25
  go_wp2_with fail
  refine (specl3Two _ _ HV.out).mono ?_
  rintro e w1 ⟨t, u, v1, v2, rfl, hv1, hv2, e1⟩
  obtain ⟨a1, c1, rfl⟩ := at_form hv1
  obtain ⟨a2, c2, rfl⟩ := at_form hv2
  have s1 : w.heap.size + 2 ≤ w1.heap.size := by have := Below.size e1; simpa using this
  have HB1 := Lib.hid (B1.out.ext e1)
  have HB2 := Lib.hid (B2.out.ext e1)
  have V1 := Lib.hid hv1
  have V2 := Lib.hid hv2
  have E1 := Lib.hid (E02.out.trans e1)
  clear hv1 hv2 e1 B1 B2 HV
  obtain ⟨g0, g1, g2, g3, g4, g5, g6, g7⟩ := HB1.out
  obtain ⟨q0, q1, q2, q3, q4, q5, q6, q7⟩ := HB2.out
  go_wp2_with fail
  refine ret44_set (p1 := 2) (p2 := 3) (T := 25) (b1 := w.heap.size) (b2 := w.heap.size + 1) (by kernel_rfl) (fun _ => by kernel_rfl) (fun _ => by kernel_rfl) rfl rfl rfl (by omega) HB1.out HB2.out ?_
  intro X hX
  have hag := hX.agree (S := fun b => w.heap.size + 2 ≤ b) (fun k hk h => by omega)
  exact ⟨t, u, _, _, rfl, Tm.at_mono (fun b h => by omega) hag (Tm.at_mono (fun b h => by simp at h; omega) (Agree.refl _) V1.out), Tm.at_mono (fun b h => by omega) hag (Tm.at_mono (fun b h => by simp at h; omega) (Agree.refl _) V2.out), ((Fr.of_ext E1.out).trans (hX.mono (fun k _ h => show w.heap.size ≤ k by omega))).toExt (fun k hk hm => by omega)⟩

end Go.Proofs.Ytdelhgodhkbjdaa

/-
  The laws' pgBinds, at the same bindings in two places.
-/
namespace Go.Proofs.Ytdelhgodhkbjdaa
open Go.RowKit
set_option linter.unusedVariables false

set_option maxRecDepth 100000 in
set_option maxHeartbeats 2000000 in
theorem lawspgBinds (ts : List Bd) (v v' : Value) (S S' : Nat → Prop) (w : World) (ht : Bd.sl S w ts v) (hu : Bd.sl S' w ts v') :
    Calls Try.prog 21 #[v, v'] w fun e w' => e = .returned (.bool true) ∧ Ext w w' := by
  obtain ⟨a, cap, rfl, h1, h2, h3, h4⟩ := ht
  obtain ⟨a', cap', rfl, h1', h2', h3', h4'⟩ := hu
  have H4 := Lib.hid h4
  have H4' := Lib.hid h4'
  clear h4 h4'
  have e4' : ((ts.length : Int) != (ts.length : Int)) = false := by simp
  go_enter Try.func21, Try.ntmps21
  go_wp2_with fail
  go_loopw [5] (fun i wr => ∃ k : Nat, k ≤ ts.length ∧ i = .int .i64 k ∧ Hid (Ext w wr)) (fun i _ => ts.length - (intOf i).toNat)
  case atStart => exact ⟨0, Nat.zero_le _, rfl, Lib.hid (Ext.refl _)⟩
  case round =>
    obtain ⟨k, hk, rfl, HE⟩ := hrel
    by_cases hlt : k < ts.length
    · obtain ⟨x, hx⟩ := bgetk hlt
      obtain ⟨b, off, ak, ck, rfl, p0, p1, p2, p3, p4, hat⟩ := Bd.get H4.out hx HE.out
      obtain ⟨b', off', ak', ck', rfl, q0, q1, q2, q3, q4, hat'⟩ := Bd.get H4'.out hx HE.out
      have cQ := quiet_call (w := wr) (fun w' e' => implTermSame _ x.t x.t _ _ _ _ w' (Nat.le_refl _) (Tm.at_ext (HE.out.trans e') hat) (Tm.at_ext (HE.out.trans e') hat'))
      rw [same_refl] at cQ
      have hnn : (x.n != x.n) = false := by simp
      have k0 := cell_regrown p0
      have k1 := cell_regrown p1
      have k2 := cell_regrown p2
      have k3 := cell_regrown p3
      have k4 := cell_regrown p4
      have l0 := cell_regrown q0
      have l1 := cell_regrown q1
      have l2 := cell_regrown q2
      have l3 := cell_regrown q3
      have l4 := cell_regrown q4
      clear p0 p1 p2 p3 p4 q0 q1 q2 q3 q4 hat hat' hx
      go_wp2_with fail
      refine region_ext (by kernel_rfl) (by kernel_rfl) ?_
      repeat (quiet_step (exact cQ _ _))
      refine wpQuiet_nil ?_
      intro wq eq
      go_wp2_with fail
      go_roundw
      case rel => exact ⟨k + 1, by omega, by go_num, Lib.hid (HE.out.trans eq)⟩
      case measure => simp [intOf]; omega
    · go_wp2_with fail
      go_ret
      exact ⟨rfl, HE.out⟩
end Go.Proofs.Ytdelhgodhkbjdaa

/-
  For every code FnUnifyGoal returns true: the goals = and \= answer as UnifyTerms does.
-/
namespace Go.Proofs.Ytdelhgodhkbjdaa.fnUnifyGoal
open Go.ChangeShapes Go.WideShapes Go.ChangeAt Go.RowKit
open Go.ChangeMaps (open_string shut_string)
set_option linter.unusedVariables false

theorem own : ownKnob Try.prog.godebug = none := by kernel_rfl
theorem laidOut : laidOutB Try.prog = true := by kernel_rfl

abbrev nEq : ByteArray := ⟨#[61]⟩
abbrev nNe : ByteArray := ⟨#[92, 61]⟩
theorem nEq_l : nEq.toList = [61] := by decide +kernel
theorem nNe_l : nNe.toList = [92, 61] := by decide +kernel
theorem cbR_len (t : Tm) : (cbR t).length ≤ 1048576 := by
  unfold cbR
  split
  · have := bdsU_len (callR t.name.toList t.kids).2 26
    omega
  · simp
theorem eq_codes {a b : Tm} (h : validF (.mk 3 0 nEq [a, b]) = true) :
    utR a b = cbR (.mk 3 0 nEq [a, b]) ∧ ((cbN (.mk 3 0 nEq [a, b]) = 1 ∧ utB a b = false ∧ cbN (.mk 3 0 nNe [a, b]) = 0) ∨ (cbN (.mk 3 0 nEq [a, b]) = 0 ∧ utB a b = true ∧ cbN (.mk 3 0 nNe [a, b]) = 1) ∨ (cbN (.mk 3 0 nEq [a, b]) = 5 ∧ utB a b = false ∧ cbN (.mk 3 0 nNe [a, b]) = 1)) := by
  have hva : validF a = true := valid_kid h (by simp [Tm.kids])
  have hvb : validF b = true := valid_kid h (by simp [Tm.kids])
  have h2 : validF (.mk 3 0 nNe [a, b]) = true := by rw [← h]; exact valid_name (by decide +kernel)
  have hg := gb_of h (by rw [nEq_l]; rfl)
  have hg2 := gb_of h2 (by rw [nNe_l]; rfl)
  obtain ⟨e1, e2⟩ := cb_of hg (r := (holdsN (uniR a b).1, (uniR a b).2)) (by rw [nEq_l]; simp [callR, kidAt])
  obtain ⟨e3, _⟩ := cb_none hg2 (n := holdsN (!(uniR a b).1)) (by rw [nNe_l]; simp [callR, kidAt])
  have hB : utB a b = ((uniR a b).1 && okU (uniR a b).2 26) := by unfold utB; rw [hva, hvb]; simp
  have hR : utR a b = if ((uniR a b).1 && okU (uniR a b).2 26) = true then bdsU (uniR a b).2 26 else [] := by unfold utR; rw [hB]
  rw [e1, e2, e3, hB, hR]
  cases (uniR a b).1 <;> cases okU (uniR a b).2 26 <;> simp [holdsN]

set_option maxRecDepth 100000 in
set_option maxHeartbeats 8000000 in
theorem walk (v0 : Value) (w : World) (hv0 : BytesAt w v0) :
    Calls Try.prog 9 #[v0] w fun e w' => e = .returned (.bool true) ∧ Below w.heap.size w w' := by
  have HV := Lib.hid hv0
  obtain ⟨a, len, cap, rfl, h1, h2, h3⟩ := hv0
  clear h3
  by_cases hl : len ≤ 1048576
  · go_enter Try.func9, Try.ntmps9
    go_wp2_with fail
    refine (drawUnifyTerms _ _ HV.out).mono ?_
    rintro e w1 ⟨t, u, v1, v2, rfl, hv1, hv2, q⟩
    obtain ⟨a1, c1, rfl⟩ := at_form hv1
    obtain ⟨a2, c2, rfl⟩ := at_form hv2
    have B := Lib.hid q
    have V := Lib.hid hv1
    have U := Lib.hid hv2
    clear hv1 hv2 q
    have e0 := Ext.alloc w1 (.cells #[.int .i64 t.kind, .int .i64 t.n, .string t.name, .slice a1 t.kids.length c1] 25)
    have e1 := Ext.alloc (w1.alloc (.cells #[.int .i64 t.kind, .int .i64 t.n, .string t.name, .slice a1 t.kids.length c1] 25)) (.cells #[.int .i64 u.kind, .int .i64 u.n, .string u.name, .slice a2 u.kids.length c2] 25)
    have e2 := Ext.alloc ((w1.alloc (.cells #[.int .i64 t.kind, .int .i64 t.n, .string t.name, .slice a1 t.kids.length c1] 25)).alloc (.cells #[.int .i64 u.kind, .int .i64 u.n, .string u.name, .slice a2 u.kids.length c2] 25)) (.cells #[.int .i64 t.kind, .int .i64 t.n, .string t.name, .slice a1 t.kids.length c1, .int .i64 u.kind, .int .i64 u.n, .string u.name, .slice a2 u.kids.length c2] 25)
    have e3 := Ext.alloc (((w1.alloc (.cells #[.int .i64 t.kind, .int .i64 t.n, .string t.name, .slice a1 t.kids.length c1] 25)).alloc (.cells #[.int .i64 u.kind, .int .i64 u.n, .string u.name, .slice a2 u.kids.length c2] 25)).alloc (.cells #[.int .i64 t.kind, .int .i64 t.n, .string t.name, .slice a1 t.kids.length c1, .int .i64 u.kind, .int .i64 u.n, .string u.name, .slice a2 u.kids.length c2] 25)) (.cells #[.int .i64 3, .int .i64 0, .string nEq, .slice (some ⟨w1.heap.size + 2, 0, none⟩) 2 2] 25)
    have e4 := Ext.alloc ((((w1.alloc (.cells #[.int .i64 t.kind, .int .i64 t.n, .string t.name, .slice a1 t.kids.length c1] 25)).alloc (.cells #[.int .i64 u.kind, .int .i64 u.n, .string u.name, .slice a2 u.kids.length c2] 25)).alloc (.cells #[.int .i64 t.kind, .int .i64 t.n, .string t.name, .slice a1 t.kids.length c1, .int .i64 u.kind, .int .i64 u.n, .string u.name, .slice a2 u.kids.length c2] 25)).alloc (.cells #[.int .i64 3, .int .i64 0, .string nEq, .slice (some ⟨w1.heap.size + 2, 0, none⟩) 2 2] 25)) (.cells #[.int .i64 t.kind, .int .i64 t.n, .string t.name, .slice a1 t.kids.length c1, .int .i64 u.kind, .int .i64 u.n, .string u.name, .slice a2 u.kids.length c2] 25)
    have e5 := Ext.alloc (((((w1.alloc (.cells #[.int .i64 t.kind, .int .i64 t.n, .string t.name, .slice a1 t.kids.length c1] 25)).alloc (.cells #[.int .i64 u.kind, .int .i64 u.n, .string u.name, .slice a2 u.kids.length c2] 25)).alloc (.cells #[.int .i64 t.kind, .int .i64 t.n, .string t.name, .slice a1 t.kids.length c1, .int .i64 u.kind, .int .i64 u.n, .string u.name, .slice a2 u.kids.length c2] 25)).alloc (.cells #[.int .i64 3, .int .i64 0, .string nEq, .slice (some ⟨w1.heap.size + 2, 0, none⟩) 2 2] 25)).alloc (.cells #[.int .i64 t.kind, .int .i64 t.n, .string t.name, .slice a1 t.kids.length c1, .int .i64 u.kind, .int .i64 u.n, .string u.name, .slice a2 u.kids.length c2] 25)) (.cells #[.int .i64 3, .int .i64 0, .string nNe, .slice (some ⟨w1.heap.size + 4, 0, none⟩) 2 2] 25)
    have y0 := ((BoxT.new w1 (.int .i64 t.kind) (.int .i64 t.n) (.string t.name) (.slice a1 t.kids.length c1) 25 (b := w1.heap.size) rfl).ext ((((e1.trans e2).trans e3).trans e4).trans e5))
    have y1 := ((BoxT.new (w1.alloc (.cells #[.int .i64 t.kind, .int .i64 t.n, .string t.name, .slice a1 t.kids.length c1] 25)) (.int .i64 u.kind) (.int .i64 u.n) (.string u.name) (.slice a2 u.kids.length c2) 25 (b := w1.heap.size + 1) (by simp)).ext (((e2.trans e3).trans e4).trans e5))
    have y2' : Tm.at (fun _ => True) (((w1.alloc (.cells #[.int .i64 t.kind, .int .i64 t.n, .string t.name, .slice a1 t.kids.length c1] 25)).alloc (.cells #[.int .i64 u.kind, .int .i64 u.n, .string u.name, .slice a2 u.kids.length c2] 25)).alloc (.cells #[.int .i64 t.kind, .int .i64 t.n, .string t.name, .slice a1 t.kids.length c1, .int .i64 u.kind, .int .i64 u.n, .string u.name, .slice a2 u.kids.length c2] 25)) (.mk 3 0 nEq [t, u]) (.agg #[.int .i64 3, .int .i64 0, .string nEq, .slice (some ⟨((w1.alloc (.cells #[.int .i64 t.kind, .int .i64 t.n, .string t.name, .slice a1 t.kids.length c1] 25)).alloc (.cells #[.int .i64 u.kind, .int .i64 u.n, .string u.name, .slice a2 u.kids.length c2] 25)).heap.size, 0, none⟩) 2 2]) := struct_at (S := fun _ => True) nEq 25 (by decide +kernel) (by simp) (flatc (Tm.at_mono (fun _ _ => trivial) (Agree.refl _) (Tm.at_ext (e0.trans e1) V.out)) (flat1 (Tm.at_mono (fun _ _ => trivial) (Agree.refl _) (Tm.at_ext (e0.trans e1) U.out))))
    rw [show ((w1.alloc (.cells #[.int .i64 t.kind, .int .i64 t.n, .string t.name, .slice a1 t.kids.length c1] 25)).alloc (.cells #[.int .i64 u.kind, .int .i64 u.n, .string u.name, .slice a2 u.kids.length c2] 25)).heap.size = w1.heap.size + 2 by simp] at y2'
    have y2 := Tm.at_ext ((e3.trans e4).trans e5) y2'
    clear y2'
    have y3 := ((BoxT.new (((w1.alloc (.cells #[.int .i64 t.kind, .int .i64 t.n, .string t.name, .slice a1 t.kids.length c1] 25)).alloc (.cells #[.int .i64 u.kind, .int .i64 u.n, .string u.name, .slice a2 u.kids.length c2] 25)).alloc (.cells #[.int .i64 t.kind, .int .i64 t.n, .string t.name, .slice a1 t.kids.length c1, .int .i64 u.kind, .int .i64 u.n, .string u.name, .slice a2 u.kids.length c2] 25)) (.int .i64 3) (.int .i64 0) (.string nEq) (.slice (some ⟨w1.heap.size + 2, 0, none⟩) 2 2) 25 (b := w1.heap.size + 3) (by simp)).ext (e4.trans e5))
    have y4' : Tm.at (fun _ => True) (((((w1.alloc (.cells #[.int .i64 t.kind, .int .i64 t.n, .string t.name, .slice a1 t.kids.length c1] 25)).alloc (.cells #[.int .i64 u.kind, .int .i64 u.n, .string u.name, .slice a2 u.kids.length c2] 25)).alloc (.cells #[.int .i64 t.kind, .int .i64 t.n, .string t.name, .slice a1 t.kids.length c1, .int .i64 u.kind, .int .i64 u.n, .string u.name, .slice a2 u.kids.length c2] 25)).alloc (.cells #[.int .i64 3, .int .i64 0, .string nEq, .slice (some ⟨w1.heap.size + 2, 0, none⟩) 2 2] 25)).alloc (.cells #[.int .i64 t.kind, .int .i64 t.n, .string t.name, .slice a1 t.kids.length c1, .int .i64 u.kind, .int .i64 u.n, .string u.name, .slice a2 u.kids.length c2] 25)) (.mk 3 0 nNe [t, u]) (.agg #[.int .i64 3, .int .i64 0, .string nNe, .slice (some ⟨((((w1.alloc (.cells #[.int .i64 t.kind, .int .i64 t.n, .string t.name, .slice a1 t.kids.length c1] 25)).alloc (.cells #[.int .i64 u.kind, .int .i64 u.n, .string u.name, .slice a2 u.kids.length c2] 25)).alloc (.cells #[.int .i64 t.kind, .int .i64 t.n, .string t.name, .slice a1 t.kids.length c1, .int .i64 u.kind, .int .i64 u.n, .string u.name, .slice a2 u.kids.length c2] 25)).alloc (.cells #[.int .i64 3, .int .i64 0, .string nEq, .slice (some ⟨w1.heap.size + 2, 0, none⟩) 2 2] 25)).heap.size, 0, none⟩) 2 2]) := struct_at (S := fun _ => True) nNe 25 (by decide +kernel) (by simp) (flatc (Tm.at_mono (fun _ _ => trivial) (Agree.refl _) (Tm.at_ext (((e0.trans e1).trans e2).trans e3) V.out)) (flat1 (Tm.at_mono (fun _ _ => trivial) (Agree.refl _) (Tm.at_ext (((e0.trans e1).trans e2).trans e3) U.out))))
    rw [show ((((w1.alloc (.cells #[.int .i64 t.kind, .int .i64 t.n, .string t.name, .slice a1 t.kids.length c1] 25)).alloc (.cells #[.int .i64 u.kind, .int .i64 u.n, .string u.name, .slice a2 u.kids.length c2] 25)).alloc (.cells #[.int .i64 t.kind, .int .i64 t.n, .string t.name, .slice a1 t.kids.length c1, .int .i64 u.kind, .int .i64 u.n, .string u.name, .slice a2 u.kids.length c2] 25)).alloc (.cells #[.int .i64 3, .int .i64 0, .string nEq, .slice (some ⟨w1.heap.size + 2, 0, none⟩) 2 2] 25)).heap.size = w1.heap.size + 4 by simp] at y4'
    have y4 := Tm.at_ext e5 y4'
    clear y4'
    have y5 := (BoxT.new (((((w1.alloc (.cells #[.int .i64 t.kind, .int .i64 t.n, .string t.name, .slice a1 t.kids.length c1] 25)).alloc (.cells #[.int .i64 u.kind, .int .i64 u.n, .string u.name, .slice a2 u.kids.length c2] 25)).alloc (.cells #[.int .i64 t.kind, .int .i64 t.n, .string t.name, .slice a1 t.kids.length c1, .int .i64 u.kind, .int .i64 u.n, .string u.name, .slice a2 u.kids.length c2] 25)).alloc (.cells #[.int .i64 3, .int .i64 0, .string nEq, .slice (some ⟨w1.heap.size + 2, 0, none⟩) 2 2] 25)).alloc (.cells #[.int .i64 t.kind, .int .i64 t.n, .string t.name, .slice a1 t.kids.length c1, .int .i64 u.kind, .int .i64 u.n, .string u.name, .slice a2 u.kids.length c2] 25)) (.int .i64 3) (.int .i64 0) (.string nNe) (.slice (some ⟨w1.heap.size + 4, 0, none⟩) 2 2) 25 (b := w1.heap.size + 5) (by simp))
    have q := (((((e0.trans e1).trans e2).trans e3).trans e4).trans e5)
    have B := Lib.hid (B.out.trans q)
    have V := Lib.hid (Tm.at_ext q V.out)
    have U := Lib.hid (Tm.at_ext q U.out)
    have X := Lib.hid y0
    have Y := Lib.hid y1
    have E := Lib.hid y2
    have Z := Lib.hid y3
    have F := Lib.hid y4
    have Q := Lib.hid y5
    clear q e0 e1 e2 e3 e4 e5 y0 y1 y2 y3 y4 y5
    obtain ⟨r1, hr1⟩ : ∃ r, cbR (.mk 3 0 nEq [t, u]) = r := ⟨_, rfl⟩
    obtain ⟨n1, hn1⟩ : ∃ n, cbN (.mk 3 0 nEq [t, u]) = n := ⟨_, rfl⟩
    obtain ⟨r2, hr2⟩ : ∃ r, cbR (.mk 3 0 nNe [t, u]) = r := ⟨_, rfl⟩
    obtain ⟨n2, hn2⟩ : ∃ n, cbN (.mk 3 0 nNe [t, u]) = n := ⟨_, rfl⟩
    obtain ⟨r3, hr3⟩ : ∃ r, utR t u = r := ⟨_, rfl⟩
    obtain ⟨b3, hb3⟩ : ∃ n, utB t u = n := ⟨_, rfl⟩
    have HRL : Hid (r1.length ≤ 1048576) := Lib.hid (by rw [← hr1]; exact cbR_len _)
    have HR1 := Lib.hid hr1
    have HN1 := Lib.hid hn1
    have HR2 := Lib.hid hr2
    have HN2 := Lib.hid hn2
    have HR3 := Lib.hid hr3
    have HB3 := Lib.hid hb3
    have hnn : (n1 != n1) = false := by simp
    cases hval : validF (.mk 3 0 nEq [t, u])
    · have HVAL := Lib.hid hval
      clear hval hr1 hn1 hr2 hn2 hr3 hb3
      obtain ⟨kz0, kz1, kz2, kz3, _, _, _, _⟩ := Z.out
      go_wp2_with fail
      refine (calls_cb (implCallBuiltin _ _ _ _ E.out) HR1.out HN1.out).mono ?_
      rintro e w2 ⟨a3, c3, rfl, ho, q⟩
      clear kz0 kz1 kz2 kz3
      have B := Lib.hid (B.out.trans q)
      have V := Lib.hid (Tm.at_ext q V.out)
      have U := Lib.hid (Tm.at_ext q U.out)
      have X := Lib.hid (X.out.ext q)
      have Y := Lib.hid (Y.out.ext q)
      have E := Lib.hid (Tm.at_ext q E.out)
      have Z := Lib.hid (Z.out.ext q)
      have F := Lib.hid (Tm.at_ext q F.out)
      have Q := Lib.hid (Q.out.ext q)
      clear q
      have P1 := Lib.hid ho
      clear ho
      obtain ⟨kz0, kz1, kz2, kz3, _, _, _, _⟩ := Z.out
      go_wp2_with fail
      refine (calls_cb (specCallBuiltin _ _ _ _ E.out) HR1.out HN1.out).mono ?_
      rintro e w3 ⟨a4, c4, rfl, ho, q⟩
      clear kz0 kz1 kz2 kz3
      have B := Lib.hid (B.out.trans q)
      have V := Lib.hid (Tm.at_ext q V.out)
      have U := Lib.hid (Tm.at_ext q U.out)
      have X := Lib.hid (X.out.ext q)
      have Y := Lib.hid (Y.out.ext q)
      have E := Lib.hid (Tm.at_ext q E.out)
      have Z := Lib.hid (Z.out.ext q)
      have F := Lib.hid (Tm.at_ext q F.out)
      have Q := Lib.hid (Q.out.ext q)
      have P1 := Lib.hid (OwnB.ext P1.out q)
      clear q
      have P2 := Lib.hid ho
      clear ho
      obtain ⟨kq0, kq1, kq2, kq3, _, _, _, _⟩ := Q.out
      go_wp2_with fail
      refine (calls_cb (implCallBuiltin _ _ _ _ F.out) HR2.out HN2.out).mono ?_
      rintro e w4 ⟨a5, c5, rfl, _, q⟩
      clear kq0 kq1 kq2 kq3
      have B := Lib.hid (B.out.trans q)
      have V := Lib.hid (Tm.at_ext q V.out)
      have U := Lib.hid (Tm.at_ext q U.out)
      have X := Lib.hid (X.out.ext q)
      have Y := Lib.hid (Y.out.ext q)
      have E := Lib.hid (Tm.at_ext q E.out)
      have Z := Lib.hid (Z.out.ext q)
      have F := Lib.hid (Tm.at_ext q F.out)
      have Q := Lib.hid (Q.out.ext q)
      have P1 := Lib.hid (OwnB.ext P1.out q)
      have P2 := Lib.hid (OwnB.ext P2.out q)
      clear q
      obtain ⟨kx0, kx1, kx2, kx3, _, _, _, _⟩ := X.out
      obtain ⟨ky0, ky1, ky2, ky3, _, _, _, _⟩ := Y.out
      go_wp2_with fail
      refine (calls_bd (implUnifyTerms t u _ _ _ _ (Tm.at_mono (S' := fun _ => True) (fun _ _ => trivial) (Agree.refl _) V.out) (Tm.at_mono (fun _ _ => trivial) (Agree.refl _) U.out)) HR3.out HB3.out).mono ?_
      rintro e w5 ⟨a6, c6, rfl, ho, q⟩
      clear kx0 kx1 kx2 kx3
      clear ky0 ky1 ky2 ky3
      have B := Lib.hid (B.out.trans q)
      have V := Lib.hid (Tm.at_ext q V.out)
      have U := Lib.hid (Tm.at_ext q U.out)
      have X := Lib.hid (X.out.ext q)
      have Y := Lib.hid (Y.out.ext q)
      have E := Lib.hid (Tm.at_ext q E.out)
      have Z := Lib.hid (Z.out.ext q)
      have F := Lib.hid (Tm.at_ext q F.out)
      have Q := Lib.hid (Q.out.ext q)
      have P1 := Lib.hid (OwnB.ext P1.out q)
      have P2 := Lib.hid (OwnB.ext P2.out q)
      clear q
      have P3 := Lib.hid ho
      clear ho
      obtain ⟨kz0, kz1, kz2, kz3, _, _, _, _⟩ := Z.out
      go_wp2_with fail
      refine (lawspgBinds r1 _ _ _ _ _ (OwnB.sl P1.out HRL.out) (OwnB.sl P2.out HRL.out)).mono ?_
      rintro e w6 ⟨rfl, q⟩
      clear kz0 kz1 kz2 kz3
      have B := Lib.hid (B.out.trans q)
      have V := Lib.hid (Tm.at_ext q V.out)
      have U := Lib.hid (Tm.at_ext q U.out)
      have X := Lib.hid (X.out.ext q)
      have Y := Lib.hid (Y.out.ext q)
      have E := Lib.hid (Tm.at_ext q E.out)
      have Z := Lib.hid (Z.out.ext q)
      have F := Lib.hid (Tm.at_ext q F.out)
      have Q := Lib.hid (Q.out.ext q)
      have P1 := Lib.hid (OwnB.ext P1.out q)
      have P2 := Lib.hid (OwnB.ext P2.out q)
      have P3 := Lib.hid (OwnB.ext P3.out q)
      clear q
      obtain ⟨kz0, kz1, kz2, kz3, _, _, _, _⟩ := Z.out
      go_wp2_with fail
      refine (calls_bo (implTermValid _ _ _ _ E.out) HVAL.out).mono ?_
      rintro e w7 ⟨rfl, q⟩
      clear kz0 kz1 kz2 kz3
      have B := Lib.hid (B.out.trans q)
      have V := Lib.hid (Tm.at_ext q V.out)
      have U := Lib.hid (Tm.at_ext q U.out)
      have X := Lib.hid (X.out.ext q)
      have Y := Lib.hid (Y.out.ext q)
      have E := Lib.hid (Tm.at_ext q E.out)
      have Z := Lib.hid (Z.out.ext q)
      have F := Lib.hid (Tm.at_ext q F.out)
      have Q := Lib.hid (Q.out.ext q)
      have P1 := Lib.hid (OwnB.ext P1.out q)
      have P2 := Lib.hid (OwnB.ext P2.out q)
      have P3 := Lib.hid (OwnB.ext P3.out q)
      clear q
      go_wp2_with fail
      refine (lawspgBinds r1 _ _ _ _ _ (OwnB.sl P1.out HRL.out) (OwnB.sl P2.out HRL.out)).mono ?_
      rintro e w8 ⟨rfl, q⟩
      have B := Lib.hid (B.out.trans q)
      have V := Lib.hid (Tm.at_ext q V.out)
      have U := Lib.hid (Tm.at_ext q U.out)
      have X := Lib.hid (X.out.ext q)
      have Y := Lib.hid (Y.out.ext q)
      have E := Lib.hid (Tm.at_ext q E.out)
      have Z := Lib.hid (Z.out.ext q)
      have F := Lib.hid (Tm.at_ext q F.out)
      have Q := Lib.hid (Q.out.ext q)
      have P1 := Lib.hid (OwnB.ext P1.out q)
      have P2 := Lib.hid (OwnB.ext P2.out q)
      have P3 := Lib.hid (OwnB.ext P3.out q)
      clear q
      go_wp2_with fail
      go_ret
      exact ⟨rfl, B.out⟩
    · have hq := eq_codes hval
      have HVAL := Lib.hid hval
      clear hval
      rw [hr3, hr1, hn1, hb3, hn2] at hq
      obtain ⟨rfl, hq⟩ := hq
      clear hr1 hn1 hr2 hn2 hr3 hb3
      rcases hq with ⟨rfl, rfl, rfl⟩ | ⟨rfl, rfl, rfl⟩ | ⟨rfl, rfl, rfl⟩
      · have tok : True := trivial
        obtain ⟨kz0, kz1, kz2, kz3, _, _, _, _⟩ := Z.out
        go_wp2_with fail
        refine (calls_cb (implCallBuiltin _ _ _ _ E.out) HR1.out HN1.out).mono ?_
        rintro e w2 ⟨a3, c3, rfl, ho, q⟩
        clear kz0 kz1 kz2 kz3
        have B := Lib.hid (B.out.trans q)
        have V := Lib.hid (Tm.at_ext q V.out)
        have U := Lib.hid (Tm.at_ext q U.out)
        have X := Lib.hid (X.out.ext q)
        have Y := Lib.hid (Y.out.ext q)
        have E := Lib.hid (Tm.at_ext q E.out)
        have Z := Lib.hid (Z.out.ext q)
        have F := Lib.hid (Tm.at_ext q F.out)
        have Q := Lib.hid (Q.out.ext q)
        clear q
        have P1 := Lib.hid ho
        clear ho
        obtain ⟨kz0, kz1, kz2, kz3, _, _, _, _⟩ := Z.out
        go_wp2_with fail
        refine (calls_cb (specCallBuiltin _ _ _ _ E.out) HR1.out HN1.out).mono ?_
        rintro e w3 ⟨a4, c4, rfl, ho, q⟩
        clear kz0 kz1 kz2 kz3
        have B := Lib.hid (B.out.trans q)
        have V := Lib.hid (Tm.at_ext q V.out)
        have U := Lib.hid (Tm.at_ext q U.out)
        have X := Lib.hid (X.out.ext q)
        have Y := Lib.hid (Y.out.ext q)
        have E := Lib.hid (Tm.at_ext q E.out)
        have Z := Lib.hid (Z.out.ext q)
        have F := Lib.hid (Tm.at_ext q F.out)
        have Q := Lib.hid (Q.out.ext q)
        have P1 := Lib.hid (OwnB.ext P1.out q)
        clear q
        have P2 := Lib.hid ho
        clear ho
        obtain ⟨kq0, kq1, kq2, kq3, _, _, _, _⟩ := Q.out
        go_wp2_with fail
        refine (calls_cb (implCallBuiltin _ _ _ _ F.out) HR2.out HN2.out).mono ?_
        rintro e w4 ⟨a5, c5, rfl, _, q⟩
        clear kq0 kq1 kq2 kq3
        have B := Lib.hid (B.out.trans q)
        have V := Lib.hid (Tm.at_ext q V.out)
        have U := Lib.hid (Tm.at_ext q U.out)
        have X := Lib.hid (X.out.ext q)
        have Y := Lib.hid (Y.out.ext q)
        have E := Lib.hid (Tm.at_ext q E.out)
        have Z := Lib.hid (Z.out.ext q)
        have F := Lib.hid (Tm.at_ext q F.out)
        have Q := Lib.hid (Q.out.ext q)
        have P1 := Lib.hid (OwnB.ext P1.out q)
        have P2 := Lib.hid (OwnB.ext P2.out q)
        clear q
        obtain ⟨kx0, kx1, kx2, kx3, _, _, _, _⟩ := X.out
        obtain ⟨ky0, ky1, ky2, ky3, _, _, _, _⟩ := Y.out
        go_wp2_with fail
        refine (calls_bd (implUnifyTerms t u _ _ _ _ (Tm.at_mono (S' := fun _ => True) (fun _ _ => trivial) (Agree.refl _) V.out) (Tm.at_mono (fun _ _ => trivial) (Agree.refl _) U.out)) HR3.out HB3.out).mono ?_
        rintro e w5 ⟨a6, c6, rfl, ho, q⟩
        clear kx0 kx1 kx2 kx3
        clear ky0 ky1 ky2 ky3
        have B := Lib.hid (B.out.trans q)
        have V := Lib.hid (Tm.at_ext q V.out)
        have U := Lib.hid (Tm.at_ext q U.out)
        have X := Lib.hid (X.out.ext q)
        have Y := Lib.hid (Y.out.ext q)
        have E := Lib.hid (Tm.at_ext q E.out)
        have Z := Lib.hid (Z.out.ext q)
        have F := Lib.hid (Tm.at_ext q F.out)
        have Q := Lib.hid (Q.out.ext q)
        have P1 := Lib.hid (OwnB.ext P1.out q)
        have P2 := Lib.hid (OwnB.ext P2.out q)
        clear q
        have P3 := Lib.hid ho
        clear ho
        obtain ⟨kz0, kz1, kz2, kz3, _, _, _, _⟩ := Z.out
        go_wp2_with fail
        refine (lawspgBinds r3 _ _ _ _ _ (OwnB.sl P1.out HRL.out) (OwnB.sl P2.out HRL.out)).mono ?_
        rintro e w6 ⟨rfl, q⟩
        clear kz0 kz1 kz2 kz3
        have B := Lib.hid (B.out.trans q)
        have V := Lib.hid (Tm.at_ext q V.out)
        have U := Lib.hid (Tm.at_ext q U.out)
        have X := Lib.hid (X.out.ext q)
        have Y := Lib.hid (Y.out.ext q)
        have E := Lib.hid (Tm.at_ext q E.out)
        have Z := Lib.hid (Z.out.ext q)
        have F := Lib.hid (Tm.at_ext q F.out)
        have Q := Lib.hid (Q.out.ext q)
        have P1 := Lib.hid (OwnB.ext P1.out q)
        have P2 := Lib.hid (OwnB.ext P2.out q)
        have P3 := Lib.hid (OwnB.ext P3.out q)
        clear q
        obtain ⟨kz0, kz1, kz2, kz3, _, _, _, _⟩ := Z.out
        go_wp2_with fail
        refine (calls_bo (implTermValid _ _ _ _ E.out) HVAL.out).mono ?_
        rintro e w7 ⟨rfl, q⟩
        clear kz0 kz1 kz2 kz3
        have B := Lib.hid (B.out.trans q)
        have V := Lib.hid (Tm.at_ext q V.out)
        have U := Lib.hid (Tm.at_ext q U.out)
        have X := Lib.hid (X.out.ext q)
        have Y := Lib.hid (Y.out.ext q)
        have E := Lib.hid (Tm.at_ext q E.out)
        have Z := Lib.hid (Z.out.ext q)
        have F := Lib.hid (Tm.at_ext q F.out)
        have Q := Lib.hid (Q.out.ext q)
        have P1 := Lib.hid (OwnB.ext P1.out q)
        have P2 := Lib.hid (OwnB.ext P2.out q)
        have P3 := Lib.hid (OwnB.ext P3.out q)
        clear q
        go_wp2_with fail
        refine (lawspgBinds r3 _ _ _ _ _ (OwnB.sl P1.out HRL.out) (OwnB.sl P3.out HRL.out)).mono ?_
        rintro e w8 ⟨rfl, q⟩
        have B := Lib.hid (B.out.trans q)
        have V := Lib.hid (Tm.at_ext q V.out)
        have U := Lib.hid (Tm.at_ext q U.out)
        have X := Lib.hid (X.out.ext q)
        have Y := Lib.hid (Y.out.ext q)
        have E := Lib.hid (Tm.at_ext q E.out)
        have Z := Lib.hid (Z.out.ext q)
        have F := Lib.hid (Tm.at_ext q F.out)
        have Q := Lib.hid (Q.out.ext q)
        have P1 := Lib.hid (OwnB.ext P1.out q)
        have P2 := Lib.hid (OwnB.ext P2.out q)
        have P3 := Lib.hid (OwnB.ext P3.out q)
        clear q
        go_wp2_with fail
        go_ret
        exact ⟨rfl, B.out⟩
      · have tok : True := trivial
        obtain ⟨kz0, kz1, kz2, kz3, _, _, _, _⟩ := Z.out
        go_wp2_with fail
        refine (calls_cb (implCallBuiltin _ _ _ _ E.out) HR1.out HN1.out).mono ?_
        rintro e w2 ⟨a3, c3, rfl, ho, q⟩
        clear kz0 kz1 kz2 kz3
        have B := Lib.hid (B.out.trans q)
        have V := Lib.hid (Tm.at_ext q V.out)
        have U := Lib.hid (Tm.at_ext q U.out)
        have X := Lib.hid (X.out.ext q)
        have Y := Lib.hid (Y.out.ext q)
        have E := Lib.hid (Tm.at_ext q E.out)
        have Z := Lib.hid (Z.out.ext q)
        have F := Lib.hid (Tm.at_ext q F.out)
        have Q := Lib.hid (Q.out.ext q)
        clear q
        have P1 := Lib.hid ho
        clear ho
        obtain ⟨kz0, kz1, kz2, kz3, _, _, _, _⟩ := Z.out
        go_wp2_with fail
        refine (calls_cb (specCallBuiltin _ _ _ _ E.out) HR1.out HN1.out).mono ?_
        rintro e w3 ⟨a4, c4, rfl, ho, q⟩
        clear kz0 kz1 kz2 kz3
        have B := Lib.hid (B.out.trans q)
        have V := Lib.hid (Tm.at_ext q V.out)
        have U := Lib.hid (Tm.at_ext q U.out)
        have X := Lib.hid (X.out.ext q)
        have Y := Lib.hid (Y.out.ext q)
        have E := Lib.hid (Tm.at_ext q E.out)
        have Z := Lib.hid (Z.out.ext q)
        have F := Lib.hid (Tm.at_ext q F.out)
        have Q := Lib.hid (Q.out.ext q)
        have P1 := Lib.hid (OwnB.ext P1.out q)
        clear q
        have P2 := Lib.hid ho
        clear ho
        obtain ⟨kq0, kq1, kq2, kq3, _, _, _, _⟩ := Q.out
        go_wp2_with fail
        refine (calls_cb (implCallBuiltin _ _ _ _ F.out) HR2.out HN2.out).mono ?_
        rintro e w4 ⟨a5, c5, rfl, _, q⟩
        clear kq0 kq1 kq2 kq3
        have B := Lib.hid (B.out.trans q)
        have V := Lib.hid (Tm.at_ext q V.out)
        have U := Lib.hid (Tm.at_ext q U.out)
        have X := Lib.hid (X.out.ext q)
        have Y := Lib.hid (Y.out.ext q)
        have E := Lib.hid (Tm.at_ext q E.out)
        have Z := Lib.hid (Z.out.ext q)
        have F := Lib.hid (Tm.at_ext q F.out)
        have Q := Lib.hid (Q.out.ext q)
        have P1 := Lib.hid (OwnB.ext P1.out q)
        have P2 := Lib.hid (OwnB.ext P2.out q)
        clear q
        obtain ⟨kx0, kx1, kx2, kx3, _, _, _, _⟩ := X.out
        obtain ⟨ky0, ky1, ky2, ky3, _, _, _, _⟩ := Y.out
        go_wp2_with fail
        refine (calls_bd (implUnifyTerms t u _ _ _ _ (Tm.at_mono (S' := fun _ => True) (fun _ _ => trivial) (Agree.refl _) V.out) (Tm.at_mono (fun _ _ => trivial) (Agree.refl _) U.out)) HR3.out HB3.out).mono ?_
        rintro e w5 ⟨a6, c6, rfl, ho, q⟩
        clear kx0 kx1 kx2 kx3
        clear ky0 ky1 ky2 ky3
        have B := Lib.hid (B.out.trans q)
        have V := Lib.hid (Tm.at_ext q V.out)
        have U := Lib.hid (Tm.at_ext q U.out)
        have X := Lib.hid (X.out.ext q)
        have Y := Lib.hid (Y.out.ext q)
        have E := Lib.hid (Tm.at_ext q E.out)
        have Z := Lib.hid (Z.out.ext q)
        have F := Lib.hid (Tm.at_ext q F.out)
        have Q := Lib.hid (Q.out.ext q)
        have P1 := Lib.hid (OwnB.ext P1.out q)
        have P2 := Lib.hid (OwnB.ext P2.out q)
        clear q
        have P3 := Lib.hid ho
        clear ho
        obtain ⟨kz0, kz1, kz2, kz3, _, _, _, _⟩ := Z.out
        go_wp2_with fail
        refine (lawspgBinds r3 _ _ _ _ _ (OwnB.sl P1.out HRL.out) (OwnB.sl P2.out HRL.out)).mono ?_
        rintro e w6 ⟨rfl, q⟩
        clear kz0 kz1 kz2 kz3
        have B := Lib.hid (B.out.trans q)
        have V := Lib.hid (Tm.at_ext q V.out)
        have U := Lib.hid (Tm.at_ext q U.out)
        have X := Lib.hid (X.out.ext q)
        have Y := Lib.hid (Y.out.ext q)
        have E := Lib.hid (Tm.at_ext q E.out)
        have Z := Lib.hid (Z.out.ext q)
        have F := Lib.hid (Tm.at_ext q F.out)
        have Q := Lib.hid (Q.out.ext q)
        have P1 := Lib.hid (OwnB.ext P1.out q)
        have P2 := Lib.hid (OwnB.ext P2.out q)
        have P3 := Lib.hid (OwnB.ext P3.out q)
        clear q
        obtain ⟨kz0, kz1, kz2, kz3, _, _, _, _⟩ := Z.out
        go_wp2_with fail
        refine (calls_bo (implTermValid _ _ _ _ E.out) HVAL.out).mono ?_
        rintro e w7 ⟨rfl, q⟩
        clear kz0 kz1 kz2 kz3
        have B := Lib.hid (B.out.trans q)
        have V := Lib.hid (Tm.at_ext q V.out)
        have U := Lib.hid (Tm.at_ext q U.out)
        have X := Lib.hid (X.out.ext q)
        have Y := Lib.hid (Y.out.ext q)
        have E := Lib.hid (Tm.at_ext q E.out)
        have Z := Lib.hid (Z.out.ext q)
        have F := Lib.hid (Tm.at_ext q F.out)
        have Q := Lib.hid (Q.out.ext q)
        have P1 := Lib.hid (OwnB.ext P1.out q)
        have P2 := Lib.hid (OwnB.ext P2.out q)
        have P3 := Lib.hid (OwnB.ext P3.out q)
        clear q
        go_wp2_with fail
        refine (lawspgBinds r3 _ _ _ _ _ (OwnB.sl P1.out HRL.out) (OwnB.sl P3.out HRL.out)).mono ?_
        rintro e w8 ⟨rfl, q⟩
        have B := Lib.hid (B.out.trans q)
        have V := Lib.hid (Tm.at_ext q V.out)
        have U := Lib.hid (Tm.at_ext q U.out)
        have X := Lib.hid (X.out.ext q)
        have Y := Lib.hid (Y.out.ext q)
        have E := Lib.hid (Tm.at_ext q E.out)
        have Z := Lib.hid (Z.out.ext q)
        have F := Lib.hid (Tm.at_ext q F.out)
        have Q := Lib.hid (Q.out.ext q)
        have P1 := Lib.hid (OwnB.ext P1.out q)
        have P2 := Lib.hid (OwnB.ext P2.out q)
        have P3 := Lib.hid (OwnB.ext P3.out q)
        clear q
        go_wp2_with fail
        go_ret
        exact ⟨rfl, B.out⟩
      · have tok : True := trivial
        obtain ⟨kz0, kz1, kz2, kz3, _, _, _, _⟩ := Z.out
        go_wp2_with fail
        refine (calls_cb (implCallBuiltin _ _ _ _ E.out) HR1.out HN1.out).mono ?_
        rintro e w2 ⟨a3, c3, rfl, ho, q⟩
        clear kz0 kz1 kz2 kz3
        have B := Lib.hid (B.out.trans q)
        have V := Lib.hid (Tm.at_ext q V.out)
        have U := Lib.hid (Tm.at_ext q U.out)
        have X := Lib.hid (X.out.ext q)
        have Y := Lib.hid (Y.out.ext q)
        have E := Lib.hid (Tm.at_ext q E.out)
        have Z := Lib.hid (Z.out.ext q)
        have F := Lib.hid (Tm.at_ext q F.out)
        have Q := Lib.hid (Q.out.ext q)
        clear q
        have P1 := Lib.hid ho
        clear ho
        obtain ⟨kz0, kz1, kz2, kz3, _, _, _, _⟩ := Z.out
        go_wp2_with fail
        refine (calls_cb (specCallBuiltin _ _ _ _ E.out) HR1.out HN1.out).mono ?_
        rintro e w3 ⟨a4, c4, rfl, ho, q⟩
        clear kz0 kz1 kz2 kz3
        have B := Lib.hid (B.out.trans q)
        have V := Lib.hid (Tm.at_ext q V.out)
        have U := Lib.hid (Tm.at_ext q U.out)
        have X := Lib.hid (X.out.ext q)
        have Y := Lib.hid (Y.out.ext q)
        have E := Lib.hid (Tm.at_ext q E.out)
        have Z := Lib.hid (Z.out.ext q)
        have F := Lib.hid (Tm.at_ext q F.out)
        have Q := Lib.hid (Q.out.ext q)
        have P1 := Lib.hid (OwnB.ext P1.out q)
        clear q
        have P2 := Lib.hid ho
        clear ho
        obtain ⟨kq0, kq1, kq2, kq3, _, _, _, _⟩ := Q.out
        go_wp2_with fail
        refine (calls_cb (implCallBuiltin _ _ _ _ F.out) HR2.out HN2.out).mono ?_
        rintro e w4 ⟨a5, c5, rfl, _, q⟩
        clear kq0 kq1 kq2 kq3
        have B := Lib.hid (B.out.trans q)
        have V := Lib.hid (Tm.at_ext q V.out)
        have U := Lib.hid (Tm.at_ext q U.out)
        have X := Lib.hid (X.out.ext q)
        have Y := Lib.hid (Y.out.ext q)
        have E := Lib.hid (Tm.at_ext q E.out)
        have Z := Lib.hid (Z.out.ext q)
        have F := Lib.hid (Tm.at_ext q F.out)
        have Q := Lib.hid (Q.out.ext q)
        have P1 := Lib.hid (OwnB.ext P1.out q)
        have P2 := Lib.hid (OwnB.ext P2.out q)
        clear q
        obtain ⟨kx0, kx1, kx2, kx3, _, _, _, _⟩ := X.out
        obtain ⟨ky0, ky1, ky2, ky3, _, _, _, _⟩ := Y.out
        go_wp2_with fail
        refine (calls_bd (implUnifyTerms t u _ _ _ _ (Tm.at_mono (S' := fun _ => True) (fun _ _ => trivial) (Agree.refl _) V.out) (Tm.at_mono (fun _ _ => trivial) (Agree.refl _) U.out)) HR3.out HB3.out).mono ?_
        rintro e w5 ⟨a6, c6, rfl, ho, q⟩
        clear kx0 kx1 kx2 kx3
        clear ky0 ky1 ky2 ky3
        have B := Lib.hid (B.out.trans q)
        have V := Lib.hid (Tm.at_ext q V.out)
        have U := Lib.hid (Tm.at_ext q U.out)
        have X := Lib.hid (X.out.ext q)
        have Y := Lib.hid (Y.out.ext q)
        have E := Lib.hid (Tm.at_ext q E.out)
        have Z := Lib.hid (Z.out.ext q)
        have F := Lib.hid (Tm.at_ext q F.out)
        have Q := Lib.hid (Q.out.ext q)
        have P1 := Lib.hid (OwnB.ext P1.out q)
        have P2 := Lib.hid (OwnB.ext P2.out q)
        clear q
        have P3 := Lib.hid ho
        clear ho
        obtain ⟨kz0, kz1, kz2, kz3, _, _, _, _⟩ := Z.out
        go_wp2_with fail
        refine (lawspgBinds r3 _ _ _ _ _ (OwnB.sl P1.out HRL.out) (OwnB.sl P2.out HRL.out)).mono ?_
        rintro e w6 ⟨rfl, q⟩
        clear kz0 kz1 kz2 kz3
        have B := Lib.hid (B.out.trans q)
        have V := Lib.hid (Tm.at_ext q V.out)
        have U := Lib.hid (Tm.at_ext q U.out)
        have X := Lib.hid (X.out.ext q)
        have Y := Lib.hid (Y.out.ext q)
        have E := Lib.hid (Tm.at_ext q E.out)
        have Z := Lib.hid (Z.out.ext q)
        have F := Lib.hid (Tm.at_ext q F.out)
        have Q := Lib.hid (Q.out.ext q)
        have P1 := Lib.hid (OwnB.ext P1.out q)
        have P2 := Lib.hid (OwnB.ext P2.out q)
        have P3 := Lib.hid (OwnB.ext P3.out q)
        clear q
        obtain ⟨kz0, kz1, kz2, kz3, _, _, _, _⟩ := Z.out
        go_wp2_with fail
        refine (calls_bo (implTermValid _ _ _ _ E.out) HVAL.out).mono ?_
        rintro e w7 ⟨rfl, q⟩
        clear kz0 kz1 kz2 kz3
        have B := Lib.hid (B.out.trans q)
        have V := Lib.hid (Tm.at_ext q V.out)
        have U := Lib.hid (Tm.at_ext q U.out)
        have X := Lib.hid (X.out.ext q)
        have Y := Lib.hid (Y.out.ext q)
        have E := Lib.hid (Tm.at_ext q E.out)
        have Z := Lib.hid (Z.out.ext q)
        have F := Lib.hid (Tm.at_ext q F.out)
        have Q := Lib.hid (Q.out.ext q)
        have P1 := Lib.hid (OwnB.ext P1.out q)
        have P2 := Lib.hid (OwnB.ext P2.out q)
        have P3 := Lib.hid (OwnB.ext P3.out q)
        clear q
        go_wp2_with fail
        refine (lawspgBinds r3 _ _ _ _ _ (OwnB.sl P1.out HRL.out) (OwnB.sl P3.out HRL.out)).mono ?_
        rintro e w8 ⟨rfl, q⟩
        have B := Lib.hid (B.out.trans q)
        have V := Lib.hid (Tm.at_ext q V.out)
        have U := Lib.hid (Tm.at_ext q U.out)
        have X := Lib.hid (X.out.ext q)
        have Y := Lib.hid (Y.out.ext q)
        have E := Lib.hid (Tm.at_ext q E.out)
        have Z := Lib.hid (Z.out.ext q)
        have F := Lib.hid (Tm.at_ext q F.out)
        have Q := Lib.hid (Q.out.ext q)
        have P1 := Lib.hid (OwnB.ext P1.out q)
        have P2 := Lib.hid (OwnB.ext P2.out q)
        have P3 := Lib.hid (OwnB.ext P3.out q)
        clear q
        go_wp2_with fail
        go_ret
        exact ⟨rfl, B.out⟩
  · go_enter Try.func9, Try.ntmps9
    go_wp2_with fail
    go_ret
    exact ⟨rfl, Below.refl _ _⟩


set_option maxRecDepth 100000 in
theorem lifted (os : Os) (started : os.Started) (H : Type) (enc : TypeId × Value → H) :
    ReturnsInHanded {} Try.checked os 9 .any (Rows.fnUnifyGoalSpec.pre6 enc Try.prog Try.f9 Rows.fnUnifyGoalRow.domain false) (Rows.fnUnifyGoalSpec.post enc Try.prog Try.f9 false true false false) := by
  refine returnsInHanded_of_change (C := Try.checked) own started (by kernel_rfl) Try.func9
    (ChangeSpec.witness6 (enc := enc) (C := Try.checked) false ⟨#[], #[.slice none 0 0], []⟩ 8 (by kernel_rfl) (by kernel_rfl) (by kernel_rfl) (by kernel_rfl)) ?_
  intro W base args ds gs before hval0 hW hcnd _
  have hval : ∀ (j : Nat) t v, Try.f9.params[j]? = some t → args[j]? = some v → Value.okWide Try.prog W .any base t v := hval0
  have hW' := hW
  obtain ⟨p, q, hA0, hV, rfl, hfz, hnd⟩ := hW
  have hA : DataW.TrodAll enc Try.prog W 0 (fun _ => true) true Try.f9.params.toList args.toList ds p := hA0
  rw [Try.params9] at hA hval
  obtain ⟨v0, vs0, d0, ds0, p0, q0, hargs, rfl, rfl, h0, r0⟩ := trodAll_cons hA
  obtain ⟨rfl, rfl, rfl⟩ := trodAll_nil r0
  obtain rfl : args = #[v0] := by cases args; simp_all
  obtain ⟨rfl, rfl⟩ := trodVars_none hV
  have k0 := h0
  have lt0 : ∀ x ∈ p0, x.block < W.heap.size := by obtain ⟨m, hm⟩ := k0; exact DataW.trod_lt m _ _ _ hm
  obtain ⟨a0, len0, cap0, rfl⟩ := okWide_slice Try.underlying22 (hval 0 22 v0 rfl rfl)
  have w0 := bytes_of_trod h0
  clear hA0 hval0 hval
  refine (walk _ W w0).mono fun e W' ⟨he, bel⟩ => ?_
  subst he
  exact ⟨_, rfl, _, _, _, [], _, [], hW', trodAll_mk1 (shut_bool Try.underlying4 _), (trodAll_cons_mk (Below.trod laidOut (by kernel_rfl) (of_decide_eq_true (by kernel_rfl)) k0 bel lt0) trodAll_mk0), rfl, bel.frame _, fun h => by cases h⟩

set_option maxRecDepth 100000 in
theorem over : Rows.fnUnifyGoalRow.holds Try.pinned (OpenSpec.ofChange Rows.fnUnifyGoalSpec) :=
  OpenClaim.holds_of_wide 9 Try.f9 rfl rfl rfl rfl rfl rfl rfl ⟨rfl, rfl, rfl, rfl, rfl⟩ rfl rfl rfl rfl rfl (by kernel_rfl) Try.func9 (by kernel_rfl)
    (of_decide_eq_true (by kernel_rfl)) (by unfold Func.isWrapper; first | (rw [if_pos (by decide +kernel)]; kernel_rfl) | (rw [if_neg (by decide +kernel)]; exact ⟨rfl, rfl⟩))
    (fun os started H enc _ => lifted os started H enc)

/-- the statement -/
theorem proved : Rows.FnUnifyGoalSaid := over
end Go.Proofs.Ytdelhgodhkbjdaa.fnUnifyGoal
