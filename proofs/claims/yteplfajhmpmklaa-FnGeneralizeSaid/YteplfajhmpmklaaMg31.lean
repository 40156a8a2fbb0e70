/-
  The reference's l3Canon and VariantTerms: a term whose variables are numbered anew.
-/
import Derived.Deep.RegionHeld3
import Derived.Test.YteplfajhmpmklaaMg27
import Derived.Test.YteplfajhmpmklaaMg30
namespace Go.Proofs.Yteplfajhmpmklaa
open Go.RowKit
set_option linter.unusedVariables false

/-- a term, numbered anew -/
def ren1 (t : Tm) : Tm := mapF (numT (varsF t [])) t
theorem ren1_eq {t : Tm} (h : shapeF t 30 = true) : renS (varsS t []) t = ren1 t := by
  rw [vars_eq t 30 [] h]
  exact (ren_eq (varsF_nodup t [] (by simp)) t 30 h (varIn_vars t [])).symm
theorem renF_one (t : Tm) : renF [t] = [ren1 t] := rfl
def variantF (t u : Tm) : Bool := validF t && validF u && Tm.same (ren1 t) (ren1 u)

theorem specl1VarsNil (t : Tm) (tv : Value) (S : Nat → Prop) (w : World) (hl : Tm.sz t ≤ 1048576) (ht : Tm.at S w t tv) : Calls Try.prog 84 #[.slice none 0 0, tv] w (IntsOut (varsS t []) w) := by
  refine (specl1Vars _ t (Nat.le_refl _) tv (.slice none 0 0) [] _ (fun b => w.heap.size ≤ b) w (Tm.at_bound ht) (IntI.nil _ _) (fun b h => h) (fun b h _ h2 => by have := h.2; omega) (by simpa using hl)).mono ?_
  rintro e w2 ⟨v2, rfl, hI, hf⟩
  exact ⟨_, rfl, hI, hf.toExt (fun k hk h => by omega)⟩

set_option maxRecDepth 100000 in
set_option maxHeartbeats 4000000 in
theorem specl3Canon (t : Tm) (v : Value) (S : Nat → Prop) (w : World) (hsh : shapeF t 30 = true) (hl : Tm.sz t ≤ 1048576) (ht : Tm.at S w t v) : Calls Try.prog 53 #[v] w (TmO (ren1 t) w) := by
  have HV := Lib.hid (fun w' (e' : Ext w w') => specl1VarsNil t v S w' hl (Tm.at_ext e' ht))
  have HR := Lib.hid (fun w' vv (e' : Ext w w') hz => specl1Rename (varsS t []) _ t (Nat.le_refl _) v vv S w' 30 hsh (Tm.at_ext e' ht) hz)
  have HQ := Lib.hid (ren1_eq hsh)
  obtain ⟨a, c, rfl⟩ := at_form ht
  clear ht hsh hl
  go_enter Try.func53, Try.ntmps53
  go_wp2_with fail
  obtain ⟨W0, hW⟩ : ∃ W0, W0 = ((w.alloc (.cells #[.int .i64 t.kind, .int .i64 t.n, .string t.name, .slice a t.kids.length c] 29)).alloc (.cells #[.int .i64 0, .int .i64 0, .string ⟨#[]⟩, .slice none 0 0] 29)) := ⟨_, rfl⟩
  rw [← hW]
  have X := Lib.hid (show BoxT W0 w.heap.size (.int .i64 t.kind) (.int .i64 t.n) (.string t.name) (.slice a t.kids.length c) by rw [hW]; exact (BoxT.new w _ _ _ _ 29 rfl).ext (Ext.alloc _ _))
  have R := Lib.hid (show BoxT W0 (w.heap.size + 1) (.int .i64 0) (.int .i64 0) (.string ⟨#[]⟩) (.slice none 0 0) by rw [hW]; exact BoxT.new _ _ _ _ _ 29 (by simp))
  have B : Hid (Ext w W0) := Lib.hid (by rw [hW]; exact (Ext.alloc _ _).trans (Ext.alloc _ _))
  clear hW
  obtain ⟨x0, x1, x2, x3, _, _, _, _⟩ := X.out
  obtain ⟨r0, r1, r2, r3, f0, f1, f2, f3⟩ := R.out
  go_region_law (first
    | (go_simp; go_at_call 84; refine (HV.out _ ?_).mono ?_; (first | exact B.out | exact B.out.trans (Ext.drew _)); rintro e w1 ⟨vv, rfl, hI, e1⟩; (try replace e1 := Ext.undrew e1); have I1 := Lib.hid hI.ints; have y0 := e1.cell x0; have y1 := e1.cell x1; have y2 := e1.cell x2; have y3 := e1.cell x3; have E1 := Lib.hid e1; clear hI e1; dsimp only)
    | (go_simp; go_at_call 83; refine (HR.out _ _ (B.out.trans E1.out) I1.out).mono ?_; rw [HQ.out]; rintro e w2 ⟨a2, c2, rfl, ho, e2⟩; (try replace e2 := Ext.undrew e2); have E2 := Lib.hid e2; have O2 := Lib.hid ho; have RR := Lib.hid (R.out.ext (E1.out.trans e2)); obtain ⟨s0, s1, s2, s3, g0, g1, g2, g3⟩ := RR.out; clear ho e2; dsimp only))
  all_goals
    go_wp2_with fail
    refine ret4_set (p := 2) (T := 29) (b := w.heap.size + 1) (by kernel_rfl) (fun _ => by kernel_rfl) (fun _ => by kernel_rfl) rfl rfl s0 s1 s2 s3 ?_
    intro X hX
    have f : Fr (fun b => b = w.heap.size + 1) w2 X := Fr.of_grown hX (fun k e => by cases e; rfl)
    have hz0 := R.out.lt
    have hz1 := Below.size E1.out
    have hz2 := Below.size E2.out
    refine ⟨_, _, rfl, own_mono (fun b hb => ?_) f (fun b hb h => ?_) _ _ O2.out, ((Fr.of_ext ((B.out.trans E1.out).trans E2.out)).trans f).toExt (fun k hk h => by omega)⟩
    · (try simp at hb); omega
    · (try simp at hb); omega

end Go.Proofs.Yteplfajhmpmklaa
