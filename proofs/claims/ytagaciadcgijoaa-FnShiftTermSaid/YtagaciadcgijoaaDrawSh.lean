/-
  What DrawShiftTerm draws: a term and a number.
-/
import Derived.Test.YtagaciadcgijoaaDraws
import Derived.Test.YtagaciadcgijoaaShift
namespace Go.Proofs.Ytagaciadcgijoaa
open Go.RowKit
set_option linter.unusedVariables false

theorem rdnum_newd (zs : List Int) {r p : Nat} {w : World} {T : Nat} {cs : Array Value} (n : Nat) (hn : zs.length = n) (hcs : cs = (zs.map (Value.int .i64)).toArray) (hl : n ≤ 1048576) (h0 : zs ≠ []) (hp : p ≤ 1099511627776) (hr : Rd w r p) {b : Nat} (hb : b = w.heap.size) :
    Calls Try.prog 64 #[.pointer (some ⟨r, 0, none⟩), .slice (some ⟨b, 0, none⟩) n n] ((w.alloc (.cells cs T)).drew) (NumPost r p zs w) := by
  subst hb
  have hlt := hr.lt
  refine (rdnum r p zs _ _ hp (hr.ext ((Ext.alloc _ _).trans (Ext.drew _))) h0 ?_ (IntsAt.ext (ints_at_new zs n hn w T cs hcs hl) (Ext.drew _))).mono ?_
  · rintro b o c l h
    simp at h; omega
  · rintro e w' ⟨s, h1, h2, h3, h4⟩
    exact ⟨s, h1, h2, h3, (ExtR.of_ext ((Ext.alloc _ _).trans (Ext.drew _))).trans h4⟩
theorem BoxT.four {w : World} {b : Nat} {v0 v1 v2 v3 : Value} (h : BoxT w b v0 v1 v2 v3) : w.cell? ⟨b, 0, none⟩ = some v0 ∧ w.cell? ⟨b, 1, none⟩ = some v1 ∧ w.cell? ⟨b, 2, none⟩ = some v2 ∧ w.cell? ⟨b, 3, none⟩ = some v3 := ⟨h.1, h.2.1, h.2.2.1, h.2.2.2.1⟩
theorem setfour {w : World} {b c : Nat} {v0 v1 v2 v3 u0 u1 u2 u3 : Value} (hb : ¬ b = c) (h : BoxT w b v0 v1 v2 v3) :
    ((((w.setCell ⟨c, 0, none⟩ u0).setCell ⟨c, 1, none⟩ u1).setCell ⟨c, 2, none⟩ u2).setCell ⟨c, 3, none⟩ u3).cell? ⟨b, 0, none⟩ = some v0 ∧ ((((w.setCell ⟨c, 0, none⟩ u0).setCell ⟨c, 1, none⟩ u1).setCell ⟨c, 2, none⟩ u2).setCell ⟨c, 3, none⟩ u3).cell? ⟨b, 1, none⟩ = some v1 ∧ ((((w.setCell ⟨c, 0, none⟩ u0).setCell ⟨c, 1, none⟩ u1).setCell ⟨c, 2, none⟩ u2).setCell ⟨c, 3, none⟩ u3).cell? ⟨b, 2, none⟩ = some v2 ∧ ((((w.setCell ⟨c, 0, none⟩ u0).setCell ⟨c, 1, none⟩ u1).setCell ⟨c, 2, none⟩ u2).setCell ⟨c, 3, none⟩ u3).cell? ⟨b, 3, none⟩ = some v3 :=
  BoxT.four (h.fr (M := fun k => k = c) (Fr.of_grown (set4_grown w c u0 u1 u2 u3) (fun k e => by cases e; rfl)) hb)
/-- a drawn term and number -/
def TmNOut (zs : List Int) (w : World) (e : Ending) (w' : World) : Prop := ∃ t v n, e = .returned (.tuple #[v, .int .i64 n]) ∧ n ∈ zs ∧ Tm.at (fun b => w.heap.size ≤ b) w' t v ∧ Ext w w'

set_option maxRecDepth 100000 in
set_option maxHeartbeats 2000000 in
theorem drawShiftTerm (v : Value) (w : World) (hv : BytesAt w v) : Calls Try.prog 32 #[v] w (TmNOut [1, 3, 0, -1, 22, 26, -26] w) := by
  have B1 := Lib.hid (BoxT.new w (.int .i64 0) (.int .i64 0) (.string ⟨#[]⟩) (.slice none 0 0) 25 rfl)
  have HV := Lib.hid (hv.ext (Ext.alloc w (.cells #[.int .i64 0, .int .i64 0, .string ⟨#[]⟩, .slice none 0 0] 25)))
  obtain ⟨a, len, cap, rfl, _⟩ := hv
  go_enter Try.func32, Try.ntmps32
  go_wp2_with fail
  refine (specl18Open _ _ HV.out).mono ?_
  rintro e w1 ⟨r, rfl, hr, hrd, e1⟩
  have hr : w.heap.size + 1 ≤ r := by simp at hr; omega
  have hlt := hrd.lt
  have nr : w.heap.size ≠ r := by omega
  have R := Lib.hid hrd
  have B1 := Lib.hid (B1.out.ext e1)
  have E1 := Lib.hid ((Ext.alloc w (.cells #[.int .i64 0, .int .i64 0, .string ⟨#[]⟩, .slice none 0 0] 25)).trans e1)
  clear hrd e1 HV
  go_wp2_with fail
  refine (specl1Some r 0 _ (by omega) R.out).mono ?_
  rintro e w2 ⟨t, v2, p2, rfl, hv2, _, hr2, hp2, he2⟩
  have R := Lib.hid hr2
  have V := Lib.hid hv2
  have B1 := Lib.hid (B1.out.extR he2 nr)
  have E := Lib.hid he2
  have s2 := he2.1.size
  clear hv2 hr2 he2
  go_wp2_with fail
  refine (specl1Mutate r p2 t v2 _ _ (by omega) R.out V.out).mono ?_
  rintro e w3 ⟨u, v3, p3, rfl, hv3, _, hr3, hp3, he3⟩
  obtain ⟨a3, c3, rfl⟩ := at_form hv3
  have ea := Ext.alloc w3 (.cells #[.int .i64 u.kind, .int .i64 u.n, .string u.name, .slice a3 u.kids.length c3] 25)
  have T := Lib.hid (BoxT.new w3 (.int .i64 u.kind) (.int .i64 u.n) (.string u.name) (.slice a3 u.kids.length c3) 25 rfl)
  have s3 := he3.1.size
  have R := Lib.hid (hr3.ext ea)
  have V := Lib.hid (Tm.at_ext ea hv3)
  have B1 := Lib.hid ((B1.out.extR he3 nr).ext ea)
  have E := Lib.hid ((E.out.trans he3).trans (ExtR.of_ext ea))
  clear hv3 hr3 he3 ea
  go_wp2_with fail
  obtain ⟨w4, hw4⟩ : ∃ x, x = w3.alloc (.cells #[.int .i64 u.kind, .int .i64 u.n, .string u.name, .slice a3 u.kids.length c3] 25) := ⟨_, rfl⟩
  rw [← hw4] at T R V B1 E ⊢
  have s4 : w3.heap.size + 1 ≤ w4.heap.size := by rw [hw4]; simp
  clear hw4
  have nT : w3.heap.size ≠ r := by omega
  have m1 : ¬ w3.heap.size = w.heap.size := by omega
  have hb1 := B1.out.lt
  obtain ⟨t0, t1, t2, t3, _, _, _, _⟩ := T.out
  go_region_held3 (fun w' => w'.cell? ⟨w3.heap.size, 0, none⟩ = some (.int .i64 u.kind) ∧ w'.cell? ⟨w3.heap.size, 1, none⟩ = some (.int .i64 u.n) ∧ w'.cell? ⟨w3.heap.size, 2, none⟩ = some (.string u.name) ∧ w'.cell? ⟨w3.heap.size, 3, none⟩ = some (.slice a3 u.kids.length c3))
    ((first | with_reducible exact BoxT.four T.out | with_reducible exact BoxT.four (T.out.ext (Ext.drew _)) | with_reducible exact BoxT.four (T.out.ext (Ext.alloc _ _)) | with_reducible exact BoxT.four (T.out.ext ((Ext.alloc _ _).trans (Ext.drew _))) | with_reducible exact BoxT.four (T.out.extR he5 nT) | exact setfour m1 (T.out.extR he5 nT)))
    ((go_at_call 64; (first | refine (rdnum_new [1, 3, 0, -1, 22, 26, -26] 7 rfl rfl (by decide) (by simp) (by omega) R.out (by simp)).mono ?_ | refine (rdnum_newd [1, 3, 0, -1, 22, 26, -26] 7 rfl rfl (by decide) (by simp) (by omega) R.out (by simp)).mono ?_); rintro e w5 ⟨n, rfl, hn, hr5, he5⟩; obtain ⟨g0, g1, g2, g3, g4, g5, g6, g7⟩ := B1.out.extR he5 nr))
  all_goals go_wp2_with fail
  all_goals
    refine ret4b_set (p := 2) (q := 3) (T := 25) (b := w.heap.size) (by kernel_rfl) (fun _ => by kernel_rfl) (fun _ => by kernel_rfl) rfl rfl rfl (B1.out.extR he5 nr) ?_
    intro X hX
    have E' := ExtR.below E1.out (E.out.trans he5) (by omega)
    have V' := Tm.at_mono (fun b h => h) (he5.agree (S := fun b => w2.heap.size ≤ b) (by omega)) V.out
    refine ⟨u, _, n, rfl, hn, Tm.at_mono (fun b h => ?_) (hX.agree (S := fun b => w2.heap.size ≤ b) (fun k hk h => by omega)) V', ((Fr.of_ext E').trans (hX.mono (fun k _ h => show w.heap.size ≤ k by omega))).toExt (fun k hk hm => by omega)⟩
    omega

end Go.Proofs.Ytagaciadcgijoaa
