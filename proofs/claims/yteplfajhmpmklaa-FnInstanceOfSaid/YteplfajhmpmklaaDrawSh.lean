/-
  What DrawShiftTerm draws: a term and a number.
-/
import Derived.Test.YteplfajhmpmklaaDraws
import Derived.Test.YteplfajhmpmklaaShift
namespace Go.Proofs.Yteplfajhmpmklaa
open Go.RowKit
set_option linter.unusedVariables false

theorem rdnum_newd (zs : List Int) {r p : Nat} {w : World} {T : Nat} {cs : Array Value} (n : Nat) (hn : zs.length = n) (hcs : cs = (zs.map (Value.int .i64)).toArray) (hl : n ≤ 1048576) (h0 : zs ≠ []) (hp : p ≤ 1099511627776) (hr : Rd w r p) {b : Nat} (hb : b = w.heap.size) :
    Calls Try.prog 72 #[.pointer (some ⟨r, 0, none⟩), .slice (some ⟨b, 0, none⟩) n n] ((w.alloc (.cells cs T)).drew) (NumPost r p zs w) := by
  subst hb
  have hlt := hr.lt
  refine (rdnum r p zs _ _ hp (hr.ext ((Ext.alloc _ _).trans (Ext.drew _))) h0 ?_ (IntsAt.ext (ints_at_new zs n hn w T cs hcs hl) (Ext.drew _))).mono ?_
  · rintro b o c l h
    simp at h; omega
  · rintro e w' ⟨s, h1, h2, h3, h4⟩
    exact ⟨s, h1, h2, h3, (ExtR.of_ext ((Ext.alloc _ _).trans (Ext.drew _))).trans h4⟩
theorem BoxT.four {w : World} {b : Nat} {v0 v1 v2 v3 : Value} (h : BoxT w b v0 v1 v2 v3) : w.cell? ⟨b, 0, none⟩ = some v0 ∧ w.cell? ⟨b, 1, none⟩ = some v1 ∧ w.cell? ⟨b, 2, none⟩ = some v2 ∧ w.cell? ⟨b, 3, none⟩ = some v3 := ⟨h.1, h.2.1, h.2.2.1, h.2.2.2.1⟩
theorem setfour {w : World} {b c : Nat} {v0 v1 v2 v3 u0 u1 u2 u3 : Value} (hb : ¬ b = c) (h : BoxT w b v0 v1 v2 v3) :
    ((((w.setCell ⟨c, 0, none⟩ u0).setCell ⟨c, 1, none⟩ u1).setCell ⟨c, 2, none⟩ u2).setCell ⟨c, 3, none⟩ u3).cell? ⟨b, 0, none⟩ = some v0 ∧ ((((w.setCell ⟨c, 0, none⟩ u0).setCell ⟨c, 1, none⟩ u1).setCell ⟨c, 2, none⟩ u2).setCell ⟨c, 3, none⟩ u3).cell? ⟨b, 1, none⟩ = some v1 ∧ ((((w.setCell ⟨c, 0, none⟩ u0).setCell ⟨c, 1, none⟩ u1).setCell ⟨c, 2, none⟩ u2).setCell ⟨c, 3, none⟩ u3).cell? ⟨b, 2, none⟩ = some v2 ∧ ((((w.setCell ⟨c, 0, none⟩ u0).setCell ⟨c, 1, none⟩ u1).setCell ⟨c, 2, none⟩ u2).setCell ⟨c, 3, none⟩ u3).cell? ⟨b, 3, none⟩ = some v3 :=
  BoxT.four (h.fr (M := fun k => k = c) (Fr.of_grown (set4_grown w c u0 u1 u2 u3) (fun k e => by cases e; rfl)) hb)
/-- a drawn term and number -/
def TmNOut (zs : List Int) (w : World) (e : Ending) (w' : World) : Prop := ∃ t v n, e = .returned (.tuple #[v, .int .i64 n]) ∧ n ∈ zs ∧ Tm.at (fun b => w.heap.size ≤ b) w' t v ∧ Ext w w'


end Go.Proofs.Yteplfajhmpmklaa
