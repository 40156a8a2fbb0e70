/-
  The reference's l1Some and l1Mutate: a term is drawn; a copy of a term, sometimes changed.
-/
import Derived.Test.YtifklfnpaigdkaaGreatDoorDrawT
import Derived.Test.YtifklfnpaigdkaaGreatDoorCopy
import Derived.Deep.LoopGhost
namespace Go.Proofs.YtifklfnpaigdkaaGreatDoor
open Go.RowKit
set_option linter.unusedVariables false

theorem AppI.bound {T : Nat} {Z : Nat → Prop} {ts : List Tm} {v : Value} {w : World} (h : AppI T Z ts v w) : AppI T (fun b => Z b ∧ b < w.heap.size) ts v w := by
  obtain ⟨xs, h1, h2, h3⟩ := h
  exact ⟨xs, h1, fun g hg => ⟨h2 g hg, (h1.lt g hg).2⟩, flat_mono (fun b h => ⟨⟨h.1.1, h.2⟩, h.1.2⟩) (Agree.refl w) (flat_bound h3)⟩
theorem leaf_end2 {B r p P q C : Nat} {w wk X : World} {D : Tm → Prop} {t : Tm} {v : Value} (hB : w.heap.size ≤ B) (hX : wk.grownBy X (some B)) (he : ExtR r w wk) (hr0 : Rd w r q) (hr : Rd wk r P)
    (hv : Tm.at (fun b => w.heap.size ≤ b ∧ b ≠ B) wk t v) (hd : D t) (hp : P ≤ p + C) : TmPost r p C D w (.returned v) X := by
  have hrk := hr0.lt
  have f : Fr (fun k => k = B) wk X := Fr.of_grown hX (fun k e => by cases e; rfl)
  exact ⟨t, v, P, rfl, Tm.at_mono (fun b h => h.1) (f.agree (S := fun b => w.heap.size ≤ b ∧ b ≠ B) (fun k hk h => hk.2 h)) hv, hd, Rd.fr hr0 he hr f (fun k _ h => by omega), hp, he.fr f (fun k _ h => by omega)⟩



end Go.Proofs.YtifklfnpaigdkaaGreatDoor
