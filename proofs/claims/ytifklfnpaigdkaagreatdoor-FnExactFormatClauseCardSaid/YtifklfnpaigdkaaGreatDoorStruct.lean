/-
  The reference's l1Struct with kids.
-/
import Derived.Test.YtifklfnpaigdkaaGreatDoorBase2
namespace Go.Proofs.YtifklfnpaigdkaaGreatDoor
open Go.RowKit
set_option linter.unusedVariables false

theorem row_flat {S : Nat → Prop} {w : World} {b : Nat} : ∀ {ts : List Tm} {off : Nat}, Tm.row S w b off ts → ∃ xs, Tm.flat S w ts xs ∧ ∀ j u, xs[j]? = some u → w.cell? ⟨b, off + j, none⟩ = some u
  | [], off, _ => ⟨[], by simp [Tm.flat], by simp⟩
  | t :: ts, off, h => by
    simp only [Tm.row] at h
    obtain ⟨a, cap, h1, h2, h3, h4, h5⟩ := Tm.at_of_cells h.1
    obtain ⟨xs, hx, hc⟩ := row_flat h.2
    refine ⟨tcells t a cap ++ xs, ⟨a, cap, xs, rfl, h5, hx⟩, ?_⟩
    intro j u hj
    match j with
    | 0 => simp [tcells] at hj; subst hj; exact h1
    | 1 => simp [tcells] at hj; subst hj; exact h2
    | 2 => simp [tcells] at hj; subst hj; exact h3
    | 3 => simp [tcells] at hj; subst hj; exact h4
    | j + 4 =>
      simp [tcells] at hj
      rw [show off + (j + 4) = off + 4 + j by omega]
      exact hc j u hj
theorem flat_one {S : Nat → Prop} {w : World} : ∀ {ts : List Tm} {xs : List Value}, Tm.flat S w ts xs → ∀ u ∈ xs, u.oneCell' = true
  | [], xs, h => by simp only [Tm.flat] at h; subst h; simp
  | t :: ts, xs, h => by
    obtain ⟨a, cap, rest, rfl, h1, h2⟩ := h
    have := flat_one h2
    simp [tcells, Value.oneCell']
    exact this

theorem own_empty {w : World} {T b : Nat} (hb : b = w.heap.size) : (w.alloc (.cells #[] T)).ownsRow b T 4 (.slice (some ⟨b, 0, none⟩) 0 0) 0 [] := by
  subst hb
  refine ⟨rfl, .inr ⟨w.heap.size, 0, #[], rfl, Nat.le_refl _, ?_, by omega, by decide, rfl, rfl⟩⟩
  show (w.heap.push _)[w.heap.size]? = _
  simp

theorem grown_cells {W w2 : World} {v : Value} {base : Nat} (hg : W.grownBy w2 v.ownBlock) (hv : ∀ g, v.ownBlock = some g → base ≤ g) (hb : base ≤ W.heap.size) :
    (∀ b o, b < base → w2.cell? ⟨b, o, none⟩ = W.cell? ⟨b, o, none⟩) ∧ (∀ b o, b < base → w2.frozen? ⟨b, o, none⟩ = W.frozen? ⟨b, o, none⟩) :=
  ⟨fun b o h => World.cell?_of_block (w := W) (a := ⟨b, o, none⟩) (hg.block b (by omega) (fun e => by have := hv b e.symm; omega)),
   fun b o h => World.frozen?_of_block (w := W) (a := ⟨b, o, none⟩) (hg.block b (by omega) (fun e => by have := hv b e.symm; omega))⟩
end Go.Proofs.YtifklfnpaigdkaaGreatDoor
