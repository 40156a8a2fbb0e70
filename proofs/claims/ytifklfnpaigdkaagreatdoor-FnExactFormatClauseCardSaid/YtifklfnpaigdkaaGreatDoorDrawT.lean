/-
  The reference's l1Draw: it draws a small valid term.
-/
import Derived.Test.YtifklfnpaigdkaaGreatDoorApp
namespace Go.Proofs.YtifklfnpaigdkaaGreatDoor
open Go.RowKit
set_option linter.unusedVariables false

def drawNames : List ByteArray := [⟨#[97]⟩, ⟨#[98]⟩, ⟨#[110, 105, 108]⟩, ⟨#[91, 93]⟩, ⟨#[102, 111, 111]⟩, ⟨#[43]⟩, ⟨#[46]⟩, ⟨#[102]⟩, ⟨#[103]⟩, ⟨#[115]⟩, ⟨#[61]⟩, ⟨#[105, 115]⟩]
/-- a drawn term of at most d levels -/
def Drawn : Nat → Tm → Prop
  | 0, _ => False
  | d + 1, .mk k n s ks => (k = 1 ∧ 0 ≤ n ∧ n ≤ 3 ∧ s = ⟨#[]⟩ ∧ ks = []) ∨ (k = 2 ∧ -999 ≤ n ∧ n ≤ 999 ∧ s = ⟨#[]⟩ ∧ ks = []) ∨ (k = 3 ∧ n = 0 ∧ s ∈ drawNames ∧ ks.length ≤ 3 ∧ ∀ u ∈ ks, Drawn d u)
theorem Drawn.up : ∀ (d : Nat) (t : Tm), Drawn d t → Drawn (d + 1) t
  | 0, _, h => h.elim
  | d + 1, .mk k n s ks, h => by
    rcases h with h | h | ⟨h1, h2, h3, h4, h5⟩
    · exact .inl h
    · exact .inr (.inl h)
    · exact .inr (.inr ⟨h1, h2, h3, h4, fun u hu => Drawn.up d u (h5 u hu)⟩)
theorem Drawn.name {d : Nat} {t : Tm} (h : Drawn d t) : t.name.size ≤ 6 := by
  obtain ⟨k, n, s, ks⟩ := t
  cases d with
  | zero => exact h.elim
  | succ d =>
    rcases h with ⟨_, _, _, rfl, _⟩ | ⟨_, _, _, rfl, _⟩ | ⟨_, _, h3, _⟩
    · show (⟨#[]⟩ : ByteArray).size ≤ 6; decide
    · show (⟨#[]⟩ : ByteArray).size ≤ 6; decide
    · have hall : ∀ x ∈ drawNames, x.size ≤ 6 := by decide
      exact hall s h3
def dC : Nat → Nat
  | 0 => 4
  | d + 1 => 4 + 3 * dC d
theorem dC_ge : ∀ d, 4 ≤ dC d
  | 0 => Nat.le_refl _
  | d + 1 => by simp [dC]
/-- what a draw leaves: a term, the source asked at most C times more -/
def TmPost (r p C : Nat) (D : Tm → Prop) (w : World) (e : Ending) (w' : World) : Prop :=
  ∃ t v p', e = .returned v ∧ Tm.at (fun b => w.heap.size ≤ b) w' t v ∧ D t ∧ Rd w' r p' ∧ p' ≤ p + C ∧ ExtR r w w'



end Go.Proofs.YtifklfnpaigdkaaGreatDoor
