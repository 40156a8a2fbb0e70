/-
  What variables stand for: a list of 26 terms, zeroT for nothing.
-/
import Derived.Test.YtifklfnpaigdkaaDoorCmp
namespace Go.Proofs.YtifklfnpaigdkaaDoor
open Go.RowKit
set_option linter.unusedVariables false

def zeroT : Tm := .mk 0 0 ⟨#[]⟩ []
def varT (n : Int) : Tm := .mk 1 n ⟨#[]⟩ []
theorem shape_kid {k n : Int} {s : ByteArray} {ks : List Tm} {d : Nat} (h : shapeF (.mk k n s ks) d = true) {j : Nat} {t : Tm} (ht : ks[j]? = some t) : shapeF t (d - 1) = true := by
  simp only [shapeF, Bool.and_eq_true] at h
  exact shapeL_mem h.2 (List.mem_of_getElem? ht)
theorem shape_var {n : Int} {s : ByteArray} {ks : List Tm} {d : Nat} (h : shapeF (.mk 1 n s ks) d = true) : 0 ≤ n ∧ n ≤ 25 := by
  simp only [shapeF, Bool.and_eq_true] at h
  have h2 := h.1.2
  unfold ownF at h2
  simp at h2
  exact ⟨h2.1.1.1, h2.1.1.2⟩

/-- what a variable stands for so far (zeroT: nothing) -/
def lookK (K : List Tm) (n : Int) : Tm := (K[n.toNat]?).getD zeroT
def known0 : List Tm := List.replicate 26 zeroT
theorem look_set {K : List Tm} (hl : K.length = 26) {n m : Int} (hn : 0 ≤ n ∧ n ≤ 25) (hm : 0 ≤ m ∧ m ≤ 25) (u : Tm) : lookK (K.set n.toNat u) m = if m = n then u else lookK K m := by
  unfold lookK
  rw [List.getElem?_set]
  by_cases e : m = n
  · subst e
    rw [if_pos rfl, if_pos rfl, if_pos (by omega)]
    rfl
  · rw [if_neg e, if_neg (by omega)]
theorem look_known0 (n : Int) : lookK known0 n = zeroT := by
  unfold lookK known0
  rw [List.getElem?_replicate]
  split <;> rfl
theorem shape_kind {t : Tm} {d : Nat} (h : shapeF t d = true) : t.kind ≠ 0 := by
  obtain ⟨k, n, s, ks⟩ := t
  rcases shape_own h with ⟨rfl, _⟩ | ⟨rfl, _⟩ | ⟨rfl, _⟩ <;> simp [Tm.kind]
/-- what is known stays known -/
def LeK (K K' : List Tm) : Prop := ∀ n : Int, 0 ≤ n ∧ n ≤ 25 → (lookK K n).kind ≠ 0 → lookK K' n = lookK K n
theorem LeK.trans {A B C : List Tm} (h : LeK A B) (g : LeK B C) : LeK A C := fun n hn hz => by
  have h1 := h n hn hz
  rw [g n hn (by rw [h1]; exact hz), h1]

end Go.Proofs.YtifklfnpaigdkaaDoor
