/-
  Replacing variables keeps variables' numbers small.
-/
import Derived.Test.YteplfajhmpmklaaShiftN
import Derived.Test.YteplfajhmpmklaaBdRep
namespace Go.Proofs.Yteplfajhmpmklaa
open Go.RowKit
set_option linter.unusedVariables false

theorem find_mem {n : Int} : ∀ {bs : List Bd} {x : Tm}, findF n bs = some x → ∃ b ∈ bs, b.t = x
  | [], x, h => by simp [findF] at h
  | b :: bs, x, h => by
    simp only [findF] at h
    split at h
    · exact ⟨b, by simp, by simpa using h⟩
    · obtain ⟨c, hc, e⟩ := find_mem h
      exact ⟨c, by simp [hc], e⟩
mutual
theorem nb_apply {bs : List Bd} (hb : ∀ b ∈ bs, NB b.t) : ∀ t : Tm, NB t → NB (applyS bs t)
  | .mk k n s ks, h => by
    simp only [applyS]
    split
    · rename_i hc
      obtain ⟨x, hx⟩ := Option.isSome_iff_exists.1 hc.2
      obtain ⟨b, hm, rfl⟩ := find_mem hx
      rw [hx]
      exact hb b hm
    · exact ⟨h.1, nbl_apply hb ks h.2⟩
theorem nbl_apply {bs : List Bd} (hb : ∀ b ∈ bs, NB b.t) : ∀ ts : List Tm, NBL ts → NBL (applySL bs ts)
  | [], _ => trivial
  | t :: ts, h => ⟨nb_apply hb t h.1, nbl_apply hb ts h.2⟩
end

end Go.Proofs.Yteplfajhmpmklaa
