/-
  Texts of terms: the program's text of every term; plainText, FormatTerm; how operators are written.
-/
import Derived.Test.YtognkaebiafgbaaMu20
import Derived.Test.YtognkaebiafgbaaMu21
namespace Go.Proofs.Ytognkaebiafgbaa
open Go.RowKit
set_option linter.unusedVariables false
theorem valid_parts {t : Tm} (h : validF t = true) : shapeF t 30 = true ∧ Tm.sz t ≤ 120 := by
  rw [valid_eq] at h
  simpa using h
theorem op_word {s : List UInt8} (h : 0 < opLevelF s) : wordF s = (s == [105, 115] || s == [109, 111, 100]) := by
  unfold opLevelF at h
  split at h
  · rename_i h'
    rcases h' with rfl | rfl | rfl | rfl | rfl | rfl | rfl | rfl | rfl <;> rfl
  · split at h
    · rename_i h'
      rcases h' with rfl | rfl <;> rfl
    · split at h
      · rename_i h'
        rcases h' with rfl | rfl | rfl <;> rfl
      · omega
theorem op_le3 (s : List UInt8) : opLevelF s ≤ 3 := by unfold opLevelF; repeat' split <;> omega
end Go.Proofs.Ytognkaebiafgbaa

namespace Go.Proofs.Ytognkaebiafgbaa
open Go.RowKit
set_option linter.unusedVariables false
def opTab : List (List UInt8 × List UInt8) := [([43], [43]), ([45], [45]), ([42], [42]), ([47, 47], [47, 47]), ([61], [61]), ([92, 61], [92, 61]), ([61, 61], [61, 61]), ([60], [60]), ([62], [62]), ([61, 60], [61, 60]), ([62, 61], [62, 61]), ([61, 58, 61], [61, 58, 61]), ([105, 115], [32, 105, 115, 32]), ([109, 111, 100], [32, 109, 111, 100, 32])]
theorem opP_eq (rest : List UInt8) : opP rest = opTab.foldl (fun best s => if (s.2.isPrefixOf rest && decide (best.length < s.1.length)) = true then s.1 else best) [] := by
  simp only [opP, signs, wordOps, List.cons_append, List.nil_append, List.foldl_cons, List.foldl_nil, ByteArray.toList_eq]
  rfl
theorem op_cases {s : List UInt8} (h : 0 < opLevelF s) : s = [61] ∨ s = [92, 61] ∨ s = [61, 61] ∨ s = [60] ∨ s = [62] ∨ s = [61, 60] ∨ s = [62, 61] ∨ s = [61, 58, 61] ∨ s = [105, 115] ∨ s = [43] ∨ s = [45] ∨ s = [42] ∨ s = [47, 47] ∨ s = [109, 111, 100] := by
  unfold opLevelF at h
  split at h
  · rename_i h'
    rcases h' with h | h | h | h | h | h | h | h | h <;> simp [h]
  · split at h
    · rename_i h'
      rcases h' with h | h <;> simp [h]
    · split at h
      · rename_i h'
        rcases h' with h | h | h <;> simp [h]
      · omega
def clB (c : UInt8) : Prop := c = 41 ∨ c = 44 ∨ c = 93 ∨ c = 124 ∨ c = 46 ∨ c = 58
theorem opP_cl {c : UInt8} {r : List UInt8} (h : clB c) : opP (c :: r) = [] := by
  rw [opP_eq]
  rcases h with rfl | rfl | rfl | rfl | rfl | rfl <;> rfl
theorem opP_nil : opP [] = [] := by rw [opP_eq]; rfl
theorem pl_facts {b : UInt8} {r : List UInt8} (h : plB (b :: r) = true) : ¬ (61 = b) ∧ ¬ (60 = b) ∧ ¬ (62 = b) ∧ ¬ (58 = b) ∧ ¬ (47 = b) := by
  have ne : ∀ n : Nat, n < 256 → ¬ (97 ≤ n ∧ n ≤ 122) → ¬ (48 ≤ n ∧ n ≤ 57) → ¬ (65 ≤ n ∧ n ≤ 90) → n ≠ 91 → n ≠ 40 → ¬ (UInt8.ofNat n = b) := fun n h0 h1 h2 h3 h4 h5 => by
    rintro rfl
    simp only [plB, UInt8.toNat_ofNat', Bool.or_eq_true, decide_eq_true_eq, beq_iff_eq] at h
    have e : n % 2 ^ 8 = n := Nat.mod_eq_of_lt (by omega)
    rw [e] at h
    rcases h with (((h | h) | h) | h) | h
    · exact h1 h
    · exact h2 h
    · exact h3 h
    · have := congrArg UInt8.toNat h; rw [UInt8.toNat_ofNat', e] at this; exact h4 this
    · have := congrArg UInt8.toNat h; rw [UInt8.toNat_ofNat', e] at this; exact h5 this
  exact ⟨ne 61 (by omega) (by omega) (by omega) (by omega) (by omega) (by omega), ne 60 (by omega) (by omega) (by omega) (by omega) (by omega) (by omega), ne 62 (by omega) (by omega) (by omega) (by omega) (by omega) (by omega),
    ne 58 (by omega) (by omega) (by omega) (by omega) (by omega) (by omega), ne 47 (by omega) (by omega) (by omega) (by omega) (by omega) (by omega)⟩
def RestO (rest : List UInt8) : Prop := rest = [] ∨ (∃ c r, rest = c :: r ∧ clB c) ∨ (∃ s b r, rest = spaced s ++ b :: r ∧ 0 < opLevelF s ∧ plB (b :: r) = true)
theorem Fol.restO {rest : List UInt8} (h : Fol rest) : RestO rest := by
  rcases h with h | ⟨c, r, h, hc⟩
  · exact .inl h
  · exact .inr (.inl ⟨c, r, h, by unfold clB; rcases hc with h | h | h | h <;> simp [h]⟩)
theorem Fol.op {rest : List UInt8} (h : Fol rest) : opP rest = [] := by
  rcases h with h | ⟨c, r, h, hc⟩
  · rw [h, opP_nil]
  · rw [h]; exact opP_cl (by unfold clB; rcases hc with h | h | h | h <;> simp [h])
theorem rest_head {rest : List UInt8} (h : RestO rest) : ∀ c r, rest = c :: r → smallB c = false ∧ digitB c = false ∧ c ≠ 40 := by
  intro c r e
  rcases h with h | ⟨c', r', h, hc⟩ | ⟨s, b, r', h, hs, hb⟩
  · rw [h] at e; cases e
  · rw [h] at e; cases e
    rcases hc with rfl | rfl | rfl | rfl | rfl | rfl <;> exact ⟨rfl, rfl, by decide⟩
  · rw [h] at e
    rcases op_cases hs with rfl | rfl | rfl | rfl | rfl | rfl | rfl | rfl | rfl | rfl | rfl | rfl | rfl | rfl <;>
      (simp only [spaced, wordF] at e; simp at e; obtain ⟨rfl, _⟩ := e; exact ⟨rfl, rfl, by decide⟩)
theorem opn_plain {x : Tx} {m : Int} : ∃ b r, opn x m true = b :: r ∧ plB (b :: r) = true := by
  unfold opn
  split
  · exact ⟨40, _, rfl, by simp [plB]⟩
  · rename_i h
    cases e : x.txt with
    | nil => exact absurd (.inr (.inr ⟨rfl, by rw [e]; rfl⟩)) h
    | cons b r =>
      refine ⟨b, r, rfl, ?_⟩
      cases hp : plB (b :: r)
      · exact absurd (.inr (.inr ⟨rfl, by rw [e]; exact hp⟩)) h
      · rfl
theorem loop_stop {F : Nat} {L mine : Int} {deep : Nat} {t : Tm} {rest : List UInt8} (h : opP rest = [] ∨ L < opLevelF (opP rest)) : loopF true (F + 1) L deep mine t rest = some (t, rest) := by
  rw [loopF, if_pos]
  rcases h with h | h
  · exact .inl h
  · exact .inr (.inl h)
def lev (t : Tm) : Int := (txF true t).lev
def sole (t : Tm) : Bool := (txF true t).sole
def MT (t : Tm) : Prop := ∀ (d deep : Nat) (L : Int) (rest : List UInt8) (X : Tm × List UInt8), shapeF t d = true → deep + d ≤ 31 → lev t ≤ L → RestO rest → (sole t = true → Fol rest) → (opP rest = [] ∨ lev t ≤ opLevelF (opP rest)) →
  Par (fun F => loopF true F L deep (lev t) t rest) X → Par (fun F => termF true F L deep (txt true t ++ rest)) X
theorem MT.el {t : Tm} (h : MT t) {d deep : Nat} {rest : List UInt8} (hs : shapeF t d = true) (hd : deep + d ≤ 31) (hf : Fol rest) : Par (fun F => termF true F 3 deep (txt true t ++ rest)) (t, rest) := by
  refine h d deep 3 rest (t, rest) hs hd ?_ hf.restO (fun _ => hf) (.inl hf.op) (Par.now fun F => loop_stop (.inl hf.op))
  unfold lev
  obtain ⟨k, n, s, ks⟩ := t
  show levF k s ks.length ≤ 3
  unfold levF
  split
  · exact (show opLevelF s.toList ≤ 3 by unfold opLevelF; repeat' split <;> omega)
  · omega
theorem nameP_free {s rest : List UInt8} (hs : s = [46] ∨ s = [91, 93] ∨ s = [33]) : nameP (s ++ rest) = some (s, rest) := by
  unfold nameP
  rw [signN_eq]
  rcases hs with rfl | rfl | rfl <;> rfl
theorem leftM_le {s : List UInt8} : 0 ≤ leftM s ∧ leftM s ≤ opLevelF s := by
  have := opLevel_nn s
  unfold leftM
  split <;> omega
end Go.Proofs.Ytognkaebiafgbaa
