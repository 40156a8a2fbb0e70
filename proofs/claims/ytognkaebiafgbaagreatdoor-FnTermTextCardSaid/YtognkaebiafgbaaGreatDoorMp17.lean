/-
  The standard order of terms: what the program computes, what the reference computes; on valid terms these are the same.
-/
import Derived.Test.YtognkaebiafgbaaGreatDoorMp16
namespace Go.Proofs.YtognkaebiafgbaaGreatDoor
open Go.RowKit
set_option linter.unusedVariables false

def cI (a b : Int) : Int := if a < b then -1 else if b < a then 1 else 0
def cS (a b : ByteArray) : Int := if Op.bytesLess a.toList b.toList = true then -1 else if (a.toList == b.toList) = true then 0 else 1
def rankF (k : Int) (len : Nat) : Int := if k = 1 then 0 else if k = 2 then 1 else if len = 0 then 2 else 3
def rankS (k : Int) (len : Nat) : Int := if k = 3 ∧ 0 < len then 4 else k
def orI (a b : Int) : Int := if a = 0 then b else a
mutual
def cmpF : Tm → Tm → Int
  | .mk k n s ks, .mk k' n' s' ks' => orI (cI (rankF k ks.length) (rankF k' ks'.length)) (orI (cI n n') (orI (cI ks.length ks'.length) (orI (cS s s') (cmpL ks ks'))))
def cmpL : List Tm → List Tm → Int
  | [], [] => 0
  | [], _ :: _ => -1
  | _ :: _, [] => 1
  | t :: ts, u :: us => orI (cmpF t u) (cmpL ts us)
end
mutual
def cmpS : Tm → Tm → Int
  | .mk k n s ks, .mk k' n' s' ks' => if rankS k ks.length ≠ rankS k' ks'.length then cI (rankS k ks.length) (rankS k' ks'.length) else if k ≠ 3 then cI n n' else if ks.length ≠ ks'.length then cI ks.length ks'.length else
      if (s.toList == s'.toList) = false then cS s s' else cmpSL ks ks'
def cmpSL : List Tm → List Tm → Int
  | t :: ts, u :: us => orI (cmpS t u) (cmpSL ts us)
  | _, _ => 0
end
theorem cI_eq (a : Int) : cI a a = 0 := by simp [cI]
theorem cI_zero {a b : Int} : cI a b = 0 ↔ a = b := by
  unfold cI
  split
  · omega
  · split <;> omega
theorem cI_neg (a b : Int) : cI a b = - cI b a := by
  unfold cI
  split <;> split <;> (try split) <;> omega
theorem u8_ext {a b : UInt8} (h1 : ¬ a.toNat < b.toNat) (h2 : ¬ b.toNat < a.toNat) : a = b := UInt8.toNat_inj.1 (by omega)
theorem bl_cons (a b : UInt8) (x y : List UInt8) : Op.bytesLess (a :: x) (b :: y) = true ↔ a.toNat < b.toNat ∨ (a = b ∧ Op.bytesLess x y = true) := by
  simp [Op.bytesLess, UInt8.lt_iff_toNat_lt]
theorem bl_irr : ∀ (x : List UInt8), Op.bytesLess x x = false
  | [] => by simp [Op.bytesLess]
  | a :: x => by
    have := bl_irr x
    simp [Op.bytesLess, this]
theorem bl_asym : ∀ {x y : List UInt8}, Op.bytesLess x y = true → Op.bytesLess y x = false
  | _, [], h => by simp [Op.bytesLess] at h
  | [], _ :: _, _ => by simp [Op.bytesLess]
  | a :: x, b :: y, h => by
    cases hc : Op.bytesLess (b :: y) (a :: x) with
    | false => rfl
    | true =>
      rw [bl_cons] at h hc
      rcases h with h | ⟨rfl, h⟩ <;> rcases hc with hc | ⟨e, hc⟩
      · omega
      · subst e; omega
      · omega
      · rw [bl_asym h] at hc; cases hc
theorem bl_tri : ∀ {x y : List UInt8}, Op.bytesLess x y = false → x ≠ y → Op.bytesLess y x = true
  | [], [], _, hne => absurd rfl hne
  | _ :: _, [], _, _ => by simp [Op.bytesLess]
  | [], _ :: _, h, _ => by simp [Op.bytesLess] at h
  | a :: x, b :: y, h, hne => by
    rw [bl_cons]
    have h' : ¬ (a.toNat < b.toNat ∨ (a = b ∧ Op.bytesLess x y = true)) := by rw [← bl_cons, h]; simp
    by_cases h1 : b.toNat < a.toNat
    · exact .inl h1
    · right
      have hab : a = b := u8_ext (fun h2 => h' (.inl h2)) h1
      subst hab
      refine ⟨rfl, bl_tri ?_ (fun e => hne (by rw [e]))⟩
      cases hx : Op.bytesLess x y with
      | false => rfl
      | true => exact absurd (.inr ⟨rfl, hx⟩) h'
theorem bl_trans : ∀ {x y z : List UInt8}, Op.bytesLess x y = true → Op.bytesLess y z = true → Op.bytesLess x z = true
  | _, _, [], _, h => by simp [Op.bytesLess] at h
  | _, [], _ :: _, h, _ => by simp [Op.bytesLess] at h
  | [], _ :: _, _ :: _, _, _ => by simp [Op.bytesLess]
  | a :: x, b :: y, c :: z, h1, h2 => by
    rw [bl_cons] at h1 h2 ⊢
    rcases h1 with h1 | ⟨rfl, h1⟩ <;> rcases h2 with h2 | ⟨rfl, h2⟩
    · exact .inl (by omega)
    · exact .inl h1
    · exact .inl h2
    · exact .inr ⟨rfl, bl_trans h1 h2⟩
theorem cS_eq {a b : ByteArray} (h : (a.toList == b.toList) = true) : cS a b = 0 := by
  have h2 : a.toList = b.toList := by simpa using h
  unfold cS
  rw [h2, bl_irr]
  simp
theorem cS_zero {a b : ByteArray} : cS a b = 0 ↔ a.toList = b.toList := by
  unfold cS
  constructor
  · intro h
    split at h
    · omega
    · split at h
      · rename_i h2; simpa using h2
      · omega
  · intro h
    rw [h, bl_irr]
    simp
theorem cS_neg (a b : ByteArray) : cS a b = - cS b a := by
  unfold cS
  cases h1 : Op.bytesLess a.toList b.toList with
  | true =>
    rw [bl_asym h1]
    have hne : (b.toList == a.toList) = false := by
      simp
      intro e
      rw [e, bl_irr] at h1
      cases h1
    rw [hne]
    simp
  | false =>
    by_cases he : a.toList = b.toList
    · rw [he, bl_irr]
      simp
    · rw [bl_tri h1 he]
      have : (a.toList == b.toList) = false := by simpa using he
      rw [this]
      simp
theorem orI_zero {a b : Int} : orI a b = 0 ↔ a = 0 ∧ b = 0 := by
  unfold orI
  split <;> simp_all
theorem orI_neg (a b : Int) : - orI a b = orI (-a) (-b) := by
  unfold orI
  by_cases h : a = 0
  · simp [h]
  · rw [if_neg h, if_neg (by omega)]

/-- what a valid term's root is -/
theorem shape_own {k n : Int} {s : ByteArray} {ks : List Tm} {d : Nat} (h : shapeF (.mk k n s ks) d = true) : (k = 1 ∧ s.toList = [] ∧ ks = []) ∨ (k = 2 ∧ s.toList = [] ∧ ks = []) ∨ (k = 3 ∧ n = 0) := by
  simp only [shapeF, Bool.and_eq_true] at h
  have h2 := h.1.2
  unfold ownF at h2
  split at h2
  · rename_i hk
    simp at h2
    exact .inl ⟨hk, by simpa using h2.1.2, List.eq_nil_of_length_eq_zero (by simpa using h2.2)⟩
  · split at h2
    · rename_i hk
      simp at h2
      exact .inr (.inl ⟨hk, by simpa using h2.1.2, List.eq_nil_of_length_eq_zero (by simpa using h2.2)⟩)
    · split at h2
      · rename_i hk
        simp at h2
        exact .inr (.inr ⟨hk, h2.1.1⟩)
      · cases h2
theorem orI_0 (b : Int) : orI 0 b = b := by simp [orI]
theorem orI_r0 (a : Int) : orI a 0 = a := by
  unfold orI
  split <;> simp_all
theorem orI_ne {a b : Int} (h : a ≠ 0) : orI a b = a := by simp [orI, h]
theorem cI_add (a b : Int) : cI (a + 1) (b + 1) = cI a b := by
  unfold cI
  by_cases h1 : a < b
  · rw [if_pos h1, if_pos (by omega)]
  · rw [if_neg h1, if_neg (by omega)]
    by_cases h2 : b < a
    · rw [if_pos h2, if_pos (by omega)]
    · rw [if_neg h2, if_neg (by omega)]
theorem rank_eq {k n : Int} {s : ByteArray} {ks : List Tm} (h : (k = 1 ∧ s.toList = [] ∧ ks = []) ∨ (k = 2 ∧ s.toList = [] ∧ ks = []) ∨ (k = 3 ∧ n = 0)) : rankS k ks.length = rankF k ks.length + 1 := by
  rcases h with ⟨rfl, _, rfl⟩ | ⟨rfl, _, rfl⟩ | ⟨rfl, _⟩
  · simp [rankS, rankF]
  · simp [rankS, rankF]
  · cases ks <;> simp [rankS, rankF]
theorem rank3 (len : Nat) : 2 ≤ rankF 3 len := by
  unfold rankF
  simp
  split <;> omega
mutual
theorem cmp_eq : ∀ (t u : Tm) (d e : Nat), shapeF t d = true → shapeF u e = true → cmpS t u = cmpF t u
  | .mk k n s ks, .mk k' n' s' ks', d, e, h, h' => by
    have hl : ks.length = ks'.length → cmpSL ks ks' = cmpL ks ks' := fun hl => by
      simp only [shapeF, Bool.and_eq_true] at h h'
      exact cmpL_eq ks ks' (d - 1) (e - 1) hl h.2 h'.2
    have h1 := shape_own h
    have h1' := shape_own h'
    simp only [cmpS, cmpF]
    rw [rank_eq h1, rank_eq h1', cI_add]
    by_cases hr : rankF k ks.length = rankF k' ks'.length
    · rw [if_neg (by omega), cI_zero.2 hr, orI_0]
      by_cases hk : k = 3
      · subst hk
        have r3 := rank3 ks.length
        rcases h1' with ⟨rfl, _, rfl⟩ | ⟨rfl, _, rfl⟩ | ⟨rfl, hn'⟩
        · exfalso; rw [hr] at r3; simp [rankF] at r3
        · exfalso; rw [hr] at r3; simp [rankF] at r3
        · rcases h1 with ⟨h, _⟩ | ⟨h, _⟩ | ⟨_, hn⟩
          · omega
          · omega
          · subst hn hn'
            rw [if_neg (by omega), cI_eq, orI_0]
            by_cases hlen : ks.length = ks'.length
            · rw [if_neg (by omega), cI_zero.2 (by omega : (ks.length : Int) = ks'.length), orI_0]
              by_cases hs : (s.toList == s'.toList) = true
              · rw [if_neg (by rw [hs]; simp), cS_eq hs, orI_0, hl hlen]
              · have hs' : (s.toList == s'.toList) = false := by simpa using hs
                rw [if_pos hs', orI_ne]
                intro hz
                exact hs (by simpa using cS_zero.1 hz)
            · rw [if_pos hlen, orI_ne]
              intro hz
              have := cI_zero.1 hz
              omega
      · rw [if_pos hk]
        have hks : s.toList = [] ∧ ks = [] := by
          rcases h1 with ⟨_, h2⟩ | ⟨_, h2⟩ | ⟨h2, _⟩
          · exact h2
          · exact h2
          · exact absurd h2 hk
        have hks' : s'.toList = [] ∧ ks' = [] := by
          rcases h1' with ⟨_, h2⟩ | ⟨_, h2⟩ | ⟨h2, _⟩
          · exact h2
          · exact h2
          · exfalso
            subst h2
            have r3 := rank3 ks'.length
            rw [← hr] at r3
            rcases h1 with ⟨rfl, _⟩ | ⟨rfl, _⟩ | ⟨h2, _⟩
            · simp [rankF] at r3
            · simp [rankF] at r3
            · exact hk h2
        obtain ⟨hs, rfl⟩ := hks
        obtain ⟨hs', rfl⟩ := hks'
        rw [cS_zero.2 (by rw [hs, hs']), cI_eq]
        simp only [cmpL, orI_r0]
    · rw [if_pos (by omega), orI_ne]
      intro hz
      exact hr (cI_zero.1 hz)
theorem cmpL_eq : ∀ (ts us : List Tm) (d e : Nat), ts.length = us.length → shapeL ts d = true → shapeL us e = true → cmpSL ts us = cmpL ts us
  | [], [], _, _, _, _, _ => by simp [cmpSL, cmpL]
  | [], _ :: _, _, _, h, _, _ => by simp at h
  | _ :: _, [], _, _, h, _, _ => by simp at h
  | t :: ts, u :: us, d, e, hl, h, h' => by
    simp only [shapeL, Bool.and_eq_true] at h h'
    simp only [cmpSL, cmpL]
    rw [cmp_eq t u d e h.1 h'.1, cmpL_eq ts us d e (by simpa using hl) h.2 h'.2]
end

end Go.Proofs.YtognkaebiafgbaaGreatDoor

/-
  What variables stand for: a list of 26 terms, zeroT for nothing.
-/
namespace Go.Proofs.YtognkaebiafgbaaGreatDoor
open Go.RowKit
set_option linter.unusedVariables false

def zeroT : Tm := .mk 0 0 ⟨#[]⟩ []
def varT (n : Int) : Tm := .mk 1 n ⟨#[]⟩ []
theorem shape_kid {k n : Int} {s : ByteArray} {ks : List Tm} {d : Nat} (h : shapeF (.mk k n s ks) d = true) {j : Nat} {t : Tm} (ht : ks[j]? = some t) : shapeF t (d - 1) = true := by
  simp only [shapeF, Bool.and_eq_true] at h
  exact shapeL_mem h.2 (List.mem_of_getElem? ht)
theorem shape_var {n : Int} {s : ByteArray} {ks : List Tm} {d : Nat} (h : shapeF (.mk 1 n s ks) d = true) : 0 ≤ n ∧ n ≤ 25 := by
  simp only [shapeF, Bool.and_eq_true] at h
  have h2 := h.1.2
  unfold ownF at h2
  simp at h2
  exact ⟨h2.1.1.1, h2.1.1.2⟩

/-- what a variable stands for so far (zeroT: nothing) -/
def lookK (K : List Tm) (n : Int) : Tm := (K[n.toNat]?).getD zeroT
def known0 : List Tm := List.replicate 26 zeroT
theorem look_set {K : List Tm} (hl : K.length = 26) {n m : Int} (hn : 0 ≤ n ∧ n ≤ 25) (hm : 0 ≤ m ∧ m ≤ 25) (u : Tm) : lookK (K.set n.toNat u) m = if m = n then u else lookK K m := by
  unfold lookK
  rw [List.getElem?_set]
  by_cases e : m = n
  · subst e
    rw [if_pos rfl, if_pos rfl, if_pos (by omega)]
    rfl
  · rw [if_neg e, if_neg (by omega)]
theorem look_known0 (n : Int) : lookK known0 n = zeroT := by
  unfold lookK known0
  rw [List.getElem?_replicate]
  split <;> rfl
theorem shape_kind {t : Tm} {d : Nat} (h : shapeF t d = true) : t.kind ≠ 0 := by
  obtain ⟨k, n, s, ks⟩ := t
  rcases shape_own h with ⟨rfl, _⟩ | ⟨rfl, _⟩ | ⟨rfl, _⟩ <;> simp [Tm.kind]
/-- what is known stays known -/
def LeK (K K' : List Tm) : Prop := ∀ n : Int, 0 ≤ n ∧ n ≤ 25 → (lookK K n).kind ≠ 0 → lookK K' n = lookK K n
theorem LeK.trans {A B C : List Tm} (h : LeK A B) (g : LeK B C) : LeK A C := fun n hn hz => by
  have h1 := h n hn hz
  rw [g n hn (by rw [h1]; exact hz), h1]

end Go.Proofs.YtognkaebiafgbaaGreatDoor
