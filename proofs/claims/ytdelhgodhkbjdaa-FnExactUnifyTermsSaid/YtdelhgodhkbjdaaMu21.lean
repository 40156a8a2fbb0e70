/-
  What variables stand for: a list of 26 terms, zeroT for nothing.
-/
import Derived.Test.YtdelhgodhkbjdaaMu20
namespace Go.Proofs.Ytdelhgodhkbjdaa
open Go.RowKit
set_option linter.unusedVariables false

def zeroT : Tm := .mk 0 0 ⟨#[]⟩ []
def varT (n : Int) : Tm := .mk 1 n ⟨#[]⟩ []
theorem shape_kid {k n : Int} {s : ByteArray} {ks : List Tm} {d : Nat} (h : shapeF (.mk k n s ks) d = true) {j : Nat} {t : Tm} (ht : ks[j]? = some t) : shapeF t (d - 1) = true := by
  simp only [shapeF, Bool.and_eq_true] at h
  exact shapeL_mem h.2 (List.mem_of_getElem? ht)
theorem shape_var {n : Int} {s : ByteArray} {ks : List Tm} {d : Nat} (h : shapeF (.mk 1 n s ks) d = true) : 0 ≤ n ∧ n ≤ 25 := by
  simp only [shapeF, Bool.and_eq_true] at h
  have h2 := h.1.2
  unfold ownF at h2
  simp at h2
  exact ⟨h2.1.1.1, h2.1.1.2⟩

/-- what a variable stands for so far (zeroT: nothing) -/
def lookK (K : List Tm) (n : Int) : Tm := (K[n.toNat]?).getD zeroT
def known0 : List Tm := List.replicate 26 zeroT
theorem look_set {K : List Tm} (hl : K.length = 26) {n m : Int} (hn : 0 ≤ n ∧ n ≤ 25) (hm : 0 ≤ m ∧ m ≤ 25) (u : Tm) : lookK (K.set n.toNat u) m = if m = n then u else lookK K m := by
  unfold lookK
  rw [List.getElem?_set]
  by_cases e : m = n
  · subst e
    rw [if_pos rfl, if_pos rfl, if_pos (by omega)]
    rfl
  · rw [if_neg e, if_neg (by omega)]
theorem look_known0 (n : Int) : lookK known0 n = zeroT := by
  unfold lookK known0
  rw [List.getElem?_replicate]
  split <;> rfl
theorem shape_kind {t : Tm} {d : Nat} (h : shapeF t d = true) : t.kind ≠ 0 := by
  obtain ⟨k, n, s, ks⟩ := t
  rcases shape_own h with ⟨rfl, _⟩ | ⟨rfl, _⟩ | ⟨rfl, _⟩ <;> simp [Tm.kind]
/-- what is known stays known -/
def LeK (K K' : List Tm) : Prop := ∀ n : Int, 0 ≤ n ∧ n ≤ 25 → (lookK K n).kind ≠ 0 → lookK K' n = lookK K n
theorem LeK.trans {A B C : List Tm} (h : LeK A B) (g : LeK B C) : LeK A C := fun n hn hz => by
  have h1 := h n hn hz
  rw [g n hn (by rw [h1]; exact hz), h1]

end Go.Proofs.Ytdelhgodhkbjdaa

/-
  Unification, plain: what variables stand for (a list K of 26 terms, zeroT for nothing), walks, occurrences, and that unifying ends.
-/
namespace Go.Proofs.Ytdelhgodhkbjdaa
open Go.RowKit
set_option linter.unusedVariables false

mutual
/-- variable m stands in a term -/
def occV (m : Int) : Tm → Prop
  | .mk k n _ ks => (k = 1 ∧ n = m) ∨ occL m ks
def occL (m : Int) : List Tm → Prop
  | [] => False
  | t :: ts => occV m t ∨ occL m ts
end
theorem occL_mem {m : Int} : ∀ {ts : List Tm} {j : Nat} {t : Tm}, ts[j]? = some t → occV m t → occL m ts
  | [], _, _, h, _ => by simp at h
  | t0 :: ts, 0, t, h, ho => by simp at h; subst h; exact .inl ho
  | t0 :: ts, j + 1, t, h, ho => .inr (occL_mem (by simpa using h) ho)
mutual
theorem occ_shape {m : Int} : ∀ (t : Tm) (d : Nat), shapeF t d = true → occV m t → 0 ≤ m ∧ m ≤ 25
  | .mk k n s ks, d, h, ho => by
    rcases ho with ⟨rfl, rfl⟩ | ho
    · exact shape_var h
    · simp only [shapeF, Bool.and_eq_true] at h
      exact occL_shape ks (d - 1) h.2 ho
theorem occL_shape {m : Int} : ∀ (ts : List Tm) (d : Nat), shapeL ts d = true → occL m ts → 0 ≤ m ∧ m ≤ 25
  | [], _, _, h => h.elim
  | t :: ts, d, h, ho => by
    simp only [shapeL, Bool.and_eq_true] at h
    rcases ho with ho | ho
    · exact occ_shape t d h.1 ho
    · exact occL_shape ts d h.2 ho
end
/-- what variables stand for is well-formed -/
def VK (K : List Tm) : Prop := K.length = 26 ∧ ∀ n : Int, 0 ≤ n → n ≤ 25 → (lookK K n).kind ≠ 0 → ∃ d, shapeF (lookK K n) d = true
/-- ρ falls from a variable to those in what it stands for -/
def Rk (K : List Tm) (ρ : Int → Nat) : Prop := ∀ n : Int, 0 ≤ n → n ≤ 25 → (lookK K n).kind ≠ 0 → ∀ m, occV m (lookK K n) → ρ m < ρ n
/-- a walk -/
def walkF : Nat → List Tm → Tm → Option Tm
  | 0, _, _ => none
  | f + 1, K, t => if t.kind = 1 ∧ (lookK K t.n).kind ≠ 0 then walkF f K (lookK K t.n) else some t
theorem walk_mono : ∀ {f g : Nat} {K : List Tm} {t x : Tm}, walkF f K t = some x → f ≤ g → walkF g K t = some x
  | 0, _, _, _, _, h, _ => by simp [walkF] at h
  | f + 1, 0, _, _, _, _, h => by omega
  | f + 1, g + 1, K, t, x, h, hg => by
    simp only [walkF] at h ⊢
    split
    · rename_i e; rw [if_pos e] at h; exact walk_mono h (by omega)
    · rename_i e; rw [if_neg e] at h; exact h
theorem walk_det {f g : Nat} {K : List Tm} {t x y : Tm} (h : walkF f K t = some x) (h' : walkF g K t = some y) : x = y := by
  rcases Nat.le_total f g with e | e
  · have := walk_mono h e; rw [h'] at this; exact (Option.some.inj this).symm
  · have := walk_mono h' e; rw [h] at this; exact Option.some.inj this
/-- a walk ends at a term that does not stand for another -/
theorem walk_end : ∀ {f : Nat} {K : List Tm} {t x : Tm}, walkF f K t = some x → ¬ (x.kind = 1 ∧ (lookK K x.n).kind ≠ 0)
  | 0, _, _, _, h => by simp [walkF] at h
  | f + 1, K, t, x, h => by
    simp only [walkF] at h
    split at h
    · exact walk_end h
    · rename_i e; cases h; exact e
theorem occ_var {t : Tm} (h : t.kind = 1) : occV t.n t := by
  obtain ⟨k, n, s, ks⟩ := t
  exact .inl ⟨h, rfl⟩
theorem shape_occ {t : Tm} {d : Nat} (h : shapeF t d = true) (hk : t.kind = 1) : 0 ≤ t.n ∧ t.n ≤ 25 := occ_shape t d h (occ_var hk)
/-- it ends -/
theorem walk_ex {K : List Tm} {ρ : Int → Nat} (hv : VK K) (hr : Rk K ρ) : ∀ (f : Nat) (t : Tm) (d : Nat), shapeF t d = true → (t.kind = 1 → ρ t.n < f) →
    ∃ x, walkF (f + 1) K t = some x ∧ (∃ d', shapeF x d' = true) ∧ (x = t ∨ (t.kind = 1 ∧ ∀ m, occV m x → ρ m < ρ t.n))
  | f, t, d, hs, hf => by
    by_cases e : t.kind = 1 ∧ (lookK K t.n).kind ≠ 0
    · have hb := shape_occ hs e.1
      have h1 := hf e.1
      obtain ⟨d', hs'⟩ := hv.2 _ hb.1 hb.2 e.2
      cases f with
      | zero => omega
      | succ f =>
        obtain ⟨x, hx, hsx, hxx⟩ := walk_ex hv hr f (lookK K t.n) d' hs' (fun hk => by have := hr _ hb.1 hb.2 e.2 _ (occ_var hk); omega)
        refine ⟨x, by rw [walkF, if_pos e]; exact hx, hsx, .inr ⟨e.1, fun m hm => ?_⟩⟩
        rcases hxx with rfl | ⟨hk, hlt⟩
        · exact hr _ hb.1 hb.2 e.2 _ hm
        · exact Nat.lt_trans (hlt m hm) (hr _ hb.1 hb.2 e.2 _ (occ_var hk))
    · exact ⟨t, by rw [walkF, if_neg e], ⟨d, hs⟩, .inl rfl⟩

/-- variable m leads to variable n -/
inductive Rch (K : List Tm) (n : Int) : Int → Prop
  | here : Rch K n n
  | step {m p : Int} : 0 ≤ m → m ≤ 25 → (lookK K m).kind ≠ 0 → occV p (lookK K m) → Rch K n p → Rch K n m
def OccT (K : List Tm) (n : Int) (t : Tm) : Prop := ∃ m, occV m t ∧ Rch K n m
theorem occT_mk {K : List Tm} {n k v : Int} {s : ByteArray} {ks : List Tm} (h : k ≠ 1) : OccT K n (.mk k v s ks) ↔ ∃ (j : Nat) (t : Tm), ks[j]? = some t ∧ OccT K n t := by
  constructor
  · rintro ⟨m, ⟨e, _⟩ | ho, hr⟩
    · exact absurd e h
    · have : ∀ ts : List Tm, occL m ts → ∃ (j : Nat) (t : Tm), ts[j]? = some t ∧ occV m t := by
        intro ts
        induction ts with
        | nil => intro h; exact h.elim
        | cons t ts ih =>
          rintro (h | h)
          · exact ⟨0, t, rfl, h⟩
          · obtain ⟨j, t', h1, h2⟩ := ih h
            exact ⟨j + 1, t', by simpa using h1, h2⟩
      obtain ⟨j, t, h1, h2⟩ := this ks ho
      exact ⟨j, t, h1, m, h2, hr⟩
  · rintro ⟨j, t, h1, m, h2, hr⟩
    exact ⟨m, .inr (occL_mem h1 h2), hr⟩
/-- at an unbound n: a variable leads to n as its walk's end does -/
theorem rch_unbound {K : List Tm} {n m : Int} (h : Rch K n m) (hb : ¬ (0 ≤ m ∧ m ≤ 25 ∧ (lookK K m).kind ≠ 0)) : m = n := by
  cases h with
  | here => rfl
  | step h0 h1 h2 _ _ => exact absurd ⟨h0, h1, h2⟩ hb
theorem rch_bound {K : List Tm} {n m : Int} (hn : m ≠ n) (h : Rch K n m) : (lookK K m).kind ≠ 0 ∧ OccT K n (lookK K m) := by
  cases h with
  | here => exact absurd rfl hn
  | step h0 h1 h2 h3 h4 => exact ⟨h2, _, h3, h4⟩

theorem rank_top (ρ : Int → Nat) : ∃ B, ∀ m : Int, 0 ≤ m → m ≤ 25 → ρ m < B := by
  have : ∀ k : Nat, ∃ B, ∀ m : Int, 0 ≤ m → m ≤ k → ρ m < B := by
    intro k
    induction k with
    | zero =>
      refine ⟨ρ 0 + 1, fun m h1 h2 => ?_⟩
      have e : m = 0 := by omega
      subst e
      omega
    | succ k ih =>
      obtain ⟨B, hB⟩ := ih
      refine ⟨B + ρ (k + 1) + 1, fun m h1 h2 => ?_⟩
      by_cases e : m = (k : Int) + 1
      · subst e; omega
      · have := hB m h1 (by omega); omega
  obtain ⟨B, hB⟩ := this 25
  exact ⟨B, hB⟩
/-- a new binding: the ranks go on -/
theorem rk_set {K : List Tm} {ρ : Int → Nat} {n : Int} {u : Tm} {d : Nat} (hv : VK K) (hr : Rk K ρ) (hn : 0 ≤ n ∧ n ≤ 25) (h0 : (lookK K n).kind = 0) (hs : shapeF u d = true) (ho : ¬ OccT K n u) :
    VK (K.set n.toNat u) ∧ ∃ ρ', Rk (K.set n.toNat u) ρ' := by
  classical
  have hl := hv.1
  refine ⟨⟨by simp [hl], fun m h1 h2 h3 => ?_⟩, ?_⟩
  · rw [look_set hl hn ⟨h1, h2⟩] at h3 ⊢
    split
    · exact ⟨d, hs⟩
    · rename_i e; rw [if_neg e] at h3; exact hv.2 m h1 h2 h3
  · obtain ⟨B, hB⟩ := rank_top ρ
    refine ⟨fun m => ρ m + if Rch K n m then B else 0, fun m h1 h2 h3 p hp => ?_⟩
    rw [look_set hl hn ⟨h1, h2⟩] at h3 hp
    dsimp only
    by_cases e : m = n
    · subst e
      rw [if_pos rfl] at hp
      have h5 : ¬ Rch K m p := fun h => ho ⟨p, hp, h⟩
      rw [if_neg h5, if_pos Rch.here]
      have := occ_shape u d hs hp
      have := hB p this.1 this.2
      omega
    · rw [if_neg e] at h3 hp
      have h4 := hr m h1 h2 h3 p hp
      by_cases h5 : Rch K n p
      · rw [if_pos h5, if_pos (Rch.step h1 h2 h3 hp h5)]; omega
      · rw [if_neg h5]; omega

open Classical in
mutual
/-- unifying two terms -/
noncomputable def uniF : Nat → List Tm → Tm → Tm → Option (Bool × List Tm)
  | 0, _, _, _ => none
  | f + 1, K, a, b =>
    match walkF f K a, walkF f K b with
    | some x, some y =>
      if x.kind = 1 ∧ y.kind = 1 ∧ x.n = y.n then some (true, K)
      else if x.kind = 1 then (if OccT K x.n y then some (false, K) else some (true, K.set x.n.toNat y))
      else if y.kind = 1 then (if OccT K y.n x then some (false, K) else some (true, K.set y.n.toNat x))
      else if x.kind = y.kind ∧ x.n = y.n ∧ x.name = y.name ∧ x.kids.length = y.kids.length then uniL f K x.kids y.kids
      else some (false, K)
    | _, _ => none
  termination_by f => (f, 0)
noncomputable def uniL : Nat → List Tm → List Tm → List Tm → Option (Bool × List Tm)
  | f, K, t :: ts, u :: us =>
    match uniF f K t u with
    | some (true, K1) => uniL f K1 ts us
    | some (false, K1) => some (false, K1)
    | none => none
  | _, K, _, _ => some (true, K)
  termination_by f _ ts => (f, ts.length + 1)
end
end Go.Proofs.Ytdelhgodhkbjdaa
