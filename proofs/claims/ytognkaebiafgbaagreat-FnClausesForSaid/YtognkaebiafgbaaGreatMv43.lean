/-
  Unification, plain: what variables stand for (a list K of 26 terms, zeroT for nothing), walks, occurrences, and that unifying ends.
-/
import Derived.Test.YtognkaebiafgbaaGreatMv14
namespace Go.Proofs.YtognkaebiafgbaaGreat
open Go.RowKit
set_option linter.unusedVariables false
mutual
/-- variable m stands in a term -/
def occV (m : Int) : Tm → Prop
  | .mk k n _ ks => (k = 1 ∧ n = m) ∨ occL m ks
def occL (m : Int) : List Tm → Prop
  | [] => False
  | t :: ts => occV m t ∨ occL m ts
end
theorem occL_mem {m : Int} : ∀ {ts : List Tm} {j : Nat} {t : Tm}, ts[j]? = some t → occV m t → occL m ts
  | [], _, _, h, _ => by simp at h
  | t0 :: ts, 0, t, h, ho => by simp at h; subst h; exact .inl ho
  | t0 :: ts, j + 1, t, h, ho => .inr (occL_mem (by simpa using h) ho)
mutual
theorem occ_shape {m : Int} : ∀ (t : Tm) (d : Nat), shapeF t d = true → occV m t → 0 ≤ m ∧ m ≤ 25
  | .mk k n s ks, d, h, ho => by
    rcases ho with ⟨rfl, rfl⟩ | ho
    · exact shape_var h
    · simp only [shapeF, Bool.and_eq_true] at h
      exact occL_shape ks (d - 1) h.2 ho
theorem occL_shape {m : Int} : ∀ (ts : List Tm) (d : Nat), shapeL ts d = true → occL m ts → 0 ≤ m ∧ m ≤ 25
  | [], _, _, h => h.elim
  | t :: ts, d, h, ho => by
    simp only [shapeL, Bool.and_eq_true] at h
    rcases ho with ho | ho
    · exact occ_shape t d h.1 ho
    · exact occL_shape ts d h.2 ho
end
def VK (K : List Tm) : Prop := K.length = 26 ∧ ∀ n : Int, 0 ≤ n → n ≤ 25 → (lookK K n).kind ≠ 0 → ∃ d, shapeF (lookK K n) d = true
def Rk (K : List Tm) (ρ : Int → Nat) : Prop := ∀ n : Int, 0 ≤ n → n ≤ 25 → (lookK K n).kind ≠ 0 → ∀ m, occV m (lookK K n) → ρ m < ρ n
def walkF : Nat → List Tm → Tm → Option Tm
  | 0, _, _ => none
  | f + 1, K, t => if t.kind = 1 ∧ (lookK K t.n).kind ≠ 0 then walkF f K (lookK K t.n) else some t
theorem walk_mono : ∀ {f g : Nat} {K : List Tm} {t x : Tm}, walkF f K t = some x → f ≤ g → walkF g K t = some x
  | 0, _, _, _, _, h, _ => by simp [walkF] at h
  | f + 1, 0, _, _, _, _, h => by omega
  | f + 1, g + 1, K, t, x, h, hg => by
    simp only [walkF] at h ⊢
    split
    · rename_i e; rw [if_pos e] at h; exact walk_mono h (by omega)
    · rename_i e; rw [if_neg e] at h; exact h
theorem walk_end : ∀ {f : Nat} {K : List Tm} {t x : Tm}, walkF f K t = some x → ¬ (x.kind = 1 ∧ (lookK K x.n).kind ≠ 0)
  | 0, _, _, _, h => by simp [walkF] at h
  | f + 1, K, t, x, h => by
    simp only [walkF] at h
    split at h
    · exact walk_end h
    · rename_i e; cases h; exact e
theorem occ_var {t : Tm} (h : t.kind = 1) : occV t.n t := by
  obtain ⟨k, n, s, ks⟩ := t
  exact .inl ⟨h, rfl⟩
theorem shape_occ {t : Tm} {d : Nat} (h : shapeF t d = true) (hk : t.kind = 1) : 0 ≤ t.n ∧ t.n ≤ 25 := occ_shape t d h (occ_var hk)
theorem walk_ex {K : List Tm} {ρ : Int → Nat} (hv : VK K) (hr : Rk K ρ) : ∀ (f : Nat) (t : Tm) (d : Nat), shapeF t d = true → (t.kind = 1 → ρ t.n < f) →
    ∃ x, walkF (f + 1) K t = some x ∧ (∃ d', shapeF x d' = true) ∧ (x = t ∨ (t.kind = 1 ∧ ∀ m, occV m x → ρ m < ρ t.n))
  | f, t, d, hs, hf => by
    by_cases e : t.kind = 1 ∧ (lookK K t.n).kind ≠ 0
    · have hb := shape_occ hs e.1
      have h1 := hf e.1
      obtain ⟨d', hs'⟩ := hv.2 _ hb.1 hb.2 e.2
      cases f with
      | zero => omega
      | succ f =>
        obtain ⟨x, hx, hsx, hxx⟩ := walk_ex hv hr f (lookK K t.n) d' hs' (fun hk => by have := hr _ hb.1 hb.2 e.2 _ (occ_var hk); omega)
        refine ⟨x, by rw [walkF, if_pos e]; exact hx, hsx, .inr ⟨e.1, fun m hm => ?_⟩⟩
        rcases hxx with rfl | ⟨hk, hlt⟩
        · exact hr _ hb.1 hb.2 e.2 _ hm
        · exact Nat.lt_trans (hlt m hm) (hr _ hb.1 hb.2 e.2 _ (occ_var hk))
    · exact ⟨t, by rw [walkF, if_neg e], ⟨d, hs⟩, .inl rfl⟩
inductive Rch (K : List Tm) (n : Int) : Int → Prop
  | here : Rch K n n
  | step {m p : Int} : 0 ≤ m → m ≤ 25 → (lookK K m).kind ≠ 0 → occV p (lookK K m) → Rch K n p → Rch K n m
def OccT (K : List Tm) (n : Int) (t : Tm) : Prop := ∃ m, occV m t ∧ Rch K n m
theorem occT_mk {K : List Tm} {n k v : Int} {s : ByteArray} {ks : List Tm} (h : k ≠ 1) : OccT K n (.mk k v s ks) ↔ ∃ (j : Nat) (t : Tm), ks[j]? = some t ∧ OccT K n t := by
  constructor
  · rintro ⟨m, ⟨e, _⟩ | ho, hr⟩
    · exact absurd e h
    · have : ∀ ts : List Tm, occL m ts → ∃ (j : Nat) (t : Tm), ts[j]? = some t ∧ occV m t := by
        intro ts
        induction ts with
        | nil => intro h; exact h.elim
        | cons t ts ih =>
          rintro (h | h)
          · exact ⟨0, t, rfl, h⟩
          · obtain ⟨j, t', h1, h2⟩ := ih h
            exact ⟨j + 1, t', by simpa using h1, h2⟩
      obtain ⟨j, t, h1, h2⟩ := this ks ho
      exact ⟨j, t, h1, m, h2, hr⟩
  · rintro ⟨j, t, h1, m, h2, hr⟩
    exact ⟨m, .inr (occL_mem h1 h2), hr⟩
theorem rch_unbound {K : List Tm} {n m : Int} (h : Rch K n m) (hb : ¬ (0 ≤ m ∧ m ≤ 25 ∧ (lookK K m).kind ≠ 0)) : m = n := by
  cases h with
  | here => rfl
  | step h0 h1 h2 _ _ => exact absurd ⟨h0, h1, h2⟩ hb
theorem rch_bound {K : List Tm} {n m : Int} (hn : m ≠ n) (h : Rch K n m) : (lookK K m).kind ≠ 0 ∧ OccT K n (lookK K m) := by
  cases h with
  | here => exact absurd rfl hn
  | step h0 h1 h2 h3 h4 => exact ⟨h2, _, h3, h4⟩
theorem rank_top (ρ : Int → Nat) : ∃ B, ∀ m : Int, 0 ≤ m → m ≤ 25 → ρ m < B := by
  have : ∀ k : Nat, ∃ B, ∀ m : Int, 0 ≤ m → m ≤ k → ρ m < B := by
    intro k
    induction k with
    | zero =>
      refine ⟨ρ 0 + 1, fun m h1 h2 => ?_⟩
      have e : m = 0 := by omega
      subst e
      omega
    | succ k ih =>
      obtain ⟨B, hB⟩ := ih
      refine ⟨B + ρ (k + 1) + 1, fun m h1 h2 => ?_⟩
      by_cases e : m = (k : Int) + 1
      · subst e; omega
      · have := hB m h1 (by omega); omega
  obtain ⟨B, hB⟩ := this 25
  exact ⟨B, hB⟩
theorem rk_set {K : List Tm} {ρ : Int → Nat} {n : Int} {u : Tm} {d : Nat} (hv : VK K) (hr : Rk K ρ) (hn : 0 ≤ n ∧ n ≤ 25) (h0 : (lookK K n).kind = 0) (hs : shapeF u d = true) (ho : ¬ OccT K n u) :
    VK (K.set n.toNat u) ∧ ∃ ρ', Rk (K.set n.toNat u) ρ' := by
  classical
  have hl := hv.1
  refine ⟨⟨by simp [hl], fun m h1 h2 h3 => ?_⟩, ?_⟩
  · rw [look_set hl hn ⟨h1, h2⟩] at h3 ⊢
    split
    · exact ⟨d, hs⟩
    · rename_i e; rw [if_neg e] at h3; exact hv.2 m h1 h2 h3
  · obtain ⟨B, hB⟩ := rank_top ρ
    refine ⟨fun m => ρ m + if Rch K n m then B else 0, fun m h1 h2 h3 p hp => ?_⟩
    rw [look_set hl hn ⟨h1, h2⟩] at h3 hp
    dsimp only
    by_cases e : m = n
    · subst e
      rw [if_pos rfl] at hp
      have h5 : ¬ Rch K m p := fun h => ho ⟨p, hp, h⟩
      rw [if_neg h5, if_pos Rch.here]
      have := occ_shape u d hs hp
      have := hB p this.1 this.2
      omega
    · rw [if_neg e] at h3 hp
      have h4 := hr m h1 h2 h3 p hp
      by_cases h5 : Rch K n p
      · rw [if_pos h5, if_pos (Rch.step h1 h2 h3 hp h5)]; omega
      · rw [if_neg h5]; omega
open Classical in
mutual
/-- unifying two terms -/
noncomputable def uniF : Nat → List Tm → Tm → Tm → Option (Bool × List Tm)
  | 0, _, _, _ => none
  | f + 1, K, a, b =>
    match walkF f K a, walkF f K b with
    | some x, some y =>
      if x.kind = 1 ∧ y.kind = 1 ∧ x.n = y.n then some (true, K)
      else if x.kind = 1 then (if OccT K x.n y then some (false, K) else some (true, K.set x.n.toNat y))
      else if y.kind = 1 then (if OccT K y.n x then some (false, K) else some (true, K.set y.n.toNat x))
      else if x.kind = y.kind ∧ x.n = y.n ∧ x.name = y.name ∧ x.kids.length = y.kids.length then uniL f K x.kids y.kids
      else some (false, K)
    | _, _ => none
  termination_by f => (f, 0)
noncomputable def uniL : Nat → List Tm → List Tm → List Tm → Option (Bool × List Tm)
  | f, K, t :: ts, u :: us =>
    match uniF f K t u with
    | some (true, K1) => uniL f K1 ts us
    | some (false, K1) => some (false, K1)
    | none => none
  | _, K, _, _ => some (true, K)
  termination_by f _ ts => (f, ts.length + 1)
end
end Go.Proofs.YtognkaebiafgbaaGreat

namespace Go.Proofs.YtognkaebiafgbaaGreat
open Go.RowKit
set_option linter.unusedVariables false
theorem uniL_nil (f : Nat) (K : List Tm) (us : List Tm) : uniL f K [] us = some (true, K) := by unfold uniL; rfl
theorem uniL_nil' (f : Nat) (K : List Tm) (ts : List Tm) : uniL f K ts [] = some (true, K) := by cases ts <;> (unfold uniL; rfl)
theorem uniL_cons (f : Nat) (K : List Tm) (t u : Tm) (ts us : List Tm) : uniL f K (t :: ts) (u :: us) = match uniF f K t u with
    | some (true, K1) => uniL f K1 ts us
    | some (false, K1) => some (false, K1)
    | none => none := by
  conv => lhs; unfold uniL
  all_goals (rcases uniF f K t u with _ | ⟨_ | _, K1⟩ <;> rfl)
open Classical in
theorem uniF_succ {f : Nat} {K : List Tm} {a b x y : Tm} (hx : walkF f K a = some x) (hy : walkF f K b = some y) : uniF (f + 1) K a b =
      if x.kind = 1 ∧ y.kind = 1 ∧ x.n = y.n then some (true, K)
      else if x.kind = 1 then (if OccT K x.n y then some (false, K) else some (true, K.set x.n.toNat y))
      else if y.kind = 1 then (if OccT K y.n x then some (false, K) else some (true, K.set y.n.toNat x))
      else if x.kind = y.kind ∧ x.n = y.n ∧ x.name = y.name ∧ x.kids.length = y.kids.length then uniL f K x.kids y.kids
      else some (false, K) := by
  conv => lhs; unfold uniF
  rw [hx, hy]
theorem uniF_walks {f : Nat} {K : List Tm} {a b : Tm} {r : Bool × List Tm} (h : uniF (f + 1) K a b = some r) : ∃ x y, walkF f K a = some x ∧ walkF f K b = some y := by
  unfold uniF at h
  cases hx : walkF f K a with
  | none => rw [hx] at h; simp at h
  | some x =>
    cases hy : walkF f K b with
    | none => rw [hx, hy] at h; simp at h
    | some y => exact ⟨x, y, rfl, rfl⟩
def MonoF (f : Nat) : Prop := ∀ (g : Nat) (K : List Tm) (a b : Tm) (r : Bool × List Tm), uniF f K a b = some r → f ≤ g → uniF g K a b = some r
def MonoL (f : Nat) : Prop := ∀ (g : Nat) (K : List Tm) (ts us : List Tm) (r : Bool × List Tm), uniL f K ts us = some r → f ≤ g → uniL g K ts us = some r
theorem monoL {f : Nat} (h : MonoF f) : MonoL f := by
  intro g K ts
  induction ts generalizing K with
  | nil => intro us r h1 h2; rw [uniL_nil] at h1 ⊢; exact h1
  | cons t ts ih =>
    intro us r h1 h2
    cases us with
    | nil => rw [uniL_nil'] at h1 ⊢; exact h1
    | cons u us =>
      rw [uniL_cons] at h1 ⊢
      cases he : uniF f K t u with
      | none => rw [he] at h1; simp at h1
      | some q =>
        obtain ⟨c, K1⟩ := q
        rw [h g _ _ _ _ he h2]
        rw [he] at h1
        cases c
        · exact h1
        · exact ih _ _ _ h1 h2
theorem mono : ∀ f, MonoF f
  | 0 => fun g K a b r h => by unfold uniF at h; simp at h
  | f + 1 => by
    intro g K a b r h hg
    cases g with
    | zero => omega
    | succ g =>
      obtain ⟨x, y, hx, hy⟩ := uniF_walks h
      rw [uniF_succ hx hy] at h
      rw [uniF_succ (walk_mono hx (by omega)) (walk_mono hy (by omega))]
      split at h
      · rename_i e; rw [if_pos e]; exact h
      rename_i e; rw [if_neg e]
      split at h
      · rename_i e; rw [if_pos e]; exact h
      rename_i e; rw [if_neg e]
      split at h
      · rename_i e; rw [if_pos e]; exact h
      rename_i e; rw [if_neg e]
      split at h
      · rename_i e; rw [if_pos e]; exact monoL (mono f) g _ _ _ _ h (by omega)
      · rename_i e; rw [if_neg e]; exact h
def unb : List Tm → Nat
  | [] => 0
  | t :: ts => (if t.kind = 0 then 1 else 0) + unb ts
theorem unb_set : ∀ {K : List Tm} {i : Nat} {t u : Tm}, K[i]? = some t → t.kind = 0 → u.kind ≠ 0 → unb (K.set i u) < unb K
  | [], i, _, _, h, _, _ => by simp at h
  | t0 :: K, 0, t, u, h, h0, hu => by
    simp at h; subst h
    simp only [List.set_cons_zero, unb, if_pos h0, if_neg hu]; omega
  | t0 :: K, i + 1, t, u, h, h0, hu => by
    simp only [List.set_cons_succ, unb]
    have := unb_set (K := K) (i := i) (by simpa using h) h0 hu
    omega
theorem look_get {K : List Tm} (hl : K.length = 26) {n : Int} (hn : 0 ≤ n ∧ n ≤ 25) : K[n.toNat]? = some (lookK K n) := by
  obtain ⟨t, ht⟩ := getk (ts := K) (k := n.toNat) (by omega)
  unfold lookK; rw [ht]; rfl
def Good (K K1 : List Tm) : Prop := VK K1 ∧ (∃ ρ, Rk K1 ρ) ∧ LeK K K1 ∧ (K1 = K ∨ unb K1 < unb K)
theorem Good.refl {K : List Tm} (hv : VK K) (hr : ∃ ρ, Rk K ρ) : Good K K := ⟨hv, hr, fun _ _ _ => rfl, .inl rfl⟩
theorem Good.trans {K K1 K2 : List Tm} (h : Good K K1) (g : Good K1 K2) : Good K K2 := by
  obtain ⟨h1, h2, h3, h4⟩ := h
  obtain ⟨g1, g2, g3, g4⟩ := g
  refine ⟨g1, g2, h3.trans g3, ?_⟩
  rcases h4 with rfl | h4
  · exact g4
  · rcases g4 with rfl | g4
    · exact .inr h4
    · exact .inr (by omega)
theorem good_set {K : List Tm} {n : Int} {u : Tm} {d : Nat} (hv : VK K) (hr : ∃ ρ, Rk K ρ) (hn : 0 ≤ n ∧ n ≤ 25) (h0 : (lookK K n).kind = 0) (hs : shapeF u d = true) (ho : ¬ OccT K n u) : Good K (K.set n.toNat u) := by
  obtain ⟨ρ, hr⟩ := hr
  obtain ⟨h1, h2⟩ := rk_set hv hr hn h0 hs ho
  refine ⟨h1, h2, fun m hm hz => ?_, .inr (unb_set (look_get hv.1 hn) h0 (shape_kind hs))⟩
  rw [look_set hv.1 hn hm]
  split
  · rename_i e; subst e; exact absurd h0 hz
  · rfl
theorem walk_shape {K : List Tm} (hv : VK K) : ∀ {f : Nat} {t x : Tm} {d : Nat}, shapeF t d = true → walkF f K t = some x → ∃ d', shapeF x d' = true
  | 0, _, _, _, _, h => by simp [walkF] at h
  | f + 1, t, x, d, hs, h => by
    simp only [walkF] at h
    split at h
    · rename_i e
      have hb := shape_occ hs e.1
      obtain ⟨d', hs'⟩ := hv.2 _ hb.1 hb.2 e.2
      exact walk_shape hv hs' h
    · cases h; exact ⟨d, hs⟩
theorem walk_free {K : List Tm} {f : Nat} {t x : Tm} (h : walkF f K t = some x) (hk : x.kind = 1) : (lookK K x.n).kind = 0 := by
  have := walk_end h
  by_cases e : (lookK K x.n).kind = 0
  · exact e
  · exact absurd ⟨hk, e⟩ this
theorem kids_shape {t : Tm} {d : Nat} (h : shapeF t d = true) : shapeL t.kids (d - 1) = true := by
  obtain ⟨k, n, s, ks⟩ := t
  simp only [shapeF, Bool.and_eq_true] at h
  exact h.2
def OutF (f : Nat) : Prop := ∀ (K : List Tm) (a b : Tm) (d e : Nat) (K1 : List Tm), VK K → (∃ ρ, Rk K ρ) → shapeF a d = true → shapeF b e = true → uniF f K a b = some (true, K1) → Good K K1
def OutL (f : Nat) : Prop := ∀ (K : List Tm) (ts us : List Tm) (d e : Nat) (K1 : List Tm), VK K → (∃ ρ, Rk K ρ) → shapeL ts d = true → shapeL us e = true → uniL f K ts us = some (true, K1) → Good K K1
theorem outL {f : Nat} (h : OutF f) : OutL f := by
  intro K ts
  induction ts generalizing K with
  | nil => intro us d e K1 hv hr _ _ h1; rw [uniL_nil] at h1; cases h1; exact Good.refl hv hr
  | cons t ts ih =>
    intro us d e K1 hv hr ht hu h1
    cases us with
    | nil => rw [uniL_nil'] at h1; cases h1; exact Good.refl hv hr
    | cons u us =>
      rw [uniL_cons] at h1
      simp only [shapeL, Bool.and_eq_true] at ht hu
      cases he : uniF f K t u with
      | none => rw [he] at h1; simp at h1
      | some q =>
        obtain ⟨c, K2⟩ := q
        rw [he] at h1
        cases c
        · simp at h1
        · have g := h K t u d e K2 hv hr ht.1 hu.1 he
          exact g.trans (ih K2 us d e K1 g.1 g.2.1 ht.2 hu.2 h1)
theorem outF : ∀ f, OutF f
  | 0 => fun K a b d e K1 _ _ _ _ h => by unfold uniF at h; simp at h
  | f + 1 => by
    intro K a b d e K1 hv hr ha hb h
    obtain ⟨x, y, hx, hy⟩ := uniF_walks h
    obtain ⟨d1, hsx⟩ := walk_shape hv ha hx
    obtain ⟨e1, hsy⟩ := walk_shape hv hb hy
    rw [uniF_succ hx hy] at h
    split at h
    · cases h; exact Good.refl hv hr
    split at h
    · rename_i hk
      split at h
      · cases h
      · rename_i ho; cases h; exact good_set hv hr (shape_occ hsx hk) (walk_free hx hk) hsy ho
    split at h
    · rename_i hk
      split at h
      · cases h
      · rename_i ho; cases h; exact good_set hv hr (shape_occ hsy hk) (walk_free hy hk) hsx ho
    split at h
    · exact outL (outF f) K _ _ _ _ K1 hv hr (kids_shape hsx) (kids_shape hsy) h
    · cases h
theorem uniL_ex : ∀ (ts us : List Tm) (K : List Tm) (d e : Nat), VK K → (∃ ρ, Rk K ρ) → shapeL ts d = true → shapeL us e = true →
    (∀ (j : Nat) (t : Tm), ts[j]? = some t → ∀ (b : Tm) (e : Nat), shapeF b e = true → ∃ f r, uniF f K t b = some r) →
    (∀ K', VK K' → (∃ ρ, Rk K' ρ) → unb K' < unb K → ∀ (t : Tm) (d : Nat), shapeF t d = true → ∀ (b : Tm) (e : Nat), shapeF b e = true → ∃ f r, uniF f K' t b = some r) → ∃ f r, uniL f K ts us = some r
  | [], us, K, d, e, _, _, _, _, _, _ => ⟨0, _, uniL_nil _ _ _⟩
  | t :: ts, [], K, d, e, _, _, _, _, _, _ => ⟨0, _, uniL_nil' _ _ _⟩
  | t :: ts, u :: us, K, d, e, hv, hr, ht, hu, hk, hu' => by
    simp only [shapeL, Bool.and_eq_true] at ht hu
    obtain ⟨f, ⟨c, K1⟩, h1⟩ := hk 0 t rfl u e hu.1
    cases c
    · exact ⟨f, _, by rw [uniL_cons, h1]⟩
    · have g := outF f K t u d e K1 hv hr ht.1 hu.1 h1
      have : ∃ f r, uniL f K1 ts us = some r := by
        rcases g.2.2.2 with rfl | hlt
        · exact uniL_ex ts us K1 d e g.1 g.2.1 ht.2 hu.2 (fun j t' h => hk (j + 1) t' (by simpa using h)) hu'
        · exact uniL_ex ts us K1 d e g.1 g.2.1 ht.2 hu.2 (fun j t' h b e hb => hu' K1 g.1 g.2.1 hlt t' d (shapeL_mem ht.2 (List.mem_of_getElem? h)) b e hb) (fun K' h1 h2 h3 => hu' K' h1 h2 (by omega))
      obtain ⟨f2, r, h2⟩ := this
      refine ⟨max f f2, r, ?_⟩
      rw [uniL_cons, mono f _ _ _ _ _ h1 (Nat.le_max_left _ _)]
      exact monoL (mono f2) _ _ _ _ _ h2 (Nat.le_max_right _ _)
theorem uni_ex : ∀ (u : Nat) (K : List Tm) (a b : Tm) (d e : Nat), VK K → (∃ ρ, Rk K ρ) → unb K ≤ u → shapeF a d = true → shapeF b e = true → ∃ f r, uniF f K a b = some r := by
  intro u
  induction u using Nat.strongRecOn with
  | _ u IHu =>
    have main : ∀ (R s : Nat) (K : List Tm) (ρ : Int → Nat) (a b : Tm) (d e : Nat), VK K → Rk K ρ → unb K ≤ u → shapeF a d = true → shapeF b e = true → (∀ m, occV m a → ρ m < R) → Tm.sz a ≤ s → ∃ f r, uniF f K a b = some r := by
      intro R
      induction R using Nat.strongRecOn with
      | _ R IHR =>
        intro s
        induction s with
        | zero => intro K ρ a b d e _ _ _ _ _ _ hs; have := Tm.sz_pos a; omega
        | succ s IHs =>
          intro K ρ a b d e hv hr hu ha hb hR hs
          obtain ⟨x, hx, ⟨d1, hsx⟩, hxa⟩ := walk_ex hv hr (ρ a.n + 1) a d ha (fun _ => by omega)
          obtain ⟨y, hy, ⟨e1, hsy⟩, _⟩ := walk_ex hv hr (ρ b.n + 1) b e hb (fun _ => by omega)
          have kid : ∀ (j : Nat) (t : Tm), x.kids[j]? = some t → ∀ (b : Tm) (e : Nat), shapeF b e = true → ∃ f r, uniF f K t b = some r := by
            intro j t ht b' e' hb'
            obtain ⟨kx, nx, sx, kids⟩ := x
            replace ht : kids[j]? = some t := ht
            have hst := shape_kid hsx ht
            have hocc : ∀ m, occV m t → occV m (.mk kx nx sx kids) := fun m h => .inr (occL_mem ht h)
            rcases hxa with rfl | ⟨hk, hlt⟩
            · exact IHs K ρ t b' _ e' hv hr hu hst hb' (fun m h => hR m (hocc m h)) (by have := kid_lt (k := kx) (n := nx) (s := sx) ht; omega)
            · exact IHR (ρ a.n) (hR _ (occ_var hk)) (Tm.sz t) K ρ t b' _ e' hv hr hu hst hb' (fun m h => hlt m (hocc m h)) (Nat.le_refl _)
          obtain ⟨f, r, h⟩ := uniL_ex x.kids y.kids K _ _ hv ⟨ρ, hr⟩ (kids_shape hsx) (kids_shape hsy) kid (fun K' h1 h2 h3 t d h4 b e h5 => IHu (unb K') (by omega) K' t b d e h1 h2 (Nat.le_refl _) h4 h5)
          have hF := uniF_succ (walk_mono (g := max (max f (ρ a.n + 1 + 1)) (ρ b.n + 1 + 1)) hx (by omega)) (walk_mono (g := max (max f (ρ a.n + 1 + 1)) (ρ b.n + 1 + 1)) hy (by omega))
          refine ⟨max (max f (ρ a.n + 1 + 1)) (ρ b.n + 1 + 1) + 1, ?_⟩
          rw [hF]
          split
          · exact ⟨_, rfl⟩
          split
          · split <;> exact ⟨_, rfl⟩
          split
          · split <;> exact ⟨_, rfl⟩
          split
          · exact ⟨r, monoL (mono f) _ _ _ _ _ h (by omega)⟩
          · exact ⟨_, rfl⟩
    intro K a b d e hv hr hu ha hb
    obtain ⟨ρ, hr⟩ := hr
    obtain ⟨R, hR⟩ : ∃ R, ∀ m, occV m a → ρ m < R := by
      obtain ⟨B, hB⟩ := rank_top ρ
      exact ⟨B, fun m hm => hB m (occ_shape a d ha hm).1 (occ_shape a d ha hm).2⟩
    exact main R (Tm.sz a) K ρ a b d e hv hr hu ha hb hR (Nat.le_refl _)
end Go.Proofs.YtognkaebiafgbaaGreat
