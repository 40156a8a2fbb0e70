/-
  Instances, plain: matching a general term with a special one, and what it means; instances are an order.
-/
import Derived.Test.YteplfajhmpmklaaMg29
import Derived.Test.YteplfajhmpmklaaMg31
import Derived.Test.YteplfajhmpmklaaMg24
namespace Go.Proofs.Yteplfajhmpmklaa
open Go.RowKit
set_option linter.unusedVariables false

mutual
/-- a general term matched with a special one -/
def matchF : Tm → Tm → List Tm → Bool × List Tm
  | .mk k n s ks, u, K =>
    if k = 1 then (if (lookK K n).kind = 0 then (true, K.set n.toNat u) else (Tm.same (lookK K n) u, K))
    else if k = u.kind ∧ n = u.n ∧ s = u.name ∧ ks.length = u.kids.length then matchL ks u.kids K else (false, K)
def matchL : List Tm → List Tm → List Tm → Bool × List Tm
  | t :: ts, u :: us, K => if (matchF t u K).1 = true then matchL ts us (matchF t u K).2 else (false, (matchF t u K).2)
  | _, _, K => (true, K)
end
def instF (s g : Tm) : Bool := validF s && validF g && (matchF g s known0).1
theorem matchL_snoc : ∀ {ts us : List Tm} {j : Nat} {t u : Tm} {K K1 : List Tm}, ts[j]? = some t → us[j]? = some u → matchL (ts.take j) (us.take j) K = (true, K1) → matchL (ts.take (j + 1)) (us.take (j + 1)) K = matchF t u K1
  | [], _, _, _, _, _, _, h, _, _ => by simp at h
  | _ :: _, [], _, _, _, _, _, _, h, _ => by simp at h
  | t0 :: ts, u0 :: us, 0, t, u, K, K1, h1, h2, h3 => by
    simp at h1 h2; subst h1 h2
    simp [matchL] at h3; subst h3
    simp only [List.take_succ_cons, List.take_zero, matchL]
    split
    · rename_i h; exact Prod.ext h.symm rfl
    · rename_i h; exact Prod.ext (by simpa using h) rfl
  | t0 :: ts, u0 :: us, j + 1, t, u, K, K1, h1, h2, h3 => by
    simp only [List.take_succ_cons, matchL] at h3 ⊢
    split at h3
    · rename_i h
      rw [if_pos h]
      exact matchL_snoc (by simpa using h1) (by simpa using h2) h3
    · simp at h3
theorem matchL_cut : ∀ {ts us : List Tm} {j : Nat} {K K1 : List Tm}, matchL (ts.take j) (us.take j) K = (false, K1) → matchL ts us K = (false, K1)
  | [], _, j, K, K1, h => by simp [matchL] at h
  | _ :: _, [], j, K, K1, h => by
    cases j <;> simp [matchL] at h
  | t0 :: ts, u0 :: us, 0, K, K1, h => by simp [matchL] at h
  | t0 :: ts, u0 :: us, j + 1, K, K1, h => by
    simp only [List.take_succ_cons, matchL] at h ⊢
    split at h
    · rename_i h1
      rw [if_pos h1]
      exact matchL_cut h
    · rename_i h1
      rw [if_neg h1]
      exact h
mutual
theorem match_len : ∀ (t u : Tm) (K : List Tm), (matchF t u K).2.length = K.length
  | .mk k n s ks, u, K => by
    simp only [matchF]
    split
    · split <;> simp
    · split
      · exact matchL_len ks u.kids K
      · rfl
theorem matchL_len : ∀ (ts us : List Tm) (K : List Tm), (matchL ts us K).2.length = K.length
  | [], _, _ => rfl
  | _ :: _, [], _ => rfl
  | t :: ts, u :: us, K => by
    simp only [matchL]
    split
    · rw [matchL_len ts us, match_len t u K]
    · exact match_len t u K
end
/-- what is known agrees with a map -/
def Okk (σ : Int → Tm) (K : List Tm) : Prop := ∀ n : Int, 0 ≤ n ∧ n ≤ 25 → (lookK K n).kind ≠ 0 → σ n = lookK K n
mutual
theorem match_yes (σ : Int → Tm) : ∀ (t : Tm) (d e : Nat) (K : List Tm), shapeF t d = true → shapeF (mapF σ t) e = true → K.length = 26 → Okk σ K → (matchF t (mapF σ t) K).1 = true ∧ Okk σ (matchF t (mapF σ t) K).2
  | .mk k n s ks, d, e, K, ht, hu, hl, hk => by
    by_cases e1 : k = 1
    · subst e1
      have hn := shape_var ht
      simp only [mapF, matchF, if_true] at hu ⊢
      split
      · refine ⟨rfl, fun m hm hz => ?_⟩
        simp only at hz ⊢
        rw [look_set hl hn hm] at hz ⊢
        split
        · rename_i e2; rw [e2]
        · rename_i e2
          rw [if_neg e2] at hz
          exact hk m hm hz
      · rename_i h0
        rw [← hk n hn h0]
        exact ⟨same_refl _, hk⟩
    · simp only [mapF, matchF, if_neg e1] at hu ⊢
      rw [if_pos ⟨rfl, rfl, rfl, by simp [Tm.kids, mapL_len]⟩]
      simp only [shapeF, Bool.and_eq_true] at ht hu
      exact matchL_yes σ ks (d - 1) (e - 1) K ht.2 hu.2 hl hk
theorem matchL_yes (σ : Int → Tm) : ∀ (ts : List Tm) (d e : Nat) (K : List Tm), shapeL ts d = true → shapeL (mapL σ ts) e = true → K.length = 26 → Okk σ K → (matchL ts (mapL σ ts) K).1 = true ∧ Okk σ (matchL ts (mapL σ ts) K).2
  | [], _, _, _, _, _, _, hk => ⟨rfl, hk⟩
  | t :: ts, d, e, K, ht, hu, hl, hk => by
    simp only [mapL, shapeL, Bool.and_eq_true] at ht hu
    obtain ⟨h1, h2⟩ := match_yes σ t d e K ht.1 hu.1 hl hk
    simp only [mapL, matchL]
    rw [if_pos h1]
    exact matchL_yes σ ts d e _ ht.2 hu.2 (by rw [match_len, hl]) h2
end
mutual
theorem match_to : ∀ (t u : Tm) (d e : Nat) (K : List Tm), shapeF t d = true → shapeF u e = true → K.length = 26 → (matchF t u K).1 = true →
    LeK K (matchF t u K).2 ∧ ∀ K', LeK (matchF t u K).2 K' → mapF (lookK K') t = u
  | .mk k n s ks, u, d, e, K, ht, hu, hl, hm => by
    by_cases e1 : k = 1
    · subst e1
      have hn := shape_var ht
      simp only [mapF, matchF, if_true] at hm ⊢
      split
      · rename_i h0
        refine ⟨fun m hm hz => ?_, fun K' hK => ?_⟩
        · simp only
          rw [look_set hl hn hm]
          split
          · rename_i e2; subst e2; exact absurd h0 hz
          · rfl
        · have h1 := look_set hl hn hn u
          rw [if_pos rfl] at h1
          have h2 := hK n hn (by rw [h1]; exact shape_kind hu)
          rw [h2]; exact h1
      · rename_i h0
        rw [if_neg h0] at hm
        refine ⟨fun _ _ _ => rfl, fun K' hK => ?_⟩
        rw [hK n hn h0]
        exact same_eq _ _ hm
    · simp only [mapF, matchF, if_neg e1] at hm ⊢
      split
      · rename_i h0
        rw [if_pos h0] at hm
        obtain ⟨k', n', s', us⟩ := u
        simp only [Tm.kind, Tm.n, Tm.name, Tm.kids] at h0 hm ⊢
        obtain ⟨rfl, rfl, rfl, hlen⟩ := h0
        simp only [shapeF, Bool.and_eq_true] at ht hu
        obtain ⟨h1, h2⟩ := matchL_to ks us (d - 1) (e - 1) K ht.2 hu.2 hl hlen hm
        exact ⟨h1, fun K' hK => by rw [h2 K' hK]⟩
      · rename_i h0
        rw [if_neg h0] at hm
        simp at hm
theorem matchL_to : ∀ (ts us : List Tm) (d e : Nat) (K : List Tm), shapeL ts d = true → shapeL us e = true → K.length = 26 → ts.length = us.length → (matchL ts us K).1 = true →
    LeK K (matchL ts us K).2 ∧ ∀ K', LeK (matchL ts us K).2 K' → mapL (lookK K') ts = us
  | [], us, d, e, K, _, _, _, hlen, _ => by
    have : us = [] := List.eq_nil_of_length_eq_zero (by simpa using hlen.symm)
    subst this
    exact ⟨fun _ _ _ => rfl, fun _ _ => rfl⟩
  | t :: ts, [], d, e, K, _, _, _, hlen, _ => by simp at hlen
  | t :: ts, u :: us, d, e, K, ht, hu, hl, hlen, hm => by
    simp only [shapeL, Bool.and_eq_true] at ht hu
    simp only [matchL] at hm ⊢
    split
    · rename_i h0
      rw [if_pos h0] at hm
      obtain ⟨h1, h2⟩ := match_to t u d e K ht.1 hu.1 hl h0
      obtain ⟨h3, h4⟩ := matchL_to ts us d e _ ht.2 hu.2 (by rw [match_len, hl]) (by simpa using hlen) hm
      exact ⟨h1.trans h3, fun K' hK => by simp only [mapL]; rw [h2 K' (h3.trans hK), h4 K' hK]⟩
    · rename_i h0
      rw [if_neg h0] at hm
      simp at hm
end
theorem inst_iff {s g : Tm} : instF s g = true ↔ validF s = true ∧ validF g = true ∧ ∃ σ, mapF σ g = s := by
  unfold instF
  simp only [Bool.and_eq_true]
  constructor
  · rintro ⟨⟨h1, h2⟩, h3⟩
    exact ⟨h1, h2, _, (match_to g s 30 30 known0 (valid_shape h2) (valid_shape h1) (by simp [known0]) h3).2 _ (fun _ _ _ => rfl)⟩
  · rintro ⟨h1, h2, σ, rfl⟩
    refine ⟨⟨h1, h2⟩, (match_yes σ g 30 30 known0 (valid_shape h2) (valid_shape h1) (by simp [known0]) (fun n _ hz => ?_)).1⟩
    rw [look_known0] at hz
    exact absurd rfl hz
mutual
theorem map_id : ∀ (t : Tm) (d : Nat), shapeF t d = true → mapF varT t = t
  | .mk k n s ks, d, h => by
    by_cases e : k = 1
    · subst e
      obtain ⟨rfl, rfl⟩ := var_form h
      simp [mapF, varT]
    · simp only [shapeF, Bool.and_eq_true] at h
      simp only [mapF, if_neg e, mapL_id ks (d - 1) h.2]
theorem mapL_id : ∀ (ts : List Tm) (d : Nat), shapeL ts d = true → mapL varT ts = ts
  | [], _, _ => rfl
  | t :: ts, d, h => by
    simp only [shapeL, Bool.and_eq_true] at h
    simp only [mapL, map_id t d h.1, mapL_id ts d h.2]
end
mutual
theorem map_map (f g : Int → Tm) : ∀ t : Tm, mapF f (mapF g t) = mapF (fun n => mapF f (g n)) t
  | .mk k n s ks => by
    by_cases e : k = 1
    · simp only [mapF, if_pos e]
    · simp only [mapF, if_neg e, mapL_map f g ks]
theorem mapL_map (f g : Int → Tm) : ∀ ts : List Tm, mapL f (mapL g ts) = mapL (fun n => mapF f (g n)) ts
  | [] => rfl
  | t :: ts => by simp only [mapL, map_map f g t, mapL_map f g ts]
end
mutual
/-- maps that agree on the variables -/
theorem map_eq {zs : List Int} {f g : Int → Tm} (h : ∀ n ∈ zs, f n = g n) : ∀ t : Tm, VarIn zs t → mapF f t = mapF g t
  | .mk k n s ks, hv => by
    simp only [VarIn] at hv
    by_cases e : k = 1
    · rw [if_pos e] at hv
      simp only [mapF, if_pos e]
      exact h n (has_iff.1 hv)
    · rw [if_neg e] at hv
      simp only [mapF, if_neg e, mapL_eq h ks hv]
theorem mapL_eq {zs : List Int} {f g : Int → Tm} (h : ∀ n ∈ zs, f n = g n) : ∀ ts : List Tm, VarInL zs ts → mapL f ts = mapL g ts
  | [], _ => rfl
  | t :: ts, hv => by simp only [mapL, map_eq h t hv.1, mapL_eq h ts hv.2]
end
mutual
/-- a property of all variables -/
def AllV (P : Int → Prop) : Tm → Prop
  | .mk k n _ ks => if k = 1 then P n else AllVL P ks
def AllVL (P : Int → Prop) : List Tm → Prop
  | [] => True
  | t :: ts => AllV P t ∧ AllVL P ts
end
mutual
theorem vars_all {P : Int → Prop} : ∀ (t : Tm) (d : Nat) (us : List Int), shapeF t d = true → (∀ n ∈ us, P n) → AllV P t → ∀ n ∈ varsF t us, P n
  | .mk k n s ks, d, us, hs, hu, h => by
    by_cases e : k = 1
    · subst e
      obtain ⟨rfl, rfl⟩ := var_form hs
      simp only [AllV, if_true] at h
      simp only [varsF, varsL]
      split
      · intro m hm
        rcases List.mem_append.1 hm with h1 | h1
        · exact hu m h1
        · simp at h1; subst h1; exact h
      · exact hu
    · have hkb : (k == 1) = false := by simpa using e
      simp only [AllV, if_neg e] at h
      simp only [shapeF, Bool.and_eq_true] at hs
      simp only [varsF, hkb, Bool.false_and, Bool.false_eq_true, if_false]
      exact varsL_all ks (d - 1) us hs.2 hu h
theorem varsL_all {P : Int → Prop} : ∀ (ts : List Tm) (d : Nat) (us : List Int), shapeL ts d = true → (∀ n ∈ us, P n) → AllVL P ts → ∀ n ∈ varsL ts us, P n
  | [], _, us, _, hu, _ => hu
  | t :: ts, d, us, hs, hu, h => by
    simp only [shapeL, Bool.and_eq_true] at hs
    simp only [varsL]
    exact varsL_all ts d _ hs.2 (vars_all t d us hs.1 hu h.1) h.2
end
mutual
/-- a map that keeps a term keeps its variables -/
theorem map_fix {f : Int → Tm} : ∀ (t : Tm) (d : Nat), shapeF t d = true → mapF f t = t → AllV (fun n => f n = varT n) t
  | .mk k n s ks, d, hs, h => by
    by_cases e : k = 1
    · subst e
      obtain ⟨rfl, rfl⟩ := var_form hs
      simp only [mapF, if_true] at h
      simp only [AllV, if_true]
      exact h
    · simp only [mapF, if_neg e] at h
      injection h with _ _ _ h
      simp only [shapeF, Bool.and_eq_true] at hs
      simp only [AllV, if_neg e]
      exact mapL_fix ks (d - 1) hs.2 h
theorem mapL_fix {f : Int → Tm} : ∀ (ts : List Tm) (d : Nat), shapeL ts d = true → mapL f ts = ts → AllVL (fun n => f n = varT n) ts
  | [], _, _, _ => trivial
  | t :: ts, d, hs, h => by
    simp only [shapeL, Bool.and_eq_true] at hs
    simp only [mapL] at h
    injection h with h1 h2
    exact ⟨map_fix t d hs.1 h1, mapL_fix ts d hs.2 h2⟩
end
mutual
/-- what stands for variables is a part of the result -/
theorem map_part {f : Int → Tm} : ∀ (t : Tm) (d : Nat), shapeF (mapF f t) d = true → AllV (fun n => ∃ e, shapeF (f n) e = true) t
  | .mk k n s ks, d, hs => by
    by_cases e : k = 1
    · simp only [mapF, if_pos e] at hs
      simp only [AllV, if_pos e]
      exact ⟨d, hs⟩
    · simp only [mapF, if_neg e, shapeF, Bool.and_eq_true] at hs
      simp only [AllV, if_neg e]
      exact mapL_part ks (d - 1) hs.2
theorem mapL_part {f : Int → Tm} : ∀ (ts : List Tm) (d : Nat), shapeL (mapL f ts) d = true → AllVL (fun n => ∃ e, shapeF (f n) e = true) ts
  | [], _, _ => trivial
  | t :: ts, d, hs => by
    simp only [mapL, shapeL, Bool.and_eq_true] at hs
    exact ⟨map_part t d hs.1, mapL_part ts d hs.2⟩
end
mutual
theorem allV_of {zs : List Int} {P : Int → Prop} (h : ∀ n ∈ zs, P n) : ∀ t : Tm, VarIn zs t → AllV P t
  | .mk k n s ks, hv => by
    simp only [VarIn] at hv
    by_cases e : k = 1
    · rw [if_pos e] at hv
      simp only [AllV, if_pos e]
      exact h n (has_iff.1 hv)
    · rw [if_neg e] at hv
      simp only [AllV, if_neg e]
      exact allVL_of h ks hv
theorem allVL_of {zs : List Int} {P : Int → Prop} (h : ∀ n ∈ zs, P n) : ∀ ts : List Tm, VarInL zs ts → AllVL P ts
  | [], _ => trivial
  | t :: ts, hv => ⟨allV_of h t hv.1, allVL_of h ts hv.2⟩
end
/-- variables named anew by an invertible map -/
theorem has_inj {f g : Int → Int} {zs : List Int} {x : Int} (hz : ∀ z ∈ zs, g (f z) = z) (hx : g (f x) = x) : hasI (zs.map f) (f x) = hasI zs x := by
  have : hasI (zs.map f) (f x) = true ↔ hasI zs x = true := by
    rw [has_iff, has_iff, List.mem_map]
    constructor
    · rintro ⟨z, h1, h2⟩
      have h3 := hz z h1
      rw [h2, hx] at h3
      rw [h3]; exact h1
    · exact fun h => ⟨x, h, rfl⟩
  cases h1 : hasI (zs.map f) (f x) <;> cases h2 : hasI zs x <;> simp_all
theorem idx_inj {f g : Int → Int} : ∀ {zs : List Int} {x : Int}, (∀ z ∈ zs, g (f z) = z) → g (f x) = x → idxI (zs.map f) (f x) = idxI zs x
  | [], _, _, _ => rfl
  | z :: zs, x, hz, hx => by
    simp only [List.map_cons, idxI]
    rw [idx_inj (fun y hy => hz y (by simp [hy])) hx]
    by_cases e : z = x
    · rw [if_pos (by rw [e]), if_pos e]
    · rw [if_neg (fun h => e (by rw [← hz z (by simp), h, hx])), if_neg e]
mutual
theorem vars_inj {f g : Int → Int} : ∀ (t : Tm) (d : Nat) (us : List Int), shapeF t d = true → (∀ z ∈ us, g (f z) = z) → AllV (fun n => g (f n) = n) t → varsF (mapF (fun n => varT (f n)) t) (us.map f) = (varsF t us).map f
  | .mk k n s ks, d, us, hs, hu, h => by
    by_cases e : k = 1
    · subst e
      obtain ⟨rfl, rfl⟩ := var_form hs
      simp only [AllV, if_true] at h
      simp only [mapF, if_true, varT, varsF, varsL]
      rw [has_inj hu h]
      cases hasI us n <;> simp
    · have hkb : (k == 1) = false := by simpa using e
      simp only [AllV, if_neg e] at h
      simp only [shapeF, Bool.and_eq_true] at hs
      simp only [mapF, if_neg e, varsF, hkb, Bool.false_and, Bool.false_eq_true, if_false]
      exact varsL_inj ks (d - 1) us hs.2 hu h
theorem varsL_inj {f g : Int → Int} : ∀ (ts : List Tm) (d : Nat) (us : List Int), shapeL ts d = true → (∀ z ∈ us, g (f z) = z) → AllVL (fun n => g (f n) = n) ts → varsL (mapL (fun n => varT (f n)) ts) (us.map f) = (varsL ts us).map f
  | [], _, _, _, _, _ => rfl
  | t :: ts, d, us, hs, hu, h => by
    simp only [shapeL, Bool.and_eq_true] at hs
    simp only [mapL, varsL]
    rw [vars_inj t d us hs.1 hu h.1, varsL_inj ts d _ hs.2 (vars_all t d us hs.1 hu h.1) h.2]
end
theorem ren_inj {f g : Int → Int} {t : Tm} {d : Nat} (hs : shapeF t d = true) (h : AllV (fun n => g (f n) = n) t) : ren1 (mapF (fun n => varT (f n)) t) = ren1 t := by
  have hz := vars_all t d [] hs (by simp) h
  have hv := vars_inj t d [] hs (by simp) h
  simp only [List.map_nil] at hv
  unfold ren1
  rw [hv, map_map]
  refine map_eq (zs := varsF t []) (fun n hn => ?_) t (varIn_vars t [])
  simp only [varT, mapF, if_true, numT]
  rw [idx_inj hz (hz n hn)]
/-- terms that are instances of each other are equal up to the variables' numbers -/
theorem inst_both {s t : Tm} {σ τ : Int → Tm} (hs : shapeF s 30 = true) (ht : shapeF t 30 = true) (h1 : mapF σ t = s) (h2 : mapF τ s = t) : ren1 s = ren1 t := by
  have h3 : mapF (fun n => mapF τ (σ n)) t = t := by rw [← map_map, h1, h2]
  have a1 := vars_all t 30 [] ht (by simp) (map_fix t 30 ht h3)
  have a2 := vars_all t 30 [] ht (by simp) (map_part (f := σ) t 30 (by rw [h1]; exact hs))
  have key : ∀ n ∈ varsF t [], σ n = varT (σ n).n ∧ (τ (σ n).n).n = n := by
    intro n hn
    have b1 := a1 n hn
    obtain ⟨e, b2⟩ := a2 n hn
    generalize hx : σ n = x at b1 b2
    obtain ⟨k, m, nm, ks⟩ := x
    by_cases hk : k = 1
    · subst hk
      obtain ⟨rfl, rfl⟩ := var_form b2
      simp only [mapF, if_true] at b1
      exact ⟨rfl, by simp only [Tm.n]; rw [b1]; rfl⟩
    · simp only [mapF, if_neg hk, varT] at b1
      injection b1 with b1
      exact absurd b1 hk
  have h4 : s = mapF (fun n => varT (σ n).n) t := by
    rw [← h1]
    exact map_eq (fun n hn => (key n hn).1) t (varIn_vars t [])
  rw [h4]
  refine ren_inj (g := fun m => (τ m).n) ht ?_
  exact allV_of (zs := varsF t []) (fun n hn => (key n hn).2) t (varIn_vars t [])
theorem num_back {zs : List Int} {n : Int} (h : hasI zs n = true) : varT ((zs[(idxI zs n).toNat]?).getD 0) = varT n := by
  obtain ⟨j, h1, h2⟩ := idx_get h
  rw [h2]
  simp [h1]
theorem ren_back (t : Tm) (d : Nat) (h : shapeF t d = true) : mapF (fun i => varT (((varsF t [])[i.toNat]?).getD 0)) (ren1 t) = t := by
  unfold ren1
  rw [map_map]
  rw [map_eq (zs := varsF t []) (g := varT) (fun n hn => ?_) t (varIn_vars t [])]
  · exact map_id t d h
  · simp only [numT, varT, mapF, if_true]
    exact num_back (has_iff.2 hn)
theorem variant_iff {s t : Tm} : variantF s t = true ↔ validF s = true ∧ validF t = true ∧ ren1 s = ren1 t := by
  unfold variantF
  simp only [Bool.and_eq_true]
  constructor
  · rintro ⟨⟨h1, h2⟩, h3⟩
    exact ⟨h1, h2, same_eq _ _ h3⟩
  · rintro ⟨h1, h2, h3⟩
    exact ⟨⟨h1, h2⟩, by rw [h3]; exact same_refl _⟩
theorem variant_inst {s t : Tm} (h : variantF s t = true) : instF s t = true := by
  obtain ⟨h1, h2, h3⟩ := variant_iff.1 h
  refine inst_iff.2 ⟨h1, h2, fun n => mapF (fun i => varT (((varsF s [])[i.toNat]?).getD 0)) (numT (varsF t []) n), ?_⟩
  rw [← map_map]
  have := ren_back s 30 (valid_shape h1)
  rw [h3] at this
  exact this
theorem variant_comm (s t : Tm) : variantF s t = variantF t s := by
  have h : ∀ s t, variantF s t = true → variantF t s = true := fun s t h => by
    obtain ⟨h1, h2, h3⟩ := variant_iff.1 h
    exact variant_iff.2 ⟨h2, h1, h3.symm⟩
  cases h1 : variantF s t <;> cases h2 : variantF t s
  · rfl
  · have := h _ _ h2; rw [h1] at this; exact this
  · have := h _ _ h1; rw [h2] at this; exact this.symm
  · rfl
theorem inst_refl (t : Tm) : instF t t = validF t := by
  cases h : validF t
  · unfold instF; rw [h]; rfl
  · exact inst_iff.2 ⟨h, h, varT, map_id t 30 (valid_shape h)⟩
theorem inst_trans {a b c : Tm} (h1 : instF a b = true) (h2 : instF b c = true) : instF a c = true := by
  obtain ⟨a1, a2, σ, rfl⟩ := inst_iff.1 h1
  obtain ⟨b1, b2, τ, rfl⟩ := inst_iff.1 h2
  exact inst_iff.2 ⟨a1, b2, _, (map_map σ τ c).symm⟩
theorem inst_anti {a b : Tm} (h : instF a b = true) : instF b a = variantF a b := by
  obtain ⟨a1, a2, σ, hσ⟩ := inst_iff.1 h
  cases h2 : variantF a b
  · cases h3 : instF b a
    · rfl
    · obtain ⟨_, _, τ, hτ⟩ := inst_iff.1 h3
      have := variant_iff.2 ⟨a1, a2, inst_both (valid_shape a1) (valid_shape a2) hσ hτ⟩
      rw [h2] at this
      exact this.symm
  · rw [variant_comm] at h2
    exact variant_inst h2

end Go.Proofs.Yteplfajhmpmklaa
