/-
  Generalizations, plain: the most special term of which two terms are instances.
-/
import Derived.Test.YteplfajhmpmklaaMg32
namespace Go.Proofs.Yteplfajhmpmklaa
open Go.RowKit
set_option linter.unusedVariables false

/-- the first place of a pair, or the length -/
def pidx : List (Tm × Tm) → Tm → Tm → Nat
  | [], _, _ => 0
  | p :: ps, t, u => if (Tm.same p.1 t && Tm.same p.2 u) = true then 0 else pidx ps t u + 1
def addP (ps : List (Tm × Tm)) (t u : Tm) : List (Tm × Tm) := if pidx ps t u < ps.length then ps else ps ++ [(t, u)]
def headF (t u : Tm) : Prop := t.kind = u.kind ∧ t.kind ≠ 1 ∧ t.n = u.n ∧ t.name = u.name ∧ t.kids.length = u.kids.length
instance (t u : Tm) : Decidable (headF t u) := by unfold headF; infer_instance
mutual
/-- the generalization; pairs are those that have become variables -/
def genF : Tm → Tm → List (Tm × Tm) → Tm × List (Tm × Tm)
  | .mk k n s ks, u, ps =>
    if headF (.mk k n s ks) u then (.mk k n s (genL ks u.kids ps).1, (genL ks u.kids ps).2)
    else (varT (pidx ps (.mk k n s ks) u : Nat), addP ps (.mk k n s ks) u)
def genL : List Tm → List Tm → List (Tm × Tm) → List Tm × List (Tm × Tm)
  | t :: ts, u :: us, ps => ((genF t u ps).1 :: (genL ts us (genF t u ps).2).1, (genL ts us (genF t u ps).2).2)
  | _, _, ps => ([], ps)
end
theorem pidx_le : ∀ (ps : List (Tm × Tm)) (t u : Tm), pidx ps t u ≤ ps.length
  | [], _, _ => Nat.le_refl _
  | p :: ps, t, u => by
    have := pidx_le ps t u
    simp only [pidx, List.length_cons]
    split <;> omega
theorem pidx_get : ∀ {ps : List (Tm × Tm)} {t u : Tm}, pidx ps t u < ps.length → ps[pidx ps t u]? = some (t, u)
  | [], _, _, h => by simp [pidx] at h
  | p :: ps, t, u, h => by
    simp only [pidx] at h ⊢
    by_cases e : (Tm.same p.1 t && Tm.same p.2 u) = true
    · rw [if_pos e]
      simp only [Bool.and_eq_true] at e
      have h1 := same_eq _ _ e.1
      have h2 := same_eq _ _ e.2
      simp [← h1, ← h2]
    · rw [if_neg e] at h ⊢
      simp only [List.getElem?_cons_succ]
      exact pidx_get (by simpa using h)
theorem pidx_app : ∀ {ps : List (Tm × Tm)} {t u : Tm} (qs : List (Tm × Tm)), pidx ps t u < ps.length → pidx (ps ++ qs) t u = pidx ps t u
  | [], _, _, _, h => by simp [pidx] at h
  | p :: ps, t, u, qs, h => by
    simp only [pidx, List.cons_append] at h ⊢
    split
    · rfl
    · rename_i e
      rw [if_neg e] at h
      rw [pidx_app qs (by simpa using h)]
theorem pidx_new : ∀ {ps : List (Tm × Tm)} {t u : Tm} (qs : List (Tm × Tm)), ¬ pidx ps t u < ps.length → pidx (ps ++ (t, u) :: qs) t u = pidx ps t u
  | [], t, u, qs, _ => by simp [pidx, same_refl]
  | p :: ps, t, u, qs, h => by
    simp only [pidx, List.cons_append] at h ⊢
    split
    · rfl
    · rename_i e
      rw [if_neg e] at h
      rw [pidx_new qs (by simpa using h)]
theorem addP_spec {ps : List (Tm × Tm)} {t u : Tm} (qs : List (Tm × Tm)) : pidx (addP ps t u ++ qs) t u = pidx ps t u ∧ (addP ps t u ++ qs)[pidx ps t u]? = some (t, u) := by
  unfold addP
  split
  · rename_i h
    exact ⟨pidx_app qs h, by rw [List.getElem?_append_left h]; exact pidx_get h⟩
  · rename_i h
    have h1 := pidx_le ps t u
    have h2 : pidx ps t u = ps.length := by omega
    constructor
    · simpa using pidx_new qs h
    · rw [h2]; simp
theorem addP_len (ps : List (Tm × Tm)) (t u : Tm) : ps.length ≤ (addP ps t u).length ∧ (addP ps t u).length ≤ ps.length + 1 := by
  unfold addP
  split <;> simp
theorem addP_grow (ps : List (Tm × Tm)) (t u : Tm) : ∃ qs, addP ps t u = ps ++ qs := by
  unfold addP
  split
  · exact ⟨[], by simp⟩
  · exact ⟨_, rfl⟩
mutual
theorem gen_grow : ∀ (t u : Tm) (ps : List (Tm × Tm)), ∃ qs, (genF t u ps).2 = ps ++ qs
  | .mk k n s ks, u, ps => by
    simp only [genF]
    split
    · exact genL_grow ks u.kids ps
    · exact addP_grow _ _ _
theorem genL_grow : ∀ (ts us : List Tm) (ps : List (Tm × Tm)), ∃ qs, (genL ts us ps).2 = ps ++ qs
  | [], _, ps => ⟨[], by simp [genL]⟩
  | _ :: _, [], ps => ⟨[], by simp [genL]⟩
  | t :: ts, u :: us, ps => by
    obtain ⟨q1, h1⟩ := gen_grow t u ps
    obtain ⟨q2, h2⟩ := genL_grow ts us (genF t u ps).2
    exact ⟨q1 ++ q2, by simp only [genL]; rw [h2, h1]; simp⟩
end
mutual
theorem gen_len : ∀ (t u : Tm) (ps : List (Tm × Tm)), (genF t u ps).2.length ≤ ps.length + Tm.sz t
  | .mk k n s ks, u, ps => by
    simp only [genF]
    split
    · have := genL_len2 ks u.kids ps
      simp only [Tm.sz]; omega
    · have := addP_len ps (.mk k n s ks) u
      simp only [Tm.sz]; omega
theorem genL_len2 : ∀ (ts us : List Tm) (ps : List (Tm × Tm)), (genL ts us ps).2.length ≤ ps.length + Tm.szL ts
  | [], _, ps => by simp [genL]
  | _ :: _, [], ps => by simp [genL]
  | t :: ts, u :: us, ps => by
    have h1 := gen_len t u ps
    have h2 := genL_len2 ts us (genF t u ps).2
    simp only [genL, Tm.szL]; omega
end
theorem genL_len : ∀ (ts us : List Tm) (ps : List (Tm × Tm)), ts.length = us.length → (genL ts us ps).1.length = ts.length
  | [], _, ps, _ => rfl
  | _ :: _, [], ps, h => by simp at h
  | t :: ts, u :: us, ps, h => by
    simp only [genL, List.length_cons, genL_len ts us _ (by simpa using h)]
theorem genL_snoc : ∀ {ts us : List Tm} {j : Nat} {t u : Tm} (ps : List (Tm × Tm)), ts[j]? = some t → us[j]? = some u →
    genL (ts.take (j + 1)) (us.take (j + 1)) ps = ((genL (ts.take j) (us.take j) ps).1 ++ [(genF t u (genL (ts.take j) (us.take j) ps).2).1], (genF t u (genL (ts.take j) (us.take j) ps).2).2)
  | [], _, _, _, _, _, h, _ => by simp at h
  | _ :: _, [], _, _, _, _, _, h => by simp at h
  | t0 :: ts, u0 :: us, 0, t, u, ps, h1, h2 => by
    simp at h1 h2; subst h1 h2
    simp [genL]
  | t0 :: ts, u0 :: us, j + 1, t, u, ps, h1, h2 => by
    simp only [List.take_succ_cons, genL]
    rw [genL_snoc _ (by simpa using h1) (by simpa using h2)]
    rfl
mutual
/-- the generalization by a fixed list of pairs -/
def gfix (P : List (Tm × Tm)) : Tm → Tm → Tm
  | .mk k n s ks, u => if headF (.mk k n s ks) u then .mk k n s (gfixL P ks u.kids) else varT (pidx P (.mk k n s ks) u : Nat)
def gfixL (P : List (Tm × Tm)) : List Tm → List Tm → List Tm
  | t :: ts, u :: us => gfix P t u :: gfixL P ts us
  | _, _ => []
end
def leftP (P : List (Tm × Tm)) (n : Int) : Tm := ((P[n.toNat]?).getD (zeroT, zeroT)).1
def rightP (P : List (Tm × Tm)) (n : Int) : Tm := ((P[n.toNat]?).getD (zeroT, zeroT)).2
mutual
theorem gen_fix : ∀ (t u : Tm) (ps qs P : List (Tm × Tm)), P = (genF t u ps).2 ++ qs → (genF t u ps).1 = gfix P t u ∧ mapF (leftP P) (genF t u ps).1 = t ∧ mapF (rightP P) (genF t u ps).1 = u
  | .mk k n s ks, u, ps, qs, P, h => by
    simp only [genF, gfix] at h ⊢
    by_cases hh : headF (.mk k n s ks) u
    · rw [if_pos hh] at h
      rw [if_pos hh, if_pos hh]
      obtain ⟨k', n', s', us⟩ := u
      obtain ⟨e1, e2, e3, e4, e5⟩ := hh
      simp only [Tm.kind, Tm.n, Tm.name, Tm.kids] at e1 e2 e3 e4 e5 h ⊢
      subst e1 e3 e4
      obtain ⟨h1, h2, h3⟩ := genL_fix ks us ps qs P e5 h
      refine ⟨by rw [h1], ?_, ?_⟩
      · simp only [mapF, if_neg e2]; rw [h2]
      · simp only [mapF, if_neg e2]; rw [h3]
    · rw [if_neg hh] at h
      rw [if_neg hh, if_neg hh]
      obtain ⟨h1, h2⟩ := addP_spec (ps := ps) (t := .mk k n s ks) (u := u) qs
      rw [← h] at h1 h2
      refine ⟨by rw [h1], ?_, ?_⟩
      · simp only [varT, mapF, if_true, leftP]; simp [h2]
      · simp only [varT, mapF, if_true, rightP]; simp [h2]
theorem genL_fix : ∀ (ts us : List Tm) (ps qs P : List (Tm × Tm)), ts.length = us.length → P = (genL ts us ps).2 ++ qs → (genL ts us ps).1 = gfixL P ts us ∧ mapL (leftP P) (genL ts us ps).1 = ts ∧ mapL (rightP P) (genL ts us ps).1 = us
  | [], us, ps, qs, P, hl, _ => by
    have : us = [] := List.eq_nil_of_length_eq_zero (by simpa using hl.symm)
    subst this
    exact ⟨rfl, rfl, rfl⟩
  | _ :: _, [], ps, qs, P, hl, _ => by simp at hl
  | t :: ts, u :: us, ps, qs, P, hl, h => by
    simp only [genL] at h ⊢
    obtain ⟨q2, hq⟩ := genL_grow ts us (genF t u ps).2
    obtain ⟨a1, a2, a3⟩ := gen_fix t u ps (q2 ++ qs) P (by rw [h, hq]; simp)
    obtain ⟨b1, b2, b3⟩ := genL_fix ts us (genF t u ps).2 qs P (by simpa using hl) h
    simp only [gfixL, mapL]
    exact ⟨by rw [a1, b1], by rw [a2, b2], by rw [a3, b3]⟩
end
mutual
theorem gfix_least (P : List (Tm × Tm)) (σ τ : Int → Tm) : ∀ c : Tm, gfix P (mapF σ c) (mapF τ c) = mapF (fun n => gfix P (σ n) (τ n)) c
  | .mk k n s ks => by
    by_cases e : k = 1
    · simp only [mapF, if_pos e]
    · simp only [mapF, if_neg e, gfix]
      rw [if_pos ⟨rfl, e, rfl, rfl, by simp [Tm.kids, mapL_len]⟩]
      simp only [Tm.kids]
      rw [gfixL_least P σ τ ks]
theorem gfixL_least (P : List (Tm × Tm)) (σ τ : Int → Tm) : ∀ cs : List Tm, gfixL P (mapL σ cs) (mapL τ cs) = mapL (fun n => gfix P (σ n) (τ n)) cs
  | [] => rfl
  | c :: cs => by
    simp only [mapL, gfixL]
    rw [gfix_least P σ τ c, gfixL_least P σ τ cs]
end
def swapP (p : Tm × Tm) : Tm × Tm := (p.2, p.1)
theorem pidx_swap : ∀ (ps : List (Tm × Tm)) (t u : Tm), pidx (ps.map swapP) u t = pidx ps t u
  | [], _, _ => rfl
  | p :: ps, t, u => by
    simp only [List.map_cons, pidx, swapP, pidx_swap ps t u]
    rw [Bool.and_comm]
theorem headF_swap {t u : Tm} : headF t u ↔ headF u t := by
  unfold headF
  constructor <;> rintro ⟨h1, h2, h3, h4, h5⟩ <;> exact ⟨h1.symm, by rw [← h1]; exact h2, h3.symm, h4.symm, h5.symm⟩
mutual
theorem gen_swap : ∀ (t u : Tm) (ps : List (Tm × Tm)), genF u t (ps.map swapP) = ((genF t u ps).1, (genF t u ps).2.map swapP)
  | .mk k n s ks, .mk k' n' s' us, ps => by
    simp only [genF]
    by_cases hh : headF (.mk k n s ks) (.mk k' n' s' us)
    · rw [if_pos hh, if_pos (headF_swap.1 hh)]
      obtain ⟨e1, e2, e3, e4, e5⟩ := hh
      simp only [Tm.kind, Tm.n, Tm.name, Tm.kids] at e1 e2 e3 e4 e5 ⊢
      subst e1 e3 e4
      rw [genL_swap ks us ps e5]
    · rw [if_neg hh, if_neg (fun h => hh (headF_swap.1 h))]
      simp only [Prod.mk.injEq]
      refine ⟨by rw [pidx_swap], ?_⟩
      unfold addP
      rw [pidx_swap]
      simp only [List.length_map]
      split
      · rfl
      · simp [swapP]
theorem genL_swap : ∀ (ts us : List Tm) (ps : List (Tm × Tm)), ts.length = us.length → genL us ts (ps.map swapP) = ((genL ts us ps).1, (genL ts us ps).2.map swapP)
  | [], us, ps, hl => by
    have : us = [] := List.eq_nil_of_length_eq_zero (by simpa using hl.symm)
    subst this
    rfl
  | _ :: _, [], ps, hl => by simp at hl
  | t :: ts, u :: us, ps, hl => by
    simp only [genL]
    rw [gen_swap t u ps]
    simp only
    rw [genL_swap ts us _ (by simpa using hl)]
end
/-- the pairs of a term and an instance -/
def pairV (σ : Int → Tm) (x : Int) : Tm × Tm := (varT x, σ x)
theorem pidx_vars (σ : Int → Tm) (n : Int) : ∀ zs : List Int, pidx (zs.map (pairV σ)) (varT n) (σ n) = if hasI zs n = true then (idxI zs n).toNat else zs.length
  | [] => rfl
  | z :: zs => by
    simp only [List.map_cons, pidx, pairV]
    by_cases e : z = n
    · subst e
      have h1 : hasI (z :: zs) z = true := by simp [hasI]
      rw [if_pos (by simp [same_refl]), if_pos h1]
      simp [idxI]
    · have hne : (Tm.same (varT z) (varT n) && Tm.same (σ z) (σ n)) ≠ true := by
        intro h
        simp only [Bool.and_eq_true] at h
        have := same_eq _ _ h.1
        simp only [varT] at this
        injection this with _ h2
        exact e h2
      rw [if_neg hne, pidx_vars σ n zs]
      have h2 : hasI (z :: zs) n = hasI zs n := by
        simp [hasI, Ne.symm e]
      rw [h2]
      cases h : hasI zs n
      · simp
      · obtain ⟨j, _, hj⟩ := idx_get h
        simp only [if_true, idxI, if_neg e, hj]
        rw [if_neg (by omega)]
        omega
mutual
theorem gen_inst (σ : Int → Tm) : ∀ (t : Tm) (d : Nat) (zs : List Int), shapeF t d = true → (genF t (mapF σ t) (zs.map (pairV σ))).2 = (varsF t zs).map (pairV σ)
  | .mk k n s ks, d, zs, hs => by
    by_cases e : k = 1
    · subst e
      obtain ⟨rfl, rfl⟩ := var_form hs
      simp only [mapF, if_true, genF]
      rw [if_neg (fun h => h.2.1 rfl)]
      have hp := pidx_vars σ n zs
      simp only [varT] at hp
      simp only [addP, varsF, varsL, hp, List.length_map]
      cases h : hasI zs n
      · simp [pairV, varT]
      · obtain ⟨j, h1, hj⟩ := idx_get h
        have h2 := (List.getElem?_eq_some_iff.1 h1).1
        simp [hj, h2]
    · have hkb : (k == 1) = false := by simpa using e
      simp only [mapF, if_neg e, genF]
      rw [if_pos ⟨rfl, e, rfl, rfl, by simp [Tm.kids, mapL_len]⟩]
      simp only [shapeF, Bool.and_eq_true] at hs
      simp only [varsF, hkb, Bool.false_and, Bool.false_eq_true, if_false]
      exact genL_inst σ ks (d - 1) zs hs.2
theorem genL_inst (σ : Int → Tm) : ∀ (ts : List Tm) (d : Nat) (zs : List Int), shapeL ts d = true → (genL ts (mapL σ ts) (zs.map (pairV σ))).2 = (varsL ts zs).map (pairV σ)
  | [], _, _, _ => rfl
  | t :: ts, d, zs, hs => by
    simp only [shapeL, Bool.and_eq_true] at hs
    simp only [mapL, genL, varsL]
    rw [gen_inst σ t d zs hs.1]
    exact genL_inst σ ts d _ hs.2
end
theorem gen_inst_ren {σ : Int → Tm} {t : Tm} {d : Nat} (hs : shapeF t d = true) : (genF t (mapF σ t) []).1 = ren1 t := by
  have h1 := gen_inst σ t d [] hs
  simp only [List.map_nil] at h1
  rw [(gen_fix t (mapF σ t) [] [] _ (by rw [List.append_nil])).1, h1]
  have h2 := gfix_least ((varsF t []).map (pairV σ)) varT σ t
  rw [map_id t d hs] at h2
  rw [h2]
  unfold ren1
  refine map_eq (fun n hn => ?_) t (varIn_vars t [])
  have hp := pidx_vars σ n (varsF t [])
  have hn2 := has_iff.2 hn
  rw [if_pos hn2] at hp
  obtain ⟨j, _, hj⟩ := idx_get hn2
  have hnh : ¬ headF (varT n) (σ n) := fun h => h.2.1 rfl
  unfold varT at hnh hp
  simp only [varT, gfix, numT]
  rw [if_neg hnh, hp, hj]
  simp
/-- what Generalize answers -/
def genB (t u : Tm) : Bool := validF t && validF u && validF (genF t u []).1
def genR (t u : Tm) : Tm := if genB t u = true then (genF t u []).1 else zeroT
theorem gen_facts {t u g : Tm} (h : genB t u = true) (hg : genR t u = g) : instF t g = true ∧ instF u g = true ∧ validF g = true ∧ genB u t = true ∧ genR u t = g ∧ variantF g g = true ∧ ∀ c, instF t c = true → instF u c = true → instF g c = true := by
  have hgr : g = (genF t u []).1 := by rw [← hg]; unfold genR; rw [if_pos h]
  have hb := h
  unfold genB at hb
  simp only [Bool.and_eq_true] at hb
  obtain ⟨⟨h1, h2⟩, h3⟩ := hb
  obtain ⟨f1, f2, f3⟩ := gen_fix t u [] [] _ (by rw [List.append_nil])
  rw [← hgr] at f1 f2 f3 h3
  have hs := gen_swap t u []
  simp only [List.map_nil] at hs
  have hb2 : genB u t = true := by
    unfold genB
    rw [hs, h1, h2, ← hgr, h3]
    rfl
  refine ⟨inst_iff.2 ⟨h1, h3, _, f2⟩, inst_iff.2 ⟨h2, h3, _, f3⟩, h3, hb2, ?_, variant_iff.2 ⟨h3, h3, rfl⟩, fun c c1 c2 => ?_⟩
  · unfold genR
    rw [if_pos hb2, hs, hgr]
  · obtain ⟨_, hc, σ, hσ⟩ := inst_iff.1 c1
    obtain ⟨_, _, τ, hτ⟩ := inst_iff.1 c2
    exact inst_iff.2 ⟨h3, hc, fun n => gfix (genF t u []).2 (σ n) (τ n), by rw [← gfix_least, hσ, hτ, ← f1]⟩
theorem ren_valid {t : Tm} (h : validF t = true) : validF (ren1 t) = true ∧ ren1 (ren1 t) = ren1 t := by
  have hs : shapeL [t] 30 = true := by simp [shapeL, valid_shape h]
  constructor
  · have := ren_all (ts := [t]) (by unfold allVF; simp [h])
    rw [renF_one] at this
    unfold allVF at this
    simpa using this
  · have := ren_twice hs
    rw [renF_one, renF_one] at this
    injection this
/-- the generalization of a term and an instance is the term, numbered anew -/
theorem gen_above {t u : Tm} (h : instF u t = true) : genB t u = true ∧ genR t u = ren1 t := by
  obtain ⟨h1, h2, σ, rfl⟩ := inst_iff.1 h
  have h3 := gen_inst_ren (σ := σ) (valid_shape h2)
  have hb : genB t (mapF σ t) = true := by
    unfold genB
    rw [h1, h2, h3, (ren_valid h2).1]
    rfl
  exact ⟨hb, by unfold genR; rw [if_pos hb, h3]⟩
theorem gen_self (t : Tm) : genB t t = validF t := by
  cases h : validF t
  · unfold genB; rw [h]; rfl
  · exact (gen_above (u := t) (by rw [inst_refl]; exact h)).1
theorem ren_variant {t : Tm} (h : validF t = true) : variantF (ren1 t) t = true := variant_iff.2 ⟨(ren_valid h).1, h, (ren_valid h).2⟩
theorem gen_no {t u : Tm} (h : genB t u = false) : genR t u = zeroT := by unfold genR; rw [if_neg (by rw [h]; simp)]

end Go.Proofs.Yteplfajhmpmklaa
