/-
  Numbering anew, plain laws: the numbers come in order, numbering twice is numbering once, valid terms stay valid.
-/
import Derived.Test.YteplfajhmpmklaaMg28
namespace Go.Proofs.Yteplfajhmpmklaa
open Go.RowKit
set_option linter.unusedVariables false

theorem idx_app : ∀ {us : List Int} {n : Int} (f : List Int), hasI us n = true → idxI (us ++ f) n = idxI us n
  | [], n, f, h => by simp [hasI] at h
  | z :: us, n, f, h => by
    by_cases e : z = n
    · simp [idxI, e]
    · have h2 : hasI us n = true := by
        simp [hasI] at h ⊢
        rcases h with h | h
        · exact absurd h.symm e
        · exact h
      simp only [List.cons_append, idxI, if_neg e, idx_app f h2]
theorem idx_new : ∀ {us : List Int} {n : Int} (f : List Int), hasI us n = false → idxI (us ++ n :: f) n = us.length
  | [], n, f, h => by simp [idxI]
  | z :: us, n, f, h => by
    have e : z ≠ n := by
      intro e; subst e
      simp [hasI] at h
    have h2 : hasI us n = false := by
      simp [hasI] at h ⊢
      exact h.2
    simp only [List.cons_append, idxI, if_neg e, idx_new f h2, List.length_cons]
    rw [if_neg (by omega)]
    omega
theorem idx_lt {us : List Int} {n : Int} (h : hasI us n = true) : 0 ≤ idxI us n ∧ idxI us n < us.length := by
  obtain ⟨j, hj, he⟩ := idx_get h
  have := (List.getElem?_eq_some_iff.1 hj).1
  omega
mutual
theorem vars_app : ∀ (t : Tm) (us : List Int), ∃ e, varsF t us = us ++ e
  | .mk k n s ks, us => by
    simp only [varsF]
    split
    · obtain ⟨e, h⟩ := varsL_app ks (us ++ [n])
      exact ⟨n :: e, by rw [h]; simp⟩
    · exact varsL_app ks us
theorem varsL_app : ∀ (ts : List Tm) (us : List Int), ∃ e, varsL ts us = us ++ e
  | [], us => ⟨[], by simp [varsL]⟩
  | t :: ts, us => by
    obtain ⟨e, h⟩ := vars_app t us
    obtain ⟨f, h2⟩ := varsL_app ts (varsF t us)
    exact ⟨e ++ f, by simp only [varsL]; rw [h2, h]; simp⟩
end
theorem varsL_join : ∀ (xs0 ys0 : List Tm) (us : List Int), varsL (xs0 ++ ys0) us = varsL ys0 (varsL xs0 us)
  | [], _, _ => rfl
  | a :: xs0, ys0, us => by simp only [List.cons_append, varsL]; exact varsL_join xs0 ys0 _
/-- counting: a number may be at most n, and n makes n + 1 -/
def cnt : List Int → Int → Option Int
  | [], n => some n
  | v :: vs, n => if n < v then none else cnt vs (if v = n then n + 1 else n)
theorem cnt_app : ∀ (xs0 ys0 : List Int) (n : Int), cnt (xs0 ++ ys0) n = (cnt xs0 n).bind (cnt ys0)
  | [], _, _ => rfl
  | a :: xs0, ys0, n => by
    simp only [List.cons_append, cnt]
    split
    · rfl
    · exact cnt_app xs0 ys0 _
theorem cnt_step {vs : List Int} {n m c v : Int} {k : Nat} (h : cnt vs n = some m) (hc : cnt (vs.take k) n = some c) (hv : vs[k]? = some v) : v ≤ c ∧ cnt (vs.take (k + 1)) n = some (if v = c then c + 1 else c) := by
  obtain ⟨hk, rfl⟩ := List.getElem?_eq_some_iff.1 hv
  have h1 : vs.take (k + 1) = vs.take k ++ [vs[k]] := by rw [List.take_succ_eq_append_getElem hk]
  have h2 : cnt (vs.take (k + 1)) n = cnt [vs[k]] c := by rw [h1, cnt_app, hc]; rfl
  have h3 : vs = vs.take (k + 1) ++ vs.drop (k + 1) := (List.take_append_drop _ _).symm
  by_cases hlt : c < vs[k]
  · exfalso
    have : cnt (vs.take (k + 1)) n = none := by rw [h2]; simp [cnt, hlt]
    rw [h3, cnt_app, this] at h
    simp at h
  · exact ⟨by omega, by rw [h2]; simp only [cnt, if_neg hlt]⟩
mutual
theorem vars_cnt (zs : List Int) : ∀ (t : Tm) (d : Nat) (us ws f : List Int), shapeF t d = true → zs = varsF t us ++ f → (∀ w ∈ ws, 0 ≤ w ∧ w < us.length) →
    ∃ e, varsF (mapF (numT zs) t) ws = ws ++ e ∧ cnt e us.length = some (((varsF t us).length : Nat) : Int) ∧ (∀ w ∈ ws ++ e, 0 ≤ w ∧ w < (varsF t us).length)
  | .mk k n s ks, d, us, ws, f, hs, hz, hw => by
    by_cases hk : k = 1
    · subst hk
      obtain ⟨rfl, rfl⟩ := var_form hs
      simp only [mapF, if_true, numT, varT, varsF, varsL, beq_self_eq_true, Bool.true_and] at hz ⊢
      cases hu : hasI us n
      · rw [hu] at hz
        simp only [Bool.not_false, if_true] at hz ⊢
        have hi : idxI zs n = us.length := by rw [hz, List.append_assoc]; exact idx_new f hu
        have hn : hasI ws (idxI zs n) = false := by
          cases h : hasI ws (idxI zs n) with
          | false => rfl
          | true =>
            have := hw _ (has_iff.1 h)
            omega
        rw [hn]
        simp only [Bool.not_false, if_true]
        refine ⟨[idxI zs n], rfl, ?_, ?_⟩
        · rw [hi]; simp [cnt]
        · intro w hw2
          rcases List.mem_append.1 hw2 with h | h
          · have := hw w h
            simp; omega
          · simp at h
            subst h
            simp; omega
      · rw [hu] at hz
        simp only [Bool.not_true, Bool.false_eq_true, if_false] at hz ⊢
        have hi := idx_lt hu
        rw [← idx_app f hu, ← hz] at hi
        cases hn : hasI ws (idxI zs n)
        · simp only [Bool.not_false, if_true]
          refine ⟨[idxI zs n], rfl, ?_, ?_⟩
          · simp only [cnt]
            rw [if_neg (by omega), if_neg (by omega)]
          · intro w hw2
            rcases List.mem_append.1 hw2 with h | h
            · exact hw w h
            · simp at h
              subst h
              exact hi
        · simp only [Bool.not_true, Bool.false_eq_true, if_false]
          exact ⟨[], by simp, by simp [cnt], by simpa using hw⟩
    · have hkb : (k == 1) = false := by simpa using hk
      simp only [mapF, if_neg hk, varsF, hkb, Bool.false_and, Bool.false_eq_true, if_false] at hz ⊢
      simp only [shapeF, Bool.and_eq_true] at hs
      exact varsL_cnt zs ks (d - 1) us ws f hs.2 hz hw
theorem varsL_cnt (zs : List Int) : ∀ (ts : List Tm) (d : Nat) (us ws f : List Int), shapeL ts d = true → zs = varsL ts us ++ f → (∀ w ∈ ws, 0 ≤ w ∧ w < us.length) →
    ∃ e, varsL (mapL (numT zs) ts) ws = ws ++ e ∧ cnt e us.length = some (((varsL ts us).length : Nat) : Int) ∧ (∀ w ∈ ws ++ e, 0 ≤ w ∧ w < (varsL ts us).length)
  | [], d, us, ws, f, _, _, hw => ⟨[], by simp [mapL, varsL], by simp [cnt, varsL], by simpa [varsL] using hw⟩
  | t :: ts, d, us, ws, f, hs, hz, hw => by
    simp only [shapeL, Bool.and_eq_true] at hs
    simp only [mapL, varsL] at hz ⊢
    obtain ⟨g, hg⟩ := varsL_app ts (varsF t us)
    obtain ⟨e1, h1, h2, h3⟩ := vars_cnt zs t d us ws (g ++ f) hs.1 (by rw [hz, hg]; simp) hw
    obtain ⟨e2, h4, h5, h6⟩ := varsL_cnt zs ts d (varsF t us) (ws ++ e1) f hs.2 hz h3
    refine ⟨e1 ++ e2, by rw [h1, h4]; simp, ?_, by simpa using h6⟩
    rw [cnt_app, h2]
    exact h5
end
/-- the numbers below m -/
def rangeI : Nat → List Int
  | 0 => []
  | m + 1 => rangeI m ++ [(m : Int)]
theorem range_len : ∀ m, (rangeI m).length = m
  | 0 => rfl
  | m + 1 => by simp [rangeI, range_len m]
theorem range_has : ∀ (m : Nat) (j : Int), hasI (rangeI m) j = (decide (0 ≤ j) && decide (j < m))
  | 0, j => by
    simp [rangeI, hasI]
    try omega
  | m + 1, j => by
    have ih := range_has m j
    simp only [hasI] at ih
    simp only [rangeI, hasI, List.contains_append, ih]
    by_cases h : j = m
    · subst h; simp; omega
    · simp [h]
      by_cases h1 : 0 ≤ j
      · simp [h1]; omega
      · simp [h1]
theorem range_idx (m : Nat) (j : Int) (h0 : 0 ≤ j) (h1 : j < m) : idxI (rangeI m) j = j := by
  induction m with
  | zero => omega
  | succ m ih =>
    simp only [rangeI]
    by_cases h : j < m
    · rw [idx_app _ (by rw [range_has]; simp [h0, h]), ih h]
    · have : j = m := by omega
      subst this
      rw [idx_new [] (by rw [range_has]; simp), range_len]
mutual
theorem vars_range (zs : List Int) : ∀ (t : Tm) (d : Nat) (us f : List Int), shapeF t d = true → zs = varsF t us ++ f → varsF (mapF (numT zs) t) (rangeI us.length) = rangeI (varsF t us).length
  | .mk k n s ks, d, us, f, hs, hz => by
    by_cases hk : k = 1
    · subst hk
      obtain ⟨rfl, rfl⟩ := var_form hs
      simp only [mapF, if_true, numT, varT, varsF, varsL, beq_self_eq_true, Bool.true_and] at hz ⊢
      cases hu : hasI us n
      · rw [hu] at hz
        simp only [Bool.not_false, if_true] at hz ⊢
        have hi : idxI zs n = us.length := by rw [hz, List.append_assoc]; exact idx_new f hu
        rw [hi, range_has]
        simp [rangeI]
      · rw [hu] at hz
        simp only [Bool.not_true, Bool.false_eq_true, if_false] at hz ⊢
        have hi := idx_lt hu
        rw [← idx_app f hu, ← hz] at hi
        rw [range_has, decide_eq_true hi.1, decide_eq_true hi.2]
        simp
    · have hkb : (k == 1) = false := by simpa using hk
      simp only [mapF, if_neg hk, varsF, hkb, Bool.false_and, Bool.false_eq_true, if_false] at hz ⊢
      simp only [shapeF, Bool.and_eq_true] at hs
      exact varsL_range zs ks (d - 1) us f hs.2 hz
theorem varsL_range (zs : List Int) : ∀ (ts : List Tm) (d : Nat) (us f : List Int), shapeL ts d = true → zs = varsL ts us ++ f → varsL (mapL (numT zs) ts) (rangeI us.length) = rangeI (varsL ts us).length
  | [], d, us, f, _, _ => rfl
  | t :: ts, d, us, f, hs, hz => by
    simp only [shapeL, Bool.and_eq_true] at hs
    simp only [mapL, varsL] at hz ⊢
    obtain ⟨g, hg⟩ := varsL_app ts (varsF t us)
    rw [vars_range zs t d us (g ++ f) hs.1 (by rw [hz, hg]; simp), varsL_range zs ts d (varsF t us) f hs.2 hz]
end
mutual
theorem num_twice {zs : List Int} {m : Nat} (hm : zs.length = m) : ∀ t : Tm, VarIn zs t → mapF (numT (rangeI m)) (mapF (numT zs) t) = mapF (numT zs) t
  | .mk k n s ks, h => by
    simp only [VarIn] at h
    by_cases hk : k = 1
    · rw [if_pos hk] at h
      have hi := idx_lt h
      simp only [mapF, if_pos hk, numT, varT]
      simp only [if_true]
      rw [range_idx m _ hi.1 (by omega)]
    · rw [if_neg hk] at h
      simp only [mapF, if_neg hk]
      rw [numL_twice hm ks h]
theorem numL_twice {zs : List Int} {m : Nat} (hm : zs.length = m) : ∀ ts : List Tm, VarInL zs ts → mapL (numT (rangeI m)) (mapL (numT zs) ts) = mapL (numT zs) ts
  | [], _ => rfl
  | t :: ts, h => by
    simp only [mapL]
    rw [num_twice hm t h.1, numL_twice hm ts h.2]
end
theorem ren_twice {ts : List Tm} (hs : shapeL ts 30 = true) : renF (renF ts) = renF ts := by
  have h := varsL_range (varsL ts []) ts 30 [] [] hs (by simp)
  unfold renF
  simp only [List.length_nil, rangeI] at h
  rw [h]
  exact numL_twice rfl ts (varInL_vars ts [])
theorem nodup_len : ∀ (m : Nat) (zs : List Int), zs.Nodup → (∀ x ∈ zs, 0 ≤ x ∧ x < m) → zs.length ≤ m
  | 0, zs, _, h => by
    cases zs with
    | nil => simp
    | cons z zs => have := h z (by simp); omega
  | m + 1, zs, hn, h => by
    have h1 := nodup_len m (zs.erase m) (hn.erase _) (fun x hx => by
      have h2 := (hn.mem_erase_iff).1 hx
      have h3 := h x h2.2
      have h4 := h2.1
      omega)
    by_cases hm : (m : Int) ∈ zs
    · rw [List.length_erase_of_mem hm] at h1
      omega
    · rw [List.erase_of_not_mem hm] at h1
      omega
mutual
theorem vars_bd : ∀ (t : Tm) (d : Nat) (us : List Int), shapeF t d = true → (∀ x ∈ us, 0 ≤ x ∧ x < 26) → ∀ x ∈ varsF t us, 0 ≤ x ∧ x < 26
  | .mk k n s ks, d, us, hs, hu => by
    by_cases hk : k = 1
    · subst hk
      have hb := shape_var hs
      obtain ⟨rfl, rfl⟩ := var_form hs
      simp only [varsF, varsL]
      split
      · intro x hx
        rcases List.mem_append.1 hx with h | h
        · exact hu x h
        · simp at h; omega
      · exact hu
    · have hkb : (k == 1) = false := by simpa using hk
      simp only [varsF, hkb, Bool.false_and, Bool.false_eq_true, if_false]
      simp only [shapeF, Bool.and_eq_true] at hs
      exact varsL_bd ks (d - 1) us hs.2 hu
theorem varsL_bd : ∀ (ts : List Tm) (d : Nat) (us : List Int), shapeL ts d = true → (∀ x ∈ us, 0 ≤ x ∧ x < 26) → ∀ x ∈ varsL ts us, 0 ≤ x ∧ x < 26
  | [], d, us, _, hu => hu
  | t :: ts, d, us, hs, hu => by
    simp only [shapeL, Bool.and_eq_true] at hs
    simp only [varsL]
    exact varsL_bd ts d _ hs.2 (vars_bd t d us hs.1 hu)
end
theorem vars26 {ts : List Tm} (hs : shapeL ts 30 = true) : (varsL ts []).length ≤ 26 := nodup_len 26 _ (varsL_nodup ts [] (by simp)) (varsL_bd ts 30 [] hs (by simp))
mutual
theorem shape_num {zs : List Int} (hz : zs.length ≤ 26) : ∀ (t : Tm) (d : Nat), shapeF t d = true → VarIn zs t → shapeF (mapF (numT zs) t) d = true
  | .mk k n s ks, d, hs, hv => by
    simp only [VarIn] at hv
    by_cases hk : k = 1
    · rw [if_pos hk] at hv
      have hi := idx_lt hv
      simp only [shapeF, Bool.and_eq_true] at hs
      simp only [mapF, if_pos hk, numT, varT, shapeF, shapeL, ownF, List.length_nil]
      have h25 : idxI zs n ≤ 25 := by omega
      simp [hi.1, h25]
      simpa using hs.1.1
    · rw [if_neg hk] at hv
      simp only [shapeF, Bool.and_eq_true] at hs
      simp only [mapF, if_neg hk, shapeF, Bool.and_eq_true, mapL_len]
      exact ⟨hs.1, shapeL_num hz ks (d - 1) hs.2 hv⟩
theorem shapeL_num {zs : List Int} (hz : zs.length ≤ 26) : ∀ (ts : List Tm) (d : Nat), shapeL ts d = true → VarInL zs ts → shapeL (mapL (numT zs) ts) d = true
  | [], _, _, _ => rfl
  | t :: ts, d, hs, hv => by
    simp only [shapeL, Bool.and_eq_true] at hs
    simp only [mapL, shapeL, Bool.and_eq_true]
    exact ⟨shape_num hz t d hs.1 hv.1, shapeL_num hz ts d hs.2 hv.2⟩
end
mutual
theorem num_sz (zs : List Int) : ∀ t : Tm, Tm.sz (mapF (numT zs) t) ≤ Tm.sz t
  | .mk k n s ks => by
    simp only [mapF]
    split
    · simp only [numT, varT, Tm.sz, Tm.szL]; omega
    · have := numL_sz zs ks
      simp only [Tm.sz]; omega
theorem numL_sz (zs : List Int) : ∀ ts : List Tm, Tm.szL (mapL (numT zs) ts) ≤ Tm.szL ts
  | [] => Nat.le_refl _
  | t :: ts => by
    have h1 := num_sz zs t
    have h2 := numL_sz zs ts
    simp only [mapL, Tm.szL]; omega
end
theorem valid_num {zs : List Int} (hz : zs.length ≤ 26) {t : Tm} (h : validF t = true) (hv : VarIn zs t) : validF (mapF (numT zs) t) = true := by
  have h1 := valid_sz h
  have h2 := num_sz zs t
  rw [valid_eq, shape_num hz t 30 (valid_shape h) hv]
  simp; omega
theorem all_num {zs : List Int} (hz : zs.length ≤ 26) : ∀ ts : List Tm, allVF ts = true → VarInL zs ts → allVF (mapL (numT zs) ts) = true
  | [], _, _ => rfl
  | t :: ts, h, hv => by
    unfold allVF at h
    simp only [List.all_cons, Bool.and_eq_true] at h
    have ih := all_num hz ts h.2 hv.2
    unfold allVF at ih ⊢
    simp only [mapL, List.all_cons, Bool.and_eq_true]
    exact ⟨valid_num hz h.1 hv.1, ih⟩
theorem ren_all {ts : List Tm} (h : allVF ts = true) : allVF (renF ts) = true := all_num (vars26 (allV_shape h)) ts h (varInL_vars ts [])
theorem allV_sz : ∀ ts : List Tm, allVF ts = true → Tm.szL ts ≤ 120 * ts.length
  | [], _ => by simp [Tm.szL]
  | t :: ts, h => by
    unfold allVF at h
    simp only [List.all_cons, Bool.and_eq_true] at h
    have h1 := valid_sz h.1
    have h2 := allV_sz ts h.2
    simp only [Tm.szL, List.length_cons]; omega
theorem allV_get {ts : List Tm} (h : allVF ts = true) {j : Nat} {t : Tm} (ht : ts[j]? = some t) : validF t = true := by
  unfold allVF at h
  exact List.all_eq_true.1 h t (List.mem_of_getElem? ht)
/-- the term at a place of the list numbered anew: its variables count on -/
theorem ren_cnt {ts : List Tm} (h : allVF ts = true) {j : Nat} {x : Tm} (hx : (renF ts)[j]? = some x) : validF x = true ∧ cnt (tvarsF x) (varsL (ts.take j) []).length = some ((varsL (ts.take (j + 1)) []).length : Int) := by
  have hv := allV_get (ren_all h) hx
  refine ⟨hv, ?_⟩
  have hl : j < ts.length := by
    have := (List.getElem?_eq_some_iff.1 hx).1
    rw [renF_len] at this
    exact this
  obtain ⟨t, ht⟩ := getk hl
  have hxt : x = mapF (numT (varsL ts [])) t := by
    have h1 : renF ts = mapL (numT (varsL ts [])) (ts.take j) ++ mapF (numT (varsL ts [])) t :: mapL (numT (varsL ts [])) (ts.drop (j + 1)) := by
      have h2 := mapL_snoc (numT (varsL ts [])) ht
      have h3 : ∀ (g : Int → Tm) (xs0 ys0 : List Tm), mapL g (xs0 ++ ys0) = mapL g xs0 ++ mapL g ys0 := by
        intro g xs0 ys0
        induction xs0 with
        | nil => rfl
        | cons a xs0 ih => simp only [List.cons_append, mapL, ih]
      have h4 := h3 (numT (varsL ts [])) (ts.take (j + 1)) (ts.drop (j + 1))
      rw [List.take_append_drop, h2] at h4
      unfold renF
      rw [h4]
      simp
    have hll : (mapL (numT (varsL ts [])) (ts.take j)).length = j := by rw [mapL_len]; simp; omega
    rw [h1, List.getElem?_append_right (by omega), hll] at hx
    simp at hx
    exact hx.symm
  have hz : ∃ f, varsL ts [] = varsF t (varsL (ts.take j) []) ++ f := by
    obtain ⟨f, hf⟩ := varsL_app (ts.drop (j + 1)) (varsL (ts.take (j + 1)) [])
    rw [← varsL_join, List.take_append_drop, varsL_snoc ht] at hf
    exact ⟨f, hf⟩
  obtain ⟨f, hf⟩ := hz
  obtain ⟨e, h1, h2, _⟩ := vars_cnt (varsL ts []) t 30 (varsL (ts.take j) []) [] f (valid_shape (allV_get h ht)) hf (by simp)
  have h3 : tvarsF x = e := by
    unfold tvarsF
    rw [if_pos hv, hxt]
    simpa using h1
  rw [h3, h2, varsL_snoc ht]

end Go.Proofs.Yteplfajhmpmklaa
