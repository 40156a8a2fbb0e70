/-
  Plain laws: what a valid term's arguments are; its variables.
-/
import Derived.Test.YtifklfnpaigdkaaDoorVars
namespace Go.Proofs.YtifklfnpaigdkaaDoor
open Go.RowKit
set_option linter.unusedVariables false

mutual
theorem shape_up : ∀ (t : Tm) (d e : Nat), d ≤ e → shapeF t d = true → shapeF t e = true
  | .mk k n s ks, d, e, hde, h => by
    simp only [shapeF, Bool.and_eq_true, decide_eq_true_eq] at h ⊢
    exact ⟨⟨by omega, h.1.2⟩, shapeL_up ks (d - 1) (e - 1) (by omega) h.2⟩
theorem shapeL_up : ∀ (ts : List Tm) (d e : Nat), d ≤ e → shapeL ts d = true → shapeL ts e = true
  | [], _, _, _, _ => rfl
  | t :: ts, d, e, hde, h => by
    simp only [shapeL, Bool.and_eq_true] at h ⊢
    exact ⟨shape_up t d e hde h.1, shapeL_up ts d e hde h.2⟩
end
theorem shapeL_mem : ∀ {ts : List Tm} {d : Nat} {t : Tm}, shapeL ts d = true → t ∈ ts → shapeF t d = true
  | [], _, _, _, hm => by simp at hm
  | u :: ts, d, t, h, hm => by
    simp only [shapeL, Bool.and_eq_true] at h
    rcases List.mem_cons.1 hm with rfl | hm
    · exact h.1
    · exact shapeL_mem h.2 hm
theorem valid_kid {t u : Tm} (h : validF t = true) (hu : u ∈ t.kids) : validF u = true := by
  obtain ⟨k, n, s, ks⟩ := t
  simp only [Tm.kids] at hu
  obtain ⟨j, hj⟩ := List.getElem?_of_mem hu
  have hsz := valid_sz h
  have hsh := valid_shape h
  have hlt := kid_lt (k := k) (n := n) (s := s) (ks := ks) hj
  rw [valid_eq]
  simp only [Bool.and_eq_true, decide_eq_true_eq]
  simp only [shapeF, Bool.and_eq_true] at hsh
  exact ⟨shape_up u 29 30 (by omega) (shapeL_mem hsh.2 hu), by omega⟩

mutual
theorem varsF_mem : ∀ (t : Tm) (zs : List Int) (x : Int), x ∈ zs → x ∈ varsF t zs
  | .mk k n s ks, zs, x, h => by
    simp only [varsF]
    refine varsL_mem ks _ x ?_
    split
    · exact List.mem_append_left _ h
    · exact h
theorem varsL_mem : ∀ (ts : List Tm) (zs : List Int) (x : Int), x ∈ zs → x ∈ varsL ts zs
  | [], zs, x, h => h
  | t :: ts, zs, x, h => by
    simp only [varsL]
    exact varsL_mem ts _ x (varsF_mem t zs x h)
end
mutual
theorem varsF_sub : ∀ (t : Tm) (zs us : List Int) (x : Int), x ∈ varsF t zs → x ∈ zs ∨ x ∈ varsF t us
  | .mk k n s ks, zs, us, x, h => by
    simp only [varsF] at h ⊢
    rcases varsL_sub ks _ (if (k == 1 && !(hasI us n)) = true then us ++ [n] else us) x h with h1 | h1
    · split at h1
      · rename_i hc
        rcases List.mem_append.1 h1 with h2 | h2
        · exact .inl h2
        · right
          simp at h2
          subst h2
          refine varsL_mem ks _ x ?_
          by_cases hu : hasI us x = true
          · rw [hu]
            simp
            simpa [hasI] using hu
          · simp at hc
            simp [hc.1, hu]
      · exact .inl h1
    · exact .inr h1
theorem varsL_sub : ∀ (ts : List Tm) (zs us : List Int) (x : Int), x ∈ varsL ts zs → x ∈ zs ∨ x ∈ varsL ts us
  | [], zs, us, x, h => .inl h
  | t :: ts, zs, us, x, h => by
    simp only [varsL] at h ⊢
    rcases varsL_sub ts (varsF t zs) (varsF t us) x h with h1 | h1
    · rcases varsF_sub t zs us x h1 with h2 | h2
      · exact .inl h2
      · exact .inr (varsL_mem ts _ x h2)
    · exact .inr h1
end
theorem varsL_kid : ∀ {ts : List Tm} {t : Tm} {zs : List Int} {x : Int}, t ∈ ts → x ∈ varsF t [] → x ∈ varsL ts zs
  | [], _, _, _, hm, _ => by simp at hm
  | u :: ts, t, zs, x, hm, hx => by
    simp only [varsL]
    rcases List.mem_cons.1 hm with rfl | hm
    · refine varsL_mem ts _ x ?_
      rcases varsF_sub t [] zs x hx with h | h
      · simp at h
      · exact h
    · exact varsL_kid hm hx
theorem vars_kid {t u : Tm} {x : Int} (hu : u ∈ t.kids) (hx : x ∈ varsF u []) : x ∈ varsF t [] := by
  obtain ⟨k, n, s, ks⟩ := t
  simp only [varsF]
  exact varsL_kid hu hx
mutual
theorem varsF_nodup : ∀ (t : Tm) (zs : List Int), zs.Nodup → (varsF t zs).Nodup
  | .mk k n s ks, zs, h => by
    simp only [varsF]
    refine varsL_nodup ks _ ?_
    split
    · rename_i hc
      simp [hasI] at hc
      rw [List.nodup_append]
      refine ⟨h, by simp, ?_⟩
      intro a ha b hb
      simp at hb
      subst hb
      intro e
      subst e
      exact hc.2 ha
    · exact h
theorem varsL_nodup : ∀ (ts : List Tm) (zs : List Int), zs.Nodup → (varsL ts zs).Nodup
  | [], zs, h => h
  | t :: ts, zs, h => by
    simp only [varsL]
    exact varsL_nodup ts _ (varsF_nodup t zs h)
end
theorem nodup_take {zs : List Int} {k : Nat} {x : Int} (h : zs.Nodup) (hx : zs[k]? = some x) : hasI (zs.take k) x = false := by
  simp only [hasI]
  cases hc : (zs.take k).contains x with
  | false => rfl
  | true =>
    exfalso
    simp only [List.contains_iff_mem] at hc
    have h' : (zs.take k ++ zs.drop k).Nodup := by rw [List.take_append_drop]; exact h
    rw [List.nodup_append] at h'
    have hd : x ∈ zs.drop k := List.mem_of_getElem? (i := 0) (by simpa using hx)
    exact h'.2.2 x hc x hd rfl
theorem tvars_nodup (t : Tm) : (tvarsF t).Nodup := by
  unfold tvarsF
  split
  · exact varsF_nodup t [] (by simp)
  · simp
theorem tvars_len (t : Tm) : (tvarsF t).length ≤ Tm.sz t := by
  unfold tvarsF
  split
  · have := varsF_len t []
    simpa using this
  · simp
theorem tvars_kid {t u : Tm} {x : Int} (h : validF t = true) (hu : u ∈ t.kids) (hx : x ∈ tvarsF u) : hasI (tvarsF t) x = true := by
  unfold tvarsF at hx ⊢
  rw [if_pos (valid_kid h hu)] at hx
  rw [if_pos h]
  simp only [hasI]
  simp
  exact vars_kid hu hx
/-- the sum of the sizes -/
theorem szL_snoc {ts : List Tm} {k : Nat} {t : Tm} (h : ts[k]? = some t) : Tm.szL (ts.take (k + 1)) = Tm.szL (ts.take k) + Tm.sz t := by
  induction ts generalizing k with
  | nil => simp at h
  | cons t0 ts ih =>
    cases k with
    | zero => simp at h; subst h; simp [Tm.szL]
    | succ k =>
      have := ih (k := k) (by simpa using h)
      simp only [List.take_succ_cons, Tm.szL]
      omega
theorem sz_kids (t : Tm) : Tm.sz t = 1 + Tm.szL t.kids := by
  obtain ⟨k, n, s, ks⟩ := t
  simp only [Tm.sz, Tm.kids]

end Go.Proofs.YtifklfnpaigdkaaDoor
