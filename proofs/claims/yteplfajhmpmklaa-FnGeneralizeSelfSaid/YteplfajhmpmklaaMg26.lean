/-
  ShiftTerm: the program's and the reference's.
-/
import Derived.Test.YteplfajhmpmklaaMg25
import Derived.Test.YteplfajhmpmklaaMg8
import Derived.Test.YteplfajhmpmklaaMg20
namespace Go.Proofs.Yteplfajhmpmklaa
open Go.RowKit
set_option linter.unusedVariables false

def shiftB (t : Tm) (m : Int) : Bool := validF t && (decide (-25 ≤ m) && decide (m ≤ 25)) && validF (shiftS m t)
def shiftR (t : Tm) (m : Int) : Tm := if shiftB t m = true then shiftS m t else zeroT
theorem shift_no {t : Tm} {m : Int} (h : shiftB t m = false) : shiftR t m = zeroT := by unfold shiftR; rw [if_neg (by rw [h]; simp)]
theorem shift_yes {t : Tm} {m : Int} (h : shiftB t m = true) : shiftR t m = shiftS m t := by unfold shiftR; rw [if_pos h]
theorem kids_sz (t : Tm) : Tm.szL t.kids < Tm.sz t := by cases t; simp only [Tm.sz, Tm.kids]; omega
theorem shiftR_sz (t : Tm) (m : Int) : Tm.szL (shiftR t m).kids ≤ 120 := by
  cases h : shiftB t m
  · rw [shift_no h]
    simp [zeroT, Tm.kids, Tm.szL]
  · rw [shift_yes h]
    unfold shiftB at h
    simp only [Bool.and_eq_true] at h
    have h1 := valid_sz h.2
    have h2 := kids_sz (shiftS m t)
    omega




end Go.Proofs.Yteplfajhmpmklaa

/-
  Numbering the variables of terms anew: plain laws; and slices.Index at []int, exactly.
-/
namespace Go.Proofs.Yteplfajhmpmklaa
open Go.RowKit
set_option linter.unusedVariables false

/-- the first place of a number, or -1 -/
def idxI : List Int → Int → Int
  | [], _ => -1
  | z :: zs, x => if z = x then 0 else if idxI zs x < 0 then -1 else idxI zs x + 1
theorem idx_at : ∀ {zs : List Int} {k : Nat} {x : Int}, hasI (zs.take k) x = false → zs[k]? = some x → idxI zs x = k
  | [], k, x, _, h => by simp at h
  | z :: zs, 0, x, _, h => by simp at h; subst h; simp [idxI]
  | z :: zs, k + 1, x, h, hx => by
    have h1 : z ≠ x := by
      intro e; subst e
      simp [hasI] at h
    have h2 : hasI (zs.take k) x = false := by
      simp [hasI] at h ⊢
      exact h.2
    have := idx_at h2 (by simpa using hx)
    simp only [idxI, if_neg h1, this]
    rw [if_neg (by omega)]
    omega
theorem idx_none : ∀ {zs : List Int} {x : Int}, hasI zs x = false → idxI zs x = -1
  | [], _, _ => rfl
  | z :: zs, x, h => by
    have h1 : z ≠ x := by
      intro e; subst e
      simp [hasI] at h
    have h2 : hasI zs x = false := by
      simp [hasI] at h ⊢
      exact h.2
    simp only [idxI, if_neg h1, idx_none h2]
    rfl
theorem idx_ge : ∀ (zs : List Int) (x : Int), -1 ≤ idxI zs x ∧ idxI zs x < zs.length
  | [], _ => by simp [idxI]
  | z :: zs, x => by
    have := idx_ge zs x
    simp only [idxI, List.length_cons]
    split
    · omega
    · split <;> omega
theorem idx_get : ∀ {zs : List Int} {x : Int}, hasI zs x = true → ∃ j : Nat, zs[j]? = some x ∧ idxI zs x = j
  | [], _, h => by simp [hasI] at h
  | z :: zs, x, h => by
    by_cases h1 : z = x
    · subst h1; exact ⟨0, rfl, by simp [idxI]⟩
    · have h2 : hasI zs x = true := by
        simp [hasI] at h ⊢
        rcases h with h | h
        · exact absurd h.symm h1
        · exact h
      obtain ⟨j, hj, he⟩ := idx_get h2
      refine ⟨j + 1, by simpa using hj, ?_⟩
      simp only [idxI, if_neg h1, he]
      rw [if_neg (by omega)]
      omega
/-- the last place of a number below k, or d -/
def lastK (zs : List Int) (x d : Int) : Nat → Int
  | 0 => d
  | k + 1 => if zs[k]? = some x then k else lastK zs x d k
theorem lastK_eq {zs : List Int} {x d : Int} {j : Nat} (hn : zs.Nodup) (hj : zs[j]? = some x) : ∀ k, lastK zs x d k = if j < k then (j : Int) else d
  | 0 => by simp [lastK]
  | k + 1 => by
    have ih := lastK_eq (d := d) hn hj k
    simp only [lastK]
    by_cases h : zs[k]? = some x
    · rw [if_pos h]
      obtain ⟨l1, e1⟩ := List.getElem?_eq_some_iff.1 h
      obtain ⟨l2, e2⟩ := List.getElem?_eq_some_iff.1 hj
      have : k = j := (List.getElem_inj hn).1 (e1.trans e2.symm)
      subst this
      rw [if_pos (by omega)]
    · rw [if_neg h, ih]
      by_cases h1 : j < k
      · rw [if_pos h1, if_pos (by omega)]
      · rw [if_neg h1, if_neg]
        intro h2
        have : j = k := by omega
        subst this
        exact h hj
mutual
/-- the reference's renaming -/
def renS (zs : List Int) : Tm → Tm
  | .mk k n s ks => .mk k (if k = 1 then lastK zs n n zs.length else n) s (renSL zs ks)
def renSL (zs : List Int) : List Tm → List Tm
  | [] => []
  | t :: ts => renS zs t :: renSL zs ts
end
theorem renSL_len (zs : List Int) : ∀ ts : List Tm, (renSL zs ts).length = ts.length
  | [] => rfl
  | t :: ts => by simp [renSL, renSL_len zs ts]
theorem renSL_snoc (zs : List Int) : ∀ {ts : List Tm} {j : Nat} {t : Tm}, ts[j]? = some t → renSL zs (ts.take (j + 1)) = renSL zs (ts.take j) ++ [renS zs t]
  | [], j, t, h => by simp at h
  | t0 :: ts, 0, t, h => by simp at h; subst h; simp [renSL]
  | t0 :: ts, j + 1, t, h => by
    simp only [List.take_succ_cons, renSL, List.cons_append]
    rw [renSL_snoc zs (by simpa using h)]
/-- the program's answer at a variable -/
def numT (zs : List Int) (n : Int) : Tm := varT (idxI zs n)
mutual
/-- all variables of a term are in a list -/
def VarIn (zs : List Int) : Tm → Prop
  | .mk k n _ ks => if k = 1 then hasI zs n = true else VarInL zs ks
def VarInL (zs : List Int) : List Tm → Prop
  | [] => True
  | t :: ts => VarIn zs t ∧ VarInL zs ts
end
theorem has_iff {zs : List Int} {x : Int} : hasI zs x = true ↔ x ∈ zs := by simp [hasI]
mutual
theorem varIn_mono {zs us : List Int} (h : ∀ x, x ∈ zs → x ∈ us) : ∀ t : Tm, VarIn zs t → VarIn us t
  | .mk k n s ks, ht => by
    simp only [VarIn] at ht ⊢
    split
    · rename_i e
      rw [if_pos e] at ht
      exact has_iff.2 (h _ (has_iff.1 ht))
    · rename_i e
      rw [if_neg e] at ht
      exact varInL_mono h ks ht
theorem varInL_mono {zs us : List Int} (h : ∀ x, x ∈ zs → x ∈ us) : ∀ ts : List Tm, VarInL zs ts → VarInL us ts
  | [], _ => trivial
  | t :: ts, ht => ⟨varIn_mono h t ht.1, varInL_mono h ts ht.2⟩
end
mutual
theorem varIn_vars : ∀ (t : Tm) (zs : List Int), VarIn (varsF t zs) t
  | .mk k n s ks, zs => by
    simp only [VarIn, varsF]
    split
    · rename_i e
      subst e
      apply has_iff.2
      apply varsL_mem
      by_cases hz : hasI zs n = true
      · rw [hz]; simp; exact has_iff.1 hz
      · simp [hz]
    · exact varInL_vars ks _
theorem varInL_vars : ∀ (ts : List Tm) (zs : List Int), VarInL (varsL ts zs) ts
  | [], _ => trivial
  | t :: ts, zs => by
    simp only [VarInL, varsL]
    exact ⟨varIn_mono (fun x hx => varsL_mem ts _ x hx) t (varIn_vars t zs), varInL_vars ts _⟩
end
mutual
theorem ren_eq {zs : List Int} (hn : zs.Nodup) : ∀ (t : Tm) (d : Nat), shapeF t d = true → VarIn zs t → mapF (numT zs) t = renS zs t
  | .mk k n s ks, d, hs, hv => by
    simp only [mapF, renS]
    simp only [VarIn] at hv
    by_cases e : k = 1
    · subst e
      rw [if_pos rfl] at hv
      rw [if_pos rfl, if_pos rfl]
      obtain ⟨rfl, rfl⟩ := var_form hs
      obtain ⟨j, hj, he⟩ := idx_get hv
      have hl : j < zs.length := (List.getElem?_eq_some_iff.1 hj).1
      rw [lastK_eq hn hj, if_pos hl]
      simp only [numT, varT, he, renSL]
    · rw [if_neg e] at hv
      rw [if_neg e, if_neg e, renL_eq hn ks (d - 1) (by simp only [shapeF, Bool.and_eq_true] at hs; exact hs.2) hv]
theorem renL_eq {zs : List Int} (hn : zs.Nodup) : ∀ (ts : List Tm) (d : Nat), shapeL ts d = true → VarInL zs ts → mapL (numT zs) ts = renSL zs ts
  | [], _, _, _ => rfl
  | t :: ts, d, hs, hv => by
    simp only [shapeL, Bool.and_eq_true] at hs
    simp only [mapL, renSL]
    rw [ren_eq hn t d hs.1 hv.1, renL_eq hn ts d hs.2 hv.2]
end
/-- the terms, numbered anew -/
def renF (ts : List Tm) : List Tm := mapL (numT (varsL ts [])) ts
theorem renF_len (ts : List Tm) : (renF ts).length = ts.length := mapL_len _ _
def allVF (ts : List Tm) : Bool := ts.all validF
theorem allV_shape {ts : List Tm} (h : allVF ts = true) : shapeL ts 30 = true := by
  unfold allVF at h
  induction ts with
  | nil => rfl
  | cons t ts ih =>
    simp only [List.all_cons, Bool.and_eq_true] at h
    simp only [shapeL, Bool.and_eq_true]
    exact ⟨valid_shape h.1, ih h.2⟩
theorem renF_eq {ts : List Tm} (h : shapeL ts 30 = true) : renF ts = renSL (varsL ts []) ts := renL_eq (varsL_nodup ts [] (by simp)) ts 30 h (varInL_vars ts [])

set_option maxHeartbeats 400000 in
theorem slicesIndexX (zs : List Int) (v : Value) (x : Int) (w : World) (hv : IntsAt w zs v) : Calls Try.prog 82 #[v, .int .i64 x] w fun e w' => e = .returned (.int .i64 (idxI zs x)) ∧ w = w' := by
  obtain ⟨a, cap, rfl, h1, h2, h3, h4⟩ := hv
  have H4 := Lib.hid h4
  clear h4
  go_enter Try.func82, Try.ntmps82
  go_wp2_with fail
  go_loop [5, 8] (fun _ i => ∃ k : Nat, k ≤ zs.length ∧ i = .int .i64 k ∧ Hid (hasI (zs.take k) x = false)) (fun _ i => zs.length - (intOf i).toNat)
  case atStart => exact ⟨0, Nat.zero_le _, rfl, Lib.hid (by simp [hasI])⟩
  case round =>
    obtain ⟨k, hk, rfl, Ha⟩ := hrel
    by_cases hlt : k < zs.length
    · rcases H4.out with h4 | ⟨b, off, rfl, h5⟩
      · subst h4; simp at hlt
      · obtain ⟨z, hz⟩ : ∃ z, zs[k]? = some z := ⟨zs[k], by simp [hlt]⟩
        have hc := h5 k z hz
        have Hz := Lib.hid hz
        clear hz h5
        by_cases he : z = x
        · subst he
          have hf := Lib.hid (idx_at Ha.out Hz.out)
          go_wp2_with fail
          go_ret
          exact ⟨retI hf.out.symm, rfl⟩
        · have hf := Lib.hid (has_take Hz.out Ha.out he)
          have he' : (z == x) = false := by simpa using he
          have he2 : (x == z) = false := by simpa using fun e => he e.symm
          go_wp2_with fail
          go_round
          case rel => exact ⟨k + 1, by omega, by go_num, hf⟩
          case measure => simp [intOf]; omega
    · have hf := Lib.hid (idx_none (has_end (by omega) Ha.out))
      go_wp2_with fail
      go_ret
      exact ⟨retI hf.out.symm, rfl⟩

end Go.Proofs.Yteplfajhmpmklaa

/-
  ContainsFunc over terms with a plain test.
-/
namespace Go.Proofs.Yteplfajhmpmklaa
open Go.RowKit
set_option linter.unusedVariables false

theorem any_yes {f : Tm → Bool} {ts : List Tm} {j : Nat} {b : Nat → Bool} (hb : ∀ j t, ts[j]? = some t → b j = f t) (hj : j < ts.length) (h : b j = true) : ts.any f = true := by
  obtain ⟨t, ht⟩ := getk hj
  rw [hb j t ht] at h
  exact List.any_eq_true.2 ⟨t, List.mem_of_getElem? ht, h⟩
theorem any_no {f : Tm → Bool} {ts : List Tm} {b : Nat → Bool} (hb : ∀ j t, ts[j]? = some t → b j = f t) (h : ∀ i, i < ts.length → b i = false) : ts.any f = false := by
  apply List.any_eq_false.2
  intro t ht
  obtain ⟨j, hj⟩ := List.getElem?_of_mem ht
  rw [← hb j t hj, h j (List.getElem?_eq_some_iff.1 hj).1]
  simp
/-- the test at an index -/
def atB (f : Tm → Bool) (ts : List Tm) (j : Nat) : Bool := match ts[j]? with | some t => f t | none => false
theorem atB_eq (f : Tm → Bool) (ts : List Tm) : ∀ j t, ts[j]? = some t → atB f ts j = f t := fun j t h => by unfold atB; rw [h]

theorem containsAny (fid : FuncId) (f : Tm → Bool) (hcf : ∀ args w, Sem.run Try.prog (callFunc fid args) w = .ok (.enter fid args) w)
    (hf : ∀ (t : Tm) (v : Value) (S : Nat → Prop) (w : World), Tm.at S w t v → Calls Try.prog fid #[v] w fun e w' => e = .returned (.bool (f t)) ∧ Ext w w')
    (ts : List Tm) (v : Value) (S : Nat → Prop) (w : World) (ht : Tm.sl S w ts v) :
    Calls Try.prog 85 #[v, .func (.func fid) #[] #[]] w fun e w' => e = .returned (.bool (ts.any f)) ∧ Ext w w' := by
  refine (slicesContainsFunc fid #[] ts S (fun _ w' => Ext w w') (atB f ts) v w hcf (Lib.hid fun j t vt w' hj _ e hat => ?_) (Lib.hid fun j w' e => Tm.sl_ext e ht) (Lib.hid (Ext.refl w))).mono ?_
  · refine (hf t vt S w' hat).mono ?_
    rintro e' w'' ⟨rfl, e2⟩
    exact ⟨by rw [atB_eq f ts j t hj], e.trans e2⟩
  · rintro e w' (⟨j, hj, hb, hbj, rfl, hI⟩ | ⟨hb, rfl, hI⟩)
    · exact ⟨retB (any_yes (atB_eq f ts) hj hbj).symm, hI⟩
    · exact ⟨retB (any_no (atB_eq f ts) hb).symm, hI⟩

end Go.Proofs.Yteplfajhmpmklaa
