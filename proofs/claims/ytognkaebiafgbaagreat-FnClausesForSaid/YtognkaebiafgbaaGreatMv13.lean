/-
  ContainsFunc over terms with a plain test.
-/
import Derived.Test.YtognkaebiafgbaaGreatMv2
import Derived.Test.YtognkaebiafgbaaGreatMv10
import Derived.Test.YtognkaebiafgbaaGreatMv7
import Derived.Test.YtognkaebiafgbaaGreatMv12
namespace Go.Proofs.YtognkaebiafgbaaGreat
open Go.RowKit
set_option linter.unusedVariables false
theorem any_yes {f : Tm → Bool} {ts : List Tm} {j : Nat} {b : Nat → Bool} (hb : ∀ j t, ts[j]? = some t → b j = f t) (hj : j < ts.length) (h : b j = true) : ts.any f = true := by
  obtain ⟨t, ht⟩ := getk hj
  rw [hb j t ht] at h
  exact List.any_eq_true.2 ⟨t, List.mem_of_getElem? ht, h⟩
theorem any_no {f : Tm → Bool} {ts : List Tm} {b : Nat → Bool} (hb : ∀ j t, ts[j]? = some t → b j = f t) (h : ∀ i, i < ts.length → b i = false) : ts.any f = false := by
  apply List.any_eq_false.2
  intro t ht
  obtain ⟨j, hj⟩ := List.getElem?_of_mem ht
  rw [← hb j t hj, h j (List.getElem?_eq_some_iff.1 hj).1]
  simp
def atT (f : Tm → Bool) (ts : List Tm) (j : Nat) : Bool := match ts[j]? with | some t => f t | none => false
theorem atT_eq (f : Tm → Bool) (ts : List Tm) : ∀ j t, ts[j]? = some t → atT f ts j = f t := fun j t h => by unfold atT; rw [h]
theorem containsAny (fid : FuncId) (f : Tm → Bool) (hcf : ∀ args w, Sem.run Tryz.prog (callFunc fid args) w = .ok (.enter fid args) w)
    (hf : ∀ (t : Tm) (v : Value) (S : Nat → Prop) (w : World), Tm.at S w t v → Calls Tryz.prog fid #[v] w fun e w' => e = .returned (.bool (f t)) ∧ Ext w w')
    (ts : List Tm) (v : Value) (S : Nat → Prop) (w : World) (ht : Tm.sl S w ts v) :
    Calls Tryz.prog 65 #[v, .func (.func fid) #[] #[]] w fun e w' => e = .returned (.bool (ts.any f)) ∧ Ext w w' := by
  refine (slicesContainsFunc fid #[] ts S (fun _ w' => Ext w w') (atT f ts) v w hcf (Lib.hid fun j t vt w' hj _ e hat => ?_) (Lib.hid fun j w' e => Tm.sl_ext e ht) (Lib.hid (Ext.refl w))).mono ?_
  · refine (hf t vt S w' hat).mono ?_
    rintro e' w'' ⟨rfl, e2⟩
    exact ⟨by rw [atT_eq f ts j t hj], e.trans e2⟩
  · rintro e w' (⟨j, hj, hb, hbj, rfl, hI⟩ | ⟨hb, rfl, hI⟩)
    · exact ⟨retB (any_yes (atT_eq f ts) hj hbj).symm, hI⟩
    · exact ⟨retB (any_no (atT_eq f ts) hb).symm, hI⟩
end Go.Proofs.YtognkaebiafgbaaGreat

namespace Go.Proofs.YtognkaebiafgbaaGreat
open Go.RowKit
set_option linter.unusedVariables false
theorem implisPlain_t (t : Tm) (v : Value) (S : Nat → Prop) (w : World) (ht : Tm.at S w t v) : Calls Tryz.prog 19 #[v] w fun e w' => e = .returned (.bool (plainF t.kind t.name t.kids.length)) ∧ Ext w w' := by
  obtain ⟨k, n, s, ks⟩ := t
  exact implisPlain k n s ks v S w ht
theorem specl4Plain_t (t : Tm) (v : Value) (S : Nat → Prop) (w : World) (ht : Tm.at S w t v) : Calls Tryz.prog 24 #[v] w fun e w' => e = .returned (.bool (plainF t.kind t.name t.kids.length)) ∧ Ext w w' := by
  obtain ⟨k, n, s, ks⟩ := t
  exact specl4Plain k n s ks v S w ht
def notGoal (t : Tm) : Bool := !goalF t
def goalsF (ts : List Tm) : Bool := decide (ts.length ≤ 6) && !(ts.any notGoal)
def clValidF (c : Cl) : Bool := validF c.head && plainF c.head.kind c.head.name c.head.kids.length && goalsF c.body
set_option maxHeartbeats 400000 in
theorem implgoalsValid1 (t : Tm) (v : Value) (S : Nat → Prop) (w : World) (ht : Tm.at S w t v) :
    Calls Tryz.prog 70 #[v] w fun e w' => e = .returned (.bool (notGoal t)) ∧ Ext w w' := by
  have HT := Lib.hid (fun w' (e' : Ext w w') => implGoalValid_t t v S w' (Tm.at_ext e' ht))
  obtain ⟨a, c, rfl⟩ := at_form ht
  clear ht
  go_enter Tryz.func70, Tryz.ntmps70
  go_wp2_with fail
  refine (HT.out _ (Ext.alloc _ _)).mono ?_
  rintro e w1 ⟨rfl, q⟩
  go_wp2_with fail
  go_ret
  exact ⟨rfl, (Ext.alloc _ _).trans q⟩
set_option maxHeartbeats 400000 in
theorem implgoalsValid (ts : List Tm) (v : Value) (S : Nat → Prop) (w : World) (ht : Tm.sl S w ts v) :
    Calls Tryz.prog 53 #[v] w fun e w' => e = .returned (.bool (goalsF ts)) ∧ Ext w w' := by
  have HT := Lib.hid (containsAny 70 notGoal (fun _ _ => by kernel_rfl) implgoalsValid1 ts v S w ht)
  obtain ⟨a, cap, rfl, h1, h2, h3, h4⟩ := ht
  clear h4
  by_cases hl : ts.length ≤ 6
  · have hf : Hid (goalsF ts = !(ts.any notGoal)) := Lib.hid (by unfold goalsF; rw [decide_eq_true hl]; rfl)
    go_enter Tryz.func53, Tryz.ntmps53
    go_wp2_with fail
    refine HT.out.mono ?_
    rintro e w1 ⟨rfl, q⟩
    go_wp2_with fail
    go_ret
    exact ⟨retB hf.out.symm, q⟩
  · have hf : Hid (goalsF ts = false) := Lib.hid (by unfold goalsF; rw [decide_eq_false hl]; rfl)
    go_enter Tryz.func53, Tryz.ntmps53
    go_wp2_with fail
    go_ret
    exact ⟨retB hf.out.symm, Ext.refl _⟩
set_option maxHeartbeats 1000000 in
theorem implClauseValid (c : Cl) (v : Value) (S : Nat → Prop) (w : World) (hc : Cl.at S w c v) :
    Calls Tryz.prog 28 #[v] w fun e w' => e = .returned (.bool (clValidF c)) ∧ Ext w w' := by
  obtain ⟨a, ca, b, cb, rfl, hH, hB⟩ := Cl.form hc
  have HT := Lib.hid (fun w' (e' : Ext w w') => implTermValid c.head _ S w' (Tm.at_ext e' hH))
  have HP := Lib.hid (fun w' (e' : Ext w w') => implisPlain_t c.head _ S w' (Tm.at_ext e' hH))
  have HS := Lib.hid (fun w' (e' : Ext w w') => implgoalsValid c.body _ S w' (Tm.sl_ext e' hB))
  clear hH hB hc
  cases h1 : validF c.head
  · have hf : Hid (clValidF c = false) := Lib.hid (by unfold clValidF; rw [h1]; rfl)
    go_enter Tryz.func28, Tryz.ntmps28
    go_wp2_with fail
    refine (HT.out _ (Ext.alloc _ _)).mono ?_
    rw [h1]
    rintro e w1 ⟨rfl, q⟩
    go_wp2_with fail
    go_ret
    exact ⟨retB hf.out.symm, (Ext.alloc _ _).trans q⟩
  cases h2 : plainF c.head.kind c.head.name c.head.kids.length
  all_goals
    have hf : Hid (clValidF c = (plainF c.head.kind c.head.name c.head.kids.length && goalsF c.body)) := Lib.hid (by unfold clValidF; rw [h1]; rfl)
    rw [h2] at hf
    go_enter Tryz.func28, Tryz.ntmps28
    go_wp2_with fail
    refine (HT.out _ (Ext.alloc _ _)).mono ?_
    rw [h1]
    rintro e w1 ⟨rfl, q⟩
    have c0 := q.cell (a := ⟨w.heap.size, 0, none⟩) (v := .int .i64 c.head.kind) (by go_simp)
    have c1 := q.cell (a := ⟨w.heap.size, 1, none⟩) (v := .int .i64 c.head.n) (by go_simp)
    have c2 := q.cell (a := ⟨w.heap.size, 2, none⟩) (v := .string c.head.name) (by go_simp)
    have c3 := q.cell (a := ⟨w.heap.size, 3, none⟩) (v := .slice a c.head.kids.length ca) (by go_simp)
    have c4 := q.cell (a := ⟨w.heap.size, 4, none⟩) (v := .slice b c.body.length cb) (by go_simp)
    have E := Lib.hid ((Ext.alloc _ _).trans q)
    clear q h1
    go_wp2_with fail
    refine (HP.out _ E.out).mono ?_
    rw [h2]
    rintro e w2 ⟨rfl, q⟩
    replace c4 := q.cell c4
    have E := Lib.hid (E.out.trans q)
    clear c0 c1 c2 c3 h2 q
  · go_wp2_with fail
    go_ret
    exact ⟨retB hf.out.symm, E.out⟩
  · go_wp2_with fail
    refine (HS.out _ E.out).mono ?_
    rintro e w3 ⟨rfl, q⟩
    go_wp2_with fail
    go_ret
    exact ⟨retB hf.out.symm, E.out.trans q⟩
theorem goals_no {ts : List Tm} {j : Nat} {t : Tm} (h : ts[j]? = some t) (hg : goalF t = false) : goalsF ts = false := by
  have : ts.any notGoal = true := List.any_eq_true.2 ⟨t, List.mem_of_getElem? h, by unfold notGoal; rw [hg]; rfl⟩
  unfold goalsF
  rw [this]
  simp
def GoalsTo (k : Nat) (ts : List Tm) : Prop := ∀ (j : Nat) (t : Tm), j < k → ts[j]? = some t → goalF t = true
theorem goalsTo_succ {k : Nat} {ts : List Tm} {t : Tm} (h : GoalsTo k ts) (ht : ts[k]? = some t) (hg : goalF t = true) : GoalsTo (k + 1) ts := by
  intro j u hj hu
  by_cases e : j = k
  · subst e; rw [ht] at hu; cases hu; exact hg
  · exact h j u (by omega) hu
theorem goalsTo_all {k : Nat} {ts : List Tm} (h : GoalsTo k ts) (hk : ts.length ≤ k) : goalsF ts = decide (ts.length ≤ 6) := by
  have : ts.any notGoal = false := List.any_eq_false.2 (fun t ht => by
    obtain ⟨j, hj⟩ := List.getElem?_of_mem ht
    have := h j t (by have := (List.getElem?_eq_some_iff.1 hj).1; omega) hj
    unfold notGoal
    rw [this]
    simp)
  unfold goalsF
  rw [this]
  simp
set_option maxHeartbeats 1000000 in
theorem specClauseValid (c : Cl) (v : Value) (S : Nat → Prop) (w : World) (hc : Cl.at S w c v) :
    Calls Tryz.prog 46 #[v] w fun e w' => e = .returned (.bool (clValidF c)) ∧ Ext w w' := by
  obtain ⟨a, ca, b, cb, rfl, hH, hB⟩ := Cl.form hc
  have HT := Lib.hid (fun w' (e' : Ext w w') => specTermValid c.head _ S w' (Tm.at_ext e' hH))
  have HP := Lib.hid (fun w' (e' : Ext w w') => specl4Plain_t c.head _ S w' (Tm.at_ext e' hH))
  obtain ⟨_, _, he, h1, h2, h3, h4⟩ := hB
  obtain ⟨rfl, _, rfl⟩ := Value.slice.inj he
  have H4 := Lib.hid h4
  clear hH hc h4 he
  go_enter Tryz.func46, Tryz.ntmps46
  go_wp2_with fail
  go_loopw [3] (fun i wr => ∃ k : Nat, k ≤ c.body.length ∧ k ≤ 7 ∧ i = .int .i64 k ∧ Hid (GoalsTo k c.body) ∧ Ext w wr ∧ wr.cell? ⟨w.heap.size, 0, none⟩ = some (.int .i64 c.head.kind) ∧ wr.cell? ⟨w.heap.size, 1, none⟩ = some (.int .i64 c.head.n) ∧
      wr.cell? ⟨w.heap.size, 2, none⟩ = some (.string c.head.name) ∧ wr.cell? ⟨w.heap.size, 3, none⟩ = some (.slice a c.head.kids.length ca) ∧ wr.cell? ⟨w.heap.size, 4, none⟩ = some (.slice b c.body.length cb)) (fun i _ => c.body.length - (intOf i).toNat)
  case atStart => exact ⟨0, Nat.zero_le _, by omega, rfl, fun j t h => absurd h (by omega), Ext.alloc _ _, by go_simp, by go_simp, by go_simp, by go_simp, by go_simp⟩
  case round =>
    obtain ⟨k, hk, hk7, rfl, HG, he, b0, b1, b2, b3, b4⟩ := hrel
    by_cases hlt : k < c.body.length
    · by_cases hk6 : k ≤ 6
      · obtain ⟨tk, htk⟩ := getk hlt
        obtain ⟨bb, off, ak, ck, rfl, hSb, c0, c1, c2, c3, hat⟩ := tget H4.out htk
        have HC := Lib.hid (fun w' (e' : Ext wr w') => specGoalValid_t tk _ S w' (Tm.at_ext (he.trans e') hat))
        replace c0 := he.cell c0
        replace c1 := he.cell c1
        replace c2 := he.cell c2
        replace c3 := he.cell c3
        have HTK := Lib.hid htk
        clear htk hat hSb
        cases hg : goalF tk
        · have hf : Hid (clValidF c = false) := Lib.hid (by unfold clValidF; rw [goals_no HTK.out hg]; simp)
          go_wp2_with fail
          refine (HC.out _ (Ext.refl _)).mono ?_
          rw [hg]
          rintro e w1 ⟨rfl, q⟩
          clear hg
          go_wp2_with fail
          go_ret
          exact ⟨retB hf.out.symm, he.trans q⟩
        · have hs := Lib.hid (goalsTo_succ HG.out HTK.out hg)
          go_wp2_with fail
          refine (HC.out _ (Ext.refl _)).mono ?_
          rw [hg]
          rintro e w1 ⟨rfl, q⟩
          clear hg
          go_wp2_with fail
          go_roundw
          case rel => exact ⟨k + 1, by omega, by omega, by go_num, hs, he.trans q, q.cell b0, q.cell b1, q.cell b2, q.cell b3, q.cell b4⟩
          case measure => simp [intOf]; omega
      · have h6 : ¬ c.body.length ≤ 6 := by omega
        have hf : Hid (clValidF c = false) := Lib.hid (by unfold clValidF goalsF; rw [decide_eq_false h6]; simp)
        go_wp2_with fail
        go_ret
        exact ⟨retB hf.out.symm, he⟩
    · have hall := Lib.hid (goalsTo_all HG.out (by omega))
      by_cases h6 : c.body.length ≤ 6
      · have hf0 : Hid (clValidF c = (validF c.head && plainF c.head.kind c.head.name c.head.kids.length)) := Lib.hid (by unfold clValidF; rw [hall.out, decide_eq_true h6]; simp)
        go_wp2_with fail
        refine (HT.out _ he).mono ?_
        cases h1 : validF c.head
        · have hf : Hid (clValidF c = false) := Lib.hid (by rw [hf0.out, h1]; rfl)
          rintro e w1 ⟨rfl, q⟩
          clear h1
          go_wp2_with fail
          go_ret
          exact ⟨retB hf.out.symm, he.trans q⟩
        · have hf : Hid (clValidF c = plainF c.head.kind c.head.name c.head.kids.length) := Lib.hid (by rw [hf0.out, h1]; rfl)
          rintro e w1 ⟨rfl, q⟩
          clear h1
          replace b0 := q.cell b0
          replace b1 := q.cell b1
          replace b2 := q.cell b2
          replace b3 := q.cell b3
          go_wp2_with fail
          refine (HP.out _ (he.trans q)).mono ?_
          rintro e w2 ⟨rfl, q2⟩
          go_wp2_with fail
          go_ret
          exact ⟨retB hf.out.symm, (he.trans q).trans q2⟩
      · have hf : Hid (clValidF c = false) := Lib.hid (by unfold clValidF goalsF; rw [decide_eq_false h6]; simp)
        go_wp2_with fail
        go_ret
        exact ⟨retB hf.out.symm, he⟩
end Go.Proofs.YtognkaebiafgbaaGreat
