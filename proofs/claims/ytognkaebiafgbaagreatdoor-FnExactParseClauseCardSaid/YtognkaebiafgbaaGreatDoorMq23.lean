/-
  Equality of terms: what EqualFunc over TermSame, the program's TermSame and eqTerm, eqTermS return on every two terms.
-/
import Derived.Test.YtognkaebiafgbaaGreatDoorMq2
import Derived.Test.YtognkaebiafgbaaGreatDoorMq22
import Derived.Test.YtognkaebiafgbaaGreatDoorMq4
import Derived.Test.YtognkaebiafgbaaGreatDoorMq6
import Derived.Test.YtognkaebiafgbaaGreatDoorMq8
namespace Go.Proofs.YtognkaebiafgbaaGreatDoor
open Go.RowKit Go.Sort
set_option linter.unusedVariables false
theorem pair_get {S S' : Nat → Prop} {w wr : World} {ts us : List Tm} {a a' : Option Addr} {k : Nat} {t u : Tm}
    (h : ts = [] ∨ ∃ b off, a = some ⟨b, off, none⟩ ∧ S b ∧ Tm.row S w b off ts) (h' : us = [] ∨ ∃ b off, a' = some ⟨b, off, none⟩ ∧ S' b ∧ Tm.row S' w b off us)
    (ht : ts[k]? = some t) (hu : us[k]? = some u) (he : Ext w wr) :
    ∃ b off b' off' ak ck ak' ck', a = some ⟨b, off, none⟩ ∧ a' = some ⟨b', off', none⟩ ∧
      (wr.cell? ⟨b, off + k * 4, none⟩ = some (.int .i64 t.kind) ∧ wr.cell? ⟨b, off + k * 4 + 1, none⟩ = some (.int .i64 t.n) ∧ wr.cell? ⟨b, off + k * 4 + 2, none⟩ = some (.string t.name) ∧
        wr.cell? ⟨b, off + k * 4 + 3, none⟩ = some (.slice ak t.kids.length ck) ∧ Tm.at S w t (.agg #[.int .i64 t.kind, .int .i64 t.n, .string t.name, .slice ak t.kids.length ck])) ∧
      (wr.cell? ⟨b', off' + k * 4, none⟩ = some (.int .i64 u.kind) ∧ wr.cell? ⟨b', off' + k * 4 + 1, none⟩ = some (.int .i64 u.n) ∧ wr.cell? ⟨b', off' + k * 4 + 2, none⟩ = some (.string u.name) ∧
        wr.cell? ⟨b', off' + k * 4 + 3, none⟩ = some (.slice ak' u.kids.length ck') ∧ Tm.at S' w u (.agg #[.int .i64 u.kind, .int .i64 u.n, .string u.name, .slice ak' u.kids.length ck'])) := by
  rcases h with h4 | ⟨b, off, rfl, hSb, hrow⟩
  · rw [h4] at ht; simp at ht
  rcases h' with h4 | ⟨b', off', rfl, hSb', hrow'⟩
  · rw [h4] at hu; simp at hu
  obtain ⟨ak, ck, c1, c2, c3, c4, hat⟩ := Tm.at_of_cells (Tm.row_get hrow k t ht)
  obtain ⟨ak', ck', d1, d2, d3, d4, hat'⟩ := Tm.at_of_cells (Tm.row_get hrow' k u hu)
  exact ⟨b, off, b', off', ak, ck, ak', ck', rfl, rfl, ⟨he.cell c1, he.cell c2, he.cell c3, he.cell c4, hat⟩, ⟨he.cell d1, he.cell d2, he.cell d3, he.cell d4, hat'⟩⟩
def EqS (ts us : List Tm) : Prop := ∀ (v v' : Value) (S S' : Nat → Prop) (w : World), Tm.sl S w ts v → Tm.sl S' w us v' →
    Calls Tryz.prog 90 #[v, v'] w fun e w' => e = .returned (.bool (Tm.sameL ts us)) ∧ Ext w w'
set_option maxHeartbeats 1000000 in
theorem lawseqTerm (t u : Tm) (hks : Hid (EqS t.kids u.kids)) (v v' : Value) (S S' : Nat → Prop) (w : World) (ht : Tm.at S w t v) (hu : Tm.at S' w u v') :
    Calls Tryz.prog 39 #[v, v'] w fun e w' => e = .returned (.bool (Tm.same t u)) ∧ Ext w w' := by
  obtain ⟨k, n, s, ks⟩ := t
  obtain ⟨k', n', s', ks'⟩ := u
  obtain ⟨hs1, sv, rfl, hk⟩ := ht
  obtain ⟨hs2, sv', rfl, hk'⟩ := hu
  have HK := Lib.hid hk
  have HK' := Lib.hid hk'
  obtain ⟨a, cap, rfl, h1, h2, h3, h4⟩ := hk
  obtain ⟨a', cap', rfl, h1', h2', h3', h4'⟩ := hk'
  clear h4 h4'
  cases e1 : (k == k')
  · have e1' : (k != k') = true := by simp [bne, e1]
    have hf := Lib.hid (show Tm.same (.mk k n s ks) (.mk k' n' s' ks') = false by simp only [Tm.same, e1, Bool.false_and])
    go_enter Tryz.func39, Tryz.ntmps39
    go_wp2_with fail
    go_ret
    exact ⟨retB hf.out.symm, (Ext.alloc _ _).trans (Ext.alloc _ _)⟩
  cases e2 : (n == n')
  · have e1' : (k != k') = false := by simp [bne, e1]
    have e2' : (n != n') = true := by simp [bne, e2]
    have hf := Lib.hid (show Tm.same (.mk k n s ks) (.mk k' n' s' ks') = false by simp only [Tm.same, e2, Bool.false_and, Bool.and_false])
    go_enter Tryz.func39, Tryz.ntmps39
    go_wp2_with fail
    go_ret
    exact ⟨retB hf.out.symm, (Ext.alloc _ _).trans (Ext.alloc _ _)⟩
  cases e3 : (s.toList == s'.toList)
  · have e1' : (k != k') = false := by simp [bne, e1]
    have e2' : (n != n') = false := by simp [bne, e2]
    have hf := Lib.hid (show Tm.same (.mk k n s ks) (.mk k' n' s' ks') = false by simp only [Tm.same, e3, Bool.false_and, Bool.and_false])
    go_enter Tryz.func39, Tryz.ntmps39
    go_wp2_with fail
    go_ret
    exact ⟨retB hf.out.symm, (Ext.alloc _ _).trans (Ext.alloc _ _)⟩
  have hq := Lib.hid (show Tm.same (.mk k n s ks) (.mk k' n' s' ks') = Tm.sameL ks ks' by simp only [Tm.same, e1, e2, e3, Bool.true_and])
  have e1' : (k != k') = false := by simp [bne, e1]
  have e2' : (n != n') = false := by simp [bne, e2]
  have hcall := fun w' (e' : Ext w w') => hks.out _ _ S S' w' (Tm.sl_ext e' HK.out) (Tm.sl_ext e' HK'.out)
  cases hsm : Tm.sameL ks ks'
  all_goals
    simp only [Tm.kids, hsm] at hcall
    have HC := Lib.hid hcall
    have hf := Lib.hid hsm
    clear hcall hsm
    go_enter Tryz.func39, Tryz.ntmps39
    go_wp2_with fail
    refine (HC.out _ ((Ext.alloc _ _).trans (Ext.alloc _ _))).mono ?_
    rintro e w' ⟨rfl, e'⟩
    go_wp2_with fail
    go_ret
    exact ⟨retB (by rw [hq.out, hf.out]), ((Ext.alloc _ _).trans (Ext.alloc _ _)).trans e'⟩
set_option maxHeartbeats 1000000 in
theorem lawseqTermS : ∀ (m : Nat) (ts us : List Tm), Tm.szL ts ≤ m → EqS ts us := by
  intro m
  induction m using Nat.strongRecOn with
  | _ m ih =>
    intro ts us hm v v' S S' w ht hu
    have IH := Lib.hid (show ∀ (j : Nat) (t u : Tm), ts[j]? = some t → EqS t.kids u.kids from fun j t u h => by
      have h1 := Tm.sz_mem h
      have h2 : Tm.szL t.kids < Tm.sz t := by cases t; simp only [Tm.sz, Tm.kids]; omega
      exact ih (Tm.szL t.kids) (by omega) t.kids u.kids (Nat.le_refl _))
    clear ih hm
    obtain ⟨a, cap, rfl, h1, h2, h3, h4⟩ := ht
    obtain ⟨a', cap', rfl, h1', h2', h3', h4'⟩ := hu
    have H4 := Lib.hid h4
    have H4' := Lib.hid h4'
    clear h4 h4'
    by_cases e4 : ts.length = us.length
    · have E4 := Lib.hid e4
      have e4' : ((ts.length : Int) != (us.length : Int)) = false := by simp [bne, e4]
      clear e4
      go_enter Tryz.func90, Tryz.ntmps90
      go_wp2_with fail
      go_loopw [5] (fun i wr => ∃ k : Nat, k ≤ ts.length ∧ i = .int .i64 k ∧ SameTo k ts us ∧ Ext w wr) (fun i _ => ts.length - (intOf i).toNat)
      case atStart => exact ⟨0, Nat.zero_le _, rfl, sameTo_zero _ _, Ext.refl _⟩
      case round =>
        obtain ⟨k, hk, rfl, hs, he⟩ := hrel
        have HS := Lib.hid hs
        clear hs
        by_cases hlt : k < ts.length
        · have hlt' : k < us.length := by have := E4.out; omega
          obtain ⟨tk, htk⟩ := getk hlt
          obtain ⟨uk, huk⟩ := getk hlt'
          obtain ⟨b, off, b', off', ak, ck, ak', ck', rfl, rfl, ⟨c1, c2, c3, c4, hat⟩, ⟨d1, d2, d3, d4, hat'⟩⟩ := pair_get H4.out H4'.out htk huk he
          have cQ := quiet_call (w := wr) (fun w' e' => lawseqTerm tk uk (Lib.hid (IH.out k tk uk htk)) _ _ S S' w' (Tm.at_ext (he.trans e') hat) (Tm.at_ext (he.trans e') hat'))
          have k1 := cell_regrown c1
          have k2 := cell_regrown c2
          have k3 := cell_regrown c3
          have k4 := cell_regrown c4
          have l1 := cell_regrown d1
          have l2 := cell_regrown d2
          have l3 := cell_regrown d3
          have l4 := cell_regrown d4
          have Htk := Lib.hid htk
          have Huk := Lib.hid huk
          clear c1 c2 c3 c4 d1 d2 d3 d4 htk huk hat hat'
          cases hsm : Tm.same tk uk
          · simp only [hsm] at cQ
            have hf := Lib.hid (sameL_no Htk.out Huk.out hsm)
            clear hsm
            go_wp2_with fail
            refine region_ext (by kernel_rfl) (by kernel_rfl) ?_
            repeat (quiet_step (exact cQ _ _))
            refine wpQuiet_nil ?_
            intro wq eq
            go_wp2_with fail
            go_ret
            exact ⟨retB hf.out.symm, he.trans eq⟩
          · simp only [hsm] at cQ
            have hf := Lib.hid (sameTo_succ HS.out Htk.out Huk.out hsm)
            clear hsm
            go_wp2_with fail
            refine region_ext (by kernel_rfl) (by kernel_rfl) ?_
            repeat (quiet_step (exact cQ _ _))
            refine wpQuiet_nil ?_
            intro wq eq
            go_wp2_with fail
            go_roundw
            case rel => exact ⟨k + 1, by omega, by go_num, hf.out, he.trans eq⟩
            case measure => simp [intOf]; omega
        · have hf := Lib.hid (sameTo_all E4.out (by omega) HS.out)
          go_wp2_with fail
          go_ret
          exact ⟨retB hf.out.symm, he⟩
    · have e4' : ((ts.length : Int) != (us.length : Int)) = true := by simp [bne]; omega
      have hf := Lib.hid (show Tm.sameL ts us = false by cases h : Tm.sameL ts us with | false => rfl | true => exact absurd (sameL_len h) e4)
      clear e4
      go_enter Tryz.func90, Tryz.ntmps90
      go_wp2_with fail
      go_ret
      exact ⟨retB hf.out.symm, Ext.refl _⟩
theorem lawseqTerm_any (t u : Tm) (v v' : Value) (S S' : Nat → Prop) (w : World) (ht : Tm.at S w t v) (hu : Tm.at S' w u v') :
    Calls Tryz.prog 39 #[v, v'] w fun e w' => e = .returned (.bool (Tm.same t u)) ∧ Ext w w' :=
  lawseqTerm t u (Lib.hid (lawseqTermS _ _ _ (Nat.le_refl _))) v v' S S' w ht hu
mutual
theorem same_refl : ∀ t : Tm, Tm.same t t = true
  | .mk k n s ks => by simp only [Tm.same, sameL_refl ks]; simp
theorem sameL_refl : ∀ ts : List Tm, Tm.sameL ts ts = true
  | [] => by simp [Tm.sameL]
  | t :: ts => by simp only [Tm.sameL, same_refl t, sameL_refl ts, Bool.and_self]
end
end Go.Proofs.YtognkaebiafgbaaGreatDoor

namespace Go.Proofs.YtognkaebiafgbaaGreatDoor
open Go.RowKit
set_option linter.unusedVariables false
def Cl.same (c d : Cl) : Bool := Tm.same c.head d.head && Tm.sameL c.body d.body
theorem csame_refl (c : Cl) : Cl.same c c = true := by unfold Cl.same; rw [same_refl, sameL_refl]; rfl
set_option maxHeartbeats 1000000 in
theorem lawseqClause (c d : Cl) (v v' : Value) (S S' : Nat → Prop) (w : World) (hc : Cl.at S w c v) (hd : Cl.at S' w d v') :
    Calls Tryz.prog 49 #[v, v'] w fun e w' => e = .returned (.bool (Cl.same c d)) ∧ Ext w w' := by
  obtain ⟨a, ca, b, cb, rfl, hH, hB⟩ := Cl.form hc
  obtain ⟨a', ca', b', cb', rfl, hH', hB'⟩ := Cl.form hd
  have HT := Lib.hid (fun w' (e' : Ext w w') => lawseqTerm_any c.head d.head _ _ S S' w' (Tm.at_ext e' hH) (Tm.at_ext e' hH'))
  have HS := Lib.hid (fun w' (e' : Ext w w') => lawseqTermS _ c.body d.body (Nat.le_refl _) _ _ S S' w' (Tm.sl_ext e' hB) (Tm.sl_ext e' hB'))
  clear hH hB hH' hB' hc hd
  cases h1 : Tm.same c.head d.head
  · have hf : Hid (Cl.same c d = false) := Lib.hid (by unfold Cl.same; rw [h1]; rfl)
    go_enter Tryz.func49, Tryz.ntmps49
    go_wp2_with fail
    refine (HT.out _ ((Ext.alloc _ _).trans (Ext.alloc _ _))).mono ?_
    rw [h1]
    rintro e w1 ⟨rfl, q⟩
    go_wp2_with fail
    go_ret
    exact ⟨retB hf.out.symm, ((Ext.alloc _ _).trans (Ext.alloc _ _)).trans q⟩
  · have hf : Hid (Cl.same c d = Tm.sameL c.body d.body) := Lib.hid (by unfold Cl.same; rw [h1]; rfl)
    go_enter Tryz.func49, Tryz.ntmps49
    go_wp2_with fail
    refine (HT.out _ ((Ext.alloc _ _).trans (Ext.alloc _ _))).mono ?_
    rw [h1]
    rintro e w1 ⟨rfl, q⟩
    have c4 := q.cell (a := ⟨w.heap.size, 4, none⟩) (v := .slice b c.body.length cb) (by go_simp)
    have d4 := q.cell (a := ⟨w.heap.size + 1, 4, none⟩) (v := .slice b' d.body.length cb') (by go_simp)
    clear h1
    go_wp2_with fail
    refine (HS.out _ (((Ext.alloc _ _).trans (Ext.alloc _ _)).trans q)).mono ?_
    rintro e w2 ⟨rfl, q2⟩
    cases h2 : Tm.sameL c.body d.body
    all_goals
      go_wp2_with fail
      go_ret
      exact ⟨retB (by rw [hf.out, h2]), (((Ext.alloc _ _).trans (Ext.alloc _ _)).trans q).trans q2⟩
end Go.Proofs.YtognkaebiafgbaaGreatDoor

namespace Go.Proofs.YtognkaebiafgbaaGreatDoor
open Go.RowKit
set_option linter.unusedVariables false
theorem any_yes {f : Tm → Bool} {ts : List Tm} {j : Nat} {b : Nat → Bool} (hb : ∀ j t, ts[j]? = some t → b j = f t) (hj : j < ts.length) (h : b j = true) : ts.any f = true := by
  obtain ⟨t, ht⟩ := getk hj
  rw [hb j t ht] at h
  exact List.any_eq_true.2 ⟨t, List.mem_of_getElem? ht, h⟩
theorem any_no {f : Tm → Bool} {ts : List Tm} {b : Nat → Bool} (hb : ∀ j t, ts[j]? = some t → b j = f t) (h : ∀ i, i < ts.length → b i = false) : ts.any f = false := by
  apply List.any_eq_false.2
  intro t ht
  obtain ⟨j, hj⟩ := List.getElem?_of_mem ht
  rw [← hb j t hj, h j (List.getElem?_eq_some_iff.1 hj).1]
  simp
def atT (f : Tm → Bool) (ts : List Tm) (j : Nat) : Bool := match ts[j]? with | some t => f t | none => false
theorem atT_eq (f : Tm → Bool) (ts : List Tm) : ∀ j t, ts[j]? = some t → atT f ts j = f t := fun j t h => by unfold atT; rw [h]
theorem containsAny (fid : FuncId) (f : Tm → Bool) (hcf : ∀ args w, Sem.run Tryz.prog (callFunc fid args) w = .ok (.enter fid args) w)
    (hf : ∀ (t : Tm) (v : Value) (S : Nat → Prop) (w : World), Tm.at S w t v → Calls Tryz.prog fid #[v] w fun e w' => e = .returned (.bool (f t)) ∧ Ext w w')
    (ts : List Tm) (v : Value) (S : Nat → Prop) (w : World) (ht : Tm.sl S w ts v) :
    Calls Tryz.prog 109 #[v, .func (.func fid) #[] #[]] w fun e w' => e = .returned (.bool (ts.any f)) ∧ Ext w w' := by
  refine (slicesContainsFunc fid #[] ts S (fun _ w' => Ext w w') (atT f ts) v w hcf (Lib.hid fun j t vt w' hj _ e hat => ?_) (Lib.hid fun j w' e => Tm.sl_ext e ht) (Lib.hid (Ext.refl w))).mono ?_
  · refine (hf t vt S w' hat).mono ?_
    rintro e' w'' ⟨rfl, e2⟩
    exact ⟨by rw [atT_eq f ts j t hj], e.trans e2⟩
  · rintro e w' (⟨j, hj, hb, hbj, rfl, hI⟩ | ⟨hb, rfl, hI⟩)
    · exact ⟨retB (any_yes (atT_eq f ts) hj hbj).symm, hI⟩
    · exact ⟨retB (any_no (atT_eq f ts) hb).symm, hI⟩
end Go.Proofs.YtognkaebiafgbaaGreatDoor

namespace Go.Proofs.YtognkaebiafgbaaGreatDoor
open Go.RowKit
set_option linter.unusedVariables false
theorem implisPlain_t (t : Tm) (v : Value) (S : Nat → Prop) (w : World) (ht : Tm.at S w t v) : Calls Tryz.prog 62 #[v] w fun e w' => e = .returned (.bool (plainF t.kind t.name t.kids.length)) ∧ Ext w w' := by
  obtain ⟨k, n, s, ks⟩ := t
  exact implisPlain k n s ks v S w ht
theorem specl4Plain_t (t : Tm) (v : Value) (S : Nat → Prop) (w : World) (ht : Tm.at S w t v) : Calls Tryz.prog 65 #[v] w fun e w' => e = .returned (.bool (plainF t.kind t.name t.kids.length)) ∧ Ext w w' := by
  obtain ⟨k, n, s, ks⟩ := t
  exact specl4Plain k n s ks v S w ht
def notGoal (t : Tm) : Bool := !goalF t
def goalsF (ts : List Tm) : Bool := decide (ts.length ≤ 6) && !(ts.any notGoal)
def clValidF (c : Cl) : Bool := validF c.head && plainF c.head.kind c.head.name c.head.kids.length && goalsF c.body
set_option maxHeartbeats 400000 in
theorem implgoalsValid1 (t : Tm) (v : Value) (S : Nat → Prop) (w : World) (ht : Tm.at S w t v) :
    Calls Tryz.prog 110 #[v] w fun e w' => e = .returned (.bool (notGoal t)) ∧ Ext w w' := by
  have HT := Lib.hid (fun w' (e' : Ext w w') => implGoalValid_t t v S w' (Tm.at_ext e' ht))
  obtain ⟨a, c, rfl⟩ := at_form ht
  clear ht
  go_enter Tryz.func110, Tryz.ntmps110
  go_wp2_with fail
  refine (HT.out _ (Ext.alloc _ _)).mono ?_
  rintro e w1 ⟨rfl, q⟩
  go_wp2_with fail
  go_ret
  exact ⟨rfl, (Ext.alloc _ _).trans q⟩
set_option maxHeartbeats 400000 in
theorem implgoalsValid (ts : List Tm) (v : Value) (S : Nat → Prop) (w : World) (ht : Tm.sl S w ts v) :
    Calls Tryz.prog 63 #[v] w fun e w' => e = .returned (.bool (goalsF ts)) ∧ Ext w w' := by
  have HT := Lib.hid (containsAny 110 notGoal (fun _ _ => by kernel_rfl) implgoalsValid1 ts v S w ht)
  obtain ⟨a, cap, rfl, h1, h2, h3, h4⟩ := ht
  clear h4
  by_cases hl : ts.length ≤ 6
  · have hf : Hid (goalsF ts = !(ts.any notGoal)) := Lib.hid (by unfold goalsF; rw [decide_eq_true hl]; rfl)
    go_enter Tryz.func63, Tryz.ntmps63
    go_wp2_with fail
    refine HT.out.mono ?_
    rintro e w1 ⟨rfl, q⟩
    go_wp2_with fail
    go_ret
    exact ⟨retB hf.out.symm, q⟩
  · have hf : Hid (goalsF ts = false) := Lib.hid (by unfold goalsF; rw [decide_eq_false hl]; rfl)
    go_enter Tryz.func63, Tryz.ntmps63
    go_wp2_with fail
    go_ret
    exact ⟨retB hf.out.symm, Ext.refl _⟩
set_option maxHeartbeats 1000000 in
theorem implClauseValid (c : Cl) (v : Value) (S : Nat → Prop) (w : World) (hc : Cl.at S w c v) :
    Calls Tryz.prog 16 #[v] w fun e w' => e = .returned (.bool (clValidF c)) ∧ Ext w w' := by
  obtain ⟨a, ca, b, cb, rfl, hH, hB⟩ := Cl.form hc
  have HT := Lib.hid (fun w' (e' : Ext w w') => implTermValid c.head _ S w' (Tm.at_ext e' hH))
  have HP := Lib.hid (fun w' (e' : Ext w w') => implisPlain_t c.head _ S w' (Tm.at_ext e' hH))
  have HS := Lib.hid (fun w' (e' : Ext w w') => implgoalsValid c.body _ S w' (Tm.sl_ext e' hB))
  clear hH hB hc
  cases h1 : validF c.head
  · have hf : Hid (clValidF c = false) := Lib.hid (by unfold clValidF; rw [h1]; rfl)
    go_enter Tryz.func16, Tryz.ntmps16
    go_wp2_with fail
    refine (HT.out _ (Ext.alloc _ _)).mono ?_
    rw [h1]
    rintro e w1 ⟨rfl, q⟩
    go_wp2_with fail
    go_ret
    exact ⟨retB hf.out.symm, (Ext.alloc _ _).trans q⟩
  cases h2 : plainF c.head.kind c.head.name c.head.kids.length
  all_goals
    have hf : Hid (clValidF c = (plainF c.head.kind c.head.name c.head.kids.length && goalsF c.body)) := Lib.hid (by unfold clValidF; rw [h1]; rfl)
    rw [h2] at hf
    go_enter Tryz.func16, Tryz.ntmps16
    go_wp2_with fail
    refine (HT.out _ (Ext.alloc _ _)).mono ?_
    rw [h1]
    rintro e w1 ⟨rfl, q⟩
    have c0 := q.cell (a := ⟨w.heap.size, 0, none⟩) (v := .int .i64 c.head.kind) (by go_simp)
    have c1 := q.cell (a := ⟨w.heap.size, 1, none⟩) (v := .int .i64 c.head.n) (by go_simp)
    have c2 := q.cell (a := ⟨w.heap.size, 2, none⟩) (v := .string c.head.name) (by go_simp)
    have c3 := q.cell (a := ⟨w.heap.size, 3, none⟩) (v := .slice a c.head.kids.length ca) (by go_simp)
    have c4 := q.cell (a := ⟨w.heap.size, 4, none⟩) (v := .slice b c.body.length cb) (by go_simp)
    have E := Lib.hid ((Ext.alloc _ _).trans q)
    clear q h1
    go_wp2_with fail
    refine (HP.out _ E.out).mono ?_
    rw [h2]
    rintro e w2 ⟨rfl, q⟩
    replace c4 := q.cell c4
    have E := Lib.hid (E.out.trans q)
    clear c0 c1 c2 c3 h2 q
  · go_wp2_with fail
    go_ret
    exact ⟨retB hf.out.symm, E.out⟩
  · go_wp2_with fail
    refine (HS.out _ E.out).mono ?_
    rintro e w3 ⟨rfl, q⟩
    go_wp2_with fail
    go_ret
    exact ⟨retB hf.out.symm, E.out.trans q⟩
theorem goals_no {ts : List Tm} {j : Nat} {t : Tm} (h : ts[j]? = some t) (hg : goalF t = false) : goalsF ts = false := by
  have : ts.any notGoal = true := List.any_eq_true.2 ⟨t, List.mem_of_getElem? h, by unfold notGoal; rw [hg]; rfl⟩
  unfold goalsF
  rw [this]
  simp
def GoalsTo (k : Nat) (ts : List Tm) : Prop := ∀ (j : Nat) (t : Tm), j < k → ts[j]? = some t → goalF t = true
theorem goalsTo_succ {k : Nat} {ts : List Tm} {t : Tm} (h : GoalsTo k ts) (ht : ts[k]? = some t) (hg : goalF t = true) : GoalsTo (k + 1) ts := by
  intro j u hj hu
  by_cases e : j = k
  · subst e; rw [ht] at hu; cases hu; exact hg
  · exact h j u (by omega) hu
theorem goalsTo_all {k : Nat} {ts : List Tm} (h : GoalsTo k ts) (hk : ts.length ≤ k) : goalsF ts = decide (ts.length ≤ 6) := by
  have : ts.any notGoal = false := List.any_eq_false.2 (fun t ht => by
    obtain ⟨j, hj⟩ := List.getElem?_of_mem ht
    have := h j t (by have := (List.getElem?_eq_some_iff.1 hj).1; omega) hj
    unfold notGoal
    rw [this]
    simp)
  unfold goalsF
  rw [this]
  simp
set_option maxHeartbeats 1000000 in
theorem specClauseValid (c : Cl) (v : Value) (S : Nat → Prop) (w : World) (hc : Cl.at S w c v) :
    Calls Tryz.prog 17 #[v] w fun e w' => e = .returned (.bool (clValidF c)) ∧ Ext w w' := by
  obtain ⟨a, ca, b, cb, rfl, hH, hB⟩ := Cl.form hc
  have HT := Lib.hid (fun w' (e' : Ext w w') => specTermValid c.head _ S w' (Tm.at_ext e' hH))
  have HP := Lib.hid (fun w' (e' : Ext w w') => specl4Plain_t c.head _ S w' (Tm.at_ext e' hH))
  obtain ⟨_, _, he, h1, h2, h3, h4⟩ := hB
  obtain ⟨rfl, _, rfl⟩ := Value.slice.inj he
  have H4 := Lib.hid h4
  clear hH hc h4 he
  go_enter Tryz.func17, Tryz.ntmps17
  go_wp2_with fail
  go_loopw [3] (fun i wr => ∃ k : Nat, k ≤ c.body.length ∧ k ≤ 7 ∧ i = .int .i64 k ∧ Hid (GoalsTo k c.body) ∧ Ext w wr ∧ wr.cell? ⟨w.heap.size, 0, none⟩ = some (.int .i64 c.head.kind) ∧ wr.cell? ⟨w.heap.size, 1, none⟩ = some (.int .i64 c.head.n) ∧
      wr.cell? ⟨w.heap.size, 2, none⟩ = some (.string c.head.name) ∧ wr.cell? ⟨w.heap.size, 3, none⟩ = some (.slice a c.head.kids.length ca) ∧ wr.cell? ⟨w.heap.size, 4, none⟩ = some (.slice b c.body.length cb)) (fun i _ => c.body.length - (intOf i).toNat)
  case atStart => exact ⟨0, Nat.zero_le _, by omega, rfl, fun j t h => absurd h (by omega), Ext.alloc _ _, by go_simp, by go_simp, by go_simp, by go_simp, by go_simp⟩
  case round =>
    obtain ⟨k, hk, hk7, rfl, HG, he, b0, b1, b2, b3, b4⟩ := hrel
    by_cases hlt : k < c.body.length
    · by_cases hk6 : k ≤ 6
      · obtain ⟨tk, htk⟩ := getk hlt
        obtain ⟨bb, off, ak, ck, rfl, hSb, c0, c1, c2, c3, hat⟩ := tget H4.out htk
        have HC := Lib.hid (fun w' (e' : Ext wr w') => specGoalValid_t tk _ S w' (Tm.at_ext (he.trans e') hat))
        replace c0 := he.cell c0
        replace c1 := he.cell c1
        replace c2 := he.cell c2
        replace c3 := he.cell c3
        have HTK := Lib.hid htk
        clear htk hat hSb
        cases hg : goalF tk
        · have hf : Hid (clValidF c = false) := Lib.hid (by unfold clValidF; rw [goals_no HTK.out hg]; simp)
          go_wp2_with fail
          refine (HC.out _ (Ext.refl _)).mono ?_
          rw [hg]
          rintro e w1 ⟨rfl, q⟩
          clear hg
          go_wp2_with fail
          go_ret
          exact ⟨retB hf.out.symm, he.trans q⟩
        · have hs := Lib.hid (goalsTo_succ HG.out HTK.out hg)
          go_wp2_with fail
          refine (HC.out _ (Ext.refl _)).mono ?_
          rw [hg]
          rintro e w1 ⟨rfl, q⟩
          clear hg
          go_wp2_with fail
          go_roundw
          case rel => exact ⟨k + 1, by omega, by omega, by go_num, hs, he.trans q, q.cell b0, q.cell b1, q.cell b2, q.cell b3, q.cell b4⟩
          case measure => simp [intOf]; omega
      · have h6 : ¬ c.body.length ≤ 6 := by omega
        have hf : Hid (clValidF c = false) := Lib.hid (by unfold clValidF goalsF; rw [decide_eq_false h6]; simp)
        go_wp2_with fail
        go_ret
        exact ⟨retB hf.out.symm, he⟩
    · have hall := Lib.hid (goalsTo_all HG.out (by omega))
      by_cases h6 : c.body.length ≤ 6
      · have hf0 : Hid (clValidF c = (validF c.head && plainF c.head.kind c.head.name c.head.kids.length)) := Lib.hid (by unfold clValidF; rw [hall.out, decide_eq_true h6]; simp)
        go_wp2_with fail
        refine (HT.out _ he).mono ?_
        cases h1 : validF c.head
        · have hf : Hid (clValidF c = false) := Lib.hid (by rw [hf0.out, h1]; rfl)
          rintro e w1 ⟨rfl, q⟩
          clear h1
          go_wp2_with fail
          go_ret
          exact ⟨retB hf.out.symm, he.trans q⟩
        · have hf : Hid (clValidF c = plainF c.head.kind c.head.name c.head.kids.length) := Lib.hid (by rw [hf0.out, h1]; rfl)
          rintro e w1 ⟨rfl, q⟩
          clear h1
          replace b0 := q.cell b0
          replace b1 := q.cell b1
          replace b2 := q.cell b2
          replace b3 := q.cell b3
          go_wp2_with fail
          refine (HP.out _ (he.trans q)).mono ?_
          rintro e w2 ⟨rfl, q2⟩
          go_wp2_with fail
          go_ret
          exact ⟨retB hf.out.symm, (he.trans q).trans q2⟩
      · have hf : Hid (clValidF c = false) := Lib.hid (by unfold clValidF goalsF; rw [decide_eq_false h6]; simp)
        go_wp2_with fail
        go_ret
        exact ⟨retB hf.out.symm, he⟩
end Go.Proofs.YtognkaebiafgbaaGreatDoor

namespace Go.Proofs.YtognkaebiafgbaaGreatDoor
open Go.RowKit
set_option linter.unusedVariables false
def clTxt (c : Cl) : List UInt8 := txt true c.head ++ (if c.body.length = 0 then [46] else 58 :: 45 :: (joinF (c.body.map (txt true)) ++ [46]))
def formatClF (c : Cl) : List UInt8 := if clValidF c = true then clTxt c else []
theorem val_len {t : Tm} (h : validF t = true) : (txt true t).length ≤ 3840 := by
  rw [valid_eq] at h
  simp only [Bool.and_eq_true, decide_eq_true_eq] at h
  have := (tx_len true t 30 h.1).1
  omega
theorem goal_val {t : Tm} (h : goalF t = true) : validF t = true := by
  obtain ⟨k, n, s, ks⟩ := t
  simp only [goalF, Bool.and_eq_true] at h
  exact h.1
theorem cl_parts {c : Cl} (h : clValidF c = true) : validF c.head = true ∧ c.body.length ≤ 6 ∧ ∀ (j : Nat) (t : Tm), c.body[j]? = some t → validF t = true := by
  simp only [clValidF, goalsF, Bool.and_eq_true, decide_eq_true_eq, Bool.not_eq_true'] at h
  refine ⟨h.1.1, h.2.1, fun j t ht => goal_val ?_⟩
  have := List.any_eq_false.1 h.2.2 t (List.mem_of_getElem? ht)
  simpa [notGoal] using this
theorem join_len : ∀ (ts : List Tm), (∀ (j : Nat) (t : Tm), ts[j]? = some t → validF t = true) → (joinF (ts.map (txt true))).length ≤ ts.length * 3841
  | [], _ => by simp [joinF]
  | [t], h => by have := val_len (h 0 t rfl); simp [joinF]; omega
  | t :: u :: ts, h => by
    have h1 := val_len (h 0 t rfl)
    have h2 := join_len (u :: ts) (fun j x hx => h (j + 1) x (by simpa using hx))
    simp only [List.map_cons, joinF, List.length_append, List.length_cons] at h2 ⊢
    omega
theorem cl_len {c : Cl} (h : clValidF c = true) : (clTxt c).length ≤ 30000 := by
  obtain ⟨h1, h2, h3⟩ := cl_parts h
  have := val_len h1
  have := join_len c.body h3
  unfold clTxt
  split <;> simp only [List.length_append, List.length_cons, List.length_nil] <;> omega
end Go.Proofs.YtognkaebiafgbaaGreatDoor
