/-
  Equality of terms: what EqualFunc over TermSame, the program's TermSame and eqTerm, eqTermS return on every two terms.
-/
import Derived.Test.YtifklfnpaigdkaaDoorSame
namespace Go.Proofs.YtifklfnpaigdkaaDoor
open Go.RowKit Go.Sort
set_option linter.unusedVariables false

/-- a pair of cells of two rows, read -/
theorem pair_get {S S' : Nat → Prop} {w wr : World} {ts us : List Tm} {a a' : Option Addr} {k : Nat} {t u : Tm}
    (h : ts = [] ∨ ∃ b off, a = some ⟨b, off, none⟩ ∧ S b ∧ Tm.row S w b off ts) (h' : us = [] ∨ ∃ b off, a' = some ⟨b, off, none⟩ ∧ S' b ∧ Tm.row S' w b off us)
    (ht : ts[k]? = some t) (hu : us[k]? = some u) (he : Ext w wr) :
    ∃ b off b' off' ak ck ak' ck', a = some ⟨b, off, none⟩ ∧ a' = some ⟨b', off', none⟩ ∧
      (wr.cell? ⟨b, off + k * 4, none⟩ = some (.int .i64 t.kind) ∧ wr.cell? ⟨b, off + k * 4 + 1, none⟩ = some (.int .i64 t.n) ∧ wr.cell? ⟨b, off + k * 4 + 2, none⟩ = some (.string t.name) ∧
        wr.cell? ⟨b, off + k * 4 + 3, none⟩ = some (.slice ak t.kids.length ck) ∧ Tm.at S w t (.agg #[.int .i64 t.kind, .int .i64 t.n, .string t.name, .slice ak t.kids.length ck])) ∧
      (wr.cell? ⟨b', off' + k * 4, none⟩ = some (.int .i64 u.kind) ∧ wr.cell? ⟨b', off' + k * 4 + 1, none⟩ = some (.int .i64 u.n) ∧ wr.cell? ⟨b', off' + k * 4 + 2, none⟩ = some (.string u.name) ∧
        wr.cell? ⟨b', off' + k * 4 + 3, none⟩ = some (.slice ak' u.kids.length ck') ∧ Tm.at S' w u (.agg #[.int .i64 u.kind, .int .i64 u.n, .string u.name, .slice ak' u.kids.length ck'])) := by
  rcases h with h4 | ⟨b, off, rfl, hSb, hrow⟩
  · rw [h4] at ht; simp at ht
  rcases h' with h4 | ⟨b', off', rfl, hSb', hrow'⟩
  · rw [h4] at hu; simp at hu
  obtain ⟨ak, ck, c1, c2, c3, c4, hat⟩ := Tm.at_of_cells (Tm.row_get hrow k t ht)
  obtain ⟨ak', ck', d1, d2, d3, d4, hat'⟩ := Tm.at_of_cells (Tm.row_get hrow' k u hu)
  exact ⟨b, off, b', off', ak, ck, ak', ck', rfl, rfl, ⟨he.cell c1, he.cell c2, he.cell c3, he.cell c4, hat⟩, ⟨he.cell d1, he.cell d2, he.cell d3, he.cell d4, hat'⟩⟩

set_option maxHeartbeats 1000000 in
theorem slicesEqualFunc (ts us : List Tm) (v v' : Value) (S S' : Nat → Prop) (w : World) (ht : Tm.sl S w ts v) (hu : Tm.sl S' w us v')
    (hc : Hid (∀ (j : Nat) (t u : Tm) (vt vu : Value) (w' : World), ts[j]? = some t → us[j]? = some u → Ext w w' → Tm.at S w' t vt → Tm.at S' w' u vu →
      Calls Tryd.prog 21 #[vt, vu] w' fun e w'' => e = .returned (.bool (Tm.same t u)) ∧ Ext w' w'')) :
    Calls Tryd.prog 40 #[v, v', .func (.func 21) #[] #[]] w fun e w' => e = .returned (.bool (Tm.sameL ts us)) ∧ Ext w w' := by
  obtain ⟨a, cap, rfl, h1, h2, h3, h4⟩ := ht
  obtain ⟨a', cap', rfl, h1', h2', h3', h4'⟩ := hu
  have H4 := Lib.hid h4
  have H4' := Lib.hid h4'
  clear h4 h4'
  by_cases e4 : ts.length = us.length
  · have E4 := Lib.hid e4
    have e4' : ((ts.length : Int) != (us.length : Int)) = false := by simp [bne, e4]
    clear e4
    go_enter Tryd.func40, Tryd.ntmps40
    go_wp2_with fail
    go_loopw [7, 8, 9, 17] (fun _ _ _ i wr => ∃ k : Nat, k ≤ ts.length ∧ i = .int .i64 k ∧ SameTo k ts us ∧ Ext w wr) (fun _ _ _ i _ => ts.length - (intOf i).toNat)
    case atStart => exact ⟨0, Nat.zero_le _, rfl, sameTo_zero _ _, Ext.refl _⟩
    case round =>
      obtain ⟨k, hk, rfl, hs, he⟩ := hrel
      have HS := Lib.hid hs
      clear hs
      by_cases hlt : k < ts.length
      · have hlt' : k < us.length := by have := E4.out; omega
        obtain ⟨tk, htk⟩ := getk hlt
        obtain ⟨uk, huk⟩ := getk hlt'
        obtain ⟨b, off, b', off', ak, ck, ak', ck', rfl, rfl, ⟨c1, c2, c3, c4, hat⟩, ⟨d1, d2, d3, d4, hat'⟩⟩ := pair_get H4.out H4'.out htk huk he
        have hcall := fun w' e' => hc.out k tk uk _ _ w' htk huk (he.trans e') (Tm.at_ext (he.trans e') hat) (Tm.at_ext (he.trans e') hat')
        have Htk := Lib.hid htk
        have Huk := Lib.hid huk
        have hb := block_lt_of_cell c1
        have hb' := block_lt_of_cell d1
        clear htk huk hat hat'
        simp only at hb hb'
        cases hsm : Tm.same tk uk
        · simp only [hsm] at hcall
          have HC := Lib.hid hcall
          have hf := Lib.hid (sameL_no Htk.out Huk.out hsm)
          clear hcall hsm
          go_wp2_with fail
          refine (HC.out _ ((Ext.alloc _ _).trans (Ext.alloc _ _))).mono ?_
          rintro e w' ⟨rfl, e'⟩
          go_wp2_with fail
          go_ret
          exact ⟨retB hf.out.symm, he.trans (((Ext.alloc _ _).trans (Ext.alloc _ _)).trans e')⟩
        · simp only [hsm] at hcall
          have HC := Lib.hid hcall
          have hf := Lib.hid (sameTo_succ HS.out Htk.out Huk.out hsm)
          clear hcall hsm
          go_wp2_with fail
          refine (HC.out _ ((Ext.alloc _ _).trans (Ext.alloc _ _))).mono ?_
          rintro e w' ⟨rfl, e'⟩
          go_wp2_with fail
          go_roundw
          case rel => exact ⟨k + 1, by omega, by go_num, hf.out, he.trans (((Ext.alloc _ _).trans (Ext.alloc _ _)).trans e')⟩
          case measure => simp [intOf]; omega
      · have hf := Lib.hid (sameTo_all E4.out (by omega) HS.out)
        go_wp2_with fail
        go_ret
        exact ⟨retB hf.out.symm, he⟩
  · have e4' : ((ts.length : Int) != (us.length : Int)) = true := by simp [bne]; omega
    have hf := Lib.hid (show Tm.sameL ts us = false by cases h : Tm.sameL ts us with | false => rfl | true => exact absurd (sameL_len h) e4)
    clear e4
    go_enter Tryd.func40, Tryd.ntmps40
    go_wp2_with fail
    go_ret
    exact ⟨retB hf.out.symm, Ext.refl _⟩

set_option maxHeartbeats 1000000 in
theorem implTermSame : ∀ (m : Nat) (t u : Tm) (v v' : Value) (S S' : Nat → Prop) (w : World), Tm.sz t ≤ m → Tm.at S w t v → Tm.at S' w u v' →
    Calls Tryd.prog 21 #[v, v'] w fun e w' => e = .returned (.bool (Tm.same t u)) ∧ Ext w w' := by
  intro m
  induction m with
  | zero => intro t u v v' S S' w hm; have := Tm.sz_pos t; omega
  | succ m ih =>
    intro t u v v' S S' w hm ht hu
    have IH := Lib.hid ih
    clear ih
    obtain ⟨k, n, s, ks⟩ := t
    obtain ⟨k', n', s', ks'⟩ := u
    obtain ⟨hs1, sv, rfl, hk⟩ := ht
    obtain ⟨hs2, sv', rfl, hk'⟩ := hu
    have hlt : ∀ (j : Nat) (t : Tm), ks[j]? = some t → Tm.sz t ≤ m := fun j t h => by have := kid_lt (k := k) (n := n) (s := s) h; omega
    have HLT := Lib.hid hlt
    have HK := Lib.hid hk
    have HK' := Lib.hid hk'
    obtain ⟨a, cap, rfl, h1, h2, h3, h4⟩ := hk
    obtain ⟨a', cap', rfl, h1', h2', h3', h4'⟩ := hk'
    clear h4 h4' hm hlt
    cases e1 : (k == k')
    · have e1' : (k != k') = true := by simp [bne, e1]
      have hf := Lib.hid (show Tm.same (.mk k n s ks) (.mk k' n' s' ks') = false by simp only [Tm.same, e1, Bool.false_and])
      go_enter Tryd.func21, Tryd.ntmps21
      go_wp2_with fail
      go_ret
      exact ⟨retB hf.out.symm, (Ext.alloc _ _).trans (Ext.alloc _ _)⟩
    cases e2 : (n == n')
    · have e1' : (k != k') = false := by simp [bne, e1]
      have e2' : (n != n') = true := by simp [bne, e2]
      have hf := Lib.hid (show Tm.same (.mk k n s ks) (.mk k' n' s' ks') = false by simp only [Tm.same, e2, Bool.false_and, Bool.and_false])
      go_enter Tryd.func21, Tryd.ntmps21
      go_wp2_with fail
      go_ret
      exact ⟨retB hf.out.symm, (Ext.alloc _ _).trans (Ext.alloc _ _)⟩
    cases e3 : (s.toList == s'.toList)
    · have e1' : (k != k') = false := by simp [bne, e1]
      have e2' : (n != n') = false := by simp [bne, e2]
      have hf := Lib.hid (show Tm.same (.mk k n s ks) (.mk k' n' s' ks') = false by simp only [Tm.same, e3, Bool.false_and, Bool.and_false])
      go_enter Tryd.func21, Tryd.ntmps21
      go_wp2_with fail
      go_ret
      exact ⟨retB hf.out.symm, (Ext.alloc _ _).trans (Ext.alloc _ _)⟩
    have hq := Lib.hid (show Tm.same (.mk k n s ks) (.mk k' n' s' ks') = Tm.sameL ks ks' by simp only [Tm.same, e1, e2, e3, Bool.true_and])
    have e1' : (k != k') = false := by simp [bne, e1]
    have e2' : (n != n') = false := by simp [bne, e2]
    have hcall := fun w' (e' : Ext w w') => slicesEqualFunc ks ks' _ _ S S' w' (Tm.sl_ext e' HK.out) (Tm.sl_ext e' HK'.out) (Lib.hid fun j t u vt vu w2 ht hu he h1 h2 => IH.out t u vt vu S S' w2 (HLT.out j t ht) h1 h2)
    have HC := Lib.hid hcall
    clear hcall
    go_enter Tryd.func21, Tryd.ntmps21
    go_wp2_with fail
    refine (HC.out _ ((Ext.alloc _ _).trans (Ext.alloc _ _))).mono ?_
    rintro e w' ⟨rfl, e'⟩
    go_wp2_with fail
    go_ret
    exact ⟨retB hq.out.symm, ((Ext.alloc _ _).trans (Ext.alloc _ _)).trans e'⟩

/-- what eqTerms says of the arguments of two terms -/
def EqS (ts us : List Tm) : Prop := ∀ (v v' : Value) (S S' : Nat → Prop) (w : World), Tm.sl S w ts v → Tm.sl S' w us v' →
    Calls Tryd.prog 29 #[v, v'] w fun e w' => e = .returned (.bool (Tm.sameL ts us)) ∧ Ext w w'

set_option maxHeartbeats 1000000 in
theorem lawseqTerm (t u : Tm) (hks : Hid (EqS t.kids u.kids)) (v v' : Value) (S S' : Nat → Prop) (w : World) (ht : Tm.at S w t v) (hu : Tm.at S' w u v') :
    Calls Tryd.prog 12 #[v, v'] w fun e w' => e = .returned (.bool (Tm.same t u)) ∧ Ext w w' := by
  obtain ⟨k, n, s, ks⟩ := t
  obtain ⟨k', n', s', ks'⟩ := u
  obtain ⟨hs1, sv, rfl, hk⟩ := ht
  obtain ⟨hs2, sv', rfl, hk'⟩ := hu
  have HK := Lib.hid hk
  have HK' := Lib.hid hk'
  obtain ⟨a, cap, rfl, h1, h2, h3, h4⟩ := hk
  obtain ⟨a', cap', rfl, h1', h2', h3', h4'⟩ := hk'
  clear h4 h4'
  cases e1 : (k == k')
  · have e1' : (k != k') = true := by simp [bne, e1]
    have hf := Lib.hid (show Tm.same (.mk k n s ks) (.mk k' n' s' ks') = false by simp only [Tm.same, e1, Bool.false_and])
    go_enter Tryd.func12, Tryd.ntmps12
    go_wp2_with fail
    go_ret
    exact ⟨retB hf.out.symm, (Ext.alloc _ _).trans (Ext.alloc _ _)⟩
  cases e2 : (n == n')
  · have e1' : (k != k') = false := by simp [bne, e1]
    have e2' : (n != n') = true := by simp [bne, e2]
    have hf := Lib.hid (show Tm.same (.mk k n s ks) (.mk k' n' s' ks') = false by simp only [Tm.same, e2, Bool.false_and, Bool.and_false])
    go_enter Tryd.func12, Tryd.ntmps12
    go_wp2_with fail
    go_ret
    exact ⟨retB hf.out.symm, (Ext.alloc _ _).trans (Ext.alloc _ _)⟩
  cases e3 : (s.toList == s'.toList)
  · have e1' : (k != k') = false := by simp [bne, e1]
    have e2' : (n != n') = false := by simp [bne, e2]
    have hf := Lib.hid (show Tm.same (.mk k n s ks) (.mk k' n' s' ks') = false by simp only [Tm.same, e3, Bool.false_and, Bool.and_false])
    go_enter Tryd.func12, Tryd.ntmps12
    go_wp2_with fail
    go_ret
    exact ⟨retB hf.out.symm, (Ext.alloc _ _).trans (Ext.alloc _ _)⟩
  have hq := Lib.hid (show Tm.same (.mk k n s ks) (.mk k' n' s' ks') = Tm.sameL ks ks' by simp only [Tm.same, e1, e2, e3, Bool.true_and])
  have e1' : (k != k') = false := by simp [bne, e1]
  have e2' : (n != n') = false := by simp [bne, e2]
  have hcall := fun w' (e' : Ext w w') => hks.out _ _ S S' w' (Tm.sl_ext e' HK.out) (Tm.sl_ext e' HK'.out)
  cases hsm : Tm.sameL ks ks'
  all_goals
    simp only [Tm.kids, hsm] at hcall
    have HC := Lib.hid hcall
    have hf := Lib.hid hsm
    clear hcall hsm
    go_enter Tryd.func12, Tryd.ntmps12
    go_wp2_with fail
    refine (HC.out _ ((Ext.alloc _ _).trans (Ext.alloc _ _))).mono ?_
    rintro e w' ⟨rfl, e'⟩
    go_wp2_with fail
    go_ret
    exact ⟨retB (by rw [hq.out, hf.out]), ((Ext.alloc _ _).trans (Ext.alloc _ _)).trans e'⟩

set_option maxHeartbeats 1000000 in
theorem lawseqTermS : ∀ (m : Nat) (ts us : List Tm), Tm.szL ts ≤ m → EqS ts us := by
  intro m
  induction m using Nat.strongRecOn with
  | _ m ih =>
    intro ts us hm v v' S S' w ht hu
    have IH := Lib.hid (show ∀ (j : Nat) (t u : Tm), ts[j]? = some t → EqS t.kids u.kids from fun j t u h => by
      have h1 := Tm.sz_mem h
      have h2 : Tm.szL t.kids < Tm.sz t := by cases t; simp only [Tm.sz, Tm.kids]; omega
      exact ih (Tm.szL t.kids) (by omega) t.kids u.kids (Nat.le_refl _))
    clear ih hm
    obtain ⟨a, cap, rfl, h1, h2, h3, h4⟩ := ht
    obtain ⟨a', cap', rfl, h1', h2', h3', h4'⟩ := hu
    have H4 := Lib.hid h4
    have H4' := Lib.hid h4'
    clear h4 h4'
    by_cases e4 : ts.length = us.length
    · have E4 := Lib.hid e4
      have e4' : ((ts.length : Int) != (us.length : Int)) = false := by simp [bne, e4]
      clear e4
      go_enter Tryd.func29, Tryd.ntmps29
      go_wp2_with fail
      go_loopw [5] (fun i wr => ∃ k : Nat, k ≤ ts.length ∧ i = .int .i64 k ∧ SameTo k ts us ∧ Ext w wr) (fun i _ => ts.length - (intOf i).toNat)
      case atStart => exact ⟨0, Nat.zero_le _, rfl, sameTo_zero _ _, Ext.refl _⟩
      case round =>
        obtain ⟨k, hk, rfl, hs, he⟩ := hrel
        have HS := Lib.hid hs
        clear hs
        by_cases hlt : k < ts.length
        · have hlt' : k < us.length := by have := E4.out; omega
          obtain ⟨tk, htk⟩ := getk hlt
          obtain ⟨uk, huk⟩ := getk hlt'
          obtain ⟨b, off, b', off', ak, ck, ak', ck', rfl, rfl, ⟨c1, c2, c3, c4, hat⟩, ⟨d1, d2, d3, d4, hat'⟩⟩ := pair_get H4.out H4'.out htk huk he
          have cQ := quiet_call (w := wr) (fun w' e' => lawseqTerm tk uk (Lib.hid (IH.out k tk uk htk)) _ _ S S' w' (Tm.at_ext (he.trans e') hat) (Tm.at_ext (he.trans e') hat'))
          have k1 := cell_regrown c1
          have k2 := cell_regrown c2
          have k3 := cell_regrown c3
          have k4 := cell_regrown c4
          have l1 := cell_regrown d1
          have l2 := cell_regrown d2
          have l3 := cell_regrown d3
          have l4 := cell_regrown d4
          have Htk := Lib.hid htk
          have Huk := Lib.hid huk
          clear c1 c2 c3 c4 d1 d2 d3 d4 htk huk hat hat'
          cases hsm : Tm.same tk uk
          · simp only [hsm] at cQ
            have hf := Lib.hid (sameL_no Htk.out Huk.out hsm)
            clear hsm
            go_wp2_with fail
            refine region_ext (by kernel_rfl) (by kernel_rfl) ?_
            repeat (quiet_step (exact cQ _ _))
            refine wpQuiet_nil ?_
            intro wq eq
            go_wp2_with fail
            go_ret
            exact ⟨retB hf.out.symm, he.trans eq⟩
          · simp only [hsm] at cQ
            have hf := Lib.hid (sameTo_succ HS.out Htk.out Huk.out hsm)
            clear hsm
            go_wp2_with fail
            refine region_ext (by kernel_rfl) (by kernel_rfl) ?_
            repeat (quiet_step (exact cQ _ _))
            refine wpQuiet_nil ?_
            intro wq eq
            go_wp2_with fail
            go_roundw
            case rel => exact ⟨k + 1, by omega, by go_num, hf.out, he.trans eq⟩
            case measure => simp [intOf]; omega
        · have hf := Lib.hid (sameTo_all E4.out (by omega) HS.out)
          go_wp2_with fail
          go_ret
          exact ⟨retB hf.out.symm, he⟩
    · have e4' : ((ts.length : Int) != (us.length : Int)) = true := by simp [bne]; omega
      have hf := Lib.hid (show Tm.sameL ts us = false by cases h : Tm.sameL ts us with | false => rfl | true => exact absurd (sameL_len h) e4)
      clear e4
      go_enter Tryd.func29, Tryd.ntmps29
      go_wp2_with fail
      go_ret
      exact ⟨retB hf.out.symm, Ext.refl _⟩
theorem lawseqTerm_any (t u : Tm) (v v' : Value) (S S' : Nat → Prop) (w : World) (ht : Tm.at S w t v) (hu : Tm.at S' w u v') :
    Calls Tryd.prog 12 #[v, v'] w fun e w' => e = .returned (.bool (Tm.same t u)) ∧ Ext w w' :=
  lawseqTerm t u (Lib.hid (lawseqTermS _ _ _ (Nat.le_refl _))) v v' S S' w ht hu

mutual
theorem same_refl : ∀ t : Tm, Tm.same t t = true
  | .mk k n s ks => by simp only [Tm.same, sameL_refl ks]; simp
theorem sameL_refl : ∀ ts : List Tm, Tm.sameL ts ts = true
  | [] => by simp [Tm.sameL]
  | t :: ts => by simp only [Tm.sameL, same_refl t, sameL_refl ts, Bool.and_self]
end
mutual
theorem same_eq : ∀ (t u : Tm), Tm.same t u = true → t = u
  | .mk k n s ks, .mk k' n' s' ks', h => by
    simp only [Tm.same, Bool.and_eq_true, beq_iff_eq] at h
    obtain ⟨⟨⟨rfl, rfl⟩, h3⟩, h4⟩ := h
    rw [bl_ext h3, sameL_eq ks ks' h4]
theorem sameL_eq : ∀ (ts us : List Tm), Tm.sameL ts us = true → ts = us
  | [], [], _ => rfl
  | t :: ts, u :: us, h => by
    simp only [Tm.sameL, Bool.and_eq_true] at h
    rw [same_eq t u h.1, sameL_eq ts us h.2]
  | [], _ :: _, h => by simp [Tm.sameL] at h
  | _ :: _, [], h => by simp [Tm.sameL] at h
end

end Go.Proofs.YtifklfnpaigdkaaDoor
