/-
  Equality of terms: what EqualFunc over TermSame, the program's TermSame and eqTerm, eqTermS return on every two terms.
-/
import Derived.Test.YtognkaebiafgbaaGreatDoorRows
import Derived.WalkLawsBesides
import Derived.Lib.Hide
import Derived.Deep.QuietTactic
import Derived.BigQuiet
import Derived.Test.YtognkaebiafgbaaGreatDoorMr1
import Derived.Test.YtognkaebiafgbaaGreatDoorMr3
namespace Go.Proofs.YtognkaebiafgbaaGreatDoor
open Go.RowKit Go.Sort
set_option linter.unusedVariables false
theorem pair_get {S S' : Nat → Prop} {w wr : World} {ts us : List Tm} {a a' : Option Addr} {k : Nat} {t u : Tm}
    (h : ts = [] ∨ ∃ b off, a = some ⟨b, off, none⟩ ∧ S b ∧ Tm.row S w b off ts) (h' : us = [] ∨ ∃ b off, a' = some ⟨b, off, none⟩ ∧ S' b ∧ Tm.row S' w b off us)
    (ht : ts[k]? = some t) (hu : us[k]? = some u) (he : Ext w wr) :
    ∃ b off b' off' ak ck ak' ck', a = some ⟨b, off, none⟩ ∧ a' = some ⟨b', off', none⟩ ∧
      (wr.cell? ⟨b, off + k * 4, none⟩ = some (.int .i64 t.kind) ∧ wr.cell? ⟨b, off + k * 4 + 1, none⟩ = some (.int .i64 t.n) ∧ wr.cell? ⟨b, off + k * 4 + 2, none⟩ = some (.string t.name) ∧
        wr.cell? ⟨b, off + k * 4 + 3, none⟩ = some (.slice ak t.kids.length ck) ∧ Tm.at S w t (.agg #[.int .i64 t.kind, .int .i64 t.n, .string t.name, .slice ak t.kids.length ck])) ∧
      (wr.cell? ⟨b', off' + k * 4, none⟩ = some (.int .i64 u.kind) ∧ wr.cell? ⟨b', off' + k * 4 + 1, none⟩ = some (.int .i64 u.n) ∧ wr.cell? ⟨b', off' + k * 4 + 2, none⟩ = some (.string u.name) ∧
        wr.cell? ⟨b', off' + k * 4 + 3, none⟩ = some (.slice ak' u.kids.length ck') ∧ Tm.at S' w u (.agg #[.int .i64 u.kind, .int .i64 u.n, .string u.name, .slice ak' u.kids.length ck'])) := by
  rcases h with h4 | ⟨b, off, rfl, hSb, hrow⟩
  · rw [h4] at ht; simp at ht
  rcases h' with h4 | ⟨b', off', rfl, hSb', hrow'⟩
  · rw [h4] at hu; simp at hu
  obtain ⟨ak, ck, c1, c2, c3, c4, hat⟩ := Tm.at_of_cells (Tm.row_get hrow k t ht)
  obtain ⟨ak', ck', d1, d2, d3, d4, hat'⟩ := Tm.at_of_cells (Tm.row_get hrow' k u hu)
  exact ⟨b, off, b', off', ak, ck, ak', ck', rfl, rfl, ⟨he.cell c1, he.cell c2, he.cell c3, he.cell c4, hat⟩, ⟨he.cell d1, he.cell d2, he.cell d3, he.cell d4, hat'⟩⟩
def EqS (ts us : List Tm) : Prop := ∀ (v v' : Value) (S S' : Nat → Prop) (w : World), Tm.sl S w ts v → Tm.sl S' w us v' →
    Calls Tryz.prog 90 #[v, v'] w fun e w' => e = .returned (.bool (Tm.sameL ts us)) ∧ Ext w w'
set_option maxHeartbeats 1000000 in
theorem lawseqTerm (t u : Tm) (hks : Hid (EqS t.kids u.kids)) (v v' : Value) (S S' : Nat → Prop) (w : World) (ht : Tm.at S w t v) (hu : Tm.at S' w u v') :
    Calls Tryz.prog 39 #[v, v'] w fun e w' => e = .returned (.bool (Tm.same t u)) ∧ Ext w w' := by
  obtain ⟨k, n, s, ks⟩ := t
  obtain ⟨k', n', s', ks'⟩ := u
  obtain ⟨hs1, sv, rfl, hk⟩ := ht
  obtain ⟨hs2, sv', rfl, hk'⟩ := hu
  have HK := Lib.hid hk
  have HK' := Lib.hid hk'
  obtain ⟨a, cap, rfl, h1, h2, h3, h4⟩ := hk
  obtain ⟨a', cap', rfl, h1', h2', h3', h4'⟩ := hk'
  clear h4 h4'
  cases e1 : (k == k')
  · have e1' : (k != k') = true := by simp [bne, e1]
    have hf := Lib.hid (show Tm.same (.mk k n s ks) (.mk k' n' s' ks') = false by simp only [Tm.same, e1, Bool.false_and])
    go_enter Tryz.func39, Tryz.ntmps39
    go_wp2_with fail
    go_ret
    exact ⟨retB hf.out.symm, (Ext.alloc _ _).trans (Ext.alloc _ _)⟩
  cases e2 : (n == n')
  · have e1' : (k != k') = false := by simp [bne, e1]
    have e2' : (n != n') = true := by simp [bne, e2]
    have hf := Lib.hid (show Tm.same (.mk k n s ks) (.mk k' n' s' ks') = false by simp only [Tm.same, e2, Bool.false_and, Bool.and_false])
    go_enter Tryz.func39, Tryz.ntmps39
    go_wp2_with fail
    go_ret
    exact ⟨retB hf.out.symm, (Ext.alloc _ _).trans (Ext.alloc _ _)⟩
  cases e3 : (s.toList == s'.toList)
  · have e1' : (k != k') = false := by simp [bne, e1]
    have e2' : (n != n') = false := by simp [bne, e2]
    have hf := Lib.hid (show Tm.same (.mk k n s ks) (.mk k' n' s' ks') = false by simp only [Tm.same, e3, Bool.false_and, Bool.and_false])
    go_enter Tryz.func39, Tryz.ntmps39
    go_wp2_with fail
    go_ret
    exact ⟨retB hf.out.symm, (Ext.alloc _ _).trans (Ext.alloc _ _)⟩
  have hq := Lib.hid (show Tm.same (.mk k n s ks) (.mk k' n' s' ks') = Tm.sameL ks ks' by simp only [Tm.same, e1, e2, e3, Bool.true_and])
  have e1' : (k != k') = false := by simp [bne, e1]
  have e2' : (n != n') = false := by simp [bne, e2]
  have hcall := fun w' (e' : Ext w w') => hks.out _ _ S S' w' (Tm.sl_ext e' HK.out) (Tm.sl_ext e' HK'.out)
  cases hsm : Tm.sameL ks ks'
  all_goals
    simp only [Tm.kids, hsm] at hcall
    have HC := Lib.hid hcall
    have hf := Lib.hid hsm
    clear hcall hsm
    go_enter Tryz.func39, Tryz.ntmps39
    go_wp2_with fail
    refine (HC.out _ ((Ext.alloc _ _).trans (Ext.alloc _ _))).mono ?_
    rintro e w' ⟨rfl, e'⟩
    go_wp2_with fail
    go_ret
    exact ⟨retB (by rw [hq.out, hf.out]), ((Ext.alloc _ _).trans (Ext.alloc _ _)).trans e'⟩
set_option maxHeartbeats 1000000 in
theorem lawseqTermS : ∀ (m : Nat) (ts us : List Tm), Tm.szL ts ≤ m → EqS ts us := by
  intro m
  induction m using Nat.strongRecOn with
  | _ m ih =>
    intro ts us hm v v' S S' w ht hu
    have IH := Lib.hid (show ∀ (j : Nat) (t u : Tm), ts[j]? = some t → EqS t.kids u.kids from fun j t u h => by
      have h1 := Tm.sz_mem h
      have h2 : Tm.szL t.kids < Tm.sz t := by cases t; simp only [Tm.sz, Tm.kids]; omega
      exact ih (Tm.szL t.kids) (by omega) t.kids u.kids (Nat.le_refl _))
    clear ih hm
    obtain ⟨a, cap, rfl, h1, h2, h3, h4⟩ := ht
    obtain ⟨a', cap', rfl, h1', h2', h3', h4'⟩ := hu
    have H4 := Lib.hid h4
    have H4' := Lib.hid h4'
    clear h4 h4'
    by_cases e4 : ts.length = us.length
    · have E4 := Lib.hid e4
      have e4' : ((ts.length : Int) != (us.length : Int)) = false := by simp [bne, e4]
      clear e4
      go_enter Tryz.func90, Tryz.ntmps90
      go_wp2_with fail
      go_loopw [5] (fun i wr => ∃ k : Nat, k ≤ ts.length ∧ i = .int .i64 k ∧ SameTo k ts us ∧ Ext w wr) (fun i _ => ts.length - (intOf i).toNat)
      case atStart => exact ⟨0, Nat.zero_le _, rfl, sameTo_zero _ _, Ext.refl _⟩
      case round =>
        obtain ⟨k, hk, rfl, hs, he⟩ := hrel
        have HS := Lib.hid hs
        clear hs
        by_cases hlt : k < ts.length
        · have hlt' : k < us.length := by have := E4.out; omega
          obtain ⟨tk, htk⟩ := getk hlt
          obtain ⟨uk, huk⟩ := getk hlt'
          obtain ⟨b, off, b', off', ak, ck, ak', ck', rfl, rfl, ⟨c1, c2, c3, c4, hat⟩, ⟨d1, d2, d3, d4, hat'⟩⟩ := pair_get H4.out H4'.out htk huk he
          have cQ := quiet_call (w := wr) (fun w' e' => lawseqTerm tk uk (Lib.hid (IH.out k tk uk htk)) _ _ S S' w' (Tm.at_ext (he.trans e') hat) (Tm.at_ext (he.trans e') hat'))
          have k1 := cell_regrown c1
          have k2 := cell_regrown c2
          have k3 := cell_regrown c3
          have k4 := cell_regrown c4
          have l1 := cell_regrown d1
          have l2 := cell_regrown d2
          have l3 := cell_regrown d3
          have l4 := cell_regrown d4
          have Htk := Lib.hid htk
          have Huk := Lib.hid huk
          clear c1 c2 c3 c4 d1 d2 d3 d4 htk huk hat hat'
          cases hsm : Tm.same tk uk
          · simp only [hsm] at cQ
            have hf := Lib.hid (sameL_no Htk.out Huk.out hsm)
            clear hsm
            go_wp2_with fail
            refine region_ext (by kernel_rfl) (by kernel_rfl) ?_
            repeat (quiet_step (exact cQ _ _))
            refine wpQuiet_nil ?_
            intro wq eq
            go_wp2_with fail
            go_ret
            exact ⟨retB hf.out.symm, he.trans eq⟩
          · simp only [hsm] at cQ
            have hf := Lib.hid (sameTo_succ HS.out Htk.out Huk.out hsm)
            clear hsm
            go_wp2_with fail
            refine region_ext (by kernel_rfl) (by kernel_rfl) ?_
            repeat (quiet_step (exact cQ _ _))
            refine wpQuiet_nil ?_
            intro wq eq
            go_wp2_with fail
            go_roundw
            case rel => exact ⟨k + 1, by omega, by go_num, hf.out, he.trans eq⟩
            case measure => simp [intOf]; omega
        · have hf := Lib.hid (sameTo_all E4.out (by omega) HS.out)
          go_wp2_with fail
          go_ret
          exact ⟨retB hf.out.symm, he⟩
    · have e4' : ((ts.length : Int) != (us.length : Int)) = true := by simp [bne]; omega
      have hf := Lib.hid (show Tm.sameL ts us = false by cases h : Tm.sameL ts us with | false => rfl | true => exact absurd (sameL_len h) e4)
      clear e4
      go_enter Tryz.func90, Tryz.ntmps90
      go_wp2_with fail
      go_ret
      exact ⟨retB hf.out.symm, Ext.refl _⟩
theorem lawseqTerm_any (t u : Tm) (v v' : Value) (S S' : Nat → Prop) (w : World) (ht : Tm.at S w t v) (hu : Tm.at S' w u v') :
    Calls Tryz.prog 39 #[v, v'] w fun e w' => e = .returned (.bool (Tm.same t u)) ∧ Ext w w' :=
  lawseqTerm t u (Lib.hid (lawseqTermS _ _ _ (Nat.le_refl _))) v v' S S' w ht hu
mutual
theorem same_refl : ∀ t : Tm, Tm.same t t = true
  | .mk k n s ks => by simp only [Tm.same, sameL_refl ks]; simp
theorem sameL_refl : ∀ ts : List Tm, Tm.sameL ts ts = true
  | [] => by simp [Tm.sameL]
  | t :: ts => by simp only [Tm.sameL, same_refl t, sameL_refl ts, Bool.and_self]
end
end Go.Proofs.YtognkaebiafgbaaGreatDoor

namespace Go.Proofs.YtognkaebiafgbaaGreatDoor
open Go.RowKit
set_option linter.unusedVariables false
def Cl.same (c d : Cl) : Bool := Tm.same c.head d.head && Tm.sameL c.body d.body
theorem csame_refl (c : Cl) : Cl.same c c = true := by unfold Cl.same; rw [same_refl, sameL_refl]; rfl
set_option maxHeartbeats 1000000 in
theorem lawseqClause (c d : Cl) (v v' : Value) (S S' : Nat → Prop) (w : World) (hc : Cl.at S w c v) (hd : Cl.at S' w d v') :
    Calls Tryz.prog 49 #[v, v'] w fun e w' => e = .returned (.bool (Cl.same c d)) ∧ Ext w w' := by
  obtain ⟨a, ca, b, cb, rfl, hH, hB⟩ := Cl.form hc
  obtain ⟨a', ca', b', cb', rfl, hH', hB'⟩ := Cl.form hd
  have HT := Lib.hid (fun w' (e' : Ext w w') => lawseqTerm_any c.head d.head _ _ S S' w' (Tm.at_ext e' hH) (Tm.at_ext e' hH'))
  have HS := Lib.hid (fun w' (e' : Ext w w') => lawseqTermS _ c.body d.body (Nat.le_refl _) _ _ S S' w' (Tm.sl_ext e' hB) (Tm.sl_ext e' hB'))
  clear hH hB hH' hB' hc hd
  cases h1 : Tm.same c.head d.head
  · have hf : Hid (Cl.same c d = false) := Lib.hid (by unfold Cl.same; rw [h1]; rfl)
    go_enter Tryz.func49, Tryz.ntmps49
    go_wp2_with fail
    refine (HT.out _ ((Ext.alloc _ _).trans (Ext.alloc _ _))).mono ?_
    rw [h1]
    rintro e w1 ⟨rfl, q⟩
    go_wp2_with fail
    go_ret
    exact ⟨retB hf.out.symm, ((Ext.alloc _ _).trans (Ext.alloc _ _)).trans q⟩
  · have hf : Hid (Cl.same c d = Tm.sameL c.body d.body) := Lib.hid (by unfold Cl.same; rw [h1]; rfl)
    go_enter Tryz.func49, Tryz.ntmps49
    go_wp2_with fail
    refine (HT.out _ ((Ext.alloc _ _).trans (Ext.alloc _ _))).mono ?_
    rw [h1]
    rintro e w1 ⟨rfl, q⟩
    have c4 := q.cell (a := ⟨w.heap.size, 4, none⟩) (v := .slice b c.body.length cb) (by go_simp)
    have d4 := q.cell (a := ⟨w.heap.size + 1, 4, none⟩) (v := .slice b' d.body.length cb') (by go_simp)
    clear h1
    go_wp2_with fail
    refine (HS.out _ (((Ext.alloc _ _).trans (Ext.alloc _ _)).trans q)).mono ?_
    rintro e w2 ⟨rfl, q2⟩
    cases h2 : Tm.sameL c.body d.body
    all_goals
      go_wp2_with fail
      go_ret
      exact ⟨retB (by rw [hf.out, h2]), (((Ext.alloc _ _).trans (Ext.alloc _ _)).trans q).trans q2⟩
end Go.Proofs.YtognkaebiafgbaaGreatDoor

namespace Go.Proofs.YtognkaebiafgbaaGreatDoor
open Go.RowKit
set_option linter.unusedVariables false
def wordB (c : UInt8) : Bool := !(decide (c.toNat < 97) || decide (122 < c.toNat))
def wordF (l : List UInt8) : Bool := l.all wordB && (decide (1 ≤ l.length) && decide (l.length ≤ 6))
theorem wordF_no {l : List UInt8} {k : Nat} (h : k < l.length) (hc : wordB l[k] = false) : wordF l = false := by
  unfold wordF
  have : l.all wordB = false := by
    rw [List.all_eq_false]
    exact ⟨l[k], List.getElem_mem h, by simp [hc]⟩
  simp [this]
theorem all_take_snoc {l : List UInt8} {k : Nat} (h : k < l.length) (ha : (l.take k).all wordB = true) (hc : wordB l[k] = true) : (l.take (k + 1)).all wordB = true := by
  rw [List.take_succ_eq_append_getElem h, List.all_append, ha]
  simp [hc]
theorem round_word {s : ByteArray} {k : Nat} (h : k < s.size) (ha : (s.toList.take k).all wordB = true) (h1 : ¬ (s[k].toNat : Int) < 97) (h2 : ¬ (122 : Int) < s[k].toNat) : (s.toList.take (k + 1)).all wordB = true :=
  all_take_snoc (by rw [bl_len]; exact h) ha (by rw [bl_get s k h]; simp only [wordB]; simp; omega)
theorem stop_word1 {s : ByteArray} {k : Nat} (h : k < s.size) (h1 : (s[k].toNat : Int) < 97) : wordF s.toList = false :=
  wordF_no (by rw [bl_len]; exact h) (by rw [bl_get s k h]; simp only [wordB]; simp; omega)
theorem stop_word2 {s : ByteArray} {k : Nat} (h : k < s.size) (h1 : (122 : Int) < s[k].toNat) : wordF s.toList = false :=
  wordF_no (by rw [bl_len]; exact h) (by rw [bl_get s k h]; simp only [wordB]; simp; omega)
theorem end_word {s : ByteArray} {k : Nat} (hk : k ≤ s.size) (hlt : ¬ k < s.size) (ha : (s.toList.take k).all wordB = true) : wordF s.toList = (decide (1 ≤ s.size) && decide (s.size ≤ 6)) := by
  rw [List.take_of_length_le (by rw [bl_len]; omega)] at ha
  simp [wordF, ha, bl_len]
set_option maxHeartbeats 400000 in
theorem specl1Word (s : ByteArray) (w : World) (hs : s.size ≤ 1048576) : Calls Tryz.prog 113 #[.string s] w fun e w' => e = .returned (.bool (wordF s.toList)) ∧ w = w' := by
  go_enter Tryz.func113, Tryz.ntmps113
  go_wp2_with fail
  go_loop [3] (fun i => ∃ k : Nat, k ≤ s.size ∧ i = .int .i64 k ∧ (s.toList.take k).all wordB = true) (fun i => s.size - (intOf i).toNat)
  case atStart => exact ⟨0, Nat.zero_le _, rfl, rfl⟩
  case round =>
    obtain ⟨k, hk, rfl, ha⟩ := hrel
    have Ha := Lib.hid ha
    clear ha
    by_cases hlt : k < s.size
    · by_cases h1 : (s[k].toNat : Int) < 97
      · have hf := Lib.hid (stop_word1 hlt h1)
        go_wp2_with fail
        go_ret
        exact ⟨retB hf.out.symm, rfl⟩
      · by_cases h2 : (122 : Int) < s[k].toNat
        · have hf := Lib.hid (stop_word2 hlt h2)
          go_wp2_with fail
          go_ret
          exact ⟨retB hf.out.symm, rfl⟩
        · have hf := Lib.hid (round_word hlt Ha.out h1 h2)
          go_wp2_with fail
          go_round
          case rel => exact ⟨k + 1, by omega, by go_num, hf.out⟩
          case measure => simp [intOf]; omega
    · have hf := Lib.hid (end_word hk hlt Ha.out)
      by_cases h1 : 1 ≤ s.size
      · by_cases h2 : s.size ≤ 6
        all_goals
          go_wp2_with fail
          go_ret
          exact ⟨by rw [hf.out]; simp [h1, h2]; try omega, rfl⟩
      · go_wp2_with fail
        go_ret
        exact ⟨by rw [hf.out]; simp; omega, rfl⟩
set_option maxHeartbeats 400000 in
theorem implwithin (n lo hi : Int) (w : World) : Calls Tryz.prog 144 #[.int .i64 n, .int .i64 lo, .int .i64 hi] w fun e w' => e = .returned (.bool (decide (lo ≤ n) && decide (n ≤ hi))) ∧ w = w' := by
  by_cases h1 : lo ≤ n
  · by_cases h2 : n ≤ hi
    all_goals
      go_enter Tryz.func144, Tryz.ntmps144
      go_wp2
      go_ret
      exact ⟨by simp [h1, h2]; try omega, rfl⟩
  · go_enter Tryz.func144, Tryz.ntmps144
    go_wp2
    go_ret
    exact ⟨by simp; omega, rfl⟩
set_option maxHeartbeats 400000 in
theorem implisLetters (s : ByteArray) (w : World) (hs : s.size ≤ 1048576) : Calls Tryz.prog 106 #[.string s] w fun e w' => e = .returned (.bool (wordF s.toList)) ∧ w = w' := by
  go_enter Tryz.func106, Tryz.ntmps106
  go_wp2_with fail
  go_loop [3, 6] (fun _ i => ∃ k : Nat, k ≤ s.size ∧ i = .int .i64 k ∧ (s.toList.take k).all wordB = true) (fun _ i => s.size - (intOf i).toNat)
  case atStart => exact ⟨0, Nat.zero_le _, rfl, rfl⟩
  case round =>
    obtain ⟨k, hk, rfl, ha⟩ := hrel
    have Ha := Lib.hid ha
    clear ha
    by_cases hlt : k < s.size
    · by_cases h1 : (s[k].toNat : Int) < 97
      · have hf := Lib.hid (stop_word1 hlt h1)
        go_wp2_with fail
        go_ret
        exact ⟨retB hf.out.symm, rfl⟩
      · by_cases h2 : (122 : Int) < s[k].toNat
        · have hf := Lib.hid (stop_word2 hlt h2)
          go_wp2_with fail
          go_ret
          exact ⟨retB hf.out.symm, rfl⟩
        · have hf := Lib.hid (round_word hlt Ha.out h1 h2)
          go_wp2_with fail
          go_round
          case rel => exact ⟨k + 1, by omega, by go_num, hf.out⟩
          case measure => simp [intOf]; omega
    · have hf := Lib.hid (end_word hk hlt Ha.out)
      go_wp2_with (go_at_call 144; refine (implwithin _ _ _ _).mono ?_; rintro e w' ⟨rfl, rfl⟩)
      all_goals (go_ret; exact ⟨retB (by rw [hf.out]; congr 1 <;> simp <;> omega), rfl⟩)
theorem bq (a b : List UInt8) : (a == b) = (b == a) := by
  rw [Bool.eq_iff_iff]
  simp only [beq_iff_eq]
  exact ⟨Eq.symm, Eq.symm⟩
def hasF (ss : List ByteArray) (s : ByteArray) : Bool := ss.any fun x => x.toList == s.toList
theorem has_no {ss : List ByteArray} {s : ByteArray} (h : (ss.take ss.length).any (fun x => x.toList == s.toList) = false) : hasF ss s = false := by
  rw [List.take_length] at h; exact h
theorem has_yes {ss : List ByteArray} {s x : ByteArray} {k : Nat} (h : ss[k]? = some x) (he : (x.toList == s.toList) = true) : hasF ss s = true := by
  unfold hasF
  rw [List.any_eq_true]
  exact ⟨x, List.mem_of_getElem? h, he⟩
theorem has_snoc {ss : List ByteArray} {s x : ByteArray} {k : Nat} (hk : k < ss.length) (h : ss[k]? = some x) (ha : (ss.take k).any (fun x => x.toList == s.toList) = false) (he : (x.toList == s.toList) = false) :
    (ss.take (k + 1)).any (fun x => x.toList == s.toList) = false := by
  have : x = ss[k] := by simpa [List.getElem?_eq_getElem hk] using h.symm
  subst this
  rw [List.take_succ_eq_append_getElem hk, List.any_append, ha]
  simp [he]
set_option maxHeartbeats 400000 in
theorem specl1Has (ss : List ByteArray) (v : Value) (s : ByteArray) (w : World) (hv : StrsAt w ss v) : Calls Tryz.prog 202 #[v, .string s] w fun e w' => e = .returned (.bool (hasF ss s)) ∧ w = w' := by
  obtain ⟨a, cap, rfl, h1, h2, h3, h4⟩ := hv
  go_enter Tryz.func202, Tryz.ntmps202
  go_wp2_with fail
  go_loop [5] (fun i => ∃ k : Nat, k ≤ ss.length ∧ i = .int .i64 k ∧ (ss.take k).any (fun x => x.toList == s.toList) = false) (fun i => ss.length - (intOf i).toNat)
  case atStart => exact ⟨0, Nat.zero_le _, rfl, rfl⟩
  case round =>
    obtain ⟨k, hk, rfl, ha⟩ := hrel
    have Ha := Lib.hid ha
    clear ha
    by_cases hlt : k < ss.length
    · rcases h4 with h4 | ⟨b, off, rfl, h5⟩
      · subst h4; simp at hlt
      · obtain ⟨x, hx⟩ : ∃ x, ss[k]? = some x := ⟨ss[k], by simp [hlt]⟩
        have hc := h5 k x hx
        have Hx := Lib.hid hx
        clear hx h5 h3
        cases he : (x.toList == s.toList)
        · have hf := Lib.hid (has_snoc hlt Hx.out Ha.out he)
          go_wp2_with fail
          go_round
          case rel => exact ⟨k + 1, by omega, by go_num, hf.out⟩
          case measure => simp [intOf]; omega
        · have hf := Lib.hid (has_yes Hx.out he)
          go_wp2_with fail
          go_ret
          exact ⟨retB hf.out.symm, rfl⟩
    · have hf := Lib.hid (has_no (ss := ss) (s := s) (by rw [show ss.length = k by omega]; exact Ha.out))
      go_wp2_with fail
      go_ret
      exact ⟨retB hf.out.symm, rfl⟩
set_option maxHeartbeats 400000 in
theorem slicesIndexS (ss : List ByteArray) (v : Value) (s : ByteArray) (w : World) (hv : StrsAt w ss v) : Calls Tryz.prog 201 #[v, .string s] w fun e w' => ∃ n : Int, e = .returned (.int .i64 n) ∧ decide (0 ≤ n) = hasF ss s ∧ w = w' := by
  obtain ⟨a, cap, rfl, h1, h2, h3, h4⟩ := hv
  go_enter Tryz.func201, Tryz.ntmps201
  go_wp2_with fail
  go_loop [5, 8] (fun _ i => ∃ k : Nat, k ≤ ss.length ∧ i = .int .i64 k ∧ (ss.take k).any (fun x => x.toList == s.toList) = false) (fun _ i => ss.length - (intOf i).toNat)
  case atStart => exact ⟨0, Nat.zero_le _, rfl, rfl⟩
  case round =>
    obtain ⟨k, hk, rfl, ha⟩ := hrel
    have Ha := Lib.hid ha
    clear ha
    by_cases hlt : k < ss.length
    · rcases h4 with h4 | ⟨b, off, rfl, h5⟩
      · subst h4; simp at hlt
      · obtain ⟨x, hx⟩ : ∃ x, ss[k]? = some x := ⟨ss[k], by simp [hlt]⟩
        have hc := h5 k x hx
        have Hx := Lib.hid hx
        clear hx h5 h3
        cases he : (x.toList == s.toList)
        · have hf := Lib.hid (has_snoc hlt Hx.out Ha.out he)
          have he2 : (s.toList == x.toList) = false := by rw [← he]; exact bq _ _
          go_wp2_with fail
          go_round
          case rel => exact ⟨k + 1, by omega, by go_num, hf.out⟩
          case measure => simp [intOf]; omega
        · have hf := Lib.hid (has_yes Hx.out he)
          have he2 : (s.toList == x.toList) = true := by rw [← he]; exact bq _ _
          go_wp2_with fail
          go_ret
          exact ⟨_, rfl, by rw [hf.out]; exact decide_eq_true (by omega), rfl⟩
    · have hf := Lib.hid (has_no (ss := ss) (s := s) (by rw [show ss.length = k by omega]; exact Ha.out))
      go_wp2_with fail
      go_ret
      exact ⟨_, rfl, by rw [hf.out]; rfl, rfl⟩
set_option maxHeartbeats 400000 in
theorem slicesContainsS (ss : List ByteArray) (v : Value) (s : ByteArray) (w : World) (hv : StrsAt w ss v) : Calls Tryz.prog 184 #[v, .string s] w fun e w' => e = .returned (.bool (hasF ss s)) ∧ w = w' := by
  go_enter Tryz.func184, Tryz.ntmps184
  go_wp2_with (go_at_call 201; refine (slicesIndexS ss v s _ hv).mono ?_; rintro e w' ⟨n, rfl, hn, rfl⟩; have Hn := Lib.hid hn; clear hn)
  all_goals (go_ret; exact ⟨retB Hn.out, rfl⟩)
def signs : List ByteArray := [⟨#[43]⟩, ⟨#[45]⟩, ⟨#[42]⟩, ⟨#[47, 47]⟩, ⟨#[61]⟩, ⟨#[92, 61]⟩, ⟨#[61, 61]⟩, ⟨#[60]⟩, ⟨#[62]⟩, ⟨#[61, 60]⟩, ⟨#[62, 61]⟩, ⟨#[61, 58, 61]⟩, ⟨#[46]⟩, ⟨#[91, 93]⟩, ⟨#[33]⟩]
theorem strs_new (w : World) (T : Nat) : StrsAt (w.alloc (.cells #[.string ⟨#[43]⟩, .string ⟨#[45]⟩, .string ⟨#[42]⟩, .string ⟨#[47, 47]⟩, .string ⟨#[61]⟩, .string ⟨#[92, 61]⟩, .string ⟨#[61, 61]⟩, .string ⟨#[60]⟩, .string ⟨#[62]⟩, .string ⟨#[61, 60]⟩, .string ⟨#[62, 61]⟩, .string ⟨#[61, 58, 61]⟩, .string ⟨#[46]⟩, .string ⟨#[91, 93]⟩, .string ⟨#[33]⟩] T)) signs (.slice (some ⟨w.heap.size, 0, none⟩) 15 15) := by
  refine ⟨_, _, rfl, by decide, by decide, by decide, .inr ⟨w.heap.size, 0, rfl, fun i s h => ?_⟩⟩
  have hi : i < 15 := by
    have := (List.getElem?_eq_some_iff.1 h).1
    simpa [signs] using this
  revert s
  rcases i with _ | _ | _ | _ | _ | _ | _ | _ | _ | _ | _ | _ | _ | _ | _ | i
  all_goals first | omega | (intro s h; simp [signs] at h; subst h; exact cell_new _ _ _ _ _ rfl)
set_option maxHeartbeats 400000 in
theorem specl1Signs (w : World) : Calls Tryz.prog 172 #[] w fun e w' => ∃ v, e = .returned v ∧ StrsAt w' signs v ∧ Ext w w' := by
  go_enter Tryz.func172, Tryz.ntmps172
  go_wp2
  go_ret
  exact ⟨_, rfl, strs_new w _, Ext.alloc _ _⟩
set_option maxHeartbeats 400000 in
theorem implsymbols (w : World) : Calls Tryz.prog 158 #[] w fun e w' => ∃ v, e = .returned v ∧ StrsAt w' signs v ∧ Ext w w' := by
  go_enter Tryz.func158, Tryz.ntmps158
  go_wp2
  go_ret
  exact ⟨_, rfl, strs_new w _, Ext.alloc _ _⟩
def nameF (s : ByteArray) : Bool := wordF s.toList || hasF signs s
set_option maxHeartbeats 400000 in
theorem specNameValid (s : ByteArray) (w : World) (hs : s.size ≤ 1048576) : Calls Tryz.prog 185 #[.string s] w fun e w' => e = .returned (.bool (nameF s)) ∧ Ext w w' := by
  cases hw : wordF s.toList
  · go_enter Tryz.func185, Tryz.ntmps185
    go_wp2_with (first | (go_at_call 113; refine (specl1Word s _ hs).mono ?_; rw [hw]; rintro e w' ⟨rfl, rfl⟩) | (go_at_call 172; refine (specl1Signs _).mono ?_; rintro e w1 ⟨v, rfl, hv, he⟩) | (go_at_call 202; refine (specl1Has signs _ s _ hv).mono ?_; rintro e w' ⟨rfl, rfl⟩))
    go_ret
    exact ⟨retB (by simp [nameF, hw]), he⟩
  · go_enter Tryz.func185, Tryz.ntmps185
    go_wp2_with (go_at_call 113; refine (specl1Word s _ hs).mono ?_; rw [hw]; rintro e w' ⟨rfl, rfl⟩)
    go_ret
    exact ⟨retB (by simp [nameF, hw]), Ext.refl _⟩
set_option maxHeartbeats 400000 in
theorem implNameValid (s : ByteArray) (w : World) (hs : s.size ≤ 1048576) : Calls Tryz.prog 145 #[.string s] w fun e w' => e = .returned (.bool (nameF s)) ∧ Ext w w' := by
  cases hw : wordF s.toList
  · go_enter Tryz.func145, Tryz.ntmps145
    go_wp2_with (first | (go_at_call 106; refine (implisLetters s _ hs).mono ?_; rw [hw]; rintro e w' ⟨rfl, rfl⟩) | (go_at_call 158; refine (implsymbols _).mono ?_; rintro e w1 ⟨v, rfl, hv, he⟩) | (go_at_call 184; refine (slicesContainsS signs _ s _ hv).mono ?_; rintro e w' ⟨rfl, rfl⟩))
    go_ret
    exact ⟨retB (by simp [nameF, hw]), he⟩
  · go_enter Tryz.func145, Tryz.ntmps145
    go_wp2_with (go_at_call 106; refine (implisLetters s _ hs).mono ?_; rw [hw]; rintro e w' ⟨rfl, rfl⟩)
    go_ret
    exact ⟨retB (by simp [nameF, hw]), Ext.refl _⟩
end Go.Proofs.YtognkaebiafgbaaGreatDoor
