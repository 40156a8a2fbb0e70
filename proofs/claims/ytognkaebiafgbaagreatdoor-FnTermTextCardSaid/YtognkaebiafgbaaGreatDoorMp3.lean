/-
  Equality of terms: what TermSame (the reference's and the program's) and eqTerm return on every two terms.
-/
import Derived.Test.YtognkaebiafgbaaGreatDoorRows
import Derived.WalkLawsBesides
import Derived.Deep.QuietTactic
import Derived.Lib.QuietBelow
import Derived.BigQuiet
import Derived.Test.YtognkaebiafgbaaGreatDoorMp1
namespace Go.Proofs.YtognkaebiafgbaaGreatDoor
open Go.RowKit Go.Sort
set_option linter.unusedVariables false

/-- a region that draws its order, whose operations only read and whose calls lay new blocks alone -/
theorem region_ext {P : Program} {id : Nat} {Q : Exit → Act → World → Prop} {a : Act} {w : World} {l : List Oper} (hm : P.follows .mixedOrders = true) (hB : Region.lexB .any l.toArray = true)
    (h : wpQuiet P l.toArray (fun w' => ∃ p : Regrown, w' = grow (redrawn w p.d) p.os) (fun a' => ∀ w', Ext w w' → Q .normal a' w') l a) : (Code.region id l.toArray true).wp P Q a w :=
  wp_region_quiet (C := fun w' => ∃ p : Regrown, w' = grow (redrawn w p.d) p.os) hm hB ⟨⟨w.drawn + 1, #[]⟩, by rw [grow_empty]; rfl⟩ (by
    have hh : (fun a' => ∀ w', Ext w w' → Q .normal a' w') = (fun a' => ∀ w', (∃ p : Regrown, w' = grow (redrawn w p.d) p.os) → Q .normal a' w') := by
      funext a'
      apply propext
      constructor
      · rintro h w' ⟨p, rfl⟩
        exact h _ (below_regrown _ _ _)
      · intro h w' e
        exact h w' (regrown_of_below e)
    simpa [hh] using h)
theorem quiet_call {P : Program} {f : FuncId} {args : Array Value} {w : World} {v : Value}
    (h : ∀ w', Ext w w' → Calls P f args w' fun e w'' => e = .returned v ∧ Ext w' w'') (d : Nat) (os : Array Obj) :
    Calls P f args (grow (redrawn w d) os) fun e w'' => e = .returned v ∧ ∃ p : Regrown, w'' = grow (redrawn w p.d) p.os :=
  Calls.regrown_of (h _ (below_regrown w d os))

mutual
def Tm.same : Tm → Tm → Bool
  | .mk k n s ks, .mk k' n' s' ks' => (k == k') && (n == n') && (s.toList == s'.toList) && Tm.sameL ks ks'
def Tm.sameL : List Tm → List Tm → Bool
  | [], [] => true
  | t :: ts, u :: us => Tm.same t u && Tm.sameL ts us
  | _, _ => false
end
theorem sameL_len : ∀ {ts us : List Tm}, Tm.sameL ts us = true → ts.length = us.length
  | [], [], _ => rfl
  | t :: ts, u :: us, h => by
    simp only [Tm.sameL, Bool.and_eq_true] at h
    simp [sameL_len h.2]
  | [], u :: us, h => by simp [Tm.sameL] at h
  | t :: ts, [], h => by simp [Tm.sameL] at h
theorem sameL_no : ∀ {ts us : List Tm} {j : Nat} {t u : Tm}, ts[j]? = some t → us[j]? = some u → Tm.same t u = false → Tm.sameL ts us = false
  | [], _, j, t, u, h, _, _ => by simp at h
  | _ :: _, [], j, t, u, _, h, _ => by simp at h
  | t0 :: ts, u0 :: us, 0, t, u, h, h', hs => by
    simp at h h'; subst h; subst h'
    simp [Tm.sameL, hs]
  | t0 :: ts, u0 :: us, j + 1, t, u, h, h', hs => by
    simp only [List.getElem?_cons_succ] at h h'
    simp [Tm.sameL, sameL_no h h' hs]
theorem sameL_yes : ∀ {ts us : List Tm}, ts.length = us.length → (∀ (j : Nat) (t u : Tm), ts[j]? = some t → us[j]? = some u → Tm.same t u = true) → Tm.sameL ts us = true
  | [], [], _, _ => by simp [Tm.sameL]
  | t :: ts, u :: us, hl, h => by
    simp only [Tm.sameL, Bool.and_eq_true]
    exact ⟨h 0 t u rfl rfl, sameL_yes (by simpa using hl) (fun j t u h1 h2 => h (j + 1) t u (by simpa using h1) (by simpa using h2))⟩
  | [], u :: us, hl, _ => by simp at hl
  | t :: ts, [], hl, _ => by simp at hl
/-- the first k pairs are equal -/
def SameTo (k : Nat) (ts us : List Tm) : Prop := ∀ (j : Nat) (t u : Tm), j < k → ts[j]? = some t → us[j]? = some u → Tm.same t u = true
theorem sameTo_zero (ts us : List Tm) : SameTo 0 ts us := fun _ _ _ h => absurd h (by omega)
theorem sameTo_succ {k : Nat} {ts us : List Tm} {t u : Tm} (h : SameTo k ts us) (ht : ts[k]? = some t) (hu : us[k]? = some u) (hs : Tm.same t u = true) : SameTo (k + 1) ts us := by
  intro j t' u' hj h1 h2
  by_cases e : j = k
  · subst e
    rw [ht] at h1; rw [hu] at h2
    cases h1; cases h2; exact hs
  · exact h j t' u' (by omega) h1 h2
theorem sameTo_all {k : Nat} {ts us : List Tm} (hl : ts.length = us.length) (hk : ts.length ≤ k) (h : SameTo k ts us) : Tm.sameL ts us = true :=
  sameL_yes hl fun j t u h1 h2 => h j t u (by have := (List.getElem?_eq_some_iff.1 h1).1; omega) h1 h2
mutual
/-- the number of nodes -/
def Tm.sz : Tm → Nat
  | .mk _ _ _ ks => 1 + Tm.szL ks
def Tm.szL : List Tm → Nat
  | [] => 0
  | t :: ts => Tm.sz t + Tm.szL ts
end
theorem Tm.sz_pos (t : Tm) : 0 < Tm.sz t := by cases t; simp only [Tm.sz]; omega
theorem Tm.sz_mem : ∀ {ts : List Tm} {j : Nat} {t : Tm}, ts[j]? = some t → Tm.sz t ≤ Tm.szL ts
  | [], j, t, h => by simp at h
  | t0 :: ts, 0, t, h => by simp at h; subst h; simp only [Tm.szL]; omega
  | t0 :: ts, j + 1, t, h => by have := Tm.sz_mem (ts := ts) (j := j) (t := t) (by simpa using h); simp only [Tm.szL]; omega
theorem kid_lt {k n : Int} {s : ByteArray} {ks : List Tm} {t : Tm} {j : Nat} (h : ks[j]? = some t) : Tm.sz t < Tm.sz (Tm.mk k n s ks) := by
  have := Tm.sz_mem h
  simp only [Tm.sz]
  omega
theorem getk {ts : List Tm} {k : Nat} (h : k < ts.length) : ∃ t, ts[k]? = some t := ⟨ts[k], by simp [h]⟩

set_option maxHeartbeats 1000000 in
theorem specTermSame : ∀ (m : Nat) (t u : Tm) (v v' : Value) (S S' : Nat → Prop) (w : World), Tm.sz t ≤ m → Tm.at S w t v → Tm.at S' w u v' →
    Calls Tryz.prog 86 #[v, v'] w fun e w' => e = .returned (.bool (Tm.same t u)) ∧ Ext w w' := by
  intro m
  induction m with
  | zero => intro t u v v' S S' w hm; have := Tm.sz_pos t; omega
  | succ m ih =>
    intro t u v v' S S' w hm ht hu
    have IH := Lib.hid ih
    clear ih
    obtain ⟨k, n, s, ks⟩ := t
    obtain ⟨k', n', s', ks'⟩ := u
    obtain ⟨hs1, sv, rfl, hk⟩ := ht
    obtain ⟨hs2, sv', rfl, hk'⟩ := hu
    obtain ⟨a, cap, rfl, h1, h2, h3, h4⟩ := hk
    obtain ⟨a', cap', rfl, h1', h2', h3', h4'⟩ := hk'
    have H4 := Lib.hid h4
    have H4' := Lib.hid h4'
    have HM := Lib.hid hm
    clear h4 h4' hm
    cases e1 : (k == k')
    · have e1' : (k != k') = true := by simp [bne, e1]
      have hf := Lib.hid (show Tm.same (.mk k n s ks) (.mk k' n' s' ks') = false by simp only [Tm.same, e1, Bool.false_and])
      go_enter Tryz.func86, Tryz.ntmps86
      go_wp2_with fail
      go_ret
      exact ⟨retB hf.out.symm, (Ext.alloc _ _).trans (Ext.alloc _ _)⟩
    cases e2 : (n == n')
    · have e1' : (k != k') = false := by simp [bne, e1]
      have e2' : (n != n') = true := by simp [bne, e2]
      have hf := Lib.hid (show Tm.same (.mk k n s ks) (.mk k' n' s' ks') = false by simp only [Tm.same, e2, Bool.false_and, Bool.and_false])
      go_enter Tryz.func86, Tryz.ntmps86
      go_wp2_with fail
      go_ret
      exact ⟨retB hf.out.symm, (Ext.alloc _ _).trans (Ext.alloc _ _)⟩
    cases e3 : (s.toList == s'.toList)
    · have e1' : (k != k') = false := by simp [bne, e1]
      have e2' : (n != n') = false := by simp [bne, e2]
      have hf := Lib.hid (show Tm.same (.mk k n s ks) (.mk k' n' s' ks') = false by simp only [Tm.same, e3, Bool.false_and, Bool.and_false])
      go_enter Tryz.func86, Tryz.ntmps86
      go_wp2_with fail
      go_ret
      exact ⟨retB hf.out.symm, (Ext.alloc _ _).trans (Ext.alloc _ _)⟩
    have hq := Lib.hid (show Tm.same (.mk k n s ks) (.mk k' n' s' ks') = Tm.sameL ks ks' by simp only [Tm.same, e1, e2, e3, Bool.true_and])
    have e1' : (k != k') = false := by simp [bne, e1]
    have e2' : (n != n') = false := by simp [bne, e2]
    clear e1 e2
    by_cases e4 : ks.length = ks'.length
    · have E4 := Lib.hid e4
      have e4' : ((ks.length : Int) != (ks'.length : Int)) = false := by simp [bne, e4]
      clear e4
      go_enter Tryz.func86, Tryz.ntmps86
      go_wp2_with fail
      go_loopw [5] (fun i wr => ∃ k : Nat, k ≤ ks.length ∧ i = .int .i64 k ∧ SameTo k ks ks' ∧ Ext w wr ∧ wr.cell? ⟨w.heap.size, 3, none⟩ = some (.slice a ks.length cap) ∧ wr.cell? ⟨w.heap.size + 1, 3, none⟩ = some (.slice a' ks'.length cap')) (fun i _ => ks.length - (intOf i).toNat)
      case atStart => exact ⟨0, Nat.zero_le _, rfl, sameTo_zero _ _, (Ext.alloc _ _).trans (Ext.alloc _ _), by go_simp, by go_simp⟩
      case round =>
        obtain ⟨k, hk, rfl, hs, he, hb1, hb2⟩ := hrel
        have HS := Lib.hid hs
        clear hs
        by_cases hlt : k < ks.length
        · have hlt' : k < ks'.length := by have := E4.out; omega
          obtain ⟨tk, htk⟩ := getk hlt
          obtain ⟨uk, huk⟩ := getk hlt'
          have hdec : Tm.sz tk ≤ m := by have := kid_lt (k := 0) (n := 0) (s := s) htk; have := HM.out; simp only [Tm.sz] at *; omega
          rcases H4.out with h4 | ⟨b, off, rfl, hSb, hrow⟩
          · rw [h4] at hlt; simp at hlt
          rcases H4'.out with h4 | ⟨b', off', rfl, hSb', hrow'⟩
          · rw [h4] at hlt'; simp at hlt'
          obtain ⟨ak, ck, c1, c2, c3, c4, hat⟩ := Tm.at_of_cells (Tm.row_get hrow k tk htk)
          obtain ⟨ak', ck', d1, d2, d3, d4, hat'⟩ := Tm.at_of_cells (Tm.row_get hrow' k uk huk)
          have k1 := cell_regrown (he.cell c1)
          have k2 := cell_regrown (he.cell c2)
          have k3 := cell_regrown (he.cell c3)
          have k4 := cell_regrown (he.cell c4)
          have l1 := cell_regrown (he.cell d1)
          have l2 := cell_regrown (he.cell d2)
          have l3 := cell_regrown (he.cell d3)
          have l4 := cell_regrown (he.cell d4)
          have m1 := cell_regrown hb1
          have m2 := cell_regrown hb2
          have cQ := quiet_call (w := wr) (fun w' e' => IH.out tk uk _ _ S S' w' hdec (Tm.at_ext (he.trans e') hat) (Tm.at_ext (he.trans e') hat'))
          have Htk := Lib.hid htk
          have Huk := Lib.hid huk
          clear c1 c2 c3 c4 d1 d2 d3 d4 htk huk hrow hrow'
          cases hsm : Tm.same tk uk
          · rw [hsm] at cQ
            have hf := Lib.hid (sameL_no Htk.out Huk.out hsm)
            clear hsm
            go_wp2_with fail
            refine region_ext (by kernel_rfl) (by kernel_rfl) ?_
            repeat (quiet_step (exact cQ _ _))
            refine wpQuiet_nil ?_
            intro wq eq
            go_wp2_with fail
            go_ret
            exact ⟨retB (by rw [hq.out, hf.out]), he.trans eq⟩
          · rw [hsm] at cQ
            have hf := Lib.hid (sameTo_succ HS.out Htk.out Huk.out hsm)
            clear hsm
            go_wp2_with fail
            refine region_ext (by kernel_rfl) (by kernel_rfl) ?_
            repeat (quiet_step (exact cQ _ _))
            refine wpQuiet_nil ?_
            intro wq eq
            go_wp2_with fail
            go_roundw
            case rel => exact ⟨k + 1, by omega, by go_num, hf.out, he.trans eq, eq.cell hb1, eq.cell hb2⟩
            case measure => simp [intOf]; omega
        · have hf := Lib.hid (sameTo_all E4.out (by omega) HS.out)
          go_wp2_with fail
          go_ret
          exact ⟨retB (by rw [hq.out, hf.out]), he⟩
    · have e4' : ((ks.length : Int) != (ks'.length : Int)) = true := by simp [bne]; omega
      have hf := Lib.hid (show Tm.sameL ks ks' = false by cases h : Tm.sameL ks ks' with | false => rfl | true => exact absurd (sameL_len h) e4)
      clear e4
      go_enter Tryz.func86, Tryz.ntmps86
      go_wp2_with fail
      go_ret
      exact ⟨retB (by rw [hq.out, hf.out]), (Ext.alloc _ _).trans (Ext.alloc _ _)⟩

end Go.Proofs.YtognkaebiafgbaaGreatDoor
