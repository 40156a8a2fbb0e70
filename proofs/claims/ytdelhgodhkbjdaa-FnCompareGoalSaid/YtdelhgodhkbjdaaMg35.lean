/-
  What the functions on kinds of goals return on every term (isAtom, isCut, isBuilt, isPlain, GoalValid, compares, CompareGoal and the reference's).
-/
import Derived.Test.YtdelhgodhkbjdaaMg9
import Derived.Test.YtdelhgodhkbjdaaMg32
import Derived.Test.YtdelhgodhkbjdaaMg4
import Derived.Test.YtdelhgodhkbjdaaMg34
namespace Go.Proofs.Ytdelhgodhkbjdaa
open Go.RowKit Go.Sort
set_option linter.unusedVariables false


def atomF (k : Int) (len : Nat) : Bool := (k == 3) && ((len : Int) == 0)
def cutF (k : Int) (s : ByteArray) (len : Nat) : Bool := (k == 3) && (s.toList == [33]) && ((len : Int) == 0)
def builtF (k : Int) (s : ByteArray) (len : Nat) : Bool := (k == 3) && isBuiltinF s.toList len
def plainF (k : Int) (s : ByteArray) (len : Nat) : Bool := (k == 3) && wordF s.toList && !(decide (0 < opLevelF s.toList)) && !isBuiltinF s.toList len
def five : List ByteArray := [⟨#[60]⟩, ⟨#[62]⟩, ⟨#[61, 60]⟩, ⟨#[62, 61]⟩, ⟨#[61, 58, 61]⟩]
def cmpGF (k : Int) (s : ByteArray) (len : Nat) : Bool := (k == 3) && ((len : Int) == 2) && hasF five s
def goalF : Tm → Bool | .mk k n s ks => validF (.mk k n s ks) && (cutF k s ks.length || plainF k s ks.length || builtF k s ks.length)
theorem size_ext {W w1 : World} {n : Nat} (h : Ext W w1) (hn : n < W.heap.size) : n < w1.heap.size := Nat.lt_of_lt_of_le hn (Below.size h)
theorem opLevel_nn (s : List UInt8) : 0 ≤ opLevelF s := by unfold opLevelF; repeat' split <;> omega
theorem op0 (s : List UInt8) : (opLevelF s == 0) = !decide (0 < opLevelF s) := by
  have := opLevel_nn s
  by_cases h : opLevelF s = 0
  · rw [h]; rfl
  · rw [decide_eq_true (by omega)]; simpa using h

theorem implIsBuiltin_x (s : ByteArray) (n : Int) (w : World) : Calls Try.prog 71 #[.string s, .int .i64 n] w fun e w' => e = .returned (.bool (isBuiltinF s.toList n)) ∧ Ext w w' := (implIsBuiltin s n w).mono fun e w' ⟨h, h'⟩ => ⟨h, h' ▸ Ext.refl w⟩
theorem specIsBuiltin_x (s : ByteArray) (n : Int) (w : World) : Calls Try.prog 43 #[.string s, .int .i64 n] w fun e w' => e = .returned (.bool (isBuiltinF s.toList n)) ∧ Ext w w' := (specIsBuiltin s n w).mono fun e w' ⟨h, h'⟩ => ⟨h, h' ▸ Ext.refl w⟩
theorem implisLetters_x (s : ByteArray) (w : World) (hs : s.size ≤ 1048576) : Calls Try.prog 103 #[.string s] w fun e w' => e = .returned (.bool (wordF s.toList)) ∧ Ext w w' := (implisLetters s w hs).mono fun e w' ⟨h, h'⟩ => ⟨h, h' ▸ Ext.refl w⟩
theorem specl1Word_x (s : ByteArray) (w : World) (hs : s.size ≤ 1048576) : Calls Try.prog 116 #[.string s] w fun e w' => e = .returned (.bool (wordF s.toList)) ∧ Ext w w' := (specl1Word s w hs).mono fun e w' ⟨h, h'⟩ => ⟨h, h' ▸ Ext.refl w⟩
theorem specl2Level_x (s : ByteArray) (w : World) : Calls Try.prog 91 #[.string s] w fun e w' => e = .returned (.int .i64 (opLevelF s.toList)) ∧ Ext w w' := (specl2Level s w).mono fun e w' ⟨h, h'⟩ => ⟨h, h' ▸ Ext.refl w⟩
set_option maxHeartbeats 1000000 in
theorem specl5Compares (s : ByteArray) (w : World) : Calls Try.prog 51 #[.string s] w fun e w' => e = .returned (.bool (hasF five s)) ∧ Ext w w' := by
  have hq : hasF five s = ((s.toList == [60]) || (s.toList == [62]) || (s.toList == [61, 60]) || (s.toList == [62, 61]) || (s.toList == [61, 58, 61])) := by
    have e (l : List UInt8) : (l == s.toList) = (s.toList == l) := bq _ _
    show (five.any fun x => x.toList == s.toList) = _
    have e1 : (⟨#[60]⟩ : ByteArray).toList = [60] := by rw [ByteArray.toList_eq]
    have e2 : (⟨#[62]⟩ : ByteArray).toList = [62] := by rw [ByteArray.toList_eq]
    have e3 : (⟨#[61, 60]⟩ : ByteArray).toList = [61, 60] := by rw [ByteArray.toList_eq]
    have e4 : (⟨#[62, 61]⟩ : ByteArray).toList = [62, 61] := by rw [ByteArray.toList_eq]
    have e5 : (⟨#[61, 58, 61]⟩ : ByteArray).toList = [61, 58, 61] := by rw [ByteArray.toList_eq]
    simp only [five, List.any_cons, List.any_nil, e1, e2, e3, e4, e5, e, Bool.or_false, Bool.or_assoc]
  by_cases h1 : s.toList = [60]
  · have HQ := Lib.hid (show hasF five s = true by rw [hq]; simp [h1])
    clear hq
    go_enter Try.func51, Try.ntmps51
    go_wp2_with fail
    go_ret
    exact ⟨retB HQ.out.symm, Ext.refl _⟩
  by_cases h2 : s.toList = [62]
  · have HQ := Lib.hid (show hasF five s = true by rw [hq]; simp [h2])
    clear hq h1
    go_enter Try.func51, Try.ntmps51
    go_wp2_with fail
    go_ret
    exact ⟨retB HQ.out.symm, Ext.refl _⟩
  by_cases h3 : s.toList = [61, 60]
  · have HQ := Lib.hid (show hasF five s = true by rw [hq]; simp [h3])
    clear hq h1 h2
    go_enter Try.func51, Try.ntmps51
    go_wp2_with fail
    go_ret
    exact ⟨retB HQ.out.symm, Ext.refl _⟩
  by_cases h4 : s.toList = [62, 61]
  · have HQ := Lib.hid (show hasF five s = true by rw [hq]; simp [h4])
    clear hq h1 h2 h3
    go_enter Try.func51, Try.ntmps51
    go_wp2_with fail
    go_ret
    exact ⟨retB HQ.out.symm, Ext.refl _⟩
  have g1 : (s.toList == [60]) = false := by simpa using h1
  have g2 : (s.toList == [62]) = false := by simpa using h2
  have g3 : (s.toList == [61, 60]) = false := by simpa using h3
  have g4 : (s.toList == [62, 61]) = false := by simpa using h4
  have HQ := Lib.hid (show hasF five s = (s.toList == [61, 58, 61]) by rw [hq, g1, g2, g3, g4]; simp)
  clear hq h1 h2 h3 h4
  go_enter Try.func51, Try.ntmps51
  go_wp2_with fail
  go_ret
  exact ⟨retB HQ.out.symm, Ext.refl _⟩

set_option maxRecDepth 100000 in
set_option maxHeartbeats 2000000 in
theorem implisAtom (k n : Int) (s : ByteArray) (ks : List Tm) (v : Value) (S : Nat → Prop) (w : World) (ht : Tm.at S w (.mk k n s ks) v) :
    Calls Try.prog 76 #[v] w fun e w' => e = .returned (.bool (atomF k ks.length)) ∧ Ext w w' := by
  obtain ⟨hs1, sv, rfl, a, cap, rfl, h1, h2, h3, h4⟩ := Tm.at_iff.1 ht
  have HT := Lib.hid ht
  clear h4 ht
  simp only [Tm.kind, Tm.n, Tm.name, Tm.kids] at *
  by_cases hk : k = 3
  · subst hk
    go_enter Try.func76, Try.ntmps76
    go_wp2_with (fail)
    all_goals
      go_ret
      exact ⟨retB (by simp_all [atomF]), by first | exact ((((Ext.alloc _ _).trans e1).trans e2).trans e3).trans e4 | exact Ext.alloc _ _ | exact (Ext.alloc _ _).trans e1 | exact ((Ext.alloc _ _).trans e1).trans e2 | exact (((Ext.alloc _ _).trans e1).trans e2).trans e3 | exact (((Ext.alloc _ _).trans e1).trans (Ext.alloc _ _)).trans e2 | exact ((Ext.alloc _ _).trans (Ext.alloc _ _)).trans e1⟩
  · have hk1 : (k == 3) = false := by simp [hk]
    clear hk
    go_enter Try.func76, Try.ntmps76
    go_wp2_with (fail)
    all_goals
      go_ret
      exact ⟨retB (by simp_all [atomF]), by first | exact ((((Ext.alloc _ _).trans e1).trans e2).trans e3).trans e4 | exact Ext.alloc _ _ | exact (Ext.alloc _ _).trans e1 | exact ((Ext.alloc _ _).trans e1).trans e2 | exact (((Ext.alloc _ _).trans e1).trans e2).trans e3 | exact (((Ext.alloc _ _).trans e1).trans (Ext.alloc _ _)).trans e2 | exact ((Ext.alloc _ _).trans (Ext.alloc _ _)).trans e1⟩


set_option maxRecDepth 100000 in
set_option maxHeartbeats 2000000 in
theorem implisBuilt (k n : Int) (s : ByteArray) (ks : List Tm) (v : Value) (S : Nat → Prop) (w : World) (ht : Tm.at S w (.mk k n s ks) v) :
    Calls Try.prog 38 #[v] w fun e w' => e = .returned (.bool (builtF k s ks.length)) ∧ Ext w w' := by
  obtain ⟨hs1, sv, rfl, a, cap, rfl, h1, h2, h3, h4⟩ := Tm.at_iff.1 ht
  have HT := Lib.hid ht
  clear h4 ht
  simp only [Tm.kind, Tm.n, Tm.name, Tm.kids] at *
  by_cases hk : k = 3
  · subst hk
    go_enter Try.func38, Try.ntmps38
    go_wp2_with (first | (go_at_call 71; refine (implIsBuiltin_x _ _ _).mono ?_; rintro e w1 ⟨rfl, e1⟩; have hc1 := ext_cells e1; have hz1 : w.heap.size < w1.heap.size := size_ext e1 (by first | assumption | simp | (simp; omega))))
    all_goals
      go_ret
      exact ⟨retB (by simp_all [builtF]), by first | exact ((((Ext.alloc _ _).trans e1).trans e2).trans e3).trans e4 | exact Ext.alloc _ _ | exact (Ext.alloc _ _).trans e1 | exact ((Ext.alloc _ _).trans e1).trans e2 | exact (((Ext.alloc _ _).trans e1).trans e2).trans e3 | exact (((Ext.alloc _ _).trans e1).trans (Ext.alloc _ _)).trans e2 | exact ((Ext.alloc _ _).trans (Ext.alloc _ _)).trans e1⟩
  · have hk1 : (k == 3) = false := by simp [hk]
    clear hk
    go_enter Try.func38, Try.ntmps38
    go_wp2_with (first | (go_at_call 71; refine (implIsBuiltin_x _ _ _).mono ?_; rintro e w1 ⟨rfl, e1⟩; have hc1 := ext_cells e1; have hz1 : w.heap.size < w1.heap.size := size_ext e1 (by first | assumption | simp | (simp; omega))))
    all_goals
      go_ret
      exact ⟨retB (by simp_all [builtF]), by first | exact ((((Ext.alloc _ _).trans e1).trans e2).trans e3).trans e4 | exact Ext.alloc _ _ | exact (Ext.alloc _ _).trans e1 | exact ((Ext.alloc _ _).trans e1).trans e2 | exact (((Ext.alloc _ _).trans e1).trans e2).trans e3 | exact (((Ext.alloc _ _).trans e1).trans (Ext.alloc _ _)).trans e2 | exact ((Ext.alloc _ _).trans (Ext.alloc _ _)).trans e1⟩







end Go.Proofs.Ytdelhgodhkbjdaa

/-
  What compares and CompareGoal (the program's and the reference's) return on every term.
-/
namespace Go.Proofs.Ytdelhgodhkbjdaa
open Go.RowKit Go.Sort
set_option linter.unusedVariables false

theorem five_new (w : World) (T : Nat) : StrsAt (w.alloc (.cells #[.string ⟨#[60]⟩, .string ⟨#[62]⟩, .string ⟨#[61, 60]⟩, .string ⟨#[62, 61]⟩, .string ⟨#[61, 58, 61]⟩] T)) five (.slice (some ⟨w.heap.size, 0, none⟩) 5 5) := by
  refine ⟨_, _, rfl, by decide, by decide, by decide, .inr ⟨w.heap.size, 0, rfl, fun i s h => ?_⟩⟩
  have hi : i < 5 := by
    have := (List.getElem?_eq_some_iff.1 h).1
    simpa [five] using this
  revert s
  rcases i with _ | _ | _ | _ | _ | i
  all_goals first | omega | (intro s h; simp [five] at h; subst h; exact cell_new _ _ _ _ _ rfl)

set_option maxRecDepth 100000 in
set_option maxHeartbeats 2000000 in
theorem implcompares (k n : Int) (s : ByteArray) (ks : List Tm) (v : Value) (S : Nat → Prop) (w : World) (ht : Tm.at S w (.mk k n s ks) v) :
    Calls Try.prog 50 #[v] w fun e w' => e = .returned (.bool (cmpGF k s ks.length)) ∧ Ext w w' := by
  obtain ⟨hs1, sv, rfl, a, cap, rfl, h1, h2, h3, h4⟩ := Tm.at_iff.1 ht
  clear h4 ht
  simp only [Tm.kind, Tm.n, Tm.name, Tm.kids] at *
  by_cases hk : k = 3
  · subst hk
    by_cases hl : ks.length = 2
    · have hl1 : ((ks.length : Int) == 2) = true := by simp [hl]
      have HF := Lib.hid (show cmpGF 3 s ks.length = hasF five s by unfold cmpGF; rw [hl1]; rfl)
      clear hl
      go_enter Try.func50, Try.ntmps50
      go_wp2_with fail
      refine (slicesContainsS five _ s _ ?_).mono ?_
      · have h := five_new (w.alloc (.cells #[.int .i64 3, .int .i64 n, .string s, .slice a ks.length cap] 25)) 9
        simpa using h
      rintro e w1 ⟨rfl, rfl⟩
      go_wp2_with fail
      go_ret
      exact ⟨retB HF.out.symm, (Ext.alloc _ _).trans (Ext.alloc _ _)⟩
    · have hl1 : ((ks.length : Int) == 2) = false := by simp; omega
      have HF := Lib.hid (show cmpGF 3 s ks.length = false by unfold cmpGF; rw [hl1]; rfl)
      clear hl
      go_enter Try.func50, Try.ntmps50
      go_wp2_with fail
      go_ret
      exact ⟨retB HF.out.symm, by first | exact Ext.alloc _ _ | exact (Ext.alloc _ _).trans (Ext.alloc _ _)⟩
  · have hk1 : (k == 3) = false := by simp [hk]
    have HF := Lib.hid (show cmpGF k s ks.length = false by unfold cmpGF; rw [hk1]; rfl)
    clear hk
    go_enter Try.func50, Try.ntmps50
    go_wp2_with fail
    go_ret
    exact ⟨retB HF.out.symm, by first | exact Ext.alloc _ _ | exact (Ext.alloc _ _).trans (Ext.alloc _ _)⟩

def cmpGoalF : Tm → Bool | .mk k n s ks => validF (.mk k n s ks) && cmpGF k s ks.length

set_option maxRecDepth 100000 in
set_option maxHeartbeats 2000000 in
theorem implCompareGoal (t : Tm) (v : Value) (S : Nat → Prop) (w : World) (ht : Tm.at S w t v) :
    Calls Try.prog 16 #[v] w fun e w' => e = .returned (.bool (cmpGoalF t)) ∧ Ext w w' := by
  obtain ⟨k, n, s, ks⟩ := t
  have HT := Lib.hid ht
  obtain ⟨hs1, sv, rfl, a, cap, rfl, h1, h2, h3, h4⟩ := Tm.at_iff.1 ht
  clear h4 ht
  simp only [Tm.kind, Tm.n, Tm.name, Tm.kids] at *
  cases hv : validF (.mk k n s ks)
  · have HV := Lib.hid hv
    have HF := Lib.hid (show cmpGoalF (.mk k n s ks) = false by show (validF (.mk k n s ks) && cmpGF k s ks.length) = _; rw [hv]; rfl)
    clear hv
    go_enter Try.func16, Try.ntmps16
    go_wp2_with fail
    refine (implTermValid (.mk k n s ks) _ S _ (Tm.at_ext (Ext.alloc _ _) HT.out)).mono ?_
    rw [HV.out]
    rintro e w1 ⟨rfl, e1⟩
    go_wp2_with fail
    go_ret
    exact ⟨retB HF.out.symm, (Ext.alloc _ _).trans e1⟩
  · have HV := Lib.hid hv
    have HF := Lib.hid (show cmpGoalF (.mk k n s ks) = cmpGF k s ks.length by show (validF (.mk k n s ks) && cmpGF k s ks.length) = _; rw [hv]; rfl)
    clear hv
    go_enter Try.func16, Try.ntmps16
    go_wp2_with fail
    refine (implTermValid (.mk k n s ks) _ S _ (Tm.at_ext (Ext.alloc _ _) HT.out)).mono ?_
    rw [HV.out]
    rintro e w1 ⟨rfl, e1⟩
    have hc1 := ext_cells e1
    have hz1 : w.heap.size < w1.heap.size := size_ext e1 (by simp)
    have E1 := Lib.hid ((Ext.alloc _ _).trans e1)
    clear e1
    go_wp2_with fail
    refine (implcompares k n s ks _ S _ (Tm.at_ext E1.out HT.out)).mono ?_
    rintro e w2 ⟨rfl, e2⟩
    go_wp2_with fail
    go_ret
    exact ⟨retB HF.out.symm, E1.out.trans e2⟩

set_option maxRecDepth 100000 in
set_option maxHeartbeats 2000000 in
theorem specCompareGoal (t : Tm) (v : Value) (S : Nat → Prop) (w : World) (ht : Tm.at S w t v) :
    Calls Try.prog 17 #[v] w fun e w' => e = .returned (.bool (cmpGoalF t)) ∧ Ext w w' := by
  obtain ⟨k, n, s, ks⟩ := t
  have HT := Lib.hid ht
  obtain ⟨hs1, sv, rfl, a, cap, rfl, h1, h2, h3, h4⟩ := Tm.at_iff.1 ht
  clear h4 ht
  simp only [Tm.kind, Tm.n, Tm.name, Tm.kids] at *
  cases hv : validF (.mk k n s ks)
  · have HV := Lib.hid hv
    have HF := Lib.hid (show cmpGoalF (.mk k n s ks) = false by show (validF (.mk k n s ks) && cmpGF k s ks.length) = _; rw [hv]; rfl)
    clear hv
    go_enter Try.func17, Try.ntmps17
    go_wp2_with fail
    refine (specTermValid (.mk k n s ks) _ S _ (Tm.at_ext (Ext.alloc _ _) HT.out)).mono ?_
    rw [HV.out]
    rintro e w1 ⟨rfl, e1⟩
    go_wp2_with fail
    go_ret
    exact ⟨retB HF.out.symm, (Ext.alloc _ _).trans e1⟩
  · have HV := Lib.hid hv
    have HF := Lib.hid (show cmpGoalF (.mk k n s ks) = cmpGF k s ks.length by show (validF (.mk k n s ks) && cmpGF k s ks.length) = _; rw [hv]; rfl)
    clear hv
    go_enter Try.func17, Try.ntmps17
    go_wp2_with fail
    refine (specTermValid (.mk k n s ks) _ S _ (Tm.at_ext (Ext.alloc _ _) HT.out)).mono ?_
    rw [HV.out]
    rintro e w1 ⟨rfl, e1⟩
    have hc1 := ext_cells e1
    have hz1 : w.heap.size < w1.heap.size := size_ext e1 (by simp)
    have E1 := Lib.hid ((Ext.alloc _ _).trans e1)
    clear e1
    by_cases hk : k = 3
    · subst hk
      by_cases hl : ks.length = 2
      · have hl1 : ((ks.length : Int) == 2) = true := by simp [hl]
        have HG := Lib.hid (show cmpGF 3 s ks.length = hasF five s by unfold cmpGF; rw [hl1]; rfl)
        clear hl
        go_wp2_with fail
        refine (specl5Compares s _).mono ?_
        rintro e w2 ⟨rfl, e2⟩
        go_wp2_with fail
        go_ret
        exact ⟨retB (by rw [HF.out, HG.out]), E1.out.trans e2⟩
      · have hl1 : ((ks.length : Int) == 2) = false := by simp; omega
        have HG := Lib.hid (show cmpGF 3 s ks.length = false by unfold cmpGF; rw [hl1]; rfl)
        clear hl
        go_wp2_with fail
        go_ret
        exact ⟨retB (by rw [HF.out, HG.out]), E1.out⟩
    · have hk1 : (k == 3) = false := by simp [hk]
      have HG := Lib.hid (show cmpGF k s ks.length = false by unfold cmpGF; rw [hk1]; rfl)
      clear hk
      go_wp2_with fail
      go_ret
      exact ⟨retB (by rw [HF.out, HG.out]), E1.out⟩

end Go.Proofs.Ytdelhgodhkbjdaa

/-
  Goals that are built in, plain: their codes and what variables stand for then.
-/
namespace Go.Proofs.Ytdelhgodhkbjdaa
open Go.RowKit
set_option linter.unusedVariables false

def holdsN (b : Bool) : Int := if b = true then 0 else 1
def kidAt (ks : List Tm) (i : Nat) : Tm := (ks[i]?).getD zeroT
def intT (n : Int) : Tm := .mk 2 n ⟨#[]⟩ []
theorem arF_shape {t : Tm} {d : Nat} (h : shapeF t d = true) {m code : Int} (hm : arF t = (m, code)) : shapeF (intT m) 29 = true := by
  have := ar_bd t d h
  rw [hm] at this
  simp only at this
  unfold intT
  simp only [shapeF, shapeL, ownF]
  simp
  omega
def cmpN (s : List UInt8) (a b : Int) : Bool :=
  if s = [60] then decide (a < b) else if s = [62] then decide (b < a) else if s = [61, 60] then decide (a ≤ b) else if s = [62, 61] then decide (b ≤ a) else a == b
def cmpR (s : List UInt8) (x y : Tm) : Int :=
  if (arF x).2 ≠ 0 then (arF x).2 else if (arF y).2 ≠ 0 then (arF y).2 else holdsN (cmpN s (arF x).1 (arF y).1)
noncomputable def isR (x y : Tm) : Int × List Tm := if (arF y).2 ≠ 0 then ((arF y).2, known0) else (holdsN (uniR x (intT (arF y).1)).1, (uniR x (intT (arF y).1)).2)
noncomputable def argR (x y z : Tm) : Int × List Tm :=
  if x.kind = 1 ∨ y.kind = 1 then (2, known0) else if x.kind ≠ 2 ∨ y.kind ≠ 3 ∨ y.kids.length = 0 then (3, known0) else if ¬ (1 ≤ x.n ∧ x.n ≤ y.kids.length) then (1, known0) else (holdsN (uniR z (kidAt y.kids (x.n - 1).toNat)).1, (uniR z (kidAt y.kids (x.n - 1).toNat)).2)
/-- the code and the bindings -/
noncomputable def callR (s : List UInt8) (ks : List Tm) : Int × List Tm :=
  if s = [61] then (holdsN (uniR (kidAt ks 0) (kidAt ks 1)).1, (uniR (kidAt ks 0) (kidAt ks 1)).2)
  else if s = [92, 61] then (holdsN (!(uniR (kidAt ks 0) (kidAt ks 1)).1), known0)
  else if s = [61, 61] then (holdsN (Tm.same (kidAt ks 0) (kidAt ks 1)), known0)
  else if s = [105, 115] then isR (kidAt ks 0) (kidAt ks 1)
  else if s = [116, 114, 117, 101] then (0, known0)
  else if s = [102, 97, 105, 108] then (1, known0)
  else if s = [118, 97, 114] then (holdsN ((kidAt ks 0).kind == 1), known0)
  else if s = [110, 111, 110, 118, 97, 114] then (holdsN ((kidAt ks 0).kind != 1), known0)
  else if s = [97, 116, 111, 109] then (holdsN (atomF (kidAt ks 0).kind (kidAt ks 0).kids.length), known0)
  else if s = [105, 110, 116] then (holdsN ((kidAt ks 0).kind == 2), known0)
  else if s = [97, 114, 103] then argR (kidAt ks 0) (kidAt ks 1) (kidAt ks 2)
  else (cmpR s (kidAt ks 0) (kidAt ks 1), known0)
def gbF (g : Tm) : Bool := validF g && builtF g.kind g.name g.kids.length
/-- the code that CallBuiltin returns -/
noncomputable def cbN (g : Tm) : Int :=
  if gbF g = true then (if (callR g.name.toList g.kids).1 ≠ 0 then (callR g.name.toList g.kids).1 else if okU (callR g.name.toList g.kids).2 26 = true then 0 else 5) else 6
noncomputable def cbR (g : Tm) : List Bd :=
  if gbF g = true ∧ (callR g.name.toList g.kids).1 = 0 ∧ okU (callR g.name.toList g.kids).2 26 = true then bdsU (callR g.name.toList g.kids).2 26 else []
theorem cbR_no {g : Tm} (h : cbN g ≠ 0) : cbR g = [] := by
  unfold cbR
  rw [if_neg]
  rintro ⟨h1, h2, h3⟩
  apply h
  unfold cbN
  rw [if_pos h1, if_neg (by simp [h2]), if_pos h3]
/-- what solving a goal leaves -/
def CallQ (S : Nat → Prop) (sb mb : Nat) (r : Int × List Tm) (w : World) (e : Ending) (w' : World) : Prop :=
  e = .returned (.int .i64 r.1) ∧ Fr (fun k => k = sb ∨ k = mb) w w' ∧ (r.1 = 0 → Sto S w' sb mb r.2)
theorem kidAt_get {ks : List Tm} {i : Nat} {t : Tm} (h : ks[i]? = some t) : kidAt ks i = t := by unfold kidAt; rw [h]; rfl
end Go.Proofs.Ytdelhgodhkbjdaa
