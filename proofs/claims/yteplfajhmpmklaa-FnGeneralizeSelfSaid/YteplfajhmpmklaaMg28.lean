/-
  RenumberTerms on both sides.
-/
import Derived.Test.YteplfajhmpmklaaMg27
namespace Go.Proofs.Yteplfajhmpmklaa
open Go.RowKit
set_option linter.unusedVariables false

theorem owns_empty {F : Nat → Prop} {w : World} {b : Nat} (hb : b = w.heap.size) (hF : F b) : OwnS F [] (.slice (some ⟨b, 0, none⟩) 0 0) (w.alloc (.cells #[] 29)) := by
  subst hb
  refine ⟨[], ⟨rfl, .inr ⟨w.heap.size, 0, #[], rfl, Nat.zero_le _, ?_, by simp, by decide, rfl, rfl⟩⟩, by intro g hg; simp [Value.ownBlock] at hg; subst hg; exact hF, by simp [Tm.oflat]⟩
  show (w.heap.push _)[w.heap.size]? = _
  simp
def notV (t : Tm) : Bool := !validF t
theorem any_notV (ts : List Tm) : (!(ts.any notV)) = allVF ts := by
  unfold allVF
  induction ts with
  | nil => rfl
  | cons t ts ih =>
    simp only [List.any_cons, List.all_cons, Bool.not_or, ih, notV, Bool.not_not]
set_option maxHeartbeats 400000 in
theorem implallValid1 (t : Tm) (v : Value) (S : Nat → Prop) (w : World) (ht : Tm.at S w t v) :
    Calls Try.prog 86 #[v] w fun e w' => e = .returned (.bool (notV t)) ∧ Ext w w' := by
  have HT := Lib.hid (fun w' (e' : Ext w w') => implTermValid t v S w' (Tm.at_ext e' ht))
  obtain ⟨a, c, rfl⟩ := at_form ht
  clear ht
  go_enter Try.func86, Try.ntmps86
  go_wp2_with fail
  refine (HT.out _ (Ext.alloc _ _)).mono ?_
  rintro e w1 ⟨rfl, q⟩
  go_wp2_with fail
  go_ret
  exact ⟨rfl, (Ext.alloc _ _).trans q⟩
set_option maxHeartbeats 400000 in
theorem implallValid (ts : List Tm) (v : Value) (S : Nat → Prop) (w : World) (ht : Tm.sl S w ts v) :
    Calls Try.prog 54 #[v] w fun e w' => e = .returned (.bool (allVF ts)) ∧ Ext w w' := by
  have HT := Lib.hid (containsAny 86 notV (fun _ _ => by kernel_rfl) implallValid1 ts v S w ht)
  have HA := Lib.hid (any_notV ts)
  obtain ⟨a, cap, rfl, h1, h2, h3, h4⟩ := ht
  clear h4
  go_enter Try.func54, Try.ntmps54
  go_wp2_with fail
  refine HT.out.mono ?_
  rintro e w1 ⟨rfl, q⟩
  go_wp2_with fail
  go_ret
  exact ⟨retB HA.out, q⟩
/-- what RenumberTerms answers -/
def rnF (ts : List Tm) : List Tm := if allVF ts = true then renF ts else []
/-- a list of terms that shares nothing, and a sign -/
def LsBO (ts : List Tm) (b : Bool) (w : World) (e : Ending) (w' : World) : Prop := ∃ a c, e = .returned (.tuple #[.slice a ts.length c, .bool b]) ∧ OwnS (fun b => w.heap.size ≤ b) ts (.slice a ts.length c) w' ∧ Ext w w'

set_option maxHeartbeats 400000 in
theorem implRenumberTerms (ts : List Tm) (v : Value) (S : Nat → Prop) (w : World) (hl : allVF ts = true → Tm.szL ts ≤ 1048576) (ht : Tm.sl S w ts v) :
    Calls Try.prog 19 #[v] w (LsBO (rnF ts) (allVF ts) w) := by
  have HV := Lib.hid (implallValid ts v S w ht)
  have HR := Lib.hid (fun (h : allVF ts = true) w' (e' : Ext w w') => implrenumbered ts v S w' (hl h) (allV_shape h) (Tm.sl_ext e' ht))
  obtain ⟨a, cap, rfl, h1, h2, h3, h4⟩ := ht
  clear h4 hl
  cases hv : allVF ts
  · have HF : Hid (rnF ts = []) := Lib.hid (by unfold rnF; rw [hv]; rfl)
    have HA := Lib.hid hv
    clear hv
    go_enter Try.func19, Try.ntmps19
    go_wp2_with fail
    refine HV.out.mono ?_
    rw [HA.out]
    rintro e w1 ⟨rfl, q⟩
    go_wp2_with fail
    go_ret2
    rw [HF.out]
    exact ⟨none, 0, rfl, OwnS.nil _ _, q⟩
  · have HF : Hid (rnF ts = renF ts) := Lib.hid (by unfold rnF; rw [hv]; rfl)
    have HA := Lib.hid hv
    clear hv
    go_enter Try.func19, Try.ntmps19
    go_wp2_with fail
    refine HV.out.mono ?_
    rw [HA.out]
    rintro e w1 ⟨rfl, q⟩
    have hz := Below.size q
    have Q := Lib.hid q
    clear q
    go_wp2_with fail
    refine (HR.out HA.out _ Q.out).mono ?_
    rintro e w2 ⟨a2, c2, rfl, ho, q⟩
    have O := Lib.hid ho
    have Q2 := Lib.hid q
    clear ho q
    go_wp2_with fail
    go_ret2
    rw [HF.out]
    exact ⟨a2, c2, rfl, O.out.mono (M := fun _ => False) (fun b hb => by omega) (Fr.refl _ _) (fun _ _ h => h), Q.out.trans Q2.out⟩

/-- the first k terms are valid -/
def AllTo (k : Nat) (ts : List Tm) : Prop := ∀ (j : Nat) (t : Tm), j < k → ts[j]? = some t → validF t = true
theorem allTo_succ {k : Nat} {ts : List Tm} {t : Tm} (h : AllTo k ts) (ht : ts[k]? = some t) (hg : validF t = true) : AllTo (k + 1) ts := by
  intro j u hj hu
  by_cases e : j = k
  · subst e; rw [ht] at hu; cases hu; exact hg
  · exact h j u (by omega) hu
theorem allTo_all {k : Nat} {ts : List Tm} (h : AllTo k ts) (hk : ts.length ≤ k) : allVF ts = true := by
  unfold allVF
  rw [List.all_eq_true]
  intro t ht
  obtain ⟨j, hj⟩ := List.getElem?_of_mem ht
  exact h j t (by have := (List.getElem?_eq_some_iff.1 hj).1; omega) hj
theorem all_no {ts : List Tm} {j : Nat} {t : Tm} (h : ts[j]? = some t) (hg : validF t = false) : allVF ts = false := by
  unfold allVF
  rw [List.all_eq_false]
  exact ⟨t, List.mem_of_getElem? h, by rw [hg]; simp⟩




end Go.Proofs.Yteplfajhmpmklaa
