/-
  ContainsFunc over terms with a plain test.
-/
import Derived.Test.YtifklfnpaigdkaaGreatDoorFuncs
import Derived.Test.YtifklfnpaigdkaaGreatDoorSpecValid
namespace Go.Proofs.YtifklfnpaigdkaaGreatDoor
open Go.RowKit
set_option linter.unusedVariables false

theorem any_yes {f : Tm → Bool} {ts : List Tm} {j : Nat} {b : Nat → Bool} (hb : ∀ j t, ts[j]? = some t → b j = f t) (hj : j < ts.length) (h : b j = true) : ts.any f = true := by
  obtain ⟨t, ht⟩ := getk hj
  rw [hb j t ht] at h
  exact List.any_eq_true.2 ⟨t, List.mem_of_getElem? ht, h⟩
theorem any_no {f : Tm → Bool} {ts : List Tm} {b : Nat → Bool} (hb : ∀ j t, ts[j]? = some t → b j = f t) (h : ∀ i, i < ts.length → b i = false) : ts.any f = false := by
  apply List.any_eq_false.2
  intro t ht
  obtain ⟨j, hj⟩ := List.getElem?_of_mem ht
  rw [← hb j t hj, h j (List.getElem?_eq_some_iff.1 hj).1]
  simp
/-- the test at an index -/
def atT (f : Tm → Bool) (ts : List Tm) (j : Nat) : Bool := match ts[j]? with | some t => f t | none => false
theorem atT_eq (f : Tm → Bool) (ts : List Tm) : ∀ j t, ts[j]? = some t → atT f ts j = f t := fun j t h => by unfold atT; rw [h]

theorem containsAny (fid : FuncId) (f : Tm → Bool) (hcf : ∀ args w, Sem.run Tryz.prog (callFunc fid args) w = .ok (.enter fid args) w)
    (hf : ∀ (t : Tm) (v : Value) (S : Nat → Prop) (w : World), Tm.at S w t v → Calls Tryz.prog fid #[v] w fun e w' => e = .returned (.bool (f t)) ∧ Ext w w')
    (ts : List Tm) (v : Value) (S : Nat → Prop) (w : World) (ht : Tm.sl S w ts v) :
    Calls Tryz.prog 57 #[v, .func (.func fid) #[] #[]] w fun e w' => e = .returned (.bool (ts.any f)) ∧ Ext w w' := by
  refine (slicesContainsFunc fid #[] ts S (fun _ w' => Ext w w') (atT f ts) v w hcf (Lib.hid fun j t vt w' hj _ e hat => ?_) (Lib.hid fun j w' e => Tm.sl_ext e ht) (Lib.hid (Ext.refl w))).mono ?_
  · refine (hf t vt S w' hat).mono ?_
    rintro e' w'' ⟨rfl, e2⟩
    exact ⟨by rw [atT_eq f ts j t hj], e.trans e2⟩
  · rintro e w' (⟨j, hj, hb, hbj, rfl, hI⟩ | ⟨hb, rfl, hI⟩)
    · exact ⟨retB (any_yes (atT_eq f ts) hj hbj).symm, hI⟩
    · exact ⟨retB (any_no (atT_eq f ts) hb).symm, hI⟩

end Go.Proofs.YtifklfnpaigdkaaGreatDoor
