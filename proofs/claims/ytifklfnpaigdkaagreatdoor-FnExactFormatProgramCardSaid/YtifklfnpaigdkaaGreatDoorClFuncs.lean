/-
  IndexFunc and ContainsFunc over clauses: what they return, whatever the function that they are handed answers.
-/
import Derived.Test.YtifklfnpaigdkaaGreatDoorRows
import Derived.Test.YtifklfnpaigdkaaGreatDoorClRep
import Derived.WalkLawsBesides
import Derived.Laws.EntriesVeiled
namespace Go.Proofs.YtifklfnpaigdkaaGreatDoor
open Go.RowKit
set_option linter.unusedVariables false

theorem cgetk {ts : List Cl} {k : Nat} (h : k < ts.length) : ∃ t, ts[k]? = some t := ⟨ts[k], by simp [h]⟩
/-- one element of a row of clauses, read -/
theorem cget {S : Nat → Prop} {w : World} {cs : List Cl} {a : Option Addr} {k : Nat} {c : Cl}
    (h : cs = [] ∨ ∃ b off, a = some ⟨b, off, none⟩ ∧ S b ∧ Cl.row S w b off cs) (hc : cs[k]? = some c) :
    ∃ b off ak ck al cl, a = some ⟨b, off, none⟩ ∧
      w.cell? ⟨b, off + k * 5, none⟩ = some (.int .i64 c.head.kind) ∧ w.cell? ⟨b, off + k * 5 + 1, none⟩ = some (.int .i64 c.head.n) ∧ w.cell? ⟨b, off + k * 5 + 2, none⟩ = some (.string c.head.name) ∧
      w.cell? ⟨b, off + k * 5 + 3, none⟩ = some (.slice ak c.head.kids.length ck) ∧ w.cell? ⟨b, off + k * 5 + 4, none⟩ = some (.slice al c.body.length cl) ∧
      Cl.at S w c (.agg #[.int .i64 c.head.kind, .int .i64 c.head.n, .string c.head.name, .slice ak c.head.kids.length ck, .slice al c.body.length cl]) := by
  obtain ⟨b, off, ak, ck, al, cl, h1, h2, h3, h4, h5, h6, h7, h8⟩ := Cl.get h hc (Ext.refl w)
  exact ⟨b, off, ak, ck, al, cl, h1, h2, h3, h4, h5, h6, _, _, rfl, h7, h8⟩

/-- a step: the function answers b j at element j, and keeps the invariant -/
def FuncStepC (fid : FuncId) (caps : Array Value) (ts : List Cl) (S : Nat → Prop) (I : Nat → World → Prop) (b : Nat → Bool) : Prop :=
  ∀ (j : Nat) (t : Cl) (vt : Value) (w : World), ts[j]? = some t → (∀ i, i < j → b i = false) → I j w → Cl.at S w t vt → Calls Tryz.prog fid (#[vt] ++ caps) w fun e w' => e = .returned (.bool (b j)) ∧ I (j + 1) w'
def IndexPostC (n : Nat) (I : Nat → World → Prop) (b : Nat → Bool) (e : Ending) (w' : World) : Prop :=
  ((∃ j, j < n ∧ (∀ i, i < j → b i = false) ∧ b j = true ∧ e = .returned (.int .i64 j) ∧ I (j + 1) w') ∨ ((∀ i, i < n → b i = false) ∧ e = .returned (.int .i64 (-1)) ∧ I n w'))

set_option maxHeartbeats 1000000 in
theorem slicesIndexFuncC (fid : FuncId) (caps : Array Value) (ts : List Cl) (S : Nat → Prop) (I : Nat → World → Prop) (b : Nat → Bool) (v : Value) (w : World)
    (hcf : ∀ args w, Sem.run Tryz.prog (callFunc fid args) w = .ok (.enter fid args) w) (hstep : Hid (FuncStepC fid caps ts S I b)) (hI : Hid (∀ j w, I j w → Cl.sl S w ts v)) (h0 : Hid (I 0 w)) :
    Calls Tryz.prog 66 #[v, .func (.func fid) #[] caps] w (IndexPostC ts.length I b) := by
  obtain ⟨a, cap, rfl, h1, h2, h3, h4⟩ := hI.out 0 w h0.out
  clear h4
  go_enter Tryz.func66, Tryz.ntmps66
  go_wp2_with fail
  go_loopw [5, 8] (fun _ i wr => ∃ k : Nat, k ≤ ts.length ∧ i = .int .i64 k ∧ Hid (∀ i, i < k → b i = false) ∧ Hid (I k wr)) (fun _ i _ => ts.length - (intOf i).toNat)
  case atStart => exact ⟨0, Nat.zero_le _, rfl, fun i hi => absurd hi (by omega), h0⟩
  case round =>
    obtain ⟨k, hk, rfl, HB, HK⟩ := hrel
    by_cases hlt : k < ts.length
    · obtain ⟨tk, htk⟩ := cgetk hlt
      obtain ⟨a', cap', ha, _, _, _, h4⟩ := hI.out k wr HK.out
      cases ha
      obtain ⟨bb, off, ak, ck, al, cl, rfl, c1, c2, c3, c4, c5, hat⟩ := cget h4 htk
      have HC := Lib.hid (hstep.out k tk _ wr htk HB.out HK.out hat)
      clear h4 htk hat
      cases hb : b k
      all_goals
        rw [hb] at HC
        have Hb := Lib.hid hb
        clear hb
        go_wp2_with fail
        refine HC.out.mono ?_
        rintro e w' ⟨rfl, hk'⟩
        have HK' := Lib.hid hk'
        clear hk'
        go_wp2_with fail
        first
          | (go_ret; exact .inl ⟨k, hlt, HB.out, Hb.out, rfl, HK'.out⟩)
          | (go_roundw
             case rel => exact ⟨k + 1, by omega, by go_num, fun i hi => by
               by_cases e : i = k
               · rw [e]; exact Hb.out
               · exact HB.out i (by omega), HK'⟩
             case measure => simp [intOf]; omega)
    · go_wp2_with fail
      go_ret
      exact .inr ⟨fun i hi => HB.out i (by omega), rfl, by rw [show ts.length = k by omega]; exact HK.out⟩

def ContPostC (n : Nat) (I : Nat → World → Prop) (b : Nat → Bool) (e : Ending) (w' : World) : Prop :=
  ((∃ j, j < n ∧ (∀ i, i < j → b i = false) ∧ b j = true ∧ e = .returned (.bool true) ∧ I (j + 1) w') ∨ ((∀ i, i < n → b i = false) ∧ e = .returned (.bool false) ∧ I n w'))
set_option maxHeartbeats 1000000 in
theorem slicesContainsFuncC (fid : FuncId) (caps : Array Value) (ts : List Cl) (S : Nat → Prop) (I : Nat → World → Prop) (b : Nat → Bool) (v : Value) (w : World)
    (hcf : ∀ args w, Sem.run Tryz.prog (callFunc fid args) w = .ok (.enter fid args) w) (hstep : Hid (FuncStepC fid caps ts S I b)) (hI : Hid (∀ j w, I j w → Cl.sl S w ts v)) (h0 : Hid (I 0 w)) :
    Calls Tryz.prog 37 #[v, .func (.func fid) #[] caps] w (ContPostC ts.length I b) := by
  have HC := Lib.hid (slicesIndexFuncC fid caps ts S I b v w hcf hstep hI h0)
  obtain ⟨a, cap, rfl, h1, h2, h3, h4⟩ := hI.out 0 w h0.out
  clear h4 hcf
  go_enter Tryz.func37, Tryz.ntmps37
  go_wp2_with fail
  refine HC.out.mono ?_
  rintro e w' (⟨j, hj, hb, hbj, rfl, hI'⟩ | ⟨hb, rfl, hI'⟩)
  · have H1 := Lib.hid hb
    have H2 := Lib.hid hbj
    have H3 := Lib.hid hI'
    clear hb hbj hI'
    go_wp2_with fail
    go_ret
    exact .inl ⟨j, hj, H1.out, H2.out, rfl, H3.out⟩
  · have H1 := Lib.hid hb
    have H3 := Lib.hid hI'
    clear hb hI'
    go_wp2_with fail
    go_ret
    exact .inr ⟨H1.out, rfl, H3.out⟩

theorem cany_yes {f : Cl → Bool} {ts : List Cl} {j : Nat} {b : Nat → Bool} (hb : ∀ j t, ts[j]? = some t → b j = f t) (hj : j < ts.length) (h : b j = true) : ts.any f = true := by
  obtain ⟨t, ht⟩ := cgetk hj
  rw [hb j t ht] at h
  exact List.any_eq_true.2 ⟨t, List.mem_of_getElem? ht, h⟩
theorem cany_no {f : Cl → Bool} {ts : List Cl} {b : Nat → Bool} (hb : ∀ j t, ts[j]? = some t → b j = f t) (h : ∀ i, i < ts.length → b i = false) : ts.any f = false := by
  apply List.any_eq_false.2
  intro t ht
  obtain ⟨j, hj⟩ := List.getElem?_of_mem ht
  rw [← hb j t hj, h j (List.getElem?_eq_some_iff.1 hj).1]
  simp
/-- the test at an index -/
def atC (f : Cl → Bool) (ts : List Cl) (j : Nat) : Bool := match ts[j]? with | some t => f t | none => false
theorem atC_eq (f : Cl → Bool) (ts : List Cl) : ∀ j t, ts[j]? = some t → atC f ts j = f t := fun j t h => by unfold atC; rw [h]
theorem containsAnyC (fid : FuncId) (f : Cl → Bool) (hcf : ∀ args w, Sem.run Tryz.prog (callFunc fid args) w = .ok (.enter fid args) w)
    (hf : ∀ (t : Cl) (v : Value) (S : Nat → Prop) (w : World), Cl.at S w t v → Calls Tryz.prog fid #[v] w fun e w' => e = .returned (.bool (f t)) ∧ Ext w w')
    (ts : List Cl) (v : Value) (S : Nat → Prop) (w : World) (ht : Cl.sl S w ts v) :
    Calls Tryz.prog 37 #[v, .func (.func fid) #[] #[]] w fun e w' => e = .returned (.bool (ts.any f)) ∧ Ext w w' := by
  refine (slicesContainsFuncC fid #[] ts S (fun _ w' => Ext w w') (atC f ts) v w hcf (Lib.hid fun j t vt w' hj _ e hat => ?_) (Lib.hid fun j w' e => Cl.sl_ext e ht) (Lib.hid (Ext.refl w))).mono ?_
  · refine (hf t vt S w' hat).mono ?_
    rintro e' w'' ⟨rfl, e2⟩
    exact ⟨by rw [atC_eq f ts j t hj], e.trans e2⟩
  · rintro e w' (⟨j, hj, hb, hbj, rfl, hI⟩ | ⟨hb, rfl, hI⟩)
    · exact ⟨retB (cany_yes (atC_eq f ts) hj hbj).symm, hI⟩
    · exact ⟨retB (cany_no (atC_eq f ts) hb).symm, hI⟩

end Go.Proofs.YtifklfnpaigdkaaGreatDoor
