/-
  IndexFunc and ContainsFunc over terms: what they return, whatever the function that they are handed answers.
-/
import Derived.Test.YtifklfnpaigdkaaDoorRows
import Derived.Test.YtifklfnpaigdkaaDoorSame
import Derived.WalkLawsBesides
import Derived.Laws.EntriesVeiled
namespace Go.Proofs.YtifklfnpaigdkaaDoor
open Go.RowKit
set_option linter.unusedVariables false

/-- one element of a row of terms, read -/
theorem tget {S : Nat → Prop} {w : World} {ts : List Tm} {a : Option Addr} {k : Nat} {t : Tm}
    (h : ts = [] ∨ ∃ b off, a = some ⟨b, off, none⟩ ∧ S b ∧ Tm.row S w b off ts) (ht : ts[k]? = some t) :
    ∃ b off ak ck, a = some ⟨b, off, none⟩ ∧ S b ∧
      w.cell? ⟨b, off + k * 4, none⟩ = some (.int .i64 t.kind) ∧ w.cell? ⟨b, off + k * 4 + 1, none⟩ = some (.int .i64 t.n) ∧ w.cell? ⟨b, off + k * 4 + 2, none⟩ = some (.string t.name) ∧
        w.cell? ⟨b, off + k * 4 + 3, none⟩ = some (.slice ak t.kids.length ck) ∧ Tm.at S w t (.agg #[.int .i64 t.kind, .int .i64 t.n, .string t.name, .slice ak t.kids.length ck]) := by
  rcases h with h4 | ⟨b, off, rfl, hSb, hrow⟩
  · rw [h4] at ht; simp at ht
  obtain ⟨ak, ck, c1, c2, c3, c4, hat⟩ := Tm.at_of_cells (Tm.row_get hrow k t ht)
  exact ⟨b, off, ak, ck, rfl, hSb, c1, c2, c3, c4, hat⟩

/-- a step: the function answers b j at element j, and keeps the invariant -/
def FuncStep (fid : FuncId) (caps : Array Value) (ts : List Tm) (S : Nat → Prop) (I : Nat → World → Prop) (b : Nat → Bool) : Prop :=
  ∀ (j : Nat) (t : Tm) (vt : Value) (w : World), ts[j]? = some t → (∀ i, i < j → b i = false) → I j w → Tm.at S w t vt → Calls Tryd.prog fid (#[vt] ++ caps) w fun e w' => e = .returned (.bool (b j)) ∧ I (j + 1) w'
def IndexPost (n : Nat) (I : Nat → World → Prop) (b : Nat → Bool) (e : Ending) (w' : World) : Prop :=
  ((∃ j, j < n ∧ (∀ i, i < j → b i = false) ∧ b j = true ∧ e = .returned (.int .i64 j) ∧ I (j + 1) w') ∨ ((∀ i, i < n → b i = false) ∧ e = .returned (.int .i64 (-1)) ∧ I n w'))

set_option maxHeartbeats 1000000 in
theorem slicesIndexFunc (fid : FuncId) (caps : Array Value) (ts : List Tm) (S : Nat → Prop) (I : Nat → World → Prop) (b : Nat → Bool) (v : Value) (w : World)
    (hcf : ∀ args w, Sem.run Tryd.prog (callFunc fid args) w = .ok (.enter fid args) w) (hstep : Hid (FuncStep fid caps ts S I b)) (hI : Hid (∀ j w, I j w → Tm.sl S w ts v)) (h0 : Hid (I 0 w)) :
    Calls Tryd.prog 85 #[v, .func (.func fid) #[] caps] w (IndexPost ts.length I b) := by
  obtain ⟨a, cap, rfl, h1, h2, h3, h4⟩ := hI.out 0 w h0.out
  clear h4
  go_enter Tryd.func85, Tryd.ntmps85
  go_wp2_with fail
  go_loopw [5, 8] (fun _ i wr => ∃ k : Nat, k ≤ ts.length ∧ i = .int .i64 k ∧ Hid (∀ i, i < k → b i = false) ∧ Hid (I k wr)) (fun _ i _ => ts.length - (intOf i).toNat)
  case atStart => exact ⟨0, Nat.zero_le _, rfl, fun i hi => absurd hi (by omega), h0⟩
  case round =>
    obtain ⟨k, hk, rfl, HB, HK⟩ := hrel
    by_cases hlt : k < ts.length
    · obtain ⟨tk, htk⟩ := getk hlt
      obtain ⟨a', cap', ha, _, _, _, h4⟩ := hI.out k wr HK.out
      cases ha
      obtain ⟨bb, off, ak, ck, rfl, hSb, c1, c2, c3, c4, hat⟩ := tget h4 htk
      have HC := Lib.hid (hstep.out k tk _ wr htk HB.out HK.out hat)
      clear h4 htk hat hSb
      cases hb : b k
      all_goals
        rw [hb] at HC
        have Hb := Lib.hid hb
        clear hb
        go_wp2_with fail
        refine HC.out.mono ?_
        rintro e w' ⟨rfl, hk'⟩
        have HK' := Lib.hid hk'
        clear hk'
        go_wp2_with fail
        first
          | (go_ret; exact .inl ⟨k, hlt, HB.out, Hb.out, rfl, HK'.out⟩)
          | (go_roundw
             case rel => exact ⟨k + 1, by omega, by go_num, fun i hi => by
               by_cases e : i = k
               · rw [e]; exact Hb.out
               · exact HB.out i (by omega), HK'⟩
             case measure => simp [intOf]; omega)
    · go_wp2_with fail
      go_ret
      exact .inr ⟨fun i hi => HB.out i (by omega), rfl, by rw [show ts.length = k by omega]; exact HK.out⟩

def ContPost (n : Nat) (I : Nat → World → Prop) (b : Nat → Bool) (e : Ending) (w' : World) : Prop :=
  ((∃ j, j < n ∧ (∀ i, i < j → b i = false) ∧ b j = true ∧ e = .returned (.bool true) ∧ I (j + 1) w') ∨ ((∀ i, i < n → b i = false) ∧ e = .returned (.bool false) ∧ I n w'))
set_option maxHeartbeats 1000000 in
theorem slicesContainsFunc (fid : FuncId) (caps : Array Value) (ts : List Tm) (S : Nat → Prop) (I : Nat → World → Prop) (b : Nat → Bool) (v : Value) (w : World)
    (hcf : ∀ args w, Sem.run Tryd.prog (callFunc fid args) w = .ok (.enter fid args) w) (hstep : Hid (FuncStep fid caps ts S I b)) (hI : Hid (∀ j w, I j w → Tm.sl S w ts v)) (h0 : Hid (I 0 w)) :
    Calls Tryd.prog 68 #[v, .func (.func fid) #[] caps] w (ContPost ts.length I b) := by
  have HC := Lib.hid (slicesIndexFunc fid caps ts S I b v w hcf hstep hI h0)
  obtain ⟨a, cap, rfl, h1, h2, h3, h4⟩ := hI.out 0 w h0.out
  clear h4 hcf
  go_enter Tryd.func68, Tryd.ntmps68
  go_wp2_with fail
  refine HC.out.mono ?_
  rintro e w' (⟨j, hj, hb, hbj, rfl, hI'⟩ | ⟨hb, rfl, hI'⟩)
  · have H1 := Lib.hid hb
    have H2 := Lib.hid hbj
    have H3 := Lib.hid hI'
    clear hb hbj hI'
    go_wp2_with fail
    go_ret
    exact .inl ⟨j, hj, H1.out, H2.out, rfl, H3.out⟩
  · have H1 := Lib.hid hb
    have H3 := Lib.hid hI'
    clear hb hI'
    go_wp2_with fail
    go_ret
    exact .inr ⟨H1.out, rfl, H3.out⟩

end Go.Proofs.YtifklfnpaigdkaaDoor
