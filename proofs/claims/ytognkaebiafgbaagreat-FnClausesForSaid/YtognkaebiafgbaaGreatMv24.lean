/-
  Reading a clause, plain: what both sides read, and that the text of every valid clause is read back.
-/
import Derived.Test.YtognkaebiafgbaaGreatRows
import Derived.WalkLawsBesides
import Derived.Laws.EntriesVeiled
import Derived.Test.YtognkaebiafgbaaGreatMv15
import Derived.Test.YtognkaebiafgbaaGreatMv18
import Derived.Test.YtognkaebiafgbaaGreatMv23
import Derived.Test.YtognkaebiafgbaaGreatMv7
namespace Go.Proofs.YtognkaebiafgbaaGreat
open Go.RowKit
set_option linter.unusedVariables false
theorem Par.both {α β γ : Type} {f : Nat → Option α} {h : Nat → Option β} {g : Nat → Option γ} {x : α} {y : β} {z : γ} (hf : Par f x) (hh : Par h y) (e : ∀ F, f F = some x → h F = some y → g F = some z) : Par g z := by
  obtain ⟨F0, hf⟩ := hf
  obtain ⟨F1, hh⟩ := hh
  exact ⟨F0 + F1, fun F hF => e F (hf F (by omega)) (hh F (by omega))⟩
theorem Par.same {α : Type} {f : Nat → Option α} {x y : α} (h1 : Par f x) (h2 : Par f y) : x = y := by
  obtain ⟨F0, h1⟩ := h1
  obtain ⟨F1, h2⟩ := h2
  have a := h1 (F0 + F1) (by omega)
  have b := h2 (F0 + F1) (by omega)
  rw [a] at b
  exact Option.some.inj b
def goalsG (rd : List UInt8 → Option (Tm × List UInt8)) : Nat → List Tm → List UInt8 → Option (List Tm × List UInt8)
  | 0, _, _ => none
  | n + 1, acc, rest =>
    match rd rest with
    | none => none
    | some (t, r) => if hdB (isB 44) (some r) = true then goalsG rd n (acc ++ [t]) r.tail else some (acc ++ [t], r)
def bodyG (rd : List UInt8 → Option (Tm × List UInt8)) (n : Nat) (r : List UInt8) : Option (List Tm × List UInt8) :=
  match r with
  | 58 :: 45 :: q => goalsG rd n [] q
  | r => some ([], r)
def RdG (rdX : Nat → List UInt8 → Option (Tm × List UInt8)) : Prop := ∀ (t : Tm) (c : UInt8) (r : List UInt8), validF t = true → sole t = false → clB c → Par (fun F => rdX F (txt true t ++ c :: r)) (t, c :: r)
theorem sole_plain {t : Tm} (h : plainF t.kind t.name t.kids.length = true) : sole t = false := by
  obtain ⟨k, n, s, ks⟩ := t
  show soleF k s ks.length = false
  have h2 : decide (0 < opLevelF s.toList) = false := by
    cases hd : decide (0 < opLevelF s.toList)
    · rfl
    · have h' : plainF k s ks.length = true := h
      unfold plainF at h'
      rw [hd] at h'
      simp at h'
  simp only [soleF, h2, Bool.and_false]
theorem sole_goal {t : Tm} (h : goalF t = true) : sole t = false := by
  obtain ⟨k, n, s, ks⟩ := t
  simp only [goalF, Bool.and_eq_true, Bool.or_eq_true] at h
  rcases h.2 with (h | h) | h
  · show soleF k s ks.length = false
    simp only [cutF, Bool.and_eq_true, beq_iff_eq] at h
    simp only [soleF, h.1.2]
    rw [show decide (0 < opLevelF [33]) = false by decide, Bool.and_false]
  · exact sole_plain (t := .mk k n s ks) h
  · show soleF k s ks.length = false
    cases hs : soleF k s ks.length
    · rfl
    · simp only [soleF, Bool.and_eq_true, beq_iff_eq, decide_eq_true_eq] at hs
      simp only [builtF, Bool.and_eq_true] at h
      have hb := h.2
      rw [hs.1.2] at hb
      rcases op_cases hs.2 with e | e | e | e | e | e | e | e | e | e | e | e | e | e <;> (rw [e] at hb; exact absurd hb (by decide))
theorem goals_rt {rdX : Nat → List UInt8 → Option (Tm × List UInt8)} (H : RdG rdX) : ∀ (ts : List Tm) (acc : List Tm) (n : Nat), ts ≠ [] → (∀ t ∈ ts, goalF t = true) → ts.length ≤ n →
    Par (fun F => goalsG (rdX F) n acc (joinF (ts.map (txt true)) ++ [46])) (acc ++ ts, [46])
  | [], _, _, h, _, _ => absurd rfl h
  | [t], acc, n, _, hg, hn => by
    obtain ⟨n, rfl⟩ : ∃ m, n = m + 1 := ⟨n - 1, by simp only [List.length_cons, List.length_nil] at hn; omega⟩
    have h1 := H t 46 [] (goal_val (hg t (by simp))) (sole_goal (hg t (by simp))) (by unfold clB; simp)
    refine h1.both h1 fun F e _ => ?_
    show goalsG (rdX F) (n + 1) acc (txt true t ++ [46]) = _
    rw [goalsG, e]
    rfl
  | t :: u :: ts, acc, n, _, hg, hn => by
    obtain ⟨n, rfl⟩ : ∃ m, n = m + 1 := ⟨n - 1, by simp only [List.length_cons] at hn; omega⟩
    have h1 := H t 44 (joinF ((u :: ts).map (txt true)) ++ [46]) (goal_val (hg t (by simp))) (sole_goal (hg t (by simp))) (by unfold clB; simp)
    have h2 := goals_rt H (u :: ts) (acc ++ [t]) n (by simp) (fun x hx => hg x (by simp only [List.mem_cons] at hx ⊢; exact .inr hx)) (by simp only [List.length_cons] at hn ⊢; omega)
    refine h1.both h2 fun F e1 e2 => ?_
    have ej : joinF ((t :: u :: ts).map (txt true)) ++ [46] = txt true t ++ 44 :: (joinF ((u :: ts).map (txt true)) ++ [46]) := by simp [joinF]
    rw [ej, goalsG, e1]
    show goalsG (rdX F) n (acc ++ [t]) (joinF ((u :: ts).map (txt true)) ++ [46]) = _
    rw [e2]
    simp
def clauseG (rd : List UInt8 → Option (Tm × List UInt8)) (n : Nat) (l : List UInt8) : Option (Cl × List UInt8) :=
  match rd l with
  | none => none
  | some (t, r) => match bodyG rd n r with
    | none => none
    | some (ts, q) => some (⟨t, ts⟩, q)
theorem cl_goals {c : Cl} (h : clValidF c = true) : plainF c.head.kind c.head.name c.head.kids.length = true ∧ ∀ t ∈ c.body, goalF t = true := by
  simp only [clValidF, goalsF, Bool.and_eq_true, decide_eq_true_eq, Bool.not_eq_true'] at h
  refine ⟨h.1.2, fun t ht => ?_⟩
  have := List.any_eq_false.1 h.2.2 t ht
  simpa [notGoal] using this
theorem clause_rt {rdX : Nat → List UInt8 → Option (Tm × List UInt8)} (H : RdG rdX) {c : Cl} (h : clValidF c = true) {n : Nat} (hn : 6 ≤ n) : Par (fun F => clauseG (rdX F) n (clTxt c)) (c, [46]) := by
  obtain ⟨h1, h2, h3⟩ := cl_parts h
  obtain ⟨h4, h5⟩ := cl_goals h
  obtain ⟨hd, bd⟩ := c
  cases bd with
  | nil =>
    have e1 := H hd 46 [] h1 (sole_plain h4) (by unfold clB; simp)
    refine e1.both e1 fun F e _ => ?_
    show clauseG (rdX F) n (txt true hd ++ [46]) = _
    unfold clauseG
    rw [e]
    rfl
  | cons b bs' =>
    have e1 := H hd 58 (45 :: (joinF ((b :: bs').map (txt true)) ++ [46])) h1 (sole_plain h4) (by unfold clB; simp)
    have e2 := goals_rt H (b :: bs') [] n (by simp) h5 (by simp only [] at h2; omega)
    refine e1.both e2 fun F e e' => ?_
    have et : clTxt ⟨hd, b :: bs'⟩ = txt true hd ++ 58 :: (45 :: (joinF ((b :: bs').map (txt true)) ++ [46])) := by simp [clTxt]
    rw [et]
    unfold clauseG
    rw [e]
    show (match goalsG (rdX F) n [] (joinF ((b :: bs').map (txt true)) ++ [46]) with | none => none | some (ts, q) => some (Cl.mk hd ts, q)) = _
    rw [e']
    rfl
theorem rdg_spec : RdG (fun F l => rdF F 30 3 l) := fun t c r hv hs hc =>
  (ms_all _ t (Nat.le_refl _)).cl (valid_parts hv).1 (Nat.le_refl _) (.inr (.inl ⟨c, r, rfl, hc⟩)) (fun h => by rw [hs] at h; cases h) (opS_cl hc)
theorem clTxt_inj {c c' : Cl} (h : clValidF c = true) (h' : clValidF c' = true) (e : clTxt c = clTxt c') : c = c' := by
  have h1 := clause_rt rdg_spec h (Nat.le_refl _)
  have h2 := clause_rt rdg_spec h' (Nat.le_refl _)
  rw [e] at h1
  exact congrArg Prod.fst (h1.same h2)
open Classical in
noncomputable def parseClO (l : List UInt8) : Option Cl := if h : ∃ c, clValidF c = true ∧ clTxt c = l then some h.choose else none
theorem parseClO_some {c : Cl} (h : clValidF c = true) : parseClO (clTxt c) = some c := by
  have he : ∃ u, clValidF u = true ∧ clTxt u = clTxt c := ⟨c, h, rfl⟩
  unfold parseClO
  rw [dif_pos he]
  exact congrArg some (clTxt_inj he.choose_spec.1 h he.choose_spec.2)
theorem parseClO_spec {l : List UInt8} {c : Cl} (h : parseClO l = some c) : clValidF c = true ∧ clTxt c = l := by
  unfold parseClO at h
  split at h
  · rename_i he
    rw [← Option.some.inj h]
    exact he.choose_spec
  · cases h
def zCl : Cl := ⟨zTm, []⟩
noncomputable def parseC (s : ByteArray) : Option Cl := if s.size ≤ 1000 then parseClO s.toList else none
theorem spec_fuel (s : ByteArray) : ∃ F, 6 * s.size + 4 ≤ F ∧ ∀ c, parseClO s.toList = some c → clauseG (rdF F 30 3) 7 s.toList = some (c, [46]) := by
  cases e : parseClO s.toList with
  | none => exact ⟨_, Nat.le_refl _, fun t0 h => by cases h⟩
  | some c =>
    obtain ⟨hv, ht⟩ := parseClO_spec e
    obtain ⟨F0, h0⟩ := clause_rt rdg_spec hv (n := 7) (by omega)
    rw [ht] at h0
    exact ⟨F0 + (6 * s.size + 4), by omega, fun t1 h1 => by cases h1; exact h0 _ (by omega)⟩
end Go.Proofs.YtognkaebiafgbaaGreat

namespace Go.Proofs.YtognkaebiafgbaaGreat
open Go.RowKit
set_option linter.unusedVariables false
theorem cgetk {ts : List Cl} {k : Nat} (h : k < ts.length) : ∃ t, ts[k]? = some t := ⟨ts[k], by simp [h]⟩
theorem cget {S : Nat → Prop} {w : World} {cs : List Cl} {a : Option Addr} {k : Nat} {c : Cl}
    (h : cs = [] ∨ ∃ b off, a = some ⟨b, off, none⟩ ∧ S b ∧ Cl.row S w b off cs) (hc : cs[k]? = some c) :
    ∃ b off ak ck al cl, a = some ⟨b, off, none⟩ ∧
      w.cell? ⟨b, off + k * 5, none⟩ = some (.int .i64 c.head.kind) ∧ w.cell? ⟨b, off + k * 5 + 1, none⟩ = some (.int .i64 c.head.n) ∧ w.cell? ⟨b, off + k * 5 + 2, none⟩ = some (.string c.head.name) ∧
      w.cell? ⟨b, off + k * 5 + 3, none⟩ = some (.slice ak c.head.kids.length ck) ∧ w.cell? ⟨b, off + k * 5 + 4, none⟩ = some (.slice al c.body.length cl) ∧
      Cl.at S w c (.agg #[.int .i64 c.head.kind, .int .i64 c.head.n, .string c.head.name, .slice ak c.head.kids.length ck, .slice al c.body.length cl]) := by
  obtain ⟨b, off, ak, ck, al, cl, h1, h2, h3, h4, h5, h6, h7, h8⟩ := Cl.get h hc (Ext.refl w)
  exact ⟨b, off, ak, ck, al, cl, h1, h2, h3, h4, h5, h6, _, _, rfl, h7, h8⟩
def FuncStepC (fid : FuncId) (caps : Array Value) (ts : List Cl) (S : Nat → Prop) (I : Nat → World → Prop) (b : Nat → Bool) : Prop :=
  ∀ (j : Nat) (t : Cl) (vt : Value) (w : World), ts[j]? = some t → (∀ i, i < j → b i = false) → I j w → Cl.at S w t vt → Calls Tryz.prog fid (#[vt] ++ caps) w fun e w' => e = .returned (.bool (b j)) ∧ I (j + 1) w'
def IndexPostC (n : Nat) (I : Nat → World → Prop) (b : Nat → Bool) (e : Ending) (w' : World) : Prop :=
  ((∃ j, j < n ∧ (∀ i, i < j → b i = false) ∧ b j = true ∧ e = .returned (.int .i64 j) ∧ I (j + 1) w') ∨ ((∀ i, i < n → b i = false) ∧ e = .returned (.int .i64 (-1)) ∧ I n w'))
set_option maxHeartbeats 1000000 in
theorem slicesIndexFuncC (fid : FuncId) (caps : Array Value) (ts : List Cl) (S : Nat → Prop) (I : Nat → World → Prop) (b : Nat → Bool) (v : Value) (w : World)
    (hcf : ∀ args w, Sem.run Tryz.prog (callFunc fid args) w = .ok (.enter fid args) w) (hstep : Hid (FuncStepC fid caps ts S I b)) (hI : Hid (∀ j w, I j w → Cl.sl S w ts v)) (h0 : Hid (I 0 w)) :
    Calls Tryz.prog 52 #[v, .func (.func fid) #[] caps] w (IndexPostC ts.length I b) := by
  obtain ⟨a, cap, rfl, h1, h2, h3, h4⟩ := hI.out 0 w h0.out
  clear h4
  go_enter Tryz.func52, Tryz.ntmps52
  go_wp2_with fail
  go_loopw [5, 8] (fun _ i wr => ∃ k : Nat, k ≤ ts.length ∧ i = .int .i64 k ∧ Hid (∀ i, i < k → b i = false) ∧ Hid (I k wr)) (fun _ i _ => ts.length - (intOf i).toNat)
  case atStart => exact ⟨0, Nat.zero_le _, rfl, fun i hi => absurd hi (by omega), h0⟩
  case round =>
    obtain ⟨k, hk, rfl, HB, HK⟩ := hrel
    by_cases hlt : k < ts.length
    · obtain ⟨tk, htk⟩ := cgetk hlt
      obtain ⟨a', cap', ha, _, _, _, h4⟩ := hI.out k wr HK.out
      cases ha
      obtain ⟨bb, off, ak, ck, al, cl, rfl, c1, c2, c3, c4, c5, hat⟩ := cget h4 htk
      have HC := Lib.hid (hstep.out k tk _ wr htk HB.out HK.out hat)
      clear h4 htk hat
      cases hb : b k
      all_goals
        rw [hb] at HC
        have Hb := Lib.hid hb
        clear hb
        go_wp2_with fail
        refine HC.out.mono ?_
        rintro e w' ⟨rfl, hk'⟩
        have HK' := Lib.hid hk'
        clear hk'
        go_wp2_with fail
        first
          | (go_ret; exact .inl ⟨k, hlt, HB.out, Hb.out, rfl, HK'.out⟩)
          | (go_roundw
             case rel => exact ⟨k + 1, by omega, by go_num, fun i hi => by
               by_cases e : i = k
               · rw [e]; exact Hb.out
               · exact HB.out i (by omega), HK'⟩
             case measure => simp [intOf]; omega)
    · go_wp2_with fail
      go_ret
      exact .inr ⟨fun i hi => HB.out i (by omega), rfl, by rw [show ts.length = k by omega]; exact HK.out⟩
def ContPostC (n : Nat) (I : Nat → World → Prop) (b : Nat → Bool) (e : Ending) (w' : World) : Prop :=
  ((∃ j, j < n ∧ (∀ i, i < j → b i = false) ∧ b j = true ∧ e = .returned (.bool true) ∧ I (j + 1) w') ∨ ((∀ i, i < n → b i = false) ∧ e = .returned (.bool false) ∧ I n w'))
set_option maxHeartbeats 1000000 in
theorem slicesContainsFuncC (fid : FuncId) (caps : Array Value) (ts : List Cl) (S : Nat → Prop) (I : Nat → World → Prop) (b : Nat → Bool) (v : Value) (w : World)
    (hcf : ∀ args w, Sem.run Tryz.prog (callFunc fid args) w = .ok (.enter fid args) w) (hstep : Hid (FuncStepC fid caps ts S I b)) (hI : Hid (∀ j w, I j w → Cl.sl S w ts v)) (h0 : Hid (I 0 w)) :
    Calls Tryz.prog 26 #[v, .func (.func fid) #[] caps] w (ContPostC ts.length I b) := by
  have HC := Lib.hid (slicesIndexFuncC fid caps ts S I b v w hcf hstep hI h0)
  obtain ⟨a, cap, rfl, h1, h2, h3, h4⟩ := hI.out 0 w h0.out
  clear h4 hcf
  go_enter Tryz.func26, Tryz.ntmps26
  go_wp2_with fail
  refine HC.out.mono ?_
  rintro e w' (⟨j, hj, hb, hbj, rfl, hI'⟩ | ⟨hb, rfl, hI'⟩)
  · have H1 := Lib.hid hb
    have H2 := Lib.hid hbj
    have H3 := Lib.hid hI'
    clear hb hbj hI'
    go_wp2_with fail
    go_ret
    exact .inl ⟨j, hj, H1.out, H2.out, rfl, H3.out⟩
  · have H1 := Lib.hid hb
    have H3 := Lib.hid hI'
    clear hb hI'
    go_wp2_with fail
    go_ret
    exact .inr ⟨H1.out, rfl, H3.out⟩
theorem cany_yes {f : Cl → Bool} {ts : List Cl} {j : Nat} {b : Nat → Bool} (hb : ∀ j t, ts[j]? = some t → b j = f t) (hj : j < ts.length) (h : b j = true) : ts.any f = true := by
  obtain ⟨t, ht⟩ := cgetk hj
  rw [hb j t ht] at h
  exact List.any_eq_true.2 ⟨t, List.mem_of_getElem? ht, h⟩
theorem cany_no {f : Cl → Bool} {ts : List Cl} {b : Nat → Bool} (hb : ∀ j t, ts[j]? = some t → b j = f t) (h : ∀ i, i < ts.length → b i = false) : ts.any f = false := by
  apply List.any_eq_false.2
  intro t ht
  obtain ⟨j, hj⟩ := List.getElem?_of_mem ht
  rw [← hb j t hj, h j (List.getElem?_eq_some_iff.1 hj).1]
  simp
def atC (f : Cl → Bool) (ts : List Cl) (j : Nat) : Bool := match ts[j]? with | some t => f t | none => false
theorem atC_eq (f : Cl → Bool) (ts : List Cl) : ∀ j t, ts[j]? = some t → atC f ts j = f t := fun j t h => by unfold atC; rw [h]
theorem containsAnyC (fid : FuncId) (f : Cl → Bool) (hcf : ∀ args w, Sem.run Tryz.prog (callFunc fid args) w = .ok (.enter fid args) w)
    (hf : ∀ (t : Cl) (v : Value) (S : Nat → Prop) (w : World), Cl.at S w t v → Calls Tryz.prog fid #[v] w fun e w' => e = .returned (.bool (f t)) ∧ Ext w w')
    (ts : List Cl) (v : Value) (S : Nat → Prop) (w : World) (ht : Cl.sl S w ts v) :
    Calls Tryz.prog 26 #[v, .func (.func fid) #[] #[]] w fun e w' => e = .returned (.bool (ts.any f)) ∧ Ext w w' := by
  refine (slicesContainsFuncC fid #[] ts S (fun _ w' => Ext w w') (atC f ts) v w hcf (Lib.hid fun j t vt w' hj _ e hat => ?_) (Lib.hid fun j w' e => Cl.sl_ext e ht) (Lib.hid (Ext.refl w))).mono ?_
  · refine (hf t vt S w' hat).mono ?_
    rintro e' w'' ⟨rfl, e2⟩
    exact ⟨by rw [atC_eq f ts j t hj], e.trans e2⟩
  · rintro e w' (⟨j, hj, hb, hbj, rfl, hI⟩ | ⟨hb, rfl, hI⟩)
    · exact ⟨retB (cany_yes (atC_eq f ts) hj hbj).symm, hI⟩
    · exact ⟨retB (cany_no (atC_eq f ts) hb).symm, hI⟩
end Go.Proofs.YtognkaebiafgbaaGreat
