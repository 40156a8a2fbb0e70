/-
  The program's store: whether a variable occurs in a term.
-/
import Derived.Test.YtdelhgodhkbjdaaMu29
import Derived.Test.YtdelhgodhkbjdaaMu7
import Derived.Test.YtdelhgodhkbjdaaMu13
namespace Go.Proofs.Ytdelhgodhkbjdaa
open Go.RowKit Go.Maps
set_option linter.unusedVariables false

open Classical in
noncomputable def occB (K : List Tm) (n : Int) (t : Tm) : Bool := decide (OccT K n t)
theorem occB_true {K : List Tm} {n : Int} {t : Tm} (h : OccT K n t) : occB K n t = true := by simp [occB, h]
theorem occB_false {K : List Tm} {n : Int} {t : Tm} (h : ¬ OccT K n t) : occB K n t = false := by simp [occB, h]
theorem occB_iff {K : List Tm} {n : Int} {t : Tm} : occB K n t = true ↔ OccT K n t := by simp [occB]
theorem occV_var {t : Tm} {d : Nat} {m : Int} (hs : shapeF t d = true) (hk : t.kind = 1) : occV m t ↔ m = t.n := by
  obtain ⟨k, n, s, ks⟩ := t
  obtain rfl : k = 1 := hk
  rcases shape_own hs with ⟨_, _, rfl⟩ | ⟨h, _⟩ | ⟨h, _⟩
  · simp only [occV, occL, or_false, true_and, Tm.n]; exact eq_comm
  · exact absurd h (by decide)
  · exact absurd h (by decide)
theorem occT_var {K : List Tm} {n : Int} {t : Tm} {d : Nat} (hs : shapeF t d = true) (hk : t.kind = 1) : OccT K n t ↔ Rch K n t.n := by
  constructor
  · rintro ⟨m, h1, h2⟩
    rw [occV_var hs hk] at h1
    rw [← h1]; exact h2
  · intro h; exact ⟨t.n, (occV_var hs hk).2 rfl, h⟩
/-- a walk keeps what an unbound variable occurs in -/
theorem walk_occ {K : List Tm} {n : Int} (hv : VK K) (h0 : (lookK K n).kind = 0) : ∀ {f : Nat} {t x : Tm} {d : Nat}, shapeF t d = true → walkF f K t = some x → (OccT K n t ↔ OccT K n x)
  | 0, _, _, _, _, h => by simp [walkF] at h
  | f + 1, t, x, d, hs, h => by
    simp only [walkF] at h
    split at h
    · rename_i e
      have hb := shape_occ hs e.1
      obtain ⟨d', hs'⟩ := hv.2 _ hb.1 hb.2 e.2
      rw [← walk_occ hv h0 hs' h, occT_var hs e.1]
      constructor
      · intro hr
        exact (rch_bound (fun h => by rw [h] at e; exact e.2 h0) hr).2
      · rintro ⟨p, h1, h2⟩
        exact Rch.step hb.1 hb.2 e.2 h1 h2
    · cases h; exact Iff.rfl

/-- block b is a map of the variables that M marks -/
def Met (w : World) (b : Nat) (M : List Tm) : Prop :=
  M.length = 26 ∧ ∃ n D, n + unb M ≤ 1000 ∧ w.ownsMap Try.prog 3 (plainElem Try.prog 4) b n D ∧ IsMap D ∧ ∀ m : Int, 0 ≤ m ∧ m ≤ 25 → D.atKey (.int .i64 m) (.lit (.bool false) : DataW Value) = .lit (.bool (!(lookK M m).kind == 0))
theorem Met.lt {w : World} {b : Nat} {M : List Tm} (h : Met w b M) : b < w.heap.size := by
  obtain ⟨_, n, D, _, h1, _⟩ := h
  exact h1.lt
theorem Met.fr {R : Nat → Prop} {w w' : World} {b : Nat} {M : List Tm} (h : Met w b M) (f : Fr R w w') (hR : ¬ R b) : Met w' b M := by
  obtain ⟨hl, n, D, hn, ⟨es, clock, h1, h2⟩, h3, h4⟩ := h
  have hlt : b < w.heap.size := (Array.getElem?_eq_some_iff.1 h1).1
  exact ⟨hl, n, D, hn, ⟨es, clock, (f.block b hlt hR).trans h1, h2⟩, h3, h4⟩
theorem Met.ext {w w' : World} {b : Nat} {M : List Tm} (h : Met w b M) (f : Ext w w') : Met w' b M := h.fr (R := fun _ => False) (Fr.of_ext f) (fun h => h)
theorem unb_le : ∀ K : List Tm, unb K ≤ K.length
  | [] => Nat.le_refl _
  | t :: K => by have := unb_le K; simp only [unb, List.length_cons]; split <;> omega
theorem Met.made (w : World) : Met (w.alloc (.map #[] 0)) w.heap.size known0 :=
  ⟨by simp [known0], 0, .map [], by have := unb_le known0; simp [known0] at this ⊢; omega, World.ownsMap_made _ _ _ _, isMap_empty, fun n hn => by rw [look_known0]; rfl⟩
theorem zero_bool (w : World) : (zeroValue 4).run Try.prog w = .ok (.bool false) w := by kernel_rfl
theorem run_met {w : World} {b : Nat} {M : List Tm} {m : Int} (h : Met w b M) (hm : 0 ≤ m ∧ m ≤ 25) : (Instr.lookup 118 (.map (some b)) (.int .i64 m) false).run Try.prog w = .ok (.bool (!(lookK M m).kind == 0)) w := by
  obtain ⟨hl, n, D, hn, h1, h3, h4⟩ := h
  obtain ⟨v, ps, hrun, hv⟩ := h1.lookup map_keyed Try.underlying118 (zero_bool w) (plainElem_bool Try.underlying4 false) (keyOf_int_mk Try.underlying3 (small_wf hm))
  rw [h4 m hm] at hv
  rw [hrun]
  cases v <;> simp [plainElem, Try.underlying4] at hv
  rw [hv.1]
theorem wp_put_met {w : World} {b : Nat} {M : List Tm} {n : Int} {ops : Array Oper} {rest : List Oper} {o : Oper} {a : Act} {Q : Exit → Act → World → Prop}
    (hg : o.guard = none) (m x v : Operand) (hop : o.op = Op.mapUpdate 118 m x v) (h : Met w b M) (hn : 0 ≤ n ∧ n ≤ 25) (h0 : (lookK M n).kind = 0) (hm : a.eval m = .map (some b)) (hx : a.eval x = .int .i64 n) (hv : a.eval v = .bool true)
    (hK : ∀ w', Met w' b (M.set n.toNat (varT 0)) → Fr (fun k => k = b) w w' → wpList Try.prog ops Q rest (a.put o.dst undef) w') : wpList Try.prog ops Q (o :: rest) a w := by
  obtain ⟨hl, c, D, hc, h1, h3, h4⟩ := h
  refine wpList_mapUpdate_own w hg m x v _ hop 3 4 map_keyed Try.underlying118 (plainElem Try.prog 4) b c D hm h1 (by unfold maxLen; omega) (.int .i64 n) (.bool true) (.int .i64 n) hx hv (keyOf_int_mk Try.underlying3 (small_wf hn)) (.lit (.bool true)) [] (plainElem_bool Try.underlying4 true) ?_
  intro w' ho hg'
  refine hK w' ⟨by simp [hl], c + 1, _, ?_, ho, h3.put _ _, fun i hi => ?_⟩ (Fr.of_grown hg' (fun k e => by cases e; rfl))
  · have := unb_set (u := varT 0) (look_get hl hn) h0 (by decide)
    omega
  · rw [look_set hl hn hi]
    split
    · rename_i e
      subst e
      rw [Maps.atKey_put_same h3 (by simp [WideAt.IsKeyLit])]
      rfl
    · rename_i e
      have hne : Lit.int .i64 i ≠ Lit.int .i64 n := by intro h; cases h; exact e rfl
      rw [Maps.atKey_put_other hne]
      exact h4 i hi
/-- what is met does not lead to n, or lies above t -/
def MetOk (K : List Tm) (n : Int) (ρ : Int → Nat) (M : List Tm) (t : Tm) : Prop := ∀ m : Int, 0 ≤ m → m ≤ 25 → (lookK M m).kind ≠ 0 → ¬ Rch K n m ∨ ∀ p, occV p t → ρ p < ρ m
/-- what is met later -/
def MetTo (K : List Tm) (n : Int) (M M' : List Tm) : Prop := ∀ m : Int, 0 ≤ m → m ≤ 25 → (lookK M' m).kind ≠ 0 → (lookK M m).kind ≠ 0 ∨ ¬ Rch K n m
theorem MetTo.trans {K : List Tm} {n : Int} {A B C : List Tm} (h : MetTo K n A B) (g : MetTo K n B C) : MetTo K n A C := fun m h1 h2 h3 => by
  rcases g m h1 h2 h3 with h | h'
  · exact ‹MetTo K n A B› m h1 h2 h
  · exact .inr h'
theorem MetOk.to {K : List Tm} {n : Int} {ρ : Int → Nat} {M M' : List Tm} {t u : Tm} (h : MetOk K n ρ M t) (g : MetTo K n M M') (hu : ∀ p, occV p u → occV p t) : MetOk K n ρ M' u := fun m h1 h2 h3 => by
  rcases g m h1 h2 h3 with h4 | h4
  · rcases h m h1 h2 h4 with h5 | h5
    · exact .inl h5
    · exact .inr (fun p hp => h5 p (hu p hp))
  · exact .inl h4
def OccP (K : List Tm) (n : Int) (t : Tm) (M : List Tm) (b : Nat) (w : World) (e : Ending) (w' : World) : Prop :=
  e = .returned (.bool (occB K n t)) ∧ Fr (fun k => k = b) w w' ∧ (occB K n t = false → ∃ M', Met w' b M' ∧ MetTo K n M M')
def OccC (K : List Tm) (n : Int) (ρ : Int → Nat) (S : Nat → Prop) (sb mb b : Nat) (t : Tm) : Prop :=
  ∀ (v : Value) (M : List Tm) (w : World) (d : Nat), shapeF t d = true → Tm.at S w t v → (∀ b, S b → b < w.heap.size) → Sto S w sb mb K → Met w b M → MetOk K n ρ M t →
    Calls Try.prog 112 #[.pointer (some ⟨sb, 0, none⟩), .int .i64 n, v, .map (some b)] w (OccP K n t M b w)
end Go.Proofs.Ytdelhgodhkbjdaa

/-
  ContainsFunc over terms with a plain test.
-/
namespace Go.Proofs.Ytdelhgodhkbjdaa
open Go.RowKit
set_option linter.unusedVariables false

theorem any_yes {f : Tm → Bool} {ts : List Tm} {j : Nat} {b : Nat → Bool} (hb : ∀ j t, ts[j]? = some t → b j = f t) (hj : j < ts.length) (h : b j = true) : ts.any f = true := by
  obtain ⟨t, ht⟩ := getk hj
  rw [hb j t ht] at h
  exact List.any_eq_true.2 ⟨t, List.mem_of_getElem? ht, h⟩
theorem any_no {f : Tm → Bool} {ts : List Tm} {b : Nat → Bool} (hb : ∀ j t, ts[j]? = some t → b j = f t) (h : ∀ i, i < ts.length → b i = false) : ts.any f = false := by
  apply List.any_eq_false.2
  intro t ht
  obtain ⟨j, hj⟩ := List.getElem?_of_mem ht
  rw [← hb j t hj, h j (List.getElem?_eq_some_iff.1 hj).1]
  simp
/-- the test at an index -/
def atB (f : Tm → Bool) (ts : List Tm) (j : Nat) : Bool := match ts[j]? with | some t => f t | none => false
theorem atB_eq (f : Tm → Bool) (ts : List Tm) : ∀ j t, ts[j]? = some t → atB f ts j = f t := fun j t h => by unfold atB; rw [h]

theorem containsAny (fid : FuncId) (f : Tm → Bool) (hcf : ∀ args w, Sem.run Try.prog (callFunc fid args) w = .ok (.enter fid args) w)
    (hf : ∀ (t : Tm) (v : Value) (S : Nat → Prop) (w : World), Tm.at S w t v → Calls Try.prog fid #[v] w fun e w' => e = .returned (.bool (f t)) ∧ Ext w w')
    (ts : List Tm) (v : Value) (S : Nat → Prop) (w : World) (ht : Tm.sl S w ts v) :
    Calls Try.prog 88 #[v, .func (.func fid) #[] #[]] w fun e w' => e = .returned (.bool (ts.any f)) ∧ Ext w w' := by
  refine (slicesContainsFunc fid #[] ts S (fun _ w' => Ext w w') (atB f ts) v w hcf (Lib.hid fun j t vt w' hj _ e hat => ?_) (Lib.hid fun j w' e => Tm.sl_ext e ht) (Lib.hid (Ext.refl w))).mono ?_
  · refine (hf t vt S w' hat).mono ?_
    rintro e' w'' ⟨rfl, e2⟩
    exact ⟨by rw [atB_eq f ts j t hj], e.trans e2⟩
  · rintro e w' (⟨j, hj, hb, hbj, rfl, hI⟩ | ⟨hb, rfl, hI⟩)
    · exact ⟨retB (any_yes (atB_eq f ts) hj hbj).symm, hI⟩
    · exact ⟨retB (any_no (atB_eq f ts) hb).symm, hI⟩

end Go.Proofs.Ytdelhgodhkbjdaa
