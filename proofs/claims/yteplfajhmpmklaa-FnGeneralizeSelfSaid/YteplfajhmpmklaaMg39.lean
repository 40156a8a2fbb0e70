/-
  A region that draws its order, operation by operation, with memory that each operation's result holds alone: what an operation leaves stays as it is until it is consumed.
-/
import Derived.Test.YteplfajhmpmklaaMg36
import Derived.Test.YteplfajhmpmklaaMg10
namespace Go.Proofs.Yteplfajhmpmklaa
open Go.RowKit
set_option linter.unusedVariables false

/-- each needs what it comes behind, consumes some of it, and nobody else needs what is consumed -/
def ConsB (ops : Array Oper) (need cons : Nat → List Nat) : Bool := (List.range ops.size).all fun i => match ops[i]? with
  | none => true
  | some o => ((need i).all fun j => o.after.toList.any fun e => Region.binds .any e && e.on == j) && ((cons i).all fun j => (need i).contains j) && ((need i).all fun j => (List.range ops.size).all fun k => !(cons k).contains j || decide (k = i))
theorem consB_dep {ops : Array Oper} {need cons : Nat → List Nat} (h : ConsB ops need cons = true) {i j : Nat} {o : Oper} (ho : ops[i]? = some o) (hj : j ∈ need i) : (o.after.toList.any fun e => Region.binds .any e && e.on == j) = true := by
  unfold ConsB at h
  rw [List.all_eq_true] at h
  have h1 := h i (by simpa using (Array.getElem?_eq_some_iff.1 ho).1)
  rw [ho, Bool.and_eq_true, Bool.and_eq_true, List.all_eq_true] at h1
  exact h1.1.1 j hj
theorem consB_sub {ops : Array Oper} {need cons : Nat → List Nat} (h : ConsB ops need cons = true) {i j : Nat} {o : Oper} (ho : ops[i]? = some o) (hj : j ∈ cons i) : j ∈ need i := by
  unfold ConsB at h
  rw [List.all_eq_true] at h
  have h1 := h i (by simpa using (Array.getElem?_eq_some_iff.1 ho).1)
  rw [ho, Bool.and_eq_true, Bool.and_eq_true] at h1
  have h2 := h1.1.2
  rw [List.all_eq_true] at h2
  simpa using h2 j hj
theorem consB_one {ops : Array Oper} {need cons : Nat → List Nat} (h : ConsB ops need cons = true) {i j k : Nat} {o : Oper} (ho : ops[i]? = some o) (hj : j ∈ need i) (hk : k < ops.size) (hjk : j ∈ cons k) : k = i := by
  unfold ConsB at h
  rw [List.all_eq_true] at h
  have h1 := h i (by simpa using (Array.getElem?_eq_some_iff.1 ho).1)
  rw [ho, Bool.and_eq_true] at h1
  have h2 := h1.2
  rw [List.all_eq_true] at h2
  have h3 := h2 j hj
  rw [List.all_eq_true] at h3
  have h4 := h3 k (by simpa using hk)
  simpa [hjk] using h4

/-- what an operation left may speak of its own value and of those that it comes behind -/
def RefB (ops : Array Oper) (refs : Nat → List Nat) : Bool := (List.range ops.size).all fun j => match ops[j]? with
  | none => true
  | some o => (refs j).all fun k => decide (k = j) || o.after.toList.any fun e => Region.binds .any e && (decide (k = e.on) || (refs e.on).contains k)
theorem refB_done {ops : Array Oper} {refs : Nat → List Nat} (h : RefB ops refs = true) (hb : Behind ops = true) {D : Nat → Prop} (hcl : ∀ j k, D j → (match ops[j]? with | some o' => o'.after.toList.any fun e => Region.binds .any e && e.on == k | none => false) = true → D k) : ∀ (j : Nat), j < ops.size → D j → ∀ k, k ∈ refs j → D k := by
  intro j
  induction j using Nat.strongRecOn with
  | _ j ih =>
    intro hj hd k hk
    unfold RefB at h
    rw [List.all_eq_true] at h
    have h1 := h j (by simpa using hj)
    obtain ⟨o, ho⟩ : ∃ o, ops[j]? = some o := ⟨ops[j], by simp [hj]⟩
    rw [ho, List.all_eq_true] at h1
    have h2 := h1 k hk
    rw [Bool.or_eq_true, decide_eq_true_eq, List.any_eq_true] at h2
    rcases h2 with rfl | ⟨e, he, hb2⟩
    · exact hd
    · simp only [Bool.and_eq_true, Bool.or_eq_true, decide_eq_true_eq] at hb2
      have hlt := behind_spec hb ho e (by simpa using he) hb2.1
      have hde : D e.on := hcl j e.on hd (by
        rw [ho, List.any_eq_true]
        exact ⟨e, he, by simp [hb2.1]⟩)
      rcases hb2.2 with h3 | h3
      · rw [h3]; exact hde
      · exact ih e.on hlt (by omega) hde k (by simpa using h3)
abbrev Zone := Nat → Prop
/-- what holds between the operations: Res what a done one left that is not consumed yet: E blocks that it holds alone, R blocks that nobody may change; Pre what an operation that is not done yet needs of the old blocks O that it alone may change -/
structure SepG (W : World) (cons refs : Nat → List Nat) (O : Nat → Zone) (Res : Nat → List Value → Zone → Zone → World → Prop) (Pre : Nat → World → Prop) (D : Nat → Prop) (vs : Nat → Value) (E R : Nat → Zone) (w : World) : Prop where
  fr : Fr (fun g => ∃ i, O i g) W w
  res : ∀ j, D j → (∀ k, D k → j ∉ cons k) → Res j ((refs j).map vs) (E j) (R j) w
  pre : ∀ i, ¬ D i → Pre i w
  dis : ∀ j k, D j → D k → (∀ i, D i → j ∉ cons i) → (∀ i, D i → k ∉ cons i) → ∀ g, E j g → (j ≠ k → ¬ E k g) ∧ ¬ R k g
  bnd : ∀ j, D j → (∀ i, D i → j ∉ cons i) → ∀ g, E j g ∨ R j g → W.heap.size ≤ g ∧ g < w.heap.size
/-- what is asked of one operation -/
def SepAt (P : Program) (ops : Array Oper) (Q : Exit → Act → World → Prop) (W : World) (need cons refs : Nat → List Nat) (O : Nat → Zone) (Res : Nat → List Value → Zone → Zone → World → Prop) (Pre : Nat → World → Prop) (a0 : Act) (i : Nat) (o : Oper) : Prop :=
  ∀ (a : Act) (vs : Nat → Value) (E R : Nat → Zone) (w : World), (∀ k, (ops.toList.all fun o => decide (o.dst ≠ some k)) = true → a.tmps[k]? = a0.tmps[k]?) →
    (∀ j, j ∈ need i → Res j ((refs j).map vs) (E j) (R j) w ∧ ∀ d, dstOf ops j = some d → d < a0.tmps.size → a.tmps[d]? = some (vs j)) →
    (∀ j, j ∈ need i → ∀ g, E j g ∨ R j g → W.heap.size ≤ g ∧ g < w.heap.size) →
    (∀ j k, j ∈ need i → k ∈ need i → ∀ g, E j g → (j ≠ k → ¬ E k g) ∧ ¬ R k g) →
    Pre i w → Fr (fun g => ∃ i, O i g) W w →
    ∀ K : Act → World → Prop, (∀ v (Ei Ri : Zone) w', Fr (fun g => (∃ j, j ∈ cons i ∧ E j g) ∨ O i g) w w' → Res i ((refs i).map fun k => if k = i then v else vs k) Ei Ri w' →
      (∀ g, Ei g → ((∃ j, j ∈ cons i ∧ E j g) ∨ (w.heap.size ≤ g ∧ g < w'.heap.size)) ∧ ¬ Ri g) →
      (∀ g, Ri g → (∃ j, j ∈ need i ∧ R j g) ∨ (∃ j, j ∈ cons i ∧ E j g) ∨ (w.heap.size ≤ g ∧ g < w'.heap.size)) → K (a.put o.dst v) w') →
      if Region.wanted o (yielded ops a.tmps) = true then Oper.wp P o a w K Q else K (a.put o.dst undef) w

theorem SepAt.rely {P : Program} {ops : Array Oper} {Q : Exit → Act → World → Prop} {W : World} {need cons refs : Nat → List Nat} {O : Nat → Zone} {Res : Nat → List Value → Zone → Zone → World → Prop} {Pre : Nat → World → Prop} {a0 : Act} {i : Nat} {o : Oper}
    (hb : Behind ops = true) (hc : ConsB ops need cons = true) (hr : RefB ops refs = true) (hO : ∀ i g, O i g → g < W.heap.size) (hOO : ∀ i j g, i ≠ j → O i g → ¬ O j g)
    (hRes : ∀ (M : Zone) j us E R w w', Res j us E R w → Fr M w w' → (∀ g, E g → ¬ M g) → (∀ g, R g → ¬ M g) → (∀ g, O j g → ¬ M g) → (∀ g, g < W.heap.size → (∀ k, ¬ O k g) → ¬ M g) → Res j us E R w')
    (hPre : ∀ (M : Zone) j w w', Pre j w → Fr M w w' → (∀ g, O j g → ¬ M g) → Pre j w')
    (ho : ops[i]? = some o) (h : SepAt P ops Q W need cons refs O Res Pre a0 i o) : RelyAt P ops Q (fun D vs w => ∃ E R, SepG W cons refs O Res Pre D vs E R w) (fun _ _ _ => True) a0 i o := by
  rintro a D vs w old dep hnd hcl hlt ⟨E, R, hG⟩ K hK
  have live : ∀ j, j ∈ need i → ∀ k, D k → j ∉ cons k := fun j hj k hk hjk => by
    have := consB_one hc ho hj (hlt k hk) hjk
    subst this
    exact hnd hk
  have hcd : ∀ j, j ∈ cons i → j ∈ need i := fun j hj => consB_sub hc ho hj
  refine h a vs E R w old (fun j hj => ⟨hG.res j (dep j (consB_dep hc ho hj)).1 (live j hj), (dep j (consB_dep hc ho hj)).2.2⟩) (fun j hj => hG.bnd j (dep j (consB_dep hc ho hj)).1 (live j hj)) (fun j k hj hk => hG.dis j k (dep j (consB_dep hc ho hj)).1 (dep k (consB_dep hc ho hk)).1 (live j hj) (live k hk)) (hG.pre i hnd) hG.fr K (fun v Ei Ri w' f hres hE hR => ?_)
  have oldM : ∀ g, g < W.heap.size → ((∃ j, j ∈ cons i ∧ E j g) ∨ O i g) → O i g := fun g hg hm => by
    rcases hm with ⟨j, hj, hm⟩ | hm
    · have := (hG.bnd j (dep j (consB_dep hc ho (hcd j hj))).1 (live j (hcd j hj)) g (.inl hm)).1
      omega
    · exact hm
  have noO : ∀ j, D j → (∀ k, D k → j ∉ cons k) → ∀ g, E j g ∨ R j g → ¬ O i g := fun j hj hl g hg hm => by
    have h1 := (hG.bnd j hj hl g hg).1
    have h2 := hO i g hm
    omega
  have keep : ∀ j, D j → (∀ k, (k = i ∨ D k) → j ∉ cons k) → ∀ g, E j g ∨ R j g → ¬ ((∃ j, j ∈ cons i ∧ E j g) ∨ O i g) := fun j hj hl g hg hm => by
    have hji : j ∉ cons i := hl i (.inl rfl)
    have hlj : ∀ k, D k → j ∉ cons k := fun k hk => hl k (.inr hk)
    rcases hm with ⟨k, hk, hm⟩ | hm
    · have h1 := hG.dis k j (dep k (consB_dep hc ho (hcd k hk))).1 hj (live k (hcd k hk)) hlj g hm
      rcases hg with hg | hg
      · exact h1.1 (fun e => hji (e ▸ hk)) hg
      · exact h1.2 hg
    · exact noO j hj hlj g hg hm
  have hs := f.size
  have hmap : ∀ j, D j → (refs j).map (fun k => if k = i then v else vs k) = (refs j).map vs := fun j hj => List.map_congr_left (fun k hk => if_neg (fun e => hnd (by
    have := refB_done hr hb hcl j (hlt j hj) hj k hk
    rw [e] at this
    exact this)))
  refine hK v w' ⟨fun k => if k = i then Ei else E k, fun k => if k = i then Ri else R k, ⟨?_, fun j hj hl => ?_, fun k hk => ?_, fun j k hj hk hlj hlk g hg => ?_, fun j hj hl g hg => ?_⟩⟩ (fun _ _ _ _ => trivial) trivial
  · have f1 : Fr (fun g => (∃ i, O i g) ∨ W.heap.size ≤ g) W w := hG.fr.mono (fun g _ h => .inl h)
    have f2 : Fr (fun g => (∃ i, O i g) ∨ W.heap.size ≤ g) w w' := f.mono (fun g _ hm => by
      by_cases hg : g < W.heap.size
      · exact .inl ⟨i, oldM g hg hm⟩
      · exact .inr (by omega))
    exact (f1.trans f2).mono (fun g hg hm => hm.elim id (fun h => absurd hg (by omega)))
  · by_cases e : j = i
    · subst e
      simp only [if_true]
      exact hres
    · have hd : D j := hj.elim (fun h => absurd h e) id
      simp only [if_neg e]
      rw [hmap j hd]
      refine hRes _ j _ _ _ w w' (hG.res j hd (fun k hk => hl k (.inr hk))) f (fun g hg => keep j hd hl g (.inl hg)) (fun g hg => keep j hd hl g (.inr hg)) (fun g hg hm => ?_) (fun g hg hn hm => hn i (oldM g hg hm))
      exact hOO i j g (Ne.symm e) (oldM g (hO j g hg) hm) hg
  · have e : k ≠ i := fun e => hk (.inl e)
    exact hPre _ k w w' (hG.pre k (fun h => hk (.inr h))) f (fun g hg hm => hOO i k g (Ne.symm e) (oldM g (hO k g hg) hm) hg)
  · have newE : ∀ j, j ≠ i → D j → (∀ k, (k = i ∨ D k) → j ∉ cons k) → ∀ g, Ei g → ¬ E j g ∧ ¬ R j g := fun j e hd hl g h1 => by
      rcases (hE g h1).1 with h3 | h3
      · exact ⟨fun h2 => keep j hd hl g (.inl h2) (.inl h3), fun h2 => keep j hd hl g (.inr h2) (.inl h3)⟩
      · exact ⟨fun h2 => by have := (hG.bnd j hd (fun k hk => hl k (.inr hk)) g (.inl h2)).2; omega, fun h2 => by have := (hG.bnd j hd (fun k hk => hl k (.inr hk)) g (.inr h2)).2; omega⟩
    have newR : ∀ j, j ≠ i → D j → (∀ k, (k = i ∨ D k) → j ∉ cons k) → ∀ g, E j g → ¬ Ri g := fun j e hd hl g h1 h2 => by
      have hlj : ∀ k, D k → j ∉ cons k := fun k hk => hl k (.inr hk)
      rcases hR g h2 with ⟨k, hk, h3⟩ | h3 | h3
      · exact (hG.dis j k hd (dep k (consB_dep hc ho hk)).1 hlj (live k hk) g h1).2 h3
      · exact keep j hd hl g (.inl h1) (.inl h3)
      · have := (hG.bnd j hd hlj g (.inl h1)).2; omega
    by_cases ej : j = i
    · simp only [if_pos ej] at hg
      by_cases ek : k = i
      · simp only [if_pos ek]
        exact ⟨fun h => absurd (ej.trans ek.symm) h, (hE g hg).2⟩
      · simp only [if_neg ek]
        have := newE k ek (hk.elim (fun h => absurd h ek) id) hlk g hg
        exact ⟨fun _ => this.1, this.2⟩
    · simp only [if_neg ej] at hg
      have hdj : D j := hj.elim (fun h => absurd h ej) id
      by_cases ek : k = i
      · simp only [if_pos ek]
        exact ⟨fun _ h2 => (newE j ej hdj hlj g h2).1 hg, newR j ej hdj hlj g hg⟩
      · simp only [if_neg ek]
        exact hG.dis j k hdj (hk.elim (fun h => absurd h ek) id) (fun i hi => hlj i (.inr hi)) (fun i hi => hlk i (.inr hi)) g hg
  · by_cases e : j = i
    · simp only [if_pos e] at hg
      have lo := hG.fr.size
      have cb : (∃ j, j ∈ cons i ∧ E j g) → W.heap.size ≤ g ∧ g < w'.heap.size := fun ⟨k, hk, h3⟩ => by
        have := hG.bnd k (dep k (consB_dep hc ho (hcd k hk))).1 (live k (hcd k hk)) g (.inl h3)
        omega
      rcases hg with hg | hg
      · rcases (hE g hg).1 with h3 | h3
        · exact cb h3
        · omega
      · rcases hR g hg with ⟨k, hk, h3⟩ | h3 | h3
        · have := hG.bnd k (dep k (consB_dep hc ho hk)).1 (live k hk) g (.inr h3)
          omega
        · exact cb h3
        · omega
    · simp only [if_neg e] at hg
      have := hG.bnd j (hj.elim (fun h => absurd h e) id) (fun i hi => hl i (.inr hi)) g hg
      omega

theorem AllFrom.imp {R R' : Nat → Oper → Prop} (ops : Array Oper) (h : ∀ i o, ops[i]? = some o → R i o → R' i o) : ∀ (l : List Oper) (k : Nat), (∀ i, i < l.length → ops[k + i]? = l[i]?) → AllFrom R k l → AllFrom R' k l
  | [], _, _, _ => trivial
  | o :: l, k, hl, ha => ⟨h k o (by have := hl 0 (by simp); simpa using this) ha.1, AllFrom.imp ops h l (k + 1) (fun i hi => by
      have := hl (i + 1) (by simpa using hi)
      rw [show k + 1 + i = k + (i + 1) by omega, this]
      simp) ha.2⟩
/-- the law -/
theorem wp_region_sep {P : Program} {id : Nat} {L : List Oper} {Q : Exit → Act → World → Prop} {a0 : Act} {w : World} (hm : P.follows .mixedOrders = true) (ha : Apart L.toArray = true) (hb : Behind L.toArray = true) (need cons refs : Nat → List Nat) (hc : ConsB L.toArray need cons = true) (hr : RefB L.toArray refs = true)
    (O : Nat → Zone) (Res : Nat → List Value → Zone → Zone → World → Prop) (Pre : Nat → World → Prop)
    (hO : ∀ i g, O i g → g < w.heap.size) (hOO : ∀ i j g, i ≠ j → O i g → ¬ O j g)
    (hRes : ∀ (M : Zone) j us E R w1 w', Res j us E R w1 → Fr M w1 w' → (∀ g, E g → ¬ M g) → (∀ g, R g → ¬ M g) → (∀ g, O j g → ¬ M g) → (∀ g, g < w.heap.size → (∀ k, ¬ O k g) → ¬ M g) → Res j us E R w')
    (hPre : ∀ (M : Zone) j w1 w', Pre j w1 → Fr M w1 w' → (∀ g, O j g → ¬ M g) → Pre j w')
    (hp : ∀ i, Pre i w) (hstep : AllFrom (SepAt P L.toArray Q w need cons refs O Res Pre a0) 0 L)
    (hend : ∀ (vs : Nat → Value) (E R : Nat → Zone) (w' : World), Fr (fun g => ∃ i, O i g) w w' → (∀ j, j < L.length → (∀ k, k < L.length → j ∉ cons k) → Res j ((refs j).map vs) (E j) (R j) w' ∧ ∀ g, E j g ∨ R j g → w.heap.size ≤ g ∧ g < w'.heap.size) →
      (∀ j k, j < L.length → k < L.length → (∀ i, i < L.length → j ∉ cons i) → (∀ i, i < L.length → k ∉ cons i) → ∀ g, E j g → (j ≠ k → ¬ E k g) ∧ ¬ R k g) → Q .normal (putO vs L 0 a0) w') : (Code.region id L.toArray true).wp P Q a0 w := by
  have f0 : Fr (fun g => ∃ i, O i g) w w.drew := Fr.of_ext (Ext.drew _)
  refine wp_region_relies (w := w) hm ha hb (fun D vs w' => (∃ E R, SepG w cons refs O Res Pre D vs E R w') ∧ ∀ j, D j → j < L.length) (fun _ _ _ => True) ⟨⟨fun _ _ => False, fun _ _ => False, ⟨f0, fun j hj => hj.elim, fun i _ => hPre (fun _ => False) i w _ (hp i) (Fr.of_ext (Ext.drew _)) (fun _ _ h => h), fun j k hj => hj.elim, fun j hj => hj.elim⟩⟩, fun j hj => hj.elim⟩ ?_ ?_
  · refine AllFrom.imp L.toArray (fun i o ho hs => ?_) L 0 (fun i hi => by simp) hstep
    have hrl := hs.rely hb hc hr hO hOO hRes hPre ho
    have hi : i < L.length := by simpa using (Array.getElem?_eq_some_iff.1 ho).1
    intro a D vs w1 old dep hnd hcl hlt hG K hK
    exact hrl a D vs w1 old dep hnd hcl hlt hG.1 K (fun v w' hG' h1 h2 => hK v w' ⟨hG', fun j hj => hj.elim (fun e => e ▸ hi) (hG.2 j)⟩ h1 h2)
  · rintro D vs w' hD ⟨⟨E, R, hG⟩, hG2⟩ _
    have hl : ∀ j, (∀ k, k < L.length → j ∉ cons k) → ∀ k, D k → j ∉ cons k := fun j h k hk => h k (hG2 k hk)
    exact hend vs E R w' hG.fr (fun j hj h => ⟨hG.res j (hD j hj) (hl j h), hG.bnd j (hD j hj) (hl j h)⟩) (fun j k hj hk h1 h2 => hG.dis j k (hD j hj) (hD k hk) (hl j h1) (hl k h2))

end Go.Proofs.Yteplfajhmpmklaa
