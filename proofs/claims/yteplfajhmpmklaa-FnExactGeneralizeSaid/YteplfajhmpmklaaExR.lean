/-
  A region of the exact laws of two terms: both arguments made anew, a call that returns a term and a sign, the term laid in a box.
-/
import Derived.Test.YteplfajhmpmklaaGenS2
import Derived.Test.YteplfajhmpmklaaToOwn
namespace Go.Proofs.Yteplfajhmpmklaa
open Go.RowKit
set_option linter.unusedVariables false

/-- the law, the steps whatever follows -/
theorem wp_region_sepQ {P : Program} {id : Nat} {L : List Oper} {Q : Exit → Act → World → Prop} {a0 : Act} {w : World} (hm : P.follows .mixedOrders = true) (ha : Apart L.toArray = true) (hb : Behind L.toArray = true) (need cons refs : Nat → List Nat) (hc : ConsB L.toArray need cons = true) (hr : RefB L.toArray refs = true)
    (O : Nat → Zone) (Res : Nat → List Value → Zone → Zone → World → Prop) (Pre : Nat → World → Prop)
    (hO : ∀ i g, O i g → g < w.heap.size) (hOO : ∀ i j g, i ≠ j → O i g → ¬ O j g)
    (hRes : ∀ (M : Zone) j us E R w1 w', Res j us E R w1 → Fr M w1 w' → (∀ g, E g → ¬ M g) → (∀ g, R g → ¬ M g) → (∀ g, O j g → ¬ M g) → (∀ g, g < w.heap.size → (∀ k, ¬ O k g) → ¬ M g) → Res j us E R w')
    (hPre : ∀ (M : Zone) j w1 w', Pre j w1 → Fr M w1 w' → (∀ g, O j g → ¬ M g) → Pre j w')
    (hp : ∀ i, Pre i w) (hstep : ∀ Q' : Exit → Act → World → Prop, AllFrom (SepAt P L.toArray Q' w need cons refs O Res Pre a0) 0 L)
    (hend : ∀ (vs : Nat → Value) (E R : Nat → Zone) (w' : World), Fr (fun g => ∃ i, O i g) w w' → (∀ j, j < L.length → (∀ k, k < L.length → j ∉ cons k) → Res j ((refs j).map vs) (E j) (R j) w' ∧ ∀ g, E j g ∨ R j g → w.heap.size ≤ g ∧ g < w'.heap.size) →
      (∀ j k, j < L.length → k < L.length → (∀ i, i < L.length → j ∉ cons i) → (∀ i, i < L.length → k ∉ cons i) → ∀ g, E j g → (j ≠ k → ¬ E k g) ∧ ¬ R k g) → Q .normal (putO vs L 0 a0) w') : (Code.region id L.toArray true).wp P Q a0 w :=
  wp_region_sep hm ha hb need cons refs hc hr O Res Pre hO hOO hRes hPre hp (hstep Q) hend
def tupB (r : Tm) (b : Bool) (a : Option Addr) (c : Nat) : Value := .tuple #[val4 r a c, .bool b]
def OwnV (t : Tm) (v : Value) (R : Zone) (w : World) : Prop := ∃ a c, v = val4 t a c ∧ Tm.own R w t (.slice a t.kids.length c)
theorem OwnV.fr {M : Zone} {t : Tm} {v : Value} {R : Zone} {w w' : World} (h : OwnV t v R w) (f : Fr M w w') (hR : ∀ g, R g → ¬ M g) : OwnV t v R w' := by
  obtain ⟨a, c, h1, h2⟩ := h
  exact ⟨a, c, h1, own_mono (fun _ h => h) f hR _ _ h2⟩
def RX (t0 t1 : Tm) (x0 x1 : Option Addr) (y0 y1 : Nat) (r : Tm) (bb : Bool) (i : Nat) (us : List Value) (E R : Zone) (w : World) : Prop :=
  match i with
  | 0 => us.headD undef = val4 t0 x0 y0
  | 1 => OwnV t0 (us.headD undef) R w
  | 2 => us.headD undef = val4 t1 x1 y1
  | 3 => OwnV t1 (us.headD undef) R w
  | 4 => ∃ a c, us.headD undef = tupB r bb a c ∧ Tm.own R w r (.slice a r.kids.length c)
  | 5 => ∃ a c, us = [tupB r bb a c, tupB r bb a c]
  | 6 => ∃ a c, us = [val4 r a c, tupB r bb a c]
  | 7 => us.headD undef = .bool bb
  | 8 => AlcT w (.int .i64 0) (.int .i64 0) (.string ⟨#[]⟩) (.slice none 0 0) (us.headD undef) E
  | 9 => ∃ v a c, us = [v, tupB r bb a c] ∧ AlcT w (.int .i64 r.kind) (.int .i64 r.n) (.string r.name) (.slice a r.kids.length c) v E
  | 10 => us.headD undef = .bool bb
  | _ => True
def refsX : Nat → List Nat
  | 5 => [5, 4]
  | 6 => [6, 4]
  | 9 => [8, 4]
  | j => [j]
def needX : Nat → List Nat
  | 1 => [0]
  | 3 => [2]
  | 4 => [1, 3]
  | 5 => [4]
  | 6 => [5]
  | 7 => [5]
  | 9 => [8, 6]
  | 10 => [7]
  | _ => []
def consX : Nat → List Nat
  | 9 => [8]
  | _ => []
theorem cX {j : Nat} (hj : j = 4 ∨ j = 9 ∨ j = 10) (k : Nat) : j ∉ consX k := by
  unfold consX
  rcases hj with rfl | rfl | rfl <;> split <;> simp
theorem RX.fr {t0 t1 : Tm} {x0 x1 : Option Addr} {y0 y1 : Nat} {r : Tm} {bb : Bool} (M : Zone) : ∀ (i : Nat) (us : List Value) (E R : Zone) (w w' : World), RX t0 t1 x0 x1 y0 y1 r bb i us E R w → Fr M w w' → (∀ g, E g → ¬ M g) → (∀ g, R g → ¬ M g) → RX t0 t1 x0 x1 y0 y1 r bb i us E R w'
  | 0, _, _, _, _, _, h, _, _, _ => h
  | 1, _, _, _, _, _, h, f, _, hR => OwnV.fr h f hR
  | 2, _, _, _, _, _, h, _, _, _ => h
  | 3, _, _, _, _, _, h, f, _, hR => OwnV.fr h f hR
  | 4, _, _, _, _, _, h, f, _, hR => by
    obtain ⟨a, c, h1, h2⟩ := h
    exact ⟨a, c, h1, own_mono (fun _ h => h) f hR _ _ h2⟩
  | 5, _, _, _, _, _, h, _, _, _ => h
  | 6, _, _, _, _, _, h, _, _, _ => h
  | 7, _, _, _, _, _, h, _, _, _ => h
  | 8, _, _, _, _, _, h, f, hE, _ => AlcT.fr h f hE
  | 9, _, _, _, _, _, h, f, hE, _ => by
    obtain ⟨v, a, c, h1, h2⟩ := h
    exact ⟨v, a, c, h1, h2.fr f hE⟩
  | 10, _, _, _, _, _, h, _, _, _ => h
  | _ + 11, _, _, _, _, _, _, _, _, _ => trivial
/-- the region's end -/
theorem RX.fin {t0 t1 : Tm} {x0 x1 : Option Addr} {y0 y1 : Nat} {r : Tm} {bb : Bool} {n : Nat} (hn : n = 11) {vs : Nat → Value} {E R : Nat → Zone} {w w' : World} (f : Fr (fun g => ∃ i, O0 i g) w w')
    (hres : ∀ j, j < n → (∀ k, k < n → j ∉ consX k) → RX t0 t1 x0 x1 y0 y1 r bb j ((refsX j).map vs) (E j) (R j) w' ∧ ∀ g, E j g ∨ R j g → w.heap.size ≤ g ∧ g < w'.heap.size)
    (hdis : ∀ j k, j < n → k < n → (∀ i, i < n → j ∉ consX i) → (∀ i, i < n → k ∉ consX i) → ∀ g, E j g → (j ≠ k → ¬ E k g) ∧ ¬ R k g) :
    ∃ nb a c, vs 8 = .pointer (some ⟨nb, 0, none⟩) ∧ vs 10 = .bool bb ∧ BoxT w' nb (.int .i64 r.kind) (.int .i64 r.n) (.string r.name) (.slice a r.kids.length c) ∧ Tm.own (fun b => w.heap.size ≤ b ∧ b < w'.heap.size ∧ b ≠ nb) w' r (.slice a r.kids.length c) ∧ w.heap.size ≤ nb ∧ nb < w'.heap.size ∧ Ext w w' := by
  subst hn
  obtain ⟨⟨a, c, h1, h2⟩, h3⟩ := hres 4 (by decide) (fun k _ => cX (by decide) k)
  obtain ⟨⟨v, a2, c2, h4, nb, h5, h6, h7⟩, h8⟩ := hres 9 (by decide) (fun k _ => cX (by decide) k)
  have h9 := (hres 10 (by decide) (fun k _ => cX (by decide) k)).1
  have hd := hdis 9 4 (by decide) (by decide) (fun k _ => cX (by decide) k) (fun k _ => cX (by decide) k) nb h6
  replace h1 : vs 4 = tupB r bb a c := h1
  replace h4 : [vs 8, vs 4] = [v, tupB r bb a2 c2] := h4
  simp only [List.cons.injEq, and_true] at h4
  obtain ⟨h4, h10⟩ := h4
  rw [h1] at h10
  simp only [tupB, val4, Value.tuple.injEq, Array.mk.injEq, List.cons.injEq, Value.agg.injEq, Value.slice.injEq, and_true, true_and] at h10
  obtain ⟨rfl, rfl⟩ := h10
  refine ⟨nb, a, c, h4.trans h5, h9, h7, own_zone h2 (fun b hb => ?_), (h8 nb (.inl h6)).1, (h8 nb (.inl h6)).2, f.toExt (fun k _ => by rintro ⟨_, h⟩; exact h)⟩
  have := h3 b (.inr hb)
  exact ⟨this.1, this.2, fun e => hd.2 (e ▸ hb)⟩

theorem genR_sz (t u : Tm) : Tm.szL (genR t u).kids ≤ 120 := by
  cases h : genB t u
  · rw [gen_no h]; simp [zeroT, Tm.kids, Tm.szL]
  · have hv : validF (genR t u) = true := by
      unfold genB at h
      unfold genR
      rw [if_pos (by unfold genB; exact h)]
      simp only [Bool.and_eq_true] at h
      exact h.2
    rw [valid_eq] at hv
    simp only [Bool.and_eq_true, decide_eq_true_eq] at hv
    have := kids_sz (genR t u)
    omega
end Go.Proofs.Yteplfajhmpmklaa
