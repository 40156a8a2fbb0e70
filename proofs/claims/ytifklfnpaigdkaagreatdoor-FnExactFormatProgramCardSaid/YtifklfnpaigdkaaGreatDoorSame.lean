/-
  Equality of terms: what TermSame (the reference's and the program's) and eqTerm return on every two terms.
-/
import Derived.Test.YtifklfnpaigdkaaGreatDoorRows
import Derived.Test.YtifklfnpaigdkaaGreatDoorRep
import Derived.WalkLawsBesides
import Derived.Deep.QuietTactic
import Derived.Lib.QuietBelow
import Derived.BigQuiet
namespace Go.Proofs.YtifklfnpaigdkaaGreatDoor
open Go.RowKit Go.Sort
set_option linter.unusedVariables false

/-- a region that draws its order, whose operations only read and whose calls lay new blocks alone -/
theorem region_ext {P : Program} {id : Nat} {Q : Exit → Act → World → Prop} {a : Act} {w : World} {l : List Oper} (hm : P.follows .mixedOrders = true) (hB : Region.lexB .any l.toArray = true)
    (h : wpQuiet P l.toArray (fun w' => ∃ p : Regrown, w' = grow (redrawn w p.d) p.os) (fun a' => ∀ w', Ext w w' → Q .normal a' w') l a) : (Code.region id l.toArray true).wp P Q a w :=
  wp_region_quiet (C := fun w' => ∃ p : Regrown, w' = grow (redrawn w p.d) p.os) hm hB ⟨⟨w.drawn + 1, #[]⟩, by rw [grow_empty]; rfl⟩ (by
    have hh : (fun a' => ∀ w', Ext w w' → Q .normal a' w') = (fun a' => ∀ w', (∃ p : Regrown, w' = grow (redrawn w p.d) p.os) → Q .normal a' w') := by
      funext a'
      apply propext
      constructor
      · rintro h w' ⟨p, rfl⟩
        exact h _ (below_regrown _ _ _)
      · intro h w' e
        exact h w' (regrown_of_below e)
    simpa [hh] using h)
theorem quiet_call {P : Program} {f : FuncId} {args : Array Value} {w : World} {v : Value}
    (h : ∀ w', Ext w w' → Calls P f args w' fun e w'' => e = .returned v ∧ Ext w' w'') (d : Nat) (os : Array Obj) :
    Calls P f args (grow (redrawn w d) os) fun e w'' => e = .returned v ∧ ∃ p : Regrown, w'' = grow (redrawn w p.d) p.os :=
  Calls.regrown_of (h _ (below_regrown w d os))

mutual
def Tm.same : Tm → Tm → Bool
  | .mk k n s ks, .mk k' n' s' ks' => (k == k') && (n == n') && (s.toList == s'.toList) && Tm.sameL ks ks'
def Tm.sameL : List Tm → List Tm → Bool
  | [], [] => true
  | t :: ts, u :: us => Tm.same t u && Tm.sameL ts us
  | _, _ => false
end
theorem sameL_len : ∀ {ts us : List Tm}, Tm.sameL ts us = true → ts.length = us.length
  | [], [], _ => rfl
  | t :: ts, u :: us, h => by
    simp only [Tm.sameL, Bool.and_eq_true] at h
    simp [sameL_len h.2]
  | [], u :: us, h => by simp [Tm.sameL] at h
  | t :: ts, [], h => by simp [Tm.sameL] at h
theorem sameL_no : ∀ {ts us : List Tm} {j : Nat} {t u : Tm}, ts[j]? = some t → us[j]? = some u → Tm.same t u = false → Tm.sameL ts us = false
  | [], _, j, t, u, h, _, _ => by simp at h
  | _ :: _, [], j, t, u, _, h, _ => by simp at h
  | t0 :: ts, u0 :: us, 0, t, u, h, h', hs => by
    simp at h h'; subst h; subst h'
    simp [Tm.sameL, hs]
  | t0 :: ts, u0 :: us, j + 1, t, u, h, h', hs => by
    simp only [List.getElem?_cons_succ] at h h'
    simp [Tm.sameL, sameL_no h h' hs]
theorem sameL_yes : ∀ {ts us : List Tm}, ts.length = us.length → (∀ (j : Nat) (t u : Tm), ts[j]? = some t → us[j]? = some u → Tm.same t u = true) → Tm.sameL ts us = true
  | [], [], _, _ => by simp [Tm.sameL]
  | t :: ts, u :: us, hl, h => by
    simp only [Tm.sameL, Bool.and_eq_true]
    exact ⟨h 0 t u rfl rfl, sameL_yes (by simpa using hl) (fun j t u h1 h2 => h (j + 1) t u (by simpa using h1) (by simpa using h2))⟩
  | [], u :: us, hl, _ => by simp at hl
  | t :: ts, [], hl, _ => by simp at hl
/-- the first k pairs are equal -/
def SameTo (k : Nat) (ts us : List Tm) : Prop := ∀ (j : Nat) (t u : Tm), j < k → ts[j]? = some t → us[j]? = some u → Tm.same t u = true
theorem sameTo_zero (ts us : List Tm) : SameTo 0 ts us := fun _ _ _ h => absurd h (by omega)
theorem sameTo_succ {k : Nat} {ts us : List Tm} {t u : Tm} (h : SameTo k ts us) (ht : ts[k]? = some t) (hu : us[k]? = some u) (hs : Tm.same t u = true) : SameTo (k + 1) ts us := by
  intro j t' u' hj h1 h2
  by_cases e : j = k
  · subst e
    rw [ht] at h1; rw [hu] at h2
    cases h1; cases h2; exact hs
  · exact h j t' u' (by omega) h1 h2
theorem sameTo_all {k : Nat} {ts us : List Tm} (hl : ts.length = us.length) (hk : ts.length ≤ k) (h : SameTo k ts us) : Tm.sameL ts us = true :=
  sameL_yes hl fun j t u h1 h2 => h j t u (by have := (List.getElem?_eq_some_iff.1 h1).1; omega) h1 h2
mutual
/-- the number of nodes -/
def Tm.sz : Tm → Nat
  | .mk _ _ _ ks => 1 + Tm.szL ks
def Tm.szL : List Tm → Nat
  | [] => 0
  | t :: ts => Tm.sz t + Tm.szL ts
end
theorem Tm.sz_pos (t : Tm) : 0 < Tm.sz t := by cases t; simp only [Tm.sz]; omega
theorem Tm.sz_mem : ∀ {ts : List Tm} {j : Nat} {t : Tm}, ts[j]? = some t → Tm.sz t ≤ Tm.szL ts
  | [], j, t, h => by simp at h
  | t0 :: ts, 0, t, h => by simp at h; subst h; simp only [Tm.szL]; omega
  | t0 :: ts, j + 1, t, h => by have := Tm.sz_mem (ts := ts) (j := j) (t := t) (by simpa using h); simp only [Tm.szL]; omega
theorem kid_lt {k n : Int} {s : ByteArray} {ks : List Tm} {t : Tm} {j : Nat} (h : ks[j]? = some t) : Tm.sz t < Tm.sz (Tm.mk k n s ks) := by
  have := Tm.sz_mem h
  simp only [Tm.sz]
  omega
theorem getk {ts : List Tm} {k : Nat} (h : k < ts.length) : ∃ t, ts[k]? = some t := ⟨ts[k], by simp [h]⟩

end Go.Proofs.YtifklfnpaigdkaaGreatDoor
