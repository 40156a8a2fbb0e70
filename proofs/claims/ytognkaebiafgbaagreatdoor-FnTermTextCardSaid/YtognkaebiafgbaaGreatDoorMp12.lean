/-
  Lists of numbers: what they read as; append; membership; the variables of a term, in the program and in the reference.
-/
import Derived.Test.YtognkaebiafgbaaGreatDoorMp11
import Derived.Test.YtognkaebiafgbaaGreatDoorMp7
namespace Go.Proofs.YtognkaebiafgbaaGreatDoor
open Go.RowKit
set_option linter.unusedVariables false

def hasI (zs : List Int) (x : Int) : Bool := zs.contains x
def eqI (zs us : List Int) : Bool := zs == us
mutual
/-- the program's list of variables -/
def varsF : Tm → List Int → List Int
  | .mk k n _ ks, zs => varsL ks (if (k == 1 && !(hasI zs n)) = true then zs ++ [n] else zs)
def varsL : List Tm → List Int → List Int
  | [], zs => zs
  | t :: ts, zs => varsL ts (varsF t zs)
end
mutual
/-- the reference's -/
def varsS : Tm → List Int → List Int
  | .mk k n _ ks, zs => if (k == 1) = true then (if hasI zs n = true then zs else zs ++ [n]) else varsSL ks zs
def varsSL : List Tm → List Int → List Int
  | [], zs => zs
  | t :: ts, zs => varsSL ts (varsS t zs)
end
theorem varsL_snoc : ∀ {ts : List Tm} {k : Nat} {t : Tm} {zs : List Int}, ts[k]? = some t → varsL (ts.take (k + 1)) zs = varsF t (varsL (ts.take k) zs)
  | [], k, t, zs, h => by simp at h
  | t0 :: ts, 0, t, zs, h => by simp at h; subst h; simp [varsL]
  | t0 :: ts, k + 1, t, zs, h => by simp only [List.take_succ_cons, varsL]; exact varsL_snoc (by simpa using h)
theorem varsSL_snoc : ∀ {ts : List Tm} {k : Nat} {t : Tm} {zs : List Int}, ts[k]? = some t → varsSL (ts.take (k + 1)) zs = varsS t (varsSL (ts.take k) zs)
  | [], k, t, zs, h => by simp at h
  | t0 :: ts, 0, t, zs, h => by simp at h; subst h; simp [varsSL]
  | t0 :: ts, k + 1, t, zs, h => by simp only [List.take_succ_cons, varsSL]; exact varsSL_snoc (by simpa using h)
mutual
theorem varsF_len : ∀ (t : Tm) (zs : List Int), (varsF t zs).length ≤ zs.length + Tm.sz t
  | .mk k n s ks, zs => by
    simp only [varsF, Tm.sz]
    have := varsL_len ks (if (k == 1 && !(hasI zs n)) = true then zs ++ [n] else zs)
    have h2 : (if (k == 1 && !(hasI zs n)) = true then zs ++ [n] else zs).length ≤ zs.length + 1 := by split <;> simp
    omega
theorem varsL_len : ∀ (ts : List Tm) (zs : List Int), (varsL ts zs).length ≤ zs.length + Tm.szL ts
  | [], zs => by simp [varsL, Tm.szL]
  | t :: ts, zs => by
    simp only [varsL, Tm.szL]
    have h1 := varsF_len t zs
    have h2 := varsL_len ts (varsF t zs)
    omega
end
mutual
theorem varsS_len : ∀ (t : Tm) (zs : List Int), (varsS t zs).length ≤ zs.length + Tm.sz t
  | .mk k n s ks, zs => by
    simp only [varsS, Tm.sz]
    have := varsSL_len ks zs
    split
    · split <;> simp <;> omega
    · omega
theorem varsSL_len : ∀ (ts : List Tm) (zs : List Int), (varsSL ts zs).length ≤ zs.length + Tm.szL ts
  | [], zs => by simp [varsSL, Tm.szL]
  | t :: ts, zs => by
    simp only [varsSL, Tm.szL]
    have h1 := varsS_len t zs
    have h2 := varsSL_len ts (varsS t zs)
    omega
end
theorem szL_take {ts : List Tm} {k : Nat} {t : Tm} (h : ts[k]? = some t) : Tm.szL (ts.take k) + Tm.sz t ≤ Tm.szL ts := by
  induction ts generalizing k with
  | nil => simp at h
  | cons t0 ts ih =>
    cases k with
    | zero => simp at h; subst h; simp [Tm.szL]
    | succ k =>
      have := ih (k := k) (by simpa using h)
      simp only [List.take_succ_cons, Tm.szL]
      omega
mutual
theorem vars_eq : ∀ (t : Tm) (d : Nat) (zs : List Int), shapeF t d = true → varsS t zs = varsF t zs
  | .mk k n s ks, d, zs, h => by
    simp only [shapeF, Bool.and_eq_true] at h
    simp only [varsS, varsF]
    by_cases hk : k = 1
    · subst hk
      have hks : ks = [] := by
        have := h.1.2
        simp [ownF] at this
        exact List.eq_nil_of_length_eq_zero (by simpa using this.2)
      subst hks
      simp only [varsL]
      cases hasI zs n <;> simp
    · have hk' : (k == 1) = false := by simpa using hk
      simp only [hk', Bool.false_and, if_false, Bool.false_eq_true]
      exact varsL_eq ks (d - 1) zs h.2
theorem varsL_eq : ∀ (ts : List Tm) (d : Nat) (zs : List Int), shapeL ts d = true → varsSL ts zs = varsL ts zs
  | [], d, zs, _ => rfl
  | t :: ts, d, zs, h => by
    simp only [shapeL, Bool.and_eq_true] at h
    simp only [varsSL, varsL]
    rw [vars_eq t d zs h.1]
    exact varsL_eq ts d _ h.2
end

/-- a list of numbers in a row of its own, in zone Z -/
def IntI (Z : Nat → Prop) (zs : List Int) (v : Value) (w : World) : Prop := w.ownsRow 0 3 1 v zs.length (zs.map (Value.int .i64)) ∧ (∀ g, v.ownBlock = some g → Z g) ∧ zs.length ≤ 1048576
theorem IntI.nil (Z : Nat → Prop) (w : World) : IntI Z [] (.slice none 0 0) w := ⟨⟨rfl, .inl ⟨rfl, rfl⟩⟩, by simp [Value.ownBlock], by simp⟩
theorem IntI.form {Z : Nat → Prop} {zs : List Int} {v : Value} {w : World} (h : IntI Z zs v w) : ∃ a c, v = .slice a zs.length c := own_form h.1
theorem IntI.empty {w : World} {b : Nat} {Z : Nat → Prop} (hb : b = w.heap.size) (hz : Z b) : IntI Z [] (.slice (some ⟨b, 0, none⟩) 0 0) (w.alloc (.cells #[] 3)) := by
  subst hb
  refine ⟨⟨rfl, .inr ⟨w.heap.size, 0, #[], rfl, Nat.zero_le _, ?_, by simp, by decide, rfl, rfl⟩⟩, by intro g hg; simp [Value.ownBlock] at hg; subst hg; exact hz, by simp⟩
  show (w.heap.push _)[w.heap.size]? = _
  simp
theorem own_keep {w w' : World} {e size n : Nat} {v : Value} {xs : List Value} {M : Nat → Prop} (h : w.ownsRow 0 e size v n xs) (f : Fr M w w') (hM : ∀ g, v.ownBlock = some g → ¬ M g) : w'.ownsRow 0 e size v n xs := by
  obtain ⟨e1, e2⟩ := h
  refine ⟨e1, ?_⟩
  rcases e2 with e2 | ⟨g, cap, cur, rfl, e3, e4, e5⟩
  · exact .inl e2
  · refine .inr ⟨g, cap, cur, rfl, e3, ?_, e5⟩
    rw [f.block g (by
      obtain ⟨x, _⟩ := Array.getElem?_eq_some_iff.1 e4
      exact x) (hM g rfl)]
    exact e4
theorem IntI.keep {Z M : Nat → Prop} {zs : List Int} {v : Value} {w w' : World} (h : IntI Z zs v w) (f : Fr M w w') (hM : ∀ k, k < w.heap.size → M k → ¬ Z k) : IntI Z zs v w' := by
  refine ⟨own_keep h.1 f (fun g hg hm => ?_), h.2⟩
  exact hM g (h.1.lt g hg).2 hm (h.2.1 g hg)
theorem IntI.ext {Z : Nat → Prop} {zs : List Int} {v : Value} {w w' : World} (h : IntI Z zs v w) (e : Ext w w') : IntI Z zs v w' := h.keep (M := fun _ => False) (Fr.of_ext e) (fun _ _ h => h.elim)
theorem IntI.bound {Z : Nat → Prop} {zs : List Int} {v : Value} {w : World} (h : IntI Z zs v w) : IntI (fun b => Z b ∧ b < w.heap.size) zs v w := ⟨h.1, fun g hg => ⟨h.2.1 g hg, (h.1.lt g hg).2⟩, h.2.2⟩
theorem IntI.zone {Z Z' : Nat → Prop} {zs : List Int} {v : Value} {w : World} (h : IntI Z zs v w) (hz : ∀ b, Z b → Z' b) : IntI Z' zs v w := ⟨h.1, fun g hg => hz g (h.2.1 g hg), h.2.2⟩
theorem IntI.ints {Z : Nat → Prop} {zs : List Int} {v : Value} {w : World} (h : IntI Z zs v w) : IntsAt w zs v := by
  obtain ⟨h1, h2, h3⟩ := h
  have hc := fun g (hg : v.ownBlock = some g) => h1.cells hg
  obtain ⟨e1, e2⟩ := h1
  rcases e2 with ⟨rfl, e2⟩ | ⟨g, cap, cur, rfl, e3, e4, e5, e6, e7⟩
  · have : zs = [] := List.eq_nil_of_length_eq_zero e2
    subst this
    exact ⟨none, 0, rfl, by simp, by omega, by simp, .inl rfl⟩
  · refine ⟨_, cap, rfl, e5, by unfold maxLen at e6; omega, h3, .inr ⟨g, 0, rfl, fun i z hz => ?_⟩⟩
    have := hc g rfl i (.int .i64 z) (by simp [hz])
    rw [show (⟨g, 0, none⟩ : Addr).add i = ⟨g, 0 + i, none⟩ by unfold Addr.add; split <;> simp_all] at this
    exact this
theorem IntsAt.ext {w w' : World} {zs : List Int} {v : Value} (h : IntsAt w zs v) (e : Ext w w') : IntsAt w' zs v := by
  obtain ⟨a, cap, h1, h2, h3, h4, h5⟩ := h
  refine ⟨a, cap, h1, h2, h3, h4, ?_⟩
  rcases h5 with h5 | ⟨b, off, h5, h6⟩
  · exact .inl h5
  · exact .inr ⟨b, off, h5, fun i z hz => e.cell (h6 i z hz)⟩

theorem wpList_append_int {P : Program} {ops : Array Oper} {rest : List Oper} {o : Oper} {a : Act} {w1 : World} {Q : Exit → Act → World → Prop}
    (hgd : o.guard = none) (s x : Operand) (ty : TypeId)
    (ho : o.op = .call { callee := .builtin .append, args := #[s, x], argTypes := #[ty, ty] })
    (Z : Nat → Prop) (i : TypeInfo) (ht : P.underlying ty = some (.slice 3)) (hi : P.info? 3 = some i) (hz : i.zero = some (.int .i64 0))
    (hsize : i.size = 1) (hby : i.bytes = 8)
    (v : Value) (zs : List Int) (z : Int) (hs : a.eval s = v) (happ : IntI Z zs v w1) {nb : Nat} (hx : a.eval x = .slice (some ⟨nb, 0, none⟩) 1 1)
    (hl : zs.length < 1048576) (hnew : ∀ b, w1.heap.size ≤ b → Z b) (hnb : nb = w1.heap.size)
    (h : ∀ av cv w2, IntI Z (zs ++ [z]) (.slice av (zs.length + 1) cv) w2 → Fr Z w1 w2 → wpList P ops Q rest (a.put o.dst (.slice av (zs.length + 1) cv)) w2) :
    wpList P ops Q (o :: rest) a (w1.alloc (.cells #[.int .i64 z] 3)) := by
  subst hnb
  obtain ⟨how, hzz, hlen⟩ := happ
  refine wpList_append_fresh hgd s x ty ho 0 3 i _ 1 8 ht hi hz hsize hby rfl (by decide) v zs.length _ hs (own_ext how (Ext.alloc _ _)) ⟨w1.heap.size, 0, none⟩ 1 1 [.int .i64 z] hx rfl (fun j u h => ?_) (by simp [Value.oneCell']) (by unfold maxLen; omega) (by omega) (by omega) ?_
  · have hj : j = 0 := by
      have := (List.getElem?_eq_some_iff.1 h).1
      simpa using this
    subst hj
    simp at h
    subst h
    have := cell_new w1 #[.int .i64 z] 3 0 (.int .i64 z) rfl
    simp [Addr.add] at this ⊢
  intro v2 w2 ho2 hg2 hfr2 _
  obtain ⟨av, cv, rfl⟩ := own_form ho2
  refine h av cv w2 ⟨by simpa using ho2, ?_, by simp; omega⟩ ((Fr.alloc _ _).trans (Fr.of_grown hg2 (fun k hk => hzz k hk)))
  intro g hg
  rcases hfr2 g hg with hh | hh
  · exact hzz g hh
  · exact hnew g (by simp at hh; omega)

theorem has_take {zs : List Int} {k : Nat} {x z : Int} (hz : zs[k]? = some z) (h : hasI (zs.take k) x = false) (hne : z ≠ x) : hasI (zs.take (k + 1)) x = false := by
  rw [take_snoc_of hz]
  simp [hasI] at h ⊢
  exact ⟨h, fun e => hne e.symm⟩
theorem has_now {zs : List Int} {k : Nat} {x : Int} (hz : zs[k]? = some x) : hasI zs x = true := by
  simp [hasI]
  exact List.mem_of_getElem? hz
theorem has_end {zs : List Int} {k : Nat} {x : Int} (hk : zs.length ≤ k) (h : hasI (zs.take k) x = false) : hasI zs x = false := by
  rw [List.take_of_length_le hk] at h; exact h




end Go.Proofs.YtognkaebiafgbaaGreatDoor
