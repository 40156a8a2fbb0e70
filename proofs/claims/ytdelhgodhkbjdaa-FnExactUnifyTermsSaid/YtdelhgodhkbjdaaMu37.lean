/-
  Bindings (a number and a term): their reading in memory, and the plain replacing of variables.
-/
import Derived.Test.YtdelhgodhkbjdaaMu36
namespace Go.Proofs.Ytdelhgodhkbjdaa
open Go.RowKit
set_option linter.unusedVariables false

/-- a binding -/
structure Bd where
  n : Int
  t : Tm
/-- a binding in five cells -/
def Bd.cells (S : Nat → Prop) (w : World) (b off : Nat) (x : Bd) : Prop := w.cell? ⟨b, off, none⟩ = some (.int .i64 x.n) ∧ Tm.cells S w b (off + 1) x.t
def Bd.row (S : Nat → Prop) (w : World) (b off : Nat) : List Bd → Prop
  | [] => True
  | x :: xs => Bd.cells S w b off x ∧ Bd.row S w b (off + 5) xs
/-- a slice of bindings -/
def Bd.sl (S : Nat → Prop) (w : World) (xs : List Bd) (v : Value) : Prop :=
  ∃ a cap, v = .slice a xs.length cap ∧ xs.length ≤ cap ∧ cap ≤ 9223372036854775807 ∧ xs.length ≤ 1048576 ∧
    (xs = [] ∨ ∃ b off, a = some ⟨b, off, none⟩ ∧ S b ∧ Bd.row S w b off xs)
theorem Bd.row_mono {S S' : Nat → Prop} {w w' : World} (hS : ∀ b, S b → S' b) (ha : Agree S w w') {b : Nat} (hb : S b) : ∀ (xs : List Bd) (off : Nat), Bd.row S w b off xs → Bd.row S' w' b off xs
  | [], _, _ => trivial
  | x :: xs, off, h => by
    obtain ⟨⟨h1, h2⟩, h4⟩ := h
    exact ⟨⟨ha _ _ _ hb h1, Tm.cells_mono hS ha (b' := 0) (fun o v => ha _ o v hb) _ h2⟩, Bd.row_mono hS ha hb xs _ h4⟩
theorem Bd.sl_mono {S S' : Nat → Prop} {w w' : World} (hS : ∀ b, S b → S' b) (ha : Agree S w w') {xs : List Bd} {v : Value} (h : Bd.sl S w xs v) : Bd.sl S' w' xs v := by
  obtain ⟨a, cap, h1, h2, h3, h4, h5⟩ := h
  refine ⟨a, cap, h1, h2, h3, h4, ?_⟩
  rcases h5 with h5 | ⟨b, off, h5, h6, h7⟩
  · exact .inl h5
  · exact .inr ⟨b, off, h5, hS _ h6, Bd.row_mono hS ha h6 xs _ h7⟩
theorem Bd.sl_ext {S : Nat → Prop} {w w' : World} (e : Ext w w') {xs : List Bd} {v : Value} (h : Bd.sl S w xs v) : Bd.sl S w' xs v := Bd.sl_mono (fun _ h => h) (Agree.of_ext e) h
theorem Bd.row_get {S : Nat → Prop} {w : World} {b : Nat} : ∀ {xs : List Bd} {off : Nat}, Bd.row S w b off xs → ∀ (i : Nat) (x : Bd), xs[i]? = some x → Bd.cells S w b (off + i * 5) x
  | [], _, _, i, t, h => by simp at h
  | c0 :: cs, off, h, 0, t, ht => by
    simp at ht; subst ht
    simpa using h.1
  | c0 :: cs, off, h, i + 1, t, ht => by
    have := Bd.row_get h.2 i t (by simpa using ht)
    rw [show off + (i + 1) * 5 = off + 5 + i * 5 by omega]
    exact this
/-- one element of a row, read later -/
theorem Bd.get {S : Nat → Prop} {w wr : World} {xs : List Bd} {a : Option Addr} {k : Nat} {x : Bd}
    (h : xs = [] ∨ ∃ b off, a = some ⟨b, off, none⟩ ∧ S b ∧ Bd.row S w b off xs) (hx : xs[k]? = some x) (he : Ext w wr) :
    ∃ b off ak ck, a = some ⟨b, off, none⟩ ∧ wr.cell? ⟨b, off + k * 5, none⟩ = some (.int .i64 x.n) ∧
      wr.cell? ⟨b, off + k * 5 + 1, none⟩ = some (.int .i64 x.t.kind) ∧ wr.cell? ⟨b, off + k * 5 + 2, none⟩ = some (.int .i64 x.t.n) ∧ wr.cell? ⟨b, off + k * 5 + 3, none⟩ = some (.string x.t.name) ∧
      wr.cell? ⟨b, off + k * 5 + 4, none⟩ = some (.slice ak x.t.kids.length ck) ∧
      Tm.at S w x.t (.agg #[.int .i64 x.t.kind, .int .i64 x.t.n, .string x.t.name, .slice ak x.t.kids.length ck]) := by
  rcases h with h4 | ⟨b, off, rfl, hSb, hrow⟩
  · rw [h4] at hx; simp at hx
  obtain ⟨h1, h2⟩ := Bd.row_get hrow k x hx
  obtain ⟨ak, ck, c0, c1, c2, c3, hat⟩ := Tm.at_of_cells h2
  exact ⟨b, off, ak, ck, rfl, he.cell h1, he.cell c0, he.cell c1, he.cell c2, he.cell c3, hat⟩
theorem bgetk {xs : List Bd} {k : Nat} (h : k < xs.length) : ∃ x, xs[k]? = some x := ⟨xs[k], by simp [h]⟩

/-- what a variable stands for -/
def findF (n : Int) : List Bd → Option Tm
  | [] => none
  | x :: xs => if x.n = n then some x.t else findF n xs
theorem find_none {n : Int} : ∀ {xs : List Bd}, (∀ (j : Nat) (x : Bd), xs[j]? = some x → x.n ≠ n) → findF n xs = none
  | [], _ => rfl
  | x :: xs, h => by
    simp only [findF]
    rw [if_neg (h 0 x rfl), find_none (fun j y hy => h (j + 1) y (by simpa using hy))]
theorem find_at {n : Int} : ∀ {xs : List Bd} {k : Nat} {x : Bd}, xs[k]? = some x → x.n = n → (∀ (j : Nat) (y : Bd), j < k → xs[j]? = some y → y.n ≠ n) → findF n xs = some x.t
  | [], k, x, h, _, _ => by simp at h
  | x0 :: xs, 0, x, h, hn, _ => by simp at h; subst h; simp [findF, hn]
  | x0 :: xs, k + 1, x, h, hn, hb => by
    simp only [findF]
    rw [if_neg (hb 0 x0 (by omega) rfl)]
    exact find_at (by simpa using h) hn (fun j y hj hy => hb (j + 1) y (by omega) (by simpa using hy))
mutual
/-- all variables replaced at once -/
def applyS (bs : List Bd) : Tm → Tm
  | .mk k n s ks => if k = 1 ∧ (findF n bs).isSome = true then (findF n bs).getD (.mk k n s ks) else .mk k n s (applySL bs ks)
def applySL (bs : List Bd) : List Tm → List Tm
  | [] => []
  | t :: ts => applyS bs t :: applySL bs ts
end
theorem applySL_len (bs : List Bd) : ∀ ts : List Tm, (applySL bs ts).length = ts.length
  | [] => rfl
  | t :: ts => by simp [applySL, applySL_len bs ts]
theorem applySL_snoc (bs : List Bd) : ∀ {ts : List Tm} {j : Nat} {t : Tm}, ts[j]? = some t → applySL bs (ts.take (j + 1)) = applySL bs (ts.take j) ++ [applyS bs t]
  | [], j, t, h => by simp at h
  | t0 :: ts, 0, t, h => by simp at h; subst h; simp [applySL]
  | t0 :: ts, j + 1, t, h => by
    simp only [List.take_succ_cons, applySL, List.cons_append]
    rw [applySL_snoc bs (by simpa using h)]
/-- a copy -/
def cp1 (t : Tm) : Tm := t
def cpL (ts : List Tm) : List Tm := ts
theorem cpL_len (ts : List Tm) : (cpL ts).length = ts.length := rfl
theorem cpL_snoc {ts : List Tm} {j : Nat} {t : Tm} (h : ts[j]? = some t) : cpL (ts.take (j + 1)) = cpL (ts.take j) ++ [cp1 t] := by
  unfold cpL cp1
  obtain ⟨hk, rfl⟩ := List.getElem?_eq_some_iff.1 h
  rw [List.take_succ_eq_append_getElem hk]

end Go.Proofs.Ytdelhgodhkbjdaa
