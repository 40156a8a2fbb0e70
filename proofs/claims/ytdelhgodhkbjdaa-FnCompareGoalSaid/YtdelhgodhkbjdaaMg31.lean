/-
  Bindings (a number and a term): their reading in memory, and the plain replacing of variables.
-/
import Derived.Test.YtdelhgodhkbjdaaMg30
import Derived.Test.YtdelhgodhkbjdaaMg28
namespace Go.Proofs.Ytdelhgodhkbjdaa
open Go.RowKit
set_option linter.unusedVariables false

/-- a binding -/
structure Bd where
  n : Int
  t : Tm
/-- a binding in five cells -/
def Bd.cells (S : Nat → Prop) (w : World) (b off : Nat) (x : Bd) : Prop := w.cell? ⟨b, off, none⟩ = some (.int .i64 x.n) ∧ Tm.cells S w b (off + 1) x.t
def Bd.row (S : Nat → Prop) (w : World) (b off : Nat) : List Bd → Prop
  | [] => True
  | x :: xs => Bd.cells S w b off x ∧ Bd.row S w b (off + 5) xs
/-- a slice of bindings -/
def Bd.sl (S : Nat → Prop) (w : World) (xs : List Bd) (v : Value) : Prop :=
  ∃ a cap, v = .slice a xs.length cap ∧ xs.length ≤ cap ∧ cap ≤ 9223372036854775807 ∧ xs.length ≤ 1048576 ∧
    (xs = [] ∨ ∃ b off, a = some ⟨b, off, none⟩ ∧ S b ∧ Bd.row S w b off xs)
theorem Bd.row_mono {S S' : Nat → Prop} {w w' : World} (hS : ∀ b, S b → S' b) (ha : Agree S w w') {b : Nat} (hb : S b) : ∀ (xs : List Bd) (off : Nat), Bd.row S w b off xs → Bd.row S' w' b off xs
  | [], _, _ => trivial
  | x :: xs, off, h => by
    obtain ⟨⟨h1, h2⟩, h4⟩ := h
    exact ⟨⟨ha _ _ _ hb h1, Tm.cells_mono hS ha (b' := 0) (fun o v => ha _ o v hb) _ h2⟩, Bd.row_mono hS ha hb xs _ h4⟩
theorem Bd.sl_mono {S S' : Nat → Prop} {w w' : World} (hS : ∀ b, S b → S' b) (ha : Agree S w w') {xs : List Bd} {v : Value} (h : Bd.sl S w xs v) : Bd.sl S' w' xs v := by
  obtain ⟨a, cap, h1, h2, h3, h4, h5⟩ := h
  refine ⟨a, cap, h1, h2, h3, h4, ?_⟩
  rcases h5 with h5 | ⟨b, off, h5, h6, h7⟩
  · exact .inl h5
  · exact .inr ⟨b, off, h5, hS _ h6, Bd.row_mono hS ha h6 xs _ h7⟩
theorem Bd.sl_ext {S : Nat → Prop} {w w' : World} (e : Ext w w') {xs : List Bd} {v : Value} (h : Bd.sl S w xs v) : Bd.sl S w' xs v := Bd.sl_mono (fun _ h => h) (Agree.of_ext e) h
theorem Bd.row_get {S : Nat → Prop} {w : World} {b : Nat} : ∀ {xs : List Bd} {off : Nat}, Bd.row S w b off xs → ∀ (i : Nat) (x : Bd), xs[i]? = some x → Bd.cells S w b (off + i * 5) x
  | [], _, _, i, t, h => by simp at h
  | c0 :: cs, off, h, 0, t, ht => by
    simp at ht; subst ht
    simpa using h.1
  | c0 :: cs, off, h, i + 1, t, ht => by
    have := Bd.row_get h.2 i t (by simpa using ht)
    rw [show off + (i + 1) * 5 = off + 5 + i * 5 by omega]
    exact this
/-- one element of a row, read later -/
theorem Bd.get {S : Nat → Prop} {w wr : World} {xs : List Bd} {a : Option Addr} {k : Nat} {x : Bd}
    (h : xs = [] ∨ ∃ b off, a = some ⟨b, off, none⟩ ∧ S b ∧ Bd.row S w b off xs) (hx : xs[k]? = some x) (he : Ext w wr) :
    ∃ b off ak ck, a = some ⟨b, off, none⟩ ∧ wr.cell? ⟨b, off + k * 5, none⟩ = some (.int .i64 x.n) ∧
      wr.cell? ⟨b, off + k * 5 + 1, none⟩ = some (.int .i64 x.t.kind) ∧ wr.cell? ⟨b, off + k * 5 + 2, none⟩ = some (.int .i64 x.t.n) ∧ wr.cell? ⟨b, off + k * 5 + 3, none⟩ = some (.string x.t.name) ∧
      wr.cell? ⟨b, off + k * 5 + 4, none⟩ = some (.slice ak x.t.kids.length ck) ∧
      Tm.at S w x.t (.agg #[.int .i64 x.t.kind, .int .i64 x.t.n, .string x.t.name, .slice ak x.t.kids.length ck]) := by
  rcases h with h4 | ⟨b, off, rfl, hSb, hrow⟩
  · rw [h4] at hx; simp at hx
  obtain ⟨h1, h2⟩ := Bd.row_get hrow k x hx
  obtain ⟨ak, ck, c0, c1, c2, c3, hat⟩ := Tm.at_of_cells h2
  exact ⟨b, off, ak, ck, rfl, he.cell h1, he.cell c0, he.cell c1, he.cell c2, he.cell c3, hat⟩
theorem bgetk {xs : List Bd} {k : Nat} (h : k < xs.length) : ∃ x, xs[k]? = some x := ⟨xs[k], by simp [h]⟩

/-- what a variable stands for -/
def findF (n : Int) : List Bd → Option Tm
  | [] => none
  | x :: xs => if x.n = n then some x.t else findF n xs
theorem find_none {n : Int} : ∀ {xs : List Bd}, (∀ (j : Nat) (x : Bd), xs[j]? = some x → x.n ≠ n) → findF n xs = none
  | [], _ => rfl
  | x :: xs, h => by
    simp only [findF]
    rw [if_neg (h 0 x rfl), find_none (fun j y hy => h (j + 1) y (by simpa using hy))]
theorem find_at {n : Int} : ∀ {xs : List Bd} {k : Nat} {x : Bd}, xs[k]? = some x → x.n = n → (∀ (j : Nat) (y : Bd), j < k → xs[j]? = some y → y.n ≠ n) → findF n xs = some x.t
  | [], k, x, h, _, _ => by simp at h
  | x0 :: xs, 0, x, h, hn, _ => by simp at h; subst h; simp [findF, hn]
  | x0 :: xs, k + 1, x, h, hn, hb => by
    simp only [findF]
    rw [if_neg (hb 0 x0 (by omega) rfl)]
    exact find_at (by simpa using h) hn (fun j y hj hy => hb (j + 1) y (by omega) (by simpa using hy))
mutual
/-- all variables replaced at once -/
def applyS (bs : List Bd) : Tm → Tm
  | .mk k n s ks => if k = 1 ∧ (findF n bs).isSome = true then (findF n bs).getD (.mk k n s ks) else .mk k n s (applySL bs ks)
def applySL (bs : List Bd) : List Tm → List Tm
  | [] => []
  | t :: ts => applyS bs t :: applySL bs ts
end
theorem applySL_len (bs : List Bd) : ∀ ts : List Tm, (applySL bs ts).length = ts.length
  | [] => rfl
  | t :: ts => by simp [applySL, applySL_len bs ts]
theorem applySL_snoc (bs : List Bd) : ∀ {ts : List Tm} {j : Nat} {t : Tm}, ts[j]? = some t → applySL bs (ts.take (j + 1)) = applySL bs (ts.take j) ++ [applyS bs t]
  | [], j, t, h => by simp at h
  | t0 :: ts, 0, t, h => by simp at h; subst h; simp [applySL]
  | t0 :: ts, j + 1, t, h => by
    simp only [List.take_succ_cons, applySL, List.cons_append]
    rw [applySL_snoc bs (by simpa using h)]
/-- a copy -/
def cp1 (t : Tm) : Tm := t
def cpL (ts : List Tm) : List Tm := ts
theorem cpL_len (ts : List Tm) : (cpL ts).length = ts.length := rfl
theorem cpL_snoc {ts : List Tm} {j : Nat} {t : Tm} (h : ts[j]? = some t) : cpL (ts.take (j + 1)) = cpL (ts.take j) ++ [cp1 t] := by
  unfold cpL cp1
  obtain ⟨hk, rfl⟩ := List.getElem?_eq_some_iff.1 h
  rw [List.take_succ_eq_append_getElem hk]

end Go.Proofs.Ytdelhgodhkbjdaa

/-
  Bindings whose terms share nothing, in a row of their own: what unification returns; append of one.
-/
namespace Go.Proofs.Ytdelhgodhkbjdaa
open Go.RowKit
set_option linter.unusedVariables false

def bcells (x : Bd) (a : Option Addr) (c : Nat) : List Value := .int .i64 x.n :: tcells x.t a c
def Bd.oflat (F : Nat → Prop) (w : World) : List Bd → List Value → Prop
  | [], xs => xs = []
  | x :: ts, xs => ∃ (F1 F2 : Nat → Prop) (a : Option Addr) (c : Nat) (rest : List Value), xs = bcells x a c ++ rest ∧ (∀ b, F1 b → F b ∧ ¬ F2 b) ∧ (∀ b, F2 b → F b) ∧ Tm.own F1 w x.t (.slice a x.t.kids.length c) ∧ Bd.oflat F2 w ts rest
/-- a slice of bindings, in rows of its own within F, no row twice -/
def OwnB (F : Nat → Prop) (ts : List Bd) (v : Value) (w : World) : Prop :=
  ∃ xs, w.ownsRow 0 36 5 v ts.length xs ∧ (∀ g, v.ownBlock = some g → F g) ∧ Bd.oflat (fun b => F b ∧ v.ownBlock ≠ some b) w ts xs
theorem oflatB_mono {w w' : World} {M : Nat → Prop} (f : Fr M w w') : ∀ {F F' : Nat → Prop} (hF : ∀ b, F b → F' b) (hM : ∀ b, F b → ¬ M b) (ts : List Bd) (xs : List Value), Bd.oflat F w ts xs → Bd.oflat F' w' ts xs
  | F, F', hF, hM, [], xs, h => h
  | F, F', hF, hM, t :: ts, xs, h => by
    obtain ⟨F1, F2, a, c, rest, h1, h2, h3, h4, h5⟩ := h
    exact ⟨F1, F2, a, c, rest, h1, fun b hb => ⟨hF b (h2 b hb).1, (h2 b hb).2⟩, fun b hb => hF b (h3 b hb), own_mono (fun b hb => hb) f (fun b hb => hM b (h2 b hb).1) t.t _ h4, oflatB_mono f (fun b hb => hb) (fun b hb => hM b (h3 b hb)) ts rest h5⟩
theorem OwnB.mono {F F' : Nat → Prop} {w w' : World} {M : Nat → Prop} {ts : List Bd} {v : Value} (h : OwnB F ts v w) (hF : ∀ b, F b → F' b) (f : Fr M w w') (hM : ∀ b, F b → ¬ M b) : OwnB F' ts v w' := by
  obtain ⟨xs, h3, h4, h5⟩ := h
  exact ⟨xs, own_fr h3 f (fun g hg => hM g (h4 g hg)), fun g hg => hF g (h4 g hg), oflatB_mono f (fun b hb => ⟨hF b hb.1, hb.2⟩) (fun b hb => hM b hb.1) _ xs h5⟩
theorem OwnB.ext {F : Nat → Prop} {w w' : World} {ts : List Bd} {v : Value} (h : OwnB F ts v w) (e : Ext w w') : OwnB F ts v w' := h.mono (M := fun _ => False) (fun _ h => h) (Fr.of_ext e) (fun _ _ h => h)
theorem OwnB.zone {F F' : Nat → Prop} {w : World} {ts : List Bd} {v : Value} (h : OwnB F ts v w) (hF : ∀ b, F b → F' b) : OwnB F' ts v w := h.mono (M := fun _ => False) hF (Fr.refl _ _) (fun _ _ h => h)
theorem oflatB_bound : ∀ {F : Nat → Prop} {w : World} (ts : List Bd) (xs : List Value), Bd.oflat F w ts xs → Bd.oflat (fun b => F b ∧ b < w.heap.size) w ts xs
  | F, w, [], xs, h => h
  | F, w, t :: ts, xs, h => by
    obtain ⟨F1, F2, a, c, rest, h1, h2, h3, h4, h5⟩ := h
    exact ⟨fun b => F1 b ∧ b < w.heap.size, fun b => F2 b ∧ b < w.heap.size, a, c, rest, h1, fun b hb => ⟨⟨(h2 b hb.1).1, hb.2⟩, fun h => (h2 b hb.1).2 h.1⟩, fun b hb => ⟨h3 b hb.1, hb.2⟩, own_bound t.t _ h4, oflatB_bound ts rest h5⟩
theorem OwnB.bound {F : Nat → Prop} {w : World} {ts : List Bd} {v : Value} (h : OwnB F ts v w) : OwnB (fun b => F b ∧ b < w.heap.size) ts v w := by
  obtain ⟨xs, h3, h4, h5⟩ := h
  exact ⟨xs, h3, fun g hg => ⟨h4 g hg, (h3.lt g hg).2⟩, oflatB_mono (M := fun _ => False) (Fr.refl _ _) (fun b hb => ⟨⟨hb.1.1, hb.2⟩, hb.1.2⟩) (fun _ _ h => h) _ _ (oflatB_bound ts xs h5)⟩
theorem OwnB.nil (F : Nat → Prop) (w : World) : OwnB F [] (.slice none 0 0) w := ⟨[], ⟨rfl, .inl ⟨rfl, rfl⟩⟩, by simp [Value.ownBlock], rfl⟩
theorem OwnB.form {F : Nat → Prop} {ts : List Bd} {v : Value} {w : World} (h : OwnB F ts v w) : ∃ a c, v = .slice a ts.length c := by
  obtain ⟨xs, h1, _⟩ := h
  exact own_form h1
theorem oflatB_len {w : World} : ∀ {F : Nat → Prop} {ts : List Bd} {xs : List Value}, Bd.oflat F w ts xs → xs.length = ts.length * 5
  | F, [], xs, h => by rw [show xs = [] from h]; rfl
  | F, t :: ts, xs, h => by
    obtain ⟨F1, F2, a, c, rest, rfl, h2, h3, h4, h5⟩ := h
    have := oflatB_len h5
    simp [bcells, tcells, this]; omega
/-- read as a row -/
theorem oflatB_row {w : World} {b : Nat} : ∀ {F : Nat → Prop} {ts : List Bd} {xs : List Value} {off : Nat}, Bd.oflat F w ts xs → (∀ j, j < xs.length → w.cell? ⟨b, off + j, none⟩ = xs[j]?) → Bd.row (fun _ => True) w b off ts
  | F, [], xs, off, h, hc => trivial
  | F, t :: ts, xs, off, h, hc => by
    obtain ⟨F1, F2, a, c, rest, rfl, h2, h3, h4, h5⟩ := h
    have ha := Tm.at_mono (fun _ _ => trivial) (Agree.refl w) (own_flat t.t a c h4)
    obtain ⟨hs, sv, e, hk⟩ := Tm.at_iff.1 ha
    simp only [Value.agg.injEq, Array.mk.injEq, List.cons.injEq, and_true, true_and] at e
    subst e
    refine ⟨⟨?_, Tm.cells_iff.2 ⟨_, ?_, ?_, ?_, ?_, hs, hk⟩⟩, oflatB_row h5 (fun j hj => ?_)⟩
    · simpa [bcells, tcells] using hc 0 (by simp [bcells, tcells])
    · simpa [bcells, tcells] using hc 1 (by simp [bcells, tcells])
    · simpa [bcells, tcells] using hc 2 (by simp [bcells, tcells])
    · simpa [bcells, tcells] using hc 3 (by simp [bcells, tcells])
    · simpa [bcells, tcells] using hc 4 (by simp [bcells, tcells])
    · have := hc (5 + j) (by simp [bcells, tcells]; omega)
      rw [show off + (5 + j) = off + 5 + j by omega] at this
      rw [this, show 5 + j = j + 5 by omega]
      simp [bcells, tcells]
theorem OwnB.sl {F : Nat → Prop} {w : World} {ts : List Bd} {v : Value} (h : OwnB F ts v w) (hl : ts.length ≤ 1048576) : Bd.sl (fun _ => True) w ts v := by
  obtain ⟨xs, ho, hz, hf⟩ := h
  have hcell := fun (g : Nat) (hg : v.ownBlock = some g) => ho.cells (g := g) hg
  obtain ⟨h1, h2⟩ := ho
  rcases h2 with ⟨rfl, h2⟩ | ⟨g, cap, cur, rfl, h3, h4, h5, h6, h7, h8⟩
  · have : ts = [] := List.eq_nil_of_length_eq_zero h2
    subst this
    exact ⟨none, 0, by simp, by simp, by omega, by simp, .inl rfl⟩
  · refine ⟨_, cap, rfl, h5, h6, hl, .inr ⟨g, 0, rfl, trivial, oflatB_row hf (fun j hj => ?_)⟩⟩
    have := hcell g rfl j xs[j] (by simp [hj])
    rw [show (⟨g, 0, none⟩ : Addr).add j = ⟨g, 0 + j, none⟩ by unfold Addr.add; split <;> simp_all] at this
    rw [this]; simp [hj]
theorem oflatB_snoc {w : World} {x : Bd} {a : Option Addr} {c : Nat} {G : Nat → Prop} (ht : Tm.own G w x.t (.slice a x.t.kids.length c)) : ∀ {F : Nat → Prop} {ts : List Bd} {xs : List Value}, Bd.oflat F w ts xs → (∀ b, F b → ¬ G b) →
    Bd.oflat (fun b => F b ∨ G b) w (ts ++ [x]) (xs ++ bcells x a c)
  | F, [], xs, h, _ => by
    rw [show xs = [] from h]
    exact ⟨G, fun _ => False, a, c, [], by simp, fun b hb => ⟨.inr hb, fun h => h⟩, fun b hb => hb.elim, ht, rfl⟩
  | F, u :: ts, xs, h, hd => by
    obtain ⟨F1, F2, a1, c1, rest, rfl, h2, h3, h4, h5⟩ := h
    exact ⟨F1, fun b => F2 b ∨ G b, a1, c1, rest ++ bcells x a c, by simp, fun b hb => ⟨.inl (h2 b hb).1, fun h => h.elim (h2 b hb).2 (hd b (h2 b hb).1)⟩, fun b hb => hb.elim (fun h => .inl (h3 b h)) .inr, h4, oflatB_snoc ht h5 (fun b hb => hd b (h3 b hb))⟩
/-- after an append of one binding -/
theorem ownB_next {F G : Nat → Prop} {ts : List Bd} {x : Bd} {v nv : Value} {w1 w2 : World} {xs : List Value} {a2 : Option Addr} {c2 : Nat} {o : Obj}
    (how : w1.ownsRow 0 36 5 v ts.length xs) (hz : ∀ g, v.ownBlock = some g → F g) (hfl : Bd.oflat (fun b => F b ∧ v.ownBlock ≠ some b) w1 ts xs)
    (hv1 : Tm.own G w1 x.t (.slice a2 x.t.kids.length c2)) (hdis : ∀ b, F b → ¬ G b) (hG : ∀ b, G b → b < w1.heap.size) (hFl : ∀ b, F b → b < w1.heap.size)
    (ho2 : w2.ownsRow 0 36 5 nv (ts.length + 1) (xs ++ bcells x a2 c2)) (hg : (w1.alloc o).grownBy w2 v.ownBlock)
    (hfr : ∀ g, nv.ownBlock = some g → v.ownBlock = some g ∨ (w1.alloc o).heap.size ≤ g) : OwnB (fun b => F b ∨ G b ∨ w1.heap.size ≤ b) (ts ++ [x]) nv w2 := by
  have hs3 : (w1.alloc o).heap.size = w1.heap.size + 1 := by simp
  have f : Fr (fun b => v.ownBlock = some b) w1 w2 := (Fr.alloc w1 o).trans (Fr.of_grown hg (fun k hk => hk))
  refine ⟨xs ++ bcells x a2 c2, by simpa using ho2, ?_, ?_⟩
  · intro g hgg
    rcases hfr g hgg with h | h
    · exact .inl (hz g h)
    · exact .inr (.inr (by omega))
  · have hne : ∀ b, b < w1.heap.size → v.ownBlock ≠ some b → nv.ownBlock ≠ some b := by
      intro b hb h1 h2
      rcases hfr b h2 with h | h
      · exact h1 h
      · omega
    have hgv : ∀ b, G b → v.ownBlock ≠ some b := fun b hb h => hdis b (hz b h) hb
    have hs := oflatB_snoc (own_mono (F' := G) (fun b hb => hb) f (fun b hb => hgv b hb) x.t _ hv1) (oflatB_mono (F' := fun b => F b ∧ v.ownBlock ≠ some b) f (fun b hb => hb) (fun b hb => hb.2) ts xs hfl) (fun b hb => hdis b hb.1)
    refine oflatB_mono (M := fun _ => False) (Fr.refl _ _) ?_ (fun b _ h => h) _ _ hs
    rintro b (hb | hb)
    · exact ⟨.inl hb.1, hne b (hFl b hb.1) hb.2⟩
    · exact ⟨.inr (.inl hb), hne b (hG b hb) (hgv b hb)⟩
theorem cell_five (w : World) (x : Bd) (T : Nat) {a : Option Addr} {c : Nat} (j : Nat) (u : Value) (h : (bcells x a c)[j]? = some u) :
    (w.alloc (.cells #[.int .i64 x.n, .int .i64 x.t.kind, .int .i64 x.t.n, .string x.t.name, .slice a x.t.kids.length c] T)).cell? ((⟨w.heap.size, 0, none⟩ : Addr).add j) = some u := by
  rw [show (⟨w.heap.size, 0, none⟩ : Addr).add j = ⟨w.heap.size, 0 + j, none⟩ by unfold Addr.add; split <;> simp_all]
  exact cell_new _ _ _ _ _ (by simpa [bcells, tcells] using h)
theorem info_bind : (Try.prog.info? 36).map (fun i => (i.zero, i.size, i.bytes)) = some (some (.agg #[.int .i64 0, .int .i64 0, .int .i64 0, .string ⟨#[]⟩, .slice none 0 0]), 5, 64) := by kernel_rfl
theorem bind_parts {o : Option TypeInfo} {z : Value} (h : o.map (fun i => (i.zero, i.size, i.bytes)) = some (some z, 5, 64)) : ∃ i, o = some i ∧ i.zero = some z ∧ i.size = 5 ∧ i.bytes = 64 := by
  cases o with
  | none => simp at h
  | some i => simp at h; exact ⟨i, rfl, h⟩
/-- append of one binding in a plain list of operations -/
theorem wpList_append_ob {P : Program} {ops : Array Oper} {rest : List Oper} {o : Oper} {a : Act} {w0 w1 : World} {Q : Exit → Act → World → Prop}
    (hgd : o.guard = none) (s x : Operand) (ty : TypeId)
    (ho : o.op = .call { callee := .builtin .append, args := #[s, x], argTypes := #[ty, ty] })
    (z : Nat) (i : TypeInfo) (ht : P.underlying ty = some (.slice 36)) (hi : P.info? 36 = some i) (hz : i.zero = some (.agg #[.int .i64 0, .int .i64 0, .int .i64 0, .string ⟨#[]⟩, .slice none 0 0]))
    (hsize : i.size = 5) (hby : i.bytes = 64)
    (v : Value) (ts : List Bd) (y : Bd) (a2 : Option Addr) (c2 : Nat) (hs : a.eval s = v) (happ : OwnB (fun b => z ≤ b ∧ b < w0.heap.size) ts v w1) {nb : Nat} (hx : a.eval x = .slice (some ⟨nb, 0, none⟩) 1 1)
    (hv1 : Tm.own (fun b => w0.heap.size ≤ b) w1 y.t (.slice a2 y.t.kids.length c2)) (hw : w0.heap.size ≤ w1.heap.size) (hzw : z ≤ w0.heap.size)
    (hl : ts.length < 1048576) (hnb : nb = w1.heap.size)
    (h : ∀ av cv w2, OwnB (fun b => z ≤ b ∧ b < w2.heap.size) (ts ++ [y]) (.slice av (ts.length + 1) cv) w2 → Fr (fun b => z ≤ b) w1 w2 → wpList P ops Q rest (a.put o.dst (.slice av (ts.length + 1) cv)) w2) :
    wpList P ops Q (o :: rest) a (w1.alloc (.cells #[.int .i64 y.n, .int .i64 y.t.kind, .int .i64 y.t.n, .string y.t.name, .slice a2 y.t.kids.length c2] 36)) := by
  subst hnb
  obtain ⟨xs, how, hzz, hfl⟩ := happ
  have hb := own_bound _ _ hv1
  refine wpList_append_fresh hgd s x ty ho 0 36 i _ 5 64 ht hi hz hsize hby rfl (by decide) v ts.length xs hs (own_ext how (Ext.alloc _ _)) ⟨w1.heap.size, 0, none⟩ 1 1 (bcells y a2 c2) hx rfl (fun j u h => cell_five _ _ _ j u h) (by simp [bcells, tcells, Value.oneCell']) (by unfold maxLen; omega) (by omega) (by omega) ?_
  intro v2 w2 ho2 hg2 hfr2 _
  obtain ⟨av, cv, rfl⟩ := own_form ho2
  have hn := ownB_next how hzz hfl hb (fun b h1 h2 => by omega) (fun b h => h.2) (fun b h => by omega) ho2 hg2 hfr2
  refine h av cv w2 ((hn.bound).mono (M := fun _ => False) (fun b hb => ⟨?_, hb.2⟩) (Fr.refl _ _) (fun _ _ h => h)) ((Fr.alloc _ _).trans (Fr.of_grown hg2 (fun k hk => (hzz k hk).1)))
  rcases hb.1 with h | h | h <;> omega
/-- one element in the midst of a row, and what may be put in its place -/
theorem oflatB_focus {w : World} {t : Bd} : ∀ {F : Nat → Prop} {ls bs : List Bd} {xs : List Value}, Bd.oflat F w (ls ++ t :: bs) xs →
    ∃ (G : Nat → Prop) (x1 x2 : List Value) (a : Option Addr) (c : Nat), xs = x1 ++ (bcells t a c ++ x2) ∧ x1.length = ls.length * 5 ∧ (∀ b, G b → F b) ∧ Tm.own G w t.t (.slice a t.t.kids.length c) ∧
      ∀ (w' : World) (t' : Bd) (M : Nat → Prop), Fr M w w' → (∀ b, F b → M b → G b) → t'.t.kids.length = t.t.kids.length → Tm.own G w' t'.t (.slice a t'.t.kids.length c) → Bd.oflat F w' (ls ++ t' :: bs) (x1 ++ (bcells t' a c ++ x2))
  | F, [], bs, xs, h => by
    simp only [List.nil_append, Bd.oflat] at h
    obtain ⟨F1, F2, a, c, rest, h1, h2, h3, h4, h5⟩ := h
    refine ⟨F1, [], rest, a, c, by simpa using h1, rfl, fun b hb => (h2 b hb).1, h4, ?_⟩
    intro w' t' M f hM hl ho
    simp only [List.nil_append, Bd.oflat]
    exact ⟨F1, F2, a, c, rest, rfl, h2, h3, ho, oflatB_mono f (fun b hb => hb) (fun b hb hm => (h2 b (hM b (h3 b hb) hm)).2 hb) _ _ h5⟩
  | F, u :: ls, bs, xs, h => by
    simp only [List.cons_append, Bd.oflat] at h
    obtain ⟨F1, F2, a1, c1, rest, h1, h2, h3, h4, h5⟩ := h
    obtain ⟨G, x1, x2, a, c, e1, e2, e3, e4, e5⟩ := oflatB_focus h5
    refine ⟨G, bcells u a1 c1 ++ x1, x2, a, c, by rw [h1, e1]; simp, by simp [bcells, tcells, e2]; omega, fun b hb => h3 b (e3 b hb), e4, ?_⟩
    intro w' t' M f hM hl ho
    simp only [List.cons_append, Bd.oflat]
    refine ⟨F1, F2, a1, c1, x1 ++ (bcells t' a c ++ x2), by simp, h2, h3, own_mono (fun b hb => hb) f (fun b hb hm => (h2 b hb).2 (e3 b (hM b (h2 b hb).1 hm))) _ _ h4, e5 w' t' M f (fun b hb hm => hM b (h3 b hb) hm) hl ho⟩
end Go.Proofs.Ytdelhgodhkbjdaa
