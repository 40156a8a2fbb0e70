/-
  The end of a function whose result is a term (a struct of four cells in memory), and stores of a whole term.
-/
import Derived.Test.YtifklfnpaigdkaaDoorOwn
namespace Go.Proofs.YtifklfnpaigdkaaDoor
open Go.RowKit
set_option linter.unusedVariables false

theorem cell_other {w : World} {a c : Addr} {u v : Value} (hne : a.block ≠ c.block) (h : w.cell? a = some v) : (w.setCell c u).cell? a = some v := by
  rw [World.cell?_of_block (w := w) (Below.heap_setCell w c u a.block hne)]; exact h
theorem cell_off {w : World} {b i j : Nat} {u v : Value} (hne : i ≠ j) (h : w.cell? ⟨b, i, none⟩ = some v) : (w.setCell ⟨b, j, none⟩ u).cell? ⟨b, i, none⟩ = some v := by
  simp only [World.cell?, World.setCell, Array.getElem?_modify] at h ⊢
  simp only [if_true]
  revert h
  cases hb : w.heap[b]? with
  | none => simp
  | some o => cases o <;> simp [Ne.symm hne]
theorem cell_same {w : World} {b i : Nat} {u v : Value} (h : w.cell? ⟨b, i, none⟩ = some v) : (w.setCell ⟨b, i, none⟩ u).cell? ⟨b, i, none⟩ = some u := by
  simp only [World.cell?, World.setCell, Array.getElem?_modify] at h ⊢
  simp only [if_true]
  revert h
  cases hb : w.heap[b]? with
  | none => simp
  | some o =>
    cases o <;> simp
    rename_i c e fr
    intro h
    have := (Array.getElem?_eq_some_iff.1 h).1
    simp [this]
theorem grown_setCell (w : World) (b i : Nat) (u : Value) : w.grownBy (w.setCell ⟨b, i, none⟩ u) (some b) :=
  ⟨rfl, rfl, rfl, by simp [World.setCell], fun k _ hk => Below.heap_setCell _ _ _ _ (fun e => hk (by rw [e]))⟩
theorem grown_trans {a b c : World} {g : Nat} (h : a.grownBy b (some g)) (k : b.grownBy c (some g)) : a.grownBy c (some g) :=
  ⟨k.os.trans h.os, k.tape.trans h.tape, k.output.trans h.output, Nat.le_trans h.size k.size, fun i hi hne => (k.block i (Nat.lt_of_lt_of_le hi h.size) hne).trans (h.block i hi hne)⟩
theorem Agree.grown {S : Nat → Prop} {w w' : World} {row : Option Nat} (hg : w.grownBy w' row) (hS : ∀ b, row = some b → ¬ S b) : Agree S w w' := fun b o v hb hc => by
  have hlt := block_lt_of_cell hc
  rw [World.cell?_of_block (w := w) (a := ⟨b, o, none⟩) (hg.block b hlt (fun e => hS b e.symm hb))]
  exact hc
theorem Ext.grown {w w' w'' : World} {row : Option Nat} (h : Ext w w') (hg : w'.grownBy w'' row) (hr : ∀ b, row = some b → w.heap.size ≤ b) : Ext w w'' :=
  Below.grown h hg h.size hr

/-- the world behind the store of four cells -/
def set4 (Y : World) (b : Nat) (v0 v1 v2 v3 : Value) : World := (((Y.setCell ⟨b, 0, none⟩ v0).setCell ⟨b, 1, none⟩ v1).setCell ⟨b, 2, none⟩ v2).setCell ⟨b, 3, none⟩ v3
theorem set4_grown (Y : World) (b : Nat) (v0 v1 v2 v3 : Value) : Y.grownBy (set4 Y b v0 v1 v2 v3) (some b) :=
  grown_trans (grown_trans (grown_trans (grown_setCell _ _ _ _) (grown_setCell _ _ _ _)) (grown_setCell _ _ _ _)) (grown_setCell _ _ _ _)
theorem set4_cells {Y : World} {b : Nat} {u0 u1 u2 u3 : Value} (v0 v1 v2 v3 : Value) (h0 : Y.cell? ⟨b, 0, none⟩ = some u0) (h1 : Y.cell? ⟨b, 1, none⟩ = some u1) (h2 : Y.cell? ⟨b, 2, none⟩ = some u2) (h3 : Y.cell? ⟨b, 3, none⟩ = some u3) :
    (set4 Y b v0 v1 v2 v3).cell? ⟨b, 0, none⟩ = some v0 ∧ (set4 Y b v0 v1 v2 v3).cell? ⟨b, 1, none⟩ = some v1 ∧ (set4 Y b v0 v1 v2 v3).cell? ⟨b, 2, none⟩ = some v2 ∧ (set4 Y b v0 v1 v2 v3).cell? ⟨b, 3, none⟩ = some v3 :=
  ⟨cell_off (by decide) (cell_off (by decide) (cell_off (by decide) (cell_same h0))),
   cell_off (by decide) (cell_off (by decide) (cell_same (cell_off (by decide) h1))),
   cell_off (by decide) (cell_same (cell_off (by decide) (cell_off (by decide) h2))),
   cell_same (cell_off (by decide) (cell_off (by decide) (cell_off (by decide) h3)))⟩

theorem load4 {P : Program} {w : World} {T b : Nat} {v0 v1 v2 v3 : Value} (hT : ∀ w, (isAgg T).run P w = .ok true w) (hs : ∀ w, (sizeOf T).run P w = .ok 4 w)
    (h0 : w.cell? ⟨b, 0, none⟩ = some v0) (h1 : w.cell? ⟨b, 1, none⟩ = some v1) (h2 : w.cell? ⟨b, 2, none⟩ = some v2) (h3 : w.cell? ⟨b, 3, none⟩ = some v3) :
    (loadVar T ⟨b, 0, none⟩).run P w = .ok (.agg #[v0, v1, v2, v3]) w := by
  unfold loadVar
  simp only [Sem.run_bind, hT, Result.andThen_ok, if_true, hs]
  simp [loadCells, loadCellsFrom, go_sem, h0, h1, h2, h3]

/-- the end of a function that returns a term -/
theorem ret4 {P : Program} {fn : Func} {R : Ending → World → Prop} {a : Act} {X : World} {p T b : Nat} {v0 v1 v2 v3 : Value}
    (hres : fn.results = #[.cell p T]) (hT : ∀ w, (isAgg T).run P w = .ok true w) (hs : ∀ w, (sizeOf T).run P w = .ok 4 w) (hp : a.tmps.getD p undef = .pointer (some ⟨b, 0, none⟩)) (hd : a.defers = [])
    (h0 : X.cell? ⟨b, 0, none⟩ = some v0) (h1 : X.cell? ⟨b, 1, none⟩ = some v1) (h2 : X.cell? ⟨b, 2, none⟩ = some v2) (h3 : X.cell? ⟨b, 3, none⟩ = some v3)
    (hR : R (.returned (.agg #[v0, v1, v2, v3])) X) : bodyPost P fn R .ret a X := by
  refine bodyPost_ret (v := .agg #[v0, v1, v2, v3]) ?_ hd hR
  have hl := load4 (P := P) (w := X) (T := T) (b := b) hT hs h0 h1 h2 h3
  simp only [results, hres]
  have hp' : a.tmps[p]?.getD undef = .pointer (some ⟨b, 0, none⟩) := by simpa using hp
  simp [hp', asAddr, hl]
/-- .. behind the store of the result -/
theorem ret4_set {P : Program} {fn : Func} {R : Ending → World → Prop} {a : Act} {Y : World} {p T b : Nat} {u0 u1 u2 u3 v0 v1 v2 v3 : Value}
    (hres : fn.results = #[.cell p T]) (hT : ∀ w, (isAgg T).run P w = .ok true w) (hs : ∀ w, (sizeOf T).run P w = .ok 4 w) (hp : a.tmps.getD p undef = .pointer (some ⟨b, 0, none⟩)) (hd : a.defers = [])
    (h0 : Y.cell? ⟨b, 0, none⟩ = some u0) (h1 : Y.cell? ⟨b, 1, none⟩ = some u1) (h2 : Y.cell? ⟨b, 2, none⟩ = some u2) (h3 : Y.cell? ⟨b, 3, none⟩ = some u3)
    (hR : ∀ X, Y.grownBy X (some b) → R (.returned (.agg #[v0, v1, v2, v3])) X) :
    bodyPost P fn R .ret a ((((Y.setCell ⟨b, 0, none⟩ v0).setCell ⟨b, 1, none⟩ v1).setCell ⟨b, 2, none⟩ v2).setCell ⟨b, 3, none⟩ v3) := by
  obtain ⟨c0, c1, c2, c3⟩ := set4_cells (Y := Y) v0 v1 v2 v3 h0 h1 h2 h3
  exact ret4 hres hT hs hp hd c0 c1 c2 c3 (hR _ (set4_grown Y b v0 v1 v2 v3))

/-- the store of a whole term into an owned row -/
theorem own_set4 {w : World} {base e g n cap a : Nat} {done rest : List Value} {u0 u1 u2 u3 v0 v1 v2 v3 : Value}
    (h : w.ownsRow base e 4 (.slice (some ⟨g, 0, none⟩) n cap) n (done ++ u0 :: u1 :: u2 :: u3 :: rest)) (ha : done.length = a) :
    ((((w.setCell ⟨g, a, none⟩ v0).setCell ⟨g, a + 1, none⟩ v1).setCell ⟨g, a + 2, none⟩ v2).setCell ⟨g, a + 3, none⟩ v3).ownsRow base e 4 (.slice (some ⟨g, 0, none⟩) n cap) n ((done ++ [v0, v1, v2, v3]) ++ rest) ∧
      w.grownBy ((((w.setCell ⟨g, a, none⟩ v0).setCell ⟨g, a + 1, none⟩ v1).setCell ⟨g, a + 2, none⟩ v2).setCell ⟨g, a + 3, none⟩ v3) (some g) := by
  obtain ⟨h1, g1⟩ := h.stored a v0
  obtain ⟨h2, g2⟩ := h1.stored (a + 1) v1
  obtain ⟨h3, g3⟩ := h2.stored (a + 2) v2
  obtain ⟨h4, g4⟩ := h3.stored (a + 3) v3
  rw [set4_list ha] at h4
  exact ⟨h4, grown_trans (grown_trans (grown_trans g1 g2) g3) g4⟩
theorem take_snoc_of {α : Type} {l : List α} {k : Nat} {x : α} (h : l[k]? = some x) : l.take (k + 1) = l.take k ++ [x] := by
  obtain ⟨hk, rfl⟩ := List.getElem?_eq_some_iff.1 h
  rw [List.take_succ_eq_append_getElem hk]

end Go.Proofs.YtifklfnpaigdkaaDoor
