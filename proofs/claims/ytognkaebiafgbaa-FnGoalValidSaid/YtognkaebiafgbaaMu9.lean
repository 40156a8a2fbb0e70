/-
  The reference's draws of one term and of two.
-/
import Derived.Deep.RegionHeld3
import Derived.Test.YtognkaebiafgbaaMu8
import Derived.Test.YtognkaebiafgbaaMu2
namespace Go.Proofs.Ytognkaebiafgbaa
open Go.RowKit
set_option linter.unusedVariables false
def BoxT (w : World) (b : Nat) (v0 v1 v2 v3 : Value) : Prop :=
  w.cell? ⟨b, 0, none⟩ = some v0 ∧ w.cell? ⟨b, 1, none⟩ = some v1 ∧ w.cell? ⟨b, 2, none⟩ = some v2 ∧ w.cell? ⟨b, 3, none⟩ = some v3 ∧
    w.frozen? ⟨b, 0, none⟩ = false ∧ w.frozen? ⟨b, 1, none⟩ = false ∧ w.frozen? ⟨b, 2, none⟩ = false ∧ w.frozen? ⟨b, 3, none⟩ = false
abbrev BoxZ (w : World) (b : Nat) : Prop := BoxT w b (.int .i64 0) (.int .i64 0) (.string ⟨#[]⟩) (.slice none 0 0)
theorem BoxT.lt {w : World} {b : Nat} {v0 v1 v2 v3 : Value} (h : BoxT w b v0 v1 v2 v3) : b < w.heap.size := block_lt_of_cell h.1
theorem BoxT.fr {M : Nat → Prop} {w w' : World} {b : Nat} {v0 v1 v2 v3 : Value} (h : BoxT w b v0 v1 v2 v3) (f : Fr M w w') (hb : ¬ M b) : BoxT w' b v0 v1 v2 v3 :=
  ⟨f.cell hb h.1, f.cell hb h.2.1, f.cell hb h.2.2.1, f.cell hb h.2.2.2.1, f.frozen h.lt hb h.2.2.2.2.1, f.frozen h.lt hb h.2.2.2.2.2.1, f.frozen h.lt hb h.2.2.2.2.2.2.1, f.frozen h.lt hb h.2.2.2.2.2.2.2⟩
theorem BoxT.ext {w w' : World} {b : Nat} {v0 v1 v2 v3 : Value} (h : BoxT w b v0 v1 v2 v3) (e : Ext w w') : BoxT w' b v0 v1 v2 v3 := h.fr (M := fun _ => False) (Fr.of_ext e) (fun h => h)
theorem BoxT.extR {w w' : World} {r b : Nat} {v0 v1 v2 v3 : Value} (h : BoxT w b v0 v1 v2 v3) (e : ExtR r w w') (hb : b ≠ r) : BoxT w' b v0 v1 v2 v3 := h.fr (M := fun k => k = r) (Fr.of_extR e rfl) hb
theorem BoxT.new (w : World) (v0 v1 v2 v3 : Value) (T : Nat) {b : Nat} (hb : b = w.heap.size) : BoxT (w.alloc (.cells #[v0, v1, v2, v3] T)) b v0 v1 v2 v3 := by
  subst hb
  refine ⟨?_, ?_, ?_, ?_, ?_, ?_, ?_, ?_⟩ <;> go_simp
theorem BytesAt.ext {w w' : World} {v : Value} (h : BytesAt w v) (e : Ext w w') : BytesAt w' v := by
  obtain ⟨a, len, cap, h1, h2, h3, h4⟩ := h
  refine ⟨a, len, cap, h1, h2, h3, ?_⟩
  rcases h4 with h4 | ⟨b, off, h4, h5⟩
  · exact .inl h4
  · exact .inr ⟨b, off, h4, fun i hi => let ⟨n, hn, hc⟩ := h5 i hi; ⟨n, hn, e.cell hc⟩⟩
def TmOut (w : World) (e : Ending) (w' : World) : Prop := ∃ t v, e = .returned v ∧ Tm.at (fun b => w.heap.size ≤ b) w' t v ∧ Ext w w'
theorem out_end {B : Nat} {w wk X : World} {t : Tm} {v : Value} (hB : w.heap.size ≤ B) (hX : wk.grownBy X (some B)) (he : Ext w wk) (hv : Tm.at (fun b => w.heap.size ≤ b ∧ b ≠ B) wk t v) : TmOut w (.returned v) X := by
  have f : Fr (fun k => k = B) wk X := Fr.of_grown hX (fun k e => by cases e; rfl)
  exact ⟨t, v, rfl, Tm.at_mono (fun b h => h.1) (f.agree (S := fun b => w.heap.size ≤ b ∧ b ≠ B) (fun k hk h => hk.2 h)) hv, ((Fr.of_ext he).trans (f.mono (fun k _ h => show w.heap.size ≤ k by omega))).toExt (fun k hk hm => by omega)⟩
end Go.Proofs.Ytognkaebiafgbaa

namespace Go.Proofs.Ytognkaebiafgbaa
open Go.RowKit
set_option linter.unusedVariables false
structure Cl where
  head : Tm
  body : List Tm
def Cl.at (S : Nat → Prop) (w : World) (c : Cl) (v : Value) : Prop := ∃ sv bv, v = .agg #[.int .i64 c.head.kind, .int .i64 c.head.n, .string c.head.name, sv, bv] ∧ Tm.at S w c.head (.agg #[.int .i64 c.head.kind, .int .i64 c.head.n, .string c.head.name, sv]) ∧ Tm.sl S w c.body bv
def Cl.cells (S : Nat → Prop) (w : World) (b off : Nat) (c : Cl) : Prop := Tm.cells S w b off c.head ∧ ∃ sv, w.cell? ⟨b, off + 4, none⟩ = some sv ∧ Tm.sl S w c.body sv
def Cl.row (S : Nat → Prop) (w : World) (b off : Nat) : List Cl → Prop
  | [] => True
  | c :: cs => Cl.cells S w b off c ∧ Cl.row S w b (off + 5) cs
def Cl.sl (S : Nat → Prop) (w : World) (cs : List Cl) (v : Value) : Prop :=
  ∃ a cap, v = .slice a cs.length cap ∧ cs.length ≤ cap ∧ cap ≤ 9223372036854775807 ∧ cs.length ≤ 1048576 ∧
    (cs = [] ∨ ∃ b off, a = some ⟨b, off, none⟩ ∧ S b ∧ Cl.row S w b off cs)
theorem Cl.at_mono {S S' : Nat → Prop} {w w' : World} (hS : ∀ b, S b → S' b) (ha : Agree S w w') {c : Cl} {v : Value} (h : Cl.at S w c v) : Cl.at S' w' c v := by
  obtain ⟨hv, bv, h1, h2, h3⟩ := h
  exact ⟨hv, bv, h1, Tm.at_mono hS ha h2, Tm.sl_mono hS ha h3⟩
theorem Cl.at_ext {S : Nat → Prop} {w w' : World} (e : Ext w w') {c : Cl} {v : Value} (h : Cl.at S w c v) : Cl.at S w' c v := Cl.at_mono (fun _ h => h) (Agree.of_ext e) h
theorem Cl.row_mono {S S' : Nat → Prop} {w w' : World} (hS : ∀ b, S b → S' b) (ha : Agree S w w') {b : Nat} (hb : S b) : ∀ (cs : List Cl) (off : Nat), Cl.row S w b off cs → Cl.row S' w' b off cs
  | [], _, _ => trivial
  | c :: cs, off, h => by
    obtain ⟨⟨h1, sv, h2, h3⟩, h4⟩ := h
    exact ⟨⟨Tm.cells_mono hS ha (b' := 0) (fun o v => ha _ o v hb) _ h1, sv, ha _ _ _ hb h2, Tm.sl_mono hS ha h3⟩, Cl.row_mono hS ha hb cs _ h4⟩
theorem Cl.sl_mono {S S' : Nat → Prop} {w w' : World} (hS : ∀ b, S b → S' b) (ha : Agree S w w') {cs : List Cl} {v : Value} (h : Cl.sl S w cs v) : Cl.sl S' w' cs v := by
  obtain ⟨a, cap, h1, h2, h3, h4, h5⟩ := h
  refine ⟨a, cap, h1, h2, h3, h4, ?_⟩
  rcases h5 with h5 | ⟨b, off, h5, h6, h7⟩
  · exact .inl h5
  · exact .inr ⟨b, off, h5, hS _ h6, Cl.row_mono hS ha h6 cs _ h7⟩
theorem Cl.sl_ext {S : Nat → Prop} {w w' : World} (e : Ext w w') {cs : List Cl} {v : Value} (h : Cl.sl S w cs v) : Cl.sl S w' cs v := Cl.sl_mono (fun _ h => h) (Agree.of_ext e) h
theorem Cl.row_get {S : Nat → Prop} {w : World} {b : Nat} : ∀ {cs : List Cl} {off : Nat}, Cl.row S w b off cs → ∀ (i : Nat) (c : Cl), cs[i]? = some c → Cl.cells S w b (off + i * 5) c
  | [], _, _, i, t, h => by simp at h
  | c0 :: cs, off, h, 0, t, ht => by
    simp at ht; subst ht
    simpa using h.1
  | c0 :: cs, off, h, i + 1, t, ht => by
    have := Cl.row_get h.2 i t (by simpa using ht)
    rw [show off + (i + 1) * 5 = off + 5 + i * 5 by omega]
    exact this
theorem Cl.at_of_cells {S : Nat → Prop} {w : World} {b off : Nat} {c : Cl} (h : Cl.cells S w b off c) :
    ∃ a cap a' cap', w.cell? ⟨b, off, none⟩ = some (.int .i64 c.head.kind) ∧ w.cell? ⟨b, off + 1, none⟩ = some (.int .i64 c.head.n) ∧ w.cell? ⟨b, off + 2, none⟩ = some (.string c.head.name) ∧
      w.cell? ⟨b, off + 3, none⟩ = some (.slice a c.head.kids.length cap) ∧ w.cell? ⟨b, off + 4, none⟩ = some (.slice a' c.body.length cap') ∧
      Tm.at S w c.head (.agg #[.int .i64 c.head.kind, .int .i64 c.head.n, .string c.head.name, .slice a c.head.kids.length cap]) ∧ Tm.sl S w c.body (.slice a' c.body.length cap') := by
  obtain ⟨h1, sv, h2, h3⟩ := h
  obtain ⟨a, cap, c0, c1, c2, c3, hat⟩ := Tm.at_of_cells h1
  have h3' := h3
  obtain ⟨a', cap', rfl, _⟩ := h3
  exact ⟨a, cap, a', cap', c0, c1, c2, c3, h2, hat, h3'⟩
theorem Cl.get {S : Nat → Prop} {w wr : World} {cs : List Cl} {a : Option Addr} {k : Nat} {c : Cl}
    (h : cs = [] ∨ ∃ b off, a = some ⟨b, off, none⟩ ∧ S b ∧ Cl.row S w b off cs) (hc : cs[k]? = some c) (he : Ext w wr) :
    ∃ b off ak ck al cl, a = some ⟨b, off, none⟩ ∧
      wr.cell? ⟨b, off + k * 5, none⟩ = some (.int .i64 c.head.kind) ∧ wr.cell? ⟨b, off + k * 5 + 1, none⟩ = some (.int .i64 c.head.n) ∧ wr.cell? ⟨b, off + k * 5 + 2, none⟩ = some (.string c.head.name) ∧
      wr.cell? ⟨b, off + k * 5 + 3, none⟩ = some (.slice ak c.head.kids.length ck) ∧ wr.cell? ⟨b, off + k * 5 + 4, none⟩ = some (.slice al c.body.length cl) ∧
      Tm.at S w c.head (.agg #[.int .i64 c.head.kind, .int .i64 c.head.n, .string c.head.name, .slice ak c.head.kids.length ck]) ∧ Tm.sl S w c.body (.slice al c.body.length cl) := by
  rcases h with h4 | ⟨b, off, rfl, hSb, hrow⟩
  · rw [h4] at hc; simp at hc
  obtain ⟨ak, ck, al, cl, c0, c1, c2, c3, c4, hat, hsl⟩ := Cl.at_of_cells (Cl.row_get hrow k c hc)
  exact ⟨b, off, ak, ck, al, cl, rfl, he.cell c0, he.cell c1, he.cell c2, he.cell c3, he.cell c4, hat, hsl⟩
theorem Cl.form {S : Nat → Prop} {w : World} {c : Cl} {v : Value} (h : Cl.at S w c v) :
    ∃ a cap a' cap', v = .agg #[.int .i64 c.head.kind, .int .i64 c.head.n, .string c.head.name, .slice a c.head.kids.length cap, .slice a' c.body.length cap'] ∧
      Tm.at S w c.head (.agg #[.int .i64 c.head.kind, .int .i64 c.head.n, .string c.head.name, .slice a c.head.kids.length cap]) ∧ Tm.sl S w c.body (.slice a' c.body.length cap') := by
  obtain ⟨hv, bv, rfl, h2, h3⟩ := h
  have h2' := h2
  have h3' := h3
  obtain ⟨a', cap', rfl, _⟩ := h3
  obtain ⟨_, sv', he, a, cap, rfl, _⟩ := Tm.at_iff.1 h2
  simp only [Value.agg.injEq, Array.mk.injEq, List.cons.injEq, and_true, true_and] at he
  subst he
  exact ⟨a, cap, a', cap', rfl, h2', h3'⟩
def BoxC (w : World) (b : Nat) (v0 v1 v2 v3 v4 : Value) : Prop :=
  w.cell? ⟨b, 0, none⟩ = some v0 ∧ w.cell? ⟨b, 1, none⟩ = some v1 ∧ w.cell? ⟨b, 2, none⟩ = some v2 ∧ w.cell? ⟨b, 3, none⟩ = some v3 ∧ w.cell? ⟨b, 4, none⟩ = some v4 ∧
    w.frozen? ⟨b, 0, none⟩ = false ∧ w.frozen? ⟨b, 1, none⟩ = false ∧ w.frozen? ⟨b, 2, none⟩ = false ∧ w.frozen? ⟨b, 3, none⟩ = false ∧ w.frozen? ⟨b, 4, none⟩ = false
abbrev BoxCZ (w : World) (b : Nat) : Prop := BoxC w b (.int .i64 0) (.int .i64 0) (.string ⟨#[]⟩) (.slice none 0 0) (.slice none 0 0)
theorem BoxC.lt {w : World} {b : Nat} {v0 v1 v2 v3 v4 : Value} (h : BoxC w b v0 v1 v2 v3 v4) : b < w.heap.size := block_lt_of_cell h.1
theorem BoxC.fr {M : Nat → Prop} {w w' : World} {b : Nat} {v0 v1 v2 v3 v4 : Value} (h : BoxC w b v0 v1 v2 v3 v4) (f : Fr M w w') (hb : ¬ M b) : BoxC w' b v0 v1 v2 v3 v4 := by
  have hl := h.lt
  obtain ⟨c0, c1, c2, c3, c4, f0, f1, f2, f3, f4⟩ := h
  exact ⟨f.cell hb c0, f.cell hb c1, f.cell hb c2, f.cell hb c3, f.cell hb c4, f.frozen hl hb f0, f.frozen hl hb f1, f.frozen hl hb f2, f.frozen hl hb f3, f.frozen hl hb f4⟩
theorem BoxC.ext {w w' : World} {b : Nat} {v0 v1 v2 v3 v4 : Value} (h : BoxC w b v0 v1 v2 v3 v4) (e : Ext w w') : BoxC w' b v0 v1 v2 v3 v4 := h.fr (M := fun _ => False) (Fr.of_ext e) (fun h => h)
theorem BoxC.new (w : World) (v0 v1 v2 v3 v4 : Value) (T : Nat) {b : Nat} (hb : b = w.heap.size) : BoxC (w.alloc (.cells #[v0, v1, v2, v3, v4] T)) b v0 v1 v2 v3 v4 := by
  subst hb
  refine ⟨?_, ?_, ?_, ?_, ?_, ?_, ?_, ?_, ?_, ?_⟩ <;> go_simp
theorem BoxC.setHead {w : World} {b : Nat} {v0 v1 v2 v3 v4 : Value} (h : BoxC w b v0 v1 v2 v3 v4) (u0 u1 u2 u3 : Value) : BoxC (set4 w b u0 u1 u2 u3) b u0 u1 u2 u3 v4 := by
  obtain ⟨c0, c1, c2, c3, c4, f0, f1, f2, f3, f4⟩ := h
  obtain ⟨s0, s1, s2, s3⟩ := set4_cells u0 u1 u2 u3 c0 c1 c2 c3
  have s4 : (set4 w b u0 u1 u2 u3).cell? ⟨b, 4, none⟩ = some v4 := by
    unfold set4
    exact cell_off (i := 4) (j := 3) (by decide) (cell_off (i := 4) (j := 2) (by decide) (cell_off (i := 4) (j := 1) (by decide) (cell_off (i := 4) (j := 0) (by decide) c4)))
  exact ⟨s0, s1, s2, s3, s4, by unfold set4; rw [World.frozen?_setCell, World.frozen?_setCell, World.frozen?_setCell, World.frozen?_setCell]; exact f0, by unfold set4; rw [World.frozen?_setCell, World.frozen?_setCell, World.frozen?_setCell, World.frozen?_setCell]; exact f1, by unfold set4; rw [World.frozen?_setCell, World.frozen?_setCell, World.frozen?_setCell, World.frozen?_setCell]; exact f2, by unfold set4; rw [World.frozen?_setCell, World.frozen?_setCell, World.frozen?_setCell, World.frozen?_setCell]; exact f3, by unfold set4; rw [World.frozen?_setCell, World.frozen?_setCell, World.frozen?_setCell, World.frozen?_setCell]; exact f4⟩
theorem BoxC.setBody {w : World} {b : Nat} {v0 v1 v2 v3 v4 : Value} (h : BoxC w b v0 v1 v2 v3 v4) (u : Value) : BoxC (w.setCell ⟨b, 4, none⟩ u) b v0 v1 v2 v3 u := by
  obtain ⟨c0, c1, c2, c3, c4, f0, f1, f2, f3, f4⟩ := h
  exact ⟨cell_off (i := 0) (j := 4) (by decide) c0, cell_off (i := 1) (j := 4) (by decide) c1, cell_off (i := 2) (j := 4) (by decide) c2, cell_off (i := 3) (j := 4) (by decide) c3, cell_same c4, by rw [World.frozen?_setCell]; exact f0, by rw [World.frozen?_setCell]; exact f1, by rw [World.frozen?_setCell]; exact f2, by rw [World.frozen?_setCell]; exact f3, by rw [World.frozen?_setCell]; exact f4⟩
theorem load5 {P : Program} {w : World} {T b : Nat} {v0 v1 v2 v3 v4 : Value} (hT : ∀ w, (isAgg T).run P w = .ok true w) (hs : ∀ w, (sizeOf T).run P w = .ok 5 w)
    (h0 : w.cell? ⟨b, 0, none⟩ = some v0) (h1 : w.cell? ⟨b, 1, none⟩ = some v1) (h2 : w.cell? ⟨b, 2, none⟩ = some v2) (h3 : w.cell? ⟨b, 3, none⟩ = some v3) (h4 : w.cell? ⟨b, 4, none⟩ = some v4) :
    (loadVar T ⟨b, 0, none⟩).run P w = .ok (.agg #[v0, v1, v2, v3, v4]) w := by
  unfold loadVar
  simp only [Sem.run_bind, hT, Result.andThen_ok, if_true, hs]
  simp [loadCells, loadCellsFrom, go_sem, h0, h1, h2, h3, h4]
theorem set5_grown (Y : World) (b : Nat) (v0 v1 v2 v3 v4 : Value) : Y.grownBy ((((((Y.setCell ⟨b, 0, none⟩ v0).setCell ⟨b, 1, none⟩ v1).setCell ⟨b, 2, none⟩ v2).setCell ⟨b, 3, none⟩ v3)).setCell ⟨b, 4, none⟩ v4) (some b) :=
  grown_trans (set4_grown Y b v0 v1 v2 v3) (grown_setCell _ _ _ _)
theorem ret5_set {P : Program} {fn : Func} {R : Ending → World → Prop} {a : Act} {Y : World} {p T b : Nat} {u0 u1 u2 u3 u4 v0 v1 v2 v3 v4 : Value}
    (hres : fn.results = #[.cell p T]) (hT : ∀ w, (isAgg T).run P w = .ok true w) (hs : ∀ w, (sizeOf T).run P w = .ok 5 w) (hp : a.tmps.getD p undef = .pointer (some ⟨b, 0, none⟩)) (hd : a.defers = [])
    (h : BoxC Y b u0 u1 u2 u3 u4)
    (hR : ∀ X, Y.grownBy X (some b) → R (.returned (.agg #[v0, v1, v2, v3, v4])) X) :
    bodyPost P fn R .ret a ((((((Y.setCell ⟨b, 0, none⟩ v0).setCell ⟨b, 1, none⟩ v1).setCell ⟨b, 2, none⟩ v2).setCell ⟨b, 3, none⟩ v3)).setCell ⟨b, 4, none⟩ v4) := by
  have h' := (h.setHead v0 v1 v2 v3).setBody v4
  obtain ⟨c0, c1, c2, c3, c4, _⟩ := h'
  refine bodyPost_ret (v := .agg #[v0, v1, v2, v3, v4]) ?_ hd (hR _ (set5_grown Y b v0 v1 v2 v3 v4))
  have hl := load5 (P := P) (T := T) (b := b) hT hs c0 c1 c2 c3 c4
  simp only [results, hres]
  have hp' : a.tmps[p]?.getD undef = .pointer (some ⟨b, 0, none⟩) := by simpa using hp
  unfold set4 at hl
  simp [hp', asAddr, hl]
end Go.Proofs.Ytognkaebiafgbaa

namespace Go.Proofs.Ytognkaebiafgbaa
open Go.RowKit
set_option linter.unusedVariables false
def Cl.same (c d : Cl) : Bool := Tm.same c.head d.head && Tm.sameL c.body d.body
end Go.Proofs.Ytognkaebiafgbaa
