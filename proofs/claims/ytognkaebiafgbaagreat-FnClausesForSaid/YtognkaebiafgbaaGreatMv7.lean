/-
  The reference's draws of one term and of two.
-/
import Derived.Deep.RegionHeld3
import Derived.Test.YtognkaebiafgbaaGreatRows
import Derived.WalkLawsBesides
import Derived.Lib.Hide
import Derived.Deep.QuietTactic
import Derived.BigQuiet
import Derived.Test.YtognkaebiafgbaaGreatMv6
import Derived.Test.YtognkaebiafgbaaGreatMv1
namespace Go.Proofs.YtognkaebiafgbaaGreat
open Go.RowKit
set_option linter.unusedVariables false
def BoxT (w : World) (b : Nat) (v0 v1 v2 v3 : Value) : Prop :=
  w.cell? ⟨b, 0, none⟩ = some v0 ∧ w.cell? ⟨b, 1, none⟩ = some v1 ∧ w.cell? ⟨b, 2, none⟩ = some v2 ∧ w.cell? ⟨b, 3, none⟩ = some v3 ∧
    w.frozen? ⟨b, 0, none⟩ = false ∧ w.frozen? ⟨b, 1, none⟩ = false ∧ w.frozen? ⟨b, 2, none⟩ = false ∧ w.frozen? ⟨b, 3, none⟩ = false
abbrev BoxZ (w : World) (b : Nat) : Prop := BoxT w b (.int .i64 0) (.int .i64 0) (.string ⟨#[]⟩) (.slice none 0 0)
theorem BoxT.lt {w : World} {b : Nat} {v0 v1 v2 v3 : Value} (h : BoxT w b v0 v1 v2 v3) : b < w.heap.size := block_lt_of_cell h.1
theorem BoxT.fr {M : Nat → Prop} {w w' : World} {b : Nat} {v0 v1 v2 v3 : Value} (h : BoxT w b v0 v1 v2 v3) (f : Fr M w w') (hb : ¬ M b) : BoxT w' b v0 v1 v2 v3 :=
  ⟨f.cell hb h.1, f.cell hb h.2.1, f.cell hb h.2.2.1, f.cell hb h.2.2.2.1, f.frozen h.lt hb h.2.2.2.2.1, f.frozen h.lt hb h.2.2.2.2.2.1, f.frozen h.lt hb h.2.2.2.2.2.2.1, f.frozen h.lt hb h.2.2.2.2.2.2.2⟩
theorem BoxT.ext {w w' : World} {b : Nat} {v0 v1 v2 v3 : Value} (h : BoxT w b v0 v1 v2 v3) (e : Ext w w') : BoxT w' b v0 v1 v2 v3 := h.fr (M := fun _ => False) (Fr.of_ext e) (fun h => h)
theorem BoxT.extR {w w' : World} {r b : Nat} {v0 v1 v2 v3 : Value} (h : BoxT w b v0 v1 v2 v3) (e : ExtR r w w') (hb : b ≠ r) : BoxT w' b v0 v1 v2 v3 := h.fr (M := fun k => k = r) (Fr.of_extR e rfl) hb
theorem BoxT.new (w : World) (v0 v1 v2 v3 : Value) (T : Nat) {b : Nat} (hb : b = w.heap.size) : BoxT (w.alloc (.cells #[v0, v1, v2, v3] T)) b v0 v1 v2 v3 := by
  subst hb
  refine ⟨?_, ?_, ?_, ?_, ?_, ?_, ?_, ?_⟩ <;> go_simp
theorem BytesAt.ext {w w' : World} {v : Value} (h : BytesAt w v) (e : Ext w w') : BytesAt w' v := by
  obtain ⟨a, len, cap, h1, h2, h3, h4⟩ := h
  refine ⟨a, len, cap, h1, h2, h3, ?_⟩
  rcases h4 with h4 | ⟨b, off, h4, h5⟩
  · exact .inl h4
  · exact .inr ⟨b, off, h4, fun i hi => let ⟨n, hn, hc⟩ := h5 i hi; ⟨n, hn, e.cell hc⟩⟩
end Go.Proofs.YtognkaebiafgbaaGreat

namespace Go.Proofs.YtognkaebiafgbaaGreat
open Go.RowKit
set_option linter.unusedVariables false
structure Cl where
  head : Tm
  body : List Tm
def Cl.at (S : Nat → Prop) (w : World) (c : Cl) (v : Value) : Prop := ∃ sv bv, v = .agg #[.int .i64 c.head.kind, .int .i64 c.head.n, .string c.head.name, sv, bv] ∧ Tm.at S w c.head (.agg #[.int .i64 c.head.kind, .int .i64 c.head.n, .string c.head.name, sv]) ∧ Tm.sl S w c.body bv
def Cl.cells (S : Nat → Prop) (w : World) (b off : Nat) (c : Cl) : Prop := Tm.cells S w b off c.head ∧ ∃ sv, w.cell? ⟨b, off + 4, none⟩ = some sv ∧ Tm.sl S w c.body sv
def Cl.row (S : Nat → Prop) (w : World) (b off : Nat) : List Cl → Prop
  | [] => True
  | c :: cs => Cl.cells S w b off c ∧ Cl.row S w b (off + 5) cs
def Cl.sl (S : Nat → Prop) (w : World) (cs : List Cl) (v : Value) : Prop :=
  ∃ a cap, v = .slice a cs.length cap ∧ cs.length ≤ cap ∧ cap ≤ 9223372036854775807 ∧ cs.length ≤ 1048576 ∧
    (cs = [] ∨ ∃ b off, a = some ⟨b, off, none⟩ ∧ S b ∧ Cl.row S w b off cs)
theorem Cl.at_mono {S S' : Nat → Prop} {w w' : World} (hS : ∀ b, S b → S' b) (ha : Agree S w w') {c : Cl} {v : Value} (h : Cl.at S w c v) : Cl.at S' w' c v := by
  obtain ⟨hv, bv, h1, h2, h3⟩ := h
  exact ⟨hv, bv, h1, Tm.at_mono hS ha h2, Tm.sl_mono hS ha h3⟩
theorem Cl.at_ext {S : Nat → Prop} {w w' : World} (e : Ext w w') {c : Cl} {v : Value} (h : Cl.at S w c v) : Cl.at S w' c v := Cl.at_mono (fun _ h => h) (Agree.of_ext e) h
theorem Cl.row_mono {S S' : Nat → Prop} {w w' : World} (hS : ∀ b, S b → S' b) (ha : Agree S w w') {b : Nat} (hb : S b) : ∀ (cs : List Cl) (off : Nat), Cl.row S w b off cs → Cl.row S' w' b off cs
  | [], _, _ => trivial
  | c :: cs, off, h => by
    obtain ⟨⟨h1, sv, h2, h3⟩, h4⟩ := h
    exact ⟨⟨Tm.cells_mono hS ha (b' := 0) (fun o v => ha _ o v hb) _ h1, sv, ha _ _ _ hb h2, Tm.sl_mono hS ha h3⟩, Cl.row_mono hS ha hb cs _ h4⟩
theorem Cl.sl_mono {S S' : Nat → Prop} {w w' : World} (hS : ∀ b, S b → S' b) (ha : Agree S w w') {cs : List Cl} {v : Value} (h : Cl.sl S w cs v) : Cl.sl S' w' cs v := by
  obtain ⟨a, cap, h1, h2, h3, h4, h5⟩ := h
  refine ⟨a, cap, h1, h2, h3, h4, ?_⟩
  rcases h5 with h5 | ⟨b, off, h5, h6, h7⟩
  · exact .inl h5
  · exact .inr ⟨b, off, h5, hS _ h6, Cl.row_mono hS ha h6 cs _ h7⟩
theorem Cl.sl_ext {S : Nat → Prop} {w w' : World} (e : Ext w w') {cs : List Cl} {v : Value} (h : Cl.sl S w cs v) : Cl.sl S w' cs v := Cl.sl_mono (fun _ h => h) (Agree.of_ext e) h
theorem Cl.row_get {S : Nat → Prop} {w : World} {b : Nat} : ∀ {cs : List Cl} {off : Nat}, Cl.row S w b off cs → ∀ (i : Nat) (c : Cl), cs[i]? = some c → Cl.cells S w b (off + i * 5) c
  | [], _, _, i, t, h => by simp at h
  | c0 :: cs, off, h, 0, t, ht => by
    simp at ht; subst ht
    simpa using h.1
  | c0 :: cs, off, h, i + 1, t, ht => by
    have := Cl.row_get h.2 i t (by simpa using ht)
    rw [show off + (i + 1) * 5 = off + 5 + i * 5 by omega]
    exact this
theorem Cl.at_of_cells {S : Nat → Prop} {w : World} {b off : Nat} {c : Cl} (h : Cl.cells S w b off c) :
    ∃ a cap a' cap', w.cell? ⟨b, off, none⟩ = some (.int .i64 c.head.kind) ∧ w.cell? ⟨b, off + 1, none⟩ = some (.int .i64 c.head.n) ∧ w.cell? ⟨b, off + 2, none⟩ = some (.string c.head.name) ∧
      w.cell? ⟨b, off + 3, none⟩ = some (.slice a c.head.kids.length cap) ∧ w.cell? ⟨b, off + 4, none⟩ = some (.slice a' c.body.length cap') ∧
      Tm.at S w c.head (.agg #[.int .i64 c.head.kind, .int .i64 c.head.n, .string c.head.name, .slice a c.head.kids.length cap]) ∧ Tm.sl S w c.body (.slice a' c.body.length cap') := by
  obtain ⟨h1, sv, h2, h3⟩ := h
  obtain ⟨a, cap, c0, c1, c2, c3, hat⟩ := Tm.at_of_cells h1
  have h3' := h3
  obtain ⟨a', cap', rfl, _⟩ := h3
  exact ⟨a, cap, a', cap', c0, c1, c2, c3, h2, hat, h3'⟩
theorem Cl.get {S : Nat → Prop} {w wr : World} {cs : List Cl} {a : Option Addr} {k : Nat} {c : Cl}
    (h : cs = [] ∨ ∃ b off, a = some ⟨b, off, none⟩ ∧ S b ∧ Cl.row S w b off cs) (hc : cs[k]? = some c) (he : Ext w wr) :
    ∃ b off ak ck al cl, a = some ⟨b, off, none⟩ ∧
      wr.cell? ⟨b, off + k * 5, none⟩ = some (.int .i64 c.head.kind) ∧ wr.cell? ⟨b, off + k * 5 + 1, none⟩ = some (.int .i64 c.head.n) ∧ wr.cell? ⟨b, off + k * 5 + 2, none⟩ = some (.string c.head.name) ∧
      wr.cell? ⟨b, off + k * 5 + 3, none⟩ = some (.slice ak c.head.kids.length ck) ∧ wr.cell? ⟨b, off + k * 5 + 4, none⟩ = some (.slice al c.body.length cl) ∧
      Tm.at S w c.head (.agg #[.int .i64 c.head.kind, .int .i64 c.head.n, .string c.head.name, .slice ak c.head.kids.length ck]) ∧ Tm.sl S w c.body (.slice al c.body.length cl) := by
  rcases h with h4 | ⟨b, off, rfl, hSb, hrow⟩
  · rw [h4] at hc; simp at hc
  obtain ⟨ak, ck, al, cl, c0, c1, c2, c3, c4, hat, hsl⟩ := Cl.at_of_cells (Cl.row_get hrow k c hc)
  exact ⟨b, off, ak, ck, al, cl, rfl, he.cell c0, he.cell c1, he.cell c2, he.cell c3, he.cell c4, hat, hsl⟩
theorem Cl.form {S : Nat → Prop} {w : World} {c : Cl} {v : Value} (h : Cl.at S w c v) :
    ∃ a cap a' cap', v = .agg #[.int .i64 c.head.kind, .int .i64 c.head.n, .string c.head.name, .slice a c.head.kids.length cap, .slice a' c.body.length cap'] ∧
      Tm.at S w c.head (.agg #[.int .i64 c.head.kind, .int .i64 c.head.n, .string c.head.name, .slice a c.head.kids.length cap]) ∧ Tm.sl S w c.body (.slice a' c.body.length cap') := by
  obtain ⟨hv, bv, rfl, h2, h3⟩ := h
  have h2' := h2
  have h3' := h3
  obtain ⟨a', cap', rfl, _⟩ := h3
  obtain ⟨_, sv', he, a, cap, rfl, _⟩ := Tm.at_iff.1 h2
  simp only [Value.agg.injEq, Array.mk.injEq, List.cons.injEq, and_true, true_and] at he
  subst he
  exact ⟨a, cap, a', cap', rfl, h2', h3'⟩
def BoxC (w : World) (b : Nat) (v0 v1 v2 v3 v4 : Value) : Prop :=
  w.cell? ⟨b, 0, none⟩ = some v0 ∧ w.cell? ⟨b, 1, none⟩ = some v1 ∧ w.cell? ⟨b, 2, none⟩ = some v2 ∧ w.cell? ⟨b, 3, none⟩ = some v3 ∧ w.cell? ⟨b, 4, none⟩ = some v4 ∧
    w.frozen? ⟨b, 0, none⟩ = false ∧ w.frozen? ⟨b, 1, none⟩ = false ∧ w.frozen? ⟨b, 2, none⟩ = false ∧ w.frozen? ⟨b, 3, none⟩ = false ∧ w.frozen? ⟨b, 4, none⟩ = false
abbrev BoxCZ (w : World) (b : Nat) : Prop := BoxC w b (.int .i64 0) (.int .i64 0) (.string ⟨#[]⟩) (.slice none 0 0) (.slice none 0 0)
theorem BoxC.lt {w : World} {b : Nat} {v0 v1 v2 v3 v4 : Value} (h : BoxC w b v0 v1 v2 v3 v4) : b < w.heap.size := block_lt_of_cell h.1
theorem BoxC.fr {M : Nat → Prop} {w w' : World} {b : Nat} {v0 v1 v2 v3 v4 : Value} (h : BoxC w b v0 v1 v2 v3 v4) (f : Fr M w w') (hb : ¬ M b) : BoxC w' b v0 v1 v2 v3 v4 := by
  have hl := h.lt
  obtain ⟨c0, c1, c2, c3, c4, f0, f1, f2, f3, f4⟩ := h
  exact ⟨f.cell hb c0, f.cell hb c1, f.cell hb c2, f.cell hb c3, f.cell hb c4, f.frozen hl hb f0, f.frozen hl hb f1, f.frozen hl hb f2, f.frozen hl hb f3, f.frozen hl hb f4⟩
theorem BoxC.ext {w w' : World} {b : Nat} {v0 v1 v2 v3 v4 : Value} (h : BoxC w b v0 v1 v2 v3 v4) (e : Ext w w') : BoxC w' b v0 v1 v2 v3 v4 := h.fr (M := fun _ => False) (Fr.of_ext e) (fun h => h)
theorem BoxC.new (w : World) (v0 v1 v2 v3 v4 : Value) (T : Nat) {b : Nat} (hb : b = w.heap.size) : BoxC (w.alloc (.cells #[v0, v1, v2, v3, v4] T)) b v0 v1 v2 v3 v4 := by
  subst hb
  refine ⟨?_, ?_, ?_, ?_, ?_, ?_, ?_, ?_, ?_, ?_⟩ <;> go_simp
theorem BoxC.setHead {w : World} {b : Nat} {v0 v1 v2 v3 v4 : Value} (h : BoxC w b v0 v1 v2 v3 v4) (u0 u1 u2 u3 : Value) : BoxC (set4 w b u0 u1 u2 u3) b u0 u1 u2 u3 v4 := by
  obtain ⟨c0, c1, c2, c3, c4, f0, f1, f2, f3, f4⟩ := h
  obtain ⟨s0, s1, s2, s3⟩ := set4_cells u0 u1 u2 u3 c0 c1 c2 c3
  have s4 : (set4 w b u0 u1 u2 u3).cell? ⟨b, 4, none⟩ = some v4 := by
    unfold set4
    exact cell_off (i := 4) (j := 3) (by decide) (cell_off (i := 4) (j := 2) (by decide) (cell_off (i := 4) (j := 1) (by decide) (cell_off (i := 4) (j := 0) (by decide) c4)))
  exact ⟨s0, s1, s2, s3, s4, by unfold set4; rw [World.frozen?_setCell, World.frozen?_setCell, World.frozen?_setCell, World.frozen?_setCell]; exact f0, by unfold set4; rw [World.frozen?_setCell, World.frozen?_setCell, World.frozen?_setCell, World.frozen?_setCell]; exact f1, by unfold set4; rw [World.frozen?_setCell, World.frozen?_setCell, World.frozen?_setCell, World.frozen?_setCell]; exact f2, by unfold set4; rw [World.frozen?_setCell, World.frozen?_setCell, World.frozen?_setCell, World.frozen?_setCell]; exact f3, by unfold set4; rw [World.frozen?_setCell, World.frozen?_setCell, World.frozen?_setCell, World.frozen?_setCell]; exact f4⟩
theorem BoxC.setBody {w : World} {b : Nat} {v0 v1 v2 v3 v4 : Value} (h : BoxC w b v0 v1 v2 v3 v4) (u : Value) : BoxC (w.setCell ⟨b, 4, none⟩ u) b v0 v1 v2 v3 u := by
  obtain ⟨c0, c1, c2, c3, c4, f0, f1, f2, f3, f4⟩ := h
  exact ⟨cell_off (i := 0) (j := 4) (by decide) c0, cell_off (i := 1) (j := 4) (by decide) c1, cell_off (i := 2) (j := 4) (by decide) c2, cell_off (i := 3) (j := 4) (by decide) c3, cell_same c4, by rw [World.frozen?_setCell]; exact f0, by rw [World.frozen?_setCell]; exact f1, by rw [World.frozen?_setCell]; exact f2, by rw [World.frozen?_setCell]; exact f3, by rw [World.frozen?_setCell]; exact f4⟩
theorem load5 {P : Program} {w : World} {T b : Nat} {v0 v1 v2 v3 v4 : Value} (hT : ∀ w, (isAgg T).run P w = .ok true w) (hs : ∀ w, (sizeOf T).run P w = .ok 5 w)
    (h0 : w.cell? ⟨b, 0, none⟩ = some v0) (h1 : w.cell? ⟨b, 1, none⟩ = some v1) (h2 : w.cell? ⟨b, 2, none⟩ = some v2) (h3 : w.cell? ⟨b, 3, none⟩ = some v3) (h4 : w.cell? ⟨b, 4, none⟩ = some v4) :
    (loadVar T ⟨b, 0, none⟩).run P w = .ok (.agg #[v0, v1, v2, v3, v4]) w := by
  unfold loadVar
  simp only [Sem.run_bind, hT, Result.andThen_ok, if_true, hs]
  simp [loadCells, loadCellsFrom, go_sem, h0, h1, h2, h3, h4]
theorem set5_grown (Y : World) (b : Nat) (v0 v1 v2 v3 v4 : Value) : Y.grownBy ((((((Y.setCell ⟨b, 0, none⟩ v0).setCell ⟨b, 1, none⟩ v1).setCell ⟨b, 2, none⟩ v2).setCell ⟨b, 3, none⟩ v3)).setCell ⟨b, 4, none⟩ v4) (some b) :=
  grown_trans (set4_grown Y b v0 v1 v2 v3) (grown_setCell _ _ _ _)
theorem ret5_set {P : Program} {fn : Func} {R : Ending → World → Prop} {a : Act} {Y : World} {p T b : Nat} {u0 u1 u2 u3 u4 v0 v1 v2 v3 v4 : Value}
    (hres : fn.results = #[.cell p T]) (hT : ∀ w, (isAgg T).run P w = .ok true w) (hs : ∀ w, (sizeOf T).run P w = .ok 5 w) (hp : a.tmps.getD p undef = .pointer (some ⟨b, 0, none⟩)) (hd : a.defers = [])
    (h : BoxC Y b u0 u1 u2 u3 u4)
    (hR : ∀ X, Y.grownBy X (some b) → R (.returned (.agg #[v0, v1, v2, v3, v4])) X) :
    bodyPost P fn R .ret a ((((((Y.setCell ⟨b, 0, none⟩ v0).setCell ⟨b, 1, none⟩ v1).setCell ⟨b, 2, none⟩ v2).setCell ⟨b, 3, none⟩ v3)).setCell ⟨b, 4, none⟩ v4) := by
  have h' := (h.setHead v0 v1 v2 v3).setBody v4
  obtain ⟨c0, c1, c2, c3, c4, _⟩ := h'
  refine bodyPost_ret (v := .agg #[v0, v1, v2, v3, v4]) ?_ hd (hR _ (set5_grown Y b v0 v1 v2 v3 v4))
  have hl := load5 (P := P) (T := T) (b := b) hT hs c0 c1 c2 c3 c4
  simp only [results, hres]
  have hp' : a.tmps[p]?.getD undef = .pointer (some ⟨b, 0, none⟩) := by simpa using hp
  unfold set4 at hl
  simp [hp', asAddr, hl]
end Go.Proofs.YtognkaebiafgbaaGreat

namespace Go.Proofs.YtognkaebiafgbaaGreat
open Go.RowKit
set_option linter.unusedVariables false
def Cl.same (c d : Cl) : Bool := Tm.same c.head d.head && Tm.sameL c.body d.body
end Go.Proofs.YtognkaebiafgbaaGreat

namespace Go.Proofs.YtognkaebiafgbaaGreat
open Go.RowKit
set_option linter.unusedVariables false
def wordB (c : UInt8) : Bool := !(decide (c.toNat < 97) || decide (122 < c.toNat))
def wordF (l : List UInt8) : Bool := l.all wordB && (decide (1 ≤ l.length) && decide (l.length ≤ 6))
theorem wordF_no {l : List UInt8} {k : Nat} (h : k < l.length) (hc : wordB l[k] = false) : wordF l = false := by
  unfold wordF
  have : l.all wordB = false := by
    rw [List.all_eq_false]
    exact ⟨l[k], List.getElem_mem h, by simp [hc]⟩
  simp [this]
theorem all_take_snoc {l : List UInt8} {k : Nat} (h : k < l.length) (ha : (l.take k).all wordB = true) (hc : wordB l[k] = true) : (l.take (k + 1)).all wordB = true := by
  rw [List.take_succ_eq_append_getElem h, List.all_append, ha]
  simp [hc]
theorem round_word {s : ByteArray} {k : Nat} (h : k < s.size) (ha : (s.toList.take k).all wordB = true) (h1 : ¬ (s[k].toNat : Int) < 97) (h2 : ¬ (122 : Int) < s[k].toNat) : (s.toList.take (k + 1)).all wordB = true :=
  all_take_snoc (by rw [bl_len]; exact h) ha (by rw [bl_get s k h]; simp only [wordB]; simp; omega)
theorem stop_word1 {s : ByteArray} {k : Nat} (h : k < s.size) (h1 : (s[k].toNat : Int) < 97) : wordF s.toList = false :=
  wordF_no (by rw [bl_len]; exact h) (by rw [bl_get s k h]; simp only [wordB]; simp; omega)
theorem stop_word2 {s : ByteArray} {k : Nat} (h : k < s.size) (h1 : (122 : Int) < s[k].toNat) : wordF s.toList = false :=
  wordF_no (by rw [bl_len]; exact h) (by rw [bl_get s k h]; simp only [wordB]; simp; omega)
theorem end_word {s : ByteArray} {k : Nat} (hk : k ≤ s.size) (hlt : ¬ k < s.size) (ha : (s.toList.take k).all wordB = true) : wordF s.toList = (decide (1 ≤ s.size) && decide (s.size ≤ 6)) := by
  rw [List.take_of_length_le (by rw [bl_len]; omega)] at ha
  simp [wordF, ha, bl_len]
set_option maxHeartbeats 400000 in
theorem specl1Word (s : ByteArray) (w : World) (hs : s.size ≤ 1048576) : Calls Tryz.prog 49 #[.string s] w fun e w' => e = .returned (.bool (wordF s.toList)) ∧ w = w' := by
  go_enter Tryz.func49, Tryz.ntmps49
  go_wp2_with fail
  go_loop [3] (fun i => ∃ k : Nat, k ≤ s.size ∧ i = .int .i64 k ∧ (s.toList.take k).all wordB = true) (fun i => s.size - (intOf i).toNat)
  case atStart => exact ⟨0, Nat.zero_le _, rfl, rfl⟩
  case round =>
    obtain ⟨k, hk, rfl, ha⟩ := hrel
    have Ha := Lib.hid ha
    clear ha
    by_cases hlt : k < s.size
    · by_cases h1 : (s[k].toNat : Int) < 97
      · have hf := Lib.hid (stop_word1 hlt h1)
        go_wp2_with fail
        go_ret
        exact ⟨retB hf.out.symm, rfl⟩
      · by_cases h2 : (122 : Int) < s[k].toNat
        · have hf := Lib.hid (stop_word2 hlt h2)
          go_wp2_with fail
          go_ret
          exact ⟨retB hf.out.symm, rfl⟩
        · have hf := Lib.hid (round_word hlt Ha.out h1 h2)
          go_wp2_with fail
          go_round
          case rel => exact ⟨k + 1, by omega, by go_num, hf.out⟩
          case measure => simp [intOf]; omega
    · have hf := Lib.hid (end_word hk hlt Ha.out)
      by_cases h1 : 1 ≤ s.size
      · by_cases h2 : s.size ≤ 6
        all_goals
          go_wp2_with fail
          go_ret
          exact ⟨by rw [hf.out]; simp [h1, h2]; try omega, rfl⟩
      · go_wp2_with fail
        go_ret
        exact ⟨by rw [hf.out]; simp; omega, rfl⟩
set_option maxHeartbeats 400000 in
theorem implwithin (n lo hi : Int) (w : World) : Calls Tryz.prog 63 #[.int .i64 n, .int .i64 lo, .int .i64 hi] w fun e w' => e = .returned (.bool (decide (lo ≤ n) && decide (n ≤ hi))) ∧ w = w' := by
  by_cases h1 : lo ≤ n
  · by_cases h2 : n ≤ hi
    all_goals
      go_enter Tryz.func63, Tryz.ntmps63
      go_wp2
      go_ret
      exact ⟨by simp [h1, h2]; try omega, rfl⟩
  · go_enter Tryz.func63, Tryz.ntmps63
    go_wp2
    go_ret
    exact ⟨by simp; omega, rfl⟩
set_option maxHeartbeats 400000 in
theorem implisLetters (s : ByteArray) (w : World) (hs : s.size ≤ 1048576) : Calls Tryz.prog 44 #[.string s] w fun e w' => e = .returned (.bool (wordF s.toList)) ∧ w = w' := by
  go_enter Tryz.func44, Tryz.ntmps44
  go_wp2_with fail
  go_loop [3, 6] (fun _ i => ∃ k : Nat, k ≤ s.size ∧ i = .int .i64 k ∧ (s.toList.take k).all wordB = true) (fun _ i => s.size - (intOf i).toNat)
  case atStart => exact ⟨0, Nat.zero_le _, rfl, rfl⟩
  case round =>
    obtain ⟨k, hk, rfl, ha⟩ := hrel
    have Ha := Lib.hid ha
    clear ha
    by_cases hlt : k < s.size
    · by_cases h1 : (s[k].toNat : Int) < 97
      · have hf := Lib.hid (stop_word1 hlt h1)
        go_wp2_with fail
        go_ret
        exact ⟨retB hf.out.symm, rfl⟩
      · by_cases h2 : (122 : Int) < s[k].toNat
        · have hf := Lib.hid (stop_word2 hlt h2)
          go_wp2_with fail
          go_ret
          exact ⟨retB hf.out.symm, rfl⟩
        · have hf := Lib.hid (round_word hlt Ha.out h1 h2)
          go_wp2_with fail
          go_round
          case rel => exact ⟨k + 1, by omega, by go_num, hf.out⟩
          case measure => simp [intOf]; omega
    · have hf := Lib.hid (end_word hk hlt Ha.out)
      go_wp2_with (go_at_call 63; refine (implwithin _ _ _ _).mono ?_; rintro e w' ⟨rfl, rfl⟩)
      all_goals (go_ret; exact ⟨retB (by rw [hf.out]; congr 1 <;> simp <;> omega), rfl⟩)
theorem bq (a b : List UInt8) : (a == b) = (b == a) := by
  rw [Bool.eq_iff_iff]
  simp only [beq_iff_eq]
  exact ⟨Eq.symm, Eq.symm⟩
def hasF (ss : List ByteArray) (s : ByteArray) : Bool := ss.any fun x => x.toList == s.toList
theorem has_no {ss : List ByteArray} {s : ByteArray} (h : (ss.take ss.length).any (fun x => x.toList == s.toList) = false) : hasF ss s = false := by
  rw [List.take_length] at h; exact h
theorem has_yes {ss : List ByteArray} {s x : ByteArray} {k : Nat} (h : ss[k]? = some x) (he : (x.toList == s.toList) = true) : hasF ss s = true := by
  unfold hasF
  rw [List.any_eq_true]
  exact ⟨x, List.mem_of_getElem? h, he⟩
theorem has_snoc {ss : List ByteArray} {s x : ByteArray} {k : Nat} (hk : k < ss.length) (h : ss[k]? = some x) (ha : (ss.take k).any (fun x => x.toList == s.toList) = false) (he : (x.toList == s.toList) = false) :
    (ss.take (k + 1)).any (fun x => x.toList == s.toList) = false := by
  have : x = ss[k] := by simpa [List.getElem?_eq_getElem hk] using h.symm
  subst this
  rw [List.take_succ_eq_append_getElem hk, List.any_append, ha]
  simp [he]
set_option maxHeartbeats 400000 in
theorem specl1Has (ss : List ByteArray) (v : Value) (s : ByteArray) (w : World) (hv : StrsAt w ss v) : Calls Tryz.prog 88 #[v, .string s] w fun e w' => e = .returned (.bool (hasF ss s)) ∧ w = w' := by
  obtain ⟨a, cap, rfl, h1, h2, h3, h4⟩ := hv
  go_enter Tryz.func88, Tryz.ntmps88
  go_wp2_with fail
  go_loop [5] (fun i => ∃ k : Nat, k ≤ ss.length ∧ i = .int .i64 k ∧ (ss.take k).any (fun x => x.toList == s.toList) = false) (fun i => ss.length - (intOf i).toNat)
  case atStart => exact ⟨0, Nat.zero_le _, rfl, rfl⟩
  case round =>
    obtain ⟨k, hk, rfl, ha⟩ := hrel
    have Ha := Lib.hid ha
    clear ha
    by_cases hlt : k < ss.length
    · rcases h4 with h4 | ⟨b, off, rfl, h5⟩
      · subst h4; simp at hlt
      · obtain ⟨x, hx⟩ : ∃ x, ss[k]? = some x := ⟨ss[k], by simp [hlt]⟩
        have hc := h5 k x hx
        have Hx := Lib.hid hx
        clear hx h5 h3
        cases he : (x.toList == s.toList)
        · have hf := Lib.hid (has_snoc hlt Hx.out Ha.out he)
          go_wp2_with fail
          go_round
          case rel => exact ⟨k + 1, by omega, by go_num, hf.out⟩
          case measure => simp [intOf]; omega
        · have hf := Lib.hid (has_yes Hx.out he)
          go_wp2_with fail
          go_ret
          exact ⟨retB hf.out.symm, rfl⟩
    · have hf := Lib.hid (has_no (ss := ss) (s := s) (by rw [show ss.length = k by omega]; exact Ha.out))
      go_wp2_with fail
      go_ret
      exact ⟨retB hf.out.symm, rfl⟩
set_option maxHeartbeats 400000 in
theorem slicesIndexS (ss : List ByteArray) (v : Value) (s : ByteArray) (w : World) (hv : StrsAt w ss v) : Calls Tryz.prog 86 #[v, .string s] w fun e w' => ∃ n : Int, e = .returned (.int .i64 n) ∧ decide (0 ≤ n) = hasF ss s ∧ w = w' := by
  obtain ⟨a, cap, rfl, h1, h2, h3, h4⟩ := hv
  go_enter Tryz.func86, Tryz.ntmps86
  go_wp2_with fail
  go_loop [5, 8] (fun _ i => ∃ k : Nat, k ≤ ss.length ∧ i = .int .i64 k ∧ (ss.take k).any (fun x => x.toList == s.toList) = false) (fun _ i => ss.length - (intOf i).toNat)
  case atStart => exact ⟨0, Nat.zero_le _, rfl, rfl⟩
  case round =>
    obtain ⟨k, hk, rfl, ha⟩ := hrel
    have Ha := Lib.hid ha
    clear ha
    by_cases hlt : k < ss.length
    · rcases h4 with h4 | ⟨b, off, rfl, h5⟩
      · subst h4; simp at hlt
      · obtain ⟨x, hx⟩ : ∃ x, ss[k]? = some x := ⟨ss[k], by simp [hlt]⟩
        have hc := h5 k x hx
        have Hx := Lib.hid hx
        clear hx h5 h3
        cases he : (x.toList == s.toList)
        · have hf := Lib.hid (has_snoc hlt Hx.out Ha.out he)
          have he2 : (s.toList == x.toList) = false := by rw [← he]; exact bq _ _
          go_wp2_with fail
          go_round
          case rel => exact ⟨k + 1, by omega, by go_num, hf.out⟩
          case measure => simp [intOf]; omega
        · have hf := Lib.hid (has_yes Hx.out he)
          have he2 : (s.toList == x.toList) = true := by rw [← he]; exact bq _ _
          go_wp2_with fail
          go_ret
          exact ⟨_, rfl, by rw [hf.out]; exact decide_eq_true (by omega), rfl⟩
    · have hf := Lib.hid (has_no (ss := ss) (s := s) (by rw [show ss.length = k by omega]; exact Ha.out))
      go_wp2_with fail
      go_ret
      exact ⟨_, rfl, by rw [hf.out]; rfl, rfl⟩
set_option maxHeartbeats 400000 in
theorem slicesContainsS (ss : List ByteArray) (v : Value) (s : ByteArray) (w : World) (hv : StrsAt w ss v) : Calls Tryz.prog 77 #[v, .string s] w fun e w' => e = .returned (.bool (hasF ss s)) ∧ w = w' := by
  go_enter Tryz.func77, Tryz.ntmps77
  go_wp2_with (go_at_call 86; refine (slicesIndexS ss v s _ hv).mono ?_; rintro e w' ⟨n, rfl, hn, rfl⟩; have Hn := Lib.hid hn; clear hn)
  all_goals (go_ret; exact ⟨retB Hn.out, rfl⟩)
def signs : List ByteArray := [⟨#[43]⟩, ⟨#[45]⟩, ⟨#[42]⟩, ⟨#[47, 47]⟩, ⟨#[61]⟩, ⟨#[92, 61]⟩, ⟨#[61, 61]⟩, ⟨#[60]⟩, ⟨#[62]⟩, ⟨#[61, 60]⟩, ⟨#[62, 61]⟩, ⟨#[61, 58, 61]⟩, ⟨#[46]⟩, ⟨#[91, 93]⟩, ⟨#[33]⟩]
theorem strs_new (w : World) (T : Nat) : StrsAt (w.alloc (.cells #[.string ⟨#[43]⟩, .string ⟨#[45]⟩, .string ⟨#[42]⟩, .string ⟨#[47, 47]⟩, .string ⟨#[61]⟩, .string ⟨#[92, 61]⟩, .string ⟨#[61, 61]⟩, .string ⟨#[60]⟩, .string ⟨#[62]⟩, .string ⟨#[61, 60]⟩, .string ⟨#[62, 61]⟩, .string ⟨#[61, 58, 61]⟩, .string ⟨#[46]⟩, .string ⟨#[91, 93]⟩, .string ⟨#[33]⟩] T)) signs (.slice (some ⟨w.heap.size, 0, none⟩) 15 15) := by
  refine ⟨_, _, rfl, by decide, by decide, by decide, .inr ⟨w.heap.size, 0, rfl, fun i s h => ?_⟩⟩
  have hi : i < 15 := by
    have := (List.getElem?_eq_some_iff.1 h).1
    simpa [signs] using this
  revert s
  rcases i with _ | _ | _ | _ | _ | _ | _ | _ | _ | _ | _ | _ | _ | _ | _ | i
  all_goals first | omega | (intro s h; simp [signs] at h; subst h; exact cell_new _ _ _ _ _ rfl)
set_option maxHeartbeats 400000 in
theorem specl1Signs (w : World) : Calls Tryz.prog 89 #[] w fun e w' => ∃ v, e = .returned v ∧ StrsAt w' signs v ∧ Ext w w' := by
  go_enter Tryz.func89, Tryz.ntmps89
  go_wp2
  go_ret
  exact ⟨_, rfl, strs_new w _, Ext.alloc _ _⟩
set_option maxHeartbeats 400000 in
theorem implsymbols (w : World) : Calls Tryz.prog 78 #[] w fun e w' => ∃ v, e = .returned v ∧ StrsAt w' signs v ∧ Ext w w' := by
  go_enter Tryz.func78, Tryz.ntmps78
  go_wp2
  go_ret
  exact ⟨_, rfl, strs_new w _, Ext.alloc _ _⟩
def nameF (s : ByteArray) : Bool := wordF s.toList || hasF signs s
set_option maxHeartbeats 400000 in
theorem specNameValid (s : ByteArray) (w : World) (hs : s.size ≤ 1048576) : Calls Tryz.prog 81 #[.string s] w fun e w' => e = .returned (.bool (nameF s)) ∧ Ext w w' := by
  cases hw : wordF s.toList
  · go_enter Tryz.func81, Tryz.ntmps81
    go_wp2_with (first | (go_at_call 49; refine (specl1Word s _ hs).mono ?_; rw [hw]; rintro e w' ⟨rfl, rfl⟩) | (go_at_call 89; refine (specl1Signs _).mono ?_; rintro e w1 ⟨v, rfl, hv, he⟩) | (go_at_call 88; refine (specl1Has signs _ s _ hv).mono ?_; rintro e w' ⟨rfl, rfl⟩))
    go_ret
    exact ⟨retB (by simp [nameF, hw]), he⟩
  · go_enter Tryz.func81, Tryz.ntmps81
    go_wp2_with (go_at_call 49; refine (specl1Word s _ hs).mono ?_; rw [hw]; rintro e w' ⟨rfl, rfl⟩)
    go_ret
    exact ⟨retB (by simp [nameF, hw]), Ext.refl _⟩
set_option maxHeartbeats 400000 in
theorem implNameValid (s : ByteArray) (w : World) (hs : s.size ≤ 1048576) : Calls Tryz.prog 64 #[.string s] w fun e w' => e = .returned (.bool (nameF s)) ∧ Ext w w' := by
  cases hw : wordF s.toList
  · go_enter Tryz.func64, Tryz.ntmps64
    go_wp2_with (first | (go_at_call 44; refine (implisLetters s _ hs).mono ?_; rw [hw]; rintro e w' ⟨rfl, rfl⟩) | (go_at_call 78; refine (implsymbols _).mono ?_; rintro e w1 ⟨v, rfl, hv, he⟩) | (go_at_call 77; refine (slicesContainsS signs _ s _ hv).mono ?_; rintro e w' ⟨rfl, rfl⟩))
    go_ret
    exact ⟨retB (by simp [nameF, hw]), he⟩
  · go_enter Tryz.func64, Tryz.ntmps64
    go_wp2_with (go_at_call 44; refine (implisLetters s _ hs).mono ?_; rw [hw]; rintro e w' ⟨rfl, rfl⟩)
    go_ret
    exact ⟨retB (by simp [nameF, hw]), Ext.refl _⟩
end Go.Proofs.YtognkaebiafgbaaGreat
