/-
  The reference's draws of one term and of two.
-/
import Derived.Test.YtifklfnpaigdkaaGreatDoorMut
import Derived.Deep.RegionHeld3
namespace Go.Proofs.YtifklfnpaigdkaaGreatDoor
open Go.RowKit
set_option linter.unusedVariables false

/-- a box of four cells that may be written -/
def BoxT (w : World) (b : Nat) (v0 v1 v2 v3 : Value) : Prop :=
  w.cell? ⟨b, 0, none⟩ = some v0 ∧ w.cell? ⟨b, 1, none⟩ = some v1 ∧ w.cell? ⟨b, 2, none⟩ = some v2 ∧ w.cell? ⟨b, 3, none⟩ = some v3 ∧
    w.frozen? ⟨b, 0, none⟩ = false ∧ w.frozen? ⟨b, 1, none⟩ = false ∧ w.frozen? ⟨b, 2, none⟩ = false ∧ w.frozen? ⟨b, 3, none⟩ = false
abbrev BoxZ (w : World) (b : Nat) : Prop := BoxT w b (.int .i64 0) (.int .i64 0) (.string ⟨#[]⟩) (.slice none 0 0)
theorem BoxT.lt {w : World} {b : Nat} {v0 v1 v2 v3 : Value} (h : BoxT w b v0 v1 v2 v3) : b < w.heap.size := block_lt_of_cell h.1
theorem BoxT.fr {M : Nat → Prop} {w w' : World} {b : Nat} {v0 v1 v2 v3 : Value} (h : BoxT w b v0 v1 v2 v3) (f : Fr M w w') (hb : ¬ M b) : BoxT w' b v0 v1 v2 v3 :=
  ⟨f.cell hb h.1, f.cell hb h.2.1, f.cell hb h.2.2.1, f.cell hb h.2.2.2.1, f.frozen h.lt hb h.2.2.2.2.1, f.frozen h.lt hb h.2.2.2.2.2.1, f.frozen h.lt hb h.2.2.2.2.2.2.1, f.frozen h.lt hb h.2.2.2.2.2.2.2⟩
theorem BoxT.ext {w w' : World} {b : Nat} {v0 v1 v2 v3 : Value} (h : BoxT w b v0 v1 v2 v3) (e : Ext w w') : BoxT w' b v0 v1 v2 v3 := h.fr (M := fun _ => False) (Fr.of_ext e) (fun h => h)
theorem BoxT.extR {w w' : World} {r b : Nat} {v0 v1 v2 v3 : Value} (h : BoxT w b v0 v1 v2 v3) (e : ExtR r w w') (hb : b ≠ r) : BoxT w' b v0 v1 v2 v3 := h.fr (M := fun k => k = r) (Fr.of_extR e rfl) hb
theorem BoxT.new (w : World) (v0 v1 v2 v3 : Value) (T : Nat) {b : Nat} (hb : b = w.heap.size) : BoxT (w.alloc (.cells #[v0, v1, v2, v3] T)) b v0 v1 v2 v3 := by
  subst hb
  refine ⟨?_, ?_, ?_, ?_, ?_, ?_, ?_, ?_⟩ <;> go_simp
theorem BytesAt.ext {w w' : World} {v : Value} (h : BytesAt w v) (e : Ext w w') : BytesAt w' v := by
  obtain ⟨a, len, cap, h1, h2, h3, h4⟩ := h
  refine ⟨a, len, cap, h1, h2, h3, ?_⟩
  rcases h4 with h4 | ⟨b, off, h4, h5⟩
  · exact .inl h4
  · exact .inr ⟨b, off, h4, fun i hi => let ⟨n, hn, hc⟩ := h5 i hi; ⟨n, hn, e.cell hc⟩⟩

/-- the end of a function that returns two terms -/
theorem ret44 {P : Program} {fn : Func} {R : Ending → World → Prop} {a : Act} {X : World} {p1 p2 T b1 b2 : Nat} {v0 v1 v2 v3 y0 y1 y2 y3 : Value}
    (hres : fn.results = #[.cell p1 T, .cell p2 T]) (hT : ∀ w, (isAgg T).run P w = .ok true w) (hs : ∀ w, (sizeOf T).run P w = .ok 4 w)
    (hp1 : a.tmps.getD p1 undef = .pointer (some ⟨b1, 0, none⟩)) (hp2 : a.tmps.getD p2 undef = .pointer (some ⟨b2, 0, none⟩)) (hd : a.defers = [])
    (h0 : X.cell? ⟨b1, 0, none⟩ = some v0) (h1 : X.cell? ⟨b1, 1, none⟩ = some v1) (h2 : X.cell? ⟨b1, 2, none⟩ = some v2) (h3 : X.cell? ⟨b1, 3, none⟩ = some v3)
    (g0 : X.cell? ⟨b2, 0, none⟩ = some y0) (g1 : X.cell? ⟨b2, 1, none⟩ = some y1) (g2 : X.cell? ⟨b2, 2, none⟩ = some y2) (g3 : X.cell? ⟨b2, 3, none⟩ = some y3)
    (hR : R (.returned (.tuple #[.agg #[v0, v1, v2, v3], .agg #[y0, y1, y2, y3]])) X) : bodyPost P fn R .ret a X := by
  refine bodyPost_ret (v := .tuple #[.agg #[v0, v1, v2, v3], .agg #[y0, y1, y2, y3]]) ?_ hd hR
  have hl := load4 (P := P) (w := X) (T := T) (b := b1) hT hs h0 h1 h2 h3
  have hl2 := load4 (P := P) (w := X) (T := T) (b := b2) hT hs g0 g1 g2 g3
  simp only [results, hres]
  have hp1' : a.tmps[p1]?.getD undef = .pointer (some ⟨b1, 0, none⟩) := by simpa using hp1
  have hp2' : a.tmps[p2]?.getD undef = .pointer (some ⟨b2, 0, none⟩) := by simpa using hp2
  simp [hp1', hp2', asAddr, hl, hl2]
theorem ret44_set {P : Program} {fn : Func} {R : Ending → World → Prop} {a : Act} {Y : World} {p1 p2 T b1 b2 : Nat} {v0 v1 v2 v3 y0 y1 y2 y3 u0 u1 u2 u3 x0 x1 x2 x3 : Value}
    (hres : fn.results = #[.cell p1 T, .cell p2 T]) (hT : ∀ w, (isAgg T).run P w = .ok true w) (hs : ∀ w, (sizeOf T).run P w = .ok 4 w)
    (hp1 : a.tmps.getD p1 undef = .pointer (some ⟨b1, 0, none⟩)) (hp2 : a.tmps.getD p2 undef = .pointer (some ⟨b2, 0, none⟩)) (hd : a.defers = []) (hb : b1 ≠ b2)
    (h1 : BoxT Y b1 u0 u1 u2 u3) (h2 : BoxT Y b2 x0 x1 x2 x3)
    (hR : ∀ X, Fr (fun k => k = b1 ∨ k = b2) Y X → R (.returned (.tuple #[.agg #[v0, v1, v2, v3], .agg #[y0, y1, y2, y3]])) X) :
    bodyPost P fn R .ret a ((((((((Y.setCell ⟨b1, 0, none⟩ v0).setCell ⟨b1, 1, none⟩ v1).setCell ⟨b1, 2, none⟩ v2).setCell ⟨b1, 3, none⟩ v3).setCell ⟨b2, 0, none⟩ y0).setCell ⟨b2, 1, none⟩ y1).setCell ⟨b2, 2, none⟩ y2).setCell ⟨b2, 3, none⟩ y3) := by
  obtain ⟨c0, c1, c2, c3⟩ := set4_cells (Y := Y) v0 v1 v2 v3 h1.1 h1.2.1 h1.2.2.1 h1.2.2.2.1
  have f1 : Fr (fun k => k = b1 ∨ k = b2) Y (set4 Y b1 v0 v1 v2 v3) := Fr.of_grown (set4_grown _ _ _ _ _ _) (fun k e => by cases e; exact .inl rfl)
  have f1' : Fr (fun k => k = b1) Y (set4 Y b1 v0 v1 v2 v3) := Fr.of_grown (set4_grown _ _ _ _ _ _) (fun k e => by cases e; rfl)
  have h2' := h2.fr f1' (fun e => hb e.symm)
  obtain ⟨d0, d1, d2, d3⟩ := set4_cells (Y := set4 Y b1 v0 v1 v2 v3) y0 y1 y2 y3 h2'.1 h2'.2.1 h2'.2.2.1 h2'.2.2.2.1
  have f2 : Fr (fun k => k = b1 ∨ k = b2) (set4 Y b1 v0 v1 v2 v3) (set4 (set4 Y b1 v0 v1 v2 v3) b2 y0 y1 y2 y3) := Fr.of_grown (set4_grown _ _ _ _ _ _) (fun k e => by cases e; exact .inr rfl)
  have f2' : Fr (fun k => k = b2) (set4 Y b1 v0 v1 v2 v3) (set4 (set4 Y b1 v0 v1 v2 v3) b2 y0 y1 y2 y3) := Fr.of_grown (set4_grown _ _ _ _ _ _) (fun k e => by cases e; rfl)
  exact ret44 hres hT hs hp1 hp2 hd (f2'.cell hb c0) (f2'.cell hb c1) (f2'.cell hb c2) (f2'.cell hb c3) d0 d1 d2 d3 (hR _ (f1.trans f2))

def TmOut (w : World) (e : Ending) (w' : World) : Prop := ∃ t v, e = .returned v ∧ Tm.at (fun b => w.heap.size ≤ b) w' t v ∧ Ext w w'
def TmOut2 (w : World) (e : Ending) (w' : World) : Prop := ∃ t u v1 v2, e = .returned (.tuple #[v1, v2]) ∧ Tm.at (fun b => w.heap.size ≤ b) w' t v1 ∧ Tm.at (fun b => w.heap.size ≤ b) w' u v2 ∧ Ext w w'
/-- the end of a function that returns a term which it has from a call, the box of its result being block B -/
theorem out_end {B : Nat} {w wk X : World} {t : Tm} {v : Value} (hB : w.heap.size ≤ B) (hX : wk.grownBy X (some B)) (he : Ext w wk) (hv : Tm.at (fun b => w.heap.size ≤ b ∧ b ≠ B) wk t v) : TmOut w (.returned v) X := by
  have f : Fr (fun k => k = B) wk X := Fr.of_grown hX (fun k e => by cases e; rfl)
  exact ⟨t, v, rfl, Tm.at_mono (fun b h => h.1) (f.agree (S := fun b => w.heap.size ≤ b ∧ b ≠ B) (fun k hk h => hk.2 h)) hv, ((Fr.of_ext he).trans (f.mono (fun k _ h => show w.heap.size ≤ k by omega))).toExt (fun k hk hm => by omega)⟩


/-- tail: made by gen_draws.py -/
theorem tail_begins : True := trivial






end Go.Proofs.YtifklfnpaigdkaaGreatDoor
