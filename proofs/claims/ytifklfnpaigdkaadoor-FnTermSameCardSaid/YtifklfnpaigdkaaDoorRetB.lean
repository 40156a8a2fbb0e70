/-
  Functions that return a term and something else; numbers.
-/
import Derived.Test.YtifklfnpaigdkaaDoorToOwn
import Derived.Test.YtifklfnpaigdkaaDoorLk
namespace Go.Proofs.YtifklfnpaigdkaaDoor
open Go.RowKit
set_option linter.unusedVariables false

/-- the end of a function that returns a term and something else -/
theorem ret4b_set {P : Program} {fn : Func} {R : Ending → World → Prop} {a : Act} {Y : World} {p q T b : Nat} {u0 u1 u2 u3 v0 v1 v2 v3 y : Value}
    (hres : fn.results = #[.cell p T, .tmp q]) (hT : ∀ w, (isAgg T).run P w = .ok true w) (hs : ∀ w, (sizeOf T).run P w = .ok 4 w) (hp : a.tmps.getD p undef = .pointer (some ⟨b, 0, none⟩)) (hq : a.tmps.getD q undef = y) (hd : a.defers = [])
    (h : BoxT Y b u0 u1 u2 u3)
    (hR : ∀ X, Fr (fun k => k = b) Y X → R (.returned (.tuple #[.agg #[v0, v1, v2, v3], y])) X) :
    bodyPost P fn R .ret a ((((Y.setCell ⟨b, 0, none⟩ v0).setCell ⟨b, 1, none⟩ v1).setCell ⟨b, 2, none⟩ v2).setCell ⟨b, 3, none⟩ v3) := by
  obtain ⟨c0, c1, c2, c3⟩ := set4_cells (Y := Y) v0 v1 v2 v3 h.1 h.2.1 h.2.2.1 h.2.2.2.1
  refine bodyPost_ret (v := .tuple #[.agg #[v0, v1, v2, v3], y]) ?_ hd (hR _ (Fr.of_grown (set4_grown Y b v0 v1 v2 v3) (fun k e => by cases e; rfl)))
  have hl := load4 (P := P) (T := T) (b := b) hT hs c0 c1 c2 c3
  simp only [results, hres]
  have hp' : a.tmps[p]?.getD undef = .pointer (some ⟨b, 0, none⟩) := by simpa using hp
  have hq' : a.tmps[q]?.getD undef = y := by simpa using hq
  unfold set4 at hl
  simp [hp', hq', asAddr, hl]
/-- .. without a store -/
theorem ret4b {P : Program} {fn : Func} {R : Ending → World → Prop} {a : Act} {Y : World} {p q T b : Nat} {v0 v1 v2 v3 y : Value}
    (hres : fn.results = #[.cell p T, .tmp q]) (hT : ∀ w, (isAgg T).run P w = .ok true w) (hs : ∀ w, (sizeOf T).run P w = .ok 4 w) (hp : a.tmps.getD p undef = .pointer (some ⟨b, 0, none⟩)) (hq : a.tmps.getD q undef = y) (hd : a.defers = [])
    (h : BoxT Y b v0 v1 v2 v3) (hR : R (.returned (.tuple #[.agg #[v0, v1, v2, v3], y])) Y) : bodyPost P fn R .ret a Y := by
  refine bodyPost_ret (v := .tuple #[.agg #[v0, v1, v2, v3], y]) ?_ hd hR
  have hl := load4 (P := P) (T := T) (b := b) hT hs h.1 h.2.1 h.2.2.1 h.2.2.2.1
  simp only [results, hres]
  have hp' : a.tmps[p]?.getD undef = .pointer (some ⟨b, 0, none⟩) := by simpa using hp
  have hq' : a.tmps[q]?.getD undef = y := by simpa using hq
  simp [hp', hq', asAddr, hl]

/-- a term that shares nothing, and a sign -/
def TmBO (r : Tm) (b : Bool) (w : World) (e : Ending) (w' : World) : Prop := ∃ a c, e = .returned (.tuple #[.agg #[.int .i64 r.kind, .int .i64 r.n, .string r.name, .slice a r.kids.length c], .bool b]) ∧ Tm.own (fun b => w.heap.size ≤ b) w' r (.slice a r.kids.length c) ∧ Ext w w'
theorem own_nil (F : Nat → Prop) (w : World) (k n : Int) (s : ByteArray) (hs : s.size ≤ 1048576) : Tm.own F w (.mk k n s []) (.slice none 0 0) := own_iff.2 ⟨hs, by simp [Tm.kids], OwnS.nil _ _⟩

def val4 (t : Tm) (a : Option Addr) (c : Nat) : Value := .agg #[.int .i64 t.kind, .int .i64 t.n, .string t.name, .slice a t.kids.length c]

theorem BoxT.put4 {w : World} {b : Nat} {u0 u1 u2 u3 : Value} (h : BoxT w b u0 u1 u2 u3) (v0 v1 v2 v3 : Value) : BoxT ((((w.setCell ⟨b, 0, none⟩ v0).setCell ⟨b, 1, none⟩ v1).setCell ⟨b, 2, none⟩ v2).setCell ⟨b, 3, none⟩ v3) b v0 v1 v2 v3 := by
  obtain ⟨a0, a1, a2, a3, f0, f1, f2, f3⟩ := h
  obtain ⟨c0, c1, c2, c3⟩ := set4_cells (Y := w) v0 v1 v2 v3 a0 a1 a2 a3
  refine ⟨c0, c1, c2, c3, ?_, ?_, ?_, ?_⟩
  · rw [World.frozen?_setCell, World.frozen?_setCell, World.frozen?_setCell, World.frozen?_setCell]; exact f0
  · rw [World.frozen?_setCell, World.frozen?_setCell, World.frozen?_setCell, World.frozen?_setCell]; exact f1
  · rw [World.frozen?_setCell, World.frozen?_setCell, World.frozen?_setCell, World.frozen?_setCell]; exact f2
  · rw [World.frozen?_setCell, World.frozen?_setCell, World.frozen?_setCell, World.frozen?_setCell]; exact f3
theorem put4_frw {M : Nat → Prop} (w : World) {b : Nat} (u0 u1 u2 u3 : Value) (hM : M b) : Fr M w ((((w.setCell ⟨b, 0, none⟩ u0).setCell ⟨b, 1, none⟩ u1).setCell ⟨b, 2, none⟩ u2).setCell ⟨b, 3, none⟩ u3) := (((Fr.setCell _ hM).trans (Fr.setCell _ hM)).trans (Fr.setCell _ hM)).trans (Fr.setCell _ hM)
theorem BoxT.put4w {w : World} {b : Nat} {u0 u1 u2 u3 : Value} (h : BoxT w b u0 u1 u2 u3) (v0 v1 v2 v3 : Value) : BoxT ((((w.setCell ⟨b, 0, none⟩ v0).setCell ⟨b, 1, none⟩ v1).setCell ⟨b, 2, none⟩ v2).setCell ⟨b, 3, none⟩ v3) b v0 v1 v2 v3 := h.put4 v0 v1 v2 v3


end Go.Proofs.YtifklfnpaigdkaaDoor
