/-
  Generalization: the reference's l3General.
-/
import Derived.Test.YteplfajhmpmklaaMg38
import Derived.Test.YteplfajhmpmklaaMg39
namespace Go.Proofs.Yteplfajhmpmklaa
open Go.RowKit
set_option linter.unusedVariables false

theorem specl1VarX (n : Int) (w : World) : Calls Try.prog 88 #[.int .i64 n] w fun e w' => e = .returned (.agg #[.int .i64 1, .int .i64 n, .string ⟨#[]⟩, .slice none 0 0]) ∧ Ext w w' := by
  go_enter Try.func88, Try.ntmps88
  go_wp2_with fail
  refine ret4 (p := 2) (T := 29) (v0 := .int .i64 1) (v1 := .int .i64 n) (v2 := .string ⟨#[]⟩) (v3 := .slice none 0 0) (by kernel_rfl) (fun _ => by kernel_rfl) (fun _ => by kernel_rfl) rfl rfl (by go_simp) (by go_simp) (by go_simp) (by go_simp) ?_
  exact ⟨rfl, Ext.alloc _ _⟩
/-- a box of two cells -/
def Box2 (w : World) (b : Nat) (v0 v1 : Value) : Prop := w.cell? ⟨b, 0, none⟩ = some v0 ∧ w.cell? ⟨b, 1, none⟩ = some v1 ∧ w.frozen? ⟨b, 0, none⟩ = false ∧ w.frozen? ⟨b, 1, none⟩ = false
theorem Box2.lt {w : World} {b : Nat} {v0 v1 : Value} (h : Box2 w b v0 v1) : b < w.heap.size := block_lt_of_cell h.1
theorem Box2.fr {M : Nat → Prop} {w w' : World} {b : Nat} {v0 v1 : Value} (h : Box2 w b v0 v1) (f : Fr M w w') (hM : ¬ M b) : Box2 w' b v0 v1 := ⟨f.cell hM h.1, f.cell hM h.2.1, f.frozen h.lt hM h.2.2.1, f.frozen h.lt hM h.2.2.2⟩
theorem Box2.ext {w w' : World} {b : Nat} {v0 v1 : Value} (h : Box2 w b v0 v1) (f : Ext w w') : Box2 w' b v0 v1 := h.fr (M := fun _ => False) (Fr.of_ext f) (fun h => h)
theorem Box2.put {w : World} {b : Nat} {v0 v1 : Value} (h : Box2 w b v0 v1) (u0 u1 : Value) : Box2 ((w.setCell ⟨b, 0, none⟩ u0).setCell ⟨b, 1, none⟩ u1) b u0 u1 := by
  obtain ⟨h0, h1, f0, f1⟩ := h
  exact ⟨cell_off (by decide) (cell_same h0), cell_same (cell_off (by decide) h1), by rw [World.frozen?_setCell, World.frozen?_setCell]; exact f0, by rw [World.frozen?_setCell, World.frozen?_setCell]; exact f1⟩
theorem put2_fr {M : Nat → Prop} (w : World) {b : Nat} (u0 u1 : Value) (hM : M b) : Fr M w ((w.setCell ⟨b, 0, none⟩ u0).setCell ⟨b, 1, none⟩ u1) := (Fr.setCell _ hM).trans (Fr.setCell _ hM)
theorem put4_fr {M : Nat → Prop} (w : World) {b : Nat} (u0 u1 u2 u3 : Value) (hM : M b) : Fr M w ((((w.setCell ⟨b, 0, none⟩ u0).setCell ⟨b, 1, none⟩ u1).setCell ⟨b, 2, none⟩ u2).setCell ⟨b, 3, none⟩ u3) := (((Fr.setCell _ hM).trans (Fr.setCell _ hM)).trans (Fr.setCell _ hM)).trans (Fr.setCell _ hM)
/-- the end of a function that returns a term and a pair of slices, both in boxes -/
theorem ret42 {P : Program} {fn : Func} {R : Ending → World → Prop} {a : Act} {Y : World} {p q T T2 b c : Nat} {v0 v1 v2 v3 y0 y1 : Value}
    (hres : fn.results = #[.cell p T, .cell q T2]) (hT : ∀ w, (isAgg T).run P w = .ok true w) (hs : ∀ w, (sizeOf T).run P w = .ok 4 w) (hT2 : ∀ w, (isAgg T2).run P w = .ok true w) (hs2 : ∀ w, (sizeOf T2).run P w = .ok 2 w)
    (hp : a.tmps.getD p undef = .pointer (some ⟨b, 0, none⟩)) (hq : a.tmps.getD q undef = .pointer (some ⟨c, 0, none⟩)) (hd : a.defers = [])
    (h : BoxT Y b v0 v1 v2 v3) (h2 : Box2 Y c y0 y1) (hR : R (.returned (.tuple #[.agg #[v0, v1, v2, v3], .agg #[y0, y1]])) Y) : bodyPost P fn R .ret a Y := by
  refine bodyPost_ret (v := .tuple #[.agg #[v0, v1, v2, v3], .agg #[y0, y1]]) ?_ hd hR
  have hl := load4 (P := P) (T := T) (b := b) hT hs h.1 h.2.1 h.2.2.1 h.2.2.2.1
  have hl2 : (loadVar T2 ⟨c, 0, none⟩).run P Y = .ok (.agg #[y0, y1]) Y := by
    unfold loadVar
    simp only [Sem.run_bind, hT2, Result.andThen_ok, if_true, hs2]
    simp [loadCells, loadCellsFrom, go_sem, h2.1, h2.2.1]
  simp only [results, hres]
  have hp' : a.tmps[p]?.getD undef = .pointer (some ⟨b, 0, none⟩) := by simpa using hp
  have hq' : a.tmps[q]?.getD undef = .pointer (some ⟨c, 0, none⟩) := by simpa using hq
  simp [hp', hq', asAddr, hl, hl2]

/-- the pairs of the reference -/
def PrL (Y : Zone) (w : World) (ps : List (Tm × Tm)) (l r : Value) : Prop := (ps = [] → l = .slice none 0 0 ∧ r = .slice none 0 0) ∧ Tm.sl Y w (ps.map Prod.fst) l ∧ Tm.sl Y w (ps.map Prod.snd) r
theorem PrL.fr {Y M : Zone} {w w' : World} {ps : List (Tm × Tm)} {l r : Value} (h : PrL Y w ps l r) (f : Fr M w w') (hM : ∀ g, Y g → ¬ M g) : PrL Y w' ps l r := ⟨h.1, f.sl h.2.1 hM, f.sl h.2.2 hM⟩
theorem PrL.ext {Y : Zone} {w w' : World} {ps : List (Tm × Tm)} {l r : Value} (h : PrL Y w ps l r) (f : Ext w w') : PrL Y w' ps l r := h.fr (M := fun _ => False) (Fr.of_ext f) (fun _ _ h => h)
theorem PrL.form {Y : Zone} {w : World} {ps : List (Tm × Tm)} {l r : Value} (h : PrL Y w ps l r) : (∃ a c, l = .slice a ps.length c) ∧ ∃ a c, r = .slice a ps.length c := by
  obtain ⟨_, ⟨a, c, h1, _⟩, ⟨b, d, h2, _⟩⟩ := h
  exact ⟨⟨a, c, by simpa using h1⟩, ⟨b, d, by simpa using h2⟩⟩
def GenSP (Y : Zone) (x : Tm) (qs : List (Tm × Tm)) (w : World) (e : Ending) (w' : World) : Prop :=
  ∃ a c l r Y', e = .returned (.tuple #[val4 x a c, .agg #[l, r]]) ∧ Tm.own (fun b => w.heap.size ≤ b ∧ ¬ Y' b) w' x (.slice a x.kids.length c) ∧ PrL Y' w' qs l r ∧ (∀ b, Y' b → b < w'.heap.size ∧ (Y b ∨ w.heap.size ≤ b)) ∧ Ext w w'
def GenSC (t u : Tm) : Prop := ∀ (v v' l r : Value) (ps : List (Tm × Tm)) (Y : Zone) (w : World), Tm.at Y w t v → Tm.at Y w u v' → (∀ b, Y b → b < w.heap.size) → ps.length + Tm.sz t ≤ 1048576 → PrL Y w ps l r →
    Calls Try.prog 56 #[v, v', .agg #[l, r]] w (GenSP Y (genF t u ps).1 (genF t u ps).2 w)
/-- a row held alone; a block of one new term -/
def RowA (Y : Zone) (w : World) (ts : List Tm) (v : Value) (E : Zone) : Prop := ∃ a c xs, v = .slice a ts.length c ∧ w.ownsRow 0 29 4 v ts.length xs ∧ Tm.flat Y w ts xs ∧ ∀ g, v.ownBlock = some g → E g
def Blk (w : World) (t : Tm) (a : Option Addr) (c : Nat) (v : Value) (E : Zone) : Prop := ∃ nb, v = .slice (some ⟨nb, 0, none⟩) 1 1 ∧ E nb ∧ ∀ j x, (tcells t a c)[j]? = some x → w.cell? ⟨nb, j, none⟩ = some x
theorem RowA.fr {Y M E : Zone} {w w' : World} {ts : List Tm} {v : Value} (h : RowA Y w ts v E) (f : Fr M w w') (hE : ∀ g, E g → ¬ M g) (hY : ∀ g, Y g → ¬ M g) : RowA Y w' ts v E := by
  obtain ⟨a, c, xs, h1, h2, h3, h4⟩ := h
  exact ⟨a, c, xs, h1, own_fr h2 f (fun g hg => hE g (h4 g hg)), flat_mono (fun _ h => h) (f.agree hY) h3, h4⟩
theorem Blk.fr {M E : Zone} {w w' : World} {t : Tm} {a : Option Addr} {c : Nat} {v : Value} (h : Blk w t a c v E) (f : Fr M w w') (hE : ∀ g, E g → ¬ M g) : Blk w' t a c v E := by
  obtain ⟨nb, h1, h2, h3⟩ := h
  exact ⟨nb, h1, h2, fun j x hx => f.cell (hE nb h2) (h3 j x hx)⟩
def RowE (w : World) (v : Value) (E : Zone) : Prop := ∃ nb, v = .slice (some ⟨nb, 0, none⟩) 0 0 ∧ w.ownsRow 0 29 4 v 0 [] ∧ E nb
theorem RowE.fr {M E : Zone} {w w' : World} {v : Value} (h : RowE w v E) (f : Fr M w w') (hE : ∀ g, E g → ¬ M g) : RowE w' v E := by
  obtain ⟨nb, rfl, h2, h3⟩ := h
  exact ⟨nb, rfl, own_fr h2 f (fun g hg => by simp [Value.ownBlock] at hg; rw [← hg]; exact hE nb h3), h3⟩
theorem RowE.new (w : World) : RowE (w.alloc (.cells #[] 29)) (.slice (some ⟨w.heap.size, 0, none⟩) 0 0) (fun g => g = w.heap.size) := ⟨_, rfl, own_low (own_empty rfl) (Nat.zero_le _), rfl⟩
theorem BoxT.put4x {w : World} {b : Nat} {u0 u1 u2 u3 : Value} (h : BoxT w b u0 u1 u2 u3) (v0 v1 v2 v3 : Value) : BoxT ((((w.setCell ⟨b, 0, none⟩ v0).setCell ⟨b, 1, none⟩ v1).setCell ⟨b, 2, none⟩ v2).setCell ⟨b, 3, none⟩ v3) b v0 v1 v2 v3 := by
  obtain ⟨a0, a1, a2, a3, f0, f1, f2, f3⟩ := h
  obtain ⟨c0, c1, c2, c3⟩ := set4_cells (Y := w) v0 v1 v2 v3 a0 a1 a2 a3
  refine ⟨c0, c1, c2, c3, ?_, ?_, ?_, ?_⟩
  · rw [World.frozen?_setCell, World.frozen?_setCell, World.frozen?_setCell, World.frozen?_setCell]; exact f0
  · rw [World.frozen?_setCell, World.frozen?_setCell, World.frozen?_setCell, World.frozen?_setCell]; exact f1
  · rw [World.frozen?_setCell, World.frozen?_setCell, World.frozen?_setCell, World.frozen?_setCell]; exact f2
  · rw [World.frozen?_setCell, World.frozen?_setCell, World.frozen?_setCell, World.frozen?_setCell]; exact f3
/-- a slice that is copied: no row, or cells -/
def Src (Y : Zone) (W : World) (ts : List Tm) (l : Value) : Prop := (ts = [] ∧ l = .slice none 0 0) ∨ ∃ b off c xs, l = .slice (some ⟨b, off, none⟩) ts.length c ∧ Y b ∧ Tm.flat Y W ts xs ∧ ts.length ≤ 1048576 ∧ ∀ j u, xs[j]? = some u → W.cell? ⟨b, off + j, none⟩ = some u
theorem src_of {Y : Zone} {W : World} {ts : List Tm} {l : Value} (h : Tm.sl Y W ts l) (hn : ts = [] → l = .slice none 0 0) : Src Y W ts l := by
  obtain ⟨a, c, rfl, h1, h2, h3, h4⟩ := h
  by_cases e : ts = []
  · exact .inl ⟨e, hn e⟩
  · obtain ⟨b, off, rfl, hb, hr⟩ := h4.resolve_left e
    obtain ⟨xs, hx, hc⟩ := row_flat hr
    exact .inr ⟨b, off, c, xs, rfl, hb, hx, h3, hc⟩
theorem add0 (b off j : Nat) : (⟨b, off, none⟩ : Addr).add j = ⟨b, off + j, none⟩ := by unfold Addr.add; split <;> simp_all
/-- the copy of a slice behind an empty row -/
theorem rowA_copy {Y M : Zone} {w5 w6 : World} {ts : List Tm} {xs : List Value} {a : Option Addr} {c : Nat} {nv : Value} (hf : Tm.flat Y w5 ts xs) (hag : Agree Y w5 w6)
    (ho : w6.ownsRow 0 29 4 nv (0 + ts.length) ([] ++ xs)) (E : Zone) (hE : ∀ g, nv.ownBlock = some g → E g) : RowA Y w6 ts nv E := by
  rw [Nat.zero_add, List.nil_append] at ho
  obtain ⟨av, cv, rfl⟩ := own_form ho
  exact ⟨av, cv, xs, rfl, ho, flat_mono (fun _ h => h) hag hf, hE⟩

def R16 (Y : Zone) (P R6 R7 n : Nat) (l r : Value) (ls rs : List Tm) (t u : Tm) (a b : Option Addr) (c d : Nat) (j : Nat) (us : List Value) (E R : Zone) (w : World) : Prop :=
  match j with
  | 0 => us.headD undef = .int .i64 n
  | 1 => us.headD undef = .agg #[.int .i64 1, .int .i64 n, .string ⟨#[]⟩, .slice none 0 0]
  | 2 => RowE w (us.headD undef) E
  | 3 => us.headD undef = .pointer (some ⟨P, 0, none⟩)
  | 4 => us.headD undef = l
  | 5 => RowA Y w ls (us.headD undef) E
  | 6 => us.headD undef = val4 t a c
  | 7 => Blk w t a c (us.headD undef) E
  | 8 => RowA Y w (ls ++ [t]) (us.headD undef) E
  | 9 => RowE w (us.headD undef) E
  | 10 => us.headD undef = .pointer (some ⟨P, 1, none⟩)
  | 11 => us.headD undef = r
  | 12 => RowA Y w rs (us.headD undef) E
  | 13 => us.headD undef = val4 u b d
  | 14 => Blk w u b d (us.headD undef) E
  | 15 => RowA Y w (rs ++ [u]) (us.headD undef) E
  | 16 => ∃ v8 v15, us = [.agg #[v8, v15], v8, v15] ∧ (∃ a c, v8 = .slice a (ls.length + 1) c) ∧ ∃ a c, v15 = .slice a (rs.length + 1) c
  | 17 => BoxT w R6 (.int .i64 1) (.int .i64 n) (.string ⟨#[]⟩) (.slice none 0 0)
  | 18 => ∃ v8 v15, us = [v8, v15] ∧ Box2 w R7 v8 v15
  | _ => True
def refs16 : Nat → List Nat
  | 16 => [16, 8, 15]
  | 17 => []
  | 18 => [8, 15]
  | j => [j]
def need16 : Nat → List Nat
  | 1 => [0]
  | 4 => [3]
  | 5 => [2, 4]
  | 7 => [6]
  | 8 => [5, 7]
  | 11 => [10]
  | 12 => [9, 11]
  | 14 => [13]
  | 15 => [12, 14]
  | 16 => [8, 15]
  | 17 => [1]
  | 18 => [16]
  | _ => []
def need14 : Nat → List Nat
  | 1 => [0]
  | 3 => [1]
  | 4 => [2]
  | _ => []
def cons16 : Nat → List Nat
  | 5 => [2]
  | 8 => [5, 7]
  | 12 => [9]
  | 15 => [12, 14]
  | _ => []
theorem c16 {j : Nat} (hj : j = 8 ∨ j = 15 ∨ j = 17 ∨ j = 18) (k : Nat) : j ∉ cons16 k := by
  unfold cons16
  rcases hj with rfl | rfl | rfl | rfl <;> split <;> simp
def O2 (i6 i7 R6 R7 : Nat) (i g : Nat) : Prop := (i = i6 ∧ g = R6) ∨ (i = i7 ∧ g = R7)
def Pre2 (i6 i7 R6 R7 : Nat) (i : Nat) (w : World) : Prop := (i = i6 → BoxT w R6 (.int .i64 0) (.int .i64 0) (.string ⟨#[]⟩) (.slice none 0 0)) ∧ (i = i7 → Box2 w R7 (.slice none 0 0) (.slice none 0 0))
theorem Pre2.fr {i6 i7 R6 R7 : Nat} (M : Zone) (i : Nat) (w w' : World) (h : Pre2 i6 i7 R6 R7 i w) (f : Fr M w w') (hO : ∀ g, O2 i6 i7 R6 R7 i g → ¬ M g) : Pre2 i6 i7 R6 R7 i w' :=
  ⟨fun e => (h.1 e).fr f (hO _ (.inl ⟨e, rfl⟩)), fun e => (h.2 e).fr f (hO _ (.inr ⟨e, rfl⟩))⟩
theorem O2.lt {i6 i7 R6 R7 n : Nat} (h6 : R6 < n) (h7 : R7 < n) (i g : Nat) (h : O2 i6 i7 R6 R7 i g) : g < n := by rcases h with ⟨_, rfl⟩ | ⟨_, rfl⟩ <;> assumption
theorem O2.apart {i6 i7 R6 R7 : Nat} (hi : i6 ≠ i7) (hR : R6 ≠ R7) (i j g : Nat) (hne : i ≠ j) (h : O2 i6 i7 R6 R7 i g) : ¬ O2 i6 i7 R6 R7 j g := by
  rintro (⟨rfl, rfl⟩ | ⟨rfl, rfl⟩)
  · rcases h with ⟨h, _⟩ | ⟨_, h⟩
    · exact hne h
    · exact hR h
  · rcases h with ⟨_, h⟩ | ⟨h, _⟩
    · exact hR h.symm
    · exact hne h
theorem R16.fr {Y : Zone} {P R6 R7 n : Nat} {l r : Value} {ls rs : List Tm} {t u : Tm} {a b : Option Addr} {c d : Nat} (M : Zone) : ∀ (j : Nat) (us : List Value) (E R : Zone) (w w' : World), R16 Y P R6 R7 n l r ls rs t u a b c d j us E R w → Fr M w w' → (∀ g, E g → ¬ M g) → (∀ g, O2 17 18 R6 R7 j g → ¬ M g) → (∀ g, Y g → ¬ M g) → R16 Y P R6 R7 n l r ls rs t u a b c d j us E R w'
  | 0, _, _, _, _, _, h, _, _, _, _ => h
  | 1, _, _, _, _, _, h, _, _, _, _ => h
  | 2, _, _, _, _, _, h, f, hE, _, hY => RowE.fr h f hE
  | 3, _, _, _, _, _, h, _, _, _, _ => h
  | 4, _, _, _, _, _, h, _, _, _, _ => h
  | 5, _, _, _, _, _, h, f, hE, _, hY => RowA.fr h f hE hY
  | 6, _, _, _, _, _, h, _, _, _, _ => h
  | 7, _, _, _, _, _, h, f, hE, _, hY => Blk.fr h f hE
  | 8, _, _, _, _, _, h, f, hE, _, hY => RowA.fr h f hE hY
  | 9, _, _, _, _, _, h, f, hE, _, hY => RowE.fr h f hE
  | 10, _, _, _, _, _, h, _, _, _, _ => h
  | 11, _, _, _, _, _, h, _, _, _, _ => h
  | 12, _, _, _, _, _, h, f, hE, _, hY => RowA.fr h f hE hY
  | 13, _, _, _, _, _, h, _, _, _, _ => h
  | 14, _, _, _, _, _, h, f, hE, _, hY => Blk.fr h f hE
  | 15, _, _, _, _, _, h, f, hE, _, hY => RowA.fr h f hE hY
  | 16, _, _, _, _, _, h, _, _, _, _ => h
  | 17, _, _, _, _, _, h, f, _, hO, _ => BoxT.fr h f (hO _ (.inl ⟨rfl, rfl⟩))
  | 18, _, _, _, _, _, h, f, _, hO, _ => by
    obtain ⟨v8, v15, h1, h2⟩ := h
    exact ⟨v8, v15, h1, h2.fr f (hO _ (.inr ⟨rfl, rfl⟩))⟩
  | _ + 19, _, _, _, _, _, _, _, _, _, _ => trivial

def R14 (R6 R7 n : Nat) (l r : Value) (j : Nat) (us : List Value) (E R : Zone) (w : World) : Prop :=
  match j with
  | 0 => us.headD undef = .int .i64 n
  | 1 => us.headD undef = .agg #[.int .i64 1, .int .i64 n, .string ⟨#[]⟩, .slice none 0 0]
  | 2 => us.headD undef = .agg #[l, r]
  | 3 => BoxT w R6 (.int .i64 1) (.int .i64 n) (.string ⟨#[]⟩) (.slice none 0 0)
  | 4 => Box2 w R7 l r
  | _ => True
def refs1 (j : Nat) : List Nat := [j]
def cons0 (j : Nat) : List Nat := []
theorem R14.fr {R6 R7 n : Nat} {l r : Value} (M : Zone) : ∀ (j : Nat) (us : List Value) (E R : Zone) (w w' : World), R14 R6 R7 n l r j us E R w → Fr M w w' → (∀ g, O2 3 4 R6 R7 j g → ¬ M g) → R14 R6 R7 n l r j us E R w'
  | 0, _, _, _, _, _, h, _, _ => h
  | 1, _, _, _, _, _, h, _, _ => h
  | 2, _, _, _, _, _, h, _, _ => h
  | 3, _, _, _, _, _, h, f, hO => BoxT.fr h f (hO _ (.inl ⟨rfl, rfl⟩))
  | 4, _, _, _, _, _, h, f, hO => Box2.fr h f (hO _ (.inr ⟨rfl, rfl⟩))
  | _ + 5, _, _, _, _, _, _, _, _ => trivial
theorem calls_eqb {P : Program} {f : FuncId} {args : Array Value} {w : World} {a b : Bool} {M : World → Prop} (h : Calls P f args w fun e w' => e = .returned (.bool a) ∧ M w') (e : a = b) : Calls P f args w fun e w' => e = .returned (.bool b) ∧ M w' := by
  rw [← e]; exact h

theorem pidx_of {ps : List (Tm × Tm)} {t u : Tm} {j : Nat} (hj : j < ps.length) (h1 : ∀ i, i < j → atP t u ps i = false) (h2 : atP t u ps j = true) : pidx ps t u = j := pidx_at (atP_eq t u ps) hj h1 h2
theorem pidx_none {ps : List (Tm × Tm)} {t u : Tm} (h1 : ∀ i, i < ps.length → atP t u ps i = false) : pidx ps t u = ps.length := pidx_no (atP_eq t u ps) h1
def Bx5 (w wr : World) (t u : Tm) (a b : Option Addr) (c d : Nat) (l r : Value) : Prop :=
  BoxT wr w.heap.size (.int .i64 t.kind) (.int .i64 t.n) (.string t.name) (.slice a t.kids.length c) ∧ BoxT wr (w.heap.size + 1) (.int .i64 u.kind) (.int .i64 u.n) (.string u.name) (.slice b u.kids.length d) ∧ Box2 wr (w.heap.size + 1 + 1) l r ∧
    BoxT wr (w.heap.size + 1 + 1 + 1) (.int .i64 0) (.int .i64 0) (.string ⟨#[]⟩) (.slice none 0 0) ∧ Box2 wr (w.heap.size + 1 + 1 + 1 + 1) (.slice none 0 0) (.slice none 0 0)
theorem Bx5.ext {w wr w2 : World} {t u : Tm} {a b : Option Addr} {c d : Nat} {l r : Value} (h : Bx5 w wr t u a b c d l r) (e : Ext wr w2) : Bx5 w w2 t u a b c d l r := ⟨h.1.ext e, h.2.1.ext e, h.2.2.1.ext e, h.2.2.2.1.ext e, h.2.2.2.2.ext e⟩
set_option maxRecDepth 100000 in
set_option maxHeartbeats 16000000 in
theorem specgen_other (t u : Tm) (hno : ¬ headF t u) (hpre : (t.kind == u.kind) = false ∨ ((t.kind == u.kind) = true ∧ (t.kind != 1) = false) ∨ ((t.kind == u.kind) = true ∧ (t.kind != 1) = true ∧ (t.n == u.n) = false) ∨ ((t.kind == u.kind) = true ∧ (t.kind != 1) = true ∧ (t.n == u.n) = true ∧ (t.name.toList == u.name.toList) = false) ∨ ((t.kind == u.kind) = true ∧ (t.kind != 1) = true ∧ (t.n == u.n) = true ∧ (t.name.toList == u.name.toList) = true ∧ ((t.kids.length : Int) == (u.kids.length : Int)) = false)) : GenSC t u := by
  intro v v' l r ps Y w ht hu hB hps hP
  have HF := Lib.hid (gen_other (ps := ps) hno)
  obtain ⟨i0, hi, hz0, hz1, hz2⟩ := info_parts info_term3
  have HI := Lib.hid hi
  have HZ := Lib.hid hz0
  have HZ1 := Lib.hid hz1
  have HZ2 := Lib.hid hz2
  clear hi hz0 hz1 hz2 hno
  obtain ⟨⟨la, lc, rfl⟩, ra, rc, rfl⟩ := hP.form
  obtain ⟨a, c, rfl⟩ := at_form ht
  obtain ⟨a', c', rfl⟩ := at_form hu
  have HT0 := Lib.hid ht
  have HU0 := Lib.hid hu
  have HP := Lib.hid hP
  have HB := Lib.hid hB
  have HLN : Hid (ps.length + 1 ≤ 1048576) := Lib.hid (by have := Tm.sz_pos t; omega)
  have hln : ps.length + 1 ≤ 1048576 := HLN.out
  clear ht hu hP hB hps
  rcases hpre with q1 | ⟨q1, q2⟩ | ⟨q1, q2, q3⟩ | ⟨q1, q2, q3, q4⟩ | ⟨q1, q2, q3, q4, q5⟩
  all_goals
    go_enter Try.func56, Try.ntmps56
    go_wp2_with fail
    go_loopw [12] (fun i wr => ∃ j : Nat, j ≤ ps.length ∧ i = .int .i64 j ∧ Hid (∀ i, i < j → atP t u ps i = false) ∧ Hid (Ext w wr) ∧ Hid (Bx5 w wr t u a a' c c' (.slice la ps.length lc) (.slice ra ps.length rc))) (fun i _ => ps.length - (intOf i).toNat)
    case atStart =>
      refine ⟨0, Nat.zero_le _, rfl, Lib.hid (fun i h => absurd h (by omega)), Lib.hid (((((Ext.alloc _ _).trans (Ext.alloc _ _)).trans (Ext.alloc _ _)).trans (Ext.alloc _ _)).trans (Ext.alloc _ _)), Lib.hid ⟨⟨?_, ?_, ?_, ?_, ?_, ?_, ?_, ?_⟩, ⟨?_, ?_, ?_, ?_, ?_, ?_, ?_, ?_⟩, ⟨?_, ?_, ?_, ?_⟩, ⟨?_, ?_, ?_, ?_, ?_, ?_, ?_, ?_⟩, ⟨?_, ?_, ?_, ?_⟩⟩⟩ <;> go_simp
    case round =>
      obtain ⟨j, hj, rfl, HN, HE, HX⟩ := hrel
      have hl7 := HX.out.2.2.2.2.lt
      have hbw : w.heap.size + 5 ≤ wr.heap.size := by omega
      obtain ⟨⟨x0, x1, x2, x3, _, _, _, _⟩, ⟨y0, y1, y2, y3, _, _, _, _⟩, ⟨pc0, pc1, _, _⟩, _, _⟩ := HX.out
      have HT := Lib.hid (Tm.at_ext HE.out HT0.out)
      have HU := Lib.hid (Tm.at_ext HE.out HU0.out)
      by_cases hlt : j < ps.length
      · obtain ⟨p, hp⟩ : ∃ p, ps[j]? = some p := ⟨ps[j], by simp [hlt]⟩
        have hA := atP_eq t u ps j p hp
        obtain ⟨_, _, e1, _, _, _, r4⟩ := HP.out.2.1
        obtain ⟨_, _, e2, _, _, _, s4⟩ := HP.out.2.2
        simp only [List.length_map, Value.slice.injEq, true_and] at e1 e2
        obtain ⟨rfl, rfl⟩ := e1
        obtain ⟨rfl, rfl⟩ := e2
        obtain ⟨b, off, a1, c1, rfl, _, k1, k2, k3, k4, hat1⟩ := tget r4 (k := j) (t := p.1) (by simp [hp])
        obtain ⟨b', off', a2, c2, rfl, _, m1, m2, m3, m4, hat2⟩ := tget s4 (k := j) (t := p.2) (by simp [hp])
        replace k1 := HE.out.cell k1
        replace k2 := HE.out.cell k2
        replace k3 := HE.out.cell k3
        replace k4 := HE.out.cell k4
        replace m1 := HE.out.cell m1
        replace m2 := HE.out.cell m2
        replace m3 := HE.out.cell m3
        replace m4 := HE.out.cell m4
        have V1 := Lib.hid (Tm.at_ext HE.out hat1)
        have V2 := Lib.hid (Tm.at_ext HE.out hat2)
        obtain ⟨b1, hb1⟩ : ∃ x, Tm.same p.1 t = x := ⟨_, rfl⟩
        obtain ⟨b2, hb2⟩ : ∃ x, Tm.same p.2 u = x := ⟨_, rfl⟩
        rw [hb1, hb2] at hA
        have HA := Lib.hid hA
        have HB1 := Lib.hid hb1
        have HB2 := Lib.hid hb2
        clear r4 s4 hat1 hat2 hA hp hb1 hb2
        go_wp2_with fail
        have cA := quiet_call (w := wr) (fun w' (e' : Ext wr w') => calls_eqb (specTermSame _ p.1 t _ _ _ _ _ (Nat.le_refl _) (Tm.at_ext e' V1.out) (Tm.at_ext e' HT.out)) HB1.out)
        have cB := quiet_call (w := wr) (fun w' (e' : Ext wr w') => calls_eqb (specTermSame _ p.2 u _ _ _ _ _ (Nat.le_refl _) (Tm.at_ext e' V2.out) (Tm.at_ext e' HU.out)) HB2.out)
        have rx0 := cell_regrown x0
        have rx1 := cell_regrown x1
        have rx2 := cell_regrown x2
        have rx3 := cell_regrown x3
        have ry0 := cell_regrown y0
        have ry1 := cell_regrown y1
        have ry2 := cell_regrown y2
        have ry3 := cell_regrown y3
        have rp0 := cell_regrown pc0
        have rp1 := cell_regrown pc1
        have rk1 := cell_regrown k1
        have rk2 := cell_regrown k2
        have rk3 := cell_regrown k3
        have rk4 := cell_regrown k4
        have rm1 := cell_regrown m1
        have rm2 := cell_regrown m2
        have rm3 := cell_regrown m3
        have rm4 := cell_regrown m4
        clear x0 x1 x2 x3 y0 y1 y2 y3 pc0 pc1 k1 k2 k3 k4 m1 m2 m3 m4
        cases b1
        · refine region_ext (by kernel_rfl) (by kernel_rfl) ?_
          repeat (go_big_quiet_step (first | with_reducible exact cA _ _ | with_reducible exact cB _ _ | fail))
          refine wpQuiet_nil ?_
          intro wq eq
          clear rx0 rx1 rx2 rx3 ry0 ry1 ry2 ry3 rp0 rp1 rk1 rk2 rk3 rk4 rm1 rm2 rm3 rm4 cA cB
          go_wp2_with fail
          go_roundw
          case rel => exact ⟨j + 1, by omega, by go_num, Lib.hid (fun i hi => by
            by_cases e : i = j
            · rw [e, HA.out]; rfl
            · exact HN.out i (by omega)), Lib.hid (HE.out.trans eq), Lib.hid (HX.out.ext eq)⟩
          case measure => simp [intOf]; omega
        · cases b2
          · refine region_ext (by kernel_rfl) (by kernel_rfl) ?_
            repeat (go_big_quiet_step (first | with_reducible exact cA _ _ | with_reducible exact cB _ _ | fail))
            refine wpQuiet_nil ?_
            intro wq eq
            clear rx0 rx1 rx2 rx3 ry0 ry1 ry2 ry3 rp0 rp1 rk1 rk2 rk3 rk4 rm1 rm2 rm3 rm4 cA cB
            go_wp2_with fail
            go_roundw
            case rel => exact ⟨j + 1, by omega, by go_num, Lib.hid (fun i hi => by
              by_cases e : i = j
              · rw [e, HA.out]; rfl
              · exact HN.out i (by omega)), Lib.hid (HE.out.trans eq), Lib.hid (HX.out.ext eq)⟩
            case measure => simp [intOf]; omega
          · refine region_ext (by kernel_rfl) (by kernel_rfl) ?_
            repeat (go_big_quiet_step (first | with_reducible exact cA _ _ | with_reducible exact cB _ _ | fail))
            refine wpQuiet_nil ?_
            intro wq eq
            clear rx0 rx1 rx2 rx3 ry0 ry1 ry2 ry3 rp0 rp1 rk1 rk2 rk3 rk4 rm1 rm2 rm3 rm4 cA cB
            have sq := Below.size eq
            have HE := Lib.hid (HE.out.trans eq)
            have HX := Lib.hid (HX.out.ext eq)
            obtain ⟨_, _, ⟨pc0, pc1, _, _⟩, _, _⟩ := HX.out
            have HPO : Hid (¬ ∃ i, O2 3 4 (w.heap.size + 1 + 1 + 1) (w.heap.size + 1 + 1 + 1 + 1) i (w.heap.size + 1 + 1)) := Lib.hid (by rintro ⟨i, ⟨_, h⟩ | ⟨_, h⟩⟩ <;> omega)
            go_wp2_with fail
            refine wp_region_sep (by kernel_rfl) (by kernel_rfl) (by kernel_rfl) need14 cons0 refs1 (by kernel_rfl) (by kernel_rfl) (O2 3 4 (w.heap.size + 1 + 1 + 1) (w.heap.size + 1 + 1 + 1 + 1)) (R14 (w.heap.size + 1 + 1 + 1) (w.heap.size + 1 + 1 + 1 + 1) j (.slice (some ⟨b, off, none⟩) ps.length lc) (.slice (some ⟨b', off', none⟩) ps.length rc)) (Pre2 3 4 (w.heap.size + 1 + 1 + 1) (w.heap.size + 1 + 1 + 1 + 1)) (O2.lt (by omega) (by omega)) (O2.apart (by decide) (by omega)) (fun M j us E R w1 w2 h f _ _ hO _ => h.fr M j us E R w1 w2 f hO) Pre2.fr (fun i => ⟨fun _ => HX.out.2.2.2.1, fun _ => HX.out.2.2.2.2⟩) ?hs14 ?he14
            case hs14 =>
              refine .cons ?h0 (.cons ?h1 (.cons ?h2 (.cons ?h3 (.cons ?h4 .nil))))
              case h0 =>
                intro A vs E R w5 old dep hbn hds hpre hfr K hK
                have s12 := old 12 (by kernel_rfl)
                simp only [List.getElem?_toArray, List.getElem?_cons_succ, List.getElem?_cons_zero] at s12
                go_simp
                exact hK _ (fun _ => False) (fun _ => False) _ (Fr.refl _ _) rfl (fun _ h => h.elim) (fun _ h => h.elim)
              case h1 =>
                intro A vs E R w5 old dep hbn hds hpre hfr K hK
                obtain ⟨e0, t0⟩ := dep 0 (by decide)
                replace t0 := t0 108 (by kernel_rfl) (by simp)
                replace e0 : vs 0 = (.int .i64 (j : Nat)) := e0
                rw [e0] at t0
                go_simp
                go_at_call 88
                refine (specl1VarX _ _).mono ?_
                rintro e w6 ⟨rfl, e6⟩
                exact hK _ (fun _ => False) (fun _ => False) w6 (Fr.of_ext e6) rfl (fun _ h => h.elim) (fun _ h => h.elim)
              case h2 =>
                intro A vs E R w5 old dep hbn hds hpre hfr K hK
                have s5 := old 5 (by kernel_rfl)
                simp only [List.getElem?_toArray, List.getElem?_cons_succ, List.getElem?_cons_zero] at s5
                have q0 := hfr.cell HPO.out pc0
                have q1 := hfr.cell HPO.out pc1
                go_simp
                exact hK _ (fun _ => False) (fun _ => False) _ (Fr.refl _ _) rfl (fun _ h => h.elim) (fun _ h => h.elim)
              case h3 =>
                intro A vs E R w5 old dep hbn hds hpre hfr K hK
                have s6 := old 6 (by kernel_rfl)
                simp only [List.getElem?_toArray, List.getElem?_cons_succ, List.getElem?_cons_zero] at s6
                obtain ⟨e1, t1⟩ := dep 1 (by decide)
                replace t1 := t1 109 (by kernel_rfl) (by simp)
                replace e1 : vs 1 = (.agg #[.int .i64 1, .int .i64 (j : Nat), .string ⟨#[]⟩, .slice none 0 0]) := e1
                rw [e1] at t1
                have hb6 := hpre.1 rfl
                have lr := hb6.lt
                have hb6' := hb6
                obtain ⟨r0, r1, r2, r3, z0, z1, z2, z3⟩ := hb6'
                go_simp
                exact hK undef (fun _ => False) (fun _ => False) _ (put4_fr _ _ _ _ _ (.inr (.inl ⟨rfl, rfl⟩))) (BoxT.put4x hb6 _ _ _ _) (fun _ h => h.elim) (fun _ h => h.elim)
              case h4 =>
                intro A vs E R w5 old dep hbn hds hpre hfr K hK
                have s7 := old 7 (by kernel_rfl)
                simp only [List.getElem?_toArray, List.getElem?_cons_succ, List.getElem?_cons_zero] at s7
                obtain ⟨e2, t2⟩ := dep 2 (by decide)
                replace t2 := t2 110 (by kernel_rfl) (by simp)
                replace e2 : vs 2 = (.agg #[.slice (some ⟨b, off, none⟩) ps.length lc, .slice (some ⟨b', off', none⟩) ps.length rc]) := e2
                rw [e2] at t2
                have hb7 := hpre.2 rfl
                have lr := hb7.lt
                have hb7' := hb7
                obtain ⟨r0, r1, z0, z1⟩ := hb7'
                go_simp
                exact hK undef (fun _ => False) (fun _ => False) _ (put2_fr _ _ _ (.inr (.inr ⟨rfl, rfl⟩))) (hb7.put _ _) (fun _ h => h.elim) (fun _ h => h.elim)

            case he14 =>
              intro vs E R w9 f9 hres _
              have r6 : BoxT w9 (w.heap.size + 1 + 1 + 1) (.int .i64 1) (.int .i64 (j : Nat)) (.string ⟨#[]⟩) (.slice none 0 0) := (hres 3 (by show 3 < 5; decide) (fun _ _ => by simp [cons0])).1
              have r7 : Box2 w9 (w.heap.size + 1 + 1 + 1 + 1) (.slice (some ⟨b, off, none⟩) ps.length lc) (.slice (some ⟨b', off', none⟩) ps.length rc) := (hres 4 (by show 4 < 5; decide) (fun _ _ => by simp [cons0])).1
              have e9 : Ext w w9 := ((Fr.of_ext (M := fun g => ∃ i, O2 3 4 (w.heap.size + 1 + 1 + 1) (w.heap.size + 1 + 1 + 1 + 1) i g) HE.out).trans f9).toExt (fun k hk => by rintro ⟨i, ⟨_, h⟩ | ⟨_, h⟩⟩ <;> omega)
              have E9 := Lib.hid e9
              have X6 := Lib.hid r6
              have X7 := Lib.hid r7
              clear f9 hres e9 r6 r7
              simp only [putO, Act.put, List.setIfInBounds_toArray, List.set_cons_zero, List.set_cons_succ]
              go_wp2_with fail
              refine ret42 (p := 6) (q := 7) (T := 29) (T2 := 71) (by kernel_rfl) (fun _ => by kernel_rfl) (fun _ => by kernel_rfl) (fun _ => by kernel_rfl) (fun _ => by kernel_rfl) rfl rfl rfl X6.out X7.out ?_
              have hx := pidx_of hlt HN.out HA.out
              have hadd : addP ps t u = ps := by unfold addP; rw [hx, if_pos hlt]
              rw [HF.out]
              simp only [hadd, hx]
              exact ⟨none, 0, _, _, Y, rfl, own_nil _ _ _ _ _ (by decide), HP.out.ext E9.out, fun b hb => ⟨Nat.lt_of_lt_of_le (HB.out b hb) (Below.size E9.out), .inl hb⟩, E9.out⟩
      · have hjj : j = ps.length := by omega
        subst hjj
        have HPO : Hid (¬ ∃ i, O2 17 18 (w.heap.size + 1 + 1 + 1) (w.heap.size + 1 + 1 + 1 + 1) i (w.heap.size + 1 + 1)) := Lib.hid (by rintro ⟨i, ⟨_, h⟩ | ⟨_, h⟩⟩ <;> omega)
        have HAO : Hid (¬ ∃ i, O2 17 18 (w.heap.size + 1 + 1 + 1) (w.heap.size + 1 + 1 + 1 + 1) i w.heap.size) := Lib.hid (by rintro ⟨i, ⟨_, h⟩ | ⟨_, h⟩⟩ <;> omega)
        have HBO : Hid (¬ ∃ i, O2 17 18 (w.heap.size + 1 + 1 + 1) (w.heap.size + 1 + 1 + 1 + 1) i (w.heap.size + 1)) := Lib.hid (by rintro ⟨i, ⟨_, h⟩ | ⟨_, h⟩⟩ <;> omega)
        have HYO : Hid (∀ g, Y g → ¬ ∃ i, O2 17 18 (w.heap.size + 1 + 1 + 1) (w.heap.size + 1 + 1 + 1 + 1) i g) := Lib.hid (fun g hg => by have := HB.out g hg; rintro ⟨i, ⟨_, h⟩ | ⟨_, h⟩⟩ <;> omega)
        have HYW : Hid (∀ g, Y g → g < wr.heap.size) := Lib.hid (fun g hg => by have := HB.out g hg; omega)
        have HSL : Hid (Src Y wr (ps.map Prod.fst) (.slice la ps.length lc)) := Lib.hid (src_of (HP.out.ext HE.out).2.1 (fun h => (HP.out.1 (by simpa using h)).1))
        have HSR : Hid (Src Y wr (ps.map Prod.snd) (.slice ra ps.length rc)) := Lib.hid (src_of (HP.out.ext HE.out).2.2 (fun h => (HP.out.1 (by simpa using h)).2))
        obtain ⟨n, hn⟩ : ∃ n, n = ps.length := ⟨_, rfl⟩
        have HNN := Lib.hid hn
        have hl1 : (ps.map Prod.fst).length ≤ 1048575 := by simp; omega
        have hl2 : (ps.map Prod.snd).length ≤ 1048575 := by simp; omega
        go_wp2_with fail
        refine wp_region_sep (by kernel_rfl) (by kernel_rfl) (by kernel_rfl) need16 cons16 refs16 (by kernel_rfl) (by kernel_rfl) (O2 17 18 (w.heap.size + 1 + 1 + 1) (w.heap.size + 1 + 1 + 1 + 1)) (R16 Y (w.heap.size + 1 + 1) (w.heap.size + 1 + 1 + 1) (w.heap.size + 1 + 1 + 1 + 1) ps.length (.slice la ps.length lc) (.slice ra ps.length rc) (ps.map Prod.fst) (ps.map Prod.snd) t u a a' c c') (Pre2 17 18 (w.heap.size + 1 + 1 + 1) (w.heap.size + 1 + 1 + 1 + 1)) (O2.lt (by omega) (by omega)) (O2.apart (by decide) (by omega)) (fun M j us E R w1 w2 h f hE _ hO hS => R16.fr M j us E R w1 w2 h f hE hO (fun g hg => hS g (HYW.out g hg) (fun k hk => HYO.out g hg ⟨k, hk⟩))) Pre2.fr (fun i => ⟨fun _ => HX.out.2.2.2.1, fun _ => HX.out.2.2.2.2⟩) ?hs16 ?he16
        case hs16 =>
          refine .cons ?h0 (.cons ?h1 (.cons ?h2 (.cons ?h3 (.cons ?h4 (.cons ?h5 (.cons ?h6 (.cons ?h7 (.cons ?h8 (.cons ?h9 (.cons ?h10 (.cons ?h11 (.cons ?h12 (.cons ?h13 (.cons ?h14 (.cons ?h15 (.cons ?h16 (.cons ?h17 (.cons ?h18 .nil))))))))))))))))))
          case h0 =>
            intro A vs E R w5 old dep hbn hds hpre hfr K hK
            have s13 := old 13 (by kernel_rfl)
            simp only [List.getElem?_toArray, List.getElem?_cons_succ, List.getElem?_cons_zero] at s13
            go_simp
            exact hK _ (fun _ => False) (fun _ => False) _ (Fr.refl _ _) rfl (fun _ h => h.elim) (fun _ h => h.elim)
          case h1 =>
            intro A vs E R w5 old dep hbn hds hpre hfr K hK
            obtain ⟨e0, t0⟩ := dep 0 (by decide)
            replace t0 := t0 114 (by kernel_rfl) (by simp)
            replace e0 : vs 0 = (.int .i64 (ps.length : Nat)) := e0
            rw [e0] at t0
            go_simp
            go_at_call 88
            refine (specl1VarX _ _).mono ?_
            rintro e w6 ⟨rfl, e6⟩
            exact hK _ (fun _ => False) (fun _ => False) w6 (Fr.of_ext e6) rfl (fun _ h => h.elim) (fun _ h => h.elim)
          case h2 =>
            intro A vs E R w5 old dep hbn hds hpre hfr K hK
            go_simp
            exact hK _ (fun g => g = w5.heap.size) (fun _ => False) _ (Fr.alloc _ _) (RowE.new w5) (fun g h => ⟨.inr ⟨by omega, by simp; omega⟩, fun h => h⟩) (fun _ h => h.elim)
          case h3 =>
            intro A vs E R w5 old dep hbn hds hpre hfr K hK
            have s5 := old 5 (by kernel_rfl)
            simp only [List.getElem?_toArray, List.getElem?_cons_succ, List.getElem?_cons_zero] at s5
            go_simp
            exact hK _ (fun _ => False) (fun _ => False) _ (Fr.refl _ _) rfl (fun _ h => h.elim) (fun _ h => h.elim)
          case h4 =>
            intro A vs E R w5 old dep hbn hds hpre hfr K hK
            obtain ⟨e3, t3⟩ := dep 3 (by decide)
            replace t3 := t3 117 (by kernel_rfl) (by simp)
            replace e3 : vs 3 = (.pointer (some ⟨w.heap.size + 1 + 1, 0, none⟩)) := e3
            rw [e3] at t3
            have q := hfr.cell HPO.out pc0
            go_simp
            exact hK _ (fun _ => False) (fun _ => False) _ (Fr.refl _ _) rfl (fun _ h => h.elim) (fun _ h => h.elim)
          case h5 =>
            intro A vs E R w5 old dep hbn hds hpre hfr K hK
            obtain ⟨e2, t2⟩ := dep 2 (by decide)
            replace t2 := t2 116 (by kernel_rfl) (by simp)
            obtain ⟨e4, t4⟩ := dep 4 (by decide)
            replace t4 := t4 118 (by kernel_rfl) (by simp)
            replace e4 : vs 4 = (.slice la ps.length lc) := e4
            rw [e4] at t4
            have hEb := fun g h => hbn 2 (by decide) g (.inl h)
            obtain ⟨nb, e2, ho2, hEn⟩ := e2
            replace e2 : vs 2 = .slice (some ⟨nb, 0, none⟩) 0 0 := e2
            replace ho2 : w5.ownsRow 0 29 4 (vs 2) 0 [] := ho2
            rw [e2] at t2 ho2
            have hE2 : ∀ g, (Value.slice (some ⟨nb, 0, none⟩) 0 0).ownBlock = some g → E 2 g := fun g hg => by simp [Value.ownBlock] at hg; rw [← hg]; exact hEn
            rcases HSL.out with ⟨hnil, hl⟩ | ⟨b0, off0, cc, xs, hl, hYb, hfl, hle, hcs⟩
            · rw [hl] at t4
              go_simp
              refine hK _ (E 2) (fun _ => False) _ (Fr.refl _ _) ?_ (fun g h => ⟨.inl ⟨2, by decide, h⟩, fun h => h⟩) (fun _ h => h.elim)
              show RowA Y w5 (ps.map Prod.fst) (.slice (some ⟨nb, 0, none⟩) 0 0) (E 2)
              rw [hnil]
              exact ⟨_, _, [], rfl, ho2, rfl, hE2⟩
            · rw [hl] at t4
              refine step_append_fresh rfl (.tmp 116) (.tmp 118) 27 rfl 0 29 i0 _ 4 56 Try.underlying27 HI.out HZ.out HZ1.out HZ2.out rfl (by decide) (.slice (some ⟨nb, 0, none⟩) 0 0) 0 [] (by simp [Act.eval, t2]) ho2 ⟨b0, off0, none⟩ (ps.map Prod.fst).length cc xs (by simp [Act.eval, t4]) (flat_len hfl) (fun j u h => by rw [add0]; exact hfr.cell (HYO.out _ hYb) (hcs j u h)) (flat_one hfl) (by unfold maxLen; omega) (by omega) (by omega) ?_
              intro v2 w6 ho6 hg6 hfr6
              have f6 : Fr (fun k => (Value.slice (some ⟨nb, 0, none⟩) 0 0).ownBlock = some k) w5 w6 := Fr.of_grown hg6 (fun k hk => hk)
              refine hK v2 (fun g => E 2 g ∨ (w5.heap.size ≤ g ∧ g < w6.heap.size)) (fun _ => False) w6 (f6.mono (fun k _ h => .inl ⟨2, by decide, hE2 k h⟩)) (rowA_copy (M := fun _ => False) (a := none) (c := 0) (flat_mono (fun _ h => h) (hfr.agree HYO.out) hfl) (f6.agree (fun g hg h => by have := hEb g (hE2 g h); have := HYW.out g hg; omega)) ho6 _ (fun g hg => (hfr6 g hg).imp (hE2 g) (fun h => ⟨h, (ho6.lt g hg).2⟩))) (fun g h => ⟨h.imp (fun h => ⟨2, by decide, h⟩) id, fun h => h⟩) (fun _ h => h.elim)
          case h6 =>
            intro A vs E R w5 old dep hbn hds hpre hfr K hK
            have s3 := old 3 (by kernel_rfl)
            simp only [List.getElem?_toArray, List.getElem?_cons_succ, List.getElem?_cons_zero] at s3
            have q0 := hfr.cell (HAO.out) x0
            have q1 := hfr.cell (HAO.out) x1
            have q2 := hfr.cell (HAO.out) x2
            have q3 := hfr.cell (HAO.out) x3
            go_simp
            exact hK _ (fun _ => False) (fun _ => False) _ (Fr.refl _ _) rfl (fun _ h => h.elim) (fun _ h => h.elim)
          case h7 =>
            intro A vs E R w5 old dep hbn hds hpre hfr K hK
            obtain ⟨e6, t6⟩ := dep 6 (by decide)
            replace t6 := t6 120 (by kernel_rfl) (by simp)
            replace e6 : vs 6 = val4 t a c := e6
            rw [e6] at t6
            unfold val4 at t6
            go_simp
            exact hK _ (fun g => g = w5.heap.size) (fun _ => False) _ (Fr.alloc _ _) ⟨_, rfl, rfl, fun j x h => cell_four2 w5 _ _ j x h⟩ (fun g h => ⟨.inr ⟨by omega, by simp; omega⟩, fun h => h⟩) (fun _ h => h.elim)
          case h8 =>
            intro A vs E R w5 old dep hbn hds hpre hfr K hK
            obtain ⟨e5, t5⟩ := dep 5 (by decide)
            replace t5 := t5 119 (by kernel_rfl) (by simp)
            obtain ⟨e7, t7⟩ := dep 7 (by decide)
            replace t7 := t7 121 (by kernel_rfl) (by simp)
            have hEr := fun g h => hbn 5 (by decide) g (.inl h)
            have hEb := fun g h => hbn 7 (by decide) g (.inl h)
            obtain ⟨a2, c2, xs2, e2, ho2, hf2, hE2⟩ := e5
            obtain ⟨nb, e7, hE7, hcells⟩ := e7
            replace e2 : vs 5 = .slice a2 (ps.map Prod.fst).length c2 := e2
            replace e7 : vs 7 = .slice (some ⟨nb, 0, none⟩) 1 1 := e7
            replace ho2 : w5.ownsRow 0 29 4 (vs 5) (ps.map Prod.fst).length xs2 := ho2
            replace hE2 : ∀ g, (vs 5).ownBlock = some g → E 5 g := hE2
            rw [e2] at t5 ho2 hE2
            rw [e7] at t7
            refine step_append_fresh rfl (.tmp 119) (.tmp 121) 27 rfl 0 29 i0 _ 4 56 Try.underlying27 HI.out HZ.out HZ1.out HZ2.out rfl (by decide) (.slice a2 (ps.map Prod.fst).length c2) (ps.map Prod.fst).length xs2 (by simp [Act.eval, t5]) ho2 ⟨nb, 0, none⟩ 1 1 (tcells t a c) (by simp [Act.eval, t7]) rfl (fun j u h => by rw [add0, Nat.zero_add]; exact hcells j u h) (by simp [tcells, Value.oneCell']) (by have := HLN.out; unfold maxLen; simp; omega) (by have := HLN.out; simp; omega) (by omega) ?_
            intro v2 w6 ho6 hg6 hfr6
            obtain ⟨av, cv, rfl⟩ := own_form ho6
            have f6 : Fr (fun k => (Value.slice a2 (ps.map Prod.fst).length c2).ownBlock = some k) w5 w6 := Fr.of_grown hg6 (fun k hk => hk)
            have hY6 : ∀ g, Y g → ¬ (Value.slice a2 (ps.map Prod.fst).length c2).ownBlock = some g := fun g hg h => by have := hEr g (hE2 g h); have := HYW.out g hg; omega
            refine hK (.slice av ((ps.map Prod.fst).length + 1) cv) (fun g => E 5 g ∨ (w5.heap.size ≤ g ∧ g < w6.heap.size)) (fun _ => False) w6 (f6.mono (fun k _ h => .inl ⟨5, by decide, hE2 k h⟩)) ?_ (fun g h => ⟨h.imp (fun h => ⟨5, by decide, h⟩) id, fun h => h⟩) (fun _ h => h.elim)
            show RowA Y w6 (ps.map Prod.fst ++ [t]) (.slice av ((ps.map Prod.fst).length + 1) cv) _
            exact ⟨av, cv, _, by simp, by simpa using ho6, flat_snoc (f6.at (hfr.at HT.out HYO.out) hY6) (flat_mono (fun _ h => h) (f6.agree hY6) hf2), fun g hg => (hfr6 g hg).imp (hE2 g) (fun h => ⟨h, (ho6.lt g hg).2⟩)⟩
          case h9 =>
            intro A vs E R w5 old dep hbn hds hpre hfr K hK
            go_simp
            exact hK _ (fun g => g = w5.heap.size) (fun _ => False) _ (Fr.alloc _ _) (RowE.new w5) (fun g h => ⟨.inr ⟨by omega, by simp; omega⟩, fun h => h⟩) (fun _ h => h.elim)
          case h10 =>
            intro A vs E R w5 old dep hbn hds hpre hfr K hK
            have s5 := old 5 (by kernel_rfl)
            simp only [List.getElem?_toArray, List.getElem?_cons_succ, List.getElem?_cons_zero] at s5
            go_simp
            exact hK _ (fun _ => False) (fun _ => False) _ (Fr.refl _ _) rfl (fun _ h => h.elim) (fun _ h => h.elim)
          case h11 =>
            intro A vs E R w5 old dep hbn hds hpre hfr K hK
            obtain ⟨e10, t10⟩ := dep 10 (by decide)
            replace t10 := t10 124 (by kernel_rfl) (by simp)
            replace e10 : vs 10 = (.pointer (some ⟨w.heap.size + 1 + 1, 1, none⟩)) := e10
            rw [e10] at t10
            have q := hfr.cell HPO.out pc1
            go_simp
            exact hK _ (fun _ => False) (fun _ => False) _ (Fr.refl _ _) rfl (fun _ h => h.elim) (fun _ h => h.elim)
          case h12 =>
            intro A vs E R w5 old dep hbn hds hpre hfr K hK
            obtain ⟨e9, t9⟩ := dep 9 (by decide)
            replace t9 := t9 123 (by kernel_rfl) (by simp)
            obtain ⟨e11, t11⟩ := dep 11 (by decide)
            replace t11 := t11 125 (by kernel_rfl) (by simp)
            replace e11 : vs 11 = (.slice ra ps.length rc) := e11
            rw [e11] at t11
            have hEb := fun g h => hbn 9 (by decide) g (.inl h)
            obtain ⟨nb, e2, ho2, hEn⟩ := e9
            replace e2 : vs 9 = .slice (some ⟨nb, 0, none⟩) 0 0 := e2
            replace ho2 : w5.ownsRow 0 29 4 (vs 9) 0 [] := ho2
            rw [e2] at t9 ho2
            have hE2 : ∀ g, (Value.slice (some ⟨nb, 0, none⟩) 0 0).ownBlock = some g → E 9 g := fun g hg => by simp [Value.ownBlock] at hg; rw [← hg]; exact hEn
            rcases HSR.out with ⟨hnil, hl⟩ | ⟨b0, off0, cc, xs, hl, hYb, hfl, hle, hcs⟩
            · rw [hl] at t11
              go_simp
              refine hK _ (E 9) (fun _ => False) _ (Fr.refl _ _) ?_ (fun g h => ⟨.inl ⟨9, by decide, h⟩, fun h => h⟩) (fun _ h => h.elim)
              show RowA Y w5 (ps.map Prod.snd) (.slice (some ⟨nb, 0, none⟩) 0 0) (E 9)
              rw [hnil]
              exact ⟨_, _, [], rfl, ho2, rfl, hE2⟩
            · rw [hl] at t11
              refine step_append_fresh rfl (.tmp 123) (.tmp 125) 27 rfl 0 29 i0 _ 4 56 Try.underlying27 HI.out HZ.out HZ1.out HZ2.out rfl (by decide) (.slice (some ⟨nb, 0, none⟩) 0 0) 0 [] (by simp [Act.eval, t9]) ho2 ⟨b0, off0, none⟩ (ps.map Prod.snd).length cc xs (by simp [Act.eval, t11]) (flat_len hfl) (fun j u h => by rw [add0]; exact hfr.cell (HYO.out _ hYb) (hcs j u h)) (flat_one hfl) (by unfold maxLen; omega) (by omega) (by omega) ?_
              intro v2 w6 ho6 hg6 hfr6
              have f6 : Fr (fun k => (Value.slice (some ⟨nb, 0, none⟩) 0 0).ownBlock = some k) w5 w6 := Fr.of_grown hg6 (fun k hk => hk)
              refine hK v2 (fun g => E 9 g ∨ (w5.heap.size ≤ g ∧ g < w6.heap.size)) (fun _ => False) w6 (f6.mono (fun k _ h => .inl ⟨9, by decide, hE2 k h⟩)) (rowA_copy (M := fun _ => False) (a := none) (c := 0) (flat_mono (fun _ h => h) (hfr.agree HYO.out) hfl) (f6.agree (fun g hg h => by have := hEb g (hE2 g h); have := HYW.out g hg; omega)) ho6 _ (fun g hg => (hfr6 g hg).imp (hE2 g) (fun h => ⟨h, (ho6.lt g hg).2⟩))) (fun g h => ⟨h.imp (fun h => ⟨9, by decide, h⟩) id, fun h => h⟩) (fun _ h => h.elim)
          case h13 =>
            intro A vs E R w5 old dep hbn hds hpre hfr K hK
            have s4 := old 4 (by kernel_rfl)
            simp only [List.getElem?_toArray, List.getElem?_cons_succ, List.getElem?_cons_zero] at s4
            have q0 := hfr.cell (HBO.out) y0
            have q1 := hfr.cell (HBO.out) y1
            have q2 := hfr.cell (HBO.out) y2
            have q3 := hfr.cell (HBO.out) y3
            go_simp
            exact hK _ (fun _ => False) (fun _ => False) _ (Fr.refl _ _) rfl (fun _ h => h.elim) (fun _ h => h.elim)
          case h14 =>
            intro A vs E R w5 old dep hbn hds hpre hfr K hK
            obtain ⟨e13, t13⟩ := dep 13 (by decide)
            replace t13 := t13 127 (by kernel_rfl) (by simp)
            replace e13 : vs 13 = val4 u a' c' := e13
            rw [e13] at t13
            unfold val4 at t13
            go_simp
            exact hK _ (fun g => g = w5.heap.size) (fun _ => False) _ (Fr.alloc _ _) ⟨_, rfl, rfl, fun j x h => cell_four2 w5 _ _ j x h⟩ (fun g h => ⟨.inr ⟨by omega, by simp; omega⟩, fun h => h⟩) (fun _ h => h.elim)
          case h15 =>
            intro A vs E R w5 old dep hbn hds hpre hfr K hK
            obtain ⟨e12, t12⟩ := dep 12 (by decide)
            replace t12 := t12 126 (by kernel_rfl) (by simp)
            obtain ⟨e14, t14⟩ := dep 14 (by decide)
            replace t14 := t14 128 (by kernel_rfl) (by simp)
            have hEr := fun g h => hbn 12 (by decide) g (.inl h)
            have hEb := fun g h => hbn 14 (by decide) g (.inl h)
            obtain ⟨a2, c2, xs2, e2, ho2, hf2, hE2⟩ := e12
            obtain ⟨nb, e7, hE7, hcells⟩ := e14
            replace e2 : vs 12 = .slice a2 (ps.map Prod.snd).length c2 := e2
            replace e7 : vs 14 = .slice (some ⟨nb, 0, none⟩) 1 1 := e7
            replace ho2 : w5.ownsRow 0 29 4 (vs 12) (ps.map Prod.snd).length xs2 := ho2
            replace hE2 : ∀ g, (vs 12).ownBlock = some g → E 12 g := hE2
            rw [e2] at t12 ho2 hE2
            rw [e7] at t14
            refine step_append_fresh rfl (.tmp 126) (.tmp 128) 27 rfl 0 29 i0 _ 4 56 Try.underlying27 HI.out HZ.out HZ1.out HZ2.out rfl (by decide) (.slice a2 (ps.map Prod.snd).length c2) (ps.map Prod.snd).length xs2 (by simp [Act.eval, t12]) ho2 ⟨nb, 0, none⟩ 1 1 (tcells u a' c') (by simp [Act.eval, t14]) rfl (fun j u h => by rw [add0, Nat.zero_add]; exact hcells j u h) (by simp [tcells, Value.oneCell']) (by have := HLN.out; unfold maxLen; simp; omega) (by have := HLN.out; simp; omega) (by omega) ?_
            intro v2 w6 ho6 hg6 hfr6
            obtain ⟨av, cv, rfl⟩ := own_form ho6
            have f6 : Fr (fun k => (Value.slice a2 (ps.map Prod.snd).length c2).ownBlock = some k) w5 w6 := Fr.of_grown hg6 (fun k hk => hk)
            have hY6 : ∀ g, Y g → ¬ (Value.slice a2 (ps.map Prod.snd).length c2).ownBlock = some g := fun g hg h => by have := hEr g (hE2 g h); have := HYW.out g hg; omega
            refine hK (.slice av ((ps.map Prod.snd).length + 1) cv) (fun g => E 12 g ∨ (w5.heap.size ≤ g ∧ g < w6.heap.size)) (fun _ => False) w6 (f6.mono (fun k _ h => .inl ⟨12, by decide, hE2 k h⟩)) ?_ (fun g h => ⟨h.imp (fun h => ⟨12, by decide, h⟩) id, fun h => h⟩) (fun _ h => h.elim)
            show RowA Y w6 (ps.map Prod.snd ++ [u]) (.slice av ((ps.map Prod.snd).length + 1) cv) _
            exact ⟨av, cv, _, by simp, by simpa using ho6, flat_snoc (f6.at (hfr.at HU.out HYO.out) hY6) (flat_mono (fun _ h => h) (f6.agree hY6) hf2), fun g hg => (hfr6 g hg).imp (hE2 g) (fun h => ⟨h, (ho6.lt g hg).2⟩)⟩
          case h16 =>
            intro A vs E R w5 old dep hbn hds hpre hfr K hK
            obtain ⟨e8, t8⟩ := dep 8 (by decide)
            replace t8 := t8 122 (by kernel_rfl) (by simp)
            obtain ⟨e15, t15⟩ := dep 15 (by decide)
            replace t15 := t15 129 (by kernel_rfl) (by simp)
            obtain ⟨a2, c2, xs2, e2, _⟩ := e8
            obtain ⟨a3, c3, xs3, e3, _⟩ := e15
            replace e2 : vs 8 = .slice a2 (ps.map Prod.fst ++ [t]).length c2 := e2
            replace e3 : vs 15 = .slice a3 (ps.map Prod.snd ++ [u]).length c3 := e3
            rw [e2] at t8
            rw [e3] at t15
            go_simp
            refine hK _ (fun _ => False) (fun _ => False) w5 (Fr.refl _ _) ?_ (fun _ h => h.elim) (fun _ h => h.elim)
            exact ⟨vs 8, vs 15, by simp only [refs16, List.map, e2, e3]; simp, ⟨a2, c2, by rw [e2]; simp⟩, ⟨a3, c3, by rw [e3]; simp⟩⟩
          case h17 =>
            intro A vs E R w5 old dep hbn hds hpre hfr K hK
            have s6 := old 6 (by kernel_rfl)
            simp only [List.getElem?_toArray, List.getElem?_cons_succ, List.getElem?_cons_zero] at s6
            obtain ⟨e1, t1⟩ := dep 1 (by decide)
            replace t1 := t1 115 (by kernel_rfl) (by simp)
            replace e1 : vs 1 = (.agg #[.int .i64 1, .int .i64 (ps.length : Nat), .string ⟨#[]⟩, .slice none 0 0]) := e1
            rw [e1] at t1
            have hb6 := hpre.1 rfl
            have lr := hb6.lt
            have hb6' := hb6
            obtain ⟨r0, r1, r2, r3, z0, z1, z2, z3⟩ := hb6'
            go_simp
            exact hK undef (fun _ => False) (fun _ => False) _ (put4_fr _ _ _ _ _ (.inr (.inl ⟨rfl, rfl⟩))) (BoxT.put4x hb6 _ _ _ _) (fun _ h => h.elim) (fun _ h => h.elim)
          case h18 =>
            intro A vs E R w5 old dep hbn hds hpre hfr K hK
            have s7 := old 7 (by kernel_rfl)
            simp only [List.getElem?_toArray, List.getElem?_cons_succ, List.getElem?_cons_zero] at s7
            obtain ⟨e16, t16⟩ := dep 16 (by decide)
            replace t16 := t16 130 (by kernel_rfl) (by simp)
            have hb7 := hpre.2 rfl
            have lr := hb7.lt
            have hb7' := hb7
            obtain ⟨r0, r1, z0, z1⟩ := hb7'
            obtain ⟨v8, v15, e16, ⟨a2, c2, e2⟩, ⟨a3, c3, e3⟩⟩ := e16
            replace e16 : [vs 16, vs 8, vs 15] = [.agg #[v8, v15], v8, v15] := e16
            simp only [List.cons.injEq, and_true] at e16
            obtain ⟨g1, g2, g3⟩ := e16
            simp only [List.length_map] at e2 e3
            rw [g1, e2, e3] at t16
            go_simp
            refine hK undef (fun _ => False) (fun _ => False) _ (put2_fr _ _ _ (.inr (.inr ⟨rfl, rfl⟩))) ?_ (fun _ h => h.elim) (fun _ h => h.elim)
            exact ⟨vs 8, vs 15, rfl, by rw [g2, g3, e2, e3]; exact hb7.put _ _⟩

        case he16 =>
          intro vs E R w9 f9 hres hdis
          have r6 : BoxT w9 (w.heap.size + 1 + 1 + 1) (.int .i64 1) (.int .i64 (ps.length : Nat)) (.string ⟨#[]⟩) (.slice none 0 0) := (hres 17 (by show 17 < 19; decide) (fun k _ => c16 (by decide) k)).1
          obtain ⟨v8, v15, e18, r7⟩ := (hres 18 (by show 18 < 19; decide) (fun k _ => c16 (by decide) k)).1
          replace e18 : [vs 8, vs 15] = [v8, v15] := e18
          simp only [List.cons.injEq, and_true] at e18
          obtain ⟨g8, g15⟩ := e18
          obtain ⟨⟨a8, c8, x8, h81, h82, h83, h84⟩, b8⟩ := hres 8 (by show 8 < 19; decide) (fun k _ => c16 (by decide) k)
          obtain ⟨⟨a9, c9, x9, h91, h92, h93, h94⟩, b9⟩ := hres 15 (by show 15 < 19; decide) (fun k _ => c16 (by decide) k)
          replace h81 : vs 8 = .slice a8 (ps.map Prod.fst ++ [t]).length c8 := h81
          replace h91 : vs 15 = .slice a9 (ps.map Prod.snd ++ [u]).length c9 := h91
          replace h82 : w9.ownsRow 0 29 4 (vs 8) (ps.map Prod.fst ++ [t]).length x8 := h82
          replace h92 : w9.ownsRow 0 29 4 (vs 15) (ps.map Prod.snd ++ [u]).length x9 := h92
          replace h84 : ∀ g, (vs 8).ownBlock = some g → E 8 g := h84
          replace h94 : ∀ g, (vs 15).ownBlock = some g → E 15 g := h94
          rw [g8] at h81 h82 h84
          rw [g15] at h91 h92 h94
          have PL : Hid (PrL (fun b => Y b ∨ (w.heap.size ≤ b ∧ b < w9.heap.size)) w9 (ps ++ [(t, u)]) v8 v15) := Lib.hid ⟨fun h => by simp at h, by
            rw [List.map_append]
            exact Tm.sl_mono (fun b hb => hb.imp id (fun h => by have := b8 b (.inl (h84 b h)); omega)) (Agree.refl _) (own_sl h82 h83 (by simp; omega)), by
            rw [List.map_append]
            exact Tm.sl_mono (fun b hb => hb.imp id (fun h => by have := b9 b (.inl (h94 b h)); omega)) (Agree.refl _) (own_sl h92 h93 (by simp; omega))⟩
          have e9 : Ext w w9 := ((Fr.of_ext (M := fun g => ∃ i, O2 17 18 (w.heap.size + 1 + 1 + 1) (w.heap.size + 1 + 1 + 1 + 1) i g) HE.out).trans f9).toExt (fun k hk => by rintro ⟨i, ⟨_, h⟩ | ⟨_, h⟩⟩ <;> omega)
          have E9 := Lib.hid e9
          have X6 := Lib.hid r6
          have X7 := Lib.hid r7
          clear f9 hres e9 r6 r7 hdis h81 h82 h83 h84 h91 h92 h93 h94 b8 b9 g8 g15
          simp only [putO, Act.put, List.setIfInBounds_toArray, List.set_cons_zero, List.set_cons_succ]
          go_wp2_with fail
          refine ret42 (p := 6) (q := 7) (T := 29) (T2 := 71) (by kernel_rfl) (fun _ => by kernel_rfl) (fun _ => by kernel_rfl) (fun _ => by kernel_rfl) (fun _ => by kernel_rfl) rfl rfl rfl X6.out X7.out ?_
          have hx := pidx_none HN.out
          have hadd : addP ps t u = ps ++ [(t, u)] := by unfold addP; rw [hx, if_neg (Nat.lt_irrefl _)]
          rw [HF.out]
          simp only [hadd, hx]
          exact ⟨none, 0, _, _, _, rfl, own_nil _ _ _ _ _ (by decide), PL.out, fun b hb => ⟨hb.elim (fun h => Nat.lt_of_lt_of_le (HB.out b h) (Below.size E9.out)) (fun h => h.2), hb.imp id (fun h => h.1)⟩, E9.out⟩

end Go.Proofs.Yteplfajhmpmklaa
