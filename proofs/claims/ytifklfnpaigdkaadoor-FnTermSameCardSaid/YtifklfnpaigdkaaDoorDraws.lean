/-
  The reference's draws of one term and of two.
-/
import Derived.Test.YtifklfnpaigdkaaDoorMut
import Derived.Deep.RegionHeld3
namespace Go.Proofs.YtifklfnpaigdkaaDoor
open Go.RowKit
set_option linter.unusedVariables false

/-- a box of four cells that may be written -/
def BoxT (w : World) (b : Nat) (v0 v1 v2 v3 : Value) : Prop :=
  w.cell? ⟨b, 0, none⟩ = some v0 ∧ w.cell? ⟨b, 1, none⟩ = some v1 ∧ w.cell? ⟨b, 2, none⟩ = some v2 ∧ w.cell? ⟨b, 3, none⟩ = some v3 ∧
    w.frozen? ⟨b, 0, none⟩ = false ∧ w.frozen? ⟨b, 1, none⟩ = false ∧ w.frozen? ⟨b, 2, none⟩ = false ∧ w.frozen? ⟨b, 3, none⟩ = false
abbrev BoxZ (w : World) (b : Nat) : Prop := BoxT w b (.int .i64 0) (.int .i64 0) (.string ⟨#[]⟩) (.slice none 0 0)
theorem BoxT.lt {w : World} {b : Nat} {v0 v1 v2 v3 : Value} (h : BoxT w b v0 v1 v2 v3) : b < w.heap.size := block_lt_of_cell h.1
theorem BoxT.fr {M : Nat → Prop} {w w' : World} {b : Nat} {v0 v1 v2 v3 : Value} (h : BoxT w b v0 v1 v2 v3) (f : Fr M w w') (hb : ¬ M b) : BoxT w' b v0 v1 v2 v3 :=
  ⟨f.cell hb h.1, f.cell hb h.2.1, f.cell hb h.2.2.1, f.cell hb h.2.2.2.1, f.frozen h.lt hb h.2.2.2.2.1, f.frozen h.lt hb h.2.2.2.2.2.1, f.frozen h.lt hb h.2.2.2.2.2.2.1, f.frozen h.lt hb h.2.2.2.2.2.2.2⟩
theorem BoxT.ext {w w' : World} {b : Nat} {v0 v1 v2 v3 : Value} (h : BoxT w b v0 v1 v2 v3) (e : Ext w w') : BoxT w' b v0 v1 v2 v3 := h.fr (M := fun _ => False) (Fr.of_ext e) (fun h => h)
theorem BoxT.extR {w w' : World} {r b : Nat} {v0 v1 v2 v3 : Value} (h : BoxT w b v0 v1 v2 v3) (e : ExtR r w w') (hb : b ≠ r) : BoxT w' b v0 v1 v2 v3 := h.fr (M := fun k => k = r) (Fr.of_extR e rfl) hb
theorem BoxT.new (w : World) (v0 v1 v2 v3 : Value) (T : Nat) {b : Nat} (hb : b = w.heap.size) : BoxT (w.alloc (.cells #[v0, v1, v2, v3] T)) b v0 v1 v2 v3 := by
  subst hb
  refine ⟨?_, ?_, ?_, ?_, ?_, ?_, ?_, ?_⟩ <;> go_simp
theorem BytesAt.ext {w w' : World} {v : Value} (h : BytesAt w v) (e : Ext w w') : BytesAt w' v := by
  obtain ⟨a, len, cap, h1, h2, h3, h4⟩ := h
  refine ⟨a, len, cap, h1, h2, h3, ?_⟩
  rcases h4 with h4 | ⟨b, off, h4, h5⟩
  · exact .inl h4
  · exact .inr ⟨b, off, h4, fun i hi => let ⟨n, hn, hc⟩ := h5 i hi; ⟨n, hn, e.cell hc⟩⟩

/-- the end of a function that returns two terms -/
theorem ret44 {P : Program} {fn : Func} {R : Ending → World → Prop} {a : Act} {X : World} {p1 p2 T b1 b2 : Nat} {v0 v1 v2 v3 y0 y1 y2 y3 : Value}
    (hres : fn.results = #[.cell p1 T, .cell p2 T]) (hT : ∀ w, (isAgg T).run P w = .ok true w) (hs : ∀ w, (sizeOf T).run P w = .ok 4 w)
    (hp1 : a.tmps.getD p1 undef = .pointer (some ⟨b1, 0, none⟩)) (hp2 : a.tmps.getD p2 undef = .pointer (some ⟨b2, 0, none⟩)) (hd : a.defers = [])
    (h0 : X.cell? ⟨b1, 0, none⟩ = some v0) (h1 : X.cell? ⟨b1, 1, none⟩ = some v1) (h2 : X.cell? ⟨b1, 2, none⟩ = some v2) (h3 : X.cell? ⟨b1, 3, none⟩ = some v3)
    (g0 : X.cell? ⟨b2, 0, none⟩ = some y0) (g1 : X.cell? ⟨b2, 1, none⟩ = some y1) (g2 : X.cell? ⟨b2, 2, none⟩ = some y2) (g3 : X.cell? ⟨b2, 3, none⟩ = some y3)
    (hR : R (.returned (.tuple #[.agg #[v0, v1, v2, v3], .agg #[y0, y1, y2, y3]])) X) : bodyPost P fn R .ret a X := by
  refine bodyPost_ret (v := .tuple #[.agg #[v0, v1, v2, v3], .agg #[y0, y1, y2, y3]]) ?_ hd hR
  have hl := load4 (P := P) (w := X) (T := T) (b := b1) hT hs h0 h1 h2 h3
  have hl2 := load4 (P := P) (w := X) (T := T) (b := b2) hT hs g0 g1 g2 g3
  simp only [results, hres]
  have hp1' : a.tmps[p1]?.getD undef = .pointer (some ⟨b1, 0, none⟩) := by simpa using hp1
  have hp2' : a.tmps[p2]?.getD undef = .pointer (some ⟨b2, 0, none⟩) := by simpa using hp2
  simp [hp1', hp2', asAddr, hl, hl2]
theorem ret44_set {P : Program} {fn : Func} {R : Ending → World → Prop} {a : Act} {Y : World} {p1 p2 T b1 b2 : Nat} {v0 v1 v2 v3 y0 y1 y2 y3 u0 u1 u2 u3 x0 x1 x2 x3 : Value}
    (hres : fn.results = #[.cell p1 T, .cell p2 T]) (hT : ∀ w, (isAgg T).run P w = .ok true w) (hs : ∀ w, (sizeOf T).run P w = .ok 4 w)
    (hp1 : a.tmps.getD p1 undef = .pointer (some ⟨b1, 0, none⟩)) (hp2 : a.tmps.getD p2 undef = .pointer (some ⟨b2, 0, none⟩)) (hd : a.defers = []) (hb : b1 ≠ b2)
    (h1 : BoxT Y b1 u0 u1 u2 u3) (h2 : BoxT Y b2 x0 x1 x2 x3)
    (hR : ∀ X, Fr (fun k => k = b1 ∨ k = b2) Y X → R (.returned (.tuple #[.agg #[v0, v1, v2, v3], .agg #[y0, y1, y2, y3]])) X) :
    bodyPost P fn R .ret a ((((((((Y.setCell ⟨b1, 0, none⟩ v0).setCell ⟨b1, 1, none⟩ v1).setCell ⟨b1, 2, none⟩ v2).setCell ⟨b1, 3, none⟩ v3).setCell ⟨b2, 0, none⟩ y0).setCell ⟨b2, 1, none⟩ y1).setCell ⟨b2, 2, none⟩ y2).setCell ⟨b2, 3, none⟩ y3) := by
  obtain ⟨c0, c1, c2, c3⟩ := set4_cells (Y := Y) v0 v1 v2 v3 h1.1 h1.2.1 h1.2.2.1 h1.2.2.2.1
  have f1 : Fr (fun k => k = b1 ∨ k = b2) Y (set4 Y b1 v0 v1 v2 v3) := Fr.of_grown (set4_grown _ _ _ _ _ _) (fun k e => by cases e; exact .inl rfl)
  have f1' : Fr (fun k => k = b1) Y (set4 Y b1 v0 v1 v2 v3) := Fr.of_grown (set4_grown _ _ _ _ _ _) (fun k e => by cases e; rfl)
  have h2' := h2.fr f1' (fun e => hb e.symm)
  obtain ⟨d0, d1, d2, d3⟩ := set4_cells (Y := set4 Y b1 v0 v1 v2 v3) y0 y1 y2 y3 h2'.1 h2'.2.1 h2'.2.2.1 h2'.2.2.2.1
  have f2 : Fr (fun k => k = b1 ∨ k = b2) (set4 Y b1 v0 v1 v2 v3) (set4 (set4 Y b1 v0 v1 v2 v3) b2 y0 y1 y2 y3) := Fr.of_grown (set4_grown _ _ _ _ _ _) (fun k e => by cases e; exact .inr rfl)
  have f2' : Fr (fun k => k = b2) (set4 Y b1 v0 v1 v2 v3) (set4 (set4 Y b1 v0 v1 v2 v3) b2 y0 y1 y2 y3) := Fr.of_grown (set4_grown _ _ _ _ _ _) (fun k e => by cases e; rfl)
  exact ret44 hres hT hs hp1 hp2 hd (f2'.cell hb c0) (f2'.cell hb c1) (f2'.cell hb c2) (f2'.cell hb c3) d0 d1 d2 d3 (hR _ (f1.trans f2))

def TmOut (w : World) (e : Ending) (w' : World) : Prop := ∃ t v, e = .returned v ∧ Tm.at (fun b => w.heap.size ≤ b) w' t v ∧ Ext w w'
def TmOut2 (w : World) (e : Ending) (w' : World) : Prop := ∃ t u v1 v2, e = .returned (.tuple #[v1, v2]) ∧ Tm.at (fun b => w.heap.size ≤ b) w' t v1 ∧ Tm.at (fun b => w.heap.size ≤ b) w' u v2 ∧ Ext w w'
/-- the end of a function that returns a term which it has from a call, the box of its result being block B -/
theorem out_end {B : Nat} {w wk X : World} {t : Tm} {v : Value} (hB : w.heap.size ≤ B) (hX : wk.grownBy X (some B)) (he : Ext w wk) (hv : Tm.at (fun b => w.heap.size ≤ b ∧ b ≠ B) wk t v) : TmOut w (.returned v) X := by
  have f : Fr (fun k => k = B) wk X := Fr.of_grown hX (fun k e => by cases e; rfl)
  exact ⟨t, v, rfl, Tm.at_mono (fun b h => h.1) (f.agree (S := fun b => w.heap.size ≤ b ∧ b ≠ B) (fun k hk h => hk.2 h)) hv, ((Fr.of_ext he).trans (f.mono (fun k _ h => show w.heap.size ≤ k by omega))).toExt (fun k hk hm => by omega)⟩


/-- tail: made by gen_draws.py -/
theorem tail_begins : True := trivial

set_option maxRecDepth 100000 in
set_option maxHeartbeats 2000000 in
theorem drawTermSame (v : Value) (w : World) (hv : BytesAt w v) : Calls Tryd.prog 20 #[v] w (TmOut2 w) := by
  have hb1 := BoxT.new w (.int .i64 0) (.int .i64 0) (.string ⟨#[]⟩) (.slice none 0 0) 29 rfl
  have hb2 := BoxT.new (w.alloc (.cells #[.int .i64 0, .int .i64 0, .string ⟨#[]⟩, .slice none 0 0] 29)) (.int .i64 0) (.int .i64 0) (.string ⟨#[]⟩) (.slice none 0 0) 29 (b := w.heap.size + 1) (by simp)
  have e02 := (Ext.alloc w (.cells #[.int .i64 0, .int .i64 0, .string ⟨#[]⟩, .slice none 0 0] 29)).trans (Ext.alloc _ (.cells #[.int .i64 0, .int .i64 0, .string ⟨#[]⟩, .slice none 0 0] 29))
  have B1 := Lib.hid (hb1.ext (Ext.alloc _ (.cells #[.int .i64 0, .int .i64 0, .string ⟨#[]⟩, .slice none 0 0] 29)))
  have B2 := Lib.hid hb2
  have HV := Lib.hid (hv.ext e02)
  have E02 := Lib.hid e02
  clear hb1 hb2 e02
  obtain ⟨a, len, cap, rfl, _⟩ := hv
  go_enter Tryd.func20, Tryd.ntmps20
  go_wp2_with fail
  refine (specl18Open _ _ HV.out).mono ?_
  rintro e w1 ⟨r, rfl, hr, hrd, e1⟩
  have hr : w.heap.size + 2 ≤ r := by simp at hr; omega
  have hlt := hrd.lt
  have n1 : w.heap.size ≠ r := by omega
  have n2 : w.heap.size + 1 ≠ r := by omega
  have R := Lib.hid hrd
  have B1 := Lib.hid (B1.out.ext e1)
  have B2 := Lib.hid (B2.out.ext e1)
  have E1 := Lib.hid (E02.out.trans e1)
  clear hrd e1 HV E02
  go_wp2_with fail
  refine (specl1Some r 0 _ (by omega) R.out).mono ?_
  rintro e w2 ⟨t, v2, p2, rfl, hv2, _, hr2, hp2, he2⟩
  obtain ⟨a2, c2, rfl⟩ := at_form hv2
  have s2 := he2.1.size
  have ea := Ext.alloc w2 (.cells #[.int .i64 t.kind, .int .i64 t.n, .string t.name, .slice a2 t.kids.length c2] 29)
  have T := Lib.hid (BoxT.new w2 (.int .i64 t.kind) (.int .i64 t.n) (.string t.name) (.slice a2 t.kids.length c2) 29 rfl)
  have R := Lib.hid (hr2.ext ea)
  have V := Lib.hid (Tm.at_ext ea hv2)
  have B1 := Lib.hid ((B1.out.extR he2 n1).ext ea)
  have B2 := Lib.hid ((B2.out.extR he2 n2).ext ea)
  have E := Lib.hid (he2.trans (ExtR.of_ext ea))
  clear hv2 hr2 he2 ea
  go_wp2_with fail
  refine (rdpick r p2 2 _ (by omega) (by decide) (by decide) R.out).mono ?_
  rintro e w3 ⟨x, rfl, hx0, hx1, hr3, he3⟩
  have s3 : w2.heap.size + 1 ≤ w3.heap.size := by have := he3.1.size; simp at this; omega
  have nT : w2.heap.size ≠ r := by omega
  have R := Lib.hid hr3
  have V := Lib.hid (Tm.at_mono (fun b h => h) (he3.agree (S := fun b => w1.heap.size ≤ b) (by omega)) V.out)
  have T := Lib.hid (T.out.extR he3 nT)
  have B1 := Lib.hid (B1.out.extR he3 n1)
  have B2 := Lib.hid (B2.out.extR he3 n2)
  have E := Lib.hid (E.out.trans he3)
  clear hr3 he3
  obtain ⟨t0, t1, t2, t3, _, _, _, _⟩ := T.out
  have m1 : ¬ w2.heap.size = w.heap.size := by omega
  have m2 : ¬ w2.heap.size = w.heap.size + 1 := by omega
  obtain rfl | rfl : x = 0 ∨ x = 1 := by omega
  · go_wp2_with fail
    have HSO := Lib.hid (fun w' (h : Rd w' r (p2 + 1)) => specl1Some r (p2 + 1) w' (by omega) h)
    go_region_held3 (fun w' => w'.cell? ⟨w2.heap.size, 0, none⟩ = some (.int .i64 t.kind) ∧ w'.cell? ⟨w2.heap.size, 1, none⟩ = some (.int .i64 t.n) ∧ w'.cell? ⟨w2.heap.size, 2, none⟩ = some (.string t.name) ∧ w'.cell? ⟨w2.heap.size, 3, none⟩ = some (.slice a2 t.kids.length c2))
      ((refine ⟨?_, ?_, ?_, ?_⟩ <;> first | with_reducible assumption | (with_reducible (apply ExtR.cell; assumption; assumption; assumption)) | go_simp))
      ((go_at_call 38; refine (HSO.out _ ?_).mono ?_; (first | exact R.out | exact R.out.ext (Ext.drew _)); rintro e w4 ⟨u, v4, p4, rfl, hv4, _, hr4, hp4, he4⟩; (try replace he4 := (ExtR.of_ext (Ext.drew _)).trans he4); obtain ⟨a4, c4, rfl⟩ := at_form hv4; obtain ⟨g0, g1, g2, g3, g4, g5, g6, g7⟩ := B1.out.extR he4 n1; obtain ⟨q0, q1, q2, q3, q4, q5, q6, q7⟩ := B2.out.extR he4 n2))
    all_goals go_wp2_with fail
    all_goals
      refine ret44_set (p1 := 2) (p2 := 3) (T := 29) (b1 := w.heap.size) (b2 := w.heap.size + 1) (by kernel_rfl) (fun _ => by kernel_rfl) (fun _ => by kernel_rfl) rfl rfl rfl (by omega) (B1.out.extR he4 n1) (B2.out.extR he4 n2) ?_
      intro X hX
      have E' := ExtR.below E1.out (E.out.trans he4) (by omega)
      have V' := Tm.at_mono (fun b h => h) (he4.agree (S := fun b => w1.heap.size ≤ b) (by omega)) V.out
      refine ⟨t, u, _, _, rfl, Tm.at_mono (fun b h => ?_) (hX.agree (S := fun b => w1.heap.size ≤ b) (fun k hk h => by omega)) V', Tm.at_mono (fun b h => ?_) (hX.agree (S := fun b => w3.heap.size ≤ b) (fun k hk h => by omega)) hv4, ((Fr.of_ext E').trans (hX.mono (fun k _ h => show w.heap.size ≤ k by omega))).toExt (fun k hk hm => by omega)⟩
      · omega
      · omega
  · go_wp2_with fail
    have HSM := Lib.hid (fun w' (h : Rd w' r (p2 + 1)) (e : ExtR r w3 w') => specl1Mutate r (p2 + 1) t _ _ w' (by omega) h (Tm.at_mono (fun b h => h) (e.agree (S := fun b => w1.heap.size ≤ b) (by omega)) V.out))
    have HSN := Lib.hid (fun w' p' (u : Tm) v' (S : Nat → Prop) (h : Rd w' r p') (hp : p' ≤ p2 + 10) (hu : Tm.at S w' u v') => specl1Mutate r p' u v' S w' (by omega) h hu)
    go_region_held3 (fun w' => w'.cell? ⟨w2.heap.size, 0, none⟩ = some (.int .i64 t.kind) ∧ w'.cell? ⟨w2.heap.size, 1, none⟩ = some (.int .i64 t.n) ∧ w'.cell? ⟨w2.heap.size, 2, none⟩ = some (.string t.name) ∧ w'.cell? ⟨w2.heap.size, 3, none⟩ = some (.slice a2 t.kids.length c2))
      ((refine ⟨?_, ?_, ?_, ?_⟩ <;> first | with_reducible assumption | (with_reducible (apply ExtR.cell; assumption; assumption; assumption)) | go_simp))
      ((first
        | (go_at_call_of 33 (Value.string t.name); refine (HSM.out _ ?_ ?_).mono ?_; (first | exact R.out | exact R.out.ext (Ext.drew _)); (first | exact ExtR.refl _ _ | exact ExtR.of_ext (Ext.drew _)); rintro e w4 ⟨u, v4, p4, rfl, hv4, _, hr4, hp4, he4⟩; (try replace he4 := (ExtR.of_ext (Ext.drew _)).trans he4); obtain ⟨a4, c4, rfl⟩ := at_form hv4; have y0 := he4.cell nT t0; have y1 := he4.cell nT t1; have y2 := he4.cell nT t2; have y3 := he4.cell nT t3)
        | (go_at_call 33; refine (HSN.out _ p4 u _ (fun b => w3.heap.size ≤ b) ?_ ?_ ?_).mono ?_; (first | exact hr4 | exact hr4.ext (Ext.drew _)); (omega); (first | exact hv4 | exact Tm.at_ext (Ext.drew _) hv4); rintro e w5 ⟨u5, v5, p5, rfl, hv5, _, hr5, hp5, he5⟩; (try replace he5 := (ExtR.of_ext (Ext.drew _)).trans he5); obtain ⟨a5, c5, rfl⟩ := at_form hv5; have k0 := he5.cell nT y0; have k1 := he5.cell nT y1; have k2 := he5.cell nT y2; have k3 := he5.cell nT y3; obtain ⟨g0, g1, g2, g3, g4, g5, g6, g7⟩ := (B1.out.extR he4 n1).extR he5 n1; obtain ⟨q0, q1, q2, q3, q4, q5, q6, q7⟩ := (B2.out.extR he4 n2).extR he5 n2)
        | fail))
    all_goals go_wp2_with fail
    all_goals
      have he4 := he4.trans he5
      refine ret44_set (p1 := 2) (p2 := 3) (T := 29) (b1 := w.heap.size) (b2 := w.heap.size + 1) (by kernel_rfl) (fun _ => by kernel_rfl) (fun _ => by kernel_rfl) rfl rfl rfl (by omega) (B1.out.extR he4 n1) (B2.out.extR he4 n2) ?_
      intro X hX
      have E' := ExtR.below E1.out (E.out.trans he4) (by omega)
      have V' := Tm.at_mono (fun b h => h) (he4.agree (S := fun b => w1.heap.size ≤ b) (by omega)) V.out
      have s4 : w2.heap.size + 1 ≤ w4.heap.size := Nat.le_trans s3 (by first | assumption | exact (by assumption : ExtR r w3 w4).1.size)
      refine ⟨t, u5, _, _, rfl, Tm.at_mono (fun b h => ?_) (hX.agree (S := fun b => w1.heap.size ≤ b) (fun k hk h => by omega)) V', Tm.at_mono (fun b h => ?_) (hX.agree (S := fun b => w4.heap.size ≤ b) (fun k hk h => by omega)) hv5, ((Fr.of_ext E').trans (hX.mono (fun k _ h => show w.heap.size ≤ k by omega))).toExt (fun k hk hm => by omega)⟩
      · omega
      · omega





end Go.Proofs.YtifklfnpaigdkaaDoor
