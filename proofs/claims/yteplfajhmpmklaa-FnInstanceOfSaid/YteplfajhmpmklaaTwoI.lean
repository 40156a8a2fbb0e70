/-
  The draws that call l3Two.
-/
import Derived.Test.YteplfajhmpmklaaTwoD
namespace Go.Proofs.Yteplfajhmpmklaa
open Go.RowKit
set_option linter.unusedVariables false

theorem drewc {X : World} {p : Addr} {v : Option Value} (h : X.cell? p = v) : X.drew.cell? p = v := h
theorem set44 {Y : World} {b1 b2 : Nat} {v0 v1 v2 v3 y0 y1 y2 y3 u0 u1 u2 u3 x0 x1 x2 x3 : Value} (hb : b1 ≠ b2) (h1 : BoxT Y b1 u0 u1 u2 u3) (h2 : BoxT Y b2 x0 x1 x2 x3) :
    let X := ((((((((Y.setCell ⟨b1, 0, none⟩ v0).setCell ⟨b1, 1, none⟩ v1).setCell ⟨b1, 2, none⟩ v2).setCell ⟨b1, 3, none⟩ v3).setCell ⟨b2, 0, none⟩ y0).setCell ⟨b2, 1, none⟩ y1).setCell ⟨b2, 2, none⟩ y2).setCell ⟨b2, 3, none⟩ y3).drew
    X.cell? ⟨b1, 0, none⟩ = some v0 ∧ X.cell? ⟨b1, 1, none⟩ = some v1 ∧ X.cell? ⟨b1, 2, none⟩ = some v2 ∧ X.cell? ⟨b1, 3, none⟩ = some v3 ∧ X.cell? ⟨b2, 0, none⟩ = some y0 ∧ X.cell? ⟨b2, 1, none⟩ = some y1 ∧ X.cell? ⟨b2, 2, none⟩ = some y2 ∧ X.cell? ⟨b2, 3, none⟩ = some y3 ∧ Fr (fun k => k = b1 ∨ k = b2) Y X := by
  obtain ⟨c0, c1, c2, c3⟩ := set4_cells (Y := Y) v0 v1 v2 v3 h1.1 h1.2.1 h1.2.2.1 h1.2.2.2.1
  have f1 : Fr (fun k => k = b1 ∨ k = b2) Y (set4 Y b1 v0 v1 v2 v3) := Fr.of_grown (set4_grown _ _ _ _ _ _) (fun k e => by cases e; exact .inl rfl)
  have f1' : Fr (fun k => k = b1) Y (set4 Y b1 v0 v1 v2 v3) := Fr.of_grown (set4_grown _ _ _ _ _ _) (fun k e => by cases e; rfl)
  have h2' := h2.fr f1' (fun e => hb e.symm)
  obtain ⟨d0, d1, d2, d3⟩ := set4_cells (Y := set4 Y b1 v0 v1 v2 v3) y0 y1 y2 y3 h2'.1 h2'.2.1 h2'.2.2.1 h2'.2.2.2.1
  have f2 : Fr (fun k => k = b1 ∨ k = b2) (set4 Y b1 v0 v1 v2 v3) (set4 (set4 Y b1 v0 v1 v2 v3) b2 y0 y1 y2 y3) := Fr.of_grown (set4_grown _ _ _ _ _ _) (fun k e => by cases e; exact .inr rfl)
  have f2' : Fr (fun k => k = b2) (set4 Y b1 v0 v1 v2 v3) (set4 (set4 Y b1 v0 v1 v2 v3) b2 y0 y1 y2 y3) := Fr.of_grown (set4_grown _ _ _ _ _ _) (fun k e => by cases e; rfl)
  intro X
  have e : X = (set4 (set4 Y b1 v0 v1 v2 v3) b2 y0 y1 y2 y3).drew := rfl
  clear_value X
  subst e
  exact ⟨drewc (f2'.cell hb c0), drewc (f2'.cell hb c1), drewc (f2'.cell hb c2), drewc (f2'.cell hb c3), drewc d0, drewc d1, drewc d2, drewc d3, (f1.trans f2).trans (Fr.drew _)⟩
theorem keep4 {Y : World} {b c i : Nat} {v0 v1 v2 v3 u : Value} (hb : ¬ c = b) (h : Y.cell? ⟨c, i, none⟩ = some u) : ((((Y.setCell ⟨b, 0, none⟩ v0).setCell ⟨b, 1, none⟩ v1).setCell ⟨b, 2, none⟩ v2).setCell ⟨b, 3, none⟩ v3).cell? ⟨c, i, none⟩ = some u :=
  Fr.cell (M := fun k => k = b) (Fr.of_grown (set4_grown Y b v0 v1 v2 v3) (fun k e => by cases e; rfl)) hb h


set_option maxRecDepth 100000 in
set_option maxHeartbeats 8000000 in
theorem drawInstanceOf (v : Value) (w : World) (hv : BytesAt w v) : Calls Try.prog 26 #[v] w (TmOut2 w) := by
  have hb1 := BoxT.new w (.int .i64 0) (.int .i64 0) (.string ⟨#[]⟩) (.slice none 0 0) 29 rfl
  have hb2 := BoxT.new (w.alloc (.cells #[.int .i64 0, .int .i64 0, .string ⟨#[]⟩, .slice none 0 0] 29)) (.int .i64 0) (.int .i64 0) (.string ⟨#[]⟩) (.slice none 0 0) 29 (b := w.heap.size + 1) (by simp)
  have e02 := (Ext.alloc w (.cells #[.int .i64 0, .int .i64 0, .string ⟨#[]⟩, .slice none 0 0] 29)).trans (Ext.alloc _ (.cells #[.int .i64 0, .int .i64 0, .string ⟨#[]⟩, .slice none 0 0] 29))
  have B1 := Lib.hid (hb1.ext (Ext.alloc _ (.cells #[.int .i64 0, .int .i64 0, .string ⟨#[]⟩, .slice none 0 0] 29)))
  have B2 := Lib.hid hb2
  have HV := Lib.hid (hv.ext e02)
  have E02 := Lib.hid e02
  clear hb1 hb2 e02
  obtain ⟨a, len, cap, rfl, _⟩ := hv
  go_enter Try.func26, Try.ntmps26
  go_wp2_with fail
  refine (specl3Two _ _ HV.out).mono ?_
  rintro e w1 ⟨t, u, v1, v2, rfl, hv1, hv2, e1⟩
  obtain ⟨a1, c1, rfl⟩ := at_form hv1
  obtain ⟨a2, c2, rfl⟩ := at_form hv2
  have s1 : w.heap.size + 2 ≤ w1.heap.size := by have := Below.size e1; simpa using this
  have ea := (Ext.alloc w1 (.cells #[.int .i64 t.kind, .int .i64 t.n, .string t.name, .slice a1 t.kids.length c1] 29)).trans (Ext.alloc _ (.cells #[.int .i64 u.kind, .int .i64 u.n, .string u.name, .slice a2 u.kids.length c2] 29))
  have T := Lib.hid ((BoxT.new w1 (.int .i64 t.kind) (.int .i64 t.n) (.string t.name) (.slice a1 t.kids.length c1) 29 rfl).ext (Ext.alloc _ (.cells #[.int .i64 u.kind, .int .i64 u.n, .string u.name, .slice a2 u.kids.length c2] 29)))
  have U := Lib.hid (BoxT.new (w1.alloc (.cells #[.int .i64 t.kind, .int .i64 t.n, .string t.name, .slice a1 t.kids.length c1] 29)) (.int .i64 u.kind) (.int .i64 u.n) (.string u.name) (.slice a2 u.kids.length c2) 29 (b := w1.heap.size + 1) (by simp))
  have HB1 := Lib.hid ((B1.out.ext e1).ext ea)
  have HB2 := Lib.hid ((B2.out.ext e1).ext ea)
  have V1 := Lib.hid (Tm.at_ext ea hv1)
  have V2 := Lib.hid (Tm.at_ext ea hv2)
  have E1 := Lib.hid ((E02.out.trans e1).trans ea)
  clear hv1 hv2 e1 B1 B2 HV ea
  go_wp2_with fail
  obtain ⟨w2, hw2⟩ : ∃ x, x = (w1.alloc (.cells #[.int .i64 t.kind, .int .i64 t.n, .string t.name, .slice a1 t.kids.length c1] 29)).alloc (.cells #[.int .i64 u.kind, .int .i64 u.n, .string u.name, .slice a2 u.kids.length c2] 29) := ⟨_, rfl⟩
  rw [← hw2] at T U HB1 HB2 V1 V2 E1 ⊢
  clear hw2
  obtain ⟨g0, g1, g2, g3, g4, g5, g6, g7⟩ := HB1.out
  obtain ⟨q0, q1, q2, q3, q4, q5, q6, q7⟩ := HB2.out
  obtain ⟨t0, t1, t2, t3, _, _, _, _⟩ := T.out
  obtain ⟨u0, u1, u2, u3, _, _, _, _⟩ := U.out
  have m1 : ¬ w1.heap.size = w.heap.size := by omega
  have m2 : ¬ w1.heap.size = w.heap.size + 1 := by omega
  have m3 : ¬ w1.heap.size + 1 = w.heap.size := by omega
  have m4 : ¬ w1.heap.size + 1 = w.heap.size + 1 := by omega
  have d0 : w2.drew.cell? _ = _ := t0
  have d1 : w2.drew.cell? _ = _ := t1
  have d2 : w2.drew.cell? _ = _ := t2
  have d3 : w2.drew.cell? _ = _ := t3
  have r0 : w2.drew.cell? _ = _ := u0
  have r1 : w2.drew.cell? _ = _ := u1
  have r2 : w2.drew.cell? _ = _ := u2
  have r3 : w2.drew.cell? _ = _ := u3
  go_region_held3 (fun w' => w'.cell? ⟨w1.heap.size, 0, none⟩ = some (.int .i64 t.kind) ∧ w'.cell? ⟨w1.heap.size, 1, none⟩ = some (.int .i64 t.n) ∧ w'.cell? ⟨w1.heap.size, 2, none⟩ = some (.string t.name) ∧ w'.cell? ⟨w1.heap.size, 3, none⟩ = some (.slice a1 t.kids.length c1) ∧ w'.cell? ⟨(w1.heap.size + 1), 0, none⟩ = some (.int .i64 u.kind) ∧ w'.cell? ⟨(w1.heap.size + 1), 1, none⟩ = some (.int .i64 u.n) ∧ w'.cell? ⟨(w1.heap.size + 1), 2, none⟩ = some (.string u.name) ∧ w'.cell? ⟨(w1.heap.size + 1), 3, none⟩ = some (.slice a2 u.kids.length c2))
    (((try dsimp only); (try (refine ⟨?_, ?_, ?_, ?_, ?_, ?_, ?_, ?_⟩)) <;> first | with_reducible assumption | (with_reducible (apply keep4; assumption; assumption)) | (with_reducible (apply keep4; assumption; apply keep4; assumption; assumption)) | (with_reducible (apply drewc; apply keep4; assumption; assumption)) | (with_reducible (apply drewc; apply keep4; assumption; apply keep4; assumption; assumption)) | fail))
    (fail)
  all_goals
    have H := set44 (v0 := .int .i64 u.kind) (v1 := .int .i64 u.n) (v2 := .string u.name) (v3 := .slice a2 u.kids.length c2) (y0 := .int .i64 t.kind) (y1 := .int .i64 t.n) (y2 := .string t.name) (y3 := .slice a1 t.kids.length c1) (show w.heap.size ≠ w.heap.size + 1 by omega) HB1.out HB2.out
    obtain ⟨X, hXe⟩ : ∃ X, X = ((((((((w2.setCell ⟨w.heap.size, 0, none⟩ (.int .i64 u.kind)).setCell ⟨w.heap.size, 1, none⟩ (.int .i64 u.n)).setCell ⟨w.heap.size, 2, none⟩ (.string u.name)).setCell ⟨w.heap.size, 3, none⟩ (.slice a2 u.kids.length c2)).setCell ⟨w.heap.size + 1, 0, none⟩ (.int .i64 t.kind)).setCell ⟨w.heap.size + 1, 1, none⟩ (.int .i64 t.n)).setCell ⟨w.heap.size + 1, 2, none⟩ (.string t.name)).setCell ⟨w.heap.size + 1, 3, none⟩ (.slice a1 t.kids.length c1)).drew := ⟨_, rfl⟩
    rw [← hXe] at H ⊢
    clear hXe
    obtain ⟨n0, n1, n2, n3, n4, n5, n6, n7, hX⟩ := H
    go_wp2_with fail
    refine ret44 (p1 := 2) (p2 := 3) (T := 29) (b1 := w.heap.size) (b2 := w.heap.size + 1) (by kernel_rfl) (fun _ => by kernel_rfl) (fun _ => by kernel_rfl) rfl rfl rfl n0 n1 n2 n3 n4 n5 n6 n7 ?_
    have hag := hX.agree (S := fun b => w.heap.size + 2 ≤ b) (fun k hk h => by omega)
    exact ⟨u, t, _, _, rfl, Tm.at_mono (fun b h => by omega) hag (Tm.at_mono (fun b h => by simp at h; omega) (Agree.refl _) V2.out), Tm.at_mono (fun b h => by omega) hag (Tm.at_mono (fun b h => by simp at h; omega) (Agree.refl _) V1.out), ((Fr.of_ext E1.out).trans (hX.mono (fun k _ h => show w.heap.size ≤ k by omega))).toExt (fun k hk hm => by omega)⟩

end Go.Proofs.Yteplfajhmpmklaa
