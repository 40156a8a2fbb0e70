/-
  The draws of two terms: l3Two, DrawVariantTerms and those that call l3Two.
-/
import Derived.Test.YtdelhgodhkbjdaaMg53
import Derived.Test.YtdelhgodhkbjdaaMg54
namespace Go.Proofs.Ytdelhgodhkbjdaa
open Go.RowKit
set_option linter.unusedVariables false

/-- three bindings, new -/
theorem bd_new3 {w : World} {x1 x2 x3 : Tm} {a1 a2 a3 : Option Addr} {c1 c2 c3 T : Nat} {cs : Array Value}
    (h1 : Tm.at (fun _ => True) w x1 (.agg #[.int .i64 x1.kind, .int .i64 x1.n, .string x1.name, .slice a1 x1.kids.length c1])) (h2 : Tm.at (fun _ => True) w x2 (.agg #[.int .i64 x2.kind, .int .i64 x2.n, .string x2.name, .slice a2 x2.kids.length c2]))
    (h3 : Tm.at (fun _ => True) w x3 (.agg #[.int .i64 x3.kind, .int .i64 x3.n, .string x3.name, .slice a3 x3.kids.length c3]))
    (hcs : cs = #[.int .i64 0, .int .i64 x1.kind, .int .i64 x1.n, .string x1.name, .slice a1 x1.kids.length c1, .int .i64 1, .int .i64 x2.kind, .int .i64 x2.n, .string x2.name, .slice a2 x2.kids.length c2, .int .i64 2, .int .i64 x3.kind, .int .i64 x3.n, .string x3.name, .slice a3 x3.kids.length c3]) :
    Bd.sl (fun _ => True) (w.alloc (.cells cs T)) [⟨0, x1⟩, ⟨1, x2⟩, ⟨2, x3⟩] (.slice (some ⟨w.heap.size, 0, none⟩) 3 3) := by
  have c : ∀ (j : Nat) (x : Value), cs[j]? = some x → (w.alloc (.cells cs T)).cell? ⟨w.heap.size, j, none⟩ = some x := fun j x h => by
    have := cell_new w cs T j x h
    rwa [Nat.zero_add] at this
  have k1 := Tm.at_iff.1 (Tm.at_ext (Ext.alloc w (.cells cs T)) h1)
  have k2 := Tm.at_iff.1 (Tm.at_ext (Ext.alloc w (.cells cs T)) h2)
  have k3 := Tm.at_iff.1 (Tm.at_ext (Ext.alloc w (.cells cs T)) h3)
  obtain ⟨n1, s1, e1, l1⟩ := k1
  obtain ⟨n2, s2, e2, l2⟩ := k2
  obtain ⟨n3, s3, e3, l3⟩ := k3
  simp at e1 e2 e3
  subst e1 e2 e3
  have r1 : Bd.cells (fun _ => True) (w.alloc (.cells cs T)) w.heap.size 0 ⟨0, x1⟩ := ⟨c 0 _ (by rw [hcs]; rfl), Tm.cells_iff.2 ⟨_, c 1 _ (by rw [hcs]; rfl), c 2 _ (by rw [hcs]; rfl), c 3 _ (by rw [hcs]; rfl), c 4 _ (by rw [hcs]; rfl), n1, l1⟩⟩
  have r2 : Bd.cells (fun _ => True) (w.alloc (.cells cs T)) w.heap.size 5 ⟨1, x2⟩ := ⟨c 5 _ (by rw [hcs]; rfl), Tm.cells_iff.2 ⟨_, c 6 _ (by rw [hcs]; rfl), c 7 _ (by rw [hcs]; rfl), c 8 _ (by rw [hcs]; rfl), c 9 _ (by rw [hcs]; rfl), n2, l2⟩⟩
  have r3 : Bd.cells (fun _ => True) (w.alloc (.cells cs T)) w.heap.size 10 ⟨2, x3⟩ := ⟨c 10 _ (by rw [hcs]; rfl), Tm.cells_iff.2 ⟨_, c 11 _ (by rw [hcs]; rfl), c 12 _ (by rw [hcs]; rfl), c 13 _ (by rw [hcs]; rfl), c 14 _ (by rw [hcs]; rfl), n3, l3⟩⟩
  exact ⟨_, 3, rfl, by simp, by decide, by simp, .inr ⟨w.heap.size, 0, rfl, trivial, r1, r2, r3, trivial⟩⟩
theorem BoxT.set4 {w : World} {b : Nat} {v0 v1 v2 v3 : Value} (h : BoxT w b v0 v1 v2 v3) (u0 u1 u2 u3 : Value) : BoxT ((((w.setCell ⟨b, 0, none⟩ u0).setCell ⟨b, 1, none⟩ u1).setCell ⟨b, 2, none⟩ u2).setCell ⟨b, 3, none⟩ u3) b u0 u1 u2 u3 := by
  obtain ⟨h0, h1, h2, h3, f0, f1, f2, f3⟩ := h
  obtain ⟨c0, c1, c2, c3⟩ := set4_cells (Y := w) (b := b) u0 u1 u2 u3 h0 h1 h2 h3
  refine ⟨c0, c1, c2, c3, ?_, ?_, ?_, ?_⟩
  · rw [World.frozen?_setCell, World.frozen?_setCell, World.frozen?_setCell, World.frozen?_setCell]; exact f0
  · rw [World.frozen?_setCell, World.frozen?_setCell, World.frozen?_setCell, World.frozen?_setCell]; exact f1
  · rw [World.frozen?_setCell, World.frozen?_setCell, World.frozen?_setCell, World.frozen?_setCell]; exact f2
  · rw [World.frozen?_setCell, World.frozen?_setCell, World.frozen?_setCell, World.frozen?_setCell]; exact f3

set_option maxRecDepth 100000 in
set_option maxHeartbeats 8000000 in
theorem specl3Two (v : Value) (w : World) (hv : BytesAt w v) : Calls Try.prog 58 #[v] w (TmOut2 w) := by
  have hb1 := BoxT.new w (.int .i64 0) (.int .i64 0) (.string ⟨#[]⟩) (.slice none 0 0) 25 rfl
  have hb2 := BoxT.new (w.alloc (.cells #[.int .i64 0, .int .i64 0, .string ⟨#[]⟩, .slice none 0 0] 25)) (.int .i64 0) (.int .i64 0) (.string ⟨#[]⟩) (.slice none 0 0) 25 (b := w.heap.size + 1) (by simp)
  have e02 := (Ext.alloc w (.cells #[.int .i64 0, .int .i64 0, .string ⟨#[]⟩, .slice none 0 0] 25)).trans (Ext.alloc _ (.cells #[.int .i64 0, .int .i64 0, .string ⟨#[]⟩, .slice none 0 0] 25))
  have B1 := Lib.hid (hb1.ext (Ext.alloc _ (.cells #[.int .i64 0, .int .i64 0, .string ⟨#[]⟩, .slice none 0 0] 25)))
  have B2 := Lib.hid hb2
  have HV := Lib.hid (hv.ext e02)
  have E02 := Lib.hid e02
  clear hb1 hb2 e02
  have HV0 := Lib.hid hv
  obtain ⟨a, len, cap, rfl, _⟩ := hv
  go_enter Try.func58, Try.ntmps58
  go_wp2_with fail
  refine (specl18Open _ _ HV.out).mono ?_
  rintro e w1 ⟨r, rfl, hr, hrd, e1⟩
  have hr : w.heap.size + 2 ≤ r := by simp at hr; omega
  have hlt := hrd.lt
  have n1 : w.heap.size ≠ r := by omega
  have n2 : w.heap.size + 1 ≠ r := by omega
  have R := Lib.hid hrd
  have HR0 := Lib.hid hrd
  have B1 := Lib.hid (B1.out.ext e1)
  have B2 := Lib.hid (B2.out.ext e1)
  have E1 := Lib.hid (E02.out.trans e1)
  clear hrd e1 HV
  go_wp2_with fail
  refine (specl1Some r 0 _ (by omega) R.out).mono ?_
  rintro e w2 ⟨t, v2, p2, rfl, hv2, hd2, hr2, hp2, he2⟩
  have hp2 : p2 ≤ 161 := by omega
  obtain ⟨a2, c2, rfl⟩ := at_form hv2
  have s2 := he2.1.size
  have HD := Lib.hid hd2
  have ea := Ext.alloc w2 (.cells #[.int .i64 t.kind, .int .i64 t.n, .string t.name, .slice a2 t.kids.length c2] 25)
  have A := Lib.hid (BoxT.new w2 (.int .i64 t.kind) (.int .i64 t.n) (.string t.name) (.slice a2 t.kids.length c2) 25 rfl)
  have R := Lib.hid (hr2.ext ea)
  have V := Lib.hid (Tm.at_ext ea (Tm.at_bound hv2))
  have B1 := Lib.hid ((B1.out.extR he2 n1).ext ea)
  have B2 := Lib.hid ((B2.out.extR he2 n2).ext ea)
  have E := Lib.hid (he2.trans (ExtR.of_ext ea))
  have nA : w2.heap.size ≠ r := by omega
  have m1 : ¬ w2.heap.size = w.heap.size := by omega
  have m2 : ¬ w2.heap.size = w.heap.size + 1 := by omega
  clear hv2 hr2 he2 ea hd2
  go_wp2_with fail
  refine (specl1Draw 1 2 r p2 _ (by omega) (by omega) (by omega) (by show p2 + 16 ≤ _; omega) R.out).mono ?_
  rintro e w3 ⟨x1, v3, p3, rfl, hv3, hd3, hr3, hp3, he3⟩
  have hp3' : p3 ≤ p2 + 16 := hp3
  obtain ⟨a3, c3, rfl⟩ := at_form hv3
  have s3 := he3.1.size
  have s3 : w2.heap.size + 1 ≤ w3.heap.size := by simpa using s3
  have R := Lib.hid hr3
  have A := Lib.hid (A.out.extR he3 nA)
  have B1 := Lib.hid (B1.out.extR he3 n1)
  have B2 := Lib.hid (B2.out.extR he3 n2)
  have V := Lib.hid (Tm.at_mono (fun b h => h) (he3.agree (S := (fun b => w1.heap.size ≤ b ∧ b < w2.heap.size)) (by omega)) V.out)
  have E := Lib.hid (E.out.trans he3)
  have X1 : Hid (Tm.at (fun b => w2.heap.size + 1 ≤ b ∧ b < w3.heap.size) w3 x1 (.agg #[.int .i64 x1.kind, .int .i64 x1.n, .string x1.name, .slice a3 x1.kids.length c3])) := Lib.hid (Tm.at_mono (fun b h => by simp at h; omega) (Agree.refl _) (Tm.at_bound hv3))
  have HD1 := Lib.hid hd3
  clear hv3 hr3 he3 hp3 hd3
  go_wp2_with fail
  refine (specl1Draw 1 1 r p3 _ (by omega) (by omega) (by omega) (by show p3 + 16 ≤ _; omega) R.out).mono ?_
  rintro e w4 ⟨x2, v4, p4, rfl, hv4, hd4, hr4, hp4, he4⟩
  have hp4' : p4 ≤ p3 + 16 := hp4
  obtain ⟨a4, c4, rfl⟩ := at_form hv4
  have s4 := he4.1.size
  have R := Lib.hid hr4
  have A := Lib.hid (A.out.extR he4 nA)
  have B1 := Lib.hid (B1.out.extR he4 n1)
  have B2 := Lib.hid (B2.out.extR he4 n2)
  have V := Lib.hid (Tm.at_mono (fun b h => h) (he4.agree (S := (fun b => w1.heap.size ≤ b ∧ b < w2.heap.size)) (by omega)) V.out)
  have X1 := Lib.hid (Tm.at_mono (fun b h => h) (he4.agree (S := (fun b => w2.heap.size + 1 ≤ b ∧ b < w3.heap.size)) (by omega)) X1.out)
  have E := Lib.hid (E.out.trans he4)
  have X2 : Hid (Tm.at (fun b => w3.heap.size ≤ b ∧ b < w4.heap.size) w4 x2 (.agg #[.int .i64 x2.kind, .int .i64 x2.n, .string x2.name, .slice a4 x2.kids.length c4])) := Lib.hid (Tm.at_mono (fun b h => by omega) (Agree.refl _) (Tm.at_bound hv4))
  have HD2 := Lib.hid hd4
  clear hv4 hr4 he4 hp4 hd4
  go_wp2_with fail
  refine (specl1Draw 1 2 r p4 _ (by omega) (by omega) (by omega) (by show p4 + 16 ≤ _; omega) R.out).mono ?_
  rintro e w5 ⟨x3, v5, p5, rfl, hv5, hd5, hr5, hp5, he5⟩
  have hp5' : p5 ≤ p4 + 16 := hp5
  obtain ⟨a5, c5, rfl⟩ := at_form hv5
  have s5 := he5.1.size
  have R := Lib.hid hr5
  have A := Lib.hid (A.out.extR he5 nA)
  have B1 := Lib.hid (B1.out.extR he5 n1)
  have B2 := Lib.hid (B2.out.extR he5 n2)
  have V := Lib.hid (Tm.at_mono (fun b h => h) (he5.agree (S := (fun b => w1.heap.size ≤ b ∧ b < w2.heap.size)) (by omega)) V.out)
  have X1 := Lib.hid (Tm.at_mono (fun b h => h) (he5.agree (S := (fun b => w2.heap.size + 1 ≤ b ∧ b < w3.heap.size)) (by omega)) X1.out)
  have X2 := Lib.hid (Tm.at_mono (fun b h => h) (he5.agree (S := (fun b => w3.heap.size ≤ b ∧ b < w4.heap.size)) (by omega)) X2.out)
  have E := Lib.hid (E.out.trans he5)
  have X3 : Hid (Tm.at (fun b => w4.heap.size ≤ b ∧ b < w5.heap.size) w5 x3 (.agg #[.int .i64 x3.kind, .int .i64 x3.n, .string x3.name, .slice a5 x3.kids.length c5])) := Lib.hid (Tm.at_mono (fun b h => by omega) (Agree.refl _) (Tm.at_bound hv5))
  have HD3 := Lib.hid hd5
  clear hv5 hr5 he5 hp5 hd5
  obtain ⟨t0, t1, t2, t3, _, _, _, _⟩ := A.out
  have hA := A.out.lt
  obtain ⟨u, hu⟩ : ∃ u, applyS [⟨0, x1⟩, ⟨1, x2⟩, ⟨2, x3⟩] t = u := ⟨_, rfl⟩
  have HU := Lib.hid hu
  have HNU : Hid (NB u) := Lib.hid (by
    rw [← HU.out]
    refine nb_apply (fun b hb => ?_) t (nb_drawn 4 t HD.out)
    simp at hb
    rcases hb with rfl | rfl | rfl
    · exact nb_drawn 2 x1 HD1.out
    · exact nb_drawn 2 x2 HD2.out
    · exact nb_drawn 2 x3 HD3.out)
  clear hu HD1 HD2 HD3 HD
  go_wp2_with fail
  refine (specl3Apply [⟨0, x1⟩, ⟨1, x2⟩, ⟨2, x3⟩] _ t (Nat.le_refl _) _ _ (fun _ => True) (fun _ => True) _ (Tm.at_mono (fun _ _ => trivial) (Agree.refl _) (Tm.at_ext (Ext.alloc _ _) V.out)) (bd_new3 (Tm.at_mono (fun _ _ => trivial) (Agree.refl _) X1.out) (Tm.at_mono (fun _ _ => trivial) (Agree.refl _) X2.out) (Tm.at_mono (fun _ _ => trivial) (Agree.refl _) X3.out) rfl)).mono ?_
  rw [HU.out]
  rintro e w6 ⟨a6, c6, rfl, ho, q⟩
  have q := (Ext.alloc _ _).trans q
  have hv6 := Tm.at_bound (own_flat _ _ _ ho)
  have s6 : w5.heap.size ≤ w6.heap.size := Below.size q
  have ea := Ext.alloc w6 (.cells #[.int .i64 u.kind, .int .i64 u.n, .string u.name, .slice a6 u.kids.length c6] 25)
  clear t0 t1 t2 t3 X1 X2 X3 HU
  have qa := q.trans ea
  have R := Lib.hid (R.out.ext qa)
  have A := Lib.hid (A.out.ext qa)
  have B1 := Lib.hid (B1.out.ext qa)
  have B2 := Lib.hid (B2.out.ext qa)
  have V := Lib.hid (Tm.at_ext qa V.out)
  have E := Lib.hid (E.out.trans (ExtR.of_ext qa))
  have B := Lib.hid (BoxT.new w6 (.int .i64 u.kind) (.int .i64 u.n) (.string u.name) (.slice a6 u.kids.length c6) 25 rfl)
  have U : Hid (Tm.at (fun b => w5.heap.size ≤ b ∧ b ≠ w6.heap.size) _ u (.agg #[.int .i64 u.kind, .int .i64 u.n, .string u.name, .slice a6 u.kids.length c6])) := Lib.hid (Tm.at_ext ea (Tm.at_mono (fun b h => by simp at h; omega) (Agree.refl _) hv6))
  have nB : w6.heap.size ≠ r := by omega
  have m3 : ¬ w6.heap.size = w.heap.size := by omega
  have m4 : ¬ w6.heap.size = w.heap.size + 1 := by omega
  have m5 : ¬ w6.heap.size = w2.heap.size := by omega
  have m6 : ¬ w2.heap.size = w6.heap.size := by omega
  clear q qa ho hv6 ea hA
  go_wp2_with fail
  refine (rdpick r p5 4 _ (by omega) (by decide) (by decide) R.out).mono ?_
  rintro e w7 ⟨y, rfl, hy0, hy1, hr7, he7⟩
  have s7 : w6.heap.size + 1 ≤ w7.heap.size := by have := he7.1.size; simp at this; omega
  have R := Lib.hid hr7
  have A := Lib.hid (A.out.extR he7 nA)
  have B1 := Lib.hid (B1.out.extR he7 n1)
  have B2 := Lib.hid (B2.out.extR he7 n2)
  have B := Lib.hid (B.out.extR he7 nB)
  have V := Lib.hid (Tm.at_mono (fun b h => h) (he7.agree (S := (fun b => w1.heap.size ≤ b ∧ b < w2.heap.size)) (by omega)) V.out)
  have U := Lib.hid (Tm.at_mono (fun b h => h) (he7.agree (S := (fun b => w5.heap.size ≤ b ∧ b ≠ w6.heap.size)) (by omega)) U.out)
  have E := Lib.hid (E.out.trans he7)
  clear hr7 he7
  obtain rfl | rfl | hy : y = 0 ∨ y = 1 ∨ 2 ≤ y := by omega
  · go_wp2_with fail
    refine (specl1Some r (p5 + 1) _ (by omega) R.out).mono ?_
    rintro e w8 ⟨x7, v8, p8, rfl, hv8, _, hr8, hp8, he8⟩
    obtain ⟨a8, c8, rfl⟩ := at_form hv8
    have s8 := he8.1.size
    have R := Lib.hid hr8
    have A := Lib.hid (A.out.extR he8 nA)
    have B1 := Lib.hid (B1.out.extR he8 n1)
    have B2 := Lib.hid (B2.out.extR he8 n2)
    have B := Lib.hid (B.out.extR he8 nB)
    have V := Lib.hid (Tm.at_mono (fun b h => h) (he8.agree (S := (fun b => w1.heap.size ≤ b ∧ b < w2.heap.size)) (by omega)) V.out)
    have E := Lib.hid (E.out.trans he8)
    have U := Lib.hid hv8
    obtain ⟨d0, d1, d2, d3, d4, d5, d6, d7⟩ := B.out
    clear hv8 hr8 he8
    go_wp2_with fail
    obtain ⟨w9, hwn⟩ : ∃ z, z = ((((w8.setCell ⟨w6.heap.size, 0, none⟩ (.int .i64 x7.kind)).setCell ⟨w6.heap.size, 1, none⟩ (.int .i64 x7.n)).setCell ⟨w6.heap.size, 2, none⟩ (.string x7.name)).setCell ⟨w6.heap.size, 3, none⟩ (.slice a8 x7.kids.length c8)) := ⟨_, rfl⟩
    rw [← hwn]
    have F : Fr (fun k => k = w6.heap.size) w8 w9 := by rw [hwn]; exact Fr.of_grown (set4_grown _ _ _ _ _ _) (fun k e => by cases e; rfl)
    have sB := B.out.lt
    have R : Hid (Rd w9 r _) := Lib.hid (Rd.fr HR0.out E.out R.out F (fun k _ h => by omega))
    have A := Lib.hid (A.out.fr F m6)
    have B1 := Lib.hid (B1.out.fr F (fun h => m3 h.symm))
    have B2 := Lib.hid (B2.out.fr F (fun h => m4 h.symm))
    have B : Hid (BoxT w9 w6.heap.size (.int .i64 x7.kind) (.int .i64 x7.n) (.string x7.name) (.slice a8 x7.kids.length c8)) := Lib.hid (by rw [hwn]; exact BoxT.set4 B.out _ _ _ _)
    have V := Lib.hid (F.at V.out (fun k h e => by omega))
    have U := Lib.hid (F.at U.out (fun k h e => by omega))
    have E := Lib.hid (E.out.fr F (fun k _ h => by omega))
    have sn := F.size
    clear F hwn d0 d1 d2 d3 d4 d5 d6 d7
    obtain ⟨t0, t1, t2, t3, _, _, _, _⟩ := A.out
    obtain ⟨d0, d1, d2, d3, _, _, _, _⟩ := B.out
    have HM1 := Lib.hid (fun w' (h : Rd w' r p8) (e : ExtR r w9 w') => specl1Mutate r (p8) t _ _ w' (by omega) h (Tm.at_mono (fun b h => h) (e.agree (S := (fun b => w1.heap.size ≤ b ∧ b < w2.heap.size)) (by omega)) V.out))
    have HM2 := Lib.hid (fun w' p' (hp : p' ≤ p8 + 10) (h : Rd w' r p') (e : ExtR r w9 w') => specl1Mutate r p' x7 _ _ w' (by omega) h (Tm.at_mono (fun b h => h) (e.agree (S := (fun b => w7.heap.size ≤ b)) (by omega)) U.out))
    have rlt := R.out.lt
    go_region_held3 (fun w' => w'.cell? ⟨w2.heap.size, 0, none⟩ = some (.int .i64 t.kind) ∧ w'.cell? ⟨w2.heap.size, 1, none⟩ = some (.int .i64 t.n) ∧ w'.cell? ⟨w2.heap.size, 2, none⟩ = some (.string t.name) ∧ w'.cell? ⟨w2.heap.size, 3, none⟩ = some (.slice a2 t.kids.length c2) ∧ w'.cell? ⟨w6.heap.size, 0, none⟩ = some (.int .i64 x7.kind) ∧ w'.cell? ⟨w6.heap.size, 1, none⟩ = some (.int .i64 x7.n) ∧ w'.cell? ⟨w6.heap.size, 2, none⟩ = some (.string x7.name) ∧ w'.cell? ⟨w6.heap.size, 3, none⟩ = some (.slice a8 x7.kids.length c8))
      ((refine ⟨?_, ?_, ?_, ?_, ?_, ?_, ?_, ?_⟩ <;> first | with_reducible assumption | (with_reducible (apply ExtR.cell; assumption; assumption; assumption)) | go_simp))
      ((first
        | (go_at_call_of 36 (Value.string t.name); refine (HM1.out _ ?_ ?_).mono ?_; (first | exact R.out | exact R.out.ext (Ext.drew _)); (first | exact ExtR.refl _ _ | exact ExtR.of_ext (Ext.drew _)); rintro e wa ⟨x5, va, pa, rfl, hva, _, hra, hpa, hea⟩; (try replace hea := (ExtR.of_ext (Ext.drew _)).trans hea); obtain ⟨aa, ca, rfl⟩ := at_form hva; have y0 := hea.cell nA t0; have y1 := hea.cell nA t1; have y2 := hea.cell nA t2; have y3 := hea.cell nA t3; have z0 := hea.cell nB d0; have z1 := hea.cell nB d1; have z2 := hea.cell nB d2; have z3 := hea.cell nB d3)
        | (go_at_call 36; refine (HM2.out _ pa ?_ ?_ ?_).mono ?_; omega; (first | exact hra | exact hra.ext (Ext.drew _)); (first | exact hea | exact hea.trans (ExtR.of_ext (Ext.drew _))); rintro e wb ⟨x6, vb, pb, rfl, hvb, _, hrb, hpb, heb⟩; (try replace heb := (ExtR.of_ext (Ext.drew _)).trans heb); obtain ⟨ab, cb, rfl⟩ := at_form hvb; have k0 := heb.cell nA y0; have k1 := heb.cell nA y1; have k2 := heb.cell nA y2; have k3 := heb.cell nA y3; have l0 := heb.cell nB z0; have l1 := heb.cell nB z1; have l2 := heb.cell nB z2; have l3 := heb.cell nB z3; obtain ⟨g0, g1, g2, g3, g4, g5, g6, g7⟩ := (B1.out.extR hea n1).extR heb n1; obtain ⟨q0, q1, q2, q3, q4, q5, q6, q7⟩ := (B2.out.extR hea n2).extR heb n2)
        | fail))
    all_goals go_wp2_with fail
    all_goals
      have hek := hea.trans heb
      refine ret44_set (p1 := 2) (p2 := 3) (T := 25) (b1 := w.heap.size) (b2 := w.heap.size + 1) (by kernel_rfl) (fun _ => by kernel_rfl) (fun _ => by kernel_rfl) rfl rfl rfl (by omega) (B1.out.extR hek n1) (B2.out.extR hek n2) ?_
      intro X hX
      have E' := ExtR.below E1.out (E.out.trans hek) (by omega)
      have sa := hea.1.size
      have sk := E.out.1.size
      refine ⟨x5, x6, _, _, rfl, Tm.at_mono (fun b h => ?_) (hX.agree (S := fun b => w9.heap.size ≤ b) (fun k hk h => by omega)) (Tm.at_mono (fun b h => h) (heb.agree (S := fun b => w9.heap.size ≤ b) (by omega)) hva), Tm.at_mono (fun b h => ?_) (hX.agree (S := fun b => wa.heap.size ≤ b) (fun k hk h => by omega)) hvb, ((Fr.of_ext E').trans (hX.mono (fun k _ h => show w.heap.size ≤ k by omega))).toExt (fun k hk hm => by omega)⟩
      · omega
      · omega
  · obtain ⟨d0, d1, d2, d3, d4, d5, d6, d7⟩ := B.out
    have HPK := Lib.hid (fun w' (h : Rd w' r (p5 + 1)) => rdpick r (p5 + 1) 3 w' (by omega) (by decide) (by decide) h)
    have HSH := Lib.hid (fun (n : Int) (h1 : -25 ≤ n) (h2 : n ≤ 25) w' (e : ExtR r w7 w') => specl3ShiftN n h1 h2 _ u (Nat.le_refl _) _ _ w' HNU.out (Tm.at_mono (fun b h => h) (e.agree (S := (fun b => w5.heap.size ≤ b ∧ b ≠ w6.heap.size)) (by omega)) U.out))
    go_wp2_with fail
    go_region_law (first
      | (go_simp; go_at_call 48; refine (HPK.out _ ?_).mono ?_; (first | exact R.out | exact R.out.ext (Ext.drew _)); rintro e w8 ⟨n, rfl, hn0, hn1, hr8, he8⟩; (try replace he8 := (ExtR.of_ext (Ext.drew _)).trans he8); have z0 := he8.cell nB d0; have z1 := he8.cell nB d1; have z2 := he8.cell nB d2; have z3 := he8.cell nB d3; dsimp only)
      | (go_simp; go_at_call 95; refine (HSH.out _ (by omega) (by omega) _ ?_).mono ?_; (first | exact he8 | exact he8.trans (ExtR.of_ext (Ext.drew _))); rintro e w9 ⟨a9, c9, rfl, ho9, e9⟩; (try replace e9 := Ext.undrew e9); obtain ⟨f0, f1, f2, f3, f4, f5, f6, f7⟩ := (B.out.extR he8 nB).ext e9; dsimp only))
    all_goals
      have s8 := he8.1.size
      have s9 := Below.size e9
      have he9 := he8.trans (ExtR.of_ext e9)
      obtain ⟨x7, hx7⟩ : ∃ x, shiftS n u = x := ⟨_, rfl⟩
      rw [hx7] at ho9 ⊢
      have R := Lib.hid (hr8.ext e9)
      have A := Lib.hid (A.out.extR he9 nA)
      have B1 := Lib.hid (B1.out.extR he9 n1)
      have B2 := Lib.hid (B2.out.extR he9 n2)
      have B := Lib.hid (B.out.extR he9 nB)
      have V := Lib.hid (Tm.at_mono (fun b h => h) (he9.agree (S := (fun b => w1.heap.size ≤ b ∧ b < w2.heap.size)) (by omega)) V.out)
      have E := Lib.hid (E.out.trans he9)
      have U := Lib.hid (own_flat _ _ _ ho9)
      clear ho9 hr8 he8 e9 he9 d0 d1 d2 d3 d4 d5 d6 d7 hx7
      obtain ⟨d0, d1, d2, d3, d4, d5, d6, d7⟩ := B.out
      obtain ⟨wk, hwn⟩ : ∃ z, z = ((((w9.setCell ⟨w6.heap.size, 0, none⟩ (.int .i64 x7.kind)).setCell ⟨w6.heap.size, 1, none⟩ (.int .i64 x7.n)).setCell ⟨w6.heap.size, 2, none⟩ (.string x7.name)).setCell ⟨w6.heap.size, 3, none⟩ (.slice a9 x7.kids.length c9)) := ⟨_, rfl⟩
      rw [← hwn]
      have F : Fr (fun k => k = w6.heap.size) w9 wk := by rw [hwn]; exact Fr.of_grown (set4_grown _ _ _ _ _ _) (fun k e => by cases e; rfl)
      have sB := B.out.lt
      have R : Hid (Rd wk r _) := Lib.hid (Rd.fr HR0.out E.out R.out F (fun k _ h => by omega))
      have A := Lib.hid (A.out.fr F m6)
      have B1 := Lib.hid (B1.out.fr F (fun h => m3 h.symm))
      have B2 := Lib.hid (B2.out.fr F (fun h => m4 h.symm))
      have B : Hid (BoxT wk w6.heap.size (.int .i64 x7.kind) (.int .i64 x7.n) (.string x7.name) (.slice a9 x7.kids.length c9)) := Lib.hid (by rw [hwn]; exact BoxT.set4 B.out _ _ _ _)
      have V := Lib.hid (F.at V.out (fun k h e => by omega))
      have U := Lib.hid (F.at U.out (fun k h e => by omega))
      have E := Lib.hid (E.out.fr F (fun k _ h => by omega))
      have sn := F.size
      clear F hwn d0 d1 d2 d3 d4 d5 d6 d7
      go_wp2_with fail
      obtain ⟨t0, t1, t2, t3, _, _, _, _⟩ := A.out
      obtain ⟨d0, d1, d2, d3, _, _, _, _⟩ := B.out
      have HM1 := Lib.hid (fun w' (h : Rd w' r (p5 + 1 + 1)) (e : ExtR r wk w') => specl1Mutate r ((p5 + 1 + 1)) t _ _ w' (by omega) h (Tm.at_mono (fun b h => h) (e.agree (S := (fun b => w1.heap.size ≤ b ∧ b < w2.heap.size)) (by omega)) V.out))
      have HM2 := Lib.hid (fun w' p' (hp : p' ≤ (p5 + 1 + 1) + 10) (h : Rd w' r p') (e : ExtR r wk w') => specl1Mutate r p' x7 _ _ w' (by omega) h (Tm.at_mono (fun b h => h) (e.agree (S := (fun b => w8.heap.size ≤ b)) (by omega)) U.out))
      have rlt := R.out.lt
      go_region_held3 (fun w' => w'.cell? ⟨w2.heap.size, 0, none⟩ = some (.int .i64 t.kind) ∧ w'.cell? ⟨w2.heap.size, 1, none⟩ = some (.int .i64 t.n) ∧ w'.cell? ⟨w2.heap.size, 2, none⟩ = some (.string t.name) ∧ w'.cell? ⟨w2.heap.size, 3, none⟩ = some (.slice a2 t.kids.length c2) ∧ w'.cell? ⟨w6.heap.size, 0, none⟩ = some (.int .i64 x7.kind) ∧ w'.cell? ⟨w6.heap.size, 1, none⟩ = some (.int .i64 x7.n) ∧ w'.cell? ⟨w6.heap.size, 2, none⟩ = some (.string x7.name) ∧ w'.cell? ⟨w6.heap.size, 3, none⟩ = some (.slice a9 x7.kids.length c9))
        ((refine ⟨?_, ?_, ?_, ?_, ?_, ?_, ?_, ?_⟩ <;> first | with_reducible assumption | (with_reducible (apply ExtR.cell; assumption; assumption; assumption)) | go_simp))
        ((first
          | (go_at_call_of 36 (Value.string t.name); refine (HM1.out _ ?_ ?_).mono ?_; (first | exact R.out | exact R.out.ext (Ext.drew _)); (first | exact ExtR.refl _ _ | exact ExtR.of_ext (Ext.drew _)); rintro e wa ⟨x5, va, pa, rfl, hva, _, hra, hpa, hea⟩; (try replace hea := (ExtR.of_ext (Ext.drew _)).trans hea); obtain ⟨aa, ca, rfl⟩ := at_form hva; have y0 := hea.cell nA t0; have y1 := hea.cell nA t1; have y2 := hea.cell nA t2; have y3 := hea.cell nA t3; have z0 := hea.cell nB d0; have z1 := hea.cell nB d1; have z2 := hea.cell nB d2; have z3 := hea.cell nB d3)
          | (go_at_call 36; refine (HM2.out _ pa ?_ ?_ ?_).mono ?_; omega; (first | exact hra | exact hra.ext (Ext.drew _)); (first | exact hea | exact hea.trans (ExtR.of_ext (Ext.drew _))); rintro e wb ⟨x6, vb, pb, rfl, hvb, _, hrb, hpb, heb⟩; (try replace heb := (ExtR.of_ext (Ext.drew _)).trans heb); obtain ⟨ab, cb, rfl⟩ := at_form hvb; have k0 := heb.cell nA y0; have k1 := heb.cell nA y1; have k2 := heb.cell nA y2; have k3 := heb.cell nA y3; have l0 := heb.cell nB z0; have l1 := heb.cell nB z1; have l2 := heb.cell nB z2; have l3 := heb.cell nB z3; obtain ⟨g0, g1, g2, g3, g4, g5, g6, g7⟩ := (B1.out.extR hea n1).extR heb n1; obtain ⟨q0, q1, q2, q3, q4, q5, q6, q7⟩ := (B2.out.extR hea n2).extR heb n2)
          | fail))
      all_goals go_wp2_with fail
      all_goals
        have hek := hea.trans heb
        refine ret44_set (p1 := 2) (p2 := 3) (T := 25) (b1 := w.heap.size) (b2 := w.heap.size + 1) (by kernel_rfl) (fun _ => by kernel_rfl) (fun _ => by kernel_rfl) rfl rfl rfl (by omega) (B1.out.extR hek n1) (B2.out.extR hek n2) ?_
        intro X hX
        have E' := ExtR.below E1.out (E.out.trans hek) (by omega)
        have sa := hea.1.size
        have sk := E.out.1.size
        refine ⟨x5, x6, _, _, rfl, Tm.at_mono (fun b h => ?_) (hX.agree (S := fun b => wk.heap.size ≤ b) (fun k hk h => by omega)) (Tm.at_mono (fun b h => h) (heb.agree (S := fun b => wk.heap.size ≤ b) (by omega)) hva), Tm.at_mono (fun b h => ?_) (hX.agree (S := fun b => wa.heap.size ≤ b) (fun k hk h => by omega)) hvb, ((Fr.of_ext E').trans (hX.mono (fun k _ h => show w.heap.size ≤ k by omega))).toExt (fun k hk hm => by omega)⟩
        · omega
        · omega
  · have h0 : (y == 0) = false := by simp; omega
    have h1 : (y == 1) = false := by simp; omega
    go_wp2_with fail
    obtain ⟨t0, t1, t2, t3, _, _, _, _⟩ := A.out
    obtain ⟨d0, d1, d2, d3, _, _, _, _⟩ := B.out
    have HM1 := Lib.hid (fun w' (h : Rd w' r (p5 + 1)) (e : ExtR r w7 w') => specl1Mutate r ((p5 + 1)) t _ _ w' (by omega) h (Tm.at_mono (fun b h => h) (e.agree (S := (fun b => w1.heap.size ≤ b ∧ b < w2.heap.size)) (by omega)) V.out))
    have HM2 := Lib.hid (fun w' p' (hp : p' ≤ (p5 + 1) + 10) (h : Rd w' r p') (e : ExtR r w7 w') => specl1Mutate r p' u _ _ w' (by omega) h (Tm.at_mono (fun b h => h) (e.agree (S := (fun b => w5.heap.size ≤ b ∧ b ≠ w6.heap.size)) (by omega)) U.out))
    have rlt := R.out.lt
    go_region_held3 (fun w' => w'.cell? ⟨w2.heap.size, 0, none⟩ = some (.int .i64 t.kind) ∧ w'.cell? ⟨w2.heap.size, 1, none⟩ = some (.int .i64 t.n) ∧ w'.cell? ⟨w2.heap.size, 2, none⟩ = some (.string t.name) ∧ w'.cell? ⟨w2.heap.size, 3, none⟩ = some (.slice a2 t.kids.length c2) ∧ w'.cell? ⟨w6.heap.size, 0, none⟩ = some (.int .i64 u.kind) ∧ w'.cell? ⟨w6.heap.size, 1, none⟩ = some (.int .i64 u.n) ∧ w'.cell? ⟨w6.heap.size, 2, none⟩ = some (.string u.name) ∧ w'.cell? ⟨w6.heap.size, 3, none⟩ = some (.slice a6 u.kids.length c6))
      ((refine ⟨?_, ?_, ?_, ?_, ?_, ?_, ?_, ?_⟩ <;> first | with_reducible assumption | (with_reducible (apply ExtR.cell; assumption; assumption; assumption)) | go_simp))
      ((first
        | (go_at_call_of 36 (Value.string t.name); refine (HM1.out _ ?_ ?_).mono ?_; (first | exact R.out | exact R.out.ext (Ext.drew _)); (first | exact ExtR.refl _ _ | exact ExtR.of_ext (Ext.drew _)); rintro e wa ⟨x5, va, pa, rfl, hva, _, hra, hpa, hea⟩; (try replace hea := (ExtR.of_ext (Ext.drew _)).trans hea); obtain ⟨aa, ca, rfl⟩ := at_form hva; have y0 := hea.cell nA t0; have y1 := hea.cell nA t1; have y2 := hea.cell nA t2; have y3 := hea.cell nA t3; have z0 := hea.cell nB d0; have z1 := hea.cell nB d1; have z2 := hea.cell nB d2; have z3 := hea.cell nB d3)
        | (go_at_call 36; refine (HM2.out _ pa ?_ ?_ ?_).mono ?_; omega; (first | exact hra | exact hra.ext (Ext.drew _)); (first | exact hea | exact hea.trans (ExtR.of_ext (Ext.drew _))); rintro e wb ⟨x6, vb, pb, rfl, hvb, _, hrb, hpb, heb⟩; (try replace heb := (ExtR.of_ext (Ext.drew _)).trans heb); obtain ⟨ab, cb, rfl⟩ := at_form hvb; have k0 := heb.cell nA y0; have k1 := heb.cell nA y1; have k2 := heb.cell nA y2; have k3 := heb.cell nA y3; have l0 := heb.cell nB z0; have l1 := heb.cell nB z1; have l2 := heb.cell nB z2; have l3 := heb.cell nB z3; obtain ⟨g0, g1, g2, g3, g4, g5, g6, g7⟩ := (B1.out.extR hea n1).extR heb n1; obtain ⟨q0, q1, q2, q3, q4, q5, q6, q7⟩ := (B2.out.extR hea n2).extR heb n2)
        | fail))
    all_goals go_wp2_with fail
    all_goals
      have hek := hea.trans heb
      refine ret44_set (p1 := 2) (p2 := 3) (T := 25) (b1 := w.heap.size) (b2 := w.heap.size + 1) (by kernel_rfl) (fun _ => by kernel_rfl) (fun _ => by kernel_rfl) rfl rfl rfl (by omega) (B1.out.extR hek n1) (B2.out.extR hek n2) ?_
      intro X hX
      have E' := ExtR.below E1.out (E.out.trans hek) (by omega)
      have sa := hea.1.size
      have sk := E.out.1.size
      refine ⟨x5, x6, _, _, rfl, Tm.at_mono (fun b h => ?_) (hX.agree (S := fun b => w7.heap.size ≤ b) (fun k hk h => by omega)) (Tm.at_mono (fun b h => h) (heb.agree (S := fun b => w7.heap.size ≤ b) (by omega)) hva), Tm.at_mono (fun b h => ?_) (hX.agree (S := fun b => wa.heap.size ≤ b) (fun k hk h => by omega)) hvb, ((Fr.of_ext E').trans (hX.mono (fun k _ h => show w.heap.size ≤ k by omega))).toExt (fun k hk hm => by omega)⟩
      · omega
      · omega

end Go.Proofs.Ytdelhgodhkbjdaa
