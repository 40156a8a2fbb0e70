/-
  What the reference's DrawClauseSame returns.
-/
import Derived.Test.YtognkaebiafgbaaGreatDoorRows
import Derived.Deep.RegionHeld3
import Derived.ProofKit
import Derived.OpenShut
import Derived.ShutString
import Derived.Test.YtognkaebiafgbaaGreatDoorCards
import Derived.Test.YtognkaebiafgbaaGreatDoorTie
import Derived.LaidMore
import Derived.Lay
import Derived.SevenTiedAt
import Derived.Stop.Joined
import Derived.Stop.LaidErr
import Derived.Lib.LaidTab
import Derived.Test.YtognkaebiafgbaaGreatDoorMs37
import Derived.Test.YtognkaebiafgbaaGreatDoorMs36
import Derived.Test.YtognkaebiafgbaaGreatDoorMs8
import Derived.Test.YtognkaebiafgbaaGreatDoorMs23
namespace Go.Proofs.YtognkaebiafgbaaGreatDoor
open Go.RowKit
set_option linter.unusedVariables false
theorem set5_frw {M : Nat → Prop} (w : World) {b : Nat} (u0 u1 u2 u3 u4 : Value) (hM : M b) : Fr M w (((((w.setCell ⟨b, 0, none⟩ u0).setCell ⟨b, 1, none⟩ u1).setCell ⟨b, 2, none⟩ u2).setCell ⟨b, 3, none⟩ u3).setCell ⟨b, 4, none⟩ u4) :=
  ((((Fr.setCell _ hM).trans (Fr.setCell _ hM)).trans (Fr.setCell _ hM)).trans (Fr.setCell _ hM)).trans (Fr.setCell _ hM)
theorem ret55_set {P : Program} {fn : Func} {R : Ending → World → Prop} {a : Act} {Y : World} {p1 p2 T b1 b2 : Nat} {u0 u1 u2 u3 u4 x0 x1 x2 x3 x4 v0 v1 v2 v3 v4 y0 y1 y2 y3 y4 : Value}
    (hres : fn.results = #[.cell p1 T, .cell p2 T]) (hT : ∀ w, (isAgg T).run P w = .ok true w) (hs : ∀ w, (sizeOf T).run P w = .ok 5 w)
    (hp1 : a.tmps.getD p1 undef = .pointer (some ⟨b1, 0, none⟩)) (hp2 : a.tmps.getD p2 undef = .pointer (some ⟨b2, 0, none⟩)) (hd : a.defers = []) (hb : b1 ≠ b2)
    (h1 : BoxC Y b1 u0 u1 u2 u3 u4) (h2 : BoxC Y b2 x0 x1 x2 x3 x4)
    (hR : ∀ X, Fr (fun k => k = b1 ∨ k = b2) Y X → R (.returned (.tuple #[.agg #[v0, v1, v2, v3, v4], .agg #[y0, y1, y2, y3, y4]])) X) :
    bodyPost P fn R .ret a ((((((((((Y.setCell ⟨b1, 0, none⟩ v0).setCell ⟨b1, 1, none⟩ v1).setCell ⟨b1, 2, none⟩ v2).setCell ⟨b1, 3, none⟩ v3).setCell ⟨b1, 4, none⟩ v4).setCell ⟨b2, 0, none⟩ y0).setCell ⟨b2, 1, none⟩ y1).setCell ⟨b2, 2, none⟩ y2).setCell ⟨b2, 3, none⟩ y3).setCell ⟨b2, 4, none⟩ y4) := by
  have hB1 := (h1.setHead v0 v1 v2 v3).setBody v4
  have f1 := set5_frw (M := fun k => k = b1) Y (b := b1) v0 v1 v2 v3 v4 rfl
  have hB2 := ((h2.fr f1 (fun e => hb e.symm)).setHead y0 y1 y2 y3).setBody y4
  have hB1' : BoxC (((((Y.setCell ⟨b1, 0, none⟩ v0).setCell ⟨b1, 1, none⟩ v1).setCell ⟨b1, 2, none⟩ v2).setCell ⟨b1, 3, none⟩ v3).setCell ⟨b1, 4, none⟩ v4) b1 v0 v1 v2 v3 v4 := hB1
  have f2 := set5_frw (M := fun k => k = b2) (((((Y.setCell ⟨b1, 0, none⟩ v0).setCell ⟨b1, 1, none⟩ v1).setCell ⟨b1, 2, none⟩ v2).setCell ⟨b1, 3, none⟩ v3).setCell ⟨b1, 4, none⟩ v4) (b := b2) y0 y1 y2 y3 y4 rfl
  have hB3 := hB1'.fr f2 hb
  obtain ⟨c0, c1, c2, c3, c4, _⟩ := hB3
  obtain ⟨d0, d1, d2, d3, d4, _⟩ := hB2
  refine bodyPost_ret (v := .tuple #[.agg #[v0, v1, v2, v3, v4], .agg #[y0, y1, y2, y3, y4]]) ?_ hd (hR _ ((f1.mono (fun k _ h => .inl h)).trans (f2.mono (fun k _ h => .inr h))))
  have hl := load5 (P := P) (T := T) (b := b1) hT hs c0 c1 c2 c3 c4
  have hl2 := load5 (P := P) (T := T) (b := b2) hT hs d0 d1 d2 d3 d4
  unfold set4 at hl2
  simp only [results, hres]
  have hp1' : a.tmps[p1]?.getD undef = .pointer (some ⟨b1, 0, none⟩) := by simpa using hp1
  have hp2' : a.tmps[p2]?.getD undef = .pointer (some ⟨b2, 0, none⟩) := by simpa using hp2
  simp [hp1', hp2', asAddr, hl, hl2]
theorem clout2_end {w wk X : World} {c d : Cl} {v u : Value} (hX : Fr (fun k => k = w.heap.size ∨ k = w.heap.size + 1) wk X) (he : Ext w wk) (hk : c.body.length ≤ 100) (hk2 : d.body.length ≤ 100)
    (hv : Cl.at (fun b => w.heap.size + 2 ≤ b) wk c v) (hu : Cl.at (fun b => w.heap.size + 2 ≤ b) wk d u) : ClOut2 w (.returned (.tuple #[v, u])) X :=
  ⟨c, d, v, u, rfl, hk, hk2, Cl.at_mono (fun b h => by omega) (hX.agree (S := fun b => w.heap.size + 2 ≤ b) (fun k hk h => by omega)) hv, Cl.at_mono (fun b h => by omega) (hX.agree (S := fun b => w.heap.size + 2 ≤ b) (fun k hk h => by omega)) hu, ((Fr.of_ext he).trans (hX.mono (fun k _ h => show w.heap.size ≤ k by omega))).toExt (fun k hk hm => by omega)⟩
set_option maxRecDepth 100000 in
set_option maxHeartbeats 8000000 in
theorem drawClauseSame (v : Value) (w : World) (hv : BytesAt w v) : Calls Tryz.prog 35 #[v] w (ClOut2 w) := by
  obtain ⟨W0, hW0⟩ : ∃ z, z = (w.alloc (.cells #[.int .i64 0, .int .i64 0, .string ⟨#[]⟩, .slice none 0 0, .slice none 0 0] 27)).alloc (.cells #[.int .i64 0, .int .i64 0, .string ⟨#[]⟩, .slice none 0 0, .slice none 0 0] 27) := ⟨_, rfl⟩
  have hE0 : Ext w W0 := by rw [hW0]; exact (Ext.alloc _ _).trans (Ext.alloc _ _)
  have hB0 : BoxCZ W0 (w.heap.size + 1) := by rw [hW0]; exact BoxC.new _ _ _ _ _ _ 27 (by simp)
  have hA0 : BoxCZ W0 w.heap.size := by rw [hW0]; exact (BoxC.new w _ _ _ _ _ 27 rfl).ext (Ext.alloc _ _)
  have s0 : W0.heap.size = w.heap.size + 2 := by rw [hW0]; simp
  have HO := Lib.hid (specl18Open v W0 (hv.ext hE0))
  have E0 := Lib.hid hE0
  have A0 := Lib.hid hA0
  have B0 := Lib.hid hB0
  obtain ⟨a, len, cap, rfl, _⟩ := hv
  clear hE0 hB0 hA0
  go_enter Tryz.func35, Tryz.ntmps35
  go_upto_region 1 with (fail)
  rw [← hW0]
  clear hW0
  go_wp2_with fail
  refine HO.out.mono ?_
  rintro e w1 ⟨r, rfl, hr0, hr1, e1⟩
  have E1 := Lib.hid (E0.out.trans e1)
  have A1 := Lib.hid (A0.out.ext e1)
  have B1 := Lib.hid (B0.out.ext e1)
  have R1 := Lib.hid hr1
  have s1 := Below.size e1
  have rl := hr1.lt
  clear e1 hr1
  go_wp2_with fail
  refine (specl4Clause r 0 _ (by omega) R1.out).mono ?_
  rintro e w2 ⟨c, v2, P2, rfl, hk, hat, hr2, hP2, e2⟩
  obtain ⟨ah, ch, ab, cb, rfl, _, _⟩ := Cl.form hat
  have e2a := e2.trans (ExtR.of_ext (r := r) (Ext.alloc w2 (.cells #[.int .i64 c.head.kind, .int .i64 c.head.n, .string c.head.name, .slice ah c.head.kids.length ch, .slice ab c.body.length cb] 27)))
  have E2 := Lib.hid e2a
  have A2 := Lib.hid (A1.out.extR e2a (by omega))
  have B2 := Lib.hid (B1.out.extR e2a (by omega))
  have C2 := Lib.hid (BoxC.new w2 (.int .i64 c.head.kind) (.int .i64 c.head.n) (.string c.head.name) (.slice ah c.head.kids.length ch) (.slice ab c.body.length cb) 27 rfl)
  have H2 := Lib.hid (Cl.at_mono (S' := fun b => w1.heap.size ≤ b ∧ b < w2.heap.size) (fun b hb => hb) (Agree.refl _) (Cl.at_ext (Ext.alloc w2 (.cells #[.int .i64 c.head.kind, .int .i64 c.head.n, .string c.head.name, .slice ah c.head.kids.length ch, .slice ab c.body.length cb] 27)) (show Cl.at (fun b => w1.heap.size ≤ b ∧ b < w2.heap.size) w2 c _ by
    obtain ⟨sv, bv, q1, q2, q3⟩ := hat
    exact ⟨sv, bv, q1, Tm.at_bound q2, Tm.sl_bound q3⟩)))
  have R2 := Lib.hid (hr2.ext (Ext.alloc w2 (.cells #[.int .i64 c.head.kind, .int .i64 c.head.n, .string c.head.name, .slice ah c.head.kids.length ch, .slice ab c.body.length cb] 27)))
  have s2 := e2.1.size
  have s3 : (w2.alloc (.cells #[.int .i64 c.head.kind, .int .i64 c.head.n, .string c.head.name, .slice ah c.head.kids.length ch, .slice ab c.body.length cb] 27)).heap.size = w2.heap.size + 1 := by simp
  clear e2 e2a hat hr2
  go_upto_region 3 with (fail)
  obtain ⟨w3, hw3⟩ : ∃ z, z = w2.alloc (.cells #[.int .i64 c.head.kind, .int .i64 c.head.n, .string c.head.name, .slice ah c.head.kids.length ch, .slice ab c.body.length cb] 27) := ⟨_, rfl⟩
  rw [← hw3] at E2 A2 B2 C2 H2 R2 s3 ⊢
  clear hw3
  obtain ⟨O, hO⟩ : ∃ O, O = w2.heap.size := ⟨_, rfl⟩
  rw [← hO] at C2 s3 H2 s2 ⊢
  clear hO
  go_wp2_with fail
  refine (rdpick r P2 2 _ (by omega) (by decide) (by decide) R2.out).mono ?_
  rintro e w4 ⟨x, rfl, hx0, hx1, hr4, e4⟩
  have E4 := Lib.hid (E2.out.trans e4)
  have A4 := Lib.hid (A2.out.extR e4 (by omega))
  have B4 := Lib.hid (B2.out.extR e4 (by omega))
  have C4 := Lib.hid (C2.out.extR e4 (by omega))
  have H4 := Lib.hid (Cl.at_mono (fun _ h => h) (e4.agree (S := fun b => w1.heap.size ≤ b ∧ b < O) (by omega)) H2.out)
  have R4 := Lib.hid hr4
  have s4 := e4.1.size
  clear e4 hr4 E2 A2 B2 C2 H2 R2 A1 B1 R1 A0 B0 E0
  have lO := C4.out.lt
  obtain ⟨c0, c1, c2, c3, c4, _, _, _, _, _⟩ := C4.out
  obtain rfl | rfl : x = 0 ∨ x = 1 := by omega
  · go_wp2_with fail
    go_region_law (first
      | (go_simp; go_at_call 69; refine (specl4Clause r (P2 + 1) _ (by omega) (by first | exact R4.out | exact R4.out.ext (Ext.drew _))).mono ?_; rintro e x5 ⟨d, v5, P5, rfl, hk5, hat5, hr5, hP5, e5⟩; try replace e5 := (ExtR.of_ext (Ext.drew _)).trans e5; obtain ⟨dh, dch, db, dcb, rfl, _, _⟩ := Cl.form hat5; have D5 := Lib.hid hat5; have E5 := Lib.hid e5; have s5 := e5.1.size; have u0 := e5.cell (b := O) (by omega) c0; have u1 := e5.cell (b := O) (by omega) c1; have u2 := e5.cell (b := O) (by omega) c2; have u3 := e5.cell (b := O) (by omega) c3; have u4 := e5.cell (b := O) (by omega) c4; obtain ⟨y0, y1, y2, y3, y4, f0, f1, f2, f3, f4⟩ := A4.out.extR E5.out (by omega); obtain ⟨z0, z1, z2, z3, z4, g0, g1, g2, g3, g4⟩ := B4.out.extR E5.out (by omega); clear hat5 hr5 e5; dsimp only))
    all_goals
      go_wp2_with fail
      refine ret55_set (p1 := 2) (p2 := 3) (T := 27) (b1 := w.heap.size) (b2 := w.heap.size + 1) (by kernel_rfl) (fun _ => by kernel_rfl) (fun _ => by kernel_rfl) rfl rfl rfl (by omega) (A4.out.extR E5.out (by omega)) (B4.out.extR E5.out (by omega)) ?_
      intro X hX
      exact clout2_end hX (fr_out ((Fr.of_ext E1.out).trans ((Fr.of_extR E4.out (by show w.heap.size ≤ r; omega)).trans (Fr.of_extR E5.out (by show w.heap.size ≤ r; omega))))) (by omega) (by omega) (Cl.at_mono (fun b hb => by omega) (E5.out.agree (S := fun b => w1.heap.size ≤ b ∧ b < O) (by omega)) H4.out) (Cl.at_mono (fun b hb => by (try have hb' := hb; try simp at hb'); omega) (Agree.refl _) D5.out)
  · go_wp2_with fail
    go_region_law (first
      | (go_simp; go_at_call 85; refine (specl4Mutate r P5 13 d v5 _ x5 (by omega) hk5 (by omega) R5.out D5.out).mono ?_; rintro e x6 ⟨d6, v6, P6, rfl, hk6, hat6, hr6, hP6, e6⟩; obtain ⟨dh, dch, db, dcb, rfl, _, _⟩ := Cl.form hat6; have D6 := Lib.hid hat6; have E6 := Lib.hid (E5.out.trans e6); have s6 := e6.1.size; have q0 := e6.cell (b := O) (by omega) u0; have q1 := e6.cell (b := O) (by omega) u1; have q2 := e6.cell (b := O) (by omega) u2; have q3 := e6.cell (b := O) (by omega) u3; have q4 := e6.cell (b := O) (by omega) u4; obtain ⟨y0, y1, y2, y3, y4, f0, f1, f2, f3, f4⟩ := A4.out.extR E6.out (by omega); obtain ⟨z0, z1, z2, z3, z4, g0, g1, g2, g3, g4⟩ := B4.out.extR E6.out (by omega); clear hat6 hr6 e6; dsimp only)
      | (go_simp; go_at_call 85; refine (specl4Mutate r (P2 + 1) 6 c _ (fun b => w1.heap.size ≤ b ∧ b < O) _ (by omega) hk (by omega) (by first | exact R4.out | exact R4.out.ext (Ext.drew _)) (by first | exact H4.out | exact Cl.at_ext (Ext.drew _) H4.out)).mono ?_; rintro e x5 ⟨d, v5, P5, rfl, hk5, hat5, hr5, hP5, e5⟩; try replace e5 := (ExtR.of_ext (Ext.drew _)).trans e5; have D5 := Lib.hid hat5; have E5 := Lib.hid e5; have R5 := Lib.hid hr5; have s5 := e5.1.size; have u0 := e5.cell (b := O) (by omega) c0; have u1 := e5.cell (b := O) (by omega) c1; have u2 := e5.cell (b := O) (by omega) c2; have u3 := e5.cell (b := O) (by omega) c3; have u4 := e5.cell (b := O) (by omega) c4; have lO5 : O < x5.heap.size := (by omega); clear hat5 hr5 e5; dsimp only))
    all_goals
      go_wp2_with fail
      refine ret55_set (p1 := 2) (p2 := 3) (T := 27) (b1 := w.heap.size) (b2 := w.heap.size + 1) (by kernel_rfl) (fun _ => by kernel_rfl) (fun _ => by kernel_rfl) rfl rfl rfl (by omega) (A4.out.extR E6.out (by omega)) (B4.out.extR E6.out (by omega)) ?_
      intro X hX
      exact clout2_end hX (fr_out ((Fr.of_ext E1.out).trans ((Fr.of_extR E4.out (by show w.heap.size ≤ r; omega)).trans (Fr.of_extR E6.out (by show w.heap.size ≤ r; omega))))) (by omega) (by omega) (Cl.at_mono (fun b hb => by omega) (E6.out.agree (S := fun b => w1.heap.size ≤ b ∧ b < O) (by omega)) H4.out) (Cl.at_mono (fun b hb => by (try have hb' := hb; try simp at hb'); omega) (Agree.refl _) D6.out)
end Go.Proofs.YtognkaebiafgbaaGreatDoor

namespace Go.Proofs.YtognkaebiafgbaaGreatDoor.fnClauseSame
open Go.ChangeShapes Go.WideShapes Go.ChangeAt Go.RowKit
open Go.ChangeMaps (open_string shut_string)
set_option linter.unusedVariables false
theorem own : ownKnob Tryz.prog.godebug = none := by kernel_rfl
theorem laidOut : laidOutB Tryz.prog = true := by kernel_rfl
theorem csame_eq {c d : Cl} (h : Cl.same c d = true) : c = d := by
  obtain ⟨h1, b1⟩ := c
  obtain ⟨h2, b2⟩ := d
  unfold Cl.same at h
  rw [Bool.and_eq_true] at h
  have q1 := same_eq _ _ h.1
  have q2 := sameL_eq _ _ h.2
  simp only [] at q1 q2
  rw [q1, q2]
theorem csame_comm (c d : Cl) : Cl.same d c = Cl.same c d := by
  cases h : Cl.same c d with
  | true => rw [csame_eq h]; exact csame_refl d
  | false =>
    cases h' : Cl.same d c with
    | false => rfl
    | true => rw [csame_eq h', csame_refl] at h; exact h
theorem cl_ne {c : Cl} : clTxt c ≠ [] := by
  unfold clTxt
  split <;> simp
theorem text_no {c : Cl} (h : clValidF c = false) : (bs (formatClF c)).toList.isEmpty = true := by
  rw [bs_list]; unfold formatClF; rw [h]; rfl
theorem text_yes {c : Cl} (h : clValidF c = true) : (bs (formatClF c)).toList.isEmpty = false := by
  rw [bs_list]; unfold formatClF; rw [if_pos h]
  cases e : clTxt c with
  | nil => exact absurd e cl_ne
  | cons _ _ => rfl
theorem text_same {c d : Cl} (h : clValidF c = true) (h' : clValidF d = true) : ((bs (formatClF c)).toList == (bs (formatClF d)).toList) = Cl.same c d := by
  rw [bs_list, bs_list]
  unfold formatClF
  rw [if_pos h, if_pos h']
  cases hs : Cl.same c d with
  | true => rw [csame_eq hs]; simp
  | false =>
    rw [beq_eq_false_iff_ne]
    intro e
    rw [clTxt_inj h h' e, csame_refl] at hs
    cases hs
set_option maxRecDepth 100000 in
set_option maxHeartbeats 4000000 in
theorem walk (v0 : Value) (w : World) (htab : TabW w) (hv0 : BytesAt w v0) :
    Calls Tryz.prog 7 #[v0] w fun e w' => e = .returned (.bool true) ∧ Below w.heap.size w w' := by
  have HV0 := Lib.hid hv0
  have HTAB := Lib.hid htab
  clear htab
  obtain ⟨a, len, cap, rfl, h1, h2, h3⟩ := hv0
  clear h3
  by_cases hl : len ≤ 1048576
  · go_enter Tryz.func7, Tryz.ntmps7
    go_wp2_with fail
    refine (drawClauseSame _ _ HV0.out).mono ?_
    rintro e w1 ⟨c, d, v, u, rfl, hk, hk2, hc, hd, e1⟩
    obtain ⟨ah, ch, ab, cb, rfl, _, _⟩ := Cl.form hc
    obtain ⟨dh, dch, db, dcb, rfl, _, _⟩ := Cl.form hd
    have ea := (Ext.alloc w1 (.cells #[.int .i64 c.head.kind, .int .i64 c.head.n, .string c.head.name, .slice ah c.head.kids.length ch, .slice ab c.body.length cb] 27)).trans (Ext.alloc _ (.cells #[.int .i64 d.head.kind, .int .i64 d.head.n, .string d.head.name, .slice dh d.head.kids.length dch, .slice db d.body.length dcb] 27))
    have XC := Lib.hid ((BoxC.new w1 (.int .i64 c.head.kind) (.int .i64 c.head.n) (.string c.head.name) (.slice ah c.head.kids.length ch) (.slice ab c.body.length cb) 27 rfl).ext (Ext.alloc _ (.cells #[.int .i64 d.head.kind, .int .i64 d.head.n, .string d.head.name, .slice dh d.head.kids.length dch, .slice db d.body.length dcb] 27)))
    have XD := Lib.hid (BoxC.new (w1.alloc (.cells #[.int .i64 c.head.kind, .int .i64 c.head.n, .string c.head.name, .slice ah c.head.kids.length ch, .slice ab c.body.length cb] 27)) (.int .i64 d.head.kind) (.int .i64 d.head.n) (.string d.head.name) (.slice dh d.head.kids.length dch) (.slice db d.body.length dcb) 27 (b := w1.heap.size + 1) (by simp))
    have C := Lib.hid (Cl.at_ext ea hc)
    have D := Lib.hid (Cl.at_ext ea hd)
    have B := Lib.hid (e1.trans ea)
    clear hc hd e1 ea
    go_upto_region 4 with (fail)
    obtain ⟨w2, hw2⟩ : ∃ z, z = (w1.alloc (.cells #[.int .i64 c.head.kind, .int .i64 c.head.n, .string c.head.name, .slice ah c.head.kids.length ch, .slice ab c.body.length cb] 27)).alloc (.cells #[.int .i64 d.head.kind, .int .i64 d.head.n, .string d.head.name, .slice dh d.head.kids.length dch, .slice db d.body.length dcb] 27) := ⟨_, rfl⟩
    rw [← hw2] at XC XD C D B ⊢
    clear hw2
    obtain ⟨sm, hsm⟩ : ∃ z, Cl.same c d = z := ⟨_, rfl⟩
    have HSM := Lib.hid hsm
    have K1 := Lib.hid (fun w' (e : Ext w2 w') => hsm ▸ implClauseSame c d _ _ _ _ w' (Cl.at_ext e C.out) (Cl.at_ext e D.out))
    have K2 := Lib.hid (fun w' (e : Ext w2 w') => hsm ▸ specClauseSame c d _ _ _ _ w' (Cl.at_ext e C.out) (Cl.at_ext e D.out))
    have K3 := Lib.hid (fun w' (e : Ext w2 w') => hsm ▸ csame_comm c d ▸ implClauseSame d c _ _ _ _ w' (Cl.at_ext e D.out) (Cl.at_ext e C.out))
    have K4 := Lib.hid (fun w' (e : Ext w2 w') => csame_refl c ▸ implClauseSame c c _ _ _ _ w' (Cl.at_ext e C.out) (Cl.at_ext e C.out))
    have KF := Lib.hid (fun w' (e : Ext w2 w') => implFormatClause c _ _ w' (Cl.at_ext e C.out) (HTAB.out.ext (B.out.trans e)))
    have KG := Lib.hid (fun w' (e : Ext w2 w') => implFormatClause d _ _ w' (Cl.at_ext e D.out) (HTAB.out.ext (B.out.trans e)))
    clear hsm
    have XC0 := Lib.hid XC.out
    have XD0 := Lib.hid XD.out
    obtain ⟨FS, hFS⟩ : ∃ z, bs (formatClF c) = z := ⟨_, rfl⟩
    obtain ⟨FT, hFT⟩ : ∃ z, bs (formatClF d) = z := ⟨_, rfl⟩
    have HFS := Lib.hid hFS
    have HFT := Lib.hid hFT
    rw [hFS] at KF
    rw [hFT] at KG
    have hb1 : (sm != sm) = false := by simp
    clear hFS hFT
    have E2 := Lib.hid (Ext.refl w2)
    obtain ⟨c0, c1, c2, c3, c4, _, _, _, _, _⟩ := XC0.out.ext E2.out
    obtain ⟨d0, d1, d2, d3, d4, _, _, _, _, _⟩ := XD0.out.ext E2.out
    go_wp2_with fail
    refine (K1.out _ E2.out).mono ?_
    rintro e w3 ⟨rfl, e3⟩
    have E3 := Lib.hid (E2.out.trans e3)
    clear e3 c0 c1 c2 c3 c4 d0 d1 d2 d3 d4
    obtain ⟨c0, c1, c2, c3, c4, _, _, _, _, _⟩ := XC0.out.ext E3.out
    obtain ⟨d0, d1, d2, d3, d4, _, _, _, _, _⟩ := XD0.out.ext E3.out
    go_wp2_with fail
    refine (K2.out _ E3.out).mono ?_
    rintro e w4 ⟨rfl, e4⟩
    have E4 := Lib.hid (E3.out.trans e4)
    clear e4 c0 c1 c2 c3 c4 d0 d1 d2 d3 d4
    obtain ⟨c0, c1, c2, c3, c4, _, _, _, _, _⟩ := XC0.out.ext E4.out
    obtain ⟨d0, d1, d2, d3, d4, _, _, _, _, _⟩ := XD0.out.ext E4.out
    go_wp2_with fail
    refine (K3.out _ E4.out).mono ?_
    rintro e w5 ⟨rfl, e5⟩
    have E5 := Lib.hid (E4.out.trans e5)
    clear e5 c0 c1 c2 c3 c4 d0 d1 d2 d3 d4
    obtain ⟨c0, c1, c2, c3, c4, _, _, _, _, _⟩ := XC0.out.ext E5.out
    obtain ⟨d0, d1, d2, d3, d4, _, _, _, _, _⟩ := XD0.out.ext E5.out
    go_wp2_with fail
    refine (K4.out _ E5.out).mono ?_
    rintro e w6 ⟨rfl, e6⟩
    have E6 := Lib.hid (E5.out.trans e6)
    clear e6 c0 c1 c2 c3 c4 d0 d1 d2 d3 d4
    obtain ⟨c0, c1, c2, c3, c4, _, _, _, _, _⟩ := XC0.out.ext E6.out
    obtain ⟨d0, d1, d2, d3, d4, _, _, _, _, _⟩ := XD0.out.ext E6.out
    go_wp2_with fail
    refine (KF.out _ E6.out).mono ?_
    rintro e w7 ⟨rfl, e7⟩
    have E7 := Lib.hid (E6.out.trans e7)
    clear e7 c0 c1 c2 c3 c4 d0 d1 d2 d3 d4
    obtain ⟨c0, c1, c2, c3, c4, _, _, _, _, _⟩ := XC0.out.ext E7.out
    obtain ⟨d0, d1, d2, d3, d4, _, _, _, _, _⟩ := XD0.out.ext E7.out
    go_wp2_with fail
    refine (KG.out _ E7.out).mono ?_
    rintro e w8 ⟨rfl, e8⟩
    have E8 := Lib.hid (E7.out.trans e8)
    clear e8 c0 c1 c2 c3 c4 d0 d1 d2 d3 d4
    cases hv : clValidF c
    · have iS : FS.toList.isEmpty = true := by rw [← HFS.out]; exact text_no hv
      clear hv
      go_wp2_with fail
      go_ret
      exact ⟨rfl, B.out.trans E8.out⟩
    · cases hv2 : clValidF d
      · have iS : FS.toList.isEmpty = false := by rw [← HFS.out]; exact text_yes hv
        have iT : FT.toList.isEmpty = true := by rw [← HFT.out]; exact text_no hv2
        clear hv hv2
        go_wp2_with fail
        go_ret
        exact ⟨rfl, B.out.trans E8.out⟩
      · have iS : FS.toList.isEmpty = false := by rw [← HFS.out]; exact text_yes hv
        have iT : FT.toList.isEmpty = false := by rw [← HFT.out]; exact text_yes hv2
        have hcm : (FS.toList == FT.toList) = sm := by rw [← HFS.out, ← HFT.out, text_same hv hv2]; exact HSM.out
        clear hv hv2
        obtain ⟨q, hq⟩ : ∃ q, (FS.toList == FT.toList) = q := ⟨_, rfl⟩
        rw [hq] at hcm
        subst hcm
        have HQ := Lib.hid hq
        clear hq
        go_wp2_with fail
        go_ret
        exact ⟨retB (by rw [HQ.out]; simp), B.out.trans E8.out⟩
  · go_enter Tryz.func7, Tryz.ntmps7
    go_wp2_with fail
    go_ret
    exact ⟨rfl, Below.refl _ _⟩
end Go.Proofs.YtognkaebiafgbaaGreatDoor.fnClauseSame
