/-
  Functions that return a term and something else; numbers.
-/
import Derived.Deep.RegionHeld3
import Derived.Test.YtdelhgodhkbjdaaMu28
import Derived.Test.YtdelhgodhkbjdaaMu21
import Derived.Test.YtdelhgodhkbjdaaMu24
import Derived.Test.YtdelhgodhkbjdaaMu23
import Derived.Test.YtdelhgodhkbjdaaMu14
namespace Go.Proofs.Ytdelhgodhkbjdaa
open Go.RowKit
set_option linter.unusedVariables false

/-- the end of a function that returns a term and something else -/
theorem ret4b_set {P : Program} {fn : Func} {R : Ending → World → Prop} {a : Act} {Y : World} {p q T b : Nat} {u0 u1 u2 u3 v0 v1 v2 v3 y : Value}
    (hres : fn.results = #[.cell p T, .tmp q]) (hT : ∀ w, (isAgg T).run P w = .ok true w) (hs : ∀ w, (sizeOf T).run P w = .ok 4 w) (hp : a.tmps.getD p undef = .pointer (some ⟨b, 0, none⟩)) (hq : a.tmps.getD q undef = y) (hd : a.defers = [])
    (h : BoxT Y b u0 u1 u2 u3)
    (hR : ∀ X, Fr (fun k => k = b) Y X → R (.returned (.tuple #[.agg #[v0, v1, v2, v3], y])) X) :
    bodyPost P fn R .ret a ((((Y.setCell ⟨b, 0, none⟩ v0).setCell ⟨b, 1, none⟩ v1).setCell ⟨b, 2, none⟩ v2).setCell ⟨b, 3, none⟩ v3) := by
  obtain ⟨c0, c1, c2, c3⟩ := set4_cells (Y := Y) v0 v1 v2 v3 h.1 h.2.1 h.2.2.1 h.2.2.2.1
  refine bodyPost_ret (v := .tuple #[.agg #[v0, v1, v2, v3], y]) ?_ hd (hR _ (Fr.of_grown (set4_grown Y b v0 v1 v2 v3) (fun k e => by cases e; rfl)))
  have hl := load4 (P := P) (T := T) (b := b) hT hs c0 c1 c2 c3
  simp only [results, hres]
  have hp' : a.tmps[p]?.getD undef = .pointer (some ⟨b, 0, none⟩) := by simpa using hp
  have hq' : a.tmps[q]?.getD undef = y := by simpa using hq
  unfold set4 at hl
  simp [hp', hq', asAddr, hl]
/-- .. without a store -/
theorem ret4b {P : Program} {fn : Func} {R : Ending → World → Prop} {a : Act} {Y : World} {p q T b : Nat} {v0 v1 v2 v3 y : Value}
    (hres : fn.results = #[.cell p T, .tmp q]) (hT : ∀ w, (isAgg T).run P w = .ok true w) (hs : ∀ w, (sizeOf T).run P w = .ok 4 w) (hp : a.tmps.getD p undef = .pointer (some ⟨b, 0, none⟩)) (hq : a.tmps.getD q undef = y) (hd : a.defers = [])
    (h : BoxT Y b v0 v1 v2 v3) (hR : R (.returned (.tuple #[.agg #[v0, v1, v2, v3], y])) Y) : bodyPost P fn R .ret a Y := by
  refine bodyPost_ret (v := .tuple #[.agg #[v0, v1, v2, v3], y]) ?_ hd hR
  have hl := load4 (P := P) (T := T) (b := b) hT hs h.1 h.2.1 h.2.2.1 h.2.2.2.1
  simp only [results, hres]
  have hp' : a.tmps[p]?.getD undef = .pointer (some ⟨b, 0, none⟩) := by simpa using hp
  have hq' : a.tmps[q]?.getD undef = y := by simpa using hq
  simp [hp', hq', asAddr, hl]

/-- a term that shares nothing, and a sign -/
def TmBO (r : Tm) (b : Bool) (w : World) (e : Ending) (w' : World) : Prop := ∃ a c, e = .returned (.tuple #[.agg #[.int .i64 r.kind, .int .i64 r.n, .string r.name, .slice a r.kids.length c], .bool b]) ∧ Tm.own (fun b => w.heap.size ≤ b) w' r (.slice a r.kids.length c) ∧ Ext w w'
theorem own_nil (F : Nat → Prop) (w : World) (k n : Int) (s : ByteArray) (hs : s.size ≤ 1048576) : Tm.own F w (.mk k n s []) (.slice none 0 0) := own_iff.2 ⟨hs, by simp [Tm.kids], OwnS.nil _ _⟩

def val4 (t : Tm) (a : Option Addr) (c : Nat) : Value := .agg #[.int .i64 t.kind, .int .i64 t.n, .string t.name, .slice a t.kids.length c]
set_option maxRecDepth 100000 in
theorem implnumber (n : Int) (w : World) : Calls Try.prog 75 #[.int .i64 n] w (TmO (.mk 2 n ⟨#[]⟩ []) w) := by
  go_enter Try.func75, Try.ntmps75
  go_wp2_with fail
  refine ret4 (p := 2) (T := 25) (b := w.heap.size) (v0 := .int .i64 2) (v1 := .int .i64 n) (v2 := .string ⟨#[]⟩) (v3 := .slice none 0 0) (by kernel_rfl) (fun _ => by kernel_rfl) (fun _ => by kernel_rfl) rfl rfl (by go_simp) (by go_simp) (by go_simp) (by go_simp) ?_
  exact ⟨none, 0, rfl, own_nil _ _ _ _ _ (by decide), Ext.alloc _ _⟩

theorem BoxT.put4 {w : World} {b : Nat} {u0 u1 u2 u3 : Value} (h : BoxT w b u0 u1 u2 u3) (v0 v1 v2 v3 : Value) : BoxT ((((w.setCell ⟨b, 0, none⟩ v0).setCell ⟨b, 1, none⟩ v1).setCell ⟨b, 2, none⟩ v2).setCell ⟨b, 3, none⟩ v3) b v0 v1 v2 v3 := by
  obtain ⟨a0, a1, a2, a3, f0, f1, f2, f3⟩ := h
  obtain ⟨c0, c1, c2, c3⟩ := set4_cells (Y := w) v0 v1 v2 v3 a0 a1 a2 a3
  refine ⟨c0, c1, c2, c3, ?_, ?_, ?_, ?_⟩
  · rw [World.frozen?_setCell, World.frozen?_setCell, World.frozen?_setCell, World.frozen?_setCell]; exact f0
  · rw [World.frozen?_setCell, World.frozen?_setCell, World.frozen?_setCell, World.frozen?_setCell]; exact f1
  · rw [World.frozen?_setCell, World.frozen?_setCell, World.frozen?_setCell, World.frozen?_setCell]; exact f2
  · rw [World.frozen?_setCell, World.frozen?_setCell, World.frozen?_setCell, World.frozen?_setCell]; exact f3
theorem put4_frw {M : Nat → Prop} (w : World) {b : Nat} (u0 u1 u2 u3 : Value) (hM : M b) : Fr M w ((((w.setCell ⟨b, 0, none⟩ u0).setCell ⟨b, 1, none⟩ u1).setCell ⟨b, 2, none⟩ u2).setCell ⟨b, 3, none⟩ u3) := (((Fr.setCell _ hM).trans (Fr.setCell _ hM)).trans (Fr.setCell _ hM)).trans (Fr.setCell _ hM)
theorem BoxT.put4w {w : World} {b : Nat} {u0 u1 u2 u3 : Value} (h : BoxT w b u0 u1 u2 u3) (v0 v1 v2 v3 : Value) : BoxT ((((w.setCell ⟨b, 0, none⟩ v0).setCell ⟨b, 1, none⟩ v1).setCell ⟨b, 2, none⟩ v2).setCell ⟨b, 3, none⟩ v3) b v0 v1 v2 v3 := h.put4 v0 v1 v2 v3


end Go.Proofs.Ytdelhgodhkbjdaa

/-
  The program's store: what variables stand for, and the order in which they came to stand for it. Walks.
-/
namespace Go.Proofs.Ytdelhgodhkbjdaa
open Go.RowKit Go.Maps
set_option linter.unusedVariables false

/-- block sb is a store, its map mb knows K -/
def Sto (S : Nat → Prop) (w : World) (sb mb : Nat) (K : List Tm) : Prop :=
  w.cell? ⟨sb, 0, none⟩ = some (.map (some mb)) ∧ ¬ S sb ∧ sb ≠ mb ∧ ∃ m, m + unb K ≤ 1000 ∧ Km S w mb m K
theorem Sto.km {S : Nat → Prop} {w : World} {sb mb : Nat} {K : List Tm} (h : Sto S w sb mb K) : ∃ m, m + unb K ≤ 1000 ∧ Km S w mb m K := h.2.2.2
theorem Sto.fr {S M : Nat → Prop} {w w' : World} {sb mb : Nat} {K : List Tm} (h : Sto S w sb mb K) (f : Fr M w w') (hM : ∀ k, M k → ¬ S k ∧ k ≠ mb ∧ k ≠ sb) : Sto S w' sb mb K := by
  obtain ⟨h1, h2, h3, m, h4, h5⟩ := h
  exact ⟨f.cell (fun hm => (hM _ hm).2.2 rfl) h1, h2, h3, m, h4, h5.fr f (fun k hk => ⟨(hM k hk).1, (hM k hk).2.1⟩)⟩
theorem Sto.ext {S : Nat → Prop} {w w' : World} {sb mb : Nat} {K : List Tm} (h : Sto S w sb mb K) (f : Ext w w') : Sto S w' sb mb K := h.fr (M := fun _ => False) (Fr.of_ext f) (fun _ h => h.elim)
theorem Sto.lt {S : Nat → Prop} {w : World} {sb mb : Nat} {K : List Tm} (h : Sto S w sb mb K) : sb < w.heap.size := block_lt_of_cell h.1
/-- the look-up as a run -/
theorem run_look_no {S : Nat → Prop} {w : World} {b mm : Nat} {K : List Tm} {n : Int} (h : Km S w b mm K) (hn : 0 ≤ n ∧ n ≤ 25) (hk : (lookK K n).kind = 0) :
    (Instr.lookup 89 (.map (some b)) (.int .i64 n) true).run Try.prog w = .ok (.tuple #[.agg #[.int .i64 0, .int .i64 0, .string ⟨#[]⟩, .slice none 0 0], .bool false]) w := by
  obtain ⟨h0, hl, D, h1, h2, h3⟩ := h
  have h4 := h3 n hn
  unfold look1 at h4
  rw [if_pos hk] at h4
  obtain ⟨v, ps, hrun, hv⟩ := h1.look_ok map_keyed Try.underlying89 (zero_term w) (zd := .held zeroV) (zp := []) rfl (keyOf_int_mk Try.underlying3 (small_wf hn))
  rw [Maps.atKey_of_not_has h4] at hv
  simp only [heldR, Option.some.injEq, Prod.mk.injEq, DataW.held.injEq] at hv
  rw [hv.1, h4] at hrun
  exact hrun
theorem run_look_yes {S : Nat → Prop} {w : World} {b mm : Nat} {K : List Tm} {n : Int} (h : Km S w b mm K) (hn : 0 ≤ n ∧ n ≤ 25) (hk : (lookK K n).kind ≠ 0) :
    ∃ ad c, Tm.at S w (lookK K n) (.agg #[.int .i64 (lookK K n).kind, .int .i64 (lookK K n).n, .string (lookK K n).name, .slice ad (lookK K n).kids.length c]) ∧ ∀ w', Ext w w' →
    (Instr.lookup 89 (.map (some b)) (.int .i64 n) true).run Try.prog w' = .ok (.tuple #[.agg #[.int .i64 (lookK K n).kind, .int .i64 (lookK K n).n, .string (lookK K n).name, .slice ad (lookK K n).kids.length c], .bool true]) w' := by
  obtain ⟨h0, hl, D, h1, h2, h3⟩ := h
  have h4 := h3 n hn
  unfold look1 at h4
  rw [if_neg hk] at h4
  obtain ⟨h4, u, h5, h6⟩ := h4
  obtain ⟨ad, c, rfl⟩ := at_form h6
  refine ⟨ad, c, h6, fun w' e => ?_⟩
  have h1' : w'.ownsMap Try.prog 3 heldR b mm D := by
    obtain ⟨es, clock, q1, q2⟩ := h1
    have hlt : b < w.heap.size := (Array.getElem?_eq_some_iff.1 q1).1
    exact ⟨es, clock, ((Fr.of_ext (M := fun _ => False) e).block b hlt (fun h => h)).trans q1, q2⟩
  obtain ⟨v, ps, hrun, hv⟩ := h1'.look_ok map_keyed Try.underlying89 (zero_term w') (zd := .held zeroV) (zp := []) rfl (keyOf_int_mk Try.underlying3 (small_wf hn))
  rw [h5] at hv
  simp only [heldR, Option.some.injEq, Prod.mk.injEq, DataW.held.injEq] at hv
  rw [hv.1, h4] at hrun
  exact hrun

set_option maxRecDepth 100000 in
set_option maxHeartbeats 4000000 in
theorem implwalk (F : Nat) (K : List Tm) (t x : Tm) (hw : walkF F K t = some x) (v : Value) (S : Nat → Prop) (w : World) (sb mb d : Nat) (hv : VK K) (hs : shapeF t d = true) (hB : ∀ b, S b → b < w.heap.size) (ht : Tm.at S w t v) (hst : Sto S w sb mb K) :
    Calls Try.prog 96 #[.pointer (some ⟨sb, 0, none⟩), v] w fun e w' => ∃ v', e = .returned v' ∧ Tm.at S w' x v' ∧ Ext w w' := by
  have HST := Lib.hid hst
  have HVK := Lib.hid hv
  have HS := Lib.hid hs
  have HW := Lib.hid hw
  have HB0 := Lib.hid hB
  clear hB
  obtain ⟨hs0, hs1, hs2, m0, hm0, hkm⟩ := hst
  have HKM := Lib.hid hkm
  have hsb := block_lt_of_cell hs0
  simp only at hsb
  have hmb := hkm.lt
  clear hkm hm0 hv hs hw
  obtain ⟨a, c, rfl⟩ := at_form ht
  have V := Lib.hid ht
  clear ht
  go_enter Try.func96, Try.ntmps96
  go_wp2_with fail
  go_loopg [] F (fun g wr => ∃ (cur : Tm) (ac : Option Addr) (cc e : Nat), Hid (walkF g K cur = some x) ∧ Hid (shapeF cur e = true) ∧ Hid (BoxT wr w.heap.size (.int .i64 cur.kind) (.int .i64 cur.n) (.string cur.name) (.slice ac cur.kids.length cc)) ∧
      Hid (Tm.at S wr cur (.agg #[.int .i64 cur.kind, .int .i64 cur.n, .string cur.name, .slice ac cur.kids.length cc])) ∧ Hid (BoxT wr (w.heap.size + 1) (.int .i64 0) (.int .i64 0) (.string ⟨#[]⟩) (.slice none 0 0)) ∧ Hid (Ext w wr))
  case atStart =>
    refine ⟨t, a, c, d, HW, HS, Lib.hid ?_, Lib.hid (Tm.at_ext ((Ext.alloc _ _).trans (Ext.alloc _ _)) V.out), Lib.hid ?_, Lib.hid ((Ext.alloc _ _).trans (Ext.alloc _ _))⟩
    · exact (BoxT.new w _ _ _ _ 25 rfl).ext (Ext.alloc _ _)
    · exact BoxT.new _ _ _ _ _ 25 (by simp)
  case round =>
    obtain ⟨cur, ac, cc, e, HWc, HSc, HP, HV, HR, HE⟩ := hrel
    obtain ⟨p0, p1, p2, p3, f0, f1, f2, f3⟩ := HP.out
    have lP := HP.out.lt
    have lsb : sb < wr.heap.size := Nat.lt_of_lt_of_le hsb (Below.size HE.out)
    have lR := HR.out.lt
    have hsr : w.heap.size + 1 < wr.heap.size := HR.out.lt
    obtain ⟨g, rfl⟩ : ∃ g, gk = g + 1 := by
      cases gk with
      | zero => exact absurd HWc.out (by simp [walkF])
      | succ g => exact ⟨g, rfl⟩
    by_cases hk : cur.kind = 1
    · have hb := shape_occ HSc.out hk
      have hk' : (cur.kind == 1) = true := by simp [hk]
      by_cases hz : (lookK K cur.n).kind = 0
      · have HX : Hid (cur = x) := Lib.hid (by
          have := HWc.out
          rw [walkF, if_neg (by rintro ⟨_, h⟩; exact h hz)] at this
          exact Option.some.inj this)
        have L1 := run_look_no (HKM.out.ext HE.out) hb hz
        have L2 := run_look_no ((HKM.out.ext HE.out).ext (Ext.drew _)) hb hz
        have L3 := run_look_no ((HKM.out.ext HE.out).ext (Ext.alloc _ (.cells #[.int .i64 0, .int .i64 0, .string ⟨#[]⟩, .slice none 0 0] 25))) hb hz
        have L4 := run_look_no (((HKM.out.ext HE.out).ext (Ext.alloc _ (.cells #[.int .i64 0, .int .i64 0, .string ⟨#[]⟩, .slice none 0 0] 25))).ext (Ext.drew _)) hb hz
        have s0 := HE.out.cell hs0
        clear hk hz
        go_wp2_with fail
        go_region_law (fail)
        all_goals
          obtain ⟨wq, hwq, eq⟩ : ∃ x, x = ((wr.alloc (.cells #[.int .i64 0, .int .i64 0, .string ⟨#[]⟩, .slice none 0 0] 25)).drew) ∧ Ext wr x := ⟨_, rfl, (Ext.alloc _ _).trans (Ext.drew _)⟩
          have HB := Lib.hid (show BoxT wq wr.heap.size (.int .i64 0) (.int .i64 0) (.string ⟨#[]⟩) (.slice none 0 0) by rw [hwq]; exact (BoxT.new wr _ _ _ _ 25 rfl).ext (Ext.drew _))
          rw [← hwq]
          clear hwq
          have HP := Lib.hid (HP.out.ext eq)
          have HV := Lib.hid (Tm.at_ext eq HV.out)
          have HR := Lib.hid (HR.out.ext eq)
          have HE := Lib.hid (HE.out.trans eq)
          clear eq L1 L2 L3 L4 s0 p0 p1 p2 p3 f0 f1 f2 f3
          obtain ⟨p0, p1, p2, p3, f0, f1, f2, f3⟩ := HP.out
          obtain ⟨r0, r1, r2, r3, g0, g1, g2, g3⟩ := HR.out
          go_wp2_with fail
          refine ret4_set (p := 4) (T := 25) (b := w.heap.size + 1) (by kernel_rfl) (fun _ => by kernel_rfl) (fun _ => by kernel_rfl) rfl rfl r0 r1 r2 r3 ?_
          intro X hX
          have f : Fr (fun k => k = w.heap.size + 1) wq X := Fr.of_grown hX (fun k e => by cases e; rfl)
          have hlo := HE.out
          refine ⟨_, rfl, ?_, ((Fr.of_ext HE.out).trans f).toExt (fun k hk h => by omega)⟩
          rw [← HX.out]
          exact f.at HV.out (fun k hk h => by have := HB0.out k hk; omega)
      · obtain ⟨ra, rc, hat, hrun⟩ := run_look_yes (HKM.out.ext HE.out) hb hz
        obtain ⟨r, hr⟩ : ∃ r, lookK K cur.n = r := ⟨_, rfl⟩
        obtain ⟨e', hsr'⟩ := HVK.out.2 _ hb.1 hb.2 hz
        have HWn : Hid (walkF g K r = some x) := Lib.hid (by
          have := HWc.out
          rw [walkF, if_pos ⟨hk, hz⟩, hr] at this
          exact this)
        rw [hr] at hat hrun hsr'
        have HSr := Lib.hid hsr'
        have HAT := Lib.hid hat
        have L1 := hrun _ (Ext.refl _)
        have L2 := hrun _ (Ext.drew _)
        have L3 := hrun _ (Ext.alloc _ (.cells #[.int .i64 0, .int .i64 0, .string ⟨#[]⟩, .slice none 0 0] 25))
        have L4 := hrun _ ((Ext.alloc _ (.cells #[.int .i64 0, .int .i64 0, .string ⟨#[]⟩, .slice none 0 0] 25)).trans (Ext.drew _))
        have s0 := HE.out.cell hs0
        clear hk hz hr hat hrun hsr'
        go_wp2_with fail
        go_region_law (fail)
        all_goals
          obtain ⟨wq, hwq, eq⟩ : ∃ x, x = ((wr.alloc (.cells #[.int .i64 r.kind, .int .i64 r.n, .string r.name, .slice ra r.kids.length rc] 25)).drew) ∧ Ext wr x := ⟨_, rfl, (Ext.alloc _ _).trans (Ext.drew _)⟩
          have HB := Lib.hid (show BoxT wq wr.heap.size (.int .i64 r.kind) (.int .i64 r.n) (.string r.name) (.slice ra r.kids.length rc) by rw [hwq]; exact (BoxT.new wr _ _ _ _ 25 rfl).ext (Ext.drew _))
          rw [← hwq]
          clear hwq
          have HP := Lib.hid (HP.out.ext eq)
          have HV := Lib.hid (Tm.at_ext eq HV.out)
          have HR := Lib.hid (HR.out.ext eq)
          have HE := Lib.hid (HE.out.trans eq)
          have HAT := Lib.hid (Tm.at_ext eq HAT.out)
          clear eq L1 L2 L3 L4 s0 p0 p1 p2 p3 f0 f1 f2 f3
          obtain ⟨p0, p1, p2, p3, f0, f1, f2, f3⟩ := HP.out
          obtain ⟨q0, q1, q2, q3, _, _, _, _⟩ := HB.out
          go_wp2_with fail
          have f4 : Fr (fun k => k = w.heap.size) wq _ := Fr.of_grown (set4_grown wq w.heap.size (.int .i64 r.kind) (.int .i64 r.n) (.string r.name) (.slice ra r.kids.length rc)) (fun k e => by cases e; rfl)
          go_roundg g
          case measure => omega
          case rel => exact ⟨r, ra, rc, e', HWn, HSr, Lib.hid (BoxT.put4 HP.out _ _ _ _), Lib.hid (f4.at HAT.out (fun k hk h => by have := HB0.out k hk; omega)), Lib.hid (HR.out.fr f4 (by omega)), Lib.hid (((Fr.of_ext HE.out).trans f4).toExt (fun k hk h => by omega))⟩
    · have HX : Hid (cur = x) := Lib.hid (by
        have := HWc.out
        rw [walkF, if_neg (by rintro ⟨h, _⟩; exact hk h)] at this
        exact Option.some.inj this)
      have hk' : (cur.kind == 1) = false := by simpa using hk
      obtain ⟨r0, r1, r2, r3, g0, g1, g2, g3⟩ := HR.out
      clear hk
      go_wp2_with fail
      refine ret4_set (p := 4) (T := 25) (b := w.heap.size + 1) (by kernel_rfl) (fun _ => by kernel_rfl) (fun _ => by kernel_rfl) rfl rfl r0 r1 r2 r3 ?_
      intro X hX
      have f : Fr (fun k => k = w.heap.size + 1) wr X := Fr.of_grown hX (fun k e => by cases e; rfl)
      refine ⟨_, rfl, ?_, ((Fr.of_ext HE.out).trans f).toExt (fun k hk h => by omega)⟩
      rw [← HX.out]
      exact f.at HV.out (fun k hk h => by have := HB0.out k hk; omega)
end Go.Proofs.Ytdelhgodhkbjdaa
