/-
  The program's store: what variables stand for, and the order in which they came to stand for it. Walks.
-/
import Derived.Deep.RegionHeld3
import Derived.Test.YtognkaebiafgbaaGreatMv44
import Derived.Test.YtognkaebiafgbaaGreatMv14
import Derived.Test.YtognkaebiafgbaaGreatMv16
import Derived.Test.YtognkaebiafgbaaGreatMv2
namespace Go.Proofs.YtognkaebiafgbaaGreat
open Go.RowKit Go.Maps
set_option linter.unusedVariables false
def Sto (S : Nat → Prop) (w : World) (sb mb : Nat) (K : List Tm) : Prop :=
  w.cell? ⟨sb, 0, none⟩ = some (.map (some mb)) ∧ ¬ S sb ∧ sb ≠ mb ∧ ∃ m, m + unb K ≤ 1000 ∧ Km S w mb m K
theorem Sto.km {S : Nat → Prop} {w : World} {sb mb : Nat} {K : List Tm} (h : Sto S w sb mb K) : ∃ m, m + unb K ≤ 1000 ∧ Km S w mb m K := h.2.2.2
theorem Sto.fr {S M : Nat → Prop} {w w' : World} {sb mb : Nat} {K : List Tm} (h : Sto S w sb mb K) (f : Fr M w w') (hM : ∀ k, M k → ¬ S k ∧ k ≠ mb ∧ k ≠ sb) : Sto S w' sb mb K := by
  obtain ⟨h1, h2, h3, m, h4, h5⟩ := h
  exact ⟨f.cell (fun hm => (hM _ hm).2.2 rfl) h1, h2, h3, m, h4, h5.fr f (fun k hk => ⟨(hM k hk).1, (hM k hk).2.1⟩)⟩
theorem Sto.ext {S : Nat → Prop} {w w' : World} {sb mb : Nat} {K : List Tm} (h : Sto S w sb mb K) (f : Ext w w') : Sto S w' sb mb K := h.fr (M := fun _ => False) (Fr.of_ext f) (fun _ h => h.elim)
theorem Sto.lt {S : Nat → Prop} {w : World} {sb mb : Nat} {K : List Tm} (h : Sto S w sb mb K) : sb < w.heap.size := block_lt_of_cell h.1
theorem run_look_no {S : Nat → Prop} {w : World} {b mm : Nat} {K : List Tm} {n : Int} (h : Km S w b mm K) (hn : 0 ≤ n ∧ n ≤ 25) (hk : (lookK K n).kind = 0) :
    (Instr.lookup 80 (.map (some b)) (.int .i64 n) true).run Tryz.prog w = .ok (.tuple #[.agg #[.int .i64 0, .int .i64 0, .string ⟨#[]⟩, .slice none 0 0], .bool false]) w := by
  obtain ⟨h0, hl, D, h1, h2, h3⟩ := h
  have h4 := h3 n hn
  unfold look1 at h4
  rw [if_pos hk] at h4
  obtain ⟨v, ps, hrun, hv⟩ := h1.look_ok map_keyed Tryz.underlying80 (zero_term w) (zd := .held zeroV) (zp := []) rfl (keyOf_int_mk Tryz.underlying3 (small_wf hn))
  rw [Maps.atKey_of_not_has h4] at hv
  simp only [heldR, Option.some.injEq, Prod.mk.injEq, DataW.held.injEq] at hv
  rw [hv.1, h4] at hrun
  exact hrun
theorem run_look_yes {S : Nat → Prop} {w : World} {b mm : Nat} {K : List Tm} {n : Int} (h : Km S w b mm K) (hn : 0 ≤ n ∧ n ≤ 25) (hk : (lookK K n).kind ≠ 0) :
    ∃ ad c, Tm.at S w (lookK K n) (.agg #[.int .i64 (lookK K n).kind, .int .i64 (lookK K n).n, .string (lookK K n).name, .slice ad (lookK K n).kids.length c]) ∧ ∀ w', Ext w w' →
    (Instr.lookup 80 (.map (some b)) (.int .i64 n) true).run Tryz.prog w' = .ok (.tuple #[.agg #[.int .i64 (lookK K n).kind, .int .i64 (lookK K n).n, .string (lookK K n).name, .slice ad (lookK K n).kids.length c], .bool true]) w' := by
  obtain ⟨h0, hl, D, h1, h2, h3⟩ := h
  have h4 := h3 n hn
  unfold look1 at h4
  rw [if_neg hk] at h4
  obtain ⟨h4, u, h5, h6⟩ := h4
  obtain ⟨ad, c, rfl⟩ := at_form h6
  refine ⟨ad, c, h6, fun w' e => ?_⟩
  have h1' : w'.ownsMap Tryz.prog 3 heldR b mm D := by
    obtain ⟨es, clock, q1, q2⟩ := h1
    have hlt : b < w.heap.size := (Array.getElem?_eq_some_iff.1 q1).1
    exact ⟨es, clock, ((Fr.of_ext (M := fun _ => False) e).block b hlt (fun h => h)).trans q1, q2⟩
  obtain ⟨v, ps, hrun, hv⟩ := h1'.look_ok map_keyed Tryz.underlying80 (zero_term w') (zd := .held zeroV) (zp := []) rfl (keyOf_int_mk Tryz.underlying3 (small_wf hn))
  rw [h5] at hv
  simp only [heldR, Option.some.injEq, Prod.mk.injEq, DataW.held.injEq] at hv
  rw [hv.1, h4] at hrun
  exact hrun
set_option maxRecDepth 100000 in
set_option maxHeartbeats 4000000 in
theorem implwalk (F : Nat) (K : List Tm) (t x : Tm) (hw : walkF F K t = some x) (v : Value) (S : Nat → Prop) (w : World) (sb mb d : Nat) (hv : VK K) (hs : shapeF t d = true) (hB : ∀ b, S b → b < w.heap.size) (ht : Tm.at S w t v) (hst : Sto S w sb mb K) :
    Calls Tryz.prog 56 #[.pointer (some ⟨sb, 0, none⟩), v] w fun e w' => ∃ v', e = .returned v' ∧ Tm.at S w' x v' ∧ Ext w w' := by
  have HST := Lib.hid hst
  have HVK := Lib.hid hv
  have HS := Lib.hid hs
  have HW := Lib.hid hw
  have HB0 := Lib.hid hB
  clear hB
  obtain ⟨hs0, hs1, hs2, m0, hm0, hkm⟩ := hst
  have HKM := Lib.hid hkm
  have hsb := block_lt_of_cell hs0
  simp only at hsb
  have hmb := hkm.lt
  clear hkm hm0 hv hs hw
  obtain ⟨a, c, rfl⟩ := at_form ht
  have V := Lib.hid ht
  clear ht
  go_enter Tryz.func56, Tryz.ntmps56
  go_wp2_with fail
  go_loopg [] F (fun g wr => ∃ (cur : Tm) (ac : Option Addr) (cc e : Nat), Hid (walkF g K cur = some x) ∧ Hid (shapeF cur e = true) ∧ Hid (BoxT wr w.heap.size (.int .i64 cur.kind) (.int .i64 cur.n) (.string cur.name) (.slice ac cur.kids.length cc)) ∧
      Hid (Tm.at S wr cur (.agg #[.int .i64 cur.kind, .int .i64 cur.n, .string cur.name, .slice ac cur.kids.length cc])) ∧ Hid (BoxT wr (w.heap.size + 1) (.int .i64 0) (.int .i64 0) (.string ⟨#[]⟩) (.slice none 0 0)) ∧ Hid (Ext w wr))
  case atStart =>
    refine ⟨t, a, c, d, HW, HS, Lib.hid ?_, Lib.hid (Tm.at_ext ((Ext.alloc _ _).trans (Ext.alloc _ _)) V.out), Lib.hid ?_, Lib.hid ((Ext.alloc _ _).trans (Ext.alloc _ _))⟩
    · exact (BoxT.new w _ _ _ _ 26 rfl).ext (Ext.alloc _ _)
    · exact BoxT.new _ _ _ _ _ 26 (by simp)
  case round =>
    obtain ⟨cur, ac, cc, e, HWc, HSc, HP, HV, HR, HE⟩ := hrel
    obtain ⟨p0, p1, p2, p3, f0, f1, f2, f3⟩ := HP.out
    have lP := HP.out.lt
    have lsb : sb < wr.heap.size := Nat.lt_of_lt_of_le hsb (Below.size HE.out)
    have lR := HR.out.lt
    have hsr : w.heap.size + 1 < wr.heap.size := HR.out.lt
    obtain ⟨g, rfl⟩ : ∃ g, gk = g + 1 := by
      cases gk with
      | zero => exact absurd HWc.out (by simp [walkF])
      | succ g => exact ⟨g, rfl⟩
    by_cases hk : cur.kind = 1
    · have hb := shape_occ HSc.out hk
      have hk' : (cur.kind == 1) = true := by simp [hk]
      by_cases hz : (lookK K cur.n).kind = 0
      · have HX : Hid (cur = x) := Lib.hid (by
          have := HWc.out
          rw [walkF, if_neg (by rintro ⟨_, h⟩; exact h hz)] at this
          exact Option.some.inj this)
        have L1 := run_look_no (HKM.out.ext HE.out) hb hz
        have L2 := run_look_no ((HKM.out.ext HE.out).ext (Ext.drew _)) hb hz
        have L3 := run_look_no ((HKM.out.ext HE.out).ext (Ext.alloc _ (.cells #[.int .i64 0, .int .i64 0, .string ⟨#[]⟩, .slice none 0 0] 26))) hb hz
        have L4 := run_look_no (((HKM.out.ext HE.out).ext (Ext.alloc _ (.cells #[.int .i64 0, .int .i64 0, .string ⟨#[]⟩, .slice none 0 0] 26))).ext (Ext.drew _)) hb hz
        have s0 := HE.out.cell hs0
        clear hk hz
        go_wp2_with fail
        go_region_law (fail)
        all_goals
          obtain ⟨wq, hwq, eq⟩ : ∃ x, x = ((wr.alloc (.cells #[.int .i64 0, .int .i64 0, .string ⟨#[]⟩, .slice none 0 0] 26)).drew) ∧ Ext wr x := ⟨_, rfl, (Ext.alloc _ _).trans (Ext.drew _)⟩
          have HB := Lib.hid (show BoxT wq wr.heap.size (.int .i64 0) (.int .i64 0) (.string ⟨#[]⟩) (.slice none 0 0) by rw [hwq]; exact (BoxT.new wr _ _ _ _ 26 rfl).ext (Ext.drew _))
          rw [← hwq]
          clear hwq
          have HP := Lib.hid (HP.out.ext eq)
          have HV := Lib.hid (Tm.at_ext eq HV.out)
          have HR := Lib.hid (HR.out.ext eq)
          have HE := Lib.hid (HE.out.trans eq)
          clear eq L1 L2 L3 L4 s0 p0 p1 p2 p3 f0 f1 f2 f3
          obtain ⟨p0, p1, p2, p3, f0, f1, f2, f3⟩ := HP.out
          obtain ⟨r0, r1, r2, r3, g0, g1, g2, g3⟩ := HR.out
          go_wp2_with fail
          refine ret4_set (p := 4) (T := 26) (b := w.heap.size + 1) (by kernel_rfl) (fun _ => by kernel_rfl) (fun _ => by kernel_rfl) rfl rfl r0 r1 r2 r3 ?_
          intro X hX
          have f : Fr (fun k => k = w.heap.size + 1) wq X := Fr.of_grown hX (fun k e => by cases e; rfl)
          have hlo := HE.out
          refine ⟨_, rfl, ?_, ((Fr.of_ext HE.out).trans f).toExt (fun k hk h => by omega)⟩
          rw [← HX.out]
          exact f.at HV.out (fun k hk h => by have := HB0.out k hk; omega)
      · obtain ⟨ra, rc, hat, hrun⟩ := run_look_yes (HKM.out.ext HE.out) hb hz
        obtain ⟨r, hr⟩ : ∃ r, lookK K cur.n = r := ⟨_, rfl⟩
        obtain ⟨e', hsr'⟩ := HVK.out.2 _ hb.1 hb.2 hz
        have HWn : Hid (walkF g K r = some x) := Lib.hid (by
          have := HWc.out
          rw [walkF, if_pos ⟨hk, hz⟩, hr] at this
          exact this)
        rw [hr] at hat hrun hsr'
        have HSr := Lib.hid hsr'
        have HAT := Lib.hid hat
        have L1 := hrun _ (Ext.refl _)
        have L2 := hrun _ (Ext.drew _)
        have L3 := hrun _ (Ext.alloc _ (.cells #[.int .i64 0, .int .i64 0, .string ⟨#[]⟩, .slice none 0 0] 26))
        have L4 := hrun _ ((Ext.alloc _ (.cells #[.int .i64 0, .int .i64 0, .string ⟨#[]⟩, .slice none 0 0] 26)).trans (Ext.drew _))
        have s0 := HE.out.cell hs0
        clear hk hz hr hat hrun hsr'
        go_wp2_with fail
        go_region_law (fail)
        all_goals
          obtain ⟨wq, hwq, eq⟩ : ∃ x, x = ((wr.alloc (.cells #[.int .i64 r.kind, .int .i64 r.n, .string r.name, .slice ra r.kids.length rc] 26)).drew) ∧ Ext wr x := ⟨_, rfl, (Ext.alloc _ _).trans (Ext.drew _)⟩
          have HB := Lib.hid (show BoxT wq wr.heap.size (.int .i64 r.kind) (.int .i64 r.n) (.string r.name) (.slice ra r.kids.length rc) by rw [hwq]; exact (BoxT.new wr _ _ _ _ 26 rfl).ext (Ext.drew _))
          rw [← hwq]
          clear hwq
          have HP := Lib.hid (HP.out.ext eq)
          have HV := Lib.hid (Tm.at_ext eq HV.out)
          have HR := Lib.hid (HR.out.ext eq)
          have HE := Lib.hid (HE.out.trans eq)
          have HAT := Lib.hid (Tm.at_ext eq HAT.out)
          clear eq L1 L2 L3 L4 s0 p0 p1 p2 p3 f0 f1 f2 f3
          obtain ⟨p0, p1, p2, p3, f0, f1, f2, f3⟩ := HP.out
          obtain ⟨q0, q1, q2, q3, _, _, _, _⟩ := HB.out
          go_wp2_with fail
          have f4 : Fr (fun k => k = w.heap.size) wq _ := Fr.of_grown (set4_grown wq w.heap.size (.int .i64 r.kind) (.int .i64 r.n) (.string r.name) (.slice ra r.kids.length rc)) (fun k e => by cases e; rfl)
          go_roundg g
          case measure => omega
          case rel => exact ⟨r, ra, rc, e', HWn, HSr, Lib.hid (BoxT.put4 HP.out _ _ _ _), Lib.hid (f4.at HAT.out (fun k hk h => by have := HB0.out k hk; omega)), Lib.hid (HR.out.fr f4 (by omega)), Lib.hid (((Fr.of_ext HE.out).trans f4).toExt (fun k hk h => by omega))⟩
    · have HX : Hid (cur = x) := Lib.hid (by
        have := HWc.out
        rw [walkF, if_neg (by rintro ⟨h, _⟩; exact hk h)] at this
        exact Option.some.inj this)
      have hk' : (cur.kind == 1) = false := by simpa using hk
      obtain ⟨r0, r1, r2, r3, g0, g1, g2, g3⟩ := HR.out
      clear hk
      go_wp2_with fail
      refine ret4_set (p := 4) (T := 26) (b := w.heap.size + 1) (by kernel_rfl) (fun _ => by kernel_rfl) (fun _ => by kernel_rfl) rfl rfl r0 r1 r2 r3 ?_
      intro X hX
      have f : Fr (fun k => k = w.heap.size + 1) wr X := Fr.of_grown hX (fun k e => by cases e; rfl)
      refine ⟨_, rfl, ?_, ((Fr.of_ext HE.out).trans f).toExt (fun k hk h => by omega)⟩
      rw [← HX.out]
      exact f.at HV.out (fun k hk h => by have := HB0.out k hk; omega)
end Go.Proofs.YtognkaebiafgbaaGreat

namespace Go.Proofs.YtognkaebiafgbaaGreat
open Go.RowKit Go.Maps
set_option linter.unusedVariables false
open Classical in
noncomputable def occB (K : List Tm) (n : Int) (t : Tm) : Bool := decide (OccT K n t)
theorem occB_true {K : List Tm} {n : Int} {t : Tm} (h : OccT K n t) : occB K n t = true := by simp [occB, h]
theorem occB_false {K : List Tm} {n : Int} {t : Tm} (h : ¬ OccT K n t) : occB K n t = false := by simp [occB, h]
theorem occB_iff {K : List Tm} {n : Int} {t : Tm} : occB K n t = true ↔ OccT K n t := by simp [occB]
theorem occV_var {t : Tm} {d : Nat} {m : Int} (hs : shapeF t d = true) (hk : t.kind = 1) : occV m t ↔ m = t.n := by
  obtain ⟨k, n, s, ks⟩ := t
  obtain rfl : k = 1 := hk
  rcases shape_own hs with ⟨_, _, rfl⟩ | ⟨h, _⟩ | ⟨h, _⟩
  · simp only [occV, occL, or_false, true_and, Tm.n]; exact eq_comm
  · exact absurd h (by decide)
  · exact absurd h (by decide)
theorem occT_var {K : List Tm} {n : Int} {t : Tm} {d : Nat} (hs : shapeF t d = true) (hk : t.kind = 1) : OccT K n t ↔ Rch K n t.n := by
  constructor
  · rintro ⟨m, h1, h2⟩
    rw [occV_var hs hk] at h1
    rw [← h1]; exact h2
  · intro h; exact ⟨t.n, (occV_var hs hk).2 rfl, h⟩
theorem walk_occ {K : List Tm} {n : Int} (hv : VK K) (h0 : (lookK K n).kind = 0) : ∀ {f : Nat} {t x : Tm} {d : Nat}, shapeF t d = true → walkF f K t = some x → (OccT K n t ↔ OccT K n x)
  | 0, _, _, _, _, h => by simp [walkF] at h
  | f + 1, t, x, d, hs, h => by
    simp only [walkF] at h
    split at h
    · rename_i e
      have hb := shape_occ hs e.1
      obtain ⟨d', hs'⟩ := hv.2 _ hb.1 hb.2 e.2
      rw [← walk_occ hv h0 hs' h, occT_var hs e.1]
      constructor
      · intro hr
        exact (rch_bound (fun h => by rw [h] at e; exact e.2 h0) hr).2
      · rintro ⟨p, h1, h2⟩
        exact Rch.step hb.1 hb.2 e.2 h1 h2
    · cases h; exact Iff.rfl
def Met (w : World) (b : Nat) (M : List Tm) : Prop :=
  M.length = 26 ∧ ∃ n D, n + unb M ≤ 1000 ∧ w.ownsMap Tryz.prog 3 (plainElem Tryz.prog 4) b n D ∧ IsMap D ∧ ∀ m : Int, 0 ≤ m ∧ m ≤ 25 → D.atKey (.int .i64 m) (.lit (.bool false) : DataW Value) = .lit (.bool (!(lookK M m).kind == 0))
theorem Met.lt {w : World} {b : Nat} {M : List Tm} (h : Met w b M) : b < w.heap.size := by
  obtain ⟨_, n, D, _, h1, _⟩ := h
  exact h1.lt
theorem Met.fr {R : Nat → Prop} {w w' : World} {b : Nat} {M : List Tm} (h : Met w b M) (f : Fr R w w') (hR : ¬ R b) : Met w' b M := by
  obtain ⟨hl, n, D, hn, ⟨es, clock, h1, h2⟩, h3, h4⟩ := h
  have hlt : b < w.heap.size := (Array.getElem?_eq_some_iff.1 h1).1
  exact ⟨hl, n, D, hn, ⟨es, clock, (f.block b hlt hR).trans h1, h2⟩, h3, h4⟩
theorem Met.ext {w w' : World} {b : Nat} {M : List Tm} (h : Met w b M) (f : Ext w w') : Met w' b M := h.fr (R := fun _ => False) (Fr.of_ext f) (fun h => h)
theorem unb_le : ∀ K : List Tm, unb K ≤ K.length
  | [] => Nat.le_refl _
  | t :: K => by have := unb_le K; simp only [unb, List.length_cons]; split <;> omega
theorem Met.made (w : World) : Met (w.alloc (.map #[] 0)) w.heap.size known0 :=
  ⟨by simp [known0], 0, .map [], by have := unb_le known0; simp [known0] at this ⊢; omega, World.ownsMap_made _ _ _ _, isMap_empty, fun n hn => by rw [look_known0]; rfl⟩
theorem zero_bool (w : World) : (zeroValue 4).run Tryz.prog w = .ok (.bool false) w := by kernel_rfl
theorem run_met {w : World} {b : Nat} {M : List Tm} {m : Int} (h : Met w b M) (hm : 0 ≤ m ∧ m ≤ 25) : (Instr.lookup 97 (.map (some b)) (.int .i64 m) false).run Tryz.prog w = .ok (.bool (!(lookK M m).kind == 0)) w := by
  obtain ⟨hl, n, D, hn, h1, h3, h4⟩ := h
  obtain ⟨v, ps, hrun, hv⟩ := h1.lookup map_keyed Tryz.underlying97 (zero_bool w) (plainElem_bool Tryz.underlying4 false) (keyOf_int_mk Tryz.underlying3 (small_wf hm))
  rw [h4 m hm] at hv
  rw [hrun]
  cases v <;> simp [plainElem, Tryz.underlying4] at hv
  rw [hv.1]
theorem wp_put_met {w : World} {b : Nat} {M : List Tm} {n : Int} {ops : Array Oper} {rest : List Oper} {o : Oper} {a : Act} {Q : Exit → Act → World → Prop}
    (hg : o.guard = none) (m x v : Operand) (hop : o.op = Op.mapUpdate 97 m x v) (h : Met w b M) (hn : 0 ≤ n ∧ n ≤ 25) (h0 : (lookK M n).kind = 0) (hm : a.eval m = .map (some b)) (hx : a.eval x = .int .i64 n) (hv : a.eval v = .bool true)
    (hK : ∀ w', Met w' b (M.set n.toNat (varT 0)) → Fr (fun k => k = b) w w' → wpList Tryz.prog ops Q rest (a.put o.dst undef) w') : wpList Tryz.prog ops Q (o :: rest) a w := by
  obtain ⟨hl, c, D, hc, h1, h3, h4⟩ := h
  refine wpList_mapUpdate_own w hg m x v _ hop 3 4 map_keyed Tryz.underlying97 (plainElem Tryz.prog 4) b c D hm h1 (by unfold maxLen; omega) (.int .i64 n) (.bool true) (.int .i64 n) hx hv (keyOf_int_mk Tryz.underlying3 (small_wf hn)) (.lit (.bool true)) [] (plainElem_bool Tryz.underlying4 true) ?_
  intro w' ho hg'
  refine hK w' ⟨by simp [hl], c + 1, _, ?_, ho, h3.put _ _, fun i hi => ?_⟩ (Fr.of_grown hg' (fun k e => by cases e; rfl))
  · have := unb_set (u := varT 0) (look_get hl hn) h0 (by decide)
    omega
  · rw [look_set hl hn hi]
    split
    · rename_i e
      subst e
      rw [Maps.atKey_put_same h3 (by simp [WideAt.IsKeyLit])]
      rfl
    · rename_i e
      have hne : Lit.int .i64 i ≠ Lit.int .i64 n := by intro h; cases h; exact e rfl
      rw [Maps.atKey_put_other hne]
      exact h4 i hi
def MetOk (K : List Tm) (n : Int) (ρ : Int → Nat) (M : List Tm) (t : Tm) : Prop := ∀ m : Int, 0 ≤ m → m ≤ 25 → (lookK M m).kind ≠ 0 → ¬ Rch K n m ∨ ∀ p, occV p t → ρ p < ρ m
def MetTo (K : List Tm) (n : Int) (M M' : List Tm) : Prop := ∀ m : Int, 0 ≤ m → m ≤ 25 → (lookK M' m).kind ≠ 0 → (lookK M m).kind ≠ 0 ∨ ¬ Rch K n m
theorem MetTo.trans {K : List Tm} {n : Int} {A B C : List Tm} (h : MetTo K n A B) (g : MetTo K n B C) : MetTo K n A C := fun m h1 h2 h3 => by
  rcases g m h1 h2 h3 with h | h'
  · exact ‹MetTo K n A B› m h1 h2 h
  · exact .inr h'
theorem MetOk.to {K : List Tm} {n : Int} {ρ : Int → Nat} {M M' : List Tm} {t u : Tm} (h : MetOk K n ρ M t) (g : MetTo K n M M') (hu : ∀ p, occV p u → occV p t) : MetOk K n ρ M' u := fun m h1 h2 h3 => by
  rcases g m h1 h2 h3 with h4 | h4
  · rcases h m h1 h2 h4 with h5 | h5
    · exact .inl h5
    · exact .inr (fun p hp => h5 p (hu p hp))
  · exact .inl h4
def OccP (K : List Tm) (n : Int) (t : Tm) (M : List Tm) (b : Nat) (w : World) (e : Ending) (w' : World) : Prop :=
  e = .returned (.bool (occB K n t)) ∧ Fr (fun k => k = b) w w' ∧ (occB K n t = false → ∃ M', Met w' b M' ∧ MetTo K n M M')
def OccC (K : List Tm) (n : Int) (ρ : Int → Nat) (S : Nat → Prop) (sb mb b : Nat) (t : Tm) : Prop :=
  ∀ (v : Value) (M : List Tm) (w : World) (d : Nat), shapeF t d = true → Tm.at S w t v → (∀ b, S b → b < w.heap.size) → Sto S w sb mb K → Met w b M → MetOk K n ρ M t →
    Calls Tryz.prog 71 #[.pointer (some ⟨sb, 0, none⟩), .int .i64 n, v, .map (some b)] w (OccP K n t M b w)
end Go.Proofs.YtognkaebiafgbaaGreat
