/-
  ShiftTerm: the program's and the reference's.
-/
import Derived.Test.YtagaciadcgijoaaShift
namespace Go.Proofs.Ytagaciadcgijoaa
open Go.RowKit
set_option linter.unusedVariables false

def shiftB (t : Tm) (m : Int) : Bool := validF t && (decide (-25 ≤ m) && decide (m ≤ 25)) && validF (shiftS m t)
def shiftR (t : Tm) (m : Int) : Tm := if shiftB t m = true then shiftS m t else zeroT
theorem shift_no {t : Tm} {m : Int} (h : shiftB t m = false) : shiftR t m = zeroT := by unfold shiftR; rw [if_neg (by rw [h]; simp)]
theorem shift_yes {t : Tm} {m : Int} (h : shiftB t m = true) : shiftR t m = shiftS m t := by unfold shiftR; rw [if_pos h]
theorem kids_sz (t : Tm) : Tm.szL t.kids < Tm.sz t := by cases t; simp only [Tm.sz, Tm.kids]; omega
theorem shiftR_sz (t : Tm) (m : Int) : Tm.szL (shiftR t m).kids ≤ 120 := by
  cases h : shiftB t m
  · rw [shift_no h]
    simp [zeroT, Tm.kids, Tm.szL]
  · rw [shift_yes h]
    unfold shiftB at h
    simp only [Bool.and_eq_true] at h
    have h1 := valid_sz h.2
    have h2 := kids_sz (shiftS m t)
    omega

set_option maxRecDepth 100000 in
theorem implShiftClo (n m : Int) (b : Nat) (w : World) (h0 : 0 ≤ n) (h1 : n ≤ 25) (h2 : -25 ≤ m) (h3 : m ≤ 25) (hc : w.cell? ⟨b, 0, none⟩ = some (.int .i64 m)) : Calls Try.prog 83 #[.int .i64 n, .pointer (some ⟨b, 0, none⟩)] w (TmO (varT (n + m)) w) := by
  have hb := block_lt_of_cell hc
  simp only at hb
  go_enter Try.func83, Try.ntmps83
  go_wp2_with fail
  refine (implvariable (n + m) _).mono ?_
  rintro e w1 ⟨a1, c1, rfl, ho, e1⟩
  obtain ⟨r0, r1, r2, r3, z0, z1, z2, z3⟩ := (BoxT.new w (.int .i64 0) (.int .i64 0) (.string ⟨#[]⟩) (.slice none 0 0) 25 rfl).ext e1
  have HO := Lib.hid ho
  have E1 := Lib.hid ((Ext.alloc _ _).trans e1)
  have hz1 : w.heap.size + 1 ≤ w1.heap.size := by have := Below.size e1; simpa using this
  clear ho e1
  go_wp2_with fail
  refine ret4_set (p := 3) (T := 25) (b := w.heap.size) (by kernel_rfl) (fun _ => by kernel_rfl) (fun _ => by kernel_rfl) rfl rfl r0 r1 r2 r3 ?_
  intro X hX
  have f : Fr (fun b => b = w.heap.size) w1 X := Fr.of_grown hX (fun k e => by cases e; rfl)
  refine ⟨_, _, rfl, own_mono (fun b hb => ?_) f (fun b hb h => ?_) _ _ HO.out, ((Fr.of_ext E1.out).trans f).toExt (fun k hk h => by omega)⟩
  · simp at hb; omega
  · simp at hb; omega

set_option maxRecDepth 100000 in
set_option maxHeartbeats 4000000 in
theorem implShiftTerm (t : Tm) (m : Int) (v : Value) (S : Nat → Prop) (w : World) (hm1 : -9223372036854775808 ≤ m) (hm2 : m ≤ 9223372036854775807) (ht : Tm.at S w t v) : Calls Try.prog 33 #[v, .int .i64 m] w (TmBO (shiftR t m) (shiftB t m) w) := by
  obtain ⟨a0, c0, rfl⟩ := at_form ht
  have V := Lib.hid (Tm.at_ext (((Ext.alloc w (.cells #[.int .i64 t.kind, .int .i64 t.n, .string t.name, .slice a0 t.kids.length c0] 25)).trans (Ext.alloc _ (.cells #[.int .i64 m] 3))).trans (Ext.alloc _ (.cells #[.int .i64 0, .int .i64 0, .string ⟨#[]⟩, .slice none 0 0] 25))) ht)
  clear ht
  cases hv : validF t
  all_goals
    have HV := Lib.hid hv
    clear hv
    go_enter Try.func33, Try.ntmps33
    go_wp2_with fail
    refine (implTermValid t _ _ _ V.out).mono ?_
    rw [HV.out]
    rintro e w1 ⟨rfl, e1⟩
    have X := Lib.hid ((((BoxT.new w (.int .i64 t.kind) (.int .i64 t.n) (.string t.name) (.slice a0 t.kids.length c0) 25 rfl).ext (Ext.alloc _ (.cells #[.int .i64 m] 3))).ext (Ext.alloc _ (.cells #[.int .i64 0, .int .i64 0, .string ⟨#[]⟩, .slice none 0 0] 25))).ext e1)
    have m1 := e1.cell (a := ⟨w.heap.size + 1, 0, none⟩) (v := .int .i64 m) (by go_simp)
    have Y := Lib.hid ((BoxT.new ((w.alloc (.cells #[.int .i64 t.kind, .int .i64 t.n, .string t.name, .slice a0 t.kids.length c0] 25)).alloc (.cells #[.int .i64 m] 3)) (.int .i64 0) (.int .i64 0) (.string ⟨#[]⟩) (.slice none 0 0) 25 (b := w.heap.size + 1 + 1) (by simp)).ext e1)
    have V := Lib.hid (Tm.at_ext e1 V.out)
    have E := Lib.hid ((((Ext.alloc _ _).trans (Ext.alloc _ _)).trans (Ext.alloc _ _)).trans e1)
    have hs1 : w.heap.size + 1 + 1 + 1 ≤ w1.heap.size := by have := Below.size e1; simp at this; omega
    clear e1
    obtain ⟨x0, x1, x2, x3, _, _, _, _⟩ := X.out
    obtain ⟨y0, y1, y2, y3, yf0, yf1, yf2, yf3⟩ := Y.out
  · have HB : Hid (shiftB t m = false) := Lib.hid (by unfold shiftB; rw [HV.out]; simp)
    go_wp2_with fail
    refine ret4b_set (p := 4) (q := 5) (T := 25) (by kernel_rfl) (fun _ => by kernel_rfl) (fun _ => by kernel_rfl) rfl rfl rfl Y.out ?_
    intro X f
    rw [shift_no HB.out, HB.out]
    exact ⟨none, 0, rfl, own_nil _ _ _ _ _ (by decide), ((Fr.of_ext E.out).trans f).toExt (fun k hk h => by omega)⟩
  · by_cases hm : -25 ≤ m ∧ m ≤ 25
    · obtain ⟨hma, hmb⟩ := hm
      have HCL : Hid (CloC 83 #[.pointer (some ⟨w.heap.size + 1, 0, none⟩)] (fun n => varT (n + m)) w1) := Lib.hid (fun n w' h0 h1 e' => implShiftClo n m _ w' h0 h1 hma hmb (e'.cell m1))
      have HQ := Lib.hid (shift_eq m t 30 (valid_shape HV.out))
      go_wp2_with (go_at_call 81; refine (implwithin _ _ _ _).mono ?_; rintro e w' ⟨rfl, rfl⟩)
      refine (implmapVars (fun n => varT (n + m)) _ t (Nat.le_refl _) _ _ _ 30 _ _ (valid_shape HV.out) V.out (fun _ _ => by kernel_rfl) HCL.out).mono ?_
      rw [HQ.out]
      rintro e w2 ⟨a2, c2, rfl, ho, e2⟩
      have V2 := Lib.hid (Tm.at_ext (Ext.alloc w2 (.cells #[.int .i64 (shiftS m t).kind, .int .i64 (shiftS m t).n, .string (shiftS m t).name, .slice a2 (shiftS m t).kids.length c2] 25)) (own_flat _ _ _ ho))
      have HO := Lib.hid ho
      have Z := Lib.hid (BoxT.new w2 (.int .i64 (shiftS m t).kind) (.int .i64 (shiftS m t).n) (.string (shiftS m t).name) (.slice a2 (shiftS m t).kids.length c2) 25 rfl)
      have q2 := e2.trans (Ext.alloc w2 (.cells #[.int .i64 (shiftS m t).kind, .int .i64 (shiftS m t).n, .string (shiftS m t).name, .slice a2 (shiftS m t).kids.length c2] 25))
      have Y := Lib.hid (Y.out.ext q2)
      have E := Lib.hid (E.out.trans q2)
      have hs2 : w1.heap.size ≤ w2.heap.size := Below.size e2
      clear ho e2 q2 x0 x1 x2 x3 y0 y1 y2 y3 yf0 yf1 yf2 yf3 m1
      cases hv2 : validF (shiftS m t)
      all_goals
        have HV2 := Lib.hid hv2
        clear hv2
        go_wp2_with fail
        refine (implTermValid (shiftS m t) _ _ _ V2.out).mono ?_
        rw [HV2.out]
        rintro e w3 ⟨rfl, e3⟩
        have Y := Lib.hid (Y.out.ext e3)
        have Z := Lib.hid (Z.out.ext e3)
        have E := Lib.hid (E.out.trans e3)
        have HO := Lib.hid (own_ext1 HO.out ((Ext.alloc _ _).trans e3))
        clear e3
        obtain ⟨y0, y1, y2, y3, yf0, yf1, yf2, yf3⟩ := Y.out
        obtain ⟨z0, z1, z2, z3, _, _, _, _⟩ := Z.out
        go_wp2_with fail
        refine ret4b_set (p := 4) (q := 5) (T := 25) (by kernel_rfl) (fun _ => by kernel_rfl) (fun _ => by kernel_rfl) rfl rfl rfl Y.out ?_
        intro X f
      · have hB : shiftB t m = false := by unfold shiftB; rw [HV2.out]; simp
        rw [shift_no hB, hB]
        exact ⟨none, 0, rfl, own_nil _ _ _ _ _ (by decide), ((Fr.of_ext E.out).trans f).toExt (fun k hk h => by omega)⟩
      · have hB : shiftB t m = true := by unfold shiftB; rw [HV.out, HV2.out]; simp [hma, hmb]
        rw [shift_yes hB, hB]
        exact ⟨_, _, rfl, own_mono (fun b hb => by omega) f (fun b hb h => by omega) _ _ HO.out, ((Fr.of_ext E.out).trans f).toExt (fun k hk h => by omega)⟩
    · have HB : Hid (shiftB t m = false) := Lib.hid (by unfold shiftB; rw [HV.out]; simp; intro h1 h2; exact absurd ⟨h1, h2⟩ hm)
      have hq : (decide (-25 ≤ m) && decide (m ≤ 25)) = false := by simp; intro h1; omega
      clear hm
      go_wp2_with (go_at_call 81; refine (implwithin _ _ _ _).mono ?_; rw [hq]; rintro e w' ⟨rfl, rfl⟩)
      refine ret4b_set (p := 4) (q := 5) (T := 25) (by kernel_rfl) (fun _ => by kernel_rfl) (fun _ => by kernel_rfl) rfl rfl rfl Y.out ?_
      intro X f
      rw [shift_no HB.out, HB.out]
      exact ⟨none, 0, rfl, own_nil _ _ _ _ _ (by decide), ((Fr.of_ext E.out).trans f).toExt (fun k hk h => by omega)⟩

set_option maxRecDepth 100000 in
set_option maxHeartbeats 4000000 in
theorem specShiftTerm (t : Tm) (m : Int) (v : Value) (S : Nat → Prop) (w : World) (hm1 : -9223372036854775808 ≤ m) (hm2 : m ≤ 9223372036854775807) (ht : Tm.at S w t v) : Calls Try.prog 34 #[v, .int .i64 m] w (TmBO (shiftR t m) (shiftB t m) w) := by
  obtain ⟨a0, c0, rfl⟩ := at_form ht
  have V := Lib.hid (Tm.at_ext ((Ext.alloc w (.cells #[.int .i64 t.kind, .int .i64 t.n, .string t.name, .slice a0 t.kids.length c0] 25)).trans (Ext.alloc _ (.cells #[.int .i64 0, .int .i64 0, .string ⟨#[]⟩, .slice none 0 0] 25))) ht)
  clear ht
  cases hv : validF t
  all_goals
    have HV := Lib.hid hv
    clear hv
    go_enter Try.func34, Try.ntmps34
    go_wp2_with fail
    refine (specTermValid t _ _ _ V.out).mono ?_
    rw [HV.out]
    rintro e w1 ⟨rfl, e1⟩
    have X := Lib.hid (((BoxT.new w (.int .i64 t.kind) (.int .i64 t.n) (.string t.name) (.slice a0 t.kids.length c0) 25 rfl).ext (Ext.alloc _ (.cells #[.int .i64 0, .int .i64 0, .string ⟨#[]⟩, .slice none 0 0] 25))).ext e1)
    have Y := Lib.hid ((BoxT.new (w.alloc (.cells #[.int .i64 t.kind, .int .i64 t.n, .string t.name, .slice a0 t.kids.length c0] 25)) (.int .i64 0) (.int .i64 0) (.string ⟨#[]⟩) (.slice none 0 0) 25 (b := w.heap.size + 1) (by simp)).ext e1)
    have V := Lib.hid (Tm.at_ext e1 V.out)
    have E := Lib.hid (((Ext.alloc _ _).trans (Ext.alloc _ _)).trans e1)
    have hs1 : w.heap.size + 1 + 1 ≤ w1.heap.size := by have := Below.size e1; simp at this; omega
    clear e1
    obtain ⟨x0, x1, x2, x3, _, _, _, _⟩ := X.out
    obtain ⟨y0, y1, y2, y3, yf0, yf1, yf2, yf3⟩ := Y.out
  · have HB : Hid (shiftB t m = false) := Lib.hid (by unfold shiftB; rw [HV.out]; simp)
    go_wp2_with fail
    refine ret4b_set (p := 4) (q := 5) (T := 25) (by kernel_rfl) (fun _ => by kernel_rfl) (fun _ => by kernel_rfl) rfl rfl rfl Y.out ?_
    intro X f
    rw [shift_no HB.out, HB.out]
    exact ⟨none, 0, rfl, own_nil _ _ _ _ _ (by decide), ((Fr.of_ext E.out).trans f).toExt (fun k hk h => by omega)⟩
  · by_cases hma : -25 ≤ m
    · by_cases hmb : m ≤ 25
      · go_wp2_with fail
        refine (specl3Shift m hma hmb _ t (Nat.le_refl _) _ _ _ 30 (valid_shape HV.out) V.out).mono ?_
        rintro e w2 ⟨a2, c2, rfl, ho, e2⟩
        have V2 := Lib.hid (Tm.at_ext (Ext.alloc w2 (.cells #[.int .i64 (shiftS m t).kind, .int .i64 (shiftS m t).n, .string (shiftS m t).name, .slice a2 (shiftS m t).kids.length c2] 25)) (own_flat _ _ _ ho))
        have HO := Lib.hid ho
        have Z := Lib.hid (BoxT.new w2 (.int .i64 (shiftS m t).kind) (.int .i64 (shiftS m t).n) (.string (shiftS m t).name) (.slice a2 (shiftS m t).kids.length c2) 25 rfl)
        have q2 := e2.trans (Ext.alloc w2 (.cells #[.int .i64 (shiftS m t).kind, .int .i64 (shiftS m t).n, .string (shiftS m t).name, .slice a2 (shiftS m t).kids.length c2] 25))
        have Y := Lib.hid (Y.out.ext q2)
        have E := Lib.hid (E.out.trans q2)
        have hs2 : w1.heap.size ≤ w2.heap.size := Below.size e2
        clear ho e2 q2 x0 x1 x2 x3 y0 y1 y2 y3 yf0 yf1 yf2 yf3
        cases hv2 : validF (shiftS m t)
        all_goals
          have HV2 := Lib.hid hv2
          clear hv2
          go_wp2_with fail
          refine (specTermValid (shiftS m t) _ _ _ V2.out).mono ?_
          rw [HV2.out]
          rintro e w3 ⟨rfl, e3⟩
          have Y := Lib.hid (Y.out.ext e3)
          have Z := Lib.hid (Z.out.ext e3)
          have E := Lib.hid (E.out.trans e3)
          have HO := Lib.hid (own_ext1 HO.out ((Ext.alloc _ _).trans e3))
          clear e3
          obtain ⟨y0, y1, y2, y3, yf0, yf1, yf2, yf3⟩ := Y.out
          obtain ⟨z0, z1, z2, z3, _, _, _, _⟩ := Z.out
          go_wp2_with fail
          refine ret4b_set (p := 4) (q := 5) (T := 25) (by kernel_rfl) (fun _ => by kernel_rfl) (fun _ => by kernel_rfl) rfl rfl rfl Y.out ?_
          intro X f
        · have hB : shiftB t m = false := by unfold shiftB; rw [HV2.out]; simp
          rw [shift_no hB, hB]
          exact ⟨none, 0, rfl, own_nil _ _ _ _ _ (by decide), ((Fr.of_ext E.out).trans f).toExt (fun k hk h => by omega)⟩
        · have hB : shiftB t m = true := by unfold shiftB; rw [HV.out, HV2.out]; simp [hma, hmb]
          rw [shift_yes hB, hB]
          exact ⟨_, _, rfl, own_mono (fun b hb => by omega) f (fun b hb h => by omega) _ _ HO.out, ((Fr.of_ext E.out).trans f).toExt (fun k hk h => by omega)⟩
      · have HB : Hid (shiftB t m = false) := Lib.hid (by unfold shiftB; rw [HV.out]; simp; intro h1 h2; exact absurd h2 hmb)
        go_wp2_with fail
        refine ret4b_set (p := 4) (q := 5) (T := 25) (by kernel_rfl) (fun _ => by kernel_rfl) (fun _ => by kernel_rfl) rfl rfl rfl Y.out ?_
        intro X f
        rw [shift_no HB.out, HB.out]
        exact ⟨none, 0, rfl, own_nil _ _ _ _ _ (by decide), ((Fr.of_ext E.out).trans f).toExt (fun k hk h => by omega)⟩
    · have HB : Hid (shiftB t m = false) := Lib.hid (by unfold shiftB; rw [HV.out]; simp; intro h1; exact absurd h1 hma)
      go_wp2_with fail
      refine ret4b_set (p := 4) (q := 5) (T := 25) (by kernel_rfl) (fun _ => by kernel_rfl) (fun _ => by kernel_rfl) rfl rfl rfl Y.out ?_
      intro X f
      rw [shift_no HB.out, HB.out]
      exact ⟨none, 0, rfl, own_nil _ _ _ _ _ (by decide), ((Fr.of_ext E.out).trans f).toExt (fun k hk h => by omega)⟩

end Go.Proofs.Ytagaciadcgijoaa
