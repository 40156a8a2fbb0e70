/-
  The program's reader: its box, stop, next, skip.
-/
import Derived.Test.YtognkaebiafgbaaGreatDoorMq8
import Derived.Test.YtognkaebiafgbaaGreatDoorMq9
namespace Go.Proofs.YtognkaebiafgbaaGreatDoor
open Go.RowKit
set_option linter.unusedVariables false
def zT : Tm := .mk 0 0 ⟨#[]⟩ []
def nextB : Option (List UInt8) → UInt8
  | some (b :: _) => b
  | _ => 0
def RdW (rb : Nat) (s : ByteArray) (o : Bool) (X : Option (List UInt8)) (w : World) : Prop :=
  ∃ i bad : Int, BoxT w rb (.string s) (.int .i64 i) (.int .i64 bad) (.bool o) ∧ (∀ r, X = some r → bad = -1 ∧ 0 ≤ i ∧ i ≤ s.size ∧ s.toList.drop i.toNat = r) ∧ (X = none → 0 ≤ bad)
theorem RdW.good {rb : Nat} {s : ByteArray} {o : Bool} {r : List UInt8} {w : World} (h : RdW rb s o (some r) w) : ∃ n : Nat, n ≤ s.size ∧ s.toList.drop n = r ∧ BoxT w rb (.string s) (.int .i64 n) (.int .i64 (-1)) (.bool o) := by
  obtain ⟨i, bad, hb, h1, _⟩ := h
  obtain ⟨rfl, h2, h3, h4⟩ := h1 r rfl
  obtain ⟨n, rfl⟩ := Int.eq_ofNat_of_zero_le h2
  exact ⟨n, by omega, by simpa using h4, hb⟩
theorem RdW.mk {rb : Nat} {s : ByteArray} {o : Bool} {r : List UInt8} {w : World} {n : Nat} (h1 : n ≤ s.size) (h2 : s.toList.drop n = r) (h3 : BoxT w rb (.string s) (.int .i64 n) (.int .i64 (-1)) (.bool o)) : RdW rb s o (some r) w := by
  refine ⟨n, -1, h3, ?_, ?_⟩
  · intro q e; cases e; exact ⟨rfl, by omega, by omega, by simpa using h2⟩
  · intro e; cases e
theorem RdW.bad {rb : Nat} {s : ByteArray} {o : Bool} {w : World} (h : RdW rb s o none w) : ∃ i bad : Int, 0 ≤ bad ∧ BoxT w rb (.string s) (.int .i64 i) (.int .i64 bad) (.bool o) := by
  obtain ⟨i, bad, hb, _, h1⟩ := h
  exact ⟨i, bad, h1 rfl, hb⟩
theorem RdW.mkBad {rb : Nat} {s : ByteArray} {o : Bool} {w : World} {i bad : Int} (h : 0 ≤ bad) (hb : BoxT w rb (.string s) (.int .i64 i) (.int .i64 bad) (.bool o)) : RdW rb s o none w := by
  refine ⟨i, bad, hb, ?_, fun _ => h⟩
  intro q e; cases e
theorem RdW.lt {rb : Nat} {s : ByteArray} {o : Bool} {X : Option (List UInt8)} {w : World} (h : RdW rb s o X w) : rb < w.heap.size := by
  obtain ⟨i, bad, hb, _⟩ := h
  exact hb.lt
theorem RdW.fr {M : Nat → Prop} {rb : Nat} {s : ByteArray} {o : Bool} {X : Option (List UInt8)} {w w' : World} (h : RdW rb s o X w) (f : Fr M w w') (hm : ¬ M rb) : RdW rb s o X w' := by
  obtain ⟨i, bad, hb, h1⟩ := h
  exact ⟨i, bad, hb.fr f hm, h1⟩
theorem RdW.ext {rb : Nat} {s : ByteArray} {o : Bool} {X : Option (List UInt8)} {w w' : World} (h : RdW rb s o X w) (e : Ext w w') : RdW rb s o X w' := h.fr (M := fun _ => False) (Fr.of_ext e) (fun h => h)
theorem BoxT.set2 {w : World} {b : Nat} {v0 v1 v2 v3 : Value} (h : BoxT w b v0 v1 v2 v3) (u : Value) : BoxT (w.setCell ⟨b, 2, none⟩ u) b v0 v1 u v3 := by
  obtain ⟨c0, c1, c2, c3, f0, f1, f2, f3⟩ := h
  exact ⟨cell_off (by decide) c0, cell_off (by decide) c1, cell_same c2, cell_off (by decide) c3, by rw [World.frozen?_setCell]; exact f0, by rw [World.frozen?_setCell]; exact f1, by rw [World.frozen?_setCell]; exact f2, by rw [World.frozen?_setCell]; exact f3⟩
theorem BoxT.setAt {w : World} {b : Nat} {v0 v1 v2 v3 : Value} (h : BoxT w b v0 v1 v2 v3) (u : Value) : BoxT (w.setCell ⟨b, 1, none⟩ u) b v0 u v2 v3 := by
  obtain ⟨c0, c1, c2, c3, f0, f1, f2, f3⟩ := h
  exact ⟨cell_off (by decide) c0, cell_same c1, cell_off (by decide) c2, cell_off (by decide) c3, by rw [World.frozen?_setCell]; exact f0, by rw [World.frozen?_setCell]; exact f1, by rw [World.frozen?_setCell]; exact f2, by rw [World.frozen?_setCell]; exact f3⟩
def RdTm (rb : Nat) (s : ByteArray) (o : Bool) (X : Option (Tm × List UInt8)) (w : World) (e : Ending) (w' : World) : Prop :=
  ∃ t a c, e = .returned (.agg #[.int .i64 t.kind, .int .i64 t.n, .string t.name, .slice a t.kids.length c]) ∧ Tm.own (fun b => w.heap.size ≤ b) w' t (.slice a t.kids.length c) ∧ Fr (fun k => k = rb) w w' ∧ RdW rb s o (X.map Prod.snd) w' ∧ (∀ u r, X = some (u, r) → t = u)
theorem tm_zero {rb : Nat} {s : ByteArray} {o : Bool} {w Y : World} {e : Ending} (he : e = .returned (.agg #[.int .i64 0, .int .i64 0, .string ⟨#[]⟩, .slice none 0 0])) (f : Fr (fun k => k = rb) w Y) (hr : RdW rb s o none Y) : RdTm rb s o none w e Y :=
  ⟨zT, none, 0, he, own_nil _ _ _ _ _ (by decide), f, hr, fun u r h => by cases h⟩
set_option maxRecDepth 100000 in
set_option maxHeartbeats 1000000 in
theorem implstop {rb : Nat} {s : ByteArray} {o : Bool} {X : Option (List UInt8)} {n : Int} {w : World} (hn : 0 ≤ n) (h : RdW rb s o X w) :
    Calls Tryz.prog 105 #[.pointer (some ⟨rb, 0, none⟩), .int .i64 n] w (RdTm rb s o none w) := by
  obtain ⟨i, bad, hb, _, _⟩ := h
  have hlt := hb.lt
  have HB := Lib.hid hb
  obtain ⟨c0, c1, c2, c3, f0, f1, f2, f3⟩ := hb
  by_cases hbad : bad < 0
  · go_enter Tryz.func105, Tryz.ntmps105
    go_wp2_with fail
    refine ret4 (p := 4) (T := 25) (b := w.heap.size) (v0 := .int .i64 0) (v1 := .int .i64 0) (v2 := .string ⟨#[]⟩) (v3 := .slice none 0 0) (by kernel_rfl) (fun _ => by kernel_rfl) (fun _ => by kernel_rfl) rfl rfl (by go_simp) (by go_simp) (by go_simp) (by go_simp) ?_
    exact tm_zero rfl ((Fr.setCell (M := fun k => k = rb) _ rfl).trans (Fr.alloc _ _)) (RdW.mkBad hn ((HB.out.set2 _).ext (Ext.alloc _ _)))
  · go_enter Tryz.func105, Tryz.ntmps105
    go_wp2_with fail
    refine ret4 (p := 4) (T := 25) (b := w.heap.size) (v0 := .int .i64 0) (v1 := .int .i64 0) (v2 := .string ⟨#[]⟩) (v3 := .slice none 0 0) (by kernel_rfl) (fun _ => by kernel_rfl) (fun _ => by kernel_rfl) rfl rfl (by go_simp) (by go_simp) (by go_simp) (by go_simp) ?_
    exact tm_zero rfl (Fr.alloc _ _) (RdW.mkBad (by omega) (HB.out.ext (Ext.alloc _ _)))
theorem implstop' {rb : Nat} {s : ByteArray} {o : Bool} {X : Option (List UInt8)} {w : World} {i bad : Int} (h : RdW rb s o X w) (hb : BoxT w rb (.string s) (.int .i64 i) (.int .i64 bad) (.bool o)) (hi : bad = -1 ∧ 0 ≤ i ∨ 0 ≤ bad) :
    Calls Tryz.prog 105 #[.pointer (some ⟨rb, 0, none⟩), .int .i64 i] w (RdTm rb s o none w) := by
  rcases hi with ⟨_, hi⟩ | hbad
  · exact implstop hi h
  · have hlt := hb.lt
    have HB := Lib.hid hb
    obtain ⟨c0, c1, c2, c3, f0, f1, f2, f3⟩ := hb
    go_enter Tryz.func105, Tryz.ntmps105
    go_wp2_with fail
    refine ret4 (p := 4) (T := 25) (b := w.heap.size) (v0 := .int .i64 0) (v1 := .int .i64 0) (v2 := .string ⟨#[]⟩) (v3 := .slice none 0 0) (by kernel_rfl) (fun _ => by kernel_rfl) (fun _ => by kernel_rfl) rfl rfl (by go_simp) (by go_simp) (by go_simp) (by go_simp) ?_
    exact tm_zero rfl (Fr.alloc _ _) (RdW.mkBad (by omega) (HB.out.ext (Ext.alloc _ _)))
theorem drop_cons {s : ByteArray} {n : Nat} {b : UInt8} {r : List UInt8} (h : s.toList.drop n = b :: r) : ∃ hl : n < s.size, s[n] = b ∧ s.toList.drop (n + 1) = r := by
  have hl : n < s.toList.length := by
    apply Decidable.byContradiction
    intro hn
    rw [List.drop_eq_nil_of_le (by omega)] at h
    cases h
  have h2 := h
  rw [List.drop_eq_getElem_cons hl] at h2
  injection h2 with h3 h4
  rw [bl_len] at hl
  exact ⟨hl, by rw [← bl_get s n hl]; exact h3, h4⟩
theorem drop_nil {s : ByteArray} {n : Nat} (h : s.toList.drop n = []) : s.size ≤ n := by
  have := List.drop_eq_nil_iff.1 h
  rwa [bl_len] at this
set_option maxRecDepth 100000 in
set_option maxHeartbeats 1000000 in
theorem implnext {rb : Nat} {s : ByteArray} {o : Bool} {X : Option (List UInt8)} {w : World} (hs : s.size ≤ 4000) (h : RdW rb s o X w) :
    Calls Tryz.prog 58 #[.pointer (some ⟨rb, 0, none⟩)] w fun e w' => e = .returned (.int .u8 (nextB X).toNat) ∧ Ext w w' := by
  have hlt := h.lt
  cases X with
  | none =>
    obtain ⟨i, bad, hbad, hb⟩ := h.bad
    clear h
    obtain ⟨c0, c1, c2, c3, _⟩ := hb
    have k0 := cell_regrown c0
    have k1 := cell_regrown c1
    have k2 := cell_regrown c2
    go_enter Tryz.func58, Tryz.ntmps58
    go_wp2_with fail
    refine region_ext (by kernel_rfl) (by kernel_rfl) ?_
    repeat (go_big_quiet_step (fail))
    refine wpQuiet_nil ?_
    intro w1 e1
    go_wp2_with fail
    go_ret
    exact ⟨rfl, e1⟩
  | some r =>
    obtain ⟨n, h1, h2, hb⟩ := h.good
    clear h
    obtain ⟨c0, c1, c2, c3, _⟩ := hb
    have k0 := cell_regrown c0
    have k1 := cell_regrown c1
    have k2 := cell_regrown c2
    cases r with
    | nil =>
      have h3 := drop_nil h2
      clear h2
      go_enter Tryz.func58, Tryz.ntmps58
      go_wp2_with fail
      refine region_ext (by kernel_rfl) (by kernel_rfl) ?_
      repeat (go_big_quiet_step (fail))
      refine wpQuiet_nil ?_
      intro w1 e1
      go_wp2_with fail
      go_ret
      exact ⟨rfl, e1⟩
    | cons b r =>
      obtain ⟨h3, h4, _⟩ := drop_cons h2
      have H4 := Lib.hid h4
      clear h2 h4
      go_enter Tryz.func58, Tryz.ntmps58
      go_wp2_with fail
      refine region_ext (by kernel_rfl) (by kernel_rfl) ?_
      repeat (go_big_quiet_step (fail))
      refine wpQuiet_nil ?_
      intro w1 e1
      have d0 := e1.cell c0
      have d1 := e1.cell c1
      have k0 := cell_regrown d0
      have k1 := cell_regrown d1
      go_wp2_with fail
      refine region_ext (by kernel_rfl) (by kernel_rfl) ?_
      repeat (go_big_quiet_step (fail))
      refine wpQuiet_nil ?_
      intro w2 e2
      go_wp2_with fail
      go_ret
      exact ⟨by rw [← H4.out]; rfl, e1.trans e2⟩
def skipX (b : UInt8) : Option (List UInt8) → Option (List UInt8)
  | some (c :: r) => if c = b then some r else none
  | _ => none
theorem skip_no {b : UInt8} {X : Option (List UInt8)} (h : nextB X ≠ b) : skipX b X = none := by
  cases X with
  | none => rfl
  | some r =>
    cases r with
    | nil => rfl
    | cons c r =>
      have : ¬ c = b := h
      simp only [skipX, if_neg this]
theorem next_yes {b : UInt8} {X : Option (List UInt8)} (hb : b ≠ 0) (h : nextB X = b) : ∃ r, X = some (b :: r) := by
  cases X with
  | none => exact absurd h.symm hb
  | some r =>
    cases r with
    | nil => exact absurd h.symm hb
    | cons c r => exact ⟨r, by rw [← h]; rfl⟩
theorem u8_beq (a b : UInt8) : ((a.toNat : Int) == (b.toNat : Int)) = decide (a = b) := by
  rw [Bool.eq_iff_iff]
  simp only [beq_iff_eq, decide_eq_true_eq]
  constructor
  · intro h; exact UInt8.toNat_inj.1 (by omega)
  · rintro rfl; rfl
theorem RdW.step {rb : Nat} {s : ByteArray} {o : Bool} {w : World} {n : Nat} {b : UInt8} {r : List UInt8} (hb : BoxT w rb (.string s) (.int .i64 n) (.int .i64 (-1)) (.bool o)) (h : s.toList.drop n = b :: r) {u : Value} (hu : u = .int .i64 ((n : Int) + 1)) : RdW rb s o (some r) (w.setCell ⟨rb, 1, none⟩ u) := by
  subst hu
  obtain ⟨h1, _, h2⟩ := drop_cons h
  exact RdW.mk (n := n + 1) (by omega) h2 (hb.setAt _)
set_option maxRecDepth 100000 in
set_option maxHeartbeats 1000000 in
theorem implskip {rb : Nat} {s : ByteArray} {o : Bool} {X : Option (List UInt8)} {b : UInt8} {m : Int} {w : World} (hs : s.size ≤ 4000) (hb0 : b ≠ 0) (hm : m = b.toNat) (h : RdW rb s o X w) :
    Calls Tryz.prog 59 #[.pointer (some ⟨rb, 0, none⟩), .int .u8 m] w fun e w' => (∃ v, e = .returned v) ∧ Fr (fun k => k = rb) w w' ∧ RdW rb s o (skipX b X) w' := by
  subst hm
  have hlt := h.lt
  have H := Lib.hid h
  have heq := u8_beq (nextB X) b
  by_cases hc : nextB X = b
  · obtain ⟨r, rfl⟩ := next_yes hb0 hc
    rw [decide_eq_true hc] at heq
    obtain ⟨n, h1, h2, hb⟩ := h.good
    have HB := Lib.hid hb
    have H2 := Lib.hid h2
    clear h h2 hb hc
    go_enter Tryz.func59, Tryz.ntmps59
    go_wp2_with fail
    refine (implnext hs H.out).mono ?_
    rintro e w1 ⟨rfl, e1⟩
    have hb1 := HB.out.ext e1
    have HB1 := Lib.hid hb1
    obtain ⟨c0, c1, c2, c3, f0, f1, f2, f3⟩ := hb1
    go_wp2_with fail
    go_end0
    refine ⟨⟨_, rfl⟩, (Fr.of_ext e1).trans (Fr.setCell (M := fun k => k = rb) _ rfl), ?_⟩
    rw [show skipX b (some (b :: r)) = some r by simp [skipX]]
    exact RdW.step HB1.out H2.out rfl
  · rw [decide_eq_false hc] at heq
    have HS := Lib.hid (skip_no hc)
    clear hc
    obtain ⟨i, bad, hb, hgood, hbad⟩ := h
    have hi : bad = -1 ∧ 0 ≤ i ∨ 0 ≤ bad := by
      cases X with
      | none => exact .inr (hbad rfl)
      | some r => exact .inl ⟨(hgood r rfl).1, (hgood r rfl).2.1⟩
    have HB := Lib.hid hb
    clear hgood hbad hb
    go_enter Tryz.func59, Tryz.ntmps59
    go_wp2_with fail
    refine (implnext hs H.out).mono ?_
    rintro e w1 ⟨rfl, e1⟩
    have hb1 := HB.out.ext e1
    have HB1 := Lib.hid hb1
    have H1 := Lib.hid (H.out.ext e1)
    obtain ⟨c0, c1, c2, c3, f0, f1, f2, f3⟩ := hb1
    go_wp2_with fail
    refine (implstop' H1.out HB1.out hi).mono ?_
    rintro e w2 ⟨t, a, c, rfl, _, f2, h2, _⟩
    go_wp2_with fail
    refine bodyPost_ret (results_none rfl _ _ _) rfl ?_
    exact ⟨⟨_, rfl⟩, (Fr.of_ext e1).trans f2, by rw [HS.out]; exact h2⟩
end Go.Proofs.YtognkaebiafgbaaGreatDoor

namespace Go.Proofs.YtognkaebiafgbaaGreatDoor
open Go.RowKit Go.Sort
set_option linter.unusedVariables false
set_option maxRecDepth 100000 in
set_option maxHeartbeats 2000000 in
theorem implisPair (k n : Int) (s : ByteArray) (ks : List Tm) (v : Value) (S : Nat → Prop) (w : World) (ht : Tm.at S w (.mk k n s ks) v) :
    Calls Tryz.prog 180 #[v] w fun e w' => e = .returned (.bool (pairF k s ks.length)) ∧ Ext w w' := by
  obtain ⟨hs1, sv, rfl, a, cap, rfl, h1, h2, h3, h4⟩ := Tm.at_iff.1 ht
  have HT := Lib.hid ht
  clear h4 ht
  simp only [Tm.kind, Tm.n, Tm.name, Tm.kids] at *
  by_cases hk : k = 3
  · subst hk
    go_enter Tryz.func180, Tryz.ntmps180
    go_wp2_with (fail)
    all_goals
      go_ret
      exact ⟨retB (by simp_all [pairF]), by first | exact ((((Ext.alloc _ _).trans e1).trans e2).trans e3).trans e4 | exact Ext.alloc _ _ | exact (Ext.alloc _ _).trans e1 | exact ((Ext.alloc _ _).trans e1).trans e2 | exact (((Ext.alloc _ _).trans e1).trans e2).trans e3 | exact (((Ext.alloc _ _).trans e1).trans (Ext.alloc _ _)).trans e2 | exact ((Ext.alloc _ _).trans (Ext.alloc _ _)).trans e1⟩
  · have hk1 : (k == 3) = false := by simp [hk]
    clear hk
    go_enter Tryz.func180, Tryz.ntmps180
    go_wp2_with (fail)
    all_goals
      go_ret
      exact ⟨retB (by simp_all [pairF]), by first | exact ((((Ext.alloc _ _).trans e1).trans e2).trans e3).trans e4 | exact Ext.alloc _ _ | exact (Ext.alloc _ _).trans e1 | exact ((Ext.alloc _ _).trans e1).trans e2 | exact (((Ext.alloc _ _).trans e1).trans e2).trans e3 | exact (((Ext.alloc _ _).trans e1).trans (Ext.alloc _ _)).trans e2 | exact ((Ext.alloc _ _).trans (Ext.alloc _ _)).trans e1⟩
set_option maxRecDepth 100000 in
set_option maxHeartbeats 2000000 in
theorem implisNil (k n : Int) (s : ByteArray) (ks : List Tm) (v : Value) (S : Nat → Prop) (w : World) (ht : Tm.at S w (.mk k n s ks) v) :
    Calls Tryz.prog 181 #[v] w fun e w' => e = .returned (.bool (nilF k s ks.length)) ∧ Ext w w' := by
  obtain ⟨hs1, sv, rfl, a, cap, rfl, h1, h2, h3, h4⟩ := Tm.at_iff.1 ht
  have HT := Lib.hid ht
  clear h4 ht
  simp only [Tm.kind, Tm.n, Tm.name, Tm.kids] at *
  by_cases hk : k = 3
  · subst hk
    go_enter Tryz.func181, Tryz.ntmps181
    go_wp2_with (first | (go_at_call 186; refine (implisAtom 3 n s ks _ S _ (Tm.at_ext (Ext.alloc _ _) HT.out)).mono ?_; rintro e w1 ⟨rfl, e1⟩; have hc1 := ext_cells e1; have hz1 : w.heap.size < w1.heap.size := size_ext e1 (by first | assumption | simp | (simp; omega))))
    all_goals
      go_ret
      exact ⟨retB (by simp_all [nilF, atomF]), by first | exact ((((Ext.alloc _ _).trans e1).trans e2).trans e3).trans e4 | exact Ext.alloc _ _ | exact (Ext.alloc _ _).trans e1 | exact ((Ext.alloc _ _).trans e1).trans e2 | exact (((Ext.alloc _ _).trans e1).trans e2).trans e3 | exact (((Ext.alloc _ _).trans e1).trans (Ext.alloc _ _)).trans e2 | exact ((Ext.alloc _ _).trans (Ext.alloc _ _)).trans e1⟩
  · have hk1 : (k == 3) = false := by simp [hk]
    clear hk
    go_enter Tryz.func181, Tryz.ntmps181
    go_wp2_with (first | (go_at_call 186; refine (implisAtom k n s ks _ S _ (Tm.at_ext (Ext.alloc _ _) HT.out)).mono ?_; rintro e w1 ⟨rfl, e1⟩; have hc1 := ext_cells e1; have hz1 : w.heap.size < w1.heap.size := size_ext e1 (by first | assumption | simp | (simp; omega))))
    all_goals
      go_ret
      exact ⟨retB (by simp_all [nilF, atomF]), by first | exact ((((Ext.alloc _ _).trans e1).trans e2).trans e3).trans e4 | exact Ext.alloc _ _ | exact (Ext.alloc _ _).trans e1 | exact ((Ext.alloc _ _).trans e1).trans e2 | exact (((Ext.alloc _ _).trans e1).trans e2).trans e3 | exact (((Ext.alloc _ _).trans e1).trans (Ext.alloc _ _)).trans e2 | exact ((Ext.alloc _ _).trans (Ext.alloc _ _)).trans e1⟩
set_option maxRecDepth 100000 in
set_option maxHeartbeats 2000000 in
theorem specl1Pair (k n : Int) (s : ByteArray) (ks : List Tm) (v : Value) (S : Nat → Prop) (w : World) (ht : Tm.at S w (.mk k n s ks) v) :
    Calls Tryz.prog 142 #[v] w fun e w' => e = .returned (.bool (pairF k s ks.length)) ∧ Ext w w' := by
  obtain ⟨hs1, sv, rfl, a, cap, rfl, h1, h2, h3, h4⟩ := Tm.at_iff.1 ht
  have HT := Lib.hid ht
  clear h4 ht
  simp only [Tm.kind, Tm.n, Tm.name, Tm.kids] at *
  by_cases hk : k = 3
  · subst hk
    go_enter Tryz.func142, Tryz.ntmps142
    go_wp2_with (fail)
    all_goals
      go_ret
      exact ⟨retB (by simp_all [pairF]), by first | exact ((((Ext.alloc _ _).trans e1).trans e2).trans e3).trans e4 | exact Ext.alloc _ _ | exact (Ext.alloc _ _).trans e1 | exact ((Ext.alloc _ _).trans e1).trans e2 | exact (((Ext.alloc _ _).trans e1).trans e2).trans e3 | exact (((Ext.alloc _ _).trans e1).trans (Ext.alloc _ _)).trans e2 | exact ((Ext.alloc _ _).trans (Ext.alloc _ _)).trans e1⟩
  · have hk1 : (k == 3) = false := by simp [hk]
    clear hk
    go_enter Tryz.func142, Tryz.ntmps142
    go_wp2_with (fail)
    all_goals
      go_ret
      exact ⟨retB (by simp_all [pairF]), by first | exact ((((Ext.alloc _ _).trans e1).trans e2).trans e3).trans e4 | exact Ext.alloc _ _ | exact (Ext.alloc _ _).trans e1 | exact ((Ext.alloc _ _).trans e1).trans e2 | exact (((Ext.alloc _ _).trans e1).trans e2).trans e3 | exact (((Ext.alloc _ _).trans e1).trans (Ext.alloc _ _)).trans e2 | exact ((Ext.alloc _ _).trans (Ext.alloc _ _)).trans e1⟩
set_option maxRecDepth 100000 in
set_option maxHeartbeats 2000000 in
theorem specl1Nil (k n : Int) (s : ByteArray) (ks : List Tm) (v : Value) (S : Nat → Prop) (w : World) (ht : Tm.at S w (.mk k n s ks) v) :
    Calls Tryz.prog 183 #[v] w fun e w' => e = .returned (.bool (nilF k s ks.length)) ∧ Ext w w' := by
  obtain ⟨hs1, sv, rfl, a, cap, rfl, h1, h2, h3, h4⟩ := Tm.at_iff.1 ht
  have HT := Lib.hid ht
  clear h4 ht
  simp only [Tm.kind, Tm.n, Tm.name, Tm.kids] at *
  by_cases hk : k = 3
  · subst hk
    go_enter Tryz.func183, Tryz.ntmps183
    go_wp2_with (fail)
    all_goals
      go_ret
      exact ⟨retB (by simp_all [nilF]), by first | exact ((((Ext.alloc _ _).trans e1).trans e2).trans e3).trans e4 | exact Ext.alloc _ _ | exact (Ext.alloc _ _).trans e1 | exact ((Ext.alloc _ _).trans e1).trans e2 | exact (((Ext.alloc _ _).trans e1).trans e2).trans e3 | exact (((Ext.alloc _ _).trans e1).trans (Ext.alloc _ _)).trans e2 | exact ((Ext.alloc _ _).trans (Ext.alloc _ _)).trans e1⟩
  · have hk1 : (k == 3) = false := by simp [hk]
    clear hk
    go_enter Tryz.func183, Tryz.ntmps183
    go_wp2_with (fail)
    all_goals
      go_ret
      exact ⟨retB (by simp_all [nilF]), by first | exact ((((Ext.alloc _ _).trans e1).trans e2).trans e3).trans e4 | exact Ext.alloc _ _ | exact (Ext.alloc _ _).trans e1 | exact ((Ext.alloc _ _).trans e1).trans e2 | exact (((Ext.alloc _ _).trans e1).trans e2).trans e3 | exact (((Ext.alloc _ _).trans e1).trans (Ext.alloc _ _)).trans e2 | exact ((Ext.alloc _ _).trans (Ext.alloc _ _)).trans e1⟩
set_option maxRecDepth 100000 in
set_option maxHeartbeats 2000000 in
theorem specl2Infix (k n : Int) (s : ByteArray) (ks : List Tm) (v : Value) (S : Nat → Prop) (w : World) (ht : Tm.at S w (.mk k n s ks) v) :
    Calls Tryz.prog 152 #[v] w fun e w' => e = .returned (.bool (infF k s ks.length)) ∧ Ext w w' := by
  obtain ⟨hs1, sv, rfl, a, cap, rfl, h1, h2, h3, h4⟩ := Tm.at_iff.1 ht
  have HT := Lib.hid ht
  clear h4 ht
  simp only [Tm.kind, Tm.n, Tm.name, Tm.kids] at *
  by_cases hk : k = 3
  · subst hk
    go_enter Tryz.func152, Tryz.ntmps152
    go_wp2_with (first | (go_at_call 115; refine (specl2Level_x _ _).mono ?_; rintro e w1 ⟨rfl, e1⟩; have hc1 := ext_cells e1; have hz1 : w.heap.size < w1.heap.size := size_ext e1 (by first | assumption | simp | (simp; omega))))
    all_goals
      go_ret
      exact ⟨retB (by simp_all [infF]), by first | exact ((((Ext.alloc _ _).trans e1).trans e2).trans e3).trans e4 | exact Ext.alloc _ _ | exact (Ext.alloc _ _).trans e1 | exact ((Ext.alloc _ _).trans e1).trans e2 | exact (((Ext.alloc _ _).trans e1).trans e2).trans e3 | exact (((Ext.alloc _ _).trans e1).trans (Ext.alloc _ _)).trans e2 | exact ((Ext.alloc _ _).trans (Ext.alloc _ _)).trans e1⟩
  · have hk1 : (k == 3) = false := by simp [hk]
    clear hk
    go_enter Tryz.func152, Tryz.ntmps152
    go_wp2_with (first | (go_at_call 115; refine (specl2Level_x _ _).mono ?_; rintro e w1 ⟨rfl, e1⟩; have hc1 := ext_cells e1; have hz1 : w.heap.size < w1.heap.size := size_ext e1 (by first | assumption | simp | (simp; omega))))
    all_goals
      go_ret
      exact ⟨retB (by simp_all [infF]), by first | exact ((((Ext.alloc _ _).trans e1).trans e2).trans e3).trans e4 | exact Ext.alloc _ _ | exact (Ext.alloc _ _).trans e1 | exact ((Ext.alloc _ _).trans e1).trans e2 | exact (((Ext.alloc _ _).trans e1).trans e2).trans e3 | exact (((Ext.alloc _ _).trans e1).trans (Ext.alloc _ _)).trans e2 | exact ((Ext.alloc _ _).trans (Ext.alloc _ _)).trans e1⟩
set_option maxRecDepth 100000 in
set_option maxHeartbeats 2000000 in
theorem specl2Sole (k n : Int) (s : ByteArray) (ks : List Tm) (v : Value) (S : Nat → Prop) (w : World) (ht : Tm.at S w (.mk k n s ks) v) :
    Calls Tryz.prog 187 #[v] w fun e w' => e = .returned (.bool (soleF k s ks.length)) ∧ Ext w w' := by
  obtain ⟨hs1, sv, rfl, a, cap, rfl, h1, h2, h3, h4⟩ := Tm.at_iff.1 ht
  have HT := Lib.hid ht
  clear h4 ht
  simp only [Tm.kind, Tm.n, Tm.name, Tm.kids] at *
  by_cases hk : k = 3
  · subst hk
    go_enter Tryz.func187, Tryz.ntmps187
    go_wp2_with (first | (go_at_call 115; refine (specl2Level_x _ _).mono ?_; rintro e w1 ⟨rfl, e1⟩; have hc1 := ext_cells e1; have hz1 : w.heap.size < w1.heap.size := size_ext e1 (by first | assumption | simp | (simp; omega))))
    all_goals
      go_ret
      exact ⟨retB (by simp_all [soleF]), by first | exact ((((Ext.alloc _ _).trans e1).trans e2).trans e3).trans e4 | exact Ext.alloc _ _ | exact (Ext.alloc _ _).trans e1 | exact ((Ext.alloc _ _).trans e1).trans e2 | exact (((Ext.alloc _ _).trans e1).trans e2).trans e3 | exact (((Ext.alloc _ _).trans e1).trans (Ext.alloc _ _)).trans e2 | exact ((Ext.alloc _ _).trans (Ext.alloc _ _)).trans e1⟩
  · have hk1 : (k == 3) = false := by simp [hk]
    clear hk
    go_enter Tryz.func187, Tryz.ntmps187
    go_wp2_with (first | (go_at_call 115; refine (specl2Level_x _ _).mono ?_; rintro e w1 ⟨rfl, e1⟩; have hc1 := ext_cells e1; have hz1 : w.heap.size < w1.heap.size := size_ext e1 (by first | assumption | simp | (simp; omega))))
    all_goals
      go_ret
      exact ⟨retB (by simp_all [soleF]), by first | exact ((((Ext.alloc _ _).trans e1).trans e2).trans e3).trans e4 | exact Ext.alloc _ _ | exact (Ext.alloc _ _).trans e1 | exact ((Ext.alloc _ _).trans e1).trans e2 | exact (((Ext.alloc _ _).trans e1).trans e2).trans e3 | exact (((Ext.alloc _ _).trans e1).trans (Ext.alloc _ _)).trans e2 | exact ((Ext.alloc _ _).trans (Ext.alloc _ _)).trans e1⟩
end Go.Proofs.YtognkaebiafgbaaGreatDoor
