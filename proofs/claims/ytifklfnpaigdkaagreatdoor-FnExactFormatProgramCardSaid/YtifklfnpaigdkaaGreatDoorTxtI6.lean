/-
  Texts of terms: the program's write and WriteTerm.
-/
import Derived.Test.YtifklfnpaigdkaaGreatDoorTxtI5
import Derived.BigQuiet
namespace Go.Proofs.YtifklfnpaigdkaaGreatDoor
open Go.RowKit
set_option linter.unusedVariables false

theorem txt_inf {n : Int} {s : ByteArray} {a b : Tm} (h : infF 3 s 2 = true) : txt true (.mk 3 n s [a, b]) = opn (txF true a) (leftM s.toList) false ++ (spaced s.toList ++ opn (txF true b) (opLevelF s.toList - 1) true) := by
  simp [txt, txF, ownTx, txL, h]
set_option maxRecDepth 100000 in
set_option maxHeartbeats 4000000 in
theorem implwrite_op (n : Int) (s : ByteArray) (a b : Tm) (d : Nat) (v : Value) (S : Nat → Prop) (w : World) (ha : PartC true 35 a) (hb : PartC true 35 b) (hin : infF 3 s 2 = true) (hsh : shapeF (.mk 3 n s [a, b]) d = true) (hsz : Tm.sz (.mk 3 n s [a, b]) ≤ 120)
    (ht : Tm.at S w (.mk 3 n s [a, b]) v) (htab : TabW w) :
    Calls Tryz.prog 35 #[v] w fun e w' => e = .returned (.string (bs (txt true (.mk 3 n s [a, b])))) ∧ Ext w w' := by
  have HF := Lib.hid (txt_inf (n := n) (a := a) (b := b) hin)
  obtain ⟨_, _, hpos⟩ := inf_two hin
  have hlv := op_le3 s.toList
  have HLN := Lib.hid (tx_len true _ d hsh)
  have HZ := Lib.hid hsz
  have HTAB := Lib.hid htab
  have HSA := Lib.hid (shape_kid hsh (j := 0) (t := a) rfl)
  have HSB := Lib.hid (shape_kid hsh (j := 1) (t := b) rfl)
  have hop : decide (0 < opLevelF s.toList) = true := decide_eq_true hpos
  obtain ⟨hs1, sv, rfl, ar, cap, rfl, h1, h2, h3, h4⟩ := ht
  obtain ⟨rb, off, p, c, p', c', rfl, hSb, k1, k2, k3, k4, q1, q2, q3, q4, hat, hat'⟩ := two_get h4
  have za : Tm.sz a ≤ 120 := by simp only [Tm.sz, Tm.szL] at hsz; omega
  have zb : Tm.sz b ≤ 120 := by simp only [Tm.sz, Tm.szL] at hsz; omega
  have cA := fun w1 (e1 : Ext w w1) => quiet_call (w := w1) (fun w' e' => implwriteOperand a (d - 1) (.agg #[.int .i64 a.kind, .int .i64 a.n, .string a.name, .slice p a.kids.length c]) S w' (leftM s.toList) false ha HSA.out za (Tm.at_ext (e1.trans e') hat) (htab.ext (e1.trans e')))
  have cB := fun w1 (e1 : Ext w w1) => quiet_call (w := w1) (fun w' e' => implwriteOperand b (d - 1) (.agg #[.int .i64 b.kind, .int .i64 b.n, .string b.name, .slice p' b.kids.length c']) S w' (opLevelF s.toList - 1) true hb HSB.out zb (Tm.at_ext (e1.trans e') hat') (htab.ext (e1.trans e')))
  have CA := Lib.hid cA
  have CB := Lib.hid cB
  clear h4 hat hat' hsh hsz htab ha hb hin za zb cA cB
  go_enter Tryz.func35, Tryz.ntmps35
  go_wp2_with fail
  refine (implisOp s _).mono ?_
  rw [hop]
  rintro e w1 ⟨rfl, e1⟩
  have E1 := Lib.hid ((Ext.alloc w (.cells #[.int .i64 3, .int .i64 n, .string s, .slice (some ⟨rb, off, none⟩) 2 cap] 31)).trans e1)
  obtain ⟨c0, c1, c2, c3, g0, g1, g2, g3⟩ := (BoxT.new w (.int .i64 3) (.int .i64 n) (.string s) (.slice (some ⟨rb, off, none⟩) 2 cap) 31 rfl).ext e1
  have s1 : w.heap.size < w1.heap.size := block_lt_of_cell c0
  replace k1 := cell_regrown (E1.out.cell k1)
  replace k2 := cell_regrown (E1.out.cell k2)
  replace k3 := cell_regrown (E1.out.cell k3)
  replace k4 := cell_regrown (E1.out.cell k4)
  replace q1 := cell_regrown (E1.out.cell q1)
  replace q2 := cell_regrown (E1.out.cell q2)
  replace q3 := cell_regrown (E1.out.cell q3)
  replace q4 := cell_regrown (E1.out.cell q4)
  have cA := CA.out w1 E1.out
  have cB := CB.out w1 E1.out
  have cM := quiet_call (w := w1) (fun w' _ => implleftMost s w' hpos)
  have cO := quiet_call (w := w1) (fun w' _ => implopText s w' hs1)
  have m2 := cell_regrown c2
  have m3 := cell_regrown c3
  have hlen : (opn (txF true a) (leftM s.toList) false).length + ((spaced s.toList).length + (opn (txF true b) (opLevelF s.toList - 1) true).length) ≤ 4000 := by
    have h1 := HLN.out.1
    have h2 := HZ.out
    rw [HF.out] at h1
    simp only [List.length_append] at h1
    omega
  have lb1 : ¬ 9223372036854775807 < (bs (opn (txF true a) (leftM s.toList) false)).size + (bs (spaced s.toList)).size := by rw [bs_size, bs_size]; omega
  have lb2 : ¬ 9223372036854775807 < (bs (opn (txF true a) (leftM s.toList) false)).size + (bs (spaced s.toList)).size + (bs (opn (txF true b) (opLevelF s.toList - 1) true)).size := by rw [bs_size, bs_size, bs_size]; omega
  have hwr : IntKind.i64.wrap (opLevelF s.toList - 1) = opLevelF s.toList - 1 := IntWalk.i64_in _ (by omega)
  clear e1 g0 g1 g2 g3 hlen
  go_wp2_with (go_at_call 60; refine (implOpLevel s _).mono ?_; rintro e w2 ⟨rfl, rfl⟩)
  refine region_ext (by kernel_rfl) (by kernel_rfl) ?_
  repeat (quiet_step (first | with_reducible exact cA _ _ | with_reducible exact cB _ _ | with_reducible exact cM _ _ | with_reducible exact cO _ _))
  refine wpQuiet_nil ?_
  intro wq eq
  go_wp2_with fail
  go_ret
  refine ⟨?_, E1.out.trans eq⟩
  rw [HF.out]
  refine retS ?_
  exact bl_ext (by simp only [list_app, bs_list]; simp)

theorem not_inf {k n : Int} {s : ByteArray} {ks : List Tm} {d : Nat} (h : shapeF (.mk k n s ks) d = true) (hi : infF k s ks.length = false) : (k == 3) = false ∨ ((k == 3) = true ∧ ((ks.length : Int) == 2) = false) ∨ ((k == 3) = true ∧ ((ks.length : Int) == 2) = true ∧ decide (0 < opLevelF s.toList) = false) := by
  unfold infF at hi
  cases h1 : (k == 3)
  · exact .inl rfl
  · cases h2 : ((ks.length : Int) == 2)
    · exact .inr (.inl ⟨rfl, rfl⟩)
    · rw [h1, h2] at hi
      exact .inr (.inr ⟨rfl, rfl, by simpa using hi⟩)
set_option maxRecDepth 100000 in
set_option maxHeartbeats 4000000 in
theorem implwrite_no (t : Tm) (d : Nat) (v : Value) (S : Nat → Prop) (w : World) (hp : ∀ u, Tm.sz u < Tm.sz t → PartC true 35 u) (hin : infF t.kind t.name t.kids.length = false) (hsh : shapeF t d = true) (hsz : Tm.sz t ≤ 120)
    (ht : Tm.at S w t v) (htab : TabW w) :
    Calls Tryz.prog 35 #[v] w fun e w' => e = .returned (.string (bs (txt true t))) ∧ Ext w w' := by
  have HC := Lib.hid (fun w' (e' : Ext w w') => impltext true 35 t d v S w' (fun args w => by rfl) hp hsh hsz (by rw [hin]; rfl) (Tm.at_ext e' ht) (htab.ext e'))
  obtain ⟨k, n, s, ks⟩ := t
  simp only [Tm.kind, Tm.name, Tm.kids] at hin
  have hni := not_inf hsh hin
  obtain ⟨hs1, sv, rfl, ar, cap, rfl, h1, h2, h3, h4⟩ := ht
  clear h4 hp hin hsh hsz htab
  rcases hni with q1 | ⟨q1, q2⟩ | ⟨q1, q2, q3⟩
  · go_enter Tryz.func35, Tryz.ntmps35
    go_wp2_with (go_at_call 64; refine (HC.out _ (Ext.alloc _ _)).mono ?_; rintro e w1 ⟨rfl, e1⟩)
    go_ret
    exact ⟨rfl, (Ext.alloc _ _).trans e1⟩
  · go_enter Tryz.func35, Tryz.ntmps35
    go_wp2_with (go_at_call 64; refine (HC.out _ (Ext.alloc _ _)).mono ?_; rintro e w1 ⟨rfl, e1⟩)
    go_ret
    exact ⟨rfl, (Ext.alloc _ _).trans e1⟩
  · go_enter Tryz.func35, Tryz.ntmps35
    go_wp2_with fail
    refine (implisOp s _).mono ?_
    rw [q3]
    rintro e w1 ⟨rfl, e1⟩
    have E1 := Lib.hid ((Ext.alloc w (.cells #[.int .i64 k, .int .i64 n, .string s, .slice ar ks.length cap] 31)).trans e1)
    obtain ⟨c0, c1, c2, c3, g0, g1, g2, g3⟩ := (BoxT.new w (.int .i64 k) (.int .i64 n) (.string s) (.slice ar ks.length cap) 31 rfl).ext e1
    have s1 : w.heap.size < w1.heap.size := block_lt_of_cell c0
    go_wp2_with (go_at_call 64; refine (HC.out _ E1.out).mono ?_; rintro e w2 ⟨rfl, e2⟩)
    go_ret
    exact ⟨rfl, E1.out.trans e2⟩
theorem implwrite : ∀ (m : Nat) (t : Tm), Tm.sz t ≤ m → Tm.sz t ≤ 120 → PartC true 35 t := by
  intro m
  induction m with
  | zero => intro t hm; have := Tm.sz_pos t; omega
  | succ m ih =>
    intro t hm hsz d v S w hsh ht htab
    obtain ⟨k, n, s, ks⟩ := t
    cases hin : infF k s ks.length
    · exact implwrite_no _ d v S w (fun u hu => ih u (by omega) (by omega)) hin hsh hsz ht htab
    · obtain ⟨rfl, h2, _⟩ := inf_two hin
      obtain ⟨a, b, rfl⟩ := len_two h2
      simp only [Tm.sz, Tm.szL] at hm hsz
      exact implwrite_op n s a b d v S w (ih a (by omega) (by omega)) (ih b (by omega) (by omega)) hin hsh (by simp only [Tm.sz, Tm.szL]; omega) ht htab
end Go.Proofs.YtifklfnpaigdkaaGreatDoor
