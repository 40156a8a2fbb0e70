/-
  Texts of terms: the program's write and WriteTerm.
-/
import Derived.BigQuiet
import Derived.Test.YtognkaebiafgbaaGreatDoorMr47
import Derived.Test.YtognkaebiafgbaaGreatDoorMr11
namespace Go.Proofs.YtognkaebiafgbaaGreatDoor
open Go.RowKit
set_option linter.unusedVariables false
theorem txt_inf {n : Int} {s : ByteArray} {a b : Tm} (h : infF 3 s 2 = true) : txt true (.mk 3 n s [a, b]) = opn (txF true a) (leftM s.toList) false ++ (spaced s.toList ++ opn (txF true b) (opLevelF s.toList - 1) true) := by
  simp [txt, txF, ownTx, txL, h]
set_option maxRecDepth 100000 in
set_option maxHeartbeats 4000000 in
theorem implwrite_op (n : Int) (s : ByteArray) (a b : Tm) (d : Nat) (v : Value) (S : Nat → Prop) (w : World) (ha : PartC true 98 a) (hb : PartC true 98 b) (hin : infF 3 s 2 = true) (hsh : shapeF (.mk 3 n s [a, b]) d = true) (hsz : Tm.sz (.mk 3 n s [a, b]) ≤ 120)
    (ht : Tm.at S w (.mk 3 n s [a, b]) v) (htab : TabW w) :
    Calls Tryz.prog 98 #[v] w fun e w' => e = .returned (.string (bs (txt true (.mk 3 n s [a, b])))) ∧ Ext w w' := by
  have HF := Lib.hid (txt_inf (n := n) (a := a) (b := b) hin)
  obtain ⟨_, _, hpos⟩ := inf_two hin
  have hlv := op_le3 s.toList
  have HLN := Lib.hid (tx_len true _ d hsh)
  have HZ := Lib.hid hsz
  have HTAB := Lib.hid htab
  have HSA := Lib.hid (shape_kid hsh (j := 0) (t := a) rfl)
  have HSB := Lib.hid (shape_kid hsh (j := 1) (t := b) rfl)
  have hop : decide (0 < opLevelF s.toList) = true := decide_eq_true hpos
  obtain ⟨hs1, sv, rfl, ar, cap, rfl, h1, h2, h3, h4⟩ := ht
  obtain ⟨rb, off, p, c, p', c', rfl, hSb, k1, k2, k3, k4, q1, q2, q3, q4, hat, hat'⟩ := two_get h4
  have za : Tm.sz a ≤ 120 := by simp only [Tm.sz, Tm.szL] at hsz; omega
  have zb : Tm.sz b ≤ 120 := by simp only [Tm.sz, Tm.szL] at hsz; omega
  have cA := fun w1 (e1 : Ext w w1) => quiet_call (w := w1) (fun w' e' => implwriteOperand a (d - 1) (.agg #[.int .i64 a.kind, .int .i64 a.n, .string a.name, .slice p a.kids.length c]) S w' (leftM s.toList) false ha HSA.out za (Tm.at_ext (e1.trans e') hat) (htab.ext (e1.trans e')))
  have cB := fun w1 (e1 : Ext w w1) => quiet_call (w := w1) (fun w' e' => implwriteOperand b (d - 1) (.agg #[.int .i64 b.kind, .int .i64 b.n, .string b.name, .slice p' b.kids.length c']) S w' (opLevelF s.toList - 1) true hb HSB.out zb (Tm.at_ext (e1.trans e') hat') (htab.ext (e1.trans e')))
  have CA := Lib.hid cA
  have CB := Lib.hid cB
  clear h4 hat hat' hsh hsz htab ha hb hin za zb cA cB
  go_enter Tryz.func98, Tryz.ntmps98
  go_wp2_with fail
  refine (implisOp s _).mono ?_
  rw [hop]
  rintro e w1 ⟨rfl, e1⟩
  have E1 := Lib.hid ((Ext.alloc w (.cells #[.int .i64 3, .int .i64 n, .string s, .slice (some ⟨rb, off, none⟩) 2 cap] 25)).trans e1)
  obtain ⟨c0, c1, c2, c3, g0, g1, g2, g3⟩ := (BoxT.new w (.int .i64 3) (.int .i64 n) (.string s) (.slice (some ⟨rb, off, none⟩) 2 cap) 25 rfl).ext e1
  have s1 : w.heap.size < w1.heap.size := block_lt_of_cell c0
  replace k1 := cell_regrown (E1.out.cell k1)
  replace k2 := cell_regrown (E1.out.cell k2)
  replace k3 := cell_regrown (E1.out.cell k3)
  replace k4 := cell_regrown (E1.out.cell k4)
  replace q1 := cell_regrown (E1.out.cell q1)
  replace q2 := cell_regrown (E1.out.cell q2)
  replace q3 := cell_regrown (E1.out.cell q3)
  replace q4 := cell_regrown (E1.out.cell q4)
  have cA := CA.out w1 E1.out
  have cB := CB.out w1 E1.out
  have cM := quiet_call (w := w1) (fun w' _ => implleftMost s w' hpos)
  have cO := quiet_call (w := w1) (fun w' _ => implopText s w' hs1)
  have m2 := cell_regrown c2
  have m3 := cell_regrown c3
  have hlen : (opn (txF true a) (leftM s.toList) false).length + ((spaced s.toList).length + (opn (txF true b) (opLevelF s.toList - 1) true).length) ≤ 4000 := by
    have h1 := HLN.out.1
    have h2 := HZ.out
    rw [HF.out] at h1
    simp only [List.length_append] at h1
    omega
  have lb1 : ¬ 9223372036854775807 < (bs (opn (txF true a) (leftM s.toList) false)).size + (bs (spaced s.toList)).size := by rw [bs_size, bs_size]; omega
  have lb2 : ¬ 9223372036854775807 < (bs (opn (txF true a) (leftM s.toList) false)).size + (bs (spaced s.toList)).size + (bs (opn (txF true b) (opLevelF s.toList - 1) true)).size := by rw [bs_size, bs_size, bs_size]; omega
  have hwr : IntKind.i64.wrap (opLevelF s.toList - 1) = opLevelF s.toList - 1 := IntWalk.i64_in _ (by omega)
  clear e1 g0 g1 g2 g3 hlen
  go_wp2_with (go_at_call 102; refine (implOpLevel s _).mono ?_; rintro e w2 ⟨rfl, rfl⟩)
  refine region_ext (by kernel_rfl) (by kernel_rfl) ?_
  repeat (quiet_step (first | with_reducible exact cA _ _ | with_reducible exact cB _ _ | with_reducible exact cM _ _ | with_reducible exact cO _ _))
  refine wpQuiet_nil ?_
  intro wq eq
  go_wp2_with fail
  go_ret
  refine ⟨?_, E1.out.trans eq⟩
  rw [HF.out]
  refine retS ?_
  exact bl_ext (by simp only [list_app, bs_list]; simp)
theorem not_inf {k n : Int} {s : ByteArray} {ks : List Tm} {d : Nat} (h : shapeF (.mk k n s ks) d = true) (hi : infF k s ks.length = false) : (k == 3) = false ∨ ((k == 3) = true ∧ ((ks.length : Int) == 2) = false) ∨ ((k == 3) = true ∧ ((ks.length : Int) == 2) = true ∧ decide (0 < opLevelF s.toList) = false) := by
  unfold infF at hi
  cases h1 : (k == 3)
  · exact .inl rfl
  · cases h2 : ((ks.length : Int) == 2)
    · exact .inr (.inl ⟨rfl, rfl⟩)
    · rw [h1, h2] at hi
      exact .inr (.inr ⟨rfl, rfl, by simpa using hi⟩)
set_option maxRecDepth 100000 in
set_option maxHeartbeats 4000000 in
theorem implwrite_no (t : Tm) (d : Nat) (v : Value) (S : Nat → Prop) (w : World) (hp : ∀ u, Tm.sz u < Tm.sz t → PartC true 98 u) (hin : infF t.kind t.name t.kids.length = false) (hsh : shapeF t d = true) (hsz : Tm.sz t ≤ 120)
    (ht : Tm.at S w t v) (htab : TabW w) :
    Calls Tryz.prog 98 #[v] w fun e w' => e = .returned (.string (bs (txt true t))) ∧ Ext w w' := by
  have HC := Lib.hid (fun w' (e' : Ext w w') => impltext true 98 t d v S w' (fun args w => by rfl) hp hsh hsz (by rw [hin]; rfl) (Tm.at_ext e' ht) (htab.ext e'))
  obtain ⟨k, n, s, ks⟩ := t
  simp only [Tm.kind, Tm.name, Tm.kids] at hin
  have hni := not_inf hsh hin
  obtain ⟨hs1, sv, rfl, ar, cap, rfl, h1, h2, h3, h4⟩ := ht
  clear h4 hp hin hsh hsz htab
  rcases hni with q1 | ⟨q1, q2⟩ | ⟨q1, q2, q3⟩
  · go_enter Tryz.func98, Tryz.ntmps98
    go_wp2_with (go_at_call 139; refine (HC.out _ (Ext.alloc _ _)).mono ?_; rintro e w1 ⟨rfl, e1⟩)
    go_ret
    exact ⟨rfl, (Ext.alloc _ _).trans e1⟩
  · go_enter Tryz.func98, Tryz.ntmps98
    go_wp2_with (go_at_call 139; refine (HC.out _ (Ext.alloc _ _)).mono ?_; rintro e w1 ⟨rfl, e1⟩)
    go_ret
    exact ⟨rfl, (Ext.alloc _ _).trans e1⟩
  · go_enter Tryz.func98, Tryz.ntmps98
    go_wp2_with fail
    refine (implisOp s _).mono ?_
    rw [q3]
    rintro e w1 ⟨rfl, e1⟩
    have E1 := Lib.hid ((Ext.alloc w (.cells #[.int .i64 k, .int .i64 n, .string s, .slice ar ks.length cap] 25)).trans e1)
    obtain ⟨c0, c1, c2, c3, g0, g1, g2, g3⟩ := (BoxT.new w (.int .i64 k) (.int .i64 n) (.string s) (.slice ar ks.length cap) 25 rfl).ext e1
    have s1 : w.heap.size < w1.heap.size := block_lt_of_cell c0
    go_wp2_with (go_at_call 139; refine (HC.out _ E1.out).mono ?_; rintro e w2 ⟨rfl, e2⟩)
    go_ret
    exact ⟨rfl, E1.out.trans e2⟩
theorem implwrite : ∀ (m : Nat) (t : Tm), Tm.sz t ≤ m → Tm.sz t ≤ 120 → PartC true 98 t := by
  intro m
  induction m with
  | zero => intro t hm; have := Tm.sz_pos t; omega
  | succ m ih =>
    intro t hm hsz d v S w hsh ht htab
    obtain ⟨k, n, s, ks⟩ := t
    cases hin : infF k s ks.length
    · exact implwrite_no _ d v S w (fun u hu => ih u (by omega) (by omega)) hin hsh hsz ht htab
    · obtain ⟨rfl, h2, _⟩ := inf_two hin
      obtain ⟨a, b, rfl⟩ := len_two h2
      simp only [Tm.sz, Tm.szL] at hm hsz
      exact implwrite_op n s a b d v S w (ih a (by omega) (by omega)) (ih b (by omega) (by omega)) hin hsh (by simp only [Tm.sz, Tm.szL]; omega) ht htab
end Go.Proofs.YtognkaebiafgbaaGreatDoor

namespace Go.Proofs.YtognkaebiafgbaaGreatDoor
open Go.RowKit
set_option linter.unusedVariables false
theorem write_val {t : Tm} (h : validF t = true) (v : Value) (S : Nat → Prop) (w : World) (ht : Tm.at S w t v) (htab : TabW w) : Calls Tryz.prog 98 #[v] w fun e w' => e = .returned (.string (bs (txt true t))) ∧ Ext w w' :=
  implwrite _ t (Nat.le_refl _) (valid_parts h).2 30 v S w (valid_parts h).1 ht htab
set_option maxRecDepth 100000 in
set_option maxHeartbeats 4000000 in
theorem implwriteAll (ts : List Tm) (v : Value) (S : Nat → Prop) (w : World) (hv : ∀ (j : Nat) (t : Tm), ts[j]? = some t → validF t = true) (hl : ts.length ≤ 6) (hne : ts.length ≠ 0) (ht : Tm.sl S w ts v) (htab : TabW w) :
    Calls Tryz.prog 100 #[v] w fun e w' => e = .returned (.string (bs (joinF (ts.map (txt true))))) ∧ Ext w w' := by
  have HV := Lib.hid hv
  have HTAB := Lib.hid htab
  have HNE := Lib.hid hne
  have HJL := Lib.hid (join_len ts hv)
  obtain ⟨i0, hi, hz0, hz1, hz2⟩ := info_parts info_str
  obtain ⟨ar, cap, rfl, h1, h2, h3, h4⟩ := ht
  have H4 := Lib.hid h4
  have HI := Lib.hid hi
  have HZ0 := Lib.hid hz0
  have HZ1 := Lib.hid hz1
  have HZ2 := Lib.hid hz2
  clear hv htab h4 hi hz0 hz1 hz2 hne
  go_enter Tryz.func100, Tryz.ntmps100
  go_wp2_with fail
  go_loopw [3, 8] (fun sv i wr => ∃ (j : Nat) (av : Option Addr) (cv : Nat), j ≤ ts.length ∧ sv = .slice av j cv ∧ i = .int .i64 j ∧ Hid (StrI (fun b => w.heap.size ≤ b) ((ts.take j).map fun t => bs (txt true t)) (.slice av j cv) wr) ∧ Hid (Ext w wr)) (fun _ i _ => ts.length - (intOf i).toNat)
  case atStart => exact ⟨0, none, 0, Nat.zero_le _, rfl, rfl, Lib.hid (StrI.nil _ _), Lib.hid (Ext.refl _)⟩
  case round =>
    obtain ⟨j, av, cv, hj, rfl, rfl, HK, HX⟩ := hrel
    have hlen : ((ts.take j).map fun t => bs (txt true t)).length = j := by simp; omega
    have sw : w.heap.size ≤ wr.heap.size := Below.size HX.out
    by_cases hlt : j < ts.length
    · obtain ⟨tk, htk⟩ := getk hlt
      obtain ⟨b, off, a1, c1', rfl, hSb, k1, k2, k3, k4, hat⟩ := tget H4.out htk
      replace k1 := HX.out.cell k1
      replace k2 := HX.out.cell k2
      replace k3 := HX.out.cell k3
      replace k4 := HX.out.cell k4
      have HC := Lib.hid (fun w' (e' : Ext wr w') => write_val (HV.out j tk htk) _ S w' (Tm.at_ext (HX.out.trans e') hat) (HTAB.out.ext (HX.out.trans e')))
      have HTS := Lib.hid (show ((ts.take j).map fun t => bs (txt true t)) ++ [bs (txt true tk)] = (ts.take (j + 1)).map fun t => bs (txt true t) by rw [take_snoc_of htk]; simp)
      have hl3 : ts.length ≤ 1048576 := h3
      clear htk hat hSb
      go_wp2_with fail
      refine (HC.out _ (Ext.alloc _ _)).mono ?_
      rintro e w2 ⟨rfl, e2⟩
      have E2 := Lib.hid ((Ext.alloc wr (.cells #[.int .i64 tk.kind, .int .i64 tk.n, .string tk.name, .slice a1 tk.kids.length c1'] 25)).trans e2)
      have sw2 : w.heap.size ≤ w2.heap.size := Nat.le_trans sw (Below.size E2.out)
      clear e2
      go_wp2_with (at_builtin; refine wpList_append_str rfl (.tmp 12) (.tmp 15) 69 rfl (fun b => w.heap.size ≤ b) i0 Tryz.underlying69 HI.out HZ0.out HZ1.out HZ2.out (.slice av j cv) ((ts.take j).map fun t => bs (txt true t)) (bs (txt true tk)) rfl (HK.out.ext E2.out) rfl (by rw [hlen]; omega) (fun b hb => Nat.le_trans sw2 hb) rfl ?_; intro av2 cv2 w3 hA2 hf2; rw [hlen] at hA2; have K3 := Lib.hid hA2; have F3 := Lib.hid hf2; clear hA2 hf2; rw [hlen])
      all_goals
        go_roundw
        case rel => exact ⟨j + 1, av2, cv2, by omega, rfl, by simp, Lib.hid (by rw [← HTS.out]; exact K3.out), Lib.hid (((Fr.of_ext (HX.out.trans E2.out)).trans F3.out).toExt (fun k hk h => by omega))⟩
        case measure => simp [intOf]; omega
    · obtain rfl : j = ts.length := by omega
      have htk : ts.take ts.length = ts := List.take_of_length_le (Nat.le_refl _)
      have HJ := Lib.hid (show (ts.map fun t => bs (txt true t)) = (ts.map (txt true)).map bs by rw [List.map_map]; rfl)
      have HC := Lib.hid (joinC (fun b => w.heap.size ≤ b) (ts.map (txt true)) (.slice av ts.length cv) wr (by intro e; have := congrArg List.length e; simp at this; exact HNE.out (by rw [this]; rfl)) (by have := HJL.out; omega) (by
        have := HK.out
        rw [htk, HJ.out] at this
        exact this))
      clear hlen hlt hj htk
      go_wp2_with (go_at_call 157; refine HC.out.mono ?_; rintro e w2 ⟨rfl, e2⟩)
      go_ret
      exact ⟨rfl, HX.out.trans e2⟩
set_option maxRecDepth 100000 in
set_option maxHeartbeats 4000000 in
theorem implclauseText (c : Cl) (v : Value) (S : Nat → Prop) (w : World) (hv : clValidF c = true) (hc : Cl.at S w c v) (htab : TabW w) :
    Calls Tryz.prog 56 #[v] w fun e w' => e = .returned (.string (bs (clTxt c))) ∧ Ext w w' := by
  obtain ⟨v1, v2, v3⟩ := cl_parts hv
  have HLN := Lib.hid (cl_len hv)
  obtain ⟨hd, bd⟩ := c
  simp only at v1 v2 v3
  obtain ⟨a, cap, a', cap', rfl, hat, hsl⟩ := Cl.form hc
  simp only at hat hsl
  have HCH := Lib.hid (fun w' (e' : Ext w w') => write_val v1 (.agg #[.int .i64 hd.kind, .int .i64 hd.n, .string hd.name, .slice a hd.kids.length cap]) S w' (Tm.at_ext e' hat) (htab.ext e'))
  by_cases hb : bd.length = 0
  · have HF := Lib.hid (show clTxt ⟨hd, bd⟩ = txt true hd ++ [46] by simp only [clTxt, if_pos hb])
    have hz : ((bd.length : Int) == 0) = true := by simp [hb]
    have lb : ¬ 9223372036854775807 < (bs (txt true hd)).size + 1 := by rw [bs_size]; have := val_len v1; omega
    clear hat hsl hb v1 v2 v3 hc hv htab
    go_enter Tryz.func56, Tryz.ntmps56
    go_wp2_with (go_at_call 98; refine (HCH.out _ (Ext.alloc _ _)).mono ?_; rintro e w1 ⟨rfl, e1⟩)
    go_ret
    refine ⟨?_, (Ext.alloc _ _).trans e1⟩
    rw [HF.out]
    exact congrArg (fun x => Ending.returned (Value.string x)) (bs_app _ [46])
  · have HF := Lib.hid (show clTxt ⟨hd, bd⟩ = txt true hd ++ (58 :: 45 :: (joinF (bd.map (txt true)) ++ [46])) by simp only [clTxt, if_neg hb])
    have hz : ((bd.length : Int) == 0) = false := by simp; intro e; exact hb (by rw [e]; rfl)
    have hjl := join_len bd v3
    have lb1 : ¬ 9223372036854775807 < (bs (txt true hd)).size + 2 := by rw [bs_size]; have := val_len v1; omega
    have lb2 : ¬ 9223372036854775807 < (bs (txt true hd)).size + 2 + (bs (joinF (bd.map (txt true)))).size := by rw [bs_size, bs_size]; have := val_len v1; omega
    have lb3 : ¬ 9223372036854775807 < (bs (txt true hd)).size + 2 + (bs (joinF (bd.map (txt true)))).size + 1 := by rw [bs_size, bs_size]; have := val_len v1; omega
    have W1 := (Ext.alloc w (.cells #[.int .i64 hd.kind, .int .i64 hd.n, .string hd.name, .slice a hd.kids.length cap, .slice a' bd.length cap'] 27))
    have cH := quiet_call (w := w.alloc (.cells #[.int .i64 hd.kind, .int .i64 hd.n, .string hd.name, .slice a hd.kids.length cap, .slice a' bd.length cap'] 27)) (fun w' e' => HCH.out w' (W1.trans e'))
    have cB := quiet_call (w := w.alloc (.cells #[.int .i64 hd.kind, .int .i64 hd.n, .string hd.name, .slice a hd.kids.length cap, .slice a' bd.length cap'] 27)) (fun w' e' => implwriteAll bd (.slice a' bd.length cap') S w' v3 v2 hb (Tm.sl_ext (W1.trans e') hsl) (htab.ext (W1.trans e')))
    obtain ⟨W, hW⟩ : ∃ W, W = w.alloc (.cells #[.int .i64 hd.kind, .int .i64 hd.n, .string hd.name, .slice a hd.kids.length cap, .slice a' bd.length cap'] 27) := ⟨_, rfl⟩
    have m0 := cell_regrown (w := W) (a := ⟨w.heap.size, 0, none⟩) (v := .int .i64 hd.kind) (by rw [hW]; go_simp)
    have m1 := cell_regrown (w := W) (a := ⟨w.heap.size, 1, none⟩) (v := .int .i64 hd.n) (by rw [hW]; go_simp)
    have m2 := cell_regrown (w := W) (a := ⟨w.heap.size, 2, none⟩) (v := .string hd.name) (by rw [hW]; go_simp)
    have m3 := cell_regrown (w := W) (a := ⟨w.heap.size, 3, none⟩) (v := .slice a hd.kids.length cap) (by rw [hW]; go_simp)
    have m4 := cell_regrown (w := W) (a := ⟨w.heap.size, 4, none⟩) (v := .slice a' bd.length cap') (by rw [hW]; go_simp)
    rw [← hW] at cH cB W1
    clear hat hsl hb v1 v2 v3 hc hv htab hjl
    go_enter Tryz.func56, Tryz.ntmps56
    go_upto_region 3 with (fail)
    rw [← hW]
    clear hW
    refine region_ext (by kernel_rfl) (by kernel_rfl) ?_
    repeat (quiet_step (first | with_reducible exact cH _ _ | with_reducible exact cB _ _))
    refine wpQuiet_nil ?_
    intro wq eq
    go_wp2_with fail
    go_ret
    refine ⟨?_, W1.trans eq⟩
    rw [HF.out]
    refine retS ?_
    show ((bs (txt true hd) ++ bs [58, 45]) ++ bs (joinF (bd.map (txt true)))) ++ bs [46] = bs _
    rw [bs_app, bs_app, bs_app]
    simp
end Go.Proofs.YtognkaebiafgbaaGreatDoor
