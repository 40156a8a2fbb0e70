/-
  Texts of clauses and programs, plain.
-/
/-
  Texts of clauses: the program's writeAll, clauseText, FormatClause.
-/
/-
  Texts of clauses: the reference's l4Text, FormatClause.
-/
/-
  Texts of programs: the program's and the reference's FormatProgram.
-/
import Derived.Test.YtifklfnpaigdkaaGreatDoorClValid
import Derived.Test.YtifklfnpaigdkaaGreatDoorTxtP
import Derived.Test.YtifklfnpaigdkaaGreatDoorTxtI6
import Derived.Test.YtifklfnpaigdkaaGreatDoorTxtRj
import Derived.Test.YtifklfnpaigdkaaGreatDoorClProg
namespace Go.Proofs.YtifklfnpaigdkaaGreatDoor
open Go.RowKit
set_option linter.unusedVariables false

def clTxt (c : Cl) : List UInt8 := txt true c.head ++ (if c.body.length = 0 then [46] else 58 :: 45 :: (joinF (c.body.map (txt true)) ++ [46]))
def formatClF (c : Cl) : List UInt8 := if clValidF c = true then clTxt c else []
def prTxt (cs : List Cl) : List UInt8 := (cs.map fun c => clTxt c ++ [10]).flatten
theorem val_len {t : Tm} (h : validF t = true) : (txt true t).length ≤ 3840 := by
  rw [valid_eq] at h
  simp only [Bool.and_eq_true, decide_eq_true_eq] at h
  have := (tx_len true t 30 h.1).1
  omega
theorem goal_val {t : Tm} (h : goalF t = true) : validF t = true := by
  obtain ⟨k, n, s, ks⟩ := t
  simp only [goalF, Bool.and_eq_true] at h
  exact h.1
/-- what a clause's validity gives -/
theorem cl_parts {c : Cl} (h : clValidF c = true) : validF c.head = true ∧ c.body.length ≤ 6 ∧ ∀ (j : Nat) (t : Tm), c.body[j]? = some t → validF t = true := by
  simp only [clValidF, goalsF, Bool.and_eq_true, decide_eq_true_eq, Bool.not_eq_true'] at h
  refine ⟨h.1.1, h.2.1, fun j t ht => goal_val ?_⟩
  have := List.any_eq_false.1 h.2.2 t (List.mem_of_getElem? ht)
  simpa [notGoal] using this
theorem join_len : ∀ (ts : List Tm), (∀ (j : Nat) (t : Tm), ts[j]? = some t → validF t = true) → (joinF (ts.map (txt true))).length ≤ ts.length * 3841
  | [], _ => by simp [joinF]
  | [t], h => by have := val_len (h 0 t rfl); simp [joinF]; omega
  | t :: u :: ts, h => by
    have h1 := val_len (h 0 t rfl)
    have h2 := join_len (u :: ts) (fun j x hx => h (j + 1) x (by simpa using hx))
    simp only [List.map_cons, joinF, List.length_append, List.length_cons] at h2 ⊢
    omega
theorem cl_len {c : Cl} (h : clValidF c = true) : (clTxt c).length ≤ 30000 := by
  obtain ⟨h1, h2, h3⟩ := cl_parts h
  have := val_len h1
  have := join_len c.body h3
  unfold clTxt
  split <;> simp only [List.length_append, List.length_cons, List.length_nil] <;> omega
end Go.Proofs.YtifklfnpaigdkaaGreatDoor
namespace Go.Proofs.YtifklfnpaigdkaaGreatDoor
open Go.RowKit
set_option linter.unusedVariables false

theorem write_val {t : Tm} (h : validF t = true) (v : Value) (S : Nat → Prop) (w : World) (ht : Tm.at S w t v) (htab : TabW w) : Calls Tryz.prog 35 #[v] w fun e w' => e = .returned (.string (bs (txt true t))) ∧ Ext w w' :=
  implwrite _ t (Nat.le_refl _) (valid_parts h).2 30 v S w (valid_parts h).1 ht htab
set_option maxRecDepth 100000 in
set_option maxHeartbeats 4000000 in
theorem implwriteAll (ts : List Tm) (v : Value) (S : Nat → Prop) (w : World) (hv : ∀ (j : Nat) (t : Tm), ts[j]? = some t → validF t = true) (hl : ts.length ≤ 6) (hne : ts.length ≠ 0) (ht : Tm.sl S w ts v) (htab : TabW w) :
    Calls Tryz.prog 36 #[v] w fun e w' => e = .returned (.string (bs (joinF (ts.map (txt true))))) ∧ Ext w w' := by
  have HV := Lib.hid hv
  have HTAB := Lib.hid htab
  have HNE := Lib.hid hne
  have HJL := Lib.hid (join_len ts hv)
  obtain ⟨i0, hi, hz0, hz1, hz2⟩ := info_parts info_str
  obtain ⟨ar, cap, rfl, h1, h2, h3, h4⟩ := ht
  have H4 := Lib.hid h4
  have HI := Lib.hid hi
  have HZ0 := Lib.hid hz0
  have HZ1 := Lib.hid hz1
  have HZ2 := Lib.hid hz2
  clear hv htab h4 hi hz0 hz1 hz2 hne
  go_enter Tryz.func36, Tryz.ntmps36
  go_wp2_with fail
  go_loopw [3, 8] (fun sv i wr => ∃ (j : Nat) (av : Option Addr) (cv : Nat), j ≤ ts.length ∧ sv = .slice av j cv ∧ i = .int .i64 j ∧ Hid (StrI (fun b => w.heap.size ≤ b) ((ts.take j).map fun t => bs (txt true t)) (.slice av j cv) wr) ∧ Hid (Ext w wr)) (fun _ i _ => ts.length - (intOf i).toNat)
  case atStart => exact ⟨0, none, 0, Nat.zero_le _, rfl, rfl, Lib.hid (StrI.nil _ _), Lib.hid (Ext.refl _)⟩
  case round =>
    obtain ⟨j, av, cv, hj, rfl, rfl, HK, HX⟩ := hrel
    have hlen : ((ts.take j).map fun t => bs (txt true t)).length = j := by simp; omega
    have sw : w.heap.size ≤ wr.heap.size := Below.size HX.out
    by_cases hlt : j < ts.length
    · obtain ⟨tk, htk⟩ := getk hlt
      obtain ⟨b, off, a1, c1', rfl, hSb, k1, k2, k3, k4, hat⟩ := tget H4.out htk
      replace k1 := HX.out.cell k1
      replace k2 := HX.out.cell k2
      replace k3 := HX.out.cell k3
      replace k4 := HX.out.cell k4
      have HC := Lib.hid (fun w' (e' : Ext wr w') => write_val (HV.out j tk htk) _ S w' (Tm.at_ext (HX.out.trans e') hat) (HTAB.out.ext (HX.out.trans e')))
      have HTS := Lib.hid (show ((ts.take j).map fun t => bs (txt true t)) ++ [bs (txt true tk)] = (ts.take (j + 1)).map fun t => bs (txt true t) by rw [take_snoc_of htk]; simp)
      have hl3 : ts.length ≤ 1048576 := h3
      clear htk hat hSb
      go_wp2_with fail
      refine (HC.out _ (Ext.alloc _ _)).mono ?_
      rintro e w2 ⟨rfl, e2⟩
      have E2 := Lib.hid ((Ext.alloc wr (.cells #[.int .i64 tk.kind, .int .i64 tk.n, .string tk.name, .slice a1 tk.kids.length c1'] 31)).trans e2)
      have sw2 : w.heap.size ≤ w2.heap.size := Nat.le_trans sw (Below.size E2.out)
      clear e2
      go_wp2_with (at_builtin; refine wpList_append_str rfl (.tmp 12) (.tmp 15) 71 rfl (fun b => w.heap.size ≤ b) i0 Tryz.underlying71 HI.out HZ0.out HZ1.out HZ2.out (.slice av j cv) ((ts.take j).map fun t => bs (txt true t)) (bs (txt true tk)) rfl (HK.out.ext E2.out) rfl (by rw [hlen]; omega) (fun b hb => Nat.le_trans sw2 hb) rfl ?_; intro av2 cv2 w3 hA2 hf2; rw [hlen] at hA2; have K3 := Lib.hid hA2; have F3 := Lib.hid hf2; clear hA2 hf2; rw [hlen])
      all_goals
        go_roundw
        case rel => exact ⟨j + 1, av2, cv2, by omega, rfl, by simp, Lib.hid (by rw [← HTS.out]; exact K3.out), Lib.hid (((Fr.of_ext (HX.out.trans E2.out)).trans F3.out).toExt (fun k hk h => by omega))⟩
        case measure => simp [intOf]; omega
    · obtain rfl : j = ts.length := by omega
      have htk : ts.take ts.length = ts := List.take_of_length_le (Nat.le_refl _)
      have HJ := Lib.hid (show (ts.map fun t => bs (txt true t)) = (ts.map (txt true)).map bs by rw [List.map_map]; rfl)
      have HC := Lib.hid (joinC (fun b => w.heap.size ≤ b) (ts.map (txt true)) (.slice av ts.length cv) wr (by intro e; have := congrArg List.length e; simp at this; exact HNE.out (by rw [this]; rfl)) (by have := HJL.out; omega) (by
        have := HK.out
        rw [htk, HJ.out] at this
        exact this))
      clear hlen hlt hj htk
      go_wp2_with (go_at_call 65; refine HC.out.mono ?_; rintro e w2 ⟨rfl, e2⟩)
      go_ret
      exact ⟨rfl, HX.out.trans e2⟩
set_option maxRecDepth 100000 in
set_option maxHeartbeats 4000000 in
theorem implclauseText (c : Cl) (v : Value) (S : Nat → Prop) (w : World) (hv : clValidF c = true) (hc : Cl.at S w c v) (htab : TabW w) :
    Calls Tryz.prog 22 #[v] w fun e w' => e = .returned (.string (bs (clTxt c))) ∧ Ext w w' := by
  obtain ⟨v1, v2, v3⟩ := cl_parts hv
  have HLN := Lib.hid (cl_len hv)
  obtain ⟨hd, bd⟩ := c
  simp only at v1 v2 v3
  obtain ⟨a, cap, a', cap', rfl, hat, hsl⟩ := Cl.form hc
  simp only at hat hsl
  have HCH := Lib.hid (fun w' (e' : Ext w w') => write_val v1 (.agg #[.int .i64 hd.kind, .int .i64 hd.n, .string hd.name, .slice a hd.kids.length cap]) S w' (Tm.at_ext e' hat) (htab.ext e'))
  by_cases hb : bd.length = 0
  · have HF := Lib.hid (show clTxt ⟨hd, bd⟩ = txt true hd ++ [46] by simp only [clTxt, if_pos hb])
    have hz : ((bd.length : Int) == 0) = true := by simp [hb]
    have lb : ¬ 9223372036854775807 < (bs (txt true hd)).size + 1 := by rw [bs_size]; have := val_len v1; omega
    clear hat hsl hb v1 v2 v3 hc hv htab
    go_enter Tryz.func22, Tryz.ntmps22
    go_wp2_with (go_at_call 35; refine (HCH.out _ (Ext.alloc _ _)).mono ?_; rintro e w1 ⟨rfl, e1⟩)
    go_ret
    refine ⟨?_, (Ext.alloc _ _).trans e1⟩
    rw [HF.out]
    exact congrArg (fun x => Ending.returned (Value.string x)) (bs_app _ [46])
  · have HF := Lib.hid (show clTxt ⟨hd, bd⟩ = txt true hd ++ (58 :: 45 :: (joinF (bd.map (txt true)) ++ [46])) by simp only [clTxt, if_neg hb])
    have hz : ((bd.length : Int) == 0) = false := by simp; intro e; exact hb (by rw [e]; rfl)
    have hjl := join_len bd v3
    have lb1 : ¬ 9223372036854775807 < (bs (txt true hd)).size + 2 := by rw [bs_size]; have := val_len v1; omega
    have lb2 : ¬ 9223372036854775807 < (bs (txt true hd)).size + 2 + (bs (joinF (bd.map (txt true)))).size := by rw [bs_size, bs_size]; have := val_len v1; omega
    have lb3 : ¬ 9223372036854775807 < (bs (txt true hd)).size + 2 + (bs (joinF (bd.map (txt true)))).size + 1 := by rw [bs_size, bs_size]; have := val_len v1; omega
    have W1 := (Ext.alloc w (.cells #[.int .i64 hd.kind, .int .i64 hd.n, .string hd.name, .slice a hd.kids.length cap, .slice a' bd.length cap'] 33))
    have cH := quiet_call (w := w.alloc (.cells #[.int .i64 hd.kind, .int .i64 hd.n, .string hd.name, .slice a hd.kids.length cap, .slice a' bd.length cap'] 33)) (fun w' e' => HCH.out w' (W1.trans e'))
    have cB := quiet_call (w := w.alloc (.cells #[.int .i64 hd.kind, .int .i64 hd.n, .string hd.name, .slice a hd.kids.length cap, .slice a' bd.length cap'] 33)) (fun w' e' => implwriteAll bd (.slice a' bd.length cap') S w' v3 v2 hb (Tm.sl_ext (W1.trans e') hsl) (htab.ext (W1.trans e')))
    obtain ⟨W, hW⟩ : ∃ W, W = w.alloc (.cells #[.int .i64 hd.kind, .int .i64 hd.n, .string hd.name, .slice a hd.kids.length cap, .slice a' bd.length cap'] 33) := ⟨_, rfl⟩
    have m0 := cell_regrown (w := W) (a := ⟨w.heap.size, 0, none⟩) (v := .int .i64 hd.kind) (by rw [hW]; go_simp)
    have m1 := cell_regrown (w := W) (a := ⟨w.heap.size, 1, none⟩) (v := .int .i64 hd.n) (by rw [hW]; go_simp)
    have m2 := cell_regrown (w := W) (a := ⟨w.heap.size, 2, none⟩) (v := .string hd.name) (by rw [hW]; go_simp)
    have m3 := cell_regrown (w := W) (a := ⟨w.heap.size, 3, none⟩) (v := .slice a hd.kids.length cap) (by rw [hW]; go_simp)
    have m4 := cell_regrown (w := W) (a := ⟨w.heap.size, 4, none⟩) (v := .slice a' bd.length cap') (by rw [hW]; go_simp)
    rw [← hW] at cH cB W1
    clear hat hsl hb v1 v2 v3 hc hv htab hjl
    go_enter Tryz.func22, Tryz.ntmps22
    go_upto_region 3 with (fail)
    rw [← hW]
    clear hW
    refine region_ext (by kernel_rfl) (by kernel_rfl) ?_
    repeat (quiet_step (first | with_reducible exact cH _ _ | with_reducible exact cB _ _))
    refine wpQuiet_nil ?_
    intro wq eq
    go_wp2_with fail
    go_ret
    refine ⟨?_, W1.trans eq⟩
    rw [HF.out]
    refine retS ?_
    show ((bs (txt true hd) ++ bs [58, 45]) ++ bs (joinF (bd.map (txt true)))) ++ bs [46] = bs _
    rw [bs_app, bs_app, bs_app]
    simp
set_option maxRecDepth 100000 in
theorem implFormatClause (c : Cl) (v : Value) (S : Nat → Prop) (w : World) (hc : Cl.at S w c v) (htab : TabW w) : Calls Tryz.prog 8 #[v] w fun e w' => e = .returned (.string (bs (formatClF c))) ∧ Ext w w' := by
  have HV := Lib.hid (fun w' (e' : Ext w w') => implClauseValid c v S w' (Cl.at_ext e' hc))
  have HP := Lib.hid (fun (hv : clValidF c = true) w' (e' : Ext w w') => implclauseText c v S w' hv (Cl.at_ext e' hc) (htab.ext e'))
  obtain ⟨a, cap, a', cap', rfl, _, _⟩ := Cl.form hc
  cases hv : clValidF c
  · have HF := Lib.hid (show formatClF c = [] by simp [formatClF, hv])
    rw [hv] at HV
    clear hc htab HP
    go_enter Tryz.func8, Tryz.ntmps8
    go_wp2_with (go_at_call 21; refine (HV.out _ (Ext.alloc _ _)).mono ?_; rintro e w1 ⟨rfl, e1⟩)
    go_ret
    exact ⟨by rw [HF.out]; rfl, (Ext.alloc _ _).trans e1⟩
  · have HF := Lib.hid (show formatClF c = clTxt c by simp [formatClF, hv])
    have HQ := Lib.hid (HP.out hv)
    rw [hv] at HV
    clear hc htab HP
    go_enter Tryz.func8, Tryz.ntmps8
    go_wp2_with fail
    refine (HV.out _ (Ext.alloc _ _)).mono ?_
    rintro e w1 ⟨rfl, e1⟩
    have E1 := Lib.hid ((Ext.alloc w (.cells #[.int .i64 c.head.kind, .int .i64 c.head.n, .string c.head.name, .slice a c.head.kids.length cap, .slice a' c.body.length cap'] 33)).trans e1)
    have c0 := e1.cell (a := ⟨w.heap.size, 0, none⟩) (v := .int .i64 c.head.kind) (by go_simp)
    have c1 := e1.cell (a := ⟨w.heap.size, 1, none⟩) (v := .int .i64 c.head.n) (by go_simp)
    have c2 := e1.cell (a := ⟨w.heap.size, 2, none⟩) (v := .string c.head.name) (by go_simp)
    have c3 := e1.cell (a := ⟨w.heap.size, 3, none⟩) (v := .slice a c.head.kids.length cap) (by go_simp)
    have c4 := e1.cell (a := ⟨w.heap.size, 4, none⟩) (v := .slice a' c.body.length cap') (by go_simp)
    clear e1
    go_wp2_with (go_at_call 22; refine (HQ.out _ E1.out).mono ?_; rintro e w2 ⟨rfl, e2⟩)
    go_ret
    exact ⟨by rw [HF.out]; rfl, E1.out.trans e2⟩
end Go.Proofs.YtifklfnpaigdkaaGreatDoor
namespace Go.Proofs.YtifklfnpaigdkaaGreatDoor
open Go.RowKit
set_option linter.unusedVariables false

theorem text_val {t : Tm} (h : validF t = true) (v : Value) (S : Nat → Prop) (w : World) (ht : Tm.at S w t v) : Calls Tryz.prog 31 #[v] w fun e w' => e = .returned (.string (bs (txt true t))) ∧ Ext w w' :=
  specl2Text _ t (Nat.le_refl _) (valid_parts h).2 30 v S w (valid_parts h).1 ht
/-- what is written of a clause behind j goals -/
def preC (h : List UInt8) (xs : List (List UInt8)) : List UInt8 := if xs = [] then h else h ++ (58 :: 45 :: joinF xs)
theorem preC_one (s x : List UInt8) : preC s [x] = (s ++ [58, 45]) ++ x := by simp [preC, joinF]
theorem preC_snoc (s : List UInt8) (xs : List (List UInt8)) (y : List UInt8) (h : xs ≠ []) : preC s (xs ++ [y]) = (preC s xs ++ [44]) ++ y := by
  simp only [preC, if_neg h, if_neg (show xs ++ [y] ≠ [] by simp), joinF_snoc xs y h]
  simp
theorem preC_take (s : List UInt8) (xs : List (List UInt8)) (j : Nat) : (preC s (xs.take j)).length ≤ s.length + 2 + (joinF xs).length := by
  have := joinF_take xs j
  unfold preC
  split
  · omega
  · simp only [List.length_append, List.length_cons]; omega
set_option maxRecDepth 100000 in
set_option maxHeartbeats 4000000 in
theorem specl4Text (c : Cl) (v : Value) (S : Nat → Prop) (w : World) (hv : clValidF c = true) (hc : Cl.at S w c v) :
    Calls Tryz.prog 18 #[v] w fun e w' => e = .returned (.string (bs (clTxt c))) ∧ Ext w w' := by
  obtain ⟨v1, v2, v3⟩ := cl_parts hv
  obtain ⟨hd, bd⟩ := c
  simp only at v1 v2 v3
  obtain ⟨a, cap, a', cap', rfl, hat, hsl⟩ := Cl.form hc
  simp only at hat hsl
  have HCH := Lib.hid (fun w' (e' : Ext w w') => text_val v1 (.agg #[.int .i64 hd.kind, .int .i64 hd.n, .string hd.name, .slice a hd.kids.length cap]) S w' (Tm.at_ext e' hat))
  have HV3 := Lib.hid v3
  have HLH := Lib.hid (show (txt true hd).length + 2 + (joinF (bd.map (txt true))).length ≤ 30000 by have := val_len v1; have := join_len bd v3; omega)
  obtain ⟨ar, cp, heq, h1, h2, h3, h4⟩ := hsl
  simp only [Value.slice.injEq] at heq
  obtain ⟨rfl, _, rfl⟩ := heq
  have H4 := Lib.hid h4
  have HF := Lib.hid (show clTxt ⟨hd, bd⟩ = preC (txt true hd) (bd.map (txt true)) ++ [46] by
    simp only [clTxt, preC]
    by_cases hb : bd.length = 0
    · rw [if_pos hb, List.eq_nil_of_length_eq_zero hb]; rfl
    · rw [if_neg hb, if_neg (by intro e; have := congrArg List.length e; simp at this; exact hb (by rw [this]; rfl))]
      simp)
  have E0 := Lib.hid (Ext.alloc w (.cells #[.int .i64 hd.kind, .int .i64 hd.n, .string hd.name, .slice a hd.kids.length cap, .slice a' bd.length cap'] 33))
  clear h4 hat hv v1 v3 hc
  go_enter Tryz.func18, Tryz.ntmps18
  go_wp2_with fail
  refine (HCH.out _ (Ext.alloc _ _)).mono ?_
  rintro e w1 ⟨rfl, e1⟩
  have E1 := Lib.hid (E0.out.trans e1)
  have c4 := e1.cell (a := ⟨w.heap.size, 4, none⟩) (v := .slice a' bd.length cap') (by go_simp)
  have HC4 := Lib.hid c4
  have s1 : w.heap.size < w1.heap.size := block_lt_of_cell c4
  clear e1
  go_wp2_with fail
  go_loopw [3, 4] (fun sv i wr => ∃ (j : Nat) (l : List UInt8), j ≤ bd.length ∧ sv = .string (bs l) ∧ i = .int .i64 j ∧ Hid (l = preC (txt true hd) ((bd.take j).map (txt true))) ∧ Hid (Ext w1 wr)) (fun _ i _ => bd.length - (intOf i).toNat)
  case atStart => exact ⟨0, txt true hd, Nat.zero_le _, rfl, rfl, Lib.hid (by simp [preC]), Lib.hid (Ext.refl _)⟩
  case round =>
    obtain ⟨j, l, hj, rfl, rfl, HLQ, HX⟩ := hrel
    have c4 := HX.out.cell HC4.out
    have sw : w.heap.size < wr.heap.size := block_lt_of_cell c4
    have ll : l.length ≤ 30000 := by rw [HLQ.out, List.map_take]; have := preC_take (txt true hd) (bd.map (txt true)) j; have := HLH.out; omega
    have EW := Lib.hid (E1.out.trans HX.out)
    by_cases hlt : j < bd.length
    · obtain ⟨tk, htk⟩ := getk hlt
      obtain ⟨b, off, a1, c1', rfl, hSb, k1, k2, k3, k4, hat⟩ := tget H4.out htk
      replace k1 := EW.out.cell k1
      replace k2 := EW.out.cell k2
      replace k3 := EW.out.cell k3
      replace k4 := EW.out.cell k4
      have hvk := HV3.out j tk htk
      have HC := Lib.hid (text_val hvk _ S wr (Tm.at_ext EW.out hat))
      have lx := val_len hvk
      have lb1 : ¬ 9223372036854775807 < (bs l).size + 1 := by rw [bs_size]; omega
      have lb2 : ¬ 9223372036854775807 < (bs l).size + 2 := by rw [bs_size]; omega
      have lb3 : ¬ 9223372036854775807 < (bs l).size + 1 + (bs (txt true tk)).size := by rw [bs_size, bs_size]; omega
      have lb4 : ¬ 9223372036854775807 < (bs l).size + 2 + (bs (txt true tk)).size := by rw [bs_size, bs_size]; omega
      by_cases hj0 : j = 0
      · have hjz : ((j : Int) == 0) = true := by simp [hj0]
        have HN := Lib.hid (show (l ++ [58, 45]) ++ txt true tk = preC (txt true hd) ((bd.take (j + 1)).map (txt true)) by
          rw [take_snoc_of htk, HLQ.out, hj0]
          simp [preC, joinF])
        clear htk hat hSb hj0 hvk
        go_wp2_with fail
        refine HC.out.mono ?_
        rintro e w2 ⟨rfl, e2⟩
        go_wp2_with fail
        go_roundw
        case rel => exact ⟨j + 1, (l ++ [58, 45]) ++ txt true tk, by omega, congrArg Value.string (by rw [show (⟨#[58, 45]⟩ : ByteArray) = bs [58, 45] from rfl, bs_app, bs_app]), by simp, HN, Lib.hid (HX.out.trans e2)⟩
        case measure => simp [intOf]; omega
      · have hjz : ((j : Int) == 0) = false := by simp; omega
        have HN := Lib.hid (show (l ++ [44]) ++ txt true tk = preC (txt true hd) ((bd.take (j + 1)).map (txt true)) by
          rw [take_snoc_of htk, HLQ.out, List.map_append, List.map_cons, List.map_nil, preC_snoc]
          intro e
          rw [List.map_eq_nil_iff, List.take_eq_nil_iff] at e
          rcases e with e | e
          · exact hj0 e
          · rw [e] at hlt; simp at hlt)
        clear htk hat hSb hj0 hvk
        go_wp2_with fail
        refine HC.out.mono ?_
        rintro e w2 ⟨rfl, e2⟩
        go_wp2_with fail
        go_roundw
        case rel => exact ⟨j + 1, (l ++ [44]) ++ txt true tk, by omega, congrArg Value.string (by rw [show (⟨#[44]⟩ : ByteArray) = bs [44] from rfl, bs_app, bs_app]), by simp, HN, Lib.hid (HX.out.trans e2)⟩
        case measure => simp [intOf]; omega
    · obtain rfl : j = bd.length := by omega
      have HQ := Lib.hid (show l = preC (txt true hd) (bd.map (txt true)) by rw [HLQ.out, List.take_of_length_le (Nat.le_refl _)])
      have lb1 : ¬ 9223372036854775807 < (bs l).size + 1 := by rw [bs_size]; omega
      go_wp2_with fail
      go_ret
      exact ⟨by rw [HF.out, ← HQ.out]; exact congrArg (fun x => Ending.returned (Value.string x)) (bs_app l [46]), EW.out⟩
set_option maxRecDepth 100000 in
theorem specFormatClause (c : Cl) (v : Value) (S : Nat → Prop) (w : World) (hc : Cl.at S w c v) : Calls Tryz.prog 6 #[v] w fun e w' => e = .returned (.string (bs (formatClF c))) ∧ Ext w w' := by
  have HV := Lib.hid (fun w' (e' : Ext w w') => specClauseValid c v S w' (Cl.at_ext e' hc))
  have HP := Lib.hid (fun (hv : clValidF c = true) w' (e' : Ext w w') => specl4Text c v S w' hv (Cl.at_ext e' hc))
  obtain ⟨a, cap, a', cap', rfl, _, _⟩ := Cl.form hc
  cases hv : clValidF c
  · have HF := Lib.hid (show formatClF c = [] by simp [formatClF, hv])
    rw [hv] at HV
    clear hc HP
    go_enter Tryz.func6, Tryz.ntmps6
    go_wp2_with (go_at_call 17; refine (HV.out _ (Ext.alloc _ _)).mono ?_; rintro e w1 ⟨rfl, e1⟩)
    go_ret
    exact ⟨by rw [HF.out]; rfl, (Ext.alloc _ _).trans e1⟩
  · have HF := Lib.hid (show formatClF c = clTxt c by simp [formatClF, hv])
    have HQ := Lib.hid (HP.out hv)
    rw [hv] at HV
    clear hc HP
    go_enter Tryz.func6, Tryz.ntmps6
    go_wp2_with fail
    refine (HV.out _ (Ext.alloc _ _)).mono ?_
    rintro e w1 ⟨rfl, e1⟩
    have E1 := Lib.hid ((Ext.alloc w (.cells #[.int .i64 c.head.kind, .int .i64 c.head.n, .string c.head.name, .slice a c.head.kids.length cap, .slice a' c.body.length cap'] 33)).trans e1)
    have c0 := e1.cell (a := ⟨w.heap.size, 0, none⟩) (v := .int .i64 c.head.kind) (by go_simp)
    have c1 := e1.cell (a := ⟨w.heap.size, 1, none⟩) (v := .int .i64 c.head.n) (by go_simp)
    have c2 := e1.cell (a := ⟨w.heap.size, 2, none⟩) (v := .string c.head.name) (by go_simp)
    have c3 := e1.cell (a := ⟨w.heap.size, 3, none⟩) (v := .slice a c.head.kids.length cap) (by go_simp)
    have c4 := e1.cell (a := ⟨w.heap.size, 4, none⟩) (v := .slice a' c.body.length cap') (by go_simp)
    clear e1
    go_wp2_with (go_at_call 18; refine (HQ.out _ E1.out).mono ?_; rintro e w2 ⟨rfl, e2⟩)
    go_ret
    exact ⟨by rw [HF.out]; rfl, E1.out.trans e2⟩
end Go.Proofs.YtifklfnpaigdkaaGreatDoor
namespace Go.Proofs.YtifklfnpaigdkaaGreatDoor
open Go.RowKit
set_option linter.unusedVariables false

def formatPrF (cs : List Cl) : List UInt8 := if prValidF cs = true then prTxt cs else []
theorem pr_parts {cs : List Cl} (h : prValidF cs = true) : cs.length ≤ 20 ∧ ∀ (j : Nat) (c : Cl), cs[j]? = some c → clValidF c = true := by
  simp only [prValidF, Bool.and_eq_true, decide_eq_true_eq, Bool.not_eq_true'] at h
  refine ⟨h.1, fun j t ht => ?_⟩
  have := List.any_eq_false.1 h.2 t (List.mem_of_getElem? ht)
  simpa [notValid] using this
theorem prTxt_snoc {cs : List Cl} {j : Nat} {c : Cl} (h : cs[j]? = some c) : prTxt (cs.take (j + 1)) = prTxt (cs.take j) ++ (clTxt c ++ [10]) := by
  unfold prTxt
  rw [take_snoc_of h]
  simp
theorem prTxt_len : ∀ (cs : List Cl) (j : Nat), (∀ (j : Nat) (c : Cl), cs[j]? = some c → clValidF c = true) → (prTxt (cs.take j)).length ≤ cs.length * 30001
  | [], j, _ => by simp [prTxt]
  | c :: cs, 0, _ => by simp [prTxt]
  | c :: cs, j + 1, h => by
    have h1 := cl_len (h 0 c rfl)
    have h2 := prTxt_len cs j (fun j x hx => h (j + 1) x (by simpa using hx))
    simp only [prTxt, List.take_succ_cons, List.map_cons, List.flatten_cons, List.length_append, List.length_cons, List.length_nil] at h2 ⊢
    omega
set_option maxRecDepth 100000 in
set_option maxHeartbeats 4000000 in
theorem implprogramText (cs : List Cl) (v : Value) (S : Nat → Prop) (w : World) (hv : prValidF cs = true) (hc : Cl.sl S w cs v) (htab : TabW w) :
    Calls Tryz.prog 27 #[v] w fun e w' => e = .returned (.string (bs (prTxt cs))) ∧ Ext w w' := by
  obtain ⟨hp1, hp2⟩ := pr_parts hv
  have HP2 := Lib.hid hp2
  have HTAB := Lib.hid htab
  have HPL := Lib.hid (fun j => prTxt_len cs j hp2)
  obtain ⟨ar, cap, rfl, h1, h2, h3, h4⟩ := hc
  have H4 := Lib.hid h4
  clear h4 hv hp2 htab
  go_enter Tryz.func27, Tryz.ntmps27
  go_wp2_with fail
  go_loopw [3, 8] (fun sv i wr => ∃ (j : Nat) (l : List UInt8), j ≤ cs.length ∧ sv = .string (bs l) ∧ i = .int .i64 j ∧ Hid (l = prTxt (cs.take j)) ∧ Hid (Ext w wr)) (fun _ i _ => cs.length - (intOf i).toNat)
  case atStart => exact ⟨0, [], Nat.zero_le _, rfl, rfl, Lib.hid rfl, Lib.hid (Ext.refl _)⟩
  case round =>
    obtain ⟨j, l, hj, rfl, rfl, HLQ, HX⟩ := hrel
    have ll : l.length ≤ 700000 := by rw [HLQ.out]; have := HPL.out j; omega
    by_cases hlt : j < cs.length
    · obtain ⟨ck, hck⟩ := cgetk hlt
      obtain ⟨b, off, ak, ckk, al, cl, rfl, k1, k2, k3, k4, k5, hat⟩ := cget H4.out hck
      replace k1 := HX.out.cell k1
      replace k2 := HX.out.cell k2
      replace k3 := HX.out.cell k3
      replace k4 := HX.out.cell k4
      replace k5 := HX.out.cell k5
      have hvk := HP2.out j ck hck
      have HC := Lib.hid (fun w' (e' : Ext wr w') => implclauseText ck _ S w' hvk (Cl.at_ext (HX.out.trans e') hat) (HTAB.out.ext (HX.out.trans e')))
      have HN := Lib.hid (show l ++ (clTxt ck ++ [10]) = prTxt (cs.take (j + 1)) by rw [prTxt_snoc hck, HLQ.out])
      have lx := cl_len hvk
      have lb1 : ¬ 9223372036854775807 < (bs (clTxt ck)).size + 1 := by rw [bs_size]; omega
      have lb2 : ¬ 9223372036854775807 < (bs l).size + ((bs (clTxt ck)).size + 1) := by rw [bs_size, bs_size]; omega
      have hl3 : cs.length ≤ 1048576 := h3
      clear hck hat hvk
      go_wp2_with fail
      refine (HC.out _ (Ext.alloc _ _)).mono ?_
      rintro e w2 ⟨rfl, e2⟩
      go_wp2_with fail
      go_roundw
      case rel => exact ⟨j + 1, l ++ (clTxt ck ++ [10]), by omega, congrArg Value.string (by rw [show (⟨#[10]⟩ : ByteArray) = bs [10] from rfl, bs_app, bs_app]), by simp, HN, Lib.hid (HX.out.trans ((Ext.alloc _ _).trans e2))⟩
      case measure => simp [intOf]; omega
    · obtain rfl : j = cs.length := by omega
      have HQ := Lib.hid (show l = prTxt cs by rw [HLQ.out, List.take_of_length_le (Nat.le_refl _)])
      go_wp2_with fail
      go_ret
      exact ⟨by rw [← HQ.out]; rfl, HX.out⟩
set_option maxRecDepth 100000 in
theorem implFormatProgram (cs : List Cl) (v : Value) (S : Nat → Prop) (w : World) (hc : Cl.sl S w cs v) (htab : TabW w) : Calls Tryz.prog 13 #[v] w fun e w' => e = .returned (.string (bs (formatPrF cs))) ∧ Ext w w' := by
  have HV := Lib.hid (fun w' (e' : Ext w w') => implProgramValid cs v S w' (Cl.sl_ext e' hc))
  have HP := Lib.hid (fun (hv : prValidF cs = true) w' (e' : Ext w w') => implprogramText cs v S w' hv (Cl.sl_ext e' hc) (htab.ext e'))
  obtain ⟨ar, cap, rfl, _⟩ := hc
  cases hv : prValidF cs
  · have HF := Lib.hid (show formatPrF cs = [] by simp [formatPrF, hv])
    rw [hv] at HV
    clear htab HP
    go_enter Tryz.func13, Tryz.ntmps13
    go_wp2_with (go_at_call 26; refine (HV.out _ (Ext.refl _)).mono ?_; rintro e w1 ⟨rfl, e1⟩)
    go_ret
    exact ⟨by rw [HF.out]; rfl, e1⟩
  · have HF := Lib.hid (show formatPrF cs = prTxt cs by simp [formatPrF, hv])
    have HQ := Lib.hid (HP.out hv)
    rw [hv] at HV
    clear htab HP
    go_enter Tryz.func13, Tryz.ntmps13
    go_wp2_with fail
    refine (HV.out _ (Ext.refl _)).mono ?_
    rintro e w1 ⟨rfl, e1⟩
    have E1 := Lib.hid e1
    clear e1
    go_wp2_with (go_at_call 27; refine (HQ.out _ E1.out).mono ?_; rintro e w2 ⟨rfl, e2⟩)
    go_ret
    exact ⟨by rw [HF.out]; rfl, E1.out.trans e2⟩
set_option maxRecDepth 100000 in
set_option maxHeartbeats 4000000 in
theorem specFormatProgram (cs : List Cl) (v : Value) (S : Nat → Prop) (w : World) (hc : Cl.sl S w cs v) : Calls Tryz.prog 11 #[v] w fun e w' => e = .returned (.string (bs (formatPrF cs))) ∧ Ext w w' := by
  have HV := Lib.hid (fun w' (e' : Ext w w') => specProgramValid cs v S w' (Cl.sl_ext e' hc))
  obtain ⟨ar, cap, rfl, h1, h2, h3, h4⟩ := hc
  have H4 := Lib.hid h4
  clear h4
  cases hv : prValidF cs
  · have HF := Lib.hid (show formatPrF cs = [] by simp [formatPrF, hv])
    rw [hv] at HV
    clear hv
    go_enter Tryz.func11, Tryz.ntmps11
    go_wp2_with fail
    go_loopw [3, 4] (fun sv i wr => sv = .string (bs []) ∧ i = .int .i64 0 ∧ Hid (Ext w wr)) (fun _ i _ => cs.length - (intOf i).toNat)
    case atStart => exact ⟨rfl, rfl, Lib.hid (Ext.refl _)⟩
    case round =>
      obtain ⟨rfl, rfl, HX⟩ := hrel
      by_cases hlt : 0 < cs.length
      · have hlt' : (0 : Int) < (cs.length : Int) := by omega
        go_wp2_with (go_at_call 25; refine (HV.out _ HX.out).mono ?_; rintro e w1 ⟨rfl, e1⟩)
        go_ret
        exact ⟨by rw [HF.out]; rfl, HX.out.trans e1⟩
      · have hlt' : ¬ (0 : Int) < (cs.length : Int) := by omega
        go_wp2_with fail
        go_ret
        exact ⟨by rw [HF.out]; rfl, HX.out⟩
  · have HF := Lib.hid (show formatPrF cs = prTxt cs by simp [formatPrF, hv])
    obtain ⟨hp1, hp2⟩ := pr_parts hv
    have HP2 := Lib.hid hp2
    have HPL := Lib.hid (fun j => prTxt_len cs j hp2)
    rw [hv] at HV
    clear hv hp2
    go_enter Tryz.func11, Tryz.ntmps11
    go_wp2_with fail
    go_loopw [3, 4] (fun sv i wr => ∃ (j : Nat) (l : List UInt8), j ≤ cs.length ∧ sv = .string (bs l) ∧ i = .int .i64 j ∧ Hid (l = prTxt (cs.take j)) ∧ Hid (Ext w wr)) (fun _ i _ => cs.length - (intOf i).toNat)
    case atStart => exact ⟨0, [], Nat.zero_le _, rfl, rfl, Lib.hid rfl, Lib.hid (Ext.refl _)⟩
    case round =>
      obtain ⟨j, l, hj, rfl, rfl, HLQ, HX⟩ := hrel
      have ll : l.length ≤ 700000 := by rw [HLQ.out]; have := HPL.out j; omega
      by_cases hlt : j < cs.length
      · obtain ⟨ck, hck⟩ := cgetk hlt
        obtain ⟨b, off, ak, ckk, al, cl, rfl, k1, k2, k3, k4, k5, hat⟩ := cget H4.out hck
        have hvk := HP2.out j ck hck
        have HC := Lib.hid (fun w' (e' : Ext wr w') => specl4Text ck _ S w' hvk (Cl.at_ext (HX.out.trans e') hat))
        have HN := Lib.hid (show (l ++ clTxt ck) ++ [10] = prTxt (cs.take (j + 1)) by rw [prTxt_snoc hck, HLQ.out]; simp)
        have lx := cl_len hvk
        have lb1 : ¬ 9223372036854775807 < (bs l).size + (bs (clTxt ck)).size := by rw [bs_size, bs_size]; omega
        have lb2 : ¬ 9223372036854775807 < (bs l).size + (bs (clTxt ck)).size + 1 := by rw [bs_size, bs_size]; omega
        have hl3 : cs.length ≤ 1048576 := h3
        clear hck hat hvk
        go_wp2_with fail
        refine (HV.out _ HX.out).mono ?_
        rintro e w1 ⟨rfl, e1⟩
        have E1 := Lib.hid e1
        have HX1 := Lib.hid (HX.out.trans e1)
        replace k1 := HX1.out.cell k1
        replace k2 := HX1.out.cell k2
        replace k3 := HX1.out.cell k3
        replace k4 := HX1.out.cell k4
        replace k5 := HX1.out.cell k5
        clear e1
        go_wp2_with fail
        refine (HC.out _ E1.out).mono ?_
        rintro e w2 ⟨rfl, e2⟩
        go_wp2_with fail
        go_roundw
        case rel => exact ⟨j + 1, (l ++ clTxt ck) ++ [10], by omega, congrArg Value.string (by rw [show (⟨#[10]⟩ : ByteArray) = bs [10] from rfl, bs_app, bs_app]), by simp, HN, Lib.hid (HX1.out.trans e2)⟩
        case measure => simp [intOf]; omega
      · obtain rfl : j = cs.length := by omega
        have HQ := Lib.hid (show l = prTxt cs by rw [HLQ.out, List.take_of_length_le (Nat.le_refl _)])
        go_wp2_with fail
        go_ret
        exact ⟨by rw [HF.out, ← HQ.out]; rfl, HX.out⟩
end Go.Proofs.YtifklfnpaigdkaaGreatDoor
