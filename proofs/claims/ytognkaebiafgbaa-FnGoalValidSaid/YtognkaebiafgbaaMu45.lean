/-
  Texts of terms, the reference's l2Text of every term, and WriteTerm.
-/
import Derived.Test.YtognkaebiafgbaaMu44
import Derived.Test.YtognkaebiafgbaaMu18
namespace Go.Proofs.Ytognkaebiafgbaa
open Go.RowKit
set_option linter.unusedVariables false
theorem txt_leaf {k n : Int} {s : ByteArray} (o : Bool) : txt o (.mk k n s []) = txt false (.mk k n s []) := by
  simp [txt, txF, ownTx, txL, infF]
set_option maxRecDepth 100000 in
set_option maxHeartbeats 4000000 in
theorem specl2Text_leaf (k n : Int) (s : ByteArray) (d : Nat) (v : Value) (S : Nat → Prop) (w : World) (hsh : shapeF (.mk k n s []) d = true) (ht : Tm.at S w (.mk k n s []) v) :
    Calls Try.prog 74 #[v] w fun e w' => e = .returned (.string (bs (txt true (.mk k n s [])))) ∧ Ext w w' := by
  have hz : Tm.sz (.mk k n s []) ≤ 120 := by simp [Tm.sz, Tm.szL]
  have HC := Lib.hid (fun w' (e' : Ext w w') => specl1Text _ (.mk k n s []) (Nat.le_refl _) hz d v S w' hsh (Tm.at_ext e' ht))
  have HF := Lib.hid (txt_leaf (k := k) (n := n) (s := s) true)
  have hp : pairF k s ([] : List Tm).length = false := by simp [pairF]
  have hi : infF k s ([] : List Tm).length = false := by simp [infF]
  have HT := Lib.hid ht
  obtain ⟨hs1, sv, rfl, ar, cap, rfl, h1, h2, h3, h4⟩ := ht
  clear h4 hsh hz
  go_enter Try.func74, Try.ntmps74
  go_wp2_with fail
  refine (specl1Pair k n s [] _ S _ (Tm.at_ext (Ext.alloc _ _) HT.out)).mono ?_
  rw [hp]
  rintro e w1 ⟨rfl, e1⟩
  have E1 := Lib.hid ((Ext.alloc w (.cells #[.int .i64 k, .int .i64 n, .string s, .slice ar 0 cap] 25)).trans e1)
  have HBX := Lib.hid ((BoxT.new w (.int .i64 k) (.int .i64 n) (.string s) (.slice ar 0 cap) 25 rfl).ext e1)
  obtain ⟨c0, c1, c2, c3, g0, g1, g2, g3⟩ := HBX.out
  have s1 : w.heap.size < w1.heap.size := block_lt_of_cell c0
  clear e1
  go_wp2_with fail
  refine (specl2Infix k n s [] _ S _ (Tm.at_ext E1.out HT.out)).mono ?_
  rw [hi]
  rintro e w2 ⟨rfl, e2⟩
  have E2 := Lib.hid (E1.out.trans e2)
  obtain ⟨c0, c1, c2, c3, g0, g1, g2, g3⟩ := HBX.out.ext e2
  have s1 : w.heap.size < w2.heap.size := block_lt_of_cell c0
  clear e2
  by_cases hk : k = 3
  · have hk3 : (k == 3) = true := by simp [hk]
    clear hk
    go_wp2_with (go_at_call 85; refine (HC.out _ E2.out).mono ?_; rintro e w3 ⟨rfl, e3⟩)
    go_ret
    exact ⟨by rw [HF.out]; rfl, E2.out.trans e3⟩
  · have hk3 : (k == 3) = false := by simp [hk]
    clear hk
    go_wp2_with (go_at_call 85; refine (HC.out _ E2.out).mono ?_; rintro e w3 ⟨rfl, e3⟩)
    go_ret
    exact ⟨by rw [HF.out]; rfl, E2.out.trans e3⟩
set_option maxRecDepth 100000 in
set_option maxHeartbeats 4000000 in
theorem specl2Text_args (n : Int) (s : ByteArray) (ks : List Tm) (d : Nat) (v : Value) (S : Nat → Prop) (w : World) (hp : ∀ u, Tm.sz u < Tm.sz (.mk 3 n s ks) → S2C u) (hsh : shapeF (.mk 3 n s ks) d = true) (hsz : Tm.sz (.mk 3 n s ks) ≤ 120)
    (hpr : pairF 3 s ks.length = false) (hi : infF 3 s ks.length = false) (hl : ks.length ≠ 0) (ht : Tm.at S w (.mk 3 n s ks) v) :
    Calls Try.prog 74 #[v] w fun e w' => e = .returned (.string (bs (txt true (.mk 3 n s ks)))) ∧ Ext w w' := by
  have HF := Lib.hid (txt_args (o := true) (n := n) (by rw [hi]; rfl) hpr hl)
  have HLN := Lib.hid (tx_len true _ d hsh)
  have HT := Lib.hid ht
  obtain ⟨hs1, sv, rfl, ar, cap, rfl, h1, h2, h3, h4⟩ := ht
  have HSL := Lib.hid (show Tm.sl S w ks (.slice ar ks.length cap) from ⟨ar, cap, rfl, h1, h2, h3, h4⟩)
  have lj : (joinF (ks.map (txt true))).length + s.toList.length + 2 ≤ 4000 := by
    have h1 := HLN.out.1
    rw [HF.out] at h1
    simp only [List.length_append, List.length_cons, List.length_nil] at h1
    omega
  have HC := Lib.hid (fun w' (e' : Ext w w') => specl2Args ks (.slice ar ks.length cap) S w' (fun j u h => hp u (kid_lt h)) (fun j u h => ⟨d - 1, shape_kid hsh h⟩) (by omega) (Tm.sl_ext e' HSL.out))
  have lj1 : (bs (joinF (ks.map (txt true)))).size + s.size + 2 ≤ 4000 := by rw [bs_size, ← bl_len]; exact lj
  have hlz : (0 : Int) < (ks.length : Int) := by omega
  clear h4 hp hsh hsz hl lj
  go_enter Try.func74, Try.ntmps74
  go_wp2_with fail
  refine (specl1Pair 3 n s ks _ S _ (Tm.at_ext (Ext.alloc _ _) HT.out)).mono ?_
  rw [hpr]
  rintro e w1 ⟨rfl, e1⟩
  have E1 := Lib.hid ((Ext.alloc w (.cells #[.int .i64 3, .int .i64 n, .string s, .slice ar ks.length cap] 25)).trans e1)
  have HBX := Lib.hid ((BoxT.new w (.int .i64 3) (.int .i64 n) (.string s) (.slice ar ks.length cap) 25 rfl).ext e1)
  obtain ⟨c0, c1, c2, c3, g0, g1, g2, g3⟩ := HBX.out
  have s1 : w.heap.size < w1.heap.size := block_lt_of_cell c0
  clear e1
  go_wp2_with fail
  refine (specl2Infix 3 n s ks _ S _ (Tm.at_ext E1.out HT.out)).mono ?_
  rw [hi]
  rintro e w2 ⟨rfl, e2⟩
  have E2 := Lib.hid (E1.out.trans e2)
  obtain ⟨c0, c1, c2, c3, g0, g1, g2, g3⟩ := HBX.out.ext e2
  have s1 : w.heap.size < w2.heap.size := block_lt_of_cell c0
  have cQ := quiet_call (w := w2) (fun w' e' => HC.out w' (E2.out.trans e'))
  have m2 := cell_regrown c2
  have m3 := cell_regrown c3
  have lb1 : ¬ 9223372036854775807 < s.size + 1 := by omega
  have lb2 : ¬ 9223372036854775807 < s.size + 1 + (bs (joinF (ks.map (txt true)))).size := by omega
  have lb3 : ¬ 9223372036854775807 < s.size + 1 + (bs (joinF (ks.map (txt true)))).size + 1 := by omega
  clear e2 g0 g1 g2 g3
  go_wp2_with fail
  refine region_ext (by kernel_rfl) (by kernel_rfl) ?_
  repeat (quiet_step (with_reducible exact cQ _ _))
  refine wpQuiet_nil ?_
  intro wq eq
  go_wp2_with fail
  go_ret
  refine ⟨?_, E2.out.trans eq⟩
  rw [HF.out]
  refine retS ?_
  show ((s ++ bs [40]) ++ bs (joinF (ks.map (txt true)))) ++ bs [41] = bs _
  exact bl_ext (by simp only [list_app, bs_list]; simp)
set_option maxRecDepth 100000 in
set_option maxHeartbeats 4000000 in
theorem specl2Text_pair (n : Int) (s : ByteArray) (a b : Tm) (d : Nat) (v : Value) (S : Nat → Prop) (w : World) (hp : ∀ u, Tm.sz u < Tm.sz (.mk 3 n s [a, b]) → S2C u) (hsh : shapeF (.mk 3 n s [a, b]) d = true) (hsz : Tm.sz (.mk 3 n s [a, b]) ≤ 120)
    (hpr : pairF 3 s 2 = true) (ht : Tm.at S w (.mk 3 n s [a, b]) v) :
    Calls Try.prog 74 #[v] w fun e w' => e = .returned (.string (bs (txt true (.mk 3 n s [a, b])))) ∧ Ext w w' := by
  have HC := Lib.hid (fun w' (e' : Ext w w') => specl2List n s a b d v S w' hp hsh hsz hpr (Tm.at_ext e' ht))
  have HT := Lib.hid ht
  obtain ⟨hs1, sv, rfl, ar, cap, rfl, h1, h2, h3, h4⟩ := ht
  clear h4 hp hsh hsz
  go_enter Try.func74, Try.ntmps74
  go_wp2_with fail
  refine (specl1Pair 3 n s [a, b] _ S _ (Tm.at_ext (Ext.alloc _ _) HT.out)).mono ?_
  rw [show ([a, b] : List Tm).length = 2 from rfl, hpr]
  rintro e w1 ⟨rfl, e1⟩
  have E1 := Lib.hid ((Ext.alloc w (.cells #[.int .i64 3, .int .i64 n, .string s, .slice ar 2 cap] 25)).trans e1)
  obtain ⟨c0, c1, c2, c3, g0, g1, g2, g3⟩ := (BoxT.new w (.int .i64 3) (.int .i64 n) (.string s) (.slice ar 2 cap) 25 rfl).ext e1
  have s1 : w.heap.size < w1.heap.size := block_lt_of_cell c0
  go_wp2_with (go_at_call 79; refine (HC.out _ E1.out).mono ?_; rintro e w2 ⟨rfl, e2⟩)
  go_ret
  exact ⟨rfl, E1.out.trans e2⟩
theorem specl2Text : ∀ (m : Nat) (t : Tm), Tm.sz t ≤ m → Tm.sz t ≤ 120 → S2C t := by
  intro m
  induction m with
  | zero => intro t hm; have := Tm.sz_pos t; omega
  | succ m ih =>
    intro t hm hsz d v S w hsh ht
    obtain ⟨k, n, s, ks⟩ := t
    by_cases hl : ks.length = 0
    · rw [List.eq_nil_of_length_eq_zero hl] at hsh ht ⊢
      exact specl2Text_leaf k n s d v S w hsh ht
    · obtain rfl : k = 3 := by
        rcases shape_own hsh with ⟨_, _, rfl⟩ | ⟨_, _, rfl⟩ | ⟨h, _⟩
        · simp at hl
        · simp at hl
        · exact h
      cases hi : infF 3 s ks.length
      · cases hpr : pairF 3 s ks.length
        · exact specl2Text_args n s ks d v S w (fun u hu => ih u (by omega) (by omega)) hsh hsz hpr hi hl ht
        · obtain ⟨a, b, rfl⟩ := len_two (pair_two hpr).2.1
          exact specl2Text_pair n s a b d v S w (fun u hu => ih u (by omega) (by omega)) hsh hsz hpr ht
      · obtain ⟨a, b, rfl⟩ := len_two (inf_two hi).2.1
        have h1 : Tm.sz a ≤ m ∧ Tm.sz b ≤ m := by simp only [Tm.sz, Tm.szL] at hm; omega
        have h2 : Tm.sz a ≤ 120 ∧ Tm.sz b ≤ 120 := by simp only [Tm.sz, Tm.szL] at hsz; omega
        exact specl2Text_op n s a b d v S w (ih a h1.1 h2.1) (ih b h1.2 h2.2) hi hsh hsz ht
end Go.Proofs.Ytognkaebiafgbaa

namespace Go.Proofs.Ytognkaebiafgbaa
open Go.RowKit
set_option linter.unusedVariables false
theorem text_val {t : Tm} (h : validF t = true) (v : Value) (S : Nat → Prop) (w : World) (ht : Tm.at S w t v) : Calls Try.prog 74 #[v] w fun e w' => e = .returned (.string (bs (txt true t))) ∧ Ext w w' :=
  specl2Text _ t (Nat.le_refl _) (valid_parts h).2 30 v S w (valid_parts h).1 ht
def preC (h : List UInt8) (xs : List (List UInt8)) : List UInt8 := if xs = [] then h else h ++ (58 :: 45 :: joinF xs)
theorem preC_snoc (s : List UInt8) (xs : List (List UInt8)) (y : List UInt8) (h : xs ≠ []) : preC s (xs ++ [y]) = (preC s xs ++ [44]) ++ y := by
  simp only [preC, if_neg h, if_neg (show xs ++ [y] ≠ [] by simp), joinF_snoc xs y h]
  simp
theorem preC_take (s : List UInt8) (xs : List (List UInt8)) (j : Nat) : (preC s (xs.take j)).length ≤ s.length + 2 + (joinF xs).length := by
  have := joinF_take xs j
  unfold preC
  split
  · omega
  · simp only [List.length_append, List.length_cons]; omega
set_option maxRecDepth 100000 in
set_option maxHeartbeats 4000000 in
theorem specl4Text (c : Cl) (v : Value) (S : Nat → Prop) (w : World) (hv : clValidF c = true) (hc : Cl.at S w c v) :
    Calls Try.prog 67 #[v] w fun e w' => e = .returned (.string (bs (clTxt c))) ∧ Ext w w' := by
  obtain ⟨v1, v2, v3⟩ := cl_parts hv
  obtain ⟨hd, bd⟩ := c
  simp only at v1 v2 v3
  obtain ⟨a, cap, a', cap', rfl, hat, hsl⟩ := Cl.form hc
  simp only at hat hsl
  have HCH := Lib.hid (fun w' (e' : Ext w w') => text_val v1 (.agg #[.int .i64 hd.kind, .int .i64 hd.n, .string hd.name, .slice a hd.kids.length cap]) S w' (Tm.at_ext e' hat))
  have HV3 := Lib.hid v3
  have HLH := Lib.hid (show (txt true hd).length + 2 + (joinF (bd.map (txt true))).length ≤ 30000 by have := val_len v1; have := join_len bd v3; omega)
  obtain ⟨ar, cp, heq, h1, h2, h3, h4⟩ := hsl
  simp only [Value.slice.injEq] at heq
  obtain ⟨rfl, _, rfl⟩ := heq
  have H4 := Lib.hid h4
  have HF := Lib.hid (show clTxt ⟨hd, bd⟩ = preC (txt true hd) (bd.map (txt true)) ++ [46] by
    simp only [clTxt, preC]
    by_cases hb : bd.length = 0
    · rw [if_pos hb, List.eq_nil_of_length_eq_zero hb]; rfl
    · rw [if_neg hb, if_neg (by intro e; have := congrArg List.length e; simp at this; exact hb (by rw [this]; rfl))]
      simp)
  have E0 := Lib.hid (Ext.alloc w (.cells #[.int .i64 hd.kind, .int .i64 hd.n, .string hd.name, .slice a hd.kids.length cap, .slice a' bd.length cap'] 33))
  clear h4 hat hv v1 v3 hc
  go_enter Try.func67, Try.ntmps67
  go_wp2_with fail
  refine (HCH.out _ (Ext.alloc _ _)).mono ?_
  rintro e w1 ⟨rfl, e1⟩
  have E1 := Lib.hid (E0.out.trans e1)
  have c4 := e1.cell (a := ⟨w.heap.size, 4, none⟩) (v := .slice a' bd.length cap') (by go_simp)
  have HC4 := Lib.hid c4
  have s1 : w.heap.size < w1.heap.size := block_lt_of_cell c4
  clear e1
  go_wp2_with fail
  go_loopw [3, 4] (fun sv i wr => ∃ (j : Nat) (l : List UInt8), j ≤ bd.length ∧ sv = .string (bs l) ∧ i = .int .i64 j ∧ Hid (l = preC (txt true hd) ((bd.take j).map (txt true))) ∧ Hid (Ext w1 wr)) (fun _ i _ => bd.length - (intOf i).toNat)
  case atStart => exact ⟨0, txt true hd, Nat.zero_le _, rfl, rfl, Lib.hid (by simp [preC]), Lib.hid (Ext.refl _)⟩
  case round =>
    obtain ⟨j, l, hj, rfl, rfl, HLQ, HX⟩ := hrel
    have c4 := HX.out.cell HC4.out
    have sw : w.heap.size < wr.heap.size := block_lt_of_cell c4
    have ll : l.length ≤ 30000 := by rw [HLQ.out, List.map_take]; have := preC_take (txt true hd) (bd.map (txt true)) j; have := HLH.out; omega
    have EW := Lib.hid (E1.out.trans HX.out)
    by_cases hlt : j < bd.length
    · obtain ⟨tk, htk⟩ := getk hlt
      obtain ⟨b, off, a1, c1', rfl, hSb, k1, k2, k3, k4, hat⟩ := tget H4.out htk
      replace k1 := EW.out.cell k1
      replace k2 := EW.out.cell k2
      replace k3 := EW.out.cell k3
      replace k4 := EW.out.cell k4
      have hvk := HV3.out j tk htk
      have HC := Lib.hid (text_val hvk _ S wr (Tm.at_ext EW.out hat))
      have lx := val_len hvk
      have lb1 : ¬ 9223372036854775807 < (bs l).size + 1 := by rw [bs_size]; omega
      have lb2 : ¬ 9223372036854775807 < (bs l).size + 2 := by rw [bs_size]; omega
      have lb3 : ¬ 9223372036854775807 < (bs l).size + 1 + (bs (txt true tk)).size := by rw [bs_size, bs_size]; omega
      have lb4 : ¬ 9223372036854775807 < (bs l).size + 2 + (bs (txt true tk)).size := by rw [bs_size, bs_size]; omega
      by_cases hj0 : j = 0
      · have hjz : ((j : Int) == 0) = true := by simp [hj0]
        have HN := Lib.hid (show (l ++ [58, 45]) ++ txt true tk = preC (txt true hd) ((bd.take (j + 1)).map (txt true)) by
          rw [take_snoc_of htk, HLQ.out, hj0]
          simp [preC, joinF])
        clear htk hat hSb hj0 hvk
        go_wp2_with fail
        refine HC.out.mono ?_
        rintro e w2 ⟨rfl, e2⟩
        go_wp2_with fail
        go_roundw
        case rel => exact ⟨j + 1, (l ++ [58, 45]) ++ txt true tk, by omega, congrArg Value.string (by rw [show (⟨#[58, 45]⟩ : ByteArray) = bs [58, 45] from rfl, bs_app, bs_app]), by simp, HN, Lib.hid (HX.out.trans e2)⟩
        case measure => simp [intOf]; omega
      · have hjz : ((j : Int) == 0) = false := by simp; omega
        have HN := Lib.hid (show (l ++ [44]) ++ txt true tk = preC (txt true hd) ((bd.take (j + 1)).map (txt true)) by
          rw [take_snoc_of htk, HLQ.out, List.map_append, List.map_cons, List.map_nil, preC_snoc]
          intro e
          rw [List.map_eq_nil_iff, List.take_eq_nil_iff] at e
          rcases e with e | e
          · exact hj0 e
          · rw [e] at hlt; simp at hlt)
        clear htk hat hSb hj0 hvk
        go_wp2_with fail
        refine HC.out.mono ?_
        rintro e w2 ⟨rfl, e2⟩
        go_wp2_with fail
        go_roundw
        case rel => exact ⟨j + 1, (l ++ [44]) ++ txt true tk, by omega, congrArg Value.string (by rw [show (⟨#[44]⟩ : ByteArray) = bs [44] from rfl, bs_app, bs_app]), by simp, HN, Lib.hid (HX.out.trans e2)⟩
        case measure => simp [intOf]; omega
    · obtain rfl : j = bd.length := by omega
      have HQ := Lib.hid (show l = preC (txt true hd) (bd.map (txt true)) by rw [HLQ.out, List.take_of_length_le (Nat.le_refl _)])
      have lb1 : ¬ 9223372036854775807 < (bs l).size + 1 := by rw [bs_size]; omega
      go_wp2_with fail
      go_ret
      exact ⟨by rw [HF.out, ← HQ.out]; exact congrArg (fun x => Ending.returned (Value.string x)) (bs_app l [46]), EW.out⟩
set_option maxRecDepth 100000 in
theorem specFormatClause (c : Cl) (v : Value) (S : Nat → Prop) (w : World) (hc : Cl.at S w c v) : Calls Try.prog 59 #[v] w fun e w' => e = .returned (.string (bs (formatClF c))) ∧ Ext w w' := by
  have HV := Lib.hid (fun w' (e' : Ext w w') => specClauseValid c v S w' (Cl.at_ext e' hc))
  have HP := Lib.hid (fun (hv : clValidF c = true) w' (e' : Ext w w') => specl4Text c v S w' hv (Cl.at_ext e' hc))
  obtain ⟨a, cap, a', cap', rfl, _, _⟩ := Cl.form hc
  cases hv : clValidF c
  · have HF := Lib.hid (show formatClF c = [] by simp [formatClF, hv])
    rw [hv] at HV
    clear hc HP
    go_enter Try.func59, Try.ntmps59
    go_wp2_with (go_at_call 66; refine (HV.out _ (Ext.alloc _ _)).mono ?_; rintro e w1 ⟨rfl, e1⟩)
    go_ret
    exact ⟨by rw [HF.out]; rfl, (Ext.alloc _ _).trans e1⟩
  · have HF := Lib.hid (show formatClF c = clTxt c by simp [formatClF, hv])
    have HQ := Lib.hid (HP.out hv)
    rw [hv] at HV
    clear hc HP
    go_enter Try.func59, Try.ntmps59
    go_wp2_with fail
    refine (HV.out _ (Ext.alloc _ _)).mono ?_
    rintro e w1 ⟨rfl, e1⟩
    have E1 := Lib.hid ((Ext.alloc w (.cells #[.int .i64 c.head.kind, .int .i64 c.head.n, .string c.head.name, .slice a c.head.kids.length cap, .slice a' c.body.length cap'] 33)).trans e1)
    have c0 := e1.cell (a := ⟨w.heap.size, 0, none⟩) (v := .int .i64 c.head.kind) (by go_simp)
    have c1 := e1.cell (a := ⟨w.heap.size, 1, none⟩) (v := .int .i64 c.head.n) (by go_simp)
    have c2 := e1.cell (a := ⟨w.heap.size, 2, none⟩) (v := .string c.head.name) (by go_simp)
    have c3 := e1.cell (a := ⟨w.heap.size, 3, none⟩) (v := .slice a c.head.kids.length cap) (by go_simp)
    have c4 := e1.cell (a := ⟨w.heap.size, 4, none⟩) (v := .slice a' c.body.length cap') (by go_simp)
    clear e1
    go_wp2_with (go_at_call 67; refine (HQ.out _ E1.out).mono ?_; rintro e w2 ⟨rfl, e2⟩)
    go_ret
    exact ⟨by rw [HF.out]; rfl, E1.out.trans e2⟩
end Go.Proofs.Ytognkaebiafgbaa
