/-
  Texts of terms, the reference's l2List, l2Text and WriteTerm.
-/
import Derived.Test.YtognkaebiafgbaaGreatMv35
namespace Go.Proofs.YtognkaebiafgbaaGreat
open Go.RowKit
set_option linter.unusedVariables false
set_option maxRecDepth 100000 in
set_option maxHeartbeats 4000000 in
theorem specl2List (n : Int) (s : ByteArray) (a b : Tm) (d : Nat) (v : Value) (S : Nat → Prop) (w : World)
    (hp : ∀ u, Tm.sz u < Tm.sz (.mk 3 n s [a, b]) → S2C u) (hsh : shapeF (.mk 3 n s [a, b]) d = true) (hsz : Tm.sz (.mk 3 n s [a, b]) ≤ 120) (hpr : pairF 3 s 2 = true) (ht : Tm.at S w (.mk 3 n s [a, b]) v) :
    Calls Tryz.prog 101 #[v] w fun e w' => e = .returned (.string (bs (txt true (.mk 3 n s [a, b])))) ∧ Ext w w' := by
  have HP := Lib.hid hp
  have HL := Lib.hid (tx_len true _ d hsh)
  have HS0 := Lib.hid hsh
  have HSA := Lib.hid (shape_kid hsh (j := 0) (t := a) rfl)
  have HSB := Lib.hid (shape_kid hsh (j := 1) (t := b) rfl)
  have HPR := Lib.hid hpr
  have hno : (true && infF 3 s 2) = false := by
    obtain ⟨_, _, h46⟩ := pair_two hpr
    simp [infF, h46, opLevelF]
  have HF := Lib.hid (txt_pair (o := true) (n := n) (a := a) (b := b) hno hpr)
  have HZ := Lib.hid hsz
  have ht' := Tm.at_bound ht
  have HT := Lib.hid ht'
  obtain ⟨i0, hi, hz0, hz1, hz2⟩ := info_parts info_term3
  have HI := Lib.hid hi
  have HZ0 := Lib.hid hz0
  have HZ1 := Lib.hid hz1
  have HZ2 := Lib.hid hz2
  obtain ⟨hs1, sv, rfl, ar, cap, rfl, h1, h2, h3, h4⟩ := ht'
  obtain ⟨hcap, _⟩ : 2 ≤ cap ∧ True := ⟨h1, trivial⟩
  have HTX := Lib.hid (show (txt true (.mk 3 n s [a, b])).length ≤ 3900 by have := HL.out.1; have := HZ.out; omega)
  clear hp hsh hsz hpr ht h4 hno hi hz0 hz1 hz2
  go_enter Tryz.func101, Tryz.ntmps101
  go_wp2_with fail
  go_loopg [3] (Tm.sz (.mk 3 n s [a, b])) (fun g sv wr => ∃ (u : Tm) (its : List Tm) (av : Option Addr) (cv : Nat) (ac : Option Addr) (cc e : Nat), Tm.sz u ≤ g ∧ sv = .slice av its.length cv ∧
      Hid ((its = [] ∧ u = .mk 3 n s [a, b]) ∨ (its ≠ [] ∧ Tm.sz u < Tm.sz (.mk 3 n s [a, b]) ∧ joinF (its.map (txt true)) ++ rst true u = txt true a ++ rst true b)) ∧ Hid (shapeF u e = true) ∧ Hid (its.length + Tm.sz u ≤ Tm.sz (.mk 3 n s [a, b])) ∧
      Hid (∀ (j : Nat) (x : Tm), its[j]? = some x → Tm.sz x < Tm.sz (.mk 3 n s [a, b]) ∧ ∃ d, shapeF x d = true) ∧
      Hid (BoxT wr w.heap.size (.int .i64 u.kind) (.int .i64 u.n) (.string u.name) (.slice ac u.kids.length cc)) ∧ Hid (Tm.at (fun x => S x ∧ x < w.heap.size) wr u (.agg #[.int .i64 u.kind, .int .i64 u.n, .string u.name, .slice ac u.kids.length cc])) ∧
      Hid (AppS 26 (fun b => w.heap.size + 1 ≤ b) (fun x => S x ∧ x < w.heap.size) its (.slice av its.length cv) wr) ∧ Hid (Ext w wr))
  case atStart =>
    refine ⟨.mk 3 n s [a, b], [], _, _, _, cap, d, Nat.le_refl _, rfl, Lib.hid (.inl ⟨rfl, rfl⟩), HS0, Lib.hid (by simp), Lib.hid (fun j x h => by simp at h), Lib.hid ?_, Lib.hid (Tm.at_ext ((Ext.alloc _ _).trans (Ext.alloc _ _)) HT.out), Lib.hid ?_, Lib.hid ((Ext.alloc _ _).trans (Ext.alloc _ _))⟩
    · exact (BoxT.new w _ _ _ _ 26 rfl).ext (Ext.alloc _ _)
    · exact AppS.empty (by simp) (by simp)
  case round =>
    obtain ⟨u, its, av, cv, ac, cc, e, hg, rfl, HE, HSU, HSZ, HIT, HBX, HAT, HAP, HX⟩ := hrel
    have sB : w.heap.size < wr.heap.size := HBX.out.lt
    obtain ⟨uk, un, us, uks⟩ := u
    simp only [Tm.kind, Tm.n, Tm.name, Tm.kids] at HBX HAT
    obtain ⟨b0, b1, b2, b3, f0, f1, f2, f3⟩ := HBX.out
    have lits : its.length ≤ 120 := by have := HSZ.out; have := HZ.out; omega
    go_wp2_with fail
    refine (specl1Pair uk un us uks _ (fun x => S x ∧ x < w.heap.size) _ HAT.out).mono ?_
    rintro e3 w3 ⟨rfl, e3⟩
    have E3 := Lib.hid (HX.out.trans e3)
    have HBX3 := Lib.hid (HBX.out.ext e3)
    obtain ⟨b0, b1, b2, b3, f0, f1, f2, f3⟩ := HBX.out.ext e3
    have s3 : w.heap.size < w3.heap.size := block_lt_of_cell b0
    have HAT3 := Lib.hid (Tm.at_ext e3 HAT.out)
    have HAP3 := Lib.hid (HAP.out.ext e3)
    cases hpu : pairF uk us uks.length
    · have HEE : Hid (its ≠ [] ∧ Tm.sz (.mk uk un us uks) < Tm.sz (.mk 3 n s [a, b]) ∧ joinF (its.map (txt true)) ++ rst true (.mk uk un us uks) = txt true a ++ rst true b) := Lib.hid (by
        rcases HE.out with ⟨_, h⟩ | h
        · simp only [Tm.mk.injEq] at h
          obtain ⟨rfl, rfl, rfl, rfl⟩ := h
          have := HPR.out
          rw [show ([a, b] : List Tm).length = 2 from rfl] at hpu
          rw [this] at hpu
          cases hpu
        · exact h)
      have HLJ := Lib.hid (show (joinF (its.map (txt true))).length + (rst true (.mk uk un us uks)).length ≤ 3900 by
        have h1 := congrArg List.length HEE.out.2.2
        have h2 := HTX.out
        rw [HF.out] at h2
        simp only [List.length_append, List.length_cons, List.length_nil] at h1 h2
        omega)
      have CARGS := Lib.hid (fun w' (e' : Ext w3 w') => specl2Args its (.slice av its.length cv) (fun b => (S b ∧ b < w.heap.size) ∨ (Value.slice av its.length cv).ownBlock = some b) w' (fun j x h => HP.out x (HIT.out j x h).1) (fun j x h => (HIT.out j x h).2) (by have := HLJ.out; omega) ((HAP3.out.ext e').sl (by omega)))
      go_wp2_with fail
      refine (specl1Nil uk un us uks _ (fun x => S x ∧ x < w.heap.size) _ HAT3.out).mono ?_
      rintro e4 w4 ⟨rfl, e4⟩
      have E4 := Lib.hid (E3.out.trans e4)
      have E34 := Lib.hid e4
      obtain ⟨b0, b1, b2, b3, f0, f1, f2, f3⟩ := HBX3.out.ext e4
      have s4 : w.heap.size < w4.heap.size := block_lt_of_cell b0
      have lb1 : ¬ 9223372036854775807 < 1 + (bs (joinF (its.map (txt true)))).size := by rw [bs_size]; have := HLJ.out; omega
      have lb2 : ¬ 9223372036854775807 < 1 + (bs (joinF (its.map (txt true)))).size + 1 := by rw [bs_size]; have := HLJ.out; omega
      cases hnu : nilF uk us uks.length
      · have HR := Lib.hid (rst_tail (o := true) (n := un) (ks := uks) hpu hnu)
        have lx : (joinF (its.map (txt true))).length + (txt true (.mk uk un us uks)).length ≤ 3900 := by
          have := HLJ.out
          rw [HR.out] at this
          simp only [List.length_cons] at this
          omega
        have lb3 : ¬ 9223372036854775807 < 1 + (bs (joinF (its.map (txt true)))).size + 1 + (bs (txt true (.mk uk un us uks))).size := by rw [bs_size, bs_size]; omega
        have lb4 : ¬ 9223372036854775807 < 1 + (bs (joinF (its.map (txt true)))).size + 1 + (bs (txt true (.mk uk un us uks))).size + 1 := by rw [bs_size, bs_size]; omega
        have cQ := quiet_call (w := w4) (fun w' e' => CARGS.out w' (E34.out.trans e'))
        have cT := quiet_call (w := w4) (fun w' e' => HP.out (.mk uk un us uks) HEE.out.2.1 e (.agg #[.int .i64 uk, .int .i64 un, .string us, .slice ac uks.length cc]) (fun x => S x ∧ x < w.heap.size) w' HSU.out (Tm.at_ext (E34.out.trans e') HAT3.out))
        replace b0 := cell_regrown b0
        replace b1 := cell_regrown b1
        replace b2 := cell_regrown b2
        replace b3 := cell_regrown b3
        clear f0 f1 f2 f3
        go_wp2_with fail
        refine region_ext (by kernel_rfl) (by kernel_rfl) ?_
        repeat (quiet_step (first | with_reducible exact cQ _ _ | with_reducible exact cT _ _))
        refine wpQuiet_nil ?_
        intro wq eq
        go_wp2_with fail
        go_ret
        refine ⟨?_, E4.out.trans eq⟩
        rw [HF.out]
        have h := HEE.out.2.2
        rw [HR.out] at h
        refine retS ?_
        show (((bs [91] ++ bs (joinF (its.map (txt true)))) ++ bs [124]) ++ bs (txt true (.mk uk un us uks))) ++ bs [93] = bs _
        rw [bs_app, bs_app, bs_app, bs_app, ← List.append_assoc (txt true a), ← h]
        simp
      · have HR := Lib.hid (rst_nil (o := true) (n := un) (ks := uks) hpu hnu)
        go_wp2_with (go_at_call 106; refine (CARGS.out _ E34.out).mono ?_; rintro e5 w5 ⟨rfl, e5⟩)
        go_ret
        refine ⟨?_, E4.out.trans e5⟩
        rw [HF.out]
        have h := HEE.out.2.2
        rw [HR.out, List.append_nil] at h
        refine retS ?_
        show (bs [91] ++ bs (joinF (its.map (txt true)))) ++ bs [93] = bs _
        rw [bs_app, bs_app, ← List.append_assoc (txt true a), ← h]
        simp
    · obtain ⟨rfl, h2l, h46⟩ := pair_two hpu
      obtain ⟨x, y, rfl⟩ := len_two h2l
      have HR := Lib.hid (rst_pair (o := true) (n := un) (a := x) (b := y) hpu)
      have hz1 := HSZ.out
      have HSX := Lib.hid (shape_kid HSU.out (j := 0) (t := x) rfl)
      have HSY := Lib.hid (shape_kid HSU.out (j := 1) (t := y) rfl)
      obtain ⟨_, _, hcc1, hcc2, _, x4⟩ := at_kids HAT3.out
      obtain ⟨ru, offu, px, cx, py, cy, rfl, hSu, k1, k2, k3, k4, r1, r2, r3, r4, hatx, haty⟩ := two_get x4
      have HXA := Lib.hid hatx
      have HYA := Lib.hid haty
      have lru := hSu.2
      have hcc1 : 2 ≤ cc := hcc1
      have HM := Lib.hid (show Tm.sz y < gk ∧ its.length + 1 + Tm.sz y ≤ Tm.sz (.mk 3 n s [a, b]) ∧ Tm.sz x < Tm.sz (.mk 3 n s [a, b]) ∧ Tm.sz y < Tm.sz (.mk 3 n s [a, b]) by have := Tm.sz_pos x; simp only [Tm.sz, Tm.szL] at hz1 hg ⊢; omega)
      have HEN := Lib.hid (show joinF ((its ++ [x]).map (txt true)) ++ rst true y = txt true a ++ rst true b by
        rcases HE.out with ⟨hn1, hn2⟩ | ⟨hn1, _, hn2⟩
        · simp only [Tm.mk.injEq] at hn2
          obtain ⟨_, hn3, hn4, hn5⟩ := hn2
          simp only [List.cons.injEq, and_true] at hn5
          obtain ⟨hn6, hn7⟩ := hn5
          rw [hn1, hn6, hn7]
          simp [joinF]
        · rw [HR.out] at hn2
          rw [List.map_append, List.map_cons, List.map_nil, joinF_snoc _ _ (by simpa using hn1), ← hn2]
          simp)
      have HITN := Lib.hid (show ∀ (j : Nat) (z : Tm), (its ++ [x])[j]? = some z → Tm.sz z < Tm.sz (.mk 3 n s [a, b]) ∧ ∃ d, shapeF z d = true from fun j z hz => by
        by_cases hj : j < its.length
        · rw [List.getElem?_append_left hj] at hz
          exact HIT.out j z hz
        · rw [List.getElem?_append_right (by omega)] at hz
          have : j - its.length = 0 := by
            apply Decidable.byContradiction
            intro hne
            rw [List.getElem?_eq_none (by simp; omega)] at hz
            cases hz
          rw [this] at hz
          simp at hz
          subst hz
          exact ⟨HM.out.2.2.1, e - 1, HSX.out⟩)
      clear hatx haty x4 hSu hz1 hg
      go_wp2_with (at_builtin; refine wpList_append_sh rfl (.tmp 7) (.tmp 12) 24 rfl (fun b => w.heap.size + 1 ≤ b) (fun x => S x ∧ x < w.heap.size) 26 i0 Tryz.underlying24 HI.out HZ0.out HZ1.out HZ2.out (.slice av its.length cv) its x px cx rfl HAP3.out rfl HXA.out (fun b hb hz => by omega) (by omega) (fun b hb => by omega) rfl ?_; intro av2 cv2 w4 hA2 hf2; have K4 := Lib.hid hA2; have F4 := Lib.hid hf2; have g0 := hf2.cell (by omega) b0; have g1 := hf2.cell (by omega) b1; have g2 := hf2.cell (by omega) b2; have g3 := hf2.cell (by omega) b3; have t1 := hf2.cell (by omega) r1; have t2 := hf2.cell (by omega) r2; have t3 := hf2.cell (by omega) r3; have t4 := hf2.cell (by omega) r4; have v0 := hf2.frozen s3 (by omega) f0; have v1 := hf2.frozen s3 (by omega) f1; have v2 := hf2.frozen s3 (by omega) f2; have v3 := hf2.frozen s3 (by omega) f3; clear hA2 hf2)
      have f5 : Fr (fun k => k = w.heap.size) w4 _ := put4_frw w4 (b := w.heap.size) (.int .i64 y.kind) (.int .i64 y.n) (.string y.name) (.slice py y.kids.length cy) rfl
      have F := ((Fr.of_ext (M := fun k => w.heap.size ≤ k) E3.out).trans (F4.out.mono (M' := fun k => w.heap.size ≤ k) (fun k _ h => by omega))).trans (f5.mono (M' := fun k => w.heap.size ≤ k) (fun k _ h => by omega))
      go_roundg (Tm.sz y)
      case measure => exact HM.out.1
      case rel =>
        refine ⟨y, its ++ [x], av2, cv2, py, cy, e - 1, Nat.le_refl _, by simp, Lib.hid (.inr ⟨by simp, HM.out.2.2.2, HEN.out⟩), HSY, Lib.hid (by simp only [List.length_append, List.length_cons, List.length_nil]; exact HM.out.2.1), HITN, Lib.hid (BoxT.put4 (HBX3.out.fr F4.out (by omega)) _ _ _ _), Lib.hid (f5.at (F4.out.at HYA.out (fun k hk h => by omega)) (fun k hk h => by omega)), Lib.hid ?_, Lib.hid (F.toExt (fun k hk h => by omega))⟩
        have := K4.out.keep f5 (fun k hk h => by omega) (fun k hk h => by omega)
        simpa using this
theorem sub_nn {n : Int} (h : 0 < n) : 0 ≤ n - 1 := by omega
set_option maxRecDepth 100000 in
set_option maxHeartbeats 4000000 in
theorem specl2Text_op (n : Int) (s : ByteArray) (a b : Tm) (d : Nat) (v : Value) (S : Nat → Prop) (w : World) (ha : S2C a) (hb : S2C b) (hin : infF 3 s 2 = true) (hsh : shapeF (.mk 3 n s [a, b]) d = true) (hsz : Tm.sz (.mk 3 n s [a, b]) ≤ 120)
    (ht : Tm.at S w (.mk 3 n s [a, b]) v) :
    Calls Tryz.prog 96 #[v] w fun e w' => e = .returned (.string (bs (txt true (.mk 3 n s [a, b])))) ∧ Ext w w' := by
  have HF := Lib.hid (show txt true (.mk 3 n s [a, b]) = opn (txF true a) (leftM s.toList) false ++ (spaced s.toList ++ opn (txF true b) (opLevelF s.toList - 1) true) by simp [txt, txF, ownTx, txL, hin])
  obtain ⟨_, _, hpos⟩ := inf_two hin
  have hlv := op_le3 s.toList
  have HLN := Lib.hid (tx_len true _ d hsh)
  have HZ := Lib.hid hsz
  have HSA := Lib.hid (shape_kid hsh (j := 0) (t := a) rfl)
  have HSB := Lib.hid (shape_kid hsh (j := 1) (t := b) rfl)
  have HIN := Lib.hid hin
  have hpr : pairF 3 s 2 = false := by
    cases h : pairF 3 s 2
    · rfl
    · obtain ⟨_, _, h46⟩ := pair_two h
      rw [h46] at hpos
      simp [opLevelF] at hpos
  have HT := Lib.hid ht
  obtain ⟨hs1, sv, rfl, ar, cap, rfl, h1, h2, h3, h4⟩ := ht
  obtain ⟨rb, off, p, c, p', c', rfl, hSb, k1, k2, k3, k4, q1, q2, q3, q4, hat, hat'⟩ := two_get h4
  have za : Tm.sz a ≤ 120 := by simp only [Tm.sz, Tm.szL] at hsz; omega
  have zb : Tm.sz b ≤ 120 := by simp only [Tm.sz, Tm.szL] at hsz; omega
  have hlm : 0 ≤ leftM s.toList := by unfold leftM; split <;> omega
  have CA := Lib.hid (fun w1 (e1 : Ext w w1) => quiet_call (w := w1) (fun w' e' => specl2Left a (d - 1) (.agg #[.int .i64 a.kind, .int .i64 a.n, .string a.name, .slice p a.kids.length c]) S w' (leftM s.toList) hlm ha HSA.out za (Tm.at_ext (e1.trans e') hat)))
  have CB := Lib.hid (fun w1 (e1 : Ext w w1) => quiet_call (w := w1) (fun w' e' => specl2Right b (d - 1) (.agg #[.int .i64 b.kind, .int .i64 b.n, .string b.name, .slice p' b.kids.length c']) S w' (opLevelF s.toList - 1) (sub_nn hpos) hb HSB.out zb (Tm.at_ext (e1.trans e') hat')))
  clear h4 hat hat' hsh hsz ha hb hin za zb
  go_enter Tryz.func96, Tryz.ntmps96
  go_wp2_with fail
  refine (specl1Pair 3 n s [a, b] _ S _ (Tm.at_ext (Ext.alloc _ _) HT.out)).mono ?_
  rw [show ([a, b] : List Tm).length = 2 from rfl, hpr]
  rintro e w1 ⟨rfl, e1⟩
  have E1 := Lib.hid ((Ext.alloc w (.cells #[.int .i64 3, .int .i64 n, .string s, .slice (some ⟨rb, off, none⟩) 2 cap] 26)).trans e1)
  have HBX := Lib.hid ((BoxT.new w (.int .i64 3) (.int .i64 n) (.string s) (.slice (some ⟨rb, off, none⟩) 2 cap) 26 rfl).ext e1)
  obtain ⟨c0, c1, c2, c3, g0, g1, g2, g3⟩ := HBX.out
  have s1 : w.heap.size < w1.heap.size := block_lt_of_cell c0
  clear e1
  go_wp2_with fail
  refine (specl2Infix 3 n s [a, b] _ S _ (Tm.at_ext E1.out HT.out)).mono ?_
  rw [show ([a, b] : List Tm).length = 2 from rfl, HIN.out]
  rintro e w2 ⟨rfl, e2⟩
  have E2 := Lib.hid (E1.out.trans e2)
  have HBX := Lib.hid (HBX.out.ext e2)
  obtain ⟨c0, c1, c2, c3, g0, g1, g2, g3⟩ := HBX.out
  have s1 : w.heap.size < w2.heap.size := block_lt_of_cell c0
  clear e2
  go_wp2_with fail
  refine (specl2Level_x s _).mono ?_
  rintro e w3 ⟨rfl, e3⟩
  have E3 := Lib.hid (E2.out.trans e3)
  obtain ⟨c0, c1, c2, c3, g0, g1, g2, g3⟩ := HBX.out.ext e3
  have s1 : w.heap.size < w3.heap.size := block_lt_of_cell c0
  replace k1 := cell_regrown (E3.out.cell k1)
  replace k2 := cell_regrown (E3.out.cell k2)
  replace k3 := cell_regrown (E3.out.cell k3)
  replace k4 := cell_regrown (E3.out.cell k4)
  replace q1 := cell_regrown (E3.out.cell q1)
  replace q2 := cell_regrown (E3.out.cell q2)
  replace q3 := cell_regrown (E3.out.cell q3)
  replace q4 := cell_regrown (E3.out.cell q4)
  have cA := CA.out w3 E3.out
  have cB := CB.out w3 E3.out
  have cO := quiet_call (w := w3) (fun w' _ => specl2Spaced s w' hs1 hpos)
  have m2 := cell_regrown c2
  have m3 := cell_regrown c3
  have hlen : (opn (txF true a) (leftM s.toList) false).length + ((spaced s.toList).length + (opn (txF true b) (opLevelF s.toList - 1) true).length) ≤ 4000 := by
    have h1 := HLN.out.1
    have h2 := HZ.out
    rw [HF.out] at h1
    simp only [List.length_append] at h1
    omega
  have lb1 : ¬ 9223372036854775807 < (bs (opn (txF true a) (leftM s.toList) false)).size + (bs (spaced s.toList)).size := by rw [bs_size, bs_size]; omega
  have lb2 : ¬ 9223372036854775807 < (bs (opn (txF true a) (leftM s.toList) false)).size + (bs (spaced s.toList)).size + (bs (opn (txF true b) (opLevelF s.toList - 1) true)).size := by rw [bs_size, bs_size, bs_size]; omega
  have hwr : IntKind.i64.wrap (opLevelF s.toList - 1) = opLevelF s.toList - 1 := IntWalk.i64_in _ (by omega)
  clear e3 g0 g1 g2 g3 hlen
  by_cases h3' : opLevelF s.toList = 3
  · have h3b : (opLevelF s.toList == 3) = true := by simp [h3']
    have hl2 : leftM s.toList = 2 := by simp [leftM, h3']
    rw [hl2] at cA lb1 lb2
    have HF2 := Lib.hid (show txt true (.mk 3 n s [a, b]) = opn (txF true a) 2 false ++ (spaced s.toList ++ opn (txF true b) (opLevelF s.toList - 1) true) by rw [HF.out, hl2])
    clear h3' hl2 hlm
    go_wp2_with fail
    refine region_ext (by kernel_rfl) (by kernel_rfl) ?_
    repeat (quiet_step (first | with_reducible exact cA _ _ | with_reducible exact cB _ _ | with_reducible exact cO _ _))
    refine wpQuiet_nil ?_
    intro wq eq
    go_wp2_with fail
    go_ret
    refine ⟨?_, E3.out.trans eq⟩
    rw [HF2.out]
    refine retS ?_
    exact bl_ext (by simp only [list_app, bs_list]; simp)
  · have h3b : (opLevelF s.toList == 3) = false := by simp [h3']
    have hl2 : leftM s.toList = opLevelF s.toList := by simp [leftM, h3']
    rw [hl2] at cA lb1 lb2
    have HF2 := Lib.hid (show txt true (.mk 3 n s [a, b]) = opn (txF true a) (opLevelF s.toList) false ++ (spaced s.toList ++ opn (txF true b) (opLevelF s.toList - 1) true) by rw [HF.out, hl2])
    clear h3' hl2 hlm
    go_wp2_with fail
    refine region_ext (by kernel_rfl) (by kernel_rfl) ?_
    repeat (quiet_step (first | with_reducible exact cA _ _ | with_reducible exact cB _ _ | with_reducible exact cO _ _))
    refine wpQuiet_nil ?_
    intro wq eq
    go_wp2_with fail
    go_ret
    refine ⟨?_, E3.out.trans eq⟩
    rw [HF2.out]
    refine retS ?_
    exact bl_ext (by simp only [list_app, bs_list]; simp)
end Go.Proofs.YtognkaebiafgbaaGreat
