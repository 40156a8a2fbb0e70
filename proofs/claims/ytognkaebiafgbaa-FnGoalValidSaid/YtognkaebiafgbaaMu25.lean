/-
  Texts of terms, the reference's l1List, l1Text and FormatTerm.
-/
import Derived.Test.YtognkaebiafgbaaMu24
namespace Go.Proofs.Ytognkaebiafgbaa
open Go.RowKit
set_option linter.unusedVariables false
def S1C (u : Tm) : Prop := ∀ (d : Nat) (v : Value) (S : Nat → Prop) (w : World), shapeF u d = true → Tm.at S w u v → Calls Try.prog 85 #[v] w fun e w' => e = .returned (.string (bs (txt false u))) ∧ Ext w w'
set_option maxRecDepth 100000 in
set_option maxHeartbeats 4000000 in
theorem specl1List (n : Int) (s : ByteArray) (a b : Tm) (d : Nat) (v : Value) (S : Nat → Prop) (w : World)
    (hp : ∀ u, Tm.sz u < Tm.sz (.mk 3 n s [a, b]) → S1C u) (hsh : shapeF (.mk 3 n s [a, b]) d = true) (hsz : Tm.sz (.mk 3 n s [a, b]) ≤ 120) (hpr : pairF 3 s 2 = true) (ht : Tm.at S w (.mk 3 n s [a, b]) v) :
    Calls Try.prog 92 #[v] w fun e w' => e = .returned (.string (bs (txt false (.mk 3 n s [a, b])))) ∧ Ext w w' := by
  have HP := Lib.hid hp
  have HL := Lib.hid (tx_len false _ d hsh)
  have HSA := Lib.hid (shape_kid hsh (j := 0) (t := a) rfl)
  have HSB := Lib.hid (shape_kid hsh (j := 1) (t := b) rfl)
  have HS0 := Lib.hid hsh
  have HF := Lib.hid (txt_pair (o := false) (n := n) (a := a) (b := b) rfl hpr)
  have HZ := Lib.hid hsz
  have ht' := Tm.at_bound ht
  have HT := Lib.hid ht'
  obtain ⟨hs1, sv, rfl, ar, cap, rfl, h1, h2, h3, h4⟩ := ht'
  obtain ⟨rb, off, p, c, p', c', rfl, hSb, k1, k2, k3, k4, q1, q2, q3, q4, hat, hat'⟩ := two_get h4
  have HA := Lib.hid hat
  have HB := Lib.hid hat'
  clear hp hsh hsz ht h4 hat hat'
  have lrb := hSb.2
  clear hSb
  go_enter Try.func92, Try.ntmps92
  go_wp2_with fail
  refine (HP.out a (by simp only [Tm.sz, Tm.szL]; omega) _ _ _ _ HSA.out (Tm.at_ext (Ext.alloc _ _) HA.out)).mono ?_
  rintro e w2 ⟨rfl, e2⟩
  have E2 := Lib.hid ((Ext.alloc w (.cells #[.int .i64 3, .int .i64 n, .string s, .slice (some ⟨rb, off, none⟩) 2 cap] 25)).trans e2)
  have HB0 := Lib.hid ((BoxT.new w (.int .i64 3) (.int .i64 n) (.string s) (.slice (some ⟨rb, off, none⟩) 2 cap) 25 rfl).ext e2)
  have la : (txt false a).length ≤ 4000 := by
    have h1 := (tx_len false a _ HSA.out).1
    have h2 := HZ.out
    simp only [Tm.sz, Tm.szL] at h2
    omega
  have lb : ¬ 9223372036854775807 < 1 + (bs (txt false a)).size := by rw [bs_size]; omega
  clear k1 k2 k3 k4 q1 q2 q3 q4 e2
  go_wp2_with fail
  go_loopg [3] (Tm.sz b) (fun g sv wr => ∃ (m : Int) (us : ByteArray) (x y : Tm) (l : List UInt8) (ac : Option Addr) (cc e : Nat), Tm.sz y ≤ g ∧ sv = .string (bs l) ∧ Hid (l ++ rst false y = 91 :: (txt false a ++ rst false b)) ∧ Hid (shapeF (.mk 3 m us [x, y]) e = true) ∧ Hid (Tm.sz y ≤ Tm.sz b) ∧
      Hid (BoxT wr w.heap.size (.int .i64 3) (.int .i64 m) (.string us) (.slice ac 2 cc)) ∧ Hid (Tm.at (fun x => S x ∧ x < w.heap.size) wr (.mk 3 m us [x, y]) (.agg #[.int .i64 3, .int .i64 m, .string us, .slice ac 2 cc])) ∧ Hid (Ext w wr))
  case atStart =>
    exact ⟨n, s, a, b, 91 :: txt false a, _, cap, d, Nat.le_refl _, congrArg Value.string (bs_app [91] _), Lib.hid (by simp), HS0, Lib.hid (Nat.le_refl _), HB0, Lib.hid (Tm.at_ext E2.out HT.out), Lib.hid E2.out⟩
  case round =>
    obtain ⟨m, us, x, y, l, ac, cc, e, hg, rfl, HE, HSU, HSZ, HBX, HAT, HX⟩ := hrel
    have sB : w.heap.size < wr.heap.size := HBX.out.lt
    have ll : l.length ≤ 4000 := by
      have h1 := congrArg List.length HE.out
      have h2 := (tx_len false a _ HSA.out).1
      have h3 := (tx_len false b _ HSB.out).2
      have h4 := HZ.out
      simp only [Tm.sz, Tm.szL] at h4
      simp only [List.length_append, List.length_cons] at h1
      omega
    obtain ⟨b0, b1, b2, b3, f0, f1, f2, f3⟩ := HBX.out
    obtain ⟨_, _, hcc1, hcc2, _, x4⟩ := at_kids HAT.out
    obtain ⟨ru, offu, px, cx, py, cy, rfl, hSu, k1, k2, k3, k4, r1, r2, r3, r4, hatx, haty⟩ := two_get x4
    have lru := hSu.2
    have hcc1 : 2 ≤ cc := hcc1
    have HYA := Lib.hid haty
    have HSY := Lib.hid (shape_kid HSU.out (j := 1) (t := y) rfl)
    obtain ⟨yk, yn, ys, yks⟩ := y
    simp only [Tm.kind, Tm.n, Tm.name, Tm.kids, val4] at r1 r2 r3 r4 HYA
    clear hatx haty x4 hSu k1 k2 k3 k4
    go_wp2_with fail
    refine (specl1Pair yk yn ys yks _ (fun x => S x ∧ x < w.heap.size) _ HYA.out).mono ?_
    rintro e3 w3 ⟨rfl, e3⟩
    have E3 := Lib.hid (HX.out.trans e3)
    have HBX3 := Lib.hid (HBX.out.ext e3)
    obtain ⟨b0, b1, b2, b3, f0, f1, f2, f3⟩ := HBX.out.ext e3
    have s3 : w.heap.size < w3.heap.size := block_lt_of_cell b0
    replace r1 := e3.cell r1
    replace r2 := e3.cell r2
    replace r3 := e3.cell r3
    replace r4 := e3.cell r4
    have HYA3 := Lib.hid (Tm.at_ext e3 HYA.out)
    cases hpu : pairF yk ys yks.length
    · go_wp2_with fail
      refine (specl1Nil yk yn ys yks _ (fun x => S x ∧ x < w.heap.size) _ HYA3.out).mono ?_
      rintro e4 w4 ⟨rfl, e4⟩
      have E4 := Lib.hid (E3.out.trans e4)
      obtain ⟨b0, b1, b2, b3, f0, f1, f2, f3⟩ := HBX3.out.ext e4
      have s4 : w.heap.size < w4.heap.size := block_lt_of_cell b0
      replace r1 := e4.cell r1
      replace r2 := e4.cell r2
      replace r3 := e4.cell r3
      replace r4 := e4.cell r4
      cases hnu : nilF yk ys yks.length
      · have HR := Lib.hid (rst_tail (o := false) (n := yn) (ks := yks) hpu hnu)
        have hz1 := HSZ.out
        have lb0 : ¬ 9223372036854775807 < (bs l).size + 1 := by rw [bs_size]; omega
        go_wp2_with fail
        refine (HP.out (.mk yk yn ys yks) (by simp only [Tm.sz, Tm.szL] at hz1 ⊢; omega) _ _ _ _ HSY.out (Tm.at_ext e4 HYA3.out)).mono ?_
        rintro e5 w5 ⟨rfl, e5⟩
        have E5 := Lib.hid (E4.out.trans e5)
        have lx : (txt false (.mk yk yn ys yks)).length ≤ 4000 := by
          have h1 := (tx_len false _ _ HSY.out).1
          have h4 := HZ.out
          simp only [Tm.sz, Tm.szL] at h1 h4 hz1
          omega
        have lb2 : ¬ 9223372036854775807 < (bs l).size + 1 + (bs (txt false (.mk yk yn ys yks))).size := by rw [bs_size, bs_size]; omega
        have lb3 : ¬ 9223372036854775807 < (bs l).size + 1 + (bs (txt false (.mk yk yn ys yks))).size + 1 := by rw [bs_size, bs_size]; omega
        clear hz1
        go_wp2_with fail
        go_ret
        refine ⟨?_, E5.out⟩
        rw [HF.out]
        have h := HE.out
        rw [HR.out] at h
        refine retS ?_
        show ((bs l ++ bs [124]) ++ bs (txt false (.mk yk yn ys yks))) ++ bs [93] = bs _
        rw [bs_app, bs_app, bs_app, ← List.append_assoc (txt false a), ← List.cons_append, ← h]
        simp
      · have HR := Lib.hid (rst_nil (o := false) (n := yn) (ks := yks) hpu hnu)
        have lb3 : ¬ 9223372036854775807 < (bs l).size + 1 := by rw [bs_size]; omega
        go_wp2_with fail
        go_ret
        refine ⟨?_, E4.out⟩
        rw [HF.out]
        have h := HE.out
        rw [HR.out, List.append_nil] at h
        refine retS ?_
        show bs l ++ bs [93] = bs _
        rw [bs_app, ← List.append_assoc (txt false a), ← List.cons_append, ← h]
    · obtain ⟨rfl, h2l, h46⟩ := pair_two hpu
      obtain ⟨x', y', rfl⟩ := len_two h2l
      have HR := Lib.hid (rst_pair (o := false) (n := yn) (a := x') (b := y') hpu)
      have hz1 := HSZ.out
      have HSX := Lib.hid (shape_kid HSY.out (j := 0) (t := x') rfl)
      obtain ⟨_, _, hcd1, hcd2, _, y4⟩ := at_kids HYA3.out
      obtain ⟨rv, offv, px', cx', py', cy', rfl, hSv, k1, k2, k3, k4, t1, t2, t3, t4, hatx, haty⟩ := two_get y4
      have HXA := Lib.hid hatx
      have lrv := hSv.2
      have hcd1 : 2 ≤ cy := hcd1
      have f4 : Fr (fun k => k = w.heap.size) w3 _ := put4_frw w3 (b := w.heap.size) (.int .i64 3) (.int .i64 yn) (.string ys) (.slice (some ⟨rv, offv, none⟩) 2 cy) rfl
      have F4 := Lib.hid f4
      have HB4 := Lib.hid (BoxT.put4 HBX3.out (.int .i64 3) (.int .i64 yn) (.string ys) (.slice (some ⟨rv, offv, none⟩) 2 cy))
      clear hatx haty y4 hSv f4
      have lb0 : ¬ 9223372036854775807 < (bs l).size + 1 := by rw [bs_size]; omega
      have HX4 := Lib.hid (F4.out.at HXA.out (fun k hk h => by omega))
      have HY4 := Lib.hid (F4.out.at HYA3.out (fun k hk h => by omega))
      have E4 := Lib.hid (((Fr.of_ext E3.out).trans F4.out).toExt (fun k hk h => by omega))
      have lx : (txt false x').length ≤ 4000 := by
        have h1 := (tx_len false x' _ HSX.out).1
        have h4 := HZ.out
        simp only [Tm.sz, Tm.szL] at h4 hz1
        omega
      have lb2 : ¬ 9223372036854775807 < (bs l).size + 1 + (bs (txt false x')).size := by rw [bs_size, bs_size]; omega
      have HE4 := Lib.hid (show ((l ++ [44]) ++ txt false x') ++ rst false y' = 91 :: (txt false a ++ rst false b) by
        have := HE.out
        rw [HR.out] at this
        rw [← this]; simp)
      have HM := Lib.hid (show Tm.sz y' < gk ∧ Tm.sz y' ≤ Tm.sz b by simp only [Tm.sz, Tm.szL] at hz1 hg; omega)
      have HZX := Lib.hid (show Tm.sz x' < Tm.sz (.mk 3 n s [a, b]) by simp only [Tm.sz, Tm.szL] at hz1 ⊢; omega)
      clear hz1 hg lx
      go_wp2_with fail
      refine (HP.out x' HZX.out _ _ _ _ HSX.out HX4.out).mono ?_
      rintro e5 w5 ⟨rfl, e5⟩
      go_wp2_with fail
      go_roundg (Tm.sz y')
      case measure => exact HM.out.1
      case rel =>
        refine ⟨yn, ys, x', y', (l ++ [44]) ++ txt false x', _, cy, e - 1, Nat.le_refl _, ?_, HE4, HSY, Lib.hid HM.out.2, Lib.hid (HB4.out.ext e5), Lib.hid (Tm.at_ext e5 HY4.out), Lib.hid (E4.out.trans e5)⟩
        exact congrArg Value.string (by rw [show (⟨#[44]⟩ : ByteArray) = bs [44] from rfl, bs_app, bs_app])
theorem joinF_snoc : ∀ (xs : List (List UInt8)) (y : List UInt8), xs ≠ [] → joinF (xs ++ [y]) = joinF xs ++ 44 :: y
  | [], y, h => absurd rfl h
  | [x], y, _ => by simp [joinF]
  | x :: x' :: xs, y, _ => by
    have := joinF_snoc (x' :: xs) y (by simp)
    simp only [List.cons_append, joinF] at this ⊢
    rw [this]
    simp
def preT (s : List UInt8) (xs : List (List UInt8)) : List UInt8 := if xs = [] then s else s ++ 40 :: joinF xs
theorem preT_snoc (s : List UInt8) (xs : List (List UInt8)) (y : List UInt8) (h : xs ≠ []) : preT s (xs ++ [y]) = (preT s xs ++ [44]) ++ y := by
  simp only [preT, if_neg h, if_neg (show xs ++ [y] ≠ [] by simp), joinF_snoc xs y h]
  simp
theorem joinF_take : ∀ (xs : List (List UInt8)) (j : Nat), (joinF (xs.take j)).length ≤ (joinF xs).length
  | [], j => by simp
  | x :: xs, 0 => by simp [joinF]
  | [x], j + 1 => by simp
  | x :: y :: ys, 1 => by simp [joinF]
  | x :: y :: ys, j + 2 => by
    have := joinF_take (y :: ys) (j + 1)
    simp only [List.take_succ_cons, joinF, List.length_append, List.length_cons] at this ⊢
    omega
theorem preT_take (s : List UInt8) (xs : List (List UInt8)) (j : Nat) : (preT s (xs.take j)).length ≤ s.length + 1 + (joinF xs).length := by
  have := joinF_take xs j
  unfold preT
  split
  · omega
  · simp only [List.length_append, List.length_cons]; omega
set_option maxRecDepth 100000 in
set_option maxHeartbeats 4000000 in
theorem specl1Text : ∀ (m : Nat) (t : Tm), Tm.sz t ≤ m → Tm.sz t ≤ 120 → S1C t := by
  intro m
  induction m with
  | zero => intro t hm; have := Tm.sz_pos t; omega
  | succ m ih =>
    intro t hm hsz d v S w hsh ht
    obtain ⟨k, n, s, ks⟩ := t
    have IH := Lib.hid (show ∀ u, Tm.sz u < Tm.sz (.mk k n s ks) → S1C u from fun u hu => ih u (by omega) (by omega))
    clear ih hm
    rcases shape_own hsh with ⟨rfl, _, rfl⟩ | ⟨rfl, _, rfl⟩ | ⟨rfl, rfl⟩
    · obtain ⟨n0, n1⟩ := shape_var hsh
      have HF := Lib.hid (txt_var false n s [])
      obtain ⟨hs1, sv, rfl, ar, cap, rfl, h1, h2, h3, h4⟩ := ht
      clear h4 hsh hsz IH
      go_enter Try.func85, Try.ntmps85
      go_wp2_with (go_at_call 90; refine (specl1Letter n n0 n1 _).mono ?_; rintro e w1 ⟨rfl, e1⟩)
      go_ret
      exact ⟨by rw [HF.out]; rfl, (Ext.alloc _ _).trans e1⟩
    · obtain ⟨n0, n1⟩ := shape_int' hsh
      have HF := Lib.hid (txt_int false n s [])
      obtain ⟨hs1, sv, rfl, ar, cap, rfl, h1, h2, h3, h4⟩ := ht
      clear h4 hsh hsz IH
      go_enter Try.func85, Try.ntmps85
      go_wp2_with (go_at_call 91; refine (specl1Dec n n0 n1 _).mono ?_; rintro e w1 ⟨rfl, e1⟩)
      go_ret
      exact ⟨by rw [HF.out]; rfl, (Ext.alloc _ _).trans e1⟩
    · cases hpr : pairF 3 s ks.length
      · have HT := Lib.hid ht
        have HSH := Lib.hid hsh
        have HLN := Lib.hid (tx_len false _ d hsh)
        have HZ := Lib.hid hsz
        obtain ⟨hs1, sv, rfl, ar, cap, rfl, h1, h2, h3, h4⟩ := ht
        have H4 := Lib.hid h4
        have HF := Lib.hid (show txt false (.mk 3 0 s ks) = if ks.length = 0 then s.toList else preT s.toList (ks.map (txt false)) ++ [41] by
          by_cases hl : ks.length = 0
          · rw [if_pos hl, List.eq_nil_of_length_eq_zero hl]; exact txt_atom
          · rw [if_neg hl, txt_args rfl hpr hl, preT, if_neg (by intro e; have := congrArg List.length e; simp at this; exact hl (by rw [this]; rfl))]
            simp)
        have HLQ2 := Lib.hid (show s.toList.length + 1 + (joinF (ks.map (txt false))).length ≤ 3999 by
          have h1 := HLN.out.1
          have h2 := HZ.out
          by_cases hl : ks.length = 0
          · have := (name_len (shape_name hsh).1).2
            rw [List.eq_nil_of_length_eq_zero hl]
            simp [joinF]
            omega
          · rw [txt_args rfl hpr hl] at h1
            simp only [List.length_append, List.length_cons, List.length_nil] at h1
            omega)
        clear h4 hsh hsz
        go_enter Try.func85, Try.ntmps85
        go_wp2_with fail
        refine (specl1Pair 3 0 s ks _ S _ (Tm.at_ext (Ext.alloc _ _) HT.out)).mono ?_
        rw [hpr]
        rintro e w1 ⟨rfl, e1⟩
        have HBX := Lib.hid ((BoxT.new w (.int .i64 3) (.int .i64 0) (.string s) (.slice ar ks.length cap) 25 rfl).ext e1)
        have E1 := Lib.hid ((Ext.alloc w (.cells #[.int .i64 3, .int .i64 0, .string s, .slice ar ks.length cap] 25)).trans e1)
        obtain ⟨c0, c1, c2, c3, g0, g1, g2, g3⟩ := HBX.out
        have s1 : w.heap.size < w1.heap.size := block_lt_of_cell c0
        clear e1 g0 g1 g2 g3 HT
        go_wp2_with fail
        go_loopw [3, 4] (fun sv i wr => ∃ (j : Nat) (l : List UInt8), j ≤ ks.length ∧ sv = .string (bs l) ∧ i = .int .i64 j ∧ Hid (l = preT s.toList ((ks.take j).map (txt false))) ∧ Hid (Ext w1 wr)) (fun _ i _ => ks.length - (intOf i).toNat)
        case atStart => exact ⟨0, s.toList, Nat.zero_le _, by rw [bs_of], rfl, Lib.hid (by simp [preT]), Lib.hid (Ext.refl _)⟩
        case round =>
          obtain ⟨j, l, hj, rfl, rfl, HLQ, HX⟩ := hrel
          obtain ⟨c0, c1, c2, c3, g0, g1, g2, g3⟩ := HBX.out.ext HX.out
          have sw : w.heap.size < wr.heap.size := block_lt_of_cell c0
          have ll : l.length ≤ 4000 := by rw [HLQ.out, List.map_take]; have := preT_take s.toList (ks.map (txt false)) j; have := HLQ2.out; omega
          by_cases hlt : j < ks.length
          · obtain ⟨tk, htk⟩ := getk hlt
            obtain ⟨b, off, a1, c1', rfl, hSb, k1, k2, k3, k4, hat⟩ := tget H4.out htk
            have EW := Lib.hid (E1.out.trans HX.out)
            replace k1 := EW.out.cell k1
            replace k2 := EW.out.cell k2
            replace k3 := EW.out.cell k3
            replace k4 := EW.out.cell k4
            have HTK := Lib.hid (shape_kid HSH.out htk)
            have HC := Lib.hid (IH.out tk (kid_lt (k := 3) (n := 0) (s := s) htk) (d - 1) _ S wr HTK.out (Tm.at_ext EW.out hat))
            have lx : (txt false tk).length ≤ 4000 := by
              have h1 := (tx_len false tk _ HTK.out).1
              have h2 := kid_lt (k := 3) (n := 0) (s := s) htk
              have h3 := HZ.out
              omega
            have lb1 : ¬ 9223372036854775807 < (bs l).size + 1 := by rw [bs_size]; omega
            have lb2 : ¬ 9223372036854775807 < (bs l).size + 1 + (bs (txt false tk)).size := by rw [bs_size, bs_size]; omega
            have hl3 : ks.length ≤ 1048576 := h3
            by_cases hj0 : j = 0
            · have hjz : ((j : Int) == 0) = true := by simp [hj0]
              have HN := Lib.hid (show (l ++ [40]) ++ txt false tk = preT s.toList ((ks.take (j + 1)).map (txt false)) by
                rw [take_snoc_of htk, HLQ.out, hj0]
                simp [preT, joinF])
              clear htk hat hSb hj0
              go_wp2_with fail
              refine HC.out.mono ?_
              rintro e w2 ⟨rfl, e2⟩
              go_wp2_with fail
              go_roundw
              case rel => exact ⟨j + 1, (l ++ [40]) ++ txt false tk, by omega, congrArg Value.string (by rw [show (⟨#[40]⟩ : ByteArray) = bs [40] from rfl, bs_app, bs_app]), by simp, HN, Lib.hid (HX.out.trans e2)⟩
              case measure => simp [intOf]; omega
            · have hjz : ((j : Int) == 0) = false := by simp; omega
              have HN := Lib.hid (show (l ++ [44]) ++ txt false tk = preT s.toList ((ks.take (j + 1)).map (txt false)) by
                rw [take_snoc_of htk, HLQ.out, List.map_append, List.map_cons, List.map_nil, preT_snoc]
                intro e
                rw [List.map_eq_nil_iff, List.take_eq_nil_iff] at e
                rcases e with e | e
                · exact hj0 e
                · rw [e] at hlt; simp at hlt)
              clear htk hat hSb hj0
              go_wp2_with fail
              refine HC.out.mono ?_
              rintro e w2 ⟨rfl, e2⟩
              go_wp2_with fail
              go_roundw
              case rel => exact ⟨j + 1, (l ++ [44]) ++ txt false tk, by omega, congrArg Value.string (by rw [show (⟨#[44]⟩ : ByteArray) = bs [44] from rfl, bs_app, bs_app]), by simp, HN, Lib.hid (HX.out.trans e2)⟩
              case measure => simp [intOf]; omega
          · obtain rfl : j = ks.length := by omega
            have HQ := Lib.hid (show l = preT s.toList (ks.map (txt false)) by rw [HLQ.out, List.take_of_length_le (Nat.le_refl _)])
            have EW := Lib.hid (E1.out.trans HX.out)
            have lb1 : ¬ 9223372036854775807 < (bs l).size + 1 := by rw [bs_size]; omega
            by_cases hl0 : ks.length = 0
            · have HG := Lib.hid (show txt false (.mk 3 0 s ks) = l by rw [HF.out, if_pos hl0, HQ.out, List.eq_nil_of_length_eq_zero hl0]; simp [preT])
              have hz : ¬ (0 : Int) < (ks.length : Int) := by omega
              clear hl0
              go_wp2_with fail
              go_ret
              exact ⟨by rw [HG.out]; rfl, EW.out⟩
            · have HG := Lib.hid (show txt false (.mk 3 0 s ks) = l ++ [41] by rw [HF.out, if_neg hl0, HQ.out])
              have hz : (0 : Int) < (ks.length : Int) := by omega
              clear hl0
              go_wp2_with fail
              go_ret
              exact ⟨by rw [HG.out]; exact congrArg (fun x => Ending.returned (Value.string x)) (bs_app l [41]), EW.out⟩
      · obtain ⟨a, b, rfl⟩ := len_two (pair_two hpr).2.1
        have HC := Lib.hid (fun w' (e' : Ext w w') => specl1List 0 s a b d v S w' IH.out hsh hsz hpr (Tm.at_ext e' ht))
        have HT := Lib.hid ht
        obtain ⟨hs1, sv, rfl, ar, cap, rfl, h1, h2, h3, h4⟩ := ht
        clear h4 hsh hsz IH
        go_enter Try.func85, Try.ntmps85
        go_wp2_with fail
        refine (specl1Pair 3 0 s [a, b] _ S _ (Tm.at_ext (Ext.alloc _ _) HT.out)).mono ?_
        rw [hpr]
        rintro e w1 ⟨rfl, e1⟩
        obtain ⟨c0, c1, c2, c3, g0, g1, g2, g3⟩ := (BoxT.new w (.int .i64 3) (.int .i64 0) (.string s) (.slice ar 2 cap) 25 rfl).ext e1
        have E1 := Lib.hid ((Ext.alloc w (.cells #[.int .i64 3, .int .i64 0, .string s, .slice ar 2 cap] 25)).trans e1)
        have s1 : w.heap.size < w1.heap.size := block_lt_of_cell c0
        go_wp2_with (go_at_call 92; refine (HC.out _ E1.out).mono ?_; rintro e w2 ⟨rfl, e2⟩)
        go_ret
        exact ⟨rfl, E1.out.trans e2⟩
end Go.Proofs.Ytognkaebiafgbaa
