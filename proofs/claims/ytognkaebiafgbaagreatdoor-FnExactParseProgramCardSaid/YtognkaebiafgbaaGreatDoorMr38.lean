/-
  The program's reader: number; what a function that returns a term leaves.
-/
import Derived.Test.YtognkaebiafgbaaGreatDoorMr37
import Derived.Test.YtognkaebiafgbaaGreatDoorMr14
namespace Go.Proofs.YtognkaebiafgbaaGreatDoor
open Go.RowKit
set_option linter.unusedVariables false
theorem ext_list (s : ByteArray) (i j : Nat) : (s.extract i j).toList = (s.toList.take j).drop i := by
  rw [ByteArray.toList_eq, ByteArray.toList_eq, ByteArray.data_extract, Array.toList_extract, List.extract_eq_take_drop, List.drop_take]
theorem ext_bs {s : ByteArray} {n m : Nat} {l r : List UInt8} (h : s.toList.drop n = l ++ r) (hm : n + l.length = m) (hl : m ≤ s.size) : s.extract n m = bs l := by
  apply bl_ext
  rw [ext_list, bs_list, List.drop_take, h, ← hm, Nat.add_sub_cancel_left, List.take_left]
theorem ext_end {s : ByteArray} {n m : Nat} (hm : s.size = m) : s.extract n m = bs (s.toList.drop n) := by
  subst hm
  apply bl_ext
  rw [ext_list, bs_list, List.take_of_length_le (by rw [bl_len]; exact Nat.le_refl _)]
structure LibW (rb : Nat) (w : World) : Prop where
  tab : TabW w
  err : ∃ ev, w.cell? ⟨4, 0, none⟩ = some ev ∧ (ev = .nilIface ∨ ∃ te pe, ev = .iface te pe)
  ne1 : 5 ≠ rb
  ne2 : 4 ≠ rb
theorem TabW.fr {M : Nat → Prop} {w w' : World} (h : TabW w) (f : Fr M w w') (hm : ¬ M 5) : TabW w' := by
  have hg : Tryz.prog.globalNamed "internal/strconv.uint64pow10" = some 5 := by kernel_rfl
  unfold TabW Lib.TabIs World.var? at h ⊢
  simp only [hg, Option.bind_some] at h ⊢
  have hlt : 5 < w.heap.size := by
    apply Decidable.byContradiction
    intro hn
    rw [Array.getElem?_eq_none (by omega)] at h
    simp at h
  rw [f.block _ hlt hm]
  exact h
theorem LibW.fr {rb : Nat} {w w' : World} (h : LibW rb w) (f : Fr (fun k => k = rb) w w') : LibW rb w' := by
  obtain ⟨h1, ⟨ev, h2, h3⟩, h4, h5⟩ := h
  exact ⟨h1.fr f h4, ⟨ev, f.cell h5 h2, h3⟩, h4, h5⟩
theorem LibW.ext {rb : Nat} {w w' : World} (h : LibW rb w) (e : Ext w w') : LibW rb w' := h.fr (Fr.of_ext e)
theorem rd_ret {P : Program} {fn : Func} {a : Act} {w Y : World} {p T b rb : Nat} {s : ByteArray} {o : Bool} {X : Option (Tm × List UInt8)} {t : Tm} {ta : Option Addr} {tc : Nat} {u0 u1 u2 u3 : Value} {F : Nat → Prop}
    (hres : fn.results = #[.cell p T]) (hT : ∀ w, (isAgg T).run P w = .ok true w) (hs : ∀ w, (sizeOf T).run P w = .ok 4 w) (hp : a.tmps.getD p undef = .pointer (some ⟨b, 0, none⟩)) (hd : a.defers = [])
    (hB : BoxT Y b u0 u1 u2 u3) (hb : w.heap.size ≤ b) (hbr : b ≠ rb) (f : Fr (fun k => k = rb) w Y) (ho : Tm.own F Y t (.slice ta t.kids.length tc)) (hF : ∀ k, F k → w.heap.size ≤ k ∧ k ≠ b)
    (hr : RdW rb s o (X.map Prod.snd) Y) (hX : ∀ u r, X = some (u, r) → t = u) :
    bodyPost P fn (RdTm rb s o X w) .ret a ((((Y.setCell ⟨b, 0, none⟩ (.int .i64 t.kind)).setCell ⟨b, 1, none⟩ (.int .i64 t.n)).setCell ⟨b, 2, none⟩ (.string t.name)).setCell ⟨b, 3, none⟩ (.slice ta t.kids.length tc)) := by
  refine ret4_set hres hT hs hp hd hB.1 hB.2.1 hB.2.2.1 hB.2.2.2.1 ?_
  intro Z hZ
  have fz : Fr (fun k => k = b) Y Z := Fr.of_grown hZ (fun k e => by cases e; rfl)
  refine ⟨t, ta, tc, rfl, ?_, ?_, hr.fr fz (fun e => hbr e.symm), hX⟩
  · exact own_mono (fun k hk => (hF k hk).1) fz (fun k hk e => (hF k hk).2 e) _ _ ho
  · have f1 : Fr (fun k => k = rb ∨ k = b) w Y := f.mono (fun k _ h => .inl h)
    have f2 : Fr (fun k => k = rb ∨ k = b) Y Z := fz.mono (fun k _ h => .inr h)
    exact (f1.trans f2).mono (fun k hk h => by rcases h with h | h; exact h; omega)
theorem RdTm.of {rb : Nat} {s : ByteArray} {o : Bool} {X : Option (Tm × List UInt8)} {w w1 w2 : World} {e : Ending} (f : Fr (fun k => k = rb) w w1) (h : RdTm rb s o X w1 e w2) : RdTm rb s o X w e w2 := by
  obtain ⟨t, a, c, h1, h2, h3, h4, h5⟩ := h
  exact ⟨t, a, c, h1, own_zone h2 (fun b hb => Nat.le_trans f.size hb), f.trans h3, h4, h5⟩
theorem itoa_eq {v : Int} {l : List UInt8} : ((bs (Lib.itoa v)).toList == (bs l).toList) = decide (Lib.itoa v = l) := by
  rw [bs_list, bs_list]
  rw [Bool.eq_iff_iff, beq_iff_eq, decide_eq_true_eq]
theorem itoaL {rb : Nat} (n : Int) (h0 : -9223372036854775808 ≤ n) (h1 : n ≤ 9223372036854775807) (w : World) (ht : LibW rb w) : Calls Tryz.prog 175 #[.int .i64 n] w fun e w' => e = .returned (.string (bs (Lib.itoa n))) ∧ Ext w w' := by
  refine (Tryz.strconv_Itoa n h0 h1 w ht.tab).mono ?_
  rintro e w' ⟨rfl, k, os, rfl⟩
  exact ⟨rfl, ⟨rfl, rfl, rfl, by simp [Sort.grow, World.drewN], fun j hj => by
    show (w.heap ++ os)[j]? = _
    rw [Array.getElem?_append_left hj]⟩⟩
theorem atoiL {rb : Nat} {b : UInt8} {l : List UInt8} (hb : digitB b = true ∨ (b = 45 ∧ l ≠ [])) (hl : ∀ c ∈ l, digitB c = true) (hn : l.length ≤ 4000) (w : World) (ht : LibW rb w) :
    Calls Tryz.prog 174 #[.string (bs (b :: l))] w fun e w' => Ext w w' ∧ ((∃ v : Int, e = .returned (.tuple #[.int .i64 v, .nilIface]) ∧ Lib.atoiAll (b :: l) = .ok v) ∨ (∃ v T p, e = .returned (.tuple #[.int .i64 v, .iface T p]) ∧ Lib.atoiAll (b :: l) = .range)) := by
  have hsz : (bs (b :: l)).size ≤ 4001 := by rw [bs_size]; simp; omega
  have hda : (bs (b :: l)).data.toList = b :: l := rfl
  rcases atoi_numeral hb hl with h | ⟨v, h⟩
  · obtain ⟨ev, h1, h2⟩ := ht.err
    refine (Tryz.strconv_Atoi_range (bs (b :: l)) (by omega) (by rw [hda]; exact h) ev w h1 h2).mono ?_
    rintro e w' ⟨N, rfl, _, _, hbel⟩
    exact ⟨hbel, .inr ⟨_, _, _, rfl, h⟩⟩
  · refine (Tryz.strconv_Atoi_ok (bs (b :: l)) (by omega) v (by rw [hda]; exact h) w).mono ?_
    rintro e w' ⟨rfl, hw⟩
    refine ⟨?_, .inl ⟨v, rfl, h⟩⟩
    rcases hw with rfl | ⟨t, rfl⟩
    · exact Ext.refl _
    · exact Lib.bytesWorld_below _ _ _
theorem take_drop_digits {p : UInt8 → Bool} : ∀ {l pre r : List UInt8}, l = pre ++ r → (∀ c ∈ pre, p c = true) → (∀ c q, r = c :: q → p c = false) → l.takeWhile p = pre ∧ l.dropWhile p = r := by
  intro l pre r h h1 h2
  subst h
  exact ⟨by rw [List.takeWhile_append_of_pos h1, takeW_nil h2, List.append_nil], by rw [List.dropWhile_append_of_pos h1, dropW_id h2]⟩
set_option maxRecDepth 100000 in
set_option maxHeartbeats 4000000 in
theorem rdnumber {rb : Nat} {s : ByteArray} {o : Bool} {b : UInt8} {r : List UInt8} {w : World} (hs : s.size ≤ 4000) (hL : LibW rb w) (h : RdW rb s o (some (b :: r)) w) (hst : numStart (b :: r) = true) :
    Calls Tryz.prog 133 #[.pointer (some ⟨rb, 0, none⟩)] w (RdTm rb s o (numP (b :: r)) w) := by
  obtain ⟨n, h1, h2, hb⟩ := h.good
  have hlt := hb.lt
  have HB := Lib.hid hb
  have H2 := Lib.hid h2
  have HL := Lib.hid hL
  have HST := Lib.hid hst
  obtain ⟨h3, _, h4⟩ := drop_cons h2
  have H4 := Lib.hid h4
  obtain ⟨c0, c1, c2, c3, f0, f1, f2, f3⟩ := hb
  clear h h2 h4 hL hst
  go_enter Tryz.func133, Tryz.ntmps133
  go_wp2_with fail
  go_loopg [] r.length (fun g wr => ∃ (pre r' : List UInt8), g = r'.length ∧ Hid (r = pre ++ r') ∧ Hid (∀ c ∈ pre, digitB c = true) ∧
    Hid (BoxT wr rb (.string s) (.int .i64 ((n + 1 + pre.length : Nat) : Int)) (.int .i64 (-1)) (.bool o)) ∧ Hid (BoxT wr w.heap.size (.int .i64 0) (.int .i64 0) (.string ⟨#[]⟩) (.slice none 0 0)) ∧ Hid (Fr (fun k => k = rb) w wr))
  case atStart =>
    refine ⟨[], r, rfl, Lib.hid rfl, Lib.hid (by simp), Lib.hid ?_, Lib.hid ?_, Lib.hid ?_⟩
    · rw [show ((n + 1 + ([] : List UInt8).length : Nat) : Int) = (n : Int) + 1 by simp]
      exact (HB.out.setAt _).ext (Ext.alloc _ _)
    · exact BoxT.new _ _ _ _ _ 25 (by simp [World.setCell])
    · exact (Fr.setCell (M := fun k => k = rb) _ rfl).trans (Fr.alloc _ _)
  case round =>
    obtain ⟨pre, r', rfl, HR, HD, HP, HZ, HF⟩ := hrel
    have hlen : n + 1 + pre.length + r'.length = s.size := by
      have := congrArg List.length H4.out
      rw [List.length_drop, bl_len, HR.out, List.length_append] at this
      omega
    have hdrop : s.toList.drop (n + 1 + pre.length) = r' := by
      rw [← List.drop_drop, H4.out, HR.out, List.drop_left]
    have HDR := Lib.hid hdrop
    have HN := Lib.hid (RdW.mk (r := r') (by omega) hdrop HP.out)
    have lP := HP.out.lt
    have lZ := HZ.out.lt
    clear hdrop
    go_wp2_with fail
    refine (implnext hs HN.out).mono ?_
    rintro e w1 ⟨rfl, e1⟩
    go_wp2_with fail
    refine (rdisDigit (nextB (some r')) _).mono ?_
    cases hd : digitB (nextB (some r'))
    · rintro e w2 ⟨rfl, e2⟩
      have HDD := Lib.hid (show ∀ c q, r' = c :: q → digitB c = false from fun c q e => by rw [e] at hd; exact hd)
      have hp := (HP.out.ext e1).ext e2
      have HP2 := Lib.hid hp
      have HZ2 := Lib.hid ((HZ.out.ext e1).ext e2)
      have HF2 := Lib.hid ((HF.out.trans (Fr.of_ext e1)).trans (Fr.of_ext e2))
      obtain ⟨p0, p1, p2, p3, _⟩ := hp
      have k0 := cell_regrown p0
      have k1 := cell_regrown p1
      have hdg : s.extract n (n + 1 + pre.length) = bs (b :: pre) := ext_bs (r := r') (by rw [H2.out, HR.out]; rfl) (by simp; omega) (by omega)
      clear hd e1 e2
      go_wp2_with fail
      refine region_ext (by kernel_rfl) (by kernel_rfl) ?_
      repeat (go_big_quiet_step (fail))
      refine wpQuiet_nil ?_
      intro w3 e3
      rw [hdg]
      have HP3 := Lib.hid (HP2.out.ext e3)
      have HZ3 := Lib.hid (HZ2.out.ext e3)
      have HF3 := Lib.hid (HF2.out.trans (Fr.of_ext e3))
      have hbb : digitB b = true ∨ (b = 45 ∧ pre ≠ []) := by
        have := HST.out
        simp only [numStart, Bool.or_eq_true, Bool.and_eq_true, beq_iff_eq] at this
        rcases this with h | ⟨h, h'⟩
        · exact .inl h
        · refine .inr ⟨h, fun e => ?_⟩
          have hr' := HR.out
          rw [e, List.nil_append] at hr'
          cases hq : r' with
          | nil => rw [hr', hq] at h'; cases h'
          | cons c q =>
            have h1 := HDD.out c q hq
            rw [hr', hq] at h'
            simp only [h1] at h'
            cases h'
      have HTK := Lib.hid (take_drop_digits HR.out HD.out HDD.out)
      have HNP : Hid (numP (b :: r) = (match numO (b :: pre) with | some n => some (nT n, r') | none => none)) := Lib.hid (by
        simp only [numP, HTK.out.1, HTK.out.2]
        cases numO (b :: pre) <;> rfl)
      have HBB := Lib.hid hbb
      clear hbb k0 k1 p0 p1 p2 p3 hdg
      go_wp2_with fail
      refine (atoiL HBB.out HD.out (by omega) _ (HL.out.fr HF3.out)).mono ?_
      rintro e w4 ⟨e4, hv⟩
      have HP4 := HP3.out.ext e4
      have HZ4 := HZ3.out.ext e4
      have HF4 := HF3.out.trans (Fr.of_ext e4)
      have HPh := Lib.hid HP4
      have HZh := Lib.hid HZ4
      have HFh := Lib.hid HF4
      have HRW := Lib.hid (show RdW rb s o (some r') w4 from RdW.mk (n := n + 1 + pre.length) (by omega) HDR.out HP4)
      have lz4 := HZ4.lt
      clear HP4 HZ4 HF4 e4
      rcases hv with ⟨v, rfl, hv⟩ | ⟨v, T, p, rfl, hv⟩
      · have HV := Lib.hid hv
        have hvb := Lib.atoiAll_bounds hv
        have hlit := (itoa_eq (v := v) (l := b :: pre))
        clear hv
        by_cases hq : Lib.itoa v = b :: pre
        · rw [decide_eq_true hq] at hlit
          have HQ := Lib.hid hq
          clear hq
          by_cases hlo : -999 ≤ v
          · by_cases hhi : v ≤ 999
            · have HX : Hid (numP (b :: r) = some (nT v, r')) := Lib.hid (by rw [HNP.out, numO_ok HV.out, if_pos ⟨HQ.out, hlo, hhi⟩])
              go_wp2_with (first
                | (go_at_call 175; refine (itoaL v hvb.1 hvb.2 _ (HL.out.fr HFh.out)).mono ?_; rintro e w5 ⟨rfl, e5⟩)
                | (go_at_call 144; refine (implwithin _ _ _ _).mono ?_; rw [show (decide ((-999 : Int) ≤ v) && decide (v ≤ 999)) = true by rw [decide_eq_true hlo, decide_eq_true hhi]; rfl]; rintro e w6 ⟨rfl, rfl⟩)
                | (go_at_call 176; refine (implnumber v _).mono ?_; rintro e w7 ⟨ta, tc, rfl, ho, e7⟩; have hz := (HZh.out.ext e5).ext e7; have HZ7 := Lib.hid hz; obtain ⟨z0, z1, z2, z3, y0, y1, y2, y3⟩ := hz))
              have l5 := Below.size e5
              rw [HX.out]
              refine rd_ret (p := 2) (T := 25) (b := w.heap.size) (t := nT v) (ta := ta) (tc := tc) (F := fun k => w5.heap.size ≤ k) (X := some (nT v, r')) (by kernel_rfl) (fun _ => by kernel_rfl) (fun _ => by kernel_rfl) rfl rfl HZ7.out (Nat.le_refl _) (by omega) ((HFh.out.trans (Fr.of_ext e5)).trans (Fr.of_ext e7)) ho (fun k hk => ⟨by omega, by omega⟩) ((HRW.out.ext e5).ext e7) (fun u r h => by cases h; rfl)
            · have HX : Hid (numP (b :: r) = none) := Lib.hid (by rw [HNP.out, numO_ok HV.out, if_neg (by rintro ⟨a1, a2, a3⟩; omega)])
              go_wp2_with (first
                | (go_at_call 175; refine (itoaL v hvb.1 hvb.2 _ (HL.out.fr HFh.out)).mono ?_; rintro e w5 ⟨rfl, e5⟩))
              refine (implwithin _ _ _ _).mono ?_
              rw [show (decide ((-999 : Int) ≤ v) && decide (v ≤ 999)) = false by rw [decide_eq_false (show ¬ v ≤ 999 by omega), Bool.and_false]]
              rintro e w6 ⟨rfl, rfl⟩
              go_wp2_with fail
              refine (implstop (o := o) (X := some r') (n := (n : Int)) (by omega) (HRW.out.ext e5)).mono ?_
              rintro e w7 ⟨t, ta, tc, rfl, ho, f7, hr7, _⟩
              have hz := (HZh.out.ext e5).fr f7 (by omega)
              have HZ7 := Lib.hid hz
              have HF7 := Lib.hid ((HFh.out.trans (Fr.of_ext e5)).trans f7)
              have HR7 := Lib.hid hr7
              have HO7 := Lib.hid ho
              obtain ⟨z0, z1, z2, z3, y0, y1, y2, y3⟩ := hz
              go_wp2_with fail
              have l5 := Below.size e5
              rw [HX.out]
              refine rd_ret (p := 2) (T := 25) (b := w.heap.size) (t := t) (ta := ta) (tc := tc) (F := fun k => w5.heap.size ≤ k) (X := none) (by kernel_rfl) (fun _ => by kernel_rfl) (fun _ => by kernel_rfl) rfl rfl HZ7.out (Nat.le_refl _) (by omega) HF7.out HO7.out (fun k hk => ⟨by omega, by omega⟩) HR7.out (fun u r h => by cases h)
          · have HX : Hid (numP (b :: r) = none) := Lib.hid (by rw [HNP.out, numO_ok HV.out, if_neg (by rintro ⟨a1, a2, a3⟩; omega)])
            go_wp2_with (first
              | (go_at_call 175; refine (itoaL v hvb.1 hvb.2 _ (HL.out.fr HFh.out)).mono ?_; rintro e w5 ⟨rfl, e5⟩))
            refine (implwithin _ _ _ _).mono ?_
            rw [show (decide ((-999 : Int) ≤ v) && decide (v ≤ 999)) = false by rw [decide_eq_false (show ¬ (-999 : Int) ≤ v by omega), Bool.false_and]]
            rintro e w6 ⟨rfl, rfl⟩
            go_wp2_with fail
            refine (implstop (o := o) (X := some r') (n := (n : Int)) (by omega) (HRW.out.ext e5)).mono ?_
            rintro e w7 ⟨t, ta, tc, rfl, ho, f7, hr7, _⟩
            have hz := (HZh.out.ext e5).fr f7 (by omega)
            have HZ7 := Lib.hid hz
            have HF7 := Lib.hid ((HFh.out.trans (Fr.of_ext e5)).trans f7)
            have HR7 := Lib.hid hr7
            have HO7 := Lib.hid ho
            obtain ⟨z0, z1, z2, z3, y0, y1, y2, y3⟩ := hz
            go_wp2_with fail
            have l5 := Below.size e5
            rw [HX.out]
            refine rd_ret (p := 2) (T := 25) (b := w.heap.size) (t := t) (ta := ta) (tc := tc) (F := fun k => w5.heap.size ≤ k) (X := none) (by kernel_rfl) (fun _ => by kernel_rfl) (fun _ => by kernel_rfl) rfl rfl HZ7.out (Nat.le_refl _) (by omega) HF7.out HO7.out (fun k hk => ⟨by omega, by omega⟩) HR7.out (fun u r h => by cases h)
        · rw [decide_eq_false hq] at hlit
          have HQ := Lib.hid hq
          clear hq
          have HX : Hid (numP (b :: r) = none) := Lib.hid (by rw [HNP.out, numO_ok HV.out, if_neg (by rintro ⟨a1, a2, a3⟩; exact HQ.out a1)])
          go_wp2_with (first
            | (go_at_call 175; refine (itoaL v hvb.1 hvb.2 _ (HL.out.fr HFh.out)).mono ?_; rintro e w5 ⟨rfl, e5⟩))
          refine (implstop (o := o) (X := some r') (n := (n : Int)) (by omega) (HRW.out.ext e5)).mono ?_
          rintro e w7 ⟨t, ta, tc, rfl, ho, f7, hr7, _⟩
          have hz := (HZh.out.ext e5).fr f7 (by omega)
          have HZ7 := Lib.hid hz
          have HF7 := Lib.hid ((HFh.out.trans (Fr.of_ext e5)).trans f7)
          have HR7 := Lib.hid hr7
          have HO7 := Lib.hid ho
          obtain ⟨z0, z1, z2, z3, y0, y1, y2, y3⟩ := hz
          go_wp2_with fail
          have l5 := Below.size e5
          rw [HX.out]
          refine rd_ret (p := 2) (T := 25) (b := w.heap.size) (t := t) (ta := ta) (tc := tc) (F := fun k => w5.heap.size ≤ k) (X := none) (by kernel_rfl) (fun _ => by kernel_rfl) (fun _ => by kernel_rfl) rfl rfl HZ7.out (Nat.le_refl _) (by omega) HF7.out HO7.out (fun k hk => ⟨by omega, by omega⟩) HR7.out (fun u r h => by cases h)
      · have HX : Hid (numP (b :: r) = none) := Lib.hid (by rw [HNP.out, numO_range hv])
        go_wp2_with fail
        refine (implstop (o := o) (X := some r') (n := (n : Int)) (by omega) (HRW.out)).mono ?_
        rintro e w7 ⟨t, ta, tc, rfl, ho, f7, hr7, _⟩
        have hz := (HZh.out).fr f7 (by omega)
        have HZ7 := Lib.hid hz
        have HF7 := Lib.hid (HFh.out.trans f7)
        have HR7 := Lib.hid hr7
        have HO7 := Lib.hid ho
        obtain ⟨z0, z1, z2, z3, y0, y1, y2, y3⟩ := hz
        go_wp2_with fail
        rw [HX.out]
        refine rd_ret (p := 2) (T := 25) (b := w.heap.size) (t := t) (ta := ta) (tc := tc) (F := fun k => w4.heap.size ≤ k) (X := none) (by kernel_rfl) (fun _ => by kernel_rfl) (fun _ => by kernel_rfl) rfl rfl HZ7.out (Nat.le_refl _) (by omega) HF7.out HO7.out (fun k hk => ⟨by omega, by omega⟩) HR7.out (fun u r h => by cases h)
    · rintro e w2 ⟨rfl, e2⟩
      obtain ⟨c, q, rfl, hc⟩ : ∃ c q, r' = c :: q ∧ digitB c = true := by
        cases r' with
        | nil => exact absurd hd (by decide)
        | cons c q => exact ⟨c, q, rfl, hd⟩
      have hp := (HP.out.ext e1).ext e2
      have HP2 := Lib.hid hp
      have HZ2 := Lib.hid ((HZ.out.ext e1).ext e2)
      have HF2 := Lib.hid ((HF.out.trans (Fr.of_ext e1)).trans (Fr.of_ext e2))
      have HC := Lib.hid hc
      obtain ⟨p0, p1, p2, p3, q0, q1, q2, q3⟩ := hp
      have hbd : n + 1 + pre.length < s.size := by simp only [List.length_cons] at hlen; omega
      clear hd hc e1 e2
      go_wp2_with fail
      go_roundg q.length
      case measure => simp only [List.length_cons]; omega
      case rel =>
        refine ⟨pre ++ [c], q, rfl, Lib.hid (by rw [HR.out]; simp), Lib.hid ?_, Lib.hid ?_, Lib.hid (HZ2.out.fr (M := fun k => k = rb) (Fr.setCell _ rfl) (by omega)), Lib.hid (HF2.out.trans (Fr.setCell (M := fun k => k = rb) _ rfl))⟩
        · intro x hx
          rcases List.mem_append.1 hx with hx | hx
          · exact HD.out x hx
          · rw [List.mem_singleton.1 hx]; exact HC.out
        · rw [show ((n + 1 + (pre ++ [c]).length : Nat) : Int) = (n : Int) + 1 + (pre.length : Int) + 1 by simp; omega]
          exact HP2.out.setAt _
end Go.Proofs.YtognkaebiafgbaaGreatDoor
