/-
  The program's ParseClause.
-/
import Derived.Test.YtognkaebiafgbaaGreatDoorMr46
import Derived.Test.YtognkaebiafgbaaGreatDoorMr36
import Derived.Test.YtognkaebiafgbaaGreatDoorMr48
namespace Go.Proofs.YtognkaebiafgbaaGreatDoor
open Go.RowKit
set_option linter.unusedVariables false
set_option maxRecDepth 100000 in
set_option maxHeartbeats 16000000 in
theorem implParseClause (s : ByteArray) (w : World) (hs' : s.size ≤ 1048576) (hL : LibG w) : Calls Tryz.prog 14 #[.string s] w (ClTwo (parseCT s) (parseCB s) w) := by
  have ZR := Lib.hid (show BoxCZ (w.alloc (.cells #[.int .i64 0, .int .i64 0, .string ⟨#[]⟩, .slice none 0 0, .slice none 0 0] 27)) w.heap.size from BoxC.new w _ _ _ _ _ 27 rfl)
  have ZE := Lib.hid (Ext.alloc w (.cells #[.int .i64 0, .int .i64 0, .string ⟨#[]⟩, .slice none 0 0, .slice none 0 0] 27))
  by_cases hk : s.size ≤ 1000
  · have hk1 : ¬ (1000 : Int) < (s.size : Int) := by omega
    have hs4 : s.size ≤ 4000 := by omega
    obtain ⟨F, hF, hx⟩ := impl_fuel s (s.size + 7) (by omega)
    have HX := Lib.hid hx
    have HNO := Lib.hid (fun h => parseC_none (s := s) h)
    have HLG := Lib.hid hL
    have rdw0 := RdW.mk (rb := w.heap.size + 1) (s := s) (o := true) (r := s.toList) (n := 0) (w := (w.alloc (.cells #[.int .i64 0, .int .i64 0, .string ⟨#[]⟩, .slice none 0 0, .slice none 0 0] 27)).alloc (.cells #[.string s, .int .i64 0, .int .i64 (-1), .bool true] 58)) (Nat.zero_le _) rfl (BoxT.new _ _ _ _ _ 58 (by simp))
    have HP := Lib.hid ((rdops F).2.1 (w.heap.size + 1) s 3 1 s.toList ((w.alloc (.cells #[.int .i64 0, .int .i64 0, .string ⟨#[]⟩, .slice none 0 0, .slice none 0 0] 27)).alloc (.cells #[.string s, .int .i64 0, .int .i64 (-1), .bool true] 58)) hs4 (by decide) (by decide) (by decide) (hL.lib ((Ext.alloc _ _).trans (Ext.alloc _ _)) (by omega)) rdw0 (by rw [bl_len]; omega))
    have HLW := Lib.hid (hL.lib ((Ext.alloc w (.cells #[.int .i64 0, .int .i64 0, .string ⟨#[]⟩, .slice none 0 0, .slice none 0 0] 27)).trans (Ext.alloc _ (.cells #[.string s, .int .i64 0, .int .i64 (-1), .bool true] 58))) (rb := w.heap.size + 1) (by omega))
    clear hx hL rdw0
    go_enter Tryz.func14, Tryz.ntmps14
    go_wp2_with fail
    refine HP.out.mono ?_
    rintro e w1 ⟨t, ta, tc, rfl, ho, f1, hr, hXt⟩
    have s1 := f1.size
    have s1' : w.heap.size + 2 ≤ w1.heap.size := by simpa using s1
    have E1 := Lib.hid (show Ext w w1 from ((Fr.of_ext (M := fun k => k = w.heap.size + 1) (ZE.out.trans (Ext.alloc _ (.cells #[.string s, .int .i64 0, .int .i64 (-1), .bool true] 58)))).trans f1).toExt (fun k hk h => by omega))
    have R1 := Lib.hid ((ZR.out.ext (Ext.alloc _ (.cells #[.string s, .int .i64 0, .int .i64 (-1), .bool true] 58))).fr f1 (by omega))
    have V1 := Lib.hid (own_zone (F' := fun b => w.heap.size + 2 ≤ b ∧ b < w1.heap.size) (own_bound _ _ ho) (fun b hb => ⟨by have hb' : _ ≤ b := hb.1; simpa using hb', hb.2⟩))
    have D1 := Lib.hid hr
    have L1 := Lib.hid (HLW.out.fr f1)
    have X1 := Lib.hid hXt
    clear ho f1 hr hXt s1
    go_upto_region 5 with (fail)
    obtain ⟨w2, hw2⟩ : ∃ z, z = w1.alloc (.cells #[.int .i64 t.kind, .int .i64 t.n, .string t.name, .slice ta t.kids.length tc, .slice none 0 0] 27) := ⟨_, rfl⟩
    have e2 : Ext w1 w2 := by rw [hw2]; exact Ext.alloc _ _
    have C2 := Lib.hid (show BoxC w2 w1.heap.size (.int .i64 t.kind) (.int .i64 t.n) (.string t.name) (.slice ta t.kids.length tc) (.slice none 0 0) by rw [hw2]; exact BoxC.new _ _ _ _ _ _ 27 rfl)
    rw [← hw2]
    have E2 := Lib.hid (E1.out.trans e2)
    have R2 := Lib.hid (R1.out.ext e2)
    have V2 := Lib.hid (own_ext1 V1.out e2)
    have D2 := Lib.hid (D1.out.ext e2)
    have L2 := Lib.hid (L1.out.ext e2)
    clear hw2 e2
    obtain ⟨TX, hTX⟩ : ∃ z, z = termF true F 3 1 s.toList := ⟨_, rfl⟩
    rw [← hTX] at D2 X1
    have HTX := Lib.hid hTX
    clear hTX
    have heq : (((nextB (TX.map Prod.snd)).toNat : Int) == 58) = decide (nextB (TX.map Prod.snd) = 58) := u8_beq _ 58
    have N := Lib.hid (implnext hs4 D2.out)
    by_cases h58 : nextB (TX.map Prod.snd) = 58
    have B2 := Lib.hid (show OwnS (fun b => w1.heap.size + 1 ≤ b ∧ b < w2.heap.size) [] (.slice none 0 0) w2 from OwnS.nil _ _)
    · rw [decide_eq_true h58] at heq
      obtain ⟨q, hq⟩ := next_yes (by decide) h58
      have hD := D2.out
      rw [hq] at hD
      obtain ⟨n, n1, n2, nb⟩ := hD.good
      have NB := Lib.hid nb
      have NN := Lib.hid n2
      have HTQ := Lib.hid (show TX = some (t, 58 :: q) by
        cases e : TX with
        | none => rw [e] at hq; cases hq
        | some p =>
          obtain ⟨t', r'⟩ := p
          rw [e] at hq
          simp at hq
          rw [hq, X1.out t' r' e])
      clear hD n2 nb hq h58
      go_wp2_with fail
      refine N.out.mono ?_
      rintro e w3 ⟨rfl, e3⟩
      have E3 := Lib.hid (E2.out.trans e3)
      have R3 := Lib.hid (R2.out.ext e3)
      have C3 := Lib.hid (C2.out.ext e3)
      have V3 := Lib.hid (own_ext1 V2.out e3)
      have B3 := Lib.hid (B2.out.mono (F' := fun b => w1.heap.size + 1 ≤ b ∧ b < w3.heap.size) (fun b hb => ⟨hb.1, by have h2 := hb.2; have := Below.size e3; omega⟩) (Fr.of_ext (M := fun _ => False) e3) (fun _ _ h => h))
      have L3 := Lib.hid (L2.out.ext e3)
      have nb3 := NB.out.ext e3
      have NB3 := Lib.hid nb3
      obtain ⟨c0, c1, c2, c3, f0, f1, f2, f3⟩ := nb3
      have lr3 := NB3.out.lt
      clear e3 E2 R2 C2 V2 B2 D2 L2
      go_upto_region 7 with (fail)
      obtain ⟨w4, hw4⟩ : ∃ z, z = w3.setCell ⟨w.heap.size + 1, 1, none⟩ (.int .i64 ((n : Int) + 1)) := ⟨_, rfl⟩
      have fs : Fr (fun k => k = w.heap.size + 1) w3 w4 := by rw [hw4]; exact Fr.setCell _ rfl
      have D4 := Lib.hid (show RdW (w.heap.size + 1) s true (some q) w4 by rw [hw4]; exact RdW.step NB3.out NN.out rfl)
      rw [← hw4]
      clear hw4 c0 c1 c2 c3 f0 f1 f2 f3
      have SK := Lib.hid (implskip (b := 45) (m := 45) hs4 (by decide) rfl D4.out)
      go_wp2_with fail
      refine SK.out.mono ?_
      rintro e w5 ⟨⟨vv, rfl⟩, f5, hd5⟩
      have fs5 := fs.trans f5
      have GI := Lib.hid (implgoals (F := F) (s.size + 7) hs4 hF (by omega) (L3.out.fr fs5) hd5)
      go_wp2_with fail
      refine GI.out.mono ?_
      rintro e w6 ⟨ts, av, cv, rfl, ho6, htsl, f6, hd6, hX6⟩
      have F6 := fs5.trans f6
      have s5 := fs5.size
      have lc3 := C3.out.lt
      have C6 := C3.out.fr F6 (by omega)
      have lc6 := C6.lt
      have C6h := Lib.hid C6
      obtain ⟨c0, c1, c2, c3, c4, g0, g1, g2, g3, g4⟩ := C6
      go_upto_region 9 with (fail)
      obtain ⟨w7, hw7⟩ : ∃ z, z = w6.setCell ⟨w1.heap.size, 4, none⟩ (.slice av ts.length cv) := ⟨_, rfl⟩
      have f7 : Fr (fun k => k = w1.heap.size) w6 w7 := by rw [hw7]; exact Fr.setCell _ rfl
      have C := Lib.hid (show BoxC w7 w1.heap.size (.int .i64 t.kind) (.int .i64 t.n) (.string t.name) (.slice ta t.kids.length tc) (.slice av ts.length cv) by rw [hw7]; exact C6h.out.setBody _)
      rw [← hw7]
      have s7 := f7.size
      have E := Lib.hid ((((Fr.of_ext E3.out).trans (F6.mono (M' := fun k => k = w.heap.size + 1 ∨ k = w1.heap.size) (fun k _ h => .inl h))).trans (f7.mono (fun k _ h => .inr h))).toExt (fun q hq h => by rcases h with h | h <;> omega))
      have R := Lib.hid ((R3.out.fr F6 (by omega)).fr f7 (by omega))
      have V := Lib.hid (own_mono (F' := fun b => w.heap.size + 2 ≤ b ∧ b < w1.heap.size) (fun b hb => hb) f7 (fun b hb h => by omega) _ _ (own_mono (F' := fun b => w.heap.size + 2 ≤ b ∧ b < w1.heap.size) (fun b hb => hb) F6 (fun b hb h => by omega) _ _ V3.out))
      have B := Lib.hid (ho6.mono (F' := fun b => w1.heap.size + 1 ≤ b ∧ b < w7.heap.size) (fun b hb => ⟨by have h1 := hb.1; omega, by have h2 := hb.2; omega⟩) f7 (fun b hb h => by have h1 := hb.1; omega))
      obtain ⟨Z, hZ⟩ : ∃ Z, Z = (gX F (s.size + 7) [] (skipX 45 (some q))).map Prod.snd := ⟨_, rfl⟩
      have D := Lib.hid (show RdW (w.heap.size + 1) s true Z w7 by rw [hZ]; exact hd6.fr f7 (by omega))
      have CG := Lib.hid (show ∀ c0, clauseG (termF true F 3 1) (s.size + 7) s.toList = some (c0, [46]) → c0 = ⟨t, ts⟩ ∧ Z = some [46] from by
        intro c0 hc
        unfold clauseG at hc
        rw [← HTX.out, HTQ.out] at hc
        by_cases h45 : hdB (isB 45) (some q) = true
        · obtain ⟨q2, rfl⟩ : ∃ q2, q = 45 :: q2 := by
            cases q with
            | nil => cases h45
            | cons c q => exact ⟨q, by rw [show c = 45 by simpa [hdB, isB] using h45]⟩
          have hS : skipX 45 (some (45 :: q2)) = some q2 := by simp [skipX]
          have hc' : (match goalsG (termF true F 3 1) (s.size + 7) [] q2 with | none => none | some (ts, q) => some (Cl.mk t ts, q)) = some (c0, [46]) := hc
          rw [hS] at hX6 hZ
          cases hg : goalsG (termF true F 3 1) (s.size + 7) [] q2 with
          | none => rw [hg] at hc'; cases hc'
          | some p =>
            obtain ⟨ks, q3⟩ := p
            have hks := hX6 ks q3 hg
            rw [hg] at hc'
            cases hc'
            refine ⟨by rw [hks], ?_⟩
            rw [hZ]
            show (goalsG (termF true F 3 1) (s.size + 7) [] q2).map Prod.snd = _
            rw [hg]
            rfl
        · simp only [body_no2 (by simpa using h45)] at hc
          cases hc)
      clear hw7 f7 hd6 ho6 hX6 hZ c0 c1 c2 c3 c4 g0 g1 g2 g3 g4
      have SK := Lib.hid (implskip (b := 46) (m := 46) hs4 (by decide) rfl D.out)
      go_wp2_with fail
      refine SK.out.mono ?_
      rintro e wa ⟨⟨vv, rfl⟩, fa, hda⟩
      have sa := fa.size
      have Ea := Lib.hid (((Fr.of_ext E.out).trans fa).toExt (fun q hq h => by omega))
      have Ra := Lib.hid (R.out.fr fa (by omega))
      have Ca := Lib.hid (C.out.fr fa (by omega))
      have Va := Lib.hid (own_mono (F' := fun b => w.heap.size + 2 ≤ b ∧ b < w1.heap.size) (fun b hb => hb) fa (fun b hb h => by omega) _ _ V.out)
      have Ba := Lib.hid (B.out.mono (F' := fun b => w1.heap.size + 1 ≤ b ∧ b < wa.heap.size) (fun b hb => ⟨hb.1, by omega⟩) fa (fun b hb h => by omega))
      have Da := Lib.hid hda
      clear fa hda
      have la := Da.out.lt
      cases hz : skipX 46 Z with
      | none =>
        have HN := Lib.hid (HNO.out (by
          cases e : parseClO s.toList with
          | none => rfl
          | some c0 =>
            obtain ⟨q1, q2⟩ := CG.out c0 (HX.out c0 e)
            rw [q2] at hz
            cases hz))
        rw [hz] at Da
        obtain ⟨ib, bad, hbad, hbx⟩ := Da.out.bad
        obtain ⟨c0, c1, c2, c3, f0, f1, f2, f3⟩ := hbx
        clear hz
        have bz := Ra.out
        obtain ⟨z0, z1, z2, z3, z4, y0, y1, y2, y3, y4⟩ := bz
        have lz9 := Ra.out.lt
        go_wp2_with fail
        refine ret5b_set (p := 2) (q := 3) (T := 27) (b := w.heap.size) (v0 := .int .i64 0) (v1 := .int .i64 0) (v2 := .string ⟨#[]⟩) (v3 := .slice none 0 0) (v4 := .slice none 0 0) (y := .bool false) (by kernel_rfl) (fun _ => by kernel_rfl) (fun _ => by kernel_rfl) rfl rfl rfl Ra.out ?_
        intro Z fZ
        have sZ := fZ.size
        have eZ : Ext w Z := ((Fr.of_ext Ea.out).trans fZ).toExt (fun q hq h => by omega)
        rw [HN.out.1, HN.out.2]
        exact ⟨_, rfl, cl_zero (Below.size eZ), eZ⟩
      | some r =>
        rw [hz] at Da
        obtain ⟨n, n1, n2, hbx⟩ := Da.out.good
        obtain ⟨c0, c1, c2, c3, f0, f1, f2, f3⟩ := hbx
        by_cases hr0 : r = []
        · subst hr0
          have hn : n = s.size := by
            have h := congrArg List.length n2
            rw [List.length_drop, bl_len] at h
            simp at h
            omega
          have hnn : ((n : Int) != (s.size : Int)) = false := by rw [hn]; exact bne_self_eq_false _
          have CAT := Lib.hid (show Cl.at (fun _ => True) wa ⟨t, ts⟩ (.agg #[.int .i64 t.kind, .int .i64 t.n, .string t.name, .slice ta t.kids.length tc, .slice av ts.length cv]) from by
            obtain ⟨xs, ho, hz, hf⟩ := Ba.out
            exact ⟨_, _, rfl, Tm.at_mono (fun _ _ => trivial) (Agree.refl _) (own_flat t ta tc Va.out), Tm.sl_mono (fun _ _ => trivial) (Agree.refl _) (own_sl ho (oflat_flat _ _ hf) htsl)⟩)
          have CVL := Lib.hid (implClauseValid ⟨t, ts⟩ _ _ wa CAT.out)
          have bc := Ca.out
          obtain ⟨d0, d1, d2, d3, d4, _, _, _, _, _⟩ := bc
          clear hn n2
          cases hv : clValidF ⟨t, ts⟩
          · rw [hv] at CVL
            have HN := Lib.hid (HNO.out (by
              cases e : parseClO s.toList with
              | none => rfl
              | some c0 =>
                obtain ⟨q1, q2⟩ := CG.out c0 (HX.out c0 e)
                have h := (parseClO_spec e).1
                rw [q1, hv] at h
                cases h))
            go_wp2_with fail
            refine CVL.out.mono ?_
            rintro e wb ⟨rfl, eb⟩
            have Eb := Lib.hid (Ea.out.trans eb)
            have Rb := Lib.hid (Ra.out.ext eb)
            clear eb
            have bz := Rb.out
            obtain ⟨z0, z1, z2, z3, z4, y0, y1, y2, y3, y4⟩ := bz
            have lz9 := Rb.out.lt
            go_wp2_with fail
            refine ret5b_set (p := 2) (q := 3) (T := 27) (b := w.heap.size) (v0 := .int .i64 0) (v1 := .int .i64 0) (v2 := .string ⟨#[]⟩) (v3 := .slice none 0 0) (v4 := .slice none 0 0) (y := .bool false) (by kernel_rfl) (fun _ => by kernel_rfl) (fun _ => by kernel_rfl) rfl rfl rfl Rb.out ?_
            intro Z fZ
            have sZ := fZ.size
            have eZ : Ext w Z := ((Fr.of_ext Eb.out).trans fZ).toExt (fun q hq h => by omega)
            rw [HN.out.1, HN.out.2]
            exact ⟨_, rfl, cl_zero (Below.size eZ), eZ⟩
          · rw [hv] at CVL
            have hcmp : ((bs (clTxt ⟨t, ts⟩)).toList == s.toList) = decide (clTxt ⟨t, ts⟩ = s.toList) := by
              rw [bs_list, Bool.eq_iff_iff, beq_iff_eq, decide_eq_true_eq]
            have hcm2 : ((bs (clTxt ⟨t, ts⟩)).toList = s.toList) = (clTxt ⟨t, ts⟩ = s.toList) := by rw [bs_list]
            have HVV := Lib.hid hv
            by_cases heq : clTxt ⟨t, ts⟩ = s.toList
            · have HN := Lib.hid (show parseCT s = ⟨t, ts⟩ ∧ parseCB s = true by
                have h2 := parseClO_some hv
                rw [heq] at h2
                exact parseC_some hk h2)
              rw [decide_eq_true heq] at hcmp
              have hcm3 : (bs (clTxt ⟨t, ts⟩)).toList = s.toList := by rw [hcm2]; exact heq
              clear heq hcm2 hv hz
              go_wp2_with fail
              refine CVL.out.mono ?_
              rintro e wb ⟨rfl, eb⟩
              have Eb := Lib.hid (Ea.out.trans eb)
              have Cb := Lib.hid (Ca.out.ext eb)
              have Rb := Lib.hid (Ra.out.ext eb)
              have CT := Lib.hid (implclauseText ⟨t, ts⟩ _ _ wb HVV.out (Cl.at_ext eb CAT.out) (HLG.out.ext Eb.out).1)
              clear d0 d1 d2 d3 d4
              have bc := Cb.out
              obtain ⟨d0, d1, d2, d3, d4, _, _, _, _, _⟩ := bc
              go_wp2_with fail
              refine CT.out.mono ?_
              rintro e wc ⟨rfl, ec⟩
              have Ec := Lib.hid (Eb.out.trans ec)
              have Cc := Lib.hid (Cb.out.ext ec)
              have Rc := Lib.hid (Rb.out.ext ec)
              have Vc := Lib.hid (own_ext1 (own_ext1 Va.out eb) ec)
              have Bc := Lib.hid (Ba.out.mono (F' := fun b => w1.heap.size + 1 ≤ b ∧ b < wc.heap.size) (fun b hb => ⟨hb.1, by have h2 := hb.2; have := Below.size eb; have := Below.size ec; omega⟩) (Fr.of_ext (M := fun _ => False) (eb.trans ec)) (fun _ _ h => h))
              have sc := Below.size (eb.trans ec)
              have lcc := Cc.out.lt
              clear eb ec d0 d1 d2 d3 d4
              have bc := Cc.out
              obtain ⟨d0, d1, d2, d3, d4, _, _, _, _, _⟩ := bc
              have bz := Rc.out
              obtain ⟨z0, z1, z2, z3, z4, y0, y1, y2, y3, y4⟩ := bz
              have lz9 := Rc.out.lt
              go_wp2_with fail
              refine ret5b_set (p := 2) (q := 3) (T := 27) (b := w.heap.size) (y := .bool true) (by kernel_rfl) (fun _ => by kernel_rfl) (fun _ => by kernel_rfl) rfl rfl rfl Rc.out ?_
              intro Z fZ
              have sZ := fZ.size
              rw [HN.out.1, HN.out.2]
              exact ⟨_, rfl, ⟨ta, tc, av, cv, w1.heap.size + 1, rfl, own_mono (fun b hb => ⟨by have h1 := hb.1; omega, by have h2 := hb.2; omega⟩) fZ (fun b hb h => by omega) _ _ Vc.out, Bc.out.mono (fun b hb => ⟨hb.1, by have h2 := hb.2; omega⟩) fZ (fun b hb h => by have h1 := hb.1; omega), by omega, by omega⟩, ((Fr.of_ext Ec.out).trans fZ).toExt (fun q hq h => by omega)⟩
            · have HN := Lib.hid (HNO.out (by
                cases e : parseClO s.toList with
                | none => rfl
                | some c0 =>
                  obtain ⟨q1, q2⟩ := CG.out c0 (HX.out c0 e)
                  have h := (parseClO_spec e).2
                  rw [q1] at h
                  exact absurd h heq))
              rw [decide_eq_false heq] at hcmp
              have hcm3 : ¬ (bs (clTxt ⟨t, ts⟩)).toList = s.toList := by rw [hcm2]; exact heq
              clear heq hcm2 hv hz
              go_wp2_with fail
              refine CVL.out.mono ?_
              rintro e wb ⟨rfl, eb⟩
              have Eb := Lib.hid (Ea.out.trans eb)
              have Cb := Lib.hid (Ca.out.ext eb)
              have Rb := Lib.hid (Ra.out.ext eb)
              have CT := Lib.hid (implclauseText ⟨t, ts⟩ _ _ wb HVV.out (Cl.at_ext eb CAT.out) (HLG.out.ext Eb.out).1)
              clear d0 d1 d2 d3 d4
              have bc := Cb.out
              obtain ⟨d0, d1, d2, d3, d4, _, _, _, _, _⟩ := bc
              go_wp2_with fail
              refine CT.out.mono ?_
              rintro e wc ⟨rfl, ec⟩
              have Ec := Lib.hid (Eb.out.trans ec)
              have Cc := Lib.hid (Cb.out.ext ec)
              have Rc := Lib.hid (Rb.out.ext ec)
              clear eb ec
              have bz := Rc.out
              obtain ⟨z0, z1, z2, z3, z4, y0, y1, y2, y3, y4⟩ := bz
              have lz9 := Rc.out.lt
              go_wp2_with fail
              refine ret5b_set (p := 2) (q := 3) (T := 27) (b := w.heap.size) (v0 := .int .i64 0) (v1 := .int .i64 0) (v2 := .string ⟨#[]⟩) (v3 := .slice none 0 0) (v4 := .slice none 0 0) (y := .bool false) (by kernel_rfl) (fun _ => by kernel_rfl) (fun _ => by kernel_rfl) rfl rfl rfl Rc.out ?_
              intro Z fZ
              have sZ := fZ.size
              have eZ : Ext w Z := ((Fr.of_ext Ec.out).trans fZ).toExt (fun q hq h => by omega)
              rw [HN.out.1, HN.out.2]
              exact ⟨_, rfl, cl_zero (Below.size eZ), eZ⟩
        · have hne : ¬ n = s.size := by
            intro e
            rw [e, ← bl_len, List.drop_length] at n2
            exact hr0 n2.symm
          have hne2 : ((n : Int) != (s.size : Int)) = true := by rw [bne_iff_ne]; omega
          have HN := Lib.hid (HNO.out (by
            cases e : parseClO s.toList with
            | none => rfl
            | some c0 =>
              obtain ⟨q1, q2⟩ := CG.out c0 (HX.out c0 e)
              rw [q2] at hz
              cases hz
              exact absurd rfl hr0))
          clear hz hr0 n2 hne
          have bz := Ra.out
          obtain ⟨z0, z1, z2, z3, z4, y0, y1, y2, y3, y4⟩ := bz
          have lz9 := Ra.out.lt
          go_wp2_with fail
          refine ret5b_set (p := 2) (q := 3) (T := 27) (b := w.heap.size) (v0 := .int .i64 0) (v1 := .int .i64 0) (v2 := .string ⟨#[]⟩) (v3 := .slice none 0 0) (v4 := .slice none 0 0) (y := .bool false) (by kernel_rfl) (fun _ => by kernel_rfl) (fun _ => by kernel_rfl) rfl rfl rfl Ra.out ?_
          intro Z fZ
          have sZ := fZ.size
          have eZ : Ext w Z := ((Fr.of_ext Ea.out).trans fZ).toExt (fun q hq h => by omega)
          rw [HN.out.1, HN.out.2]
          exact ⟨_, rfl, cl_zero (Below.size eZ), eZ⟩
    · rw [decide_eq_false h58] at heq
      obtain ⟨Z, hZ⟩ : ∃ Z, Z = TX.map Prod.snd := ⟨_, rfl⟩
      obtain ⟨ts, hts⟩ : ∃ ts : List Tm, ts = [] := ⟨_, rfl⟩
      have CG := Lib.hid (show ∀ c0, clauseG (termF true F 3 1) (s.size + 7) s.toList = some (c0, [46]) → c0 = ⟨t, ts⟩ ∧ Z = some [46] from by
        intro c0 hc
        unfold clauseG at hc
        rw [← HTX.out] at hc
        cases e : TX with
        | none => rw [e] at hc; cases hc
        | some p =>
          obtain ⟨t', r'⟩ := p
          have htt := X1.out t' r' e
          subst htt
          rw [e] at hc h58 hZ
          have hb : hdB (isB 58) (some r') = false := by
            cases hb : hdB (isB 58) (some r') with
            | false => rfl
            | true =>
              exact absurd (by
                cases r' with
                | nil => cases hb
                | cons c q => rw [show c = 58 by simpa [hdB, isB] using hb]; rfl) h58
          simp only [body_no hb] at hc
          cases hc
          exact ⟨by rw [hts], hZ⟩)
      have HV0 : (Value.slice none 0 0) = .slice none ts.length 0 := by rw [hts]; rfl
      have B2 := Lib.hid (show OwnS (fun b => w1.heap.size + 1 ≤ b ∧ b < w2.heap.size) ts (.slice none ts.length 0) w2 by rw [hts]; exact OwnS.nil _ _)
      rw [HV0] at C2
      rw [← hZ] at D2
      have htsl : ts.length ≤ 1048576 := by rw [hts]; simp
      clear h58 hts HV0 hZ
      go_wp2_with fail
      refine N.out.mono ?_
      rintro e w3 ⟨rfl, e3⟩
      have E3 := Lib.hid (E2.out.trans e3)
      have R3 := Lib.hid (R2.out.ext e3)
      have C3 := Lib.hid (C2.out.ext e3)
      have V3 := Lib.hid (own_ext1 V2.out e3)
      have B3 := Lib.hid (B2.out.mono (F' := fun b => w1.heap.size + 1 ≤ b ∧ b < w3.heap.size) (fun b hb => ⟨hb.1, by have h2 := hb.2; have := Below.size e3; omega⟩) (Fr.of_ext (M := fun _ => False) e3) (fun _ _ h => h))
      have D3 := Lib.hid (D2.out.ext e3)
      have E := E3; have R := R3; have C := C3; have V := V3; have B := B3; have D := D3
      clear e3 E3 R3 C3 V3 B3 D3 E2 R2 C2 V2 B2 D2
      have SK := Lib.hid (implskip (b := 46) (m := 46) hs4 (by decide) rfl D.out)
      go_wp2_with fail
      refine SK.out.mono ?_
      rintro e wa ⟨⟨vv, rfl⟩, fa, hda⟩
      have sa := fa.size
      have Ea := Lib.hid (((Fr.of_ext E.out).trans fa).toExt (fun q hq h => by omega))
      have Ra := Lib.hid (R.out.fr fa (by omega))
      have Ca := Lib.hid (C.out.fr fa (by omega))
      have Va := Lib.hid (own_mono (F' := fun b => w.heap.size + 2 ≤ b ∧ b < w1.heap.size) (fun b hb => hb) fa (fun b hb h => by omega) _ _ V.out)
      have Ba := Lib.hid (B.out.mono (F' := fun b => w1.heap.size + 1 ≤ b ∧ b < wa.heap.size) (fun b hb => ⟨hb.1, by omega⟩) fa (fun b hb h => by omega))
      have Da := Lib.hid hda
      clear fa hda
      have la := Da.out.lt
      cases hz : skipX 46 Z with
      | none =>
        have HN := Lib.hid (HNO.out (by
          cases e : parseClO s.toList with
          | none => rfl
          | some c0 =>
            obtain ⟨q1, q2⟩ := CG.out c0 (HX.out c0 e)
            rw [q2] at hz
            cases hz))
        rw [hz] at Da
        obtain ⟨ib, bad, hbad, hbx⟩ := Da.out.bad
        obtain ⟨c0, c1, c2, c3, f0, f1, f2, f3⟩ := hbx
        clear hz
        have bz := Ra.out
        obtain ⟨z0, z1, z2, z3, z4, y0, y1, y2, y3, y4⟩ := bz
        have lz9 := Ra.out.lt
        go_wp2_with fail
        refine ret5b_set (p := 2) (q := 3) (T := 27) (b := w.heap.size) (v0 := .int .i64 0) (v1 := .int .i64 0) (v2 := .string ⟨#[]⟩) (v3 := .slice none 0 0) (v4 := .slice none 0 0) (y := .bool false) (by kernel_rfl) (fun _ => by kernel_rfl) (fun _ => by kernel_rfl) rfl rfl rfl Ra.out ?_
        intro Z fZ
        have sZ := fZ.size
        have eZ : Ext w Z := ((Fr.of_ext Ea.out).trans fZ).toExt (fun q hq h => by omega)
        rw [HN.out.1, HN.out.2]
        exact ⟨_, rfl, cl_zero (Below.size eZ), eZ⟩
      | some r =>
        rw [hz] at Da
        obtain ⟨n, n1, n2, hbx⟩ := Da.out.good
        obtain ⟨c0, c1, c2, c3, f0, f1, f2, f3⟩ := hbx
        by_cases hr0 : r = []
        · subst hr0
          have hn : n = s.size := by
            have h := congrArg List.length n2
            rw [List.length_drop, bl_len] at h
            simp at h
            omega
          have hnn : ((n : Int) != (s.size : Int)) = false := by rw [hn]; exact bne_self_eq_false _
          have CAT := Lib.hid (show Cl.at (fun _ => True) wa ⟨t, ts⟩ (.agg #[.int .i64 t.kind, .int .i64 t.n, .string t.name, .slice ta t.kids.length tc, .slice none ts.length 0]) from by
            obtain ⟨xs, ho, hz, hf⟩ := Ba.out
            exact ⟨_, _, rfl, Tm.at_mono (fun _ _ => trivial) (Agree.refl _) (own_flat t ta tc Va.out), Tm.sl_mono (fun _ _ => trivial) (Agree.refl _) (own_sl ho (oflat_flat _ _ hf) htsl)⟩)
          have CVL := Lib.hid (implClauseValid ⟨t, ts⟩ _ _ wa CAT.out)
          have bc := Ca.out
          obtain ⟨d0, d1, d2, d3, d4, _, _, _, _, _⟩ := bc
          clear hn n2
          cases hv : clValidF ⟨t, ts⟩
          · rw [hv] at CVL
            have HN := Lib.hid (HNO.out (by
              cases e : parseClO s.toList with
              | none => rfl
              | some c0 =>
                obtain ⟨q1, q2⟩ := CG.out c0 (HX.out c0 e)
                have h := (parseClO_spec e).1
                rw [q1, hv] at h
                cases h))
            go_wp2_with fail
            refine CVL.out.mono ?_
            rintro e wb ⟨rfl, eb⟩
            have Eb := Lib.hid (Ea.out.trans eb)
            have Rb := Lib.hid (Ra.out.ext eb)
            clear eb
            have bz := Rb.out
            obtain ⟨z0, z1, z2, z3, z4, y0, y1, y2, y3, y4⟩ := bz
            have lz9 := Rb.out.lt
            go_wp2_with fail
            refine ret5b_set (p := 2) (q := 3) (T := 27) (b := w.heap.size) (v0 := .int .i64 0) (v1 := .int .i64 0) (v2 := .string ⟨#[]⟩) (v3 := .slice none 0 0) (v4 := .slice none 0 0) (y := .bool false) (by kernel_rfl) (fun _ => by kernel_rfl) (fun _ => by kernel_rfl) rfl rfl rfl Rb.out ?_
            intro Z fZ
            have sZ := fZ.size
            have eZ : Ext w Z := ((Fr.of_ext Eb.out).trans fZ).toExt (fun q hq h => by omega)
            rw [HN.out.1, HN.out.2]
            exact ⟨_, rfl, cl_zero (Below.size eZ), eZ⟩
          · rw [hv] at CVL
            have hcmp : ((bs (clTxt ⟨t, ts⟩)).toList == s.toList) = decide (clTxt ⟨t, ts⟩ = s.toList) := by
              rw [bs_list, Bool.eq_iff_iff, beq_iff_eq, decide_eq_true_eq]
            have hcm2 : ((bs (clTxt ⟨t, ts⟩)).toList = s.toList) = (clTxt ⟨t, ts⟩ = s.toList) := by rw [bs_list]
            have HVV := Lib.hid hv
            by_cases heq : clTxt ⟨t, ts⟩ = s.toList
            · have HN := Lib.hid (show parseCT s = ⟨t, ts⟩ ∧ parseCB s = true by
                have h2 := parseClO_some hv
                rw [heq] at h2
                exact parseC_some hk h2)
              rw [decide_eq_true heq] at hcmp
              have hcm3 : (bs (clTxt ⟨t, ts⟩)).toList = s.toList := by rw [hcm2]; exact heq
              clear heq hcm2 hv hz
              go_wp2_with fail
              refine CVL.out.mono ?_
              rintro e wb ⟨rfl, eb⟩
              have Eb := Lib.hid (Ea.out.trans eb)
              have Cb := Lib.hid (Ca.out.ext eb)
              have Rb := Lib.hid (Ra.out.ext eb)
              have CT := Lib.hid (implclauseText ⟨t, ts⟩ _ _ wb HVV.out (Cl.at_ext eb CAT.out) (HLG.out.ext Eb.out).1)
              clear d0 d1 d2 d3 d4
              have bc := Cb.out
              obtain ⟨d0, d1, d2, d3, d4, _, _, _, _, _⟩ := bc
              go_wp2_with fail
              refine CT.out.mono ?_
              rintro e wc ⟨rfl, ec⟩
              have Ec := Lib.hid (Eb.out.trans ec)
              have Cc := Lib.hid (Cb.out.ext ec)
              have Rc := Lib.hid (Rb.out.ext ec)
              have Vc := Lib.hid (own_ext1 (own_ext1 Va.out eb) ec)
              have Bc := Lib.hid (Ba.out.mono (F' := fun b => w1.heap.size + 1 ≤ b ∧ b < wc.heap.size) (fun b hb => ⟨hb.1, by have h2 := hb.2; have := Below.size eb; have := Below.size ec; omega⟩) (Fr.of_ext (M := fun _ => False) (eb.trans ec)) (fun _ _ h => h))
              have sc := Below.size (eb.trans ec)
              have lcc := Cc.out.lt
              clear eb ec d0 d1 d2 d3 d4
              have bc := Cc.out
              obtain ⟨d0, d1, d2, d3, d4, _, _, _, _, _⟩ := bc
              have bz := Rc.out
              obtain ⟨z0, z1, z2, z3, z4, y0, y1, y2, y3, y4⟩ := bz
              have lz9 := Rc.out.lt
              go_wp2_with fail
              refine ret5b_set (p := 2) (q := 3) (T := 27) (b := w.heap.size) (y := .bool true) (by kernel_rfl) (fun _ => by kernel_rfl) (fun _ => by kernel_rfl) rfl rfl rfl Rc.out ?_
              intro Z fZ
              have sZ := fZ.size
              rw [HN.out.1, HN.out.2]
              exact ⟨_, rfl, ⟨ta, tc, none, 0, w1.heap.size + 1, rfl, own_mono (fun b hb => ⟨by have h1 := hb.1; omega, by have h2 := hb.2; omega⟩) fZ (fun b hb h => by omega) _ _ Vc.out, Bc.out.mono (fun b hb => ⟨hb.1, by have h2 := hb.2; omega⟩) fZ (fun b hb h => by have h1 := hb.1; omega), by omega, by omega⟩, ((Fr.of_ext Ec.out).trans fZ).toExt (fun q hq h => by omega)⟩
            · have HN := Lib.hid (HNO.out (by
                cases e : parseClO s.toList with
                | none => rfl
                | some c0 =>
                  obtain ⟨q1, q2⟩ := CG.out c0 (HX.out c0 e)
                  have h := (parseClO_spec e).2
                  rw [q1] at h
                  exact absurd h heq))
              rw [decide_eq_false heq] at hcmp
              have hcm3 : ¬ (bs (clTxt ⟨t, ts⟩)).toList = s.toList := by rw [hcm2]; exact heq
              clear heq hcm2 hv hz
              go_wp2_with fail
              refine CVL.out.mono ?_
              rintro e wb ⟨rfl, eb⟩
              have Eb := Lib.hid (Ea.out.trans eb)
              have Cb := Lib.hid (Ca.out.ext eb)
              have Rb := Lib.hid (Ra.out.ext eb)
              have CT := Lib.hid (implclauseText ⟨t, ts⟩ _ _ wb HVV.out (Cl.at_ext eb CAT.out) (HLG.out.ext Eb.out).1)
              clear d0 d1 d2 d3 d4
              have bc := Cb.out
              obtain ⟨d0, d1, d2, d3, d4, _, _, _, _, _⟩ := bc
              go_wp2_with fail
              refine CT.out.mono ?_
              rintro e wc ⟨rfl, ec⟩
              have Ec := Lib.hid (Eb.out.trans ec)
              have Cc := Lib.hid (Cb.out.ext ec)
              have Rc := Lib.hid (Rb.out.ext ec)
              clear eb ec
              have bz := Rc.out
              obtain ⟨z0, z1, z2, z3, z4, y0, y1, y2, y3, y4⟩ := bz
              have lz9 := Rc.out.lt
              go_wp2_with fail
              refine ret5b_set (p := 2) (q := 3) (T := 27) (b := w.heap.size) (v0 := .int .i64 0) (v1 := .int .i64 0) (v2 := .string ⟨#[]⟩) (v3 := .slice none 0 0) (v4 := .slice none 0 0) (y := .bool false) (by kernel_rfl) (fun _ => by kernel_rfl) (fun _ => by kernel_rfl) rfl rfl rfl Rc.out ?_
              intro Z fZ
              have sZ := fZ.size
              have eZ : Ext w Z := ((Fr.of_ext Ec.out).trans fZ).toExt (fun q hq h => by omega)
              rw [HN.out.1, HN.out.2]
              exact ⟨_, rfl, cl_zero (Below.size eZ), eZ⟩
        · have hne : ¬ n = s.size := by
            intro e
            rw [e, ← bl_len, List.drop_length] at n2
            exact hr0 n2.symm
          have hne2 : ((n : Int) != (s.size : Int)) = true := by rw [bne_iff_ne]; omega
          have HN := Lib.hid (HNO.out (by
            cases e : parseClO s.toList with
            | none => rfl
            | some c0 =>
              obtain ⟨q1, q2⟩ := CG.out c0 (HX.out c0 e)
              rw [q2] at hz
              cases hz
              exact absurd rfl hr0))
          clear hz hr0 n2 hne
          have bz := Ra.out
          obtain ⟨z0, z1, z2, z3, z4, y0, y1, y2, y3, y4⟩ := bz
          have lz9 := Ra.out.lt
          go_wp2_with fail
          refine ret5b_set (p := 2) (q := 3) (T := 27) (b := w.heap.size) (v0 := .int .i64 0) (v1 := .int .i64 0) (v2 := .string ⟨#[]⟩) (v3 := .slice none 0 0) (v4 := .slice none 0 0) (y := .bool false) (by kernel_rfl) (fun _ => by kernel_rfl) (fun _ => by kernel_rfl) rfl rfl rfl Ra.out ?_
          intro Z fZ
          have sZ := fZ.size
          have eZ : Ext w Z := ((Fr.of_ext Ea.out).trans fZ).toExt (fun q hq h => by omega)
          rw [HN.out.1, HN.out.2]
          exact ⟨_, rfl, cl_zero (Below.size eZ), eZ⟩
  · have hk1 : (1000 : Int) < (s.size : Int) := by omega
    have HN := Lib.hid (show parseCT s = ⟨.mk 0 0 ⟨#[]⟩ [], []⟩ ∧ parseCB s = false from parseC_no (by unfold parseC; rw [if_neg hk]))
    go_enter Tryz.func14, Tryz.ntmps14
    go_upto_region 1 with (fail)
    obtain ⟨wa, hwa⟩ : ∃ z, z = w.alloc (.cells #[.int .i64 0, .int .i64 0, .string ⟨#[]⟩, .slice none 0 0, .slice none 0 0] 27) := ⟨_, rfl⟩
    rw [← hwa] at ZR ZE ⊢
    clear hwa
    have bz := ZR.out
    obtain ⟨z0, z1, z2, z3, z4, y0, y1, y2, y3, y4⟩ := bz
    have lz9 := ZR.out.lt
    go_wp2_with fail
    refine ret5b_set (p := 2) (q := 3) (T := 27) (b := w.heap.size) (v0 := .int .i64 0) (v1 := .int .i64 0) (v2 := .string ⟨#[]⟩) (v3 := .slice none 0 0) (v4 := .slice none 0 0) (y := .bool false) (by kernel_rfl) (fun _ => by kernel_rfl) (fun _ => by kernel_rfl) rfl rfl rfl ZR.out ?_
    intro Z fZ
    have sZ := fZ.size
    have eZ : Ext w Z := ((Fr.of_ext ZE.out).trans fZ).toExt (fun q hq h => by omega)
    rw [HN.out.1, HN.out.2]
    exact ⟨_, rfl, cl_zero (Below.size eZ), eZ⟩
end Go.Proofs.YtognkaebiafgbaaGreatDoor
