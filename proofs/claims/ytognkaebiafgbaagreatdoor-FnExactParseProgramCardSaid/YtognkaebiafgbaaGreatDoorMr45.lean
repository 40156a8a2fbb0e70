/-
  The program's reader: term.
-/
import Derived.Test.YtognkaebiafgbaaGreatDoorMr44
namespace Go.Proofs.YtognkaebiafgbaaGreatDoor
open Go.RowKit
set_option linter.unusedVariables false
theorem loop_end {F : Nat} {level mine : Int} {deep : Nat} {t : Tm} {r : List UInt8} (h : opP r = [] ∨ level < opLevelF (opP r) ∨ leftM (opP r) < mine) : loopF true (F + 1) level deep mine t r = some (t, r) := by
  rw [loopF, if_pos h]
theorem loop_none {F : Nat} {level mine : Int} {deep : Nat} {t : Tm} {r : List UInt8} (h : ¬ (opP r = [] ∨ level < opLevelF (opP r) ∨ leftM (opP r) < mine)) (e : termF true F (opLevelF (opP r) - 1) deep (r.drop (spaced (opP r)).length) = none) : loopF true (F + 1) level deep mine t r = none := by
  rw [loopF, if_neg h, e]
theorem loop_more {F : Nat} {level mine : Int} {deep : Nat} {t u : Tm} {r q : List UInt8} (h : ¬ (opP r = [] ∨ level < opLevelF (opP r) ∨ leftM (opP r) < mine)) (e : termF true F (opLevelF (opP r) - 1) deep (r.drop (spaced (opP r)).length) = some (u, q)) : loopF true (F + 1) level deep mine t r = loopF true F level deep (opLevelF (opP r)) (sT (bs (opP r)) [t, u]) q := by
  rw [loopF, if_neg h, e]
theorem term_len {F : Nat} {level : Int} {deep : Nat} {rest : List UInt8} {t : Tm} {r : List UInt8} (h : termF true F level deep rest = some (t, r)) : r.length < rest.length := (len_all F).2.2.2.1 _ _ _ _ _ _ h
theorem prim_len {o : Bool} {F : Nat} {deep : Nat} {rest : List UInt8} {t : Tm} {r : List UInt8} (h : primF o F deep rest = some (t, r)) : r.length < rest.length := (len_all F).1 _ _ _ _ _ h
theorem bs_nil_eq (l : List UInt8) : (bs l).toList.isEmpty = decide (l = []) := by
  rw [bs_list]
  cases l <;> rfl
set_option maxRecDepth 100000 in
set_option maxHeartbeats 16000000 in
theorem rdterm (F : Nat) (hP : PriC true F) (hT : ∀ G, G < F + 1 → TerC G) : TerC (F + 1) := by
  intro rb s level deep rest w hs hl0 hl3 hdeep hL h hF
  have hlt := h.lt
  have H := Lib.hid h
  have HL := Lib.hid hL
  have HT := Lib.hid hT
  have HP := Lib.hid (hP rb s deep rest (w.alloc (.cells #[.int .i64 0, .int .i64 0, .string ⟨#[]⟩, .slice none 0 0] 25)) hs hdeep (hL.ext (Ext.alloc _ _)) (h.ext (Ext.alloc _ _)) (by omega))
  obtain ⟨X, hX⟩ : ∃ X, termF true (F + 1) level deep rest = X := ⟨_, rfl⟩
  rw [hX]
  have HX0 := Lib.hid hX
  clear h hL hP hT hX
  go_enter Tryz.func57, Tryz.ntmps57
  go_wp2_with fail
  refine HP.out.mono ?_
  rintro e w1 ⟨t1, ta1, tc1, rfl, ho1, f1, hr1, hX1⟩
  have W1 := Lib.hid ((Fr.alloc (M := fun k => k = rb) w (.cells #[.int .i64 0, .int .i64 0, .string ⟨#[]⟩, .slice none 0 0] 25)).trans f1)
  have HZ1 := Lib.hid ((BoxT.new w (.int .i64 0) (.int .i64 0) (.string ⟨#[]⟩) (.slice none 0 0) 25 rfl).fr f1 (by omega))
  have lz1 := HZ1.out.lt
  have O1 := Lib.hid ho1
  have R1 := Lib.hid hr1
  have HX1 := Lib.hid hX1
  obtain ⟨tb, htb⟩ : ∃ z, z = w1.heap.size := ⟨_, rfl⟩
  have hY : ∃ (Y : Option (List UInt8)) (g0 : Nat), (primF true F deep rest).map Prod.snd = Y ∧ ((∀ r, Y = some r → ∃ G, G ≤ F ∧ g0 = r.length + 1 ∧ 4 * r.length + 2 ≤ G ∧ loopF true G level deep 0 t1 r = X) ∧ (Y = none → g0 = 0 ∧ X = none)) := by
    cases e : primF true F deep rest with
    | none =>
      refine ⟨none, 0, rfl, (fun r h => by cases h), fun _ => ⟨rfl, ?_⟩⟩
      rw [← HX0.out, termF, e]
    | some p =>
      obtain ⟨u, r⟩ := p
      have hu : t1 = u := HX1.out u r e
      have hlen := prim_len e
      refine ⟨some r, r.length + 1, rfl, (fun r' h => ?_), fun h => by cases h⟩
      cases h
      refine ⟨F, Nat.le_refl _, rfl, by omega, ?_⟩
      rw [← HX0.out, termF, e, hu]
  obtain ⟨Y0, g0, hY0, hY1⟩ := hY
  rw [hY0] at R1
  have HY1 := Lib.hid hY1
  clear ho1 f1 hr1 hX1 hY0 hY1
  go_wp2_with fail
  go_loopg [8] g0 (fun g mv wr => ∃ (t : Tm) (ta : Option Addr) (tc : Nat) (mine : Int), mv = .int .i64 mine ∧
    Hid (Tm.own (fun b => (w.heap.size + 1 ≤ b ∧ b ≠ w1.heap.size) ∧ b < wr.heap.size) wr t (.slice ta t.kids.length tc)) ∧ Hid (Fr (fun k => k = rb) w wr) ∧ Hid (BoxT wr w.heap.size (.int .i64 0) (.int .i64 0) (.string ⟨#[]⟩) (.slice none 0 0)) ∧
    Hid (BoxT wr w1.heap.size (.int .i64 t.kind) (.int .i64 t.n) (.string t.name) (.slice ta t.kids.length tc)) ∧
    Hid (∃ Y, RdW rb s true Y wr ∧ (∀ r, Y = some r → ∃ G, G ≤ F ∧ g = r.length + 1 ∧ 4 * r.length + 2 ≤ G ∧ loopF true G level deep mine t r = X) ∧ (Y = none → g = 0 ∧ X = none)))
  case atStart =>
    refine ⟨t1, ta1, tc1, 0, rfl, Lib.hid ?_, Lib.hid (W1.out.trans (Fr.alloc _ _)), Lib.hid (HZ1.out.ext (Ext.alloc _ _)), Lib.hid (BoxT.new _ _ _ _ _ 25 rfl), Lib.hid ⟨Y0, R1.out.ext (Ext.alloc _ _), HY1.out.1, HY1.out.2⟩⟩
    refine own_zone (own_ext1 (own_bound _ _ O1.out) (Ext.alloc _ _)) (fun b hb => ?_)
    have h1 : (w.alloc (.cells #[.int .i64 0, .int .i64 0, .string ⟨#[]⟩, .slice none 0 0] 25)).heap.size ≤ b := hb.1
    simp at h1
    have h2 := hb.2
    refine ⟨⟨h1, by omega⟩, by simp; omega⟩
  case round =>
    obtain ⟨t, ta, tc, mine, rfl, HO, HF, HZ, HTB, HQ⟩ := hrel
    obtain ⟨Y, hR, hq1, hq2⟩ := HQ.out
    have lz := HZ.out.lt
    have lt := HTB.out.lt
    have HR := Lib.hid hR
    have OPR := Lib.hid (rdoperator hs hR)
    have z := HZ.out
    obtain ⟨z0, z1, z2, z3, y0, y1, y2, y3⟩ := z
    have tbx := HTB.out
    obtain ⟨m0, m1, m2, m3, n0, n1, n2, n3⟩ := tbx
    have hend : ∀ w2, Ext wr w2 → (opX Y = [] ∨ level < opLevelF (opX Y) ∨ leftM (opX Y) < mine) → RdW rb s true (X.map Prod.snd) w2 ∧ ∀ u r, X = some (u, r) → t = u := by
      intro w2 e2 hc
      cases Y with
      | none =>
        rw [(hq2 rfl).2]
        exact ⟨hR.ext e2, fun u r h => by cases h⟩
      | some r =>
        obtain ⟨G, _, _, h4, hx⟩ := hq1 r rfl
        obtain ⟨G, rfl⟩ : ∃ x, G = x + 1 := ⟨G - 1, by omega⟩
        rw [loop_end hc] at hx
        rw [← hx]
        exact ⟨hR.ext e2, fun u r h => by cases h; rfl⟩
    have HEND := Lib.hid hend
    have hl3' := op_le3 (opX Y)
    have hl0' := opLevel_nn (opX Y)
    clear z0 z1 z2 z3 y0 y1 y2 y3 m0 m1 m2 m3 n0 n1 n2 n3 hend hR HQ
    have HQ1 := Lib.hid hq1
    clear hq1 hq2
    go_wp2_with fail
    refine OPR.out.mono ?_
    rintro e w2 ⟨rfl, e2⟩
    have Z2 := Lib.hid (HZ.out.ext e2)
    have T2 := Lib.hid (HTB.out.ext e2)
    have W2 := Lib.hid (HF.out.trans (Fr.of_ext e2))
    have O2 := Lib.hid (own_ext1 HO.out e2)
    have R2 := Lib.hid (HR.out.ext e2)
    have s2 := Below.size e2
    have lz2 := Z2.out.lt
    have lt2 := T2.out.lt
    have z := Z2.out
    obtain ⟨z0, z1, z2, z3, y0, y1, y2, y3⟩ := z
    have tbx := T2.out
    obtain ⟨m0, m1, m2, m3, n0, n1, n2, n3⟩ := tbx
    go_wp2_with fail
    refine (implOpLevel _ _).mono ?_
    rw [bs_list]
    rintro e w2' ⟨rfl, rfl⟩
    have heq := bs_nil_eq (opX Y)
    have heq2 : ((bs (opX Y)).toList = []) = (opX Y = []) := by rw [bs_list]
    obtain ⟨N, hN⟩ : ∃ N, opX Y = N := ⟨_, rfl⟩
    obtain ⟨L, hLv⟩ : ∃ L, opLevelF N = L := ⟨_, rfl⟩
    rw [hN] at heq heq2 hl3' hl0' HEND ⊢
    rw [hLv] at hl3' hl0' HEND ⊢
    by_cases hstop : N = []
    · rw [decide_eq_true hstop] at heq
      have HS := Lib.hid (HEND.out w2 e2 (.inl hstop))
      have heq3 : (bs N).toList = [] := by rw [heq2]; exact hstop
      clear hstop heq2
      go_wp2_with fail
      exact rd_ret (p := 6) (T := 25) (b := w.heap.size) (t := t) (ta := ta) (tc := tc) (by kernel_rfl) (fun _ => by kernel_rfl) (fun _ => by kernel_rfl) rfl rfl Z2.out (Nat.le_refl _) (by omega) W2.out O2.out (fun k hk => by have := hk.1; omega) HS.out.1 HS.out.2
    · rw [decide_eq_false hstop] at heq
      have heq3 : ¬ (bs N).toList = [] := by rw [heq2]; exact hstop
      clear heq2
      by_cases hlev : level < L
      · have HS := Lib.hid (HEND.out w2 e2 (.inr (.inl hlev)))
        clear hstop
        go_wp2_with fail
        exact rd_ret (p := 6) (T := 25) (b := w.heap.size) (t := t) (ta := ta) (tc := tc) (by kernel_rfl) (fun _ => by kernel_rfl) (fun _ => by kernel_rfl) rfl rfl Z2.out (Nat.le_refl _) (by omega) W2.out O2.out (fun k hk => by have := hk.1; omega) HS.out.1 HS.out.2
      · obtain ⟨r, hr⟩ : ∃ r, Y = some r := by
          cases Y with
          | none => exact absurd hN.symm hstop
          | some r => exact ⟨r, rfl⟩
        subst hr
        have hN' : opP r = N := hN
        have hop := opP_facts (r := r) (by rw [hN']; exact hstop)
        rw [hN', hLv] at hop
        obtain ⟨hpre, hLpos⟩ := hop
        have LM := Lib.hid (implleftMost (bs N) w2 (by rw [bs_list, hLv]; exact hLpos))
        rw [bs_list] at LM
        obtain ⟨M, hM⟩ : ∃ M, leftM N = M := ⟨_, rfl⟩
        rw [hM] at LM HEND
        by_cases hmine : M < mine
        · have HS0 := Lib.hid (fun w3 (e3 : Ext w2 w3) => HEND.out w3 (e2.trans e3) (.inr (.inr hmine)))
          clear hstop hN hN' hpre
          go_wp2_with fail
          refine LM.out.mono ?_
          rintro e w3 ⟨rfl, e3⟩
          have HS := Lib.hid (HS0.out w3 e3)
          have Z3 := Lib.hid (Z2.out.ext e3)
          have T3 := T2.out.ext e3
          have W3 := Lib.hid (W2.out.trans (Fr.of_ext e3))
          have O3 := Lib.hid (own_ext1 O2.out e3)
          have lz3 := Z3.out.lt
          have z := Z3.out
          clear z0 z1 z2 z3 y0 y1 y2 y3 m0 m1 m2 m3 n0 n1 n2 n3
          obtain ⟨z0, z1, z2, z3, y0, y1, y2, y3⟩ := z
          obtain ⟨m0, m1, m2, m3, n0, n1, n2, n3⟩ := T3
          go_wp2_with fail
          exact rd_ret (p := 6) (T := 25) (b := w.heap.size) (t := t) (ta := ta) (tc := tc) (by kernel_rfl) (fun _ => by kernel_rfl) (fun _ => by kernel_rfl) rfl rfl Z3.out (Nat.le_refl _) (by omega) W3.out O3.out (fun k hk => by have := hk.1; omega) HS.out.1 HS.out.2
        · obtain ⟨G, hG, hg, h4, hx⟩ := HQ1.out r rfl
          obtain ⟨G, rfl⟩ : ∃ x, G = x + 1 := ⟨G - 1, by omega⟩
          obtain ⟨p, hp⟩ : ∃ p, spaced N = p := ⟨_, rfl⟩
          have hNl : N.length ≤ p.length := by rw [← hp]; exact spaced_ge N
          have hN1 : 1 ≤ N.length := List.length_pos_iff.2 hstop
          have hOT := implopText (bs N)
          rw [bs_list, hp] at hOT
          rw [hp] at hpre
          have hpl := (List.isPrefixOf_iff_prefix.1 hpre).length_le
          have HPRE := Lib.hid hpre
          have hns : ¬ (opP r = [] ∨ level < opLevelF (opP r) ∨ leftM (opP r) < mine) := by
            rw [hN', hLv, hM]
            rintro (h | h | h)
            · exact hstop h
            · exact hlev h
            · exact hmine h
          have hdl : (r.drop p.length).length = r.length - p.length := List.length_drop
          have hst : ∀ u : Tm, (∀ u' q, termF true G (L - 1) deep (r.drop p.length) = some (u', q) → u = u') → ∃ (Y' : Option (List UInt8)) (g' : Nat), (termF true G (L - 1) deep (r.drop p.length)).map Prod.snd = Y' ∧ g' < r.length + 1 ∧
              (∀ q, Y' = some q → ∃ G', G' ≤ F ∧ g' = q.length + 1 ∧ 4 * q.length + 2 ≤ G' ∧ loopF true G' level deep L (sT (bs N) [t, u]) q = X) ∧ (Y' = none → g' = 0 ∧ X = none) := by
            intro u hu
            cases e : termF true G (L - 1) deep (r.drop p.length) with
            | none =>
              refine ⟨none, 0, rfl, by omega, (fun q h => by cases h), fun _ => ⟨rfl, ?_⟩⟩
              rw [← hx]
              refine loop_none hns ?_
              rw [hN', hLv, hp]
              exact e
            | some pr =>
              obtain ⟨u', q⟩ := pr
              have hlen := term_len e
              have huu := hu u' q e
              refine ⟨some q, q.length + 1, rfl, by omega, (fun q' h => ?_), fun h => by cases h⟩
              cases h
              refine ⟨G, by omega, rfl, by omega, ?_⟩
              rw [← hx]
              have e' : termF true G (opLevelF (opP r) - 1) deep (r.drop (spaced (opP r)).length) = some (u, q) := by rw [hN', hLv, hp, huu]; exact e
              rw [loop_more hns e', hN', hLv]
          have HST := Lib.hid hst
          have R2s := R2.out
          have HOT := Lib.hid hOT
          have hNsz : (bs N).size ≤ 1048576 := by
            rw [bs_size]
            have := R2s.len
            omega
          have rl := R2s.len
          clear hst hns hx hN' hstop hpre HQ1 HEND hp hM hOT
          subst hg
          go_wp2_with fail
          refine LM.out.mono ?_
          rintro e w3 ⟨rfl, e3⟩
          have Z3 := Lib.hid (Z2.out.ext e3)
          have T3 := Lib.hid (T2.out.ext e3)
          have W3 := Lib.hid (W2.out.trans (Fr.of_ext e3))
          have O3 := Lib.hid (own_ext1 O2.out e3)
          have R3 := R2s.ext e3
          have s3 := Below.size e3
          obtain ⟨n', n1', n2', nb⟩ := R3.good
          have NB := Lib.hid nb
          have NN := Lib.hid n2'
          have hrl : n' + r.length = s.size := by
            have := congrArg List.length n2'
            rw [List.length_drop, bl_len] at this
            omega
          have ltr := nb.lt
          obtain ⟨c0, c1, c2, c3, f0, f1, f2, f3⟩ := nb
          have OT := Lib.hid (fun w' (e' : Ext w3 w') => HOT.out w' hNsz)
          have hps : n' + (bs p).size ≤ 4000 := by rw [bs_size]; omega
          clear z0 z1 z2 z3 y0 y1 y2 y3 m0 m1 m2 m3 n0 n1 n2 n3 n2' R3 R2s e3
          have hwr : IntKind.i64.wrap ((n' : Int) + ((bs p).size : Int)) = (n' : Int) + ((bs p).size : Int) := by rw [IntKind.wrap_i64]; omega
          go_wp2_with fail
          go_region_law (first
            | (go_simp; go_at_call 104; refine (OT.out _ ?_).mono ?_; (first | exact Ext.refl _ | exact Ext.drew _); rintro e w4 ⟨rfl, e4⟩; (try replace e4 := Ext.undrew e4); have E4 := Lib.hid e4; have d1 := E4.out.cell c1; have g1 := E4.out.frozen ltr f1; have s4 := Below.size E4.out; have ltr4 := Nat.lt_of_lt_of_le ltr s4; clear e4; dsimp only))
          all_goals
            obtain ⟨wS, hwS⟩ : ∃ z, z = w4.setCell ⟨rb, 1, none⟩ (.int .i64 ((n' : Int) + ((bs p).size : Int))) := ⟨_, rfl⟩
            have fS : Fr (fun k => k = rb) w4 wS := by rw [hwS]; exact Fr.setCell w4 rfl
            have RS := Lib.hid (show RdW rb s true (some (r.drop p.length)) wS by rw [hwS]; exact RdW.fwd (NB.out.ext E4.out) n1' NN.out HPRE.out (by rw [bs_size]))
            rw [← hwS]
            have fS3 : Fr (fun k => k = rb) w3 wS := (Fr.of_ext E4.out).trans fS
            have ZS := Lib.hid (Z3.out.fr fS3 (by omega))
            have TS := Lib.hid (T3.out.fr fS3 (by omega))
            have WS := Lib.hid (W3.out.trans fS3)
            have OS := Lib.hid (own_mono (F' := fun b => (w.heap.size + 1 ≤ b ∧ b ≠ w1.heap.size) ∧ b < wr.heap.size) (fun b hb => hb) fS3 (fun b hb e => by have := hb.1; omega) _ _ O3.out)
            have sS : w3.heap.size ≤ wS.heap.size := fS3.size
            have C := Lib.hid (HT.out G (by omega) rb s (L - 1) deep (r.drop p.length) wS hs (by omega) (by omega) hdeep (HL.out.fr WS.out) RS.out (by omega))
            clear hwS fS fS3
            go_wp2_with fail
            refine C.out.mono ?_
            rintro e w5 ⟨u, ua, uc, rfl, ho5, f5, hr5, hX5⟩
            obtain ⟨Y', g', hY', hgl, hs1, hs2⟩ := HST.out u hX5
            rw [hY'] at hr5
            have Z5 := Lib.hid (ZS.out.fr f5 (by omega))
            have T5 := Lib.hid (TS.out.fr f5 (by omega))
            have W5 := Lib.hid (WS.out.trans f5)
            have O5 := Lib.hid (own_mono (F' := fun b => (w.heap.size + 1 ≤ b ∧ b ≠ w1.heap.size) ∧ b < wr.heap.size) (fun b hb => hb) f5 (fun b hb e => by have := hb.1; omega) _ _ OS.out)
            have U5 := Lib.hid ho5
            have R5 := Lib.hid hr5
            have s5 := f5.size
            have HS1 := Lib.hid hs1
            have HS2 := Lib.hid hs2
            have tbx := T5.out
            have lt5 := tbx.lt
            obtain ⟨m0, m1, m2, m3, n0, n1, n2, n3⟩ := tbx
            clear ho5 hr5 hX5 hs1 hs2 hY' f5
            go_wp2_with fail
            go_roundg g'
            case measure => omega
            case rel =>
              obtain ⟨wP, hwP⟩ : ∃ z, z = ((((w5.setCell ⟨w1.heap.size, 0, none⟩ (.int .i64 3)).setCell ⟨w1.heap.size, 1, none⟩ (.int .i64 0)).setCell ⟨w1.heap.size, 2, none⟩ (.string (bs N))).setCell ⟨w1.heap.size, 3, none⟩ (.slice (some ⟨w5.heap.size + 1, 0, none⟩) 2 2)) := ⟨_, rfl⟩
              have fP : Fr (fun k => k = w1.heap.size) w5 wP := by rw [hwP]; exact put4_frw (M := fun k => k = w1.heap.size) w5 _ _ _ _ rfl
              have TP := Lib.hid (show BoxT wP w1.heap.size (.int .i64 3) (.int .i64 0) (.string (bs N)) (.slice (some ⟨w5.heap.size + 1, 0, none⟩) 2 2) by rw [hwP]; exact T5.out.put4 _ _ _ _)
              have hPs : wP.heap.size = w5.heap.size := by rw [hwP]; simp [World.setCell]
              rw [← hwP]
              clear hwP
              have OP := own_mono (F' := fun b => (w.heap.size + 1 ≤ b ∧ b ≠ w1.heap.size) ∧ b < wr.heap.size) (fun b hb => hb) fP (fun b hb e => hb.1.2 e) _ _ O5.out
              have UP := own_mono (F' := fun b => wS.heap.size ≤ b) (fun b hb => hb) fP (fun b hb e => by have hb' : wS.heap.size ≤ b := hb; omega) _ _ U5.out
              have eR : Ext wP ((wP.alloc (.cells #[.int .i64 u.kind, .int .i64 u.n, .string u.name, .slice ua u.kids.length uc] 25)).alloc (.cells #[.int .i64 t.kind, .int .i64 t.n, .string t.name, .slice ta t.kids.length tc, .int .i64 u.kind, .int .i64 u.n, .string u.name, .slice ua u.kids.length uc] 25)) := (Ext.alloc _ _).trans (Ext.alloc _ _)
              have hrow := (owns_two (g := w5.heap.size + 1) OP UP (fun b h1 h2 => by have h3 := h1.2; have h4' : wS.heap.size ≤ b := h2; omega) eR (by omega) (alloc_at _ _ (by simp; omega))).bound
              have fW : Fr (fun k => k = rb) w ((wP.alloc (.cells #[.int .i64 u.kind, .int .i64 u.n, .string u.name, .slice ua u.kids.length uc] 25)).alloc (.cells #[.int .i64 t.kind, .int .i64 t.n, .string t.name, .slice ta t.kids.length tc, .int .i64 u.kind, .int .i64 u.n, .string u.name, .slice ua u.kids.length uc] 25)) := ((W5.out.mono (M' := fun k => k = rb ∨ k = w1.heap.size) (fun k _ h => .inl h)).trans ((fP.mono (fun k _ h => .inr h)).trans (Fr.of_ext eR))).mono (fun k hk h => by rcases h with h | h; exact h; omega)
              refine ⟨sT (bs N) [t, u], some ⟨w5.heap.size + 1, 0, none⟩, 2, L, rfl, Lib.hid (own_sT hNsz (by simp) (hrow.mono (M := fun _ => False) (fun b hb => ⟨?_, hb.2⟩) (Fr.refl _ _) (fun _ _ h => h))), Lib.hid fW, Lib.hid ((Z5.out.fr fP (by omega)).ext eR), Lib.hid (TP.out.ext eR), Lib.hid ⟨Y', (R5.out.fr fP (by omega)).ext eR, HS1.out, HS2.out⟩⟩
              rcases hb.1 with h | h | h
              · exact h.1
              · have h' : wS.heap.size ≤ b := h
                omega
              · omega
end Go.Proofs.YtognkaebiafgbaaGreatDoor
