/-
  Instances: the reference's l3Match.
-/
import Derived.Deep.RegionHeld3
import Derived.Test.YteplfajhmpmklaaMg51
import Derived.Test.YteplfajhmpmklaaMg32
namespace Go.Proofs.Yteplfajhmpmklaa
open Go.RowKit
set_option linter.unusedVariables false

set_option maxRecDepth 100000 in
set_option maxHeartbeats 4000000 in
theorem specl3Match : ∀ (m : Nat) (t u : Tm) (K : List Tm) (v v' : Value) (S : Nat → Prop) (w : World) (kb d : Nat), Tm.sz t ≤ m → shapeF t d = true → Tm.at S w t v → Tm.at S w u v' → Kn S w kb K →
    Calls Try.prog 41 #[v, v', .slice (some ⟨kb, 0, none⟩) 26 26] w fun e w' => e = .returned (.bool (matchF t u K).1) ∧ Fr (fun b => b = kb) w w' ∧ Kn S w' kb (matchF t u K).2 := by
  intro m
  induction m with
  | zero => intro t u K v v' S w kb d hm; have := Tm.sz_pos t; omega
  | succ m ih =>
    intro t u K v v' S w kb d hm hsh ht hu hK
    obtain ⟨k, n, s, ks⟩ := t
    have IH := Lib.hid (show ∀ (j : Nat) (t' : Tm), ks[j]? = some t' → ∀ (u : Tm) (K : List Tm) (v v' : Value) (w : World), Tm.at S w t' v → Tm.at S w u v' → Kn S w kb K →
        Calls Try.prog 41 #[v, v', .slice (some ⟨kb, 0, none⟩) 26 26] w fun e w' => e = .returned (.bool (matchF t' u K).1) ∧ Fr (fun b => b = kb) w w' ∧ Kn S w' kb (matchF t' u K).2
      from fun j t' h u K v v' w h1 h2 h3 => ih t' u K v v' S w kb (d - 1) (by have := kid_lt (k := k) (n := n) (s := s) (ks := ks) h; omega) (shape_kid hsh h) h1 h2 h3)
    have HSH := Lib.hid hsh
    have HKN := Lib.hid hK
    have HU0 := Lib.hid hu
    have hkb := hK.lt
    have HN0 := Lib.hid hK.1
    clear ih hm hsh hK
    obtain ⟨hs1, sv, rfl, a, cap, rfl, h1, h2, h3, h4⟩ := ht
    obtain ⟨hs2, sv', rfl, a', cap', rfl, h1', h2', h3', h4'⟩ := Tm.at_iff.1 hu
    have H4 := Lib.hid h4
    have H4' := Lib.hid h4'
    clear h4 h4' hu
    by_cases hk : k = 1
    · subst hk
      have hn := shape_var HSH.out
      obtain ⟨hn0, hn1⟩ := hn
      obtain ⟨ra, rc, q0, q1, q2, q3, hat, g0, g1, g2, g3⟩ := HKN.out.look ⟨hn0, hn1⟩
      obtain ⟨N, rfl⟩ := Int.eq_ofNat_of_zero_le hn0
      have hN : N < 26 := by omega
      simp only [Int.toNat_natCast] at q0 q1 q2 q3 g0 g1 g2 g3
      by_cases hz : (lookK K N).kind = 0
      · have HF : Hid (matchF (.mk 1 N s ks) u K = (true, K.set (N : Int).toNat u)) := Lib.hid (by simp only [matchF, if_true]; rw [if_pos hz])
        have hz' : ((lookK K N).kind != 0) = false := by simp [hz]
        clear hat hz
        go_enter Try.func41, Try.ntmps41
        go_wp2_with fail
        go_ret
        rw [HF.out]
        have hx := HKN.out.set ⟨hn0, hn1⟩ HU0.out
        simp only [Int.toNat_natCast] at hx ⊢
        exact ⟨rfl, (Fr.of_grown (set4o_grown _ _ _ _ _ _ _) (fun k e => by cases e; rfl)).trans (Fr.of_ext ((Ext.alloc _ (.cells #[.int .i64 1, .int .i64 (N : Int), .string s, .slice a ks.length cap] 29)).trans (Ext.alloc _ (.cells #[.int .i64 u.kind, .int .i64 u.n, .string u.name, .slice a' u.kids.length cap'] 29)))), hx.ext ((Ext.alloc _ (.cells #[.int .i64 1, .int .i64 (N : Int), .string s, .slice a ks.length cap] 29)).trans (Ext.alloc _ (.cells #[.int .i64 u.kind, .int .i64 u.n, .string u.name, .slice a' u.kids.length cap'] 29)))⟩
      · have HF : Hid (matchF (.mk 1 N s ks) u K = (Tm.same (lookK K N) u, K)) := Lib.hid (by simp only [matchF, if_true]; rw [if_neg hz])
        have hz' : ((lookK K N).kind != 0) = true := by simpa using hz
        have V := Lib.hid hat
        clear hat hz
        go_enter Try.func41, Try.ntmps41
        go_wp2_with fail
        obtain ⟨w0, hW⟩ : ∃ W0, W0 = ((w.alloc (.cells #[.int .i64 1, .int .i64 (N : Int), .string s, .slice a ks.length cap] 29)).alloc (.cells #[.int .i64 u.kind, .int .i64 u.n, .string u.name, .slice a' u.kids.length cap'] 29)) := ⟨_, rfl⟩
        rw [← hW]
        have X := Lib.hid (show BoxT w0 w.heap.size (.int .i64 1) (.int .i64 (N : Int)) (.string s) (.slice a ks.length cap) by rw [hW]; exact (BoxT.new w _ _ _ _ 29 rfl).ext (Ext.alloc _ _))
        have Y := Lib.hid (show BoxT w0 (w.heap.size + 1) (.int .i64 u.kind) (.int .i64 u.n) (.string u.name) (.slice a' u.kids.length cap') by rw [hW]; exact BoxT.new _ _ _ _ _ 29 (by simp))
        have E0 : Hid (Ext w w0) := Lib.hid (by rw [hW]; exact (Ext.alloc _ _).trans (Ext.alloc _ _))
        clear hW
        obtain ⟨x0, x1, x2, x3, _, _, _, _⟩ := X.out
        obtain ⟨y0, y1, y2, y3, _, _, _, _⟩ := Y.out
        have l1 := cell_regrown x1
        have l3 := cell_regrown y0
        have l4 := cell_regrown y1
        have l5 := cell_regrown y2
        have l6 := cell_regrown y3
        have l7 := cell_regrown (E0.out.cell q0)
        have l8 := cell_regrown (E0.out.cell q1)
        have l9 := cell_regrown (E0.out.cell q2)
        have l10 := cell_regrown (E0.out.cell q3)
        have cQ := quiet_call (w := w0) (fun w' e' => specTermSame _ (lookK K N) u _ _ S S w' (Nat.le_refl _) (Tm.at_ext (E0.out.trans e') V.out) (Tm.at_ext (E0.out.trans e') HU0.out))
        clear x0 x1 x2 x3 y0 y1 y2 y3 q0 q1 q2 q3
        have hN2 : (N : Int) < 26 := by omega
        refine region_ext (by kernel_rfl) (by kernel_rfl) ?_
        repeat (first | quiet_step (exact cQ _ _) | go_big_quiet_step (exact cQ _ _))
        refine wpQuiet_nil ?_
        intro wq eq
        go_wp2_with fail
        go_ret
        rw [HF.out]
        exact ⟨rfl, Fr.of_ext (E0.out.trans eq), HKN.out.ext (E0.out.trans eq)⟩
    have hkb1 : (k == 1) = false := by simpa using hk
    have HM : Hid (∀ (h : k = u.kind ∧ n = u.n ∧ s = u.name ∧ ks.length = u.kids.length), matchF (.mk k n s ks) u K = matchL ks u.kids K) := Lib.hid (fun h => by simp only [matchF]; rw [if_neg hk, if_pos h])
    have HNM : Hid (∀ (h : ¬ (k = u.kind ∧ n = u.n ∧ s = u.name ∧ ks.length = u.kids.length)), matchF (.mk k n s ks) u K = (false, K)) := Lib.hid (fun h => by simp only [matchF]; rw [if_neg hk, if_neg h])
    clear hk
    cases e1 : (k == u.kind)
    · have e1' : (k != u.kind) = true := by simp [bne, e1]
      have HF := Lib.hid (HNM.out (fun h => by simp [h.1] at e1))
      go_enter Try.func41, Try.ntmps41
      go_wp2_with fail
      go_ret
      rw [HF.out]
      exact ⟨rfl, Fr.of_ext ((Ext.alloc w (.cells #[.int .i64 k, .int .i64 n, .string s, .slice a ks.length cap] 29)).trans (Ext.alloc _ (.cells #[.int .i64 u.kind, .int .i64 u.n, .string u.name, .slice a' u.kids.length cap'] 29))), HKN.out.ext ((Ext.alloc w (.cells #[.int .i64 k, .int .i64 n, .string s, .slice a ks.length cap] 29)).trans (Ext.alloc _ (.cells #[.int .i64 u.kind, .int .i64 u.n, .string u.name, .slice a' u.kids.length cap'] 29)))⟩
    cases e2 : (n == u.n)
    · have e1' : (k != u.kind) = false := by simp [bne, e1]
      have e2' : (n != u.n) = true := by simp [bne, e2]
      have HF := Lib.hid (HNM.out (fun h => by simp [h.2.1] at e2))
      go_enter Try.func41, Try.ntmps41
      go_wp2_with fail
      go_ret
      rw [HF.out]
      exact ⟨rfl, Fr.of_ext ((Ext.alloc w (.cells #[.int .i64 k, .int .i64 n, .string s, .slice a ks.length cap] 29)).trans (Ext.alloc _ (.cells #[.int .i64 u.kind, .int .i64 u.n, .string u.name, .slice a' u.kids.length cap'] 29))), HKN.out.ext ((Ext.alloc w (.cells #[.int .i64 k, .int .i64 n, .string s, .slice a ks.length cap] 29)).trans (Ext.alloc _ (.cells #[.int .i64 u.kind, .int .i64 u.n, .string u.name, .slice a' u.kids.length cap'] 29)))⟩
    cases e3 : (s.toList == u.name.toList)
    · have e1' : (k != u.kind) = false := by simp [bne, e1]
      have e2' : (n != u.n) = false := by simp [bne, e2]
      have HF := Lib.hid (HNM.out (fun h => by simp [h.2.2.1] at e3))
      go_enter Try.func41, Try.ntmps41
      go_wp2_with fail
      go_ret
      rw [HF.out]
      exact ⟨rfl, Fr.of_ext ((Ext.alloc w (.cells #[.int .i64 k, .int .i64 n, .string s, .slice a ks.length cap] 29)).trans (Ext.alloc _ (.cells #[.int .i64 u.kind, .int .i64 u.n, .string u.name, .slice a' u.kids.length cap'] 29))), HKN.out.ext ((Ext.alloc w (.cells #[.int .i64 k, .int .i64 n, .string s, .slice a ks.length cap] 29)).trans (Ext.alloc _ (.cells #[.int .i64 u.kind, .int .i64 u.n, .string u.name, .slice a' u.kids.length cap'] 29)))⟩
    have e1' : (k != u.kind) = false := by simp [bne, e1]
    have e2' : (n != u.n) = false := by simp [bne, e2]
    have HQ : Hid (∀ h : ks.length = u.kids.length, matchF (.mk k n s ks) u K = matchL ks u.kids K) := Lib.hid (fun h => HM.out ⟨by simpa using e1, by simpa using e2, bl_ext (by simpa using e3), h⟩)
    clear e1 e2 HM
    by_cases e4 : ks.length = u.kids.length
    · have HF := Lib.hid (HQ.out e4)
      have E4 := Lib.hid e4
      have e4' : ((ks.length : Int) != (u.kids.length : Int)) = false := by simp [bne, e4]
      clear e4 HQ HNM
      go_enter Try.func41, Try.ntmps41
      go_wp2_with fail
      go_loopw [7] (fun i wr => ∃ (j : Nat) (K1 : List Tm), j ≤ ks.length ∧ i = .int .i64 j ∧ Hid (matchL (ks.take j) (u.kids.take j) K = (true, K1)) ∧ Hid (Kn S wr kb K1) ∧ Hid (Fr (fun b => b = kb) w wr) ∧
          wr.cell? ⟨w.heap.size, 3, none⟩ = some (.slice a ks.length cap) ∧ wr.cell? ⟨w.heap.size + 1, 3, none⟩ = some (.slice a' u.kids.length cap')) (fun i _ => ks.length - (intOf i).toNat)
      case atStart => exact ⟨0, K, Nat.zero_le _, rfl, Lib.hid rfl, Lib.hid (HKN.out.ext ((Ext.alloc w (.cells #[.int .i64 k, .int .i64 n, .string s, .slice a ks.length cap] 29)).trans (Ext.alloc _ (.cells #[.int .i64 u.kind, .int .i64 u.n, .string u.name, .slice a' u.kids.length cap'] 29)))), Lib.hid (Fr.of_ext ((Ext.alloc w (.cells #[.int .i64 k, .int .i64 n, .string s, .slice a ks.length cap] 29)).trans (Ext.alloc _ (.cells #[.int .i64 u.kind, .int .i64 u.n, .string u.name, .slice a' u.kids.length cap'] 29)))), by go_simp, by go_simp⟩
      case round =>
        obtain ⟨j, K1, hj, rfl, HL, HK1, HFR, hb1, hb2⟩ := hrel
        by_cases hlt : j < ks.length
        · have hlt' : j < u.kids.length := by have := E4.out; omega
          obtain ⟨tk, htk⟩ := getk hlt
          obtain ⟨uk, huk⟩ := getk hlt'
          obtain ⟨b, off, ak, ck, rfl, hSb, c1, c2, c3, c4, hat⟩ := tget H4.out htk
          obtain ⟨b', off', ak', ck', rfl, hSb', d1, d2, d3, d4, hat'⟩ := tget H4'.out huk
          have hne : ¬ b = kb := fun h => HN0.out (h ▸ hSb)
          have hne' : ¬ b' = kb := fun h => HN0.out (h ▸ hSb')
          replace c1 := HFR.out.cell hne c1
          replace c2 := HFR.out.cell hne c2
          replace c3 := HFR.out.cell hne c3
          replace c4 := HFR.out.cell hne c4
          replace d1 := HFR.out.cell hne' d1
          replace d2 := HFR.out.cell hne' d2
          replace d3 := HFR.out.cell hne' d3
          replace d4 := HFR.out.cell hne' d4
          have HC := Lib.hid (fun w' (e' : Ext wr w') => IH.out j tk htk uk K1 _ _ w' (Tm.at_ext e' (HFR.out.at hat (fun k hk h => HN0.out (h ▸ hk)))) (Tm.at_ext e' (HFR.out.at hat' (fun k hk h => HN0.out (h ▸ hk)))) (HK1.out.ext e'))
          obtain ⟨bb, K2, hmm⟩ : ∃ bb K2, matchF tk uk K1 = (bb, K2) := ⟨_, _, rfl⟩
          have HMM := Lib.hid hmm
          have HS := Lib.hid ((matchL_snoc htk huk HL.out).trans hmm)
          clear hmm htk huk hat hat' hne hne' hSb hSb'
          have sw := HK1.out.lt
          cases bb
          · have HX := Lib.hid (matchL_cut HS.out)
            go_wp2_with fail
            go_region_law (first
              | (go_simp; go_at_call 41; refine (HC.out _ (by first | exact Ext.refl _ | exact Ext.drew _)).mono ?_; rw [HMM.out]; rintro e w1 ⟨rfl, f1, z1⟩; (try replace f1 := (Fr.drew (M := fun b => b = kb) _).trans f1); have F1 := Lib.hid f1; have Z1 := Lib.hid z1; clear f1 z1; dsimp only))
            all_goals
              go_wp2_with fail
              go_ret
              rw [HF.out, HX.out]
              exact ⟨rfl, HFR.out.trans F1.out, Z1.out⟩
          · have nb1 : ¬ w.heap.size = kb := by omega
            have nb2 : ¬ w.heap.size + 1 = kb := by omega
            go_wp2_with fail
            go_region_law (first
              | (go_simp; go_at_call 41; refine (HC.out _ (by first | exact Ext.refl _ | exact Ext.drew _)).mono ?_; rw [HMM.out]; rintro e w1 ⟨rfl, f1, z1⟩; (try replace f1 := (Fr.drew (M := fun b => b = kb) _).trans f1); have F1 := Lib.hid f1; have Z1 := Lib.hid z1; clear f1 z1; dsimp only))
            all_goals
              go_wp2_with fail
              go_roundw
              case rel => exact ⟨j + 1, K2, by omega, by go_num, HS, Z1, Lib.hid (HFR.out.trans F1.out), F1.out.cell nb1 hb1, F1.out.cell nb2 hb2⟩
              case measure => simp [intOf]; omega
        · have hjj : j = ks.length := by omega
          subst hjj
          have hX : matchL ks u.kids K = (true, K1) := by
            have := HL.out
            rw [List.take_of_length_le (Nat.le_refl _), List.take_of_length_le (by rw [E4.out]; exact Nat.le_refl _)] at this
            exact this
          have HX := Lib.hid hX
          clear hX
          go_wp2_with fail
          go_ret
          rw [HF.out, HX.out]
          exact ⟨rfl, HFR.out, HK1.out⟩
    · have e4' : ((ks.length : Int) != (u.kids.length : Int)) = true := by simp [bne]; omega
      have HF := Lib.hid (HNM.out (fun h => e4 h.2.2.2))
      clear e4
      go_enter Try.func41, Try.ntmps41
      go_wp2_with fail
      go_ret
      rw [HF.out]
      exact ⟨rfl, Fr.of_ext ((Ext.alloc w (.cells #[.int .i64 k, .int .i64 n, .string s, .slice a ks.length cap] 29)).trans (Ext.alloc _ (.cells #[.int .i64 u.kind, .int .i64 u.n, .string u.name, .slice a' u.kids.length cap'] 29))), HKN.out.ext ((Ext.alloc w (.cells #[.int .i64 k, .int .i64 n, .string s, .slice a ks.length cap] 29)).trans (Ext.alloc _ (.cells #[.int .i64 u.kind, .int .i64 u.n, .string u.name, .slice a' u.kids.length cap'] 29)))⟩

end Go.Proofs.Yteplfajhmpmklaa
