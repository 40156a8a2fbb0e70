/-
  Instances: the program's instance.
-/
import Derived.Deep.RegionHeld3
import Derived.Maps.OwnOps
import Derived.Test.YteplfajhmpmklaaMg51
import Derived.Test.YteplfajhmpmklaaMg32
namespace Go.Proofs.Yteplfajhmpmklaa
open Go.RowKit
set_option linter.unusedVariables false

theorem szL_le (ts : List Tm) (j : Nat) : Tm.szL (ts.take j) ≤ Tm.szL ts := by
  induction ts generalizing j with
  | nil => simp
  | cons t ts ih =>
    cases j with
    | zero => simp [Tm.szL]
    | succ j => have := ih j; simp only [List.take_succ_cons, Tm.szL]; omega

set_option maxRecDepth 100000 in
set_option maxHeartbeats 4000000 in
theorem implinstance : ∀ (m : Nat) (t u : Tm) (K : List Tm) (v v' : Value) (S : Nat → Prop) (w : World) (kb d d' mm : Nat), Tm.sz t ≤ m → shapeF t d = true → shapeF u d' = true → mm + Tm.sz t ≤ 1048576 → Tm.at S w t v → Tm.at S w u v' → Km S w kb mm K →
    Calls Try.prog 43 #[v', v, .map (some kb)] w fun e w' => e = .returned (.bool (matchF t u K).1) ∧ Fr (fun b => b = kb) w w' ∧ Km S w' kb (mm + Tm.sz t) (matchF t u K).2 := by
  intro m
  induction m with
  | zero => intro t u K v v' S w kb d d' mm hm; have := Tm.sz_pos t; omega
  | succ m ih =>
    intro t u K v v' S w kb d d' mm hm hsh hsu hmm ht hu hK
    obtain ⟨k, n, s, ks⟩ := t
    have IH := Lib.hid (show ∀ (j : Nat) (t' : Tm), ks[j]? = some t' → ∀ (i : Nat) (u' : Tm) (K : List Tm) (v v' : Value) (w : World) (mm : Nat), u.kids[i]? = some u' → mm + Tm.sz t' ≤ 1048576 → Tm.at S w t' v → Tm.at S w u' v' → Km S w kb mm K →
        Calls Try.prog 43 #[v', v, .map (some kb)] w fun e w' => e = .returned (.bool (matchF t' u' K).1) ∧ Fr (fun b => b = kb) w w' ∧ Km S w' kb (mm + Tm.sz t') (matchF t' u' K).2
      from fun j t' h i u' K v v' w mm hu' hmm h1 h2 h3 => ih t' u' K v v' S w kb (d - 1) (d' - 1) mm (by have := kid_lt (k := k) (n := n) (s := s) (ks := ks) h; omega) (shape_kid hsh h) (by obtain ⟨_, _, _, us⟩ := u; exact shape_kid hsu hu') hmm h1 h2 h3)
    have HUK := Lib.hid (shape_kind hsu)
    have HSH := Lib.hid hsh
    have HKN := Lib.hid hK
    have HU0 := Lib.hid hu
    have hkb := hK.lt
    have HN0 := Lib.hid hK.1
    have HMM : Hid (mm + (1 + Tm.szL ks) ≤ 1048576) := Lib.hid (by simpa only [Tm.sz] using hmm)
    have HSZ : Hid (Tm.sz (.mk k n s ks) = 1 + Tm.szL ks) := Lib.hid (by simp only [Tm.sz])
    clear ih hm hsh hK hsu hmm
    obtain ⟨hs1, sv, rfl, a, cap, rfl, h1, h2, h3, h4⟩ := ht
    obtain ⟨hs2, sv', rfl, a', cap', rfl, h1', h2', h3', h4'⟩ := Tm.at_iff.1 hu
    have H4 := Lib.hid h4
    have H4' := Lib.hid h4'
    clear h4 h4' hu
    by_cases hk : k = 1
    · subst hk
      have hn := shape_var HSH.out
      obtain ⟨hn0, hn1⟩ := hn
      obtain ⟨N, rfl⟩ := Int.eq_ofNat_of_zero_le hn0
      have hN : N < 26 := by omega
      by_cases hz : (lookK K N).kind = 0
      · have HF : Hid (matchF (.mk 1 N s ks) u K = (true, K.set (N : Int).toNat u)) := Lib.hid (by simp only [matchF, if_true]; rw [if_pos hz])
        have HZ := Lib.hid hz
        clear hz
        go_enter Try.func43, Try.ntmps43
        go_wp2_with (first
          | (at_lookup; refine wp_look_no rfl _ _ rfl (HKN.out.ext ((Ext.alloc _ _).trans (Ext.alloc _ _))) ⟨hn0, hn1⟩ HZ.out rfl rfl ?_)
          | (at_mapUpdate; refine wp_put_km rfl _ _ _ rfl (HKN.out.ext (((Ext.alloc _ _).trans (Ext.alloc _ _)).trans (Ext.alloc _ _))) (by have := HMM.out; omega) ⟨hn0, hn1⟩ HUK.out _ (Tm.at_ext (((Ext.alloc _ _).trans (Ext.alloc _ _)).trans (Ext.alloc _ _)) HU0.out) rfl rfl rfl ?_; intro w9 hK9 f9; have K9 := Lib.hid hK9; have F9 := Lib.hid ((Fr.of_ext (((Ext.alloc _ _).trans (Ext.alloc _ _)).trans (Ext.alloc _ _))).trans f9); clear hK9 f9))
        go_ret
        rw [HF.out, HSZ.out]
        exact ⟨rfl, F9.out, K9.out.mono (by omega)⟩
      · have HF : Hid (matchF (.mk 1 N s ks) u K = (Tm.same (lookK K N) u, K)) := Lib.hid (by simp only [matchF, if_true]; rw [if_neg hz])
        have HZ := Lib.hid hz
        clear hz
        go_enter Try.func43, Try.ntmps43
        go_wp2_with (at_lookup; refine wp_look_yes rfl _ _ rfl (HKN.out.ext ((Ext.alloc _ _).trans (Ext.alloc _ _))) ⟨hn0, hn1⟩ HZ.out rfl rfl ?_; intro ra rc hat; have V := Lib.hid hat; clear hat)
        refine (implTermSame _ (lookK K N) u _ _ _ _ _ (Nat.le_refl _) (Tm.at_ext (Ext.alloc _ _) V.out) (Tm.at_ext (((Ext.alloc _ _).trans (Ext.alloc _ _)).trans (Ext.alloc _ _)) HU0.out)).mono ?_
        rintro e w4 ⟨rfl, q⟩
        have E4 := Lib.hid ((((Ext.alloc _ _).trans (Ext.alloc _ _)).trans (Ext.alloc _ _)).trans q)
        clear q
        go_wp2_with fail
        go_ret
        rw [HF.out, HSZ.out]
        exact ⟨rfl, Fr.of_ext E4.out, (HKN.out.ext E4.out).mono (by omega)⟩
    have hkb1 : (k == 1) = false := by simpa using hk
    have HM : Hid (∀ (h : k = u.kind ∧ n = u.n ∧ s = u.name ∧ ks.length = u.kids.length), matchF (.mk k n s ks) u K = matchL ks u.kids K) := Lib.hid (fun h => by simp only [matchF]; rw [if_neg hk, if_pos h])
    have HNM : Hid (∀ (h : ¬ (k = u.kind ∧ n = u.n ∧ s = u.name ∧ ks.length = u.kids.length)), matchF (.mk k n s ks) u K = (false, K)) := Lib.hid (fun h => by simp only [matchF]; rw [if_neg hk, if_neg h])
    clear hk
    cases e1 : (u.kind == k)
    · have e1' : (u.kind != k) = true := by simp [bne, e1]
      have HF := Lib.hid (HNM.out (fun h => by simp [h.1] at e1))
      go_enter Try.func43, Try.ntmps43
      go_wp2_with fail
      go_ret
      rw [HF.out, HSZ.out]
      exact ⟨rfl, Fr.of_ext ((Ext.alloc w (.cells #[.int .i64 u.kind, .int .i64 u.n, .string u.name, .slice a' u.kids.length cap'] 29)).trans (Ext.alloc _ (.cells #[.int .i64 k, .int .i64 n, .string s, .slice a ks.length cap] 29))), (HKN.out.ext ((Ext.alloc w (.cells #[.int .i64 u.kind, .int .i64 u.n, .string u.name, .slice a' u.kids.length cap'] 29)).trans (Ext.alloc _ (.cells #[.int .i64 k, .int .i64 n, .string s, .slice a ks.length cap] 29)))).mono (by omega)⟩
    cases e2 : (u.n == n)
    · have e1' : (u.kind != k) = false := by simp [bne, e1]
      have e2' : (u.n != n) = true := by simp [bne, e2]
      have HF := Lib.hid (HNM.out (fun h => by simp [h.2.1] at e2))
      go_enter Try.func43, Try.ntmps43
      go_wp2_with fail
      go_ret
      rw [HF.out, HSZ.out]
      exact ⟨rfl, Fr.of_ext ((Ext.alloc w (.cells #[.int .i64 u.kind, .int .i64 u.n, .string u.name, .slice a' u.kids.length cap'] 29)).trans (Ext.alloc _ (.cells #[.int .i64 k, .int .i64 n, .string s, .slice a ks.length cap] 29))), (HKN.out.ext ((Ext.alloc w (.cells #[.int .i64 u.kind, .int .i64 u.n, .string u.name, .slice a' u.kids.length cap'] 29)).trans (Ext.alloc _ (.cells #[.int .i64 k, .int .i64 n, .string s, .slice a ks.length cap] 29)))).mono (by omega)⟩
    cases e3 : (u.name.toList == s.toList)
    · have e1' : (u.kind != k) = false := by simp [bne, e1]
      have e2' : (u.n != n) = false := by simp [bne, e2]
      have HF := Lib.hid (HNM.out (fun h => by simp [h.2.2.1] at e3))
      go_enter Try.func43, Try.ntmps43
      go_wp2_with fail
      go_ret
      rw [HF.out, HSZ.out]
      exact ⟨rfl, Fr.of_ext ((Ext.alloc w (.cells #[.int .i64 u.kind, .int .i64 u.n, .string u.name, .slice a' u.kids.length cap'] 29)).trans (Ext.alloc _ (.cells #[.int .i64 k, .int .i64 n, .string s, .slice a ks.length cap] 29))), (HKN.out.ext ((Ext.alloc w (.cells #[.int .i64 u.kind, .int .i64 u.n, .string u.name, .slice a' u.kids.length cap'] 29)).trans (Ext.alloc _ (.cells #[.int .i64 k, .int .i64 n, .string s, .slice a ks.length cap] 29)))).mono (by omega)⟩
    have e1' : (u.kind != k) = false := by simp [bne, e1]
    have e2' : (u.n != n) = false := by simp [bne, e2]
    have HQ : Hid (∀ h : ks.length = u.kids.length, matchF (.mk k n s ks) u K = matchL ks u.kids K) := Lib.hid (fun h => HM.out ⟨(by simpa using e1 : u.kind = k).symm, (by simpa using e2 : u.n = n).symm, (bl_ext (by simpa using e3) : u.name = s).symm, h⟩)
    clear e1 e2 HM
    by_cases e4 : ks.length = u.kids.length
    · have HF := Lib.hid (HQ.out e4)
      have E4 := Lib.hid e4
      have e4' : ((u.kids.length : Int) != (ks.length : Int)) = false := by simp [bne, e4]
      clear e4 HQ HNM
      go_enter Try.func43, Try.ntmps43
      go_wp2_with fail
      go_loopw [60] (fun i wr => ∃ (j : Nat) (K1 : List Tm), j ≤ ks.length ∧ i = .int .i64 j ∧ Hid (matchL (ks.take j) (u.kids.take j) K = (true, K1)) ∧ Hid (Km S wr kb (mm + Tm.szL (ks.take j)) K1) ∧ Hid (Fr (fun b => b = kb) w wr) ∧
          wr.cell? ⟨w.heap.size, 3, none⟩ = some (.slice a' u.kids.length cap') ∧ wr.cell? ⟨w.heap.size + 1, 3, none⟩ = some (.slice a ks.length cap)) (fun i _ => ks.length - (intOf i).toNat)
      case atStart => exact ⟨0, K, Nat.zero_le _, rfl, Lib.hid rfl, Lib.hid ((HKN.out.ext ((Ext.alloc w (.cells #[.int .i64 u.kind, .int .i64 u.n, .string u.name, .slice a' u.kids.length cap'] 29)).trans (Ext.alloc _ (.cells #[.int .i64 k, .int .i64 n, .string s, .slice a ks.length cap] 29)))).mono (by omega)), Lib.hid (Fr.of_ext ((Ext.alloc w (.cells #[.int .i64 u.kind, .int .i64 u.n, .string u.name, .slice a' u.kids.length cap'] 29)).trans (Ext.alloc _ (.cells #[.int .i64 k, .int .i64 n, .string s, .slice a ks.length cap] 29)))), by go_simp, by go_simp⟩
      case round =>
        obtain ⟨j, K1, hj, rfl, HL, HK1, HFR, hb1, hb2⟩ := hrel
        by_cases hlt : j < ks.length
        · have hlt' : j < u.kids.length := by have := E4.out; omega
          obtain ⟨tk, htk⟩ := getk hlt
          obtain ⟨uk, huk⟩ := getk hlt'
          obtain ⟨b, off, ak, ck, rfl, hSb, c1, c2, c3, c4, hat⟩ := tget H4.out htk
          obtain ⟨b', off', ak', ck', rfl, hSb', d1, d2, d3, d4, hat'⟩ := tget H4'.out huk
          have hne : ¬ b = kb := fun h => HN0.out (h ▸ hSb)
          have hne' : ¬ b' = kb := fun h => HN0.out (h ▸ hSb')
          replace c1 := HFR.out.cell hne c1
          replace c2 := HFR.out.cell hne c2
          replace c3 := HFR.out.cell hne c3
          replace c4 := HFR.out.cell hne c4
          replace d1 := HFR.out.cell hne' d1
          replace d2 := HFR.out.cell hne' d2
          replace d3 := HFR.out.cell hne' d3
          replace d4 := HFR.out.cell hne' d4
          have hst := szL_take htk
          have HC := Lib.hid (fun w' (e' : Ext wr w') => IH.out j tk htk j uk K1 _ _ w' (mm + Tm.szL (ks.take j)) huk (by have := HMM.out; omega) (Tm.at_ext e' (HFR.out.at hat (fun k hk h => HN0.out (h ▸ hk)))) (Tm.at_ext e' (HFR.out.at hat' (fun k hk h => HN0.out (h ▸ hk)))) (HK1.out.ext e'))
          obtain ⟨bb, K2, hmm⟩ : ∃ bb K2, matchF tk uk K1 = (bb, K2) := ⟨_, _, rfl⟩
          have HMT := Lib.hid hmm
          have HS := Lib.hid ((matchL_snoc htk huk HL.out).trans hmm)
          have HSN : Hid (mm + Tm.szL (ks.take j) + Tm.sz tk = mm + Tm.szL (ks.take (j + 1)) ∧ Tm.szL (ks.take (j + 1)) ≤ Tm.szL ks) := Lib.hid ⟨by rw [szL_snoc htk]; omega, szL_le ks (j + 1)⟩
          clear hmm htk huk hat hat' hne hne' hSb hSb' hst
          have sw := HK1.out.lt
          cases bb
          · have HX := Lib.hid (matchL_cut HS.out)
            go_wp2_with fail
            go_region_law (first
              | (go_simp; go_at_call 43; refine (HC.out _ (by first | exact Ext.refl _ | exact Ext.drew _)).mono ?_; rw [HMT.out]; rintro e w1 ⟨rfl, f1, z1⟩; (try replace f1 := (Fr.drew (M := fun b => b = kb) _).trans f1); have F1 := Lib.hid f1; have Z1 := Lib.hid z1; clear f1 z1; dsimp only))
            all_goals
              go_wp2_with fail
              go_ret
              rw [HF.out, HX.out, HSZ.out]
              exact ⟨rfl, HFR.out.trans F1.out, Z1.out.mono (by have := HSN.out; omega)⟩
          · have nb1 : ¬ w.heap.size = kb := by omega
            have nb2 : ¬ w.heap.size + 1 = kb := by omega
            go_wp2_with fail
            go_region_law (first
              | (go_simp; go_at_call 43; refine (HC.out _ (by first | exact Ext.refl _ | exact Ext.drew _)).mono ?_; rw [HMT.out]; rintro e w1 ⟨rfl, f1, z1⟩; (try replace f1 := (Fr.drew (M := fun b => b = kb) _).trans f1); have F1 := Lib.hid f1; have Z1 := Lib.hid z1; clear f1 z1; dsimp only))
            all_goals
              go_wp2_with fail
              go_roundw
              case rel => exact ⟨j + 1, K2, by omega, by go_num, HS, Lib.hid (by rw [← HSN.out.1]; exact Z1.out), Lib.hid (HFR.out.trans F1.out), F1.out.cell nb1 hb1, F1.out.cell nb2 hb2⟩
              case measure => simp [intOf]; omega
        · have hjj : j = ks.length := by omega
          subst hjj
          have hX : matchL ks u.kids K = (true, K1) := by
            have := HL.out
            rw [List.take_of_length_le (Nat.le_refl _), List.take_of_length_le (by rw [E4.out]; exact Nat.le_refl _)] at this
            exact this
          have HX := Lib.hid hX
          have HTK : Hid (Tm.szL (ks.take ks.length) ≤ Tm.szL ks) := Lib.hid (szL_le ks _)
          clear hX
          go_wp2_with fail
          go_ret
          rw [HF.out, HX.out, HSZ.out]
          exact ⟨rfl, HFR.out, HK1.out.mono (by have := HTK.out; omega)⟩
    · have e4' : ((u.kids.length : Int) != (ks.length : Int)) = true := by simp [bne]; omega
      have HF := Lib.hid (HNM.out (fun h => e4 h.2.2.2))
      clear e4
      go_enter Try.func43, Try.ntmps43
      go_wp2_with fail
      go_ret
      rw [HF.out, HSZ.out]
      exact ⟨rfl, Fr.of_ext ((Ext.alloc w (.cells #[.int .i64 u.kind, .int .i64 u.n, .string u.name, .slice a' u.kids.length cap'] 29)).trans (Ext.alloc _ (.cells #[.int .i64 k, .int .i64 n, .string s, .slice a ks.length cap] 29))), (HKN.out.ext ((Ext.alloc w (.cells #[.int .i64 u.kind, .int .i64 u.n, .string u.name, .slice a' u.kids.length cap'] 29)).trans (Ext.alloc _ (.cells #[.int .i64 k, .int .i64 n, .string s, .slice a ks.length cap] 29)))).mono (by omega)⟩

end Go.Proofs.Yteplfajhmpmklaa
