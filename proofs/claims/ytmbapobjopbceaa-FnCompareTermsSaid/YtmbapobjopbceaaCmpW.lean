/-
  The program's and the reference's comparison of terms, walked.
-/
import Derived.Test.YtmbapobjopbceaaCmp
import Derived.Test.YtmbapobjopbceaaSame2
import Derived.Deep.RegionHeld3
namespace Go.Proofs.Ytmbapobjopbceaa
open Go.RowKit
set_option linter.unusedVariables false

theorem cI_lt {a b : Int} (h : a < b) : cI a b = -1 := by simp [cI, h]
theorem cI_gt {a b : Int} (h : b < a) : cI a b = 1 := by
  unfold cI
  rw [if_neg (by omega), if_pos h]
theorem cmpL_step {ts us : List Tm} {k : Nat} {t u : Tm} (ht : ts[k]? = some t) (hu : us[k]? = some u) : cmpL (ts.drop k) (us.drop k) = orI (cmpF t u) (cmpL (ts.drop (k + 1)) (us.drop (k + 1))) := by
  obtain ⟨hk, rfl⟩ := List.getElem?_eq_some_iff.1 ht
  obtain ⟨hk', rfl⟩ := List.getElem?_eq_some_iff.1 hu
  rw [List.drop_eq_getElem_cons hk, List.drop_eq_getElem_cons hk']
  simp only [cmpL]
theorem cmpSL_step {ts us : List Tm} {k : Nat} {t u : Tm} (ht : ts[k]? = some t) (hu : us[k]? = some u) : cmpSL (ts.drop k) (us.drop k) = orI (cmpS t u) (cmpSL (ts.drop (k + 1)) (us.drop (k + 1))) := by
  obtain ⟨hk, rfl⟩ := List.getElem?_eq_some_iff.1 ht
  obtain ⟨hk', rfl⟩ := List.getElem?_eq_some_iff.1 hu
  rw [List.drop_eq_getElem_cons hk, List.drop_eq_getElem_cons hk']
  simp only [cmpSL]
theorem cmpL_over {ts us : List Tm} {k : Nat} (hk : k < ts.length) (hu : us.length ≤ k) : cmpL (ts.drop k) (us.drop k) = 1 := by
  rw [List.drop_eq_nil_of_le hu, List.drop_eq_getElem_cons hk]
  simp only [cmpL]
theorem cmpL_under {ts us : List Tm} {k : Nat} (hk : ts.length ≤ k) (hu : k < us.length) : cmpL (ts.drop k) (us.drop k) = -1 := by
  rw [List.drop_eq_nil_of_le hk, List.drop_eq_getElem_cons hu]
  simp only [cmpL]
theorem cmpL_end {ts us : List Tm} {k : Nat} (hk : ts.length ≤ k) (hu : us.length ≤ k) : cmpL (ts.drop k) (us.drop k) = 0 := by
  rw [List.drop_eq_nil_of_le hk, List.drop_eq_nil_of_le hu]
  simp only [cmpL]
theorem cmpSL_end {ts us : List Tm} {k : Nat} (hk : ts.length ≤ k) : cmpSL (ts.drop k) (us.drop k) = 0 := by
  rw [List.drop_eq_nil_of_le hk]
  simp only [cmpSL]

theorem specl1Less (a b : Int) (w : World) : Calls Try.prog 82 #[.int .i64 a, .int .i64 b] w fun e w' => e = .returned (.int .i64 (cI a b)) ∧ w = w' := by
  by_cases h : a < b
  · have hf := Lib.hid (cI_lt h)
    go_enter Try.func82, Try.ntmps82
    go_wp2_with fail
    go_ret
    exact ⟨retI hf.out.symm, rfl⟩
  · by_cases h2 : b < a
    · have hf := Lib.hid (cI_gt h2)
      go_enter Try.func82, Try.ntmps82
      go_wp2_with fail
      go_ret
      exact ⟨retI hf.out.symm, rfl⟩
    · have hf := Lib.hid (cI_zero.2 (by omega : a = b))
      go_enter Try.func82, Try.ntmps82
      go_wp2_with fail
      go_ret
      exact ⟨retI hf.out.symm, rfl⟩
theorem specl1Before (a b : ByteArray) (w : World) : Calls Try.prog 83 #[.string a, .string b] w fun e w' => e = .returned (.int .i64 (cS a b)) ∧ w = w' := by
  cases h1 : Op.bytesLess a.toList b.toList
  · cases h2 : (a.toList == b.toList)
    · have hf := Lib.hid (show cS a b = 1 by unfold cS; rw [h1, h2]; rfl)
      go_enter Try.func83, Try.ntmps83
      go_wp2_with fail
      go_ret
      exact ⟨retI hf.out.symm, rfl⟩
    · have hf := Lib.hid (show cS a b = 0 by unfold cS; rw [h1, h2]; rfl)
      go_enter Try.func83, Try.ntmps83
      go_wp2_with fail
      go_ret
      exact ⟨retI hf.out.symm, rfl⟩
  · have hf := Lib.hid (show cS a b = -1 by unfold cS; rw [h1]; rfl)
    go_enter Try.func83, Try.ntmps83
    go_wp2_with fail
    go_ret
    exact ⟨retI hf.out.symm, rfl⟩
theorem specl1Rank (k n : Int) (s : ByteArray) (a : Option Addr) (len c : Nat) (w : World) : Calls Try.prog 81 #[.agg #[.int .i64 k, .int .i64 n, .string s, .slice a len c]] w fun e w' => e = .returned (.int .i64 (rankS k len)) ∧ Ext w w' := by
  by_cases h : k = 3
  · subst h
    by_cases h2 : 0 < len
    · have hf := Lib.hid (show rankS 3 len = 4 by simp [rankS, h2])
      go_enter Try.func81, Try.ntmps81
      go_wp2_with fail
      go_ret
      exact ⟨retI hf.out.symm, Ext.alloc _ _⟩
    · have hf := Lib.hid (show rankS 3 len = 3 by simp [rankS, h2])
      go_enter Try.func81, Try.ntmps81
      go_wp2_with fail
      go_ret
      exact ⟨retI hf.out.symm, Ext.alloc _ _⟩
  · have hf := Lib.hid (show rankS k len = k by simp [rankS, h])
    have h' : (k == 3) = false := by simpa using h
    go_enter Try.func81, Try.ntmps81
    go_wp2_with fail
    go_ret
    exact ⟨retI hf.out.symm, Ext.alloc _ _⟩
theorem implrank (k n : Int) (s : ByteArray) (a : Option Addr) (len c : Nat) (w : World) : Calls Try.prog 86 #[.agg #[.int .i64 k, .int .i64 n, .string s, .slice a len c]] w fun e w' => e = .returned (.int .i64 (rankF k len)) ∧ Ext w w' := by
  by_cases h : k = 1
  · subst h
    have hf := Lib.hid (show rankF 1 len = 0 by simp [rankF])
    go_enter Try.func86, Try.ntmps86
    go_wp2_with fail
    go_ret
    exact ⟨retI hf.out.symm, Ext.alloc _ _⟩
  by_cases h2 : k = 2
  · subst h2
    have hf := Lib.hid (show rankF 2 len = 1 by simp [rankF])
    go_enter Try.func86, Try.ntmps86
    go_wp2_with fail
    go_ret
    exact ⟨retI hf.out.symm, Ext.alloc _ _⟩
  have h' : (k == 1) = false := by simpa using h
  have h2' : (k == 2) = false := by simpa using h2
  by_cases h3 : len = 0
  · subst h3
    have hf := Lib.hid (show rankF k 0 = 2 by simp [rankF, h, h2])
    go_enter Try.func86, Try.ntmps86
    go_wp2_with fail
    go_ret
    exact ⟨retI hf.out.symm, Ext.alloc _ _⟩
  · have hf := Lib.hid (show rankF k len = 3 by simp [rankF, h, h2, h3])
    have h3' : ((len : Int) == 0) = false := by simpa using h3
    go_enter Try.func86, Try.ntmps86
    go_wp2_with fail
    go_ret
    exact ⟨retI hf.out.symm, Ext.alloc _ _⟩
theorem cmpisNaNI (x : Int) (w : World) : Calls Try.prog 117 #[.int .i64 x] w fun e w' => e = .returned (.bool false) ∧ w = w' := by
  have h : (x != x) = false := by simp
  go_enter Try.func117, Try.ntmps117
  go_wp2_with fail
  go_ret
  exact ⟨rfl, rfl⟩
theorem cmpisNaNS (x : ByteArray) (w : World) : Calls Try.prog 118 #[.string x] w fun e w' => e = .returned (.bool false) ∧ w = w' := by
  go_enter Try.func118, Try.ntmps118
  go_wp2_with fail
  go_ret
  exact ⟨by simp, rfl⟩
theorem cmpCompareI (a b : Int) (w : World) : Calls Try.prog 85 #[.int .i64 a, .int .i64 b] w fun e w' => e = .returned (.int .i64 (cI a b)) ∧ w = w' := by
  by_cases h : a < b
  · have hf := Lib.hid (cI_lt h)
    go_enter Try.func85, Try.ntmps85
    go_wp2_with (go_at_call 117; refine (cmpisNaNI _ _).mono ?_; rintro e w' ⟨rfl, rfl⟩)
    go_ret
    exact ⟨retI hf.out.symm, rfl⟩
  · by_cases h2 : b < a
    · have hf := Lib.hid (cI_gt h2)
      go_enter Try.func85, Try.ntmps85
      go_wp2_with (go_at_call 117; refine (cmpisNaNI _ _).mono ?_; rintro e w' ⟨rfl, rfl⟩)
      go_ret
      exact ⟨retI hf.out.symm, rfl⟩
    · have hf := Lib.hid (cI_zero.2 (by omega : a = b))
      go_enter Try.func85, Try.ntmps85
      go_wp2_with (go_at_call 117; refine (cmpisNaNI _ _).mono ?_; rintro e w' ⟨rfl, rfl⟩)
      go_ret
      exact ⟨retI hf.out.symm, rfl⟩
theorem cmpCompareS (a b : ByteArray) (w : World) : Calls Try.prog 87 #[.string a, .string b] w fun e w' => e = .returned (.int .i64 (cS a b)) ∧ w = w' := by
  cases h1 : Op.bytesLess a.toList b.toList
  · cases h2 : (a.toList == b.toList)
    · have hf := Lib.hid (show cS a b = 1 by unfold cS; rw [h1, h2]; rfl)
      go_enter Try.func87, Try.ntmps87
      go_wp2_with (go_at_call 118; refine (cmpisNaNS _ _).mono ?_; rintro e w' ⟨rfl, rfl⟩)
      go_ret
      exact ⟨retI hf.out.symm, rfl⟩
    · have hf := Lib.hid (show cS a b = 0 by unfold cS; rw [h1, h2]; rfl)
      go_enter Try.func87, Try.ntmps87
      go_wp2_with (go_at_call 118; refine (cmpisNaNS _ _).mono ?_; rintro e w' ⟨rfl, rfl⟩)
      go_ret
      exact ⟨retI hf.out.symm, rfl⟩
  · have hf := Lib.hid (show cS a b = -1 by unfold cS; rw [h1]; rfl)
    go_enter Try.func87, Try.ntmps87
    go_wp2_with (go_at_call 118; refine (cmpisNaNS _ _).mono ?_; rintro e w' ⟨rfl, rfl⟩)
    go_ret
    exact ⟨retI hf.out.symm, rfl⟩
def orL : List Int → Int
  | [] => 0
  | z :: zs => orI z (orL zs)
theorem orL_step {zs : List Int} {k : Nat} {z : Int} (h : zs[k]? = some z) : orL (zs.drop k) = orI z (orL (zs.drop (k + 1))) := by
  obtain ⟨hk, rfl⟩ := List.getElem?_eq_some_iff.1 h
  rw [List.drop_eq_getElem_cons hk]
  simp only [orL]
theorem cmpOrI (zs : List Int) (v : Value) (w : World) (hv : IntsAt w zs v) : Calls Try.prog 84 #[v] w fun e w' => e = .returned (.int .i64 (orL zs)) ∧ w = w' := by
  obtain ⟨a, cap, rfl, h1, h2, h3, h4⟩ := hv
  have H4 := Lib.hid h4
  clear h4
  go_enter Try.func84, Try.ntmps84
  go_wp2_with fail
  go_loop [5, 8] (fun _ i => ∃ k : Nat, k ≤ zs.length ∧ i = .int .i64 k ∧ Hid (orL zs = orL (zs.drop k))) (fun _ i => zs.length - (intOf i).toNat)
  case atStart => exact ⟨0, Nat.zero_le _, rfl, Lib.hid (by simp)⟩
  case round =>
    obtain ⟨k, hk, rfl, Ha⟩ := hrel
    by_cases hlt : k < zs.length
    · rcases H4.out with h4 | ⟨b, off, rfl, h5⟩
      · subst h4; simp at hlt
      · obtain ⟨z, hz⟩ : ∃ z, zs[k]? = some z := ⟨zs[k], by simp [hlt]⟩
        have hc := h5 k z hz
        have HS := Lib.hid (orL_step hz)
        clear hz h5
        by_cases he : z = 0
        · subst he
          have hf : Hid (orL zs = orL (zs.drop (k + 1))) := Lib.hid (by rw [Ha.out, HS.out, orI_0])
          go_wp2_with fail
          go_round
          case rel => exact ⟨k + 1, by omega, by go_num, hf⟩
          case measure => simp [intOf]; omega
        · have hf : Hid (orL zs = z) := Lib.hid (by rw [Ha.out, HS.out, orI_ne he])
          have he' : (z != 0) = true := by simpa [bne] using he
          go_wp2_with fail
          go_ret
          exact ⟨retI hf.out.symm, rfl⟩
    · have hf : Hid (orL zs = 0) := Lib.hid (by rw [Ha.out, List.drop_eq_nil_of_le (by omega)]; rfl)
      go_wp2_with fail
      go_ret
      exact ⟨retI hf.out.symm, rfl⟩

set_option maxHeartbeats 1000000 in
theorem slicesCompareFunc (ts us : List Tm) (v v' : Value) (S S' : Nat → Prop) (w : World) (ht : Tm.sl S w ts v) (hu : Tm.sl S' w us v')
    (hc : Hid (∀ (j : Nat) (t u : Tm) (vt vu : Value) (w' : World), ts[j]? = some t → us[j]? = some u → Ext w w' → Tm.at S w' t vt → Tm.at S' w' u vu →
      Calls Try.prog 52 #[vt, vu] w' fun e w'' => e = .returned (.int .i64 (cmpF t u)) ∧ Ext w' w'')) :
    Calls Try.prog 88 #[v, v', .func (.func 52) #[] #[]] w fun e w' => e = .returned (.int .i64 (cmpL ts us)) ∧ Ext w w' := by
  obtain ⟨a, cap, rfl, h1, h2, h3, h4⟩ := ht
  obtain ⟨a', cap', rfl, h1', h2', h3', h4'⟩ := hu
  have H4 := Lib.hid h4
  have H4' := Lib.hid h4'
  clear h4 h4'
  go_enter Try.func88, Try.ntmps88
  go_wp2_with fail
  go_loopw [7, 8, 9, 10, 13] (fun _ _ _ _ i wr => ∃ k : Nat, k ≤ ts.length ∧ k ≤ us.length ∧ i = .int .i64 k ∧ Hid (cmpL ts us = cmpL (ts.drop k) (us.drop k)) ∧ Hid (Ext w wr)) (fun _ _ _ _ i _ => ts.length - (intOf i).toNat)
  case atStart => exact ⟨0, Nat.zero_le _, Nat.zero_le _, rfl, Lib.hid (by simp), Lib.hid (Ext.refl _)⟩
  case round =>
    obtain ⟨k, hk, hk', rfl, HS, HE⟩ := hrel
    by_cases hlt : k < ts.length
    · obtain ⟨tk, htk⟩ := getk hlt
      by_cases hlt' : k < us.length
      · obtain ⟨uk, huk⟩ := getk hlt'
        obtain ⟨b, off, b', off', ak, ck, ak', ck', rfl, rfl, ⟨c1, c2, c3, c4, hat⟩, ⟨d1, d2, d3, d4, hat'⟩⟩ := pair_get H4.out H4'.out htk huk HE.out
        have HC := Lib.hid (fun w' e' => hc.out k tk uk _ _ w' htk huk (HE.out.trans e') (Tm.at_ext (HE.out.trans e') hat) (Tm.at_ext (HE.out.trans e') hat'))
        have HST := Lib.hid (cmpL_step htk huk)
        have hb := block_lt_of_cell c1
        have hb' := block_lt_of_cell d1
        clear htk huk hat hat'
        simp only at hb hb'
        by_cases hz : cmpF tk uk = 0
        · have hz' : (cmpF tk uk != 0) = false := by simp [bne, hz]
          have HZ := Lib.hid hz
          have hf : Hid (cmpL ts us = cmpL (ts.drop (k + 1)) (us.drop (k + 1))) := Lib.hid (by rw [HS.out, HST.out, hz, orI_0])
          clear hz
          go_wp2_with fail
          refine (HC.out _ ((Ext.alloc _ _).trans (Ext.alloc _ _))).mono ?_
          rintro e w' ⟨rfl, e'⟩
          go_wp2_with fail
          go_roundw
          case rel => exact ⟨k + 1, by omega, by omega, by go_num, hf, Lib.hid (HE.out.trans (((Ext.alloc _ _).trans (Ext.alloc _ _)).trans e'))⟩
          case measure => simp [intOf]; omega
        · have hz' : (cmpF tk uk != 0) = true := by simp [bne, hz]
          have hf : Hid (cmpL ts us = cmpF tk uk) := Lib.hid (by rw [HS.out, HST.out, orI_ne hz])
          clear hz
          go_wp2_with fail
          refine (HC.out _ ((Ext.alloc _ _).trans (Ext.alloc _ _))).mono ?_
          rintro e w' ⟨rfl, e'⟩
          go_wp2_with fail
          go_ret
          exact ⟨retI hf.out.symm, HE.out.trans (((Ext.alloc _ _).trans (Ext.alloc _ _)).trans e')⟩
      · have hf : Hid (cmpL ts us = 1) := Lib.hid (by rw [HS.out, cmpL_over hlt (by omega)])
        rcases H4.out with h4 | ⟨b, off, rfl, hSb, hrow⟩
        · rw [h4] at htk; simp at htk
        obtain ⟨ak, ck, c1, c2, c3, c4, hat⟩ := Tm.at_of_cells (Tm.row_get hrow k tk htk)
        have c1 := HE.out.cell c1
        have c2 := HE.out.cell c2
        have c3 := HE.out.cell c3
        have c4 := HE.out.cell c4
        clear htk hat hrow hSb
        go_wp2_with fail
        go_ret
        exact ⟨retI hf.out.symm, HE.out.trans (Ext.alloc _ _)⟩
    · by_cases hlt' : k < us.length
      · have hf : Hid (cmpL ts us = -1) := Lib.hid (by rw [HS.out, cmpL_under (by omega) hlt'])
        have hq : ts.length < us.length := by omega
        go_wp2_with fail
        go_ret
        exact ⟨retI hf.out.symm, HE.out⟩
      · have hf : Hid (cmpL ts us = 0) := Lib.hid (by rw [HS.out, cmpL_end (by omega) (by omega)])
        have hq : ¬ ts.length < us.length := by omega
        go_wp2_with fail
        go_ret
        exact ⟨retI hf.out.symm, HE.out⟩

end Go.Proofs.Ytmbapobjopbceaa
