/-
  The reference's readers: l1Name.
-/
import Derived.Test.YtognkaebiafgbaaMu27
namespace Go.Proofs.Ytognkaebiafgbaa
open Go.RowKit
set_option linter.unusedVariables false
def SpNm (s : ByteArray) (X : Option (List UInt8 × List UInt8)) (w : World) (e : Ending) (w' : World) : Prop :=
  ∃ i, e = .returned (.tuple #[.string (bs ((X.map Prod.fst).getD [])), .int .i64 i]) ∧ Ext w w' ∧ AtR s (X.map Prod.snd) i
def sgS (r : List UInt8) (n : Nat) (s : ByteArray) : Nat := if s.toList.isPrefixOf r = true then max n s.size else n
theorem sgS_le {r : List UInt8} {n : Nat} {s : ByteArray} (h : n ≤ r.length) : sgS r n s ≤ r.length := by
  unfold sgS
  split
  · rename_i hp
    have := (List.isPrefixOf_iff_prefix.1 hp).length_le
    rw [bl_len] at this
    omega
  · exact h
theorem sgS_snoc {r : List UInt8} {ss : List ByteArray} {j : Nat} {x : ByteArray} (h : ss[j]? = some x) : (ss.take (j + 1)).foldl (sgS r) 0 = sgS r ((ss.take j).foldl (sgS r) 0) x := by
  have hj : j < ss.length := by
    apply Decidable.byContradiction
    intro hn
    rw [List.getElem?_eq_none (by omega)] at h
    cases h
  have hx : ss[j] = x := by rw [List.getElem?_eq_getElem hj] at h; exact Option.some.inj h
  rw [List.take_succ_eq_append_getElem hj, List.foldl_append, hx]
  rfl
theorem tw_at {p : UInt8 → Bool} {r : List UInt8} {k : Nat} (hk : k ≤ r.length) (h1 : ∀ c ∈ r.take k, p c = true) (h2 : hdB p (some (r.drop k)) = false) : r.takeWhile p = r.take k ∧ r.dropWhile p = r.drop k := by
  have hr : r = r.take k ++ r.drop k := (List.take_append_drop k r).symm
  have e1 : (r.drop k).takeWhile p = [] := by
    cases h : r.drop k with
    | nil => rfl
    | cons c q =>
      rw [h] at h2
      have hc : p c = false := h2
      rw [List.takeWhile_cons_of_neg (by rw [hc]; decide)]
  have e2 : (r.drop k).dropWhile p = r.drop k := by
    cases h : r.drop k with
    | nil => rfl
    | cons c q =>
      rw [h] at h2
      have hc : p c = false := h2
      rw [List.dropWhile_cons_of_neg (by rw [hc]; decide)]
  refine ⟨?_, ?_⟩
  · conv => lhs; rw [hr]
    rw [List.takeWhile_append_of_pos h1, e1, List.append_nil]
  · conv => lhs; rw [hr]
    rw [List.dropWhile_append_of_pos h1, e2]
theorem tw_more {p : UInt8 → Bool} {r : List UInt8} {k : Nat} (h1 : ∀ c ∈ r.take k, p c = true) (h2 : hdB p (some (r.drop k)) = true) : k < r.length ∧ ∀ c ∈ r.take (k + 1), p c = true := by
  have hl : k < r.length := by
    apply Decidable.byContradiction
    intro hn
    rw [List.drop_eq_nil_of_le (by omega)] at h2
    cases h2
  refine ⟨hl, fun x hx => ?_⟩
  rw [List.take_succ_eq_append_getElem hl] at hx
  rcases List.mem_append.1 hx with hx | hx
  · exact h1 x hx
  · rw [List.mem_singleton.1 hx]
    rw [List.drop_eq_getElem_cons hl] at h2
    exact h2
theorem pre_take {x : ByteArray} {r : List UInt8} (h : x.toList.isPrefixOf r = true) : bs (r.take x.size) = x := by
  obtain ⟨q, hq⟩ := List.isPrefixOf_iff_prefix.1 h
  have : r.take x.size = x.toList := by rw [← hq, ← bl_len, List.take_left]
  rw [this, bs_of]
theorem pre_long {x : ByteArray} {r : List UInt8} (h : r.length < x.size) : x.toList.isPrefixOf r = false := by
  cases e : x.toList.isPrefixOf r with
  | false => rfl
  | true =>
    have := (List.isPrefixOf_iff_prefix.1 e).length_le
    rw [bl_len] at this
    omega
theorem ext_pre {s x : ByteArray} {n : Nat} {r : List UInt8} (hr : s.toList.drop n = r) : ((s.extract n (n + x.size)).toList == x.toList) = x.toList.isPrefixOf r := by
  have e : (s.extract n (n + x.size)).toList = r.take x.size := by
    rw [ByteArray.toList_eq, ByteArray.data_extract, Array.toList_extract, List.extract_eq_take_drop, ← ByteArray.toList_eq, hr, Nat.add_sub_cancel_left]
  rw [e, Bool.eq_iff_iff, beq_iff_eq]
  constructor
  · intro h
    rw [List.isPrefixOf_iff_prefix, ← h]
    exact List.take_prefix _ _
  · intro h
    obtain ⟨q, hq⟩ := List.isPrefixOf_iff_prefix.1 h
    rw [← hq, ← bl_len, List.take_left]
set_option maxRecDepth 100000 in
set_option maxHeartbeats 3000000 in
theorem specl1Name {s : ByteArray} {r : List UInt8} {i : Int} (hs : s.size ≤ 1048576) (hat : AtR s (some r) i) (w : World) :
    Calls Try.prog 72 #[.string s, .int .i64 i] w (SpNm s (nameP r) w) := by
  have hrl := hat.len
  obtain ⟨n, rfl, h1, h2⟩ := hat.good
  have H2 := Lib.hid h2
  clear h2 hat
  go_enter Try.func72, Try.ntmps72
  go_wp2_with fail
  go_loopw [6] (fun ev wr => ∃ k : Nat, k ≤ r.length ∧ ev = .int .i64 ((n + k : Nat) : Int) ∧ Hid (∀ c ∈ r.take k, smallB c = true) ∧ Hid (Ext w wr)) (fun ev _ => s.size + 1 - (intOf ev).toNat)
  case atStart => exact ⟨0, Nat.zero_le _, rfl, Lib.hid (by simp), Lib.hid (Ext.refl _)⟩
  case round =>
    obtain ⟨k, hk, rfl, HA, HE⟩ := hrel
    have hAt := AtR.mk (s := s) (n := n + k) (r := r.drop k) (by omega) (by rw [← List.drop_drop, H2.out])
    have SM := smallX hAt wr hs
    have HAt := Lib.hid hAt
    clear hAt
    cases hsm : hdB smallB (some (r.drop k))
    · rw [hsm] at SM
      have SM := Lib.hid SM
      have HTW := Lib.hid (tw_at hk HA.out hsm)
      have HT : Hid ((r.takeWhile smallB).length = k) := Lib.hid (by rw [HTW.out.1, List.length_take]; omega)
      clear hsm HA
      by_cases h6 : 6 < k
      · have HX : Hid (nameP r = none) := Lib.hid (by unfold nameP; rw [HT.out, if_pos h6])
        have c1 : (n : Int) + 6 < ((n + k : Nat) : Int) := by omega
        go_wp2_with fail
        refine SM.out.mono ?_
        rintro e w2 ⟨rfl, e2⟩
        have E2 := Lib.hid (HE.out.trans e2)
        clear e2
        go_wp2_with fail
        go_ret2
        rw [HX.out]
        exact ⟨-1, rfl, E2.out, AtR.no (by decide) (by decide)⟩
      · have c1 : ¬ (n : Int) + 6 < ((n + k : Nat) : Int) := by omega
        by_cases h0 : k = 0
        · subst h0
          go_wp2_with fail
          refine SM.out.mono ?_
          rintro e w2 ⟨rfl, e2⟩
          have E2 := Lib.hid (HE.out.trans e2)
          clear e2
          go_wp2_with fail
          refine (specl1Signs _).mono ?_
          rintro e w3 ⟨v, rfl, hv, e3⟩
          obtain ⟨av, cap, rfl, v1, v2, v3, v4⟩ := hv
          have V4 := Lib.hid v4
          have E3 := Lib.hid (E2.out.trans e3)
          clear e3 v4
          go_wp2_with fail
          go_loopw [7, 9] (fun q i wr => ∃ j m : Nat, j ≤ signs.length ∧ i = .int .i64 j ∧ q = .string (bs (r.take m)) ∧ Hid ((signs.take j).foldl (sgS r) 0 = m) ∧ m ≤ r.length ∧ Hid (Ext w3 wr)) (fun _ i _ => signs.length - (intOf i).toNat)
          case atStart => exact ⟨0, 0, Nat.zero_le _, rfl, rfl, Lib.hid rfl, Nat.zero_le _, Lib.hid (Ext.refl _)⟩
          case round =>
            obtain ⟨j, m, hj, rfl, rfl, HM, hm, HE3⟩ := hrel
            by_cases hjl : j < signs.length
            · rcases V4.out with h4 | ⟨bk, off, rfl, h5⟩
              · rw [h4] at hjl; simp at hjl
              · obtain ⟨x, hx⟩ : ∃ x, signs[j]? = some x := ⟨signs[j], by simp [hjl]⟩
                have hc := HE3.out.cell (h5 j x hx)
                have kc := cell_regrown hc
                have HS1 := Lib.hid (sgS_snoc (r := r) hx)
                have hxs := sgS_le (r := r) (n := m) (s := x) hm
                have hx3 : x.size ≤ 3 := (show ∀ y ∈ signs, y.size ≤ 3 by decide) x (List.mem_of_getElem? hx)
                have hbm : ((bs (r.take m)).size : Int) = m := by rw [bs_size, List.length_take]; omega
                rw [HM.out] at HS1
                clear hx h5
                by_cases hfit : n + x.size ≤ s.size
                · have hcmp := ext_pre (x := x) H2.out
                  have c2 : (n : Int) + (x.size : Int) ≤ (s.size : Int) := by omega
                  cases hp : x.toList.isPrefixOf r
                  · rw [hp] at hcmp
                    have hsg : sgS r m x = m := by unfold sgS; rw [if_neg (by rw [hp]; decide)]
                    have HN := Lib.hid (show (signs.take (j + 1)).foldl (sgS r) 0 = m by rw [HS1.out, hsg])
                    clear hp hsg
                    go_wp2_with fail
                    refine region_ext (by kernel_rfl) (by kernel_rfl) ?_
                    repeat (go_big_quiet_step (fail))
                    refine wpQuiet_nil ?_
                    intro w4 e4
                    have hc4 := e4.cell hc
                    go_wp2_with fail
                    exact ⟨⟨j + 1, m, by omega, by go_num, rfl, HN, hm, Lib.hid (HE3.out.trans e4)⟩, by simp [intOf]; omega⟩
                  · rw [hp] at hcmp
                    have hpt := pre_take hp
                    have hsg : sgS r m x = max m x.size := by unfold sgS; rw [if_pos hp]
                    by_cases hlen : m < x.size
                    · have HN := Lib.hid (show (signs.take (j + 1)).foldl (sgS r) 0 = x.size by rw [HS1.out, hsg]; omega)
                      have hxr : x.size ≤ r.length := by rw [hsg] at hxs; omega
                      have hd : decide (((bs (r.take m)).size : Int) < (x.size : Int)) = true := by rw [hbm]; exact decide_eq_true (by omega)
                      have hd2 : (bs (r.take m)).size < x.size := by omega
                      have HPT := Lib.hid hpt
                      clear hp hsg hpt hbm
                      go_wp2_with fail
                      refine region_ext (by kernel_rfl) (by kernel_rfl) ?_
                      repeat (go_big_quiet_step (fail))
                      refine wpQuiet_nil ?_
                      intro w4 e4
                      have hc4 := e4.cell hc
                      go_wp2_with fail
                      exact ⟨⟨j + 1, x.size, by omega, by go_num, (by rw [HPT.out]), HN, hxr, Lib.hid (HE3.out.trans e4)⟩, by simp [intOf]; omega⟩
                    · have HN := Lib.hid (show (signs.take (j + 1)).foldl (sgS r) 0 = m by rw [HS1.out, hsg]; omega)
                      have hd : decide (((bs (r.take m)).size : Int) < (x.size : Int)) = false := by rw [hbm]; exact decide_eq_false (by omega)
                      have hd2 : ¬ (bs (r.take m)).size < x.size := by omega
                      clear hp hsg hpt hbm
                      go_wp2_with fail
                      refine region_ext (by kernel_rfl) (by kernel_rfl) ?_
                      repeat (go_big_quiet_step (fail))
                      refine wpQuiet_nil ?_
                      intro w4 e4
                      have hc4 := e4.cell hc
                      go_wp2_with fail
                      exact ⟨⟨j + 1, m, by omega, by go_num, rfl, HN, hm, Lib.hid (HE3.out.trans e4)⟩, by simp [intOf]; omega⟩
                · have c2 : decide ((n : Int) + (x.size : Int) ≤ (s.size : Int)) = false := decide_eq_false (by omega)
                  have hsg : sgS r m x = m := by unfold sgS; rw [if_neg (by rw [pre_long (by omega)]; decide)]
                  have HN := Lib.hid (show (signs.take (j + 1)).foldl (sgS r) 0 = m by rw [HS1.out, hsg])
                  clear hsg
                  go_wp2_with fail
                  refine region_ext (by kernel_rfl) (by kernel_rfl) ?_
                  repeat (go_big_quiet_step (fail))
                  refine wpQuiet_nil ?_
                  intro w4 e4
                  have hc4 := e4.cell hc
                  go_wp2_with fail
                  exact ⟨⟨j + 1, m, by omega, by go_num, rfl, HN, hm, Lib.hid (HE3.out.trans e4)⟩, by simp [intOf]; omega⟩
            · have hm' : signN r = m := by
                have := HM.out
                rw [List.take_of_length_le (by omega)] at this
                exact this
              by_cases hm0 : m = 0
              · subst hm0
                have HX : Hid (nameP r = none) := Lib.hid (by unfold nameP; rw [HT.out, if_neg (by omega), if_neg (by omega), if_pos hm'])
                have hbe : (bs []).toList.isEmpty = true := by rw [bs_list]; rfl
                have hbe2 : (bs []).toList = [] := bs_list _
                have E4 := Lib.hid (E3.out.trans HE3.out)
                clear hm'
                go_wp2_with fail
                go_ret2
                rw [HX.out]
                exact ⟨-1, rfl, E4.out, AtR.no (by decide) (by decide)⟩
              · have HX : Hid (nameP r = some (r.take m, r.drop m)) := Lib.hid (by unfold nameP; rw [HT.out, if_neg (by omega), if_neg (by omega), if_neg (by omega), hm'])
                have hbe2 : ¬ (bs (r.take m)).toList = [] := by
                  rw [bs_list]
                  intro e
                  have h9 : (r.take m).length = m := by rw [List.length_take]; omega
                  rw [e] at h9
                  exact hm0 h9.symm
                have hbe : (bs (r.take m)).toList.isEmpty = false := by
                  cases h : (bs (r.take m)).toList with
                  | nil => exact absurd h hbe2
                  | cons a b => rfl
                have hbm : ((bs (r.take m)).size : Int) = m := by rw [bs_size, List.length_take]; omega
                have E4 := Lib.hid (E3.out.trans HE3.out)
                have HA4 := Lib.hid (show AtR s (some (r.drop m)) ((n : Int) + m) from (by
                  rw [show (n : Int) + (m : Int) = ((n + m : Nat) : Int) by omega]
                  exact AtR.mk (by omega) (by rw [← List.drop_drop, H2.out])))
                clear hm'
                go_wp2_with fail
                go_ret2
                rw [HX.out]
                exact ⟨(n : Int) + m, by first | rfl | simp, E4.out, HA4.out⟩
        · have HX : Hid (nameP r = some (r.take k, r.drop k)) := Lib.hid (by unfold nameP; rw [HT.out, if_neg h6, if_pos (by omega), HTW.out.1, HTW.out.2])
          have hex : s.extract n (n + k) = bs (r.take k) := ext_bs' (l := r.take k) (r := r.drop k) (by rw [H2.out, List.take_append_drop]) (by rw [List.length_take]; omega)
          have HEX := Lib.hid hex
          clear hex
          have c3 : (n : Int) < ((n + k : Nat) : Int) := by omega
          have hkc : n + k ≤ s.size := by omega
          go_wp2_with fail
          refine SM.out.mono ?_
          rintro e w2 ⟨rfl, e2⟩
          have E2 := Lib.hid (HE.out.trans e2)
          clear e2
          go_wp2_with fail
          go_ret2
          rw [HX.out]
          refine ⟨(n : Int) + (k : Int), ?_, E2.out, ?_⟩
          · show Ending.returned (.tuple #[.string (s.extract n (n + k)), .int .i64 ((n : Int) + (k : Int))]) = _
            rw [HEX.out]
            rfl
          · rw [show (n : Int) + (k : Int) = ((n + k : Nat) : Int) by omega]
            exact HAt.out
    · rw [hsm] at SM
      have SM := Lib.hid SM
      obtain ⟨hkl, hN⟩ := tw_more HA.out hsm
      have HN := Lib.hid hN
      have hkc : n + k < s.size := by omega
      clear hsm hN HA
      go_wp2_with fail
      refine SM.out.mono ?_
      rintro e w2 ⟨rfl, e2⟩
      have E2 := Lib.hid (HE.out.trans e2)
      clear e2
      go_wp2_with fail
      exact ⟨⟨k + 1, by omega, by go_num, HN, E2⟩, by simp [intOf]; omega⟩
end Go.Proofs.Ytognkaebiafgbaa
