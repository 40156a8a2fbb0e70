/-
  What the functions on names return (l1Word, l1Has, l1Signs, NameValid; isLetters, symbols, Contains at strings, NameValid): whatever the name.
-/
import Derived.Test.YtognkaebiafgbaaRows
import Derived.WalkLawsBesides
import Derived.Lib.Hide
import Derived.Deep.QuietTactic
import Derived.BigQuiet
import Derived.Test.YtognkaebiafgbaaMu1
namespace Go.Proofs.Ytognkaebiafgbaa
open Go.RowKit
set_option linter.unusedVariables false
def wordB (c : UInt8) : Bool := !(decide (c.toNat < 97) || decide (122 < c.toNat))
def wordF (l : List UInt8) : Bool := l.all wordB && (decide (1 ≤ l.length) && decide (l.length ≤ 6))
theorem wordF_no {l : List UInt8} {k : Nat} (h : k < l.length) (hc : wordB l[k] = false) : wordF l = false := by
  unfold wordF
  have : l.all wordB = false := by
    rw [List.all_eq_false]
    exact ⟨l[k], List.getElem_mem h, by simp [hc]⟩
  simp [this]
theorem all_take_snoc {l : List UInt8} {k : Nat} (h : k < l.length) (ha : (l.take k).all wordB = true) (hc : wordB l[k] = true) : (l.take (k + 1)).all wordB = true := by
  rw [List.take_succ_eq_append_getElem h, List.all_append, ha]
  simp [hc]
theorem round_word {s : ByteArray} {k : Nat} (h : k < s.size) (ha : (s.toList.take k).all wordB = true) (h1 : ¬ (s[k].toNat : Int) < 97) (h2 : ¬ (122 : Int) < s[k].toNat) : (s.toList.take (k + 1)).all wordB = true :=
  all_take_snoc (by rw [bl_len]; exact h) ha (by rw [bl_get s k h]; simp only [wordB]; simp; omega)
theorem stop_word1 {s : ByteArray} {k : Nat} (h : k < s.size) (h1 : (s[k].toNat : Int) < 97) : wordF s.toList = false :=
  wordF_no (by rw [bl_len]; exact h) (by rw [bl_get s k h]; simp only [wordB]; simp; omega)
theorem stop_word2 {s : ByteArray} {k : Nat} (h : k < s.size) (h1 : (122 : Int) < s[k].toNat) : wordF s.toList = false :=
  wordF_no (by rw [bl_len]; exact h) (by rw [bl_get s k h]; simp only [wordB]; simp; omega)
theorem end_word {s : ByteArray} {k : Nat} (hk : k ≤ s.size) (hlt : ¬ k < s.size) (ha : (s.toList.take k).all wordB = true) : wordF s.toList = (decide (1 ≤ s.size) && decide (s.size ≤ 6)) := by
  rw [List.take_of_length_le (by rw [bl_len]; omega)] at ha
  simp [wordF, ha, bl_len]
set_option maxHeartbeats 400000 in
theorem specl1Word (s : ByteArray) (w : World) (hs : s.size ≤ 1048576) : Calls Try.prog 48 #[.string s] w fun e w' => e = .returned (.bool (wordF s.toList)) ∧ w = w' := by
  go_enter Try.func48, Try.ntmps48
  go_wp2_with fail
  go_loop [3] (fun i => ∃ k : Nat, k ≤ s.size ∧ i = .int .i64 k ∧ (s.toList.take k).all wordB = true) (fun i => s.size - (intOf i).toNat)
  case atStart => exact ⟨0, Nat.zero_le _, rfl, rfl⟩
  case round =>
    obtain ⟨k, hk, rfl, ha⟩ := hrel
    have Ha := Lib.hid ha
    clear ha
    by_cases hlt : k < s.size
    · by_cases h1 : (s[k].toNat : Int) < 97
      · have hf := Lib.hid (stop_word1 hlt h1)
        go_wp2_with fail
        go_ret
        exact ⟨retB hf.out.symm, rfl⟩
      · by_cases h2 : (122 : Int) < s[k].toNat
        · have hf := Lib.hid (stop_word2 hlt h2)
          go_wp2_with fail
          go_ret
          exact ⟨retB hf.out.symm, rfl⟩
        · have hf := Lib.hid (round_word hlt Ha.out h1 h2)
          go_wp2_with fail
          go_round
          case rel => exact ⟨k + 1, by omega, by go_num, hf.out⟩
          case measure => simp [intOf]; omega
    · have hf := Lib.hid (end_word hk hlt Ha.out)
      by_cases h1 : 1 ≤ s.size
      · by_cases h2 : s.size ≤ 6
        all_goals
          go_wp2_with fail
          go_ret
          exact ⟨by rw [hf.out]; simp [h1, h2]; try omega, rfl⟩
      · go_wp2_with fail
        go_ret
        exact ⟨by rw [hf.out]; simp; omega, rfl⟩
set_option maxHeartbeats 400000 in
theorem implwithin (n lo hi : Int) (w : World) : Calls Try.prog 43 #[.int .i64 n, .int .i64 lo, .int .i64 hi] w fun e w' => e = .returned (.bool (decide (lo ≤ n) && decide (n ≤ hi))) ∧ w = w' := by
  by_cases h1 : lo ≤ n
  · by_cases h2 : n ≤ hi
    all_goals
      go_enter Try.func43, Try.ntmps43
      go_wp2
      go_ret
      exact ⟨by simp [h1, h2]; try omega, rfl⟩
  · go_enter Try.func43, Try.ntmps43
    go_wp2
    go_ret
    exact ⟨by simp; omega, rfl⟩
set_option maxHeartbeats 400000 in
theorem implisLetters (s : ByteArray) (w : World) (hs : s.size ≤ 1048576) : Calls Try.prog 31 #[.string s] w fun e w' => e = .returned (.bool (wordF s.toList)) ∧ w = w' := by
  go_enter Try.func31, Try.ntmps31
  go_wp2_with fail
  go_loop [3, 6] (fun _ i => ∃ k : Nat, k ≤ s.size ∧ i = .int .i64 k ∧ (s.toList.take k).all wordB = true) (fun _ i => s.size - (intOf i).toNat)
  case atStart => exact ⟨0, Nat.zero_le _, rfl, rfl⟩
  case round =>
    obtain ⟨k, hk, rfl, ha⟩ := hrel
    have Ha := Lib.hid ha
    clear ha
    by_cases hlt : k < s.size
    · by_cases h1 : (s[k].toNat : Int) < 97
      · have hf := Lib.hid (stop_word1 hlt h1)
        go_wp2_with fail
        go_ret
        exact ⟨retB hf.out.symm, rfl⟩
      · by_cases h2 : (122 : Int) < s[k].toNat
        · have hf := Lib.hid (stop_word2 hlt h2)
          go_wp2_with fail
          go_ret
          exact ⟨retB hf.out.symm, rfl⟩
        · have hf := Lib.hid (round_word hlt Ha.out h1 h2)
          go_wp2_with fail
          go_round
          case rel => exact ⟨k + 1, by omega, by go_num, hf.out⟩
          case measure => simp [intOf]; omega
    · have hf := Lib.hid (end_word hk hlt Ha.out)
      go_wp2_with (go_at_call 43; refine (implwithin _ _ _ _).mono ?_; rintro e w' ⟨rfl, rfl⟩)
      all_goals (go_ret; exact ⟨retB (by rw [hf.out]; congr 1 <;> simp <;> omega), rfl⟩)
theorem bq (a b : List UInt8) : (a == b) = (b == a) := by
  rw [Bool.eq_iff_iff]
  simp only [beq_iff_eq]
  exact ⟨Eq.symm, Eq.symm⟩
def hasF (ss : List ByteArray) (s : ByteArray) : Bool := ss.any fun x => x.toList == s.toList
theorem has_no {ss : List ByteArray} {s : ByteArray} (h : (ss.take ss.length).any (fun x => x.toList == s.toList) = false) : hasF ss s = false := by
  rw [List.take_length] at h; exact h
theorem has_yes {ss : List ByteArray} {s x : ByteArray} {k : Nat} (h : ss[k]? = some x) (he : (x.toList == s.toList) = true) : hasF ss s = true := by
  unfold hasF
  rw [List.any_eq_true]
  exact ⟨x, List.mem_of_getElem? h, he⟩
theorem has_snoc {ss : List ByteArray} {s x : ByteArray} {k : Nat} (hk : k < ss.length) (h : ss[k]? = some x) (ha : (ss.take k).any (fun x => x.toList == s.toList) = false) (he : (x.toList == s.toList) = false) :
    (ss.take (k + 1)).any (fun x => x.toList == s.toList) = false := by
  have : x = ss[k] := by simpa [List.getElem?_eq_getElem hk] using h.symm
  subst this
  rw [List.take_succ_eq_append_getElem hk, List.any_append, ha]
  simp [he]
set_option maxHeartbeats 400000 in
theorem specl1Has (ss : List ByteArray) (v : Value) (s : ByteArray) (w : World) (hv : StrsAt w ss v) : Calls Try.prog 62 #[v, .string s] w fun e w' => e = .returned (.bool (hasF ss s)) ∧ w = w' := by
  obtain ⟨a, cap, rfl, h1, h2, h3, h4⟩ := hv
  go_enter Try.func62, Try.ntmps62
  go_wp2_with fail
  go_loop [5] (fun i => ∃ k : Nat, k ≤ ss.length ∧ i = .int .i64 k ∧ (ss.take k).any (fun x => x.toList == s.toList) = false) (fun i => ss.length - (intOf i).toNat)
  case atStart => exact ⟨0, Nat.zero_le _, rfl, rfl⟩
  case round =>
    obtain ⟨k, hk, rfl, ha⟩ := hrel
    have Ha := Lib.hid ha
    clear ha
    by_cases hlt : k < ss.length
    · rcases h4 with h4 | ⟨b, off, rfl, h5⟩
      · subst h4; simp at hlt
      · obtain ⟨x, hx⟩ : ∃ x, ss[k]? = some x := ⟨ss[k], by simp [hlt]⟩
        have hc := h5 k x hx
        have Hx := Lib.hid hx
        clear hx h5 h3
        cases he : (x.toList == s.toList)
        · have hf := Lib.hid (has_snoc hlt Hx.out Ha.out he)
          go_wp2_with fail
          go_round
          case rel => exact ⟨k + 1, by omega, by go_num, hf.out⟩
          case measure => simp [intOf]; omega
        · have hf := Lib.hid (has_yes Hx.out he)
          go_wp2_with fail
          go_ret
          exact ⟨retB hf.out.symm, rfl⟩
    · have hf := Lib.hid (has_no (ss := ss) (s := s) (by rw [show ss.length = k by omega]; exact Ha.out))
      go_wp2_with fail
      go_ret
      exact ⟨retB hf.out.symm, rfl⟩
set_option maxHeartbeats 400000 in
theorem slicesIndexS (ss : List ByteArray) (v : Value) (s : ByteArray) (w : World) (hv : StrsAt w ss v) : Calls Try.prog 61 #[v, .string s] w fun e w' => ∃ n : Int, e = .returned (.int .i64 n) ∧ decide (0 ≤ n) = hasF ss s ∧ w = w' := by
  obtain ⟨a, cap, rfl, h1, h2, h3, h4⟩ := hv
  go_enter Try.func61, Try.ntmps61
  go_wp2_with fail
  go_loop [5, 8] (fun _ i => ∃ k : Nat, k ≤ ss.length ∧ i = .int .i64 k ∧ (ss.take k).any (fun x => x.toList == s.toList) = false) (fun _ i => ss.length - (intOf i).toNat)
  case atStart => exact ⟨0, Nat.zero_le _, rfl, rfl⟩
  case round =>
    obtain ⟨k, hk, rfl, ha⟩ := hrel
    have Ha := Lib.hid ha
    clear ha
    by_cases hlt : k < ss.length
    · rcases h4 with h4 | ⟨b, off, rfl, h5⟩
      · subst h4; simp at hlt
      · obtain ⟨x, hx⟩ : ∃ x, ss[k]? = some x := ⟨ss[k], by simp [hlt]⟩
        have hc := h5 k x hx
        have Hx := Lib.hid hx
        clear hx h5 h3
        cases he : (x.toList == s.toList)
        · have hf := Lib.hid (has_snoc hlt Hx.out Ha.out he)
          have he2 : (s.toList == x.toList) = false := by rw [← he]; exact bq _ _
          go_wp2_with fail
          go_round
          case rel => exact ⟨k + 1, by omega, by go_num, hf.out⟩
          case measure => simp [intOf]; omega
        · have hf := Lib.hid (has_yes Hx.out he)
          have he2 : (s.toList == x.toList) = true := by rw [← he]; exact bq _ _
          go_wp2_with fail
          go_ret
          exact ⟨_, rfl, by rw [hf.out]; exact decide_eq_true (by omega), rfl⟩
    · have hf := Lib.hid (has_no (ss := ss) (s := s) (by rw [show ss.length = k by omega]; exact Ha.out))
      go_wp2_with fail
      go_ret
      exact ⟨_, rfl, by rw [hf.out]; rfl, rfl⟩
set_option maxHeartbeats 400000 in
theorem slicesContainsS (ss : List ByteArray) (v : Value) (s : ByteArray) (w : World) (hv : StrsAt w ss v) : Calls Try.prog 53 #[v, .string s] w fun e w' => e = .returned (.bool (hasF ss s)) ∧ w = w' := by
  go_enter Try.func53, Try.ntmps53
  go_wp2_with (go_at_call 61; refine (slicesIndexS ss v s _ hv).mono ?_; rintro e w' ⟨n, rfl, hn, rfl⟩; have Hn := Lib.hid hn; clear hn)
  all_goals (go_ret; exact ⟨retB Hn.out, rfl⟩)
def signs : List ByteArray := [⟨#[43]⟩, ⟨#[45]⟩, ⟨#[42]⟩, ⟨#[47, 47]⟩, ⟨#[61]⟩, ⟨#[92, 61]⟩, ⟨#[61, 61]⟩, ⟨#[60]⟩, ⟨#[62]⟩, ⟨#[61, 60]⟩, ⟨#[62, 61]⟩, ⟨#[61, 58, 61]⟩, ⟨#[46]⟩, ⟨#[91, 93]⟩, ⟨#[33]⟩]
theorem strs_new (w : World) (T : Nat) : StrsAt (w.alloc (.cells #[.string ⟨#[43]⟩, .string ⟨#[45]⟩, .string ⟨#[42]⟩, .string ⟨#[47, 47]⟩, .string ⟨#[61]⟩, .string ⟨#[92, 61]⟩, .string ⟨#[61, 61]⟩, .string ⟨#[60]⟩, .string ⟨#[62]⟩, .string ⟨#[61, 60]⟩, .string ⟨#[62, 61]⟩, .string ⟨#[61, 58, 61]⟩, .string ⟨#[46]⟩, .string ⟨#[91, 93]⟩, .string ⟨#[33]⟩] T)) signs (.slice (some ⟨w.heap.size, 0, none⟩) 15 15) := by
  refine ⟨_, _, rfl, by decide, by decide, by decide, .inr ⟨w.heap.size, 0, rfl, fun i s h => ?_⟩⟩
  have hi : i < 15 := by
    have := (List.getElem?_eq_some_iff.1 h).1
    simpa [signs] using this
  revert s
  rcases i with _ | _ | _ | _ | _ | _ | _ | _ | _ | _ | _ | _ | _ | _ | _ | i
  all_goals first | omega | (intro s h; simp [signs] at h; subst h; exact cell_new _ _ _ _ _ rfl)
set_option maxHeartbeats 400000 in
theorem specl1Signs (w : World) : Calls Try.prog 63 #[] w fun e w' => ∃ v, e = .returned v ∧ StrsAt w' signs v ∧ Ext w w' := by
  go_enter Try.func63, Try.ntmps63
  go_wp2
  go_ret
  exact ⟨_, rfl, strs_new w _, Ext.alloc _ _⟩
set_option maxHeartbeats 400000 in
theorem implsymbols (w : World) : Calls Try.prog 54 #[] w fun e w' => ∃ v, e = .returned v ∧ StrsAt w' signs v ∧ Ext w w' := by
  go_enter Try.func54, Try.ntmps54
  go_wp2
  go_ret
  exact ⟨_, rfl, strs_new w _, Ext.alloc _ _⟩
def nameF (s : ByteArray) : Bool := wordF s.toList || hasF signs s
set_option maxHeartbeats 400000 in
theorem specNameValid (s : ByteArray) (w : World) (hs : s.size ≤ 1048576) : Calls Try.prog 55 #[.string s] w fun e w' => e = .returned (.bool (nameF s)) ∧ Ext w w' := by
  cases hw : wordF s.toList
  · go_enter Try.func55, Try.ntmps55
    go_wp2_with (first | (go_at_call 48; refine (specl1Word s _ hs).mono ?_; rw [hw]; rintro e w' ⟨rfl, rfl⟩) | (go_at_call 63; refine (specl1Signs _).mono ?_; rintro e w1 ⟨v, rfl, hv, he⟩) | (go_at_call 62; refine (specl1Has signs _ s _ hv).mono ?_; rintro e w' ⟨rfl, rfl⟩))
    go_ret
    exact ⟨retB (by simp [nameF, hw]), he⟩
  · go_enter Try.func55, Try.ntmps55
    go_wp2_with (go_at_call 48; refine (specl1Word s _ hs).mono ?_; rw [hw]; rintro e w' ⟨rfl, rfl⟩)
    go_ret
    exact ⟨retB (by simp [nameF, hw]), Ext.refl _⟩
set_option maxHeartbeats 400000 in
theorem implNameValid (s : ByteArray) (w : World) (hs : s.size ≤ 1048576) : Calls Try.prog 44 #[.string s] w fun e w' => e = .returned (.bool (nameF s)) ∧ Ext w w' := by
  cases hw : wordF s.toList
  · go_enter Try.func44, Try.ntmps44
    go_wp2_with (first | (go_at_call 31; refine (implisLetters s _ hs).mono ?_; rw [hw]; rintro e w' ⟨rfl, rfl⟩) | (go_at_call 54; refine (implsymbols _).mono ?_; rintro e w1 ⟨v, rfl, hv, he⟩) | (go_at_call 53; refine (slicesContainsS signs _ s _ hv).mono ?_; rintro e w' ⟨rfl, rfl⟩))
    go_ret
    exact ⟨retB (by simp [nameF, hw]), he⟩
  · go_enter Try.func44, Try.ntmps44
    go_wp2_with (go_at_call 31; refine (implisLetters s _ hs).mono ?_; rw [hw]; rintro e w' ⟨rfl, rfl⟩)
    go_ret
    exact ⟨retB (by simp [nameF, hw]), Ext.refl _⟩
end Go.Proofs.Ytognkaebiafgbaa
