/-
  The reference's readers: offsets; l1Sign; l18Num at some digits.
-/
import Derived.Deep.CutBlock
import Derived.Deep.LoopGhost
import Derived.Test.YtognkaebiafgbaaMu24
import Derived.Test.YtognkaebiafgbaaMu26
import Derived.Test.YtognkaebiafgbaaMu20
import Derived.Test.YtognkaebiafgbaaMu4
namespace Go.Proofs.Ytognkaebiafgbaa
open Go.RowKit
set_option linter.unusedVariables false
def AtR (s : ByteArray) (X : Option (List UInt8)) (i : Int) : Prop := (∀ r, X = some r → ∃ n : Nat, i = n ∧ n ≤ s.size ∧ s.toList.drop n = r) ∧ (X = none → i < 0 ∧ -1048576 ≤ i)
theorem AtR.mk {s : ByteArray} {n : Nat} {r : List UInt8} (h1 : n ≤ s.size) (h2 : s.toList.drop n = r) : AtR s (some r) (n : Int) := ⟨fun q e => by cases e; exact ⟨n, rfl, h1, h2⟩, fun e => by cases e⟩
theorem AtR.no {s : ByteArray} {i : Int} (h : i < 0) (h2 : -1048576 ≤ i) : AtR s none i := ⟨fun q e => (by cases e), fun _ => ⟨h, h2⟩⟩
theorem AtR.good {s : ByteArray} {r : List UInt8} {i : Int} (h : AtR s (some r) i) : ∃ n : Nat, i = n ∧ n ≤ s.size ∧ s.toList.drop n = r := h.1 r rfl
theorem AtR.bad {s : ByteArray} {i : Int} (h : AtR s none i) : i < 0 ∧ -1048576 ≤ i := h.2 rfl
def hdB (p : UInt8 → Bool) : Option (List UInt8) → Bool
  | some (b :: _) => p b
  | _ => false
theorem AtR.hd {s : ByteArray} {X : Option (List UInt8)} {i : Int} (h : AtR s X i) (p : UInt8 → Bool) : atB s.toList i p = hdB p X := by
  cases X with
  | none => exact atB_neg (by have := h.bad; omega)
  | some r =>
    obtain ⟨n, rfl, h1, h2⟩ := h.good
    rw [atB_nat]
    cases r with
    | nil =>
      have := List.drop_eq_nil_iff.1 h2
      rw [List.getElem?_eq_none this]
      rfl
    | cons b r =>
      have : s.toList[n]? = some b := by
        have := congrArg (fun l => l[0]?) h2
        simpa using this
      rw [this]
      rfl
theorem AtR.next {s : ByteArray} {b : UInt8} {r : List UInt8} {i : Int} (h : AtR s (some (b :: r)) i) : AtR s (some r) (i + 1) := by
  obtain ⟨n, rfl, h1, h2⟩ := h.good
  have hl : n < s.toList.length := by
    apply Decidable.byContradiction
    intro hn
    rw [List.drop_eq_nil_of_le (by omega)] at h2
    cases h2
  refine AtR.mk (n := n + 1) (by rw [bl_len] at hl; omega) ?_
  rw [← List.drop_drop, h2]
  rfl
theorem AtR.le {s : ByteArray} {X : Option (List UInt8)} {i : Int} (h : AtR s X i) (hs : s.size ≤ 1048576) : -1048576 ≤ i ∧ i ≤ 1048576 := by
  cases X with
  | none => have := h.bad; omega
  | some r => obtain ⟨n, rfl, h1, _⟩ := h.good; omega
theorem AtR.len {s : ByteArray} {r : List UInt8} {i : Int} (h : AtR s (some r) i) : i + r.length = s.size := by
  obtain ⟨n, rfl, h1, h2⟩ := h.good
  have := congrArg List.length h2
  rw [List.length_drop, bl_len] at this
  omega
theorem u8_eqd (a b : UInt8) : ((a.toNat : Int) == (b.toNat : Int)) = decide (a = b) := by
  rw [Bool.eq_iff_iff]
  simp only [beq_iff_eq, decide_eq_true_eq]
  constructor
  · intro h; exact UInt8.toNat_inj.1 (by omega)
  · rintro rfl; rfl
def isB (c b : UInt8) : Bool := decide (b = c)
set_option maxRecDepth 100000 in
set_option maxHeartbeats 1000000 in
theorem specl1Sign (s : ByteArray) (i : Int) (c : UInt8) (m : Int) (hm : m = c.toNat) (w : World) (hs : s.size ≤ 1048576) :
    Calls Try.prog 57 #[.string s, .int .i64 i, .int .u8 m] w fun e w' => e = .returned (.bool (atB s.toList i (isB c))) ∧ Ext w w' := by
  subst hm
  by_cases h0 : 0 ≤ i
  · obtain ⟨n, rfl⟩ := Int.eq_ofNat_of_zero_le h0
    by_cases hn : n < s.size
    · have hat := atB_str (p := isB c) hn
      have heq := u8_eqd s[n] c
      have HF := Lib.hid (show atB s.toList (n : Int) (isB c) = ((s[n].toNat : Int) == (c.toNat : Int)) by rw [hat, heq]; rfl)
      clear hat heq
      go_enter Try.func57, Try.ntmps57
      go_wp2_with fail
      go_ret
      exact ⟨retB HF.out.symm, Ext.refl _⟩
    · have HF := Lib.hid (show atB s.toList (n : Int) (isB c) = false from atB_end (by rw [bl_len]; omega))
      go_enter Try.func57, Try.ntmps57
      go_wp2_with fail
      go_ret
      exact ⟨retB HF.out.symm, Ext.refl _⟩
  · have HF := Lib.hid (show atB s.toList i (isB c) = false from atB_neg h0)
    go_enter Try.func57, Try.ntmps57
    go_wp2_with fail
    go_ret
    exact ⟨retB HF.out.symm, Ext.refl _⟩
theorem signX {s : ByteArray} {X : Option (List UInt8)} {i : Int} (h : AtR s X i) (c : UInt8) (m : Int) (hm : m = c.toNat) (w : World) (hs : s.size ≤ 1048576) :
    Calls Try.prog 57 #[.string s, .int .i64 i, .int .u8 m] w fun e w' => e = .returned (.bool (hdB (isB c) X)) ∧ Ext w w' := by
  rw [← h.hd]
  exact specl1Sign s i c m hm w hs
theorem digitX {s : ByteArray} {X : Option (List UInt8)} {i : Int} (h : AtR s X i) (w : World) (hs : s.size ≤ 1048576) :
    Calls Try.prog 70 #[.string s, .int .i64 i] w fun e w' => e = .returned (.bool (hdB digitB X)) ∧ Ext w w' := by
  rw [← h.hd]
  exact specl1Digit s i w hs
theorem smallX {s : ByteArray} {X : Option (List UInt8)} {i : Int} (h : AtR s X i) (w : World) (hs : s.size ≤ 1048576) :
    Calls Try.prog 77 #[.string s, .int .i64 i] w fun e w' => e = .returned (.bool (hdB smallB X)) ∧ Ext w w' := by
  rw [← h.hd]
  exact specl1Small s i w hs
end Go.Proofs.Ytognkaebiafgbaa

namespace Go.Proofs.Ytognkaebiafgbaa
open Go.RowKit
set_option linter.unusedVariables false
def SpTm (s : ByteArray) (X : Option (Tm × List UInt8)) (w : World) (e : Ending) (w' : World) : Prop :=
  ∃ t a c i, e = .returned (.tuple #[.agg #[.int .i64 t.kind, .int .i64 t.n, .string t.name, .slice a t.kids.length c], .int .i64 i]) ∧ Tm.at (fun b => w.heap.size ≤ b) w' t (.agg #[.int .i64 t.kind, .int .i64 t.n, .string t.name, .slice a t.kids.length c]) ∧ Ext w w' ∧ AtR s (X.map Prod.snd) i ∧ (∀ u r, X = some (u, r) → t = u)
theorem at_zero (S : Nat → Prop) (w : World) (k n : Int) (nm : ByteArray) (h : nm.size ≤ 1048576) : Tm.at S w (.mk k n nm []) (.agg #[.int .i64 k, .int .i64 n, .string nm, .slice none 0 0]) :=
  Tm.at_iff.2 ⟨h, _, rfl, none, 0, by simp [Tm.kids], by simp [Tm.kids], by omega, by simp [Tm.kids], .inl rfl⟩
theorem bs_dig {ds : List UInt8} (h : AllD ds) {k : Nat} (hk : k < (bs ds).size) : 48 ≤ (bs ds)[k].toNat ∧ (bs ds)[k].toNat ≤ 57 := by
  have hl : k < ds.length := by rw [bs_size] at hk; exact hk
  show 48 ≤ (ds[k]'hl).toNat ∧ (ds[k]'hl).toNat ≤ 57
  exact dig_rng (h _ (List.getElem_mem hl))
theorem val_next {ds : List UInt8} {k : Nat} (hk : k < (bs ds).size) : valD (ds.take (k + 1)) = valD (ds.take k) * 10 + ((bs ds)[k].toNat - 48) := by
  have hl : k < ds.length := by rw [bs_size] at hk; exact hk
  rw [List.take_succ_eq_append_getElem hl, valD_snoc]
  rfl
theorem val_bd {ds : List UInt8} (h : AllD ds) (hl : ds.length ≤ 4) (k : Nat) : valD (ds.take k) ≤ 9999 := by
  have h1 := val_lt _ (ds.take k) (Nat.le_refl _) (h.take k)
  have h2 : (ds.take k).length ≤ 4 := by rw [List.length_take]; omega
  have h3 : 10 ^ (ds.take k).length ≤ 10 ^ 4 := Nat.pow_le_pow_right (by omega) h2
  omega
set_option maxRecDepth 100000 in
set_option maxHeartbeats 4000000 in
theorem specl18Num (ds : List UInt8) (w : World) (hd : AllD ds) (hne : ds ≠ []) (hl : ds.length ≤ 4) (N : Int) (B : Bool) (hY : canon ds = true → N = valD ds ∧ B = true) (hNo : canon ds = false → N = 0 ∧ B = false) :
    Calls Try.prog 76 #[.string (bs ds)] w fun e w' => e = .returned (.tuple #[.int .i64 N, .bool B]) ∧ Ext w w' := by
  have hsz := bs_size ds
  have hlp := List.length_pos_iff.2 hne
  have hpos : 0 < (bs ds).size := by rw [hsz]; exact hlp
  have h0 := bs_dig hd hpos
  have h45 : (((bs ds)[0].toNat : Int) == 45) = false := by rw [beq_eq_false_iff_ne]; omega
  have HD := Lib.hid hd
  have HL := Lib.hid hl
  have hz2 : ((ds.length : Int) == 0) = false := by rw [beq_eq_false_iff_ne]; omega
  have hhd : (((bs ds)[0].toNat : Int) == 48) = (ds.head? == some 48) := by
    cases ds with
    | nil => exact absurd rfl hne
    | cons c l =>
      rw [Bool.eq_iff_iff]
      simp only [beq_iff_eq, List.head?_cons, Option.some.injEq]
      show ((c.toNat : Int) = 48) ↔ c = 48
      constructor
      · intro h
        apply UInt8.toNat_inj.1
        have e48 : (48 : UInt8).toNat = 48 := rfl
        omega
      · rintro rfl; rfl
  have main : canon ds = true → (((bs ds)[0].toNat : Int) == 48) = true ∧ ds.length = 1 ∨ (((bs ds)[0].toNat : Int) == 48) = false := by
    intro hc
    rw [hhd]
    cases h : (ds.head? == some 48)
    · exact .inr rfl
    · refine .inl ⟨rfl, ?_⟩
      apply Decidable.byContradiction
      intro hn
      exact canon_no hc (by omega) (by simpa using h)
  cases hc : canon ds
  · obtain ⟨rfl, rfl⟩ := hNo hc
    have hh : (((bs ds)[0].toNat : Int) == 48) = true ∧ 1 < ds.length := by
      rw [hhd]
      simp only [canon, Bool.not_eq_false', Bool.and_eq_true, decide_eq_true_eq] at hc
      exact hc
    obtain ⟨hh, h1⟩ := hh
    clear hd hY hNo main hhd hc hne
    go_enter Try.func76, Try.ntmps76
    go_wp2_with fail
    go_ret2
    exact ⟨rfl, Ext.refl _⟩
  · obtain ⟨rfl, rfl⟩ := hY hc
    have hm := main hc
    clear hd hY hNo main hhd hc hne h0
    rcases hm with ⟨hh, h1⟩ | hh
    all_goals
      go_enter Try.func76, Try.ntmps76
      go_wp2_with fail
      go_loop [5, 6] (fun nv iv => ∃ k : Nat, k ≤ ds.length ∧ iv = .int .i64 k ∧ nv = .int .i64 (valD (ds.take k) : Nat)) (fun _ iv => ds.length - (intOf iv).toNat)
      case atStart => exact ⟨0, Nat.zero_le _, rfl, rfl⟩
      case round =>
        obtain ⟨k, hk, rfl, rfl⟩ := hrel
        have hl := HL.out
        by_cases hlt : k < (bs ds).size
        · obtain ⟨g1, g2⟩ := bs_dig HD.out hlt
          have hv := val_next hlt
          have hb := val_bd HD.out HL.out k
          have q1 : ¬ ((bs ds)[k].toNat : Int) < 48 := by omega
          have q2 : ¬ (57 : Int) < (bs ds)[k].toNat := by omega
          have hw : IntKind.u8.wrap (((bs ds)[k].toNat : Int) - 48) = ((bs ds)[k].toNat : Int) - 48 := by rw [IntKind.wrap_u8]; omega
          have hlt' : k < ds.length := by rw [bs_size] at hlt; exact hlt
          have HV := Lib.hid (show ((valD (ds.take (k + 1)) : Nat) : Int) = (valD (ds.take k) : Int) * 10 + (((bs ds)[k].toNat : Int) - 48) by rw [hv]; omega)
          clear hv
          go_wp2_with fail
          exact ⟨⟨k + 1, by omega, by go_num, (by first | (rw [HV.out]; done) | (rw [HV.out]; rfl))⟩, by simp [intOf]; omega⟩
        · have hkk : k = ds.length := by rw [bs_size] at hlt; omega
          subst hkk
          go_wp2_with fail
          go_ret2
          exact ⟨by first | rfl | (rw [List.take_length]; rfl) | (rw [show List.take 1 ds = ds from List.take_of_length_le (by omega)]; rfl), Ext.refl _⟩
theorem drop_app {s : ByteArray} {n : Nat} {l r : List UInt8} (h : s.toList.drop n = l ++ r) (k : Nat) (hk : k ≤ l.length) : s.toList.drop (n + k) = l.drop k ++ r := by
  rw [← List.drop_drop, h, List.drop_append_of_le_length hk]
theorem ext_bs' {s : ByteArray} {n m : Nat} {l r : List UInt8} (h : s.toList.drop n = l ++ r) (hm : n + l.length = m) : s.extract n m = bs l := by
  apply bl_ext
  rw [ByteArray.toList_eq, ByteArray.data_extract, Array.toList_extract, List.extract_eq_take_drop, bs_list, ← ByteArray.toList_eq, h, ← hm, Nat.add_sub_cancel_left, List.take_left]
theorem hd_take {ds rest : List UInt8} (hd : AllD ds) (hr : ∀ c q, rest = c :: q → digitB c = false) {k : Nat} (hk : k ≤ ds.length) : hdB digitB (some (ds.drop k ++ rest)) = decide (k < ds.length) := by
  by_cases h : k < ds.length
  · rw [decide_eq_true h, List.drop_eq_getElem_cons h]
    exact hd _ (List.getElem_mem h)
  · rw [decide_eq_false h, List.drop_eq_nil_of_le (by omega), List.nil_append]
    cases rest with
    | nil => rfl
    | cons c q => exact hr c q rfl
theorem take_four {ds : List UInt8} {k : Nat} (hk : k ≤ ds.length) (h : ¬ (k < ds.length ∧ k < 4)) (h4 : k ≤ 4) : ds.take k = ds.take 4 := by
  by_cases h' : k = 4
  · rw [h']
  · have : k = ds.length := by omega
    rw [this, List.take_length, List.take_of_length_le (by omega)]
theorem numOk_iff {neg : Bool} {d : List UInt8} : numOk neg d = true ↔ canon d = true ∧ ¬ (neg = true ∧ valD d = 0) ∧ valD d ≤ 999 := by
  unfold numOk
  cases neg <;> cases canon d <;> simp
end Go.Proofs.Ytognkaebiafgbaa
