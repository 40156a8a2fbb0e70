/-
  Numerals, plain: at most four digits, as the reference reads them, against the numbers of terms.
-/
import Derived.Test.YtognkaebiafgbaaGreatMv15
import Derived.Test.YtognkaebiafgbaaGreatMv17
namespace Go.Proofs.YtognkaebiafgbaaGreat
open Go.RowKit
set_option linter.unusedVariables false
def AllD (l : List UInt8) : Prop := ∀ c ∈ l, digitB c = true
theorem dig_rng {c : UInt8} (h : digitB c = true) : 48 ≤ c.toNat ∧ c.toNat ≤ 57 := by simpa [digitB] using h
theorem AllD.left {a b : List UInt8} (h : AllD (a ++ b)) : AllD a := fun c hc => h c (List.mem_append_left _ hc)
theorem AllD.last {a : List UInt8} {c : UInt8} (h : AllD (a ++ [c])) : digitB c = true := h c (by simp)
theorem AllD.take {a : List UInt8} (n : Nat) (h : AllD a) : AllD (a.take n) := fun c hc => h c (List.mem_of_mem_take hc)
theorem head_app {a b : List UInt8} (h : a ≠ []) : (a ++ b).head? = a.head? := by
  cases a with
  | nil => exact absurd rfl h
  | cons x a => rfl
theorem snoc_of (l : List UInt8) : l = [] ∨ ∃ a c, l = a ++ [c] := by
  rcases List.eq_nil_or_concat l with h | ⟨a, c, h⟩
  · exact .inl h
  · exact .inr ⟨a, c, by simpa using h⟩
theorem val_lt : ∀ (m : Nat) (l : List UInt8), l.length ≤ m → AllD l → valD l < 10 ^ l.length
  | 0, l, hm, _ => by
    have : l = [] := List.eq_nil_of_length_eq_zero (by omega)
    subst this; simp [valD]
  | m + 1, l, hm, h => by
    rcases snoc_of l with rfl | ⟨a, c, rfl⟩
    · simp [valD]
    · have hc := dig_rng h.last
      have hal : a.length ≤ m := by rw [List.length_append, List.length_singleton] at hm; omega
      have ih := val_lt m a hal h.left
      rw [valD_snoc, List.length_append, List.length_singleton, Nat.pow_succ]
      generalize 10 ^ a.length = q at ih ⊢
      generalize valD a = u at ih ⊢
      omega
theorem val_ge : ∀ (m : Nat) (l : List UInt8) (n : Nat), l.length ≤ m → AllD l → l.length = n + 1 → l.head? ≠ some 48 → 10 ^ n ≤ valD l
  | 0, l, n, hm, _, hl, _ => by omega
  | m + 1, l, n, hm, h, hl, h0 => by
    rcases snoc_of l with rfl | ⟨a, c, rfl⟩
    · simp at hl
    · have hc := dig_rng h.last
      rw [valD_snoc]
      cases n with
      | zero =>
        have : a = [] := List.eq_nil_of_length_eq_zero (by rw [List.length_append, List.length_singleton] at hl; omega)
        subst this
        have h48 : c ≠ 48 := by simpa using h0
        have : c.toNat ≠ 48 := fun e => h48 (UInt8.toNat_inj.1 e)
        simp only [Nat.pow_zero]
        omega
      | succ n =>
        have hal : a.length = n + 1 := by rw [List.length_append, List.length_singleton] at hl; omega
        have hne : a ≠ [] := by intro e; rw [e] at hal; simp at hal
        have ha0 : a.head? ≠ some 48 := by
          rw [head_app hne] at h0
          exact h0
        have ih := val_ge m a n (by rw [List.length_append, List.length_singleton] at hm; omega) h.left hal ha0
        rw [Nat.pow_succ]
        generalize 10 ^ n = q at ih ⊢
        generalize valD a = u at ih ⊢
        omega
def canon (l : List UInt8) : Bool := !(l.head? == some 48 && decide (1 < l.length))
theorem canon_no {l : List UInt8} (h : canon l = true) (h1 : 1 < l.length) : l.head? ≠ some 48 := by
  intro e
  rw [canon, e] at h
  simp at h
  omega
theorem dec_val : ∀ (m : Nat) (l : List UInt8), l.length ≤ m → AllD l → l ≠ [] → canon l = true → Lib.decDigits (valD l) = l
  | 0, l, hm, _, hne, _ => absurd (List.eq_nil_of_length_eq_zero (by omega)) hne
  | m + 1, l, hm, h, hne, hc => by
    rcases snoc_of l with rfl | ⟨a, c, rfl⟩
    · exact absurd rfl hne
    · have hd := dig_rng h.last
      by_cases ha : a = []
      · subst ha
        have hv : valD ([] ++ [c]) = c.toNat - 48 := by rw [valD_snoc]; simp [valD]
        rw [hv, Lib.decDigits_one (by omega)]
        have : UInt8.ofNat (48 + (c.toNat - 48)) = c := by
          apply UInt8.toNat_inj.1
          rw [dig_nat (by omega)]; omega
        rw [this]; rfl
      · have hpos : 0 < a.length := List.length_pos_iff.2 ha
        have h0 : a.head? ≠ some 48 := by
          have := canon_no hc (by simp; omega)
          rw [head_app ha] at this
          exact this
        have hca : canon a = true := by
          have : (a.head? == some 48) = false := by
            rw [beq_eq_false_iff_ne]; exact h0
          simp [canon, this]
        have ih := dec_val m a (by rw [List.length_append, List.length_singleton] at hm; omega) h.left ha hca
        obtain ⟨n, hn⟩ : ∃ n, a.length = n + 1 := ⟨a.length - 1, by omega⟩
        have hge := val_ge _ a n (Nat.le_refl _) h.left hn h0
        have hp : 1 ≤ 10 ^ n := Nat.one_le_pow _ _ (by omega)
        rw [valD_snoc, Lib.decDigits, dif_neg (by omega)]
        have e1 : (valD a * 10 + (c.toNat - 48)) / 10 = valD a := by omega
        have e2 : (valD a * 10 + (c.toNat - 48)) % 10 = c.toNat - 48 := by omega
        rw [e1, e2, ih]
        have : UInt8.ofNat (48 + (c.toNat - 48)) = c := by
          apply UInt8.toNat_inj.1
          rw [dig_nat (by omega)]; omega
        rw [this]
theorem dec_canon : ∀ (m u : Nat), u ≤ m → canon (Lib.decDigits u) = true ∧ ((Lib.decDigits u).head? = some 48 → u = 0)
  | m, u, hm => by
    by_cases h : u < 10
    · rw [Lib.decDigits_one h]
      refine ⟨by simp [canon], ?_⟩
      intro e
      have e : UInt8.ofNat (48 + u) = 48 := by simpa using e
      have := congrArg UInt8.toNat e
      rw [dig_nat h] at this
      have e48 : (48 : UInt8).toNat = 48 := rfl
      omega
    · cases m with
      | zero => omega
      | succ m =>
        obtain ⟨_, h2⟩ := dec_canon m (u / 10) (by omega)
        have hh : (Lib.decDigits u).head? = (Lib.decDigits (u / 10)).head? := by
          rw [Lib.decDigits, dif_neg h, head_app (dec_ne _)]
        have hn : (Lib.decDigits u).head? ≠ some 48 := by
          rw [hh]
          intro e
          have := h2 e
          omega
        refine ⟨?_, fun e => absurd e hn⟩
        have : ((Lib.decDigits u).head? == some 48) = false := by
          rw [beq_eq_false_iff_ne]; exact hn
        simp [canon, this]
theorem dec_len3 {u : Nat} (h : u ≤ 999) : (Lib.decDigits u).length ≤ 3 := by
  apply Decidable.byContradiction
  intro hn
  have hall : AllD (Lib.decDigits u) := dec_digits u u (Nat.le_refl _)
  obtain ⟨h1, h2⟩ := dec_canon u u (Nat.le_refl _)
  have h0 := canon_no h1 (by omega)
  obtain ⟨n, hl⟩ : ∃ n, (Lib.decDigits u).length = n + 1 := ⟨(Lib.decDigits u).length - 1, by omega⟩
  have := val_ge _ _ n (Nat.le_refl _) hall hl h0
  rw [val_dec u u (Nat.le_refl _)] at this
  have h3 : 10 ^ 3 ≤ 10 ^ n := Nat.pow_le_pow_right (by omega) (by omega)
  omega
def numOk (neg : Bool) (d : List UInt8) : Bool := canon d && !(neg && decide (valD d = 0)) && decide (valD d ≤ 999)
def numV (neg : Bool) (d : List UInt8) : Int := if neg = true then -(valD d : Int) else valD d
theorem numOk_len {neg : Bool} {ds : List UInt8} (hd : AllD ds) (h : numOk neg (ds.take 4) = true) : ds.length ≤ 3 := by
  simp only [numOk, Bool.and_eq_true, decide_eq_true_eq] at h
  obtain ⟨⟨h1, h2⟩, h3⟩ := h
  apply Decidable.byContradiction
  intro hn
  have hl : (ds.take 4).length = 3 + 1 := by rw [List.length_take]; omega
  have h0 := canon_no h1 (by omega)
  have := val_ge _ _ 3 (Nat.le_refl _) (hd.take 4) hl h0
  omega
def sgD (neg : Bool) (ds : List UInt8) : List UInt8 := if neg = true then 45 :: ds else ds
theorem numO_law (neg : Bool) (ds : List UInt8) (hd : AllD ds) (hne : ds ≠ []) : numO (sgD neg ds) = if numOk neg (ds.take 4) = true then some (numV neg (ds.take 4)) else none := by
  split
  · rename_i h
    have hl := numOk_len hd h
    have ht : ds.take 4 = ds := List.take_of_length_le (by omega)
    rw [ht] at h ⊢
    simp only [numOk, Bool.and_eq_true, decide_eq_true_eq] at h
    obtain ⟨⟨h1, h2⟩, h3⟩ := h
    have hdv := dec_val _ ds (Nat.le_refl _) hd hne h1
    have hi : Lib.itoa (numV neg ds) = sgD neg ds := by
      unfold numV sgD Lib.itoa
      cases neg with
      | true =>
        have hz : ¬ valD ds = 0 := by simpa using h2
        simp only [if_true]
        rw [if_pos (by omega), show (-(valD ds : Int)).natAbs = valD ds by omega, hdv]
      | false =>
        simp only [Bool.false_eq_true, if_false]
        rw [if_neg (by omega), show (valD ds : Int).toNat = valD ds by omega, hdv]
    rw [← hi]
    refine numO_itoa ?_ ?_ <;> (unfold numV; split <;> omega)
  · rename_i h
    cases e : numO (sgD neg ds) with
    | none => rfl
    | some n =>
      exfalso
      obtain ⟨h0, h1, h2⟩ := numO_some e
      apply h
      unfold Lib.itoa at h2
      have key : ∀ u : Nat, u ≤ 999 → (neg = true → u ≠ 0) → Lib.decDigits u = ds → numOk neg (ds.take 4) = true := by
        intro u hu hz he
        have hl : ds.length ≤ 3 := by rw [← he]; exact dec_len3 hu
        rw [List.take_of_length_le (by omega), ← he]
        simp only [numOk, Bool.and_eq_true, decide_eq_true_eq, val_dec u u (Nat.le_refl _)]
        refine ⟨⟨(dec_canon u u (Nat.le_refl _)).1, ?_⟩, hu⟩
        cases neg with
        | false => rfl
        | true => have := hz rfl; simp [this]
      have no45 : ∀ l, AllD (45 :: l) → False := fun l h => by
        have := h 45 (by simp)
        simp [digitB] at this
      split at h2
      · cases neg with
        | true =>
          simp only [sgD, if_true, List.cons.injEq, true_and] at h2
          exact key n.natAbs (by omega) (fun _ => by omega) h2
        | false =>
          simp only [sgD, Bool.false_eq_true, if_false] at h2
          exact absurd (h2 ▸ hd) (no45 _)
      · cases neg with
        | true =>
          simp only [sgD, if_true] at h2
          exact absurd (h2 ▸ (show AllD (Lib.decDigits n.toNat) from dec_digits _ _ (Nat.le_refl _))) (no45 _)
        | false =>
          simp only [sgD, Bool.false_eq_true, if_false] at h2
          exact key n.toNat (by omega) (fun h => by cases h) h2
theorem digs_cut {ds rest : List UInt8} (h : AllD ds) (hr : ∀ c r, rest = c :: r → digitB c = false) : (ds ++ rest).takeWhile digitB = ds ∧ (ds ++ rest).dropWhile digitB = rest := by
  have h1 : rest.takeWhile digitB = [] := by
    cases rest with
    | nil => rfl
    | cons c r => rw [List.takeWhile_cons_of_neg (by rw [hr c r rfl]; decide)]
  have h2 : rest.dropWhile digitB = rest := by
    cases rest with
    | nil => rfl
    | cons c r => rw [List.dropWhile_cons_of_neg (by rw [hr c r rfl]; decide)]
  exact ⟨by rw [List.takeWhile_append_of_pos h, h1, List.append_nil], by rw [List.dropWhile_append_of_pos h, h2]⟩
theorem numP_law (neg : Bool) (ds rest : List UInt8) (hd : AllD ds) (hne : ds ≠ []) (hr : ∀ c r, rest = c :: r → digitB c = false) :
    numP (sgD neg ds ++ rest) = if numOk neg (ds.take 4) = true then some (nT (numV neg (ds.take 4)), rest) else none := by
  have hlaw := numO_law neg ds hd hne
  have fin : ∀ (b : UInt8) (l : List UInt8), sgD neg ds ++ rest = b :: l → b :: l.takeWhile digitB = sgD neg ds → l.dropWhile digitB = rest → numP (sgD neg ds ++ rest) = if numOk neg (ds.take 4) = true then some (nT (numV neg (ds.take 4)), rest) else none := by
    intro b l h1 h2 h3
    rw [h1]
    simp only [numP, h2, h3, hlaw]
    by_cases hc : numOk neg (ds.take 4) = true
    · rw [if_pos hc, if_pos hc]
    · rw [if_neg hc, if_neg hc]
  cases neg with
  | true =>
    obtain ⟨q1, q2⟩ := digs_cut hd hr
    refine fin 45 (ds ++ rest) rfl ?_ q2
    rw [q1]; rfl
  | false =>
    cases ds with
    | nil => exact absurd rfl hne
    | cons b ds =>
      obtain ⟨q1, q2⟩ := digs_cut (ds := ds) (rest := rest) (fun c hc => hd c (by simp [hc])) hr
      refine fin b (ds ++ rest) rfl ?_ q2
      rw [q1]; rfl
theorem num_split {b : UInt8} {r : List UInt8} (h : numStart (b :: r) = true) : ∃ ds rest, b :: r = sgD (b == 45) ds ++ rest ∧ AllD ds ∧ ds ≠ [] ∧ ∀ c q, rest = c :: q → digitB c = false := by
  have hdrop : ∀ l : List UInt8, ∀ c q, l.dropWhile digitB = c :: q → digitB c = false := by
    intro l c q e
    have := List.head?_dropWhile_not digitB l
    rw [e] at this
    simpa using this
  have htake : ∀ l : List UInt8, AllD (l.takeWhile digitB) := fun l c hc => by
    have := List.all_takeWhile (p := digitB) (l := l)
    exact List.all_eq_true.1 this c hc
  cases hb : (b == 45)
  · have hd : digitB b = true := by
      simp only [numStart, hb, Bool.false_and, Bool.or_false] at h
      exact h
    refine ⟨b :: r.takeWhile digitB, r.dropWhile digitB, ?_, ?_, by simp, hdrop r⟩
    · simp [sgD]
    · intro c hc
      rcases List.mem_cons.1 hc with h | h
      · rw [h]; exact hd
      · exact htake r c h
  · have e45 : b = 45 := by simpa using hb
    subst e45
    refine ⟨r.takeWhile digitB, r.dropWhile digitB, ?_, htake r, ?_, hdrop r⟩
    · simp [sgD]
    · cases r with
      | nil => exact absurd h (by decide)
      | cons c r =>
        have hc : digitB c = true := by
          have : numStart (45 :: c :: r) = (digitB 45 || ((45 : UInt8) == 45 && digitB c)) := rfl
          rw [this] at h
          simpa [digitB] using h
        rw [List.takeWhile_cons_of_pos hc]
        simp
end Go.Proofs.YtognkaebiafgbaaGreat

namespace Go.Proofs.YtognkaebiafgbaaGreat
open Go.RowKit
set_option linter.unusedVariables false
def digT (k : Nat) : UInt8 := UInt8.ofNat (48 + k % 10)
theorem digT_toNat (j : Nat) : (48 + (j : Int) % 10) = ((digT j).toNat : Int) := by
  unfold digT
  rw [UInt8.toNat_ofNat']
  omega
theorem digT_small {j : Nat} (h : j < 10) : (48 + (j : Int)) = ((digT j).toNat : Int) := by
  unfold digT
  rw [UInt8.toNat_ofNat']
  omega
theorem dec_big {u : Nat} (h : ¬ u < 10) : Lib.decDigits u = Lib.decDigits (u / 10) ++ [digT u] := by
  rw [Lib.decDigits, dif_neg h]
  rfl
theorem dec_one {u : Nat} (h : u < 10) : Lib.decDigits u = [digT u] := by
  rw [Lib.decDigits_one h]
  unfold digT
  rw [Nat.mod_eq_of_lt h]
theorem dec_len (u : Nat) (h : u < 1000) : (Lib.decDigits u).length ≤ 3 := by
  by_cases h1 : u < 10
  · rw [dec_one h1]; simp
  · rw [dec_big h1]
    by_cases h2 : u / 10 < 10
    · rw [dec_one h2]; simp
    · rw [dec_big h2, dec_one (by omega)]; simp
set_option maxRecDepth 100000 in
theorem specl1Letter (n : Int) (h0 : 0 ≤ n) (h1 : n ≤ 25) (w : World) : Calls Tryz.prog 112 #[.int .i64 n] w fun e w' => e = .returned (.string (bs [letB n])) ∧ Ext w w' := by
  have hcv := conv_oneT w 5 _ _ (letter_toNat h0 h1)
  go_enter Tryz.func112, Tryz.ntmps112
  go_wp2_with fail
  go_ret
  exact ⟨rfl, Ext.alloc _ _⟩
set_option maxRecDepth 100000 in
set_option maxHeartbeats 1000000 in
theorem specl18Dec (n : Nat) (hn : n ≤ 999) (w : World) : Calls Tryz.prog 115 #[.int .i64 n] w fun e w' => e = .returned (.string (bs (Lib.decDigits n))) ∧ Ext w w' := by
  have HD := Lib.hid (dec_len n (by omega))
  have HN := Lib.hid hn
  go_enter Tryz.func115, Tryz.ntmps115
  go_wp2_with fail
  go_loopw [0, 3] (fun i s wr => ∃ (j : Nat) (acc : List UInt8), j ≤ n ∧ i = .int .i64 j ∧ s = .string (bs acc) ∧ Hid (Lib.decDigits j ++ acc = Lib.decDigits n) ∧ Ext w wr) (fun i _ _ => (intOf i).toNat)
  case atStart => exact ⟨n, [], Nat.le_refl _, rfl, rfl, Lib.hid (by simp), Ext.refl _⟩
  case round =>
    obtain ⟨j, acc, hj, rfl, rfl, HA, he⟩ := hrel
    have hacc : acc.length ≤ 3 := by
      have h1 := congrArg List.length HA.out
      have h2 := HD.out
      simp only [List.length_append] at h1
      omega
    have lb : ¬ 9223372036854775807 < 1 + (bs acc).size := by rw [bs_size]; omega
    by_cases hz : j < 10
    · have hcv := conv_oneT wr 5 _ _ (digT_small hz)
      have H1 := Lib.hid (dec_one hz)
      go_wp2_with fail
      go_ret
      refine ⟨?_, he.trans (Ext.alloc _ _)⟩
      have h := HA.out
      rw [H1.out] at h
      rw [← h]
      exact congrArg (fun x => Ending.returned (Value.string x)) (bs_app [digT j] acc)
    · have hcv := conv_oneT wr 5 _ _ (digT_toNat j)
      have H1 := Lib.hid (dec_big hz)
      have hd1 : j / 10 ≤ n := by omega
      go_wp2_with fail
      go_roundw
      case rel => exact ⟨j / 10, digT j :: acc, hd1, by go_num, congrArg Value.string (bs_app [digT j] acc), Lib.hid (by rw [← HA.out, H1.out]; simp), he.trans (Ext.alloc _ _)⟩
      case measure => simp only [intOf]; omega
set_option maxRecDepth 100000 in
theorem specl1Dec (n : Int) (h0 : -999 ≤ n) (h1 : n ≤ 999) (w : World) : Calls Tryz.prog 113 #[.int .i64 n] w fun e w' => e = .returned (.string (bs (Lib.itoa n))) ∧ Ext w w' := by
  by_cases hn : n < 0
  · obtain ⟨u, rfl⟩ : ∃ u : Nat, n = -(u : Int) := ⟨n.natAbs, by omega⟩
    have HF := Lib.hid (show Lib.itoa (-(u : Int)) = 45 :: Lib.decDigits u by unfold Lib.itoa; rw [if_pos hn]; simp)
    have HU := Lib.hid (show u ≤ 999 by omega)
    have lb : ¬ 9223372036854775807 < 1 + (bs (Lib.decDigits u)).size := by rw [bs_size]; have := dec_len u (by omega); omega
    have hneg : -(-(u : Int)) = (u : Int) := by omega
    go_enter Tryz.func113, Tryz.ntmps113
    go_wp2_with (go_at_call 115; (try rw [hneg]); refine (specl18Dec u HU.out _).mono ?_; rintro e w1 ⟨rfl, e1⟩)
    go_ret
    exact ⟨by rw [HF.out]; exact congrArg (fun x => Ending.returned (Value.string x)) (bs_app [45] _), e1⟩
  · obtain ⟨u, rfl⟩ := Int.eq_ofNat_of_zero_le (show 0 ≤ n by omega)
    have HF := Lib.hid (show Lib.itoa (u : Int) = Lib.decDigits u by unfold Lib.itoa; rw [if_neg hn]; simp)
    have HU := Lib.hid (show u ≤ 999 by omega)
    go_enter Tryz.func113, Tryz.ntmps113
    go_wp2_with (go_at_call 115; refine (specl18Dec u HU.out _).mono ?_; rintro e w1 ⟨rfl, e1⟩)
    go_ret
    exact ⟨by rw [HF.out]; rfl, e1⟩
end Go.Proofs.YtognkaebiafgbaaGreat
