/-
  The program's reader, plain: it reads back the text (without operators) of every valid term.
-/
import Derived.Test.YtognkaebiafgbaaGreatDoorMp19
import Derived.Test.YtognkaebiafgbaaGreatDoorMp23
namespace Go.Proofs.YtognkaebiafgbaaGreatDoor
open Go.RowKit
set_option linter.unusedVariables false

/-- what may stand behind a term -/
def Fol (rest : List UInt8) : Prop := rest = [] ∨ ∃ c r, rest = c :: r ∧ (c = 41 ∨ c = 44 ∨ c = 93 ∨ c = 124)
theorem Fol.of {c : UInt8} {r : List UInt8} (h : c = 41 ∨ c = 44 ∨ c = 93 ∨ c = 124) : Fol (c :: r) := .inr ⟨c, r, rfl, h⟩
/-- what may stand behind a name -/
def FolN (rest : List UInt8) : Prop := rest = [] ∨ ∃ c r, rest = c :: r ∧ (c = 40 ∨ c = 41 ∨ c = 44 ∨ c = 93 ∨ c = 124)
theorem Fol.name {rest : List UInt8} (h : Fol rest) : FolN rest := by
  rcases h with h | ⟨c, r, h1, h2⟩
  · exact .inl h
  · exact .inr ⟨c, r, h1, .inr h2⟩
theorem word_small {l : List UInt8} (h : wordF l = true) : (∀ c ∈ l, smallB c = true) ∧ 1 ≤ l.length ∧ l.length ≤ 6 := by
  simp only [wordF, Bool.and_eq_true, decide_eq_true_eq, List.all_eq_true] at h
  refine ⟨fun c hc => ?_, h.2⟩
  have := h.1 c hc
  simp only [wordB, Bool.not_eq_true', Bool.or_eq_false_iff, decide_eq_false_iff_not] at this
  simp only [smallB, decide_eq_true_eq]
  omega
theorem takeW_nil {p : UInt8 → Bool} {rest : List UInt8} (h : ∀ c r, rest = c :: r → p c = false) : rest.takeWhile p = [] := by
  cases rest with
  | nil => rfl
  | cons c r => simp [List.takeWhile, h c r rfl]
theorem dropW_id {p : UInt8 → Bool} {rest : List UInt8} (h : ∀ c r, rest = c :: r → p c = false) : rest.dropWhile p = rest := by
  cases rest with
  | nil => rfl
  | cons c r => simp [List.dropWhile, h c r rfl]
theorem nameP_word {s rest : List UInt8} (hw : wordF s = true) (hr : ∀ c r, rest = c :: r → smallB c = false) : nameP (s ++ rest) = some (s, rest) := by
  obtain ⟨h1, h2, h3⟩ := word_small hw
  have e1 : (s ++ rest).takeWhile smallB = s := by rw [List.takeWhile_append_of_pos h1, takeW_nil hr, List.append_nil]
  have e2 : (s ++ rest).dropWhile smallB = rest := by rw [List.dropWhile_append_of_pos h1, dropW_id hr]
  unfold nameP
  rw [e1, e2, if_neg (by omega), if_pos (by omega)]
theorem sign_cases {s : ByteArray} (h : hasF signs s = true) : s.toList = [43] ∨ s.toList = [45] ∨ s.toList = [42] ∨ s.toList = [47, 47] ∨ s.toList = [61] ∨ s.toList = [92, 61] ∨ s.toList = [61, 61] ∨ s.toList = [60] ∨ s.toList = [62] ∨ s.toList = [61, 60] ∨ s.toList = [62, 61] ∨ s.toList = [61, 58, 61] ∨ s.toList = [46] ∨ s.toList = [91, 93] ∨ s.toList = [33] := by
  simp only [hasF, List.any_eq_true, beq_iff_eq] at h
  obtain ⟨x, hx, e⟩ := h
  rw [← e]
  simp only [signs, List.mem_cons, List.not_mem_nil, or_false] at hx
  rcases hx with rfl | rfl | rfl | rfl | rfl | rfl | rfl | rfl | rfl | rfl | rfl | rfl | rfl | rfl | rfl <;> simp [ByteArray.toList_eq]
theorem signN_eq (rest : List UInt8) : signN rest = ([([43], 1), ([45], 1), ([42], 1), ([47, 47], 2), ([61], 1), ([92, 61], 2), ([61, 61], 2), ([60], 1), ([62], 1), ([61, 60], 2), ([62, 61], 2), ([61, 58, 61], 3), ([46], 1), ([91, 93], 2), ([33], 1)] : List (List UInt8 × Nat)).foldl (fun n s => if s.1.isPrefixOf rest = true then max n s.2 else n) 0 := by
  simp only [signN, signs, List.foldl_cons, List.foldl_nil, ByteArray.toList_eq]
  rfl
theorem nameP_sign {s rest : List UInt8} (hs : s = [43] ∨ s = [45] ∨ s = [42] ∨ s = [47, 47] ∨ s = [61] ∨ s = [92, 61] ∨ s = [61, 61] ∨ s = [60] ∨ s = [62] ∨ s = [61, 60] ∨ s = [62, 61] ∨ s = [61, 58, 61] ∨ s = [46] ∨ s = [91, 93] ∨ s = [33])
    (hr : FolN rest) : nameP (s ++ rest) = some (s, rest) := by
  unfold nameP
  rw [signN_eq]
  rcases hr with rfl | ⟨c, r, rfl, hc⟩
  · rcases hs with rfl | rfl | rfl | rfl | rfl | rfl | rfl | rfl | rfl | rfl | rfl | rfl | rfl | rfl | rfl <;> rfl
  · rcases hc with rfl | rfl | rfl | rfl | rfl <;>
    rcases hs with rfl | rfl | rfl | rfl | rfl | rfl | rfl | rfl | rfl | rfl | rfl | rfl | rfl | rfl | rfl <;> rfl

theorem small_facts {b : UInt8} (h : smallB b = true) : b ≠ 0 ∧ isUp b = false ∧ digitB b = false ∧ b ≠ 45 ∧ b ≠ 40 ∧ b ≠ 91 := by
  simp only [smallB, decide_eq_true_eq] at h
  have ne : ∀ n : Nat, n < 97 → b ≠ UInt8.ofNat n := fun n hn e => by
    have := congrArg UInt8.toNat e
    rw [UInt8.toNat_ofNat'] at this
    omega
  refine ⟨ne 0 (by omega), ?_, ?_, ne 45 (by omega), ne 40 (by omega), ne 91 (by omega)⟩
  · simp only [isUp, decide_eq_false_iff_not]; omega
  · simp only [digitB, decide_eq_false_iff_not]; omega
/-- what is read behind a name -/
noncomputable def afterN (o : Bool) (F deep : Nat) (s : ByteArray) : List UInt8 → Option (Tm × List UInt8)
  | c :: r => if c = 40 then argsF o F deep s [] r else some (sT s [], c :: r)
  | [] => some (sT s [], [])
/-- a name is read as one -/
theorem prim_name {o : Bool} {F deep : Nat} {s : ByteArray} {rest : List UInt8} (hn : nameF s = true) (hd : deep ≤ 30) (hr : nameP (s.toList ++ rest) = some (s.toList, rest))
    (h45 : s.toList = [45] → ∀ c r, rest = c :: r → digitB c = false) (h40 : o = true → s.toList ≠ [40]) :
    primF o (F + 1) deep (s.toList ++ rest) = afterN o F deep s rest := by
  have hlen := (name_len hn).1
  obtain ⟨b, l, hb⟩ : ∃ b l, s.toList = b :: l := by
    cases h : s.toList with
    | nil => rw [h] at hlen; simp at hlen
    | cons b l => exact ⟨b, l, rfl⟩
  have key : b ≠ 0 ∧ isUp b = false ∧ numStart (b :: (l ++ rest)) = false ∧ ¬ (b = 40 ∧ o = true) ∧ ¬ (b = 91 ∧ (l ++ rest).head? ≠ some 93) := by
    simp only [nameF, Bool.or_eq_true] at hn
    rcases hn with hw | hs
    · have := (word_small hw).1 b (by rw [hb]; simp)
      obtain ⟨q1, q2, q3, q4, q5, q6⟩ := small_facts this
      refine ⟨q1, q2, ?_, fun h => q5 h.1, fun h => q6 h.1⟩
      simp only [numStart, q3, Bool.false_or]
      have : (b == 45) = false := by simpa using q4
      rw [this]; rfl
    · have hc := sign_cases hs
      rw [hb] at hc h45
      rcases hc with hc | hc | hc | hc | hc | hc | hc | hc | hc | hc | hc | hc | hc | hc | hc <;> obtain ⟨rfl, rfl⟩ := List.cons.inj hc
      case inr.inr.inl =>
        refine ⟨by decide, by decide, ?_, by simp, by simp⟩
        cases rest with
        | nil => rfl
        | cons c r =>
          have := h45 rfl c r rfl
          show (digitB 45 || ((45 : UInt8) == 45 && digitB c)) = false
          rw [this]; rfl
      all_goals
        refine ⟨by decide, by decide, ?_, by simp, by simp⟩
        first
        | rfl
        | (show (digitB _ || (_ == 45 && _)) = false; simp [digitB])
  obtain ⟨q1, q2, q3, q4, q5⟩ := key
  have hr' : nameP (b :: (l ++ rest)) = some (s.toList, rest) := by rw [← List.cons_append, ← hb]; exact hr
  rw [hb, List.cons_append, primF, if_neg (show ¬ 30 < deep by omega)]
  simp only [q1, q2, q3, q4, q5, if_false, Bool.false_eq_true, hr']
  cases rest with
  | nil => simp only [bs_of, afterN]
  | cons c r => simp only [bs_of, afterN]

theorem up_let {n : Int} (h0 : 0 ≤ n) (h1 : n ≤ 25) : (letB n).toNat = 65 + n.toNat := by
  unfold letB
  rw [UInt8.toNat_ofNat']; omega
theorem prim_var {o : Bool} {F deep : Nat} {n : Int} {rest : List UInt8} (h0 : 0 ≤ n) (h1 : n ≤ 25) (hd : deep ≤ 30) : primF o (F + 1) deep (letB n :: rest) = some (.mk 1 n eN [], rest) := by
  have hu := up_let h0 h1
  have q1 : letB n ≠ 0 := fun e => by rw [e] at hu; simp at hu; omega
  have q2 : isUp (letB n) = true := by simp only [isUp, decide_eq_true_eq]; omega
  rw [primF, if_neg (show ¬ 30 < deep by omega)]
  simp only [q1, q2, if_false, if_true]
  unfold vT
  rw [hu]
  congr 3
  omega
theorem digs_split {ds rest : List UInt8} (h : ∀ c ∈ ds, digitB c = true) (hr : ∀ c r, rest = c :: r → digitB c = false) : (ds ++ rest).takeWhile digitB = ds ∧ (ds ++ rest).dropWhile digitB = rest :=
  ⟨by rw [List.takeWhile_append_of_pos h, takeW_nil hr, List.append_nil], by rw [List.dropWhile_append_of_pos h, dropW_id hr]⟩
theorem prim_int {o : Bool} {F deep : Nat} {n : Int} {rest : List UInt8} (h0 : -999 ≤ n) (h1 : n ≤ 999) (hd : deep ≤ 30) (hr : ∀ c r, rest = c :: r → digitB c = false) : primF o (F + 1) deep (Lib.itoa n ++ rest) = some (nT n, rest) := by
  have hnum := numO_itoa h0 h1
  obtain ⟨b, l, hb, hbb, hl, hst⟩ : ∃ b l, Lib.itoa n = b :: l ∧ (b = 45 ∨ digitB b = true) ∧ (∀ c ∈ l, digitB c = true) ∧ numStart (b :: (l ++ rest)) = true := by
    unfold Lib.itoa
    split
    · cases h : Lib.decDigits n.natAbs with
      | nil => exact absurd h (dec_ne _)
      | cons c l =>
        have hc := dec_digits _ _ (Nat.le_refl n.natAbs)
        rw [h] at hc
        refine ⟨45, c :: l, rfl, .inl rfl, hc, ?_⟩
        show (digitB 45 || ((45 : UInt8) == 45 && digitB c)) = true
        rw [hc c (by simp)]; rfl
    · cases h : Lib.decDigits n.toNat with
      | nil => exact absurd h (dec_ne _)
      | cons c l =>
        have hc := dec_digits _ _ (Nat.le_refl n.toNat)
        rw [h] at hc
        refine ⟨c, l, rfl, .inr (hc c (by simp)), fun x hx => hc x (by simp [hx]), ?_⟩
        simp only [numStart, hc c (by simp), Bool.true_or]
  have q12 : b ≠ 0 ∧ isUp b = false := by
    rcases hbb with rfl | h
    · exact ⟨by decide, by decide⟩
    · simp only [digitB, decide_eq_true_eq] at h
      refine ⟨fun e => by rw [e] at h; simp at h, ?_⟩
      simp only [isUp, decide_eq_false_iff_not]; omega
  obtain ⟨e1, e2⟩ := digs_split hl hr
  rw [hb, List.cons_append, primF, if_neg (show ¬ 30 < deep by omega)]
  simp only [q12.1, q12.2, hst, if_false, if_true, Bool.false_eq_true]
  simp only [numP, e1, e2]
  rw [← hb, hnum]

def RT (t : Tm) : Prop := ∀ (d deep : Nat) (rest : List UInt8), shapeF t d = true → deep + d ≤ 31 → Fol rest → Par (fun F => primF false F deep (txt false t ++ rest)) (t, rest)
theorem shape_pos {t : Tm} {d : Nat} (h : shapeF t d = true) : 1 ≤ d := by
  obtain ⟨k, n, s, ks⟩ := t
  simp only [shapeF, Bool.and_eq_true, decide_eq_true_eq] at h
  exact h.1.1
theorem args_rt (s : ByteArray) (deep d : Nat) (rest : List UInt8) (hd : deep + 1 + d ≤ 31) : ∀ (ks acc : List Tm), ks ≠ [] → (∀ k ∈ ks, RT k) → shapeL ks d = true →
    Par (fun F => argsF false F deep s acc (joinF (ks.map (txt false)) ++ 41 :: rest)) (sT s (acc ++ ks), rest)
  | [], _, h, _, _ => absurd rfl h
  | [k], acc, _, hk, hs => by
    simp only [shapeL, Bool.and_eq_true] at hs
    refine (hk k (by simp) d (deep + 1) (41 :: rest) hs.1 hd (Fol.of (.inl rfl))).step fun F e => ?_
    simp only [List.map_cons, List.map_nil, joinF]
    rw [argsF]
    simp only [Bool.false_eq_true, if_false, e]
    rfl
  | k :: k' :: ks, acc, _, hk, hs => by
    simp only [shapeL, Bool.and_eq_true] at hs
    have h1 := hk k (by simp) d (deep + 1) (44 :: (joinF ((k' :: ks).map (txt false)) ++ 41 :: rest)) hs.1 hd (Fol.of (.inr (.inl rfl)))
    have h2 := args_rt s deep d rest hd (k' :: ks) (acc ++ [k]) (by simp) (fun x hx => hk x (by simp [hx])) (by simp only [shapeL, Bool.and_eq_true]; exact hs.2)
    refine Par.two h1 h2 fun F e e' => ?_
    simp only [List.map_cons, joinF, List.append_assoc, List.cons_append] at e e' ⊢
    rw [argsF]
    simp only [Bool.false_eq_true, if_false, e, if_true]
    rw [e']
    simp
theorem chain_snoc : ∀ (xs : List Tm) (y tl : Tm), chainT (xs ++ [y]) tl = chainT xs (sT dotN [y, tl])
  | [], y, tl => rfl
  | x :: xs, y, tl => by simp only [List.cons_append, chainT, chain_snoc xs y tl]
theorem ba_of {s : ByteArray} {l : List UInt8} (h : s.toList = l) : s = bs l := bl_ext (by rw [h, bs_list])
theorem list_rt (deep : Nat) (rest : List UInt8) : ∀ (m : Nat) (u : Tm), Tm.sz u ≤ m → (∀ v, Tm.sz v ≤ Tm.sz u → RT v) → ∀ (a : Tm) (acc : List Tm) (d : Nat), RT a → shapeF a d = true → shapeF u d = true → deep + 1 + acc.length + d ≤ 31 →
    Par (fun F => listF false F deep acc (txt false a ++ (rst false u ++ 93 :: rest))) (chainT (acc ++ [a]) u, rest)
  | 0, u, hm, _, _, _, _, _, _, _, _ => by have := Tm.sz_pos u; omega
  | m + 1, u, hm, hv, a, acc, d, ha, hsa, hsu, hd => by
    obtain ⟨k, n, s, ks⟩ := u
    cases hp : pairF k s ks.length
    · cases hn : nilF k s ks.length
      · rw [rst_tail hp hn, List.cons_append]
        have h1 := ha d (deep + 1 + acc.length) (124 :: (txt false (.mk k n s ks) ++ 93 :: rest)) hsa hd (Fol.of (.inr (.inr (.inr rfl))))
        have h2 := hv _ (Nat.le_refl _) d (deep + 1 + acc.length) (93 :: rest) hsu hd (Fol.of (.inr (.inr (.inl rfl))))
        refine Par.two h1 h2 fun F e e' => ?_
        rw [listF]
        simp only [Bool.false_eq_true, if_false, e, e', if_true, show ¬ (124 : UInt8) = 44 by decide]
      · rw [rst_nil hp hn, List.nil_append]
        have h1 := ha d (deep + 1 + acc.length) (93 :: rest) hsa hd (Fol.of (.inr (.inr (.inl rfl))))
        refine h1.step fun F e => ?_
        rw [listF]
        simp only [Bool.false_eq_true, if_false, e, if_true, show ¬ (93 : UInt8) = 44 by decide, show ¬ (93 : UInt8) = 124 by decide]
        simp only [nilF, Bool.and_eq_true, beq_iff_eq] at hn
        obtain ⟨⟨rfl, hs⟩, hl⟩ := hn
        have hks : ks = [] := List.eq_nil_of_length_eq_zero (by omega)
        have hn0 : n = 0 := by rcases shape_own hsu with ⟨h, _⟩ | ⟨h, _⟩ | ⟨_, h⟩; cases h; cases h; exact h
        rw [hks, hn0, ba_of hs]
        rfl
    · obtain ⟨rfl, h2l, h46⟩ := pair_two hp
      obtain ⟨x, y, rfl⟩ := len_two h2l
      have hn0 : n = 0 := by rcases shape_own hsu with ⟨h, _⟩ | ⟨h, _⟩ | ⟨_, h⟩; cases h; cases h; exact h
      rw [rst_pair hp, List.cons_append, List.append_assoc]
      have hx := shape_kid hsu (j := 0) (t := x) rfl
      have hy := shape_kid hsu (j := 1) (t := y) rfl
      have hd1 := shape_pos hsu
      have hz : Tm.sz x < Tm.sz (.mk 3 n s [x, y]) ∧ Tm.sz y < Tm.sz (.mk 3 n s [x, y]) := by simp only [Tm.sz, Tm.szL]; omega
      have h1 := ha d (deep + 1 + acc.length) (44 :: (txt false x ++ (rst false y ++ 93 :: rest))) hsa hd (Fol.of (.inr (.inl rfl)))
      have h2 := list_rt deep rest m y (by omega) (fun v h => hv v (by omega)) x (acc ++ [a]) (d - 1) (hv x (by omega)) hx hy (by simp; omega)
      refine Par.two h1 h2 fun F e e' => ?_
      rw [listF]
      simp only [Bool.false_eq_true, if_false, e, if_true]
      rw [e', hn0, ba_of h46, chain_snoc]
      rfl
/-- no text begins with ']' -/
theorem head_93 (o : Bool) : ∀ (m : Nat) (t : Tm), Tm.sz t ≤ m → ∀ (d : Nat), shapeF t d = true → (txt o t).head? ≠ some 93
  | 0, t, hm, _, _ => by have := Tm.sz_pos t; omega
  | m + 1, t, hm, d, hsh => by
    obtain ⟨k, n, s, ks⟩ := t
    rcases shape_own hsh with ⟨rfl, hs, rfl⟩ | ⟨rfl, hs, rfl⟩ | ⟨rfl, rfl⟩
    · obtain ⟨n0, n1⟩ := shape_var hsh
      rw [txt_var]
      intro e
      simp only [List.head?_cons, Option.some.injEq] at e
      have := up_let n0 n1
      rw [e] at this
      simp at this
      omega
    · rw [txt_int]
      unfold Lib.itoa
      split
      · simp
      · intro e
        cases h : Lib.decDigits n.toNat with
        | nil => exact absurd h (dec_ne _)
        | cons c l =>
          have hc := dec_digits _ _ (Nat.le_refl n.toNat) c (by rw [h]; simp)
          rw [h] at e
          simp only [List.head?_cons, Option.some.injEq] at e
          rw [e] at hc
          simp [digitB] at hc
    · obtain ⟨hn, _⟩ := shape_name hsh
      have hlen := (name_len hn).1
      have hname : ∀ l, (s.toList ++ l).head? ≠ some 93 := fun l => by
        simp only [nameF, Bool.or_eq_true] at hn
        rcases hn with hw | hs
        · cases h : s.toList with
          | nil => rw [h] at hlen; simp at hlen
          | cons b r =>
            have := (word_small hw).1 b (by rw [h]; simp)
            intro e
            simp only [List.cons_append, List.head?_cons, Option.some.injEq] at e
            rw [e] at this
            simp [smallB] at this
        · rcases sign_cases hs with h | h | h | h | h | h | h | h | h | h | h | h | h | h | h <;> rw [h] <;> simp
      by_cases hio : (o && infF 3 s ks.length) = true
      · simp only [Bool.and_eq_true] at hio
        obtain ⟨rfl, hi⟩ := hio
        obtain ⟨a, b, rfl⟩ := len_two (inf_two hi).2.1
        have e1 : txt true (.mk 3 0 s [a, b]) = opn (txF true a) (leftM s.toList) false ++ (spaced s.toList ++ opn (txF true b) (opLevelF s.toList - 1) true) := by simp [txt, txF, ownTx, txL, show infF 3 s 2 = true from hi]
        have ha := shape_kid hsh (j := 0) (t := a) rfl
        have hz : Tm.sz a < Tm.sz (.mk 3 0 s [a, b]) := by simp only [Tm.sz, Tm.szL]; omega
        have ih := head_93 true m a (by omega) (d - 1) ha
        have hne := tx_ne true a _ ha
        rw [e1]
        unfold opn
        split
        · simp
        · show (txt true a ++ _).head? ≠ _
          cases h : txt true a with
          | nil => exact absurd h hne
          | cons c l => rw [h] at ih; simpa using ih
      · have hio' : (o && infF 3 s ks.length) = false := by simpa using hio
        by_cases hl : ks.length = 0
        · have : ks = [] := List.eq_nil_of_length_eq_zero hl
          subst this
          rw [txt_atom]
          simpa using hname []
        · cases hp : pairF 3 s ks.length
          · rw [txt_args hio' hp hl]
            exact hname _
          · obtain ⟨a, b, rfl⟩ := len_two (pair_two hp).2.1
            rw [txt_pair hio' hp]
            simp
/-- the reader reads back the text of every valid term -/
theorem prim_rt : ∀ (m : Nat) (t : Tm), Tm.sz t ≤ m → RT t
  | 0, t, hm => by have := Tm.sz_pos t; omega
  | m + 1, t, hm => by
    intro d deep rest hsh hdd hf
    have hd1 := shape_pos hsh
    obtain ⟨k, n, s, ks⟩ := t
    have IH : ∀ u, Tm.sz u < Tm.sz (.mk k n s ks) → RT u := fun u hu => prim_rt m u (by omega)
    have hnd : ∀ c r, rest = c :: r → digitB c = false := by
      intro c r e
      rcases hf with h | ⟨c', r', h, hc⟩
      · rw [h] at e; cases e
      · rw [h] at e; cases e
        rcases hc with rfl | rfl | rfl | rfl <;> rfl
    rcases shape_own hsh with ⟨rfl, hs, rfl⟩ | ⟨rfl, hs, rfl⟩ | ⟨rfl, rfl⟩
    · obtain ⟨n0, n1⟩ := shape_var hsh
      rw [txt_var, ba_of hs]
      exact Par.now fun F => prim_var n0 n1 (by omega)
    · obtain ⟨n0, n1⟩ := shape_int' hsh
      rw [txt_int, ba_of hs]
      exact Par.now fun F => prim_int n0 n1 (by omega) hnd
    · obtain ⟨hn, _⟩ := shape_name hsh
      have hkids : shapeL ks (d - 1) = true := by simp only [shapeF, Bool.and_eq_true] at hsh; exact hsh.2
      have nameR : ∀ rest', FolN rest' → nameP (s.toList ++ rest') = some (s.toList, rest') := fun rest' h => by
        simp only [nameF, Bool.or_eq_true] at hn
        rcases hn with hw | hs
        · refine nameP_word hw fun c r e => ?_
          rcases h with h | ⟨c', r', h, hc⟩
          · rw [h] at e; cases e
          · rw [h] at e; cases e
            rcases hc with rfl | rfl | rfl | rfl | rfl <;> rfl
        · exact nameP_sign (sign_cases hs) h
      by_cases hl : ks.length = 0
      · have : ks = [] := List.eq_nil_of_length_eq_zero hl
        subst this
        rw [txt_atom]
        refine Par.now fun F => ?_
        show primF false (F + 1) deep (s.toList ++ rest) = _
        rw [prim_name hn (by omega) (nameR _ hf.name) (fun _ => hnd) (by simp)]
        rcases hf with rfl | ⟨c, r, rfl, hc⟩
        · rfl
        · have : ¬ c = 40 := by rcases hc with rfl | rfl | rfl | rfl <;> decide
          simp only [afterN, if_neg this]
          rfl
      · cases hp : pairF 3 s ks.length
        · rw [txt_args rfl hp hl, List.append_assoc, List.cons_append, List.append_assoc]
          have hne : ks ≠ [] := fun e => hl (by rw [e]; rfl)
          have h1 := args_rt s deep (d - 1) rest (by omega) ks [] hne (fun u hu => by
            obtain ⟨j, hj⟩ := List.getElem?_of_mem hu
            exact IH u (kid_lt hj)) hkids
          refine h1.step fun F e => ?_
          show primF false (F + 1) deep (s.toList ++ 40 :: (joinF (ks.map (txt false)) ++ 41 :: rest)) = _
          rw [prim_name hn (by omega) (nameR _ (.inr ⟨40, _, rfl, .inl rfl⟩)) (fun _ c r e' => by cases e'; rfl) (by simp)]
          simp only [afterN, if_true]
          rw [e]
          rfl
        · obtain ⟨a, b, rfl⟩ := len_two (pair_two hp).2.1
          rw [txt_pair rfl hp, List.cons_append, List.append_assoc, List.append_assoc]
          have ha := shape_kid hsh (j := 0) (t := a) rfl
          have hb := shape_kid hsh (j := 1) (t := b) rfl
          have hz : Tm.sz a < Tm.sz (.mk 3 0 s [a, b]) ∧ Tm.sz b < Tm.sz (.mk 3 0 s [a, b]) := by simp only [Tm.sz, Tm.szL]; omega
          have h1 := list_rt deep rest _ b (Nat.le_refl _) (fun v h => IH v (by omega)) a [] (d - 1) (IH a hz.1) ha hb (by simp; omega)
          refine h1.step fun F e => ?_
          have h93 : (txt false a ++ (rst false b ++ 93 :: rest)).head? ≠ some 93 := by
            have h1 := head_93 false _ a (Nat.le_refl _) _ ha
            have h2 := tx_ne false a _ ha
            cases h : txt false a with
            | nil => exact absurd h h2
            | cons c l => rw [h] at h1; simpa using h1
          show primF false (F + 1) deep (91 :: (txt false a ++ (rst false b ++ 93 :: rest))) = _
          rw [primF, if_neg (show ¬ 30 < deep by omega)]
          have q1 : isUp 91 = false := by decide
          have q2 : numStart (91 :: (txt false a ++ (rst false b ++ 93 :: rest))) = false := by
            rfl
          simp only [show ¬ (91 : UInt8) = 0 by decide, q1, q2, if_false, Bool.false_eq_true, show ¬ ((91 : UInt8) = 40 ∧ False) by simp, h93, ne_eq, not_false_eq_true, and_self, if_true]
          rw [e]
          obtain rfl : s = dotN := ba_of (pair_two hp).2.2
          rfl

/-- valid terms with one text are one -/
theorem txt_inj {a b : Tm} {d e : Nat} (ha : shapeF a d = true) (hb : shapeF b e = true) (hd : d ≤ 30) (he : e ≤ 30) (h : txt false a = txt false b) : a = b := by
  obtain ⟨F0, h0⟩ := prim_rt _ a (Nat.le_refl _) d 1 [] ha (by omega) (.inl rfl)
  obtain ⟨F1, h1⟩ := prim_rt _ b (Nat.le_refl _) e 1 [] hb (by omega) (.inl rfl)
  have e0 := h0 (F0 + F1) (by omega)
  have e1 := h1 (F0 + F1) (by omega)
  rw [h] at e0
  simp only at e0 e1
  rw [e0] at e1
  simp only [Option.some.injEq, Prod.mk.injEq, and_true] at e1
  exact e1
end Go.Proofs.YtognkaebiafgbaaGreatDoor
