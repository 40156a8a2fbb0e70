/-
  The program's reader, plain: it reads back the text (without operators) of every valid term.
-/
import Derived.Test.YtognkaebiafgbaaGreatMv15
import Derived.Test.YtognkaebiafgbaaGreatMv16
namespace Go.Proofs.YtognkaebiafgbaaGreat
open Go.RowKit
set_option linter.unusedVariables false
def Fol (rest : List UInt8) : Prop := rest = [] ∨ ∃ c r, rest = c :: r ∧ (c = 41 ∨ c = 44 ∨ c = 93 ∨ c = 124)
theorem Fol.of {c : UInt8} {r : List UInt8} (h : c = 41 ∨ c = 44 ∨ c = 93 ∨ c = 124) : Fol (c :: r) := .inr ⟨c, r, rfl, h⟩
def FolN (rest : List UInt8) : Prop := rest = [] ∨ ∃ c r, rest = c :: r ∧ (c = 40 ∨ c = 41 ∨ c = 44 ∨ c = 93 ∨ c = 124)
theorem Fol.name {rest : List UInt8} (h : Fol rest) : FolN rest := by
  rcases h with h | ⟨c, r, h1, h2⟩
  · exact .inl h
  · exact .inr ⟨c, r, h1, .inr h2⟩
theorem word_small {l : List UInt8} (h : wordF l = true) : (∀ c ∈ l, smallB c = true) ∧ 1 ≤ l.length ∧ l.length ≤ 6 := by
  simp only [wordF, Bool.and_eq_true, decide_eq_true_eq, List.all_eq_true] at h
  refine ⟨fun c hc => ?_, h.2⟩
  have := h.1 c hc
  simp only [wordB, Bool.not_eq_true', Bool.or_eq_false_iff, decide_eq_false_iff_not] at this
  simp only [smallB, decide_eq_true_eq]
  omega
theorem takeW_nil {p : UInt8 → Bool} {rest : List UInt8} (h : ∀ c r, rest = c :: r → p c = false) : rest.takeWhile p = [] := by
  cases rest with
  | nil => rfl
  | cons c r => simp [List.takeWhile, h c r rfl]
theorem dropW_id {p : UInt8 → Bool} {rest : List UInt8} (h : ∀ c r, rest = c :: r → p c = false) : rest.dropWhile p = rest := by
  cases rest with
  | nil => rfl
  | cons c r => simp [List.dropWhile, h c r rfl]
theorem nameP_word {s rest : List UInt8} (hw : wordF s = true) (hr : ∀ c r, rest = c :: r → smallB c = false) : nameP (s ++ rest) = some (s, rest) := by
  obtain ⟨h1, h2, h3⟩ := word_small hw
  have e1 : (s ++ rest).takeWhile smallB = s := by rw [List.takeWhile_append_of_pos h1, takeW_nil hr, List.append_nil]
  have e2 : (s ++ rest).dropWhile smallB = rest := by rw [List.dropWhile_append_of_pos h1, dropW_id hr]
  unfold nameP
  rw [e1, e2, if_neg (by omega), if_pos (by omega)]
theorem sign_cases {s : ByteArray} (h : hasF signs s = true) : s.toList = [43] ∨ s.toList = [45] ∨ s.toList = [42] ∨ s.toList = [47, 47] ∨ s.toList = [61] ∨ s.toList = [92, 61] ∨ s.toList = [61, 61] ∨ s.toList = [60] ∨ s.toList = [62] ∨ s.toList = [61, 60] ∨ s.toList = [62, 61] ∨ s.toList = [61, 58, 61] ∨ s.toList = [46] ∨ s.toList = [91, 93] ∨ s.toList = [33] := by
  simp only [hasF, List.any_eq_true, beq_iff_eq] at h
  obtain ⟨x, hx, e⟩ := h
  rw [← e]
  simp only [signs, List.mem_cons, List.not_mem_nil, or_false] at hx
  rcases hx with rfl | rfl | rfl | rfl | rfl | rfl | rfl | rfl | rfl | rfl | rfl | rfl | rfl | rfl | rfl <;> simp [ByteArray.toList_eq]
theorem signN_eq (rest : List UInt8) : signN rest = ([([43], 1), ([45], 1), ([42], 1), ([47, 47], 2), ([61], 1), ([92, 61], 2), ([61, 61], 2), ([60], 1), ([62], 1), ([61, 60], 2), ([62, 61], 2), ([61, 58, 61], 3), ([46], 1), ([91, 93], 2), ([33], 1)] : List (List UInt8 × Nat)).foldl (fun n s => if s.1.isPrefixOf rest = true then max n s.2 else n) 0 := by
  simp only [signN, signs, List.foldl_cons, List.foldl_nil, ByteArray.toList_eq]
  rfl
theorem nameP_sign {s rest : List UInt8} (hs : s = [43] ∨ s = [45] ∨ s = [42] ∨ s = [47, 47] ∨ s = [61] ∨ s = [92, 61] ∨ s = [61, 61] ∨ s = [60] ∨ s = [62] ∨ s = [61, 60] ∨ s = [62, 61] ∨ s = [61, 58, 61] ∨ s = [46] ∨ s = [91, 93] ∨ s = [33])
    (hr : FolN rest) : nameP (s ++ rest) = some (s, rest) := by
  unfold nameP
  rw [signN_eq]
  rcases hr with rfl | ⟨c, r, rfl, hc⟩
  · rcases hs with rfl | rfl | rfl | rfl | rfl | rfl | rfl | rfl | rfl | rfl | rfl | rfl | rfl | rfl | rfl <;> rfl
  · rcases hc with rfl | rfl | rfl | rfl | rfl <;>
    rcases hs with rfl | rfl | rfl | rfl | rfl | rfl | rfl | rfl | rfl | rfl | rfl | rfl | rfl | rfl | rfl <;> rfl
theorem small_facts {b : UInt8} (h : smallB b = true) : b ≠ 0 ∧ isUp b = false ∧ digitB b = false ∧ b ≠ 45 ∧ b ≠ 40 ∧ b ≠ 91 := by
  simp only [smallB, decide_eq_true_eq] at h
  have ne : ∀ n : Nat, n < 97 → b ≠ UInt8.ofNat n := fun n hn e => by
    have := congrArg UInt8.toNat e
    rw [UInt8.toNat_ofNat'] at this
    omega
  refine ⟨ne 0 (by omega), ?_, ?_, ne 45 (by omega), ne 40 (by omega), ne 91 (by omega)⟩
  · simp only [isUp, decide_eq_false_iff_not]; omega
  · simp only [digitB, decide_eq_false_iff_not]; omega
theorem up_let {n : Int} (h0 : 0 ≤ n) (h1 : n ≤ 25) : (letB n).toNat = 65 + n.toNat := by
  unfold letB
  rw [UInt8.toNat_ofNat']; omega
theorem prim_var {o : Bool} {F deep : Nat} {n : Int} {rest : List UInt8} (h0 : 0 ≤ n) (h1 : n ≤ 25) (hd : deep ≤ 30) : primF o (F + 1) deep (letB n :: rest) = some (.mk 1 n eN [], rest) := by
  have hu := up_let h0 h1
  have q1 : letB n ≠ 0 := fun e => by rw [e] at hu; simp at hu; omega
  have q2 : isUp (letB n) = true := by simp only [isUp, decide_eq_true_eq]; omega
  rw [primF, if_neg (show ¬ 30 < deep by omega)]
  simp only [q1, q2, if_false, if_true]
  unfold vT
  rw [hu]
  congr 3
  omega
theorem digs_split {ds rest : List UInt8} (h : ∀ c ∈ ds, digitB c = true) (hr : ∀ c r, rest = c :: r → digitB c = false) : (ds ++ rest).takeWhile digitB = ds ∧ (ds ++ rest).dropWhile digitB = rest :=
  ⟨by rw [List.takeWhile_append_of_pos h, takeW_nil hr, List.append_nil], by rw [List.dropWhile_append_of_pos h, dropW_id hr]⟩
theorem prim_int {o : Bool} {F deep : Nat} {n : Int} {rest : List UInt8} (h0 : -999 ≤ n) (h1 : n ≤ 999) (hd : deep ≤ 30) (hr : ∀ c r, rest = c :: r → digitB c = false) : primF o (F + 1) deep (Lib.itoa n ++ rest) = some (nT n, rest) := by
  have hnum := numO_itoa h0 h1
  obtain ⟨b, l, hb, hbb, hl, hst⟩ : ∃ b l, Lib.itoa n = b :: l ∧ (b = 45 ∨ digitB b = true) ∧ (∀ c ∈ l, digitB c = true) ∧ numStart (b :: (l ++ rest)) = true := by
    unfold Lib.itoa
    split
    · cases h : Lib.decDigits n.natAbs with
      | nil => exact absurd h (dec_ne _)
      | cons c l =>
        have hc := dec_digits _ _ (Nat.le_refl n.natAbs)
        rw [h] at hc
        refine ⟨45, c :: l, rfl, .inl rfl, hc, ?_⟩
        show (digitB 45 || ((45 : UInt8) == 45 && digitB c)) = true
        rw [hc c (by simp)]; rfl
    · cases h : Lib.decDigits n.toNat with
      | nil => exact absurd h (dec_ne _)
      | cons c l =>
        have hc := dec_digits _ _ (Nat.le_refl n.toNat)
        rw [h] at hc
        refine ⟨c, l, rfl, .inr (hc c (by simp)), fun x hx => hc x (by simp [hx]), ?_⟩
        simp only [numStart, hc c (by simp), Bool.true_or]
  have q12 : b ≠ 0 ∧ isUp b = false := by
    rcases hbb with rfl | h
    · exact ⟨by decide, by decide⟩
    · simp only [digitB, decide_eq_true_eq] at h
      refine ⟨fun e => by rw [e] at h; simp at h, ?_⟩
      simp only [isUp, decide_eq_false_iff_not]; omega
  obtain ⟨e1, e2⟩ := digs_split hl hr
  rw [hb, List.cons_append, primF, if_neg (show ¬ 30 < deep by omega)]
  simp only [q12.1, q12.2, hst, if_false, if_true, Bool.false_eq_true]
  simp only [numP, e1, e2]
  rw [← hb, hnum]
theorem shape_pos {t : Tm} {d : Nat} (h : shapeF t d = true) : 1 ≤ d := by
  obtain ⟨k, n, s, ks⟩ := t
  simp only [shapeF, Bool.and_eq_true, decide_eq_true_eq] at h
  exact h.1.1
theorem chain_snoc : ∀ (xs : List Tm) (y tl : Tm), chainT (xs ++ [y]) tl = chainT xs (sT dotN [y, tl])
  | [], y, tl => rfl
  | x :: xs, y, tl => by simp only [List.cons_append, chainT, chain_snoc xs y tl]
theorem ba_of {s : ByteArray} {l : List UInt8} (h : s.toList = l) : s = bs l := bl_ext (by rw [h, bs_list])
theorem head_93 (o : Bool) : ∀ (m : Nat) (t : Tm), Tm.sz t ≤ m → ∀ (d : Nat), shapeF t d = true → (txt o t).head? ≠ some 93
  | 0, t, hm, _, _ => by have := Tm.sz_pos t; omega
  | m + 1, t, hm, d, hsh => by
    obtain ⟨k, n, s, ks⟩ := t
    rcases shape_own hsh with ⟨rfl, hs, rfl⟩ | ⟨rfl, hs, rfl⟩ | ⟨rfl, rfl⟩
    · obtain ⟨n0, n1⟩ := shape_var hsh
      rw [txt_var]
      intro e
      simp only [List.head?_cons, Option.some.injEq] at e
      have := up_let n0 n1
      rw [e] at this
      simp at this
      omega
    · rw [txt_int]
      unfold Lib.itoa
      split
      · simp
      · intro e
        cases h : Lib.decDigits n.toNat with
        | nil => exact absurd h (dec_ne _)
        | cons c l =>
          have hc := dec_digits _ _ (Nat.le_refl n.toNat) c (by rw [h]; simp)
          rw [h] at e
          simp only [List.head?_cons, Option.some.injEq] at e
          rw [e] at hc
          simp [digitB] at hc
    · obtain ⟨hn, _⟩ := shape_name hsh
      have hlen := (name_len hn).1
      have hname : ∀ l, (s.toList ++ l).head? ≠ some 93 := fun l => by
        simp only [nameF, Bool.or_eq_true] at hn
        rcases hn with hw | hs
        · cases h : s.toList with
          | nil => rw [h] at hlen; simp at hlen
          | cons b r =>
            have := (word_small hw).1 b (by rw [h]; simp)
            intro e
            simp only [List.cons_append, List.head?_cons, Option.some.injEq] at e
            rw [e] at this
            simp [smallB] at this
        · rcases sign_cases hs with h | h | h | h | h | h | h | h | h | h | h | h | h | h | h <;> rw [h] <;> simp
      by_cases hio : (o && infF 3 s ks.length) = true
      · simp only [Bool.and_eq_true] at hio
        obtain ⟨rfl, hi⟩ := hio
        obtain ⟨a, b, rfl⟩ := len_two (inf_two hi).2.1
        have e1 : txt true (.mk 3 0 s [a, b]) = opn (txF true a) (leftM s.toList) false ++ (spaced s.toList ++ opn (txF true b) (opLevelF s.toList - 1) true) := by simp [txt, txF, ownTx, txL, show infF 3 s 2 = true from hi]
        have ha := shape_kid hsh (j := 0) (t := a) rfl
        have hz : Tm.sz a < Tm.sz (.mk 3 0 s [a, b]) := by simp only [Tm.sz, Tm.szL]; omega
        have ih := head_93 true m a (by omega) (d - 1) ha
        have hne := tx_ne true a _ ha
        rw [e1]
        unfold opn
        split
        · simp
        · show (txt true a ++ _).head? ≠ _
          cases h : txt true a with
          | nil => exact absurd h hne
          | cons c l => rw [h] at ih; simpa using ih
      · have hio' : (o && infF 3 s ks.length) = false := by simpa using hio
        by_cases hl : ks.length = 0
        · have : ks = [] := List.eq_nil_of_length_eq_zero hl
          subst this
          rw [txt_atom]
          simpa using hname []
        · cases hp : pairF 3 s ks.length
          · rw [txt_args hio' hp hl]
            exact hname _
          · obtain ⟨a, b, rfl⟩ := len_two (pair_two hp).2.1
            rw [txt_pair hio' hp]
            simp
end Go.Proofs.YtognkaebiafgbaaGreat

namespace Go.Proofs.YtognkaebiafgbaaGreat
open Go.RowKit
set_option linter.unusedVariables false
theorem valid_parts {t : Tm} (h : validF t = true) : shapeF t 30 = true ∧ Tm.sz t ≤ 120 := by
  rw [valid_eq] at h
  simpa using h
theorem op_word {s : List UInt8} (h : 0 < opLevelF s) : wordF s = (s == [105, 115] || s == [109, 111, 100]) := by
  unfold opLevelF at h
  split at h
  · rename_i h'
    rcases h' with rfl | rfl | rfl | rfl | rfl | rfl | rfl | rfl | rfl <;> rfl
  · split at h
    · rename_i h'
      rcases h' with rfl | rfl <;> rfl
    · split at h
      · rename_i h'
        rcases h' with rfl | rfl | rfl <;> rfl
      · omega
theorem op_le3 (s : List UInt8) : opLevelF s ≤ 3 := by unfold opLevelF; repeat' split <;> omega
end Go.Proofs.YtognkaebiafgbaaGreat

namespace Go.Proofs.YtognkaebiafgbaaGreat
open Go.RowKit
set_option linter.unusedVariables false
def opTab : List (List UInt8 × List UInt8) := [([43], [43]), ([45], [45]), ([42], [42]), ([47, 47], [47, 47]), ([61], [61]), ([92, 61], [92, 61]), ([61, 61], [61, 61]), ([60], [60]), ([62], [62]), ([61, 60], [61, 60]), ([62, 61], [62, 61]), ([61, 58, 61], [61, 58, 61]), ([105, 115], [32, 105, 115, 32]), ([109, 111, 100], [32, 109, 111, 100, 32])]
theorem opP_eq (rest : List UInt8) : opP rest = opTab.foldl (fun best s => if (s.2.isPrefixOf rest && decide (best.length < s.1.length)) = true then s.1 else best) [] := by
  simp only [opP, signs, wordOps, List.cons_append, List.nil_append, List.foldl_cons, List.foldl_nil, ByteArray.toList_eq]
  rfl
theorem op_cases {s : List UInt8} (h : 0 < opLevelF s) : s = [61] ∨ s = [92, 61] ∨ s = [61, 61] ∨ s = [60] ∨ s = [62] ∨ s = [61, 60] ∨ s = [62, 61] ∨ s = [61, 58, 61] ∨ s = [105, 115] ∨ s = [43] ∨ s = [45] ∨ s = [42] ∨ s = [47, 47] ∨ s = [109, 111, 100] := by
  unfold opLevelF at h
  split at h
  · rename_i h'
    rcases h' with h | h | h | h | h | h | h | h | h <;> simp [h]
  · split at h
    · rename_i h'
      rcases h' with h | h <;> simp [h]
    · split at h
      · rename_i h'
        rcases h' with h | h | h <;> simp [h]
      · omega
def clB (c : UInt8) : Prop := c = 41 ∨ c = 44 ∨ c = 93 ∨ c = 124 ∨ c = 46 ∨ c = 58
theorem opP_cl {c : UInt8} {r : List UInt8} (h : clB c) : opP (c :: r) = [] := by
  rw [opP_eq]
  rcases h with rfl | rfl | rfl | rfl | rfl | rfl <;> rfl
theorem opP_nil : opP [] = [] := by rw [opP_eq]; rfl
theorem pl_facts {b : UInt8} {r : List UInt8} (h : plB (b :: r) = true) : ¬ (61 = b) ∧ ¬ (60 = b) ∧ ¬ (62 = b) ∧ ¬ (58 = b) ∧ ¬ (47 = b) := by
  have ne : ∀ n : Nat, n < 256 → ¬ (97 ≤ n ∧ n ≤ 122) → ¬ (48 ≤ n ∧ n ≤ 57) → ¬ (65 ≤ n ∧ n ≤ 90) → n ≠ 91 → n ≠ 40 → ¬ (UInt8.ofNat n = b) := fun n h0 h1 h2 h3 h4 h5 => by
    rintro rfl
    simp only [plB, UInt8.toNat_ofNat', Bool.or_eq_true, decide_eq_true_eq, beq_iff_eq] at h
    have e : n % 2 ^ 8 = n := Nat.mod_eq_of_lt (by omega)
    rw [e] at h
    rcases h with (((h | h) | h) | h) | h
    · exact h1 h
    · exact h2 h
    · exact h3 h
    · have := congrArg UInt8.toNat h; rw [UInt8.toNat_ofNat', e] at this; exact h4 this
    · have := congrArg UInt8.toNat h; rw [UInt8.toNat_ofNat', e] at this; exact h5 this
  exact ⟨ne 61 (by omega) (by omega) (by omega) (by omega) (by omega) (by omega), ne 60 (by omega) (by omega) (by omega) (by omega) (by omega) (by omega), ne 62 (by omega) (by omega) (by omega) (by omega) (by omega) (by omega),
    ne 58 (by omega) (by omega) (by omega) (by omega) (by omega) (by omega), ne 47 (by omega) (by omega) (by omega) (by omega) (by omega) (by omega)⟩
def RestO (rest : List UInt8) : Prop := rest = [] ∨ (∃ c r, rest = c :: r ∧ clB c) ∨ (∃ s b r, rest = spaced s ++ b :: r ∧ 0 < opLevelF s ∧ plB (b :: r) = true)
theorem Fol.restO {rest : List UInt8} (h : Fol rest) : RestO rest := by
  rcases h with h | ⟨c, r, h, hc⟩
  · exact .inl h
  · exact .inr (.inl ⟨c, r, h, by unfold clB; rcases hc with h | h | h | h <;> simp [h]⟩)
theorem Fol.op {rest : List UInt8} (h : Fol rest) : opP rest = [] := by
  rcases h with h | ⟨c, r, h, hc⟩
  · rw [h, opP_nil]
  · rw [h]; exact opP_cl (by unfold clB; rcases hc with h | h | h | h <;> simp [h])
theorem rest_head {rest : List UInt8} (h : RestO rest) : ∀ c r, rest = c :: r → smallB c = false ∧ digitB c = false ∧ c ≠ 40 := by
  intro c r e
  rcases h with h | ⟨c', r', h, hc⟩ | ⟨s, b, r', h, hs, hb⟩
  · rw [h] at e; cases e
  · rw [h] at e; cases e
    rcases hc with rfl | rfl | rfl | rfl | rfl | rfl <;> exact ⟨rfl, rfl, by decide⟩
  · rw [h] at e
    rcases op_cases hs with rfl | rfl | rfl | rfl | rfl | rfl | rfl | rfl | rfl | rfl | rfl | rfl | rfl | rfl <;>
      (simp only [spaced, wordF] at e; simp at e; obtain ⟨rfl, _⟩ := e; exact ⟨rfl, rfl, by decide⟩)
theorem opn_plain {x : Tx} {m : Int} : ∃ b r, opn x m true = b :: r ∧ plB (b :: r) = true := by
  unfold opn
  split
  · exact ⟨40, _, rfl, by simp [plB]⟩
  · rename_i h
    cases e : x.txt with
    | nil => exact absurd (.inr (.inr ⟨rfl, by rw [e]; rfl⟩)) h
    | cons b r =>
      refine ⟨b, r, rfl, ?_⟩
      cases hp : plB (b :: r)
      · exact absurd (.inr (.inr ⟨rfl, by rw [e]; exact hp⟩)) h
      · rfl
theorem loop_stop {F : Nat} {L mine : Int} {deep : Nat} {t : Tm} {rest : List UInt8} (h : opP rest = [] ∨ L < opLevelF (opP rest)) : loopF true (F + 1) L deep mine t rest = some (t, rest) := by
  rw [loopF, if_pos]
  rcases h with h | h
  · exact .inl h
  · exact .inr (.inl h)
def lev (t : Tm) : Int := (txF true t).lev
def sole (t : Tm) : Bool := (txF true t).sole
def MT (t : Tm) : Prop := ∀ (d deep : Nat) (L : Int) (rest : List UInt8) (X : Tm × List UInt8), shapeF t d = true → deep + d ≤ 31 → lev t ≤ L → RestO rest → (sole t = true → Fol rest) → (opP rest = [] ∨ lev t ≤ opLevelF (opP rest)) →
  Par (fun F => loopF true F L deep (lev t) t rest) X → Par (fun F => termF true F L deep (txt true t ++ rest)) X
theorem MT.el {t : Tm} (h : MT t) {d deep : Nat} {rest : List UInt8} (hs : shapeF t d = true) (hd : deep + d ≤ 31) (hf : Fol rest) : Par (fun F => termF true F 3 deep (txt true t ++ rest)) (t, rest) := by
  refine h d deep 3 rest (t, rest) hs hd ?_ hf.restO (fun _ => hf) (.inl hf.op) (Par.now fun F => loop_stop (.inl hf.op))
  unfold lev
  obtain ⟨k, n, s, ks⟩ := t
  show levF k s ks.length ≤ 3
  unfold levF
  split
  · exact (show opLevelF s.toList ≤ 3 by unfold opLevelF; repeat' split <;> omega)
  · omega
theorem nameP_free {s rest : List UInt8} (hs : s = [46] ∨ s = [91, 93] ∨ s = [33]) : nameP (s ++ rest) = some (s, rest) := by
  unfold nameP
  rw [signN_eq]
  rcases hs with rfl | rfl | rfl <;> rfl
theorem leftM_le {s : List UInt8} : 0 ≤ leftM s ∧ leftM s ≤ opLevelF s := by
  have := opLevel_nn s
  unfold leftM
  split <;> omega
end Go.Proofs.YtognkaebiafgbaaGreat
