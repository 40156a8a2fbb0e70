/-
  The reference's parser (without operators), plain; it reads back the text of every valid term; what a parser of texts answers.
-/
import Derived.Laws.IdiomStrings
import Derived.Test.YtognkaebiafgbaaGreatDoorMp24
import Derived.Test.YtognkaebiafgbaaGreatDoorMp32
import Derived.Test.YtognkaebiafgbaaGreatDoorMp20
namespace Go.Proofs.YtognkaebiafgbaaGreatDoor
open Go.RowKit
set_option linter.unusedVariables false

def argsS (f : List UInt8 → Option (Tm × List UInt8)) : Nat → List Tm → List UInt8 → Option (List Tm × List UInt8)
  | 0, _, _ => none
  | n + 1, acc, rest =>
    match f rest with
    | some (k, c :: r) => if c = 41 then some (acc ++ [k], r) else if c = 44 then argsS f n (acc ++ [k]) r else none
    | _ => none
def itemsS (f : List UInt8 → Option (Tm × List UInt8)) : Nat → List Tm → List UInt8 → Option (Tm × List UInt8)
  | 0, _, _ => none
  | n + 1, acc, rest =>
    match f rest with
    | some (k, c :: r) =>
      if c = 124 then
        match f r with
        | some (tl, d :: r') => if d = 93 then some (chainT (acc ++ [k]) tl, r') else none
        | _ => none
      else if c = 93 then some (chainT (acc ++ [k]) (sT nilN []), r)
      else if c = 44 then itemsS f n (acc ++ [k]) r else none
    | _ => none
/-- what is read behind a name -/
def nameS (f : List UInt8 → Option (Tm × List UInt8)) (s : ByteArray) : List UInt8 → Option (Tm × List UInt8)
  | c :: r => if c = 40 then (match argsS f 5 [] r with | some (ks, r') => some (sT s ks, r') | none => none) else some (sT s [], c :: r)
  | [] => some (sT s [], [])
noncomputable def spP : Nat → List UInt8 → Option (Tm × List UInt8)
  | 0, _ => none
  | d + 1, rest =>
    match rest with
    | [] => none
    | b :: r =>
      if isUp b = true then some (vT b, r) else
      if numStart (b :: r) = true then numP (b :: r) else
      if b = 91 ∧ r.head? ≠ some 93 then itemsS (spP d) 121 [] r else
      match nameP (b :: r) with
      | none => none
      | some (s, r') => nameS (spP d) (bs s) r'

def RS (t : Tm) : Prop := ∀ (d e : Nat) (rest : List UInt8), shapeF t d = true → d ≤ e → Fol rest → spP e (txt false t ++ rest) = some (t, rest)
theorem sp_name {d : Nat} {s : ByteArray} {rest : List UInt8} (hn : nameF s = true) (hr : nameP (s.toList ++ rest) = some (s.toList, rest))
    (h45 : s.toList = [45] → ∀ c r, rest = c :: r → digitB c = false) : spP (d + 1) (s.toList ++ rest) = nameS (spP d) s rest := by
  have hlen := (name_len hn).1
  obtain ⟨b, l, hb⟩ : ∃ b l, s.toList = b :: l := by
    cases h : s.toList with
    | nil => rw [h] at hlen; simp at hlen
    | cons b l => exact ⟨b, l, rfl⟩
  have key : isUp b = false ∧ numStart (b :: (l ++ rest)) = false ∧ ¬ (b = 91 ∧ (l ++ rest).head? ≠ some 93) := by
    simp only [nameF, Bool.or_eq_true] at hn
    rcases hn with hw | hs
    · have := (word_small hw).1 b (by rw [hb]; simp)
      obtain ⟨q1, q2, q3, q4, q5, q6⟩ := small_facts this
      refine ⟨q2, ?_, fun h => q6 h.1⟩
      simp only [numStart, q3, Bool.false_or]
      have : (b == 45) = false := by simpa using q4
      rw [this]; rfl
    · have hc := sign_cases hs
      rw [hb] at hc h45
      rcases hc with hc | hc | hc | hc | hc | hc | hc | hc | hc | hc | hc | hc | hc | hc | hc <;> obtain ⟨rfl, rfl⟩ := List.cons.inj hc
      case inr.inr.inl =>
        refine ⟨by decide, ?_, by simp⟩
        cases rest with
        | nil => rfl
        | cons c r =>
          have := h45 rfl c r rfl
          show (digitB 45 || ((45 : UInt8) == 45 && digitB c)) = false
          rw [this]; rfl
      all_goals
        refine ⟨by decide, ?_, by simp⟩
        first
        | rfl
        | (show (digitB _ || (_ == 45 && _)) = false; simp [digitB])
  obtain ⟨q2, q3, q5⟩ := key
  have hr' : nameP (b :: (l ++ rest)) = some (s.toList, rest) := by rw [← List.cons_append, ← hb]; exact hr
  rw [hb, List.cons_append, spP]
  simp only [q2, q3, q5, if_false, Bool.false_eq_true, hr', bs_of]
theorem sp_var {d : Nat} {n : Int} {rest : List UInt8} (h0 : 0 ≤ n) (h1 : n ≤ 25) : spP (d + 1) (letB n :: rest) = some (.mk 1 n eN [], rest) := by
  have hu := up_let h0 h1
  have q2 : isUp (letB n) = true := by simp only [isUp, decide_eq_true_eq]; omega
  rw [spP]
  simp only [q2, if_true]
  unfold vT
  rw [hu]
  congr 3
  omega
theorem sp_int {d : Nat} {n : Int} {rest : List UInt8} (h0 : -999 ≤ n) (h1 : n ≤ 999) (hr : ∀ c r, rest = c :: r → digitB c = false) : spP (d + 1) (Lib.itoa n ++ rest) = some (nT n, rest) := by
  have h := prim_int (o := false) (F := 0) (deep := 0) (rest := rest) h0 h1 (by omega) hr
  obtain ⟨b, l, hb⟩ : ∃ b l, Lib.itoa n = b :: l := by
    cases e : Lib.itoa n with
    | nil => rw [e] at h; have := tx_ne false (.mk 2 n eN []) 1 (by simp [shapeF, shapeL, ownF, eN, ByteArray.toList_eq]; omega); rw [txt_int, e] at this; exact absurd rfl this
    | cons b l => exact ⟨b, l, rfl⟩
  have hst : isUp b = false ∧ numStart (b :: (l ++ rest)) = true := by
    unfold Lib.itoa at hb
    split at hb
    · obtain ⟨rfl, rfl⟩ := List.cons.inj hb
      refine ⟨by decide, ?_⟩
      cases e : Lib.decDigits n.natAbs with
      | nil => exact absurd e (dec_ne _)
      | cons c l =>
        have hc := dec_digits _ _ (Nat.le_refl n.natAbs)
        rw [e] at hc
        show (digitB 45 || ((45 : UInt8) == 45 && digitB c)) = true
        rw [hc c (by simp)]; rfl
    · have hc := dec_digits _ _ (Nat.le_refl n.toNat) b (by rw [hb]; simp)
      refine ⟨?_, by simp only [numStart, hc, Bool.true_or]⟩
      simp only [digitB, decide_eq_true_eq] at hc
      simp only [isUp, decide_eq_false_iff_not]; omega
  have h0' : b ≠ 0 := by
    intro e
    have := hst.2
    rw [e] at this
    simp [numStart, digitB] at this
  rw [hb, List.cons_append] at h ⊢
  rw [primF, if_neg (by omega)] at h
  rw [spP]
  simp only [h0', hst.1, hst.2, if_false, if_true, Bool.false_eq_true] at h ⊢
  exact h
theorem args_rs (d e : Nat) (rest : List UInt8) (hd : d ≤ e) : ∀ (ks acc : List Tm) (m : Nat), ks ≠ [] → ks.length ≤ m → (∀ k ∈ ks, RS k) → shapeL ks d = true →
    argsS (spP e) m acc (joinF (ks.map (txt false)) ++ 41 :: rest) = some (acc ++ ks, rest)
  | [], _, _, h, _, _, _ => absurd rfl h
  | [k], acc, m, _, hm, hk, hs => by
    simp only [shapeL, Bool.and_eq_true] at hs
    obtain ⟨m, rfl⟩ : ∃ n, m = n + 1 := ⟨m - 1, by simp at hm; omega⟩
    have e1 := hk k (by simp) d e (41 :: rest) hs.1 hd (Fol.of (.inl rfl))
    simp only [List.map_cons, List.map_nil, joinF, argsS, e1, if_true]
  | k :: k' :: ks, acc, m, _, hm, hk, hs => by
    simp only [shapeL, Bool.and_eq_true] at hs
    obtain ⟨m, rfl⟩ : ∃ n, m = n + 1 := ⟨m - 1, by simp at hm; omega⟩
    have e1 := hk k (by simp) d e (44 :: (joinF ((k' :: ks).map (txt false)) ++ 41 :: rest)) hs.1 hd (Fol.of (.inr (.inl rfl)))
    have h2 := args_rs d e rest hd (k' :: ks) (acc ++ [k]) m (by simp) (by simp at hm ⊢; omega) (fun x hx => hk x (by simp [hx])) (by simp only [shapeL, Bool.and_eq_true]; exact hs.2)
    simp only [List.map_cons, joinF, List.append_assoc, List.cons_append] at e1 h2 ⊢
    rw [argsS]
    simp only [e1, show ¬ (44 : UInt8) = 41 by decide, if_false, if_true, h2]
    simp
theorem items_rs (e : Nat) (rest : List UInt8) : ∀ (m : Nat) (u : Tm), Tm.sz u ≤ m → (∀ v, Tm.sz v ≤ Tm.sz u → RS v) → ∀ (a : Tm) (acc : List Tm) (d N : Nat), RS a → shapeF a d = true → shapeF u d = true → d ≤ e → Tm.sz u ≤ N →
    itemsS (spP e) N acc (txt false a ++ (rst false u ++ 93 :: rest)) = some (chainT (acc ++ [a]) u, rest)
  | 0, u, hm, _, _, _, _, _, _, _, _, _, _ => by have := Tm.sz_pos u; omega
  | m + 1, u, hm, hv, a, acc, d, N, ha, hsa, hsu, hd, hN => by
    have hpos := Tm.sz_pos u
    obtain ⟨N, rfl⟩ : ∃ n, N = n + 1 := ⟨N - 1, by omega⟩
    obtain ⟨k, n, s, ks⟩ := u
    cases hp : pairF k s ks.length
    · cases hn : nilF k s ks.length
      · rw [rst_tail hp hn, List.cons_append]
        have h1 := ha d e (124 :: (txt false (.mk k n s ks) ++ 93 :: rest)) hsa hd (Fol.of (.inr (.inr (.inr rfl))))
        have h2 := hv _ (Nat.le_refl _) d e (93 :: rest) hsu hd (Fol.of (.inr (.inr (.inl rfl))))
        rw [itemsS]
        simp only [h1, h2, if_true]
      · rw [rst_nil hp hn, List.nil_append]
        have h1 := ha d e (93 :: rest) hsa hd (Fol.of (.inr (.inr (.inl rfl))))
        rw [itemsS]
        simp only [h1, show ¬ (93 : UInt8) = 124 by decide, if_false, if_true]
        simp only [nilF, Bool.and_eq_true, beq_iff_eq] at hn
        obtain ⟨⟨rfl, hs⟩, hl⟩ := hn
        have hks : ks = [] := List.eq_nil_of_length_eq_zero (by omega)
        have hn0 : n = 0 := by rcases shape_own hsu with ⟨h, _⟩ | ⟨h, _⟩ | ⟨_, h⟩; cases h; cases h; exact h
        rw [hks, hn0, ba_of hs]
        rfl
    · obtain ⟨rfl, h2l, h46⟩ := pair_two hp
      obtain ⟨x, y, rfl⟩ := len_two h2l
      have hn0 : n = 0 := by rcases shape_own hsu with ⟨h, _⟩ | ⟨h, _⟩ | ⟨_, h⟩; cases h; cases h; exact h
      rw [rst_pair hp, List.cons_append, List.append_assoc]
      have hx := shape_kid hsu (j := 0) (t := x) rfl
      have hy := shape_kid hsu (j := 1) (t := y) rfl
      have hz : Tm.sz x < Tm.sz (.mk 3 n s [x, y]) ∧ Tm.sz y < Tm.sz (.mk 3 n s [x, y]) := by simp only [Tm.sz, Tm.szL]; omega
      have h1 := ha d e (44 :: (txt false x ++ (rst false y ++ 93 :: rest))) hsa hd (Fol.of (.inr (.inl rfl)))
      have h2 := items_rs e rest m y (by omega) (fun v h => hv v (by omega)) x (acc ++ [a]) (d - 1) N (hv x (by omega)) hx hy (by omega) (by omega)
      rw [itemsS]
      simp only [h1, show ¬ (44 : UInt8) = 124 by decide, show ¬ (44 : UInt8) = 93 by decide, if_false, if_true]
      rw [h2, hn0, ba_of h46, chain_snoc]
      rfl
/-- the reference reads back the text of every valid term -/
theorem sp_rt : ∀ (m : Nat) (t : Tm), Tm.sz t ≤ m → Tm.sz t ≤ 120 → RS t
  | 0, t, hm, _ => by have := Tm.sz_pos t; omega
  | m + 1, t, hm, h120 => by
    intro d e rest hsh hde hf
    have hd1 := shape_pos hsh
    obtain ⟨e, rfl⟩ : ∃ n, e = n + 1 := ⟨e - 1, by omega⟩
    obtain ⟨k, n, s, ks⟩ := t
    have IH : ∀ u, Tm.sz u < Tm.sz (.mk k n s ks) → RS u := fun u hu => sp_rt m u (by omega) (by omega)
    have hnd : ∀ c r, rest = c :: r → digitB c = false := by
      intro c r e
      rcases hf with h | ⟨c', r', h, hc⟩
      · rw [h] at e; cases e
      · rw [h] at e; cases e
        rcases hc with rfl | rfl | rfl | rfl <;> rfl
    rcases shape_own hsh with ⟨rfl, hs, rfl⟩ | ⟨rfl, hs, rfl⟩ | ⟨rfl, rfl⟩
    · obtain ⟨n0, n1⟩ := shape_var hsh
      rw [txt_var, ba_of hs]
      exact sp_var n0 n1
    · obtain ⟨n0, n1⟩ := shape_int' hsh
      rw [txt_int, ba_of hs]
      exact sp_int n0 n1 hnd
    · obtain ⟨hn, hl4⟩ := shape_name hsh
      have hkids : shapeL ks (d - 1) = true := by simp only [shapeF, Bool.and_eq_true] at hsh; exact hsh.2
      have nameR : ∀ rest', FolN rest' → nameP (s.toList ++ rest') = some (s.toList, rest') := fun rest' h => by
        simp only [nameF, Bool.or_eq_true] at hn
        rcases hn with hw | hs
        · refine nameP_word hw fun c r e => ?_
          rcases h with h | ⟨c', r', h, hc⟩
          · rw [h] at e; cases e
          · rw [h] at e; cases e
            rcases hc with rfl | rfl | rfl | rfl | rfl <;> rfl
        · exact nameP_sign (sign_cases hs) h
      by_cases hl : ks.length = 0
      · have : ks = [] := List.eq_nil_of_length_eq_zero hl
        subst this
        rw [txt_atom, sp_name hn (nameR _ hf.name) (fun _ => hnd)]
        rcases hf with rfl | ⟨c, r, rfl, hc⟩
        · rfl
        · have : ¬ c = 40 := by rcases hc with rfl | rfl | rfl | rfl <;> decide
          simp only [nameS, if_neg this]
          rfl
      · cases hp : pairF 3 s ks.length
        · rw [txt_args rfl hp hl, List.append_assoc, List.cons_append, List.append_assoc]
          have hne : ks ≠ [] := fun e => hl (by rw [e]; rfl)
          have h1 := args_rs (d - 1) e rest (by omega) ks [] 5 hne (by omega) (fun u hu => by
            obtain ⟨j, hj⟩ := List.getElem?_of_mem hu
            exact IH u (kid_lt hj)) hkids
          show spP (e + 1) (s.toList ++ 40 :: (joinF (ks.map (txt false)) ++ 41 :: rest)) = _
          rw [sp_name hn (nameR _ (.inr ⟨40, _, rfl, .inl rfl⟩)) (fun _ c r e' => by cases e'; rfl)]
          simp only [nameS, if_true, h1]
          rfl
        · obtain ⟨a, b, rfl⟩ := len_two (pair_two hp).2.1
          rw [txt_pair rfl hp, List.cons_append, List.append_assoc, List.append_assoc]
          have ha := shape_kid hsh (j := 0) (t := a) rfl
          have hb := shape_kid hsh (j := 1) (t := b) rfl
          have hz : Tm.sz a < Tm.sz (.mk 3 0 s [a, b]) ∧ Tm.sz b < Tm.sz (.mk 3 0 s [a, b]) := by simp only [Tm.sz, Tm.szL]; omega
          have h1 := items_rs e rest _ b (Nat.le_refl _) (fun v h => IH v (by omega)) a [] (d - 1) 121 (IH a hz.1) ha hb (by omega) (by omega)
          have h93 : (txt false a ++ (rst false b ++ 93 :: rest)).head? ≠ some 93 := by
            have h1 := head_93 false _ a (Nat.le_refl _) _ ha
            have h2 := tx_ne false a _ ha
            cases h : txt false a with
            | nil => exact absurd h h2
            | cons c l => rw [h] at h1; simpa using h1
          show spP (e + 1) (91 :: (txt false a ++ (rst false b ++ 93 :: rest))) = _
          rw [spP]
          have q1 : isUp 91 = false := by decide
          have q2 : numStart (91 :: (txt false a ++ (rst false b ++ 93 :: rest))) = false := by rfl
          simp only [q1, q2, if_false, Bool.false_eq_true, h93, ne_eq, not_false_eq_true, and_self, if_true]
          rw [h1]
          obtain rfl : s = dotN := ba_of (pair_two hp).2.2
          rfl

open Classical in
/-- the valid term with a text -/
noncomputable def parseO (l : List UInt8) : Option Tm := if h : ∃ t, validF t = true ∧ txt false t = l then some h.choose else none
theorem parseO_some {t : Tm} (h : validF t = true) : parseO (txt false t) = some t := by
  have he : ∃ u, validF u = true ∧ txt false u = txt false t := ⟨t, h, rfl⟩
  unfold parseO
  rw [dif_pos he]
  exact congrArg some (txt_inj (valid_parts he.choose_spec.1).1 (valid_parts h).1 (Nat.le_refl _) (Nat.le_refl _) he.choose_spec.2)
theorem parseO_none {l : List UInt8} (h : ∀ t, validF t = true → txt false t ≠ l) : parseO l = none := by
  unfold parseO
  rw [dif_neg]
  rintro ⟨t, h1, h2⟩
  exact h t h1 h2
theorem parseO_spec {l : List UInt8} {t : Tm} (h : parseO l = some t) : validF t = true ∧ txt false t = l := by
  unfold parseO at h
  split at h
  · rename_i he
    rw [← Option.some.inj h]
    exact he.choose_spec
  · cases h
end Go.Proofs.YtognkaebiafgbaaGreatDoor

/-
  The marks that a law writes into a term's memory, and reads back.
-/
namespace Go.Proofs.YtognkaebiafgbaaGreatDoor
open Go.RowKit
set_option linter.unusedVariables false

/-- the last decimal digit -/
def digB (k : Nat) : UInt8 := UInt8.ofNat (48 + k % 10)
/-- the decimal digits of a number ahead of others -/
def decL (k : Nat) (acc : List UInt8) : List UInt8 := if k = 0 then acc else decL (k / 10) (digB k :: acc)
termination_by k
theorem decL_zero (acc : List UInt8) : decL 0 acc = acc := by rw [decL]; simp
theorem decL_pos {k : Nat} (h : 0 < k) (acc : List UInt8) : decL k acc = decL (k / 10) (digB k :: acc) := by rw [decL, if_neg (by omega)]
theorem decL_le : ∀ (n k : Nat) (acc : List UInt8), k < 10 ^ n → acc.length ≤ (decL k acc).length ∧ (decL k acc).length ≤ acc.length + n
  | 0, k, acc, h => by
    have : k = 0 := by simp at h; omega
    subst this
    rw [decL_zero]
    omega
  | n + 1, k, acc, h => by
    by_cases hk : k = 0
    · subst hk; rw [decL_zero]; omega
    · rw [decL_pos (by omega)]
      have := decL_le n (k / 10) (digB k :: acc) (Nat.div_lt_of_lt_mul (by rw [Nat.pow_succ, Nat.mul_comm] at h; exact h))
      simp only [List.length_cons] at this
      omega
/-- the mark of number k -/
def markB (k : Nat) : ByteArray := if k = 0 then ⟨#[109, 48]⟩ else ⟨(109 :: decL k []).toArray⟩
theorem markB_size {k : Nat} (h : k < 10000000) : (markB k).size ≤ 1048576 := by
  unfold markB
  split
  · decide
  · have := (decL_le 7 k [] (by omega)).2
    simp [ByteArray.size] at this ⊢
    omega
mutual
def markT : Tm → Nat → Tm
  | .mk _ _ _ ks, k => .mk k (k + 1 : Nat) (markB (k + 2)) (markL ks (k + 3))
def markL : List Tm → Nat → List Tm
  | [], _ => []
  | t :: ts, k => markT t k :: markL ts (k + 3 * Tm.sz t)
end
theorem markL_len : ∀ (ts : List Tm) (k : Nat), (markL ts k).length = ts.length
  | [], _ => rfl
  | t :: ts, k => by simp [markL, markL_len ts]
theorem markL_get : ∀ {ts : List Tm} {j k : Nat} {t : Tm}, ts[j]? = some t → (markL ts k)[j]? = some (markT t (k + 3 * Tm.szL (ts.take j)))
  | [], j, k, t, h => by simp at h
  | t0 :: ts, 0, k, t, h => by simp at h; subst h; simp [markL, Tm.szL]
  | t0 :: ts, j + 1, k, t, h => by
    simp only [markL, List.getElem?_cons_succ, List.take_succ_cons, Tm.szL]
    rw [markL_get (by simpa using h)]
    congr 2
    omega
theorem markL_snoc : ∀ {ts : List Tm} {j k : Nat} {t : Tm}, ts[j]? = some t → markL (ts.take (j + 1)) k = markL (ts.take j) k ++ [markT t (k + 3 * Tm.szL (ts.take j))]
  | [], j, k, t, h => by simp at h
  | t0 :: ts, 0, k, t, h => by simp at h; subst h; simp [markL, Tm.szL]
  | t0 :: ts, j + 1, k, t, h => by
    simp only [markL, List.take_succ_cons, Tm.szL, List.cons_append]
    rw [markL_snoc (by simpa using h)]
    congr 4
    omega
theorem szL_snoc' {ts : List Tm} {j : Nat} {t : Tm} (h : ts[j]? = some t) : Tm.szL (ts.take (j + 1)) = Tm.szL (ts.take j) + Tm.sz t := by
  induction ts generalizing j with
  | nil => simp at h
  | cons t0 ts ih =>
    cases j with
    | zero => simp at h; subst h; simp [Tm.szL]
    | succ j =>
      have := ih (j := j) (by simpa using h)
      simp only [List.take_succ_cons, Tm.szL]
      omega
theorem szL_take_le : ∀ (ts : List Tm) (j : Nat), Tm.szL (ts.take j) ≤ Tm.szL ts
  | [], j => by simp
  | t :: ts, 0 => by simp [Tm.szL]
  | t :: ts, j + 1 => by have := szL_take_le ts j; simp only [List.take_succ_cons, Tm.szL]; omega
theorem markT_kids (t : Tm) (k : Nat) : (markT t k).kids = markL t.kids (k + 3) := by cases t; rfl

set_option maxHeartbeats 1000000 in
theorem ba_app (a b : List UInt8) : ((⟨a.toArray⟩ : ByteArray) ++ (⟨b.toArray⟩ : ByteArray)) = ⟨(a ++ b).toArray⟩ := ByteArray.ext (by simp [ByteArray.data_append])
/-- a string of one byte -/
theorem conv_one (w : World) (T : TypeId) (c : UInt8) (x : Int) (hx : x = c.toNat) : Sem.run Tryz.prog (convert 22 9 (.slice (some ⟨w.heap.size, 0, none⟩) 1 1)) (w.alloc (.cells #[.int .u8 x] T)) = .ok (.string ⟨#[c]⟩) (w.alloc (.cells #[.int .u8 x] T)) := by
  subst hx
  exact run_convert_bytes_back (P := Tryz.prog) _ 22 9 5 ⟨w.heap.size, 0, none⟩ 1 [c] Tryz.underlying22 Tryz.underlying5 Tryz.underlying9 (fun j hj => by
    have h1 : j < 1 := hj
    have : j = 0 := by omega
    subst this
    exact cell_new w _ _ 0 _ rfl)
theorem digit_toNat (j : Nat) : (48 + (j : Int) % 10) = ((digB j).toNat : Int) := by
  unfold digB
  rw [UInt8.toNat_ofNat']
  omega

set_option maxRecDepth 100000 in
theorem lawsmarkText (k : Nat) (hk : k < 10000000) (w : World) : Calls Tryz.prog 76 #[.int .i64 k] w fun e w' => e = .returned (.string (markB k)) ∧ Ext w w' := by
  by_cases h0 : k = 0
  · subst h0
    go_enter Tryz.func76, Tryz.ntmps76
    go_wp2_with fail
    go_ret
    exact ⟨rfl, Ext.refl _⟩
  · have HD := Lib.hid (decL_le 7 k [] (by omega))
    have hpos : 0 < k := by omega
    have HK := Lib.hid hk
    have H0 := Lib.hid h0
    have hk2 : k ≤ 9223372036854775807 := by omega
    clear h0 hk
    go_enter Tryz.func76, Tryz.ntmps76
    go_wp2_with fail
    go_loopw [0, 3] (fun n s wr => ∃ (j : Nat) (acc : List UInt8), j ≤ k ∧ n = .int .i64 j ∧ s = .string ⟨acc.toArray⟩ ∧ Hid (decL j acc = decL k []) ∧ Ext w wr) (fun n _ _ => (intOf n).toNat)
    case atStart => exact ⟨k, [], Nat.le_refl _, rfl, rfl, Lib.hid rfl, Ext.refl _⟩
    case round =>
      obtain ⟨j, acc, hj, rfl, rfl, HA, he⟩ := hrel
      have hl := (decL_le 7 j acc (by have := HK.out; omega)).1
      rw [HA.out] at hl
      have hacc : acc.length ≤ 7 := by have := HD.out.2; simp at this; omega
      clear hl
      by_cases hz : 0 < j
      · have HN := Lib.hid (decL_pos hz acc)
        have hd1 : j / 10 ≤ k := by omega
        have hd2 : j / 10 < j := by omega
        have hcv := conv_one wr 5 _ _ (digit_toNat j)
        go_wp2_with fail
        go_roundw
        case rel => exact ⟨j / 10, digB j :: acc, hd1, by go_num, congrArg Value.string (ba_app [_] _), Lib.hid (by rw [← HN.out, HA.out]), he.trans (Ext.alloc _ _)⟩
        case measure => simp only [intOf]; omega
      · obtain rfl : j = 0 := by omega
        have HZ := Lib.hid (decL_zero acc)
        go_wp2_with fail
        go_ret
        refine ⟨retS ?_, he⟩
        have h := HA.out
        rw [HZ.out] at h
        unfold markB
        rw [if_neg H0.out, ← h]
        exact ba_app [109] acc

end Go.Proofs.YtognkaebiafgbaaGreatDoor
