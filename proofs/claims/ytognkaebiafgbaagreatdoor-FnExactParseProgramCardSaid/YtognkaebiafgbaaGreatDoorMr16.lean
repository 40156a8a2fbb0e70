/-
  The program's reader, plain: it reads back the text with operators of every valid term.
-/
import Derived.Test.YtognkaebiafgbaaGreatDoorMr14
namespace Go.Proofs.YtognkaebiafgbaaGreatDoor
open Go.RowKit
set_option linter.unusedVariables false
def opTab : List (List UInt8 × List UInt8) := [([43], [43]), ([45], [45]), ([42], [42]), ([47, 47], [47, 47]), ([61], [61]), ([92, 61], [92, 61]), ([61, 61], [61, 61]), ([60], [60]), ([62], [62]), ([61, 60], [61, 60]), ([62, 61], [62, 61]), ([61, 58, 61], [61, 58, 61]), ([105, 115], [32, 105, 115, 32]), ([109, 111, 100], [32, 109, 111, 100, 32])]
theorem opP_eq (rest : List UInt8) : opP rest = opTab.foldl (fun best s => if (s.2.isPrefixOf rest && decide (best.length < s.1.length)) = true then s.1 else best) [] := by
  simp only [opP, signs, wordOps, List.cons_append, List.nil_append, List.foldl_cons, List.foldl_nil, ByteArray.toList_eq]
  rfl
theorem op_cases {s : List UInt8} (h : 0 < opLevelF s) : s = [61] ∨ s = [92, 61] ∨ s = [61, 61] ∨ s = [60] ∨ s = [62] ∨ s = [61, 60] ∨ s = [62, 61] ∨ s = [61, 58, 61] ∨ s = [105, 115] ∨ s = [43] ∨ s = [45] ∨ s = [42] ∨ s = [47, 47] ∨ s = [109, 111, 100] := by
  unfold opLevelF at h
  split at h
  · rename_i h'
    rcases h' with h | h | h | h | h | h | h | h | h <;> simp [h]
  · split at h
    · rename_i h'
      rcases h' with h | h <;> simp [h]
    · split at h
      · rename_i h'
        rcases h' with h | h | h <;> simp [h]
      · omega
def clB (c : UInt8) : Prop := c = 41 ∨ c = 44 ∨ c = 93 ∨ c = 124 ∨ c = 46 ∨ c = 58
theorem opP_cl {c : UInt8} {r : List UInt8} (h : clB c) : opP (c :: r) = [] := by
  rw [opP_eq]
  rcases h with rfl | rfl | rfl | rfl | rfl | rfl <;> rfl
theorem opP_nil : opP [] = [] := by rw [opP_eq]; rfl
theorem pl_facts {b : UInt8} {r : List UInt8} (h : plB (b :: r) = true) : ¬ (61 = b) ∧ ¬ (60 = b) ∧ ¬ (62 = b) ∧ ¬ (58 = b) ∧ ¬ (47 = b) := by
  have ne : ∀ n : Nat, n < 256 → ¬ (97 ≤ n ∧ n ≤ 122) → ¬ (48 ≤ n ∧ n ≤ 57) → ¬ (65 ≤ n ∧ n ≤ 90) → n ≠ 91 → n ≠ 40 → ¬ (UInt8.ofNat n = b) := fun n h0 h1 h2 h3 h4 h5 => by
    rintro rfl
    simp only [plB, UInt8.toNat_ofNat', Bool.or_eq_true, decide_eq_true_eq, beq_iff_eq] at h
    have e : n % 2 ^ 8 = n := Nat.mod_eq_of_lt (by omega)
    rw [e] at h
    rcases h with (((h | h) | h) | h) | h
    · exact h1 h
    · exact h2 h
    · exact h3 h
    · have := congrArg UInt8.toNat h; rw [UInt8.toNat_ofNat', e] at this; exact h4 this
    · have := congrArg UInt8.toNat h; rw [UInt8.toNat_ofNat', e] at this; exact h5 this
  exact ⟨ne 61 (by omega) (by omega) (by omega) (by omega) (by omega) (by omega), ne 60 (by omega) (by omega) (by omega) (by omega) (by omega) (by omega), ne 62 (by omega) (by omega) (by omega) (by omega) (by omega) (by omega),
    ne 58 (by omega) (by omega) (by omega) (by omega) (by omega) (by omega), ne 47 (by omega) (by omega) (by omega) (by omega) (by omega) (by omega)⟩
theorem opP_op {s : List UInt8} {b : UInt8} {r : List UInt8} (h : 0 < opLevelF s) (hb : plB (b :: r) = true) : opP (spaced s ++ b :: r) = s := by
  obtain ⟨q1, q2, q3, q4, q5⟩ := pl_facts hb
  rw [opP_eq]
  rcases op_cases h with rfl | rfl | rfl | rfl | rfl | rfl | rfl | rfl | rfl | rfl | rfl | rfl | rfl | rfl
  all_goals simp [opTab, spaced, wordF, wordB, q1, q2, q4, q5]
def RestO (rest : List UInt8) : Prop := rest = [] ∨ (∃ c r, rest = c :: r ∧ clB c) ∨ (∃ s b r, rest = spaced s ++ b :: r ∧ 0 < opLevelF s ∧ plB (b :: r) = true)
theorem Fol.restO {rest : List UInt8} (h : Fol rest) : RestO rest := by
  rcases h with h | ⟨c, r, h, hc⟩
  · exact .inl h
  · exact .inr (.inl ⟨c, r, h, by unfold clB; rcases hc with h | h | h | h <;> simp [h]⟩)
theorem Fol.op {rest : List UInt8} (h : Fol rest) : opP rest = [] := by
  rcases h with h | ⟨c, r, h, hc⟩
  · rw [h, opP_nil]
  · rw [h]; exact opP_cl (by unfold clB; rcases hc with h | h | h | h <;> simp [h])
theorem rest_head {rest : List UInt8} (h : RestO rest) : ∀ c r, rest = c :: r → smallB c = false ∧ digitB c = false ∧ c ≠ 40 := by
  intro c r e
  rcases h with h | ⟨c', r', h, hc⟩ | ⟨s, b, r', h, hs, hb⟩
  · rw [h] at e; cases e
  · rw [h] at e; cases e
    rcases hc with rfl | rfl | rfl | rfl | rfl | rfl <;> exact ⟨rfl, rfl, by decide⟩
  · rw [h] at e
    rcases op_cases hs with rfl | rfl | rfl | rfl | rfl | rfl | rfl | rfl | rfl | rfl | rfl | rfl | rfl | rfl <;>
      (simp only [spaced, wordF] at e; simp at e; obtain ⟨rfl, _⟩ := e; exact ⟨rfl, rfl, by decide⟩)
theorem opn_plain {x : Tx} {m : Int} : ∃ b r, opn x m true = b :: r ∧ plB (b :: r) = true := by
  unfold opn
  split
  · exact ⟨40, _, rfl, by simp [plB]⟩
  · rename_i h
    cases e : x.txt with
    | nil => exact absurd (.inr (.inr ⟨rfl, by rw [e]; rfl⟩)) h
    | cons b r =>
      refine ⟨b, r, rfl, ?_⟩
      cases hp : plB (b :: r)
      · exact absurd (.inr (.inr ⟨rfl, by rw [e]; exact hp⟩)) h
      · rfl
theorem loop_stop {F : Nat} {L mine : Int} {deep : Nat} {t : Tm} {rest : List UInt8} (h : opP rest = [] ∨ L < opLevelF (opP rest)) : loopF true (F + 1) L deep mine t rest = some (t, rest) := by
  rw [loopF, if_pos]
  rcases h with h | h
  · exact .inl h
  · exact .inr (.inl h)
def lev (t : Tm) : Int := (txF true t).lev
def sole (t : Tm) : Bool := (txF true t).sole
def MT (t : Tm) : Prop := ∀ (d deep : Nat) (L : Int) (rest : List UInt8) (X : Tm × List UInt8), shapeF t d = true → deep + d ≤ 31 → lev t ≤ L → RestO rest → (sole t = true → Fol rest) → (opP rest = [] ∨ lev t ≤ opLevelF (opP rest)) →
  Par (fun F => loopF true F L deep (lev t) t rest) X → Par (fun F => termF true F L deep (txt true t ++ rest)) X
theorem MT.el {t : Tm} (h : MT t) {d deep : Nat} {rest : List UInt8} (hs : shapeF t d = true) (hd : deep + d ≤ 31) (hf : Fol rest) : Par (fun F => termF true F 3 deep (txt true t ++ rest)) (t, rest) := by
  refine h d deep 3 rest (t, rest) hs hd ?_ hf.restO (fun _ => hf) (.inl hf.op) (Par.now fun F => loop_stop (.inl hf.op))
  unfold lev
  obtain ⟨k, n, s, ks⟩ := t
  show levF k s ks.length ≤ 3
  unfold levF
  split
  · exact (show opLevelF s.toList ≤ 3 by unfold opLevelF; repeat' split <;> omega)
  · omega
theorem prim_br {t : Tm} (h : MT t) {d deep : Nat} {rest : List UInt8} (hs : shapeF t d = true) (hd : deep + d ≤ 31) : Par (fun F => primF true F deep (40 :: (txt true t ++ 41 :: rest))) (t, rest) := by
  have hd1 := shape_pos hs
  refine (h.el hs hd (Fol.of (r := rest) (.inl rfl))).step fun F e => ?_
  rw [primF, if_neg (show ¬ 30 < deep by omega)]
  have q1 : isUp 40 = false := by decide
  have q2 : numStart (40 :: (txt true t ++ 41 :: rest)) = false := by rfl
  simp only [show ¬ (40 : UInt8) = 0 by decide, q1, q2, if_false, Bool.false_eq_true, and_self, if_true]
  simp only [e, if_true]
theorem args_ro (s : ByteArray) (deep d : Nat) (rest : List UInt8) (hd : deep + 1 + d ≤ 31) : ∀ (ks acc : List Tm), ks ≠ [] → (∀ k ∈ ks, MT k) → shapeL ks d = true →
    Par (fun F => argsF true F deep s acc (joinF (ks.map (txt true)) ++ 41 :: rest)) (sT s (acc ++ ks), rest)
  | [], _, h, _, _ => absurd rfl h
  | [k], acc, _, hk, hs => by
    simp only [shapeL, Bool.and_eq_true] at hs
    refine ((hk k (by simp)).el (deep := deep + 1) (rest := 41 :: rest) hs.1 hd (Fol.of (.inl rfl))).step fun F e => ?_
    simp only [List.map_cons, List.map_nil, joinF]
    rw [argsF]
    simp only [if_true, e, show ¬ (41 : UInt8) = 44 by decide, if_false]
  | k :: k' :: ks, acc, _, hk, hs => by
    simp only [shapeL, Bool.and_eq_true] at hs
    have h1 := (hk k (by simp)).el (deep := deep + 1) (rest := 44 :: (joinF ((k' :: ks).map (txt true)) ++ 41 :: rest)) hs.1 hd (Fol.of (.inr (.inl rfl)))
    have h2 := args_ro s deep d rest hd (k' :: ks) (acc ++ [k]) (by simp) (fun x hx => hk x (by simp [hx])) (by simp only [shapeL, Bool.and_eq_true]; exact hs.2)
    refine Par.two h1 h2 fun F e e' => ?_
    simp only [List.map_cons, joinF, List.append_assoc, List.cons_append] at e e' ⊢
    rw [argsF]
    simp only [if_true, e]
    rw [e']
    simp
theorem list_ro (deep : Nat) (rest : List UInt8) : ∀ (m : Nat) (u : Tm), Tm.sz u ≤ m → (∀ v, Tm.sz v ≤ Tm.sz u → MT v) → ∀ (a : Tm) (acc : List Tm) (d : Nat), MT a → shapeF a d = true → shapeF u d = true → deep + 1 + acc.length + d ≤ 31 →
    Par (fun F => listF true F deep acc (txt true a ++ (rst true u ++ 93 :: rest))) (chainT (acc ++ [a]) u, rest)
  | 0, u, hm, _, _, _, _, _, _, _, _ => by have := Tm.sz_pos u; omega
  | m + 1, u, hm, hv, a, acc, d, ha, hsa, hsu, hd => by
    obtain ⟨k, n, s, ks⟩ := u
    cases hp : pairF k s ks.length
    · cases hn : nilF k s ks.length
      · rw [rst_tail hp hn, List.cons_append]
        have h1 := ha.el (deep := deep + 1 + acc.length) (rest := 124 :: (txt true (.mk k n s ks) ++ 93 :: rest)) hsa hd (Fol.of (.inr (.inr (.inr rfl))))
        have h2 := (hv _ (Nat.le_refl _)).el (deep := deep + 1 + acc.length) (rest := 93 :: rest) hsu hd (Fol.of (.inr (.inr (.inl rfl))))
        refine Par.two h1 h2 fun F e e' => ?_
        rw [listF]
        simp only [if_true, e, e', if_false, show ¬ (124 : UInt8) = 44 by decide]
      · rw [rst_nil hp hn, List.nil_append]
        have h1 := ha.el (deep := deep + 1 + acc.length) (rest := 93 :: rest) hsa hd (Fol.of (.inr (.inr (.inl rfl))))
        refine h1.step fun F e => ?_
        rw [listF]
        simp only [if_true, e, if_false, show ¬ (93 : UInt8) = 44 by decide, show ¬ (93 : UInt8) = 124 by decide]
        simp only [nilF, Bool.and_eq_true, beq_iff_eq] at hn
        obtain ⟨⟨rfl, hs⟩, hl⟩ := hn
        have hks : ks = [] := List.eq_nil_of_length_eq_zero (by omega)
        have hn0 : n = 0 := by rcases shape_own hsu with ⟨h, _⟩ | ⟨h, _⟩ | ⟨_, h⟩; cases h; cases h; exact h
        rw [hks, hn0, ba_of hs]
        rfl
    · obtain ⟨rfl, h2l, h46⟩ := pair_two hp
      obtain ⟨x, y, rfl⟩ := len_two h2l
      have hn0 : n = 0 := by rcases shape_own hsu with ⟨h, _⟩ | ⟨h, _⟩ | ⟨_, h⟩; cases h; cases h; exact h
      rw [rst_pair hp, List.cons_append, List.append_assoc]
      have hx := shape_kid hsu (j := 0) (t := x) rfl
      have hy := shape_kid hsu (j := 1) (t := y) rfl
      have hd1 := shape_pos hsu
      have hz : Tm.sz x < Tm.sz (.mk 3 n s [x, y]) ∧ Tm.sz y < Tm.sz (.mk 3 n s [x, y]) := by simp only [Tm.sz, Tm.szL]; omega
      have h1 := ha.el (deep := deep + 1 + acc.length) (rest := 44 :: (txt true x ++ (rst true y ++ 93 :: rest))) hsa hd (Fol.of (.inr (.inl rfl)))
      have h2 := list_ro deep rest m y (by omega) (fun v h => hv v (by omega)) x (acc ++ [a]) (d - 1) (hv x (by omega)) hx hy (by simp; omega)
      refine Par.two h1 h2 fun F e e' => ?_
      rw [listF]
      simp only [if_true, e]
      rw [e', hn0, ba_of h46, chain_snoc]
      rfl
theorem nameP_free {s rest : List UInt8} (hs : s = [46] ∨ s = [91, 93] ∨ s = [33]) : nameP (s ++ rest) = some (s, rest) := by
  unfold nameP
  rw [signN_eq]
  rcases hs with rfl | rfl | rfl <;> rfl
theorem leftM_le {s : List UInt8} : 0 ≤ leftM s ∧ leftM s ≤ opLevelF s := by
  have := opLevel_nn s
  unfold leftM
  split <;> omega
theorem right_ro {b : Tm} (hb : MT b) {d deep : Nat} {n : Int} {rest : List UInt8} (hs : shapeF b d = true) (hd : deep + d ≤ 31) (hr : RestO rest) (hop : opP rest = [] ∨ n ≤ opLevelF (opP rest)) :
    Par (fun F => termF true F (n - 1) deep (opn (txF true b) (n - 1) true ++ rest)) (b, rest) := by
  have hstop : ∀ F mine, loopF true (F + 1) (n - 1) deep mine b rest = some (b, rest) := fun F mine => loop_stop (by rcases hop with h | h; exact .inl h; exact .inr (by omega))
  unfold opn
  split
  · have e1 : 40 :: ((txF true b).txt ++ [41]) ++ rest = 40 :: (txt true b ++ 41 :: rest) := by simp [txt]
    rw [e1]
    have h0 : Par (fun F => loopF true F (n - 1) deep 0 b rest) (b, rest) := Par.now fun F => hstop F 0
    have h1 := prim_br hb (deep := deep) (rest := rest) hs hd
    refine Par.two h1 h0 fun F e e' => ?_
    rw [termF]
    simp only [e, e']
  · rename_i h
    have h1 : lev b ≤ n - 1 := by unfold lev; omega
    have h2 : sole b = false := by
      unfold sole
      cases q : (txF true b).sole
      · rfl
      · exact absurd (.inr (.inl q)) h
    refine hb d deep (n - 1) rest (b, rest) hs hd h1 hr (fun q => by rw [h2] at q; cases q) (by rcases hop with h | h; exact .inl h; exact .inr (by omega)) (Par.now fun F => hstop F _)
theorem mt_all : ∀ (m : Nat) (t : Tm), Tm.sz t ≤ m → MT t
  | 0, t, hm => by have := Tm.sz_pos t; omega
  | m + 1, t, hm => by
    intro d deep L rest X hsh hdd hL hr hsol hop hX
    have hd1 := shape_pos hsh
    have hh := rest_head hr
    obtain ⟨k, n, s, ks⟩ := t
    have IH : ∀ u, Tm.sz u < Tm.sz (.mk k n s ks) → MT u := fun u hu => mt_all m u (by omega)
    have byPrim : lev (.mk k n s ks) = 0 → Par (fun F => primF true F deep (txt true (.mk k n s ks) ++ rest)) (.mk k n s ks, rest) → Par (fun F => termF true F L deep (txt true (.mk k n s ks) ++ rest)) X := by
      intro h0 h1
      rw [h0] at hX
      refine Par.two h1 hX fun F e e' => ?_
      rw [termF]
      simp only [e, e']
    have hnd : ∀ c r, rest = c :: r → digitB c = false := fun c r e => (hh c r e).2.1
    rcases shape_own hsh with ⟨rfl, hs, rfl⟩ | ⟨rfl, hs, rfl⟩ | ⟨rfl, rfl⟩
    · obtain ⟨n0, n1⟩ := shape_var hsh
      refine byPrim (show levF 1 s 0 = 0 from lev_no (by omega)) ?_
      rw [txt_var, ba_of hs]
      exact Par.now fun F => prim_var n0 n1 (by omega)
    · obtain ⟨n0, n1⟩ := shape_int' hsh
      refine byPrim (show levF 2 s 0 = 0 from lev_no (by omega)) ?_
      rw [txt_int, ba_of hs]
      exact Par.now fun F => prim_int n0 n1 (by omega) hnd
    · obtain ⟨hn, _⟩ := shape_name hsh
      have hkids : shapeL ks (d - 1) = true := by simp only [shapeF, Bool.and_eq_true] at hsh; exact hsh.2
      have n40 : s.toList ≠ [40] := by
        intro e
        simp only [nameF, Bool.or_eq_true] at hn
        rcases hn with hw | hs
        · have := (word_small hw).1 40 (by rw [e]; simp)
          simp [smallB] at this
        · rcases sign_cases hs with h | h | h | h | h | h | h | h | h | h | h | h | h | h | h <;> rw [e] at h <;> simp at h
      cases hi : infF 3 s ks.length
      · have hlev : lev (.mk 3 0 s ks) = 0 := by show levF 3 s ks.length = 0; unfold levF; rw [hi]; rfl
        refine byPrim hlev ?_
        have hio : (true && infF 3 s ks.length) = false := by rw [hi]; rfl
        by_cases hl : ks.length = 0
        · have : ks = [] := List.eq_nil_of_length_eq_zero hl
          subst this
          have nameR : nameP (s.toList ++ rest) = some (s.toList, rest) := by
            by_cases ho : 0 < opLevelF s.toList
            · have hf := hsol (by show soleF 3 s 0 = true; simp [soleF, ho])
              simp only [nameF, Bool.or_eq_true] at hn
              rcases hn with hw | hs
              · exact nameP_word hw fun c r e => (hh c r e).1
              · exact nameP_sign (sign_cases hs) hf.name
            · simp only [nameF, Bool.or_eq_true] at hn
              rcases hn with hw | hs
              · exact nameP_word hw fun c r e => (hh c r e).1
              · refine nameP_free ?_
                rcases sign_cases hs with h | h | h | h | h | h | h | h | h | h | h | h | h | h | h <;> rw [h] at ho ⊢ <;> first | (exact absurd (by decide) ho) | simp
          rw [txt_atom]
          refine Par.now fun F => ?_
          show primF true (F + 1) deep (s.toList ++ rest) = _
          rw [prim_name hn (by omega) nameR (fun _ => hnd) (fun _ => n40)]
          cases rest with
          | nil => rfl
          | cons c r =>
            have := (hh c r rfl).2.2
            simp only [afterN, if_neg this]
            rfl
        · have nameR : ∀ rest', FolN rest' → nameP (s.toList ++ rest') = some (s.toList, rest') := fun rest' h => by
            simp only [nameF, Bool.or_eq_true] at hn
            rcases hn with hw | hs
            · refine nameP_word hw fun c r e => ?_
              rcases h with h | ⟨c', r', h, hc⟩
              · rw [h] at e; cases e
              · rw [h] at e; cases e
                rcases hc with rfl | rfl | rfl | rfl | rfl <;> rfl
            · exact nameP_sign (sign_cases hs) h
          cases hp : pairF 3 s ks.length
          · rw [txt_args hio hp hl, List.append_assoc, List.cons_append, List.append_assoc]
            have hne : ks ≠ [] := fun e => hl (by rw [e]; rfl)
            have h1 := args_ro s deep (d - 1) rest (by omega) ks [] hne (fun u hu => by
              obtain ⟨j, hj⟩ := List.getElem?_of_mem hu
              exact IH u (kid_lt hj)) hkids
            refine h1.step fun F e => ?_
            show primF true (F + 1) deep (s.toList ++ 40 :: (joinF (ks.map (txt true)) ++ 41 :: rest)) = _
            rw [prim_name hn (by omega) (nameR _ (.inr ⟨40, _, rfl, .inl rfl⟩)) (fun _ c r e' => by cases e'; rfl) (fun _ => n40)]
            simp only [afterN, if_true]
            rw [e]
            rfl
          · obtain ⟨a, b, rfl⟩ := len_two (pair_two hp).2.1
            rw [txt_pair hio hp, List.cons_append, List.append_assoc, List.append_assoc]
            have ha := shape_kid hsh (j := 0) (t := a) rfl
            have hb := shape_kid hsh (j := 1) (t := b) rfl
            have hz : Tm.sz a < Tm.sz (.mk 3 0 s [a, b]) ∧ Tm.sz b < Tm.sz (.mk 3 0 s [a, b]) := by simp only [Tm.sz, Tm.szL]; omega
            have h1 := list_ro deep rest _ b (Nat.le_refl _) (fun v h => IH v (by omega)) a [] (d - 1) (IH a hz.1) ha hb (by simp; omega)
            refine h1.step fun F e => ?_
            have h93 : (txt true a ++ (rst true b ++ 93 :: rest)).head? ≠ some 93 := by
              have h1 := head_93 true _ a (Nat.le_refl _) _ ha
              have h2 := tx_ne true a _ ha
              cases h : txt true a with
              | nil => exact absurd h h2
              | cons c l => rw [h] at h1; simpa using h1
            show primF true (F + 1) deep (91 :: (txt true a ++ (rst true b ++ 93 :: rest))) = _
            rw [primF, if_neg (show ¬ 30 < deep by omega)]
            have q1 : isUp 91 = false := by decide
            have q2 : numStart (91 :: (txt true a ++ (rst true b ++ 93 :: rest))) = false := by rfl
            simp only [show ¬ (91 : UInt8) = 0 by decide, q1, q2, if_false, Bool.false_eq_true, show ¬ ((91 : UInt8) = 40 ∧ True) by simp, h93, ne_eq, not_false_eq_true, and_self, if_true]
            rw [e]
            obtain rfl : s = dotN := ba_of (pair_two hp).2.2
            rfl
      · obtain ⟨_, h2l, hpos⟩ := inf_two hi
        obtain ⟨a, b, rfl⟩ := len_two h2l
        have hlev : lev (.mk 3 0 s [a, b]) = opLevelF s.toList := by show levF 3 s 2 = _; unfold levF; rw [if_pos (show infF 3 s 2 = true from hi)]
        rw [hlev] at hL hop hX
        have e1 : txt true (.mk 3 0 s [a, b]) = opn (txF true a) (leftM s.toList) false ++ (spaced s.toList ++ opn (txF true b) (opLevelF s.toList - 1) true) := by simp [txt, txF, ownTx, txL, show infF 3 s 2 = true from hi]
        have ha := shape_kid hsh (j := 0) (t := a) rfl
        have hb := shape_kid hsh (j := 1) (t := b) rfl
        have hz : Tm.sz a < Tm.sz (.mk 3 0 s [a, b]) ∧ Tm.sz b < Tm.sz (.mk 3 0 s [a, b]) := by simp only [Tm.sz, Tm.szL]; omega
        have hR := right_ro (IH b hz.2) (deep := deep) (n := opLevelF s.toList) hb (by omega) hr hop
        obtain ⟨c0, r0, hc0, hpl⟩ := opn_plain (x := txF true b) (m := opLevelF s.toList - 1)
        have hpl' : plB (c0 :: (r0 ++ rest)) = true := hpl
        rw [e1, List.append_assoc, List.append_assoc]
        generalize hR2 : opn (txF true b) (opLevelF s.toList - 1) true ++ rest = R2 at hR ⊢
        have hR2' : R2 = c0 :: (r0 ++ rest) := by rw [← hR2, hc0]; rfl
        have hop2 : opP (spaced s.toList ++ R2) = s.toList := by rw [hR2']; exact opP_op hpos hpl'
        have hrest2 : RestO (spaced s.toList ++ R2) := .inr (.inr ⟨s.toList, c0, r0 ++ rest, by rw [hR2'], hpos, hpl'⟩)
        have hsne : s.toList ≠ [] := fun e => by have := (name_len hn).1; rw [e] at this; simp at this
        have lm := leftM_le (s := s.toList)
        have loop1 : ∀ mine, mine ≤ leftM s.toList → Par (fun F => loopF true F L deep mine a (spaced s.toList ++ R2)) X := by
          intro mine hmine
          refine Par.two hR hX fun F e e' => ?_
          rw [loopF, hop2, if_neg (by rintro (h | h | h); exact hsne h; omega; omega), List.drop_left]
          simp only [e]
          rw [bs_of]
          exact e'
        unfold opn
        split
        · have e2 : 40 :: ((txF true a).txt ++ [41]) ++ (spaced s.toList ++ R2) = 40 :: (txt true a ++ 41 :: (spaced s.toList ++ R2)) := by simp [txt]
          rw [e2]
          have h0 := loop1 0 lm.1
          have h1 := prim_br (IH a hz.1) (deep := deep) (rest := spaced s.toList ++ R2) ha (by omega)
          refine Par.two h1 h0 fun F e e' => ?_
          rw [termF]
          simp only [e, e']
        · rename_i h
          have h1 : lev a ≤ leftM s.toList := by unfold lev; omega
          have h2 : sole a = false := by
            unfold sole
            cases q : (txF true a).sole
            · rfl
            · exact absurd (.inr (.inl q)) h
          exact IH a hz.1 (d - 1) deep L _ X ha (by omega) (by omega) hrest2 (fun q => by rw [h2] at q; cases q) (.inr (by rw [hop2]; omega)) (loop1 _ h1)
end Go.Proofs.YtognkaebiafgbaaGreatDoor
