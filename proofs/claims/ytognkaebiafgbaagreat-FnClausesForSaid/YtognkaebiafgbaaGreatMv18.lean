/-
  The reference's parser of terms with operators, plain; it reads back the text of every valid term.
-/
import Derived.Test.YtognkaebiafgbaaGreatMv17
namespace Go.Proofs.YtognkaebiafgbaaGreat
open Go.RowKit
set_option linter.unusedVariables false
def isWordOp (s : List UInt8) : Bool := s == [105, 115] || s == [109, 111, 100]
def opS (rest : List UInt8) : Option (List UInt8 × List UInt8) :=
  let sp := rest.head? = some 32
  let r := if sp then rest.drop 1 else rest
  if r = [] then none else
  match nameP r with
  | none => none
  | some (s, r') =>
    if opLevelF s = 0 then none else
    if isWordOp s = true then (if sp ∧ r'.head? = some 32 then some (s, r'.drop 1) else none)
    else (if sp then none else some (s, r'))
mutual
noncomputable def rdF : Nat → Nat → Nat → List UInt8 → Option (Tm × List UInt8)
  | 0, _, _, _ => none
  | F + 1, e, 0, rest =>
    if e = 0 then none else
    match rest with
    | [] => none
    | b :: r =>
      if b = 40 then
        match rdF F e 3 r with
        | some (t, c :: r') => if c = 41 then some (t, r') else none
        | _ => none
      else if b = 91 ∧ r.head? ≠ some 93 then
        match termsF F (e - 1) 93 124 [] r with
        | some (ks, c :: r') =>
          if c = 93 then some (chainT ks (sT nilN []), r') else
          match rdF F (e - 1) 3 r' with
          | some (tl, d :: r'') => if d = 93 then some (chainT ks tl, r'') else none
          | _ => none
        | _ => none
      else if isUp b = true then some (vT b, r) else
      if numStart (b :: r) = true then numP (b :: r) else
      match nameP (b :: r) with
      | none => none
      | some (s, c :: r') =>
        if c = 40 then
          match termsF F (e - 1) 41 41 [] r' with
          | some (ks, _ :: r'') => some (sT (bs s) ks, r'')
          | _ => none
        else some (sT (bs s) [], c :: r')
      | some (s, []) => some (sT (bs s) [], [])
  | F + 1, e, L + 1, rest =>
    match rdF F e L rest with
    | some (t, r) => loopS F e L t r
    | none => none
/-- the loop of level L + 1 -/
noncomputable def loopS : Nat → Nat → Nat → Tm → List UInt8 → Option (Tm × List UInt8)
  | 0, _, _, _, _ => none
  | F + 1, e, L, t, rest =>
    match opS rest with
    | none => some (t, rest)
    | some (s, r) =>
      if opLevelF s ≠ ((L + 1 : Nat) : Int) then some (t, rest) else
      match rdF F e L r with
      | none => none
      | some (b, r') => if L + 1 = 3 then some (sT (bs s) [t, b], r') else loopS F e L (sT (bs s) [t, b]) r'
noncomputable def termsF : Nat → Nat → UInt8 → UInt8 → List Tm → List UInt8 → Option (List Tm × List UInt8)
  | 0, _, _, _, _, _ => none
  | F + 1, e, x, y, acc, rest =>
    match rdF F e 3 rest with
    | some (t, c :: r) => if c = x ∨ c = y then some (acc ++ [t], c :: r) else if c = 44 then termsF F e x y (acc ++ [t]) r else none
    | _ => none
end
theorem opS_nil : opS [] = none := by simp [opS]
theorem nameP_cl {c : UInt8} {r : List UInt8} (h : c = 41 ∨ c = 44 ∨ c = 93 ∨ c = 124 ∨ c = 58) : nameP (c :: r) = none := by
  unfold nameP
  rw [signN_eq]
  rcases h with rfl | rfl | rfl | rfl | rfl <;> rfl
theorem opS_cl {c : UInt8} {r : List UInt8} (h : clB c) : opS (c :: r) = none := by
  have key : ∀ (c : UInt8), c ≠ 32 → (match nameP (c :: r) with | none => true | some (s, _) => decide (opLevelF s = 0)) = true → opS (c :: r) = none := by
    intro c h32 h
    unfold opS
    have e1 : ¬ (c :: r).head? = some 32 := by simpa using h32
    simp only [e1, if_false, reduceCtorEq]
    revert h
    cases nameP (c :: r) with
    | none => intro _; rfl
    | some p => intro h; simp only [decide_eq_true_eq] at h; simp only [h, if_true]
  rcases h with rfl | rfl | rfl | rfl | rfl | rfl
  case inr.inr.inr.inr.inl =>
    refine key _ (by decide) ?_
    rw [show (46 : UInt8) :: r = [46] ++ r from rfl, nameP_free (by simp)]
    rfl
  all_goals
    refine key _ (by decide) ?_
    rw [nameP_cl (by simp)]
theorem nameP_op {s : List UInt8} {b : UInt8} {r : List UInt8} (h : 0 < opLevelF s) (hw : wordF s = false) (hb : plB (b :: r) = true) : nameP (s ++ b :: r) = some (s, b :: r) := by
  obtain ⟨q1, q2, q3, q4, q5⟩ := pl_facts hb
  unfold nameP
  rw [signN_eq]
  rcases op_cases h with rfl | rfl | rfl | rfl | rfl | rfl | rfl | rfl | rfl | rfl | rfl | rfl | rfl | rfl
  all_goals first
    | (exact absurd hw (by decide))
    | simp [smallB, q1, q2, q4, q5]
theorem opS_op {s : List UInt8} {b : UInt8} {r : List UInt8} (h : 0 < opLevelF s) (hb : plB (b :: r) = true) : opS (spaced s ++ b :: r) = some (s, b :: r) := by
  have hl : ¬ opLevelF s = 0 := by omega
  cases hw : wordF s
  · have e1 : spaced s = s := by unfold spaced; rw [hw]; rfl
    have h32 : ¬ (s ++ b :: r).head? = some 32 := by
      rcases op_cases h with rfl | rfl | rfl | rfl | rfl | rfl | rfl | rfl | rfl | rfl | rfl | rfl | rfl | rfl <;> simp
    have hne : ¬ (s ++ b :: r) = [] := by simp
    have hwo : isWordOp s = false := by
      rcases op_cases h with rfl | rfl | rfl | rfl | rfl | rfl | rfl | rfl | rfl | rfl | rfl | rfl | rfl | rfl <;> first | rfl | (exact absurd hw (by decide))
    rw [e1]
    unfold opS
    simp only [h32, if_false, hne, nameP_op h hw hb, hl, hwo, Bool.false_eq_true]
  · have e1 : spaced s ++ b :: r = 32 :: (s ++ 32 :: b :: r) := by unfold spaced; rw [hw]; simp
    have hwo : isWordOp s = true := by
      rcases op_cases h with rfl | rfl | rfl | rfl | rfl | rfl | rfl | rfl | rfl | rfl | rfl | rfl | rfl | rfl <;> first | rfl | (exact absurd hw (by decide))
    have hn : nameP (s ++ 32 :: b :: r) = some (s, 32 :: b :: r) := nameP_word hw fun c r e => by cases e; rfl
    rw [e1]
    unfold opS
    simp [hn, hl, hwo]
def OpSt (L : Nat) (rest : List UInt8) : Prop := opS rest = none ∨ ∃ s r, opS rest = some (s, r) ∧ (L : Int) < opLevelF s
theorem loopS_stop {F e L : Nat} {t : Tm} {rest : List UInt8} (h : OpSt (L + 1) rest) : loopS (F + 1) e L t rest = some (t, rest) := by
  rw [loopS]
  rcases h with h | ⟨s, r, h, hl⟩
  · rw [h]
  · rw [h]
    simp only
    rw [if_pos]
    omega
theorem OpSt.le {L K : Nat} {rest : List UInt8} (h : OpSt L rest) (hk : K ≤ L) : OpSt K rest := by
  rcases h with h | ⟨s, r, h, hl⟩
  · exact .inl h
  · exact .inr ⟨s, r, h, by omega⟩
def Cont (e : Nat) : Nat → Tm → List UInt8 → Tm × List UInt8 → Prop
  | 0, t, rest, X => X = (t, rest)
  | L + 1, t, rest, X => if lev t = 3 then X = (t, rest) else Par (fun F => loopS F e L t rest) X
theorem Cont.of {e L : Nat} {t : Tm} {rest : List UInt8} (h : OpSt L rest) : Cont e L t rest (t, rest) := by
  cases L with
  | zero => rfl
  | succ L =>
    simp only [Cont]
    split
    · trivial
    · have h0 : ∀ F, loopS (F + 1) e L t rest = some (t, rest) := fun F => loopS_stop h
      exact Par.now h0
theorem Cont.no {e L : Nat} {t : Tm} {rest : List UInt8} {X : Tm × List UInt8} (h : Cont e (L + 1) t rest X) (hl : lev t ≠ 3) : Par (fun F => loopS F e L t rest) X := by
  simp only [Cont] at h
  rw [if_neg hl] at h
  exact h
theorem Cont.yes {e L : Nat} {t : Tm} {rest : List UInt8} {X : Tm × List UInt8} (h : Cont e (L + 1) t rest X) (hl : lev t = 3) : X = (t, rest) := by
  simp only [Cont] at h
  rw [if_pos hl] at h
  exact h
theorem Cont.mk {e L : Nat} {t : Tm} {rest : List UInt8} {X : Tm × List UInt8} (h : Par (fun F => loopS F e L t rest) X) (hl : lev t ≠ 3) : Cont e (L + 1) t rest X := by
  simp only [Cont]
  rw [if_neg hl]
  exact h
theorem lift_rd {e : Nat} {t : Tm} {R rest : List UInt8} : ∀ (L l : Nat), l < L → Par (fun F => rdF F e l R) (t, rest) → OpSt (L - 1) rest → ∀ X, Par (fun F => loopS F e (L - 1) t rest) X → Par (fun F => rdF F e L R) X
  | 0, l, h, _, _, _, _ => by omega
  | L + 1, l, h, h0, ho, X, hX => by
    have h1 : Par (fun F => rdF F e L R) (t, rest) := by
      by_cases hl : l = L
      · rw [← hl]; exact h0
      · have ho' : OpSt (L - 1 + 1) rest := by rw [Nat.sub_add_cancel (by omega)]; exact ho
        exact lift_rd L l (by omega) h0 (ho'.le (by omega)) (t, rest) (Par.now fun F => loopS_stop ho')
    refine Par.two h1 hX fun F e1 e2 => ?_
    rw [rdF]
    simp only [e1]
    exact e2
def MS (t : Tm) : Prop := ∀ (d e L : Nat) (rest : List UInt8) (X : Tm × List UInt8), shapeF t d = true → d ≤ e → L ≤ 3 → lev t ≤ (L : Int) → RestO rest → (sole t = true → Fol rest) → OpSt (L - 1) rest →
  Cont e L t rest X → Par (fun F => rdF F e L (txt true t ++ rest)) X
theorem Fol.opS {rest : List UInt8} (h : Fol rest) : opS rest = none := by
  rcases h with h | ⟨c, r, h, hc⟩
  · rw [h, opS_nil]
  · rw [h]; exact opS_cl (by unfold clB; rcases hc with h | h | h | h <;> simp [h])
theorem lev_3 (t : Tm) : lev t ≤ 3 := by
  unfold lev
  obtain ⟨k, n, s, ks⟩ := t
  show levF k s ks.length ≤ 3
  unfold levF
  split
  · exact (show opLevelF s.toList ≤ 3 by unfold opLevelF; repeat' split <;> omega)
  · omega
theorem MS.cl {t : Tm} (h : MS t) {d e : Nat} {rest : List UInt8} (hs : shapeF t d = true) (hd : d ≤ e) (hr : RestO rest) (hsol : sole t = true → Fol rest) (ho : opS rest = none) : Par (fun F => rdF F e 3 (txt true t ++ rest)) (t, rest) :=
  h d e 3 rest (t, rest) hs hd (Nat.le_refl _) (lev_3 t) hr hsol (.inl ho) (Cont.of (.inl ho))
theorem MS.el {t : Tm} (h : MS t) {d e : Nat} {rest : List UInt8} (hs : shapeF t d = true) (hd : d ≤ e) (hf : Fol rest) : Par (fun F => rdF F e 3 (txt true t ++ rest)) (t, rest) :=
  h.cl hs hd hf.restO (fun _ => hf) hf.opS
theorem rd_br {t : Tm} (h : MS t) {d e : Nat} {rest : List UInt8} (hs : shapeF t d = true) (hd : d ≤ e) : Par (fun F => rdF F e 0 (40 :: (txt true t ++ 41 :: rest))) (t, rest) := by
  have hd1 := shape_pos hs
  refine (h.el (e := e) hs hd (Fol.of (r := rest) (.inl rfl))).step fun F e1 => ?_
  rw [rdF, if_neg (show ¬ e = 0 by omega)]
  simp only [if_true, e1]
theorem terms_rs (x y : UInt8) (d e : Nat) (rest : List UInt8) (hd : d ≤ e) (z : UInt8) (hz : z = x ∨ z = y) (hz' : z = 41 ∨ z = 93 ∨ z = 124) (h44 : x ≠ 44 ∧ y ≠ 44) : ∀ (ks acc : List Tm), ks ≠ [] → (∀ k ∈ ks, MS k) → shapeL ks d = true →
    Par (fun F => termsF F e x y acc (joinF (ks.map (txt true)) ++ z :: rest)) (acc ++ ks, z :: rest)
  | [], _, h, _, _ => absurd rfl h
  | [k], acc, _, hk, hs => by
    simp only [shapeL, Bool.and_eq_true] at hs
    have hf : Fol (z :: rest) := Fol.of (by rcases hz' with h | h | h <;> simp [h])
    refine ((hk k (by simp)).el (e := e) (rest := z :: rest) hs.1 hd hf).step fun F e1 => ?_
    simp only [List.map_cons, List.map_nil, joinF]
    rw [termsF]
    simp only [e1]
    rw [if_pos hz]
  | k :: k' :: ks, acc, _, hk, hs => by
    simp only [shapeL, Bool.and_eq_true] at hs
    have h1 := (hk k (by simp)).el (e := e) (rest := 44 :: (joinF ((k' :: ks).map (txt true)) ++ z :: rest)) hs.1 hd (Fol.of (.inr (.inl rfl)))
    have h2 := terms_rs x y d e rest hd z hz hz' h44 (k' :: ks) (acc ++ [k]) (by simp) (fun x hx => hk x (by simp [hx])) (by simp only [shapeL, Bool.and_eq_true]; exact hs.2)
    refine Par.two h1 h2 fun F e1 e2 => ?_
    simp only [List.map_cons, joinF, List.append_assoc, List.cons_append] at e1 e2 ⊢
    rw [termsF]
    simp only [e1]
    rw [if_neg (by rintro (h | h); exact h44.1 h.symm; exact h44.2 h.symm)]
    simp only [if_true]
    rw [e2]
    simp
theorem listS_rt (e : Nat) (rest : List UInt8) : ∀ (m : Nat) (u : Tm), Tm.sz u ≤ m → (∀ v, Tm.sz v ≤ Tm.sz u → MS v) → ∀ (a : Tm) (acc : List Tm) (d : Nat), MS a → shapeF a d = true → shapeF u d = true → d ≤ e →
    ∃ ks c r', Par (fun F => termsF F e 93 124 acc (txt true a ++ (rst true u ++ 93 :: rest))) (ks, c :: r') ∧
      ((c = 93 ∧ r' = rest ∧ chainT ks (sT nilN []) = chainT (acc ++ [a]) u) ∨ (c = 124 ∧ ∃ tl, Par (fun F => rdF F e 3 r') (tl, 93 :: rest) ∧ chainT ks tl = chainT (acc ++ [a]) u))
  | 0, u, hm, _, _, _, _, _, _, _, _ => by have := Tm.sz_pos u; omega
  | m + 1, u, hm, hv, a, acc, d, ha, hsa, hsu, hd => by
    obtain ⟨k, n, s, ks⟩ := u
    cases hp : pairF k s ks.length
    · cases hn : nilF k s ks.length
      · rw [rst_tail hp hn, List.cons_append]
        have h1 := ha.el (e := e) (rest := 124 :: (txt true (.mk k n s ks) ++ 93 :: rest)) hsa hd (Fol.of (.inr (.inr (.inr rfl))))
        have h2 := (hv _ (Nat.le_refl _)).el (e := e) (rest := 93 :: rest) hsu hd (Fol.of (.inr (.inr (.inl rfl))))
        refine ⟨acc ++ [a], 124, _, h1.step fun F e1 => ?_, .inr ⟨rfl, .mk k n s ks, h2, rfl⟩⟩
        rw [termsF]
        simp [e1]
      · rw [rst_nil hp hn, List.nil_append]
        have h1 := ha.el (e := e) (rest := 93 :: rest) hsa hd (Fol.of (.inr (.inr (.inl rfl))))
        refine ⟨acc ++ [a], 93, rest, h1.step fun F e1 => ?_, .inl ⟨rfl, rfl, ?_⟩⟩
        · rw [termsF]
          simp [e1]
        · simp only [nilF, Bool.and_eq_true, beq_iff_eq] at hn
          obtain ⟨⟨rfl, hs⟩, hl⟩ := hn
          have hks : ks = [] := List.eq_nil_of_length_eq_zero (by omega)
          have hn0 : n = 0 := by rcases shape_own hsu with ⟨h, _⟩ | ⟨h, _⟩ | ⟨_, h⟩; cases h; cases h; exact h
          rw [hks, hn0, ba_of hs]
          rfl
    · obtain ⟨rfl, h2l, h46⟩ := pair_two hp
      obtain ⟨x, y, rfl⟩ := len_two h2l
      have hn0 : n = 0 := by rcases shape_own hsu with ⟨h, _⟩ | ⟨h, _⟩ | ⟨_, h⟩; cases h; cases h; exact h
      rw [rst_pair hp, List.cons_append, List.append_assoc]
      have hx := shape_kid hsu (j := 0) (t := x) rfl
      have hy := shape_kid hsu (j := 1) (t := y) rfl
      have hd1 := shape_pos hsu
      have hz : Tm.sz x < Tm.sz (.mk 3 n s [x, y]) ∧ Tm.sz y < Tm.sz (.mk 3 n s [x, y]) := by simp only [Tm.sz, Tm.szL]; omega
      have h1 := ha.el (e := e) (rest := 44 :: (txt true x ++ (rst true y ++ 93 :: rest))) hsa hd (Fol.of (.inr (.inl rfl)))
      obtain ⟨ks, c, r', h2, h3⟩ := listS_rt e rest m y (by omega) (fun v h => hv v (by omega)) x (acc ++ [a]) (d - 1) (hv x (by omega)) hx hy (by omega)
      have ch : chainT (acc ++ [a] ++ [x]) y = chainT (acc ++ [a]) (.mk 3 n s [x, y]) := by rw [hn0, ba_of h46, chain_snoc]; rfl
      rw [ch] at h3
      refine ⟨ks, c, r', Par.two h1 h2 fun F e1 e2 => ?_, h3⟩
      rw [termsF]
      simp only [e1]
      rw [if_neg (by decide)]
      simp only [if_true]
      exact e2
theorem rightS_ro {b : Tm} (hb : MS b) {d e n : Nat} {rest : List UInt8} (hs : shapeF b d = true) (hd : d ≤ e) (hn : n ≤ 2) (hr : RestO rest) (hop : OpSt n rest) :
    Par (fun F => rdF F e n (opn (txF true b) (n : Int) true ++ rest)) (b, rest) := by
  unfold opn
  split
  · have e1 : 40 :: ((txF true b).txt ++ [41]) ++ rest = 40 :: (txt true b ++ 41 :: rest) := by simp [txt]
    rw [e1]
    have h0 := rd_br hb (e := e) (rest := rest) hs hd
    by_cases h : n = 0
    · rw [h]; exact h0
    · exact lift_rd n 0 (by omega) h0 (hop.le (by omega)) _ (Par.now fun F => loopS_stop (by rw [Nat.sub_add_cancel (by omega)]; exact hop))
  · rename_i h
    have h1 : lev b ≤ (n : Int) := by unfold lev; omega
    have h2 : sole b = false := by
      unfold sole
      cases q : (txF true b).sole
      · rfl
      · exact absurd (.inr (.inl q)) h
    exact hb d e n rest (b, rest) hs hd (by omega) h1 hr (fun q => by rw [h2] at q; cases q) (hop.le (by omega)) (Cont.of hop)
noncomputable def afterS (F e : Nat) (s : ByteArray) : List UInt8 → Option (Tm × List UInt8)
  | c :: r => if c = 40 then (match termsF F e 41 41 [] r with | some (ks, _ :: r'') => some (sT s ks, r'') | _ => none) else some (sT s [], c :: r)
  | [] => some (sT s [], [])
theorem rd_name {F e : Nat} {s : ByteArray} {rest : List UInt8} (hn : nameF s = true) (hr : nameP (s.toList ++ rest) = some (s.toList, rest))
    (h45 : s.toList = [45] → ∀ c r, rest = c :: r → digitB c = false) : rdF (F + 1) (e + 1) 0 (s.toList ++ rest) = afterS F e s rest := by
  have hlen := (name_len hn).1
  obtain ⟨b, l, hb⟩ : ∃ b l, s.toList = b :: l := by
    cases h : s.toList with
    | nil => rw [h] at hlen; simp at hlen
    | cons b l => exact ⟨b, l, rfl⟩
  have key : b ≠ 40 ∧ isUp b = false ∧ numStart (b :: (l ++ rest)) = false ∧ ¬ (b = 91 ∧ (l ++ rest).head? ≠ some 93) := by
    simp only [nameF, Bool.or_eq_true] at hn
    rcases hn with hw | hs
    · have := (word_small hw).1 b (by rw [hb]; simp)
      obtain ⟨q1, q2, q3, q4, q5, q6⟩ := small_facts this
      refine ⟨q5, q2, ?_, fun h => q6 h.1⟩
      simp only [numStart, q3, Bool.false_or]
      have : (b == 45) = false := by simpa using q4
      rw [this]; rfl
    · have hc := sign_cases hs
      rw [hb] at hc h45
      rcases hc with hc | hc | hc | hc | hc | hc | hc | hc | hc | hc | hc | hc | hc | hc | hc <;> obtain ⟨rfl, rfl⟩ := List.cons.inj hc
      case inr.inr.inl =>
        refine ⟨by decide, by decide, ?_, by simp⟩
        cases rest with
        | nil => rfl
        | cons c r =>
          have := h45 rfl c r rfl
          show (digitB 45 || ((45 : UInt8) == 45 && digitB c)) = false
          rw [this]; rfl
      all_goals
        refine ⟨by decide, by decide, ?_, by simp⟩
        first
        | rfl
        | (show (digitB _ || (_ == 45 && _)) = false; simp [digitB])
  obtain ⟨q1, q2, q3, q5⟩ := key
  have hr' : nameP (b :: (l ++ rest)) = some (s.toList, rest) := by rw [← List.cons_append, ← hb]; exact hr
  rw [hb, List.cons_append, rdF, if_neg (by omega)]
  simp only [q1, q2, q3, q5, if_false, Bool.false_eq_true, hr', Nat.add_sub_cancel]
  cases rest with
  | nil => simp only [bs_of, afterS]
  | cons c r => simp only [bs_of, afterS]
theorem int_start (n : Int) : ∃ b l, Lib.itoa n = b :: l ∧ b ≠ 0 ∧ isUp b = false ∧ ∀ rest, numStart (b :: (l ++ rest)) = true := by
  have dg : ∀ b : UInt8, digitB b = true → b ≠ 0 ∧ isUp b = false := by
    intro b h
    simp only [digitB, decide_eq_true_eq] at h
    refine ⟨fun e => by rw [e] at h; simp at h, ?_⟩
    simp only [isUp, decide_eq_false_iff_not]; omega
  unfold Lib.itoa
  split
  · cases h : Lib.decDigits n.natAbs with
    | nil => exact absurd h (dec_ne _)
    | cons c l =>
      have hc := dec_digits _ _ (Nat.le_refl n.natAbs) c (by rw [h]; simp)
      refine ⟨45, c :: l, rfl, by decide, by decide, fun rest => ?_⟩
      show (digitB 45 || ((45 : UInt8) == 45 && digitB c)) = true
      rw [hc]; rfl
  · cases h : Lib.decDigits n.toNat with
    | nil => exact absurd h (dec_ne _)
    | cons c l =>
      have hc := dec_digits _ _ (Nat.le_refl n.toNat) c (by rw [h]; simp)
      exact ⟨c, l, rfl, (dg c hc).1, (dg c hc).2, fun rest => by simp only [numStart, hc, Bool.true_or]⟩
theorem ms_all : ∀ (m : Nat) (t : Tm), Tm.sz t ≤ m → MS t
  | 0, t, hm => by have := Tm.sz_pos t; omega
  | m + 1, t, hm => by
    intro d e L rest X hsh hde hL3 hL hr hsol hop hX
    have hd1 := shape_pos hsh
    have hh := rest_head hr
    obtain ⟨k, n, s, ks⟩ := t
    have IH : ∀ u, Tm.sz u < Tm.sz (.mk k n s ks) → MS u := fun u hu => ms_all m u (by omega)
    have byPrim : lev (.mk k n s ks) = 0 → Par (fun F => rdF F e 0 (txt true (.mk k n s ks) ++ rest)) (.mk k n s ks, rest) → Par (fun F => rdF F e L (txt true (.mk k n s ks) ++ rest)) X := by
      intro h0 h1
      cases L with
      | zero =>
        have hX : X = (.mk k n s ks, rest) := hX
        rw [hX]
        exact h1
      | succ L =>
        exact lift_rd (L + 1) 0 (by omega) h1 hop X (hX.no (by rw [h0]; decide))
    have hnd : ∀ c r, rest = c :: r → digitB c = false := fun c r e => (hh c r e).2.1
    have e0 : ¬ e = 0 := by omega
    have viaP : ∀ (R : List UInt8) (b : UInt8) (r : List UInt8), R = b :: r → ∀ (x : Tm) (y : List UInt8), primF true 1 1 R = some (x, y) → (isUp b = true ∨ (isUp b = false ∧ numStart (b :: r) = true)) → b ≠ 0 → Par (fun F => rdF F e 0 R) (x, y) := by
      rintro R b r rfl x y h hb h0
      refine Par.now fun F => ?_
      have hn40 : ¬ b = 40 := by
        rintro rfl
        rcases hb with h | ⟨_, h⟩
        · exact absurd h (by decide)
        · rw [show numStart (40 :: r) = false from rfl] at h; cases h
      have hn91 : ¬ b = 91 := by
        rintro rfl
        rcases hb with h | ⟨_, h⟩
        · exact absurd h (by decide)
        · rw [show numStart (91 :: r) = false from rfl] at h; cases h
      rw [primF, if_neg (by omega)] at h
      rw [rdF, if_neg e0]
      rcases hb with hb | ⟨hb, hb'⟩
      · simp only [h0, hb, if_false, if_true] at h
        simp only [hn40, hn91, false_and, hb, if_false, if_true]
        exact h
      · simp only [h0, hb, hb', if_false, if_true, Bool.false_eq_true] at h
        simp only [hn40, hn91, false_and, hb, hb', if_false, if_true, Bool.false_eq_true]
        exact h
    rcases shape_own hsh with ⟨rfl, hs, rfl⟩ | ⟨rfl, hs, rfl⟩ | ⟨rfl, rfl⟩
    · obtain ⟨n0, n1⟩ := shape_var hsh
      refine byPrim (show levF 1 s 0 = 0 from lev_no (by omega)) ?_
      rw [txt_var, ba_of hs]
      have hu := up_let n0 n1
      refine viaP _ (letB n) rest rfl _ _ (prim_var n0 n1 (by omega)) (.inl ?_) ?_
      · simp only [isUp, decide_eq_true_eq]; omega
      · intro e; rw [e] at hu; simp at hu; omega
    · obtain ⟨n0, n1⟩ := shape_int' hsh
      refine byPrim (show levF 2 s 0 = 0 from lev_no (by omega)) ?_
      rw [txt_int, ba_of hs]
      obtain ⟨b, l, hb, h0, h1, h2⟩ := int_start n
      refine viaP _ b (l ++ rest) (by rw [hb]; rfl) _ _ (prim_int n0 n1 (by omega) hnd) (.inr ⟨h1, h2 rest⟩) h0
    · obtain ⟨hn, _⟩ := shape_name hsh
      have hkids : shapeL ks (d - 1) = true := by simp only [shapeF, Bool.and_eq_true] at hsh; exact hsh.2
      obtain ⟨e, rfl⟩ : ∃ x, e = x + 1 := ⟨e - 1, by omega⟩
      cases hi : infF 3 s ks.length
      · have hlev : lev (.mk 3 0 s ks) = 0 := by show levF 3 s ks.length = 0; unfold levF; rw [hi]; rfl
        refine byPrim hlev ?_
        have hio : (true && infF 3 s ks.length) = false := by rw [hi]; rfl
        by_cases hl : ks.length = 0
        · have : ks = [] := List.eq_nil_of_length_eq_zero hl
          subst this
          have nameR : nameP (s.toList ++ rest) = some (s.toList, rest) := by
            by_cases ho : 0 < opLevelF s.toList
            · have hf := hsol (by show soleF 3 s 0 = true; simp [soleF, ho])
              simp only [nameF, Bool.or_eq_true] at hn
              rcases hn with hw | hs
              · exact nameP_word hw fun c r e => (hh c r e).1
              · exact nameP_sign (sign_cases hs) hf.name
            · simp only [nameF, Bool.or_eq_true] at hn
              rcases hn with hw | hs
              · exact nameP_word hw fun c r e => (hh c r e).1
              · refine nameP_free ?_
                rcases sign_cases hs with h | h | h | h | h | h | h | h | h | h | h | h | h | h | h <;> rw [h] at ho ⊢ <;> first | (exact absurd (by decide) ho) | simp
          rw [txt_atom]
          refine Par.now fun F => ?_
          show rdF (F + 1) (e + 1) 0 (s.toList ++ rest) = _
          rw [rd_name hn nameR (fun _ => hnd)]
          cases rest with
          | nil => rfl
          | cons c r =>
            have := (hh c r rfl).2.2
            simp only [afterS, if_neg this]
            rfl
        · have nameR : ∀ rest', FolN rest' → nameP (s.toList ++ rest') = some (s.toList, rest') := fun rest' h => by
            simp only [nameF, Bool.or_eq_true] at hn
            rcases hn with hw | hs
            · refine nameP_word hw fun c r e => ?_
              rcases h with h | ⟨c', r', h, hc⟩
              · rw [h] at e; cases e
              · rw [h] at e; cases e
                rcases hc with rfl | rfl | rfl | rfl | rfl <;> rfl
            · exact nameP_sign (sign_cases hs) h
          cases hp : pairF 3 s ks.length
          · rw [txt_args hio hp hl, List.append_assoc, List.cons_append, List.append_assoc]
            have hne : ks ≠ [] := fun e => hl (by rw [e]; rfl)
            have h1 := terms_rs 41 41 (d - 1) e rest (by omega) 41 (.inl rfl) (.inl rfl) ⟨by decide, by decide⟩ ks [] hne (fun u hu => by
              obtain ⟨j, hj⟩ := List.getElem?_of_mem hu
              exact IH u (kid_lt hj)) hkids
            refine h1.step fun F e1 => ?_
            show rdF (F + 1) (e + 1) 0 (s.toList ++ 40 :: (joinF (ks.map (txt true)) ++ 41 :: rest)) = _
            rw [rd_name hn (nameR _ (.inr ⟨40, _, rfl, .inl rfl⟩)) (fun _ c r e' => by cases e'; rfl)]
            simp only [afterS, if_true, e1]
            rfl
          · obtain ⟨a, b, rfl⟩ := len_two (pair_two hp).2.1
            rw [txt_pair hio hp, List.cons_append, List.append_assoc, List.append_assoc]
            have ha := shape_kid hsh (j := 0) (t := a) rfl
            have hb := shape_kid hsh (j := 1) (t := b) rfl
            have hz : Tm.sz a < Tm.sz (.mk 3 0 s [a, b]) ∧ Tm.sz b < Tm.sz (.mk 3 0 s [a, b]) := by simp only [Tm.sz, Tm.szL]; omega
            obtain ⟨kk, c, r', h1, h2⟩ := listS_rt e rest _ b (Nat.le_refl _) (fun v h => IH v (by omega)) a [] (d - 1) (IH a hz.1) ha hb (by omega)
            have h93 : (txt true a ++ (rst true b ++ 93 :: rest)).head? ≠ some 93 := by
              have h1 := head_93 true _ a (Nat.le_refl _) _ ha
              have h2 := tx_ne true a _ ha
              cases h : txt true a with
              | nil => exact absurd h h2
              | cons c l => rw [h] at h1; simpa using h1
            obtain rfl : s = dotN := ba_of (pair_two hp).2.2
            rcases h2 with ⟨rfl, rfl, hch⟩ | ⟨rfl, tl, h2, hch⟩
            · refine h1.step fun F e1 => ?_
              show rdF (F + 1) (e + 1) 0 (91 :: (txt true a ++ (rst true b ++ 93 :: r'))) = _
              rw [rdF, if_neg (by omega)]
              simp only [show ¬ (91 : UInt8) = 40 by decide, h93, ne_eq, not_false_eq_true, and_self, if_true, if_false, Nat.add_sub_cancel, e1]
              rw [hch]
              rfl
            · refine Par.two h1 h2 fun F e1 e2 => ?_
              show rdF (F + 1) (e + 1) 0 (91 :: (txt true a ++ (rst true b ++ 93 :: rest))) = _
              rw [rdF, if_neg (by omega)]
              simp only [show ¬ (91 : UInt8) = 40 by decide, h93, ne_eq, not_false_eq_true, and_self, if_true, if_false, Nat.add_sub_cancel, e1, show ¬ (124 : UInt8) = 93 by decide, e2]
              rw [hch]
              rfl
      · obtain ⟨_, h2l, hpos⟩ := inf_two hi
        obtain ⟨a, b, rfl⟩ := len_two h2l
        have hlev : lev (.mk 3 0 s [a, b]) = opLevelF s.toList := by show levF 3 s 2 = _; unfold levF; rw [if_pos (show infF 3 s 2 = true from hi)]
        have hle := lev_3 (.mk 3 0 s [a, b])
        obtain ⟨N, hN⟩ : ∃ N : Nat, opLevelF s.toList = ((N + 1 : Nat) : Int) := ⟨(opLevelF s.toList - 1).toNat, by omega⟩
        rw [hlev] at hL hle
        rw [hN] at hL hle hpos
        have e1 : txt true (.mk 3 0 s [a, b]) = opn (txF true a) (leftM s.toList) false ++ (spaced s.toList ++ opn (txF true b) (opLevelF s.toList - 1) true) := by simp [txt, txF, ownTx, txL, show infF 3 s 2 = true from hi]
        have ha := shape_kid hsh (j := 0) (t := a) rfl
        have hb := shape_kid hsh (j := 1) (t := b) rfl
        have hz : Tm.sz a < Tm.sz (.mk 3 0 s [a, b]) ∧ Tm.sz b < Tm.sz (.mk 3 0 s [a, b]) := by simp only [Tm.sz, Tm.szL]; omega
        have hopN : OpSt N rest := hop.le (by omega)
        have hR := rightS_ro (IH b hz.2) (e := e + 1) (n := N) hb (by omega) (by omega) hr hopN
        obtain ⟨c0, r0, hc0, hpl⟩ := opn_plain (x := txF true b) (m := opLevelF s.toList - 1)
        have hpl' : plB (c0 :: (r0 ++ rest)) = true := hpl
        have hNN : opLevelF s.toList - 1 = (N : Int) := by omega
        rw [e1, List.append_assoc, List.append_assoc]
        rw [hNN] at hc0 ⊢
        generalize hR2 : opn (txF true b) (N : Int) true ++ rest = R2 at hR ⊢
        have hR2' : R2 = c0 :: (r0 ++ rest) := by rw [← hR2, hc0]; rfl
        have hop2 : opS (spaced s.toList ++ R2) = some (s.toList, R2) := by rw [hR2']; exact opS_op (by omega) hpl'
        have hrest2 : RestO (spaced s.toList ++ R2) := .inr (.inr ⟨s.toList, c0, r0 ++ rest, by rw [hR2'], by omega, hpl'⟩)
        have ost2 : OpSt N (spaced s.toList ++ R2) := .inr ⟨_, _, hop2, by omega⟩
        have lm := leftM_le (s := s.toList)
        have lm3 : ∀ t : Tm, lev t ≤ leftM s.toList → lev t ≠ 3 := by
          intro t h
          unfold leftM at h
          split at h
          · omega
          · rename_i h3; omega
        -- what is read at the operator's own level
        have core : ∀ Y, (N + 1 = 3 → Y = (.mk 3 0 s [a, b], rest)) → (N + 1 ≠ 3 → Par (fun F => loopS F (e + 1) N (.mk 3 0 s [a, b]) rest) Y) → Par (fun F => rdF F (e + 1) (N + 1) (opn (txF true a) (leftM s.toList) false ++ (spaced s.toList ++ R2))) Y := by
          intro Y h3 hn3
          have loopN : Par (fun F => loopS F (e + 1) N a (spaced s.toList ++ R2)) Y := by
            by_cases h : N + 1 = 3
            · refine hR.step fun F q => ?_
              rw [loopS, hop2]
              simp only [hN, ne_eq, not_true_eq_false, if_false, q, if_pos h]
              rw [h3 h, bs_of]
              rfl
            · refine Par.two hR (hn3 h) fun F q q' => ?_
              rw [loopS, hop2]
              simp only [hN, ne_eq, not_true_eq_false, if_false, q, if_neg h]
              rw [bs_of]
              exact q'
          unfold opn
          split
          · have e2 : 40 :: ((txF true a).txt ++ [41]) ++ (spaced s.toList ++ R2) = 40 :: (txt true a ++ 41 :: (spaced s.toList ++ R2)) := by simp [txt]
            rw [e2]
            exact lift_rd (N + 1) 0 (by omega) (rd_br (IH a hz.1) (e := e + 1) ha (by omega)) ost2 Y loopN
          · rename_i h
            have h1 : lev a ≤ leftM s.toList := by unfold lev; omega
            have h2 : sole a = false := by
              unfold sole
              cases q : (txF true a).sole
              · rfl
              · exact absurd (.inr (.inl q)) h
            refine IH a hz.1 (d - 1) (e + 1) (N + 1) _ Y ha (by omega) (by omega) (by omega) hrest2 (fun q => by rw [h2] at q; cases q) ost2 ?_
            exact Cont.mk loopN (lm3 a h1)
        by_cases hLN : L = N + 1
        · subst hLN
          refine core X (fun h3 => ?_) (fun h3 => ?_)
          · exact hX.yes (by rw [hlev, hN, h3]; rfl)
          · exact hX.no (by rw [hlev, hN]; omega)
        · obtain ⟨L, rfl⟩ : ∃ x, L = x + 1 := ⟨L - 1, by omega⟩
          have hopN1 : OpSt (N + 1) rest := hop.le (by omega)
          have c1 := core (.mk 3 0 s [a, b], rest) (fun _ => rfl) (fun _ => Par.now fun F => loopS_stop hopN1)
          exact lift_rd (L + 1) (N + 1) (by omega) c1 hop X (hX.no (by rw [hlev, hN]; omega))
end Go.Proofs.YtognkaebiafgbaaGreat
