/-
  The program's reader, plain: what it reads of a text, as functions on what is left of the text (with fuel; none: it fails).
-/
import Derived.Lib.AtoiAllCases
import Derived.Test.YtognkaebiafgbaaGreatDoorMp18
import Derived.Test.YtognkaebiafgbaaGreatDoorMp11
namespace Go.Proofs.YtognkaebiafgbaaGreatDoor
open Go.RowKit
set_option linter.unusedVariables false

def eN : ByteArray := ⟨#[]⟩
def isUp (b : UInt8) : Bool := decide (65 ≤ b.toNat ∧ b.toNat ≤ 90)
def vT (b : UInt8) : Tm := .mk 1 ((b.toNat : Int) - 65) eN []
def nT (n : Int) : Tm := .mk 2 n eN []
def sT (s : ByteArray) (ks : List Tm) : Tm := .mk 3 0 s ks
def dotN : ByteArray := ⟨#[46]⟩
def nilN : ByteArray := ⟨#[91, 93]⟩
def chainT : List Tm → Tm → Tm
  | [], tl => tl
  | x :: xs, tl => sT dotN [x, chainT xs tl]
/-- whether a number stands there -/
def numStart : List UInt8 → Bool
  | [] => false
  | b :: r => digitB b || (b == 45 && (match r with | [] => false | c :: _ => digitB c))
open Classical in
/-- the number with a numeral -/
noncomputable def numO (ds : List UInt8) : Option Int := if h : ∃ n : Int, (-999 ≤ n ∧ n ≤ 999) ∧ Lib.itoa n = ds then some h.choose else none
noncomputable def numP : List UInt8 → Option (Tm × List UInt8)
  | [] => none
  | b :: r => match numO (b :: r.takeWhile digitB) with
    | some n => some (nT n, r.dropWhile digitB)
    | none => none
/-- how long the longest sign is that stands there -/
def signN (rest : List UInt8) : Nat := signs.foldl (fun n s => if s.toList.isPrefixOf rest = true then max n s.size else n) 0
def nameP (rest : List UInt8) : Option (List UInt8 × List UInt8) :=
  if 6 < (rest.takeWhile smallB).length then none else
  if 0 < (rest.takeWhile smallB).length then some (rest.takeWhile smallB, rest.dropWhile smallB) else
  if signN rest = 0 then none else some (rest.take (signN rest), rest.drop (signN rest))
def wordOps : List ByteArray := [⟨#[105, 115]⟩, ⟨#[109, 111, 100]⟩]
/-- the longest operator that stands there -/
def opP (rest : List UInt8) : List UInt8 :=
  (signs ++ wordOps).foldl (fun best s => if (decide (0 < opLevelF s.toList) && (spaced s.toList).isPrefixOf rest && decide (best.length < s.toList.length)) = true then s.toList else best) []

mutual
noncomputable def primF (o : Bool) : Nat → Nat → List UInt8 → Option (Tm × List UInt8)
  | 0, _, _ => none
  | F + 1, deep, rest =>
    if 30 < deep then none else
    match rest with
    | [] => none
    | b :: r =>
      if b = 0 then none else
      if isUp b = true then some (vT b, r) else
      if numStart (b :: r) = true then numP (b :: r) else
      if b = 40 ∧ o = true then
        match termF o F 3 deep r with
        | some (t, c :: r') => if c = 41 then some (t, r') else none
        | _ => none
      else if b = 91 ∧ r.head? ≠ some 93 then listF o F deep [] r else
      match nameP (b :: r) with
      | none => none
      | some (s, c :: r') => if c = 40 then argsF o F deep (bs s) [] r' else some (sT (bs s) [], c :: r')
      | some (s, []) => some (sT (bs s) [], [])
noncomputable def argsF (o : Bool) : Nat → Nat → ByteArray → List Tm → List UInt8 → Option (Tm × List UInt8)
  | 0, _, _, _, _ => none
  | F + 1, deep, s, acc, rest =>
    match (if o = true then termF o F 3 (deep + 1) rest else primF o F (deep + 1) rest) with
    | some (k, c :: r) => if c = 44 then argsF o F deep s (acc ++ [k]) r else if c = 41 then some (sT s (acc ++ [k]), r) else none
    | _ => none
noncomputable def listF (o : Bool) : Nat → Nat → List Tm → List UInt8 → Option (Tm × List UInt8)
  | 0, _, _, _ => none
  | F + 1, deep, acc, rest =>
    match (if o = true then termF o F 3 (deep + 1 + acc.length) rest else primF o F (deep + 1 + acc.length) rest) with
    | some (k, c :: r) =>
      if c = 44 then listF o F deep (acc ++ [k]) r else
      if c = 124 then
        match (if o = true then termF o F 3 (deep + 1 + acc.length) r else primF o F (deep + 1 + acc.length) r) with
        | some (tl, d :: r') => if d = 93 then some (chainT (acc ++ [k]) tl, r') else none
        | _ => none
      else if c = 93 then some (chainT (acc ++ [k]) (sT nilN []), r) else none
    | _ => none
noncomputable def termF (o : Bool) : Nat → Int → Nat → List UInt8 → Option (Tm × List UInt8)
  | 0, _, _, _ => none
  | F + 1, level, deep, rest =>
    match primF o F deep rest with
    | some (t, r) => loopF o F level deep 0 t r
    | none => none
noncomputable def loopF (o : Bool) : Nat → Int → Nat → Int → Tm → List UInt8 → Option (Tm × List UInt8)
  | 0, _, _, _, _, _ => none
  | F + 1, level, deep, mine, t, rest =>
    if opP rest = [] ∨ level < opLevelF (opP rest) ∨ leftM (opP rest) < mine then some (t, rest) else
    match termF o F (opLevelF (opP rest) - 1) deep (rest.drop (spaced (opP rest)).length) with
    | some (r, rest') => loopF o F level deep (opLevelF (opP rest)) (sT (bs (opP rest)) [t, r]) rest'
    | none => none
end

/-- with enough fuel the function answers x -/
def Par {α : Type} (f : Nat → Option α) (x : α) : Prop := ∃ F0, ∀ F, F0 ≤ F → f F = some x
theorem Par.step {α β : Type} {f : Nat → Option α} {g : Nat → Option β} {x : α} {y : β} (h : Par f x) (e : ∀ F, f F = some x → g (F + 1) = some y) : Par g y := by
  obtain ⟨F0, h⟩ := h
  refine ⟨F0 + 1, fun F hF => ?_⟩
  obtain ⟨F, rfl⟩ : ∃ G, F = G + 1 := ⟨F - 1, by omega⟩
  exact e F (h F (by omega))
theorem Par.now {α : Type} {g : Nat → Option α} {x : α} (e : ∀ F, g (F + 1) = some x) : Par g x := ⟨1, fun F hF => by
  obtain ⟨F, rfl⟩ : ∃ G, F = G + 1 := ⟨F - 1, by omega⟩
  exact e F⟩
theorem Par.two {α β γ : Type} {f : Nat → Option α} {h : Nat → Option β} {g : Nat → Option γ} {x : α} {y : β} {z : γ} (hf : Par f x) (hh : Par h y) (e : ∀ F, f F = some x → h F = some y → g (F + 1) = some z) : Par g z := by
  obtain ⟨F0, hf⟩ := hf
  obtain ⟨F1, hh⟩ := hh
  refine ⟨F0 + F1 + 1, fun F hF => ?_⟩
  obtain ⟨F, rfl⟩ : ∃ G, F = G + 1 := ⟨F - 1, by omega⟩
  exact e F (hf F (by omega)) (hh F (by omega))

/-! ### numerals -/
def valD (l : List UInt8) : Nat := l.foldl (fun n c => n * 10 + (c.toNat - 48)) 0
theorem valD_snoc (l : List UInt8) (c : UInt8) : valD (l ++ [c]) = valD l * 10 + (c.toNat - 48) := by simp [valD, List.foldl_append]
theorem dig_nat {u : Nat} (h : u < 10) : (UInt8.ofNat (48 + u)).toNat = 48 + u := by rw [UInt8.toNat_ofNat']; omega
theorem val_dec : ∀ (m u : Nat), u ≤ m → valD (Lib.decDigits u) = u
  | m, u, hm => by
    by_cases h : u < 10
    · rw [Lib.decDigits_one h]
      simp only [valD, List.foldl_cons, List.foldl_nil]
      rw [dig_nat h]; omega
    · rw [Lib.decDigits, dif_neg h, valD_snoc, dig_nat (Nat.mod_lt _ (by omega))]
      cases m with
      | zero => omega
      | succ m =>
        rw [val_dec m (u / 10) (by omega)]
        omega
theorem dec_digits : ∀ (m u : Nat), u ≤ m → ∀ c ∈ Lib.decDigits u, digitB c = true
  | m, u, hm, c, hc => by
    by_cases h : u < 10
    · rw [Lib.decDigits_one h] at hc
      simp at hc
      rw [hc]
      have := dig_nat h
      simp only [digitB, decide_eq_true_eq]
      have e : 48 + UInt8.ofNat u = UInt8.ofNat (48 + u) := by simp
      rw [e, this]; omega
    · rw [Lib.decDigits, dif_neg h, List.mem_append, List.mem_singleton] at hc
      rcases hc with hc | rfl
      · cases m with
        | zero => omega
        | succ m => exact dec_digits m (u / 10) (by omega) c hc
      · simp only [digitB, decide_eq_true_eq]
        rw [dig_nat (Nat.mod_lt _ (by omega))]
        have := Nat.mod_lt u (show 0 < 10 by omega)
        omega
theorem dec_ne (u : Nat) : Lib.decDigits u ≠ [] := by
  intro e
  have := congrArg List.length e
  rw [Lib.decDigits_length] at this
  have := Lib.nDigits_pos u
  simp at *
  omega
theorem itoa_inj {m n : Int} (h : Lib.itoa m = Lib.itoa n) : m = n := by
  unfold Lib.itoa at h
  have key : ∀ u v : Nat, Lib.decDigits u = Lib.decDigits v → u = v := fun u v e => by
    rw [← val_dec u u (Nat.le_refl _), ← val_dec v v (Nat.le_refl _), e]
  have no : ∀ (u : Nat) (l : List UInt8), Lib.decDigits u ≠ 45 :: l := fun u l e => by
    have := dec_digits u u (Nat.le_refl _) 45 (by rw [e]; simp)
    simp [digitB] at this
  split at h <;> split at h
  · simp only [List.cons.injEq, true_and] at h
    have := key _ _ h
    omega
  · exact absurd h.symm (no _ _)
  · exact absurd h (no _ _)
  · have := key _ _ h
    omega
theorem numO_itoa {n : Int} (h0 : -999 ≤ n) (h1 : n ≤ 999) : numO (Lib.itoa n) = some n := by
  have h : ∃ m : Int, (-999 ≤ m ∧ m ≤ 999) ∧ Lib.itoa m = Lib.itoa n := ⟨n, ⟨h0, h1⟩, rfl⟩
  unfold numO
  rw [dif_pos h]
  exact congrArg some (itoa_inj h.choose_spec.2)
theorem numO_some {ds : List UInt8} {n : Int} (h : numO ds = some n) : -999 ≤ n ∧ n ≤ 999 ∧ Lib.itoa n = ds := by
  unfold numO at h
  split at h
  · rename_i he
    have := he.choose_spec
    rw [Option.some.inj h] at this
    exact ⟨this.1.1, this.1.2, this.2⟩
  · cases h
end Go.Proofs.YtognkaebiafgbaaGreatDoor

/-
  Numerals, plain: what strconv.Atoi answers at digits with a sign or without one, against the numbers of terms.
-/
namespace Go.Proofs.YtognkaebiafgbaaGreatDoor
open Go.RowKit
set_option linter.unusedVariables false

theorem dig_bd {c : UInt8} (h : digitB c = true) : 48 ≤ c.toNat ∧ c.toNat ≤ 57 := by simpa [digitB] using h
theorem pu_snoc : ∀ (l : List UInt8) (acc v : Nat) (c : UInt8), Lib.parseUint10 acc l = .ok v → digitB c = true → v < 1000 → Lib.parseUint10 acc (l ++ [c]) = .ok (v * 10 + (c.toNat - 48))
  | [], acc, v, c, h, hc, hv => by
    simp only [Lib.parseUint10] at h
    injection h with h
    subst h
    have := dig_bd hc
    simp only [List.nil_append, Lib.parseUint10]
    rw [if_pos this, if_neg (by omega), if_neg (by omega)]
  | d :: l, acc, v, c, h, hc, hv => by
    simp only [Lib.parseUint10] at h
    simp only [List.cons_append, Lib.parseUint10]
    split at h
    · rename_i h1
      split at h
      · cases h
      · rename_i h2
        split at h
        · cases h
        · rename_i h3
          rw [if_pos h1, if_neg h2, if_neg h3]
          exact pu_snoc l _ v c h hc hv
    · cases h
theorem pu_dec : ∀ (m u : Nat), u ≤ m → u ≤ 999 → Lib.parseUint10 0 (Lib.decDigits u) = .ok u
  | m, u, hm, hu => by
    by_cases h : u < 10
    · rw [Lib.decDigits_one h]
      have hd := dig_nat h
      have hdd : digitB (UInt8.ofNat (48 + u)) = true := by simp only [digitB, decide_eq_true_eq]; rw [hd]; omega
      have := pu_snoc [] 0 0 (UInt8.ofNat (48 + u)) rfl hdd (by omega)
      rw [hd] at this
      rw [List.nil_append] at this
      rw [show UInt8.ofNat (48 + u) = 48 + UInt8.ofNat u by simp] at this
      simpa using this
    · cases m with
      | zero => omega
      | succ m =>
        have ih := pu_dec m (u / 10) (by omega) (by omega)
        have hd := dig_nat (Nat.mod_lt u (show 0 < 10 by omega))
        have hdd : digitB (UInt8.ofNat (48 + u % 10)) = true := by
          simp only [digitB, decide_eq_true_eq]; rw [hd]
          have := Nat.mod_lt u (show 0 < 10 by omega)
          omega
        have := pu_snoc _ 0 _ (UInt8.ofNat (48 + u % 10)) ih hdd (by omega)
        rw [hd] at this
        rw [Lib.decDigits, dif_neg h]
        rw [this]
        congr 1
        omega
theorem pu_dig : ∀ (l : List UInt8) (acc : Nat), (∀ c ∈ l, digitB c = true) → Lib.parseUint10 acc l = .range ∨ ∃ u, Lib.parseUint10 acc l = .ok u
  | [], acc, _ => .inr ⟨acc, rfl⟩
  | c :: l, acc, h => by
    have hc := dig_bd (h c (by simp))
    simp only [Lib.parseUint10]
    rw [if_pos hc]
    split
    · exact .inl rfl
    · split
      · exact .inl rfl
      · exact pu_dig l _ (fun x hx => h x (by simp [hx]))
theorem atoi_itoa {n : Int} (h0 : -999 ≤ n) (h1 : n ≤ 999) : Lib.atoiAll (Lib.itoa n) = .ok n := by
  unfold Lib.itoa
  split
  · rename_i hn
    rw [Lib.atoiAll_minus]
    unfold Lib.parseMag
    rw [if_neg (dec_ne _), pu_dec _ _ (Nat.le_refl _) (by omega)]
    simp only [Lib.signed]
    rw [if_neg (by omega)]
    congr 1
    omega
  · cases h : Lib.decDigits n.toNat with
    | nil => exact absurd h (dec_ne _)
    | cons c l =>
      have hc := dig_bd (dec_digits _ _ (Nat.le_refl n.toNat) c (by rw [h]; simp))
      rw [Lib.atoiAll_plain c l (by omega) (by omega), ← h]
      unfold Lib.parseMag
      rw [if_neg (dec_ne _), pu_dec _ _ (Nat.le_refl _) (by omega)]
      simp only [Lib.signless]
      rw [if_neg (by omega)]
      congr 1
      omega
/-- a sign and digits, or digits, are never no numeral -/
theorem atoi_numeral {b : UInt8} {l : List UInt8} (hb : digitB b = true ∨ (b = 45 ∧ l ≠ [])) (hl : ∀ c ∈ l, digitB c = true) : Lib.atoiAll (b :: l) = .range ∨ ∃ v, Lib.atoiAll (b :: l) = .ok v := by
  rcases hb with hb | ⟨rfl, hne⟩
  · have hc := dig_bd hb
    rw [Lib.atoiAll_plain b l (by omega) (by omega)]
    unfold Lib.parseMag
    rw [if_neg (by simp)]
    rcases pu_dig (b :: l) 0 (fun c h => by rcases List.mem_cons.1 h with h | h; rw [h]; exact hb; exact hl c h) with h | ⟨u, h⟩
    · rw [h]; exact .inl rfl
    · rw [h]
      simp only [Lib.signless]
      split
      · exact .inl rfl
      · exact .inr ⟨_, rfl⟩
  · rw [Lib.atoiAll_minus]
    unfold Lib.parseMag
    rw [if_neg hne]
    rcases pu_dig l 0 hl with h | ⟨u, h⟩
    · rw [h]; exact .inl rfl
    · rw [h]
      simp only [Lib.signed]
      split
      · exact .inl rfl
      · exact .inr ⟨_, rfl⟩
theorem numO_range {ds : List UInt8} (h : Lib.atoiAll ds = .range) : numO ds = none := by
  cases e : numO ds with
  | none => rfl
  | some n =>
    obtain ⟨h0, h1, h2⟩ := numO_some e
    rw [← h2, atoi_itoa h0 h1] at h
    cases h
theorem numO_ok {ds : List UInt8} {v : Int} (h : Lib.atoiAll ds = .ok v) : numO ds = if Lib.itoa v = ds ∧ -999 ≤ v ∧ v ≤ 999 then some v else none := by
  split
  · rename_i hc
    rw [← hc.1]
    exact numO_itoa hc.2.1 hc.2.2
  · rename_i hc
    cases e : numO ds with
    | none => rfl
    | some n =>
      obtain ⟨h0, h1, h2⟩ := numO_some e
      have := atoi_itoa h0 h1
      rw [h2, h] at this
      injection this with this
      exact absurd ⟨by rw [this]; exact h2, by omega, by omega⟩ hc
end Go.Proofs.YtognkaebiafgbaaGreatDoor

/-
  Terms whose rows all belong to one owner, no row twice: what holds of the results of the program, of the arguments that a law makes; marks.
-/
namespace Go.Proofs.YtognkaebiafgbaaGreatDoor
open Go.RowKit
set_option linter.unusedVariables false

mutual
/-- the arguments of a term, in rows of its own within F, no row twice -/
def Tm.own (F : Nat → Prop) (w : World) : Tm → Value → Prop
  | .mk _ _ s ks, sv => s.size ≤ 1048576 ∧ ks.length ≤ 1048576 ∧ ∃ xs, w.ownsRow 0 25 4 sv ks.length xs ∧ (∀ g, sv.ownBlock = some g → F g) ∧ Tm.oflat (fun b => F b ∧ sv.ownBlock ≠ some b) w ks xs
def Tm.oflat (F : Nat → Prop) (w : World) : List Tm → List Value → Prop
  | [], xs => xs = []
  | t :: ts, xs => ∃ (F1 F2 : Nat → Prop) (a : Option Addr) (c : Nat) (rest : List Value), xs = tcells t a c ++ rest ∧ (∀ b, F1 b → F b ∧ ¬ F2 b) ∧ (∀ b, F2 b → F b) ∧ Tm.own F1 w t (.slice a t.kids.length c) ∧ Tm.oflat F2 w ts rest
end
/-- a slice of terms, in rows of its own within F, no row twice -/
def OwnS (F : Nat → Prop) (ts : List Tm) (v : Value) (w : World) : Prop :=
  ∃ xs, w.ownsRow 0 25 4 v ts.length xs ∧ (∀ g, v.ownBlock = some g → F g) ∧ Tm.oflat (fun b => F b ∧ v.ownBlock ≠ some b) w ts xs
theorem own_iff {F : Nat → Prop} {w : World} {t : Tm} {sv : Value} : Tm.own F w t sv ↔ t.name.size ≤ 1048576 ∧ t.kids.length ≤ 1048576 ∧ OwnS F t.kids sv w := by
  obtain ⟨k, n, s, ks⟩ := t
  simp only [Tm.own, OwnS, Tm.name, Tm.kids]

theorem own_fr {w w' : World} {e size n : Nat} {v : Value} {xs : List Value} {M : Nat → Prop} (h : w.ownsRow 0 e size v n xs) (f : Fr M w w') (hM : ∀ g, v.ownBlock = some g → ¬ M g) : w'.ownsRow 0 e size v n xs := by
  obtain ⟨e1, e2⟩ := h
  refine ⟨e1, ?_⟩
  rcases e2 with e2 | ⟨g, cap, cur, rfl, e3, e4, e5⟩
  · exact .inl e2
  · refine .inr ⟨g, cap, cur, rfl, e3, ?_, e5⟩
    rw [f.block g (by
      obtain ⟨x, _⟩ := Array.getElem?_eq_some_iff.1 e4
      exact x) (hM g rfl)]
    exact e4
mutual
theorem own_mono {F F' : Nat → Prop} {w w' : World} {M : Nat → Prop} (hF : ∀ b, F b → F' b) (f : Fr M w w') (hM : ∀ b, F b → ¬ M b) : ∀ (t : Tm) (sv : Value), Tm.own F w t sv → Tm.own F' w' t sv
  | .mk k n s ks, sv, h => by
    simp only [Tm.own] at h ⊢
    obtain ⟨h1, h2, xs, h3, h4, h5⟩ := h
    exact ⟨h1, h2, xs, own_fr h3 f (fun g hg => hM g (h4 g hg)), fun g hg => hF g (h4 g hg), oflat_mono (fun b hb => ⟨hF b hb.1, hb.2⟩) f (fun b hb => hM b hb.1) ks xs h5⟩
theorem oflat_mono {F F' : Nat → Prop} {w w' : World} {M : Nat → Prop} (hF : ∀ b, F b → F' b) (f : Fr M w w') (hM : ∀ b, F b → ¬ M b) : ∀ (ts : List Tm) (xs : List Value), Tm.oflat F w ts xs → Tm.oflat F' w' ts xs
  | [], xs, h => by simp only [Tm.oflat] at h ⊢; exact h
  | t :: ts, xs, h => by
    simp only [Tm.oflat] at h ⊢
    obtain ⟨F1, F2, a, c, rest, h1, h2, h3, h4, h5⟩ := h
    exact ⟨F1, F2, a, c, rest, h1, fun b hb => ⟨hF b (h2 b hb).1, (h2 b hb).2⟩, fun b hb => hF b (h3 b hb), own_mono (fun b hb => hb) f (fun b hb => hM b (h2 b hb).1) t _ h4, oflat_mono (fun b hb => hb) f (fun b hb => hM b (h3 b hb)) ts rest h5⟩
end
theorem OwnS.mono {F F' : Nat → Prop} {w w' : World} {M : Nat → Prop} {ts : List Tm} {v : Value} (h : OwnS F ts v w) (hF : ∀ b, F b → F' b) (f : Fr M w w') (hM : ∀ b, F b → ¬ M b) : OwnS F' ts v w' := by
  obtain ⟨xs, h3, h4, h5⟩ := h
  exact ⟨xs, own_fr h3 f (fun g hg => hM g (h4 g hg)), fun g hg => hF g (h4 g hg), oflat_mono (fun b hb => ⟨hF b hb.1, hb.2⟩) f (fun b hb => hM b hb.1) _ xs h5⟩
mutual
theorem own_flat : ∀ {F : Nat → Prop} {w : World} (t : Tm) (a : Option Addr) (c : Nat), Tm.own F w t (.slice a t.kids.length c) → Tm.at F w t (.agg #[.int .i64 t.kind, .int .i64 t.n, .string t.name, .slice a t.kids.length c])
  | F, w, .mk k n s ks, a, c, h => by
    simp only [Tm.own] at h
    obtain ⟨h1, h2, xs, h3, h4, h5⟩ := h
    have hsl := own_sl (S := fun b => F b ∧ (Value.slice a (Tm.mk k n s ks).kids.length c).ownBlock ≠ some b) h3 (oflat_flat ks xs h5) h2
    refine Tm.at_iff.2 ⟨h1, _, rfl, Tm.sl_mono ?_ (Agree.refl w) hsl⟩
    rintro b (hb | hb)
    · exact hb.1
    · exact h4 b hb
theorem oflat_flat : ∀ {F : Nat → Prop} {w : World} (ts : List Tm) (xs : List Value), Tm.oflat F w ts xs → Tm.flat F w ts xs
  | F, w, [], xs, h => by simp only [Tm.oflat] at h; exact h
  | F, w, t :: ts, xs, h => by
    simp only [Tm.oflat] at h
    obtain ⟨F1, F2, a, c, rest, h1, h2, h3, h4, h5⟩ := h
    exact ⟨a, c, rest, h1, Tm.at_mono (fun b hb => (h2 b hb).1) (Agree.refl w) (own_flat t a c h4), flat_mono h3 (Agree.refl w) (oflat_flat ts rest h5)⟩
end
theorem OwnS.app {F : Nat → Prop} {ts : List Tm} {v : Value} {w : World} (h : OwnS F ts v w) : AppI 25 F ts v w := by
  obtain ⟨xs, h1, h2, h3⟩ := h
  exact ⟨xs, h1, h2, oflat_flat ts xs h3⟩
theorem OwnS.form {F : Nat → Prop} {ts : List Tm} {v : Value} {w : World} (h : OwnS F ts v w) : ∃ a c, v = .slice a ts.length c := h.app.form
theorem OwnS.nil (F : Nat → Prop) (w : World) : OwnS F [] (.slice none 0 0) w := ⟨[], ⟨rfl, .inl ⟨rfl, rfl⟩⟩, by simp [Value.ownBlock], by simp [Tm.oflat]⟩
theorem oflat_snoc {w : World} {t : Tm} {a : Option Addr} {c : Nat} {G : Nat → Prop} (ht : Tm.own G w t (.slice a t.kids.length c)) : ∀ {F : Nat → Prop} {ts : List Tm} {xs : List Value}, Tm.oflat F w ts xs → (∀ b, F b → ¬ G b) →
    Tm.oflat (fun b => F b ∨ G b) w (ts ++ [t]) (xs ++ tcells t a c)
  | F, [], xs, h, _ => by
    simp only [Tm.oflat] at h
    subst h
    simp only [List.nil_append, Tm.oflat]
    exact ⟨G, fun _ => False, a, c, [], by simp, fun b hb => ⟨.inr hb, fun h => h⟩, fun b hb => hb.elim, ht, rfl⟩
  | F, u :: ts, xs, h, hd => by
    simp only [Tm.oflat] at h
    obtain ⟨F1, F2, a1, c1, rest, rfl, h2, h3, h4, h5⟩ := h
    simp only [List.cons_append, Tm.oflat]
    exact ⟨F1, fun b => F2 b ∨ G b, a1, c1, rest ++ tcells t a c, by simp, fun b hb => ⟨.inl (h2 b hb).1, fun h => h.elim (h2 b hb).2 (hd b (h2 b hb).1)⟩, fun b hb => hb.elim (fun h => .inl (h3 b h)) .inr, h4, oflat_snoc ht h5 (fun b hb => hd b (h3 b hb))⟩
/-- after an append of one term -/
theorem ownS_next {F G : Nat → Prop} {ts : List Tm} {t : Tm} {v nv : Value} {w1 w2 : World} {xs : List Value} {a2 : Option Addr} {c2 : Nat} {o : Obj}
    (how : w1.ownsRow 0 25 4 v ts.length xs) (hz : ∀ g, v.ownBlock = some g → F g) (hfl : Tm.oflat (fun b => F b ∧ v.ownBlock ≠ some b) w1 ts xs)
    (hv1 : Tm.own G w1 t (.slice a2 t.kids.length c2)) (hdis : ∀ b, F b → ¬ G b) (hG : ∀ b, G b → b < w1.heap.size) (hFl : ∀ b, F b → b < w1.heap.size)
    (ho2 : w2.ownsRow 0 25 4 nv (ts.length + 1) (xs ++ tcells t a2 c2)) (hg : (w1.alloc o).grownBy w2 v.ownBlock)
    (hfr : ∀ g, nv.ownBlock = some g → v.ownBlock = some g ∨ (w1.alloc o).heap.size ≤ g) : OwnS (fun b => F b ∨ G b ∨ w1.heap.size ≤ b) (ts ++ [t]) nv w2 := by
  have hs3 : (w1.alloc o).heap.size = w1.heap.size + 1 := by simp
  have f : Fr (fun b => v.ownBlock = some b) w1 w2 := (Fr.alloc w1 o).trans (Fr.of_grown hg (fun k hk => hk))
  refine ⟨xs ++ tcells t a2 c2, by simpa using ho2, ?_, ?_⟩
  · intro g hgg
    rcases hfr g hgg with h | h
    · exact .inl (hz g h)
    · exact .inr (.inr (by omega))
  · have hne : ∀ b, b < w1.heap.size → v.ownBlock ≠ some b → nv.ownBlock ≠ some b := by
      intro b hb h1 h2
      rcases hfr b h2 with h | h
      · exact h1 h
      · omega
    have hgv : ∀ b, G b → v.ownBlock ≠ some b := fun b hb h => hdis b (hz b h) hb
    have hs := oflat_snoc (own_mono (F' := G) (fun b hb => hb) f (fun b hb => hgv b hb) t _ hv1) (oflat_mono (F' := fun b => F b ∧ v.ownBlock ≠ some b) (fun b hb => hb) f (fun b hb => hb.2) ts xs hfl) (fun b hb => hdis b hb.1)
    refine oflat_mono (M := fun _ => False) ?_ (Fr.refl _ _) (fun b _ h => h) _ _ hs
    rintro b (hb | hb)
    · exact ⟨.inl hb.1, hne b (hFl b hb.1) hb.2⟩
    · exact ⟨.inr (.inl hb), hne b (hG b hb) (hgv b hb)⟩

/-- one element in the midst of a row, and what may be put in its place -/
theorem oflat_focus {w : World} {t : Tm} : ∀ {F : Nat → Prop} {ls bs : List Tm} {xs : List Value}, Tm.oflat F w (ls ++ t :: bs) xs →
    ∃ (G : Nat → Prop) (x1 x2 : List Value) (a : Option Addr) (c : Nat), xs = x1 ++ (tcells t a c ++ x2) ∧ x1.length = ls.length * 4 ∧ (∀ b, G b → F b) ∧ Tm.own G w t (.slice a t.kids.length c) ∧
      ∀ (w' : World) (t' : Tm) (M : Nat → Prop), Fr M w w' → (∀ b, F b → M b → G b) → t'.kids.length = t.kids.length → Tm.own G w' t' (.slice a t'.kids.length c) → Tm.oflat F w' (ls ++ t' :: bs) (x1 ++ (tcells t' a c ++ x2))
  | F, [], bs, xs, h => by
    simp only [List.nil_append, Tm.oflat] at h
    obtain ⟨F1, F2, a, c, rest, h1, h2, h3, h4, h5⟩ := h
    refine ⟨F1, [], rest, a, c, by simpa using h1, rfl, fun b hb => (h2 b hb).1, h4, ?_⟩
    intro w' t' M f hM hl ho
    simp only [List.nil_append, Tm.oflat]
    exact ⟨F1, F2, a, c, rest, rfl, h2, h3, ho, oflat_mono (fun b hb => hb) f (fun b hb hm => (h2 b (hM b (h3 b hb) hm)).2 hb) _ _ h5⟩
  | F, u :: ls, bs, xs, h => by
    simp only [List.cons_append, Tm.oflat] at h
    obtain ⟨F1, F2, a1, c1, rest, h1, h2, h3, h4, h5⟩ := h
    obtain ⟨G, x1, x2, a, c, e1, e2, e3, e4, e5⟩ := oflat_focus h5
    refine ⟨G, tcells u a1 c1 ++ x1, x2, a, c, by rw [h1, e1]; simp, by simp [tcells, e2]; omega, fun b hb => h3 b (e3 b hb), e4, ?_⟩
    intro w' t' M f hM hl ho
    simp only [List.cons_append, Tm.oflat]
    refine ⟨F1, F2, a1, c1, x1 ++ (tcells t' a c ++ x2), by simp, h2, h3, own_mono (fun b hb => hb) f (fun b hb hm => (h2 b hb).2 (e3 b (hM b (h2 b hb).1 hm))) _ _ h4, e5 w' t' M f (fun b hb hm => hM b (h3 b hb) hm) hl ho⟩

end Go.Proofs.YtognkaebiafgbaaGreatDoor
