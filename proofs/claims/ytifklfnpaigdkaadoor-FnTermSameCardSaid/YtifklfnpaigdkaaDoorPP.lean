/-
  The program's reader, plain: what it reads of a text, as functions on what is left of the text (with fuel; none: it fails).
-/
import Derived.Test.YtifklfnpaigdkaaDoorTxtF
namespace Go.Proofs.YtifklfnpaigdkaaDoor
open Go.RowKit
set_option linter.unusedVariables false

def eN : ByteArray := ⟨#[]⟩
def isUp (b : UInt8) : Bool := decide (65 ≤ b.toNat ∧ b.toNat ≤ 90)
def vT (b : UInt8) : Tm := .mk 1 ((b.toNat : Int) - 65) eN []
def nT (n : Int) : Tm := .mk 2 n eN []
def sT (s : ByteArray) (ks : List Tm) : Tm := .mk 3 0 s ks
def dotN : ByteArray := ⟨#[46]⟩
def nilN : ByteArray := ⟨#[91, 93]⟩
def chainT : List Tm → Tm → Tm
  | [], tl => tl
  | x :: xs, tl => sT dotN [x, chainT xs tl]
/-- whether a number stands there -/
def numStart : List UInt8 → Bool
  | [] => false
  | b :: r => digitB b || (b == 45 && (match r with | [] => false | c :: _ => digitB c))
open Classical in
/-- the number with a numeral -/
noncomputable def numO (ds : List UInt8) : Option Int := if h : ∃ n : Int, (-999 ≤ n ∧ n ≤ 999) ∧ Lib.itoa n = ds then some h.choose else none
noncomputable def numP : List UInt8 → Option (Tm × List UInt8)
  | [] => none
  | b :: r => match numO (b :: r.takeWhile digitB) with
    | some n => some (nT n, r.dropWhile digitB)
    | none => none
/-- how long the longest sign is that stands there -/
def signN (rest : List UInt8) : Nat := signs.foldl (fun n s => if s.toList.isPrefixOf rest = true then max n s.size else n) 0
def nameP (rest : List UInt8) : Option (List UInt8 × List UInt8) :=
  if 6 < (rest.takeWhile smallB).length then none else
  if 0 < (rest.takeWhile smallB).length then some (rest.takeWhile smallB, rest.dropWhile smallB) else
  if signN rest = 0 then none else some (rest.take (signN rest), rest.drop (signN rest))
def wordOps : List ByteArray := [⟨#[105, 115]⟩, ⟨#[109, 111, 100]⟩]
/-- the longest operator that stands there -/
def opP (rest : List UInt8) : List UInt8 :=
  (signs ++ wordOps).foldl (fun best s => if (decide (0 < opLevelF s.toList) && (spaced s.toList).isPrefixOf rest && decide (best.length < s.toList.length)) = true then s.toList else best) []

mutual
noncomputable def primF (o : Bool) : Nat → Nat → List UInt8 → Option (Tm × List UInt8)
  | 0, _, _ => none
  | F + 1, deep, rest =>
    if 30 < deep then none else
    match rest with
    | [] => none
    | b :: r =>
      if b = 0 then none else
      if isUp b = true then some (vT b, r) else
      if numStart (b :: r) = true then numP (b :: r) else
      if b = 40 ∧ o = true then
        match termF o F 3 deep r with
        | some (t, c :: r') => if c = 41 then some (t, r') else none
        | _ => none
      else if b = 91 ∧ r.head? ≠ some 93 then listF o F deep [] r else
      match nameP (b :: r) with
      | none => none
      | some (s, c :: r') => if c = 40 then argsF o F deep (bs s) [] r' else some (sT (bs s) [], c :: r')
      | some (s, []) => some (sT (bs s) [], [])
noncomputable def argsF (o : Bool) : Nat → Nat → ByteArray → List Tm → List UInt8 → Option (Tm × List UInt8)
  | 0, _, _, _, _ => none
  | F + 1, deep, s, acc, rest =>
    match (if o = true then termF o F 3 (deep + 1) rest else primF o F (deep + 1) rest) with
    | some (k, c :: r) => if c = 44 then argsF o F deep s (acc ++ [k]) r else if c = 41 then some (sT s (acc ++ [k]), r) else none
    | _ => none
noncomputable def listF (o : Bool) : Nat → Nat → List Tm → List UInt8 → Option (Tm × List UInt8)
  | 0, _, _, _ => none
  | F + 1, deep, acc, rest =>
    match (if o = true then termF o F 3 (deep + 1 + acc.length) rest else primF o F (deep + 1 + acc.length) rest) with
    | some (k, c :: r) =>
      if c = 44 then listF o F deep (acc ++ [k]) r else
      if c = 124 then
        match (if o = true then termF o F 3 (deep + 1 + acc.length) r else primF o F (deep + 1 + acc.length) r) with
        | some (tl, d :: r') => if d = 93 then some (chainT (acc ++ [k]) tl, r') else none
        | _ => none
      else if c = 93 then some (chainT (acc ++ [k]) (sT nilN []), r) else none
    | _ => none
noncomputable def termF (o : Bool) : Nat → Int → Nat → List UInt8 → Option (Tm × List UInt8)
  | 0, _, _, _ => none
  | F + 1, level, deep, rest =>
    match primF o F deep rest with
    | some (t, r) => loopF o F level deep 0 t r
    | none => none
noncomputable def loopF (o : Bool) : Nat → Int → Nat → Int → Tm → List UInt8 → Option (Tm × List UInt8)
  | 0, _, _, _, _, _ => none
  | F + 1, level, deep, mine, t, rest =>
    if opP rest = [] ∨ level < opLevelF (opP rest) ∨ leftM (opP rest) < mine then some (t, rest) else
    match termF o F (opLevelF (opP rest) - 1) deep (rest.drop (spaced (opP rest)).length) with
    | some (r, rest') => loopF o F level deep (opLevelF (opP rest)) (sT (bs (opP rest)) [t, r]) rest'
    | none => none
end

/-- with enough fuel the function answers x -/
def Par {α : Type} (f : Nat → Option α) (x : α) : Prop := ∃ F0, ∀ F, F0 ≤ F → f F = some x
theorem Par.step {α β : Type} {f : Nat → Option α} {g : Nat → Option β} {x : α} {y : β} (h : Par f x) (e : ∀ F, f F = some x → g (F + 1) = some y) : Par g y := by
  obtain ⟨F0, h⟩ := h
  refine ⟨F0 + 1, fun F hF => ?_⟩
  obtain ⟨F, rfl⟩ : ∃ G, F = G + 1 := ⟨F - 1, by omega⟩
  exact e F (h F (by omega))
theorem Par.now {α : Type} {g : Nat → Option α} {x : α} (e : ∀ F, g (F + 1) = some x) : Par g x := ⟨1, fun F hF => by
  obtain ⟨F, rfl⟩ : ∃ G, F = G + 1 := ⟨F - 1, by omega⟩
  exact e F⟩
theorem Par.two {α β γ : Type} {f : Nat → Option α} {h : Nat → Option β} {g : Nat → Option γ} {x : α} {y : β} {z : γ} (hf : Par f x) (hh : Par h y) (e : ∀ F, f F = some x → h F = some y → g (F + 1) = some z) : Par g z := by
  obtain ⟨F0, hf⟩ := hf
  obtain ⟨F1, hh⟩ := hh
  refine ⟨F0 + F1 + 1, fun F hF => ?_⟩
  obtain ⟨F, rfl⟩ : ∃ G, F = G + 1 := ⟨F - 1, by omega⟩
  exact e F (hf F (by omega)) (hh F (by omega))

/-! ### numerals -/
def valD (l : List UInt8) : Nat := l.foldl (fun n c => n * 10 + (c.toNat - 48)) 0
theorem valD_snoc (l : List UInt8) (c : UInt8) : valD (l ++ [c]) = valD l * 10 + (c.toNat - 48) := by simp [valD, List.foldl_append]
theorem dig_nat {u : Nat} (h : u < 10) : (UInt8.ofNat (48 + u)).toNat = 48 + u := by rw [UInt8.toNat_ofNat']; omega
theorem val_dec : ∀ (m u : Nat), u ≤ m → valD (Lib.decDigits u) = u
  | m, u, hm => by
    by_cases h : u < 10
    · rw [Lib.decDigits_one h]
      simp only [valD, List.foldl_cons, List.foldl_nil]
      rw [dig_nat h]; omega
    · rw [Lib.decDigits, dif_neg h, valD_snoc, dig_nat (Nat.mod_lt _ (by omega))]
      cases m with
      | zero => omega
      | succ m =>
        rw [val_dec m (u / 10) (by omega)]
        omega
theorem dec_digits : ∀ (m u : Nat), u ≤ m → ∀ c ∈ Lib.decDigits u, digitB c = true
  | m, u, hm, c, hc => by
    by_cases h : u < 10
    · rw [Lib.decDigits_one h] at hc
      simp at hc
      rw [hc]
      have := dig_nat h
      simp only [digitB, decide_eq_true_eq]
      have e : 48 + UInt8.ofNat u = UInt8.ofNat (48 + u) := by simp
      rw [e, this]; omega
    · rw [Lib.decDigits, dif_neg h, List.mem_append, List.mem_singleton] at hc
      rcases hc with hc | rfl
      · cases m with
        | zero => omega
        | succ m => exact dec_digits m (u / 10) (by omega) c hc
      · simp only [digitB, decide_eq_true_eq]
        rw [dig_nat (Nat.mod_lt _ (by omega))]
        have := Nat.mod_lt u (show 0 < 10 by omega)
        omega
theorem dec_ne (u : Nat) : Lib.decDigits u ≠ [] := by
  intro e
  have := congrArg List.length e
  rw [Lib.decDigits_length] at this
  have := Lib.nDigits_pos u
  simp at *
  omega
theorem itoa_inj {m n : Int} (h : Lib.itoa m = Lib.itoa n) : m = n := by
  unfold Lib.itoa at h
  have key : ∀ u v : Nat, Lib.decDigits u = Lib.decDigits v → u = v := fun u v e => by
    rw [← val_dec u u (Nat.le_refl _), ← val_dec v v (Nat.le_refl _), e]
  have no : ∀ (u : Nat) (l : List UInt8), Lib.decDigits u ≠ 45 :: l := fun u l e => by
    have := dec_digits u u (Nat.le_refl _) 45 (by rw [e]; simp)
    simp [digitB] at this
  split at h <;> split at h
  · simp only [List.cons.injEq, true_and] at h
    have := key _ _ h
    omega
  · exact absurd h.symm (no _ _)
  · exact absurd h (no _ _)
  · have := key _ _ h
    omega
theorem numO_itoa {n : Int} (h0 : -999 ≤ n) (h1 : n ≤ 999) : numO (Lib.itoa n) = some n := by
  have h : ∃ m : Int, (-999 ≤ m ∧ m ≤ 999) ∧ Lib.itoa m = Lib.itoa n := ⟨n, ⟨h0, h1⟩, rfl⟩
  unfold numO
  rw [dif_pos h]
  exact congrArg some (itoa_inj h.choose_spec.2)
theorem numO_some {ds : List UInt8} {n : Int} (h : numO ds = some n) : -999 ≤ n ∧ n ≤ 999 ∧ Lib.itoa n = ds := by
  unfold numO at h
  split at h
  · rename_i he
    have := he.choose_spec
    rw [Option.some.inj h] at this
    exact ⟨this.1.1, this.1.2, this.2⟩
  · cases h
end Go.Proofs.YtifklfnpaigdkaaDoor
