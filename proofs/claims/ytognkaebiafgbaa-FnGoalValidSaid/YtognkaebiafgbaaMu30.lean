/-
  Reading a program, plain: the lines of a text; that no clause's text holds a line's end; that the text of every valid program with short lines is read back.
-/
import Derived.Test.YtognkaebiafgbaaMu29
namespace Go.Proofs.Ytognkaebiafgbaa
open Go.RowKit
set_option linter.unusedVariables false
def NL (l : List UInt8) : Prop := (10 : UInt8) ∉ l
theorem nl_nil : NL [] := by simp [NL]
theorem nl_app {a b : List UInt8} : NL (a ++ b) ↔ NL a ∧ NL b := by simp [NL, not_or]
theorem nl_cons {x : UInt8} {a : List UInt8} : NL (x :: a) ↔ x ≠ 10 ∧ NL a := by
  unfold NL
  rw [List.mem_cons, not_or]
  constructor
  · exact fun h => ⟨fun e => h.1 e.symm, h.2⟩
  · exact fun h => ⟨fun e => h.1 e.symm, h.2⟩
theorem nl_name {s : ByteArray} (h : nameF s = true) : NL s.toList := by
  simp only [nameF, Bool.or_eq_true] at h
  rcases h with h | h
  · simp only [wordF, Bool.and_eq_true] at h
    intro hm
    have := List.all_eq_true.1 h.1 10 hm
    exact absurd this (by decide)
  · simp only [hasF, List.any_eq_true, beq_iff_eq] at h
    obtain ⟨x, hx, e⟩ := h
    rw [← e]
    clear e
    simp only [signs, List.mem_cons, List.not_mem_nil, or_false] at hx
    rcases hx with rfl | rfl | rfl | rfl | rfl | rfl | rfl | rfl | rfl | rfl | rfl | rfl | rfl | rfl | rfl <;> simp [ByteArray.toList_eq, NL]
theorem nl_dec (u : Nat) : NL (Lib.decDigits u) := fun h => absurd (dec_digits u u (Nat.le_refl _) 10 h) (by decide)
theorem nl_itoa (n : Int) : NL (Lib.itoa n) := by
  unfold Lib.itoa
  split
  · exact nl_cons.2 ⟨by decide, nl_dec _⟩
  · exact nl_dec _
theorem nl_opn {x : Tx} {m : Int} {r : Bool} (h : NL x.txt) : NL (opn x m r) := by
  unfold opn
  split
  · exact nl_cons.2 ⟨by decide, nl_app.2 ⟨h, nl_cons.2 ⟨by decide, nl_nil⟩⟩⟩
  · exact h
theorem nl_spaced {s : List UInt8} (h : NL s) : NL (spaced s) := by
  unfold spaced
  split
  · exact nl_cons.2 ⟨by decide, nl_app.2 ⟨h, nl_cons.2 ⟨by decide, nl_nil⟩⟩⟩
  · exact h
theorem nl_join : ∀ xs : List (List UInt8), (∀ (j : Nat) (x : List UInt8), xs[j]? = some x → NL x) → NL (joinF xs)
  | [], _ => nl_nil
  | [x], h => h 0 x rfl
  | x :: y :: xs, h => by
    have h2 := nl_join (y :: xs) (fun j z hz => h (j + 1) z (by simpa using hz))
    exact nl_app.2 ⟨h 0 x rfl, nl_cons.2 ⟨by decide, h2⟩⟩
theorem nl_let {n : Int} (h0 : 0 ≤ n) (h1 : n ≤ 25) : letB n ≠ 10 := by
  unfold letB
  intro e
  have := congrArg UInt8.toNat e
  rw [UInt8.toNat_ofNat'] at this
  have e10 : (10 : UInt8).toNat = 10 := rfl
  omega
theorem shape_var' {n : Int} {s : ByteArray} {ks : List Tm} {d : Nat} (h : shapeF (.mk 1 n s ks) d = true) : 0 ≤ n ∧ n ≤ 25 := by
  simp only [shapeF, Bool.and_eq_true] at h
  have h2 := h.1.2
  unfold ownF at h2
  simp at h2
  exact ⟨h2.1.1.1, h2.1.1.2⟩
mutual
theorem tx_nl (o : Bool) : ∀ (t : Tm) (d : Nat), shapeF t d = true → NL (txt o t) ∧ NL (rst o t)
  | .mk k n s ks, d, h => by
    have hl := tx_nls o ks (d - 1) (by simp only [shapeF, Bool.and_eq_true] at h; exact h.2)
    have key : NL (ownTx o k n s (txL o ks)) := by
      rcases shape_own h with ⟨rfl, _, rfl⟩ | ⟨rfl, _, rfl⟩ | ⟨rfl, rfl⟩
      · have := shape_var' h
        simp only [ownTx, if_true]
        exact nl_cons.2 ⟨nl_let this.1 this.2, nl_nil⟩
      · simp only [ownTx, if_neg (show ¬ (2 : Int) = 1 by decide), if_true]
        exact nl_itoa n
      · obtain ⟨hn, _⟩ := shape_name h
        have hn := nl_name hn
        simp only [ownTx, if_neg (show ¬ (3 : Int) = 1 by decide), if_neg (show ¬ (3 : Int) = 2 by decide), txL_len]
        split
        · rename_i hi
          obtain ⟨a, b, rfl⟩ := len_two (inf_two (by simp only [Bool.and_eq_true] at hi; exact hi.2)).2.1
          have h4 := hl 0 a rfl
          have h5 := hl 1 b rfl
          exact nl_app.2 ⟨nl_opn (by simpa [txL, txt] using h4.1), nl_app.2 ⟨nl_spaced hn, nl_opn (by simpa [txL, txt] using h5.1)⟩⟩
        · split
          · rename_i _ hp
            obtain ⟨a, b, rfl⟩ := len_two (pair_two hp).2.1
            have h4 := hl 0 a rfl
            have h5 := hl 1 b rfl
            refine nl_cons.2 ⟨by decide, nl_app.2 ⟨by simpa [txL, txt] using h4.1, nl_app.2 ⟨by simpa [txL, rst] using h5.2, nl_cons.2 ⟨by decide, nl_nil⟩⟩⟩⟩
          · split
            · exact hn
            · rw [txL_map]
              refine nl_app.2 ⟨hn, nl_cons.2 ⟨by decide, nl_app.2 ⟨nl_join _ (fun j x hx => ?_), nl_cons.2 ⟨by decide, nl_nil⟩⟩⟩⟩
              rw [List.getElem?_map] at hx
              cases hk : ks[j]? with
              | none => rw [hk] at hx; cases hx
              | some t =>
                rw [hk] at hx
                simp only [Option.map_some, Option.some.injEq] at hx
                rw [← hx]
                exact (hl j t hk).1
    refine ⟨by simpa [txt, txF] using key, ?_⟩
    simp only [rst, txF, restTx]
    split
    · rename_i hp
      rw [txL_len] at hp
      obtain ⟨a, b, rfl⟩ := len_two (pair_two hp).2.1
      have h4 := hl 0 a rfl
      have h5 := hl 1 b rfl
      exact nl_cons.2 ⟨by decide, nl_app.2 ⟨by simpa [txL, txt] using h4.1, by simpa [txL, rst] using h5.2⟩⟩
    · split
      · exact nl_nil
      · exact nl_cons.2 ⟨by decide, key⟩
theorem tx_nls (o : Bool) : ∀ (ts : List Tm) (d : Nat), shapeL ts d = true → ∀ (j : Nat) (t : Tm), ts[j]? = some t → NL (txt o t) ∧ NL (rst o t)
  | [], d, h, j, t, ht => by simp at ht
  | t :: ts, d, h, j, u, hu => by
    simp only [shapeL, Bool.and_eq_true] at h
    rcases j with _ | j
    · simp at hu; subst hu; exact tx_nl o t d h.1
    · exact tx_nls o ts d h.2 j u (by simpa using hu)
end
theorem nl_val {t : Tm} (h : validF t = true) : NL (txt true t) := (tx_nl true t 30 (valid_parts h).1).1
theorem nl_cl {c : Cl} (h : clValidF c = true) : NL (clTxt c) := by
  obtain ⟨h1, h2, h3⟩ := cl_parts h
  unfold clTxt
  refine nl_app.2 ⟨nl_val h1, ?_⟩
  split
  · exact nl_cons.2 ⟨by decide, nl_nil⟩
  · refine nl_cons.2 ⟨by decide, nl_cons.2 ⟨by decide, nl_app.2 ⟨nl_join _ (fun j x hx => ?_), nl_cons.2 ⟨by decide, nl_nil⟩⟩⟩⟩
    rw [List.getElem?_map] at hx
    cases hk : c.body[j]? with
    | none => rw [hk] at hx; cases hx
    | some t =>
      rw [hk] at hx
      simp only [Option.map_some, Option.some.injEq] at hx
      rw [← hx]
      exact nl_val (h3 j t hk)
def cutL : List UInt8 → List (List UInt8)
  | [] => [[]]
  | b :: l => if b = 10 then [] :: cutL l else (b :: (cutL l).headD []) :: (cutL l).tail
theorem cutL_ne : ∀ l, cutL l ≠ []
  | [] => by simp [cutL]
  | b :: l => by unfold cutL; split <;> simp
theorem cutL_len (l : List UInt8) : 1 ≤ (cutL l).length := List.length_pos_iff.2 (cutL_ne l)
theorem cutL_le : ∀ l, (cutL l).length ≤ l.length + 1
  | [] => by simp [cutL]
  | b :: l => by
    have := cutL_le l
    have := cutL_len l
    unfold cutL
    split
    · simp only [List.length_cons]; omega
    · simp only [List.length_cons, List.length_tail]; omega
theorem cutL_nl : ∀ (x l : List UInt8), NL x → cutL (x ++ 10 :: l) = x :: cutL l
  | [], l, _ => by simp [cutL]
  | b :: x, l, h => by
    have h' := nl_cons.1 h
    rw [List.cons_append, cutL, if_neg h'.1, cutL_nl x l h'.2]
    rfl
theorem cutL_ends : ∀ xs : List (List UInt8), (∀ x ∈ xs, NL x) → cutL ((xs.map (· ++ [10])).flatten) = xs ++ [[]]
  | [], _ => rfl
  | x :: xs, h => by
    have ih := cutL_ends xs (fun y hy => h y (by simp [hy]))
    rw [List.map_cons, List.flatten_cons, List.append_assoc, List.singleton_append, cutL_nl _ _ (h x (by simp)), ih]
    rfl
def mapO {α β : Type} (f : α → Option β) : List α → Option (List β)
  | [] => some []
  | x :: xs => match f x with
    | none => none
    | some y => match mapO f xs with
      | none => none
      | some ys => some (y :: ys)
theorem mapO_snoc {α β : Type} {f : α → Option β} : ∀ {ls : List α} {cs : List β} {x : α} {c : β}, mapO f ls = some cs → f x = some c → mapO f (ls ++ [x]) = some (cs ++ [c])
  | [], cs, x, c, h, hx => by
    simp only [mapO, Option.some.injEq] at h
    subst h
    simp [mapO, hx]
  | y :: ls, cs, x, c, h, hx => by
    rw [mapO] at h
    cases e : f y with
    | none => rw [e] at h; cases h
    | some d =>
      rw [e] at h
      cases e2 : mapO f ls with
      | none => rw [e2] at h; cases h
      | some ds =>
        rw [e2] at h
        simp only [Option.some.injEq] at h
        subst h
        rw [List.cons_append, mapO, e, mapO_snoc e2 hx]
        rfl
theorem mapO_none {α β : Type} {f : α → Option β} : ∀ {ls : List α} {j : Nat} {x : α}, ls[j]? = some x → f x = none → mapO f ls = none
  | [], j, x, h, _ => by simp at h
  | y :: ls, 0, x, h, hx => by simp at h; subst h; simp [mapO, hx]
  | y :: ls, j + 1, x, h, hx => by
    have := mapO_none (ls := ls) (j := j) (x := x) (by simpa using h) hx
    rw [mapO, this]
    cases f y <;> rfl
theorem mapO_all {α β : Type} {f : α → Option β} {g : β → α} : ∀ {cs : List β}, (∀ c ∈ cs, f (g c) = some c) → mapO f (cs.map g) = some cs
  | [], _ => rfl
  | c :: cs, h => by
    rw [List.map_cons, mapO, h c (by simp), mapO_all (fun d hd => h d (by simp [hd]))]
noncomputable def parsePr (l : List UInt8) : Option (List Cl) := if (cutL l).length ≤ 21 ∧ (cutL l).getLast? = some [] then mapO (fun x => parseC (bs x)) (cutL l).dropLast else none
theorem parseC_val {c : Cl} (h : clValidF c = true) (hl : (clTxt c).length ≤ 1000) : parseC (bs (clTxt c)) = some c := by
  unfold parseC
  rw [if_pos (by rw [bs_size]; exact hl), bs_list]
  exact parseClO_some h
theorem pr_mem {cs : List Cl} (h : prValidF cs = true) : cs.length ≤ 20 ∧ ∀ c ∈ cs, clValidF c = true := by
  simp only [prValidF, Bool.and_eq_true, decide_eq_true_eq, Bool.not_eq_true'] at h
  refine ⟨h.1, fun c hc => ?_⟩
  have := List.any_eq_false.1 h.2 c hc
  simpa [notValid] using this
theorem parsePr_val {cs : List Cl} (h : prValidF cs = true) (hl : ∀ c ∈ cs, (clTxt c).length ≤ 1000) : parsePr (prTxt cs) = some cs := by
  obtain ⟨h1, h2⟩ := pr_mem h
  have hcut : cutL (prTxt cs) = cs.map clTxt ++ [[]] := by
    rw [← cutL_ends (cs.map clTxt) (fun x hx => by
      obtain ⟨c, hc, rfl⟩ := List.mem_map.1 hx
      exact nl_cl (h2 c hc))]
    unfold prTxt
    rw [List.map_map]
    rfl
  unfold parsePr
  rw [hcut, if_pos ⟨by simp; omega, by simp⟩, List.dropLast_concat]
  exact mapO_all (fun c hc => parseC_val (h2 c hc) (hl c hc))
noncomputable def parsePT (s : ByteArray) : List Cl := (parsePr s.toList).getD []
noncomputable def parsePB (s : ByteArray) : Bool := (parsePr s.toList).isSome
end Go.Proofs.Ytognkaebiafgbaa
