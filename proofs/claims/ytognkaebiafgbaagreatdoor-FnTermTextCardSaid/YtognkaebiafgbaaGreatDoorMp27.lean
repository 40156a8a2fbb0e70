/-
  The program's reader, plain: what is read makes the rest shorter.
-/
import Derived.Deep.CutBlock
import Derived.Deep.LoopGhost
import Derived.Test.YtognkaebiafgbaaGreatDoorMp24
import Derived.Test.YtognkaebiafgbaaGreatDoorMp26
namespace Go.Proofs.YtognkaebiafgbaaGreatDoor
open Go.RowKit
set_option linter.unusedVariables false

theorem dropW_le {p : UInt8 → Bool} (l : List UInt8) : (l.dropWhile p).length ≤ l.length := (List.dropWhile_sublist p).length_le
theorem numP_len {rest : List UInt8} {t : Tm} {r : List UInt8} (h : numP rest = some (t, r)) : r.length < rest.length := by
  cases rest with
  | nil => cases h
  | cons b l =>
    simp only [numP] at h
    split at h
    · cases h
      have := dropW_le (p := digitB) l
      simp only [List.length_cons]; omega
    · cases h
theorem nameP_len {rest : List UInt8} {s r : List UInt8} (h : nameP rest = some (s, r)) : r.length < rest.length ∧ s.length ≤ rest.length := by
  unfold nameP at h
  split at h
  · cases h
  · split at h
    · rename_i h1
      cases h
      have := congrArg List.length (List.takeWhile_append_dropWhile (p := smallB) (l := rest))
      rw [List.length_append] at this
      omega
    · split at h
      · cases h
      · rename_i h1 h2 h3
        cases h
        have hne : rest ≠ [] := by
          rintro rfl
          exact h3 (by rw [signN_eq]; rfl)
        have : 0 < rest.length := List.length_pos_iff.2 hne
        simp only [List.length_drop, List.length_take]
        omega
theorem len_all : ∀ F : Nat, (∀ o deep rest t r, primF o F deep rest = some (t, r) → r.length < rest.length) ∧ (∀ o deep s acc rest t r, argsF o F deep s acc rest = some (t, r) → r.length < rest.length) ∧
    (∀ o deep acc rest t r, listF o F deep acc rest = some (t, r) → r.length < rest.length) ∧ (∀ o level deep rest t r, termF o F level deep rest = some (t, r) → r.length < rest.length) ∧
    (∀ o level deep mine u rest t r, loopF o F level deep mine u rest = some (t, r) → r.length ≤ rest.length)
  | 0 => by
    refine ⟨?_, ?_, ?_, ?_, ?_⟩
    · intro o deep rest t r h; rw [primF] at h; cases h
    · intro o deep s acc rest t r h; rw [argsF] at h; cases h
    · intro o deep acc rest t r h; rw [listF] at h; cases h
    · intro o level deep rest t r h; rw [termF] at h; cases h
    · intro o level deep mine u rest t r h; rw [loopF] at h; cases h
  | F + 1 => by
    obtain ⟨iP, iA, iL, iT, iO⟩ := len_all F
    have part : ∀ o deep rest t r, (if o = true then termF o F 3 deep rest else primF o F deep rest) = some (t, r) → r.length < rest.length := by
      intro o deep rest t r h
      split at h
      · exact iT _ _ _ _ _ _ h
      · exact iP _ _ _ _ _ h
    refine ⟨?_, ?_, ?_, ?_, ?_⟩
    · intro o deep rest t r h
      cases rest with
      | nil => simp [primF] at h
      | cons b l =>
        rw [primF] at h
        split at h
        · cases h
        · split at h
          · cases h
          · split at h
            · cases h; simp
            · split at h
              · exact numP_len h
              · split at h
                · split at h
                  · rename_i u c q hq
                    have := iT _ _ _ _ _ _ hq
                    split at h
                    · cases h; simp only [List.length_cons] at this ⊢; omega
                    · cases h
                  · cases h
                · split at h
                  · have := iL _ _ _ _ _ _ h
                    simp only [List.length_cons]; omega
                  · split at h
                    · cases h
                    · rename_i s c q hq
                      have h1 := (nameP_len hq).1
                      split at h
                      · have := iA _ _ _ _ _ _ _ h
                        simp only [List.length_cons] at *; omega
                      · cases h; exact h1
                    · rename_i s hq
                      cases h
                      exact (nameP_len hq).1
    · intro o deep s acc rest t r h
      rw [argsF] at h
      split at h
      · rename_i k c q hq
        have h1 := part _ _ _ _ _ hq
        split at h
        · have := iA _ _ _ _ _ _ _ h
          simp only [List.length_cons] at *; omega
        · split at h
          · cases h; simp only [List.length_cons] at *; omega
          · cases h
      · cases h
    · intro o deep acc rest t r h
      rw [listF] at h
      split at h
      · rename_i k c q hq
        have h1 := part _ _ _ _ _ hq
        split at h
        · have := iL _ _ _ _ _ _ h
          simp only [List.length_cons] at *; omega
        · split at h
          · split at h
            · rename_i tl d q' hq'
              have h2 := part _ _ _ _ _ hq'
              split at h
              · cases h; simp only [List.length_cons] at *; omega
              · cases h
            · cases h
          · split at h
            · cases h; simp only [List.length_cons] at *; omega
            · cases h
      · cases h
    · intro o level deep rest t r h
      rw [termF] at h
      split at h
      · rename_i u q hq
        have h1 := iP _ _ _ _ _ hq
        have h2 := iO _ _ _ _ _ _ _ _ h
        omega
      · cases h
    · intro o level deep mine u rest t r h
      rw [loopF] at h
      split at h
      · cases h; exact Nat.le_refl _
      · split at h
        · rename_i v q hq
          have h1 := iT _ _ _ _ _ _ hq
          have h2 := iO _ _ _ _ _ _ _ _ h
          simp only [List.length_drop] at h1
          omega
        · cases h
end Go.Proofs.YtognkaebiafgbaaGreatDoor

/-
  The program's reader: part and list, out of what primary and term do.
-/
namespace Go.Proofs.YtognkaebiafgbaaGreatDoor
open Go.RowKit
set_option linter.unusedVariables false

noncomputable def partF (o : Bool) (F deep : Nat) (rest : List UInt8) : Option (Tm × List UInt8) := if o = true then termF o F 3 deep rest else primF o F deep rest
theorem part_len {o : Bool} {F deep : Nat} {rest : List UInt8} {t : Tm} {r : List UInt8} (h : partF o F deep rest = some (t, r)) : r.length < rest.length := by
  unfold partF at h
  split at h
  · exact (len_all F).2.2.2.1 _ _ _ _ _ _ h
  · exact (len_all F).1 _ _ _ _ _ h
/-- what primary does with fuel F -/
def PriC (o : Bool) (F : Nat) : Prop := ∀ (rb : Nat) (s : ByteArray) (deep : Nat) (rest : List UInt8) (w : World), s.size ≤ 4000 → deep ≤ 9000 → LibW rb w → RdW rb s o (some rest) w → 4 * rest.length + 1 ≤ F →
  Calls Tryz.prog 88 #[.pointer (some ⟨rb, 0, none⟩), .int .i64 deep] w (RdTm rb s o (primF o F deep rest) w)
def PartC' (o : Bool) (F : Nat) : Prop := ∀ (rb : Nat) (s : ByteArray) (deep : Nat) (rest : List UInt8) (w : World), s.size ≤ 4000 → deep ≤ 9000 → LibW rb w → RdW rb s o (some rest) w → 4 * rest.length + 2 ≤ F →
  Calls Tryz.prog 138 #[.pointer (some ⟨rb, 0, none⟩), .int .i64 deep] w (RdTm rb s o (partF o F deep rest) w)
def TerC (F : Nat) : Prop := ∀ (rb : Nat) (s : ByteArray) (level : Int) (deep : Nat) (rest : List UInt8) (w : World), s.size ≤ 4000 → 0 ≤ level → level ≤ 3 → deep ≤ 9000 → LibW rb w → RdW rb s true (some rest) w → 4 * rest.length + 2 ≤ F →
  Calls Tryz.prog 57 #[.pointer (some ⟨rb, 0, none⟩), .int .i64 level, .int .i64 deep] w (RdTm rb s true (termF true F level deep rest) w)
set_option maxRecDepth 100000 in
set_option maxHeartbeats 1000000 in
theorem rdpart (o : Bool) (F : Nat) (hP : o = false → PriC false F) (hT : o = true → TerC F) : PartC' o F := by
  intro rb s deep rest w hs hdeep hL h hF
  have hbox : ∃ n : Nat, BoxT w rb (.string s) (.int .i64 n) (.int .i64 (-1)) (.bool o) := by
    obtain ⟨n, _, _, hb⟩ := h.good
    exact ⟨n, hb⟩
  obtain ⟨n, hb⟩ := hbox
  have hlt := hb.lt
  have H := Lib.hid h
  have HL := Lib.hid hL
  obtain ⟨c0, c1, c2, c3, _⟩ := hb
  clear h hL c0 c1 c2
  cases o with
  | true =>
    have HC := Lib.hid (hT rfl)
    clear hP hT
    go_enter Tryz.func138, Tryz.ntmps138
    go_wp2_with fail
    refine (HC.out rb s 3 deep rest _ hs (by decide) (by decide) hdeep (HL.out.ext (Ext.alloc _ _)) (H.out.ext (Ext.alloc _ _)) hF).mono ?_
    rintro e w1 ⟨t, ta, tc, rfl, ho, f1, hr, hX⟩
    have hz := (BoxT.new w (.int .i64 0) (.int .i64 0) (.string ⟨#[]⟩) (.slice none 0 0) 25 rfl).fr f1 (by omega)
    have HZ := Lib.hid hz
    have HO := Lib.hid ho
    have F1 := Lib.hid ((Fr.of_ext (M := fun k => k = rb) (Ext.alloc w (.cells #[.int .i64 0, .int .i64 0, .string ⟨#[]⟩, .slice none 0 0] 25))).trans f1)
    have HR := Lib.hid hr
    have HX := Lib.hid hX
    have lz := hz.lt
    obtain ⟨z0, z1, z2, z3, y0, y1, y2, y3⟩ := hz
    clear ho f1 hr hX
    go_wp2_with fail
    exact rd_ret (p := 4) (T := 25) (b := w.heap.size) (t := t) (ta := ta) (tc := tc) (by kernel_rfl) (fun _ => by kernel_rfl) (fun _ => by kernel_rfl) rfl rfl HZ.out (Nat.le_refl _) (by omega) F1.out HO.out (fun k hk => by have hk : (w.alloc _).heap.size ≤ k := hk; simp at hk; omega) HR.out HX.out
  | false =>
    have HC := Lib.hid (hP rfl)
    clear hP hT
    go_enter Tryz.func138, Tryz.ntmps138
    go_wp2_with fail
    refine (HC.out rb s deep rest _ hs hdeep (HL.out.ext (Ext.alloc _ _)) (H.out.ext (Ext.alloc _ _)) (by omega)).mono ?_
    rintro e w1 ⟨t, ta, tc, rfl, ho, f1, hr, hX⟩
    have hz := (BoxT.new w (.int .i64 0) (.int .i64 0) (.string ⟨#[]⟩) (.slice none 0 0) 25 rfl).fr f1 (by omega)
    have HZ := Lib.hid hz
    have HO := Lib.hid ho
    have F1 := Lib.hid ((Fr.of_ext (M := fun k => k = rb) (Ext.alloc w (.cells #[.int .i64 0, .int .i64 0, .string ⟨#[]⟩, .slice none 0 0] 25))).trans f1)
    have HR := Lib.hid hr
    have HX := Lib.hid hX
    have lz := hz.lt
    obtain ⟨z0, z1, z2, z3, y0, y1, y2, y3⟩ := hz
    clear ho f1 hr hX
    go_wp2_with fail
    exact rd_ret (p := 4) (T := 25) (b := w.heap.size) (t := t) (ta := ta) (tc := tc) (by kernel_rfl) (fun _ => by kernel_rfl) (fun _ => by kernel_rfl) rfl rfl HZ.out (Nat.le_refl _) (by omega) F1.out HO.out (fun k hk => by have hk : (w.alloc _).heap.size ≤ k := hk; simp at hk; omega) HR.out HX.out
/-- what is read behind the elements of a list -/
noncomputable def tailF (o : Bool) (G deep : Nat) (acc : List Tm) : List UInt8 → Option (Tm × List UInt8)
  | c :: r => if c = 124 then (match partF o G (deep + acc.length) r with | some (tl, d :: r') => if d = 93 then some (chainT acc tl, r') else none | _ => none) else if c = 93 then some (chainT acc (sT nilN []), r) else none
  | [] => none
theorem list_none {o : Bool} {G deep : Nat} {acc : List Tm} {rest : List UInt8} (h : partF o G (deep + 1 + acc.length) rest = none) : listF o (G + 1) deep acc rest = none := by
  unfold partF at h
  rw [listF, h]
theorem list_more {o : Bool} {G deep : Nat} {acc : List Tm} {rest r : List UInt8} {k : Tm} (h : partF o G (deep + 1 + acc.length) rest = some (k, 44 :: r)) : listF o (G + 1) deep acc rest = listF o G deep (acc ++ [k]) r := by
  unfold partF at h
  rw [listF, h]
  simp
theorem list_last {o : Bool} {G deep : Nat} {acc : List Tm} {rest r : List UInt8} {k : Tm} (h : partF o G (deep + 1 + acc.length) rest = some (k, r)) (hr : r.head? ≠ some 44) : listF o (G + 1) deep acc rest = tailF o G deep (acc ++ [k]) r := by
  unfold partF at h
  rw [listF, h]
  cases r with
  | nil => rfl
  | cons c r =>
    have h44 : ¬ c = 44 := by simpa using hr
    simp only [if_neg h44, tailF, partF, List.length_append, List.length_cons, List.length_nil]
    rw [show deep + (acc.length + (0 + 1)) = deep + 1 + acc.length by omega]
    by_cases h124 : c = 124
    · rw [if_pos h124, if_pos h124]
      cases (if o = true then termF o G 3 (deep + 1 + acc.length) r else primF o G (deep + 1 + acc.length) r) with
      | none => rfl
      | some p => obtain ⟨tl, q⟩ := p; cases q <;> rfl
    · rw [if_neg h124, if_neg h124]
end Go.Proofs.YtognkaebiafgbaaGreatDoor
