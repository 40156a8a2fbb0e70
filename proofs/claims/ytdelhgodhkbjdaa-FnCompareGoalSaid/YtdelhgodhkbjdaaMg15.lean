/-
  The variables of a term, in the program and in the reference.
-/
import Derived.Test.YtdelhgodhkbjdaaMg10
import Derived.Test.YtdelhgodhkbjdaaMg14
namespace Go.Proofs.Ytdelhgodhkbjdaa
open Go.RowKit
set_option linter.unusedVariables false

theorem info_int : (Try.prog.info? 3).map (fun i => (i.zero, i.size, i.bytes)) = some (some (.int .i64 0), 1, 8) := by kernel_rfl

def AddC (t : Tm) : Prop := ∀ (tv v : Value) (zs : List Int) (S Z : Nat → Prop) (w : World), Tm.at S w t tv → IntI Z zs v w → (∀ b, w.heap.size ≤ b → Z b) → (∀ b, S b → b < w.heap.size → ¬ Z b) → zs.length + Tm.sz t ≤ 1048576 →
  Calls Try.prog 56 #[tv, v] w fun e w' => ∃ v', e = .returned v' ∧ IntI Z (varsF t zs) v' w' ∧ Fr Z w w'

set_option maxRecDepth 100000 in
set_option maxHeartbeats 2000000 in
theorem impladdVars : ∀ (m : Nat) (t : Tm), Tm.sz t ≤ m → AddC t := by
  intro m
  induction m with
  | zero => intro t hm; have := Tm.sz_pos t; omega
  | succ m ih =>
    intro t hm tv v zs S Z w ht hi hZ hSZ hlen
    obtain ⟨k, n, s, ks⟩ := t
    have IH := Lib.hid (show ∀ (j : Nat) (u : Tm), ks[j]? = some u → AddC u from fun j u h => ih u (by
      have := kid_lt (k := k) (n := n) (s := s) (ks := ks) h; omega))
    clear ih hm
    have hsz : Tm.sz (.mk k n s ks) = 1 + Tm.szL ks := by simp only [Tm.sz]
    rw [hsz] at hlen
    obtain ⟨i0, hi0, hz0, hz1, hz2⟩ := info_parts info_int
    have HI := Lib.hid hi0
    have HZ0 := Lib.hid hz0
    have HZ1 := Lib.hid hz1
    have HZ2 := Lib.hid hz2
    obtain ⟨hs1, sv, rfl, a, cap, rfl, h1, h2, h3, h4⟩ := Tm.at_iff.1 (Tm.at_bound ht)
    obtain ⟨av, cv, rfl⟩ := hi.form
    have H4 : Hid (ks = [] ∨ ∃ b off, a = some ⟨b, off, none⟩ ∧ (S b ∧ b < w.heap.size) ∧ Tm.row (fun b => S b ∧ b < w.heap.size) w b off ks) := Lib.hid h4
    have HZ := Lib.hid hZ
    have HSZ := Lib.hid hSZ
    have I1 := Lib.hid ((hi.bound.zone (Z' := fun b => Z b ∧ b ≠ w.heap.size) (fun b h => ⟨h.1, by omega⟩)).ext (Ext.alloc w (.cells #[.int .i64 k, .int .i64 n, .string s, .slice a ks.length cap] 25)))
    have F1 := Lib.hid (Fr.refl (fun b => Z b ∧ b ≠ w.heap.size) (w.alloc (.cells #[.int .i64 k, .int .i64 n, .string s, .slice a ks.length cap] 25)))
    clear ht hi hi0 hz0 hz1 hz2 h4 hZ hSZ hsz
    simp only [Tm.kind, Tm.n, Tm.name, Tm.kids] at h1 h2 h3 hs1 ⊢
    by_cases hk : k = 1
    · subst hk
      go_enter Try.func56, Try.ntmps56
      go_wp2_with fail
      refine (slicesContainsI zs _ n _ I1.out.ints).mono ?_
      rintro e w' ⟨rfl, rfl⟩
      cases hc : hasI zs n
      · have HC := Lib.hid hc
        clear hc
        go_wp2_with (at_builtin; refine wpList_append_int rfl (.tmp 17) (.tmp 20) 39 rfl (fun b => Z b ∧ b ≠ w.heap.size) i0 Try.underlying39 HI.out HZ0.out HZ1.out HZ2.out _ zs n rfl I1.out rfl (by omega) (fun b hb => ⟨HZ.out b (by simp at hb; omega), by simp at hb; omega⟩) (by simp) ?_; intro av2 cv2 w2 hI hf; have I1 := Lib.hid hI; have F1 := Lib.hid hf; have b3 := hf.cell (k := w.heap.size) (o := 3) (v := .slice a ks.length cap) (fun h => h.2 rfl) (by go_simp); clear hI hf)
        have HV : Hid (varsF (.mk 1 n s ks) zs = varsL ks (zs ++ [n])) := Lib.hid (by simp only [varsF]; rw [HC.out]; rfl)
        have hl1 : (zs ++ [n]).length ≤ zs.length + 1 := by simp
        go_loopw [1, 25] (fun l i wr => ∃ (j : Nat) (av : Option Addr) (cv : Nat) (us : List Int), j ≤ ks.length ∧ i = .int .i64 j ∧ l = .slice av us.length cv ∧ Hid (us = varsL (ks.take j) (zs ++ [n])) ∧ Hid (IntI (fun b => Z b ∧ b ≠ w.heap.size) us (.slice av us.length cv) wr) ∧ Hid (Fr (fun b => Z b ∧ b ≠ w.heap.size) (w.alloc (.cells #[.int .i64 1, .int .i64 n, .string s, .slice a ks.length cap] 25)) wr)) (fun _ i _ => ks.length - (intOf i).toNat)
        case atStart => exact ⟨0, av2, cv2, zs ++ [n], Nat.zero_le _, rfl, (by simp), Lib.hid (by simp [varsL]), Lib.hid (by rw [List.length_append]; exact I1.out), F1⟩
        case round =>
          obtain ⟨j, av, cv, us, hj, rfl, rfl, HU, I2, F2⟩ := hrel
          have hul : us.length ≤ (zs ++ [n]).length + Tm.szL (ks.take j) := by rw [HU.out]; exact varsL_len _ _
          have hsz2 : w.heap.size + 1 ≤ wr.heap.size := by have := F2.out.size; simp at this; omega
          by_cases hlt : j < ks.length
          · obtain ⟨tk, htk⟩ := getk hlt
            obtain ⟨b, off, ak, ck, rfl, hSb, k1, k2, k3, k4, hat⟩ := tget H4.out htk
            have hnz : ¬ (Z b ∧ b ≠ w.heap.size) := fun h => HSZ.out b hSb.1 hSb.2 h.1
            have F0 := Lib.hid ((Fr.alloc w (.cells #[.int .i64 1, .int .i64 n, .string s, .slice (some ⟨b, off, none⟩) ks.length cap] 25)).trans F2.out)
            have k1 := F0.out.cell hnz k1
            have k2 := F0.out.cell hnz k2
            have k3 := F0.out.cell hnz k3
            have k4 := F0.out.cell hnz k4
            have V := Lib.hid (Tm.at_ext (Ext.alloc wr (.cells #[.int .i64 tk.kind, .int .i64 tk.n, .string tk.name, .slice ak tk.kids.length ck] 25)) (F0.out.at hat (fun k hk h => HSZ.out k hk.1 hk.2 h.1)))
            have hst := szL_take htk
            have HC := Lib.hid (IH.out j tk htk)
            have HN := Lib.hid (show varsL (ks.take (j + 1)) (zs ++ [n]) = varsF tk us by rw [varsL_snoc htk, HU.out])
            clear htk hat hSb
            go_wp2_with fail
            refine (HC.out _ _ us _ (fun b => Z b ∧ b ≠ w.heap.size) _ V.out (I2.out.ext (Ext.alloc _ _)) (fun b hb => ⟨HZ.out b (by simp at hb; omega), by simp at hb; omega⟩) (fun b hb _ h => HSZ.out b hb.1 hb.2 h.1) (by omega)).mono ?_
            rintro e w3 ⟨v3, rfl, hI3, hf3⟩
            obtain ⟨a3, c3, rfl⟩ := hI3.form
            have I3 := Lib.hid hI3
            have F3 := Lib.hid (F2.out.trans ((Fr.alloc _ _).trans hf3))
            clear hI3 hf3
            go_wp2_with fail
            go_roundw
            case rel => exact ⟨j + 1, a3, c3, varsF tk us, by omega, by go_num, rfl, Lib.hid HN.out.symm, I3, F3⟩
            case measure => simp [intOf]; omega
          · have hus : us = varsF (.mk 1 n s ks) zs := by rw [HV.out, HU.out, List.take_of_length_le (by omega)]
            have HUS := Lib.hid hus
            clear hus
            go_wp2_with fail
            go_ret
            refine ⟨_, rfl, ?_, ((Fr.alloc _ _).trans F2.out).mono (fun k _ h => h.1)⟩
            rw [← HUS.out]
            exact I2.out.zone (fun b h => h.1)
      · have HC := Lib.hid hc
        clear hc
        go_wp2_with fail
        have HV : Hid (varsF (.mk 1 n s ks) zs = varsL ks (zs)) := Lib.hid (by simp only [varsF]; rw [HC.out]; rfl)
        have hl1 : (zs).length ≤ zs.length + 1 := by simp
        go_loopw [1, 25] (fun l i wr => ∃ (j : Nat) (av : Option Addr) (cv : Nat) (us : List Int), j ≤ ks.length ∧ i = .int .i64 j ∧ l = .slice av us.length cv ∧ Hid (us = varsL (ks.take j) (zs)) ∧ Hid (IntI (fun b => Z b ∧ b ≠ w.heap.size) us (.slice av us.length cv) wr) ∧ Hid (Fr (fun b => Z b ∧ b ≠ w.heap.size) (w.alloc (.cells #[.int .i64 1, .int .i64 n, .string s, .slice a ks.length cap] 25)) wr)) (fun _ i _ => ks.length - (intOf i).toNat)
        case atStart => exact ⟨0, av, cv, zs, Nat.zero_le _, rfl, rfl, Lib.hid (by simp [varsL]), I1, F1⟩
        case round =>
          obtain ⟨j, av, cv, us, hj, rfl, rfl, HU, I2, F2⟩ := hrel
          have hul : us.length ≤ (zs).length + Tm.szL (ks.take j) := by rw [HU.out]; exact varsL_len _ _
          have hsz2 : w.heap.size + 1 ≤ wr.heap.size := by have := F2.out.size; simp at this; omega
          by_cases hlt : j < ks.length
          · obtain ⟨tk, htk⟩ := getk hlt
            obtain ⟨b, off, ak, ck, rfl, hSb, k1, k2, k3, k4, hat⟩ := tget H4.out htk
            have hnz : ¬ (Z b ∧ b ≠ w.heap.size) := fun h => HSZ.out b hSb.1 hSb.2 h.1
            have F0 := Lib.hid ((Fr.alloc w (.cells #[.int .i64 1, .int .i64 n, .string s, .slice (some ⟨b, off, none⟩) ks.length cap] 25)).trans F2.out)
            have k1 := F0.out.cell hnz k1
            have k2 := F0.out.cell hnz k2
            have k3 := F0.out.cell hnz k3
            have k4 := F0.out.cell hnz k4
            have V := Lib.hid (Tm.at_ext (Ext.alloc wr (.cells #[.int .i64 tk.kind, .int .i64 tk.n, .string tk.name, .slice ak tk.kids.length ck] 25)) (F0.out.at hat (fun k hk h => HSZ.out k hk.1 hk.2 h.1)))
            have hst := szL_take htk
            have HC := Lib.hid (IH.out j tk htk)
            have HN := Lib.hid (show varsL (ks.take (j + 1)) (zs) = varsF tk us by rw [varsL_snoc htk, HU.out])
            clear htk hat hSb
            go_wp2_with fail
            refine (HC.out _ _ us _ (fun b => Z b ∧ b ≠ w.heap.size) _ V.out (I2.out.ext (Ext.alloc _ _)) (fun b hb => ⟨HZ.out b (by simp at hb; omega), by simp at hb; omega⟩) (fun b hb _ h => HSZ.out b hb.1 hb.2 h.1) (by omega)).mono ?_
            rintro e w3 ⟨v3, rfl, hI3, hf3⟩
            obtain ⟨a3, c3, rfl⟩ := hI3.form
            have I3 := Lib.hid hI3
            have F3 := Lib.hid (F2.out.trans ((Fr.alloc _ _).trans hf3))
            clear hI3 hf3
            go_wp2_with fail
            go_roundw
            case rel => exact ⟨j + 1, a3, c3, varsF tk us, by omega, by go_num, rfl, Lib.hid HN.out.symm, I3, F3⟩
            case measure => simp [intOf]; omega
          · have hus : us = varsF (.mk 1 n s ks) zs := by rw [HV.out, HU.out, List.take_of_length_le (by omega)]
            have HUS := Lib.hid hus
            clear hus
            go_wp2_with fail
            go_ret
            refine ⟨_, rfl, ?_, ((Fr.alloc _ _).trans F2.out).mono (fun k _ h => h.1)⟩
            rw [← HUS.out]
            exact I2.out.zone (fun b h => h.1)
    · have hk' : (k == 1) = false := by simpa using hk
      go_enter Try.func56, Try.ntmps56
      go_wp2_with fail
      have HV : Hid (varsF (.mk k n s ks) zs = varsL ks (zs)) := Lib.hid (by simp only [varsF]; rw [hk']; rfl)
      have hl1 : (zs).length ≤ zs.length + 1 := by simp
      go_loopw [1, 25] (fun l i wr => ∃ (j : Nat) (av : Option Addr) (cv : Nat) (us : List Int), j ≤ ks.length ∧ i = .int .i64 j ∧ l = .slice av us.length cv ∧ Hid (us = varsL (ks.take j) (zs)) ∧ Hid (IntI (fun b => Z b ∧ b ≠ w.heap.size) us (.slice av us.length cv) wr) ∧ Hid (Fr (fun b => Z b ∧ b ≠ w.heap.size) (w.alloc (.cells #[.int .i64 k, .int .i64 n, .string s, .slice a ks.length cap] 25)) wr)) (fun _ i _ => ks.length - (intOf i).toNat)
      case atStart => exact ⟨0, av, cv, zs, Nat.zero_le _, rfl, rfl, Lib.hid (by simp [varsL]), I1, F1⟩
      case round =>
        obtain ⟨j, av, cv, us, hj, rfl, rfl, HU, I2, F2⟩ := hrel
        have hul : us.length ≤ (zs).length + Tm.szL (ks.take j) := by rw [HU.out]; exact varsL_len _ _
        have hsz2 : w.heap.size + 1 ≤ wr.heap.size := by have := F2.out.size; simp at this; omega
        by_cases hlt : j < ks.length
        · obtain ⟨tk, htk⟩ := getk hlt
          obtain ⟨b, off, ak, ck, rfl, hSb, k1, k2, k3, k4, hat⟩ := tget H4.out htk
          have hnz : ¬ (Z b ∧ b ≠ w.heap.size) := fun h => HSZ.out b hSb.1 hSb.2 h.1
          have F0 := Lib.hid ((Fr.alloc w (.cells #[.int .i64 k, .int .i64 n, .string s, .slice (some ⟨b, off, none⟩) ks.length cap] 25)).trans F2.out)
          have k1 := F0.out.cell hnz k1
          have k2 := F0.out.cell hnz k2
          have k3 := F0.out.cell hnz k3
          have k4 := F0.out.cell hnz k4
          have V := Lib.hid (Tm.at_ext (Ext.alloc wr (.cells #[.int .i64 tk.kind, .int .i64 tk.n, .string tk.name, .slice ak tk.kids.length ck] 25)) (F0.out.at hat (fun k hk h => HSZ.out k hk.1 hk.2 h.1)))
          have hst := szL_take htk
          have HC := Lib.hid (IH.out j tk htk)
          have HN := Lib.hid (show varsL (ks.take (j + 1)) (zs) = varsF tk us by rw [varsL_snoc htk, HU.out])
          clear htk hat hSb
          go_wp2_with fail
          refine (HC.out _ _ us _ (fun b => Z b ∧ b ≠ w.heap.size) _ V.out (I2.out.ext (Ext.alloc _ _)) (fun b hb => ⟨HZ.out b (by simp at hb; omega), by simp at hb; omega⟩) (fun b hb _ h => HSZ.out b hb.1 hb.2 h.1) (by omega)).mono ?_
          rintro e w3 ⟨v3, rfl, hI3, hf3⟩
          obtain ⟨a3, c3, rfl⟩ := hI3.form
          have I3 := Lib.hid hI3
          have F3 := Lib.hid (F2.out.trans ((Fr.alloc _ _).trans hf3))
          clear hI3 hf3
          go_wp2_with fail
          go_roundw
          case rel => exact ⟨j + 1, a3, c3, varsF tk us, by omega, by go_num, rfl, Lib.hid HN.out.symm, I3, F3⟩
          case measure => simp [intOf]; omega
        · have hus : us = varsF (.mk k n s ks) zs := by rw [HV.out, HU.out, List.take_of_length_le (by omega)]
          have HUS := Lib.hid hus
          clear hus
          go_wp2_with fail
          go_ret
          refine ⟨_, rfl, ?_, ((Fr.alloc _ _).trans F2.out).mono (fun k _ h => h.1)⟩
          rw [← HUS.out]
          exact I2.out.zone (fun b h => h.1)

def VarsC (t : Tm) : Prop := ∀ (tv v : Value) (zs : List Int) (S Z : Nat → Prop) (w : World), Tm.at S w t tv → IntI Z zs v w → (∀ b, w.heap.size ≤ b → Z b) → (∀ b, S b → b < w.heap.size → ¬ Z b) → zs.length + Tm.sz t ≤ 1048576 →
  Calls Try.prog 113 #[v, tv] w fun e w' => ∃ v', e = .returned v' ∧ IntI Z (varsS t zs) v' w' ∧ Fr Z w w'

set_option maxRecDepth 100000 in
set_option maxHeartbeats 2000000 in
theorem specl1Vars : ∀ (m : Nat) (t : Tm), Tm.sz t ≤ m → VarsC t := by
  intro m
  induction m with
  | zero => intro t hm; have := Tm.sz_pos t; omega
  | succ m ih =>
    intro t hm tv v zs S Z w ht hi hZ hSZ hlen
    obtain ⟨k, n, s, ks⟩ := t
    have IH := Lib.hid (show ∀ (j : Nat) (u : Tm), ks[j]? = some u → VarsC u from fun j u h => ih u (by
      have := kid_lt (k := k) (n := n) (s := s) (ks := ks) h; omega))
    clear ih hm
    have hsz : Tm.sz (.mk k n s ks) = 1 + Tm.szL ks := by simp only [Tm.sz]
    rw [hsz] at hlen
    obtain ⟨i0, hi0, hz0, hz1, hz2⟩ := info_parts info_int
    have HI := Lib.hid hi0
    have HZ0 := Lib.hid hz0
    have HZ1 := Lib.hid hz1
    have HZ2 := Lib.hid hz2
    obtain ⟨hs1, sv, rfl, a, cap, rfl, h1, h2, h3, h4⟩ := Tm.at_iff.1 (Tm.at_bound ht)
    obtain ⟨av, cv, rfl⟩ := hi.form
    have H4 : Hid (ks = [] ∨ ∃ b off, a = some ⟨b, off, none⟩ ∧ (S b ∧ b < w.heap.size) ∧ Tm.row (fun b => S b ∧ b < w.heap.size) w b off ks) := Lib.hid h4
    have HZ := Lib.hid hZ
    have HSZ := Lib.hid hSZ
    have I1 := Lib.hid ((hi.bound.zone (Z' := fun b => Z b ∧ b ≠ w.heap.size) (fun b h => ⟨h.1, by omega⟩)).ext (Ext.alloc w (.cells #[.int .i64 k, .int .i64 n, .string s, .slice a ks.length cap] 25)))
    have F1 := Lib.hid (Fr.refl (fun b => Z b ∧ b ≠ w.heap.size) (w.alloc (.cells #[.int .i64 k, .int .i64 n, .string s, .slice a ks.length cap] 25)))
    clear ht hi hi0 hz0 hz1 hz2 h4 hZ hSZ hsz
    simp only [Tm.kind, Tm.n, Tm.name, Tm.kids] at h1 h2 h3 hs1 ⊢
    by_cases hk : k = 1
    · subst hk
      have HV : Hid (varsS (.mk 1 n s ks) zs = if hasI zs n = true then zs else zs ++ [n]) := Lib.hid (by simp only [varsS]; rfl)
      go_enter Try.func113, Try.ntmps113
      go_wp2_with fail
      go_loopw [5] (fun i wr => ∃ j : Nat, j ≤ zs.length ∧ i = .int .i64 j ∧ Hid (hasI (zs.take j) n = false) ∧ Hid (Ext (w.alloc (.cells #[.int .i64 1, .int .i64 n, .string s, .slice a ks.length cap] 25)) wr)) (fun i _ => zs.length - (intOf i).toNat)
      case atStart => exact ⟨0, Nat.zero_le _, rfl, Lib.hid (by simp [hasI]), Lib.hid (Ext.refl _)⟩
      case round =>
        obtain ⟨j, hj, rfl, HH, HE⟩ := hrel
        have b1 := HE.out.cell (a := ⟨w.heap.size, 1, none⟩) (v := .int .i64 n) (by go_simp)
        have I2 := Lib.hid (I1.out.ext HE.out)
        have hsz2 : w.heap.size + 1 ≤ wr.heap.size := by have := Below.size HE.out; simp at this; omega
        by_cases hlt : j < zs.length
        · obtain ⟨z, hz⟩ : ∃ z, zs[j]? = some z := ⟨zs[j], by simp [hlt]⟩
          obtain ⟨_, _, hv2, g1, g2, g3, g4⟩ := I2.out.ints
          cases hv2
          rcases g4 with g4 | ⟨b, off, rfl, g5⟩
          · subst g4; simp at hlt
          have c1 := cell_regrown (g5 j z hz)
          have c2 := cell_regrown b1
          have Hz := Lib.hid hz
          clear hz g5
          by_cases he : z = n
          · subst he
            have hf := Lib.hid (has_now Hz.out)
            go_wp2_with fail
            refine region_ext (by kernel_rfl) (by kernel_rfl) ?_
            repeat (quiet_step (fail))
            refine wpQuiet_nil ?_
            intro wq eq
            go_wp2_with fail
            go_ret
            refine ⟨_, rfl, ?_, Fr.of_ext ((Ext.alloc _ _).trans (HE.out.trans eq))⟩
            rw [HV.out, if_pos hf.out]
            exact (I2.out.ext eq).zone (fun b h => h.1)
          · have hf := Lib.hid (has_take Hz.out HH.out he)
            have he' : (z == n) = false := by simpa using he
            go_wp2_with fail
            refine region_ext (by kernel_rfl) (by kernel_rfl) ?_
            repeat (quiet_step (fail))
            refine wpQuiet_nil ?_
            intro wq eq
            go_wp2_with fail
            go_roundw
            case rel => exact ⟨j + 1, by omega, by go_num, hf, Lib.hid (HE.out.trans eq)⟩
            case measure => simp [intOf]; omega
        · have hf := Lib.hid (has_end (by omega) HH.out)
          go_wp2_with (at_builtin; refine wpList_append_int rfl (.tmp 24) (.tmp 27) 39 rfl (fun b => Z b ∧ b ≠ w.heap.size) i0 Try.underlying39 HI.out HZ0.out HZ1.out HZ2.out _ zs n rfl I2.out rfl (by omega) (fun b hb => ⟨HZ.out b (by omega), by omega⟩) (by simp) ?_; intro av2 cv2 w2 hI hf2; have I3 := Lib.hid hI; have F3 := Lib.hid hf2; clear hI hf2)
          go_ret
          refine ⟨_, rfl, ?_, ((Fr.alloc _ _).trans ((Fr.of_ext HE.out).trans F3.out)).mono (fun k _ h => h.1)⟩
          rw [HV.out, if_neg (by rw [hf.out]; simp)]
          exact (show IntI (fun b => Z b ∧ b ≠ w.heap.size) (zs ++ [n]) (.slice av2 (zs.length + 1) cv2) w2 from I3.out).zone (fun b h => h.1)
    · have hk' : (k == 1) = false := by simpa using hk
      have HV : Hid (varsS (.mk k n s ks) zs = varsSL ks zs) := Lib.hid (by simp only [varsS]; rw [hk']; rfl)
      go_enter Try.func113, Try.ntmps113
      go_wp2_with fail
      go_loopw [0, 6] (fun l i wr => ∃ (j : Nat) (av : Option Addr) (cv : Nat) (us : List Int), j ≤ ks.length ∧ i = .int .i64 j ∧ l = .slice av us.length cv ∧ Hid (us = varsSL (ks.take j) zs) ∧ Hid (IntI (fun b => Z b ∧ b ≠ w.heap.size) us (.slice av us.length cv) wr) ∧ Hid (Fr (fun b => Z b ∧ b ≠ w.heap.size) (w.alloc (.cells #[.int .i64 k, .int .i64 n, .string s, .slice a ks.length cap] 25)) wr)) (fun _ i _ => ks.length - (intOf i).toNat)
      case atStart => exact ⟨0, av, cv, zs, Nat.zero_le _, rfl, rfl, Lib.hid (by simp [varsSL]), I1, F1⟩
      case round =>
        obtain ⟨j, av, cv, us, hj, rfl, rfl, HU, I2, F2⟩ := hrel
        have hul : us.length ≤ zs.length + Tm.szL (ks.take j) := by rw [HU.out]; exact varsSL_len _ _
        have hsz2 : w.heap.size + 1 ≤ wr.heap.size := by have := F2.out.size; simp at this; omega
        have b3 := F2.out.cell (k := w.heap.size) (o := 3) (v := .slice a ks.length cap) (fun h => h.2 rfl) (by go_simp)
        by_cases hlt : j < ks.length
        · obtain ⟨tk, htk⟩ := getk hlt
          obtain ⟨b, off, ak, ck, rfl, hSb, k1, k2, k3, k4, hat⟩ := tget H4.out htk
          have hnz : ¬ (Z b ∧ b ≠ w.heap.size) := fun h => HSZ.out b hSb.1 hSb.2 h.1
          have F0 := Lib.hid ((Fr.alloc w (.cells #[.int .i64 k, .int .i64 n, .string s, .slice (some ⟨b, off, none⟩) ks.length cap] 25)).trans F2.out)
          have k1 := F0.out.cell hnz k1
          have k2 := F0.out.cell hnz k2
          have k3 := F0.out.cell hnz k3
          have k4 := F0.out.cell hnz k4
          have V := Lib.hid (F0.out.at hat (fun k hk h => HSZ.out k hk.1 hk.2 h.1))
          have hst := szL_take htk
          have HC := Lib.hid (IH.out j tk htk)
          have HN := Lib.hid (show varsSL (ks.take (j + 1)) zs = varsS tk us by rw [varsSL_snoc htk, HU.out])
          clear htk hat hSb
          go_wp2_with fail
          refine (HC.out _ _ us _ (fun b => Z b ∧ b ≠ w.heap.size) _ V.out I2.out (fun b hb => ⟨HZ.out b (by omega), by omega⟩) (fun b hb _ h => HSZ.out b hb.1 hb.2 h.1) (by omega)).mono ?_
          rintro e w3 ⟨v3, rfl, hI3, hf3⟩
          obtain ⟨a3, c3, rfl⟩ := hI3.form
          have I3 := Lib.hid hI3
          have F3 := Lib.hid (F2.out.trans hf3)
          clear hI3 hf3
          go_wp2_with fail
          go_roundw
          case rel => exact ⟨j + 1, a3, c3, varsS tk us, by omega, by go_num, rfl, Lib.hid HN.out.symm, I3, F3⟩
          case measure => simp [intOf]; omega
        · have hus : us = varsS (.mk k n s ks) zs := by rw [HV.out, HU.out, List.take_of_length_le (by omega)]
          have HUS := Lib.hid hus
          clear hus
          go_wp2_with fail
          go_ret
          refine ⟨_, rfl, ?_, ((Fr.alloc _ _).trans F2.out).mono (fun k _ h => h.1)⟩
          rw [← HUS.out]
          exact I2.out.zone (fun b h => h.1)

theorem valid_sz {t : Tm} (h : validF t = true) : Tm.sz t ≤ 120 := by
  rw [valid_eq] at h
  simp at h
  exact h.2
theorem valid_shape {t : Tm} (h : validF t = true) : shapeF t 30 = true := by
  rw [valid_eq] at h
  simp at h
  exact h.1
/-- what TermVars returns -/
def tvarsF (t : Tm) : List Int := if validF t = true then varsF t [] else []
def IntsOut (zs : List Int) (w : World) (e : Ending) (w' : World) : Prop := ∃ v, e = .returned v ∧ IntI (fun b => w.heap.size ≤ b) zs v w' ∧ Ext w w'

set_option maxRecDepth 100000 in
set_option maxHeartbeats 1000000 in
theorem implTermVars (t : Tm) (v : Value) (S : Nat → Prop) (w : World) (ht : Tm.at S w t v) : Calls Try.prog 23 #[v] w (IntsOut (tvarsF t) w) := by
  obtain ⟨a0, c0, rfl⟩ := at_form ht
  have ea := Ext.alloc w (.cells #[.int .i64 t.kind, .int .i64 t.n, .string t.name, .slice a0 t.kids.length c0] 25)
  have V := Lib.hid (Tm.at_ext ea (Tm.at_bound ht))
  clear ht
  cases hv : validF t
  all_goals
    have HV := Lib.hid hv
    clear hv
    go_enter Try.func23, Try.ntmps23
    go_wp2_with fail
    refine (implTermValid t _ _ _ V.out).mono ?_
    rw [HV.out]
    rintro e w1 ⟨rfl, e1⟩
    obtain ⟨b0, b1, b2, b3, _, _, _, _⟩ := (BoxT.new w (.int .i64 t.kind) (.int .i64 t.n) (.string t.name) (.slice a0 t.kids.length c0) 25 rfl).ext e1
    have V := Lib.hid (Tm.at_ext e1 V.out)
    have hs : w.heap.size < w1.heap.size := by have := Below.size e1; simp at this; omega
    have E := Lib.hid (ea.trans e1)
    clear e1
    go_wp2_with fail
  · go_ret
    exact ⟨_, rfl, by unfold tvarsF; rw [HV.out]; exact IntI.nil _ _, E.out⟩
  · have hz := valid_sz HV.out
    refine (impladdVars _ t (Nat.le_refl _) _ _ [] _ (fun b => w1.heap.size ≤ b) _ V.out (IntI.nil _ _) (fun b h => h) (fun b h _ h2 => by have := h.2; omega) (by simp; omega)).mono ?_
    rintro e w2 ⟨v2, rfl, hI, hf⟩
    have I := Lib.hid hI
    have F := Lib.hid hf
    clear hI hf
    go_wp2_with fail
    go_ret
    exact ⟨_, rfl, by unfold tvarsF; rw [HV.out]; exact I.out.zone (fun b h => by omega), E.out.trans (F.out.toExt (fun k hk h => by omega))⟩

end Go.Proofs.Ytdelhgodhkbjdaa
