/-
  RenumberTerms on both sides.
-/
import Derived.Test.YtagaciadcgijoaaRenum
namespace Go.Proofs.Ytagaciadcgijoaa
open Go.RowKit
set_option linter.unusedVariables false

theorem owns_empty {F : Nat → Prop} {w : World} {b : Nat} (hb : b = w.heap.size) (hF : F b) : OwnS F [] (.slice (some ⟨b, 0, none⟩) 0 0) (w.alloc (.cells #[] 25)) := by
  subst hb
  refine ⟨[], ⟨rfl, .inr ⟨w.heap.size, 0, #[], rfl, Nat.zero_le _, ?_, by simp, by decide, rfl, rfl⟩⟩, by intro g hg; simp [Value.ownBlock] at hg; subst hg; exact hF, by simp [Tm.oflat]⟩
  show (w.heap.push _)[w.heap.size]? = _
  simp
def notV (t : Tm) : Bool := !validF t
theorem any_notV (ts : List Tm) : (!(ts.any notV)) = allVF ts := by
  unfold allVF
  induction ts with
  | nil => rfl
  | cons t ts ih =>
    simp only [List.any_cons, List.all_cons, Bool.not_or, ih, notV, Bool.not_not]
set_option maxHeartbeats 400000 in
theorem implallValid1 (t : Tm) (v : Value) (S : Nat → Prop) (w : World) (ht : Tm.at S w t v) :
    Calls Try.prog 112 #[v] w fun e w' => e = .returned (.bool (notV t)) ∧ Ext w w' := by
  have HT := Lib.hid (fun w' (e' : Ext w w') => implTermValid t v S w' (Tm.at_ext e' ht))
  obtain ⟨a, c, rfl⟩ := at_form ht
  clear ht
  go_enter Try.func112, Try.ntmps112
  go_wp2_with fail
  refine (HT.out _ (Ext.alloc _ _)).mono ?_
  rintro e w1 ⟨rfl, q⟩
  go_wp2_with fail
  go_ret
  exact ⟨rfl, (Ext.alloc _ _).trans q⟩
set_option maxHeartbeats 400000 in
theorem implallValid (ts : List Tm) (v : Value) (S : Nat → Prop) (w : World) (ht : Tm.sl S w ts v) :
    Calls Try.prog 71 #[v] w fun e w' => e = .returned (.bool (allVF ts)) ∧ Ext w w' := by
  have HT := Lib.hid (containsAny 112 notV (fun _ _ => by kernel_rfl) implallValid1 ts v S w ht)
  have HA := Lib.hid (any_notV ts)
  obtain ⟨a, cap, rfl, h1, h2, h3, h4⟩ := ht
  clear h4
  go_enter Try.func71, Try.ntmps71
  go_wp2_with fail
  refine HT.out.mono ?_
  rintro e w1 ⟨rfl, q⟩
  go_wp2_with fail
  go_ret
  exact ⟨retB HA.out, q⟩
/-- what RenumberTerms answers -/
def rnF (ts : List Tm) : List Tm := if allVF ts = true then renF ts else []
/-- a list of terms that shares nothing, and a sign -/
def LsBO (ts : List Tm) (b : Bool) (w : World) (e : Ending) (w' : World) : Prop := ∃ a c, e = .returned (.tuple #[.slice a ts.length c, .bool b]) ∧ OwnS (fun b => w.heap.size ≤ b) ts (.slice a ts.length c) w' ∧ Ext w w'

set_option maxHeartbeats 400000 in
theorem implRenumberTerms (ts : List Tm) (v : Value) (S : Nat → Prop) (w : World) (hl : allVF ts = true → Tm.szL ts ≤ 1048576) (ht : Tm.sl S w ts v) :
    Calls Try.prog 21 #[v] w (LsBO (rnF ts) (allVF ts) w) := by
  have HV := Lib.hid (implallValid ts v S w ht)
  have HR := Lib.hid (fun (h : allVF ts = true) w' (e' : Ext w w') => implrenumbered ts v S w' (hl h) (allV_shape h) (Tm.sl_ext e' ht))
  obtain ⟨a, cap, rfl, h1, h2, h3, h4⟩ := ht
  clear h4 hl
  cases hv : allVF ts
  · have HF : Hid (rnF ts = []) := Lib.hid (by unfold rnF; rw [hv]; rfl)
    have HA := Lib.hid hv
    clear hv
    go_enter Try.func21, Try.ntmps21
    go_wp2_with fail
    refine HV.out.mono ?_
    rw [HA.out]
    rintro e w1 ⟨rfl, q⟩
    go_wp2_with fail
    go_ret2
    rw [HF.out]
    exact ⟨none, 0, rfl, OwnS.nil _ _, q⟩
  · have HF : Hid (rnF ts = renF ts) := Lib.hid (by unfold rnF; rw [hv]; rfl)
    have HA := Lib.hid hv
    clear hv
    go_enter Try.func21, Try.ntmps21
    go_wp2_with fail
    refine HV.out.mono ?_
    rw [HA.out]
    rintro e w1 ⟨rfl, q⟩
    have hz := Below.size q
    have Q := Lib.hid q
    clear q
    go_wp2_with fail
    refine (HR.out HA.out _ Q.out).mono ?_
    rintro e w2 ⟨a2, c2, rfl, ho, q⟩
    have O := Lib.hid ho
    have Q2 := Lib.hid q
    clear ho q
    go_wp2_with fail
    go_ret2
    rw [HF.out]
    exact ⟨a2, c2, rfl, O.out.mono (M := fun _ => False) (fun b hb => by omega) (Fr.refl _ _) (fun _ _ h => h), Q.out.trans Q2.out⟩

/-- the first k terms are valid -/
def AllTo (k : Nat) (ts : List Tm) : Prop := ∀ (j : Nat) (t : Tm), j < k → ts[j]? = some t → validF t = true
theorem allTo_succ {k : Nat} {ts : List Tm} {t : Tm} (h : AllTo k ts) (ht : ts[k]? = some t) (hg : validF t = true) : AllTo (k + 1) ts := by
  intro j u hj hu
  by_cases e : j = k
  · subst e; rw [ht] at hu; cases hu; exact hg
  · exact h j u (by omega) hu
theorem allTo_all {k : Nat} {ts : List Tm} (h : AllTo k ts) (hk : ts.length ≤ k) : allVF ts = true := by
  unfold allVF
  rw [List.all_eq_true]
  intro t ht
  obtain ⟨j, hj⟩ := List.getElem?_of_mem ht
  exact h j t (by have := (List.getElem?_eq_some_iff.1 hj).1; omega) hj
theorem all_no {ts : List Tm} {j : Nat} {t : Tm} (h : ts[j]? = some t) (hg : validF t = false) : allVF ts = false := by
  unfold allVF
  rw [List.all_eq_false]
  exact ⟨t, List.mem_of_getElem? h, by rw [hg]; simp⟩

set_option maxHeartbeats 1000000 in
theorem specl1All (ts : List Tm) (v : Value) (S : Nat → Prop) (w : World) (ht : Tm.sl S w ts v) :
    Calls Try.prog 69 #[v] w fun e w' => e = .returned (.bool (allVF ts)) ∧ Ext w w' := by
  obtain ⟨a, cap, rfl, h1, h2, h3, h4⟩ := ht
  have H4 := Lib.hid h4
  clear h4
  go_enter Try.func69, Try.ntmps69
  go_wp2_with fail
  go_loopw [3] (fun i wr => ∃ k : Nat, k ≤ ts.length ∧ i = .int .i64 k ∧ Hid (AllTo k ts) ∧ Ext w wr) (fun i _ => ts.length - (intOf i).toNat)
  case atStart => exact ⟨0, Nat.zero_le _, rfl, fun j t h => absurd h (by omega), Ext.refl _⟩
  case round =>
    obtain ⟨k, hk, rfl, HG, he⟩ := hrel
    by_cases hlt : k < ts.length
    · obtain ⟨tk, htk⟩ := getk hlt
      obtain ⟨bb, off, ak, ck, rfl, hSb, c0, c1, c2, c3, hat⟩ := tget H4.out htk
      have HC := Lib.hid (fun w' (e' : Ext wr w') => specTermValid tk _ S w' (Tm.at_ext (he.trans e') hat))
      replace c0 := he.cell c0
      replace c1 := he.cell c1
      replace c2 := he.cell c2
      replace c3 := he.cell c3
      have HTK := Lib.hid htk
      clear htk hat hSb
      cases hg : validF tk
      · have hf : Hid (allVF ts = false) := Lib.hid (all_no HTK.out hg)
        go_wp2_with fail
        refine (HC.out _ (Ext.refl _)).mono ?_
        rw [hg]
        rintro e w1 ⟨rfl, q⟩
        clear hg
        go_wp2_with fail
        go_ret
        exact ⟨retB hf.out.symm, he.trans q⟩
      · have hs := Lib.hid (allTo_succ HG.out HTK.out hg)
        go_wp2_with fail
        refine (HC.out _ (Ext.refl _)).mono ?_
        rw [hg]
        rintro e w1 ⟨rfl, q⟩
        clear hg
        go_wp2_with fail
        go_roundw
        case rel => exact ⟨k + 1, by omega, by go_num, hs, he.trans q⟩
        case measure => simp [intOf]; omega
    · have hf : Hid (allVF ts = true) := Lib.hid (allTo_all HG.out (by omega))
      go_wp2_with fail
      go_ret
      exact ⟨retB hf.out.symm, he⟩

set_option maxRecDepth 100000 in
set_option maxHeartbeats 2000000 in
theorem specl1Renumber (ts : List Tm) (v : Value) (S : Nat → Prop) (w : World) (hl : Tm.szL ts ≤ 1048576) (hsh : shapeL ts 30 = true) (ht : Tm.sl S w ts v) : Calls Try.prog 70 #[v] w (LsO (renF ts) w) := by
  obtain ⟨i0, hi, hz0, hz1, hz2⟩ := info_parts info_term3
  have HI := Lib.hid hi
  have HZ0 := Lib.hid hz0
  have HZ1 := Lib.hid hz1
  have HZ2 := Lib.hid hz2
  have HSH := Lib.hid hsh
  have HL := Lib.hid hl
  have HVE := Lib.hid (varsL_eq ts 30 [] hsh)
  have HRE := Lib.hid (renF_eq hsh)
  obtain ⟨a, cap, rfl, h1, h2, h3, h4⟩ := Tm.sl_bound ht
  have H4 := Lib.hid h4
  clear h4 ht hi hz0 hz1 hz2 hsh hl
  go_enter Try.func70, Try.ntmps70
  go_wp2_with fail
  go_loopw [3, 4] (fun q i wr => ∃ (j : Nat), j ≤ ts.length ∧ i = .int .i64 j ∧ Hid (IntI (fun b => w.heap.size ≤ b) (varsSL (ts.take j) []) q wr) ∧ Ext w wr) (fun _ i _ => ts.length - (intOf i).toNat)
  case atStart => exact ⟨0, Nat.zero_le _, rfl, Lib.hid (IntI.empty rfl (Nat.le_refl _)), Ext.alloc _ _⟩
  case round =>
    obtain ⟨j, hj, rfl, HQ, he⟩ := hrel
    by_cases hlt : j < ts.length
    · obtain ⟨tk, htk⟩ := getk hlt
      obtain ⟨b, off, ak, ck, rfl, hSb, c0, c1, c2, c3, hat⟩ := tget H4.out htk
      replace c0 := he.cell c0
      replace c1 := he.cell c1
      replace c2 := he.cell c2
      replace c3 := he.cell c3
      have V := Lib.hid (Tm.at_ext he hat)
      have HST : Hid ((varsSL (ts.take j) []).length + Tm.sz tk ≤ 1048576) := Lib.hid (by
        have h1 := szL_take htk
        have h2 := varsSL_len (ts.take j) []
        have h3 := HL.out
        simp only [List.length_nil] at h2
        omega)
      have HV := Lib.hid (varsSL_snoc (zs := []) htk)
      have hsz := Below.size he
      clear htk hat hSb
      go_wp2_with fail
      refine (specl1Vars _ tk (Nat.le_refl _) _ _ (varsSL (ts.take j) []) _ (fun b => w.heap.size ≤ b) _ V.out HQ.out (fun b h => by omega) (fun b h _ h2 => by have := h.2; omega) HST.out).mono ?_
      rintro e w2 ⟨v2, rfl, hI, hf⟩
      have I := Lib.hid hI
      have F := Lib.hid hf
      clear hI hf
      go_wp2_with fail
      go_roundw
      case rel => exact ⟨j + 1, by omega, by go_num, Lib.hid (by rw [HV.out]; exact I.out), ((Fr.of_ext he).trans F.out).toExt (fun k hk h => by omega)⟩
      case measure => simp [intOf]; omega
    · have hjl : j = ts.length := by omega
      subst hjl
      have HQ2 := HQ.out
      rw [List.take_of_length_le (Nat.le_refl _), HVE.out] at HQ2
      have hlz := HQ2.form
      obtain ⟨za, zc, rfl⟩ := hlz
      obtain ⟨Z, hZ⟩ : ∃ Z, Z = wr.heap.size := ⟨_, rfl⟩
      have HZS := Lib.hid ((HQ2.bound).zone (Z' := fun b => b < Z) (fun b h => by have := h.2; omega))
      have Q := Lib.hid he
      have hw1 := Below.size he
      clear HQ2 HQ he
      go_wp2_with fail
      go_loopw [5, 6] (fun q i wx => ∃ (j : Nat) (av : Option Addr) (cv : Nat) (us : List Tm), j ≤ ts.length ∧ i = .int .i64 j ∧ q = .slice av us.length cv ∧ Hid (us = renSL (varsL ts []) (ts.take j)) ∧
          Hid (OwnS (fun b => Z ≤ b ∧ b < wx.heap.size) us (.slice av us.length cv) wx) ∧ Ext w wx ∧ Z ≤ wx.heap.size ∧ Hid (IntI (fun b => b < Z) (varsL ts []) (.slice za (varsL ts []).length zc) wx)) (fun _ i _ => ts.length - (intOf i).toNat)
      case atStart => exact ⟨0, some ⟨wr.heap.size, 0, none⟩, 0, [], Nat.zero_le _, rfl, rfl, Lib.hid rfl, Lib.hid (owns_empty rfl ⟨by omega, by simp⟩), Q.out.trans (Ext.alloc _ _), by simp; omega, Lib.hid (IntI.ext HZS.out (Ext.alloc _ _))⟩
      case round =>
        obtain ⟨j, av, cv, us, hj, rfl, rfl, HU, HA, he, hsz, HZW⟩ := hrel
        have hlen : Hid (us.length = j) := Lib.hid (by rw [HU.out, renSL_len]; simp; omega)
        by_cases hlt : j < ts.length
        · obtain ⟨tk, htk⟩ := getk hlt
          have hlu : us.length < 1048576 := by have := hlen.out; omega
          obtain ⟨b, off, ak, ck, rfl, hSb, c0, c1, c2, c3, hat⟩ := tget H4.out htk
          replace c0 := he.cell c0
          replace c1 := he.cell c1
          replace c2 := he.cell c2
          replace c3 := he.cell c3
          have V := Lib.hid (Tm.at_ext he hat)
          have HTK : Hid (shapeF tk 30 = true) := Lib.hid (shapeL_mem HSH.out (List.mem_of_getElem? htk))
          have HNX := Lib.hid (renSL_snoc (varsL ts []) htk)
          clear htk hat hSb
          go_wp2_with fail
          refine (specl1Rename (varsL ts []) _ tk (Nat.le_refl _) _ _ _ _ 30 HTK.out V.out HZW.out.ints).mono ?_
          rintro e w2 ⟨a2, q2, rfl, ho, q⟩
          have E2 := Lib.hid q
          have HO := Lib.hid ho
          have hs2 := Below.size E2.out
          have A2 := Lib.hid (HA.out.ext E2.out)
          have ZW2 := Lib.hid (IntI.ext HZW.out E2.out)
          clear ho q c0 c1 c2 c3
          go_wp2_with (at_builtin; refine wpList_append_ow (w0 := wr) (w1 := w2) rfl (.tmp 27) (.tmp 34) 23 rfl Z i0 Try.underlying23 HI.out HZ0.out HZ1.out HZ2.out _ us (renS (varsL ts []) tk) a2 _ rfl A2.out rfl HO.out hs2 hsz hlu (by simp) ?_; intro av2 cv2 w3 hA3 hf3; have A3 := Lib.hid hA3; have F3 := Lib.hid hf3; clear hA3 hf3)
          have hs3 := F3.out.size
          go_roundw
          case rel =>
            have hl2 : (us ++ [renS (varsL ts []) tk]).length = us.length + 1 := by simp
            exact ⟨j + 1, av2, cv2, us ++ [renS (varsL ts []) tk], by omega, by go_num, by rw [hl2], Lib.hid (by rw [HU.out, HNX.out]), Lib.hid (by rw [hl2]; exact A3.out), ((Fr.of_ext (he.trans E2.out)).trans F3.out).toExt (fun k hk h => by omega), by omega, Lib.hid (ZW2.out.keep F3.out (fun k _ h hz => by omega))⟩
          case measure => simp [intOf]; omega
        · have hjl : j = ts.length := by omega
          subst hjl
          have hus : us = renF ts := by rw [HU.out, List.take_of_length_le (Nat.le_refl _), HRE.out]
          subst hus
          have A4 := Lib.hid (HA.out.mono (M := fun _ => False) (F' := fun b => w.heap.size ≤ b) (fun b hb => by omega) (Fr.refl _ _) (fun _ _ h => h))
          go_wp2_with fail
          go_ret
          exact ⟨_, _, rfl, A4.out, he⟩

set_option maxHeartbeats 400000 in
theorem specRenumberTerms (ts : List Tm) (v : Value) (S : Nat → Prop) (w : World) (hl : allVF ts = true → Tm.szL ts ≤ 1048576) (ht : Tm.sl S w ts v) :
    Calls Try.prog 19 #[v] w (LsBO (rnF ts) (allVF ts) w) := by
  have HV := Lib.hid (specl1All ts v S w ht)
  have HR := Lib.hid (fun (h : allVF ts = true) w' (e' : Ext w w') => specl1Renumber ts v S w' (hl h) (allV_shape h) (Tm.sl_ext e' ht))
  obtain ⟨a, cap, rfl, h1, h2, h3, h4⟩ := ht
  clear h4 hl
  cases hv : allVF ts
  · have HF : Hid (rnF ts = []) := Lib.hid (by unfold rnF; rw [hv]; rfl)
    have HA := Lib.hid hv
    clear hv
    go_enter Try.func19, Try.ntmps19
    go_wp2_with fail
    refine HV.out.mono ?_
    rw [HA.out]
    rintro e w1 ⟨rfl, q⟩
    have hz := Below.size q
    go_wp2_with fail
    go_ret2
    rw [HF.out]
    exact ⟨_, _, rfl, owns_empty rfl hz, q.trans (Ext.alloc _ _)⟩
  · have HF : Hid (rnF ts = renF ts) := Lib.hid (by unfold rnF; rw [hv]; rfl)
    have HA := Lib.hid hv
    clear hv
    go_enter Try.func19, Try.ntmps19
    go_wp2_with fail
    refine HV.out.mono ?_
    rw [HA.out]
    rintro e w1 ⟨rfl, q⟩
    have hz := Below.size q
    have Q := Lib.hid q
    clear q
    go_wp2_with fail
    refine (HR.out HA.out _ Q.out).mono ?_
    rintro e w2 ⟨a2, c2, rfl, ho, q⟩
    have O := Lib.hid ho
    have Q2 := Lib.hid q
    clear ho q
    go_wp2_with fail
    go_ret2
    rw [HF.out]
    exact ⟨a2, c2, rfl, O.out.mono (M := fun _ => False) (fun b hb => by omega) (Fr.refl _ _) (fun _ _ h => h), Q.out.trans Q2.out⟩

end Go.Proofs.Ytagaciadcgijoaa
