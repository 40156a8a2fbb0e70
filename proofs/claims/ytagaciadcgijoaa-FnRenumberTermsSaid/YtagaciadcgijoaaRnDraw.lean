/-
  What DrawRenumberTerms draws: a list of terms; and the comparison of two lists of terms.
-/
import Derived.Test.YtagaciadcgijoaaDraws
import Derived.Test.YtagaciadcgijoaaSame2
namespace Go.Proofs.Ytagaciadcgijoaa
open Go.RowKit Go.Sort
set_option linter.unusedVariables false

theorem info_termd : (Try.prog.info? 25).map (fun i => (i.zero, i.size, i.bytes)) = some (some (.agg #[.int .i64 0, .int .i64 0, .string ⟨#[]⟩, .slice none 0 0]), 4, 56) := by kernel_rfl
/-- a drawn list -/
def LsOut (m : Nat) (w : World) (e : Ending) (w' : World) : Prop := ∃ ts v, e = .returned v ∧ ts.length ≤ m ∧ Tm.sl (fun b => w.heap.size ≤ b) w' ts v ∧ Ext w w'

set_option maxRecDepth 100000 in
set_option maxHeartbeats 2000000 in
theorem drawRenumberTerms (v : Value) (w : World) (hv : BytesAt w v) : Calls Try.prog 52 #[v] w (LsOut 3 w) := by
  obtain ⟨i0, hi, hz0, hz1, hz2⟩ := info_parts info_termd
  have HI := Lib.hid hi
  have HZ0 := Lib.hid hz0
  have HZ1 := Lib.hid hz1
  have HZ2 := Lib.hid hz2
  clear hi hz0 hz1 hz2
  have HV := Lib.hid hv
  obtain ⟨a, len, cap, rfl, _⟩ := hv
  go_enter Try.func52, Try.ntmps52
  go_wp2_with fail
  refine (specl18Open _ _ HV.out).mono ?_
  rintro e w1 ⟨r, rfl, hr, hrd, e1⟩
  have hlt := hrd.lt
  have s1 := Below.size e1
  obtain ⟨z, hz⟩ : ∃ z, z = w1.heap.size := ⟨_, rfl⟩
  have ea := Ext.alloc w1 (.cells #[] 25)
  have A := Lib.hid (AppI.empty (T := 25) (Z := fun b => z ≤ b) (w := w1) rfl (by omega))
  have R := Lib.hid (hrd.ext ea)
  have R1 := Lib.hid hrd
  have E1 := Lib.hid e1
  clear hrd e1 HV
  go_wp2_with fail
  refine (rdnum_new [2, 1, 3, 0] 4 rfl rfl (by decide) (by simp) (by omega) R.out (by simp)).mono ?_
  rintro e w2 ⟨x, rfl, hx, hr2, he2⟩
  obtain ⟨n, rfl, hn⟩ : ∃ n : Nat, x = (n : Int) ∧ n ≤ 3 := ⟨x.toNat, by simp at hx; omega, by simp at hx; omega⟩
  have nr : r < z := by omega
  have A := Lib.hid (A.out.keep (Fr.of_extR (M := fun k => k = r) he2 rfl) (fun k _ h hz => by omega))
  have R := Lib.hid hr2
  have E := Lib.hid ((ExtR.of_ext ea).trans he2)
  have s2 : w1.heap.size + 1 ≤ w2.heap.size := by have := he2.1.size; simpa using this
  clear hr2 he2 hx ea
  go_wp2_with fail
  go_loopw [4, 5] (fun q i wr => ∃ (j p : Nat) (av : Option Addr) (cv : Nat) (us : List Tm), j + us.length = n ∧ i = .int .i64 j ∧ q = .slice av us.length cv ∧ p ≤ 1 + 163 * us.length ∧
      Hid (Rd wr r p) ∧ Hid (AppI 25 (fun b => z ≤ b) us (.slice av us.length cv) wr) ∧ Hid (ExtR r w1 wr) ∧ z ≤ wr.heap.size) (fun _ i _ => (intOf i).toNat)
  case atStart => exact ⟨n, 1, some ⟨w1.heap.size, 0, none⟩, 0, [], by simp, rfl, rfl, by simp, R, A, E, by omega⟩
  case round =>
    obtain ⟨j, p, av, cv, us, hj, rfl, rfl, hp, R, A, E, sz⟩ := hrel
    have hlu : us.length < 1048576 := by omega
    by_cases hlt2 : 0 < j
    · go_wp2_with fail
      refine (specl1Some r p _ (by omega) R.out).mono ?_
      rintro e w3 ⟨t, v3, p3, rfl, hv3, _, hr3, hp3, he3⟩
      have R := Lib.hid hr3
      have V := Lib.hid hv3
      have A := Lib.hid (A.out.keep (Fr.of_extR (M := fun k => k = r) he3 rfl) (fun k _ h hz => by omega))
      have E := Lib.hid (E.out.trans he3)
      have s3 := he3.1.size
      clear hv3 hr3 he3
      go_wp2_with fail
      refine (specl1Mutate r p3 t v3 _ _ (by omega) R.out V.out).mono ?_
      rintro e w4 ⟨u, v4, p4, rfl, hv4, _, hr4, hp4, he4⟩
      obtain ⟨a4, c4, rfl⟩ := at_form hv4
      have hap := A.out.apart (fun b h => by omega) hv4
      have R := Lib.hid hr4
      have A := Lib.hid (A.out.keep (Fr.of_extR (M := fun k => k = r) he4 rfl) (fun k _ h hz => by omega))
      have V := Lib.hid hap
      have E := Lib.hid (E.out.trans he4)
      have s4 := he4.1.size
      have hnw : ∀ b, w4.heap.size ≤ b → z ≤ b := fun b h => by omega
      have HNW := Lib.hid hnw
      clear hv4 hr4 he4 hap hnw
      go_wp2_with (at_builtin; refine wpList_append_tm rfl (.tmp 16) (.tmp 21) 23 rfl (fun b => z ≤ b) 25 i0 Try.underlying23 HI.out HZ0.out HZ1.out HZ2.out _ us u a4 c4 rfl A.out rfl V.out hlu HNW.out ?_; intro av2 cv2 w5 hA5 hf5; have A5 := Lib.hid hA5; have F5 := Lib.hid hf5; clear hA5 hf5)
      have s5 := F5.out.size
      go_roundw
      case rel =>
        have hl2 : (us ++ [u]).length = us.length + 1 := by simp
        have hrz : Rd w5 r p4 := Rd.fr R1.out E.out R.out F5.out (fun k hk h => by omega)
        exact ⟨j - 1, p4, av2, cv2, us ++ [u], by omega, by go_num, by rw [hl2], by omega, Lib.hid hrz, Lib.hid (by rw [hl2]; exact A5.out), Lib.hid (ExtR.fr E.out F5.out (fun k hk h => ⟨by omega, by omega⟩)), by omega⟩
      case measure => simp [intOf]; omega
    · have AS := Lib.hid (A.out.sl (by omega))
      go_wp2_with fail
      go_ret
      exact ⟨us, _, rfl, by omega, Tm.sl_mono (fun b h => by omega) (Agree.refl _) AS.out, ExtR.below E1.out E.out (by omega)⟩

set_option maxHeartbeats 1000000 in
theorem lawspgTerms (ts us : List Tm) (v v' : Value) (S S' : Nat → Prop) (w : World) (ht : Tm.sl S w ts v) (hu : Tm.sl S' w us v') :
    Calls Try.prog 53 #[v, v'] w fun e w' => e = .returned (.bool (Tm.sameL ts us)) ∧ Ext w w' := by
  obtain ⟨a, cap, rfl, h1, h2, h3, h4⟩ := ht
  obtain ⟨a', cap', rfl, h1', h2', h3', h4'⟩ := hu
  have H4 := Lib.hid h4
  have H4' := Lib.hid h4'
  clear h4 h4'
  by_cases e4 : ts.length = us.length
  · have E4 := Lib.hid e4
    have e4' : ((ts.length : Int) != (us.length : Int)) = false := by simp [bne, e4]
    clear e4
    go_enter Try.func53, Try.ntmps53
    go_wp2_with fail
    go_loopw [5] (fun i wr => ∃ k : Nat, k ≤ ts.length ∧ i = .int .i64 k ∧ SameTo k ts us ∧ Ext w wr) (fun i _ => ts.length - (intOf i).toNat)
    case atStart => exact ⟨0, Nat.zero_le _, rfl, sameTo_zero _ _, Ext.refl _⟩
    case round =>
      obtain ⟨k, hk, rfl, hs, he⟩ := hrel
      have HS := Lib.hid hs
      clear hs
      by_cases hlt : k < ts.length
      · have hlt' : k < us.length := by have := E4.out; omega
        obtain ⟨tk, htk⟩ := getk hlt
        obtain ⟨uk, huk⟩ := getk hlt'
        rcases H4.out with h4 | ⟨b, off, rfl, hSb, hrow⟩
        · rw [h4] at hlt; simp at hlt
        rcases H4'.out with h4 | ⟨b', off', rfl, hSb', hrow'⟩
        · rw [h4] at hlt'; simp at hlt'
        obtain ⟨ak, ck, c1, c2, c3, c4, hat⟩ := Tm.at_of_cells (Tm.row_get hrow k tk htk)
        obtain ⟨ak', ck', d1, d2, d3, d4, hat'⟩ := Tm.at_of_cells (Tm.row_get hrow' k uk huk)
        have k1 := cell_regrown (he.cell c1)
        have k2 := cell_regrown (he.cell c2)
        have k3 := cell_regrown (he.cell c3)
        have k4 := cell_regrown (he.cell c4)
        have l1 := cell_regrown (he.cell d1)
        have l2 := cell_regrown (he.cell d2)
        have l3 := cell_regrown (he.cell d3)
        have l4 := cell_regrown (he.cell d4)
        have cQ := quiet_call (w := wr) (fun w' e' => implTermSame _ tk uk _ _ S S' w' (Nat.le_refl _) (Tm.at_ext (he.trans e') hat) (Tm.at_ext (he.trans e') hat'))
        have Htk := Lib.hid htk
        have Huk := Lib.hid huk
        clear c1 c2 c3 c4 d1 d2 d3 d4 htk huk hrow hrow'
        cases hsm : Tm.same tk uk
        · simp only [hsm] at cQ
          have hf := Lib.hid (sameL_no Htk.out Huk.out hsm)
          clear hsm
          go_wp2_with fail
          refine region_ext (by kernel_rfl) (by kernel_rfl) ?_
          repeat (quiet_step (exact cQ _ _))
          refine wpQuiet_nil ?_
          intro wq eq
          go_wp2_with fail
          go_ret
          exact ⟨retB hf.out.symm, he.trans eq⟩
        · simp only [hsm] at cQ
          have hf := Lib.hid (sameTo_succ HS.out Htk.out Huk.out hsm)
          clear hsm
          go_wp2_with fail
          refine region_ext (by kernel_rfl) (by kernel_rfl) ?_
          repeat (quiet_step (exact cQ _ _))
          refine wpQuiet_nil ?_
          intro wq eq
          go_wp2_with fail
          go_roundw
          case rel => exact ⟨k + 1, by omega, by go_num, hf.out, he.trans eq⟩
          case measure => simp [intOf]; omega
      · have hf := Lib.hid (sameTo_all E4.out (by omega) HS.out)
        go_wp2_with fail
        go_ret
        exact ⟨retB hf.out.symm, he⟩
  · have e4' : ((ts.length : Int) != (us.length : Int)) = true := by simp [bne]; omega
    have hf := Lib.hid (show Tm.sameL ts us = false by cases h : Tm.sameL ts us with | false => rfl | true => exact absurd (sameL_len h) e4)
    clear e4
    go_enter Try.func53, Try.ntmps53
    go_wp2_with fail
    go_ret
    exact ⟨retB hf.out.symm, Ext.refl _⟩

end Go.Proofs.Ytagaciadcgijoaa
