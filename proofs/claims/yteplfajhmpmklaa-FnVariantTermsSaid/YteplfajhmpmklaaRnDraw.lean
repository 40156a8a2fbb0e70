/-
  What DrawRenumberTerms draws: a list of terms; and the comparison of two lists of terms.
-/
import Derived.Test.YteplfajhmpmklaaDraws
import Derived.Test.YteplfajhmpmklaaSame2
namespace Go.Proofs.Yteplfajhmpmklaa
open Go.RowKit Go.Sort
set_option linter.unusedVariables false

theorem info_termd : (Try.prog.info? 29).map (fun i => (i.zero, i.size, i.bytes)) = some (some (.agg #[.int .i64 0, .int .i64 0, .string ⟨#[]⟩, .slice none 0 0]), 4, 56) := by kernel_rfl
/-- a drawn list -/
def LsOut (m : Nat) (w : World) (e : Ending) (w' : World) : Prop := ∃ ts v, e = .returned v ∧ ts.length ≤ m ∧ Tm.sl (fun b => w.heap.size ≤ b) w' ts v ∧ Ext w w'


set_option maxHeartbeats 1000000 in
theorem lawspgTerms (ts us : List Tm) (v v' : Value) (S S' : Nat → Prop) (w : World) (ht : Tm.sl S w ts v) (hu : Tm.sl S' w us v') :
    Calls Try.prog 20 #[v, v'] w fun e w' => e = .returned (.bool (Tm.sameL ts us)) ∧ Ext w w' := by
  obtain ⟨a, cap, rfl, h1, h2, h3, h4⟩ := ht
  obtain ⟨a', cap', rfl, h1', h2', h3', h4'⟩ := hu
  have H4 := Lib.hid h4
  have H4' := Lib.hid h4'
  clear h4 h4'
  by_cases e4 : ts.length = us.length
  · have E4 := Lib.hid e4
    have e4' : ((ts.length : Int) != (us.length : Int)) = false := by simp [bne, e4]
    clear e4
    go_enter Try.func20, Try.ntmps20
    go_wp2_with fail
    go_loopw [5] (fun i wr => ∃ k : Nat, k ≤ ts.length ∧ i = .int .i64 k ∧ SameTo k ts us ∧ Ext w wr) (fun i _ => ts.length - (intOf i).toNat)
    case atStart => exact ⟨0, Nat.zero_le _, rfl, sameTo_zero _ _, Ext.refl _⟩
    case round =>
      obtain ⟨k, hk, rfl, hs, he⟩ := hrel
      have HS := Lib.hid hs
      clear hs
      by_cases hlt : k < ts.length
      · have hlt' : k < us.length := by have := E4.out; omega
        obtain ⟨tk, htk⟩ := getk hlt
        obtain ⟨uk, huk⟩ := getk hlt'
        rcases H4.out with h4 | ⟨b, off, rfl, hSb, hrow⟩
        · rw [h4] at hlt; simp at hlt
        rcases H4'.out with h4 | ⟨b', off', rfl, hSb', hrow'⟩
        · rw [h4] at hlt'; simp at hlt'
        obtain ⟨ak, ck, c1, c2, c3, c4, hat⟩ := Tm.at_of_cells (Tm.row_get hrow k tk htk)
        obtain ⟨ak', ck', d1, d2, d3, d4, hat'⟩ := Tm.at_of_cells (Tm.row_get hrow' k uk huk)
        have k1 := cell_regrown (he.cell c1)
        have k2 := cell_regrown (he.cell c2)
        have k3 := cell_regrown (he.cell c3)
        have k4 := cell_regrown (he.cell c4)
        have l1 := cell_regrown (he.cell d1)
        have l2 := cell_regrown (he.cell d2)
        have l3 := cell_regrown (he.cell d3)
        have l4 := cell_regrown (he.cell d4)
        have cQ := quiet_call (w := wr) (fun w' e' => implTermSame _ tk uk _ _ S S' w' (Nat.le_refl _) (Tm.at_ext (he.trans e') hat) (Tm.at_ext (he.trans e') hat'))
        have Htk := Lib.hid htk
        have Huk := Lib.hid huk
        clear c1 c2 c3 c4 d1 d2 d3 d4 htk huk hrow hrow'
        cases hsm : Tm.same tk uk
        · simp only [hsm] at cQ
          have hf := Lib.hid (sameL_no Htk.out Huk.out hsm)
          clear hsm
          go_wp2_with fail
          refine region_ext (by kernel_rfl) (by kernel_rfl) ?_
          repeat (quiet_step (exact cQ _ _))
          refine wpQuiet_nil ?_
          intro wq eq
          go_wp2_with fail
          go_ret
          exact ⟨retB hf.out.symm, he.trans eq⟩
        · simp only [hsm] at cQ
          have hf := Lib.hid (sameTo_succ HS.out Htk.out Huk.out hsm)
          clear hsm
          go_wp2_with fail
          refine region_ext (by kernel_rfl) (by kernel_rfl) ?_
          repeat (quiet_step (exact cQ _ _))
          refine wpQuiet_nil ?_
          intro wq eq
          go_wp2_with fail
          go_roundw
          case rel => exact ⟨k + 1, by omega, by go_num, hf.out, he.trans eq⟩
          case measure => simp [intOf]; omega
      · have hf := Lib.hid (sameTo_all E4.out (by omega) HS.out)
        go_wp2_with fail
        go_ret
        exact ⟨retB hf.out.symm, he⟩
  · have e4' : ((ts.length : Int) != (us.length : Int)) = true := by simp [bne]; omega
    have hf := Lib.hid (show Tm.sameL ts us = false by cases h : Tm.sameL ts us with | false => rfl | true => exact absurd (sameL_len h) e4)
    clear e4
    go_enter Try.func20, Try.ntmps20
    go_wp2_with fail
    go_ret
    exact ⟨retB hf.out.symm, Ext.refl _⟩

end Go.Proofs.Yteplfajhmpmklaa
