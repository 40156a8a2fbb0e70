/-
  The reference's l4For and ClausesFor.
-/
import Derived.Test.YtagaciadcgijoaaClFor
namespace Go.Proofs.Ytagaciadcgijoaa
open Go.RowKit Go.Sort
set_option linter.unusedVariables false

set_option maxRecDepth 100000 in
set_option maxHeartbeats 2000000 in
theorem specl4For (cs : List Cl) (t : Tm) (v v' : Value) (S S' : Nat → Prop) (w : World) (hc : Cl.sl S w cs v) (ht : Tm.at S' w t v') : Calls Try.prog 94 #[v, v'] w (IntsOut (forK cs t cs.length) w) := by
  obtain ⟨i0, hi, hz0, hz1, hz2⟩ := info_parts info_int
  have HI := Lib.hid hi
  have HZ0 := Lib.hid hz0
  have HZ1 := Lib.hid hz1
  have HZ2 := Lib.hid hz2
  obtain ⟨a, cap, rfl, h1, h2, h3, h4⟩ := hc
  obtain ⟨ta, tc, rfl⟩ := at_form ht
  have H4 := Lib.hid h4
  clear h4 hi hz0 hz1 hz2 ht
  go_enter Try.func94, Try.ntmps94
  go_wp2_with fail
  go_loopw [5, 6] (fun q i wr => ∃ (j : Nat), j ≤ cs.length ∧ i = .int .i64 j ∧ Hid (IntI (fun b => w.heap.size + 1 ≤ b) (forK cs t j) q wr) ∧ Ext w wr ∧ w.heap.size < wr.heap.size ∧ wr.cell? ⟨w.heap.size, 2, none⟩ = some (.string t.name) ∧ wr.cell? ⟨w.heap.size, 3, none⟩ = some (.slice ta t.kids.length tc)) (fun _ i _ => cs.length - (intOf i).toNat)
  case atStart => exact ⟨0, Nat.zero_le _, rfl, Lib.hid (IntI.empty (by simp) (by omega)), (Ext.alloc _ _).trans (Ext.alloc _ _), by simp; omega, by go_simp, by go_simp⟩
  case round =>
    obtain ⟨j, hj, rfl, HQ, he, hsz, p2, p3⟩ := hrel
    by_cases hlt : j < cs.length
    · obtain ⟨c, hc⟩ := cgetk hlt
      obtain ⟨b, off, ak, ck, al, cl, rfl, c0, c1, c2, c3, c4, hat, hsl⟩ := Cl.get H4.out hc he
      have HC := Lib.hid hc
      have hbw := block_lt_of_cell c0
      simp only at hbw
      obtain ⟨av, qc, rfl⟩ := HQ.out.form
      clear hc hat hsl
      have k0 := cell_regrown c0
      have k1 := cell_regrown c1
      have k2 := cell_regrown c2
      have k3 := cell_regrown c3
      have k4 := cell_regrown c4
      have k5 := cell_regrown p2
      have k6 := cell_regrown p3
      have hlen := forK_len cs t j
      have HL : Hid ((forK cs t j).length < 1048576) := Lib.hid (by omega)
      have P2 := Lib.hid p2
      have P3 := Lib.hid p3
      have HE := Lib.hid he
      have HSZ := Lib.hid hsz
      clear hlen c0 c1 c2 c3 c4 p2 p3 he hsz hbw
      go_wp2_with fail
      cases e1 : (c.head.name.toList == t.name.toList)
      · have HN := Lib.hid (forK_no (t := t) HC.out (by unfold matC; rw [e1]; rfl))
        refine region_ext (by kernel_rfl) (by kernel_rfl) ?_
        repeat (go_big_quiet_step (fail))
        refine wpQuiet_nil ?_
        intro wq eq
        go_wp2_with fail
        go_roundw
        case rel => exact ⟨j + 1, by omega, by go_num, Lib.hid (by rw [HN.out]; exact HQ.out.ext eq), HE.out.trans eq, Nat.lt_of_lt_of_le HSZ.out (Below.size eq), eq.cell P2.out, eq.cell P3.out⟩
        case measure => simp [intOf]; omega
      cases e2 : ((c.head.kids.length : Int) == (t.kids.length : Int))
      · have HN := Lib.hid (forK_no (t := t) HC.out (by unfold matC; rw [e1, e2]; rfl))
        refine region_ext (by kernel_rfl) (by kernel_rfl) ?_
        repeat (go_big_quiet_step (fail))
        refine wpQuiet_nil ?_
        intro wq eq
        go_wp2_with fail
        go_roundw
        case rel => exact ⟨j + 1, by omega, by go_num, Lib.hid (by rw [HN.out]; exact HQ.out.ext eq), HE.out.trans eq, Nat.lt_of_lt_of_le HSZ.out (Below.size eq), eq.cell P2.out, eq.cell P3.out⟩
        case measure => simp [intOf]; omega
      · have HN := Lib.hid (forK_yes (t := t) HC.out (by unfold matC; rw [e1, e2]; rfl))
        refine region_ext (by kernel_rfl) (by kernel_rfl) ?_
        repeat (go_big_quiet_step (fail))
        refine wpQuiet_nil ?_
        intro wq eq
        have Q1 := Lib.hid (HQ.out.ext eq)
        have p2' := eq.cell P2.out
        have p3' := eq.cell P3.out
        have hs1 := Below.size eq
        have E1 := Lib.hid (HE.out.trans eq)
        have hsz := HSZ.out
        have HZB : Hid (∀ b, wq.heap.size ≤ b → w.heap.size + 1 ≤ b) := Lib.hid (fun b h => by omega)
        clear k0 k1 k2 k3 k4 k5 k6
        go_wp2_with (at_builtin; refine wpList_append_int (w1 := wq) rfl (.tmp 36) (.tmp 38) 69 rfl (fun b => w.heap.size + 1 ≤ b) i0 Try.underlying69 HI.out HZ0.out HZ1.out HZ2.out _ (forK cs t j) j rfl Q1.out rfl HL.out HZB.out (by simp) ?_; intro av2 cv2 w2 hI2 hf2; have I2 := Lib.hid hI2; have F2 := Lib.hid hf2; clear hI2 hf2)
        go_roundw
        case rel =>
          have hl2 : (forK cs t j ++ [(j : Int)]).length = (forK cs t j).length + 1 := by simp
          exact ⟨j + 1, by omega, by go_num, Lib.hid (by rw [HN.out]; exact I2.out), ((Fr.of_ext E1.out).trans F2.out).toExt (fun k hk h => by omega), by have := F2.out.size; omega, F2.out.cell (by omega) p2', F2.out.cell (by omega) p3'⟩
        case measure => simp [intOf]; omega
    · have hjl : j = cs.length := by omega
      subst hjl
      go_wp2_with fail
      go_ret
      exact ⟨_, rfl, HQ.out.zone (fun b h => by omega), he⟩
set_option maxRecDepth 100000 in
set_option maxHeartbeats 2000000 in
theorem specClausesFor (cs : List Cl) (t : Tm) (v v' : Value) (S S' : Nat → Prop) (w : World) (hc : Cl.sl S w cs v) (ht : Tm.at S' w t v') : Calls Try.prog 55 #[v, v'] w (IntsOut (cforF cs t) w) := by
  have HP := Lib.hid (fun w' (e' : Ext w w') => specProgramValid cs v S w' (Cl.sl_ext e' hc))
  have HT := Lib.hid (fun w' (e' : Ext w w') => specTermValid t v' S' w' (Tm.at_ext e' ht))
  have HL := Lib.hid (fun w' (e' : Ext w w') => specl4Plain_t t v' S' w' (Tm.at_ext e' ht))
  have HC := Lib.hid (fun w' (e' : Ext w w') => specl4For cs t v v' S S' w' (Cl.sl_ext e' hc) (Tm.at_ext e' ht))
  obtain ⟨a, c, rfl⟩ := at_form ht
  obtain ⟨b, d, rfl, _⟩ := hc
  clear ht
  cases h1 : prValidF cs
  · have HF : Hid (cforF cs t = []) := Lib.hid (by unfold cforF; rw [h1]; rfl)
    have H1 := Lib.hid h1
    clear h1
    go_enter Try.func55, Try.ntmps55
    go_wp2_with fail
    refine (HP.out _ (Ext.alloc _ _)).mono ?_
    rw [H1.out]
    rintro e w1 ⟨rfl, q⟩
    have hz := Below.size q
    go_wp2_with fail
    go_ret
    exact ⟨_, rfl, by rw [HF.out]; exact IntI.empty rfl (by first | omega | (simp at hz; omega)), ((Ext.alloc _ _).trans q).trans (Ext.alloc _ _)⟩
  cases h2 : validF t
  · have HF : Hid (cforF cs t = []) := Lib.hid (by unfold cforF; rw [h1, h2]; rfl)
    have H1 := Lib.hid h1
    have H2 := Lib.hid h2
    clear h1 h2
    go_enter Try.func55, Try.ntmps55
    go_wp2_with fail
    refine (HP.out _ (Ext.alloc _ _)).mono ?_
    rw [H1.out]
    rintro e w1 ⟨rfl, q⟩
    have X := Lib.hid ((BoxT.new w (.int .i64 t.kind) (.int .i64 t.n) (.string t.name) (.slice a t.kids.length c) 25 rfl).ext q)
    have E := Lib.hid ((Ext.alloc w (.cells #[.int .i64 t.kind, .int .i64 t.n, .string t.name, .slice a t.kids.length c] 25)).trans q)
    clear q
    obtain ⟨x0, x1, x2, x3, _, _, _, _⟩ := X.out
    go_wp2_with fail
    refine (HT.out _ E.out).mono ?_
    rw [H2.out]
    rintro e w2 ⟨rfl, q⟩
    have hz := Below.size q
    have hz0 := Below.size E.out
    go_wp2_with fail
    go_ret
    exact ⟨_, rfl, by rw [HF.out]; exact IntI.empty rfl (by first | omega | (simp at hz; omega)), (E.out.trans q).trans (Ext.alloc _ _)⟩
  cases h3 : plainF t.kind t.name t.kids.length
  · have HF : Hid (cforF cs t = []) := Lib.hid (by unfold cforF; rw [h1, h2, h3]; rfl)
    have H1 := Lib.hid h1
    have H2 := Lib.hid h2
    have H3 := Lib.hid h3
    clear h1 h2 h3
    go_enter Try.func55, Try.ntmps55
    go_wp2_with fail
    refine (HP.out _ (Ext.alloc _ _)).mono ?_
    rw [H1.out]
    rintro e w1 ⟨rfl, q⟩
    have X := Lib.hid ((BoxT.new w (.int .i64 t.kind) (.int .i64 t.n) (.string t.name) (.slice a t.kids.length c) 25 rfl).ext q)
    have E := Lib.hid ((Ext.alloc w (.cells #[.int .i64 t.kind, .int .i64 t.n, .string t.name, .slice a t.kids.length c] 25)).trans q)
    clear q
    obtain ⟨x0, x1, x2, x3, _, _, _, _⟩ := X.out
    go_wp2_with fail
    refine (HT.out _ E.out).mono ?_
    rw [H2.out]
    rintro e w2 ⟨rfl, q⟩
    have X := Lib.hid (X.out.ext q)
    have E := Lib.hid (E.out.trans q)
    clear q x0 x1 x2 x3
    obtain ⟨x0, x1, x2, x3, _, _, _, _⟩ := X.out
    go_wp2_with fail
    refine (HL.out _ E.out).mono ?_
    rw [H3.out]
    rintro e w3 ⟨rfl, q⟩
    have hz := Below.size q
    have hz0 := Below.size E.out
    go_wp2_with fail
    go_ret
    exact ⟨_, rfl, by rw [HF.out]; exact IntI.empty rfl (by first | omega | (simp at hz; omega)), (E.out.trans q).trans (Ext.alloc _ _)⟩
  · have HF : Hid (cforF cs t = forK cs t cs.length) := Lib.hid (by unfold cforF; rw [h1, h2, h3]; rfl)
    have H1 := Lib.hid h1
    have H2 := Lib.hid h2
    have H3 := Lib.hid h3
    clear h1 h2 h3
    go_enter Try.func55, Try.ntmps55
    go_wp2_with fail
    refine (HP.out _ (Ext.alloc _ _)).mono ?_
    rw [H1.out]
    rintro e w1 ⟨rfl, q⟩
    have X := Lib.hid ((BoxT.new w (.int .i64 t.kind) (.int .i64 t.n) (.string t.name) (.slice a t.kids.length c) 25 rfl).ext q)
    have E := Lib.hid ((Ext.alloc w (.cells #[.int .i64 t.kind, .int .i64 t.n, .string t.name, .slice a t.kids.length c] 25)).trans q)
    clear q
    obtain ⟨x0, x1, x2, x3, _, _, _, _⟩ := X.out
    go_wp2_with fail
    refine (HT.out _ E.out).mono ?_
    rw [H2.out]
    rintro e w2 ⟨rfl, q⟩
    have X := Lib.hid (X.out.ext q)
    have E := Lib.hid (E.out.trans q)
    clear q x0 x1 x2 x3
    obtain ⟨x0, x1, x2, x3, _, _, _, _⟩ := X.out
    go_wp2_with fail
    refine (HL.out _ E.out).mono ?_
    rw [H3.out]
    rintro e w3 ⟨rfl, q⟩
    have X := Lib.hid (X.out.ext q)
    have E := Lib.hid (E.out.trans q)
    clear q x0 x1 x2 x3
    obtain ⟨x0, x1, x2, x3, _, _, _, _⟩ := X.out
    go_wp2_with fail
    refine (HC.out _ E.out).mono ?_
    rintro e w5 ⟨v5, rfl, hI, q⟩
    have hz0 := Below.size E.out
    have I := Lib.hid hI
    have Q := Lib.hid q
    clear hI q
    go_wp2_with fail
    go_ret
    exact ⟨_, rfl, by rw [HF.out]; exact I.out.zone (fun b h => by omega), E.out.trans Q.out⟩

end Go.Proofs.Ytagaciadcgijoaa
