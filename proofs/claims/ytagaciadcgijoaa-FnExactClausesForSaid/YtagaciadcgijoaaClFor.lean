/-
  The clauses for a goal: pred, clausesFor, ClausesFor and the reference's.
-/
import Derived.Test.YtagaciadcgijoaaClProg
import Derived.Test.YtagaciadcgijoaaVars
import Derived.Laws.StructEq
namespace Go.Proofs.Ytagaciadcgijoaa
open Go.RowKit Go.Sort
set_option linter.unusedVariables false

theorem ret2 {P : Program} {fn : Func} {R : Ending → World → Prop} {a : Act} {X : World} {p T b : Nat} {v0 v1 : Value}
    (hres : fn.results = #[.cell p T]) (hT : ∀ w, (isAgg T).run P w = .ok true w) (hs : ∀ w, (sizeOf T).run P w = .ok 2 w) (hp : a.tmps.getD p undef = .pointer (some ⟨b, 0, none⟩)) (hd : a.defers = [])
    (h0 : X.cell? ⟨b, 0, none⟩ = some v0) (h1 : X.cell? ⟨b, 1, none⟩ = some v1) (hR : R (.returned (.agg #[v0, v1])) X) :
    bodyPost P fn R .ret a X := by
  refine bodyPost_ret (v := .agg #[v0, v1]) ?_ hd hR
  have hl : (loadVar T ⟨b, 0, none⟩).run P X = .ok (.agg #[v0, v1]) X := by
    unfold loadVar
    simp only [Sem.run_bind, hT, Result.andThen_ok, if_true, hs]
    simp [loadCells, loadCellsFrom, go_sem, h0, h1]
  simp only [results, hres]
  have hp' : a.tmps[p]?.getD undef = .pointer (some ⟨b, 0, none⟩) := by simpa using hp
  simp [hp', asAddr, hl]

set_option maxHeartbeats 400000 in
theorem implpred (t : Tm) (v : Value) (S : Nat → Prop) (w : World) (ht : Tm.at S w t v) : Calls Try.prog 96 #[v] w fun e w' => e = .returned (.agg #[.string t.name, .int .i64 t.kids.length]) ∧ Ext w w' := by
  obtain ⟨a, c, rfl⟩ := at_form ht
  clear ht
  go_enter Try.func96, Try.ntmps96
  go_wp2_with fail
  refine ret2 (p := 2) (T := 106) (b := w.heap.size + 1) (v0 := .string t.name) (v1 := .int .i64 t.kids.length) (by kernel_rfl) (fun _ => by kernel_rfl) (fun _ => by kernel_rfl) rfl rfl (by go_simp) (by go_simp) ?_
  exact ⟨rfl, (Ext.alloc _ _).trans (Ext.alloc _ _)⟩

theorem predEq (s s' : ByteArray) (n n' : Int) (w : World) : (binOp .eql 106 (.agg #[.string s, .int .i64 n]) (.agg #[.string s', .int .i64 n'])).run Try.prog w = .ok (.bool ((s.toList == s'.toList) && (n == n'))) w := by
  have hS : Try.prog.underlying 106 = some (.struct (Try.prog.fieldsOf 106)) := by kernel_rfl
  have hp : Try.prog.stoodInHeld 106 = false := by kernel_rfl
  have u1 := Try.underlying9
  have u2 := Try.underlying3
  rw [run_eql_struct, show (10000 : Nat) = 9999 + 1 from rfl, run_equalIn_agg w 9999 106 _ _ hS hp]
  simp only [Program.fieldsOf, Try.underlying106]
  go_simp
  cases h1 : (s.toList == s'.toList)
  · simp_all
  · by_cases h2 : n = n' <;> simp_all
/-- a clause of the goal's predicate -/
def matC (c : Cl) (t : Tm) : Bool := (c.head.name.toList == t.name.toList) && ((c.head.kids.length : Int) == (t.kids.length : Int))
/-- the places below k of the clauses for a goal -/
def forK (cs : List Cl) (t : Tm) : Nat → List Int
  | 0 => []
  | k + 1 => match cs[k]? with
    | some c => if matC c t = true then forK cs t k ++ [(k : Int)] else forK cs t k
    | none => forK cs t k
theorem forK_len (cs : List Cl) (t : Tm) : ∀ k, (forK cs t k).length ≤ k
  | 0 => by simp [forK]
  | k + 1 => by
    have := forK_len cs t k
    simp only [forK]
    split
    · split <;> simp <;> omega
    · omega
theorem forK_yes {cs : List Cl} {t : Tm} {k : Nat} {c : Cl} (hc : cs[k]? = some c) (h : matC c t = true) : forK cs t (k + 1) = forK cs t k ++ [(k : Int)] := by simp only [forK, hc, h, if_true]
theorem forK_no {cs : List Cl} {t : Tm} {k : Nat} {c : Cl} (hc : cs[k]? = some c) (h : matC c t = false) : forK cs t (k + 1) = forK cs t k := by simp only [forK, hc, h]; simp
/-- what ClausesFor answers -/
def cforF (cs : List Cl) (t : Tm) : List Int := if (prValidF cs && validF t && plainF t.kind t.name t.kids.length) = true then forK cs t cs.length else []

set_option maxRecDepth 100000 in
set_option maxHeartbeats 2000000 in
theorem implclausesFor (cs : List Cl) (t : Tm) (v : Value) (S : Nat → Prop) (w : World) (hc : Cl.sl S w cs v) : Calls Try.prog 95 #[v, .agg #[.string t.name, .int .i64 t.kids.length]] w (IntsOut (forK cs t cs.length) w) := by
  obtain ⟨i0, hi, hz0, hz1, hz2⟩ := info_parts info_int
  have HI := Lib.hid hi
  have HZ0 := Lib.hid hz0
  have HZ1 := Lib.hid hz1
  have HZ2 := Lib.hid hz2
  obtain ⟨a, cap, rfl, h1, h2, h3, h4⟩ := hc
  have H4 := Lib.hid h4
  clear h4 hi hz0 hz1 hz2
  go_enter Try.func95, Try.ntmps95
  go_wp2_with fail
  go_loopw [5, 10] (fun q i wr => ∃ (j : Nat), j ≤ cs.length ∧ i = .int .i64 j ∧ Hid (IntI (fun b => w.heap.size + 1 ≤ b) (forK cs t j) q wr) ∧ Ext w wr ∧ w.heap.size < wr.heap.size ∧ wr.cell? ⟨w.heap.size, 0, none⟩ = some (.string t.name) ∧ wr.cell? ⟨w.heap.size, 1, none⟩ = some (.int .i64 t.kids.length)) (fun _ i _ => cs.length - (intOf i).toNat)
  case atStart => exact ⟨0, Nat.zero_le _, rfl, Lib.hid (IntI.nil _ _), Ext.alloc _ _, by simp, by go_simp, by go_simp⟩
  case round =>
    obtain ⟨j, hj, rfl, HQ, he, hsz, p0, p1⟩ := hrel
    by_cases hlt : j < cs.length
    · obtain ⟨c, hc⟩ := cgetk hlt
      obtain ⟨b, off, ak, ck, al, cl, rfl, c0, c1, c2, c3, c4, hat, hsl⟩ := Cl.get H4.out hc he
      have HC := Lib.hid hc
      have V := Lib.hid (Tm.at_ext he hat)
      have hbw := block_lt_of_cell c0
      simp only at hbw
      clear hc hat hsl
      go_wp2_with fail
      obtain ⟨av, qc, rfl⟩ := HQ.out.form
      obtain ⟨wa, hwa⟩ : ∃ x, x = wr.alloc (.cells #[.int .i64 c.head.kind, .int .i64 c.head.n, .string c.head.name, .slice ak c.head.kids.length ck, .slice al c.body.length cl] 45) := ⟨_, rfl⟩
      rw [← hwa]
      have ea : Ext wr wa := by rw [hwa]; exact Ext.alloc _ _
      obtain ⟨x0, x1, x2, x3, x4, _⟩ := (show BoxC wa wr.heap.size (.int .i64 c.head.kind) (.int .i64 c.head.n) (.string c.head.name) (.slice ak c.head.kids.length ck) (.slice al c.body.length cl) by rw [hwa]; exact BoxC.new _ _ _ _ _ _ 45 rfl)
      clear hwa
      have k0 := cell_regrown x0
      have k1 := cell_regrown x1
      have k2 := cell_regrown x2
      have k3 := cell_regrown x3
      have k5 := cell_regrown (ea.cell p0)
      have k6 := cell_regrown (ea.cell p1)
      have HVA := Lib.hid (Tm.at_ext ea V.out)
      have cQ := quiet_call (w := wa) (fun w' e' => implpred c.head _ _ w' (Tm.at_ext e' HVA.out))
      have EA := Lib.hid ea
      have hlen := forK_len cs t j
      have HL : Hid ((forK cs t j).length < 1048576) := Lib.hid (by omega)
      clear x0 x1 x2 x3 x4 ea hlen
      have hS : Try.prog.underlying 106 = some (.struct (Try.prog.fieldsOf 106)) := by kernel_rfl
      have hp : Try.prog.stoodInHeld 106 = false := by kernel_rfl
      have hG : Try.prog.eqGuardType Try.prog.depth 106 = false := by kernel_rfl
      have hB := predEq c.head.name t.name c.head.kids.length t.kids.length
      cases e1 : (c.head.name.toList == t.name.toList)
      · have HN := Lib.hid (forK_no (t := t) HC.out (by unfold matC; rw [e1]; rfl))
        refine region_ext (by kernel_rfl) (by kernel_rfl) ?_
        repeat (quiet_step (exact cQ _ _))
        refine wpQuiet_nil ?_
        intro wq eq
        go_wp2_with fail
        go_roundw
        case rel => exact ⟨j + 1, by omega, by go_num, Lib.hid (by rw [HN.out]; exact (HQ.out.ext EA.out).ext eq), (he.trans EA.out).trans eq, Nat.lt_of_lt_of_le hsz (Below.size (EA.out.trans eq)), eq.cell (EA.out.cell p0), eq.cell (EA.out.cell p1)⟩
        case measure => simp [intOf]; omega
      cases e2 : ((c.head.kids.length : Int) == (t.kids.length : Int))
      · have HN := Lib.hid (forK_no (t := t) HC.out (by unfold matC; rw [e1, e2]; rfl))
        refine region_ext (by kernel_rfl) (by kernel_rfl) ?_
        repeat (quiet_step (exact cQ _ _))
        refine wpQuiet_nil ?_
        intro wq eq
        go_wp2_with fail
        go_roundw
        case rel => exact ⟨j + 1, by omega, by go_num, Lib.hid (by rw [HN.out]; exact (HQ.out.ext EA.out).ext eq), (he.trans EA.out).trans eq, Nat.lt_of_lt_of_le hsz (Below.size (EA.out.trans eq)), eq.cell (EA.out.cell p0), eq.cell (EA.out.cell p1)⟩
        case measure => simp [intOf]; omega
      · have HN := Lib.hid (forK_yes (t := t) HC.out (by unfold matC; rw [e1, e2]; rfl))
        refine region_ext (by kernel_rfl) (by kernel_rfl) ?_
        repeat (quiet_step (exact cQ _ _))
        refine wpQuiet_nil ?_
        intro wq eq
        have Q1 := Lib.hid ((HQ.out.ext EA.out).ext eq)
        have p0' := eq.cell (EA.out.cell p0)
        have p1' := eq.cell (EA.out.cell p1)
        have hs1 := Below.size (EA.out.trans eq)
        have E1 := Lib.hid ((he.trans EA.out).trans eq)
        clear p0 p1
        have HZB : Hid (∀ b, wq.heap.size ≤ b → w.heap.size + 1 ≤ b) := Lib.hid (fun b h => by omega)
        clear k0 k1 k2 k3 k5 k6 cQ
        go_wp2_with (at_builtin; refine wpList_append_int (w1 := wq) rfl (.tmp 20) (.tmp 22) 69 rfl (fun b => w.heap.size + 1 ≤ b) i0 Try.underlying69 HI.out HZ0.out HZ1.out HZ2.out _ (forK cs t j) j rfl Q1.out rfl HL.out HZB.out (by simp) ?_; intro av2 cv2 w2 hI2 hf2; have I2 := Lib.hid hI2; have F2 := Lib.hid hf2; clear hI2 hf2)
        go_roundw
        case rel =>
          have hl2 : (forK cs t j ++ [(j : Int)]).length = (forK cs t j).length + 1 := by simp
          exact ⟨j + 1, by omega, by go_num, Lib.hid (by rw [HN.out]; exact I2.out), ((Fr.of_ext E1.out).trans F2.out).toExt (fun k hk h => by omega), by have := F2.out.size; omega, F2.out.cell (by omega) p0', F2.out.cell (by omega) p1'⟩
        case measure => simp [intOf]; omega
    · have hjl : j = cs.length := by omega
      subst hjl
      go_wp2_with fail
      go_ret
      exact ⟨_, rfl, HQ.out.zone (fun b h => by omega), he⟩

theorem andB {a b : Bool} (h : (a && b) = false) : a = false ∨ b = false := by cases a <;> simp_all
set_option maxRecDepth 100000 in
set_option maxHeartbeats 2000000 in
theorem implClausesFor (cs : List Cl) (t : Tm) (v v' : Value) (S S' : Nat → Prop) (w : World) (hc : Cl.sl S w cs v) (ht : Tm.at S' w t v') : Calls Try.prog 56 #[v, v'] w (IntsOut (cforF cs t) w) := by
  have HP := Lib.hid (fun w' (e' : Ext w w') => implProgramValid cs v S w' (Cl.sl_ext e' hc))
  have HT := Lib.hid (fun w' (e' : Ext w w') => implTermValid t v' S' w' (Tm.at_ext e' ht))
  have HL := Lib.hid (fun w' (e' : Ext w w') => implisPlain_t t v' S' w' (Tm.at_ext e' ht))
  have HD := Lib.hid (fun w' (e' : Ext w w') => implpred t v' S' w' (Tm.at_ext e' ht))
  have HC := Lib.hid (fun w' (e' : Ext w w') => implclausesFor cs t v S w' (Cl.sl_ext e' hc))
  obtain ⟨a, c, rfl⟩ := at_form ht
  obtain ⟨b, d, rfl, _⟩ := hc
  clear ht
  cases h1 : prValidF cs
  · have HF : Hid (cforF cs t = []) := Lib.hid (by unfold cforF; rw [h1]; rfl)
    have H1 := Lib.hid h1
    clear h1
    go_enter Try.func56, Try.ntmps56
    go_wp2_with fail
    refine (HP.out _ (Ext.alloc _ _)).mono ?_
    rw [H1.out]
    rintro e w1 ⟨rfl, q⟩
    have hz := Below.size q
    go_wp2_with fail
    go_ret
    exact ⟨_, rfl, by rw [HF.out]; exact IntI.nil _ _, (Ext.alloc _ _).trans q⟩
  cases h2 : validF t
  · have HF : Hid (cforF cs t = []) := Lib.hid (by unfold cforF; rw [h1, h2]; rfl)
    have H1 := Lib.hid h1
    have H2 := Lib.hid h2
    clear h1 h2
    go_enter Try.func56, Try.ntmps56
    go_wp2_with fail
    refine (HP.out _ (Ext.alloc _ _)).mono ?_
    rw [H1.out]
    rintro e w1 ⟨rfl, q⟩
    have X := Lib.hid ((BoxT.new w (.int .i64 t.kind) (.int .i64 t.n) (.string t.name) (.slice a t.kids.length c) 25 rfl).ext q)
    have E := Lib.hid ((Ext.alloc w (.cells #[.int .i64 t.kind, .int .i64 t.n, .string t.name, .slice a t.kids.length c] 25)).trans q)
    clear q
    obtain ⟨x0, x1, x2, x3, _, _, _, _⟩ := X.out
    go_wp2_with fail
    refine (HT.out _ E.out).mono ?_
    rw [H2.out]
    rintro e w2 ⟨rfl, q⟩
    have hz := Below.size q
    have hz0 := Below.size E.out
    go_wp2_with fail
    go_ret
    exact ⟨_, rfl, by rw [HF.out]; exact IntI.nil _ _, E.out.trans q⟩
  cases h3 : plainF t.kind t.name t.kids.length
  · have HF : Hid (cforF cs t = []) := Lib.hid (by unfold cforF; rw [h1, h2, h3]; rfl)
    have H1 := Lib.hid h1
    have H2 := Lib.hid h2
    have H3 := Lib.hid h3
    clear h1 h2 h3
    go_enter Try.func56, Try.ntmps56
    go_wp2_with fail
    refine (HP.out _ (Ext.alloc _ _)).mono ?_
    rw [H1.out]
    rintro e w1 ⟨rfl, q⟩
    have X := Lib.hid ((BoxT.new w (.int .i64 t.kind) (.int .i64 t.n) (.string t.name) (.slice a t.kids.length c) 25 rfl).ext q)
    have E := Lib.hid ((Ext.alloc w (.cells #[.int .i64 t.kind, .int .i64 t.n, .string t.name, .slice a t.kids.length c] 25)).trans q)
    clear q
    obtain ⟨x0, x1, x2, x3, _, _, _, _⟩ := X.out
    go_wp2_with fail
    refine (HT.out _ E.out).mono ?_
    rw [H2.out]
    rintro e w2 ⟨rfl, q⟩
    have X := Lib.hid (X.out.ext q)
    have E := Lib.hid (E.out.trans q)
    clear q x0 x1 x2 x3
    obtain ⟨x0, x1, x2, x3, _, _, _, _⟩ := X.out
    go_wp2_with fail
    refine (HL.out _ E.out).mono ?_
    rw [H3.out]
    rintro e w3 ⟨rfl, q⟩
    have hz := Below.size q
    have hz0 := Below.size E.out
    go_wp2_with fail
    go_ret
    exact ⟨_, rfl, by rw [HF.out]; exact IntI.nil _ _, E.out.trans q⟩
  · have HF : Hid (cforF cs t = forK cs t cs.length) := Lib.hid (by unfold cforF; rw [h1, h2, h3]; rfl)
    have H1 := Lib.hid h1
    have H2 := Lib.hid h2
    have H3 := Lib.hid h3
    clear h1 h2 h3
    go_enter Try.func56, Try.ntmps56
    go_wp2_with fail
    refine (HP.out _ (Ext.alloc _ _)).mono ?_
    rw [H1.out]
    rintro e w1 ⟨rfl, q⟩
    have X := Lib.hid ((BoxT.new w (.int .i64 t.kind) (.int .i64 t.n) (.string t.name) (.slice a t.kids.length c) 25 rfl).ext q)
    have E := Lib.hid ((Ext.alloc w (.cells #[.int .i64 t.kind, .int .i64 t.n, .string t.name, .slice a t.kids.length c] 25)).trans q)
    clear q
    obtain ⟨x0, x1, x2, x3, _, _, _, _⟩ := X.out
    go_wp2_with fail
    refine (HT.out _ E.out).mono ?_
    rw [H2.out]
    rintro e w2 ⟨rfl, q⟩
    have X := Lib.hid (X.out.ext q)
    have E := Lib.hid (E.out.trans q)
    clear q x0 x1 x2 x3
    obtain ⟨x0, x1, x2, x3, _, _, _, _⟩ := X.out
    go_wp2_with fail
    refine (HL.out _ E.out).mono ?_
    rw [H3.out]
    rintro e w3 ⟨rfl, q⟩
    have X := Lib.hid (X.out.ext q)
    have E := Lib.hid (E.out.trans q)
    clear q x0 x1 x2 x3
    obtain ⟨x0, x1, x2, x3, _, _, _, _⟩ := X.out
    go_wp2_with fail
    refine (HD.out _ E.out).mono ?_
    rintro e w4 ⟨rfl, q⟩
    have E := Lib.hid (E.out.trans q)
    clear q x0 x1 x2 x3
    go_wp2_with fail
    refine (HC.out _ E.out).mono ?_
    rintro e w5 ⟨v5, rfl, hI, q⟩
    have hz0 := Below.size E.out
    have I := Lib.hid hI
    have Q := Lib.hid q
    clear hI q
    go_wp2_with fail
    go_ret
    exact ⟨_, rfl, by rw [HF.out]; exact I.out.zone (fun b h => by omega), E.out.trans Q.out⟩

end Go.Proofs.Ytagaciadcgijoaa
