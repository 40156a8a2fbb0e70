/-
  The reference's DrawClausesFor.
-/
import Derived.Laws.StructEq
import Derived.Test.YtognkaebiafgbaaGreatMv41
import Derived.Test.YtognkaebiafgbaaGreatMv6
import Derived.Test.YtognkaebiafgbaaGreatMv7
import Derived.Test.YtognkaebiafgbaaGreatMv16
import Derived.Test.YtognkaebiafgbaaGreatMv25
import Derived.Test.YtognkaebiafgbaaGreatMv14
namespace Go.Proofs.YtognkaebiafgbaaGreat
open Go.RowKit
set_option linter.unusedVariables false
theorem retb4_set {P : Program} {fn : Func} {R : Ending → World → Prop} {a : Act} {Y : World} {p q T b : Nat} {u0 u1 u2 u3 v0 v1 v2 v3 y : Value}
    (hres : fn.results = #[.tmp q, .cell p T]) (hT : ∀ w, (isAgg T).run P w = .ok true w) (hs : ∀ w, (sizeOf T).run P w = .ok 4 w) (hp : a.tmps.getD p undef = .pointer (some ⟨b, 0, none⟩)) (hq : a.tmps.getD q undef = y) (hd : a.defers = [])
    (h : BoxT Y b u0 u1 u2 u3)
    (hR : ∀ X, Fr (fun k => k = b) Y X → R (.returned (.tuple #[y, .agg #[v0, v1, v2, v3]])) X) :
    bodyPost P fn R .ret a ((((Y.setCell ⟨b, 0, none⟩ v0).setCell ⟨b, 1, none⟩ v1).setCell ⟨b, 2, none⟩ v2).setCell ⟨b, 3, none⟩ v3) := by
  obtain ⟨c0, c1, c2, c3⟩ := set4_cells (Y := Y) v0 v1 v2 v3 h.1 h.2.1 h.2.2.1 h.2.2.2.1
  refine bodyPost_ret (v := .tuple #[y, .agg #[v0, v1, v2, v3]]) ?_ hd (hR _ (Fr.of_grown (set4_grown Y b v0 v1 v2 v3) (fun k e => by cases e; rfl)))
  have hl := load4 (P := P) (T := T) (b := b) hT hs c0 c1 c2 c3
  simp only [results, hres]
  have hp' : a.tmps[p]?.getD undef = .pointer (some ⟨b, 0, none⟩) := by simpa using hp
  have hq' : a.tmps[q]?.getD undef = y := by simpa using hq
  unfold set4 at hl
  simp [hp', hq', asAddr, hl]
def CfOut (w : World) (e : Ending) (w' : World) : Prop := ∃ ds g o c t u, e = .returned (.tuple #[.slice (some ⟨g, o, none⟩) ds.length c, u]) ∧ ds.length ≤ 21 ∧ Cl.sl (fun b => w.heap.size ≤ b) w' ds (.slice (some ⟨g, o, none⟩) ds.length c) ∧ Tm.at (fun b => w.heap.size ≤ b) w' t u ∧ Ext w w'
theorem fr_outC {w w' : World} (f : Fr (fun b => w.heap.size ≤ b) w w') : Ext w w' := f.toExt (fun q hq h => by omega)
set_option maxRecDepth 100000 in
set_option maxHeartbeats 4000000 in
theorem drawClausesFor (v : Value) (w : World) (hv : BytesAt w v) : Calls Tryz.prog 4 #[v] w (CfOut w) := by
  obtain ⟨W0, hW0⟩ : ∃ z, z = w.alloc (.cells #[.int .i64 0, .int .i64 0, .string ⟨#[]⟩, .slice none 0 0] 26) := ⟨_, rfl⟩
  have hE0 : Ext w W0 := by rw [hW0]; exact Ext.alloc _ _
  have hB0 : BoxZ W0 w.heap.size := by rw [hW0]; exact BoxT.new _ _ _ _ _ 26 rfl
  have s0 : W0.heap.size = w.heap.size + 1 := by rw [hW0]; simp
  have HO := Lib.hid (specl18Open v W0 (hv.ext hE0))
  have E0 := Lib.hid hE0
  have B0 := Lib.hid hB0
  obtain ⟨a, len, cap, rfl, _⟩ := hv
  clear hE0 hB0
  go_enter Tryz.func4, Tryz.ntmps4
  go_upto_region 1 with (fail)
  rw [← hW0]
  clear hW0
  go_wp2_with fail
  refine HO.out.mono ?_
  rintro e w1 ⟨r, rfl, hr0, hr1, e1⟩
  have E1 := Lib.hid (E0.out.trans e1)
  have B1 := Lib.hid (B0.out.ext e1)
  have R1 := Lib.hid hr1
  have s1 := Below.size e1
  have rl := hr1.lt
  have nr : w.heap.size ≠ r := by omega
  clear e1 hr1
  go_wp2_with fail
  refine (specl4Program r 0 _ (by omega) R1.out).mono ?_
  rintro e w2 ⟨cs, a2, c2, rfl, hsl, hval, hne, hlen, hr2, e2⟩
  have E2 := Lib.hid e2
  have B2 := Lib.hid (B1.out.extR e2 nr)
  have s2 := e2.1.size
  have HM := Lib.hid (specl4MutateAll r (0 + 1) cs a2 c2 _ w2 hne hlen (fun c hc => (cl_parts ((pr_mem hval).2 c hc)).2.1) (by omega) (by omega) hr2 hsl)
  clear hr2 e2 hsl hval hne
  go_wp2_with fail
  refine HM.out.mono ?_
  rintro e w3 ⟨ds, g3, o3, c3, P, rfl, hd, hds, hr3, hP, e3⟩
  have D := Lib.hid hds
  have R := Lib.hid hr3
  have E := Lib.hid (E2.out.trans e3)
  have B := Lib.hid (B2.out.extR e3 nr)
  have s3 := e3.1.size
  clear hds e3 hr3
  cases hz : ((ds.length : Int) == 0)
  · have hlp : 1 ≤ ds.length := by
      have : ¬ (ds.length : Int) = 0 := by simpa using hz
      omega
    go_wp2_with fail
    refine (rdpick r P 4 _ (by omega) (by decide) (by decide) R.out).mono ?_
    rintro e w4 ⟨x, rfl, hx0, hx1, hr4, e4⟩
    have D := Lib.hid (Cl.sl_mono (fun _ h => h) (e4.agree (S := fun b => w2.heap.size ≤ b) (by omega)) D.out)
    have R := Lib.hid hr4
    have E := Lib.hid (E.out.trans e4)
    have B := Lib.hid (B.out.extR e4 nr)
    have s3 : w2.heap.size ≤ w4.heap.size := Nat.le_trans s3 e4.1.size
    obtain ⟨P4, hP4⟩ : ∃ q, q = P + 1 := ⟨_, rfl⟩
    rw [← hP4] at R
    have hP5 : P4 ≤ 3510 := by omega
    clear hP4
    clear hr4 e4
    by_cases hx : x = 0
    · subst hx
      go_wp2_with fail
      refine (specl1Some r P4 _ (by omega) R.out).mono ?_
      rintro e w6 ⟨t6, v6, p2, rfl, hv2, _, hr6, hp2, e6⟩
      have D := Lib.hid (Cl.sl_mono (fun _ h => h) (e6.agree (S := fun b => w2.heap.size ≤ b) (by omega)) D.out)
      have E := Lib.hid (E.out.trans e6)
      have B := Lib.hid (B.out.extR e6 nr)
      have s3 : w2.heap.size ≤ w6.heap.size := Nat.le_trans s3 e6.1.size
      have HMU := Lib.hid (fun q => specl1Mutate r p2 t6 v6 _ w6 q hr6 hv2)
      clear hr6 e6 hv2
      go_wp2_with fail
      refine (HMU.out (by omega)).mono ?_
      rintro e w7 ⟨t, v4, p3, rfl, hv3, _, hr4, hp3, e7⟩
      obtain ⟨a3, d3, rfl⟩ := at_form hv3
      have D := Lib.hid (Cl.sl_mono (fun _ h => h) (e7.agree (S := fun b => w2.heap.size ≤ b) (by omega)) D.out)
      have V := Lib.hid hv3
      have E := Lib.hid (E.out.trans e7)
      have BF := B.out.extR e7 nr
      have BX := Lib.hid BF
      obtain ⟨q0, q1, q2, q3, z0, z1, z2, z3⟩ := BF
      clear hr4 e7 hv3
      go_wp2_with fail
      refine retb4_set (p := 3) (q := 2) (T := 26) (b := w.heap.size) (by kernel_rfl) (fun _ => by kernel_rfl) (fun _ => by kernel_rfl) rfl rfl rfl BX.out ?_
      intro X hX
      exact ⟨ds, g3, o3, _, t, _, rfl, hd, Cl.sl_mono (fun b hb => by omega) (hX.agree (S := fun b => w2.heap.size ≤ b) (fun k hk h => by omega)) D.out, Tm.at_mono (fun b hb => by omega) (hX.agree (S := fun b => w2.heap.size ≤ b) (fun k hk h => by omega)) (Tm.at_mono (fun b hb => by omega) (Agree.refl _) V.out), fr_outC ((Fr.of_ext E1.out).trans ((Fr.of_extR E.out (by show w.heap.size ≤ r; omega)).trans (hX.mono (fun k _ h => by show w.heap.size ≤ k; omega))))⟩
    · go_wp2_with fail
      refine (rdpick r P4 ds.length _ (by omega) (by omega) (by omega) R.out).mono ?_
      rintro e w5 ⟨y, rfl, hy0, hy1, hr5, e5⟩
      obtain ⟨k, rfl⟩ := Int.eq_ofNat_of_zero_le hy0
      have D := Lib.hid (Cl.sl_mono (fun _ h => h) (e5.agree (S := fun b => w2.heap.size ≤ b) (by omega)) D.out)
      have R := Lib.hid hr5
      have E := Lib.hid (E.out.trans e5)
      have B := Lib.hid (B.out.extR e5 nr)
      have s3 : w2.heap.size ≤ w5.heap.size := Nat.le_trans s3 e5.1.size
      obtain ⟨ck, hck⟩ : ∃ c, ds[k]? = some c := ⟨_, List.getElem?_eq_getElem (by omega)⟩
      have hcr := D.out
      obtain ⟨_, _, hsl, _, _, _, h4⟩ := hcr
      simp only [Value.slice.injEq, true_and] at hsl
      obtain ⟨hsa, rfl⟩ := hsl
      obtain ⟨b, off, ak, ckk, al, cl, hbo, k0, k1, k2, k3, k4, hat, hbd⟩ := Cl.get h4 hck (Ext.refl _)
      rw [hbo] at hsa
      simp only [Option.some.injEq, Addr.mk.injEq, and_true] at hsa
      obtain ⟨rfl, rfl⟩ := hsa
      have HMU := Lib.hid (fun q => specl1Mutate r (P4 + 1) ck.head _ _ w5 q R.out hat)
      clear hr5 e5 h4 hck hat hbd k4 hbo
      go_wp2_with fail
      refine (HMU.out (by omega)).mono ?_
      rintro e w7 ⟨t, v4, p3, rfl, hv3, _, hr4, hp3, e7⟩
      obtain ⟨a3, d3, rfl⟩ := at_form hv3
      have D := Lib.hid (Cl.sl_mono (fun _ h => h) (e7.agree (S := fun b => w2.heap.size ≤ b) (by omega)) D.out)
      have V := Lib.hid hv3
      have E := Lib.hid (E.out.trans e7)
      have BF := B.out.extR e7 nr
      have BX := Lib.hid BF
      obtain ⟨q0, q1, q2, q3, z0, z1, z2, z3⟩ := BF
      clear hr4 e7 hv3
      go_wp2_with fail
      refine retb4_set (p := 3) (q := 2) (T := 26) (b := w.heap.size) (by kernel_rfl) (fun _ => by kernel_rfl) (fun _ => by kernel_rfl) rfl rfl rfl BX.out ?_
      intro X hX
      exact ⟨ds, g3, o3, _, t, _, rfl, hd, Cl.sl_mono (fun b hb => by omega) (hX.agree (S := fun b => w2.heap.size ≤ b) (fun k hk h => by omega)) D.out, Tm.at_mono (fun b hb => by omega) (hX.agree (S := fun b => w2.heap.size ≤ b) (fun k hk h => by omega)) (Tm.at_mono (fun b hb => by omega) (Agree.refl _) V.out), fr_outC ((Fr.of_ext E1.out).trans ((Fr.of_extR E.out (by show w.heap.size ≤ r; omega)).trans (hX.mono (fun k _ h => by show w.heap.size ≤ k; omega))))⟩
  · go_wp2_with fail
    refine (specl1Some r P _ (by omega) R.out).mono ?_
    rintro e w6 ⟨t6, v6, p2, rfl, hv2, _, hr6, hp2, e6⟩
    have D := Lib.hid (Cl.sl_mono (fun _ h => h) (e6.agree (S := fun b => w2.heap.size ≤ b) (by omega)) D.out)
    have E := Lib.hid (E.out.trans e6)
    have B := Lib.hid (B.out.extR e6 nr)
    have s3 : w2.heap.size ≤ w6.heap.size := Nat.le_trans s3 e6.1.size
    have HMU := Lib.hid (fun q => specl1Mutate r p2 t6 v6 _ w6 q hr6 hv2)
    clear hr6 e6 hv2
    go_wp2_with fail
    refine (HMU.out (by omega)).mono ?_
    rintro e w7 ⟨t, v4, p3, rfl, hv3, _, hr4, hp3, e7⟩
    obtain ⟨a3, d3, rfl⟩ := at_form hv3
    have D := Lib.hid (Cl.sl_mono (fun _ h => h) (e7.agree (S := fun b => w2.heap.size ≤ b) (by omega)) D.out)
    have V := Lib.hid hv3
    have E := Lib.hid (E.out.trans e7)
    have BF := B.out.extR e7 nr
    have BX := Lib.hid BF
    obtain ⟨q0, q1, q2, q3, z0, z1, z2, z3⟩ := BF
    clear hr4 e7 hv3
    go_wp2_with fail
    refine retb4_set (p := 3) (q := 2) (T := 26) (b := w.heap.size) (by kernel_rfl) (fun _ => by kernel_rfl) (fun _ => by kernel_rfl) rfl rfl rfl BX.out ?_
    intro X hX
    exact ⟨ds, g3, o3, _, t, _, rfl, hd, Cl.sl_mono (fun b hb => by omega) (hX.agree (S := fun b => w2.heap.size ≤ b) (fun k hk h => by omega)) D.out, Tm.at_mono (fun b hb => by omega) (hX.agree (S := fun b => w2.heap.size ≤ b) (fun k hk h => by omega)) (Tm.at_mono (fun b hb => by omega) (Agree.refl _) V.out), fr_outC ((Fr.of_ext E1.out).trans ((Fr.of_extR E.out (by show w.heap.size ≤ r; omega)).trans (hX.mono (fun k _ h => by show w.heap.size ≤ k; omega))))⟩
end Go.Proofs.YtognkaebiafgbaaGreat

namespace Go.Proofs.YtognkaebiafgbaaGreat
open Go.RowKit Go.Sort
set_option linter.unusedVariables false
theorem ret2 {P : Program} {fn : Func} {R : Ending → World → Prop} {a : Act} {X : World} {p T b : Nat} {v0 v1 : Value}
    (hres : fn.results = #[.cell p T]) (hT : ∀ w, (isAgg T).run P w = .ok true w) (hs : ∀ w, (sizeOf T).run P w = .ok 2 w) (hp : a.tmps.getD p undef = .pointer (some ⟨b, 0, none⟩)) (hd : a.defers = [])
    (h0 : X.cell? ⟨b, 0, none⟩ = some v0) (h1 : X.cell? ⟨b, 1, none⟩ = some v1) (hR : R (.returned (.agg #[v0, v1])) X) :
    bodyPost P fn R .ret a X := by
  refine bodyPost_ret (v := .agg #[v0, v1]) ?_ hd hR
  have hl : (loadVar T ⟨b, 0, none⟩).run P X = .ok (.agg #[v0, v1]) X := by
    unfold loadVar
    simp only [Sem.run_bind, hT, Result.andThen_ok, if_true, hs]
    simp [loadCells, loadCellsFrom, go_sem, h0, h1]
  simp only [results, hres]
  have hp' : a.tmps[p]?.getD undef = .pointer (some ⟨b, 0, none⟩) := by simpa using hp
  simp [hp', asAddr, hl]
set_option maxHeartbeats 400000 in
theorem implpred (t : Tm) (v : Value) (S : Nat → Prop) (w : World) (ht : Tm.at S w t v) : Calls Tryz.prog 21 #[v] w fun e w' => e = .returned (.agg #[.string t.name, .int .i64 t.kids.length]) ∧ Ext w w' := by
  obtain ⟨a, c, rfl⟩ := at_form ht
  clear ht
  go_enter Tryz.func21, Tryz.ntmps21
  go_wp2_with fail
  refine ret2 (p := 2) (T := 50) (b := w.heap.size + 1) (v0 := .string t.name) (v1 := .int .i64 t.kids.length) (by kernel_rfl) (fun _ => by kernel_rfl) (fun _ => by kernel_rfl) rfl rfl (by go_simp) (by go_simp) ?_
  exact ⟨rfl, (Ext.alloc _ _).trans (Ext.alloc _ _)⟩
theorem predEq (s s' : ByteArray) (n n' : Int) (w : World) : (binOp .eql 50 (.agg #[.string s, .int .i64 n]) (.agg #[.string s', .int .i64 n'])).run Tryz.prog w = .ok (.bool ((s.toList == s'.toList) && (n == n'))) w := by
  have hS : Tryz.prog.underlying 50 = some (.struct (Tryz.prog.fieldsOf 50)) := by kernel_rfl
  have hp : Tryz.prog.stoodInHeld 50 = false := by kernel_rfl
  have u1 := Tryz.underlying9
  have u2 := Tryz.underlying3
  rw [run_eql_struct, show (10000 : Nat) = 9999 + 1 from rfl, run_equalIn_agg w 9999 50 _ _ hS hp]
  simp only [Program.fieldsOf, Tryz.underlying50]
  go_simp
  cases h1 : (s.toList == s'.toList)
  · simp_all
  · by_cases h2 : n = n' <;> simp_all
def matC (c : Cl) (t : Tm) : Bool := (c.head.name.toList == t.name.toList) && ((c.head.kids.length : Int) == (t.kids.length : Int))
def forK (cs : List Cl) (t : Tm) : Nat → List Int
  | 0 => []
  | k + 1 => match cs[k]? with
    | some c => if matC c t = true then forK cs t k ++ [(k : Int)] else forK cs t k
    | none => forK cs t k
theorem forK_len (cs : List Cl) (t : Tm) : ∀ k, (forK cs t k).length ≤ k
  | 0 => by simp [forK]
  | k + 1 => by
    have := forK_len cs t k
    simp only [forK]
    split
    · split <;> simp <;> omega
    · omega
theorem forK_yes {cs : List Cl} {t : Tm} {k : Nat} {c : Cl} (hc : cs[k]? = some c) (h : matC c t = true) : forK cs t (k + 1) = forK cs t k ++ [(k : Int)] := by simp only [forK, hc, h, if_true]
theorem forK_no {cs : List Cl} {t : Tm} {k : Nat} {c : Cl} (hc : cs[k]? = some c) (h : matC c t = false) : forK cs t (k + 1) = forK cs t k := by simp only [forK, hc, h]; simp
def cforF (cs : List Cl) (t : Tm) : List Int := if (prValidF cs && validF t && plainF t.kind t.name t.kids.length) = true then forK cs t cs.length else []
set_option maxRecDepth 100000 in
set_option maxHeartbeats 2000000 in
theorem implclausesFor (cs : List Cl) (t : Tm) (v : Value) (S : Nat → Prop) (w : World) (hc : Cl.sl S w cs v) : Calls Tryz.prog 20 #[v, .agg #[.string t.name, .int .i64 t.kids.length]] w (IntsOut (forK cs t cs.length) w) := by
  obtain ⟨i0, hi, hz0, hz1, hz2⟩ := info_parts info_int
  have HI := Lib.hid hi
  have HZ0 := Lib.hid hz0
  have HZ1 := Lib.hid hz1
  have HZ2 := Lib.hid hz2
  obtain ⟨a, cap, rfl, h1, h2, h3, h4⟩ := hc
  have H4 := Lib.hid h4
  clear h4 hi hz0 hz1 hz2
  go_enter Tryz.func20, Tryz.ntmps20
  go_wp2_with fail
  go_loopw [5, 10] (fun q i wr => ∃ (j : Nat), j ≤ cs.length ∧ i = .int .i64 j ∧ Hid (IntI (fun b => w.heap.size + 1 ≤ b) (forK cs t j) q wr) ∧ Ext w wr ∧ w.heap.size < wr.heap.size ∧ wr.cell? ⟨w.heap.size, 0, none⟩ = some (.string t.name) ∧ wr.cell? ⟨w.heap.size, 1, none⟩ = some (.int .i64 t.kids.length)) (fun _ i _ => cs.length - (intOf i).toNat)
  case atStart => exact ⟨0, Nat.zero_le _, rfl, Lib.hid (IntI.nil _ _), Ext.alloc _ _, by simp, by go_simp, by go_simp⟩
  case round =>
    obtain ⟨j, hj, rfl, HQ, he, hsz, p0, p1⟩ := hrel
    by_cases hlt : j < cs.length
    · obtain ⟨c, hc⟩ := cgetk hlt
      obtain ⟨b, off, ak, ck, al, cl, rfl, c0, c1, c2, c3, c4, hat, hsl⟩ := Cl.get H4.out hc he
      have HC := Lib.hid hc
      have V := Lib.hid (Tm.at_ext he hat)
      have hbw := block_lt_of_cell c0
      simp only at hbw
      clear hc hat hsl
      go_wp2_with fail
      obtain ⟨av, qc, rfl⟩ := HQ.out.form
      obtain ⟨wa, hwa⟩ : ∃ x, x = wr.alloc (.cells #[.int .i64 c.head.kind, .int .i64 c.head.n, .string c.head.name, .slice ak c.head.kids.length ck, .slice al c.body.length cl] 38) := ⟨_, rfl⟩
      rw [← hwa]
      have ea : Ext wr wa := by rw [hwa]; exact Ext.alloc _ _
      obtain ⟨x0, x1, x2, x3, x4, _⟩ := (show BoxC wa wr.heap.size (.int .i64 c.head.kind) (.int .i64 c.head.n) (.string c.head.name) (.slice ak c.head.kids.length ck) (.slice al c.body.length cl) by rw [hwa]; exact BoxC.new _ _ _ _ _ _ 38 rfl)
      clear hwa
      have k0 := cell_regrown x0
      have k1 := cell_regrown x1
      have k2 := cell_regrown x2
      have k3 := cell_regrown x3
      have k5 := cell_regrown (ea.cell p0)
      have k6 := cell_regrown (ea.cell p1)
      have HVA := Lib.hid (Tm.at_ext ea V.out)
      have cQ := quiet_call (w := wa) (fun w' e' => implpred c.head _ _ w' (Tm.at_ext e' HVA.out))
      have EA := Lib.hid ea
      have hlen := forK_len cs t j
      have HL : Hid ((forK cs t j).length < 1048576) := Lib.hid (by omega)
      clear x0 x1 x2 x3 x4 ea hlen
      have hS : Tryz.prog.underlying 50 = some (.struct (Tryz.prog.fieldsOf 50)) := by kernel_rfl
      have hp : Tryz.prog.stoodInHeld 50 = false := by kernel_rfl
      have hG : Tryz.prog.eqGuardType Tryz.prog.depth 50 = false := by kernel_rfl
      have hB := predEq c.head.name t.name c.head.kids.length t.kids.length
      cases e1 : (c.head.name.toList == t.name.toList)
      · have HN := Lib.hid (forK_no (t := t) HC.out (by unfold matC; rw [e1]; rfl))
        refine region_ext (by kernel_rfl) (by kernel_rfl) ?_
        repeat (quiet_step (exact cQ _ _))
        refine wpQuiet_nil ?_
        intro wq eq
        go_wp2_with fail
        go_roundw
        case rel => exact ⟨j + 1, by omega, by go_num, Lib.hid (by rw [HN.out]; exact (HQ.out.ext EA.out).ext eq), (he.trans EA.out).trans eq, Nat.lt_of_lt_of_le hsz (Below.size (EA.out.trans eq)), eq.cell (EA.out.cell p0), eq.cell (EA.out.cell p1)⟩
        case measure => simp [intOf]; omega
      cases e2 : ((c.head.kids.length : Int) == (t.kids.length : Int))
      · have HN := Lib.hid (forK_no (t := t) HC.out (by unfold matC; rw [e1, e2]; rfl))
        refine region_ext (by kernel_rfl) (by kernel_rfl) ?_
        repeat (quiet_step (exact cQ _ _))
        refine wpQuiet_nil ?_
        intro wq eq
        go_wp2_with fail
        go_roundw
        case rel => exact ⟨j + 1, by omega, by go_num, Lib.hid (by rw [HN.out]; exact (HQ.out.ext EA.out).ext eq), (he.trans EA.out).trans eq, Nat.lt_of_lt_of_le hsz (Below.size (EA.out.trans eq)), eq.cell (EA.out.cell p0), eq.cell (EA.out.cell p1)⟩
        case measure => simp [intOf]; omega
      · have HN := Lib.hid (forK_yes (t := t) HC.out (by unfold matC; rw [e1, e2]; rfl))
        refine region_ext (by kernel_rfl) (by kernel_rfl) ?_
        repeat (quiet_step (exact cQ _ _))
        refine wpQuiet_nil ?_
        intro wq eq
        have Q1 := Lib.hid ((HQ.out.ext EA.out).ext eq)
        have p0' := eq.cell (EA.out.cell p0)
        have p1' := eq.cell (EA.out.cell p1)
        have hs1 := Below.size (EA.out.trans eq)
        have E1 := Lib.hid ((he.trans EA.out).trans eq)
        clear p0 p1
        have HZB : Hid (∀ b, wq.heap.size ≤ b → w.heap.size + 1 ≤ b) := Lib.hid (fun b h => by omega)
        clear k0 k1 k2 k3 k5 k6 cQ
        go_wp2_with (at_builtin; refine wpList_append_int (w1 := wq) rfl (.tmp 20) (.tmp 22) 29 rfl (fun b => w.heap.size + 1 ≤ b) i0 Tryz.underlying29 HI.out HZ0.out HZ1.out HZ2.out _ (forK cs t j) j rfl Q1.out rfl HL.out HZB.out (by simp) ?_; intro av2 cv2 w2 hI2 hf2; have I2 := Lib.hid hI2; have F2 := Lib.hid hf2; clear hI2 hf2)
        go_roundw
        case rel =>
          have hl2 : (forK cs t j ++ [(j : Int)]).length = (forK cs t j).length + 1 := by simp
          exact ⟨j + 1, by omega, by go_num, Lib.hid (by rw [HN.out]; exact I2.out), ((Fr.of_ext E1.out).trans F2.out).toExt (fun k hk h => by omega), by have := F2.out.size; omega, F2.out.cell (by omega) p0', F2.out.cell (by omega) p1'⟩
        case measure => simp [intOf]; omega
    · have hjl : j = cs.length := by omega
      subst hjl
      go_wp2_with fail
      go_ret
      exact ⟨_, rfl, HQ.out.zone (fun b h => by omega), he⟩
set_option maxRecDepth 100000 in
set_option maxHeartbeats 2000000 in
theorem implClausesFor (cs : List Cl) (t : Tm) (v v' : Value) (S S' : Nat → Prop) (w : World) (hc : Cl.sl S w cs v) (ht : Tm.at S' w t v') : Calls Tryz.prog 5 #[v, v'] w (IntsOut (cforF cs t) w) := by
  have HP := Lib.hid (fun w' (e' : Ext w w') => implProgramValid cs v S w' (Cl.sl_ext e' hc))
  have HT := Lib.hid (fun w' (e' : Ext w w') => implTermValid t v' S' w' (Tm.at_ext e' ht))
  have HL := Lib.hid (fun w' (e' : Ext w w') => implisPlain_t t v' S' w' (Tm.at_ext e' ht))
  have HD := Lib.hid (fun w' (e' : Ext w w') => implpred t v' S' w' (Tm.at_ext e' ht))
  have HC := Lib.hid (fun w' (e' : Ext w w') => implclausesFor cs t v S w' (Cl.sl_ext e' hc))
  obtain ⟨a, c, rfl⟩ := at_form ht
  obtain ⟨b, d, rfl, _⟩ := hc
  clear ht
  cases h1 : prValidF cs
  · have HF : Hid (cforF cs t = []) := Lib.hid (by unfold cforF; rw [h1]; rfl)
    have H1 := Lib.hid h1
    clear h1
    go_enter Tryz.func5, Tryz.ntmps5
    go_wp2_with fail
    refine (HP.out _ (Ext.alloc _ _)).mono ?_
    rw [H1.out]
    rintro e w1 ⟨rfl, q⟩
    have hz := Below.size q
    go_wp2_with fail
    go_ret
    exact ⟨_, rfl, by rw [HF.out]; exact IntI.nil _ _, (Ext.alloc _ _).trans q⟩
  cases h2 : validF t
  · have HF : Hid (cforF cs t = []) := Lib.hid (by unfold cforF; rw [h1, h2]; rfl)
    have H1 := Lib.hid h1
    have H2 := Lib.hid h2
    clear h1 h2
    go_enter Tryz.func5, Tryz.ntmps5
    go_wp2_with fail
    refine (HP.out _ (Ext.alloc _ _)).mono ?_
    rw [H1.out]
    rintro e w1 ⟨rfl, q⟩
    have X := Lib.hid ((BoxT.new w (.int .i64 t.kind) (.int .i64 t.n) (.string t.name) (.slice a t.kids.length c) 26 rfl).ext q)
    have E := Lib.hid ((Ext.alloc w (.cells #[.int .i64 t.kind, .int .i64 t.n, .string t.name, .slice a t.kids.length c] 26)).trans q)
    clear q
    obtain ⟨x0, x1, x2, x3, _, _, _, _⟩ := X.out
    go_wp2_with fail
    refine (HT.out _ E.out).mono ?_
    rw [H2.out]
    rintro e w2 ⟨rfl, q⟩
    have hz := Below.size q
    have hz0 := Below.size E.out
    go_wp2_with fail
    go_ret
    exact ⟨_, rfl, by rw [HF.out]; exact IntI.nil _ _, E.out.trans q⟩
  cases h3 : plainF t.kind t.name t.kids.length
  · have HF : Hid (cforF cs t = []) := Lib.hid (by unfold cforF; rw [h1, h2, h3]; rfl)
    have H1 := Lib.hid h1
    have H2 := Lib.hid h2
    have H3 := Lib.hid h3
    clear h1 h2 h3
    go_enter Tryz.func5, Tryz.ntmps5
    go_wp2_with fail
    refine (HP.out _ (Ext.alloc _ _)).mono ?_
    rw [H1.out]
    rintro e w1 ⟨rfl, q⟩
    have X := Lib.hid ((BoxT.new w (.int .i64 t.kind) (.int .i64 t.n) (.string t.name) (.slice a t.kids.length c) 26 rfl).ext q)
    have E := Lib.hid ((Ext.alloc w (.cells #[.int .i64 t.kind, .int .i64 t.n, .string t.name, .slice a t.kids.length c] 26)).trans q)
    clear q
    obtain ⟨x0, x1, x2, x3, _, _, _, _⟩ := X.out
    go_wp2_with fail
    refine (HT.out _ E.out).mono ?_
    rw [H2.out]
    rintro e w2 ⟨rfl, q⟩
    have X := Lib.hid (X.out.ext q)
    have E := Lib.hid (E.out.trans q)
    clear q x0 x1 x2 x3
    obtain ⟨x0, x1, x2, x3, _, _, _, _⟩ := X.out
    go_wp2_with fail
    refine (HL.out _ E.out).mono ?_
    rw [H3.out]
    rintro e w3 ⟨rfl, q⟩
    have hz := Below.size q
    have hz0 := Below.size E.out
    go_wp2_with fail
    go_ret
    exact ⟨_, rfl, by rw [HF.out]; exact IntI.nil _ _, E.out.trans q⟩
  · have HF : Hid (cforF cs t = forK cs t cs.length) := Lib.hid (by unfold cforF; rw [h1, h2, h3]; rfl)
    have H1 := Lib.hid h1
    have H2 := Lib.hid h2
    have H3 := Lib.hid h3
    clear h1 h2 h3
    go_enter Tryz.func5, Tryz.ntmps5
    go_wp2_with fail
    refine (HP.out _ (Ext.alloc _ _)).mono ?_
    rw [H1.out]
    rintro e w1 ⟨rfl, q⟩
    have X := Lib.hid ((BoxT.new w (.int .i64 t.kind) (.int .i64 t.n) (.string t.name) (.slice a t.kids.length c) 26 rfl).ext q)
    have E := Lib.hid ((Ext.alloc w (.cells #[.int .i64 t.kind, .int .i64 t.n, .string t.name, .slice a t.kids.length c] 26)).trans q)
    clear q
    obtain ⟨x0, x1, x2, x3, _, _, _, _⟩ := X.out
    go_wp2_with fail
    refine (HT.out _ E.out).mono ?_
    rw [H2.out]
    rintro e w2 ⟨rfl, q⟩
    have X := Lib.hid (X.out.ext q)
    have E := Lib.hid (E.out.trans q)
    clear q x0 x1 x2 x3
    obtain ⟨x0, x1, x2, x3, _, _, _, _⟩ := X.out
    go_wp2_with fail
    refine (HL.out _ E.out).mono ?_
    rw [H3.out]
    rintro e w3 ⟨rfl, q⟩
    have X := Lib.hid (X.out.ext q)
    have E := Lib.hid (E.out.trans q)
    clear q x0 x1 x2 x3
    obtain ⟨x0, x1, x2, x3, _, _, _, _⟩ := X.out
    go_wp2_with fail
    refine (HD.out _ E.out).mono ?_
    rintro e w4 ⟨rfl, q⟩
    have E := Lib.hid (E.out.trans q)
    clear q x0 x1 x2 x3
    go_wp2_with fail
    refine (HC.out _ E.out).mono ?_
    rintro e w5 ⟨v5, rfl, hI, q⟩
    have hz0 := Below.size E.out
    have I := Lib.hid hI
    have Q := Lib.hid q
    clear hI q
    go_wp2_with fail
    go_ret
    exact ⟨_, rfl, by rw [HF.out]; exact I.out.zone (fun b h => by omega), E.out.trans Q.out⟩
end Go.Proofs.YtognkaebiafgbaaGreat
