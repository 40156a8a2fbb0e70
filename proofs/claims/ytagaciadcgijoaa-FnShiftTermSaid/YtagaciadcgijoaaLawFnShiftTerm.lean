/-
  For every code FnShiftTerm returns true: shifting back yields the term, and a shifted term is a variant.
-/
import Derived.Test.YtagaciadcgijoaaRows
import Derived.Test.YtagaciadcgijoaaShiftT
import Derived.Test.YtagaciadcgijoaaDrawSh
import Derived.Test.YtagaciadcgijoaaVariantI
import Derived.Test.YtagaciadcgijoaaBRep
import Derived.ProofKit
import Derived.OpenShut
import Derived.ShutString
namespace Go.Proofs.Ytagaciadcgijoaa.fnShiftTerm
open Go.ChangeShapes Go.WideShapes Go.ChangeAt Go.RowKit
open Go.ChangeMaps (open_string shut_string)
set_option linter.unusedVariables false

theorem own : ownKnob Try.prog.godebug = none := by kernel_rfl
theorem laidOut : laidOutB Try.prog = true := by kernel_rfl

mutual
theorem shift_back (m : Int) : ∀ t : Tm, shiftS (-m) (shiftS m t) = t
  | .mk k n s ks => by
    simp only [shiftS]
    rw [shiftL_back m ks]
    split
    · rename_i h
      congr 1
      omega
    · rfl
theorem shiftL_back (m : Int) : ∀ ts : List Tm, shiftSL (-m) (shiftSL m ts) = ts
  | [] => rfl
  | t :: ts => by
    simp only [shiftSL]
    rw [shift_back m t, shiftL_back m ts]
end
theorem has_shift (m : Int) (zs : List Int) (x : Int) : hasI (zs.map (· + m)) (x + m) = hasI zs x := by
  induction zs with
  | nil => rfl
  | cons z zs ih =>
    simp only [hasI] at ih
    simp only [hasI, List.map_cons, List.contains_cons]
    rw [ih]
    congr 1
    by_cases h : x = z
    · subst h; simp
    · have h2 : ¬ x + m = z + m := by omega
      rw [beq_eq_false_iff_ne.2 h, beq_eq_false_iff_ne.2 h2]
theorem idx_shift (m : Int) : ∀ (zs : List Int) (x : Int), idxI (zs.map (· + m)) (x + m) = idxI zs x
  | [], _ => rfl
  | z :: zs, x => by
    simp only [List.map_cons, idxI, idx_shift m zs x]
    by_cases h : z = x
    · rw [if_pos h, if_pos (by omega)]
    · rw [if_neg h, if_neg (by omega)]
mutual
theorem vars_shift (m : Int) : ∀ (t : Tm) (zs : List Int), varsF (shiftS m t) (zs.map (· + m)) = (varsF t zs).map (· + m)
  | .mk k n s ks, zs => by
    simp only [shiftS, varsF]
    by_cases hk : k = 1
    · subst hk
      simp only [if_true, has_shift]
      cases h : hasI zs n
      · have := varsL_shift m ks (zs ++ [n])
        simpa using this
      · simpa using varsL_shift m ks zs
    · have hkb : (k == 1) = false := by simpa using hk
      rw [if_neg hk, hkb]
      simpa using varsL_shift m ks zs
theorem varsL_shift (m : Int) : ∀ (ts : List Tm) (zs : List Int), varsL (shiftSL m ts) (zs.map (· + m)) = (varsL ts zs).map (· + m)
  | [], zs => rfl
  | t :: ts, zs => by
    simp only [shiftSL, varsL]
    rw [vars_shift m t zs, varsL_shift m ts (varsF t zs)]
end
mutual
theorem num_shift (m : Int) (zs : List Int) : ∀ t : Tm, mapF (numT (zs.map (· + m))) (shiftS m t) = mapF (numT zs) t
  | .mk k n s ks => by
    simp only [shiftS, mapF]
    by_cases hk : k = 1
    · rw [if_pos hk, if_pos hk, if_pos hk]
      simp only [numT, idx_shift]
    · rw [if_neg hk, if_neg hk, if_neg hk, numL_shift m zs ks]
theorem numL_shift (m : Int) (zs : List Int) : ∀ ts : List Tm, mapL (numT (zs.map (· + m))) (shiftSL m ts) = mapL (numT zs) ts
  | [] => rfl
  | t :: ts => by
    simp only [shiftSL, mapL]
    rw [num_shift m zs t, numL_shift m zs ts]
end
theorem ren_shift (m : Int) (t : Tm) : ren1 (shiftS m t) = ren1 t := by
  have h := vars_shift m t []
  simp only [List.map_nil] at h
  unfold ren1
  rw [h]
  exact num_shift m _ t
theorem shift_facts {t x : Tm} {n : Int} (h : shiftB t n = true) (hx : shiftR t n = x) : shiftB x (-n) = true ∧ shiftR x (-n) = t ∧ variantF x t = true := by
  have hb := h
  unfold shiftB at hb
  simp only [Bool.and_eq_true, decide_eq_true_eq] at hb
  obtain ⟨⟨h1, h2, h3⟩, h4⟩ := hb
  have hx' : x = shiftS n t := by rw [← hx, shift_yes h]
  subst hx'
  have hb2 : shiftB (shiftS n t) (-n) = true := by
    unfold shiftB
    rw [shift_back, h1, h4, decide_eq_true (by omega), decide_eq_true (by omega)]
    rfl
  refine ⟨hb2, by rw [shift_yes hb2, shift_back], ?_⟩
  unfold variantF
  rw [h1, h4, ren_shift, same_refl]
  rfl

set_option maxRecDepth 100000 in
set_option maxHeartbeats 8000000 in
theorem walk (v0 : Value) (w : World) (hv0 : BytesAt w v0) :
    Calls Try.prog 8 #[v0] w fun e w' => e = .returned (.bool true) ∧ Below w.heap.size w w' := by
  have HV := Lib.hid hv0
  obtain ⟨a, len, cap, rfl, h1, h2, h3⟩ := hv0
  clear h3
  by_cases hl : len ≤ 1048576
  · go_enter Try.func8, Try.ntmps8
    go_wp2_with fail
    refine (drawShiftTerm _ _ HV.out).mono ?_
    rintro e w1 ⟨t, v1, n, rfl, hn, hv1, q⟩
    obtain ⟨aX, cX, rfl⟩ := at_form hv1
    obtain ⟨hn1, hn2⟩ : -26 ≤ n ∧ n ≤ 26 := by simp at hn; omega
    clear hn
    have B := Lib.hid q
    have V := Lib.hid hv1
    clear q hv1
    obtain ⟨x, hx⟩ : ∃ x, shiftR t n = x := ⟨_, rfl⟩
    have HX := Lib.hid hx
    clear hx
    obtain ⟨ok, hok⟩ : ∃ b, shiftB t n = b := ⟨_, rfl⟩
    have HOK := Lib.hid hok
    clear hok
    go_wp2_with fail
    refine (implShiftTerm t n _ _ _ (by omega) (by omega) (Tm.at_ext (Ext.alloc _ _) V.out)).mono ?_
    rw [HX.out, HOK.out]
    rintro e w2 ⟨aG, cG, rfl, o, q⟩
    have X := Lib.hid ((BoxT.new w1 (.int .i64 t.kind) (.int .i64 t.n) (.string t.name) (.slice aX t.kids.length cX) 25 rfl).ext q)
    replace q := (Ext.alloc _ _).trans q
    have z2 : w1.heap.size + 1 ≤ w2.heap.size := by have := Below.size q; have := block_lt_of_cell X.out.1; simp only at this; omega
    have B := Lib.hid (B.out.trans q)
    have V := Lib.hid (Tm.at_ext q V.out)
    clear q
    have VG := Lib.hid (own_flat _ _ _ o)
    clear o
    obtain ⟨kx0, kx1, kx2, kx3, _, _, _, _⟩ := X.out
    have lx := X.out.lt
    go_wp2_with fail
    refine (specShiftTerm t n _ _ _ (by omega) (by omega) (Tm.at_ext (Ext.alloc _ _) V.out)).mono ?_
    rw [HX.out, HOK.out]
    rintro e w3 ⟨aW, cW, rfl, o, q⟩
    clear kx0 kx1 kx2 kx3
    clear lx
    have G := Lib.hid ((BoxT.new w2 (.int .i64 x.kind) (.int .i64 x.n) (.string x.name) (.slice aG x.kids.length cG) 25 rfl).ext q)
    replace q := (Ext.alloc _ _).trans q
    have z3 : w2.heap.size + 1 ≤ w3.heap.size := by have := Below.size q; have := block_lt_of_cell G.out.1; simp only at this; omega
    have B := Lib.hid (B.out.trans q)
    have V := Lib.hid (Tm.at_ext q V.out)
    have X := Lib.hid (X.out.ext q)
    have VG := Lib.hid (Tm.at_ext q VG.out)
    clear q
    have VW := Lib.hid (own_flat _ _ _ o)
    clear o
    cases ok
    · have tok : True := trivial
      obtain ⟨kg0, kg1, kg2, kg3, _, _, _, _⟩ := G.out
      have lg := G.out.lt
      go_wp2_with fail
      refine (implTermSame _ x x _ _ _ _ _ (Nat.le_refl _) (Tm.at_ext (Ext.alloc _ _) VG.out) (Tm.at_ext (Ext.alloc _ _) VW.out)).mono ?_
      rw [same_refl]
      rintro e w4 ⟨rfl, q⟩
      clear kg0 kg1 kg2 kg3
      clear lg
      have W := Lib.hid ((BoxT.new w3 (.int .i64 x.kind) (.int .i64 x.n) (.string x.name) (.slice aW x.kids.length cW) 25 rfl).ext q)
      replace q := (Ext.alloc _ _).trans q
      have z4 : w3.heap.size + 1 ≤ w4.heap.size := by have := Below.size q; have := block_lt_of_cell W.out.1; simp only at this; omega
      have B := Lib.hid (B.out.trans q)
      have V := Lib.hid (Tm.at_ext q V.out)
      have X := Lib.hid (X.out.ext q)
      have VG := Lib.hid (Tm.at_ext q VG.out)
      have G := Lib.hid (G.out.ext q)
      have VW := Lib.hid (Tm.at_ext q VW.out)
      clear q
      obtain ⟨kg0, kg1, kg2, kg3, _, _, _, _⟩ := G.out
      obtain ⟨kw0, kw1, kw2, kw3, _, _, _, _⟩ := W.out
      go_wp2_with fail
      refine (implTermSame _ x x _ _ _ _ _ (Nat.le_refl _) VG.out VW.out).mono ?_
      rw [same_refl]
      rintro e w5 ⟨rfl, q⟩
      clear kg0 kg1 kg2 kg3
      clear kw0 kw1 kw2 kw3
      have z5 : w4.heap.size ≤ w5.heap.size := Below.size q
      have B := Lib.hid (B.out.trans q)
      have V := Lib.hid (Tm.at_ext q V.out)
      have X := Lib.hid (X.out.ext q)
      have VG := Lib.hid (Tm.at_ext q VG.out)
      have G := Lib.hid (G.out.ext q)
      have VW := Lib.hid (Tm.at_ext q VW.out)
      have W := Lib.hid (W.out.ext q)
      clear q
      go_wp2_with fail
      go_ret
      exact ⟨rfl, B.out⟩
    · have tok : True := trivial
      obtain ⟨kg0, kg1, kg2, kg3, _, _, _, _⟩ := G.out
      have lg := G.out.lt
      go_wp2_with fail
      refine (implTermSame _ x x _ _ _ _ _ (Nat.le_refl _) (Tm.at_ext (Ext.alloc _ _) VG.out) (Tm.at_ext (Ext.alloc _ _) VW.out)).mono ?_
      rw [same_refl]
      rintro e w4 ⟨rfl, q⟩
      clear kg0 kg1 kg2 kg3
      clear lg
      have W := Lib.hid ((BoxT.new w3 (.int .i64 x.kind) (.int .i64 x.n) (.string x.name) (.slice aW x.kids.length cW) 25 rfl).ext q)
      replace q := (Ext.alloc _ _).trans q
      have z4 : w3.heap.size + 1 ≤ w4.heap.size := by have := Below.size q; have := block_lt_of_cell W.out.1; simp only at this; omega
      have B := Lib.hid (B.out.trans q)
      have V := Lib.hid (Tm.at_ext q V.out)
      have X := Lib.hid (X.out.ext q)
      have VG := Lib.hid (Tm.at_ext q VG.out)
      have G := Lib.hid (G.out.ext q)
      have VW := Lib.hid (Tm.at_ext q VW.out)
      clear q
      have HS := Lib.hid (shift_facts HOK.out HX.out)
      obtain ⟨kg0, kg1, kg2, kg3, _, _, _, _⟩ := G.out
      go_wp2_with fail
      refine (implShiftTerm x (-n) _ _ _ (by omega) (by omega) VG.out).mono ?_
      rw [HS.out.2.1, HS.out.1]
      rintro e w5 ⟨aY, cY, rfl, o, q⟩
      clear kg0 kg1 kg2 kg3
      have z5 : w4.heap.size ≤ w5.heap.size := Below.size q
      have B := Lib.hid (B.out.trans q)
      have V := Lib.hid (Tm.at_ext q V.out)
      have X := Lib.hid (X.out.ext q)
      have VG := Lib.hid (Tm.at_ext q VG.out)
      have G := Lib.hid (G.out.ext q)
      have VW := Lib.hid (Tm.at_ext q VW.out)
      have W := Lib.hid (W.out.ext q)
      clear q
      have VY := Lib.hid (own_flat _ _ _ o)
      clear o
      obtain ⟨kx0, kx1, kx2, kx3, _, _, _, _⟩ := X.out
      have lx := X.out.lt
      go_wp2_with fail
      refine (implTermSame _ t t _ _ _ _ _ (Nat.le_refl _) (Tm.at_ext (Ext.alloc _ _) VY.out) (Tm.at_ext (Ext.alloc _ _) V.out)).mono ?_
      rw [same_refl]
      rintro e w6 ⟨rfl, q⟩
      clear kx0 kx1 kx2 kx3
      clear lx
      have Y := Lib.hid ((BoxT.new w5 (.int .i64 t.kind) (.int .i64 t.n) (.string t.name) (.slice aY t.kids.length cY) 25 rfl).ext q)
      replace q := (Ext.alloc _ _).trans q
      have z6 : w5.heap.size + 1 ≤ w6.heap.size := by have := Below.size q; have := block_lt_of_cell Y.out.1; simp only at this; omega
      have B := Lib.hid (B.out.trans q)
      have V := Lib.hid (Tm.at_ext q V.out)
      have X := Lib.hid (X.out.ext q)
      have VG := Lib.hid (Tm.at_ext q VG.out)
      have G := Lib.hid (G.out.ext q)
      have VW := Lib.hid (Tm.at_ext q VW.out)
      have W := Lib.hid (W.out.ext q)
      have VY := Lib.hid (Tm.at_ext q VY.out)
      clear q
      obtain ⟨kg0, kg1, kg2, kg3, _, _, _, _⟩ := G.out
      obtain ⟨kx0, kx1, kx2, kx3, _, _, _, _⟩ := X.out
      go_wp2_with fail
      refine (implVariantTerms x t _ _ _ _ _ VG.out V.out).mono ?_
      rw [HS.out.2.2]
      rintro e w7 ⟨rfl, q⟩
      clear kg0 kg1 kg2 kg3
      clear kx0 kx1 kx2 kx3
      have z7 : w6.heap.size ≤ w7.heap.size := Below.size q
      have B := Lib.hid (B.out.trans q)
      have V := Lib.hid (Tm.at_ext q V.out)
      have X := Lib.hid (X.out.ext q)
      have VG := Lib.hid (Tm.at_ext q VG.out)
      have G := Lib.hid (G.out.ext q)
      have VW := Lib.hid (Tm.at_ext q VW.out)
      have W := Lib.hid (W.out.ext q)
      have VY := Lib.hid (Tm.at_ext q VY.out)
      have Y := Lib.hid (Y.out.ext q)
      clear q
      go_wp2_with fail
      go_ret
      exact ⟨rfl, B.out⟩
  · go_enter Try.func8, Try.ntmps8
    go_wp2_with fail
    go_ret
    exact ⟨rfl, Below.refl _ _⟩


set_option maxRecDepth 100000 in
theorem lifted (os : Os) (started : os.Started) (H : Type) (enc : TypeId × Value → H) :
    ReturnsInHanded {} Try.checked os 8 .any (Rows.fnShiftTermSpec.pre6 enc Try.prog Try.f8 Rows.fnShiftTermRow.domain false) (Rows.fnShiftTermSpec.post enc Try.prog Try.f8 false true false false) := by
  refine returnsInHanded_of_change (C := Try.checked) own started (by kernel_rfl) Try.func8
    (ChangeSpec.witness6 (enc := enc) (C := Try.checked) false ⟨#[], #[.slice none 0 0], []⟩ 8 (by kernel_rfl) (by kernel_rfl) (by kernel_rfl) (by kernel_rfl)) ?_
  intro W base args ds gs before hval0 hW hcnd _
  have hval : ∀ (j : Nat) t v, Try.f8.params[j]? = some t → args[j]? = some v → Value.okWide Try.prog W .any base t v := hval0
  have hW' := hW
  obtain ⟨p, q, hA0, hV, rfl, hfz, hnd⟩ := hW
  have hA : DataW.TrodAll enc Try.prog W 0 (fun _ => true) true Try.f8.params.toList args.toList ds p := hA0
  rw [Try.params8] at hA hval
  obtain ⟨v0, vs0, d0, ds0, p0, q0, hargs, rfl, rfl, h0, r0⟩ := trodAll_cons hA
  obtain ⟨rfl, rfl, rfl⟩ := trodAll_nil r0
  obtain rfl : args = #[v0] := by cases args; simp_all
  obtain ⟨rfl, rfl⟩ := trodVars_none hV
  have k0 := h0
  have lt0 : ∀ x ∈ p0, x.block < W.heap.size := by obtain ⟨m, hm⟩ := k0; exact DataW.trod_lt m _ _ _ hm
  obtain ⟨a0, len0, cap0, rfl⟩ := okWide_slice Try.underlying22 (hval 0 22 v0 rfl rfl)
  have w0 := bytes_of_trod h0
  clear hA0 hval0 hval
  refine (walk _ W w0).mono fun e W' ⟨he, bel⟩ => ?_
  subst he
  exact ⟨_, rfl, _, _, _, [], _, [], hW', trodAll_mk1 (shut_bool Try.underlying4 _), (trodAll_cons_mk (Below.trod laidOut (by kernel_rfl) (of_decide_eq_true (by kernel_rfl)) k0 bel lt0) trodAll_mk0), rfl, bel.frame _, fun h => by cases h⟩

set_option maxRecDepth 100000 in
theorem over : Rows.fnShiftTermRow.holds Try.pinned (OpenSpec.ofChange Rows.fnShiftTermSpec) :=
  OpenClaim.holds_of_wide 8 Try.f8 rfl rfl rfl rfl rfl rfl rfl ⟨rfl, rfl, rfl, rfl, rfl⟩ rfl rfl rfl rfl rfl (by kernel_rfl) Try.func8 (by kernel_rfl)
    (of_decide_eq_true (by kernel_rfl)) (by unfold Func.isWrapper; first | (rw [if_pos (by decide +kernel)]; kernel_rfl) | (rw [if_neg (by decide +kernel)]; exact ⟨rfl, rfl⟩))
    (fun os started H enc _ => lifted os started H enc)

/-- the statement -/
theorem proved : Rows.FnShiftTermSaid := over
end Go.Proofs.Ytagaciadcgijoaa.fnShiftTerm
