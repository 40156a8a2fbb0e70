/-
  For every code FnGeneralizeSelf returns true: the generalization of a term with itself, or with an instance of it, is the term, up to the names of variables.
-/
import Derived.Test.YteplfajhmpmklaaRows
import Derived.ProofKit
import Derived.OpenShut
import Derived.ShutString
import Derived.Test.YteplfajhmpmklaaMg43
import Derived.Test.YteplfajhmpmklaaMg42
import Derived.Test.YteplfajhmpmklaaMg49
import Derived.Test.YteplfajhmpmklaaMg50
import Derived.Test.YteplfajhmpmklaaMg54
import Derived.Test.YteplfajhmpmklaaMg55
namespace Go.Proofs.Yteplfajhmpmklaa.fnGeneralizeSelf
open Go.ChangeShapes Go.WideShapes Go.ChangeAt Go.RowKit
open Go.ChangeMaps (open_string shut_string)
set_option linter.unusedVariables false

theorem own : ownKnob Try.prog.godebug = none := by kernel_rfl
theorem laidOut : laidOutB Try.prog = true := by kernel_rfl

theorem calls_eq {P : Program} {f : FuncId} {args : Array Value} {w : World} {a b : Bool} {M : World → Prop} (h : Calls P f args w fun e w' => e = .returned (.bool a) ∧ M w') (e : a = b) : Calls P f args w fun e w' => e = .returned (.bool b) ∧ M w' := by
  rw [← e]; exact h
theorem calls_gen {P : Program} {f : FuncId} {args : Array Value} {w : World} {r r' : Tm} {a b : Bool} (h : Calls P f args w (TmBO r a w)) (e : r = r') (e' : a = b) : Calls P f args w (TmBO r' b w) := by
  rw [← e, ← e']; exact h

set_option maxRecDepth 100000 in
set_option maxHeartbeats 8000000 in
theorem walk (v0 : Value) (w : World) (hv0 : BytesAt w v0) :
    Calls Try.prog 7 #[v0] w fun e w' => e = .returned (.bool true) ∧ Below w.heap.size w w' := by
  have HV := Lib.hid hv0
  obtain ⟨a, len, cap, rfl, h1, h2, h3⟩ := hv0
  clear h3
  by_cases hl : len ≤ 1048576
  · go_enter Try.func7, Try.ntmps7
    go_wp2_with fail
    refine (drawGeneralize _ _ HV.out).mono ?_
    rintro e w1 ⟨t, u, v1, v2, rfl, hv1, hv2, q⟩
    obtain ⟨a1, c1, rfl⟩ := at_form hv1
    obtain ⟨a2, c2, rfl⟩ := at_form hv2
    have ea := (Ext.alloc w1 (.cells #[.int .i64 t.kind, .int .i64 t.n, .string t.name, .slice a1 t.kids.length c1] 29)).trans (Ext.alloc _ (.cells #[.int .i64 u.kind, .int .i64 u.n, .string u.name, .slice a2 u.kids.length c2] 29))
    have B := Lib.hid (q.trans ea)
    have X := Lib.hid ((BoxT.new w1 (.int .i64 t.kind) (.int .i64 t.n) (.string t.name) (.slice a1 t.kids.length c1) 29 rfl).ext (Ext.alloc _ (.cells #[.int .i64 u.kind, .int .i64 u.n, .string u.name, .slice a2 u.kids.length c2] 29)))
    have Y := Lib.hid (BoxT.new (w1.alloc (.cells #[.int .i64 t.kind, .int .i64 t.n, .string t.name, .slice a1 t.kids.length c1] 29)) (.int .i64 u.kind) (.int .i64 u.n) (.string u.name) (.slice a2 u.kids.length c2) 29 (b := w1.heap.size + 1) (by simp))
    have V := Lib.hid (Tm.at_ext ea hv1)
    have U := Lib.hid (Tm.at_ext ea hv2)
    clear q ea hv1 hv2
    obtain ⟨bt, hbt⟩ : ∃ b, validF t = b := ⟨_, rfl⟩
    have HBT := Lib.hid hbt
    clear hbt
    obtain ⟨r, hr⟩ : ∃ r, genR t t = r := ⟨_, rfl⟩
    have HR := Lib.hid hr
    clear hr
    obtain ⟨kx0, kx1, kx2, kx3, _, _, _, _⟩ := X.out
    go_wp2_with fail
    refine (calls_gen (implGeneralize t t _ _ _ _ V.out V.out) HR.out ((gen_self t).trans HBT.out)).mono ?_
    rintro e w2 ⟨aG, cG, rfl, ro, q⟩
    clear kx0 kx1 kx2 kx3
    have B := Lib.hid (B.out.trans q)
    have X := Lib.hid (X.out.ext q)
    have Y := Lib.hid (Y.out.ext q)
    have V := Lib.hid (Tm.at_ext q V.out)
    have U := Lib.hid (Tm.at_ext q U.out)
    clear q
    have VG := Lib.hid (own_flat _ _ _ ro)
    clear ro
    obtain ⟨kx0, kx1, kx2, kx3, _, _, _, _⟩ := X.out
    have lx := X.out.lt
    go_wp2_with fail
    refine (calls_gen (specGeneralize t t _ _ _ _ (Tm.at_ext (Ext.alloc _ _) V.out) (Tm.at_ext (Ext.alloc _ _) V.out)) HR.out ((gen_self t).trans HBT.out)).mono ?_
    rintro e w3 ⟨aW, cW, rfl, ro, q⟩
    clear kx0 kx1 kx2 kx3
    clear lx
    have XG := Lib.hid ((BoxT.new w2 (.int .i64 r.kind) (.int .i64 r.n) (.string r.name) (.slice aG r.kids.length cG) 29 rfl).ext q)
    replace q := (Ext.alloc _ _).trans q
    have B := Lib.hid (B.out.trans q)
    have X := Lib.hid (X.out.ext q)
    have Y := Lib.hid (Y.out.ext q)
    have V := Lib.hid (Tm.at_ext q V.out)
    have U := Lib.hid (Tm.at_ext q U.out)
    have VG := Lib.hid (Tm.at_ext q VG.out)
    clear q
    have VW := Lib.hid (own_flat _ _ _ ro)
    clear ro
    obtain ⟨kxg0, kxg1, kxg2, kxg3, _, _, _, _⟩ := XG.out
    have lxg := XG.out.lt
    go_wp2_with fail
    refine (calls_eq (implTermSame _ r r _ _ _ _ _ (Nat.le_refl _) (Tm.at_ext (Ext.alloc _ _) VG.out) (Tm.at_ext (Ext.alloc _ _) VW.out)) (same_refl r)).mono ?_
    rintro e w4 ⟨rfl, q⟩
    clear kxg0 kxg1 kxg2 kxg3
    clear lxg
    have XW := Lib.hid ((BoxT.new w3 (.int .i64 r.kind) (.int .i64 r.n) (.string r.name) (.slice aW r.kids.length cW) 29 rfl).ext q)
    replace q := (Ext.alloc _ _).trans q
    have B := Lib.hid (B.out.trans q)
    have X := Lib.hid (X.out.ext q)
    have Y := Lib.hid (Y.out.ext q)
    have V := Lib.hid (Tm.at_ext q V.out)
    have U := Lib.hid (Tm.at_ext q U.out)
    have VG := Lib.hid (Tm.at_ext q VG.out)
    have XG := Lib.hid (XG.out.ext q)
    have VW := Lib.hid (Tm.at_ext q VW.out)
    clear q
    cases bt
    · have tok : True := trivial
      obtain ⟨kx0, kx1, kx2, kx3, _, _, _, _⟩ := X.out
      go_wp2_with fail
      refine (calls_eq (implTermValid t _ _ _ V.out) HBT.out).mono ?_
      rintro e w5 ⟨rfl, q⟩
      clear kx0 kx1 kx2 kx3
      have B := Lib.hid (B.out.trans q)
      have X := Lib.hid (X.out.ext q)
      have Y := Lib.hid (Y.out.ext q)
      have V := Lib.hid (Tm.at_ext q V.out)
      have U := Lib.hid (Tm.at_ext q U.out)
      have VG := Lib.hid (Tm.at_ext q VG.out)
      have XG := Lib.hid (XG.out.ext q)
      have VW := Lib.hid (Tm.at_ext q VW.out)
      have XW := Lib.hid (XW.out.ext q)
      clear q
      obtain ⟨kxg0, kxg1, kxg2, kxg3, _, _, _, _⟩ := XG.out
      obtain ⟨kxw0, kxw1, kxw2, kxw3, _, _, _, _⟩ := XW.out
      go_wp2_with fail
      refine (calls_eq (implTermSame _ r r _ _ _ _ _ (Nat.le_refl _) VG.out VW.out) (same_refl r)).mono ?_
      rintro e w6 ⟨rfl, q⟩
      clear kxg0 kxg1 kxg2 kxg3
      clear kxw0 kxw1 kxw2 kxw3
      have B := Lib.hid (B.out.trans q)
      have X := Lib.hid (X.out.ext q)
      have Y := Lib.hid (Y.out.ext q)
      have V := Lib.hid (Tm.at_ext q V.out)
      have U := Lib.hid (Tm.at_ext q U.out)
      have VG := Lib.hid (Tm.at_ext q VG.out)
      have XG := Lib.hid (XG.out.ext q)
      have VW := Lib.hid (Tm.at_ext q VW.out)
      have XW := Lib.hid (XW.out.ext q)
      clear q
      obtain ⟨kx0, kx1, kx2, kx3, _, _, _, _⟩ := X.out
      go_wp2_with fail
      refine (calls_eq (implTermValid t _ _ _ V.out) HBT.out).mono ?_
      rintro e w7 ⟨rfl, q⟩
      clear kx0 kx1 kx2 kx3
      have B := Lib.hid (B.out.trans q)
      have X := Lib.hid (X.out.ext q)
      have Y := Lib.hid (Y.out.ext q)
      have V := Lib.hid (Tm.at_ext q V.out)
      have U := Lib.hid (Tm.at_ext q U.out)
      have VG := Lib.hid (Tm.at_ext q VG.out)
      have XG := Lib.hid (XG.out.ext q)
      have VW := Lib.hid (Tm.at_ext q VW.out)
      have XW := Lib.hid (XW.out.ext q)
      clear q
      go_wp2_with fail
      go_ret
      exact ⟨rfl, B.out⟩
    · have HRR : Hid (r = ren1 t) := Lib.hid (HR.out.symm.trans (gen_above ((inst_refl t).trans HBT.out)).2)
      obtain ⟨kx0, kx1, kx2, kx3, _, _, _, _⟩ := X.out
      go_wp2_with fail
      refine (calls_eq (implTermValid t _ _ _ V.out) HBT.out).mono ?_
      rintro e w5 ⟨rfl, q⟩
      clear kx0 kx1 kx2 kx3
      have B := Lib.hid (B.out.trans q)
      have X := Lib.hid (X.out.ext q)
      have Y := Lib.hid (Y.out.ext q)
      have V := Lib.hid (Tm.at_ext q V.out)
      have U := Lib.hid (Tm.at_ext q U.out)
      have VG := Lib.hid (Tm.at_ext q VG.out)
      have XG := Lib.hid (XG.out.ext q)
      have VW := Lib.hid (Tm.at_ext q VW.out)
      have XW := Lib.hid (XW.out.ext q)
      clear q
      obtain ⟨b2, hb2⟩ : ∃ b, genB t u = b := ⟨_, rfl⟩
      have HB2 := Lib.hid hb2
      clear hb2
      obtain ⟨r2, hr2⟩ : ∃ r, genR t u = r := ⟨_, rfl⟩
      have HR2 := Lib.hid hr2
      clear hr2
      obtain ⟨kx0, kx1, kx2, kx3, _, _, _, _⟩ := X.out
      obtain ⟨ky0, ky1, ky2, ky3, _, _, _, _⟩ := Y.out
      go_wp2_with fail
      refine (calls_gen (implGeneralize t u _ _ _ _ V.out U.out) HR2.out HB2.out).mono ?_
      rintro e w6 ⟨aH, cH, rfl, ro, q⟩
      clear kx0 kx1 kx2 kx3
      clear ky0 ky1 ky2 ky3
      have B := Lib.hid (B.out.trans q)
      have X := Lib.hid (X.out.ext q)
      have Y := Lib.hid (Y.out.ext q)
      have V := Lib.hid (Tm.at_ext q V.out)
      have U := Lib.hid (Tm.at_ext q U.out)
      have VG := Lib.hid (Tm.at_ext q VG.out)
      have XG := Lib.hid (XG.out.ext q)
      have VW := Lib.hid (Tm.at_ext q VW.out)
      have XW := Lib.hid (XW.out.ext q)
      clear q
      have VH := Lib.hid (own_flat _ _ _ ro)
      clear ro
      obtain ⟨kxg0, kxg1, kxg2, kxg3, _, _, _, _⟩ := XG.out
      have lxg := XG.out.lt
      obtain ⟨kx0, kx1, kx2, kx3, _, _, _, _⟩ := X.out
      have lx := X.out.lt
      go_wp2_with fail
      refine (calls_eq (implVariantTerms r t _ _ _ _ _ (Tm.at_ext (Ext.alloc _ _) VG.out) (Tm.at_ext (Ext.alloc _ _) V.out)) ((congrArg (fun z => variantF z t) HRR.out).trans (ren_variant HBT.out))).mono ?_
      rintro e w7 ⟨rfl, q⟩
      clear kxg0 kxg1 kxg2 kxg3
      clear lxg
      clear kx0 kx1 kx2 kx3
      clear lx
      have XH := Lib.hid ((BoxT.new w6 (.int .i64 r2.kind) (.int .i64 r2.n) (.string r2.name) (.slice aH r2.kids.length cH) 29 rfl).ext q)
      replace q := (Ext.alloc _ _).trans q
      have B := Lib.hid (B.out.trans q)
      have X := Lib.hid (X.out.ext q)
      have Y := Lib.hid (Y.out.ext q)
      have V := Lib.hid (Tm.at_ext q V.out)
      have U := Lib.hid (Tm.at_ext q U.out)
      have VG := Lib.hid (Tm.at_ext q VG.out)
      have XG := Lib.hid (XG.out.ext q)
      have VW := Lib.hid (Tm.at_ext q VW.out)
      have XW := Lib.hid (XW.out.ext q)
      have VH := Lib.hid (Tm.at_ext q VH.out)
      clear q
      obtain ⟨pi, hpi⟩ : ∃ b, instF u t = b := ⟨_, rfl⟩
      have HPI := Lib.hid hpi
      clear hpi
      obtain ⟨ky0, ky1, ky2, ky3, _, _, _, _⟩ := Y.out
      obtain ⟨kx0, kx1, kx2, kx3, _, _, _, _⟩ := X.out
      go_wp2_with fail
      refine (calls_eq (implInstanceOf u t _ _ _ _ _ U.out V.out) HPI.out).mono ?_
      rintro e w8 ⟨rfl, q⟩
      clear ky0 ky1 ky2 ky3
      clear kx0 kx1 kx2 kx3
      have B := Lib.hid (B.out.trans q)
      have X := Lib.hid (X.out.ext q)
      have Y := Lib.hid (Y.out.ext q)
      have V := Lib.hid (Tm.at_ext q V.out)
      have U := Lib.hid (Tm.at_ext q U.out)
      have VG := Lib.hid (Tm.at_ext q VG.out)
      have XG := Lib.hid (XG.out.ext q)
      have VW := Lib.hid (Tm.at_ext q VW.out)
      have XW := Lib.hid (XW.out.ext q)
      have VH := Lib.hid (Tm.at_ext q VH.out)
      have XH := Lib.hid (XH.out.ext q)
      clear q
      cases pi
      · have tok : True := trivial
        go_wp2_with fail
        go_ret
        exact ⟨rfl, B.out⟩
      · obtain rfl : b2 = true := HB2.out.symm.trans (gen_above HPI.out).1
        obtain ⟨kxh0, kxh1, kxh2, kxh3, _, _, _, _⟩ := XH.out
        obtain ⟨kx0, kx1, kx2, kx3, _, _, _, _⟩ := X.out
        go_wp2_with fail
        refine (calls_eq (implVariantTerms r2 t _ _ _ _ _ VH.out V.out) ((congrArg (fun z => variantF z t) (HR2.out.symm.trans (gen_above HPI.out).2)).trans (ren_variant HBT.out))).mono ?_
        rintro e w9 ⟨rfl, q⟩
        clear kxh0 kxh1 kxh2 kxh3
        clear kx0 kx1 kx2 kx3
        have B := Lib.hid (B.out.trans q)
        have X := Lib.hid (X.out.ext q)
        have Y := Lib.hid (Y.out.ext q)
        have V := Lib.hid (Tm.at_ext q V.out)
        have U := Lib.hid (Tm.at_ext q U.out)
        have VG := Lib.hid (Tm.at_ext q VG.out)
        have XG := Lib.hid (XG.out.ext q)
        have VW := Lib.hid (Tm.at_ext q VW.out)
        have XW := Lib.hid (XW.out.ext q)
        have VH := Lib.hid (Tm.at_ext q VH.out)
        have XH := Lib.hid (XH.out.ext q)
        clear q
        go_wp2_with fail
        go_ret
        exact ⟨rfl, B.out⟩
  · go_enter Try.func7, Try.ntmps7
    go_wp2_with fail
    go_ret
    exact ⟨rfl, Below.refl _ _⟩


set_option maxRecDepth 100000 in
theorem lifted (os : Os) (started : os.Started) (H : Type) (enc : TypeId × Value → H) :
    ReturnsInHanded {} Try.checked os 7 .any (Rows.fnGeneralizeSelfSpec.pre6 enc Try.prog Try.f7 Rows.fnGeneralizeSelfRow.domain false) (Rows.fnGeneralizeSelfSpec.post enc Try.prog Try.f7 false true false false) := by
  refine returnsInHanded_of_change (C := Try.checked) own started (by kernel_rfl) Try.func7
    (ChangeSpec.witness6 (enc := enc) (C := Try.checked) false ⟨#[], #[.slice none 0 0], []⟩ 8 (by kernel_rfl) (by kernel_rfl) (by kernel_rfl) (by kernel_rfl)) ?_
  intro W base args ds gs before hval0 hW hcnd _
  have hval : ∀ (j : Nat) t v, Try.f7.params[j]? = some t → args[j]? = some v → Value.okWide Try.prog W .any base t v := hval0
  have hW' := hW
  obtain ⟨p, q, hA0, hV, rfl, hfz, hnd⟩ := hW
  have hA : DataW.TrodAll enc Try.prog W 0 (fun _ => true) true Try.f7.params.toList args.toList ds p := hA0
  rw [Try.params7] at hA hval
  obtain ⟨v0, vs0, d0, ds0, p0, q0, hargs, rfl, rfl, h0, r0⟩ := trodAll_cons hA
  obtain ⟨rfl, rfl, rfl⟩ := trodAll_nil r0
  obtain rfl : args = #[v0] := by cases args; simp_all
  obtain ⟨rfl, rfl⟩ := trodVars_none hV
  have k0 := h0
  have lt0 : ∀ x ∈ p0, x.block < W.heap.size := by obtain ⟨m, hm⟩ := k0; exact DataW.trod_lt m _ _ _ hm
  obtain ⟨a0, len0, cap0, rfl⟩ := okWide_slice Try.underlying32 (hval 0 32 v0 rfl rfl)
  have w0 := bytes_of_trod h0
  clear hA0 hval0 hval
  refine (walk _ W w0).mono fun e W' ⟨he, bel⟩ => ?_
  subst he
  exact ⟨_, rfl, _, _, _, [], _, [], hW', trodAll_mk1 (shut_bool Try.underlying4 _), (trodAll_cons_mk (Below.trod laidOut (by kernel_rfl) (of_decide_eq_true (by kernel_rfl)) k0 bel lt0) trodAll_mk0), rfl, bel.frame _, fun h => by cases h⟩

set_option maxRecDepth 100000 in
theorem over : Rows.fnGeneralizeSelfRow.holds Try.pinned (OpenSpec.ofChange Rows.fnGeneralizeSelfSpec) :=
  OpenClaim.holds_of_wide 7 Try.f7 rfl rfl rfl rfl rfl rfl rfl ⟨rfl, rfl, rfl, rfl, rfl⟩ rfl rfl rfl rfl rfl (by kernel_rfl) Try.func7 (by kernel_rfl)
    (of_decide_eq_true (by kernel_rfl)) (by unfold Func.isWrapper; first | (rw [if_pos (by decide +kernel)]; kernel_rfl) | (rw [if_neg (by decide +kernel)]; exact ⟨rfl, rfl⟩))
    (fun os started H enc _ => lifted os started H enc)

/-- the statement -/
theorem proved : Rows.FnGeneralizeSelfSaid := over
end Go.Proofs.Yteplfajhmpmklaa.fnGeneralizeSelf
