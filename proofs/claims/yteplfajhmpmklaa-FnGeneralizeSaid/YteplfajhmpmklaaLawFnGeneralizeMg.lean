/-
  For every two codes FnGeneralize returns true: generalizations are least, and the same in both orders up to the names of variables.
-/
import Derived.Test.YteplfajhmpmklaaRows
import Derived.ProofKit
import Derived.OpenShut
import Derived.ShutString
import Derived.Test.YteplfajhmpmklaaMg43
import Derived.Test.YteplfajhmpmklaaMg42
import Derived.Test.YteplfajhmpmklaaMg49
import Derived.Test.YteplfajhmpmklaaMg50
import Derived.Test.YteplfajhmpmklaaMg54
import Derived.Test.YteplfajhmpmklaaMg55
namespace Go.Proofs.Yteplfajhmpmklaa.fnGeneralize
open Go.ChangeShapes Go.WideShapes Go.ChangeAt Go.RowKit
open Go.ChangeMaps (open_string shut_string)
set_option linter.unusedVariables false

theorem own : ownKnob Try.prog.godebug = none := by kernel_rfl
theorem laidOut : laidOutB Try.prog = true := by kernel_rfl

theorem calls_eq {P : Program} {f : FuncId} {args : Array Value} {w : World} {a b : Bool} {M : World → Prop} (h : Calls P f args w fun e w' => e = .returned (.bool a) ∧ M w') (e : a = b) : Calls P f args w fun e w' => e = .returned (.bool b) ∧ M w' := by
  rw [← e]; exact h
theorem calls_gen {P : Program} {f : FuncId} {args : Array Value} {w : World} {r r' : Tm} {a b : Bool} (h : Calls P f args w (TmBO r a w)) (e : r = r') (e' : a = b) : Calls P f args w (TmBO r' b w) := by
  rw [← e, ← e']; exact h

set_option maxRecDepth 100000 in
set_option maxHeartbeats 8000000 in
theorem walk (v0 : Value) (v1 : Value) (w : World) (hv0 : BytesAt w v0) (hv1 : BytesAt w v1) :
    Calls Try.prog 8 #[v0, v1] w fun e w' => e = .returned (.bool true) ∧ Below w.heap.size w w' := by
  have HV := Lib.hid hv0
  have HM := Lib.hid hv1
  obtain ⟨a, len, cap, rfl, h1, h2, h3⟩ := hv0
  obtain ⟨ma, mlen, mcap, rfl, h1m, h2m, h3m⟩ := hv1
  clear h3 h3m
  by_cases hl : len ≤ 1048576
  · by_cases hml : mlen ≤ 1048576
    · go_enter Try.func8, Try.ntmps8
      go_wp2_with fail
      refine (drawGeneralize _ _ HV.out).mono ?_
      rintro e w1 ⟨t, u, v1, v2, rfl, hv1, hv2, q⟩
      obtain ⟨a1, c1, rfl⟩ := at_form hv1
      obtain ⟨a2, c2, rfl⟩ := at_form hv2
      have ea := (Ext.alloc w1 (.cells #[.int .i64 t.kind, .int .i64 t.n, .string t.name, .slice a1 t.kids.length c1] 29)).trans (Ext.alloc _ (.cells #[.int .i64 u.kind, .int .i64 u.n, .string u.name, .slice a2 u.kids.length c2] 29))
      have B := Lib.hid (q.trans ea)
      have X := Lib.hid ((BoxT.new w1 (.int .i64 t.kind) (.int .i64 t.n) (.string t.name) (.slice a1 t.kids.length c1) 29 rfl).ext (Ext.alloc _ (.cells #[.int .i64 u.kind, .int .i64 u.n, .string u.name, .slice a2 u.kids.length c2] 29)))
      have Y := Lib.hid (BoxT.new (w1.alloc (.cells #[.int .i64 t.kind, .int .i64 t.n, .string t.name, .slice a1 t.kids.length c1] 29)) (.int .i64 u.kind) (.int .i64 u.n) (.string u.name) (.slice a2 u.kids.length c2) 29 (b := w1.heap.size + 1) (by simp))
      have V := Lib.hid (Tm.at_ext ea hv1)
      have U := Lib.hid (Tm.at_ext ea hv2)
      clear q ea hv1 hv2
      obtain ⟨ok, hok⟩ : ∃ b, genB t u = b := ⟨_, rfl⟩
      have HOK := Lib.hid hok
      clear hok
      obtain ⟨r, hr⟩ : ∃ r, genR t u = r := ⟨_, rfl⟩
      have HR := Lib.hid hr
      clear hr
      obtain ⟨kx0, kx1, kx2, kx3, _, _, _, _⟩ := X.out
      obtain ⟨ky0, ky1, ky2, ky3, _, _, _, _⟩ := Y.out
      go_wp2_with fail
      refine (calls_gen (implGeneralize t u _ _ _ _ V.out U.out) HR.out HOK.out).mono ?_
      rintro e w2 ⟨aG, cG, rfl, ro, q⟩
      clear kx0 kx1 kx2 kx3
      clear ky0 ky1 ky2 ky3
      have B := Lib.hid (B.out.trans q)
      have X := Lib.hid (X.out.ext q)
      have Y := Lib.hid (Y.out.ext q)
      have V := Lib.hid (Tm.at_ext q V.out)
      have U := Lib.hid (Tm.at_ext q U.out)
      clear q
      have VG := Lib.hid (own_flat _ _ _ ro)
      clear ro
      obtain ⟨kx0, kx1, kx2, kx3, _, _, _, _⟩ := X.out
      have lx := X.out.lt
      obtain ⟨ky0, ky1, ky2, ky3, _, _, _, _⟩ := Y.out
      have ly := Y.out.lt
      go_wp2_with fail
      refine (calls_gen (specGeneralize t u _ _ _ _ (Tm.at_ext (Ext.alloc _ _) V.out) (Tm.at_ext (Ext.alloc _ _) U.out)) HR.out HOK.out).mono ?_
      rintro e w3 ⟨aW, cW, rfl, ro, q⟩
      clear kx0 kx1 kx2 kx3
      clear lx
      clear ky0 ky1 ky2 ky3
      clear ly
      have XG := Lib.hid ((BoxT.new w2 (.int .i64 r.kind) (.int .i64 r.n) (.string r.name) (.slice aG r.kids.length cG) 29 rfl).ext q)
      replace q := (Ext.alloc _ _).trans q
      have B := Lib.hid (B.out.trans q)
      have X := Lib.hid (X.out.ext q)
      have Y := Lib.hid (Y.out.ext q)
      have V := Lib.hid (Tm.at_ext q V.out)
      have U := Lib.hid (Tm.at_ext q U.out)
      have VG := Lib.hid (Tm.at_ext q VG.out)
      clear q
      have VW := Lib.hid (own_flat _ _ _ ro)
      clear ro
      obtain ⟨kxg0, kxg1, kxg2, kxg3, _, _, _, _⟩ := XG.out
      have lxg := XG.out.lt
      go_wp2_with fail
      refine (calls_eq (implTermSame _ r r _ _ _ _ _ (Nat.le_refl _) (Tm.at_ext (Ext.alloc _ _) VG.out) (Tm.at_ext (Ext.alloc _ _) VW.out)) (same_refl r)).mono ?_
      rintro e w4 ⟨rfl, q⟩
      clear kxg0 kxg1 kxg2 kxg3
      clear lxg
      have XW := Lib.hid ((BoxT.new w3 (.int .i64 r.kind) (.int .i64 r.n) (.string r.name) (.slice aW r.kids.length cW) 29 rfl).ext q)
      replace q := (Ext.alloc _ _).trans q
      have B := Lib.hid (B.out.trans q)
      have X := Lib.hid (X.out.ext q)
      have Y := Lib.hid (Y.out.ext q)
      have V := Lib.hid (Tm.at_ext q V.out)
      have U := Lib.hid (Tm.at_ext q U.out)
      have VG := Lib.hid (Tm.at_ext q VG.out)
      have XG := Lib.hid (XG.out.ext q)
      have VW := Lib.hid (Tm.at_ext q VW.out)
      clear q
      cases ok
      · have tok : True := trivial
        obtain ⟨kxg0, kxg1, kxg2, kxg3, _, _, _, _⟩ := XG.out
        obtain ⟨kxw0, kxw1, kxw2, kxw3, _, _, _, _⟩ := XW.out
        go_wp2_with fail
        refine (calls_eq (implTermSame _ r r _ _ _ _ _ (Nat.le_refl _) VG.out VW.out) (same_refl r)).mono ?_
        rintro e w5 ⟨rfl, q⟩
        clear kxg0 kxg1 kxg2 kxg3
        clear kxw0 kxw1 kxw2 kxw3
        have B := Lib.hid (B.out.trans q)
        have X := Lib.hid (X.out.ext q)
        have Y := Lib.hid (Y.out.ext q)
        have V := Lib.hid (Tm.at_ext q V.out)
        have U := Lib.hid (Tm.at_ext q U.out)
        have VG := Lib.hid (Tm.at_ext q VG.out)
        have XG := Lib.hid (XG.out.ext q)
        have VW := Lib.hid (Tm.at_ext q VW.out)
        have XW := Lib.hid (XW.out.ext q)
        clear q
        go_wp2_with fail
        go_ret
        exact ⟨rfl, B.out⟩
      · have HGF := Lib.hid (gen_facts HOK.out HR.out)
        go_wp2_with fail
        refine (drawTermValid _ _ (BytesAt.ext HM.out B.out)).mono ?_
        rintro e w5 ⟨c, v9, rfl, hv9, q⟩
        have B := Lib.hid (B.out.trans q)
        have X := Lib.hid (X.out.ext q)
        have Y := Lib.hid (Y.out.ext q)
        have V := Lib.hid (Tm.at_ext q V.out)
        have U := Lib.hid (Tm.at_ext q U.out)
        have VG := Lib.hid (Tm.at_ext q VG.out)
        have XG := Lib.hid (XG.out.ext q)
        have VW := Lib.hid (Tm.at_ext q VW.out)
        have XW := Lib.hid (XW.out.ext q)
        clear q
        obtain ⟨a9, c9, rfl⟩ := at_form hv9
        have VC := Lib.hid hv9
        clear hv9
        obtain ⟨p1, hp1⟩ : ∃ b, instF t c = b := ⟨_, rfl⟩
        obtain ⟨p2, hp2⟩ : ∃ b, instF u c = b := ⟨_, rfl⟩
        have P1 := Lib.hid hp1
        have P2 := Lib.hid hp2
        clear hp1 hp2
        obtain ⟨kx0, kx1, kx2, kx3, _, _, _, _⟩ := X.out
        have lx := X.out.lt
        go_wp2_with fail
        refine (calls_eq (implInstanceOf t c _ _ _ _ _ (Tm.at_ext (Ext.alloc _ _) V.out) (Tm.at_ext (Ext.alloc _ _) VC.out)) P1.out).mono ?_
        rintro e w6 ⟨rfl, q⟩
        clear kx0 kx1 kx2 kx3
        clear lx
        have XC := Lib.hid ((BoxT.new w5 (.int .i64 c.kind) (.int .i64 c.n) (.string c.name) (.slice a9 c.kids.length c9) 29 rfl).ext q)
        replace q := (Ext.alloc _ _).trans q
        have B := Lib.hid (B.out.trans q)
        have X := Lib.hid (X.out.ext q)
        have Y := Lib.hid (Y.out.ext q)
        have V := Lib.hid (Tm.at_ext q V.out)
        have U := Lib.hid (Tm.at_ext q U.out)
        have VG := Lib.hid (Tm.at_ext q VG.out)
        have XG := Lib.hid (XG.out.ext q)
        have VW := Lib.hid (Tm.at_ext q VW.out)
        have XW := Lib.hid (XW.out.ext q)
        have VC := Lib.hid (Tm.at_ext q VC.out)
        clear q
        cases p1
        · have tok : True := trivial
          obtain ⟨ky0, ky1, ky2, ky3, _, _, _, _⟩ := Y.out
          obtain ⟨kx0, kx1, kx2, kx3, _, _, _, _⟩ := X.out
          go_wp2_with fail
          refine (calls_gen (implGeneralize u t _ _ _ _ U.out V.out) HGF.out.2.2.2.2.1 HGF.out.2.2.2.1).mono ?_
          rintro e w7 ⟨aH, cH, rfl, ro, q⟩
          clear ky0 ky1 ky2 ky3
          clear kx0 kx1 kx2 kx3
          have B := Lib.hid (B.out.trans q)
          have X := Lib.hid (X.out.ext q)
          have Y := Lib.hid (Y.out.ext q)
          have V := Lib.hid (Tm.at_ext q V.out)
          have U := Lib.hid (Tm.at_ext q U.out)
          have VG := Lib.hid (Tm.at_ext q VG.out)
          have XG := Lib.hid (XG.out.ext q)
          have VW := Lib.hid (Tm.at_ext q VW.out)
          have XW := Lib.hid (XW.out.ext q)
          have VC := Lib.hid (Tm.at_ext q VC.out)
          have XC := Lib.hid (XC.out.ext q)
          clear q
          have VH := Lib.hid (own_flat _ _ _ ro)
          clear ro
          obtain ⟨kx0, kx1, kx2, kx3, _, _, _, _⟩ := X.out
          have lx := X.out.lt
          obtain ⟨kxg0, kxg1, kxg2, kxg3, _, _, _, _⟩ := XG.out
          have lxg := XG.out.lt
          go_wp2_with fail
          refine (calls_eq (implInstanceOf t r _ _ _ _ _ (Tm.at_ext (Ext.alloc _ _) V.out) (Tm.at_ext (Ext.alloc _ _) VG.out)) HGF.out.1).mono ?_
          rintro e w8 ⟨rfl, q⟩
          clear kx0 kx1 kx2 kx3
          clear lx
          clear kxg0 kxg1 kxg2 kxg3
          clear lxg
          have XH := Lib.hid ((BoxT.new w7 (.int .i64 r.kind) (.int .i64 r.n) (.string r.name) (.slice aH r.kids.length cH) 29 rfl).ext q)
          replace q := (Ext.alloc _ _).trans q
          have B := Lib.hid (B.out.trans q)
          have X := Lib.hid (X.out.ext q)
          have Y := Lib.hid (Y.out.ext q)
          have V := Lib.hid (Tm.at_ext q V.out)
          have U := Lib.hid (Tm.at_ext q U.out)
          have VG := Lib.hid (Tm.at_ext q VG.out)
          have XG := Lib.hid (XG.out.ext q)
          have VW := Lib.hid (Tm.at_ext q VW.out)
          have XW := Lib.hid (XW.out.ext q)
          have VC := Lib.hid (Tm.at_ext q VC.out)
          have XC := Lib.hid (XC.out.ext q)
          have VH := Lib.hid (Tm.at_ext q VH.out)
          clear q
          obtain ⟨ky0, ky1, ky2, ky3, _, _, _, _⟩ := Y.out
          obtain ⟨kxg0, kxg1, kxg2, kxg3, _, _, _, _⟩ := XG.out
          go_wp2_with fail
          refine (calls_eq (implInstanceOf u r _ _ _ _ _ U.out VG.out) HGF.out.2.1).mono ?_
          rintro e w9 ⟨rfl, q⟩
          clear ky0 ky1 ky2 ky3
          clear kxg0 kxg1 kxg2 kxg3
          have B := Lib.hid (B.out.trans q)
          have X := Lib.hid (X.out.ext q)
          have Y := Lib.hid (Y.out.ext q)
          have V := Lib.hid (Tm.at_ext q V.out)
          have U := Lib.hid (Tm.at_ext q U.out)
          have VG := Lib.hid (Tm.at_ext q VG.out)
          have XG := Lib.hid (XG.out.ext q)
          have VW := Lib.hid (Tm.at_ext q VW.out)
          have XW := Lib.hid (XW.out.ext q)
          have VC := Lib.hid (Tm.at_ext q VC.out)
          have XC := Lib.hid (XC.out.ext q)
          have VH := Lib.hid (Tm.at_ext q VH.out)
          have XH := Lib.hid (XH.out.ext q)
          clear q
          obtain ⟨kxg0, kxg1, kxg2, kxg3, _, _, _, _⟩ := XG.out
          obtain ⟨kxh0, kxh1, kxh2, kxh3, _, _, _, _⟩ := XH.out
          go_wp2_with fail
          refine (calls_eq (implVariantTerms r r _ _ _ _ _ VG.out VH.out) HGF.out.2.2.2.2.2.1).mono ?_
          rintro e w10 ⟨rfl, q⟩
          clear kxg0 kxg1 kxg2 kxg3
          clear kxh0 kxh1 kxh2 kxh3
          have B := Lib.hid (B.out.trans q)
          have X := Lib.hid (X.out.ext q)
          have Y := Lib.hid (Y.out.ext q)
          have V := Lib.hid (Tm.at_ext q V.out)
          have U := Lib.hid (Tm.at_ext q U.out)
          have VG := Lib.hid (Tm.at_ext q VG.out)
          have XG := Lib.hid (XG.out.ext q)
          have VW := Lib.hid (Tm.at_ext q VW.out)
          have XW := Lib.hid (XW.out.ext q)
          have VC := Lib.hid (Tm.at_ext q VC.out)
          have XC := Lib.hid (XC.out.ext q)
          have VH := Lib.hid (Tm.at_ext q VH.out)
          have XH := Lib.hid (XH.out.ext q)
          clear q
          go_wp2_with fail
          go_ret
          exact ⟨rfl, B.out⟩
        · have tok : True := trivial
          obtain ⟨ky0, ky1, ky2, ky3, _, _, _, _⟩ := Y.out
          obtain ⟨kxc0, kxc1, kxc2, kxc3, _, _, _, _⟩ := XC.out
          go_wp2_with fail
          refine (calls_eq (implInstanceOf u c _ _ _ _ _ U.out VC.out) P2.out).mono ?_
          rintro e w7 ⟨rfl, q⟩
          clear ky0 ky1 ky2 ky3
          clear kxc0 kxc1 kxc2 kxc3
          have B := Lib.hid (B.out.trans q)
          have X := Lib.hid (X.out.ext q)
          have Y := Lib.hid (Y.out.ext q)
          have V := Lib.hid (Tm.at_ext q V.out)
          have U := Lib.hid (Tm.at_ext q U.out)
          have VG := Lib.hid (Tm.at_ext q VG.out)
          have XG := Lib.hid (XG.out.ext q)
          have VW := Lib.hid (Tm.at_ext q VW.out)
          have XW := Lib.hid (XW.out.ext q)
          have VC := Lib.hid (Tm.at_ext q VC.out)
          have XC := Lib.hid (XC.out.ext q)
          clear q
          cases p2
          · have tok : True := trivial
            obtain ⟨ky0, ky1, ky2, ky3, _, _, _, _⟩ := Y.out
            obtain ⟨kx0, kx1, kx2, kx3, _, _, _, _⟩ := X.out
            go_wp2_with fail
            refine (calls_gen (implGeneralize u t _ _ _ _ U.out V.out) HGF.out.2.2.2.2.1 HGF.out.2.2.2.1).mono ?_
            rintro e w8 ⟨aH, cH, rfl, ro, q⟩
            clear ky0 ky1 ky2 ky3
            clear kx0 kx1 kx2 kx3
            have B := Lib.hid (B.out.trans q)
            have X := Lib.hid (X.out.ext q)
            have Y := Lib.hid (Y.out.ext q)
            have V := Lib.hid (Tm.at_ext q V.out)
            have U := Lib.hid (Tm.at_ext q U.out)
            have VG := Lib.hid (Tm.at_ext q VG.out)
            have XG := Lib.hid (XG.out.ext q)
            have VW := Lib.hid (Tm.at_ext q VW.out)
            have XW := Lib.hid (XW.out.ext q)
            have VC := Lib.hid (Tm.at_ext q VC.out)
            have XC := Lib.hid (XC.out.ext q)
            clear q
            have VH := Lib.hid (own_flat _ _ _ ro)
            clear ro
            obtain ⟨kx0, kx1, kx2, kx3, _, _, _, _⟩ := X.out
            have lx := X.out.lt
            obtain ⟨kxg0, kxg1, kxg2, kxg3, _, _, _, _⟩ := XG.out
            have lxg := XG.out.lt
            go_wp2_with fail
            refine (calls_eq (implInstanceOf t r _ _ _ _ _ (Tm.at_ext (Ext.alloc _ _) V.out) (Tm.at_ext (Ext.alloc _ _) VG.out)) HGF.out.1).mono ?_
            rintro e w9 ⟨rfl, q⟩
            clear kx0 kx1 kx2 kx3
            clear lx
            clear kxg0 kxg1 kxg2 kxg3
            clear lxg
            have XH := Lib.hid ((BoxT.new w8 (.int .i64 r.kind) (.int .i64 r.n) (.string r.name) (.slice aH r.kids.length cH) 29 rfl).ext q)
            replace q := (Ext.alloc _ _).trans q
            have B := Lib.hid (B.out.trans q)
            have X := Lib.hid (X.out.ext q)
            have Y := Lib.hid (Y.out.ext q)
            have V := Lib.hid (Tm.at_ext q V.out)
            have U := Lib.hid (Tm.at_ext q U.out)
            have VG := Lib.hid (Tm.at_ext q VG.out)
            have XG := Lib.hid (XG.out.ext q)
            have VW := Lib.hid (Tm.at_ext q VW.out)
            have XW := Lib.hid (XW.out.ext q)
            have VC := Lib.hid (Tm.at_ext q VC.out)
            have XC := Lib.hid (XC.out.ext q)
            have VH := Lib.hid (Tm.at_ext q VH.out)
            clear q
            obtain ⟨ky0, ky1, ky2, ky3, _, _, _, _⟩ := Y.out
            obtain ⟨kxg0, kxg1, kxg2, kxg3, _, _, _, _⟩ := XG.out
            go_wp2_with fail
            refine (calls_eq (implInstanceOf u r _ _ _ _ _ U.out VG.out) HGF.out.2.1).mono ?_
            rintro e w10 ⟨rfl, q⟩
            clear ky0 ky1 ky2 ky3
            clear kxg0 kxg1 kxg2 kxg3
            have B := Lib.hid (B.out.trans q)
            have X := Lib.hid (X.out.ext q)
            have Y := Lib.hid (Y.out.ext q)
            have V := Lib.hid (Tm.at_ext q V.out)
            have U := Lib.hid (Tm.at_ext q U.out)
            have VG := Lib.hid (Tm.at_ext q VG.out)
            have XG := Lib.hid (XG.out.ext q)
            have VW := Lib.hid (Tm.at_ext q VW.out)
            have XW := Lib.hid (XW.out.ext q)
            have VC := Lib.hid (Tm.at_ext q VC.out)
            have XC := Lib.hid (XC.out.ext q)
            have VH := Lib.hid (Tm.at_ext q VH.out)
            have XH := Lib.hid (XH.out.ext q)
            clear q
            obtain ⟨kxg0, kxg1, kxg2, kxg3, _, _, _, _⟩ := XG.out
            obtain ⟨kxh0, kxh1, kxh2, kxh3, _, _, _, _⟩ := XH.out
            go_wp2_with fail
            refine (calls_eq (implVariantTerms r r _ _ _ _ _ VG.out VH.out) HGF.out.2.2.2.2.2.1).mono ?_
            rintro e w11 ⟨rfl, q⟩
            clear kxg0 kxg1 kxg2 kxg3
            clear kxh0 kxh1 kxh2 kxh3
            have B := Lib.hid (B.out.trans q)
            have X := Lib.hid (X.out.ext q)
            have Y := Lib.hid (Y.out.ext q)
            have V := Lib.hid (Tm.at_ext q V.out)
            have U := Lib.hid (Tm.at_ext q U.out)
            have VG := Lib.hid (Tm.at_ext q VG.out)
            have XG := Lib.hid (XG.out.ext q)
            have VW := Lib.hid (Tm.at_ext q VW.out)
            have XW := Lib.hid (XW.out.ext q)
            have VC := Lib.hid (Tm.at_ext q VC.out)
            have XC := Lib.hid (XC.out.ext q)
            have VH := Lib.hid (Tm.at_ext q VH.out)
            have XH := Lib.hid (XH.out.ext q)
            clear q
            go_wp2_with fail
            go_ret
            exact ⟨rfl, B.out⟩
          · have tok : True := trivial
            obtain ⟨ky0, ky1, ky2, ky3, _, _, _, _⟩ := Y.out
            obtain ⟨kx0, kx1, kx2, kx3, _, _, _, _⟩ := X.out
            go_wp2_with fail
            refine (calls_gen (implGeneralize u t _ _ _ _ U.out V.out) HGF.out.2.2.2.2.1 HGF.out.2.2.2.1).mono ?_
            rintro e w8 ⟨aH, cH, rfl, ro, q⟩
            clear ky0 ky1 ky2 ky3
            clear kx0 kx1 kx2 kx3
            have B := Lib.hid (B.out.trans q)
            have X := Lib.hid (X.out.ext q)
            have Y := Lib.hid (Y.out.ext q)
            have V := Lib.hid (Tm.at_ext q V.out)
            have U := Lib.hid (Tm.at_ext q U.out)
            have VG := Lib.hid (Tm.at_ext q VG.out)
            have XG := Lib.hid (XG.out.ext q)
            have VW := Lib.hid (Tm.at_ext q VW.out)
            have XW := Lib.hid (XW.out.ext q)
            have VC := Lib.hid (Tm.at_ext q VC.out)
            have XC := Lib.hid (XC.out.ext q)
            clear q
            have VH := Lib.hid (own_flat _ _ _ ro)
            clear ro
            obtain ⟨kx0, kx1, kx2, kx3, _, _, _, _⟩ := X.out
            have lx := X.out.lt
            obtain ⟨kxg0, kxg1, kxg2, kxg3, _, _, _, _⟩ := XG.out
            have lxg := XG.out.lt
            go_wp2_with fail
            refine (calls_eq (implInstanceOf t r _ _ _ _ _ (Tm.at_ext (Ext.alloc _ _) V.out) (Tm.at_ext (Ext.alloc _ _) VG.out)) HGF.out.1).mono ?_
            rintro e w9 ⟨rfl, q⟩
            clear kx0 kx1 kx2 kx3
            clear lx
            clear kxg0 kxg1 kxg2 kxg3
            clear lxg
            have XH := Lib.hid ((BoxT.new w8 (.int .i64 r.kind) (.int .i64 r.n) (.string r.name) (.slice aH r.kids.length cH) 29 rfl).ext q)
            replace q := (Ext.alloc _ _).trans q
            have B := Lib.hid (B.out.trans q)
            have X := Lib.hid (X.out.ext q)
            have Y := Lib.hid (Y.out.ext q)
            have V := Lib.hid (Tm.at_ext q V.out)
            have U := Lib.hid (Tm.at_ext q U.out)
            have VG := Lib.hid (Tm.at_ext q VG.out)
            have XG := Lib.hid (XG.out.ext q)
            have VW := Lib.hid (Tm.at_ext q VW.out)
            have XW := Lib.hid (XW.out.ext q)
            have VC := Lib.hid (Tm.at_ext q VC.out)
            have XC := Lib.hid (XC.out.ext q)
            have VH := Lib.hid (Tm.at_ext q VH.out)
            clear q
            obtain ⟨ky0, ky1, ky2, ky3, _, _, _, _⟩ := Y.out
            obtain ⟨kxg0, kxg1, kxg2, kxg3, _, _, _, _⟩ := XG.out
            go_wp2_with fail
            refine (calls_eq (implInstanceOf u r _ _ _ _ _ U.out VG.out) HGF.out.2.1).mono ?_
            rintro e w10 ⟨rfl, q⟩
            clear ky0 ky1 ky2 ky3
            clear kxg0 kxg1 kxg2 kxg3
            have B := Lib.hid (B.out.trans q)
            have X := Lib.hid (X.out.ext q)
            have Y := Lib.hid (Y.out.ext q)
            have V := Lib.hid (Tm.at_ext q V.out)
            have U := Lib.hid (Tm.at_ext q U.out)
            have VG := Lib.hid (Tm.at_ext q VG.out)
            have XG := Lib.hid (XG.out.ext q)
            have VW := Lib.hid (Tm.at_ext q VW.out)
            have XW := Lib.hid (XW.out.ext q)
            have VC := Lib.hid (Tm.at_ext q VC.out)
            have XC := Lib.hid (XC.out.ext q)
            have VH := Lib.hid (Tm.at_ext q VH.out)
            have XH := Lib.hid (XH.out.ext q)
            clear q
            obtain ⟨kxg0, kxg1, kxg2, kxg3, _, _, _, _⟩ := XG.out
            obtain ⟨kxc0, kxc1, kxc2, kxc3, _, _, _, _⟩ := XC.out
            go_wp2_with fail
            refine (calls_eq (implInstanceOf r c _ _ _ _ _ VG.out VC.out) (HGF.out.2.2.2.2.2.2 c P1.out P2.out)).mono ?_
            rintro e w11 ⟨rfl, q⟩
            clear kxg0 kxg1 kxg2 kxg3
            clear kxc0 kxc1 kxc2 kxc3
            have B := Lib.hid (B.out.trans q)
            have X := Lib.hid (X.out.ext q)
            have Y := Lib.hid (Y.out.ext q)
            have V := Lib.hid (Tm.at_ext q V.out)
            have U := Lib.hid (Tm.at_ext q U.out)
            have VG := Lib.hid (Tm.at_ext q VG.out)
            have XG := Lib.hid (XG.out.ext q)
            have VW := Lib.hid (Tm.at_ext q VW.out)
            have XW := Lib.hid (XW.out.ext q)
            have VC := Lib.hid (Tm.at_ext q VC.out)
            have XC := Lib.hid (XC.out.ext q)
            have VH := Lib.hid (Tm.at_ext q VH.out)
            have XH := Lib.hid (XH.out.ext q)
            clear q
            obtain ⟨kxg0, kxg1, kxg2, kxg3, _, _, _, _⟩ := XG.out
            obtain ⟨kxh0, kxh1, kxh2, kxh3, _, _, _, _⟩ := XH.out
            go_wp2_with fail
            refine (calls_eq (implVariantTerms r r _ _ _ _ _ VG.out VH.out) HGF.out.2.2.2.2.2.1).mono ?_
            rintro e w12 ⟨rfl, q⟩
            clear kxg0 kxg1 kxg2 kxg3
            clear kxh0 kxh1 kxh2 kxh3
            have B := Lib.hid (B.out.trans q)
            have X := Lib.hid (X.out.ext q)
            have Y := Lib.hid (Y.out.ext q)
            have V := Lib.hid (Tm.at_ext q V.out)
            have U := Lib.hid (Tm.at_ext q U.out)
            have VG := Lib.hid (Tm.at_ext q VG.out)
            have XG := Lib.hid (XG.out.ext q)
            have VW := Lib.hid (Tm.at_ext q VW.out)
            have XW := Lib.hid (XW.out.ext q)
            have VC := Lib.hid (Tm.at_ext q VC.out)
            have XC := Lib.hid (XC.out.ext q)
            have VH := Lib.hid (Tm.at_ext q VH.out)
            have XH := Lib.hid (XH.out.ext q)
            clear q
            go_wp2_with fail
            go_ret
            exact ⟨rfl, B.out⟩
    · go_enter Try.func8, Try.ntmps8
      go_wp2_with fail
      go_ret
      exact ⟨rfl, Below.refl _ _⟩
  · go_enter Try.func8, Try.ntmps8
    go_wp2_with fail
    go_ret
    exact ⟨rfl, Below.refl _ _⟩


set_option maxRecDepth 100000 in
theorem lifted (os : Os) (started : os.Started) (H : Type) (enc : TypeId × Value → H) :
    ReturnsInHanded {} Try.checked os 8 .any (Rows.fnGeneralizeSpec.pre6 enc Try.prog Try.f8 Rows.fnGeneralizeRow.domain false) (Rows.fnGeneralizeSpec.post enc Try.prog Try.f8 false true false false) := by
  refine returnsInHanded_of_change (C := Try.checked) own started (by kernel_rfl) Try.func8
    (ChangeSpec.witness6 (enc := enc) (C := Try.checked) false ⟨#[], #[.slice none 0 0, .slice none 0 0], []⟩ 8 (by kernel_rfl) (by kernel_rfl) (by kernel_rfl) (by kernel_rfl)) ?_
  intro W base args ds gs before hval0 hW hcnd _
  have hval : ∀ (j : Nat) t v, Try.f8.params[j]? = some t → args[j]? = some v → Value.okWide Try.prog W .any base t v := hval0
  have hW' := hW
  obtain ⟨p, q, hA0, hV, rfl, hfz, hnd⟩ := hW
  have hA : DataW.TrodAll enc Try.prog W 0 (fun _ => true) true Try.f8.params.toList args.toList ds p := hA0
  rw [Try.params8] at hA hval
  obtain ⟨v0, vs0, d0, ds0, p0, q0, hargs, rfl, rfl, h0, r0⟩ := trodAll_cons hA
  obtain ⟨v1, vs1, d1, ds1, p1, q1, rfl, rfl, rfl, h1, r1⟩ := trodAll_cons r0
  obtain ⟨rfl, rfl, rfl⟩ := trodAll_nil r1
  obtain rfl : args = #[v0, v1] := by cases args; simp_all
  obtain ⟨rfl, rfl⟩ := trodVars_none hV
  have k0 := h0
  have lt0 : ∀ x ∈ p0, x.block < W.heap.size := by obtain ⟨m, hm⟩ := k0; exact DataW.trod_lt m _ _ _ hm
  obtain ⟨a0, len0, cap0, rfl⟩ := okWide_slice Try.underlying32 (hval 0 32 v0 rfl rfl)
  have w0 := bytes_of_trod h0
  have k1 := h1
  have lt1 : ∀ x ∈ p1, x.block < W.heap.size := by obtain ⟨m, hm⟩ := k1; exact DataW.trod_lt m _ _ _ hm
  obtain ⟨a1, len1, cap1, rfl⟩ := okWide_slice Try.underlying32 (hval 1 32 v1 rfl rfl)
  have w1 := bytes_of_trod h1
  clear hA0 hval0 hval
  refine (walk _ _ W w0 w1).mono fun e W' ⟨he, bel⟩ => ?_
  subst he
  exact ⟨_, rfl, _, _, _, [], _, [], hW', trodAll_mk1 (shut_bool Try.underlying4 _), (trodAll_cons_mk (Below.trod laidOut (by kernel_rfl) (of_decide_eq_true (by kernel_rfl)) k0 bel lt0) (trodAll_cons_mk (Below.trod laidOut (by kernel_rfl) (of_decide_eq_true (by kernel_rfl)) k1 bel lt1) trodAll_mk0)), rfl, bel.frame _, fun h => by cases h⟩

set_option maxRecDepth 100000 in
theorem over : Rows.fnGeneralizeRow.holds Try.pinned (OpenSpec.ofChange Rows.fnGeneralizeSpec) :=
  OpenClaim.holds_of_wide 8 Try.f8 rfl rfl rfl rfl rfl rfl rfl ⟨rfl, rfl, rfl, rfl, rfl⟩ rfl rfl rfl rfl rfl (by kernel_rfl) Try.func8 (by kernel_rfl)
    (of_decide_eq_true (by kernel_rfl)) (by unfold Func.isWrapper; first | (rw [if_pos (by decide +kernel)]; kernel_rfl) | (rw [if_neg (by decide +kernel)]; exact ⟨rfl, rfl⟩))
    (fun os started H enc _ => lifted os started H enc)

/-- the statement -/
theorem proved : Rows.FnGeneralizeSaid := over
end Go.Proofs.Yteplfajhmpmklaa.fnGeneralize
