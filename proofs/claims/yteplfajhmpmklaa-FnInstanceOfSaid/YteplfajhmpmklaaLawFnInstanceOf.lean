/-
  For every two codes FnInstanceOf returns true: instances are an order, up to variants.
-/
import Derived.Test.YteplfajhmpmklaaRows
import Derived.Test.YteplfajhmpmklaaInst
import Derived.Test.YteplfajhmpmklaaTwoI
import Derived.Test.YteplfajhmpmklaaVariantI
import Derived.Test.YteplfajhmpmklaaBRep
import Derived.ProofKit
import Derived.OpenShut
import Derived.ShutString
namespace Go.Proofs.Yteplfajhmpmklaa.fnInstanceOf
open Go.ChangeShapes Go.WideShapes Go.ChangeAt Go.RowKit
open Go.ChangeMaps (open_string shut_string)
set_option linter.unusedVariables false

theorem own : ownKnob Try.prog.godebug = none := by kernel_rfl
theorem laidOut : laidOutB Try.prog = true := by kernel_rfl

theorem calls_eq {P : Program} {f : FuncId} {args : Array Value} {w : World} {a b : Bool} {M : World → Prop} (h : Calls P f args w fun e w' => e = .returned (.bool a) ∧ M w') (e : a = b) : Calls P f args w fun e w' => e = .returned (.bool b) ∧ M w' := by
  rw [← e]; exact h

set_option maxRecDepth 100000 in
set_option maxHeartbeats 8000000 in
theorem walk (v0 : Value) (v1 : Value) (w : World) (hv0 : BytesAt w v0) (hv1 : BytesAt w v1) :
    Calls Try.prog 6 #[v0, v1] w fun e w' => e = .returned (.bool true) ∧ Below w.heap.size w w' := by
  have HV := Lib.hid hv0
  have HM := Lib.hid hv1
  obtain ⟨a, len, cap, rfl, h1, h2, h3⟩ := hv0
  obtain ⟨ma, mlen, mcap, rfl, h1m, h2m, h3m⟩ := hv1
  clear h3 h3m
  by_cases hl : len ≤ 1048576
  · by_cases hml : mlen ≤ 1048576
    · go_enter Try.func6, Try.ntmps6
      go_wp2_with fail
      refine (drawInstanceOf _ _ HV.out).mono ?_
      rintro e w1 ⟨t, u, v1, v2, rfl, hv1, hv2, q⟩
      obtain ⟨a1, c1, rfl⟩ := at_form hv1
      obtain ⟨a2, c2, rfl⟩ := at_form hv2
      have ea := (Ext.alloc w1 (.cells #[.int .i64 t.kind, .int .i64 t.n, .string t.name, .slice a1 t.kids.length c1] 29)).trans (Ext.alloc _ (.cells #[.int .i64 u.kind, .int .i64 u.n, .string u.name, .slice a2 u.kids.length c2] 29))
      have B := Lib.hid (q.trans ea)
      have X := Lib.hid ((BoxT.new w1 (.int .i64 t.kind) (.int .i64 t.n) (.string t.name) (.slice a1 t.kids.length c1) 29 rfl).ext (Ext.alloc _ (.cells #[.int .i64 u.kind, .int .i64 u.n, .string u.name, .slice a2 u.kids.length c2] 29)))
      have Y := Lib.hid (BoxT.new (w1.alloc (.cells #[.int .i64 t.kind, .int .i64 t.n, .string t.name, .slice a1 t.kids.length c1] 29)) (.int .i64 u.kind) (.int .i64 u.n) (.string u.name) (.slice a2 u.kids.length c2) 29 (b := w1.heap.size + 1) (by simp))
      have V := Lib.hid (Tm.at_ext ea hv1)
      have U := Lib.hid (Tm.at_ext ea hv2)
      clear q ea hv1 hv2
      obtain ⟨ok, hok⟩ : ∃ b, instF t u = b := ⟨_, rfl⟩
      have HOK := Lib.hid hok
      clear hok
      obtain ⟨vt, hvt⟩ : ∃ b, validF t = b := ⟨_, rfl⟩
      have HVT := Lib.hid hvt
      clear hvt
      obtain ⟨kx0, kx1, kx2, kx3, _, _, _, _⟩ := X.out
      obtain ⟨ky0, ky1, ky2, ky3, _, _, _, _⟩ := Y.out
      go_wp2_with fail
      refine (implInstanceOf t u _ _ _ _ _ V.out U.out).mono ?_
      rw [HOK.out]
      rintro e w2 ⟨rfl, q⟩
      clear kx0 kx1 kx2 kx3
      clear ky0 ky1 ky2 ky3
      have B := Lib.hid (B.out.trans q)
      have X := Lib.hid (X.out.ext q)
      have Y := Lib.hid (Y.out.ext q)
      have V := Lib.hid (Tm.at_ext q V.out)
      have U := Lib.hid (Tm.at_ext q U.out)
      clear q
      cases ok
      · cases vt
        · have tok : True := trivial
          go_wp2_with fail
          obtain ⟨x0, x1, x2, x3, _, _, _, _⟩ := X.out
          have rx0 := cell_regrown x0
          have rx1 := cell_regrown x1
          have rx2 := cell_regrown x2
          have rx3 := cell_regrown x3
          obtain ⟨y0, y1, y2, y3, _, _, _, _⟩ := Y.out
          have ry0 := cell_regrown y0
          have ry1 := cell_regrown y1
          have ry2 := cell_regrown y2
          have ry3 := cell_regrown y3
          have cA := quiet_call (w := w2) (fun w' (e' : Ext w2 w') => calls_eq (specInstanceOf t u _ _ _ _ _ (Tm.at_ext e' V.out) (Tm.at_ext e' U.out)) HOK.out)
          have cB := quiet_call (w := w2) (fun w' (e' : Ext w2 w') => calls_eq (implInstanceOf t t _ _ _ _ _ (Tm.at_ext e' V.out) (Tm.at_ext e' V.out)) ((inst_refl t).trans HVT.out))
          have cC := quiet_call (w := w2) (fun w' (e' : Ext w2 w') => calls_eq (implTermValid t _ _ _ (Tm.at_ext e' V.out)) HVT.out)
          clear x0 x1 x2 x3
          clear y0 y1 y2 y3
          refine region_ext (by kernel_rfl) (by kernel_rfl) ?_
          repeat (go_big_quiet_step (first | with_reducible exact cA _ _ | with_reducible exact cB _ _ | with_reducible exact cC _ _ | fail))
          refine wpQuiet_nil ?_
          intro w3 q
          clear rx0 rx1 rx2 rx3
          clear ry0 ry1 ry2 ry3
          clear cA cB cC
          have B := Lib.hid (B.out.trans q)
          have X := Lib.hid (X.out.ext q)
          have Y := Lib.hid (Y.out.ext q)
          have V := Lib.hid (Tm.at_ext q V.out)
          have U := Lib.hid (Tm.at_ext q U.out)
          clear q
          go_wp2_with fail
          obtain ⟨x0, x1, x2, x3, _, _, _, _⟩ := X.out
          have rx0 := cell_regrown x0
          have rx1 := cell_regrown x1
          have rx2 := cell_regrown x2
          have rx3 := cell_regrown x3
          obtain ⟨y0, y1, y2, y3, _, _, _, _⟩ := Y.out
          have ry0 := cell_regrown y0
          have ry1 := cell_regrown y1
          have ry2 := cell_regrown y2
          have ry3 := cell_regrown y3
          have cA := quiet_call (w := w3) (fun w' (e' : Ext w3 w') => calls_eq (specInstanceOf t u _ _ _ _ _ (Tm.at_ext e' V.out) (Tm.at_ext e' U.out)) HOK.out)
          have cB := quiet_call (w := w3) (fun w' (e' : Ext w3 w') => calls_eq (implInstanceOf t t _ _ _ _ _ (Tm.at_ext e' V.out) (Tm.at_ext e' V.out)) ((inst_refl t).trans HVT.out))
          have cC := quiet_call (w := w3) (fun w' (e' : Ext w3 w') => calls_eq (implTermValid t _ _ _ (Tm.at_ext e' V.out)) HVT.out)
          clear x0 x1 x2 x3
          clear y0 y1 y2 y3
          refine region_ext (by kernel_rfl) (by kernel_rfl) ?_
          repeat (go_big_quiet_step (first | with_reducible exact cA _ _ | with_reducible exact cB _ _ | with_reducible exact cC _ _ | fail))
          refine wpQuiet_nil ?_
          intro w4 q
          clear rx0 rx1 rx2 rx3
          clear ry0 ry1 ry2 ry3
          clear cA cB cC
          have B := Lib.hid (B.out.trans q)
          have X := Lib.hid (X.out.ext q)
          have Y := Lib.hid (Y.out.ext q)
          have V := Lib.hid (Tm.at_ext q V.out)
          have U := Lib.hid (Tm.at_ext q U.out)
          clear q
          go_wp2_with fail
          go_ret
          exact ⟨rfl, B.out⟩
        · have tok : True := trivial
          go_wp2_with fail
          obtain ⟨x0, x1, x2, x3, _, _, _, _⟩ := X.out
          have rx0 := cell_regrown x0
          have rx1 := cell_regrown x1
          have rx2 := cell_regrown x2
          have rx3 := cell_regrown x3
          obtain ⟨y0, y1, y2, y3, _, _, _, _⟩ := Y.out
          have ry0 := cell_regrown y0
          have ry1 := cell_regrown y1
          have ry2 := cell_regrown y2
          have ry3 := cell_regrown y3
          have cA := quiet_call (w := w2) (fun w' (e' : Ext w2 w') => calls_eq (specInstanceOf t u _ _ _ _ _ (Tm.at_ext e' V.out) (Tm.at_ext e' U.out)) HOK.out)
          have cB := quiet_call (w := w2) (fun w' (e' : Ext w2 w') => calls_eq (implInstanceOf t t _ _ _ _ _ (Tm.at_ext e' V.out) (Tm.at_ext e' V.out)) ((inst_refl t).trans HVT.out))
          have cC := quiet_call (w := w2) (fun w' (e' : Ext w2 w') => calls_eq (implTermValid t _ _ _ (Tm.at_ext e' V.out)) HVT.out)
          clear x0 x1 x2 x3
          clear y0 y1 y2 y3
          refine region_ext (by kernel_rfl) (by kernel_rfl) ?_
          repeat (go_big_quiet_step (first | with_reducible exact cA _ _ | with_reducible exact cB _ _ | with_reducible exact cC _ _ | fail))
          refine wpQuiet_nil ?_
          intro w3 q
          clear rx0 rx1 rx2 rx3
          clear ry0 ry1 ry2 ry3
          clear cA cB cC
          have B := Lib.hid (B.out.trans q)
          have X := Lib.hid (X.out.ext q)
          have Y := Lib.hid (Y.out.ext q)
          have V := Lib.hid (Tm.at_ext q V.out)
          have U := Lib.hid (Tm.at_ext q U.out)
          clear q
          go_wp2_with fail
          obtain ⟨x0, x1, x2, x3, _, _, _, _⟩ := X.out
          have rx0 := cell_regrown x0
          have rx1 := cell_regrown x1
          have rx2 := cell_regrown x2
          have rx3 := cell_regrown x3
          obtain ⟨y0, y1, y2, y3, _, _, _, _⟩ := Y.out
          have ry0 := cell_regrown y0
          have ry1 := cell_regrown y1
          have ry2 := cell_regrown y2
          have ry3 := cell_regrown y3
          have cA := quiet_call (w := w3) (fun w' (e' : Ext w3 w') => calls_eq (specInstanceOf t u _ _ _ _ _ (Tm.at_ext e' V.out) (Tm.at_ext e' U.out)) HOK.out)
          have cB := quiet_call (w := w3) (fun w' (e' : Ext w3 w') => calls_eq (implInstanceOf t t _ _ _ _ _ (Tm.at_ext e' V.out) (Tm.at_ext e' V.out)) ((inst_refl t).trans HVT.out))
          have cC := quiet_call (w := w3) (fun w' (e' : Ext w3 w') => calls_eq (implTermValid t _ _ _ (Tm.at_ext e' V.out)) HVT.out)
          clear x0 x1 x2 x3
          clear y0 y1 y2 y3
          refine region_ext (by kernel_rfl) (by kernel_rfl) ?_
          repeat (go_big_quiet_step (first | with_reducible exact cA _ _ | with_reducible exact cB _ _ | with_reducible exact cC _ _ | fail))
          refine wpQuiet_nil ?_
          intro w4 q
          clear rx0 rx1 rx2 rx3
          clear ry0 ry1 ry2 ry3
          clear cA cB cC
          have B := Lib.hid (B.out.trans q)
          have X := Lib.hid (X.out.ext q)
          have Y := Lib.hid (Y.out.ext q)
          have V := Lib.hid (Tm.at_ext q V.out)
          have U := Lib.hid (Tm.at_ext q U.out)
          clear q
          go_wp2_with fail
          go_ret
          exact ⟨rfl, B.out⟩
      · obtain rfl : vt = true := by
          rw [← HVT.out]
          have := HOK.out
          unfold instF at this
          simp only [Bool.and_eq_true] at this
          exact this.1.1
        go_wp2_with fail
        obtain ⟨x0, x1, x2, x3, _, _, _, _⟩ := X.out
        have rx0 := cell_regrown x0
        have rx1 := cell_regrown x1
        have rx2 := cell_regrown x2
        have rx3 := cell_regrown x3
        obtain ⟨y0, y1, y2, y3, _, _, _, _⟩ := Y.out
        have ry0 := cell_regrown y0
        have ry1 := cell_regrown y1
        have ry2 := cell_regrown y2
        have ry3 := cell_regrown y3
        have cA := quiet_call (w := w2) (fun w' (e' : Ext w2 w') => calls_eq (specInstanceOf t u _ _ _ _ _ (Tm.at_ext e' V.out) (Tm.at_ext e' U.out)) HOK.out)
        have cB := quiet_call (w := w2) (fun w' (e' : Ext w2 w') => calls_eq (implInstanceOf t t _ _ _ _ _ (Tm.at_ext e' V.out) (Tm.at_ext e' V.out)) ((inst_refl t).trans HVT.out))
        have cC := quiet_call (w := w2) (fun w' (e' : Ext w2 w') => calls_eq (implTermValid t _ _ _ (Tm.at_ext e' V.out)) HVT.out)
        clear x0 x1 x2 x3
        clear y0 y1 y2 y3
        refine region_ext (by kernel_rfl) (by kernel_rfl) ?_
        repeat (go_big_quiet_step (first | with_reducible exact cA _ _ | with_reducible exact cB _ _ | with_reducible exact cC _ _ | fail))
        refine wpQuiet_nil ?_
        intro w3 q
        clear rx0 rx1 rx2 rx3
        clear ry0 ry1 ry2 ry3
        clear cA cB cC
        have B := Lib.hid (B.out.trans q)
        have X := Lib.hid (X.out.ext q)
        have Y := Lib.hid (Y.out.ext q)
        have V := Lib.hid (Tm.at_ext q V.out)
        have U := Lib.hid (Tm.at_ext q U.out)
        clear q
        go_wp2_with fail
        refine (drawInstanceOf _ _ (BytesAt.ext HM.out B.out)).mono ?_
        rintro e w4 ⟨r, s, v1, v2, rfl, hv1, hv2, q⟩
        obtain ⟨a1, c1, rfl⟩ := at_form hv1
        obtain ⟨a2, c2, rfl⟩ := at_form hv2
        have ea := (Ext.alloc w4 (.cells #[.int .i64 r.kind, .int .i64 r.n, .string r.name, .slice a1 r.kids.length c1] 29)).trans (Ext.alloc _ (.cells #[.int .i64 s.kind, .int .i64 s.n, .string s.name, .slice a2 s.kids.length c2] 29))
        replace q := q.trans ea
        have B := Lib.hid (B.out.trans q)
        have X := Lib.hid (X.out.ext q)
        have Y := Lib.hid (Y.out.ext q)
        have V := Lib.hid (Tm.at_ext q V.out)
        have U := Lib.hid (Tm.at_ext q U.out)
        have R := Lib.hid ((BoxT.new w4 (.int .i64 r.kind) (.int .i64 r.n) (.string r.name) (.slice a1 r.kids.length c1) 29 rfl).ext (Ext.alloc _ (.cells #[.int .i64 s.kind, .int .i64 s.n, .string s.name, .slice a2 s.kids.length c2] 29)))
        have S := Lib.hid (BoxT.new (w4.alloc (.cells #[.int .i64 r.kind, .int .i64 r.n, .string r.name, .slice a1 r.kids.length c1] 29)) (.int .i64 s.kind) (.int .i64 s.n) (.string s.name) (.slice a2 s.kids.length c2) 29 (b := w4.heap.size + 1) (by simp))
        have VR := Lib.hid (Tm.at_ext ea hv1)
        have VS := Lib.hid (Tm.at_ext ea hv2)
        clear q ea hv1 hv2
        obtain ⟨p1, hp1⟩ : ∃ b, instF u r = b := ⟨_, rfl⟩
        obtain ⟨p3, hp3⟩ : ∃ b, instF s t = b := ⟨_, rfl⟩
        obtain ⟨p5, hp5⟩ : ∃ b, instF u t = b := ⟨_, rfl⟩
        have P1 := Lib.hid hp1
        have P3 := Lib.hid hp3
        have P5 := Lib.hid hp5
        clear hp1 hp3 hp5
        cases p1 <;> cases p3
        · have tok : True := trivial
          go_wp2_with fail
          obtain ⟨w5, hw5⟩ : ∃ x, x = ((w4.alloc (.cells #[.int .i64 r.kind, .int .i64 r.n, .string r.name, .slice a1 r.kids.length c1] 29)).alloc (.cells #[.int .i64 s.kind, .int .i64 s.n, .string s.name, .slice a2 s.kids.length c2] 29)) := ⟨_, rfl⟩
          rw [← hw5] at B X Y V U R S VR VS ⊢
          clear hw5
          obtain ⟨x0, x1, x2, x3, _, _, _, _⟩ := X.out
          have rx0 := cell_regrown x0
          have rx1 := cell_regrown x1
          have rx2 := cell_regrown x2
          have rx3 := cell_regrown x3
          obtain ⟨y0, y1, y2, y3, _, _, _, _⟩ := Y.out
          have ry0 := cell_regrown y0
          have ry1 := cell_regrown y1
          have ry2 := cell_regrown y2
          have ry3 := cell_regrown y3
          obtain ⟨r0, r1, r2, r3, _, _, _, _⟩ := R.out
          have rr0 := cell_regrown r0
          have rr1 := cell_regrown r1
          have rr2 := cell_regrown r2
          have rr3 := cell_regrown r3
          obtain ⟨s0, s1, s2, s3, _, _, _, _⟩ := S.out
          have rs0 := cell_regrown s0
          have rs1 := cell_regrown s1
          have rs2 := cell_regrown s2
          have rs3 := cell_regrown s3
          have c1 := quiet_call (w := w5) (fun w' (e' : Ext w5 w') => calls_eq (implInstanceOf u r _ _ _ _ _ (Tm.at_ext e' U.out) (Tm.at_ext e' VR.out)) P1.out)
          have c3 := quiet_call (w := w5) (fun w' (e' : Ext w5 w') => calls_eq (implInstanceOf s t _ _ _ _ _ (Tm.at_ext e' VS.out) (Tm.at_ext e' V.out)) P3.out)
          have c5 := quiet_call (w := w5) (fun w' (e' : Ext w5 w') => calls_eq (implInstanceOf u t _ _ _ _ _ (Tm.at_ext e' U.out) (Tm.at_ext e' V.out)) P5.out)
          have c6 := quiet_call (w := w5) (fun w' (e' : Ext w5 w') => calls_eq (implVariantTerms t u _ _ _ _ _ (Tm.at_ext e' V.out) (Tm.at_ext e' U.out)) ((inst_anti HOK.out).symm.trans P5.out))
          clear x0 x1 x2 x3
          clear y0 y1 y2 y3
          clear r0 r1 r2 r3
          clear s0 s1 s2 s3
          refine region_ext (by kernel_rfl) (by kernel_rfl) ?_
          repeat (go_big_quiet_step (first | with_reducible exact c1 _ _ | with_reducible exact c3 _ _ | with_reducible exact c5 _ _ | with_reducible exact c6 _ _ | fail))
          refine wpQuiet_nil ?_
          intro w6 q
          clear rx0 rx1 rx2 rx3
          clear ry0 ry1 ry2 ry3
          clear rr0 rr1 rr2 rr3
          clear rs0 rs1 rs2 rs3
          clear c1 c3 c5 c6
          have B := Lib.hid (B.out.trans q)
          have X := Lib.hid (X.out.ext q)
          have Y := Lib.hid (Y.out.ext q)
          have V := Lib.hid (Tm.at_ext q V.out)
          have U := Lib.hid (Tm.at_ext q U.out)
          have R := Lib.hid (R.out.ext q)
          have S := Lib.hid (S.out.ext q)
          have VR := Lib.hid (Tm.at_ext q VR.out)
          have VS := Lib.hid (Tm.at_ext q VS.out)
          clear q
          go_wp2_with fail
          go_ret
          exact ⟨by first | rfl | exact retB (by simp), B.out⟩
        · have tok : True := trivial
          go_wp2_with fail
          obtain ⟨w5, hw5⟩ : ∃ x, x = ((w4.alloc (.cells #[.int .i64 r.kind, .int .i64 r.n, .string r.name, .slice a1 r.kids.length c1] 29)).alloc (.cells #[.int .i64 s.kind, .int .i64 s.n, .string s.name, .slice a2 s.kids.length c2] 29)) := ⟨_, rfl⟩
          rw [← hw5] at B X Y V U R S VR VS ⊢
          clear hw5
          obtain ⟨x0, x1, x2, x3, _, _, _, _⟩ := X.out
          have rx0 := cell_regrown x0
          have rx1 := cell_regrown x1
          have rx2 := cell_regrown x2
          have rx3 := cell_regrown x3
          obtain ⟨y0, y1, y2, y3, _, _, _, _⟩ := Y.out
          have ry0 := cell_regrown y0
          have ry1 := cell_regrown y1
          have ry2 := cell_regrown y2
          have ry3 := cell_regrown y3
          obtain ⟨r0, r1, r2, r3, _, _, _, _⟩ := R.out
          have rr0 := cell_regrown r0
          have rr1 := cell_regrown r1
          have rr2 := cell_regrown r2
          have rr3 := cell_regrown r3
          obtain ⟨s0, s1, s2, s3, _, _, _, _⟩ := S.out
          have rs0 := cell_regrown s0
          have rs1 := cell_regrown s1
          have rs2 := cell_regrown s2
          have rs3 := cell_regrown s3
          have c1 := quiet_call (w := w5) (fun w' (e' : Ext w5 w') => calls_eq (implInstanceOf u r _ _ _ _ _ (Tm.at_ext e' U.out) (Tm.at_ext e' VR.out)) P1.out)
          have c3 := quiet_call (w := w5) (fun w' (e' : Ext w5 w') => calls_eq (implInstanceOf s t _ _ _ _ _ (Tm.at_ext e' VS.out) (Tm.at_ext e' V.out)) P3.out)
          have c4 := quiet_call (w := w5) (fun w' (e' : Ext w5 w') => calls_eq (implInstanceOf s u _ _ _ _ _ (Tm.at_ext e' VS.out) (Tm.at_ext e' U.out)) (inst_trans P3.out HOK.out))
          have c5 := quiet_call (w := w5) (fun w' (e' : Ext w5 w') => calls_eq (implInstanceOf u t _ _ _ _ _ (Tm.at_ext e' U.out) (Tm.at_ext e' V.out)) P5.out)
          have c6 := quiet_call (w := w5) (fun w' (e' : Ext w5 w') => calls_eq (implVariantTerms t u _ _ _ _ _ (Tm.at_ext e' V.out) (Tm.at_ext e' U.out)) ((inst_anti HOK.out).symm.trans P5.out))
          clear x0 x1 x2 x3
          clear y0 y1 y2 y3
          clear r0 r1 r2 r3
          clear s0 s1 s2 s3
          refine region_ext (by kernel_rfl) (by kernel_rfl) ?_
          repeat (go_big_quiet_step (first | with_reducible exact c1 _ _ | with_reducible exact c3 _ _ | with_reducible exact c4 _ _ | with_reducible exact c5 _ _ | with_reducible exact c6 _ _ | fail))
          refine wpQuiet_nil ?_
          intro w6 q
          clear rx0 rx1 rx2 rx3
          clear ry0 ry1 ry2 ry3
          clear rr0 rr1 rr2 rr3
          clear rs0 rs1 rs2 rs3
          clear c1 c3 c4 c5 c6
          have B := Lib.hid (B.out.trans q)
          have X := Lib.hid (X.out.ext q)
          have Y := Lib.hid (Y.out.ext q)
          have V := Lib.hid (Tm.at_ext q V.out)
          have U := Lib.hid (Tm.at_ext q U.out)
          have R := Lib.hid (R.out.ext q)
          have S := Lib.hid (S.out.ext q)
          have VR := Lib.hid (Tm.at_ext q VR.out)
          have VS := Lib.hid (Tm.at_ext q VS.out)
          clear q
          go_wp2_with fail
          go_ret
          exact ⟨by first | rfl | exact retB (by simp), B.out⟩
        · have tok : True := trivial
          go_wp2_with fail
          obtain ⟨w5, hw5⟩ : ∃ x, x = ((w4.alloc (.cells #[.int .i64 r.kind, .int .i64 r.n, .string r.name, .slice a1 r.kids.length c1] 29)).alloc (.cells #[.int .i64 s.kind, .int .i64 s.n, .string s.name, .slice a2 s.kids.length c2] 29)) := ⟨_, rfl⟩
          rw [← hw5] at B X Y V U R S VR VS ⊢
          clear hw5
          obtain ⟨x0, x1, x2, x3, _, _, _, _⟩ := X.out
          have rx0 := cell_regrown x0
          have rx1 := cell_regrown x1
          have rx2 := cell_regrown x2
          have rx3 := cell_regrown x3
          obtain ⟨y0, y1, y2, y3, _, _, _, _⟩ := Y.out
          have ry0 := cell_regrown y0
          have ry1 := cell_regrown y1
          have ry2 := cell_regrown y2
          have ry3 := cell_regrown y3
          obtain ⟨r0, r1, r2, r3, _, _, _, _⟩ := R.out
          have rr0 := cell_regrown r0
          have rr1 := cell_regrown r1
          have rr2 := cell_regrown r2
          have rr3 := cell_regrown r3
          obtain ⟨s0, s1, s2, s3, _, _, _, _⟩ := S.out
          have rs0 := cell_regrown s0
          have rs1 := cell_regrown s1
          have rs2 := cell_regrown s2
          have rs3 := cell_regrown s3
          have c1 := quiet_call (w := w5) (fun w' (e' : Ext w5 w') => calls_eq (implInstanceOf u r _ _ _ _ _ (Tm.at_ext e' U.out) (Tm.at_ext e' VR.out)) P1.out)
          have c2 := quiet_call (w := w5) (fun w' (e' : Ext w5 w') => calls_eq (implInstanceOf t r _ _ _ _ _ (Tm.at_ext e' V.out) (Tm.at_ext e' VR.out)) (inst_trans HOK.out P1.out))
          have c3 := quiet_call (w := w5) (fun w' (e' : Ext w5 w') => calls_eq (implInstanceOf s t _ _ _ _ _ (Tm.at_ext e' VS.out) (Tm.at_ext e' V.out)) P3.out)
          have c5 := quiet_call (w := w5) (fun w' (e' : Ext w5 w') => calls_eq (implInstanceOf u t _ _ _ _ _ (Tm.at_ext e' U.out) (Tm.at_ext e' V.out)) P5.out)
          have c6 := quiet_call (w := w5) (fun w' (e' : Ext w5 w') => calls_eq (implVariantTerms t u _ _ _ _ _ (Tm.at_ext e' V.out) (Tm.at_ext e' U.out)) ((inst_anti HOK.out).symm.trans P5.out))
          clear x0 x1 x2 x3
          clear y0 y1 y2 y3
          clear r0 r1 r2 r3
          clear s0 s1 s2 s3
          refine region_ext (by kernel_rfl) (by kernel_rfl) ?_
          repeat (go_big_quiet_step (first | with_reducible exact c1 _ _ | with_reducible exact c2 _ _ | with_reducible exact c3 _ _ | with_reducible exact c5 _ _ | with_reducible exact c6 _ _ | fail))
          refine wpQuiet_nil ?_
          intro w6 q
          clear rx0 rx1 rx2 rx3
          clear ry0 ry1 ry2 ry3
          clear rr0 rr1 rr2 rr3
          clear rs0 rs1 rs2 rs3
          clear c1 c2 c3 c5 c6
          have B := Lib.hid (B.out.trans q)
          have X := Lib.hid (X.out.ext q)
          have Y := Lib.hid (Y.out.ext q)
          have V := Lib.hid (Tm.at_ext q V.out)
          have U := Lib.hid (Tm.at_ext q U.out)
          have R := Lib.hid (R.out.ext q)
          have S := Lib.hid (S.out.ext q)
          have VR := Lib.hid (Tm.at_ext q VR.out)
          have VS := Lib.hid (Tm.at_ext q VS.out)
          clear q
          go_wp2_with fail
          go_ret
          exact ⟨by first | rfl | exact retB (by simp), B.out⟩
        · have tok : True := trivial
          go_wp2_with fail
          obtain ⟨w5, hw5⟩ : ∃ x, x = ((w4.alloc (.cells #[.int .i64 r.kind, .int .i64 r.n, .string r.name, .slice a1 r.kids.length c1] 29)).alloc (.cells #[.int .i64 s.kind, .int .i64 s.n, .string s.name, .slice a2 s.kids.length c2] 29)) := ⟨_, rfl⟩
          rw [← hw5] at B X Y V U R S VR VS ⊢
          clear hw5
          obtain ⟨x0, x1, x2, x3, _, _, _, _⟩ := X.out
          have rx0 := cell_regrown x0
          have rx1 := cell_regrown x1
          have rx2 := cell_regrown x2
          have rx3 := cell_regrown x3
          obtain ⟨y0, y1, y2, y3, _, _, _, _⟩ := Y.out
          have ry0 := cell_regrown y0
          have ry1 := cell_regrown y1
          have ry2 := cell_regrown y2
          have ry3 := cell_regrown y3
          obtain ⟨r0, r1, r2, r3, _, _, _, _⟩ := R.out
          have rr0 := cell_regrown r0
          have rr1 := cell_regrown r1
          have rr2 := cell_regrown r2
          have rr3 := cell_regrown r3
          obtain ⟨s0, s1, s2, s3, _, _, _, _⟩ := S.out
          have rs0 := cell_regrown s0
          have rs1 := cell_regrown s1
          have rs2 := cell_regrown s2
          have rs3 := cell_regrown s3
          have c1 := quiet_call (w := w5) (fun w' (e' : Ext w5 w') => calls_eq (implInstanceOf u r _ _ _ _ _ (Tm.at_ext e' U.out) (Tm.at_ext e' VR.out)) P1.out)
          have c2 := quiet_call (w := w5) (fun w' (e' : Ext w5 w') => calls_eq (implInstanceOf t r _ _ _ _ _ (Tm.at_ext e' V.out) (Tm.at_ext e' VR.out)) (inst_trans HOK.out P1.out))
          have c3 := quiet_call (w := w5) (fun w' (e' : Ext w5 w') => calls_eq (implInstanceOf s t _ _ _ _ _ (Tm.at_ext e' VS.out) (Tm.at_ext e' V.out)) P3.out)
          have c4 := quiet_call (w := w5) (fun w' (e' : Ext w5 w') => calls_eq (implInstanceOf s u _ _ _ _ _ (Tm.at_ext e' VS.out) (Tm.at_ext e' U.out)) (inst_trans P3.out HOK.out))
          have c5 := quiet_call (w := w5) (fun w' (e' : Ext w5 w') => calls_eq (implInstanceOf u t _ _ _ _ _ (Tm.at_ext e' U.out) (Tm.at_ext e' V.out)) P5.out)
          have c6 := quiet_call (w := w5) (fun w' (e' : Ext w5 w') => calls_eq (implVariantTerms t u _ _ _ _ _ (Tm.at_ext e' V.out) (Tm.at_ext e' U.out)) ((inst_anti HOK.out).symm.trans P5.out))
          clear x0 x1 x2 x3
          clear y0 y1 y2 y3
          clear r0 r1 r2 r3
          clear s0 s1 s2 s3
          refine region_ext (by kernel_rfl) (by kernel_rfl) ?_
          repeat (go_big_quiet_step (first | with_reducible exact c1 _ _ | with_reducible exact c2 _ _ | with_reducible exact c3 _ _ | with_reducible exact c4 _ _ | with_reducible exact c5 _ _ | with_reducible exact c6 _ _ | fail))
          refine wpQuiet_nil ?_
          intro w6 q
          clear rx0 rx1 rx2 rx3
          clear ry0 ry1 ry2 ry3
          clear rr0 rr1 rr2 rr3
          clear rs0 rs1 rs2 rs3
          clear c1 c2 c3 c4 c5 c6
          have B := Lib.hid (B.out.trans q)
          have X := Lib.hid (X.out.ext q)
          have Y := Lib.hid (Y.out.ext q)
          have V := Lib.hid (Tm.at_ext q V.out)
          have U := Lib.hid (Tm.at_ext q U.out)
          have R := Lib.hid (R.out.ext q)
          have S := Lib.hid (S.out.ext q)
          have VR := Lib.hid (Tm.at_ext q VR.out)
          have VS := Lib.hid (Tm.at_ext q VS.out)
          clear q
          go_wp2_with fail
          go_ret
          exact ⟨by first | rfl | exact retB (by simp), B.out⟩
    · go_enter Try.func6, Try.ntmps6
      go_wp2_with fail
      go_ret
      exact ⟨rfl, Below.refl _ _⟩
  · go_enter Try.func6, Try.ntmps6
    go_wp2_with fail
    go_ret
    exact ⟨rfl, Below.refl _ _⟩


set_option maxRecDepth 100000 in
theorem lifted (os : Os) (started : os.Started) (H : Type) (enc : TypeId × Value → H) :
    ReturnsInHanded {} Try.checked os 6 .any (Rows.fnInstanceOfSpec.pre6 enc Try.prog Try.f6 Rows.fnInstanceOfRow.domain false) (Rows.fnInstanceOfSpec.post enc Try.prog Try.f6 false true false false) := by
  refine returnsInHanded_of_change (C := Try.checked) own started (by kernel_rfl) Try.func6
    (ChangeSpec.witness6 (enc := enc) (C := Try.checked) false ⟨#[], #[.slice none 0 0, .slice none 0 0], []⟩ 8 (by kernel_rfl) (by kernel_rfl) (by kernel_rfl) (by kernel_rfl)) ?_
  intro W base args ds gs before hval0 hW hcnd _
  have hval : ∀ (j : Nat) t v, Try.f6.params[j]? = some t → args[j]? = some v → Value.okWide Try.prog W .any base t v := hval0
  have hW' := hW
  obtain ⟨p, q, hA0, hV, rfl, hfz, hnd⟩ := hW
  have hA : DataW.TrodAll enc Try.prog W 0 (fun _ => true) true Try.f6.params.toList args.toList ds p := hA0
  rw [Try.params6] at hA hval
  obtain ⟨v0, vs0, d0, ds0, p0, q0, hargs, rfl, rfl, h0, r0⟩ := trodAll_cons hA
  obtain ⟨v1, vs1, d1, ds1, p1, q1, rfl, rfl, rfl, h1, r1⟩ := trodAll_cons r0
  obtain ⟨rfl, rfl, rfl⟩ := trodAll_nil r1
  obtain rfl : args = #[v0, v1] := by cases args; simp_all
  obtain ⟨rfl, rfl⟩ := trodVars_none hV
  have k0 := h0
  have lt0 : ∀ x ∈ p0, x.block < W.heap.size := by obtain ⟨m, hm⟩ := k0; exact DataW.trod_lt m _ _ _ hm
  obtain ⟨a0, len0, cap0, rfl⟩ := okWide_slice Try.underlying32 (hval 0 32 v0 rfl rfl)
  have w0 := bytes_of_trod h0
  have k1 := h1
  have lt1 : ∀ x ∈ p1, x.block < W.heap.size := by obtain ⟨m, hm⟩ := k1; exact DataW.trod_lt m _ _ _ hm
  obtain ⟨a1, len1, cap1, rfl⟩ := okWide_slice Try.underlying32 (hval 1 32 v1 rfl rfl)
  have w1 := bytes_of_trod h1
  clear hA0 hval0 hval
  refine (walk _ _ W w0 w1).mono fun e W' ⟨he, bel⟩ => ?_
  subst he
  exact ⟨_, rfl, _, _, _, [], _, [], hW', trodAll_mk1 (shut_bool Try.underlying4 _), (trodAll_cons_mk (Below.trod laidOut (by kernel_rfl) (of_decide_eq_true (by kernel_rfl)) k0 bel lt0) (trodAll_cons_mk (Below.trod laidOut (by kernel_rfl) (of_decide_eq_true (by kernel_rfl)) k1 bel lt1) trodAll_mk0)), rfl, bel.frame _, fun h => by cases h⟩

set_option maxRecDepth 100000 in
theorem over : Rows.fnInstanceOfRow.holds Try.pinned (OpenSpec.ofChange Rows.fnInstanceOfSpec) :=
  OpenClaim.holds_of_wide 6 Try.f6 rfl rfl rfl rfl rfl rfl rfl ⟨rfl, rfl, rfl, rfl, rfl⟩ rfl rfl rfl rfl rfl (by kernel_rfl) Try.func6 (by kernel_rfl)
    (of_decide_eq_true (by kernel_rfl)) (by unfold Func.isWrapper; first | (rw [if_pos (by decide +kernel)]; kernel_rfl) | (rw [if_neg (by decide +kernel)]; exact ⟨rfl, rfl⟩))
    (fun os started H enc _ => lifted os started H enc)

/-- the statement -/
theorem proved : Rows.FnInstanceOfSaid := over
end Go.Proofs.Yteplfajhmpmklaa.fnInstanceOf
