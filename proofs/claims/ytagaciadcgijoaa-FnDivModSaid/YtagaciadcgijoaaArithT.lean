/-
  Values of arithmetic terms: the reference's l5Arith, EvalArith.
-/
import Derived.Test.YtagaciadcgijoaaArithS
namespace Go.Proofs.Ytagaciadcgijoaa
open Go.RowKit
set_option linter.unusedVariables false

def ArSC (t : Tm) : Prop := ∀ (v : Value) (S : Nat → Prop) (w : World) (d : Nat), shapeF t d = true → Tm.at S w t v → Calls Try.prog 68 #[v] w (ArOut (arF t) w)
set_option maxRecDepth 100000 in
set_option maxHeartbeats 4000000 in
theorem specl5Arith : ∀ (m : Nat) (t : Tm), Tm.sz t ≤ m → ArSC t := by
  intro m
  induction m with
  | zero => intro t hm; have := Tm.sz_pos t; omega
  | succ m ih =>
    intro t hm v S w d hsh ht
    obtain ⟨k, n, s, ks⟩ := t
    have IH := Lib.hid (show ∀ (j : Nat) (u : Tm), ks[j]? = some u → ArSC u from fun j u h => ih u (by
      have := kid_lt (k := k) (n := n) (s := s) (ks := ks) h; omega))
    clear ih hm
    obtain ⟨hs1, sv, rfl, a, cap, rfl, h1, h2, h3, h4⟩ := ht
    have H4 := Lib.hid h4
    have HSH := Lib.hid hsh
    clear h4 hsh
    by_cases hk2 : k = 2
    · subst hk2
      have HF := Lib.hid (show arF (.mk 2 n s ks) = (n, 0) by simp [arF, arC])
      go_enter Try.func68, Try.ntmps68
      go_wp2_with fail
      go_ret2
      exact ⟨by rw [HF.out]; rfl, Ext.alloc _ _⟩
    by_cases hk1 : k = 1
    · subst hk1
      have HF := Lib.hid (show arF (.mk 1 n s ks) = (0, 2) by simp [arF, arC])
      clear hk2
      go_enter Try.func68, Try.ntmps68
      go_wp2_with fail
      go_ret2
      exact ⟨by rw [HF.out]; rfl, Ext.alloc _ _⟩
    have q2 : (k == 2) = false := by simpa using hk2
    have q1 : (k == 1) = false := by simpa using hk1
    obtain ⟨L, hL⟩ : ∃ L, L = opLevelF s.toList := ⟨_, rfl⟩
    have HLV := Lib.hid (show ∀ W, Calls Try.prog 107 #[.string s] W fun e w' => e = .returned (.int .i64 L) ∧ W = w' from fun W => by rw [hL]; exact specl2Level s W)
    by_cases hl : ks.length = 2
    · have hl1 : ((ks.length : Int) != 2) = false := by simp [hl]
      cases hh : hasF opsA s
      · have hno := lvl_no hh
        rw [← hL] at hno
        have qa : (L != 1) = true := by simpa using hno.1
        have qb : (L != 2) = true := by simpa using hno.2
        have HF := Lib.hid (show arF (.mk k n s ks) = (0, 3) by simp [arF, arC, hk2, hk1, hh])
        clear hl hk2 hk1 hh hno hL
        go_enter Try.func68, Try.ntmps68
        go_wp2_with fail
        refine (HLV.out _).mono ?_
        rintro e w1 ⟨rfl, rfl⟩
        go_wp2_with fail
        go_ret2
        exact ⟨by rw [HF.out]; rfl, Ext.alloc _ _⟩
      · have hyes := lvl_yes hh
        rw [← hL] at hyes
        have HH := Lib.hid hh
        obtain ⟨x, y, rfl⟩ := two_of hl
        obtain ⟨b, off, ax, cx, rfl, hSb, x1, x2, x3, x4, hatx⟩ := tget (k := 0) (t := x) H4.out rfl
        obtain ⟨b', off', ay, cy, hbb, _, y1, y2, y3, y4, haty⟩ := tget (k := 1) (t := y) H4.out rfl
        simp only [Option.some.injEq, Addr.mk.injEq, and_true] at hbb
        obtain ⟨rfl, rfl⟩ := hbb
        have sx := shape_kid' HSH.out (j := 0) (t := x) rfl
        have sy := shape_kid' HSH.out (j := 1) (t := y) rfl
        obtain ⟨xa, xc, hx⟩ : ∃ a c, arF x = (a, c) := ⟨_, _, rfl⟩
        obtain ⟨ya, yc, hy⟩ : ∃ a c, arF y = (a, c) := ⟨_, _, rfl⟩
        have bx := ar_bd x _ sx
        have bY := ar_bd y _ sy
        rw [hx] at bx
        rw [hy] at bY
        obtain ⟨bx1, bx2⟩ := bx
        obtain ⟨by1, by2⟩ := bY
        simp only at bx1 bx2 by1 by2
        have CX := Lib.hid (fun w' (e' : Ext w w') => IH.out 0 x rfl _ S w' _ sx (Tm.at_ext e' hatx))
        have CY := Lib.hid (fun w' (e' : Ext w w') => IH.out 1 y rfl _ S w' _ sy (Tm.at_ext e' haty))
        have HX := Lib.hid hx
        have HY := Lib.hid hy
        have HF := Lib.hid (show arF (.mk k n s [x, y]) = if xc = 0 then (if yc = 0 then arOp s.toList xa ya else (0, yc)) else (0, xc) by simp [arF, arC, hk2, hk1, hh, arL, hx, hy])
        clear hl hk2 hk1 hh hatx haty sx sy hx hy hL
        simp only [Nat.zero_mul, Nat.add_zero, Nat.one_mul] at x1 x2 x3 x4 y1 y2 y3 y4
        have bl := block_lt_of_cell x1
        simp only at bl
        rcases hyes with hl7 | hl7
        all_goals
          subst hl7
          go_enter Try.func68, Try.ntmps68
          go_wp2_with fail
          refine (HLV.out _).mono ?_
          rintro e w1 ⟨rfl, rfl⟩
          go_wp2_with fail
          refine (CX.out _ (Ext.alloc _ _)).mono ?_
          rw [HX.out]
          rintro e w1 ⟨rfl, e1⟩
          dsimp only
          have X := Lib.hid ((BoxT.new w (.int .i64 k) (.int .i64 n) (.string s) (.slice (some ⟨b, off, none⟩) 2 cap) 25 rfl).ext e1)
          have E := Lib.hid ((Ext.alloc _ _).trans e1)
          obtain ⟨b0, b1, b2, b3, _, _, _, _⟩ := X.out
          have y1 := E.out.cell y1
          have y2 := E.out.cell y2
          have y3 := E.out.cell y3
          have y4 := E.out.cell y4
          clear e1 x1 x2 x3 x4 bl
          by_cases hxc : xc = 0
          · subst hxc
            go_wp2_with fail
            refine (CY.out _ E.out).mono ?_
            rw [HY.out]
            rintro e w2 ⟨rfl, e2⟩
            dsimp only
            have X := Lib.hid (X.out.ext e2)
            have E := Lib.hid (E.out.trans e2)
            clear e2 b0 b1 b2 b3 y1 y2 y3 y4
            obtain ⟨b0, b1, b2, b3, _, _, _, _⟩ := X.out
            by_cases hyc : yc = 0
            · subst hyc
              have HF := Lib.hid (show arF (.mk k n s [x, y]) = arOp s.toList xa ya by rw [HF.out]; simp)
              go_wp2_with fail
              refine (specl5Op s xa ya _ HH.out bx1 bx2 by1 by2).mono ?_
              rintro e w3 ⟨rfl, e3⟩
              dsimp only
              go_wp2_with fail
              go_ret2
              exact ⟨by rw [HF.out]; rfl, E.out.trans e3⟩
            · have qy : (yc != 0) = true := by simpa using hyc
              have HF := Lib.hid (show arF (.mk k n s [x, y]) = (0, yc) by rw [HF.out]; simp [hyc])
              clear hyc
              go_wp2_with fail
              go_ret2
              exact ⟨by rw [HF.out]; rfl, E.out⟩
          · have qx : (xc != 0) = true := by simpa using hxc
            have HF := Lib.hid (show arF (.mk k n s [x, y]) = (0, xc) by rw [HF.out, if_neg hxc])
            clear hxc
            go_wp2_with fail
            go_ret2
            exact ⟨by rw [HF.out]; rfl, E.out⟩
    · have hl1 : ((ks.length : Int) != 2) = true := by simp; omega
      have HF := Lib.hid (show arF (.mk k n s ks) = (0, 3) by simp [arF, arC, hk2, hk1, arL_len, hl])
      clear hl hk2 hk1 hL
      go_enter Try.func68, Try.ntmps68
      go_wp2_with fail
      refine (HLV.out _).mono ?_
      rintro e w1 ⟨rfl, rfl⟩
      go_wp2_with fail
      go_ret2
      exact ⟨by rw [HF.out]; rfl, Ext.alloc _ _⟩
set_option maxRecDepth 100000 in
theorem specEvalArith (t : Tm) (v : Value) (S : Nat → Prop) (w : World) (ht : Tm.at S w t v) : Calls Try.prog 17 #[v] w (ArOut (evF t) w) := by
  obtain ⟨a0, c0, rfl⟩ := at_form ht
  have V := Lib.hid (Tm.at_ext (Ext.alloc w (.cells #[.int .i64 t.kind, .int .i64 t.n, .string t.name, .slice a0 t.kids.length c0] 25)) ht)
  clear ht
  cases hv : validF t
  all_goals
    have HV := Lib.hid hv
    clear hv
    go_enter Try.func17, Try.ntmps17
    go_wp2_with fail
    refine (specTermValid t _ _ _ V.out).mono ?_
    rw [HV.out]
    rintro e w1 ⟨rfl, e1⟩
    obtain ⟨b0, b1, b2, b3, _, _, _, _⟩ := (BoxT.new w (.int .i64 t.kind) (.int .i64 t.n) (.string t.name) (.slice a0 t.kids.length c0) 25 rfl).ext e1
    have V := Lib.hid (Tm.at_ext e1 V.out)
    have E := Lib.hid ((Ext.alloc _ _).trans e1)
    clear e1
    go_wp2_with fail
  · go_ret2
    exact ⟨by unfold evF; rw [HV.out]; rfl, E.out⟩
  · refine (specl5Arith _ t (Nat.le_refl _) _ _ _ 30 (valid_shape HV.out) V.out).mono ?_
    rintro e w2 ⟨rfl, e2⟩
    have HE := Lib.hid (show evF t = arF t by unfold evF; rw [HV.out]; rfl)
    dsimp only
    go_wp2_with fail
    go_ret2
    exact ⟨by rw [HE.out]; rfl, E.out.trans e2⟩

end Go.Proofs.Ytagaciadcgijoaa
