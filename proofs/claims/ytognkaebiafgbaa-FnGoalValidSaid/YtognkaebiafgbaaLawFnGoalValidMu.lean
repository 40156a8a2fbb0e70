/-
  For all codes FnGoalValid returns true: the program and the reference take the same drawn terms for goals and the same names for built in predicates, and a goal is a clause's head if it is neither built in nor the cut.
-/
import Derived.Test.YtognkaebiafgbaaRows
import Derived.Deep.RegionHeld3
import Derived.ProofKit
import Derived.OpenShut
import Derived.Test.YtognkaebiafgbaaMu50
import Derived.Test.YtognkaebiafgbaaMu51
import Derived.Test.YtognkaebiafgbaaMu16
namespace Go.Proofs.Ytognkaebiafgbaa.fnGoalValid
open Go.ChangeShapes Go.WideShapes Go.ChangeAt Go.RowKit
open Go.ChangeMaps (open_string shut_string)
set_option linter.unusedVariables false
theorem own : ownKnob Try.prog.godebug = none := by kernel_rfl
theorem laidOut : laidOutB Try.prog = true := by kernel_rfl
theorem head_goal (g : Tm) : clValidF ⟨g, []⟩ = (goalF g && !(isBuiltinF g.name.toList g.kids.length || ((g.name.toList == [33]) && ((g.kids.length : Int) == 0)))) := by
  obtain ⟨k, n, s, ks⟩ := g
  have hg : goalsF [] = true := by decide
  have h1 : clValidF ⟨.mk k n s ks, []⟩ = (validF (.mk k n s ks) && plainF k s ks.length) := by
    show (validF (.mk k n s ks) && plainF k s ks.length && goalsF []) = _
    rw [hg, Bool.and_true]
  obtain ⟨W, hW⟩ : ∃ W, (wordF s.toList && !(decide (0 < opLevelF s.toList))) = W := ⟨_, rfl⟩
  have h2 : plainF k s ks.length = ((k == 3) && W && !isBuiltinF s.toList ks.length) := by rw [← hW]; unfold plainF; simp [Bool.and_assoc]
  have hb : s.toList = [33] → W = false := fun h => by rw [← hW, h]; decide
  show _ = (validF (.mk k n s ks) && (cutF k s ks.length || plainF k s ks.length || builtF k s ks.length) && !(isBuiltinF s.toList ks.length || ((s.toList == [33]) && ((ks.length : Int) == 0))))
  rw [h1, h2]
  unfold cutF builtF
  clear h1 h2 hW hg
  generalize validF (.mk k n s ks) = V
  generalize isBuiltinF s.toList (ks.length : Int) = I
  generalize ((ks.length : Int) == 0) = Z
  generalize (k == 3) = K
  by_cases h : s.toList = [33]
  · rw [hb h]
    have : (s.toList == [33]) = true := by simp [h]
    rw [this]
    cases V <;> cases I <;> cases Z <;> cases K <;> rfl
  · have hb' : (s.toList == [33]) = false := by simp [h]
    rw [hb']
    cases V <;> cases I <;> cases Z <;> cases W <;> cases K <;> rfl
theorem fact_at {S : Nat → Prop} {w : World} {g : Tm} {a : Option Addr} {c : Nat} (h : Tm.at S w g (.agg #[.int .i64 g.kind, .int .i64 g.n, .string g.name, .slice a g.kids.length c])) : Cl.at S w ⟨g, []⟩ (.agg #[.int .i64 g.kind, .int .i64 g.n, .string g.name, .slice a g.kids.length c, .slice none 0 0]) :=
  ⟨_, _, rfl, h, none, 0, rfl, Nat.le_refl _, by omega, Nat.zero_le _, .inl rfl⟩
set_option maxRecDepth 100000 in
set_option maxHeartbeats 8000000 in
theorem walk (v0 v1 : Value) (w : World) (hv0 : BytesAt w v0) (hv1 : BytesAt w v1) :
    Calls Try.prog 3 #[v0, v1] w fun e w' => e = .returned (.bool true) ∧ Below w.heap.size w w' := by
  have HV0 := Lib.hid hv0
  have HV1 := Lib.hid hv1
  obtain ⟨a, len, cap, rfl, h1, h2, h3⟩ := hv0
  obtain ⟨a', len', cap', rfl, h1', h2', h3'⟩ := hv1
  clear h3 h3'
  by_cases hl : len ≤ 1048576
  · by_cases hl' : len' ≤ 1048576
    · go_enter Try.func3, Try.ntmps3
      go_wp2_with fail
      refine (drawGoalValid _ _ HV0.out).mono ?_
      rintro e w1 ⟨g, v, rfl, hat, e1⟩
      obtain ⟨ag, cg, rfl⟩ := at_form hat
      have ea := Ext.alloc w1 (.cells #[.int .i64 g.kind, .int .i64 g.n, .string g.name, .slice ag g.kids.length cg] 25)
      have XG := Lib.hid (BoxT.new w1 (.int .i64 g.kind) (.int .i64 g.n) (.string g.name) (.slice ag g.kids.length cg) 25 rfl)
      have G := Lib.hid (Tm.at_ext ea hat)
      have B := Lib.hid (e1.trans ea)
      have HH := head_goal g
      clear e1 ea hat
      go_wp2_with fail
      refine (implGoalValid_t g _ _ _ G.out).mono ?_
      rintro e w2 ⟨rfl, e2⟩
      have G := Lib.hid (Tm.at_ext e2 G.out)
      have XG := Lib.hid (XG.out.ext e2)
      have B := Lib.hid (B.out.trans e2)
      clear e2
      go_wp2_with fail
      refine (drawIsBuiltin _ _ (HV1.out.ext B.out)).mono ?_
      rintro e w3 ⟨y, n, rfl, hy, e2⟩
      have G := Lib.hid (Tm.at_ext e2 G.out)
      have XG := Lib.hid (XG.out.ext e2)
      have B := Lib.hid (B.out.trans e2)
      clear e2
      obtain ⟨b0, b1, b2, b3, _, _, _, _⟩ := XG.out
      obtain ⟨ok, hok⟩ : ∃ b, goalF g = b := ⟨_, rfl⟩
      obtain ⟨bI, hI⟩ : ∃ b, isBuiltinF g.name.toList (g.kids.length : Int) = b := ⟨_, rfl⟩
      obtain ⟨bY, hY⟩ : ∃ b, isBuiltinF y.toList n = b := ⟨_, rfl⟩
      rw [hok, hI] at HH
      rw [hok]
      have HOK := Lib.hid hok
      have HI := Lib.hid hI
      have HY := Lib.hid hY
      have HHH := Lib.hid HH
      have hyy : (bY != bY) = false := by simp
      clear hok hI hY HH
      have hoo : (ok != ok) = false := by simp
      go_wp2_with fail
      refine (specGoalValid_t g _ _ _ G.out).mono ?_
      rw [HOK.out]
      rintro e w4 ⟨rfl, e2⟩
      have G := Lib.hid (Tm.at_ext e2 G.out)
      have XG := Lib.hid (XG.out.ext e2)
      have B := Lib.hid (B.out.trans e2)
      clear e2 b0 b1 b2 b3
      go_wp2_with fail
      refine (implIsBuiltin_x _ _ _).mono ?_
      rw [HY.out]
      rintro e w5 ⟨rfl, e2⟩
      have G := Lib.hid (Tm.at_ext e2 G.out)
      have XG := Lib.hid (XG.out.ext e2)
      have B := Lib.hid (B.out.trans e2)
      clear e2
      go_wp2_with fail
      refine (specIsBuiltin_x _ _ _).mono ?_
      rw [HY.out]
      rintro e w6 ⟨rfl, e2⟩
      have G := Lib.hid (Tm.at_ext e2 G.out)
      have XG := Lib.hid (XG.out.ext e2)
      have B := Lib.hid (B.out.trans e2)
      clear e2
      obtain ⟨b0, b1, b2, b3, _, _, _, _⟩ := XG.out
      go_wp2_with fail
      refine (implClauseValid ⟨g, []⟩ _ _ _ (fact_at G.out)).mono ?_
      rw [HHH.out]
      rintro e w7 ⟨rfl, e2⟩
      have G := Lib.hid (Tm.at_ext e2 G.out)
      have XG := Lib.hid (XG.out.ext e2)
      have B := Lib.hid (B.out.trans e2)
      clear e2 b0 b1 b2 b3 hoo hyy
      obtain ⟨b0, b1, b2, b3, _, _, _, _⟩ := XG.out
      obtain ⟨bN, hN⟩ : ∃ b, (g.name.toList == [33]) = b := ⟨_, rfl⟩
      rw [hN]
      go_wp2_with fail
      refine (implIsBuiltin_x _ _ _).mono ?_
      rw [HI.out]
      rintro e w8 ⟨rfl, e2⟩
      have G := Lib.hid (Tm.at_ext e2 G.out)
      have XG := Lib.hid (XG.out.ext e2)
      have B := Lib.hid (B.out.trans e2)
      clear e2 b0 b1 b2 b3
      obtain ⟨b0, b1, b2, b3, _, _, _, _⟩ := XG.out
      have hk : ((g.kids.length : Int) == 0) = true ∨ ((g.kids.length : Int) == 0) = false := by cases ((g.kids.length : Int) == 0) <;> simp
      cases bI <;> cases bN <;> rcases hk with hk | hk <;> cases ok <;> (rw [hk]; go_wp2_with fail; go_ret; exact ⟨rfl, B.out⟩)
    · go_enter Try.func3, Try.ntmps3
      go_wp2_with fail
      go_ret
      exact ⟨rfl, Below.refl _ _⟩
  · go_enter Try.func3, Try.ntmps3
    go_wp2_with fail
    go_ret
    exact ⟨rfl, Below.refl _ _⟩
set_option maxRecDepth 100000 in
theorem lifted (os : Os) (started : os.Started) (H : Type) (enc : TypeId × Value → H) :
    ReturnsInHanded {} Try.checked os 3 .any (Rows.fnGoalValidSpec.pre6 enc Try.prog Try.f3 Rows.fnGoalValidRow.domain false) (Rows.fnGoalValidSpec.post enc Try.prog Try.f3 false true false false) := by
  refine returnsInHanded_of_change (C := Try.checked) own started (by kernel_rfl) Try.func3
    (ChangeSpec.witness6 (enc := enc) (C := Try.checked) false ⟨#[], #[.slice none 0 0, .slice none 0 0], []⟩ 8 (by kernel_rfl) (by kernel_rfl) (by kernel_rfl) (by kernel_rfl)) ?_
  intro W base args ds gs before hval0 hW hcnd _
  have hval : ∀ (j : Nat) t v, Try.f3.params[j]? = some t → args[j]? = some v → Value.okWide Try.prog W .any base t v := hval0
  have hW' := hW
  obtain ⟨p, q, hA0, hV, rfl, hfz, hnd⟩ := hW
  have hA : DataW.TrodAll enc Try.prog W 0 (fun _ => true) true Try.f3.params.toList args.toList ds p := hA0
  rw [Try.params3] at hA hval
  obtain ⟨v0, vs0, d0, ds0, p0, q0, hargs, rfl, rfl, h0, r0⟩ := trodAll_cons hA
  obtain ⟨v1, vs1, d1, ds1, p1, q1, rfl, rfl, rfl, h1, r1⟩ := trodAll_cons r0
  obtain ⟨rfl, rfl, rfl⟩ := trodAll_nil r1
  obtain rfl : args = #[v0, v1] := by cases args; simp_all
  obtain ⟨rfl, rfl⟩ := trodVars_none hV
  have k0 := h0
  have lt0 : ∀ x ∈ p0, x.block < W.heap.size := by obtain ⟨m, hm⟩ := k0; exact DataW.trod_lt m _ _ _ hm
  obtain ⟨a0, len0, cap0, rfl⟩ := okWide_slice Try.underlying22 (hval 0 22 v0 rfl rfl)
  have w0 := bytes_of_trod h0
  have k1 := h1
  have lt1 : ∀ x ∈ p1, x.block < W.heap.size := by obtain ⟨m, hm⟩ := k1; exact DataW.trod_lt m _ _ _ hm
  obtain ⟨a1, len1, cap1, rfl⟩ := okWide_slice Try.underlying22 (hval 1 22 v1 rfl rfl)
  have w1 := bytes_of_trod h1
  clear hA0 hval0 hval
  refine (walk _ _ W w0 w1).mono fun e W' ⟨he, bel⟩ => ?_
  subst he
  exact ⟨_, rfl, _, _, _, [], _, [], hW', trodAll_mk1 (shut_bool Try.underlying4 _), (trodAll_cons_mk (Below.trod laidOut (by kernel_rfl) (of_decide_eq_true (by kernel_rfl)) k0 bel lt0) (trodAll_cons_mk (Below.trod laidOut (by kernel_rfl) (of_decide_eq_true (by kernel_rfl)) k1 bel lt1) trodAll_mk0)), rfl, bel.frame _, fun h => by cases h⟩
set_option maxRecDepth 100000 in
theorem over : Rows.fnGoalValidRow.holds Try.pinned (OpenSpec.ofChange Rows.fnGoalValidSpec) :=
  OpenClaim.holds_of_wide 3 Try.f3 rfl rfl rfl rfl rfl rfl rfl ⟨rfl, rfl, rfl, rfl, rfl⟩ rfl rfl rfl rfl rfl (by kernel_rfl) Try.func3 (by kernel_rfl)
    (of_decide_eq_true (by kernel_rfl)) (by unfold Func.isWrapper; first | (rw [if_pos (by decide +kernel)]; kernel_rfl) | (rw [if_neg (by decide +kernel)]; exact ⟨rfl, rfl⟩))
    (fun os started H enc _ => lifted os started H enc)
theorem proved : Rows.FnGoalValidSaid := over
end Go.Proofs.Ytognkaebiafgbaa.fnGoalValid
