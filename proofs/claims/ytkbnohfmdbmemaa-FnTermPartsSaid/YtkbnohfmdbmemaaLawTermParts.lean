/-
  For every code FnTermParts returns true: two drawn terms are equal, in the program and in the reference, exactly if their roots and all arguments are.
-/
import Derived.Test.YtkbnohfmdbmemaaRows
import Derived.Test.YtkbnohfmdbmemaaSame2
import Derived.Test.YtkbnohfmdbmemaaDraws
import Derived.Test.YtkbnohfmdbmemaaBRep
import Derived.ProofKit
import Derived.OpenShut
import Derived.ShutString
namespace Go.Proofs.Ytkbnohfmdbmemaa.fnTermParts
open Go.ChangeShapes Go.WideShapes Go.ChangeAt Go.RowKit
open Go.ChangeMaps (open_string shut_string)
set_option linter.unusedVariables false

theorem own : ownKnob Try.prog.godebug = none := by kernel_rfl
theorem laidOut : laidOutB Try.prog = true := by kernel_rfl

theorem same_ne {t u : Tm} (h : (t.kind == u.kind) = false ∨ (t.n == u.n) = false ∨ (t.name.toList == u.name.toList) = false ∨ t.kids.length ≠ u.kids.length) : Tm.same t u = false := by
  obtain ⟨k, n, s, ks⟩ := t
  obtain ⟨k', n', s', ks'⟩ := u
  simp only [Tm.kind, Tm.n, Tm.name, Tm.kids] at h
  simp only [Tm.same]
  rcases h with h | h | h | h
  · simp only [h, Bool.false_and]
  · simp only [h, Bool.false_and, Bool.and_false]
  · simp only [h, Bool.false_and, Bool.and_false]
  · cases hl : Tm.sameL ks ks' with
    | false => simp
    | true => exact absurd (sameL_len hl) h
theorem same_kids {t u : Tm} (h1 : (t.kind == u.kind) = true) (h2 : (t.n == u.n) = true) (h3 : (t.name.toList == u.name.toList) = true) : Tm.same t u = Tm.sameL t.kids u.kids := by
  obtain ⟨k, n, s, ks⟩ := t
  obtain ⟨k', n', s', ks'⟩ := u
  simp only [Tm.kind, Tm.n, Tm.name, Tm.kids] at *
  simp only [Tm.same, h1, h2, h3, Bool.true_and]

set_option maxRecDepth 100000 in
set_option maxHeartbeats 4000000 in
theorem walk (v : Value) (w : World) (hv : BytesAt w v) :
    Calls Try.prog 3 #[v] w fun e w' => e = .returned (.bool true) ∧ Below w.heap.size w w' := by
  have HV := Lib.hid hv
  obtain ⟨a, len, cap, rfl, h1, h2, h3⟩ := hv
  clear h3
  by_cases hl : len ≤ 1048576
  · go_enter Try.func3, Try.ntmps3
    go_wp2_with fail
    refine (drawTermSame _ _ HV.out).mono ?_
    rintro e w1 ⟨t, u, v1, v2, rfl, hv1, hv2, e1⟩
    obtain ⟨a1, c1, rfl⟩ := at_form hv1
    obtain ⟨a2, c2, rfl⟩ := at_form hv2
    have ea := (Ext.alloc w1 (.cells #[.int .i64 t.kind, .int .i64 t.n, .string t.name, .slice a1 t.kids.length c1] 25)).trans (Ext.alloc _ (.cells #[.int .i64 u.kind, .int .i64 u.n, .string u.name, .slice a2 u.kids.length c2] 25))
    have B1 := Lib.hid ((BoxT.new w1 (.int .i64 t.kind) (.int .i64 t.n) (.string t.name) (.slice a1 t.kids.length c1) 25 rfl).ext (Ext.alloc _ (.cells #[.int .i64 u.kind, .int .i64 u.n, .string u.name, .slice a2 u.kids.length c2] 25)))
    have B2 := Lib.hid (BoxT.new (w1.alloc (.cells #[.int .i64 t.kind, .int .i64 t.n, .string t.name, .slice a1 t.kids.length c1] 25)) (.int .i64 u.kind) (.int .i64 u.n) (.string u.name) (.slice a2 u.kids.length c2) 25 (b := w1.heap.size + 1) (by simp))
    have V1 := Lib.hid (Tm.at_ext ea hv1)
    have V2 := Lib.hid (Tm.at_ext ea hv2)
    have B := Lib.hid (e1.trans ea)
    clear e1 ea hv1 hv2
    go_wp2_with fail
    refine (implTermSame _ t u _ _ _ _ _ (Nat.le_refl _) V1.out V2.out).mono ?_
    rintro e w2 ⟨rfl, e2⟩
    have V1 := Lib.hid (Tm.at_ext e2 V1.out)
    have V2 := Lib.hid (Tm.at_ext e2 V2.out)
    obtain ⟨x0, x1, x2, x3, _, _, _, _⟩ := B1.out.ext e2
    obtain ⟨y0, y1, y2, y3, _, _, _, _⟩ := B2.out.ext e2
    have B1 := Lib.hid (B1.out.ext e2)
    have B2 := Lib.hid (B2.out.ext e2)
    have B := Lib.hid (B.out.trans e2)
    clear e2
    go_wp2_with fail
    refine (specTermSame _ t u _ _ _ _ _ (Nat.le_refl _) V1.out V2.out).mono ?_
    rintro e w3 ⟨rfl, e3⟩
    have V1 := Lib.hid (Tm.at_ext e3 V1.out)
    have V2 := Lib.hid (Tm.at_ext e3 V2.out)
    have B := Lib.hid (B.out.trans e3)
    have B1 := B1.out.ext e3
    have B2 := B2.out.ext e3
    clear e3 x0 x1 x2 x3 y0 y1 y2 y3
    obtain ⟨x0, x1, x2, x3, _, _, _, _⟩ := B1
    obtain ⟨y0, y1, y2, y3, _, _, _, _⟩ := B2
    have HF : ∀ {P : Prop}, ((t.kind == u.kind) = false ∨ (t.n == u.n) = false ∨ (t.name.toList == u.name.toList) = false ∨ t.kids.length ≠ u.kids.length → P) → (((t.kind == u.kind) = true ∧ (t.n == u.n) = true ∧ (t.name.toList == u.name.toList) = true ∧ t.kids.length = u.kids.length) → P) → P := by
      intro P h1 h2
      cases q1 : (t.kind == u.kind) <;> cases q2 : (t.n == u.n) <;> cases q3 : (t.name.toList == u.name.toList) <;> by_cases q4 : t.kids.length = u.kids.length
      all_goals first
        | exact h2 ⟨q1, q2, q3, q4⟩
        | (refine h1 ?_; simp_all)
    refine HF (fun hne => ?_) (fun hq => ?_)
    · have hs := same_ne hne
      clear HF
      rw [hs]
      cases q1 : (t.kind == u.kind)
      · clear hne hs
        go_wp2_with fail
        go_loop [6, 7] (fun al i => al = .bool false ∧ i = .int .i64 0) (fun _ _ => 0)
        case atStart => exact ⟨rfl, rfl⟩
        case round =>
          obtain ⟨rfl, rfl⟩ := hrel
          by_cases hz : 0 < t.kids.length
          all_goals
            go_wp2_with fail
            go_ret
            exact ⟨rfl, B.out⟩
      cases q2 : (t.n == u.n)
      · clear hne hs
        go_wp2_with fail
        go_loop [6, 7] (fun al i => al = .bool false ∧ i = .int .i64 0) (fun _ _ => 0)
        case atStart => exact ⟨rfl, rfl⟩
        case round =>
          obtain ⟨rfl, rfl⟩ := hrel
          by_cases hz : 0 < t.kids.length
          all_goals
            go_wp2_with fail
            go_ret
            exact ⟨rfl, B.out⟩
      cases q3 : (t.name.toList == u.name.toList)
      · clear hne hs
        go_wp2_with fail
        go_loop [6, 7] (fun al i => al = .bool false ∧ i = .int .i64 0) (fun _ _ => 0)
        case atStart => exact ⟨rfl, rfl⟩
        case round =>
          obtain ⟨rfl, rfl⟩ := hrel
          by_cases hz : 0 < t.kids.length
          all_goals
            go_wp2_with fail
            go_ret
            exact ⟨rfl, B.out⟩
      by_cases q4 : t.kids.length = u.kids.length
      · rcases hne with h | h | h | h
        · rw [q1] at h; cases h
        · rw [q2] at h; cases h
        · rw [q3] at h; cases h
        · exact absurd q4 h
      · have q4' : ((t.kids.length : Int) == (u.kids.length : Int)) = false := by simp; omega
        clear hne hs q4
        go_wp2_with fail
        go_loop [6, 7] (fun al i => al = .bool false ∧ i = .int .i64 0) (fun _ _ => 0)
        case atStart => exact ⟨rfl, rfl⟩
        case round =>
          obtain ⟨rfl, rfl⟩ := hrel
          by_cases hz : 0 < t.kids.length
          all_goals
            go_wp2_with fail
            go_ret
            exact ⟨rfl, B.out⟩
    · obtain ⟨q1, q2, q3, q4⟩ := hq
      have hs := same_kids q1 q2 q3
      have E4 := Lib.hid q4
      have q4' : ((t.kids.length : Int) == (u.kids.length : Int)) = true := by simp; omega
      obtain ⟨_, sv1, hsv1, b1, d1, rfl, h1a, h1b, h1c, h1d⟩ := Tm.at_iff.1 V1.out
      obtain ⟨_, sv2, hsv2, b2, d2, rfl, h2a, h2b, h2c, h2d⟩ := Tm.at_iff.1 V2.out
      simp at hsv1 hsv2
      obtain ⟨rfl, rfl⟩ := hsv1
      obtain ⟨rfl, rfl⟩ := hsv2
      have H1 := Lib.hid h1d
      have H2 := Lib.hid h2d
      have HS := Lib.hid hs
      clear HF h1d h2d hs q4 V1 V2
      cases hsm : Tm.same t u
      all_goals
        have HSM := Lib.hid (HS.out.symm.trans hsm)
        clear hsm
        go_wp2_with fail
        go_loopw [6, 7] (fun al i wr => ∃ (k : Nat) (b : Bool), k ≤ t.kids.length ∧ i = .int .i64 k ∧ al = .bool b ∧ Hid (b = true → SameTo k t.kids u.kids) ∧ Hid (b = false → Tm.sameL t.kids u.kids = false) ∧ Hid (Ext w3 wr) ∧
            wr.cell? ⟨w1.heap.size, 3, none⟩ = some (.slice a1 t.kids.length c1) ∧ wr.cell? ⟨w1.heap.size + 1, 3, none⟩ = some (.slice a2 u.kids.length c2)) (fun _ i _ => t.kids.length - (intOf i).toNat)
        case atStart => exact ⟨0, true, Nat.zero_le _, rfl, rfl, fun _ => sameTo_zero _ _, (fun h => by cases h), Ext.refl _, x3, y3⟩
        case round =>
          obtain ⟨k, b, hk, rfl, rfl, HB1, HB2, HE, z1, z2⟩ := hrel
          clear x0 x1 x2 x3 y0 y1 y2 y3
          cases b
          · have hF := Lib.hid (HB2.out rfl)
            by_cases hlt : k < t.kids.length
            all_goals
              go_wp2_with fail
              first
                | (go_ret; exact ⟨rfl, B.out.trans HE.out⟩)
                | (exfalso; have := hF.out; have := HSM.out; simp_all)
          · have hT := Lib.hid (HB1.out rfl)
            by_cases hlt : k < t.kids.length
            · have hlt' : k < u.kids.length := by have := E4.out; omega
              obtain ⟨tk, htk⟩ := getk hlt
              obtain ⟨uk, huk⟩ := getk hlt'
              obtain ⟨bb, off, ak, ck, rfl, hSb, k1, k2, k3, k4, hat⟩ := tget H1.out htk
              obtain ⟨bb', off', ak', ck', rfl, hSb', l1, l2, l3, l4, hat'⟩ := tget H2.out huk
              have k1 := HE.out.cell k1
              have k2 := HE.out.cell k2
              have k3 := HE.out.cell k3
              have k4 := HE.out.cell k4
              have l1 := HE.out.cell l1
              have l2 := HE.out.cell l2
              have l3 := HE.out.cell l3
              have l4 := HE.out.cell l4
              have p1 := cell_regrown k1
              have p2 := cell_regrown k2
              have p3 := cell_regrown k3
              have p4 := cell_regrown k4
              have r1 := cell_regrown l1
              have r2 := cell_regrown l2
              have r3 := cell_regrown l3
              have r4 := cell_regrown l4
              have m1 := cell_regrown z1
              have m2 := cell_regrown z2
              have cQ := quiet_call (w := wr) (fun w' e' => implTermSame _ tk uk _ _ _ _ w' (Nat.le_refl _) (Tm.at_ext (HE.out.trans e') hat) (Tm.at_ext (HE.out.trans e') hat'))
              have HN := Lib.hid (fun h => sameL_no htk huk h)
              have HY := Lib.hid (fun h => sameTo_succ hT.out htk huk h)
              clear k1 k2 k3 k4 l1 l2 l3 l4 htk huk hSb hSb' hat hat'
              cases hsk : Tm.same tk uk
              all_goals
                rw [hsk] at cQ
                have HSK := Lib.hid hsk
                clear hsk
                go_wp2_with fail
                refine region_ext (by kernel_rfl) (by kernel_rfl) ?_
                repeat (quiet_step (exact cQ _ _))
                refine wpQuiet_nil ?_
                intro wq eq
                go_wp2_with fail
                go_roundw
                case rel => exact ⟨k + 1, _, by omega, by go_num, rfl, Lib.hid (fun h => by first | (cases h; done) | exact HY.out HSK.out), Lib.hid (fun h => by first | (cases h; done) | exact HN.out HSK.out), Lib.hid (HE.out.trans eq), eq.cell z1, eq.cell z2⟩
                case measure => simp [intOf]; omega
            · have hA := Lib.hid (sameTo_all E4.out (by omega) hT.out)
              go_wp2_with fail
              first
                | (go_ret; exact ⟨rfl, B.out.trans HE.out⟩)
                | (exfalso; have := hA.out; have := HSM.out; simp_all)
  · go_enter Try.func3, Try.ntmps3
    go_wp2_with fail
    go_ret
    exact ⟨rfl, Below.refl _ _⟩

set_option maxRecDepth 100000 in
theorem lifted (os : Os) (started : os.Started) (H : Type) (enc : TypeId × Value → H) :
    ReturnsInHanded {} Try.checked os 3 .any (Rows.fnTermPartsSpec.pre6 enc Try.prog Try.f3 Rows.fnTermPartsRow.domain false) (Rows.fnTermPartsSpec.post enc Try.prog Try.f3 false true false false) := by
  refine returnsInHanded_of_change (C := Try.checked) own started (by kernel_rfl) Try.func3
    (ChangeSpec.witness6 (enc := enc) (C := Try.checked) false ⟨#[], #[.slice none 0 0], []⟩ 8 (by kernel_rfl) (by kernel_rfl) (by kernel_rfl) (by kernel_rfl)) ?_
  intro W base args ds gs before hval0 hW hcnd _
  have hval : ∀ (j : Nat) t v, Try.f3.params[j]? = some t → args[j]? = some v → Value.okWide Try.prog W .any base t v := hval0
  have hW' := hW
  obtain ⟨p, q, hA0, hV, rfl, hfz, hnd⟩ := hW
  have hA : DataW.TrodAll enc Try.prog W 0 (fun _ => true) true Try.f3.params.toList args.toList ds p := hA0
  rw [Try.params3] at hA hval
  obtain ⟨v0, vs0, d0, ds0, p0, q0, hargs, rfl, rfl, h0, r0⟩ := trodAll_cons hA
  obtain ⟨rfl, rfl, rfl⟩ := trodAll_nil r0
  obtain rfl : args = #[v0] := by cases args; simp_all
  obtain ⟨rfl, rfl⟩ := trodVars_none hV
  have k0 := h0
  have lt0 : ∀ x ∈ p0, x.block < W.heap.size := by obtain ⟨m, hm⟩ := k0; exact DataW.trod_lt m _ _ _ hm
  obtain ⟨a0, len0, cap0, rfl⟩ := okWide_slice Try.underlying22 (hval 0 22 v0 rfl rfl)
  have w0 := bytes_of_trod h0
  clear hA0 hval0 hval
  refine (walk _ W w0).mono fun e W' ⟨he, bel⟩ => ?_
  subst he
  exact ⟨_, rfl, _, _, _, [], _, [], hW', trodAll_mk1 (shut_bool Try.underlying4 _), (trodAll_cons_mk (Below.trod laidOut (by kernel_rfl) (of_decide_eq_true (by kernel_rfl)) k0 bel lt0) trodAll_mk0), rfl, bel.frame _, fun h => by cases h⟩

set_option maxRecDepth 100000 in
theorem over : Rows.fnTermPartsRow.holds Try.pinned (OpenSpec.ofChange Rows.fnTermPartsSpec) :=
  OpenClaim.holds_of_wide 3 Try.f3 rfl rfl rfl rfl rfl rfl rfl ⟨rfl, rfl, rfl, rfl, rfl⟩ rfl rfl rfl rfl rfl (by kernel_rfl) Try.func3 (by kernel_rfl)
    (of_decide_eq_true (by kernel_rfl)) (by unfold Func.isWrapper; first | (rw [if_pos (by decide +kernel)]; kernel_rfl) | (rw [if_neg (by decide +kernel)]; exact ⟨rfl, rfl⟩))
    (fun os started H enc _ => lifted os started H enc)

/-- the statement -/
theorem proved : Rows.FnTermPartsSaid := over
end Go.Proofs.Ytkbnohfmdbmemaa.fnTermParts
