/-
  For every code FnRenumberTerms returns true: the variables of numbered terms come in order, and numbering twice is numbering once.
-/
import Derived.Test.YtagaciadcgijoaaRows
import Derived.Test.YtagaciadcgijoaaRnP
import Derived.Test.YtagaciadcgijoaaRnDraw
import Derived.Test.YtagaciadcgijoaaBRep
import Derived.ProofKit
import Derived.OpenShut
import Derived.ShutString
namespace Go.Proofs.Ytagaciadcgijoaa.fnRenumberTerms
open Go.ChangeShapes Go.WideShapes Go.ChangeAt Go.RowKit
open Go.ChangeMaps (open_string shut_string)
set_option linter.unusedVariables false

theorem own : ownKnob Try.prog.godebug = none := by kernel_rfl
theorem laidOut : laidOutB Try.prog = true := by kernel_rfl

theorem OwnS.sl {F : Nat → Prop} {w : World} {ts : List Tm} {v : Value} (h : OwnS F ts v w) (hl : ts.length ≤ 1048576) : Tm.sl (fun _ => True) w ts v := by
  obtain ⟨xs, ho, hz, hf⟩ := h
  exact Tm.sl_mono (fun _ _ => trivial) (Agree.refl _) (own_sl ho (oflat_flat _ _ hf) hl)
theorem rn_len (ts : List Tm) : (rnF ts).length ≤ ts.length := by
  unfold rnF
  split
  · rw [renF_len]; exact Nat.le_refl _
  · simp
theorem cv_bd {ts : List Tm} (h : allVF ts = true) (j : Nat) : (varsL (ts.take j) []).length ≤ 26 := by
  have h1 := vars26 (allV_shape h)
  obtain ⟨f, hf⟩ := varsL_app (ts.drop j) (varsL (ts.take j) [])
  rw [← varsL_join, List.take_append_drop] at hf
  rw [hf] at h1
  simp at h1
  omega
theorem rn_facts {ts R : List Tm} (h : allVF ts = true) (hR : rnF ts = R) : R = renF ts ∧ R.length = ts.length ∧ allVF R = true ∧ rnF R = R := by
  have h1 : R = renF ts := by rw [← hR]; unfold rnF; rw [if_pos h]
  subst h1
  refine ⟨rfl, renF_len ts, ren_all h, ?_⟩
  unfold rnF
  rw [if_pos (ren_all h), ren_twice (allV_shape h)]

set_option maxRecDepth 100000 in
set_option maxHeartbeats 8000000 in
theorem walk (v0 : Value) (w : World) (hv0 : BytesAt w v0) :
    Calls Try.prog 13 #[v0] w fun e w' => e = .returned (.bool true) ∧ Below w.heap.size w w' := by
  have HV := Lib.hid hv0
  obtain ⟨a, len, cap, rfl, h1, h2, h3⟩ := hv0
  clear h3
  by_cases hl : len ≤ 1048576
  · go_enter Try.func13, Try.ntmps13
    go_wp2_with fail
    refine (drawRenumberTerms _ _ HV.out).mono ?_
    rintro e w1 ⟨ts, v1, rfl, hts, hv1, q⟩
    have B := Lib.hid q
    have V := Lib.hid (Tm.sl_mono (S' := fun _ => True) (fun _ _ => trivial) (Agree.refl _) hv1)
    obtain ⟨aT, cT, rfl, _⟩ := hv1
    clear q
    have HSZ : Hid (allVF ts = true → Tm.szL ts ≤ 1048576) := Lib.hid (fun h => by have := allV_sz ts h; omega)
    have HTL : Hid (ts.length ≤ 3) := Lib.hid hts
    obtain ⟨R, hR⟩ : ∃ R, rnF ts = R := ⟨_, rfl⟩
    have HRL : Hid (R.length ≤ 3) := Lib.hid (by have := rn_len ts; rw [hR] at this; omega)
    have HR := Lib.hid hR
    have hRL : R.length ≤ 3 := HRL.out
    clear hR
    obtain ⟨ok, hok⟩ : ∃ b, allVF ts = b := ⟨_, rfl⟩
    have HOK := Lib.hid hok
    clear hok
    go_wp2_with fail
    refine (implRenumberTerms ts _ _ _ HSZ.out V.out).mono ?_
    rw [HR.out, HOK.out]
    rintro e w2 ⟨aG, cG, rfl, o, q⟩
    have B := Lib.hid (B.out.trans q)
    have V := Lib.hid (Tm.sl_ext q V.out)
    clear q
    have G := Lib.hid (OwnS.sl o (by have := HRL.out; omega))
    clear o
    go_wp2_with fail
    refine (specRenumberTerms ts _ _ _ HSZ.out V.out).mono ?_
    rw [HR.out, HOK.out]
    rintro e w3 ⟨aW, cW, rfl, o, q⟩
    have B := Lib.hid (B.out.trans q)
    have V := Lib.hid (Tm.sl_ext q V.out)
    have G := Lib.hid (Tm.sl_ext q G.out)
    clear q
    have W := Lib.hid (OwnS.sl o (by have := HRL.out; omega))
    clear o
    cases ok
    · have tok : True := trivial
      go_wp2_with fail
      refine (lawspgTerms R R _ _ _ _ _ G.out W.out).mono ?_
      rw [sameL_refl]
      rintro e w4 ⟨rfl, q⟩
      have B := Lib.hid (B.out.trans q)
      have V := Lib.hid (Tm.sl_ext q V.out)
      have G := Lib.hid (Tm.sl_ext q G.out)
      have W := Lib.hid (Tm.sl_ext q W.out)
      clear q
      go_wp2_with fail
      refine (lawspgTerms R R _ _ _ _ _ G.out W.out).mono ?_
      rw [sameL_refl]
      rintro e w5 ⟨rfl, q⟩
      have B := Lib.hid (B.out.trans q)
      have V := Lib.hid (Tm.sl_ext q V.out)
      have G := Lib.hid (Tm.sl_ext q G.out)
      have W := Lib.hid (Tm.sl_ext q W.out)
      clear q
      go_wp2_with fail
      go_ret
      exact ⟨rfl, B.out⟩
    · have HS := Lib.hid (rn_facts HOK.out HR.out)
      go_wp2_with fail
      refine (lawspgTerms R R _ _ _ _ _ G.out W.out).mono ?_
      rw [sameL_refl]
      rintro e w4 ⟨rfl, q⟩
      have B := Lib.hid (B.out.trans q)
      have V := Lib.hid (Tm.sl_ext q V.out)
      have G := Lib.hid (Tm.sl_ext q G.out)
      have W := Lib.hid (Tm.sl_ext q W.out)
      clear q
      clear W
      have HSR : Hid (allVF R = true → Tm.szL R ≤ 1048576) := Lib.hid (fun h => by have := allV_sz R h; have := HRL.out; omega)
      go_wp2_with fail
      refine (implRenumberTerms R _ _ _ HSR.out G.out).mono ?_
      rw [HS.out.2.2.1, HS.out.2.2.2]
      rintro e w5 ⟨aH, cH, rfl, o, q⟩
      have B := Lib.hid (B.out.trans q)
      have V := Lib.hid (Tm.sl_ext q V.out)
      have G := Lib.hid (Tm.sl_ext q G.out)
      clear q
      have H := Lib.hid (OwnS.sl o (by have := HRL.out; omega))
      clear o
      have HQL : Hid (R.length = ts.length) := Lib.hid HS.out.2.1
      have hqq : ((R.length : Int) == (ts.length : Int)) = true := by rw [HQL.out]; simp
      go_wp2_with fail
      go_loopw [10, 11] (fun q i wr => ∃ j : Nat, j ≤ R.length ∧ i = .int .i64 j ∧ q = .int .i64 ((varsL (ts.take j) []).length : Nat) ∧ Hid (Ext w wr) ∧ Hid (Tm.sl (fun _ => True) wr R (.slice aG R.length cG)) ∧ Hid (Tm.sl (fun _ => True) wr R (.slice aH R.length cH))) (fun _ i _ => R.length - (intOf i).toNat)
      case atStart => exact ⟨0, Nat.zero_le _, rfl, by simp [varsL], B, G, H⟩
      case round =>
        obtain ⟨j, hj, rfl, rfl, B, G, H⟩ := hrel
        by_cases hlt : j < R.length
        · obtain ⟨x, hx⟩ := getk hlt
          have HC := Lib.hid (ren_cnt HOK.out (by rw [HS.out.1] at hx; exact hx))
          have HB1 := Lib.hid (cv_bd HOK.out j)
          obtain ⟨n0, hn0⟩ : ∃ n, n = (varsL (ts.take j) []).length := ⟨_, rfl⟩
          have hn26 : n0 ≤ 26 := by rw [hn0]; exact HB1.out
          rw [← hn0] at HC ⊢
          obtain ⟨_, _, he, _, _, _, h4⟩ := G.out
          obtain ⟨rfl, _, rfl⟩ := Value.slice.inj he
          obtain ⟨b, off, ak, ck, rfl, _, c0, c1, c2, c3, hat⟩ := tget h4 hx
          have X := Lib.hid hat
          clear hx h4 hat he hn0 HB1
          go_wp2_with fail
          refine (implTermVars x _ _ _ X.out).mono ?_
          rintro e wy ⟨vs, rfl, hI, q⟩
          obtain ⟨zs, hzs⟩ : ∃ zs, tvarsF x = zs := ⟨_, rfl⟩
          rw [hzs] at hI HC
          have I := Lib.hid hI.ints
          obtain ⟨za, zc, rfl⟩ := hI.form
          have hzl : zs.length ≤ 1048576 := hI.2.2
          obtain ⟨_, _, hze, _, _, _, z4⟩ := I.out
          obtain ⟨rfl, _, rfl⟩ := Value.slice.inj hze
          have Z4 := Lib.hid z4
          have B := Lib.hid (B.out.trans q)
          have G := Lib.hid (Tm.sl_ext q G.out)
          have H := Lib.hid (Tm.sl_ext q H.out)
          clear hI q hzs X c0 c1 c2 c3 hze z4
          go_wp2_with fail
          go_loop [10, 13] (fun q i => ∃ (k : Nat) (c : Int), k ≤ zs.length ∧ i = .int .i64 k ∧ q = .int .i64 c ∧ 0 ≤ c ∧ c ≤ n0 + k ∧ Hid (cnt (zs.take k) n0 = some c)) (fun _ i => zs.length - (intOf i).toNat)
          case atStart => exact ⟨0, n0, Nat.zero_le _, rfl, rfl, by omega, by omega, Lib.hid (by simp [cnt])⟩
          case round =>
            obtain ⟨k, c, hk, rfl, rfl, hc0, hc1, HK⟩ := hrel
            by_cases hlk : k < zs.length
            · rcases Z4.out with z4 | ⟨zb, zo, rfl, z5⟩
              · rw [z4] at hlk; simp at hlk
              obtain ⟨z, hz⟩ : ∃ z, zs[k]? = some z := ⟨zs[k], by simp [hlk]⟩
              have hzc := z5 k z hz
              have HN := Lib.hid (cnt_step HC.out.2 HK.out hz)
              have hle : z ≤ c := HN.out.1
              have hgt : ¬ c < z := by omega
              clear hz z5
              by_cases hzk : z = c
              · subst hzk
                have HN2 : Hid (cnt (zs.take (k + 1)) n0 = some (z + 1)) := Lib.hid (by rw [HN.out.2, if_pos rfl])
                clear HN
                go_wp2_with fail
                go_round
                case rel => exact ⟨k + 1, z + 1, by omega, by go_num, by go_num, by omega, by omega, HN2⟩
                case measure => simp [intOf]; omega
              · have hzb : (z == c) = false := by simpa using hzk
                have HN2 : Hid (cnt (zs.take (k + 1)) n0 = some c) := Lib.hid (by rw [HN.out.2, if_neg hzk])
                clear HN hzk
                go_wp2_with fail
                go_round
                case rel => exact ⟨k + 1, c, by omega, by go_num, rfl, by omega, by omega, HN2⟩
                case measure => simp [intOf]; omega
            · have hce : Hid (c = ((varsL (ts.take (j + 1)) []).length : Nat)) := Lib.hid (by
                have h1 := HK.out
                rw [List.take_of_length_le (by omega), HC.out.2] at h1
                exact (Option.some.inj h1).symm)
              go_wp2_with fail
              go_roundw
              case rel => exact ⟨j + 1, by omega, by go_num, by rw [hce.out], B, G, H⟩
              case measure => simp [intOf]; omega
        · go_wp2_with fail
          refine (lawspgTerms R R _ _ _ _ _ H.out G.out).mono ?_
          rw [sameL_refl]
          rintro e wz ⟨rfl, q⟩
          go_wp2_with fail
          go_ret
          exact ⟨by first | rfl | exact retB (by simp [*]), B.out.trans q⟩
  · go_enter Try.func13, Try.ntmps13
    go_wp2_with fail
    go_ret
    exact ⟨rfl, Below.refl _ _⟩


set_option maxRecDepth 100000 in
theorem lifted (os : Os) (started : os.Started) (H : Type) (enc : TypeId × Value → H) :
    ReturnsInHanded {} Try.checked os 13 .any (Rows.fnRenumberTermsSpec.pre6 enc Try.prog Try.f13 Rows.fnRenumberTermsRow.domain false) (Rows.fnRenumberTermsSpec.post enc Try.prog Try.f13 false true false false) := by
  refine returnsInHanded_of_change (C := Try.checked) own started (by kernel_rfl) Try.func13
    (ChangeSpec.witness6 (enc := enc) (C := Try.checked) false ⟨#[], #[.slice none 0 0], []⟩ 8 (by kernel_rfl) (by kernel_rfl) (by kernel_rfl) (by kernel_rfl)) ?_
  intro W base args ds gs before hval0 hW hcnd _
  have hval : ∀ (j : Nat) t v, Try.f13.params[j]? = some t → args[j]? = some v → Value.okWide Try.prog W .any base t v := hval0
  have hW' := hW
  obtain ⟨p, q, hA0, hV, rfl, hfz, hnd⟩ := hW
  have hA : DataW.TrodAll enc Try.prog W 0 (fun _ => true) true Try.f13.params.toList args.toList ds p := hA0
  rw [Try.params13] at hA hval
  obtain ⟨v0, vs0, d0, ds0, p0, q0, hargs, rfl, rfl, h0, r0⟩ := trodAll_cons hA
  obtain ⟨rfl, rfl, rfl⟩ := trodAll_nil r0
  obtain rfl : args = #[v0] := by cases args; simp_all
  obtain ⟨rfl, rfl⟩ := trodVars_none hV
  have k0 := h0
  have lt0 : ∀ x ∈ p0, x.block < W.heap.size := by obtain ⟨m, hm⟩ := k0; exact DataW.trod_lt m _ _ _ hm
  obtain ⟨a0, len0, cap0, rfl⟩ := okWide_slice Try.underlying22 (hval 0 22 v0 rfl rfl)
  have w0 := bytes_of_trod h0
  clear hA0 hval0 hval
  refine (walk _ W w0).mono fun e W' ⟨he, bel⟩ => ?_
  subst he
  exact ⟨_, rfl, _, _, _, [], _, [], hW', trodAll_mk1 (shut_bool Try.underlying4 _), (trodAll_cons_mk (Below.trod laidOut (by kernel_rfl) (of_decide_eq_true (by kernel_rfl)) k0 bel lt0) trodAll_mk0), rfl, bel.frame _, fun h => by cases h⟩

set_option maxRecDepth 100000 in
theorem over : Rows.fnRenumberTermsRow.holds Try.pinned (OpenSpec.ofChange Rows.fnRenumberTermsSpec) :=
  OpenClaim.holds_of_wide 13 Try.f13 rfl rfl rfl rfl rfl rfl rfl ⟨rfl, rfl, rfl, rfl, rfl⟩ rfl rfl rfl rfl rfl (by kernel_rfl) Try.func13 (by kernel_rfl)
    (of_decide_eq_true (by kernel_rfl)) (by unfold Func.isWrapper; first | (rw [if_pos (by decide +kernel)]; kernel_rfl) | (rw [if_neg (by decide +kernel)]; exact ⟨rfl, rfl⟩))
    (fun os started H enc _ => lifted os started H enc)

/-- the statement -/
theorem proved : Rows.FnRenumberTermsSaid := over
end Go.Proofs.Ytagaciadcgijoaa.fnRenumberTerms
