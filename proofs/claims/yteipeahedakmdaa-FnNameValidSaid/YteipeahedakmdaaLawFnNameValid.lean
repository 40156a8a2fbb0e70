/-
  For every code FnNameValid returns true: an atom is a valid term exactly if its name is one.
-/
import Derived.Test.YteipeahedakmdaaRows
import Derived.Test.YteipeahedakmdaaValid
import Derived.Test.YteipeahedakmdaaBRep
import Derived.ProofKit
import Derived.OpenShut
import Derived.ShutString
namespace Go.Proofs.Yteipeahedakmdaa.fnNameValid
open Go.ChangeShapes Go.WideShapes Go.ChangeAt Go.RowKit
open Go.ChangeMaps (open_string shut_string)
set_option linter.unusedVariables false

theorem own : ownKnob Try.prog.godebug = none := by kernel_rfl
theorem laidOut : laidOutB Try.prog = true := by kernel_rfl

def drawn : List ByteArray := [⟨#[97]⟩, ⟨#[102, 111, 111]⟩, ⟨#[43]⟩, ⟨#[61, 58, 61]⟩, ⟨#[91, 93]⟩, ⟨#[33]⟩, ⟨#[]⟩, ⟨#[65]⟩, ⟨#[116, 111, 111, 108, 111, 110, 103]⟩, ⟨#[102, 49]⟩, ⟨#[195, 169]⟩, ⟨#[45, 62]⟩]
theorem drawn_new (w : World) (T : Nat) : StrsAt (w.alloc (.cells #[.string ⟨#[97]⟩, .string ⟨#[102, 111, 111]⟩, .string ⟨#[43]⟩, .string ⟨#[61, 58, 61]⟩, .string ⟨#[91, 93]⟩, .string ⟨#[33]⟩, .string ⟨#[]⟩, .string ⟨#[65]⟩, .string ⟨#[116, 111, 111, 108, 111, 110, 103]⟩, .string ⟨#[102, 49]⟩, .string ⟨#[195, 169]⟩, .string ⟨#[45, 62]⟩] T)) drawn (.slice (some ⟨w.heap.size, 0, none⟩) 12 12) := by
  refine ⟨_, _, rfl, by decide, by decide, by decide, .inr ⟨w.heap.size, 0, rfl, fun i s h => ?_⟩⟩
  have hi : i < 12 := by
    have := (List.getElem?_eq_some_iff.1 h).1
    simpa [drawn] using this
  revert s
  rcases i with _ | _ | _ | _ | _ | _ | _ | _ | _ | _ | _ | _ | i
  all_goals first | omega | (intro s h; simp [drawn] at h; subst h; exact cell_new _ _ _ _ _ rfl)

set_option maxHeartbeats 1000000 in
theorem draw (v : Value) (w : World) (hv : BytesAt w v) :
    Calls Try.prog 20 #[v] w fun e w' => ∃ s : ByteArray, e = .returned (.string s) ∧ s.size ≤ 1048576 ∧ Ext w w' := by
  have HV := Lib.hid hv
  obtain ⟨a, len, cap, rfl, _⟩ := hv
  go_enter Try.func20, Try.ntmps20
  go_wp2_with fail
  refine (specl18Open _ _ HV.out).mono ?_
  rintro e w1 ⟨r, rfl, hr, hrd, e1⟩
  have R := Lib.hid hrd
  have E1 := Lib.hid e1
  have hlt := hrd.lt
  clear hrd e1
  go_wp2_with fail
  refine (rdof r 0 drawn _ _ (by omega) (R.out.ext (Ext.alloc _ _)) (by simp [drawn]) (by rintro b o c l h; simp at h; omega) (drawn_new _ _)).mono ?_
  rintro e w2 ⟨s, rfl, hs, hrd, he⟩
  have HS := Lib.hid hs
  have HE := Lib.hid he
  clear hs hrd he
  go_wp2_with fail
  go_ret
  refine ⟨s, rfl, ?_, ExtR.below (E1.out.trans (Ext.alloc _ _)) HE.out hr⟩
  have := HS.out
  revert this
  have hall : ∀ x ∈ drawn, x.size ≤ 1048576 := by decide
  exact hall s

theorem valid_atom (s : ByteArray) : validF (.mk 3 0 s []) = nameF s := by
  unfold validF
  simp only [scanF]
  cases h : nameF s <;> simp [scanL]
theorem valid_bad : validF (.mk 2 0 ⟨#[97]⟩ []) = false := by
  unfold validF
  simp only [scanF]
  simp
theorem atom_at (S : Nat → Prop) (w : World) (k : Int) (s : ByteArray) (hs : s.size ≤ 1048576) : Tm.at S w (.mk k 0 s []) (.agg #[.int .i64 k, .int .i64 0, .string s, .slice none 0 0]) :=
  ⟨hs, _, rfl, none, 0, by simp, by simp, by omega, by simp, .inl rfl⟩

set_option maxRecDepth 100000 in
set_option maxHeartbeats 1000000 in
theorem walk (v : Value) (w : World) (hv : BytesAt w v) :
    Calls Try.prog 8 #[v] w fun e w' => e = .returned (.bool true) ∧ Below w.heap.size w w' := by
  have HV := Lib.hid hv
  obtain ⟨a, len, cap, rfl, h1, h2, h3⟩ := hv
  clear h3
  by_cases hl : len ≤ 1048576
  · go_enter Try.func8, Try.ntmps8
    go_wp2_with fail
    refine (draw _ _ HV.out).mono ?_
    rintro e w1 ⟨s, rfl, hs, e1⟩
    have B := Lib.hid e1
    clear e1
    cases hb : nameF s
    all_goals
      have NB := Lib.hid hb
      have VA := Lib.hid (show validF (.mk 3 0 s []) = _ from (valid_atom s).trans hb)
      clear hb
      go_wp2_with fail
      refine (implNameValid s _ hs).mono ?_
      rw [NB.out]
      rintro e w2 ⟨rfl, e2⟩
      have B : Hid (Ext w w2) := Lib.hid (B.out.trans e2)
      clear e2
      go_wp2_with fail
      refine (specNameValid s _ hs).mono ?_
      rw [NB.out]
      rintro e w3 ⟨rfl, e3⟩
      have B : Hid (Ext w w3) := Lib.hid (B.out.trans e3)
      clear e3
      go_wp2_with fail
      refine (implTermValid (.mk 3 0 s []) _ (fun _ => True) _ (atom_at _ _ 3 s hs)).mono ?_
      rw [VA.out]
      rintro e w4 ⟨rfl, e4⟩
      have B : Hid (Ext w w4) := Lib.hid (B.out.trans e4)
      clear e4
      go_wp2_with fail
      refine (implTermValid (.mk 2 0 ⟨#[97]⟩ []) _ (fun _ => True) _ (atom_at _ _ 2 ⟨#[97]⟩ (by decide))).mono ?_
      rw [valid_bad]
      rintro e w5 ⟨rfl, e5⟩
      have B : Hid (Ext w w5) := Lib.hid (B.out.trans e5)
      clear e5
      go_wp2_with fail
      go_ret
      exact ⟨rfl, B.out⟩
  · go_enter Try.func8, Try.ntmps8
    go_wp2_with fail
    go_ret
    exact ⟨rfl, Below.refl _ _⟩

set_option maxRecDepth 100000 in
theorem lifted (os : Os) (started : os.Started) (H : Type) (enc : TypeId × Value → H) :
    ReturnsInHanded {} Try.checked os 8 .any (Rows.fnNameValidSpec.pre6 enc Try.prog Try.f8 Rows.fnNameValidRow.domain false) (Rows.fnNameValidSpec.post enc Try.prog Try.f8 false true false false) := by
  refine returnsInHanded_of_change (C := Try.checked) own started (by kernel_rfl) Try.func8
    (ChangeSpec.witness6 (enc := enc) (C := Try.checked) false ⟨#[], #[.slice none 0 0], []⟩ 8 (by kernel_rfl) (by kernel_rfl) (by kernel_rfl) (by kernel_rfl)) ?_
  intro W base args ds gs before hval0 hW hcnd _
  have hval : ∀ (j : Nat) t v, Try.f8.params[j]? = some t → args[j]? = some v → Value.okWide Try.prog W .any base t v := hval0
  have hW' := hW
  obtain ⟨p, q, hA0, hV, rfl, hfz, hnd⟩ := hW
  have hA : DataW.TrodAll enc Try.prog W 0 (fun _ => true) true Try.f8.params.toList args.toList ds p := hA0
  rw [Try.params8] at hA hval
  obtain ⟨v0, vs0, d0, ds0, p0, q0, hargs, rfl, rfl, h0, r0⟩ := trodAll_cons hA
  obtain ⟨rfl, rfl, rfl⟩ := trodAll_nil r0
  obtain rfl : args = #[v0] := by cases args; simp_all
  obtain ⟨rfl, rfl⟩ := trodVars_none hV
  have k0 := h0
  have lt0 : ∀ x ∈ p0, x.block < W.heap.size := by obtain ⟨m, hm⟩ := k0; exact DataW.trod_lt m _ _ _ hm
  obtain ⟨a0, len0, cap0, rfl⟩ := okWide_slice Try.underlying37 (hval 0 37 v0 rfl rfl)
  have w0 := bytes_of_trod h0
  clear hA0 hval0 hval
  refine (walk _ W w0).mono fun e W' ⟨he, bel⟩ => ?_
  subst he
  exact ⟨_, rfl, _, _, _, [], _, [], hW', trodAll_mk1 (shut_bool Try.underlying4 _), (trodAll_cons_mk (Below.trod laidOut (by kernel_rfl) (of_decide_eq_true (by kernel_rfl)) k0 bel lt0) trodAll_mk0), rfl, bel.frame _, fun h => by cases h⟩

set_option maxRecDepth 100000 in
theorem over : Rows.fnNameValidRow.holds Try.pinned (OpenSpec.ofChange Rows.fnNameValidSpec) :=
  OpenClaim.holds_of_wide 8 Try.f8 rfl rfl rfl rfl rfl rfl rfl ⟨rfl, rfl, rfl, rfl, rfl⟩ rfl rfl rfl rfl rfl (by kernel_rfl) Try.func8 (by kernel_rfl)
    (of_decide_eq_true (by kernel_rfl)) (by unfold Func.isWrapper; first | (rw [if_pos (by decide +kernel)]; kernel_rfl) | (rw [if_neg (by decide +kernel)]; exact ⟨rfl, rfl⟩))
    (fun os started H enc _ => lifted os started H enc)

/-- the statement -/
theorem proved : Rows.FnNameValidSaid := over
end Go.Proofs.Yteipeahedakmdaa.fnNameValid
