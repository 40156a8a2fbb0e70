/-
  For every text (of any length) FnExactParseTerm returns true: the program's ParseTerm and the reference's return the same, and the program's result shares no memory with another result.
-/
import Derived.Test.YtognkaebiafgbaaGreatDoorRows
import Derived.Deep.RegionHeld3
import Derived.ProofKit
import Derived.OpenShut
import Derived.ShutString
import Derived.Test.YtognkaebiafgbaaGreatDoorCards
import Derived.Test.YtognkaebiafgbaaGreatDoorTie
import Derived.LaidMore
import Derived.Lay
import Derived.SevenTiedAt
import Derived.Stop.Joined
import Derived.Stop.LaidErr
import Derived.Lib.LaidTab
import Derived.Test.YtognkaebiafgbaaGreatDoorMp37
import Derived.Test.YtognkaebiafgbaaGreatDoorMp47
namespace Go.Proofs.YtognkaebiafgbaaGreatDoor.fnExactParseTerm
open Go.ChangeShapes Go.WideShapes Go.ChangeAt Go.RowKit
open Go.ChangeMaps (open_string shut_string)
set_option linter.unusedVariables false

theorem own : ownKnob Tryz.prog.godebug = none := by kernel_rfl
theorem laidOut : laidOutB Tryz.prog = true := by kernel_rfl

theorem small (s : ByteArray) : Tm.szL (parseT s).kids ≤ 120 ∧ (parseT s).name.size ≤ 1048576 ∧ (parseT s).kids.length ≤ 1048576 := by
  unfold parseT
  cases e : parseO s.toList with
  | none => exact ⟨by decide, by decide, by decide⟩
  | some t =>
    have hv := (parseO_spec e).1
    have h2 := (valid_parts hv).2
    have h1 := (valid_parts hv).1
    obtain ⟨k, n, nm, ks⟩ := t
    simp only [Tm.sz] at h2
    have hl : ks.length ≤ 4 := by
      rcases shape_own h1 with ⟨_, _, h⟩ | ⟨_, _, h⟩ | ⟨rfl, _⟩
      · rw [h]; decide
      · rw [h]; decide
      · exact (shape_name h1).2
    refine ⟨by simp only [Option.getD_some, Tm.kids]; omega, ?_, by simp only [Option.getD_some, Tm.kids]; omega⟩
    simp only [Option.getD_some, Tm.name]
    rcases shape_own h1 with ⟨_, h, _⟩ | ⟨_, h, _⟩ | ⟨rfl, _⟩
    · rw [← bl_len, h]; decide
    · rw [← bl_len, h]; decide
    · have := (name_len (shape_name h1).1).2
      rw [bl_len] at this
      omega
set_option maxRecDepth 100000 in
set_option maxHeartbeats 4000000 in
theorem walk (a0 : ByteArray) (w : World) (htab : LibG w) (w0 : a0.size ≤ maxLen) :
    Calls Tryz.prog 8 #[.string a0] w fun e w' => e = .returned (.bool true) ∧ Below w.heap.size w w' := by
  unfold maxLen at w0
  by_cases hs : a0.size ≤ 1048576
  · have SP := Lib.hid (fun w' => (show Calls Tryz.prog 37 #[.string a0] w' (TmBR (parseT a0) (parseB a0) w') from specParseTerm a0 w' hs))
    have IP := Lib.hid (fun w' (e : Ext w w') => implParseTerm a0 w' hs (htab.ext e))
    obtain ⟨hsz, hnm, hkl⟩ := small a0
    generalize parseT a0 = t0 at SP IP hsz hnm hkl
    generalize parseB a0 = b0 at SP IP
    clear htab
    have HNM := Lib.hid hnm
    have hkl' := hkl
    have HM : Hid (1 + 3 * Tm.szL t0.kids < 9000000) := Lib.hid (by omega)
    clear hsz hnm
    go_enter Tryz.func8, Tryz.ntmps8
    go_wp2_with fail
    refine (SP.out _).mono ?_
    rintro e w1 ⟨aV, cV, rfl, hv, e1⟩
    have s1 : w.heap.size ≤ w1.heap.size := Below.size e1
    have V0 := Lib.hid (Tm.at_mono (S' := fun b => b < w1.heap.size) (fun b hb => hb.2) (Agree.refl _) (Tm.at_bound hv))
    have E1 := Lib.hid e1
    have HTX := Lib.hid (IP.out (w1.alloc (.cells #[.int .i64 t0.kind, .int .i64 t0.n, .string t0.name, .slice aV t0.kids.length cV] 25)) (e1.trans (Ext.alloc _ _)))
    clear hv e1
    go_wp2_with fail
    refine HTX.out.mono ?_
    rintro e w2 ⟨aG, cG, rfl, ho, e2⟩
    have s2 : w1.heap.size + 1 ≤ w2.heap.size := by have := Below.size e2; simpa using this
    have e12 := (Ext.alloc w1 (.cells #[.int .i64 t0.kind, .int .i64 t0.n, .string t0.name, .slice aV t0.kids.length cV] 25)).trans e2
    have B := Lib.hid (E1.out.trans e12)
    have V := Lib.hid (Tm.at_ext e12 V0.out)
    have XV := Lib.hid ((BoxT.new w1 (.int .i64 t0.kind) (.int .i64 t0.n) (.string t0.name) (.slice aV t0.kids.length cV) 25 rfl).ext e2)
    have G := Lib.hid (((own_kids ho).bound).zone (F' := fun b => w1.heap.size + 1 ≤ b ∧ b < w2.heap.size) (fun b hb => ⟨by simpa using hb.1, hb.2⟩))
    have lxv := XV.out.lt
    clear ho e2 e12
    obtain ⟨kv0, kv1, kv2, kv3, _, _, _, _⟩ := XV.out
    go_wp2_with fail
    refine (lawseqTerm_any _ _ _ _ _ _ _ (own_at (OwnS.ext G.out (Ext.alloc _ _)) HNM.out hkl') (Tm.at_ext (Ext.alloc _ _) V.out)).mono ?_
    rw [same_refl]
    rintro e w3 ⟨rfl, q⟩
    clear kv0 kv1 kv2 kv3
    have XG := Lib.hid ((BoxT.new w2 (.int .i64 t0.kind) (.int .i64 t0.n) (.string t0.name) (.slice aG t0.kids.length cG) 25 rfl).ext q)
    replace q := (Ext.alloc w2 (.cells #[.int .i64 t0.kind, .int .i64 t0.n, .string t0.name, .slice aG t0.kids.length cG] 25)).trans q
    have z3 : w2.heap.size + 1 ≤ w3.heap.size := XG.out.lt
    have B := Lib.hid (B.out.trans q)
    have V := Lib.hid (Tm.at_ext q V.out)
    have XV := Lib.hid (XV.out.ext q)
    have G := Lib.hid (OwnS.ext G.out q)
    clear q
    obtain ⟨kg0, kg1, kg2, kg3, _, _, _, _⟩ := XG.out
    go_wp2_with fail
    refine (lawsmarkTerm t0 _ _ _ _ 1 HM.out G.out).mono ?_
    rintro e w4 ⟨rfl, m, q⟩
    clear kg0 kg1 kg2 kg3
    have z4 : w3.heap.size ≤ w4.heap.size := q.size
    have B := Lib.hid (((Fr.of_ext B.out).trans q).toExt (fun k hk h => by have := h.1; omega))
    have V := Lib.hid (q.at V.out (fun b hb h => by have := h.1; have hb' : b < w1.heap.size := hb; omega))
    have XV := Lib.hid (XV.out.fr q (fun h => by have := h.1; omega))
    have XG := Lib.hid (XG.out.fr q (fun h => by have := h.2; omega))
    clear q
    have G := Lib.hid m
    clear m
    obtain ⟨kg0, kg1, kg2, kg3, _, _, _, _⟩ := XG.out
    go_wp2_with fail
    refine (lawsheldTerm t0 _ _ _ _ 1 HM.out hkl' G.out).mono ?_
    rintro e w5 ⟨rfl, q⟩
    clear kg0 kg1 kg2 kg3
    have z5 : w4.heap.size ≤ w5.heap.size := Below.size q
    have B := Lib.hid (B.out.trans q)
    have V := Lib.hid (Tm.at_ext q V.out)
    have XV := Lib.hid (XV.out.ext q)
    have XG := Lib.hid (XG.out.ext q)
    have G := Lib.hid (OwnS.ext G.out q)
    clear q
    go_wp2_with fail
    refine (IP.out _ B.out).mono ?_
    rintro e w6 ⟨aH, cH, rfl, ho, q⟩
    have z6 : w5.heap.size ≤ w6.heap.size := Below.size q
    have H := Lib.hid ho
    clear ho
    have B := Lib.hid (B.out.trans q)
    have V := Lib.hid (Tm.at_ext q V.out)
    have XV := Lib.hid (XV.out.ext q)
    have XG := Lib.hid (XG.out.ext q)
    have G := Lib.hid (OwnS.ext G.out q)
    clear q
    obtain ⟨kv0, kv1, kv2, kv3, _, _, _, _⟩ := XV.out
    have lxv := XV.out.lt
    go_wp2_with fail
    refine (lawseqTerm_any _ _ _ _ _ _ _ (own_at (OwnS.ext (own_kids H.out) (Ext.alloc _ _)) HNM.out hkl') (Tm.at_ext (Ext.alloc _ _) V.out)).mono ?_
    rw [same_refl]
    rintro e w7 ⟨rfl, q⟩
    clear kv0 kv1 kv2 kv3
    clear lxv
    replace q := (Ext.alloc w6 (.cells #[.int .i64 t0.kind, .int .i64 t0.n, .string t0.name, .slice aH t0.kids.length cH] 25)).trans q
    have z7 : w6.heap.size ≤ w7.heap.size := Below.size q
    have B := Lib.hid (B.out.trans q)
    have V := Lib.hid (Tm.at_ext q V.out)
    have XV := Lib.hid (XV.out.ext q)
    have XG := Lib.hid (XG.out.ext q)
    have G := Lib.hid (OwnS.ext G.out q)
    clear q
    obtain ⟨kg0, kg1, kg2, kg3, _, _, _, _⟩ := XG.out
    go_wp2_with fail
    refine (lawsheldTerm t0 _ _ _ _ 1 HM.out hkl' G.out).mono ?_
    rintro e w8 ⟨rfl, q⟩
    have B := Lib.hid (B.out.trans q)
    clear kg0 kg1 kg2 kg3 q
    go_wp2_with fail
    go_ret
    exact ⟨rfl, B.out⟩
  · have hs' : 1048576 < a0.size := by omega
    go_enter Tryz.func8, Tryz.ntmps8
    go_wp2_with fail
    go_ret
    exact ⟨rfl, Ext.refl _⟩

theorem errRow (u : TypeId) (h : Tryz.prog.typeName? 3 u = some "*errors.errorString") : u = 178 :=
  typeName_ptr_named (nm := "errors.errorString") (by rw [show "*" ++ "errors.errorString" = "*errors.errorString" by decide]; kernel_rfl) (by kernel_rfl) (by decide) u (by rw [show "*" ++ "errors.errorString" = "*errors.errorString" by decide]; exact h)
theorem laidTab {W : World} (h : laidMetH Tryz.prog Rows.fnExactParseTermRow.laid W) : LibG W := by
  rw [MakeChecks.laidMetH_plain _ _ _ (by kernel_rfl)] at h
  have h3 : laidMet Tryz.prog [("internal/strconv.uint64pow10", Lib.tabData .u64 Lib.pow10Tab), ("strconv.ErrRange", Rows.laid_strconv_ErrRange), ("strconv.ErrSyntax", Rows.laid_strconv_ErrSyntax)] W := laidMet.tail (laidMet.tail h)
  refine ⟨Lib.tabIs_of_head (g := 5) (by kernel_rfl) (by kernel_rfl) Tryz.underlying182 Tryz.underlying166 (by kernel_rfl) (by kernel_rfl) h3, ?_⟩
  have h4 := h3.tail
  obtain ⟨a1, s1, hv1, -, -, -⟩ := laid_sentinel (g := 4) h4 (by kernel_rfl) (by kernel_rfl) Tryz.underlying133 errRow Tryz.underlying178 Tryz.underlying180 rfl rfl Tryz.underlying9 (by kernel_rfl) (by kernel_rfl)
  have hg : Tryz.prog.globalNamed "strconv.ErrRange" = some 4 := by kernel_rfl
  exact ⟨_, (by have h0 := World.var?_cell hg hv1 0; simpa using h0), .inr ⟨_, _, rfl⟩⟩

set_option maxRecDepth 100000 in
theorem lifted (os : Os) (started : os.Started) (H : Type) (enc : TypeId × Value → H) :
    ReturnsInHanded {} Tryz.checked os 8 .any (fun w args => (Rows.fnExactParseTermSpec.pre enc Tryz.prog Tryz.f8 Rows.fnExactParseTermRow.domain false w args ∧ laidMetH Tryz.prog Rows.fnExactParseTermRow.laid w) ∧ sizedMet enc Tryz.prog Tryz.f8 (OpenSpec.ofChange Rows.fnExactParseTermSpec) false w args)
      (Rows.fnExactParseTermSpec.post enc Tryz.prog Tryz.f8 false true false false) := by
  refine returnsInHanded_of_change_and (C := Tryz.checked) (X := fun w _ => laidMetH Tryz.prog Rows.fnExactParseTermRow.laid w) (fun _ _ _ hh h => h.of_heap hh) own started (by kernel_rfl) Tryz.func8
    (ChangeSpec.witness_shaped (enc := enc) (C := Tryz.checked) (os := os) (X := fun w _ => laidMetH Tryz.prog Rows.fnExactParseTermRow.laid w) false (World.laidAll Tryz.prog os Rows.fnExactParseTermRow.laid) #[.string ByteArray.empty] 8 (World.laidAll_os _ _ _)
      (World.shaped_of_ZipB (by kernel_rfl) (by kernel_rfl)) (by kernel_rfl) (by kernel_rfl) (by kernel_rfl)
      (by rw [MakeChecks.laidMetH_plain _ _ _ (by kernel_rfl)]; exact laidMet_laidAll _ (by kernel_rfl) (by kernel_rfl))) ?_
  intro W base args ds gs before hval0 hW hcnd _ hL _
  have htab := laidTab hL
  have hval : ∀ (j : Nat) t v, Tryz.f8.params[j]? = some t → args[j]? = some v → Value.okWide Tryz.prog W .any base t v := hval0
  have hW' := hW
  obtain ⟨p, q, hA0, hV, rfl, hfz, hnd⟩ := hW
  have hA : DataW.TrodAll enc Tryz.prog W 0 (fun _ => true) true Tryz.f8.params.toList args.toList ds p := hA0
  rw [Tryz.params8] at hA hval
  obtain ⟨v0, vs0, d0, ds0, p0, q0, hargs, rfl, rfl, h0, r0⟩ := trodAll_cons hA
  obtain ⟨rfl, rfl, rfl⟩ := trodAll_nil r0
  obtain rfl : args = #[v0] := by cases args; simp_all
  obtain ⟨rfl, rfl⟩ := trodVars_none hV
  have k0 := h0
  have lt0 : ∀ x ∈ p0, x.block < W.heap.size := by obtain ⟨m, hm⟩ := k0; exact DataW.trod_lt m _ _ _ hm
  obtain ⟨a0, rfl, _, _, w0⟩ := open_string Tryz.underlying9 (hval 0 9 v0 rfl rfl) h0
  clear hA0 hval0 hval
  refine (walk a0 W htab w0).mono fun e W' ⟨he, bel⟩ => ?_
  subst he
  exact ⟨_, rfl, _, _, _, [], _, [], hW', trodAll_mk1 (shut_bool Tryz.underlying4 _), (trodAll_cons_mk (Below.trod laidOut (by kernel_rfl) (of_decide_eq_true (by kernel_rfl)) k0 bel lt0) trodAll_mk0), rfl, bel.frame _, fun h => by cases h⟩

set_option maxRecDepth 100000 in
theorem over : Rows.fnExactParseTermRow.holds Tryz.pinned (OpenSpec.ofChange Rows.fnExactParseTermSpec) :=
  OpenClaim.holds_of_wide 8 Tryz.f8 rfl rfl rfl rfl rfl rfl rfl ⟨rfl, rfl, rfl, rfl, rfl⟩ rfl rfl rfl rfl rfl (by kernel_rfl) Tryz.func8 (by kernel_rfl)
    (of_decide_eq_true (by kernel_rfl)) (by unfold Func.isWrapper; first | (rw [if_pos (by decide +kernel)]; kernel_rfl) | (rw [if_neg (by decide +kernel)]; exact ⟨rfl, rfl⟩))
    (fun os started H enc _ => lifted os started H enc)

/-- the statement -/
theorem proved : Rows.FnExactParseTermCardSaid :=
  Claim7.holds_tied_plain_at .later [] [.data, .data, .data, .sentinel, .sentinel] true (true, "d580ce3f0cecf76b5160c85a6af4b59b4c1fe95277ed45772955b74914e63acf") true over (fun _ h => by cases h) (by kernel_rfl) (fun _ h => by cases h) fnExactParseTerm_row_tie rfl ⟨rfl, rfl⟩ (by kernel_rfl) rfl
    (fun f fn hf hfn => by
      obtain rfl : f = 8 := Option.some.inj ((show Tryz.prog.funcNamed "loop.example/prologserver/laws.FnExactParseTerm" = some 8 by kernel_rfl).symm.trans hf) |>.symm
      obtain rfl : fn = Tryz.f8 := (Option.some.inj (Tryz.func8.symm.trans hfn)).symm
      exact ⟨by kernel_rfl, fun j t ht => by
        rw [Tryz.params8] at ht
        have hm : t ∈ [9] := by simpa using Array.mem_of_getElem? ht
        have hall : ([9].all fun u => !Tryz.prog.wantsStandIn u) = true := by kernel_rfl
        exact (show Tryz.prog.wantsStandIn t = false by simpa using List.all_eq_true.1 hall t hm)⟩)
    (by kernel_rfl)
end Go.Proofs.YtognkaebiafgbaaGreatDoor.fnExactParseTerm
