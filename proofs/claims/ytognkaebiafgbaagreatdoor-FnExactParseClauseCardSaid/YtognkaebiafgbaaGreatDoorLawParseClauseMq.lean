/-
  For every text (of any length) FnExactParseClause returns true: the program's ParseClause and the reference's return the same, and the program's result shares no memory with another result.
-/
import Derived.Test.YtognkaebiafgbaaGreatDoorRows
import Derived.Deep.RegionHeld3
import Derived.ProofKit
import Derived.OpenShut
import Derived.ShutString
import Derived.Test.YtognkaebiafgbaaGreatDoorCards
import Derived.Test.YtognkaebiafgbaaGreatDoorTie
import Derived.LaidMore
import Derived.Lay
import Derived.SevenTiedAt
import Derived.Stop.Joined
import Derived.Stop.LaidErr
import Derived.Lib.LaidTab
import Derived.Test.YtognkaebiafgbaaGreatDoorMq42
import Derived.Test.YtognkaebiafgbaaGreatDoorMq39
import Derived.Test.YtognkaebiafgbaaGreatDoorMq43
import Derived.Test.YtognkaebiafgbaaGreatDoorMq23
namespace Go.Proofs.YtognkaebiafgbaaGreatDoor.fnExactParseClause
open Go.ChangeShapes Go.WideShapes Go.ChangeAt Go.RowKit
open Go.ChangeMaps (open_string shut_string)
set_option linter.unusedVariables false
theorem own : ownKnob Tryz.prog.godebug = none := by kernel_rfl
theorem laidOut : laidOutB Tryz.prog = true := by kernel_rfl
set_option maxRecDepth 100000 in
set_option maxHeartbeats 4000000 in
theorem walk (a0 : ByteArray) (w : World) (htab : LibG w) (w0 : a0.size ≤ maxLen) :
    Calls Tryz.prog 10 #[.string a0] w fun e w' => e = .returned (.bool true) ∧ Below w.heap.size w w' := by
  unfold maxLen at w0
  by_cases hs : a0.size ≤ 1048576
  · have SP := Lib.hid (fun w' => specParseClause a0 w' hs)
    have IP := Lib.hid (fun w' (e : Ext w w') => implParseClause a0 w' hs (htab.ext e))
    obtain ⟨hsz, hnm, hkl, hbl⟩ := parse_small a0
    generalize parseCT a0 = c0 at SP IP hsz hnm hkl hbl
    generalize parseCB a0 = b0 at SP IP
    clear htab
    have HNM := Lib.hid hnm
    have hkl' := hkl
    have hbl' := hbl
    have HM : Hid (1 + Cl.mk3 c0 < 9000000) := Lib.hid (by omega)
    clear hsz hnm
    go_enter Tryz.func10, Tryz.ntmps10
    go_wp2_with fail
    refine (SP.out _).mono ?_
    rintro e w1 ⟨vV, rfl, hv, e1⟩
    replace hv := hv.rows
    obtain ⟨aV, cV, bV, dV, rfl⟩ := hv.form
    have V0 := Lib.hid (hv.at HNM.out hkl' hbl')
    have s1 : w.heap.size ≤ w1.heap.size := Below.size e1
    have E1 := Lib.hid e1
    have HTX := Lib.hid (IP.out (w1.alloc (.cells #[.int .i64 c0.head.kind, .int .i64 c0.head.n, .string c0.head.name, .slice aV c0.head.kids.length cV, .slice bV c0.body.length dV] 27)) (e1.trans (Ext.alloc _ _)))
    clear hv e1
    go_wp2_with fail
    refine HTX.out.mono ?_
    rintro e w2 ⟨vG, rfl, ho, e2⟩
    replace ho := ho.rows
    obtain ⟨aG, cG, bG, dG, rfl⟩ := ho.form
    have s2 : w1.heap.size + 1 ≤ w2.heap.size := by have := Below.size e2; simpa using this
    have elo : (w1.alloc (.cells #[.int .i64 c0.head.kind, .int .i64 c0.head.n, .string c0.head.name, .slice aV c0.head.kids.length cV, .slice bV c0.body.length dV] 27)).heap.size = w1.heap.size + 1 := by simp
    rw [elo] at ho
    have e12 := (Ext.alloc w1 (.cells #[.int .i64 c0.head.kind, .int .i64 c0.head.n, .string c0.head.name, .slice aV c0.head.kids.length cV, .slice bV c0.body.length dV] 27)).trans e2
    have B := Lib.hid (E1.out.trans e12)
    have V := Lib.hid (Cl.at_ext e12 V0.out)
    have XV := Lib.hid ((BoxC.new w1 (.int .i64 c0.head.kind) (.int .i64 c0.head.n) (.string c0.head.name) (.slice aV c0.head.kids.length cV) (.slice bV c0.body.length dV) 27 rfl).ext e2)
    have G := Lib.hid ho
    have lxv := XV.out.lt
    clear ho e2 e12 elo
    obtain ⟨kv0, kv1, kv2, kv3, kv4, _, _, _, _, _⟩ := XV.out
    go_wp2_with fail
    refine (lawseqClause c0 c0 _ _ _ _ _ ((G.out.ext (Ext.alloc _ _)).at HNM.out hkl' hbl') (Cl.at_ext (Ext.alloc _ _) V.out)).mono ?_
    rw [csame_refl]
    rintro e w3 ⟨rfl, q⟩
    clear kv0 kv1 kv2 kv3 kv4
    have XG := Lib.hid ((BoxC.new w2 (.int .i64 c0.head.kind) (.int .i64 c0.head.n) (.string c0.head.name) (.slice aG c0.head.kids.length cG) (.slice bG c0.body.length dG) 27 rfl).ext q)
    replace q := (Ext.alloc w2 (.cells #[.int .i64 c0.head.kind, .int .i64 c0.head.n, .string c0.head.name, .slice aG c0.head.kids.length cG, .slice bG c0.body.length dG] 27)).trans q
    have z3 : w2.heap.size + 1 ≤ w3.heap.size := XG.out.lt
    have B := Lib.hid (B.out.trans q)
    have V := Lib.hid (Cl.at_ext q V.out)
    have XV := Lib.hid (XV.out.ext q)
    have G := Lib.hid (ClM.ext G.out q)
    clear q
    obtain ⟨kg0, kg1, kg2, kg3, kg4, _, _, _, _, _⟩ := XG.out
    go_wp2_with fail
    refine (lawsmarkClause c0 _ _ _ _ 1 (by omega) HM.out G.out).mono ?_
    rintro e w4 ⟨rfl, m, q⟩
    clear kg0 kg1 kg2 kg3 kg4
    have z4 : w3.heap.size ≤ w4.heap.size := q.size
    have B := Lib.hid (((Fr.of_ext B.out).trans q).toExt (fun k hk h => by have := h.1; omega))
    have V := Lib.hid (Cl.at_mono (fun _ h => h) (q.agree (fun b hb h => by have := h.1; have hb' : b < w1.heap.size := hb; omega)) V.out)
    have XV := Lib.hid (XV.out.fr q (fun h => by have := h.1; omega))
    have XG := Lib.hid (XG.out.fr q (fun h => by have := h.2; omega))
    clear q
    have G := Lib.hid m
    clear m
    obtain ⟨kg0, kg1, kg2, kg3, kg4, _, _, _, _, _⟩ := XG.out
    go_wp2_with fail
    refine (lawsheldClause c0 _ _ _ _ 1 HM.out hkl' hbl' G.out).mono ?_
    rintro e w5 ⟨rfl, q⟩
    clear kg0 kg1 kg2 kg3 kg4
    have z5 : w4.heap.size ≤ w5.heap.size := Below.size q
    have B := Lib.hid (B.out.trans q)
    have V := Lib.hid (Cl.at_ext q V.out)
    have XV := Lib.hid (XV.out.ext q)
    have XG := Lib.hid (XG.out.ext q)
    have G := Lib.hid (ClM.ext G.out q)
    clear q
    go_wp2_with fail
    refine (IP.out _ B.out).mono ?_
    rintro e w6 ⟨vH, rfl, ho, q⟩
    replace ho := ho.rows
    obtain ⟨aH, cH, bH, dH, rfl⟩ := ho.form
    have z6 : w5.heap.size ≤ w6.heap.size := Below.size q
    have H := Lib.hid ho
    clear ho
    have B := Lib.hid (B.out.trans q)
    have V := Lib.hid (Cl.at_ext q V.out)
    have XV := Lib.hid (XV.out.ext q)
    have XG := Lib.hid (XG.out.ext q)
    have G := Lib.hid (ClM.ext G.out q)
    clear q
    obtain ⟨kv0, kv1, kv2, kv3, kv4, _, _, _, _, _⟩ := XV.out
    have lxv := XV.out.lt
    go_wp2_with fail
    refine (lawseqClause c0 c0 _ _ _ _ _ ((H.out.ext (Ext.alloc _ _)).at HNM.out hkl' hbl') (Cl.at_ext (Ext.alloc _ _) V.out)).mono ?_
    rw [csame_refl]
    rintro e w7 ⟨rfl, q⟩
    clear kv0 kv1 kv2 kv3 kv4
    clear lxv
    replace q := (Ext.alloc w6 (.cells #[.int .i64 c0.head.kind, .int .i64 c0.head.n, .string c0.head.name, .slice aH c0.head.kids.length cH, .slice bH c0.body.length dH] 27)).trans q
    have z7 : w6.heap.size ≤ w7.heap.size := Below.size q
    have B := Lib.hid (B.out.trans q)
    have V := Lib.hid (Cl.at_ext q V.out)
    have XV := Lib.hid (XV.out.ext q)
    have XG := Lib.hid (XG.out.ext q)
    have G := Lib.hid (ClM.ext G.out q)
    clear q
    obtain ⟨kg0, kg1, kg2, kg3, kg4, _, _, _, _, _⟩ := XG.out
    go_wp2_with fail
    refine (lawsheldClause c0 _ _ _ _ 1 HM.out hkl' hbl' G.out).mono ?_
    rintro e w8 ⟨rfl, q⟩
    have B := Lib.hid (B.out.trans q)
    clear kg0 kg1 kg2 kg3 kg4
    clear q
    go_wp2_with fail
    go_ret
    exact ⟨rfl, B.out⟩
  · have hs' : 1048576 < a0.size := by omega
    go_enter Tryz.func10, Tryz.ntmps10
    go_wp2_with fail
    go_ret
    exact ⟨rfl, Ext.refl _⟩
theorem errRow (u : TypeId) (h : Tryz.prog.typeName? 3 u = some "*errors.errorString") : u = 178 :=
  typeName_ptr_named (nm := "errors.errorString") (by rw [show "*" ++ "errors.errorString" = "*errors.errorString" by decide]; kernel_rfl) (by kernel_rfl) (by decide) u (by rw [show "*" ++ "errors.errorString" = "*errors.errorString" by decide]; exact h)
theorem laidTab {W : World} (h : laidMetH Tryz.prog Rows.fnExactParseClauseRow.laid W) : LibG W := by
  rw [MakeChecks.laidMetH_plain _ _ _ (by kernel_rfl)] at h
  have h3 : laidMet Tryz.prog [("internal/strconv.uint64pow10", Lib.tabData .u64 Lib.pow10Tab), ("strconv.ErrRange", Rows.laid_strconv_ErrRange), ("strconv.ErrSyntax", Rows.laid_strconv_ErrSyntax)] W := laidMet.tail (laidMet.tail h)
  refine ⟨Lib.tabIs_of_head (g := 5) (by kernel_rfl) (by kernel_rfl) Tryz.underlying182 Tryz.underlying166 (by kernel_rfl) (by kernel_rfl) h3, ?_⟩
  have h4 := h3.tail
  obtain ⟨a1, s1, hv1, -, -, -⟩ := laid_sentinel (g := 4) h4 (by kernel_rfl) (by kernel_rfl) Tryz.underlying133 errRow Tryz.underlying178 Tryz.underlying180 rfl rfl Tryz.underlying9 (by kernel_rfl) (by kernel_rfl)
  have hg : Tryz.prog.globalNamed "strconv.ErrRange" = some 4 := by kernel_rfl
  exact ⟨_, (by have h0 := World.var?_cell hg hv1 0; simpa using h0), .inr ⟨_, _, rfl⟩⟩
set_option maxRecDepth 100000 in
theorem lifted (os : Os) (started : os.Started) (H : Type) (enc : TypeId × Value → H) :
    ReturnsInHanded {} Tryz.checked os 10 .any (fun w args => (Rows.fnExactParseClauseSpec.pre enc Tryz.prog Tryz.f10 Rows.fnExactParseClauseRow.domain false w args ∧ laidMetH Tryz.prog Rows.fnExactParseClauseRow.laid w) ∧ sizedMet enc Tryz.prog Tryz.f10 (OpenSpec.ofChange Rows.fnExactParseClauseSpec) false w args)
      (Rows.fnExactParseClauseSpec.post enc Tryz.prog Tryz.f10 false true false false) := by
  refine returnsInHanded_of_change_and (C := Tryz.checked) (X := fun w _ => laidMetH Tryz.prog Rows.fnExactParseClauseRow.laid w) (fun _ _ _ hh h => h.of_heap hh) own started (by kernel_rfl) Tryz.func10
    (ChangeSpec.witness_shaped (enc := enc) (C := Tryz.checked) (os := os) (X := fun w _ => laidMetH Tryz.prog Rows.fnExactParseClauseRow.laid w) false (World.laidAll Tryz.prog os Rows.fnExactParseClauseRow.laid) #[.string ByteArray.empty] 8 (World.laidAll_os _ _ _)
      (World.shaped_of_ZipB (by kernel_rfl) (by kernel_rfl)) (by kernel_rfl) (by kernel_rfl) (by kernel_rfl)
      (by rw [MakeChecks.laidMetH_plain _ _ _ (by kernel_rfl)]; exact laidMet_laidAll _ (by kernel_rfl) (by kernel_rfl))) ?_
  intro W base args ds gs before hval0 hW hcnd _ hL _
  have htab := laidTab hL
  have hval : ∀ (j : Nat) t v, Tryz.f10.params[j]? = some t → args[j]? = some v → Value.okWide Tryz.prog W .any base t v := hval0
  have hW' := hW
  obtain ⟨p, q, hA0, hV, rfl, hfz, hnd⟩ := hW
  have hA : DataW.TrodAll enc Tryz.prog W 0 (fun _ => true) true Tryz.f10.params.toList args.toList ds p := hA0
  rw [Tryz.params10] at hA hval
  obtain ⟨v0, vs0, d0, ds0, p0, q0, hargs, rfl, rfl, h0, r0⟩ := trodAll_cons hA
  obtain ⟨rfl, rfl, rfl⟩ := trodAll_nil r0
  obtain rfl : args = #[v0] := by cases args; simp_all
  obtain ⟨rfl, rfl⟩ := trodVars_none hV
  have k0 := h0
  have lt0 : ∀ x ∈ p0, x.block < W.heap.size := by obtain ⟨m, hm⟩ := k0; exact DataW.trod_lt m _ _ _ hm
  obtain ⟨a0, rfl, _, _, w0⟩ := open_string Tryz.underlying9 (hval 0 9 v0 rfl rfl) h0
  clear hA0 hval0 hval
  refine (walk a0 W htab w0).mono fun e W' ⟨he, bel⟩ => ?_
  subst he
  exact ⟨_, rfl, _, _, _, [], _, [], hW', trodAll_mk1 (shut_bool Tryz.underlying4 _), (trodAll_cons_mk (Below.trod laidOut (by kernel_rfl) (of_decide_eq_true (by kernel_rfl)) k0 bel lt0) trodAll_mk0), rfl, bel.frame _, fun h => by cases h⟩
set_option maxRecDepth 100000 in
theorem over : Rows.fnExactParseClauseRow.holds Tryz.pinned (OpenSpec.ofChange Rows.fnExactParseClauseSpec) :=
  OpenClaim.holds_of_wide 10 Tryz.f10 rfl rfl rfl rfl rfl rfl rfl ⟨rfl, rfl, rfl, rfl, rfl⟩ rfl rfl rfl rfl rfl (by kernel_rfl) Tryz.func10 (by kernel_rfl)
    (of_decide_eq_true (by kernel_rfl)) (by unfold Func.isWrapper; first | (rw [if_pos (by decide +kernel)]; kernel_rfl) | (rw [if_neg (by decide +kernel)]; exact ⟨rfl, rfl⟩))
    (fun os started H enc _ => lifted os started H enc)
theorem proved : Rows.FnExactParseClauseCardSaid :=
  Claim7.holds_tied_plain_at .later [] [.data, .data, .data, .sentinel, .sentinel] true (true, "d580ce3f0cecf76b5160c85a6af4b59b4c1fe95277ed45772955b74914e63acf") true over (fun _ h => by cases h) (by kernel_rfl) (fun _ h => by cases h) fnExactParseClause_row_tie rfl ⟨rfl, rfl⟩ (by kernel_rfl) rfl
    (fun f fn hf hfn => by
      obtain rfl : f = 10 := Option.some.inj ((show Tryz.prog.funcNamed "loop.example/prologserver/laws.FnExactParseClause" = some 10 by kernel_rfl).symm.trans hf) |>.symm
      obtain rfl : fn = Tryz.f10 := (Option.some.inj (Tryz.func10.symm.trans hfn)).symm
      exact ⟨by kernel_rfl, fun j t ht => by
        rw [Tryz.params10] at ht
        have hm : t ∈ [9] := by simpa using Array.mem_of_getElem? ht
        have hall : ([9].all fun u => !Tryz.prog.wantsStandIn u) = true := by kernel_rfl
        exact (show Tryz.prog.wantsStandIn t = false by simpa using List.all_eq_true.1 hall t hm)⟩)
    (by kernel_rfl)
end Go.Proofs.YtognkaebiafgbaaGreatDoor.fnExactParseClause
