/-
  The program's reader: operator.
-/
import Derived.Test.YtognkaebiafgbaaGreatDoorMt47
import Derived.Test.YtognkaebiafgbaaGreatDoorMt17
namespace Go.Proofs.YtognkaebiafgbaaGreatDoor
open Go.RowKit
set_option linter.unusedVariables false
set_option maxHeartbeats 1000000 in
theorem implsymbolsO (w : World) : Calls Tryz.prog 158 #[] w fun e w' => ∃ a c, e = .returned (.slice a 15 c) ∧ StrI (fun b => w.heap.size ≤ b) signs (.slice a 15 c) w' ∧ Ext w w' := by
  go_enter Tryz.func158, Tryz.ntmps158
  go_wp2
  go_ret
  exact ⟨_, _, rfl, ⟨⟨rfl, .inr ⟨_, 15, _, rfl, Nat.zero_le _, alloc_at _ _ rfl, Nat.le_refl _, by decide, rfl, rfl⟩⟩, by simp [Value.ownBlock], by decide⟩, Ext.alloc _ _⟩
def allOps : List ByteArray := signs ++ wordOps
def opStep (r : List UInt8) (best : List UInt8) (s : ByteArray) : List UInt8 := if (decide (0 < opLevelF s.toList) && (spaced s.toList).isPrefixOf r && decide (best.length < s.toList.length)) = true then s.toList else best
theorem opP_fold (r : List UInt8) : opP r = allOps.foldl (opStep r) [] := rfl
theorem op_snoc {r : List UInt8} {ss : List ByteArray} {j : Nat} {x : ByteArray} (h : ss[j]? = some x) : (ss.take (j + 1)).foldl (opStep r) [] = opStep r ((ss.take j).foldl (opStep r) []) x := by
  have hj : j < ss.length := by
    apply Decidable.byContradiction
    intro hn
    rw [List.getElem?_eq_none (by omega)] at h
    cases h
  have hx : ss[j] = x := by rw [List.getElem?_eq_getElem hj] at h; exact Option.some.inj h
  rw [List.take_succ_eq_append_getElem hj, List.foldl_append, hx]
  rfl
theorem allOps_small {j : Nat} {x : ByteArray} (h : allOps[j]? = some x) : x.size ≤ 3 := by
  have : ∀ y ∈ allOps, y.size ≤ 3 := by decide
  exact this x (List.mem_of_getElem? h)
def opX : Option (List UInt8) → List UInt8
  | some r => opP r
  | none => []
theorem wpList_append_str2 {P : Program} {ops : Array Oper} {rest : List Oper} {o : Oper} {a : Act} {w1 : World} {Q : Exit → Act → World → Prop}
    (hgd : o.guard = none) (s x : Operand) (ty : TypeId)
    (ho : o.op = .call { callee := .builtin .append, args := #[s, x], argTypes := #[ty, ty] })
    (Z : Nat → Prop) (i : TypeInfo) (ht : P.underlying ty = some (.slice 9)) (hi : P.info? 9 = some i) (hz : i.zero = some (.string ⟨#[]⟩))
    (hsize : i.size = 1) (hby : i.bytes = 16)
    (v : Value) (xs : List ByteArray) (z1 z2 : ByteArray) (hs : a.eval s = v) (happ : StrI Z xs v w1) {nb : Nat} (hx : a.eval x = .slice (some ⟨nb, 0, none⟩) 2 2)
    (hl : xs.length < 1048570) (n : Nat) (hn : xs.length + 2 = n) (hnew : ∀ b, w1.heap.size ≤ b → Z b) (hnb : nb = w1.heap.size)
    (h : ∀ av cv w2, StrI Z (xs ++ [z1, z2]) (.slice av n cv) w2 → Fr Z w1 w2 → wpList P ops Q rest (a.put o.dst (.slice av n cv)) w2) :
    wpList P ops Q (o :: rest) a (w1.alloc (.cells #[.string z1, .string z2] 9)) := by
  subst hnb hn
  obtain ⟨how, hzz, hlen⟩ := happ
  refine wpList_append_fresh hgd s x ty ho 0 9 i _ 1 16 ht hi hz hsize hby rfl (by decide) v xs.length _ hs (own_ext how (Ext.alloc _ _)) ⟨w1.heap.size, 0, none⟩ 2 2 [.string z1, .string z2] hx rfl (fun j u h => ?_) (by simp [Value.oneCell']) (by unfold maxLen; omega) (by omega) (by omega) ?_
  · rw [show (⟨w1.heap.size, 0, none⟩ : Addr).add j = ⟨w1.heap.size, 0 + j, none⟩ by unfold Addr.add; split <;> simp_all]
    exact cell_new w1 #[.string z1, .string z2] 9 j u (by simpa using h)
  intro v2 w2 ho2 hg2 hfr2 _
  obtain ⟨av, cv, rfl⟩ := own_form ho2
  refine h av cv w2 ⟨by simpa using ho2, ?_, by simp; omega⟩ ((Fr.alloc _ _).trans (Fr.of_grown hg2 (fun k hk => hzz k hk)))
  intro g hg
  rcases hfr2 g hg with h | h
  · exact hzz g h
  · exact hnew g (by simp at h; omega)
theorem info_str1 : (Tryz.prog.info? 9).map (fun i => (i.zero, i.size, i.bytes)) = some (some (.string ⟨#[]⟩), 1, 16) := by kernel_rfl
set_option maxRecDepth 100000 in
set_option maxHeartbeats 8000000 in
theorem rdoperator {rb : Nat} {s : ByteArray} {o : Bool} {X : Option (List UInt8)} {w : World} (hs : s.size ≤ 4000) (h : RdW rb s o X w) :
    Calls Tryz.prog 101 #[.pointer (some ⟨rb, 0, none⟩)] w fun e w' => e = .returned (.string (bs (opX X))) ∧ Ext w w' := by
  have hlt := h.lt
  cases X with
  | none =>
    obtain ⟨i, bad, hbad, hb⟩ := h.bad
    clear h
    obtain ⟨c0, c1, c2, c3, _⟩ := hb
    go_enter Tryz.func101, Tryz.ntmps101
    go_wp2_with fail
    go_ret
    exact ⟨rfl, Ext.refl _⟩
  | some r =>
    obtain ⟨n, h1, h2, hb⟩ := h.good
    have HB := Lib.hid hb
    have hext : s.extract n s.size = bs r := by rw [ext_end rfl, h2]
    obtain ⟨i0, hi, hz0, hz1, hz2⟩ := info_parts info_str1
    have HI := Lib.hid hi
    have HZ0 := Lib.hid hz0
    have HZ1 := Lib.hid hz1
    have HZ2 := Lib.hid hz2
    clear h h2 hi hz0 hz1 hz2
    obtain ⟨c0, c1, c2, c3, _⟩ := hb
    go_enter Tryz.func101, Tryz.ntmps101
    go_wp2_with fail
    refine (implsymbolsO _).mono ?_
    rintro e w1 ⟨a1, k1, rfl, hS, e1⟩
    have HS := Lib.hid hS
    have E1 := Lib.hid e1
    clear hS e1
    go_wp2_with (at_builtin; refine wpList_append_str2 rfl (.tmp 12) (.tmp 13) 69 rfl (fun b => w.heap.size ≤ b) i0 Tryz.underlying69 HI.out HZ0.out HZ1.out HZ2.out (.slice a1 15 k1) signs _ _ rfl HS.out rfl (by decide) 17 rfl (fun b hb => by have := Below.size E1.out; omega) rfl ?_; intro av cv w2 hS2 hf2; have S2 := Lib.hid hS2; have F2 := Lib.hid hf2; clear hS2 hf2)
    obtain ⟨g, c, hv, hg, hc, hcs⟩ := S2.out.cells (by decide)
    obtain ⟨rfl, hxx, rfl⟩ := Value.slice.inj hv
    clear hxx
    have HC := Lib.hid (show ∀ (j : Nat) (x : ByteArray), allOps[j]? = some x → w2.cell? ⟨g, 0 + j, none⟩ = some (.string x) from hcs)
    have E2 := Lib.hid (show Ext w w2 from ((Fr.of_ext (M := fun b => w.heap.size ≤ b) E1.out).trans F2.out).toExt (fun k hk h => by omega))
    clear hcs hv c0 c1 c2 c3
    have hc17 : 17 ≤ cv := hc
    go_loopw [3, 16] (fun q i wr => ∃ (j : Nat) (best : List UInt8), j ≤ 17 ∧ i = .int .i64 j ∧ q = .string (bs best) ∧ Hid ((allOps.take j).foldl (opStep r) [] = best) ∧ best.length ≤ 3 ∧ Ext w2 wr) (fun _ i _ => 17 - (intOf i).toNat)
    case atStart => exact ⟨0, [], by omega, rfl, rfl, Lib.hid rfl, by decide, Ext.refl _⟩
    case round =>
      obtain ⟨j, best, hj, rfl, rfl, HM, hbl, e⟩ := hrel
      by_cases hjl : j < 17
      · obtain ⟨x, hx⟩ : ∃ x, allOps[j]? = some x := ⟨allOps[j]'hjl, List.getElem?_eq_getElem _⟩
        have hcx := e.cell (HC.out j x hx)
        rw [Nat.zero_add] at hcx
        have hx3 := allOps_small hx
        have HN := Lib.hid (op_snoc (r := r) hx)
        rw [HM.out] at HN
        obtain ⟨d0, d1, d2, d3, _⟩ := (HB.out.ext E2.out).ext e
        have k0 := cell_regrown d0
        have k1 := cell_regrown d1
        have hb1 : ((bs best).size : Int) = best.length := by rw [bs_size]
        clear hx d3
        cases hop : decide (0 < opLevelF x.toList)
        · have HN2 : Hid ((allOps.take (j + 1)).foldl (opStep r) [] = best) := Lib.hid (by rw [HN.out]; unfold opStep; rw [hop]; rfl)
          have cQ := quiet_call (w := wr) (fun w' e' => implisOp x w')
          rw [hop] at cQ
          go_wp2_with fail
          refine region_ext (by kernel_rfl) (by kernel_rfl) ?_
          repeat (go_big_quiet_step (exact cQ _ _))
          refine wpQuiet_nil ?_
          intro w3 e3
          go_wp2_with fail
          exact ⟨⟨j + 1, best, by omega, by go_num, by first | rfl | rw [bs_of], HN2, hbl, e.trans e3⟩, by simp [intOf]; omega⟩
        · cases hp : (spaced x.toList).isPrefixOf r
          · have HN2 : Hid ((allOps.take (j + 1)).foldl (opStep r) [] = best) := Lib.hid (by rw [HN.out]; unfold opStep; rw [hop, hp]; rfl)
            have cR := quiet_call (w := wr) (fun w' e' => implopText x w' (by omega))
            have cP := quiet_call (w := wr) (quiet_prefix (bs r) (bs (spaced x.toList)) _ hp wr)
            have cQ := quiet_call (w := wr) (fun w' e' => implisOp x w')
            rw [hop] at cQ
            go_wp2_with fail
            refine region_ext (by kernel_rfl) (by kernel_rfl) ?_
            repeat (go_big_quiet_step (first | exact cQ _ _ | exact cR _ _ | exact cP _ _))
            refine wpQuiet_nil ?_
            intro w3 e3
            go_wp2_with fail
            exact ⟨⟨j + 1, best, by omega, by go_num, by first | rfl | rw [bs_of], HN2, hbl, e.trans e3⟩, by simp [intOf]; omega⟩
          · by_cases hlen : best.length < x.size
            · have HN2 : Hid ((allOps.take (j + 1)).foldl (opStep r) [] = x.toList) := Lib.hid (by rw [HN.out]; unfold opStep; rw [hop, hp, bl_len, decide_eq_true hlen]; rfl)
              have hd : decide (((bs best).size : Int) < (x.size : Int)) = true := by rw [bs_size]; exact decide_eq_true (by omega)
              have hxl : x.toList.length ≤ 3 := by rw [bl_len]; exact hx3
              have cR := quiet_call (w := wr) (fun w' e' => implopText x w' (by omega))
              have cP := quiet_call (w := wr) (quiet_prefix (bs r) (bs (spaced x.toList)) _ hp wr)
              have cQ := quiet_call (w := wr) (fun w' e' => implisOp x w')
              rw [hop] at cQ
              go_wp2_with fail
              refine region_ext (by kernel_rfl) (by kernel_rfl) ?_
              repeat (go_big_quiet_step (first | exact cQ _ _ | exact cR _ _ | exact cP _ _))
              refine wpQuiet_nil ?_
              intro w3 e3
              go_wp2_with fail
              exact ⟨⟨j + 1, x.toList, by omega, by go_num, by first | rfl | rw [bs_of], HN2, hxl, e.trans e3⟩, by simp [intOf]; omega⟩
            · have HN2 : Hid ((allOps.take (j + 1)).foldl (opStep r) [] = best) := Lib.hid (by rw [HN.out]; unfold opStep; rw [hop, hp, bl_len, decide_eq_false hlen]; rfl)
              have hd : decide (((bs best).size : Int) < (x.size : Int)) = false := by rw [bs_size]; exact decide_eq_false (by omega)
              have cR := quiet_call (w := wr) (fun w' e' => implopText x w' (by omega))
              have cP := quiet_call (w := wr) (quiet_prefix (bs r) (bs (spaced x.toList)) _ hp wr)
              have cQ := quiet_call (w := wr) (fun w' e' => implisOp x w')
              rw [hop] at cQ
              go_wp2_with fail
              refine region_ext (by kernel_rfl) (by kernel_rfl) ?_
              repeat (go_big_quiet_step (first | exact cQ _ _ | exact cR _ _ | exact cP _ _))
              refine wpQuiet_nil ?_
              intro w3 e3
              go_wp2_with fail
              exact ⟨⟨j + 1, best, by omega, by go_num, by first | rfl | rw [bs_of], HN2, hbl, e.trans e3⟩, by simp [intOf]; omega⟩
      · have HF := Lib.hid (show opX (some r) = best by
          show opP r = best
          rw [opP_fold, ← HM.out, List.take_of_length_le (by show 17 ≤ j; omega)])
        go_wp2_with fail
        go_ret
        exact ⟨by rw [HF.out]; rfl, E2.out.trans e⟩
end Go.Proofs.YtognkaebiafgbaaGreatDoor

namespace Go.Proofs.YtognkaebiafgbaaGreatDoor
open Go.RowKit
set_option linter.unusedVariables false
theorem op_inv (r : List UInt8) : ∀ (ss : List ByteArray) (best : List UInt8), (best = [] ∨ ((spaced best).isPrefixOf r = true ∧ 0 < opLevelF best)) →
    (ss.foldl (opStep r) best = [] ∨ ((spaced (ss.foldl (opStep r) best)).isPrefixOf r = true ∧ 0 < opLevelF (ss.foldl (opStep r) best)))
  | [], best, h => h
  | s :: ss, best, h => by
    refine op_inv r ss _ ?_
    unfold opStep
    split
    · rename_i hc
      simp only [Bool.and_eq_true, decide_eq_true_eq] at hc
      exact .inr ⟨hc.1.2, hc.1.1⟩
    · exact h
theorem opP_facts {r : List UInt8} (h : opP r ≠ []) : (spaced (opP r)).isPrefixOf r = true ∧ 0 < opLevelF (opP r) := by
  rw [opP_fold] at h ⊢
  rcases op_inv r allOps [] (.inl rfl) with hh | hh
  · exact absurd hh h
  · exact hh
theorem spaced_ge (l : List UInt8) : l.length ≤ (spaced l).length := by
  unfold spaced
  split
  · simp; omega
  · exact Nat.le_refl _
theorem RdW.fwd {rb : Nat} {s : ByteArray} {o : Bool} {w : World} {n : Nat} {r p : List UInt8} (hb : BoxT w rb (.string s) (.int .i64 n) (.int .i64 (-1)) (.bool o)) (hn : n ≤ s.size) (h : s.toList.drop n = r) (hp : p.isPrefixOf r = true) {u : Value} (hu : u = .int .i64 ((n : Int) + p.length)) : RdW rb s o (some (r.drop p.length)) (w.setCell ⟨rb, 1, none⟩ u) := by
  subst hu
  have hl := (List.isPrefixOf_iff_prefix.1 hp).length_le
  have hr := congrArg List.length h
  rw [List.length_drop, bl_len] at hr
  exact RdW.mk (n := n + p.length) (by omega) (by rw [← List.drop_drop, h]) (hb.setAt _)
theorem rdprim (o : Bool) (F : Nat) (hPt : ∀ G, G < F → PartC' o G) (hT : o = true → TerC F) : PriC o (F + 1) := by
  intro rb s deep rest w hs hdeep hL h hF
  by_cases hd : 30 < deep
  · rw [prim_deep hd]
    exact rdprim_fail o F rb s deep rest w hs hdeep h (.inl hd)
  · cases rest with
    | nil =>
      rw [prim_nil]
      exact rdprim_fail o F rb s deep [] w hs hdeep h (.inr rfl)
    | cons b r =>
      simp only [List.length_cons] at hF
      by_cases h0 : b = 0
      · subst h0
        rw [prim_zero]
        exact rdprim_fail o F rb s deep _ w hs hdeep h (.inr rfl)
      · cases hu : isUp b
        · cases hst : numStart (b :: r)
          · by_cases hbo : b = 40 ∧ o = true
            · obtain ⟨rfl, rfl⟩ := hbo
              have e : primF true (F + 1) deep (40 :: r) = brX (termF true F 3 deep r) := by
                rw [primF, if_neg hd]
                simp only [hu, hst, if_false, Bool.false_eq_true, and_self, if_true, show ¬ (40 : UInt8) = 0 by decide]
                cases termF true F 3 deep r with
                | none => rfl
                | some p => obtain ⟨t, q⟩ := p; cases q <;> rfl
              rw [e]
              exact rdprim_br F rb s deep r w hs (by omega) h hL (hT rfl) (by omega)
            · by_cases hli : b = 91 ∧ r.head? ≠ some 93
              · have e : primF o (F + 1) deep (b :: r) = listF o F deep [] r := by
                  rw [primF, if_neg hd]
                  simp only [h0, hu, hst, hbo, if_false, Bool.false_eq_true]
                  rw [if_pos hli]
                rw [e]
                obtain ⟨rfl, hne⟩ := hli
                exact rdprim_list F o rb s deep r w hs (by omega) h hne hL (rdlist o F hPt) (by omega)
              · have e : primF o (F + 1) deep (b :: r) = nmX o F deep (nameP (b :: r)) := by
                  rw [primF, if_neg hd]
                  simp only [h0, hu, hst, hbo, if_false, Bool.false_eq_true]
                  rw [if_neg hli]
                  cases nameP (b :: r) with
                  | none => rfl
                  | some p => obtain ⟨t, q⟩ := p; cases q <;> rfl
                rw [e]
                exact rdprim_name F o rb s deep b r w hs (by omega) h h0 hL hPt (by omega) hu hst hbo hli
          · have e : primF o (F + 1) deep (b :: r) = numP (b :: r) := by
              rw [primF, if_neg hd]
              simp only [h0, hu, hst, if_false, Bool.false_eq_true, if_true]
            rw [e]
            exact rdprim_num o rb s deep b r w hs (by omega) h h0 hL hu hst
        · have e : primF o (F + 1) deep (b :: r) = some (vT b, r) := by
            rw [primF, if_neg hd]
            simp only [h0, hu, if_false, if_true]
          rw [e]
          exact rdprim_up o rb s deep b r w hs (by omega) h h0 hu
end Go.Proofs.YtognkaebiafgbaaGreatDoor

namespace Go.Proofs.YtognkaebiafgbaaGreatDoor
open Go.RowKit
set_option linter.unusedVariables false
theorem loop_end {F : Nat} {level mine : Int} {deep : Nat} {t : Tm} {r : List UInt8} (h : opP r = [] ∨ level < opLevelF (opP r) ∨ leftM (opP r) < mine) : loopF true (F + 1) level deep mine t r = some (t, r) := by
  rw [loopF, if_pos h]
theorem loop_none {F : Nat} {level mine : Int} {deep : Nat} {t : Tm} {r : List UInt8} (h : ¬ (opP r = [] ∨ level < opLevelF (opP r) ∨ leftM (opP r) < mine)) (e : termF true F (opLevelF (opP r) - 1) deep (r.drop (spaced (opP r)).length) = none) : loopF true (F + 1) level deep mine t r = none := by
  rw [loopF, if_neg h, e]
theorem loop_more {F : Nat} {level mine : Int} {deep : Nat} {t u : Tm} {r q : List UInt8} (h : ¬ (opP r = [] ∨ level < opLevelF (opP r) ∨ leftM (opP r) < mine)) (e : termF true F (opLevelF (opP r) - 1) deep (r.drop (spaced (opP r)).length) = some (u, q)) : loopF true (F + 1) level deep mine t r = loopF true F level deep (opLevelF (opP r)) (sT (bs (opP r)) [t, u]) q := by
  rw [loopF, if_neg h, e]
theorem term_len {F : Nat} {level : Int} {deep : Nat} {rest : List UInt8} {t : Tm} {r : List UInt8} (h : termF true F level deep rest = some (t, r)) : r.length < rest.length := (len_all F).2.2.2.1 _ _ _ _ _ _ h
theorem prim_len {o : Bool} {F : Nat} {deep : Nat} {rest : List UInt8} {t : Tm} {r : List UInt8} (h : primF o F deep rest = some (t, r)) : r.length < rest.length := (len_all F).1 _ _ _ _ _ h
theorem bs_nil_eq (l : List UInt8) : (bs l).toList.isEmpty = decide (l = []) := by
  rw [bs_list]
  cases l <;> rfl
set_option maxRecDepth 100000 in
set_option maxHeartbeats 16000000 in
theorem rdterm (F : Nat) (hP : PriC true F) (hT : ∀ G, G < F + 1 → TerC G) : TerC (F + 1) := by
  intro rb s level deep rest w hs hl0 hl3 hdeep hL h hF
  have hlt := h.lt
  have H := Lib.hid h
  have HL := Lib.hid hL
  have HT := Lib.hid hT
  have HP := Lib.hid (hP rb s deep rest (w.alloc (.cells #[.int .i64 0, .int .i64 0, .string ⟨#[]⟩, .slice none 0 0] 25)) hs hdeep (hL.ext (Ext.alloc _ _)) (h.ext (Ext.alloc _ _)) (by omega))
  obtain ⟨X, hX⟩ : ∃ X, termF true (F + 1) level deep rest = X := ⟨_, rfl⟩
  rw [hX]
  have HX0 := Lib.hid hX
  clear h hL hP hT hX
  go_enter Tryz.func57, Tryz.ntmps57
  go_wp2_with fail
  refine HP.out.mono ?_
  rintro e w1 ⟨t1, ta1, tc1, rfl, ho1, f1, hr1, hX1⟩
  have W1 := Lib.hid ((Fr.alloc (M := fun k => k = rb) w (.cells #[.int .i64 0, .int .i64 0, .string ⟨#[]⟩, .slice none 0 0] 25)).trans f1)
  have HZ1 := Lib.hid ((BoxT.new w (.int .i64 0) (.int .i64 0) (.string ⟨#[]⟩) (.slice none 0 0) 25 rfl).fr f1 (by omega))
  have lz1 := HZ1.out.lt
  have O1 := Lib.hid ho1
  have R1 := Lib.hid hr1
  have HX1 := Lib.hid hX1
  obtain ⟨tb, htb⟩ : ∃ z, z = w1.heap.size := ⟨_, rfl⟩
  have hY : ∃ (Y : Option (List UInt8)) (g0 : Nat), (primF true F deep rest).map Prod.snd = Y ∧ ((∀ r, Y = some r → ∃ G, G ≤ F ∧ g0 = r.length + 1 ∧ 4 * r.length + 2 ≤ G ∧ loopF true G level deep 0 t1 r = X) ∧ (Y = none → g0 = 0 ∧ X = none)) := by
    cases e : primF true F deep rest with
    | none =>
      refine ⟨none, 0, rfl, (fun r h => by cases h), fun _ => ⟨rfl, ?_⟩⟩
      rw [← HX0.out, termF, e]
    | some p =>
      obtain ⟨u, r⟩ := p
      have hu : t1 = u := HX1.out u r e
      have hlen := prim_len e
      refine ⟨some r, r.length + 1, rfl, (fun r' h => ?_), fun h => by cases h⟩
      cases h
      refine ⟨F, Nat.le_refl _, rfl, by omega, ?_⟩
      rw [← HX0.out, termF, e, hu]
  obtain ⟨Y0, g0, hY0, hY1⟩ := hY
  rw [hY0] at R1
  have HY1 := Lib.hid hY1
  clear ho1 f1 hr1 hX1 hY0 hY1
  go_wp2_with fail
  go_loopg [8] g0 (fun g mv wr => ∃ (t : Tm) (ta : Option Addr) (tc : Nat) (mine : Int), mv = .int .i64 mine ∧
    Hid (Tm.own (fun b => (w.heap.size + 1 ≤ b ∧ b ≠ w1.heap.size) ∧ b < wr.heap.size) wr t (.slice ta t.kids.length tc)) ∧ Hid (Fr (fun k => k = rb) w wr) ∧ Hid (BoxT wr w.heap.size (.int .i64 0) (.int .i64 0) (.string ⟨#[]⟩) (.slice none 0 0)) ∧
    Hid (BoxT wr w1.heap.size (.int .i64 t.kind) (.int .i64 t.n) (.string t.name) (.slice ta t.kids.length tc)) ∧
    Hid (∃ Y, RdW rb s true Y wr ∧ (∀ r, Y = some r → ∃ G, G ≤ F ∧ g = r.length + 1 ∧ 4 * r.length + 2 ≤ G ∧ loopF true G level deep mine t r = X) ∧ (Y = none → g = 0 ∧ X = none)))
  case atStart =>
    refine ⟨t1, ta1, tc1, 0, rfl, Lib.hid ?_, Lib.hid (W1.out.trans (Fr.alloc _ _)), Lib.hid (HZ1.out.ext (Ext.alloc _ _)), Lib.hid (BoxT.new _ _ _ _ _ 25 rfl), Lib.hid ⟨Y0, R1.out.ext (Ext.alloc _ _), HY1.out.1, HY1.out.2⟩⟩
    refine own_zone (own_ext1 (own_bound _ _ O1.out) (Ext.alloc _ _)) (fun b hb => ?_)
    have h1 : (w.alloc (.cells #[.int .i64 0, .int .i64 0, .string ⟨#[]⟩, .slice none 0 0] 25)).heap.size ≤ b := hb.1
    simp at h1
    have h2 := hb.2
    refine ⟨⟨h1, by omega⟩, by simp; omega⟩
  case round =>
    obtain ⟨t, ta, tc, mine, rfl, HO, HF, HZ, HTB, HQ⟩ := hrel
    obtain ⟨Y, hR, hq1, hq2⟩ := HQ.out
    have lz := HZ.out.lt
    have lt := HTB.out.lt
    have HR := Lib.hid hR
    have OPR := Lib.hid (rdoperator hs hR)
    have z := HZ.out
    obtain ⟨z0, z1, z2, z3, y0, y1, y2, y3⟩ := z
    have tbx := HTB.out
    obtain ⟨m0, m1, m2, m3, n0, n1, n2, n3⟩ := tbx
    have hend : ∀ w2, Ext wr w2 → (opX Y = [] ∨ level < opLevelF (opX Y) ∨ leftM (opX Y) < mine) → RdW rb s true (X.map Prod.snd) w2 ∧ ∀ u r, X = some (u, r) → t = u := by
      intro w2 e2 hc
      cases Y with
      | none =>
        rw [(hq2 rfl).2]
        exact ⟨hR.ext e2, fun u r h => by cases h⟩
      | some r =>
        obtain ⟨G, _, _, h4, hx⟩ := hq1 r rfl
        obtain ⟨G, rfl⟩ : ∃ x, G = x + 1 := ⟨G - 1, by omega⟩
        rw [loop_end hc] at hx
        rw [← hx]
        exact ⟨hR.ext e2, fun u r h => by cases h; rfl⟩
    have HEND := Lib.hid hend
    have hl3' := op_le3 (opX Y)
    have hl0' := opLevel_nn (opX Y)
    clear z0 z1 z2 z3 y0 y1 y2 y3 m0 m1 m2 m3 n0 n1 n2 n3 hend hR HQ
    have HQ1 := Lib.hid hq1
    clear hq1 hq2
    go_wp2_with fail
    refine OPR.out.mono ?_
    rintro e w2 ⟨rfl, e2⟩
    have Z2 := Lib.hid (HZ.out.ext e2)
    have T2 := Lib.hid (HTB.out.ext e2)
    have W2 := Lib.hid (HF.out.trans (Fr.of_ext e2))
    have O2 := Lib.hid (own_ext1 HO.out e2)
    have R2 := Lib.hid (HR.out.ext e2)
    have s2 := Below.size e2
    have lz2 := Z2.out.lt
    have lt2 := T2.out.lt
    have z := Z2.out
    obtain ⟨z0, z1, z2, z3, y0, y1, y2, y3⟩ := z
    have tbx := T2.out
    obtain ⟨m0, m1, m2, m3, n0, n1, n2, n3⟩ := tbx
    go_wp2_with fail
    refine (implOpLevel _ _).mono ?_
    rw [bs_list]
    rintro e w2' ⟨rfl, rfl⟩
    have heq := bs_nil_eq (opX Y)
    have heq2 : ((bs (opX Y)).toList = []) = (opX Y = []) := by rw [bs_list]
    obtain ⟨N, hN⟩ : ∃ N, opX Y = N := ⟨_, rfl⟩
    obtain ⟨L, hLv⟩ : ∃ L, opLevelF N = L := ⟨_, rfl⟩
    rw [hN] at heq heq2 hl3' hl0' HEND ⊢
    rw [hLv] at hl3' hl0' HEND ⊢
    by_cases hstop : N = []
    · rw [decide_eq_true hstop] at heq
      have HS := Lib.hid (HEND.out w2 e2 (.inl hstop))
      have heq3 : (bs N).toList = [] := by rw [heq2]; exact hstop
      clear hstop heq2
      go_wp2_with fail
      exact rd_ret (p := 6) (T := 25) (b := w.heap.size) (t := t) (ta := ta) (tc := tc) (by kernel_rfl) (fun _ => by kernel_rfl) (fun _ => by kernel_rfl) rfl rfl Z2.out (Nat.le_refl _) (by omega) W2.out O2.out (fun k hk => by have := hk.1; omega) HS.out.1 HS.out.2
    · rw [decide_eq_false hstop] at heq
      have heq3 : ¬ (bs N).toList = [] := by rw [heq2]; exact hstop
      clear heq2
      by_cases hlev : level < L
      · have HS := Lib.hid (HEND.out w2 e2 (.inr (.inl hlev)))
        clear hstop
        go_wp2_with fail
        exact rd_ret (p := 6) (T := 25) (b := w.heap.size) (t := t) (ta := ta) (tc := tc) (by kernel_rfl) (fun _ => by kernel_rfl) (fun _ => by kernel_rfl) rfl rfl Z2.out (Nat.le_refl _) (by omega) W2.out O2.out (fun k hk => by have := hk.1; omega) HS.out.1 HS.out.2
      · obtain ⟨r, hr⟩ : ∃ r, Y = some r := by
          cases Y with
          | none => exact absurd hN.symm hstop
          | some r => exact ⟨r, rfl⟩
        subst hr
        have hN' : opP r = N := hN
        have hop := opP_facts (r := r) (by rw [hN']; exact hstop)
        rw [hN', hLv] at hop
        obtain ⟨hpre, hLpos⟩ := hop
        have LM := Lib.hid (implleftMost (bs N) w2 (by rw [bs_list, hLv]; exact hLpos))
        rw [bs_list] at LM
        obtain ⟨M, hM⟩ : ∃ M, leftM N = M := ⟨_, rfl⟩
        rw [hM] at LM HEND
        by_cases hmine : M < mine
        · have HS0 := Lib.hid (fun w3 (e3 : Ext w2 w3) => HEND.out w3 (e2.trans e3) (.inr (.inr hmine)))
          clear hstop hN hN' hpre
          go_wp2_with fail
          refine LM.out.mono ?_
          rintro e w3 ⟨rfl, e3⟩
          have HS := Lib.hid (HS0.out w3 e3)
          have Z3 := Lib.hid (Z2.out.ext e3)
          have T3 := T2.out.ext e3
          have W3 := Lib.hid (W2.out.trans (Fr.of_ext e3))
          have O3 := Lib.hid (own_ext1 O2.out e3)
          have lz3 := Z3.out.lt
          have z := Z3.out
          clear z0 z1 z2 z3 y0 y1 y2 y3 m0 m1 m2 m3 n0 n1 n2 n3
          obtain ⟨z0, z1, z2, z3, y0, y1, y2, y3⟩ := z
          obtain ⟨m0, m1, m2, m3, n0, n1, n2, n3⟩ := T3
          go_wp2_with fail
          exact rd_ret (p := 6) (T := 25) (b := w.heap.size) (t := t) (ta := ta) (tc := tc) (by kernel_rfl) (fun _ => by kernel_rfl) (fun _ => by kernel_rfl) rfl rfl Z3.out (Nat.le_refl _) (by omega) W3.out O3.out (fun k hk => by have := hk.1; omega) HS.out.1 HS.out.2
        · obtain ⟨G, hG, hg, h4, hx⟩ := HQ1.out r rfl
          obtain ⟨G, rfl⟩ : ∃ x, G = x + 1 := ⟨G - 1, by omega⟩
          obtain ⟨p, hp⟩ : ∃ p, spaced N = p := ⟨_, rfl⟩
          have hNl : N.length ≤ p.length := by rw [← hp]; exact spaced_ge N
          have hN1 : 1 ≤ N.length := List.length_pos_iff.2 hstop
          have hOT := implopText (bs N)
          rw [bs_list, hp] at hOT
          rw [hp] at hpre
          have hpl := (List.isPrefixOf_iff_prefix.1 hpre).length_le
          have HPRE := Lib.hid hpre
          have hns : ¬ (opP r = [] ∨ level < opLevelF (opP r) ∨ leftM (opP r) < mine) := by
            rw [hN', hLv, hM]
            rintro (h | h | h)
            · exact hstop h
            · exact hlev h
            · exact hmine h
          have hdl : (r.drop p.length).length = r.length - p.length := List.length_drop
          have hst : ∀ u : Tm, (∀ u' q, termF true G (L - 1) deep (r.drop p.length) = some (u', q) → u = u') → ∃ (Y' : Option (List UInt8)) (g' : Nat), (termF true G (L - 1) deep (r.drop p.length)).map Prod.snd = Y' ∧ g' < r.length + 1 ∧
              (∀ q, Y' = some q → ∃ G', G' ≤ F ∧ g' = q.length + 1 ∧ 4 * q.length + 2 ≤ G' ∧ loopF true G' level deep L (sT (bs N) [t, u]) q = X) ∧ (Y' = none → g' = 0 ∧ X = none) := by
            intro u hu
            cases e : termF true G (L - 1) deep (r.drop p.length) with
            | none =>
              refine ⟨none, 0, rfl, by omega, (fun q h => by cases h), fun _ => ⟨rfl, ?_⟩⟩
              rw [← hx]
              refine loop_none hns ?_
              rw [hN', hLv, hp]
              exact e
            | some pr =>
              obtain ⟨u', q⟩ := pr
              have hlen := term_len e
              have huu := hu u' q e
              refine ⟨some q, q.length + 1, rfl, by omega, (fun q' h => ?_), fun h => by cases h⟩
              cases h
              refine ⟨G, by omega, rfl, by omega, ?_⟩
              rw [← hx]
              have e' : termF true G (opLevelF (opP r) - 1) deep (r.drop (spaced (opP r)).length) = some (u, q) := by rw [hN', hLv, hp, huu]; exact e
              rw [loop_more hns e', hN', hLv]
          have HST := Lib.hid hst
          have R2s := R2.out
          have HOT := Lib.hid hOT
          have hNsz : (bs N).size ≤ 1048576 := by
            rw [bs_size]
            have := R2s.len
            omega
          have rl := R2s.len
          clear hst hns hx hN' hstop hpre HQ1 HEND hp hM hOT
          subst hg
          go_wp2_with fail
          refine LM.out.mono ?_
          rintro e w3 ⟨rfl, e3⟩
          have Z3 := Lib.hid (Z2.out.ext e3)
          have T3 := Lib.hid (T2.out.ext e3)
          have W3 := Lib.hid (W2.out.trans (Fr.of_ext e3))
          have O3 := Lib.hid (own_ext1 O2.out e3)
          have R3 := R2s.ext e3
          have s3 := Below.size e3
          obtain ⟨n', n1', n2', nb⟩ := R3.good
          have NB := Lib.hid nb
          have NN := Lib.hid n2'
          have hrl : n' + r.length = s.size := by
            have := congrArg List.length n2'
            rw [List.length_drop, bl_len] at this
            omega
          have ltr := nb.lt
          obtain ⟨c0, c1, c2, c3, f0, f1, f2, f3⟩ := nb
          have OT := Lib.hid (fun w' (e' : Ext w3 w') => HOT.out w' hNsz)
          have hps : n' + (bs p).size ≤ 4000 := by rw [bs_size]; omega
          clear z0 z1 z2 z3 y0 y1 y2 y3 m0 m1 m2 m3 n0 n1 n2 n3 n2' R3 R2s e3
          have hwr : IntKind.i64.wrap ((n' : Int) + ((bs p).size : Int)) = (n' : Int) + ((bs p).size : Int) := by rw [IntKind.wrap_i64]; omega
          go_wp2_with fail
          go_region_law (first
            | (go_simp; go_at_call 104; refine (OT.out _ ?_).mono ?_; (first | exact Ext.refl _ | exact Ext.drew _); rintro e w4 ⟨rfl, e4⟩; (try replace e4 := Ext.undrew e4); have E4 := Lib.hid e4; have d1 := E4.out.cell c1; have g1 := E4.out.frozen ltr f1; have s4 := Below.size E4.out; have ltr4 := Nat.lt_of_lt_of_le ltr s4; clear e4; dsimp only))
          all_goals
            obtain ⟨wS, hwS⟩ : ∃ z, z = w4.setCell ⟨rb, 1, none⟩ (.int .i64 ((n' : Int) + ((bs p).size : Int))) := ⟨_, rfl⟩
            have fS : Fr (fun k => k = rb) w4 wS := by rw [hwS]; exact Fr.setCell w4 rfl
            have RS := Lib.hid (show RdW rb s true (some (r.drop p.length)) wS by rw [hwS]; exact RdW.fwd (NB.out.ext E4.out) n1' NN.out HPRE.out (by rw [bs_size]))
            rw [← hwS]
            have fS3 : Fr (fun k => k = rb) w3 wS := (Fr.of_ext E4.out).trans fS
            have ZS := Lib.hid (Z3.out.fr fS3 (by omega))
            have TS := Lib.hid (T3.out.fr fS3 (by omega))
            have WS := Lib.hid (W3.out.trans fS3)
            have OS := Lib.hid (own_mono (F' := fun b => (w.heap.size + 1 ≤ b ∧ b ≠ w1.heap.size) ∧ b < wr.heap.size) (fun b hb => hb) fS3 (fun b hb e => by have := hb.1; omega) _ _ O3.out)
            have sS : w3.heap.size ≤ wS.heap.size := fS3.size
            have C := Lib.hid (HT.out G (by omega) rb s (L - 1) deep (r.drop p.length) wS hs (by omega) (by omega) hdeep (HL.out.fr WS.out) RS.out (by omega))
            clear hwS fS fS3
            go_wp2_with fail
            refine C.out.mono ?_
            rintro e w5 ⟨u, ua, uc, rfl, ho5, f5, hr5, hX5⟩
            obtain ⟨Y', g', hY', hgl, hs1, hs2⟩ := HST.out u hX5
            rw [hY'] at hr5
            have Z5 := Lib.hid (ZS.out.fr f5 (by omega))
            have T5 := Lib.hid (TS.out.fr f5 (by omega))
            have W5 := Lib.hid (WS.out.trans f5)
            have O5 := Lib.hid (own_mono (F' := fun b => (w.heap.size + 1 ≤ b ∧ b ≠ w1.heap.size) ∧ b < wr.heap.size) (fun b hb => hb) f5 (fun b hb e => by have := hb.1; omega) _ _ OS.out)
            have U5 := Lib.hid ho5
            have R5 := Lib.hid hr5
            have s5 := f5.size
            have HS1 := Lib.hid hs1
            have HS2 := Lib.hid hs2
            have tbx := T5.out
            have lt5 := tbx.lt
            obtain ⟨m0, m1, m2, m3, n0, n1, n2, n3⟩ := tbx
            clear ho5 hr5 hX5 hs1 hs2 hY' f5
            go_wp2_with fail
            go_roundg g'
            case measure => omega
            case rel =>
              obtain ⟨wP, hwP⟩ : ∃ z, z = ((((w5.setCell ⟨w1.heap.size, 0, none⟩ (.int .i64 3)).setCell ⟨w1.heap.size, 1, none⟩ (.int .i64 0)).setCell ⟨w1.heap.size, 2, none⟩ (.string (bs N))).setCell ⟨w1.heap.size, 3, none⟩ (.slice (some ⟨w5.heap.size + 1, 0, none⟩) 2 2)) := ⟨_, rfl⟩
              have fP : Fr (fun k => k = w1.heap.size) w5 wP := by rw [hwP]; exact put4_frw (M := fun k => k = w1.heap.size) w5 _ _ _ _ rfl
              have TP := Lib.hid (show BoxT wP w1.heap.size (.int .i64 3) (.int .i64 0) (.string (bs N)) (.slice (some ⟨w5.heap.size + 1, 0, none⟩) 2 2) by rw [hwP]; exact T5.out.put4 _ _ _ _)
              have hPs : wP.heap.size = w5.heap.size := by rw [hwP]; simp [World.setCell]
              rw [← hwP]
              clear hwP
              have OP := own_mono (F' := fun b => (w.heap.size + 1 ≤ b ∧ b ≠ w1.heap.size) ∧ b < wr.heap.size) (fun b hb => hb) fP (fun b hb e => hb.1.2 e) _ _ O5.out
              have UP := own_mono (F' := fun b => wS.heap.size ≤ b) (fun b hb => hb) fP (fun b hb e => by have hb' : wS.heap.size ≤ b := hb; omega) _ _ U5.out
              have eR : Ext wP ((wP.alloc (.cells #[.int .i64 u.kind, .int .i64 u.n, .string u.name, .slice ua u.kids.length uc] 25)).alloc (.cells #[.int .i64 t.kind, .int .i64 t.n, .string t.name, .slice ta t.kids.length tc, .int .i64 u.kind, .int .i64 u.n, .string u.name, .slice ua u.kids.length uc] 25)) := (Ext.alloc _ _).trans (Ext.alloc _ _)
              have hrow := (owns_two (g := w5.heap.size + 1) OP UP (fun b h1 h2 => by have h3 := h1.2; have h4' : wS.heap.size ≤ b := h2; omega) eR (by omega) (alloc_at _ _ (by simp; omega))).bound
              have fW : Fr (fun k => k = rb) w ((wP.alloc (.cells #[.int .i64 u.kind, .int .i64 u.n, .string u.name, .slice ua u.kids.length uc] 25)).alloc (.cells #[.int .i64 t.kind, .int .i64 t.n, .string t.name, .slice ta t.kids.length tc, .int .i64 u.kind, .int .i64 u.n, .string u.name, .slice ua u.kids.length uc] 25)) := ((W5.out.mono (M' := fun k => k = rb ∨ k = w1.heap.size) (fun k _ h => .inl h)).trans ((fP.mono (fun k _ h => .inr h)).trans (Fr.of_ext eR))).mono (fun k hk h => by rcases h with h | h; exact h; omega)
              refine ⟨sT (bs N) [t, u], some ⟨w5.heap.size + 1, 0, none⟩, 2, L, rfl, Lib.hid (own_sT hNsz (by simp) (hrow.mono (M := fun _ => False) (fun b hb => ⟨?_, hb.2⟩) (Fr.refl _ _) (fun _ _ h => h))), Lib.hid fW, Lib.hid ((Z5.out.fr fP (by omega)).ext eR), Lib.hid (TP.out.ext eR), Lib.hid ⟨Y', (R5.out.fr fP (by omega)).ext eR, HS1.out, HS2.out⟩⟩
              rcases hb.1 with h | h | h
              · exact h.1
              · have h' : wS.heap.size ≤ b := h
                omega
              · omega
end Go.Proofs.YtognkaebiafgbaaGreatDoor
