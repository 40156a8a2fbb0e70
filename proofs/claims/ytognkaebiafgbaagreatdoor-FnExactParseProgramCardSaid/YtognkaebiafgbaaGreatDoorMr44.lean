/-
  The program's reader: operator.
-/
import Derived.Test.YtognkaebiafgbaaGreatDoorMr43
import Derived.Test.YtognkaebiafgbaaGreatDoorMr15
namespace Go.Proofs.YtognkaebiafgbaaGreatDoor
open Go.RowKit
set_option linter.unusedVariables false
set_option maxHeartbeats 1000000 in
theorem implsymbolsO (w : World) : Calls Tryz.prog 158 #[] w fun e w' => ∃ a c, e = .returned (.slice a 15 c) ∧ StrI (fun b => w.heap.size ≤ b) signs (.slice a 15 c) w' ∧ Ext w w' := by
  go_enter Tryz.func158, Tryz.ntmps158
  go_wp2
  go_ret
  exact ⟨_, _, rfl, ⟨⟨rfl, .inr ⟨_, 15, _, rfl, Nat.zero_le _, alloc_at _ _ rfl, Nat.le_refl _, by decide, rfl, rfl⟩⟩, by simp [Value.ownBlock], by decide⟩, Ext.alloc _ _⟩
def allOps : List ByteArray := signs ++ wordOps
def opStep (r : List UInt8) (best : List UInt8) (s : ByteArray) : List UInt8 := if (decide (0 < opLevelF s.toList) && (spaced s.toList).isPrefixOf r && decide (best.length < s.toList.length)) = true then s.toList else best
theorem opP_fold (r : List UInt8) : opP r = allOps.foldl (opStep r) [] := rfl
theorem op_snoc {r : List UInt8} {ss : List ByteArray} {j : Nat} {x : ByteArray} (h : ss[j]? = some x) : (ss.take (j + 1)).foldl (opStep r) [] = opStep r ((ss.take j).foldl (opStep r) []) x := by
  have hj : j < ss.length := by
    apply Decidable.byContradiction
    intro hn
    rw [List.getElem?_eq_none (by omega)] at h
    cases h
  have hx : ss[j] = x := by rw [List.getElem?_eq_getElem hj] at h; exact Option.some.inj h
  rw [List.take_succ_eq_append_getElem hj, List.foldl_append, hx]
  rfl
theorem allOps_small {j : Nat} {x : ByteArray} (h : allOps[j]? = some x) : x.size ≤ 3 := by
  have : ∀ y ∈ allOps, y.size ≤ 3 := by decide
  exact this x (List.mem_of_getElem? h)
def opX : Option (List UInt8) → List UInt8
  | some r => opP r
  | none => []
theorem wpList_append_str2 {P : Program} {ops : Array Oper} {rest : List Oper} {o : Oper} {a : Act} {w1 : World} {Q : Exit → Act → World → Prop}
    (hgd : o.guard = none) (s x : Operand) (ty : TypeId)
    (ho : o.op = .call { callee := .builtin .append, args := #[s, x], argTypes := #[ty, ty] })
    (Z : Nat → Prop) (i : TypeInfo) (ht : P.underlying ty = some (.slice 9)) (hi : P.info? 9 = some i) (hz : i.zero = some (.string ⟨#[]⟩))
    (hsize : i.size = 1) (hby : i.bytes = 16)
    (v : Value) (xs : List ByteArray) (z1 z2 : ByteArray) (hs : a.eval s = v) (happ : StrI Z xs v w1) {nb : Nat} (hx : a.eval x = .slice (some ⟨nb, 0, none⟩) 2 2)
    (hl : xs.length < 1048570) (n : Nat) (hn : xs.length + 2 = n) (hnew : ∀ b, w1.heap.size ≤ b → Z b) (hnb : nb = w1.heap.size)
    (h : ∀ av cv w2, StrI Z (xs ++ [z1, z2]) (.slice av n cv) w2 → Fr Z w1 w2 → wpList P ops Q rest (a.put o.dst (.slice av n cv)) w2) :
    wpList P ops Q (o :: rest) a (w1.alloc (.cells #[.string z1, .string z2] 9)) := by
  subst hnb hn
  obtain ⟨how, hzz, hlen⟩ := happ
  refine wpList_append_fresh hgd s x ty ho 0 9 i _ 1 16 ht hi hz hsize hby rfl (by decide) v xs.length _ hs (own_ext how (Ext.alloc _ _)) ⟨w1.heap.size, 0, none⟩ 2 2 [.string z1, .string z2] hx rfl (fun j u h => ?_) (by simp [Value.oneCell']) (by unfold maxLen; omega) (by omega) (by omega) ?_
  · rw [show (⟨w1.heap.size, 0, none⟩ : Addr).add j = ⟨w1.heap.size, 0 + j, none⟩ by unfold Addr.add; split <;> simp_all]
    exact cell_new w1 #[.string z1, .string z2] 9 j u (by simpa using h)
  intro v2 w2 ho2 hg2 hfr2 _
  obtain ⟨av, cv, rfl⟩ := own_form ho2
  refine h av cv w2 ⟨by simpa using ho2, ?_, by simp; omega⟩ ((Fr.alloc _ _).trans (Fr.of_grown hg2 (fun k hk => hzz k hk)))
  intro g hg
  rcases hfr2 g hg with h | h
  · exact hzz g h
  · exact hnew g (by simp at h; omega)
theorem info_str1 : (Tryz.prog.info? 9).map (fun i => (i.zero, i.size, i.bytes)) = some (some (.string ⟨#[]⟩), 1, 16) := by kernel_rfl
set_option maxRecDepth 100000 in
set_option maxHeartbeats 8000000 in
theorem rdoperator {rb : Nat} {s : ByteArray} {o : Bool} {X : Option (List UInt8)} {w : World} (hs : s.size ≤ 4000) (h : RdW rb s o X w) :
    Calls Tryz.prog 101 #[.pointer (some ⟨rb, 0, none⟩)] w fun e w' => e = .returned (.string (bs (opX X))) ∧ Ext w w' := by
  have hlt := h.lt
  cases X with
  | none =>
    obtain ⟨i, bad, hbad, hb⟩ := h.bad
    clear h
    obtain ⟨c0, c1, c2, c3, _⟩ := hb
    go_enter Tryz.func101, Tryz.ntmps101
    go_wp2_with fail
    go_ret
    exact ⟨rfl, Ext.refl _⟩
  | some r =>
    obtain ⟨n, h1, h2, hb⟩ := h.good
    have HB := Lib.hid hb
    have hext : s.extract n s.size = bs r := by rw [ext_end rfl, h2]
    obtain ⟨i0, hi, hz0, hz1, hz2⟩ := info_parts info_str1
    have HI := Lib.hid hi
    have HZ0 := Lib.hid hz0
    have HZ1 := Lib.hid hz1
    have HZ2 := Lib.hid hz2
    clear h h2 hi hz0 hz1 hz2
    obtain ⟨c0, c1, c2, c3, _⟩ := hb
    go_enter Tryz.func101, Tryz.ntmps101
    go_wp2_with fail
    refine (implsymbolsO _).mono ?_
    rintro e w1 ⟨a1, k1, rfl, hS, e1⟩
    have HS := Lib.hid hS
    have E1 := Lib.hid e1
    clear hS e1
    go_wp2_with (at_builtin; refine wpList_append_str2 rfl (.tmp 12) (.tmp 13) 69 rfl (fun b => w.heap.size ≤ b) i0 Tryz.underlying69 HI.out HZ0.out HZ1.out HZ2.out (.slice a1 15 k1) signs _ _ rfl HS.out rfl (by decide) 17 rfl (fun b hb => by have := Below.size E1.out; omega) rfl ?_; intro av cv w2 hS2 hf2; have S2 := Lib.hid hS2; have F2 := Lib.hid hf2; clear hS2 hf2)
    obtain ⟨g, c, hv, hg, hc, hcs⟩ := S2.out.cells (by decide)
    obtain ⟨rfl, hxx, rfl⟩ := Value.slice.inj hv
    clear hxx
    have HC := Lib.hid (show ∀ (j : Nat) (x : ByteArray), allOps[j]? = some x → w2.cell? ⟨g, 0 + j, none⟩ = some (.string x) from hcs)
    have E2 := Lib.hid (show Ext w w2 from ((Fr.of_ext (M := fun b => w.heap.size ≤ b) E1.out).trans F2.out).toExt (fun k hk h => by omega))
    clear hcs hv c0 c1 c2 c3
    have hc17 : 17 ≤ cv := hc
    go_loopw [3, 16] (fun q i wr => ∃ (j : Nat) (best : List UInt8), j ≤ 17 ∧ i = .int .i64 j ∧ q = .string (bs best) ∧ Hid ((allOps.take j).foldl (opStep r) [] = best) ∧ best.length ≤ 3 ∧ Ext w2 wr) (fun _ i _ => 17 - (intOf i).toNat)
    case atStart => exact ⟨0, [], by omega, rfl, rfl, Lib.hid rfl, by decide, Ext.refl _⟩
    case round =>
      obtain ⟨j, best, hj, rfl, rfl, HM, hbl, e⟩ := hrel
      by_cases hjl : j < 17
      · obtain ⟨x, hx⟩ : ∃ x, allOps[j]? = some x := ⟨allOps[j]'hjl, List.getElem?_eq_getElem _⟩
        have hcx := e.cell (HC.out j x hx)
        rw [Nat.zero_add] at hcx
        have hx3 := allOps_small hx
        have HN := Lib.hid (op_snoc (r := r) hx)
        rw [HM.out] at HN
        obtain ⟨d0, d1, d2, d3, _⟩ := (HB.out.ext E2.out).ext e
        have k0 := cell_regrown d0
        have k1 := cell_regrown d1
        have hb1 : ((bs best).size : Int) = best.length := by rw [bs_size]
        clear hx d3
        cases hop : decide (0 < opLevelF x.toList)
        · have HN2 : Hid ((allOps.take (j + 1)).foldl (opStep r) [] = best) := Lib.hid (by rw [HN.out]; unfold opStep; rw [hop]; rfl)
          have cQ := quiet_call (w := wr) (fun w' e' => implisOp x w')
          rw [hop] at cQ
          go_wp2_with fail
          refine region_ext (by kernel_rfl) (by kernel_rfl) ?_
          repeat (go_big_quiet_step (exact cQ _ _))
          refine wpQuiet_nil ?_
          intro w3 e3
          go_wp2_with fail
          exact ⟨⟨j + 1, best, by omega, by go_num, by first | rfl | rw [bs_of], HN2, hbl, e.trans e3⟩, by simp [intOf]; omega⟩
        · cases hp : (spaced x.toList).isPrefixOf r
          · have HN2 : Hid ((allOps.take (j + 1)).foldl (opStep r) [] = best) := Lib.hid (by rw [HN.out]; unfold opStep; rw [hop, hp]; rfl)
            have cR := quiet_call (w := wr) (fun w' e' => implopText x w' (by omega))
            have cP := quiet_call (w := wr) (quiet_prefix (bs r) (bs (spaced x.toList)) _ hp wr)
            have cQ := quiet_call (w := wr) (fun w' e' => implisOp x w')
            rw [hop] at cQ
            go_wp2_with fail
            refine region_ext (by kernel_rfl) (by kernel_rfl) ?_
            repeat (go_big_quiet_step (first | exact cQ _ _ | exact cR _ _ | exact cP _ _))
            refine wpQuiet_nil ?_
            intro w3 e3
            go_wp2_with fail
            exact ⟨⟨j + 1, best, by omega, by go_num, by first | rfl | rw [bs_of], HN2, hbl, e.trans e3⟩, by simp [intOf]; omega⟩
          · by_cases hlen : best.length < x.size
            · have HN2 : Hid ((allOps.take (j + 1)).foldl (opStep r) [] = x.toList) := Lib.hid (by rw [HN.out]; unfold opStep; rw [hop, hp, bl_len, decide_eq_true hlen]; rfl)
              have hd : decide (((bs best).size : Int) < (x.size : Int)) = true := by rw [bs_size]; exact decide_eq_true (by omega)
              have hxl : x.toList.length ≤ 3 := by rw [bl_len]; exact hx3
              have cR := quiet_call (w := wr) (fun w' e' => implopText x w' (by omega))
              have cP := quiet_call (w := wr) (quiet_prefix (bs r) (bs (spaced x.toList)) _ hp wr)
              have cQ := quiet_call (w := wr) (fun w' e' => implisOp x w')
              rw [hop] at cQ
              go_wp2_with fail
              refine region_ext (by kernel_rfl) (by kernel_rfl) ?_
              repeat (go_big_quiet_step (first | exact cQ _ _ | exact cR _ _ | exact cP _ _))
              refine wpQuiet_nil ?_
              intro w3 e3
              go_wp2_with fail
              exact ⟨⟨j + 1, x.toList, by omega, by go_num, by first | rfl | rw [bs_of], HN2, hxl, e.trans e3⟩, by simp [intOf]; omega⟩
            · have HN2 : Hid ((allOps.take (j + 1)).foldl (opStep r) [] = best) := Lib.hid (by rw [HN.out]; unfold opStep; rw [hop, hp, bl_len, decide_eq_false hlen]; rfl)
              have hd : decide (((bs best).size : Int) < (x.size : Int)) = false := by rw [bs_size]; exact decide_eq_false (by omega)
              have cR := quiet_call (w := wr) (fun w' e' => implopText x w' (by omega))
              have cP := quiet_call (w := wr) (quiet_prefix (bs r) (bs (spaced x.toList)) _ hp wr)
              have cQ := quiet_call (w := wr) (fun w' e' => implisOp x w')
              rw [hop] at cQ
              go_wp2_with fail
              refine region_ext (by kernel_rfl) (by kernel_rfl) ?_
              repeat (go_big_quiet_step (first | exact cQ _ _ | exact cR _ _ | exact cP _ _))
              refine wpQuiet_nil ?_
              intro w3 e3
              go_wp2_with fail
              exact ⟨⟨j + 1, best, by omega, by go_num, by first | rfl | rw [bs_of], HN2, hbl, e.trans e3⟩, by simp [intOf]; omega⟩
      · have HF := Lib.hid (show opX (some r) = best by
          show opP r = best
          rw [opP_fold, ← HM.out, List.take_of_length_le (by show 17 ≤ j; omega)])
        go_wp2_with fail
        go_ret
        exact ⟨by rw [HF.out]; rfl, E2.out.trans e⟩
end Go.Proofs.YtognkaebiafgbaaGreatDoor

namespace Go.Proofs.YtognkaebiafgbaaGreatDoor
open Go.RowKit
set_option linter.unusedVariables false
theorem op_inv (r : List UInt8) : ∀ (ss : List ByteArray) (best : List UInt8), (best = [] ∨ ((spaced best).isPrefixOf r = true ∧ 0 < opLevelF best)) →
    (ss.foldl (opStep r) best = [] ∨ ((spaced (ss.foldl (opStep r) best)).isPrefixOf r = true ∧ 0 < opLevelF (ss.foldl (opStep r) best)))
  | [], best, h => h
  | s :: ss, best, h => by
    refine op_inv r ss _ ?_
    unfold opStep
    split
    · rename_i hc
      simp only [Bool.and_eq_true, decide_eq_true_eq] at hc
      exact .inr ⟨hc.1.2, hc.1.1⟩
    · exact h
theorem opP_facts {r : List UInt8} (h : opP r ≠ []) : (spaced (opP r)).isPrefixOf r = true ∧ 0 < opLevelF (opP r) := by
  rw [opP_fold] at h ⊢
  rcases op_inv r allOps [] (.inl rfl) with hh | hh
  · exact absurd hh h
  · exact hh
theorem spaced_ge (l : List UInt8) : l.length ≤ (spaced l).length := by
  unfold spaced
  split
  · simp; omega
  · exact Nat.le_refl _
theorem RdW.fwd {rb : Nat} {s : ByteArray} {o : Bool} {w : World} {n : Nat} {r p : List UInt8} (hb : BoxT w rb (.string s) (.int .i64 n) (.int .i64 (-1)) (.bool o)) (hn : n ≤ s.size) (h : s.toList.drop n = r) (hp : p.isPrefixOf r = true) {u : Value} (hu : u = .int .i64 ((n : Int) + p.length)) : RdW rb s o (some (r.drop p.length)) (w.setCell ⟨rb, 1, none⟩ u) := by
  subst hu
  have hl := (List.isPrefixOf_iff_prefix.1 hp).length_le
  have hr := congrArg List.length h
  rw [List.length_drop, bl_len] at hr
  exact RdW.mk (n := n + p.length) (by omega) (by rw [← List.drop_drop, h]) (hb.setAt _)
theorem rdprim (o : Bool) (F : Nat) (hPt : ∀ G, G < F → PartC' o G) (hT : o = true → TerC F) : PriC o (F + 1) := by
  intro rb s deep rest w hs hdeep hL h hF
  by_cases hd : 30 < deep
  · rw [prim_deep hd]
    exact rdprim_fail o F rb s deep rest w hs hdeep h (.inl hd)
  · cases rest with
    | nil =>
      rw [prim_nil]
      exact rdprim_fail o F rb s deep [] w hs hdeep h (.inr rfl)
    | cons b r =>
      simp only [List.length_cons] at hF
      by_cases h0 : b = 0
      · subst h0
        rw [prim_zero]
        exact rdprim_fail o F rb s deep _ w hs hdeep h (.inr rfl)
      · cases hu : isUp b
        · cases hst : numStart (b :: r)
          · by_cases hbo : b = 40 ∧ o = true
            · obtain ⟨rfl, rfl⟩ := hbo
              have e : primF true (F + 1) deep (40 :: r) = brX (termF true F 3 deep r) := by
                rw [primF, if_neg hd]
                simp only [hu, hst, if_false, Bool.false_eq_true, and_self, if_true, show ¬ (40 : UInt8) = 0 by decide]
                cases termF true F 3 deep r with
                | none => rfl
                | some p => obtain ⟨t, q⟩ := p; cases q <;> rfl
              rw [e]
              exact rdprim_br F rb s deep r w hs (by omega) h hL (hT rfl) (by omega)
            · by_cases hli : b = 91 ∧ r.head? ≠ some 93
              · have e : primF o (F + 1) deep (b :: r) = listF o F deep [] r := by
                  rw [primF, if_neg hd]
                  simp only [h0, hu, hst, hbo, if_false, Bool.false_eq_true]
                  rw [if_pos hli]
                rw [e]
                obtain ⟨rfl, hne⟩ := hli
                exact rdprim_list F o rb s deep r w hs (by omega) h hne hL (rdlist o F hPt) (by omega)
              · have e : primF o (F + 1) deep (b :: r) = nmX o F deep (nameP (b :: r)) := by
                  rw [primF, if_neg hd]
                  simp only [h0, hu, hst, hbo, if_false, Bool.false_eq_true]
                  rw [if_neg hli]
                  cases nameP (b :: r) with
                  | none => rfl
                  | some p => obtain ⟨t, q⟩ := p; cases q <;> rfl
                rw [e]
                exact rdprim_name F o rb s deep b r w hs (by omega) h h0 hL hPt (by omega) hu hst hbo hli
          · have e : primF o (F + 1) deep (b :: r) = numP (b :: r) := by
              rw [primF, if_neg hd]
              simp only [h0, hu, hst, if_false, Bool.false_eq_true, if_true]
            rw [e]
            exact rdprim_num o rb s deep b r w hs (by omega) h h0 hL hu hst
        · have e : primF o (F + 1) deep (b :: r) = some (vT b, r) := by
            rw [primF, if_neg hd]
            simp only [h0, hu, if_false, if_true]
          rw [e]
          exact rdprim_up o rb s deep b r w hs (by omega) h h0 hu
end Go.Proofs.YtognkaebiafgbaaGreatDoor
