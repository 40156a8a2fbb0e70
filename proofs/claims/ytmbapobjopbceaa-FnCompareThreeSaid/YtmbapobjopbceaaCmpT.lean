/-
  The comparison of terms, the reference's and the program's.
-/
import Derived.Test.YtmbapobjopbceaaCmpW
import Derived.Test.YtmbapobjopbceaaDraws
namespace Go.Proofs.Ytmbapobjopbceaa
open Go.RowKit
set_option linter.unusedVariables false

def CmpSC (t u : Tm) : Prop := ∀ (v v' : Value) (S S' : Nat → Prop) (w : World), Tm.at S w t v → Tm.at S' w u v' →
  Calls Try.prog 51 #[v, v'] w fun e w' => e = .returned (.int .i64 (cmpS t u)) ∧ Ext w w'
set_option maxRecDepth 100000 in
set_option maxHeartbeats 4000000 in
theorem specl1Compare : ∀ (m : Nat) (t u : Tm), Tm.sz t ≤ m → CmpSC t u := by
  intro m
  induction m with
  | zero => intro t u hm; have := Tm.sz_pos t; omega
  | succ m ih =>
    intro t u hm v v' S S' w ht hu
    obtain ⟨k, n, s, ks⟩ := t
    obtain ⟨k', n', s', ks'⟩ := u
    have IH := Lib.hid (show ∀ (j : Nat) (t u : Tm), ks[j]? = some t → CmpSC t u from fun j t u h => ih t u (by
      have := kid_lt (k := k) (n := n) (s := s) (ks := ks) h; omega))
    clear ih hm
    obtain ⟨hs1, sv, rfl, a, cap, rfl, h1, h2, h3, h4⟩ := ht
    obtain ⟨hs2, sv', rfl, a', cap', rfl, h1', h2', h3', h4'⟩ := hu
    have H4 := Lib.hid h4
    have H4' := Lib.hid h4'
    clear h4 h4'
    have E0 : Hid (Ext w ((w.alloc (.cells #[.int .i64 k, .int .i64 n, .string s, .slice a ks.length cap] 29)).alloc (.cells #[.int .i64 k', .int .i64 n', .string s', .slice a' ks'.length cap'] 29))) := Lib.hid ((Ext.alloc _ _).trans (Ext.alloc _ _))
    obtain ⟨x0, x1, x2, x3, _, _, _, _⟩ := (BoxT.new w (.int .i64 k) (.int .i64 n) (.string s) (.slice a ks.length cap) 29 rfl).ext (Ext.alloc _ (.cells #[.int .i64 k', .int .i64 n', .string s', .slice a' ks'.length cap'] 29))
    obtain ⟨y0, y1, y2, y3, _, _, _, _⟩ := BoxT.new (w.alloc (.cells #[.int .i64 k, .int .i64 n, .string s, .slice a ks.length cap] 29)) (.int .i64 k') (.int .i64 n') (.string s') (.slice a' ks'.length cap') 29 (b := w.heap.size + 1) (by simp)
    have m0 := cell_regrown x0
    have m1 := cell_regrown x1
    have m2 := cell_regrown x2
    have m3 := cell_regrown x3
    have l0 := cell_regrown y0
    have l1 := cell_regrown y1
    have l2 := cell_regrown y2
    have l3 := cell_regrown y3
    by_cases hr : rankS k ks.length = rankS k' ks'.length
    · have hr' : (rankS k ks.length != rankS k' ks'.length) = false := by simp [bne, hr]
      have HR := Lib.hid hr
      clear hr
      by_cases hk : k = 3
      · subst hk
        by_cases hlen : ks.length = ks'.length
        · have HL := Lib.hid hlen
          have hlen' : ((ks.length : Int) != (ks'.length : Int)) = false := by simp [bne, hlen]
          clear hlen
          cases hs : (s.toList == s'.toList)
          · have hf : Hid (cmpS (.mk 3 n s ks) (.mk k' n' s' ks') = cS s s') := Lib.hid (by simp only [cmpS]; rw [if_neg (by rw [HR.out]; simp), if_neg (by simp), if_neg (by rw [HL.out]; simp), if_pos hs])
            go_enter Try.func51, Try.ntmps51
            go_wp2_with fail
            have cA := quiet_call (w := ((w.alloc (.cells #[.int .i64 3, .int .i64 n, .string s, .slice a ks.length cap] 29)).alloc (.cells #[.int .i64 k', .int .i64 n', .string s', .slice a' ks'.length cap'] 29))) (fun w' e' => specl1Rank 3 n s a ks.length cap w')
            have cB := quiet_call (w := ((w.alloc (.cells #[.int .i64 3, .int .i64 n, .string s, .slice a ks.length cap] 29)).alloc (.cells #[.int .i64 k', .int .i64 n', .string s', .slice a' ks'.length cap'] 29))) (fun w' e' => specl1Rank k' n' s' a' ks'.length cap' w')
            refine region_ext (by kernel_rfl) (by kernel_rfl) ?_
            repeat (quiet_step (first | with_reducible exact cA _ _ | with_reducible exact cB _ _))
            refine wpQuiet_nil ?_
            intro wq eq
            have b0 := eq.cell x0
            have b1 := eq.cell x1
            have b2 := eq.cell x2
            have b3 := eq.cell x3
            have c0 := eq.cell y0
            have c1 := eq.cell y1
            have c2 := eq.cell y2
            have c3 := eq.cell y3
            have E := Lib.hid (E0.out.trans eq)
            clear eq m0 m1 m2 m3 l0 l1 l2 l3 cA cB
            go_wp2_with fail
            refine (specl1Before _ _ _).mono ?_
            rintro e w' ⟨rfl, rfl⟩
            go_wp2_with fail
            go_ret
            exact ⟨retI hf.out.symm, E.out⟩
          · have hf : Hid (cmpS (.mk 3 n s ks) (.mk k' n' s' ks') = cmpSL ks ks') := Lib.hid (by simp only [cmpS]; rw [if_neg (by rw [HR.out]; simp), if_neg (by simp), if_neg (by rw [HL.out]; simp), if_neg (by rw [hs]; simp)])
            go_enter Try.func51, Try.ntmps51
            go_wp2_with fail
            have cA := quiet_call (w := ((w.alloc (.cells #[.int .i64 3, .int .i64 n, .string s, .slice a ks.length cap] 29)).alloc (.cells #[.int .i64 k', .int .i64 n', .string s', .slice a' ks'.length cap'] 29))) (fun w' e' => specl1Rank 3 n s a ks.length cap w')
            have cB := quiet_call (w := ((w.alloc (.cells #[.int .i64 3, .int .i64 n, .string s, .slice a ks.length cap] 29)).alloc (.cells #[.int .i64 k', .int .i64 n', .string s', .slice a' ks'.length cap'] 29))) (fun w' e' => specl1Rank k' n' s' a' ks'.length cap' w')
            refine region_ext (by kernel_rfl) (by kernel_rfl) ?_
            repeat (quiet_step (first | with_reducible exact cA _ _ | with_reducible exact cB _ _))
            refine wpQuiet_nil ?_
            intro wq eq
            have b0 := eq.cell x0
            have b1 := eq.cell x1
            have b2 := eq.cell x2
            have b3 := eq.cell x3
            have c0 := eq.cell y0
            have c1 := eq.cell y1
            have c2 := eq.cell y2
            have c3 := eq.cell y3
            have E := Lib.hid (E0.out.trans eq)
            clear eq m0 m1 m2 m3 l0 l1 l2 l3 cA cB
            go_wp2_with fail
            go_loopw [5, 6] (fun i _ wr => ∃ j : Nat, j ≤ ks.length ∧ i = .int .i64 j ∧ Hid (cmpSL ks ks' = cmpSL (ks.drop j) (ks'.drop j)) ∧ Hid (Ext wq wr)) (fun i _ _ => ks.length - (intOf i).toNat)
            case atStart => exact ⟨0, Nat.zero_le _, rfl, Lib.hid (by simp), Lib.hid (Ext.refl _)⟩
            case round =>
              obtain ⟨j, hj, rfl, HS, HE⟩ := hrel
              have b3 := HE.out.cell b3
              have c3 := HE.out.cell c3
              by_cases hlt : j < ks.length
              · have hlt' : j < ks'.length := by have := HL.out; omega
                obtain ⟨tk, htk⟩ := getk hlt
                obtain ⟨uk, huk⟩ := getk hlt'
                have HEW := Lib.hid (E.out.trans HE.out)
                obtain ⟨bb, off, bb', off', ak, ck, ak', ck', rfl, rfl, ⟨d1, d2, d3, d4, hat⟩, ⟨f1, f2, f3, f4, hat'⟩⟩ := pair_get H4.out H4'.out htk huk HEW.out
                have k1 := cell_regrown d1
                have k2 := cell_regrown d2
                have k3 := cell_regrown d3
                have k4 := cell_regrown d4
                have q1 := cell_regrown f1
                have q2 := cell_regrown f2
                have q3 := cell_regrown f3
                have q4 := cell_regrown f4
                have p1 := cell_regrown b3
                have p2 := cell_regrown c3
                have cQ := quiet_call (w := wr) (fun w' e' => IH.out j tk uk htk _ _ S S' w' (Tm.at_ext (HEW.out.trans e') hat) (Tm.at_ext (HEW.out.trans e') hat'))
                have HST := Lib.hid (cmpSL_step htk huk)
                clear htk huk hat hat' d1 d2 d3 d4 f1 f2 f3 f4
                by_cases hz : cmpS tk uk = 0
                · have hz' : (cmpS tk uk != 0) = false := by simp [bne, hz]
                  have hg : Hid (cmpSL ks ks' = cmpSL (ks.drop (j + 1)) (ks'.drop (j + 1))) := Lib.hid (by rw [HS.out, HST.out, hz, orI_0])
                  clear hz
                  go_wp2_with fail
                  refine region_ext (by kernel_rfl) (by kernel_rfl) ?_
                  repeat (quiet_step (exact cQ _ _))
                  refine wpQuiet_nil ?_
                  intro wz ez
                  go_wp2_with fail
                  go_roundw
                  case rel => exact ⟨j + 1, by omega, by go_num, hg, Lib.hid (HE.out.trans ez)⟩
                  case measure => simp [intOf]; omega
                · have hz' : (cmpS tk uk != 0) = true := by simp [bne, hz]
                  have hg : Hid (cmpSL ks ks' = cmpS tk uk) := Lib.hid (by rw [HS.out, HST.out, orI_ne hz])
                  clear hz
                  go_wp2_with fail
                  refine region_ext (by kernel_rfl) (by kernel_rfl) ?_
                  repeat (quiet_step (exact cQ _ _))
                  refine wpQuiet_nil ?_
                  intro wz ez
                  go_wp2_with fail
                  go_ret
                  exact ⟨retI (by rw [hf.out, hg.out]), HEW.out.trans ez⟩
              · have hg : Hid (cmpSL ks ks' = 0) := Lib.hid (by rw [HS.out, cmpSL_end (by omega)])
                go_wp2_with fail
                go_ret
                exact ⟨retI (by rw [hf.out, hg.out]), E.out.trans HE.out⟩
        · have hf : Hid (cmpS (.mk 3 n s ks) (.mk k' n' s' ks') = cI ks.length ks'.length) := Lib.hid (by simp only [cmpS]; rw [if_neg (by rw [HR.out]; simp), if_neg (by simp), if_pos hlen])
          have hlen' : ((ks.length : Int) != (ks'.length : Int)) = true := by simp [bne]; omega
          clear hlen
          go_enter Try.func51, Try.ntmps51
          go_wp2_with fail
          have cA := quiet_call (w := ((w.alloc (.cells #[.int .i64 3, .int .i64 n, .string s, .slice a ks.length cap] 29)).alloc (.cells #[.int .i64 k', .int .i64 n', .string s', .slice a' ks'.length cap'] 29))) (fun w' e' => specl1Rank 3 n s a ks.length cap w')
          have cB := quiet_call (w := ((w.alloc (.cells #[.int .i64 3, .int .i64 n, .string s, .slice a ks.length cap] 29)).alloc (.cells #[.int .i64 k', .int .i64 n', .string s', .slice a' ks'.length cap'] 29))) (fun w' e' => specl1Rank k' n' s' a' ks'.length cap' w')
          refine region_ext (by kernel_rfl) (by kernel_rfl) ?_
          repeat (quiet_step (first | with_reducible exact cA _ _ | with_reducible exact cB _ _))
          refine wpQuiet_nil ?_
          intro wq eq
          have b0 := eq.cell x0
          have b1 := eq.cell x1
          have b2 := eq.cell x2
          have b3 := eq.cell x3
          have c0 := eq.cell y0
          have c1 := eq.cell y1
          have c2 := eq.cell y2
          have c3 := eq.cell y3
          have E := Lib.hid (E0.out.trans eq)
          clear eq m0 m1 m2 m3 l0 l1 l2 l3 cA cB
          go_wp2_with fail
          refine (specl1Less _ _ _).mono ?_
          rintro e w' ⟨rfl, rfl⟩
          go_wp2_with fail
          go_ret
          exact ⟨retI hf.out.symm, E.out⟩
      · have hf : Hid (cmpS (.mk k n s ks) (.mk k' n' s' ks') = cI n n') := Lib.hid (by simp only [cmpS]; rw [if_neg (by rw [HR.out]; simp), if_pos hk])
        have hk' : (k != 3) = true := by simp [bne, hk]
        clear hk
        go_enter Try.func51, Try.ntmps51
        go_wp2_with fail
        have cA := quiet_call (w := ((w.alloc (.cells #[.int .i64 k, .int .i64 n, .string s, .slice a ks.length cap] 29)).alloc (.cells #[.int .i64 k', .int .i64 n', .string s', .slice a' ks'.length cap'] 29))) (fun w' e' => specl1Rank k n s a ks.length cap w')
        have cB := quiet_call (w := ((w.alloc (.cells #[.int .i64 k, .int .i64 n, .string s, .slice a ks.length cap] 29)).alloc (.cells #[.int .i64 k', .int .i64 n', .string s', .slice a' ks'.length cap'] 29))) (fun w' e' => specl1Rank k' n' s' a' ks'.length cap' w')
        refine region_ext (by kernel_rfl) (by kernel_rfl) ?_
        repeat (quiet_step (first | with_reducible exact cA _ _ | with_reducible exact cB _ _))
        refine wpQuiet_nil ?_
        intro wq eq
        have b0 := eq.cell x0
        have b1 := eq.cell x1
        have b2 := eq.cell x2
        have b3 := eq.cell x3
        have c0 := eq.cell y0
        have c1 := eq.cell y1
        have c2 := eq.cell y2
        have c3 := eq.cell y3
        have E := Lib.hid (E0.out.trans eq)
        clear eq m0 m1 m2 m3 l0 l1 l2 l3 cA cB
        go_wp2_with fail
        refine (specl1Less _ _ _).mono ?_
        rintro e w' ⟨rfl, rfl⟩
        go_wp2_with fail
        go_ret
        exact ⟨retI hf.out.symm, E.out⟩
    · have hf : Hid (cmpS (.mk k n s ks) (.mk k' n' s' ks') = cI (rankS k ks.length) (rankS k' ks'.length)) := Lib.hid (by simp only [cmpS]; rw [if_pos hr])
      have hr' : (rankS k ks.length != rankS k' ks'.length) = true := by simp [bne, hr]
      clear hr
      go_enter Try.func51, Try.ntmps51
      go_wp2_with fail
      have cA := quiet_call (w := ((w.alloc (.cells #[.int .i64 k, .int .i64 n, .string s, .slice a ks.length cap] 29)).alloc (.cells #[.int .i64 k', .int .i64 n', .string s', .slice a' ks'.length cap'] 29))) (fun w' e' => specl1Rank k n s a ks.length cap w')
      have cB := quiet_call (w := ((w.alloc (.cells #[.int .i64 k, .int .i64 n, .string s, .slice a ks.length cap] 29)).alloc (.cells #[.int .i64 k', .int .i64 n', .string s', .slice a' ks'.length cap'] 29))) (fun w' e' => specl1Rank k' n' s' a' ks'.length cap' w')
      refine region_ext (by kernel_rfl) (by kernel_rfl) ?_
      repeat (quiet_step (first | with_reducible exact cA _ _ | with_reducible exact cB _ _))
      refine wpQuiet_nil ?_
      intro wq eq
      have b0 := eq.cell x0
      have b1 := eq.cell x1
      have b2 := eq.cell x2
      have b3 := eq.cell x3
      have c0 := eq.cell y0
      have c1 := eq.cell y1
      have c2 := eq.cell y2
      have c3 := eq.cell y3
      have E := Lib.hid (E0.out.trans eq)
      clear eq m0 m1 m2 m3 l0 l1 l2 l3 cA cB
      have m0 := cell_regrown b0
      have m1 := cell_regrown b1
      have m2 := cell_regrown b2
      have m3 := cell_regrown b3
      have l0 := cell_regrown c0
      have l1 := cell_regrown c1
      have l2 := cell_regrown c2
      have l3 := cell_regrown c3
      go_wp2_with fail
      refine region_ext (by kernel_rfl) (by kernel_rfl) ?_
      have cA := quiet_call (w := wq) (fun w' e' => specl1Rank k n s a ks.length cap w')
      have cB := quiet_call (w := wq) (fun w' e' => specl1Rank k' n' s' a' ks'.length cap' w')
      have cC := quiet_call (w := wq) (fun w' e' => (specl1Less (rankS k ks.length) (rankS k' ks'.length) w').mono (by rintro e w'' ⟨h1, h2⟩; exact ⟨h1, h2 ▸ Ext.refl _⟩))
      repeat (quiet_step (first | with_reducible exact cA _ _ | with_reducible exact cB _ _ | with_reducible exact cC _ _))
      refine wpQuiet_nil ?_
      intro wz ez
      go_wp2_with fail
      go_ret
      exact ⟨retI hf.out.symm, E.out.trans ez⟩

set_option maxRecDepth 100000 in
set_option maxHeartbeats 4000000 in
theorem implcompare : ∀ (m : Nat) (t u : Tm) (v v' : Value) (S S' : Nat → Prop) (w : World), Tm.sz t ≤ m → Tm.at S w t v → Tm.at S' w u v' →
    Calls Try.prog 52 #[v, v'] w fun e w' => e = .returned (.int .i64 (cmpF t u)) ∧ Ext w w' := by
  intro m
  induction m with
  | zero => intro t u v v' S S' w hm; have := Tm.sz_pos t; omega
  | succ m ih =>
    intro t u v v' S S' w hm ht hu
    have IH := Lib.hid ih
    clear ih
    obtain ⟨k, n, s, ks⟩ := t
    obtain ⟨k', n', s', ks'⟩ := u
    obtain ⟨hs1, sv, rfl, hk⟩ := ht
    obtain ⟨hs2, sv', rfl, hk'⟩ := hu
    have hlt : ∀ (j : Nat) (t : Tm), ks[j]? = some t → Tm.sz t ≤ m := fun j t h => by have := kid_lt (k := k) (n := n) (s := s) h; omega
    have HLT := Lib.hid hlt
    have HK := Lib.hid hk
    have HK' := Lib.hid hk'
    obtain ⟨a, cap, rfl, h1, h2, h3, h4⟩ := hk
    obtain ⟨a', cap', rfl, h1', h2', h3', h4'⟩ := hk'
    clear h4 h4' hm hlt
    have HC := Lib.hid (fun w' (e' : Ext w w') => slicesCompareFunc ks ks' _ _ S S' w' (Tm.sl_ext e' HK.out) (Tm.sl_ext e' HK'.out) (Lib.hid fun j t u vt vu w2 ht hu he h1 h2 => IH.out t u vt vu S S' w2 (HLT.out j t ht) h1 h2))
    have E0 : Hid (Ext w ((w.alloc (.cells #[.int .i64 k, .int .i64 n, .string s, .slice a ks.length cap] 29)).alloc (.cells #[.int .i64 k', .int .i64 n', .string s', .slice a' ks'.length cap'] 29))) := Lib.hid ((Ext.alloc _ _).trans (Ext.alloc _ _))
    obtain ⟨x0, x1, x2, x3, _, _, _, _⟩ := (BoxT.new w (.int .i64 k) (.int .i64 n) (.string s) (.slice a ks.length cap) 29 rfl).ext (Ext.alloc _ (.cells #[.int .i64 k', .int .i64 n', .string s', .slice a' ks'.length cap'] 29))
    obtain ⟨y0, y1, y2, y3, _, _, _, _⟩ := BoxT.new (w.alloc (.cells #[.int .i64 k, .int .i64 n, .string s, .slice a ks.length cap] 29)) (.int .i64 k') (.int .i64 n') (.string s') (.slice a' ks'.length cap') 29 (b := w.heap.size + 1) (by simp)
    have hfin : Hid (cmpF (.mk k n s ks) (.mk k' n' s' ks') = orL [cI (rankF k ks.length) (rankF k' ks'.length), cI n n', cI ks.length ks'.length, cS s s', cmpL ks ks']) := Lib.hid (by simp only [cmpF, orL, orI_r0])
    have e0 : Ext ((w.alloc (.cells #[.int .i64 k, .int .i64 n, .string s, .slice a ks.length cap] 29)).alloc (.cells #[.int .i64 k', .int .i64 n', .string s', .slice a' ks'.length cap'] 29)) ((w.alloc (.cells #[.int .i64 k, .int .i64 n, .string s, .slice a ks.length cap] 29)).alloc (.cells #[.int .i64 k', .int .i64 n', .string s', .slice a' ks'.length cap'] 29)) := Ext.refl _
    go_enter Try.func52, Try.ntmps52
    go_wp2_with fail
    go_region_held3 (fun w' => Ext ((w.alloc (.cells #[.int .i64 k, .int .i64 n, .string s, .slice a ks.length cap] 29)).alloc (.cells #[.int .i64 k', .int .i64 n', .string s', .slice a' ks'.length cap'] 29)) w' ∧ w'.cell? ⟨w.heap.size, 0, none⟩ = some (.int .i64 k) ∧ w'.cell? ⟨w.heap.size, 1, none⟩ = some (.int .i64 n) ∧ w'.cell? ⟨w.heap.size, 2, none⟩ = some (.string s) ∧ w'.cell? ⟨w.heap.size, 3, none⟩ = some (.slice a ks.length cap) ∧
        w'.cell? ⟨w.heap.size + 1, 0, none⟩ = some (.int .i64 k') ∧ w'.cell? ⟨w.heap.size + 1, 1, none⟩ = some (.int .i64 n') ∧ w'.cell? ⟨w.heap.size + 1, 2, none⟩ = some (.string s') ∧ w'.cell? ⟨w.heap.size + 1, 3, none⟩ = some (.slice a' ks'.length cap'))
      ((refine ⟨?_, ?_, ?_, ?_, ?_, ?_, ?_, ?_, ?_⟩ <;> first | with_reducible assumption | with_reducible exact Ext.drew _ | (with_reducible (apply Ext.trans'; assumption; assumption)) | (with_reducible (apply Ext.cell; assumption; assumption)) | (with_reducible (apply Ext.trans'; apply Ext.alloc; assumption)) | (with_reducible (apply Ext.cell; apply Ext.alloc; assumption)) | go_simp))
      ((first
        | (go_at_call_of 86 (Value.string s); refine (implrank k n s a ks.length cap _).mono ?_; rintro e w1 ⟨rfl, e1⟩; (try replace e1 := Ext.undrew e1); have z0 := e1.cell x0; have z1 := e1.cell x1; have z2 := e1.cell x2; have z3 := e1.cell x3; have z4 := e1.cell y0; have z5 := e1.cell y1; have z6 := e1.cell y2; have z7 := e1.cell y3)
        | (go_at_call_of 86 (Value.string s'); refine (implrank k' n' s' a' ks'.length cap' _).mono ?_; rintro e w2 ⟨rfl, e2⟩; (try replace e2 := Ext.undrew e2); have e12 := e1.trans e2; have r0 := e2.cell z0; have r1 := e2.cell z1; have r2 := e2.cell z2; have r3 := e2.cell z3; have r4 := e2.cell z4; have r5 := e2.cell z5; have r6 := e2.cell z6; have r7 := e2.cell z7)
        | (go_at_call 85; refine (cmpCompareI _ _ _).mono ?_; rintro e w' ⟨rfl, rfl⟩)
        | (go_at_call 87; refine (cmpCompareS _ _ _).mono ?_; rintro e w' ⟨rfl, rfl⟩)
        | (go_at_call 88; refine (HC.out _ ?_).mono ?_; (exact E0.out.trans e12); rintro e w3 ⟨rfl, e3⟩; have e13 := e12.trans e3; have t0 := e3.cell r0; have t1 := e3.cell r1; have t2 := e3.cell r2; have t3 := e3.cell r3; have t4 := e3.cell r4; have t5 := e3.cell r5; have t6 := e3.cell r6; have t7 := e3.cell r7)
        | (go_at_call 84; refine (cmpOrI [cI (rankF k ks.length) (rankF k' ks'.length), cI n n', cI ks.length ks'.length, cS s s', cmpL ks ks'] _ _ (ints_at_new _ 5 rfl _ _ _ rfl (by decide))).mono ?_; rintro e w' ⟨rfl, rfl⟩)
        | fail))
    go_wp2_with fail
    go_ret
    exact ⟨retI hfin.out.symm, (E0.out.trans e13).trans (Ext.alloc _ _)⟩

/-- what CompareTerms returns -/
def ctF (t u : Tm) : Int := if (validF t && validF u) = true then cmpF t u else 0

set_option maxRecDepth 100000 in
set_option maxHeartbeats 2000000 in
theorem implCompareTerms (t u : Tm) (v v' : Value) (S S' : Nat → Prop) (w : World) (ht : Tm.at S w t v) (hu : Tm.at S' w u v') : Calls Try.prog 18 #[v, v'] w fun e w' => e = .returned (.int .i64 (ctF t u)) ∧ Ext w w' := by
  obtain ⟨a, cap, rfl⟩ := at_form ht
  obtain ⟨a', cap', rfl⟩ := at_form hu
  have e0 := (Ext.alloc w (.cells #[.int .i64 t.kind, .int .i64 t.n, .string t.name, .slice a t.kids.length cap] 29)).trans (Ext.alloc _ (.cells #[.int .i64 u.kind, .int .i64 u.n, .string u.name, .slice a' u.kids.length cap'] 29))
  have X := Lib.hid ((BoxT.new w (.int .i64 t.kind) (.int .i64 t.n) (.string t.name) (.slice a t.kids.length cap) 29 rfl).ext (Ext.alloc _ (.cells #[.int .i64 u.kind, .int .i64 u.n, .string u.name, .slice a' u.kids.length cap'] 29)))
  have Y := Lib.hid (BoxT.new (w.alloc (.cells #[.int .i64 t.kind, .int .i64 t.n, .string t.name, .slice a t.kids.length cap] 29)) (.int .i64 u.kind) (.int .i64 u.n) (.string u.name) (.slice a' u.kids.length cap') 29 (b := w.heap.size + 1) (by simp))
  have V := Lib.hid (Tm.at_ext e0 ht)
  have U := Lib.hid (Tm.at_ext e0 hu)
  have E := Lib.hid e0
  clear ht hu e0
  cases hv : validF t
  all_goals
    have HV := Lib.hid hv
    clear hv
    go_enter Try.func18, Try.ntmps18
    go_wp2_with fail
    refine (implTermValid t _ _ _ V.out).mono ?_
    rw [HV.out]
    rintro e w1 ⟨rfl, e1⟩
    obtain ⟨b0, b1, b2, b3, _, _, _, _⟩ := X.out.ext e1
    obtain ⟨c0, c1, c2, c3, _, _, _, _⟩ := Y.out.ext e1
    have V := Lib.hid (Tm.at_ext e1 V.out)
    have U := Lib.hid (Tm.at_ext e1 U.out)
    have E := Lib.hid (E.out.trans e1)
    clear e1
  · go_wp2_with fail
    go_ret
    exact ⟨retI (by unfold ctF; rw [HV.out]; rfl), E.out⟩
  · cases hu : validF u
    all_goals
      have HU := Lib.hid hu
      clear hu
      go_wp2_with fail
      refine (implTermValid u _ _ _ U.out).mono ?_
      rw [HU.out]
      rintro e w2 ⟨rfl, e2⟩
      have b0 := e2.cell b0
      have b1 := e2.cell b1
      have b2 := e2.cell b2
      have b3 := e2.cell b3
      have c0 := e2.cell c0
      have c1 := e2.cell c1
      have c2 := e2.cell c2
      have c3 := e2.cell c3
      have V := Lib.hid (Tm.at_ext e2 V.out)
      have U := Lib.hid (Tm.at_ext e2 U.out)
      have E := Lib.hid (E.out.trans e2)
      clear e2
    · go_wp2_with fail
      go_ret
      exact ⟨retI (by unfold ctF; rw [HV.out, HU.out]; rfl), E.out⟩
    · have HF : Hid (ctF t u = cmpF t u) := Lib.hid (by unfold ctF; rw [HV.out, HU.out]; rfl)
      go_wp2_with fail
      refine (implcompare _ t u _ _ _ _ _ (Nat.le_refl _) V.out U.out).mono ?_
      rintro e w3 ⟨rfl, e3⟩
      go_wp2_with fail
      go_ret
      exact ⟨retI HF.out.symm, E.out.trans e3⟩

set_option maxRecDepth 100000 in
set_option maxHeartbeats 2000000 in
theorem specCompareTerms (t u : Tm) (v v' : Value) (S S' : Nat → Prop) (w : World) (ht : Tm.at S w t v) (hu : Tm.at S' w u v') : Calls Try.prog 16 #[v, v'] w fun e w' => e = .returned (.int .i64 (ctF t u)) ∧ Ext w w' := by
  obtain ⟨a, cap, rfl⟩ := at_form ht
  obtain ⟨a', cap', rfl⟩ := at_form hu
  have e0 := (Ext.alloc w (.cells #[.int .i64 t.kind, .int .i64 t.n, .string t.name, .slice a t.kids.length cap] 29)).trans (Ext.alloc _ (.cells #[.int .i64 u.kind, .int .i64 u.n, .string u.name, .slice a' u.kids.length cap'] 29))
  have X := Lib.hid ((BoxT.new w (.int .i64 t.kind) (.int .i64 t.n) (.string t.name) (.slice a t.kids.length cap) 29 rfl).ext (Ext.alloc _ (.cells #[.int .i64 u.kind, .int .i64 u.n, .string u.name, .slice a' u.kids.length cap'] 29)))
  have Y := Lib.hid (BoxT.new (w.alloc (.cells #[.int .i64 t.kind, .int .i64 t.n, .string t.name, .slice a t.kids.length cap] 29)) (.int .i64 u.kind) (.int .i64 u.n) (.string u.name) (.slice a' u.kids.length cap') 29 (b := w.heap.size + 1) (by simp))
  have V := Lib.hid (Tm.at_ext e0 ht)
  have U := Lib.hid (Tm.at_ext e0 hu)
  have E := Lib.hid e0
  clear ht hu e0
  cases hv : validF t
  all_goals
    have HV := Lib.hid hv
    clear hv
    go_enter Try.func16, Try.ntmps16
    go_wp2_with fail
    refine (specTermValid t _ _ _ V.out).mono ?_
    rw [HV.out]
    rintro e w1 ⟨rfl, e1⟩
    obtain ⟨b0, b1, b2, b3, _, _, _, _⟩ := X.out.ext e1
    obtain ⟨c0, c1, c2, c3, _, _, _, _⟩ := Y.out.ext e1
    have V := Lib.hid (Tm.at_ext e1 V.out)
    have U := Lib.hid (Tm.at_ext e1 U.out)
    have E := Lib.hid (E.out.trans e1)
    clear e1
  · go_wp2_with fail
    go_ret
    exact ⟨retI (by unfold ctF; rw [HV.out]; rfl), E.out⟩
  · cases hu : validF u
    all_goals
      have HU := Lib.hid hu
      clear hu
      go_wp2_with fail
      refine (specTermValid u _ _ _ U.out).mono ?_
      rw [HU.out]
      rintro e w2 ⟨rfl, e2⟩
      have b0 := e2.cell b0
      have b1 := e2.cell b1
      have b2 := e2.cell b2
      have b3 := e2.cell b3
      have c0 := e2.cell c0
      have c1 := e2.cell c1
      have c2 := e2.cell c2
      have c3 := e2.cell c3
      have V := Lib.hid (Tm.at_ext e2 V.out)
      have U := Lib.hid (Tm.at_ext e2 U.out)
      have E := Lib.hid (E.out.trans e2)
      clear e2
    · go_wp2_with fail
      go_ret
      exact ⟨retI (by unfold ctF; rw [HV.out, HU.out]; rfl), E.out⟩
    · have HF : Hid (ctF t u = cmpS t u) := Lib.hid (by unfold ctF; rw [HV.out, HU.out]; exact (cmp_eq t u 30 30 (valid_shape HV.out) (valid_shape HU.out)).symm)
      go_wp2_with fail
      refine (specl1Compare _ t u (Nat.le_refl _) _ _ _ _ _ V.out U.out).mono ?_
      rintro e w3 ⟨rfl, e3⟩
      go_wp2_with fail
      go_ret
      exact ⟨retI HF.out.symm, E.out.trans e3⟩

end Go.Proofs.Ytmbapobjopbceaa
