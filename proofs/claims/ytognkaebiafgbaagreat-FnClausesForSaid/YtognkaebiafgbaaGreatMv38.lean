/-
  The reference's ParseClause.
-/
import Derived.Test.YtognkaebiafgbaaGreatMv34
import Derived.Test.YtognkaebiafgbaaGreatMv35
import Derived.Test.YtognkaebiafgbaaGreatMv37
namespace Go.Proofs.YtognkaebiafgbaaGreat
open Go.RowKit
set_option linter.unusedVariables false
theorem body_no {rd : List UInt8 → Option (Tm × List UInt8)} {n : Nat} {r : List UInt8} (h : hdB (isB 58) (some r) = false) : bodyG rd n r = some ([], r) := by
  unfold bodyG
  split
  · exact absurd h (by simp [hdB, isB])
  · rfl
theorem body_no2 {rd : List UInt8 → Option (Tm × List UInt8)} {n : Nat} {r : List UInt8} (h : hdB (isB 45) (some r) = false) : bodyG rd n (58 :: r) = some ([], 58 :: r) := by
  unfold bodyG
  split
  · rename_i heq
    simp only [List.cons.injEq, true_and] at heq
    rw [heq] at h
    exact absurd h (by simp [hdB, isB])
  · rfl
noncomputable def parseCT (s : ByteArray) : Cl := (parseC s).getD zCl
noncomputable def parseCB (s : ByteArray) : Bool := (parseC s).isSome
theorem parseC_some {s : ByteArray} {c : Cl} (hk : s.size ≤ 1000) (h : parseClO s.toList = some c) : parseCT s = c ∧ parseCB s = true := by
  have e : parseC s = some c := by unfold parseC; rw [if_pos hk]; exact h
  exact ⟨by unfold parseCT; rw [e]; rfl, by unfold parseCB; rw [e]; rfl⟩
theorem parseC_no {s : ByteArray} (h : parseC s = none) : parseCT s = ⟨.mk 0 0 ⟨#[]⟩ [], []⟩ ∧ parseCB s = false := ⟨by unfold parseCT; rw [h]; rfl, by unfold parseCB; rw [h]; rfl⟩
theorem parseC_none {s : ByteArray} (h : parseClO s.toList = none) : parseCT s = ⟨.mk 0 0 ⟨#[]⟩ [], []⟩ ∧ parseCB s = false := parseC_no (by unfold parseC; split; exact h; rfl)
set_option maxRecDepth 100000 in
set_option maxHeartbeats 16000000 in
theorem specParseClause (s : ByteArray) (w : World) (hs' : s.size ≤ 1048576) : Calls Tryz.prog 61 #[.string s] w (ClTwo (parseCT s) (parseCB s) w) := by
  have ZR := Lib.hid (show BoxCZ (w.alloc (.cells #[.int .i64 0, .int .i64 0, .string ⟨#[]⟩, .slice none 0 0, .slice none 0 0] 38)) w.heap.size from BoxC.new w _ _ _ _ _ 38 rfl)
  have ZE := Lib.hid (Ext.alloc w (.cells #[.int .i64 0, .int .i64 0, .string ⟨#[]⟩, .slice none 0 0, .slice none 0 0] 38))
  by_cases hk : s.size ≤ 1000
  · have hk1 : ¬ (1000 : Int) < (s.size : Int) := by omega
    obtain ⟨F, hF, hx⟩ := spec_fuel s
    have HX := Lib.hid hx
    have HNO := Lib.hid (fun h => parseC_none (s := s) h)
    have HA0 := Lib.hid (show AtR s (some s.toList) 0 from AtR.mk (n := 0) (Nat.zero_le _) rfl)
    have C := Lib.hid (rd_all F s s.toList 0 30 3 (w.alloc (.cells #[.int .i64 0, .int .i64 0, .string ⟨#[]⟩, .slice none 0 0, .slice none 0 0] 38)) hk (by omega) (by omega) HA0.out (by rw [bl_len]; omega))
    clear hx
    go_enter Tryz.func61, Tryz.ntmps61
    go_wp2_with fail
    refine C.out.mono ?_
    rintro e w1 ⟨t, ta, tc, i1, rfl, hat1, e1, ha1, hX1⟩
    have s1 : w.heap.size + 1 ≤ w1.heap.size := by have := Below.size e1; simpa using this
    have E1 := Lib.hid (ZE.out.trans (e1.trans (Ext.alloc w1 (.cells #[.int .i64 t.kind, .int .i64 t.n, .string t.name, .slice ta t.kids.length tc] 26))))
    have R1 := Lib.hid ((ZR.out.ext e1).ext (Ext.alloc w1 (.cells #[.int .i64 t.kind, .int .i64 t.n, .string t.name, .slice ta t.kids.length tc] 26)))
    have B1 := Lib.hid (BoxT.new w1 (.int .i64 t.kind) (.int .i64 t.n) (.string t.name) (.slice ta t.kids.length tc) 26 rfl)
    have T1 := Lib.hid (Tm.at_ext (Ext.alloc w1 (.cells #[.int .i64 t.kind, .int .i64 t.n, .string t.name, .slice ta t.kids.length tc] 26)) (Tm.at_mono (S' := fun b => w.heap.size + 1 ≤ b ∧ b < w1.heap.size) (fun b hb => ⟨by have := hb.1; simp at this; omega, hb.2⟩) (Agree.refl _) (Tm.at_bound hat1)))
    have A1 := Lib.hid ha1
    have X1 := Lib.hid hX1
    have l1 := ha1.le hs'
    clear hat1 e1 ha1 hX1
    go_upto_region 4 with (fail)
    obtain ⟨w2, hw2⟩ : ∃ z, z = w1.alloc (.cells #[.int .i64 t.kind, .int .i64 t.n, .string t.name, .slice ta t.kids.length tc] 26) := ⟨_, rfl⟩
    have S2 := Lib.hid (show w2.heap.size = w1.heap.size + 1 by rw [hw2]; simp)
    rw [← hw2] at E1 R1 B1 T1 ⊢
    clear hw2
    cases hr : rdF F 30 3 s.toList with
    | none =>
      rw [hr] at A1
      have hneg : i1 < 0 := A1.out.bad.1
      have HN := Lib.hid (HNO.out (by
        cases e : parseClO s.toList with
        | none => rfl
        | some c0 => 
          have h1 := HX.out c0 e
          unfold clauseG at h1
          rw [hr] at h1
          cases h1))
      clear hr
      have bz := R1.out
      obtain ⟨z0, z1, z2, z3, z4, y0, y1, y2, y3, y4⟩ := bz
      have lz9 := R1.out.lt
      go_wp2_with fail
      refine ret5b_set (p := 2) (q := 3) (T := 38) (b := w.heap.size) (v0 := .int .i64 0) (v1 := .int .i64 0) (v2 := .string ⟨#[]⟩) (v3 := .slice none 0 0) (v4 := .slice none 0 0) (y := .bool false) (by kernel_rfl) (fun _ => by kernel_rfl) (fun _ => by kernel_rfl) rfl rfl rfl R1.out ?_
      intro Z fZ
      have sZ := fZ.size
      have eZ : Ext w Z := ((Fr.of_ext E1.out).trans fZ).toExt (fun q hq h => by omega)
      rw [HN.out.1, HN.out.2]
      exact ⟨_, rfl, cl_zero (Below.size eZ), eZ⟩
    | some p =>
      obtain ⟨t', r⟩ := p
      have htl := X1.out t' r hr
      subst htl
      have HR := Lib.hid hr
      rw [hr] at A1
      have hpos : ¬ i1 < 0 := by obtain ⟨n1, rfl, _⟩ := A1.out.good; omega
      have h0 : s.toList ≠ [] := by
        intro e
        have hl := (sl_all F).1 _ _ _ _ _ hr
        rw [e] at hl
        exact absurd hl (Nat.not_lt_zero _)
      have hsz : 0 < s.size := by rw [← bl_len]; exact List.length_pos_iff.2 h0
      have bm := B1.out
      obtain ⟨m0, m1, m2, m3, _, _, _, _⟩ := bm
      have lm9 := B1.out.lt
      clear hr
      go_upto_region 7 with (fail)
      have s2 := S2.out
      obtain ⟨cb, hcb⟩ : ∃ z, z = w2.heap.size := ⟨_, rfl⟩
      obtain ⟨w3, hw3⟩ : ∃ z, z = w2.alloc (.cells #[.int .i64 t.kind, .int .i64 t.n, .string t.name, .slice ta t.kids.length tc, .slice none 0 0] 38) := ⟨_, rfl⟩
      have e3 : Ext w2 w3 := by rw [hw3]; exact Ext.alloc _ _
      have C3 := Lib.hid (show BoxC w3 cb (.int .i64 t.kind) (.int .i64 t.n) (.string t.name) (.slice ta t.kids.length tc) (.slice none 0 0) by rw [hw3]; exact BoxC.new _ _ _ _ _ _ 38 hcb)
      have hcb2 : w1.heap.size + 1 = cb := by omega
      rw [← hw3]
      have E3 := Lib.hid (E1.out.trans e3)
      have R3 := Lib.hid (R1.out.ext e3)
      have T3 := Lib.hid (Tm.at_ext e3 T1.out)
      clear hw3 e3 m0 m1 m2 m3
      have hwc : w.heap.size < cb := by omega
      have hw1c : w1.heap.size < cb := by omega
      first | rw [← hcb] | rw [hcb2] | skip
      clear s2 S2 hcb hcb2
      have SGA := fun w' => signX A1.out 58 58 rfl w' hs'
      cases h58 : hdB (isB 58) (some r)
      · have SGA := Lib.hid (fun w' => h58 ▸ SGA w')
        obtain ⟨q, hqr⟩ : ∃ q, q = r := ⟨_, rfl⟩
        obtain ⟨ts, hts⟩ : ∃ ts : List Tm, ts = [] := ⟨_, rfl⟩
        have HCG := Lib.hid (show clauseG (rdF F 30 3) 7 s.toList = some (⟨t, ts⟩, q) by unfold clauseG; rw [HR.out]; simp only [body_no h58, hqr, hts])
        have AQ := Lib.hid (show AtR s (some q) i1 by rw [hqr]; exact A1.out)
        have TSL := Lib.hid (fun w' => show Tm.sl (fun b => w.heap.size ≤ b) w' ts (.slice none ts.length 0) by rw [hts]; exact ⟨none, 0, rfl, Nat.le_refl _, by omega, by simp, .inl rfl⟩)
        have htl : (ts.length : Int) = 0 := by rw [hts]; rfl
        have HV0 : (Value.slice none 0 0) = .slice none ts.length 0 := by rw [hts]; rfl
        rw [HV0] at C3
        clear h58 hqr hts
        go_wp2_with fail
        refine (SGA.out _).mono ?_
        rintro e w4 ⟨rfl, e4⟩
        have E4 := Lib.hid (E3.out.trans e4)
        have R4 := Lib.hid (R3.out.ext e4)
        have C4 := Lib.hid (C3.out.ext e4)
        have T4 := Lib.hid (Tm.at_ext e4 T3.out)
        have S4 := Lib.hid (TSL.out w4)
        clear e4 HV0 htl
        have hl9 : i1 + (q.length : Int) = (s.size : Int) := AQ.out.len
        by_cases h1 : q.length = 1
        · obtain ⟨b, hqb⟩ : ∃ b, q = [b] := by
            cases q with
            | nil => cases h1
            | cons b r' => exact ⟨b, by rw [List.eq_nil_of_length_eq_zero (show r'.length = 0 by simpa using h1)]⟩
          have hi : i1 = (s.size : Int) - 1 := by omega
          have hii : (i1 != (s.size : Int) - 1) = false := by rw [hi]; exact bne_self_eq_false _
          have SG := fun w' => signX AQ.out 46 46 rfl w' hs'
          by_cases h46 : b = 46
          · have hh : hdB (isB 46) (some q) = true := by rw [hqb]; exact decide_eq_true h46
            have SG := Lib.hid (fun w' => hh ▸ SG w')
            have HCQ := Lib.hid (show clauseG (rdF F 30 3) 7 s.toList = some (⟨t, ts⟩, [46]) by rw [HCG.out, hqb, h46])
            have CAT := Lib.hid (show Cl.at (fun _ => True) w4 ⟨t, ts⟩ (.agg #[.int .i64 t.kind, .int .i64 t.n, .string t.name, .slice ta t.kids.length tc, .slice none ts.length 0]) from ⟨_, _, rfl, Tm.at_mono (fun _ _ => trivial) (Agree.refl _) T4.out, Tm.sl_mono (fun _ _ => trivial) (Agree.refl _) S4.out⟩)
            have hcmp : ((bs (formatClF ⟨t, ts⟩)).toList == s.toList) = decide (formatClF ⟨t, ts⟩ = s.toList) := by
              rw [bs_list, Bool.eq_iff_iff, beq_iff_eq, decide_eq_true_eq]
            have hcm2 : ((bs (formatClF ⟨t, ts⟩)).toList = s.toList) = (formatClF ⟨t, ts⟩ = s.toList) := by rw [bs_list]
            clear hh h46 hqb h1 hl9 hi
            by_cases heq : formatClF ⟨t, ts⟩ = s.toList
            · have HN := Lib.hid (show parseCT s = ⟨t, ts⟩ ∧ parseCB s = true by
                have hv : clValidF ⟨t, ts⟩ = true := by
                  cases hv : clValidF ⟨t, ts⟩ with
                  | true => rfl
                  | false =>
                    unfold formatClF at heq
                    rw [hv] at heq
                    exact absurd heq.symm h0
                have h2 := parseClO_some hv
                unfold formatClF at heq
                rw [if_pos hv] at heq
                rw [heq] at h2
                exact parseC_some hk h2)
              rw [decide_eq_true heq] at hcmp
              have hcm3 : (bs (formatClF ⟨t, ts⟩)).toList = s.toList := by rw [hcm2]; exact heq
              clear heq hcm2
              go_wp2_with fail
              refine (SG.out _).mono ?_
              rintro e wa ⟨rfl, ea⟩
              have Ea := Lib.hid (E4.out.trans ea)
              have Ra := Lib.hid (R4.out.ext ea)
              have Ca := Lib.hid (C4.out.ext ea)
              have CATa := Lib.hid (Cl.at_ext ea CAT.out)
              clear ea
              have bc := Ca.out
              obtain ⟨c0, c1, c2, c3, c4, _, _, _, _, _⟩ := bc
              have FT := Lib.hid (specFormatClause ⟨t, ts⟩ _ _ wa CATa.out)
              go_wp2_with fail
              refine FT.out.mono ?_
              rintro e wb ⟨rfl, eb⟩
              have Eb := Lib.hid (Ea.out.trans eb)
              have Rb := Lib.hid (Ra.out.ext eb)
              have Cb := Lib.hid (Ca.out.ext eb)
              have CATb := Lib.hid (Cl.at_ext eb CATa.out)
              clear eb c0 c1 c2 c3 c4
              have bc := Cb.out
              obtain ⟨c0, c1, c2, c3, c4, _, _, _, _, _⟩ := bc
              have CP := Lib.hid (specl4Copy ⟨t, ts⟩ _ _ wb CATb.out)
              have lb := Rb.out.lt
              have sb := Below.size Eb.out
              go_wp2_with fail
              refine CP.out.mono ?_
              rintro e wc ⟨v9, rfl, hv9, ec⟩
              have hv9' := hv9
              obtain ⟨a9, ca9, b9, cb9, m9, rfl, _⟩ := hv9'
              have V9 := Lib.hid hv9
              have Ec := Lib.hid (Eb.out.trans ec)
              have Rc := Lib.hid (Rb.out.ext ec)
              clear ec hv9
              have bz := Rc.out
              obtain ⟨z0, z1, z2, z3, z4, y0, y1, y2, y3, y4⟩ := bz
              have lz9 := Rc.out.lt
              go_wp2_with fail
              refine ret5b_set (p := 2) (q := 3) (T := 38) (b := w.heap.size) (y := .bool true) (by kernel_rfl) (fun _ => by kernel_rfl) (fun _ => by kernel_rfl) rfl rfl rfl Rc.out ?_
              intro Z fZ
              rw [HN.out.1, HN.out.2]
              exact ⟨_, rfl, V9.out.fr fZ lb sb, ((Fr.of_ext Ec.out).trans fZ).toExt (fun q hq h => by omega)⟩
            · have HN := Lib.hid (HNO.out (by
                cases e : parseClO s.toList with
                | none => rfl
                | some c0 => 
                    have h1 := HX.out c0 e
                    rw [HCQ.out] at h1
                    obtain ⟨h2, h3⟩ := parseClO_spec e
                    cases h1
                    exact absurd (by unfold formatClF; rw [if_pos h2]; exact h3) heq))
              rw [decide_eq_false heq] at hcmp
              have hcm3 : ¬ (bs (formatClF ⟨t, ts⟩)).toList = s.toList := by rw [hcm2]; exact heq
              clear heq hcm2
              go_wp2_with fail
              refine (SG.out _).mono ?_
              rintro e wa ⟨rfl, ea⟩
              have Ea := Lib.hid (E4.out.trans ea)
              have Ra := Lib.hid (R4.out.ext ea)
              have Ca := Lib.hid (C4.out.ext ea)
              have CATa := Lib.hid (Cl.at_ext ea CAT.out)
              clear ea
              have bc := Ca.out
              obtain ⟨c0, c1, c2, c3, c4, _, _, _, _, _⟩ := bc
              have FT := Lib.hid (specFormatClause ⟨t, ts⟩ _ _ wa CATa.out)
              go_wp2_with fail
              refine FT.out.mono ?_
              rintro e wb ⟨rfl, eb⟩
              have Eb := Lib.hid (Ea.out.trans eb)
              have Rb := Lib.hid (Ra.out.ext eb)
              clear eb
              have bz := Rb.out
              obtain ⟨z0, z1, z2, z3, z4, y0, y1, y2, y3, y4⟩ := bz
              have lz9 := Rb.out.lt
              go_wp2_with fail
              refine ret5b_set (p := 2) (q := 3) (T := 38) (b := w.heap.size) (v0 := .int .i64 0) (v1 := .int .i64 0) (v2 := .string ⟨#[]⟩) (v3 := .slice none 0 0) (v4 := .slice none 0 0) (y := .bool false) (by kernel_rfl) (fun _ => by kernel_rfl) (fun _ => by kernel_rfl) rfl rfl rfl Rb.out ?_
              intro Z fZ
              have sZ := fZ.size
              have eZ : Ext w Z := ((Fr.of_ext Eb.out).trans fZ).toExt (fun q hq h => by omega)
              rw [HN.out.1, HN.out.2]
              exact ⟨_, rfl, cl_zero (Below.size eZ), eZ⟩
          · have hh : hdB (isB 46) (some q) = false := by rw [hqb]; exact decide_eq_false h46
            have SG := Lib.hid (fun w' => hh ▸ SG w')
            have HN := Lib.hid (HNO.out (by
              cases e : parseClO s.toList with
              | none => rfl
              | some c0 => 
                  have h2 := HX.out c0 e
                  rw [HCG.out, hqb] at h2
                  cases h2
                  exact absurd rfl h46))
            clear hh h46 hqb h1 hl9 hi
            go_wp2_with fail
            refine (SG.out _).mono ?_
            rintro e wa ⟨rfl, ea⟩
            have Ea := Lib.hid (E4.out.trans ea)
            have Ra := Lib.hid (R4.out.ext ea)
            clear ea
            have bz := Ra.out
            obtain ⟨z0, z1, z2, z3, z4, y0, y1, y2, y3, y4⟩ := bz
            have lz9 := Ra.out.lt
            go_wp2_with fail
            refine ret5b_set (p := 2) (q := 3) (T := 38) (b := w.heap.size) (v0 := .int .i64 0) (v1 := .int .i64 0) (v2 := .string ⟨#[]⟩) (v3 := .slice none 0 0) (v4 := .slice none 0 0) (y := .bool false) (by kernel_rfl) (fun _ => by kernel_rfl) (fun _ => by kernel_rfl) rfl rfl rfl Ra.out ?_
            intro Z fZ
            have sZ := fZ.size
            have eZ : Ext w Z := ((Fr.of_ext Ea.out).trans fZ).toExt (fun q hq h => by omega)
            rw [HN.out.1, HN.out.2]
            exact ⟨_, rfl, cl_zero (Below.size eZ), eZ⟩
        · have hii : (i1 != (s.size : Int) - 1) = true := by rw [bne_iff_ne]; omega
          have HN := Lib.hid (HNO.out (by
            cases e : parseClO s.toList with
            | none => rfl
            | some c0 => 
              have h2 := HX.out c0 e
              rw [HCG.out] at h2
              cases h2
              exact absurd rfl h1))
          clear h1 hl9
          have bz := R4.out
          obtain ⟨z0, z1, z2, z3, z4, y0, y1, y2, y3, y4⟩ := bz
          have lz9 := R4.out.lt
          go_wp2_with fail
          refine ret5b_set (p := 2) (q := 3) (T := 38) (b := w.heap.size) (v0 := .int .i64 0) (v1 := .int .i64 0) (v2 := .string ⟨#[]⟩) (v3 := .slice none 0 0) (v4 := .slice none 0 0) (y := .bool false) (by kernel_rfl) (fun _ => by kernel_rfl) (fun _ => by kernel_rfl) rfl rfl rfl R4.out ?_
          intro Z fZ
          have sZ := fZ.size
          have eZ : Ext w Z := ((Fr.of_ext E4.out).trans fZ).toExt (fun q hq h => by omega)
          rw [HN.out.1, HN.out.2]
          exact ⟨_, rfl, cl_zero (Below.size eZ), eZ⟩
      · have SGA := Lib.hid (fun w' => h58 ▸ SGA w')
        obtain ⟨q1, hr1⟩ : ∃ q1, r = 58 :: q1 := by
          cases r with
          | nil => cases h58
          | cons c q => exact ⟨q, by rw [show c = 58 by simpa [hdB, isB] using h58]⟩
        have AN := Lib.hid (show AtR s (some q1) (i1 + 1) from AtR.next (b := 58) (by have := A1.out; rw [hr1] at this; exact this))
        have SGB := fun w' => signX AN.out 45 45 rfl w' hs'
        clear h58
        cases h45 : hdB (isB 45) (some q1)
        · have SGB := Lib.hid (fun w' => h45 ▸ SGB w')
          obtain ⟨q, hqr⟩ : ∃ q, q = r := ⟨_, rfl⟩
          obtain ⟨ts, hts⟩ : ∃ ts : List Tm, ts = [] := ⟨_, rfl⟩
          have HCG := Lib.hid (show clauseG (rdF F 30 3) 7 s.toList = some (⟨t, ts⟩, q) by unfold clauseG; rw [HR.out]; simp only [hr1, body_no2 h45, hqr, hts])
          have AQ := Lib.hid (show AtR s (some q) i1 by rw [hqr]; exact A1.out)
          have TSL := Lib.hid (fun w' => show Tm.sl (fun b => w.heap.size ≤ b) w' ts (.slice none ts.length 0) by rw [hts]; exact ⟨none, 0, rfl, Nat.le_refl _, by omega, by simp, .inl rfl⟩)
          have HV0 : (Value.slice none 0 0) = .slice none ts.length 0 := by rw [hts]; rfl
          rw [HV0] at C3
          clear h45 hqr hts hr1
          go_wp2_with fail
          refine (SGA.out _).mono ?_
          rintro e w5 ⟨rfl, e5⟩
          have E5 := Lib.hid (E3.out.trans e5)
          have R5 := Lib.hid (R3.out.ext e5)
          have C5 := Lib.hid (C3.out.ext e5)
          have T5 := Lib.hid (Tm.at_ext e5 T3.out)
          clear e5
          go_wp2_with fail
          refine (SGB.out _).mono ?_
          rintro e w4 ⟨rfl, e4⟩
          have E4 := Lib.hid (E5.out.trans e4)
          have R4 := Lib.hid (R5.out.ext e4)
          have C4 := Lib.hid (C5.out.ext e4)
          have T4 := Lib.hid (Tm.at_ext e4 T5.out)
          have S4 := Lib.hid (TSL.out w4)
          clear e4 HV0
          have hl9 : i1 + (q.length : Int) = (s.size : Int) := AQ.out.len
          by_cases h1 : q.length = 1
          · obtain ⟨b, hqb⟩ : ∃ b, q = [b] := by
              cases q with
              | nil => cases h1
              | cons b r' => exact ⟨b, by rw [List.eq_nil_of_length_eq_zero (show r'.length = 0 by simpa using h1)]⟩
            have hi : i1 = (s.size : Int) - 1 := by omega
            have hii : (i1 != (s.size : Int) - 1) = false := by rw [hi]; exact bne_self_eq_false _
            have SG := fun w' => signX AQ.out 46 46 rfl w' hs'
            by_cases h46 : b = 46
            · have hh : hdB (isB 46) (some q) = true := by rw [hqb]; exact decide_eq_true h46
              have SG := Lib.hid (fun w' => hh ▸ SG w')
              have HCQ := Lib.hid (show clauseG (rdF F 30 3) 7 s.toList = some (⟨t, ts⟩, [46]) by rw [HCG.out, hqb, h46])
              have CAT := Lib.hid (show Cl.at (fun _ => True) w4 ⟨t, ts⟩ (.agg #[.int .i64 t.kind, .int .i64 t.n, .string t.name, .slice ta t.kids.length tc, .slice none ts.length 0]) from ⟨_, _, rfl, Tm.at_mono (fun _ _ => trivial) (Agree.refl _) T4.out, Tm.sl_mono (fun _ _ => trivial) (Agree.refl _) S4.out⟩)
              have hcmp : ((bs (formatClF ⟨t, ts⟩)).toList == s.toList) = decide (formatClF ⟨t, ts⟩ = s.toList) := by
                rw [bs_list, Bool.eq_iff_iff, beq_iff_eq, decide_eq_true_eq]
              have hcm2 : ((bs (formatClF ⟨t, ts⟩)).toList = s.toList) = (formatClF ⟨t, ts⟩ = s.toList) := by rw [bs_list]
              clear hh h46 hqb h1 hl9 hi
              by_cases heq : formatClF ⟨t, ts⟩ = s.toList
              · have HN := Lib.hid (show parseCT s = ⟨t, ts⟩ ∧ parseCB s = true by
                  have hv : clValidF ⟨t, ts⟩ = true := by
                    cases hv : clValidF ⟨t, ts⟩ with
                    | true => rfl
                    | false =>
                      unfold formatClF at heq
                      rw [hv] at heq
                      exact absurd heq.symm h0
                  have h2 := parseClO_some hv
                  unfold formatClF at heq
                  rw [if_pos hv] at heq
                  rw [heq] at h2
                  exact parseC_some hk h2)
                rw [decide_eq_true heq] at hcmp
                have hcm3 : (bs (formatClF ⟨t, ts⟩)).toList = s.toList := by rw [hcm2]; exact heq
                clear heq hcm2
                go_wp2_with fail
                refine (SG.out _).mono ?_
                rintro e wa ⟨rfl, ea⟩
                have Ea := Lib.hid (E4.out.trans ea)
                have Ra := Lib.hid (R4.out.ext ea)
                have Ca := Lib.hid (C4.out.ext ea)
                have CATa := Lib.hid (Cl.at_ext ea CAT.out)
                clear ea
                have bc := Ca.out
                obtain ⟨c0, c1, c2, c3, c4, _, _, _, _, _⟩ := bc
                have FT := Lib.hid (specFormatClause ⟨t, ts⟩ _ _ wa CATa.out)
                go_wp2_with fail
                refine FT.out.mono ?_
                rintro e wb ⟨rfl, eb⟩
                have Eb := Lib.hid (Ea.out.trans eb)
                have Rb := Lib.hid (Ra.out.ext eb)
                have Cb := Lib.hid (Ca.out.ext eb)
                have CATb := Lib.hid (Cl.at_ext eb CATa.out)
                clear eb c0 c1 c2 c3 c4
                have bc := Cb.out
                obtain ⟨c0, c1, c2, c3, c4, _, _, _, _, _⟩ := bc
                have CP := Lib.hid (specl4Copy ⟨t, ts⟩ _ _ wb CATb.out)
                have lb := Rb.out.lt
                have sb := Below.size Eb.out
                go_wp2_with fail
                refine CP.out.mono ?_
                rintro e wc ⟨v9, rfl, hv9, ec⟩
                have hv9' := hv9
                obtain ⟨a9, ca9, b9, cb9, m9, rfl, _⟩ := hv9'
                have V9 := Lib.hid hv9
                have Ec := Lib.hid (Eb.out.trans ec)
                have Rc := Lib.hid (Rb.out.ext ec)
                clear ec hv9
                have bz := Rc.out
                obtain ⟨z0, z1, z2, z3, z4, y0, y1, y2, y3, y4⟩ := bz
                have lz9 := Rc.out.lt
                go_wp2_with fail
                refine ret5b_set (p := 2) (q := 3) (T := 38) (b := w.heap.size) (y := .bool true) (by kernel_rfl) (fun _ => by kernel_rfl) (fun _ => by kernel_rfl) rfl rfl rfl Rc.out ?_
                intro Z fZ
                rw [HN.out.1, HN.out.2]
                exact ⟨_, rfl, V9.out.fr fZ lb sb, ((Fr.of_ext Ec.out).trans fZ).toExt (fun q hq h => by omega)⟩
              · have HN := Lib.hid (HNO.out (by
                  cases e : parseClO s.toList with
                  | none => rfl
                  | some c0 => 
                      have h1 := HX.out c0 e
                      rw [HCQ.out] at h1
                      obtain ⟨h2, h3⟩ := parseClO_spec e
                      cases h1
                      exact absurd (by unfold formatClF; rw [if_pos h2]; exact h3) heq))
                rw [decide_eq_false heq] at hcmp
                have hcm3 : ¬ (bs (formatClF ⟨t, ts⟩)).toList = s.toList := by rw [hcm2]; exact heq
                clear heq hcm2
                go_wp2_with fail
                refine (SG.out _).mono ?_
                rintro e wa ⟨rfl, ea⟩
                have Ea := Lib.hid (E4.out.trans ea)
                have Ra := Lib.hid (R4.out.ext ea)
                have Ca := Lib.hid (C4.out.ext ea)
                have CATa := Lib.hid (Cl.at_ext ea CAT.out)
                clear ea
                have bc := Ca.out
                obtain ⟨c0, c1, c2, c3, c4, _, _, _, _, _⟩ := bc
                have FT := Lib.hid (specFormatClause ⟨t, ts⟩ _ _ wa CATa.out)
                go_wp2_with fail
                refine FT.out.mono ?_
                rintro e wb ⟨rfl, eb⟩
                have Eb := Lib.hid (Ea.out.trans eb)
                have Rb := Lib.hid (Ra.out.ext eb)
                clear eb
                have bz := Rb.out
                obtain ⟨z0, z1, z2, z3, z4, y0, y1, y2, y3, y4⟩ := bz
                have lz9 := Rb.out.lt
                go_wp2_with fail
                refine ret5b_set (p := 2) (q := 3) (T := 38) (b := w.heap.size) (v0 := .int .i64 0) (v1 := .int .i64 0) (v2 := .string ⟨#[]⟩) (v3 := .slice none 0 0) (v4 := .slice none 0 0) (y := .bool false) (by kernel_rfl) (fun _ => by kernel_rfl) (fun _ => by kernel_rfl) rfl rfl rfl Rb.out ?_
                intro Z fZ
                have sZ := fZ.size
                have eZ : Ext w Z := ((Fr.of_ext Eb.out).trans fZ).toExt (fun q hq h => by omega)
                rw [HN.out.1, HN.out.2]
                exact ⟨_, rfl, cl_zero (Below.size eZ), eZ⟩
            · have hh : hdB (isB 46) (some q) = false := by rw [hqb]; exact decide_eq_false h46
              have SG := Lib.hid (fun w' => hh ▸ SG w')
              have HN := Lib.hid (HNO.out (by
                cases e : parseClO s.toList with
                | none => rfl
                | some c0 => 
                    have h2 := HX.out c0 e
                    rw [HCG.out, hqb] at h2
                    cases h2
                    exact absurd rfl h46))
              clear hh h46 hqb h1 hl9 hi
              go_wp2_with fail
              refine (SG.out _).mono ?_
              rintro e wa ⟨rfl, ea⟩
              have Ea := Lib.hid (E4.out.trans ea)
              have Ra := Lib.hid (R4.out.ext ea)
              clear ea
              have bz := Ra.out
              obtain ⟨z0, z1, z2, z3, z4, y0, y1, y2, y3, y4⟩ := bz
              have lz9 := Ra.out.lt
              go_wp2_with fail
              refine ret5b_set (p := 2) (q := 3) (T := 38) (b := w.heap.size) (v0 := .int .i64 0) (v1 := .int .i64 0) (v2 := .string ⟨#[]⟩) (v3 := .slice none 0 0) (v4 := .slice none 0 0) (y := .bool false) (by kernel_rfl) (fun _ => by kernel_rfl) (fun _ => by kernel_rfl) rfl rfl rfl Ra.out ?_
              intro Z fZ
              have sZ := fZ.size
              have eZ : Ext w Z := ((Fr.of_ext Ea.out).trans fZ).toExt (fun q hq h => by omega)
              rw [HN.out.1, HN.out.2]
              exact ⟨_, rfl, cl_zero (Below.size eZ), eZ⟩
          · have hii : (i1 != (s.size : Int) - 1) = true := by rw [bne_iff_ne]; omega
            have HN := Lib.hid (HNO.out (by
              cases e : parseClO s.toList with
              | none => rfl
              | some c0 => 
                have h2 := HX.out c0 e
                rw [HCG.out] at h2
                cases h2
                exact absurd rfl h1))
            clear h1 hl9
            have bz := R4.out
            obtain ⟨z0, z1, z2, z3, z4, y0, y1, y2, y3, y4⟩ := bz
            have lz9 := R4.out.lt
            go_wp2_with fail
            refine ret5b_set (p := 2) (q := 3) (T := 38) (b := w.heap.size) (v0 := .int .i64 0) (v1 := .int .i64 0) (v2 := .string ⟨#[]⟩) (v3 := .slice none 0 0) (v4 := .slice none 0 0) (y := .bool false) (by kernel_rfl) (fun _ => by kernel_rfl) (fun _ => by kernel_rfl) rfl rfl rfl R4.out ?_
            intro Z fZ
            have sZ := fZ.size
            have eZ : Ext w Z := ((Fr.of_ext E4.out).trans fZ).toExt (fun q hq h => by omega)
            rw [HN.out.1, HN.out.2]
            exact ⟨_, rfl, cl_zero (Below.size eZ), eZ⟩
        · have SGB := Lib.hid (fun w' => h45 ▸ SGB w')
          obtain ⟨q2, hr2⟩ : ∃ q2, q1 = 45 :: q2 := by
            cases q1 with
            | nil => cases h45
            | cons c q => exact ⟨q, by rw [show c = 45 by simpa [hdB, isB] using h45]⟩
          have AG := Lib.hid (show AtR s (some q2) (i1 + 2) by
            have h := AtR.next (b := 45) (by have := AN.out; rw [hr2] at this; exact this)
            rw [show i1 + 1 + 1 = i1 + 2 by omega] at h
            exact h)
          have GC := Lib.hid (fun w' => specl4Goals F s q2 (i1 + 2) w' hk AG.out (by omega))
          clear h45
          go_wp2_with fail
          refine (SGA.out _).mono ?_
          rintro e w5 ⟨rfl, e5⟩
          have E5 := Lib.hid (E3.out.trans e5)
          have R5 := Lib.hid (R3.out.ext e5)
          have C5 := Lib.hid (C3.out.ext e5)
          have T5 := Lib.hid (Tm.at_ext e5 T3.out)
          clear e5
          go_wp2_with fail
          refine (SGB.out _).mono ?_
          rintro e w6 ⟨rfl, e6⟩
          have E6 := Lib.hid (E5.out.trans e6)
          have R6 := Lib.hid (R5.out.ext e6)
          have C6 := Lib.hid (C5.out.ext e6)
          have T6 := Lib.hid (Tm.at_ext e6 T5.out)
          clear e6
          go_wp2_with fail
          refine (GC.out _).mono ?_
          rintro e w7 ⟨ts, av, cv, i2, rfl, hsl, e7, ha7, hX7⟩
          have E7 := Lib.hid (E6.out.trans e7)
          have R7 := Lib.hid (R6.out.ext e7)
          have C7 := Lib.hid (C6.out.ext e7)
          have T7 := Lib.hid (Tm.at_ext e7 T6.out)
          have s6 := C6.out.lt
          have S7 := Lib.hid (Tm.sl_mono (S' := fun b => cb + 1 ≤ b) (fun b hb => by have hb' : w6.heap.size ≤ b := hb; omega) (Agree.refl _) hsl)
          have A7 := Lib.hid ha7
          have X7 := Lib.hid hX7
          have l7 := ha7.le hs'
          have bc := C7.out
          obtain ⟨c0, c1, c2, c3, c4, f0, f1, f2, f3, f4⟩ := bc
          have lc9 := C7.out.lt
          clear e7 hsl ha7 hX7
          go_upto_region 9 with (fail)
          obtain ⟨w4, hw4⟩ : ∃ z, z = w7.setCell ⟨cb, 4, none⟩ (.slice av ts.length cv) := ⟨_, rfl⟩
          have f4 : Fr (fun b => b = cb) w7 w4 := by rw [hw4]; exact Fr.setCell _ rfl
          have C4 := Lib.hid (show BoxC w4 cb (.int .i64 t.kind) (.int .i64 t.n) (.string t.name) (.slice ta t.kids.length tc) (.slice av ts.length cv) by rw [hw4]; exact C7.out.setBody _)
          rw [← hw4]
          have E4 := Lib.hid (((Fr.of_ext E7.out).trans f4).toExt (fun q hq h => by omega))
          have R4 := Lib.hid (R7.out.fr f4 (by omega))
          have T4 := Lib.hid (f4.at T7.out (fun b hb e => by have hb' : w.heap.size + 1 ≤ b ∧ b < w1.heap.size := hb; omega))
          have S4 := Lib.hid (f4.sl S7.out (fun b hb e => by have hb' : cb + 1 ≤ b := hb; omega))
          clear hw4 f4 c0 c1 c2 c3 c4 f0 f1 f2 f3
          cases hg : goalsG (rdF F 30 3) 7 [] q2 with
          | none =>
            rw [hg] at A7
            have hneg : i2 < 0 := A7.out.bad.1
            have hii : (i2 != (s.size : Int) - 1) = true := by rw [bne_iff_ne]; omega
            have HN := Lib.hid (HNO.out (by
              cases e : parseClO s.toList with
              | none => rfl
              | some c0 => 
                have h1 := HX.out c0 e
                unfold clauseG at h1
                rw [HR.out, hr1, hr2] at h1
                have h2 : (match goalsG (rdF F 30 3) 7 [] q2 with | none => none | some (ts, q) => some (Cl.mk t ts, q)) = some (c0, [46]) := h1
                rw [hg] at h2
                cases h2))
            clear hg
            have bz := R4.out
            obtain ⟨z0, z1, z2, z3, z4, y0, y1, y2, y3, y4⟩ := bz
            have lz9 := R4.out.lt
            go_wp2_with fail
            refine ret5b_set (p := 2) (q := 3) (T := 38) (b := w.heap.size) (v0 := .int .i64 0) (v1 := .int .i64 0) (v2 := .string ⟨#[]⟩) (v3 := .slice none 0 0) (v4 := .slice none 0 0) (y := .bool false) (by kernel_rfl) (fun _ => by kernel_rfl) (fun _ => by kernel_rfl) rfl rfl rfl R4.out ?_
            intro Z fZ
            have sZ := fZ.size
            have eZ : Ext w Z := ((Fr.of_ext E4.out).trans fZ).toExt (fun q hq h => by omega)
            rw [HN.out.1, HN.out.2]
            exact ⟨_, rfl, cl_zero (Below.size eZ), eZ⟩
          | some p =>
            obtain ⟨ks, q⟩ := p
            have hks := X7.out ks q hg
            subst hks
            rw [hg] at A7
            have HCG := Lib.hid (show clauseG (rdF F 30 3) 7 s.toList = some (⟨t, ts⟩, q) by
              unfold clauseG
              rw [HR.out, hr1, hr2]
              show (match goalsG (rdF F 30 3) 7 [] q2 with | none => none | some (ts, q) => some (Cl.mk t ts, q)) = _
              rw [hg])
            have AQ := Lib.hid (show AtR s (some q) i2 from A7.out)
            clear hg
            have hl9 : i2 + (q.length : Int) = (s.size : Int) := AQ.out.len
            by_cases h1 : q.length = 1
            · obtain ⟨b, hqb⟩ : ∃ b, q = [b] := by
                cases q with
                | nil => cases h1
                | cons b r' => exact ⟨b, by rw [List.eq_nil_of_length_eq_zero (show r'.length = 0 by simpa using h1)]⟩
              have hi : i2 = (s.size : Int) - 1 := by omega
              have hii : (i2 != (s.size : Int) - 1) = false := by rw [hi]; exact bne_self_eq_false _
              have SG := fun w' => signX AQ.out 46 46 rfl w' hs'
              by_cases h46 : b = 46
              · have hh : hdB (isB 46) (some q) = true := by rw [hqb]; exact decide_eq_true h46
                have SG := Lib.hid (fun w' => hh ▸ SG w')
                have HCQ := Lib.hid (show clauseG (rdF F 30 3) 7 s.toList = some (⟨t, ts⟩, [46]) by rw [HCG.out, hqb, h46])
                have CAT := Lib.hid (show Cl.at (fun _ => True) w4 ⟨t, ts⟩ (.agg #[.int .i64 t.kind, .int .i64 t.n, .string t.name, .slice ta t.kids.length tc, .slice av ts.length cv]) from ⟨_, _, rfl, Tm.at_mono (fun _ _ => trivial) (Agree.refl _) T4.out, Tm.sl_mono (fun _ _ => trivial) (Agree.refl _) S4.out⟩)
                have hcmp : ((bs (formatClF ⟨t, ts⟩)).toList == s.toList) = decide (formatClF ⟨t, ts⟩ = s.toList) := by
                  rw [bs_list, Bool.eq_iff_iff, beq_iff_eq, decide_eq_true_eq]
                have hcm2 : ((bs (formatClF ⟨t, ts⟩)).toList = s.toList) = (formatClF ⟨t, ts⟩ = s.toList) := by rw [bs_list]
                clear hh h46 hqb h1 hl9 hi
                by_cases heq : formatClF ⟨t, ts⟩ = s.toList
                · have HN := Lib.hid (show parseCT s = ⟨t, ts⟩ ∧ parseCB s = true by
                    have hv : clValidF ⟨t, ts⟩ = true := by
                      cases hv : clValidF ⟨t, ts⟩ with
                      | true => rfl
                      | false =>
                        unfold formatClF at heq
                        rw [hv] at heq
                        exact absurd heq.symm h0
                    have h2 := parseClO_some hv
                    unfold formatClF at heq
                    rw [if_pos hv] at heq
                    rw [heq] at h2
                    exact parseC_some hk h2)
                  rw [decide_eq_true heq] at hcmp
                  have hcm3 : (bs (formatClF ⟨t, ts⟩)).toList = s.toList := by rw [hcm2]; exact heq
                  clear heq hcm2
                  go_wp2_with fail
                  refine (SG.out _).mono ?_
                  rintro e wa ⟨rfl, ea⟩
                  have Ea := Lib.hid (E4.out.trans ea)
                  have Ra := Lib.hid (R4.out.ext ea)
                  have Ca := Lib.hid (C4.out.ext ea)
                  have CATa := Lib.hid (Cl.at_ext ea CAT.out)
                  clear ea
                  have bc := Ca.out
                  obtain ⟨c0, c1, c2, c3, c4, _, _, _, _, _⟩ := bc
                  have FT := Lib.hid (specFormatClause ⟨t, ts⟩ _ _ wa CATa.out)
                  go_wp2_with fail
                  refine FT.out.mono ?_
                  rintro e wb ⟨rfl, eb⟩
                  have Eb := Lib.hid (Ea.out.trans eb)
                  have Rb := Lib.hid (Ra.out.ext eb)
                  have Cb := Lib.hid (Ca.out.ext eb)
                  have CATb := Lib.hid (Cl.at_ext eb CATa.out)
                  clear eb c0 c1 c2 c3 c4
                  have bc := Cb.out
                  obtain ⟨c0, c1, c2, c3, c4, _, _, _, _, _⟩ := bc
                  have CP := Lib.hid (specl4Copy ⟨t, ts⟩ _ _ wb CATb.out)
                  have lb := Rb.out.lt
                  have sb := Below.size Eb.out
                  go_wp2_with fail
                  refine CP.out.mono ?_
                  rintro e wc ⟨v9, rfl, hv9, ec⟩
                  have hv9' := hv9
                  obtain ⟨a9, ca9, b9, cb9, m9, rfl, _⟩ := hv9'
                  have V9 := Lib.hid hv9
                  have Ec := Lib.hid (Eb.out.trans ec)
                  have Rc := Lib.hid (Rb.out.ext ec)
                  clear ec hv9
                  have bz := Rc.out
                  obtain ⟨z0, z1, z2, z3, z4, y0, y1, y2, y3, y4⟩ := bz
                  have lz9 := Rc.out.lt
                  go_wp2_with fail
                  refine ret5b_set (p := 2) (q := 3) (T := 38) (b := w.heap.size) (y := .bool true) (by kernel_rfl) (fun _ => by kernel_rfl) (fun _ => by kernel_rfl) rfl rfl rfl Rc.out ?_
                  intro Z fZ
                  rw [HN.out.1, HN.out.2]
                  exact ⟨_, rfl, V9.out.fr fZ lb sb, ((Fr.of_ext Ec.out).trans fZ).toExt (fun q hq h => by omega)⟩
                · have HN := Lib.hid (HNO.out (by
                    cases e : parseClO s.toList with
                    | none => rfl
                    | some c0 => 
                        have h1 := HX.out c0 e
                        rw [HCQ.out] at h1
                        obtain ⟨h2, h3⟩ := parseClO_spec e
                        cases h1
                        exact absurd (by unfold formatClF; rw [if_pos h2]; exact h3) heq))
                  rw [decide_eq_false heq] at hcmp
                  have hcm3 : ¬ (bs (formatClF ⟨t, ts⟩)).toList = s.toList := by rw [hcm2]; exact heq
                  clear heq hcm2
                  go_wp2_with fail
                  refine (SG.out _).mono ?_
                  rintro e wa ⟨rfl, ea⟩
                  have Ea := Lib.hid (E4.out.trans ea)
                  have Ra := Lib.hid (R4.out.ext ea)
                  have Ca := Lib.hid (C4.out.ext ea)
                  have CATa := Lib.hid (Cl.at_ext ea CAT.out)
                  clear ea
                  have bc := Ca.out
                  obtain ⟨c0, c1, c2, c3, c4, _, _, _, _, _⟩ := bc
                  have FT := Lib.hid (specFormatClause ⟨t, ts⟩ _ _ wa CATa.out)
                  go_wp2_with fail
                  refine FT.out.mono ?_
                  rintro e wb ⟨rfl, eb⟩
                  have Eb := Lib.hid (Ea.out.trans eb)
                  have Rb := Lib.hid (Ra.out.ext eb)
                  clear eb
                  have bz := Rb.out
                  obtain ⟨z0, z1, z2, z3, z4, y0, y1, y2, y3, y4⟩ := bz
                  have lz9 := Rb.out.lt
                  go_wp2_with fail
                  refine ret5b_set (p := 2) (q := 3) (T := 38) (b := w.heap.size) (v0 := .int .i64 0) (v1 := .int .i64 0) (v2 := .string ⟨#[]⟩) (v3 := .slice none 0 0) (v4 := .slice none 0 0) (y := .bool false) (by kernel_rfl) (fun _ => by kernel_rfl) (fun _ => by kernel_rfl) rfl rfl rfl Rb.out ?_
                  intro Z fZ
                  have sZ := fZ.size
                  have eZ : Ext w Z := ((Fr.of_ext Eb.out).trans fZ).toExt (fun q hq h => by omega)
                  rw [HN.out.1, HN.out.2]
                  exact ⟨_, rfl, cl_zero (Below.size eZ), eZ⟩
              · have hh : hdB (isB 46) (some q) = false := by rw [hqb]; exact decide_eq_false h46
                have SG := Lib.hid (fun w' => hh ▸ SG w')
                have HN := Lib.hid (HNO.out (by
                  cases e : parseClO s.toList with
                  | none => rfl
                  | some c0 => 
                      have h2 := HX.out c0 e
                      rw [HCG.out, hqb] at h2
                      cases h2
                      exact absurd rfl h46))
                clear hh h46 hqb h1 hl9 hi
                go_wp2_with fail
                refine (SG.out _).mono ?_
                rintro e wa ⟨rfl, ea⟩
                have Ea := Lib.hid (E4.out.trans ea)
                have Ra := Lib.hid (R4.out.ext ea)
                clear ea
                have bz := Ra.out
                obtain ⟨z0, z1, z2, z3, z4, y0, y1, y2, y3, y4⟩ := bz
                have lz9 := Ra.out.lt
                go_wp2_with fail
                refine ret5b_set (p := 2) (q := 3) (T := 38) (b := w.heap.size) (v0 := .int .i64 0) (v1 := .int .i64 0) (v2 := .string ⟨#[]⟩) (v3 := .slice none 0 0) (v4 := .slice none 0 0) (y := .bool false) (by kernel_rfl) (fun _ => by kernel_rfl) (fun _ => by kernel_rfl) rfl rfl rfl Ra.out ?_
                intro Z fZ
                have sZ := fZ.size
                have eZ : Ext w Z := ((Fr.of_ext Ea.out).trans fZ).toExt (fun q hq h => by omega)
                rw [HN.out.1, HN.out.2]
                exact ⟨_, rfl, cl_zero (Below.size eZ), eZ⟩
            · have hii : (i2 != (s.size : Int) - 1) = true := by rw [bne_iff_ne]; omega
              have HN := Lib.hid (HNO.out (by
                cases e : parseClO s.toList with
                | none => rfl
                | some c0 => 
                  have h2 := HX.out c0 e
                  rw [HCG.out] at h2
                  cases h2
                  exact absurd rfl h1))
              clear h1 hl9
              have bz := R4.out
              obtain ⟨z0, z1, z2, z3, z4, y0, y1, y2, y3, y4⟩ := bz
              have lz9 := R4.out.lt
              go_wp2_with fail
              refine ret5b_set (p := 2) (q := 3) (T := 38) (b := w.heap.size) (v0 := .int .i64 0) (v1 := .int .i64 0) (v2 := .string ⟨#[]⟩) (v3 := .slice none 0 0) (v4 := .slice none 0 0) (y := .bool false) (by kernel_rfl) (fun _ => by kernel_rfl) (fun _ => by kernel_rfl) rfl rfl rfl R4.out ?_
              intro Z fZ
              have sZ := fZ.size
              have eZ : Ext w Z := ((Fr.of_ext E4.out).trans fZ).toExt (fun q hq h => by omega)
              rw [HN.out.1, HN.out.2]
              exact ⟨_, rfl, cl_zero (Below.size eZ), eZ⟩
  · have hk1 : (1000 : Int) < (s.size : Int) := by omega
    have HN := Lib.hid (show parseCT s = ⟨.mk 0 0 ⟨#[]⟩ [], []⟩ ∧ parseCB s = false from parseC_no (by unfold parseC; rw [if_neg hk]))
    go_enter Tryz.func61, Tryz.ntmps61
    go_upto_region 1 with (fail)
    obtain ⟨wa, hwa⟩ : ∃ z, z = w.alloc (.cells #[.int .i64 0, .int .i64 0, .string ⟨#[]⟩, .slice none 0 0, .slice none 0 0] 38) := ⟨_, rfl⟩
    rw [← hwa] at ZR ZE ⊢
    clear hwa
    have bz := ZR.out
    obtain ⟨z0, z1, z2, z3, z4, y0, y1, y2, y3, y4⟩ := bz
    have lz9 := ZR.out.lt
    go_wp2_with fail
    refine ret5b_set (p := 2) (q := 3) (T := 38) (b := w.heap.size) (v0 := .int .i64 0) (v1 := .int .i64 0) (v2 := .string ⟨#[]⟩) (v3 := .slice none 0 0) (v4 := .slice none 0 0) (y := .bool false) (by kernel_rfl) (fun _ => by kernel_rfl) (fun _ => by kernel_rfl) rfl rfl rfl ZR.out ?_
    intro Z fZ
    have sZ := fZ.size
    have eZ : Ext w Z := ((Fr.of_ext ZE.out).trans fZ).toExt (fun q hq h => by omega)
    rw [HN.out.1, HN.out.2]
    exact ⟨_, rfl, cl_zero (Below.size eZ), eZ⟩
end Go.Proofs.YtognkaebiafgbaaGreat
