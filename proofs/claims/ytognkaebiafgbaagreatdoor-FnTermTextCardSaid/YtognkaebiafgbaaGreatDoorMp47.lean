/-
  The reference's ParseTerm.
-/
import Derived.Test.YtognkaebiafgbaaGreatDoorMp46
import Derived.Test.YtognkaebiafgbaaGreatDoorMp3
namespace Go.Proofs.YtognkaebiafgbaaGreatDoor
open Go.RowKit
set_option linter.unusedVariables false

noncomputable def parseTs (s : ByteArray) : Tm := (parseO s.toList).getD zTm
noncomputable def parseBs (s : ByteArray) : Bool := (parseO s.toList).isSome
/-- a term that is read, and a sign -/
def TmBR (r : Tm) (b : Bool) (w : World) (e : Ending) (w' : World) : Prop := ∃ a c, e = .returned (.tuple #[.agg #[.int .i64 r.kind, .int .i64 r.n, .string r.name, .slice a r.kids.length c], .bool b]) ∧ Tm.at (fun b => w.heap.size ≤ b) w' r (.agg #[.int .i64 r.kind, .int .i64 r.n, .string r.name, .slice a r.kids.length c]) ∧ Ext w w'
theorem sp_of {s : ByteArray} {t0 : Tm} (h : parseO s.toList = some t0) : spP 30 s.toList = some (t0, []) := by
  obtain ⟨hv, ht⟩ := parseO_spec h
  have := sp_rt _ t0 (Nat.le_refl _) (valid_parts hv).2 30 30 [] (valid_parts hv).1 (Nat.le_refl _) (.inl rfl)
  rwa [List.append_nil, ht] at this
set_option maxRecDepth 100000 in
set_option maxHeartbeats 8000000 in
theorem specParseTerm (s : ByteArray) (w : World) (hs : s.size ≤ 1048576) : Calls Tryz.prog 37 #[.string s] w (TmBR (parseTs s) (parseBs s) w) := by
  have HP := Lib.hid (specl1Parse 30 (by omega) s s.toList 0 (w.alloc (.cells #[.int .i64 0, .int .i64 0, .string ⟨#[]⟩, .slice none 0 0] 25)) hs (AtR.mk (n := 0) (Nat.zero_le _) rfl))
  have hx : ∀ t0, parseO s.toList = some t0 → spP 30 s.toList = some (t0, []) := fun t0 h => sp_of h
  obtain ⟨X, hX⟩ : ∃ X, spP 30 s.toList = X := ⟨_, rfl⟩
  rw [hX] at HP hx
  have HX := Lib.hid hx
  have HXE := Lib.hid hX
  have hnone : parseO s.toList = none → parseTs s = zTm ∧ parseBs s = false := fun h => ⟨by unfold parseTs; rw [h]; rfl, by unfold parseBs; rw [h]; rfl⟩
  clear hx hX
  go_enter Tryz.func37, Tryz.ntmps37
  go_wp2_with fail
  refine HP.out.mono ?_
  rintro e w1 ⟨t, ta, tc, i, rfl, hat, e1, hai, hXt⟩
  have E1 := Lib.hid ((Ext.alloc w (.cells #[.int .i64 0, .int .i64 0, .string ⟨#[]⟩, .slice none 0 0] 25)).trans e1)
  have Z1 := Lib.hid ((BoxT.new w (.int .i64 0) (.int .i64 0) (.string ⟨#[]⟩) (.slice none 0 0) 25 rfl).ext e1)
  have s1 : w.heap.size + 1 ≤ w1.heap.size := by have := Below.size e1; simpa using this
  have T1 := Lib.hid (Tm.at_mono (S' := fun b => w.heap.size + 1 ≤ b) (fun b hb => by have hb' : _ ≤ b := hb; simp at hb'; omega) (Agree.refl _) hat)
  have HAI := Lib.hid hai
  have HXT := Lib.hid hXt
  have li := hai.le hs
  clear hat e1 hai hXt
  go_upto_region 2 with (fail)
  obtain ⟨w2, hw2⟩ : ∃ z, z = w1.alloc (.cells #[.int .i64 t.kind, .int .i64 t.n, .string t.name, .slice ta t.kids.length tc] 25) := ⟨_, rfl⟩
  have e12 : Ext w1 w2 := by rw [hw2]; exact Ext.alloc _ _
  have B2 := Lib.hid (show BoxT w2 w1.heap.size (.int .i64 t.kind) (.int .i64 t.n) (.string t.name) (.slice ta t.kids.length tc) by rw [hw2]; exact BoxT.new _ _ _ _ _ 25 rfl)
  rw [← hw2]
  have E2 := Lib.hid (E1.out.trans e12)
  have Z2 := Lib.hid (Z1.out.ext e12)
  have T2 := Lib.hid (Tm.at_ext e12 T1.out)
  have bm := B2.out
  have lm := bm.lt
  obtain ⟨m0, m1, m2, m3, n0, n1, n2, n3⟩ := bm
  clear hw2 e12
  by_cases h0 : s.toList = []
  · have hs0 : s.toList.isEmpty = true := by rw [h0]; rfl
    have HN := Lib.hid (hnone (parseO_none (fun t hv ht => tx_ne false t 30 (valid_parts hv).1 (by rw [ht, h0]))))
    have bz := Z2.out
    obtain ⟨z0, z1, z2, z3, y0, y1, y2, y3⟩ := bz
    have lz9 := Z2.out.lt
    clear hnone
    go_wp2_with fail
    refine ret4b_set (p := 2) (q := 3) (T := 25) (b := w.heap.size) (v0 := .int .i64 0) (v1 := .int .i64 0) (v2 := .string ⟨#[]⟩) (v3 := .slice none 0 0) (y := .bool false) (by kernel_rfl) (fun _ => by kernel_rfl) (fun _ => by kernel_rfl) rfl rfl rfl Z2.out ?_
    intro Z fZ
    rw [HN.out.1, HN.out.2]
    exact ⟨none, 0, rfl, at_zero _ _ _ _ _ (by decide), ((Fr.of_ext E2.out).trans fZ).toExt (fun q hq h => by omega)⟩
  · have hs0 : s.toList.isEmpty = false := by
      cases h : s.toList with
      | nil => exact absurd h h0
      | cons a b => rfl
    have H0 := Lib.hid h0
    cases X with
    | none =>
      have hi := HAI.out.bad.1
      have hne : (i != (s.size : Int)) = true := by simp [bne]; omega
      have HN := Lib.hid (hnone (by
        cases e : parseO s.toList with
        | none => rfl
        | some t0 => have := HX.out t0 e; cases this))
      have bz := Z2.out
      obtain ⟨z0, z1, z2, z3, y0, y1, y2, y3⟩ := bz
      have lz9 := Z2.out.lt
      clear hnone
      go_wp2_with fail
      refine ret4b_set (p := 2) (q := 3) (T := 25) (b := w.heap.size) (v0 := .int .i64 0) (v1 := .int .i64 0) (v2 := .string ⟨#[]⟩) (v3 := .slice none 0 0) (y := .bool false) (by kernel_rfl) (fun _ => by kernel_rfl) (fun _ => by kernel_rfl) rfl rfl rfl Z2.out ?_
      intro Z fZ
      rw [HN.out.1, HN.out.2]
      exact ⟨none, 0, rfl, at_zero _ _ _ _ _ (by decide), ((Fr.of_ext E2.out).trans fZ).toExt (fun q hq h => by omega)⟩
    | some p =>
      obtain ⟨u, r⟩ := p
      have htu : t = u := HXT.out u r rfl
      subst htu
      have hl : i + (r.length : Int) = (s.size : Int) := HAI.out.len
      by_cases hr : r = []
      · subst hr
        have hi : i = (s.size : Int) := by simpa using hl
        subst hi
        have FT := Lib.hid (specFormatTerm t _ _ w2 T2.out)
        have hcmp : ((bs (formatF false t)).toList == s.toList) = decide (formatF false t = s.toList) := by
          rw [bs_list, Bool.eq_iff_iff, beq_iff_eq, decide_eq_true_eq]
        have hcm2 : ((bs (formatF false t)).toList = s.toList) = (formatF false t = s.toList) := by rw [bs_list]
        by_cases heq : formatF false t = s.toList
        · have HN := Lib.hid (show parseTs s = t ∧ parseBs s = true by
            have hv : validF t = true := by
              cases hv : validF t with
              | true => rfl
              | false =>
                unfold formatF at heq
                rw [hv] at heq
                exact absurd heq.symm h0
            have h1 := parseO_some hv
            unfold formatF at heq
            rw [if_pos hv] at heq
            rw [heq] at h1
            exact ⟨by unfold parseTs; rw [h1]; rfl, by unfold parseBs; rw [h1]; rfl⟩)
          rw [decide_eq_true heq] at hcmp
          have hcm3 : (bs (formatF false t)).toList = s.toList := by rw [hcm2]; exact heq
          clear hnone heq hcm2
          go_wp2_with fail
          refine FT.out.mono ?_
          rintro e w3 ⟨rfl, e3⟩
          have E3 := Lib.hid (E2.out.trans e3)
          have Z3 := Lib.hid (Z2.out.ext e3)
          have T3 := Lib.hid (Tm.at_ext e3 T2.out)
          have bm := B2.out.ext e3
          clear m0 m1 m2 m3 n0 n1 n2 n3 e3
          obtain ⟨m0, m1, m2, m3, n0, n1, n2, n3⟩ := bm
          have bz := Z3.out
          obtain ⟨z0, z1, z2, z3, y0, y1, y2, y3⟩ := bz
          have lz9 := Z3.out.lt
          go_wp2_with fail
          refine ret4b_set (p := 2) (q := 3) (T := 25) (b := w.heap.size) (y := .bool true) (by kernel_rfl) (fun _ => by kernel_rfl) (fun _ => by kernel_rfl) rfl rfl rfl Z3.out ?_
          intro Z fZ
          rw [HN.out.1, HN.out.2]
          exact ⟨ta, tc, rfl, Tm.at_mono (fun b hb => by have hb' : w.heap.size + 1 ≤ b := hb; show w.heap.size ≤ b; omega) (Agree.refl _) (fZ.at T3.out (fun b hb e => by have hb' : w.heap.size + 1 ≤ b := hb; omega)), ((Fr.of_ext E3.out).trans fZ).toExt (fun q hq h => by omega)⟩
        · have HN := Lib.hid (hnone (by
            cases e : parseO s.toList with
            | none => rfl
            | some t0 =>
              have h1 := HX.out t0 e
              obtain ⟨h2, h3⟩ := parseO_spec e
              cases h1
              exact absurd (by unfold formatF; rw [if_pos h2]; exact h3) heq))
          rw [decide_eq_false heq] at hcmp
          have hcm3 : ¬ (bs (formatF false t)).toList = s.toList := by rw [hcm2]; exact heq
          clear hnone heq hcm2
          go_wp2_with fail
          refine FT.out.mono ?_
          rintro e w3 ⟨rfl, e3⟩
          have E3 := Lib.hid (E2.out.trans e3)
          have Z3 := Lib.hid (Z2.out.ext e3)
          clear e3
          have bz := Z3.out
          obtain ⟨z0, z1, z2, z3, y0, y1, y2, y3⟩ := bz
          have lz9 := Z3.out.lt
          go_wp2_with fail
          refine ret4b_set (p := 2) (q := 3) (T := 25) (b := w.heap.size) (v0 := .int .i64 0) (v1 := .int .i64 0) (v2 := .string ⟨#[]⟩) (v3 := .slice none 0 0) (y := .bool false) (by kernel_rfl) (fun _ => by kernel_rfl) (fun _ => by kernel_rfl) rfl rfl rfl Z3.out ?_
          intro Z fZ
          rw [HN.out.1, HN.out.2]
          exact ⟨none, 0, rfl, at_zero _ _ _ _ _ (by decide), ((Fr.of_ext E3.out).trans fZ).toExt (fun q hq h => by omega)⟩
      · have hrl : 0 < r.length := List.length_pos_iff.2 hr
        have hne : (i != (s.size : Int)) = true := by rw [bne_iff_ne]; omega
        have HN := Lib.hid (hnone (by
          cases e : parseO s.toList with
          | none => rfl
          | some t0 => have := HX.out t0 e; cases this; exact absurd rfl hr))
        have bz := Z2.out
        obtain ⟨z0, z1, z2, z3, y0, y1, y2, y3⟩ := bz
        have lz9 := Z2.out.lt
        clear hnone hr
        go_wp2_with fail
        refine ret4b_set (p := 2) (q := 3) (T := 25) (b := w.heap.size) (v0 := .int .i64 0) (v1 := .int .i64 0) (v2 := .string ⟨#[]⟩) (v3 := .slice none 0 0) (y := .bool false) (by kernel_rfl) (fun _ => by kernel_rfl) (fun _ => by kernel_rfl) rfl rfl rfl Z2.out ?_
        intro Z fZ
        rw [HN.out.1, HN.out.2]
        exact ⟨none, 0, rfl, at_zero _ _ _ _ _ (by decide), ((Fr.of_ext E2.out).trans fZ).toExt (fun q hq h => by omega)⟩
end Go.Proofs.YtognkaebiafgbaaGreatDoor

/-
  Equality of terms: what EqualFunc over TermSame, the program's TermSame and eqTerm, eqTermS return on every two terms.
-/
namespace Go.Proofs.YtognkaebiafgbaaGreatDoor
open Go.RowKit Go.Sort
set_option linter.unusedVariables false

/-- a pair of cells of two rows, read -/
theorem pair_get {S S' : Nat → Prop} {w wr : World} {ts us : List Tm} {a a' : Option Addr} {k : Nat} {t u : Tm}
    (h : ts = [] ∨ ∃ b off, a = some ⟨b, off, none⟩ ∧ S b ∧ Tm.row S w b off ts) (h' : us = [] ∨ ∃ b off, a' = some ⟨b, off, none⟩ ∧ S' b ∧ Tm.row S' w b off us)
    (ht : ts[k]? = some t) (hu : us[k]? = some u) (he : Ext w wr) :
    ∃ b off b' off' ak ck ak' ck', a = some ⟨b, off, none⟩ ∧ a' = some ⟨b', off', none⟩ ∧
      (wr.cell? ⟨b, off + k * 4, none⟩ = some (.int .i64 t.kind) ∧ wr.cell? ⟨b, off + k * 4 + 1, none⟩ = some (.int .i64 t.n) ∧ wr.cell? ⟨b, off + k * 4 + 2, none⟩ = some (.string t.name) ∧
        wr.cell? ⟨b, off + k * 4 + 3, none⟩ = some (.slice ak t.kids.length ck) ∧ Tm.at S w t (.agg #[.int .i64 t.kind, .int .i64 t.n, .string t.name, .slice ak t.kids.length ck])) ∧
      (wr.cell? ⟨b', off' + k * 4, none⟩ = some (.int .i64 u.kind) ∧ wr.cell? ⟨b', off' + k * 4 + 1, none⟩ = some (.int .i64 u.n) ∧ wr.cell? ⟨b', off' + k * 4 + 2, none⟩ = some (.string u.name) ∧
        wr.cell? ⟨b', off' + k * 4 + 3, none⟩ = some (.slice ak' u.kids.length ck') ∧ Tm.at S' w u (.agg #[.int .i64 u.kind, .int .i64 u.n, .string u.name, .slice ak' u.kids.length ck'])) := by
  rcases h with h4 | ⟨b, off, rfl, hSb, hrow⟩
  · rw [h4] at ht; simp at ht
  rcases h' with h4 | ⟨b', off', rfl, hSb', hrow'⟩
  · rw [h4] at hu; simp at hu
  obtain ⟨ak, ck, c1, c2, c3, c4, hat⟩ := Tm.at_of_cells (Tm.row_get hrow k t ht)
  obtain ⟨ak', ck', d1, d2, d3, d4, hat'⟩ := Tm.at_of_cells (Tm.row_get hrow' k u hu)
  exact ⟨b, off, b', off', ak, ck, ak', ck', rfl, rfl, ⟨he.cell c1, he.cell c2, he.cell c3, he.cell c4, hat⟩, ⟨he.cell d1, he.cell d2, he.cell d3, he.cell d4, hat'⟩⟩

set_option maxHeartbeats 1000000 in
theorem slicesEqualFunc (ts us : List Tm) (v v' : Value) (S S' : Nat → Prop) (w : World) (ht : Tm.sl S w ts v) (hu : Tm.sl S' w us v')
    (hc : Hid (∀ (j : Nat) (t u : Tm) (vt vu : Value) (w' : World), ts[j]? = some t → us[j]? = some u → Ext w w' → Tm.at S w' t vt → Tm.at S' w' u vu →
      Calls Tryz.prog 47 #[vt, vu] w' fun e w'' => e = .returned (.bool (Tm.same t u)) ∧ Ext w' w'')) :
    Calls Tryz.prog 66 #[v, v', .func (.func 47) #[] #[]] w fun e w' => e = .returned (.bool (Tm.sameL ts us)) ∧ Ext w w' := by
  obtain ⟨a, cap, rfl, h1, h2, h3, h4⟩ := ht
  obtain ⟨a', cap', rfl, h1', h2', h3', h4'⟩ := hu
  have H4 := Lib.hid h4
  have H4' := Lib.hid h4'
  clear h4 h4'
  by_cases e4 : ts.length = us.length
  · have E4 := Lib.hid e4
    have e4' : ((ts.length : Int) != (us.length : Int)) = false := by simp [bne, e4]
    clear e4
    go_enter Tryz.func66, Tryz.ntmps66
    go_wp2_with fail
    go_loopw [7, 8, 9, 17] (fun _ _ _ i wr => ∃ k : Nat, k ≤ ts.length ∧ i = .int .i64 k ∧ SameTo k ts us ∧ Ext w wr) (fun _ _ _ i _ => ts.length - (intOf i).toNat)
    case atStart => exact ⟨0, Nat.zero_le _, rfl, sameTo_zero _ _, Ext.refl _⟩
    case round =>
      obtain ⟨k, hk, rfl, hs, he⟩ := hrel
      have HS := Lib.hid hs
      clear hs
      by_cases hlt : k < ts.length
      · have hlt' : k < us.length := by have := E4.out; omega
        obtain ⟨tk, htk⟩ := getk hlt
        obtain ⟨uk, huk⟩ := getk hlt'
        obtain ⟨b, off, b', off', ak, ck, ak', ck', rfl, rfl, ⟨c1, c2, c3, c4, hat⟩, ⟨d1, d2, d3, d4, hat'⟩⟩ := pair_get H4.out H4'.out htk huk he
        have hcall := fun w' e' => hc.out k tk uk _ _ w' htk huk (he.trans e') (Tm.at_ext (he.trans e') hat) (Tm.at_ext (he.trans e') hat')
        have Htk := Lib.hid htk
        have Huk := Lib.hid huk
        have hb := block_lt_of_cell c1
        have hb' := block_lt_of_cell d1
        clear htk huk hat hat'
        simp only at hb hb'
        cases hsm : Tm.same tk uk
        · simp only [hsm] at hcall
          have HC := Lib.hid hcall
          have hf := Lib.hid (sameL_no Htk.out Huk.out hsm)
          clear hcall hsm
          go_wp2_with fail
          refine (HC.out _ ((Ext.alloc _ _).trans (Ext.alloc _ _))).mono ?_
          rintro e w' ⟨rfl, e'⟩
          go_wp2_with fail
          go_ret
          exact ⟨retB hf.out.symm, he.trans (((Ext.alloc _ _).trans (Ext.alloc _ _)).trans e')⟩
        · simp only [hsm] at hcall
          have HC := Lib.hid hcall
          have hf := Lib.hid (sameTo_succ HS.out Htk.out Huk.out hsm)
          clear hcall hsm
          go_wp2_with fail
          refine (HC.out _ ((Ext.alloc _ _).trans (Ext.alloc _ _))).mono ?_
          rintro e w' ⟨rfl, e'⟩
          go_wp2_with fail
          go_roundw
          case rel => exact ⟨k + 1, by omega, by go_num, hf.out, he.trans (((Ext.alloc _ _).trans (Ext.alloc _ _)).trans e')⟩
          case measure => simp [intOf]; omega
      · have hf := Lib.hid (sameTo_all E4.out (by omega) HS.out)
        go_wp2_with fail
        go_ret
        exact ⟨retB hf.out.symm, he⟩
  · have e4' : ((ts.length : Int) != (us.length : Int)) = true := by simp [bne]; omega
    have hf := Lib.hid (show Tm.sameL ts us = false by cases h : Tm.sameL ts us with | false => rfl | true => exact absurd (sameL_len h) e4)
    clear e4
    go_enter Tryz.func66, Tryz.ntmps66
    go_wp2_with fail
    go_ret
    exact ⟨retB hf.out.symm, Ext.refl _⟩

set_option maxHeartbeats 1000000 in
theorem implTermSame : ∀ (m : Nat) (t u : Tm) (v v' : Value) (S S' : Nat → Prop) (w : World), Tm.sz t ≤ m → Tm.at S w t v → Tm.at S' w u v' →
    Calls Tryz.prog 47 #[v, v'] w fun e w' => e = .returned (.bool (Tm.same t u)) ∧ Ext w w' := by
  intro m
  induction m with
  | zero => intro t u v v' S S' w hm; have := Tm.sz_pos t; omega
  | succ m ih =>
    intro t u v v' S S' w hm ht hu
    have IH := Lib.hid ih
    clear ih
    obtain ⟨k, n, s, ks⟩ := t
    obtain ⟨k', n', s', ks'⟩ := u
    obtain ⟨hs1, sv, rfl, hk⟩ := ht
    obtain ⟨hs2, sv', rfl, hk'⟩ := hu
    have hlt : ∀ (j : Nat) (t : Tm), ks[j]? = some t → Tm.sz t ≤ m := fun j t h => by have := kid_lt (k := k) (n := n) (s := s) h; omega
    have HLT := Lib.hid hlt
    have HK := Lib.hid hk
    have HK' := Lib.hid hk'
    obtain ⟨a, cap, rfl, h1, h2, h3, h4⟩ := hk
    obtain ⟨a', cap', rfl, h1', h2', h3', h4'⟩ := hk'
    clear h4 h4' hm hlt
    cases e1 : (k == k')
    · have e1' : (k != k') = true := by simp [bne, e1]
      have hf := Lib.hid (show Tm.same (.mk k n s ks) (.mk k' n' s' ks') = false by simp only [Tm.same, e1, Bool.false_and])
      go_enter Tryz.func47, Tryz.ntmps47
      go_wp2_with fail
      go_ret
      exact ⟨retB hf.out.symm, (Ext.alloc _ _).trans (Ext.alloc _ _)⟩
    cases e2 : (n == n')
    · have e1' : (k != k') = false := by simp [bne, e1]
      have e2' : (n != n') = true := by simp [bne, e2]
      have hf := Lib.hid (show Tm.same (.mk k n s ks) (.mk k' n' s' ks') = false by simp only [Tm.same, e2, Bool.false_and, Bool.and_false])
      go_enter Tryz.func47, Tryz.ntmps47
      go_wp2_with fail
      go_ret
      exact ⟨retB hf.out.symm, (Ext.alloc _ _).trans (Ext.alloc _ _)⟩
    cases e3 : (s.toList == s'.toList)
    · have e1' : (k != k') = false := by simp [bne, e1]
      have e2' : (n != n') = false := by simp [bne, e2]
      have hf := Lib.hid (show Tm.same (.mk k n s ks) (.mk k' n' s' ks') = false by simp only [Tm.same, e3, Bool.false_and, Bool.and_false])
      go_enter Tryz.func47, Tryz.ntmps47
      go_wp2_with fail
      go_ret
      exact ⟨retB hf.out.symm, (Ext.alloc _ _).trans (Ext.alloc _ _)⟩
    have hq := Lib.hid (show Tm.same (.mk k n s ks) (.mk k' n' s' ks') = Tm.sameL ks ks' by simp only [Tm.same, e1, e2, e3, Bool.true_and])
    have e1' : (k != k') = false := by simp [bne, e1]
    have e2' : (n != n') = false := by simp [bne, e2]
    have hcall := fun w' (e' : Ext w w') => slicesEqualFunc ks ks' _ _ S S' w' (Tm.sl_ext e' HK.out) (Tm.sl_ext e' HK'.out) (Lib.hid fun j t u vt vu w2 ht hu he h1 h2 => IH.out t u vt vu S S' w2 (HLT.out j t ht) h1 h2)
    have HC := Lib.hid hcall
    clear hcall
    go_enter Tryz.func47, Tryz.ntmps47
    go_wp2_with fail
    refine (HC.out _ ((Ext.alloc _ _).trans (Ext.alloc _ _))).mono ?_
    rintro e w' ⟨rfl, e'⟩
    go_wp2_with fail
    go_ret
    exact ⟨retB hq.out.symm, ((Ext.alloc _ _).trans (Ext.alloc _ _)).trans e'⟩

/-- what eqTerms says of the arguments of two terms -/
def EqS (ts us : List Tm) : Prop := ∀ (v v' : Value) (S S' : Nat → Prop) (w : World), Tm.sl S w ts v → Tm.sl S' w us v' →
    Calls Tryz.prog 90 #[v, v'] w fun e w' => e = .returned (.bool (Tm.sameL ts us)) ∧ Ext w w'

set_option maxHeartbeats 1000000 in
theorem lawseqTerm (t u : Tm) (hks : Hid (EqS t.kids u.kids)) (v v' : Value) (S S' : Nat → Prop) (w : World) (ht : Tm.at S w t v) (hu : Tm.at S' w u v') :
    Calls Tryz.prog 39 #[v, v'] w fun e w' => e = .returned (.bool (Tm.same t u)) ∧ Ext w w' := by
  obtain ⟨k, n, s, ks⟩ := t
  obtain ⟨k', n', s', ks'⟩ := u
  obtain ⟨hs1, sv, rfl, hk⟩ := ht
  obtain ⟨hs2, sv', rfl, hk'⟩ := hu
  have HK := Lib.hid hk
  have HK' := Lib.hid hk'
  obtain ⟨a, cap, rfl, h1, h2, h3, h4⟩ := hk
  obtain ⟨a', cap', rfl, h1', h2', h3', h4'⟩ := hk'
  clear h4 h4'
  cases e1 : (k == k')
  · have e1' : (k != k') = true := by simp [bne, e1]
    have hf := Lib.hid (show Tm.same (.mk k n s ks) (.mk k' n' s' ks') = false by simp only [Tm.same, e1, Bool.false_and])
    go_enter Tryz.func39, Tryz.ntmps39
    go_wp2_with fail
    go_ret
    exact ⟨retB hf.out.symm, (Ext.alloc _ _).trans (Ext.alloc _ _)⟩
  cases e2 : (n == n')
  · have e1' : (k != k') = false := by simp [bne, e1]
    have e2' : (n != n') = true := by simp [bne, e2]
    have hf := Lib.hid (show Tm.same (.mk k n s ks) (.mk k' n' s' ks') = false by simp only [Tm.same, e2, Bool.false_and, Bool.and_false])
    go_enter Tryz.func39, Tryz.ntmps39
    go_wp2_with fail
    go_ret
    exact ⟨retB hf.out.symm, (Ext.alloc _ _).trans (Ext.alloc _ _)⟩
  cases e3 : (s.toList == s'.toList)
  · have e1' : (k != k') = false := by simp [bne, e1]
    have e2' : (n != n') = false := by simp [bne, e2]
    have hf := Lib.hid (show Tm.same (.mk k n s ks) (.mk k' n' s' ks') = false by simp only [Tm.same, e3, Bool.false_and, Bool.and_false])
    go_enter Tryz.func39, Tryz.ntmps39
    go_wp2_with fail
    go_ret
    exact ⟨retB hf.out.symm, (Ext.alloc _ _).trans (Ext.alloc _ _)⟩
  have hq := Lib.hid (show Tm.same (.mk k n s ks) (.mk k' n' s' ks') = Tm.sameL ks ks' by simp only [Tm.same, e1, e2, e3, Bool.true_and])
  have e1' : (k != k') = false := by simp [bne, e1]
  have e2' : (n != n') = false := by simp [bne, e2]
  have hcall := fun w' (e' : Ext w w') => hks.out _ _ S S' w' (Tm.sl_ext e' HK.out) (Tm.sl_ext e' HK'.out)
  cases hsm : Tm.sameL ks ks'
  all_goals
    simp only [Tm.kids, hsm] at hcall
    have HC := Lib.hid hcall
    have hf := Lib.hid hsm
    clear hcall hsm
    go_enter Tryz.func39, Tryz.ntmps39
    go_wp2_with fail
    refine (HC.out _ ((Ext.alloc _ _).trans (Ext.alloc _ _))).mono ?_
    rintro e w' ⟨rfl, e'⟩
    go_wp2_with fail
    go_ret
    exact ⟨retB (by rw [hq.out, hf.out]), ((Ext.alloc _ _).trans (Ext.alloc _ _)).trans e'⟩

set_option maxHeartbeats 1000000 in
theorem lawseqTermS : ∀ (m : Nat) (ts us : List Tm), Tm.szL ts ≤ m → EqS ts us := by
  intro m
  induction m using Nat.strongRecOn with
  | _ m ih =>
    intro ts us hm v v' S S' w ht hu
    have IH := Lib.hid (show ∀ (j : Nat) (t u : Tm), ts[j]? = some t → EqS t.kids u.kids from fun j t u h => by
      have h1 := Tm.sz_mem h
      have h2 : Tm.szL t.kids < Tm.sz t := by cases t; simp only [Tm.sz, Tm.kids]; omega
      exact ih (Tm.szL t.kids) (by omega) t.kids u.kids (Nat.le_refl _))
    clear ih hm
    obtain ⟨a, cap, rfl, h1, h2, h3, h4⟩ := ht
    obtain ⟨a', cap', rfl, h1', h2', h3', h4'⟩ := hu
    have H4 := Lib.hid h4
    have H4' := Lib.hid h4'
    clear h4 h4'
    by_cases e4 : ts.length = us.length
    · have E4 := Lib.hid e4
      have e4' : ((ts.length : Int) != (us.length : Int)) = false := by simp [bne, e4]
      clear e4
      go_enter Tryz.func90, Tryz.ntmps90
      go_wp2_with fail
      go_loopw [5] (fun i wr => ∃ k : Nat, k ≤ ts.length ∧ i = .int .i64 k ∧ SameTo k ts us ∧ Ext w wr) (fun i _ => ts.length - (intOf i).toNat)
      case atStart => exact ⟨0, Nat.zero_le _, rfl, sameTo_zero _ _, Ext.refl _⟩
      case round =>
        obtain ⟨k, hk, rfl, hs, he⟩ := hrel
        have HS := Lib.hid hs
        clear hs
        by_cases hlt : k < ts.length
        · have hlt' : k < us.length := by have := E4.out; omega
          obtain ⟨tk, htk⟩ := getk hlt
          obtain ⟨uk, huk⟩ := getk hlt'
          obtain ⟨b, off, b', off', ak, ck, ak', ck', rfl, rfl, ⟨c1, c2, c3, c4, hat⟩, ⟨d1, d2, d3, d4, hat'⟩⟩ := pair_get H4.out H4'.out htk huk he
          have cQ := quiet_call (w := wr) (fun w' e' => lawseqTerm tk uk (Lib.hid (IH.out k tk uk htk)) _ _ S S' w' (Tm.at_ext (he.trans e') hat) (Tm.at_ext (he.trans e') hat'))
          have k1 := cell_regrown c1
          have k2 := cell_regrown c2
          have k3 := cell_regrown c3
          have k4 := cell_regrown c4
          have l1 := cell_regrown d1
          have l2 := cell_regrown d2
          have l3 := cell_regrown d3
          have l4 := cell_regrown d4
          have Htk := Lib.hid htk
          have Huk := Lib.hid huk
          clear c1 c2 c3 c4 d1 d2 d3 d4 htk huk hat hat'
          cases hsm : Tm.same tk uk
          · simp only [hsm] at cQ
            have hf := Lib.hid (sameL_no Htk.out Huk.out hsm)
            clear hsm
            go_wp2_with fail
            refine region_ext (by kernel_rfl) (by kernel_rfl) ?_
            repeat (quiet_step (exact cQ _ _))
            refine wpQuiet_nil ?_
            intro wq eq
            go_wp2_with fail
            go_ret
            exact ⟨retB hf.out.symm, he.trans eq⟩
          · simp only [hsm] at cQ
            have hf := Lib.hid (sameTo_succ HS.out Htk.out Huk.out hsm)
            clear hsm
            go_wp2_with fail
            refine region_ext (by kernel_rfl) (by kernel_rfl) ?_
            repeat (quiet_step (exact cQ _ _))
            refine wpQuiet_nil ?_
            intro wq eq
            go_wp2_with fail
            go_roundw
            case rel => exact ⟨k + 1, by omega, by go_num, hf.out, he.trans eq⟩
            case measure => simp [intOf]; omega
        · have hf := Lib.hid (sameTo_all E4.out (by omega) HS.out)
          go_wp2_with fail
          go_ret
          exact ⟨retB hf.out.symm, he⟩
    · have e4' : ((ts.length : Int) != (us.length : Int)) = true := by simp [bne]; omega
      have hf := Lib.hid (show Tm.sameL ts us = false by cases h : Tm.sameL ts us with | false => rfl | true => exact absurd (sameL_len h) e4)
      clear e4
      go_enter Tryz.func90, Tryz.ntmps90
      go_wp2_with fail
      go_ret
      exact ⟨retB hf.out.symm, Ext.refl _⟩
theorem lawseqTerm_any (t u : Tm) (v v' : Value) (S S' : Nat → Prop) (w : World) (ht : Tm.at S w t v) (hu : Tm.at S' w u v') :
    Calls Tryz.prog 39 #[v, v'] w fun e w' => e = .returned (.bool (Tm.same t u)) ∧ Ext w w' :=
  lawseqTerm t u (Lib.hid (lawseqTermS _ _ _ (Nat.le_refl _))) v v' S S' w ht hu

mutual
theorem same_refl : ∀ t : Tm, Tm.same t t = true
  | .mk k n s ks => by simp only [Tm.same, sameL_refl ks]; simp
theorem sameL_refl : ∀ ts : List Tm, Tm.sameL ts ts = true
  | [] => by simp [Tm.sameL]
  | t :: ts => by simp only [Tm.sameL, same_refl t, sameL_refl ts, Bool.and_self]
end
mutual
theorem same_eq : ∀ (t u : Tm), Tm.same t u = true → t = u
  | .mk k n s ks, .mk k' n' s' ks', h => by
    simp only [Tm.same, Bool.and_eq_true, beq_iff_eq] at h
    obtain ⟨⟨⟨rfl, rfl⟩, h3⟩, h4⟩ := h
    rw [bl_ext h3, sameL_eq ks ks' h4]
theorem sameL_eq : ∀ (ts us : List Tm), Tm.sameL ts us = true → ts = us
  | [], [], _ => rfl
  | t :: ts, u :: us, h => by
    simp only [Tm.sameL, Bool.and_eq_true] at h
    rw [same_eq t u h.1, sameL_eq ts us h.2]
  | [], _ :: _, h => by simp [Tm.sameL] at h
  | _ :: _, [], h => by simp [Tm.sameL] at h
end

end Go.Proofs.YtognkaebiafgbaaGreatDoor
