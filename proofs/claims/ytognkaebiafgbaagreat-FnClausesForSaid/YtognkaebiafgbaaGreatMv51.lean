/-
  Plain facts of the clauses for a goal: a clause whose head unifies with the goal is one of them, and they have the goal's name.
-/
import Derived.ProofKit
import Derived.Test.YtognkaebiafgbaaGreatMv42
import Derived.Test.YtognkaebiafgbaaGreatMv50
import Derived.Test.YtognkaebiafgbaaGreatMv25
import Derived.Test.YtognkaebiafgbaaGreatMv14
import Derived.Test.YtognkaebiafgbaaGreatMv2
namespace Go.Proofs.YtognkaebiafgbaaGreat
open Go.RowKit
set_option linter.unusedVariables false
theorem walk_three {f : Nat} {K : List Tm} {t x : Tm} (hk : t.kind = 3) (h : walkF f K t = some x) : x = t := by
  cases f with
  | zero => simp [walkF] at h
  | succ f =>
    rw [walkF, if_neg (by rw [hk]; simp)] at h
    exact (Option.some.inj h).symm
theorem ut_match {a b : Tm} (h : utB a b = true) (ha : a.kind = 3) (hb : b.kind = 3) : a.name = b.name ∧ a.kids.length = b.kids.length := by
  unfold utB at h
  simp only [Bool.and_eq_true] at h
  obtain ⟨⟨⟨va, vb⟩, hr⟩, _⟩ := h
  obtain ⟨f, hf⟩ := uniR_spec (valid_parts va).1 (valid_parts vb).1
  cases f with
  | zero => simp [uniF] at hf
  | succ f =>
    obtain ⟨x, y, hx, hy⟩ := uniF_walks hf
    obtain rfl := walk_three ha hx
    obtain rfl := walk_three hb hy
    rw [uniF_succ hx hy, if_neg (by rw [ha]; simp), if_neg (by rw [ha]; decide), if_neg (by rw [hb]; decide)] at hf
    split at hf
    · rename_i h; exact ⟨h.2.2.1, h.2.2.2⟩
    · have := Option.some.inj hf
      rw [← this] at hr
      cases hr
theorem hasI_iff {zs : List Int} {x : Int} : hasI zs x = true ↔ x ∈ zs := by unfold hasI; simp
theorem has_for (cs : List Cl) (t : Tm) : ∀ (k i : Nat), (i : Int) ∈ forK cs t k ↔ (i < k ∧ ∃ c, cs[i]? = some c ∧ matC c t = true)
  | 0, i => by simp [forK]
  | k + 1, i => by
    have ih := has_for cs t k i
    cases hc : cs[k]? with
    | none =>
      simp only [forK, hc]
      rw [ih]
      constructor
      · rintro ⟨h1, h2⟩; exact ⟨by omega, h2⟩
      · rintro ⟨h1, c, h2, h3⟩
        rcases Nat.lt_or_ge i k with h | h
        · exact ⟨h, c, h2, h3⟩
        · obtain rfl : i = k := by omega
          rw [hc] at h2; cases h2
    | some c =>
      by_cases hm : matC c t = true
      · rw [forK_yes hc hm, List.mem_append, ih]
        constructor
        · rintro (⟨h1, h2⟩ | h)
          · exact ⟨by omega, h2⟩
          · obtain rfl : i = k := by simp at h; omega
            exact ⟨by omega, c, hc, hm⟩
        · rintro ⟨h1, c', h2, h3⟩
          rcases Nat.lt_or_ge i k with h | h
          · exact .inl ⟨h, c', h2, h3⟩
          · obtain rfl : i = k := by omega
            exact .inr (by simp)
      · rw [forK_no hc (by simpa using hm), ih]
        constructor
        · rintro ⟨h1, h2⟩; exact ⟨by omega, h2⟩
        · rintro ⟨h1, c', h2, h3⟩
          rcases Nat.lt_or_ge i k with h | h
          · exact ⟨h, c', h2, h3⟩
          · obtain rfl : i = k := by omega
            rw [hc] at h2
            obtain rfl := Option.some.inj h2
            exact absurd h3 hm
theorem cf_key {cs : List Cl} {t : Tm} {i : Nat} {c : Cl} (hp : prValidF cs = true) (hg : goalF t = true) (hc : cs[i]? = some c) :
    (utB c.head t = true → hasI (cforF cs t) (i : Int) = true) ∧ (hasI (cforF cs t) (i : Int) = true → c.head.name.toList = t.name.toList) := by
  have hcv := (pr_mem hp).2 c (List.mem_of_getElem? hc)
  have hpl : plainF c.head.kind c.head.name c.head.kids.length = true := by
    simp only [clValidF, Bool.and_eq_true] at hcv
    exact hcv.1.2
  have hk : c.head.kind = 3 := by
    simp only [plainF, Bool.and_eq_true, beq_iff_eq] at hpl
    exact hpl.1.1.1
  have hvt : validF t = true ∧ t.kind = 3 := by
    obtain ⟨k, n, s, ks⟩ := t
    simp only [goalF, cutF, plainF, builtF, Bool.and_eq_true, Bool.or_eq_true, beq_iff_eq] at hg
    refine ⟨hg.1, ?_⟩
    rcases hg.2 with (h | h) | h
    · exact h.1.1
    · exact h.1.1.1
    · exact h.1
  constructor
  · intro h
    obtain ⟨e1, e2⟩ := ut_match h hk hvt.2
    have hpt : plainF t.kind t.name t.kids.length = true := by rw [hvt.2, ← e1, ← e2, ← hk]; exact hpl
    unfold cforF
    rw [if_pos (by rw [hp, hvt.1, hpt]; rfl), hasI_iff, has_for]
    exact ⟨(List.getElem?_eq_some_iff.1 hc).1, c, hc, by simp [matC, e1, e2]⟩
  · intro h
    unfold cforF at h
    split at h
    · rw [hasI_iff, has_for] at h
      obtain ⟨_, c', h2, h3⟩ := h
      rw [hc] at h2
      obtain rfl := Option.some.inj h2
      simp only [matC, Bool.and_eq_true, beq_iff_eq] at h3
      exact h3.1
    · simp [hasI] at h
end Go.Proofs.YtognkaebiafgbaaGreat

namespace Go.Proofs.YtognkaebiafgbaaGreat
open Go.RowKit Go.Sort
set_option linter.unusedVariables false
set_option maxRecDepth 100000 in
set_option maxHeartbeats 2000000 in
theorem specl4For (cs : List Cl) (t : Tm) (v v' : Value) (S S' : Nat → Prop) (w : World) (hc : Cl.sl S w cs v) (ht : Tm.at S' w t v') : Calls Tryz.prog 25 #[v, v'] w (IntsOut (forK cs t cs.length) w) := by
  obtain ⟨i0, hi, hz0, hz1, hz2⟩ := info_parts info_int
  have HI := Lib.hid hi
  have HZ0 := Lib.hid hz0
  have HZ1 := Lib.hid hz1
  have HZ2 := Lib.hid hz2
  obtain ⟨a, cap, rfl, h1, h2, h3, h4⟩ := hc
  obtain ⟨ta, tc, rfl⟩ := at_form ht
  have H4 := Lib.hid h4
  clear h4 hi hz0 hz1 hz2 ht
  go_enter Tryz.func25, Tryz.ntmps25
  go_wp2_with fail
  go_loopw [5, 6] (fun q i wr => ∃ (j : Nat), j ≤ cs.length ∧ i = .int .i64 j ∧ Hid (IntI (fun b => w.heap.size + 1 ≤ b) (forK cs t j) q wr) ∧ Ext w wr ∧ w.heap.size < wr.heap.size ∧ wr.cell? ⟨w.heap.size, 2, none⟩ = some (.string t.name) ∧ wr.cell? ⟨w.heap.size, 3, none⟩ = some (.slice ta t.kids.length tc)) (fun _ i _ => cs.length - (intOf i).toNat)
  case atStart => exact ⟨0, Nat.zero_le _, rfl, Lib.hid (IntI.empty (by simp) (by omega)), (Ext.alloc _ _).trans (Ext.alloc _ _), by simp; omega, by go_simp, by go_simp⟩
  case round =>
    obtain ⟨j, hj, rfl, HQ, he, hsz, p2, p3⟩ := hrel
    by_cases hlt : j < cs.length
    · obtain ⟨c, hc⟩ := cgetk hlt
      obtain ⟨b, off, ak, ck, al, cl, rfl, c0, c1, c2, c3, c4, hat, hsl⟩ := Cl.get H4.out hc he
      have HC := Lib.hid hc
      have hbw := block_lt_of_cell c0
      simp only at hbw
      obtain ⟨av, qc, rfl⟩ := HQ.out.form
      clear hc hat hsl
      have k0 := cell_regrown c0
      have k1 := cell_regrown c1
      have k2 := cell_regrown c2
      have k3 := cell_regrown c3
      have k4 := cell_regrown c4
      have k5 := cell_regrown p2
      have k6 := cell_regrown p3
      have hlen := forK_len cs t j
      have HL : Hid ((forK cs t j).length < 1048576) := Lib.hid (by omega)
      have P2 := Lib.hid p2
      have P3 := Lib.hid p3
      have HE := Lib.hid he
      have HSZ := Lib.hid hsz
      clear hlen c0 c1 c2 c3 c4 p2 p3 he hsz hbw
      go_wp2_with fail
      cases e1 : (c.head.name.toList == t.name.toList)
      · have HN := Lib.hid (forK_no (t := t) HC.out (by unfold matC; rw [e1]; rfl))
        refine region_ext (by kernel_rfl) (by kernel_rfl) ?_
        repeat (go_big_quiet_step (fail))
        refine wpQuiet_nil ?_
        intro wq eq
        go_wp2_with fail
        go_roundw
        case rel => exact ⟨j + 1, by omega, by go_num, Lib.hid (by rw [HN.out]; exact HQ.out.ext eq), HE.out.trans eq, Nat.lt_of_lt_of_le HSZ.out (Below.size eq), eq.cell P2.out, eq.cell P3.out⟩
        case measure => simp [intOf]; omega
      cases e2 : ((c.head.kids.length : Int) == (t.kids.length : Int))
      · have HN := Lib.hid (forK_no (t := t) HC.out (by unfold matC; rw [e1, e2]; rfl))
        refine region_ext (by kernel_rfl) (by kernel_rfl) ?_
        repeat (go_big_quiet_step (fail))
        refine wpQuiet_nil ?_
        intro wq eq
        go_wp2_with fail
        go_roundw
        case rel => exact ⟨j + 1, by omega, by go_num, Lib.hid (by rw [HN.out]; exact HQ.out.ext eq), HE.out.trans eq, Nat.lt_of_lt_of_le HSZ.out (Below.size eq), eq.cell P2.out, eq.cell P3.out⟩
        case measure => simp [intOf]; omega
      · have HN := Lib.hid (forK_yes (t := t) HC.out (by unfold matC; rw [e1, e2]; rfl))
        refine region_ext (by kernel_rfl) (by kernel_rfl) ?_
        repeat (go_big_quiet_step (fail))
        refine wpQuiet_nil ?_
        intro wq eq
        have Q1 := Lib.hid (HQ.out.ext eq)
        have p2' := eq.cell P2.out
        have p3' := eq.cell P3.out
        have hs1 := Below.size eq
        have E1 := Lib.hid (HE.out.trans eq)
        have hsz := HSZ.out
        have HZB : Hid (∀ b, wq.heap.size ≤ b → w.heap.size + 1 ≤ b) := Lib.hid (fun b h => by omega)
        clear k0 k1 k2 k3 k4 k5 k6
        go_wp2_with (at_builtin; refine wpList_append_int (w1 := wq) rfl (.tmp 36) (.tmp 38) 29 rfl (fun b => w.heap.size + 1 ≤ b) i0 Tryz.underlying29 HI.out HZ0.out HZ1.out HZ2.out _ (forK cs t j) j rfl Q1.out rfl HL.out HZB.out (by simp) ?_; intro av2 cv2 w2 hI2 hf2; have I2 := Lib.hid hI2; have F2 := Lib.hid hf2; clear hI2 hf2)
        go_roundw
        case rel =>
          have hl2 : (forK cs t j ++ [(j : Int)]).length = (forK cs t j).length + 1 := by simp
          exact ⟨j + 1, by omega, by go_num, Lib.hid (by rw [HN.out]; exact I2.out), ((Fr.of_ext E1.out).trans F2.out).toExt (fun k hk h => by omega), by have := F2.out.size; omega, F2.out.cell (by omega) p2', F2.out.cell (by omega) p3'⟩
        case measure => simp [intOf]; omega
    · have hjl : j = cs.length := by omega
      subst hjl
      go_wp2_with fail
      go_ret
      exact ⟨_, rfl, HQ.out.zone (fun b h => by omega), he⟩
set_option maxRecDepth 100000 in
set_option maxHeartbeats 2000000 in
theorem specClausesFor (cs : List Cl) (t : Tm) (v v' : Value) (S S' : Nat → Prop) (w : World) (hc : Cl.sl S w cs v) (ht : Tm.at S' w t v') : Calls Tryz.prog 7 #[v, v'] w (IntsOut (cforF cs t) w) := by
  have HP := Lib.hid (fun w' (e' : Ext w w') => specProgramValid cs v S w' (Cl.sl_ext e' hc))
  have HT := Lib.hid (fun w' (e' : Ext w w') => specTermValid t v' S' w' (Tm.at_ext e' ht))
  have HL := Lib.hid (fun w' (e' : Ext w w') => specl4Plain_t t v' S' w' (Tm.at_ext e' ht))
  have HC := Lib.hid (fun w' (e' : Ext w w') => specl4For cs t v v' S S' w' (Cl.sl_ext e' hc) (Tm.at_ext e' ht))
  obtain ⟨a, c, rfl⟩ := at_form ht
  obtain ⟨b, d, rfl, _⟩ := hc
  clear ht
  cases h1 : prValidF cs
  · have HF : Hid (cforF cs t = []) := Lib.hid (by unfold cforF; rw [h1]; rfl)
    have H1 := Lib.hid h1
    clear h1
    go_enter Tryz.func7, Tryz.ntmps7
    go_wp2_with fail
    refine (HP.out _ (Ext.alloc _ _)).mono ?_
    rw [H1.out]
    rintro e w1 ⟨rfl, q⟩
    have hz := Below.size q
    go_wp2_with fail
    go_ret
    exact ⟨_, rfl, by rw [HF.out]; exact IntI.empty rfl (by first | omega | (simp at hz; omega)), ((Ext.alloc _ _).trans q).trans (Ext.alloc _ _)⟩
  cases h2 : validF t
  · have HF : Hid (cforF cs t = []) := Lib.hid (by unfold cforF; rw [h1, h2]; rfl)
    have H1 := Lib.hid h1
    have H2 := Lib.hid h2
    clear h1 h2
    go_enter Tryz.func7, Tryz.ntmps7
    go_wp2_with fail
    refine (HP.out _ (Ext.alloc _ _)).mono ?_
    rw [H1.out]
    rintro e w1 ⟨rfl, q⟩
    have X := Lib.hid ((BoxT.new w (.int .i64 t.kind) (.int .i64 t.n) (.string t.name) (.slice a t.kids.length c) 26 rfl).ext q)
    have E := Lib.hid ((Ext.alloc w (.cells #[.int .i64 t.kind, .int .i64 t.n, .string t.name, .slice a t.kids.length c] 26)).trans q)
    clear q
    obtain ⟨x0, x1, x2, x3, _, _, _, _⟩ := X.out
    go_wp2_with fail
    refine (HT.out _ E.out).mono ?_
    rw [H2.out]
    rintro e w2 ⟨rfl, q⟩
    have hz := Below.size q
    have hz0 := Below.size E.out
    go_wp2_with fail
    go_ret
    exact ⟨_, rfl, by rw [HF.out]; exact IntI.empty rfl (by first | omega | (simp at hz; omega)), (E.out.trans q).trans (Ext.alloc _ _)⟩
  cases h3 : plainF t.kind t.name t.kids.length
  · have HF : Hid (cforF cs t = []) := Lib.hid (by unfold cforF; rw [h1, h2, h3]; rfl)
    have H1 := Lib.hid h1
    have H2 := Lib.hid h2
    have H3 := Lib.hid h3
    clear h1 h2 h3
    go_enter Tryz.func7, Tryz.ntmps7
    go_wp2_with fail
    refine (HP.out _ (Ext.alloc _ _)).mono ?_
    rw [H1.out]
    rintro e w1 ⟨rfl, q⟩
    have X := Lib.hid ((BoxT.new w (.int .i64 t.kind) (.int .i64 t.n) (.string t.name) (.slice a t.kids.length c) 26 rfl).ext q)
    have E := Lib.hid ((Ext.alloc w (.cells #[.int .i64 t.kind, .int .i64 t.n, .string t.name, .slice a t.kids.length c] 26)).trans q)
    clear q
    obtain ⟨x0, x1, x2, x3, _, _, _, _⟩ := X.out
    go_wp2_with fail
    refine (HT.out _ E.out).mono ?_
    rw [H2.out]
    rintro e w2 ⟨rfl, q⟩
    have X := Lib.hid (X.out.ext q)
    have E := Lib.hid (E.out.trans q)
    clear q x0 x1 x2 x3
    obtain ⟨x0, x1, x2, x3, _, _, _, _⟩ := X.out
    go_wp2_with fail
    refine (HL.out _ E.out).mono ?_
    rw [H3.out]
    rintro e w3 ⟨rfl, q⟩
    have hz := Below.size q
    have hz0 := Below.size E.out
    go_wp2_with fail
    go_ret
    exact ⟨_, rfl, by rw [HF.out]; exact IntI.empty rfl (by first | omega | (simp at hz; omega)), (E.out.trans q).trans (Ext.alloc _ _)⟩
  · have HF : Hid (cforF cs t = forK cs t cs.length) := Lib.hid (by unfold cforF; rw [h1, h2, h3]; rfl)
    have H1 := Lib.hid h1
    have H2 := Lib.hid h2
    have H3 := Lib.hid h3
    clear h1 h2 h3
    go_enter Tryz.func7, Tryz.ntmps7
    go_wp2_with fail
    refine (HP.out _ (Ext.alloc _ _)).mono ?_
    rw [H1.out]
    rintro e w1 ⟨rfl, q⟩
    have X := Lib.hid ((BoxT.new w (.int .i64 t.kind) (.int .i64 t.n) (.string t.name) (.slice a t.kids.length c) 26 rfl).ext q)
    have E := Lib.hid ((Ext.alloc w (.cells #[.int .i64 t.kind, .int .i64 t.n, .string t.name, .slice a t.kids.length c] 26)).trans q)
    clear q
    obtain ⟨x0, x1, x2, x3, _, _, _, _⟩ := X.out
    go_wp2_with fail
    refine (HT.out _ E.out).mono ?_
    rw [H2.out]
    rintro e w2 ⟨rfl, q⟩
    have X := Lib.hid (X.out.ext q)
    have E := Lib.hid (E.out.trans q)
    clear q x0 x1 x2 x3
    obtain ⟨x0, x1, x2, x3, _, _, _, _⟩ := X.out
    go_wp2_with fail
    refine (HL.out _ E.out).mono ?_
    rw [H3.out]
    rintro e w3 ⟨rfl, q⟩
    have X := Lib.hid (X.out.ext q)
    have E := Lib.hid (E.out.trans q)
    clear q x0 x1 x2 x3
    obtain ⟨x0, x1, x2, x3, _, _, _, _⟩ := X.out
    go_wp2_with fail
    refine (HC.out _ E.out).mono ?_
    rintro e w5 ⟨v5, rfl, hI, q⟩
    have hz0 := Below.size E.out
    have I := Lib.hid hI
    have Q := Lib.hid q
    clear hI q
    go_wp2_with fail
    go_ret
    exact ⟨_, rfl, by rw [HF.out]; exact I.out.zone (fun b h => by omega), E.out.trans Q.out⟩
end Go.Proofs.YtognkaebiafgbaaGreat

namespace Go.Proofs.YtognkaebiafgbaaGreat
open Go.ChangeShapes Go.WideShapes Go.ChangeAt Go.RowKit
set_option linter.unusedVariables false
theorem badd_add (b off n : Nat) : (⟨b, off, none⟩ : Addr).add n = ⟨b, off + n, none⟩ := by
  unfold Addr.add
  by_cases h : n = 0
  · subst h; rfl
  · rw [if_neg h]
theorem bspot_none {w : World} {a : Addr} {v : Value} (h : w.cell? a = some v) : a = ⟨a.block, a.off, none⟩ := by
  obtain ⟨b, o, s⟩ := a
  cases s with
  | none => rfl
  | some s => simp [World.cell?] at h; split at h <;> simp at h
theorem bytes_of_trod {H : Type} {enc : TypeId × Value → H} {w : World} {a : Option Addr} {len cap : Nat} {d : DataW H} {ps : List MemPlace}
    (h : DataW.Trod enc Tryz.prog w 0 (fun _ => true) true 22 (.slice a len cap) d ps) : BytesAt w (.slice a len cap) := by
  obtain ⟨fuel, hf⟩ := h
  rcases open_ints Tryz.underlying22 Tryz.underlying5 (by kernel_rfl) hf with ⟨hcs, _⟩ | ⟨x, l, c, zs, hcs, _, hl, hm, hz, _, hcell, hwz⟩
  · simp [Value.cells] at hcs
    obtain ⟨rfl, rfl, rfl⟩ := hcs
    exact ⟨none, 0, 0, rfl, by omega, by omega, .inl rfl⟩
  · simp [Value.cells] at hcs
    obtain ⟨rfl, rfl, rfl⟩ := hcs
    have hz' : zs.length = cap := by simpa using hz
    refine ⟨_, len, cap, rfl, hl, hm, ?_⟩
    by_cases h0 : len = 0
    · exact .inl h0
    · have hx : x = ⟨x.block, x.off, none⟩ := by
        have := bspot_none (hcell 0 (by omega))
        simpa [Addr.add] using this
      refine .inr ⟨x.block, x.off, by rw [← hx], fun i hi => ?_⟩
      have hc := hcell i (by omega)
      rw [hx, badd_add] at hc
      have hmem : zs.getD i 0 ∈ zs := by
        rw [List.getD_eq_getElem?_getD, List.getElem?_eq_getElem (by omega)]
        exact List.getElem_mem _
      have hw := hwz _ hmem
      generalize zs.getD i 0 = z at hc hw
      have hb : 0 ≤ z ∧ z ≤ 255 := by
        simp [Lit.wf, IntKind.min, IntKind.max, IntKind.bits, IntKind.signed] at hw
        omega
      obtain ⟨n, rfl⟩ := Int.eq_ofNat_of_zero_le hb.1
      exact ⟨n, by omega, hc⟩
end Go.Proofs.YtognkaebiafgbaaGreat
