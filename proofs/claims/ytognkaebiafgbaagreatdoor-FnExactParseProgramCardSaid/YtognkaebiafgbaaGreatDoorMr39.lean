/-
  The program's atom, variable, pair and chain: what they make shares nothing.
-/
import Derived.Deep.CutBlock
import Derived.Deep.LoopGhost
import Derived.Test.YtognkaebiafgbaaGreatDoorMr38
import Derived.Test.YtognkaebiafgbaaGreatDoorMr27
namespace Go.Proofs.YtognkaebiafgbaaGreatDoor
open Go.RowKit
set_option linter.unusedVariables false
set_option maxRecDepth 100000 in
theorem rdatom (s : ByteArray) (w : World) : Calls Tryz.prog 136 #[.string s] w fun e w' => e = .returned (.agg #[.int .i64 3, .int .i64 0, .string s, .slice none 0 0]) ∧ Ext w w' := by
  go_enter Tryz.func136, Tryz.ntmps136
  go_wp2_with fail
  refine ret4 (p := 2) (T := 25) (b := w.heap.size) (v0 := .int .i64 3) (v1 := .int .i64 0) (v2 := .string s) (v3 := .slice none 0 0) (by kernel_rfl) (fun _ => by kernel_rfl) (fun _ => by kernel_rfl) rfl rfl (by go_simp) (by go_simp) (by go_simp) (by go_simp) ?_
  exact ⟨rfl, Ext.alloc _ _⟩
set_option maxRecDepth 100000 in
theorem rdvariable (n : Int) (w : World) : Calls Tryz.prog 131 #[.int .i64 n] w (TmO (.mk 1 n eN []) w) := by
  go_enter Tryz.func131, Tryz.ntmps131
  go_wp2_with fail
  refine ret4 (p := 2) (T := 25) (b := w.heap.size) (v0 := .int .i64 1) (v1 := .int .i64 n) (v2 := .string ⟨#[]⟩) (v3 := .slice none 0 0) (by kernel_rfl) (fun _ => by kernel_rfl) (fun _ => by kernel_rfl) rfl rfl (by go_simp) (by go_simp) (by go_simp) (by go_simp) ?_
  exact ⟨none, 0, rfl, own_nil _ _ _ _ _ (by decide), Ext.alloc _ _⟩
theorem owns_two {F1 F2 : Nat → Prop} {w w' : World} {t u : Tm} {a1 a2 : Option Addr} {c1 c2 : Nat} {g : Nat} (h1 : Tm.own F1 w t (.slice a1 t.kids.length c1)) (h2 : Tm.own F2 w u (.slice a2 u.kids.length c2))
    (hd : ∀ b, F1 b → ¬ F2 b) (e : Ext w w') (hg : w.heap.size ≤ g) (hc : w'.heap[g]? = some (.cells (tcells t a1 c1 ++ tcells u a2 c2).toArray 25)) :
    OwnS (fun b => F1 b ∨ F2 b ∨ w.heap.size ≤ b) [t, u] (.slice (some ⟨g, 0, none⟩) 2 2) w' := by
  have k1 := own_ext1 (own_bound _ _ h1) e
  have k2 := own_ext1 (own_bound _ _ h2) e
  refine ⟨tcells t a1 c1 ++ tcells u a2 c2, ⟨by simp [tcells], .inr ⟨g, 2, _, rfl, Nat.zero_le _, hc, Nat.le_refl _, by decide, by simp [tcells], by simp [tcells]⟩⟩, fun b hb => ?_, ?_⟩
  · simp only [Value.ownBlock, Option.some.injEq] at hb
    exact .inr (.inr (by omega))
  · simp only [Tm.oflat]
    refine ⟨fun b => F1 b ∧ b < w.heap.size, fun b => F2 b ∧ b < w.heap.size, a1, c1, tcells u a2 c2, rfl, fun b hb => ⟨⟨.inl hb.1, ?_⟩, fun h => hd b hb.1 h.1⟩, fun b hb => ⟨.inr (.inl hb.1), ?_⟩, k1, ?_⟩
    · simp only [Value.ownBlock, ne_eq, Option.some.injEq]; omega
    · simp only [Value.ownBlock, ne_eq, Option.some.injEq]; omega
    · exact ⟨fun b => F2 b ∧ b < w.heap.size, fun _ => False, a2, c2, [], by simp, fun b hb => ⟨hb, fun h => h⟩, fun _ h => h.elim, k2, rfl⟩
theorem alloc_at (w : World) (o : Obj) {g : Nat} (hg : g = w.heap.size) : (w.alloc o).heap[g]? = some o := by
  subst hg
  show (w.heap.push o)[w.heap.size]? = some o
  simp
theorem own_sT {F : Nat → Prop} {w : World} {s : ByteArray} {ks : List Tm} {v : Value} (hs : s.size ≤ 1048576) (hl : ks.length ≤ 1048576) (h : OwnS F ks v w) : Tm.own F w (sT s ks) v := own_iff.2 ⟨hs, hl, h⟩
set_option maxRecDepth 100000 in
set_option maxHeartbeats 1000000 in
theorem rdpair {F1 F2 : Nat → Prop} {w : World} (t u : Tm) (a1 a2 : Option Addr) (c1 c2 : Nat) (h1 : Tm.own F1 w t (.slice a1 t.kids.length c1)) (h2 : Tm.own F2 w u (.slice a2 u.kids.length c2)) (hd : ∀ b, F1 b → ¬ F2 b) :
    Calls Tryz.prog 200 #[.agg #[.int .i64 t.kind, .int .i64 t.n, .string t.name, .slice a1 t.kids.length c1], .agg #[.int .i64 u.kind, .int .i64 u.n, .string u.name, .slice a2 u.kids.length c2]] w fun e w' =>
      ∃ a c, e = .returned (.agg #[.int .i64 3, .int .i64 0, .string dotN, .slice a 2 c]) ∧ Tm.own (fun b => F1 b ∨ F2 b ∨ w.heap.size ≤ b) w' (sT dotN [t, u]) (.slice a 2 c) ∧ Ext w w' := by
  have H1 := Lib.hid h1
  have H2 := Lib.hid h2
  clear h1 h2
  go_enter Tryz.func200, Tryz.ntmps200
  go_wp2_with fail
  refine ret4 (p := 4) (T := 25) (b := w.heap.size + 1 + 1) (v0 := .int .i64 3) (v1 := .int .i64 0) (v2 := .string ⟨#[46]⟩) (v3 := .slice (some ⟨w.heap.size + 1 + 1 + 1, 0, none⟩) 2 2) (by kernel_rfl) (fun _ => by kernel_rfl) (fun _ => by kernel_rfl) rfl rfl (by go_simp) (by go_simp) (by go_simp) (by go_simp) ?_
  have q : Ext w _ := (((Ext.alloc w (.cells #[.int .i64 t.kind, .int .i64 t.n, .string t.name, .slice a1 t.kids.length c1] 25)).trans (Ext.alloc _ (.cells #[.int .i64 u.kind, .int .i64 u.n, .string u.name, .slice a2 u.kids.length c2] 25))).trans (Ext.alloc _ (.cells #[.int .i64 3, .int .i64 0, .string ⟨#[46]⟩, .slice (some ⟨w.heap.size + 1 + 1 + 1, 0, none⟩) 2 2] 25))).trans (Ext.alloc _ (.cells #[.int .i64 t.kind, .int .i64 t.n, .string t.name, .slice a1 t.kids.length c1, .int .i64 u.kind, .int .i64 u.n, .string u.name, .slice a2 u.kids.length c2] 25))
  exact ⟨_, _, rfl, own_sT (by decide) (by simp) (owns_two H1.out H2.out hd q (by omega) (alloc_at _ _ (by simp))), q⟩
theorem oflat_last {w : World} {t : Tm} : ∀ {F : Nat → Prop} {ps : List Tm} {xs : List Value}, Tm.oflat F w (ps ++ [t]) xs →
    ∃ (F1 F2 : Nat → Prop) (v1 : List Value) (a : Option Addr) (c : Nat), xs = v1 ++ tcells t a c ∧ v1.length = ps.length * 4 ∧ Tm.oflat F1 w ps v1 ∧ Tm.own F2 w t (.slice a t.kids.length c) ∧ (∀ b, F1 b → F b) ∧ (∀ b, F2 b → F b) ∧ (∀ b, F1 b → ¬ F2 b)
  | F, [], xs, h => by
    simp only [List.nil_append, Tm.oflat] at h
    obtain ⟨F1, F2, a, c, rest, h1, h2, h3, h4, rfl⟩ := h
    exact ⟨fun _ => False, F1, [], a, c, by simpa using h1, rfl, rfl, h4, fun _ h => h.elim, fun b hb => (h2 b hb).1, fun _ h => h.elim⟩
  | F, p :: ps, xs, h => by
    simp only [List.cons_append, Tm.oflat] at h
    obtain ⟨F1, F2, a1, c1, rest, h1, h2, h3, h4, h5⟩ := h
    obtain ⟨G1, G2, v1, a, c, e1, e2, e3, e4, e5, e6, e7⟩ := oflat_last h5
    refine ⟨fun b => F1 b ∨ G1 b, G2, tcells p a1 c1 ++ v1, a, c, by rw [h1, e1]; simp, by simp [tcells, e2]; omega, ?_, e4, ?_, fun b hb => h3 b (e6 b hb), ?_⟩
    · simp only [Tm.oflat]
      exact ⟨F1, G1, a1, c1, v1, rfl, fun b hb => ⟨.inl hb, fun h => (h2 b hb).2 (e5 b h)⟩, fun b hb => .inr hb, h4, e3⟩
    · rintro b (hb | hb)
      · exact (h2 b hb).1
      · exact h3 b (e5 b hb)
    · rintro b (hb | hb) hg
      · exact (h2 b hb).2 (e6 b hg)
      · exact e7 b hb hg
theorem owns_cells {F : Nat → Prop} {xs : List Tm} {v : Value} {w : World} (h : OwnS F xs v w) (hne : xs ≠ []) : ∃ g cp vs, v = .slice (some ⟨g, 0, none⟩) xs.length cp ∧ xs.length ≤ cp ∧ F g ∧ g < w.heap.size ∧ Tm.oflat (fun b => F b ∧ b ≠ g) w xs vs ∧ vs.length = xs.length * 4 ∧ ∀ (j : Nat) (x : Value), vs[j]? = some x → w.cell? ⟨g, j, none⟩ = some x := by
  obtain ⟨vs, how, hz, hf⟩ := h
  have hc := fun g (hg : v.ownBlock = some g) => how.cells hg
  have hlt := fun g (hg : v.ownBlock = some g) => (how.lt g hg).2
  obtain ⟨e1, e2⟩ := how
  rcases e2 with ⟨rfl, e2⟩ | ⟨g, cap, cur, rfl, e3, e4, e5, e6, e7⟩
  · exact absurd (List.eq_nil_of_length_eq_zero e2) hne
  · refine ⟨g, cap, vs, rfl, e5, hz g rfl, hlt g rfl, oflat_mono (M := fun _ => False) (fun b hb => ⟨hb.1, fun e => hb.2 (by rw [e]; rfl)⟩) (Fr.refl _ _) (fun _ _ h => h) _ _ hf, e1, fun j x hx => ?_⟩
    have := hc g rfl j x hx
    rw [show (⟨g, 0, none⟩ : Addr).add j = ⟨g, 0 + j, none⟩ by unfold Addr.add; split <;> simp_all] at this
    simpa using this
set_option maxRecDepth 100000 in
set_option maxHeartbeats 4000000 in
theorem rdchain {F Ft : Nat → Prop} {w : World} (xs : List Tm) (tl : Tm) (v : Value) (ta : Option Addr) (tc : Nat) (hx : OwnS F xs v w) (ht : Tm.own Ft w tl (.slice ta tl.kids.length tc)) (hd : ∀ b, F b → ¬ Ft b) (hl : xs.length ≤ 5000) (hne : xs ≠ []) :
    Calls Tryz.prog 178 #[v, .agg #[.int .i64 tl.kind, .int .i64 tl.n, .string tl.name, .slice ta tl.kids.length tc]] w fun e w' =>
      ∃ a c, e = .returned (.agg #[.int .i64 (chainT xs tl).kind, .int .i64 (chainT xs tl).n, .string (chainT xs tl).name, .slice a (chainT xs tl).kids.length c]) ∧ Tm.own (fun b => F b ∨ Ft b ∨ w.heap.size ≤ b) w' (chainT xs tl) (.slice a (chainT xs tl).kids.length c) ∧ Ext w w' := by
  obtain ⟨g, cp, vs, rfl, hcp, hFg, hgl, hfl, hvl, hcell⟩ := owns_cells hx hne
  have FL := Lib.hid hfl
  have CE := Lib.hid hcell
  have HT := Lib.hid ht
  have FG := Lib.hid hFg
  have HD := Lib.hid hd
  clear hx hfl hcell ht hFg hd
  go_enter Tryz.func178, Tryz.ntmps178
  go_wp2_with fail
  go_loopw [5] (fun i wr => ∃ (j : Nat) (Fp Gt : Nat → Prop) (vp : List Value) (ca : Option Addr) (cc : Nat), j ≤ xs.length ∧ i = .int .i64 ((j : Int) - 1) ∧
    Hid (Tm.oflat Fp w (xs.take j) vp ∧ vp = vs.take (j * 4)) ∧ Hid ((∀ b, Fp b → F b ∧ b ≠ g ∧ b < w.heap.size) ∧ (∀ b, Gt b → ((F b ∨ Ft b) ∧ b < w.heap.size ∨ w.heap.size + 2 ≤ b) ∧ b ≠ g) ∧ (∀ b, Fp b → ¬ Gt b)) ∧
    Hid (Tm.own Gt wr (chainT (xs.drop j) tl) (.slice ca (chainT (xs.drop j) tl).kids.length cc)) ∧
    Hid (BoxT wr w.heap.size (.int .i64 (chainT (xs.drop j) tl).kind) (.int .i64 (chainT (xs.drop j) tl).n) (.string (chainT (xs.drop j) tl).name) (.slice ca (chainT (xs.drop j) tl).kids.length cc)) ∧
    Hid (BoxT wr (w.heap.size + 1) (.int .i64 0) (.int .i64 0) (.string ⟨#[]⟩) (.slice none 0 0)) ∧ Hid (Ext w wr)) (fun i _ => (intOf i + 1).toNat)
  case atStart =>
    refine ⟨xs.length, fun b => F b ∧ b ≠ g ∧ b < w.heap.size, fun b => Ft b ∧ b < w.heap.size, vs, ta, tc, Nat.le_refl _, rfl, Lib.hid ⟨?_, ?_⟩, Lib.hid ⟨fun b hb => hb, fun b hb => ⟨.inl ⟨.inr hb.1, hb.2⟩, ?_⟩, fun b hb h => HD.out b hb.1 h.1⟩, Lib.hid ?_, Lib.hid ?_, Lib.hid ?_, Lib.hid ((Ext.alloc _ _).trans (Ext.alloc _ _))⟩
    · rw [List.take_length]
      exact oflat_mono (M := fun _ => False) (fun b hb => ⟨hb.1.1, hb.1.2, hb.2⟩) (Fr.refl _ _) (fun _ _ h => h) _ _ (oflat_bound _ _ FL.out)
    · rw [List.take_of_length_le (by omega)]
    · intro e
      rw [e] at hb
      exact HD.out _ FG.out hb.1
    · rw [List.drop_length]
      exact own_ext1 (own_bound _ _ HT.out) ((Ext.alloc _ _).trans (Ext.alloc _ _))
    · rw [List.drop_length]
      exact (BoxT.new w _ _ _ _ 25 rfl).ext (Ext.alloc _ _)
    · exact BoxT.new _ _ _ _ _ 25 (by simp)
  case round =>
    obtain ⟨j, Fp, Gt, vp, ca, cc, hj, rfl, HP, HZ, HO, HB, HR, HE⟩ := hrel
    have lB := HB.out.lt
    have lR := HR.out.lt
    obtain ⟨b0, b1, b2, b3, f0, f1, f2, f3⟩ := HB.out
    obtain ⟨r0, r1, r2, r3, y0, y1, y2, y3⟩ := HR.out
    cases j with
    | zero =>
      go_wp2_with fail
      refine ret4_set (p := 4) (T := 25) (b := w.heap.size + 1) (by kernel_rfl) (fun _ => by kernel_rfl) (fun _ => by kernel_rfl) rfl rfl r0 r1 r2 r3 ?_
      intro X hX
      have f : Fr (fun k => k = w.heap.size + 1) wr X := Fr.of_grown hX (fun k e => by cases e; rfl)
      refine ⟨ca, cc, rfl, own_mono (fun b hb => ?_) f (fun b hb e => ?_) _ _ HO.out, ((Fr.of_ext HE.out).trans f).toExt (fun k hk h => by omega)⟩
      · rcases (HZ.out.2.1 b hb).1 with h | h
        · rcases h.1 with h | h
          · exact .inl h
          · exact .inr (.inl h)
        · exact .inr (.inr (by omega))
      · rcases (HZ.out.2.1 b hb).1 with h | h <;> omega
    | succ j =>
      obtain ⟨t, ht⟩ : ∃ t, xs[j]? = some t := ⟨xs[j], by simp [show j < xs.length by omega]⟩
      have hjl : j < xs.length := by omega
      have htk : xs.take (j + 1) = xs.take j ++ [t] := by
        rw [List.take_succ_eq_append_getElem hjl]
        rw [List.getElem?_eq_getElem hjl] at ht
        rw [Option.some.inj ht]
      have hdr : xs.drop j = t :: xs.drop (j + 1) := by
        rw [List.drop_eq_getElem_cons hjl]
        rw [List.getElem?_eq_getElem hjl] at ht
        rw [Option.some.inj ht]
      have hp := HP.out
      rw [htk] at hp
      obtain ⟨F1, F2, v1, a, c, e1, e2, e3, e4, e5, e6, e7⟩ := oflat_last hp.1
      have hlen : v1.length = j * 4 := by rw [e2, List.length_take, Nat.min_eq_left (by omega)]
      have hv : ∀ i, i < 4 → vs[j * 4 + i]? = (tcells t a c)[i]? := by
        intro i hi
        have := congrArg (fun l => l[j * 4 + i]?) (e1.symm.trans hp.2)
        simp only [List.getElem?_take, List.getElem?_append] at this
        rw [if_neg (by omega), if_pos (by omega), hlen, Nat.add_sub_cancel_left] at this
        exact this.symm
      have k0 := HE.out.cell (CE.out (j * 4) (.int .i64 t.kind) (by have := hv 0 (by omega); simpa [tcells] using this))
      have k1 := HE.out.cell (CE.out (j * 4 + 1) (.int .i64 t.n) (by have := hv 1 (by omega); simpa [tcells] using this))
      have k2 := HE.out.cell (CE.out (j * 4 + 2) (.string t.name) (by have := hv 2 (by omega); simpa [tcells] using this))
      have k3 := HE.out.cell (CE.out (j * 4 + 3) (.slice a t.kids.length c) (by have := hv 3 (by omega); simpa [tcells] using this))
      have OT := Lib.hid e4
      have P1 := Lib.hid (show Tm.oflat F1 w (xs.take j) v1 ∧ v1 = vs.take (j * 4) from ⟨e3, by
        have := congrArg (List.take (j * 4)) (e1.symm.trans hp.2)
        rw [List.take_take, Nat.min_eq_left (by omega), ← hlen, List.take_left] at this
        rw [← hlen]; exact this⟩)
      have Z1 := Lib.hid (And.intro e5 (And.intro e6 e7))
      have HDR := Lib.hid hdr
      have ei : ((j + 1 : Nat) : Int) - 1 = (j : Int) := by omega
      obtain ⟨T, hT⟩ : ∃ T, T = chainT (xs.drop (j + 1)) tl := ⟨_, rfl⟩
      have HTT := Lib.hid hT
      rw [← hT] at HO HB b0 b1 b2 b3
      rw [ei]
      clear hp e1 e2 e3 e4 e5 e6 e7 hv hdr htk ht hT ei
      have C := Lib.hid (fun w' (e' : Ext wr w') => rdpair (F1 := F2) (F2 := Gt) t T a ca c cc (own_ext1 OT.out (HE.out.trans e')) (own_ext1 HO.out e') (fun b h1 h2 => HZ.out.2.2 b (Z1.out.2.1 b h1) h2))
      go_wp2_with fail
      go_region_law (first
        | (go_simp; go_at_call 200; refine (C.out _ ?_).mono ?_; (first | exact Ext.refl _ | exact Ext.drew _); rintro e w3 ⟨a3, c3, rfl, ho3, e3⟩; (try replace e3 := Ext.undrew e3); have hb3 := HB.out.ext e3; have HB3 := Lib.hid hb3; have E3 := Lib.hid e3; have O3 := Lib.hid ho3; have l3 := hb3.lt; obtain ⟨d0, d1, d2, d3, g0, g1, g2, g3⟩ := hb3; clear e3 ho3))
      all_goals
        have hch := Lib.hid (show chainT (xs.drop j) tl = sT dotN [t, T] by rw [HDR.out, HTT.out]; rfl)
        have hs3 := Below.size E3.out
        go_wp2_with fail
        have f : Fr (fun k => k = w.heap.size) w3 _ := Fr.of_grown (set4_grown w3 w.heap.size (.int .i64 3) (.int .i64 0) (.string dotN) (.slice a3 2 c3)) (fun k e => by cases e; rfl)
        refine ⟨⟨j, F1, fun b => F2 b ∨ Gt b ∨ wr.heap.size ≤ b, v1, a3, c3, by omega, rfl, P1, Lib.hid ⟨fun b hb => HZ.out.1 b (Z1.out.1 b hb), fun b hb => ?_, fun b hb h => ?_⟩, Lib.hid ?_, Lib.hid ?_, Lib.hid ((HR.out.ext E3.out).fr f (by omega)), Lib.hid (((Fr.of_ext (HE.out.trans E3.out)).trans f).toExt (fun k hk h => by omega))⟩, by simp [intOf]⟩
        · rcases hb with hb | hb | hb
          · obtain ⟨q1, q2, q3⟩ := HZ.out.1 b (Z1.out.2.1 b hb)
            exact ⟨.inl ⟨.inl q1, q3⟩, q2⟩
          · exact HZ.out.2.1 b hb
          · exact ⟨.inr (by omega), by omega⟩
        · rcases h with h | h | h
          · exact Z1.out.2.2 b hb h
          · exact HZ.out.2.2 b (Z1.out.1 b hb) h
          · have := (HZ.out.1 b (Z1.out.1 b hb)).2.2
            omega
        · rw [hch.out]
          refine own_mono (fun b hb => hb) f (fun b hb e => ?_) _ _ O3.out
          rcases hb with hb | hb | hb
          · have := (HZ.out.1 b (Z1.out.2.1 b hb)).2.2; omega
          · rcases (HZ.out.2.1 b hb).1 with h | h <;> omega
          · have hb' : wr.heap.size ≤ b := hb
            omega
        · rw [hch.out]
          exact HB3.out.put4 _ _ _ _
end Go.Proofs.YtognkaebiafgbaaGreatDoor

namespace Go.Proofs.YtognkaebiafgbaaGreatDoor
open Go.RowKit
set_option linter.unusedVariables false
noncomputable def partF (o : Bool) (F deep : Nat) (rest : List UInt8) : Option (Tm × List UInt8) := if o = true then termF o F 3 deep rest else primF o F deep rest
theorem part_len {o : Bool} {F deep : Nat} {rest : List UInt8} {t : Tm} {r : List UInt8} (h : partF o F deep rest = some (t, r)) : r.length < rest.length := by
  unfold partF at h
  split at h
  · exact (len_all F).2.2.2.1 _ _ _ _ _ _ h
  · exact (len_all F).1 _ _ _ _ _ h
def PriC (o : Bool) (F : Nat) : Prop := ∀ (rb : Nat) (s : ByteArray) (deep : Nat) (rest : List UInt8) (w : World), s.size ≤ 4000 → deep ≤ 9000 → LibW rb w → RdW rb s o (some rest) w → 4 * rest.length + 1 ≤ F →
  Calls Tryz.prog 88 #[.pointer (some ⟨rb, 0, none⟩), .int .i64 deep] w (RdTm rb s o (primF o F deep rest) w)
def PartC' (o : Bool) (F : Nat) : Prop := ∀ (rb : Nat) (s : ByteArray) (deep : Nat) (rest : List UInt8) (w : World), s.size ≤ 4000 → deep ≤ 9000 → LibW rb w → RdW rb s o (some rest) w → 4 * rest.length + 2 ≤ F →
  Calls Tryz.prog 138 #[.pointer (some ⟨rb, 0, none⟩), .int .i64 deep] w (RdTm rb s o (partF o F deep rest) w)
def TerC (F : Nat) : Prop := ∀ (rb : Nat) (s : ByteArray) (level : Int) (deep : Nat) (rest : List UInt8) (w : World), s.size ≤ 4000 → 0 ≤ level → level ≤ 3 → deep ≤ 9000 → LibW rb w → RdW rb s true (some rest) w → 4 * rest.length + 2 ≤ F →
  Calls Tryz.prog 57 #[.pointer (some ⟨rb, 0, none⟩), .int .i64 level, .int .i64 deep] w (RdTm rb s true (termF true F level deep rest) w)
set_option maxRecDepth 100000 in
set_option maxHeartbeats 1000000 in
theorem rdpart (o : Bool) (F : Nat) (hP : o = false → PriC false F) (hT : o = true → TerC F) : PartC' o F := by
  intro rb s deep rest w hs hdeep hL h hF
  have hbox : ∃ n : Nat, BoxT w rb (.string s) (.int .i64 n) (.int .i64 (-1)) (.bool o) := by
    obtain ⟨n, _, _, hb⟩ := h.good
    exact ⟨n, hb⟩
  obtain ⟨n, hb⟩ := hbox
  have hlt := hb.lt
  have H := Lib.hid h
  have HL := Lib.hid hL
  obtain ⟨c0, c1, c2, c3, _⟩ := hb
  clear h hL c0 c1 c2
  cases o with
  | true =>
    have HC := Lib.hid (hT rfl)
    clear hP hT
    go_enter Tryz.func138, Tryz.ntmps138
    go_wp2_with fail
    refine (HC.out rb s 3 deep rest _ hs (by decide) (by decide) hdeep (HL.out.ext (Ext.alloc _ _)) (H.out.ext (Ext.alloc _ _)) hF).mono ?_
    rintro e w1 ⟨t, ta, tc, rfl, ho, f1, hr, hX⟩
    have hz := (BoxT.new w (.int .i64 0) (.int .i64 0) (.string ⟨#[]⟩) (.slice none 0 0) 25 rfl).fr f1 (by omega)
    have HZ := Lib.hid hz
    have HO := Lib.hid ho
    have F1 := Lib.hid ((Fr.of_ext (M := fun k => k = rb) (Ext.alloc w (.cells #[.int .i64 0, .int .i64 0, .string ⟨#[]⟩, .slice none 0 0] 25))).trans f1)
    have HR := Lib.hid hr
    have HX := Lib.hid hX
    have lz := hz.lt
    obtain ⟨z0, z1, z2, z3, y0, y1, y2, y3⟩ := hz
    clear ho f1 hr hX
    go_wp2_with fail
    exact rd_ret (p := 4) (T := 25) (b := w.heap.size) (t := t) (ta := ta) (tc := tc) (by kernel_rfl) (fun _ => by kernel_rfl) (fun _ => by kernel_rfl) rfl rfl HZ.out (Nat.le_refl _) (by omega) F1.out HO.out (fun k hk => by have hk : (w.alloc _).heap.size ≤ k := hk; simp at hk; omega) HR.out HX.out
  | false =>
    have HC := Lib.hid (hP rfl)
    clear hP hT
    go_enter Tryz.func138, Tryz.ntmps138
    go_wp2_with fail
    refine (HC.out rb s deep rest _ hs hdeep (HL.out.ext (Ext.alloc _ _)) (H.out.ext (Ext.alloc _ _)) (by omega)).mono ?_
    rintro e w1 ⟨t, ta, tc, rfl, ho, f1, hr, hX⟩
    have hz := (BoxT.new w (.int .i64 0) (.int .i64 0) (.string ⟨#[]⟩) (.slice none 0 0) 25 rfl).fr f1 (by omega)
    have HZ := Lib.hid hz
    have HO := Lib.hid ho
    have F1 := Lib.hid ((Fr.of_ext (M := fun k => k = rb) (Ext.alloc w (.cells #[.int .i64 0, .int .i64 0, .string ⟨#[]⟩, .slice none 0 0] 25))).trans f1)
    have HR := Lib.hid hr
    have HX := Lib.hid hX
    have lz := hz.lt
    obtain ⟨z0, z1, z2, z3, y0, y1, y2, y3⟩ := hz
    clear ho f1 hr hX
    go_wp2_with fail
    exact rd_ret (p := 4) (T := 25) (b := w.heap.size) (t := t) (ta := ta) (tc := tc) (by kernel_rfl) (fun _ => by kernel_rfl) (fun _ => by kernel_rfl) rfl rfl HZ.out (Nat.le_refl _) (by omega) F1.out HO.out (fun k hk => by have hk : (w.alloc _).heap.size ≤ k := hk; simp at hk; omega) HR.out HX.out
noncomputable def tailF (o : Bool) (G deep : Nat) (acc : List Tm) : List UInt8 → Option (Tm × List UInt8)
  | c :: r => if c = 124 then (match partF o G (deep + acc.length) r with | some (tl, d :: r') => if d = 93 then some (chainT acc tl, r') else none | _ => none) else if c = 93 then some (chainT acc (sT nilN []), r) else none
  | [] => none
theorem list_none {o : Bool} {G deep : Nat} {acc : List Tm} {rest : List UInt8} (h : partF o G (deep + 1 + acc.length) rest = none) : listF o (G + 1) deep acc rest = none := by
  unfold partF at h
  rw [listF, h]
theorem list_more {o : Bool} {G deep : Nat} {acc : List Tm} {rest r : List UInt8} {k : Tm} (h : partF o G (deep + 1 + acc.length) rest = some (k, 44 :: r)) : listF o (G + 1) deep acc rest = listF o G deep (acc ++ [k]) r := by
  unfold partF at h
  rw [listF, h]
  simp
theorem list_last {o : Bool} {G deep : Nat} {acc : List Tm} {rest r : List UInt8} {k : Tm} (h : partF o G (deep + 1 + acc.length) rest = some (k, r)) (hr : r.head? ≠ some 44) : listF o (G + 1) deep acc rest = tailF o G deep (acc ++ [k]) r := by
  unfold partF at h
  rw [listF, h]
  cases r with
  | nil => rfl
  | cons c r =>
    have h44 : ¬ c = 44 := by simpa using hr
    simp only [if_neg h44, tailF, partF, List.length_append, List.length_cons, List.length_nil]
    rw [show deep + (acc.length + (0 + 1)) = deep + 1 + acc.length by omega]
    by_cases h124 : c = 124
    · rw [if_pos h124, if_pos h124]
      cases (if o = true then termF o G 3 (deep + 1 + acc.length) r else primF o G (deep + 1 + acc.length) r) with
      | none => rfl
      | some p => obtain ⟨tl, q⟩ := p; cases q <;> rfl
    · rw [if_neg h124, if_neg h124]
end Go.Proofs.YtognkaebiafgbaaGreatDoor
