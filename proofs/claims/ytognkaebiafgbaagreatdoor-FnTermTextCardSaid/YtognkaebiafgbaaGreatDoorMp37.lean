/-
  A law's marks in one term's memory.
-/
import Derived.Test.YtognkaebiafgbaaGreatDoorMp36
import Derived.Test.YtognkaebiafgbaaGreatDoorMp33
import Derived.Test.YtognkaebiafgbaaGreatDoorMp34
import Derived.Test.YtognkaebiafgbaaGreatDoorMp35
namespace Go.Proofs.YtognkaebiafgbaaGreatDoor
open Go.RowKit
set_option linter.unusedVariables false

theorem own_at {F : Nat → Prop} {w : World} {t : Tm} {a : Option Addr} {c : Nat} (h : OwnS F t.kids (.slice a t.kids.length c) w) (hn : t.name.size ≤ 1048576) (hl : t.kids.length ≤ 1048576) :
    Tm.at F w t (.agg #[.int .i64 t.kind, .int .i64 t.n, .string t.name, .slice a t.kids.length c]) := own_flat t a c (own_iff.2 ⟨hn, hl, h⟩)
theorem OwnS.zone {F F' : Nat → Prop} {w : World} {ts : List Tm} {v : Value} (h : OwnS F ts v w) (hF : ∀ b, F b → F' b) : OwnS F' ts v w := h.mono (M := fun _ => False) hF (Fr.refl _ _) (fun _ _ h => h)
theorem own_kids {F : Nat → Prop} {w : World} {t : Tm} {v : Value} (h : Tm.own F w t v) : OwnS F t.kids v w := (own_iff.1 h).2.2

set_option maxRecDepth 100000 in
theorem lawsmarkTerm (t : Tm) (a : Option Addr) (c : Nat) (F : Nat → Prop) (w : World) (k : Nat) (hk : k + 3 * Tm.szL t.kids < 9000000) (ho : OwnS F t.kids (.slice a t.kids.length c) w) :
    Calls Tryz.prog 40 #[.agg #[.int .i64 t.kind, .int .i64 t.n, .string t.name, .slice a t.kids.length c], .int .i64 k] w fun e w' => e = .returned (.int .i64 (k + 3 * Tm.szL t.kids : Nat)) ∧ OwnS F (markL t.kids k) (.slice a t.kids.length c) w' ∧ Fr F w w' := by
  have HK := Lib.hid hk
  have HO := Lib.hid ho
  clear hk ho
  go_enter Tryz.func40, Tryz.ntmps40
  go_wp2_with fail
  refine (lawsmarkTermS _ _ (Nat.le_refl _) F _ _ k HK.out (HO.out.ext (Ext.alloc _ _))).mono ?_
  rintro e w1 ⟨rfl, h1, h2⟩
  have H1 := Lib.hid h1
  have H2 := Lib.hid h2
  clear h1 h2
  go_wp2_with fail
  go_ret
  exact ⟨rfl, H1.out, (Fr.alloc _ _).trans H2.out⟩

set_option maxRecDepth 100000 in
theorem lawsheldTerm (t : Tm) (a : Option Addr) (c : Nat) (F : Nat → Prop) (w : World) (k : Nat) (hk : k + 3 * Tm.szL t.kids < 9000000) (hl : t.kids.length ≤ 1048576) (ho : OwnS F (markL t.kids k) (.slice a t.kids.length c) w) :
    Calls Tryz.prog 41 #[.agg #[.int .i64 t.kind, .int .i64 t.n, .string t.name, .slice a t.kids.length c], .int .i64 k] w fun e w' => e = .returned (.int .i64 (k + 3 * Tm.szL t.kids : Nat)) ∧ Ext w w' := by
  have hsl : Hid (Tm.sl F w (markL t.kids k) (.slice a t.kids.length c)) := Lib.hid (ho.app.sl (by rw [markL_len]; exact hl))
  have HK := Lib.hid hk
  clear hk ho
  go_enter Tryz.func41, Tryz.ntmps41
  go_wp2_with fail
  refine (lawsheldTermS _ _ (Nat.le_refl _) F _ _ k HK.out (Tm.sl_ext (Ext.alloc _ _) hsl.out)).mono ?_
  rintro e w1 ⟨rfl, h1⟩
  have H1 := Lib.hid h1
  clear h1
  go_wp2_with fail
  go_ret
  exact ⟨rfl, (Ext.alloc _ _).trans H1.out⟩

end Go.Proofs.YtognkaebiafgbaaGreatDoor

/-
  The program's reader: all together; ParseTerm.
-/
namespace Go.Proofs.YtognkaebiafgbaaGreatDoor
open Go.RowKit
set_option linter.unusedVariables false

/-- all functions of the reader, with any fuel -/
theorem rdops : ∀ F : Nat, PriC true F ∧ TerC F ∧ PartC' true F := by
  intro F
  induction F using Nat.strongRecOn with
  | _ F ih =>
    have hp : PriC true F := by
      cases F with
      | zero => intro rb s deep rest w _ _ _ _ hF; omega
      | succ F => exact rdprim true F (fun G hG => (ih G (by omega)).2.2) (fun _ => (ih F (by omega)).2.1)
    have ht : TerC F := by
      cases F with
      | zero => intro rb s level deep rest w _ _ _ _ _ _ hF; omega
      | succ F => exact rdterm F (ih F (by omega)).1 (fun G hG => (ih G hG).2.1)
    exact ⟨hp, ht, rdpart true F (fun h => by cases h) (fun _ => ht)⟩
/-- what the library's variables hold -/
def LibG (w : World) : Prop := TabW w ∧ ∃ ev, w.cell? ⟨4, 0, none⟩ = some ev ∧ (ev = .nilIface ∨ ∃ te pe, ev = .iface te pe)
theorem tab_lt {w : World} (h : TabW w) : 5 < w.heap.size := by
  have hg : Tryz.prog.globalNamed "internal/strconv.uint64pow10" = some 5 := by kernel_rfl
  unfold TabW Lib.TabIs World.var? at h
  simp only [hg, Option.bind_some] at h
  apply Decidable.byContradiction
  intro hn
  rw [Array.getElem?_eq_none (by omega)] at h
  simp at h
theorem LibG.lib {w w' : World} (h : LibG w) (e : Ext w w') {rb : Nat} (hrb : w.heap.size ≤ rb) : LibW rb w' := by
  obtain ⟨h1, ev, h2, h3⟩ := h
  have := tab_lt h1
  have h4 := block_lt_of_cell h2
  simp only at h4
  exact ⟨h1.ext e, ⟨ev, e.cell h2, h3⟩, by omega, by omega⟩
theorem LibG.ext {w w' : World} (h : LibG w) (e : Ext w w') : LibG w' := by
  obtain ⟨h1, ev, h2, h3⟩ := h
  exact ⟨h1.ext e, ev, e.cell h2, h3⟩
noncomputable def parseT (s : ByteArray) : Tm := (parseO s.toList).getD zT
noncomputable def parseB (s : ByteArray) : Bool := (parseO s.toList).isSome
theorem parse_fuel (s : ByteArray) : ∃ F, 4 * s.toList.length + 1 ≤ F ∧ ∀ t0, parseO s.toList = some t0 → primF false F 1 s.toList = some (t0, []) := by
  cases e : parseO s.toList with
  | none => exact ⟨_, Nat.le_refl _, fun t0 h => by cases h⟩
  | some t0 =>
    obtain ⟨hv, ht⟩ := parseO_spec e
    obtain ⟨F0, h0⟩ := prim_rt _ t0 (Nat.le_refl _) 30 1 [] (valid_parts hv).1 (by omega) (.inl rfl)
    refine ⟨F0 + (4 * s.toList.length + 1), by omega, fun t1 h1 => ?_⟩
    cases h1
    have := h0 (F0 + (4 * s.toList.length + 1)) (by omega)
    simpa [ht] using this
theorem valid_size {t : Tm} (h : validF t = true) : (txt false t).length ≤ 3840 := by
  have h1 := (tx_len false t 30 (valid_parts h).1).1
  have h2 := (valid_parts h).2
  omega
set_option maxRecDepth 100000 in
set_option maxHeartbeats 8000000 in
theorem implParseTerm (s : ByteArray) (w : World) (hs : s.size ≤ 1048576) (hL : LibG w) : Calls Tryz.prog 38 #[.string s] w (TmBO (parseT s) (parseB s) w) := by
  by_cases h4 : s.size ≤ 4000
  · obtain ⟨F, hF, hx⟩ := parse_fuel s
    have HX := Lib.hid hx
    rw [bl_len] at hF
    have HL := Lib.hid hL
    have rdw0 := RdW.mk (rb := w.heap.size + 1) (s := s) (o := false) (r := s.toList) (n := 0) (w := (w.alloc (.cells #[.int .i64 0, .int .i64 0, .string ⟨#[]⟩, .slice none 0 0] 25)).alloc (.cells #[.string s, .int .i64 0, .int .i64 (-1), .bool false] 58)) (Nat.zero_le _) rfl (BoxT.new _ _ _ _ _ 58 (by simp))
    have HP := Lib.hid ((rdplain F).1 (w.heap.size + 1) s 1 s.toList ((w.alloc (.cells #[.int .i64 0, .int .i64 0, .string ⟨#[]⟩, .slice none 0 0] 25)).alloc (.cells #[.string s, .int .i64 0, .int .i64 (-1), .bool false] 58)) h4 (by omega) (hL.lib ((Ext.alloc _ _).trans (Ext.alloc _ _)) (by omega)) rdw0 (by rw [bl_len]; omega))
    obtain ⟨X, hX⟩ : ∃ X, primF false F 1 s.toList = X := ⟨_, rfl⟩
    rw [hX] at HP
    rw [hX] at HX
    clear hx hL rdw0 hX
    go_enter Tryz.func38, Tryz.ntmps38
    go_wp2_with fail
    refine HP.out.mono ?_
    rintro e w1 ⟨t, ta, tc, rfl, ho, f1, hr, hXt⟩
    have s1 := f1.size
    have s1' : w.heap.size + 2 ≤ w1.heap.size := by simpa using s1
    have E1 := Lib.hid (show Ext w w1 from ((Fr.of_ext (M := fun k => k = w.heap.size + 1) ((Ext.alloc w (.cells #[.int .i64 0, .int .i64 0, .string ⟨#[]⟩, .slice none 0 0] 25)).trans (Ext.alloc _ (.cells #[.string s, .int .i64 0, .int .i64 (-1), .bool false] 58)))).trans f1).toExt (fun k hk h => by omega))
    have Z1 := Lib.hid (((BoxT.new w (.int .i64 0) (.int .i64 0) (.string ⟨#[]⟩) (.slice none 0 0) 25 rfl).ext (Ext.alloc _ (.cells #[.string s, .int .i64 0, .int .i64 (-1), .bool false] 58))).fr f1 (by omega))
    have O1 := Lib.hid (own_zone (F' := fun b => w.heap.size + 2 ≤ b) ho (fun b hb => by simpa using hb))
    have R1 := Lib.hid hr
    clear ho f1 hr s1
    go_upto_region 5 with (fail)
    obtain ⟨w2, hw2⟩ : ∃ z, z = w1.alloc (.cells #[.int .i64 t.kind, .int .i64 t.n, .string t.name, .slice ta t.kids.length tc] 25) := ⟨_, rfl⟩
    have e12 : Ext w1 w2 := by rw [hw2]; exact Ext.alloc _ _
    have T2 := Lib.hid (show BoxT w2 w1.heap.size (.int .i64 t.kind) (.int .i64 t.n) (.string t.name) (.slice ta t.kids.length tc) by rw [hw2]; exact BoxT.new _ _ _ _ _ 25 rfl)
    rw [← hw2]
    have Z2 := Lib.hid (Z1.out.ext e12)
    have E2 := Lib.hid (E1.out.trans e12)
    have O2 := Lib.hid (own_ext1 O1.out e12)
    have hr2 := R1.out.ext e12
    have lt2 := T2.out.lt
    have lz2 := Z2.out.lt
    have lr2 := hr2.lt
    obtain ⟨i, bad, hb, hg, hbad⟩ := hr2
    have hb' := hb
    obtain ⟨c0, c1, c2, c3, f0, f1, f2, f3⟩ := hb'
    have tb := T2.out
    obtain ⟨m0, m1, m2, m3, n0, n1, n2, n3⟩ := tb
    clear hw2 e12 hb
    have hnone : parseO s.toList = none → parseT s = zT ∧ parseB s = false := fun h => ⟨by unfold parseT; rw [h]; rfl, by unfold parseB; rw [h]; rfl⟩
    cases X with
    | none =>
      have HN := Lib.hid (hnone (by
        cases e : parseO s.toList with
        | none => rfl
        | some t0 => have := HX.out t0 e; cases this))
      have hbad0 := hbad rfl
      clear hbad hg hnone
      have z := Z2.out
      obtain ⟨z0, z1, z2, z3, y0, y1, y2, y3⟩ := z
      go_wp2_with fail
      refine ret4b_set (p := 2) (q := 3) (T := 25) (b := w.heap.size) (v0 := .int .i64 0) (v1 := .int .i64 0) (v2 := .string ⟨#[]⟩) (v3 := .slice none 0 0) (y := .bool false) (by kernel_rfl) (fun _ => by kernel_rfl) (fun _ => by kernel_rfl) rfl rfl rfl Z2.out ?_
      intro Z fZ
      rw [HN.out.1, HN.out.2]
      exact ⟨none, 0, rfl, own_nil _ _ _ _ _ (by decide), ((Fr.of_ext E2.out).trans fZ).toExt (fun q hq h => by omega)⟩
    | some p =>
      obtain ⟨u, r⟩ := p
      have htu : t = u := hXt u r rfl
      subst htu
      obtain ⟨rfl, hi0, hi1, hdr⟩ := hg r rfl
      obtain ⟨n, rfl⟩ := Int.eq_ofNat_of_zero_le hi0
      rw [Int.toNat_natCast] at hdr
      clear hbad hg hXt hi0
      by_cases hr : r = []
      · subst hr
        have hn : n = s.size := by have := drop_nil hdr; omega
        subst hn
        have A2 := Lib.hid (own_flat t ta tc O2.out)
        have TV := Lib.hid (implTermValid t _ _ w2 A2.out)
        cases hv : validF t
        · have HN := Lib.hid (hnone (by
            cases e : parseO s.toList with
            | none => rfl
            | some t0 =>
              have h1 := HX.out t0 e
              have h2 := (parseO_spec e).1
              cases h1
              rw [hv] at h2; cases h2))
          rw [hv] at TV
          clear hnone hdr
          go_wp2_with fail
          refine TV.out.mono ?_
          rintro e w3 ⟨rfl, e3⟩
          have Z3 := Lib.hid (Z2.out.ext e3)
          have E3 := Lib.hid (E2.out.trans e3)
          have z := Z3.out
          have lz3 := z.lt
          obtain ⟨z0, z1, z2, z3, y0, y1, y2, y3⟩ := z
          clear e3
          go_wp2_with fail
          refine ret4b_set (p := 2) (q := 3) (T := 25) (b := w.heap.size) (v0 := .int .i64 0) (v1 := .int .i64 0) (v2 := .string ⟨#[]⟩) (v3 := .slice none 0 0) (y := .bool false) (by kernel_rfl) (fun _ => by kernel_rfl) (fun _ => by kernel_rfl) rfl rfl rfl Z3.out ?_
          intro Z fZ
          rw [HN.out.1, HN.out.2]
          exact ⟨none, 0, rfl, own_nil _ _ _ _ _ (by decide), ((Fr.of_ext E3.out).trans fZ).toExt (fun q hq h => by omega)⟩
        · rw [hv] at TV
          have hcmp : ((bs (txt false t)).toList == s.toList) = decide (txt false t = s.toList) := by
            rw [bs_list, Bool.eq_iff_iff, beq_iff_eq, decide_eq_true_eq]
          have hcm2 : ((bs (txt false t)).toList = s.toList) = (txt false t = s.toList) := by rw [bs_list]
          have PT := Lib.hid (fun w' (e' : Ext w2 w') => implplainText _ t (Nat.le_refl _) (valid_parts hv).2 30 _ _ w' (valid_parts hv).1 (Tm.at_ext e' A2.out) ((HL.out.1.ext E2.out).ext e'))
          have HV := Lib.hid hv
          clear hdr hv
          by_cases heq : txt false t = s.toList
          · have HN := Lib.hid (show parseT s = t ∧ parseB s = true by
              have := parseO_some HV.out
              rw [heq] at this
              exact ⟨by unfold parseT; rw [this]; rfl, by unfold parseB; rw [this]; rfl⟩)
            rw [decide_eq_true heq] at hcmp
            have hcm3 : (bs (txt false t)).toList = s.toList := by rw [hcm2]; exact heq
            clear hnone heq hcm2
            go_wp2_with fail
            refine TV.out.mono ?_
            rintro e w3 ⟨rfl, e3⟩
            have tb := T2.out.ext e3
            clear m0 m1 m2 m3 n0 n1 n2 n3
            obtain ⟨m0, m1, m2, m3, n0, n1, n2, n3⟩ := tb
            have PT3 := Lib.hid (PT.out w3 e3)
            go_wp2_with fail
            refine PT3.out.mono ?_
            rintro e w4 ⟨rfl, e4⟩
            have e34 := e3.trans e4
            have Z4 := Lib.hid (Z2.out.ext e34)
            have E4 := Lib.hid (E2.out.trans e34)
            have O4 := Lib.hid (own_ext1 O2.out e34)
            have tb := T2.out.ext e34
            clear m0 m1 m2 m3 n0 n1 n2 n3
            obtain ⟨m0, m1, m2, m3, n0, n1, n2, n3⟩ := tb
            have z := Z4.out
            have lz4 := z.lt
            obtain ⟨z0, z1, z2, z3, y0, y1, y2, y3⟩ := z
            clear e3 e4 e34
            go_wp2_with fail
            refine ret4b_set (p := 2) (q := 3) (T := 25) (b := w.heap.size) (y := .bool true) (by kernel_rfl) (fun _ => by kernel_rfl) (fun _ => by kernel_rfl) rfl rfl rfl Z4.out ?_
            intro Z fZ
            rw [HN.out.1, HN.out.2]
            exact ⟨ta, tc, rfl, own_mono (F' := fun b => w.heap.size ≤ b) (fun b hb => by have h : w.heap.size + 2 ≤ b := hb; omega) fZ (fun b hb e => by have h : w.heap.size + 2 ≤ b := hb; omega) _ _ O4.out, ((Fr.of_ext E4.out).trans fZ).toExt (fun q hq h => by omega)⟩
          · have HN := Lib.hid (hnone (by
              cases e : parseO s.toList with
              | none => rfl
              | some t0 =>
                have h1 := HX.out t0 e
                have h2 := (parseO_spec e).2
                cases h1
                exact absurd h2 heq))
            rw [decide_eq_false heq] at hcmp
            have hcm3 : ¬ (bs (txt false t)).toList = s.toList := by rw [hcm2]; exact heq
            clear hnone heq hcm2
            go_wp2_with fail
            refine TV.out.mono ?_
            rintro e w3 ⟨rfl, e3⟩
            have tb := T2.out.ext e3
            clear m0 m1 m2 m3 n0 n1 n2 n3
            obtain ⟨m0, m1, m2, m3, n0, n1, n2, n3⟩ := tb
            have PT3 := Lib.hid (PT.out w3 e3)
            go_wp2_with fail
            refine PT3.out.mono ?_
            rintro e w4 ⟨rfl, e4⟩
            have e34 := e3.trans e4
            have Z4 := Lib.hid (Z2.out.ext e34)
            have E4 := Lib.hid (E2.out.trans e34)
            have z := Z4.out
            have lz4 := z.lt
            obtain ⟨z0, z1, z2, z3, y0, y1, y2, y3⟩ := z
            clear e3 e4 e34
            go_wp2_with fail
            refine ret4b_set (p := 2) (q := 3) (T := 25) (b := w.heap.size) (v0 := .int .i64 0) (v1 := .int .i64 0) (v2 := .string ⟨#[]⟩) (v3 := .slice none 0 0) (y := .bool false) (by kernel_rfl) (fun _ => by kernel_rfl) (fun _ => by kernel_rfl) rfl rfl rfl Z4.out ?_
            intro Z fZ
            rw [HN.out.1, HN.out.2]
            exact ⟨none, 0, rfl, own_nil _ _ _ _ _ (by decide), ((Fr.of_ext E4.out).trans fZ).toExt (fun q hq h => by omega)⟩
      · have hn : n < s.size := by
          apply Decidable.byContradiction
          intro hn
          exact hr (by rw [← hdr, List.drop_eq_nil_of_le (by rw [bl_len]; omega)])
        have hne : ((n : Int) != (s.size : Int)) = true := by simp [bne]; omega
        have HN := Lib.hid (hnone (by
          cases e : parseO s.toList with
          | none => rfl
          | some t0 => have := HX.out t0 e; cases this; exact absurd rfl hr))
        clear hnone hdr hr
        have z := Z2.out
        obtain ⟨z0, z1, z2, z3, y0, y1, y2, y3⟩ := z
        go_wp2_with fail
        refine ret4b_set (p := 2) (q := 3) (T := 25) (b := w.heap.size) (v0 := .int .i64 0) (v1 := .int .i64 0) (v2 := .string ⟨#[]⟩) (v3 := .slice none 0 0) (y := .bool false) (by kernel_rfl) (fun _ => by kernel_rfl) (fun _ => by kernel_rfl) rfl rfl rfl Z2.out ?_
        intro Z fZ
        rw [HN.out.1, HN.out.2]
        exact ⟨none, 0, rfl, own_nil _ _ _ _ _ (by decide), ((Fr.of_ext E2.out).trans fZ).toExt (fun q hq h => by omega)⟩
  · have HN := Lib.hid (show parseT s = zT ∧ parseB s = false by
      have : parseO s.toList = none := by
        cases e : parseO s.toList with
        | none => rfl
        | some t0 =>
          obtain ⟨hv, ht⟩ := parseO_spec e
          have := valid_size hv
          rw [ht, bl_len] at this
          omega
      exact ⟨by unfold parseT; rw [this]; rfl, by unfold parseB; rw [this]; rfl⟩)
    have h4' : 4000 < s.size := by omega
    go_enter Tryz.func38, Tryz.ntmps38
    go_wp2_with fail
    refine ret4b (p := 2) (q := 3) (T := 25) (b := w.heap.size) (v0 := .int .i64 0) (v1 := .int .i64 0) (v2 := .string ⟨#[]⟩) (v3 := .slice none 0 0) (y := .bool false) (by kernel_rfl) (fun _ => by kernel_rfl) (fun _ => by kernel_rfl) rfl rfl rfl (BoxT.new w (.int .i64 0) (.int .i64 0) (.string ⟨#[]⟩) (.slice none 0 0) 25 rfl) ?_
    rw [HN.out.1, HN.out.2]
    exact ⟨none, 0, rfl, own_nil _ _ _ _ _ (by decide), Ext.alloc _ _⟩
end Go.Proofs.YtognkaebiafgbaaGreatDoor
