/-
  The program's reader: all together; ParseTerm.
-/
import Derived.Test.YtognkaebiafgbaaGreatDoorMr44
import Derived.Test.YtognkaebiafgbaaGreatDoorMr45
import Derived.Test.YtognkaebiafgbaaGreatDoorMr15
import Derived.Test.YtognkaebiafgbaaGreatDoorMr25
import Derived.Test.YtognkaebiafgbaaGreatDoorMr23
import Derived.Test.YtognkaebiafgbaaGreatDoorMr32
namespace Go.Proofs.YtognkaebiafgbaaGreatDoor
open Go.RowKit
set_option linter.unusedVariables false
theorem rdops : ∀ F : Nat, PriC true F ∧ TerC F ∧ PartC' true F := by
  intro F
  induction F using Nat.strongRecOn with
  | _ F ih =>
    have hp : PriC true F := by
      cases F with
      | zero => intro rb s deep rest w _ _ _ _ hF; omega
      | succ F => exact rdprim true F (fun G hG => (ih G (by omega)).2.2) (fun _ => (ih F (by omega)).2.1)
    have ht : TerC F := by
      cases F with
      | zero => intro rb s level deep rest w _ _ _ _ _ _ hF; omega
      | succ F => exact rdterm F (ih F (by omega)).1 (fun G hG => (ih G hG).2.1)
    exact ⟨hp, ht, rdpart true F (fun h => by cases h) (fun _ => ht)⟩
def LibG (w : World) : Prop := TabW w ∧ ∃ ev, w.cell? ⟨4, 0, none⟩ = some ev ∧ (ev = .nilIface ∨ ∃ te pe, ev = .iface te pe)
theorem tab_lt {w : World} (h : TabW w) : 5 < w.heap.size := by
  have hg : Tryz.prog.globalNamed "internal/strconv.uint64pow10" = some 5 := by kernel_rfl
  unfold TabW Lib.TabIs World.var? at h
  simp only [hg, Option.bind_some] at h
  apply Decidable.byContradiction
  intro hn
  rw [Array.getElem?_eq_none (by omega)] at h
  simp at h
theorem LibG.lib {w w' : World} (h : LibG w) (e : Ext w w') {rb : Nat} (hrb : w.heap.size ≤ rb) : LibW rb w' := by
  obtain ⟨h1, ev, h2, h3⟩ := h
  have := tab_lt h1
  have h4 := block_lt_of_cell h2
  simp only at h4
  exact ⟨h1.ext e, ⟨ev, e.cell h2, h3⟩, by omega, by omega⟩
theorem LibG.ext {w w' : World} (h : LibG w) (e : Ext w w') : LibG w' := by
  obtain ⟨h1, ev, h2, h3⟩ := h
  exact ⟨h1.ext e, ev, e.cell h2, h3⟩
end Go.Proofs.YtognkaebiafgbaaGreatDoor

namespace Go.Proofs.YtognkaebiafgbaaGreatDoor
open Go.RowKit
set_option linter.unusedVariables false
set_option maxRecDepth 100000 in
set_option maxHeartbeats 2000000 in
theorem rdprimBad {rb : Nat} {s : ByteArray} {o : Bool} {deep : Int} {w : World} (h : RdW rb s o none w) :
    Calls Tryz.prog 88 #[.pointer (some ⟨rb, 0, none⟩), .int .i64 deep] w (RdTm rb s o none w) := by
  have hlt := h.lt
  have H := Lib.hid h
  have ZB := Lib.hid (BoxT.new w (.int .i64 0) (.int .i64 0) (.string ⟨#[]⟩) (.slice none 0 0) 25 rfl)
  have EB := Lib.hid (Ext.alloc w (.cells #[.int .i64 0, .int .i64 0, .string ⟨#[]⟩, .slice none 0 0] 25))
  clear h
  go_enter Tryz.func88, Tryz.ntmps88
  go_upto_region 1 with (fail)
  obtain ⟨wa, hwa⟩ : ∃ z, z = w.alloc (.cells #[.int .i64 0, .int .i64 0, .string ⟨#[]⟩, .slice none 0 0] 25) := ⟨_, rfl⟩
  rw [← hwa] at ZB EB ⊢
  clear hwa
  have H1 := Lib.hid (H.out.ext EB.out)
  obtain ⟨i, bad, hbad, hb⟩ := H1.out.bad
  obtain ⟨c0, c1, c2, c3, f0, f1, f2, f3⟩ := hb
  have la := H1.out.lt
  have bz := ZB.out
  obtain ⟨z0, z1, z2, z3, y0, y1, y2, y3⟩ := bz
  have lz9 := ZB.out.lt
  go_wp2_with fail
  refine ret4_set (p := 4) (T := 25) (b := w.heap.size) (by kernel_rfl) (fun _ => by kernel_rfl) (fun _ => by kernel_rfl) rfl rfl z0 z1 z2 z3 ?_
  intro X hX
  have fX : Fr (fun b => b = w.heap.size) wa X := Fr.of_grown hX (fun k e => by cases e; rfl)
  exact tm_zero rfl (((Fr.of_ext EB.out).trans fX).toExt (fun q hq h => by omega) |> fun e => Fr.of_ext e) (H1.out.fr fX (by omega))
set_option maxRecDepth 100000 in
set_option maxHeartbeats 2000000 in
theorem rdtermBad {rb : Nat} {s : ByteArray} {level deep : Int} {w : World} (hs : s.size ≤ 4000) (h : RdW rb s true none w) :
    Calls Tryz.prog 57 #[.pointer (some ⟨rb, 0, none⟩), .int .i64 level, .int .i64 deep] w (RdTm rb s true none w) := by
  have hlt := h.lt
  have HZ := Lib.hid (BoxT.new w (.int .i64 0) (.int .i64 0) (.string ⟨#[]⟩) (.slice none 0 0) 25 rfl)
  have HP := Lib.hid (rdprimBad (deep := deep) (h.ext (Ext.alloc w (.cells #[.int .i64 0, .int .i64 0, .string ⟨#[]⟩, .slice none 0 0] 25))))
  clear h
  go_enter Tryz.func57, Tryz.ntmps57
  go_wp2_with fail
  refine HP.out.mono ?_
  rintro e w1 ⟨t1, ta1, tc1, rfl, ho1, f1, hr1, _⟩
  have s1 := f1.size
  have s1' : w.heap.size + 1 ≤ w1.heap.size := by simpa using s1
  have W1 := Lib.hid (((Fr.alloc (M := fun k => k = rb) w (.cells #[.int .i64 0, .int .i64 0, .string ⟨#[]⟩, .slice none 0 0] 25)).trans f1).trans (Fr.alloc _ (.cells #[.int .i64 t1.kind, .int .i64 t1.n, .string t1.name, .slice ta1 t1.kids.length tc1] 25)))
  have HZ1 := Lib.hid ((HZ.out.fr f1 (by omega)).ext (Ext.alloc _ (.cells #[.int .i64 t1.kind, .int .i64 t1.n, .string t1.name, .slice ta1 t1.kids.length tc1] 25)))
  have HT1 := Lib.hid (BoxT.new w1 (.int .i64 t1.kind) (.int .i64 t1.n) (.string t1.name) (.slice ta1 t1.kids.length tc1) 25 rfl)
  have O1 := Lib.hid (own_zone (F' := fun b => w.heap.size + 1 ≤ b) (own_ext1 ho1 (Ext.alloc _ (.cells #[.int .i64 t1.kind, .int .i64 t1.n, .string t1.name, .slice ta1 t1.kids.length tc1] 25))) (fun b hb => by have hb' : _ ≤ b := hb; simpa using hb'))
  have R1 := Lib.hid (hr1.ext (Ext.alloc _ (.cells #[.int .i64 t1.kind, .int .i64 t1.n, .string t1.name, .slice ta1 t1.kids.length tc1] 25)))
  clear ho1 f1 hr1 s1
  go_upto_region 2 with (fail)
  obtain ⟨w2, hw2⟩ : ∃ z, z = w1.alloc (.cells #[.int .i64 t1.kind, .int .i64 t1.n, .string t1.name, .slice ta1 t1.kids.length tc1] 25) := ⟨_, rfl⟩
  rw [← hw2] at W1 HZ1 HT1 O1 R1 ⊢
  clear hw2
  go_wp2_with fail
  go_loopg [8] 1 (fun g mv wr => mv = .int .i64 0 ∧ wr = w2 ∧ g = 1)
  case atStart => exact ⟨rfl, rfl, rfl⟩
  case round =>
    obtain ⟨rfl, rfl, hg⟩ := hrel
    have OPR := Lib.hid (rdoperator hs R1.out)
    go_wp2_with fail
    refine OPR.out.mono ?_
    rintro e w3 ⟨rfl, e3⟩
    have Z3 := Lib.hid (HZ1.out.ext e3)
    have T3 := Lib.hid (HT1.out.ext e3)
    have W3 := Lib.hid (W1.out.trans (Fr.of_ext e3))
    have O3 := Lib.hid (own_ext1 O1.out e3)
    have R3 := Lib.hid (R1.out.ext e3)
    have lz := Z3.out.lt
    have lt := T3.out.lt
    have z := Z3.out
    obtain ⟨z0, z1, z2, z3, y0, y1, y2, y3⟩ := z
    have tbx := T3.out
    obtain ⟨m0, m1, m2, m3, n0, n1, n2, n3⟩ := tbx
    go_wp2_with fail
    refine (implOpLevel _ _).mono ?_
    rw [bs_list]
    rintro e w4 ⟨rfl, rfl⟩
    have heq : (bs (opX none)).toList.isEmpty = true := by rw [bs_list]; rfl
    have heq3 : (bs (opX none)).toList = [] := by rw [bs_list]; rfl
    go_wp2_with fail
    exact rd_ret (p := 6) (T := 25) (b := w.heap.size) (t := t1) (ta := ta1) (tc := tc1) (by kernel_rfl) (fun _ => by kernel_rfl) (fun _ => by kernel_rfl) rfl rfl Z3.out (Nat.le_refl _) (by omega) W3.out O3.out (fun k hk => by have hk' : w.heap.size + 1 ≤ k := hk; omega) R3.out (fun u r h => by cases h)
end Go.Proofs.YtognkaebiafgbaaGreatDoor

namespace Go.Proofs.YtognkaebiafgbaaGreatDoor
open Go.RowKit
set_option linter.unusedVariables false
noncomputable def gX (F n : Nat) (acc : List Tm) : Option (List UInt8) → Option (List Tm × List UInt8)
  | none => none
  | some r => goalsG (termF true F 3 1) n acc r
def RdTms (rb : Nat) (s : ByteArray) (Y : Option (List Tm × List UInt8)) (w : World) (e : Ending) (w' : World) : Prop :=
  ∃ ts a c, e = .returned (.slice a ts.length c) ∧ OwnS (fun b => w.heap.size ≤ b ∧ b < w'.heap.size) ts (.slice a ts.length c) w' ∧ ts.length ≤ 1048576 ∧ Fr (fun k => k = rb) w w' ∧ RdW rb s true (Y.map Prod.snd) w' ∧ (∀ us r, Y = some (us, r) → ts = us)
set_option maxRecDepth 100000 in
set_option maxHeartbeats 4000000 in
theorem implgoals {rb : Nat} {s : ByteArray} {F : Nat} {X0 : Option (List UInt8)} {w : World} (n0 : Nat) (hs : s.size ≤ 4000) (hF : 4 * s.size + 2 ≤ F) (hn : s.size + 1 ≤ n0) (hL : LibW rb w) (h : RdW rb s true X0 w) :
    Calls Tryz.prog 60 #[.pointer (some ⟨rb, 0, none⟩)] w (RdTms rb s (gX F n0 [] X0) w) := by
  obtain ⟨Y, hY⟩ : ∃ Y, gX F n0 [] X0 = Y := ⟨_, rfl⟩
  rw [hY]
  have hlt := h.lt
  obtain ⟨i0, hi, hz0, hz1, hz2⟩ := info_parts info_term3
  have HI := Lib.hid hi
  have HZ := Lib.hid hz0
  have HZ1 := Lib.hid hz1
  have HZ2 := Lib.hid hz2
  have HL := Lib.hid hL
  have H0 := Lib.hid (show ∃ X, RdW rb s true X w ∧ (X = none → Y = none) ∧ (∀ r, X = some r → ∃ n, r.length + 1 ≤ n ∧ (([] : List Tm).length + r.length ≤ s.size) ∧ goalsG (termF true F 3 1) n [] r = Y) from ⟨X0, h, fun e => by rw [← hY, e]; rfl, fun r e => by
    subst e
    have := h.len
    exact ⟨n0, by omega, by simpa using this, hY⟩⟩)
  clear h hL hY hi hz0 hz1 hz2
  go_enter Tryz.func60, Tryz.ntmps60
  go_wp2_with fail
  go_loopg [3, 4] (s.size + 5) (fun g ov mv wr => ∃ (acc : List Tm) (av : Option Addr) (cv : Nat) (b : Bool) (k : Nat), ov = .slice av acc.length cv ∧ mv = .bool b ∧ g = k ∧ acc.length ≤ s.size + 1 ∧
    Hid (OwnS (fun k => w.heap.size ≤ k ∧ k < wr.heap.size) acc (.slice av acc.length cv) wr) ∧ Hid (Fr (fun k => k = rb) w wr) ∧
    Hid (b = true → ∃ X, RdW rb s true X wr ∧ (X = none → Y = none ∧ 1 ≤ k ∧ acc.length ≤ s.size) ∧ (∀ r, X = some r → ∃ n, r.length + 1 ≤ n ∧ acc.length + r.length ≤ s.size ∧ r.length + 2 ≤ k ∧ goalsG (termF true F 3 1) n acc r = Y)) ∧
    Hid (b = false → RdW rb s true (Y.map Prod.snd) wr ∧ ∀ us r, Y = some (us, r) → acc = us))
  case atStart =>
    obtain ⟨X, h1, h2, h3⟩ := H0.out
    refine ⟨[], none, 0, true, s.size + 5, rfl, rfl, rfl, by simp, Lib.hid (OwnS.nil _ _), Lib.hid (Fr.refl _ _), Lib.hid fun _ => ⟨X, h1, fun e => ⟨h2 e, by omega, by simp⟩, fun r e => ?_⟩, Lib.hid fun h => by cases h⟩
    obtain ⟨n, q1, q2, q3⟩ := h3 r e
    exact ⟨n, q1, q2, by simp only [List.length_nil] at q2; omega, q3⟩
  case round =>
    obtain ⟨acc, av, cv, b, k, rfl, rfl, hgk, hal, HO, HF, HT, HN⟩ := hrel
    have sF := HF.out.size
    cases b with
    | false =>
      obtain ⟨e1, e2⟩ := HN.out rfl
      have E1 := Lib.hid e1
      have E2 := Lib.hid e2
      clear e1 e2
      go_wp2_with fail
      go_ret
      exact ⟨acc, av, cv, rfl, HO.out, by omega, HF.out, E1.out, E2.out⟩
    | true =>
      obtain ⟨X, hX, hX1, hX2⟩ := HT.out rfl
      have hlr := hX.lt
      have hacc : acc.length < 1048576 := by omega
      have TC := Lib.hid (show Calls Tryz.prog 57 #[.pointer (some ⟨rb, 0, none⟩), .int .i64 3, .int .i64 1] wr (RdTm rb s true (X.bind (termF true F 3 1)) wr) from by
        cases X with
        | none => exact rdtermBad hs hX
        | some r => exact (rdops F).2.1 rb s 3 1 r wr hs (by decide) (by decide) (by decide) (HL.out.fr HF.out) hX (by have := hX.len; omega))
      have HX1 := Lib.hid hX1
      have HX2 := Lib.hid hX2
      clear hX hX1 hX2 HT HN
      go_wp2_with fail
      refine TC.out.mono ?_
      rintro e w1 ⟨t, ta, tc, rfl, ho, f1, hr1, hXt⟩
      have HOT := Lib.hid ho
      have HR1 := Lib.hid hr1
      have HXT := Lib.hid hXt
      have hs1 := f1.size
      have A1 := Lib.hid (HO.out.mono (fun b hb => hb) f1 (fun b hb e => by have := hb.1; omega))
      have F1 := Lib.hid (HF.out.trans f1)
      clear ho hr1 hXt f1
      go_wp2_with (at_builtin; refine wpList_append_ow (w0 := wr) (w1 := w1) rfl (.tmp 6) (.tmp 9) 23 rfl w.heap.size i0 Tryz.underlying23 HI.out HZ.out HZ1.out HZ2.out (.slice av acc.length cv) acc t ta tc rfl A1.out rfl HOT.out hs1 sF hacc rfl ?_; intro av2 cv2 w2 hA2 hf2; have A2 := Lib.hid hA2; have F2 := Lib.hid hf2; clear hA2 hf2)
      obtain ⟨TX, hTX⟩ : ∃ z, z = X.bind (termF true F 3 1) := ⟨_, rfl⟩
      rw [← hTX] at HR1 HXT
      have HTX := Lib.hid hTX
      clear hTX
      have R2 := Lib.hid (HR1.out.fr F2.out (by omega))
      have W2 := Lib.hid (show Fr (fun k => k = rb) w w2 from ((F1.out.mono (M' := fun k => k = rb ∨ w.heap.size ≤ k) (fun k _ h => .inl h)).trans (F2.out.mono (fun k _ h => .inr h))).mono (fun k hk h => by rcases h with h | h; exact h; omega))
      have heq : (((nextB (TX.map Prod.snd)).toNat : Int) == 44) = decide (nextB (TX.map Prod.snd) = 44) := u8_beq _ 44
      have hl2 : (acc ++ [t]).length = acc.length + 1 := by simp
      have N := Lib.hid (implnext hs R2.out)
      by_cases h44 : nextB (TX.map Prod.snd) = 44
      · rw [decide_eq_true h44] at heq
        obtain ⟨q, hq⟩ := next_yes (by decide) h44
        have hR := R2.out
        rw [hq] at hR
        obtain ⟨n, n1, n2, nb⟩ := hR.good
        have NB := Lib.hid nb
        have NN := Lib.hid n2
        have hpt : TX = some (t, 44 :: q) := by
          cases e : TX with
          | none => rw [e] at hq; cases hq
          | some p =>
            obtain ⟨t', r'⟩ := p
            rw [e] at hq
            simp at hq
            rw [hq, HXT.out t' r' e]
        obtain ⟨r, hXr⟩ : ∃ r, X = some r := by
          cases e : X with
          | none => have h := HTX.out; rw [e, hpt] at h; cases h
          | some r => exact ⟨r, rfl⟩
        have hterm : termF true F 3 1 r = some (t, 44 :: q) := by have h := HTX.out; rw [hXr, hpt] at h; exact h.symm
        have hlen := term_len hterm
        simp only [List.length_cons] at hlen
        obtain ⟨m, k1, k2, k3, k4⟩ := HX2.out r hXr
        obtain ⟨m, rfl⟩ : ∃ z, m = z + 1 := ⟨m - 1, by omega⟩
        have HGM := Lib.hid (show goalsG (termF true F 3 1) m (acc ++ [t]) q = Y by rw [← k4]; exact (goals_more hterm).symm)
        clear hq hR n2 nb hpt h44 k4 hterm hXr
        go_wp2_with fail
        refine N.out.mono ?_
        rintro e w3 ⟨rfl, e3⟩
        have nb3 := NB.out.ext e3
        have NB3 := Lib.hid nb3
        have E3 := Lib.hid e3
        obtain ⟨c0, c1, c2, c3, f0, f1, f2, f3⟩ := nb3
        clear e3
        go_wp2_with fail
        go_roundg (q.length + 2)
        case measure => omega
        case rel =>
          have fs : Fr (fun k => k = rb) w3 _ := Fr.setCell (i := 1) (u := .int .i64 ((n : Int) + 1)) w3 rfl
          refine ⟨acc ++ [t], av2, cv2, true, q.length + 2, (by rw [hl2]), rfl, rfl, (by rw [hl2]; omega), Lib.hid ?_, Lib.hid ((W2.out.trans (Fr.of_ext E3.out)).trans fs), Lib.hid (fun _ => ⟨some q, RdW.step NB3.out NN.out rfl, (fun h => by cases h), (fun r' h => by cases h; exact ⟨m, by omega, (by rw [hl2]; omega), Nat.le_refl _, HGM.out⟩)⟩), Lib.hid (fun h => by cases h)⟩
          rw [hl2]
          exact (A2.out.ext E3.out).mono (fun b hb => ⟨hb.1, by have h2 := hb.2; have := Below.size E3.out; have h3 : b < w3.heap.size := (by omega); simpa [World.setCell] using h3⟩) fs (fun b hb e => by have := hb.1; omega)
      · rw [decide_eq_false h44] at heq
        have hfin : 1 ≤ k ∧ acc.length ≤ s.size ∧ Y.map Prod.snd = TX.map Prod.snd ∧ ∀ us r, Y = some (us, r) → acc ++ [t] = us := by
          cases e : X with
          | none =>
            obtain ⟨y1, y2, y3⟩ := HX1.out e
            have h := HTX.out
            rw [e] at h
            rw [y1, h]
            exact ⟨y2, y3, rfl, fun us r h => by cases h⟩
          | some r =>
            obtain ⟨m, k1, k2, k3, k4⟩ := HX2.out r e
            obtain ⟨m, rfl⟩ : ∃ z, m = z + 1 := ⟨m - 1, by omega⟩
            have h : TX = termF true F 3 1 r := by have h := HTX.out; rw [e] at h; exact h
            refine ⟨by omega, by omega, ?_⟩
            cases ht : termF true F 3 1 r with
            | none =>
              rw [h, ht, ← k4, goals_none ht]
              exact ⟨rfl, fun us r h => by cases h⟩
            | some p =>
              obtain ⟨t', r'⟩ := p
              have htt : t = t' := HXT.out t' r' (by rw [h, ht])
              subst htt
              have hc : hdB (isB 44) (some r') = false := by
                cases hc : hdB (isB 44) (some r') with
                | false => rfl
                | true =>
                  exact absurd (by
                    rw [h, ht]
                    cases r' with
                    | nil => cases hc
                    | cons c q => rw [show c = 44 by simpa [hdB, isB] using hc]; rfl) h44
              rw [h, ht, ← k4, goals_last ht hc]
              exact ⟨rfl, fun us r h => by cases h; rfl⟩
        obtain ⟨hg1, ha1, hy1, hy2⟩ := hfin
        have HY1 := Lib.hid hy1
        have HY2 := Lib.hid hy2
        clear h44 hy1 hy2
        go_wp2_with fail
        refine N.out.mono ?_
        rintro e w3 ⟨rfl, e3⟩
        have E3 := Lib.hid e3
        clear e3
        go_wp2_with fail
        go_roundg 0
        case measure => omega
        case rel =>
          refine ⟨acc ++ [t], av2, cv2, false, 0, (by rw [hl2]), rfl, rfl, (by rw [hl2]; omega), Lib.hid ?_, Lib.hid (W2.out.trans (Fr.of_ext E3.out)), Lib.hid (fun h => by cases h), Lib.hid (fun _ => ⟨(by rw [HY1.out]; exact R2.out.ext E3.out), HY2.out⟩)⟩
          rw [hl2]
          exact (A2.out.ext E3.out).mono (M := fun _ => False) (fun b hb => ⟨hb.1, by have h2 := hb.2; have := Below.size E3.out; omega⟩) (Fr.refl _ _) (fun _ _ h => h)
end Go.Proofs.YtognkaebiafgbaaGreatDoor
