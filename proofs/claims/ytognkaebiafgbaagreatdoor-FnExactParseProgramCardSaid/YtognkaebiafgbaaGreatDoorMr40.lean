/-
  The program's reader: list.
-/
import Derived.Test.YtognkaebiafgbaaGreatDoorMr39
namespace Go.Proofs.YtognkaebiafgbaaGreatDoor
open Go.RowKit
set_option linter.unusedVariables false
theorem tail_124 {o : Bool} {G deep : Nat} {acc : List Tm} {q : List UInt8} {X : Option (Tm × List UInt8)} (h : tailF o G deep acc (124 :: q) = X) :
    skipX 93 ((partF o G (deep + acc.length) q).map Prod.snd) = X.map Prod.snd ∧ ∀ u r, X = some (u, r) → ∃ tl r', partF o G (deep + acc.length) q = some (tl, r') ∧ u = chainT acc tl := by
  subst h
  simp only [tailF, if_true]
  cases e : partF o G (deep + acc.length) q with
  | none => exact ⟨by first | rfl | trivial, fun u r h => by cases h⟩
  | some p =>
    obtain ⟨tl, r'⟩ := p
    cases r' with
    | nil => exact ⟨by first | rfl | trivial, fun u r h => by cases h⟩
    | cons d r' =>
      by_cases hd : d = 93
      · simp only [Option.map_some, skipX, if_pos hd]
        exact ⟨by first | rfl | trivial, fun u r h => by cases h; exact ⟨tl, _, rfl, rfl⟩⟩
      · simp only [Option.map_some, skipX, if_neg hd]
        exact ⟨by first | rfl | trivial, fun u r h => by cases h⟩
theorem tail_93 {o : Bool} {G deep : Nat} {acc : List Tm} {Y : Option (List UInt8)} {X : Option (Tm × List UInt8)} (h : Y.bind (tailF o G deep acc) = X) (hn : nextB Y ≠ 124) :
    skipX 93 Y = X.map Prod.snd ∧ ∀ u r, X = some (u, r) → u = chainT acc (sT nilN []) := by
  subst h
  cases Y with
  | none => exact ⟨rfl, fun u r h => by cases h⟩
  | some r =>
    cases r with
    | nil => exact ⟨rfl, fun u r h => by cases h⟩
    | cons c r =>
      have hc : ¬ c = 124 := hn
      simp only [Option.bind_some, tailF, if_neg hc, skipX]
      by_cases hd : c = 93
      · simp only [if_pos hd]
        exact ⟨rfl, fun u r h => by cases h; rfl⟩
      · simp only [if_neg hd]
        exact ⟨rfl, fun u r h => by cases h⟩
theorem RdW.len {rb : Nat} {s : ByteArray} {o : Bool} {r : List UInt8} {w : World} (h : RdW rb s o (some r) w) : r.length ≤ s.size := by
  obtain ⟨n, h1, h2, _⟩ := h.good
  rw [← h2, List.length_drop, bl_len]
  omega
def ListC (o : Bool) (F : Nat) : Prop := ∀ (rb : Nat) (s : ByteArray) (deep : Nat) (rest : List UInt8) (w : World), s.size ≤ 4000 → deep ≤ 30 → LibW rb w → RdW rb s o (some rest) w → 4 * rest.length + 3 ≤ F →
  Calls Tryz.prog 135 #[.pointer (some ⟨rb, 0, none⟩), .int .i64 deep] w (RdTm rb s o (listF o F deep [] rest) w)
set_option maxRecDepth 100000 in
set_option maxHeartbeats 8000000 in
theorem rdlist (o : Bool) (F : Nat) (hPt : ∀ G, G < F → PartC' o G) : ListC o F := by
  intro rb s deep rest w hs hdeep hL h hF
  have hlt := h.lt
  have hrl := h.len
  have PT := Lib.hid hPt
  have H := Lib.hid h
  have HL := Lib.hid hL
  obtain ⟨X, hX⟩ : ∃ X, listF o F deep [] rest = X := ⟨_, rfl⟩
  rw [hX]
  have HX0 := Lib.hid hX
  obtain ⟨i0, hi, hz0, hz1, hz2⟩ := info_parts info_term3
  have HI := Lib.hid hi
  have HZ0 := Lib.hid hz0
  have HZ1 := Lib.hid hz1
  have HZ2 := Lib.hid hz2
  clear h hL hPt hX hi hz0 hz1 hz2
  go_enter Tryz.func135, Tryz.ntmps135
  go_wp2_with fail
  go_loopg [5, 6] (rest.length + 1) (fun g lv mv wr => ∃ (acc : List Tm) (av : Option Addr) (cv : Nat) (more : Bool), lv = .slice av acc.length cv ∧ mv = .bool more ∧
    Hid (OwnS (fun b => w.heap.size + 1 ≤ b ∧ b < wr.heap.size) acc (.slice av acc.length cv) wr) ∧ Hid (Fr (fun k => k = rb) w wr) ∧ Hid (BoxT wr w.heap.size (.int .i64 0) (.int .i64 0) (.string ⟨#[]⟩) (.slice none 0 0)) ∧
    Hid ((more = true → ∃ G r, G ≤ F ∧ g = r.length + 1 ∧ acc.length + r.length ≤ 4000 ∧ RdW rb s o (some r) wr ∧ 4 * r.length + 3 ≤ G ∧ listF o G deep acc r = X) ∧
      (more = false → g = 0 ∧ acc ≠ [] ∧ acc.length ≤ 4001 ∧ ∃ G Y, G < F ∧ RdW rb s o Y wr ∧ (∀ r, Y = some r → 4 * r.length + 2 ≤ G) ∧ Y.bind (tailF o G deep acc) = X)))
  case atStart =>
    refine ⟨[], none, 0, true, rfl, rfl, Lib.hid (OwnS.nil _ _), Lib.hid (Fr.alloc _ _), Lib.hid (BoxT.new _ _ _ _ _ 25 rfl), Lib.hid ⟨fun _ => ⟨F, rest, Nat.le_refl _, rfl, by simp; omega, H.out.ext (Ext.alloc _ _), hF, HX0.out⟩, fun h => by cases h⟩⟩
  case round =>
    obtain ⟨acc, av, cv, more, rfl, rfl, HA, HF, HZ, HQ⟩ := hrel
    have lz := HZ.out.lt
    cases more with
    | true =>
      obtain ⟨G, r, hG, hg, hal, hr, h4, hx⟩ := HQ.out.1 rfl
      obtain ⟨G, rfl⟩ : ∃ x, G = x + 1 := ⟨G - 1, by omega⟩
      have HXr := Lib.hid hx
      have C := PT.out G (by omega) rb s (deep + 1 + acc.length) r wr hs (by omega) (HL.out.fr HF.out) hr (by omega)
      rw [show ((deep + 1 + acc.length : Nat) : Int) = (deep : Int) + 1 + (acc.length : Int) by omega] at C
      have HC := Lib.hid C
      subst hg
      clear hr hx C HQ
      go_wp2_with fail
      refine HC.out.mono ?_
      rintro e w1 ⟨t, ta, tc, rfl, ho, f1, hr1, hXt⟩
      have HO := Lib.hid ho
      have HR1 := Lib.hid hr1
      have HXT := Lib.hid hXt
      have hs1 := f1.size
      have A1 := Lib.hid (HA.out.mono (fun b hb => hb) f1 (fun b hb e => by have := hb.1; omega))
      have F1 := Lib.hid (HF.out.trans f1)
      have Z1 := Lib.hid (HZ.out.fr f1 (by omega))
      clear ho hr1 hXt f1
      have hzz : w.heap.size + 1 ≤ wr.heap.size := lz
      have hll : acc.length < 1048576 := by omega
      go_wp2_with (at_builtin; refine wpList_append_ow (w0 := wr) (w1 := w1) rfl (.tmp 9) (.tmp 17) 23 rfl (w.heap.size + 1) i0 Tryz.underlying23 HI.out HZ0.out HZ1.out HZ2.out (.slice av acc.length cv) acc t ta tc rfl A1.out rfl HO.out hs1 hzz hll rfl ?_; intro av2 cv2 w2 hA2 hf2; have A2 := Lib.hid hA2; have F2 := Lib.hid hf2; clear hA2 hf2)
      have R2 := Lib.hid (HR1.out.fr F2.out (by omega))
      have Z2 := Lib.hid (Z1.out.fr F2.out (by omega))
      have W2 := Lib.hid (show Fr (fun k => k = rb) w w2 from ((F1.out.mono (M' := fun k => k = rb ∨ w.heap.size + 1 ≤ k) (fun k _ h => .inl h)).trans (F2.out.mono (fun k _ h => .inr h))).mono (fun k hk h => by rcases h with h | h; exact h; omega))
      have heq : (((nextB ((partF o G (deep + 1 + acc.length) r).map Prod.snd)).toNat : Int) == 44) = decide (nextB ((partF o G (deep + 1 + acc.length) r).map Prod.snd) = 44) := u8_beq _ 44
      have hl2 : (acc ++ [t]).length = acc.length + 1 := by simp
      have N := Lib.hid (implnext hs R2.out)
      by_cases h44 : nextB ((partF o G (deep + 1 + acc.length) r).map Prod.snd) = 44
      · rw [decide_eq_true h44] at heq
        obtain ⟨q, hq⟩ := next_yes (by decide) h44
        have hR := R2.out
        rw [hq] at hR
        obtain ⟨n, n1, n2, nb⟩ := hR.good
        have NB := Lib.hid nb
        have NN := Lib.hid n2
        have hpt : ∃ t', partF o G (deep + 1 + acc.length) r = some (t', 44 :: q) := by
          cases e : partF o G (deep + 1 + acc.length) r with
          | none => rw [e] at hq; cases hq
          | some p => obtain ⟨t', r'⟩ := p; rw [e] at hq; simp at hq; exact ⟨t', by rw [hq]⟩
        obtain ⟨t', hpt⟩ := hpt
        have htt : t = t' := HXT.out _ _ hpt
        have hlen := part_len hpt
        have HM := Lib.hid (list_more hpt)
        rw [← htt] at HM
        simp only [List.length_cons] at hlen
        clear hq hR n2 nb hpt h44
        go_wp2_with fail
        refine N.out.mono ?_
        rintro e w3 ⟨rfl, e3⟩
        have nb3 := NB.out.ext e3
        have NB3 := Lib.hid nb3
        have E3 := Lib.hid e3
        obtain ⟨c0, c1, c2, c3, f0, f1, f2, f3⟩ := nb3
        clear e3
        go_wp2_with fail
        go_roundg (q.length + 1)
        case measure => omega
        case rel =>
          have fs : Fr (fun k => k = rb) w3 _ := Fr.setCell (i := 1) (u := .int .i64 ((n : Int) + 1)) w3 rfl
          refine ⟨acc ++ [t], av2, cv2, true, by rw [hl2], rfl, Lib.hid ?_, Lib.hid ((W2.out.trans (Fr.of_ext E3.out)).trans fs), Lib.hid ((Z2.out.ext E3.out).fr fs (by omega)), Lib.hid ⟨fun _ => ⟨G, q, by omega, rfl, by rw [hl2]; omega, RdW.step NB3.out NN.out rfl, by omega, ?_⟩, fun h => by cases h⟩⟩
          · rw [hl2]
            exact (A2.out.ext E3.out).mono (fun b hb => ⟨hb.1, by have h2 := hb.2; have := Below.size E3.out; have h3 : b < w3.heap.size := (by omega); simpa [World.setCell] using h3⟩) fs (fun b hb e => by have := hb.1; omega)
          · rw [← HM.out]
            exact HXr.out
      · rw [decide_eq_false h44] at heq
        have hY : (((partF o G (deep + 1 + acc.length) r).map Prod.snd).bind (tailF o G deep (acc ++ [t]))) = X := by
          rw [← HXr.out]
          cases e : partF o G (deep + 1 + acc.length) r with
          | none => rw [list_none e]; rfl
          | some p =>
            obtain ⟨t', r'⟩ := p
            have htt : t = t' := HXT.out _ _ e
            subst htt
            rw [list_last e (fun hh => h44 (by
              rw [e]
              cases r' with
              | nil => cases hh
              | cons c r' => simp at hh; rw [hh]; rfl))]
            rfl
        have hlr : ∀ r', (partF o G (deep + 1 + acc.length) r).map Prod.snd = some r' → r'.length < r.length := by
          intro r' e
          cases e' : partF o G (deep + 1 + acc.length) r with
          | none => rw [e'] at e; cases e
          | some p => obtain ⟨t', q⟩ := p; rw [e'] at e; cases e; exact part_len e'
        have HY := Lib.hid hY
        have HLR := Lib.hid hlr
        clear h44 hY hlr
        go_wp2_with fail
        refine N.out.mono ?_
        rintro e w3 ⟨rfl, e3⟩
        have E3 := Lib.hid e3
        clear e3
        go_wp2_with fail
        go_roundg 0
        case measure => omega
        case rel =>
          refine ⟨acc ++ [t], av2, cv2, false, by rw [hl2], rfl, Lib.hid ?_, Lib.hid (W2.out.trans (Fr.of_ext E3.out)), Lib.hid (Z2.out.ext E3.out), Lib.hid ⟨fun h => by (first | cases h), fun _ => ⟨rfl, by simp, by rw [hl2]; omega, G, _, by omega, R2.out.ext E3.out, fun r' e => by have := HLR.out r' e; omega, HY.out⟩⟩⟩
          rw [hl2]
          exact (A2.out.ext E3.out).mono (M := fun _ => False) (fun b hb => ⟨hb.1, by have h2 := hb.2; have := Below.size E3.out; omega⟩) (Fr.refl _ _) (fun _ _ h => h)
    | false =>
      obtain ⟨rfl, hne, hal, G, Y, hG, hY, h4, hx⟩ := HQ.out.2 rfl
      have HYr := Lib.hid hY
      have HX2 := Lib.hid hx
      clear hY hx HQ
      have hzz : w.heap.size + 1 ≤ wr.heap.size := lz
      go_wp2_with fail
      refine (rdatom nilN wr).mono ?_
      rintro e w1 ⟨rfl, e1⟩
      have s1 := Below.size e1
      have N := Lib.hid (implnext (o := o) (X := Y) hs ((HYr.out.ext e1).ext (Ext.alloc w1 (.cells #[.int .i64 3, .int .i64 0, .string nilN, .slice none 0 0] 25))))
      have heq : (((nextB Y).toNat : Int) == 124) = decide (nextB Y = 124) := u8_beq _ 124
      go_wp2_with fail
      refine N.out.mono ?_
      rintro e w3 ⟨rfl, e3⟩
      have e13 : Ext wr w3 := (e1.trans (Ext.alloc w1 (.cells #[.int .i64 3, .int .i64 0, .string nilN, .slice none 0 0] 25))).trans e3
      have B3 := Lib.hid ((BoxT.new w1 (.int .i64 3) (.int .i64 0) (.string nilN) (.slice none 0 0) 25 rfl).ext e3)
      have l3 := B3.out.lt
      have W3 := Lib.hid (HF.out.trans (Fr.of_ext e13))
      have AL3 := Lib.hid (HA.out.ext e13)
      have Z3 := Lib.hid (HZ.out.ext e13)
      by_cases h124 : nextB Y = 124
      · obtain ⟨q, rfl⟩ := next_yes (by decide) h124
        rw [decide_eq_true h124] at heq
        obtain ⟨n, n1, n2, nb⟩ := HYr.out.good
        have NN := Lib.hid n2
        have NB3 := Lib.hid (((nb.ext e1).ext (Ext.alloc _ (.cells #[.int .i64 3, .int .i64 0, .string nilN, .slice none 0 0] 25))).ext e3)
        have nb3 := NB3.out
        have hx := HX2.out
        have HXE0 := Lib.hid (tail_124 hx)
        have h4q := h4 _ rfl
        simp only [List.length_cons] at h4q
        have fs : Fr (fun k => k = rb) w3 (w3.setCell ⟨rb, 1, none⟩ (.int .i64 ((n : Int) + 1))) := Fr.setCell w3 rfl
        have C := PT.out G hG rb s (deep + acc.length) q (w3.setCell ⟨rb, 1, none⟩ (.int .i64 ((n : Int) + 1))) hs (by omega) (HL.out.fr (W3.out.trans fs)) (RdW.step NB3.out NN.out rfl) (by omega)
        rw [show ((deep + acc.length : Nat) : Int) = (deep : Int) + (acc.length : Int) by omega] at C
        have HC := Lib.hid C
        have FS := Lib.hid fs
        obtain ⟨c0, c1, c2, c3, f0, f1, f2, f3⟩ := nb3
        clear h124 nb n2 hx C fs
        go_wp2_with fail
        refine HC.out.mono ?_
        rintro e w4 ⟨tl, ta2, tc2, rfl, ho, f4, hr4, hXt⟩
        have f34 : Fr (fun k => k = rb) w3 w4 := FS.out.trans f4
        have sf := FS.out.size
        have B4 := B3.out.fr f34 (by omega)
        have HB4 := Lib.hid B4
        obtain ⟨m0, m1, m2, m3, u0, u1, u2, u3⟩ := B4
        have l4 := HB4.out.lt
        have O4 := Lib.hid ho
        have R4 := Lib.hid hr4
        have HXT := Lib.hid hXt
        have F4 := Lib.hid f34
        have AL4 := Lib.hid (AL3.out.mono (fun b hb => hb) f34 (fun b hb e => by have := hb.1; omega))
        have Z4 := Lib.hid (Z3.out.fr f34 (by omega))
        clear ho hr4 hXt f4 f34 c0 c1 c2 c3 f0 f1 f2 f3
        go_upto_region 12 with (fail)
        obtain ⟨w5, hw5⟩ : ∃ z, z = ((((w4.setCell ⟨w1.heap.size, 0, none⟩ (.int .i64 tl.kind)).setCell ⟨w1.heap.size, 1, none⟩ (.int .i64 tl.n)).setCell ⟨w1.heap.size, 2, none⟩ (.string tl.name)).setCell ⟨w1.heap.size, 3, none⟩ (.slice ta2 tl.kids.length tc2)) := ⟨_, rfl⟩
        have f5 : Fr (fun k => k = w1.heap.size) w4 w5 := by rw [hw5]; exact put4_frw (M := fun k => k = w1.heap.size) w4 _ _ _ _ rfl
        have B7 := Lib.hid (show BoxT w5 w1.heap.size (.int .i64 tl.kind) (.int .i64 tl.n) (.string tl.name) (.slice ta2 tl.kids.length tc2) by rw [hw5]; exact HB4.out.put4 _ _ _ _)
        rw [← hw5]
        have RY := Lib.hid (R4.out.fr f5 (by omega))
        have AL := Lib.hid (AL4.out.mono (fun b hb => hb) f5 (fun b hb e => by have := hb.2; omega))
        have OT := Lib.hid (own_mono (F' := fun b => w1.heap.size + 1 ≤ b) (fun b hb => by have hb' : (w3.setCell ⟨rb, 1, none⟩ (.int .i64 ((n : Int) + 1))).heap.size ≤ b := hb; omega) f5 (fun b hb e => by have hb' : (w3.setCell ⟨rb, 1, none⟩ (.int .i64 ((n : Int) + 1))).heap.size ≤ b := hb; omega) _ _ O4.out)
        have Z5 := Lib.hid (Z4.out.fr f5 (by omega))
        have W5 := Lib.hid (show Fr (fun k => k = rb) w w5 from (((W3.out.trans F4.out).mono (M' := fun k => k = rb ∨ k = w1.heap.size) (fun k _ h => .inl h)).trans (f5.mono (fun k _ h => .inr h))).mono (fun k hk h => by rcases h with h | h; exact h; omega))
        have s5 := f5.size
        have HXE : Hid (skipX 93 ((partF o G (deep + acc.length) q).map Prod.snd) = X.map Prod.snd) := Lib.hid HXE0.out.1
        clear hw5 f5 m0 m1 m2 m3 u0 u1 u2 u3
        go_wp2_with fail
        refine (implskip (b := 93) hs (by decide) rfl RY.out).mono ?_
        rintro e w6 ⟨⟨v6, rfl⟩, f6, hr6⟩
        have b6 := B7.out.fr f6 (by omega)
        obtain ⟨m0, m1, m2, m3, _⟩ := b6
        have A6 := Lib.hid (AL.out.mono (fun b hb => hb) f6 (fun b hb e => by have := hb.1; omega))
        have T6 := Lib.hid (own_mono (fun b hb => hb) f6 (fun b hb e => by have hb' : w1.heap.size + 1 ≤ b := hb; omega) _ _ OT.out)
        have R6 := Lib.hid hr6
        have F6 := Lib.hid (W5.out.trans f6)
        have Z6 := Lib.hid (Z5.out.fr f6 (by omega))
        have s6 := f6.size
        clear f6 hr6
        go_wp2_with fail
        refine (rdchain acc tl _ ta2 tc2 A6.out T6.out (fun b h1 h2 => by have h3 := h1.2; have h4 : w1.heap.size + 1 ≤ b := h2; omega) (by omega) hne).mono ?_
        rintro e w7 ⟨a7, c7, rfl, ho7, e7⟩
        have z7 := Z6.out.ext e7
        have Z7 := Lib.hid z7
        have O7 := Lib.hid ho7
        obtain ⟨z0, z1, z2, z3, y0, y1, y2, y3⟩ := z7
        clear ho7
        go_wp2_with fail
        exact rd_ret (p := 4) (T := 25) (b := w.heap.size) (t := chainT acc tl) (ta := a7) (tc := c7) (by kernel_rfl) (fun _ => by kernel_rfl) (fun _ => by kernel_rfl) rfl rfl Z7.out (Nat.le_refl _) (by omega) (F6.out.trans (Fr.of_ext e7)) O7.out (fun k hk => by rcases hk with hk | hk | hk; (have := hk.1; omega); (have hk' : w1.heap.size + 1 ≤ k := hk; omega); omega) (by rw [← HXE.out]; exact R6.out.ext e7) (fun u r h => by obtain ⟨t1, r1, h1, h2⟩ := HXE0.out.2 u r h; rw [h2, HXT.out _ _ h1])
      · rw [decide_eq_false h124] at heq
        have HXE := Lib.hid (tail_93 HX2.out h124)
        have B7 := Lib.hid (show BoxT w3 w1.heap.size (.int .i64 (sT nilN []).kind) (.int .i64 (sT nilN []).n) (.string (sT nilN []).name) (.slice none (sT nilN []).kids.length 0) from B3.out)
        have RY := Lib.hid (((HYr.out.ext e1).ext (Ext.alloc _ (.cells #[.int .i64 3, .int .i64 0, .string nilN, .slice none 0 0] 25))).ext e3)
        have AL := AL3
        have Z5 := Z3
        have W5 := W3
        have OT : Hid (Tm.own (fun b => w1.heap.size + 1 ≤ b) w3 (sT nilN []) (.slice none (sT nilN []).kids.length 0)) := Lib.hid (own_nil _ _ _ _ _ (by decide))
        clear h124
        go_wp2_with fail
        refine (implskip (b := 93) hs (by decide) rfl RY.out).mono ?_
        rintro e w6 ⟨⟨v6, rfl⟩, f6, hr6⟩
        have b6 := B7.out.fr f6 (by omega)
        obtain ⟨m0, m1, m2, m3, _⟩ := b6
        have A6 := Lib.hid (AL.out.mono (fun b hb => hb) f6 (fun b hb e => by have := hb.1; omega))
        have T6 := Lib.hid (own_mono (fun b hb => hb) f6 (fun b hb e => by have hb' : w1.heap.size + 1 ≤ b := hb; omega) _ _ OT.out)
        have R6 := Lib.hid hr6
        have F6 := Lib.hid (W5.out.trans f6)
        have Z6 := Lib.hid (Z5.out.fr f6 (by omega))
        have s6 := f6.size
        clear f6 hr6
        go_wp2_with fail
        refine (rdchain acc (sT nilN []) _ none 0 A6.out T6.out (fun b h1 h2 => by have h3 := h1.2; have h4 : w1.heap.size + 1 ≤ b := h2; omega) (by omega) hne).mono ?_
        rintro e w7 ⟨a7, c7, rfl, ho7, e7⟩
        have z7 := Z6.out.ext e7
        have Z7 := Lib.hid z7
        have O7 := Lib.hid ho7
        obtain ⟨z0, z1, z2, z3, y0, y1, y2, y3⟩ := z7
        clear ho7
        go_wp2_with fail
        exact rd_ret (p := 4) (T := 25) (b := w.heap.size) (t := chainT acc (sT nilN [])) (ta := a7) (tc := c7) (by kernel_rfl) (fun _ => by kernel_rfl) (fun _ => by kernel_rfl) rfl rfl Z7.out (Nat.le_refl _) (by omega) (F6.out.trans (Fr.of_ext e7)) O7.out (fun k hk => by rcases hk with hk | hk | hk; (have := hk.1; omega); (have hk' : w1.heap.size + 1 ≤ k := hk; omega); omega) (by rw [← HXE.out.1]; exact R6.out.ext e7) (fun u r h => (HXE.out.2 u r h).symm)
end Go.Proofs.YtognkaebiafgbaaGreatDoor
