/-
  The program's reader: primary at a name.
-/
import Derived.Test.YtognkaebiafgbaaGreatDoorMr42
namespace Go.Proofs.YtognkaebiafgbaaGreatDoor
open Go.RowKit
set_option linter.unusedVariables false
noncomputable def nmX (o : Bool) (F deep : Nat) : Option (List UInt8 × List UInt8) → Option (Tm × List UInt8)
  | some (s, c :: r) => if c = 40 then argsF o F deep (bs s) [] r else some (sT (bs s) [], c :: r)
  | some (s, []) => some (sT (bs s) [], [])
  | none => none
theorem nm_no {o : Bool} {F deep : Nat} {z : Option (List UInt8 × List UInt8)} (h : nextB (z.map Prod.snd) ≠ 40) :
    z.map Prod.snd = (nmX o F deep z).map Prod.snd ∧ ∀ u r, nmX o F deep z = some (u, r) → sT (bs ((z.map Prod.fst).getD [])) [] = u := by
  cases z with
  | none => exact ⟨rfl, fun u r h => by cases h⟩
  | some p =>
    obtain ⟨s, r⟩ := p
    cases r with
    | nil => exact ⟨rfl, fun u r h => by cases h; rfl⟩
    | cons c r =>
      have hc : ¬ c = 40 := h
      simp only [nmX, if_neg hc]
      exact ⟨rfl, fun u r h => by cases h; rfl⟩
theorem nm_yes {o : Bool} {F deep : Nat} {z : Option (List UInt8 × List UInt8)} (h : nextB (z.map Prod.snd) = 40) : ∃ s q, z = some (s, 40 :: q) ∧ nmX o F deep z = argsF o F deep (bs s) [] q := by
  cases z with
  | none => exact absurd h (by decide)
  | some p =>
    obtain ⟨s, r⟩ := p
    cases r with
    | nil => exact absurd h (by show ¬ ((0 : UInt8) = 40); decide)
    | cons c r =>
      have hc : c = 40 := h
      subst hc
      exact ⟨s, r, rfl, by simp only [nmX, if_true]⟩
def endA (s : ByteArray) (acc : List Tm) : Option (List UInt8) → Option (Tm × List UInt8)
  | some (c :: r) => if c = 41 then some (sT s acc, r) else none
  | _ => none
theorem endA_facts (s : ByteArray) (acc : List Tm) (Y : Option (List UInt8)) : skipX 41 Y = (endA s acc Y).map Prod.snd ∧ ∀ u r, endA s acc Y = some (u, r) → sT s acc = u := by
  cases Y with
  | none => exact ⟨rfl, fun u r h => by cases h⟩
  | some r =>
    cases r with
    | nil => exact ⟨rfl, fun u r h => by cases h⟩
    | cons c r =>
      by_cases hc : c = 41
      · simp only [skipX, endA, if_pos hc]
        exact ⟨by first | rfl | trivial, fun u r h => by cases h; rfl⟩
      · simp only [skipX, endA, if_neg hc]
        exact ⟨by first | rfl | trivial, fun u r h => by cases h⟩
theorem args_none {o : Bool} {G deep : Nat} {s : ByteArray} {acc : List Tm} {rest : List UInt8} (h : partF o G (deep + 1) rest = none) : argsF o (G + 1) deep s acc rest = none := by
  unfold partF at h
  rw [argsF, h]
theorem args_more {o : Bool} {G deep : Nat} {s : ByteArray} {acc : List Tm} {rest r : List UInt8} {k : Tm} (h : partF o G (deep + 1) rest = some (k, 44 :: r)) : argsF o (G + 1) deep s acc rest = argsF o G deep s (acc ++ [k]) r := by
  unfold partF at h
  rw [argsF, h]
  simp
theorem args_last {o : Bool} {G deep : Nat} {s : ByteArray} {acc : List Tm} {rest r : List UInt8} {k : Tm} (h : partF o G (deep + 1) rest = some (k, r)) (hr : r.head? ≠ some 44) : argsF o (G + 1) deep s acc rest = endA s (acc ++ [k]) (some r) := by
  unfold partF at h
  rw [argsF, h]
  cases r with
  | nil => rfl
  | cons c r =>
    have h44 : ¬ c = 44 := by simpa using hr
    simp only [if_neg h44, endA]
set_option maxRecDepth 100000 in
set_option maxHeartbeats 16000000 in
theorem rdprim_name (F : Nat) (o : Bool) (rb : Nat) (s : ByteArray) (deep : Nat) (b : UInt8) (r : List UInt8) (w : World) (hs : s.size ≤ 4000) (hd : deep ≤ 30) (h : RdW rb s o (some (b :: r)) w) (h0 : b ≠ 0) (hL : LibW rb w) (hPt : ∀ G, G < F → PartC' o G) (hF : 4 * r.length + 3 ≤ F) (hu : isUp b = false) (hst : numStart (b :: r) = false) (hbo : ¬ (b = 40 ∧ o = true)) (hli : ¬ (b = 91 ∧ r.head? ≠ some 93)) :
    Calls Tryz.prog 88 #[.pointer (some ⟨rb, 0, none⟩), .int .i64 deep] w (RdTm rb s o (nmX o F deep (nameP (b :: r))) w) := by
  have H := Lib.hid h
  obtain ⟨n, h1, h2, hb⟩ := h.good
  have hlt := hb.lt
  have HB := Lib.hid hb
  have H2 := Lib.hid h2
  obtain ⟨h3, _, h4⟩ := drop_cons h2
  obtain ⟨c0, c1, c2, c3, f0, f1, f2, f3⟩ := hb
  have q0 := u8_eq0 b
  rw [decide_eq_false h0] at q0
  have HL := Lib.hid hL
  have PT := Lib.hid hPt
  have HST := Lib.hid hst
  have hrl := h.len
  have hext : s.extract n s.size = bs (b :: r) := by rw [ext_end rfl, h2]
  have hu2 : ¬ (65 ≤ b.toNat ∧ b.toNat ≤ 90) := by simpa [isUp] using hu
  have q40 := u8_eq40 b
  have q91 := u8_eq91 b
  obtain ⟨i0, hi, hz0, hz1, hz2⟩ := info_parts info_term3
  have HI := Lib.hid hi
  have HZ0 := Lib.hid hz0
  have HZ1' := Lib.hid hz1
  have HZ2' := Lib.hid hz2
  clear h h2 h4 h0 hL hPt hst hu hi hz0 hz1 hz2
  simp only [List.length_cons] at hrl
  by_cases h91 : b = 91
  · rw [decide_eq_true h91] at q91
    rw [decide_eq_false (show ¬ b = 40 by rw [h91]; decide)] at q40
    have u3 : (65 : Int) ≤ b.toNat := by rw [h91]; decide
    have u4 : ¬ (b.toNat : Int) ≤ 90 := by rw [h91]; decide
    have hpre : Lib.hasPrefix (bs (b :: r)).data.toList (⟨#[91, 93]⟩ : ByteArray).data.toList = true := by
      have : r.head? = some 93 := by
        apply Decidable.byContradiction
        intro hn
        exact hli ⟨h91, hn⟩
      rw [h91]
      exact pre_yes this
    clear h91 hbo hli hu2
    go_enter Tryz.func88, Tryz.ntmps88
    go_wp2_with fail
    refine (implnext hs (H.out.ext (Ext.alloc _ _))).mono ?_
    rw [show nextB (some (b :: r)) = b from rfl]
    rintro e w1 ⟨rfl, e1⟩
    have s1 : w.heap.size + 1 ≤ w1.heap.size := by have := Below.size e1; simpa using this
    have HB1 := Lib.hid ((HB.out.ext (Ext.alloc w (.cells #[.int .i64 0, .int .i64 0, .string ⟨#[]⟩, .slice none 0 0] 25))).ext e1)
    have HZ1 := Lib.hid ((BoxT.new w (.int .i64 0) (.int .i64 0) (.string ⟨#[]⟩) (.slice none 0 0) 25 rfl).ext e1)
    have W1 := Lib.hid ((Fr.alloc (M := fun k => k = rb) w (.cells #[.int .i64 0, .int .i64 0, .string ⟨#[]⟩, .slice none 0 0] 25)).trans (Fr.of_ext e1))
    have H1 := Lib.hid ((H.out.ext (Ext.alloc w (.cells #[.int .i64 0, .int .i64 0, .string ⟨#[]⟩, .slice none 0 0] 25))).ext e1)
    have hb1 := HB1.out
    have hlt1 := hb1.lt
    have lz1 := HZ1.out.lt
    obtain ⟨d0, d1, d2, d3, g0, g1, g2, g3⟩ := hb1
    clear e1
    have N := Lib.hid (implisNumber hs H1.out)
    rw [HST.out] at N
    go_wp2_with fail
    refine N.out.mono ?_
    rintro e w2 ⟨rfl, e2⟩
    have HB2 := Lib.hid (HB1.out.ext e2)
    have HZ2 := Lib.hid (HZ1.out.ext e2)
    have W2 := Lib.hid (W1.out.trans (Fr.of_ext e2))
    have s2 : w.heap.size + 1 ≤ w2.heap.size := by have := Below.size e2; omega
    have hb2 := HB2.out
    have hlt2 := hb2.lt
    clear e2 d0 d1 d2 d3 g0 g1 g2 g3
    obtain ⟨d0, d1, d2, d3, g0, g1, g2, g3⟩ := hb2
    have cQ := quiet_call (w := w2) (quiet_prefix (bs (b :: r)) ⟨#[91, 93]⟩ _ hpre w2)
    have k0 := cell_regrown d0
    have k1 := cell_regrown d1
    have k3 := cell_regrown d3
    clear hpre
    go_wp2_with fail
    refine region_ext (by kernel_rfl) (by kernel_rfl) ?_
    repeat (go_big_quiet_step (exact cQ _ _))
    refine wpQuiet_nil ?_
    intro w5 e5
    have HB5 := Lib.hid (HB2.out.ext e5)
    have HZ5 := Lib.hid (HZ2.out.ext e5)
    have W5 := Lib.hid (W2.out.trans (Fr.of_ext e5))
    have hb5 := HB5.out
    have hlt5 := hb5.lt
    clear e5 d0 d1 d2 d3 g0 g1 g2 g3 k0 k1 k3
    obtain ⟨d0, d1, d2, d3, g0, g1, g2, g3⟩ := hb5
    clear cQ
    have HR5 := Lib.hid (RdW.mk h1 H2.out HB5.out)
    have s5 : w.heap.size + 1 ≤ w5.heap.size := HZ5.out.lt
    clear hext
    go_wp2_with fail
    refine (rdname hs HR5.out).mono ?_
    rintro e w6 ⟨f6, hr6, rfl⟩
    have R6 := Lib.hid hr6
    have W6 := Lib.hid (W5.out.trans f6)
    have HZ6 := Lib.hid (HZ5.out.fr f6 (by omega))
    have s6 := f6.size
    obtain ⟨S, hS⟩ : ∃ S, S = bs (((nameP (b :: r)).map Prod.fst).getD []) := ⟨_, rfl⟩
    rw [← hS]
    have HS := Lib.hid hS
    have SS := Lib.hid (show S.size ≤ 4000 by
      rw [hS]
      cases e : nameP (b :: r) with
      | none => decide
      | some p =>
        obtain ⟨x, y⟩ := p
        have := (nameP_len e).2
        simp only [Option.map_some, Option.getD_some, bs_size]
        simp only [List.length_cons] at this
        omega)
    clear f6 hr6 hS d0 d1 d2 d3 g0 g1 g2 g3
    go_wp2_with fail
    refine (rdatom S w6).mono ?_
    rintro e w7 ⟨rfl, e7⟩
    have s7 := Below.size e7
    have N7 := Lib.hid (implnext hs ((R6.out.ext e7).ext (Ext.alloc w7 (.cells #[.int .i64 3, .int .i64 0, .string S, .slice none 0 0] 25))))
    have E7 := Lib.hid (e7.trans (Ext.alloc w7 (.cells #[.int .i64 3, .int .i64 0, .string S, .slice none 0 0] 25)))
    have heq := u8_eq40 (nextB ((nameP (b :: r)).map Prod.snd))
    clear e7
    go_wp2_with fail
    refine N7.out.mono ?_
    rintro e w8 ⟨rfl, e8⟩
    have B8 := Lib.hid ((BoxT.new w7 (.int .i64 3) (.int .i64 0) (.string S) (.slice none 0 0) 25 rfl).ext e8)
    have W8 := Lib.hid ((W6.out.trans (Fr.of_ext E7.out)).trans (Fr.of_ext e8))
    have R8 := Lib.hid ((R6.out.ext E7.out).ext e8)
    have HZ8 := Lib.hid ((HZ6.out.ext E7.out).ext e8)
    have l8 := B8.out.lt
    clear e8
    by_cases h40 : nextB ((nameP (b :: r)).map Prod.snd) = 40
    · rw [decide_eq_true h40] at heq
      obtain ⟨s', q, hz, hnx⟩ := nm_yes (o := o) (F := F) (deep := deep) h40
      obtain ⟨X, hX⟩ : ∃ X, argsF o F deep (bs s') [] q = X := ⟨_, rfl⟩
      have HXX := Lib.hid (hnx.trans hX)
      have hSs : S = bs s' := by rw [HS.out, hz]; rfl
      rw [← hSs] at hX
      have HX0 := Lib.hid hX
      have hR := R8.out
      rw [hz] at hR
      have hR : RdW rb s o (some (40 :: q)) w8 := hR
      have HR8 := Lib.hid hR
      have hql : q.length < r.length + 1 := by
        have := (nameP_len hz).1
        simp only [List.length_cons] at this
        omega
      have hl8 : w.heap.size + 1 ≤ w7.heap.size := by omega
      clear h40 hz hnx hX hSs hR HS
      go_wp2_with fail
      go_loopg [8] (q.length + 1) (fun g mv wr => ∃ (acc : List Tm) (av : Option Addr) (cv : Nat) (more : Bool), mv = .bool more ∧
        Hid (OwnS (fun b => w7.heap.size + 1 ≤ b ∧ b < wr.heap.size) acc (.slice av acc.length cv) wr) ∧ Hid (Fr (fun k => k = rb) w wr) ∧ Hid (BoxT wr w.heap.size (.int .i64 0) (.int .i64 0) (.string ⟨#[]⟩) (.slice none 0 0)) ∧
        Hid (BoxT wr w7.heap.size (.int .i64 3) (.int .i64 0) (.string S) (.slice av acc.length cv)) ∧
        Hid ((more = true → ∃ G c q', G ≤ F ∧ g = q'.length + 1 ∧ acc.length + q'.length ≤ 4000 ∧ RdW rb s o (some (c :: q')) wr ∧ 4 * q'.length + 3 ≤ G ∧ argsF o G deep S acc q' = X) ∧
          (more = false → g = 0 ∧ acc.length ≤ 4001 ∧ ∃ Y, RdW rb s o Y wr ∧ endA S acc Y = X)))
      case atStart => exact ⟨[], none, 0, true, rfl, Lib.hid (OwnS.nil _ _), W8, HZ8, B8, Lib.hid ⟨fun _ => ⟨F, 40, q, Nat.le_refl _, rfl, by simp; omega, HR8.out, by omega, HX0.out⟩, fun h => by cases h⟩⟩
      case round =>
        obtain ⟨acc, av, cv, more, rfl, HA, HF, HZ, HT, HQ⟩ := hrel
        have lz := HZ.out.lt
        have lt := HT.out.lt
        cases more with
        | true =>
          obtain ⟨G, c, q', hG, hg, hal, hr, h4, hx⟩ := HQ.out.1 rfl
          obtain ⟨G, rfl⟩ : ∃ x, G = x + 1 := ⟨G - 1, by omega⟩
          have HXr := Lib.hid hx
          obtain ⟨n', n1, n2, nb⟩ := hr.good
          have NB := Lib.hid nb
          have NN := Lib.hid n2
          subst hg
          obtain ⟨c0, c1, c2, c3, f0, f1, f2, f3⟩ := nb
          have l0 := NB.out.lt
          clear hr hx n2 HQ
          go_upto_region 27 with (fail)
          obtain ⟨wS, hwS⟩ : ∃ z, z = wr.setCell ⟨rb, 1, none⟩ (.int .i64 ((n' : Int) + 1)) := ⟨_, rfl⟩
          have fS : Fr (fun k => k = rb) wr wS := by rw [hwS]; exact Fr.setCell wr rfl
          have RS := Lib.hid (show RdW rb s o (some q') wS by rw [hwS]; exact RdW.step NB.out NN.out rfl)
          have sS : wr.heap.size = wS.heap.size := by rw [hwS]; simp [World.setCell]
          rw [← hwS]
          have HTS := Lib.hid (HT.out.fr fS (by omega))
          have HZS := Lib.hid (HZ.out.fr fS (by omega))
          have HAS := Lib.hid (HA.out.mono (F' := fun b => w7.heap.size + 1 ≤ b ∧ b < wS.heap.size) (fun b hb => ⟨hb.1, by have := hb.2; omega⟩) fS (fun b hb e => by have := hb.1; omega))
          have WS := Lib.hid (HF.out.trans fS)
          have HC := Lib.hid (fun w' (e' : Ext wS w') => PT.out G (by omega) rb s (deep + 1) q' w' hs (by omega) ((HL.out.fr WS.out).ext e') (RS.out.ext e') (by omega))
          rw [show ((deep + 1 : Nat) : Int) = (deep : Int) + 1 by omega] at HC
          have lzS := HZS.out.lt
          have ltS := HTS.out.lt
          have hzz : w7.heap.size + 1 ≤ wS.heap.size := ltS
          have hll : acc.length < 1048576 := by omega
          have hw : IntKind.i64.wrap ((deep : Int) + 1) = (deep : Int) + 1 := by rw [IntKind.wrap_i64]; omega
          have hts := HTS.out
          obtain ⟨m0, m1, m2, m3, p0, p1, p2, p3⟩ := hts
          clear hwS fS c0 c1 c2 c3 f0 f1 f2 f3 sS m0 m1 m2
          go_region_law (first
            | (go_simp; go_at_call 138; refine (HC.out _ ?_).mono ?_; (first | exact Ext.refl _ | exact Ext.drew _); rintro e wc ⟨t, ta, tc, rfl, ho, fc, hrc, hXt⟩; (try replace fc := (Fr.drew (M := fun k => k = rb) _).trans fc); have FC := Lib.hid fc; have HO := Lib.hid (own_zone (F' := fun b => wS.heap.size ≤ b) ho (fun b hb => by simpa using hb)); have HRC := Lib.hid hrc; have HXT := Lib.hid hXt; have sc := Fr.size FC.out; have AC := Lib.hid (HAS.out.mono (fun b hb => hb) FC.out (fun b hb e => by have := hb.1; omega)); have TC := Lib.hid (HTS.out.fr FC.out (by omega)); have x3 := TC.out.2.2.2.1; have y3 := TC.out.2.2.2.2.2.2.2; have lc := TC.out.lt; clear ho fc hrc hXt; dsimp only)
            | (refine step_append_ow (w0 := wS) rfl (.tmp 123) (.tmp 128) 23 rfl (w7.heap.size + 1) i0 Tryz.underlying23 HI.out HZ0.out HZ1'.out HZ2'.out (.slice av acc.length cv) acc t ta tc rfl AC.out rfl HO.out sc hzz hll rfl ?_; intro av2 cv2 w2' hA2 hf2; have A2 := Lib.hid hA2; have F2 := Lib.hid hf2; have z3 := (TC.out.fr F2.out (by omega)).2.2.2.1; have v3 := (TC.out.fr F2.out (by omega)).2.2.2.2.2.2.2; have l2' := (TC.out.fr F2.out (by omega)).lt; clear hA2 hf2))
          all_goals
            obtain ⟨wT, hwT⟩ : ∃ z, z = w2'.setCell ⟨w7.heap.size, 3, none⟩ (.slice av2 (acc.length + 1) cv2) := ⟨_, rfl⟩
            have fT : Fr (fun k => w7.heap.size ≤ k) wc wT := by rw [hwT]; exact (F2.out.mono (fun k _ h => by omega)).trans (Fr.setCell _ (Nat.le_refl _))
            have TT := Lib.hid (show BoxT wT w7.heap.size (.int .i64 3) (.int .i64 0) (.string S) (.slice av2 (acc.length + 1) cv2) by rw [hwT]; exact (TC.out.fr F2.out (by omega)).set3 _)
            have AT := Lib.hid (show OwnS (fun b => w7.heap.size + 1 ≤ b ∧ b < wT.heap.size) (acc ++ [t]) (.slice av2 (acc.length + 1) cv2) wT by rw [hwT]; exact A2.out.mono (M := fun k => k = w7.heap.size) (fun b hb => ⟨hb.1, by simpa [World.setCell] using hb.2⟩) (Fr.setCell _ rfl) (fun b hb e => by have := hb.1; omega))
            have ZT := Lib.hid ((HZS.out.fr FC.out (by omega)).fr fT (by omega))
            have RT := Lib.hid (HRC.out.fr fT (by omega))
            have WT := Lib.hid (show Fr (fun k => k = rb) w wT from (((WS.out.trans FC.out).mono (M' := fun k => k = rb ∨ w7.heap.size ≤ k) (fun k _ h => .inl h)).trans (fT.mono (fun k _ h => .inr h))).mono (fun k hk h => by rcases h with h | h; exact h; omega))
            rw [← hwT]
            have hl2 : (acc ++ [t]).length = acc.length + 1 := by simp
            have N := Lib.hid (implnext hs RT.out)
            have heq2 : (((nextB ((partF o G (deep + 1) q').map Prod.snd)).toNat : Int) == 44) = decide (nextB ((partF o G (deep + 1) q').map Prod.snd) = 44) := u8_beq _ 44
            clear hwT fT HC x3 y3 lc z3 v3 l2'
            by_cases h44 : nextB ((partF o G (deep + 1) q').map Prod.snd) = 44
            · rw [decide_eq_true h44] at heq2
              obtain ⟨q2, hq2⟩ := next_yes (by decide) h44
              have hpt : ∃ t', partF o G (deep + 1) q' = some (t', 44 :: q2) := by
                cases e : partF o G (deep + 1) q' with
                | none => rw [e] at hq2; cases hq2
                | some p => obtain ⟨t', r'⟩ := p; rw [e] at hq2; simp at hq2; exact ⟨t', by rw [hq2]⟩
              obtain ⟨t', hpt⟩ := hpt
              have htt : t = t' := HXT.out _ _ hpt
              have hlen := part_len hpt
              have HM := Lib.hid (args_more (s := S) (acc := acc) hpt)
              rw [← htt] at HM
              simp only [List.length_cons] at hlen
              have HRQ := Lib.hid (show RdW rb s o (some (44 :: q2)) wT by rw [← hq2]; exact RT.out)
              clear hq2 hpt h44
              go_wp2_with fail
              refine N.out.mono ?_
              rintro e w3 ⟨rfl, e3⟩
              have E3 := Lib.hid e3
              have s3 := Below.size e3
              clear e3
              go_wp2_with fail
              go_roundg (q2.length + 1)
              case measure => omega
              case rel =>
                refine ⟨acc ++ [t], av2, cv2, true, rfl, Lib.hid ?_, Lib.hid (WT.out.trans (Fr.of_ext E3.out)), Lib.hid (ZT.out.ext E3.out), Lib.hid ?_, Lib.hid ⟨fun _ => ⟨G, 44, q2, by omega, rfl, by rw [hl2]; omega, HRQ.out.ext E3.out, by omega, ?_⟩, fun h => by cases h⟩⟩
                · rw [hl2]
                  exact (AT.out.ext E3.out).mono (M := fun _ => False) (fun b hb => ⟨hb.1, by have h2 := hb.2; omega⟩) (Fr.refl _ _) (fun _ _ h => h)
                · rw [hl2]
                  exact TT.out.ext E3.out
                · rw [← HM.out]
                  exact HXr.out
            · rw [decide_eq_false h44] at heq2
              have hY : endA S (acc ++ [t]) ((partF o G (deep + 1) q').map Prod.snd) = X := by
                rw [← HXr.out]
                cases e : partF o G (deep + 1) q' with
                | none => rw [args_none e]; rfl
                | some p =>
                  obtain ⟨t', r'⟩ := p
                  have htt : t = t' := HXT.out _ _ e
                  subst htt
                  rw [args_last e (fun hh => h44 (by
                    rw [e]
                    cases r' with
                    | nil => cases hh
                    | cons c r' => simp at hh; rw [hh]; rfl))]
                  rfl
              have HY := Lib.hid hY
              clear h44 hY
              go_wp2_with fail
              refine N.out.mono ?_
              rintro e w3 ⟨rfl, e3⟩
              have E3 := Lib.hid e3
              have s3 := Below.size e3
              clear e3
              go_wp2_with fail
              go_roundg 0
              case measure => omega
              case rel =>
                refine ⟨acc ++ [t], av2, cv2, false, rfl, Lib.hid ?_, Lib.hid (WT.out.trans (Fr.of_ext E3.out)), Lib.hid (ZT.out.ext E3.out), Lib.hid ?_, Lib.hid ⟨fun h => by (first | cases h), fun _ => ⟨rfl, by rw [hl2]; omega, _, RT.out.ext E3.out, HY.out⟩⟩⟩
                · rw [hl2]
                  exact (AT.out.ext E3.out).mono (M := fun _ => False) (fun b hb => ⟨hb.1, by have h2 := hb.2; omega⟩) (Fr.refl _ _) (fun _ _ h => h)
                · rw [hl2]
                  exact TT.out.ext E3.out
        | false =>
          obtain ⟨rfl, hal, Y, hY, hx⟩ := HQ.out.2 rfl
          have hef := endA_facts S acc Y
          rw [hx, ← HXX.out] at hef
          have HEF := Lib.hid hef
          have HYr := Lib.hid hY
          clear hY hx HQ hef
          go_wp2_with fail
          refine (implskip (b := 41) hs (by decide) rfl HYr.out).mono ?_
          rintro e w9 ⟨⟨v9, rfl⟩, f9, hr9⟩
          have b9 := HT.out.fr f9 (by omega)
          obtain ⟨m0, m1, m2, m3, _⟩ := b9
          have A9 := Lib.hid (HA.out.mono (fun b hb => hb) f9 (fun b hb e => by have := hb.1; omega))
          have Z9 := Lib.hid (HZ.out.fr f9 (by omega))
          have F9 := Lib.hid (HF.out.trans f9)
          have R9 := Lib.hid hr9
          have s9 := f9.size
          have z9 := Z9.out
          obtain ⟨z0, z1, z2, z3, y0, y1, y2, y3⟩ := z9
          have lz9 := Z9.out.lt
          clear hr9 f9
          go_wp2_with fail
          exact rd_ret (p := 4) (T := 25) (b := w.heap.size) (t := sT S acc) (ta := av) (tc := cv) (by kernel_rfl) (fun _ => by kernel_rfl) (fun _ => by kernel_rfl) rfl rfl Z9.out (Nat.le_refl _) (by omega) F9.out (own_sT (by have := SS.out; omega) (by omega) A9.out) (fun k hk => by have := hk.1; omega) (by rw [← HEF.out.1]; exact R9.out) (fun u r h => HEF.out.2 u r h)
    · rw [decide_eq_false h40] at heq
      have HN := Lib.hid (nm_no (o := o) (F := F) (deep := deep) h40)
      have z8 := HZ8.out
      have lz8 := z8.lt
      obtain ⟨z0, z1, z2, z3, y0, y1, y2, y3⟩ := z8
      have b8 := B8.out
      obtain ⟨m0, m1, m2, m3, _⟩ := b8
      clear h40
      go_wp2_with fail
      exact rd_ret (p := 4) (T := 25) (b := w.heap.size) (t := sT S []) (ta := none) (tc := 0) (by kernel_rfl) (fun _ => by kernel_rfl) (fun _ => by kernel_rfl) rfl rfl HZ8.out (Nat.le_refl _) (by omega) W8.out (own_nil (fun _ => False) _ _ _ _ (by have := SS.out; omega)) (fun k hk => hk.elim) (by rw [← HN.out.1]; exact R8.out) (fun u r h => by have := HN.out.2 u r h; rw [← HS.out] at this; exact this)
  · rw [decide_eq_false h91] at q91
    by_cases h40 : b = 40
    · have ho : o = false := by
        cases o with
        | false => rfl
        | true => exact absurd ⟨h40, rfl⟩ hbo
      subst ho
      rw [decide_eq_true h40] at q40
      have u3 : ¬ (65 : Int) ≤ b.toNat := by rw [h40]; decide
      clear h91 h40 hbo hli hu2
      go_enter Tryz.func88, Tryz.ntmps88
      go_wp2_with fail
      refine (implnext hs (H.out.ext (Ext.alloc _ _))).mono ?_
      rw [show nextB (some (b :: r)) = b from rfl]
      rintro e w1 ⟨rfl, e1⟩
      have s1 : w.heap.size + 1 ≤ w1.heap.size := by have := Below.size e1; simpa using this
      have HB1 := Lib.hid ((HB.out.ext (Ext.alloc w (.cells #[.int .i64 0, .int .i64 0, .string ⟨#[]⟩, .slice none 0 0] 25))).ext e1)
      have HZ1 := Lib.hid ((BoxT.new w (.int .i64 0) (.int .i64 0) (.string ⟨#[]⟩) (.slice none 0 0) 25 rfl).ext e1)
      have W1 := Lib.hid ((Fr.alloc (M := fun k => k = rb) w (.cells #[.int .i64 0, .int .i64 0, .string ⟨#[]⟩, .slice none 0 0] 25)).trans (Fr.of_ext e1))
      have H1 := Lib.hid ((H.out.ext (Ext.alloc w (.cells #[.int .i64 0, .int .i64 0, .string ⟨#[]⟩, .slice none 0 0] 25))).ext e1)
      have hb1 := HB1.out
      have hlt1 := hb1.lt
      have lz1 := HZ1.out.lt
      obtain ⟨d0, d1, d2, d3, g0, g1, g2, g3⟩ := hb1
      clear e1
      have N := Lib.hid (implisNumber hs H1.out)
      rw [HST.out] at N
      go_wp2_with fail
      refine N.out.mono ?_
      rintro e w2 ⟨rfl, e2⟩
      have HB2 := Lib.hid (HB1.out.ext e2)
      have HZ2 := Lib.hid (HZ1.out.ext e2)
      have W2 := Lib.hid (W1.out.trans (Fr.of_ext e2))
      have s2 : w.heap.size + 1 ≤ w2.heap.size := by have := Below.size e2; omega
      have hb2 := HB2.out
      have hlt2 := hb2.lt
      clear e2 d0 d1 d2 d3 g0 g1 g2 g3
      obtain ⟨d0, d1, d2, d3, g0, g1, g2, g3⟩ := hb2
      have k0 := cell_regrown d0
      have k1 := cell_regrown d1
      have k3 := cell_regrown d3
      skip
      go_wp2_with fail
      refine region_ext (by kernel_rfl) (by kernel_rfl) ?_
      repeat (go_big_quiet_step (fail))
      refine wpQuiet_nil ?_
      intro w5 e5
      have HB5 := Lib.hid (HB2.out.ext e5)
      have HZ5 := Lib.hid (HZ2.out.ext e5)
      have W5 := Lib.hid (W2.out.trans (Fr.of_ext e5))
      have hb5 := HB5.out
      have hlt5 := hb5.lt
      clear e5 d0 d1 d2 d3 g0 g1 g2 g3 k0 k1 k3
      obtain ⟨d0, d1, d2, d3, g0, g1, g2, g3⟩ := hb5
      have HR5 := Lib.hid (RdW.mk h1 H2.out HB5.out)
      have s5 : w.heap.size + 1 ≤ w5.heap.size := HZ5.out.lt
      clear hext
      go_wp2_with fail
      refine (rdname hs HR5.out).mono ?_
      rintro e w6 ⟨f6, hr6, rfl⟩
      have R6 := Lib.hid hr6
      have W6 := Lib.hid (W5.out.trans f6)
      have HZ6 := Lib.hid (HZ5.out.fr f6 (by omega))
      have s6 := f6.size
      obtain ⟨S, hS⟩ : ∃ S, S = bs (((nameP (b :: r)).map Prod.fst).getD []) := ⟨_, rfl⟩
      rw [← hS]
      have HS := Lib.hid hS
      have SS := Lib.hid (show S.size ≤ 4000 by
        rw [hS]
        cases e : nameP (b :: r) with
        | none => decide
        | some p =>
          obtain ⟨x, y⟩ := p
          have := (nameP_len e).2
          simp only [Option.map_some, Option.getD_some, bs_size]
          simp only [List.length_cons] at this
          omega)
      clear f6 hr6 hS d0 d1 d2 d3 g0 g1 g2 g3
      go_wp2_with fail
      refine (rdatom S w6).mono ?_
      rintro e w7 ⟨rfl, e7⟩
      have s7 := Below.size e7
      have N7 := Lib.hid (implnext hs ((R6.out.ext e7).ext (Ext.alloc w7 (.cells #[.int .i64 3, .int .i64 0, .string S, .slice none 0 0] 25))))
      have E7 := Lib.hid (e7.trans (Ext.alloc w7 (.cells #[.int .i64 3, .int .i64 0, .string S, .slice none 0 0] 25)))
      have heq := u8_eq40 (nextB ((nameP (b :: r)).map Prod.snd))
      clear e7
      go_wp2_with fail
      refine N7.out.mono ?_
      rintro e w8 ⟨rfl, e8⟩
      have B8 := Lib.hid ((BoxT.new w7 (.int .i64 3) (.int .i64 0) (.string S) (.slice none 0 0) 25 rfl).ext e8)
      have W8 := Lib.hid ((W6.out.trans (Fr.of_ext E7.out)).trans (Fr.of_ext e8))
      have R8 := Lib.hid ((R6.out.ext E7.out).ext e8)
      have HZ8 := Lib.hid ((HZ6.out.ext E7.out).ext e8)
      have l8 := B8.out.lt
      clear e8
      by_cases h40 : nextB ((nameP (b :: r)).map Prod.snd) = 40
      · rw [decide_eq_true h40] at heq
        obtain ⟨s', q, hz, hnx⟩ := nm_yes (o := false) (F := F) (deep := deep) h40
        obtain ⟨X, hX⟩ : ∃ X, argsF false F deep (bs s') [] q = X := ⟨_, rfl⟩
        have HXX := Lib.hid (hnx.trans hX)
        have hSs : S = bs s' := by rw [HS.out, hz]; rfl
        rw [← hSs] at hX
        have HX0 := Lib.hid hX
        have hR := R8.out
        rw [hz] at hR
        have hR : RdW rb s false (some (40 :: q)) w8 := hR
        have HR8 := Lib.hid hR
        have hql : q.length < r.length + 1 := by
          have := (nameP_len hz).1
          simp only [List.length_cons] at this
          omega
        have hl8 : w.heap.size + 1 ≤ w7.heap.size := by omega
        clear h40 hz hnx hX hSs hR HS
        go_wp2_with fail
        go_loopg [8] (q.length + 1) (fun g mv wr => ∃ (acc : List Tm) (av : Option Addr) (cv : Nat) (more : Bool), mv = .bool more ∧
          Hid (OwnS (fun b => w7.heap.size + 1 ≤ b ∧ b < wr.heap.size) acc (.slice av acc.length cv) wr) ∧ Hid (Fr (fun k => k = rb) w wr) ∧ Hid (BoxT wr w.heap.size (.int .i64 0) (.int .i64 0) (.string ⟨#[]⟩) (.slice none 0 0)) ∧
          Hid (BoxT wr w7.heap.size (.int .i64 3) (.int .i64 0) (.string S) (.slice av acc.length cv)) ∧
          Hid ((more = true → ∃ G c q', G ≤ F ∧ g = q'.length + 1 ∧ acc.length + q'.length ≤ 4000 ∧ RdW rb s false (some (c :: q')) wr ∧ 4 * q'.length + 3 ≤ G ∧ argsF false G deep S acc q' = X) ∧
            (more = false → g = 0 ∧ acc.length ≤ 4001 ∧ ∃ Y, RdW rb s false Y wr ∧ endA S acc Y = X)))
        case atStart => exact ⟨[], none, 0, true, rfl, Lib.hid (OwnS.nil _ _), W8, HZ8, B8, Lib.hid ⟨fun _ => ⟨F, 40, q, Nat.le_refl _, rfl, by simp; omega, HR8.out, by omega, HX0.out⟩, fun h => by cases h⟩⟩
        case round =>
          obtain ⟨acc, av, cv, more, rfl, HA, HF, HZ, HT, HQ⟩ := hrel
          have lz := HZ.out.lt
          have lt := HT.out.lt
          cases more with
          | true =>
            obtain ⟨G, c, q', hG, hg, hal, hr, h4, hx⟩ := HQ.out.1 rfl
            obtain ⟨G, rfl⟩ : ∃ x, G = x + 1 := ⟨G - 1, by omega⟩
            have HXr := Lib.hid hx
            obtain ⟨n', n1, n2, nb⟩ := hr.good
            have NB := Lib.hid nb
            have NN := Lib.hid n2
            subst hg
            obtain ⟨c0, c1, c2, c3, f0, f1, f2, f3⟩ := nb
            have l0 := NB.out.lt
            clear hr hx n2 HQ
            go_upto_region 27 with (fail)
            obtain ⟨wS, hwS⟩ : ∃ z, z = wr.setCell ⟨rb, 1, none⟩ (.int .i64 ((n' : Int) + 1)) := ⟨_, rfl⟩
            have fS : Fr (fun k => k = rb) wr wS := by rw [hwS]; exact Fr.setCell wr rfl
            have RS := Lib.hid (show RdW rb s false (some q') wS by rw [hwS]; exact RdW.step NB.out NN.out rfl)
            have sS : wr.heap.size = wS.heap.size := by rw [hwS]; simp [World.setCell]
            rw [← hwS]
            have HTS := Lib.hid (HT.out.fr fS (by omega))
            have HZS := Lib.hid (HZ.out.fr fS (by omega))
            have HAS := Lib.hid (HA.out.mono (F' := fun b => w7.heap.size + 1 ≤ b ∧ b < wS.heap.size) (fun b hb => ⟨hb.1, by have := hb.2; omega⟩) fS (fun b hb e => by have := hb.1; omega))
            have WS := Lib.hid (HF.out.trans fS)
            have HC := Lib.hid (fun w' (e' : Ext wS w') => PT.out G (by omega) rb s (deep + 1) q' w' hs (by omega) ((HL.out.fr WS.out).ext e') (RS.out.ext e') (by omega))
            rw [show ((deep + 1 : Nat) : Int) = (deep : Int) + 1 by omega] at HC
            have lzS := HZS.out.lt
            have ltS := HTS.out.lt
            have hzz : w7.heap.size + 1 ≤ wS.heap.size := ltS
            have hll : acc.length < 1048576 := by omega
            have hw : IntKind.i64.wrap ((deep : Int) + 1) = (deep : Int) + 1 := by rw [IntKind.wrap_i64]; omega
            have hts := HTS.out
            obtain ⟨m0, m1, m2, m3, p0, p1, p2, p3⟩ := hts
            clear hwS fS c0 c1 c2 c3 f0 f1 f2 f3 sS m0 m1 m2
            go_region_law (first
              | (go_simp; go_at_call 138; refine (HC.out _ ?_).mono ?_; (first | exact Ext.refl _ | exact Ext.drew _); rintro e wc ⟨t, ta, tc, rfl, ho, fc, hrc, hXt⟩; (try replace fc := (Fr.drew (M := fun k => k = rb) _).trans fc); have FC := Lib.hid fc; have HO := Lib.hid (own_zone (F' := fun b => wS.heap.size ≤ b) ho (fun b hb => by simpa using hb)); have HRC := Lib.hid hrc; have HXT := Lib.hid hXt; have sc := Fr.size FC.out; have AC := Lib.hid (HAS.out.mono (fun b hb => hb) FC.out (fun b hb e => by have := hb.1; omega)); have TC := Lib.hid (HTS.out.fr FC.out (by omega)); have x3 := TC.out.2.2.2.1; have y3 := TC.out.2.2.2.2.2.2.2; have lc := TC.out.lt; clear ho fc hrc hXt; dsimp only)
              | (refine step_append_ow (w0 := wS) rfl (.tmp 123) (.tmp 128) 23 rfl (w7.heap.size + 1) i0 Tryz.underlying23 HI.out HZ0.out HZ1'.out HZ2'.out (.slice av acc.length cv) acc t ta tc rfl AC.out rfl HO.out sc hzz hll rfl ?_; intro av2 cv2 w2' hA2 hf2; have A2 := Lib.hid hA2; have F2 := Lib.hid hf2; have z3 := (TC.out.fr F2.out (by omega)).2.2.2.1; have v3 := (TC.out.fr F2.out (by omega)).2.2.2.2.2.2.2; have l2' := (TC.out.fr F2.out (by omega)).lt; clear hA2 hf2))
            all_goals
              obtain ⟨wT, hwT⟩ : ∃ z, z = w2'.setCell ⟨w7.heap.size, 3, none⟩ (.slice av2 (acc.length + 1) cv2) := ⟨_, rfl⟩
              have fT : Fr (fun k => w7.heap.size ≤ k) wc wT := by rw [hwT]; exact (F2.out.mono (fun k _ h => by omega)).trans (Fr.setCell _ (Nat.le_refl _))
              have TT := Lib.hid (show BoxT wT w7.heap.size (.int .i64 3) (.int .i64 0) (.string S) (.slice av2 (acc.length + 1) cv2) by rw [hwT]; exact (TC.out.fr F2.out (by omega)).set3 _)
              have AT := Lib.hid (show OwnS (fun b => w7.heap.size + 1 ≤ b ∧ b < wT.heap.size) (acc ++ [t]) (.slice av2 (acc.length + 1) cv2) wT by rw [hwT]; exact A2.out.mono (M := fun k => k = w7.heap.size) (fun b hb => ⟨hb.1, by simpa [World.setCell] using hb.2⟩) (Fr.setCell _ rfl) (fun b hb e => by have := hb.1; omega))
              have ZT := Lib.hid ((HZS.out.fr FC.out (by omega)).fr fT (by omega))
              have RT := Lib.hid (HRC.out.fr fT (by omega))
              have WT := Lib.hid (show Fr (fun k => k = rb) w wT from (((WS.out.trans FC.out).mono (M' := fun k => k = rb ∨ w7.heap.size ≤ k) (fun k _ h => .inl h)).trans (fT.mono (fun k _ h => .inr h))).mono (fun k hk h => by rcases h with h | h; exact h; omega))
              rw [← hwT]
              have hl2 : (acc ++ [t]).length = acc.length + 1 := by simp
              have N := Lib.hid (implnext hs RT.out)
              have heq2 : (((nextB ((partF false G (deep + 1) q').map Prod.snd)).toNat : Int) == 44) = decide (nextB ((partF false G (deep + 1) q').map Prod.snd) = 44) := u8_beq _ 44
              clear hwT fT HC x3 y3 lc z3 v3 l2'
              by_cases h44 : nextB ((partF false G (deep + 1) q').map Prod.snd) = 44
              · rw [decide_eq_true h44] at heq2
                obtain ⟨q2, hq2⟩ := next_yes (by decide) h44
                have hpt : ∃ t', partF false G (deep + 1) q' = some (t', 44 :: q2) := by
                  cases e : partF false G (deep + 1) q' with
                  | none => rw [e] at hq2; cases hq2
                  | some p => obtain ⟨t', r'⟩ := p; rw [e] at hq2; simp at hq2; exact ⟨t', by rw [hq2]⟩
                obtain ⟨t', hpt⟩ := hpt
                have htt : t = t' := HXT.out _ _ hpt
                have hlen := part_len hpt
                have HM := Lib.hid (args_more (s := S) (acc := acc) hpt)
                rw [← htt] at HM
                simp only [List.length_cons] at hlen
                have HRQ := Lib.hid (show RdW rb s false (some (44 :: q2)) wT by rw [← hq2]; exact RT.out)
                clear hq2 hpt h44
                go_wp2_with fail
                refine N.out.mono ?_
                rintro e w3 ⟨rfl, e3⟩
                have E3 := Lib.hid e3
                have s3 := Below.size e3
                clear e3
                go_wp2_with fail
                go_roundg (q2.length + 1)
                case measure => omega
                case rel =>
                  refine ⟨acc ++ [t], av2, cv2, true, rfl, Lib.hid ?_, Lib.hid (WT.out.trans (Fr.of_ext E3.out)), Lib.hid (ZT.out.ext E3.out), Lib.hid ?_, Lib.hid ⟨fun _ => ⟨G, 44, q2, by omega, rfl, by rw [hl2]; omega, HRQ.out.ext E3.out, by omega, ?_⟩, fun h => by cases h⟩⟩
                  · rw [hl2]
                    exact (AT.out.ext E3.out).mono (M := fun _ => False) (fun b hb => ⟨hb.1, by have h2 := hb.2; omega⟩) (Fr.refl _ _) (fun _ _ h => h)
                  · rw [hl2]
                    exact TT.out.ext E3.out
                  · rw [← HM.out]
                    exact HXr.out
              · rw [decide_eq_false h44] at heq2
                have hY : endA S (acc ++ [t]) ((partF false G (deep + 1) q').map Prod.snd) = X := by
                  rw [← HXr.out]
                  cases e : partF false G (deep + 1) q' with
                  | none => rw [args_none e]; rfl
                  | some p =>
                    obtain ⟨t', r'⟩ := p
                    have htt : t = t' := HXT.out _ _ e
                    subst htt
                    rw [args_last e (fun hh => h44 (by
                      rw [e]
                      cases r' with
                      | nil => cases hh
                      | cons c r' => simp at hh; rw [hh]; rfl))]
                    rfl
                have HY := Lib.hid hY
                clear h44 hY
                go_wp2_with fail
                refine N.out.mono ?_
                rintro e w3 ⟨rfl, e3⟩
                have E3 := Lib.hid e3
                have s3 := Below.size e3
                clear e3
                go_wp2_with fail
                go_roundg 0
                case measure => omega
                case rel =>
                  refine ⟨acc ++ [t], av2, cv2, false, rfl, Lib.hid ?_, Lib.hid (WT.out.trans (Fr.of_ext E3.out)), Lib.hid (ZT.out.ext E3.out), Lib.hid ?_, Lib.hid ⟨fun h => by (first | cases h), fun _ => ⟨rfl, by rw [hl2]; omega, _, RT.out.ext E3.out, HY.out⟩⟩⟩
                  · rw [hl2]
                    exact (AT.out.ext E3.out).mono (M := fun _ => False) (fun b hb => ⟨hb.1, by have h2 := hb.2; omega⟩) (Fr.refl _ _) (fun _ _ h => h)
                  · rw [hl2]
                    exact TT.out.ext E3.out
          | false =>
            obtain ⟨rfl, hal, Y, hY, hx⟩ := HQ.out.2 rfl
            have hef := endA_facts S acc Y
            rw [hx, ← HXX.out] at hef
            have HEF := Lib.hid hef
            have HYr := Lib.hid hY
            clear hY hx HQ hef
            go_wp2_with fail
            refine (implskip (b := 41) hs (by decide) rfl HYr.out).mono ?_
            rintro e w9 ⟨⟨v9, rfl⟩, f9, hr9⟩
            have b9 := HT.out.fr f9 (by omega)
            obtain ⟨m0, m1, m2, m3, _⟩ := b9
            have A9 := Lib.hid (HA.out.mono (fun b hb => hb) f9 (fun b hb e => by have := hb.1; omega))
            have Z9 := Lib.hid (HZ.out.fr f9 (by omega))
            have F9 := Lib.hid (HF.out.trans f9)
            have R9 := Lib.hid hr9
            have s9 := f9.size
            have z9 := Z9.out
            obtain ⟨z0, z1, z2, z3, y0, y1, y2, y3⟩ := z9
            have lz9 := Z9.out.lt
            clear hr9 f9
            go_wp2_with fail
            exact rd_ret (p := 4) (T := 25) (b := w.heap.size) (t := sT S acc) (ta := av) (tc := cv) (by kernel_rfl) (fun _ => by kernel_rfl) (fun _ => by kernel_rfl) rfl rfl Z9.out (Nat.le_refl _) (by omega) F9.out (own_sT (by have := SS.out; omega) (by omega) A9.out) (fun k hk => by have := hk.1; omega) (by rw [← HEF.out.1]; exact R9.out) (fun u r h => HEF.out.2 u r h)
      · rw [decide_eq_false h40] at heq
        have HN := Lib.hid (nm_no (o := false) (F := F) (deep := deep) h40)
        have z8 := HZ8.out
        have lz8 := z8.lt
        obtain ⟨z0, z1, z2, z3, y0, y1, y2, y3⟩ := z8
        have b8 := B8.out
        obtain ⟨m0, m1, m2, m3, _⟩ := b8
        clear h40
        go_wp2_with fail
        exact rd_ret (p := 4) (T := 25) (b := w.heap.size) (t := sT S []) (ta := none) (tc := 0) (by kernel_rfl) (fun _ => by kernel_rfl) (fun _ => by kernel_rfl) rfl rfl HZ8.out (Nat.le_refl _) (by omega) W8.out (own_nil (fun _ => False) _ _ _ _ (by have := SS.out; omega)) (fun k hk => hk.elim) (by rw [← HN.out.1]; exact R8.out) (fun u r h => by have := HN.out.2 u r h; rw [← HS.out] at this; exact this)
    · rw [decide_eq_false h40] at q40
      clear h91 h40 hbo hli
      by_cases u3 : (65 : Int) ≤ b.toNat
      · have u4 : ¬ (b.toNat : Int) ≤ 90 := by omega
        clear hu2
        go_enter Tryz.func88, Tryz.ntmps88
        go_wp2_with fail
        refine (implnext hs (H.out.ext (Ext.alloc _ _))).mono ?_
        rw [show nextB (some (b :: r)) = b from rfl]
        rintro e w1 ⟨rfl, e1⟩
        have s1 : w.heap.size + 1 ≤ w1.heap.size := by have := Below.size e1; simpa using this
        have HB1 := Lib.hid ((HB.out.ext (Ext.alloc w (.cells #[.int .i64 0, .int .i64 0, .string ⟨#[]⟩, .slice none 0 0] 25))).ext e1)
        have HZ1 := Lib.hid ((BoxT.new w (.int .i64 0) (.int .i64 0) (.string ⟨#[]⟩) (.slice none 0 0) 25 rfl).ext e1)
        have W1 := Lib.hid ((Fr.alloc (M := fun k => k = rb) w (.cells #[.int .i64 0, .int .i64 0, .string ⟨#[]⟩, .slice none 0 0] 25)).trans (Fr.of_ext e1))
        have H1 := Lib.hid ((H.out.ext (Ext.alloc w (.cells #[.int .i64 0, .int .i64 0, .string ⟨#[]⟩, .slice none 0 0] 25))).ext e1)
        have hb1 := HB1.out
        have hlt1 := hb1.lt
        have lz1 := HZ1.out.lt
        obtain ⟨d0, d1, d2, d3, g0, g1, g2, g3⟩ := hb1
        clear e1
        have N := Lib.hid (implisNumber hs H1.out)
        rw [HST.out] at N
        go_wp2_with fail
        refine N.out.mono ?_
        rintro e w2 ⟨rfl, e2⟩
        have HB2 := Lib.hid (HB1.out.ext e2)
        have HZ2 := Lib.hid (HZ1.out.ext e2)
        have W2 := Lib.hid (W1.out.trans (Fr.of_ext e2))
        have s2 : w.heap.size + 1 ≤ w2.heap.size := by have := Below.size e2; omega
        have hb2 := HB2.out
        have hlt2 := hb2.lt
        clear e2 d0 d1 d2 d3 g0 g1 g2 g3
        obtain ⟨d0, d1, d2, d3, g0, g1, g2, g3⟩ := hb2
        have k0 := cell_regrown d0
        have k1 := cell_regrown d1
        have k3 := cell_regrown d3
        skip
        go_wp2_with fail
        refine region_ext (by kernel_rfl) (by kernel_rfl) ?_
        repeat (go_big_quiet_step (fail))
        refine wpQuiet_nil ?_
        intro w5 e5
        have HB5 := Lib.hid (HB2.out.ext e5)
        have HZ5 := Lib.hid (HZ2.out.ext e5)
        have W5 := Lib.hid (W2.out.trans (Fr.of_ext e5))
        have hb5 := HB5.out
        have hlt5 := hb5.lt
        clear e5 d0 d1 d2 d3 g0 g1 g2 g3 k0 k1 k3
        obtain ⟨d0, d1, d2, d3, g0, g1, g2, g3⟩ := hb5
        have HR5 := Lib.hid (RdW.mk h1 H2.out HB5.out)
        have s5 : w.heap.size + 1 ≤ w5.heap.size := HZ5.out.lt
        clear hext
        go_wp2_with fail
        refine (rdname hs HR5.out).mono ?_
        rintro e w6 ⟨f6, hr6, rfl⟩
        have R6 := Lib.hid hr6
        have W6 := Lib.hid (W5.out.trans f6)
        have HZ6 := Lib.hid (HZ5.out.fr f6 (by omega))
        have s6 := f6.size
        obtain ⟨S, hS⟩ : ∃ S, S = bs (((nameP (b :: r)).map Prod.fst).getD []) := ⟨_, rfl⟩
        rw [← hS]
        have HS := Lib.hid hS
        have SS := Lib.hid (show S.size ≤ 4000 by
          rw [hS]
          cases e : nameP (b :: r) with
          | none => decide
          | some p =>
            obtain ⟨x, y⟩ := p
            have := (nameP_len e).2
            simp only [Option.map_some, Option.getD_some, bs_size]
            simp only [List.length_cons] at this
            omega)
        clear f6 hr6 hS d0 d1 d2 d3 g0 g1 g2 g3
        go_wp2_with fail
        refine (rdatom S w6).mono ?_
        rintro e w7 ⟨rfl, e7⟩
        have s7 := Below.size e7
        have N7 := Lib.hid (implnext hs ((R6.out.ext e7).ext (Ext.alloc w7 (.cells #[.int .i64 3, .int .i64 0, .string S, .slice none 0 0] 25))))
        have E7 := Lib.hid (e7.trans (Ext.alloc w7 (.cells #[.int .i64 3, .int .i64 0, .string S, .slice none 0 0] 25)))
        have heq := u8_eq40 (nextB ((nameP (b :: r)).map Prod.snd))
        clear e7
        go_wp2_with fail
        refine N7.out.mono ?_
        rintro e w8 ⟨rfl, e8⟩
        have B8 := Lib.hid ((BoxT.new w7 (.int .i64 3) (.int .i64 0) (.string S) (.slice none 0 0) 25 rfl).ext e8)
        have W8 := Lib.hid ((W6.out.trans (Fr.of_ext E7.out)).trans (Fr.of_ext e8))
        have R8 := Lib.hid ((R6.out.ext E7.out).ext e8)
        have HZ8 := Lib.hid ((HZ6.out.ext E7.out).ext e8)
        have l8 := B8.out.lt
        clear e8
        by_cases h40 : nextB ((nameP (b :: r)).map Prod.snd) = 40
        · rw [decide_eq_true h40] at heq
          obtain ⟨s', q, hz, hnx⟩ := nm_yes (o := o) (F := F) (deep := deep) h40
          obtain ⟨X, hX⟩ : ∃ X, argsF o F deep (bs s') [] q = X := ⟨_, rfl⟩
          have HXX := Lib.hid (hnx.trans hX)
          have hSs : S = bs s' := by rw [HS.out, hz]; rfl
          rw [← hSs] at hX
          have HX0 := Lib.hid hX
          have hR := R8.out
          rw [hz] at hR
          have hR : RdW rb s o (some (40 :: q)) w8 := hR
          have HR8 := Lib.hid hR
          have hql : q.length < r.length + 1 := by
            have := (nameP_len hz).1
            simp only [List.length_cons] at this
            omega
          have hl8 : w.heap.size + 1 ≤ w7.heap.size := by omega
          clear h40 hz hnx hX hSs hR HS
          go_wp2_with fail
          go_loopg [8] (q.length + 1) (fun g mv wr => ∃ (acc : List Tm) (av : Option Addr) (cv : Nat) (more : Bool), mv = .bool more ∧
            Hid (OwnS (fun b => w7.heap.size + 1 ≤ b ∧ b < wr.heap.size) acc (.slice av acc.length cv) wr) ∧ Hid (Fr (fun k => k = rb) w wr) ∧ Hid (BoxT wr w.heap.size (.int .i64 0) (.int .i64 0) (.string ⟨#[]⟩) (.slice none 0 0)) ∧
            Hid (BoxT wr w7.heap.size (.int .i64 3) (.int .i64 0) (.string S) (.slice av acc.length cv)) ∧
            Hid ((more = true → ∃ G c q', G ≤ F ∧ g = q'.length + 1 ∧ acc.length + q'.length ≤ 4000 ∧ RdW rb s o (some (c :: q')) wr ∧ 4 * q'.length + 3 ≤ G ∧ argsF o G deep S acc q' = X) ∧
              (more = false → g = 0 ∧ acc.length ≤ 4001 ∧ ∃ Y, RdW rb s o Y wr ∧ endA S acc Y = X)))
          case atStart => exact ⟨[], none, 0, true, rfl, Lib.hid (OwnS.nil _ _), W8, HZ8, B8, Lib.hid ⟨fun _ => ⟨F, 40, q, Nat.le_refl _, rfl, by simp; omega, HR8.out, by omega, HX0.out⟩, fun h => by cases h⟩⟩
          case round =>
            obtain ⟨acc, av, cv, more, rfl, HA, HF, HZ, HT, HQ⟩ := hrel
            have lz := HZ.out.lt
            have lt := HT.out.lt
            cases more with
            | true =>
              obtain ⟨G, c, q', hG, hg, hal, hr, h4, hx⟩ := HQ.out.1 rfl
              obtain ⟨G, rfl⟩ : ∃ x, G = x + 1 := ⟨G - 1, by omega⟩
              have HXr := Lib.hid hx
              obtain ⟨n', n1, n2, nb⟩ := hr.good
              have NB := Lib.hid nb
              have NN := Lib.hid n2
              subst hg
              obtain ⟨c0, c1, c2, c3, f0, f1, f2, f3⟩ := nb
              have l0 := NB.out.lt
              clear hr hx n2 HQ
              go_upto_region 27 with (fail)
              obtain ⟨wS, hwS⟩ : ∃ z, z = wr.setCell ⟨rb, 1, none⟩ (.int .i64 ((n' : Int) + 1)) := ⟨_, rfl⟩
              have fS : Fr (fun k => k = rb) wr wS := by rw [hwS]; exact Fr.setCell wr rfl
              have RS := Lib.hid (show RdW rb s o (some q') wS by rw [hwS]; exact RdW.step NB.out NN.out rfl)
              have sS : wr.heap.size = wS.heap.size := by rw [hwS]; simp [World.setCell]
              rw [← hwS]
              have HTS := Lib.hid (HT.out.fr fS (by omega))
              have HZS := Lib.hid (HZ.out.fr fS (by omega))
              have HAS := Lib.hid (HA.out.mono (F' := fun b => w7.heap.size + 1 ≤ b ∧ b < wS.heap.size) (fun b hb => ⟨hb.1, by have := hb.2; omega⟩) fS (fun b hb e => by have := hb.1; omega))
              have WS := Lib.hid (HF.out.trans fS)
              have HC := Lib.hid (fun w' (e' : Ext wS w') => PT.out G (by omega) rb s (deep + 1) q' w' hs (by omega) ((HL.out.fr WS.out).ext e') (RS.out.ext e') (by omega))
              rw [show ((deep + 1 : Nat) : Int) = (deep : Int) + 1 by omega] at HC
              have lzS := HZS.out.lt
              have ltS := HTS.out.lt
              have hzz : w7.heap.size + 1 ≤ wS.heap.size := ltS
              have hll : acc.length < 1048576 := by omega
              have hw : IntKind.i64.wrap ((deep : Int) + 1) = (deep : Int) + 1 := by rw [IntKind.wrap_i64]; omega
              have hts := HTS.out
              obtain ⟨m0, m1, m2, m3, p0, p1, p2, p3⟩ := hts
              clear hwS fS c0 c1 c2 c3 f0 f1 f2 f3 sS m0 m1 m2
              go_region_law (first
                | (go_simp; go_at_call 138; refine (HC.out _ ?_).mono ?_; (first | exact Ext.refl _ | exact Ext.drew _); rintro e wc ⟨t, ta, tc, rfl, ho, fc, hrc, hXt⟩; (try replace fc := (Fr.drew (M := fun k => k = rb) _).trans fc); have FC := Lib.hid fc; have HO := Lib.hid (own_zone (F' := fun b => wS.heap.size ≤ b) ho (fun b hb => by simpa using hb)); have HRC := Lib.hid hrc; have HXT := Lib.hid hXt; have sc := Fr.size FC.out; have AC := Lib.hid (HAS.out.mono (fun b hb => hb) FC.out (fun b hb e => by have := hb.1; omega)); have TC := Lib.hid (HTS.out.fr FC.out (by omega)); have x3 := TC.out.2.2.2.1; have y3 := TC.out.2.2.2.2.2.2.2; have lc := TC.out.lt; clear ho fc hrc hXt; dsimp only)
                | (refine step_append_ow (w0 := wS) rfl (.tmp 123) (.tmp 128) 23 rfl (w7.heap.size + 1) i0 Tryz.underlying23 HI.out HZ0.out HZ1'.out HZ2'.out (.slice av acc.length cv) acc t ta tc rfl AC.out rfl HO.out sc hzz hll rfl ?_; intro av2 cv2 w2' hA2 hf2; have A2 := Lib.hid hA2; have F2 := Lib.hid hf2; have z3 := (TC.out.fr F2.out (by omega)).2.2.2.1; have v3 := (TC.out.fr F2.out (by omega)).2.2.2.2.2.2.2; have l2' := (TC.out.fr F2.out (by omega)).lt; clear hA2 hf2))
              all_goals
                obtain ⟨wT, hwT⟩ : ∃ z, z = w2'.setCell ⟨w7.heap.size, 3, none⟩ (.slice av2 (acc.length + 1) cv2) := ⟨_, rfl⟩
                have fT : Fr (fun k => w7.heap.size ≤ k) wc wT := by rw [hwT]; exact (F2.out.mono (fun k _ h => by omega)).trans (Fr.setCell _ (Nat.le_refl _))
                have TT := Lib.hid (show BoxT wT w7.heap.size (.int .i64 3) (.int .i64 0) (.string S) (.slice av2 (acc.length + 1) cv2) by rw [hwT]; exact (TC.out.fr F2.out (by omega)).set3 _)
                have AT := Lib.hid (show OwnS (fun b => w7.heap.size + 1 ≤ b ∧ b < wT.heap.size) (acc ++ [t]) (.slice av2 (acc.length + 1) cv2) wT by rw [hwT]; exact A2.out.mono (M := fun k => k = w7.heap.size) (fun b hb => ⟨hb.1, by simpa [World.setCell] using hb.2⟩) (Fr.setCell _ rfl) (fun b hb e => by have := hb.1; omega))
                have ZT := Lib.hid ((HZS.out.fr FC.out (by omega)).fr fT (by omega))
                have RT := Lib.hid (HRC.out.fr fT (by omega))
                have WT := Lib.hid (show Fr (fun k => k = rb) w wT from (((WS.out.trans FC.out).mono (M' := fun k => k = rb ∨ w7.heap.size ≤ k) (fun k _ h => .inl h)).trans (fT.mono (fun k _ h => .inr h))).mono (fun k hk h => by rcases h with h | h; exact h; omega))
                rw [← hwT]
                have hl2 : (acc ++ [t]).length = acc.length + 1 := by simp
                have N := Lib.hid (implnext hs RT.out)
                have heq2 : (((nextB ((partF o G (deep + 1) q').map Prod.snd)).toNat : Int) == 44) = decide (nextB ((partF o G (deep + 1) q').map Prod.snd) = 44) := u8_beq _ 44
                clear hwT fT HC x3 y3 lc z3 v3 l2'
                by_cases h44 : nextB ((partF o G (deep + 1) q').map Prod.snd) = 44
                · rw [decide_eq_true h44] at heq2
                  obtain ⟨q2, hq2⟩ := next_yes (by decide) h44
                  have hpt : ∃ t', partF o G (deep + 1) q' = some (t', 44 :: q2) := by
                    cases e : partF o G (deep + 1) q' with
                    | none => rw [e] at hq2; cases hq2
                    | some p => obtain ⟨t', r'⟩ := p; rw [e] at hq2; simp at hq2; exact ⟨t', by rw [hq2]⟩
                  obtain ⟨t', hpt⟩ := hpt
                  have htt : t = t' := HXT.out _ _ hpt
                  have hlen := part_len hpt
                  have HM := Lib.hid (args_more (s := S) (acc := acc) hpt)
                  rw [← htt] at HM
                  simp only [List.length_cons] at hlen
                  have HRQ := Lib.hid (show RdW rb s o (some (44 :: q2)) wT by rw [← hq2]; exact RT.out)
                  clear hq2 hpt h44
                  go_wp2_with fail
                  refine N.out.mono ?_
                  rintro e w3 ⟨rfl, e3⟩
                  have E3 := Lib.hid e3
                  have s3 := Below.size e3
                  clear e3
                  go_wp2_with fail
                  go_roundg (q2.length + 1)
                  case measure => omega
                  case rel =>
                    refine ⟨acc ++ [t], av2, cv2, true, rfl, Lib.hid ?_, Lib.hid (WT.out.trans (Fr.of_ext E3.out)), Lib.hid (ZT.out.ext E3.out), Lib.hid ?_, Lib.hid ⟨fun _ => ⟨G, 44, q2, by omega, rfl, by rw [hl2]; omega, HRQ.out.ext E3.out, by omega, ?_⟩, fun h => by cases h⟩⟩
                    · rw [hl2]
                      exact (AT.out.ext E3.out).mono (M := fun _ => False) (fun b hb => ⟨hb.1, by have h2 := hb.2; omega⟩) (Fr.refl _ _) (fun _ _ h => h)
                    · rw [hl2]
                      exact TT.out.ext E3.out
                    · rw [← HM.out]
                      exact HXr.out
                · rw [decide_eq_false h44] at heq2
                  have hY : endA S (acc ++ [t]) ((partF o G (deep + 1) q').map Prod.snd) = X := by
                    rw [← HXr.out]
                    cases e : partF o G (deep + 1) q' with
                    | none => rw [args_none e]; rfl
                    | some p =>
                      obtain ⟨t', r'⟩ := p
                      have htt : t = t' := HXT.out _ _ e
                      subst htt
                      rw [args_last e (fun hh => h44 (by
                        rw [e]
                        cases r' with
                        | nil => cases hh
                        | cons c r' => simp at hh; rw [hh]; rfl))]
                      rfl
                  have HY := Lib.hid hY
                  clear h44 hY
                  go_wp2_with fail
                  refine N.out.mono ?_
                  rintro e w3 ⟨rfl, e3⟩
                  have E3 := Lib.hid e3
                  have s3 := Below.size e3
                  clear e3
                  go_wp2_with fail
                  go_roundg 0
                  case measure => omega
                  case rel =>
                    refine ⟨acc ++ [t], av2, cv2, false, rfl, Lib.hid ?_, Lib.hid (WT.out.trans (Fr.of_ext E3.out)), Lib.hid (ZT.out.ext E3.out), Lib.hid ?_, Lib.hid ⟨fun h => by (first | cases h), fun _ => ⟨rfl, by rw [hl2]; omega, _, RT.out.ext E3.out, HY.out⟩⟩⟩
                    · rw [hl2]
                      exact (AT.out.ext E3.out).mono (M := fun _ => False) (fun b hb => ⟨hb.1, by have h2 := hb.2; omega⟩) (Fr.refl _ _) (fun _ _ h => h)
                    · rw [hl2]
                      exact TT.out.ext E3.out
            | false =>
              obtain ⟨rfl, hal, Y, hY, hx⟩ := HQ.out.2 rfl
              have hef := endA_facts S acc Y
              rw [hx, ← HXX.out] at hef
              have HEF := Lib.hid hef
              have HYr := Lib.hid hY
              clear hY hx HQ hef
              go_wp2_with fail
              refine (implskip (b := 41) hs (by decide) rfl HYr.out).mono ?_
              rintro e w9 ⟨⟨v9, rfl⟩, f9, hr9⟩
              have b9 := HT.out.fr f9 (by omega)
              obtain ⟨m0, m1, m2, m3, _⟩ := b9
              have A9 := Lib.hid (HA.out.mono (fun b hb => hb) f9 (fun b hb e => by have := hb.1; omega))
              have Z9 := Lib.hid (HZ.out.fr f9 (by omega))
              have F9 := Lib.hid (HF.out.trans f9)
              have R9 := Lib.hid hr9
              have s9 := f9.size
              have z9 := Z9.out
              obtain ⟨z0, z1, z2, z3, y0, y1, y2, y3⟩ := z9
              have lz9 := Z9.out.lt
              clear hr9 f9
              go_wp2_with fail
              exact rd_ret (p := 4) (T := 25) (b := w.heap.size) (t := sT S acc) (ta := av) (tc := cv) (by kernel_rfl) (fun _ => by kernel_rfl) (fun _ => by kernel_rfl) rfl rfl Z9.out (Nat.le_refl _) (by omega) F9.out (own_sT (by have := SS.out; omega) (by omega) A9.out) (fun k hk => by have := hk.1; omega) (by rw [← HEF.out.1]; exact R9.out) (fun u r h => HEF.out.2 u r h)
        · rw [decide_eq_false h40] at heq
          have HN := Lib.hid (nm_no (o := o) (F := F) (deep := deep) h40)
          have z8 := HZ8.out
          have lz8 := z8.lt
          obtain ⟨z0, z1, z2, z3, y0, y1, y2, y3⟩ := z8
          have b8 := B8.out
          obtain ⟨m0, m1, m2, m3, _⟩ := b8
          clear h40
          go_wp2_with fail
          exact rd_ret (p := 4) (T := 25) (b := w.heap.size) (t := sT S []) (ta := none) (tc := 0) (by kernel_rfl) (fun _ => by kernel_rfl) (fun _ => by kernel_rfl) rfl rfl HZ8.out (Nat.le_refl _) (by omega) W8.out (own_nil (fun _ => False) _ _ _ _ (by have := SS.out; omega)) (fun k hk => hk.elim) (by rw [← HN.out.1]; exact R8.out) (fun u r h => by have := HN.out.2 u r h; rw [← HS.out] at this; exact this)
      · clear hu2
        go_enter Tryz.func88, Tryz.ntmps88
        go_wp2_with fail
        refine (implnext hs (H.out.ext (Ext.alloc _ _))).mono ?_
        rw [show nextB (some (b :: r)) = b from rfl]
        rintro e w1 ⟨rfl, e1⟩
        have s1 : w.heap.size + 1 ≤ w1.heap.size := by have := Below.size e1; simpa using this
        have HB1 := Lib.hid ((HB.out.ext (Ext.alloc w (.cells #[.int .i64 0, .int .i64 0, .string ⟨#[]⟩, .slice none 0 0] 25))).ext e1)
        have HZ1 := Lib.hid ((BoxT.new w (.int .i64 0) (.int .i64 0) (.string ⟨#[]⟩) (.slice none 0 0) 25 rfl).ext e1)
        have W1 := Lib.hid ((Fr.alloc (M := fun k => k = rb) w (.cells #[.int .i64 0, .int .i64 0, .string ⟨#[]⟩, .slice none 0 0] 25)).trans (Fr.of_ext e1))
        have H1 := Lib.hid ((H.out.ext (Ext.alloc w (.cells #[.int .i64 0, .int .i64 0, .string ⟨#[]⟩, .slice none 0 0] 25))).ext e1)
        have hb1 := HB1.out
        have hlt1 := hb1.lt
        have lz1 := HZ1.out.lt
        obtain ⟨d0, d1, d2, d3, g0, g1, g2, g3⟩ := hb1
        clear e1
        have N := Lib.hid (implisNumber hs H1.out)
        rw [HST.out] at N
        go_wp2_with fail
        refine N.out.mono ?_
        rintro e w2 ⟨rfl, e2⟩
        have HB2 := Lib.hid (HB1.out.ext e2)
        have HZ2 := Lib.hid (HZ1.out.ext e2)
        have W2 := Lib.hid (W1.out.trans (Fr.of_ext e2))
        have s2 : w.heap.size + 1 ≤ w2.heap.size := by have := Below.size e2; omega
        have hb2 := HB2.out
        have hlt2 := hb2.lt
        clear e2 d0 d1 d2 d3 g0 g1 g2 g3
        obtain ⟨d0, d1, d2, d3, g0, g1, g2, g3⟩ := hb2
        have k0 := cell_regrown d0
        have k1 := cell_regrown d1
        have k3 := cell_regrown d3
        skip
        go_wp2_with fail
        refine region_ext (by kernel_rfl) (by kernel_rfl) ?_
        repeat (go_big_quiet_step (fail))
        refine wpQuiet_nil ?_
        intro w5 e5
        have HB5 := Lib.hid (HB2.out.ext e5)
        have HZ5 := Lib.hid (HZ2.out.ext e5)
        have W5 := Lib.hid (W2.out.trans (Fr.of_ext e5))
        have hb5 := HB5.out
        have hlt5 := hb5.lt
        clear e5 d0 d1 d2 d3 g0 g1 g2 g3 k0 k1 k3
        obtain ⟨d0, d1, d2, d3, g0, g1, g2, g3⟩ := hb5
        have HR5 := Lib.hid (RdW.mk h1 H2.out HB5.out)
        have s5 : w.heap.size + 1 ≤ w5.heap.size := HZ5.out.lt
        clear hext
        go_wp2_with fail
        refine (rdname hs HR5.out).mono ?_
        rintro e w6 ⟨f6, hr6, rfl⟩
        have R6 := Lib.hid hr6
        have W6 := Lib.hid (W5.out.trans f6)
        have HZ6 := Lib.hid (HZ5.out.fr f6 (by omega))
        have s6 := f6.size
        obtain ⟨S, hS⟩ : ∃ S, S = bs (((nameP (b :: r)).map Prod.fst).getD []) := ⟨_, rfl⟩
        rw [← hS]
        have HS := Lib.hid hS
        have SS := Lib.hid (show S.size ≤ 4000 by
          rw [hS]
          cases e : nameP (b :: r) with
          | none => decide
          | some p =>
            obtain ⟨x, y⟩ := p
            have := (nameP_len e).2
            simp only [Option.map_some, Option.getD_some, bs_size]
            simp only [List.length_cons] at this
            omega)
        clear f6 hr6 hS d0 d1 d2 d3 g0 g1 g2 g3
        go_wp2_with fail
        refine (rdatom S w6).mono ?_
        rintro e w7 ⟨rfl, e7⟩
        have s7 := Below.size e7
        have N7 := Lib.hid (implnext hs ((R6.out.ext e7).ext (Ext.alloc w7 (.cells #[.int .i64 3, .int .i64 0, .string S, .slice none 0 0] 25))))
        have E7 := Lib.hid (e7.trans (Ext.alloc w7 (.cells #[.int .i64 3, .int .i64 0, .string S, .slice none 0 0] 25)))
        have heq := u8_eq40 (nextB ((nameP (b :: r)).map Prod.snd))
        clear e7
        go_wp2_with fail
        refine N7.out.mono ?_
        rintro e w8 ⟨rfl, e8⟩
        have B8 := Lib.hid ((BoxT.new w7 (.int .i64 3) (.int .i64 0) (.string S) (.slice none 0 0) 25 rfl).ext e8)
        have W8 := Lib.hid ((W6.out.trans (Fr.of_ext E7.out)).trans (Fr.of_ext e8))
        have R8 := Lib.hid ((R6.out.ext E7.out).ext e8)
        have HZ8 := Lib.hid ((HZ6.out.ext E7.out).ext e8)
        have l8 := B8.out.lt
        clear e8
        by_cases h40 : nextB ((nameP (b :: r)).map Prod.snd) = 40
        · rw [decide_eq_true h40] at heq
          obtain ⟨s', q, hz, hnx⟩ := nm_yes (o := o) (F := F) (deep := deep) h40
          obtain ⟨X, hX⟩ : ∃ X, argsF o F deep (bs s') [] q = X := ⟨_, rfl⟩
          have HXX := Lib.hid (hnx.trans hX)
          have hSs : S = bs s' := by rw [HS.out, hz]; rfl
          rw [← hSs] at hX
          have HX0 := Lib.hid hX
          have hR := R8.out
          rw [hz] at hR
          have hR : RdW rb s o (some (40 :: q)) w8 := hR
          have HR8 := Lib.hid hR
          have hql : q.length < r.length + 1 := by
            have := (nameP_len hz).1
            simp only [List.length_cons] at this
            omega
          have hl8 : w.heap.size + 1 ≤ w7.heap.size := by omega
          clear h40 hz hnx hX hSs hR HS
          go_wp2_with fail
          go_loopg [8] (q.length + 1) (fun g mv wr => ∃ (acc : List Tm) (av : Option Addr) (cv : Nat) (more : Bool), mv = .bool more ∧
            Hid (OwnS (fun b => w7.heap.size + 1 ≤ b ∧ b < wr.heap.size) acc (.slice av acc.length cv) wr) ∧ Hid (Fr (fun k => k = rb) w wr) ∧ Hid (BoxT wr w.heap.size (.int .i64 0) (.int .i64 0) (.string ⟨#[]⟩) (.slice none 0 0)) ∧
            Hid (BoxT wr w7.heap.size (.int .i64 3) (.int .i64 0) (.string S) (.slice av acc.length cv)) ∧
            Hid ((more = true → ∃ G c q', G ≤ F ∧ g = q'.length + 1 ∧ acc.length + q'.length ≤ 4000 ∧ RdW rb s o (some (c :: q')) wr ∧ 4 * q'.length + 3 ≤ G ∧ argsF o G deep S acc q' = X) ∧
              (more = false → g = 0 ∧ acc.length ≤ 4001 ∧ ∃ Y, RdW rb s o Y wr ∧ endA S acc Y = X)))
          case atStart => exact ⟨[], none, 0, true, rfl, Lib.hid (OwnS.nil _ _), W8, HZ8, B8, Lib.hid ⟨fun _ => ⟨F, 40, q, Nat.le_refl _, rfl, by simp; omega, HR8.out, by omega, HX0.out⟩, fun h => by cases h⟩⟩
          case round =>
            obtain ⟨acc, av, cv, more, rfl, HA, HF, HZ, HT, HQ⟩ := hrel
            have lz := HZ.out.lt
            have lt := HT.out.lt
            cases more with
            | true =>
              obtain ⟨G, c, q', hG, hg, hal, hr, h4, hx⟩ := HQ.out.1 rfl
              obtain ⟨G, rfl⟩ : ∃ x, G = x + 1 := ⟨G - 1, by omega⟩
              have HXr := Lib.hid hx
              obtain ⟨n', n1, n2, nb⟩ := hr.good
              have NB := Lib.hid nb
              have NN := Lib.hid n2
              subst hg
              obtain ⟨c0, c1, c2, c3, f0, f1, f2, f3⟩ := nb
              have l0 := NB.out.lt
              clear hr hx n2 HQ
              go_upto_region 27 with (fail)
              obtain ⟨wS, hwS⟩ : ∃ z, z = wr.setCell ⟨rb, 1, none⟩ (.int .i64 ((n' : Int) + 1)) := ⟨_, rfl⟩
              have fS : Fr (fun k => k = rb) wr wS := by rw [hwS]; exact Fr.setCell wr rfl
              have RS := Lib.hid (show RdW rb s o (some q') wS by rw [hwS]; exact RdW.step NB.out NN.out rfl)
              have sS : wr.heap.size = wS.heap.size := by rw [hwS]; simp [World.setCell]
              rw [← hwS]
              have HTS := Lib.hid (HT.out.fr fS (by omega))
              have HZS := Lib.hid (HZ.out.fr fS (by omega))
              have HAS := Lib.hid (HA.out.mono (F' := fun b => w7.heap.size + 1 ≤ b ∧ b < wS.heap.size) (fun b hb => ⟨hb.1, by have := hb.2; omega⟩) fS (fun b hb e => by have := hb.1; omega))
              have WS := Lib.hid (HF.out.trans fS)
              have HC := Lib.hid (fun w' (e' : Ext wS w') => PT.out G (by omega) rb s (deep + 1) q' w' hs (by omega) ((HL.out.fr WS.out).ext e') (RS.out.ext e') (by omega))
              rw [show ((deep + 1 : Nat) : Int) = (deep : Int) + 1 by omega] at HC
              have lzS := HZS.out.lt
              have ltS := HTS.out.lt
              have hzz : w7.heap.size + 1 ≤ wS.heap.size := ltS
              have hll : acc.length < 1048576 := by omega
              have hw : IntKind.i64.wrap ((deep : Int) + 1) = (deep : Int) + 1 := by rw [IntKind.wrap_i64]; omega
              have hts := HTS.out
              obtain ⟨m0, m1, m2, m3, p0, p1, p2, p3⟩ := hts
              clear hwS fS c0 c1 c2 c3 f0 f1 f2 f3 sS m0 m1 m2
              go_region_law (first
                | (go_simp; go_at_call 138; refine (HC.out _ ?_).mono ?_; (first | exact Ext.refl _ | exact Ext.drew _); rintro e wc ⟨t, ta, tc, rfl, ho, fc, hrc, hXt⟩; (try replace fc := (Fr.drew (M := fun k => k = rb) _).trans fc); have FC := Lib.hid fc; have HO := Lib.hid (own_zone (F' := fun b => wS.heap.size ≤ b) ho (fun b hb => by simpa using hb)); have HRC := Lib.hid hrc; have HXT := Lib.hid hXt; have sc := Fr.size FC.out; have AC := Lib.hid (HAS.out.mono (fun b hb => hb) FC.out (fun b hb e => by have := hb.1; omega)); have TC := Lib.hid (HTS.out.fr FC.out (by omega)); have x3 := TC.out.2.2.2.1; have y3 := TC.out.2.2.2.2.2.2.2; have lc := TC.out.lt; clear ho fc hrc hXt; dsimp only)
                | (refine step_append_ow (w0 := wS) rfl (.tmp 123) (.tmp 128) 23 rfl (w7.heap.size + 1) i0 Tryz.underlying23 HI.out HZ0.out HZ1'.out HZ2'.out (.slice av acc.length cv) acc t ta tc rfl AC.out rfl HO.out sc hzz hll rfl ?_; intro av2 cv2 w2' hA2 hf2; have A2 := Lib.hid hA2; have F2 := Lib.hid hf2; have z3 := (TC.out.fr F2.out (by omega)).2.2.2.1; have v3 := (TC.out.fr F2.out (by omega)).2.2.2.2.2.2.2; have l2' := (TC.out.fr F2.out (by omega)).lt; clear hA2 hf2))
              all_goals
                obtain ⟨wT, hwT⟩ : ∃ z, z = w2'.setCell ⟨w7.heap.size, 3, none⟩ (.slice av2 (acc.length + 1) cv2) := ⟨_, rfl⟩
                have fT : Fr (fun k => w7.heap.size ≤ k) wc wT := by rw [hwT]; exact (F2.out.mono (fun k _ h => by omega)).trans (Fr.setCell _ (Nat.le_refl _))
                have TT := Lib.hid (show BoxT wT w7.heap.size (.int .i64 3) (.int .i64 0) (.string S) (.slice av2 (acc.length + 1) cv2) by rw [hwT]; exact (TC.out.fr F2.out (by omega)).set3 _)
                have AT := Lib.hid (show OwnS (fun b => w7.heap.size + 1 ≤ b ∧ b < wT.heap.size) (acc ++ [t]) (.slice av2 (acc.length + 1) cv2) wT by rw [hwT]; exact A2.out.mono (M := fun k => k = w7.heap.size) (fun b hb => ⟨hb.1, by simpa [World.setCell] using hb.2⟩) (Fr.setCell _ rfl) (fun b hb e => by have := hb.1; omega))
                have ZT := Lib.hid ((HZS.out.fr FC.out (by omega)).fr fT (by omega))
                have RT := Lib.hid (HRC.out.fr fT (by omega))
                have WT := Lib.hid (show Fr (fun k => k = rb) w wT from (((WS.out.trans FC.out).mono (M' := fun k => k = rb ∨ w7.heap.size ≤ k) (fun k _ h => .inl h)).trans (fT.mono (fun k _ h => .inr h))).mono (fun k hk h => by rcases h with h | h; exact h; omega))
                rw [← hwT]
                have hl2 : (acc ++ [t]).length = acc.length + 1 := by simp
                have N := Lib.hid (implnext hs RT.out)
                have heq2 : (((nextB ((partF o G (deep + 1) q').map Prod.snd)).toNat : Int) == 44) = decide (nextB ((partF o G (deep + 1) q').map Prod.snd) = 44) := u8_beq _ 44
                clear hwT fT HC x3 y3 lc z3 v3 l2'
                by_cases h44 : nextB ((partF o G (deep + 1) q').map Prod.snd) = 44
                · rw [decide_eq_true h44] at heq2
                  obtain ⟨q2, hq2⟩ := next_yes (by decide) h44
                  have hpt : ∃ t', partF o G (deep + 1) q' = some (t', 44 :: q2) := by
                    cases e : partF o G (deep + 1) q' with
                    | none => rw [e] at hq2; cases hq2
                    | some p => obtain ⟨t', r'⟩ := p; rw [e] at hq2; simp at hq2; exact ⟨t', by rw [hq2]⟩
                  obtain ⟨t', hpt⟩ := hpt
                  have htt : t = t' := HXT.out _ _ hpt
                  have hlen := part_len hpt
                  have HM := Lib.hid (args_more (s := S) (acc := acc) hpt)
                  rw [← htt] at HM
                  simp only [List.length_cons] at hlen
                  have HRQ := Lib.hid (show RdW rb s o (some (44 :: q2)) wT by rw [← hq2]; exact RT.out)
                  clear hq2 hpt h44
                  go_wp2_with fail
                  refine N.out.mono ?_
                  rintro e w3 ⟨rfl, e3⟩
                  have E3 := Lib.hid e3
                  have s3 := Below.size e3
                  clear e3
                  go_wp2_with fail
                  go_roundg (q2.length + 1)
                  case measure => omega
                  case rel =>
                    refine ⟨acc ++ [t], av2, cv2, true, rfl, Lib.hid ?_, Lib.hid (WT.out.trans (Fr.of_ext E3.out)), Lib.hid (ZT.out.ext E3.out), Lib.hid ?_, Lib.hid ⟨fun _ => ⟨G, 44, q2, by omega, rfl, by rw [hl2]; omega, HRQ.out.ext E3.out, by omega, ?_⟩, fun h => by cases h⟩⟩
                    · rw [hl2]
                      exact (AT.out.ext E3.out).mono (M := fun _ => False) (fun b hb => ⟨hb.1, by have h2 := hb.2; omega⟩) (Fr.refl _ _) (fun _ _ h => h)
                    · rw [hl2]
                      exact TT.out.ext E3.out
                    · rw [← HM.out]
                      exact HXr.out
                · rw [decide_eq_false h44] at heq2
                  have hY : endA S (acc ++ [t]) ((partF o G (deep + 1) q').map Prod.snd) = X := by
                    rw [← HXr.out]
                    cases e : partF o G (deep + 1) q' with
                    | none => rw [args_none e]; rfl
                    | some p =>
                      obtain ⟨t', r'⟩ := p
                      have htt : t = t' := HXT.out _ _ e
                      subst htt
                      rw [args_last e (fun hh => h44 (by
                        rw [e]
                        cases r' with
                        | nil => cases hh
                        | cons c r' => simp at hh; rw [hh]; rfl))]
                      rfl
                  have HY := Lib.hid hY
                  clear h44 hY
                  go_wp2_with fail
                  refine N.out.mono ?_
                  rintro e w3 ⟨rfl, e3⟩
                  have E3 := Lib.hid e3
                  have s3 := Below.size e3
                  clear e3
                  go_wp2_with fail
                  go_roundg 0
                  case measure => omega
                  case rel =>
                    refine ⟨acc ++ [t], av2, cv2, false, rfl, Lib.hid ?_, Lib.hid (WT.out.trans (Fr.of_ext E3.out)), Lib.hid (ZT.out.ext E3.out), Lib.hid ?_, Lib.hid ⟨fun h => by (first | cases h), fun _ => ⟨rfl, by rw [hl2]; omega, _, RT.out.ext E3.out, HY.out⟩⟩⟩
                    · rw [hl2]
                      exact (AT.out.ext E3.out).mono (M := fun _ => False) (fun b hb => ⟨hb.1, by have h2 := hb.2; omega⟩) (Fr.refl _ _) (fun _ _ h => h)
                    · rw [hl2]
                      exact TT.out.ext E3.out
            | false =>
              obtain ⟨rfl, hal, Y, hY, hx⟩ := HQ.out.2 rfl
              have hef := endA_facts S acc Y
              rw [hx, ← HXX.out] at hef
              have HEF := Lib.hid hef
              have HYr := Lib.hid hY
              clear hY hx HQ hef
              go_wp2_with fail
              refine (implskip (b := 41) hs (by decide) rfl HYr.out).mono ?_
              rintro e w9 ⟨⟨v9, rfl⟩, f9, hr9⟩
              have b9 := HT.out.fr f9 (by omega)
              obtain ⟨m0, m1, m2, m3, _⟩ := b9
              have A9 := Lib.hid (HA.out.mono (fun b hb => hb) f9 (fun b hb e => by have := hb.1; omega))
              have Z9 := Lib.hid (HZ.out.fr f9 (by omega))
              have F9 := Lib.hid (HF.out.trans f9)
              have R9 := Lib.hid hr9
              have s9 := f9.size
              have z9 := Z9.out
              obtain ⟨z0, z1, z2, z3, y0, y1, y2, y3⟩ := z9
              have lz9 := Z9.out.lt
              clear hr9 f9
              go_wp2_with fail
              exact rd_ret (p := 4) (T := 25) (b := w.heap.size) (t := sT S acc) (ta := av) (tc := cv) (by kernel_rfl) (fun _ => by kernel_rfl) (fun _ => by kernel_rfl) rfl rfl Z9.out (Nat.le_refl _) (by omega) F9.out (own_sT (by have := SS.out; omega) (by omega) A9.out) (fun k hk => by have := hk.1; omega) (by rw [← HEF.out.1]; exact R9.out) (fun u r h => HEF.out.2 u r h)
        · rw [decide_eq_false h40] at heq
          have HN := Lib.hid (nm_no (o := o) (F := F) (deep := deep) h40)
          have z8 := HZ8.out
          have lz8 := z8.lt
          obtain ⟨z0, z1, z2, z3, y0, y1, y2, y3⟩ := z8
          have b8 := B8.out
          obtain ⟨m0, m1, m2, m3, _⟩ := b8
          clear h40
          go_wp2_with fail
          exact rd_ret (p := 4) (T := 25) (b := w.heap.size) (t := sT S []) (ta := none) (tc := 0) (by kernel_rfl) (fun _ => by kernel_rfl) (fun _ => by kernel_rfl) rfl rfl HZ8.out (Nat.le_refl _) (by omega) W8.out (own_nil (fun _ => False) _ _ _ _ (by have := SS.out; omega)) (fun k hk => hk.elim) (by rw [← HN.out.1]; exact R8.out) (fun u r h => by have := HN.out.2 u r h; rw [← HS.out] at this; exact this)
end Go.Proofs.YtognkaebiafgbaaGreatDoor
