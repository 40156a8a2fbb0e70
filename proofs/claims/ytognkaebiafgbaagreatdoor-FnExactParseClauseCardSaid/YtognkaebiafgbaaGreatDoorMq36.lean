/-
  The reference's readers of clauses: l4Goals.
-/
import Derived.Test.YtognkaebiafgbaaGreatDoorMq35
import Derived.Test.YtognkaebiafgbaaGreatDoorMq31
import Derived.Test.YtognkaebiafgbaaGreatDoorMq22
namespace Go.Proofs.YtognkaebiafgbaaGreatDoor
open Go.RowKit
set_option linter.unusedVariables false
theorem goals_none {rd : List UInt8 → Option (Tm × List UInt8)} {n : Nat} {acc : List Tm} {rest : List UInt8} (h : rd rest = none) : goalsG rd (n + 1) acc rest = none := by rw [goalsG, h]
theorem goals_last {rd : List UInt8 → Option (Tm × List UInt8)} {n : Nat} {acc : List Tm} {rest q : List UInt8} {t : Tm} (h : rd rest = some (t, q)) (hc : hdB (isB 44) (some q) = false) : goalsG rd (n + 1) acc rest = some (acc ++ [t], q) := by rw [goalsG, h]; simp only [hc, Bool.false_eq_true, if_false]
theorem goals_more {rd : List UInt8 → Option (Tm × List UInt8)} {n : Nat} {acc : List Tm} {rest q : List UInt8} {t : Tm} (h : rd rest = some (t, 44 :: q)) : goalsG rd (n + 1) acc rest = goalsG rd n (acc ++ [t]) q := by
  rw [goalsG, h]
  have hc : hdB (isB 44) (some (44 :: q)) = true := rfl
  simp only [hc, if_true, List.tail_cons]
set_option maxRecDepth 100000 in
set_option maxHeartbeats 4000000 in
theorem specl4Goals (F : Nat) (s : ByteArray) (r0 : List UInt8) (i0 : Int) (w : World) (hs : s.size ≤ 1000) (hat : AtR s (some r0) i0) (hF : 6 * s.size + 4 ≤ F) :
    Calls Tryz.prog 72 #[.string s, .int .i64 i0] w (SpTms s (goalsG (rdF F 30 3) 7 [] r0) w) := by
  obtain ⟨X, hX⟩ : ∃ X, goalsG (rdF F 30 3) 7 [] r0 = X := ⟨_, rfl⟩
  rw [hX]
  have HX0 := Lib.hid hX
  have HA0 := Lib.hid hat
  have hr0 := hat.len
  have hi0 : 0 ≤ i0 := by obtain ⟨n, rfl, _⟩ := hat.good; omega
  have hs' : s.size ≤ 1048576 := by omega
  obtain ⟨ti, hi, hz0, hz1, hz2⟩ := info_parts info_term3
  have HI := Lib.hid hi
  have HZ0 := Lib.hid hz0
  have HZ1 := Lib.hid hz1
  have HZ2 := Lib.hid hz2
  clear hX hat hi hz0 hz1 hz2
  go_enter Tryz.func72, Tryz.ntmps72
  go_wp2_with fail
  go_loopg [1, 6] 8 (fun g iv lv wr => ∃ (acc : List Tm) (av : Option Addr) (cv : Nat) (i : Int) (r : List UInt8) (n : Nat), iv = .int .i64 i ∧ lv = .slice av acc.length cv ∧ g = n + 1 ∧ acc.length + n = 7 ∧
    Hid (AppI 25 (fun b => w.heap.size ≤ b) acc (.slice av acc.length cv) wr) ∧ Hid (Ext w wr) ∧ Hid (AtR s (some r) i) ∧ Hid (goalsG (rdF F 30 3) n acc r = X))
  case atStart =>
    exact ⟨[], _, _, i0, r0, 7, rfl, rfl, rfl, rfl, Lib.hid (AppI.empty rfl (Nat.le_refl _)), Lib.hid (Ext.alloc _ _), HA0, HX0⟩
  case round =>
    obtain ⟨acc, av, cv, i, r, n, rfl, rfl, hg, hal, HA, HE, HAt, HXr⟩ := hrel
    subst hg
    by_cases hn0 : n = 0
    · subst hn0
      have hgt : ¬ (acc.length : Int) ≤ 6 := by omega
      have HXN := Lib.hid (show X = none by rw [← HXr.out]; rfl)
      go_wp2_with fail
      go_ret2
      rw [HXN.out]
      exact SpTms.fail rfl (by omega) (by omega) HE.out
    obtain ⟨n, rfl⟩ : ∃ z, n = z + 1 := ⟨n - 1, by omega⟩
    have hle6 : (acc.length : Int) ≤ 6 := by omega
    have hlc : acc.length < 1048576 := by omega
    have sE : w.heap.size ≤ wr.heap.size := Below.size HE.out
    have hrl := HAt.out.len
    have hii : 0 ≤ i := by obtain ⟨m, rfl, _⟩ := HAt.out.good; omega
    have C := Lib.hid (rd_all F s r i 30 3 wr hs (by omega) (by omega) HAt.out (by omega))
    go_wp2_with fail
    refine C.out.mono ?_
    rintro e w1 ⟨t, ta, tc, i1, rfl, ht, e1, hat1, hXt⟩
    have HAt1 := Lib.hid hat1
    have HXt := Lib.hid hXt
    have l1 := hat1.le hs'
    have s1 : wr.heap.size ≤ w1.heap.size := Below.size e1
    have e12 : Ext wr (w1.alloc (.cells #[.int .i64 t.kind, .int .i64 t.n, .string t.name, .slice ta t.kids.length tc] 25)) := e1.trans (Ext.alloc _ _)
    have HA1 := Lib.hid (HA.out.ext e12)
    have HV1 := Lib.hid (HA.out.apart (fun b hb => by omega) (Tm.at_ext (Ext.alloc w1 (.cells #[.int .i64 t.kind, .int .i64 t.n, .string t.name, .slice ta t.kids.length tc] 25)) ht))
    have hnew : ∀ b, (w1.alloc (.cells #[.int .i64 t.kind, .int .i64 t.n, .string t.name, .slice ta t.kids.length tc] 25)).heap.size ≤ b → w.heap.size ≤ b := fun b hb => by simp at hb; omega
    have HN := Lib.hid hnew
    have E12 := Lib.hid e12
    clear ht e1 hat1 hXt e12 hnew
    cases hrd : rdF F 30 3 r with
    | none =>
      rw [hrd] at HAt1
      have hneg : i1 < 0 := HAt1.out.bad.1
      have HXN := Lib.hid (show X = none by rw [← HXr.out]; exact goals_none hrd)
      have E02 := Lib.hid (HE.out.trans E12.out)
      clear hrd
      go_wp2_with fail
      go_ret2
      rw [HXN.out]
      exact SpTms.fail rfl (by omega) (by omega) E02.out
    | some p =>
      obtain ⟨k, q⟩ := p
      have htk := HXt.out k q hrd
      subst htk
      have HRD := Lib.hid hrd
      have hpos : ¬ i1 < 0 := by
        rw [hrd] at HAt1
        obtain ⟨n, rfl, _⟩ := HAt1.out.good
        omega
      have hi1 : i1 ≤ 1000 := by
        rw [hrd] at HAt1
        have := HAt1.out.len
        omega
      have HI1 := Lib.hid (show 0 ≤ i1 ∧ i1 ≤ 1000 from ⟨by omega, hi1⟩)
      rw [hrd] at HAt1
      have SGc := fun w' => signX HAt1.out 44 44 rfl w' hs'
      have hx0 : ((rdF F 30 3 r).map Prod.snd) = some q := by rw [hrd]; rfl
      clear hrd
      go_wp2_with (at_builtin; refine wpList_append_tmN rfl (.tmp 21) (.tmp 23) 23 rfl (fun b => w.heap.size ≤ b) 25 ti Tryz.underlying23 HI.out HZ0.out HZ1.out HZ2.out (.slice av acc.length cv) acc t ta tc rfl HA1.out rfl HV1.out hlc HN.out (by simp) ?_; intro av2 cv2 w2 hA2 hf2; have A2 := Lib.hid hA2; have F2 := Lib.hid hf2; clear hA2 hf2)
      have E02 := Lib.hid (show Ext w w2 from ((Fr.of_ext (M := fun b => w.heap.size ≤ b) (HE.out.trans E12.out)).trans F2.out).toExt (fun q hq h => by omega))
      have hl2 : (acc ++ [t]).length = acc.length + 1 := by simp
      cases hcc : hdB (isB 44) (some q)
      · have SGc := Lib.hid (fun w' => hcc ▸ SGc w')
        have HXn := Lib.hid (show X = some (acc ++ [t], q) by rw [← HXr.out]; exact goals_last HRD.out hcc)
        clear hcc hx0
        go_wp2_with fail
        refine (SGc.out w2).mono ?_
        rintro e w5 ⟨rfl, e5⟩
        have E5 := Lib.hid e5
        clear e5
        go_wp2_with fail
        go_ret2
        rw [HXn.out]
        have hsl := (A2.out.ext E5.out).sl (by rw [hl2]; omega)
        rw [← hl2] at hsl ⊢
        exact ⟨acc ++ [t], av2, cv2, i1, rfl, hsl, E02.out.trans E5.out, HAt1.out, fun us r h => by cases h; rfl⟩
      · have SGc := Lib.hid (fun w' => hcc ▸ SGc w')
        obtain ⟨r', hq⟩ : ∃ r', q = 44 :: r' := by
          cases q with
          | nil => cases hcc
          | cons c q' => exact ⟨q', by rw [show c = 44 by simpa [hdB, isB] using hcc]⟩
        have HXn := Lib.hid (show goalsG (rdF F 30 3) n (acc ++ [t]) r' = X by rw [← HXr.out]; exact (goals_more (by rw [HRD.out, hq])).symm)
        have HAn := Lib.hid (show AtR s (some r') (i1 + 1) from AtR.next (b := 44) (by have := HAt1.out; rw [hq] at this; exact this))
        clear hcc hx0 hq
        go_wp2_with fail
        refine (SGc.out w2).mono ?_
        rintro e w5 ⟨rfl, e5⟩
        have E5 := Lib.hid e5
        clear e5
        go_wp2_with fail
        go_roundg (n + 1)
        case measure => omega
        case rel =>
          exact ⟨acc ++ [t], av2, cv2, i1 + 1, r', n, rfl, by rw [hl2], rfl, by rw [hl2]; omega, Lib.hid (by rw [hl2]; exact A2.out.ext E5.out), Lib.hid (E02.out.trans E5.out), HAn, HXn⟩
end Go.Proofs.YtognkaebiafgbaaGreatDoor

namespace Go.Proofs.YtognkaebiafgbaaGreatDoor
open Go.RowKit
set_option linter.unusedVariables false
noncomputable def gX (F n : Nat) (acc : List Tm) : Option (List UInt8) → Option (List Tm × List UInt8)
  | none => none
  | some r => goalsG (termF true F 3 1) n acc r
def RdTms (rb : Nat) (s : ByteArray) (Y : Option (List Tm × List UInt8)) (w : World) (e : Ending) (w' : World) : Prop :=
  ∃ ts a c, e = .returned (.slice a ts.length c) ∧ OwnS (fun b => w.heap.size ≤ b ∧ b < w'.heap.size) ts (.slice a ts.length c) w' ∧ ts.length ≤ 1048576 ∧ Fr (fun k => k = rb) w w' ∧ RdW rb s true (Y.map Prod.snd) w' ∧ (∀ us r, Y = some (us, r) → ts = us)
set_option maxRecDepth 100000 in
set_option maxHeartbeats 4000000 in
theorem implgoals {rb : Nat} {s : ByteArray} {F : Nat} {X0 : Option (List UInt8)} {w : World} (n0 : Nat) (hs : s.size ≤ 4000) (hF : 4 * s.size + 2 ≤ F) (hn : s.size + 1 ≤ n0) (hL : LibW rb w) (h : RdW rb s true X0 w) :
    Calls Tryz.prog 60 #[.pointer (some ⟨rb, 0, none⟩)] w (RdTms rb s (gX F n0 [] X0) w) := by
  obtain ⟨Y, hY⟩ : ∃ Y, gX F n0 [] X0 = Y := ⟨_, rfl⟩
  rw [hY]
  have hlt := h.lt
  obtain ⟨i0, hi, hz0, hz1, hz2⟩ := info_parts info_term3
  have HI := Lib.hid hi
  have HZ := Lib.hid hz0
  have HZ1 := Lib.hid hz1
  have HZ2 := Lib.hid hz2
  have HL := Lib.hid hL
  have H0 := Lib.hid (show ∃ X, RdW rb s true X w ∧ (X = none → Y = none) ∧ (∀ r, X = some r → ∃ n, r.length + 1 ≤ n ∧ (([] : List Tm).length + r.length ≤ s.size) ∧ goalsG (termF true F 3 1) n [] r = Y) from ⟨X0, h, fun e => by rw [← hY, e]; rfl, fun r e => by
    subst e
    have := h.len
    exact ⟨n0, by omega, by simpa using this, hY⟩⟩)
  clear h hL hY hi hz0 hz1 hz2
  go_enter Tryz.func60, Tryz.ntmps60
  go_wp2_with fail
  go_loopg [3, 4] (s.size + 5) (fun g ov mv wr => ∃ (acc : List Tm) (av : Option Addr) (cv : Nat) (b : Bool) (k : Nat), ov = .slice av acc.length cv ∧ mv = .bool b ∧ g = k ∧ acc.length ≤ s.size + 1 ∧
    Hid (OwnS (fun k => w.heap.size ≤ k ∧ k < wr.heap.size) acc (.slice av acc.length cv) wr) ∧ Hid (Fr (fun k => k = rb) w wr) ∧
    Hid (b = true → ∃ X, RdW rb s true X wr ∧ (X = none → Y = none ∧ 1 ≤ k ∧ acc.length ≤ s.size) ∧ (∀ r, X = some r → ∃ n, r.length + 1 ≤ n ∧ acc.length + r.length ≤ s.size ∧ r.length + 2 ≤ k ∧ goalsG (termF true F 3 1) n acc r = Y)) ∧
    Hid (b = false → RdW rb s true (Y.map Prod.snd) wr ∧ ∀ us r, Y = some (us, r) → acc = us))
  case atStart =>
    obtain ⟨X, h1, h2, h3⟩ := H0.out
    refine ⟨[], none, 0, true, s.size + 5, rfl, rfl, rfl, by simp, Lib.hid (OwnS.nil _ _), Lib.hid (Fr.refl _ _), Lib.hid fun _ => ⟨X, h1, fun e => ⟨h2 e, by omega, by simp⟩, fun r e => ?_⟩, Lib.hid fun h => by cases h⟩
    obtain ⟨n, q1, q2, q3⟩ := h3 r e
    exact ⟨n, q1, q2, by simp only [List.length_nil] at q2; omega, q3⟩
  case round =>
    obtain ⟨acc, av, cv, b, k, rfl, rfl, hgk, hal, HO, HF, HT, HN⟩ := hrel
    have sF := HF.out.size
    cases b with
    | false =>
      obtain ⟨e1, e2⟩ := HN.out rfl
      have E1 := Lib.hid e1
      have E2 := Lib.hid e2
      clear e1 e2
      go_wp2_with fail
      go_ret
      exact ⟨acc, av, cv, rfl, HO.out, by omega, HF.out, E1.out, E2.out⟩
    | true =>
      obtain ⟨X, hX, hX1, hX2⟩ := HT.out rfl
      have hlr := hX.lt
      have hacc : acc.length < 1048576 := by omega
      have TC := Lib.hid (show Calls Tryz.prog 57 #[.pointer (some ⟨rb, 0, none⟩), .int .i64 3, .int .i64 1] wr (RdTm rb s true (X.bind (termF true F 3 1)) wr) from by
        cases X with
        | none => exact rdtermBad hs hX
        | some r => exact (rdops F).2.1 rb s 3 1 r wr hs (by decide) (by decide) (by decide) (HL.out.fr HF.out) hX (by have := hX.len; omega))
      have HX1 := Lib.hid hX1
      have HX2 := Lib.hid hX2
      clear hX hX1 hX2 HT HN
      go_wp2_with fail
      refine TC.out.mono ?_
      rintro e w1 ⟨t, ta, tc, rfl, ho, f1, hr1, hXt⟩
      have HOT := Lib.hid ho
      have HR1 := Lib.hid hr1
      have HXT := Lib.hid hXt
      have hs1 := f1.size
      have A1 := Lib.hid (HO.out.mono (fun b hb => hb) f1 (fun b hb e => by have := hb.1; omega))
      have F1 := Lib.hid (HF.out.trans f1)
      clear ho hr1 hXt f1
      go_wp2_with (at_builtin; refine wpList_append_ow (w0 := wr) (w1 := w1) rfl (.tmp 6) (.tmp 9) 23 rfl w.heap.size i0 Tryz.underlying23 HI.out HZ.out HZ1.out HZ2.out (.slice av acc.length cv) acc t ta tc rfl A1.out rfl HOT.out hs1 sF hacc rfl ?_; intro av2 cv2 w2 hA2 hf2; have A2 := Lib.hid hA2; have F2 := Lib.hid hf2; clear hA2 hf2)
      obtain ⟨TX, hTX⟩ : ∃ z, z = X.bind (termF true F 3 1) := ⟨_, rfl⟩
      rw [← hTX] at HR1 HXT
      have HTX := Lib.hid hTX
      clear hTX
      have R2 := Lib.hid (HR1.out.fr F2.out (by omega))
      have W2 := Lib.hid (show Fr (fun k => k = rb) w w2 from ((F1.out.mono (M' := fun k => k = rb ∨ w.heap.size ≤ k) (fun k _ h => .inl h)).trans (F2.out.mono (fun k _ h => .inr h))).mono (fun k hk h => by rcases h with h | h; exact h; omega))
      have heq : (((nextB (TX.map Prod.snd)).toNat : Int) == 44) = decide (nextB (TX.map Prod.snd) = 44) := u8_beq _ 44
      have hl2 : (acc ++ [t]).length = acc.length + 1 := by simp
      have N := Lib.hid (implnext hs R2.out)
      by_cases h44 : nextB (TX.map Prod.snd) = 44
      · rw [decide_eq_true h44] at heq
        obtain ⟨q, hq⟩ := next_yes (by decide) h44
        have hR := R2.out
        rw [hq] at hR
        obtain ⟨n, n1, n2, nb⟩ := hR.good
        have NB := Lib.hid nb
        have NN := Lib.hid n2
        have hpt : TX = some (t, 44 :: q) := by
          cases e : TX with
          | none => rw [e] at hq; cases hq
          | some p =>
            obtain ⟨t', r'⟩ := p
            rw [e] at hq
            simp at hq
            rw [hq, HXT.out t' r' e]
        obtain ⟨r, hXr⟩ : ∃ r, X = some r := by
          cases e : X with
          | none => have h := HTX.out; rw [e, hpt] at h; cases h
          | some r => exact ⟨r, rfl⟩
        have hterm : termF true F 3 1 r = some (t, 44 :: q) := by have h := HTX.out; rw [hXr, hpt] at h; exact h.symm
        have hlen := term_len hterm
        simp only [List.length_cons] at hlen
        obtain ⟨m, k1, k2, k3, k4⟩ := HX2.out r hXr
        obtain ⟨m, rfl⟩ : ∃ z, m = z + 1 := ⟨m - 1, by omega⟩
        have HGM := Lib.hid (show goalsG (termF true F 3 1) m (acc ++ [t]) q = Y by rw [← k4]; exact (goals_more hterm).symm)
        clear hq hR n2 nb hpt h44 k4 hterm hXr
        go_wp2_with fail
        refine N.out.mono ?_
        rintro e w3 ⟨rfl, e3⟩
        have nb3 := NB.out.ext e3
        have NB3 := Lib.hid nb3
        have E3 := Lib.hid e3
        obtain ⟨c0, c1, c2, c3, f0, f1, f2, f3⟩ := nb3
        clear e3
        go_wp2_with fail
        go_roundg (q.length + 2)
        case measure => omega
        case rel =>
          have fs : Fr (fun k => k = rb) w3 _ := Fr.setCell (i := 1) (u := .int .i64 ((n : Int) + 1)) w3 rfl
          refine ⟨acc ++ [t], av2, cv2, true, q.length + 2, (by rw [hl2]), rfl, rfl, (by rw [hl2]; omega), Lib.hid ?_, Lib.hid ((W2.out.trans (Fr.of_ext E3.out)).trans fs), Lib.hid (fun _ => ⟨some q, RdW.step NB3.out NN.out rfl, (fun h => by cases h), (fun r' h => by cases h; exact ⟨m, by omega, (by rw [hl2]; omega), Nat.le_refl _, HGM.out⟩)⟩), Lib.hid (fun h => by cases h)⟩
          rw [hl2]
          exact (A2.out.ext E3.out).mono (fun b hb => ⟨hb.1, by have h2 := hb.2; have := Below.size E3.out; have h3 : b < w3.heap.size := (by omega); simpa [World.setCell] using h3⟩) fs (fun b hb e => by have := hb.1; omega)
      · rw [decide_eq_false h44] at heq
        have hfin : 1 ≤ k ∧ acc.length ≤ s.size ∧ Y.map Prod.snd = TX.map Prod.snd ∧ ∀ us r, Y = some (us, r) → acc ++ [t] = us := by
          cases e : X with
          | none =>
            obtain ⟨y1, y2, y3⟩ := HX1.out e
            have h := HTX.out
            rw [e] at h
            rw [y1, h]
            exact ⟨y2, y3, rfl, fun us r h => by cases h⟩
          | some r =>
            obtain ⟨m, k1, k2, k3, k4⟩ := HX2.out r e
            obtain ⟨m, rfl⟩ : ∃ z, m = z + 1 := ⟨m - 1, by omega⟩
            have h : TX = termF true F 3 1 r := by have h := HTX.out; rw [e] at h; exact h
            refine ⟨by omega, by omega, ?_⟩
            cases ht : termF true F 3 1 r with
            | none =>
              rw [h, ht, ← k4, goals_none ht]
              exact ⟨rfl, fun us r h => by cases h⟩
            | some p =>
              obtain ⟨t', r'⟩ := p
              have htt : t = t' := HXT.out t' r' (by rw [h, ht])
              subst htt
              have hc : hdB (isB 44) (some r') = false := by
                cases hc : hdB (isB 44) (some r') with
                | false => rfl
                | true =>
                  exact absurd (by
                    rw [h, ht]
                    cases r' with
                    | nil => cases hc
                    | cons c q => rw [show c = 44 by simpa [hdB, isB] using hc]; rfl) h44
              rw [h, ht, ← k4, goals_last ht hc]
              exact ⟨rfl, fun us r h => by cases h; rfl⟩
        obtain ⟨hg1, ha1, hy1, hy2⟩ := hfin
        have HY1 := Lib.hid hy1
        have HY2 := Lib.hid hy2
        clear h44 hy1 hy2
        go_wp2_with fail
        refine N.out.mono ?_
        rintro e w3 ⟨rfl, e3⟩
        have E3 := Lib.hid e3
        clear e3
        go_wp2_with fail
        go_roundg 0
        case measure => omega
        case rel =>
          refine ⟨acc ++ [t], av2, cv2, false, 0, (by rw [hl2]), rfl, rfl, (by rw [hl2]; omega), Lib.hid ?_, Lib.hid (W2.out.trans (Fr.of_ext E3.out)), Lib.hid (fun h => by cases h), Lib.hid (fun _ => ⟨(by rw [HY1.out]; exact R2.out.ext E3.out), HY2.out⟩)⟩
          rw [hl2]
          exact (A2.out.ext E3.out).mono (M := fun _ => False) (fun b hb => ⟨hb.1, by have h2 := hb.2; have := Below.size E3.out; omega⟩) (Fr.refl _ _) (fun _ _ h => h)
end Go.Proofs.YtognkaebiafgbaaGreatDoor
