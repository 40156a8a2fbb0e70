/-
  The reference's readers with operators: l2Prime.
-/
import Derived.Test.YtognkaebiafgbaaGreatMv31
namespace Go.Proofs.YtognkaebiafgbaaGreat
open Go.RowKit
set_option linter.unusedVariables false
noncomputable def nmR (F e : Nat) : Option (List UInt8 × List UInt8) → Option (Tm × List UInt8)
  | none => none
  | some (s, r') => afterS F e (bs s) r'
def tmR (s : ByteArray) : Option (List Tm × List UInt8) → Option (Tm × List UInt8)
  | some (ks, _ :: r'') => some (sT s ks, r'')
  | _ => none
def brR : Option (Tm × List UInt8) → Option (Tm × List UInt8)
  | some (t, c :: r) => if c = 41 then some (t, r) else none
  | _ => none
theorem after_br {F e : Nat} {s : ByteArray} {q : List UInt8} : afterS F e s (40 :: q) = tmR s (termsF F e 41 41 [] q) := by
  simp only [afterS, if_true]
  cases termsF F e 41 41 [] q with
  | none => rfl
  | some p => obtain ⟨ks, y⟩ := p; cases y <;> rfl
theorem after_no {F e : Nat} {s : ByteArray} {r : List UInt8} (h : hdB (isB 40) (some r) = false) : afterS F e s r = some (sT s [], r) := by
  cases r with
  | nil => rfl
  | cons c q =>
    have hc : ¬ c = 40 := by simpa [hdB, isB] using h
    simp only [afterS, if_neg hc]
theorem rd0_br {F e : Nat} {r : List UInt8} : rdF (F + 1) (e + 1) 0 (40 :: r) = brR (rdF F (e + 1) 3 r) := by
  rw [rdF, if_neg (by omega)]
  simp only [if_true]
  cases rdF F (e + 1) 3 r with
  | none => rfl
  | some p => obtain ⟨t, q⟩ := p; cases q <;> rfl
theorem rd0_list {F e : Nat} {b : UInt8} {r : List UInt8} (h40 : ¬ b = 40) (h : b = 91 ∧ r.head? ≠ some 93) : rdF (F + 1) (e + 1) 0 (b :: r) = itemsR F e r := by
  rw [rdF, if_neg (by omega), if_neg h40, if_pos h, Nat.add_sub_cancel]
  unfold itemsR
  cases termsF F e 93 124 [] r with
  | none => rfl
  | some p =>
    obtain ⟨ks, q⟩ := p
    cases q with
    | nil => rfl
    | cons c q =>
      simp only
      split
      · rfl
      · cases rdF F e 3 q with
        | none => rfl
        | some p => obtain ⟨t, y⟩ := p; cases y <;> rfl
theorem rd0_up {F e : Nat} {b : UInt8} {r : List UInt8} (h40 : ¬ b = 40) (h : ¬ (b = 91 ∧ r.head? ≠ some 93)) (hu : isUp b = true) : rdF (F + 1) (e + 1) 0 (b :: r) = some (vT b, r) := by
  rw [rdF, if_neg (by omega), if_neg h40, if_neg h, if_pos hu]
theorem rd0_num {F e : Nat} {b : UInt8} {r : List UInt8} (h40 : ¬ b = 40) (h : ¬ (b = 91 ∧ r.head? ≠ some 93)) (hu : isUp b = false) (hn : numStart (b :: r) = true) : rdF (F + 1) (e + 1) 0 (b :: r) = numP (b :: r) := by
  rw [rdF, if_neg (by omega), if_neg h40, if_neg h, if_neg (by rw [hu]; decide), if_pos hn]
theorem rd0_name {F e : Nat} {b : UInt8} {r : List UInt8} (h40 : ¬ b = 40) (h : ¬ (b = 91 ∧ r.head? ≠ some 93)) (hu : isUp b = false) (hn : numStart (b :: r) = false) : rdF (F + 1) (e + 1) 0 (b :: r) = nmR F e (nameP (b :: r)) := by
  rw [rdF, if_neg (by omega), if_neg h40, if_neg h, if_neg (by rw [hu]; decide), if_neg (by rw [hn]; decide), Nat.add_sub_cancel]
  cases nameP (b :: r) with
  | none => rfl
  | some p =>
    obtain ⟨s, q⟩ := p
    cases q with
    | nil => rfl
    | cons c q =>
      show _ = afterS F e (bs s) (c :: q)
      by_cases hc : c = 40
      · subst hc
        rw [after_br]
        simp only [if_true]
        cases termsF F e 41 41 [] q with
        | none => rfl
        | some p => obtain ⟨ks, y⟩ := p; cases y <;> rfl
      · simp only [afterS, if_neg hc]
set_option maxRecDepth 100000 in
set_option maxHeartbeats 8000000 in
theorem specl2Prime (F : Nat) (hT : TrC F) (hR : RdC F) (s : ByteArray) (rest : List UInt8) (i : Int) (d : Nat) (w : World) (hs : s.size ≤ 1000) (hd : d ≤ 100) (hat : AtR s (some rest) i) (hF : 6 * rest.length ≤ F) :
    Calls Tryz.prog 83 #[.string s, .int .i64 i, .int .i64 d] w (SpTm s (rdF (F + 1) d 0 rest) w) := by
  have HT := Lib.hid hT
  have HR := Lib.hid hR
  have HAT := Lib.hid hat
  have hs' : s.size ≤ 1048576 := by omega
  obtain ⟨n, rfl, h1, h2⟩ := hat.good
  have HII := Lib.hid (show 0 ≤ (n : Int) ∧ (n : Int) ≤ 1000 from ⟨by omega, by omega⟩)
  have ZB := Lib.hid (BoxT.new w (.int .i64 0) (.int .i64 0) (.string ⟨#[]⟩) (.slice none 0 0) 26 rfl)
  have EB := Lib.hid (Ext.alloc w (.cells #[.int .i64 0, .int .i64 0, .string ⟨#[]⟩, .slice none 0 0] 26))
  clear hT hR hat
  cases d with
  | zero =>
    have HXN := Lib.hid (show rdF (F + 1) 0 0 rest = none by
      cases rest with
      | nil => rw [rdF]; rfl
      | cons b r => rw [rdF]; rfl)
    have hd1 : ((0 : Nat) : Int) < 1 := by omega
    go_enter Tryz.func83, Tryz.ntmps83
    have FLS := Lib.hid (specl2Fails ((n : Int)) (w.alloc (.cells #[.int .i64 0, .int .i64 0, .string ⟨#[]⟩, .slice none 0 0] 26)) (by have := HII.out; omega) (by have := HII.out; omega) s)
    go_wp2_with fail
    refine FLS.out.mono ?_
    rintro e wf ⟨rfl, ef⟩
    have Ef := Lib.hid (EB.out.trans ef)
    have Zf := Lib.hid (ZB.out.ext ef)
    have bz := Zf.out
    obtain ⟨z0, z1, z2, z3, y0, y1, y2, y3⟩ := bz
    have lz9 := Zf.out.lt
    clear ef
    have HNG := Lib.hid (show -1 - ((n : Int)) < 0 ∧ -1048576 ≤ -1 - ((n : Int)) by have := HII.out; omega)
    go_wp2_with fail
    refine ret4b_set (p := 6) (q := 7) (T := 26) (b := w.heap.size) (v0 := .int .i64 0) (v1 := .int .i64 0) (v2 := .string ⟨#[]⟩) (v3 := .slice none 0 0) (y := .int .i64 (-1 - ((n : Int)))) (by kernel_rfl) (fun _ => by kernel_rfl) (fun _ => by kernel_rfl) rfl rfl rfl Zf.out ?_
    intro Z fZ
    rw [HXN.out]
    exact SpTm.failI rfl HNG.out.1 HNG.out.2 (((Fr.of_ext Ef.out).trans fZ).toExt (fun q hq h => by omega))
  | succ d =>
  have hd1 : ¬ ((d + 1 : Nat) : Int) < 1 := by omega
  cases rest with
  | nil =>
    have hn : n = s.size := by
      have := List.drop_eq_nil_iff.1 h2
      rw [bl_len] at this
      omega
    have hge : (s.size : Int) ≤ (n : Int) := by omega
    have HXN := Lib.hid (show rdF (F + 1) (d + 1) 0 [] = none by rw [rdF]; rfl)
    clear hn
    go_enter Tryz.func83, Tryz.ntmps83
    have FLS := Lib.hid (specl2Fails ((n : Int)) (w.alloc (.cells #[.int .i64 0, .int .i64 0, .string ⟨#[]⟩, .slice none 0 0] 26)) (by have := HII.out; omega) (by have := HII.out; omega) s)
    go_wp2_with fail
    refine FLS.out.mono ?_
    rintro e wf ⟨rfl, ef⟩
    have Ef := Lib.hid (EB.out.trans ef)
    have Zf := Lib.hid (ZB.out.ext ef)
    have bz := Zf.out
    obtain ⟨z0, z1, z2, z3, y0, y1, y2, y3⟩ := bz
    have lz9 := Zf.out.lt
    clear ef
    have HNG := Lib.hid (show -1 - ((n : Int)) < 0 ∧ -1048576 ≤ -1 - ((n : Int)) by have := HII.out; omega)
    go_wp2_with fail
    refine ret4b_set (p := 6) (q := 7) (T := 26) (b := w.heap.size) (v0 := .int .i64 0) (v1 := .int .i64 0) (v2 := .string ⟨#[]⟩) (v3 := .slice none 0 0) (y := .int .i64 (-1 - ((n : Int)))) (by kernel_rfl) (fun _ => by kernel_rfl) (fun _ => by kernel_rfl) rfl rfl rfl Zf.out ?_
    intro Z fZ
    rw [HXN.out]
    exact SpTm.failI rfl HNG.out.1 HNG.out.2 (((Fr.of_ext Ef.out).trans fZ).toExt (fun q hq h => by omega))
  | cons b r =>
    obtain ⟨hl, hb⟩ := drop_head h2
    have hlen := HAT.out.len
    simp only [List.length_cons] at hlen hF
    have HAN := Lib.hid (show AtR s (some r) ((n : Int) + 1) from HAT.out.next)
    have DG := Lib.hid (fun w' => digitX HAT.out w' hs')
    have DG2 := Lib.hid (fun w' => digitX HAN.out w' hs')
    have SG93 := Lib.hid (fun w' => signX HAN.out 93 93 rfl w' hs')
    have hge : ¬ (s.size : Int) ≤ (n : Int) := by omega
    have q45 : ((b.toNat : Int) == 45) = decide (b = 45) := u8_eqd b 45
    have q91 : ((b.toNat : Int) == 91) = decide (b = 91) := u8_eqd b 91
    have q40 : ((b.toNat : Int) == 40) = decide (b = 40) := u8_eqd b 40
    have hun : (s[n].toNat : Int) = b.toNat := by rw [hb]
    clear h2
    by_cases h40 : b = 40
    · rw [decide_eq_true h40] at q40
      have p40 : (b.toNat : Int) = 40 := by simpa using q40
      have HXB := Lib.hid (show rdF (F + 1) (d + 1) 0 (b :: r) = brR (rdF F (d + 1) 3 r) by rw [h40]; exact rd0_br)
      have RC := Lib.hid (fun w' => HR.out s r ((n : Int) + 1) (d + 1) 3 w' hs hd (by omega) HAN.out (by omega))
      clear h40
      go_enter Tryz.func83, Tryz.ntmps83
      go_wp2_with fail
      refine (RC.out _).mono ?_
      rintro e w3 ⟨t, ta, tc, i2, rfl, hat2, e3, ha2, hX2⟩
      have sk := Below.size EB.out
      have E3 := Lib.hid (EB.out.trans (e3.trans (Ext.alloc w3 (.cells #[.int .i64 t.kind, .int .i64 t.n, .string t.name, .slice ta t.kids.length tc] 26))))
      have Z3 := Lib.hid ((ZB.out.ext e3).ext (Ext.alloc w3 (.cells #[.int .i64 t.kind, .int .i64 t.n, .string t.name, .slice ta t.kids.length tc] 26)))
      have T3 := Lib.hid (Tm.at_ext (Ext.alloc w3 (.cells #[.int .i64 t.kind, .int .i64 t.n, .string t.name, .slice ta t.kids.length tc] 26)) (Tm.at_mono (S' := fun b => w.heap.size + 1 ≤ b) (fun b hb => by have hb' : _ ≤ b := hb; simp at hb'; omega) (Agree.refl _) hat2))
      have B3 := Lib.hid (BoxT.new w3 (.int .i64 t.kind) (.int .i64 t.n) (.string t.name) (.slice ta t.kids.length tc) 26 rfl)
      have HAt2 := Lib.hid ha2
      have HX2 := Lib.hid hX2
      have l2 := ha2.le hs'
      clear hat2 e3 ha2 hX2
      go_upto_region 5 with (fail)
      obtain ⟨w4, hw4⟩ : ∃ z, z = w3.alloc (.cells #[.int .i64 t.kind, .int .i64 t.n, .string t.name, .slice ta t.kids.length tc] 26) := ⟨_, rfl⟩
      rw [← hw4] at E3 Z3 T3 B3 ⊢
      clear hw4
      cases hr : rdF F (d + 1) 3 r with
      | none =>
        rw [hr] at HAt2 HXB
        have HNG := Lib.hid HAt2.out.bad
        have hneg := HNG.out.1
        have HXN := Lib.hid (show rdF (F + 1) (d + 1) 0 (b :: r) = none from HXB.out)
        have bz := Z3.out
        obtain ⟨z0, z1, z2, z3, y0, y1, y2, y3⟩ := bz
        have lz9 := Z3.out.lt
        clear hr
        go_wp2_with fail
        refine ret4b_set (p := 6) (q := 7) (T := 26) (b := w.heap.size) (v0 := .int .i64 0) (v1 := .int .i64 0) (v2 := .string ⟨#[]⟩) (v3 := .slice none 0 0) (y := .int .i64 (i2)) (by kernel_rfl) (fun _ => by kernel_rfl) (fun _ => by kernel_rfl) rfl rfl rfl Z3.out ?_
        intro Z fZ
        rw [HXN.out]
        exact SpTm.failI rfl HNG.out.1 HNG.out.2 (((Fr.of_ext E3.out).trans fZ).toExt (fun q hq h => by omega))
      | some p =>
        obtain ⟨t', q2⟩ := p
        have htl := HX2.out t' q2 hr
        subst htl
        rw [hr] at HAt2 HXB
        have hpos2 : ¬ i2 < 0 := by obtain ⟨n2, rfl, _⟩ := HAt2.out.good; omega
        have HII2 := Lib.hid (show 0 ≤ i2 ∧ i2 ≤ 1000 from ⟨by omega, by have := HAt2.out.len; omega⟩)
        have SG2 := fun w' => signX HAt2.out 41 41 rfl w' hs'
        clear hr
        cases hd2 : hdB (isB 41) ((some (t, q2)).map Prod.snd)
        · have SG2 := Lib.hid (fun w' => hd2 ▸ SG2 w')
          have HXN := Lib.hid (show rdF (F + 1) (d + 1) 0 (b :: r) = none by
            rw [HXB.out]
            cases q2 with
            | nil => rfl
            | cons c q => simp only [brR, if_neg (show ¬ c = 41 by simpa [hdB, isB] using hd2)])
          clear hd2
          go_wp2_with fail
          refine (SG2.out w4).mono ?_
          rintro e w5 ⟨rfl, e5⟩
          have E5 := Lib.hid (E3.out.trans e5)
          have Z5 := Lib.hid (Z3.out.ext e5)
          clear e5
          have FLS := Lib.hid (specl2Fails (i2) w5 (by have := HII2.out; omega) (by have := HII2.out; omega) s)
          go_wp2_with fail
          refine FLS.out.mono ?_
          rintro e wf ⟨rfl, ef⟩
          have Ef := Lib.hid (E5.out.trans ef)
          have Zf := Lib.hid (Z5.out.ext ef)
          have bz := Zf.out
          obtain ⟨z0, z1, z2, z3, y0, y1, y2, y3⟩ := bz
          have lz9 := Zf.out.lt
          clear ef
          have HNG := Lib.hid (show -1 - (i2) < 0 ∧ -1048576 ≤ -1 - (i2) by have := HII2.out; omega)
          go_wp2_with fail
          refine ret4b_set (p := 6) (q := 7) (T := 26) (b := w.heap.size) (v0 := .int .i64 0) (v1 := .int .i64 0) (v2 := .string ⟨#[]⟩) (v3 := .slice none 0 0) (y := .int .i64 (-1 - (i2))) (by kernel_rfl) (fun _ => by kernel_rfl) (fun _ => by kernel_rfl) rfl rfl rfl Zf.out ?_
          intro Z fZ
          rw [HXN.out]
          exact SpTm.failI rfl HNG.out.1 HNG.out.2 (((Fr.of_ext Ef.out).trans fZ).toExt (fun q hq h => by omega))
        · have SG2 := Lib.hid (fun w' => hd2 ▸ SG2 w')
          obtain ⟨r'', hq2⟩ : ∃ r'', q2 = 41 :: r'' := by
            cases q2 with
            | nil => cases hd2
            | cons c q => exact ⟨q, by rw [show c = 41 by simpa [hdB, isB] using hd2]⟩
          have HXn := Lib.hid (show rdF (F + 1) (d + 1) 0 (b :: r) = some (t, r'') by rw [HXB.out, hq2]; simp [brR])
          have HAn2 := Lib.hid (show AtR s (some r'') (i2 + 1) from AtR.next (b := 41) (by have := HAt2.out; rw [hq2] at this; exact this))
          clear hd2 hq2
          go_wp2_with fail
          refine (SG2.out w4).mono ?_
          rintro e w5 ⟨rfl, e5⟩
          have E5 := Lib.hid (E3.out.trans e5)
          have Z5 := Lib.hid (Z3.out.ext e5)
          have T5 := Lib.hid (Tm.at_ext e5 T3.out)
          have B5 := B3.out.ext e5
          obtain ⟨m0, m1, m2, m3, _⟩ := B5
          have bz := Z5.out
          obtain ⟨z0, z1, z2, z3, y0, y1, y2, y3⟩ := bz
          have lz9 := Z5.out.lt
          clear e5
          go_wp2_with fail
          refine ret4b_set (p := 6) (q := 7) (T := 26) (b := w.heap.size) (y := .int .i64 (i2 + 1)) (by kernel_rfl) (fun _ => by kernel_rfl) (fun _ => by kernel_rfl) rfl rfl rfl Z5.out ?_
          intro Z fZ
          rw [HXn.out]
          exact ⟨t, ta, tc, i2 + 1, rfl, Tm.at_mono (fun b hb => by have hb' : w.heap.size + 1 ≤ b := hb; show w.heap.size ≤ b; omega) (Agree.refl _) (fZ.at T5.out (fun b hb e => by have hb' : w.heap.size + 1 ≤ b := hb; omega)), ((Fr.of_ext E5.out).trans fZ).toExt (fun q hq h => by omega), HAn2.out, fun u r h => by cases h; rfl⟩
    · rw [decide_eq_false h40] at q40
      have p40 : ¬ (b.toNat : Int) = 40 := by simpa using q40
      by_cases h91 : b = 91
      · rw [decide_eq_true h91] at q91
        have p91 : (b.toNat : Int) = 91 := by simpa using q91
        have u3 : ¬ (b.toNat : Int) < 65 := by omega
        have u4 : (90 : Int) < b.toNat := by omega
        have hu : isUp b = false := by rw [h91]; decide
        cases h93 : hdB (isB 93) (some r)
        · have hli : b = 91 ∧ r.head? ≠ some 93 := ⟨h91, fun e => by
            cases r with
            | nil => cases e
            | cons c q =>
              have hc : c = 93 := by simpa using e
              rw [hc] at h93
              exact absurd h93 (by simp [hdB, isB])⟩
          have HXX := Lib.hid (rd0_list (F := F) (e := d) h40 hli)
          have LI := Lib.hid (fun w' => specl2Items F HT.out HR.out s r ((n : Int) + 1) d w' hs (by omega) HAN.out (by omega))
          clear hli h91 h40 hu
          go_enter Tryz.func83, Tryz.ntmps83
          go_wp2_with fail
          refine (SG93.out _).mono ?_
          rw [h93]
          rintro e w1 ⟨rfl, e1⟩
          have E1 := Lib.hid (EB.out.trans e1)
          have Z1 := Lib.hid (ZB.out.ext e1)
          clear e1
          clear h93
          go_wp2_with fail
          refine (LI.out w1).mono ?_
          rintro e w5 ⟨t, ta, tc, i5, rfl, hat5, e5, ha5, hX5⟩
          have T5 := Lib.hid hat5
          have A5 := Lib.hid ha5
          have X5 := Lib.hid hX5
          have E5 := Lib.hid (E1.out.trans e5)
          have Z5 := Lib.hid (Z1.out.ext e5)
          have s1 := Below.size E1.out
          have lz1 := Z1.out.lt
          have bz := Z5.out
          obtain ⟨z0, z1, z2, z3, y0, y1, y2, y3⟩ := bz
          have lz9 := Z5.out.lt
          clear hat5 ha5 hX5 e5
          go_wp2_with fail
          refine ret4b_set (p := 6) (q := 7) (T := 26) (b := w.heap.size) (y := .int .i64 (i5)) (by kernel_rfl) (fun _ => by kernel_rfl) (fun _ => by kernel_rfl) rfl rfl rfl Z5.out ?_
          intro Z fZ
          rw [HXX.out]
          exact ⟨t, ta, tc, i5, rfl, Tm.at_mono (fun b hb => by have hb' : w1.heap.size ≤ b := hb; show w.heap.size ≤ b; omega) (Agree.refl _) (fZ.at T5.out (fun b hb e => by have hb' : w1.heap.size ≤ b := hb; omega)), ((Fr.of_ext E5.out).trans fZ).toExt (fun q hq h => by omega), A5.out, X5.out⟩
        · have hli : ¬ (b = 91 ∧ r.head? ≠ some 93) := by
            rintro ⟨_, h⟩
            cases r with
            | nil => cases h93
            | cons c q =>
              have hc : c = 93 := by simpa [hdB, isB] using h93
              exact h (by rw [hc]; rfl)
          have hst : numStart (b :: r) = false := by rw [h91]; rfl
          have hdg : hdB digitB (some (b :: r)) = false := by rw [h91]; rfl
          have p45 : ¬ (b.toNat : Int) = 45 := by omega
          have p45' : ((b.toNat : Int) == 45) = false := by simpa using p45
          have HXX := Lib.hid (rd0_name (F := F) (e := d) h40 hli hu hst)
          clear hli h91 h40 hu hst q45
          go_enter Tryz.func83, Tryz.ntmps83
          go_wp2_with fail
          refine (SG93.out _).mono ?_
          rw [h93]
          rintro e w1 ⟨rfl, e1⟩
          have E1 := Lib.hid (EB.out.trans e1)
          have Z1 := Lib.hid (ZB.out.ext e1)
          clear e1
          clear h93
          go_wp2_with fail
          refine (DG.out _).mono ?_
          rw [hdg]
          rintro e w2 ⟨rfl, e2⟩
          have E2 := Lib.hid (E1.out.trans e2)
          have Z2 := Lib.hid (Z1.out.ext e2)
          clear e2
          have NM := Lib.hid (specl1Name hs' HAT.out w2)
          go_wp2_with fail
          refine NM.out.mono ?_
          rintro e w5 ⟨i5, rfl, e5, hat5⟩
          have E5 := Lib.hid (E2.out.trans e5)
          have Z5 := Lib.hid (Z2.out.ext e5)
          have HA5 := Lib.hid hat5
          have l5 := hat5.le hs'
          clear e5 hat5
          cases hnm : nameP (b :: r) with
          | none =>
            rw [hnm] at HA5 HXX
            have hneg : i5 < 0 := HA5.out.bad.1
            have HXN := Lib.hid (show rdF (F + 1) (d + 1) 0 (b :: r) = none from HXX.out)
            clear hnm
            have FLS := Lib.hid (specl2Fails ((n : Int)) w5 (by have := HII.out; omega) (by have := HII.out; omega) s)
            go_wp2_with fail
            refine FLS.out.mono ?_
            rintro e wf ⟨rfl, ef⟩
            have Ef := Lib.hid (E5.out.trans ef)
            have Zf := Lib.hid (Z5.out.ext ef)
            have bz := Zf.out
            obtain ⟨z0, z1, z2, z3, y0, y1, y2, y3⟩ := bz
            have lz9 := Zf.out.lt
            clear ef
            have HNG := Lib.hid (show -1 - ((n : Int)) < 0 ∧ -1048576 ≤ -1 - ((n : Int)) by have := HII.out; omega)
            go_wp2_with fail
            refine ret4b_set (p := 6) (q := 7) (T := 26) (b := w.heap.size) (v0 := .int .i64 0) (v1 := .int .i64 0) (v2 := .string ⟨#[]⟩) (v3 := .slice none 0 0) (y := .int .i64 (-1 - ((n : Int)))) (by kernel_rfl) (fun _ => by kernel_rfl) (fun _ => by kernel_rfl) rfl rfl rfl Zf.out ?_
            intro Z fZ
            rw [HXN.out]
            exact SpTm.failI rfl HNG.out.1 HNG.out.2 (((Fr.of_ext Ef.out).trans fZ).toExt (fun q hq h => by omega))
          | some p =>
            obtain ⟨nm, r'⟩ := p
            have hnl := nameP_len hnm
            simp only [List.length_cons] at hnl
            rw [hnm] at HA5 HXX
            have hpos : ¬ i5 < 0 := by obtain ⟨n5, rfl, _⟩ := HA5.out.good; omega
            have hi5 : i5 ≤ 1000 := by
              have := HA5.out.len
              omega
            have hns : (bs nm).size ≤ 1048576 := by
              rw [bs_size]
              omega
            have SG := fun w' => signX HA5.out 40 40 rfl w' hs'
            cases hp : hdB (isB 40) ((some (nm, r')).map Prod.snd)
            · have SG := Lib.hid (fun w' => hp ▸ SG w')
              have HXN := Lib.hid (show rdF (F + 1) (d + 1) 0 (b :: r) = some (sT (bs nm) [], r') from HXX.out.trans (after_no hp))
              clear hp hnm
              go_wp2_with fail
              refine (SG.out w5).mono ?_
              rintro e w6 ⟨rfl, e6⟩
              have E6 := Lib.hid (E5.out.trans e6)
              have Z6 := Lib.hid (Z5.out.ext e6)
              clear e6
              go_wp2_with fail
              refine (specl1Struct0 (bs nm) w6 hns).mono ?_
              rintro e w7 ⟨v7, rfl, hv7, e7⟩
              obtain ⟨a7, c7, hf7⟩ := at_form (hv7 (fun _ => True))
              simp only [Tm.kind, Tm.n, Tm.name, Tm.kids, List.length_nil] at hf7
              have V7 := Lib.hid (hv7 (fun b => w.heap.size ≤ b))
              subst hf7
              have E7 := Lib.hid (E6.out.trans e7)
              have Z7 := Lib.hid (Z6.out.ext e7)
              have bz := Z7.out
              obtain ⟨z0, z1, z2, z3, y0, y1, y2, y3⟩ := bz
              have lz9 := Z7.out.lt
              clear hv7 e7
              go_wp2_with fail
              refine ret4b_set (p := 6) (q := 7) (T := 26) (b := w.heap.size) (y := .int .i64 (i5)) (by kernel_rfl) (fun _ => by kernel_rfl) (fun _ => by kernel_rfl) rfl rfl rfl Z7.out ?_
              intro Z fZ
              rw [HXN.out]
              exact ⟨.mk 3 0 (bs nm) [], a7, c7, i5, rfl, own_fr0 fZ V7.out, ((Fr.of_ext E7.out).trans fZ).toExt (fun q hq h => by omega), HA5.out, fun u r h => by cases h; rfl⟩
            · have SGT := Lib.hid (fun w' => hp ▸ SG w')
              obtain ⟨q, rfl⟩ : ∃ q, r' = 40 :: q := by
                cases r' with
                | nil => cases hp
                | cons c q => exact ⟨q, by rw [show c = 40 by simpa [hdB, isB] using hp]⟩
              have HXM := Lib.hid (show rdF (F + 1) (d + 1) 0 (b :: r) = tmR (bs nm) (termsF F d 41 41 [] q) from HXX.out.trans after_br)
              have hAq : AtR s (some q) (i5 + 1) := AtR.next (b := 40) HA5.out
              have hql : q.length < r.length := by
                have := hnl.1
                simp only [List.length_cons] at this
                omega
              have AG := Lib.hid (fun w' => (show Calls Tryz.prog 95 #[.string s, .int .i64 (i5 + 1), .int .i64 d, .int .u8 41, .int .u8 41] w' (SpTms s (termsF F d 41 41 [] q) w') from HT.out s q (i5 + 1) d 41 41 w' hs (by omega) hAq (by omega)))
              clear hp hnm hAq hnl
              go_wp2_with fail
              refine (SGT.out w5).mono ?_
              rintro e w6 ⟨rfl, e6⟩
              have E6 := Lib.hid (E5.out.trans e6)
              have Z6 := Lib.hid (Z5.out.ext e6)
              clear e6
              go_wp2_with fail
              refine (AG.out w6).mono ?_
              rintro e w7 ⟨ts, a7, c7, i7, rfl, hsl7, e7, hat7, hX7⟩
              have S7 := Lib.hid hsl7
              have HA7 := Lib.hid hat7
              have HX7 := Lib.hid hX7
              have E7 := Lib.hid (E6.out.trans e7)
              have Z7 := Lib.hid (Z6.out.ext e7)
              have s6 := Below.size E6.out
              have lz6 := Z6.out.lt
              have l7 := hat7.le hs'
              have bz := Z7.out
              obtain ⟨z0, z1, z2, z3, y0, y1, y2, y3⟩ := bz
              have lz9 := Z7.out.lt
              clear hsl7 hat7 hX7 e7
              cases ht : termsF F d 41 41 [] q with
              | none =>
                rw [ht] at HA7 HXM
                have HNG := Lib.hid HA7.out.bad
                have hneg7 := HNG.out.1
                have HXN := Lib.hid (show rdF (F + 1) (d + 1) 0 (b :: r) = none from HXM.out)
                clear ht
                go_wp2_with fail
                refine ret4b_set (p := 6) (q := 7) (T := 26) (b := w.heap.size) (v0 := .int .i64 0) (v1 := .int .i64 0) (v2 := .string ⟨#[]⟩) (v3 := .slice none 0 0) (y := .int .i64 (i7)) (by kernel_rfl) (fun _ => by kernel_rfl) (fun _ => by kernel_rfl) rfl rfl rfl Z7.out ?_
                intro Z fZ
                rw [HXN.out]
                exact SpTm.failI rfl HNG.out.1 HNG.out.2 (((Fr.of_ext E7.out).trans fZ).toExt (fun q hq h => by omega))
              | some p =>
                obtain ⟨ks, q2⟩ := p
                have hks := HX7.out ks q2 ht
                subst hks
                obtain ⟨c, r'', rfl, hc⟩ := terms_end _ _ _ _ _ _ _ _ ht
                rw [ht] at HA7 HXM
                have hpos7 : ¬ i7 < 0 := by obtain ⟨n7, rfl, _⟩ := HA7.out.good; omega
                have HXN := Lib.hid (show rdF (F + 1) (d + 1) 0 (b :: r) = some (sT (bs nm) ts, r'') from HXM.out)
                have HA8 := Lib.hid (show AtR s (some r'') (i7 + 1) from AtR.next (b := c) HA7.out)
                clear ht hc
                go_wp2_with fail
                refine ret4b_set (p := 6) (q := 7) (T := 26) (b := w.heap.size) (y := .int .i64 (i7 + 1)) (by kernel_rfl) (fun _ => by kernel_rfl) (fun _ => by kernel_rfl) rfl rfl rfl Z7.out ?_
                intro Z fZ
                have hsz := fZ.sl S7.out (fun b hb e => by have hb' : w6.heap.size ≤ b := hb; omega)
                rw [HXN.out]
                exact ⟨.mk 3 0 (bs nm) ts, a7, c7, i7 + 1, rfl, Tm.at_iff.2 ⟨hns, _, rfl, Tm.sl_mono (fun b hb => by have hb' : w6.heap.size ≤ b := hb; show w.heap.size ≤ b; omega) (Agree.refl _) hsz⟩, ((Fr.of_ext E7.out).trans fZ).toExt (fun q hq h => by omega), HA8.out, fun u r h => by cases h; rfl⟩
      · rw [decide_eq_false h91] at q91
        have p91 : ¬ (b.toNat : Int) = 91 := by simpa using q91
        have hli : ¬ (b = 91 ∧ r.head? ≠ some 93) := fun h => h91 h.1
        cases hu : isUp b
        · have hu2 : ¬ (65 ≤ b.toNat ∧ b.toNat ≤ 90) := by simpa [isUp] using hu
          by_cases k1 : 65 ≤ b.toNat
          · have u3 : ¬ (b.toNat : Int) < 65 := by omega
            have u4 : (90 : Int) < b.toNat := by omega
            have hdg : hdB digitB (some (b :: r)) = false := by show digitB b = false; simp only [digitB, decide_eq_false_iff_not]; omega
            have e45 : ¬ b = 45 := by
              rintro rfl
              exact absurd k1 (by decide)
            rw [decide_eq_false e45] at q45
            have p45 : ¬ (b.toNat : Int) = 45 := by simpa using q45
            have hst : numStart (b :: r) = false := by
              have h1 : digitB b = false := hdg
              simp only [numStart, h1, Bool.false_or]
              rw [show (b == 45) = false by simpa using e45]
              rfl
            have HXX := Lib.hid (rd0_name (F := F) (e := d) h40 hli hu hst)
            clear hli h91 h40 hu hu2 hst e45 k1
            go_enter Tryz.func83, Tryz.ntmps83
            go_wp2_with fail
            refine (DG.out _).mono ?_
            rw [hdg]
            rintro e w2 ⟨rfl, e2⟩
            have E2 := Lib.hid (EB.out.trans e2)
            have Z2 := Lib.hid (ZB.out.ext e2)
            clear e2
            have NM := Lib.hid (specl1Name hs' HAT.out w2)
            go_wp2_with fail
            refine NM.out.mono ?_
            rintro e w5 ⟨i5, rfl, e5, hat5⟩
            have E5 := Lib.hid (E2.out.trans e5)
            have Z5 := Lib.hid (Z2.out.ext e5)
            have HA5 := Lib.hid hat5
            have l5 := hat5.le hs'
            clear e5 hat5
            cases hnm : nameP (b :: r) with
            | none =>
              rw [hnm] at HA5 HXX
              have hneg : i5 < 0 := HA5.out.bad.1
              have HXN := Lib.hid (show rdF (F + 1) (d + 1) 0 (b :: r) = none from HXX.out)
              clear hnm
              have FLS := Lib.hid (specl2Fails ((n : Int)) w5 (by have := HII.out; omega) (by have := HII.out; omega) s)
              go_wp2_with fail
              refine FLS.out.mono ?_
              rintro e wf ⟨rfl, ef⟩
              have Ef := Lib.hid (E5.out.trans ef)
              have Zf := Lib.hid (Z5.out.ext ef)
              have bz := Zf.out
              obtain ⟨z0, z1, z2, z3, y0, y1, y2, y3⟩ := bz
              have lz9 := Zf.out.lt
              clear ef
              have HNG := Lib.hid (show -1 - ((n : Int)) < 0 ∧ -1048576 ≤ -1 - ((n : Int)) by have := HII.out; omega)
              go_wp2_with fail
              refine ret4b_set (p := 6) (q := 7) (T := 26) (b := w.heap.size) (v0 := .int .i64 0) (v1 := .int .i64 0) (v2 := .string ⟨#[]⟩) (v3 := .slice none 0 0) (y := .int .i64 (-1 - ((n : Int)))) (by kernel_rfl) (fun _ => by kernel_rfl) (fun _ => by kernel_rfl) rfl rfl rfl Zf.out ?_
              intro Z fZ
              rw [HXN.out]
              exact SpTm.failI rfl HNG.out.1 HNG.out.2 (((Fr.of_ext Ef.out).trans fZ).toExt (fun q hq h => by omega))
            | some p =>
              obtain ⟨nm, r'⟩ := p
              have hnl := nameP_len hnm
              simp only [List.length_cons] at hnl
              rw [hnm] at HA5 HXX
              have hpos : ¬ i5 < 0 := by obtain ⟨n5, rfl, _⟩ := HA5.out.good; omega
              have hi5 : i5 ≤ 1000 := by
                have := HA5.out.len
                omega
              have hns : (bs nm).size ≤ 1048576 := by
                rw [bs_size]
                omega
              have SG := fun w' => signX HA5.out 40 40 rfl w' hs'
              cases hp : hdB (isB 40) ((some (nm, r')).map Prod.snd)
              · have SG := Lib.hid (fun w' => hp ▸ SG w')
                have HXN := Lib.hid (show rdF (F + 1) (d + 1) 0 (b :: r) = some (sT (bs nm) [], r') from HXX.out.trans (after_no hp))
                clear hp hnm
                go_wp2_with fail
                refine (SG.out w5).mono ?_
                rintro e w6 ⟨rfl, e6⟩
                have E6 := Lib.hid (E5.out.trans e6)
                have Z6 := Lib.hid (Z5.out.ext e6)
                clear e6
                go_wp2_with fail
                refine (specl1Struct0 (bs nm) w6 hns).mono ?_
                rintro e w7 ⟨v7, rfl, hv7, e7⟩
                obtain ⟨a7, c7, hf7⟩ := at_form (hv7 (fun _ => True))
                simp only [Tm.kind, Tm.n, Tm.name, Tm.kids, List.length_nil] at hf7
                have V7 := Lib.hid (hv7 (fun b => w.heap.size ≤ b))
                subst hf7
                have E7 := Lib.hid (E6.out.trans e7)
                have Z7 := Lib.hid (Z6.out.ext e7)
                have bz := Z7.out
                obtain ⟨z0, z1, z2, z3, y0, y1, y2, y3⟩ := bz
                have lz9 := Z7.out.lt
                clear hv7 e7
                go_wp2_with fail
                refine ret4b_set (p := 6) (q := 7) (T := 26) (b := w.heap.size) (y := .int .i64 (i5)) (by kernel_rfl) (fun _ => by kernel_rfl) (fun _ => by kernel_rfl) rfl rfl rfl Z7.out ?_
                intro Z fZ
                rw [HXN.out]
                exact ⟨.mk 3 0 (bs nm) [], a7, c7, i5, rfl, own_fr0 fZ V7.out, ((Fr.of_ext E7.out).trans fZ).toExt (fun q hq h => by omega), HA5.out, fun u r h => by cases h; rfl⟩
              · have SGT := Lib.hid (fun w' => hp ▸ SG w')
                obtain ⟨q, rfl⟩ : ∃ q, r' = 40 :: q := by
                  cases r' with
                  | nil => cases hp
                  | cons c q => exact ⟨q, by rw [show c = 40 by simpa [hdB, isB] using hp]⟩
                have HXM := Lib.hid (show rdF (F + 1) (d + 1) 0 (b :: r) = tmR (bs nm) (termsF F d 41 41 [] q) from HXX.out.trans after_br)
                have hAq : AtR s (some q) (i5 + 1) := AtR.next (b := 40) HA5.out
                have hql : q.length < r.length := by
                  have := hnl.1
                  simp only [List.length_cons] at this
                  omega
                have AG := Lib.hid (fun w' => (show Calls Tryz.prog 95 #[.string s, .int .i64 (i5 + 1), .int .i64 d, .int .u8 41, .int .u8 41] w' (SpTms s (termsF F d 41 41 [] q) w') from HT.out s q (i5 + 1) d 41 41 w' hs (by omega) hAq (by omega)))
                clear hp hnm hAq hnl
                go_wp2_with fail
                refine (SGT.out w5).mono ?_
                rintro e w6 ⟨rfl, e6⟩
                have E6 := Lib.hid (E5.out.trans e6)
                have Z6 := Lib.hid (Z5.out.ext e6)
                clear e6
                go_wp2_with fail
                refine (AG.out w6).mono ?_
                rintro e w7 ⟨ts, a7, c7, i7, rfl, hsl7, e7, hat7, hX7⟩
                have S7 := Lib.hid hsl7
                have HA7 := Lib.hid hat7
                have HX7 := Lib.hid hX7
                have E7 := Lib.hid (E6.out.trans e7)
                have Z7 := Lib.hid (Z6.out.ext e7)
                have s6 := Below.size E6.out
                have lz6 := Z6.out.lt
                have l7 := hat7.le hs'
                have bz := Z7.out
                obtain ⟨z0, z1, z2, z3, y0, y1, y2, y3⟩ := bz
                have lz9 := Z7.out.lt
                clear hsl7 hat7 hX7 e7
                cases ht : termsF F d 41 41 [] q with
                | none =>
                  rw [ht] at HA7 HXM
                  have HNG := Lib.hid HA7.out.bad
                  have hneg7 := HNG.out.1
                  have HXN := Lib.hid (show rdF (F + 1) (d + 1) 0 (b :: r) = none from HXM.out)
                  clear ht
                  go_wp2_with fail
                  refine ret4b_set (p := 6) (q := 7) (T := 26) (b := w.heap.size) (v0 := .int .i64 0) (v1 := .int .i64 0) (v2 := .string ⟨#[]⟩) (v3 := .slice none 0 0) (y := .int .i64 (i7)) (by kernel_rfl) (fun _ => by kernel_rfl) (fun _ => by kernel_rfl) rfl rfl rfl Z7.out ?_
                  intro Z fZ
                  rw [HXN.out]
                  exact SpTm.failI rfl HNG.out.1 HNG.out.2 (((Fr.of_ext E7.out).trans fZ).toExt (fun q hq h => by omega))
                | some p =>
                  obtain ⟨ks, q2⟩ := p
                  have hks := HX7.out ks q2 ht
                  subst hks
                  obtain ⟨c, r'', rfl, hc⟩ := terms_end _ _ _ _ _ _ _ _ ht
                  rw [ht] at HA7 HXM
                  have hpos7 : ¬ i7 < 0 := by obtain ⟨n7, rfl, _⟩ := HA7.out.good; omega
                  have HXN := Lib.hid (show rdF (F + 1) (d + 1) 0 (b :: r) = some (sT (bs nm) ts, r'') from HXM.out)
                  have HA8 := Lib.hid (show AtR s (some r'') (i7 + 1) from AtR.next (b := c) HA7.out)
                  clear ht hc
                  go_wp2_with fail
                  refine ret4b_set (p := 6) (q := 7) (T := 26) (b := w.heap.size) (y := .int .i64 (i7 + 1)) (by kernel_rfl) (fun _ => by kernel_rfl) (fun _ => by kernel_rfl) rfl rfl rfl Z7.out ?_
                  intro Z fZ
                  have hsz := fZ.sl S7.out (fun b hb e => by have hb' : w6.heap.size ≤ b := hb; omega)
                  rw [HXN.out]
                  exact ⟨.mk 3 0 (bs nm) ts, a7, c7, i7 + 1, rfl, Tm.at_iff.2 ⟨hns, _, rfl, Tm.sl_mono (fun b hb => by have hb' : w6.heap.size ≤ b := hb; show w.heap.size ≤ b; omega) (Agree.refl _) hsz⟩, ((Fr.of_ext E7.out).trans fZ).toExt (fun q hq h => by omega), HA8.out, fun u r h => by cases h; rfl⟩
          · have u3 : (b.toNat : Int) < 65 := by omega
            cases hdg : hdB digitB (some (b :: r))
            · have hdb : digitB b = false := hdg
              by_cases e45 : b = 45
              · rw [decide_eq_true e45] at q45
                have p45 : (b.toNat : Int) = 45 := by simpa using q45
                cases hdg2 : hdB digitB (some r)
                · have hst : numStart (b :: r) = false := by
                    simp only [numStart, hdb, Bool.false_or]
                    rw [show (b == 45) = true by simpa using e45]
                    cases r with
                    | nil => rfl
                    | cons c q => exact hdg2
                  have HXX := Lib.hid (rd0_name (F := F) (e := d) h40 hli hu hst)
                  clear hli h91 h40 hu hu2 hst e45 k1 hdb
                  go_enter Tryz.func83, Tryz.ntmps83
                  go_wp2_with fail
                  refine (DG.out _).mono ?_
                  rw [hdg]
                  rintro e w2 ⟨rfl, e2⟩
                  have E2 := Lib.hid (EB.out.trans e2)
                  have Z2 := Lib.hid (ZB.out.ext e2)
                  clear e2
                  go_wp2_with fail
                  refine (DG2.out _).mono ?_
                  rw [hdg2]
                  rintro e w3 ⟨rfl, e3⟩
                  have E3 := Lib.hid (E2.out.trans e3)
                  have Z3 := Lib.hid (Z2.out.ext e3)
                  clear e3
                  have NM := Lib.hid (specl1Name hs' HAT.out w3)
                  go_wp2_with fail
                  refine NM.out.mono ?_
                  rintro e w5 ⟨i5, rfl, e5, hat5⟩
                  have E5 := Lib.hid (E3.out.trans e5)
                  have Z5 := Lib.hid (Z3.out.ext e5)
                  have HA5 := Lib.hid hat5
                  have l5 := hat5.le hs'
                  clear e5 hat5
                  cases hnm : nameP (b :: r) with
                  | none =>
                    rw [hnm] at HA5 HXX
                    have hneg : i5 < 0 := HA5.out.bad.1
                    have HXN := Lib.hid (show rdF (F + 1) (d + 1) 0 (b :: r) = none from HXX.out)
                    clear hnm
                    have FLS := Lib.hid (specl2Fails ((n : Int)) w5 (by have := HII.out; omega) (by have := HII.out; omega) s)
                    go_wp2_with fail
                    refine FLS.out.mono ?_
                    rintro e wf ⟨rfl, ef⟩
                    have Ef := Lib.hid (E5.out.trans ef)
                    have Zf := Lib.hid (Z5.out.ext ef)
                    have bz := Zf.out
                    obtain ⟨z0, z1, z2, z3, y0, y1, y2, y3⟩ := bz
                    have lz9 := Zf.out.lt
                    clear ef
                    have HNG := Lib.hid (show -1 - ((n : Int)) < 0 ∧ -1048576 ≤ -1 - ((n : Int)) by have := HII.out; omega)
                    go_wp2_with fail
                    refine ret4b_set (p := 6) (q := 7) (T := 26) (b := w.heap.size) (v0 := .int .i64 0) (v1 := .int .i64 0) (v2 := .string ⟨#[]⟩) (v3 := .slice none 0 0) (y := .int .i64 (-1 - ((n : Int)))) (by kernel_rfl) (fun _ => by kernel_rfl) (fun _ => by kernel_rfl) rfl rfl rfl Zf.out ?_
                    intro Z fZ
                    rw [HXN.out]
                    exact SpTm.failI rfl HNG.out.1 HNG.out.2 (((Fr.of_ext Ef.out).trans fZ).toExt (fun q hq h => by omega))
                  | some p =>
                    obtain ⟨nm, r'⟩ := p
                    have hnl := nameP_len hnm
                    simp only [List.length_cons] at hnl
                    rw [hnm] at HA5 HXX
                    have hpos : ¬ i5 < 0 := by obtain ⟨n5, rfl, _⟩ := HA5.out.good; omega
                    have hi5 : i5 ≤ 1000 := by
                      have := HA5.out.len
                      omega
                    have hns : (bs nm).size ≤ 1048576 := by
                      rw [bs_size]
                      omega
                    have SG := fun w' => signX HA5.out 40 40 rfl w' hs'
                    cases hp : hdB (isB 40) ((some (nm, r')).map Prod.snd)
                    · have SG := Lib.hid (fun w' => hp ▸ SG w')
                      have HXN := Lib.hid (show rdF (F + 1) (d + 1) 0 (b :: r) = some (sT (bs nm) [], r') from HXX.out.trans (after_no hp))
                      clear hp hnm
                      go_wp2_with fail
                      refine (SG.out w5).mono ?_
                      rintro e w6 ⟨rfl, e6⟩
                      have E6 := Lib.hid (E5.out.trans e6)
                      have Z6 := Lib.hid (Z5.out.ext e6)
                      clear e6
                      go_wp2_with fail
                      refine (specl1Struct0 (bs nm) w6 hns).mono ?_
                      rintro e w7 ⟨v7, rfl, hv7, e7⟩
                      obtain ⟨a7, c7, hf7⟩ := at_form (hv7 (fun _ => True))
                      simp only [Tm.kind, Tm.n, Tm.name, Tm.kids, List.length_nil] at hf7
                      have V7 := Lib.hid (hv7 (fun b => w.heap.size ≤ b))
                      subst hf7
                      have E7 := Lib.hid (E6.out.trans e7)
                      have Z7 := Lib.hid (Z6.out.ext e7)
                      have bz := Z7.out
                      obtain ⟨z0, z1, z2, z3, y0, y1, y2, y3⟩ := bz
                      have lz9 := Z7.out.lt
                      clear hv7 e7
                      go_wp2_with fail
                      refine ret4b_set (p := 6) (q := 7) (T := 26) (b := w.heap.size) (y := .int .i64 (i5)) (by kernel_rfl) (fun _ => by kernel_rfl) (fun _ => by kernel_rfl) rfl rfl rfl Z7.out ?_
                      intro Z fZ
                      rw [HXN.out]
                      exact ⟨.mk 3 0 (bs nm) [], a7, c7, i5, rfl, own_fr0 fZ V7.out, ((Fr.of_ext E7.out).trans fZ).toExt (fun q hq h => by omega), HA5.out, fun u r h => by cases h; rfl⟩
                    · have SGT := Lib.hid (fun w' => hp ▸ SG w')
                      obtain ⟨q, rfl⟩ : ∃ q, r' = 40 :: q := by
                        cases r' with
                        | nil => cases hp
                        | cons c q => exact ⟨q, by rw [show c = 40 by simpa [hdB, isB] using hp]⟩
                      have HXM := Lib.hid (show rdF (F + 1) (d + 1) 0 (b :: r) = tmR (bs nm) (termsF F d 41 41 [] q) from HXX.out.trans after_br)
                      have hAq : AtR s (some q) (i5 + 1) := AtR.next (b := 40) HA5.out
                      have hql : q.length < r.length := by
                        have := hnl.1
                        simp only [List.length_cons] at this
                        omega
                      have AG := Lib.hid (fun w' => (show Calls Tryz.prog 95 #[.string s, .int .i64 (i5 + 1), .int .i64 d, .int .u8 41, .int .u8 41] w' (SpTms s (termsF F d 41 41 [] q) w') from HT.out s q (i5 + 1) d 41 41 w' hs (by omega) hAq (by omega)))
                      clear hp hnm hAq hnl
                      go_wp2_with fail
                      refine (SGT.out w5).mono ?_
                      rintro e w6 ⟨rfl, e6⟩
                      have E6 := Lib.hid (E5.out.trans e6)
                      have Z6 := Lib.hid (Z5.out.ext e6)
                      clear e6
                      go_wp2_with fail
                      refine (AG.out w6).mono ?_
                      rintro e w7 ⟨ts, a7, c7, i7, rfl, hsl7, e7, hat7, hX7⟩
                      have S7 := Lib.hid hsl7
                      have HA7 := Lib.hid hat7
                      have HX7 := Lib.hid hX7
                      have E7 := Lib.hid (E6.out.trans e7)
                      have Z7 := Lib.hid (Z6.out.ext e7)
                      have s6 := Below.size E6.out
                      have lz6 := Z6.out.lt
                      have l7 := hat7.le hs'
                      have bz := Z7.out
                      obtain ⟨z0, z1, z2, z3, y0, y1, y2, y3⟩ := bz
                      have lz9 := Z7.out.lt
                      clear hsl7 hat7 hX7 e7
                      cases ht : termsF F d 41 41 [] q with
                      | none =>
                        rw [ht] at HA7 HXM
                        have HNG := Lib.hid HA7.out.bad
                        have hneg7 := HNG.out.1
                        have HXN := Lib.hid (show rdF (F + 1) (d + 1) 0 (b :: r) = none from HXM.out)
                        clear ht
                        go_wp2_with fail
                        refine ret4b_set (p := 6) (q := 7) (T := 26) (b := w.heap.size) (v0 := .int .i64 0) (v1 := .int .i64 0) (v2 := .string ⟨#[]⟩) (v3 := .slice none 0 0) (y := .int .i64 (i7)) (by kernel_rfl) (fun _ => by kernel_rfl) (fun _ => by kernel_rfl) rfl rfl rfl Z7.out ?_
                        intro Z fZ
                        rw [HXN.out]
                        exact SpTm.failI rfl HNG.out.1 HNG.out.2 (((Fr.of_ext E7.out).trans fZ).toExt (fun q hq h => by omega))
                      | some p =>
                        obtain ⟨ks, q2⟩ := p
                        have hks := HX7.out ks q2 ht
                        subst hks
                        obtain ⟨c, r'', rfl, hc⟩ := terms_end _ _ _ _ _ _ _ _ ht
                        rw [ht] at HA7 HXM
                        have hpos7 : ¬ i7 < 0 := by obtain ⟨n7, rfl, _⟩ := HA7.out.good; omega
                        have HXN := Lib.hid (show rdF (F + 1) (d + 1) 0 (b :: r) = some (sT (bs nm) ts, r'') from HXM.out)
                        have HA8 := Lib.hid (show AtR s (some r'') (i7 + 1) from AtR.next (b := c) HA7.out)
                        clear ht hc
                        go_wp2_with fail
                        refine ret4b_set (p := 6) (q := 7) (T := 26) (b := w.heap.size) (y := .int .i64 (i7 + 1)) (by kernel_rfl) (fun _ => by kernel_rfl) (fun _ => by kernel_rfl) rfl rfl rfl Z7.out ?_
                        intro Z fZ
                        have hsz := fZ.sl S7.out (fun b hb e => by have hb' : w6.heap.size ≤ b := hb; omega)
                        rw [HXN.out]
                        exact ⟨.mk 3 0 (bs nm) ts, a7, c7, i7 + 1, rfl, Tm.at_iff.2 ⟨hns, _, rfl, Tm.sl_mono (fun b hb => by have hb' : w6.heap.size ≤ b := hb; show w.heap.size ≤ b; omega) (Agree.refl _) hsz⟩, ((Fr.of_ext E7.out).trans fZ).toExt (fun q hq h => by omega), HA8.out, fun u r h => by cases h; rfl⟩
                · have hst : numStart (b :: r) = true := by
                    rw [e45]
                    cases r with
                    | nil => cases hdg2
                    | cons c q =>
                      show (digitB 45 || ((45 : UInt8) == 45 && digitB c)) = true
                      rw [show digitB c = true from hdg2]; rfl
                  have HST := Lib.hid hst
                  have HXX := Lib.hid (rd0_num (F := F) (e := d) h40 hli hu hst)
                  clear hli h91 h40 hu hu2 hst e45 k1 hdb
                  go_enter Tryz.func83, Tryz.ntmps83
                  go_wp2_with fail
                  refine (DG.out _).mono ?_
                  rw [hdg]
                  rintro e w2 ⟨rfl, e2⟩
                  have E2 := Lib.hid (EB.out.trans e2)
                  have Z2 := Lib.hid (ZB.out.ext e2)
                  clear e2
                  go_wp2_with fail
                  refine (DG2.out _).mono ?_
                  rw [hdg2]
                  rintro e w3 ⟨rfl, e3⟩
                  have E3 := Lib.hid (E2.out.trans e3)
                  have Z3 := Lib.hid (Z2.out.ext e3)
                  clear e3
                  go_wp2_with fail
                  refine (specl1Number hs' HAT.out HST.out w3).mono ?_
                  rintro e w5 ⟨t, ta, tc, i5, rfl, hat5, e5, ha5, hX5⟩
                  have sk := Below.size E3.out
                  have lzk := Z3.out.lt
                  have T5 := Lib.hid (Tm.at_ext (Ext.alloc w5 (.cells #[.int .i64 t.kind, .int .i64 t.n, .string t.name, .slice ta t.kids.length tc] 26)) (Tm.at_mono (S' := fun b => w.heap.size + 1 ≤ b) (fun b hb => by have hb' : w3.heap.size ≤ b := hb; omega) (Agree.refl _) hat5))
                  have A5 := Lib.hid ha5
                  have X5 := Lib.hid hX5
                  have E5 := Lib.hid (E3.out.trans (e5.trans (Ext.alloc w5 (.cells #[.int .i64 t.kind, .int .i64 t.n, .string t.name, .slice ta t.kids.length tc] 26))))
                  have Z5 := Lib.hid ((Z3.out.ext e5).ext (Ext.alloc w5 (.cells #[.int .i64 t.kind, .int .i64 t.n, .string t.name, .slice ta t.kids.length tc] 26)))
                  have B5 := Lib.hid (BoxT.new w5 (.int .i64 t.kind) (.int .i64 t.n) (.string t.name) (.slice ta t.kids.length tc) 26 rfl)
                  clear hat5 ha5 hX5 e5
                  go_upto_region 16 with (fail)
                  obtain ⟨w6, hw6⟩ : ∃ z, z = w5.alloc (.cells #[.int .i64 t.kind, .int .i64 t.n, .string t.name, .slice ta t.kids.length tc] 26) := ⟨_, rfl⟩
                  rw [← hw6] at T5 E5 Z5 B5 ⊢
                  clear hw6
                  cases hnp : numP (b :: r) with
                  | none =>
                    rw [hnp] at A5
                    have hneg := A5.out.bad.1
                    have HXN := Lib.hid (HXX.out.trans hnp)
                    clear hnp
                    have FLS := Lib.hid (specl2Fails ((n : Int)) w6 (by have := HII.out; omega) (by have := HII.out; omega) s)
                    go_wp2_with fail
                    refine FLS.out.mono ?_
                    rintro e wf ⟨rfl, ef⟩
                    have Ef := Lib.hid (E5.out.trans ef)
                    have Zf := Lib.hid (Z5.out.ext ef)
                    have bz := Zf.out
                    obtain ⟨z0, z1, z2, z3, y0, y1, y2, y3⟩ := bz
                    have lz9 := Zf.out.lt
                    clear ef
                    have HNG := Lib.hid (show -1 - ((n : Int)) < 0 ∧ -1048576 ≤ -1 - ((n : Int)) by have := HII.out; omega)
                    go_wp2_with fail
                    refine ret4b_set (p := 6) (q := 7) (T := 26) (b := w.heap.size) (v0 := .int .i64 0) (v1 := .int .i64 0) (v2 := .string ⟨#[]⟩) (v3 := .slice none 0 0) (y := .int .i64 (-1 - ((n : Int)))) (by kernel_rfl) (fun _ => by kernel_rfl) (fun _ => by kernel_rfl) rfl rfl rfl Zf.out ?_
                    intro Z fZ
                    rw [HXN.out]
                    exact SpTm.failI rfl HNG.out.1 HNG.out.2 (((Fr.of_ext Ef.out).trans fZ).toExt (fun q hq h => by omega))
                  | some p =>
                    obtain ⟨t', q⟩ := p
                    have htt := X5.out t' q hnp
                    subst htt
                    rw [hnp] at A5
                    have hpos : ¬ i5 < 0 := by obtain ⟨n5, rfl, _⟩ := A5.out.good; omega
                    have HXn := Lib.hid (HXX.out.trans hnp)
                    have bm := B5.out
                    obtain ⟨m0, m1, m2, m3, _⟩ := bm
                    have bz := Z5.out
                    obtain ⟨z0, z1, z2, z3, y0, y1, y2, y3⟩ := bz
                    have lz9 := Z5.out.lt
                    clear hnp
                    go_wp2_with fail
                    refine ret4b_set (p := 6) (q := 7) (T := 26) (b := w.heap.size) (y := .int .i64 (i5)) (by kernel_rfl) (fun _ => by kernel_rfl) (fun _ => by kernel_rfl) rfl rfl rfl Z5.out ?_
                    intro Z fZ
                    rw [HXn.out]
                    exact ⟨t, ta, tc, i5, rfl, Tm.at_mono (fun b hb => by have hb' : w.heap.size + 1 ≤ b := hb; show w.heap.size ≤ b; omega) (Agree.refl _) (fZ.at T5.out (fun b hb e => by have hb' : w.heap.size + 1 ≤ b := hb; omega)), ((Fr.of_ext E5.out).trans fZ).toExt (fun q hq h => by omega), A5.out, fun u r h => by cases h; rfl⟩
              · rw [decide_eq_false e45] at q45
                have p45 : ¬ (b.toNat : Int) = 45 := by simpa using q45
                have hst : numStart (b :: r) = false := by
                  simp only [numStart, hdb, Bool.false_or]
                  rw [show (b == 45) = false by simpa using e45]
                  rfl
                have HXX := Lib.hid (rd0_name (F := F) (e := d) h40 hli hu hst)
                clear hli h91 h40 hu hu2 hst e45 k1 hdb
                go_enter Tryz.func83, Tryz.ntmps83
                go_wp2_with fail
                refine (DG.out _).mono ?_
                rw [hdg]
                rintro e w2 ⟨rfl, e2⟩
                have E2 := Lib.hid (EB.out.trans e2)
                have Z2 := Lib.hid (ZB.out.ext e2)
                clear e2
                have NM := Lib.hid (specl1Name hs' HAT.out w2)
                go_wp2_with fail
                refine NM.out.mono ?_
                rintro e w5 ⟨i5, rfl, e5, hat5⟩
                have E5 := Lib.hid (E2.out.trans e5)
                have Z5 := Lib.hid (Z2.out.ext e5)
                have HA5 := Lib.hid hat5
                have l5 := hat5.le hs'
                clear e5 hat5
                cases hnm : nameP (b :: r) with
                | none =>
                  rw [hnm] at HA5 HXX
                  have hneg : i5 < 0 := HA5.out.bad.1
                  have HXN := Lib.hid (show rdF (F + 1) (d + 1) 0 (b :: r) = none from HXX.out)
                  clear hnm
                  have FLS := Lib.hid (specl2Fails ((n : Int)) w5 (by have := HII.out; omega) (by have := HII.out; omega) s)
                  go_wp2_with fail
                  refine FLS.out.mono ?_
                  rintro e wf ⟨rfl, ef⟩
                  have Ef := Lib.hid (E5.out.trans ef)
                  have Zf := Lib.hid (Z5.out.ext ef)
                  have bz := Zf.out
                  obtain ⟨z0, z1, z2, z3, y0, y1, y2, y3⟩ := bz
                  have lz9 := Zf.out.lt
                  clear ef
                  have HNG := Lib.hid (show -1 - ((n : Int)) < 0 ∧ -1048576 ≤ -1 - ((n : Int)) by have := HII.out; omega)
                  go_wp2_with fail
                  refine ret4b_set (p := 6) (q := 7) (T := 26) (b := w.heap.size) (v0 := .int .i64 0) (v1 := .int .i64 0) (v2 := .string ⟨#[]⟩) (v3 := .slice none 0 0) (y := .int .i64 (-1 - ((n : Int)))) (by kernel_rfl) (fun _ => by kernel_rfl) (fun _ => by kernel_rfl) rfl rfl rfl Zf.out ?_
                  intro Z fZ
                  rw [HXN.out]
                  exact SpTm.failI rfl HNG.out.1 HNG.out.2 (((Fr.of_ext Ef.out).trans fZ).toExt (fun q hq h => by omega))
                | some p =>
                  obtain ⟨nm, r'⟩ := p
                  have hnl := nameP_len hnm
                  simp only [List.length_cons] at hnl
                  rw [hnm] at HA5 HXX
                  have hpos : ¬ i5 < 0 := by obtain ⟨n5, rfl, _⟩ := HA5.out.good; omega
                  have hi5 : i5 ≤ 1000 := by
                    have := HA5.out.len
                    omega
                  have hns : (bs nm).size ≤ 1048576 := by
                    rw [bs_size]
                    omega
                  have SG := fun w' => signX HA5.out 40 40 rfl w' hs'
                  cases hp : hdB (isB 40) ((some (nm, r')).map Prod.snd)
                  · have SG := Lib.hid (fun w' => hp ▸ SG w')
                    have HXN := Lib.hid (show rdF (F + 1) (d + 1) 0 (b :: r) = some (sT (bs nm) [], r') from HXX.out.trans (after_no hp))
                    clear hp hnm
                    go_wp2_with fail
                    refine (SG.out w5).mono ?_
                    rintro e w6 ⟨rfl, e6⟩
                    have E6 := Lib.hid (E5.out.trans e6)
                    have Z6 := Lib.hid (Z5.out.ext e6)
                    clear e6
                    go_wp2_with fail
                    refine (specl1Struct0 (bs nm) w6 hns).mono ?_
                    rintro e w7 ⟨v7, rfl, hv7, e7⟩
                    obtain ⟨a7, c7, hf7⟩ := at_form (hv7 (fun _ => True))
                    simp only [Tm.kind, Tm.n, Tm.name, Tm.kids, List.length_nil] at hf7
                    have V7 := Lib.hid (hv7 (fun b => w.heap.size ≤ b))
                    subst hf7
                    have E7 := Lib.hid (E6.out.trans e7)
                    have Z7 := Lib.hid (Z6.out.ext e7)
                    have bz := Z7.out
                    obtain ⟨z0, z1, z2, z3, y0, y1, y2, y3⟩ := bz
                    have lz9 := Z7.out.lt
                    clear hv7 e7
                    go_wp2_with fail
                    refine ret4b_set (p := 6) (q := 7) (T := 26) (b := w.heap.size) (y := .int .i64 (i5)) (by kernel_rfl) (fun _ => by kernel_rfl) (fun _ => by kernel_rfl) rfl rfl rfl Z7.out ?_
                    intro Z fZ
                    rw [HXN.out]
                    exact ⟨.mk 3 0 (bs nm) [], a7, c7, i5, rfl, own_fr0 fZ V7.out, ((Fr.of_ext E7.out).trans fZ).toExt (fun q hq h => by omega), HA5.out, fun u r h => by cases h; rfl⟩
                  · have SGT := Lib.hid (fun w' => hp ▸ SG w')
                    obtain ⟨q, rfl⟩ : ∃ q, r' = 40 :: q := by
                      cases r' with
                      | nil => cases hp
                      | cons c q => exact ⟨q, by rw [show c = 40 by simpa [hdB, isB] using hp]⟩
                    have HXM := Lib.hid (show rdF (F + 1) (d + 1) 0 (b :: r) = tmR (bs nm) (termsF F d 41 41 [] q) from HXX.out.trans after_br)
                    have hAq : AtR s (some q) (i5 + 1) := AtR.next (b := 40) HA5.out
                    have hql : q.length < r.length := by
                      have := hnl.1
                      simp only [List.length_cons] at this
                      omega
                    have AG := Lib.hid (fun w' => (show Calls Tryz.prog 95 #[.string s, .int .i64 (i5 + 1), .int .i64 d, .int .u8 41, .int .u8 41] w' (SpTms s (termsF F d 41 41 [] q) w') from HT.out s q (i5 + 1) d 41 41 w' hs (by omega) hAq (by omega)))
                    clear hp hnm hAq hnl
                    go_wp2_with fail
                    refine (SGT.out w5).mono ?_
                    rintro e w6 ⟨rfl, e6⟩
                    have E6 := Lib.hid (E5.out.trans e6)
                    have Z6 := Lib.hid (Z5.out.ext e6)
                    clear e6
                    go_wp2_with fail
                    refine (AG.out w6).mono ?_
                    rintro e w7 ⟨ts, a7, c7, i7, rfl, hsl7, e7, hat7, hX7⟩
                    have S7 := Lib.hid hsl7
                    have HA7 := Lib.hid hat7
                    have HX7 := Lib.hid hX7
                    have E7 := Lib.hid (E6.out.trans e7)
                    have Z7 := Lib.hid (Z6.out.ext e7)
                    have s6 := Below.size E6.out
                    have lz6 := Z6.out.lt
                    have l7 := hat7.le hs'
                    have bz := Z7.out
                    obtain ⟨z0, z1, z2, z3, y0, y1, y2, y3⟩ := bz
                    have lz9 := Z7.out.lt
                    clear hsl7 hat7 hX7 e7
                    cases ht : termsF F d 41 41 [] q with
                    | none =>
                      rw [ht] at HA7 HXM
                      have HNG := Lib.hid HA7.out.bad
                      have hneg7 := HNG.out.1
                      have HXN := Lib.hid (show rdF (F + 1) (d + 1) 0 (b :: r) = none from HXM.out)
                      clear ht
                      go_wp2_with fail
                      refine ret4b_set (p := 6) (q := 7) (T := 26) (b := w.heap.size) (v0 := .int .i64 0) (v1 := .int .i64 0) (v2 := .string ⟨#[]⟩) (v3 := .slice none 0 0) (y := .int .i64 (i7)) (by kernel_rfl) (fun _ => by kernel_rfl) (fun _ => by kernel_rfl) rfl rfl rfl Z7.out ?_
                      intro Z fZ
                      rw [HXN.out]
                      exact SpTm.failI rfl HNG.out.1 HNG.out.2 (((Fr.of_ext E7.out).trans fZ).toExt (fun q hq h => by omega))
                    | some p =>
                      obtain ⟨ks, q2⟩ := p
                      have hks := HX7.out ks q2 ht
                      subst hks
                      obtain ⟨c, r'', rfl, hc⟩ := terms_end _ _ _ _ _ _ _ _ ht
                      rw [ht] at HA7 HXM
                      have hpos7 : ¬ i7 < 0 := by obtain ⟨n7, rfl, _⟩ := HA7.out.good; omega
                      have HXN := Lib.hid (show rdF (F + 1) (d + 1) 0 (b :: r) = some (sT (bs nm) ts, r'') from HXM.out)
                      have HA8 := Lib.hid (show AtR s (some r'') (i7 + 1) from AtR.next (b := c) HA7.out)
                      clear ht hc
                      go_wp2_with fail
                      refine ret4b_set (p := 6) (q := 7) (T := 26) (b := w.heap.size) (y := .int .i64 (i7 + 1)) (by kernel_rfl) (fun _ => by kernel_rfl) (fun _ => by kernel_rfl) rfl rfl rfl Z7.out ?_
                      intro Z fZ
                      have hsz := fZ.sl S7.out (fun b hb e => by have hb' : w6.heap.size ≤ b := hb; omega)
                      rw [HXN.out]
                      exact ⟨.mk 3 0 (bs nm) ts, a7, c7, i7 + 1, rfl, Tm.at_iff.2 ⟨hns, _, rfl, Tm.sl_mono (fun b hb => by have hb' : w6.heap.size ≤ b := hb; show w.heap.size ≤ b; omega) (Agree.refl _) hsz⟩, ((Fr.of_ext E7.out).trans fZ).toExt (fun q hq h => by omega), HA8.out, fun u r h => by cases h; rfl⟩
            · have hst : numStart (b :: r) = true := by
                have h1 : digitB b = true := hdg
                simp only [numStart, h1, Bool.true_or]
              have HST := Lib.hid hst
              have HXX := Lib.hid (rd0_num (F := F) (e := d) h40 hli hu hst)
              clear hli h91 h40 hu hu2 hst k1
              go_enter Tryz.func83, Tryz.ntmps83
              go_wp2_with fail
              refine (DG.out _).mono ?_
              rw [hdg]
              rintro e w2 ⟨rfl, e2⟩
              have E2 := Lib.hid (EB.out.trans e2)
              have Z2 := Lib.hid (ZB.out.ext e2)
              clear e2
              go_wp2_with fail
              refine (specl1Number hs' HAT.out HST.out w2).mono ?_
              rintro e w5 ⟨t, ta, tc, i5, rfl, hat5, e5, ha5, hX5⟩
              have sk := Below.size E2.out
              have lzk := Z2.out.lt
              have T5 := Lib.hid (Tm.at_ext (Ext.alloc w5 (.cells #[.int .i64 t.kind, .int .i64 t.n, .string t.name, .slice ta t.kids.length tc] 26)) (Tm.at_mono (S' := fun b => w.heap.size + 1 ≤ b) (fun b hb => by have hb' : w2.heap.size ≤ b := hb; omega) (Agree.refl _) hat5))
              have A5 := Lib.hid ha5
              have X5 := Lib.hid hX5
              have E5 := Lib.hid (E2.out.trans (e5.trans (Ext.alloc w5 (.cells #[.int .i64 t.kind, .int .i64 t.n, .string t.name, .slice ta t.kids.length tc] 26))))
              have Z5 := Lib.hid ((Z2.out.ext e5).ext (Ext.alloc w5 (.cells #[.int .i64 t.kind, .int .i64 t.n, .string t.name, .slice ta t.kids.length tc] 26)))
              have B5 := Lib.hid (BoxT.new w5 (.int .i64 t.kind) (.int .i64 t.n) (.string t.name) (.slice ta t.kids.length tc) 26 rfl)
              clear hat5 ha5 hX5 e5
              go_upto_region 16 with (fail)
              obtain ⟨w6, hw6⟩ : ∃ z, z = w5.alloc (.cells #[.int .i64 t.kind, .int .i64 t.n, .string t.name, .slice ta t.kids.length tc] 26) := ⟨_, rfl⟩
              rw [← hw6] at T5 E5 Z5 B5 ⊢
              clear hw6
              cases hnp : numP (b :: r) with
              | none =>
                rw [hnp] at A5
                have hneg := A5.out.bad.1
                have HXN := Lib.hid (HXX.out.trans hnp)
                clear hnp
                have FLS := Lib.hid (specl2Fails ((n : Int)) w6 (by have := HII.out; omega) (by have := HII.out; omega) s)
                go_wp2_with fail
                refine FLS.out.mono ?_
                rintro e wf ⟨rfl, ef⟩
                have Ef := Lib.hid (E5.out.trans ef)
                have Zf := Lib.hid (Z5.out.ext ef)
                have bz := Zf.out
                obtain ⟨z0, z1, z2, z3, y0, y1, y2, y3⟩ := bz
                have lz9 := Zf.out.lt
                clear ef
                have HNG := Lib.hid (show -1 - ((n : Int)) < 0 ∧ -1048576 ≤ -1 - ((n : Int)) by have := HII.out; omega)
                go_wp2_with fail
                refine ret4b_set (p := 6) (q := 7) (T := 26) (b := w.heap.size) (v0 := .int .i64 0) (v1 := .int .i64 0) (v2 := .string ⟨#[]⟩) (v3 := .slice none 0 0) (y := .int .i64 (-1 - ((n : Int)))) (by kernel_rfl) (fun _ => by kernel_rfl) (fun _ => by kernel_rfl) rfl rfl rfl Zf.out ?_
                intro Z fZ
                rw [HXN.out]
                exact SpTm.failI rfl HNG.out.1 HNG.out.2 (((Fr.of_ext Ef.out).trans fZ).toExt (fun q hq h => by omega))
              | some p =>
                obtain ⟨t', q⟩ := p
                have htt := X5.out t' q hnp
                subst htt
                rw [hnp] at A5
                have hpos : ¬ i5 < 0 := by obtain ⟨n5, rfl, _⟩ := A5.out.good; omega
                have HXn := Lib.hid (HXX.out.trans hnp)
                have bm := B5.out
                obtain ⟨m0, m1, m2, m3, _⟩ := bm
                have bz := Z5.out
                obtain ⟨z0, z1, z2, z3, y0, y1, y2, y3⟩ := bz
                have lz9 := Z5.out.lt
                clear hnp
                go_wp2_with fail
                refine ret4b_set (p := 6) (q := 7) (T := 26) (b := w.heap.size) (y := .int .i64 (i5)) (by kernel_rfl) (fun _ => by kernel_rfl) (fun _ => by kernel_rfl) rfl rfl rfl Z5.out ?_
                intro Z fZ
                rw [HXn.out]
                exact ⟨t, ta, tc, i5, rfl, Tm.at_mono (fun b hb => by have hb' : w.heap.size + 1 ≤ b := hb; show w.heap.size ≤ b; omega) (Agree.refl _) (fZ.at T5.out (fun b hb e => by have hb' : w.heap.size + 1 ≤ b := hb; omega)), ((Fr.of_ext E5.out).trans fZ).toExt (fun q hq h => by omega), A5.out, fun u r h => by cases h; rfl⟩
        · have hu2 : 65 ≤ b.toNat ∧ b.toNat ≤ 90 := by simpa [isUp] using hu
          obtain ⟨k1, k2⟩ := hu2
          have u3 : ¬ (b.toNat : Int) < 65 := by omega
          have u4 : ¬ (90 : Int) < b.toNat := by omega
          have hw : IntKind.u8.wrap ((b.toNat : Int) - 65) = (b.toNat : Int) - 65 := by rw [IntKind.wrap_u8]; omega
          have HXX := Lib.hid (rd0_up (F := F) (e := d) h40 hli hu)
          clear hli h91 h40 hu
          go_enter Tryz.func83, Tryz.ntmps83
          go_wp2_with fail
          refine (specl1Var _ _).mono ?_
          rintro e w5 ⟨v5, rfl, hv5, e5⟩
          obtain ⟨a5, c5, hf5⟩ := at_form (hv5 (fun _ => True))
          simp only [Tm.kind, Tm.n, Tm.name, Tm.kids, List.length_nil] at hf5
          have V5 := Lib.hid (hv5 (fun b => w.heap.size ≤ b))
          subst hf5
          have E5 := Lib.hid (EB.out.trans e5)
          have Z5 := Lib.hid (ZB.out.ext e5)
          have bz := Z5.out
          obtain ⟨z0, z1, z2, z3, y0, y1, y2, y3⟩ := bz
          have lz9 := Z5.out.lt
          clear hv5 e5
          go_wp2_with fail
          refine ret4b_set (p := 6) (q := 7) (T := 26) (b := w.heap.size) (y := .int .i64 ((n : Int) + 1)) (by kernel_rfl) (fun _ => by kernel_rfl) (fun _ => by kernel_rfl) rfl rfl rfl Z5.out ?_
          intro Z fZ
          rw [HXX.out]
          exact ⟨vT b, a5, c5, (n : Int) + 1, rfl, own_fr0 fZ V5.out, ((Fr.of_ext E5.out).trans fZ).toExt (fun q hq h => by omega), HAN.out, fun u r h => by cases h; rfl⟩
end Go.Proofs.YtognkaebiafgbaaGreat
