/-
  The reference's readers: l1Parse.
-/
import Derived.Test.YtognkaebiafgbaaGreatDoorMp45
import Derived.Test.YtognkaebiafgbaaGreatDoorMp27
namespace Go.Proofs.YtognkaebiafgbaaGreatDoor
open Go.RowKit
set_option linter.unusedVariables false

/-- what is read behind a name, if there is one -/
def nmS (f : List UInt8 → Option (Tm × List UInt8)) : Option (List UInt8 × List UInt8) → Option (Tm × List UInt8)
  | none => none
  | some (s, r') => nameS f (bs s) r'
theorem drop_head {s : ByteArray} {n : Nat} {b : UInt8} {r : List UInt8} (h : s.toList.drop n = b :: r) : ∃ hl : n < s.size, s[n] = b := by
  have hl : n < s.toList.length := by
    apply Decidable.byContradiction
    intro hn
    rw [List.drop_eq_nil_of_le (by omega)] at h
    cases h
  rw [List.drop_eq_getElem_cons hl] at h
  injection h with h3 h4
  rw [bl_len] at hl
  exact ⟨hl, by rw [← bl_get s n hl]; exact h3⟩
set_option maxRecDepth 100000 in
set_option maxHeartbeats 4000000 in
theorem spc_zero : SpC 0 := by
  intro s r i w hs hat
  have HX := Lib.hid (show spP 0 r = none from rfl)
  rw [HX.out]
  go_enter Tryz.func87, Tryz.ntmps87
  go_wp2_with fail
  refine ret4b (p := 6) (q := 7) (T := 25) (b := w.heap.size) (v0 := .int .i64 0) (v1 := .int .i64 0) (v2 := .string ⟨#[]⟩) (v3 := .slice none 0 0) (y := .int .i64 (-1)) (by kernel_rfl) (fun _ => by kernel_rfl) (fun _ => by kernel_rfl) rfl rfl rfl (BoxT.new w (.int .i64 0) (.int .i64 0) (.string ⟨#[]⟩) (.slice none 0 0) 25 rfl) ?_
  exact SpTm.fail rfl (Ext.alloc _ _)
set_option maxRecDepth 100000 in
set_option maxHeartbeats 8000000 in
theorem spc_succ (d : Nat) (hd : d ≤ 99) (hC : SpC d) : SpC (d + 1) := by
  intro s rest i w hs hat
  have HC := Lib.hid hC
  have HAT := Lib.hid hat
  obtain ⟨n, rfl, h1, h2⟩ := hat.good
  have hd1 : ¬ ((d + 1 : Nat) : Int) < 1 := by omega
  clear hC hat
  cases rest with
  | nil =>
    have hn : n = s.size := by
      have := List.drop_eq_nil_iff.1 h2
      rw [bl_len] at this
      omega
    subst hn
    have HX := Lib.hid (show spP (d + 1) [] = none by rw [spP])
    rw [HX.out]
    go_enter Tryz.func87, Tryz.ntmps87
    go_wp2_with fail
    refine ret4b (p := 6) (q := 7) (T := 25) (b := w.heap.size) (v0 := .int .i64 0) (v1 := .int .i64 0) (v2 := .string ⟨#[]⟩) (v3 := .slice none 0 0) (y := .int .i64 (-1)) (by kernel_rfl) (fun _ => by kernel_rfl) (fun _ => by kernel_rfl) rfl rfl rfl (BoxT.new w (.int .i64 0) (.int .i64 0) (.string ⟨#[]⟩) (.slice none 0 0) 25 rfl) ?_
    exact SpTm.fail rfl (Ext.alloc _ _)
  | cons b r =>
    obtain ⟨hl, hb⟩ := drop_head h2
    have hlen := HAT.out.len
    simp only [List.length_cons] at hlen
    have HB := Lib.hid hb
    have HAN := Lib.hid (show AtR s (some r) ((n : Int) + 1) from HAT.out.next)
    have DG := Lib.hid (fun w' => digitX HAT.out w' hs)
    have DG2 := Lib.hid (fun w' => digitX HAN.out w' hs)
    have SG93 := Lib.hid (fun w' => signX HAN.out 93 93 rfl w' hs)
    have hge : ¬ (s.size : Int) ≤ (n : Int) := by omega
    have q45 : ((b.toNat : Int) == 45) = decide (b = 45) := u8_eqd b 45
    have q91 : ((b.toNat : Int) == 91) = decide (b = 91) := u8_eqd b 91
    have hun : (s[n].toNat : Int) = b.toNat := by rw [hb]
    have ZB := Lib.hid (BoxT.new w (.int .i64 0) (.int .i64 0) (.string ⟨#[]⟩) (.slice none 0 0) 25 rfl)
    clear h2
    cases hu : isUp b
    · have hu2 : ¬ (65 ≤ b.toNat ∧ b.toNat ≤ 90) := by simpa [isUp] using hu
      have HU := Lib.hid hu
      by_cases k1 : 65 ≤ b.toNat
      · have k2 : 90 < b.toNat := by omega
        have u3 : ¬ (b.toNat : Int) < 65 := by omega
        have u4 : (90 : Int) < b.toNat := by omega
        have hdg : hdB digitB (some (b :: r)) = false := by show digitB b = false; simp only [digitB, decide_eq_false_iff_not]; omega
        have e45 : ¬ b = 45 := by
          rintro rfl
          exact absurd k1 (by decide)
        rw [decide_eq_false e45] at q45
        have p45 : ¬ (b.toNat : Int) = 45 := by simpa using q45
        have hst : numStart (b :: r) = false := by
          have h1 : digitB b = false := hdg
          simp only [numStart, h1, Bool.false_or]
          rw [show (b == 45) = false by simpa using e45]
          rfl
        have HST := Lib.hid hst
        clear hst e45
        by_cases h91 : b = 91
        · rw [decide_eq_true h91] at q91
          have p91 : (b.toNat : Int) = 91 := by simpa using q91
          cases h93 : hdB (isB 93) (some r)
          · have hli : b = 91 ∧ r.head? ≠ some 93 := ⟨h91, fun e => by
              cases r with
              | nil => cases e
              | cons c q =>
                have hc : c = 93 := by simpa using e
                rw [hc] at h93
                exact absurd h93 (by simp [hdB, isB])⟩
            have HXX := Lib.hid (show spP (d + 1) (b :: r) = itemsS (spP d) 121 [] r by
              rw [spP]
              simp only [HU.out, HST.out, Bool.false_eq_true, if_false]
              rw [if_pos hli])
            clear hli h91 hu hu2 k1 k2
            go_enter Tryz.func87, Tryz.ntmps87
            go_wp2_with fail
            refine (DG.out _).mono ?_
            rw [hdg]
            rintro e w1 ⟨rfl, e1⟩
            have E1 := Lib.hid ((Ext.alloc w (.cells #[.int .i64 0, .int .i64 0, .string ⟨#[]⟩, .slice none 0 0] 25)).trans e1)
            have Z1 := Lib.hid (ZB.out.ext e1)
            clear e1
            go_wp2_with fail
            refine (SG93.out w1).mono ?_
            rw [h93]
            rintro e w3 ⟨rfl, e3⟩
            have Ek := Lib.hid (E1.out.trans e3)
            have Zk := Lib.hid (Z1.out.ext e3)
            obtain ⟨wk, hwk⟩ : ∃ z, z = w3 := ⟨_, rfl⟩
            subst hwk
            clear e3
            have LI := Lib.hid (fun w' => specl1Items d HC.out (by omega) hs HAN.out w')
            have lq := HAN.out.le hs
            clear h93
            go_wp2_with fail
            refine (LI.out _).mono ?_
            rintro e w5 ⟨t, ta, tc, i5, rfl, hat5, e5, ha5, hX5⟩
            have T5 := Lib.hid hat5
            have A5 := Lib.hid ha5
            have X5 := Lib.hid hX5
            have E5 := Lib.hid (Ek.out.trans e5)
            have Z5 := Lib.hid (Zk.out.ext e5)
            have s1 := Below.size Ek.out
            have lz1 := Zk.out.lt
            have bz := Z5.out
            obtain ⟨z0, z1, z2, z3, y0, y1, y2, y3⟩ := bz
            have lz9 := Z5.out.lt
            clear hat5 ha5 hX5 e5
            go_wp2_with fail
            refine ret4b_set (p := 6) (q := 7) (T := 25) (b := w.heap.size) (y := .int .i64 (i5)) (by kernel_rfl) (fun _ => by kernel_rfl) (fun _ => by kernel_rfl) rfl rfl rfl Z5.out ?_
            intro Z fZ
            rw [HXX.out]
            exact ⟨t, ta, tc, i5, rfl, Tm.at_mono (fun b hb => by have hb' : _ ≤ b := hb; show w.heap.size ≤ b; omega) (Agree.refl _) (fZ.at T5.out (fun b hb e => by have hb' : _ ≤ b := hb; omega)), ((Fr.of_ext E5.out).trans fZ).toExt (fun q hq h => by omega), A5.out, X5.out⟩
          · have hli : ¬ (b = 91 ∧ r.head? ≠ some 93) := by
              rintro ⟨_, h⟩
              cases r with
              | nil => cases h93
              | cons c q =>
                have hc : c = 93 := by simpa [hdB, isB] using h93
                exact h (by rw [hc]; rfl)
            have HXX := Lib.hid (show spP (d + 1) (b :: r) = nmS (spP d) (nameP (b :: r)) by
              rw [spP]
              simp only [HU.out, HST.out, Bool.false_eq_true, if_false]
              rw [if_neg hli]
              cases nameP (b :: r) <;> rfl)
            clear hli h91 hu hu2 k1 k2
            go_enter Tryz.func87, Tryz.ntmps87
            go_wp2_with fail
            refine (DG.out _).mono ?_
            rw [hdg]
            rintro e w1 ⟨rfl, e1⟩
            have E1 := Lib.hid ((Ext.alloc w (.cells #[.int .i64 0, .int .i64 0, .string ⟨#[]⟩, .slice none 0 0] 25)).trans e1)
            have Z1 := Lib.hid (ZB.out.ext e1)
            clear e1
            go_wp2_with fail
            refine (SG93.out w1).mono ?_
            rw [h93]
            rintro e w3 ⟨rfl, e3⟩
            have Ek := Lib.hid (E1.out.trans e3)
            have Zk := Lib.hid (Z1.out.ext e3)
            obtain ⟨wk, hwk⟩ : ∃ z, z = w3 := ⟨_, rfl⟩
            subst hwk
            clear e3
            clear h93
            have NM := Lib.hid (specl1Name hs HAT.out wk)
            go_wp2_with fail
            refine NM.out.mono ?_
            rintro e w5 ⟨i5, rfl, e5, hat5⟩
            have E5 := Lib.hid (Ek.out.trans e5)
            have Z5 := Lib.hid (Zk.out.ext e5)
            have HA5 := Lib.hid hat5
            have l5 := hat5.le hs
            clear e5 hat5
            cases hnm : nameP (b :: r) with
            | none =>
              rw [hnm] at HA5 HXX
              have hneg : i5 < 0 := HA5.out.bad.1
              have hge := HA5.out.bad.2
              have HXN := Lib.hid (show spP (d + 1) (b :: r) = none from HXX.out)
              clear hnm
              go_wp2_with fail
              refine (specl1Struct0 (bs []) w5 (by rw [bs_size]; decide)).mono ?_
              rintro e w6 ⟨v6, rfl, hv6, e6⟩
              obtain ⟨a6, c6, hf6⟩ := at_form (hv6 (fun _ => True))
              simp only [Tm.kind, Tm.n, Tm.name, Tm.kids, List.length_nil] at hf6
              have V6 := Lib.hid (hv6 (fun b => w.heap.size ≤ b))
              subst hf6
              have E6 := Lib.hid (E5.out.trans e6)
              have Z6 := Lib.hid (Z5.out.ext e6)
              have bz := Z6.out
              obtain ⟨z0, z1, z2, z3, y0, y1, y2, y3⟩ := bz
              have lz9 := Z6.out.lt
              clear hv6 e6
              go_wp2_with fail
              refine ret4b_set (p := 6) (q := 7) (T := 25) (b := w.heap.size) (y := .int .i64 (i5)) (by kernel_rfl) (fun _ => by kernel_rfl) (fun _ => by kernel_rfl) rfl rfl rfl Z6.out ?_
              intro Z fZ
              rw [HXN.out]
              exact ⟨.mk 3 0 (bs []) [], a6, c6, i5, rfl, own_fr0 fZ V6.out, ((Fr.of_ext E6.out).trans fZ).toExt (fun q hq h => by omega), AtR.no hneg hge, fun u r h => by cases h⟩
            | some p =>
              obtain ⟨nm, r'⟩ := p
              rw [hnm] at HA5 HXX
              have hA := HA5.out
              obtain ⟨n5, rfl, hn5, hd5⟩ := hA.good
              have hns : (bs nm).size ≤ 1048576 := by
                have := (nameP_len hnm).2
                simp only [List.length_cons] at this
                rw [bs_size]
                omega
              have SG := signX HA5.out 40 40 rfl w5 hs
              cases hp : hdB (isB 40) (some r')
              · have HXN := Lib.hid (show spP (d + 1) (b :: r) = some (sT (bs nm) [], r') by
                  rw [HXX.out]
                  cases r' with
                  | nil => rfl
                  | cons c q =>
                    have hc : ¬ c = 40 := by simpa [hdB, isB] using hp
                    show nameS (spP d) (bs nm) (c :: q) = _
                    simp only [nameS, if_neg hc])
                have hp' : hdB (isB 40) ((some (nm, r')).map Prod.snd) = false := hp
                rw [hp'] at SG
                have SG := Lib.hid SG
                clear hp hp' hnm hd5 hA
                go_wp2_with fail
                refine SG.out.mono ?_
                rintro e w6 ⟨rfl, e6⟩
                have E6 := Lib.hid (E5.out.trans e6)
                have Z6 := Lib.hid (Z5.out.ext e6)
                clear e6
                go_wp2_with fail
                refine (specl1Struct0 (bs nm) w6 hns).mono ?_
                rintro e w7 ⟨v7, rfl, hv7, e7⟩
                obtain ⟨a7, c7, hf7⟩ := at_form (hv7 (fun _ => True))
                simp only [Tm.kind, Tm.n, Tm.name, Tm.kids, List.length_nil] at hf7
                have V7 := Lib.hid (hv7 (fun b => w.heap.size ≤ b))
                subst hf7
                have E7 := Lib.hid (E6.out.trans e7)
                have Z7 := Lib.hid (Z6.out.ext e7)
                have bz := Z7.out
                obtain ⟨z0, z1, z2, z3, y0, y1, y2, y3⟩ := bz
                have lz9 := Z7.out.lt
                clear hv7 e7
                go_wp2_with fail
                refine ret4b_set (p := 6) (q := 7) (T := 25) (b := w.heap.size) (y := .int .i64 ((n5 : Int))) (by kernel_rfl) (fun _ => by kernel_rfl) (fun _ => by kernel_rfl) rfl rfl rfl Z7.out ?_
                intro Z fZ
                rw [HXN.out]
                exact ⟨.mk 3 0 (bs nm) [], a7, c7, (n5 : Int), rfl, own_fr0 fZ V7.out, ((Fr.of_ext E7.out).trans fZ).toExt (fun q hq h => by omega), HA5.out, fun u r h => by cases h; rfl⟩
              · obtain ⟨q, rfl⟩ : ∃ q, r' = 40 :: q := by
                  cases r' with
                  | nil => cases hp
                  | cons c q => exact ⟨q, by rw [show c = 40 by simpa [hdB, isB] using hp]⟩
                have HXN := Lib.hid (show spP (d + 1) (b :: r) = (argsS (spP d) 5 [] q).map (fun p => (sT (bs nm) p.1, p.2)) by
                  rw [HXX.out]
                  show nameS (spP d) (bs nm) (40 :: q) = _
                  simp only [nameS, if_true]
                  cases argsS (spP d) 5 [] q <;> rfl)
                have hp' : hdB (isB 40) ((some (nm, 40 :: q)).map Prod.snd) = true := hp
                rw [hp'] at SG
                have SG := Lib.hid SG
                have hAq : AtR s (some q) ((n5 : Int) + 1) := AtR.next (b := 40) HA5.out
                have AG := Lib.hid (fun w' => specl1Args d HC.out (by omega) hs hAq w')
                have lq := hAq.le hs
                clear hp hp' hnm hd5 hA hAq
                go_wp2_with fail
                refine SG.out.mono ?_
                rintro e w6 ⟨rfl, e6⟩
                have E6 := Lib.hid (E5.out.trans e6)
                have Z6 := Lib.hid (Z5.out.ext e6)
                clear e6
                go_wp2_with fail
                refine (AG.out w6).mono ?_
                rintro e w7 ⟨ts, a7, c7, i7, rfl, hsl7, e7, hat7, hX7⟩
                have S7 := Lib.hid hsl7
                have HA7 := Lib.hid hat7
                have HX7 := Lib.hid hX7
                have E7 := Lib.hid (E6.out.trans e7)
                have Z7 := Lib.hid (Z6.out.ext e7)
                have s6 := Below.size E6.out
                have lz6 := Z6.out.lt
                have bz := Z7.out
                obtain ⟨z0, z1, z2, z3, y0, y1, y2, y3⟩ := bz
                have lz9 := Z7.out.lt
                clear hsl7 hat7 hX7 e7
                go_wp2_with fail
                refine ret4b_set (p := 6) (q := 7) (T := 25) (b := w.heap.size) (y := .int .i64 (i7)) (by kernel_rfl) (fun _ => by kernel_rfl) (fun _ => by kernel_rfl) rfl rfl rfl Z7.out ?_
                intro Z fZ
                have hsz := fZ.sl S7.out (fun b hb e => by have hb' : w6.heap.size ≤ b := hb; omega)
                have hln : ts.length ≤ 1048576 := by obtain ⟨_, _, _, _, _, h3, _⟩ := hsz; exact h3
                refine ⟨.mk 3 0 (bs nm) ts, a7, c7, i7, rfl, Tm.at_iff.2 ⟨hns, _, rfl, Tm.sl_mono (fun b hb => by have hb' : w6.heap.size ≤ b := hb; show w.heap.size ≤ b; omega) (Agree.refl _) hsz⟩, ((Fr.of_ext E7.out).trans fZ).toExt (fun q hq h => by omega), ?_, ?_⟩
                · rw [HXN.out]
                  have h := HA7.out
                  cases e : argsS (spP d) 5 [] q with
                  | none => rw [e] at h; exact h
                  | some p => obtain ⟨ks, r'⟩ := p; rw [e] at h; exact h
                · intro u r' h
                  rw [HXN.out] at h
                  cases e : argsS (spP d) 5 [] q with
                  | none => rw [e] at h; cases h
                  | some p =>
                    obtain ⟨ks, r''⟩ := p
                    rw [e] at h
                    have := HX7.out ks r'' e
                    subst this
                    cases h
                    rfl
        · rw [decide_eq_false h91] at q91
          have p91 : ¬ (b.toNat : Int) = 91 := by simpa using q91
          have hli : ¬ (b = 91 ∧ r.head? ≠ some 93) := fun h => h91 h.1
          have HXX := Lib.hid (show spP (d + 1) (b :: r) = nmS (spP d) (nameP (b :: r)) by
            rw [spP]
            simp only [HU.out, HST.out, Bool.false_eq_true, if_false]
            rw [if_neg hli]
            cases nameP (b :: r) <;> rfl)
          clear hli h91 hu hu2 k1 k2
          go_enter Tryz.func87, Tryz.ntmps87
          go_wp2_with fail
          refine (DG.out _).mono ?_
          rw [hdg]
          rintro e w1 ⟨rfl, e1⟩
          have E1 := Lib.hid ((Ext.alloc w (.cells #[.int .i64 0, .int .i64 0, .string ⟨#[]⟩, .slice none 0 0] 25)).trans e1)
          have Z1 := Lib.hid (ZB.out.ext e1)
          clear e1
          have NM := Lib.hid (specl1Name hs HAT.out w1)
          go_wp2_with fail
          refine NM.out.mono ?_
          rintro e w5 ⟨i5, rfl, e5, hat5⟩
          have E5 := Lib.hid (E1.out.trans e5)
          have Z5 := Lib.hid (Z1.out.ext e5)
          have HA5 := Lib.hid hat5
          have l5 := hat5.le hs
          clear e5 hat5
          cases hnm : nameP (b :: r) with
          | none =>
            rw [hnm] at HA5 HXX
            have hneg : i5 < 0 := HA5.out.bad.1
            have hge := HA5.out.bad.2
            have HXN := Lib.hid (show spP (d + 1) (b :: r) = none from HXX.out)
            clear hnm
            go_wp2_with fail
            refine (specl1Struct0 (bs []) w5 (by rw [bs_size]; decide)).mono ?_
            rintro e w6 ⟨v6, rfl, hv6, e6⟩
            obtain ⟨a6, c6, hf6⟩ := at_form (hv6 (fun _ => True))
            simp only [Tm.kind, Tm.n, Tm.name, Tm.kids, List.length_nil] at hf6
            have V6 := Lib.hid (hv6 (fun b => w.heap.size ≤ b))
            subst hf6
            have E6 := Lib.hid (E5.out.trans e6)
            have Z6 := Lib.hid (Z5.out.ext e6)
            have bz := Z6.out
            obtain ⟨z0, z1, z2, z3, y0, y1, y2, y3⟩ := bz
            have lz9 := Z6.out.lt
            clear hv6 e6
            go_wp2_with fail
            refine ret4b_set (p := 6) (q := 7) (T := 25) (b := w.heap.size) (y := .int .i64 (i5)) (by kernel_rfl) (fun _ => by kernel_rfl) (fun _ => by kernel_rfl) rfl rfl rfl Z6.out ?_
            intro Z fZ
            rw [HXN.out]
            exact ⟨.mk 3 0 (bs []) [], a6, c6, i5, rfl, own_fr0 fZ V6.out, ((Fr.of_ext E6.out).trans fZ).toExt (fun q hq h => by omega), AtR.no hneg hge, fun u r h => by cases h⟩
          | some p =>
            obtain ⟨nm, r'⟩ := p
            rw [hnm] at HA5 HXX
            have hA := HA5.out
            obtain ⟨n5, rfl, hn5, hd5⟩ := hA.good
            have hns : (bs nm).size ≤ 1048576 := by
              have := (nameP_len hnm).2
              simp only [List.length_cons] at this
              rw [bs_size]
              omega
            have SG := signX HA5.out 40 40 rfl w5 hs
            cases hp : hdB (isB 40) (some r')
            · have HXN := Lib.hid (show spP (d + 1) (b :: r) = some (sT (bs nm) [], r') by
                rw [HXX.out]
                cases r' with
                | nil => rfl
                | cons c q =>
                  have hc : ¬ c = 40 := by simpa [hdB, isB] using hp
                  show nameS (spP d) (bs nm) (c :: q) = _
                  simp only [nameS, if_neg hc])
              have hp' : hdB (isB 40) ((some (nm, r')).map Prod.snd) = false := hp
              rw [hp'] at SG
              have SG := Lib.hid SG
              clear hp hp' hnm hd5 hA
              go_wp2_with fail
              refine SG.out.mono ?_
              rintro e w6 ⟨rfl, e6⟩
              have E6 := Lib.hid (E5.out.trans e6)
              have Z6 := Lib.hid (Z5.out.ext e6)
              clear e6
              go_wp2_with fail
              refine (specl1Struct0 (bs nm) w6 hns).mono ?_
              rintro e w7 ⟨v7, rfl, hv7, e7⟩
              obtain ⟨a7, c7, hf7⟩ := at_form (hv7 (fun _ => True))
              simp only [Tm.kind, Tm.n, Tm.name, Tm.kids, List.length_nil] at hf7
              have V7 := Lib.hid (hv7 (fun b => w.heap.size ≤ b))
              subst hf7
              have E7 := Lib.hid (E6.out.trans e7)
              have Z7 := Lib.hid (Z6.out.ext e7)
              have bz := Z7.out
              obtain ⟨z0, z1, z2, z3, y0, y1, y2, y3⟩ := bz
              have lz9 := Z7.out.lt
              clear hv7 e7
              go_wp2_with fail
              refine ret4b_set (p := 6) (q := 7) (T := 25) (b := w.heap.size) (y := .int .i64 ((n5 : Int))) (by kernel_rfl) (fun _ => by kernel_rfl) (fun _ => by kernel_rfl) rfl rfl rfl Z7.out ?_
              intro Z fZ
              rw [HXN.out]
              exact ⟨.mk 3 0 (bs nm) [], a7, c7, (n5 : Int), rfl, own_fr0 fZ V7.out, ((Fr.of_ext E7.out).trans fZ).toExt (fun q hq h => by omega), HA5.out, fun u r h => by cases h; rfl⟩
            · obtain ⟨q, rfl⟩ : ∃ q, r' = 40 :: q := by
                cases r' with
                | nil => cases hp
                | cons c q => exact ⟨q, by rw [show c = 40 by simpa [hdB, isB] using hp]⟩
              have HXN := Lib.hid (show spP (d + 1) (b :: r) = (argsS (spP d) 5 [] q).map (fun p => (sT (bs nm) p.1, p.2)) by
                rw [HXX.out]
                show nameS (spP d) (bs nm) (40 :: q) = _
                simp only [nameS, if_true]
                cases argsS (spP d) 5 [] q <;> rfl)
              have hp' : hdB (isB 40) ((some (nm, 40 :: q)).map Prod.snd) = true := hp
              rw [hp'] at SG
              have SG := Lib.hid SG
              have hAq : AtR s (some q) ((n5 : Int) + 1) := AtR.next (b := 40) HA5.out
              have AG := Lib.hid (fun w' => specl1Args d HC.out (by omega) hs hAq w')
              have lq := hAq.le hs
              clear hp hp' hnm hd5 hA hAq
              go_wp2_with fail
              refine SG.out.mono ?_
              rintro e w6 ⟨rfl, e6⟩
              have E6 := Lib.hid (E5.out.trans e6)
              have Z6 := Lib.hid (Z5.out.ext e6)
              clear e6
              go_wp2_with fail
              refine (AG.out w6).mono ?_
              rintro e w7 ⟨ts, a7, c7, i7, rfl, hsl7, e7, hat7, hX7⟩
              have S7 := Lib.hid hsl7
              have HA7 := Lib.hid hat7
              have HX7 := Lib.hid hX7
              have E7 := Lib.hid (E6.out.trans e7)
              have Z7 := Lib.hid (Z6.out.ext e7)
              have s6 := Below.size E6.out
              have lz6 := Z6.out.lt
              have bz := Z7.out
              obtain ⟨z0, z1, z2, z3, y0, y1, y2, y3⟩ := bz
              have lz9 := Z7.out.lt
              clear hsl7 hat7 hX7 e7
              go_wp2_with fail
              refine ret4b_set (p := 6) (q := 7) (T := 25) (b := w.heap.size) (y := .int .i64 (i7)) (by kernel_rfl) (fun _ => by kernel_rfl) (fun _ => by kernel_rfl) rfl rfl rfl Z7.out ?_
              intro Z fZ
              have hsz := fZ.sl S7.out (fun b hb e => by have hb' : w6.heap.size ≤ b := hb; omega)
              have hln : ts.length ≤ 1048576 := by obtain ⟨_, _, _, _, _, h3, _⟩ := hsz; exact h3
              refine ⟨.mk 3 0 (bs nm) ts, a7, c7, i7, rfl, Tm.at_iff.2 ⟨hns, _, rfl, Tm.sl_mono (fun b hb => by have hb' : w6.heap.size ≤ b := hb; show w.heap.size ≤ b; omega) (Agree.refl _) hsz⟩, ((Fr.of_ext E7.out).trans fZ).toExt (fun q hq h => by omega), ?_, ?_⟩
              · rw [HXN.out]
                have h := HA7.out
                cases e : argsS (spP d) 5 [] q with
                | none => rw [e] at h; exact h
                | some p => obtain ⟨ks, r'⟩ := p; rw [e] at h; exact h
              · intro u r' h
                rw [HXN.out] at h
                cases e : argsS (spP d) 5 [] q with
                | none => rw [e] at h; cases h
                | some p =>
                  obtain ⟨ks, r''⟩ := p
                  rw [e] at h
                  have := HX7.out ks r'' e
                  subst this
                  cases h
                  rfl
      · have u3 : (b.toNat : Int) < 65 := by omega
        have h91 : ¬ b = 91 := by
          rintro rfl
          exact k1 (by decide)
        cases hdg : hdB digitB (some (b :: r))
        · have hdb : digitB b = false := hdg
          by_cases e45 : b = 45
          · rw [decide_eq_true e45] at q45
            have p45 : (b.toNat : Int) = 45 := by simpa using q45
            cases hdg2 : hdB digitB (some r)
            · have HST := Lib.hid (show numStart (b :: r) = false by
                simp only [numStart, hdb, Bool.false_or]
                rw [show (b == 45) = true by simpa using e45]
                cases r with
                | nil => rfl
                | cons c q => exact hdg2)
              rw [decide_eq_false h91] at q91
              have p91 : ¬ (b.toNat : Int) = 91 := by simpa using q91
              have hli : ¬ (b = 91 ∧ r.head? ≠ some 93) := fun h => h91 h.1
              have HXX := Lib.hid (show spP (d + 1) (b :: r) = nmS (spP d) (nameP (b :: r)) by
                rw [spP]
                simp only [HU.out, HST.out, Bool.false_eq_true, if_false]
                rw [if_neg hli]
                cases nameP (b :: r) <;> rfl)
              clear hli h91 hu hu2 k1
              clear e45 hdb
              go_enter Tryz.func87, Tryz.ntmps87
              go_wp2_with fail
              refine (DG.out _).mono ?_
              rw [hdg]
              rintro e w1 ⟨rfl, e1⟩
              have E1 := Lib.hid ((Ext.alloc w (.cells #[.int .i64 0, .int .i64 0, .string ⟨#[]⟩, .slice none 0 0] 25)).trans e1)
              have Z1 := Lib.hid (ZB.out.ext e1)
              clear e1
              go_wp2_with fail
              refine (DG2.out w1).mono ?_
              rw [hdg2]
              rintro e w2 ⟨rfl, e2⟩
              have E2 := Lib.hid (E1.out.trans e2)
              have Z2 := Lib.hid (Z1.out.ext e2)
              clear e2
              have NM := Lib.hid (specl1Name hs HAT.out w2)
              go_wp2_with fail
              refine NM.out.mono ?_
              rintro e w5 ⟨i5, rfl, e5, hat5⟩
              have E5 := Lib.hid (E2.out.trans e5)
              have Z5 := Lib.hid (Z2.out.ext e5)
              have HA5 := Lib.hid hat5
              have l5 := hat5.le hs
              clear e5 hat5
              cases hnm : nameP (b :: r) with
              | none =>
                rw [hnm] at HA5 HXX
                have hneg : i5 < 0 := HA5.out.bad.1
                have hge := HA5.out.bad.2
                have HXN := Lib.hid (show spP (d + 1) (b :: r) = none from HXX.out)
                clear hnm
                go_wp2_with fail
                refine (specl1Struct0 (bs []) w5 (by rw [bs_size]; decide)).mono ?_
                rintro e w6 ⟨v6, rfl, hv6, e6⟩
                obtain ⟨a6, c6, hf6⟩ := at_form (hv6 (fun _ => True))
                simp only [Tm.kind, Tm.n, Tm.name, Tm.kids, List.length_nil] at hf6
                have V6 := Lib.hid (hv6 (fun b => w.heap.size ≤ b))
                subst hf6
                have E6 := Lib.hid (E5.out.trans e6)
                have Z6 := Lib.hid (Z5.out.ext e6)
                have bz := Z6.out
                obtain ⟨z0, z1, z2, z3, y0, y1, y2, y3⟩ := bz
                have lz9 := Z6.out.lt
                clear hv6 e6
                go_wp2_with fail
                refine ret4b_set (p := 6) (q := 7) (T := 25) (b := w.heap.size) (y := .int .i64 (i5)) (by kernel_rfl) (fun _ => by kernel_rfl) (fun _ => by kernel_rfl) rfl rfl rfl Z6.out ?_
                intro Z fZ
                rw [HXN.out]
                exact ⟨.mk 3 0 (bs []) [], a6, c6, i5, rfl, own_fr0 fZ V6.out, ((Fr.of_ext E6.out).trans fZ).toExt (fun q hq h => by omega), AtR.no hneg hge, fun u r h => by cases h⟩
              | some p =>
                obtain ⟨nm, r'⟩ := p
                rw [hnm] at HA5 HXX
                have hA := HA5.out
                obtain ⟨n5, rfl, hn5, hd5⟩ := hA.good
                have hns : (bs nm).size ≤ 1048576 := by
                  have := (nameP_len hnm).2
                  simp only [List.length_cons] at this
                  rw [bs_size]
                  omega
                have SG := signX HA5.out 40 40 rfl w5 hs
                cases hp : hdB (isB 40) (some r')
                · have HXN := Lib.hid (show spP (d + 1) (b :: r) = some (sT (bs nm) [], r') by
                    rw [HXX.out]
                    cases r' with
                    | nil => rfl
                    | cons c q =>
                      have hc : ¬ c = 40 := by simpa [hdB, isB] using hp
                      show nameS (spP d) (bs nm) (c :: q) = _
                      simp only [nameS, if_neg hc])
                  have hp' : hdB (isB 40) ((some (nm, r')).map Prod.snd) = false := hp
                  rw [hp'] at SG
                  have SG := Lib.hid SG
                  clear hp hp' hnm hd5 hA
                  go_wp2_with fail
                  refine SG.out.mono ?_
                  rintro e w6 ⟨rfl, e6⟩
                  have E6 := Lib.hid (E5.out.trans e6)
                  have Z6 := Lib.hid (Z5.out.ext e6)
                  clear e6
                  go_wp2_with fail
                  refine (specl1Struct0 (bs nm) w6 hns).mono ?_
                  rintro e w7 ⟨v7, rfl, hv7, e7⟩
                  obtain ⟨a7, c7, hf7⟩ := at_form (hv7 (fun _ => True))
                  simp only [Tm.kind, Tm.n, Tm.name, Tm.kids, List.length_nil] at hf7
                  have V7 := Lib.hid (hv7 (fun b => w.heap.size ≤ b))
                  subst hf7
                  have E7 := Lib.hid (E6.out.trans e7)
                  have Z7 := Lib.hid (Z6.out.ext e7)
                  have bz := Z7.out
                  obtain ⟨z0, z1, z2, z3, y0, y1, y2, y3⟩ := bz
                  have lz9 := Z7.out.lt
                  clear hv7 e7
                  go_wp2_with fail
                  refine ret4b_set (p := 6) (q := 7) (T := 25) (b := w.heap.size) (y := .int .i64 ((n5 : Int))) (by kernel_rfl) (fun _ => by kernel_rfl) (fun _ => by kernel_rfl) rfl rfl rfl Z7.out ?_
                  intro Z fZ
                  rw [HXN.out]
                  exact ⟨.mk 3 0 (bs nm) [], a7, c7, (n5 : Int), rfl, own_fr0 fZ V7.out, ((Fr.of_ext E7.out).trans fZ).toExt (fun q hq h => by omega), HA5.out, fun u r h => by cases h; rfl⟩
                · obtain ⟨q, rfl⟩ : ∃ q, r' = 40 :: q := by
                    cases r' with
                    | nil => cases hp
                    | cons c q => exact ⟨q, by rw [show c = 40 by simpa [hdB, isB] using hp]⟩
                  have HXN := Lib.hid (show spP (d + 1) (b :: r) = (argsS (spP d) 5 [] q).map (fun p => (sT (bs nm) p.1, p.2)) by
                    rw [HXX.out]
                    show nameS (spP d) (bs nm) (40 :: q) = _
                    simp only [nameS, if_true]
                    cases argsS (spP d) 5 [] q <;> rfl)
                  have hp' : hdB (isB 40) ((some (nm, 40 :: q)).map Prod.snd) = true := hp
                  rw [hp'] at SG
                  have SG := Lib.hid SG
                  have hAq : AtR s (some q) ((n5 : Int) + 1) := AtR.next (b := 40) HA5.out
                  have AG := Lib.hid (fun w' => specl1Args d HC.out (by omega) hs hAq w')
                  have lq := hAq.le hs
                  clear hp hp' hnm hd5 hA hAq
                  go_wp2_with fail
                  refine SG.out.mono ?_
                  rintro e w6 ⟨rfl, e6⟩
                  have E6 := Lib.hid (E5.out.trans e6)
                  have Z6 := Lib.hid (Z5.out.ext e6)
                  clear e6
                  go_wp2_with fail
                  refine (AG.out w6).mono ?_
                  rintro e w7 ⟨ts, a7, c7, i7, rfl, hsl7, e7, hat7, hX7⟩
                  have S7 := Lib.hid hsl7
                  have HA7 := Lib.hid hat7
                  have HX7 := Lib.hid hX7
                  have E7 := Lib.hid (E6.out.trans e7)
                  have Z7 := Lib.hid (Z6.out.ext e7)
                  have s6 := Below.size E6.out
                  have lz6 := Z6.out.lt
                  have bz := Z7.out
                  obtain ⟨z0, z1, z2, z3, y0, y1, y2, y3⟩ := bz
                  have lz9 := Z7.out.lt
                  clear hsl7 hat7 hX7 e7
                  go_wp2_with fail
                  refine ret4b_set (p := 6) (q := 7) (T := 25) (b := w.heap.size) (y := .int .i64 (i7)) (by kernel_rfl) (fun _ => by kernel_rfl) (fun _ => by kernel_rfl) rfl rfl rfl Z7.out ?_
                  intro Z fZ
                  have hsz := fZ.sl S7.out (fun b hb e => by have hb' : w6.heap.size ≤ b := hb; omega)
                  have hln : ts.length ≤ 1048576 := by obtain ⟨_, _, _, _, _, h3, _⟩ := hsz; exact h3
                  refine ⟨.mk 3 0 (bs nm) ts, a7, c7, i7, rfl, Tm.at_iff.2 ⟨hns, _, rfl, Tm.sl_mono (fun b hb => by have hb' : w6.heap.size ≤ b := hb; show w.heap.size ≤ b; omega) (Agree.refl _) hsz⟩, ((Fr.of_ext E7.out).trans fZ).toExt (fun q hq h => by omega), ?_, ?_⟩
                  · rw [HXN.out]
                    have h := HA7.out
                    cases e : argsS (spP d) 5 [] q with
                    | none => rw [e] at h; exact h
                    | some p => obtain ⟨ks, r'⟩ := p; rw [e] at h; exact h
                  · intro u r' h
                    rw [HXN.out] at h
                    cases e : argsS (spP d) 5 [] q with
                    | none => rw [e] at h; cases h
                    | some p =>
                      obtain ⟨ks, r''⟩ := p
                      rw [e] at h
                      have := HX7.out ks r'' e
                      subst this
                      cases h
                      rfl
            · have HST := Lib.hid (show numStart (b :: r) = true by
                rw [e45]
                cases r with
                | nil => cases hdg2
                | cons c q =>
                  show (digitB 45 || ((45 : UInt8) == 45 && digitB c)) = true
                  rw [show digitB c = true from hdg2]; rfl)
              have HXX := Lib.hid (show spP (d + 1) (b :: r) = numP (b :: r) by
                rw [spP]
                simp only [HU.out, HST.out, Bool.false_eq_true, if_false, if_true])
              clear hu hu2 k1 h91
              clear e45 hdb
              go_enter Tryz.func87, Tryz.ntmps87
              go_wp2_with fail
              refine (DG.out _).mono ?_
              rw [hdg]
              rintro e w1 ⟨rfl, e1⟩
              have E1 := Lib.hid ((Ext.alloc w (.cells #[.int .i64 0, .int .i64 0, .string ⟨#[]⟩, .slice none 0 0] 25)).trans e1)
              have Z1 := Lib.hid (ZB.out.ext e1)
              clear e1
              go_wp2_with fail
              refine (DG2.out w1).mono ?_
              rw [hdg2]
              rintro e w2 ⟨rfl, e2⟩
              have E2 := Lib.hid (E1.out.trans e2)
              have Z2 := Lib.hid (Z1.out.ext e2)
              clear e2
              go_wp2_with fail
              refine (specl1Number hs HAT.out HST.out w2).mono ?_
              rintro e w5 ⟨t, ta, tc, i5, rfl, hat5, e5, ha5, hX5⟩
              have T5 := Lib.hid hat5
              have A5 := Lib.hid ha5
              have X5 := Lib.hid hX5
              have E5 := Lib.hid (E2.out.trans e5)
              have Z5 := Lib.hid (Z2.out.ext e5)
              have s1 := Below.size E2.out
              have lz1 := Z2.out.lt
              have bz := Z5.out
              obtain ⟨z0, z1, z2, z3, y0, y1, y2, y3⟩ := bz
              have lz9 := Z5.out.lt
              clear hat5 ha5 hX5 e5
              go_wp2_with fail
              refine ret4b_set (p := 6) (q := 7) (T := 25) (b := w.heap.size) (y := .int .i64 (i5)) (by kernel_rfl) (fun _ => by kernel_rfl) (fun _ => by kernel_rfl) rfl rfl rfl Z5.out ?_
              intro Z fZ
              rw [HXX.out]
              exact ⟨t, ta, tc, i5, rfl, Tm.at_mono (fun b hb => by have hb' : w2.heap.size ≤ b := hb; show w.heap.size ≤ b; omega) (Agree.refl _) (fZ.at T5.out (fun b hb e => by have hb' : w2.heap.size ≤ b := hb; omega)), ((Fr.of_ext E5.out).trans fZ).toExt (fun q hq h => by omega), A5.out, X5.out⟩
          · rw [decide_eq_false e45] at q45
            have p45 : ¬ (b.toNat : Int) = 45 := by simpa using q45
            have HST := Lib.hid (show numStart (b :: r) = false by
              simp only [numStart, hdb, Bool.false_or]
              rw [show (b == 45) = false by simpa using e45]
              rfl)
            rw [decide_eq_false h91] at q91
            have p91 : ¬ (b.toNat : Int) = 91 := by simpa using q91
            have hli : ¬ (b = 91 ∧ r.head? ≠ some 93) := fun h => h91 h.1
            have HXX := Lib.hid (show spP (d + 1) (b :: r) = nmS (spP d) (nameP (b :: r)) by
              rw [spP]
              simp only [HU.out, HST.out, Bool.false_eq_true, if_false]
              rw [if_neg hli]
              cases nameP (b :: r) <;> rfl)
            clear hli h91 hu hu2 k1
            clear e45 hdb
            go_enter Tryz.func87, Tryz.ntmps87
            go_wp2_with fail
            refine (DG.out _).mono ?_
            rw [hdg]
            rintro e w1 ⟨rfl, e1⟩
            have E1 := Lib.hid ((Ext.alloc w (.cells #[.int .i64 0, .int .i64 0, .string ⟨#[]⟩, .slice none 0 0] 25)).trans e1)
            have Z1 := Lib.hid (ZB.out.ext e1)
            clear e1
            have NM := Lib.hid (specl1Name hs HAT.out w1)
            go_wp2_with fail
            refine NM.out.mono ?_
            rintro e w5 ⟨i5, rfl, e5, hat5⟩
            have E5 := Lib.hid (E1.out.trans e5)
            have Z5 := Lib.hid (Z1.out.ext e5)
            have HA5 := Lib.hid hat5
            have l5 := hat5.le hs
            clear e5 hat5
            cases hnm : nameP (b :: r) with
            | none =>
              rw [hnm] at HA5 HXX
              have hneg : i5 < 0 := HA5.out.bad.1
              have hge := HA5.out.bad.2
              have HXN := Lib.hid (show spP (d + 1) (b :: r) = none from HXX.out)
              clear hnm
              go_wp2_with fail
              refine (specl1Struct0 (bs []) w5 (by rw [bs_size]; decide)).mono ?_
              rintro e w6 ⟨v6, rfl, hv6, e6⟩
              obtain ⟨a6, c6, hf6⟩ := at_form (hv6 (fun _ => True))
              simp only [Tm.kind, Tm.n, Tm.name, Tm.kids, List.length_nil] at hf6
              have V6 := Lib.hid (hv6 (fun b => w.heap.size ≤ b))
              subst hf6
              have E6 := Lib.hid (E5.out.trans e6)
              have Z6 := Lib.hid (Z5.out.ext e6)
              have bz := Z6.out
              obtain ⟨z0, z1, z2, z3, y0, y1, y2, y3⟩ := bz
              have lz9 := Z6.out.lt
              clear hv6 e6
              go_wp2_with fail
              refine ret4b_set (p := 6) (q := 7) (T := 25) (b := w.heap.size) (y := .int .i64 (i5)) (by kernel_rfl) (fun _ => by kernel_rfl) (fun _ => by kernel_rfl) rfl rfl rfl Z6.out ?_
              intro Z fZ
              rw [HXN.out]
              exact ⟨.mk 3 0 (bs []) [], a6, c6, i5, rfl, own_fr0 fZ V6.out, ((Fr.of_ext E6.out).trans fZ).toExt (fun q hq h => by omega), AtR.no hneg hge, fun u r h => by cases h⟩
            | some p =>
              obtain ⟨nm, r'⟩ := p
              rw [hnm] at HA5 HXX
              have hA := HA5.out
              obtain ⟨n5, rfl, hn5, hd5⟩ := hA.good
              have hns : (bs nm).size ≤ 1048576 := by
                have := (nameP_len hnm).2
                simp only [List.length_cons] at this
                rw [bs_size]
                omega
              have SG := signX HA5.out 40 40 rfl w5 hs
              cases hp : hdB (isB 40) (some r')
              · have HXN := Lib.hid (show spP (d + 1) (b :: r) = some (sT (bs nm) [], r') by
                  rw [HXX.out]
                  cases r' with
                  | nil => rfl
                  | cons c q =>
                    have hc : ¬ c = 40 := by simpa [hdB, isB] using hp
                    show nameS (spP d) (bs nm) (c :: q) = _
                    simp only [nameS, if_neg hc])
                have hp' : hdB (isB 40) ((some (nm, r')).map Prod.snd) = false := hp
                rw [hp'] at SG
                have SG := Lib.hid SG
                clear hp hp' hnm hd5 hA
                go_wp2_with fail
                refine SG.out.mono ?_
                rintro e w6 ⟨rfl, e6⟩
                have E6 := Lib.hid (E5.out.trans e6)
                have Z6 := Lib.hid (Z5.out.ext e6)
                clear e6
                go_wp2_with fail
                refine (specl1Struct0 (bs nm) w6 hns).mono ?_
                rintro e w7 ⟨v7, rfl, hv7, e7⟩
                obtain ⟨a7, c7, hf7⟩ := at_form (hv7 (fun _ => True))
                simp only [Tm.kind, Tm.n, Tm.name, Tm.kids, List.length_nil] at hf7
                have V7 := Lib.hid (hv7 (fun b => w.heap.size ≤ b))
                subst hf7
                have E7 := Lib.hid (E6.out.trans e7)
                have Z7 := Lib.hid (Z6.out.ext e7)
                have bz := Z7.out
                obtain ⟨z0, z1, z2, z3, y0, y1, y2, y3⟩ := bz
                have lz9 := Z7.out.lt
                clear hv7 e7
                go_wp2_with fail
                refine ret4b_set (p := 6) (q := 7) (T := 25) (b := w.heap.size) (y := .int .i64 ((n5 : Int))) (by kernel_rfl) (fun _ => by kernel_rfl) (fun _ => by kernel_rfl) rfl rfl rfl Z7.out ?_
                intro Z fZ
                rw [HXN.out]
                exact ⟨.mk 3 0 (bs nm) [], a7, c7, (n5 : Int), rfl, own_fr0 fZ V7.out, ((Fr.of_ext E7.out).trans fZ).toExt (fun q hq h => by omega), HA5.out, fun u r h => by cases h; rfl⟩
              · obtain ⟨q, rfl⟩ : ∃ q, r' = 40 :: q := by
                  cases r' with
                  | nil => cases hp
                  | cons c q => exact ⟨q, by rw [show c = 40 by simpa [hdB, isB] using hp]⟩
                have HXN := Lib.hid (show spP (d + 1) (b :: r) = (argsS (spP d) 5 [] q).map (fun p => (sT (bs nm) p.1, p.2)) by
                  rw [HXX.out]
                  show nameS (spP d) (bs nm) (40 :: q) = _
                  simp only [nameS, if_true]
                  cases argsS (spP d) 5 [] q <;> rfl)
                have hp' : hdB (isB 40) ((some (nm, 40 :: q)).map Prod.snd) = true := hp
                rw [hp'] at SG
                have SG := Lib.hid SG
                have hAq : AtR s (some q) ((n5 : Int) + 1) := AtR.next (b := 40) HA5.out
                have AG := Lib.hid (fun w' => specl1Args d HC.out (by omega) hs hAq w')
                have lq := hAq.le hs
                clear hp hp' hnm hd5 hA hAq
                go_wp2_with fail
                refine SG.out.mono ?_
                rintro e w6 ⟨rfl, e6⟩
                have E6 := Lib.hid (E5.out.trans e6)
                have Z6 := Lib.hid (Z5.out.ext e6)
                clear e6
                go_wp2_with fail
                refine (AG.out w6).mono ?_
                rintro e w7 ⟨ts, a7, c7, i7, rfl, hsl7, e7, hat7, hX7⟩
                have S7 := Lib.hid hsl7
                have HA7 := Lib.hid hat7
                have HX7 := Lib.hid hX7
                have E7 := Lib.hid (E6.out.trans e7)
                have Z7 := Lib.hid (Z6.out.ext e7)
                have s6 := Below.size E6.out
                have lz6 := Z6.out.lt
                have bz := Z7.out
                obtain ⟨z0, z1, z2, z3, y0, y1, y2, y3⟩ := bz
                have lz9 := Z7.out.lt
                clear hsl7 hat7 hX7 e7
                go_wp2_with fail
                refine ret4b_set (p := 6) (q := 7) (T := 25) (b := w.heap.size) (y := .int .i64 (i7)) (by kernel_rfl) (fun _ => by kernel_rfl) (fun _ => by kernel_rfl) rfl rfl rfl Z7.out ?_
                intro Z fZ
                have hsz := fZ.sl S7.out (fun b hb e => by have hb' : w6.heap.size ≤ b := hb; omega)
                have hln : ts.length ≤ 1048576 := by obtain ⟨_, _, _, _, _, h3, _⟩ := hsz; exact h3
                refine ⟨.mk 3 0 (bs nm) ts, a7, c7, i7, rfl, Tm.at_iff.2 ⟨hns, _, rfl, Tm.sl_mono (fun b hb => by have hb' : w6.heap.size ≤ b := hb; show w.heap.size ≤ b; omega) (Agree.refl _) hsz⟩, ((Fr.of_ext E7.out).trans fZ).toExt (fun q hq h => by omega), ?_, ?_⟩
                · rw [HXN.out]
                  have h := HA7.out
                  cases e : argsS (spP d) 5 [] q with
                  | none => rw [e] at h; exact h
                  | some p => obtain ⟨ks, r'⟩ := p; rw [e] at h; exact h
                · intro u r' h
                  rw [HXN.out] at h
                  cases e : argsS (spP d) 5 [] q with
                  | none => rw [e] at h; cases h
                  | some p =>
                    obtain ⟨ks, r''⟩ := p
                    rw [e] at h
                    have := HX7.out ks r'' e
                    subst this
                    cases h
                    rfl
        · have HST := Lib.hid (show numStart (b :: r) = true by
            have : digitB b = true := hdg
            simp only [numStart, this, Bool.true_or])
          have HXX := Lib.hid (show spP (d + 1) (b :: r) = numP (b :: r) by
            rw [spP]
            simp only [HU.out, HST.out, Bool.false_eq_true, if_false, if_true])
          clear hu hu2 k1 h91
          go_enter Tryz.func87, Tryz.ntmps87
          go_wp2_with fail
          refine (DG.out _).mono ?_
          rw [hdg]
          rintro e w1 ⟨rfl, e1⟩
          have E1 := Lib.hid ((Ext.alloc w (.cells #[.int .i64 0, .int .i64 0, .string ⟨#[]⟩, .slice none 0 0] 25)).trans e1)
          have Z1 := Lib.hid (ZB.out.ext e1)
          clear e1
          go_wp2_with fail
          refine (specl1Number hs HAT.out HST.out w1).mono ?_
          rintro e w5 ⟨t, ta, tc, i5, rfl, hat5, e5, ha5, hX5⟩
          have T5 := Lib.hid hat5
          have A5 := Lib.hid ha5
          have X5 := Lib.hid hX5
          have E5 := Lib.hid (E1.out.trans e5)
          have Z5 := Lib.hid (Z1.out.ext e5)
          have s1 := Below.size E1.out
          have lz1 := Z1.out.lt
          have bz := Z5.out
          obtain ⟨z0, z1, z2, z3, y0, y1, y2, y3⟩ := bz
          have lz9 := Z5.out.lt
          clear hat5 ha5 hX5 e5
          go_wp2_with fail
          refine ret4b_set (p := 6) (q := 7) (T := 25) (b := w.heap.size) (y := .int .i64 (i5)) (by kernel_rfl) (fun _ => by kernel_rfl) (fun _ => by kernel_rfl) rfl rfl rfl Z5.out ?_
          intro Z fZ
          rw [HXX.out]
          exact ⟨t, ta, tc, i5, rfl, Tm.at_mono (fun b hb => by have hb' : w1.heap.size ≤ b := hb; show w.heap.size ≤ b; omega) (Agree.refl _) (fZ.at T5.out (fun b hb e => by have hb' : w1.heap.size ≤ b := hb; omega)), ((Fr.of_ext E5.out).trans fZ).toExt (fun q hq h => by omega), A5.out, X5.out⟩
    · have hu2 : 65 ≤ b.toNat ∧ b.toNat ≤ 90 := by simpa [isUp] using hu
      obtain ⟨k1, k2⟩ := hu2
      have u3 : ¬ (b.toNat : Int) < 65 := by omega
      have u4 : ¬ (90 : Int) < b.toNat := by omega
      have hw : IntKind.u8.wrap ((b.toNat : Int) - 65) = (b.toNat : Int) - 65 := by rw [IntKind.wrap_u8]; omega
      have HXX := Lib.hid (show spP (d + 1) (b :: r) = some (vT b, r) by rw [spP]; simp only [hu, if_true])
      clear hu
      go_enter Tryz.func87, Tryz.ntmps87
      go_wp2_with fail
      refine (specl1Var _ _).mono ?_
      rintro e w5 ⟨v5, rfl, hv5, e5⟩
      obtain ⟨a5, c5, hf5⟩ := at_form (hv5 (fun _ => True))
      simp only [Tm.kind, Tm.n, Tm.name, Tm.kids, List.length_nil] at hf5
      have V5 := Lib.hid (hv5 (fun b => w.heap.size ≤ b))
      subst hf5
      have E5 := Lib.hid ((Ext.alloc w (.cells #[.int .i64 0, .int .i64 0, .string ⟨#[]⟩, .slice none 0 0] 25)).trans e5)
      have Z5 := Lib.hid (ZB.out.ext e5)
      have bz := Z5.out
      obtain ⟨z0, z1, z2, z3, y0, y1, y2, y3⟩ := bz
      have lz9 := Z5.out.lt
      clear hv5 e5
      go_wp2_with fail
      refine ret4b_set (p := 6) (q := 7) (T := 25) (b := w.heap.size) (y := .int .i64 ((n : Int) + 1)) (by kernel_rfl) (fun _ => by kernel_rfl) (fun _ => by kernel_rfl) rfl rfl rfl Z5.out ?_
      intro Z fZ
      rw [HXX.out]
      exact ⟨vT b, a5, c5, (n : Int) + 1, rfl, own_fr0 fZ V5.out, ((Fr.of_ext E5.out).trans fZ).toExt (fun q hq h => by omega), HAN.out, fun u r h => by cases h; rfl⟩
/-- l1Parse, with any depth -/
theorem specl1Parse : ∀ d : Nat, d ≤ 100 → SpC d
  | 0, _ => spc_zero
  | d + 1, h => spc_succ d (by omega) (specl1Parse d (by omega))
end Go.Proofs.YtognkaebiafgbaaGreatDoor
