/-
  The reference's readers: l1Items.
-/
import Derived.Test.YtognkaebiafgbaaGreatDoorMp44
namespace Go.Proofs.YtognkaebiafgbaaGreatDoor
open Go.RowKit
set_option linter.unusedVariables false

theorem items_bar {f : List UInt8 → Option (Tm × List UInt8)} {m : Nat} {acc : List Tm} {r q r' : List UInt8} {k tl : Tm} (h : f r = some (k, 124 :: q)) (h2 : f q = some (tl, 93 :: r')) : itemsS f (m + 1) acc r = some (chainT (acc ++ [k]) tl, r') := by
  rw [itemsS, h]; simp [h2]
theorem items_bar_no {f : List UInt8 → Option (Tm × List UInt8)} {m : Nat} {acc : List Tm} {r q : List UInt8} {k : Tm} (h : f r = some (k, 124 :: q)) (h2 : hdB (isB 93) ((f q).map Prod.snd) = false) : itemsS f (m + 1) acc r = none := by
  rw [itemsS, h]
  simp only [if_true]
  cases h3 : f q with
  | none => rfl
  | some p =>
    obtain ⟨k, y⟩ := p
    cases y with
    | nil => rfl
    | cons c y =>
      rw [h3] at h2
      have n1 : ¬ c = 93 := by simpa [hdB, isB] using h2
      simp only [if_neg n1]
theorem items_end {f : List UInt8 → Option (Tm × List UInt8)} {m : Nat} {acc : List Tm} {r r' : List UInt8} {k : Tm} (h : f r = some (k, 93 :: r')) : itemsS f (m + 1) acc r = some (chainT (acc ++ [k]) (sT nilN []), r') := by
  rw [itemsS, h]; simp
theorem items_comma {f : List UInt8 → Option (Tm × List UInt8)} {m : Nat} {acc : List Tm} {r r' : List UInt8} {k : Tm} (h : f r = some (k, 44 :: r')) : itemsS f (m + 1) acc r = itemsS f m (acc ++ [k]) r' := by
  rw [itemsS, h]; simp
theorem items_fail {f : List UInt8 → Option (Tm × List UInt8)} {m : Nat} {acc : List Tm} {r : List UInt8} (h0 : hdB (isB 124) ((f r).map Prod.snd) = false) (h1 : hdB (isB 93) ((f r).map Prod.snd) = false) (h2 : hdB (isB 44) ((f r).map Prod.snd) = false) : itemsS f (m + 1) acc r = none := by
  rw [itemsS]
  cases h : f r with
  | none => rfl
  | some p =>
    obtain ⟨k, q⟩ := p
    cases q with
    | nil => rfl
    | cons c q =>
      rw [h] at h0 h1 h2
      have n0 : ¬ c = 124 := by simpa [hdB, isB] using h0
      have n1 : ¬ c = 93 := by simpa [hdB, isB] using h1
      have n2 : ¬ c = 44 := by simpa [hdB, isB] using h2
      simp only [if_neg n0, if_neg n1, if_neg n2]
theorem AtR.bump {s : ByteArray} {f : List UInt8 → Option (Tm × List UInt8)} {r r' : List UInt8} {c : UInt8} {k : Tm} {i : Int} (h : AtR s ((f r).map Prod.snd) i) (hq : f r = some (k, c :: r')) : AtR s (some r') (i + 1) := by
  rw [hq] at h
  exact AtR.next (b := c) h
/-- the end of a reader that fails -/
theorem SpTm.fail {s : ByteArray} {w Z : World} {e : Ending} (he : e = .returned (.tuple #[.agg #[.int .i64 0, .int .i64 0, .string ⟨#[]⟩, .slice none 0 0], .int .i64 (-1)])) (hx : Ext w Z) : SpTm s none w e Z :=
  ⟨zTm, none, 0, -1, he, at_zero _ _ _ _ _ (by decide), hx, AtR.no (by decide) (by decide), fun u r h => by cases h⟩
set_option maxRecDepth 100000 in
set_option maxHeartbeats 4000000 in
theorem specl1Items (d : Nat) (hC : SpC d) (hd : d ≤ 100) {s : ByteArray} {r0 : List UInt8} {i0 : Int} (hs : s.size ≤ 1048576) (hat : AtR s (some r0) i0) (w : World) :
    Calls Tryz.prog 128 #[.string s, .int .i64 i0, .int .i64 d] w (SpTm s (itemsS (spP d) 121 [] r0) w) := by
  obtain ⟨X, hX⟩ : ∃ X, itemsS (spP d) 121 [] r0 = X := ⟨_, rfl⟩
  rw [hX]
  have HX0 := Lib.hid hX
  have HC := Lib.hid hC
  have HA0 := Lib.hid hat
  obtain ⟨ti, hi, hz0, hz1, hz2⟩ := info_parts info_term3
  have HI := Lib.hid hi
  have HZ0 := Lib.hid hz0
  have HZ1 := Lib.hid hz1
  have HZ2 := Lib.hid hz2
  clear hX hC hat hi hz0 hz1 hz2
  go_enter Tryz.func128, Tryz.ntmps128
  go_wp2_with fail
  refine (specl1Struct0 ⟨#[91, 93]⟩ _ (by decide)).mono ?_
  rintro e w3 ⟨v3, rfl, hv3, e3⟩
  obtain ⟨a0, c0, hf0⟩ := at_form (hv3 (fun b => w.heap.size + 1 ≤ b))
  simp only [Tm.kind, Tm.n, Tm.name, Tm.kids, List.length_nil] at hf0
  subst hf0
  have HN0 := Lib.hid (show ∀ S w', Tm.at S w' (sT nilN []) (.agg #[.int .i64 3, .int .i64 0, .string ⟨#[91, 93]⟩, .slice a0 0 c0]) from fun S w' => by
    have h0 := hv3 (fun _ => False)
    exact Tm.at_mono (S := fun _ => False) (fun _ h => h.elim) (fun _ _ _ h => h.elim) h0)
  have E3 := Lib.hid (((Ext.alloc w (.cells #[.int .i64 0, .int .i64 0, .string ⟨#[]⟩, .slice none 0 0] 25)).trans (Ext.alloc _ (.cells #[] 25))).trans e3)
  have s3 : w.heap.size + 2 ≤ w3.heap.size := by have := Below.size e3; simpa using this
  have HZB3 := Lib.hid ((((BoxT.new w (.int .i64 0) (.int .i64 0) (.string ⟨#[]⟩) (.slice none 0 0) 25 rfl).ext (Ext.alloc _ (.cells #[] 25))).ext e3).ext (Ext.alloc w3 (.cells #[.int .i64 3, .int .i64 0, .string ⟨#[91, 93]⟩, .slice a0 0 c0] 25)))
  have HA3 := Lib.hid (((AppI.empty (w := w.alloc (.cells #[.int .i64 0, .int .i64 0, .string ⟨#[]⟩, .slice none 0 0] 25)) (T := 25) (Z := fun b => w.heap.size + 1 ≤ b ∧ b ≠ w3.heap.size) rfl ⟨by simp, by simp; omega⟩).ext e3).ext (Ext.alloc w3 (.cells #[.int .i64 3, .int .i64 0, .string ⟨#[91, 93]⟩, .slice a0 0 c0] 25)))
  have HTB3 := Lib.hid (BoxT.new w3 (.int .i64 3) (.int .i64 0) (.string ⟨#[91, 93]⟩) (.slice a0 0 c0) 25 rfl)
  have E4 := Lib.hid (E3.out.trans (Ext.alloc w3 (.cells #[.int .i64 3, .int .i64 0, .string ⟨#[91, 93]⟩, .slice a0 0 c0] 25)))
  clear hv3 e3
  go_wp2_with fail
  go_loopg [1, 8] 121 (fun g iv lv wr => ∃ (acc : List Tm) (av : Option Addr) (cv : Nat) (i : Int) (r : List UInt8), iv = .int .i64 i ∧ lv = .slice av acc.length cv ∧ acc.length + g = 121 ∧
    Hid (AppI 25 (fun b => w.heap.size + 1 ≤ b ∧ b ≠ w3.heap.size) acc (.slice av acc.length cv) wr) ∧ Hid (Ext w wr) ∧ Hid (BoxT wr w.heap.size (.int .i64 0) (.int .i64 0) (.string ⟨#[]⟩) (.slice none 0 0)) ∧ Hid (BoxT wr w3.heap.size (.int .i64 3) (.int .i64 0) (.string ⟨#[91, 93]⟩) (.slice a0 0 c0)) ∧
    Hid (AtR s (some r) i) ∧ Hid (itemsS (spP d) g acc r = X))
  case atStart =>
    refine ⟨[], _, _, i0, r0, rfl, rfl, rfl, Lib.hid ?_, E4, HZB3, HTB3, HA0, HX0⟩
    have h := HA3.out
    simpa using h
  case round =>
    obtain ⟨acc, av, cv, i, r, rfl, rfl, hg, HA, HE, HZ, HTB, HAt, HXr⟩ := hrel
    have lz := HZ.out.lt
    have lt := HTB.out.lt
    cases gk with
    | zero =>
      have hal : acc.length = 121 := by omega
      have HN := Lib.hid (show X = none from HXr.out.symm)
      have hgt : ¬ (acc.length : Int) ≤ 120 := by omega
      have z := HZ.out
      obtain ⟨z0, z1, z2, z3, y0, y1, y2, y3⟩ := z
      go_wp2_with fail
      refine ret4b_set (p := 6) (q := 7) (T := 25) (b := w.heap.size) (v0 := .int .i64 0) (v1 := .int .i64 0) (v2 := .string ⟨#[]⟩) (v3 := .slice none 0 0) (y := .int .i64 (-1)) (by kernel_rfl) (fun _ => by kernel_rfl) (fun _ => by kernel_rfl) rfl rfl rfl HZ.out ?_
      intro Z fZ
      rw [HN.out]
      exact SpTm.fail rfl (((Fr.of_ext HE.out).trans fZ).toExt (fun q hq h => by omega))
    | succ m =>
      have hle : (acc.length : Int) ≤ 120 := by omega
      have hlc : acc.length < 1048576 := by omega
      have sE : w.heap.size ≤ wr.heap.size := Below.size HE.out
      have C := Lib.hid (HC.out s r i wr hs HAt.out)
      go_wp2_with fail
      refine C.out.mono ?_
      rintro e w1 ⟨t, ta, tc, i1, rfl, ht, e1, hat1, hXt⟩
      have E1 := Lib.hid e1
      have HAt1 := Lib.hid hat1
      have HXt := Lib.hid hXt
      have l1 := hat1.le hs
      have s1 : wr.heap.size ≤ w1.heap.size := Below.size e1
      have e12 : Ext wr (w1.alloc (.cells #[.int .i64 t.kind, .int .i64 t.n, .string t.name, .slice ta t.kids.length tc] 25)) := e1.trans (Ext.alloc _ _)
      have HA1 := Lib.hid (HA.out.ext e12)
      have HV1 := Lib.hid (HA.out.apart (fun b hb => by omega) (Tm.at_ext (Ext.alloc w1 (.cells #[.int .i64 t.kind, .int .i64 t.n, .string t.name, .slice ta t.kids.length tc] 25)) ht))
      have hnew : ∀ b, (w1.alloc (.cells #[.int .i64 t.kind, .int .i64 t.n, .string t.name, .slice ta t.kids.length tc] 25)).heap.size ≤ b → w.heap.size + 1 ≤ b ∧ b ≠ w3.heap.size := fun b hb => by simp at hb; omega
      have HN := Lib.hid hnew
      have E12 := Lib.hid e12
      clear ht e1 hat1 hXt e12 hnew
      go_wp2_with (at_builtin; refine wpList_append_tmN rfl (.tmp 24) (.tmp 26) 23 rfl (fun b => w.heap.size + 1 ≤ b ∧ b ≠ w3.heap.size) 25 ti Tryz.underlying23 HI.out HZ0.out HZ1.out HZ2.out (.slice av acc.length cv) acc t ta tc rfl HA1.out rfl HV1.out hlc HN.out (by simp) ?_; intro av2 cv2 w2 hA2 hf2; have A2 := Lib.hid hA2; have F2 := Lib.hid hf2; clear hA2 hf2)
      have hl2 : (acc ++ [t]).length = acc.length + 1 := by simp
      have E02 := Lib.hid (show Ext w w2 from ((Fr.of_ext (M := fun b => w.heap.size + 1 ≤ b ∧ b ≠ w3.heap.size) (HE.out.trans E12.out)).trans F2.out).toExt (fun q hq h => by have := h.1; omega))
      have T2 := Lib.hid ((HTB.out.ext E12.out).fr F2.out (fun h => h.2 rfl))
      have Z2 := Lib.hid ((HZ.out.ext E12.out).fr F2.out (fun h => by have := h.1; omega))
      have lz2 := Z2.out.lt
      have lt2 := T2.out.lt
      have SG := signX HAt1.out 124 124 rfl w2 hs
      clear E12 F2 HA1 HV1 HA HZ HTB HE E1 C
      cases hb : hdB (isB 124) ((spP d r).map Prod.snd)
      · rw [hb] at SG
        have SG := Lib.hid SG
        have SG2 := fun w4 => signX HAt1.out 93 93 rfl w4 hs
        cases hk : hdB (isB 93) ((spP d r).map Prod.snd)
        · rw [hk] at SG2
          have SG2 := Lib.hid SG2
          have SG3 := fun w4 => signX HAt1.out 44 44 rfl w4 hs
          cases hm : hdB (isB 44) ((spP d r).map Prod.snd)
          · rw [hm] at SG3
            have SG3 := Lib.hid SG3
            have HXN := Lib.hid (show X = none by rw [← HXr.out]; exact items_fail hb hk hm)
            clear hb hk hm
            go_wp2_with fail
            refine SG.out.mono ?_
            rintro e w4 ⟨rfl, e4⟩
            have E4 := Lib.hid e4
            clear e4
            go_wp2_with fail
            refine (SG2.out w4).mono ?_
            rintro e w5 ⟨rfl, e5⟩
            have E5 := Lib.hid (E4.out.trans e5)
            clear e5
            go_wp2_with fail
            refine (SG3.out w5).mono ?_
            rintro e w6 ⟨rfl, e6⟩
            have e26 := E5.out.trans e6
            have E6 := Lib.hid (E02.out.trans e26)
            have Z6 := Lib.hid (Z2.out.ext e26)
            have bz := Z6.out
            obtain ⟨z0, z1, z2, z3, y0, y1, y2, y3⟩ := bz
            have lz6 := Z6.out.lt
            clear e6 e26
            go_wp2_with fail
            refine ret4b_set (p := 6) (q := 7) (T := 25) (b := w.heap.size) (v0 := .int .i64 0) (v1 := .int .i64 0) (v2 := .string ⟨#[]⟩) (v3 := .slice none 0 0) (y := .int .i64 (-1)) (by kernel_rfl) (fun _ => by kernel_rfl) (fun _ => by kernel_rfl) rfl rfl rfl Z6.out ?_
            intro Z fZ
            rw [HXN.out]
            exact SpTm.fail rfl (((Fr.of_ext E6.out).trans fZ).toExt (fun q hq h => by omega))
          · rw [hm] at SG3
            have SG3 := Lib.hid SG3
            obtain ⟨k, r', hq⟩ := hd_yes hm
            have htk := HXt.out k _ hq
            subst htk
            have HXn := Lib.hid (show itemsS (spP d) m (acc ++ [t]) r' = X by rw [← HXr.out, items_comma hq])
            have HAn := Lib.hid (HAt1.out.bump hq)
            clear hb hk hm hq
            go_wp2_with fail
            refine SG.out.mono ?_
            rintro e w4 ⟨rfl, e4⟩
            have E4 := Lib.hid e4
            clear e4
            go_wp2_with fail
            refine (SG2.out w4).mono ?_
            rintro e w5 ⟨rfl, e5⟩
            have E5 := Lib.hid (E4.out.trans e5)
            clear e5
            go_wp2_with fail
            refine (SG3.out w5).mono ?_
            rintro e w6 ⟨rfl, e6⟩
            have E6 := Lib.hid (E5.out.trans e6)
            clear e6
            go_wp2_with fail
            go_roundg m
            case measure => omega
            case rel =>
              exact ⟨acc ++ [t], av2, cv2, i1 + 1, r', rfl, by rw [hl2], by rw [hl2]; omega, Lib.hid (by rw [hl2]; exact A2.out.ext E6.out), Lib.hid (E02.out.trans E6.out), Lib.hid (Z2.out.ext E6.out), Lib.hid (T2.out.ext E6.out), HAn, HXn⟩
        · rw [hk] at SG2
          have SG2 := Lib.hid SG2
          obtain ⟨k, r', hq⟩ := hd_yes hk
          have htk := HXt.out k _ hq
          subst htk
          have HXn := Lib.hid (show X = some (chainT (acc ++ [t]) (sT nilN []), r') by rw [← HXr.out, items_end hq])
          have HAn := Lib.hid (HAt1.out.bump hq)
          clear hb hk hq
          go_wp2_with fail
          refine SG.out.mono ?_
          rintro e w4 ⟨rfl, e4⟩
          have E4 := Lib.hid e4
          clear e4
          go_wp2_with fail
          refine (SG2.out w4).mono ?_
          rintro e w5 ⟨rfl, e5⟩
          have E5 := Lib.hid (E4.out.trans e5)
          have A5 := Lib.hid (A2.out.ext E5.out)
          have Z5 := Lib.hid (Z2.out.ext E5.out)
          have T5 := Lib.hid (T2.out.ext E5.out)
          have E05 := Lib.hid (E02.out.trans E5.out)
          have bx := T5.out
          obtain ⟨m0, m1, m2, m3, n0, n1, n2, n3⟩ := bx
          clear e5
          have hsl := (A5.out).sl (by rw [hl2]; omega)
          have CH := Lib.hid (specl1Chain (tl := sT nilN []) (a := a0) (c := c0) hsl (HN0.out (fun b => w.heap.size + 1 ≤ b ∧ b ≠ w3.heap.size) w5))
          clear hsl
          go_wp2_with fail
          refine CH.out.mono ?_
          rintro e w9 ⟨a9, c9, rfl, h9, e9⟩
          have H9 := Lib.hid h9
          have E9 := Lib.hid (E05.out.trans e9)
          have s9 := Below.size e9
          have sk := Below.size E05.out
          have Z9 := Lib.hid (Z5.out.ext e9)
          have lz9 := Z9.out.lt
          have bz := Z9.out
          obtain ⟨z0, z1, z2, z3, y0, y1, y2, y3⟩ := bz
          clear h9 e9
          go_wp2_with fail
          refine ret4b_set (p := 6) (q := 7) (T := 25) (b := w.heap.size) (y := .int .i64 (i1 + 1)) (by kernel_rfl) (fun _ => by kernel_rfl) (fun _ => by kernel_rfl) rfl rfl rfl Z9.out ?_
          intro Z fZ
          rw [HXn.out]
          have hz9 := fZ.at H9.out (fun b hb e => by rcases hb with hb | hb; (have := hb.1; omega); (have hb' : w5.heap.size ≤ b := hb; have := Z5.out.lt; omega))
          exact ⟨chainT (acc ++ [t]) (sT nilN []), a9, c9, i1 + 1, rfl, Tm.at_mono (fun b hb => by rcases hb with hb | hb; (have := hb.1; show w.heap.size ≤ b; omega); (have hb' : w5.heap.size ≤ b := hb; show w.heap.size ≤ b; omega)) (Agree.refl _) hz9, ((Fr.of_ext E9.out).trans fZ).toExt (fun q hq h => by omega), HAn.out, fun u r h => by cases h; rfl⟩
      · rw [hb] at SG
        have SG := Lib.hid SG
        obtain ⟨k, q, hq⟩ := hd_yes hb
        have htk := HXt.out k _ hq
        subst htk
        have HQ := Lib.hid hq
        have HAq := Lib.hid (HAt1.out.bump hq)
        have l2 := HAq.out.le hs
        clear hb hq
        go_wp2_with fail
        refine SG.out.mono ?_
        rintro e w4 ⟨rfl, e4⟩
        have E4 := Lib.hid e4
        have C2 := Lib.hid (HC.out s q (i1 + 1) w4 hs HAq.out)
        have s4 := Below.size e4
        clear e4
        go_wp2_with fail
        refine C2.out.mono ?_
        rintro e w5 ⟨tl, ta2, tc2, i2, rfl, ht2, e5, hat2, hXt2⟩
        have e25 := E4.out.trans e5
        have T5 := Lib.hid (T2.out.ext e25)
        have Z5 := Lib.hid (Z2.out.ext e25)
        have A5 := Lib.hid (A2.out.ext e25)
        have E05 := Lib.hid (E02.out.trans e25)
        have HT2 := Lib.hid ht2
        have HAt2 := Lib.hid hat2
        have HXt2 := Lib.hid hXt2
        have l3 := hat2.le hs
        have lt5 := T5.out.lt
        have lz5 := Z5.out.lt
        have bx := T5.out
        obtain ⟨m0, m1, m2, m3, n0, n1, n2, n3⟩ := bx
        clear ht2 e5 e25 hat2 hXt2
        go_upto_region 8 with (fail)
        obtain ⟨wP, hwP⟩ : ∃ z, z = ((((w5.setCell ⟨w3.heap.size, 0, none⟩ (.int .i64 tl.kind)).setCell ⟨w3.heap.size, 1, none⟩ (.int .i64 tl.n)).setCell ⟨w3.heap.size, 2, none⟩ (.string tl.name)).setCell ⟨w3.heap.size, 3, none⟩ (.slice ta2 tl.kids.length tc2)) := ⟨_, rfl⟩
        have fP : Fr (fun b => b = w3.heap.size) w5 wP := by rw [hwP]; exact put4_frw (M := fun b => b = w3.heap.size) w5 _ _ _ _ rfl
        have TP := Lib.hid (show BoxT wP w3.heap.size (.int .i64 tl.kind) (.int .i64 tl.n) (.string tl.name) (.slice ta2 tl.kids.length tc2) by rw [hwP]; exact T5.out.put4 _ _ _ _)
        rw [← hwP]
        have ZP := Lib.hid (Z5.out.fr fP (by omega))
        have AP := Lib.hid (A5.out.keep fP (fun b hb h hz => hz.2 h))
        have E0P := Lib.hid (show Ext w wP from ((Fr.of_ext (M := fun b => b = w3.heap.size) E05.out).trans fP).toExt (fun b hb h => by omega))
        have HTP := Lib.hid (Tm.at_mono (S' := fun b => w.heap.size + 1 ≤ b ∧ b ≠ w3.heap.size) (fun b hb => by have hb' : w4.heap.size ≤ b := hb; omega) (Agree.refl _) (fP.at HT2.out (fun b hb e => by have hb' : w4.heap.size ≤ b := hb; omega)))
        clear hwP fP m0 m1 m2 m3 n0 n1 n2 n3
        have SG2 := fun w4 => signX HAt2.out 93 93 rfl w4 hs
        cases hk : hdB (isB 93) ((spP d q).map Prod.snd)
        · rw [hk] at SG2
          have SG2 := Lib.hid SG2
          have HXN := Lib.hid (show X = none by rw [← HXr.out]; exact items_bar_no HQ.out hk)
          clear hk
          go_wp2_with fail
          refine (SG2.out wP).mono ?_
          rintro e w6 ⟨rfl, e6⟩
          have E6 := Lib.hid (E0P.out.trans e6)
          have Z6 := Lib.hid (ZP.out.ext e6)
          have bz := Z6.out
          obtain ⟨z0, z1, z2, z3, y0, y1, y2, y3⟩ := bz
          have lz6 := Z6.out.lt
          clear e6
          go_wp2_with fail
          refine ret4b_set (p := 6) (q := 7) (T := 25) (b := w.heap.size) (v0 := .int .i64 0) (v1 := .int .i64 0) (v2 := .string ⟨#[]⟩) (v3 := .slice none 0 0) (y := .int .i64 (-1)) (by kernel_rfl) (fun _ => by kernel_rfl) (fun _ => by kernel_rfl) rfl rfl rfl Z6.out ?_
          intro Z fZ
          rw [HXN.out]
          exact SpTm.fail rfl (((Fr.of_ext E6.out).trans fZ).toExt (fun q hq h => by omega))
        · rw [hk] at SG2
          have SG2 := Lib.hid SG2
          obtain ⟨k2, r', hq2⟩ := hd_yes hk
          have htk := HXt2.out k2 _ hq2
          subst htk
          have HXn := Lib.hid (show X = some (chainT (acc ++ [t]) tl, r') by rw [← HXr.out]; exact items_bar HQ.out hq2)
          have HAn := Lib.hid (HAt2.out.bump hq2)
          clear hk hq2
          go_wp2_with fail
          refine (SG2.out wP).mono ?_
          rintro e w6 ⟨rfl, e6⟩
          have E6 := Lib.hid e6
          clear e6
          go_wp2_with fail
          refine (SG2.out w6).mono ?_
          rintro e w7 ⟨rfl, e7⟩
          have E7 := Lib.hid (E6.out.trans e7)
          have A7 := Lib.hid (AP.out.ext E7.out)
          have Z7 := Lib.hid (ZP.out.ext E7.out)
          have T7 := Lib.hid (TP.out.ext E7.out)
          have E07 := Lib.hid (E0P.out.trans E7.out)
          have HT7 := Lib.hid (Tm.at_ext E7.out HTP.out)
          have bx := T7.out
          obtain ⟨m0, m1, m2, m3, n0, n1, n2, n3⟩ := bx
          clear e7
          have hsl := (A7.out).sl (by rw [hl2]; omega)
          have CH := Lib.hid (specl1Chain (tl := tl) (a := ta2) (c := tc2) hsl HT7.out)
          clear hsl
          go_wp2_with fail
          refine CH.out.mono ?_
          rintro e w9 ⟨a9, c9, rfl, h9, e9⟩
          have H9 := Lib.hid h9
          have E9 := Lib.hid (E07.out.trans e9)
          have s9 := Below.size e9
          have sk := Below.size E07.out
          have Z9 := Lib.hid (Z7.out.ext e9)
          have lz9 := Z9.out.lt
          have bz := Z9.out
          obtain ⟨z0, z1, z2, z3, y0, y1, y2, y3⟩ := bz
          clear h9 e9
          go_wp2_with fail
          refine ret4b_set (p := 6) (q := 7) (T := 25) (b := w.heap.size) (y := .int .i64 (i2 + 1)) (by kernel_rfl) (fun _ => by kernel_rfl) (fun _ => by kernel_rfl) rfl rfl rfl Z9.out ?_
          intro Z fZ
          rw [HXn.out]
          have hz9 := fZ.at H9.out (fun b hb e => by rcases hb with hb | hb; (have := hb.1; omega); (have hb' : w7.heap.size ≤ b := hb; have := Z7.out.lt; omega))
          exact ⟨chainT (acc ++ [t]) (tl), a9, c9, i2 + 1, rfl, Tm.at_mono (fun b hb => by rcases hb with hb | hb; (have := hb.1; show w.heap.size ≤ b; omega); (have hb' : w7.heap.size ≤ b := hb; show w.heap.size ≤ b; omega)) (Agree.refl _) hz9, ((Fr.of_ext E9.out).trans fZ).toExt (fun q hq h => by omega), HAn.out, fun u r h => by cases h; rfl⟩
end Go.Proofs.YtognkaebiafgbaaGreatDoor
