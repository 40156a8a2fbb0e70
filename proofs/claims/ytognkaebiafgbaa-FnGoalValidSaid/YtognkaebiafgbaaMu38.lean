/-
  The reference's readers with operators: l2Fails, l2Terms.
-/
import Derived.Test.YtognkaebiafgbaaMu37
namespace Go.Proofs.Ytognkaebiafgbaa
open Go.RowKit
set_option linter.unusedVariables false
def RdC (F : Nat) : Prop := ∀ (s : ByteArray) (rest : List UInt8) (i : Int) (e L : Nat) (w : World), s.size ≤ 1000 → e ≤ 100 → L ≤ 3 → AtR s (some rest) i → 6 * rest.length + L + 1 ≤ F →
  Calls Try.prog 56 #[.string s, .int .i64 i, .int .i64 e, .int .i64 L] w (SpTm s (rdF F e L rest) w)
def TrC (F : Nat) : Prop := ∀ (s : ByteArray) (rest : List UInt8) (i : Int) (e : Nat) (x y : UInt8) (w : World), s.size ≤ 1000 → e ≤ 100 → AtR s (some rest) i → 6 * rest.length + 5 ≤ F →
  Calls Try.prog 73 #[.string s, .int .i64 i, .int .i64 e, .int .u8 x.toNat, .int .u8 y.toNat] w (SpTms s (termsF F e x y [] rest) w)
set_option maxHeartbeats 1000000 in
theorem specl2Fails (i : Int) (w : World) (h0 : 0 ≤ i) (h1 : i ≤ 1048570) (s : ByteArray) : Calls Try.prog 68 #[.int .i64 i] w fun e w' => e = .returned (.tuple #[.agg #[.int .i64 0, .int .i64 0, .string ⟨#[]⟩, .slice none 0 0], .int .i64 (-1 - i)]) ∧ Ext w w' := by
  go_enter Try.func68, Try.ntmps68
  go_wp2_with fail
  refine ret4b (p := 2) (q := 3) (T := 25) (b := w.heap.size) (v0 := .int .i64 0) (v1 := .int .i64 0) (v2 := .string ⟨#[]⟩) (v3 := .slice none 0 0) (y := .int .i64 (-1 - i)) (by kernel_rfl) (fun _ => by kernel_rfl) (fun _ => by kernel_rfl) rfl rfl rfl (BoxT.new w (.int .i64 0) (.int .i64 0) (.string ⟨#[]⟩) (.slice none 0 0) 25 rfl) ?_
  exact ⟨rfl, Ext.alloc _ _⟩
theorem terms_close {G e : Nat} {x y c : UInt8} {acc : List Tm} {r r' : List UInt8} {k : Tm} (h : rdF G e 3 r = some (k, c :: r')) (hc : c = x ∨ c = y) : termsF (G + 1) e x y acc r = some (acc ++ [k], c :: r') := by
  rw [termsF, h]; simp only [if_pos hc]
theorem terms_comma {G e : Nat} {x y : UInt8} {acc : List Tm} {r r' : List UInt8} {k : Tm} (h : rdF G e 3 r = some (k, 44 :: r')) (hx : ¬ ((44 : UInt8) = x ∨ (44 : UInt8) = y)) : termsF (G + 1) e x y acc r = termsF G e x y (acc ++ [k]) r' := by
  rw [termsF, h]; simp only [if_neg hx, if_true]
theorem terms_none {G e : Nat} {x y : UInt8} {acc : List Tm} {r : List UInt8} (h : rdF G e 3 r = none) : termsF (G + 1) e x y acc r = none := by rw [termsF, h]
theorem terms_fail {G e : Nat} {x y : UInt8} {acc : List Tm} {r : List UInt8} (h0 : hdB (isB x) ((rdF G e 3 r).map Prod.snd) = false) (h1 : hdB (isB y) ((rdF G e 3 r).map Prod.snd) = false) (h2 : hdB (isB 44) ((rdF G e 3 r).map Prod.snd) = false) : termsF (G + 1) e x y acc r = none := by
  rw [termsF]
  cases h : rdF G e 3 r with
  | none => rfl
  | some p =>
    obtain ⟨k, q⟩ := p
    cases q with
    | nil => rfl
    | cons c q =>
      rw [h] at h0 h1 h2
      have n0 : ¬ c = x := by simpa [hdB, isB] using h0
      have n1 : ¬ c = y := by simpa [hdB, isB] using h1
      have n2 : ¬ c = 44 := by simpa [hdB, isB] using h2
      simp only [n0, n1, n2, or_self, if_false]
theorem SpTms.fail {s : ByteArray} {w w' : World} {e : Ending} {i : Int} (he : e = .returned (.tuple #[.slice Option.none 0 0, .int .i64 i])) (hi : i < 0) (hi2 : -1048576 ≤ i) (hx : Ext w w') : SpTms s Option.none w e w' :=
  ⟨[], _, _, i, he, ⟨_, _, rfl, Nat.le_refl _, by omega, by simp, .inl rfl⟩, hx, AtR.no hi hi2, fun us r h => by cases h⟩
set_option maxRecDepth 100000 in
set_option maxHeartbeats 4000000 in
theorem specl2Terms (F : Nat) (hC : ∀ G, G < F → RdC G) : TrC F := by
  intro s r0 i0 e0 x y w hs hd hat hF
  obtain ⟨X, hX⟩ : ∃ X, termsF F e0 x y [] r0 = X := ⟨_, rfl⟩
  rw [hX]
  have HX0 := Lib.hid hX
  have HC := Lib.hid hC
  have HA0 := Lib.hid hat
  have hr0 := hat.len
  have hi0 : 0 ≤ i0 := by obtain ⟨n, rfl, _⟩ := hat.good; omega
  have hs' : s.size ≤ 1048576 := by omega
  obtain ⟨ti, hi, hz0, hz1, hz2⟩ := info_parts info_term3
  have HI := Lib.hid hi
  have HZ0 := Lib.hid hz0
  have HZ1 := Lib.hid hz1
  have HZ2 := Lib.hid hz2
  clear hX hC hat hi hz0 hz1 hz2
  go_enter Try.func73, Try.ntmps73
  go_wp2_with fail
  go_loopg [1, 12] (r0.length + 1) (fun g iv lv wr => ∃ (acc : List Tm) (av : Option Addr) (cv : Nat) (i : Int) (r : List UInt8) (G : Nat), iv = .int .i64 i ∧ lv = .slice av acc.length cv ∧ g = r.length + 1 ∧ acc.length + r.length ≤ 1001 ∧ G ≤ F ∧ 6 * r.length + 5 ≤ G ∧
    Hid (AppI 25 (fun b => w.heap.size ≤ b) acc (.slice av acc.length cv) wr) ∧ Hid (Ext w wr) ∧ Hid (AtR s (some r) i) ∧ Hid (termsF G e0 x y acc r = X))
  case atStart =>
    exact ⟨[], _, _, i0, r0, F, rfl, rfl, rfl, by simp; omega, Nat.le_refl _, hF, Lib.hid (AppI.empty rfl (Nat.le_refl _)), Lib.hid (Ext.alloc _ _), HA0, HX0⟩
  case round =>
    obtain ⟨acc, av, cv, i, r, G, rfl, rfl, hg, hal, hGF, hG, HA, HE, HAt, HXr⟩ := hrel
    obtain ⟨G, rfl⟩ : ∃ z, G = z + 1 := ⟨G - 1, by omega⟩
    subst hg
    have hlc : acc.length < 1048576 := by omega
    have sE : w.heap.size ≤ wr.heap.size := Below.size HE.out
    have C := Lib.hid (HC.out G (by omega) s r i e0 3 wr hs hd (by omega) HAt.out (by omega))
    go_wp2_with fail
    refine C.out.mono ?_
    rintro e w1 ⟨t, ta, tc, i1, rfl, ht, e1, hat1, hXt⟩
    have HAt1 := Lib.hid hat1
    have HXt := Lib.hid hXt
    have l1 := hat1.le hs'
    have s1 : wr.heap.size ≤ w1.heap.size := Below.size e1
    have e12 : Ext wr (w1.alloc (.cells #[.int .i64 t.kind, .int .i64 t.n, .string t.name, .slice ta t.kids.length tc] 25)) := e1.trans (Ext.alloc _ _)
    have HA1 := Lib.hid (HA.out.ext e12)
    have HV1 := Lib.hid (HA.out.apart (fun b hb => by omega) (Tm.at_ext (Ext.alloc w1 (.cells #[.int .i64 t.kind, .int .i64 t.n, .string t.name, .slice ta t.kids.length tc] 25)) ht))
    have hnew : ∀ b, (w1.alloc (.cells #[.int .i64 t.kind, .int .i64 t.n, .string t.name, .slice ta t.kids.length tc] 25)).heap.size ≤ b → w.heap.size ≤ b := fun b hb => by simp at hb; omega
    have HN := Lib.hid hnew
    have E12 := Lib.hid e12
    clear ht e1 hat1 hXt e12 hnew
    cases hrd : rdF G e0 3 r with
    | none =>
      rw [hrd] at HAt1
      have hneg : i1 < 0 := HAt1.out.bad.1
      have hge := HAt1.out.bad.2
      have HXN := Lib.hid (show X = none by rw [← HXr.out]; exact terms_none hrd)
      have E02 := Lib.hid (HE.out.trans E12.out)
      clear hrd
      go_wp2_with fail
      go_ret2
      rw [HXN.out]
      exact SpTms.fail rfl hneg hge E02.out
    | some p =>
      obtain ⟨k, q⟩ := p
      have htk := HXt.out k q hrd
      subst htk
      have HRD := Lib.hid hrd
      have hpos : ¬ i1 < 0 := by
        rw [hrd] at HAt1
        obtain ⟨n, rfl, _⟩ := HAt1.out.good
        omega
      have hql : q.length < r.length := (sl_all G).1 _ _ _ _ _ hrd
      have hi1 : i1 ≤ 1000 := by
        rw [hrd] at HAt1
        have := HAt1.out.len
        omega
      have HI1 := Lib.hid (show 0 ≤ i1 ∧ i1 ≤ 1000 from ⟨by omega, hi1⟩)
      rw [hrd] at HAt1
      have SGx := fun w' => signX HAt1.out x x.toNat rfl w' hs'
      have SGy := fun w' => signX HAt1.out y y.toNat rfl w' hs'
      have SGc := fun w' => signX HAt1.out 44 44 rfl w' hs'
      have hx0 : ((rdF G e0 3 r).map Prod.snd) = some q := by rw [hrd]; rfl
      clear hrd
      go_wp2_with (at_builtin; refine wpList_append_tmN rfl (.tmp 26) (.tmp 28) 23 rfl (fun b => w.heap.size ≤ b) 25 ti Try.underlying23 HI.out HZ0.out HZ1.out HZ2.out (.slice av acc.length cv) acc t ta tc rfl HA1.out rfl HV1.out hlc HN.out (by simp) ?_; intro av2 cv2 w2 hA2 hf2; have A2 := Lib.hid hA2; have F2 := Lib.hid hf2; clear hA2 hf2)
      have E02 := Lib.hid (show Ext w w2 from ((Fr.of_ext (M := fun b => w.heap.size ≤ b) (HE.out.trans E12.out)).trans F2.out).toExt (fun q hq h => by omega))
      have hl2 : (acc ++ [t]).length = acc.length + 1 := by simp
      cases hcx : hdB (isB x) (some q)
      · have SGx := Lib.hid (fun w' => hcx ▸ SGx w')
        cases hcy : hdB (isB y) (some q)
        · have SGy := Lib.hid (fun w' => hcy ▸ SGy w')
          cases hcc : hdB (isB 44) (some q)
          · have SGc := Lib.hid (fun w' => hcc ▸ SGc w')
            have HXN := Lib.hid (show X = none by rw [← HXr.out]; exact terms_fail (by rw [hx0]; exact hcx) (by rw [hx0]; exact hcy) (by rw [hx0]; exact hcc))
            clear hcx hcy hcc hx0
            go_wp2_with fail
            refine (SGx.out w2).mono ?_
            rintro e w3 ⟨rfl, e3⟩
            have E3 := Lib.hid (E02.out.trans e3)
            clear e3
            go_wp2_with fail
            refine (SGy.out w3).mono ?_
            rintro e w4 ⟨rfl, e4⟩
            have E4 := Lib.hid (E3.out.trans e4)
            clear e4
            go_wp2_with fail
            refine (SGc.out w4).mono ?_
            rintro e w5 ⟨rfl, e5⟩
            have E5 := Lib.hid (E4.out.trans e5)
            clear e5
            go_wp2_with fail
            go_ret2
            rw [HXN.out]
            exact SpTms.fail (i := -1 - i1) rfl (by have := HI1.out; omega) (by have := HI1.out; omega) E5.out
          · have SGc := Lib.hid (fun w' => hcc ▸ SGc w')
            obtain ⟨r', hq⟩ : ∃ r', q = 44 :: r' := by
              cases q with
              | nil => cases hcc
              | cons c q' => exact ⟨q', by rw [show c = 44 by simpa [hdB, isB] using hcc]⟩
            have hnx : ¬ ((44 : UInt8) = x ∨ (44 : UInt8) = y) := by
              rw [hq] at hcx hcy
              have n0 : ¬ (44 : UInt8) = x := by simpa [hdB, isB] using hcx
              have n1 : ¬ (44 : UInt8) = y := by simpa [hdB, isB] using hcy
              rintro (h | h)
              · exact n0 h
              · exact n1 h
            have HXn := Lib.hid (show termsF G e0 x y (acc ++ [t]) r' = X by rw [← HXr.out]; exact (terms_comma (by rw [HRD.out, hq]) hnx).symm)
            have HAn := Lib.hid (show AtR s (some r') (i1 + 1) from AtR.next (b := 44) (by have := HAt1.out; rw [hq] at this; exact this))
            have hrl : r'.length + 1 = q.length := by rw [hq]; rfl
            clear hcx hcy hcc hx0 hq hnx
            go_wp2_with fail
            refine (SGx.out w2).mono ?_
            rintro e w3 ⟨rfl, e3⟩
            have E3 := Lib.hid e3
            clear e3
            go_wp2_with fail
            refine (SGy.out w3).mono ?_
            rintro e w4 ⟨rfl, e4⟩
            have E4 := Lib.hid (E3.out.trans e4)
            clear e4
            go_wp2_with fail
            refine (SGc.out w4).mono ?_
            rintro e w5 ⟨rfl, e5⟩
            have E5 := Lib.hid (E4.out.trans e5)
            clear e5
            go_wp2_with fail
            go_roundg (r'.length + 1)
            case measure => omega
            case rel =>
              exact ⟨acc ++ [t], av2, cv2, i1 + 1, r', G, rfl, by rw [hl2], rfl, by rw [hl2]; omega, by omega, by omega, Lib.hid (by rw [hl2]; exact A2.out.ext E5.out), Lib.hid (E02.out.trans E5.out), HAn, HXn⟩
        · have SGy := Lib.hid (fun w' => hcy ▸ SGy w')
          have HXn := Lib.hid (show X = some (acc ++ [t], q) by
            rw [← HXr.out]
            cases q with
            | nil => cases hcy
            | cons c q' => exact terms_close HRD.out (.inr (by simpa [hdB, isB] using hcy)))
          clear hcx hcy hx0
          go_wp2_with fail
          refine (SGx.out w2).mono ?_
          rintro e w3 ⟨rfl, e3⟩
          have E3 := Lib.hid e3
          clear e3
          go_wp2_with fail
          refine (SGy.out w3).mono ?_
          rintro e w4 ⟨rfl, e4⟩
          have E4 := Lib.hid (E3.out.trans e4)
          clear e4
          go_wp2_with fail
          go_ret2
          rw [HXn.out]
          have hsl := (A2.out.ext E4.out).sl (by rw [hl2]; omega)
          rw [← hl2] at hsl ⊢
          exact ⟨acc ++ [t], av2, cv2, i1, rfl, hsl, E02.out.trans E4.out, HAt1.out, fun us r h => by cases h; rfl⟩
      · have SGx := Lib.hid (fun w' => hcx ▸ SGx w')
        have HXn := Lib.hid (show X = some (acc ++ [t], q) by
          rw [← HXr.out]
          cases q with
          | nil => cases hcx
          | cons c q' => exact terms_close HRD.out (.inl (by simpa [hdB, isB] using hcx)))
        clear hcx hx0
        go_wp2_with fail
        refine (SGx.out w2).mono ?_
        rintro e w3 ⟨rfl, e3⟩
        have E3 := Lib.hid e3
        clear e3
        go_wp2_with fail
        go_ret2
        rw [HXn.out]
        have hsl := (A2.out.ext E3.out).sl (by rw [hl2]; omega)
        rw [← hl2] at hsl ⊢
        exact ⟨acc ++ [t], av2, cv2, i1, rfl, hsl, E02.out.trans E3.out, HAt1.out, fun us r h => by cases h; rfl⟩
end Go.Proofs.Ytognkaebiafgbaa
