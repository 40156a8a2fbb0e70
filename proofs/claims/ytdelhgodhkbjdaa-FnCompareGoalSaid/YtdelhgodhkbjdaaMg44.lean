/-
  The reference's UnifyTerms.
-/
import Derived.ProofKit
import Derived.Test.YtdelhgodhkbjdaaMg42
import Derived.Test.YtdelhgodhkbjdaaMg43
import Derived.Test.YtdelhgodhkbjdaaMg32
import Derived.Test.YtdelhgodhkbjdaaMg9
import Derived.Test.YtdelhgodhkbjdaaMg3
import Derived.Test.YtdelhgodhkbjdaaMg20
namespace Go.Proofs.Ytdelhgodhkbjdaa
open Go.RowKit
set_option linter.unusedVariables false

theorem OwnB.empty {w : World} {b : Nat} {Z : Nat → Prop} (hb : b = w.heap.size) (hz : Z b) : OwnB Z [] (.slice (some ⟨b, 0, none⟩) 0 0) (w.alloc (.cells #[] 36)) := by
  subst hb
  refine ⟨[], ⟨rfl, .inr ⟨w.heap.size, 0, #[], rfl, Nat.zero_le _, ?_, by simp, by decide, rfl, rfl⟩⟩, by intro g hg; simp [Value.ownBlock] at hg; subst hg; exact hz, rfl⟩
  show (w.heap.push _)[w.heap.size]? = _
  simp
set_option maxRecDepth 100000 in
set_option maxHeartbeats 16000000 in
theorem specUnifyTerms (t u : Tm) (v v' : Value) (S : Nat → Prop) (w : World) (ht : Tm.at S w t v) (hu : Tm.at S w u v') :
    Calls Try.prog 27 #[v, v'] w (BdBO (utR t u) (.bool (utB t u)) w) := by
  replace ht := Tm.at_bound ht
  replace hu := Tm.at_bound hu
  obtain ⟨S, hB, ht, hu⟩ : ∃ S : Nat → Prop, (∀ b, S b → b < w.heap.size) ∧ Tm.at S w t v ∧ Tm.at S w u v' := ⟨_, fun b hb => hb.2, ht, hu⟩
  have HT := Lib.hid ht
  have HU := Lib.hid hu
  have HB := Lib.hid hB
  obtain ⟨a, c, rfl⟩ := at_form ht
  obtain ⟨a', c', rfl⟩ := at_form hu
  obtain ⟨i0, hi, hz0, hz1, hz2⟩ := bind_parts info_bind
  have HI := Lib.hid hi
  have HZ := Lib.hid hz0
  have HZ1 := Lib.hid hz1
  have HZ2 := Lib.hid hz2
  clear ht hu hB hi hz0 hz1 hz2
  obtain ⟨b1, hb1⟩ : ∃ x, validF t = x := ⟨_, rfl⟩
  obtain ⟨b2, hb2⟩ : ∃ x, validF u = x := ⟨_, rfl⟩
  have HB1 := Lib.hid hb1
  have HB2 := Lib.hid hb2
  clear hb1 hb2
  go_enter Try.func27, Try.ntmps27
  go_upto_region 2 with (fail)
  obtain ⟨w2, hw2⟩ : ∃ z, z = ((w.alloc (.cells #[.int .i64 t.kind, .int .i64 t.n, .string t.name, .slice a t.kids.length c] 25)).alloc (.cells #[.int .i64 u.kind, .int .i64 u.n, .string u.name, .slice a' u.kids.length c'] 25)).alloc (.cells #[] 36) := ⟨_, rfl⟩
  have E2 : Hid (Ext w w2) := Lib.hid (by rw [hw2]; exact ((Ext.alloc _ _).trans (Ext.alloc _ _)).trans (Ext.alloc _ _))
  have X2 : Hid (BoxT w2 w.heap.size (.int .i64 t.kind) (.int .i64 t.n) (.string t.name) (.slice a t.kids.length c)) := Lib.hid (by rw [hw2]; exact ((BoxT.new _ _ _ _ _ _ rfl).ext (Ext.alloc _ _)).ext (Ext.alloc _ _))
  have Y2 : Hid (BoxT w2 (w.heap.size + 1) (.int .i64 u.kind) (.int .i64 u.n) (.string u.name) (.slice a' u.kids.length c')) := Lib.hid (by rw [hw2]; exact (BoxT.new _ _ _ _ _ _ (by simp)).ext (Ext.alloc _ _))
  have NN : Hid (OwnB (fun b => w.heap.size ≤ b) [] (.slice (some ⟨w.heap.size + 1 + 1, 0, none⟩) 0 0) w2) := Lib.hid (by rw [hw2]; exact OwnB.empty (by simp) (by omega))
  rw [← hw2]
  clear hw2
  have NO := Lib.hid (fun (h : utB t u = false) (w' : World) (e : Ext w2 w') => (show BdBO (utR t u) (.bool (utB t u)) w (.returned (.tuple #[.slice (some ⟨w.heap.size + 1 + 1, 0, none⟩) 0 0, .bool false])) w' from ⟨_, 0, by rw [utR_no h, h]; rfl, by rw [utR_no h]; exact NN.out.ext e, E2.out.trans e⟩))
  obtain ⟨x0, x1, x2, x3, _, _, _, _⟩ := X2.out
  have lx2 := X2.out.lt
  have ly2 : w.heap.size + 1 < w2.heap.size := Y2.out.lt
  go_wp2_with fail
  refine (specTermValid t _ S w2 (Tm.at_ext E2.out HT.out)).mono ?_
  rw [HB1.out]
  rintro e w4 ⟨rfl, e4⟩
  have E4 := Lib.hid e4
  have X4 := Lib.hid (X2.out.ext e4)
  have Y4 := Lib.hid (Y2.out.ext e4)
  clear e4 x0 x1 x2 x3
  obtain ⟨x0, x1, x2, x3, _, _, _, _⟩ := X4.out
  obtain ⟨y0, y1, y2, y3, _, _, _, _⟩ := Y4.out
  cases b1
  · have HF : Hid (utB t u = false) := Lib.hid (by unfold utB; rw [HB1.out]; rfl)
    go_wp2_with fail
    go_ret2
    exact NO.out HF.out _ E4.out
  go_wp2_with fail
  refine (specTermValid u _ S w4 (Tm.at_ext (E2.out.trans E4.out) HU.out)).mono ?_
  rw [HB2.out]
  rintro e w5 ⟨rfl, e5⟩
  have E5 := Lib.hid (E4.out.trans e5)
  have X5 := Lib.hid (X4.out.ext e5)
  have Y5 := Lib.hid (Y4.out.ext e5)
  clear e5 x0 x1 x2 x3 y0 y1 y2 y3
  obtain ⟨x0, x1, x2, x3, _, _, _, _⟩ := X5.out
  obtain ⟨y0, y1, y2, y3, _, _, _, _⟩ := Y5.out
  have lx5 := X5.out.lt
  have ly5 : w.heap.size + 1 < w5.heap.size := Y5.out.lt
  cases b2
  · have HF : Hid (utB t u = false) := Lib.hid (by unfold utB; rw [HB2.out, Bool.and_false]; rfl)
    go_wp2_with fail
    go_ret2
    exact NO.out HF.out _ E5.out
  obtain ⟨f, hf⟩ := uniR_spec (valid_shape HB1.out) (valid_shape HB2.out)
  obtain ⟨c1, K, hr⟩ : ∃ c1 K1, uniR t u = (c1, K1) := ⟨_, _, rfl⟩
  rw [hr] at hf
  have HRU := Lib.hid hr
  have HF := Lib.hid hf
  have HBB : Hid (utB t u = (c1 && okU K 26)) := Lib.hid (by unfold utB; rw [HB1.out, HB2.out, HRU.out]; rfl)
  have HG : Hid (c1 = true → VK K ∧ ∃ ρ, Rk K ρ) := Lib.hid (fun h => by have := uniR_good (valid_shape HB1.out) (valid_shape HB2.out) (by rw [HRU.out]; exact h); rwa [HRU.out] at this)
  have HSZ : Hid (Tm.sz t ≤ 120 ∧ Tm.sz u ≤ 120) := Lib.hid (by
    have h1 := HB1.out; have h2 := HB2.out
    rw [valid_eq] at h1 h2; simp at h1 h2
    exact ⟨h1.2, h2.2⟩)
  clear hr hf
  have hmk := make26
  go_upto_region 5 with (fail)
  obtain ⟨w6, hw6⟩ : ∃ z, z = w5.alloc (.cells row26 25) := ⟨_, rfl⟩
  have E6 : Hid (Ext w5 w6) := Lib.hid (by rw [hw6]; exact Ext.alloc _ _)
  have KN6 : Hid (Kn S w6 w5.heap.size known0) := Lib.hid (by rw [hw6]; exact Kn.made S w5 _ (fun h => by have := HB.out _ h; omega))
  rw [← hw6]
  clear hw6 hmk x0 x1 x2 x3 y0 y1 y2 y3
  have X6 := Lib.hid (X5.out.ext E6.out)
  have Y6 := Lib.hid (Y5.out.ext E6.out)
  obtain ⟨x0, x1, x2, x3, _, _, _, _⟩ := X6.out
  obtain ⟨y0, y1, y2, y3, _, _, _, _⟩ := Y6.out
  have E06 := Lib.hid (E2.out.trans (E5.out.trans E6.out))
  have l56 := KN6.out.lt
  go_wp2_with fail
  refine (specl3Unify f known0 t u c1 K 30 30 HF.out vk0 rk0 szk0 (valid_shape HB1.out) (valid_shape HB2.out) HSZ.out.1 HSZ.out.2 _ _ S w6 _ 26 (fun b hb => Nat.lt_of_lt_of_le (HB.out b hb) (Below.size E06.out)) (Tm.at_ext E06.out HT.out) (Tm.at_ext E06.out HU.out) KN6.out ⟨by omega, by omega⟩).mono ?_
  rintro e wz ⟨rfl, hk7, f7⟩
  have KN := Lib.hid hk7
  have E7 : Hid (Ext w2 wz) := Lib.hid (((Fr.of_ext (E5.out.trans E6.out)).trans f7).toExt (fun k hk h => by have := Below.size E5.out; omega))
  have lz : w5.heap.size < wz.heap.size := by have := f7.size; omega
  clear hk7 f7 x0 x1 x2 x3 y0 y1 y2 y3 KN6
  cases c1
  · have HF2 : Hid (utB t u = false) := Lib.hid (by rw [HBB.out]; rfl)
    go_wp2_with fail
    go_ret2
    exact NO.out HF2.out _ E7.out
  have HV : Hid (VK K) := Lib.hid (HG.out rfl).1
  have HR : Hid (∃ ρ, Rk K ρ) := Lib.hid (HG.out rfl).2
  have hEQ : Hid (utB t u = okU K 26) := Lib.hid (by rw [HBB.out]; rfl)
  have NOU := NO
  have NO := Lib.hid (fun (h : okU K 26 = false) (w' : World) (e : Ext wz w') => NOU.out (hEQ.out.trans h) w' (E7.out.trans e))
  have YES := Lib.hid (fun (h : okU K 26 = true) (w' : World) (bs : List Bd) (av : Option Addr) (cv : Nat) (hb : bs = bdsU K 26) (ho : OwnB (fun b => wz.heap.size ≤ b) bs (.slice av bs.length cv) w') (e : Ext wz w') (en : Ending) (hen : en = .returned (.tuple #[.slice av bs.length cv, .bool true])) => (show BdBO (utR t u) (.bool (utB t u)) w en w' from by
    have h1 : utB t u = true := hEQ.out.trans h
    have h2 : utR t u = bs := by unfold utR; rw [h1, if_pos rfl, HRU.out, hb]
    have lz0 := Below.size E7.out
    exact ⟨av, cv, by rw [h1, h2]; exact hen, by rw [h2]; exact ho.zone (fun b hb => by omega), E2.out.trans (E7.out.trans e)⟩))
  have HB0 := HB
  have HB := Lib.hid (fun (b : Nat) (hb : S b) => (show b < wz.heap.size from by have := HB0.out b hb; have := Below.size E7.out; omega))
  obtain ⟨kb, hkb⟩ : ∃ kb, w5.heap.size = kb := ⟨_, rfl⟩
  rw [hkb] at KN lz ⊢
  clear hkb
  go_wp2_with fail
  go_loopw [8, 9] (fun o i wr => ∃ (j : Nat) (av : Option Addr) (cv : Nat) (bs : List Bd), j ≤ 26 ∧ i = .int .i64 j ∧ o = .slice av bs.length cv ∧ Hid (bs = bdsU K j) ∧ Hid (okU K j = true) ∧
      Hid (OwnB (fun b => wz.heap.size ≤ b ∧ b < wr.heap.size) bs (.slice av bs.length cv) wr) ∧ Hid (Ext wz wr)) (fun _ i _ => 26 - (intOf i).toNat)
  case atStart => exact ⟨0, _, 0, [], by omega, rfl, rfl, Lib.hid rfl, Lib.hid rfl, Lib.hid (OwnB.empty rfl ⟨Nat.le_refl _, by simp⟩), Lib.hid (Ext.alloc _ _)⟩
  case round =>
    obtain ⟨j, av, cv, bs, hj, rfl, rfl, HBS, HOK, HO, HE⟩ := hrel
    have lwr : wz.heap.size ≤ wr.heap.size := Below.size HE.out
    by_cases hlt : j < 26
    · have hn : 0 ≤ (j : Int) ∧ (j : Int) ≤ 25 := by omega
      have hlt2 : (j : Int) < 26 := by omega
      obtain ⟨ra, rc, q0, q1, q2, q3, hat, _, _, _, _⟩ := KN.out.look hn
      simp only [Int.toNat_natCast] at q0 q1 q2 q3
      have q0 := HE.out.cell q0
      have q1 := HE.out.cell q1
      have q2 := HE.out.cell q2
      have q3 := HE.out.cell q3
      by_cases hz : (lookK K (j : Int)).kind = 0
      · have HN : Hid (bdsU K (j + 1) = bdsU K j ∧ okU K (j + 1) = true) := Lib.hid ⟨by rw [bdsU, if_pos hz], by rw [okU, HOK.out, decide_eq_true hz]; rfl⟩
        have hz' : ((lookK K (j : Int)).kind == 0) = true := by simp [hz]
        clear hz hat
        go_wp2_with fail
        exact ⟨⟨j + 1, av, cv, bs, by omega, by go_num, rfl, Lib.hid (HBS.out.trans HN.out.1.symm), Lib.hid HN.out.2, HO, HE⟩, by simp [intOf]; omega⟩
      · obtain ⟨f, hf⟩ := resT_spec HV.out HR.out hn hz
        obtain ⟨d, hsh⟩ := HV.out.2 (j : Int) hn.1 hn.2 hz
        obtain ⟨r, hr⟩ : ∃ r, lookK K (j : Int) = r := ⟨_, rfl⟩
        obtain ⟨T, hT⟩ : ∃ T, resT K (j : Int) = T := ⟨_, rfl⟩
        have hz' : ((lookK K (j : Int)).kind == 0) = false := by simpa using hz
        rw [hr] at hat hsh hf q0 q1 q2 q3 hz'
        rw [hT] at hf
        have HSH := Lib.hid hsh
        have HAT := Lib.hid (Tm.at_ext HE.out hat)
        have HF := Lib.hid hf
        have HFV := Lib.hid (fits_valid (res_loc HV.out f r T d hsh hf))
        have HN : Hid (bdsU K (j + 1) = bdsU K j ++ [⟨(j : Int), T⟩] ∧ okU K (j + 1) = fits T 0 1) := Lib.hid ⟨by rw [bdsU, if_neg hz, hT], by rw [okU, HOK.out, decide_eq_false hz, hT]; simp⟩
        clear hz hr hT hat hsh hf
        go_wp2_with fail
        refine (specl3Full f K r T HF.out _ S wr kb 26 d 120 HSH.out (fun b hb => by have := HB.out b hb; omega) HAT.out (KN.out.ext HE.out) ⟨by omega, by omega⟩ HV.out (by omega) (by omega)).mono ?_
        rintro e w6 ⟨e6, T', l, a2, c2, rfl, ho, hl0, hl1, hcase⟩
        have E6 := Lib.hid e6
        have lw6 := Below.size e6
        clear e6 q0 q1 q2 q3
        rcases hcase with ⟨hs, rfl, rfl⟩ | ⟨hs, rfl⟩
        · have HOT := Lib.hid ho
          have hl2 : 0 ≤ 120 - (Tm.sz T' : Int) := by omega
          obtain ⟨l, hl⟩ : ∃ l, 120 - (Tm.sz T' : Int) = l := ⟨_, rfl⟩
          rw [hl] at hl2 ⊢
          clear ho hs hl hl0 hl1
          obtain ⟨bv, hbv⟩ : ∃ b, validF T' = b := ⟨_, rfl⟩
          have HBV := Lib.hid hbv
          clear hbv
          have HT8 := Lib.hid (own_flat _ _ _ (own_ext1 HOT.out (Ext.alloc w6 (.cells #[.int .i64 T'.kind, .int .i64 T'.n, .string T'.name, .slice a2 T'.kids.length c2] 25))))
          go_wp2_with fail
          refine (specTermValid T' _ _ _ HT8.out).mono ?_
          rw [HBV.out]
          rintro e w7 ⟨rfl, e7⟩
          have E67 := Lib.hid ((Ext.alloc w6 (.cells #[.int .i64 T'.kind, .int .i64 T'.n, .string T'.name, .slice a2 T'.kids.length c2] 25)).trans e7)
          have X7 := Lib.hid ((BoxT.new w6 (.int .i64 T'.kind) (.int .i64 T'.n) (.string T'.name) (.slice a2 T'.kids.length c2) 25 rfl).ext e7)
          have lw7 := Below.size E67.out
          clear e7
          cases bv
          · have HNO : Hid (okU K 26 = false) := Lib.hid (okU_no (j := j + 1) (by rw [HN.out.2, HFV.out, HBV.out]) (by omega))
            have EE := Lib.hid (HE.out.trans (E6.out.trans E67.out))
            go_wp2_with fail
            go_ret2
            exact NO.out HNO.out _ EE.out
          · have HN2 : Hid (okU K (j + 1) = true) := Lib.hid (by rw [HN.out.2, HFV.out, HBV.out])
            have EE := Lib.hid (HE.out.trans (E6.out.trans E67.out))
            have HO7 := Lib.hid (HO.out.ext (E6.out.trans E67.out))
            have HT7 := Lib.hid (own_ext1 HOT.out E67.out)
            have hl : bs.length < 1048576 := by have := bdsU_len K j; rw [HBS.out]; omega
            have hw07 : wr.heap.size ≤ w7.heap.size := by omega
            have hw0r : wz.heap.size ≤ wr.heap.size := by omega
            obtain ⟨x0, x1, x2, x3, _, _, _, _⟩ := X7.out
            have lx := X7.out.lt
            go_wp2_with (at_builtin; refine wpList_append_ob (w0 := wr) (w1 := w7) rfl (.tmp 59) (.tmp 63) 27 rfl wz.heap.size i0 Try.underlying27 HI.out HZ.out HZ1.out HZ2.out (.slice av bs.length cv) bs ⟨(j : Int), T'⟩ a2 c2 rfl HO7.out rfl HT7.out hw07 hw0r hl rfl ?_; intro av2 cv2 w8 hA2 hf2; have A8 := Lib.hid hA2; have F8 := Lib.hid hf2; clear hA2 hf2)
            have hlen : (bs ++ [(⟨(j : Int), T'⟩ : Bd)]).length = bs.length + 1 := by simp
            exact ⟨⟨j + 1, av2, cv2, bs ++ [⟨(j : Int), T'⟩], by omega, by go_num, by rw [hlen], Lib.hid (by rw [HN.out.1, HBS.out]), HN2, Lib.hid (by rw [hlen]; exact A8.out), Lib.hid (((Fr.of_ext EE.out).trans F8.out).toExt (fun k hk h => by omega))⟩, by simp [intOf]; omega⟩
        · have HNO : Hid (okU K 26 = false) := Lib.hid (okU_no (j := j + 1) (by rw [HN.out.2]; unfold fits; exact decide_eq_false (fun h => by omega)) (by omega))
          have EE := Lib.hid (HE.out.trans (E6.out.trans (Ext.alloc w6 (.cells #[.int .i64 T'.kind, .int .i64 T'.n, .string T'.name, .slice a2 T'.kids.length c2] 25))))
          go_wp2_with fail
          go_ret2
          exact NO.out HNO.out _ EE.out
    · have hjj : j = 26 := by omega
      subst hjj
      go_wp2_with fail
      go_ret2
      exact YES.out HOK.out _ bs av cv HBS.out (HO.out.zone (fun b hb => hb.1)) HE.out _ rfl
end Go.Proofs.Ytdelhgodhkbjdaa

/-
  A slice of bytes that came in reads as such.
-/
namespace Go.Proofs.Ytdelhgodhkbjdaa
open Go.ChangeShapes Go.WideShapes Go.ChangeAt Go.RowKit
set_option linter.unusedVariables false

theorem bytes_of_trod {H : Type} {enc : TypeId × Value → H} {w : World} {a : Option Addr} {len cap : Nat} {d : DataW H} {ps : List MemPlace}
    (h : DataW.Trod enc Try.prog w 0 (fun _ => true) true 22 (.slice a len cap) d ps) : BytesAt w (.slice a len cap) := by
  obtain ⟨fuel, hf⟩ := h
  rcases open_ints Try.underlying22 Try.underlying5 (by kernel_rfl) hf with ⟨hcs, _⟩ | ⟨x, l, c, zs, hcs, _, hl, hm, hz, _, hcell, hwz⟩
  · simp [Value.cells] at hcs
    obtain ⟨rfl, rfl, rfl⟩ := hcs
    exact ⟨none, 0, 0, rfl, by omega, by omega, .inl rfl⟩
  · simp [Value.cells] at hcs
    obtain ⟨rfl, rfl, rfl⟩ := hcs
    have hz' : zs.length = cap := by simpa using hz
    refine ⟨_, len, cap, rfl, hl, hm, ?_⟩
    by_cases h0 : len = 0
    · exact .inl h0
    · have hx : x = ⟨x.block, x.off, none⟩ := by
        have := spot_none (hcell 0 (by omega))
        simpa [Addr.add] using this
      refine .inr ⟨x.block, x.off, by rw [← hx], fun i hi => ?_⟩
      have hc := hcell i (by omega)
      rw [hx, addr_add] at hc
      have hmem : zs.getD i 0 ∈ zs := by
        rw [List.getD_eq_getElem?_getD, List.getElem?_eq_getElem (by omega)]
        exact List.getElem_mem _
      have hw := hwz _ hmem
      generalize zs.getD i 0 = z at hc hw
      have hb : 0 ≤ z ∧ z ≤ 255 := by
        simp [Lit.wf, IntKind.min, IntKind.max, IntKind.bits, IntKind.signed] at hw
        omega
      obtain ⟨n, rfl⟩ := Int.eq_ofNat_of_zero_le hb.1
      exact ⟨n, by omega, hc⟩

end Go.Proofs.Ytdelhgodhkbjdaa
