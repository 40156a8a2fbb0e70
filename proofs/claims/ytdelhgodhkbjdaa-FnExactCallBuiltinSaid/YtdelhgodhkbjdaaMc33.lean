/-
  The program's store: all bindings (all), UnifyTerms.
-/
import Derived.Laws.IdiomStrings
import Derived.Test.YtdelhgodhkbjdaaMc30
import Derived.Test.YtdelhgodhkbjdaaMc32
import Derived.Test.YtdelhgodhkbjdaaMc10
import Derived.Test.YtdelhgodhkbjdaaMc24
namespace Go.Proofs.Ytdelhgodhkbjdaa
open Go.RowKit Go.Maps
set_option linter.unusedVariables false

open Classical in
/-- what a variable stands for, all laid in -/
noncomputable def resT (K : List Tm) (n : Int) : Tm := if h : ∃ T, ∃ f, resF f K (lookK K n) = some T then h.choose else zeroT
theorem resT_spec {K : List Tm} (hv : VK K) (hr : ∃ ρ, Rk K ρ) {n : Int} (hn : 0 ≤ n ∧ n ≤ 25) (hk : (lookK K n).kind ≠ 0) : ∃ f, resF f K (lookK K n) = some (resT K n) := by
  obtain ⟨ρ, hr⟩ := hr
  obtain ⟨d, hs⟩ := hv.2 n hn.1 hn.2 hk
  obtain ⟨f, T, h⟩ := res_ex hv hr _ d hs
  have he : ∃ T, ∃ f, resF f K (lookK K n) = some T := ⟨T, f, h⟩
  unfold resT
  rw [dif_pos he]
  exact he.choose_spec
noncomputable def bdsU (K : List Tm) : Nat → List Bd
  | 0 => []
  | j + 1 => if (lookK K (j : Int)).kind = 0 then bdsU K j else bdsU K j ++ [⟨(j : Int), resT K (j : Int)⟩]
noncomputable def okU (K : List Tm) : Nat → Bool
  | 0 => true
  | j + 1 => okU K j && (decide ((lookK K (j : Int)).kind = 0) || fits (resT K (j : Int)) 0 1)
theorem bdsU_len (K : List Tm) : ∀ j, (bdsU K j).length ≤ j
  | 0 => Nat.le_refl _
  | j + 1 => by
    have := bdsU_len K j
    unfold bdsU
    split
    · omega
    · simp; omega
theorem okU_no {K : List Tm} {j : Nat} (h : okU K j = false) : ∀ {m : Nat}, j ≤ m → okU K m = false
  | 0, hm => by rw [show (0 : Nat) = j by omega]; exact h
  | m + 1, hm => by
    by_cases e : j = m + 1
    · rw [← e]; exact h
    · unfold okU; rw [okU_no h (by omega)]; rfl
noncomputable def allR (K : List Tm) : List Bd := if okU K 26 = true then bdsU K 26 else []
/-- bindings that share nothing, and something else -/
def BdBO (bs : List Bd) (y : Value) (w : World) (e : Ending) (w' : World) : Prop := ∃ a c, e = .returned (.tuple #[.slice a bs.length c, y]) ∧ OwnB (fun b => w.heap.size ≤ b) bs (.slice a bs.length c) w' ∧ Ext w w'

set_option maxRecDepth 100000 in
set_option maxHeartbeats 8000000 in
theorem implall (K : List Tm) (S : Nat → Prop) (w : World) (sb mb : Nat) (hv : VK K) (hr : ∃ ρ, Rk K ρ) (hB : ∀ b, S b → b < w.heap.size) (hst : Sto S w sb mb K) :
    Calls Try.prog 41 #[.pointer (some ⟨sb, 0, none⟩)] w (BdBO (allR K) (.bool (okU K 26)) w) := by
  have HB := Lib.hid hB
  have HST := Lib.hid hst
  have HV := Lib.hid hv
  have HR := Lib.hid hr
  obtain ⟨hs0, hs1, hs2, m0, hm0, hkm⟩ := hst
  have HKM := Lib.hid hkm
  have HS0 := Lib.hid hs0
  have lsb := block_lt_of_cell hs0
  simp only at lsb
  obtain ⟨i0, hi, hz0, hz1, hz2⟩ := bind_parts info_bind
  have HI := Lib.hid hi
  have HZ := Lib.hid hz0
  have HZ1 := Lib.hid hz1
  have HZ2 := Lib.hid hz2
  clear hv hr hB hkm hm0 hi hz0 hz1 hz2 hs0
  go_enter Try.func41, Try.ntmps41
  go_wp2_with fail
  go_loopw [4, 9] (fun o i wr => ∃ (j : Nat) (av : Option Addr) (cv : Nat) (bs : List Bd), j ≤ 26 ∧ i = .int .i64 j ∧ o = .slice av bs.length cv ∧ Hid (bs = bdsU K j) ∧ Hid (okU K j = true) ∧
      Hid (OwnB (fun b => w.heap.size ≤ b ∧ b < wr.heap.size) bs (.slice av bs.length cv) wr) ∧ Hid (Ext w wr)) (fun _ i _ => 26 - (intOf i).toNat)
  case atStart => exact ⟨0, none, 0, [], by omega, rfl, rfl, Lib.hid rfl, Lib.hid rfl, Lib.hid (OwnB.nil _ _), Lib.hid (Ext.refl _)⟩
  case round =>
    obtain ⟨j, av, cv, bs, hj, rfl, rfl, HBS, HOK, HO, HE⟩ := hrel
    have lsr : sb < wr.heap.size := Nat.lt_of_lt_of_le lsb (Below.size HE.out)
    have lwr : w.heap.size ≤ wr.heap.size := Below.size HE.out
    by_cases hlt : j < 26
    · have hn : 0 ≤ (j : Int) ∧ (j : Int) ≤ 25 := by omega
      have s0 := HE.out.cell HS0.out
      by_cases hz : (lookK K (j : Int)).kind = 0
      · have L1 := run_look_no (HKM.out.ext HE.out) hn hz
        have HN : Hid (bdsU K (j + 1) = bdsU K j ∧ okU K (j + 1) = true) := Lib.hid ⟨by rw [bdsU, if_pos hz], by rw [okU, HOK.out, decide_eq_true hz]; rfl⟩
        clear hz
        go_wp2_with fail
        exact ⟨⟨j + 1, av, cv, bs, by omega, by go_num, rfl, Lib.hid (HBS.out.trans HN.out.1.symm), Lib.hid HN.out.2, Lib.hid (HO.out.mono (fun b hb => ⟨hb.1, by simp; omega⟩) (Fr.of_ext (M := fun _ => False) (Ext.alloc _ _)) (fun _ _ h => h)), Lib.hid (HE.out.trans (Ext.alloc _ _))⟩, by simp [intOf]; omega⟩
      · obtain ⟨ra, rc, hat, hrun⟩ := run_look_yes (HKM.out.ext HE.out) hn hz
        obtain ⟨f, hf⟩ := resT_spec HV.out HR.out hn hz
        obtain ⟨d, hsh⟩ := HV.out.2 (j : Int) hn.1 hn.2 hz
        obtain ⟨r, hr⟩ : ∃ r, lookK K (j : Int) = r := ⟨_, rfl⟩
        obtain ⟨T, hT⟩ : ∃ T, resT K (j : Int) = T := ⟨_, rfl⟩
        rw [hr] at hat hrun hsh hf
        rw [hT] at hf
        have HSH := Lib.hid hsh
        have HAT := Lib.hid hat
        have HF := Lib.hid hf
        have HN : Hid (bdsU K (j + 1) = bdsU K j ++ [⟨(j : Int), T⟩] ∧ okU K (j + 1) = fits T 0 1) := Lib.hid ⟨by rw [bdsU, if_neg hz, hT], by rw [okU, HOK.out, decide_eq_false hz, hT]; simp⟩
        have L1 := hrun _ (Ext.refl _)
        clear hz hr hT hat hsh hf hrun
        go_wp2_with fail
        obtain ⟨w5, hw5⟩ : ∃ z, z = wr.alloc (.cells #[.int .i64 r.kind, .int .i64 r.n, .string r.name, .slice ra r.kids.length rc] 25) := ⟨_, rfl⟩
        have E5 : Hid (Ext wr w5) := Lib.hid (by rw [hw5]; exact Ext.alloc _ _)
        rw [← hw5]
        clear hw5 L1 s0
        refine (implresolve _ K r T HF.out _ S w5 sb mb d HSH.out (fun b hb => by have := HB.out b hb; have := Below.size E5.out; omega) (Tm.at_ext E5.out HAT.out) (HST.out.ext (HE.out.trans E5.out)) HV.out).mono ?_
        rintro e w6 ⟨e6, hcase⟩
        have E6 := Lib.hid (E5.out.trans e6)
        have lw5 := Below.size E5.out
        have lw6 := Below.size e6
        clear e6
        rcases hcase with ⟨hfit, a2, c2, rfl, ho⟩ | ⟨hfit, rfl⟩
        · have HN2 : Hid (okU K (j + 1) = true) := Lib.hid (by rw [HN.out.2]; exact hfit)
          have HOT := Lib.hid ho
          clear hfit ho
          go_upto_region 10 with (fail)
          obtain ⟨w7, hw7⟩ : ∃ z, z = w6.alloc (.cells #[.int .i64 T.kind, .int .i64 T.n, .string T.name, .slice a2 T.kids.length c2] 25) := ⟨_, rfl⟩
          have E7 : Hid (Ext w6 w7) := Lib.hid (by rw [hw7]; exact Ext.alloc _ _)
          have X7 : Hid (BoxT w7 w6.heap.size (.int .i64 T.kind) (.int .i64 T.n) (.string T.name) (.slice a2 T.kids.length c2)) := Lib.hid (by rw [hw7]; exact BoxT.new _ _ _ _ _ _ rfl)
          rw [← hw7]
          clear hw7
          have lw7 := Below.size E7.out
          have HO7 := Lib.hid (HO.out.ext (E6.out.trans E7.out))
          have HT7 := Lib.hid (own_zone (F' := fun b => wr.heap.size ≤ b) (own_ext1 HOT.out E7.out) (fun b hb => by omega))
          have hl : bs.length < 1048576 := by have := bdsU_len K j; rw [HBS.out]; omega
          have hw07 : wr.heap.size ≤ w7.heap.size := by omega
          have E07 := Lib.hid (HE.out.trans (E6.out.trans E7.out))
          obtain ⟨x0, x1, x2, x3, _, _, _, _⟩ := X7.out
          have lx := X7.out.lt
          go_wp2_with (at_builtin; refine wpList_append_ob (w0 := wr) (w1 := w7) rfl (.tmp 31) (.tmp 35) 27 rfl w.heap.size i0 Try.underlying27 HI.out HZ.out HZ1.out HZ2.out (.slice av bs.length cv) bs ⟨(j : Int), T⟩ a2 c2 rfl HO7.out rfl HT7.out hw07 lwr hl rfl ?_; intro av2 cv2 w8 hA2 hf2; have A8 := Lib.hid hA2; have F8 := Lib.hid hf2; clear hA2 hf2)
          have hlen : (bs ++ [(⟨(j : Int), T⟩ : Bd)]).length = bs.length + 1 := by simp
          exact ⟨⟨j + 1, av2, cv2, bs ++ [⟨(j : Int), T⟩], by omega, by go_num, by rw [hlen], Lib.hid (by rw [HN.out.1, HBS.out]), HN2, Lib.hid (by rw [hlen]; exact A8.out), Lib.hid (((Fr.of_ext E07.out).trans F8.out).toExt (fun k hk h => by omega))⟩, by simp [intOf]; omega⟩
        · have HNO : Hid (okU K 26 = false) := Lib.hid (okU_no (j := j + 1) (by rw [HN.out.2]; exact hfit) (by omega))
          clear hfit
          go_wp2_with fail
          go_ret2
          have h1 : allR K = [] := by unfold allR; rw [HNO.out]; rfl
          exact ⟨none, 0, by rw [h1, HNO.out]; rfl, by rw [h1]; exact OwnB.nil _ _, HE.out.trans (E6.out.trans (Ext.alloc _ _))⟩
    · have hjj : j = 26 := by omega
      subst hjj
      go_wp2_with fail
      go_ret2
      have h1 : allR K = bs := by unfold allR; rw [HOK.out, if_pos rfl, HBS.out]
      exact ⟨av, cv, by rw [h1, HOK.out]; rfl, by rw [h1]; exact HO.out.zone (fun b hb => hb.1), HE.out⟩

theorem vk0 : VK known0 := ⟨by simp [known0], fun n _ _ h => by rw [look_known0] at h; exact absurd rfl h⟩
theorem rk0 : ∃ ρ, Rk known0 ρ := ⟨fun _ => 0, fun n _ _ h => by rw [look_known0] at h; exact absurd rfl h⟩
open Classical in
/-- unifying two terms from nothing -/
noncomputable def uniR (a b : Tm) : Bool × List Tm := if h : ∃ r, ∃ f, uniF f known0 a b = some r then h.choose else (false, known0)
theorem uniR_spec {a b : Tm} {d e : Nat} (ha : shapeF a d = true) (hb : shapeF b e = true) : ∃ f, uniF f known0 a b = some (uniR a b) := by
  obtain ⟨f, r, h⟩ := uni_ex _ known0 a b d e vk0 rk0 (Nat.le_refl _) ha hb
  have he : ∃ r, ∃ f, uniF f known0 a b = some r := ⟨r, f, h⟩
  unfold uniR
  rw [dif_pos he]
  exact he.choose_spec
theorem uniR_good {a b : Tm} {d e : Nat} (ha : shapeF a d = true) (hb : shapeF b e = true) (h : (uniR a b).1 = true) : VK (uniR a b).2 ∧ ∃ ρ, Rk (uniR a b).2 ρ := by
  obtain ⟨f, hf⟩ := uniR_spec ha hb
  have g := outF f known0 a b d e (uniR a b).2 vk0 rk0 ha hb (by rw [hf, ← h])
  exact ⟨g.1, g.2.1⟩
noncomputable def utB (a b : Tm) : Bool := validF a && validF b && (uniR a b).1 && okU (uniR a b).2 26
noncomputable def utR (a b : Tm) : List Bd := if utB a b = true then bdsU (uniR a b).2 26 else []
theorem utR_no {a b : Tm} (h : utB a b = false) : utR a b = [] := by unfold utR; rw [h]; rfl
theorem unb0 : unb known0 = 26 := by decide
set_option maxRecDepth 100000 in
theorem implnewStore (S : Nat → Prop) (w : World) (hB : ∀ b, S b → b < w.heap.size) :
    Calls Try.prog 39 #[] w fun e w' => e = .returned (.pointer (some ⟨w.heap.size + 1, 0, none⟩)) ∧ StoT S w' (w.heap.size + 1) w.heap.size known0 [] (.slice none 0 0) ∧ Ext w w' := by
  have HB := Lib.hid hB
  clear hB
  have hmm := @run_makeMap Try.prog
  go_enter Try.func39, Try.ntmps39
  go_wp2_with fail
  go_ret
  refine ⟨rfl, ⟨⟨by go_simp, fun h => by have := HB.out _ h; omega, by omega, 0, by rw [unb0]; omega, (Km.made S w (fun h => by have := HB.out _ h; omega)).ext (Ext.alloc _ _)⟩, by go_simp, by go_simp, IntI.nil _ _, by simp [Value.ownBlock], by rw [unb0]; simp⟩, (Ext.alloc _ _).trans (Ext.alloc _ _)⟩
set_option maxRecDepth 100000 in
set_option maxHeartbeats 8000000 in
theorem implUnifyTerms (t u : Tm) (v v' : Value) (S : Nat → Prop) (w : World) (ht : Tm.at S w t v) (hu : Tm.at S w u v') :
    Calls Try.prog 26 #[v, v'] w (BdBO (utR t u) (.bool (utB t u)) w) := by
  replace ht := Tm.at_bound ht
  replace hu := Tm.at_bound hu
  obtain ⟨S, hB, ht, hu⟩ : ∃ S : Nat → Prop, (∀ b, S b → b < w.heap.size) ∧ Tm.at S w t v ∧ Tm.at S w u v' := ⟨_, fun b hb => hb.2, ht, hu⟩
  have HT := Lib.hid ht
  have HU := Lib.hid hu
  have HB := Lib.hid hB
  obtain ⟨a, c, rfl⟩ := at_form ht
  obtain ⟨a', c', rfl⟩ := at_form hu
  clear ht hu hB
  obtain ⟨b1, hb1⟩ : ∃ x, validF t = x := ⟨_, rfl⟩
  obtain ⟨b2, hb2⟩ : ∃ x, validF u = x := ⟨_, rfl⟩
  have HB1 := Lib.hid hb1
  have HB2 := Lib.hid hb2
  clear hb1 hb2
  have NO := Lib.hid (fun (h : utB t u = false) (w' : World) (e : Ext w w') => (show BdBO (utR t u) (.bool (utB t u)) w (.returned (.tuple #[.slice none 0 0, .bool false])) w' from ⟨none, 0, by rw [utR_no h, h]; rfl, by rw [utR_no h]; exact OwnB.nil _ _, e⟩))
  go_enter Try.func26, Try.ntmps26
  go_wp2_with fail
  obtain ⟨w2, hw2⟩ : ∃ z, z = (w.alloc (.cells #[.int .i64 t.kind, .int .i64 t.n, .string t.name, .slice a t.kids.length c] 25)).alloc (.cells #[.int .i64 u.kind, .int .i64 u.n, .string u.name, .slice a' u.kids.length c'] 25) := ⟨_, rfl⟩
  have E2 : Hid (Ext w w2) := Lib.hid (by rw [hw2]; exact (Ext.alloc _ _).trans (Ext.alloc _ _))
  have X2 : Hid (BoxT w2 w.heap.size (.int .i64 t.kind) (.int .i64 t.n) (.string t.name) (.slice a t.kids.length c)) := Lib.hid (by rw [hw2]; exact (BoxT.new _ _ _ _ _ _ rfl).ext (Ext.alloc _ _))
  have Y2 : Hid (BoxT w2 (w.heap.size + 1) (.int .i64 u.kind) (.int .i64 u.n) (.string u.name) (.slice a' u.kids.length c')) := Lib.hid (by rw [hw2]; exact BoxT.new _ _ _ _ _ _ (by simp))
  rw [← hw2]
  clear hw2
  refine (implnewStore S w2 (fun b hb => Nat.lt_of_lt_of_le (HB.out b hb) (Below.size E2.out))).mono ?_
  rintro e w3 ⟨rfl, hst, e3⟩
  have HST := Lib.hid hst
  have E3 := Lib.hid (E2.out.trans e3)
  have X3 := Lib.hid (X2.out.ext e3)
  have Y3 := Lib.hid (Y2.out.ext e3)
  obtain ⟨x0, x1, x2, x3, _, _, _, _⟩ := X3.out
  clear hst e3
  go_wp2_with fail
  refine (implTermValid t _ S w3 (Tm.at_ext E3.out HT.out)).mono ?_
  rw [HB1.out]
  rintro e w4 ⟨rfl, e4⟩
  have E4 := Lib.hid (E3.out.trans e4)
  have X4 := Lib.hid (X3.out.ext e4)
  have Y4 := Lib.hid (Y3.out.ext e4)
  have ST4 := Lib.hid (HST.out.ext e4)
  clear e4 x0 x1 x2 x3
  obtain ⟨x0, x1, x2, x3, _, _, _, _⟩ := X4.out
  obtain ⟨y0, y1, y2, y3, _, _, _, _⟩ := Y4.out
  cases b1
  · have HF : Hid (utB t u = false) := Lib.hid (by unfold utB; rw [HB1.out]; rfl)
    go_wp2_with fail
    go_ret2
    exact NO.out HF.out _ E4.out
  go_wp2_with fail
  refine (implTermValid u _ S w4 (Tm.at_ext E4.out HU.out)).mono ?_
  rw [HB2.out]
  rintro e w5 ⟨rfl, e5⟩
  have E5 := Lib.hid (E4.out.trans e5)
  have X5 := Lib.hid (X4.out.ext e5)
  have Y5 := Lib.hid (Y4.out.ext e5)
  have ST5 := Lib.hid (ST4.out.ext e5)
  clear e5 x0 x1 x2 x3 y0 y1 y2 y3
  obtain ⟨x0, x1, x2, x3, _, _, _, _⟩ := X5.out
  obtain ⟨y0, y1, y2, y3, _, _, _, _⟩ := Y5.out
  cases b2
  · have HF : Hid (utB t u = false) := Lib.hid (by unfold utB; rw [HB2.out, Bool.and_false]; rfl)
    go_wp2_with fail
    go_ret2
    exact NO.out HF.out _ E5.out
  obtain ⟨f, hf⟩ := uniR_spec (valid_shape HB1.out) (valid_shape HB2.out)
  obtain ⟨c1, K1, hr⟩ : ∃ c1 K1, uniR t u = (c1, K1) := ⟨_, _, rfl⟩
  rw [hr] at hf
  have HR := Lib.hid hr
  have HF := Lib.hid hf
  have HBB : Hid (utB t u = (c1 && okU K1 26)) := Lib.hid (by unfold utB; rw [HB1.out, HB2.out, HR.out]; rfl)
  have HG : Hid (c1 = true → VK K1 ∧ ∃ ρ, Rk K1 ρ) := Lib.hid (fun h => by have := uniR_good (valid_shape HB1.out) (valid_shape HB2.out) (by rw [HR.out]; exact h); rwa [HR.out] at this)
  have lw2 : w.heap.size ≤ w2.heap.size := Below.size E2.out
  clear hr hf
  go_wp2_with fail
  refine (implunify f known0 t u c1 K1 30 30 HF.out vk0 rk0 (valid_shape HB1.out) (valid_shape HB2.out) _ _ (.slice none 0 0) [] S w5 _ _ (fun b hb => Nat.lt_of_lt_of_le (HB.out b hb) (Below.size E5.out)) (Tm.at_ext E5.out HT.out) (Tm.at_ext E5.out HU.out) ST5.out).mono ?_
  rintro e w6 ⟨rfl, L2, ⟨tv, hs6, hn6, f6⟩, _⟩
  have HS6 := Lib.hid hs6
  have E6 := Lib.hid (((Fr.of_ext E5.out).trans f6).toExt (fun k hk h => by
    rcases h with h | h | h
    · omega
    · omega
    · simp [Value.ownBlock] at h))
  clear hs6 hn6 f6
  cases c1
  · have HF2 : Hid (utB t u = false) := Lib.hid (by rw [HBB.out]; rfl)
    go_wp2_with fail
    go_ret2
    exact NO.out HF2.out _ E6.out
  go_wp2_with fail
  refine (implall K1 S w6 _ _ (HG.out (by first | rfl | trivial)).1 (HG.out (by first | rfl | trivial)).2 (fun b hb => Nat.lt_of_lt_of_le (HB.out b hb) (Below.size E6.out)) HS6.out.1).mono ?_
  rintro e w7 ⟨a7, c7, rfl, ho, e7⟩
  have HO := Lib.hid ho
  have E7 := Lib.hid e7
  have lw6 := Below.size E6.out
  clear ho e7
  go_wp2_with fail
  go_ret2
  have h1 : utB t u = okU K1 26 := by rw [HBB.out]; rfl
  have h2 : utR t u = allR K1 := by unfold utR allR; rw [h1, HR.out]
  exact ⟨a7, c7, by rw [h1, h2]; rfl, by rw [h2]; exact HO.out.zone (fun b hb => by omega), E6.out.trans E7.out⟩
end Go.Proofs.Ytdelhgodhkbjdaa

/-
  The marks that a law writes into a term's memory, and reads back.
-/
namespace Go.Proofs.Ytdelhgodhkbjdaa
open Go.RowKit
set_option linter.unusedVariables false

/-- the last decimal digit -/
def digB (k : Nat) : UInt8 := UInt8.ofNat (48 + k % 10)
/-- the decimal digits of a number ahead of others -/
def decL (k : Nat) (acc : List UInt8) : List UInt8 := if k = 0 then acc else decL (k / 10) (digB k :: acc)
termination_by k
theorem decL_zero (acc : List UInt8) : decL 0 acc = acc := by rw [decL]; simp
theorem decL_pos {k : Nat} (h : 0 < k) (acc : List UInt8) : decL k acc = decL (k / 10) (digB k :: acc) := by rw [decL, if_neg (by omega)]
theorem decL_le : ∀ (n k : Nat) (acc : List UInt8), k < 10 ^ n → acc.length ≤ (decL k acc).length ∧ (decL k acc).length ≤ acc.length + n
  | 0, k, acc, h => by
    have : k = 0 := by simp at h; omega
    subst this
    rw [decL_zero]
    omega
  | n + 1, k, acc, h => by
    by_cases hk : k = 0
    · subst hk; rw [decL_zero]; omega
    · rw [decL_pos (by omega)]
      have := decL_le n (k / 10) (digB k :: acc) (Nat.div_lt_of_lt_mul (by rw [Nat.pow_succ, Nat.mul_comm] at h; exact h))
      simp only [List.length_cons] at this
      omega
/-- the mark of number k -/
def markB (k : Nat) : ByteArray := if k = 0 then ⟨#[109, 48]⟩ else ⟨(109 :: decL k []).toArray⟩
theorem markB_size {k : Nat} (h : k < 10000000) : (markB k).size ≤ 1048576 := by
  unfold markB
  split
  · decide
  · have := (decL_le 7 k [] (by omega)).2
    simp [ByteArray.size] at this ⊢
    omega
mutual
def markT : Tm → Nat → Tm
  | .mk _ _ _ ks, k => .mk k (k + 1 : Nat) (markB (k + 2)) (markL ks (k + 3))
def markL : List Tm → Nat → List Tm
  | [], _ => []
  | t :: ts, k => markT t k :: markL ts (k + 3 * Tm.sz t)
end
theorem markL_len : ∀ (ts : List Tm) (k : Nat), (markL ts k).length = ts.length
  | [], _ => rfl
  | t :: ts, k => by simp [markL, markL_len ts]
theorem markL_get : ∀ {ts : List Tm} {j k : Nat} {t : Tm}, ts[j]? = some t → (markL ts k)[j]? = some (markT t (k + 3 * Tm.szL (ts.take j)))
  | [], j, k, t, h => by simp at h
  | t0 :: ts, 0, k, t, h => by simp at h; subst h; simp [markL, Tm.szL]
  | t0 :: ts, j + 1, k, t, h => by
    simp only [markL, List.getElem?_cons_succ, List.take_succ_cons, Tm.szL]
    rw [markL_get (by simpa using h)]
    congr 2
    omega
theorem markL_snoc : ∀ {ts : List Tm} {j k : Nat} {t : Tm}, ts[j]? = some t → markL (ts.take (j + 1)) k = markL (ts.take j) k ++ [markT t (k + 3 * Tm.szL (ts.take j))]
  | [], j, k, t, h => by simp at h
  | t0 :: ts, 0, k, t, h => by simp at h; subst h; simp [markL, Tm.szL]
  | t0 :: ts, j + 1, k, t, h => by
    simp only [markL, List.take_succ_cons, Tm.szL, List.cons_append]
    rw [markL_snoc (by simpa using h)]
    congr 4
    omega
theorem szL_snoc' {ts : List Tm} {j : Nat} {t : Tm} (h : ts[j]? = some t) : Tm.szL (ts.take (j + 1)) = Tm.szL (ts.take j) + Tm.sz t := by
  induction ts generalizing j with
  | nil => simp at h
  | cons t0 ts ih =>
    cases j with
    | zero => simp at h; subst h; simp [Tm.szL]
    | succ j =>
      have := ih (j := j) (by simpa using h)
      simp only [List.take_succ_cons, Tm.szL]
      omega
theorem szL_take_le : ∀ (ts : List Tm) (j : Nat), Tm.szL (ts.take j) ≤ Tm.szL ts
  | [], j => by simp
  | t :: ts, 0 => by simp [Tm.szL]
  | t :: ts, j + 1 => by have := szL_take_le ts j; simp only [List.take_succ_cons, Tm.szL]; omega
theorem markT_kids (t : Tm) (k : Nat) : (markT t k).kids = markL t.kids (k + 3) := by cases t; rfl

set_option maxHeartbeats 1000000 in
theorem ba_app (a b : List UInt8) : ((⟨a.toArray⟩ : ByteArray) ++ (⟨b.toArray⟩ : ByteArray)) = ⟨(a ++ b).toArray⟩ := ByteArray.ext (by simp [ByteArray.data_append])
/-- a string of one byte -/
theorem conv_one (w : World) (T : TypeId) (c : UInt8) (x : Int) (hx : x = c.toNat) : Sem.run Try.prog (convert 22 9 (.slice (some ⟨w.heap.size, 0, none⟩) 1 1)) (w.alloc (.cells #[.int .u8 x] T)) = .ok (.string ⟨#[c]⟩) (w.alloc (.cells #[.int .u8 x] T)) := by
  subst hx
  exact run_convert_bytes_back (P := Try.prog) _ 22 9 5 ⟨w.heap.size, 0, none⟩ 1 [c] Try.underlying22 Try.underlying5 Try.underlying9 (fun j hj => by
    have h1 : j < 1 := hj
    have : j = 0 := by omega
    subst this
    exact cell_new w _ _ 0 _ rfl)
theorem digit_toNat (j : Nat) : (48 + (j : Int) % 10) = ((digB j).toNat : Int) := by
  unfold digB
  rw [UInt8.toNat_ofNat']
  omega

set_option maxRecDepth 100000 in
theorem lawsmarkText (k : Nat) (hk : k < 10000000) (w : World) : Calls Try.prog 66 #[.int .i64 k] w fun e w' => e = .returned (.string (markB k)) ∧ Ext w w' := by
  by_cases h0 : k = 0
  · subst h0
    go_enter Try.func66, Try.ntmps66
    go_wp2_with fail
    go_ret
    exact ⟨rfl, Ext.refl _⟩
  · have HD := Lib.hid (decL_le 7 k [] (by omega))
    have hpos : 0 < k := by omega
    have HK := Lib.hid hk
    have H0 := Lib.hid h0
    have hk2 : k ≤ 9223372036854775807 := by omega
    clear h0 hk
    go_enter Try.func66, Try.ntmps66
    go_wp2_with fail
    go_loopw [0, 3] (fun n s wr => ∃ (j : Nat) (acc : List UInt8), j ≤ k ∧ n = .int .i64 j ∧ s = .string ⟨acc.toArray⟩ ∧ Hid (decL j acc = decL k []) ∧ Ext w wr) (fun n _ _ => (intOf n).toNat)
    case atStart => exact ⟨k, [], Nat.le_refl _, rfl, rfl, Lib.hid rfl, Ext.refl _⟩
    case round =>
      obtain ⟨j, acc, hj, rfl, rfl, HA, he⟩ := hrel
      have hl := (decL_le 7 j acc (by have := HK.out; omega)).1
      rw [HA.out] at hl
      have hacc : acc.length ≤ 7 := by have := HD.out.2; simp at this; omega
      clear hl
      by_cases hz : 0 < j
      · have HN := Lib.hid (decL_pos hz acc)
        have hd1 : j / 10 ≤ k := by omega
        have hd2 : j / 10 < j := by omega
        have hcv := conv_one wr 5 _ _ (digit_toNat j)
        go_wp2_with fail
        go_roundw
        case rel => exact ⟨j / 10, digB j :: acc, hd1, by go_num, congrArg Value.string (ba_app [_] _), Lib.hid (by rw [← HN.out, HA.out]), he.trans (Ext.alloc _ _)⟩
        case measure => simp only [intOf]; omega
      · obtain rfl : j = 0 := by omega
        have HZ := Lib.hid (decL_zero acc)
        go_wp2_with fail
        go_ret
        refine ⟨retS ?_, he⟩
        have h := HA.out
        rw [HZ.out] at h
        unfold markB
        rw [if_neg H0.out, ← h]
        exact ba_app [109] acc

end Go.Proofs.Ytdelhgodhkbjdaa
