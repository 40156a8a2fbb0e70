/-
  The program's store: occurs.
-/
import Derived.StillTailTactics
import Derived.Maps.OwnOps
import Derived.Test.YtognkaebiafgbaaGreatMv45
import Derived.Test.YtognkaebiafgbaaGreatMv13
namespace Go.Proofs.YtognkaebiafgbaaGreat
open Go.RowKit Go.Maps
set_option linter.unusedVariables false
set_option maxHeartbeats 1000000 in
theorem imploccurs1 (K : List Tm) (n : Int) (ρ : Int → Nat) (S : Nat → Prop) (sb mb b : Nat) (t : Tm) (hC : OccC K n ρ S sb mb b t) (v : Value) (M : List Tm) (w : World) (d B0 B1 B3 : Nat) (hs : shapeF t d = true) (ht : Tm.at S w t v) (hB : ∀ b, S b → b < w.heap.size) (hst : Sto S w sb mb K) (hM : Met w b M) (hok : MetOk K n ρ M t)
    (c0 : w.cell? ⟨B0, 0, none⟩ = some (.pointer (some ⟨sb, 0, none⟩))) (c1 : w.cell? ⟨B1, 0, none⟩ = some (.int .i64 n)) (c3 : w.cell? ⟨B3, 0, none⟩ = some (.map (some b))) :
    Calls Tryz.prog 82 #[v, .pointer (some ⟨B0, 0, none⟩), .pointer (some ⟨B1, 0, none⟩), .pointer (some ⟨B3, 0, none⟩)] w (OccP K n t M b w) := by
  have HC := Lib.hid (fun w' (e : Ext w w') => hC v M w' d hs (Tm.at_ext e ht) (fun b h => Nat.lt_of_lt_of_le (hB b h) (Below.size e)) (hst.ext e) (hM.ext e) hok)
  have b0 := block_lt_of_cell c0
  have b1 := block_lt_of_cell c1
  have b3 := block_lt_of_cell c3
  simp only at b0 b1 b3
  obtain ⟨a, c, rfl⟩ := at_form ht
  clear hC ht hB hst hM hok hs
  go_enter Tryz.func82, Tryz.ntmps82
  go_wp2_with fail
  refine (HC.out _ (Ext.alloc _ _)).mono ?_
  rintro e w1 ⟨rfl, f1, h1⟩
  have H := Lib.hid (And.intro ((Fr.alloc (M := fun k => k = b) _ _).trans f1) h1)
  clear f1 h1
  go_wp2_with fail
  go_ret
  exact ⟨rfl, H.out.1, H.out.2⟩
theorem atT_at {f : Tm → Bool} {ts : List Tm} {j : Nat} {t : Tm} (h : ts[j]? = some t) : atT f ts j = f t := by unfold atT; rw [h]
def OccI (K : List Tm) (n : Int) (M : List Tm) (ks : List Tm) (b : Nat) (w0 : World) (j : Nat) (w' : World) : Prop :=
  Fr (fun k => k = b) w0 w' ∧ ((∀ i, i < j → atT (occB K n) ks i = false) → ∃ M', Met w' b M' ∧ MetTo K n M M')
set_option maxRecDepth 100000 in
set_option maxHeartbeats 4000000 in
theorem imploccurs (K : List Tm) (n : Int) (ρ : Int → Nat) (S : Nat → Prop) (sb mb b : Nat) (hv : VK K) (hr : Rk K ρ) (hn : 0 ≤ n ∧ n ≤ 25) (h0 : (lookK K n).kind = 0) (hSb : ¬ S b) (hbs : b ≠ sb) (hbm : b ≠ mb) :
    ∀ (R s : Nat) (t : Tm), (∀ m, occV m t → ρ m < R) → Tm.sz t ≤ s → OccC K n ρ S sb mb b t := by
  intro R
  induction R using Nat.strongRecOn with
  | _ R IHR =>
    intro s
    induction s with
    | zero => intro t _ hs; have := Tm.sz_pos t; omega
    | succ s IHs =>
      intro t hR hsz v M w d hs ht hB hst hM hok
      have HT := Lib.hid ht
      have HST := Lib.hid hst
      have HM := Lib.hid hM
      have HOK := Lib.hid hok
      have HB := Lib.hid hB
      have HS := Lib.hid hs
      have HV := Lib.hid hv
      have H0 := Lib.hid h0
      have hlb := hM.lt
      have hls := hst.lt
      obtain ⟨a, c, rfl⟩ := at_form ht
      clear ht hst hM hok hB
      by_cases hk : t.kind = 1
      · have hm := shape_occ hs hk
        have hk' : (t.kind == 1) = true := by simp [hk]
        have HVAR := Lib.hid (occT_var (K := K) (n := n) hs hk)
        by_cases hz : (lookK M t.n).kind = 0
        · obtain ⟨x, hx, ⟨d', hsx⟩, hxt⟩ := walk_ex hv hr (ρ t.n + 1) t d hs (fun _ => by omega)
          have HX := Lib.hid hx
          have HSX := Lib.hid hsx
          have HWO := Lib.hid (walk_occ hv h0 hs hx)
          have HXT : Hid (x.kind ≠ 1 → ∀ p, occV p x → ρ p < ρ t.n) := Lib.hid (fun h => by
            rcases hxt with rfl | ⟨_, h2⟩
            · exact absurd hk h
            · exact h2)
          have HRt := Lib.hid (hR _ (occ_var hk))
          have hzb : (!(lookK M t.n).kind == 0) = false := by simp [hz]
          have HZ := Lib.hid hz
          have HK : Hid (((((w.alloc (.cells #[.pointer (some ⟨sb, 0, none⟩)] 54)).alloc (.cells #[.int .i64 n] 3)).alloc (.cells #[.int .i64 t.kind, .int .i64 t.n, .string t.name, .slice a t.kids.length c] 26)).alloc (.cells #[.map (some b)] 97)).cell? ⟨w.heap.size, 0, none⟩ = some (.pointer (some ⟨sb, 0, none⟩)) ∧ ((((w.alloc (.cells #[.pointer (some ⟨sb, 0, none⟩)] 54)).alloc (.cells #[.int .i64 n] 3)).alloc (.cells #[.int .i64 t.kind, .int .i64 t.n, .string t.name, .slice a t.kids.length c] 26)).alloc (.cells #[.map (some b)] 97)).cell? ⟨w.heap.size + 1, 0, none⟩ = some (.int .i64 n) ∧ ((((w.alloc (.cells #[.pointer (some ⟨sb, 0, none⟩)] 54)).alloc (.cells #[.int .i64 n] 3)).alloc (.cells #[.int .i64 t.kind, .int .i64 t.n, .string t.name, .slice a t.kids.length c] 26)).alloc (.cells #[.map (some b)] 97)).cell? ⟨w.heap.size + 1 + 1 + 1, 0, none⟩ = some (.map (some b)) ∧ BoxT ((((w.alloc (.cells #[.pointer (some ⟨sb, 0, none⟩)] 54)).alloc (.cells #[.int .i64 n] 3)).alloc (.cells #[.int .i64 t.kind, .int .i64 t.n, .string t.name, .slice a t.kids.length c] 26)).alloc (.cells #[.map (some b)] 97)) (w.heap.size + 1 + 1) (.int .i64 t.kind) (.int .i64 t.n) (.string t.name) (.slice a t.kids.length c)) := Lib.hid ⟨by go_simp, by go_simp, by go_simp, by refine ⟨?_, ?_, ?_, ?_, ?_, ?_, ?_, ?_⟩ <;> go_simp⟩
          have L := run_met (HM.out.ext ((((Ext.alloc w (.cells #[.pointer (some ⟨sb, 0, none⟩)] 54)).trans (Ext.alloc _ (.cells #[.int .i64 n] 3))).trans (Ext.alloc _ (.cells #[.int .i64 t.kind, .int .i64 t.n, .string t.name, .slice a t.kids.length c] 26))).trans (Ext.alloc _ (.cells #[.map (some b)] 97)))) hm
          rw [hzb] at L
          have nb0 : ¬ w.heap.size = b := by omega
          have nb1 : ¬ w.heap.size + 1 = b := by omega
          have nb2 : ¬ w.heap.size + 1 + 1 = b := by omega
          have nb3 : ¬ w.heap.size + 1 + 1 + 1 = b := by omega
          have HKT := Lib.hid hk
          have HUN := Lib.hid (fun hk => walk_free hx hk)
          clear hx hsx hxt hz hk hs hR hv hr h0 hzb
          go_enter Tryz.func71, Tryz.ntmps71
          go_wp2_with (at_mapUpdate; refine wp_put_met rfl _ _ _ rfl (HM.out.ext ((((Ext.alloc _ _).trans (Ext.alloc _ _)).trans (Ext.alloc _ _)).trans (Ext.alloc _ _))) hm HZ.out rfl rfl rfl ?_; intro w9 hM9 f9; obtain ⟨k0, k1, k3, kt⟩ := HK.out; have c0 := f9.cell nb0 k0; have c1 := f9.cell nb1 k1; have c3 := f9.cell nb3 k3; have T9 := Lib.hid (kt.fr f9 nb2); have M9 := Lib.hid hM9; have F9 := Lib.hid ((Fr.of_ext ((((Ext.alloc _ _).trans (Ext.alloc _ _)).trans (Ext.alloc _ _)).trans (Ext.alloc _ _))).trans f9); clear hM9 f9 k0 k1 k3 kt; obtain ⟨t0, t1, t2, t3, _, _, _, _⟩ := T9.out)
          have HB9 : Hid (∀ b, S b → b < w9.heap.size) := Lib.hid (fun b h => Nat.lt_of_lt_of_le (HB.out b h) F9.out.size)
          have HST9 := Lib.hid (HST.out.fr F9.out (fun k hk => by subst hk; exact ⟨hSb, hbm, hbs⟩))
          refine (implwalk _ K t x HX.out _ S _ sb mb d HV.out HS.out HB9.out (F9.out.at HT.out (fun k hk h => hSb (h ▸ hk))) HST9.out).mono ?_
          rintro e w10 ⟨v', rfl, hvx, ex⟩
          obtain ⟨ax, cx, rfl⟩ := at_form hvx
          have HVX := Lib.hid hvx
          have M10 := Lib.hid (M9.out.ext ex)
          have HST10 := Lib.hid (HST9.out.ext ex)
          have HB10 : Hid (∀ b, S b → b < w10.heap.size) := Lib.hid (fun b h => Nat.lt_of_lt_of_le (HB9.out b h) (Below.size ex))
          have F10 := Lib.hid (F9.out.trans (Fr.of_ext ex))
          replace c0 := ex.cell c0
          replace c1 := ex.cell c1
          replace c3 := ex.cell c3
          have l0 := block_lt_of_cell c0
          have l1 := block_lt_of_cell c1
          have l3 := block_lt_of_cell c3
          simp only at l0 l1 l3
          have MT : Hid (occB K n t = false → MetTo K n M (M.set t.n.toNat (varT 0))) := Lib.hid (fun hf m h1 h2 h3 => by
            rw [look_set HM.out.1 hm ⟨h1, h2⟩] at h3
            split at h3
            · rename_i e
              subst e
              exact .inr (fun hr => by rw [occB_true (HVAR.out.2 hr)] at hf; cases hf)
            · exact .inl h3)
          clear ex hvx t0 t1 t2 t3 T9 L
          by_cases hxk : x.kind = 1
          · have hxk' : (x.kind == 1) = true := by simp [hxk]
            have HE : Hid (occB K n t = (x.n == n)) := Lib.hid (by
              have h1 := shape_occ HSX.out hxk
              have h2 := HUN.out hxk
              rw [Bool.eq_iff_iff, occB_iff, HWO.out, occT_var HSX.out hxk]
              simp only [beq_iff_eq]
              constructor
              · exact fun h => rch_unbound h (fun h => h.2.2 h2)
              · intro h; rw [h]; exact Rch.here)
            clear hxk
            go_wp2_with fail
            go_ret
            refine ⟨retB HE.out.symm, F10.out.trans (Fr.of_ext (Ext.alloc _ _)), fun hf => ⟨_, M10.out.ext (Ext.alloc _ _), MT.out hf⟩⟩
          · have hxk' : (x.kind == 1) = false := by simpa using hxk
            have HEQ : Hid (occB K n x = occB K n t) := Lib.hid (by
              rw [Bool.eq_iff_iff, occB_iff, occB_iff, HWO.out])
            have HOK2 : Hid (MetOk K n ρ (M.set t.n.toNat (varT 0)) x) := Lib.hid (fun m h1 h2 h3 => by
              rw [look_set HM.out.1 hm ⟨h1, h2⟩] at h3
              split at h3
              · rename_i e
                subst e
                exact .inr (HXT.out hxk)
              · rcases HOK.out m h1 h2 h3 with h4 | h4
                · exact .inl h4
                · exact .inr (fun p hp => Nat.lt_trans (HXT.out hxk p hp) (h4 _ (occ_var HKT.out))))
            have HIH := Lib.hid (IHR (ρ t.n) HRt.out (Tm.sz x) x (HXT.out hxk) (Nat.le_refl _))
            clear hxk
            go_wp2_with fail
            refine (HIH.out _ _ _ d' HSX.out (Tm.at_ext (Ext.alloc _ _) HVX.out) (fun b h => Nat.lt_of_lt_of_le (HB10.out b h) (Below.size (Ext.alloc _ _))) (HST10.out.ext (Ext.alloc _ _)) (M10.out.ext (Ext.alloc _ _)) HOK2.out).mono ?_
            rintro e w12 ⟨rfl, f12, h12⟩
            have F12 := Lib.hid ((F10.out.trans (Fr.of_ext (Ext.alloc _ _))).trans f12)
            have H12 := Lib.hid h12
            clear f12 h12
            go_wp2_with fail
            go_ret
            refine ⟨retB HEQ.out, F12.out, fun hf => ?_⟩
            obtain ⟨M', h1, h2⟩ := H12.out (by rw [HEQ.out]; exact hf)
            exact ⟨M', h1, (MT.out hf).trans h2⟩
        · have L := run_met (HM.out.ext ((((Ext.alloc w (.cells #[.pointer (some ⟨sb, 0, none⟩)] 54)).trans (Ext.alloc _ (.cells #[.int .i64 n] 3))).trans (Ext.alloc _ (.cells #[.int .i64 t.kind, .int .i64 t.n, .string t.name, .slice a t.kids.length c] 26))).trans (Ext.alloc _ (.cells #[.map (some b)] 97)))) hm
          have hzb : (!(lookK M t.n).kind == 0) = true := by simpa using hz
          rw [hzb] at L
          have HE : Hid (occB K n t = false) := Lib.hid (occB_false (fun h => by
            rcases HOK.out t.n hm.1 hm.2 hz with h1 | h1
            · exact h1 (HVAR.out.1 h)
            · exact absurd (h1 _ (occ_var hk)) (Nat.lt_irrefl _)))
          clear hz hk hs hR hv hr h0 hzb
          go_enter Tryz.func71, Tryz.ntmps71
          go_wp2_with fail
          go_ret
          exact ⟨retB HE.out.symm, Fr.of_ext ((((Ext.alloc w (.cells #[.pointer (some ⟨sb, 0, none⟩)] 54)).trans (Ext.alloc _ (.cells #[.int .i64 n] 3))).trans (Ext.alloc _ (.cells #[.int .i64 t.kind, .int .i64 t.n, .string t.name, .slice a t.kids.length c] 26))).trans (Ext.alloc _ (.cells #[.map (some b)] 97))), fun _ => ⟨M, HM.out.ext ((((Ext.alloc w (.cells #[.pointer (some ⟨sb, 0, none⟩)] 54)).trans (Ext.alloc _ (.cells #[.int .i64 n] 3))).trans (Ext.alloc _ (.cells #[.int .i64 t.kind, .int .i64 t.n, .string t.name, .slice a t.kids.length c] 26))).trans (Ext.alloc _ (.cells #[.map (some b)] 97))), fun m _ _ h => .inl h⟩⟩
      · have hk' : (t.kind == 1) = false := by simpa using hk
        obtain ⟨kk, nn, ss, ks⟩ := t
        simp only [Tm.kind, Tm.n, Tm.name, Tm.kids] at hk hk' HT ⊢
        have HOC := Lib.hid (occT_mk (K := K) (n := n) (v := nn) (s := ss) (ks := ks) hk)
        have HK : Hid (((((w.alloc (.cells #[.pointer (some ⟨sb, 0, none⟩)] 54)).alloc (.cells #[.int .i64 n] 3)).alloc (.cells #[.int .i64 kk, .int .i64 nn, .string ss, .slice a ks.length c] 26)).alloc (.cells #[.map (some b)] 97)).cell? ⟨w.heap.size, 0, none⟩ = some (.pointer (some ⟨sb, 0, none⟩)) ∧ ((((w.alloc (.cells #[.pointer (some ⟨sb, 0, none⟩)] 54)).alloc (.cells #[.int .i64 n] 3)).alloc (.cells #[.int .i64 kk, .int .i64 nn, .string ss, .slice a ks.length c] 26)).alloc (.cells #[.map (some b)] 97)).cell? ⟨w.heap.size + 1, 0, none⟩ = some (.int .i64 n) ∧ ((((w.alloc (.cells #[.pointer (some ⟨sb, 0, none⟩)] 54)).alloc (.cells #[.int .i64 n] 3)).alloc (.cells #[.int .i64 kk, .int .i64 nn, .string ss, .slice a ks.length c] 26)).alloc (.cells #[.map (some b)] 97)).cell? ⟨w.heap.size + 1 + 1 + 1, 0, none⟩ = some (.map (some b)) ∧ BoxT ((((w.alloc (.cells #[.pointer (some ⟨sb, 0, none⟩)] 54)).alloc (.cells #[.int .i64 n] 3)).alloc (.cells #[.int .i64 kk, .int .i64 nn, .string ss, .slice a ks.length c] 26)).alloc (.cells #[.map (some b)] 97)) (w.heap.size + 1 + 1) (.int .i64 kk) (.int .i64 nn) (.string ss) (.slice a ks.length c)) := Lib.hid ⟨by go_simp, by go_simp, by go_simp, by refine ⟨?_, ?_, ?_, ?_, ?_, ?_, ?_, ?_⟩ <;> go_simp⟩
        have HIH : Hid (∀ (j : Nat) (u : Tm), ks[j]? = some u → OccC K n ρ S sb mb b u) := Lib.hid (fun j u h => IHs u (fun m hm => hR m (.inr (occL_mem h hm))) (by have := kid_lt (k := kk) (n := nn) (s := ss) h; omega))
        have HSL := Lib.hid (show Tm.sl S w ks (.slice a ks.length c) by obtain ⟨_, sv, e, h⟩ := Tm.at_iff.1 HT.out; cases e; exact h)
        clear hk hs hR hv hr h0 IHs IHR
        go_enter Tryz.func71, Tryz.ntmps71
        go_wp2_with fail
        obtain ⟨w4, hw4⟩ : ∃ x, x = ((((w.alloc (.cells #[.pointer (some ⟨sb, 0, none⟩)] 54)).alloc (.cells #[.int .i64 n] 3)).alloc (.cells #[.int .i64 kk, .int .i64 nn, .string ss, .slice a ks.length c] 26)).alloc (.cells #[.map (some b)] 97)) := ⟨_, rfl⟩
        have E4 : Hid (Ext w w4) := Lib.hid (by rw [hw4]; exact ((((Ext.alloc w (.cells #[.pointer (some ⟨sb, 0, none⟩)] 54)).trans (Ext.alloc _ (.cells #[.int .i64 n] 3))).trans (Ext.alloc _ (.cells #[.int .i64 kk, .int .i64 nn, .string ss, .slice a ks.length c] 26))).trans (Ext.alloc _ (.cells #[.map (some b)] 97))))
        rw [← hw4] at HK ⊢
        clear hw4
        refine (slicesContainsFunc 82 _ ks S (OccI K n M ks b w4) (atT (occB K n) ks) _ w4 (fun _ _ => by kernel_rfl) (Lib.hid ?hstep) (Lib.hid ?hsl) (Lib.hid ?hbeg)).mono ?hmain
        case hstep =>
          intro j u vu w' hj hall hI hat
          obtain ⟨f, hM'⟩ := hI
          obtain ⟨M', h1, h2⟩ := hM' hall
          obtain ⟨k0, k1, k3, _⟩ := HK.out
          have sz4 := Below.size E4.out
          refine (imploccurs1 K n ρ S sb mb b u (HIH.out j u hj) vu M' w' (d - 1) _ _ _ (shape_kid HS.out hj) hat (fun b h => Nat.lt_of_lt_of_le (HB.out b h) (Nat.le_trans sz4 f.size)) ((HST.out.ext E4.out).fr f (fun k hk => by subst hk; exact ⟨hSb, hbm, hbs⟩)) h1 (HOK.out.to h2 (fun p hp => .inr (occL_mem hj hp))) (f.cell (by omega) k0) (f.cell (by omega) k1) (f.cell (by omega) k3)).mono ?_
          rintro e w'' ⟨rfl, f2, h3⟩
          refine ⟨by rw [atT_at hj], f.trans f2, fun hal => ?_⟩
          obtain ⟨M'', q1, q2⟩ := h3 (by have := hal j (by omega); rwa [atT_at hj] at this)
          exact ⟨M'', q1, h2.trans q2⟩
        case hsl =>
          intro j w' hI
          exact hI.1.sl (Tm.sl_ext E4.out HSL.out) (fun k hk h => hSb (h ▸ hk))
        case hbeg => exact ⟨Fr.refl _ _, fun _ => ⟨M, HM.out.ext E4.out, fun m _ _ h => .inl h⟩⟩
        case hmain =>
          rintro e w5 (⟨j, hj, hb, hbj, rfl, hI⟩ | ⟨hb, rfl, hI⟩)
          · have H5 := Lib.hid hI
            have HE : Hid (occB K n (.mk kk nn ss ks) = true) := Lib.hid (by
              obtain ⟨u, hu⟩ := getk hj
              rw [atT_at hu] at hbj
              exact occB_true (HOC.out.2 ⟨j, u, hu, occB_iff.1 hbj⟩))
            clear hI hb hbj
            go_wp2_with fail
            go_ret
            exact ⟨retB HE.out.symm, (Fr.of_ext E4.out).trans H5.out.1, fun h => by rw [HE.out] at h; cases h⟩
          · have H5 := Lib.hid hI
            have H6 := Lib.hid hb
            have HE : Hid (occB K n (.mk kk nn ss ks) = false) := Lib.hid (occB_false (fun h => by
              obtain ⟨j, u, hu, ho⟩ := HOC.out.1 h
              have := hb j (List.getElem?_eq_some_iff.1 hu).1
              rw [atT_at hu, occB_true ho] at this
              cases this))
            clear hI hb
            go_wp2_with fail
            go_ret
            exact ⟨retB HE.out.symm, (Fr.of_ext E4.out).trans H5.out.1, fun _ => H5.out.2 H6.out⟩
end Go.Proofs.YtognkaebiafgbaaGreat

namespace Go.Proofs.YtognkaebiafgbaaGreat
open Go.RowKit Go.Maps
set_option linter.unusedVariables false
def StoT (S : Nat → Prop) (w : World) (sb mb : Nat) (K : List Tm) (L : List Int) (tv : Value) : Prop :=
  Sto S w sb mb K ∧ w.cell? ⟨sb, 1, none⟩ = some tv ∧ w.frozen? ⟨sb, 1, none⟩ = false ∧ IntI (fun _ => True) L tv w ∧ (∀ g, tv.ownBlock = some g → g ≠ sb ∧ g ≠ mb ∧ ¬ S g) ∧ L.length + unb K ≤ 1000
theorem StoT.fr {S M : Nat → Prop} {w w' : World} {sb mb : Nat} {K : List Tm} {L : List Int} {tv : Value} (h : StoT S w sb mb K L tv) (f : Fr M w w') (hM : ∀ k, M k → ¬ S k ∧ k ≠ mb ∧ k ≠ sb ∧ ¬ tv.ownBlock = some k) : StoT S w' sb mb K L tv :=
  ⟨h.1.fr f (fun k hk => ⟨(hM k hk).1, (hM k hk).2.1, (hM k hk).2.2.1⟩), f.cell (fun hm => (hM _ hm).2.2.1 rfl) h.2.1, f.frozen h.1.lt (fun hm => (hM _ hm).2.2.1 rfl) h.2.2.1, ⟨own_keep h.2.2.2.1.1 f (fun g hg hm => (hM g hm).2.2.2 hg), fun _ _ => trivial, h.2.2.2.1.2.2⟩, h.2.2.2.2⟩
theorem StoT.ext {S : Nat → Prop} {w w' : World} {sb mb : Nat} {K : List Tm} {L : List Int} {tv : Value} (h : StoT S w sb mb K L tv) (f : Ext w w') : StoT S w' sb mb K L tv := h.fr (M := fun _ => False) (Fr.of_ext f) (fun _ h => h.elim)
def MTst (sb mb : Nat) (tv : Value) (k : Nat) : Prop := k = sb ∨ k = mb ∨ tv.ownBlock = some k
def StoP (S : Nat → Prop) (sb mb : Nat) (K' : List Tm) (L L2 : List Int) (tv : Value) (w w' : World) : Prop :=
  ∃ tv', StoT S w' sb mb K' (L ++ L2) tv' ∧ (∀ g, tv'.ownBlock = some g → tv.ownBlock = some g ∨ w.heap.size ≤ g) ∧ Fr (MTst sb mb tv) w w'
theorem info_int2 : (Tryz.prog.info? 3).map (fun i => (i.zero, i.size, i.bytes)) = some (some (.int .i64 0), 1, 8) := by kernel_rfl
theorem int_parts {o : Option TypeInfo} {z : Value} (h : o.map (fun i => (i.zero, i.size, i.bytes)) = some (some z, 1, 8)) : ∃ i, o = some i ∧ i.zero = some z ∧ i.size = 1 ∧ i.bytes = 8 := by
  cases o with
  | none => simp at h
  | some i => simp at h; exact ⟨i, rfl, h⟩
set_option maxRecDepth 100000 in
set_option maxHeartbeats 8000000 in
theorem implbind (K : List Tm) (n : Int) (t : Tm) (d : Nat) (hv : VK K) (hr : ∃ ρ, Rk K ρ) (hn : 0 ≤ n ∧ n ≤ 25) (h0 : (lookK K n).kind = 0) (hs : shapeF t d = true) (v tv : Value) (L : List Int) (S : Nat → Prop) (w : World) (sb mb : Nat) (hB : ∀ b, S b → b < w.heap.size) (ht : Tm.at S w t v) (hst : StoT S w sb mb K L tv) :
    Calls Tryz.prog 57 #[.pointer (some ⟨sb, 0, none⟩), .int .i64 n, v] w fun e w' => e = .returned (.bool (!occB K n t)) ∧ StoP S sb mb (if occB K n t = true then K else K.set n.toNat t) L (if occB K n t = true then [] else [n]) tv w w' := by
  obtain ⟨ρ, hr⟩ := hr
  obtain ⟨R, hR⟩ := rank_top ρ
  obtain ⟨a, c, rfl⟩ := at_form ht
  have hsb := hst.1.lt
  obtain ⟨m0, hm0, hkm⟩ := hst.1.km
  have hmb := hkm.lt
  have hne : sb ≠ mb := hst.1.2.2.1
  obtain ⟨ta, tc, rfl⟩ := hst.2.2.2.1.form
  have HW := Lib.hid hst
  have HT := Lib.hid ht
  have HB := Lib.hid hB
  have HK0 := Lib.hid (shape_kind hs)
  have HTW : Hid (∀ g, (Value.slice ta L.length tc).ownBlock = some g → g < w.heap.size) := Lib.hid (fun g hg => (hst.2.2.2.1.1.lt g hg).2)
  have hw1 : w.heap.size + 1 ≤ (w.alloc (.cells #[.int .i64 t.kind, .int .i64 t.n, .string t.name, .slice a t.kids.length c] 26)).heap.size := by simp
  have OC := Lib.hid (fun (b : Nat) (w' : World) (e' : Ext w w') (hb : w.heap.size ≤ b) (hM : Met w' b known0) => imploccurs K n ρ S sb mb b hv hr hn h0 (fun h => by have := hB b h; omega) (by omega) (by omega) R (Tm.sz t) t (fun m hm => by have := occ_shape t d hs hm; exact hR m this.1 this.2) (Nat.le_refl _) (.agg #[.int .i64 t.kind, .int .i64 t.n, .string t.name, .slice a t.kids.length c]) known0 w' d hs (Tm.at_ext e' ht) (fun b hb => Nat.lt_of_lt_of_le (hB b hb) (Below.size e')) (hst.1.ext e') hM (fun m h1 h2 h3 => by rw [look_known0] at h3; exact absurd rfl h3))
  have HN := Lib.hid hn
  have H0 := Lib.hid h0
  obtain ⟨bo, hbo⟩ : ∃ b, occB K n t = b := ⟨_, rfl⟩
  have HBO := Lib.hid hbo
  rw [hbo]
  have hmm := @run_makeMap Tryz.prog
  have HMET := Lib.hid (show Met ((w.alloc (.cells #[.int .i64 t.kind, .int .i64 t.n, .string t.name, .slice a t.kids.length c] 26)).alloc (.map #[] 0)) (w.heap.size + 1) known0 by have h := Met.made (w.alloc (.cells #[.int .i64 t.kind, .int .i64 t.n, .string t.name, .slice a t.kids.length c] 26)); rw [show (w.alloc (.cells #[.int .i64 t.kind, .int .i64 t.n, .string t.name, .slice a t.kids.length c] 26)).heap.size = w.heap.size + 1 by simp] at h; exact h)
  clear hv hr hR hs ht hB h0 hbo hkm hm0 hst
  go_enter Tryz.func57, Tryz.ntmps57
  go_wp2_with fail
  refine (OC.out (w.heap.size + 1) _ ((Ext.alloc _ _).trans (Ext.alloc _ _)) (by omega) HMET.out).mono ?_
  rintro e w2 ⟨rfl, f2, _⟩
  rw [HBO.out]
  have F2 := Lib.hid (((Fr.of_ext ((Ext.alloc _ _).trans (Ext.alloc _ _))).trans f2).toExt (fun k hk h => by omega))
  have X2 := Lib.hid (((BoxT.new w (.int .i64 t.kind) (.int .i64 t.n) (.string t.name) (.slice a t.kids.length c) 26 rfl).ext (Ext.alloc _ (.map #[] 0))).fr f2 (by omega))
  clear f2 OC hmm
  cases bo
  · have W2 := Lib.hid (HW.out.ext F2.out)
    obtain ⟨x0, x1, x2, x3, _, _, _, _⟩ := X2.out
    have s0 := W2.out.1.1
    have hz2 := Below.size F2.out
    have t1 := W2.out.2.1
    have tf1 := W2.out.2.2.1
    obtain ⟨m2, hm2, hkm2⟩ := W2.out.1.km
    have HKM := Lib.hid (hkm2.ext (Ext.drew _))
    have HU := Lib.hid (Tm.at_ext (F2.out.trans (Ext.drew _)) HT.out)
    have e0 : w2.drew.cell? ⟨sb, 0, none⟩ = some (.map (some mb)) := s0
    have e1 : w2.drew.cell? ⟨w.heap.size, 0, none⟩ = _ := x0
    have e2 : w2.drew.cell? ⟨w.heap.size, 1, none⟩ = _ := x1
    have e3 : w2.drew.cell? ⟨w.heap.size, 2, none⟩ = _ := x2
    have e4 : w2.drew.cell? ⟨w.heap.size, 3, none⟩ = _ := x3
    have lsb2 : sb < w2.heap.size := by omega
    have lsb3 : sb < w2.drew.heap.size := lsb2
    have lx : w.heap.size < w2.drew.heap.size := X2.out.lt
    obtain ⟨i0, hi, hz0, hz1, hz2⟩ := int_parts info_int2
    have HI := Lib.hid hi
    have HZ := Lib.hid hz0
    have HZ1 := Lib.hid hz1
    have HZ2 := Lib.hid hz2
    clear hi hz0 hz1 hz2 hkm2
    go_wp2_with fail
    go_still_tail 6, (by kernel_rfl)
    change wpList _ _ _ _ _ w2.drew
    refine wp_put_km rfl _ _ _ rfl HKM.out (by omega) HN.out HK0.out _ HU.out rfl rfl rfl ?_
    intro w3 hK3 f3
    have F3 := Lib.hid ((Fr.of_ext (M := fun k => k = mb) (Ext.drew w2)).trans f3)
    have K3 := Lib.hid hK3
    have p0 := F3.out.cell hne s0
    have p1 := F3.out.cell hne t1
    have p2 := F3.out.frozen lsb2 hne tf1
    have lsb4 := Nat.lt_of_lt_of_le lsb2 F3.out.size
    have HII : Hid (IntI (fun b => b < w3.heap.size ∧ (Value.slice ta L.length tc).ownBlock = some b ∨ w3.heap.size ≤ b) L (.slice ta L.length tc) w3) := Lib.hid ⟨own_keep W2.out.2.2.2.1.1 F3.out (fun g hg hm => (W2.out.2.2.2.2.1 g hg).2.1 hm), fun g hg => .inl ⟨Nat.lt_of_lt_of_le (W2.out.2.2.2.1.1.lt g hg).2 F3.out.size, hg⟩, W2.out.2.2.2.1.2.2⟩
    have HLN : Hid (L.length < 1048576) := Lib.hid (by have := HW.out.2.2.2.2.2; omega)
    have HSB : Hid (¬ (sb < w3.heap.size ∧ (Value.slice ta L.length tc).ownBlock = some sb ∨ w3.heap.size ≤ sb)) := Lib.hid (fun h => h.elim (fun h => (HW.out.2.2.2.2.1 sb h.2).1 rfl) (fun h => by omega))
    clear hK3 f3 x0 x1 x2 x3 e0 e1 e2 e3 e4
    go_wp2_with (at_builtin; refine wpList_append_int (w1 := w3) rfl (.tmp 22) (.tmp 24) 29 rfl (fun b => b < w3.heap.size ∧ (Value.slice ta L.length tc).ownBlock = some b ∨ w3.heap.size ≤ b) i0 Tryz.underlying29 HI.out HZ.out HZ1.out HZ2.out _ L n rfl HII.out rfl HLN.out (fun b hb => .inr hb) rfl ?_; intro av2 cv2 w4 hI4 hf4; have I4 := Lib.hid hI4; have F4 := Lib.hid hf4; have p0 := hf4.cell HSB.out p0; have p1 := hf4.cell HSB.out p1; have p2 := hf4.frozen lsb4 HSB.out p2; clear hI4 hf4)
    go_ret
    have f5 : Fr (fun k => k = sb) w4 (w4.setCell ⟨sb, 1, none⟩ (.slice av2 (L.length + 1) cv2)) := Fr.setCell _ rfl
    have hz3 := F3.out.size
    have hz2 := Below.size F2.out
    have M4 : ∀ k, (k < w3.heap.size ∧ (Value.slice ta L.length tc).ownBlock = some k ∨ w3.heap.size ≤ k) → ¬ S k ∧ k ≠ mb ∧ k ≠ sb := fun k hk => by
      rcases hk with hk | hk
      · have := HW.out.2.2.2.2.1 k hk.2
        exact ⟨this.2.2, this.2.1, this.1⟩
      · exact ⟨fun h => by have := HB.out k h; omega, by omega, by omega⟩
    have hunb : unb (K.set n.toNat t) < unb K := unb_set (look_get HKM.out.2.1 HN.out) H0.out HK0.out
    refine ⟨rfl, .slice av2 (L.length + 1) cv2, ⟨⟨cell_off (by decide) p0, HW.out.1.2.1, hne, m2 + 1, by omega, ?_⟩, cell_same p1, by rw [World.frozen?_setCell]; exact p2, ?_, fun g hg => ?_, ?_⟩, fun g hg => ?_, ?_⟩
    · exact (K3.out.fr F4.out (fun k hk => ⟨(M4 k hk).1, (M4 k hk).2.1⟩)).fr f5 (fun k hk => by subst hk; exact ⟨HW.out.1.2.1, hne⟩)
    · have h4 := I4.out
      have hl4 : (L ++ [n]).length = L.length + 1 := by simp
      exact ⟨own_keep h4.1 f5 (fun g hg e => (M4 g (h4.2.1 g hg)).2.2 e), fun _ _ => trivial, h4.2.2⟩
    · have := M4 g (I4.out.2.1 g hg)
      exact ⟨this.2.2, this.2.1, this.1⟩
    · have := HW.out.2.2.2.2.2
      simp only [List.length_append, List.length_cons, List.length_nil]
      omega
    · rcases I4.out.2.1 g hg with h | h
      · exact .inl h.2
      · exact .inr (by omega)
    · have f : Fr (fun k => MTst sb mb (.slice ta L.length tc) k ∨ w.heap.size ≤ k) w (w4.setCell ⟨sb, 1, none⟩ (.slice av2 (L.length + 1) cv2)) :=
        (((Fr.of_ext F2.out).trans (F3.out.mono (fun k _ h => .inl (.inr (.inl h))))).trans (F4.out.mono (fun k _ h => by
          rcases h with h | h
          · exact .inl (.inr (.inr h.2))
          · exact .inr (by omega)))).trans (f5.mono (fun k _ h => .inl (.inl h)))
      exact f.mono (fun k hk h => h.elim id (fun h => absurd hk (by omega)))
  · go_wp2_with fail
    go_ret
    refine ⟨rfl, _, ?_, fun g hg => .inl hg, Fr.of_ext F2.out⟩
    simpa using HW.out.ext F2.out
end Go.Proofs.YtognkaebiafgbaaGreat
