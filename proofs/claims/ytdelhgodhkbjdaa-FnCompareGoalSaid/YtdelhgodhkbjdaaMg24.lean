/-
  The program's store: occurs.
-/
import Derived.Test.YtdelhgodhkbjdaaMg23
namespace Go.Proofs.Ytdelhgodhkbjdaa
open Go.RowKit Go.Maps
set_option linter.unusedVariables false

set_option maxHeartbeats 1000000 in
theorem imploccurs1 (K : List Tm) (n : Int) (ρ : Int → Nat) (S : Nat → Prop) (sb mb b : Nat) (t : Tm) (hC : OccC K n ρ S sb mb b t) (v : Value) (M : List Tm) (w : World) (d B0 B1 B3 : Nat) (hs : shapeF t d = true) (ht : Tm.at S w t v) (hB : ∀ b, S b → b < w.heap.size) (hst : Sto S w sb mb K) (hM : Met w b M) (hok : MetOk K n ρ M t)
    (c0 : w.cell? ⟨B0, 0, none⟩ = some (.pointer (some ⟨sb, 0, none⟩))) (c1 : w.cell? ⟨B1, 0, none⟩ = some (.int .i64 n)) (c3 : w.cell? ⟨B3, 0, none⟩ = some (.map (some b))) :
    Calls Try.prog 115 #[v, .pointer (some ⟨B0, 0, none⟩), .pointer (some ⟨B1, 0, none⟩), .pointer (some ⟨B3, 0, none⟩)] w (OccP K n t M b w) := by
  have HC := Lib.hid (fun w' (e : Ext w w') => hC v M w' d hs (Tm.at_ext e ht) (fun b h => Nat.lt_of_lt_of_le (hB b h) (Below.size e)) (hst.ext e) (hM.ext e) hok)
  have b0 := block_lt_of_cell c0
  have b1 := block_lt_of_cell c1
  have b3 := block_lt_of_cell c3
  simp only at b0 b1 b3
  obtain ⟨a, c, rfl⟩ := at_form ht
  clear hC ht hB hst hM hok hs
  go_enter Try.func115, Try.ntmps115
  go_wp2_with fail
  refine (HC.out _ (Ext.alloc _ _)).mono ?_
  rintro e w1 ⟨rfl, f1, h1⟩
  have H := Lib.hid (And.intro ((Fr.alloc (M := fun k => k = b) _ _).trans f1) h1)
  clear f1 h1
  go_wp2_with fail
  go_ret
  exact ⟨rfl, H.out.1, H.out.2⟩

theorem atB_at {f : Tm → Bool} {ts : List Tm} {j : Nat} {t : Tm} (h : ts[j]? = some t) : atB f ts j = f t := by unfold atB; rw [h]
def OccI (K : List Tm) (n : Int) (M : List Tm) (ks : List Tm) (b : Nat) (w0 : World) (j : Nat) (w' : World) : Prop :=
  Fr (fun k => k = b) w0 w' ∧ ((∀ i, i < j → atB (occB K n) ks i = false) → ∃ M', Met w' b M' ∧ MetTo K n M M')

set_option maxRecDepth 100000 in
set_option maxHeartbeats 4000000 in
theorem imploccurs (K : List Tm) (n : Int) (ρ : Int → Nat) (S : Nat → Prop) (sb mb b : Nat) (hv : VK K) (hr : Rk K ρ) (hn : 0 ≤ n ∧ n ≤ 25) (h0 : (lookK K n).kind = 0) (hSb : ¬ S b) (hbs : b ≠ sb) (hbm : b ≠ mb) :
    ∀ (R s : Nat) (t : Tm), (∀ m, occV m t → ρ m < R) → Tm.sz t ≤ s → OccC K n ρ S sb mb b t := by
  intro R
  induction R using Nat.strongRecOn with
  | _ R IHR =>
    intro s
    induction s with
    | zero => intro t _ hs; have := Tm.sz_pos t; omega
    | succ s IHs =>
      intro t hR hsz v M w d hs ht hB hst hM hok
      have HT := Lib.hid ht
      have HST := Lib.hid hst
      have HM := Lib.hid hM
      have HOK := Lib.hid hok
      have HB := Lib.hid hB
      have HS := Lib.hid hs
      have HV := Lib.hid hv
      have H0 := Lib.hid h0
      have hlb := hM.lt
      have hls := hst.lt
      obtain ⟨a, c, rfl⟩ := at_form ht
      clear ht hst hM hok hB
      by_cases hk : t.kind = 1
      · have hm := shape_occ hs hk
        have hk' : (t.kind == 1) = true := by simp [hk]
        have HVAR := Lib.hid (occT_var (K := K) (n := n) hs hk)
        by_cases hz : (lookK M t.n).kind = 0
        · obtain ⟨x, hx, ⟨d', hsx⟩, hxt⟩ := walk_ex hv hr (ρ t.n + 1) t d hs (fun _ => by omega)
          have HX := Lib.hid hx
          have HSX := Lib.hid hsx
          have HWO := Lib.hid (walk_occ hv h0 hs hx)
          have HXT : Hid (x.kind ≠ 1 → ∀ p, occV p x → ρ p < ρ t.n) := Lib.hid (fun h => by
            rcases hxt with rfl | ⟨_, h2⟩
            · exact absurd hk h
            · exact h2)
          have HRt := Lib.hid (hR _ (occ_var hk))
          have hzb : (!(lookK M t.n).kind == 0) = false := by simp [hz]
          have HZ := Lib.hid hz
          have HK : Hid (((((w.alloc (.cells #[.pointer (some ⟨sb, 0, none⟩)] 60)).alloc (.cells #[.int .i64 n] 3)).alloc (.cells #[.int .i64 t.kind, .int .i64 t.n, .string t.name, .slice a t.kids.length c] 25)).alloc (.cells #[.map (some b)] 118)).cell? ⟨w.heap.size, 0, none⟩ = some (.pointer (some ⟨sb, 0, none⟩)) ∧ ((((w.alloc (.cells #[.pointer (some ⟨sb, 0, none⟩)] 60)).alloc (.cells #[.int .i64 n] 3)).alloc (.cells #[.int .i64 t.kind, .int .i64 t.n, .string t.name, .slice a t.kids.length c] 25)).alloc (.cells #[.map (some b)] 118)).cell? ⟨w.heap.size + 1, 0, none⟩ = some (.int .i64 n) ∧ ((((w.alloc (.cells #[.pointer (some ⟨sb, 0, none⟩)] 60)).alloc (.cells #[.int .i64 n] 3)).alloc (.cells #[.int .i64 t.kind, .int .i64 t.n, .string t.name, .slice a t.kids.length c] 25)).alloc (.cells #[.map (some b)] 118)).cell? ⟨w.heap.size + 1 + 1 + 1, 0, none⟩ = some (.map (some b)) ∧ BoxT ((((w.alloc (.cells #[.pointer (some ⟨sb, 0, none⟩)] 60)).alloc (.cells #[.int .i64 n] 3)).alloc (.cells #[.int .i64 t.kind, .int .i64 t.n, .string t.name, .slice a t.kids.length c] 25)).alloc (.cells #[.map (some b)] 118)) (w.heap.size + 1 + 1) (.int .i64 t.kind) (.int .i64 t.n) (.string t.name) (.slice a t.kids.length c)) := Lib.hid ⟨by go_simp, by go_simp, by go_simp, by refine ⟨?_, ?_, ?_, ?_, ?_, ?_, ?_, ?_⟩ <;> go_simp⟩
          have L := run_met (HM.out.ext ((((Ext.alloc w (.cells #[.pointer (some ⟨sb, 0, none⟩)] 60)).trans (Ext.alloc _ (.cells #[.int .i64 n] 3))).trans (Ext.alloc _ (.cells #[.int .i64 t.kind, .int .i64 t.n, .string t.name, .slice a t.kids.length c] 25))).trans (Ext.alloc _ (.cells #[.map (some b)] 118)))) hm
          rw [hzb] at L
          have nb0 : ¬ w.heap.size = b := by omega
          have nb1 : ¬ w.heap.size + 1 = b := by omega
          have nb2 : ¬ w.heap.size + 1 + 1 = b := by omega
          have nb3 : ¬ w.heap.size + 1 + 1 + 1 = b := by omega
          have HKT := Lib.hid hk
          have HUN := Lib.hid (fun hk => walk_free hx hk)
          clear hx hsx hxt hz hk hs hR hv hr h0 hzb
          go_enter Try.func112, Try.ntmps112
          go_wp2_with (at_mapUpdate; refine wp_put_met rfl _ _ _ rfl (HM.out.ext ((((Ext.alloc _ _).trans (Ext.alloc _ _)).trans (Ext.alloc _ _)).trans (Ext.alloc _ _))) hm HZ.out rfl rfl rfl ?_; intro w9 hM9 f9; obtain ⟨k0, k1, k3, kt⟩ := HK.out; have c0 := f9.cell nb0 k0; have c1 := f9.cell nb1 k1; have c3 := f9.cell nb3 k3; have T9 := Lib.hid (kt.fr f9 nb2); have M9 := Lib.hid hM9; have F9 := Lib.hid ((Fr.of_ext ((((Ext.alloc _ _).trans (Ext.alloc _ _)).trans (Ext.alloc _ _)).trans (Ext.alloc _ _))).trans f9); clear hM9 f9 k0 k1 k3 kt; obtain ⟨t0, t1, t2, t3, _, _, _, _⟩ := T9.out)
          have HB9 : Hid (∀ b, S b → b < w9.heap.size) := Lib.hid (fun b h => Nat.lt_of_lt_of_le (HB.out b h) F9.out.size)
          have HST9 := Lib.hid (HST.out.fr F9.out (fun k hk => by subst hk; exact ⟨hSb, hbm, hbs⟩))
          refine (implwalk _ K t x HX.out _ S _ sb mb d HV.out HS.out HB9.out (F9.out.at HT.out (fun k hk h => hSb (h ▸ hk))) HST9.out).mono ?_
          rintro e w10 ⟨v', rfl, hvx, ex⟩
          obtain ⟨ax, cx, rfl⟩ := at_form hvx
          have HVX := Lib.hid hvx
          have M10 := Lib.hid (M9.out.ext ex)
          have HST10 := Lib.hid (HST9.out.ext ex)
          have HB10 : Hid (∀ b, S b → b < w10.heap.size) := Lib.hid (fun b h => Nat.lt_of_lt_of_le (HB9.out b h) (Below.size ex))
          have F10 := Lib.hid (F9.out.trans (Fr.of_ext ex))
          replace c0 := ex.cell c0
          replace c1 := ex.cell c1
          replace c3 := ex.cell c3
          have l0 := block_lt_of_cell c0
          have l1 := block_lt_of_cell c1
          have l3 := block_lt_of_cell c3
          simp only at l0 l1 l3
          have MT : Hid (occB K n t = false → MetTo K n M (M.set t.n.toNat (varT 0))) := Lib.hid (fun hf m h1 h2 h3 => by
            rw [look_set HM.out.1 hm ⟨h1, h2⟩] at h3
            split at h3
            · rename_i e
              subst e
              exact .inr (fun hr => by rw [occB_true (HVAR.out.2 hr)] at hf; cases hf)
            · exact .inl h3)
          clear ex hvx t0 t1 t2 t3 T9 L
          by_cases hxk : x.kind = 1
          · have hxk' : (x.kind == 1) = true := by simp [hxk]
            have HE : Hid (occB K n t = (x.n == n)) := Lib.hid (by
              have h1 := shape_occ HSX.out hxk
              have h2 := HUN.out hxk
              rw [Bool.eq_iff_iff, occB_iff, HWO.out, occT_var HSX.out hxk]
              simp only [beq_iff_eq]
              constructor
              · exact fun h => rch_unbound h (fun h => h.2.2 h2)
              · intro h; rw [h]; exact Rch.here)
            clear hxk
            go_wp2_with fail
            go_ret
            refine ⟨retB HE.out.symm, F10.out.trans (Fr.of_ext (Ext.alloc _ _)), fun hf => ⟨_, M10.out.ext (Ext.alloc _ _), MT.out hf⟩⟩
          · have hxk' : (x.kind == 1) = false := by simpa using hxk
            have HEQ : Hid (occB K n x = occB K n t) := Lib.hid (by
              rw [Bool.eq_iff_iff, occB_iff, occB_iff, HWO.out])
            have HOK2 : Hid (MetOk K n ρ (M.set t.n.toNat (varT 0)) x) := Lib.hid (fun m h1 h2 h3 => by
              rw [look_set HM.out.1 hm ⟨h1, h2⟩] at h3
              split at h3
              · rename_i e
                subst e
                exact .inr (HXT.out hxk)
              · rcases HOK.out m h1 h2 h3 with h4 | h4
                · exact .inl h4
                · exact .inr (fun p hp => Nat.lt_trans (HXT.out hxk p hp) (h4 _ (occ_var HKT.out))))
            have HIH := Lib.hid (IHR (ρ t.n) HRt.out (Tm.sz x) x (HXT.out hxk) (Nat.le_refl _))
            clear hxk
            go_wp2_with fail
            refine (HIH.out _ _ _ d' HSX.out (Tm.at_ext (Ext.alloc _ _) HVX.out) (fun b h => Nat.lt_of_lt_of_le (HB10.out b h) (Below.size (Ext.alloc _ _))) (HST10.out.ext (Ext.alloc _ _)) (M10.out.ext (Ext.alloc _ _)) HOK2.out).mono ?_
            rintro e w12 ⟨rfl, f12, h12⟩
            have F12 := Lib.hid ((F10.out.trans (Fr.of_ext (Ext.alloc _ _))).trans f12)
            have H12 := Lib.hid h12
            clear f12 h12
            go_wp2_with fail
            go_ret
            refine ⟨retB HEQ.out, F12.out, fun hf => ?_⟩
            obtain ⟨M', h1, h2⟩ := H12.out (by rw [HEQ.out]; exact hf)
            exact ⟨M', h1, (MT.out hf).trans h2⟩
        · have L := run_met (HM.out.ext ((((Ext.alloc w (.cells #[.pointer (some ⟨sb, 0, none⟩)] 60)).trans (Ext.alloc _ (.cells #[.int .i64 n] 3))).trans (Ext.alloc _ (.cells #[.int .i64 t.kind, .int .i64 t.n, .string t.name, .slice a t.kids.length c] 25))).trans (Ext.alloc _ (.cells #[.map (some b)] 118)))) hm
          have hzb : (!(lookK M t.n).kind == 0) = true := by simpa using hz
          rw [hzb] at L
          have HE : Hid (occB K n t = false) := Lib.hid (occB_false (fun h => by
            rcases HOK.out t.n hm.1 hm.2 hz with h1 | h1
            · exact h1 (HVAR.out.1 h)
            · exact absurd (h1 _ (occ_var hk)) (Nat.lt_irrefl _)))
          clear hz hk hs hR hv hr h0 hzb
          go_enter Try.func112, Try.ntmps112
          go_wp2_with fail
          go_ret
          exact ⟨retB HE.out.symm, Fr.of_ext ((((Ext.alloc w (.cells #[.pointer (some ⟨sb, 0, none⟩)] 60)).trans (Ext.alloc _ (.cells #[.int .i64 n] 3))).trans (Ext.alloc _ (.cells #[.int .i64 t.kind, .int .i64 t.n, .string t.name, .slice a t.kids.length c] 25))).trans (Ext.alloc _ (.cells #[.map (some b)] 118))), fun _ => ⟨M, HM.out.ext ((((Ext.alloc w (.cells #[.pointer (some ⟨sb, 0, none⟩)] 60)).trans (Ext.alloc _ (.cells #[.int .i64 n] 3))).trans (Ext.alloc _ (.cells #[.int .i64 t.kind, .int .i64 t.n, .string t.name, .slice a t.kids.length c] 25))).trans (Ext.alloc _ (.cells #[.map (some b)] 118))), fun m _ _ h => .inl h⟩⟩
      · have hk' : (t.kind == 1) = false := by simpa using hk
        obtain ⟨kk, nn, ss, ks⟩ := t
        simp only [Tm.kind, Tm.n, Tm.name, Tm.kids] at hk hk' HT ⊢
        have HOC := Lib.hid (occT_mk (K := K) (n := n) (v := nn) (s := ss) (ks := ks) hk)
        have HK : Hid (((((w.alloc (.cells #[.pointer (some ⟨sb, 0, none⟩)] 60)).alloc (.cells #[.int .i64 n] 3)).alloc (.cells #[.int .i64 kk, .int .i64 nn, .string ss, .slice a ks.length c] 25)).alloc (.cells #[.map (some b)] 118)).cell? ⟨w.heap.size, 0, none⟩ = some (.pointer (some ⟨sb, 0, none⟩)) ∧ ((((w.alloc (.cells #[.pointer (some ⟨sb, 0, none⟩)] 60)).alloc (.cells #[.int .i64 n] 3)).alloc (.cells #[.int .i64 kk, .int .i64 nn, .string ss, .slice a ks.length c] 25)).alloc (.cells #[.map (some b)] 118)).cell? ⟨w.heap.size + 1, 0, none⟩ = some (.int .i64 n) ∧ ((((w.alloc (.cells #[.pointer (some ⟨sb, 0, none⟩)] 60)).alloc (.cells #[.int .i64 n] 3)).alloc (.cells #[.int .i64 kk, .int .i64 nn, .string ss, .slice a ks.length c] 25)).alloc (.cells #[.map (some b)] 118)).cell? ⟨w.heap.size + 1 + 1 + 1, 0, none⟩ = some (.map (some b)) ∧ BoxT ((((w.alloc (.cells #[.pointer (some ⟨sb, 0, none⟩)] 60)).alloc (.cells #[.int .i64 n] 3)).alloc (.cells #[.int .i64 kk, .int .i64 nn, .string ss, .slice a ks.length c] 25)).alloc (.cells #[.map (some b)] 118)) (w.heap.size + 1 + 1) (.int .i64 kk) (.int .i64 nn) (.string ss) (.slice a ks.length c)) := Lib.hid ⟨by go_simp, by go_simp, by go_simp, by refine ⟨?_, ?_, ?_, ?_, ?_, ?_, ?_, ?_⟩ <;> go_simp⟩
        have HIH : Hid (∀ (j : Nat) (u : Tm), ks[j]? = some u → OccC K n ρ S sb mb b u) := Lib.hid (fun j u h => IHs u (fun m hm => hR m (.inr (occL_mem h hm))) (by have := kid_lt (k := kk) (n := nn) (s := ss) h; omega))
        have HSL := Lib.hid (show Tm.sl S w ks (.slice a ks.length c) by obtain ⟨_, sv, e, h⟩ := Tm.at_iff.1 HT.out; cases e; exact h)
        clear hk hs hR hv hr h0 IHs IHR
        go_enter Try.func112, Try.ntmps112
        go_wp2_with fail
        obtain ⟨w4, hw4⟩ : ∃ x, x = ((((w.alloc (.cells #[.pointer (some ⟨sb, 0, none⟩)] 60)).alloc (.cells #[.int .i64 n] 3)).alloc (.cells #[.int .i64 kk, .int .i64 nn, .string ss, .slice a ks.length c] 25)).alloc (.cells #[.map (some b)] 118)) := ⟨_, rfl⟩
        have E4 : Hid (Ext w w4) := Lib.hid (by rw [hw4]; exact ((((Ext.alloc w (.cells #[.pointer (some ⟨sb, 0, none⟩)] 60)).trans (Ext.alloc _ (.cells #[.int .i64 n] 3))).trans (Ext.alloc _ (.cells #[.int .i64 kk, .int .i64 nn, .string ss, .slice a ks.length c] 25))).trans (Ext.alloc _ (.cells #[.map (some b)] 118))))
        rw [← hw4] at HK ⊢
        clear hw4
        refine (slicesContainsFunc 115 _ ks S (OccI K n M ks b w4) (atB (occB K n) ks) _ w4 (fun _ _ => by kernel_rfl) (Lib.hid ?hstep) (Lib.hid ?hsl) (Lib.hid ?hbeg)).mono ?hmain
        case hstep =>
          intro j u vu w' hj hall hI hat
          obtain ⟨f, hM'⟩ := hI
          obtain ⟨M', h1, h2⟩ := hM' hall
          obtain ⟨k0, k1, k3, _⟩ := HK.out
          have sz4 := Below.size E4.out
          refine (imploccurs1 K n ρ S sb mb b u (HIH.out j u hj) vu M' w' (d - 1) _ _ _ (shape_kid HS.out hj) hat (fun b h => Nat.lt_of_lt_of_le (HB.out b h) (Nat.le_trans sz4 f.size)) ((HST.out.ext E4.out).fr f (fun k hk => by subst hk; exact ⟨hSb, hbm, hbs⟩)) h1 (HOK.out.to h2 (fun p hp => .inr (occL_mem hj hp))) (f.cell (by omega) k0) (f.cell (by omega) k1) (f.cell (by omega) k3)).mono ?_
          rintro e w'' ⟨rfl, f2, h3⟩
          refine ⟨by rw [atB_at hj], f.trans f2, fun hal => ?_⟩
          obtain ⟨M'', q1, q2⟩ := h3 (by have := hal j (by omega); rwa [atB_at hj] at this)
          exact ⟨M'', q1, h2.trans q2⟩
        case hsl =>
          intro j w' hI
          exact hI.1.sl (Tm.sl_ext E4.out HSL.out) (fun k hk h => hSb (h ▸ hk))
        case hbeg => exact ⟨Fr.refl _ _, fun _ => ⟨M, HM.out.ext E4.out, fun m _ _ h => .inl h⟩⟩
        case hmain =>
          rintro e w5 (⟨j, hj, hb, hbj, rfl, hI⟩ | ⟨hb, rfl, hI⟩)
          · have H5 := Lib.hid hI
            have HE : Hid (occB K n (.mk kk nn ss ks) = true) := Lib.hid (by
              obtain ⟨u, hu⟩ := getk hj
              rw [atB_at hu] at hbj
              exact occB_true (HOC.out.2 ⟨j, u, hu, occB_iff.1 hbj⟩))
            clear hI hb hbj
            go_wp2_with fail
            go_ret
            exact ⟨retB HE.out.symm, (Fr.of_ext E4.out).trans H5.out.1, fun h => by rw [HE.out] at h; cases h⟩
          · have H5 := Lib.hid hI
            have H6 := Lib.hid hb
            have HE : Hid (occB K n (.mk kk nn ss ks) = false) := Lib.hid (occB_false (fun h => by
              obtain ⟨j, u, hu, ho⟩ := HOC.out.1 h
              have := hb j (List.getElem?_eq_some_iff.1 hu).1
              rw [atB_at hu, occB_true ho] at this
              cases this))
            clear hI hb
            go_wp2_with fail
            go_ret
            exact ⟨retB HE.out.symm, (Fr.of_ext E4.out).trans H5.out.1, fun _ => H5.out.2 H6.out⟩
end Go.Proofs.Ytdelhgodhkbjdaa
