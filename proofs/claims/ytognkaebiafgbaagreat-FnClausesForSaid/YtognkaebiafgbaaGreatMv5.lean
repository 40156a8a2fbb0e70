/-
  The reference's l1Copy.
-/
import Derived.Test.YtognkaebiafgbaaGreatMv3
namespace Go.Proofs.YtognkaebiafgbaaGreat
open Go.RowKit
set_option linter.unusedVariables false
def CopyC (t : Tm) : Prop := ∀ (v : Value) (S : Nat → Prop) (w : World), Tm.at S w t v →
  Calls Tryz.prog 38 #[v] w fun e w' => ∃ a c, e = .returned (.agg #[.int .i64 t.kind, .int .i64 t.n, .string t.name, .slice a t.kids.length c]) ∧ AppI 26 (fun b => w.heap.size ≤ b) t.kids (.slice a t.kids.length c) w' ∧ Ext w w'
set_option maxRecDepth 100000 in
set_option maxHeartbeats 2000000 in
theorem specl1Copy : ∀ (m : Nat) (t : Tm), Tm.sz t ≤ m → CopyC t := by
  intro m
  induction m with
  | zero => intro t hm; have := Tm.sz_pos t; omega
  | succ m ih =>
    intro t hm v S w ht
    have IH := Lib.hid (show ∀ (j : Nat) (u : Tm), t.kids[j]? = some u → CopyC u from fun j u h => ih u (by
      obtain ⟨k, n, s, ks⟩ := t
      have := kid_lt (k := k) (n := n) (s := s) (ks := ks) h; omega))
    clear ih hm
    obtain ⟨i0, hi, hz0, hz1, hz2⟩ := info_parts info_term3
    obtain ⟨hs1, sv, rfl, a, cap, rfl, h1, h2, h3, h4⟩ := Tm.at_iff.1 ht
    have H4 := Lib.hid h4
    have HI := Lib.hid hi
    have HZ := Lib.hid hz0
    have HZ1 := Lib.hid hz1
    have HZ2 := Lib.hid hz2
    clear h4 ht hi hz0 hz1 hz2
    go_enter Tryz.func38, Tryz.ntmps38
    go_wp2_with fail
    go_loopw [4] (fun i wr => ∃ (k : Nat) (av : Option Addr) (cv : Nat) (ts : List Tm), k ≤ t.kids.length ∧ i = .int .i64 k ∧ Hid (ts = t.kids.take k) ∧
        Hid (KidI 26 w (((w.alloc (.cells #[.int .i64 t.kind, .int .i64 t.n, .string t.name, .slice a t.kids.length cap] 26)).alloc (.cells #[.int .i64 0, .int .i64 0, .string ⟨#[]⟩, .slice none 0 0] 26)).alloc (.cells #[.int .i64 t.kind, .int .i64 t.n, .string t.name, .slice none 0 0] 26))
          (w.heap.size + 1 + 1) ts (.int .i64 t.kind) (.int .i64 t.n) (.string t.name) av cv wr)) (fun i _ => t.kids.length - (intOf i).toNat)
    case atStart =>
      exact ⟨0, none, 0, [], Nat.zero_le _, rfl, Lib.hid rfl, Lib.hid ⟨AppI.nil _ _ _, Fr.refl _ _, by go_simp, by go_simp, by go_simp, by go_simp, by go_simp⟩⟩
    case round =>
      obtain ⟨k, av, cv, ts, hk, rfl, HT, HK⟩ := hrel
      have hlen : ts.length = k := by rw [HT.out]; simp; omega
      have HE : Hid (Ext w wr) := Lib.hid (HK.out.ext (((Ext.alloc _ _).trans (Ext.alloc _ _)).trans (Ext.alloc _ _)) (by omega))
      obtain ⟨kc, kf⟩ := HK.out.cells (by simp)
      have c3 := HK.out.c3
      have f3 := HK.out.f3
      have sz := block_lt_of_cell c3
      simp only at sz
      rw [hlen] at c3
      by_cases hlt : k < t.kids.length
      · obtain ⟨tk, htk⟩ := getk hlt
        obtain ⟨b, off, a1, c1, rfl, hSb, k1, k2, k3, k4, hat⟩ := tget H4.out htk
        have k1 := HE.out.cell k1
        have k2 := HE.out.cell k2
        have k3 := HE.out.cell k3
        have k4 := HE.out.cell k4
        have HC := Lib.hid (fun w' (e' : Ext w w') => IH.out k tk htk _ S w' (Tm.at_ext e' hat))
        have HN := Lib.hid (at_small hat)
        have HTS : Hid (ts ++ [tk] = t.kids.take (k + 1)) := Lib.hid (by rw [HT.out, take_snoc_of htk])
        have b3 : wr.cell? ⟨w.heap.size, 3, none⟩ = some (.slice (some ⟨b, off, none⟩) t.kids.length cap) := by rw [kc _ _ (by omega)]; go_simp
        have hbw := block_lt_of_cell k1
        simp only at hbw
        clear htk hat hSb kc kf
        go_wp2_with fail
        go_region_law (first
          | (go_simp; go_at_call 38; refine (HC.out _ ?_).mono ?_; (first | exact HE.out | exact HE.out.trans (Ext.drew _)); rintro e w1 ⟨a2, c2, rfl, hv1, e1⟩; (try replace e1 := Ext.undrew e1); have sz1 := Nat.lt_of_lt_of_le sz (Below.size e1); have d3 := e1.cell c3; have b5 := e1.cell b3; dsimp only)
          | (refine step_append_tm rfl (.tmp 20) (.tmp 27) 24 rfl (fun b => w.heap.size + 1 + 1 + 1 ≤ b) 26 i0 Tryz.underlying24 HI.out HZ.out HZ1.out HZ2.out (.slice av ts.length cv) ts tk a2 c2 (by rw [hlen]; rfl) (HK.out.app.ext e1) rfl (HK.out.app.apart (fun b hb => by omega) (app_at' hv1 HN.out)) (by omega) (fun b hb => by omega) ?_; intro av2 cv2 w2 hA2 hf2; have K2 := Lib.hid (HK.out.next e1 hA2 hf2); have g3 := hf2.cell (k := w.heap.size + 1 + 1) (by omega) d3; have g5 := hf2.frozen (k := w.heap.size + 1 + 1) sz1 (by omega) (e1.frozen sz f3); clear hA2 hf2))
        all_goals go_wp2_with fail
        all_goals
          go_roundw
          case rel => exact ⟨k + 1, av2, cv2, ts ++ [tk], by omega, by simp, HTS, by rw [← hlen]; exact K2⟩
          case measure => simp [intOf]; omega
      · have hkk : k = t.kids.length := by omega
        subst hkk
        have c0 := HK.out.c0
        have c1 := HK.out.c1
        have c2 := HK.out.c2
        have hts : ts = t.kids := by rw [HT.out, List.take_of_length_le (Nat.le_refl _)]
        subst hts
        have g0 : wr.cell? ⟨w.heap.size + 1, 0, none⟩ = some (.int .i64 0) := by rw [kc _ _ (by omega)]; go_simp
        have g1 : wr.cell? ⟨w.heap.size + 1, 1, none⟩ = some (.int .i64 0) := by rw [kc _ _ (by omega)]; go_simp
        have g2 : wr.cell? ⟨w.heap.size + 1, 2, none⟩ = some (.string ⟨#[]⟩) := by rw [kc _ _ (by omega)]; go_simp
        have g3 : wr.cell? ⟨w.heap.size + 1, 3, none⟩ = some (.slice none 0 0) := by rw [kc _ _ (by omega)]; go_simp
        have z0 : wr.frozen? ⟨w.heap.size + 1, 0, none⟩ = false := by rw [kf _ _ (by omega)]; go_simp
        have z1 : wr.frozen? ⟨w.heap.size + 1, 1, none⟩ = false := by rw [kf _ _ (by omega)]; go_simp
        have z2 : wr.frozen? ⟨w.heap.size + 1, 2, none⟩ = false := by rw [kf _ _ (by omega)]; go_simp
        have z3 : wr.frozen? ⟨w.heap.size + 1, 3, none⟩ = false := by rw [kf _ _ (by omega)]; go_simp
        have b3 : wr.cell? ⟨w.heap.size, 3, none⟩ = some (.slice a t.kids.length cap) := by rw [kc _ _ (by omega)]; go_simp
        clear kc kf
        go_wp2_with fail
        refine ret4_set (p := 2) (T := 26) (b := w.heap.size + 1) (by kernel_rfl) (fun _ => by kernel_rfl) (fun _ => by kernel_rfl) rfl rfl g0 g1 g2 g3 ?_
        intro X hX
        have f : Fr (fun k => k = w.heap.size + 1) wr X := Fr.of_grown hX (fun k e => by cases e; rfl)
        exact ⟨av, cv, rfl, (HK.out.app.keep f (fun k _ h hz => by omega)).zone (fun b hb => by omega), ((Fr.of_ext HE.out).trans (f.mono (fun k _ h => show w.heap.size ≤ k by omega))).toExt (fun k hk hm => by omega)⟩
end Go.Proofs.YtognkaebiafgbaaGreat
