/-
  A law's marks in a term's memory: writing them, reading them back.
-/
import Derived.Test.YtognkaebiafgbaaGreatDoorMr24
import Derived.Test.YtognkaebiafgbaaGreatDoorMr23
namespace Go.Proofs.YtognkaebiafgbaaGreatDoor
open Go.RowKit
set_option linter.unusedVariables false
theorem own_slice {w : World} {T n c : Nat} {a : Option Addr} {xs : List Value} (h : w.ownsRow 0 T 4 (.slice a n c) n xs) (hn : 0 < n) : ∃ g, a = some ⟨g, 0, none⟩ := by
  rcases h.2 with ⟨h1, h2⟩ | ⟨g, cap, cur, h1, _⟩
  · omega
  · simp only [Value.slice.injEq] at h1
    exact ⟨g, h1.1⟩
theorem mark_next {F G : Nat → Prop} {wr w1 w2 : World} {g n cap j K : Nat} {ls bs : List Tm} {t : Tm} {x1 x2 : List Value} {a' : Option Addr} {c' : Nat} {y0 y1 : Value}
    (how : wr.ownsRow 0 25 4 (.slice (some ⟨g, 0, none⟩) n cap) n (x1 ++ (tcells t a' c' ++ x2))) (hx1 : x1.length = j * 4) (hFg : F g) (hn : n = (ls ++ t :: bs).length)
    (hG : ∀ b, G b → F b ∧ (Value.slice (some ⟨g, 0, none⟩) n cap).ownBlock ≠ some b) (hK : K + 3 < 10000000) (hlen : t.kids.length ≤ 1048576)
    (hback : ∀ (w' : World) (t' : Tm) (M : Nat → Prop), Fr M wr w' → (∀ b, (F b ∧ (Value.slice (some ⟨g, 0, none⟩) n cap).ownBlock ≠ some b) → M b → G b) → t'.kids.length = t.kids.length → Tm.own G w' t' (.slice a' t'.kids.length c') →
      Tm.oflat (fun b => F b ∧ (Value.slice (some ⟨g, 0, none⟩) n cap).ownBlock ≠ some b) w' (ls ++ t' :: bs) (x1 ++ (tcells t' a' c' ++ x2)))
    (h0 : y0 = .int .i64 K) (h1 : y1 = .int .i64 (K + 1 : Nat))
    (e1 : Ext ((wr.setCell ⟨g, j * 4, none⟩ y0).setCell ⟨g, j * 4 + 1, none⟩ y1) w1)
    (f2 : Fr G (w1.setCell ⟨g, j * 4 + 2, none⟩ (.string (markB (K + 2)))) w2) (ho2 : OwnS G (markL t.kids (K + 3)) (.slice a' t.kids.length c') w2) :
    OwnS F (ls ++ markT t K :: bs) (.slice (some ⟨g, 0, none⟩) n cap) w2 ∧ Fr F wr w2 := by
  subst h0 h1
  have hGg : ¬ G g := fun h => (hG g h).2 rfl
  obtain ⟨r1, g1⟩ := how.stored (j * 4) (.int .i64 K)
  obtain ⟨r2, g2⟩ := r1.stored (j * 4 + 1) (.int .i64 (K + 1 : Nat))
  have r2' := own_ext r2 e1
  obtain ⟨r3, g3⟩ := r2'.stored (j * 4 + 2) (.string (markB (K + 2)))
  have r4 := own_fr r3 f2 (fun g' hg' h => by simp [Value.ownBlock] at hg'; subst hg'; exact hGg h)
  have hxs : (((x1 ++ (tcells t a' c' ++ x2)).set (j * 4) (.int .i64 K)).set (j * 4 + 1) (.int .i64 (K + 1 : Nat))).set (j * 4 + 2) (.string (markB (K + 2))) = x1 ++ (tcells (markT t K) a' c' ++ x2) := by
    rw [← hx1]
    obtain ⟨k0, n0, s0, ks0⟩ := t
    simp [tcells, markT, Tm.kind, Tm.n, Tm.name, Tm.kids, markL_len]
  rw [hxs] at r4
  have fM : Fr (fun b => b = g ∨ G b) wr w2 := by
    have f1 : Fr (fun b => b = g ∨ G b) wr ((wr.setCell ⟨g, j * 4, none⟩ (.int .i64 K)).setCell ⟨g, j * 4 + 1, none⟩ (.int .i64 (K + 1 : Nat))) := (Fr.setCell _ (.inl rfl)).trans (Fr.setCell _ (.inl rfl))
    exact (f1.trans (Fr.of_ext e1)).trans ((Fr.setCell _ (.inl rfl)).trans (f2.mono (fun k _ h => .inr h)))
  have hkl : (markT t K).kids.length = t.kids.length := by rw [markT_kids, markL_len]
  have hmn : (markT t K).name = markB (K + 2) := by cases t; rfl
  have hown : Tm.own G w2 (markT t K) (.slice a' (markT t K).kids.length c') := own_iff.2 ⟨by rw [hmn]; exact markB_size (by omega), by rw [hkl]; exact hlen, by rw [hkl, markT_kids]; exact ho2⟩
  refine ⟨⟨_, ?_, ?_, hback w2 (markT t K) _ fM ?_ hkl hown⟩, fM.mono (fun b _ hb => ?_)⟩
  · have : (ls ++ markT t K :: bs).length = n := by rw [hn]; simp
    rw [this]
    exact r4
  · intro g' hg'
    simp [Value.ownBlock] at hg'
    subst hg'
    exact hFg
  · rintro b ⟨_, hb⟩ (rfl | h)
    · exact absurd rfl hb
    · exact h
  · rcases hb with rfl | hb
    · exact hFg
    · exact (hG b hb).1
def MarkC (ts : List Tm) : Prop := ∀ (F : Nat → Prop) (v : Value) (w : World) (k : Nat), k + 3 * Tm.szL ts < 9000000 → OwnS F ts v w →
  Calls Tryz.prog 77 #[v, .int .i64 k] w fun e w' => e = .returned (.int .i64 (k + 3 * Tm.szL ts : Nat)) ∧ OwnS F (markL ts k) v w' ∧ Fr F w w'
set_option maxRecDepth 100000 in
set_option maxHeartbeats 1000000 in
theorem lawsmarkTermS : ∀ (m : Nat) (ts : List Tm), Tm.szL ts ≤ m → MarkC ts := by
  intro m
  induction m using Nat.strongRecOn with
  | _ m ih =>
    intro ts hm F v w k hk ho
    have IH := Lib.hid (show ∀ (j : Nat) (t : Tm), ts[j]? = some t → MarkC t.kids from fun j t h => by
      have h1 := Tm.sz_mem h
      have h2 : Tm.szL t.kids < Tm.sz t := by cases t; simp only [Tm.sz, Tm.kids]; omega
      exact ih (Tm.szL t.kids) (by omega) t.kids (Nat.le_refl _))
    clear ih hm
    obtain ⟨a, cap, rfl⟩ := ho.form
    have hl : ts.length ≤ 9223372036854775807 := by
      obtain ⟨xs, h1, _⟩ := ho
      rcases h1.2 with ⟨_, h2⟩ | ⟨g, cap, cur, h1, h2, h3, h4, h5, _⟩
      · omega
      · simp only [maxLen] at h5; omega
    have HKB := Lib.hid hk
    have HO := Lib.hid ho
    clear hk ho
    go_enter Tryz.func77, Tryz.ntmps77
    go_wp2_with fail
    go_loopw [1, 5] (fun q i wr => ∃ (j K : Nat), j ≤ ts.length ∧ i = .int .i64 j ∧ q = .int .i64 K ∧ Hid (K = k + 3 * Tm.szL (ts.take j)) ∧ Hid (OwnS F (markL (ts.take j) k ++ ts.drop j) (.slice a ts.length cap) wr) ∧ Hid (Fr F w wr)) (fun _ i _ => ts.length - (intOf i).toNat)
    case atStart => exact ⟨0, k, Nat.zero_le _, rfl, rfl, Lib.hid (by simp [Tm.szL]), Lib.hid (by simpa [markL] using HO.out), Lib.hid (Fr.refl _ _)⟩
    case round =>
      obtain ⟨j, K, hj, rfl, rfl, HK, HS, HF⟩ := hrel
      by_cases hlt : j < ts.length
      · obtain ⟨tk, htk⟩ := getk hlt
        have hdrop : ts.drop j = tk :: ts.drop (j + 1) := by
          obtain ⟨h1, rfl⟩ := List.getElem?_eq_some_iff.1 htk
          exact List.drop_eq_getElem_cons h1
        have hs := HS.out
        rw [hdrop] at hs
        obtain ⟨xs, how, hFg, hfl⟩ := hs
        have hlen : (markL (ts.take j) k ++ tk :: ts.drop (j + 1)).length = ts.length := by rw [← hdrop]; simp [markL_len]; omega
        rw [hlen] at how
        obtain ⟨g, rfl⟩ := own_slice how (by omega)
        obtain ⟨G, x1, x2, a', c', rfl, hx1, hG, hown, hback⟩ := oflat_focus hfl
        have hx1' : x1.length = j * 4 := by rw [hx1, markL_len, List.length_take]; congr 1; omega
        obtain ⟨hkn, hkl, hko⟩ := own_iff.1 hown
        have hsz := szL_snoc' htk
        have hsl := szL_take_le ts (j + 1)
        have hsk : Tm.sz tk = 1 + Tm.szL tk.kids := by cases tk; rfl
        have hKB : K + 3 + 3 * Tm.szL tk.kids < 9000000 := by have := HK.out; have := HKB.out; omega
        have o0 : wr.cell? ⟨g, j * 4, none⟩ = some (.int .i64 tk.kind) := by rw [how.cellAt _ (by omega)]; simp [← hx1', tcells]
        have o1 : wr.cell? ⟨g, j * 4 + 1, none⟩ = some (.int .i64 tk.n) := by rw [how.cellAt _ (by omega)]; simp [← hx1', tcells]
        have o2 : wr.cell? ⟨g, j * 4 + 2, none⟩ = some (.string tk.name) := by rw [how.cellAt _ (by omega)]; simp [← hx1', tcells]
        have o3 : wr.cell? ⟨g, j * 4 + 3, none⟩ = some (.slice a' tk.kids.length c') := by rw [how.cellAt _ (by omega)]; simp [← hx1', tcells]
        have f0 := how.frozenAt (j * 4)
        have f1 := how.frozenAt (j * 4 + 1)
        have f2 := how.frozenAt (j * 4 + 2)
        have HM := Lib.hid (show ∀ w', Calls Tryz.prog 76 #[.int .i64 ((K : Int) + 1 + 1)] w' (fun e w'' => e = .returned (.string (markB (K + 2))) ∧ Ext w' w'') from fun w' => by
          have h := lawsmarkText (K + 2) (by omega) w'
          rwa [show ((K + 2 : Nat) : Int) = (K : Int) + 1 + 1 by omega] at h)
        have HC := Lib.hid (show ∀ w', OwnS G tk.kids (.slice a' tk.kids.length c') w' → Calls Tryz.prog 77 #[.slice a' tk.kids.length c', .int .i64 ((K : Int) + 1 + 1 + 1)] w' (fun e w'' => e = .returned (.int .i64 ((K : Int) + 1 + 1 + 1 + (3 * Tm.szL tk.kids : Nat))) ∧ OwnS G (markL tk.kids (K + 3)) (.slice a' tk.kids.length c') w'' ∧ Fr G w' w'') from fun w' h => by
          have h := IH.out j tk htk G _ w' (K + 3) (by omega) h
          rwa [show ((K + 3 : Nat) : Int) = (K : Int) + 1 + 1 + 1 by omega, show ((K + 3 + 3 * Tm.szL tk.kids : Nat) : Int) = (K : Int) + 1 + 1 + 1 + (3 * Tm.szL tk.kids : Nat) by omega] at h)
        have HGg : Hid (¬ G g) := Lib.hid (fun h => (hG g h).2 rfl)
        have HOW := Lib.hid how
        have HFG := Lib.hid (hFg g rfl)
        have HLEN := Lib.hid hlen
        have HGF := Lib.hid hG
        have HBK := Lib.hid hback
        have HKO := Lib.hid hko
        have HX := Lib.hid hx1'
        have HTK := Lib.hid htk
        have HSZ := Lib.hid hsz
        have HSK := Lib.hid hsk
        have HKK := Lib.hid hKB
        have hK2 : K ≤ 9223372036854775800 := by omega
        have hgl := block_lt_of_cell o0
        simp only at hgl
        clear hdrop hfl how hFg hlen hG hown hback hko hx1 hx1' htk hsz hsl hsk hKB hkn
        go_wp2_with fail
        refine (HM.out _).mono ?_
        rintro e w1 ⟨rfl, e1⟩
        have q2 := e1.cell (cell_off (i := j * 4 + 2) (j := j * 4 + 1) (by omega) (cell_off (i := j * 4 + 2) (j := j * 4) (by omega) o2))
        have q3 := e1.cell (cell_off (i := j * 4 + 3) (j := j * 4 + 1) (by omega) (cell_off (i := j * 4 + 3) (j := j * 4) (by omega) o3))
        have q4 := e1.frozen (a := ⟨g, j * 4 + 2, none⟩) (by simpa [World.setCell] using hgl) (by rw [World.frozen?_setCell, World.frozen?_setCell]; exact f2)
        have E1 := Lib.hid e1
        have FE := Lib.hid (((Fr.setCell (M := fun b => b = g) wr rfl).trans (Fr.setCell (M := fun b => b = g) _ rfl)).trans (Fr.of_ext e1))
        clear e1
        go_wp2_with fail
        refine (HC.out _ (HKO.out.mono (fun _ h => h) (FE.out.trans (Fr.setCell _ rfl)) (fun b hb h => HGg.out (h ▸ hb)))).mono ?_
        rintro e w2 ⟨rfl, ho2, fr2⟩
        obtain ⟨hO, hFr⟩ := mark_next HOW.out HX.out HFG.out HLEN.out.symm HGF.out (by have := HKK.out; omega) hkl HBK.out rfl (by go_num) E1.out fr2 ho2
        have HO2 := Lib.hid hO
        have HF2 := Lib.hid hFr
        clear ho2 fr2 hO hFr
        go_wp2_with fail
        go_roundw
        case rel =>
          refine ⟨j + 1, K + 3 + 3 * Tm.szL tk.kids, by omega, by go_num, ?_, Lib.hid (by rw [HSZ.out, HSK.out, HK.out]; omega), Lib.hid ?_, Lib.hid (HF.out.trans HF2.out)⟩
          · first | (congr 1; done) | (congr 1; omega)
          · rw [markL_snoc HTK.out, ← HK.out]
            simpa using HO2.out
        case measure => simp [intOf]; omega
      · obtain rfl : j = ts.length := by omega
        have hs := HS.out
        have hK := HK.out
        simp only [List.take_length, List.drop_length, List.append_nil] at hs hK
        have HS := Lib.hid hs
        have HK := Lib.hid hK
        clear hs hK
        go_wp2_with fail
        go_ret
        exact ⟨retI (by rw [HK.out]), HS.out, HF.out⟩
def HeldC (ts : List Tm) : Prop := ∀ (S : Nat → Prop) (v : Value) (w : World) (k : Nat), k + 3 * Tm.szL ts < 9000000 → Tm.sl S w (markL ts k) v →
  Calls Tryz.prog 78 #[v, .int .i64 k] w fun e w' => e = .returned (.int .i64 (k + 3 * Tm.szL ts : Nat)) ∧ Ext w w'
set_option maxRecDepth 100000 in
set_option maxHeartbeats 1000000 in
theorem lawsheldTermS : ∀ (m : Nat) (ts : List Tm), Tm.szL ts ≤ m → HeldC ts := by
  intro m
  induction m using Nat.strongRecOn with
  | _ m ih =>
    intro ts hm S v w k hk ht
    have IH := Lib.hid (show ∀ (j : Nat) (t : Tm), ts[j]? = some t → HeldC t.kids from fun j t h => by
      have h1 := Tm.sz_mem h
      have h2 : Tm.szL t.kids < Tm.sz t := by cases t; simp only [Tm.sz, Tm.kids]; omega
      exact ih (Tm.szL t.kids) (by omega) t.kids (Nat.le_refl _))
    clear ih hm
    obtain ⟨a, cap, rfl, h1, h2, h3, h4⟩ := ht
    rw [markL_len] at h1 h3
    rw [markL_len]
    have H4 := Lib.hid h4
    have HKB := Lib.hid hk
    clear h4 hk
    go_enter Tryz.func78, Tryz.ntmps78
    go_wp2_with fail
    go_loopw [1, 5] (fun q i wr => ∃ (j K : Nat), j ≤ ts.length ∧ i = .int .i64 j ∧ q = .int .i64 K ∧ Hid (K = k + 3 * Tm.szL (ts.take j)) ∧ Hid (Ext w wr)) (fun _ i _ => ts.length - (intOf i).toNat)
    case atStart => exact ⟨0, k, Nat.zero_le _, rfl, rfl, Lib.hid (by simp [Tm.szL]), Lib.hid (Ext.refl _)⟩
    case round =>
      obtain ⟨j, K, hj, rfl, rfl, HK, HE⟩ := hrel
      by_cases hlt : j < ts.length
      · obtain ⟨tk, htk⟩ := getk hlt
        have hmk := markL_get (k := k) htk
        rw [← HK.out] at hmk
        obtain ⟨b, off, a', c', rfl, hSb, c0, c1, c2, c3, hat⟩ := tget H4.out hmk
        have c0 := HE.out.cell c0
        have c1 := HE.out.cell c1
        have c2 := HE.out.cell c2
        have c3 := HE.out.cell c3
        have hat := Tm.at_ext HE.out hat
        have hsl : Tm.sl S wr (markL tk.kids (K + 3)) (.slice a' tk.kids.length c') := by
          obtain ⟨_, sv, hv, hs⟩ := Tm.at_iff.1 hat
          have hsv : sv = .slice a' (markT tk K).kids.length c' := by
            simp only [Value.agg.injEq] at hv
            have := congrArg (fun x : Array Value => x[3]?) hv
            simpa using this.symm
          subst hsv
          rwa [markT_kids, markL_len] at hs
        have hsz := szL_snoc' htk
        have hsl2 := szL_take_le ts (j + 1)
        have hsk : Tm.sz tk = 1 + Tm.szL tk.kids := by cases tk; rfl
        have hKB : K + 3 + 3 * Tm.szL tk.kids < 9000000 := by have := HK.out; have := HKB.out; omega
        rw [show (markT tk K).kind = (K : Int) by cases tk; rfl] at c0
        rw [show (markT tk K).n = (K : Int) + 1 by cases tk; simp [markT, Tm.n]] at c1
        rw [show (markT tk K).name = markB (K + 2) by cases tk; rfl] at c2
        rw [markT_kids, markL_len] at c3
        have d2 := cell_regrown c2
        have HM := Lib.hid (show ∀ w', Ext wr w' → Calls Tryz.prog 76 #[.int .i64 ((K : Int) + 1 + 1)] w' (fun e w'' => e = .returned (.string (markB (K + 2))) ∧ Ext w' w'') from fun w' _ => by
          have h := lawsmarkText (K + 2) (by omega) w'
          rwa [show ((K + 2 : Nat) : Int) = (K : Int) + 1 + 1 by omega] at h)
        have HC := Lib.hid (show ∀ w', Ext wr w' → Calls Tryz.prog 78 #[.slice a' tk.kids.length c', .int .i64 ((K : Int) + 1 + 1 + 1)] w' (fun e w'' => e = .returned (.int .i64 ((K : Int) + 1 + 1 + 1 + (3 * Tm.szL tk.kids : Nat))) ∧ Ext w' w'') from fun w' e' => by
          have h := IH.out j tk htk S _ w' (K + 3) (by omega) (Tm.sl_ext e' hsl)
          rwa [show ((K + 3 : Nat) : Int) = (K : Int) + 1 + 1 + 1 by omega, show ((K + 3 + 3 * Tm.szL tk.kids : Nat) : Int) = (K : Int) + 1 + 1 + 1 + (3 * Tm.szL tk.kids : Nat) by omega] at h)
        have cQ := quiet_call (w := wr) HM.out
        have HSZ := Lib.hid hsz
        have HSK := Lib.hid hsk
        have hK2 : K ≤ 9223372036854775800 := by omega
        clear hat hsl hsz hsl2 hsk hKB htk hmk hSb
        go_wp2_with fail
        refine region_ext (by kernel_rfl) (by kernel_rfl) ?_
        repeat (quiet_step (exact cQ _ _))
        refine wpQuiet_nil ?_
        intro wq eq
        have c3 := eq.cell c3
        have EQ := Lib.hid eq
        clear eq d2 cQ c0 c1 c2
        go_wp2_with fail
        refine (HC.out _ EQ.out).mono ?_
        rintro e w2 ⟨rfl, e2⟩
        have E2 := Lib.hid e2
        clear e2
        go_wp2_with fail
        go_roundw
        case rel =>
          refine ⟨j + 1, K + 3 + 3 * Tm.szL tk.kids, by omega, by go_num, ?_, Lib.hid (by rw [HSZ.out, HSK.out, HK.out]; omega), Lib.hid ((HE.out.trans EQ.out).trans E2.out)⟩
          first | (congr 1; done) | (congr 1; omega)
        case measure => simp [intOf]; omega
      · obtain rfl : j = ts.length := by omega
        have hK := HK.out
        simp only [List.take_length] at hK
        have HK := Lib.hid hK
        clear hK
        go_wp2_with fail
        go_ret
        exact ⟨retI (by rw [HK.out]), HE.out⟩
end Go.Proofs.YtognkaebiafgbaaGreatDoor

namespace Go.Proofs.YtognkaebiafgbaaGreatDoor
open Go.RowKit
set_option linter.unusedVariables false
theorem own_at {F : Nat → Prop} {w : World} {t : Tm} {a : Option Addr} {c : Nat} (h : OwnS F t.kids (.slice a t.kids.length c) w) (hn : t.name.size ≤ 1048576) (hl : t.kids.length ≤ 1048576) :
    Tm.at F w t (.agg #[.int .i64 t.kind, .int .i64 t.n, .string t.name, .slice a t.kids.length c]) := own_flat t a c (own_iff.2 ⟨hn, hl, h⟩)
theorem OwnS.zone {F F' : Nat → Prop} {w : World} {ts : List Tm} {v : Value} (h : OwnS F ts v w) (hF : ∀ b, F b → F' b) : OwnS F' ts v w := h.mono (M := fun _ => False) hF (Fr.refl _ _) (fun _ _ h => h)
theorem own_kids {F : Nat → Prop} {w : World} {t : Tm} {v : Value} (h : Tm.own F w t v) : OwnS F t.kids v w := (own_iff.1 h).2.2
end Go.Proofs.YtognkaebiafgbaaGreatDoor

namespace Go.Proofs.YtognkaebiafgbaaGreatDoor
open Go.RowKit
set_option linter.unusedVariables false
theorem info_cl : (Tryz.prog.info? 27).map (fun i => (i.zero, i.size, i.bytes)) = some (some (.agg #[.int .i64 0, .int .i64 0, .string ⟨#[]⟩, .slice none 0 0, .slice none 0 0]), 5, 80) := by kernel_rfl
theorem own_empty5 {w : World} {T b : Nat} (hb : b = w.heap.size) : (w.alloc (.cells #[] T)).ownsRow b T 5 (.slice (some ⟨b, 0, none⟩) 0 0) 0 [] := by
  subst hb
  refine ⟨rfl, .inr ⟨w.heap.size, 0, #[], rfl, Nat.le_refl _, ?_, by omega, by decide, rfl, rfl⟩⟩
  show (w.heap.push _)[w.heap.size]? = _
  simp
def ClP (F : Nat → Prop) (c : Cl) (a : Option Addr) (ca : Nat) (b : Option Addr) (cb : Nat) (w : World) : Prop :=
  c.body.length ≤ 1048576 ∧ ∃ F1 F2 : Nat → Prop, (∀ k, F1 k → F k ∧ ¬ F2 k) ∧ (∀ k, F2 k → F k) ∧ Tm.own F1 w c.head (.slice a c.head.kids.length ca) ∧ OwnS F2 c.body (.slice b c.body.length cb) w
theorem ClP.mono {F F' M : Nat → Prop} {c : Cl} {a b : Option Addr} {ca cb : Nat} {w w' : World} (h : ClP F c a ca b cb w) (hF : ∀ k, F k → F' k) (f : Fr M w w') (hM : ∀ k, F k → ¬ M k) : ClP F' c a ca b cb w' := by
  obtain ⟨hl, F1, F2, h1, h2, h3, h4⟩ := h
  exact ⟨hl, F1, F2, fun k hk => ⟨hF k (h1 k hk).1, (h1 k hk).2⟩, fun k hk => hF k (h2 k hk), own_mono (fun _ h => h) f (fun k hk => hM k (h1 k hk).1) _ _ h3, h4.mono (fun _ h => h) f (fun k hk => hM k (h2 k hk))⟩
theorem ClP.zone {F F' : Nat → Prop} {c : Cl} {a b : Option Addr} {ca cb : Nat} {w : World} (h : ClP F c a ca b cb w) (hF : ∀ k, F k → F' k) : ClP F' c a ca b cb w := h.mono (M := fun _ => False) hF (Fr.refl _ _) (fun _ _ h => h)
theorem ClP.ext {F : Nat → Prop} {c : Cl} {a b : Option Addr} {ca cb : Nat} {w w' : World} (h : ClP F c a ca b cb w) (e : Ext w w') : ClP F c a ca b cb w' := h.mono (M := fun _ => False) (fun _ h => h) (Fr.of_ext e) (fun _ _ h => h)
theorem ClP.bound {F : Nat → Prop} {c : Cl} {a b : Option Addr} {ca cb : Nat} {w : World} (h : ClP F c a ca b cb w) : ClP (fun k => F k ∧ k < w.heap.size) c a ca b cb w := by
  obtain ⟨hl, F1, F2, h1, h2, h3, h4⟩ := h
  exact ⟨hl, fun k => F1 k ∧ k < w.heap.size, fun k => F2 k ∧ k < w.heap.size, fun k hk => ⟨⟨(h1 k hk.1).1, hk.2⟩, fun h => (h1 k hk.1).2 h.1⟩, fun k hk => ⟨h2 k hk.1, hk.2⟩, own_bound _ _ h3, h4.bound⟩
theorem ClP.flat {F : Nat → Prop} {c : Cl} {a b : Option Addr} {ca cb : Nat} {w : World} (h : ClP F c a ca b cb w) :
    Tm.at F w c.head (.agg #[.int .i64 c.head.kind, .int .i64 c.head.n, .string c.head.name, .slice a c.head.kids.length ca]) ∧ Tm.sl F w c.body (.slice b c.body.length cb) := by
  obtain ⟨hl, F1, F2, h1, h2, h3, h4⟩ := h
  exact ⟨Tm.at_mono (fun k hk => (h1 k hk).1) (Agree.refl _) (own_flat _ _ _ h3), Tm.sl_mono (fun k hk => h2 k hk) (Agree.refl _) (h4.app.sl hl)⟩
theorem ClOw.ownP {c : Cl} {v : Value} {w0 w : World} (h : ClOw c v w0 w) (hl : c.body.length ≤ 1048576) : ∃ a ca b cb, v = .agg #[.int .i64 c.head.kind, .int .i64 c.head.n, .string c.head.name, .slice a c.head.kids.length ca, .slice b c.body.length cb] ∧ ClP (fun k => w0.heap.size ≤ k) c a ca b cb w := by
  obtain ⟨a, ca, b, cb, m, rfl, h2, h3, h4, h5⟩ := h
  exact ⟨a, ca, b, cb, rfl, hl, _, _, fun k hk => ⟨hk.1, fun h => by have h1 := hk.2; have h2 := h.1; omega⟩, fun k hk => (by have h1 := hk.1; show w0.heap.size ≤ k; omega), h2, h3⟩
def Cl.oflat (w : World) : List Cl → (Nat → Prop) → List Value → Prop
  | [], _, xs => xs = []
  | c :: cs, F, xs => ∃ (G F2 : Nat → Prop) (a : Option Addr) (ca : Nat) (b : Option Addr) (cb : Nat) (rest : List Value), xs = ccells c a ca b cb ++ rest ∧ (∀ k, G k → F k ∧ ¬ F2 k) ∧ (∀ k, F2 k → F k) ∧ ClP G c a ca b cb w ∧ Cl.oflat w cs F2 rest
theorem coflat_mono {M : Nat → Prop} {w w' : World} (f : Fr M w w') : ∀ (cs : List Cl) (xs : List Value) {F F' : Nat → Prop}, (∀ k, F k → F' k) → (∀ k, F k → ¬ M k) → Cl.oflat w cs F xs → Cl.oflat w' cs F' xs
  | [], xs, _, _, _, _, h => h
  | c :: cs, xs, F, F', hF, hM, h => by
    obtain ⟨G, F2, a, ca, b, cb, rest, h1, h2, h3, h4, h5⟩ := h
    exact ⟨G, F2, a, ca, b, cb, rest, h1, fun k hk => ⟨hF k (h2 k hk).1, (h2 k hk).2⟩, fun k hk => hF k (h3 k hk), h4.mono (fun _ h => h) f (fun k hk => hM k (h2 k hk).1), coflat_mono f cs rest (fun _ h => h) (fun k hk => hM k (h3 k hk)) h5⟩
theorem coflat_bound {w : World} : ∀ (cs : List Cl) (xs : List Value) {F : Nat → Prop}, Cl.oflat w cs F xs → Cl.oflat w cs (fun k => F k ∧ k < w.heap.size) xs
  | [], xs, _, h => h
  | c :: cs, xs, F, h => by
    obtain ⟨G, F2, a, ca, b, cb, rest, h1, h2, h3, h4, h5⟩ := h
    exact ⟨fun k => G k ∧ k < w.heap.size, fun k => F2 k ∧ k < w.heap.size, a, ca, b, cb, rest, h1, fun k hk => ⟨⟨(h2 k hk.1).1, hk.2⟩, fun h => (h2 k hk.1).2 h.1⟩, fun k hk => ⟨h3 k hk.1, hk.2⟩, h4.bound, coflat_bound cs rest h5⟩
theorem coflat_flat {w : World} : ∀ (cs : List Cl) (xs : List Value) {F : Nat → Prop}, Cl.oflat w cs F xs → Cl.flat F w cs xs
  | [], xs, _, h => h
  | c :: cs, xs, F, h => by
    obtain ⟨G, F2, a, ca, b, cb, rest, h1, h2, h3, h4, h5⟩ := h
    have hf := h4.flat
    exact ⟨a, ca, b, cb, rest, h1, ⟨Tm.at_mono (fun k hk => (h2 k hk).1) (Agree.refl _) hf.1, Tm.sl_mono (fun k hk => (h2 k hk).1) (Agree.refl _) hf.2⟩, cflat_mono h3 (Agree.refl _) (coflat_flat cs rest h5)⟩
theorem coflat_snoc {w : World} {c : Cl} {a b : Option Addr} {ca cb : Nat} {G : Nat → Prop} (hc : ClP G c a ca b cb w) : ∀ (cs : List Cl) (xs : List Value) {F : Nat → Prop}, Cl.oflat w cs F xs → (∀ k, F k → ¬ G k) → Cl.oflat w (cs ++ [c]) (fun k => F k ∨ G k) (xs ++ ccells c a ca b cb)
  | [], xs, F, h, _ => by
    have hx : xs = [] := h
    subst hx
    exact ⟨G, fun _ => False, a, ca, b, cb, [], by simp, fun k hk => ⟨.inr hk, fun h => h⟩, fun k hk => hk.elim, hc, rfl⟩
  | d :: cs, xs, F, h, hd => by
    obtain ⟨G1, F2, a1, ca1, b1, cb1, rest, rfl, h2, h3, h4, h5⟩ := h
    exact ⟨G1, fun k => F2 k ∨ G k, a1, ca1, b1, cb1, rest ++ ccells c a ca b cb, by simp, fun k hk => ⟨.inl (h2 k hk).1, fun h => h.elim (h2 k hk).2 (hd k (h2 k hk).1)⟩, fun k hk => hk.elim (fun h => .inl (h3 k h)) .inr, h4, coflat_snoc hc cs rest h5 (fun k hk => hd k (h3 k hk))⟩
theorem coflat_focus {w : World} {c : Cl} : ∀ (ls bs : List Cl) (xs : List Value) {F : Nat → Prop}, Cl.oflat w (ls ++ c :: bs) F xs →
    ∃ (G : Nat → Prop) (x1 x2 : List Value) (a : Option Addr) (ca : Nat) (b : Option Addr) (cb : Nat), xs = x1 ++ (ccells c a ca b cb ++ x2) ∧ x1.length = ls.length * 5 ∧ (∀ k, G k → F k) ∧ ClP G c a ca b cb w ∧
      ∀ (w' : World) (c' : Cl) (M : Nat → Prop), Fr M w w' → (∀ k, F k → M k → G k) → ClP G c' a ca b cb w' → Cl.oflat w' (ls ++ c' :: bs) F (x1 ++ (ccells c' a ca b cb ++ x2))
  | [], bs, xs, F, h => by
    obtain ⟨G, F2, a, ca, b, cb, rest, rfl, h2, h3, h4, h5⟩ := h
    refine ⟨G, [], rest, a, ca, b, cb, rfl, rfl, fun k hk => (h2 k hk).1, h4, ?_⟩
    intro w' c' M f hM ho
    exact ⟨G, F2, a, ca, b, cb, rest, rfl, h2, h3, ho, coflat_mono f bs rest (fun _ h => h) (fun k hk hm => (h2 k (hM k (h3 k hk) hm)).2 hk) h5⟩
  | d :: ls, bs, xs, F, h => by
    obtain ⟨G1, F2, a1, ca1, b1, cb1, rest, rfl, h2, h3, h4, h5⟩ := h
    obtain ⟨G, x1, x2, a, ca, b, cb, rfl, e2, e3, e4, e5⟩ := coflat_focus ls bs rest h5
    refine ⟨G, ccells d a1 ca1 b1 cb1 ++ x1, x2, a, ca, b, cb, by simp, by simp [ccells, e2]; omega, fun k hk => h3 k (e3 k hk), e4, ?_⟩
    intro w' c' M f hM ho
    exact ⟨G1, F2, a1, ca1, b1, cb1, x1 ++ (ccells c' a ca b cb ++ x2), by simp, h2, h3, h4.mono (fun _ h => h) f (fun k hk hm => (h2 k hk).2 (e3 k (hM k (h2 k hk).1 hm))), e5 w' c' M f (fun k hk hm => hM k (h3 k hk) hm) ho⟩
def OwnP (F : Nat → Prop) (cs : List Cl) (v : Value) (w : World) : Prop :=
  ∃ xs, w.ownsRow 0 27 5 v cs.length xs ∧ (∀ g, v.ownBlock = some g → F g) ∧ Cl.oflat w cs (fun b => F b ∧ v.ownBlock ≠ some b) xs
theorem OwnP.mono {F F' M : Nat → Prop} {w w' : World} {cs : List Cl} {v : Value} (h : OwnP F cs v w) (hF : ∀ b, F b → F' b) (f : Fr M w w') (hM : ∀ b, F b → ¬ M b) : OwnP F' cs v w' := by
  obtain ⟨xs, h3, h4, h5⟩ := h
  exact ⟨xs, own_fr h3 f (fun g hg => hM g (h4 g hg)), fun g hg => hF g (h4 g hg), coflat_mono f _ _ (fun b hb => ⟨hF b hb.1, hb.2⟩) (fun b hb => hM b hb.1) h5⟩
theorem OwnP.zone {F F' : Nat → Prop} {w : World} {cs : List Cl} {v : Value} (h : OwnP F cs v w) (hF : ∀ b, F b → F' b) : OwnP F' cs v w := h.mono (M := fun _ => False) hF (Fr.refl _ _) (fun _ _ h => h)
theorem OwnP.ext {F : Nat → Prop} {w w' : World} {cs : List Cl} {v : Value} (h : OwnP F cs v w) (e : Ext w w') : OwnP F cs v w' := h.mono (M := fun _ => False) (fun _ h => h) (Fr.of_ext e) (fun _ _ h => h)
theorem OwnP.bound {F : Nat → Prop} {w : World} {cs : List Cl} {v : Value} (h : OwnP F cs v w) : OwnP (fun b => F b ∧ b < w.heap.size) cs v w := by
  obtain ⟨xs, h3, h4, h5⟩ := h
  exact ⟨xs, h3, fun g hg => ⟨h4 g hg, (h3.lt g hg).2⟩, coflat_mono (M := fun _ => False) (Fr.refl _ _) _ _ (fun b hb => ⟨⟨hb.1.1, hb.2⟩, hb.1.2⟩) (fun _ _ h => h) (coflat_bound _ _ h5)⟩
theorem OwnP.nil (F : Nat → Prop) (w : World) : OwnP F [] (.slice none 0 0) w := ⟨[], ⟨rfl, .inl ⟨rfl, rfl⟩⟩, by simp [Value.ownBlock], rfl⟩
theorem OwnP.empty {F : Nat → Prop} {w : World} {b : Nat} (hb : b = w.heap.size) (hz : F b) : OwnP F [] (.slice (some ⟨b, 0, none⟩) 0 0) (w.alloc (.cells #[] 27)) :=
  ⟨[], own_low (own_empty5 hb) (Nat.zero_le _), by intro g hg; simp [Value.ownBlock] at hg; subst hg; exact hz, rfl⟩
theorem OwnP.form {F : Nat → Prop} {cs : List Cl} {v : Value} {w : World} (h : OwnP F cs v w) : ∃ a c, v = .slice a cs.length c := by
  obtain ⟨xs, h, _⟩ := h
  exact own_form h
theorem OwnP.sl {F : Nat → Prop} {cs : List Cl} {v : Value} {w : World} (h : OwnP F cs v w) (hl : cs.length ≤ 1048576) : Cl.sl F w cs v := by
  obtain ⟨xs, ho, hz, hf⟩ := h
  refine Cl.sl_mono ?_ (Agree.refl _) (own_slC ho (coflat_flat _ _ hf) hl)
  rintro b (hb | hb)
  · exact hb.1
  · exact hz b hb
theorem ownP_next {F G : Nat → Prop} {ts : List Cl} {t : Cl} {v nv : Value} {w1 w2 : World} {xs : List Value} {a b : Option Addr} {ca cb : Nat} {o : Obj}
    (how : w1.ownsRow 0 27 5 v ts.length xs) (hz : ∀ g, v.ownBlock = some g → F g) (hfl : Cl.oflat w1 ts (fun b => F b ∧ v.ownBlock ≠ some b) xs)
    (hv1 : ClP G t a ca b cb w1) (hdis : ∀ b, F b → ¬ G b) (hG : ∀ b, G b → b < w1.heap.size) (hFl : ∀ b, F b → b < w1.heap.size)
    (ho2 : w2.ownsRow 0 27 5 nv (ts.length + 1) (xs ++ ccells t a ca b cb)) (hg : (w1.alloc o).grownBy w2 v.ownBlock)
    (hfr : ∀ g, nv.ownBlock = some g → v.ownBlock = some g ∨ (w1.alloc o).heap.size ≤ g) : OwnP (fun b => F b ∨ G b ∨ w1.heap.size ≤ b) (ts ++ [t]) nv w2 := by
  have hs3 : (w1.alloc o).heap.size = w1.heap.size + 1 := by simp
  have f : Fr (fun b => v.ownBlock = some b) w1 w2 := (Fr.alloc w1 o).trans (Fr.of_grown hg (fun k hk => hk))
  refine ⟨xs ++ ccells t a ca b cb, by simpa using ho2, ?_, ?_⟩
  · intro g hgg
    rcases hfr g hgg with h | h
    · exact .inl (hz g h)
    · exact .inr (.inr (by omega))
  · have hne : ∀ b, b < w1.heap.size → v.ownBlock ≠ some b → nv.ownBlock ≠ some b := by
      intro b hb h1 h2
      rcases hfr b h2 with h | h
      · exact h1 h
      · omega
    have hgv : ∀ b, G b → v.ownBlock ≠ some b := fun b hb h => hdis b (hz b h) hb
    have hs := coflat_snoc (hv1.mono (F' := G) (fun b hb => hb) f (fun b hb => hgv b hb)) ts xs (coflat_mono f ts xs (F' := fun b => F b ∧ v.ownBlock ≠ some b) (fun b hb => hb) (fun b hb => hb.2) hfl) (fun b hb => hdis b hb.1)
    refine coflat_mono (M := fun _ => False) (Fr.refl _ _) _ _ ?_ (fun b _ h => h) hs
    rintro b (hb | hb)
    · exact ⟨.inl hb.1, hne b (hFl b hb.1) hb.2⟩
    · exact ⟨.inr (.inl hb), hne b (hG b hb) (hgv b hb)⟩
theorem cell_five (w : World) (t : Cl) (T : Nat) {a b : Option Addr} {ca cb : Nat} (j : Nat) (u : Value) (h : (ccells t a ca b cb)[j]? = some u) :
    (w.alloc (.cells #[.int .i64 t.head.kind, .int .i64 t.head.n, .string t.head.name, .slice a t.head.kids.length ca, .slice b t.body.length cb] T)).cell? ((⟨w.heap.size, 0, none⟩ : Addr).add j) = some u := by
  rw [show (⟨w.heap.size, 0, none⟩ : Addr).add j = ⟨w.heap.size, 0 + j, none⟩ by unfold Addr.add; split <;> simp_all]
  exact cell_new _ _ _ _ _ (by simpa [ccells] using h)
theorem wpList_append_clx {P : Program} {ops : Array Oper} {rest : List Oper} {o : Oper} {a : Act} {w0 w1 : World} {Q : Exit → Act → World → Prop} (X : Nat → Prop)
    (hgd : o.guard = none) (s x : Operand) (ty : TypeId)
    (ho : o.op = .call { callee := .builtin .append, args := #[s, x], argTypes := #[ty, ty] })
    (z : Nat) (i : TypeInfo) (ht : P.underlying ty = some (.slice 27)) (hi : P.info? 27 = some i) (hz : i.zero = some (.agg #[.int .i64 0, .int .i64 0, .string ⟨#[]⟩, .slice none 0 0, .slice none 0 0]))
    (hsize : i.size = 5) (hby : i.bytes = 80)
    (v : Value) (ts : List Cl) (t : Cl) (a2 b2 : Option Addr) (c2 d2 : Nat) (hs : a.eval s = v) (happ : OwnP (fun b => z ≤ b ∧ b < w0.heap.size ∧ ¬ X b) ts v w1) {nb : Nat} (hx : a.eval x = .slice (some ⟨nb, 0, none⟩) 1 1)
    (hv1 : ClP (fun b => w0.heap.size ≤ b ∧ ¬ X b) t a2 c2 b2 d2 w1) (hw : w0.heap.size ≤ w1.heap.size) (hzw : z ≤ w0.heap.size) (hX : ∀ b, X b → b < w1.heap.size)
    (hl : ts.length < 1048576) (hnb : nb = w1.heap.size)
    (h : ∀ av cv w2, OwnP (fun b => z ≤ b ∧ b < w2.heap.size ∧ ¬ X b) (ts ++ [t]) (.slice av (ts.length + 1) cv) w2 → Fr (fun b => z ≤ b ∧ ¬ X b) w1 w2 → wpList P ops Q rest (a.put o.dst (.slice av (ts.length + 1) cv)) w2) :
    wpList P ops Q (o :: rest) a (w1.alloc (.cells #[.int .i64 t.head.kind, .int .i64 t.head.n, .string t.head.name, .slice a2 t.head.kids.length c2, .slice b2 t.body.length d2] 27)) := by
  subst hnb
  obtain ⟨xs, how, hzz, hfl⟩ := happ
  have hb := hv1.bound
  refine wpList_append_fresh hgd s x ty ho 0 27 i _ 5 80 ht hi hz hsize hby rfl (by decide) v ts.length xs hs (own_ext how (Ext.alloc _ _)) ⟨w1.heap.size, 0, none⟩ 1 1 (ccells t a2 c2 b2 d2) hx rfl (fun j u h => cell_five _ _ _ j u h) (by simp [ccells, Value.oneCell']) (by unfold maxLen; omega) (by omega) (by omega) ?_
  intro v2 w2 ho2 hg2 hfr2 _
  obtain ⟨av, cv, rfl⟩ := own_form ho2
  have hn := ownP_next how hzz hfl hb (fun b h1 h2 => by omega) (fun b h => h.2) (fun b h => by omega) ho2 hg2 hfr2
  refine h av cv w2 ((hn.bound).zone (fun b hb => ⟨?_, hb.2, ?_⟩)) ((Fr.alloc _ _).trans (Fr.of_grown hg2 (fun k hk => ⟨(hzz k hk).1, (hzz k hk).2.2⟩)))
  · rcases hb.1 with h | h | h <;> omega
  · rcases hb.1 with h | h | h
    · exact h.2.2
    · exact h.1.2
    · intro hx; have := hX _ hx; omega
end Go.Proofs.YtognkaebiafgbaaGreatDoor
