/-
  A law's marks in the memory of bindings; equality of bindings.
-/
import Derived.Test.YtdelhgodhkbjdaaMc34
import Derived.Test.YtdelhgodhkbjdaaMc32
import Derived.Test.YtdelhgodhkbjdaaMc35
namespace Go.Proofs.Ytdelhgodhkbjdaa
open Go.RowKit
set_option linter.unusedVariables false

def mkBd (x : Bd) (k : Nat) : Bd := ⟨(k : Int), markT x.t (k + 1)⟩
def mkBL : List Bd → Nat → List Bd
  | [], _ => []
  | x :: xs, k => mkBd x k :: mkBL xs (k + 1 + 3 * Tm.sz x.t)
def szB : List Bd → Nat
  | [] => 0
  | x :: xs => 1 + 3 * Tm.sz x.t + szB xs
theorem mkBL_len : ∀ (xs : List Bd) (k : Nat), (mkBL xs k).length = xs.length
  | [], _ => rfl
  | x :: xs, k => by simp [mkBL, mkBL_len xs]
theorem szB_snoc : ∀ {xs : List Bd} {j : Nat} {x : Bd}, xs[j]? = some x → szB (xs.take (j + 1)) = szB (xs.take j) + (1 + 3 * Tm.sz x.t)
  | [], j, x, h => by simp at h
  | y :: xs, 0, x, h => by simp at h; subst h; simp [szB]
  | y :: xs, j + 1, x, h => by
    simp only [List.take_succ_cons, szB]
    rw [szB_snoc (by simpa using h)]; omega
theorem szB_take_le (xs : List Bd) (j : Nat) : szB (xs.take j) ≤ szB xs := by
  induction xs generalizing j with
  | nil => simp
  | cons x xs ih =>
    cases j with
    | zero => simp [szB]
    | succ j => have := ih j; simp only [List.take_succ_cons, szB]; omega
theorem mkBL_snoc : ∀ {xs : List Bd} {j : Nat} {x : Bd} {k : Nat}, xs[j]? = some x → mkBL (xs.take (j + 1)) k = mkBL (xs.take j) k ++ [mkBd x (k + szB (xs.take j))]
  | [], j, x, k, h => by simp at h
  | y :: xs, 0, x, k, h => by simp at h; subst h; simp [mkBL, szB]
  | y :: xs, j + 1, x, k, h => by
    simp only [List.take_succ_cons, mkBL, szB, List.cons_append]
    rw [mkBL_snoc (by simpa using h), show k + 1 + 3 * Tm.sz y.t + szB (xs.take j) = k + (1 + 3 * Tm.sz y.t + szB (xs.take j)) by omega]
theorem mkBL_get : ∀ {xs : List Bd} {j : Nat} {x : Bd} {k : Nat}, xs[j]? = some x → (mkBL xs k)[j]? = some (mkBd x (k + szB (xs.take j)))
  | [], j, x, k, h => by simp at h
  | y :: xs, 0, x, k, h => by simp at h; subst h; simp [mkBL, szB]
  | y :: xs, j + 1, x, k, h => by
    simp only [mkBL, List.take_succ_cons, szB, List.getElem?_cons_succ]
    rw [mkBL_get (by simpa using h), show k + 1 + 3 * Tm.sz y.t + szB (xs.take j) = k + (1 + 3 * Tm.sz y.t + szB (xs.take j)) by omega]
theorem own_slice5 {w : World} {T n c : Nat} {a : Option Addr} {xs : List Value} (h : w.ownsRow 0 T 5 (.slice a n c) n xs) (hn : 0 < n) : ∃ g, a = some ⟨g, 0, none⟩ := by
  rcases h.2 with ⟨h1, h2⟩ | ⟨g, cap, cur, h1, _⟩
  · omega
  · simp only [Value.slice.injEq] at h1
    exact ⟨g, h1.1⟩

theorem markB_next {F G : Nat → Prop} {wr w1 w2 : World} {g n cap j K : Nat} {ls bs : List Bd} {t : Bd} {x1 x2 : List Value} {a' : Option Addr} {c' : Nat} {y0 y1 y2 : Value}
    (how : wr.ownsRow 0 36 5 (.slice (some ⟨g, 0, none⟩) n cap) n (x1 ++ (bcells t a' c' ++ x2))) (hx1 : x1.length = j * 5) (hFg : F g) (hn : n = (ls ++ t :: bs).length)
    (hG : ∀ b, G b → F b ∧ (Value.slice (some ⟨g, 0, none⟩) n cap).ownBlock ≠ some b) (hK : K + 4 < 10000000) (hlen : t.t.kids.length ≤ 1048576)
    (hback : ∀ (w' : World) (t' : Bd) (M : Nat → Prop), Fr M wr w' → (∀ b, (F b ∧ (Value.slice (some ⟨g, 0, none⟩) n cap).ownBlock ≠ some b) → M b → G b) → t'.t.kids.length = t.t.kids.length → Tm.own G w' t'.t (.slice a' t'.t.kids.length c') →
      Bd.oflat (fun b => F b ∧ (Value.slice (some ⟨g, 0, none⟩) n cap).ownBlock ≠ some b) w' (ls ++ t' :: bs) (x1 ++ (bcells t' a' c' ++ x2)))
    (h0 : y0 = .int .i64 K) (h1 : y1 = .int .i64 (K + 1 : Nat)) (h2 : y2 = .int .i64 (K + 1 + 1 : Nat))
    (e1 : Ext (((wr.setCell ⟨g, j * 5, none⟩ y0).setCell ⟨g, j * 5 + 1, none⟩ y1).setCell ⟨g, j * 5 + 2, none⟩ y2) w1)
    (f2 : Fr G (w1.setCell ⟨g, j * 5 + 3, none⟩ (.string (markB (K + 3)))) w2) (ho2 : OwnS G (markL t.t.kids (K + 4)) (.slice a' t.t.kids.length c') w2) :
    OwnB F (ls ++ mkBd t K :: bs) (.slice (some ⟨g, 0, none⟩) n cap) w2 ∧ Fr F wr w2 := by
  subst h0 h1 h2
  have hGg : ¬ G g := fun h => (hG g h).2 rfl
  obtain ⟨r1, g1⟩ := how.stored (j * 5) (.int .i64 K)
  obtain ⟨r2, g2⟩ := r1.stored (j * 5 + 1) (.int .i64 (K + 1 : Nat))
  obtain ⟨r3, g3⟩ := r2.stored (j * 5 + 2) (.int .i64 (K + 1 + 1 : Nat))
  have r3' := own_ext r3 e1
  obtain ⟨r4, g4⟩ := r3'.stored (j * 5 + 3) (.string (markB (K + 3)))
  have r5 := own_fr r4 f2 (fun g' hg' h => by simp [Value.ownBlock] at hg'; subst hg'; exact hGg h)
  have hxs : ((((x1 ++ (bcells t a' c' ++ x2)).set (j * 5) (.int .i64 K)).set (j * 5 + 1) (.int .i64 (K + 1 : Nat))).set (j * 5 + 2) (.int .i64 (K + 1 + 1 : Nat))).set (j * 5 + 3) (.string (markB (K + 3))) = x1 ++ (bcells (mkBd t K) a' c' ++ x2) := by
    rw [← hx1]
    obtain ⟨n0, k0, n1, s0, ks0⟩ := t
    simp [bcells, tcells, mkBd, markT, Tm.kind, Tm.n, Tm.name, Tm.kids, markL_len]
  rw [hxs] at r5
  have fM : Fr (fun b => b = g ∨ G b) wr w2 := by
    have f1 : Fr (fun b => b = g ∨ G b) wr (((wr.setCell ⟨g, j * 5, none⟩ (.int .i64 K)).setCell ⟨g, j * 5 + 1, none⟩ (.int .i64 (K + 1 : Nat))).setCell ⟨g, j * 5 + 2, none⟩ (.int .i64 (K + 1 + 1 : Nat))) := ((Fr.setCell _ (.inl rfl)).trans (Fr.setCell _ (.inl rfl))).trans (Fr.setCell _ (.inl rfl))
    exact (f1.trans (Fr.of_ext e1)).trans ((Fr.setCell _ (.inl rfl)).trans (f2.mono (fun k _ h => .inr h)))
  have hkl : (mkBd t K).t.kids.length = t.t.kids.length := by unfold mkBd; rw [markT_kids, markL_len]
  have hmn : (mkBd t K).t.name = markB (K + 3) := by cases t with | mk n t => cases t; rfl
  have hown : Tm.own G w2 (mkBd t K).t (.slice a' (mkBd t K).t.kids.length c') := own_iff.2 ⟨by rw [hmn]; exact markB_size (by omega), by rw [hkl]; exact hlen, by rw [hkl]; show OwnS G (markT t.t (K + 1)).kids _ _; rw [markT_kids]; exact ho2⟩
  refine ⟨⟨_, ?_, ?_, hback w2 (mkBd t K) _ fM ?_ hkl hown⟩, fM.mono (fun b _ hb => ?_)⟩
  · have : (ls ++ mkBd t K :: bs).length = n := by rw [hn]; simp
    rw [this]
    exact r5
  · intro g' hg'
    simp [Value.ownBlock] at hg'
    subst hg'
    exact hFg
  · rintro b ⟨_, hb⟩ (rfl | h)
    · exact absurd rfl hb
    · exact h
  · rcases hb with rfl | hb
    · exact hFg
    · exact (hG b hb).1

set_option maxRecDepth 100000 in
set_option maxHeartbeats 4000000 in
theorem lawsmarkBindS (ts : List Bd) (F : Nat → Prop) (v : Value) (w : World) (k : Nat) (hk : k + szB ts < 9000000) (ho : OwnB F ts v w) :
    Calls Try.prog 33 #[v, .int .i64 k] w fun e w' => e = .returned (.int .i64 (k + szB ts : Nat)) ∧ OwnB F (mkBL ts k) v w' ∧ Fr F w w' := by
  obtain ⟨a, cap, rfl⟩ := ho.form
  have hl : ts.length ≤ 9223372036854775807 := by
    obtain ⟨xs, h1, _⟩ := ho
    rcases h1.2 with ⟨_, h2⟩ | ⟨g, cap, cur, h1, h2, h3, h4, h5, _⟩
    · omega
    · simp only [maxLen] at h5; omega
  have HKB := Lib.hid hk
  have HO := Lib.hid ho
  clear hk ho
  go_enter Try.func33, Try.ntmps33
  go_wp2_with fail
  go_loopw [1, 5] (fun q i wr => ∃ (j K : Nat), j ≤ ts.length ∧ i = .int .i64 j ∧ q = .int .i64 K ∧ Hid (K = k + szB (ts.take j)) ∧ Hid (OwnB F (mkBL (ts.take j) k ++ ts.drop j) (.slice a ts.length cap) wr) ∧ Hid (Fr F w wr)) (fun _ i _ => ts.length - (intOf i).toNat)
  case atStart => exact ⟨0, k, Nat.zero_le _, rfl, rfl, Lib.hid (by simp [szB]), Lib.hid (by simpa [mkBL] using HO.out), Lib.hid (Fr.refl _ _)⟩
  case round =>
    obtain ⟨j, K, hj, rfl, rfl, HK, HS, HF⟩ := hrel
    by_cases hlt : j < ts.length
    · obtain ⟨tk, htk⟩ := bgetk hlt
      have hdrop : ts.drop j = tk :: ts.drop (j + 1) := by
        obtain ⟨h1, rfl⟩ := List.getElem?_eq_some_iff.1 htk
        exact List.drop_eq_getElem_cons h1
      have hs := HS.out
      rw [hdrop] at hs
      obtain ⟨xs, how, hFg, hfl⟩ := hs
      have hlen : (mkBL (ts.take j) k ++ tk :: ts.drop (j + 1)).length = ts.length := by rw [← hdrop]; simp [mkBL_len]; omega
      rw [hlen] at how
      obtain ⟨g, rfl⟩ := own_slice5 how (by omega)
      obtain ⟨G, x1, x2, a', c', rfl, hx1, hG, hown, hback⟩ := oflatB_focus hfl
      have hx1' : x1.length = j * 5 := by rw [hx1, mkBL_len, List.length_take]; congr 1; omega
      obtain ⟨hkn, hkl, hko⟩ := own_iff.1 hown
      have hsz := szB_snoc htk
      have hsl := szB_take_le ts (j + 1)
      have hsk : Tm.sz tk.t = 1 + Tm.szL tk.t.kids := by cases tk.t; rfl
      have hKB : K + 4 + 3 * Tm.szL tk.t.kids < 9000000 := by have := HK.out; have := HKB.out; omega
      have o0 : wr.cell? ⟨g, j * 5, none⟩ = some (.int .i64 tk.n) := by rw [how.cellAt _ (by omega)]; simp [← hx1', bcells, tcells]
      have o1 : wr.cell? ⟨g, j * 5 + 1, none⟩ = some (.int .i64 tk.t.kind) := by rw [how.cellAt _ (by omega)]; simp [← hx1', bcells, tcells]
      have o2 : wr.cell? ⟨g, j * 5 + 2, none⟩ = some (.int .i64 tk.t.n) := by rw [how.cellAt _ (by omega)]; simp [← hx1', bcells, tcells]
      have o3 : wr.cell? ⟨g, j * 5 + 3, none⟩ = some (.string tk.t.name) := by rw [how.cellAt _ (by omega)]; simp [← hx1', bcells, tcells]
      have o4 : wr.cell? ⟨g, j * 5 + 4, none⟩ = some (.slice a' tk.t.kids.length c') := by rw [how.cellAt _ (by omega)]; simp [← hx1', bcells, tcells]
      have f0 := how.frozenAt (j * 5)
      have f1 := how.frozenAt (j * 5 + 1)
      have f2 := how.frozenAt (j * 5 + 2)
      have f3 := how.frozenAt (j * 5 + 3)
      have HM := Lib.hid (show ∀ w', Calls Try.prog 66 #[.int .i64 ((K : Int) + 1 + 1 + 1)] w' (fun e w'' => e = .returned (.string (markB (K + 3))) ∧ Ext w' w'') from fun w' => by
        have h := lawsmarkText (K + 3) (by omega) w'
        rwa [show ((K + 3 : Nat) : Int) = (K : Int) + 1 + 1 + 1 by omega] at h)
      have HC := Lib.hid (show ∀ w', OwnS G tk.t.kids (.slice a' tk.t.kids.length c') w' → Calls Try.prog 65 #[.slice a' tk.t.kids.length c', .int .i64 ((K : Int) + 1 + 1 + 1 + 1)] w' (fun e w'' => e = .returned (.int .i64 ((K : Int) + 1 + 1 + 1 + 1 + (3 * Tm.szL tk.t.kids : Nat))) ∧ OwnS G (markL tk.t.kids (K + 4)) (.slice a' tk.t.kids.length c') w'' ∧ Fr G w' w'') from fun w' h => by
        have h := lawsmarkTermS _ tk.t.kids (Nat.le_refl _) G _ w' (K + 4) (by omega) h
        rwa [show ((K + 4 : Nat) : Int) = (K : Int) + 1 + 1 + 1 + 1 by omega, show ((K + 4 + 3 * Tm.szL tk.t.kids : Nat) : Int) = (K : Int) + 1 + 1 + 1 + 1 + (3 * Tm.szL tk.t.kids : Nat) by omega] at h)
      have HGg : Hid (¬ G g) := Lib.hid (fun h => (hG g h).2 rfl)
      have HOW := Lib.hid how
      have HFG := Lib.hid (hFg g rfl)
      have HLEN := Lib.hid hlen
      have HGF := Lib.hid hG
      have HBK := Lib.hid hback
      have HKO := Lib.hid hko
      have HX := Lib.hid hx1'
      have HTK := Lib.hid htk
      have HSZ := Lib.hid hsz
      have HSK := Lib.hid hsk
      have HKK := Lib.hid hKB
      have hK2 : K ≤ 9223372036854775800 := by omega
      have hgl := block_lt_of_cell o0
      simp only at hgl
      clear hdrop hfl how hFg hlen hG hown hback hko hx1 hx1' htk hsz hsl hsk hKB hkn
      go_wp2_with fail
      refine (HM.out _).mono ?_
      rintro e w1 ⟨rfl, e1⟩
      have q3 := e1.cell (cell_off (i := j * 5 + 3) (j := j * 5 + 2) (by omega) (cell_off (i := j * 5 + 3) (j := j * 5 + 1) (by omega) (cell_off (i := j * 5 + 3) (j := j * 5) (by omega) o3)))
      have q4 := e1.cell (cell_off (i := j * 5 + 4) (j := j * 5 + 2) (by omega) (cell_off (i := j * 5 + 4) (j := j * 5 + 1) (by omega) (cell_off (i := j * 5 + 4) (j := j * 5) (by omega) o4)))
      have q5 := e1.frozen (a := ⟨g, j * 5 + 3, none⟩) (by simpa [World.setCell] using hgl) (by rw [World.frozen?_setCell, World.frozen?_setCell, World.frozen?_setCell]; exact f3)
      have E1 := Lib.hid e1
      have FE := Lib.hid ((((Fr.setCell (M := fun b => b = g) wr rfl).trans (Fr.setCell (M := fun b => b = g) _ rfl)).trans (Fr.setCell (M := fun b => b = g) _ rfl)).trans (Fr.of_ext e1))
      clear e1
      go_wp2_with fail
      refine (HC.out _ (HKO.out.mono (fun _ h => h) (FE.out.trans (Fr.setCell _ rfl)) (fun b hb h => HGg.out (h ▸ hb)))).mono ?_
      rintro e w2 ⟨rfl, ho2, fr2⟩
      obtain ⟨hO, hFr⟩ := markB_next HOW.out HX.out HFG.out HLEN.out.symm HGF.out (by have := HKK.out; omega) hkl HBK.out rfl (by go_num) (by go_num) E1.out fr2 ho2
      have HO2 := Lib.hid hO
      have HF2 := Lib.hid hFr
      clear ho2 fr2 hO hFr
      go_wp2_with fail
      go_roundw
      case rel =>
        refine ⟨j + 1, K + 4 + 3 * Tm.szL tk.t.kids, by omega, by go_num, ?_, Lib.hid (by rw [HSZ.out, HSK.out, HK.out]; omega), Lib.hid ?_, Lib.hid (HF.out.trans HF2.out)⟩
        · first | (congr 1; done) | (congr 1; omega)
        · rw [mkBL_snoc HTK.out, ← HK.out]
          simpa using HO2.out
      case measure => simp [intOf]; omega
    · obtain rfl : j = ts.length := by omega
      have hs := HS.out
      have hK := HK.out
      simp only [List.take_length, List.drop_length, List.append_nil] at hs hK
      have HS := Lib.hid hs
      have HK := Lib.hid hK
      clear hs hK
      go_wp2_with fail
      go_ret
      exact ⟨retI (by rw [HK.out]), HS.out, HF.out⟩

set_option maxRecDepth 100000 in
set_option maxHeartbeats 4000000 in
theorem lawsheldBindS (ts : List Bd) (S : Nat → Prop) (v : Value) (w : World) (k : Nat) (hk : k + szB ts < 9000000) (ht : Bd.sl S w (mkBL ts k) v) :
    Calls Try.prog 34 #[v, .int .i64 k] w fun e w' => e = .returned (.int .i64 (k + szB ts : Nat)) ∧ Ext w w' := by
  obtain ⟨a, cap, rfl, h1, h2, h3, h4⟩ := ht
  rw [mkBL_len] at h1 h3
  rw [mkBL_len]
  have H4 := Lib.hid h4
  have HKB := Lib.hid hk
  clear h4 hk
  go_enter Try.func34, Try.ntmps34
  go_wp2_with fail
  go_loopw [1, 5] (fun q i wr => ∃ (j K : Nat), j ≤ ts.length ∧ i = .int .i64 j ∧ q = .int .i64 K ∧ Hid (K = k + szB (ts.take j)) ∧ Hid (Ext w wr)) (fun _ i _ => ts.length - (intOf i).toNat)
  case atStart => exact ⟨0, k, Nat.zero_le _, rfl, rfl, Lib.hid (by simp [szB]), Lib.hid (Ext.refl _)⟩
  case round =>
    obtain ⟨j, K, hj, rfl, rfl, HK, HE⟩ := hrel
    by_cases hlt : j < ts.length
    · obtain ⟨tk, htk⟩ := bgetk hlt
      have hmk := mkBL_get (k := k) htk
      rw [← HK.out] at hmk
      obtain ⟨b, off, a', c', rfl, c0, c1, c2, c3, c4, hat⟩ := Bd.get H4.out hmk HE.out
      have hat := Tm.at_ext HE.out hat
      have hsl : Tm.sl S wr (markL tk.t.kids (K + 4)) (.slice a' tk.t.kids.length c') := by
        obtain ⟨_, sv, hv, hs⟩ := Tm.at_iff.1 hat
        simp only [Value.agg.injEq, Array.mk.injEq, List.cons.injEq, and_true, true_and] at hv
        subst hv
        unfold mkBd at hs
        rwa [markT_kids, markL_len] at hs
      have hsz := szB_snoc htk
      have hsl2 := szB_take_le ts (j + 1)
      have hsk : Tm.sz tk.t = 1 + Tm.szL tk.t.kids := by cases tk.t; rfl
      have hKB : K + 4 + 3 * Tm.szL tk.t.kids < 9000000 := by have := HK.out; have := HKB.out; omega
      rw [show (mkBd tk K).n = (K : Int) from rfl] at c0
      rw [show (mkBd tk K).t.kind = (K : Int) + 1 by cases tk with | mk n t => cases t; simp [mkBd, markT, Tm.kind]] at c1
      rw [show (mkBd tk K).t.n = (K : Int) + 1 + 1 by cases tk with | mk n t => cases t; simp [mkBd, markT, Tm.n]] at c2
      rw [show (mkBd tk K).t.name = markB (K + 3) by cases tk with | mk n t => cases t; rfl] at c3
      rw [show (mkBd tk K).t.kids.length = tk.t.kids.length by unfold mkBd; rw [markT_kids, markL_len]] at c4
      have d3 := cell_regrown c3
      have HM := Lib.hid (show ∀ w', Ext wr w' → Calls Try.prog 66 #[.int .i64 ((K : Int) + 1 + 1 + 1)] w' (fun e w'' => e = .returned (.string (markB (K + 3))) ∧ Ext w' w'') from fun w' _ => by
        have h := lawsmarkText (K + 3) (by omega) w'
        rwa [show ((K + 3 : Nat) : Int) = (K : Int) + 1 + 1 + 1 by omega] at h)
      have HC := Lib.hid (show ∀ w', Ext wr w' → Calls Try.prog 67 #[.slice a' tk.t.kids.length c', .int .i64 ((K : Int) + 1 + 1 + 1 + 1)] w' (fun e w'' => e = .returned (.int .i64 ((K : Int) + 1 + 1 + 1 + 1 + (3 * Tm.szL tk.t.kids : Nat))) ∧ Ext w' w'') from fun w' e' => by
        have h := lawsheldTermS _ tk.t.kids (Nat.le_refl _) S _ w' (K + 4) (by omega) (Tm.sl_ext e' hsl)
        rwa [show ((K + 4 : Nat) : Int) = (K : Int) + 1 + 1 + 1 + 1 by omega, show ((K + 4 + 3 * Tm.szL tk.t.kids : Nat) : Int) = (K : Int) + 1 + 1 + 1 + 1 + (3 * Tm.szL tk.t.kids : Nat) by omega] at h)
      have cQ := quiet_call (w := wr) HM.out
      have HSZ := Lib.hid hsz
      have HSK := Lib.hid hsk
      have hK2 : K ≤ 9223372036854775800 := by omega
      clear hat hsl hsz hsl2 hsk hKB htk hmk
      go_wp2_with fail
      refine region_ext (by kernel_rfl) (by kernel_rfl) ?_
      repeat (quiet_step (exact cQ _ _))
      refine wpQuiet_nil ?_
      intro wq eq
      have c4 := eq.cell c4
      have EQ := Lib.hid eq
      clear eq d3 cQ c0 c1 c2 c3
      go_wp2_with fail
      refine (HC.out _ EQ.out).mono ?_
      rintro e w2 ⟨rfl, e2⟩
      have E2 := Lib.hid e2
      clear e2
      go_wp2_with fail
      go_roundw
      case rel =>
        refine ⟨j + 1, K + 4 + 3 * Tm.szL tk.t.kids, by omega, by go_num, ?_, Lib.hid (by rw [HSZ.out, HSK.out, HK.out]; omega), Lib.hid ((HE.out.trans EQ.out).trans E2.out)⟩
        first | (congr 1; done) | (congr 1; omega)
      case measure => simp [intOf]; omega
    · obtain rfl : j = ts.length := by omega
      have hK := HK.out
      simp only [List.take_length] at hK
      have HK := Lib.hid hK
      clear hK
      go_wp2_with fail
      go_ret
      exact ⟨retI (by rw [HK.out]), HE.out⟩
end Go.Proofs.Ytdelhgodhkbjdaa
