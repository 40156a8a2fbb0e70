/-
  A law's marks in clauses.
-/
import Derived.Test.YtagaciadcgijoaaClOwn
namespace Go.Proofs.Ytagaciadcgijoaa
open Go.RowKit
set_option linter.unusedVariables false

def Cl.nd (c : Cl) : Nat := 1 + Tm.szL c.head.kids + Tm.szL c.body
def Cl.ndL : List Cl → Nat
  | [] => 0
  | c :: cs => Cl.nd c + Cl.ndL cs
theorem nd_wt (c : Cl) : Cl.nd c ≤ 1 + Cl.wt c := by
  have h1 := (kids_wt c.head).1
  have h2 := szL_wt c.body
  unfold Cl.nd Cl.wt
  omega
theorem ndL_wt : ∀ cs : List Cl, Cl.ndL cs ≤ cs.length + Cl.wtL cs
  | [] => by simp [Cl.ndL]
  | c :: cs => by
    have h1 := nd_wt c
    have h2 := ndL_wt cs
    simp only [Cl.ndL, Cl.wtL, List.length_cons]; omega
theorem ndL_take : ∀ {cs : List Cl} {k : Nat} {c : Cl}, cs[k]? = some c → Cl.ndL (cs.take (k + 1)) = Cl.ndL (cs.take k) + Cl.nd c
  | [], k, c, h => by simp at h
  | c0 :: cs, 0, c, h => by simp at h; subst h; simp [Cl.ndL]
  | c0 :: cs, k + 1, c, h => by
    have := ndL_take (cs := cs) (k := k) (c := c) (by simpa using h)
    simp only [List.take_succ_cons, Cl.ndL]; omega
theorem ndL_take_le : ∀ (cs : List Cl) (k : Nat), Cl.ndL (cs.take k) ≤ Cl.ndL cs
  | [], k => by simp
  | t :: ts, 0 => by simp [Cl.ndL]
  | t :: ts, k + 1 => by have := ndL_take_le ts k; simp only [List.take_succ_cons, Cl.ndL]; omega
theorem set3_list {done r : List Value} {c : Cl} {a b : Option Addr} {ca cb j : Nat} {y0 y1 y2 : Value} (hd : done.length = j * 5) :
    (((done ++ (ccells c a ca b cb ++ r)).set (j * 5) y0).set (j * 5 + 1) y1).set (j * 5 + 2) y2 = (done ++ [y0, y1, y2, .slice a c.head.kids.length ca, .slice b c.body.length cb]) ++ r := by
  rw [← hd]
  simp [ccells]

set_option maxRecDepth 100000 in
set_option maxHeartbeats 2000000 in
theorem lawsmarkClauseS (ts : List Cl) (v : Value) (w : World) (k lo hi : Nat) (hk : k + 3 * Cl.ndL ts < 9000000) (ho : OwnC lo hi ts v w) :
    Calls Try.prog 58 #[v, .int .i64 k] w fun e w' => e = .returned (.int .i64 (k + 3 * Cl.ndL ts : Nat)) ∧ Fr (fun b => lo ≤ b + 1 ∧ b < hi) w w' := by
  obtain ⟨g, xs, rfl, rfl, how0, hcz0⟩ := ho
  have HKB := Lib.hid hk
  have hghi := cz_le hcz0
  have hl : ts.length ≤ 9223372036854775807 := by
    rcases how0.2 with ⟨_, h2⟩ | ⟨g, cap, cur, h1, h2, h3, h4, h5, _⟩
    · omega
    · simp only [maxLen] at h5; omega
  have HOW0 := Lib.hid how0
  have HCZ0 := Lib.hid hcz0
  clear hk how0 hcz0
  go_enter Try.func58, Try.ntmps58
  go_wp2_with fail
  go_loopw [1, 5] (fun q i wr => ∃ (j K lj : Nat) (done rest : List Value), j ≤ ts.length ∧ i = .int .i64 j ∧ q = .int .i64 K ∧ Hid (K = k + 3 * Cl.ndL (ts.take j)) ∧ Hid (wr.ownsRow 0 45 5 (.slice (some ⟨g, 0, none⟩) ts.length ts.length) ts.length (done ++ rest)) ∧ Hid (done.length = j * 5) ∧ g + 1 ≤ lj ∧
      Hid (Cl.cz wr hi lj (ts.drop j) rest) ∧ Hid (Fr (fun b => g + 1 ≤ b + 1 ∧ b < hi) w wr)) (fun _ i _ => ts.length - (intOf i).toNat)
  case atStart => exact ⟨0, k, g + 1, [], xs, Nat.zero_le _, rfl, rfl, Lib.hid (by simp [Cl.ndL]), by simpa using HOW0, Lib.hid rfl, Nat.le_refl _, by simpa using HCZ0, Lib.hid (Fr.refl _ _)⟩
  case round =>
    obtain ⟨j, K, lj, done, rest, hj, rfl, rfl, HK, HOW, HD, hlj, HCZ, HF⟩ := hrel
    by_cases hlt : j < ts.length
    · obtain ⟨c, hc⟩ := cgetk hlt
      have hdrop : ts.drop j = c :: ts.drop (j + 1) := by
        obtain ⟨h1, rfl⟩ := List.getElem?_eq_some_iff.1 hc
        exact List.drop_eq_getElem_cons h1
      have hcz := HCZ.out
      rw [hdrop] at hcz
      obtain ⟨m1, m2, a, ca, b, cb, r, rfl, hm1, hm2, hown, hbody, hcz⟩ := hcz
      have hle := cz_le hcz
      have hd := HD.out
      have how := HOW.out
      have hsz := ndL_take hc
      have hsl := ndL_take_le ts (j + 1)
      have hnd : Cl.nd c = 1 + Tm.szL c.head.kids + Tm.szL c.body := rfl
      have hKB : K + 3 + 3 * Tm.szL c.head.kids + 3 * Tm.szL c.body < 9000000 := by have := HK.out; have := HKB.out; omega
      have o0 : wr.cell? ⟨g, j * 5, none⟩ = some (.int .i64 c.head.kind) := by rw [how.cellAt _ (by omega)]; simp [← hd, ccells]
      have o1 : wr.cell? ⟨g, j * 5 + 1, none⟩ = some (.int .i64 c.head.n) := by rw [how.cellAt _ (by omega)]; simp [← hd, ccells]
      have o2 : wr.cell? ⟨g, j * 5 + 2, none⟩ = some (.string c.head.name) := by rw [how.cellAt _ (by omega)]; simp [← hd, ccells]
      have o3 : wr.cell? ⟨g, j * 5 + 3, none⟩ = some (.slice a c.head.kids.length ca) := by rw [how.cellAt _ (by omega)]; simp [← hd, ccells]
      have o4 : wr.cell? ⟨g, j * 5 + 4, none⟩ = some (.slice b c.body.length cb) := by rw [how.cellAt _ (by omega)]; simp [← hd, ccells]
      have f0 := how.frozenAt (j * 5)
      have f1 := how.frozenAt (j * 5 + 1)
      have f2 := how.frozenAt (j * 5 + 2)
      have HM := Lib.hid (show ∀ w', Calls Try.prog 73 #[.int .i64 ((K : Int) + 1 + 1)] w' (fun e w'' => e = .returned (.string (markB (K + 2))) ∧ Ext w' w'') from fun w' => by
        have h := lawsmarkText (K + 2) (by omega) w'
        rwa [show ((K + 2 : Nat) : Int) = (K : Int) + 1 + 1 by omega] at h)
      have HC1 := Lib.hid (show ∀ w', OwnS (fun x => lj ≤ x ∧ x < m1) c.head.kids (.slice a c.head.kids.length ca) w' → Calls Try.prog 23 #[.slice a c.head.kids.length ca, .int .i64 ((K : Int) + 1 + 1 + 1)] w' (fun e w'' => e = .returned (.int .i64 ((K : Int) + 1 + 1 + 1 + (3 * Tm.szL c.head.kids : Nat))) ∧ Fr (fun x => lj ≤ x ∧ x < m1) w' w'') from fun w' h => by
        have h := lawsmarkTermS _ c.head.kids (Nat.le_refl _) _ _ w' (K + 3) (by omega) h
        rw [show ((K + 3 : Nat) : Int) = (K : Int) + 1 + 1 + 1 by omega, show ((K + 3 + 3 * Tm.szL c.head.kids : Nat) : Int) = (K : Int) + 1 + 1 + 1 + (3 * Tm.szL c.head.kids : Nat) by omega] at h
        exact h.mono fun e w'' h => ⟨h.1, h.2.2⟩)
      have HC2 := Lib.hid (show ∀ w', OwnS (fun x => m1 ≤ x ∧ x < m2) c.body (.slice b c.body.length cb) w' → Calls Try.prog 23 #[.slice b c.body.length cb, .int .i64 ((K : Int) + 1 + 1 + 1 + (3 * Tm.szL c.head.kids : Nat))] w' (fun e w'' => e = .returned (.int .i64 (K + 3 * Cl.nd c : Nat)) ∧ Fr (fun x => m1 ≤ x ∧ x < m2) w' w'') from fun w' h => by
        have h := lawsmarkTermS _ c.body (Nat.le_refl _) _ _ w' (K + 3 + 3 * Tm.szL c.head.kids) (by omega) h
        rw [show ((K + 3 + 3 * Tm.szL c.head.kids : Nat) : Int) = (K : Int) + 1 + 1 + 1 + (3 * Tm.szL c.head.kids : Nat) by omega, show (K + 3 + 3 * Tm.szL c.head.kids + 3 * Tm.szL c.body : Nat) = K + 3 * Cl.nd c by omega] at h
        exact h.mono fun e w'' h => ⟨h.1, h.2.2⟩)
      have HKO := Lib.hid (own_iff.1 hown).2.2
      have HBO := Lib.hid hbody
      have HCR := Lib.hid hcz
      have HSZ := Lib.hid hsz
      have HTK := Lib.hid hc
      have HKK := Lib.hid hKB
      have hK2 : K ≤ 9223372036854775800 := by omega
      have hgl := block_lt_of_cell o0
      simp only at hgl
      clear hdrop how hown hbody hcz hd hc hsz hKB hsl hnd
      go_wp2_with fail
      refine (HM.out _).mono ?_
      rintro e w1 ⟨rfl, e1⟩
      have q2 := e1.cell (cell_off (i := j * 5 + 2) (j := j * 5 + 1) (by omega) (cell_off (i := j * 5 + 2) (j := j * 5) (by omega) o2))
      have q3 := e1.cell (cell_off (i := j * 5 + 3) (j := j * 5 + 1) (by omega) (cell_off (i := j * 5 + 3) (j := j * 5) (by omega) o3))
      have q4 := e1.frozen (a := ⟨g, j * 5 + 2, none⟩) (by simpa [World.setCell] using hgl) (by rw [World.frozen?_setCell, World.frozen?_setCell]; exact f2)
      have q5 := e1.cell (cell_off (i := j * 5 + 4) (j := j * 5 + 1) (by omega) (cell_off (i := j * 5 + 4) (j := j * 5) (by omega) o4))
      have E1 := Lib.hid e1
      have FE := Lib.hid (((Fr.setCell (M := fun b => b = g) wr rfl).trans (Fr.setCell (M := fun b => b = g) _ rfl)).trans (Fr.of_ext e1))
      have Q5 := Lib.hid q5
      clear e1 q5
      go_wp2_with fail
      refine (HC1.out _ (HKO.out.mono (fun _ h => h) (FE.out.trans (Fr.setCell _ rfl)) (fun b hb h => by omega))).mono ?_
      rintro e w2 ⟨rfl, fr2⟩
      have r4 := fr2.cell (k := g) (by omega) (cell_off (i := j * 5 + 4) (j := j * 5 + 2) (u := .string (markB (K + 2))) (by omega) Q5.out)
      have F2 := Lib.hid fr2
      clear fr2
      go_wp2_with fail
      refine (HC2.out _ (HBO.out.mono (fun _ h => h) ((FE.out.mono (fun x _ h => (.inl h : x = g ∨ (lj ≤ x ∧ x < m1)))).trans ((Fr.setCell _ (.inl rfl)).trans (F2.out.mono (fun x _ h => .inr h)))) (fun b hb h => by omega))).mono ?_
      rintro e w3 ⟨rfl, fr3⟩
      have F3 := Lib.hid fr3
      clear fr3 r4
      go_wp2_with fail
      go_roundw
      case rel =>
        obtain ⟨r1, g1⟩ := HOW.out.stored (j * 5) (.int .i64 K)
        obtain ⟨r2, g2⟩ := r1.stored (j * 5 + 1) (.int .i64 ((K : Int) + 1))
        have r2' := own_ext r2 E1.out
        obtain ⟨r3, g3⟩ := r2'.stored (j * 5 + 2) (.string (markB (K + 2)))
        have r4 := own_fr (own_fr r3 F2.out (fun g' hg' h => by simp [Value.ownBlock] at hg'; omega)) F3.out (fun g' hg' h => by simp [Value.ownBlock] at hg'; omega)
        rw [set3_list HD.out] at r4
        have fM : Fr (fun x => x = g ∨ (lj ≤ x ∧ x < m2)) wr w3 := ((FE.out.mono (fun x _ h => .inl h)).trans ((Fr.setCell _ (.inl rfl)).trans (F2.out.mono (fun x _ h => .inr (by omega))))).trans (F3.out.mono (fun x _ h => .inr (by omega)))
        refine ⟨j + 1, K + 3 * Cl.nd c, m2, done ++ [.int .i64 K, .int .i64 ((K : Int) + 1), .string (markB (K + 2)), .slice a c.head.kids.length ca, .slice b c.body.length cb], r, by omega, by go_num, rfl, Lib.hid (by rw [HSZ.out, HK.out]; omega), Lib.hid r4, Lib.hid (by simp [HD.out]; omega), by omega, Lib.hid (cz_mono fM (Nat.le_refl _) (fun k h1 h2 h => by omega) HCR.out), Lib.hid (HF.out.trans (fM.mono (fun x _ h => by omega)))⟩
      case measure => simp [intOf]; omega
    · obtain rfl : j = ts.length := by omega
      have hK := HK.out
      simp only [List.take_length] at hK
      have HK := Lib.hid hK
      clear hK
      go_wp2_with fail
      go_ret
      exact ⟨by rw [HK.out]; rfl, HF.out⟩

end Go.Proofs.Ytagaciadcgijoaa
