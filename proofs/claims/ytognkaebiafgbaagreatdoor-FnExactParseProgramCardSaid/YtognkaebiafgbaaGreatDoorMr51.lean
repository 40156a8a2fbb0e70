/-
  A law's marks in a list of clauses that shares nothing: writing them, reading them back.
-/
import Derived.Test.YtognkaebiafgbaaGreatDoorRows
import Derived.Deep.RegionHeld3
import Derived.ProofKit
import Derived.OpenShut
import Derived.ShutString
import Derived.Test.YtognkaebiafgbaaGreatDoorCards
import Derived.Test.YtognkaebiafgbaaGreatDoorTie
import Derived.LaidMore
import Derived.Lay
import Derived.SevenTiedAt
import Derived.Stop.Joined
import Derived.Stop.LaidErr
import Derived.Lib.LaidTab
import Derived.Test.YtognkaebiafgbaaGreatDoorMr25
import Derived.Test.YtognkaebiafgbaaGreatDoorMr26
import Derived.Test.YtognkaebiafgbaaGreatDoorMr37
import Derived.Test.YtognkaebiafgbaaGreatDoorMr50
namespace Go.Proofs.YtognkaebiafgbaaGreatDoor
open Go.RowKit
set_option linter.unusedVariables false
def Cl.nn (c : Cl) : Nat := 1 + Tm.szL c.head.kids + Tm.szL c.body
def Cl.nnL : List Cl → Nat
  | [] => 0
  | c :: cs => Cl.nn c + Cl.nnL cs
theorem nnL_take : ∀ {cs : List Cl} {k : Nat} {c : Cl}, cs[k]? = some c → Cl.nnL (cs.take (k + 1)) = Cl.nnL (cs.take k) + Cl.nn c
  | [], k, c, h => by simp at h
  | c0 :: cs, 0, c, h => by simp at h; subst h; simp [Cl.nnL]
  | c0 :: cs, k + 1, c, h => by
    have := nnL_take (cs := cs) (k := k) (c := c) (by simpa using h)
    simp only [List.take_succ_cons, Cl.nnL]; omega
theorem nnL_take_le : ∀ (cs : List Cl) (k : Nat), Cl.nnL (cs.take k) ≤ Cl.nnL cs
  | [], k => by simp
  | t :: ts, 0 => by simp [Cl.nnL]
  | t :: ts, k + 1 => by have := nnL_take_le ts k; simp only [List.take_succ_cons, Cl.nnL]; omega
def markCl (c : Cl) (k : Nat) : Cl := ⟨.mk k (k + 1 : Nat) (markB (k + 2)) (markL c.head.kids (k + 3)), markL c.body (k + 3 + 3 * Tm.szL c.head.kids)⟩
def markCs : List Cl → Nat → List Cl
  | [], _ => []
  | c :: cs, k => markCl c k :: markCs cs (k + 3 * Cl.nn c)
theorem markCs_len : ∀ (cs : List Cl) (k : Nat), (markCs cs k).length = cs.length
  | [], _ => rfl
  | c :: cs, k => by simp [markCs, markCs_len cs]
theorem markCs_get : ∀ {ts : List Cl} {j k : Nat} {t : Cl}, ts[j]? = some t → (markCs ts k)[j]? = some (markCl t (k + 3 * Cl.nnL (ts.take j)))
  | [], j, k, t, h => by simp at h
  | t0 :: ts, 0, k, t, h => by simp at h; subst h; simp [markCs, Cl.nnL]
  | t0 :: ts, j + 1, k, t, h => by
    simp only [markCs, List.getElem?_cons_succ, List.take_succ_cons, Cl.nnL]
    rw [markCs_get (by simpa using h)]
    congr 2
    omega
theorem markCs_snoc : ∀ {ts : List Cl} {j k : Nat} {t : Cl}, ts[j]? = some t → markCs (ts.take (j + 1)) k = markCs (ts.take j) k ++ [markCl t (k + 3 * Cl.nnL (ts.take j))]
  | [], j, k, t, h => by simp at h
  | t0 :: ts, 0, k, t, h => by simp at h; subst h; simp [markCs, Cl.nnL]
  | t0 :: ts, j + 1, k, t, h => by
    simp only [markCs, List.take_succ_cons, Cl.nnL, List.cons_append]
    rw [markCs_snoc (by simpa using h)]
    congr 4
    omega
theorem own_slice5 {w : World} {T n c : Nat} {a : Option Addr} {xs : List Value} (h : w.ownsRow 0 T 5 (.slice a n c) n xs) (hn : 0 < n) : ∃ g, a = some ⟨g, 0, none⟩ := by
  rcases h.2 with ⟨h1, h2⟩ | ⟨g, cap, cur, h1, _⟩
  · omega
  · simp only [Value.slice.injEq] at h1
    exact ⟨g, h1.1⟩
theorem cmark_next {F G G1 G2 : Nat → Prop} {wr w1 w2 w3 : World} {g n cap j K : Nat} {ls bs : List Cl} {c : Cl} {x1 x2 : List Value} {a b : Option Addr} {ca cb : Nat} {y0 y1 : Value}
    (how : wr.ownsRow 0 27 5 (.slice (some ⟨g, 0, none⟩) n cap) n (x1 ++ (ccells c a ca b cb ++ x2))) (hx1 : x1.length = j * 5) (hFg : F g) (hn : n = (ls ++ c :: bs).length)
    (hG : ∀ k, G k → F k ∧ (Value.slice (some ⟨g, 0, none⟩) n cap).ownBlock ≠ some k) (hG1 : ∀ k, G1 k → G k ∧ ¬ G2 k) (hG2 : ∀ k, G2 k → G k) (hK : K + 3 < 10000000) (hlen : c.head.kids.length ≤ 1048576) (hlen2 : c.body.length ≤ 1048576)
    (hback : ∀ (w' : World) (c' : Cl) (M : Nat → Prop), Fr M wr w' → (∀ k, (F k ∧ (Value.slice (some ⟨g, 0, none⟩) n cap).ownBlock ≠ some k) → M k → G k) → ClP G c' a ca b cb w' →
      Cl.oflat w' (ls ++ c' :: bs) (fun k => F k ∧ (Value.slice (some ⟨g, 0, none⟩) n cap).ownBlock ≠ some k) (x1 ++ (ccells c' a ca b cb ++ x2)))
    (h0 : y0 = .int .i64 K) (h1 : y1 = .int .i64 (K + 1 : Nat))
    (e1 : Ext ((wr.setCell ⟨g, j * 5, none⟩ y0).setCell ⟨g, j * 5 + 1, none⟩ y1) w1)
    (f2 : Fr G1 (w1.setCell ⟨g, j * 5 + 2, none⟩ (.string (markB (K + 2)))) w2) (ho2 : OwnS G1 (markL c.head.kids (K + 3)) (.slice a c.head.kids.length ca) w2)
    (f3 : Fr G2 w2 w3) (ho3 : OwnS G2 (markL c.body (K + 3 + 3 * Tm.szL c.head.kids)) (.slice b c.body.length cb) w3) :
    OwnP F (ls ++ markCl c K :: bs) (.slice (some ⟨g, 0, none⟩) n cap) w3 ∧ Fr F wr w3 := by
  subst h0 h1
  have hGg : ¬ G g := fun h => (hG g h).2 rfl
  obtain ⟨r1, g1⟩ := how.stored (j * 5) (.int .i64 K)
  obtain ⟨r2, g2⟩ := r1.stored (j * 5 + 1) (.int .i64 (K + 1 : Nat))
  have r2' := own_ext r2 e1
  obtain ⟨r3, g3⟩ := r2'.stored (j * 5 + 2) (.string (markB (K + 2)))
  have r4 := own_fr (own_fr r3 f2 (fun g' hg' h => by simp [Value.ownBlock] at hg'; subst hg'; exact hGg (hG1 _ h).1)) f3 (fun g' hg' h => by simp [Value.ownBlock] at hg'; subst hg'; exact hGg (hG2 _ h))
  have hxs : (((x1 ++ (ccells c a ca b cb ++ x2)).set (j * 5) (.int .i64 K)).set (j * 5 + 1) (.int .i64 (K + 1 : Nat))).set (j * 5 + 2) (.string (markB (K + 2))) = x1 ++ (ccells (markCl c K) a ca b cb ++ x2) := by
    rw [← hx1]
    obtain ⟨⟨k0, n0, s0, ks0⟩, bd⟩ := c
    simp [ccells, markCl, Tm.kind, Tm.n, Tm.name, Tm.kids, markL_len]
  rw [hxs] at r4
  have fM : Fr (fun b => b = g ∨ G b) wr w3 := by
    have f1 : Fr (fun b => b = g ∨ G b) wr ((wr.setCell ⟨g, j * 5, none⟩ (.int .i64 K)).setCell ⟨g, j * 5 + 1, none⟩ (.int .i64 (K + 1 : Nat))) := (Fr.setCell _ (.inl rfl)).trans (Fr.setCell _ (.inl rfl))
    exact ((f1.trans (Fr.of_ext e1)).trans ((Fr.setCell _ (.inl rfl)).trans (f2.mono (fun k _ h => .inr (hG1 k h).1)))).trans (f3.mono (fun k _ h => .inr (hG2 k h)))
  have hown : ClP G (markCl c K) a ca b cb w3 := by
    refine ⟨by show (markL _ _).length ≤ _; rw [markL_len]; exact hlen2, G1, G2, hG1, hG2, own_iff.2 ⟨markB_size (by omega), by show (markL _ _).length ≤ _; rw [markL_len]; exact hlen, ?_⟩, ?_⟩
    · show OwnS G1 (markL c.head.kids (K + 3)) (.slice a (markL c.head.kids (K + 3)).length ca) w3
      rw [markL_len]
      exact ho2.mono (fun _ h => h) f3 (fun k hk h => (hG1 k hk).2 h)
    · show OwnS G2 (markL c.body (K + 3 + 3 * Tm.szL c.head.kids)) (.slice b (markL c.body (K + 3 + 3 * Tm.szL c.head.kids)).length cb) w3
      rw [markL_len]
      exact ho3
  refine ⟨⟨_, ?_, ?_, hback w3 (markCl c K) _ fM ?_ hown⟩, fM.mono (fun b _ hb => ?_)⟩
  · have : (ls ++ markCl c K :: bs).length = n := by rw [hn]; simp
    rw [this]
    exact r4
  · intro g' hg'
    simp [Value.ownBlock] at hg'
    subst hg'
    exact hFg
  · rintro b ⟨_, hb⟩ (rfl | h)
    · exact absurd rfl hb
    · exact h
  · rcases hb with rfl | hb
    · exact hFg
    · exact (hG b hb).1
set_option maxRecDepth 100000 in
set_option maxHeartbeats 2000000 in
theorem lawsmarkClauseP (ts : List Cl) (F : Nat → Prop) (v : Value) (w : World) (k : Nat) (hk : k + 3 * Cl.nnL ts < 9000000) (ho : OwnP F ts v w) :
    Calls Tryz.prog 24 #[v, .int .i64 k] w fun e w' => e = .returned (.int .i64 (k + 3 * Cl.nnL ts : Nat)) ∧ OwnP F (markCs ts k) v w' ∧ Fr F w w' := by
  obtain ⟨a, cap, rfl⟩ := ho.form
  have hl : ts.length ≤ 9223372036854775807 := by
    obtain ⟨xs, h1, _⟩ := ho
    rcases h1.2 with ⟨_, h2⟩ | ⟨g, cap, cur, h1, h2, h3, h4, h5, _⟩
    · omega
    · simp only [maxLen] at h5; omega
  have HKB := Lib.hid hk
  have HO := Lib.hid ho
  clear hk ho
  go_enter Tryz.func24, Tryz.ntmps24
  go_wp2_with fail
  go_loopw [1, 5] (fun q i wr => ∃ (j K : Nat), j ≤ ts.length ∧ i = .int .i64 j ∧ q = .int .i64 K ∧ Hid (K = k + 3 * Cl.nnL (ts.take j)) ∧ Hid (OwnP F (markCs (ts.take j) k ++ ts.drop j) (.slice a ts.length cap) wr) ∧ Hid (Fr F w wr)) (fun _ i _ => ts.length - (intOf i).toNat)
  case atStart => exact ⟨0, k, Nat.zero_le _, rfl, rfl, Lib.hid (by simp [Cl.nnL]), Lib.hid (by simpa [markCs] using HO.out), Lib.hid (Fr.refl _ _)⟩
  case round =>
    obtain ⟨j, K, hj, rfl, rfl, HK, HS, HF⟩ := hrel
    by_cases hlt : j < ts.length
    · obtain ⟨c, hc⟩ := cgetk hlt
      have hdrop : ts.drop j = c :: ts.drop (j + 1) := by
        obtain ⟨h1, rfl⟩ := List.getElem?_eq_some_iff.1 hc
        exact List.drop_eq_getElem_cons h1
      have hs := HS.out
      rw [hdrop] at hs
      obtain ⟨xs, how, hFg, hfl⟩ := hs
      have hlen : (markCs (ts.take j) k ++ c :: ts.drop (j + 1)).length = ts.length := by rw [← hdrop]; simp [markCs_len]; omega
      rw [hlen] at how
      obtain ⟨g, rfl⟩ := own_slice5 how (by omega)
      obtain ⟨G, x1, x2, ah, ch, ab, cb, rfl, hx1, hG, hown, hback⟩ := coflat_focus _ _ _ hfl
      have hx1' : x1.length = j * 5 := by rw [hx1, markCs_len, List.length_take]; congr 1; omega
      obtain ⟨hbl, G1, G2, hG1, hG2, hhd, hbd⟩ := hown
      obtain ⟨hkn, hkl, hko⟩ := own_iff.1 hhd
      have hsz := nnL_take hc
      have hsl := nnL_take_le ts (j + 1)
      have hsk : Cl.nn c = 1 + Tm.szL c.head.kids + Tm.szL c.body := rfl
      have hKB : K + 3 + 3 * Tm.szL c.head.kids + 3 * Tm.szL c.body < 9000000 := by have := HK.out; have := HKB.out; omega
      have o0 : wr.cell? ⟨g, j * 5, none⟩ = some (.int .i64 c.head.kind) := by rw [how.cellAt _ (by omega)]; simp [← hx1', ccells]
      have o1 : wr.cell? ⟨g, j * 5 + 1, none⟩ = some (.int .i64 c.head.n) := by rw [how.cellAt _ (by omega)]; simp [← hx1', ccells]
      have o2 : wr.cell? ⟨g, j * 5 + 2, none⟩ = some (.string c.head.name) := by rw [how.cellAt _ (by omega)]; simp [← hx1', ccells]
      have o3 : wr.cell? ⟨g, j * 5 + 3, none⟩ = some (.slice ah c.head.kids.length ch) := by rw [how.cellAt _ (by omega)]; simp [← hx1', ccells]
      have o4 : wr.cell? ⟨g, j * 5 + 4, none⟩ = some (.slice ab c.body.length cb) := by rw [how.cellAt _ (by omega)]; simp [← hx1', ccells]
      have f0 := how.frozenAt (j * 5)
      have f1 := how.frozenAt (j * 5 + 1)
      have f2 := how.frozenAt (j * 5 + 2)
      have HM := Lib.hid (show ∀ w', Calls Tryz.prog 76 #[.int .i64 ((K : Int) + 1 + 1)] w' (fun e w'' => e = .returned (.string (markB (K + 2))) ∧ Ext w' w'') from fun w' => by
        have h := lawsmarkText (K + 2) (by omega) w'
        rwa [show ((K + 2 : Nat) : Int) = (K : Int) + 1 + 1 by omega] at h)
      have HC1 := Lib.hid (show ∀ w', OwnS G1 c.head.kids (.slice ah c.head.kids.length ch) w' → Calls Tryz.prog 77 #[.slice ah c.head.kids.length ch, .int .i64 ((K : Int) + 1 + 1 + 1)] w' (fun e w'' => e = .returned (.int .i64 ((K : Int) + 1 + 1 + 1 + (3 * Tm.szL c.head.kids : Nat))) ∧ OwnS G1 (markL c.head.kids (K + 3)) (.slice ah c.head.kids.length ch) w'' ∧ Fr G1 w' w'') from fun w' h => by
        have h := lawsmarkTermS _ c.head.kids (Nat.le_refl _) _ _ w' (K + 3) (by omega) h
        rwa [show ((K + 3 : Nat) : Int) = (K : Int) + 1 + 1 + 1 by omega, show ((K + 3 + 3 * Tm.szL c.head.kids : Nat) : Int) = (K : Int) + 1 + 1 + 1 + (3 * Tm.szL c.head.kids : Nat) by omega] at h)
      have HC2 := Lib.hid (show ∀ w', OwnS G2 c.body (.slice ab c.body.length cb) w' → Calls Tryz.prog 77 #[.slice ab c.body.length cb, .int .i64 ((K : Int) + 1 + 1 + 1 + (3 * Tm.szL c.head.kids : Nat))] w' (fun e w'' => e = .returned (.int .i64 (K + 3 * Cl.nn c : Nat)) ∧ OwnS G2 (markL c.body (K + 3 + 3 * Tm.szL c.head.kids)) (.slice ab c.body.length cb) w'' ∧ Fr G2 w' w'') from fun w' h => by
        have h := lawsmarkTermS _ c.body (Nat.le_refl _) _ _ w' (K + 3 + 3 * Tm.szL c.head.kids) (by omega) h
        rwa [show ((K + 3 + 3 * Tm.szL c.head.kids : Nat) : Int) = (K : Int) + 1 + 1 + 1 + (3 * Tm.szL c.head.kids : Nat) by omega, show (K + 3 + 3 * Tm.szL c.head.kids + 3 * Tm.szL c.body : Nat) = K + 3 * Cl.nn c by omega] at h)
      have HGg : Hid (¬ G g) := Lib.hid (fun h => (hG g h).2 rfl)
      have HOW := Lib.hid how
      have HFG := Lib.hid (hFg g rfl)
      have HLEN := Lib.hid hlen
      have HGF := Lib.hid hG
      have HG1 := Lib.hid hG1
      have HG2 := Lib.hid hG2
      have HBK := Lib.hid hback
      have HKO := Lib.hid hko
      have HBO := Lib.hid hbd
      have HX := Lib.hid hx1'
      have HTK := Lib.hid hc
      have HSZ := Lib.hid hsz
      have HKK := Lib.hid hKB
      have HLB := Lib.hid hbl
      have hK2 : K ≤ 9223372036854775800 := by omega
      have hgl := block_lt_of_cell o0
      simp only at hgl
      clear hdrop hfl how hFg hlen hG hG1 hG2 hhd hback hko hbd hx1 hx1' hc hsz hsl hsk hKB hkn hbl
      go_wp2_with fail
      refine (HM.out _).mono ?_
      rintro e w1 ⟨rfl, e1⟩
      have q2 := e1.cell (cell_off (i := j * 5 + 2) (j := j * 5 + 1) (by omega) (cell_off (i := j * 5 + 2) (j := j * 5) (by omega) o2))
      have q3 := e1.cell (cell_off (i := j * 5 + 3) (j := j * 5 + 1) (by omega) (cell_off (i := j * 5 + 3) (j := j * 5) (by omega) o3))
      have q4 := e1.frozen (a := ⟨g, j * 5 + 2, none⟩) (by simpa [World.setCell] using hgl) (by rw [World.frozen?_setCell, World.frozen?_setCell]; exact f2)
      have q5 := e1.cell (cell_off (i := j * 5 + 4) (j := j * 5 + 1) (by omega) (cell_off (i := j * 5 + 4) (j := j * 5) (by omega) o4))
      have E1 := Lib.hid e1
      have FE := Lib.hid (((Fr.setCell (M := fun b => b = g) wr rfl).trans (Fr.setCell (M := fun b => b = g) _ rfl)).trans (Fr.of_ext e1))
      have Q5 := Lib.hid q5
      clear e1 q5
      go_wp2_with fail
      refine (HC1.out _ (HKO.out.mono (fun _ h => h) (FE.out.trans (Fr.setCell _ rfl)) (fun b hb h => HGg.out (h ▸ (HG1.out b hb).1)))).mono ?_
      rintro e w2 ⟨rfl, ho2, fr2⟩
      have r4 := fr2.cell (k := g) (fun h => HGg.out (HG1.out g h).1) (cell_off (i := j * 5 + 4) (j := j * 5 + 2) (u := .string (markB (K + 2))) (by omega) Q5.out)
      have F2 := Lib.hid fr2
      have O2 := Lib.hid ho2
      clear fr2 ho2
      go_wp2_with fail
      refine (HC2.out _ (HBO.out.mono (M := fun x => x = g ∨ G1 x) (fun _ h => h) ((FE.out.mono (fun x _ h => .inl h)).trans ((Fr.setCell _ (.inl rfl)).trans (F2.out.mono (fun x _ h => .inr h)))) (fun b hb h => h.elim (fun h => HGg.out (h ▸ HG2.out b hb)) (fun h => (HG1.out b h).2 hb)))).mono ?_
      rintro e w3 ⟨rfl, ho3, fr3⟩
      obtain ⟨hO, hFr⟩ := cmark_next HOW.out HX.out HFG.out HLEN.out.symm HGF.out HG1.out HG2.out (by have := HKK.out; omega) hkl HLB.out HBK.out rfl (by go_num) E1.out F2.out O2.out fr3 ho3
      have HO3 := Lib.hid hO
      have HF3 := Lib.hid hFr
      clear ho3 fr3 hO hFr r4
      go_wp2_with fail
      go_roundw
      case rel =>
        refine ⟨j + 1, K + 3 * Cl.nn c, by omega, by go_num, rfl, Lib.hid (by rw [HSZ.out, HK.out]; omega), Lib.hid ?_, Lib.hid (HF.out.trans HF3.out)⟩
        rw [markCs_snoc HTK.out, ← HK.out]
        simpa using HO3.out
      case measure => simp [intOf]; omega
    · obtain rfl : j = ts.length := by omega
      have hs := HS.out
      have hK := HK.out
      simp only [List.take_length, List.drop_length, List.append_nil] at hs hK
      have HS := Lib.hid hs
      have HK := Lib.hid hK
      clear hs hK
      go_wp2_with fail
      go_ret
      exact ⟨retI (by rw [HK.out]), HS.out, HF.out⟩
set_option maxRecDepth 100000 in
set_option maxHeartbeats 2000000 in
theorem lawsheldClauseP (ts : List Cl) (S : Nat → Prop) (v : Value) (w : World) (k : Nat) (hk : k + 3 * Cl.nnL ts < 9000000) (ht : Cl.sl S w (markCs ts k) v) :
    Calls Tryz.prog 25 #[v, .int .i64 k] w fun e w' => e = .returned (.int .i64 (k + 3 * Cl.nnL ts : Nat)) ∧ Ext w w' := by
  obtain ⟨a, cap, rfl, h1, h2, h3, h4⟩ := ht
  rw [markCs_len] at h1 h3
  rw [markCs_len]
  have H4 := Lib.hid h4
  have HKB := Lib.hid hk
  clear h4 hk
  go_enter Tryz.func25, Tryz.ntmps25
  go_wp2_with fail
  go_loopw [1, 5] (fun q i wr => ∃ (j K : Nat), j ≤ ts.length ∧ i = .int .i64 j ∧ q = .int .i64 K ∧ Hid (K = k + 3 * Cl.nnL (ts.take j)) ∧ Hid (Ext w wr)) (fun _ i _ => ts.length - (intOf i).toNat)
  case atStart => exact ⟨0, k, Nat.zero_le _, rfl, rfl, Lib.hid (by simp [Cl.nnL]), Lib.hid (Ext.refl _)⟩
  case round =>
    obtain ⟨j, K, hj, rfl, rfl, HK, HE⟩ := hrel
    by_cases hlt : j < ts.length
    · obtain ⟨c, hc⟩ := cgetk hlt
      have hmk := markCs_get (k := k) hc
      rw [← HK.out] at hmk
      obtain ⟨b, off, ah, ch, ab, cb, rfl, c0, c1, c2, c3, c4, hat, hbd⟩ := Cl.get H4.out hmk HE.out
      have hsl : Tm.sl S wr (markL c.head.kids (K + 3)) (.slice ah c.head.kids.length ch) := by
        obtain ⟨_, sv, hv, hs⟩ := Tm.at_iff.1 hat
        have hsv : sv = .slice ah (markCl c K).head.kids.length ch := by
          simp only [Value.agg.injEq] at hv
          have := congrArg (fun x : Array Value => x[3]?) hv
          simpa using this.symm
        subst hsv
        have hs' : Tm.sl S w (markL c.head.kids (K + 3)) (.slice ah (markL c.head.kids (K + 3)).length ch) := hs
        rw [markL_len] at hs'
        exact Tm.sl_ext HE.out hs'
      have hbl : Tm.sl S wr (markL c.body (K + 3 + 3 * Tm.szL c.head.kids)) (.slice ab c.body.length cb) := by
        have hs' : Tm.sl S w (markL c.body (K + 3 + 3 * Tm.szL c.head.kids)) (.slice ab (markL c.body (K + 3 + 3 * Tm.szL c.head.kids)).length cb) := hbd
        rw [markL_len] at hs'
        exact Tm.sl_ext HE.out hs'
      have hsz := nnL_take hc
      have hsl2 := nnL_take_le ts (j + 1)
      have hsk : Cl.nn c = 1 + Tm.szL c.head.kids + Tm.szL c.body := rfl
      have hKB : K + 3 + 3 * Tm.szL c.head.kids + 3 * Tm.szL c.body < 9000000 := by have := HK.out; have := HKB.out; omega
      replace c0 : wr.cell? ⟨b, off + j * 5, none⟩ = some (.int .i64 (K : Int)) := c0
      replace c1 : wr.cell? ⟨b, off + j * 5 + 1, none⟩ = some (.int .i64 ((K : Int) + 1)) := by
        rw [show ((K : Int) + 1) = ((K + 1 : Nat) : Int) by omega]; exact c1
      replace c2 : wr.cell? ⟨b, off + j * 5 + 2, none⟩ = some (.string (markB (K + 2))) := c2
      replace c3 : wr.cell? ⟨b, off + j * 5 + 3, none⟩ = some (.slice ah c.head.kids.length ch) := by
        have h : wr.cell? ⟨b, off + j * 5 + 3, none⟩ = some (.slice ah (markL c.head.kids (K + 3)).length ch) := c3
        rwa [markL_len] at h
      replace c4 : wr.cell? ⟨b, off + j * 5 + 4, none⟩ = some (.slice ab c.body.length cb) := by
        have h : wr.cell? ⟨b, off + j * 5 + 4, none⟩ = some (.slice ab (markL c.body (K + 3 + 3 * Tm.szL c.head.kids)).length cb) := c4
        rwa [markL_len] at h
      have d2 := cell_regrown c2
      have HM := Lib.hid (show ∀ w', Ext wr w' → Calls Tryz.prog 76 #[.int .i64 ((K : Int) + 1 + 1)] w' (fun e w'' => e = .returned (.string (markB (K + 2))) ∧ Ext w' w'') from fun w' _ => by
        have h := lawsmarkText (K + 2) (by omega) w'
        rwa [show ((K + 2 : Nat) : Int) = (K : Int) + 1 + 1 by omega] at h)
      have HC1 := Lib.hid (show ∀ w', Ext wr w' → Calls Tryz.prog 78 #[.slice ah c.head.kids.length ch, .int .i64 ((K : Int) + 1 + 1 + 1)] w' (fun e w'' => e = .returned (.int .i64 ((K : Int) + 1 + 1 + 1 + (3 * Tm.szL c.head.kids : Nat))) ∧ Ext w' w'') from fun w' e' => by
        have h := lawsheldTermS _ c.head.kids (Nat.le_refl _) S _ w' (K + 3) (by omega) (Tm.sl_ext e' hsl)
        rwa [show ((K + 3 : Nat) : Int) = (K : Int) + 1 + 1 + 1 by omega, show ((K + 3 + 3 * Tm.szL c.head.kids : Nat) : Int) = (K : Int) + 1 + 1 + 1 + (3 * Tm.szL c.head.kids : Nat) by omega] at h)
      have HC2 := Lib.hid (show ∀ w', Ext wr w' → Calls Tryz.prog 78 #[.slice ab c.body.length cb, .int .i64 ((K : Int) + 1 + 1 + 1 + (3 * Tm.szL c.head.kids : Nat))] w' (fun e w'' => e = .returned (.int .i64 (K + 3 * Cl.nn c : Nat)) ∧ Ext w' w'') from fun w' e' => by
        have h := lawsheldTermS _ c.body (Nat.le_refl _) S _ w' (K + 3 + 3 * Tm.szL c.head.kids) (by omega) (Tm.sl_ext e' hbl)
        rwa [show ((K + 3 + 3 * Tm.szL c.head.kids : Nat) : Int) = (K : Int) + 1 + 1 + 1 + (3 * Tm.szL c.head.kids : Nat) by omega, show (K + 3 + 3 * Tm.szL c.head.kids + 3 * Tm.szL c.body : Nat) = K + 3 * Cl.nn c by omega] at h)
      have cQ := quiet_call (w := wr) HM.out
      have HSZ := Lib.hid hsz
      have hK2 : K ≤ 9223372036854775800 := by omega
      have hn9 : ¬ ((K : Int) + 1 + 1 + 1 + (3 * Tm.szL c.head.kids : Nat)) < 0 := by omega
      have hn8 : ¬ ((K + 3 * Cl.nn c : Nat) : Int) < 0 := by omega
      clear hat hbd hsl hbl hsz hsl2 hsk hKB hc hmk
      go_wp2_with fail
      refine region_ext (by kernel_rfl) (by kernel_rfl) ?_
      repeat (quiet_step (exact cQ _ _))
      refine wpQuiet_nil ?_
      intro wq eq
      have c3 := eq.cell c3
      have c4 := eq.cell c4
      have EQ := Lib.hid eq
      clear eq d2 cQ c0 c1 c2
      go_wp2_with fail
      refine (HC1.out _ EQ.out).mono ?_
      rintro e w2 ⟨rfl, e2⟩
      have c4 := e2.cell c4
      have E2 := Lib.hid (EQ.out.trans e2)
      clear e2
      go_wp2_with fail
      refine (HC2.out _ E2.out).mono ?_
      rintro e w3 ⟨rfl, e3⟩
      have E3 := Lib.hid (E2.out.trans e3)
      clear e3
      go_wp2_with fail
      go_roundw
      case rel =>
        exact ⟨j + 1, K + 3 * Cl.nn c, by omega, by go_num, rfl, Lib.hid (by rw [HSZ.out, HK.out]; omega), Lib.hid (HE.out.trans E3.out)⟩
      case measure => simp [intOf]; omega
    · obtain rfl : j = ts.length := by omega
      have hK := HK.out
      simp only [List.take_length] at hK
      have HK := Lib.hid hK
      clear hK
      go_wp2_with fail
      go_ret
      exact ⟨retI (by rw [HK.out]), HE.out⟩
end Go.Proofs.YtognkaebiafgbaaGreatDoor

namespace Go.Proofs.YtognkaebiafgbaaGreatDoor
open Go.RowKit
set_option linter.unusedVariables false
theorem nnL_of : ∀ (cs : List Cl), (∀ c ∈ cs, clValidF c = true) → 3 * Cl.nnL cs ≤ cs.length * 6003
  | [], _ => by simp [Cl.nnL]
  | c :: cs, h => by
    have h1 := (cl_small (h c (by simp))).1
    have h2 := nnL_of cs (fun d hd => h d (by simp [hd]))
    unfold Cl.mk3 at h1
    simp only [Cl.nnL, Cl.nn, List.length_cons, Nat.add_mul, Nat.one_mul]
    omega
theorem parsePr_small (s : ByteArray) : 3 * Cl.nnL (parsePT s) ≤ 200000 ∧ (parsePT s).length ≤ 20 := by
  unfold parsePT
  cases e : parsePr s.toList with
  | none => exact ⟨by decide, by decide⟩
  | some cs =>
    obtain ⟨h1, h2⟩ := pr_mem (parsePr_spec e).1
    have h3 := nnL_of cs h2
    simp only [Option.getD_some]
    omega
end Go.Proofs.YtognkaebiafgbaaGreatDoor

namespace Go.Proofs.YtognkaebiafgbaaGreatDoor.fnExactParseProgram
open Go.ChangeShapes Go.WideShapes Go.ChangeAt Go.RowKit
open Go.ChangeMaps (open_string shut_string)
set_option linter.unusedVariables false
theorem own : ownKnob Tryz.prog.godebug = none := by kernel_rfl
theorem laidOut : laidOutB Tryz.prog = true := by kernel_rfl
set_option maxRecDepth 100000 in
set_option maxHeartbeats 4000000 in
theorem walk (a0 : ByteArray) (w : World) (htab : LibM w) (w0 : a0.size ≤ maxLen) :
    Calls Tryz.prog 4 #[.string a0] w fun e w' => e = .returned (.bool true) ∧ Below w.heap.size w w' := by
  unfold maxLen at w0
  by_cases hs : a0.size ≤ 1048576
  · have SP := Lib.hid (fun w' => specParseProgram a0 w' hs)
    have IP := Lib.hid (fun w' (e : Ext w w') => implParseProgram a0 w' hs (htab.ext e))
    obtain ⟨hsz, hln⟩ := parsePr_small a0
    generalize parsePT a0 = cs at SP IP hsz hln
    generalize parsePB a0 = b0 at SP IP
    clear htab
    have HLN : Hid (cs.length ≤ 1048576) := Lib.hid (by omega)
    have HM : Hid (1 + 3 * Cl.nnL cs < 9000000) := Lib.hid (by omega)
    clear hsz
    go_enter Tryz.func4, Tryz.ntmps4
    go_wp2_with fail
    refine (SP.out _).mono ?_
    rintro e w1 ⟨aV, cV, rfl, hv, e1⟩
    have s1 : w.heap.size ≤ w1.heap.size := Below.size e1
    have V := Lib.hid ((hv.bound.zone (F' := fun b => b < w1.heap.size) (fun b hb => hb.2)).sl HLN.out)
    have B := Lib.hid e1
    clear hv e1
    go_wp2_with fail
    refine (IP.out _ B.out).mono ?_
    rintro e w2 ⟨aG, cG, rfl, ho, q⟩
    have s2 : w1.heap.size ≤ w2.heap.size := Below.size q
    have G := Lib.hid (ho.bound)
    have B := Lib.hid (B.out.trans q)
    have V := Lib.hid (Cl.sl_ext q V.out)
    clear ho q
    go_wp2_with fail
    refine (lawseqClauseS cs cs _ _ _ _ _ rfl (G.out.sl HLN.out) V.out).mono ?_
    rintro e w3 ⟨rfl, q⟩
    have B := Lib.hid (B.out.trans q)
    have V := Lib.hid (Cl.sl_ext q V.out)
    have G := Lib.hid (G.out.ext q)
    clear q
    go_wp2_with fail
    refine (lawsmarkClauseP cs _ _ _ 1 HM.out G.out).mono ?_
    rintro e w4 ⟨rfl, m, q⟩
    have B := Lib.hid (((Fr.of_ext B.out).trans q).toExt (fun k hk h => by have := h.1; omega))
    have V := Lib.hid (Cl.sl_mono (fun _ h => h) (q.agree (fun b hb h => by have := h.1; have hb' : b < w1.heap.size := hb; omega)) V.out)
    have G := Lib.hid m
    clear m q
    go_wp2_with fail
    refine (lawsheldClauseP cs _ _ _ 1 HM.out (G.out.sl (by rw [markCs_len]; exact HLN.out))).mono ?_
    rintro e w5 ⟨rfl, q⟩
    have B := Lib.hid (B.out.trans q)
    have V := Lib.hid (Cl.sl_ext q V.out)
    have G := Lib.hid (G.out.ext q)
    clear q
    go_wp2_with fail
    refine (IP.out _ B.out).mono ?_
    rintro e w6 ⟨aH, cH, rfl, ho, q⟩
    have H := Lib.hid ho
    have B := Lib.hid (B.out.trans q)
    have V := Lib.hid (Cl.sl_ext q V.out)
    have G := Lib.hid (G.out.ext q)
    clear ho q
    go_wp2_with fail
    refine (lawseqClauseS cs cs _ _ _ _ _ rfl (H.out.sl HLN.out) V.out).mono ?_
    rintro e w7 ⟨rfl, q⟩
    have B := Lib.hid (B.out.trans q)
    have G := Lib.hid (G.out.ext q)
    clear q
    go_wp2_with fail
    refine (lawsheldClauseP cs _ _ _ 1 HM.out (G.out.sl (by rw [markCs_len]; exact HLN.out))).mono ?_
    rintro e w8 ⟨rfl, q⟩
    have B := Lib.hid (B.out.trans q)
    clear q
    go_wp2_with fail
    go_ret
    exact ⟨rfl, B.out⟩
  · have hs' : 1048576 < a0.size := by omega
    go_enter Tryz.func4, Tryz.ntmps4
    go_wp2_with fail
    go_ret
    exact ⟨rfl, Ext.refl _⟩
end Go.Proofs.YtognkaebiafgbaaGreatDoor.fnExactParseProgram
