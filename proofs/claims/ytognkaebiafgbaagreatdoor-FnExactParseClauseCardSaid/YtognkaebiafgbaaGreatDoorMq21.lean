/-
  The reference's parser (without operators), plain; it reads back the text of every valid term; what a parser of texts answers.
-/
import Derived.Laws.IdiomStrings
import Derived.Test.YtognkaebiafgbaaGreatDoorMq13
import Derived.Test.YtognkaebiafgbaaGreatDoorMq19
import Derived.Test.YtognkaebiafgbaaGreatDoorMq9
namespace Go.Proofs.YtognkaebiafgbaaGreatDoor
open Go.RowKit
set_option linter.unusedVariables false
def argsS (f : List UInt8 → Option (Tm × List UInt8)) : Nat → List Tm → List UInt8 → Option (List Tm × List UInt8)
  | 0, _, _ => none
  | n + 1, acc, rest =>
    match f rest with
    | some (k, c :: r) => if c = 41 then some (acc ++ [k], r) else if c = 44 then argsS f n (acc ++ [k]) r else none
    | _ => none
def itemsS (f : List UInt8 → Option (Tm × List UInt8)) : Nat → List Tm → List UInt8 → Option (Tm × List UInt8)
  | 0, _, _ => none
  | n + 1, acc, rest =>
    match f rest with
    | some (k, c :: r) =>
      if c = 124 then
        match f r with
        | some (tl, d :: r') => if d = 93 then some (chainT (acc ++ [k]) tl, r') else none
        | _ => none
      else if c = 93 then some (chainT (acc ++ [k]) (sT nilN []), r)
      else if c = 44 then itemsS f n (acc ++ [k]) r else none
    | _ => none
def nameS (f : List UInt8 → Option (Tm × List UInt8)) (s : ByteArray) : List UInt8 → Option (Tm × List UInt8)
  | c :: r => if c = 40 then (match argsS f 5 [] r with | some (ks, r') => some (sT s ks, r') | none => none) else some (sT s [], c :: r)
  | [] => some (sT s [], [])
noncomputable def spP : Nat → List UInt8 → Option (Tm × List UInt8)
  | 0, _ => none
  | d + 1, rest =>
    match rest with
    | [] => none
    | b :: r =>
      if isUp b = true then some (vT b, r) else
      if numStart (b :: r) = true then numP (b :: r) else
      if b = 91 ∧ r.head? ≠ some 93 then itemsS (spP d) 121 [] r else
      match nameP (b :: r) with
      | none => none
      | some (s, r') => nameS (spP d) (bs s) r'
def RS (t : Tm) : Prop := ∀ (d e : Nat) (rest : List UInt8), shapeF t d = true → d ≤ e → Fol rest → spP e (txt false t ++ rest) = some (t, rest)
end Go.Proofs.YtognkaebiafgbaaGreatDoor

namespace Go.Proofs.YtognkaebiafgbaaGreatDoor
open Go.RowKit
set_option linter.unusedVariables false
def digB (k : Nat) : UInt8 := UInt8.ofNat (48 + k % 10)
def decL (k : Nat) (acc : List UInt8) : List UInt8 := if k = 0 then acc else decL (k / 10) (digB k :: acc)
termination_by k
theorem decL_zero (acc : List UInt8) : decL 0 acc = acc := by rw [decL]; simp
theorem decL_pos {k : Nat} (h : 0 < k) (acc : List UInt8) : decL k acc = decL (k / 10) (digB k :: acc) := by rw [decL, if_neg (by omega)]
theorem decL_le : ∀ (n k : Nat) (acc : List UInt8), k < 10 ^ n → acc.length ≤ (decL k acc).length ∧ (decL k acc).length ≤ acc.length + n
  | 0, k, acc, h => by
    have : k = 0 := by simp at h; omega
    subst this
    rw [decL_zero]
    omega
  | n + 1, k, acc, h => by
    by_cases hk : k = 0
    · subst hk; rw [decL_zero]; omega
    · rw [decL_pos (by omega)]
      have := decL_le n (k / 10) (digB k :: acc) (Nat.div_lt_of_lt_mul (by rw [Nat.pow_succ, Nat.mul_comm] at h; exact h))
      simp only [List.length_cons] at this
      omega
def markB (k : Nat) : ByteArray := if k = 0 then ⟨#[109, 48]⟩ else ⟨(109 :: decL k []).toArray⟩
theorem markB_size {k : Nat} (h : k < 10000000) : (markB k).size ≤ 1048576 := by
  unfold markB
  split
  · decide
  · have := (decL_le 7 k [] (by omega)).2
    simp [ByteArray.size] at this ⊢
    omega
mutual
def markT : Tm → Nat → Tm
  | .mk _ _ _ ks, k => .mk k (k + 1 : Nat) (markB (k + 2)) (markL ks (k + 3))
def markL : List Tm → Nat → List Tm
  | [], _ => []
  | t :: ts, k => markT t k :: markL ts (k + 3 * Tm.sz t)
end
theorem markL_len : ∀ (ts : List Tm) (k : Nat), (markL ts k).length = ts.length
  | [], _ => rfl
  | t :: ts, k => by simp [markL, markL_len ts]
theorem markL_get : ∀ {ts : List Tm} {j k : Nat} {t : Tm}, ts[j]? = some t → (markL ts k)[j]? = some (markT t (k + 3 * Tm.szL (ts.take j)))
  | [], j, k, t, h => by simp at h
  | t0 :: ts, 0, k, t, h => by simp at h; subst h; simp [markL, Tm.szL]
  | t0 :: ts, j + 1, k, t, h => by
    simp only [markL, List.getElem?_cons_succ, List.take_succ_cons, Tm.szL]
    rw [markL_get (by simpa using h)]
    congr 2
    omega
theorem markL_snoc : ∀ {ts : List Tm} {j k : Nat} {t : Tm}, ts[j]? = some t → markL (ts.take (j + 1)) k = markL (ts.take j) k ++ [markT t (k + 3 * Tm.szL (ts.take j))]
  | [], j, k, t, h => by simp at h
  | t0 :: ts, 0, k, t, h => by simp at h; subst h; simp [markL, Tm.szL]
  | t0 :: ts, j + 1, k, t, h => by
    simp only [markL, List.take_succ_cons, Tm.szL, List.cons_append]
    rw [markL_snoc (by simpa using h)]
    congr 4
    omega
theorem szL_snoc' {ts : List Tm} {j : Nat} {t : Tm} (h : ts[j]? = some t) : Tm.szL (ts.take (j + 1)) = Tm.szL (ts.take j) + Tm.sz t := by
  induction ts generalizing j with
  | nil => simp at h
  | cons t0 ts ih =>
    cases j with
    | zero => simp at h; subst h; simp [Tm.szL]
    | succ j =>
      have := ih (j := j) (by simpa using h)
      simp only [List.take_succ_cons, Tm.szL]
      omega
theorem szL_take_le : ∀ (ts : List Tm) (j : Nat), Tm.szL (ts.take j) ≤ Tm.szL ts
  | [], j => by simp
  | t :: ts, 0 => by simp [Tm.szL]
  | t :: ts, j + 1 => by have := szL_take_le ts j; simp only [List.take_succ_cons, Tm.szL]; omega
theorem markT_kids (t : Tm) (k : Nat) : (markT t k).kids = markL t.kids (k + 3) := by cases t; rfl
set_option maxHeartbeats 1000000 in
theorem ba_app (a b : List UInt8) : ((⟨a.toArray⟩ : ByteArray) ++ (⟨b.toArray⟩ : ByteArray)) = ⟨(a ++ b).toArray⟩ := ByteArray.ext (by simp [ByteArray.data_append])
theorem conv_one (w : World) (T : TypeId) (c : UInt8) (x : Int) (hx : x = c.toNat) : Sem.run Tryz.prog (convert 22 9 (.slice (some ⟨w.heap.size, 0, none⟩) 1 1)) (w.alloc (.cells #[.int .u8 x] T)) = .ok (.string ⟨#[c]⟩) (w.alloc (.cells #[.int .u8 x] T)) := by
  subst hx
  exact run_convert_bytes_back (P := Tryz.prog) _ 22 9 5 ⟨w.heap.size, 0, none⟩ 1 [c] Tryz.underlying22 Tryz.underlying5 Tryz.underlying9 (fun j hj => by
    have h1 : j < 1 := hj
    have : j = 0 := by omega
    subst this
    exact cell_new w _ _ 0 _ rfl)
theorem digit_toNat (j : Nat) : (48 + (j : Int) % 10) = ((digB j).toNat : Int) := by
  unfold digB
  rw [UInt8.toNat_ofNat']
  omega
set_option maxRecDepth 100000 in
theorem lawsmarkText (k : Nat) (hk : k < 10000000) (w : World) : Calls Tryz.prog 76 #[.int .i64 k] w fun e w' => e = .returned (.string (markB k)) ∧ Ext w w' := by
  by_cases h0 : k = 0
  · subst h0
    go_enter Tryz.func76, Tryz.ntmps76
    go_wp2_with fail
    go_ret
    exact ⟨rfl, Ext.refl _⟩
  · have HD := Lib.hid (decL_le 7 k [] (by omega))
    have hpos : 0 < k := by omega
    have HK := Lib.hid hk
    have H0 := Lib.hid h0
    have hk2 : k ≤ 9223372036854775807 := by omega
    clear h0 hk
    go_enter Tryz.func76, Tryz.ntmps76
    go_wp2_with fail
    go_loopw [0, 3] (fun n s wr => ∃ (j : Nat) (acc : List UInt8), j ≤ k ∧ n = .int .i64 j ∧ s = .string ⟨acc.toArray⟩ ∧ Hid (decL j acc = decL k []) ∧ Ext w wr) (fun n _ _ => (intOf n).toNat)
    case atStart => exact ⟨k, [], Nat.le_refl _, rfl, rfl, Lib.hid rfl, Ext.refl _⟩
    case round =>
      obtain ⟨j, acc, hj, rfl, rfl, HA, he⟩ := hrel
      have hl := (decL_le 7 j acc (by have := HK.out; omega)).1
      rw [HA.out] at hl
      have hacc : acc.length ≤ 7 := by have := HD.out.2; simp at this; omega
      clear hl
      by_cases hz : 0 < j
      · have HN := Lib.hid (decL_pos hz acc)
        have hd1 : j / 10 ≤ k := by omega
        have hd2 : j / 10 < j := by omega
        have hcv := conv_one wr 5 _ _ (digit_toNat j)
        go_wp2_with fail
        go_roundw
        case rel => exact ⟨j / 10, digB j :: acc, hd1, by go_num, congrArg Value.string (ba_app [_] _), Lib.hid (by rw [← HN.out, HA.out]), he.trans (Ext.alloc _ _)⟩
        case measure => simp only [intOf]; omega
      · obtain rfl : j = 0 := by omega
        have HZ := Lib.hid (decL_zero acc)
        go_wp2_with fail
        go_ret
        refine ⟨retS ?_, he⟩
        have h := HA.out
        rw [HZ.out] at h
        unfold markB
        rw [if_neg H0.out, ← h]
        exact ba_app [109] acc
end Go.Proofs.YtognkaebiafgbaaGreatDoor

namespace Go.Proofs.YtognkaebiafgbaaGreatDoor
open Go.RowKit
set_option linter.unusedVariables false
theorem own_slice {w : World} {T n c : Nat} {a : Option Addr} {xs : List Value} (h : w.ownsRow 0 T 4 (.slice a n c) n xs) (hn : 0 < n) : ∃ g, a = some ⟨g, 0, none⟩ := by
  rcases h.2 with ⟨h1, h2⟩ | ⟨g, cap, cur, h1, _⟩
  · omega
  · simp only [Value.slice.injEq] at h1
    exact ⟨g, h1.1⟩
theorem mark_next {F G : Nat → Prop} {wr w1 w2 : World} {g n cap j K : Nat} {ls bs : List Tm} {t : Tm} {x1 x2 : List Value} {a' : Option Addr} {c' : Nat} {y0 y1 : Value}
    (how : wr.ownsRow 0 25 4 (.slice (some ⟨g, 0, none⟩) n cap) n (x1 ++ (tcells t a' c' ++ x2))) (hx1 : x1.length = j * 4) (hFg : F g) (hn : n = (ls ++ t :: bs).length)
    (hG : ∀ b, G b → F b ∧ (Value.slice (some ⟨g, 0, none⟩) n cap).ownBlock ≠ some b) (hK : K + 3 < 10000000) (hlen : t.kids.length ≤ 1048576)
    (hback : ∀ (w' : World) (t' : Tm) (M : Nat → Prop), Fr M wr w' → (∀ b, (F b ∧ (Value.slice (some ⟨g, 0, none⟩) n cap).ownBlock ≠ some b) → M b → G b) → t'.kids.length = t.kids.length → Tm.own G w' t' (.slice a' t'.kids.length c') →
      Tm.oflat (fun b => F b ∧ (Value.slice (some ⟨g, 0, none⟩) n cap).ownBlock ≠ some b) w' (ls ++ t' :: bs) (x1 ++ (tcells t' a' c' ++ x2)))
    (h0 : y0 = .int .i64 K) (h1 : y1 = .int .i64 (K + 1 : Nat))
    (e1 : Ext ((wr.setCell ⟨g, j * 4, none⟩ y0).setCell ⟨g, j * 4 + 1, none⟩ y1) w1)
    (f2 : Fr G (w1.setCell ⟨g, j * 4 + 2, none⟩ (.string (markB (K + 2)))) w2) (ho2 : OwnS G (markL t.kids (K + 3)) (.slice a' t.kids.length c') w2) :
    OwnS F (ls ++ markT t K :: bs) (.slice (some ⟨g, 0, none⟩) n cap) w2 ∧ Fr F wr w2 := by
  subst h0 h1
  have hGg : ¬ G g := fun h => (hG g h).2 rfl
  obtain ⟨r1, g1⟩ := how.stored (j * 4) (.int .i64 K)
  obtain ⟨r2, g2⟩ := r1.stored (j * 4 + 1) (.int .i64 (K + 1 : Nat))
  have r2' := own_ext r2 e1
  obtain ⟨r3, g3⟩ := r2'.stored (j * 4 + 2) (.string (markB (K + 2)))
  have r4 := own_fr r3 f2 (fun g' hg' h => by simp [Value.ownBlock] at hg'; subst hg'; exact hGg h)
  have hxs : (((x1 ++ (tcells t a' c' ++ x2)).set (j * 4) (.int .i64 K)).set (j * 4 + 1) (.int .i64 (K + 1 : Nat))).set (j * 4 + 2) (.string (markB (K + 2))) = x1 ++ (tcells (markT t K) a' c' ++ x2) := by
    rw [← hx1]
    obtain ⟨k0, n0, s0, ks0⟩ := t
    simp [tcells, markT, Tm.kind, Tm.n, Tm.name, Tm.kids, markL_len]
  rw [hxs] at r4
  have fM : Fr (fun b => b = g ∨ G b) wr w2 := by
    have f1 : Fr (fun b => b = g ∨ G b) wr ((wr.setCell ⟨g, j * 4, none⟩ (.int .i64 K)).setCell ⟨g, j * 4 + 1, none⟩ (.int .i64 (K + 1 : Nat))) := (Fr.setCell _ (.inl rfl)).trans (Fr.setCell _ (.inl rfl))
    exact (f1.trans (Fr.of_ext e1)).trans ((Fr.setCell _ (.inl rfl)).trans (f2.mono (fun k _ h => .inr h)))
  have hkl : (markT t K).kids.length = t.kids.length := by rw [markT_kids, markL_len]
  have hmn : (markT t K).name = markB (K + 2) := by cases t; rfl
  have hown : Tm.own G w2 (markT t K) (.slice a' (markT t K).kids.length c') := own_iff.2 ⟨by rw [hmn]; exact markB_size (by omega), by rw [hkl]; exact hlen, by rw [hkl, markT_kids]; exact ho2⟩
  refine ⟨⟨_, ?_, ?_, hback w2 (markT t K) _ fM ?_ hkl hown⟩, fM.mono (fun b _ hb => ?_)⟩
  · have : (ls ++ markT t K :: bs).length = n := by rw [hn]; simp
    rw [this]
    exact r4
  · intro g' hg'
    simp [Value.ownBlock] at hg'
    subst hg'
    exact hFg
  · rintro b ⟨_, hb⟩ (rfl | h)
    · exact absurd rfl hb
    · exact h
  · rcases hb with rfl | hb
    · exact hFg
    · exact (hG b hb).1
def MarkC (ts : List Tm) : Prop := ∀ (F : Nat → Prop) (v : Value) (w : World) (k : Nat), k + 3 * Tm.szL ts < 9000000 → OwnS F ts v w →
  Calls Tryz.prog 77 #[v, .int .i64 k] w fun e w' => e = .returned (.int .i64 (k + 3 * Tm.szL ts : Nat)) ∧ OwnS F (markL ts k) v w' ∧ Fr F w w'
set_option maxRecDepth 100000 in
set_option maxHeartbeats 1000000 in
theorem lawsmarkTermS : ∀ (m : Nat) (ts : List Tm), Tm.szL ts ≤ m → MarkC ts := by
  intro m
  induction m using Nat.strongRecOn with
  | _ m ih =>
    intro ts hm F v w k hk ho
    have IH := Lib.hid (show ∀ (j : Nat) (t : Tm), ts[j]? = some t → MarkC t.kids from fun j t h => by
      have h1 := Tm.sz_mem h
      have h2 : Tm.szL t.kids < Tm.sz t := by cases t; simp only [Tm.sz, Tm.kids]; omega
      exact ih (Tm.szL t.kids) (by omega) t.kids (Nat.le_refl _))
    clear ih hm
    obtain ⟨a, cap, rfl⟩ := ho.form
    have hl : ts.length ≤ 9223372036854775807 := by
      obtain ⟨xs, h1, _⟩ := ho
      rcases h1.2 with ⟨_, h2⟩ | ⟨g, cap, cur, h1, h2, h3, h4, h5, _⟩
      · omega
      · simp only [maxLen] at h5; omega
    have HKB := Lib.hid hk
    have HO := Lib.hid ho
    clear hk ho
    go_enter Tryz.func77, Tryz.ntmps77
    go_wp2_with fail
    go_loopw [1, 5] (fun q i wr => ∃ (j K : Nat), j ≤ ts.length ∧ i = .int .i64 j ∧ q = .int .i64 K ∧ Hid (K = k + 3 * Tm.szL (ts.take j)) ∧ Hid (OwnS F (markL (ts.take j) k ++ ts.drop j) (.slice a ts.length cap) wr) ∧ Hid (Fr F w wr)) (fun _ i _ => ts.length - (intOf i).toNat)
    case atStart => exact ⟨0, k, Nat.zero_le _, rfl, rfl, Lib.hid (by simp [Tm.szL]), Lib.hid (by simpa [markL] using HO.out), Lib.hid (Fr.refl _ _)⟩
    case round =>
      obtain ⟨j, K, hj, rfl, rfl, HK, HS, HF⟩ := hrel
      by_cases hlt : j < ts.length
      · obtain ⟨tk, htk⟩ := getk hlt
        have hdrop : ts.drop j = tk :: ts.drop (j + 1) := by
          obtain ⟨h1, rfl⟩ := List.getElem?_eq_some_iff.1 htk
          exact List.drop_eq_getElem_cons h1
        have hs := HS.out
        rw [hdrop] at hs
        obtain ⟨xs, how, hFg, hfl⟩ := hs
        have hlen : (markL (ts.take j) k ++ tk :: ts.drop (j + 1)).length = ts.length := by rw [← hdrop]; simp [markL_len]; omega
        rw [hlen] at how
        obtain ⟨g, rfl⟩ := own_slice how (by omega)
        obtain ⟨G, x1, x2, a', c', rfl, hx1, hG, hown, hback⟩ := oflat_focus hfl
        have hx1' : x1.length = j * 4 := by rw [hx1, markL_len, List.length_take]; congr 1; omega
        obtain ⟨hkn, hkl, hko⟩ := own_iff.1 hown
        have hsz := szL_snoc' htk
        have hsl := szL_take_le ts (j + 1)
        have hsk : Tm.sz tk = 1 + Tm.szL tk.kids := by cases tk; rfl
        have hKB : K + 3 + 3 * Tm.szL tk.kids < 9000000 := by have := HK.out; have := HKB.out; omega
        have o0 : wr.cell? ⟨g, j * 4, none⟩ = some (.int .i64 tk.kind) := by rw [how.cellAt _ (by omega)]; simp [← hx1', tcells]
        have o1 : wr.cell? ⟨g, j * 4 + 1, none⟩ = some (.int .i64 tk.n) := by rw [how.cellAt _ (by omega)]; simp [← hx1', tcells]
        have o2 : wr.cell? ⟨g, j * 4 + 2, none⟩ = some (.string tk.name) := by rw [how.cellAt _ (by omega)]; simp [← hx1', tcells]
        have o3 : wr.cell? ⟨g, j * 4 + 3, none⟩ = some (.slice a' tk.kids.length c') := by rw [how.cellAt _ (by omega)]; simp [← hx1', tcells]
        have f0 := how.frozenAt (j * 4)
        have f1 := how.frozenAt (j * 4 + 1)
        have f2 := how.frozenAt (j * 4 + 2)
        have HM := Lib.hid (show ∀ w', Calls Tryz.prog 76 #[.int .i64 ((K : Int) + 1 + 1)] w' (fun e w'' => e = .returned (.string (markB (K + 2))) ∧ Ext w' w'') from fun w' => by
          have h := lawsmarkText (K + 2) (by omega) w'
          rwa [show ((K + 2 : Nat) : Int) = (K : Int) + 1 + 1 by omega] at h)
        have HC := Lib.hid (show ∀ w', OwnS G tk.kids (.slice a' tk.kids.length c') w' → Calls Tryz.prog 77 #[.slice a' tk.kids.length c', .int .i64 ((K : Int) + 1 + 1 + 1)] w' (fun e w'' => e = .returned (.int .i64 ((K : Int) + 1 + 1 + 1 + (3 * Tm.szL tk.kids : Nat))) ∧ OwnS G (markL tk.kids (K + 3)) (.slice a' tk.kids.length c') w'' ∧ Fr G w' w'') from fun w' h => by
          have h := IH.out j tk htk G _ w' (K + 3) (by omega) h
          rwa [show ((K + 3 : Nat) : Int) = (K : Int) + 1 + 1 + 1 by omega, show ((K + 3 + 3 * Tm.szL tk.kids : Nat) : Int) = (K : Int) + 1 + 1 + 1 + (3 * Tm.szL tk.kids : Nat) by omega] at h)
        have HGg : Hid (¬ G g) := Lib.hid (fun h => (hG g h).2 rfl)
        have HOW := Lib.hid how
        have HFG := Lib.hid (hFg g rfl)
        have HLEN := Lib.hid hlen
        have HGF := Lib.hid hG
        have HBK := Lib.hid hback
        have HKO := Lib.hid hko
        have HX := Lib.hid hx1'
        have HTK := Lib.hid htk
        have HSZ := Lib.hid hsz
        have HSK := Lib.hid hsk
        have HKK := Lib.hid hKB
        have hK2 : K ≤ 9223372036854775800 := by omega
        have hgl := block_lt_of_cell o0
        simp only at hgl
        clear hdrop hfl how hFg hlen hG hown hback hko hx1 hx1' htk hsz hsl hsk hKB hkn
        go_wp2_with fail
        refine (HM.out _).mono ?_
        rintro e w1 ⟨rfl, e1⟩
        have q2 := e1.cell (cell_off (i := j * 4 + 2) (j := j * 4 + 1) (by omega) (cell_off (i := j * 4 + 2) (j := j * 4) (by omega) o2))
        have q3 := e1.cell (cell_off (i := j * 4 + 3) (j := j * 4 + 1) (by omega) (cell_off (i := j * 4 + 3) (j := j * 4) (by omega) o3))
        have q4 := e1.frozen (a := ⟨g, j * 4 + 2, none⟩) (by simpa [World.setCell] using hgl) (by rw [World.frozen?_setCell, World.frozen?_setCell]; exact f2)
        have E1 := Lib.hid e1
        have FE := Lib.hid (((Fr.setCell (M := fun b => b = g) wr rfl).trans (Fr.setCell (M := fun b => b = g) _ rfl)).trans (Fr.of_ext e1))
        clear e1
        go_wp2_with fail
        refine (HC.out _ (HKO.out.mono (fun _ h => h) (FE.out.trans (Fr.setCell _ rfl)) (fun b hb h => HGg.out (h ▸ hb)))).mono ?_
        rintro e w2 ⟨rfl, ho2, fr2⟩
        obtain ⟨hO, hFr⟩ := mark_next HOW.out HX.out HFG.out HLEN.out.symm HGF.out (by have := HKK.out; omega) hkl HBK.out rfl (by go_num) E1.out fr2 ho2
        have HO2 := Lib.hid hO
        have HF2 := Lib.hid hFr
        clear ho2 fr2 hO hFr
        go_wp2_with fail
        go_roundw
        case rel =>
          refine ⟨j + 1, K + 3 + 3 * Tm.szL tk.kids, by omega, by go_num, ?_, Lib.hid (by rw [HSZ.out, HSK.out, HK.out]; omega), Lib.hid ?_, Lib.hid (HF.out.trans HF2.out)⟩
          · first | (congr 1; done) | (congr 1; omega)
          · rw [markL_snoc HTK.out, ← HK.out]
            simpa using HO2.out
        case measure => simp [intOf]; omega
      · obtain rfl : j = ts.length := by omega
        have hs := HS.out
        have hK := HK.out
        simp only [List.take_length, List.drop_length, List.append_nil] at hs hK
        have HS := Lib.hid hs
        have HK := Lib.hid hK
        clear hs hK
        go_wp2_with fail
        go_ret
        exact ⟨retI (by rw [HK.out]), HS.out, HF.out⟩
def HeldC (ts : List Tm) : Prop := ∀ (S : Nat → Prop) (v : Value) (w : World) (k : Nat), k + 3 * Tm.szL ts < 9000000 → Tm.sl S w (markL ts k) v →
  Calls Tryz.prog 78 #[v, .int .i64 k] w fun e w' => e = .returned (.int .i64 (k + 3 * Tm.szL ts : Nat)) ∧ Ext w w'
set_option maxRecDepth 100000 in
set_option maxHeartbeats 1000000 in
theorem lawsheldTermS : ∀ (m : Nat) (ts : List Tm), Tm.szL ts ≤ m → HeldC ts := by
  intro m
  induction m using Nat.strongRecOn with
  | _ m ih =>
    intro ts hm S v w k hk ht
    have IH := Lib.hid (show ∀ (j : Nat) (t : Tm), ts[j]? = some t → HeldC t.kids from fun j t h => by
      have h1 := Tm.sz_mem h
      have h2 : Tm.szL t.kids < Tm.sz t := by cases t; simp only [Tm.sz, Tm.kids]; omega
      exact ih (Tm.szL t.kids) (by omega) t.kids (Nat.le_refl _))
    clear ih hm
    obtain ⟨a, cap, rfl, h1, h2, h3, h4⟩ := ht
    rw [markL_len] at h1 h3
    rw [markL_len]
    have H4 := Lib.hid h4
    have HKB := Lib.hid hk
    clear h4 hk
    go_enter Tryz.func78, Tryz.ntmps78
    go_wp2_with fail
    go_loopw [1, 5] (fun q i wr => ∃ (j K : Nat), j ≤ ts.length ∧ i = .int .i64 j ∧ q = .int .i64 K ∧ Hid (K = k + 3 * Tm.szL (ts.take j)) ∧ Hid (Ext w wr)) (fun _ i _ => ts.length - (intOf i).toNat)
    case atStart => exact ⟨0, k, Nat.zero_le _, rfl, rfl, Lib.hid (by simp [Tm.szL]), Lib.hid (Ext.refl _)⟩
    case round =>
      obtain ⟨j, K, hj, rfl, rfl, HK, HE⟩ := hrel
      by_cases hlt : j < ts.length
      · obtain ⟨tk, htk⟩ := getk hlt
        have hmk := markL_get (k := k) htk
        rw [← HK.out] at hmk
        obtain ⟨b, off, a', c', rfl, hSb, c0, c1, c2, c3, hat⟩ := tget H4.out hmk
        have c0 := HE.out.cell c0
        have c1 := HE.out.cell c1
        have c2 := HE.out.cell c2
        have c3 := HE.out.cell c3
        have hat := Tm.at_ext HE.out hat
        have hsl : Tm.sl S wr (markL tk.kids (K + 3)) (.slice a' tk.kids.length c') := by
          obtain ⟨_, sv, hv, hs⟩ := Tm.at_iff.1 hat
          have hsv : sv = .slice a' (markT tk K).kids.length c' := by
            simp only [Value.agg.injEq] at hv
            have := congrArg (fun x : Array Value => x[3]?) hv
            simpa using this.symm
          subst hsv
          rwa [markT_kids, markL_len] at hs
        have hsz := szL_snoc' htk
        have hsl2 := szL_take_le ts (j + 1)
        have hsk : Tm.sz tk = 1 + Tm.szL tk.kids := by cases tk; rfl
        have hKB : K + 3 + 3 * Tm.szL tk.kids < 9000000 := by have := HK.out; have := HKB.out; omega
        rw [show (markT tk K).kind = (K : Int) by cases tk; rfl] at c0
        rw [show (markT tk K).n = (K : Int) + 1 by cases tk; simp [markT, Tm.n]] at c1
        rw [show (markT tk K).name = markB (K + 2) by cases tk; rfl] at c2
        rw [markT_kids, markL_len] at c3
        have d2 := cell_regrown c2
        have HM := Lib.hid (show ∀ w', Ext wr w' → Calls Tryz.prog 76 #[.int .i64 ((K : Int) + 1 + 1)] w' (fun e w'' => e = .returned (.string (markB (K + 2))) ∧ Ext w' w'') from fun w' _ => by
          have h := lawsmarkText (K + 2) (by omega) w'
          rwa [show ((K + 2 : Nat) : Int) = (K : Int) + 1 + 1 by omega] at h)
        have HC := Lib.hid (show ∀ w', Ext wr w' → Calls Tryz.prog 78 #[.slice a' tk.kids.length c', .int .i64 ((K : Int) + 1 + 1 + 1)] w' (fun e w'' => e = .returned (.int .i64 ((K : Int) + 1 + 1 + 1 + (3 * Tm.szL tk.kids : Nat))) ∧ Ext w' w'') from fun w' e' => by
          have h := IH.out j tk htk S _ w' (K + 3) (by omega) (Tm.sl_ext e' hsl)
          rwa [show ((K + 3 : Nat) : Int) = (K : Int) + 1 + 1 + 1 by omega, show ((K + 3 + 3 * Tm.szL tk.kids : Nat) : Int) = (K : Int) + 1 + 1 + 1 + (3 * Tm.szL tk.kids : Nat) by omega] at h)
        have cQ := quiet_call (w := wr) HM.out
        have HSZ := Lib.hid hsz
        have HSK := Lib.hid hsk
        have hK2 : K ≤ 9223372036854775800 := by omega
        clear hat hsl hsz hsl2 hsk hKB htk hmk hSb
        go_wp2_with fail
        refine region_ext (by kernel_rfl) (by kernel_rfl) ?_
        repeat (quiet_step (exact cQ _ _))
        refine wpQuiet_nil ?_
        intro wq eq
        have c3 := eq.cell c3
        have EQ := Lib.hid eq
        clear eq d2 cQ c0 c1 c2
        go_wp2_with fail
        refine (HC.out _ EQ.out).mono ?_
        rintro e w2 ⟨rfl, e2⟩
        have E2 := Lib.hid e2
        clear e2
        go_wp2_with fail
        go_roundw
        case rel =>
          refine ⟨j + 1, K + 3 + 3 * Tm.szL tk.kids, by omega, by go_num, ?_, Lib.hid (by rw [HSZ.out, HSK.out, HK.out]; omega), Lib.hid ((HE.out.trans EQ.out).trans E2.out)⟩
          first | (congr 1; done) | (congr 1; omega)
        case measure => simp [intOf]; omega
      · obtain rfl : j = ts.length := by omega
        have hK := HK.out
        simp only [List.take_length] at hK
        have HK := Lib.hid hK
        clear hK
        go_wp2_with fail
        go_ret
        exact ⟨retI (by rw [HK.out]), HE.out⟩
end Go.Proofs.YtognkaebiafgbaaGreatDoor
