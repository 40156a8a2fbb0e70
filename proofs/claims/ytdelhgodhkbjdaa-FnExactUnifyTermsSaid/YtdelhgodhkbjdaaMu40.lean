/-
  The marks that a law writes into a term's memory, and reads back.
-/
import Derived.Laws.IdiomStrings
import Derived.Test.YtdelhgodhkbjdaaMu28
namespace Go.Proofs.Ytdelhgodhkbjdaa
open Go.RowKit
set_option linter.unusedVariables false

/-- the last decimal digit -/
def digB (k : Nat) : UInt8 := UInt8.ofNat (48 + k % 10)
/-- the decimal digits of a number ahead of others -/
def decL (k : Nat) (acc : List UInt8) : List UInt8 := if k = 0 then acc else decL (k / 10) (digB k :: acc)
termination_by k
theorem decL_zero (acc : List UInt8) : decL 0 acc = acc := by rw [decL]; simp
theorem decL_pos {k : Nat} (h : 0 < k) (acc : List UInt8) : decL k acc = decL (k / 10) (digB k :: acc) := by rw [decL, if_neg (by omega)]
theorem decL_le : ∀ (n k : Nat) (acc : List UInt8), k < 10 ^ n → acc.length ≤ (decL k acc).length ∧ (decL k acc).length ≤ acc.length + n
  | 0, k, acc, h => by
    have : k = 0 := by simp at h; omega
    subst this
    rw [decL_zero]
    omega
  | n + 1, k, acc, h => by
    by_cases hk : k = 0
    · subst hk; rw [decL_zero]; omega
    · rw [decL_pos (by omega)]
      have := decL_le n (k / 10) (digB k :: acc) (Nat.div_lt_of_lt_mul (by rw [Nat.pow_succ, Nat.mul_comm] at h; exact h))
      simp only [List.length_cons] at this
      omega
/-- the mark of number k -/
def markB (k : Nat) : ByteArray := if k = 0 then ⟨#[109, 48]⟩ else ⟨(109 :: decL k []).toArray⟩
theorem markB_size {k : Nat} (h : k < 10000000) : (markB k).size ≤ 1048576 := by
  unfold markB
  split
  · decide
  · have := (decL_le 7 k [] (by omega)).2
    simp [ByteArray.size] at this ⊢
    omega
mutual
def markT : Tm → Nat → Tm
  | .mk _ _ _ ks, k => .mk k (k + 1 : Nat) (markB (k + 2)) (markL ks (k + 3))
def markL : List Tm → Nat → List Tm
  | [], _ => []
  | t :: ts, k => markT t k :: markL ts (k + 3 * Tm.sz t)
end
theorem markL_len : ∀ (ts : List Tm) (k : Nat), (markL ts k).length = ts.length
  | [], _ => rfl
  | t :: ts, k => by simp [markL, markL_len ts]
theorem markL_get : ∀ {ts : List Tm} {j k : Nat} {t : Tm}, ts[j]? = some t → (markL ts k)[j]? = some (markT t (k + 3 * Tm.szL (ts.take j)))
  | [], j, k, t, h => by simp at h
  | t0 :: ts, 0, k, t, h => by simp at h; subst h; simp [markL, Tm.szL]
  | t0 :: ts, j + 1, k, t, h => by
    simp only [markL, List.getElem?_cons_succ, List.take_succ_cons, Tm.szL]
    rw [markL_get (by simpa using h)]
    congr 2
    omega
theorem markL_snoc : ∀ {ts : List Tm} {j k : Nat} {t : Tm}, ts[j]? = some t → markL (ts.take (j + 1)) k = markL (ts.take j) k ++ [markT t (k + 3 * Tm.szL (ts.take j))]
  | [], j, k, t, h => by simp at h
  | t0 :: ts, 0, k, t, h => by simp at h; subst h; simp [markL, Tm.szL]
  | t0 :: ts, j + 1, k, t, h => by
    simp only [markL, List.take_succ_cons, Tm.szL, List.cons_append]
    rw [markL_snoc (by simpa using h)]
    congr 4
    omega
theorem szL_snoc' {ts : List Tm} {j : Nat} {t : Tm} (h : ts[j]? = some t) : Tm.szL (ts.take (j + 1)) = Tm.szL (ts.take j) + Tm.sz t := by
  induction ts generalizing j with
  | nil => simp at h
  | cons t0 ts ih =>
    cases j with
    | zero => simp at h; subst h; simp [Tm.szL]
    | succ j =>
      have := ih (j := j) (by simpa using h)
      simp only [List.take_succ_cons, Tm.szL]
      omega
theorem szL_take_le : ∀ (ts : List Tm) (j : Nat), Tm.szL (ts.take j) ≤ Tm.szL ts
  | [], j => by simp
  | t :: ts, 0 => by simp [Tm.szL]
  | t :: ts, j + 1 => by have := szL_take_le ts j; simp only [List.take_succ_cons, Tm.szL]; omega
theorem markT_kids (t : Tm) (k : Nat) : (markT t k).kids = markL t.kids (k + 3) := by cases t; rfl

set_option maxHeartbeats 1000000 in
theorem ba_app (a b : List UInt8) : ((⟨a.toArray⟩ : ByteArray) ++ (⟨b.toArray⟩ : ByteArray)) = ⟨(a ++ b).toArray⟩ := ByteArray.ext (by simp [ByteArray.data_append])
/-- a string of one byte -/
theorem conv_one (w : World) (T : TypeId) (c : UInt8) (x : Int) (hx : x = c.toNat) : Sem.run Try.prog (convert 22 9 (.slice (some ⟨w.heap.size, 0, none⟩) 1 1)) (w.alloc (.cells #[.int .u8 x] T)) = .ok (.string ⟨#[c]⟩) (w.alloc (.cells #[.int .u8 x] T)) := by
  subst hx
  exact run_convert_bytes_back (P := Try.prog) _ 22 9 5 ⟨w.heap.size, 0, none⟩ 1 [c] Try.underlying22 Try.underlying5 Try.underlying9 (fun j hj => by
    have h1 : j < 1 := hj
    have : j = 0 := by omega
    subst this
    exact cell_new w _ _ 0 _ rfl)
theorem digit_toNat (j : Nat) : (48 + (j : Int) % 10) = ((digB j).toNat : Int) := by
  unfold digB
  rw [UInt8.toNat_ofNat']
  omega

set_option maxRecDepth 100000 in
theorem lawsmarkText (k : Nat) (hk : k < 10000000) (w : World) : Calls Try.prog 66 #[.int .i64 k] w fun e w' => e = .returned (.string (markB k)) ∧ Ext w w' := by
  by_cases h0 : k = 0
  · subst h0
    go_enter Try.func66, Try.ntmps66
    go_wp2_with fail
    go_ret
    exact ⟨rfl, Ext.refl _⟩
  · have HD := Lib.hid (decL_le 7 k [] (by omega))
    have hpos : 0 < k := by omega
    have HK := Lib.hid hk
    have H0 := Lib.hid h0
    have hk2 : k ≤ 9223372036854775807 := by omega
    clear h0 hk
    go_enter Try.func66, Try.ntmps66
    go_wp2_with fail
    go_loopw [0, 3] (fun n s wr => ∃ (j : Nat) (acc : List UInt8), j ≤ k ∧ n = .int .i64 j ∧ s = .string ⟨acc.toArray⟩ ∧ Hid (decL j acc = decL k []) ∧ Ext w wr) (fun n _ _ => (intOf n).toNat)
    case atStart => exact ⟨k, [], Nat.le_refl _, rfl, rfl, Lib.hid rfl, Ext.refl _⟩
    case round =>
      obtain ⟨j, acc, hj, rfl, rfl, HA, he⟩ := hrel
      have hl := (decL_le 7 j acc (by have := HK.out; omega)).1
      rw [HA.out] at hl
      have hacc : acc.length ≤ 7 := by have := HD.out.2; simp at this; omega
      clear hl
      by_cases hz : 0 < j
      · have HN := Lib.hid (decL_pos hz acc)
        have hd1 : j / 10 ≤ k := by omega
        have hd2 : j / 10 < j := by omega
        have hcv := conv_one wr 5 _ _ (digit_toNat j)
        go_wp2_with fail
        go_roundw
        case rel => exact ⟨j / 10, digB j :: acc, hd1, by go_num, congrArg Value.string (ba_app [_] _), Lib.hid (by rw [← HN.out, HA.out]), he.trans (Ext.alloc _ _)⟩
        case measure => simp only [intOf]; omega
      · obtain rfl : j = 0 := by omega
        have HZ := Lib.hid (decL_zero acc)
        go_wp2_with fail
        go_ret
        refine ⟨retS ?_, he⟩
        have h := HA.out
        rw [HZ.out] at h
        unfold markB
        rw [if_neg H0.out, ← h]
        exact ba_app [109] acc

end Go.Proofs.Ytdelhgodhkbjdaa
