/-
  What the reference's l1Own, l1Shape, l1Count, TermValid and CountNodes return on every term; and that the program's return the same.
-/
import Derived.Test.YtognkaebiafgbaaMu12
namespace Go.Proofs.Ytognkaebiafgbaa
open Go.RowKit Go.Sort
set_option linter.unusedVariables false
def ownF (k n : Int) (s : ByteArray) (len : Nat) : Bool :=
  if k = 1 then decide (0 ≤ n) && decide (n ≤ 25) && (s.toList == []) && decide (len = 0) else
  if k = 2 then decide (-999 ≤ n) && decide (n ≤ 999) && (s.toList == []) && decide (len = 0) else
  if k = 3 then decide (n = 0) && nameF s && decide (len ≤ 4) else false
set_option maxRecDepth 100000 in
set_option maxHeartbeats 1000000 in
theorem own_1a (n : Int) (s : ByteArray) (ks : List Tm) (v : Value) (S : Nat → Prop) (w : World) (ht : Tm.at S w (.mk 1 n s ks) v)  (hno : ¬ (0 ≤ n)) :
    Calls Try.prog 47 #[v] w fun e w' => e = .returned (.bool (ownF 1 n s ks.length)) ∧ Ext w w' := by
  have HF := Lib.hid (show ownF 1 n s ks.length = false by simp [ownF, hno])
  obtain ⟨hs1, sv, rfl, a, cap, rfl, h1, h2, h3, h4⟩ := ht
  clear h4
  go_enter Try.func47, Try.ntmps47
  go_wp2_with fail
  go_ret
  exact ⟨retB HF.out.symm, Ext.alloc _ _⟩
set_option maxRecDepth 100000 in
set_option maxHeartbeats 1000000 in
theorem own_1b (n : Int) (s : ByteArray) (ks : List Tm) (v : Value) (S : Nat → Prop) (w : World) (ht : Tm.at S w (.mk 1 n s ks) v) (h1c : 0 ≤ n) (hno : ¬ (n ≤ 25)) :
    Calls Try.prog 47 #[v] w fun e w' => e = .returned (.bool (ownF 1 n s ks.length)) ∧ Ext w w' := by
  have HF := Lib.hid (show ownF 1 n s ks.length = false by simp [ownF, h1c, hno])
  obtain ⟨hs1, sv, rfl, a, cap, rfl, h1, h2, h3, h4⟩ := ht
  clear h4
  go_enter Try.func47, Try.ntmps47
  go_wp2_with fail
  go_ret
  exact ⟨retB HF.out.symm, Ext.alloc _ _⟩
set_option maxRecDepth 100000 in
set_option maxHeartbeats 1000000 in
theorem own_1c (n : Int) (s : ByteArray) (ks : List Tm) (v : Value) (S : Nat → Prop) (w : World) (ht : Tm.at S w (.mk 1 n s ks) v) (h1c : 0 ≤ n) (h2c : n ≤ 25) (hno : ¬ (s.toList = [])) :
    Calls Try.prog 47 #[v] w fun e w' => e = .returned (.bool (ownF 1 n s ks.length)) ∧ Ext w w' := by
  have HF := Lib.hid (show ownF 1 n s ks.length = false by simp [ownF, h1c, h2c, hno])
  obtain ⟨hs1, sv, rfl, a, cap, rfl, h1, h2, h3, h4⟩ := ht
  clear h4
  have hn1 : s.toList.isEmpty = false := by simp [hno]
  clear hno
  go_enter Try.func47, Try.ntmps47
  go_wp2_with fail
  go_ret
  exact ⟨retB HF.out.symm, Ext.alloc _ _⟩
set_option maxRecDepth 100000 in
set_option maxHeartbeats 1000000 in
theorem own_1d (n : Int) (s : ByteArray) (ks : List Tm) (v : Value) (S : Nat → Prop) (w : World) (ht : Tm.at S w (.mk 1 n s ks) v) (h1c : 0 ≤ n) (h2c : n ≤ 25) (h3c : s.toList = []) (hno : ¬ (ks.length = 0)) :
    Calls Try.prog 47 #[v] w fun e w' => e = .returned (.bool (ownF 1 n s ks.length)) ∧ Ext w w' := by
  have HF := Lib.hid (show ownF 1 n s ks.length = false by simp [ownF, h1c, h2c, h3c, hno])
  obtain ⟨hs1, sv, rfl, a, cap, rfl, h1, h2, h3, h4⟩ := ht
  clear h4
  have hl1 : ((ks.length : Int) == 0) = false := by simp [hno]
  clear hno
  go_enter Try.func47, Try.ntmps47
  go_wp2_with fail
  go_ret
  exact ⟨retB HF.out.symm, Ext.alloc _ _⟩
set_option maxRecDepth 100000 in
set_option maxHeartbeats 1000000 in
theorem own_1e (n : Int) (s : ByteArray) (ks : List Tm) (v : Value) (S : Nat → Prop) (w : World) (ht : Tm.at S w (.mk 1 n s ks) v) (h1c : 0 ≤ n) (h2c : n ≤ 25) (h3c : s.toList = []) (h4c : ks.length = 0) :
    Calls Try.prog 47 #[v] w fun e w' => e = .returned (.bool (ownF 1 n s ks.length)) ∧ Ext w w' := by
  have HF := Lib.hid (show ownF 1 n s ks.length = true by simp [ownF, h1c, h2c, h3c, h4c])
  obtain ⟨hs1, sv, rfl, a, cap, rfl, h1, h2, h3, h4⟩ := ht
  clear h4
  have hl1 : ((ks.length : Int) == 0) = true := by simp [h4c]
  clear h4c
  go_enter Try.func47, Try.ntmps47
  go_wp2_with fail
  go_ret
  exact ⟨retB HF.out.symm, Ext.alloc _ _⟩
set_option maxRecDepth 100000 in
set_option maxHeartbeats 1000000 in
theorem own_2a (n : Int) (s : ByteArray) (ks : List Tm) (v : Value) (S : Nat → Prop) (w : World) (ht : Tm.at S w (.mk 2 n s ks) v)  (hno : ¬ (-999 ≤ n)) :
    Calls Try.prog 47 #[v] w fun e w' => e = .returned (.bool (ownF 2 n s ks.length)) ∧ Ext w w' := by
  have HF := Lib.hid (show ownF 2 n s ks.length = false by simp [ownF, hno])
  obtain ⟨hs1, sv, rfl, a, cap, rfl, h1, h2, h3, h4⟩ := ht
  clear h4
  go_enter Try.func47, Try.ntmps47
  go_wp2_with fail
  go_ret
  exact ⟨retB HF.out.symm, Ext.alloc _ _⟩
set_option maxRecDepth 100000 in
set_option maxHeartbeats 1000000 in
theorem own_2b (n : Int) (s : ByteArray) (ks : List Tm) (v : Value) (S : Nat → Prop) (w : World) (ht : Tm.at S w (.mk 2 n s ks) v) (h1c : -999 ≤ n) (hno : ¬ (n ≤ 999)) :
    Calls Try.prog 47 #[v] w fun e w' => e = .returned (.bool (ownF 2 n s ks.length)) ∧ Ext w w' := by
  have HF := Lib.hid (show ownF 2 n s ks.length = false by simp [ownF, h1c, hno])
  obtain ⟨hs1, sv, rfl, a, cap, rfl, h1, h2, h3, h4⟩ := ht
  clear h4
  go_enter Try.func47, Try.ntmps47
  go_wp2_with fail
  go_ret
  exact ⟨retB HF.out.symm, Ext.alloc _ _⟩
set_option maxRecDepth 100000 in
set_option maxHeartbeats 1000000 in
theorem own_2c (n : Int) (s : ByteArray) (ks : List Tm) (v : Value) (S : Nat → Prop) (w : World) (ht : Tm.at S w (.mk 2 n s ks) v) (h1c : -999 ≤ n) (h2c : n ≤ 999) (hno : ¬ (s.toList = [])) :
    Calls Try.prog 47 #[v] w fun e w' => e = .returned (.bool (ownF 2 n s ks.length)) ∧ Ext w w' := by
  have HF := Lib.hid (show ownF 2 n s ks.length = false by simp [ownF, h1c, h2c, hno])
  obtain ⟨hs1, sv, rfl, a, cap, rfl, h1, h2, h3, h4⟩ := ht
  clear h4
  have hn1 : s.toList.isEmpty = false := by simp [hno]
  clear hno
  go_enter Try.func47, Try.ntmps47
  go_wp2_with fail
  go_ret
  exact ⟨retB HF.out.symm, Ext.alloc _ _⟩
set_option maxRecDepth 100000 in
set_option maxHeartbeats 1000000 in
theorem own_2d (n : Int) (s : ByteArray) (ks : List Tm) (v : Value) (S : Nat → Prop) (w : World) (ht : Tm.at S w (.mk 2 n s ks) v) (h1c : -999 ≤ n) (h2c : n ≤ 999) (h3c : s.toList = []) (hno : ¬ (ks.length = 0)) :
    Calls Try.prog 47 #[v] w fun e w' => e = .returned (.bool (ownF 2 n s ks.length)) ∧ Ext w w' := by
  have HF := Lib.hid (show ownF 2 n s ks.length = false by simp [ownF, h1c, h2c, h3c, hno])
  obtain ⟨hs1, sv, rfl, a, cap, rfl, h1, h2, h3, h4⟩ := ht
  clear h4
  have hl1 : ((ks.length : Int) == 0) = false := by simp [hno]
  clear hno
  go_enter Try.func47, Try.ntmps47
  go_wp2_with fail
  go_ret
  exact ⟨retB HF.out.symm, Ext.alloc _ _⟩
set_option maxRecDepth 100000 in
set_option maxHeartbeats 1000000 in
theorem own_2e (n : Int) (s : ByteArray) (ks : List Tm) (v : Value) (S : Nat → Prop) (w : World) (ht : Tm.at S w (.mk 2 n s ks) v) (h1c : -999 ≤ n) (h2c : n ≤ 999) (h3c : s.toList = []) (h4c : ks.length = 0) :
    Calls Try.prog 47 #[v] w fun e w' => e = .returned (.bool (ownF 2 n s ks.length)) ∧ Ext w w' := by
  have HF := Lib.hid (show ownF 2 n s ks.length = true by simp [ownF, h1c, h2c, h3c, h4c])
  obtain ⟨hs1, sv, rfl, a, cap, rfl, h1, h2, h3, h4⟩ := ht
  clear h4
  have hl1 : ((ks.length : Int) == 0) = true := by simp [h4c]
  clear h4c
  go_enter Try.func47, Try.ntmps47
  go_wp2_with fail
  go_ret
  exact ⟨retB HF.out.symm, Ext.alloc _ _⟩
set_option maxRecDepth 100000 in
set_option maxHeartbeats 1000000 in
theorem own_3a (n : Int) (s : ByteArray) (ks : List Tm) (v : Value) (S : Nat → Prop) (w : World) (ht : Tm.at S w (.mk 3 n s ks) v) (hno : n ≠ 0) :
    Calls Try.prog 47 #[v] w fun e w' => e = .returned (.bool (ownF 3 n s ks.length)) ∧ Ext w w' := by
  have HF := Lib.hid (show ownF 3 n s ks.length = false by simp [ownF, hno])
  obtain ⟨hs1, sv, rfl, a, cap, rfl, h1, h2, h3, h4⟩ := ht
  clear h4
  have hn1 : (n == 0) = false := by simp [hno]
  clear hno
  go_enter Try.func47, Try.ntmps47
  go_wp2_with fail
  go_ret
  exact ⟨retB HF.out.symm, Ext.alloc _ _⟩
set_option maxRecDepth 100000 in
set_option maxHeartbeats 1000000 in
theorem own_3b (n : Int) (s : ByteArray) (ks : List Tm) (v : Value) (S : Nat → Prop) (w : World) (ht : Tm.at S w (.mk 3 n s ks) v) (h0 : n = 0) (hv : nameF s = false) :
    Calls Try.prog 47 #[v] w fun e w' => e = .returned (.bool (ownF 3 n s ks.length)) ∧ Ext w w' := by
  have HF := Lib.hid (show ownF 3 n s ks.length = false by simp [ownF, hv])
  obtain ⟨hs1, sv, rfl, a, cap, rfl, h1, h2, h3, h4⟩ := ht
  clear h4
  have hn1 : (n == 0) = true := by simp [h0]
  have HN := Lib.hid hv
  clear h0 hv
  go_enter Try.func47, Try.ntmps47
  go_wp2_with fail
  refine (specNameValid s _ hs1).mono ?_
  rw [HN.out]
  rintro e w1 ⟨rfl, e1⟩
  have E1 := Lib.hid e1
  clear e1
  go_wp2_with fail
  go_ret
  exact ⟨retB HF.out.symm, (Ext.alloc _ _).trans E1.out⟩
set_option maxRecDepth 100000 in
set_option maxHeartbeats 1000000 in
theorem own_3c (n : Int) (s : ByteArray) (ks : List Tm) (v : Value) (S : Nat → Prop) (w : World) (ht : Tm.at S w (.mk 3 n s ks) v) (h0 : n = 0) (hv : nameF s = true) (hl : ¬ ks.length ≤ 4) :
    Calls Try.prog 47 #[v] w fun e w' => e = .returned (.bool (ownF 3 n s ks.length)) ∧ Ext w w' := by
  have HF := Lib.hid (show ownF 3 n s ks.length = false by simp [ownF, h0, hv, hl])
  obtain ⟨hs1, sv, rfl, a, cap, rfl, h1, h2, h3, h4⟩ := ht
  clear h4
  have hn1 : (n == 0) = true := by simp [h0]
  have HN := Lib.hid hv
  clear h0 hv
  go_enter Try.func47, Try.ntmps47
  go_wp2_with fail
  refine (specNameValid s _ hs1).mono ?_
  rw [HN.out]
  rintro e w1 ⟨rfl, e1⟩
  have t3 := e1.cell (a := ⟨w.heap.size, 3, none⟩) (v := .slice a ks.length cap) (by go_simp)
  have E1 := Lib.hid e1
  clear e1
  go_wp2_with fail
  go_ret
  exact ⟨retB (by rw [HF.out]; first | exact decide_eq_false (by omega) | exact decide_eq_true (by omega)), (Ext.alloc _ _).trans E1.out⟩
set_option maxRecDepth 100000 in
set_option maxHeartbeats 1000000 in
theorem own_3d (n : Int) (s : ByteArray) (ks : List Tm) (v : Value) (S : Nat → Prop) (w : World) (ht : Tm.at S w (.mk 3 n s ks) v) (h0 : n = 0) (hv : nameF s = true) (hl : ks.length ≤ 4) :
    Calls Try.prog 47 #[v] w fun e w' => e = .returned (.bool (ownF 3 n s ks.length)) ∧ Ext w w' := by
  have HF := Lib.hid (show ownF 3 n s ks.length = true by simp [ownF, h0, hv, hl])
  obtain ⟨hs1, sv, rfl, a, cap, rfl, h1, h2, h3, h4⟩ := ht
  clear h4
  have hn1 : (n == 0) = true := by simp [h0]
  have HN := Lib.hid hv
  clear h0 hv
  go_enter Try.func47, Try.ntmps47
  go_wp2_with fail
  refine (specNameValid s _ hs1).mono ?_
  rw [HN.out]
  rintro e w1 ⟨rfl, e1⟩
  have t3 := e1.cell (a := ⟨w.heap.size, 3, none⟩) (v := .slice a ks.length cap) (by go_simp)
  have E1 := Lib.hid e1
  clear e1
  go_wp2_with fail
  go_ret
  exact ⟨retB (by rw [HF.out]; first | exact decide_eq_false (by omega) | exact decide_eq_true (by omega)), (Ext.alloc _ _).trans E1.out⟩
set_option maxRecDepth 100000 in
set_option maxHeartbeats 1000000 in
theorem own_F (k n : Int) (s : ByteArray) (ks : List Tm) (v : Value) (S : Nat → Prop) (w : World) (ht : Tm.at S w (.mk k n s ks) v) (k1 : k ≠ 1) (k2 : k ≠ 2) (k3 : k ≠ 3) :
    Calls Try.prog 47 #[v] w fun e w' => e = .returned (.bool (ownF k n s ks.length)) ∧ Ext w w' := by
  have HF := Lib.hid (show ownF k n s ks.length = false by simp [ownF, k1, k2, k3])
  obtain ⟨hs1, sv, rfl, a, cap, rfl, h1, h2, h3, h4⟩ := ht
  clear h4
  have q1 : (k == 1) = false := by simp [k1]
  have q2 : (k == 2) = false := by simp [k2]
  have q3 : (k == 3) = false := by simp [k3]
  clear k1 k2 k3
  go_enter Try.func47, Try.ntmps47
  go_wp2_with fail
  go_ret
  exact ⟨retB HF.out.symm, Ext.alloc _ _⟩
theorem specl1Own (t : Tm) (v : Value) (S : Nat → Prop) (w : World) (ht : Tm.at S w t v) :
    Calls Try.prog 47 #[v] w fun e w' => e = .returned (.bool (ownF t.kind t.n t.name t.kids.length)) ∧ Ext w w' := by
  obtain ⟨k, n, s, ks⟩ := t
  simp only [Tm.kind, Tm.n, Tm.name, Tm.kids]
  by_cases k1 : k = 1
  · subst k1
    by_cases a1 : 0 ≤ n
    · by_cases a2 : n ≤ 25
      · by_cases a3 : s.toList = []
        · by_cases a4 : ks.length = 0
          · exact own_1e n s ks v S w ht a1 a2 a3 a4
          · exact own_1d n s ks v S w ht a1 a2 a3 a4
        · exact own_1c n s ks v S w ht a1 a2 a3
      · exact own_1b n s ks v S w ht a1 a2
    · exact own_1a n s ks v S w ht a1
  by_cases k2 : k = 2
  · subst k2
    by_cases a1 : -999 ≤ n
    · by_cases a2 : n ≤ 999
      · by_cases a3 : s.toList = []
        · by_cases a4 : ks.length = 0
          · exact own_2e n s ks v S w ht a1 a2 a3 a4
          · exact own_2d n s ks v S w ht a1 a2 a3 a4
        · exact own_2c n s ks v S w ht a1 a2 a3
      · exact own_2b n s ks v S w ht a1 a2
    · exact own_2a n s ks v S w ht a1
  by_cases k3 : k = 3
  · subst k3
    by_cases hn : n = 0
    · cases hv : nameF s
      · exact own_3b n s ks v S w ht hn hv
      · by_cases hl : ks.length ≤ 4
        · exact own_3d n s ks v S w ht hn hv hl
        · exact own_3c n s ks v S w ht hn hv hl
    · exact own_3a n s ks v S w ht hn
  · exact own_F k n s ks v S w ht k1 k2 k3
mutual
def shapeF : Tm → Nat → Bool
  | .mk k n s ks, d => decide (1 ≤ d) && ownF k n s ks.length && shapeL ks (d - 1)
def shapeL : List Tm → Nat → Bool
  | [], _ => true
  | t :: ts, d => shapeF t d && shapeL ts d
end
theorem shapeL_no : ∀ {ts : List Tm} {j d : Nat} {t : Tm}, ts[j]? = some t → shapeF t d = false → shapeL ts d = false
  | [], j, d, t, h, _ => by simp at h
  | t0 :: ts, 0, d, t, h, hs => by simp at h; subst h; simp [shapeL, hs]
  | t0 :: ts, j + 1, d, t, h, hs => by simp [shapeL, shapeL_no (ts := ts) (by simpa using h) hs]
theorem shapeL_take : ∀ {ts : List Tm} {j d : Nat} {t : Tm}, ts[j]? = some t → shapeL (ts.take j) d = true → shapeF t d = true → shapeL (ts.take (j + 1)) d = true
  | [], j, d, t, h, _, _ => by simp at h
  | t0 :: ts, 0, d, t, h, _, hs => by simp at h; subst h; simp [shapeL, hs]
  | t0 :: ts, j + 1, d, t, h, h1, hs => by
    simp only [List.take_succ_cons, shapeL, Bool.and_eq_true] at h1 ⊢
    exact ⟨h1.1, shapeL_take (by simpa using h) h1.2 hs⟩
def ShapeC (t : Tm) : Prop := ∀ (d : Nat) (v : Value) (S : Nat → Prop) (w : World), d ≤ 30 → Tm.at S w t v →
  Calls Try.prog 34 #[v, .int .i64 d] w fun e w' => e = .returned (.bool (shapeF t d)) ∧ Ext w w'
set_option maxHeartbeats 2000000 in
theorem specl1Shape : ∀ (m : Nat) (t : Tm), Tm.sz t ≤ m → ShapeC t := by
  intro m
  induction m with
  | zero => intro t hm; have := Tm.sz_pos t; omega
  | succ m ih =>
    intro t hm d v S w hd ht
    have IH := Lib.hid (show ∀ (j : Nat) (u : Tm), t.kids[j]? = some u → ShapeC u from fun j u h => ih u (by
      obtain ⟨k, n, s, ks⟩ := t
      have := kid_lt (k := k) (n := n) (s := s) (ks := ks) h; omega))
    clear ih hm
    have HO := Lib.hid (fun w' (e' : Ext w w') => specl1Own t v S w' (Tm.at_ext e' ht))
    have hq := Lib.hid (show shapeF t d = (decide (1 ≤ d) && ownF t.kind t.n t.name t.kids.length && shapeL t.kids (d - 1)) by cases t; simp only [shapeF, Tm.kind, Tm.n, Tm.name, Tm.kids])
    obtain ⟨hs1, sv, rfl, a, cap, rfl, h1, h2, h3, h4⟩ := Tm.at_iff.1 ht
    have H4 := Lib.hid h4
    clear h4 ht
    by_cases h0 : 1 ≤ d
    · cases ho : ownF t.kind t.n t.name t.kids.length
      · rw [ho] at HO
        have hf := Lib.hid (show shapeF t d = false by rw [hq.out, ho]; simp)
        clear ho
        go_enter Try.func34, Try.ntmps34
        go_wp2_with fail
        refine (HO.out _ (Ext.alloc _ _)).mono ?_
        rintro e w1 ⟨rfl, e1⟩
        go_wp2_with fail
        go_ret
        exact ⟨retB hf.out.symm, (Ext.alloc _ _).trans e1⟩
      · rw [ho] at HO
        have hq2 := Lib.hid (show shapeF t d = shapeL t.kids (d - 1) by rw [hq.out, ho]; simp [h0])
        clear ho
        go_enter Try.func34, Try.ntmps34
        go_wp2_with fail
        refine (HO.out _ (Ext.alloc _ _)).mono ?_
        rintro e w1 ⟨rfl, e1⟩
        have t3 := e1.cell (a := ⟨w.heap.size, 3, none⟩) (v := .slice a t.kids.length cap) (by go_simp)
        have E1 := Lib.hid ((Ext.alloc _ _).trans e1)
        clear e1
        go_wp2_with fail
        go_loopw [5] (fun i wr => ∃ k : Nat, k ≤ t.kids.length ∧ i = .int .i64 k ∧ Hid (shapeL (t.kids.take k) (d - 1) = true) ∧ Hid (Ext w wr) ∧ wr.cell? ⟨w.heap.size, 3, none⟩ = some (.slice a t.kids.length cap)) (fun i _ => t.kids.length - (intOf i).toNat)
        case atStart => exact ⟨0, Nat.zero_le _, rfl, by simp [shapeL, Hid], E1, t3⟩
        case round =>
          obtain ⟨k, hk, rfl, HS, HE, hb1⟩ := hrel
          by_cases hlt : k < t.kids.length
          · obtain ⟨tk, htk⟩ := getk hlt
            obtain ⟨b, off, ak, ck, rfl, hSb, c1, c2, c3, c4, hat⟩ := tget H4.out htk
            have HC := Lib.hid (fun w' (e' : Ext w w') => IH.out k tk htk (d - 1) _ S w' (by omega) (Tm.at_ext e' hat))
            have c1 := HE.out.cell c1
            have c2 := HE.out.cell c2
            have c3 := HE.out.cell c3
            have c4 := HE.out.cell c4
            have hcast : ((d - 1 : Nat) : Int) = (d : Int) - 1 := by omega
            rw [hcast] at HC
            clear hcast
            cases hsm : shapeF tk (d - 1)
            · rw [hsm] at HC
              have hf := Lib.hid (shapeL_no htk hsm)
              clear hsm htk hat hSb
              go_wp2_with fail
              refine (HC.out _ HE.out).mono ?_
              rintro e w2 ⟨rfl, e2⟩
              go_wp2_with fail
              go_ret
              exact ⟨retB (by rw [hq2.out, hf.out]), HE.out.trans e2⟩
            · rw [hsm] at HC
              have hf := Lib.hid (shapeL_take htk HS.out hsm)
              clear hsm htk hat hSb
              go_wp2_with fail
              refine (HC.out _ HE.out).mono ?_
              rintro e w2 ⟨rfl, e2⟩
              go_wp2_with fail
              go_roundw
              case rel => exact ⟨k + 1, by omega, by go_num, hf, HE.out.trans e2, e2.cell hb1⟩
              case measure => simp [intOf]; omega
          · have hf := Lib.hid (show shapeL t.kids (d - 1) = true by have := HS.out; rwa [List.take_of_length_le (by omega)] at this)
            go_wp2_with fail
            go_ret
            exact ⟨retB (by rw [hq2.out, hf.out]), HE.out⟩
    · have hf := Lib.hid (show shapeF t d = false by rw [hq.out]; simp [h0])
      go_enter Try.func34, Try.ntmps34
      go_wp2_with fail
      go_ret
      exact ⟨retB hf.out.symm, Ext.alloc _ _⟩
mutual
def cntF : Tm → Int → Int
  | .mk _ _ _ ks, most => cntL ks most 1
def cntL : List Tm → Int → Int → Int
  | [], _, n => n
  | t :: ts, most, n => if n ≤ most then cntL ts most (n + cntF t (most - n)) else n
end
mutual
theorem cntF_spec : ∀ (t : Tm) (m : Int), 0 ≤ m → ((Tm.sz t : Int) ≤ m → cntF t m = Tm.sz t) ∧ (m < (Tm.sz t : Int) → m < cntF t m ∧ cntF t m ≤ m + 1)
  | .mk k n s ks, m, hm => by
    have h := cntL_spec ks m 1 hm (by omega) (by omega)
    have e : (Tm.sz (.mk k n s ks) : Int) = 1 + (Tm.szL ks : Int) := by simp only [Tm.sz]; omega
    rw [e]
    simp only [cntF]
    exact h
theorem cntL_spec : ∀ (ts : List Tm) (m n : Int), 0 ≤ m → 1 ≤ n → n ≤ m + 1 → (n + (Tm.szL ts : Int) ≤ m → cntL ts m n = n + Tm.szL ts) ∧ (m < n + (Tm.szL ts : Int) → m < cntL ts m n ∧ cntL ts m n ≤ m + 1)
  | [], m, n, hm, h1, h2 => by
    simp only [Tm.szL, cntL]
    omega
  | t :: ts, m, n, hm, h1, h2 => by
    have e : (Tm.szL (t :: ts) : Int) = (Tm.sz t : Int) + (Tm.szL ts : Int) := by simp only [Tm.szL]; omega
    rw [e]
    simp only [cntL]
    by_cases hn : n ≤ m
    · rw [if_pos hn]
      have hf := cntF_spec t (m - n) (by omega)
      have hp := Tm.sz_pos t
      by_cases hs : (Tm.sz t : Int) ≤ m - n
      · have h1' := hf.1 hs
        rw [h1']
        have hl := cntL_spec ts m (n + Tm.sz t) hm (by omega) (by omega)
        omega
      · have h2' := hf.2 (by omega)
        have hl := cntL_spec ts m (n + cntF t (m - n)) hm (by omega) (by omega)
        omega
    · rw [if_neg hn]
      omega
end
def CountC (t : Tm) : Prop := ∀ (most : Int) (v : Value) (S : Nat → Prop) (w : World), 0 ≤ most → most ≤ 1048576 → Tm.at S w t v →
  Calls Try.prog 35 #[v, .int .i64 most] w fun e w' => e = .returned (.int .i64 (cntF t most)) ∧ Ext w w'
theorem cntF_le {t : Tm} {m : Int} (hm : 0 ≤ m) : 1 ≤ cntF t m ∧ cntF t m ≤ m + 1 := by
  have h := cntF_spec t m hm
  have := Tm.sz_pos t
  omega
theorem cntL_step {ts : List Tm} {k : Nat} {t : Tm} {m n : Int} (h : ts[k]? = some t) (hn : n ≤ m) : cntL (ts.drop k) m n = cntL (ts.drop (k + 1)) m (n + cntF t (m - n)) := by
  obtain ⟨hk, rfl⟩ := List.getElem?_eq_some_iff.1 h
  rw [List.drop_eq_getElem_cons hk]
  simp only [cntL]
  rw [if_pos hn]
theorem cntL_stop {ts : List Tm} {k : Nat} {m n : Int} (hn : ¬ n ≤ m) : cntL (ts.drop k) m n = n := by
  cases h : ts.drop k with
  | nil => rfl
  | cons t r => simp only [cntL]; rw [if_neg hn]
set_option maxHeartbeats 2000000 in
theorem specl1Count : ∀ (m : Nat) (t : Tm), Tm.sz t ≤ m → CountC t := by
  intro m
  induction m with
  | zero => intro t hm; have := Tm.sz_pos t; omega
  | succ m ih =>
    intro t hm most v S w hmo hmo2 ht
    have IH := Lib.hid (show ∀ (j : Nat) (u : Tm), t.kids[j]? = some u → CountC u from fun j u h => ih u (by
      obtain ⟨k, n, s, ks⟩ := t
      have := kid_lt (k := k) (n := n) (s := s) (ks := ks) h; omega))
    clear ih hm
    have hq := Lib.hid (show cntF t most = cntL t.kids most 1 by cases t; rfl)
    obtain ⟨hs1, sv, rfl, a, cap, rfl, h1, h2, h3, h4⟩ := Tm.at_iff.1 ht
    have H4 := Lib.hid h4
    clear h4 ht
    go_enter Try.func35, Try.ntmps35
    go_wp2_with fail
    go_loopw [5, 6] (fun q i wr => ∃ (k : Nat) (n : Int), k ≤ t.kids.length ∧ i = .int .i64 k ∧ q = .int .i64 n ∧ 1 ≤ n ∧ n ≤ most + 1 ∧ Hid (cntL (t.kids.drop k) most n = cntF t most) ∧ Hid (Ext w wr) ∧ wr.cell? ⟨w.heap.size, 3, none⟩ = some (.slice a t.kids.length cap)) (fun _ i _ => t.kids.length - (intOf i).toNat)
    case atStart => exact ⟨0, 1, Nat.zero_le _, rfl, rfl, by omega, by omega, hq.out.symm, Ext.alloc _ _, by go_simp⟩
    case round =>
      obtain ⟨k, n, hk, rfl, rfl, hn1, hn2, HS, HE, hb1⟩ := hrel
      by_cases hlt : k < t.kids.length
      · by_cases hle : n ≤ most
        · obtain ⟨tk, htk⟩ := getk hlt
          obtain ⟨b, off, ak, ck, rfl, hSb, c1, c2, c3, c4, hat⟩ := tget H4.out htk
          have HC := Lib.hid (fun w' (e' : Ext w w') => IH.out k tk htk (most - n) _ S w' (by omega) (by omega) (Tm.at_ext e' hat))
          have c1 := HE.out.cell c1
          have c2 := HE.out.cell c2
          have c3 := HE.out.cell c3
          have c4 := HE.out.cell c4
          have HF := Lib.hid ((cntL_step htk hle).symm.trans HS.out)
          obtain ⟨b1, b2⟩ := cntF_le (t := tk) (m := most - n) (by omega)
          generalize cntF tk (most - n) = x at HC HF b1 b2
          clear htk hat hSb
          go_wp2_with fail
          refine (HC.out _ HE.out).mono ?_
          rintro e w2 ⟨rfl, e2⟩
          go_wp2_with fail
          go_roundw
          case rel => exact ⟨k + 1, n + x, by omega, by go_num, rfl, by omega, by omega, HF, HE.out.trans e2, e2.cell hb1⟩
          case measure => simp [intOf]; omega
        · have hf := Lib.hid (show cntF t most = n by rw [← HS.out]; exact cntL_stop hle)
          go_wp2_with fail
          go_ret
          exact ⟨retI hf.out.symm, HE.out⟩
      · have hf := Lib.hid (show cntF t most = n by rw [← HS.out, List.drop_of_length_le (by omega)]; rfl)
        go_wp2_with fail
        go_ret
        exact ⟨retI hf.out.symm, HE.out⟩
mutual
theorem scan_eq : ∀ (t : Tm) (deep c : Nat), c ≤ 120 → deep ≤ 31 → (shapeF t (31 - deep) = true ∧ c + Tm.sz t ≤ 120 → scanF t deep c = some (c + Tm.sz t)) ∧ (¬ (shapeF t (31 - deep) = true ∧ c + Tm.sz t ≤ 120) → scanF t deep c = none)
  | .mk k n s ks, deep, c, hc, hd => by
    have hz : Tm.sz (.mk k n s ks) = 1 + Tm.szL ks := by simp only [Tm.sz]
    have hl0 : ks.length = 0 → Tm.szL ks = 0 := fun h => by rw [List.eq_nil_of_length_eq_zero h]; rfl
    have hs0 : ks.length = 0 → ∀ d, shapeL ks d = true := fun h d => by rw [List.eq_nil_of_length_eq_zero h]; rfl
    have hsh : shapeF (.mk k n s ks) (31 - deep) = true ↔ (1 ≤ 31 - deep ∧ ownF k n s ks.length = true) ∧ shapeL ks (31 - deep - 1) = true := by
      simp only [shapeF, Bool.and_eq_true, decide_eq_true_eq]
    rw [hsh, hz]
    by_cases ha : 120 < c + 1 ∨ 30 < deep
    · have hn : scanF (.mk k n s ks) deep c = none := by simp only [scanF]; rw [if_pos ha]
      rw [hn]
      exact ⟨fun h => by omega, fun _ => rfl⟩
    · have hd1 : 1 ≤ 31 - deep := by omega
      have hleaf : ks.length = 0 → ownF k n s ks.length = true → scanF (.mk k n s ks) deep c = some (c + 1) → ((((1 ≤ 31 - deep ∧ ownF k n s ks.length = true) ∧ shapeL ks (31 - deep - 1) = true) ∧ c + (1 + Tm.szL ks) ≤ 120 → scanF (.mk k n s ks) deep c = some (c + (1 + Tm.szL ks))) ∧
          (¬ (((1 ≤ 31 - deep ∧ ownF k n s ks.length = true) ∧ shapeL ks (31 - deep - 1) = true) ∧ c + (1 + Tm.szL ks) ≤ 120) → scanF (.mk k n s ks) deep c = none)) := fun h1 h2 h3 => by
        rw [h3, hl0 h1, hs0 h1, h2]
        exact ⟨fun _ => rfl, fun h => absurd ⟨⟨⟨hd1, rfl⟩, rfl⟩, by omega⟩ h⟩
      have hbad : ownF k n s ks.length = false → scanF (.mk k n s ks) deep c = none → ((((1 ≤ 31 - deep ∧ ownF k n s ks.length = true) ∧ shapeL ks (31 - deep - 1) = true) ∧ c + (1 + Tm.szL ks) ≤ 120 → scanF (.mk k n s ks) deep c = some (c + (1 + Tm.szL ks))) ∧
          (¬ (((1 ≤ 31 - deep ∧ ownF k n s ks.length = true) ∧ shapeL ks (31 - deep - 1) = true) ∧ c + (1 + Tm.szL ks) ≤ 120) → scanF (.mk k n s ks) deep c = none)) := fun h1 h2 => by
        rw [h1, h2]
        exact ⟨fun h => by simp at h, fun _ => rfl⟩
      by_cases k1 : k = 1
      · have ho : ownF k n s ks.length = (decide (0 ≤ n) && decide (n ≤ 25) && (s.toList == []) && decide (ks.length = 0)) := by rw [ownF, if_pos k1]
        have hF : scanF (.mk k n s ks) deep c = if (decide (0 ≤ n) && decide (n ≤ 25) && (s.toList == []) && decide (ks.length = 0)) = true then some (c + 1) else none := by simp only [scanF]; rw [if_neg ha, if_pos k1]
        cases hv : (decide (0 ≤ n) && decide (n ≤ 25) && (s.toList == []) && decide (ks.length = 0))
        · exact hbad (by rw [ho, hv]) (by rw [hF, hv]; rfl)
        · exact hleaf (by simp only [Bool.and_eq_true, decide_eq_true_eq] at hv; exact hv.2) (by rw [ho, hv]) (by rw [hF, hv]; rfl)
      by_cases k2 : k = 2
      · have ho : ownF k n s ks.length = (decide (-999 ≤ n) && decide (n ≤ 999) && (s.toList == []) && decide (ks.length = 0)) := by rw [ownF, if_neg k1, if_pos k2]
        have hF : scanF (.mk k n s ks) deep c = if (decide (-999 ≤ n) && decide (n ≤ 999) && (s.toList == []) && decide (ks.length = 0)) = true then some (c + 1) else none := by simp only [scanF]; rw [if_neg ha, if_neg k1, if_pos k2]
        cases hv : (decide (-999 ≤ n) && decide (n ≤ 999) && (s.toList == []) && decide (ks.length = 0))
        · exact hbad (by rw [ho, hv]) (by rw [hF, hv]; rfl)
        · exact hleaf (by simp only [Bool.and_eq_true, decide_eq_true_eq] at hv; exact hv.2) (by rw [ho, hv]) (by rw [hF, hv]; rfl)
      by_cases k3 : k = 3
      · have ho : ownF k n s ks.length = (decide (n = 0) && nameF s && decide (ks.length ≤ 4)) := by rw [ownF, if_neg k1, if_neg k2, if_pos k3]
        have hF : scanF (.mk k n s ks) deep c = if n ≠ 0 ∨ nameF s = false ∨ 4 < ks.length then none else scanL ks (deep + 1) (c + 1) := by simp only [scanF]; rw [if_neg ha, if_neg k1, if_neg k2, if_pos k3]
        by_cases hv : n ≠ 0 ∨ nameF s = false ∨ 4 < ks.length
        · refine hbad ?_ (by rw [hF, if_pos hv])
          rw [ho]
          rcases hv with hv | hv | hv
          · simp [hv]
          · simp [hv]
          · rw [show decide (ks.length ≤ 4) = false from decide_eq_false (by omega), Bool.and_false]
        · have ho' : ownF k n s ks.length = true := by
            rw [ho]
            simp only [not_or, Decidable.not_not, Bool.not_eq_false] at hv
            simp [hv.1, hv.2.1]; omega
          have ih := scanL_eq ks (deep + 1) (c + 1) (by omega) (by omega)
          rw [hF, if_neg hv, ho']
          rw [show 31 - (deep + 1) = 31 - deep - 1 by omega, show c + 1 + Tm.szL ks = c + (1 + Tm.szL ks) by omega] at ih
          exact ⟨fun h => ih.1 ⟨h.1.2, h.2⟩, fun h => ih.2 fun h' => h ⟨⟨⟨hd1, rfl⟩, h'.1⟩, h'.2⟩⟩
      · exact hbad (by rw [ownF, if_neg k1, if_neg k2, if_neg k3]) (by simp only [scanF]; rw [if_neg ha, if_neg k1, if_neg k2, if_neg k3])
theorem scanL_eq : ∀ (ts : List Tm) (deep c : Nat), c ≤ 120 → deep ≤ 31 → (shapeL ts (31 - deep) = true ∧ c + Tm.szL ts ≤ 120 → scanL ts deep c = some (c + Tm.szL ts)) ∧ (¬ (shapeL ts (31 - deep) = true ∧ c + Tm.szL ts ≤ 120) → scanL ts deep c = none)
  | [], deep, c, hc, hd => by simp [scanL, shapeL, Tm.szL, hc]
  | t :: ts, deep, c, hc, hd => by
    simp only [scanL, shapeL, Tm.szL, Bool.and_eq_true]
    have h1 := scan_eq t deep c hc hd
    by_cases h : shapeF t (31 - deep) = true ∧ c + Tm.sz t ≤ 120
    · rw [h1.1 h]
      have h2 := scanL_eq ts deep (c + Tm.sz t) h.2 hd
      rw [show c + Tm.sz t + Tm.szL ts = c + (Tm.sz t + Tm.szL ts) by omega] at h2
      simp only [Option.bind_some]
      exact ⟨fun h' => h2.1 ⟨h'.1.2, h'.2⟩, fun h' => h2.2 fun h3 => h' ⟨⟨h.1, h3.1⟩, h3.2⟩⟩
    · rw [h1.2 h]
      exact ⟨fun h' => absurd ⟨h'.1.1, by omega⟩ h, fun _ => rfl⟩
end
theorem valid_eq (t : Tm) : validF t = (shapeF t 30 && decide (Tm.sz t ≤ 120)) := by
  have h := scan_eq t 1 0 (by omega) (by omega)
  simp only [Nat.zero_add] at h
  unfold validF
  by_cases hs : shapeF t 30 = true ∧ Tm.sz t ≤ 120
  · rw [h.1 hs, hs.1, decide_eq_true hs.2]; rfl
  · rw [h.2 hs]
    cases h1 : shapeF t 30
    · rfl
    · rw [decide_eq_false (fun h2 => hs ⟨h1, h2⟩)]; rfl
theorem cnt_valid (t : Tm) : decide (cntF t 120 ≤ 120) = decide (Tm.sz t ≤ 120) := by
  have h := cntF_spec t 120 (by omega)
  by_cases hs : Tm.sz t ≤ 120
  · rw [h.1 (by omega), decide_eq_true (show (Tm.sz t : Int) ≤ 120 by omega), decide_eq_true hs]
  · have := h.2 (by omega)
    rw [decide_eq_false (by omega), decide_eq_false hs]
set_option maxHeartbeats 1000000 in
theorem specTermValid (t : Tm) (v : Value) (S : Nat → Prop) (w : World) (ht : Tm.at S w t v) :
    Calls Try.prog 22 #[v] w fun e w' => e = .returned (.bool (validF t)) ∧ Ext w w' := by
  have HS := Lib.hid (fun w' (e' : Ext w w') => specl1Shape _ t (Nat.le_refl _) 30 v S w' (by omega) (Tm.at_ext e' ht))
  have HC := Lib.hid (fun w' (e' : Ext w w') => specl1Count _ t (Nat.le_refl _) 120 v S w' (by omega) (by omega) (Tm.at_ext e' ht))
  have HV := Lib.hid (valid_eq t)
  have HN := Lib.hid (cnt_valid t)
  obtain ⟨_, sv, rfl, a, cap, rfl, _⟩ := Tm.at_iff.1 ht
  clear ht
  cases hs : shapeF t 30
  · rw [hs] at HS
    have hf := Lib.hid (show validF t = false by rw [HV.out, hs, Bool.false_and])
    clear hs
    go_enter Try.func22, Try.ntmps22
    go_wp2_with fail
    refine (HS.out _ (Ext.alloc _ _)).mono ?_
    rintro e w1 ⟨rfl, e1⟩
    go_wp2_with fail
    go_ret
    exact ⟨retB hf.out.symm, (Ext.alloc _ _).trans e1⟩
  · rw [hs] at HS
    have hf := Lib.hid (show validF t = decide (cntF t 120 ≤ 120) by rw [HV.out, hs, Bool.true_and, HN.out])
    clear hs
    go_enter Try.func22, Try.ntmps22
    go_wp2_with fail
    refine (HS.out _ (Ext.alloc _ _)).mono ?_
    rintro e w1 ⟨rfl, e1⟩
    have c0 := e1.cell (a := ⟨w.heap.size, 0, none⟩) (v := .int .i64 t.kind) (by go_simp)
    have c1 := e1.cell (a := ⟨w.heap.size, 1, none⟩) (v := .int .i64 t.n) (by go_simp)
    have c2 := e1.cell (a := ⟨w.heap.size, 2, none⟩) (v := .string t.name) (by go_simp)
    have c3 := e1.cell (a := ⟨w.heap.size, 3, none⟩) (v := .slice a t.kids.length cap) (by go_simp)
    have E1 := Lib.hid ((Ext.alloc _ _).trans e1)
    clear e1
    go_wp2_with fail
    refine (HC.out _ E1.out).mono ?_
    rintro e w2 ⟨rfl, e2⟩
    generalize cntF t 120 = x at hf
    go_wp2_with fail
    go_ret
    exact ⟨retB hf.out.symm, E1.out.trans e2⟩
end Go.Proofs.Ytognkaebiafgbaa
