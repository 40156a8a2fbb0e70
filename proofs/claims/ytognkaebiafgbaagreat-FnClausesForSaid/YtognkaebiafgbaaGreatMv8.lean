/-
  What the program's scan and TermValid return on every term.
-/
import Derived.Test.YtognkaebiafgbaaGreatMv7
import Derived.Test.YtognkaebiafgbaaGreatMv2
namespace Go.Proofs.YtognkaebiafgbaaGreat
open Go.RowKit
set_option linter.unusedVariables false
mutual
/-- the count behind a term, if all is well -/
def scanF : Tm → Nat → Nat → Option Nat
  | .mk k n s ks, deep, c =>
    if 120 < c + 1 ∨ 30 < deep then none else
    if k = 1 then (if (decide (0 ≤ n) && decide (n ≤ 25) && (s.toList == []) && decide (ks.length = 0)) = true then some (c + 1) else none) else
    if k = 2 then (if (decide (-999 ≤ n) && decide (n ≤ 999) && (s.toList == []) && decide (ks.length = 0)) = true then some (c + 1) else none) else
    if k = 3 then (if n ≠ 0 ∨ nameF s = false ∨ 4 < ks.length then none else scanL ks (deep + 1) (c + 1)) else none
def scanL : List Tm → Nat → Nat → Option Nat
  | [], _, c => some c
  | t :: ts, deep, c => (scanF t deep c).bind fun c' => scanL ts deep c'
end
theorem scanL_snoc {deep : Nat} : ∀ {ts : List Tm} {j c : Nat} {t : Tm}, ts[j]? = some t → scanL (ts.take (j + 1)) deep c = (scanL (ts.take j) deep c).bind fun c' => scanF t deep c'
  | [], j, c, t, h => by simp at h
  | t0 :: ts, 0, c, t, h => by
    simp at h; subst h
    simp only [List.take_succ_cons, List.take_zero, scanL, Option.bind_some]
    cases scanF t0 deep c <;> rfl
  | t0 :: ts, j + 1, c, t, h => by
    simp only [List.take_succ_cons, scanL]
    cases h0 : scanF t0 deep c with
    | none => rfl
    | some c' =>
      simp only [Option.bind_some]
      exact scanL_snoc (by simpa using h)
theorem scanL_mono {deep : Nat} : ∀ (ts : List Tm) (c j : Nat), (scanL (ts.take j) deep c) = none → scanL ts deep c = none
  | [], c, j, h => by simp [scanL] at h
  | t :: ts, c, 0, h => by simp [scanL] at h
  | t :: ts, c, j + 1, h => by
    simp only [List.take_succ_cons, scanL] at h ⊢
    cases h0 : scanF t deep c with
    | none => rfl
    | some c' => rw [h0] at h; simp only [Option.bind_some] at h ⊢; exact scanL_mono ts c' j h
mutual
theorem scanF_le {deep : Nat} : ∀ (t : Tm) (deep c c' : Nat), scanF t deep c = some c' → c' ≤ 120
  | .mk k n s ks, deep, c, c', h => by
    unfold scanF at h
    split at h
    · simp at h
    · rename_i h0
      split at h
      · split at h <;> simp at h; omega
      · split at h
        · split at h <;> simp at h; omega
        · split at h
          · split at h
            · simp at h
            · exact scanL_le (deep := deep) ks _ _ _ (by omega) h
          · simp at h
theorem scanL_le {deep : Nat} : ∀ (ts : List Tm) (deep c c' : Nat), c ≤ 120 → scanL ts deep c = some c' → c' ≤ 120
  | [], deep, c, c', hc, h => by simp [scanL] at h; omega
  | t :: ts, deep, c, c', hc, h => by
    simp only [scanL] at h
    cases h0 : scanF t deep c with
    | none => rw [h0] at h; simp at h
    | some c1 => rw [h0] at h; exact scanL_le (deep := deep) ts _ _ _ (scanF_le (deep := deep) t _ _ _ h0) (by simpa using h)
end
def ScanPost (t : Tm) (deep c cb : Nat) (w : World) (e : Ending) (w' : World) : Prop :=
  ExtC cb w w' ∧ w'.frozen? ⟨cb, 0, none⟩ = false ∧ (∃ x : Int, w'.cell? ⟨cb, 0, none⟩ = some (.int .i64 x)) ∧ e = .returned (.bool (scanF t deep c).isSome) ∧ ∀ c', scanF t deep c = some c' → w'.cell? ⟨cb, 0, none⟩ = some (.int .i64 c')
def ScanC (t : Tm) : Prop := ∀ (deep c cb : Nat) (v : Value) (S : Nat → Prop) (w : World), c ≤ 120 → deep ≤ 31 → Tm.at S w t v → ¬ S cb → w.cell? ⟨cb, 0, none⟩ = some (.int .i64 c) → w.frozen? ⟨cb, 0, none⟩ = false →
  Calls Tryz.prog 43 #[v, .int .i64 deep, .pointer (some ⟨cb, 0, none⟩)] w (ScanPost t deep c cb w)
def ScanI (ts : List Tm) (v : Value) (S : Nat → Prop) (deep c cb db pb : Nat) (w0 : World) (j : Nat) (w : World) : Prop :=
  Tm.sl S w ts v ∧ ExtC cb w0 w ∧ w.cell? ⟨db, 0, none⟩ = some (.int .i64 deep) ∧ w.cell? ⟨pb, 0, none⟩ = some (.pointer (some ⟨cb, 0, none⟩)) ∧ w.frozen? ⟨cb, 0, none⟩ = false ∧
    (∃ x : Int, w.cell? ⟨cb, 0, none⟩ = some (.int .i64 x)) ∧ ∀ c', scanL (ts.take j) (deep + 1) c = some c' → w.cell? ⟨cb, 0, none⟩ = some (.int .i64 c')
def scanB (ts : List Tm) (deep c j : Nat) : Bool := !(scanL (ts.take (j + 1)) (deep + 1) c).isSome
set_option maxHeartbeats 1000000 in
theorem scan_step (ts : List Tm) (v : Value) (S : Nat → Prop) (deep c cb db pb : Nat) (w0 : World) (hS : ¬ S cb) (hdb : db ≠ cb) (hpb : pb ≠ cb) (hd : deep ≤ 30) (hc : c ≤ 120) (ih : Hid (∀ (j : Nat) (t : Tm), ts[j]? = some t → ScanC t)) :
    FuncStep 66 #[.pointer (some ⟨db, 0, none⟩), .pointer (some ⟨pb, 0, none⟩)] ts S (ScanI ts v S deep c cb db pb w0) (scanB ts deep c) := by
  intro j t vt w ht hbs hI hat
  obtain ⟨i1, i2, i3, i4, i5, i6, i7⟩ := hI
  obtain ⟨cj, hcj⟩ : ∃ cj, scanL (ts.take j) (deep + 1) c = some cj := by
    cases j with
    | zero => exact ⟨c, by simp [scanL]⟩
    | succ j =>
      have := hbs j (by omega)
      simp only [scanB, Bool.not_eq_false', Option.isSome_iff_exists] at this
      exact this
  have hcj2 : cj ≤ 120 := scanL_le (deep := deep) _ _ _ _ hc hcj
  have hcell := i7 cj hcj
  have hsn := scanL_snoc (deep := deep + 1) (c := c) ht
  rw [hcj, Option.bind_some] at hsn
  have HC := Lib.hid (fun w' (e' : Ext w w') => ih.out j t ht (deep + 1) cj cb vt S w' hcj2 (by omega) (Tm.at_ext e' hat) hS (e'.cell hcell) (e'.frozen (block_lt_of_cell hcell) i5))
  have I1 := Lib.hid i1
  have I2 := Lib.hid i2
  have I5 := Lib.hid i5
  have HSN := Lib.hid hsn
  have hlt1 := block_lt_of_cell i3
  have hlt2 := block_lt_of_cell i4
  simp only at hlt1 hlt2
  obtain ⟨_, svt, rfl, x0, y0, rfl, _⟩ := Tm.at_iff.1 hat
  clear i1 i2 i5 i6 i7 hcell hsn hat ht hbs hcj
  go_enter Tryz.func66, Tryz.ntmps66
  go_wp2_with fail
  refine (HC.out _ (Ext.alloc _ _)).mono ?_
  rintro e w1 ⟨p1, p2, p3, rfl, p5⟩
  have e1 : ExtC cb w w1 := (ExtC.of_ext (Ext.alloc _ _)).trans p1
  have q3 := e1.cell hdb i3
  have q4 := e1.cell hpb i4
  have P1 := Lib.hid e1
  have P2 := Lib.hid p2
  have P3 := Lib.hid p3
  have P5 := Lib.hid p5
  clear p1 p2 p3 p5 e1
  go_wp2_with fail
  go_ret
  refine ⟨retB (by simp only [scanB, HSN.out]; cases scanF t (deep + 1) cj <;> rfl), Tm.sl_mono (fun _ h => h) (ExtC.agree P1.out hS) I1.out, I2.out.trans P1.out, q3, q4, P2.out, P3.out, fun c' h => P5.out c' (by rw [← HSN.out]; exact h)⟩
theorem scan_no {t : Tm} {deep c cb : Nat} {w w' : World} (hF : scanF t deep c = none) (he : ExtC cb w w') (hf : w'.frozen? ⟨cb, 0, none⟩ = false) {x : Int} (hx : w'.cell? ⟨cb, 0, none⟩ = some (.int .i64 x)) :
    ScanPost t deep c cb w (.returned (.bool false)) w' := ⟨he, hf, ⟨x, hx⟩, by rw [hF]; rfl, fun c' h => by rw [hF] at h; cases h⟩
theorem scan_yes {t : Tm} {deep c c1 cb : Nat} {w w' : World} (hF : scanF t deep c = some c1) (he : ExtC cb w w') (hf : w'.frozen? ⟨cb, 0, none⟩ = false) (hx : w'.cell? ⟨cb, 0, none⟩ = some (.int .i64 c1)) :
    ScanPost t deep c cb w (.returned (.bool true)) w' := ⟨he, hf, ⟨_, hx⟩, by rw [hF]; rfl, fun c' h => by rw [hF] at h; cases h; exact hx⟩
theorem scan_base {w W : World} {cb c : Nat} (hcell : w.cell? ⟨cb, 0, none⟩ = some (.int .i64 c)) (hf : w.frozen? ⟨cb, 0, none⟩ = false) (hE : Ext (w.setCell ⟨cb, 0, none⟩ (.int .i64 (c + 1))) W) :
    ExtC cb w W ∧ W.frozen? ⟨cb, 0, none⟩ = false ∧ W.cell? ⟨cb, 0, none⟩ = some (.int .i64 ((c + 1 : Nat) : Int)) :=
  ⟨ExtC.trans (b := w.setCell ⟨cb, 0, none⟩ (.int .i64 (c + 1))) (grown_setCell _ _ _ _) (.of_ext hE), hE.frozen (by simpa using block_lt_of_cell hcell) (by rw [World.frozen?_setCell]; exact hf), hE.cell (cell_same hcell)⟩
theorem EXT3 (w : World) (a b c : Obj) : Ext w (((w.alloc a).alloc b).alloc c) := ((Ext.alloc _ _).trans (Ext.alloc _ _)).trans (Ext.alloc _ _)
set_option maxRecDepth 100000 in
set_option maxHeartbeats 4000000 in
theorem scan_A (k n : Int) (s : ByteArray) (ks : List Tm) (deep c cb : Nat) (v : Value) (S : Nat → Prop) (w : World) (hc : c ≤ 120) (hd : deep ≤ 31) (hat : Tm.at S w (.mk k n s ks) v) (hS : ¬ S cb)
    (hcell : w.cell? ⟨cb, 0, none⟩ = some (.int .i64 c)) (hfr : w.frozen? ⟨cb, 0, none⟩ = false)
    (ha : 120 < c + 1) :
    Calls Tryz.prog 43 #[v, .int .i64 deep, .pointer (some ⟨cb, 0, none⟩)] w (ScanPost (.mk k n s ks) deep c cb w) := by
  obtain ⟨hs1, sv, rfl, hk⟩ := hat
  have HK := Lib.hid hk
  have hcb := block_lt_of_cell hcell
  simp only at hcb
  have hcb1 : cb < w.heap.size + 1 := by omega
  have hcb2 : cb < w.heap.size + 1 + 1 := by omega
  have HBASE := Lib.hid (fun (W : World) hE => scan_base (W := W) hcell hfr hE)
  obtain ⟨a, cap, rfl, h1, h2, h3, h4⟩ := hk
  clear h4
  have hF := Lib.hid (show scanF (.mk k n s ks) deep c = none by simp only [scanF]; rw [if_pos (.inl ha)])
  go_enter Tryz.func43, Tryz.ntmps43
  go_wp2_with fail
  go_ret
  obtain ⟨b1, b2, b3⟩ := HBASE.out _ (EXT3 _ _ _ _)
  exact scan_no hF.out b1 b2 b3
set_option maxRecDepth 100000 in
set_option maxHeartbeats 4000000 in
theorem scan_B (k n : Int) (s : ByteArray) (ks : List Tm) (deep c cb : Nat) (v : Value) (S : Nat → Prop) (w : World) (hc : c ≤ 120) (hd : deep ≤ 31) (hat : Tm.at S w (.mk k n s ks) v) (hS : ¬ S cb)
    (hcell : w.cell? ⟨cb, 0, none⟩ = some (.int .i64 c)) (hfr : w.frozen? ⟨cb, 0, none⟩ = false)
    (ha : c + 1 ≤ 120) (hb : 30 < deep) :
    Calls Tryz.prog 43 #[v, .int .i64 deep, .pointer (some ⟨cb, 0, none⟩)] w (ScanPost (.mk k n s ks) deep c cb w) := by
  obtain ⟨hs1, sv, rfl, hk⟩ := hat
  have HK := Lib.hid hk
  have hcb := block_lt_of_cell hcell
  simp only at hcb
  have hcb1 : cb < w.heap.size + 1 := by omega
  have hcb2 : cb < w.heap.size + 1 + 1 := by omega
  have HBASE := Lib.hid (fun (W : World) hE => scan_base (W := W) hcell hfr hE)
  obtain ⟨a, cap, rfl, h1, h2, h3, h4⟩ := hk
  clear h4
  have hF := Lib.hid (show scanF (.mk k n s ks) deep c = none by simp only [scanF]; rw [if_pos (.inr hb)])
  go_enter Tryz.func43, Tryz.ntmps43
  go_wp2_with fail
  go_ret
  obtain ⟨b1, b2, b3⟩ := HBASE.out _ (EXT3 _ _ _ _)
  exact scan_no hF.out b1 b2 b3
set_option maxRecDepth 100000 in
set_option maxHeartbeats 4000000 in
theorem scan_F (k n : Int) (s : ByteArray) (ks : List Tm) (deep c cb : Nat) (v : Value) (S : Nat → Prop) (w : World) (hc : c ≤ 120) (hd : deep ≤ 31) (hat : Tm.at S w (.mk k n s ks) v) (hS : ¬ S cb)
    (hcell : w.cell? ⟨cb, 0, none⟩ = some (.int .i64 c)) (hfr : w.frozen? ⟨cb, 0, none⟩ = false)
    (ha : c + 1 ≤ 120) (hb : deep ≤ 30) (k1 : k ≠ 1) (k2 : k ≠ 2) (k3 : k ≠ 3) :
    Calls Tryz.prog 43 #[v, .int .i64 deep, .pointer (some ⟨cb, 0, none⟩)] w (ScanPost (.mk k n s ks) deep c cb w) := by
  obtain ⟨hs1, sv, rfl, hk⟩ := hat
  have HK := Lib.hid hk
  have hcb := block_lt_of_cell hcell
  simp only at hcb
  have hcb1 : cb < w.heap.size + 1 := by omega
  have hcb2 : cb < w.heap.size + 1 + 1 := by omega
  have HBASE := Lib.hid (fun (W : World) hE => scan_base (W := W) hcell hfr hE)
  obtain ⟨a, cap, rfl, h1, h2, h3, h4⟩ := hk
  clear h4
  have hF := Lib.hid (show scanF (.mk k n s ks) deep c = none by simp only [scanF]; rw [if_neg (by omega), if_neg k1, if_neg k2, if_neg k3])
  have q1 : (k == 1) = false := by simp [k1]
  have q2 : (k == 2) = false := by simp [k2]
  have q3 : (k == 3) = false := by simp [k3]
  clear k1 k2 k3
  go_enter Tryz.func43, Tryz.ntmps43
  go_wp2_with fail
  go_ret
  obtain ⟨b1, b2, b3⟩ := HBASE.out _ (EXT3 _ _ _ _)
  exact scan_no hF.out b1 b2 b3
set_option maxRecDepth 100000 in
set_option maxHeartbeats 4000000 in
theorem scan_1a (n : Int) (s : ByteArray) (ks : List Tm) (deep c cb : Nat) (v : Value) (S : Nat → Prop) (w : World) (hc : c ≤ 120) (hd : deep ≤ 31) (hat : Tm.at S w (.mk 1 n s ks) v) (hS : ¬ S cb)
    (hcell : w.cell? ⟨cb, 0, none⟩ = some (.int .i64 c)) (hfr : w.frozen? ⟨cb, 0, none⟩ = false)
    (ha : c + 1 ≤ 120) (hb : deep ≤ 30) (hw : (decide (0 ≤ n) && decide (n ≤ 25)) = false) :
    Calls Tryz.prog 43 #[v, .int .i64 deep, .pointer (some ⟨cb, 0, none⟩)] w (ScanPost (.mk 1 n s ks) deep c cb w) := by
  obtain ⟨hs1, sv, rfl, hk⟩ := hat
  have HK := Lib.hid hk
  have hcb := block_lt_of_cell hcell
  simp only at hcb
  have hcb1 : cb < w.heap.size + 1 := by omega
  have hcb2 : cb < w.heap.size + 1 + 1 := by omega
  have HBASE := Lib.hid (fun (W : World) hE => scan_base (W := W) hcell hfr hE)
  obtain ⟨a, cap, rfl, h1, h2, h3, h4⟩ := hk
  clear h4
  have hF := Lib.hid (show scanF (.mk 1 n s ks) deep c = none by simp only [scanF]; rw [if_neg (by omega)]; simp only [hw, Bool.false_and]; simp)
  have HW := Lib.hid hw
  clear hw
  go_enter Tryz.func43, Tryz.ntmps43
  go_wp2_with (go_at_call 63; refine (implwithin _ _ _ _).mono ?_; rw [HW.out]; rintro e w' ⟨rfl, rfl⟩)
  go_ret
  obtain ⟨b1, b2, b3⟩ := HBASE.out _ (EXT3 _ _ _ _)
  exact scan_no hF.out b1 b2 b3
set_option maxRecDepth 100000 in
set_option maxHeartbeats 4000000 in
theorem scan_1b (n : Int) (s : ByteArray) (ks : List Tm) (deep c cb : Nat) (v : Value) (S : Nat → Prop) (w : World) (hc : c ≤ 120) (hd : deep ≤ 31) (hat : Tm.at S w (.mk 1 n s ks) v) (hS : ¬ S cb)
    (hcell : w.cell? ⟨cb, 0, none⟩ = some (.int .i64 c)) (hfr : w.frozen? ⟨cb, 0, none⟩ = false)
    (ha : c + 1 ≤ 120) (hb : deep ≤ 30) (hw : (decide (0 ≤ n) && decide (n ≤ 25)) = true) (hn : s.toList ≠ []) :
    Calls Tryz.prog 43 #[v, .int .i64 deep, .pointer (some ⟨cb, 0, none⟩)] w (ScanPost (.mk 1 n s ks) deep c cb w) := by
  obtain ⟨hs1, sv, rfl, hk⟩ := hat
  have HK := Lib.hid hk
  have hcb := block_lt_of_cell hcell
  simp only at hcb
  have hcb1 : cb < w.heap.size + 1 := by omega
  have hcb2 : cb < w.heap.size + 1 + 1 := by omega
  have HBASE := Lib.hid (fun (W : World) hE => scan_base (W := W) hcell hfr hE)
  obtain ⟨a, cap, rfl, h1, h2, h3, h4⟩ := hk
  clear h4
  have hF := Lib.hid (show scanF (.mk 1 n s ks) deep c = none by simp only [scanF]; rw [if_neg (by omega)]; simp only [hw, Bool.true_and]; simp [hn])
  have hn1 : s.toList.isEmpty = false := by simp [hn]
  have HW := Lib.hid hw
  clear hw hn
  go_enter Tryz.func43, Tryz.ntmps43
  go_wp2_with (go_at_call 63; refine (implwithin _ _ _ _).mono ?_; rw [HW.out]; rintro e w' ⟨rfl, rfl⟩)
  go_ret
  obtain ⟨b1, b2, b3⟩ := HBASE.out _ (EXT3 _ _ _ _)
  exact scan_no hF.out b1 b2 b3
set_option maxRecDepth 100000 in
set_option maxHeartbeats 4000000 in
theorem scan_1c (n : Int) (s : ByteArray) (ks : List Tm) (deep c cb : Nat) (v : Value) (S : Nat → Prop) (w : World) (hc : c ≤ 120) (hd : deep ≤ 31) (hat : Tm.at S w (.mk 1 n s ks) v) (hS : ¬ S cb)
    (hcell : w.cell? ⟨cb, 0, none⟩ = some (.int .i64 c)) (hfr : w.frozen? ⟨cb, 0, none⟩ = false)
    (ha : c + 1 ≤ 120) (hb : deep ≤ 30) (hw : (decide (0 ≤ n) && decide (n ≤ 25)) = true) (hn : s.toList = []) (hl : ks.length ≠ 0) :
    Calls Tryz.prog 43 #[v, .int .i64 deep, .pointer (some ⟨cb, 0, none⟩)] w (ScanPost (.mk 1 n s ks) deep c cb w) := by
  obtain ⟨hs1, sv, rfl, hk⟩ := hat
  have HK := Lib.hid hk
  have hcb := block_lt_of_cell hcell
  simp only at hcb
  have hcb1 : cb < w.heap.size + 1 := by omega
  have hcb2 : cb < w.heap.size + 1 + 1 := by omega
  have HBASE := Lib.hid (fun (W : World) hE => scan_base (W := W) hcell hfr hE)
  obtain ⟨a, cap, rfl, h1, h2, h3, h4⟩ := hk
  clear h4
  have hF := Lib.hid (show scanF (.mk 1 n s ks) deep c = none by simp only [scanF]; rw [if_neg (by omega)]; simp only [hw, Bool.true_and]; simp [hl])
  have hl1 : ((ks.length : Int) == 0) = false := by simp [hl]
  have HW := Lib.hid hw
  clear hw
  go_enter Tryz.func43, Tryz.ntmps43
  go_wp2_with (go_at_call 63; refine (implwithin _ _ _ _).mono ?_; rw [HW.out]; rintro e w' ⟨rfl, rfl⟩)
  go_ret
  obtain ⟨b1, b2, b3⟩ := HBASE.out _ (EXT3 _ _ _ _)
  exact scan_no hF.out b1 b2 b3
set_option maxRecDepth 100000 in
set_option maxHeartbeats 4000000 in
theorem scan_1d (n : Int) (s : ByteArray) (ks : List Tm) (deep c cb : Nat) (v : Value) (S : Nat → Prop) (w : World) (hc : c ≤ 120) (hd : deep ≤ 31) (hat : Tm.at S w (.mk 1 n s ks) v) (hS : ¬ S cb)
    (hcell : w.cell? ⟨cb, 0, none⟩ = some (.int .i64 c)) (hfr : w.frozen? ⟨cb, 0, none⟩ = false)
    (ha : c + 1 ≤ 120) (hb : deep ≤ 30) (hw : (decide (0 ≤ n) && decide (n ≤ 25)) = true) (hn : s.toList = []) (hl : ks.length = 0) :
    Calls Tryz.prog 43 #[v, .int .i64 deep, .pointer (some ⟨cb, 0, none⟩)] w (ScanPost (.mk 1 n s ks) deep c cb w) := by
  obtain ⟨hs1, sv, rfl, hk⟩ := hat
  have HK := Lib.hid hk
  have hcb := block_lt_of_cell hcell
  simp only at hcb
  have hcb1 : cb < w.heap.size + 1 := by omega
  have hcb2 : cb < w.heap.size + 1 + 1 := by omega
  have HBASE := Lib.hid (fun (W : World) hE => scan_base (W := W) hcell hfr hE)
  obtain ⟨a, cap, rfl, h1, h2, h3, h4⟩ := hk
  clear h4
  have hF := Lib.hid (show scanF (.mk 1 n s ks) deep c = some (c + 1) by simp only [scanF]; rw [if_neg (by omega)]; simp only [hw, Bool.true_and]; simp [hn, hl])
  have hl1 : ((ks.length : Int) == 0) = true := by simp [hl]
  have HW := Lib.hid hw
  clear hw hl
  go_enter Tryz.func43, Tryz.ntmps43
  go_wp2_with (go_at_call 63; refine (implwithin _ _ _ _).mono ?_; rw [HW.out]; rintro e w' ⟨rfl, rfl⟩)
  go_ret
  obtain ⟨b1, b2, b3⟩ := HBASE.out _ (EXT3 _ _ _ _)
  exact scan_yes hF.out b1 b2 b3
set_option maxRecDepth 100000 in
set_option maxHeartbeats 4000000 in
theorem scan_2a (n : Int) (s : ByteArray) (ks : List Tm) (deep c cb : Nat) (v : Value) (S : Nat → Prop) (w : World) (hc : c ≤ 120) (hd : deep ≤ 31) (hat : Tm.at S w (.mk 2 n s ks) v) (hS : ¬ S cb)
    (hcell : w.cell? ⟨cb, 0, none⟩ = some (.int .i64 c)) (hfr : w.frozen? ⟨cb, 0, none⟩ = false)
    (ha : c + 1 ≤ 120) (hb : deep ≤ 30) (hw : (decide (-999 ≤ n) && decide (n ≤ 999)) = false) :
    Calls Tryz.prog 43 #[v, .int .i64 deep, .pointer (some ⟨cb, 0, none⟩)] w (ScanPost (.mk 2 n s ks) deep c cb w) := by
  obtain ⟨hs1, sv, rfl, hk⟩ := hat
  have HK := Lib.hid hk
  have hcb := block_lt_of_cell hcell
  simp only at hcb
  have hcb1 : cb < w.heap.size + 1 := by omega
  have hcb2 : cb < w.heap.size + 1 + 1 := by omega
  have HBASE := Lib.hid (fun (W : World) hE => scan_base (W := W) hcell hfr hE)
  obtain ⟨a, cap, rfl, h1, h2, h3, h4⟩ := hk
  clear h4
  have hF := Lib.hid (show scanF (.mk 2 n s ks) deep c = none by simp only [scanF]; rw [if_neg (by omega)]; simp only [hw, Bool.false_and]; simp)
  have HW := Lib.hid hw
  clear hw
  go_enter Tryz.func43, Tryz.ntmps43
  go_wp2_with (go_at_call 63; refine (implwithin _ _ _ _).mono ?_; rw [HW.out]; rintro e w' ⟨rfl, rfl⟩)
  go_ret
  obtain ⟨b1, b2, b3⟩ := HBASE.out _ (EXT3 _ _ _ _)
  exact scan_no hF.out b1 b2 b3
set_option maxRecDepth 100000 in
set_option maxHeartbeats 4000000 in
theorem scan_2b (n : Int) (s : ByteArray) (ks : List Tm) (deep c cb : Nat) (v : Value) (S : Nat → Prop) (w : World) (hc : c ≤ 120) (hd : deep ≤ 31) (hat : Tm.at S w (.mk 2 n s ks) v) (hS : ¬ S cb)
    (hcell : w.cell? ⟨cb, 0, none⟩ = some (.int .i64 c)) (hfr : w.frozen? ⟨cb, 0, none⟩ = false)
    (ha : c + 1 ≤ 120) (hb : deep ≤ 30) (hw : (decide (-999 ≤ n) && decide (n ≤ 999)) = true) (hn : s.toList ≠ []) :
    Calls Tryz.prog 43 #[v, .int .i64 deep, .pointer (some ⟨cb, 0, none⟩)] w (ScanPost (.mk 2 n s ks) deep c cb w) := by
  obtain ⟨hs1, sv, rfl, hk⟩ := hat
  have HK := Lib.hid hk
  have hcb := block_lt_of_cell hcell
  simp only at hcb
  have hcb1 : cb < w.heap.size + 1 := by omega
  have hcb2 : cb < w.heap.size + 1 + 1 := by omega
  have HBASE := Lib.hid (fun (W : World) hE => scan_base (W := W) hcell hfr hE)
  obtain ⟨a, cap, rfl, h1, h2, h3, h4⟩ := hk
  clear h4
  have hF := Lib.hid (show scanF (.mk 2 n s ks) deep c = none by simp only [scanF]; rw [if_neg (by omega)]; simp only [hw, Bool.true_and]; simp [hn])
  have hn1 : s.toList.isEmpty = false := by simp [hn]
  have HW := Lib.hid hw
  clear hw hn
  go_enter Tryz.func43, Tryz.ntmps43
  go_wp2_with (go_at_call 63; refine (implwithin _ _ _ _).mono ?_; rw [HW.out]; rintro e w' ⟨rfl, rfl⟩)
  go_ret
  obtain ⟨b1, b2, b3⟩ := HBASE.out _ (EXT3 _ _ _ _)
  exact scan_no hF.out b1 b2 b3
set_option maxRecDepth 100000 in
set_option maxHeartbeats 4000000 in
theorem scan_2c (n : Int) (s : ByteArray) (ks : List Tm) (deep c cb : Nat) (v : Value) (S : Nat → Prop) (w : World) (hc : c ≤ 120) (hd : deep ≤ 31) (hat : Tm.at S w (.mk 2 n s ks) v) (hS : ¬ S cb)
    (hcell : w.cell? ⟨cb, 0, none⟩ = some (.int .i64 c)) (hfr : w.frozen? ⟨cb, 0, none⟩ = false)
    (ha : c + 1 ≤ 120) (hb : deep ≤ 30) (hw : (decide (-999 ≤ n) && decide (n ≤ 999)) = true) (hn : s.toList = []) (hl : ks.length ≠ 0) :
    Calls Tryz.prog 43 #[v, .int .i64 deep, .pointer (some ⟨cb, 0, none⟩)] w (ScanPost (.mk 2 n s ks) deep c cb w) := by
  obtain ⟨hs1, sv, rfl, hk⟩ := hat
  have HK := Lib.hid hk
  have hcb := block_lt_of_cell hcell
  simp only at hcb
  have hcb1 : cb < w.heap.size + 1 := by omega
  have hcb2 : cb < w.heap.size + 1 + 1 := by omega
  have HBASE := Lib.hid (fun (W : World) hE => scan_base (W := W) hcell hfr hE)
  obtain ⟨a, cap, rfl, h1, h2, h3, h4⟩ := hk
  clear h4
  have hF := Lib.hid (show scanF (.mk 2 n s ks) deep c = none by simp only [scanF]; rw [if_neg (by omega)]; simp only [hw, Bool.true_and]; simp [hl])
  have hl1 : ((ks.length : Int) == 0) = false := by simp [hl]
  have HW := Lib.hid hw
  clear hw
  go_enter Tryz.func43, Tryz.ntmps43
  go_wp2_with (go_at_call 63; refine (implwithin _ _ _ _).mono ?_; rw [HW.out]; rintro e w' ⟨rfl, rfl⟩)
  go_ret
  obtain ⟨b1, b2, b3⟩ := HBASE.out _ (EXT3 _ _ _ _)
  exact scan_no hF.out b1 b2 b3
set_option maxRecDepth 100000 in
set_option maxHeartbeats 4000000 in
theorem scan_2d (n : Int) (s : ByteArray) (ks : List Tm) (deep c cb : Nat) (v : Value) (S : Nat → Prop) (w : World) (hc : c ≤ 120) (hd : deep ≤ 31) (hat : Tm.at S w (.mk 2 n s ks) v) (hS : ¬ S cb)
    (hcell : w.cell? ⟨cb, 0, none⟩ = some (.int .i64 c)) (hfr : w.frozen? ⟨cb, 0, none⟩ = false)
    (ha : c + 1 ≤ 120) (hb : deep ≤ 30) (hw : (decide (-999 ≤ n) && decide (n ≤ 999)) = true) (hn : s.toList = []) (hl : ks.length = 0) :
    Calls Tryz.prog 43 #[v, .int .i64 deep, .pointer (some ⟨cb, 0, none⟩)] w (ScanPost (.mk 2 n s ks) deep c cb w) := by
  obtain ⟨hs1, sv, rfl, hk⟩ := hat
  have HK := Lib.hid hk
  have hcb := block_lt_of_cell hcell
  simp only at hcb
  have hcb1 : cb < w.heap.size + 1 := by omega
  have hcb2 : cb < w.heap.size + 1 + 1 := by omega
  have HBASE := Lib.hid (fun (W : World) hE => scan_base (W := W) hcell hfr hE)
  obtain ⟨a, cap, rfl, h1, h2, h3, h4⟩ := hk
  clear h4
  have hF := Lib.hid (show scanF (.mk 2 n s ks) deep c = some (c + 1) by simp only [scanF]; rw [if_neg (by omega)]; simp only [hw, Bool.true_and]; simp [hn, hl])
  have hl1 : ((ks.length : Int) == 0) = true := by simp [hl]
  have HW := Lib.hid hw
  clear hw hl
  go_enter Tryz.func43, Tryz.ntmps43
  go_wp2_with (go_at_call 63; refine (implwithin _ _ _ _).mono ?_; rw [HW.out]; rintro e w' ⟨rfl, rfl⟩)
  go_ret
  obtain ⟨b1, b2, b3⟩ := HBASE.out _ (EXT3 _ _ _ _)
  exact scan_yes hF.out b1 b2 b3
set_option maxRecDepth 100000 in
set_option maxHeartbeats 4000000 in
theorem scan_3a (n : Int) (s : ByteArray) (ks : List Tm) (deep c cb : Nat) (v : Value) (S : Nat → Prop) (w : World) (hc : c ≤ 120) (hd : deep ≤ 31) (hat : Tm.at S w (.mk 3 n s ks) v) (hS : ¬ S cb)
    (hcell : w.cell? ⟨cb, 0, none⟩ = some (.int .i64 c)) (hfr : w.frozen? ⟨cb, 0, none⟩ = false)
    (ha : c + 1 ≤ 120) (hb : deep ≤ 30) (hn : n ≠ 0) :
    Calls Tryz.prog 43 #[v, .int .i64 deep, .pointer (some ⟨cb, 0, none⟩)] w (ScanPost (.mk 3 n s ks) deep c cb w) := by
  obtain ⟨hs1, sv, rfl, hk⟩ := hat
  have HK := Lib.hid hk
  have hcb := block_lt_of_cell hcell
  simp only at hcb
  have hcb1 : cb < w.heap.size + 1 := by omega
  have hcb2 : cb < w.heap.size + 1 + 1 := by omega
  have HBASE := Lib.hid (fun (W : World) hE => scan_base (W := W) hcell hfr hE)
  obtain ⟨a, cap, rfl, h1, h2, h3, h4⟩ := hk
  clear h4
  have hF := Lib.hid (show scanF (.mk 3 n s ks) deep c = none by simp only [scanF]; rw [if_neg (by omega)]; simp [hn])
  have hn1 : (n != 0) = true := by simp [hn]
  clear hn
  go_enter Tryz.func43, Tryz.ntmps43
  go_wp2_with fail
  go_ret
  obtain ⟨b1, b2, b3⟩ := HBASE.out _ (EXT3 _ _ _ _)
  exact scan_no hF.out b1 b2 b3
set_option maxRecDepth 100000 in
set_option maxHeartbeats 4000000 in
theorem scan_3b (n : Int) (s : ByteArray) (ks : List Tm) (deep c cb : Nat) (v : Value) (S : Nat → Prop) (w : World) (hc : c ≤ 120) (hd : deep ≤ 31) (hat : Tm.at S w (.mk 3 n s ks) v) (hS : ¬ S cb)
    (hcell : w.cell? ⟨cb, 0, none⟩ = some (.int .i64 c)) (hfr : w.frozen? ⟨cb, 0, none⟩ = false)
    (ha : c + 1 ≤ 120) (hb : deep ≤ 30) (hn : n = 0) (hv : nameF s = false) :
    Calls Tryz.prog 43 #[v, .int .i64 deep, .pointer (some ⟨cb, 0, none⟩)] w (ScanPost (.mk 3 n s ks) deep c cb w) := by
  obtain ⟨hs1, sv, rfl, hk⟩ := hat
  have HK := Lib.hid hk
  have hcb := block_lt_of_cell hcell
  simp only at hcb
  have hcb1 : cb < w.heap.size + 1 := by omega
  have hcb2 : cb < w.heap.size + 1 + 1 := by omega
  have HBASE := Lib.hid (fun (W : World) hE => scan_base (W := W) hcell hfr hE)
  obtain ⟨a, cap, rfl, h1, h2, h3, h4⟩ := hk
  clear h4
  have hF := Lib.hid (show scanF (.mk 3 n s ks) deep c = none by simp only [scanF]; rw [if_neg (by omega)]; simp [hv])
  have hn1 : (n != 0) = false := by simp [hn]
  have HN := Lib.hid hv
  clear hn hv
  go_enter Tryz.func43, Tryz.ntmps43
  go_wp2_with fail
  refine (implNameValid s _ hs1).mono ?_
  rw [HN.out]
  rintro e w1 ⟨rfl, e1⟩
  have E1 := Lib.hid e1
  clear e1
  go_wp2_with fail
  go_ret
  obtain ⟨b1, b2, b3⟩ := HBASE.out _ ((EXT3 _ _ _ _).trans E1.out)
  exact scan_no hF.out b1 b2 b3
set_option maxRecDepth 100000 in
set_option maxHeartbeats 4000000 in
theorem scan_3c (n : Int) (s : ByteArray) (ks : List Tm) (deep c cb : Nat) (v : Value) (S : Nat → Prop) (w : World) (hc : c ≤ 120) (hd : deep ≤ 31) (hat : Tm.at S w (.mk 3 n s ks) v) (hS : ¬ S cb)
    (hcell : w.cell? ⟨cb, 0, none⟩ = some (.int .i64 c)) (hfr : w.frozen? ⟨cb, 0, none⟩ = false)
    (ha : c + 1 ≤ 120) (hb : deep ≤ 30) (hn : n = 0) (hv : nameF s = true) (hl : 4 < ks.length) :
    Calls Tryz.prog 43 #[v, .int .i64 deep, .pointer (some ⟨cb, 0, none⟩)] w (ScanPost (.mk 3 n s ks) deep c cb w) := by
  obtain ⟨hs1, sv, rfl, hk⟩ := hat
  have HK := Lib.hid hk
  have hcb := block_lt_of_cell hcell
  simp only at hcb
  have hcb1 : cb < w.heap.size + 1 := by omega
  have hcb2 : cb < w.heap.size + 1 + 1 := by omega
  have HBASE := Lib.hid (fun (W : World) hE => scan_base (W := W) hcell hfr hE)
  obtain ⟨a, cap, rfl, h1, h2, h3, h4⟩ := hk
  clear h4
  have hF := Lib.hid (show scanF (.mk 3 n s ks) deep c = none by simp only [scanF]; rw [if_neg (by omega)]; simp [hl])
  have hn1 : (n != 0) = false := by simp [hn]
  have HN := Lib.hid hv
  clear hn hv
  go_enter Tryz.func43, Tryz.ntmps43
  go_wp2_with fail
  refine (implNameValid s _ hs1).mono ?_
  rw [HN.out]
  rintro e w1 ⟨rfl, e1⟩
  have t3 := e1.cell (a := ⟨w.heap.size, 3, none⟩) (v := .slice a ks.length cap) (by go_simp)
  have E1 := Lib.hid e1
  clear e1
  go_wp2_with fail
  go_ret
  obtain ⟨b1, b2, b3⟩ := HBASE.out _ ((EXT3 _ _ _ _).trans E1.out)
  exact scan_no hF.out b1 b2 b3
set_option maxRecDepth 100000 in
set_option maxHeartbeats 4000000 in
theorem scan_3d (n : Int) (s : ByteArray) (ks : List Tm) (deep c cb : Nat) (v : Value) (S : Nat → Prop) (w : World) (hc : c ≤ 120) (hd : deep ≤ 31) (hat : Tm.at S w (.mk 3 n s ks) v) (hS : ¬ S cb)
    (hcell : w.cell? ⟨cb, 0, none⟩ = some (.int .i64 c)) (hfr : w.frozen? ⟨cb, 0, none⟩ = false)
    (ha : c + 1 ≤ 120) (hb : deep ≤ 30) (hn : n = 0) (hv : nameF s = true) (hl : ks.length ≤ 4)
    (IH : Hid (∀ (j : Nat) (t : Tm), ks[j]? = some t → ScanC t)) :
    Calls Tryz.prog 43 #[v, .int .i64 deep, .pointer (some ⟨cb, 0, none⟩)] w (ScanPost (.mk 3 n s ks) deep c cb w) := by
  obtain ⟨hs1, sv, rfl, hk⟩ := hat
  have HK := Lib.hid hk
  have hcb := block_lt_of_cell hcell
  simp only at hcb
  have hcb1 : cb < w.heap.size + 1 := by omega
  have hcb2 : cb < w.heap.size + 1 + 1 := by omega
  have HBASE := Lib.hid (fun (W : World) hE => scan_base (W := W) hcell hfr hE)
  obtain ⟨a, cap, rfl, h1, h2, h3, h4⟩ := hk
  clear h4
  have hF := Lib.hid (show scanF (.mk 3 n s ks) deep c = scanL ks (deep + 1) (c + 1) by simp only [scanF]; rw [if_neg (by omega)]; simp [hn, hv]; intro h; omega)
  have hn1 : (n != 0) = false := by simp [hn]
  have HN := Lib.hid hv
  have HS := Lib.hid hS
  have HA := Lib.hid (show ∀ W : World, Ext (w.setCell ⟨cb, 0, none⟩ (.int .i64 (c + 1))) W → Tm.sl S W ks (.slice a ks.length cap) from fun W e => Tm.sl_ext e (Tm.sl_mono (fun _ h => h) (Agree.setCell hS) HK.out))
  clear hn hv hS
  go_enter Tryz.func43, Tryz.ntmps43
  go_wp2_with fail
  refine (implNameValid s _ hs1).mono ?_
  rw [HN.out]
  rintro e w1 ⟨rfl, e1⟩
  have t3 := e1.cell (a := ⟨w.heap.size, 3, none⟩) (v := .slice a ks.length cap) (by go_simp)
  have d0 := e1.cell (a := ⟨w.heap.size + 1, 0, none⟩) (v := .int .i64 deep) (by go_simp)
  have d1 := e1.cell (a := ⟨w.heap.size + 1 + 1, 0, none⟩) (v := .pointer (some ⟨cb, 0, none⟩)) (by go_simp)
  have E1 := Lib.hid ((EXT3 _ _ _ _).trans e1)
  clear e1
  obtain ⟨b1, b2, b3⟩ := HBASE.out _ E1.out
  have HI : Hid (ScanI ks (.slice a ks.length cap) S deep (c + 1) cb (w.heap.size + 1) (w.heap.size + 1 + 1) w 0 w1) := Lib.hid ⟨HA.out _ E1.out, b1, d0, d1, b2, ⟨_, b3⟩, fun c' h => by simp only [List.take_zero, scanL, Option.some.injEq] at h; subst h; exact b3⟩
  clear b1 b2 b3 d0 d1
  go_wp2_with fail
  refine (slicesContainsFunc 66 _ ks S (ScanI ks (.slice a ks.length cap) S deep (c + 1) cb (w.heap.size + 1) (w.heap.size + 1 + 1) w) (scanB ks deep (c + 1)) _ _ (fun _ _ => by kernel_rfl)
    (Lib.hid (scan_step ks _ S deep (c + 1) cb _ _ w HS.out (by omega) (by omega) hb (by omega) IH)) (Lib.hid (fun j w h => h.1)) HI).mono ?_
  rintro e w2 (⟨j, hj, hbs, hbj, rfl, hI⟩ | ⟨hbs, rfl, hI⟩)
  · have HI2 := Lib.hid hI
    have hnone := Lib.hid (show scanL ks (deep + 1) (c + 1) = none from scanL_mono ks _ (j + 1) (by simp only [scanB, Bool.not_eq_true', Option.isSome_eq_false_iff, Option.isNone_iff_eq_none] at hbj; exact hbj))
    clear hbs hbj hI
    go_wp2_with fail
    go_ret
    obtain ⟨i1, i2, i3, i4, i5, ⟨x, i6⟩, i7⟩ := HI2.out
    exact scan_no (by rw [hF.out, hnone.out]) i2 i5 i6
  · have HI2 := Lib.hid hI
    have hsome := Lib.hid (show ∃ c', scanL ks (deep + 1) (c + 1) = some c' by
      cases ks with
      | nil => exact ⟨c + 1, by simp [scanL]⟩
      | cons t ts =>
        have := hbs ts.length (by simp)
        simp only [scanB, Bool.not_eq_false', Option.isSome_iff_exists] at this
        rwa [List.take_of_length_le (by simp)] at this)
    clear hbs hI
    go_wp2_with fail
    go_ret
    obtain ⟨i1, i2, i3, i4, i5, ⟨x, i6⟩, i7⟩ := HI2.out
    obtain ⟨c', h'⟩ := hsome.out
    exact scan_yes (by rw [hF.out, h']) i2 i5 (i7 c' (by rw [List.take_of_length_le (Nat.le_refl _)]; exact h'))
theorem implscan : ∀ (m : Nat) (t : Tm), Tm.sz t ≤ m → ScanC t := by
  intro m
  induction m with
  | zero => intro t hm; have := Tm.sz_pos t; omega
  | succ m ih =>
    intro t hm deep c cb v S w hc hd hat hS hcell hfr
    obtain ⟨k, n, s, ks⟩ := t
    have IH := Lib.hid (show ∀ (j : Nat) (t : Tm), ks[j]? = some t → ScanC t from fun j t h => ih t (by have := kid_lt (k := k) (n := n) (s := s) h; omega))
    by_cases ha : 120 < c + 1
    · exact scan_A k n s ks deep c cb v S w hc hd hat hS hcell hfr ha
    by_cases hb : 30 < deep
    · exact scan_B k n s ks deep c cb v S w hc hd hat hS hcell hfr (by omega) hb
    have ha' : c + 1 ≤ 120 := by omega
    have hb' : deep ≤ 30 := by omega
    by_cases k1 : k = 1
    · subst k1
      cases hw : (decide (0 ≤ n) && decide (n ≤ 25))
      · exact scan_1a n s ks deep c cb v S w hc hd hat hS hcell hfr ha' hb' hw
      by_cases hn : s.toList = []
      · by_cases hl : ks.length = 0
        · exact scan_1d n s ks deep c cb v S w hc hd hat hS hcell hfr ha' hb' hw hn hl
        · exact scan_1c n s ks deep c cb v S w hc hd hat hS hcell hfr ha' hb' hw hn hl
      · exact scan_1b n s ks deep c cb v S w hc hd hat hS hcell hfr ha' hb' hw hn
    by_cases k2 : k = 2
    · subst k2
      cases hw : (decide (-999 ≤ n) && decide (n ≤ 999))
      · exact scan_2a n s ks deep c cb v S w hc hd hat hS hcell hfr ha' hb' hw
      by_cases hn : s.toList = []
      · by_cases hl : ks.length = 0
        · exact scan_2d n s ks deep c cb v S w hc hd hat hS hcell hfr ha' hb' hw hn hl
        · exact scan_2c n s ks deep c cb v S w hc hd hat hS hcell hfr ha' hb' hw hn hl
      · exact scan_2b n s ks deep c cb v S w hc hd hat hS hcell hfr ha' hb' hw hn
    by_cases k3 : k = 3
    · subst k3
      by_cases hn : n = 0
      · cases hv : nameF s
        · exact scan_3b n s ks deep c cb v S w hc hd hat hS hcell hfr ha' hb' hn hv
        by_cases hl : 4 < ks.length
        · exact scan_3c n s ks deep c cb v S w hc hd hat hS hcell hfr ha' hb' hn hv hl
        · exact scan_3d n s ks deep c cb v S w hc hd hat hS hcell hfr ha' hb' hn hv (by omega) IH
      · exact scan_3a n s ks deep c cb v S w hc hd hat hS hcell hfr ha' hb' hn
    · exact scan_F k n s ks deep c cb v S w hc hd hat hS hcell hfr ha' hb' k1 k2 k3
end Go.Proofs.YtognkaebiafgbaaGreat
