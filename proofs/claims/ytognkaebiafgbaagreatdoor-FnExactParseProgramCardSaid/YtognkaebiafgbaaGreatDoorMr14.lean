/-
  Texts of terms: the program's text, over a function that writes arguments and elements.
-/
import Derived.Test.YtognkaebiafgbaaGreatDoorMr13
import Derived.Test.YtognkaebiafgbaaGreatDoorMr11
namespace Go.Proofs.YtognkaebiafgbaaGreatDoor
open Go.RowKit
set_option linter.unusedVariables false
theorem two_get {S : Nat → Prop} {w : World} {a b : Tm} {ar : Option Addr} (h : [a, b] = [] ∨ ∃ b' off, ar = some ⟨b', off, none⟩ ∧ S b' ∧ Tm.row S w b' off [a, b]) :
    ∃ r off p c p' c', ar = some ⟨r, off, none⟩ ∧ S r ∧ w.cell? ⟨r, off, none⟩ = some (.int .i64 a.kind) ∧ w.cell? ⟨r, off + 1, none⟩ = some (.int .i64 a.n) ∧ w.cell? ⟨r, off + 2, none⟩ = some (.string a.name) ∧ w.cell? ⟨r, off + 3, none⟩ = some (.slice p a.kids.length c) ∧
      w.cell? ⟨r, off + 4, none⟩ = some (.int .i64 b.kind) ∧ w.cell? ⟨r, off + 5, none⟩ = some (.int .i64 b.n) ∧ w.cell? ⟨r, off + 6, none⟩ = some (.string b.name) ∧ w.cell? ⟨r, off + 7, none⟩ = some (.slice p' b.kids.length c') ∧
      Tm.at S w a (val4 a p c) ∧ Tm.at S w b (val4 b p' c') := by
  obtain ⟨r, off, p, c, rfl, hS, k1, k2, k3, k4, hat⟩ := tget h (k := 0) (t := a) rfl
  obtain ⟨r', off', p', c', q, hS', q1, q2, q3, q4, hat'⟩ := tget h (k := 1) (t := b) rfl
  obtain ⟨rfl, rfl⟩ : r = r' ∧ off = off' := by simpa using q
  exact ⟨r, off, p, c, p', c', rfl, hS, by simpa using k1, by simpa using k2, by simpa using k3, by simpa using k4, by simpa using q1, by simpa using q2, by simpa using q3, by simpa using q4, hat, hat'⟩
theorem at_kids {S : Nat → Prop} {w : World} {k n : Int} {s : ByteArray} {ks : List Tm} {ac : Option Addr} {len cc : Nat} (h : Tm.at S w (.mk k n s ks) (.agg #[.int .i64 k, .int .i64 n, .string s, .slice ac len cc])) :
    s.size ≤ 1048576 ∧ len = ks.length ∧ ks.length ≤ cc ∧ cc ≤ 9223372036854775807 ∧ ks.length ≤ 1048576 ∧ (ks = [] ∨ ∃ b' off, ac = some ⟨b', off, none⟩ ∧ S b' ∧ Tm.row S w b' off ks) := by
  obtain ⟨h1, sv, h2, a, c, rfl, h3, h4, h5, h6⟩ := h
  simp at h2
  obtain ⟨rfl, rfl, rfl⟩ := h2
  exact ⟨h1, rfl, h3, h4, h5, h6⟩
def PartC (o : Bool) (fid : FuncId) (u : Tm) : Prop := ∀ (d : Nat) (v : Value) (S : Nat → Prop) (w : World), shapeF u d = true → Tm.at S w u v → TabW w → Calls Tryz.prog fid #[v] w fun e w' => e = .returned (.string (bs (txt o u))) ∧ Ext w w'
theorem txt_var (o : Bool) (n : Int) (s : ByteArray) (ks : List Tm) : txt o (.mk 1 n s ks) = [letB n] := by simp [txt, txF, ownTx]
theorem txt_int (o : Bool) (n : Int) (s : ByteArray) (ks : List Tm) : txt o (.mk 2 n s ks) = Lib.itoa n := by simp [txt, txF, ownTx]
theorem txt_pair {o : Bool} {n : Int} {s : ByteArray} {a b : Tm} (ho : (o && infF 3 s 2) = false) (h : pairF 3 s 2 = true) : txt o (.mk 3 n s [a, b]) = 91 :: (txt o a ++ (rst o b ++ [93])) := by
  simp [txt, rst, txF, ownTx, txL, ho, h]
theorem rst_pair {o : Bool} {n : Int} {s : ByteArray} {a b : Tm} (h : pairF 3 s 2 = true) : rst o (.mk 3 n s [a, b]) = 44 :: (txt o a ++ rst o b) := by
  simp [txt, rst, txF, restTx, txL, h]
theorem rst_nil {o : Bool} {k n : Int} {s : ByteArray} {ks : List Tm} (hp : pairF k s ks.length = false) (h : nilF k s ks.length = true) : rst o (.mk k n s ks) = [] := by
  simp [rst, txF, restTx, txL_len, hp, h]
theorem rst_tail {o : Bool} {k n : Int} {s : ByteArray} {ks : List Tm} (hp : pairF k s ks.length = false) (h : nilF k s ks.length = false) : rst o (.mk k n s ks) = 124 :: txt o (.mk k n s ks) := by
  simp [rst, txt, txF, restTx, txL_len, hp, h]
theorem txt_atom {o : Bool} {n : Int} {s : ByteArray} : txt o (.mk 3 n s []) = s.toList := by
  simp [txt, txF, ownTx, txL, infF, pairF]
theorem txt_args {o : Bool} {n : Int} {s : ByteArray} {ks : List Tm} (ho : (o && infF 3 s ks.length) = false) (h : pairF 3 s ks.length = false) (hl : ks.length ≠ 0) : txt o (.mk 3 n s ks) = s.toList ++ 40 :: (joinF (ks.map (txt o)) ++ [41]) := by
  simp only [txt, txF, ownTx, txL_len, ho, h, if_neg hl, if_neg (show ¬ (3 : Int) = 1 by decide), if_neg (show ¬ (3 : Int) = 2 by decide), if_neg (show ¬ false = true by decide), txL_map]
set_option maxRecDepth 100000 in
set_option maxHeartbeats 4000000 in
theorem impltext_pair (o : Bool) (fid : FuncId) (n : Int) (s : ByteArray) (a b : Tm) (d : Nat) (v : Value) (S : Nat → Prop) (w : World) (hcf : ∀ args w, Sem.run Tryz.prog (callFunc fid args) w = .ok (.enter fid args) w)
    (hp : ∀ u, Tm.sz u < Tm.sz (.mk 3 n s [a, b]) → PartC o fid u) (hsh : shapeF (.mk 3 n s [a, b]) d = true) (hsz : Tm.sz (.mk 3 n s [a, b]) ≤ 120) (hpr : pairF 3 s 2 = true) (ho : (o && infF 3 s 2) = false) (ht : Tm.at S w (.mk 3 n s [a, b]) v) (htab : TabW w) :
    Calls Tryz.prog 139 #[v, .func (.func fid) #[] #[]] w fun e w' => e = .returned (.string (bs (txt o (.mk 3 n s [a, b])))) ∧ Ext w w' := by
  have HP := Lib.hid hp
  have HL := Lib.hid (tx_len o _ d hsh)
  have HSA := Lib.hid (shape_kid hsh (j := 0) (t := a) rfl)
  have HSB := Lib.hid (shape_kid hsh (j := 1) (t := b) rfl)
  have HF := Lib.hid (txt_pair (n := n) (a := a) (b := b) ho hpr)
  have HTAB := Lib.hid htab
  have HZ := Lib.hid hsz
  have ht' := Tm.at_bound ht
  have HT := Lib.hid ht'
  obtain ⟨hs1, sv, rfl, ar, cap, rfl, h1, h2, h3, h4⟩ := ht'
  obtain ⟨rb, off, p, c, p', c', rfl, hSb, k1, k2, k3, k4, q1, q2, q3, q4, hat, hat'⟩ := two_get h4
  have HA := Lib.hid hat
  have HB := Lib.hid hat'
  clear hp hsh hsz ho ht htab h4 hat hat'
  have lrb := hSb.2
  clear hSb
  go_enter Tryz.func139, Tryz.ntmps139
  go_wp2_with fail
  refine (implisPair 3 n s [a, b] _ (fun x => S x ∧ x < w.heap.size) _ (Tm.at_ext (Ext.alloc _ _) HT.out)).mono ?_
  rintro e w1 ⟨rfl, e1⟩
  have E1 := Lib.hid ((Ext.alloc w (.cells #[.int .i64 3, .int .i64 n, .string s, .slice (some ⟨rb, off, none⟩) 2 cap] 25)).trans e1)
  obtain ⟨c0, c1, c2, c3, g0, g1, g2, g3⟩ := (BoxT.new w (.int .i64 3) (.int .i64 n) (.string s) (.slice (some ⟨rb, off, none⟩) 2 cap) 25 rfl).ext e1
  have s1 : w.heap.size < w1.heap.size := block_lt_of_cell c0
  have hp1 : pairF 3 s [a, b].length = true := hpr
  replace k1 := E1.out.cell k1
  replace k2 := E1.out.cell k2
  replace k3 := E1.out.cell k3
  replace k4 := E1.out.cell k4
  replace q1 := E1.out.cell q1
  replace q2 := E1.out.cell q2
  replace q3 := E1.out.cell q3
  replace q4 := E1.out.cell q4
  go_wp2_with fail
  refine (HP.out a (by simp only [Tm.sz, Tm.szL]; omega) _ _ _ _ HSA.out (Tm.at_ext E1.out HA.out) (HTAB.out.ext E1.out)).mono ?_
  rintro e w2 ⟨rfl, e2⟩
  have E2 := Lib.hid (E1.out.trans e2)
  have s2 : w.heap.size < w2.heap.size := Nat.lt_of_lt_of_le s1 (Below.size e2)
  replace c0 := e2.cell c0
  replace c1 := e2.cell c1
  replace c2 := e2.cell c2
  replace c3 := e2.cell c3
  replace q1 := e2.cell q1
  replace q2 := e2.cell q2
  replace q3 := e2.cell q3
  replace q4 := e2.cell q4
  have la : (txt o a).length ≤ 4000 := by
    have h1 := (tx_len o a _ HSA.out).1
    have h2 := HZ.out
    simp only [Tm.sz, Tm.szL] at h2
    omega
  clear k1 k2 k3 k4 g0 g1 g2 g3 e1 e2
  have lb : ¬ 9223372036854775807 < 1 + (bs (txt o a)).size := by rw [bs_size]; omega
  go_wp2_with fail
  go_loopg [5] (Tm.sz b) (fun g sv wr => ∃ (u : Tm) (l : List UInt8) (ac : Option Addr) (cc e : Nat), Tm.sz u ≤ g ∧ sv = .string (bs l) ∧ Hid (l ++ rst o u = 91 :: (txt o a ++ rst o b)) ∧ Hid (shapeF u e = true) ∧ Hid (Tm.sz u ≤ Tm.sz b) ∧
      Hid (BoxT wr w2.heap.size (.int .i64 u.kind) (.int .i64 u.n) (.string u.name) (.slice ac u.kids.length cc)) ∧ Hid (Tm.at (fun x => S x ∧ x < w.heap.size) wr u (.agg #[.int .i64 u.kind, .int .i64 u.n, .string u.name, .slice ac u.kids.length cc])) ∧ Hid (Ext w wr))
  case atStart =>
    refine ⟨b, 91 :: txt o a, p', c', d - 1, Nat.le_refl _, ?_, Lib.hid (by simp), HSB, Lib.hid (Nat.le_refl _), Lib.hid ?_, Lib.hid (Tm.at_ext (E2.out.trans (Ext.alloc _ _)) HB.out), Lib.hid (E2.out.trans (Ext.alloc _ _))⟩
    · exact congrArg Value.string (bs_app [91] _)
    · exact BoxT.new w2 _ _ _ _ 25 rfl
  case round =>
    obtain ⟨u, l, ac, cc, e, hg, rfl, HE, HSU, HSZ, HBX, HAT, HX⟩ := hrel
    have sB : w2.heap.size < wr.heap.size := HBX.out.lt
    have ll : l.length ≤ 4000 := by
      have h1 := congrArg List.length HE.out
      have h2 := (tx_len o a _ HSA.out).1
      have h3 := (tx_len o b _ HSB.out).2
      have h4 := HZ.out
      simp only [Tm.sz, Tm.szL] at h4
      simp only [List.length_append, List.length_cons] at h1
      omega
    obtain ⟨uk, un, us, uks⟩ := u
    simp only [Tm.kind, Tm.n, Tm.name, Tm.kids] at HBX HAT
    obtain ⟨b0, b1, b2, b3, f0, f1, f2, f3⟩ := HBX.out
    go_wp2_with fail
    refine (implisPair uk un us uks _ (fun x => S x ∧ x < w.heap.size) _ HAT.out).mono ?_
    rintro e3 w3 ⟨rfl, e3⟩
    have E3 := Lib.hid (HX.out.trans e3)
    obtain ⟨b0, b1, b2, b3, f0, f1, f2, f3⟩ := HBX.out.ext e3
    have s3 : w2.heap.size < w3.heap.size := block_lt_of_cell b0
    have HBX3 := Lib.hid (HBX.out.ext e3)
    have HAT3 := Lib.hid (Tm.at_ext e3 HAT.out)
    cases hpu : pairF uk us uks.length
    · go_wp2_with fail
      refine (implisNil uk un us uks _ (fun x => S x ∧ x < w.heap.size) _ HAT3.out).mono ?_
      rintro e4 w4 ⟨rfl, e4⟩
      have E4 := Lib.hid (E3.out.trans e4)
      obtain ⟨b0, b1, b2, b3, f0, f1, f2, f3⟩ := HBX3.out.ext e4
      have s4 : w2.heap.size < w4.heap.size := block_lt_of_cell b0
      cases hnu : nilF uk us uks.length
      · have HR := Lib.hid (rst_tail (o := o) (n := un) (ks := uks) hpu hnu)
        have hz1 := HSZ.out
        go_wp2_with fail
        refine (HP.out (.mk uk un us uks) (by simp only [Tm.sz, Tm.szL] at hz1 ⊢; omega) _ _ _ _ HSU.out (Tm.at_ext e4 HAT3.out) (HTAB.out.ext E4.out)).mono ?_
        rintro e5 w5 ⟨rfl, e5⟩
        have E5 := Lib.hid (E4.out.trans e5)
        have lx : (txt o (.mk uk un us uks)).length ≤ 4000 := by
          have h1 := (tx_len o _ _ HSU.out).1
          have h4 := HZ.out
          simp only [Tm.sz, Tm.szL] at h1 h4 hz1
          omega
        have lb1 : ¬ 9223372036854775807 < 1 + (bs (txt o (.mk uk un us uks))).size := by rw [bs_size]; omega
        have lb2 : ¬ 9223372036854775807 < (bs l).size + (1 + (bs (txt o (.mk uk un us uks))).size) := by rw [bs_size, bs_size]; omega
        have lb3 : ¬ 9223372036854775807 < (bs l).size + (1 + (bs (txt o (.mk uk un us uks))).size) + 1 := by rw [bs_size, bs_size]; omega
        clear hz1
        go_wp2_with fail
        go_ret
        refine ⟨?_, E5.out⟩
        rw [HF.out]
        have h := HE.out
        rw [HR.out] at h
        refine retS ?_
        show (bs l ++ (bs [124] ++ bs (txt o (.mk uk un us uks)))) ++ bs [93] = bs _
        rw [bs_app, bs_app, bs_app, ← List.append_assoc (txt o a), ← List.cons_append, ← h]
        simp
      · have HR := Lib.hid (rst_nil (o := o) (n := un) (ks := uks) hpu hnu)
        have lb3 : ¬ 9223372036854775807 < (bs l).size + 1 := by rw [bs_size]; omega
        go_wp2_with fail
        go_ret
        refine ⟨?_, E4.out⟩
        rw [HF.out]
        have h := HE.out
        rw [HR.out, List.append_nil] at h
        refine retS ?_
        show bs l ++ bs [93] = bs _
        rw [bs_app, ← List.append_assoc (txt o a), ← List.cons_append, ← h]
    · obtain ⟨rfl, h2l, h46⟩ := pair_two hpu
      obtain ⟨x, y, rfl⟩ := len_two h2l
      have HR := Lib.hid (rst_pair (o := o) (n := un) (a := x) (b := y) hpu)
      have hz1 := HSZ.out
      have HSX := Lib.hid (shape_kid HSU.out (j := 0) (t := x) rfl)
      have HSY := Lib.hid (shape_kid HSU.out (j := 1) (t := y) rfl)
      obtain ⟨_, _, hcc1, hcc2, _, x4⟩ := at_kids HAT3.out
      obtain ⟨ru, offu, px, cx, py, cy, rfl, hSu, k1, k2, k3, k4, r1, r2, r3, r4, hatx, haty⟩ := two_get x4
      have HXA := Lib.hid hatx
      have HYA := Lib.hid haty
      have lru := hSu.2
      have hcc1 : 2 ≤ cc := hcc1
      clear hatx haty x4 hSu
      go_wp2_with fail
      refine (HP.out x (by simp only [Tm.sz, Tm.szL] at hz1 ⊢; omega) _ _ _ _ HSX.out HXA.out (HTAB.out.ext E3.out)).mono ?_
      rintro e4 w4 ⟨rfl, e4⟩
      have E4 := Lib.hid (E3.out.trans e4)
      have HBX4 := Lib.hid (HBX3.out.ext e4)
      obtain ⟨b0, b1, b2, b3, f0, f1, f2, f3⟩ := HBX3.out.ext e4
      replace r1 := e4.cell r1
      replace r2 := e4.cell r2
      replace r3 := e4.cell r3
      replace r4 := e4.cell r4
      have s4 : w2.heap.size < w4.heap.size := block_lt_of_cell b0
      have lx : (txt o x).length ≤ 4000 := by
        have h1 := (tx_len o x _ HSX.out).1
        have h4 := HZ.out
        simp only [Tm.sz, Tm.szL] at h4 hz1
        omega
      have lb1 : ¬ 9223372036854775807 < 1 + (bs (txt o x)).size := by rw [bs_size]; omega
      have lb2 : ¬ 9223372036854775807 < (bs l).size + (1 + (bs (txt o x)).size) := by rw [bs_size, bs_size]; omega
      have HE4 := Lib.hid (show (l ++ 44 :: txt o x) ++ rst o y = 91 :: (txt o a ++ rst o b) by
        have := HE.out
        rw [HR.out] at this
        rw [← this]; simp)
      have HYA4 := Lib.hid (Tm.at_ext e4 HYA.out)
      have HM := Lib.hid (show Tm.sz y < gk ∧ Tm.sz y ≤ Tm.sz b by simp only [Tm.sz, Tm.szL] at hz1 hg; omega)
      clear hz1 k1 k2 k3 k4 e4 e3 hg lx
      go_wp2_with fail
      have f4 : Fr (fun k => k = w2.heap.size) w4 _ := put4_frw w4 (b := w2.heap.size) (.int .i64 y.kind) (.int .i64 y.n) (.string y.name) (.slice py y.kids.length cy) rfl
      go_roundg (Tm.sz y)
      case measure => exact HM.out.1
      case rel =>
        refine ⟨y, l ++ 44 :: txt o x, py, cy, e - 1, Nat.le_refl _, ?_, HE4, HSY, Lib.hid HM.out.2, Lib.hid (BoxT.put4 HBX4.out _ _ _ _), Lib.hid (f4.at HYA4.out (fun k hk h => by omega)), Lib.hid (((Fr.of_ext E4.out).trans f4).toExt (fun k hk h => by omega))⟩
        exact congrArg Value.string (by rw [show (⟨#[44]⟩ : ByteArray) = bs [44] from rfl, bs_app, bs_app]; rfl)
end Go.Proofs.YtognkaebiafgbaaGreatDoor

namespace Go.Proofs.YtognkaebiafgbaaGreatDoor
open Go.RowKit
set_option linter.unusedVariables false
def Fol (rest : List UInt8) : Prop := rest = [] ∨ ∃ c r, rest = c :: r ∧ (c = 41 ∨ c = 44 ∨ c = 93 ∨ c = 124)
theorem Fol.of {c : UInt8} {r : List UInt8} (h : c = 41 ∨ c = 44 ∨ c = 93 ∨ c = 124) : Fol (c :: r) := .inr ⟨c, r, rfl, h⟩
def FolN (rest : List UInt8) : Prop := rest = [] ∨ ∃ c r, rest = c :: r ∧ (c = 40 ∨ c = 41 ∨ c = 44 ∨ c = 93 ∨ c = 124)
theorem Fol.name {rest : List UInt8} (h : Fol rest) : FolN rest := by
  rcases h with h | ⟨c, r, h1, h2⟩
  · exact .inl h
  · exact .inr ⟨c, r, h1, .inr h2⟩
theorem word_small {l : List UInt8} (h : wordF l = true) : (∀ c ∈ l, smallB c = true) ∧ 1 ≤ l.length ∧ l.length ≤ 6 := by
  simp only [wordF, Bool.and_eq_true, decide_eq_true_eq, List.all_eq_true] at h
  refine ⟨fun c hc => ?_, h.2⟩
  have := h.1 c hc
  simp only [wordB, Bool.not_eq_true', Bool.or_eq_false_iff, decide_eq_false_iff_not] at this
  simp only [smallB, decide_eq_true_eq]
  omega
theorem takeW_nil {p : UInt8 → Bool} {rest : List UInt8} (h : ∀ c r, rest = c :: r → p c = false) : rest.takeWhile p = [] := by
  cases rest with
  | nil => rfl
  | cons c r => simp [List.takeWhile, h c r rfl]
theorem dropW_id {p : UInt8 → Bool} {rest : List UInt8} (h : ∀ c r, rest = c :: r → p c = false) : rest.dropWhile p = rest := by
  cases rest with
  | nil => rfl
  | cons c r => simp [List.dropWhile, h c r rfl]
theorem nameP_word {s rest : List UInt8} (hw : wordF s = true) (hr : ∀ c r, rest = c :: r → smallB c = false) : nameP (s ++ rest) = some (s, rest) := by
  obtain ⟨h1, h2, h3⟩ := word_small hw
  have e1 : (s ++ rest).takeWhile smallB = s := by rw [List.takeWhile_append_of_pos h1, takeW_nil hr, List.append_nil]
  have e2 : (s ++ rest).dropWhile smallB = rest := by rw [List.dropWhile_append_of_pos h1, dropW_id hr]
  unfold nameP
  rw [e1, e2, if_neg (by omega), if_pos (by omega)]
theorem sign_cases {s : ByteArray} (h : hasF signs s = true) : s.toList = [43] ∨ s.toList = [45] ∨ s.toList = [42] ∨ s.toList = [47, 47] ∨ s.toList = [61] ∨ s.toList = [92, 61] ∨ s.toList = [61, 61] ∨ s.toList = [60] ∨ s.toList = [62] ∨ s.toList = [61, 60] ∨ s.toList = [62, 61] ∨ s.toList = [61, 58, 61] ∨ s.toList = [46] ∨ s.toList = [91, 93] ∨ s.toList = [33] := by
  simp only [hasF, List.any_eq_true, beq_iff_eq] at h
  obtain ⟨x, hx, e⟩ := h
  rw [← e]
  simp only [signs, List.mem_cons, List.not_mem_nil, or_false] at hx
  rcases hx with rfl | rfl | rfl | rfl | rfl | rfl | rfl | rfl | rfl | rfl | rfl | rfl | rfl | rfl | rfl <;> simp [ByteArray.toList_eq]
theorem signN_eq (rest : List UInt8) : signN rest = ([([43], 1), ([45], 1), ([42], 1), ([47, 47], 2), ([61], 1), ([92, 61], 2), ([61, 61], 2), ([60], 1), ([62], 1), ([61, 60], 2), ([62, 61], 2), ([61, 58, 61], 3), ([46], 1), ([91, 93], 2), ([33], 1)] : List (List UInt8 × Nat)).foldl (fun n s => if s.1.isPrefixOf rest = true then max n s.2 else n) 0 := by
  simp only [signN, signs, List.foldl_cons, List.foldl_nil, ByteArray.toList_eq]
  rfl
theorem nameP_sign {s rest : List UInt8} (hs : s = [43] ∨ s = [45] ∨ s = [42] ∨ s = [47, 47] ∨ s = [61] ∨ s = [92, 61] ∨ s = [61, 61] ∨ s = [60] ∨ s = [62] ∨ s = [61, 60] ∨ s = [62, 61] ∨ s = [61, 58, 61] ∨ s = [46] ∨ s = [91, 93] ∨ s = [33])
    (hr : FolN rest) : nameP (s ++ rest) = some (s, rest) := by
  unfold nameP
  rw [signN_eq]
  rcases hr with rfl | ⟨c, r, rfl, hc⟩
  · rcases hs with rfl | rfl | rfl | rfl | rfl | rfl | rfl | rfl | rfl | rfl | rfl | rfl | rfl | rfl | rfl <;> rfl
  · rcases hc with rfl | rfl | rfl | rfl | rfl <;>
    rcases hs with rfl | rfl | rfl | rfl | rfl | rfl | rfl | rfl | rfl | rfl | rfl | rfl | rfl | rfl | rfl <;> rfl
theorem small_facts {b : UInt8} (h : smallB b = true) : b ≠ 0 ∧ isUp b = false ∧ digitB b = false ∧ b ≠ 45 ∧ b ≠ 40 ∧ b ≠ 91 := by
  simp only [smallB, decide_eq_true_eq] at h
  have ne : ∀ n : Nat, n < 97 → b ≠ UInt8.ofNat n := fun n hn e => by
    have := congrArg UInt8.toNat e
    rw [UInt8.toNat_ofNat'] at this
    omega
  refine ⟨ne 0 (by omega), ?_, ?_, ne 45 (by omega), ne 40 (by omega), ne 91 (by omega)⟩
  · simp only [isUp, decide_eq_false_iff_not]; omega
  · simp only [digitB, decide_eq_false_iff_not]; omega
noncomputable def afterN (o : Bool) (F deep : Nat) (s : ByteArray) : List UInt8 → Option (Tm × List UInt8)
  | c :: r => if c = 40 then argsF o F deep s [] r else some (sT s [], c :: r)
  | [] => some (sT s [], [])
theorem prim_name {o : Bool} {F deep : Nat} {s : ByteArray} {rest : List UInt8} (hn : nameF s = true) (hd : deep ≤ 30) (hr : nameP (s.toList ++ rest) = some (s.toList, rest))
    (h45 : s.toList = [45] → ∀ c r, rest = c :: r → digitB c = false) (h40 : o = true → s.toList ≠ [40]) :
    primF o (F + 1) deep (s.toList ++ rest) = afterN o F deep s rest := by
  have hlen := (name_len hn).1
  obtain ⟨b, l, hb⟩ : ∃ b l, s.toList = b :: l := by
    cases h : s.toList with
    | nil => rw [h] at hlen; simp at hlen
    | cons b l => exact ⟨b, l, rfl⟩
  have key : b ≠ 0 ∧ isUp b = false ∧ numStart (b :: (l ++ rest)) = false ∧ ¬ (b = 40 ∧ o = true) ∧ ¬ (b = 91 ∧ (l ++ rest).head? ≠ some 93) := by
    simp only [nameF, Bool.or_eq_true] at hn
    rcases hn with hw | hs
    · have := (word_small hw).1 b (by rw [hb]; simp)
      obtain ⟨q1, q2, q3, q4, q5, q6⟩ := small_facts this
      refine ⟨q1, q2, ?_, fun h => q5 h.1, fun h => q6 h.1⟩
      simp only [numStart, q3, Bool.false_or]
      have : (b == 45) = false := by simpa using q4
      rw [this]; rfl
    · have hc := sign_cases hs
      rw [hb] at hc h45
      rcases hc with hc | hc | hc | hc | hc | hc | hc | hc | hc | hc | hc | hc | hc | hc | hc <;> obtain ⟨rfl, rfl⟩ := List.cons.inj hc
      case inr.inr.inl =>
        refine ⟨by decide, by decide, ?_, by simp, by simp⟩
        cases rest with
        | nil => rfl
        | cons c r =>
          have := h45 rfl c r rfl
          show (digitB 45 || ((45 : UInt8) == 45 && digitB c)) = false
          rw [this]; rfl
      all_goals
        refine ⟨by decide, by decide, ?_, by simp, by simp⟩
        first
        | rfl
        | (show (digitB _ || (_ == 45 && _)) = false; simp [digitB])
  obtain ⟨q1, q2, q3, q4, q5⟩ := key
  have hr' : nameP (b :: (l ++ rest)) = some (s.toList, rest) := by rw [← List.cons_append, ← hb]; exact hr
  rw [hb, List.cons_append, primF, if_neg (show ¬ 30 < deep by omega)]
  simp only [q1, q2, q3, q4, q5, if_false, Bool.false_eq_true, hr']
  cases rest with
  | nil => simp only [bs_of, afterN]
  | cons c r => simp only [bs_of, afterN]
theorem up_let {n : Int} (h0 : 0 ≤ n) (h1 : n ≤ 25) : (letB n).toNat = 65 + n.toNat := by
  unfold letB
  rw [UInt8.toNat_ofNat']; omega
theorem prim_var {o : Bool} {F deep : Nat} {n : Int} {rest : List UInt8} (h0 : 0 ≤ n) (h1 : n ≤ 25) (hd : deep ≤ 30) : primF o (F + 1) deep (letB n :: rest) = some (.mk 1 n eN [], rest) := by
  have hu := up_let h0 h1
  have q1 : letB n ≠ 0 := fun e => by rw [e] at hu; simp at hu; omega
  have q2 : isUp (letB n) = true := by simp only [isUp, decide_eq_true_eq]; omega
  rw [primF, if_neg (show ¬ 30 < deep by omega)]
  simp only [q1, q2, if_false, if_true]
  unfold vT
  rw [hu]
  congr 3
  omega
theorem digs_split {ds rest : List UInt8} (h : ∀ c ∈ ds, digitB c = true) (hr : ∀ c r, rest = c :: r → digitB c = false) : (ds ++ rest).takeWhile digitB = ds ∧ (ds ++ rest).dropWhile digitB = rest :=
  ⟨by rw [List.takeWhile_append_of_pos h, takeW_nil hr, List.append_nil], by rw [List.dropWhile_append_of_pos h, dropW_id hr]⟩
theorem prim_int {o : Bool} {F deep : Nat} {n : Int} {rest : List UInt8} (h0 : -999 ≤ n) (h1 : n ≤ 999) (hd : deep ≤ 30) (hr : ∀ c r, rest = c :: r → digitB c = false) : primF o (F + 1) deep (Lib.itoa n ++ rest) = some (nT n, rest) := by
  have hnum := numO_itoa h0 h1
  obtain ⟨b, l, hb, hbb, hl, hst⟩ : ∃ b l, Lib.itoa n = b :: l ∧ (b = 45 ∨ digitB b = true) ∧ (∀ c ∈ l, digitB c = true) ∧ numStart (b :: (l ++ rest)) = true := by
    unfold Lib.itoa
    split
    · cases h : Lib.decDigits n.natAbs with
      | nil => exact absurd h (dec_ne _)
      | cons c l =>
        have hc := dec_digits _ _ (Nat.le_refl n.natAbs)
        rw [h] at hc
        refine ⟨45, c :: l, rfl, .inl rfl, hc, ?_⟩
        show (digitB 45 || ((45 : UInt8) == 45 && digitB c)) = true
        rw [hc c (by simp)]; rfl
    · cases h : Lib.decDigits n.toNat with
      | nil => exact absurd h (dec_ne _)
      | cons c l =>
        have hc := dec_digits _ _ (Nat.le_refl n.toNat)
        rw [h] at hc
        refine ⟨c, l, rfl, .inr (hc c (by simp)), fun x hx => hc x (by simp [hx]), ?_⟩
        simp only [numStart, hc c (by simp), Bool.true_or]
  have q12 : b ≠ 0 ∧ isUp b = false := by
    rcases hbb with rfl | h
    · exact ⟨by decide, by decide⟩
    · simp only [digitB, decide_eq_true_eq] at h
      refine ⟨fun e => by rw [e] at h; simp at h, ?_⟩
      simp only [isUp, decide_eq_false_iff_not]; omega
  obtain ⟨e1, e2⟩ := digs_split hl hr
  rw [hb, List.cons_append, primF, if_neg (show ¬ 30 < deep by omega)]
  simp only [q12.1, q12.2, hst, if_false, if_true, Bool.false_eq_true]
  simp only [numP, e1, e2]
  rw [← hb, hnum]
def RT (t : Tm) : Prop := ∀ (d deep : Nat) (rest : List UInt8), shapeF t d = true → deep + d ≤ 31 → Fol rest → Par (fun F => primF false F deep (txt false t ++ rest)) (t, rest)
theorem shape_pos {t : Tm} {d : Nat} (h : shapeF t d = true) : 1 ≤ d := by
  obtain ⟨k, n, s, ks⟩ := t
  simp only [shapeF, Bool.and_eq_true, decide_eq_true_eq] at h
  exact h.1.1
theorem chain_snoc : ∀ (xs : List Tm) (y tl : Tm), chainT (xs ++ [y]) tl = chainT xs (sT dotN [y, tl])
  | [], y, tl => rfl
  | x :: xs, y, tl => by simp only [List.cons_append, chainT, chain_snoc xs y tl]
theorem ba_of {s : ByteArray} {l : List UInt8} (h : s.toList = l) : s = bs l := bl_ext (by rw [h, bs_list])
theorem head_93 (o : Bool) : ∀ (m : Nat) (t : Tm), Tm.sz t ≤ m → ∀ (d : Nat), shapeF t d = true → (txt o t).head? ≠ some 93
  | 0, t, hm, _, _ => by have := Tm.sz_pos t; omega
  | m + 1, t, hm, d, hsh => by
    obtain ⟨k, n, s, ks⟩ := t
    rcases shape_own hsh with ⟨rfl, hs, rfl⟩ | ⟨rfl, hs, rfl⟩ | ⟨rfl, rfl⟩
    · obtain ⟨n0, n1⟩ := shape_var hsh
      rw [txt_var]
      intro e
      simp only [List.head?_cons, Option.some.injEq] at e
      have := up_let n0 n1
      rw [e] at this
      simp at this
      omega
    · rw [txt_int]
      unfold Lib.itoa
      split
      · simp
      · intro e
        cases h : Lib.decDigits n.toNat with
        | nil => exact absurd h (dec_ne _)
        | cons c l =>
          have hc := dec_digits _ _ (Nat.le_refl n.toNat) c (by rw [h]; simp)
          rw [h] at e
          simp only [List.head?_cons, Option.some.injEq] at e
          rw [e] at hc
          simp [digitB] at hc
    · obtain ⟨hn, _⟩ := shape_name hsh
      have hlen := (name_len hn).1
      have hname : ∀ l, (s.toList ++ l).head? ≠ some 93 := fun l => by
        simp only [nameF, Bool.or_eq_true] at hn
        rcases hn with hw | hs
        · cases h : s.toList with
          | nil => rw [h] at hlen; simp at hlen
          | cons b r =>
            have := (word_small hw).1 b (by rw [h]; simp)
            intro e
            simp only [List.cons_append, List.head?_cons, Option.some.injEq] at e
            rw [e] at this
            simp [smallB] at this
        · rcases sign_cases hs with h | h | h | h | h | h | h | h | h | h | h | h | h | h | h <;> rw [h] <;> simp
      by_cases hio : (o && infF 3 s ks.length) = true
      · simp only [Bool.and_eq_true] at hio
        obtain ⟨rfl, hi⟩ := hio
        obtain ⟨a, b, rfl⟩ := len_two (inf_two hi).2.1
        have e1 : txt true (.mk 3 0 s [a, b]) = opn (txF true a) (leftM s.toList) false ++ (spaced s.toList ++ opn (txF true b) (opLevelF s.toList - 1) true) := by simp [txt, txF, ownTx, txL, show infF 3 s 2 = true from hi]
        have ha := shape_kid hsh (j := 0) (t := a) rfl
        have hz : Tm.sz a < Tm.sz (.mk 3 0 s [a, b]) := by simp only [Tm.sz, Tm.szL]; omega
        have ih := head_93 true m a (by omega) (d - 1) ha
        have hne := tx_ne true a _ ha
        rw [e1]
        unfold opn
        split
        · simp
        · show (txt true a ++ _).head? ≠ _
          cases h : txt true a with
          | nil => exact absurd h hne
          | cons c l => rw [h] at ih; simpa using ih
      · have hio' : (o && infF 3 s ks.length) = false := by simpa using hio
        by_cases hl : ks.length = 0
        · have : ks = [] := List.eq_nil_of_length_eq_zero hl
          subst this
          rw [txt_atom]
          simpa using hname []
        · cases hp : pairF 3 s ks.length
          · rw [txt_args hio' hp hl]
            exact hname _
          · obtain ⟨a, b, rfl⟩ := len_two (pair_two hp).2.1
            rw [txt_pair hio' hp]
            simp
end Go.Proofs.YtognkaebiafgbaaGreatDoor
