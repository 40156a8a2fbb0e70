/-
  Texts of terms: the program's letter, Itoa and text (without its list of kids); lists of strings in rows of their own.
-/
import Derived.Laws.IdiomStrings
import Derived.Deep.CutBlock
import Derived.Deep.LoopGhost
import Derived.Test.YtognkaebiafgbaaGreatDoorMq10
import Derived.Test.YtognkaebiafgbaaGreatDoorMq11
import Derived.Test.YtognkaebiafgbaaGreatDoorMq9
namespace Go.Proofs.YtognkaebiafgbaaGreatDoor
open Go.RowKit
set_option linter.unusedVariables false
def TabW (w : World) : Prop := Lib.TabIs Tryz.prog w "internal/strconv.uint64pow10" .u64 Lib.pow10Tab
theorem TabW.ext {w w' : World} (h : TabW w) (e : Ext w w') : TabW w' := by
  unfold TabW Lib.TabIs World.var? at h ⊢
  cases hg : Tryz.prog.globalNamed "internal/strconv.uint64pow10" with
  | none => simp [hg] at h
  | some g =>
    simp only [hg, Option.bind_some] at h ⊢
    have hlt : g < w.heap.size := by
      apply Decidable.byContradiction
      intro hn
      rw [Array.getElem?_eq_none (by omega)] at h
      simp at h
    rw [e.block g hlt]
    exact h
theorem itoaC (n : Int) (h0 : -999 ≤ n) (h1 : n ≤ 999) (w : World) (ht : TabW w) : Calls Tryz.prog 175 #[.int .i64 n] w fun e w' => e = .returned (.string (bs (Lib.itoa n))) ∧ Ext w w' := by
  refine (Tryz.strconv_Itoa n (by omega) (by omega) w ht).mono ?_
  rintro e w' ⟨rfl, k, os, rfl⟩
  exact ⟨rfl, ⟨rfl, rfl, rfl, by simp [Sort.grow, World.drewN], fun j hj => by
    show (w.heap ++ os)[j]? = _
    rw [Array.getElem?_append_left hj]⟩⟩
theorem conv_oneT (w : World) (T : TypeId) (c : UInt8) (x : Int) (hx : x = c.toNat) : Sem.run Tryz.prog (convert 22 9 (.slice (some ⟨w.heap.size, 0, none⟩) 1 1)) (w.alloc (.cells #[.int .u8 x] T)) = .ok (.string ⟨#[c]⟩) (w.alloc (.cells #[.int .u8 x] T)) := by
  subst hx
  exact run_convert_bytes_back (P := Tryz.prog) _ 22 9 5 ⟨w.heap.size, 0, none⟩ 1 [c] Tryz.underlying22 Tryz.underlying5 Tryz.underlying9 (fun j hj => by
    have h1 : j < 1 := hj
    have : j = 0 := by omega
    subst this
    exact cell_new w _ _ 0 _ rfl)
theorem letter_toNat {n : Int} (h0 : 0 ≤ n) (h1 : n ≤ 25) : (65 + n : Int) = ((letB n).toNat : Int) := by
  unfold letB
  rw [UInt8.toNat_ofNat']
  omega
set_option maxRecDepth 100000 in
theorem implletter (n : Int) (h0 : 0 ≤ n) (h1 : n ≤ 25) (w : World) : Calls Tryz.prog 179 #[.int .i64 n] w fun e w' => e = .returned (.string (bs [letB n])) ∧ Ext w w' := by
  have hcv := conv_oneT w 5 _ _ (letter_toNat h0 h1)
  go_enter Tryz.func179, Tryz.ntmps179
  go_wp2_with fail
  go_ret
  exact ⟨rfl, Ext.alloc _ _⟩
def StrI (Z : Nat → Prop) (xs : List ByteArray) (v : Value) (w : World) : Prop := w.ownsRow 0 9 1 v xs.length (xs.map Value.string) ∧ (∀ g, v.ownBlock = some g → Z g) ∧ xs.length ≤ 1048576
theorem StrI.nil (Z : Nat → Prop) (w : World) : StrI Z [] (.slice none 0 0) w := ⟨⟨rfl, .inl ⟨rfl, rfl⟩⟩, by simp [Value.ownBlock], by simp⟩
theorem StrI.form {Z : Nat → Prop} {xs : List ByteArray} {v : Value} {w : World} (h : StrI Z xs v w) : ∃ a c, v = .slice a xs.length c := own_form h.1
theorem StrI.keep {Z M : Nat → Prop} {xs : List ByteArray} {v : Value} {w w' : World} (h : StrI Z xs v w) (f : Fr M w w') (hM : ∀ k, k < w.heap.size → M k → ¬ Z k) : StrI Z xs v w' := by
  refine ⟨own_keep h.1 f (fun g hg hm => ?_), h.2⟩
  exact hM g (h.1.lt g hg).2 hm (h.2.1 g hg)
theorem StrI.ext {Z : Nat → Prop} {xs : List ByteArray} {v : Value} {w w' : World} (h : StrI Z xs v w) (e : Ext w w') : StrI Z xs v w' := h.keep (M := fun _ => False) (Fr.of_ext e) (fun _ _ h => h.elim)
theorem StrI.cells {Z : Nat → Prop} {xs : List ByteArray} {v : Value} {w : World} (h : StrI Z xs v w) (hne : xs ≠ []) : ∃ g c, v = .slice (some ⟨g, 0, none⟩) xs.length c ∧ g < w.heap.size ∧ xs.length ≤ c ∧ ∀ (j : Nat) (x : ByteArray), xs[j]? = some x → w.cell? ⟨g, 0 + j, none⟩ = some (.string x) := by
  obtain ⟨h1, h2, h3⟩ := h
  have hc := fun g (hg : v.ownBlock = some g) => h1.cells hg
  have hlt := fun g (hg : v.ownBlock = some g) => (h1.lt g hg).2
  obtain ⟨e1, e2⟩ := h1
  rcases e2 with ⟨rfl, e2⟩ | ⟨g, cap, cur, rfl, e3, e4, e5, e6, e7⟩
  · exact absurd (List.eq_nil_of_length_eq_zero e2) hne
  · refine ⟨g, cap, rfl, hlt g rfl, e5, fun j x hx => ?_⟩
    have := hc g rfl j (.string x) (by simp [hx])
    rw [show (⟨g, 0, none⟩ : Addr).add j = ⟨g, 0 + j, none⟩ by unfold Addr.add; split <;> simp_all] at this
    exact this
theorem wpList_append_str {P : Program} {ops : Array Oper} {rest : List Oper} {o : Oper} {a : Act} {w1 : World} {Q : Exit → Act → World → Prop}
    (hgd : o.guard = none) (s x : Operand) (ty : TypeId)
    (ho : o.op = .call { callee := .builtin .append, args := #[s, x], argTypes := #[ty, ty] })
    (Z : Nat → Prop) (i : TypeInfo) (ht : P.underlying ty = some (.slice 9)) (hi : P.info? 9 = some i) (hz : i.zero = some (.string ⟨#[]⟩))
    (hsize : i.size = 1) (hby : i.bytes = 16)
    (v : Value) (xs : List ByteArray) (z : ByteArray) (hs : a.eval s = v) (happ : StrI Z xs v w1) {nb : Nat} (hx : a.eval x = .slice (some ⟨nb, 0, none⟩) 1 1)
    (hl : xs.length < 1048576) (hnew : ∀ b, w1.heap.size ≤ b → Z b) (hnb : nb = w1.heap.size)
    (h : ∀ av cv w2, StrI Z (xs ++ [z]) (.slice av (xs.length + 1) cv) w2 → Fr Z w1 w2 → wpList P ops Q rest (a.put o.dst (.slice av (xs.length + 1) cv)) w2) :
    wpList P ops Q (o :: rest) a (w1.alloc (.cells #[.string z] 9)) := by
  subst hnb
  obtain ⟨how, hzz, hlen⟩ := happ
  refine wpList_append_fresh hgd s x ty ho 0 9 i _ 1 16 ht hi hz hsize hby rfl (by decide) v xs.length _ hs (own_ext how (Ext.alloc _ _)) ⟨w1.heap.size, 0, none⟩ 1 1 [.string z] hx rfl (fun j u h => ?_) (by simp [Value.oneCell']) (by unfold maxLen; omega) (by omega) (by omega) ?_
  · have hj : j = 0 := by
      have := (List.getElem?_eq_some_iff.1 h).1
      simpa using this
    subst hj
    simp at h
    subst h
    have := cell_new w1 #[.string z] 9 0 (.string z) rfl
    simp [Addr.add] at this ⊢
  intro v2 w2 ho2 hg2 hfr2 _
  obtain ⟨av, cv, rfl⟩ := own_form ho2
  refine h av cv w2 ⟨by simpa using ho2, ?_, by simp; omega⟩ ((Fr.alloc _ _).trans (Fr.of_grown hg2 (fun k hk => hzz k hk)))
  intro g hg
  rcases hfr2 g hg with hh | hh
  · exact hzz g hh
  · exact hnew g (by simp at hh; omega)
theorem info_str : (Tryz.prog.info? 9).map (fun i => (i.zero, i.size, i.bytes)) = some (some (.string ⟨#[]⟩), 1, 16) := by kernel_rfl
theorem join_eq : ∀ xs : List (List UInt8), Lib.join xs [44] = joinF xs
  | [] => rfl
  | [x] => Lib.join_one _ _
  | x :: y :: xs => by
    have := join_eq (y :: xs)
    rw [Lib.join_cons] at this ⊢
    rw [joinF, ← this]
    simp [Lib.joinTail]
theorem joinC (Z : Nat → Prop) (xs : List (List UInt8)) (v : Value) (w : World) (hne : xs ≠ []) (hlen : (joinF xs).length ≤ 140737488355328) (h : StrI Z (xs.map bs) v w) : Calls Tryz.prog 157 #[v, .string ⟨#[44]⟩] w fun e w' => e = .returned (.string (bs (joinF xs))) ∧ Ext w w' := by
  obtain ⟨g, c, rfl, hg, hc, hcells⟩ := h.cells (by simpa using hne)
  have hm : (xs.map bs).map (fun x => x.data.toList) = xs := by
    rw [List.map_map]
    conv => rhs; rw [← List.map_id xs]
    apply List.map_congr_left
    intro x _
    simp [bs]
  refine (Tryz.strings_Join g 0 c (xs.map bs) ⟨#[44]⟩ w hcells hg (by have := h.2.2; omega) hc (by rw [hm]; rw [show (⟨#[44]⟩ : ByteArray).data.toList = [44] from rfl, join_eq]; exact hlen)).mono ?_
  rintro e w' ⟨rfl, hb⟩
  refine ⟨?_, hb⟩
  rw [hm, show (⟨#[44]⟩ : ByteArray).data.toList = [44] from rfl, join_eq]
  rfl
end Go.Proofs.YtognkaebiafgbaaGreatDoor

namespace Go.Proofs.YtognkaebiafgbaaGreatDoor
open Go.RowKit
set_option linter.unusedVariables false
set_option maxRecDepth 100000 in
theorem rdisDigit (b : UInt8) (w : World) : Calls Tryz.prog 173 #[.int .u8 b.toNat] w fun e w' => e = .returned (.bool (digitB b)) ∧ Ext w w' := by
  by_cases h1 : (48 : Int) ≤ b.toNat
  · by_cases h2 : (b.toNat : Int) ≤ 57
    · have HF := Lib.hid (show digitB b = true by simp [digitB]; omega)
      go_enter Tryz.func173, Tryz.ntmps173
      go_wp2_with fail
      go_ret
      exact ⟨retB HF.out.symm, Ext.refl _⟩
    · have HF := Lib.hid (show digitB b = false by simp [digitB]; omega)
      go_enter Tryz.func173, Tryz.ntmps173
      go_wp2_with fail
      go_ret
      exact ⟨retB HF.out.symm, Ext.refl _⟩
  · have HF := Lib.hid (show digitB b = false by simp [digitB]; omega)
    go_enter Tryz.func173, Tryz.ntmps173
    go_wp2_with fail
    go_ret
    exact ⟨retB HF.out.symm, Ext.refl _⟩
set_option maxRecDepth 100000 in
set_option maxHeartbeats 4000000 in
theorem implisNumber {rb : Nat} {s : ByteArray} {o : Bool} {b : UInt8} {r : List UInt8} {w : World} (hs : s.size ≤ 4000) (h : RdW rb s o (some (b :: r)) w) :
    Calls Tryz.prog 132 #[.pointer (some ⟨rb, 0, none⟩)] w fun e w' => e = .returned (.bool (numStart (b :: r))) ∧ Ext w w' := by
  obtain ⟨n, h1, h2, hb⟩ := h.good
  have H := Lib.hid h
  obtain ⟨h3, _, h4⟩ := drop_cons h2
  have HB := Lib.hid hb
  clear h h2 hb
  cases hd : digitB b
  · by_cases h45 : b = 45
    · have heq : ((b.toNat : Int) == 45) = true := by
        have := u8_beq b 45
        rw [decide_eq_true h45] at this
        exact this
      cases r with
      | nil =>
        have h5 := drop_nil h4
        have hdec : decide ((n : Int) + 1 < (s.size : Int)) = false := decide_eq_false (by omega)
        have HF := Lib.hid (show numStart [b] = false by subst h45; rfl)
        clear h4 h45
        go_enter Tryz.func132, Tryz.ntmps132
        go_wp2_with fail
        refine (implnext hs H.out).mono ?_
        rintro e w1 ⟨rfl, e1⟩
        obtain ⟨c0, c1, c2, c3, _⟩ := HB.out.ext e1
        have k0 := cell_regrown c0
        have k1 := cell_regrown c1
        have cQ := quiet_call (w := w1) (fun w' e' => rdisDigit b w')
        rw [hd] at cQ
        have hN : nextB (some [b]) = b := rfl
        rw [hN]
        go_wp2_with fail
        refine region_ext (by kernel_rfl) (by kernel_rfl) ?_
        repeat (go_big_quiet_step (exact cQ _ _))
        refine wpQuiet_nil ?_
        intro w2 e2
        go_wp2_with fail
        go_ret
        exact ⟨retB HF.out.symm, e1.trans e2⟩
      | cons c r =>
        obtain ⟨h5, h6, h7⟩ := drop_cons h4
        obtain ⟨m, hm⟩ : ∃ m, n + 1 = m := ⟨_, rfl⟩
        have hdec : decide ((m : Int) < (s.size : Int)) = true := decide_eq_true (by omega)
        have em : (n : Int) = (m : Int) - 1 := by omega
        have e11 : (m : Int) - 1 + 1 = (m : Int) := by omega
        have h5m : m < s.size := by omega
        have HF := Lib.hid (show numStart (b :: c :: r) = digitB s[m] by subst hm; rw [h6]; subst h45; rfl)
        clear h4 h6 h7 h45
        go_enter Tryz.func132, Tryz.ntmps132
        go_wp2_with fail
        refine (implnext hs H.out).mono ?_
        rintro e w1 ⟨rfl, e1⟩
        obtain ⟨c0, c1, c2, c3, _⟩ := HB.out.ext e1
        rw [em] at c1
        have k0 := cell_regrown c0
        have k1 := cell_regrown c1
        have cQ := quiet_call (w := w1) (fun w' e' => rdisDigit b w')
        have cR := quiet_call (w := w1) (fun w' e' => rdisDigit s[m] w')
        rw [hd] at cQ
        have hN : nextB (some (b :: c :: r)) = b := rfl
        rw [hN]
        go_wp2_with fail
        refine region_ext (by kernel_rfl) (by kernel_rfl) ?_
        repeat (go_big_quiet_step (first | exact cQ _ _ | exact cR _ _))
        refine wpQuiet_nil ?_
        intro w2 e2
        go_wp2_with fail
        go_ret
        exact ⟨retB HF.out.symm, e1.trans e2⟩
    · have hne : ((b.toNat : Int) == 45) = false := by
        have := u8_beq b 45
        rw [decide_eq_false h45] at this
        exact this
      have HF := Lib.hid (show numStart (b :: r) = false by
        simp only [numStart, hd, Bool.false_or]
        rw [show (b == 45) = false by simpa using h45]
        rfl)
      clear h4 h45
      go_enter Tryz.func132, Tryz.ntmps132
      go_wp2_with fail
      refine (implnext hs H.out).mono ?_
      rintro e w1 ⟨rfl, e1⟩
      obtain ⟨c0, c1, c2, c3, _⟩ := HB.out.ext e1
      have k0 := cell_regrown c0
      have k1 := cell_regrown c1
      have cQ := quiet_call (w := w1) (fun w' e' => rdisDigit b w')
      rw [hd] at cQ
      have hN : nextB (some (b :: r)) = b := rfl
      rw [hN]
      go_wp2_with fail
      refine region_ext (by kernel_rfl) (by kernel_rfl) ?_
      repeat (go_big_quiet_step (exact cQ _ _))
      refine wpQuiet_nil ?_
      intro w2 e2
      go_wp2_with fail
      go_ret
      exact ⟨retB HF.out.symm, e1.trans e2⟩
  · have HF := Lib.hid (show numStart (b :: r) = true by simp only [numStart, hd, Bool.true_or])
    clear h4
    go_enter Tryz.func132, Tryz.ntmps132
    go_wp2_with fail
    refine (implnext hs H.out).mono ?_
    rintro e w1 ⟨rfl, e1⟩
    obtain ⟨c0, c1, c2, c3, _⟩ := HB.out.ext e1
    have k0 := cell_regrown c0
    have k1 := cell_regrown c1
    have cQ := quiet_call (w := w1) (fun w' e' => rdisDigit b w')
    rw [hd] at cQ
    have hN : nextB (some (b :: r)) = b := rfl
    rw [hN]
    go_wp2_with fail
    refine region_ext (by kernel_rfl) (by kernel_rfl) ?_
    repeat (go_big_quiet_step (exact cQ _ _))
    refine wpQuiet_nil ?_
    intro w2 e2
    go_wp2_with fail
    go_ret
    exact ⟨retB HF.out.symm, e1.trans e2⟩
end Go.Proofs.YtognkaebiafgbaaGreatDoor

namespace Go.Proofs.YtognkaebiafgbaaGreatDoor
open Go.RowKit
set_option linter.unusedVariables false
theorem two_get {S : Nat → Prop} {w : World} {a b : Tm} {ar : Option Addr} (h : [a, b] = [] ∨ ∃ b' off, ar = some ⟨b', off, none⟩ ∧ S b' ∧ Tm.row S w b' off [a, b]) :
    ∃ r off p c p' c', ar = some ⟨r, off, none⟩ ∧ S r ∧ w.cell? ⟨r, off, none⟩ = some (.int .i64 a.kind) ∧ w.cell? ⟨r, off + 1, none⟩ = some (.int .i64 a.n) ∧ w.cell? ⟨r, off + 2, none⟩ = some (.string a.name) ∧ w.cell? ⟨r, off + 3, none⟩ = some (.slice p a.kids.length c) ∧
      w.cell? ⟨r, off + 4, none⟩ = some (.int .i64 b.kind) ∧ w.cell? ⟨r, off + 5, none⟩ = some (.int .i64 b.n) ∧ w.cell? ⟨r, off + 6, none⟩ = some (.string b.name) ∧ w.cell? ⟨r, off + 7, none⟩ = some (.slice p' b.kids.length c') ∧
      Tm.at S w a (val4 a p c) ∧ Tm.at S w b (val4 b p' c') := by
  obtain ⟨r, off, p, c, rfl, hS, k1, k2, k3, k4, hat⟩ := tget h (k := 0) (t := a) rfl
  obtain ⟨r', off', p', c', q, hS', q1, q2, q3, q4, hat'⟩ := tget h (k := 1) (t := b) rfl
  obtain ⟨rfl, rfl⟩ : r = r' ∧ off = off' := by simpa using q
  exact ⟨r, off, p, c, p', c', rfl, hS, by simpa using k1, by simpa using k2, by simpa using k3, by simpa using k4, by simpa using q1, by simpa using q2, by simpa using q3, by simpa using q4, hat, hat'⟩
theorem at_kids {S : Nat → Prop} {w : World} {k n : Int} {s : ByteArray} {ks : List Tm} {ac : Option Addr} {len cc : Nat} (h : Tm.at S w (.mk k n s ks) (.agg #[.int .i64 k, .int .i64 n, .string s, .slice ac len cc])) :
    s.size ≤ 1048576 ∧ len = ks.length ∧ ks.length ≤ cc ∧ cc ≤ 9223372036854775807 ∧ ks.length ≤ 1048576 ∧ (ks = [] ∨ ∃ b' off, ac = some ⟨b', off, none⟩ ∧ S b' ∧ Tm.row S w b' off ks) := by
  obtain ⟨h1, sv, h2, a, c, rfl, h3, h4, h5, h6⟩ := h
  simp at h2
  obtain ⟨rfl, rfl, rfl⟩ := h2
  exact ⟨h1, rfl, h3, h4, h5, h6⟩
def PartC (o : Bool) (fid : FuncId) (u : Tm) : Prop := ∀ (d : Nat) (v : Value) (S : Nat → Prop) (w : World), shapeF u d = true → Tm.at S w u v → TabW w → Calls Tryz.prog fid #[v] w fun e w' => e = .returned (.string (bs (txt o u))) ∧ Ext w w'
theorem txt_var (o : Bool) (n : Int) (s : ByteArray) (ks : List Tm) : txt o (.mk 1 n s ks) = [letB n] := by simp [txt, txF, ownTx]
theorem txt_int (o : Bool) (n : Int) (s : ByteArray) (ks : List Tm) : txt o (.mk 2 n s ks) = Lib.itoa n := by simp [txt, txF, ownTx]
theorem txt_pair {o : Bool} {n : Int} {s : ByteArray} {a b : Tm} (ho : (o && infF 3 s 2) = false) (h : pairF 3 s 2 = true) : txt o (.mk 3 n s [a, b]) = 91 :: (txt o a ++ (rst o b ++ [93])) := by
  simp [txt, rst, txF, ownTx, txL, ho, h]
theorem rst_pair {o : Bool} {n : Int} {s : ByteArray} {a b : Tm} (h : pairF 3 s 2 = true) : rst o (.mk 3 n s [a, b]) = 44 :: (txt o a ++ rst o b) := by
  simp [txt, rst, txF, restTx, txL, h]
theorem rst_nil {o : Bool} {k n : Int} {s : ByteArray} {ks : List Tm} (hp : pairF k s ks.length = false) (h : nilF k s ks.length = true) : rst o (.mk k n s ks) = [] := by
  simp [rst, txF, restTx, txL_len, hp, h]
theorem rst_tail {o : Bool} {k n : Int} {s : ByteArray} {ks : List Tm} (hp : pairF k s ks.length = false) (h : nilF k s ks.length = false) : rst o (.mk k n s ks) = 124 :: txt o (.mk k n s ks) := by
  simp [rst, txt, txF, restTx, txL_len, hp, h]
theorem txt_atom {o : Bool} {n : Int} {s : ByteArray} : txt o (.mk 3 n s []) = s.toList := by
  simp [txt, txF, ownTx, txL, infF, pairF]
theorem txt_args {o : Bool} {n : Int} {s : ByteArray} {ks : List Tm} (ho : (o && infF 3 s ks.length) = false) (h : pairF 3 s ks.length = false) (hl : ks.length ≠ 0) : txt o (.mk 3 n s ks) = s.toList ++ 40 :: (joinF (ks.map (txt o)) ++ [41]) := by
  simp only [txt, txF, ownTx, txL_len, ho, h, if_neg hl, if_neg (show ¬ (3 : Int) = 1 by decide), if_neg (show ¬ (3 : Int) = 2 by decide), if_neg (show ¬ false = true by decide), txL_map]
set_option maxRecDepth 100000 in
set_option maxHeartbeats 4000000 in
theorem impltext_pair (o : Bool) (fid : FuncId) (n : Int) (s : ByteArray) (a b : Tm) (d : Nat) (v : Value) (S : Nat → Prop) (w : World) (hcf : ∀ args w, Sem.run Tryz.prog (callFunc fid args) w = .ok (.enter fid args) w)
    (hp : ∀ u, Tm.sz u < Tm.sz (.mk 3 n s [a, b]) → PartC o fid u) (hsh : shapeF (.mk 3 n s [a, b]) d = true) (hsz : Tm.sz (.mk 3 n s [a, b]) ≤ 120) (hpr : pairF 3 s 2 = true) (ho : (o && infF 3 s 2) = false) (ht : Tm.at S w (.mk 3 n s [a, b]) v) (htab : TabW w) :
    Calls Tryz.prog 139 #[v, .func (.func fid) #[] #[]] w fun e w' => e = .returned (.string (bs (txt o (.mk 3 n s [a, b])))) ∧ Ext w w' := by
  have HP := Lib.hid hp
  have HL := Lib.hid (tx_len o _ d hsh)
  have HSA := Lib.hid (shape_kid hsh (j := 0) (t := a) rfl)
  have HSB := Lib.hid (shape_kid hsh (j := 1) (t := b) rfl)
  have HF := Lib.hid (txt_pair (n := n) (a := a) (b := b) ho hpr)
  have HTAB := Lib.hid htab
  have HZ := Lib.hid hsz
  have ht' := Tm.at_bound ht
  have HT := Lib.hid ht'
  obtain ⟨hs1, sv, rfl, ar, cap, rfl, h1, h2, h3, h4⟩ := ht'
  obtain ⟨rb, off, p, c, p', c', rfl, hSb, k1, k2, k3, k4, q1, q2, q3, q4, hat, hat'⟩ := two_get h4
  have HA := Lib.hid hat
  have HB := Lib.hid hat'
  clear hp hsh hsz ho ht htab h4 hat hat'
  have lrb := hSb.2
  clear hSb
  go_enter Tryz.func139, Tryz.ntmps139
  go_wp2_with fail
  refine (implisPair 3 n s [a, b] _ (fun x => S x ∧ x < w.heap.size) _ (Tm.at_ext (Ext.alloc _ _) HT.out)).mono ?_
  rintro e w1 ⟨rfl, e1⟩
  have E1 := Lib.hid ((Ext.alloc w (.cells #[.int .i64 3, .int .i64 n, .string s, .slice (some ⟨rb, off, none⟩) 2 cap] 25)).trans e1)
  obtain ⟨c0, c1, c2, c3, g0, g1, g2, g3⟩ := (BoxT.new w (.int .i64 3) (.int .i64 n) (.string s) (.slice (some ⟨rb, off, none⟩) 2 cap) 25 rfl).ext e1
  have s1 : w.heap.size < w1.heap.size := block_lt_of_cell c0
  have hp1 : pairF 3 s [a, b].length = true := hpr
  replace k1 := E1.out.cell k1
  replace k2 := E1.out.cell k2
  replace k3 := E1.out.cell k3
  replace k4 := E1.out.cell k4
  replace q1 := E1.out.cell q1
  replace q2 := E1.out.cell q2
  replace q3 := E1.out.cell q3
  replace q4 := E1.out.cell q4
  go_wp2_with fail
  refine (HP.out a (by simp only [Tm.sz, Tm.szL]; omega) _ _ _ _ HSA.out (Tm.at_ext E1.out HA.out) (HTAB.out.ext E1.out)).mono ?_
  rintro e w2 ⟨rfl, e2⟩
  have E2 := Lib.hid (E1.out.trans e2)
  have s2 : w.heap.size < w2.heap.size := Nat.lt_of_lt_of_le s1 (Below.size e2)
  replace c0 := e2.cell c0
  replace c1 := e2.cell c1
  replace c2 := e2.cell c2
  replace c3 := e2.cell c3
  replace q1 := e2.cell q1
  replace q2 := e2.cell q2
  replace q3 := e2.cell q3
  replace q4 := e2.cell q4
  have la : (txt o a).length ≤ 4000 := by
    have h1 := (tx_len o a _ HSA.out).1
    have h2 := HZ.out
    simp only [Tm.sz, Tm.szL] at h2
    omega
  clear k1 k2 k3 k4 g0 g1 g2 g3 e1 e2
  have lb : ¬ 9223372036854775807 < 1 + (bs (txt o a)).size := by rw [bs_size]; omega
  go_wp2_with fail
  go_loopg [5] (Tm.sz b) (fun g sv wr => ∃ (u : Tm) (l : List UInt8) (ac : Option Addr) (cc e : Nat), Tm.sz u ≤ g ∧ sv = .string (bs l) ∧ Hid (l ++ rst o u = 91 :: (txt o a ++ rst o b)) ∧ Hid (shapeF u e = true) ∧ Hid (Tm.sz u ≤ Tm.sz b) ∧
      Hid (BoxT wr w2.heap.size (.int .i64 u.kind) (.int .i64 u.n) (.string u.name) (.slice ac u.kids.length cc)) ∧ Hid (Tm.at (fun x => S x ∧ x < w.heap.size) wr u (.agg #[.int .i64 u.kind, .int .i64 u.n, .string u.name, .slice ac u.kids.length cc])) ∧ Hid (Ext w wr))
  case atStart =>
    refine ⟨b, 91 :: txt o a, p', c', d - 1, Nat.le_refl _, ?_, Lib.hid (by simp), HSB, Lib.hid (Nat.le_refl _), Lib.hid ?_, Lib.hid (Tm.at_ext (E2.out.trans (Ext.alloc _ _)) HB.out), Lib.hid (E2.out.trans (Ext.alloc _ _))⟩
    · exact congrArg Value.string (bs_app [91] _)
    · exact BoxT.new w2 _ _ _ _ 25 rfl
  case round =>
    obtain ⟨u, l, ac, cc, e, hg, rfl, HE, HSU, HSZ, HBX, HAT, HX⟩ := hrel
    have sB : w2.heap.size < wr.heap.size := HBX.out.lt
    have ll : l.length ≤ 4000 := by
      have h1 := congrArg List.length HE.out
      have h2 := (tx_len o a _ HSA.out).1
      have h3 := (tx_len o b _ HSB.out).2
      have h4 := HZ.out
      simp only [Tm.sz, Tm.szL] at h4
      simp only [List.length_append, List.length_cons] at h1
      omega
    obtain ⟨uk, un, us, uks⟩ := u
    simp only [Tm.kind, Tm.n, Tm.name, Tm.kids] at HBX HAT
    obtain ⟨b0, b1, b2, b3, f0, f1, f2, f3⟩ := HBX.out
    go_wp2_with fail
    refine (implisPair uk un us uks _ (fun x => S x ∧ x < w.heap.size) _ HAT.out).mono ?_
    rintro e3 w3 ⟨rfl, e3⟩
    have E3 := Lib.hid (HX.out.trans e3)
    obtain ⟨b0, b1, b2, b3, f0, f1, f2, f3⟩ := HBX.out.ext e3
    have s3 : w2.heap.size < w3.heap.size := block_lt_of_cell b0
    have HBX3 := Lib.hid (HBX.out.ext e3)
    have HAT3 := Lib.hid (Tm.at_ext e3 HAT.out)
    cases hpu : pairF uk us uks.length
    · go_wp2_with fail
      refine (implisNil uk un us uks _ (fun x => S x ∧ x < w.heap.size) _ HAT3.out).mono ?_
      rintro e4 w4 ⟨rfl, e4⟩
      have E4 := Lib.hid (E3.out.trans e4)
      obtain ⟨b0, b1, b2, b3, f0, f1, f2, f3⟩ := HBX3.out.ext e4
      have s4 : w2.heap.size < w4.heap.size := block_lt_of_cell b0
      cases hnu : nilF uk us uks.length
      · have HR := Lib.hid (rst_tail (o := o) (n := un) (ks := uks) hpu hnu)
        have hz1 := HSZ.out
        go_wp2_with fail
        refine (HP.out (.mk uk un us uks) (by simp only [Tm.sz, Tm.szL] at hz1 ⊢; omega) _ _ _ _ HSU.out (Tm.at_ext e4 HAT3.out) (HTAB.out.ext E4.out)).mono ?_
        rintro e5 w5 ⟨rfl, e5⟩
        have E5 := Lib.hid (E4.out.trans e5)
        have lx : (txt o (.mk uk un us uks)).length ≤ 4000 := by
          have h1 := (tx_len o _ _ HSU.out).1
          have h4 := HZ.out
          simp only [Tm.sz, Tm.szL] at h1 h4 hz1
          omega
        have lb1 : ¬ 9223372036854775807 < 1 + (bs (txt o (.mk uk un us uks))).size := by rw [bs_size]; omega
        have lb2 : ¬ 9223372036854775807 < (bs l).size + (1 + (bs (txt o (.mk uk un us uks))).size) := by rw [bs_size, bs_size]; omega
        have lb3 : ¬ 9223372036854775807 < (bs l).size + (1 + (bs (txt o (.mk uk un us uks))).size) + 1 := by rw [bs_size, bs_size]; omega
        clear hz1
        go_wp2_with fail
        go_ret
        refine ⟨?_, E5.out⟩
        rw [HF.out]
        have h := HE.out
        rw [HR.out] at h
        refine retS ?_
        show (bs l ++ (bs [124] ++ bs (txt o (.mk uk un us uks)))) ++ bs [93] = bs _
        rw [bs_app, bs_app, bs_app, ← List.append_assoc (txt o a), ← List.cons_append, ← h]
        simp
      · have HR := Lib.hid (rst_nil (o := o) (n := un) (ks := uks) hpu hnu)
        have lb3 : ¬ 9223372036854775807 < (bs l).size + 1 := by rw [bs_size]; omega
        go_wp2_with fail
        go_ret
        refine ⟨?_, E4.out⟩
        rw [HF.out]
        have h := HE.out
        rw [HR.out, List.append_nil] at h
        refine retS ?_
        show bs l ++ bs [93] = bs _
        rw [bs_app, ← List.append_assoc (txt o a), ← List.cons_append, ← h]
    · obtain ⟨rfl, h2l, h46⟩ := pair_two hpu
      obtain ⟨x, y, rfl⟩ := len_two h2l
      have HR := Lib.hid (rst_pair (o := o) (n := un) (a := x) (b := y) hpu)
      have hz1 := HSZ.out
      have HSX := Lib.hid (shape_kid HSU.out (j := 0) (t := x) rfl)
      have HSY := Lib.hid (shape_kid HSU.out (j := 1) (t := y) rfl)
      obtain ⟨_, _, hcc1, hcc2, _, x4⟩ := at_kids HAT3.out
      obtain ⟨ru, offu, px, cx, py, cy, rfl, hSu, k1, k2, k3, k4, r1, r2, r3, r4, hatx, haty⟩ := two_get x4
      have HXA := Lib.hid hatx
      have HYA := Lib.hid haty
      have lru := hSu.2
      have hcc1 : 2 ≤ cc := hcc1
      clear hatx haty x4 hSu
      go_wp2_with fail
      refine (HP.out x (by simp only [Tm.sz, Tm.szL] at hz1 ⊢; omega) _ _ _ _ HSX.out HXA.out (HTAB.out.ext E3.out)).mono ?_
      rintro e4 w4 ⟨rfl, e4⟩
      have E4 := Lib.hid (E3.out.trans e4)
      have HBX4 := Lib.hid (HBX3.out.ext e4)
      obtain ⟨b0, b1, b2, b3, f0, f1, f2, f3⟩ := HBX3.out.ext e4
      replace r1 := e4.cell r1
      replace r2 := e4.cell r2
      replace r3 := e4.cell r3
      replace r4 := e4.cell r4
      have s4 : w2.heap.size < w4.heap.size := block_lt_of_cell b0
      have lx : (txt o x).length ≤ 4000 := by
        have h1 := (tx_len o x _ HSX.out).1
        have h4 := HZ.out
        simp only [Tm.sz, Tm.szL] at h4 hz1
        omega
      have lb1 : ¬ 9223372036854775807 < 1 + (bs (txt o x)).size := by rw [bs_size]; omega
      have lb2 : ¬ 9223372036854775807 < (bs l).size + (1 + (bs (txt o x)).size) := by rw [bs_size, bs_size]; omega
      have HE4 := Lib.hid (show (l ++ 44 :: txt o x) ++ rst o y = 91 :: (txt o a ++ rst o b) by
        have := HE.out
        rw [HR.out] at this
        rw [← this]; simp)
      have HYA4 := Lib.hid (Tm.at_ext e4 HYA.out)
      have HM := Lib.hid (show Tm.sz y < gk ∧ Tm.sz y ≤ Tm.sz b by simp only [Tm.sz, Tm.szL] at hz1 hg; omega)
      clear hz1 k1 k2 k3 k4 e4 e3 hg lx
      go_wp2_with fail
      have f4 : Fr (fun k => k = w2.heap.size) w4 _ := put4_frw w4 (b := w2.heap.size) (.int .i64 y.kind) (.int .i64 y.n) (.string y.name) (.slice py y.kids.length cy) rfl
      go_roundg (Tm.sz y)
      case measure => exact HM.out.1
      case rel =>
        refine ⟨y, l ++ 44 :: txt o x, py, cy, e - 1, Nat.le_refl _, ?_, HE4, HSY, Lib.hid HM.out.2, Lib.hid (BoxT.put4 HBX4.out _ _ _ _), Lib.hid (f4.at HYA4.out (fun k hk h => by omega)), Lib.hid (((Fr.of_ext E4.out).trans f4).toExt (fun k hk h => by omega))⟩
        exact congrArg Value.string (by rw [show (⟨#[44]⟩ : ByteArray) = bs [44] from rfl, bs_app, bs_app]; rfl)
end Go.Proofs.YtognkaebiafgbaaGreatDoor
