/-
  Lists of numbers: what they read as; append; membership; the variables of a term, in the program and in the reference.
-/
import Derived.Lib.ItoaNum
import Derived.Lib.ItoaLen
import Derived.Test.YtognkaebiafgbaaGreatMv3
import Derived.Test.YtognkaebiafgbaaGreatMv10
import Derived.Test.YtognkaebiafgbaaGreatMv7
import Derived.Test.YtognkaebiafgbaaGreatMv12
namespace Go.Proofs.YtognkaebiafgbaaGreat
open Go.RowKit
set_option linter.unusedVariables false
def hasI (zs : List Int) (x : Int) : Bool := zs.contains x
def eqI (zs us : List Int) : Bool := zs == us
def IntI (Z : Nat → Prop) (zs : List Int) (v : Value) (w : World) : Prop := w.ownsRow 0 3 1 v zs.length (zs.map (Value.int .i64)) ∧ (∀ g, v.ownBlock = some g → Z g) ∧ zs.length ≤ 1048576
theorem IntI.nil (Z : Nat → Prop) (w : World) : IntI Z [] (.slice none 0 0) w := ⟨⟨rfl, .inl ⟨rfl, rfl⟩⟩, by simp [Value.ownBlock], by simp⟩
theorem IntI.form {Z : Nat → Prop} {zs : List Int} {v : Value} {w : World} (h : IntI Z zs v w) : ∃ a c, v = .slice a zs.length c := own_form h.1
theorem IntI.empty {w : World} {b : Nat} {Z : Nat → Prop} (hb : b = w.heap.size) (hz : Z b) : IntI Z [] (.slice (some ⟨b, 0, none⟩) 0 0) (w.alloc (.cells #[] 3)) := by
  subst hb
  refine ⟨⟨rfl, .inr ⟨w.heap.size, 0, #[], rfl, Nat.zero_le _, ?_, by simp, by decide, rfl, rfl⟩⟩, by intro g hg; simp [Value.ownBlock] at hg; subst hg; exact hz, by simp⟩
  show (w.heap.push _)[w.heap.size]? = _
  simp
theorem own_keep {w w' : World} {e size n : Nat} {v : Value} {xs : List Value} {M : Nat → Prop} (h : w.ownsRow 0 e size v n xs) (f : Fr M w w') (hM : ∀ g, v.ownBlock = some g → ¬ M g) : w'.ownsRow 0 e size v n xs := by
  obtain ⟨e1, e2⟩ := h
  refine ⟨e1, ?_⟩
  rcases e2 with e2 | ⟨g, cap, cur, rfl, e3, e4, e5⟩
  · exact .inl e2
  · refine .inr ⟨g, cap, cur, rfl, e3, ?_, e5⟩
    rw [f.block g (by
      obtain ⟨x, _⟩ := Array.getElem?_eq_some_iff.1 e4
      exact x) (hM g rfl)]
    exact e4
theorem IntI.keep {Z M : Nat → Prop} {zs : List Int} {v : Value} {w w' : World} (h : IntI Z zs v w) (f : Fr M w w') (hM : ∀ k, k < w.heap.size → M k → ¬ Z k) : IntI Z zs v w' := by
  refine ⟨own_keep h.1 f (fun g hg hm => ?_), h.2⟩
  exact hM g (h.1.lt g hg).2 hm (h.2.1 g hg)
theorem IntI.ext {Z : Nat → Prop} {zs : List Int} {v : Value} {w w' : World} (h : IntI Z zs v w) (e : Ext w w') : IntI Z zs v w' := h.keep (M := fun _ => False) (Fr.of_ext e) (fun _ _ h => h.elim)
theorem IntI.bound {Z : Nat → Prop} {zs : List Int} {v : Value} {w : World} (h : IntI Z zs v w) : IntI (fun b => Z b ∧ b < w.heap.size) zs v w := ⟨h.1, fun g hg => ⟨h.2.1 g hg, (h.1.lt g hg).2⟩, h.2.2⟩
theorem IntI.zone {Z Z' : Nat → Prop} {zs : List Int} {v : Value} {w : World} (h : IntI Z zs v w) (hz : ∀ b, Z b → Z' b) : IntI Z' zs v w := ⟨h.1, fun g hg => hz g (h.2.1 g hg), h.2.2⟩
theorem IntI.ints {Z : Nat → Prop} {zs : List Int} {v : Value} {w : World} (h : IntI Z zs v w) : IntsAt w zs v := by
  obtain ⟨h1, h2, h3⟩ := h
  have hc := fun g (hg : v.ownBlock = some g) => h1.cells hg
  obtain ⟨e1, e2⟩ := h1
  rcases e2 with ⟨rfl, e2⟩ | ⟨g, cap, cur, rfl, e3, e4, e5, e6, e7⟩
  · have : zs = [] := List.eq_nil_of_length_eq_zero e2
    subst this
    exact ⟨none, 0, rfl, by simp, by omega, by simp, .inl rfl⟩
  · refine ⟨_, cap, rfl, e5, by unfold maxLen at e6; omega, h3, .inr ⟨g, 0, rfl, fun i z hz => ?_⟩⟩
    have := hc g rfl i (.int .i64 z) (by simp [hz])
    rw [show (⟨g, 0, none⟩ : Addr).add i = ⟨g, 0 + i, none⟩ by unfold Addr.add; split <;> simp_all] at this
    exact this
theorem IntsAt.ext {w w' : World} {zs : List Int} {v : Value} (h : IntsAt w zs v) (e : Ext w w') : IntsAt w' zs v := by
  obtain ⟨a, cap, h1, h2, h3, h4, h5⟩ := h
  refine ⟨a, cap, h1, h2, h3, h4, ?_⟩
  rcases h5 with h5 | ⟨b, off, h5, h6⟩
  · exact .inl h5
  · exact .inr ⟨b, off, h5, fun i z hz => e.cell (h6 i z hz)⟩
theorem wpList_append_int {P : Program} {ops : Array Oper} {rest : List Oper} {o : Oper} {a : Act} {w1 : World} {Q : Exit → Act → World → Prop}
    (hgd : o.guard = none) (s x : Operand) (ty : TypeId)
    (ho : o.op = .call { callee := .builtin .append, args := #[s, x], argTypes := #[ty, ty] })
    (Z : Nat → Prop) (i : TypeInfo) (ht : P.underlying ty = some (.slice 3)) (hi : P.info? 3 = some i) (hz : i.zero = some (.int .i64 0))
    (hsize : i.size = 1) (hby : i.bytes = 8)
    (v : Value) (zs : List Int) (z : Int) (hs : a.eval s = v) (happ : IntI Z zs v w1) {nb : Nat} (hx : a.eval x = .slice (some ⟨nb, 0, none⟩) 1 1)
    (hl : zs.length < 1048576) (hnew : ∀ b, w1.heap.size ≤ b → Z b) (hnb : nb = w1.heap.size)
    (h : ∀ av cv w2, IntI Z (zs ++ [z]) (.slice av (zs.length + 1) cv) w2 → Fr Z w1 w2 → wpList P ops Q rest (a.put o.dst (.slice av (zs.length + 1) cv)) w2) :
    wpList P ops Q (o :: rest) a (w1.alloc (.cells #[.int .i64 z] 3)) := by
  subst hnb
  obtain ⟨how, hzz, hlen⟩ := happ
  refine wpList_append_fresh hgd s x ty ho 0 3 i _ 1 8 ht hi hz hsize hby rfl (by decide) v zs.length _ hs (own_ext how (Ext.alloc _ _)) ⟨w1.heap.size, 0, none⟩ 1 1 [.int .i64 z] hx rfl (fun j u h => ?_) (by simp [Value.oneCell']) (by unfold maxLen; omega) (by omega) (by omega) ?_
  · have hj : j = 0 := by
      have := (List.getElem?_eq_some_iff.1 h).1
      simpa using this
    subst hj
    simp at h
    subst h
    have := cell_new w1 #[.int .i64 z] 3 0 (.int .i64 z) rfl
    simp [Addr.add] at this ⊢
  intro v2 w2 ho2 hg2 hfr2 _
  obtain ⟨av, cv, rfl⟩ := own_form ho2
  refine h av cv w2 ⟨by simpa using ho2, ?_, by simp; omega⟩ ((Fr.alloc _ _).trans (Fr.of_grown hg2 (fun k hk => hzz k hk)))
  intro g hg
  rcases hfr2 g hg with hh | hh
  · exact hzz g hh
  · exact hnew g (by simp at hh; omega)
theorem has_take {zs : List Int} {k : Nat} {x z : Int} (hz : zs[k]? = some z) (h : hasI (zs.take k) x = false) (hne : z ≠ x) : hasI (zs.take (k + 1)) x = false := by
  rw [take_snoc_of hz]
  simp [hasI] at h ⊢
  exact ⟨h, fun e => hne e.symm⟩
theorem has_now {zs : List Int} {k : Nat} {x : Int} (hz : zs[k]? = some x) : hasI zs x = true := by
  simp [hasI]
  exact List.mem_of_getElem? hz
theorem has_end {zs : List Int} {k : Nat} {x : Int} (hk : zs.length ≤ k) (h : hasI (zs.take k) x = false) : hasI zs x = false := by
  rw [List.take_of_length_le hk] at h; exact h
set_option maxHeartbeats 400000 in
theorem lawspgIn (zs : List Int) (v : Value) (x : Int) (w : World) (hv : IntsAt w zs v) : Calls Tryz.prog 11 #[v, .int .i64 x] w fun e w' => e = .returned (.bool (hasI zs x)) ∧ w = w' := by
  obtain ⟨a, cap, rfl, h1, h2, h3, h4⟩ := hv
  have H4 := Lib.hid h4
  clear h4
  go_enter Tryz.func11, Tryz.ntmps11
  go_wp2_with fail
  go_loop [5] (fun i => ∃ k : Nat, k ≤ zs.length ∧ i = .int .i64 k ∧ Hid (hasI (zs.take k) x = false)) (fun i => zs.length - (intOf i).toNat)
  case atStart => exact ⟨0, Nat.zero_le _, rfl, Lib.hid (by simp [hasI])⟩
  case round =>
    obtain ⟨k, hk, rfl, Ha⟩ := hrel
    by_cases hlt : k < zs.length
    · rcases H4.out with h4 | ⟨b, off, rfl, h5⟩
      · subst h4; simp at hlt
      · obtain ⟨z, hz⟩ : ∃ z, zs[k]? = some z := ⟨zs[k], by simp [hlt]⟩
        have hc := h5 k z hz
        have Hz := Lib.hid hz
        clear hz h5
        by_cases he : z = x
        · subst he
          have hf := Lib.hid (has_now Hz.out)
          go_wp2_with fail
          go_ret
          exact ⟨retB hf.out.symm, rfl⟩
        · have hf := Lib.hid (has_take Hz.out Ha.out he)
          have he' : (z == x) = false := by simpa using he
          go_wp2_with fail
          go_round
          case rel => exact ⟨k + 1, by omega, by go_num, hf⟩
          case measure => simp [intOf]; omega
    · have hf := Lib.hid (has_end (by omega) Ha.out)
      go_wp2_with fail
      go_ret
      exact ⟨retB hf.out.symm, rfl⟩
theorem ints_ne {zs us : List Int} {k : Nat} {z u : Int} (hz : zs[k]? = some z) (hu : us[k]? = some u) (h : z ≠ u) : eqI zs us = false := by
  simp [eqI]
  intro e
  subst e
  rw [hz] at hu
  exact h (by simpa using hu)
set_option maxHeartbeats 1000000 in
theorem lawspgInts (zs us : List Int) (v v' : Value) (w : World) (hv : IntsAt w zs v) (hu : IntsAt w us v') : Calls Tryz.prog 6 #[v, v'] w fun e w' => e = .returned (.bool (eqI zs us)) ∧ Ext w w' := by
  obtain ⟨a, cap, rfl, h1, h2, h3, h4⟩ := hv
  obtain ⟨a', cap', rfl, h1', h2', h3', h4'⟩ := hu
  have H4 := Lib.hid h4
  have H4' := Lib.hid h4'
  clear h4 h4'
  by_cases hl : zs.length = us.length
  · have HL := Lib.hid hl
    have hl' : ((zs.length : Int) != (us.length : Int)) = false := by simp [bne]; omega
    clear hl
    go_enter Tryz.func6, Tryz.ntmps6
    go_wp2_with fail
    go_loopw [5] (fun i wr => ∃ k : Nat, k ≤ zs.length ∧ i = .int .i64 k ∧ Hid (zs.take k = us.take k) ∧ Hid (Ext w wr)) (fun i _ => zs.length - (intOf i).toNat)
    case atStart => exact ⟨0, Nat.zero_le _, rfl, Lib.hid (by simp), Lib.hid (Ext.refl _)⟩
    case round =>
      obtain ⟨k, hk, rfl, Ha, HE⟩ := hrel
      by_cases hlt : k < zs.length
      · have hlt' : k < us.length := by have := HL.out; omega
        rcases H4.out with h4 | ⟨b, off, rfl, h5⟩
        · subst h4; simp at hlt
        rcases H4'.out with h4 | ⟨b', off', rfl, h5'⟩
        · subst h4; simp at hlt'
        obtain ⟨z, hz⟩ : ∃ z, zs[k]? = some z := ⟨zs[k], by simp [hlt]⟩
        obtain ⟨u, hu⟩ : ∃ u, us[k]? = some u := ⟨us[k], by simp [hlt']⟩
        have hc := cell_regrown (HE.out.cell (h5 k z hz))
        have hc' := cell_regrown (HE.out.cell (h5' k u hu))
        have Hz := Lib.hid hz
        have Hu := Lib.hid hu
        clear hz hu h5 h5'
        by_cases he : z = u
        · subst he
          have hf := Lib.hid (show zs.take (k + 1) = us.take (k + 1) by rw [take_snoc_of Hz.out, take_snoc_of Hu.out, Ha.out])
          have he' : (z != z) = false := by simp
          go_wp2_with fail
          refine region_ext (by kernel_rfl) (by kernel_rfl) ?_
          repeat (quiet_step (fail))
          refine wpQuiet_nil ?_
          intro wq eq
          go_wp2_with fail
          go_roundw
          case rel => exact ⟨k + 1, by omega, by go_num, hf, Lib.hid (HE.out.trans eq)⟩
          case measure => simp [intOf]; omega
        · have hf := Lib.hid (ints_ne Hz.out Hu.out he)
          have he' : (z != u) = true := by simpa [bne] using he
          go_wp2_with fail
          refine region_ext (by kernel_rfl) (by kernel_rfl) ?_
          repeat (quiet_step (fail))
          refine wpQuiet_nil ?_
          intro wq eq
          go_wp2_with fail
          go_ret
          exact ⟨retB hf.out.symm, HE.out.trans eq⟩
      · have hf := Lib.hid (show eqI zs us = true by
          have := Ha.out
          rw [List.take_of_length_le (by omega), List.take_of_length_le (by have := HL.out; omega)] at this
          simpa [eqI] using this)
        go_wp2_with fail
        go_ret
        exact ⟨retB hf.out.symm, HE.out⟩
  · have hl' : ((zs.length : Int) != (us.length : Int)) = true := by simp [bne]; omega
    have hf := Lib.hid (show eqI zs us = false by simp [eqI]; intro e; exact hl (by rw [e]))
    clear hl
    go_enter Tryz.func6, Tryz.ntmps6
    go_wp2_with fail
    go_ret
    exact ⟨retB hf.out.symm, Ext.refl _⟩
end Go.Proofs.YtognkaebiafgbaaGreat

namespace Go.Proofs.YtognkaebiafgbaaGreat
open Go.RowKit
set_option linter.unusedVariables false
theorem info_int : (Tryz.prog.info? 3).map (fun i => (i.zero, i.size, i.bytes)) = some (some (.int .i64 0), 1, 8) := by kernel_rfl
theorem valid_shape {t : Tm} (h : validF t = true) : shapeF t 30 = true := by
  rw [valid_eq] at h
  simp at h
  exact h.1
def IntsOut (zs : List Int) (w : World) (e : Ending) (w' : World) : Prop := ∃ v, e = .returned v ∧ IntI (fun b => w.heap.size ≤ b) zs v w' ∧ Ext w w'
end Go.Proofs.YtognkaebiafgbaaGreat

namespace Go.Proofs.YtognkaebiafgbaaGreat
open Go.RowKit
set_option linter.unusedVariables false
theorem shapeL_mem : ∀ {ts : List Tm} {d : Nat} {t : Tm}, shapeL ts d = true → t ∈ ts → shapeF t d = true
  | [], _, _, _, hm => by simp at hm
  | u :: ts, d, t, h, hm => by
    simp only [shapeL, Bool.and_eq_true] at h
    rcases List.mem_cons.1 hm with rfl | hm
    · exact h.1
    · exact shapeL_mem h.2 hm
end Go.Proofs.YtognkaebiafgbaaGreat

namespace Go.Proofs.YtognkaebiafgbaaGreat
open Go.RowKit
set_option linter.unusedVariables false
theorem shape_own {k n : Int} {s : ByteArray} {ks : List Tm} {d : Nat} (h : shapeF (.mk k n s ks) d = true) : (k = 1 ∧ s.toList = [] ∧ ks = []) ∨ (k = 2 ∧ s.toList = [] ∧ ks = []) ∨ (k = 3 ∧ n = 0) := by
  simp only [shapeF, Bool.and_eq_true] at h
  have h2 := h.1.2
  unfold ownF at h2
  split at h2
  · rename_i hk
    simp at h2
    exact .inl ⟨hk, by simpa using h2.1.2, List.eq_nil_of_length_eq_zero (by simpa using h2.2)⟩
  · split at h2
    · rename_i hk
      simp at h2
      exact .inr (.inl ⟨hk, by simpa using h2.1.2, List.eq_nil_of_length_eq_zero (by simpa using h2.2)⟩)
    · split at h2
      · rename_i hk
        simp at h2
        exact .inr (.inr ⟨hk, h2.1.1⟩)
      · cases h2
end Go.Proofs.YtognkaebiafgbaaGreat

namespace Go.Proofs.YtognkaebiafgbaaGreat
open Go.RowKit
set_option linter.unusedVariables false
def zeroT : Tm := .mk 0 0 ⟨#[]⟩ []
def varT (n : Int) : Tm := .mk 1 n ⟨#[]⟩ []
theorem shape_kid {k n : Int} {s : ByteArray} {ks : List Tm} {d : Nat} (h : shapeF (.mk k n s ks) d = true) {j : Nat} {t : Tm} (ht : ks[j]? = some t) : shapeF t (d - 1) = true := by
  simp only [shapeF, Bool.and_eq_true] at h
  exact shapeL_mem h.2 (List.mem_of_getElem? ht)
theorem shape_var {n : Int} {s : ByteArray} {ks : List Tm} {d : Nat} (h : shapeF (.mk 1 n s ks) d = true) : 0 ≤ n ∧ n ≤ 25 := by
  simp only [shapeF, Bool.and_eq_true] at h
  have h2 := h.1.2
  unfold ownF at h2
  simp at h2
  exact ⟨h2.1.1.1, h2.1.1.2⟩
def lookK (K : List Tm) (n : Int) : Tm := (K[n.toNat]?).getD zeroT
def known0 : List Tm := List.replicate 26 zeroT
theorem look_set {K : List Tm} (hl : K.length = 26) {n m : Int} (hn : 0 ≤ n ∧ n ≤ 25) (hm : 0 ≤ m ∧ m ≤ 25) (u : Tm) : lookK (K.set n.toNat u) m = if m = n then u else lookK K m := by
  unfold lookK
  rw [List.getElem?_set]
  by_cases e : m = n
  · subst e
    rw [if_pos rfl, if_pos rfl, if_pos (by omega)]
    rfl
  · rw [if_neg e, if_neg (by omega)]
theorem look_known0 (n : Int) : lookK known0 n = zeroT := by
  unfold lookK known0
  rw [List.getElem?_replicate]
  split <;> rfl
theorem shape_kind {t : Tm} {d : Nat} (h : shapeF t d = true) : t.kind ≠ 0 := by
  obtain ⟨k, n, s, ks⟩ := t
  rcases shape_own h with ⟨rfl, _⟩ | ⟨rfl, _⟩ | ⟨rfl, _⟩ <;> simp [Tm.kind]
def LeK (K K' : List Tm) : Prop := ∀ n : Int, 0 ≤ n ∧ n ≤ 25 → (lookK K n).kind ≠ 0 → lookK K' n = lookK K n
theorem LeK.trans {A B C : List Tm} (h : LeK A B) (g : LeK B C) : LeK A C := fun n hn hz => by
  have h1 := h n hn hz
  rw [g n hn (by rw [h1]; exact hz), h1]
end Go.Proofs.YtognkaebiafgbaaGreat

namespace Go.Proofs.YtognkaebiafgbaaGreat
open Go.RowKit
set_option linter.unusedVariables false
structure Tx where
  txt : List UInt8
  rst : List UInt8
  lev : Int
  sole : Bool
def letB (n : Int) : UInt8 := UInt8.ofNat (65 + n.toNat)
def tx0 : Tx := ⟨[], [], 0, false⟩
def bs (l : List UInt8) : ByteArray := ⟨l.toArray⟩
theorem bs_list (l : List UInt8) : (bs l).toList = l := by rw [ByteArray.toList_eq]; rfl
theorem bs_of (s : ByteArray) : bs s.toList = s := bl_ext (bs_list _)
theorem bs_size (l : List UInt8) : (bs l).size = l.length := by rw [← bl_len, bs_list]
theorem list_app (a b : ByteArray) : (a ++ b).toList = a.toList ++ b.toList := by simp [ByteArray.toList_eq, ByteArray.data_append]
theorem bs_app (a b : List UInt8) : bs a ++ bs b = bs (a ++ b) := bl_ext (by rw [list_app, bs_list, bs_list, bs_list])
def pairF (k : Int) (s : ByteArray) (len : Nat) : Bool := (k == 3) && (s.toList == [46]) && ((len : Int) == 2)
def nilF (k : Int) (s : ByteArray) (len : Nat) : Bool := (k == 3) && (s.toList == [91, 93]) && ((len : Int) == 0)
def infF (k : Int) (s : ByteArray) (len : Nat) : Bool := (k == 3) && ((len : Int) == 2) && decide (0 < opLevelF s.toList)
def soleF (k : Int) (s : ByteArray) (len : Nat) : Bool := (k == 3) && ((len : Int) == 0) && decide (0 < opLevelF s.toList)
def levF (k : Int) (s : ByteArray) (len : Nat) : Int := if infF k s len = true then opLevelF s.toList else 0
def joinF : List (List UInt8) → List UInt8
  | [] => []
  | [x] => x
  | x :: y :: xs => x ++ 44 :: joinF (y :: xs)
def plB : List UInt8 → Bool
  | [] => false
  | b :: _ => decide (97 ≤ b.toNat ∧ b.toNat ≤ 122) || decide (48 ≤ b.toNat ∧ b.toNat ≤ 57) || decide (65 ≤ b.toNat ∧ b.toNat ≤ 90) || b == 91 || b == 40
def opn (x : Tx) (most : Int) (right : Bool) : List UInt8 := if most < x.lev ∨ x.sole = true ∨ (right = true ∧ plB x.txt = false) then 40 :: (x.txt ++ [41]) else x.txt
def spaced (s : List UInt8) : List UInt8 := if wordF s = true then 32 :: (s ++ [32]) else s
def leftM (s : List UInt8) : Int := if opLevelF s = 3 then 2 else opLevelF s
def ownTx (o : Bool) (k n : Int) (s : ByteArray) (ps : List Tx) : List UInt8 :=
  if k = 1 then [letB n] else if k = 2 then Lib.itoa n else
  if (o && infF k s ps.length) = true then opn (ps.getD 0 tx0) (leftM s.toList) false ++ (spaced s.toList ++ opn (ps.getD 1 tx0) (opLevelF s.toList - 1) true) else
  if pairF k s ps.length = true then 91 :: ((ps.getD 0 tx0).txt ++ ((ps.getD 1 tx0).rst ++ [93])) else
  if ps.length = 0 then s.toList else s.toList ++ 40 :: (joinF (ps.map Tx.txt) ++ [41])
def restTx (o : Bool) (k n : Int) (s : ByteArray) (ps : List Tx) : List UInt8 :=
  if pairF k s ps.length = true then 44 :: ((ps.getD 0 tx0).txt ++ (ps.getD 1 tx0).rst) else if nilF k s ps.length = true then [] else 124 :: ownTx o k n s ps
mutual
def txF (o : Bool) : Tm → Tx
  | .mk k n s ks => ⟨ownTx o k n s (txL o ks), restTx o k n s (txL o ks), levF k s ks.length, soleF k s ks.length⟩
def txL (o : Bool) : List Tm → List Tx
  | [] => []
  | t :: ts => txF o t :: txL o ts
end
def txt (o : Bool) (t : Tm) : List UInt8 := (txF o t).txt
def rst (o : Bool) (t : Tm) : List UInt8 := (txF o t).rst
theorem txL_len (o : Bool) : ∀ ts : List Tm, (txL o ts).length = ts.length
  | [] => rfl
  | t :: ts => by simp [txL, txL_len o ts]
theorem txL_map (o : Bool) : ∀ ts : List Tm, (txL o ts).map Tx.txt = ts.map (txt o)
  | [] => rfl
  | t :: ts => by simp [txL, txL_map o ts, txt]
theorem shape_int' {n : Int} {s : ByteArray} {ks : List Tm} {d : Nat} (h : shapeF (.mk 2 n s ks) d = true) : -999 ≤ n ∧ n ≤ 999 := by
  simp only [shapeF, Bool.and_eq_true] at h
  have h2 := h.1.2
  unfold ownF at h2
  simp at h2
  exact ⟨h2.1.1.1, h2.1.1.2⟩
theorem sign_len {s : ByteArray} (h : hasF signs s = true) : 1 ≤ s.toList.length ∧ s.toList.length ≤ 3 := by
  simp only [hasF, List.any_eq_true, beq_iff_eq] at h
  obtain ⟨x, hx, e⟩ := h
  rw [← e]
  clear e
  simp only [signs, List.mem_cons, List.not_mem_nil, or_false] at hx
  rcases hx with rfl | rfl | rfl | rfl | rfl | rfl | rfl | rfl | rfl | rfl | rfl | rfl | rfl | rfl | rfl <;> simp [ByteArray.toList_eq]
theorem name_len {s : ByteArray} (h : nameF s = true) : 1 ≤ s.toList.length ∧ s.toList.length ≤ 6 := by
  simp only [nameF, Bool.or_eq_true] at h
  rcases h with h | h
  · simp only [wordF, Bool.and_eq_true, decide_eq_true_eq] at h
    exact h.2
  · have := sign_len h; omega
theorem shape_name {n : Int} {s : ByteArray} {ks : List Tm} {d : Nat} (h : shapeF (.mk 3 n s ks) d = true) : nameF s = true ∧ ks.length ≤ 4 := by
  simp only [shapeF, Bool.and_eq_true] at h
  have := h.1.2
  simp [ownF] at this
  exact ⟨this.1.2, this.2⟩
theorem opn_le (x : Tx) (m : Int) (r : Bool) : (opn x m r).length ≤ x.txt.length + 2 := by
  unfold opn
  split
  · simp
  · omega
theorem spaced_le (s : List UInt8) : (spaced s).length ≤ s.length + 2 := by
  unfold spaced
  split
  · simp
  · omega
theorem joinF_le : ∀ xs : List (List UInt8), (joinF xs).length ≤ (xs.map fun x => x.length + 1).sum
  | [] => by simp [joinF]
  | [x] => by simp [joinF]
  | x :: y :: xs => by
    have := joinF_le (y :: xs)
    simp only [joinF, List.length_append, List.length_cons, List.map_cons, List.sum_cons] at this ⊢
    omega
theorem len_two {ks : List Tm} (h : ks.length = 2) : ∃ a b, ks = [a, b] := by
  rcases ks with _ | ⟨a, _ | ⟨b, _ | ⟨c, l⟩⟩⟩ <;> simp at h
  exact ⟨a, b, rfl⟩
theorem inf_two {k : Int} {s : ByteArray} {len : Nat} (h : infF k s len = true) : k = 3 ∧ len = 2 ∧ 0 < opLevelF s.toList := by
  simp [infF] at h; omega
theorem pair_two {k : Int} {s : ByteArray} {len : Nat} (h : pairF k s len = true) : k = 3 ∧ len = 2 ∧ s.toList = [46] := by
  simp [pairF] at h; exact ⟨h.1.1, by omega, h.1.2⟩
mutual
theorem tx_len (o : Bool) : ∀ (t : Tm) (d : Nat), shapeF t d = true → (txt o t).length + 3 ≤ 32 * Tm.sz t ∧ (rst o t).length + 2 ≤ 32 * Tm.sz t
  | .mk k n s ks, d, h => by
    have hl := tx_lens o ks (d - 1) (by simp only [shapeF, Bool.and_eq_true] at h; exact h.2)
    have key : (ownTx o k n s (txL o ks)).length + 3 ≤ 32 * Tm.sz (.mk k n s ks) := by
      rcases shape_own h with ⟨rfl, _, rfl⟩ | ⟨rfl, _, rfl⟩ | ⟨rfl, rfl⟩
      · simp [ownTx, Tm.sz]; omega
      · have := Lib.itoa_length_le n (by have := shape_int' h; omega) (by have := shape_int' h; omega)
        simp [ownTx, Tm.sz]
        omega
      · obtain ⟨hn, _⟩ := shape_name h
        have hn := name_len hn
        simp only [ownTx, if_neg (show ¬ (3 : Int) = 1 by decide), if_neg (show ¬ (3 : Int) = 2 by decide), Tm.sz, txL_len]
        split
        · rename_i hi
          obtain ⟨a, b, rfl⟩ := len_two (inf_two (by simp only [Bool.and_eq_true] at hi; exact hi.2)).2.1
          have h1 := opn_le ((txL o [a, b]).getD 0 tx0) (leftM s.toList) false
          have h2 := opn_le ((txL o [a, b]).getD 1 tx0) (opLevelF s.toList - 1) true
          have h3 := spaced_le s.toList
          have h4 := hl.2 0 a rfl
          have h5 := hl.2 1 b rfl
          have h6 := hl.1
          simp only [txL, List.getD, List.getElem?_cons_zero, List.getElem?_cons_succ, Option.getD_some, Tm.szL, txt, rst, List.map_cons, List.map_nil, List.sum_cons, List.sum_nil] at *
          simp only [List.length_append]
          omega
        · split
          · rename_i _ hp
            obtain ⟨a, b, rfl⟩ := len_two (pair_two hp).2.1
            have h4 := hl.2 0 a rfl
            have h5 := hl.2 1 b rfl
            simp only [txL, List.getD, List.getElem?_cons_zero, List.getElem?_cons_succ, Option.getD_some, Tm.szL, txt, rst] at *
            simp only [List.length_append, List.length_cons, List.length_nil]
            omega
          · split
            · omega
            · have := joinF_le ((txL o ks).map Tx.txt)
              rw [txL_map] at this ⊢
              have h6 := hl.1
              simp only [List.length_append, List.length_cons, List.length_nil, List.map_map] at *
              simp only [Function.comp_def] at *
              omega
    refine ⟨by simpa [txt, txF] using key, ?_⟩
    simp only [rst, txF, restTx]
    split
    · rename_i hp
      rw [txL_len] at hp
      obtain ⟨a, b, rfl⟩ := len_two (pair_two hp).2.1
      have h4 := hl.2 0 a rfl
      have h5 := hl.2 1 b rfl
      simp only [txL, List.getD, List.getElem?_cons_zero, List.getElem?_cons_succ, Option.getD_some, Tm.szL, Tm.sz, txt, rst] at *
      simp only [List.length_append, List.length_cons]
      omega
    · split
      · simp [Tm.sz]; omega
      · simp only [List.length_cons]; omega
theorem tx_lens (o : Bool) : ∀ (ts : List Tm) (d : Nat), shapeL ts d = true → ((ts.map (txt o)).map fun x => x.length + 1).sum ≤ 32 * Tm.szL ts ∧ ∀ (j : Nat) (t : Tm), ts[j]? = some t → (txt o t).length + 3 ≤ 32 * Tm.sz t ∧ (rst o t).length + 2 ≤ 32 * Tm.sz t
  | [], d, h => ⟨by simp, fun j t ht => by simp at ht⟩
  | t :: ts, d, h => by
    simp only [shapeL, Bool.and_eq_true] at h
    have h1 := tx_len o t d h.1
    have h2 := tx_lens o ts d h.2
    refine ⟨?_, fun j u hu => ?_⟩
    · have := h2.1
      simp only [List.map_cons, List.sum_cons, Tm.szL] at this ⊢
      omega
    · rcases j with _ | j
      · simp at hu; subst hu; exact h1
      · exact h2.2 j u (by simpa using hu)
end
theorem opn_ne {x : Tx} {m : Int} {r : Bool} (h : x.txt ≠ []) : opn x m r ≠ [] := by
  unfold opn
  split
  · simp
  · exact h
mutual
theorem tx_ne (o : Bool) : ∀ (t : Tm) (d : Nat), shapeF t d = true → txt o t ≠ []
  | .mk k n s ks, d, h => by
    have hl := tx_nes o ks (d - 1) (by simp only [shapeF, Bool.and_eq_true] at h; exact h.2)
    simp only [txt, txF]
    rcases shape_own h with ⟨rfl, _, rfl⟩ | ⟨rfl, _, rfl⟩ | ⟨rfl, rfl⟩
    · simp [ownTx]
    · simp only [ownTx, if_neg (show ¬ (2 : Int) = 1 by decide), if_true]
      unfold Lib.itoa
      split
      · simp
      · intro e
        have := congrArg List.length e
        rw [Lib.decDigits_length] at this
        have := Lib.nDigits_pos n.toNat
        simp at *
        omega
    · obtain ⟨hn, _⟩ := shape_name h
      have hn := name_len hn
      have hs : s.toList ≠ [] := fun e => by rw [e] at hn; simp at hn
      simp only [ownTx, if_neg (show ¬ (3 : Int) = 1 by decide), if_neg (show ¬ (3 : Int) = 2 by decide), txL_len]
      split
      · rename_i hi
        obtain ⟨a, b, rfl⟩ := len_two (inf_two (by simp only [Bool.and_eq_true] at hi; exact hi.2)).2.1
        have := hl 0 a rfl
        intro e
        have e1 := (List.append_eq_nil_iff.1 e).1
        exact opn_ne (by simpa [txL, txt] using this) e1
      · split
        · simp
        · split
          · exact hs
          · simp
theorem tx_nes (o : Bool) : ∀ (ts : List Tm) (d : Nat), shapeL ts d = true → ∀ (j : Nat) (t : Tm), ts[j]? = some t → txt o t ≠ []
  | [], d, h, j, t, ht => by simp at ht
  | t :: ts, d, h, j, u, hu => by
    simp only [shapeL, Bool.and_eq_true] at h
    rcases j with _ | j
    · simp at hu; subst hu; exact tx_ne o t d h.1
    · exact tx_nes o ts d h.2 j u (by simpa using hu)
end
end Go.Proofs.YtognkaebiafgbaaGreat
