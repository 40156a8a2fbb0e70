/-
  strings.Split at a line's end cuts a text into its lines.
-/
import Derived.Lib.SplitLaws
import Derived.Deep.CutBlock
import Derived.Laws.IdiomStrings
import Derived.Test.YtognkaebiafgbaaGreatDoorMr23
import Derived.Test.YtognkaebiafgbaaGreatDoorMr3
import Derived.Test.YtognkaebiafgbaaGreatDoorMr10
import Derived.Test.YtognkaebiafgbaaGreatDoorMr13
namespace Go.Proofs.YtognkaebiafgbaaGreatDoor
open Go.RowKit
set_option linter.unusedVariables false
theorem splitK_cut : ∀ l : List UInt8, Lib.splitK [10] 0 (Lib.count l [10]) l = cutL l
  | [] => by rw [Lib.count_one]; rfl
  | b :: l => by
    have ih := splitK_cut l
    by_cases hb : b = 10
    · subst hb
      have hix : Lib.index (10 :: l) [10] = 0 := by rw [Lib.index]; simp [List.isPrefixOf]
      rw [Lib.count_cons_eq, Nat.add_comm 1, Lib.splitK, hix, cutL, if_pos rfl]
      simp only [show ((0 : Int) == -1) = false by decide, Bool.false_eq_true, if_false]
      simpa using ih
    · rw [Lib.count_cons_ne b 10 l hb, cutL, if_neg hb]
      cases hk : Lib.count l [10] with
      | zero =>
        rw [hk] at ih
        rw [← ih]
        rfl
      | succ k =>
        rw [hk] at ih
        have hne : Lib.index l [10] ≠ -1 := by
          intro e
          rw [Lib.count_miss e] at hk
          cases hk
        have hge := Lib.index_ge l [10]
        obtain ⟨j, hj⟩ : ∃ j : Nat, Lib.index l [10] = j := ⟨(Lib.index l [10]).toNat, by omega⟩
        have hp : ([10] : List UInt8).isPrefixOf (b :: l) = false := by simp [List.isPrefixOf, Ne.symm hb]
        have hix : Lib.index (b :: l) [10] = ((j + 1 : Nat) : Int) := by
          rw [Lib.index, hp, hj]
          have : ((j : Int) == -1) = false := by rw [beq_eq_false_iff_ne]; omega
          simp [this]
        have q1 : (((j : Nat) : Int) == -1) = false := by rw [beq_eq_false_iff_ne]; omega
        have q2 : (((j + 1 : Nat) : Int) == -1) = false := by rw [beq_eq_false_iff_ne]; omega
        rw [Lib.splitK, hj, q1] at ih
        rw [Lib.splitK, hix, q2, ← ih]
        simp only [Bool.false_eq_true, if_false, List.headD_cons, List.tail_cons, Int.toNat_natCast, Nat.add_zero, List.take_succ_cons]
        congr 1
theorem split_cut (s : ByteArray) : Lib.splitB ⟨#[10]⟩ 0 (Lib.countB s ⟨#[10]⟩) s = (cutL s.toList).map bs := by
  have h1 := Lib.splitB_data ⟨#[10]⟩ 0 (Lib.countB s ⟨#[10]⟩) s
  have h2 : Lib.splitK (ByteArray.mk #[10]).data.toList 0 (Lib.countB s ⟨#[10]⟩) s.data.toList = cutL s.toList := by
    rw [ByteArray.toList_eq]
    exact splitK_cut s.data.toList
  rw [← h2, ← h1, List.map_map]
  conv => lhs; rw [← List.map_id (Lib.splitB ⟨#[10]⟩ 0 (Lib.countB s ⟨#[10]⟩) s)]
  apply List.map_congr_left
  intro x _
  show x = bs x.data.toList
  rw [← ByteArray.toList_eq, bs_of]
end Go.Proofs.YtognkaebiafgbaaGreatDoor

namespace Go.Proofs.YtognkaebiafgbaaGreatDoor
open Go.RowKit
set_option linter.unusedVariables false
theorem own_empty1 {w : World} {T b : Nat} (hb : b = w.heap.size) : (w.alloc (.cells #[] T)).ownsRow b T 1 (.slice (some ⟨b, 0, none⟩) 0 0) 0 [] := by
  subst hb
  refine ⟨rfl, .inr ⟨w.heap.size, 0, #[], rfl, Nat.le_refl _, ?_, by omega, by decide, rfl, rfl⟩⟩
  show (w.heap.push _)[w.heap.size]? = _
  simp
def StrJ (Z : Nat → Prop) (xs : List ByteArray) (v : Value) (w : World) : Prop := w.ownsRow 0 9 1 v xs.length (xs.map Value.string) ∧ (∀ g, v.ownBlock = some g → Z g)
theorem StrJ.form {Z : Nat → Prop} {xs : List ByteArray} {v : Value} {w : World} (h : StrJ Z xs v w) : ∃ a c, v = .slice a xs.length c := own_form h.1
theorem StrJ.keep {Z M : Nat → Prop} {xs : List ByteArray} {v : Value} {w w' : World} (h : StrJ Z xs v w) (f : Fr M w w') (hM : ∀ k, k < w.heap.size → M k → ¬ Z k) : StrJ Z xs v w' := by
  refine ⟨own_keep h.1 f (fun g hg hm => ?_), h.2⟩
  exact hM g (h.1.lt g hg).2 hm (h.2 g hg)
theorem StrJ.ext {Z : Nat → Prop} {xs : List ByteArray} {v : Value} {w w' : World} (h : StrJ Z xs v w) (e : Ext w w') : StrJ Z xs v w' := h.keep (M := fun _ => False) (Fr.of_ext e) (fun _ _ h => h.elim)
theorem StrJ.empty {w : World} {b : Nat} {Z : Nat → Prop} (hb : b = w.heap.size) (hz : Z b) : StrJ Z [] (.slice (some ⟨b, 0, none⟩) 0 0) (w.alloc (.cells #[] 9)) :=
  ⟨own_low (own_empty1 hb) (Nat.zero_le _), by intro g hg; simp [Value.ownBlock] at hg; subst hg; exact hz⟩
def StrC (w : World) (xs : List ByteArray) (v : Value) : Prop := ∃ g c, v = .slice (some ⟨g, 0, none⟩) xs.length c ∧ g < w.heap.size ∧ xs.length ≤ c ∧ c ≤ 9223372036854775807 ∧ ∀ (j : Nat) (x : ByteArray), xs[j]? = some x → w.cell? ⟨g, j, none⟩ = some (.string x)
theorem StrC.ext {w w' : World} {xs : List ByteArray} {v : Value} (h : StrC w xs v) (e : Ext w w') : StrC w' xs v := by
  obtain ⟨g, c, h1, h2, h3, h4, h5⟩ := h
  exact ⟨g, c, h1, Nat.lt_of_lt_of_le h2 (Below.size e), h3, h4, fun j x hx => e.cell (h5 j x hx)⟩
theorem StrJ.cells {Z : Nat → Prop} {xs : List ByteArray} {v : Value} {w : World} (h : StrJ Z xs v w) (hne : xs ≠ []) : StrC w xs v := by
  obtain ⟨h1, h2⟩ := h
  have hc := fun g (hg : v.ownBlock = some g) => h1.cells hg
  have hlt := fun g (hg : v.ownBlock = some g) => (h1.lt g hg).2
  obtain ⟨e1, e2⟩ := h1
  rcases e2 with ⟨rfl, e2⟩ | ⟨g, cap, cur, rfl, e3, e4, e5, e6, e7⟩
  · exact absurd (List.eq_nil_of_length_eq_zero e2) hne
  · refine ⟨g, cap, rfl, hlt g rfl, e5, e6, fun j x hx => ?_⟩
    have := hc g rfl j (.string x) (by simp [hx])
    rw [show (⟨g, 0, none⟩ : Addr).add j = ⟨g, 0 + j, none⟩ by unfold Addr.add; split <;> simp_all, Nat.zero_add] at this
    exact this
theorem wpList_append_stj {P : Program} {ops : Array Oper} {rest : List Oper} {o : Oper} {a : Act} {w1 : World} {Q : Exit → Act → World → Prop}
    (hgd : o.guard = none) (s x : Operand) (ty : TypeId)
    (ho : o.op = .call { callee := .builtin .append, args := #[s, x], argTypes := #[ty, ty] })
    (Z : Nat → Prop) (i : TypeInfo) (ht : P.underlying ty = some (.slice 9)) (hi : P.info? 9 = some i) (hz : i.zero = some (.string ⟨#[]⟩))
    (hsize : i.size = 1) (hby : i.bytes = 16)
    (v : Value) (xs : List ByteArray) (z : ByteArray) (hs : a.eval s = v) (happ : StrJ Z xs v w1) {nb : Nat} (hx : a.eval x = .slice (some ⟨nb, 0, none⟩) 1 1)
    (hl : xs.length < 2097152) (hnew : ∀ b, w1.heap.size ≤ b → Z b) (hnb : nb = w1.heap.size)
    (h : ∀ av cv w2, StrJ Z (xs ++ [z]) (.slice av (xs.length + 1) cv) w2 → Fr Z w1 w2 → wpList P ops Q rest (a.put o.dst (.slice av (xs.length + 1) cv)) w2) :
    wpList P ops Q (o :: rest) a (w1.alloc (.cells #[.string z] 9)) := by
  subst hnb
  obtain ⟨how, hzz⟩ := happ
  refine wpList_append_fresh hgd s x ty ho 0 9 i _ 1 16 ht hi hz hsize hby rfl (by decide) v xs.length _ hs (own_ext how (Ext.alloc _ _)) ⟨w1.heap.size, 0, none⟩ 1 1 [.string z] hx rfl (fun j u h => ?_) (by simp [Value.oneCell']) (by unfold maxLen; omega) (by omega) (by omega) ?_
  · have hj : j = 0 := by
      have := (List.getElem?_eq_some_iff.1 h).1
      simpa using this
    subst hj
    simp at h
    subst h
    have := cell_new w1 #[.string z] 9 0 (.string z) rfl
    simp [Addr.add] at this ⊢
  intro v2 w2 ho2 hg2 hfr2 _
  obtain ⟨av, cv, rfl⟩ := own_form ho2
  refine h av cv w2 ⟨by simpa using ho2, ?_⟩ ((Fr.alloc _ _).trans (Fr.of_grown hg2 (fun k hk => hzz k hk)))
  intro g hg
  rcases hfr2 g hg with hh | hh
  · exact hzz g hh
  · exact hnew g (by simp at hh; omega)
theorem info_stj : (Tryz.prog.info? 9).map (fun i => (i.zero, i.size, i.bytes)) = some (some (.string ⟨#[]⟩), 1, 16) := by kernel_rfl
def CutI (L : List UInt8) (xs : List ByteArray) (f i : Nat) : Prop :=
  (i ≤ L.length ∧ NL ((L.drop f).take (i - f)) ∧ xs.map ByteArray.toList ++ cutL (L.drop f) = cutL L) ∨ (i = L.length + 1 ∧ xs.map ByteArray.toList = cutL L)
theorem cutI_zero (L : List UInt8) : CutI L [] 0 0 := .inl ⟨Nat.zero_le _, by simpa using nl_nil, by simp⟩
theorem cutI_step {L : List UInt8} {xs : List ByteArray} {f i : Nat} {b : UInt8} (h : CutI L xs f i) (hf : f ≤ i) (hi : i < L.length) (hb : L[i]? = some b) (hne : b ≠ 10) : CutI L xs f (i + 1) := by
  rcases h with ⟨h1, h2, h3⟩ | ⟨h1, _⟩
  · refine .inl ⟨by omega, ?_, h3⟩
    have e : (L.drop f)[i - f]? = some b := by rw [List.getElem?_drop, show f + (i - f) = i by omega]; exact hb
    rw [show i + 1 - f = (i - f) + 1 by omega, take_snoc_of e]
    exact nl_app.2 ⟨h2, nl_cons.2 ⟨hne, nl_nil⟩⟩
  · omega
theorem ext_list9 (s : ByteArray) (f i : Nat) : (s.extract f i).toList = (s.toList.drop f).take (i - f) := by
  rw [ByteArray.toList_eq, ByteArray.toList_eq, ByteArray.data_extract, Array.toList_extract, List.extract_eq_take_drop]
theorem cutI_cut {s : ByteArray} {xs : List ByteArray} {f i : Nat} (h : CutI s.toList xs f i) (hf : f ≤ i) (hi : i < s.size) (hb : s.toList[i]? = some 10) : CutI s.toList (xs ++ [s.extract f i]) (i + 1) (i + 1) := by
  have hl := bl_len s
  rcases h with ⟨h1, h2, h3⟩ | ⟨h1, _⟩
  · refine .inl ⟨by omega, by simpa using nl_nil, ?_⟩
    have e : s.toList.drop f = (s.toList.drop f).take (i - f) ++ 10 :: s.toList.drop (i + 1) := by
      conv => lhs; rw [← List.take_append_drop (i - f) (s.toList.drop f)]
      rw [List.drop_drop, show f + (i - f) = i by omega]
      congr 1
      obtain ⟨hlt, hv⟩ := List.getElem?_eq_some_iff.1 hb
      rw [List.drop_eq_getElem_cons hlt, hv]
    rw [← h3, e, cutL_nl _ _ h2, List.map_append, List.append_assoc]
    congr 1
    rw [List.map_singleton, ext_list9]
    rfl
  · omega
theorem cutL_one : ∀ {l : List UInt8}, NL l → cutL l = [l]
  | [], _ => rfl
  | b :: l, h => by
    have h' := nl_cons.1 h
    rw [cutL, if_neg h'.1, cutL_one h'.2]
    rfl
theorem cutI_end {s : ByteArray} {xs : List ByteArray} {f i : Nat} (h : CutI s.toList xs f i) (hf : f ≤ i) (hi : i = s.size) : CutI s.toList (xs ++ [s.extract f i]) (i + 1) (i + 1) := by
  have hl := bl_len s
  rcases h with ⟨h1, h2, h3⟩ | ⟨h1, _⟩
  · refine .inr ⟨by omega, ?_⟩
    have e : (s.toList.drop f).take (i - f) = s.toList.drop f := List.take_of_length_le (by rw [List.length_drop]; omega)
    rw [e] at h2
    rw [← h3, cutL_one h2, List.map_append, List.map_singleton, ext_list9, e]
  · omega
theorem cutI_out {L : List UInt8} {xs : List ByteArray} {f i : Nat} (h : CutI L xs f i) (hi : L.length < i) : xs = (cutL L).map bs := by
  rcases h with ⟨h1, _⟩ | ⟨_, h2⟩
  · omega
  · rw [← h2, List.map_map]
    conv => lhs; rw [← List.map_id xs]
    apply List.map_congr_left
    intro x _
    exact (bs_of x).symm
end Go.Proofs.YtognkaebiafgbaaGreatDoor

namespace Go.Proofs.YtognkaebiafgbaaGreatDoor
open Go.RowKit
set_option linter.unusedVariables false
def LinesO (s : ByteArray) (w : World) (e : Ending) (w' : World) : Prop := ∃ g c, e = .returned (.slice (some ⟨g, 0, none⟩) (cutL s.toList).length c) ∧ w.heap.size ≤ g ∧ StrC w' ((cutL s.toList).map bs) (.slice (some ⟨g, 0, none⟩) (cutL s.toList).length c) ∧ Ext w w'
set_option maxRecDepth 100000 in
set_option maxHeartbeats 2000000 in
theorem specl18Cut (s : ByteArray) (w : World) (hs : s.size ≤ 1048576) : Calls Tryz.prog 74 #[.string s, .int .u8 10] w (LinesO s w) := by
  obtain ⟨i0, hi, hz0, hz1, hz2⟩ := info_parts info_stj
  have J0 := Lib.hid (StrJ.empty (w := w) (b := w.heap.size) (Z := fun b => w.heap.size ≤ b) rfl (Nat.le_refl _))
  have E0 := Lib.hid (Ext.alloc w (.cells #[] 9))
  go_enter Tryz.func74, Tryz.ntmps74
  go_wp2_with fail
  go_loopw [5, 6, 7] (fun ov fv iv wr => ∃ (xs : List ByteArray) (av : Option Addr) (cv f i : Nat), ov = .slice av xs.length cv ∧ fv = .int .i64 f ∧ iv = .int .i64 i ∧ i ≤ s.size + 1 ∧ f ≤ i ∧ xs.length ≤ i ∧ Hid (CutI s.toList xs f i) ∧ Hid (StrJ (fun b => w.heap.size ≤ b) xs (.slice av xs.length cv) wr) ∧ Hid (Ext w wr)) (fun _ _ i _ => s.size + 1 - (intOf i).toNat)
  case atStart => exact ⟨[], _, 0, 0, 0, rfl, rfl, rfl, by omega, Nat.le_refl _, Nat.le_refl _, Lib.hid (cutI_zero _), J0, E0⟩
  case round =>
    obtain ⟨xs, av, cv, f, i, rfl, rfl, rfl, hi1, hf, hx, HC, HJ, HE⟩ := hrel
    clear J0 E0
    have hsz := Below.size HE.out
    by_cases hlt : i < s.size
    · have hb : s.toList[i]? = some s[i] := by rw [List.getElem?_eq_getElem (by rw [bl_len]; exact hlt), bl_get]
      have hne : ((i : Int) == (s.size : Int)) = false := by rw [beq_eq_false_iff_ne]; omega
      by_cases h10 : s[i] = 10
      · have hq : ((s[i].toNat : Int) == 10) = true := by rw [h10]; rfl
        have hn := Lib.hid (cutI_cut HC.out hf hlt (by rw [hb, h10]))
        clear h10 hb
        go_wp2_with (at_builtin; refine wpList_append_stj rfl (.tmp 26) (.tmp 31) 69 rfl (fun b => w.heap.size ≤ b) i0 Tryz.underlying69 hi hz0 hz1 hz2 (.slice av xs.length cv) xs _ rfl HJ.out rfl (by omega) (fun b hb => by omega) (by simp) ?_; intro av2 cv2 w2 hJ2 hF2)
        go_roundw
        case rel => exact ⟨xs ++ [s.extract f i], av2, cv2, i + 1, i + 1, by simp, by go_num, by go_num, by omega, Nat.le_refl _, by simp; omega, hn, Lib.hid (by simpa using hJ2), Lib.hid (((Fr.of_ext HE.out).trans hF2).toExt (fun k hk h => by have h' : w.heap.size ≤ k := h; omega))⟩
        case measure => simp [intOf]; omega
      · have hq : ((s[i].toNat : Int) == 10) = false := by
          rw [beq_eq_false_iff_ne]
          intro e
          exact h10 (UInt8.toNat_inj.1 (by have : s[i].toNat = 10 := by omega
                                           rw [this]; rfl))
        have hn := Lib.hid (cutI_step HC.out hf (by rw [bl_len]; exact hlt) hb h10)
        clear h10 hb
        go_wp2_with fail
        go_roundw
        case rel => exact ⟨xs, av, cv, f, i + 1, rfl, rfl, by go_num, by omega, by omega, by omega, hn, HJ, HE⟩
        case measure => simp [intOf]; omega
    · by_cases heq : i = s.size
      · have hqe : ((i : Int) == (s.size : Int)) = true := by rw [beq_iff_eq]; omega
        have hn := Lib.hid (cutI_end HC.out hf heq)
        have hle : (i : Int) ≤ (s.size : Int) := by omega
        have hfi : (f : Int) ≤ (i : Int) := by omega
        have hgt : ¬ (s.size : Int) < (i : Int) := by omega
        have HEQ := Lib.hid heq
        clear heq
        go_wp2_with (at_builtin; refine wpList_append_stj rfl (.tmp 26) (.tmp 31) 69 rfl (fun b => w.heap.size ≤ b) i0 Tryz.underlying69 hi hz0 hz1 hz2 (.slice av xs.length cv) xs _ rfl HJ.out rfl (by omega) (fun b hb => by omega) (by simp) ?_; intro av2 cv2 w2 hJ2 hF2)
        go_roundw
        case rel => exact ⟨xs ++ [s.extract f i], av2, cv2, i + 1, i + 1, by simp, by go_num, by go_num, by have := HEQ.out; omega, Nat.le_refl _, by simp; omega, hn, Lib.hid (by simpa using hJ2), Lib.hid (((Fr.of_ext HE.out).trans hF2).toExt (fun k hk h => by have h' : w.heap.size ≤ k := h; omega))⟩
        case measure => simp [intOf]; omega
      · have hxe := cutI_out HC.out (by rw [bl_len]; omega)
        have hgt : ¬ (i : Int) ≤ (s.size : Int) := by omega
        subst hxe
        have hsc := HJ.out.cells (by simpa using cutL_ne s.toList)
        have hzn := HJ.out.2
        rw [List.length_map] at hsc hzn
        obtain ⟨g, c, hv, _⟩ := id hsc
        rw [List.length_map] at hv
        simp only [Value.slice.injEq, true_and] at hv
        obtain ⟨rfl, rfl⟩ := hv
        have HS := Lib.hid hsc
        have hg9 : w.heap.size ≤ g := hzn g rfl
        clear hsc hzn
        go_wp2_with fail
        go_ret
        exact ⟨g, cv, rfl, hg9, HS.out, HE.out⟩
end Go.Proofs.YtognkaebiafgbaaGreatDoor

namespace Go.Proofs.YtognkaebiafgbaaGreatDoor
open Go.RowKit
set_option linter.unusedVariables false
theorem step_append_ow {P : Program} {ops : Array Oper} {o : Oper} {a : Act} {w0 w1 : World} {K : Act → World → Prop} {Q : Exit → Act → World → Prop} {E : Prop}
    (hgd : o.guard = none) (s x : Operand) (ty : TypeId)
    (ho : o.op = .call { callee := .builtin .append, args := #[s, x], argTypes := #[ty, ty] })
    (z : Nat) (i : TypeInfo) (ht : P.underlying ty = some (.slice 25)) (hi : P.info? 25 = some i) (hz : i.zero = some (.agg #[.int .i64 0, .int .i64 0, .string ⟨#[]⟩, .slice none 0 0]))
    (hsize : i.size = 4) (hby : i.bytes = 56)
    (v : Value) (ts : List Tm) (t : Tm) (a2 : Option Addr) (c2 : Nat) (hs : a.eval s = v) (happ : OwnS (fun b => z ≤ b ∧ b < w0.heap.size) ts v w1) {nb : Nat} (hx : a.eval x = .slice (some ⟨nb, 0, none⟩) 1 1)
    (hv1 : Tm.own (fun b => w0.heap.size ≤ b) w1 t (.slice a2 t.kids.length c2)) (hw : w0.heap.size ≤ w1.heap.size) (hzw : z ≤ w0.heap.size)
    (hl : ts.length < 1048576) (hnb : nb = w1.heap.size)
    (h : ∀ av cv w2, OwnS (fun b => z ≤ b ∧ b < w2.heap.size) (ts ++ [t]) (.slice av (ts.length + 1) cv) w2 → Fr (fun b => z ≤ b) w1 w2 → K (a.put o.dst (.slice av (ts.length + 1) cv)) w2) :
    if Region.wanted o (yielded ops a.tmps) = true then Oper.wp P o a (w1.alloc (.cells #[.int .i64 t.kind, .int .i64 t.n, .string t.name, .slice a2 t.kids.length c2] 25)) K Q else E := by
  subst hnb
  obtain ⟨xs, how, hzz, hfl⟩ := happ
  have hb := own_bound _ _ hv1
  refine step_append_fresh hgd s x ty ho 0 25 i _ 4 56 ht hi hz hsize hby rfl (by decide) v ts.length xs hs (own_ext how (Ext.alloc _ _)) ⟨w1.heap.size, 0, none⟩ 1 1 (tcells t a2 c2) hx rfl (fun j u h => cell_four _ _ _ j u h) (by simp [tcells, Value.oneCell']) (by unfold maxLen; omega) (by omega) (by omega) ?_
  intro v2 w2 ho2 hg2 hfr2
  obtain ⟨av, cv, rfl⟩ := own_form ho2
  have hn := ownS_next how hzz hfl hb (fun b h1 h2 => by omega) (fun b h => h.2) (fun b h => by omega) ho2 hg2 hfr2
  refine h av cv w2 ((hn.bound).mono (M := fun _ => False) (fun b hb => ⟨?_, hb.2⟩) (Fr.refl _ _) (fun _ _ h => h)) ((Fr.alloc _ _).trans (Fr.of_grown hg2 (fun k hk => (hzz k hk).1)))
  rcases hb.1 with h | h | h <;> omega
theorem wpList_append_ow {P : Program} {ops : Array Oper} {rest : List Oper} {o : Oper} {a : Act} {w0 w1 : World} {Q : Exit → Act → World → Prop}
    (hgd : o.guard = none) (s x : Operand) (ty : TypeId)
    (ho : o.op = .call { callee := .builtin .append, args := #[s, x], argTypes := #[ty, ty] })
    (z : Nat) (i : TypeInfo) (ht : P.underlying ty = some (.slice 25)) (hi : P.info? 25 = some i) (hz : i.zero = some (.agg #[.int .i64 0, .int .i64 0, .string ⟨#[]⟩, .slice none 0 0]))
    (hsize : i.size = 4) (hby : i.bytes = 56)
    (v : Value) (ts : List Tm) (t : Tm) (a2 : Option Addr) (c2 : Nat) (hs : a.eval s = v) (happ : OwnS (fun b => z ≤ b ∧ b < w0.heap.size) ts v w1) {nb : Nat} (hx : a.eval x = .slice (some ⟨nb, 0, none⟩) 1 1)
    (hv1 : Tm.own (fun b => w0.heap.size ≤ b) w1 t (.slice a2 t.kids.length c2)) (hw : w0.heap.size ≤ w1.heap.size) (hzw : z ≤ w0.heap.size)
    (hl : ts.length < 1048576) (hnb : nb = w1.heap.size)
    (h : ∀ av cv w2, OwnS (fun b => z ≤ b ∧ b < w2.heap.size) (ts ++ [t]) (.slice av (ts.length + 1) cv) w2 → Fr (fun b => z ≤ b) w1 w2 → wpList P ops Q rest (a.put o.dst (.slice av (ts.length + 1) cv)) w2) :
    wpList P ops Q (o :: rest) a (w1.alloc (.cells #[.int .i64 t.kind, .int .i64 t.n, .string t.name, .slice a2 t.kids.length c2] 25)) := by
  subst hnb
  obtain ⟨xs, how, hzz, hfl⟩ := happ
  have hb := own_bound _ _ hv1
  refine wpList_append_fresh hgd s x ty ho 0 25 i _ 4 56 ht hi hz hsize hby rfl (by decide) v ts.length xs hs (own_ext how (Ext.alloc _ _)) ⟨w1.heap.size, 0, none⟩ 1 1 (tcells t a2 c2) hx rfl (fun j u h => cell_four _ _ _ j u h) (by simp [tcells, Value.oneCell']) (by unfold maxLen; omega) (by omega) (by omega) ?_
  intro v2 w2 ho2 hg2 hfr2 _
  obtain ⟨av, cv, rfl⟩ := own_form ho2
  have hn := ownS_next how hzz hfl hb (fun b h1 h2 => by omega) (fun b h => h.2) (fun b h => by omega) ho2 hg2 hfr2
  refine h av cv w2 ((hn.bound).mono (M := fun _ => False) (fun b hb => ⟨?_, hb.2⟩) (Fr.refl _ _) (fun _ _ h => h)) ((Fr.alloc _ _).trans (Fr.of_grown hg2 (fun k hk => (hzz k hk).1)))
  rcases hb.1 with h | h | h <;> omega
structure KidO (w : World) (O R z : Nat) (ts : List Tm) (u0 u1 u2 : Value) (av : Option Addr) (cv : Nat) (wr : World) : Prop where
  app : OwnS (fun b => z ≤ b ∧ b < wr.heap.size) ts (.slice av ts.length cv) wr
  ext : Ext w wr
  box : BoxT wr O u0 u1 u2 (.slice av ts.length cv)
  res : BoxT wr R (.int .i64 0) (.int .i64 0) (.string ⟨#[]⟩) (.slice none 0 0)
theorem BoxT.set3 {w : World} {b : Nat} {v0 v1 v2 v3 : Value} (h : BoxT w b v0 v1 v2 v3) (u : Value) : BoxT (w.setCell ⟨b, 3, none⟩ u) b v0 v1 v2 u := by
  obtain ⟨c0, c1, c2, c3, f0, f1, f2, f3⟩ := h
  exact ⟨cell_off (by decide) c0, cell_off (by decide) c1, cell_off (by decide) c2, cell_same c3, by rw [World.frozen?_setCell]; exact f0, by rw [World.frozen?_setCell]; exact f1, by rw [World.frozen?_setCell]; exact f2, by rw [World.frozen?_setCell]; exact f3⟩
theorem KidO.next {w wr w1 w2 : World} {O R z : Nat} {ts : List Tm} {t : Tm} {u0 u1 u2 : Value} {av av2 : Option Addr} {cv cv2 : Nat} (h : KidO w O R z ts u0 u1 u2 av cv wr) (hO : w.heap.size ≤ O) (hOz : O < z) (hRz : R < z) (hR : R ≠ O) (e1 : Ext wr w1)
    (hA : OwnS (fun b => z ≤ b ∧ b < w2.heap.size) (ts ++ [t]) (.slice av2 (ts.length + 1) cv2) w2) (hf : Fr (fun b => z ≤ b) w1 w2) : KidO w O R z (ts ++ [t]) u0 u1 u2 av2 cv2 (w2.setCell ⟨O, 3, none⟩ (.slice av2 (ts.length + 1) cv2)) := by
  have hlen : (ts ++ [t]).length = ts.length + 1 := by simp
  refine ⟨?_, ?_, ?_, ?_⟩
  · rw [hlen]
    exact hA.mono (M := fun k => k = O) (fun b hb => ⟨hb.1, by simpa [World.setCell] using hb.2⟩) (Fr.setCell _ rfl) (fun b hb h => by omega)
  · exact ((Fr.of_ext (M := fun b => w.heap.size ≤ b) (h.ext.trans e1)).trans ((hf.mono (fun k _ h => by omega)).trans (Fr.setCell _ hO))).toExt (fun k hk h => by omega)
  · rw [hlen]
    exact ((h.box.ext e1).fr hf (by omega)).set3 _
  · exact ((h.res.ext e1).fr hf (by omega)).fr (M := fun k => k = O) (Fr.setCell _ rfl) hR
end Go.Proofs.YtognkaebiafgbaaGreatDoor

namespace Go.Proofs.YtognkaebiafgbaaGreatDoor
open Go.RowKit
set_option linter.unusedVariables false
def ClOw (c : Cl) (v : Value) (w w' : World) : Prop := ∃ a ca b cb m, v = .agg #[.int .i64 c.head.kind, .int .i64 c.head.n, .string c.head.name, .slice a c.head.kids.length ca, .slice b c.body.length cb] ∧
  Tm.own (fun k => w.heap.size ≤ k ∧ k < m) w' c.head (.slice a c.head.kids.length ca) ∧ OwnS (fun k => m ≤ k ∧ k < w'.heap.size) c.body (.slice b c.body.length cb) w' ∧ w.heap.size ≤ m ∧ m ≤ w'.heap.size
def ClOne (c : Cl) (w : World) (e : Ending) (w' : World) : Prop := ∃ v, e = .returned v ∧ ClOw c v w w' ∧ Ext w w'
def ClTwo (c : Cl) (b : Bool) (w : World) (e : Ending) (w' : World) : Prop := ∃ v, e = .returned (.tuple #[v, .bool b]) ∧ ClOw c v w w' ∧ Ext w w'
theorem ClOw.fr {c : Cl} {v : Value} {w w1 w2 X : World} {b : Nat} (h : ClOw c v w1 w2) (f : Fr (fun k => k = b) w2 X) (hb : b < w1.heap.size) (hw : w.heap.size ≤ w1.heap.size) : ClOw c v w X := by
  obtain ⟨a, ca, b', cb, m, rfl, h1, h2, h3, h4⟩ := h
  have hs := f.size
  exact ⟨a, ca, b', cb, m, rfl, own_mono (fun k hk => ⟨by omega, hk.2⟩) f (fun k hk e => by omega) _ _ h1, h2.mono (fun k hk => ⟨hk.1, by omega⟩) f (fun k hk e => by omega), by omega, by omega⟩
theorem cl_zero {w X : World} (h : w.heap.size ≤ X.heap.size) : ClOw ⟨.mk 0 0 ⟨#[]⟩ [], []⟩ (.agg #[.int .i64 0, .int .i64 0, .string ⟨#[]⟩, .slice none 0 0, .slice none 0 0]) w X :=
  ⟨none, 0, none, 0, w.heap.size, rfl, own_nil _ _ _ _ _ (by decide), OwnS.nil _ _, Nat.le_refl _, h⟩
theorem ret5b_set {P : Program} {fn : Func} {R : Ending → World → Prop} {a : Act} {Y : World} {p q T b : Nat} {u0 u1 u2 u3 u4 v0 v1 v2 v3 v4 y : Value}
    (hres : fn.results = #[.cell p T, .tmp q]) (hT : ∀ w, (isAgg T).run P w = .ok true w) (hs : ∀ w, (sizeOf T).run P w = .ok 5 w) (hp : a.tmps.getD p undef = .pointer (some ⟨b, 0, none⟩)) (hq : a.tmps.getD q undef = y) (hd : a.defers = [])
    (h : BoxC Y b u0 u1 u2 u3 u4)
    (hR : ∀ X, Fr (fun k => k = b) Y X → R (.returned (.tuple #[.agg #[v0, v1, v2, v3, v4], y])) X) :
    bodyPost P fn R .ret a ((((((Y.setCell ⟨b, 0, none⟩ v0).setCell ⟨b, 1, none⟩ v1).setCell ⟨b, 2, none⟩ v2).setCell ⟨b, 3, none⟩ v3)).setCell ⟨b, 4, none⟩ v4) := by
  have h' := (h.setHead v0 v1 v2 v3).setBody v4
  obtain ⟨c0, c1, c2, c3, c4, _⟩ := h'
  refine bodyPost_ret (v := .tuple #[.agg #[v0, v1, v2, v3, v4], y]) ?_ hd (hR _ (Fr.of_grown (set5_grown Y b v0 v1 v2 v3 v4) (fun k e => by cases e; rfl)))
  have hl := load5 (P := P) (T := T) (b := b) hT hs c0 c1 c2 c3 c4
  simp only [results, hres]
  have hp' : a.tmps[p]?.getD undef = .pointer (some ⟨b, 0, none⟩) := by simpa using hp
  have hq' : a.tmps[q]?.getD undef = y := by simpa using hq
  unfold set4 at hl
  simp [hp', hq', asAddr, hl]
end Go.Proofs.YtognkaebiafgbaaGreatDoor

namespace Go.Proofs.YtognkaebiafgbaaGreatDoor
open Go.RowKit
set_option linter.unusedVariables false
def digB (k : Nat) : UInt8 := UInt8.ofNat (48 + k % 10)
def decL (k : Nat) (acc : List UInt8) : List UInt8 := if k = 0 then acc else decL (k / 10) (digB k :: acc)
termination_by k
theorem decL_zero (acc : List UInt8) : decL 0 acc = acc := by rw [decL]; simp
theorem decL_pos {k : Nat} (h : 0 < k) (acc : List UInt8) : decL k acc = decL (k / 10) (digB k :: acc) := by rw [decL, if_neg (by omega)]
theorem decL_le : ∀ (n k : Nat) (acc : List UInt8), k < 10 ^ n → acc.length ≤ (decL k acc).length ∧ (decL k acc).length ≤ acc.length + n
  | 0, k, acc, h => by
    have : k = 0 := by simp at h; omega
    subst this
    rw [decL_zero]
    omega
  | n + 1, k, acc, h => by
    by_cases hk : k = 0
    · subst hk; rw [decL_zero]; omega
    · rw [decL_pos (by omega)]
      have := decL_le n (k / 10) (digB k :: acc) (Nat.div_lt_of_lt_mul (by rw [Nat.pow_succ, Nat.mul_comm] at h; exact h))
      simp only [List.length_cons] at this
      omega
def markB (k : Nat) : ByteArray := if k = 0 then ⟨#[109, 48]⟩ else ⟨(109 :: decL k []).toArray⟩
theorem markB_size {k : Nat} (h : k < 10000000) : (markB k).size ≤ 1048576 := by
  unfold markB
  split
  · decide
  · have := (decL_le 7 k [] (by omega)).2
    simp [ByteArray.size] at this ⊢
    omega
mutual
def markT : Tm → Nat → Tm
  | .mk _ _ _ ks, k => .mk k (k + 1 : Nat) (markB (k + 2)) (markL ks (k + 3))
def markL : List Tm → Nat → List Tm
  | [], _ => []
  | t :: ts, k => markT t k :: markL ts (k + 3 * Tm.sz t)
end
theorem markL_len : ∀ (ts : List Tm) (k : Nat), (markL ts k).length = ts.length
  | [], _ => rfl
  | t :: ts, k => by simp [markL, markL_len ts]
theorem markL_get : ∀ {ts : List Tm} {j k : Nat} {t : Tm}, ts[j]? = some t → (markL ts k)[j]? = some (markT t (k + 3 * Tm.szL (ts.take j)))
  | [], j, k, t, h => by simp at h
  | t0 :: ts, 0, k, t, h => by simp at h; subst h; simp [markL, Tm.szL]
  | t0 :: ts, j + 1, k, t, h => by
    simp only [markL, List.getElem?_cons_succ, List.take_succ_cons, Tm.szL]
    rw [markL_get (by simpa using h)]
    congr 2
    omega
theorem markL_snoc : ∀ {ts : List Tm} {j k : Nat} {t : Tm}, ts[j]? = some t → markL (ts.take (j + 1)) k = markL (ts.take j) k ++ [markT t (k + 3 * Tm.szL (ts.take j))]
  | [], j, k, t, h => by simp at h
  | t0 :: ts, 0, k, t, h => by simp at h; subst h; simp [markL, Tm.szL]
  | t0 :: ts, j + 1, k, t, h => by
    simp only [markL, List.take_succ_cons, Tm.szL, List.cons_append]
    rw [markL_snoc (by simpa using h)]
    congr 4
    omega
theorem szL_snoc' {ts : List Tm} {j : Nat} {t : Tm} (h : ts[j]? = some t) : Tm.szL (ts.take (j + 1)) = Tm.szL (ts.take j) + Tm.sz t := by
  induction ts generalizing j with
  | nil => simp at h
  | cons t0 ts ih =>
    cases j with
    | zero => simp at h; subst h; simp [Tm.szL]
    | succ j =>
      have := ih (j := j) (by simpa using h)
      simp only [List.take_succ_cons, Tm.szL]
      omega
theorem szL_take_le : ∀ (ts : List Tm) (j : Nat), Tm.szL (ts.take j) ≤ Tm.szL ts
  | [], j => by simp
  | t :: ts, 0 => by simp [Tm.szL]
  | t :: ts, j + 1 => by have := szL_take_le ts j; simp only [List.take_succ_cons, Tm.szL]; omega
theorem markT_kids (t : Tm) (k : Nat) : (markT t k).kids = markL t.kids (k + 3) := by cases t; rfl
set_option maxHeartbeats 1000000 in
theorem ba_app (a b : List UInt8) : ((⟨a.toArray⟩ : ByteArray) ++ (⟨b.toArray⟩ : ByteArray)) = ⟨(a ++ b).toArray⟩ := ByteArray.ext (by simp [ByteArray.data_append])
theorem conv_one (w : World) (T : TypeId) (c : UInt8) (x : Int) (hx : x = c.toNat) : Sem.run Tryz.prog (convert 22 9 (.slice (some ⟨w.heap.size, 0, none⟩) 1 1)) (w.alloc (.cells #[.int .u8 x] T)) = .ok (.string ⟨#[c]⟩) (w.alloc (.cells #[.int .u8 x] T)) := by
  subst hx
  exact run_convert_bytes_back (P := Tryz.prog) _ 22 9 5 ⟨w.heap.size, 0, none⟩ 1 [c] Tryz.underlying22 Tryz.underlying5 Tryz.underlying9 (fun j hj => by
    have h1 : j < 1 := hj
    have : j = 0 := by omega
    subst this
    exact cell_new w _ _ 0 _ rfl)
theorem digit_toNat (j : Nat) : (48 + (j : Int) % 10) = ((digB j).toNat : Int) := by
  unfold digB
  rw [UInt8.toNat_ofNat']
  omega
set_option maxRecDepth 100000 in
theorem lawsmarkText (k : Nat) (hk : k < 10000000) (w : World) : Calls Tryz.prog 76 #[.int .i64 k] w fun e w' => e = .returned (.string (markB k)) ∧ Ext w w' := by
  by_cases h0 : k = 0
  · subst h0
    go_enter Tryz.func76, Tryz.ntmps76
    go_wp2_with fail
    go_ret
    exact ⟨rfl, Ext.refl _⟩
  · have HD := Lib.hid (decL_le 7 k [] (by omega))
    have hpos : 0 < k := by omega
    have HK := Lib.hid hk
    have H0 := Lib.hid h0
    have hk2 : k ≤ 9223372036854775807 := by omega
    clear h0 hk
    go_enter Tryz.func76, Tryz.ntmps76
    go_wp2_with fail
    go_loopw [0, 3] (fun n s wr => ∃ (j : Nat) (acc : List UInt8), j ≤ k ∧ n = .int .i64 j ∧ s = .string ⟨acc.toArray⟩ ∧ Hid (decL j acc = decL k []) ∧ Ext w wr) (fun n _ _ => (intOf n).toNat)
    case atStart => exact ⟨k, [], Nat.le_refl _, rfl, rfl, Lib.hid rfl, Ext.refl _⟩
    case round =>
      obtain ⟨j, acc, hj, rfl, rfl, HA, he⟩ := hrel
      have hl := (decL_le 7 j acc (by have := HK.out; omega)).1
      rw [HA.out] at hl
      have hacc : acc.length ≤ 7 := by have := HD.out.2; simp at this; omega
      clear hl
      by_cases hz : 0 < j
      · have HN := Lib.hid (decL_pos hz acc)
        have hd1 : j / 10 ≤ k := by omega
        have hd2 : j / 10 < j := by omega
        have hcv := conv_one wr 5 _ _ (digit_toNat j)
        go_wp2_with fail
        go_roundw
        case rel => exact ⟨j / 10, digB j :: acc, hd1, by go_num, congrArg Value.string (ba_app [_] _), Lib.hid (by rw [← HN.out, HA.out]), he.trans (Ext.alloc _ _)⟩
        case measure => simp only [intOf]; omega
      · obtain rfl : j = 0 := by omega
        have HZ := Lib.hid (decL_zero acc)
        go_wp2_with fail
        go_ret
        refine ⟨retS ?_, he⟩
        have h := HA.out
        rw [HZ.out] at h
        unfold markB
        rw [if_neg H0.out, ← h]
        exact ba_app [109] acc
end Go.Proofs.YtognkaebiafgbaaGreatDoor
