/-
  A list of strings in a row of its own (as many as a text has lines), and the lines of a text as a loop finds them.
-/
import Derived.Deep.CutBlock
import Derived.Test.YtognkaebiafgbaaMu30
import Derived.Test.YtognkaebiafgbaaMu5
import Derived.Test.YtognkaebiafgbaaMu17
namespace Go.Proofs.Ytognkaebiafgbaa
open Go.RowKit
set_option linter.unusedVariables false
theorem own_empty1 {w : World} {T b : Nat} (hb : b = w.heap.size) : (w.alloc (.cells #[] T)).ownsRow b T 1 (.slice (some ⟨b, 0, none⟩) 0 0) 0 [] := by
  subst hb
  refine ⟨rfl, .inr ⟨w.heap.size, 0, #[], rfl, Nat.le_refl _, ?_, by omega, by decide, rfl, rfl⟩⟩
  show (w.heap.push _)[w.heap.size]? = _
  simp
def StrJ (Z : Nat → Prop) (xs : List ByteArray) (v : Value) (w : World) : Prop := w.ownsRow 0 9 1 v xs.length (xs.map Value.string) ∧ (∀ g, v.ownBlock = some g → Z g)
theorem StrJ.form {Z : Nat → Prop} {xs : List ByteArray} {v : Value} {w : World} (h : StrJ Z xs v w) : ∃ a c, v = .slice a xs.length c := own_form h.1
theorem StrJ.keep {Z M : Nat → Prop} {xs : List ByteArray} {v : Value} {w w' : World} (h : StrJ Z xs v w) (f : Fr M w w') (hM : ∀ k, k < w.heap.size → M k → ¬ Z k) : StrJ Z xs v w' := by
  refine ⟨own_keep h.1 f (fun g hg hm => ?_), h.2⟩
  exact hM g (h.1.lt g hg).2 hm (h.2 g hg)
theorem StrJ.ext {Z : Nat → Prop} {xs : List ByteArray} {v : Value} {w w' : World} (h : StrJ Z xs v w) (e : Ext w w') : StrJ Z xs v w' := h.keep (M := fun _ => False) (Fr.of_ext e) (fun _ _ h => h.elim)
theorem StrJ.empty {w : World} {b : Nat} {Z : Nat → Prop} (hb : b = w.heap.size) (hz : Z b) : StrJ Z [] (.slice (some ⟨b, 0, none⟩) 0 0) (w.alloc (.cells #[] 9)) :=
  ⟨own_low (own_empty1 hb) (Nat.zero_le _), by intro g hg; simp [Value.ownBlock] at hg; subst hg; exact hz⟩
def StrC (w : World) (xs : List ByteArray) (v : Value) : Prop := ∃ g c, v = .slice (some ⟨g, 0, none⟩) xs.length c ∧ g < w.heap.size ∧ xs.length ≤ c ∧ c ≤ 9223372036854775807 ∧ ∀ (j : Nat) (x : ByteArray), xs[j]? = some x → w.cell? ⟨g, j, none⟩ = some (.string x)
theorem StrC.ext {w w' : World} {xs : List ByteArray} {v : Value} (h : StrC w xs v) (e : Ext w w') : StrC w' xs v := by
  obtain ⟨g, c, h1, h2, h3, h4, h5⟩ := h
  exact ⟨g, c, h1, Nat.lt_of_lt_of_le h2 (Below.size e), h3, h4, fun j x hx => e.cell (h5 j x hx)⟩
theorem StrJ.cells {Z : Nat → Prop} {xs : List ByteArray} {v : Value} {w : World} (h : StrJ Z xs v w) (hne : xs ≠ []) : StrC w xs v := by
  obtain ⟨h1, h2⟩ := h
  have hc := fun g (hg : v.ownBlock = some g) => h1.cells hg
  have hlt := fun g (hg : v.ownBlock = some g) => (h1.lt g hg).2
  obtain ⟨e1, e2⟩ := h1
  rcases e2 with ⟨rfl, e2⟩ | ⟨g, cap, cur, rfl, e3, e4, e5, e6, e7⟩
  · exact absurd (List.eq_nil_of_length_eq_zero e2) hne
  · refine ⟨g, cap, rfl, hlt g rfl, e5, e6, fun j x hx => ?_⟩
    have := hc g rfl j (.string x) (by simp [hx])
    rw [show (⟨g, 0, none⟩ : Addr).add j = ⟨g, 0 + j, none⟩ by unfold Addr.add; split <;> simp_all, Nat.zero_add] at this
    exact this
theorem wpList_append_stj {P : Program} {ops : Array Oper} {rest : List Oper} {o : Oper} {a : Act} {w1 : World} {Q : Exit → Act → World → Prop}
    (hgd : o.guard = none) (s x : Operand) (ty : TypeId)
    (ho : o.op = .call { callee := .builtin .append, args := #[s, x], argTypes := #[ty, ty] })
    (Z : Nat → Prop) (i : TypeInfo) (ht : P.underlying ty = some (.slice 9)) (hi : P.info? 9 = some i) (hz : i.zero = some (.string ⟨#[]⟩))
    (hsize : i.size = 1) (hby : i.bytes = 16)
    (v : Value) (xs : List ByteArray) (z : ByteArray) (hs : a.eval s = v) (happ : StrJ Z xs v w1) {nb : Nat} (hx : a.eval x = .slice (some ⟨nb, 0, none⟩) 1 1)
    (hl : xs.length < 2097152) (hnew : ∀ b, w1.heap.size ≤ b → Z b) (hnb : nb = w1.heap.size)
    (h : ∀ av cv w2, StrJ Z (xs ++ [z]) (.slice av (xs.length + 1) cv) w2 → Fr Z w1 w2 → wpList P ops Q rest (a.put o.dst (.slice av (xs.length + 1) cv)) w2) :
    wpList P ops Q (o :: rest) a (w1.alloc (.cells #[.string z] 9)) := by
  subst hnb
  obtain ⟨how, hzz⟩ := happ
  refine wpList_append_fresh hgd s x ty ho 0 9 i _ 1 16 ht hi hz hsize hby rfl (by decide) v xs.length _ hs (own_ext how (Ext.alloc _ _)) ⟨w1.heap.size, 0, none⟩ 1 1 [.string z] hx rfl (fun j u h => ?_) (by simp [Value.oneCell']) (by unfold maxLen; omega) (by omega) (by omega) ?_
  · have hj : j = 0 := by
      have := (List.getElem?_eq_some_iff.1 h).1
      simpa using this
    subst hj
    simp at h
    subst h
    have := cell_new w1 #[.string z] 9 0 (.string z) rfl
    simp [Addr.add] at this ⊢
  intro v2 w2 ho2 hg2 hfr2 _
  obtain ⟨av, cv, rfl⟩ := own_form ho2
  refine h av cv w2 ⟨by simpa using ho2, ?_⟩ ((Fr.alloc _ _).trans (Fr.of_grown hg2 (fun k hk => hzz k hk)))
  intro g hg
  rcases hfr2 g hg with hh | hh
  · exact hzz g hh
  · exact hnew g (by simp at hh; omega)
theorem info_stj : (Try.prog.info? 9).map (fun i => (i.zero, i.size, i.bytes)) = some (some (.string ⟨#[]⟩), 1, 16) := by kernel_rfl
def CutI (L : List UInt8) (xs : List ByteArray) (f i : Nat) : Prop :=
  (i ≤ L.length ∧ NL ((L.drop f).take (i - f)) ∧ xs.map ByteArray.toList ++ cutL (L.drop f) = cutL L) ∨ (i = L.length + 1 ∧ xs.map ByteArray.toList = cutL L)
theorem cutI_zero (L : List UInt8) : CutI L [] 0 0 := .inl ⟨Nat.zero_le _, by simpa using nl_nil, by simp⟩
theorem cutI_step {L : List UInt8} {xs : List ByteArray} {f i : Nat} {b : UInt8} (h : CutI L xs f i) (hf : f ≤ i) (hi : i < L.length) (hb : L[i]? = some b) (hne : b ≠ 10) : CutI L xs f (i + 1) := by
  rcases h with ⟨h1, h2, h3⟩ | ⟨h1, _⟩
  · refine .inl ⟨by omega, ?_, h3⟩
    have e : (L.drop f)[i - f]? = some b := by rw [List.getElem?_drop, show f + (i - f) = i by omega]; exact hb
    rw [show i + 1 - f = (i - f) + 1 by omega, take_snoc_of e]
    exact nl_app.2 ⟨h2, nl_cons.2 ⟨hne, nl_nil⟩⟩
  · omega
theorem ext_list9 (s : ByteArray) (f i : Nat) : (s.extract f i).toList = (s.toList.drop f).take (i - f) := by
  rw [ByteArray.toList_eq, ByteArray.toList_eq, ByteArray.data_extract, Array.toList_extract, List.extract_eq_take_drop]
theorem cutI_cut {s : ByteArray} {xs : List ByteArray} {f i : Nat} (h : CutI s.toList xs f i) (hf : f ≤ i) (hi : i < s.size) (hb : s.toList[i]? = some 10) : CutI s.toList (xs ++ [s.extract f i]) (i + 1) (i + 1) := by
  have hl := bl_len s
  rcases h with ⟨h1, h2, h3⟩ | ⟨h1, _⟩
  · refine .inl ⟨by omega, by simpa using nl_nil, ?_⟩
    have e : s.toList.drop f = (s.toList.drop f).take (i - f) ++ 10 :: s.toList.drop (i + 1) := by
      conv => lhs; rw [← List.take_append_drop (i - f) (s.toList.drop f)]
      rw [List.drop_drop, show f + (i - f) = i by omega]
      congr 1
      obtain ⟨hlt, hv⟩ := List.getElem?_eq_some_iff.1 hb
      rw [List.drop_eq_getElem_cons hlt, hv]
    rw [← h3, e, cutL_nl _ _ h2, List.map_append, List.append_assoc]
    congr 1
    rw [List.map_singleton, ext_list9]
    rfl
  · omega
theorem cutL_one : ∀ {l : List UInt8}, NL l → cutL l = [l]
  | [], _ => rfl
  | b :: l, h => by
    have h' := nl_cons.1 h
    rw [cutL, if_neg h'.1, cutL_one h'.2]
    rfl
theorem cutI_end {s : ByteArray} {xs : List ByteArray} {f i : Nat} (h : CutI s.toList xs f i) (hf : f ≤ i) (hi : i = s.size) : CutI s.toList (xs ++ [s.extract f i]) (i + 1) (i + 1) := by
  have hl := bl_len s
  rcases h with ⟨h1, h2, h3⟩ | ⟨h1, _⟩
  · refine .inr ⟨by omega, ?_⟩
    have e : (s.toList.drop f).take (i - f) = s.toList.drop f := List.take_of_length_le (by rw [List.length_drop]; omega)
    rw [e] at h2
    rw [← h3, cutL_one h2, List.map_append, List.map_singleton, ext_list9, e]
  · omega
theorem cutI_out {L : List UInt8} {xs : List ByteArray} {f i : Nat} (h : CutI L xs f i) (hi : L.length < i) : xs = (cutL L).map bs := by
  rcases h with ⟨h1, _⟩ | ⟨_, h2⟩
  · omega
  · rw [← h2, List.map_map]
    conv => lhs; rw [← List.map_id xs]
    apply List.map_congr_left
    intro x _
    exact (bs_of x).symm
end Go.Proofs.Ytognkaebiafgbaa

namespace Go.Proofs.Ytognkaebiafgbaa
open Go.RowKit
set_option linter.unusedVariables false
def LinesO (s : ByteArray) (w : World) (e : Ending) (w' : World) : Prop := ∃ g c, e = .returned (.slice (some ⟨g, 0, none⟩) (cutL s.toList).length c) ∧ w.heap.size ≤ g ∧ StrC w' ((cutL s.toList).map bs) (.slice (some ⟨g, 0, none⟩) (cutL s.toList).length c) ∧ Ext w w'
set_option maxRecDepth 100000 in
set_option maxHeartbeats 2000000 in
theorem specl18Cut (s : ByteArray) (w : World) (hs : s.size ≤ 1048576) : Calls Try.prog 51 #[.string s, .int .u8 10] w (LinesO s w) := by
  obtain ⟨i0, hi, hz0, hz1, hz2⟩ := info_parts info_stj
  have J0 := Lib.hid (StrJ.empty (w := w) (b := w.heap.size) (Z := fun b => w.heap.size ≤ b) rfl (Nat.le_refl _))
  have E0 := Lib.hid (Ext.alloc w (.cells #[] 9))
  go_enter Try.func51, Try.ntmps51
  go_wp2_with fail
  go_loopw [5, 6, 7] (fun ov fv iv wr => ∃ (xs : List ByteArray) (av : Option Addr) (cv f i : Nat), ov = .slice av xs.length cv ∧ fv = .int .i64 f ∧ iv = .int .i64 i ∧ i ≤ s.size + 1 ∧ f ≤ i ∧ xs.length ≤ i ∧ Hid (CutI s.toList xs f i) ∧ Hid (StrJ (fun b => w.heap.size ≤ b) xs (.slice av xs.length cv) wr) ∧ Hid (Ext w wr)) (fun _ _ i _ => s.size + 1 - (intOf i).toNat)
  case atStart => exact ⟨[], _, 0, 0, 0, rfl, rfl, rfl, by omega, Nat.le_refl _, Nat.le_refl _, Lib.hid (cutI_zero _), J0, E0⟩
  case round =>
    obtain ⟨xs, av, cv, f, i, rfl, rfl, rfl, hi1, hf, hx, HC, HJ, HE⟩ := hrel
    clear J0 E0
    have hsz := Below.size HE.out
    by_cases hlt : i < s.size
    · have hb : s.toList[i]? = some s[i] := by rw [List.getElem?_eq_getElem (by rw [bl_len]; exact hlt), bl_get]
      have hne : ((i : Int) == (s.size : Int)) = false := by rw [beq_eq_false_iff_ne]; omega
      by_cases h10 : s[i] = 10
      · have hq : ((s[i].toNat : Int) == 10) = true := by rw [h10]; rfl
        have hn := Lib.hid (cutI_cut HC.out hf hlt (by rw [hb, h10]))
        clear h10 hb
        go_wp2_with (at_builtin; refine wpList_append_stj rfl (.tmp 26) (.tmp 31) 42 rfl (fun b => w.heap.size ≤ b) i0 Try.underlying42 hi hz0 hz1 hz2 (.slice av xs.length cv) xs _ rfl HJ.out rfl (by omega) (fun b hb => by omega) (by simp) ?_; intro av2 cv2 w2 hJ2 hF2)
        go_roundw
        case rel => exact ⟨xs ++ [s.extract f i], av2, cv2, i + 1, i + 1, by simp, by go_num, by go_num, by omega, Nat.le_refl _, by simp; omega, hn, Lib.hid (by simpa using hJ2), Lib.hid (((Fr.of_ext HE.out).trans hF2).toExt (fun k hk h => by have h' : w.heap.size ≤ k := h; omega))⟩
        case measure => simp [intOf]; omega
      · have hq : ((s[i].toNat : Int) == 10) = false := by
          rw [beq_eq_false_iff_ne]
          intro e
          exact h10 (UInt8.toNat_inj.1 (by have : s[i].toNat = 10 := by omega
                                           rw [this]; rfl))
        have hn := Lib.hid (cutI_step HC.out hf (by rw [bl_len]; exact hlt) hb h10)
        clear h10 hb
        go_wp2_with fail
        go_roundw
        case rel => exact ⟨xs, av, cv, f, i + 1, rfl, rfl, by go_num, by omega, by omega, by omega, hn, HJ, HE⟩
        case measure => simp [intOf]; omega
    · by_cases heq : i = s.size
      · have hqe : ((i : Int) == (s.size : Int)) = true := by rw [beq_iff_eq]; omega
        have hn := Lib.hid (cutI_end HC.out hf heq)
        have hle : (i : Int) ≤ (s.size : Int) := by omega
        have hfi : (f : Int) ≤ (i : Int) := by omega
        have hgt : ¬ (s.size : Int) < (i : Int) := by omega
        have HEQ := Lib.hid heq
        clear heq
        go_wp2_with (at_builtin; refine wpList_append_stj rfl (.tmp 26) (.tmp 31) 42 rfl (fun b => w.heap.size ≤ b) i0 Try.underlying42 hi hz0 hz1 hz2 (.slice av xs.length cv) xs _ rfl HJ.out rfl (by omega) (fun b hb => by omega) (by simp) ?_; intro av2 cv2 w2 hJ2 hF2)
        go_roundw
        case rel => exact ⟨xs ++ [s.extract f i], av2, cv2, i + 1, i + 1, by simp, by go_num, by go_num, by have := HEQ.out; omega, Nat.le_refl _, by simp; omega, hn, Lib.hid (by simpa using hJ2), Lib.hid (((Fr.of_ext HE.out).trans hF2).toExt (fun k hk h => by have h' : w.heap.size ≤ k := h; omega))⟩
        case measure => simp [intOf]; omega
      · have hxe := cutI_out HC.out (by rw [bl_len]; omega)
        have hgt : ¬ (i : Int) ≤ (s.size : Int) := by omega
        subst hxe
        have hsc := HJ.out.cells (by simpa using cutL_ne s.toList)
        have hzn := HJ.out.2
        rw [List.length_map] at hsc hzn
        obtain ⟨g, c, hv, _⟩ := id hsc
        rw [List.length_map] at hv
        simp only [Value.slice.injEq, true_and] at hv
        obtain ⟨rfl, rfl⟩ := hv
        have HS := Lib.hid hsc
        have hg9 : w.heap.size ≤ g := hzn g rfl
        clear hsc hzn
        go_wp2_with fail
        go_ret
        exact ⟨g, cv, rfl, hg9, HS.out, HE.out⟩
end Go.Proofs.Ytognkaebiafgbaa
