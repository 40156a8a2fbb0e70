/-
  Texts of terms: the program's letter, Itoa and text (without its list of kids); lists of strings in rows of their own.
-/
import Derived.Test.YtifklfnpaigdkaaDoorTxtT
import Derived.Test.YtifklfnpaigdkaaDoorShelf
import Derived.Test.YtifklfnpaigdkaaDoorRetB
import Derived.Laws.IdiomStrings
import Derived.Deep.CutBlock
import Derived.Deep.LoopGhost
namespace Go.Proofs.YtifklfnpaigdkaaDoor
open Go.RowKit
set_option linter.unusedVariables false

/-- the library's table of powers of ten is as its initialiser lays it -/
def TabW (w : World) : Prop := Lib.TabIs Tryd.prog w "internal/strconv.uint64pow10" .u64 Lib.pow10Tab
theorem TabW.ext {w w' : World} (h : TabW w) (e : Ext w w') : TabW w' := by
  unfold TabW Lib.TabIs World.var? at h ⊢
  cases hg : Tryd.prog.globalNamed "internal/strconv.uint64pow10" with
  | none => simp [hg] at h
  | some g =>
    simp only [hg, Option.bind_some] at h ⊢
    have hlt : g < w.heap.size := by
      apply Decidable.byContradiction
      intro hn
      rw [Array.getElem?_eq_none (by omega)] at h
      simp at h
    rw [e.block g hlt]
    exact h
theorem below_ext {w w' : World} (h : Below w.heap.size w w') : Ext w w' := h

/-- strconv.Itoa at the numbers of terms -/
theorem itoaC (n : Int) (h0 : -999 ≤ n) (h1 : n ≤ 999) (w : World) (ht : TabW w) : Calls Tryd.prog 71 #[.int .i64 n] w fun e w' => e = .returned (.string (bs (Lib.itoa n))) ∧ Ext w w' := by
  refine (Tryd.strconv_Itoa n (by omega) (by omega) w ht).mono ?_
  rintro e w' ⟨rfl, k, os, rfl⟩
  exact ⟨rfl, ⟨rfl, rfl, rfl, by simp [Sort.grow, World.drewN], fun j hj => by
    show (w.heap ++ os)[j]? = _
    rw [Array.getElem?_append_left hj]⟩⟩

theorem conv_oneT (w : World) (T : TypeId) (c : UInt8) (x : Int) (hx : x = c.toNat) : Sem.run Tryd.prog (convert 33 9 (.slice (some ⟨w.heap.size, 0, none⟩) 1 1)) (w.alloc (.cells #[.int .u8 x] T)) = .ok (.string ⟨#[c]⟩) (w.alloc (.cells #[.int .u8 x] T)) := by
  subst hx
  exact run_convert_bytes_back (P := Tryd.prog) _ 33 9 5 ⟨w.heap.size, 0, none⟩ 1 [c] Tryd.underlying33 Tryd.underlying5 Tryd.underlying9 (fun j hj => by
    have h1 : j < 1 := hj
    have : j = 0 := by omega
    subst this
    exact cell_new w _ _ 0 _ rfl)
theorem letter_toNat {n : Int} (h0 : 0 ≤ n) (h1 : n ≤ 25) : (65 + n : Int) = ((letB n).toNat : Int) := by
  unfold letB
  rw [UInt8.toNat_ofNat']
  omega
set_option maxRecDepth 100000 in
theorem implletter (n : Int) (h0 : 0 ≤ n) (h1 : n ≤ 25) (w : World) : Calls Tryd.prog 70 #[.int .i64 n] w fun e w' => e = .returned (.string (bs [letB n])) ∧ Ext w w' := by
  have hcv := conv_oneT w 5 _ _ (letter_toNat h0 h1)
  go_enter Tryd.func70, Tryd.ntmps70
  go_wp2_with fail
  go_ret
  exact ⟨rfl, Ext.alloc _ _⟩

/-- a list of strings in a row of its own, in zone Z -/
def StrI (Z : Nat → Prop) (xs : List ByteArray) (v : Value) (w : World) : Prop := w.ownsRow 0 9 1 v xs.length (xs.map Value.string) ∧ (∀ g, v.ownBlock = some g → Z g) ∧ xs.length ≤ 1048576
theorem StrI.nil (Z : Nat → Prop) (w : World) : StrI Z [] (.slice none 0 0) w := ⟨⟨rfl, .inl ⟨rfl, rfl⟩⟩, by simp [Value.ownBlock], by simp⟩
theorem StrI.form {Z : Nat → Prop} {xs : List ByteArray} {v : Value} {w : World} (h : StrI Z xs v w) : ∃ a c, v = .slice a xs.length c := own_form h.1
theorem StrI.keep {Z M : Nat → Prop} {xs : List ByteArray} {v : Value} {w w' : World} (h : StrI Z xs v w) (f : Fr M w w') (hM : ∀ k, k < w.heap.size → M k → ¬ Z k) : StrI Z xs v w' := by
  refine ⟨own_keep h.1 f (fun g hg hm => ?_), h.2⟩
  exact hM g (h.1.lt g hg).2 hm (h.2.1 g hg)
theorem StrI.ext {Z : Nat → Prop} {xs : List ByteArray} {v : Value} {w w' : World} (h : StrI Z xs v w) (e : Ext w w') : StrI Z xs v w' := h.keep (M := fun _ => False) (Fr.of_ext e) (fun _ _ h => h.elim)
/-- where the strings lie -/
theorem StrI.cells {Z : Nat → Prop} {xs : List ByteArray} {v : Value} {w : World} (h : StrI Z xs v w) (hne : xs ≠ []) : ∃ g c, v = .slice (some ⟨g, 0, none⟩) xs.length c ∧ g < w.heap.size ∧ xs.length ≤ c ∧ ∀ (j : Nat) (x : ByteArray), xs[j]? = some x → w.cell? ⟨g, 0 + j, none⟩ = some (.string x) := by
  obtain ⟨h1, h2, h3⟩ := h
  have hc := fun g (hg : v.ownBlock = some g) => h1.cells hg
  have hlt := fun g (hg : v.ownBlock = some g) => (h1.lt g hg).2
  obtain ⟨e1, e2⟩ := h1
  rcases e2 with ⟨rfl, e2⟩ | ⟨g, cap, cur, rfl, e3, e4, e5, e6, e7⟩
  · exact absurd (List.eq_nil_of_length_eq_zero e2) hne
  · refine ⟨g, cap, rfl, hlt g rfl, e5, fun j x hx => ?_⟩
    have := hc g rfl j (.string x) (by simp [hx])
    rw [show (⟨g, 0, none⟩ : Addr).add j = ⟨g, 0 + j, none⟩ by unfold Addr.add; split <;> simp_all] at this
    exact this
theorem wpList_append_str {P : Program} {ops : Array Oper} {rest : List Oper} {o : Oper} {a : Act} {w1 : World} {Q : Exit → Act → World → Prop}
    (hgd : o.guard = none) (s x : Operand) (ty : TypeId)
    (ho : o.op = .call { callee := .builtin .append, args := #[s, x], argTypes := #[ty, ty] })
    (Z : Nat → Prop) (i : TypeInfo) (ht : P.underlying ty = some (.slice 9)) (hi : P.info? 9 = some i) (hz : i.zero = some (.string ⟨#[]⟩))
    (hsize : i.size = 1) (hby : i.bytes = 16)
    (v : Value) (xs : List ByteArray) (z : ByteArray) (hs : a.eval s = v) (happ : StrI Z xs v w1) {nb : Nat} (hx : a.eval x = .slice (some ⟨nb, 0, none⟩) 1 1)
    (hl : xs.length < 1048576) (hnew : ∀ b, w1.heap.size ≤ b → Z b) (hnb : nb = w1.heap.size)
    (h : ∀ av cv w2, StrI Z (xs ++ [z]) (.slice av (xs.length + 1) cv) w2 → Fr Z w1 w2 → wpList P ops Q rest (a.put o.dst (.slice av (xs.length + 1) cv)) w2) :
    wpList P ops Q (o :: rest) a (w1.alloc (.cells #[.string z] 9)) := by
  subst hnb
  obtain ⟨how, hzz, hlen⟩ := happ
  refine wpList_append_fresh hgd s x ty ho 0 9 i _ 1 16 ht hi hz hsize hby rfl (by decide) v xs.length _ hs (own_ext how (Ext.alloc _ _)) ⟨w1.heap.size, 0, none⟩ 1 1 [.string z] hx rfl (fun j u h => ?_) (by simp [Value.oneCell']) (by unfold maxLen; omega) (by omega) (by omega) ?_
  · have hj : j = 0 := by
      have := (List.getElem?_eq_some_iff.1 h).1
      simpa using this
    subst hj
    simp at h
    subst h
    have := cell_new w1 #[.string z] 9 0 (.string z) rfl
    simp [Addr.add] at this ⊢
  intro v2 w2 ho2 hg2 hfr2 _
  obtain ⟨av, cv, rfl⟩ := own_form ho2
  refine h av cv w2 ⟨by simpa using ho2, ?_, by simp; omega⟩ ((Fr.alloc _ _).trans (Fr.of_grown hg2 (fun k hk => hzz k hk)))
  intro g hg
  rcases hfr2 g hg with hh | hh
  · exact hzz g hh
  · exact hnew g (by simp at hh; omega)
theorem info_str : (Tryd.prog.info? 9).map (fun i => (i.zero, i.size, i.bytes)) = some (some (.string ⟨#[]⟩), 1, 16) := by kernel_rfl
theorem join_eq : ∀ xs : List (List UInt8), Lib.join xs [44] = joinF xs
  | [] => rfl
  | [x] => Lib.join_one _ _
  | x :: y :: xs => by
    have := join_eq (y :: xs)
    rw [Lib.join_cons] at this ⊢
    rw [joinF, ← this]
    simp [Lib.joinTail]
/-- strings.Join of texts, with a comma -/
theorem joinC (Z : Nat → Prop) (xs : List (List UInt8)) (v : Value) (w : World) (hne : xs ≠ []) (hlen : (joinF xs).length ≤ 140737488355328) (h : StrI Z (xs.map bs) v w) : Calls Tryd.prog 74 #[v, .string ⟨#[44]⟩] w fun e w' => e = .returned (.string (bs (joinF xs))) ∧ Ext w w' := by
  obtain ⟨g, c, rfl, hg, hc, hcells⟩ := h.cells (by simpa using hne)
  have hm : (xs.map bs).map (fun x => x.data.toList) = xs := by
    rw [List.map_map]
    conv => rhs; rw [← List.map_id xs]
    apply List.map_congr_left
    intro x _
    simp [bs]
  refine (Tryd.strings_Join g 0 c (xs.map bs) ⟨#[44]⟩ w hcells hg (by have := h.2.2; omega) hc (by rw [hm]; rw [show (⟨#[44]⟩ : ByteArray).data.toList = [44] from rfl, join_eq]; exact hlen)).mono ?_
  rintro e w' ⟨rfl, hb⟩
  refine ⟨?_, hb⟩
  rw [hm, show (⟨#[44]⟩ : ByteArray).data.toList = [44] from rfl, join_eq]
  rfl
end Go.Proofs.YtifklfnpaigdkaaDoor
