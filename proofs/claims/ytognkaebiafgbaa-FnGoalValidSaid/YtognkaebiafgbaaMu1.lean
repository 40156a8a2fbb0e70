/-
  How lists of strings and terms lie in memory: the readings that the contracts of this claim speak of, and that they last while nothing of what was there is written.
-/
import Derived.WalkKit
import Derived.WalkSpells
import Derived.Lib.Hide
namespace Go.Proofs.Ytognkaebiafgbaa
open Go.RowKit
set_option linter.unusedVariables false
theorem bl_len (s : ByteArray) : s.toList.length = s.size := by rw [ByteArray.toList_eq]; simp
theorem bl_get (s : ByteArray) (k : Nat) (h : k < s.size) : s.toList[k]'(by rw [bl_len]; exact h) = s[k] := by simp only [ByteArray.toList_eq]; rfl
theorem bl_ext {a b : ByteArray} (h : a.toList = b.toList) : a = b := by
  rw [ByteArray.toList_eq, ByteArray.toList_eq] at h
  exact ByteArray.ext (Array.toList_inj.1 h)
theorem retB {a b : Bool} (h : a = b) : Ending.returned (.bool a) = .returned (.bool b) := by rw [h]
theorem retI {k : IntKind} {a b : Int} (h : a = b) : Ending.returned (.int k a) = .returned (.int k b) := by rw [h]
theorem retS {a b : ByteArray} (h : a = b) : Ending.returned (.string a) = .returned (.string b) := by rw [h]
def Ext (w w' : World) : Prop := Below w.heap.size w w'
theorem Ext.refl (w : World) : Ext w w := Below.refl _ _
theorem Ext.trans {a b c : World} (h : Ext a b) (k : Ext b c) : Ext a c := Below.trans h (Below.mono k h.size)
theorem Ext.cell {w w' : World} (h : Ext w w') {a : Addr} {v : Value} (hc : w.cell? a = some v) : w'.cell? a = some v := by
  rw [Below.cell h (block_lt_of_cell hc)]; exact hc
theorem Ext.alloc (w : World) (o : Obj) : Ext w (w.alloc o) := (Below.refl _ _).alloc (Nat.le_refl _) _
theorem Ext.drew (w : World) : Ext w w.drew := (Below.refl _ _).drew
theorem cell_new (w : World) (cs : Array Value) (T : Nat) (i : Nat) (v : Value) (h : cs[i]? = some v) : (w.alloc (.cells cs T)).cell? ⟨w.heap.size, 0 + i, none⟩ = some v := by
  have h1 : (w.alloc (.cells cs T)).heap[w.heap.size]? = some (.cells cs T) := by
    show (w.heap.push (.cells cs T))[w.heap.size]? = _
    simp
  simp only [World.cell?, h1]
  simpa using h
theorem Ext.frozen {w w' : World} (h : Ext w w') {a : Addr} (hb : a.block < w.heap.size) (hf : w.frozen? a = false) : w'.frozen? a = false := by
  rw [Below.frozen h hb]; exact hf
theorem Ext.undrew {w w' : World} (h : Ext w.drew w') : Ext w w' := (Ext.drew w).trans h
def StrsAt (w : World) (ss : List ByteArray) (v : Value) : Prop :=
  ∃ a cap, v = .slice a ss.length cap ∧ ss.length ≤ cap ∧ cap ≤ 1048576 ∧ (∀ s ∈ ss, s.size ≤ 1048576) ∧
    (ss = [] ∨ ∃ b off, a = some ⟨b, off, none⟩ ∧ ∀ i s, ss[i]? = some s → w.cell? ⟨b, off + i, none⟩ = some (.string s))
theorem StrsAt.ext {w w' : World} {ss : List ByteArray} {v : Value} (h : StrsAt w ss v) (e : Ext w w') : StrsAt w' ss v := by
  obtain ⟨a, cap, h1, h2, h3, h4, h5⟩ := h
  refine ⟨a, cap, h1, h2, h3, h4, ?_⟩
  rcases h5 with h5 | ⟨b, off, h5, h6⟩
  · exact .inl h5
  · exact .inr ⟨b, off, h5, fun i s hs => e.cell (h6 i s hs)⟩
inductive Tm where
  | mk (kind n : Int) (name : ByteArray) (kids : List Tm)
def Tm.kind : Tm → Int | .mk k _ _ _ => k
def Tm.n : Tm → Int | .mk _ n _ _ => n
def Tm.name : Tm → ByteArray | .mk _ _ s _ => s
def Tm.kids : Tm → List Tm | .mk _ _ _ ks => ks
mutual
def Tm.cells (S : Nat → Prop) (w : World) (b off : Nat) : Tm → Prop
  | .mk k n s ks => w.cell? ⟨b, off, none⟩ = some (.int .i64 k) ∧ w.cell? ⟨b, off + 1, none⟩ = some (.int .i64 n) ∧ w.cell? ⟨b, off + 2, none⟩ = some (.string s) ∧ s.size ≤ 1048576 ∧
      ∃ a cap, w.cell? ⟨b, off + 3, none⟩ = some (.slice a ks.length cap) ∧ ks.length ≤ cap ∧ cap ≤ 9223372036854775807 ∧ ks.length ≤ 1048576 ∧
        (ks = [] ∨ ∃ b' off', a = some ⟨b', off', none⟩ ∧ S b' ∧ Tm.row S w b' off' ks)
def Tm.row (S : Nat → Prop) (w : World) (b off : Nat) : List Tm → Prop
  | [] => True
  | t :: ts => Tm.cells S w b off t ∧ Tm.row S w b (off + 4) ts
end
def Tm.sl (S : Nat → Prop) (w : World) (ts : List Tm) (v : Value) : Prop :=
  ∃ a cap, v = .slice a ts.length cap ∧ ts.length ≤ cap ∧ cap ≤ 9223372036854775807 ∧ ts.length ≤ 1048576 ∧
    (ts = [] ∨ ∃ b off, a = some ⟨b, off, none⟩ ∧ S b ∧ Tm.row S w b off ts)
def Tm.at (S : Nat → Prop) (w : World) : Tm → Value → Prop
  | .mk k n s ks, v => s.size ≤ 1048576 ∧ ∃ sv, v = .agg #[.int .i64 k, .int .i64 n, .string s, sv] ∧ Tm.sl S w ks sv
theorem Tm.cells_iff {S : Nat → Prop} {w : World} {b off : Nat} {t : Tm} : Tm.cells S w b off t ↔
    ∃ sv, w.cell? ⟨b, off, none⟩ = some (.int .i64 t.kind) ∧ w.cell? ⟨b, off + 1, none⟩ = some (.int .i64 t.n) ∧ w.cell? ⟨b, off + 2, none⟩ = some (.string t.name) ∧
      w.cell? ⟨b, off + 3, none⟩ = some sv ∧ t.name.size ≤ 1048576 ∧ Tm.sl S w t.kids sv := by
  obtain ⟨k, n, s, ks⟩ := t
  simp only [Tm.cells, Tm.kind, Tm.n, Tm.name, Tm.kids, Tm.sl]
  constructor
  · rintro ⟨h1, h2, h3, h4, a, cap, h5, h6⟩
    exact ⟨_, h1, h2, h3, h5, h4, a, cap, rfl, h6⟩
  · rintro ⟨sv, h1, h2, h3, h5, h4, a, cap, rfl, h6⟩
    exact ⟨h1, h2, h3, h4, a, cap, h5, h6⟩
theorem Tm.at_iff {S : Nat → Prop} {w : World} {t : Tm} {v : Value} : Tm.at S w t v ↔
    t.name.size ≤ 1048576 ∧ ∃ sv, v = .agg #[.int .i64 t.kind, .int .i64 t.n, .string t.name, sv] ∧ Tm.sl S w t.kids sv := by
  obtain ⟨k, n, s, ks⟩ := t
  exact Iff.rfl
def Agree (S : Nat → Prop) (w w' : World) : Prop := ∀ b o v, S b → w.cell? ⟨b, o, none⟩ = some v → w'.cell? ⟨b, o, none⟩ = some v
theorem Agree.refl {S : Nat → Prop} (w : World) : Agree S w w := fun _ _ _ _ h => h
theorem Agree.trans {S : Nat → Prop} {a b c : World} (h : Agree S a b) (k : Agree S b c) : Agree S a c := fun b o v hS hc => k b o v hS (h b o v hS hc)
theorem Agree.setCell {S : Nat → Prop} {w : World} {a : Addr} {u : Value} (h : ¬ S a.block) : Agree S w (w.setCell a u) := fun b o v hS hc => by
  rw [World.cell?_of_block (w := w) (a := ⟨b, o, none⟩) (Below.heap_setCell w a u b (fun e => h (e ▸ hS)))]
  exact hc
theorem Agree.of_ext {S : Nat → Prop} {w w' : World} (e : Ext w w') : Agree S w w' := fun b o v _ h => e.cell h
mutual
theorem Tm.cells_mono {S S' : Nat → Prop} {w w' : World} (hS : ∀ b, S b → S' b) (ha : Agree S w w') {b off b' : Nat} (hb : ∀ o v, w.cell? ⟨b, o, none⟩ = some v → w'.cell? ⟨b, o, none⟩ = some v) :
    ∀ (t : Tm), Tm.cells S w b off t → Tm.cells S' w' b off t
  | .mk k n s ks, h => by
    simp only [Tm.cells] at h ⊢
    obtain ⟨h1, h2, h3, h4, a, cap, h5, h6, h7, h8, h9⟩ := h
    refine ⟨hb _ _ h1, hb _ _ h2, hb _ _ h3, h4, a, cap, hb _ _ h5, h6, h7, h8, ?_⟩
    rcases h9 with h9 | ⟨b1, off1, h9, h10, h11⟩
    · exact .inl h9
    · exact .inr ⟨b1, off1, h9, hS _ h10, Tm.row_mono hS ha (b' := 0) (fun o v => ha _ o v h10) ks h11⟩
theorem Tm.row_mono {S S' : Nat → Prop} {w w' : World} (hS : ∀ b, S b → S' b) (ha : Agree S w w') {b off b' : Nat} (hb : ∀ o v, w.cell? ⟨b, o, none⟩ = some v → w'.cell? ⟨b, o, none⟩ = some v) :
    ∀ (ts : List Tm), Tm.row S w b off ts → Tm.row S' w' b off ts
  | [], _ => by simp [Tm.row]
  | t :: ts, h => by
    simp only [Tm.row] at h ⊢
    exact ⟨Tm.cells_mono hS ha (b' := 0) hb t h.1, Tm.row_mono hS ha (b' := 0) hb ts h.2⟩
end
theorem Tm.sl_mono {S S' : Nat → Prop} {w w' : World} (hS : ∀ b, S b → S' b) (ha : Agree S w w') {ts : List Tm} {v : Value} (h : Tm.sl S w ts v) : Tm.sl S' w' ts v := by
  obtain ⟨a, cap, h1, h2, h3, h4, h5⟩ := h
  refine ⟨a, cap, h1, h2, h3, h4, ?_⟩
  rcases h5 with h5 | ⟨b, off, h5, h6, h7⟩
  · exact .inl h5
  · exact .inr ⟨b, off, h5, hS _ h6, Tm.row_mono hS ha (b' := 0) (fun o v => ha _ o v h6) ts h7⟩
theorem Tm.at_mono {S S' : Nat → Prop} {w w' : World} (hS : ∀ b, S b → S' b) (ha : Agree S w w') {t : Tm} {v : Value} (h : Tm.at S w t v) : Tm.at S' w' t v := by
  rw [Tm.at_iff] at h ⊢
  obtain ⟨h1, sv, h2, h3⟩ := h
  exact ⟨h1, sv, h2, Tm.sl_mono hS ha h3⟩
theorem Tm.at_ext {S : Nat → Prop} {w w' : World} (e : Ext w w') {t : Tm} {v : Value} (h : Tm.at S w t v) : Tm.at S w' t v := Tm.at_mono (fun _ h => h) (Agree.of_ext e) h
theorem Tm.sl_ext {S : Nat → Prop} {w w' : World} (e : Ext w w') {ts : List Tm} {v : Value} (h : Tm.sl S w ts v) : Tm.sl S w' ts v := Tm.sl_mono (fun _ h => h) (Agree.of_ext e) h
theorem Tm.row_get {S : Nat → Prop} {w : World} {b : Nat} : ∀ {ts : List Tm} {off : Nat}, Tm.row S w b off ts → ∀ (i : Nat) (t : Tm), ts[i]? = some t → Tm.cells S w b (off + i * 4) t
  | [], _, _, i, t, h => by simp at h
  | t0 :: ts, off, h, 0, t, ht => by
    simp at ht; subst ht
    simp only [Tm.row] at h
    simpa using h.1
  | t0 :: ts, off, h, i + 1, t, ht => by
    simp only [Tm.row] at h
    have := Tm.row_get h.2 i t (by simpa using ht)
    rw [show off + (i + 1) * 4 = off + 4 + i * 4 by omega]
    exact this
theorem Tm.at_of_cells {S : Nat → Prop} {w : World} {b off : Nat} {t : Tm} (h : Tm.cells S w b off t) :
    ∃ a cap, w.cell? ⟨b, off, none⟩ = some (.int .i64 t.kind) ∧ w.cell? ⟨b, off + 1, none⟩ = some (.int .i64 t.n) ∧ w.cell? ⟨b, off + 2, none⟩ = some (.string t.name) ∧
      w.cell? ⟨b, off + 3, none⟩ = some (.slice a t.kids.length cap) ∧ Tm.at S w t (.agg #[.int .i64 t.kind, .int .i64 t.n, .string t.name, .slice a t.kids.length cap]) := by
  obtain ⟨sv, h1, h2, h3, h4, h5, a, cap, rfl, h6⟩ := Tm.cells_iff.1 h
  exact ⟨a, cap, h1, h2, h3, h4, Tm.at_iff.2 ⟨h5, _, rfl, a, cap, rfl, h6⟩⟩
theorem Tm.row_lt {S : Nat → Prop} {w : World} {b off : Nat} {t : Tm} {ts : List Tm} (h : Tm.row S w b off (t :: ts)) : b < w.heap.size := by
  simp only [Tm.row] at h
  obtain ⟨sv, h1, _⟩ := Tm.cells_iff.1 h.1
  exact block_lt_of_cell h1
mutual
theorem Tm.cells_bound {S : Nat → Prop} {w : World} {b off : Nat} : ∀ (t : Tm), Tm.cells S w b off t → Tm.cells (fun b => S b ∧ b < w.heap.size) w b off t
  | .mk k n s ks, h => by
    simp only [Tm.cells] at h ⊢
    obtain ⟨h1, h2, h3, h4, a, cap, h5, h6, h7, h8, h9⟩ := h
    refine ⟨h1, h2, h3, h4, a, cap, h5, h6, h7, h8, ?_⟩
    rcases h9 with h9 | ⟨b1, off1, h9, h10, h11⟩
    · exact .inl h9
    · cases ks with
      | nil => exact .inl rfl
      | cons t ts => exact .inr ⟨b1, off1, h9, ⟨h10, Tm.row_lt h11⟩, Tm.row_bound _ h11⟩
theorem Tm.row_bound {S : Nat → Prop} {w : World} {b off : Nat} : ∀ (ts : List Tm), Tm.row S w b off ts → Tm.row (fun b => S b ∧ b < w.heap.size) w b off ts
  | [], _ => by simp [Tm.row]
  | t :: ts, h => by
    simp only [Tm.row] at h ⊢
    exact ⟨Tm.cells_bound t h.1, Tm.row_bound ts h.2⟩
end
theorem Tm.sl_bound {S : Nat → Prop} {w : World} {ts : List Tm} {v : Value} (h : Tm.sl S w ts v) : Tm.sl (fun b => S b ∧ b < w.heap.size) w ts v := by
  obtain ⟨a, cap, h1, h2, h3, h4, h5⟩ := h
  refine ⟨a, cap, h1, h2, h3, h4, ?_⟩
  rcases h5 with h5 | ⟨b, off, h5, h6, h7⟩
  · exact .inl h5
  · cases ts with
    | nil => exact .inl rfl
    | cons t ts => exact .inr ⟨b, off, h5, ⟨h6, Tm.row_lt h7⟩, Tm.row_bound _ h7⟩
theorem Tm.at_bound {S : Nat → Prop} {w : World} {t : Tm} {v : Value} (h : Tm.at S w t v) : Tm.at (fun b => S b ∧ b < w.heap.size) w t v := by
  rw [Tm.at_iff] at h ⊢
  obtain ⟨h1, sv, h2, h3⟩ := h
  exact ⟨h1, sv, h2, Tm.sl_bound h3⟩
end Go.Proofs.Ytognkaebiafgbaa
