/-
  How lists of strings and terms lie in memory: the readings that the contracts of this claim speak of, and that they last while nothing of what was there is written.
-/
import Derived.WalkKit
import Derived.WalkSpells
import Derived.Lib.Hide
import Derived.Test.YtognkaebiafgbaaGreatRows
import Derived.WalkLawsBesides
import Derived.Deep.QuietTactic
import Derived.Lib.QuietBelow
import Derived.BigQuiet
namespace Go.Proofs.YtognkaebiafgbaaGreat
open Go.RowKit
set_option linter.unusedVariables false
theorem bl_len (s : ByteArray) : s.toList.length = s.size := by rw [ByteArray.toList_eq]; simp
theorem bl_get (s : ByteArray) (k : Nat) (h : k < s.size) : s.toList[k]'(by rw [bl_len]; exact h) = s[k] := by simp only [ByteArray.toList_eq]; rfl
theorem bl_ext {a b : ByteArray} (h : a.toList = b.toList) : a = b := by
  rw [ByteArray.toList_eq, ByteArray.toList_eq] at h
  exact ByteArray.ext (Array.toList_inj.1 h)
theorem retB {a b : Bool} (h : a = b) : Ending.returned (.bool a) = .returned (.bool b) := by rw [h]
theorem retI {k : IntKind} {a b : Int} (h : a = b) : Ending.returned (.int k a) = .returned (.int k b) := by rw [h]
theorem retS {a b : ByteArray} (h : a = b) : Ending.returned (.string a) = .returned (.string b) := by rw [h]
def Ext (w w' : World) : Prop := Below w.heap.size w w'
theorem Ext.refl (w : World) : Ext w w := Below.refl _ _
theorem Ext.trans {a b c : World} (h : Ext a b) (k : Ext b c) : Ext a c := Below.trans h (Below.mono k h.size)
theorem Ext.trans' {a b c : World} (k : Ext b c) (h : Ext a b) : Ext a c := h.trans k
theorem Ext.cell {w w' : World} (h : Ext w w') {a : Addr} {v : Value} (hc : w.cell? a = some v) : w'.cell? a = some v := by
  rw [Below.cell h (block_lt_of_cell hc)]; exact hc
theorem Ext.alloc (w : World) (o : Obj) : Ext w (w.alloc o) := (Below.refl _ _).alloc (Nat.le_refl _) _
theorem Ext.drew (w : World) : Ext w w.drew := (Below.refl _ _).drew
theorem cell_new (w : World) (cs : Array Value) (T : Nat) (i : Nat) (v : Value) (h : cs[i]? = some v) : (w.alloc (.cells cs T)).cell? ⟨w.heap.size, 0 + i, none⟩ = some v := by
  have h1 : (w.alloc (.cells cs T)).heap[w.heap.size]? = some (.cells cs T) := by
    show (w.heap.push (.cells cs T))[w.heap.size]? = _
    simp
  simp only [World.cell?, h1]
  simpa using h
theorem Ext.frozen {w w' : World} (h : Ext w w') {a : Addr} (hb : a.block < w.heap.size) (hf : w.frozen? a = false) : w'.frozen? a = false := by
  rw [Below.frozen h hb]; exact hf
theorem Ext.undrew {w w' : World} (h : Ext w.drew w') : Ext w w' := (Ext.drew w).trans h
def StrsAt (w : World) (ss : List ByteArray) (v : Value) : Prop :=
  ∃ a cap, v = .slice a ss.length cap ∧ ss.length ≤ cap ∧ cap ≤ 1048576 ∧ (∀ s ∈ ss, s.size ≤ 1048576) ∧
    (ss = [] ∨ ∃ b off, a = some ⟨b, off, none⟩ ∧ ∀ i s, ss[i]? = some s → w.cell? ⟨b, off + i, none⟩ = some (.string s))
theorem StrsAt.ext {w w' : World} {ss : List ByteArray} {v : Value} (h : StrsAt w ss v) (e : Ext w w') : StrsAt w' ss v := by
  obtain ⟨a, cap, h1, h2, h3, h4, h5⟩ := h
  refine ⟨a, cap, h1, h2, h3, h4, ?_⟩
  rcases h5 with h5 | ⟨b, off, h5, h6⟩
  · exact .inl h5
  · exact .inr ⟨b, off, h5, fun i s hs => e.cell (h6 i s hs)⟩
inductive Tm where
  | mk (kind n : Int) (name : ByteArray) (kids : List Tm)
def Tm.kind : Tm → Int | .mk k _ _ _ => k
def Tm.n : Tm → Int | .mk _ n _ _ => n
def Tm.name : Tm → ByteArray | .mk _ _ s _ => s
def Tm.kids : Tm → List Tm | .mk _ _ _ ks => ks
mutual
def Tm.cells (S : Nat → Prop) (w : World) (b off : Nat) : Tm → Prop
  | .mk k n s ks => w.cell? ⟨b, off, none⟩ = some (.int .i64 k) ∧ w.cell? ⟨b, off + 1, none⟩ = some (.int .i64 n) ∧ w.cell? ⟨b, off + 2, none⟩ = some (.string s) ∧ s.size ≤ 1048576 ∧
      ∃ a cap, w.cell? ⟨b, off + 3, none⟩ = some (.slice a ks.length cap) ∧ ks.length ≤ cap ∧ cap ≤ 9223372036854775807 ∧ ks.length ≤ 1048576 ∧
        (ks = [] ∨ ∃ b' off', a = some ⟨b', off', none⟩ ∧ S b' ∧ Tm.row S w b' off' ks)
def Tm.row (S : Nat → Prop) (w : World) (b off : Nat) : List Tm → Prop
  | [] => True
  | t :: ts => Tm.cells S w b off t ∧ Tm.row S w b (off + 4) ts
end
def Tm.sl (S : Nat → Prop) (w : World) (ts : List Tm) (v : Value) : Prop :=
  ∃ a cap, v = .slice a ts.length cap ∧ ts.length ≤ cap ∧ cap ≤ 9223372036854775807 ∧ ts.length ≤ 1048576 ∧
    (ts = [] ∨ ∃ b off, a = some ⟨b, off, none⟩ ∧ S b ∧ Tm.row S w b off ts)
def Tm.at (S : Nat → Prop) (w : World) : Tm → Value → Prop
  | .mk k n s ks, v => s.size ≤ 1048576 ∧ ∃ sv, v = .agg #[.int .i64 k, .int .i64 n, .string s, sv] ∧ Tm.sl S w ks sv
theorem Tm.cells_iff {S : Nat → Prop} {w : World} {b off : Nat} {t : Tm} : Tm.cells S w b off t ↔
    ∃ sv, w.cell? ⟨b, off, none⟩ = some (.int .i64 t.kind) ∧ w.cell? ⟨b, off + 1, none⟩ = some (.int .i64 t.n) ∧ w.cell? ⟨b, off + 2, none⟩ = some (.string t.name) ∧
      w.cell? ⟨b, off + 3, none⟩ = some sv ∧ t.name.size ≤ 1048576 ∧ Tm.sl S w t.kids sv := by
  obtain ⟨k, n, s, ks⟩ := t
  simp only [Tm.cells, Tm.kind, Tm.n, Tm.name, Tm.kids, Tm.sl]
  constructor
  · rintro ⟨h1, h2, h3, h4, a, cap, h5, h6⟩
    exact ⟨_, h1, h2, h3, h5, h4, a, cap, rfl, h6⟩
  · rintro ⟨sv, h1, h2, h3, h5, h4, a, cap, rfl, h6⟩
    exact ⟨h1, h2, h3, h4, a, cap, h5, h6⟩
theorem Tm.at_iff {S : Nat → Prop} {w : World} {t : Tm} {v : Value} : Tm.at S w t v ↔
    t.name.size ≤ 1048576 ∧ ∃ sv, v = .agg #[.int .i64 t.kind, .int .i64 t.n, .string t.name, sv] ∧ Tm.sl S w t.kids sv := by
  obtain ⟨k, n, s, ks⟩ := t
  exact Iff.rfl
def Agree (S : Nat → Prop) (w w' : World) : Prop := ∀ b o v, S b → w.cell? ⟨b, o, none⟩ = some v → w'.cell? ⟨b, o, none⟩ = some v
theorem Agree.refl {S : Nat → Prop} (w : World) : Agree S w w := fun _ _ _ _ h => h
theorem Agree.trans {S : Nat → Prop} {a b c : World} (h : Agree S a b) (k : Agree S b c) : Agree S a c := fun b o v hS hc => k b o v hS (h b o v hS hc)
theorem Agree.setCell {S : Nat → Prop} {w : World} {a : Addr} {u : Value} (h : ¬ S a.block) : Agree S w (w.setCell a u) := fun b o v hS hc => by
  rw [World.cell?_of_block (w := w) (a := ⟨b, o, none⟩) (Below.heap_setCell w a u b (fun e => h (e ▸ hS)))]
  exact hc
theorem Agree.of_ext {S : Nat → Prop} {w w' : World} (e : Ext w w') : Agree S w w' := fun b o v _ h => e.cell h
mutual
theorem Tm.cells_mono {S S' : Nat → Prop} {w w' : World} (hS : ∀ b, S b → S' b) (ha : Agree S w w') {b off b' : Nat} (hb : ∀ o v, w.cell? ⟨b, o, none⟩ = some v → w'.cell? ⟨b, o, none⟩ = some v) :
    ∀ (t : Tm), Tm.cells S w b off t → Tm.cells S' w' b off t
  | .mk k n s ks, h => by
    simp only [Tm.cells] at h ⊢
    obtain ⟨h1, h2, h3, h4, a, cap, h5, h6, h7, h8, h9⟩ := h
    refine ⟨hb _ _ h1, hb _ _ h2, hb _ _ h3, h4, a, cap, hb _ _ h5, h6, h7, h8, ?_⟩
    rcases h9 with h9 | ⟨b1, off1, h9, h10, h11⟩
    · exact .inl h9
    · exact .inr ⟨b1, off1, h9, hS _ h10, Tm.row_mono hS ha (b' := 0) (fun o v => ha _ o v h10) ks h11⟩
theorem Tm.row_mono {S S' : Nat → Prop} {w w' : World} (hS : ∀ b, S b → S' b) (ha : Agree S w w') {b off b' : Nat} (hb : ∀ o v, w.cell? ⟨b, o, none⟩ = some v → w'.cell? ⟨b, o, none⟩ = some v) :
    ∀ (ts : List Tm), Tm.row S w b off ts → Tm.row S' w' b off ts
  | [], _ => by simp [Tm.row]
  | t :: ts, h => by
    simp only [Tm.row] at h ⊢
    exact ⟨Tm.cells_mono hS ha (b' := 0) hb t h.1, Tm.row_mono hS ha (b' := 0) hb ts h.2⟩
end
theorem Tm.sl_mono {S S' : Nat → Prop} {w w' : World} (hS : ∀ b, S b → S' b) (ha : Agree S w w') {ts : List Tm} {v : Value} (h : Tm.sl S w ts v) : Tm.sl S' w' ts v := by
  obtain ⟨a, cap, h1, h2, h3, h4, h5⟩ := h
  refine ⟨a, cap, h1, h2, h3, h4, ?_⟩
  rcases h5 with h5 | ⟨b, off, h5, h6, h7⟩
  · exact .inl h5
  · exact .inr ⟨b, off, h5, hS _ h6, Tm.row_mono hS ha (b' := 0) (fun o v => ha _ o v h6) ts h7⟩
theorem Tm.at_mono {S S' : Nat → Prop} {w w' : World} (hS : ∀ b, S b → S' b) (ha : Agree S w w') {t : Tm} {v : Value} (h : Tm.at S w t v) : Tm.at S' w' t v := by
  rw [Tm.at_iff] at h ⊢
  obtain ⟨h1, sv, h2, h3⟩ := h
  exact ⟨h1, sv, h2, Tm.sl_mono hS ha h3⟩
theorem Tm.at_ext {S : Nat → Prop} {w w' : World} (e : Ext w w') {t : Tm} {v : Value} (h : Tm.at S w t v) : Tm.at S w' t v := Tm.at_mono (fun _ h => h) (Agree.of_ext e) h
theorem Tm.sl_ext {S : Nat → Prop} {w w' : World} (e : Ext w w') {ts : List Tm} {v : Value} (h : Tm.sl S w ts v) : Tm.sl S w' ts v := Tm.sl_mono (fun _ h => h) (Agree.of_ext e) h
theorem Tm.row_get {S : Nat → Prop} {w : World} {b : Nat} : ∀ {ts : List Tm} {off : Nat}, Tm.row S w b off ts → ∀ (i : Nat) (t : Tm), ts[i]? = some t → Tm.cells S w b (off + i * 4) t
  | [], _, _, i, t, h => by simp at h
  | t0 :: ts, off, h, 0, t, ht => by
    simp at ht; subst ht
    simp only [Tm.row] at h
    simpa using h.1
  | t0 :: ts, off, h, i + 1, t, ht => by
    simp only [Tm.row] at h
    have := Tm.row_get h.2 i t (by simpa using ht)
    rw [show off + (i + 1) * 4 = off + 4 + i * 4 by omega]
    exact this
theorem Tm.at_of_cells {S : Nat → Prop} {w : World} {b off : Nat} {t : Tm} (h : Tm.cells S w b off t) :
    ∃ a cap, w.cell? ⟨b, off, none⟩ = some (.int .i64 t.kind) ∧ w.cell? ⟨b, off + 1, none⟩ = some (.int .i64 t.n) ∧ w.cell? ⟨b, off + 2, none⟩ = some (.string t.name) ∧
      w.cell? ⟨b, off + 3, none⟩ = some (.slice a t.kids.length cap) ∧ Tm.at S w t (.agg #[.int .i64 t.kind, .int .i64 t.n, .string t.name, .slice a t.kids.length cap]) := by
  obtain ⟨sv, h1, h2, h3, h4, h5, a, cap, rfl, h6⟩ := Tm.cells_iff.1 h
  exact ⟨a, cap, h1, h2, h3, h4, Tm.at_iff.2 ⟨h5, _, rfl, a, cap, rfl, h6⟩⟩
theorem Tm.row_lt {S : Nat → Prop} {w : World} {b off : Nat} {t : Tm} {ts : List Tm} (h : Tm.row S w b off (t :: ts)) : b < w.heap.size := by
  simp only [Tm.row] at h
  obtain ⟨sv, h1, _⟩ := Tm.cells_iff.1 h.1
  exact block_lt_of_cell h1
mutual
theorem Tm.cells_bound {S : Nat → Prop} {w : World} {b off : Nat} : ∀ (t : Tm), Tm.cells S w b off t → Tm.cells (fun b => S b ∧ b < w.heap.size) w b off t
  | .mk k n s ks, h => by
    simp only [Tm.cells] at h ⊢
    obtain ⟨h1, h2, h3, h4, a, cap, h5, h6, h7, h8, h9⟩ := h
    refine ⟨h1, h2, h3, h4, a, cap, h5, h6, h7, h8, ?_⟩
    rcases h9 with h9 | ⟨b1, off1, h9, h10, h11⟩
    · exact .inl h9
    · cases ks with
      | nil => exact .inl rfl
      | cons t ts => exact .inr ⟨b1, off1, h9, ⟨h10, Tm.row_lt h11⟩, Tm.row_bound _ h11⟩
theorem Tm.row_bound {S : Nat → Prop} {w : World} {b off : Nat} : ∀ (ts : List Tm), Tm.row S w b off ts → Tm.row (fun b => S b ∧ b < w.heap.size) w b off ts
  | [], _ => by simp [Tm.row]
  | t :: ts, h => by
    simp only [Tm.row] at h ⊢
    exact ⟨Tm.cells_bound t h.1, Tm.row_bound ts h.2⟩
end
theorem Tm.sl_bound {S : Nat → Prop} {w : World} {ts : List Tm} {v : Value} (h : Tm.sl S w ts v) : Tm.sl (fun b => S b ∧ b < w.heap.size) w ts v := by
  obtain ⟨a, cap, h1, h2, h3, h4, h5⟩ := h
  refine ⟨a, cap, h1, h2, h3, h4, ?_⟩
  rcases h5 with h5 | ⟨b, off, h5, h6, h7⟩
  · exact .inl h5
  · cases ts with
    | nil => exact .inl rfl
    | cons t ts => exact .inr ⟨b, off, h5, ⟨h6, Tm.row_lt h7⟩, Tm.row_bound _ h7⟩
theorem Tm.at_bound {S : Nat → Prop} {w : World} {t : Tm} {v : Value} (h : Tm.at S w t v) : Tm.at (fun b => S b ∧ b < w.heap.size) w t v := by
  rw [Tm.at_iff] at h ⊢
  obtain ⟨h1, sv, h2, h3⟩ := h
  exact ⟨h1, sv, h2, Tm.sl_bound h3⟩
end Go.Proofs.YtognkaebiafgbaaGreat

namespace Go.Proofs.YtognkaebiafgbaaGreat
open Go.RowKit
set_option linter.unusedVariables false
def tcells (t : Tm) (a : Option Addr) (cap : Nat) : List Value := [.int .i64 t.kind, .int .i64 t.n, .string t.name, .slice a t.kids.length cap]
def Tm.flat (S : Nat → Prop) (w : World) : List Tm → List Value → Prop
  | [], xs => xs = []
  | t :: ts, xs => ∃ a cap rest, xs = tcells t a cap ++ rest ∧ Tm.at S w t (.agg #[.int .i64 t.kind, .int .i64 t.n, .string t.name, .slice a t.kids.length cap]) ∧ Tm.flat S w ts rest
theorem flat_len {S : Nat → Prop} {w : World} : ∀ {ts : List Tm} {xs : List Value}, Tm.flat S w ts xs → xs.length = ts.length * 4
  | [], xs, h => by simp only [Tm.flat] at h; subst h; rfl
  | t :: ts, xs, h => by
    obtain ⟨a, cap, rest, rfl, _, h2⟩ := h
    have := flat_len h2
    simp [tcells]; omega
theorem flat_mono {S S' : Nat → Prop} {w w' : World} (hS : ∀ b, S b → S' b) (ha : Agree S w w') : ∀ {ts : List Tm} {xs : List Value}, Tm.flat S w ts xs → Tm.flat S' w' ts xs
  | [], xs, h => h
  | t :: ts, xs, h => by
    obtain ⟨a, cap, rest, rfl, h1, h2⟩ := h
    exact ⟨a, cap, rest, rfl, Tm.at_mono hS ha h1, flat_mono hS ha h2⟩
theorem flat_snoc {S : Nat → Prop} {w : World} {t : Tm} {a : Option Addr} {cap : Nat} (ht : Tm.at S w t (.agg #[.int .i64 t.kind, .int .i64 t.n, .string t.name, .slice a t.kids.length cap])) :
    ∀ {ts : List Tm} {xs : List Value}, Tm.flat S w ts xs → Tm.flat S w (ts ++ [t]) (xs ++ tcells t a cap)
  | [], xs, h => by simp only [Tm.flat] at h; subst h; exact ⟨a, cap, [], by simp, ht, rfl⟩
  | t0 :: ts, xs, h => by
    obtain ⟨a0, cap0, rest, rfl, h1, h2⟩ := h
    exact ⟨a0, cap0, rest ++ tcells t a cap, by simp, h1, flat_snoc ht h2⟩
theorem flat_row {S : Nat → Prop} {w : World} {b : Nat} : ∀ {ts : List Tm} {xs : List Value} {off : Nat}, Tm.flat S w ts xs → (∀ j, j < xs.length → w.cell? ⟨b, off + j, none⟩ = xs[j]?) → Tm.row S w b off ts
  | [], xs, off, h, _ => by simp [Tm.row]
  | t :: ts, xs, off, h, hc => by
    obtain ⟨a, cap, rest, rfl, h1, h2⟩ := h
    simp only [Tm.row]
    obtain ⟨h3, sv, h4, h5⟩ := Tm.at_iff.1 h1
    have hsv : sv = .slice a t.kids.length cap := by
      simp only [Value.agg.injEq] at h4
      have := congrArg (fun x : Array Value => x[3]?) h4
      simpa using this.symm
    subst hsv
    refine ⟨Tm.cells_iff.2 ⟨_, ?_, ?_, ?_, ?_, h3, h5⟩, ?_⟩
    · have := hc 0 (by simp [tcells]); simpa [tcells] using this
    · have := hc 1 (by simp [tcells]); simpa [tcells] using this
    · have := hc 2 (by simp [tcells]); simpa [tcells] using this
    · have := hc 3 (by simp [tcells]); simpa [tcells] using this
    · refine flat_row h2 fun j hj => ?_
      have := hc (4 + j) (by simp [tcells]; omega)
      rw [show off + 4 + j = off + (4 + j) by omega, this, show 4 + j = j + 4 by omega]
      simp [tcells]
theorem own_sl {S : Nat → Prop} {w : World} {base e : Nat} {v : Value} {ts : List Tm} {xs : List Value} (ho : w.ownsRow base e 4 v ts.length xs) (hf : Tm.flat S w ts xs) (hl : ts.length ≤ 1048576) : Tm.sl (fun b => S b ∨ v.ownBlock = some b) w ts v := by
  have hcell := fun (g : Nat) (hg : v.ownBlock = some g) => ho.cells (g := g) hg
  obtain ⟨h1, h2⟩ := ho
  rcases h2 with ⟨rfl, h2⟩ | ⟨g, cap, cur, rfl, h3, h4, h5, h6, h7, h8⟩
  · have : ts = [] := List.eq_nil_of_length_eq_zero h2
    subst this
    exact ⟨none, 0, by simp, by simp, by omega, by simp, .inl rfl⟩
  · refine ⟨_, cap, rfl, h5, h6, hl, .inr ⟨g, 0, rfl, .inr rfl, ?_⟩⟩
    refine flat_row (flat_mono (fun b h => .inl h) (fun b o v _ h => h) hf) fun j hj => ?_
    have := hcell g rfl j xs[j] (by simp [hj])
    rw [show (⟨g, 0, none⟩ : Addr).add j = ⟨g, 0 + j, none⟩ by unfold Addr.add; split <;> simp_all] at this
    rw [this]; simp [hj]
theorem append_fresh {P : Program} {w : World} (base : Nat) (t ty e : TypeId) (i : TypeInfo) (z : Value) (size bytes : Nat) (ht : P.underlying t = some (.slice e)) (hi : P.info? e = some i) (hz : i.zero = some z)
    (hsize : i.size = size) (hby : i.bytes = bytes) (hzs : z.cells.size = size) (hsz : 0 < size)
    (v : Value) (n : Nat) (xs : List Value) (hown : w.ownsRow base e size v n xs)
    (a : Addr) (m c : Nat) (news : List Value) (hl : news.length = m * size) (hnews : ∀ j u, news[j]? = some u → w.cell? (a.add j) = some u) (h1 : ∀ u ∈ news, u.oneCell' = true)
    (h63 : n + m ≤ maxLen) (hbytes : (n + m) * bytes ≤ 140737488355328) (hbase : base ≤ w.heap.size) (v' : Value) (w' : World)
    (hr : (Builtin.append_ #[t, t] ty #[v, .slice (some a) m c]).run P w = .ok v' w') : ∀ g, v'.ownBlock = some g → v.ownBlock = some g ∨ w.heap.size ≤ g := by
  intro g hg
  by_cases hc : v.ownBlock = some g
  · exact .inl hc
  right
  rcases hown.2 with ⟨rfl, hn⟩ | ⟨g0, cap, cur, rfl, hbg, hg0, hnc, hcm, hcs, htake⟩
  · -- nil: owned from the heap's end on
    have ho : w.ownsRow w.heap.size e size (.slice none 0 0) n xs := ⟨hown.1, .inl ⟨rfl, hn⟩⟩
    obtain ⟨v2, w2, hr2, ho2, _, _⟩ := run_append_own (P := P) w w.heap.size t ty e i z size bytes ht hi hz hsize hby hzs hsz _ n xs ho a m c news hl hnews h1 h63 hbytes (Nat.le_refl _)
    rw [hr] at hr2
    cases hr2
    exact (ho2.lt g hg).1
  · by_cases hroom : n + m ≤ cap
    · subst hsize
      have hfit : n * i.size + news.length ≤ cur.size := by rw [hl, hcs, ← Nat.add_mul]; exact Nat.mul_le_mul_right _ hroom
      have hr2 := run_append_room (P := P) w t ty e i ht hi g0 n cap cur hg0 a m c news hl hnews h1 hroom hfit
      rw [hr] at hr2
      cases hr2
      exact absurd hg hc
    · subst hsize
      have hlen : xs.length = n * i.size := hown.1
      have hr2 := run_append_grow (P := P) w t ty e i z ht hi hz ⟨g0, 0, none⟩ n cap xs hown.1 (hown.cells (g := g0) rfl) a m c news hl hnews (by omega) (by simp only [maxLen] at h63; omega) (growslice_fits (by omega) (by rw [hby]; exact hbytes))
      rw [hr] at hr2
      cases hr2
      simp only [Value.ownBlock, Option.some.injEq] at hg
      omega
theorem wpList_append_fresh {P : Program} {w : World} {ops : Array Oper} {rest : List Oper} {o : Oper} {a : Act} {Q : Exit → Act → World → Prop} (hgd : o.guard = none) (s x : Operand) (t : TypeId)
    (ho : o.op = .call { callee := .builtin .append, args := #[s, x], argTypes := #[t, t] })
    (base : Nat) (e : TypeId) (i : TypeInfo) (z : Value) (size bytes : Nat) (ht : P.underlying t = some (.slice e)) (hi : P.info? e = some i) (hz : i.zero = some z)
    (hsize : i.size = size) (hby : i.bytes = bytes) (hzs : z.cells.size = size) (hsz : 0 < size)
    (v : Value) (n : Nat) (xs : List Value) (hs : a.eval s = v) (hown : w.ownsRow base e size v n xs)
    (ad : Addr) (m c : Nat) (news : List Value) (hx : a.eval x = .slice (some ad) m c) (hl : news.length = m * size) (hnews : ∀ j u, news[j]? = some u → w.cell? (ad.add j) = some u) (h1 : ∀ u ∈ news, u.oneCell' = true)
    (h63 : n + m ≤ maxLen) (hbytes : (n + m) * bytes ≤ 140737488355328) (hbase : base ≤ w.heap.size)
    (h : ∀ v' w', w'.ownsRow base e size v' (n + m) (xs ++ news) → w.grownBy w' v.ownBlock → (∀ g, v'.ownBlock = some g → v.ownBlock = some g ∨ w.heap.size ≤ g) → (v' = .slice none 0 0 ↔ v = .slice none 0 0 ∧ m = 0) → wpList P ops Q rest (a.put o.dst v') w') : wpList P ops Q (o :: rest) a w := by
  refine wpList_plain hgd fun K hK => ?_
  obtain ⟨v', w', hr, h2, h3, h4⟩ := run_append_own (P := P) w base t o.type e i z size bytes ht hi hz hsize hby hzs hsz v n xs hown ad m c news hl hnews h1 h63 hbytes hbase
  have h5 := append_fresh base t o.type e i z size bytes ht hi hz hsize hby hzs hsz v n xs hown ad m c news hl hnews h1 h63 hbytes hbase v' w' hr
  unfold Oper.wp execOp
  simp only [ho, resolve, invoke, builtin, Sem.run_bind, Sem.run_pure, Result.andThen_ok, List.map_toArray, List.map_cons, List.map_nil, hs, hx, hr]
  exact hK _ _ (h v' w' h2 h3 h5 h4)
theorem Ext.grownBy {w w' : World} (h : Ext w w') : w.grownBy w' none := ⟨Below.os h, Below.tape h, Below.output h, Below.size h, fun k hk _ => Below.block h k hk⟩
theorem Ext.of_grown {w w' : World} (h : w.grownBy w' none) : Ext w w' := ⟨h.os, h.tape, h.output, h.size, fun k hk => h.block k hk (by simp)⟩
theorem own_ext {w w' : World} {base e size n : Nat} {v : Value} {xs : List Value} (h : w.ownsRow base e size v n xs) (he : Ext w w') : w'.ownsRow base e size v n xs :=
  h.kept he.grownBy (by cases hv : v.ownBlock <;> simp)
end Go.Proofs.YtognkaebiafgbaaGreat

namespace Go.Proofs.YtognkaebiafgbaaGreat
open Go.RowKit
set_option linter.unusedVariables false
theorem cell_other {w : World} {a c : Addr} {u v : Value} (hne : a.block ≠ c.block) (h : w.cell? a = some v) : (w.setCell c u).cell? a = some v := by
  rw [World.cell?_of_block (w := w) (Below.heap_setCell w c u a.block hne)]; exact h
theorem cell_off {w : World} {b i j : Nat} {u v : Value} (hne : i ≠ j) (h : w.cell? ⟨b, i, none⟩ = some v) : (w.setCell ⟨b, j, none⟩ u).cell? ⟨b, i, none⟩ = some v := by
  simp only [World.cell?, World.setCell, Array.getElem?_modify] at h ⊢
  simp only [if_true]
  revert h
  cases hb : w.heap[b]? with
  | none => simp
  | some o => cases o <;> simp [Ne.symm hne]
theorem cell_same {w : World} {b i : Nat} {u v : Value} (h : w.cell? ⟨b, i, none⟩ = some v) : (w.setCell ⟨b, i, none⟩ u).cell? ⟨b, i, none⟩ = some u := by
  simp only [World.cell?, World.setCell, Array.getElem?_modify] at h ⊢
  simp only [if_true]
  revert h
  cases hb : w.heap[b]? with
  | none => simp
  | some o =>
    cases o <;> simp
    rename_i c e fr
    intro h
    have := (Array.getElem?_eq_some_iff.1 h).1
    simp [this]
theorem grown_setCell (w : World) (b i : Nat) (u : Value) : w.grownBy (w.setCell ⟨b, i, none⟩ u) (some b) :=
  ⟨rfl, rfl, rfl, by simp [World.setCell], fun k _ hk => Below.heap_setCell _ _ _ _ (fun e => hk (by rw [e]))⟩
theorem grown_trans {a b c : World} {g : Nat} (h : a.grownBy b (some g)) (k : b.grownBy c (some g)) : a.grownBy c (some g) :=
  ⟨k.os.trans h.os, k.tape.trans h.tape, k.output.trans h.output, Nat.le_trans h.size k.size, fun i hi hne => (k.block i (Nat.lt_of_lt_of_le hi h.size) hne).trans (h.block i hi hne)⟩
theorem Agree.grown {S : Nat → Prop} {w w' : World} {row : Option Nat} (hg : w.grownBy w' row) (hS : ∀ b, row = some b → ¬ S b) : Agree S w w' := fun b o v hb hc => by
  have hlt := block_lt_of_cell hc
  rw [World.cell?_of_block (w := w) (a := ⟨b, o, none⟩) (hg.block b hlt (fun e => hS b e.symm hb))]
  exact hc
theorem Ext.grown {w w' w'' : World} {row : Option Nat} (h : Ext w w') (hg : w'.grownBy w'' row) (hr : ∀ b, row = some b → w.heap.size ≤ b) : Ext w w'' :=
  Below.grown h hg h.size hr
def set4 (Y : World) (b : Nat) (v0 v1 v2 v3 : Value) : World := (((Y.setCell ⟨b, 0, none⟩ v0).setCell ⟨b, 1, none⟩ v1).setCell ⟨b, 2, none⟩ v2).setCell ⟨b, 3, none⟩ v3
theorem set4_grown (Y : World) (b : Nat) (v0 v1 v2 v3 : Value) : Y.grownBy (set4 Y b v0 v1 v2 v3) (some b) :=
  grown_trans (grown_trans (grown_trans (grown_setCell _ _ _ _) (grown_setCell _ _ _ _)) (grown_setCell _ _ _ _)) (grown_setCell _ _ _ _)
theorem set4_cells {Y : World} {b : Nat} {u0 u1 u2 u3 : Value} (v0 v1 v2 v3 : Value) (h0 : Y.cell? ⟨b, 0, none⟩ = some u0) (h1 : Y.cell? ⟨b, 1, none⟩ = some u1) (h2 : Y.cell? ⟨b, 2, none⟩ = some u2) (h3 : Y.cell? ⟨b, 3, none⟩ = some u3) :
    (set4 Y b v0 v1 v2 v3).cell? ⟨b, 0, none⟩ = some v0 ∧ (set4 Y b v0 v1 v2 v3).cell? ⟨b, 1, none⟩ = some v1 ∧ (set4 Y b v0 v1 v2 v3).cell? ⟨b, 2, none⟩ = some v2 ∧ (set4 Y b v0 v1 v2 v3).cell? ⟨b, 3, none⟩ = some v3 :=
  ⟨cell_off (by decide) (cell_off (by decide) (cell_off (by decide) (cell_same h0))),
   cell_off (by decide) (cell_off (by decide) (cell_same (cell_off (by decide) h1))),
   cell_off (by decide) (cell_same (cell_off (by decide) (cell_off (by decide) h2))),
   cell_same (cell_off (by decide) (cell_off (by decide) (cell_off (by decide) h3)))⟩
theorem load4 {P : Program} {w : World} {T b : Nat} {v0 v1 v2 v3 : Value} (hT : ∀ w, (isAgg T).run P w = .ok true w) (hs : ∀ w, (sizeOf T).run P w = .ok 4 w)
    (h0 : w.cell? ⟨b, 0, none⟩ = some v0) (h1 : w.cell? ⟨b, 1, none⟩ = some v1) (h2 : w.cell? ⟨b, 2, none⟩ = some v2) (h3 : w.cell? ⟨b, 3, none⟩ = some v3) :
    (loadVar T ⟨b, 0, none⟩).run P w = .ok (.agg #[v0, v1, v2, v3]) w := by
  unfold loadVar
  simp only [Sem.run_bind, hT, Result.andThen_ok, if_true, hs]
  simp [loadCells, loadCellsFrom, go_sem, h0, h1, h2, h3]
theorem ret4 {P : Program} {fn : Func} {R : Ending → World → Prop} {a : Act} {X : World} {p T b : Nat} {v0 v1 v2 v3 : Value}
    (hres : fn.results = #[.cell p T]) (hT : ∀ w, (isAgg T).run P w = .ok true w) (hs : ∀ w, (sizeOf T).run P w = .ok 4 w) (hp : a.tmps.getD p undef = .pointer (some ⟨b, 0, none⟩)) (hd : a.defers = [])
    (h0 : X.cell? ⟨b, 0, none⟩ = some v0) (h1 : X.cell? ⟨b, 1, none⟩ = some v1) (h2 : X.cell? ⟨b, 2, none⟩ = some v2) (h3 : X.cell? ⟨b, 3, none⟩ = some v3)
    (hR : R (.returned (.agg #[v0, v1, v2, v3])) X) : bodyPost P fn R .ret a X := by
  refine bodyPost_ret (v := .agg #[v0, v1, v2, v3]) ?_ hd hR
  have hl := load4 (P := P) (w := X) (T := T) (b := b) hT hs h0 h1 h2 h3
  simp only [results, hres]
  have hp' : a.tmps[p]?.getD undef = .pointer (some ⟨b, 0, none⟩) := by simpa using hp
  simp [hp', asAddr, hl]
theorem ret4_set {P : Program} {fn : Func} {R : Ending → World → Prop} {a : Act} {Y : World} {p T b : Nat} {u0 u1 u2 u3 v0 v1 v2 v3 : Value}
    (hres : fn.results = #[.cell p T]) (hT : ∀ w, (isAgg T).run P w = .ok true w) (hs : ∀ w, (sizeOf T).run P w = .ok 4 w) (hp : a.tmps.getD p undef = .pointer (some ⟨b, 0, none⟩)) (hd : a.defers = [])
    (h0 : Y.cell? ⟨b, 0, none⟩ = some u0) (h1 : Y.cell? ⟨b, 1, none⟩ = some u1) (h2 : Y.cell? ⟨b, 2, none⟩ = some u2) (h3 : Y.cell? ⟨b, 3, none⟩ = some u3)
    (hR : ∀ X, Y.grownBy X (some b) → R (.returned (.agg #[v0, v1, v2, v3])) X) :
    bodyPost P fn R .ret a ((((Y.setCell ⟨b, 0, none⟩ v0).setCell ⟨b, 1, none⟩ v1).setCell ⟨b, 2, none⟩ v2).setCell ⟨b, 3, none⟩ v3) := by
  obtain ⟨c0, c1, c2, c3⟩ := set4_cells (Y := Y) v0 v1 v2 v3 h0 h1 h2 h3
  exact ret4 hres hT hs hp hd c0 c1 c2 c3 (hR _ (set4_grown Y b v0 v1 v2 v3))
theorem take_snoc_of {α : Type} {l : List α} {k : Nat} {x : α} (h : l[k]? = some x) : l.take (k + 1) = l.take k ++ [x] := by
  obtain ⟨hk, rfl⟩ := List.getElem?_eq_some_iff.1 h
  rw [List.take_succ_eq_append_getElem hk]
end Go.Proofs.YtognkaebiafgbaaGreat

namespace Go.Proofs.YtognkaebiafgbaaGreat
open Go.RowKit Go.Sort
set_option linter.unusedVariables false
theorem region_ext {P : Program} {id : Nat} {Q : Exit → Act → World → Prop} {a : Act} {w : World} {l : List Oper} (hm : P.follows .mixedOrders = true) (hB : Region.lexB .any l.toArray = true)
    (h : wpQuiet P l.toArray (fun w' => ∃ p : Regrown, w' = grow (redrawn w p.d) p.os) (fun a' => ∀ w', Ext w w' → Q .normal a' w') l a) : (Code.region id l.toArray true).wp P Q a w :=
  wp_region_quiet (C := fun w' => ∃ p : Regrown, w' = grow (redrawn w p.d) p.os) hm hB ⟨⟨w.drawn + 1, #[]⟩, by rw [grow_empty]; rfl⟩ (by
    have hh : (fun a' => ∀ w', Ext w w' → Q .normal a' w') = (fun a' => ∀ w', (∃ p : Regrown, w' = grow (redrawn w p.d) p.os) → Q .normal a' w') := by
      funext a'
      apply propext
      constructor
      · rintro h w' ⟨p, rfl⟩
        exact h _ (below_regrown _ _ _)
      · intro h w' e
        exact h w' (regrown_of_below e)
    simpa [hh] using h)
theorem quiet_call {P : Program} {f : FuncId} {args : Array Value} {w : World} {v : Value}
    (h : ∀ w', Ext w w' → Calls P f args w' fun e w'' => e = .returned v ∧ Ext w' w'') (d : Nat) (os : Array Obj) :
    Calls P f args (grow (redrawn w d) os) fun e w'' => e = .returned v ∧ ∃ p : Regrown, w'' = grow (redrawn w p.d) p.os :=
  Calls.regrown_of (h _ (below_regrown w d os))
mutual
def Tm.same : Tm → Tm → Bool
  | .mk k n s ks, .mk k' n' s' ks' => (k == k') && (n == n') && (s.toList == s'.toList) && Tm.sameL ks ks'
def Tm.sameL : List Tm → List Tm → Bool
  | [], [] => true
  | t :: ts, u :: us => Tm.same t u && Tm.sameL ts us
  | _, _ => false
end
mutual
/-- the number of nodes -/
def Tm.sz : Tm → Nat
  | .mk _ _ _ ks => 1 + Tm.szL ks
def Tm.szL : List Tm → Nat
  | [] => 0
  | t :: ts => Tm.sz t + Tm.szL ts
end
theorem Tm.sz_pos (t : Tm) : 0 < Tm.sz t := by cases t; simp only [Tm.sz]; omega
theorem Tm.sz_mem : ∀ {ts : List Tm} {j : Nat} {t : Tm}, ts[j]? = some t → Tm.sz t ≤ Tm.szL ts
  | [], j, t, h => by simp at h
  | t0 :: ts, 0, t, h => by simp at h; subst h; simp only [Tm.szL]; omega
  | t0 :: ts, j + 1, t, h => by have := Tm.sz_mem (ts := ts) (j := j) (t := t) (by simpa using h); simp only [Tm.szL]; omega
theorem kid_lt {k n : Int} {s : ByteArray} {ks : List Tm} {t : Tm} {j : Nat} (h : ks[j]? = some t) : Tm.sz t < Tm.sz (Tm.mk k n s ks) := by
  have := Tm.sz_mem h
  simp only [Tm.sz]
  omega
theorem getk {ts : List Tm} {k : Nat} (h : k < ts.length) : ∃ t, ts[k]? = some t := ⟨ts[k], by simp [h]⟩
end Go.Proofs.YtognkaebiafgbaaGreat
