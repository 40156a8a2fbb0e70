/-
  A slice of terms that a loop fills by append: what holds between the rounds, and the step; frames by a set of blocks that may have changed.
-/
import Derived.Deep.LoopGhost
import Derived.Deep.RegionHeld3
import Derived.Test.YtognkaebiafgbaaGreatDoorMr2
namespace Go.Proofs.YtognkaebiafgbaaGreatDoor
open Go.RowKit
set_option linter.unusedVariables false
structure Fr (M : Nat → Prop) (w w' : World) : Prop where
  os : w'.os = w.os
  tape : w'.tape = w.tape
  output : w'.output = w.output
  size : w.heap.size ≤ w'.heap.size
  block : ∀ k, k < w.heap.size → ¬ M k → w'.heap[k]? = w.heap[k]?
theorem Fr.refl (M : Nat → Prop) (w : World) : Fr M w w := ⟨rfl, rfl, rfl, Nat.le_refl _, fun _ _ _ => rfl⟩
theorem Fr.trans {M : Nat → Prop} {a b c : World} (h : Fr M a b) (k : Fr M b c) : Fr M a c :=
  ⟨k.os.trans h.os, k.tape.trans h.tape, k.output.trans h.output, Nat.le_trans h.size k.size, fun i hi hne => (k.block i (Nat.lt_of_lt_of_le hi h.size) hne).trans (h.block i hi hne)⟩
theorem Fr.mono {M M' : Nat → Prop} {a b : World} (h : Fr M a b) (hM : ∀ k, k < a.heap.size → M k → M' k) : Fr M' a b :=
  ⟨h.os, h.tape, h.output, h.size, fun i hi hne => h.block i hi (fun hm => hne (hM i hi hm))⟩
theorem Fr.of_grown {M : Nat → Prop} {a b : World} {row : Option Nat} (h : a.grownBy b row) (hM : ∀ k, row = some k → M k) : Fr M a b :=
  ⟨h.os, h.tape, h.output, h.size, fun i hi hne => h.block i hi (fun e => hne (hM i e.symm))⟩
theorem Fr.of_ext {M : Nat → Prop} {a b : World} (h : Ext a b) : Fr M a b := Fr.of_grown h.grownBy (by simp)
theorem Fr.of_extR {M : Nat → Prop} {r : Nat} {a b : World} (h : ExtR r a b) (hM : M r) : Fr M a b := Fr.of_grown h.1 (fun k e => by cases e; exact hM)
theorem Fr.alloc {M : Nat → Prop} (w : World) (o : Obj) : Fr M w (w.alloc o) := Fr.of_ext (Ext.alloc _ _)
theorem Fr.drew {M : Nat → Prop} (w : World) : Fr M w w.drew := Fr.of_ext (Ext.drew _)
theorem Fr.setCell {M : Nat → Prop} (w : World) {b i : Nat} {u : Value} (hM : M b) : Fr M w (w.setCell ⟨b, i, none⟩ u) := Fr.of_grown (grown_setCell _ _ _ _) (fun k e => by cases e; exact hM)
theorem Fr.toExt {M : Nat → Prop} {a b : World} (h : Fr M a b) (hM : ∀ k, k < a.heap.size → ¬ M k) : Ext a b := ⟨h.os, h.tape, h.output, h.size, fun i hi => h.block i hi (hM i hi)⟩
theorem Fr.cells {M : Nat → Prop} {a b : World} (h : Fr M a b) : (∀ k o, k < a.heap.size → ¬ M k → b.cell? ⟨k, o, none⟩ = a.cell? ⟨k, o, none⟩) ∧ (∀ k o, k < a.heap.size → ¬ M k → b.frozen? ⟨k, o, none⟩ = a.frozen? ⟨k, o, none⟩) :=
  ⟨fun k o hk hm => World.cell?_of_block (w := a) (a := ⟨k, o, none⟩) (h.block k hk hm), fun k o hk hm => World.frozen?_of_block (w := a) (a := ⟨k, o, none⟩) (h.block k hk hm)⟩
theorem Fr.cell {M : Nat → Prop} {a b : World} (h : Fr M a b) {k o : Nat} {v : Value} (hm : ¬ M k) (hc : a.cell? ⟨k, o, none⟩ = some v) : b.cell? ⟨k, o, none⟩ = some v := by
  rw [h.cells.1 k o (block_lt_of_cell hc) hm]; exact hc
theorem Fr.frozen {M : Nat → Prop} {a b : World} (h : Fr M a b) {k o : Nat} (hk : k < a.heap.size) (hm : ¬ M k) (hc : a.frozen? ⟨k, o, none⟩ = false) : b.frozen? ⟨k, o, none⟩ = false := by
  rw [h.cells.2 k o hk hm]; exact hc
theorem Fr.agree {M S : Nat → Prop} {a b : World} (h : Fr M a b) (hS : ∀ k, S k → ¬ M k) : Agree S a b := fun k o v hk hc => h.cell (hS k hk) hc
theorem Fr.at {M S : Nat → Prop} {a b : World} (h : Fr M a b) {t : Tm} {v : Value} (ht : Tm.at S a t v) (hS : ∀ k, S k → ¬ M k) : Tm.at S b t v := Tm.at_mono (fun _ h => h) (h.agree hS) ht
theorem Fr.sl {M S : Nat → Prop} {a b : World} (h : Fr M a b) {ts : List Tm} {v : Value} (ht : Tm.sl S a ts v) (hS : ∀ k, S k → ¬ M k) : Tm.sl S b ts v := Tm.sl_mono (fun _ h => h) (h.agree hS) ht
theorem ExtR.fr {M : Nat → Prop} {a b c : World} {r : Nat} (h : ExtR r a b) (f : Fr M b c) (hM : ∀ k, k < b.heap.size → M k → a.heap.size ≤ k ∧ k ≠ r) : ExtR r a c := by
  have f' : Fr (fun k => a.heap.size ≤ k ∧ k ≠ r) b c := f.mono hM
  refine ⟨⟨f.os.trans h.1.os, f.tape.trans h.1.tape, f.output.trans h.1.output, Nat.le_trans h.1.size f.size, fun k hk hne => ?_⟩, fun v hv => f'.cell (by omega) (h.2 v hv)⟩
  rw [f'.block k (Nat.lt_of_lt_of_le hk h.1.size) (by omega)]
  exact h.1.block k hk hne
theorem Rd.fr {M : Nat → Prop} {a b c : World} {r p P : Nat} (h0 : Rd a r p) (h : ExtR r a b) (hr : Rd b r P) (f : Fr M b c) (hM : ∀ k, k < b.heap.size → M k → a.heap.size ≤ k) : Rd c r P := by
  have hra := h0.lt
  have hrb := hr.lt
  have f' : Fr (fun k => a.heap.size ≤ k) b c := f.mono hM
  obtain ⟨a0, len0, cap0, g1, _, _, _, _, _, g7⟩ := h0
  obtain ⟨a1, len, cap, h1, h2, h3, h4, h5, h6, h7⟩ := hr
  have e := h.2 _ g1
  rw [h1] at e
  simp only [Option.some.injEq, Value.slice.injEq] at e
  obtain ⟨rfl, rfl, rfl⟩ := e
  refine ⟨_, _, _, f'.cell (by omega) h1, f'.cell (by omega) h2, f'.frozen hrb (by omega) h3, h4, h5, h6, ?_⟩
  rcases h7 with h7 | ⟨bb, off, h7, h8, h9⟩
  · exact .inl h7
  · rcases g7 with g7 | ⟨bb', off', g7, g8, g9⟩
    · exact .inl g7
    · rw [h7] at g7
      simp only [Option.some.injEq, Addr.mk.injEq, and_true] at g7
      obtain ⟨rfl, rfl⟩ := g7
      refine .inr ⟨bb, off, h7, h8, fun i hi => ?_⟩
      obtain ⟨n, hn, hc⟩ := h9 i hi
      obtain ⟨m, _, hm⟩ := g9 i hi
      have := block_lt_of_cell hm
      simp only at this
      exact ⟨n, hn, f'.cell (by omega) hc⟩
def AppI (T : Nat) (Z : Nat → Prop) (ts : List Tm) (v : Value) (w : World) : Prop :=
  ∃ xs, w.ownsRow 0 T 4 v ts.length xs ∧ (∀ g, v.ownBlock = some g → Z g) ∧ Tm.flat (fun b => Z b ∧ v.ownBlock ≠ some b) w ts xs
theorem AppI.nil (T : Nat) (Z : Nat → Prop) (w : World) : AppI T Z [] (.slice none 0 0) w := ⟨[], ⟨rfl, .inl ⟨rfl, rfl⟩⟩, by simp [Value.ownBlock], rfl⟩
theorem AppI.form {T : Nat} {Z : Nat → Prop} {ts : List Tm} {v : Value} {w : World} (h : AppI T Z ts v w) : ∃ a c, v = .slice a ts.length c := by
  obtain ⟨xs, h, _⟩ := h
  exact own_form h
theorem AppI.keep {T : Nat} {Z : Nat → Prop} {ts : List Tm} {v : Value} {w w' : World} {M : Nat → Prop} (h : AppI T Z ts v w) (f : Fr M w w') (hM : ∀ k, k < w.heap.size → M k → ¬ Z k) : AppI T Z ts v w' := by
  obtain ⟨xs, h1, hz, h2⟩ := h
  have hf : Fr (fun k => ¬ Z k) w w' := f.mono hM
  refine ⟨xs, ?_, hz, flat_mono (fun _ h => h) (hf.agree (fun k hk hm => hm hk.1)) h2⟩
  obtain ⟨e1, e2⟩ := h1
  refine ⟨e1, ?_⟩
  rcases e2 with e2 | ⟨g, cap, cur, rfl, e3, e4, e5⟩
  · exact .inl e2
  · refine .inr ⟨g, cap, cur, rfl, e3, ?_, e5⟩
    rw [hf.block g (by
      obtain ⟨x, _⟩ := Array.getElem?_eq_some_iff.1 e4
      exact x) (fun hn => hn (hz g rfl))]
    exact e4
theorem AppI.ext {T : Nat} {Z : Nat → Prop} {ts : List Tm} {v : Value} {w w' : World} (h : AppI T Z ts v w) (f : Ext w w') : AppI T Z ts v w' := h.keep (M := fun _ => False) (Fr.of_ext f) (fun _ _ h => h.elim)
theorem AppI.sl {T : Nat} {Z : Nat → Prop} {ts : List Tm} {v : Value} {w : World} (h : AppI T Z ts v w) (hl : ts.length ≤ 1048576) : Tm.sl Z w ts v := by
  obtain ⟨xs, h1, hz, h2⟩ := h
  refine Tm.sl_mono ?_ (Agree.refl w) (own_sl h1 h2 hl)
  rintro b (hb | hb)
  · exact hb.1
  · exact hz b hb
theorem own_low {w : World} {base base' e size n : Nat} {v : Value} {xs : List Value} (h : w.ownsRow base e size v n xs) (hb : base' ≤ base) : w.ownsRow base' e size v n xs := by
  obtain ⟨e1, e2⟩ := h
  refine ⟨e1, ?_⟩
  rcases e2 with e2 | ⟨g, cap, cur, h3, h4, h5⟩
  · exact .inl e2
  · exact .inr ⟨g, cap, cur, h3, by omega, h5⟩
theorem AppI.empty {w : World} {T b : Nat} {Z : Nat → Prop} (hb : b = w.heap.size) (hz : Z b) : AppI T Z [] (.slice (some ⟨b, 0, none⟩) 0 0) (w.alloc (.cells #[] T)) :=
  ⟨[], own_low (own_empty hb) (Nat.zero_le _), by intro g hg; simp [Value.ownBlock] at hg; subst hg; exact hz, rfl⟩
theorem AppI.apart {T : Nat} {Z : Nat → Prop} {ts : List Tm} {v : Value} {w w1 : World} {t : Tm} {u : Value} (h : AppI T Z ts v w) (hb : ∀ b, w.heap.size ≤ b → Z b) (ht : Tm.at (fun b => w.heap.size ≤ b) w1 t u) : Tm.at (fun b => Z b ∧ v.ownBlock ≠ some b) w1 t u := by
  obtain ⟨xs, h1, _⟩ := h
  refine Tm.at_mono (fun b hb2 => ⟨hb b hb2, fun e => ?_⟩) (Agree.refl _) ht
  have := (h1.lt b e).2
  omega
theorem app_next {T : Nat} {Z : Nat → Prop} {ts : List Tm} {t : Tm} {v nv : Value} {w1 w2 : World} {xs : List Value} {a2 : Option Addr} {c2 : Nat} {o : Obj}
    (how : w1.ownsRow 0 T 4 v ts.length xs) (hz : ∀ g, v.ownBlock = some g → Z g) (hfl : Tm.flat (fun b => Z b ∧ v.ownBlock ≠ some b) w1 ts xs)
    (hv1 : Tm.at (fun b => Z b ∧ v.ownBlock ≠ some b) w1 t (.agg #[.int .i64 t.kind, .int .i64 t.n, .string t.name, .slice a2 t.kids.length c2]))
    (ho2 : w2.ownsRow 0 T 4 nv (ts.length + 1) (xs ++ tcells t a2 c2)) (hg : (w1.alloc o).grownBy w2 v.ownBlock) (hnew : ∀ b, w1.heap.size ≤ b → Z b)
    (hfr : ∀ g, nv.ownBlock = some g → v.ownBlock = some g ∨ (w1.alloc o).heap.size ≤ g) : AppI T Z (ts ++ [t]) nv w2 := by
  have hs3 : (w1.alloc o).heap.size = w1.heap.size + 1 := by simp
  have hag : Agree (fun b => Z b ∧ v.ownBlock ≠ some b) w1 w2 := (Agree.of_ext (Ext.alloc w1 o)).trans (Agree.grown hg (fun b h hz => hz.2 h))
  have hS : ∀ b, (Z b ∧ v.ownBlock ≠ some b) ∧ b < w1.heap.size → Z b ∧ nv.ownBlock ≠ some b := by
    rintro b ⟨⟨h1, h2⟩, h3⟩
    refine ⟨h1, fun h => ?_⟩
    rcases hfr b h with h | h
    · exact h2 h
    · omega
  refine ⟨xs ++ tcells t a2 c2, by simpa using ho2, ?_, flat_snoc ?_ ?_⟩
  · intro g hgg
    rcases hfr g hgg with h | h
    · exact hz g h
    · exact hnew g (by omega)
  · exact Tm.at_mono hS (fun b o v hb hc => hag b o v hb.1 hc) (Tm.at_bound hv1)
  · exact flat_mono hS (fun b o v hb hc => hag b o v hb.1 hc) (flat_bound hfl)
theorem wpList_append_tm {P : Program} {ops : Array Oper} {rest : List Oper} {o : Oper} {a : Act} {w1 : World} {Q : Exit → Act → World → Prop}
    (hgd : o.guard = none) (s x : Operand) (ty : TypeId)
    (ho : o.op = .call { callee := .builtin .append, args := #[s, x], argTypes := #[ty, ty] })
    (Z : Nat → Prop) (T : TypeId) (i : TypeInfo) (ht : P.underlying ty = some (.slice T)) (hi : P.info? T = some i) (hz : i.zero = some (.agg #[.int .i64 0, .int .i64 0, .string ⟨#[]⟩, .slice none 0 0]))
    (hsize : i.size = 4) (hby : i.bytes = 56)
    (v : Value) (ts : List Tm) (t : Tm) (a2 : Option Addr) (c2 : Nat) (hs : a.eval s = v) (happ : AppI T Z ts v w1) (hx : a.eval x = .slice (some ⟨w1.heap.size, 0, none⟩) 1 1)
    (hv1 : Tm.at (fun b => Z b ∧ v.ownBlock ≠ some b) w1 t (.agg #[.int .i64 t.kind, .int .i64 t.n, .string t.name, .slice a2 t.kids.length c2]))
    (hl : ts.length < 1048576) (hnew : ∀ b, w1.heap.size ≤ b → Z b)
    (h : ∀ av cv w2, AppI T Z (ts ++ [t]) (.slice av (ts.length + 1) cv) w2 → Fr Z w1 w2 → wpList P ops Q rest (a.put o.dst (.slice av (ts.length + 1) cv)) w2) :
    wpList P ops Q (o :: rest) a (w1.alloc (.cells #[.int .i64 t.kind, .int .i64 t.n, .string t.name, .slice a2 t.kids.length c2] T)) := by
  obtain ⟨xs, how, hzz, hfl⟩ := happ
  refine wpList_append_fresh hgd s x ty ho 0 T i _ 4 56 ht hi hz hsize hby rfl (by decide) v ts.length xs hs (own_ext how (Ext.alloc _ _)) ⟨w1.heap.size, 0, none⟩ 1 1 (tcells t a2 c2) hx rfl (fun j u h => cell_four _ _ _ j u h) (by simp [tcells, Value.oneCell']) (by unfold maxLen; omega) (by omega) (by omega) ?_
  intro v2 w2 ho2 hg2 hfr2 _
  obtain ⟨av, cv, rfl⟩ := own_form ho2
  exact h av cv w2 (app_next how hzz hfl hv1 ho2 hg2 hnew hfr2) ((Fr.alloc _ _).trans (Fr.of_grown hg2 (fun k hk => hzz k hk)))
theorem ExtR.cells {r : Nat} {w w' : World} (h : ExtR r w w') : (∀ k o, k < w.heap.size → ¬ k = r → w'.cell? ⟨k, o, none⟩ = w.cell? ⟨k, o, none⟩) ∧ (∀ k o, k < w.heap.size → ¬ k = r → w'.frozen? ⟨k, o, none⟩ = w.frozen? ⟨k, o, none⟩) :=
  (Fr.of_extR (M := fun k => k = r) h rfl).cells
theorem at_form {S : Nat → Prop} {w : World} {t : Tm} {v : Value} (h : Tm.at S w t v) : ∃ a c, v = .agg #[.int .i64 t.kind, .int .i64 t.n, .string t.name, .slice a t.kids.length c] := by
  obtain ⟨_, sv, rfl, a, c, rfl, _⟩ := Tm.at_iff.1 h
  exact ⟨a, c, rfl⟩
theorem AppI.zone {T : Nat} {Z Z' : Nat → Prop} {ts : List Tm} {v : Value} {w : World} (h : AppI T Z ts v w) (hz : ∀ b, Z b → Z' b) : AppI T Z' ts v w := by
  obtain ⟨xs, h1, h2, h3⟩ := h
  exact ⟨xs, h1, fun g hg => hz g (h2 g hg), flat_mono (fun b h => ⟨hz b h.1, h.2⟩) (Agree.refl w) h3⟩
structure KidI (T : Nat) (w W0 : World) (O : Nat) (ts : List Tm) (u0 u1 u2 : Value) (av : Option Addr) (cv : Nat) (wr : World) : Prop where
  app : AppI T (fun b => O + 1 ≤ b) ts (.slice av ts.length cv) wr
  fr : Fr (fun b => O ≤ b) W0 wr
  c0 : wr.cell? ⟨O, 0, none⟩ = some u0
  c1 : wr.cell? ⟨O, 1, none⟩ = some u1
  c2 : wr.cell? ⟨O, 2, none⟩ = some u2
  c3 : wr.cell? ⟨O, 3, none⟩ = some (.slice av ts.length cv)
  f3 : wr.frozen? ⟨O, 3, none⟩ = false
theorem KidI.next {T O : Nat} {w W0 wr w1 w2 : World} {ts : List Tm} {t : Tm} {u0 u1 u2 : Value} {av av2 : Option Addr} {cv cv2 : Nat} (h : KidI T w W0 O ts u0 u1 u2 av cv wr) (e1 : Ext wr w1)
    (hA : AppI T (fun b => O + 1 ≤ b) (ts ++ [t]) (.slice av2 (ts.length + 1) cv2) w2) (hf : Fr (fun b => O + 1 ≤ b) w1 w2) : KidI T w W0 O (ts ++ [t]) u0 u1 u2 av2 cv2 (w2.setCell ⟨O, 3, none⟩ (.slice av2 (ts.length + 1) cv2)) := by
  have hlen : (ts ++ [t]).length = ts.length + 1 := by simp
  have hlt := block_lt_of_cell h.c0
  simp only at hlt
  refine ⟨?_, ?_, cell_off (by decide) (hf.cell (by omega) (e1.cell h.c0)), cell_off (by decide) (hf.cell (by omega) (e1.cell h.c1)), cell_off (by decide) (hf.cell (by omega) (e1.cell h.c2)), ?_, ?_⟩
  · rw [hlen]
    exact hA.keep (M := fun k => k = O) (Fr.setCell _ rfl) (fun k _ h hz => by omega)
  · exact (h.fr.trans (Fr.of_ext e1)).trans ((hf.mono (fun k _ h => by omega)).trans (Fr.setCell _ (Nat.le_refl _)))
  · rw [hlen]
    exact cell_same (hf.cell (by omega) (e1.cell h.c3))
  · rw [World.frozen?_setCell]
    exact hf.frozen (Nat.lt_of_lt_of_le hlt (Below.size e1)) (by omega) (e1.frozen hlt h.f3)
theorem KidI.cells {T O : Nat} {w W0 wr : World} {ts : List Tm} {u0 u1 u2 : Value} {av : Option Addr} {cv : Nat} (h : KidI T w W0 O ts u0 u1 u2 av cv wr) (hO : O ≤ W0.heap.size) : (∀ k o, k < O → wr.cell? ⟨k, o, none⟩ = W0.cell? ⟨k, o, none⟩) ∧ (∀ k o, k < O → wr.frozen? ⟨k, o, none⟩ = W0.frozen? ⟨k, o, none⟩) :=
  ⟨fun k o hk => h.fr.cells.1 k o (by omega) (by omega), fun k o hk => h.fr.cells.2 k o (by omega) (by omega)⟩
theorem KidI.ext {T O : Nat} {w W0 wr : World} {ts : List Tm} {u0 u1 u2 : Value} {av : Option Addr} {cv : Nat} (h : KidI T w W0 O ts u0 u1 u2 av cv wr) (e : Ext w W0) (hO : w.heap.size ≤ O) : Ext w wr :=
  ((Fr.of_ext e).trans h.fr).toExt (fun k hk hm => by omega)
end Go.Proofs.YtognkaebiafgbaaGreatDoor

namespace Go.Proofs.YtognkaebiafgbaaGreatDoor
open Go.RowKit
set_option linter.unusedVariables false
def drawNames : List ByteArray := [⟨#[97]⟩, ⟨#[98]⟩, ⟨#[110, 105, 108]⟩, ⟨#[91, 93]⟩, ⟨#[102, 111, 111]⟩, ⟨#[43]⟩, ⟨#[46]⟩, ⟨#[102]⟩, ⟨#[103]⟩, ⟨#[115]⟩, ⟨#[61]⟩, ⟨#[105, 115]⟩]
def Drawn : Nat → Tm → Prop
  | 0, _ => False
  | d + 1, .mk k n s ks => (k = 1 ∧ 0 ≤ n ∧ n ≤ 3 ∧ s = ⟨#[]⟩ ∧ ks = []) ∨ (k = 2 ∧ -999 ≤ n ∧ n ≤ 999 ∧ s = ⟨#[]⟩ ∧ ks = []) ∨ (k = 3 ∧ n = 0 ∧ s ∈ drawNames ∧ ks.length ≤ 3 ∧ ∀ u ∈ ks, Drawn d u)
theorem Drawn.name {d : Nat} {t : Tm} (h : Drawn d t) : t.name.size ≤ 6 := by
  obtain ⟨k, n, s, ks⟩ := t
  cases d with
  | zero => exact h.elim
  | succ d =>
    rcases h with ⟨_, _, _, rfl, _⟩ | ⟨_, _, _, rfl, _⟩ | ⟨_, _, h3, _⟩
    · show (⟨#[]⟩ : ByteArray).size ≤ 6; decide
    · show (⟨#[]⟩ : ByteArray).size ≤ 6; decide
    · have hall : ∀ x ∈ drawNames, x.size ≤ 6 := by decide
      exact hall s h3
theorem sl_new {S : Nat → Prop} {w : World} {ts : List Tm} {xs : List Value} {cs : Array Value} {T n : Nat} (h : Tm.flat S w ts xs) (hcs : cs = xs.toArray) (hn : ts.length = n) (hl : n ≤ 1048576) :
    Tm.sl (fun b => S b ∨ b = w.heap.size) (w.alloc (.cells cs T)) ts (.slice (some ⟨w.heap.size, 0, none⟩) n n) := by
  subst hn hcs
  refine ⟨_, _, rfl, Nat.le_refl _, by omega, hl, .inr ⟨w.heap.size, 0, rfl, .inr rfl, ?_⟩⟩
  refine flat_row (flat_mono (fun b h => .inl h) (Agree.of_ext (Ext.alloc _ _)) h) fun j hj => ?_
  rw [List.getElem?_eq_getElem hj]
  exact cell_new _ _ _ _ _ (by simp [hj])
end Go.Proofs.YtognkaebiafgbaaGreatDoor

namespace Go.Proofs.YtognkaebiafgbaaGreatDoor
open Go.RowKit
set_option linter.unusedVariables false
theorem AppI.bound {T : Nat} {Z : Nat → Prop} {ts : List Tm} {v : Value} {w : World} (h : AppI T Z ts v w) : AppI T (fun b => Z b ∧ b < w.heap.size) ts v w := by
  obtain ⟨xs, h1, h2, h3⟩ := h
  exact ⟨xs, h1, fun g hg => ⟨h2 g hg, (h1.lt g hg).2⟩, flat_mono (fun b h => ⟨⟨h.1.1, h.2⟩, h.1.2⟩) (Agree.refl w) (flat_bound h3)⟩
end Go.Proofs.YtognkaebiafgbaaGreatDoor

namespace Go.Proofs.YtognkaebiafgbaaGreatDoor
open Go.RowKit
set_option linter.unusedVariables false
def BoxT (w : World) (b : Nat) (v0 v1 v2 v3 : Value) : Prop :=
  w.cell? ⟨b, 0, none⟩ = some v0 ∧ w.cell? ⟨b, 1, none⟩ = some v1 ∧ w.cell? ⟨b, 2, none⟩ = some v2 ∧ w.cell? ⟨b, 3, none⟩ = some v3 ∧
    w.frozen? ⟨b, 0, none⟩ = false ∧ w.frozen? ⟨b, 1, none⟩ = false ∧ w.frozen? ⟨b, 2, none⟩ = false ∧ w.frozen? ⟨b, 3, none⟩ = false
theorem BoxT.lt {w : World} {b : Nat} {v0 v1 v2 v3 : Value} (h : BoxT w b v0 v1 v2 v3) : b < w.heap.size := block_lt_of_cell h.1
theorem BoxT.fr {M : Nat → Prop} {w w' : World} {b : Nat} {v0 v1 v2 v3 : Value} (h : BoxT w b v0 v1 v2 v3) (f : Fr M w w') (hb : ¬ M b) : BoxT w' b v0 v1 v2 v3 :=
  ⟨f.cell hb h.1, f.cell hb h.2.1, f.cell hb h.2.2.1, f.cell hb h.2.2.2.1, f.frozen h.lt hb h.2.2.2.2.1, f.frozen h.lt hb h.2.2.2.2.2.1, f.frozen h.lt hb h.2.2.2.2.2.2.1, f.frozen h.lt hb h.2.2.2.2.2.2.2⟩
theorem BoxT.ext {w w' : World} {b : Nat} {v0 v1 v2 v3 : Value} (h : BoxT w b v0 v1 v2 v3) (e : Ext w w') : BoxT w' b v0 v1 v2 v3 := h.fr (M := fun _ => False) (Fr.of_ext e) (fun h => h)
theorem BoxT.new (w : World) (v0 v1 v2 v3 : Value) (T : Nat) {b : Nat} (hb : b = w.heap.size) : BoxT (w.alloc (.cells #[v0, v1, v2, v3] T)) b v0 v1 v2 v3 := by
  subst hb
  refine ⟨?_, ?_, ?_, ?_, ?_, ?_, ?_, ?_⟩ <;> go_simp
theorem BytesAt.ext {w w' : World} {v : Value} (h : BytesAt w v) (e : Ext w w') : BytesAt w' v := by
  obtain ⟨a, len, cap, h1, h2, h3, h4⟩ := h
  refine ⟨a, len, cap, h1, h2, h3, ?_⟩
  rcases h4 with h4 | ⟨b, off, h4, h5⟩
  · exact .inl h4
  · exact .inr ⟨b, off, h4, fun i hi => let ⟨n, hn, hc⟩ := h5 i hi; ⟨n, hn, e.cell hc⟩⟩
end Go.Proofs.YtognkaebiafgbaaGreatDoor

namespace Go.Proofs.YtognkaebiafgbaaGreatDoor
open Go.RowKit
set_option linter.unusedVariables false
structure Cl where
  head : Tm
  body : List Tm
def Cl.at (S : Nat → Prop) (w : World) (c : Cl) (v : Value) : Prop := ∃ sv bv, v = .agg #[.int .i64 c.head.kind, .int .i64 c.head.n, .string c.head.name, sv, bv] ∧ Tm.at S w c.head (.agg #[.int .i64 c.head.kind, .int .i64 c.head.n, .string c.head.name, sv]) ∧ Tm.sl S w c.body bv
def Cl.cells (S : Nat → Prop) (w : World) (b off : Nat) (c : Cl) : Prop := Tm.cells S w b off c.head ∧ ∃ sv, w.cell? ⟨b, off + 4, none⟩ = some sv ∧ Tm.sl S w c.body sv
def Cl.row (S : Nat → Prop) (w : World) (b off : Nat) : List Cl → Prop
  | [] => True
  | c :: cs => Cl.cells S w b off c ∧ Cl.row S w b (off + 5) cs
def Cl.sl (S : Nat → Prop) (w : World) (cs : List Cl) (v : Value) : Prop :=
  ∃ a cap, v = .slice a cs.length cap ∧ cs.length ≤ cap ∧ cap ≤ 9223372036854775807 ∧ cs.length ≤ 1048576 ∧
    (cs = [] ∨ ∃ b off, a = some ⟨b, off, none⟩ ∧ S b ∧ Cl.row S w b off cs)
theorem Cl.at_mono {S S' : Nat → Prop} {w w' : World} (hS : ∀ b, S b → S' b) (ha : Agree S w w') {c : Cl} {v : Value} (h : Cl.at S w c v) : Cl.at S' w' c v := by
  obtain ⟨hv, bv, h1, h2, h3⟩ := h
  exact ⟨hv, bv, h1, Tm.at_mono hS ha h2, Tm.sl_mono hS ha h3⟩
theorem Cl.at_ext {S : Nat → Prop} {w w' : World} (e : Ext w w') {c : Cl} {v : Value} (h : Cl.at S w c v) : Cl.at S w' c v := Cl.at_mono (fun _ h => h) (Agree.of_ext e) h
theorem Cl.row_mono {S S' : Nat → Prop} {w w' : World} (hS : ∀ b, S b → S' b) (ha : Agree S w w') {b : Nat} (hb : S b) : ∀ (cs : List Cl) (off : Nat), Cl.row S w b off cs → Cl.row S' w' b off cs
  | [], _, _ => trivial
  | c :: cs, off, h => by
    obtain ⟨⟨h1, sv, h2, h3⟩, h4⟩ := h
    exact ⟨⟨Tm.cells_mono hS ha (b' := 0) (fun o v => ha _ o v hb) _ h1, sv, ha _ _ _ hb h2, Tm.sl_mono hS ha h3⟩, Cl.row_mono hS ha hb cs _ h4⟩
theorem Cl.sl_mono {S S' : Nat → Prop} {w w' : World} (hS : ∀ b, S b → S' b) (ha : Agree S w w') {cs : List Cl} {v : Value} (h : Cl.sl S w cs v) : Cl.sl S' w' cs v := by
  obtain ⟨a, cap, h1, h2, h3, h4, h5⟩ := h
  refine ⟨a, cap, h1, h2, h3, h4, ?_⟩
  rcases h5 with h5 | ⟨b, off, h5, h6, h7⟩
  · exact .inl h5
  · exact .inr ⟨b, off, h5, hS _ h6, Cl.row_mono hS ha h6 cs _ h7⟩
theorem Cl.sl_ext {S : Nat → Prop} {w w' : World} (e : Ext w w') {cs : List Cl} {v : Value} (h : Cl.sl S w cs v) : Cl.sl S w' cs v := Cl.sl_mono (fun _ h => h) (Agree.of_ext e) h
theorem Cl.row_get {S : Nat → Prop} {w : World} {b : Nat} : ∀ {cs : List Cl} {off : Nat}, Cl.row S w b off cs → ∀ (i : Nat) (c : Cl), cs[i]? = some c → Cl.cells S w b (off + i * 5) c
  | [], _, _, i, t, h => by simp at h
  | c0 :: cs, off, h, 0, t, ht => by
    simp at ht; subst ht
    simpa using h.1
  | c0 :: cs, off, h, i + 1, t, ht => by
    have := Cl.row_get h.2 i t (by simpa using ht)
    rw [show off + (i + 1) * 5 = off + 5 + i * 5 by omega]
    exact this
theorem Cl.at_of_cells {S : Nat → Prop} {w : World} {b off : Nat} {c : Cl} (h : Cl.cells S w b off c) :
    ∃ a cap a' cap', w.cell? ⟨b, off, none⟩ = some (.int .i64 c.head.kind) ∧ w.cell? ⟨b, off + 1, none⟩ = some (.int .i64 c.head.n) ∧ w.cell? ⟨b, off + 2, none⟩ = some (.string c.head.name) ∧
      w.cell? ⟨b, off + 3, none⟩ = some (.slice a c.head.kids.length cap) ∧ w.cell? ⟨b, off + 4, none⟩ = some (.slice a' c.body.length cap') ∧
      Tm.at S w c.head (.agg #[.int .i64 c.head.kind, .int .i64 c.head.n, .string c.head.name, .slice a c.head.kids.length cap]) ∧ Tm.sl S w c.body (.slice a' c.body.length cap') := by
  obtain ⟨h1, sv, h2, h3⟩ := h
  obtain ⟨a, cap, c0, c1, c2, c3, hat⟩ := Tm.at_of_cells h1
  have h3' := h3
  obtain ⟨a', cap', rfl, _⟩ := h3
  exact ⟨a, cap, a', cap', c0, c1, c2, c3, h2, hat, h3'⟩
theorem Cl.get {S : Nat → Prop} {w wr : World} {cs : List Cl} {a : Option Addr} {k : Nat} {c : Cl}
    (h : cs = [] ∨ ∃ b off, a = some ⟨b, off, none⟩ ∧ S b ∧ Cl.row S w b off cs) (hc : cs[k]? = some c) (he : Ext w wr) :
    ∃ b off ak ck al cl, a = some ⟨b, off, none⟩ ∧
      wr.cell? ⟨b, off + k * 5, none⟩ = some (.int .i64 c.head.kind) ∧ wr.cell? ⟨b, off + k * 5 + 1, none⟩ = some (.int .i64 c.head.n) ∧ wr.cell? ⟨b, off + k * 5 + 2, none⟩ = some (.string c.head.name) ∧
      wr.cell? ⟨b, off + k * 5 + 3, none⟩ = some (.slice ak c.head.kids.length ck) ∧ wr.cell? ⟨b, off + k * 5 + 4, none⟩ = some (.slice al c.body.length cl) ∧
      Tm.at S w c.head (.agg #[.int .i64 c.head.kind, .int .i64 c.head.n, .string c.head.name, .slice ak c.head.kids.length ck]) ∧ Tm.sl S w c.body (.slice al c.body.length cl) := by
  rcases h with h4 | ⟨b, off, rfl, hSb, hrow⟩
  · rw [h4] at hc; simp at hc
  obtain ⟨ak, ck, al, cl, c0, c1, c2, c3, c4, hat, hsl⟩ := Cl.at_of_cells (Cl.row_get hrow k c hc)
  exact ⟨b, off, ak, ck, al, cl, rfl, he.cell c0, he.cell c1, he.cell c2, he.cell c3, he.cell c4, hat, hsl⟩
theorem Cl.form {S : Nat → Prop} {w : World} {c : Cl} {v : Value} (h : Cl.at S w c v) :
    ∃ a cap a' cap', v = .agg #[.int .i64 c.head.kind, .int .i64 c.head.n, .string c.head.name, .slice a c.head.kids.length cap, .slice a' c.body.length cap'] ∧
      Tm.at S w c.head (.agg #[.int .i64 c.head.kind, .int .i64 c.head.n, .string c.head.name, .slice a c.head.kids.length cap]) ∧ Tm.sl S w c.body (.slice a' c.body.length cap') := by
  obtain ⟨hv, bv, rfl, h2, h3⟩ := h
  have h2' := h2
  have h3' := h3
  obtain ⟨a', cap', rfl, _⟩ := h3
  obtain ⟨_, sv', he, a, cap, rfl, _⟩ := Tm.at_iff.1 h2
  simp only [Value.agg.injEq, Array.mk.injEq, List.cons.injEq, and_true, true_and] at he
  subst he
  exact ⟨a, cap, a', cap', rfl, h2', h3'⟩
def BoxC (w : World) (b : Nat) (v0 v1 v2 v3 v4 : Value) : Prop :=
  w.cell? ⟨b, 0, none⟩ = some v0 ∧ w.cell? ⟨b, 1, none⟩ = some v1 ∧ w.cell? ⟨b, 2, none⟩ = some v2 ∧ w.cell? ⟨b, 3, none⟩ = some v3 ∧ w.cell? ⟨b, 4, none⟩ = some v4 ∧
    w.frozen? ⟨b, 0, none⟩ = false ∧ w.frozen? ⟨b, 1, none⟩ = false ∧ w.frozen? ⟨b, 2, none⟩ = false ∧ w.frozen? ⟨b, 3, none⟩ = false ∧ w.frozen? ⟨b, 4, none⟩ = false
abbrev BoxCZ (w : World) (b : Nat) : Prop := BoxC w b (.int .i64 0) (.int .i64 0) (.string ⟨#[]⟩) (.slice none 0 0) (.slice none 0 0)
theorem BoxC.lt {w : World} {b : Nat} {v0 v1 v2 v3 v4 : Value} (h : BoxC w b v0 v1 v2 v3 v4) : b < w.heap.size := block_lt_of_cell h.1
theorem BoxC.fr {M : Nat → Prop} {w w' : World} {b : Nat} {v0 v1 v2 v3 v4 : Value} (h : BoxC w b v0 v1 v2 v3 v4) (f : Fr M w w') (hb : ¬ M b) : BoxC w' b v0 v1 v2 v3 v4 := by
  have hl := h.lt
  obtain ⟨c0, c1, c2, c3, c4, f0, f1, f2, f3, f4⟩ := h
  exact ⟨f.cell hb c0, f.cell hb c1, f.cell hb c2, f.cell hb c3, f.cell hb c4, f.frozen hl hb f0, f.frozen hl hb f1, f.frozen hl hb f2, f.frozen hl hb f3, f.frozen hl hb f4⟩
theorem BoxC.ext {w w' : World} {b : Nat} {v0 v1 v2 v3 v4 : Value} (h : BoxC w b v0 v1 v2 v3 v4) (e : Ext w w') : BoxC w' b v0 v1 v2 v3 v4 := h.fr (M := fun _ => False) (Fr.of_ext e) (fun h => h)
theorem BoxC.new (w : World) (v0 v1 v2 v3 v4 : Value) (T : Nat) {b : Nat} (hb : b = w.heap.size) : BoxC (w.alloc (.cells #[v0, v1, v2, v3, v4] T)) b v0 v1 v2 v3 v4 := by
  subst hb
  refine ⟨?_, ?_, ?_, ?_, ?_, ?_, ?_, ?_, ?_, ?_⟩ <;> go_simp
theorem BoxC.setHead {w : World} {b : Nat} {v0 v1 v2 v3 v4 : Value} (h : BoxC w b v0 v1 v2 v3 v4) (u0 u1 u2 u3 : Value) : BoxC (set4 w b u0 u1 u2 u3) b u0 u1 u2 u3 v4 := by
  obtain ⟨c0, c1, c2, c3, c4, f0, f1, f2, f3, f4⟩ := h
  obtain ⟨s0, s1, s2, s3⟩ := set4_cells u0 u1 u2 u3 c0 c1 c2 c3
  have s4 : (set4 w b u0 u1 u2 u3).cell? ⟨b, 4, none⟩ = some v4 := by
    unfold set4
    exact cell_off (i := 4) (j := 3) (by decide) (cell_off (i := 4) (j := 2) (by decide) (cell_off (i := 4) (j := 1) (by decide) (cell_off (i := 4) (j := 0) (by decide) c4)))
  exact ⟨s0, s1, s2, s3, s4, by unfold set4; rw [World.frozen?_setCell, World.frozen?_setCell, World.frozen?_setCell, World.frozen?_setCell]; exact f0, by unfold set4; rw [World.frozen?_setCell, World.frozen?_setCell, World.frozen?_setCell, World.frozen?_setCell]; exact f1, by unfold set4; rw [World.frozen?_setCell, World.frozen?_setCell, World.frozen?_setCell, World.frozen?_setCell]; exact f2, by unfold set4; rw [World.frozen?_setCell, World.frozen?_setCell, World.frozen?_setCell, World.frozen?_setCell]; exact f3, by unfold set4; rw [World.frozen?_setCell, World.frozen?_setCell, World.frozen?_setCell, World.frozen?_setCell]; exact f4⟩
theorem BoxC.setBody {w : World} {b : Nat} {v0 v1 v2 v3 v4 : Value} (h : BoxC w b v0 v1 v2 v3 v4) (u : Value) : BoxC (w.setCell ⟨b, 4, none⟩ u) b v0 v1 v2 v3 u := by
  obtain ⟨c0, c1, c2, c3, c4, f0, f1, f2, f3, f4⟩ := h
  exact ⟨cell_off (i := 0) (j := 4) (by decide) c0, cell_off (i := 1) (j := 4) (by decide) c1, cell_off (i := 2) (j := 4) (by decide) c2, cell_off (i := 3) (j := 4) (by decide) c3, cell_same c4, by rw [World.frozen?_setCell]; exact f0, by rw [World.frozen?_setCell]; exact f1, by rw [World.frozen?_setCell]; exact f2, by rw [World.frozen?_setCell]; exact f3, by rw [World.frozen?_setCell]; exact f4⟩
theorem load5 {P : Program} {w : World} {T b : Nat} {v0 v1 v2 v3 v4 : Value} (hT : ∀ w, (isAgg T).run P w = .ok true w) (hs : ∀ w, (sizeOf T).run P w = .ok 5 w)
    (h0 : w.cell? ⟨b, 0, none⟩ = some v0) (h1 : w.cell? ⟨b, 1, none⟩ = some v1) (h2 : w.cell? ⟨b, 2, none⟩ = some v2) (h3 : w.cell? ⟨b, 3, none⟩ = some v3) (h4 : w.cell? ⟨b, 4, none⟩ = some v4) :
    (loadVar T ⟨b, 0, none⟩).run P w = .ok (.agg #[v0, v1, v2, v3, v4]) w := by
  unfold loadVar
  simp only [Sem.run_bind, hT, Result.andThen_ok, if_true, hs]
  simp [loadCells, loadCellsFrom, go_sem, h0, h1, h2, h3, h4]
theorem set5_grown (Y : World) (b : Nat) (v0 v1 v2 v3 v4 : Value) : Y.grownBy ((((((Y.setCell ⟨b, 0, none⟩ v0).setCell ⟨b, 1, none⟩ v1).setCell ⟨b, 2, none⟩ v2).setCell ⟨b, 3, none⟩ v3)).setCell ⟨b, 4, none⟩ v4) (some b) :=
  grown_trans (set4_grown Y b v0 v1 v2 v3) (grown_setCell _ _ _ _)
theorem ret5_set {P : Program} {fn : Func} {R : Ending → World → Prop} {a : Act} {Y : World} {p T b : Nat} {u0 u1 u2 u3 u4 v0 v1 v2 v3 v4 : Value}
    (hres : fn.results = #[.cell p T]) (hT : ∀ w, (isAgg T).run P w = .ok true w) (hs : ∀ w, (sizeOf T).run P w = .ok 5 w) (hp : a.tmps.getD p undef = .pointer (some ⟨b, 0, none⟩)) (hd : a.defers = [])
    (h : BoxC Y b u0 u1 u2 u3 u4)
    (hR : ∀ X, Y.grownBy X (some b) → R (.returned (.agg #[v0, v1, v2, v3, v4])) X) :
    bodyPost P fn R .ret a ((((((Y.setCell ⟨b, 0, none⟩ v0).setCell ⟨b, 1, none⟩ v1).setCell ⟨b, 2, none⟩ v2).setCell ⟨b, 3, none⟩ v3)).setCell ⟨b, 4, none⟩ v4) := by
  have h' := (h.setHead v0 v1 v2 v3).setBody v4
  obtain ⟨c0, c1, c2, c3, c4, _⟩ := h'
  refine bodyPost_ret (v := .agg #[v0, v1, v2, v3, v4]) ?_ hd (hR _ (set5_grown Y b v0 v1 v2 v3 v4))
  have hl := load5 (P := P) (T := T) (b := b) hT hs c0 c1 c2 c3 c4
  simp only [results, hres]
  have hp' : a.tmps[p]?.getD undef = .pointer (some ⟨b, 0, none⟩) := by simpa using hp
  unfold set4 at hl
  simp [hp', asAddr, hl]
end Go.Proofs.YtognkaebiafgbaaGreatDoor
