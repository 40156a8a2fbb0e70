/-
  A slice of terms that a loop fills by append: what holds between the rounds, and the step; frames by a set of blocks that may have changed.
-/
import Derived.Test.YtognkaebiafgbaaMu4
import Derived.Test.YtognkaebiafgbaaMu3
namespace Go.Proofs.Ytognkaebiafgbaa
open Go.RowKit
set_option linter.unusedVariables false
structure Fr (M : Nat → Prop) (w w' : World) : Prop where
  os : w'.os = w.os
  tape : w'.tape = w.tape
  output : w'.output = w.output
  size : w.heap.size ≤ w'.heap.size
  block : ∀ k, k < w.heap.size → ¬ M k → w'.heap[k]? = w.heap[k]?
theorem Fr.refl (M : Nat → Prop) (w : World) : Fr M w w := ⟨rfl, rfl, rfl, Nat.le_refl _, fun _ _ _ => rfl⟩
theorem Fr.trans {M : Nat → Prop} {a b c : World} (h : Fr M a b) (k : Fr M b c) : Fr M a c :=
  ⟨k.os.trans h.os, k.tape.trans h.tape, k.output.trans h.output, Nat.le_trans h.size k.size, fun i hi hne => (k.block i (Nat.lt_of_lt_of_le hi h.size) hne).trans (h.block i hi hne)⟩
theorem Fr.mono {M M' : Nat → Prop} {a b : World} (h : Fr M a b) (hM : ∀ k, k < a.heap.size → M k → M' k) : Fr M' a b :=
  ⟨h.os, h.tape, h.output, h.size, fun i hi hne => h.block i hi (fun hm => hne (hM i hi hm))⟩
theorem Fr.of_grown {M : Nat → Prop} {a b : World} {row : Option Nat} (h : a.grownBy b row) (hM : ∀ k, row = some k → M k) : Fr M a b :=
  ⟨h.os, h.tape, h.output, h.size, fun i hi hne => h.block i hi (fun e => hne (hM i e.symm))⟩
theorem Fr.of_ext {M : Nat → Prop} {a b : World} (h : Ext a b) : Fr M a b := Fr.of_grown h.grownBy (by simp)
theorem Fr.of_extR {M : Nat → Prop} {r : Nat} {a b : World} (h : ExtR r a b) (hM : M r) : Fr M a b := Fr.of_grown h.1 (fun k e => by cases e; exact hM)
theorem Fr.alloc {M : Nat → Prop} (w : World) (o : Obj) : Fr M w (w.alloc o) := Fr.of_ext (Ext.alloc _ _)
theorem Fr.drew {M : Nat → Prop} (w : World) : Fr M w w.drew := Fr.of_ext (Ext.drew _)
theorem Fr.setCell {M : Nat → Prop} (w : World) {b i : Nat} {u : Value} (hM : M b) : Fr M w (w.setCell ⟨b, i, none⟩ u) := Fr.of_grown (grown_setCell _ _ _ _) (fun k e => by cases e; exact hM)
theorem Fr.toExt {M : Nat → Prop} {a b : World} (h : Fr M a b) (hM : ∀ k, k < a.heap.size → ¬ M k) : Ext a b := ⟨h.os, h.tape, h.output, h.size, fun i hi => h.block i hi (hM i hi)⟩
theorem Fr.cells {M : Nat → Prop} {a b : World} (h : Fr M a b) : (∀ k o, k < a.heap.size → ¬ M k → b.cell? ⟨k, o, none⟩ = a.cell? ⟨k, o, none⟩) ∧ (∀ k o, k < a.heap.size → ¬ M k → b.frozen? ⟨k, o, none⟩ = a.frozen? ⟨k, o, none⟩) :=
  ⟨fun k o hk hm => World.cell?_of_block (w := a) (a := ⟨k, o, none⟩) (h.block k hk hm), fun k o hk hm => World.frozen?_of_block (w := a) (a := ⟨k, o, none⟩) (h.block k hk hm)⟩
theorem Fr.cell {M : Nat → Prop} {a b : World} (h : Fr M a b) {k o : Nat} {v : Value} (hm : ¬ M k) (hc : a.cell? ⟨k, o, none⟩ = some v) : b.cell? ⟨k, o, none⟩ = some v := by
  rw [h.cells.1 k o (block_lt_of_cell hc) hm]; exact hc
theorem Fr.frozen {M : Nat → Prop} {a b : World} (h : Fr M a b) {k o : Nat} (hk : k < a.heap.size) (hm : ¬ M k) (hc : a.frozen? ⟨k, o, none⟩ = false) : b.frozen? ⟨k, o, none⟩ = false := by
  rw [h.cells.2 k o hk hm]; exact hc
theorem Fr.agree {M S : Nat → Prop} {a b : World} (h : Fr M a b) (hS : ∀ k, S k → ¬ M k) : Agree S a b := fun k o v hk hc => h.cell (hS k hk) hc
theorem Fr.at {M S : Nat → Prop} {a b : World} (h : Fr M a b) {t : Tm} {v : Value} (ht : Tm.at S a t v) (hS : ∀ k, S k → ¬ M k) : Tm.at S b t v := Tm.at_mono (fun _ h => h) (h.agree hS) ht
theorem Fr.sl {M S : Nat → Prop} {a b : World} (h : Fr M a b) {ts : List Tm} {v : Value} (ht : Tm.sl S a ts v) (hS : ∀ k, S k → ¬ M k) : Tm.sl S b ts v := Tm.sl_mono (fun _ h => h) (h.agree hS) ht
theorem ExtR.fr {M : Nat → Prop} {a b c : World} {r : Nat} (h : ExtR r a b) (f : Fr M b c) (hM : ∀ k, k < b.heap.size → M k → a.heap.size ≤ k ∧ k ≠ r) : ExtR r a c := by
  have f' : Fr (fun k => a.heap.size ≤ k ∧ k ≠ r) b c := f.mono hM
  refine ⟨⟨f.os.trans h.1.os, f.tape.trans h.1.tape, f.output.trans h.1.output, Nat.le_trans h.1.size f.size, fun k hk hne => ?_⟩, fun v hv => f'.cell (by omega) (h.2 v hv)⟩
  rw [f'.block k (Nat.lt_of_lt_of_le hk h.1.size) (by omega)]
  exact h.1.block k hk hne
theorem Rd.fr {M : Nat → Prop} {a b c : World} {r p P : Nat} (h0 : Rd a r p) (h : ExtR r a b) (hr : Rd b r P) (f : Fr M b c) (hM : ∀ k, k < b.heap.size → M k → a.heap.size ≤ k) : Rd c r P := by
  have hra := h0.lt
  have hrb := hr.lt
  have f' : Fr (fun k => a.heap.size ≤ k) b c := f.mono hM
  obtain ⟨a0, len0, cap0, g1, _, _, _, _, _, g7⟩ := h0
  obtain ⟨a1, len, cap, h1, h2, h3, h4, h5, h6, h7⟩ := hr
  have e := h.2 _ g1
  rw [h1] at e
  simp only [Option.some.injEq, Value.slice.injEq] at e
  obtain ⟨rfl, rfl, rfl⟩ := e
  refine ⟨_, _, _, f'.cell (by omega) h1, f'.cell (by omega) h2, f'.frozen hrb (by omega) h3, h4, h5, h6, ?_⟩
  rcases h7 with h7 | ⟨bb, off, h7, h8, h9⟩
  · exact .inl h7
  · rcases g7 with g7 | ⟨bb', off', g7, g8, g9⟩
    · exact .inl g7
    · rw [h7] at g7
      simp only [Option.some.injEq, Addr.mk.injEq, and_true] at g7
      obtain ⟨rfl, rfl⟩ := g7
      refine .inr ⟨bb, off, h7, h8, fun i hi => ?_⟩
      obtain ⟨n, hn, hc⟩ := h9 i hi
      obtain ⟨m, _, hm⟩ := g9 i hi
      have := block_lt_of_cell hm
      simp only at this
      exact ⟨n, hn, f'.cell (by omega) hc⟩
def AppI (T : Nat) (Z : Nat → Prop) (ts : List Tm) (v : Value) (w : World) : Prop :=
  ∃ xs, w.ownsRow 0 T 4 v ts.length xs ∧ (∀ g, v.ownBlock = some g → Z g) ∧ Tm.flat (fun b => Z b ∧ v.ownBlock ≠ some b) w ts xs
theorem AppI.nil (T : Nat) (Z : Nat → Prop) (w : World) : AppI T Z [] (.slice none 0 0) w := ⟨[], ⟨rfl, .inl ⟨rfl, rfl⟩⟩, by simp [Value.ownBlock], rfl⟩
theorem AppI.form {T : Nat} {Z : Nat → Prop} {ts : List Tm} {v : Value} {w : World} (h : AppI T Z ts v w) : ∃ a c, v = .slice a ts.length c := by
  obtain ⟨xs, h, _⟩ := h
  exact own_form h
theorem AppI.keep {T : Nat} {Z : Nat → Prop} {ts : List Tm} {v : Value} {w w' : World} {M : Nat → Prop} (h : AppI T Z ts v w) (f : Fr M w w') (hM : ∀ k, k < w.heap.size → M k → ¬ Z k) : AppI T Z ts v w' := by
  obtain ⟨xs, h1, hz, h2⟩ := h
  have hf : Fr (fun k => ¬ Z k) w w' := f.mono hM
  refine ⟨xs, ?_, hz, flat_mono (fun _ h => h) (hf.agree (fun k hk hm => hm hk.1)) h2⟩
  obtain ⟨e1, e2⟩ := h1
  refine ⟨e1, ?_⟩
  rcases e2 with e2 | ⟨g, cap, cur, rfl, e3, e4, e5⟩
  · exact .inl e2
  · refine .inr ⟨g, cap, cur, rfl, e3, ?_, e5⟩
    rw [hf.block g (by
      obtain ⟨x, _⟩ := Array.getElem?_eq_some_iff.1 e4
      exact x) (fun hn => hn (hz g rfl))]
    exact e4
theorem AppI.ext {T : Nat} {Z : Nat → Prop} {ts : List Tm} {v : Value} {w w' : World} (h : AppI T Z ts v w) (f : Ext w w') : AppI T Z ts v w' := h.keep (M := fun _ => False) (Fr.of_ext f) (fun _ _ h => h.elim)
theorem AppI.sl {T : Nat} {Z : Nat → Prop} {ts : List Tm} {v : Value} {w : World} (h : AppI T Z ts v w) (hl : ts.length ≤ 1048576) : Tm.sl Z w ts v := by
  obtain ⟨xs, h1, hz, h2⟩ := h
  refine Tm.sl_mono ?_ (Agree.refl w) (own_sl h1 h2 hl)
  rintro b (hb | hb)
  · exact hb.1
  · exact hz b hb
theorem own_low {w : World} {base base' e size n : Nat} {v : Value} {xs : List Value} (h : w.ownsRow base e size v n xs) (hb : base' ≤ base) : w.ownsRow base' e size v n xs := by
  obtain ⟨e1, e2⟩ := h
  refine ⟨e1, ?_⟩
  rcases e2 with e2 | ⟨g, cap, cur, h3, h4, h5⟩
  · exact .inl e2
  · exact .inr ⟨g, cap, cur, h3, by omega, h5⟩
theorem AppI.empty {w : World} {T b : Nat} {Z : Nat → Prop} (hb : b = w.heap.size) (hz : Z b) : AppI T Z [] (.slice (some ⟨b, 0, none⟩) 0 0) (w.alloc (.cells #[] T)) :=
  ⟨[], own_low (own_empty hb) (Nat.zero_le _), by intro g hg; simp [Value.ownBlock] at hg; subst hg; exact hz, rfl⟩
theorem AppI.apart {T : Nat} {Z : Nat → Prop} {ts : List Tm} {v : Value} {w w1 : World} {t : Tm} {u : Value} (h : AppI T Z ts v w) (hb : ∀ b, w.heap.size ≤ b → Z b) (ht : Tm.at (fun b => w.heap.size ≤ b) w1 t u) : Tm.at (fun b => Z b ∧ v.ownBlock ≠ some b) w1 t u := by
  obtain ⟨xs, h1, _⟩ := h
  refine Tm.at_mono (fun b hb2 => ⟨hb b hb2, fun e => ?_⟩) (Agree.refl _) ht
  have := (h1.lt b e).2
  omega
theorem app_next {T : Nat} {Z : Nat → Prop} {ts : List Tm} {t : Tm} {v nv : Value} {w1 w2 : World} {xs : List Value} {a2 : Option Addr} {c2 : Nat} {o : Obj}
    (how : w1.ownsRow 0 T 4 v ts.length xs) (hz : ∀ g, v.ownBlock = some g → Z g) (hfl : Tm.flat (fun b => Z b ∧ v.ownBlock ≠ some b) w1 ts xs)
    (hv1 : Tm.at (fun b => Z b ∧ v.ownBlock ≠ some b) w1 t (.agg #[.int .i64 t.kind, .int .i64 t.n, .string t.name, .slice a2 t.kids.length c2]))
    (ho2 : w2.ownsRow 0 T 4 nv (ts.length + 1) (xs ++ tcells t a2 c2)) (hg : (w1.alloc o).grownBy w2 v.ownBlock) (hnew : ∀ b, w1.heap.size ≤ b → Z b)
    (hfr : ∀ g, nv.ownBlock = some g → v.ownBlock = some g ∨ (w1.alloc o).heap.size ≤ g) : AppI T Z (ts ++ [t]) nv w2 := by
  have hs3 : (w1.alloc o).heap.size = w1.heap.size + 1 := by simp
  have hag : Agree (fun b => Z b ∧ v.ownBlock ≠ some b) w1 w2 := (Agree.of_ext (Ext.alloc w1 o)).trans (Agree.grown hg (fun b h hz => hz.2 h))
  have hS : ∀ b, (Z b ∧ v.ownBlock ≠ some b) ∧ b < w1.heap.size → Z b ∧ nv.ownBlock ≠ some b := by
    rintro b ⟨⟨h1, h2⟩, h3⟩
    refine ⟨h1, fun h => ?_⟩
    rcases hfr b h with h | h
    · exact h2 h
    · omega
  refine ⟨xs ++ tcells t a2 c2, by simpa using ho2, ?_, flat_snoc ?_ ?_⟩
  · intro g hgg
    rcases hfr g hgg with h | h
    · exact hz g h
    · exact hnew g (by omega)
  · exact Tm.at_mono hS (fun b o v hb hc => hag b o v hb.1 hc) (Tm.at_bound hv1)
  · exact flat_mono hS (fun b o v hb hc => hag b o v hb.1 hc) (flat_bound hfl)
theorem step_append_tm {P : Program} {ops : Array Oper} {o : Oper} {a : Act} {w1 : World} {K : Act → World → Prop} {Q : Exit → Act → World → Prop} {E : Prop}
    (hgd : o.guard = none) (s x : Operand) (ty : TypeId)
    (ho : o.op = .call { callee := .builtin .append, args := #[s, x], argTypes := #[ty, ty] })
    (Z : Nat → Prop) (T : TypeId) (i : TypeInfo) (ht : P.underlying ty = some (.slice T)) (hi : P.info? T = some i) (hz : i.zero = some (.agg #[.int .i64 0, .int .i64 0, .string ⟨#[]⟩, .slice none 0 0]))
    (hsize : i.size = 4) (hby : i.bytes = 56)
    (v : Value) (ts : List Tm) (t : Tm) (a2 : Option Addr) (c2 : Nat) (hs : a.eval s = v) (happ : AppI T Z ts v w1) (hx : a.eval x = .slice (some ⟨w1.heap.size, 0, none⟩) 1 1)
    (hv1 : Tm.at (fun b => Z b ∧ v.ownBlock ≠ some b) w1 t (.agg #[.int .i64 t.kind, .int .i64 t.n, .string t.name, .slice a2 t.kids.length c2]))
    (hl : ts.length < 1048576) (hnew : ∀ b, w1.heap.size ≤ b → Z b)
    (h : ∀ av cv w2, AppI T Z (ts ++ [t]) (.slice av (ts.length + 1) cv) w2 → Fr Z w1 w2 → K (a.put o.dst (.slice av (ts.length + 1) cv)) w2) :
    if Region.wanted o (yielded ops a.tmps) = true then Oper.wp P o a (w1.alloc (.cells #[.int .i64 t.kind, .int .i64 t.n, .string t.name, .slice a2 t.kids.length c2] T)) K Q else E := by
  obtain ⟨xs, how, hzz, hfl⟩ := happ
  refine step_append_fresh hgd s x ty ho 0 T i _ 4 56 ht hi hz hsize hby rfl (by decide) v ts.length xs hs (own_ext how (Ext.alloc _ _)) ⟨w1.heap.size, 0, none⟩ 1 1 (tcells t a2 c2) hx rfl (fun j u h => cell_four _ _ _ j u h) (by simp [tcells, Value.oneCell']) (by unfold maxLen; omega) (by omega) (by omega) ?_
  intro v2 w2 ho2 hg2 hfr2
  obtain ⟨av, cv, rfl⟩ := own_form ho2
  exact h av cv w2 (app_next how hzz hfl hv1 ho2 hg2 hnew hfr2) ((Fr.alloc _ _).trans (Fr.of_grown hg2 (fun k hk => hzz k hk)))
theorem wpList_append_tm {P : Program} {ops : Array Oper} {rest : List Oper} {o : Oper} {a : Act} {w1 : World} {Q : Exit → Act → World → Prop}
    (hgd : o.guard = none) (s x : Operand) (ty : TypeId)
    (ho : o.op = .call { callee := .builtin .append, args := #[s, x], argTypes := #[ty, ty] })
    (Z : Nat → Prop) (T : TypeId) (i : TypeInfo) (ht : P.underlying ty = some (.slice T)) (hi : P.info? T = some i) (hz : i.zero = some (.agg #[.int .i64 0, .int .i64 0, .string ⟨#[]⟩, .slice none 0 0]))
    (hsize : i.size = 4) (hby : i.bytes = 56)
    (v : Value) (ts : List Tm) (t : Tm) (a2 : Option Addr) (c2 : Nat) (hs : a.eval s = v) (happ : AppI T Z ts v w1) (hx : a.eval x = .slice (some ⟨w1.heap.size, 0, none⟩) 1 1)
    (hv1 : Tm.at (fun b => Z b ∧ v.ownBlock ≠ some b) w1 t (.agg #[.int .i64 t.kind, .int .i64 t.n, .string t.name, .slice a2 t.kids.length c2]))
    (hl : ts.length < 1048576) (hnew : ∀ b, w1.heap.size ≤ b → Z b)
    (h : ∀ av cv w2, AppI T Z (ts ++ [t]) (.slice av (ts.length + 1) cv) w2 → Fr Z w1 w2 → wpList P ops Q rest (a.put o.dst (.slice av (ts.length + 1) cv)) w2) :
    wpList P ops Q (o :: rest) a (w1.alloc (.cells #[.int .i64 t.kind, .int .i64 t.n, .string t.name, .slice a2 t.kids.length c2] T)) := by
  obtain ⟨xs, how, hzz, hfl⟩ := happ
  refine wpList_append_fresh hgd s x ty ho 0 T i _ 4 56 ht hi hz hsize hby rfl (by decide) v ts.length xs hs (own_ext how (Ext.alloc _ _)) ⟨w1.heap.size, 0, none⟩ 1 1 (tcells t a2 c2) hx rfl (fun j u h => cell_four _ _ _ j u h) (by simp [tcells, Value.oneCell']) (by unfold maxLen; omega) (by omega) (by omega) ?_
  intro v2 w2 ho2 hg2 hfr2 _
  obtain ⟨av, cv, rfl⟩ := own_form ho2
  exact h av cv w2 (app_next how hzz hfl hv1 ho2 hg2 hnew hfr2) ((Fr.alloc _ _).trans (Fr.of_grown hg2 (fun k hk => hzz k hk)))
theorem strs_at_new (ss : List ByteArray) (n : Nat) (hn : ss.length = n) (w : World) (T : Nat) (cs : Array Value) (hcs : cs = (ss.map Value.string).toArray) (hl : n ≤ 1048576) (hs : ∀ s ∈ ss, s.size ≤ 1048576) : StrsAt (w.alloc (.cells cs T)) ss (.slice (some ⟨w.heap.size, 0, none⟩) n n) := by
  subst hn hcs
  refine ⟨_, _, rfl, Nat.le_refl _, hl, hs, .inr ⟨w.heap.size, 0, rfl, fun i s h => cell_new _ _ _ _ _ ?_⟩⟩
  simp [h]
theorem ints_at_new (zs : List Int) (n : Nat) (hn : zs.length = n) (w : World) (T : Nat) (cs : Array Value) (hcs : cs = (zs.map (Value.int .i64)).toArray) (hl : n ≤ 1048576) : IntsAt (w.alloc (.cells cs T)) zs (.slice (some ⟨w.heap.size, 0, none⟩) n n) := by
  subst hn hcs
  refine ⟨_, _, rfl, Nat.le_refl _, by omega, hl, .inr ⟨w.heap.size, 0, rfl, fun i s h => cell_new _ _ _ _ _ ?_⟩⟩
  simp [h]
theorem rdof_new (ss : List ByteArray) {r p : Nat} {w : World} {T : Nat} {cs : Array Value} (n : Nat) (hn : ss.length = n) (hcs : cs = (ss.map Value.string).toArray) (hl : n ≤ 1048576) (hs : ∀ s ∈ ss, s.size ≤ 1048576) (h0 : ss ≠ []) (hp : p ≤ 1099511627776) (hr : Rd w r p) {b : Nat} (hb : b = w.heap.size) :
    Calls Try.prog 20 #[.pointer (some ⟨r, 0, none⟩), .slice (some ⟨b, 0, none⟩) n n] (w.alloc (.cells cs T)) (OfPost r p ss w) := by
  subst hb
  refine (rdof r p ss _ _ hp (hr.ext (Ext.alloc _ _)) h0 ?_ (strs_at_new ss n hn w T cs hcs hl hs)).mono ?_
  · rintro b o c l h
    have := hr.lt
    simp at h; omega
  · rintro e w' ⟨s, h1, h2, h3, h4⟩
    exact ⟨s, h1, h2, h3, (ExtR.of_ext (Ext.alloc _ _)).trans h4⟩
theorem rdnum_new (zs : List Int) {r p : Nat} {w : World} {T : Nat} {cs : Array Value} (n : Nat) (hn : zs.length = n) (hcs : cs = (zs.map (Value.int .i64)).toArray) (hl : n ≤ 1048576) (h0 : zs ≠ []) (hp : p ≤ 1099511627776) (hr : Rd w r p) {b : Nat} (hb : b = w.heap.size) :
    Calls Try.prog 21 #[.pointer (some ⟨r, 0, none⟩), .slice (some ⟨b, 0, none⟩) n n] (w.alloc (.cells cs T)) (NumPost r p zs w) := by
  subst hb
  refine (rdnum r p zs _ _ hp (hr.ext (Ext.alloc _ _)) h0 ?_ (ints_at_new zs n hn w T cs hcs hl)).mono ?_
  · rintro b o c l h
    have := hr.lt
    simp at h; omega
  · rintro e w' ⟨s, h1, h2, h3, h4⟩
    exact ⟨s, h1, h2, h3, (ExtR.of_ext (Ext.alloc _ _)).trans h4⟩
theorem ExtR.cells {r : Nat} {w w' : World} (h : ExtR r w w') : (∀ k o, k < w.heap.size → ¬ k = r → w'.cell? ⟨k, o, none⟩ = w.cell? ⟨k, o, none⟩) ∧ (∀ k o, k < w.heap.size → ¬ k = r → w'.frozen? ⟨k, o, none⟩ = w.frozen? ⟨k, o, none⟩) :=
  (Fr.of_extR (M := fun k => k = r) h rfl).cells
theorem at_form {S : Nat → Prop} {w : World} {t : Tm} {v : Value} (h : Tm.at S w t v) : ∃ a c, v = .agg #[.int .i64 t.kind, .int .i64 t.n, .string t.name, .slice a t.kids.length c] := by
  obtain ⟨_, sv, rfl, a, c, rfl, _⟩ := Tm.at_iff.1 h
  exact ⟨a, c, rfl⟩
theorem app_at {T : Nat} {Z : Nat → Prop} {w : World} {k n : Int} {s : ByteArray} {ts : List Tm} {v : Value} (h : AppI T Z ts v w) (hs : s.size ≤ 1048576) (hl : ts.length ≤ 1048576) : Tm.at Z w (.mk k n s ts) (.agg #[.int .i64 k, .int .i64 n, .string s, v]) :=
  Tm.at_iff.2 ⟨hs, _, rfl, h.sl hl⟩
theorem app_at' {T : Nat} {Z : Nat → Prop} {w : World} {t : Tm} {v : Value} (h : AppI T Z t.kids v w) (hb : t.name.size ≤ 1048576 ∧ t.kids.length ≤ 1048576) : Tm.at Z w t (.agg #[.int .i64 t.kind, .int .i64 t.n, .string t.name, v]) :=
  Tm.at_iff.2 ⟨hb.1, _, rfl, h.sl hb.2⟩
theorem at_small {S : Nat → Prop} {w : World} {t : Tm} {v : Value} (h : Tm.at S w t v) : t.name.size ≤ 1048576 ∧ t.kids.length ≤ 1048576 := by
  obtain ⟨h1, sv, _, a, c, _, _, _, h2, _⟩ := Tm.at_iff.1 h
  exact ⟨h1, h2⟩
theorem AppI.zone {T : Nat} {Z Z' : Nat → Prop} {ts : List Tm} {v : Value} {w : World} (h : AppI T Z ts v w) (hz : ∀ b, Z b → Z' b) : AppI T Z' ts v w := by
  obtain ⟨xs, h1, h2, h3⟩ := h
  exact ⟨xs, h1, fun g hg => hz g (h2 g hg), flat_mono (fun b h => ⟨hz b h.1, h.2⟩) (Agree.refl w) h3⟩
structure KidI (T : Nat) (w W0 : World) (O : Nat) (ts : List Tm) (u0 u1 u2 : Value) (av : Option Addr) (cv : Nat) (wr : World) : Prop where
  app : AppI T (fun b => O + 1 ≤ b) ts (.slice av ts.length cv) wr
  fr : Fr (fun b => O ≤ b) W0 wr
  c0 : wr.cell? ⟨O, 0, none⟩ = some u0
  c1 : wr.cell? ⟨O, 1, none⟩ = some u1
  c2 : wr.cell? ⟨O, 2, none⟩ = some u2
  c3 : wr.cell? ⟨O, 3, none⟩ = some (.slice av ts.length cv)
  f3 : wr.frozen? ⟨O, 3, none⟩ = false
theorem KidI.next {T O : Nat} {w W0 wr w1 w2 : World} {ts : List Tm} {t : Tm} {u0 u1 u2 : Value} {av av2 : Option Addr} {cv cv2 : Nat} (h : KidI T w W0 O ts u0 u1 u2 av cv wr) (e1 : Ext wr w1)
    (hA : AppI T (fun b => O + 1 ≤ b) (ts ++ [t]) (.slice av2 (ts.length + 1) cv2) w2) (hf : Fr (fun b => O + 1 ≤ b) w1 w2) : KidI T w W0 O (ts ++ [t]) u0 u1 u2 av2 cv2 (w2.setCell ⟨O, 3, none⟩ (.slice av2 (ts.length + 1) cv2)) := by
  have hlen : (ts ++ [t]).length = ts.length + 1 := by simp
  have hlt := block_lt_of_cell h.c0
  simp only at hlt
  refine ⟨?_, ?_, cell_off (by decide) (hf.cell (by omega) (e1.cell h.c0)), cell_off (by decide) (hf.cell (by omega) (e1.cell h.c1)), cell_off (by decide) (hf.cell (by omega) (e1.cell h.c2)), ?_, ?_⟩
  · rw [hlen]
    exact hA.keep (M := fun k => k = O) (Fr.setCell _ rfl) (fun k _ h hz => by omega)
  · exact (h.fr.trans (Fr.of_ext e1)).trans ((hf.mono (fun k _ h => by omega)).trans (Fr.setCell _ (Nat.le_refl _)))
  · rw [hlen]
    exact cell_same (hf.cell (by omega) (e1.cell h.c3))
  · rw [World.frozen?_setCell]
    exact hf.frozen (Nat.lt_of_lt_of_le hlt (Below.size e1)) (by omega) (e1.frozen hlt h.f3)
theorem KidI.cells {T O : Nat} {w W0 wr : World} {ts : List Tm} {u0 u1 u2 : Value} {av : Option Addr} {cv : Nat} (h : KidI T w W0 O ts u0 u1 u2 av cv wr) (hO : O ≤ W0.heap.size) : (∀ k o, k < O → wr.cell? ⟨k, o, none⟩ = W0.cell? ⟨k, o, none⟩) ∧ (∀ k o, k < O → wr.frozen? ⟨k, o, none⟩ = W0.frozen? ⟨k, o, none⟩) :=
  ⟨fun k o hk => h.fr.cells.1 k o (by omega) (by omega), fun k o hk => h.fr.cells.2 k o (by omega) (by omega)⟩
theorem KidI.ext {T O : Nat} {w W0 wr : World} {ts : List Tm} {u0 u1 u2 : Value} {av : Option Addr} {cv : Nat} (h : KidI T w W0 O ts u0 u1 u2 av cv wr) (e : Ext w W0) (hO : w.heap.size ≤ O) : Ext w wr :=
  ((Fr.of_ext e).trans h.fr).toExt (fun k hk hm => by omega)
end Go.Proofs.Ytognkaebiafgbaa
