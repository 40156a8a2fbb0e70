/-
  Terms whose rows all belong to one owner, no row twice: what holds of the results of the program, of the arguments that a law makes; marks.
-/
import Derived.Test.YtognkaebiafgbaaGreatDoorMq7
namespace Go.Proofs.YtognkaebiafgbaaGreatDoor
open Go.RowKit
set_option linter.unusedVariables false
mutual
/-- the arguments of a term, in rows of its own within F, no row twice -/
def Tm.own (F : Nat → Prop) (w : World) : Tm → Value → Prop
  | .mk _ _ s ks, sv => s.size ≤ 1048576 ∧ ks.length ≤ 1048576 ∧ ∃ xs, w.ownsRow 0 25 4 sv ks.length xs ∧ (∀ g, sv.ownBlock = some g → F g) ∧ Tm.oflat (fun b => F b ∧ sv.ownBlock ≠ some b) w ks xs
def Tm.oflat (F : Nat → Prop) (w : World) : List Tm → List Value → Prop
  | [], xs => xs = []
  | t :: ts, xs => ∃ (F1 F2 : Nat → Prop) (a : Option Addr) (c : Nat) (rest : List Value), xs = tcells t a c ++ rest ∧ (∀ b, F1 b → F b ∧ ¬ F2 b) ∧ (∀ b, F2 b → F b) ∧ Tm.own F1 w t (.slice a t.kids.length c) ∧ Tm.oflat F2 w ts rest
end
def OwnS (F : Nat → Prop) (ts : List Tm) (v : Value) (w : World) : Prop :=
  ∃ xs, w.ownsRow 0 25 4 v ts.length xs ∧ (∀ g, v.ownBlock = some g → F g) ∧ Tm.oflat (fun b => F b ∧ v.ownBlock ≠ some b) w ts xs
theorem own_iff {F : Nat → Prop} {w : World} {t : Tm} {sv : Value} : Tm.own F w t sv ↔ t.name.size ≤ 1048576 ∧ t.kids.length ≤ 1048576 ∧ OwnS F t.kids sv w := by
  obtain ⟨k, n, s, ks⟩ := t
  simp only [Tm.own, OwnS, Tm.name, Tm.kids]
theorem own_fr {w w' : World} {e size n : Nat} {v : Value} {xs : List Value} {M : Nat → Prop} (h : w.ownsRow 0 e size v n xs) (f : Fr M w w') (hM : ∀ g, v.ownBlock = some g → ¬ M g) : w'.ownsRow 0 e size v n xs := by
  obtain ⟨e1, e2⟩ := h
  refine ⟨e1, ?_⟩
  rcases e2 with e2 | ⟨g, cap, cur, rfl, e3, e4, e5⟩
  · exact .inl e2
  · refine .inr ⟨g, cap, cur, rfl, e3, ?_, e5⟩
    rw [f.block g (by
      obtain ⟨x, _⟩ := Array.getElem?_eq_some_iff.1 e4
      exact x) (hM g rfl)]
    exact e4
mutual
theorem own_mono {F F' : Nat → Prop} {w w' : World} {M : Nat → Prop} (hF : ∀ b, F b → F' b) (f : Fr M w w') (hM : ∀ b, F b → ¬ M b) : ∀ (t : Tm) (sv : Value), Tm.own F w t sv → Tm.own F' w' t sv
  | .mk k n s ks, sv, h => by
    simp only [Tm.own] at h ⊢
    obtain ⟨h1, h2, xs, h3, h4, h5⟩ := h
    exact ⟨h1, h2, xs, own_fr h3 f (fun g hg => hM g (h4 g hg)), fun g hg => hF g (h4 g hg), oflat_mono (fun b hb => ⟨hF b hb.1, hb.2⟩) f (fun b hb => hM b hb.1) ks xs h5⟩
theorem oflat_mono {F F' : Nat → Prop} {w w' : World} {M : Nat → Prop} (hF : ∀ b, F b → F' b) (f : Fr M w w') (hM : ∀ b, F b → ¬ M b) : ∀ (ts : List Tm) (xs : List Value), Tm.oflat F w ts xs → Tm.oflat F' w' ts xs
  | [], xs, h => by simp only [Tm.oflat] at h ⊢; exact h
  | t :: ts, xs, h => by
    simp only [Tm.oflat] at h ⊢
    obtain ⟨F1, F2, a, c, rest, h1, h2, h3, h4, h5⟩ := h
    exact ⟨F1, F2, a, c, rest, h1, fun b hb => ⟨hF b (h2 b hb).1, (h2 b hb).2⟩, fun b hb => hF b (h3 b hb), own_mono (fun b hb => hb) f (fun b hb => hM b (h2 b hb).1) t _ h4, oflat_mono (fun b hb => hb) f (fun b hb => hM b (h3 b hb)) ts rest h5⟩
end
theorem OwnS.mono {F F' : Nat → Prop} {w w' : World} {M : Nat → Prop} {ts : List Tm} {v : Value} (h : OwnS F ts v w) (hF : ∀ b, F b → F' b) (f : Fr M w w') (hM : ∀ b, F b → ¬ M b) : OwnS F' ts v w' := by
  obtain ⟨xs, h3, h4, h5⟩ := h
  exact ⟨xs, own_fr h3 f (fun g hg => hM g (h4 g hg)), fun g hg => hF g (h4 g hg), oflat_mono (fun b hb => ⟨hF b hb.1, hb.2⟩) f (fun b hb => hM b hb.1) _ xs h5⟩
mutual
theorem own_flat : ∀ {F : Nat → Prop} {w : World} (t : Tm) (a : Option Addr) (c : Nat), Tm.own F w t (.slice a t.kids.length c) → Tm.at F w t (.agg #[.int .i64 t.kind, .int .i64 t.n, .string t.name, .slice a t.kids.length c])
  | F, w, .mk k n s ks, a, c, h => by
    simp only [Tm.own] at h
    obtain ⟨h1, h2, xs, h3, h4, h5⟩ := h
    have hsl := own_sl (S := fun b => F b ∧ (Value.slice a (Tm.mk k n s ks).kids.length c).ownBlock ≠ some b) h3 (oflat_flat ks xs h5) h2
    refine Tm.at_iff.2 ⟨h1, _, rfl, Tm.sl_mono ?_ (Agree.refl w) hsl⟩
    rintro b (hb | hb)
    · exact hb.1
    · exact h4 b hb
theorem oflat_flat : ∀ {F : Nat → Prop} {w : World} (ts : List Tm) (xs : List Value), Tm.oflat F w ts xs → Tm.flat F w ts xs
  | F, w, [], xs, h => by simp only [Tm.oflat] at h; exact h
  | F, w, t :: ts, xs, h => by
    simp only [Tm.oflat] at h
    obtain ⟨F1, F2, a, c, rest, h1, h2, h3, h4, h5⟩ := h
    exact ⟨a, c, rest, h1, Tm.at_mono (fun b hb => (h2 b hb).1) (Agree.refl w) (own_flat t a c h4), flat_mono h3 (Agree.refl w) (oflat_flat ts rest h5)⟩
end
theorem OwnS.app {F : Nat → Prop} {ts : List Tm} {v : Value} {w : World} (h : OwnS F ts v w) : AppI 25 F ts v w := by
  obtain ⟨xs, h1, h2, h3⟩ := h
  exact ⟨xs, h1, h2, oflat_flat ts xs h3⟩
theorem OwnS.form {F : Nat → Prop} {ts : List Tm} {v : Value} {w : World} (h : OwnS F ts v w) : ∃ a c, v = .slice a ts.length c := h.app.form
theorem OwnS.nil (F : Nat → Prop) (w : World) : OwnS F [] (.slice none 0 0) w := ⟨[], ⟨rfl, .inl ⟨rfl, rfl⟩⟩, by simp [Value.ownBlock], by simp [Tm.oflat]⟩
theorem oflat_snoc {w : World} {t : Tm} {a : Option Addr} {c : Nat} {G : Nat → Prop} (ht : Tm.own G w t (.slice a t.kids.length c)) : ∀ {F : Nat → Prop} {ts : List Tm} {xs : List Value}, Tm.oflat F w ts xs → (∀ b, F b → ¬ G b) →
    Tm.oflat (fun b => F b ∨ G b) w (ts ++ [t]) (xs ++ tcells t a c)
  | F, [], xs, h, _ => by
    simp only [Tm.oflat] at h
    subst h
    simp only [List.nil_append, Tm.oflat]
    exact ⟨G, fun _ => False, a, c, [], by simp, fun b hb => ⟨.inr hb, fun h => h⟩, fun b hb => hb.elim, ht, rfl⟩
  | F, u :: ts, xs, h, hd => by
    simp only [Tm.oflat] at h
    obtain ⟨F1, F2, a1, c1, rest, rfl, h2, h3, h4, h5⟩ := h
    simp only [List.cons_append, Tm.oflat]
    exact ⟨F1, fun b => F2 b ∨ G b, a1, c1, rest ++ tcells t a c, by simp, fun b hb => ⟨.inl (h2 b hb).1, fun h => h.elim (h2 b hb).2 (hd b (h2 b hb).1)⟩, fun b hb => hb.elim (fun h => .inl (h3 b h)) .inr, h4, oflat_snoc ht h5 (fun b hb => hd b (h3 b hb))⟩
theorem ownS_next {F G : Nat → Prop} {ts : List Tm} {t : Tm} {v nv : Value} {w1 w2 : World} {xs : List Value} {a2 : Option Addr} {c2 : Nat} {o : Obj}
    (how : w1.ownsRow 0 25 4 v ts.length xs) (hz : ∀ g, v.ownBlock = some g → F g) (hfl : Tm.oflat (fun b => F b ∧ v.ownBlock ≠ some b) w1 ts xs)
    (hv1 : Tm.own G w1 t (.slice a2 t.kids.length c2)) (hdis : ∀ b, F b → ¬ G b) (hG : ∀ b, G b → b < w1.heap.size) (hFl : ∀ b, F b → b < w1.heap.size)
    (ho2 : w2.ownsRow 0 25 4 nv (ts.length + 1) (xs ++ tcells t a2 c2)) (hg : (w1.alloc o).grownBy w2 v.ownBlock)
    (hfr : ∀ g, nv.ownBlock = some g → v.ownBlock = some g ∨ (w1.alloc o).heap.size ≤ g) : OwnS (fun b => F b ∨ G b ∨ w1.heap.size ≤ b) (ts ++ [t]) nv w2 := by
  have hs3 : (w1.alloc o).heap.size = w1.heap.size + 1 := by simp
  have f : Fr (fun b => v.ownBlock = some b) w1 w2 := (Fr.alloc w1 o).trans (Fr.of_grown hg (fun k hk => hk))
  refine ⟨xs ++ tcells t a2 c2, by simpa using ho2, ?_, ?_⟩
  · intro g hgg
    rcases hfr g hgg with h | h
    · exact .inl (hz g h)
    · exact .inr (.inr (by omega))
  · have hne : ∀ b, b < w1.heap.size → v.ownBlock ≠ some b → nv.ownBlock ≠ some b := by
      intro b hb h1 h2
      rcases hfr b h2 with h | h
      · exact h1 h
      · omega
    have hgv : ∀ b, G b → v.ownBlock ≠ some b := fun b hb h => hdis b (hz b h) hb
    have hs := oflat_snoc (own_mono (F' := G) (fun b hb => hb) f (fun b hb => hgv b hb) t _ hv1) (oflat_mono (F' := fun b => F b ∧ v.ownBlock ≠ some b) (fun b hb => hb) f (fun b hb => hb.2) ts xs hfl) (fun b hb => hdis b hb.1)
    refine oflat_mono (M := fun _ => False) ?_ (Fr.refl _ _) (fun b _ h => h) _ _ hs
    rintro b (hb | hb)
    · exact ⟨.inl hb.1, hne b (hFl b hb.1) hb.2⟩
    · exact ⟨.inr (.inl hb), hne b (hG b hb) (hgv b hb)⟩
theorem oflat_focus {w : World} {t : Tm} : ∀ {F : Nat → Prop} {ls bs : List Tm} {xs : List Value}, Tm.oflat F w (ls ++ t :: bs) xs →
    ∃ (G : Nat → Prop) (x1 x2 : List Value) (a : Option Addr) (c : Nat), xs = x1 ++ (tcells t a c ++ x2) ∧ x1.length = ls.length * 4 ∧ (∀ b, G b → F b) ∧ Tm.own G w t (.slice a t.kids.length c) ∧
      ∀ (w' : World) (t' : Tm) (M : Nat → Prop), Fr M w w' → (∀ b, F b → M b → G b) → t'.kids.length = t.kids.length → Tm.own G w' t' (.slice a t'.kids.length c) → Tm.oflat F w' (ls ++ t' :: bs) (x1 ++ (tcells t' a c ++ x2))
  | F, [], bs, xs, h => by
    simp only [List.nil_append, Tm.oflat] at h
    obtain ⟨F1, F2, a, c, rest, h1, h2, h3, h4, h5⟩ := h
    refine ⟨F1, [], rest, a, c, by simpa using h1, rfl, fun b hb => (h2 b hb).1, h4, ?_⟩
    intro w' t' M f hM hl ho
    simp only [List.nil_append, Tm.oflat]
    exact ⟨F1, F2, a, c, rest, rfl, h2, h3, ho, oflat_mono (fun b hb => hb) f (fun b hb hm => (h2 b (hM b (h3 b hb) hm)).2 hb) _ _ h5⟩
  | F, u :: ls, bs, xs, h => by
    simp only [List.cons_append, Tm.oflat] at h
    obtain ⟨F1, F2, a1, c1, rest, h1, h2, h3, h4, h5⟩ := h
    obtain ⟨G, x1, x2, a, c, e1, e2, e3, e4, e5⟩ := oflat_focus h5
    refine ⟨G, tcells u a1 c1 ++ x1, x2, a, c, by rw [h1, e1]; simp, by simp [tcells, e2]; omega, fun b hb => h3 b (e3 b hb), e4, ?_⟩
    intro w' t' M f hM hl ho
    simp only [List.cons_append, Tm.oflat]
    refine ⟨F1, F2, a1, c1, x1 ++ (tcells t' a c ++ x2), by simp, h2, h3, own_mono (fun b hb => hb) f (fun b hb hm => (h2 b hb).2 (e3 b (hM b (h2 b hb).1 hm))) _ _ h4, e5 w' t' M f (fun b hb hm => hM b (h3 b hb) hm) hl ho⟩
end Go.Proofs.YtognkaebiafgbaaGreatDoor

namespace Go.Proofs.YtognkaebiafgbaaGreatDoor
open Go.RowKit
set_option linter.unusedVariables false
mutual
theorem own_bound : ∀ {F : Nat → Prop} {w : World} (t : Tm) (sv : Value), Tm.own F w t sv → Tm.own (fun b => F b ∧ b < w.heap.size) w t sv
  | F, w, .mk k n s ks, sv, h => by
    simp only [Tm.own] at h ⊢
    obtain ⟨h1, h2, xs, h3, h4, h5⟩ := h
    refine ⟨h1, h2, xs, h3, fun g hg => ⟨h4 g hg, (h3.lt g hg).2⟩, ?_⟩
    exact oflat_mono (M := fun _ => False) (fun b hb => ⟨⟨hb.1.1, hb.2⟩, hb.1.2⟩) (Fr.refl _ _) (fun _ _ h => h) _ _ (oflat_bound ks xs h5)
theorem oflat_bound : ∀ {F : Nat → Prop} {w : World} (ts : List Tm) (xs : List Value), Tm.oflat F w ts xs → Tm.oflat (fun b => F b ∧ b < w.heap.size) w ts xs
  | F, w, [], xs, h => by simp only [Tm.oflat] at h ⊢; exact h
  | F, w, t :: ts, xs, h => by
    simp only [Tm.oflat] at h ⊢
    obtain ⟨F1, F2, a, c, rest, h1, h2, h3, h4, h5⟩ := h
    exact ⟨fun b => F1 b ∧ b < w.heap.size, fun b => F2 b ∧ b < w.heap.size, a, c, rest, h1, fun b hb => ⟨⟨(h2 b hb.1).1, hb.2⟩, fun h => (h2 b hb.1).2 h.1⟩, fun b hb => ⟨h3 b hb.1, hb.2⟩, own_bound t _ h4, oflat_bound ts rest h5⟩
end
theorem OwnS.bound {F : Nat → Prop} {w : World} {ts : List Tm} {v : Value} (h : OwnS F ts v w) : OwnS (fun b => F b ∧ b < w.heap.size) ts v w := by
  obtain ⟨xs, h3, h4, h5⟩ := h
  exact ⟨xs, h3, fun g hg => ⟨h4 g hg, (h3.lt g hg).2⟩, oflat_mono (M := fun _ => False) (fun b hb => ⟨⟨hb.1.1, hb.2⟩, hb.1.2⟩) (Fr.refl _ _) (fun _ _ h => h) _ _ (oflat_bound ts xs h5)⟩
theorem OwnS.ext {F : Nat → Prop} {w w' : World} {ts : List Tm} {v : Value} (h : OwnS F ts v w) (e : Ext w w') : OwnS F ts v w' := h.mono (M := fun _ => False) (fun _ h => h) (Fr.of_ext e) (fun _ _ h => h)
theorem own_ext1 {F : Nat → Prop} {w w' : World} {t : Tm} {v : Value} (h : Tm.own F w t v) (e : Ext w w') : Tm.own F w' t v := own_mono (M := fun _ => False) (fun _ h => h) (Fr.of_ext e) (fun _ _ h => h) _ _ h
theorem own_zone {F F' : Nat → Prop} {w : World} {t : Tm} {v : Value} (h : Tm.own F w t v) (hF : ∀ b, F b → F' b) : Tm.own F' w t v := own_mono (M := fun _ => False) hF (Fr.refl _ _) (fun _ _ h => h) _ _ h
def TmO (t : Tm) (w : World) (e : Ending) (w' : World) : Prop := ∃ a c, e = .returned (.agg #[.int .i64 t.kind, .int .i64 t.n, .string t.name, .slice a t.kids.length c]) ∧ Tm.own (fun b => w.heap.size ≤ b) w' t (.slice a t.kids.length c) ∧ Ext w w'
end Go.Proofs.YtognkaebiafgbaaGreatDoor

namespace Go.Proofs.YtognkaebiafgbaaGreatDoor
open Go.RowKit
set_option linter.unusedVariables false
theorem step_append_ow {P : Program} {ops : Array Oper} {o : Oper} {a : Act} {w0 w1 : World} {K : Act → World → Prop} {Q : Exit → Act → World → Prop} {E : Prop}
    (hgd : o.guard = none) (s x : Operand) (ty : TypeId)
    (ho : o.op = .call { callee := .builtin .append, args := #[s, x], argTypes := #[ty, ty] })
    (z : Nat) (i : TypeInfo) (ht : P.underlying ty = some (.slice 25)) (hi : P.info? 25 = some i) (hz : i.zero = some (.agg #[.int .i64 0, .int .i64 0, .string ⟨#[]⟩, .slice none 0 0]))
    (hsize : i.size = 4) (hby : i.bytes = 56)
    (v : Value) (ts : List Tm) (t : Tm) (a2 : Option Addr) (c2 : Nat) (hs : a.eval s = v) (happ : OwnS (fun b => z ≤ b ∧ b < w0.heap.size) ts v w1) {nb : Nat} (hx : a.eval x = .slice (some ⟨nb, 0, none⟩) 1 1)
    (hv1 : Tm.own (fun b => w0.heap.size ≤ b) w1 t (.slice a2 t.kids.length c2)) (hw : w0.heap.size ≤ w1.heap.size) (hzw : z ≤ w0.heap.size)
    (hl : ts.length < 1048576) (hnb : nb = w1.heap.size)
    (h : ∀ av cv w2, OwnS (fun b => z ≤ b ∧ b < w2.heap.size) (ts ++ [t]) (.slice av (ts.length + 1) cv) w2 → Fr (fun b => z ≤ b) w1 w2 → K (a.put o.dst (.slice av (ts.length + 1) cv)) w2) :
    if Region.wanted o (yielded ops a.tmps) = true then Oper.wp P o a (w1.alloc (.cells #[.int .i64 t.kind, .int .i64 t.n, .string t.name, .slice a2 t.kids.length c2] 25)) K Q else E := by
  subst hnb
  obtain ⟨xs, how, hzz, hfl⟩ := happ
  have hb := own_bound _ _ hv1
  refine step_append_fresh hgd s x ty ho 0 25 i _ 4 56 ht hi hz hsize hby rfl (by decide) v ts.length xs hs (own_ext how (Ext.alloc _ _)) ⟨w1.heap.size, 0, none⟩ 1 1 (tcells t a2 c2) hx rfl (fun j u h => cell_four _ _ _ j u h) (by simp [tcells, Value.oneCell']) (by unfold maxLen; omega) (by omega) (by omega) ?_
  intro v2 w2 ho2 hg2 hfr2
  obtain ⟨av, cv, rfl⟩ := own_form ho2
  have hn := ownS_next how hzz hfl hb (fun b h1 h2 => by omega) (fun b h => h.2) (fun b h => by omega) ho2 hg2 hfr2
  refine h av cv w2 ((hn.bound).mono (M := fun _ => False) (fun b hb => ⟨?_, hb.2⟩) (Fr.refl _ _) (fun _ _ h => h)) ((Fr.alloc _ _).trans (Fr.of_grown hg2 (fun k hk => (hzz k hk).1)))
  rcases hb.1 with h | h | h <;> omega
theorem wpList_append_ow {P : Program} {ops : Array Oper} {rest : List Oper} {o : Oper} {a : Act} {w0 w1 : World} {Q : Exit → Act → World → Prop}
    (hgd : o.guard = none) (s x : Operand) (ty : TypeId)
    (ho : o.op = .call { callee := .builtin .append, args := #[s, x], argTypes := #[ty, ty] })
    (z : Nat) (i : TypeInfo) (ht : P.underlying ty = some (.slice 25)) (hi : P.info? 25 = some i) (hz : i.zero = some (.agg #[.int .i64 0, .int .i64 0, .string ⟨#[]⟩, .slice none 0 0]))
    (hsize : i.size = 4) (hby : i.bytes = 56)
    (v : Value) (ts : List Tm) (t : Tm) (a2 : Option Addr) (c2 : Nat) (hs : a.eval s = v) (happ : OwnS (fun b => z ≤ b ∧ b < w0.heap.size) ts v w1) {nb : Nat} (hx : a.eval x = .slice (some ⟨nb, 0, none⟩) 1 1)
    (hv1 : Tm.own (fun b => w0.heap.size ≤ b) w1 t (.slice a2 t.kids.length c2)) (hw : w0.heap.size ≤ w1.heap.size) (hzw : z ≤ w0.heap.size)
    (hl : ts.length < 1048576) (hnb : nb = w1.heap.size)
    (h : ∀ av cv w2, OwnS (fun b => z ≤ b ∧ b < w2.heap.size) (ts ++ [t]) (.slice av (ts.length + 1) cv) w2 → Fr (fun b => z ≤ b) w1 w2 → wpList P ops Q rest (a.put o.dst (.slice av (ts.length + 1) cv)) w2) :
    wpList P ops Q (o :: rest) a (w1.alloc (.cells #[.int .i64 t.kind, .int .i64 t.n, .string t.name, .slice a2 t.kids.length c2] 25)) := by
  subst hnb
  obtain ⟨xs, how, hzz, hfl⟩ := happ
  have hb := own_bound _ _ hv1
  refine wpList_append_fresh hgd s x ty ho 0 25 i _ 4 56 ht hi hz hsize hby rfl (by decide) v ts.length xs hs (own_ext how (Ext.alloc _ _)) ⟨w1.heap.size, 0, none⟩ 1 1 (tcells t a2 c2) hx rfl (fun j u h => cell_four _ _ _ j u h) (by simp [tcells, Value.oneCell']) (by unfold maxLen; omega) (by omega) (by omega) ?_
  intro v2 w2 ho2 hg2 hfr2 _
  obtain ⟨av, cv, rfl⟩ := own_form ho2
  have hn := ownS_next how hzz hfl hb (fun b h1 h2 => by omega) (fun b h => h.2) (fun b h => by omega) ho2 hg2 hfr2
  refine h av cv w2 ((hn.bound).mono (M := fun _ => False) (fun b hb => ⟨?_, hb.2⟩) (Fr.refl _ _) (fun _ _ h => h)) ((Fr.alloc _ _).trans (Fr.of_grown hg2 (fun k hk => (hzz k hk).1)))
  rcases hb.1 with h | h | h <;> omega
structure KidO (w : World) (O R z : Nat) (ts : List Tm) (u0 u1 u2 : Value) (av : Option Addr) (cv : Nat) (wr : World) : Prop where
  app : OwnS (fun b => z ≤ b ∧ b < wr.heap.size) ts (.slice av ts.length cv) wr
  ext : Ext w wr
  box : BoxT wr O u0 u1 u2 (.slice av ts.length cv)
  res : BoxT wr R (.int .i64 0) (.int .i64 0) (.string ⟨#[]⟩) (.slice none 0 0)
theorem BoxT.set3 {w : World} {b : Nat} {v0 v1 v2 v3 : Value} (h : BoxT w b v0 v1 v2 v3) (u : Value) : BoxT (w.setCell ⟨b, 3, none⟩ u) b v0 v1 v2 u := by
  obtain ⟨c0, c1, c2, c3, f0, f1, f2, f3⟩ := h
  exact ⟨cell_off (by decide) c0, cell_off (by decide) c1, cell_off (by decide) c2, cell_same c3, by rw [World.frozen?_setCell]; exact f0, by rw [World.frozen?_setCell]; exact f1, by rw [World.frozen?_setCell]; exact f2, by rw [World.frozen?_setCell]; exact f3⟩
theorem KidO.next {w wr w1 w2 : World} {O R z : Nat} {ts : List Tm} {t : Tm} {u0 u1 u2 : Value} {av av2 : Option Addr} {cv cv2 : Nat} (h : KidO w O R z ts u0 u1 u2 av cv wr) (hO : w.heap.size ≤ O) (hOz : O < z) (hRz : R < z) (hR : R ≠ O) (e1 : Ext wr w1)
    (hA : OwnS (fun b => z ≤ b ∧ b < w2.heap.size) (ts ++ [t]) (.slice av2 (ts.length + 1) cv2) w2) (hf : Fr (fun b => z ≤ b) w1 w2) : KidO w O R z (ts ++ [t]) u0 u1 u2 av2 cv2 (w2.setCell ⟨O, 3, none⟩ (.slice av2 (ts.length + 1) cv2)) := by
  have hlen : (ts ++ [t]).length = ts.length + 1 := by simp
  refine ⟨?_, ?_, ?_, ?_⟩
  · rw [hlen]
    exact hA.mono (M := fun k => k = O) (fun b hb => ⟨hb.1, by simpa [World.setCell] using hb.2⟩) (Fr.setCell _ rfl) (fun b hb h => by omega)
  · exact ((Fr.of_ext (M := fun b => w.heap.size ≤ b) (h.ext.trans e1)).trans ((hf.mono (fun k _ h => by omega)).trans (Fr.setCell _ hO))).toExt (fun k hk h => by omega)
  · rw [hlen]
    exact ((h.box.ext e1).fr hf (by omega)).set3 _
  · exact ((h.res.ext e1).fr hf (by omega)).fr (M := fun k => k = O) (Fr.setCell _ rfl) hR
end Go.Proofs.YtognkaebiafgbaaGreatDoor

namespace Go.Proofs.YtognkaebiafgbaaGreatDoor
open Go.RowKit
set_option linter.unusedVariables false
theorem ret4b_set {P : Program} {fn : Func} {R : Ending → World → Prop} {a : Act} {Y : World} {p q T b : Nat} {u0 u1 u2 u3 v0 v1 v2 v3 y : Value}
    (hres : fn.results = #[.cell p T, .tmp q]) (hT : ∀ w, (isAgg T).run P w = .ok true w) (hs : ∀ w, (sizeOf T).run P w = .ok 4 w) (hp : a.tmps.getD p undef = .pointer (some ⟨b, 0, none⟩)) (hq : a.tmps.getD q undef = y) (hd : a.defers = [])
    (h : BoxT Y b u0 u1 u2 u3)
    (hR : ∀ X, Fr (fun k => k = b) Y X → R (.returned (.tuple #[.agg #[v0, v1, v2, v3], y])) X) :
    bodyPost P fn R .ret a ((((Y.setCell ⟨b, 0, none⟩ v0).setCell ⟨b, 1, none⟩ v1).setCell ⟨b, 2, none⟩ v2).setCell ⟨b, 3, none⟩ v3) := by
  obtain ⟨c0, c1, c2, c3⟩ := set4_cells (Y := Y) v0 v1 v2 v3 h.1 h.2.1 h.2.2.1 h.2.2.2.1
  refine bodyPost_ret (v := .tuple #[.agg #[v0, v1, v2, v3], y]) ?_ hd (hR _ (Fr.of_grown (set4_grown Y b v0 v1 v2 v3) (fun k e => by cases e; rfl)))
  have hl := load4 (P := P) (T := T) (b := b) hT hs c0 c1 c2 c3
  simp only [results, hres]
  have hp' : a.tmps[p]?.getD undef = .pointer (some ⟨b, 0, none⟩) := by simpa using hp
  have hq' : a.tmps[q]?.getD undef = y := by simpa using hq
  unfold set4 at hl
  simp [hp', hq', asAddr, hl]
theorem ret4b {P : Program} {fn : Func} {R : Ending → World → Prop} {a : Act} {Y : World} {p q T b : Nat} {v0 v1 v2 v3 y : Value}
    (hres : fn.results = #[.cell p T, .tmp q]) (hT : ∀ w, (isAgg T).run P w = .ok true w) (hs : ∀ w, (sizeOf T).run P w = .ok 4 w) (hp : a.tmps.getD p undef = .pointer (some ⟨b, 0, none⟩)) (hq : a.tmps.getD q undef = y) (hd : a.defers = [])
    (h : BoxT Y b v0 v1 v2 v3) (hR : R (.returned (.tuple #[.agg #[v0, v1, v2, v3], y])) Y) : bodyPost P fn R .ret a Y := by
  refine bodyPost_ret (v := .tuple #[.agg #[v0, v1, v2, v3], y]) ?_ hd hR
  have hl := load4 (P := P) (T := T) (b := b) hT hs h.1 h.2.1 h.2.2.1 h.2.2.2.1
  simp only [results, hres]
  have hp' : a.tmps[p]?.getD undef = .pointer (some ⟨b, 0, none⟩) := by simpa using hp
  have hq' : a.tmps[q]?.getD undef = y := by simpa using hq
  simp [hp', hq', asAddr, hl]
theorem own_nil (F : Nat → Prop) (w : World) (k n : Int) (s : ByteArray) (hs : s.size ≤ 1048576) : Tm.own F w (.mk k n s []) (.slice none 0 0) := own_iff.2 ⟨hs, by simp [Tm.kids], OwnS.nil _ _⟩
def val4 (t : Tm) (a : Option Addr) (c : Nat) : Value := .agg #[.int .i64 t.kind, .int .i64 t.n, .string t.name, .slice a t.kids.length c]
set_option maxRecDepth 100000 in
theorem implnumber (n : Int) (w : World) : Calls Tryz.prog 176 #[.int .i64 n] w (TmO (.mk 2 n ⟨#[]⟩ []) w) := by
  go_enter Tryz.func176, Tryz.ntmps176
  go_wp2_with fail
  refine ret4 (p := 2) (T := 25) (b := w.heap.size) (v0 := .int .i64 2) (v1 := .int .i64 n) (v2 := .string ⟨#[]⟩) (v3 := .slice none 0 0) (by kernel_rfl) (fun _ => by kernel_rfl) (fun _ => by kernel_rfl) rfl rfl (by go_simp) (by go_simp) (by go_simp) (by go_simp) ?_
  exact ⟨none, 0, rfl, own_nil _ _ _ _ _ (by decide), Ext.alloc _ _⟩
theorem BoxT.put4 {w : World} {b : Nat} {u0 u1 u2 u3 : Value} (h : BoxT w b u0 u1 u2 u3) (v0 v1 v2 v3 : Value) : BoxT ((((w.setCell ⟨b, 0, none⟩ v0).setCell ⟨b, 1, none⟩ v1).setCell ⟨b, 2, none⟩ v2).setCell ⟨b, 3, none⟩ v3) b v0 v1 v2 v3 := by
  obtain ⟨a0, a1, a2, a3, f0, f1, f2, f3⟩ := h
  obtain ⟨c0, c1, c2, c3⟩ := set4_cells (Y := w) v0 v1 v2 v3 a0 a1 a2 a3
  refine ⟨c0, c1, c2, c3, ?_, ?_, ?_, ?_⟩
  · rw [World.frozen?_setCell, World.frozen?_setCell, World.frozen?_setCell, World.frozen?_setCell]; exact f0
  · rw [World.frozen?_setCell, World.frozen?_setCell, World.frozen?_setCell, World.frozen?_setCell]; exact f1
  · rw [World.frozen?_setCell, World.frozen?_setCell, World.frozen?_setCell, World.frozen?_setCell]; exact f2
  · rw [World.frozen?_setCell, World.frozen?_setCell, World.frozen?_setCell, World.frozen?_setCell]; exact f3
theorem put4_frw {M : Nat → Prop} (w : World) {b : Nat} (u0 u1 u2 u3 : Value) (hM : M b) : Fr M w ((((w.setCell ⟨b, 0, none⟩ u0).setCell ⟨b, 1, none⟩ u1).setCell ⟨b, 2, none⟩ u2).setCell ⟨b, 3, none⟩ u3) := (((Fr.setCell _ hM).trans (Fr.setCell _ hM)).trans (Fr.setCell _ hM)).trans (Fr.setCell _ hM)
end Go.Proofs.YtognkaebiafgbaaGreatDoor
