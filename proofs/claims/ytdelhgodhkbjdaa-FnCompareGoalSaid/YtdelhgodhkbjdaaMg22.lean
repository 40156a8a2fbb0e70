/-
  Terms whose rows all belong to one owner, no row twice: what holds of the results of the program, of the arguments that a law makes; marks.
-/
import Derived.Test.YtdelhgodhkbjdaaMg5
import Derived.Test.YtdelhgodhkbjdaaMg21
namespace Go.Proofs.Ytdelhgodhkbjdaa
open Go.RowKit
set_option linter.unusedVariables false

mutual
/-- the arguments of a term, in rows of its own within F, no row twice -/
def Tm.own (F : Nat → Prop) (w : World) : Tm → Value → Prop
  | .mk _ _ s ks, sv => s.size ≤ 1048576 ∧ ks.length ≤ 1048576 ∧ ∃ xs, w.ownsRow 0 25 4 sv ks.length xs ∧ (∀ g, sv.ownBlock = some g → F g) ∧ Tm.oflat (fun b => F b ∧ sv.ownBlock ≠ some b) w ks xs
def Tm.oflat (F : Nat → Prop) (w : World) : List Tm → List Value → Prop
  | [], xs => xs = []
  | t :: ts, xs => ∃ (F1 F2 : Nat → Prop) (a : Option Addr) (c : Nat) (rest : List Value), xs = tcells t a c ++ rest ∧ (∀ b, F1 b → F b ∧ ¬ F2 b) ∧ (∀ b, F2 b → F b) ∧ Tm.own F1 w t (.slice a t.kids.length c) ∧ Tm.oflat F2 w ts rest
end
/-- a slice of terms, in rows of its own within F, no row twice -/
def OwnS (F : Nat → Prop) (ts : List Tm) (v : Value) (w : World) : Prop :=
  ∃ xs, w.ownsRow 0 25 4 v ts.length xs ∧ (∀ g, v.ownBlock = some g → F g) ∧ Tm.oflat (fun b => F b ∧ v.ownBlock ≠ some b) w ts xs
theorem own_iff {F : Nat → Prop} {w : World} {t : Tm} {sv : Value} : Tm.own F w t sv ↔ t.name.size ≤ 1048576 ∧ t.kids.length ≤ 1048576 ∧ OwnS F t.kids sv w := by
  obtain ⟨k, n, s, ks⟩ := t
  simp only [Tm.own, OwnS, Tm.name, Tm.kids]

theorem own_fr {w w' : World} {e size n : Nat} {v : Value} {xs : List Value} {M : Nat → Prop} (h : w.ownsRow 0 e size v n xs) (f : Fr M w w') (hM : ∀ g, v.ownBlock = some g → ¬ M g) : w'.ownsRow 0 e size v n xs := by
  obtain ⟨e1, e2⟩ := h
  refine ⟨e1, ?_⟩
  rcases e2 with e2 | ⟨g, cap, cur, rfl, e3, e4, e5⟩
  · exact .inl e2
  · refine .inr ⟨g, cap, cur, rfl, e3, ?_, e5⟩
    rw [f.block g (by
      obtain ⟨x, _⟩ := Array.getElem?_eq_some_iff.1 e4
      exact x) (hM g rfl)]
    exact e4
mutual
theorem own_mono {F F' : Nat → Prop} {w w' : World} {M : Nat → Prop} (hF : ∀ b, F b → F' b) (f : Fr M w w') (hM : ∀ b, F b → ¬ M b) : ∀ (t : Tm) (sv : Value), Tm.own F w t sv → Tm.own F' w' t sv
  | .mk k n s ks, sv, h => by
    simp only [Tm.own] at h ⊢
    obtain ⟨h1, h2, xs, h3, h4, h5⟩ := h
    exact ⟨h1, h2, xs, own_fr h3 f (fun g hg => hM g (h4 g hg)), fun g hg => hF g (h4 g hg), oflat_mono (fun b hb => ⟨hF b hb.1, hb.2⟩) f (fun b hb => hM b hb.1) ks xs h5⟩
theorem oflat_mono {F F' : Nat → Prop} {w w' : World} {M : Nat → Prop} (hF : ∀ b, F b → F' b) (f : Fr M w w') (hM : ∀ b, F b → ¬ M b) : ∀ (ts : List Tm) (xs : List Value), Tm.oflat F w ts xs → Tm.oflat F' w' ts xs
  | [], xs, h => by simp only [Tm.oflat] at h ⊢; exact h
  | t :: ts, xs, h => by
    simp only [Tm.oflat] at h ⊢
    obtain ⟨F1, F2, a, c, rest, h1, h2, h3, h4, h5⟩ := h
    exact ⟨F1, F2, a, c, rest, h1, fun b hb => ⟨hF b (h2 b hb).1, (h2 b hb).2⟩, fun b hb => hF b (h3 b hb), own_mono (fun b hb => hb) f (fun b hb => hM b (h2 b hb).1) t _ h4, oflat_mono (fun b hb => hb) f (fun b hb => hM b (h3 b hb)) ts rest h5⟩
end
theorem OwnS.mono {F F' : Nat → Prop} {w w' : World} {M : Nat → Prop} {ts : List Tm} {v : Value} (h : OwnS F ts v w) (hF : ∀ b, F b → F' b) (f : Fr M w w') (hM : ∀ b, F b → ¬ M b) : OwnS F' ts v w' := by
  obtain ⟨xs, h3, h4, h5⟩ := h
  exact ⟨xs, own_fr h3 f (fun g hg => hM g (h4 g hg)), fun g hg => hF g (h4 g hg), oflat_mono (fun b hb => ⟨hF b hb.1, hb.2⟩) f (fun b hb => hM b hb.1) _ xs h5⟩
mutual
theorem own_flat : ∀ {F : Nat → Prop} {w : World} (t : Tm) (a : Option Addr) (c : Nat), Tm.own F w t (.slice a t.kids.length c) → Tm.at F w t (.agg #[.int .i64 t.kind, .int .i64 t.n, .string t.name, .slice a t.kids.length c])
  | F, w, .mk k n s ks, a, c, h => by
    simp only [Tm.own] at h
    obtain ⟨h1, h2, xs, h3, h4, h5⟩ := h
    have hsl := own_sl (S := fun b => F b ∧ (Value.slice a (Tm.mk k n s ks).kids.length c).ownBlock ≠ some b) h3 (oflat_flat ks xs h5) h2
    refine Tm.at_iff.2 ⟨h1, _, rfl, Tm.sl_mono ?_ (Agree.refl w) hsl⟩
    rintro b (hb | hb)
    · exact hb.1
    · exact h4 b hb
theorem oflat_flat : ∀ {F : Nat → Prop} {w : World} (ts : List Tm) (xs : List Value), Tm.oflat F w ts xs → Tm.flat F w ts xs
  | F, w, [], xs, h => by simp only [Tm.oflat] at h; exact h
  | F, w, t :: ts, xs, h => by
    simp only [Tm.oflat] at h
    obtain ⟨F1, F2, a, c, rest, h1, h2, h3, h4, h5⟩ := h
    exact ⟨a, c, rest, h1, Tm.at_mono (fun b hb => (h2 b hb).1) (Agree.refl w) (own_flat t a c h4), flat_mono h3 (Agree.refl w) (oflat_flat ts rest h5)⟩
end
theorem OwnS.app {F : Nat → Prop} {ts : List Tm} {v : Value} {w : World} (h : OwnS F ts v w) : AppI 25 F ts v w := by
  obtain ⟨xs, h1, h2, h3⟩ := h
  exact ⟨xs, h1, h2, oflat_flat ts xs h3⟩
theorem OwnS.form {F : Nat → Prop} {ts : List Tm} {v : Value} {w : World} (h : OwnS F ts v w) : ∃ a c, v = .slice a ts.length c := h.app.form
theorem OwnS.nil (F : Nat → Prop) (w : World) : OwnS F [] (.slice none 0 0) w := ⟨[], ⟨rfl, .inl ⟨rfl, rfl⟩⟩, by simp [Value.ownBlock], by simp [Tm.oflat]⟩
theorem oflat_snoc {w : World} {t : Tm} {a : Option Addr} {c : Nat} {G : Nat → Prop} (ht : Tm.own G w t (.slice a t.kids.length c)) : ∀ {F : Nat → Prop} {ts : List Tm} {xs : List Value}, Tm.oflat F w ts xs → (∀ b, F b → ¬ G b) →
    Tm.oflat (fun b => F b ∨ G b) w (ts ++ [t]) (xs ++ tcells t a c)
  | F, [], xs, h, _ => by
    simp only [Tm.oflat] at h
    subst h
    simp only [List.nil_append, Tm.oflat]
    exact ⟨G, fun _ => False, a, c, [], by simp, fun b hb => ⟨.inr hb, fun h => h⟩, fun b hb => hb.elim, ht, rfl⟩
  | F, u :: ts, xs, h, hd => by
    simp only [Tm.oflat] at h
    obtain ⟨F1, F2, a1, c1, rest, rfl, h2, h3, h4, h5⟩ := h
    simp only [List.cons_append, Tm.oflat]
    exact ⟨F1, fun b => F2 b ∨ G b, a1, c1, rest ++ tcells t a c, by simp, fun b hb => ⟨.inl (h2 b hb).1, fun h => h.elim (h2 b hb).2 (hd b (h2 b hb).1)⟩, fun b hb => hb.elim (fun h => .inl (h3 b h)) .inr, h4, oflat_snoc ht h5 (fun b hb => hd b (h3 b hb))⟩
/-- after an append of one term -/
theorem ownS_next {F G : Nat → Prop} {ts : List Tm} {t : Tm} {v nv : Value} {w1 w2 : World} {xs : List Value} {a2 : Option Addr} {c2 : Nat} {o : Obj}
    (how : w1.ownsRow 0 25 4 v ts.length xs) (hz : ∀ g, v.ownBlock = some g → F g) (hfl : Tm.oflat (fun b => F b ∧ v.ownBlock ≠ some b) w1 ts xs)
    (hv1 : Tm.own G w1 t (.slice a2 t.kids.length c2)) (hdis : ∀ b, F b → ¬ G b) (hG : ∀ b, G b → b < w1.heap.size) (hFl : ∀ b, F b → b < w1.heap.size)
    (ho2 : w2.ownsRow 0 25 4 nv (ts.length + 1) (xs ++ tcells t a2 c2)) (hg : (w1.alloc o).grownBy w2 v.ownBlock)
    (hfr : ∀ g, nv.ownBlock = some g → v.ownBlock = some g ∨ (w1.alloc o).heap.size ≤ g) : OwnS (fun b => F b ∨ G b ∨ w1.heap.size ≤ b) (ts ++ [t]) nv w2 := by
  have hs3 : (w1.alloc o).heap.size = w1.heap.size + 1 := by simp
  have f : Fr (fun b => v.ownBlock = some b) w1 w2 := (Fr.alloc w1 o).trans (Fr.of_grown hg (fun k hk => hk))
  refine ⟨xs ++ tcells t a2 c2, by simpa using ho2, ?_, ?_⟩
  · intro g hgg
    rcases hfr g hgg with h | h
    · exact .inl (hz g h)
    · exact .inr (.inr (by omega))
  · have hne : ∀ b, b < w1.heap.size → v.ownBlock ≠ some b → nv.ownBlock ≠ some b := by
      intro b hb h1 h2
      rcases hfr b h2 with h | h
      · exact h1 h
      · omega
    have hgv : ∀ b, G b → v.ownBlock ≠ some b := fun b hb h => hdis b (hz b h) hb
    have hs := oflat_snoc (own_mono (F' := G) (fun b hb => hb) f (fun b hb => hgv b hb) t _ hv1) (oflat_mono (F' := fun b => F b ∧ v.ownBlock ≠ some b) (fun b hb => hb) f (fun b hb => hb.2) ts xs hfl) (fun b hb => hdis b hb.1)
    refine oflat_mono (M := fun _ => False) ?_ (Fr.refl _ _) (fun b _ h => h) _ _ hs
    rintro b (hb | hb)
    · exact ⟨.inl hb.1, hne b (hFl b hb.1) hb.2⟩
    · exact ⟨.inr (.inl hb), hne b (hG b hb) (hgv b hb)⟩

/-- one element in the midst of a row, and what may be put in its place -/
theorem oflat_focus {w : World} {t : Tm} : ∀ {F : Nat → Prop} {ls bs : List Tm} {xs : List Value}, Tm.oflat F w (ls ++ t :: bs) xs →
    ∃ (G : Nat → Prop) (x1 x2 : List Value) (a : Option Addr) (c : Nat), xs = x1 ++ (tcells t a c ++ x2) ∧ x1.length = ls.length * 4 ∧ (∀ b, G b → F b) ∧ Tm.own G w t (.slice a t.kids.length c) ∧
      ∀ (w' : World) (t' : Tm) (M : Nat → Prop), Fr M w w' → (∀ b, F b → M b → G b) → t'.kids.length = t.kids.length → Tm.own G w' t' (.slice a t'.kids.length c) → Tm.oflat F w' (ls ++ t' :: bs) (x1 ++ (tcells t' a c ++ x2))
  | F, [], bs, xs, h => by
    simp only [List.nil_append, Tm.oflat] at h
    obtain ⟨F1, F2, a, c, rest, h1, h2, h3, h4, h5⟩ := h
    refine ⟨F1, [], rest, a, c, by simpa using h1, rfl, fun b hb => (h2 b hb).1, h4, ?_⟩
    intro w' t' M f hM hl ho
    simp only [List.nil_append, Tm.oflat]
    exact ⟨F1, F2, a, c, rest, rfl, h2, h3, ho, oflat_mono (fun b hb => hb) f (fun b hb hm => (h2 b (hM b (h3 b hb) hm)).2 hb) _ _ h5⟩
  | F, u :: ls, bs, xs, h => by
    simp only [List.cons_append, Tm.oflat] at h
    obtain ⟨F1, F2, a1, c1, rest, h1, h2, h3, h4, h5⟩ := h
    obtain ⟨G, x1, x2, a, c, e1, e2, e3, e4, e5⟩ := oflat_focus h5
    refine ⟨G, tcells u a1 c1 ++ x1, x2, a, c, by rw [h1, e1]; simp, by simp [tcells, e2]; omega, fun b hb => h3 b (e3 b hb), e4, ?_⟩
    intro w' t' M f hM hl ho
    simp only [List.cons_append, Tm.oflat]
    refine ⟨F1, F2, a1, c1, x1 ++ (tcells t' a c ++ x2), by simp, h2, h3, own_mono (fun b hb => hb) f (fun b hb hm => (h2 b hb).2 (e3 b (hM b (h2 b hb).1 hm))) _ _ h4, e5 w' t' M f (fun b hb hm => hM b (h3 b hb) hm) hl ho⟩

end Go.Proofs.Ytdelhgodhkbjdaa

/-
  The mirror's toTerm makes a term in rows of its own, no row twice.
-/
namespace Go.Proofs.Ytdelhgodhkbjdaa
open Go.RowKit
set_option linter.unusedVariables false

mutual
theorem own_bound : ∀ {F : Nat → Prop} {w : World} (t : Tm) (sv : Value), Tm.own F w t sv → Tm.own (fun b => F b ∧ b < w.heap.size) w t sv
  | F, w, .mk k n s ks, sv, h => by
    simp only [Tm.own] at h ⊢
    obtain ⟨h1, h2, xs, h3, h4, h5⟩ := h
    refine ⟨h1, h2, xs, h3, fun g hg => ⟨h4 g hg, (h3.lt g hg).2⟩, ?_⟩
    exact oflat_mono (M := fun _ => False) (fun b hb => ⟨⟨hb.1.1, hb.2⟩, hb.1.2⟩) (Fr.refl _ _) (fun _ _ h => h) _ _ (oflat_bound ks xs h5)
theorem oflat_bound : ∀ {F : Nat → Prop} {w : World} (ts : List Tm) (xs : List Value), Tm.oflat F w ts xs → Tm.oflat (fun b => F b ∧ b < w.heap.size) w ts xs
  | F, w, [], xs, h => by simp only [Tm.oflat] at h ⊢; exact h
  | F, w, t :: ts, xs, h => by
    simp only [Tm.oflat] at h ⊢
    obtain ⟨F1, F2, a, c, rest, h1, h2, h3, h4, h5⟩ := h
    exact ⟨fun b => F1 b ∧ b < w.heap.size, fun b => F2 b ∧ b < w.heap.size, a, c, rest, h1, fun b hb => ⟨⟨(h2 b hb.1).1, hb.2⟩, fun h => (h2 b hb.1).2 h.1⟩, fun b hb => ⟨h3 b hb.1, hb.2⟩, own_bound t _ h4, oflat_bound ts rest h5⟩
end
theorem OwnS.bound {F : Nat → Prop} {w : World} {ts : List Tm} {v : Value} (h : OwnS F ts v w) : OwnS (fun b => F b ∧ b < w.heap.size) ts v w := by
  obtain ⟨xs, h3, h4, h5⟩ := h
  exact ⟨xs, h3, fun g hg => ⟨h4 g hg, (h3.lt g hg).2⟩, oflat_mono (M := fun _ => False) (fun b hb => ⟨⟨hb.1.1, hb.2⟩, hb.1.2⟩) (Fr.refl _ _) (fun _ _ h => h) _ _ (oflat_bound ts xs h5)⟩
theorem OwnS.ext {F : Nat → Prop} {w w' : World} {ts : List Tm} {v : Value} (h : OwnS F ts v w) (e : Ext w w') : OwnS F ts v w' := h.mono (M := fun _ => False) (fun _ h => h) (Fr.of_ext e) (fun _ _ h => h)
theorem own_ext1 {F : Nat → Prop} {w w' : World} {t : Tm} {v : Value} (h : Tm.own F w t v) (e : Ext w w') : Tm.own F w' t v := own_mono (M := fun _ => False) (fun _ h => h) (Fr.of_ext e) (fun _ _ h => h) _ _ h
theorem own_zone {F F' : Nat → Prop} {w : World} {t : Tm} {v : Value} (h : Tm.own F w t v) (hF : ∀ b, F b → F' b) : Tm.own F' w t v := own_mono (M := fun _ => False) hF (Fr.refl _ _) (fun _ _ h => h) _ _ h

def ToSO (ts : List Tm) : Prop := ∀ (v : Value) (S : Nat → Prop) (w : World), ts.length + Tm.wtL ts ≤ 1048576 → Lt.sl S w ts v →
    Calls Try.prog 62 #[v] w fun e w' => ∃ a c, e = .returned (.slice a ts.length c) ∧ OwnS (fun b => w.heap.size ≤ b) ts (.slice a ts.length c) w' ∧ Ext w w'
def TmO (t : Tm) (w : World) (e : Ending) (w' : World) : Prop := ∃ a c, e = .returned (.agg #[.int .i64 t.kind, .int .i64 t.n, .string t.name, .slice a t.kids.length c]) ∧ Tm.own (fun b => w.heap.size ≤ b) w' t (.slice a t.kids.length c) ∧ Ext w w'

set_option maxHeartbeats 1000000 in
theorem toTermO (t : Tm) (hks : Hid (ToSO t.kids)) (v : Value) (S : Nat → Prop) (w : World) (hl : Tm.wt t ≤ 1048576) (ht : Lt.at S w t v) :
    Calls Try.prog 29 #[v] w (TmO t w) := by
  obtain ⟨k, n, s, ks⟩ := t
  simp only [Tm.wt] at hl
  obtain ⟨hs1, sv, rfl, hk⟩ := ht
  have hcall := fun w' (e' : Ext w w') => hks.out _ S w' (by simp only [Tm.kids]; omega) (Lt.sl_ext e' hk)
  have HC := Lib.hid hcall
  obtain ⟨a, cap, rfl, h1, h2, h3, h4⟩ := hk
  clear h4 hcall
  go_enter Try.func29, Try.ntmps29
  go_wp2_with fail
  refine (HC.out _ (((Ext.alloc _ _).trans (Ext.alloc _ _)).trans (Ext.alloc _ _))).mono ?_
  rintro e w' ⟨a', cap', rfl, hv', e'⟩
  have hsz : w.heap.size + 3 ≤ w'.heap.size := by have := Below.size e'; simp at this; omega
  have b0 := e'.cell (a := ⟨w.heap.size + 2, 0, none⟩) (v := .int .i64 k) (by go_simp)
  have b1 := e'.cell (a := ⟨w.heap.size + 2, 1, none⟩) (v := .int .i64 n) (by go_simp)
  have b2 := e'.cell (a := ⟨w.heap.size + 2, 2, none⟩) (v := .string s) (by go_simp)
  have b3 := e'.cell (a := ⟨w.heap.size + 2, 3, none⟩) (v := .slice none 0 0) (by go_simp)
  have d0 := e'.cell (a := ⟨w.heap.size + 1, 0, none⟩) (v := .int .i64 0) (by go_simp)
  have d1 := e'.cell (a := ⟨w.heap.size + 1, 1, none⟩) (v := .int .i64 0) (by go_simp)
  have d2 := e'.cell (a := ⟨w.heap.size + 1, 2, none⟩) (v := .string ⟨#[]⟩) (by go_simp)
  have d3 := e'.cell (a := ⟨w.heap.size + 1, 3, none⟩) (v := .slice none 0 0) (by go_simp)
  have f3 := e'.frozen (a := ⟨w.heap.size + 2, 3, none⟩) (by simp) (by go_simp)
  have g0 := e'.frozen (a := ⟨w.heap.size + 1, 0, none⟩) (by simp) (by go_simp)
  have g1 := e'.frozen (a := ⟨w.heap.size + 1, 1, none⟩) (by simp) (by go_simp)
  have g2 := e'.frozen (a := ⟨w.heap.size + 1, 2, none⟩) (by simp) (by go_simp)
  have g3 := e'.frozen (a := ⟨w.heap.size + 1, 3, none⟩) (by simp) (by go_simp)
  have E := Lib.hid e'
  have HV := Lib.hid hv'
  clear e' hv'
  simp only [Tm.kids] at *
  go_wp2_with fail
  refine ret4_set (p := 2) (T := 25) (by kernel_rfl) (fun _ => by kernel_rfl) (fun _ => by kernel_rfl) rfl rfl (cell_other (by simp) d0) (cell_other (by simp) d1) (cell_other (by simp) d2) (cell_other (by simp) d3) ?_
  intro X hX
  have f : Fr (fun b => b = w.heap.size + 1 ∨ b = w.heap.size + 2) w' X := (Fr.setCell (M := fun b => b = w.heap.size + 1 ∨ b = w.heap.size + 2) w' (.inr rfl)).trans (Fr.of_grown hX (fun k e => by cases e; exact .inl rfl))
  refine ⟨_, _, rfl, own_iff.2 ⟨by simp only [Tm.name]; omega, by simp only [Tm.kids]; omega, HV.out.mono (fun b hb => ?_) f (fun b hb => ?_)⟩, ?_⟩
  · simp at hb; omega
  · simp at hb; omega
  · exact ((Fr.of_ext (((Ext.alloc _ _).trans (Ext.alloc _ _)).trans (Ext.alloc _ _))).trans ((Fr.of_ext E.out).trans f)).toExt (fun k hk h => by omega)

set_option maxHeartbeats 1000000 in
theorem toTermSO : ∀ (m : Nat) (ts : List Tm), Tm.szL ts ≤ m → ToSO ts := by
  intro m
  induction m using Nat.strongRecOn with
  | _ m ih =>
    intro ts hm v S w hl ht
    have IH := Lib.hid (show ∀ (j : Nat) (t : Tm), ts[j]? = some t → ToSO t.kids from fun j t h => by
      have h1 := Tm.sz_mem h
      have h2 : Tm.szL t.kids < Tm.sz t := by cases t; simp only [Tm.sz, Tm.kids]; omega
      exact ih (Tm.szL t.kids) (by omega) t.kids (Nat.le_refl _))
    clear ih hm
    obtain ⟨a, cap, rfl, h1, h2, h3, h4⟩ := ht
    have H4 := Lib.hid h4
    clear h4
    obtain ⟨i0, hi, hz0, hz1, hz2⟩ := info_parts info_term
    go_enter Try.func62, Try.ntmps62
    go_wp2_with (at_make; refine wpList_make_full _ rfl (.tmp 6) (.tmp 6) 23 rfl w.heap.size 25 i0 _ 4 Try.underlying23 hi hz0 hz1 .i64 .i64 _ _ ts.length rfl rfl rfl rfl ?c1 ?c2 (Nat.le_refl _) ?_)
    case c1 => rw [hz2]; omega
    case c2 => unfold maxLen; omega
    intro w1 hown hg
    have he1 := Ext.of_grown hg
    have hlt1 : w.heap.size < w1.heap.size := (hown.lt w.heap.size rfl).2
    have HO := Lib.hid hown
    clear hown hg
    go_wp2_with fail
    go_loopw [4] (fun i wr => ∃ (k : Nat) (done rest : List Value), k ≤ ts.length ∧ i = .int .i64 k ∧ Hid (wr.ownsRow w.heap.size 25 4 (.slice (some ⟨w.heap.size, 0, none⟩) ts.length ts.length) ts.length (done ++ rest)) ∧ Tm.oflat (fun b => w.heap.size < b ∧ b < wr.heap.size) wr (ts.take k) done ∧ Ext w wr ∧ w.heap.size < wr.heap.size) (fun i _ => ts.length - (intOf i).toNat)
    case atStart => exact ⟨0, [], _, Nat.zero_le _, rfl, HO.out, by simp [Tm.oflat], he1, hlt1⟩
    case round =>
      obtain ⟨k, done, rest, hk, rfl, HOW, hfl, he, hlt1⟩ := hrel
      have HF := Lib.hid hfl
      clear hfl
      by_cases hlt : k < ts.length
      · obtain ⟨tk, htk⟩ := getk hlt
        obtain ⟨b, off, ak, ck, rfl, c1, c2, c3, c4, hat⟩ := lget H4.out htk he
        have hwt : Tm.wt tk ≤ 1048576 := by have := wtL_take htk; have := wtL_take_le ts (k + 1); omega
        have HC := Lib.hid (fun w' (e' : Ext wr w') => toTermO tk (Lib.hid (IH.out k tk htk)) _ S w' hwt (Lt.at_ext (he.trans e') hat))
        have HTK := Lib.hid htk
        have hld : done.length = k * 4 := by have := flat_len (oflat_flat _ _ HF.out); rw [List.length_take] at this; omega
        have hlr : 4 ≤ rest.length := by have := HOW.out.1; rw [List.length_append] at this; omega
        have HLD := Lib.hid hld
        obtain ⟨u0, u1, u2, u3, r, rfl⟩ := four_of hlr
        clear htk hat hld hlr hwt
        go_wp2_with fail
        refine (HC.out _ (Ext.refl _)).mono ?_
        rintro e wq ⟨a', cap', rfl, hvt, e'⟩
        have HOQ := own_ext HOW.out e'
        have HV := Lib.hid hvt
        have o0 : wq.cell? ⟨w.heap.size, k * 4, none⟩ = some u0 := by rw [HOQ.cellAt _ (by omega)]; simp [← HLD.out]
        have o1 : wq.cell? ⟨w.heap.size, k * 4 + 1, none⟩ = some u1 := by rw [HOQ.cellAt _ (by omega)]; simp [← HLD.out]
        have o2 : wq.cell? ⟨w.heap.size, k * 4 + 2, none⟩ = some u2 := by rw [HOQ.cellAt _ (by omega)]; simp [← HLD.out]
        have o3 : wq.cell? ⟨w.heap.size, k * 4 + 3, none⟩ = some u3 := by rw [HOQ.cellAt _ (by omega)]; simp [← HLD.out]
        have f0 := HOQ.frozenAt (k * 4)
        have f1 := HOQ.frozenAt (k * 4 + 1)
        have f2 := HOQ.frozenAt (k * 4 + 2)
        have f3 := HOQ.frozenAt (k * 4 + 3)
        have E := Lib.hid e'
        have HQ := Lib.hid HOQ
        clear e' HOQ hvt
        go_wp2_with fail
        go_roundw
        case rel =>
          obtain ⟨hO, hG⟩ := own_set4 (v0 := .int .i64 tk.kind) (v1 := .int .i64 tk.n) (v2 := .string tk.name) (v3 := .slice a' tk.kids.length cap') HQ.out HLD.out
          have f : Fr (fun b => b = w.heap.size) wq _ := Fr.of_grown hG (fun k e => by cases e; rfl)
          have h1 := oflat_mono (F' := fun b => w.heap.size < b ∧ b < wr.heap.size) (fun _ h => h) (Fr.of_ext (M := fun _ => False) E.out) (fun _ _ h => h) _ _ HF.out
          have h2 := oflat_snoc (own_bound _ _ HV.out) h1 (fun b hb h => by omega)
          have hsE := Below.size E.out
          have hsG := hG.size
          refine ⟨k + 1, done ++ tcells tk a' cap', r, by omega, by go_num, Lib.hid hO, ?_, Ext.grown (he.trans E.out) hG (by simp), Nat.lt_of_lt_of_le (Nat.lt_of_lt_of_le hlt1 hsE) hsG⟩
          rw [take_snoc_of HTK.out]
          exact oflat_mono (by rintro b (hb | hb) <;> exact ⟨by omega, by omega⟩) f (by rintro b (hb | hb) h <;> omega) _ _ h2
        case measure => simp [intOf]; omega
      · have hkn : k = ts.length := by omega
        subst hkn
        have hf := HF.out
        rw [List.take_of_length_le (Nat.le_refl _)] at hf
        have hrest : rest = [] := by
          have h1 := HOW.out.1
          have h2 := flat_len (oflat_flat _ _ hf)
          rw [List.length_append] at h1
          exact List.eq_nil_of_length_eq_zero (by omega)
        subst hrest
        have HS : Hid (OwnS (fun b => w.heap.size ≤ b) ts (.slice (some ⟨w.heap.size, 0, none⟩) ts.length ts.length) wr) := Lib.hid ⟨done, own_low (by simpa using HOW.out) (Nat.zero_le _), by intro g hg; simp [Value.ownBlock] at hg; omega,
          oflat_mono (M := fun _ => False) (fun b hb => ⟨by omega, by simp [Value.ownBlock]; omega⟩) (Fr.refl _ _) (fun _ _ h => h) _ _ hf⟩
        clear hf
        go_wp2_with fail
        go_ret
        exact ⟨_, _, rfl, HS.out, he⟩
theorem toTermO_any (t : Tm) (v : Value) (S : Nat → Prop) (w : World) (hl : Tm.wt t ≤ 1048576) (ht : Lt.at S w t v) :
    Calls Try.prog 29 #[v] w (TmO t w) := toTermO t (Lib.hid (toTermSO _ _ (Nat.le_refl _))) v S w hl ht

end Go.Proofs.Ytdelhgodhkbjdaa
