/-
  The tests on terms of which their texts speak: a pair of a list, the empty list, an operator between two, an operator alone (both sides).
-/
import Derived.Test.YtognkaebiafgbaaMu17
import Derived.Test.YtognkaebiafgbaaMu5
namespace Go.Proofs.Ytognkaebiafgbaa
open Go.RowKit Go.Sort
set_option linter.unusedVariables false
set_option maxRecDepth 100000 in
set_option maxHeartbeats 2000000 in
theorem specl1Pair (k n : Int) (s : ByteArray) (ks : List Tm) (v : Value) (S : Nat → Prop) (w : World) (ht : Tm.at S w (.mk k n s ks) v) :
    Calls Try.prog 78 #[v] w fun e w' => e = .returned (.bool (pairF k s ks.length)) ∧ Ext w w' := by
  obtain ⟨hs1, sv, rfl, a, cap, rfl, h1, h2, h3, h4⟩ := Tm.at_iff.1 ht
  have HT := Lib.hid ht
  clear h4 ht
  simp only [Tm.kind, Tm.n, Tm.name, Tm.kids] at *
  by_cases hk : k = 3
  · subst hk
    go_enter Try.func78, Try.ntmps78
    go_wp2_with (fail)
    all_goals
      go_ret
      exact ⟨retB (by simp_all [pairF]), by first | exact ((((Ext.alloc _ _).trans e1).trans e2).trans e3).trans e4 | exact Ext.alloc _ _ | exact (Ext.alloc _ _).trans e1 | exact ((Ext.alloc _ _).trans e1).trans e2 | exact (((Ext.alloc _ _).trans e1).trans e2).trans e3 | exact (((Ext.alloc _ _).trans e1).trans (Ext.alloc _ _)).trans e2 | exact ((Ext.alloc _ _).trans (Ext.alloc _ _)).trans e1⟩
  · have hk1 : (k == 3) = false := by simp [hk]
    clear hk
    go_enter Try.func78, Try.ntmps78
    go_wp2_with (fail)
    all_goals
      go_ret
      exact ⟨retB (by simp_all [pairF]), by first | exact ((((Ext.alloc _ _).trans e1).trans e2).trans e3).trans e4 | exact Ext.alloc _ _ | exact (Ext.alloc _ _).trans e1 | exact ((Ext.alloc _ _).trans e1).trans e2 | exact (((Ext.alloc _ _).trans e1).trans e2).trans e3 | exact (((Ext.alloc _ _).trans e1).trans (Ext.alloc _ _)).trans e2 | exact ((Ext.alloc _ _).trans (Ext.alloc _ _)).trans e1⟩
set_option maxRecDepth 100000 in
set_option maxHeartbeats 2000000 in
theorem specl1Nil (k n : Int) (s : ByteArray) (ks : List Tm) (v : Value) (S : Nat → Prop) (w : World) (ht : Tm.at S w (.mk k n s ks) v) :
    Calls Try.prog 86 #[v] w fun e w' => e = .returned (.bool (nilF k s ks.length)) ∧ Ext w w' := by
  obtain ⟨hs1, sv, rfl, a, cap, rfl, h1, h2, h3, h4⟩ := Tm.at_iff.1 ht
  have HT := Lib.hid ht
  clear h4 ht
  simp only [Tm.kind, Tm.n, Tm.name, Tm.kids] at *
  by_cases hk : k = 3
  · subst hk
    go_enter Try.func86, Try.ntmps86
    go_wp2_with (fail)
    all_goals
      go_ret
      exact ⟨retB (by simp_all [nilF]), by first | exact ((((Ext.alloc _ _).trans e1).trans e2).trans e3).trans e4 | exact Ext.alloc _ _ | exact (Ext.alloc _ _).trans e1 | exact ((Ext.alloc _ _).trans e1).trans e2 | exact (((Ext.alloc _ _).trans e1).trans e2).trans e3 | exact (((Ext.alloc _ _).trans e1).trans (Ext.alloc _ _)).trans e2 | exact ((Ext.alloc _ _).trans (Ext.alloc _ _)).trans e1⟩
  · have hk1 : (k == 3) = false := by simp [hk]
    clear hk
    go_enter Try.func86, Try.ntmps86
    go_wp2_with (fail)
    all_goals
      go_ret
      exact ⟨retB (by simp_all [nilF]), by first | exact ((((Ext.alloc _ _).trans e1).trans e2).trans e3).trans e4 | exact Ext.alloc _ _ | exact (Ext.alloc _ _).trans e1 | exact ((Ext.alloc _ _).trans e1).trans e2 | exact (((Ext.alloc _ _).trans e1).trans e2).trans e3 | exact (((Ext.alloc _ _).trans e1).trans (Ext.alloc _ _)).trans e2 | exact ((Ext.alloc _ _).trans (Ext.alloc _ _)).trans e1⟩
set_option maxRecDepth 100000 in
set_option maxHeartbeats 2000000 in
theorem specl2Infix (k n : Int) (s : ByteArray) (ks : List Tm) (v : Value) (S : Nat → Prop) (w : World) (ht : Tm.at S w (.mk k n s ks) v) :
    Calls Try.prog 80 #[v] w fun e w' => e = .returned (.bool (infF k s ks.length)) ∧ Ext w w' := by
  obtain ⟨hs1, sv, rfl, a, cap, rfl, h1, h2, h3, h4⟩ := Tm.at_iff.1 ht
  have HT := Lib.hid ht
  clear h4 ht
  simp only [Tm.kind, Tm.n, Tm.name, Tm.kids] at *
  by_cases hk : k = 3
  · subst hk
    go_enter Try.func80, Try.ntmps80
    go_wp2_with (first | (go_at_call 49; refine (specl2Level_x _ _).mono ?_; rintro e w1 ⟨rfl, e1⟩; have hc1 := ext_cells e1; have hz1 : w.heap.size < w1.heap.size := size_ext e1 (by first | assumption | simp | (simp; omega))))
    all_goals
      go_ret
      exact ⟨retB (by simp_all [infF]), by first | exact ((((Ext.alloc _ _).trans e1).trans e2).trans e3).trans e4 | exact Ext.alloc _ _ | exact (Ext.alloc _ _).trans e1 | exact ((Ext.alloc _ _).trans e1).trans e2 | exact (((Ext.alloc _ _).trans e1).trans e2).trans e3 | exact (((Ext.alloc _ _).trans e1).trans (Ext.alloc _ _)).trans e2 | exact ((Ext.alloc _ _).trans (Ext.alloc _ _)).trans e1⟩
  · have hk1 : (k == 3) = false := by simp [hk]
    clear hk
    go_enter Try.func80, Try.ntmps80
    go_wp2_with (first | (go_at_call 49; refine (specl2Level_x _ _).mono ?_; rintro e w1 ⟨rfl, e1⟩; have hc1 := ext_cells e1; have hz1 : w.heap.size < w1.heap.size := size_ext e1 (by first | assumption | simp | (simp; omega))))
    all_goals
      go_ret
      exact ⟨retB (by simp_all [infF]), by first | exact ((((Ext.alloc _ _).trans e1).trans e2).trans e3).trans e4 | exact Ext.alloc _ _ | exact (Ext.alloc _ _).trans e1 | exact ((Ext.alloc _ _).trans e1).trans e2 | exact (((Ext.alloc _ _).trans e1).trans e2).trans e3 | exact (((Ext.alloc _ _).trans e1).trans (Ext.alloc _ _)).trans e2 | exact ((Ext.alloc _ _).trans (Ext.alloc _ _)).trans e1⟩
set_option maxRecDepth 100000 in
set_option maxHeartbeats 2000000 in
theorem specl2Sole (k n : Int) (s : ByteArray) (ks : List Tm) (v : Value) (S : Nat → Prop) (w : World) (ht : Tm.at S w (.mk k n s ks) v) :
    Calls Try.prog 87 #[v] w fun e w' => e = .returned (.bool (soleF k s ks.length)) ∧ Ext w w' := by
  obtain ⟨hs1, sv, rfl, a, cap, rfl, h1, h2, h3, h4⟩ := Tm.at_iff.1 ht
  have HT := Lib.hid ht
  clear h4 ht
  simp only [Tm.kind, Tm.n, Tm.name, Tm.kids] at *
  by_cases hk : k = 3
  · subst hk
    go_enter Try.func87, Try.ntmps87
    go_wp2_with (first | (go_at_call 49; refine (specl2Level_x _ _).mono ?_; rintro e w1 ⟨rfl, e1⟩; have hc1 := ext_cells e1; have hz1 : w.heap.size < w1.heap.size := size_ext e1 (by first | assumption | simp | (simp; omega))))
    all_goals
      go_ret
      exact ⟨retB (by simp_all [soleF]), by first | exact ((((Ext.alloc _ _).trans e1).trans e2).trans e3).trans e4 | exact Ext.alloc _ _ | exact (Ext.alloc _ _).trans e1 | exact ((Ext.alloc _ _).trans e1).trans e2 | exact (((Ext.alloc _ _).trans e1).trans e2).trans e3 | exact (((Ext.alloc _ _).trans e1).trans (Ext.alloc _ _)).trans e2 | exact ((Ext.alloc _ _).trans (Ext.alloc _ _)).trans e1⟩
  · have hk1 : (k == 3) = false := by simp [hk]
    clear hk
    go_enter Try.func87, Try.ntmps87
    go_wp2_with (first | (go_at_call 49; refine (specl2Level_x _ _).mono ?_; rintro e w1 ⟨rfl, e1⟩; have hc1 := ext_cells e1; have hz1 : w.heap.size < w1.heap.size := size_ext e1 (by first | assumption | simp | (simp; omega))))
    all_goals
      go_ret
      exact ⟨retB (by simp_all [soleF]), by first | exact ((((Ext.alloc _ _).trans e1).trans e2).trans e3).trans e4 | exact Ext.alloc _ _ | exact (Ext.alloc _ _).trans e1 | exact ((Ext.alloc _ _).trans e1).trans e2 | exact (((Ext.alloc _ _).trans e1).trans e2).trans e3 | exact (((Ext.alloc _ _).trans e1).trans (Ext.alloc _ _)).trans e2 | exact ((Ext.alloc _ _).trans (Ext.alloc _ _)).trans e1⟩
end Go.Proofs.Ytognkaebiafgbaa

namespace Go.Proofs.Ytognkaebiafgbaa
open Go.RowKit
set_option linter.unusedVariables false
mutual
/-- the arguments of a term, in rows of its own within F, no row twice -/
def Tm.own (F : Nat → Prop) (w : World) : Tm → Value → Prop
  | .mk _ _ s ks, sv => s.size ≤ 1048576 ∧ ks.length ≤ 1048576 ∧ ∃ xs, w.ownsRow 0 25 4 sv ks.length xs ∧ (∀ g, sv.ownBlock = some g → F g) ∧ Tm.oflat (fun b => F b ∧ sv.ownBlock ≠ some b) w ks xs
def Tm.oflat (F : Nat → Prop) (w : World) : List Tm → List Value → Prop
  | [], xs => xs = []
  | t :: ts, xs => ∃ (F1 F2 : Nat → Prop) (a : Option Addr) (c : Nat) (rest : List Value), xs = tcells t a c ++ rest ∧ (∀ b, F1 b → F b ∧ ¬ F2 b) ∧ (∀ b, F2 b → F b) ∧ Tm.own F1 w t (.slice a t.kids.length c) ∧ Tm.oflat F2 w ts rest
end
def OwnS (F : Nat → Prop) (ts : List Tm) (v : Value) (w : World) : Prop :=
  ∃ xs, w.ownsRow 0 25 4 v ts.length xs ∧ (∀ g, v.ownBlock = some g → F g) ∧ Tm.oflat (fun b => F b ∧ v.ownBlock ≠ some b) w ts xs
theorem own_iff {F : Nat → Prop} {w : World} {t : Tm} {sv : Value} : Tm.own F w t sv ↔ t.name.size ≤ 1048576 ∧ t.kids.length ≤ 1048576 ∧ OwnS F t.kids sv w := by
  obtain ⟨k, n, s, ks⟩ := t
  simp only [Tm.own, OwnS, Tm.name, Tm.kids]
theorem own_fr {w w' : World} {e size n : Nat} {v : Value} {xs : List Value} {M : Nat → Prop} (h : w.ownsRow 0 e size v n xs) (f : Fr M w w') (hM : ∀ g, v.ownBlock = some g → ¬ M g) : w'.ownsRow 0 e size v n xs := by
  obtain ⟨e1, e2⟩ := h
  refine ⟨e1, ?_⟩
  rcases e2 with e2 | ⟨g, cap, cur, rfl, e3, e4, e5⟩
  · exact .inl e2
  · refine .inr ⟨g, cap, cur, rfl, e3, ?_, e5⟩
    rw [f.block g (by
      obtain ⟨x, _⟩ := Array.getElem?_eq_some_iff.1 e4
      exact x) (hM g rfl)]
    exact e4
mutual
theorem own_mono {F F' : Nat → Prop} {w w' : World} {M : Nat → Prop} (hF : ∀ b, F b → F' b) (f : Fr M w w') (hM : ∀ b, F b → ¬ M b) : ∀ (t : Tm) (sv : Value), Tm.own F w t sv → Tm.own F' w' t sv
  | .mk k n s ks, sv, h => by
    simp only [Tm.own] at h ⊢
    obtain ⟨h1, h2, xs, h3, h4, h5⟩ := h
    exact ⟨h1, h2, xs, own_fr h3 f (fun g hg => hM g (h4 g hg)), fun g hg => hF g (h4 g hg), oflat_mono (fun b hb => ⟨hF b hb.1, hb.2⟩) f (fun b hb => hM b hb.1) ks xs h5⟩
theorem oflat_mono {F F' : Nat → Prop} {w w' : World} {M : Nat → Prop} (hF : ∀ b, F b → F' b) (f : Fr M w w') (hM : ∀ b, F b → ¬ M b) : ∀ (ts : List Tm) (xs : List Value), Tm.oflat F w ts xs → Tm.oflat F' w' ts xs
  | [], xs, h => by simp only [Tm.oflat] at h ⊢; exact h
  | t :: ts, xs, h => by
    simp only [Tm.oflat] at h ⊢
    obtain ⟨F1, F2, a, c, rest, h1, h2, h3, h4, h5⟩ := h
    exact ⟨F1, F2, a, c, rest, h1, fun b hb => ⟨hF b (h2 b hb).1, (h2 b hb).2⟩, fun b hb => hF b (h3 b hb), own_mono (fun b hb => hb) f (fun b hb => hM b (h2 b hb).1) t _ h4, oflat_mono (fun b hb => hb) f (fun b hb => hM b (h3 b hb)) ts rest h5⟩
end
theorem OwnS.mono {F F' : Nat → Prop} {w w' : World} {M : Nat → Prop} {ts : List Tm} {v : Value} (h : OwnS F ts v w) (hF : ∀ b, F b → F' b) (f : Fr M w w') (hM : ∀ b, F b → ¬ M b) : OwnS F' ts v w' := by
  obtain ⟨xs, h3, h4, h5⟩ := h
  exact ⟨xs, own_fr h3 f (fun g hg => hM g (h4 g hg)), fun g hg => hF g (h4 g hg), oflat_mono (fun b hb => ⟨hF b hb.1, hb.2⟩) f (fun b hb => hM b hb.1) _ xs h5⟩
mutual
theorem own_flat : ∀ {F : Nat → Prop} {w : World} (t : Tm) (a : Option Addr) (c : Nat), Tm.own F w t (.slice a t.kids.length c) → Tm.at F w t (.agg #[.int .i64 t.kind, .int .i64 t.n, .string t.name, .slice a t.kids.length c])
  | F, w, .mk k n s ks, a, c, h => by
    simp only [Tm.own] at h
    obtain ⟨h1, h2, xs, h3, h4, h5⟩ := h
    have hsl := own_sl (S := fun b => F b ∧ (Value.slice a (Tm.mk k n s ks).kids.length c).ownBlock ≠ some b) h3 (oflat_flat ks xs h5) h2
    refine Tm.at_iff.2 ⟨h1, _, rfl, Tm.sl_mono ?_ (Agree.refl w) hsl⟩
    rintro b (hb | hb)
    · exact hb.1
    · exact h4 b hb
theorem oflat_flat : ∀ {F : Nat → Prop} {w : World} (ts : List Tm) (xs : List Value), Tm.oflat F w ts xs → Tm.flat F w ts xs
  | F, w, [], xs, h => by simp only [Tm.oflat] at h; exact h
  | F, w, t :: ts, xs, h => by
    simp only [Tm.oflat] at h
    obtain ⟨F1, F2, a, c, rest, h1, h2, h3, h4, h5⟩ := h
    exact ⟨a, c, rest, h1, Tm.at_mono (fun b hb => (h2 b hb).1) (Agree.refl w) (own_flat t a c h4), flat_mono h3 (Agree.refl w) (oflat_flat ts rest h5)⟩
end
theorem OwnS.app {F : Nat → Prop} {ts : List Tm} {v : Value} {w : World} (h : OwnS F ts v w) : AppI 25 F ts v w := by
  obtain ⟨xs, h1, h2, h3⟩ := h
  exact ⟨xs, h1, h2, oflat_flat ts xs h3⟩
theorem OwnS.form {F : Nat → Prop} {ts : List Tm} {v : Value} {w : World} (h : OwnS F ts v w) : ∃ a c, v = .slice a ts.length c := h.app.form
theorem OwnS.nil (F : Nat → Prop) (w : World) : OwnS F [] (.slice none 0 0) w := ⟨[], ⟨rfl, .inl ⟨rfl, rfl⟩⟩, by simp [Value.ownBlock], by simp [Tm.oflat]⟩
theorem oflat_snoc {w : World} {t : Tm} {a : Option Addr} {c : Nat} {G : Nat → Prop} (ht : Tm.own G w t (.slice a t.kids.length c)) : ∀ {F : Nat → Prop} {ts : List Tm} {xs : List Value}, Tm.oflat F w ts xs → (∀ b, F b → ¬ G b) →
    Tm.oflat (fun b => F b ∨ G b) w (ts ++ [t]) (xs ++ tcells t a c)
  | F, [], xs, h, _ => by
    simp only [Tm.oflat] at h
    subst h
    simp only [List.nil_append, Tm.oflat]
    exact ⟨G, fun _ => False, a, c, [], by simp, fun b hb => ⟨.inr hb, fun h => h⟩, fun b hb => hb.elim, ht, rfl⟩
  | F, u :: ts, xs, h, hd => by
    simp only [Tm.oflat] at h
    obtain ⟨F1, F2, a1, c1, rest, rfl, h2, h3, h4, h5⟩ := h
    simp only [List.cons_append, Tm.oflat]
    exact ⟨F1, fun b => F2 b ∨ G b, a1, c1, rest ++ tcells t a c, by simp, fun b hb => ⟨.inl (h2 b hb).1, fun h => h.elim (h2 b hb).2 (hd b (h2 b hb).1)⟩, fun b hb => hb.elim (fun h => .inl (h3 b h)) .inr, h4, oflat_snoc ht h5 (fun b hb => hd b (h3 b hb))⟩
theorem ownS_next {F G : Nat → Prop} {ts : List Tm} {t : Tm} {v nv : Value} {w1 w2 : World} {xs : List Value} {a2 : Option Addr} {c2 : Nat} {o : Obj}
    (how : w1.ownsRow 0 25 4 v ts.length xs) (hz : ∀ g, v.ownBlock = some g → F g) (hfl : Tm.oflat (fun b => F b ∧ v.ownBlock ≠ some b) w1 ts xs)
    (hv1 : Tm.own G w1 t (.slice a2 t.kids.length c2)) (hdis : ∀ b, F b → ¬ G b) (hG : ∀ b, G b → b < w1.heap.size) (hFl : ∀ b, F b → b < w1.heap.size)
    (ho2 : w2.ownsRow 0 25 4 nv (ts.length + 1) (xs ++ tcells t a2 c2)) (hg : (w1.alloc o).grownBy w2 v.ownBlock)
    (hfr : ∀ g, nv.ownBlock = some g → v.ownBlock = some g ∨ (w1.alloc o).heap.size ≤ g) : OwnS (fun b => F b ∨ G b ∨ w1.heap.size ≤ b) (ts ++ [t]) nv w2 := by
  have hs3 : (w1.alloc o).heap.size = w1.heap.size + 1 := by simp
  have f : Fr (fun b => v.ownBlock = some b) w1 w2 := (Fr.alloc w1 o).trans (Fr.of_grown hg (fun k hk => hk))
  refine ⟨xs ++ tcells t a2 c2, by simpa using ho2, ?_, ?_⟩
  · intro g hgg
    rcases hfr g hgg with h | h
    · exact .inl (hz g h)
    · exact .inr (.inr (by omega))
  · have hne : ∀ b, b < w1.heap.size → v.ownBlock ≠ some b → nv.ownBlock ≠ some b := by
      intro b hb h1 h2
      rcases hfr b h2 with h | h
      · exact h1 h
      · omega
    have hgv : ∀ b, G b → v.ownBlock ≠ some b := fun b hb h => hdis b (hz b h) hb
    have hs := oflat_snoc (own_mono (F' := G) (fun b hb => hb) f (fun b hb => hgv b hb) t _ hv1) (oflat_mono (F' := fun b => F b ∧ v.ownBlock ≠ some b) (fun b hb => hb) f (fun b hb => hb.2) ts xs hfl) (fun b hb => hdis b hb.1)
    refine oflat_mono (M := fun _ => False) ?_ (Fr.refl _ _) (fun b _ h => h) _ _ hs
    rintro b (hb | hb)
    · exact ⟨.inl hb.1, hne b (hFl b hb.1) hb.2⟩
    · exact ⟨.inr (.inl hb), hne b (hG b hb) (hgv b hb)⟩
end Go.Proofs.Ytognkaebiafgbaa
