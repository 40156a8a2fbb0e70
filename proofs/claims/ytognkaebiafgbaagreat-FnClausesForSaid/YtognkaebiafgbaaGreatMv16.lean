/-
  The tests on terms of which their texts speak: a pair of a list, the empty list, an operator between two, an operator alone (both sides).
-/
import Derived.Laws.IdiomStrings
import Derived.Deep.CutBlock
import Derived.Deep.LoopGhost
import Derived.Test.YtognkaebiafgbaaGreatMv14
import Derived.Test.YtognkaebiafgbaaGreatMv3
namespace Go.Proofs.YtognkaebiafgbaaGreat
open Go.RowKit Go.Sort
set_option linter.unusedVariables false
set_option maxRecDepth 100000 in
set_option maxHeartbeats 2000000 in
theorem specl1Pair (k n : Int) (s : ByteArray) (ks : List Tm) (v : Value) (S : Nat → Prop) (w : World) (ht : Tm.at S w (.mk k n s ks) v) :
    Calls Tryz.prog 100 #[v] w fun e w' => e = .returned (.bool (pairF k s ks.length)) ∧ Ext w w' := by
  obtain ⟨hs1, sv, rfl, a, cap, rfl, h1, h2, h3, h4⟩ := Tm.at_iff.1 ht
  have HT := Lib.hid ht
  clear h4 ht
  simp only [Tm.kind, Tm.n, Tm.name, Tm.kids] at *
  by_cases hk : k = 3
  · subst hk
    go_enter Tryz.func100, Tryz.ntmps100
    go_wp2_with (fail)
    all_goals
      go_ret
      exact ⟨retB (by simp_all [pairF]), by first | exact ((((Ext.alloc _ _).trans e1).trans e2).trans e3).trans e4 | exact Ext.alloc _ _ | exact (Ext.alloc _ _).trans e1 | exact ((Ext.alloc _ _).trans e1).trans e2 | exact (((Ext.alloc _ _).trans e1).trans e2).trans e3 | exact (((Ext.alloc _ _).trans e1).trans (Ext.alloc _ _)).trans e2 | exact ((Ext.alloc _ _).trans (Ext.alloc _ _)).trans e1⟩
  · have hk1 : (k == 3) = false := by simp [hk]
    clear hk
    go_enter Tryz.func100, Tryz.ntmps100
    go_wp2_with (fail)
    all_goals
      go_ret
      exact ⟨retB (by simp_all [pairF]), by first | exact ((((Ext.alloc _ _).trans e1).trans e2).trans e3).trans e4 | exact Ext.alloc _ _ | exact (Ext.alloc _ _).trans e1 | exact ((Ext.alloc _ _).trans e1).trans e2 | exact (((Ext.alloc _ _).trans e1).trans e2).trans e3 | exact (((Ext.alloc _ _).trans e1).trans (Ext.alloc _ _)).trans e2 | exact ((Ext.alloc _ _).trans (Ext.alloc _ _)).trans e1⟩
set_option maxRecDepth 100000 in
set_option maxHeartbeats 2000000 in
theorem specl1Nil (k n : Int) (s : ByteArray) (ks : List Tm) (v : Value) (S : Nat → Prop) (w : World) (ht : Tm.at S w (.mk k n s ks) v) :
    Calls Tryz.prog 108 #[v] w fun e w' => e = .returned (.bool (nilF k s ks.length)) ∧ Ext w w' := by
  obtain ⟨hs1, sv, rfl, a, cap, rfl, h1, h2, h3, h4⟩ := Tm.at_iff.1 ht
  have HT := Lib.hid ht
  clear h4 ht
  simp only [Tm.kind, Tm.n, Tm.name, Tm.kids] at *
  by_cases hk : k = 3
  · subst hk
    go_enter Tryz.func108, Tryz.ntmps108
    go_wp2_with (fail)
    all_goals
      go_ret
      exact ⟨retB (by simp_all [nilF]), by first | exact ((((Ext.alloc _ _).trans e1).trans e2).trans e3).trans e4 | exact Ext.alloc _ _ | exact (Ext.alloc _ _).trans e1 | exact ((Ext.alloc _ _).trans e1).trans e2 | exact (((Ext.alloc _ _).trans e1).trans e2).trans e3 | exact (((Ext.alloc _ _).trans e1).trans (Ext.alloc _ _)).trans e2 | exact ((Ext.alloc _ _).trans (Ext.alloc _ _)).trans e1⟩
  · have hk1 : (k == 3) = false := by simp [hk]
    clear hk
    go_enter Tryz.func108, Tryz.ntmps108
    go_wp2_with (fail)
    all_goals
      go_ret
      exact ⟨retB (by simp_all [nilF]), by first | exact ((((Ext.alloc _ _).trans e1).trans e2).trans e3).trans e4 | exact Ext.alloc _ _ | exact (Ext.alloc _ _).trans e1 | exact ((Ext.alloc _ _).trans e1).trans e2 | exact (((Ext.alloc _ _).trans e1).trans e2).trans e3 | exact (((Ext.alloc _ _).trans e1).trans (Ext.alloc _ _)).trans e2 | exact ((Ext.alloc _ _).trans (Ext.alloc _ _)).trans e1⟩
set_option maxRecDepth 100000 in
set_option maxHeartbeats 2000000 in
theorem specl2Infix (k n : Int) (s : ByteArray) (ks : List Tm) (v : Value) (S : Nat → Prop) (w : World) (ht : Tm.at S w (.mk k n s ks) v) :
    Calls Tryz.prog 102 #[v] w fun e w' => e = .returned (.bool (infF k s ks.length)) ∧ Ext w w' := by
  obtain ⟨hs1, sv, rfl, a, cap, rfl, h1, h2, h3, h4⟩ := Tm.at_iff.1 ht
  have HT := Lib.hid ht
  clear h4 ht
  simp only [Tm.kind, Tm.n, Tm.name, Tm.kids] at *
  by_cases hk : k = 3
  · subst hk
    go_enter Tryz.func102, Tryz.ntmps102
    go_wp2_with (first | (go_at_call 51; refine (specl2Level_x _ _).mono ?_; rintro e w1 ⟨rfl, e1⟩; have hc1 := ext_cells e1; have hz1 : w.heap.size < w1.heap.size := size_ext e1 (by first | assumption | simp | (simp; omega))))
    all_goals
      go_ret
      exact ⟨retB (by simp_all [infF]), by first | exact ((((Ext.alloc _ _).trans e1).trans e2).trans e3).trans e4 | exact Ext.alloc _ _ | exact (Ext.alloc _ _).trans e1 | exact ((Ext.alloc _ _).trans e1).trans e2 | exact (((Ext.alloc _ _).trans e1).trans e2).trans e3 | exact (((Ext.alloc _ _).trans e1).trans (Ext.alloc _ _)).trans e2 | exact ((Ext.alloc _ _).trans (Ext.alloc _ _)).trans e1⟩
  · have hk1 : (k == 3) = false := by simp [hk]
    clear hk
    go_enter Tryz.func102, Tryz.ntmps102
    go_wp2_with (first | (go_at_call 51; refine (specl2Level_x _ _).mono ?_; rintro e w1 ⟨rfl, e1⟩; have hc1 := ext_cells e1; have hz1 : w.heap.size < w1.heap.size := size_ext e1 (by first | assumption | simp | (simp; omega))))
    all_goals
      go_ret
      exact ⟨retB (by simp_all [infF]), by first | exact ((((Ext.alloc _ _).trans e1).trans e2).trans e3).trans e4 | exact Ext.alloc _ _ | exact (Ext.alloc _ _).trans e1 | exact ((Ext.alloc _ _).trans e1).trans e2 | exact (((Ext.alloc _ _).trans e1).trans e2).trans e3 | exact (((Ext.alloc _ _).trans e1).trans (Ext.alloc _ _)).trans e2 | exact ((Ext.alloc _ _).trans (Ext.alloc _ _)).trans e1⟩
set_option maxRecDepth 100000 in
set_option maxHeartbeats 2000000 in
theorem specl2Sole (k n : Int) (s : ByteArray) (ks : List Tm) (v : Value) (S : Nat → Prop) (w : World) (ht : Tm.at S w (.mk k n s ks) v) :
    Calls Tryz.prog 109 #[v] w fun e w' => e = .returned (.bool (soleF k s ks.length)) ∧ Ext w w' := by
  obtain ⟨hs1, sv, rfl, a, cap, rfl, h1, h2, h3, h4⟩ := Tm.at_iff.1 ht
  have HT := Lib.hid ht
  clear h4 ht
  simp only [Tm.kind, Tm.n, Tm.name, Tm.kids] at *
  by_cases hk : k = 3
  · subst hk
    go_enter Tryz.func109, Tryz.ntmps109
    go_wp2_with (first | (go_at_call 51; refine (specl2Level_x _ _).mono ?_; rintro e w1 ⟨rfl, e1⟩; have hc1 := ext_cells e1; have hz1 : w.heap.size < w1.heap.size := size_ext e1 (by first | assumption | simp | (simp; omega))))
    all_goals
      go_ret
      exact ⟨retB (by simp_all [soleF]), by first | exact ((((Ext.alloc _ _).trans e1).trans e2).trans e3).trans e4 | exact Ext.alloc _ _ | exact (Ext.alloc _ _).trans e1 | exact ((Ext.alloc _ _).trans e1).trans e2 | exact (((Ext.alloc _ _).trans e1).trans e2).trans e3 | exact (((Ext.alloc _ _).trans e1).trans (Ext.alloc _ _)).trans e2 | exact ((Ext.alloc _ _).trans (Ext.alloc _ _)).trans e1⟩
  · have hk1 : (k == 3) = false := by simp [hk]
    clear hk
    go_enter Tryz.func109, Tryz.ntmps109
    go_wp2_with (first | (go_at_call 51; refine (specl2Level_x _ _).mono ?_; rintro e w1 ⟨rfl, e1⟩; have hc1 := ext_cells e1; have hz1 : w.heap.size < w1.heap.size := size_ext e1 (by first | assumption | simp | (simp; omega))))
    all_goals
      go_ret
      exact ⟨retB (by simp_all [soleF]), by first | exact ((((Ext.alloc _ _).trans e1).trans e2).trans e3).trans e4 | exact Ext.alloc _ _ | exact (Ext.alloc _ _).trans e1 | exact ((Ext.alloc _ _).trans e1).trans e2 | exact (((Ext.alloc _ _).trans e1).trans e2).trans e3 | exact (((Ext.alloc _ _).trans e1).trans (Ext.alloc _ _)).trans e2 | exact ((Ext.alloc _ _).trans (Ext.alloc _ _)).trans e1⟩
end Go.Proofs.YtognkaebiafgbaaGreat

namespace Go.Proofs.YtognkaebiafgbaaGreat
open Go.RowKit
set_option linter.unusedVariables false
mutual
/-- the arguments of a term, in rows of its own within F, no row twice -/
def Tm.own (F : Nat → Prop) (w : World) : Tm → Value → Prop
  | .mk _ _ s ks, sv => s.size ≤ 1048576 ∧ ks.length ≤ 1048576 ∧ ∃ xs, w.ownsRow 0 26 4 sv ks.length xs ∧ (∀ g, sv.ownBlock = some g → F g) ∧ Tm.oflat (fun b => F b ∧ sv.ownBlock ≠ some b) w ks xs
def Tm.oflat (F : Nat → Prop) (w : World) : List Tm → List Value → Prop
  | [], xs => xs = []
  | t :: ts, xs => ∃ (F1 F2 : Nat → Prop) (a : Option Addr) (c : Nat) (rest : List Value), xs = tcells t a c ++ rest ∧ (∀ b, F1 b → F b ∧ ¬ F2 b) ∧ (∀ b, F2 b → F b) ∧ Tm.own F1 w t (.slice a t.kids.length c) ∧ Tm.oflat F2 w ts rest
end
def OwnS (F : Nat → Prop) (ts : List Tm) (v : Value) (w : World) : Prop :=
  ∃ xs, w.ownsRow 0 26 4 v ts.length xs ∧ (∀ g, v.ownBlock = some g → F g) ∧ Tm.oflat (fun b => F b ∧ v.ownBlock ≠ some b) w ts xs
theorem own_iff {F : Nat → Prop} {w : World} {t : Tm} {sv : Value} : Tm.own F w t sv ↔ t.name.size ≤ 1048576 ∧ t.kids.length ≤ 1048576 ∧ OwnS F t.kids sv w := by
  obtain ⟨k, n, s, ks⟩ := t
  simp only [Tm.own, OwnS, Tm.name, Tm.kids]
theorem own_fr {w w' : World} {e size n : Nat} {v : Value} {xs : List Value} {M : Nat → Prop} (h : w.ownsRow 0 e size v n xs) (f : Fr M w w') (hM : ∀ g, v.ownBlock = some g → ¬ M g) : w'.ownsRow 0 e size v n xs := by
  obtain ⟨e1, e2⟩ := h
  refine ⟨e1, ?_⟩
  rcases e2 with e2 | ⟨g, cap, cur, rfl, e3, e4, e5⟩
  · exact .inl e2
  · refine .inr ⟨g, cap, cur, rfl, e3, ?_, e5⟩
    rw [f.block g (by
      obtain ⟨x, _⟩ := Array.getElem?_eq_some_iff.1 e4
      exact x) (hM g rfl)]
    exact e4
mutual
theorem own_mono {F F' : Nat → Prop} {w w' : World} {M : Nat → Prop} (hF : ∀ b, F b → F' b) (f : Fr M w w') (hM : ∀ b, F b → ¬ M b) : ∀ (t : Tm) (sv : Value), Tm.own F w t sv → Tm.own F' w' t sv
  | .mk k n s ks, sv, h => by
    simp only [Tm.own] at h ⊢
    obtain ⟨h1, h2, xs, h3, h4, h5⟩ := h
    exact ⟨h1, h2, xs, own_fr h3 f (fun g hg => hM g (h4 g hg)), fun g hg => hF g (h4 g hg), oflat_mono (fun b hb => ⟨hF b hb.1, hb.2⟩) f (fun b hb => hM b hb.1) ks xs h5⟩
theorem oflat_mono {F F' : Nat → Prop} {w w' : World} {M : Nat → Prop} (hF : ∀ b, F b → F' b) (f : Fr M w w') (hM : ∀ b, F b → ¬ M b) : ∀ (ts : List Tm) (xs : List Value), Tm.oflat F w ts xs → Tm.oflat F' w' ts xs
  | [], xs, h => by simp only [Tm.oflat] at h ⊢; exact h
  | t :: ts, xs, h => by
    simp only [Tm.oflat] at h ⊢
    obtain ⟨F1, F2, a, c, rest, h1, h2, h3, h4, h5⟩ := h
    exact ⟨F1, F2, a, c, rest, h1, fun b hb => ⟨hF b (h2 b hb).1, (h2 b hb).2⟩, fun b hb => hF b (h3 b hb), own_mono (fun b hb => hb) f (fun b hb => hM b (h2 b hb).1) t _ h4, oflat_mono (fun b hb => hb) f (fun b hb => hM b (h3 b hb)) ts rest h5⟩
end
theorem OwnS.mono {F F' : Nat → Prop} {w w' : World} {M : Nat → Prop} {ts : List Tm} {v : Value} (h : OwnS F ts v w) (hF : ∀ b, F b → F' b) (f : Fr M w w') (hM : ∀ b, F b → ¬ M b) : OwnS F' ts v w' := by
  obtain ⟨xs, h3, h4, h5⟩ := h
  exact ⟨xs, own_fr h3 f (fun g hg => hM g (h4 g hg)), fun g hg => hF g (h4 g hg), oflat_mono (fun b hb => ⟨hF b hb.1, hb.2⟩) f (fun b hb => hM b hb.1) _ xs h5⟩
mutual
theorem own_flat : ∀ {F : Nat → Prop} {w : World} (t : Tm) (a : Option Addr) (c : Nat), Tm.own F w t (.slice a t.kids.length c) → Tm.at F w t (.agg #[.int .i64 t.kind, .int .i64 t.n, .string t.name, .slice a t.kids.length c])
  | F, w, .mk k n s ks, a, c, h => by
    simp only [Tm.own] at h
    obtain ⟨h1, h2, xs, h3, h4, h5⟩ := h
    have hsl := own_sl (S := fun b => F b ∧ (Value.slice a (Tm.mk k n s ks).kids.length c).ownBlock ≠ some b) h3 (oflat_flat ks xs h5) h2
    refine Tm.at_iff.2 ⟨h1, _, rfl, Tm.sl_mono ?_ (Agree.refl w) hsl⟩
    rintro b (hb | hb)
    · exact hb.1
    · exact h4 b hb
theorem oflat_flat : ∀ {F : Nat → Prop} {w : World} (ts : List Tm) (xs : List Value), Tm.oflat F w ts xs → Tm.flat F w ts xs
  | F, w, [], xs, h => by simp only [Tm.oflat] at h; exact h
  | F, w, t :: ts, xs, h => by
    simp only [Tm.oflat] at h
    obtain ⟨F1, F2, a, c, rest, h1, h2, h3, h4, h5⟩ := h
    exact ⟨a, c, rest, h1, Tm.at_mono (fun b hb => (h2 b hb).1) (Agree.refl w) (own_flat t a c h4), flat_mono h3 (Agree.refl w) (oflat_flat ts rest h5)⟩
end
theorem OwnS.app {F : Nat → Prop} {ts : List Tm} {v : Value} {w : World} (h : OwnS F ts v w) : AppI 26 F ts v w := by
  obtain ⟨xs, h1, h2, h3⟩ := h
  exact ⟨xs, h1, h2, oflat_flat ts xs h3⟩
theorem OwnS.form {F : Nat → Prop} {ts : List Tm} {v : Value} {w : World} (h : OwnS F ts v w) : ∃ a c, v = .slice a ts.length c := h.app.form
theorem OwnS.nil (F : Nat → Prop) (w : World) : OwnS F [] (.slice none 0 0) w := ⟨[], ⟨rfl, .inl ⟨rfl, rfl⟩⟩, by simp [Value.ownBlock], by simp [Tm.oflat]⟩
theorem oflat_snoc {w : World} {t : Tm} {a : Option Addr} {c : Nat} {G : Nat → Prop} (ht : Tm.own G w t (.slice a t.kids.length c)) : ∀ {F : Nat → Prop} {ts : List Tm} {xs : List Value}, Tm.oflat F w ts xs → (∀ b, F b → ¬ G b) →
    Tm.oflat (fun b => F b ∨ G b) w (ts ++ [t]) (xs ++ tcells t a c)
  | F, [], xs, h, _ => by
    simp only [Tm.oflat] at h
    subst h
    simp only [List.nil_append, Tm.oflat]
    exact ⟨G, fun _ => False, a, c, [], by simp, fun b hb => ⟨.inr hb, fun h => h⟩, fun b hb => hb.elim, ht, rfl⟩
  | F, u :: ts, xs, h, hd => by
    simp only [Tm.oflat] at h
    obtain ⟨F1, F2, a1, c1, rest, rfl, h2, h3, h4, h5⟩ := h
    simp only [List.cons_append, Tm.oflat]
    exact ⟨F1, fun b => F2 b ∨ G b, a1, c1, rest ++ tcells t a c, by simp, fun b hb => ⟨.inl (h2 b hb).1, fun h => h.elim (h2 b hb).2 (hd b (h2 b hb).1)⟩, fun b hb => hb.elim (fun h => .inl (h3 b h)) .inr, h4, oflat_snoc ht h5 (fun b hb => hd b (h3 b hb))⟩
theorem ownS_next {F G : Nat → Prop} {ts : List Tm} {t : Tm} {v nv : Value} {w1 w2 : World} {xs : List Value} {a2 : Option Addr} {c2 : Nat} {o : Obj}
    (how : w1.ownsRow 0 26 4 v ts.length xs) (hz : ∀ g, v.ownBlock = some g → F g) (hfl : Tm.oflat (fun b => F b ∧ v.ownBlock ≠ some b) w1 ts xs)
    (hv1 : Tm.own G w1 t (.slice a2 t.kids.length c2)) (hdis : ∀ b, F b → ¬ G b) (hG : ∀ b, G b → b < w1.heap.size) (hFl : ∀ b, F b → b < w1.heap.size)
    (ho2 : w2.ownsRow 0 26 4 nv (ts.length + 1) (xs ++ tcells t a2 c2)) (hg : (w1.alloc o).grownBy w2 v.ownBlock)
    (hfr : ∀ g, nv.ownBlock = some g → v.ownBlock = some g ∨ (w1.alloc o).heap.size ≤ g) : OwnS (fun b => F b ∨ G b ∨ w1.heap.size ≤ b) (ts ++ [t]) nv w2 := by
  have hs3 : (w1.alloc o).heap.size = w1.heap.size + 1 := by simp
  have f : Fr (fun b => v.ownBlock = some b) w1 w2 := (Fr.alloc w1 o).trans (Fr.of_grown hg (fun k hk => hk))
  refine ⟨xs ++ tcells t a2 c2, by simpa using ho2, ?_, ?_⟩
  · intro g hgg
    rcases hfr g hgg with h | h
    · exact .inl (hz g h)
    · exact .inr (.inr (by omega))
  · have hne : ∀ b, b < w1.heap.size → v.ownBlock ≠ some b → nv.ownBlock ≠ some b := by
      intro b hb h1 h2
      rcases hfr b h2 with h | h
      · exact h1 h
      · omega
    have hgv : ∀ b, G b → v.ownBlock ≠ some b := fun b hb h => hdis b (hz b h) hb
    have hs := oflat_snoc (own_mono (F' := G) (fun b hb => hb) f (fun b hb => hgv b hb) t _ hv1) (oflat_mono (F' := fun b => F b ∧ v.ownBlock ≠ some b) (fun b hb => hb) f (fun b hb => hb.2) ts xs hfl) (fun b hb => hdis b hb.1)
    refine oflat_mono (M := fun _ => False) ?_ (Fr.refl _ _) (fun b _ h => h) _ _ hs
    rintro b (hb | hb)
    · exact ⟨.inl hb.1, hne b (hFl b hb.1) hb.2⟩
    · exact ⟨.inr (.inl hb), hne b (hG b hb) (hgv b hb)⟩
end Go.Proofs.YtognkaebiafgbaaGreat

namespace Go.Proofs.YtognkaebiafgbaaGreat
open Go.RowKit
set_option linter.unusedVariables false
mutual
theorem own_bound : ∀ {F : Nat → Prop} {w : World} (t : Tm) (sv : Value), Tm.own F w t sv → Tm.own (fun b => F b ∧ b < w.heap.size) w t sv
  | F, w, .mk k n s ks, sv, h => by
    simp only [Tm.own] at h ⊢
    obtain ⟨h1, h2, xs, h3, h4, h5⟩ := h
    refine ⟨h1, h2, xs, h3, fun g hg => ⟨h4 g hg, (h3.lt g hg).2⟩, ?_⟩
    exact oflat_mono (M := fun _ => False) (fun b hb => ⟨⟨hb.1.1, hb.2⟩, hb.1.2⟩) (Fr.refl _ _) (fun _ _ h => h) _ _ (oflat_bound ks xs h5)
theorem oflat_bound : ∀ {F : Nat → Prop} {w : World} (ts : List Tm) (xs : List Value), Tm.oflat F w ts xs → Tm.oflat (fun b => F b ∧ b < w.heap.size) w ts xs
  | F, w, [], xs, h => by simp only [Tm.oflat] at h ⊢; exact h
  | F, w, t :: ts, xs, h => by
    simp only [Tm.oflat] at h ⊢
    obtain ⟨F1, F2, a, c, rest, h1, h2, h3, h4, h5⟩ := h
    exact ⟨fun b => F1 b ∧ b < w.heap.size, fun b => F2 b ∧ b < w.heap.size, a, c, rest, h1, fun b hb => ⟨⟨(h2 b hb.1).1, hb.2⟩, fun h => (h2 b hb.1).2 h.1⟩, fun b hb => ⟨h3 b hb.1, hb.2⟩, own_bound t _ h4, oflat_bound ts rest h5⟩
end
theorem OwnS.bound {F : Nat → Prop} {w : World} {ts : List Tm} {v : Value} (h : OwnS F ts v w) : OwnS (fun b => F b ∧ b < w.heap.size) ts v w := by
  obtain ⟨xs, h3, h4, h5⟩ := h
  exact ⟨xs, h3, fun g hg => ⟨h4 g hg, (h3.lt g hg).2⟩, oflat_mono (M := fun _ => False) (fun b hb => ⟨⟨hb.1.1, hb.2⟩, hb.1.2⟩) (Fr.refl _ _) (fun _ _ h => h) _ _ (oflat_bound ts xs h5)⟩
theorem OwnS.ext {F : Nat → Prop} {w w' : World} {ts : List Tm} {v : Value} (h : OwnS F ts v w) (e : Ext w w') : OwnS F ts v w' := h.mono (M := fun _ => False) (fun _ h => h) (Fr.of_ext e) (fun _ _ h => h)
theorem own_ext1 {F : Nat → Prop} {w w' : World} {t : Tm} {v : Value} (h : Tm.own F w t v) (e : Ext w w') : Tm.own F w' t v := own_mono (M := fun _ => False) (fun _ h => h) (Fr.of_ext e) (fun _ _ h => h) _ _ h
theorem own_zone {F F' : Nat → Prop} {w : World} {t : Tm} {v : Value} (h : Tm.own F w t v) (hF : ∀ b, F b → F' b) : Tm.own F' w t v := own_mono (M := fun _ => False) hF (Fr.refl _ _) (fun _ _ h => h) _ _ h
def TmO (t : Tm) (w : World) (e : Ending) (w' : World) : Prop := ∃ a c, e = .returned (.agg #[.int .i64 t.kind, .int .i64 t.n, .string t.name, .slice a t.kids.length c]) ∧ Tm.own (fun b => w.heap.size ≤ b) w' t (.slice a t.kids.length c) ∧ Ext w w'
end Go.Proofs.YtognkaebiafgbaaGreat

namespace Go.Proofs.YtognkaebiafgbaaGreat
open Go.RowKit
set_option linter.unusedVariables false
theorem ret4b_set {P : Program} {fn : Func} {R : Ending → World → Prop} {a : Act} {Y : World} {p q T b : Nat} {u0 u1 u2 u3 v0 v1 v2 v3 y : Value}
    (hres : fn.results = #[.cell p T, .tmp q]) (hT : ∀ w, (isAgg T).run P w = .ok true w) (hs : ∀ w, (sizeOf T).run P w = .ok 4 w) (hp : a.tmps.getD p undef = .pointer (some ⟨b, 0, none⟩)) (hq : a.tmps.getD q undef = y) (hd : a.defers = [])
    (h : BoxT Y b u0 u1 u2 u3)
    (hR : ∀ X, Fr (fun k => k = b) Y X → R (.returned (.tuple #[.agg #[v0, v1, v2, v3], y])) X) :
    bodyPost P fn R .ret a ((((Y.setCell ⟨b, 0, none⟩ v0).setCell ⟨b, 1, none⟩ v1).setCell ⟨b, 2, none⟩ v2).setCell ⟨b, 3, none⟩ v3) := by
  obtain ⟨c0, c1, c2, c3⟩ := set4_cells (Y := Y) v0 v1 v2 v3 h.1 h.2.1 h.2.2.1 h.2.2.2.1
  refine bodyPost_ret (v := .tuple #[.agg #[v0, v1, v2, v3], y]) ?_ hd (hR _ (Fr.of_grown (set4_grown Y b v0 v1 v2 v3) (fun k e => by cases e; rfl)))
  have hl := load4 (P := P) (T := T) (b := b) hT hs c0 c1 c2 c3
  simp only [results, hres]
  have hp' : a.tmps[p]?.getD undef = .pointer (some ⟨b, 0, none⟩) := by simpa using hp
  have hq' : a.tmps[q]?.getD undef = y := by simpa using hq
  unfold set4 at hl
  simp [hp', hq', asAddr, hl]
theorem ret4b {P : Program} {fn : Func} {R : Ending → World → Prop} {a : Act} {Y : World} {p q T b : Nat} {v0 v1 v2 v3 y : Value}
    (hres : fn.results = #[.cell p T, .tmp q]) (hT : ∀ w, (isAgg T).run P w = .ok true w) (hs : ∀ w, (sizeOf T).run P w = .ok 4 w) (hp : a.tmps.getD p undef = .pointer (some ⟨b, 0, none⟩)) (hq : a.tmps.getD q undef = y) (hd : a.defers = [])
    (h : BoxT Y b v0 v1 v2 v3) (hR : R (.returned (.tuple #[.agg #[v0, v1, v2, v3], y])) Y) : bodyPost P fn R .ret a Y := by
  refine bodyPost_ret (v := .tuple #[.agg #[v0, v1, v2, v3], y]) ?_ hd hR
  have hl := load4 (P := P) (T := T) (b := b) hT hs h.1 h.2.1 h.2.2.1 h.2.2.2.1
  simp only [results, hres]
  have hp' : a.tmps[p]?.getD undef = .pointer (some ⟨b, 0, none⟩) := by simpa using hp
  have hq' : a.tmps[q]?.getD undef = y := by simpa using hq
  simp [hp', hq', asAddr, hl]
theorem own_nil (F : Nat → Prop) (w : World) (k n : Int) (s : ByteArray) (hs : s.size ≤ 1048576) : Tm.own F w (.mk k n s []) (.slice none 0 0) := own_iff.2 ⟨hs, by simp [Tm.kids], OwnS.nil _ _⟩
def val4 (t : Tm) (a : Option Addr) (c : Nat) : Value := .agg #[.int .i64 t.kind, .int .i64 t.n, .string t.name, .slice a t.kids.length c]
theorem BoxT.put4 {w : World} {b : Nat} {u0 u1 u2 u3 : Value} (h : BoxT w b u0 u1 u2 u3) (v0 v1 v2 v3 : Value) : BoxT ((((w.setCell ⟨b, 0, none⟩ v0).setCell ⟨b, 1, none⟩ v1).setCell ⟨b, 2, none⟩ v2).setCell ⟨b, 3, none⟩ v3) b v0 v1 v2 v3 := by
  obtain ⟨a0, a1, a2, a3, f0, f1, f2, f3⟩ := h
  obtain ⟨c0, c1, c2, c3⟩ := set4_cells (Y := w) v0 v1 v2 v3 a0 a1 a2 a3
  refine ⟨c0, c1, c2, c3, ?_, ?_, ?_, ?_⟩
  · rw [World.frozen?_setCell, World.frozen?_setCell, World.frozen?_setCell, World.frozen?_setCell]; exact f0
  · rw [World.frozen?_setCell, World.frozen?_setCell, World.frozen?_setCell, World.frozen?_setCell]; exact f1
  · rw [World.frozen?_setCell, World.frozen?_setCell, World.frozen?_setCell, World.frozen?_setCell]; exact f2
  · rw [World.frozen?_setCell, World.frozen?_setCell, World.frozen?_setCell, World.frozen?_setCell]; exact f3
theorem put4_frw {M : Nat → Prop} (w : World) {b : Nat} (u0 u1 u2 u3 : Value) (hM : M b) : Fr M w ((((w.setCell ⟨b, 0, none⟩ u0).setCell ⟨b, 1, none⟩ u1).setCell ⟨b, 2, none⟩ u2).setCell ⟨b, 3, none⟩ u3) := (((Fr.setCell _ hM).trans (Fr.setCell _ hM)).trans (Fr.setCell _ hM)).trans (Fr.setCell _ hM)
theorem BoxT.put4w {w : World} {b : Nat} {u0 u1 u2 u3 : Value} (h : BoxT w b u0 u1 u2 u3) (v0 v1 v2 v3 : Value) : BoxT ((((w.setCell ⟨b, 0, none⟩ v0).setCell ⟨b, 1, none⟩ v1).setCell ⟨b, 2, none⟩ v2).setCell ⟨b, 3, none⟩ v3) b v0 v1 v2 v3 := h.put4 v0 v1 v2 v3
end Go.Proofs.YtognkaebiafgbaaGreat

namespace Go.Proofs.YtognkaebiafgbaaGreat
open Go.RowKit
set_option linter.unusedVariables false
def TabW (w : World) : Prop := Lib.TabIs Tryz.prog w "internal/strconv.uint64pow10" .u64 Lib.pow10Tab
theorem TabW.ext {w w' : World} (h : TabW w) (e : Ext w w') : TabW w' := by
  unfold TabW Lib.TabIs World.var? at h ⊢
  cases hg : Tryz.prog.globalNamed "internal/strconv.uint64pow10" with
  | none => simp [hg] at h
  | some g =>
    simp only [hg, Option.bind_some] at h ⊢
    have hlt : g < w.heap.size := by
      apply Decidable.byContradiction
      intro hn
      rw [Array.getElem?_eq_none (by omega)] at h
      simp at h
    rw [e.block g hlt]
    exact h
theorem conv_oneT (w : World) (T : TypeId) (c : UInt8) (x : Int) (hx : x = c.toNat) : Sem.run Tryz.prog (convert 22 9 (.slice (some ⟨w.heap.size, 0, none⟩) 1 1)) (w.alloc (.cells #[.int .u8 x] T)) = .ok (.string ⟨#[c]⟩) (w.alloc (.cells #[.int .u8 x] T)) := by
  subst hx
  exact run_convert_bytes_back (P := Tryz.prog) _ 22 9 5 ⟨w.heap.size, 0, none⟩ 1 [c] Tryz.underlying22 Tryz.underlying5 Tryz.underlying9 (fun j hj => by
    have h1 : j < 1 := hj
    have : j = 0 := by omega
    subst this
    exact cell_new w _ _ 0 _ rfl)
theorem letter_toNat {n : Int} (h0 : 0 ≤ n) (h1 : n ≤ 25) : (65 + n : Int) = ((letB n).toNat : Int) := by
  unfold letB
  rw [UInt8.toNat_ofNat']
  omega
def StrI (Z : Nat → Prop) (xs : List ByteArray) (v : Value) (w : World) : Prop := w.ownsRow 0 9 1 v xs.length (xs.map Value.string) ∧ (∀ g, v.ownBlock = some g → Z g) ∧ xs.length ≤ 1048576
theorem StrI.nil (Z : Nat → Prop) (w : World) : StrI Z [] (.slice none 0 0) w := ⟨⟨rfl, .inl ⟨rfl, rfl⟩⟩, by simp [Value.ownBlock], by simp⟩
theorem StrI.form {Z : Nat → Prop} {xs : List ByteArray} {v : Value} {w : World} (h : StrI Z xs v w) : ∃ a c, v = .slice a xs.length c := own_form h.1
theorem StrI.keep {Z M : Nat → Prop} {xs : List ByteArray} {v : Value} {w w' : World} (h : StrI Z xs v w) (f : Fr M w w') (hM : ∀ k, k < w.heap.size → M k → ¬ Z k) : StrI Z xs v w' := by
  refine ⟨own_keep h.1 f (fun g hg hm => ?_), h.2⟩
  exact hM g (h.1.lt g hg).2 hm (h.2.1 g hg)
theorem StrI.ext {Z : Nat → Prop} {xs : List ByteArray} {v : Value} {w w' : World} (h : StrI Z xs v w) (e : Ext w w') : StrI Z xs v w' := h.keep (M := fun _ => False) (Fr.of_ext e) (fun _ _ h => h.elim)
theorem StrI.cells {Z : Nat → Prop} {xs : List ByteArray} {v : Value} {w : World} (h : StrI Z xs v w) (hne : xs ≠ []) : ∃ g c, v = .slice (some ⟨g, 0, none⟩) xs.length c ∧ g < w.heap.size ∧ xs.length ≤ c ∧ ∀ (j : Nat) (x : ByteArray), xs[j]? = some x → w.cell? ⟨g, 0 + j, none⟩ = some (.string x) := by
  obtain ⟨h1, h2, h3⟩ := h
  have hc := fun g (hg : v.ownBlock = some g) => h1.cells hg
  have hlt := fun g (hg : v.ownBlock = some g) => (h1.lt g hg).2
  obtain ⟨e1, e2⟩ := h1
  rcases e2 with ⟨rfl, e2⟩ | ⟨g, cap, cur, rfl, e3, e4, e5, e6, e7⟩
  · exact absurd (List.eq_nil_of_length_eq_zero e2) hne
  · refine ⟨g, cap, rfl, hlt g rfl, e5, fun j x hx => ?_⟩
    have := hc g rfl j (.string x) (by simp [hx])
    rw [show (⟨g, 0, none⟩ : Addr).add j = ⟨g, 0 + j, none⟩ by unfold Addr.add; split <;> simp_all] at this
    exact this
end Go.Proofs.YtognkaebiafgbaaGreat

namespace Go.Proofs.YtognkaebiafgbaaGreat
open Go.RowKit
set_option linter.unusedVariables false
theorem two_get {S : Nat → Prop} {w : World} {a b : Tm} {ar : Option Addr} (h : [a, b] = [] ∨ ∃ b' off, ar = some ⟨b', off, none⟩ ∧ S b' ∧ Tm.row S w b' off [a, b]) :
    ∃ r off p c p' c', ar = some ⟨r, off, none⟩ ∧ S r ∧ w.cell? ⟨r, off, none⟩ = some (.int .i64 a.kind) ∧ w.cell? ⟨r, off + 1, none⟩ = some (.int .i64 a.n) ∧ w.cell? ⟨r, off + 2, none⟩ = some (.string a.name) ∧ w.cell? ⟨r, off + 3, none⟩ = some (.slice p a.kids.length c) ∧
      w.cell? ⟨r, off + 4, none⟩ = some (.int .i64 b.kind) ∧ w.cell? ⟨r, off + 5, none⟩ = some (.int .i64 b.n) ∧ w.cell? ⟨r, off + 6, none⟩ = some (.string b.name) ∧ w.cell? ⟨r, off + 7, none⟩ = some (.slice p' b.kids.length c') ∧
      Tm.at S w a (val4 a p c) ∧ Tm.at S w b (val4 b p' c') := by
  obtain ⟨r, off, p, c, rfl, hS, k1, k2, k3, k4, hat⟩ := tget h (k := 0) (t := a) rfl
  obtain ⟨r', off', p', c', q, hS', q1, q2, q3, q4, hat'⟩ := tget h (k := 1) (t := b) rfl
  obtain ⟨rfl, rfl⟩ : r = r' ∧ off = off' := by simpa using q
  exact ⟨r, off, p, c, p', c', rfl, hS, by simpa using k1, by simpa using k2, by simpa using k3, by simpa using k4, by simpa using q1, by simpa using q2, by simpa using q3, by simpa using q4, hat, hat'⟩
theorem at_kids {S : Nat → Prop} {w : World} {k n : Int} {s : ByteArray} {ks : List Tm} {ac : Option Addr} {len cc : Nat} (h : Tm.at S w (.mk k n s ks) (.agg #[.int .i64 k, .int .i64 n, .string s, .slice ac len cc])) :
    s.size ≤ 1048576 ∧ len = ks.length ∧ ks.length ≤ cc ∧ cc ≤ 9223372036854775807 ∧ ks.length ≤ 1048576 ∧ (ks = [] ∨ ∃ b' off, ac = some ⟨b', off, none⟩ ∧ S b' ∧ Tm.row S w b' off ks) := by
  obtain ⟨h1, sv, h2, a, c, rfl, h3, h4, h5, h6⟩ := h
  simp at h2
  obtain ⟨rfl, rfl, rfl⟩ := h2
  exact ⟨h1, rfl, h3, h4, h5, h6⟩
theorem txt_var (o : Bool) (n : Int) (s : ByteArray) (ks : List Tm) : txt o (.mk 1 n s ks) = [letB n] := by simp [txt, txF, ownTx]
theorem txt_int (o : Bool) (n : Int) (s : ByteArray) (ks : List Tm) : txt o (.mk 2 n s ks) = Lib.itoa n := by simp [txt, txF, ownTx]
theorem txt_pair {o : Bool} {n : Int} {s : ByteArray} {a b : Tm} (ho : (o && infF 3 s 2) = false) (h : pairF 3 s 2 = true) : txt o (.mk 3 n s [a, b]) = 91 :: (txt o a ++ (rst o b ++ [93])) := by
  simp [txt, rst, txF, ownTx, txL, ho, h]
theorem rst_pair {o : Bool} {n : Int} {s : ByteArray} {a b : Tm} (h : pairF 3 s 2 = true) : rst o (.mk 3 n s [a, b]) = 44 :: (txt o a ++ rst o b) := by
  simp [txt, rst, txF, restTx, txL, h]
theorem rst_nil {o : Bool} {k n : Int} {s : ByteArray} {ks : List Tm} (hp : pairF k s ks.length = false) (h : nilF k s ks.length = true) : rst o (.mk k n s ks) = [] := by
  simp [rst, txF, restTx, txL_len, hp, h]
theorem rst_tail {o : Bool} {k n : Int} {s : ByteArray} {ks : List Tm} (hp : pairF k s ks.length = false) (h : nilF k s ks.length = false) : rst o (.mk k n s ks) = 124 :: txt o (.mk k n s ks) := by
  simp [rst, txt, txF, restTx, txL_len, hp, h]
theorem txt_atom {o : Bool} {n : Int} {s : ByteArray} : txt o (.mk 3 n s []) = s.toList := by
  simp [txt, txF, ownTx, txL, infF, pairF]
theorem txt_args {o : Bool} {n : Int} {s : ByteArray} {ks : List Tm} (ho : (o && infF 3 s ks.length) = false) (h : pairF 3 s ks.length = false) (hl : ks.length ≠ 0) : txt o (.mk 3 n s ks) = s.toList ++ 40 :: (joinF (ks.map (txt o)) ++ [41]) := by
  simp only [txt, txF, ownTx, txL_len, ho, h, if_neg hl, if_neg (show ¬ (3 : Int) = 1 by decide), if_neg (show ¬ (3 : Int) = 2 by decide), if_neg (show ¬ false = true by decide), txL_map]
end Go.Proofs.YtognkaebiafgbaaGreat
