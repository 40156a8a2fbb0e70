/-
  InstanceOf on both sides.
-/
import Derived.Test.YteplfajhmpmklaaMg52
import Derived.Test.YteplfajhmpmklaaMg53
import Derived.Test.YteplfajhmpmklaaMg20
namespace Go.Proofs.Yteplfajhmpmklaa
open Go.RowKit
set_option linter.unusedVariables false

theorem bound2 {S S' : Nat → Prop} {w : World} {t : Tm} {v : Value} (h : Tm.at S w t v) : Tm.at (fun b => b < w.heap.size) w t v := Tm.at_mono (fun _ h => h.2) (Agree.refl _) (Tm.at_bound h)

def row26 : Array Value := ((List.replicate 26 [.int .i64 0, .int .i64 0, .string ⟨#[]⟩, .slice none 0 0]).flatten).toArray
theorem make26 (w : World) : (Instr.makeSlice 27 (.int .i64 26) (.int .i64 26)).run Try.prog w = .ok (.slice (some ⟨w.heap.size, 0, none⟩) 26 26) (w.alloc (.cells row26 29)) := by kernel_rfl
theorem rep_get (l : List Value) (hl : l.length = 4) : ∀ (n i j : Nat), i < n → j < 4 → ((List.replicate n l).flatten)[i * 4 + j]? = l[j]?
  | 0, _, _, h, _ => by omega
  | n + 1, 0, j, _, hj => by
    rw [List.replicate_succ, List.flatten_cons, List.getElem?_append_left (by omega)]
    simp
  | n + 1, i + 1, j, hi, hj => by
    rw [List.replicate_succ, List.flatten_cons, List.getElem?_append_right (by omega), hl]
    rw [show (i + 1) * 4 + j - 4 = i * 4 + j by omega]
    exact rep_get l hl n i j (by omega) hj
theorem Kn.made (S : Nat → Prop) (w : World) (T : Nat) (hS : ¬ S w.heap.size) : Kn S (w.alloc (.cells row26 T)) w.heap.size known0 := by
  refine ⟨hS, by simp [known0], fun i t ht => ?_⟩
  have hi : i < 26 := by have := (List.getElem?_eq_some_iff.1 ht).1; simpa [known0] using this
  have e : t = zeroT := by
    unfold known0 at ht
    rw [List.getElem?_replicate, if_pos hi] at ht
    exact (Option.some.inj ht).symm
  subst e
  have hc : ∀ j v, j < 4 → [Value.int .i64 0, .int .i64 0, .string ⟨#[]⟩, .slice none 0 0][j]? = some v → (w.alloc (.cells row26 T)).cell? ⟨w.heap.size, i * 4 + j, none⟩ = some v := by
    intro j v hj hv
    have h1 := rep_get [Value.int .i64 0, .int .i64 0, .string ⟨#[]⟩, .slice none 0 0] rfl 26 i j hi hj
    rw [hv] at h1
    have h2 := cell_new w row26 T (i * 4 + j) v (by unfold row26; rw [List.getElem?_toArray]; exact h1)
    rw [Nat.zero_add] at h2
    exact h2
  refine ⟨Tm.cells_iff.2 ⟨.slice none 0 0, hc 0 _ (by omega) rfl, hc 1 _ (by omega) rfl, hc 2 _ (by omega) rfl, hc 3 _ (by omega) rfl, by decide, none, 0, rfl, by decide, by decide, by decide, .inl rfl⟩, fun j hj => by go_simp⟩

set_option maxRecDepth 100000 in
set_option maxHeartbeats 4000000 in
theorem specInstanceOf (t u : Tm) (v v' : Value) (S S' : Nat → Prop) (w : World) (ht : Tm.at S w t v) (hu : Tm.at S' w u v') :
    Calls Try.prog 12 #[v, v'] w fun e w' => e = .returned (.bool (instF t u)) ∧ Ext w w' := by
  have T0 := Lib.hid (fun w' (e' : Ext w w') => specTermValid t v S w' (Tm.at_ext e' ht))
  have U0 := Lib.hid (fun w' (e' : Ext w w') => specTermValid u v' S' w' (Tm.at_ext e' hu))
  have CM := Lib.hid (fun (h : validF u = true) kb w' (e' : Ext w w') (hK : Kn (fun b => b < w.heap.size) w' kb known0) => specl3Match _ u t known0 v' v (fun b => b < w.heap.size) w' kb 30 (Nat.le_refl _) (valid_shape h) (Tm.at_ext e' (bound2 (S' := S) hu)) (Tm.at_ext e' (bound2 (S' := S) ht)) hK)
  obtain ⟨a, c, rfl⟩ := at_form ht
  obtain ⟨b, d, rfl⟩ := at_form hu
  clear ht hu
  cases hv : validF t
  · have HT := Lib.hid hv
    clear hv
    have HF : Hid (instF t u = false) := Lib.hid (by unfold instF; rw [HT.out]; rfl)
    go_enter Try.func12, Try.ntmps12
    go_wp2_with fail
    obtain ⟨w0, hW⟩ : ∃ W0, W0 = ((w.alloc (.cells #[.int .i64 t.kind, .int .i64 t.n, .string t.name, .slice a t.kids.length c] 29)).alloc (.cells #[.int .i64 u.kind, .int .i64 u.n, .string u.name, .slice b u.kids.length d] 29)) := ⟨_, rfl⟩
    rw [← hW]
    have X := Lib.hid (show BoxT w0 w.heap.size (.int .i64 t.kind) (.int .i64 t.n) (.string t.name) (.slice a t.kids.length c) by rw [hW]; exact (BoxT.new w _ _ _ _ 29 rfl).ext (Ext.alloc _ _))
    have Y := Lib.hid (show BoxT w0 (w.heap.size + 1) (.int .i64 u.kind) (.int .i64 u.n) (.string u.name) (.slice b u.kids.length d) by rw [hW]; exact BoxT.new _ _ _ _ _ 29 (by simp))
    have E0 : Hid (Ext w w0) := Lib.hid (by rw [hW]; exact (Ext.alloc _ _).trans (Ext.alloc _ _))
    clear hW
    refine (T0.out _ E0.out).mono ?_
    rw [HT.out]
    rintro e w1 ⟨rfl, q⟩
    have E1 := Lib.hid (E0.out.trans q)
    have X := Lib.hid (X.out.ext q)
    have Y := Lib.hid (Y.out.ext q)
    obtain ⟨x0, x1, x2, x3, _, _, _, _⟩ := X.out
    obtain ⟨y0, y1, y2, y3, _, _, _, _⟩ := Y.out
    clear q
    go_wp2_with fail
    go_ret
    exact ⟨retB HF.out.symm, E1.out⟩
  cases hw : validF u
  · have HT := Lib.hid hv
    have HU := Lib.hid hw
    clear hv hw
    have HF : Hid (instF t u = false) := Lib.hid (by unfold instF; rw [HT.out, HU.out]; rfl)
    go_enter Try.func12, Try.ntmps12
    go_wp2_with fail
    obtain ⟨w0, hW⟩ : ∃ W0, W0 = ((w.alloc (.cells #[.int .i64 t.kind, .int .i64 t.n, .string t.name, .slice a t.kids.length c] 29)).alloc (.cells #[.int .i64 u.kind, .int .i64 u.n, .string u.name, .slice b u.kids.length d] 29)) := ⟨_, rfl⟩
    rw [← hW]
    have X := Lib.hid (show BoxT w0 w.heap.size (.int .i64 t.kind) (.int .i64 t.n) (.string t.name) (.slice a t.kids.length c) by rw [hW]; exact (BoxT.new w _ _ _ _ 29 rfl).ext (Ext.alloc _ _))
    have Y := Lib.hid (show BoxT w0 (w.heap.size + 1) (.int .i64 u.kind) (.int .i64 u.n) (.string u.name) (.slice b u.kids.length d) by rw [hW]; exact BoxT.new _ _ _ _ _ 29 (by simp))
    have E0 : Hid (Ext w w0) := Lib.hid (by rw [hW]; exact (Ext.alloc _ _).trans (Ext.alloc _ _))
    clear hW
    refine (T0.out _ E0.out).mono ?_
    rw [HT.out]
    rintro e w1 ⟨rfl, q⟩
    have E1 := Lib.hid (E0.out.trans q)
    have X := Lib.hid (X.out.ext q)
    have Y := Lib.hid (Y.out.ext q)
    obtain ⟨x0, x1, x2, x3, _, _, _, _⟩ := X.out
    obtain ⟨y0, y1, y2, y3, _, _, _, _⟩ := Y.out
    clear q
    go_wp2_with fail
    refine (U0.out _ E1.out).mono ?_
    rw [HU.out]
    rintro e w2 ⟨rfl, q⟩
    have E2 := Lib.hid (E1.out.trans q)
    have X := Lib.hid (X.out.ext q)
    have Y := Lib.hid (Y.out.ext q)
    obtain ⟨x0, x1, x2, x3, _, _, _, _⟩ := X.out
    obtain ⟨y0, y1, y2, y3, _, _, _, _⟩ := Y.out
    clear q
    go_wp2_with fail
    go_ret
    exact ⟨retB HF.out.symm, E2.out⟩
  · have HT := Lib.hid hv
    have HU := Lib.hid hw
    clear hv hw
    have HF : Hid (instF t u = (matchF u t known0).1) := Lib.hid (by unfold instF; rw [HT.out, HU.out]; rfl)
    have hmk := make26
    go_enter Try.func12, Try.ntmps12
    go_wp2_with fail
    obtain ⟨w0, hW⟩ : ∃ W0, W0 = ((w.alloc (.cells #[.int .i64 t.kind, .int .i64 t.n, .string t.name, .slice a t.kids.length c] 29)).alloc (.cells #[.int .i64 u.kind, .int .i64 u.n, .string u.name, .slice b u.kids.length d] 29)) := ⟨_, rfl⟩
    rw [← hW]
    have X := Lib.hid (show BoxT w0 w.heap.size (.int .i64 t.kind) (.int .i64 t.n) (.string t.name) (.slice a t.kids.length c) by rw [hW]; exact (BoxT.new w _ _ _ _ 29 rfl).ext (Ext.alloc _ _))
    have Y := Lib.hid (show BoxT w0 (w.heap.size + 1) (.int .i64 u.kind) (.int .i64 u.n) (.string u.name) (.slice b u.kids.length d) by rw [hW]; exact BoxT.new _ _ _ _ _ 29 (by simp))
    have E0 : Hid (Ext w w0) := Lib.hid (by rw [hW]; exact (Ext.alloc _ _).trans (Ext.alloc _ _))
    clear hW
    refine (T0.out _ E0.out).mono ?_
    rw [HT.out]
    rintro e w1 ⟨rfl, q⟩
    have E1 := Lib.hid (E0.out.trans q)
    have X := Lib.hid (X.out.ext q)
    have Y := Lib.hid (Y.out.ext q)
    obtain ⟨x0, x1, x2, x3, _, _, _, _⟩ := X.out
    obtain ⟨y0, y1, y2, y3, _, _, _, _⟩ := Y.out
    clear q
    go_wp2_with fail
    refine (U0.out _ E1.out).mono ?_
    rw [HU.out]
    rintro e w2 ⟨rfl, q⟩
    have E2 := Lib.hid (E1.out.trans q)
    have X := Lib.hid (X.out.ext q)
    have Y := Lib.hid (Y.out.ext q)
    obtain ⟨x0, x1, x2, x3, _, _, _, _⟩ := X.out
    obtain ⟨y0, y1, y2, y3, _, _, _, _⟩ := Y.out
    clear q
    go_wp2_with fail
    have sz2 : w.heap.size ≤ w2.heap.size := Below.size E2.out
    have lx := X.out.lt
    have ly := Y.out.lt
    go_region_law (first
      | (go_simp; go_at_call 41; refine (CM.out HU.out _ _ (by first | exact E2.out.trans (Ext.alloc _ _) | exact (E2.out.trans (Ext.alloc _ _)).trans (Ext.drew _) | exact (E2.out.trans (Ext.drew _)).trans (Ext.alloc _ _)) (by first | exact Kn.made _ w2 _ (by omega) | exact (Kn.made _ w2 _ (by omega)).ext (Ext.drew _) | exact Kn.made _ w2.drew _ (by show ¬ w2.heap.size < w.heap.size; omega))).mono ?_; rintro e w3 ⟨rfl, f3, z3⟩; have F3 := Lib.hid ((Fr.trans (Fr.of_ext (by first | exact E2.out.trans (Ext.alloc _ _) | exact (E2.out.trans (Ext.alloc _ _)).trans (Ext.drew _))) f3).toExt (fun k hk h => by omega)); clear f3 z3; dsimp only))
    all_goals
      go_wp2_with fail
      go_ret
      exact ⟨retB HF.out.symm, F3.out⟩
set_option maxRecDepth 100000 in
set_option maxHeartbeats 4000000 in
theorem implInstanceOf (t u : Tm) (v v' : Value) (S S' : Nat → Prop) (w : World) (ht : Tm.at S w t v) (hu : Tm.at S' w u v') :
    Calls Try.prog 14 #[v, v'] w fun e w' => e = .returned (.bool (instF t u)) ∧ Ext w w' := by
  have T0 := Lib.hid (fun w' (e' : Ext w w') => implTermValid t v S w' (Tm.at_ext e' ht))
  have U0 := Lib.hid (fun w' (e' : Ext w w') => implTermValid u v' S' w' (Tm.at_ext e' hu))
  have CM := Lib.hid (fun (h : validF u = true) (g : validF t = true) kb w' (e' : Ext w w') (hK : Km (fun b => b < w.heap.size) w' kb 0 known0) => implinstance _ u t known0 v' v (fun b => b < w.heap.size) w' kb 30 30 0 (Nat.le_refl _) (valid_shape h) (valid_shape g) (by have := valid_sz h; omega) (Tm.at_ext e' (bound2 (S' := S) hu)) (Tm.at_ext e' (bound2 (S' := S) ht)) hK)
  have hmm := @run_makeMap Try.prog
  obtain ⟨a, c, rfl⟩ := at_form ht
  obtain ⟨b, d, rfl⟩ := at_form hu
  clear ht hu
  cases hv : validF t
  · have HT := Lib.hid hv
    clear hv
    have HF : Hid (instF t u = false) := Lib.hid (by unfold instF; rw [HT.out]; rfl)
    go_enter Try.func14, Try.ntmps14
    go_wp2_with fail
    obtain ⟨w0, hW⟩ : ∃ W0, W0 = ((w.alloc (.cells #[.int .i64 t.kind, .int .i64 t.n, .string t.name, .slice a t.kids.length c] 29)).alloc (.cells #[.int .i64 u.kind, .int .i64 u.n, .string u.name, .slice b u.kids.length d] 29)) := ⟨_, rfl⟩
    rw [← hW]
    have X := Lib.hid (show BoxT w0 w.heap.size (.int .i64 t.kind) (.int .i64 t.n) (.string t.name) (.slice a t.kids.length c) by rw [hW]; exact (BoxT.new w _ _ _ _ 29 rfl).ext (Ext.alloc _ _))
    have Y := Lib.hid (show BoxT w0 (w.heap.size + 1) (.int .i64 u.kind) (.int .i64 u.n) (.string u.name) (.slice b u.kids.length d) by rw [hW]; exact BoxT.new _ _ _ _ _ 29 (by simp))
    have E0 : Hid (Ext w w0) := Lib.hid (by rw [hW]; exact (Ext.alloc _ _).trans (Ext.alloc _ _))
    clear hW
    refine (T0.out _ E0.out).mono ?_
    rw [HT.out]
    rintro e w1 ⟨rfl, q⟩
    have E1 := Lib.hid (E0.out.trans q)
    have X := Lib.hid (X.out.ext q)
    have Y := Lib.hid (Y.out.ext q)
    obtain ⟨x0, x1, x2, x3, _, _, _, _⟩ := X.out
    obtain ⟨y0, y1, y2, y3, _, _, _, _⟩ := Y.out
    clear q
    go_wp2_with fail
    go_ret
    exact ⟨retB HF.out.symm, E1.out⟩
  cases hw : validF u
  · have HT := Lib.hid hv
    have HU := Lib.hid hw
    clear hv hw
    have HF : Hid (instF t u = false) := Lib.hid (by unfold instF; rw [HT.out, HU.out]; rfl)
    go_enter Try.func14, Try.ntmps14
    go_wp2_with fail
    obtain ⟨w0, hW⟩ : ∃ W0, W0 = ((w.alloc (.cells #[.int .i64 t.kind, .int .i64 t.n, .string t.name, .slice a t.kids.length c] 29)).alloc (.cells #[.int .i64 u.kind, .int .i64 u.n, .string u.name, .slice b u.kids.length d] 29)) := ⟨_, rfl⟩
    rw [← hW]
    have X := Lib.hid (show BoxT w0 w.heap.size (.int .i64 t.kind) (.int .i64 t.n) (.string t.name) (.slice a t.kids.length c) by rw [hW]; exact (BoxT.new w _ _ _ _ 29 rfl).ext (Ext.alloc _ _))
    have Y := Lib.hid (show BoxT w0 (w.heap.size + 1) (.int .i64 u.kind) (.int .i64 u.n) (.string u.name) (.slice b u.kids.length d) by rw [hW]; exact BoxT.new _ _ _ _ _ 29 (by simp))
    have E0 : Hid (Ext w w0) := Lib.hid (by rw [hW]; exact (Ext.alloc _ _).trans (Ext.alloc _ _))
    clear hW
    refine (T0.out _ E0.out).mono ?_
    rw [HT.out]
    rintro e w1 ⟨rfl, q⟩
    have E1 := Lib.hid (E0.out.trans q)
    have X := Lib.hid (X.out.ext q)
    have Y := Lib.hid (Y.out.ext q)
    obtain ⟨x0, x1, x2, x3, _, _, _, _⟩ := X.out
    obtain ⟨y0, y1, y2, y3, _, _, _, _⟩ := Y.out
    clear q
    go_wp2_with fail
    refine (U0.out _ E1.out).mono ?_
    rw [HU.out]
    rintro e w2 ⟨rfl, q⟩
    have E2 := Lib.hid (E1.out.trans q)
    have X := Lib.hid (X.out.ext q)
    have Y := Lib.hid (Y.out.ext q)
    obtain ⟨x0, x1, x2, x3, _, _, _, _⟩ := X.out
    obtain ⟨y0, y1, y2, y3, _, _, _, _⟩ := Y.out
    clear q
    go_wp2_with fail
    go_ret
    exact ⟨retB HF.out.symm, E2.out⟩
  · have HT := Lib.hid hv
    have HU := Lib.hid hw
    clear hv hw
    have HF : Hid (instF t u = (matchF u t known0).1) := Lib.hid (by unfold instF; rw [HT.out, HU.out]; rfl)
    go_enter Try.func14, Try.ntmps14
    go_wp2_with fail
    obtain ⟨w0, hW⟩ : ∃ W0, W0 = ((w.alloc (.cells #[.int .i64 t.kind, .int .i64 t.n, .string t.name, .slice a t.kids.length c] 29)).alloc (.cells #[.int .i64 u.kind, .int .i64 u.n, .string u.name, .slice b u.kids.length d] 29)) := ⟨_, rfl⟩
    rw [← hW]
    have X := Lib.hid (show BoxT w0 w.heap.size (.int .i64 t.kind) (.int .i64 t.n) (.string t.name) (.slice a t.kids.length c) by rw [hW]; exact (BoxT.new w _ _ _ _ 29 rfl).ext (Ext.alloc _ _))
    have Y := Lib.hid (show BoxT w0 (w.heap.size + 1) (.int .i64 u.kind) (.int .i64 u.n) (.string u.name) (.slice b u.kids.length d) by rw [hW]; exact BoxT.new _ _ _ _ _ 29 (by simp))
    have E0 : Hid (Ext w w0) := Lib.hid (by rw [hW]; exact (Ext.alloc _ _).trans (Ext.alloc _ _))
    clear hW
    refine (T0.out _ E0.out).mono ?_
    rw [HT.out]
    rintro e w1 ⟨rfl, q⟩
    have E1 := Lib.hid (E0.out.trans q)
    have X := Lib.hid (X.out.ext q)
    have Y := Lib.hid (Y.out.ext q)
    obtain ⟨x0, x1, x2, x3, _, _, _, _⟩ := X.out
    obtain ⟨y0, y1, y2, y3, _, _, _, _⟩ := Y.out
    clear q
    go_wp2_with fail
    refine (U0.out _ E1.out).mono ?_
    rw [HU.out]
    rintro e w2 ⟨rfl, q⟩
    have E2 := Lib.hid (E1.out.trans q)
    have X := Lib.hid (X.out.ext q)
    have Y := Lib.hid (Y.out.ext q)
    obtain ⟨x0, x1, x2, x3, _, _, _, _⟩ := X.out
    obtain ⟨y0, y1, y2, y3, _, _, _, _⟩ := Y.out
    clear q
    go_wp2_with fail
    have sz2 : w.heap.size ≤ w2.heap.size := Below.size E2.out
    refine (CM.out HU.out HT.out _ _ (E2.out.trans (Ext.alloc _ _)) (Km.made _ w2 (by omega))).mono ?_
    rintro e w3 ⟨rfl, f3, z3⟩
    have F3 := Lib.hid (((Fr.of_ext (E2.out.trans (Ext.alloc _ _))).trans f3).toExt (fun k hk h => by omega))
    clear f3 z3
    go_wp2_with fail
    go_ret
    exact ⟨retB HF.out.symm, F3.out⟩

end Go.Proofs.Yteplfajhmpmklaa
