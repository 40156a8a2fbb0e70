/-
  What the mirror's szClause, toClause and eqClause return, and the equality of clauses on both sides.
-/
import Derived.Test.YtifklfnpaigdkaaGreatDoorClRep
import Derived.Test.YtifklfnpaigdkaaGreatDoorToTerm
import Derived.Test.YtifklfnpaigdkaaGreatDoorSame2
namespace Go.Proofs.YtifklfnpaigdkaaGreatDoor
open Go.RowKit
set_option linter.unusedVariables false

/-- letters, arguments and goals of a clause -/
def Cl.wt (c : Cl) : Nat := Tm.wt c.head + (c.body.length + Tm.wtL c.body)
def Cl.same (c d : Cl) : Bool := Tm.same c.head d.head && Tm.sameL c.body d.body
theorem csame_refl (c : Cl) : Cl.same c c = true := by unfold Cl.same; rw [same_refl, sameL_refl]; rfl

set_option maxHeartbeats 1000000 in
theorem lawszClause (c : Cl) (v : Value) (l : Nat) (S : Nat → Prop) (w : World) (hl : l ≤ 1048576) (ht : Lc.at S w c v) :
    Calls Tryz.prog 5 #[v, .int .i64 l] w fun e w' => e = .returned (.int .i64 (leftF (Cl.wt c) l)) ∧ Ext w w' := by
  obtain ⟨a, ca, b, cb, rfl, hH, hB⟩ := Lc.form ht
  have HZ := Lib.hid (fun w' (e' : Ext w w') => lawszTerm_any c.head _ l S w' hl (Lt.at_ext e' hH))
  have HS := Lib.hid (fun (l' : Nat) (h : l' ≤ 1048576) w' (e' : Ext w w') => lawszTermS _ c.body (Nat.le_refl _) _ l' S w' h (Lt.sl_ext e' hB))
  clear hH hB ht
  by_cases e1 : Tm.wt c.head ≤ l
  · have Y := Lib.hid (leftF_yes e1)
    by_cases e2 : c.body.length + Tm.wtL c.body ≤ l - Tm.wt c.head
    · have Y2 := Lib.hid (leftF_yes e2)
      have hf : Hid (leftF (Cl.wt c) l = ((l - Tm.wt c.head - (c.body.length + Tm.wtL c.body) : Nat) : Int)) := Lib.hid (by
        rw [leftF_yes (by unfold Cl.wt; omega)]; unfold Cl.wt; congr 1; omega)
      go_enter Tryz.func5, Tryz.ntmps5
      go_wp2_with fail
      refine (HZ.out _ (Ext.alloc _ _)).mono ?_
      rw [Y.out]
      rintro e w1 ⟨rfl, q⟩
      have c4 := q.cell (a := ⟨w.heap.size, 4, none⟩) (v := .slice b c.body.length cb) (by go_simp)
      go_wp2_with fail
      refine (HS.out (l - Tm.wt c.head) (by omega) _ ((Ext.alloc _ _).trans q)).mono ?_
      rw [Y2.out]
      rintro e w2 ⟨rfl, q2⟩
      go_wp2_with fail
      go_ret
      exact ⟨retI hf.out.symm, ((Ext.alloc _ _).trans q).trans q2⟩
    · have Y2 := Lib.hid (leftF_no e2)
      have hf : Hid (leftF (Cl.wt c) l = -1) := Lib.hid (by rw [leftF_no]; unfold Cl.wt; omega)
      go_enter Tryz.func5, Tryz.ntmps5
      go_wp2_with fail
      refine (HZ.out _ (Ext.alloc _ _)).mono ?_
      rw [Y.out]
      rintro e w1 ⟨rfl, q⟩
      have c4 := q.cell (a := ⟨w.heap.size, 4, none⟩) (v := .slice b c.body.length cb) (by go_simp)
      go_wp2_with fail
      refine (HS.out (l - Tm.wt c.head) (by omega) _ ((Ext.alloc _ _).trans q)).mono ?_
      rw [Y2.out]
      rintro e w2 ⟨rfl, q2⟩
      go_wp2_with fail
      go_ret
      exact ⟨retI hf.out.symm, ((Ext.alloc _ _).trans q).trans q2⟩
  · have Y := Lib.hid (leftF_no e1)
    have hf : Hid (leftF (Cl.wt c) l = -1) := Lib.hid (by rw [leftF_no]; unfold Cl.wt; omega)
    go_enter Tryz.func5, Tryz.ntmps5
    go_wp2_with fail
    refine (HZ.out _ (Ext.alloc _ _)).mono ?_
    rw [Y.out]
    rintro e w1 ⟨rfl, q⟩
    go_wp2_with fail
    go_ret
    exact ⟨retI hf.out.symm, (Ext.alloc _ _).trans q⟩

set_option maxHeartbeats 2000000 in
theorem lawstoClause (c : Cl) (v : Value) (S : Nat → Prop) (w : World) (hl : Cl.wt c ≤ 1048576) (ht : Lc.at S w c v) :
    Calls Tryz.prog 7 #[v] w fun e w' => ∃ v', e = .returned v' ∧ Cl.at (fun b => w.heap.size ≤ b) w' c v' ∧ Ext w w' := by
  obtain ⟨a, ca, b, cb, rfl, hH, hB⟩ := Lc.form ht
  have hl' := hl
  unfold Cl.wt at hl'
  have HT := Lib.hid (fun w' (e' : Ext w w') => lawstoTerm_any c.head _ S w' (by omega) (Lt.at_ext e' hH))
  have HB := Lib.hid (Lt.sl_bound hB)
  have HS := Lib.hid (fun w' (g : Agree (fun b => S b ∧ b < w.heap.size) w w') => lawstoTermS _ c.body (Nat.le_refl _) _ (fun b => S b ∧ b < w.heap.size) w' (by omega) (Lt.sl_mono (fun _ h => h) g HB.out))
  clear hH hB ht hl hl' HB
  go_enter Tryz.func7, Tryz.ntmps7
  go_wp2_with fail
  refine (HT.out _ (((Ext.alloc _ _).trans (Ext.alloc _ _)).trans (Ext.alloc _ _))).mono ?_
  rintro e w1 ⟨v1, rfl, hv1, q⟩
  have hz : w.heap.size + 3 ≤ w1.heap.size := by have := Below.size q; simp at this; omega
  have c4 := q.cell (a := ⟨w.heap.size, 4, none⟩) (v := .slice b c.body.length cb) (by go_simp)
  have O : BoxCZ w1 (w.heap.size + 2) := BoxC.ext (BoxC.new _ _ _ _ _ _ 33 (by simp)) q
  have R : BoxCZ w1 (w.heap.size + 1) := BoxC.ext ((BoxC.new _ _ _ _ _ _ 33 (by simp)).ext (Ext.alloc _ _)) q
  have E := Lib.hid ((((Ext.alloc _ _).trans (Ext.alloc _ _)).trans (Ext.alloc _ _)).trans q)
  obtain ⟨a', ca', rfl⟩ := at_form hv1
  have V := Lib.hid hv1
  clear q hv1
  have O' := Lib.hid O
  have R' := Lib.hid R
  obtain ⟨o0, o1, o2, o3, o4, f0, f1, f2, f3, f4⟩ := O
  clear R
  go_wp2_with fail
  refine (HS.out _ ((Agree.of_ext E.out).trans (Agree.trans (Agree.trans (Agree.trans (Agree.setCell ?_) (Agree.setCell ?_)) (Agree.setCell ?_)) (Agree.setCell ?_)))).mono ?_
  · exact fun h => by have := h.2; simp at this; omega
  · exact fun h => by have := h.2; simp at this; omega
  · exact fun h => by have := h.2; simp at this; omega
  · exact fun h => by have := h.2; simp at this; omega
  rintro e w2 ⟨v2, rfl, hv2, q⟩
  have O := (O'.out.setHead (.int .i64 c.head.kind) (.int .i64 c.head.n) (.string c.head.name) (.slice a' c.head.kids.length ca')).ext q
  have g := set4_grown w1 (w.heap.size + 2) (.int .i64 c.head.kind) (.int .i64 c.head.n) (.string c.head.name) (.slice a' c.head.kids.length ca')
  have f : Fr (fun b => b = w.heap.size + 2) w1 w2 := (Fr.of_grown g (fun k e => by cases e; rfl)).trans (Fr.of_ext q)
  have R := R'.out.fr f (by omega)
  have hz2 := f.size
  have hz3 : w.heap.size + 3 ≤ w2.heap.size := by omega
  have V2 := Lib.hid (Tm.sl_mono (S' := fun b => w1.heap.size ≤ b) (fun b hb => by simpa using hb) (Agree.refl _) hv2)
  obtain ⟨a2, ca2, rfl, _⟩ := hv2
  clear q g O' R' o0 o1 o2 o3 o4 f0 f1 f2 f3 f4 hz2
  have R' := Lib.hid R
  have F := Lib.hid f
  clear f
  obtain ⟨o0, o1, o2, o3, o4, f0, f1, f2, f3, f4⟩ := O
  obtain ⟨r0, r1, r2, r3, r4, k0, k1, k2, k3, k4⟩ := R
  go_wp2_with fail
  refine ret5_set (p := 2) (T := 33) (by kernel_rfl) (fun _ => by kernel_rfl) (fun _ => by kernel_rfl) rfl rfl (R'.out.fr (Fr.setCell (M := fun b => b = w.heap.size + 2) w2 rfl) (by omega)) ?_
  intro X hX
  have f : Fr (fun b => b = w.heap.size + 1 ∨ b = w.heap.size + 2) w2 X := (Fr.setCell (M := fun b => b = w.heap.size + 1 ∨ b = w.heap.size + 2) w2 (.inr rfl)).trans (Fr.of_grown hX (fun k e => by cases e; exact .inl rfl))
  have f2 : Fr (fun b => b = w.heap.size + 1 ∨ b = w.heap.size + 2) w1 X := (F.out.mono (fun b _ h => .inr h)).trans f
  refine ⟨_, rfl, ⟨_, _, rfl, ?_, ?_⟩, ?_⟩
  · refine Tm.at_mono (S := fun b => w.heap.size + 3 ≤ b) (fun b hb => by omega) (fun b o v hb hc => f2.cell (by omega) hc) (Tm.at_mono (fun b hb => by simpa using hb) (Agree.refl _) V.out)
  · exact Tm.sl_mono (fun b hb => by omega) (fun b o v hb hc => f.cell (by omega) hc) V2.out
  · exact ((Fr.of_ext E.out).trans f2).toExt (fun k hk h => by omega)

set_option maxHeartbeats 1000000 in
theorem lawseqClause (c d : Cl) (v v' : Value) (S S' : Nat → Prop) (w : World) (hc : Cl.at S w c v) (hd : Cl.at S' w d v') :
    Calls Tryz.prog 9 #[v, v'] w fun e w' => e = .returned (.bool (Cl.same c d)) ∧ Ext w w' := by
  obtain ⟨a, ca, b, cb, rfl, hH, hB⟩ := Cl.form hc
  obtain ⟨a', ca', b', cb', rfl, hH', hB'⟩ := Cl.form hd
  have HT := Lib.hid (fun w' (e' : Ext w w') => lawseqTerm_any c.head d.head _ _ S S' w' (Tm.at_ext e' hH) (Tm.at_ext e' hH'))
  have HS := Lib.hid (fun w' (e' : Ext w w') => lawseqTermS _ c.body d.body (Nat.le_refl _) _ _ S S' w' (Tm.sl_ext e' hB) (Tm.sl_ext e' hB'))
  clear hH hB hH' hB' hc hd
  cases h1 : Tm.same c.head d.head
  · have hf : Hid (Cl.same c d = false) := Lib.hid (by unfold Cl.same; rw [h1]; rfl)
    go_enter Tryz.func9, Tryz.ntmps9
    go_wp2_with fail
    refine (HT.out _ ((Ext.alloc _ _).trans (Ext.alloc _ _))).mono ?_
    rw [h1]
    rintro e w1 ⟨rfl, q⟩
    go_wp2_with fail
    go_ret
    exact ⟨retB hf.out.symm, ((Ext.alloc _ _).trans (Ext.alloc _ _)).trans q⟩
  · have hf : Hid (Cl.same c d = Tm.sameL c.body d.body) := Lib.hid (by unfold Cl.same; rw [h1]; rfl)
    go_enter Tryz.func9, Tryz.ntmps9
    go_wp2_with fail
    refine (HT.out _ ((Ext.alloc _ _).trans (Ext.alloc _ _))).mono ?_
    rw [h1]
    rintro e w1 ⟨rfl, q⟩
    have c4 := q.cell (a := ⟨w.heap.size, 4, none⟩) (v := .slice b c.body.length cb) (by go_simp)
    have d4 := q.cell (a := ⟨w.heap.size + 1, 4, none⟩) (v := .slice b' d.body.length cb') (by go_simp)
    clear h1
    go_wp2_with fail
    refine (HS.out _ (((Ext.alloc _ _).trans (Ext.alloc _ _)).trans q)).mono ?_
    rintro e w2 ⟨rfl, q2⟩
    cases h2 : Tm.sameL c.body d.body
    all_goals
      go_wp2_with fail
      go_ret
      exact ⟨retB (by rw [hf.out, h2]), (((Ext.alloc _ _).trans (Ext.alloc _ _)).trans q).trans q2⟩



end Go.Proofs.YtifklfnpaigdkaaGreatDoor
