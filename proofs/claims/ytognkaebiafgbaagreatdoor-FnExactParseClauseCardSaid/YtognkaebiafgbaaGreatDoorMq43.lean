/-
  A law's marks in one clause that shares nothing.
-/
import Derived.Deep.CutBlock
import Derived.Test.YtognkaebiafgbaaGreatDoorMq37
import Derived.Test.YtognkaebiafgbaaGreatDoorMq22
import Derived.Test.YtognkaebiafgbaaGreatDoorMq39
namespace Go.Proofs.YtognkaebiafgbaaGreatDoor
open Go.RowKit
set_option linter.unusedVariables false
def ClM (us ts : List Tm) (c : Cl) (v : Value) (lo hi : Nat) (w : World) : Prop := ∃ a ca b cb m, v = .agg #[.int .i64 c.head.kind, .int .i64 c.head.n, .string c.head.name, .slice a c.head.kids.length ca, .slice b c.body.length cb] ∧
  OwnS (fun k => lo ≤ k ∧ k < m) us (.slice a c.head.kids.length ca) w ∧ OwnS (fun k => m ≤ k ∧ k < hi) ts (.slice b c.body.length cb) w ∧ lo ≤ m ∧ m ≤ hi
theorem ClOw.rows {c : Cl} {v : Value} {w0 w : World} (h : ClOw c v w0 w) : ClM c.head.kids c.body c v w0.heap.size w.heap.size w := by
  obtain ⟨a, ca, b, cb, m, h1, h2, h3, h4, h5⟩ := h
  exact ⟨a, ca, b, cb, m, h1, own_kids h2, h3, h4, h5⟩
theorem ClM.fr {us ts : List Tm} {c : Cl} {v : Value} {lo hi : Nat} {w w' : World} {M : Nat → Prop} (h : ClM us ts c v lo hi w) (f : Fr M w w') (hM : ∀ k, lo ≤ k → k < hi → ¬ M k) : ClM us ts c v lo hi w' := by
  obtain ⟨a, ca, b, cb, m, h1, h2, h3, h4, h5⟩ := h
  exact ⟨a, ca, b, cb, m, h1, h2.mono (fun k hk => hk) f (fun k hk => hM k hk.1 (by have := hk.2; omega)), h3.mono (fun k hk => hk) f (fun k hk => hM k (by have := hk.1; omega) hk.2), h4, h5⟩
theorem ClM.ext {us ts : List Tm} {c : Cl} {v : Value} {lo hi : Nat} {w w' : World} (h : ClM us ts c v lo hi w) (e : Ext w w') : ClM us ts c v lo hi w' := h.fr (M := fun _ => False) (Fr.of_ext e) (fun _ _ _ h => h)
theorem ClM.form {us ts : List Tm} {c : Cl} {v : Value} {lo hi : Nat} {w : World} (h : ClM us ts c v lo hi w) : ∃ a ca b cb, v = .agg #[.int .i64 c.head.kind, .int .i64 c.head.n, .string c.head.name, .slice a c.head.kids.length ca, .slice b c.body.length cb] := by
  obtain ⟨a, ca, b, cb, m, rfl, _⟩ := h
  exact ⟨a, ca, b, cb, rfl⟩
theorem ClM.at {c : Cl} {v : Value} {lo hi : Nat} {w : World} (h : ClM c.head.kids c.body c v lo hi w) (h1 : c.head.name.size ≤ 1048576) (h2 : c.head.kids.length ≤ 1048576) (h3 : c.body.length ≤ 1048576) : Cl.at (fun k => k < hi) w c v := by
  obtain ⟨a, ca, b, cb, m, rfl, q1, q2, q3, q4⟩ := h
  exact ⟨_, _, rfl, Tm.at_mono (fun k hk => by have := hk.2; omega) (Agree.refl _) (own_at q1 h1 h2), Tm.sl_mono (fun k hk => hk.2) (Agree.refl _) (q2.app.sl h3)⟩
def Cl.mk3 (c : Cl) : Nat := 3 * Tm.szL c.head.kids + 3 * Tm.szL c.body
set_option maxRecDepth 100000 in
set_option maxHeartbeats 2000000 in
theorem lawsmarkClause (c : Cl) (v : Value) (lo hi : Nat) (w : World) (k : Nat) (hh : hi ≤ w.heap.size) (hk : k + Cl.mk3 c < 9000000) (ho : ClM c.head.kids c.body c v lo hi w) :
    Calls Tryz.prog 50 #[v, .int .i64 k] w fun e w' => e = .returned (.int .i64 (k + Cl.mk3 c : Nat)) ∧ ClM (markL c.head.kids k) (markL c.body (k + 3 * Tm.szL c.head.kids)) c v lo hi w' ∧ Fr (fun b => lo ≤ b ∧ b < hi) w w' := by
  obtain ⟨a, ca, b, cb, m, rfl, h1, h2, h3, h4⟩ := ho
  have H1 := Lib.hid h1
  have H2 := Lib.hid h2
  unfold Cl.mk3 at hk
  have HK := Lib.hid hk
  have HB := Lib.hid (BoxC.new w (.int .i64 c.head.kind) (.int .i64 c.head.n) (.string c.head.name) (.slice a c.head.kids.length ca) (.slice b c.body.length cb) 27 rfl)
  have EA := Lib.hid (Ext.alloc w (.cells #[.int .i64 c.head.kind, .int .i64 c.head.n, .string c.head.name, .slice a c.head.kids.length ca, .slice b c.body.length cb] 27))
  clear h1 h2 hk
  go_enter Tryz.func50, Tryz.ntmps50
  go_upto_region 1 with (fail)
  obtain ⟨wa, hwa⟩ : ∃ z, z = w.alloc (.cells #[.int .i64 c.head.kind, .int .i64 c.head.n, .string c.head.name, .slice a c.head.kids.length ca, .slice b c.body.length cb] 27) := ⟨_, rfl⟩
  rw [← hwa] at HB EA ⊢
  clear hwa
  have bb := HB.out
  obtain ⟨c0, c1, c2, c3, c4, _, _, _, _, _⟩ := bb
  have la := HB.out.lt
  go_wp2_with fail
  refine (lawsmarkTerm c.head a ca (fun k => lo ≤ k ∧ k < m) wa k (by have := HK.out; omega) (H1.out.ext EA.out)).mono ?_
  rintro e w1 ⟨rfl, q1, q2⟩
  have Q1 := Lib.hid q1
  have Q2 := Lib.hid q2
  have B1 := HB.out.fr q2 (by omega)
  obtain ⟨d0, d1, d2, d3, d4, _, _, _, _, _⟩ := B1
  have s1 := q2.size
  clear q1 q2 c0 c1 c2 c3 c4
  have O2 := Lib.hid ((H2.out.ext EA.out).mono (F' := fun k => m ≤ k ∧ k < hi) (fun b hb => hb) Q2.out (fun b hb h => by have h1 := hb.1; have h2 := h.2; omega))
  go_wp2_with fail
  refine (lawsmarkTermS _ c.body (Nat.le_refl _) (fun k => m ≤ k ∧ k < hi) _ w1 (k + 3 * Tm.szL c.head.kids) (by have := HK.out; omega) O2.out).mono ?_
  rintro e w2 ⟨rfl, q3, q4⟩
  have Q3 := Lib.hid q3
  have Q4 := Lib.hid q4
  have s2 := q4.size
  clear q3 q4
  go_wp2_with fail
  go_ret
  have sa := Below.size EA.out
  refine ⟨by rw [show ((k + Cl.mk3 c : Nat) : Int) = (k : Int) + 3 * (Tm.szL c.head.kids : Int) + 3 * (Tm.szL c.body : Int) by unfold Cl.mk3; omega]; rfl, ⟨a, ca, b, cb, m, rfl, Q1.out.mono (fun b hb => hb) Q4.out (fun b hb h => by have h1 := hb.2; have h2 := h.1; omega), Q3.out, h3, h4⟩, ?_⟩
  exact ((Fr.of_ext (M := fun b => lo ≤ b ∧ b < hi) EA.out).trans (Q2.out.mono (fun k _ h => ⟨h.1, by have := h.2; omega⟩))).trans (Q4.out.mono (fun k _ h => ⟨by have := h.1; omega, h.2⟩))
set_option maxRecDepth 100000 in
set_option maxHeartbeats 2000000 in
theorem lawsheldClause (c : Cl) (v : Value) (lo hi : Nat) (w : World) (k : Nat) (hk : k + Cl.mk3 c < 9000000) (hl : c.head.kids.length ≤ 1048576) (hl2 : c.body.length ≤ 1048576) (ho : ClM (markL c.head.kids k) (markL c.body (k + 3 * Tm.szL c.head.kids)) c v lo hi w) :
    Calls Tryz.prog 51 #[v, .int .i64 k] w fun e w' => e = .returned (.int .i64 (k + Cl.mk3 c : Nat)) ∧ Ext w w' := by
  obtain ⟨a, ca, b, cb, m, rfl, h1, h2, h3, h4⟩ := ho
  have H1 := Lib.hid h1
  have hsl : Hid (Tm.sl (fun k => m ≤ k ∧ k < hi) w (markL c.body (k + 3 * Tm.szL c.head.kids)) (.slice b c.body.length cb)) := Lib.hid (h2.app.sl (by rw [markL_len]; exact hl2))
  unfold Cl.mk3 at hk
  have HK := Lib.hid hk
  have HB := Lib.hid (BoxC.new w (.int .i64 c.head.kind) (.int .i64 c.head.n) (.string c.head.name) (.slice a c.head.kids.length ca) (.slice b c.body.length cb) 27 rfl)
  have EA := Lib.hid (Ext.alloc w (.cells #[.int .i64 c.head.kind, .int .i64 c.head.n, .string c.head.name, .slice a c.head.kids.length ca, .slice b c.body.length cb] 27))
  clear h1 h2 hk
  go_enter Tryz.func51, Tryz.ntmps51
  go_upto_region 1 with (fail)
  obtain ⟨wa, hwa⟩ : ∃ z, z = w.alloc (.cells #[.int .i64 c.head.kind, .int .i64 c.head.n, .string c.head.name, .slice a c.head.kids.length ca, .slice b c.body.length cb] 27) := ⟨_, rfl⟩
  rw [← hwa] at HB EA ⊢
  clear hwa
  have bb := HB.out
  obtain ⟨c0, c1, c2, c3, c4, _, _, _, _, _⟩ := bb
  go_wp2_with fail
  refine (lawsheldTerm c.head a ca (fun k => lo ≤ k ∧ k < m) wa k (by have := HK.out; omega) hl (H1.out.ext EA.out)).mono ?_
  rintro e w1 ⟨rfl, q1⟩
  have E1 := Lib.hid (EA.out.trans q1)
  have B1 := HB.out.ext q1
  obtain ⟨d0, d1, d2, d3, d4, _, _, _, _, _⟩ := B1
  clear q1 c0 c1 c2 c3 c4
  have hn1 : ¬ ((k + 3 * Tm.szL c.head.kids : Nat) : Int) < 0 := by omega
  go_wp2_with fail
  refine (lawsheldTermS _ c.body (Nat.le_refl _) _ _ w1 (k + 3 * Tm.szL c.head.kids) (by have := HK.out; omega) (Tm.sl_ext E1.out hsl.out)).mono ?_
  rintro e w2 ⟨rfl, q2⟩
  have E2 := Lib.hid (E1.out.trans q2)
  clear q2
  have hn2 : ¬ ((k + 3 * Tm.szL c.head.kids + 3 * Tm.szL c.body : Nat) : Int) < 0 := by omega
  go_wp2_with fail
  go_ret
  exact ⟨by rw [show ((k + Cl.mk3 c : Nat) : Int) = (k : Int) + 3 * (Tm.szL c.head.kids : Int) + 3 * (Tm.szL c.body : Int) by unfold Cl.mk3; omega]; rfl, E2.out⟩
end Go.Proofs.YtognkaebiafgbaaGreatDoor

namespace Go.Proofs.YtognkaebiafgbaaGreatDoor
open Go.RowKit
set_option linter.unusedVariables false
theorem val_small {t : Tm} (hv : validF t = true) : Tm.sz t ≤ 120 ∧ t.name.size ≤ 1048576 ∧ t.kids.length ≤ 1048576 := by
  have h2 := (valid_parts hv).2
  have h1 := (valid_parts hv).1
  obtain ⟨k, n, nm, ks⟩ := t
  have hl : ks.length ≤ 4 := by
    rcases shape_own h1 with ⟨_, _, h⟩ | ⟨_, _, h⟩ | ⟨rfl, _⟩
    · rw [h]; decide
    · rw [h]; decide
    · exact (shape_name h1).2
  refine ⟨h2, ?_, by simp only [Tm.kids]; omega⟩
  simp only [Tm.name]
  rcases shape_own h1 with ⟨_, h, _⟩ | ⟨_, h, _⟩ | ⟨rfl, _⟩
  · rw [← bl_len, h]; decide
  · rw [← bl_len, h]; decide
  · have := (name_len (shape_name h1).1).2
    rw [bl_len] at this
    omega
theorem szL_of : ∀ (ts : List Tm), (∀ (j : Nat) (t : Tm), ts[j]? = some t → Tm.sz t ≤ 120) → Tm.szL ts ≤ ts.length * 120
  | [], _ => by simp [Tm.szL]
  | t :: ts, h => by
    have h1 := h 0 t rfl
    have h2 := szL_of ts (fun j x hx => h (j + 1) x (by simpa using hx))
    simp only [Tm.szL, List.length_cons, Nat.add_mul, Nat.one_mul]
    omega
theorem cl_small {c : Cl} (hc : clValidF c = true) : Cl.mk3 c ≤ 6000 ∧ c.head.name.size ≤ 1048576 ∧ c.head.kids.length ≤ 1048576 ∧ c.body.length ≤ 1048576 := by
  obtain ⟨h1, h2, h3⟩ := cl_parts hc
  obtain ⟨a1, a2, a3⟩ := val_small h1
  have h4 := szL_of c.body (fun j t ht => (val_small (h3 j t ht)).1)
  refine ⟨?_, a2, a3, by omega⟩
  unfold Cl.mk3
  have h5 : Tm.szL c.head.kids ≤ 120 := by
    obtain ⟨⟨k, n, nm, ks⟩, b⟩ := c
    simp only [Tm.sz] at a1
    simp only [Tm.kids]
    omega
  omega
theorem parse_small (s : ByteArray) : Cl.mk3 (parseCT s) ≤ 6000 ∧ (parseCT s).head.name.size ≤ 1048576 ∧ (parseCT s).head.kids.length ≤ 1048576 ∧ (parseCT s).body.length ≤ 1048576 := by
  cases e : parseC s with
  | none =>
    rw [(parseC_no e).1]
    exact ⟨by decide, by decide, by decide, by decide⟩
  | some c =>
    have e2 : parseCT s = c := by unfold parseCT; rw [e]; rfl
    rw [e2]
    unfold parseC at e
    split at e
    · exact cl_small (parseClO_spec e).1
    · cases e
end Go.Proofs.YtognkaebiafgbaaGreatDoor
