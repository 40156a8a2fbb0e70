/-
  Every argument that reads as data is a slice of terms, a clause or a slice of clauses of the mirror's.
-/
import Derived.Test.YtifklfnpaigdkaaGreatDoorRows
import Derived.Test.YtifklfnpaigdkaaGreatDoorClRep
import Derived.ProofKit
import Derived.Lib.SmallJoins
namespace Go.Proofs.YtifklfnpaigdkaaGreatDoor
open Go.RowKit
set_option linter.unusedVariables false

variable {H : Type} {enc : TypeId × Value → H} {w : World} {base : Nat} {spare : Nat → Bool} {held : Bool}

set_option maxRecDepth 100000 in
theorem lterms_of (fuel : Nat) (cs : List Value) (x : DataW H × List MemPlace) (h : DataW.trod enc Tryz.prog w base spare held fuel 22 cs = some x) :
    ∃ (ts : List Tm) (a : Option Addr) (cap : Nat), cs = [.slice a ts.length cap] ∧ Lt.sl (fun _ => True) w ts (.slice a ts.length cap) := by
  have hcl : Tryz.prog.cellsOf 24 = 4 := by kernel_rfl
  rcases DataW.trod_slice Tryz.underlying22 h with ⟨h3, _⟩ | ⟨a, len, cap, es, rest, m, hm, h3, _, hb, hlc, hcm, hel, hget, _, _⟩
  · exact ⟨[], none, 0, h3, none, 0, rfl, by simp, by omega, by simp, .inl rfl⟩
  · have hmax : cap ≤ 9223372036854775807 := hcm
    cases len with
    | zero => exact ⟨[], some a, cap, h3, some a, cap, rfl, by simp, hmax, by simp, .inl rfl⟩
    | succ len =>
      have h0 := hget 0 (by omega)
      rw [List.getElem?_eq_getElem (by omega)] at h0
      obtain ⟨cs0, hcs0, htr0⟩ := Option.bind_eq_some_iff.1 h0
      rw [hcl] at hcs0
      obtain ⟨_, hl0, hcell0⟩ := World.cells?_some hcs0
      have hsp : a = ⟨a.block, a.off, none⟩ := by
        have h00 := hcell0 0 (by omega)
        rw [List.getElem?_eq_getElem (by omega)] at h00
        have := spot_none h00
        simpa [Addr.add] using this
      obtain ⟨ts, ht1, ht2⟩ := lrow_of (a := a) (es := es) (n := m) hcl (fun cs x hx => lterm_of m cs x hx) (len + 1) 0 (fun i hi => by
        have := hget i hi
        rw [hcl] at this
        rw [← hsp, Nat.zero_add]
        exact this) (by omega)
      refine ⟨ts, some a, cap, by rw [ht1]; exact h3, some a, cap, rfl, ?_, hmax, ?_, .inr ⟨a.block, a.off, by rw [← hsp], trivial, ?_⟩⟩
      · rw [ht1]; exact hlc
      · rw [ht1]; omega
      · simpa using ht2
theorem lterms_of_trod {v : Value} {d : DataW H} {ps : List MemPlace} (hd : DataW.Trod enc Tryz.prog w base spare held 22 v d ps) :
    ∃ ts a cap, v.cells.toList = [.slice a ts.length cap] ∧ Lt.sl (fun _ => True) w ts (.slice a ts.length cap) := by
  obtain ⟨fuel, hf⟩ := hd
  exact lterms_of fuel _ _ hf
set_option maxRecDepth 100000 in
theorem lterms_arg {r : Reach} {b0 : Nat} {v : Value} {d : DataW H} {ps : List MemPlace} (hval : Value.okWide Tryz.prog w r b0 22 v) (hd : DataW.Trod enc Tryz.prog w base spare held 22 v d ps) :
    ∃ ts, Lt.sl (fun _ => True) w ts v := by
  obtain ⟨ts, a, cap, h1, h2⟩ := lterms_of_trod hd
  obtain ⟨a', len', cap', rfl⟩ := WideShapes.okWide_slice Tryz.underlying22 hval
  simp only [Value.cells, List.cons.injEq, and_true] at h1
  exact ⟨ts, by rw [h1]; exact h2⟩

set_option maxRecDepth 100000 in
theorem lclause_of (fuel : Nat) (cs : List Value) (x : DataW H × List MemPlace) (h : DataW.trod enc Tryz.prog w base spare held fuel 26 cs = some x) :
    ∃ (c : Cl) (a : Option Addr) (cap : Nat) (a' : Option Addr) (cap' : Nat), cs = [.int .i64 c.head.kind, .int .i64 c.head.n, .string c.head.name, .slice a c.head.kids.length cap, .slice a' c.body.length cap'] ∧
      c.head.name.size ≤ 9223372036854775807 ∧ Lt.sl (fun _ => True) w c.head.kids (.slice a c.head.kids.length cap) ∧ Lt.sl (fun _ => True) w c.body (.slice a' c.body.length cap') := by
  obtain ⟨y0, y1, n, rfl, hl, h0, h1⟩ := ChangeShapes.trod_struct2 Tryz.underlying26 h
  have hcl : Tryz.prog.cellsOf 26 = 5 := by kernel_rfl
  have e4 : Tryz.prog.cellsOf 24 = 4 := by kernel_rfl
  have e1 : Tryz.prog.cellsOf 22 = 1 := by kernel_rfl
  rw [hcl] at hl
  match cs, hl with
  | [c0, c1, c2, c3, c4], _ =>
    have f0 : DataW.trod enc Tryz.prog w base spare held n 24 [c0, c1, c2, c3] = some y0 := by simpa [e4] using h0
    have f1 : DataW.trod enc Tryz.prog w base spare held n 22 [c4] = some y1 := by simpa [e1] using h1
    obtain ⟨t, a, cap, q1, q2, q3⟩ := lterm_of n _ _ f0
    obtain ⟨ts, a', cap', q4, q5⟩ := lterms_of n _ _ f1
    simp only [List.cons.injEq, and_true] at q1 q4
    obtain ⟨rfl, rfl, rfl, rfl⟩ := q1
    subst q4
    exact ⟨⟨t, ts⟩, a, cap, a', cap', rfl, q2, q3, q5⟩
set_option maxRecDepth 100000 in
theorem lclause_arg {r : Reach} {b0 : Nat} {v : Value} {d : DataW H} {ps : List MemPlace} (hval : Value.okWide Tryz.prog w r b0 26 v) (hd : DataW.Trod enc Tryz.prog w base spare held 26 v d ps) :
    ∃ c, Lc.at (fun _ => True) w c v := by
  obtain ⟨fuel, hf⟩ := hd
  obtain ⟨cs, rfl, hsz⟩ := WideShapes.okWide_struct Tryz.underlying26 hval
  obtain ⟨c, a, cap, a', cap', h1, h2, h3, h4⟩ := lclause_of fuel _ _ hf
  refine ⟨c, _, _, ?_, Lt.at_iff.2 ⟨h2, _, rfl, h3⟩, h4⟩
  congr 1
  apply Array.toList_inj.1
  simpa [Value.cells] using h1

theorem lcrow_of {P : Program} {a : Addr} {es : List (DataW H × List MemPlace)} {n : Nat} {T : TypeId} (hc : P.cellsOf T = 5)
    (ih : ∀ (cs : List Value) (x : DataW H × List MemPlace), DataW.trod enc P w base spare held n T cs = some x →
      ∃ (c : Cl) (a : Option Addr) (cap : Nat) (a' : Option Addr) (cap' : Nat), cs = [.int .i64 c.head.kind, .int .i64 c.head.n, .string c.head.name, .slice a c.head.kids.length cap, .slice a' c.body.length cap'] ∧
        c.head.name.size ≤ 9223372036854775807 ∧ Lt.sl (fun _ => True) w c.head.kids (.slice a c.head.kids.length cap) ∧ Lt.sl (fun _ => True) w c.body (.slice a' c.body.length cap')) :
    ∀ (k m : Nat), (∀ i, i < k → (w.cells? base ((⟨a.block, a.off, none⟩ : Addr).add ((m + i) * 5)) 5).bind (DataW.trod enc P w base spare held n T) = es[m + i]?) → m + k ≤ es.length →
      ∃ cs : List Cl, cs.length = k ∧ Lc.row (fun _ => True) w a.block (a.off + m * 5) cs
  | 0, m, _, _ => ⟨[], rfl, trivial⟩
  | k + 1, m, h, hm => by
    have h0 := h 0 (by omega)
    simp only [Nat.add_zero] at h0
    rw [List.getElem?_eq_getElem (by omega)] at h0
    obtain ⟨cs, hcs, htr⟩ := Option.bind_eq_some_iff.1 h0
    obtain ⟨c, a1, cap1, a2, cap2, rfl, h1, h2, h3⟩ := ih cs _ htr
    obtain ⟨hb, hl, hcell⟩ := World.cells?_some hcs
    obtain ⟨ts, h4, h5⟩ := lcrow_of hc ih k (m + 1) (fun i hi => by
      have := h (i + 1) (by omega)
      rw [show m + 1 + i = m + (i + 1) by omega]
      exact this) (by omega)
    refine ⟨c :: ts, by simp [h4], ⟨Lt.cells_iff.2 ⟨_, ?_, ?_, ?_, ?_, h1, h2⟩, _, ?_, h3⟩, by rw [show a.off + m * 5 + 5 = a.off + (m + 1) * 5 by omega]; exact h5⟩
    · have := hcell 0 (by omega)
      simpa [addr_add] using this
    · have := hcell 1 (by omega)
      simpa [addr_add] using this
    · have := hcell 2 (by omega)
      simpa [addr_add] using this
    · have := hcell 3 (by omega)
      simpa [addr_add] using this
    · have := hcell 4 (by omega)
      simpa [addr_add] using this
set_option maxRecDepth 100000 in
theorem lclauses_of (fuel : Nat) (cs : List Value) (x : DataW H × List MemPlace) (h : DataW.trod enc Tryz.prog w base spare held fuel 37 cs = some x) :
    ∃ (ts : List Cl) (a : Option Addr) (cap : Nat), cs = [.slice a ts.length cap] ∧ Lc.sl (fun _ => True) w ts (.slice a ts.length cap) := by
  have hcl : Tryz.prog.cellsOf 26 = 5 := by kernel_rfl
  rcases DataW.trod_slice Tryz.underlying37 h with ⟨h3, _⟩ | ⟨a, len, cap, es, rest, m, hm, h3, _, hb, hlc, hcm, hel, hget, _, _⟩
  · exact ⟨[], none, 0, h3, none, 0, rfl, by simp, by omega, by simp, .inl rfl⟩
  · have hmax : cap ≤ 9223372036854775807 := hcm
    cases len with
    | zero => exact ⟨[], some a, cap, h3, some a, cap, rfl, by simp, hmax, by simp, .inl rfl⟩
    | succ len =>
      have h0 := hget 0 (by omega)
      rw [List.getElem?_eq_getElem (by omega)] at h0
      obtain ⟨cs0, hcs0, htr0⟩ := Option.bind_eq_some_iff.1 h0
      rw [hcl] at hcs0
      obtain ⟨_, hl0, hcell0⟩ := World.cells?_some hcs0
      have hsp : a = ⟨a.block, a.off, none⟩ := by
        have h00 := hcell0 0 (by omega)
        rw [List.getElem?_eq_getElem (by omega)] at h00
        have := spot_none h00
        simpa [Addr.add] using this
      obtain ⟨ts, ht1, ht2⟩ := lcrow_of (a := a) (es := es) (n := m) hcl (fun cs x hx => lclause_of m cs x hx) (len + 1) 0 (fun i hi => by
        have := hget i hi
        rw [hcl] at this
        rw [← hsp, Nat.zero_add]
        exact this) (by omega)
      refine ⟨ts, some a, cap, by rw [ht1]; exact h3, some a, cap, rfl, ?_, hmax, ?_, .inr ⟨a.block, a.off, by rw [← hsp], trivial, ?_⟩⟩
      · rw [ht1]; exact hlc
      · rw [ht1]; omega
      · simpa using ht2
set_option maxRecDepth 100000 in
theorem lclauses_arg {r : Reach} {b0 : Nat} {v : Value} {d : DataW H} {ps : List MemPlace} (hval : Value.okWide Tryz.prog w r b0 37 v) (hd : DataW.Trod enc Tryz.prog w base spare held 37 v d ps) :
    ∃ cs, Lc.sl (fun _ => True) w cs v := by
  obtain ⟨fuel, hf⟩ := hd
  obtain ⟨ts, a, cap, h1, h2⟩ := lclauses_of fuel _ _ hf
  obtain ⟨a', len', cap', rfl⟩ := WideShapes.okWide_slice Tryz.underlying37 hval
  simp only [Value.cells, List.cons.injEq, and_true] at h1
  exact ⟨ts, by rw [h1]; exact h2⟩

end Go.Proofs.YtifklfnpaigdkaaGreatDoor
