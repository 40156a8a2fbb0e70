/-
  How the mirror's terms (laws.Term), which come in as arguments, lie in memory; and that every argument that reads as data is such a term.
-/
import Derived.Test.YtifklfnpaigdkaaDoorRows
import Derived.Test.YtifklfnpaigdkaaDoorRep
import Derived.ProofKit
import Derived.Lib.SmallJoins
namespace Go.Proofs.YtifklfnpaigdkaaDoor
open Go.RowKit
set_option linter.unusedVariables false

mutual
def Lt.cells (S : Nat → Prop) (w : World) (b off : Nat) : Tm → Prop
  | .mk k n s ks => w.cell? ⟨b, off, none⟩ = some (.int .i64 k) ∧ w.cell? ⟨b, off + 1, none⟩ = some (.int .i64 n) ∧ w.cell? ⟨b, off + 2, none⟩ = some (.string s) ∧ s.size ≤ 9223372036854775807 ∧
      ∃ a cap, w.cell? ⟨b, off + 3, none⟩ = some (.slice a ks.length cap) ∧ ks.length ≤ cap ∧ cap ≤ 9223372036854775807 ∧ ks.length ≤ 9223372036854775807 ∧
        (ks = [] ∨ ∃ b' off', a = some ⟨b', off', none⟩ ∧ S b' ∧ Lt.row S w b' off' ks)
def Lt.row (S : Nat → Prop) (w : World) (b off : Nat) : List Tm → Prop
  | [] => True
  | t :: ts => Lt.cells S w b off t ∧ Lt.row S w b (off + 4) ts
end

/-- a slice of terms -/
def Lt.sl (S : Nat → Prop) (w : World) (ts : List Tm) (v : Value) : Prop :=
  ∃ a cap, v = .slice a ts.length cap ∧ ts.length ≤ cap ∧ cap ≤ 9223372036854775807 ∧ ts.length ≤ 9223372036854775807 ∧
    (ts = [] ∨ ∃ b off, a = some ⟨b, off, none⟩ ∧ S b ∧ Lt.row S w b off ts)
/-- a term by value -/
def Lt.at (S : Nat → Prop) (w : World) : Tm → Value → Prop
  | .mk k n s ks, v => s.size ≤ 9223372036854775807 ∧ ∃ sv, v = .agg #[.int .i64 k, .int .i64 n, .string s, sv] ∧ Lt.sl S w ks sv

theorem Lt.cells_iff {S : Nat → Prop} {w : World} {b off : Nat} {t : Tm} : Lt.cells S w b off t ↔
    ∃ sv, w.cell? ⟨b, off, none⟩ = some (.int .i64 t.kind) ∧ w.cell? ⟨b, off + 1, none⟩ = some (.int .i64 t.n) ∧ w.cell? ⟨b, off + 2, none⟩ = some (.string t.name) ∧
      w.cell? ⟨b, off + 3, none⟩ = some sv ∧ t.name.size ≤ 9223372036854775807 ∧ Lt.sl S w t.kids sv := by
  obtain ⟨k, n, s, ks⟩ := t
  simp only [Lt.cells, Tm.kind, Tm.n, Tm.name, Tm.kids, Lt.sl]
  constructor
  · rintro ⟨h1, h2, h3, h4, a, cap, h5, h6⟩
    exact ⟨_, h1, h2, h3, h5, h4, a, cap, rfl, h6⟩
  · rintro ⟨sv, h1, h2, h3, h5, h4, a, cap, rfl, h6⟩
    exact ⟨h1, h2, h3, h4, a, cap, h5, h6⟩
theorem Lt.at_iff {S : Nat → Prop} {w : World} {t : Tm} {v : Value} : Lt.at S w t v ↔
    t.name.size ≤ 9223372036854775807 ∧ ∃ sv, v = .agg #[.int .i64 t.kind, .int .i64 t.n, .string t.name, sv] ∧ Lt.sl S w t.kids sv := by
  obtain ⟨k, n, s, ks⟩ := t
  exact Iff.rfl

mutual
theorem Lt.cells_mono {S S' : Nat → Prop} {w w' : World} (hS : ∀ b, S b → S' b) (ha : Agree S w w') {b off b' : Nat} (hb : ∀ o v, w.cell? ⟨b, o, none⟩ = some v → w'.cell? ⟨b, o, none⟩ = some v) :
    ∀ (t : Tm), Lt.cells S w b off t → Lt.cells S' w' b off t
  | .mk k n s ks, h => by
    simp only [Lt.cells] at h ⊢
    obtain ⟨h1, h2, h3, h4, a, cap, h5, h6, h7, h8, h9⟩ := h
    refine ⟨hb _ _ h1, hb _ _ h2, hb _ _ h3, h4, a, cap, hb _ _ h5, h6, h7, h8, ?_⟩
    rcases h9 with h9 | ⟨b1, off1, h9, h10, h11⟩
    · exact .inl h9
    · exact .inr ⟨b1, off1, h9, hS _ h10, Lt.row_mono hS ha (b' := 0) (fun o v => ha _ o v h10) ks h11⟩
theorem Lt.row_mono {S S' : Nat → Prop} {w w' : World} (hS : ∀ b, S b → S' b) (ha : Agree S w w') {b off b' : Nat} (hb : ∀ o v, w.cell? ⟨b, o, none⟩ = some v → w'.cell? ⟨b, o, none⟩ = some v) :
    ∀ (ts : List Tm), Lt.row S w b off ts → Lt.row S' w' b off ts
  | [], _ => by simp [Lt.row]
  | t :: ts, h => by
    simp only [Lt.row] at h ⊢
    exact ⟨Lt.cells_mono hS ha (b' := 0) hb t h.1, Lt.row_mono hS ha (b' := 0) hb ts h.2⟩
end
theorem Lt.sl_mono {S S' : Nat → Prop} {w w' : World} (hS : ∀ b, S b → S' b) (ha : Agree S w w') {ts : List Tm} {v : Value} (h : Lt.sl S w ts v) : Lt.sl S' w' ts v := by
  obtain ⟨a, cap, h1, h2, h3, h4, h5⟩ := h
  refine ⟨a, cap, h1, h2, h3, h4, ?_⟩
  rcases h5 with h5 | ⟨b, off, h5, h6, h7⟩
  · exact .inl h5
  · exact .inr ⟨b, off, h5, hS _ h6, Lt.row_mono hS ha (b' := 0) (fun o v => ha _ o v h6) ts h7⟩
theorem Lt.at_mono {S S' : Nat → Prop} {w w' : World} (hS : ∀ b, S b → S' b) (ha : Agree S w w') {t : Tm} {v : Value} (h : Lt.at S w t v) : Lt.at S' w' t v := by
  rw [Lt.at_iff] at h ⊢
  obtain ⟨h1, sv, h2, h3⟩ := h
  exact ⟨h1, sv, h2, Lt.sl_mono hS ha h3⟩
theorem Lt.at_ext {S : Nat → Prop} {w w' : World} (e : Ext w w') {t : Tm} {v : Value} (h : Lt.at S w t v) : Lt.at S w' t v := Lt.at_mono (fun _ h => h) (Agree.of_ext e) h
theorem Lt.sl_ext {S : Nat → Prop} {w w' : World} (e : Ext w w') {ts : List Tm} {v : Value} (h : Lt.sl S w ts v) : Lt.sl S w' ts v := Lt.sl_mono (fun _ h => h) (Agree.of_ext e) h
theorem Lt.row_get {S : Nat → Prop} {w : World} {b : Nat} : ∀ {ts : List Tm} {off : Nat}, Lt.row S w b off ts → ∀ (i : Nat) (t : Tm), ts[i]? = some t → Lt.cells S w b (off + i * 4) t
  | [], _, _, i, t, h => by simp at h
  | t0 :: ts, off, h, 0, t, ht => by
    simp at ht; subst ht
    simp only [Lt.row] at h
    simpa using h.1
  | t0 :: ts, off, h, i + 1, t, ht => by
    simp only [Lt.row] at h
    have := Lt.row_get h.2 i t (by simpa using ht)
    rw [show off + (i + 1) * 4 = off + 4 + i * 4 by omega]
    exact this
/-- what a read of one element gives -/
theorem Lt.at_of_cells {S : Nat → Prop} {w : World} {b off : Nat} {t : Tm} (h : Lt.cells S w b off t) :
    ∃ a cap, w.cell? ⟨b, off, none⟩ = some (.int .i64 t.kind) ∧ w.cell? ⟨b, off + 1, none⟩ = some (.int .i64 t.n) ∧ w.cell? ⟨b, off + 2, none⟩ = some (.string t.name) ∧
      w.cell? ⟨b, off + 3, none⟩ = some (.slice a t.kids.length cap) ∧ Lt.at S w t (.agg #[.int .i64 t.kind, .int .i64 t.n, .string t.name, .slice a t.kids.length cap]) := by
  obtain ⟨sv, h1, h2, h3, h4, h5, a, cap, rfl, h6⟩ := Lt.cells_iff.1 h
  exact ⟨a, cap, h1, h2, h3, h4, Lt.at_iff.2 ⟨h5, _, rfl, a, cap, rfl, h6⟩⟩


variable {H : Type} {enc : TypeId × Value → H} {w : World} {base : Nat} {spare : Nat → Bool} {held : Bool}

theorem addr_add (b off n : Nat) : (⟨b, off, none⟩ : Addr).add n = ⟨b, off + n, none⟩ := by
  unfold Addr.add
  by_cases h : n = 0
  · subst h; rfl
  · rw [if_neg h]
theorem spot_none {a : Addr} {v : Value} (h : w.cell? a = some v) : a = ⟨a.block, a.off, none⟩ := by
  obtain ⟨b, o, s⟩ := a
  cases s with
  | none => rfl
  | some s => simp [World.cell?] at h; split at h <;> simp at h

/-- a row of trees, element by element -/
theorem lrow_of {P : Program} {a : Addr} {es : List (DataW H × List MemPlace)} {n : Nat} {T : TypeId} (hc : P.cellsOf T = 4)
    (ih : ∀ (cs : List Value) (x : DataW H × List MemPlace), DataW.trod enc P w base spare held n T cs = some x →
      ∃ (t : Tm) (a : Option Addr) (cap : Nat), cs = [.int .i64 t.kind, .int .i64 t.n, .string t.name, .slice a t.kids.length cap] ∧ t.name.size ≤ 9223372036854775807 ∧ Lt.sl (fun _ => True) w t.kids (.slice a t.kids.length cap)) :
    ∀ (k m : Nat), (∀ i, i < k → (w.cells? base ((⟨a.block, a.off, none⟩ : Addr).add ((m + i) * 4)) 4).bind (DataW.trod enc P w base spare held n T) = es[m + i]?) → m + k ≤ es.length →
      ∃ ts : List Tm, ts.length = k ∧ Lt.row (fun _ => True) w a.block (a.off + m * 4) ts
  | 0, m, _, _ => ⟨[], rfl, by simp [Lt.row]⟩
  | k + 1, m, h, hm => by
    have h0 := h 0 (by omega)
    simp only [Nat.add_zero] at h0
    rw [List.getElem?_eq_getElem (by omega)] at h0
    obtain ⟨cs, hcs, htr⟩ := Option.bind_eq_some_iff.1 h0
    obtain ⟨t, a', cap, rfl, h1, h2⟩ := ih cs _ htr
    obtain ⟨hb, hl, hcell⟩ := World.cells?_some hcs
    obtain ⟨ts, h3, h4⟩ := lrow_of hc ih k (m + 1) (fun i hi => by
      have := h (i + 1) (by omega)
      rw [show m + 1 + i = m + (i + 1) by omega]
      exact this) (by omega)
    refine ⟨t :: ts, by simp [h3], ?_⟩
    simp only [Lt.row]
    refine ⟨Lt.cells_iff.2 ⟨_, ?_, ?_, ?_, ?_, h1, h2⟩, by rw [show a.off + m * 4 + 4 = a.off + (m + 1) * 4 by omega]; exact h4⟩
    · have := hcell 0 (by omega)
      simpa [addr_add] using this
    · have := hcell 1 (by omega)
      simpa [addr_add] using this
    · have := hcell 2 (by omega)
      simpa [addr_add] using this
    · have := hcell 3 (by omega)
      simpa [addr_add] using this

set_option maxRecDepth 100000 in
theorem lterm_of : ∀ (fuel : Nat) (cs : List Value) (x : DataW H × List MemPlace), DataW.trod enc Tryd.prog w base spare held fuel 24 cs = some x →
    ∃ (t : Tm) (a : Option Addr) (cap : Nat), cs = [.int .i64 t.kind, .int .i64 t.n, .string t.name, .slice a t.kids.length cap] ∧ t.name.size ≤ 9223372036854775807 ∧ Lt.sl (fun _ => True) w t.kids (.slice a t.kids.length cap)
  | 0, cs, x, h => by simp [DataW.trod] at h
  | fuel + 1, cs, x, h => by
    obtain ⟨xs, n, hn, rfl, hl, hlen, hf⟩ := DataW.trod_struct Tryd.underlying24 h
    have hcl : Tryd.prog.cellsOf 24 = 4 := by kernel_rfl
    have e1 : Tryd.prog.cellsOf 3 = 1 := by kernel_rfl
    have e2 : Tryd.prog.cellsOf 9 = 1 := by kernel_rfl
    have e3 : Tryd.prog.cellsOf 22 = 1 := by kernel_rfl
    obtain rfl : fuel = n := by omega
    rw [hcl] at hl
    match cs, hl with
    | [c0, c1, c2, c3], _ =>
      match xs, hlen with
      | [y0, y1, y2, y3], _ =>
        have f0 : DataW.trod enc Tryd.prog w base spare held fuel 3 [c0] = some y0 := by
          have := hf 0 _ rfl
          simpa [e1] using this
        have f1 : DataW.trod enc Tryd.prog w base spare held fuel 3 [c1] = some y1 := by
          have := hf 1 _ rfl
          simpa [e1] using this
        have f2 : DataW.trod enc Tryd.prog w base spare held fuel 9 [c2] = some y2 := by
          have := hf 2 _ rfl
          simpa [e2] using this
        have f3 : DataW.trod enc Tryd.prog w base spare held fuel 22 [c3] = some y3 := by
          have := hf 3 _ rfl
          simpa [e3] using this
        obtain ⟨n0, h0, _, _⟩ := DataW.trod_int Tryd.underlying3 f0
        obtain ⟨n1, h1, _, _⟩ := DataW.trod_int Tryd.underlying3 f1
        obtain ⟨s2, h2, _, hs⟩ := DataW.trod_string Tryd.underlying9 f2
        simp only [List.cons.injEq, and_true] at h0 h1 h2
        subst h0; subst h1; subst h2
        rcases DataW.trod_slice Tryd.underlying22 f3 with ⟨h3, _⟩ | ⟨a, len, cap, es, rest, m, hm, h3, _, hb, hlc, hcm, hel, hget, _, _⟩
        · simp only [List.cons.injEq, and_true] at h3
          subst h3
          exact ⟨.mk n0 n1 s2 [], none, 0, rfl, hs, none, 0, rfl, by simp [Tm.kids], by omega, by simp [Tm.kids], .inl rfl⟩
        · simp only [List.cons.injEq, and_true] at h3
          subst h3
          have hmax : cap ≤ 9223372036854775807 := hcm
          cases len with
          | zero =>
            exact ⟨.mk n0 n1 s2 [], some a, cap, rfl, hs, some a, cap, rfl, by simp [Tm.kids], hmax, by simp [Tm.kids], .inl rfl⟩
          | succ len =>
            have hmf : m + 1 = fuel := by omega
            have h0 := hget 0 (by omega)
            rw [List.getElem?_eq_getElem (by omega)] at h0
            obtain ⟨cs0, hcs0, htr0⟩ := Option.bind_eq_some_iff.1 h0
            rw [hcl] at hcs0
            obtain ⟨_, hl0, hcell0⟩ := World.cells?_some hcs0
            have hsp : a = ⟨a.block, a.off, none⟩ := by
              have h00 := hcell0 0 (by omega)
              rw [List.getElem?_eq_getElem (by omega)] at h00
              have := spot_none h00
              simpa [Addr.add] using this
            obtain ⟨ts, ht1, ht2⟩ := lrow_of (a := a) (es := es) (n := m) hcl (fun cs x hx => lterm_of m cs x hx) (len + 1) 0 (fun i hi => by
              have := hget i hi
              rw [hcl] at this
              rw [← hsp, Nat.zero_add]
              exact this) (by omega)
            refine ⟨.mk n0 n1 s2 ts, some a, cap, by simp only [Tm.kind, Tm.n, Tm.name, Tm.kids, ht1], hs, some a, cap, by simp only [Tm.kids], ?_, hmax, ?_, .inr ⟨a.block, a.off, by rw [← hsp], trivial, ?_⟩⟩
            · simp only [Tm.kids, ht1]; exact hlc
            · simp only [Tm.kids, ht1]; omega
            · simpa [Tm.kids] using ht2
termination_by fuel => fuel
decreasing_by all_goals omega

set_option maxRecDepth 100000 in
theorem lterm_of_trod {r : Reach} {b0 : Nat} {v : Value} {d : DataW H} {ps : List MemPlace} (hval : Value.okWide Tryd.prog w r b0 24 v) (hd : DataW.Trod enc Tryd.prog w base spare held 24 v d ps) :
    ∃ t, Lt.at (fun _ => True) w t v := by
  obtain ⟨fuel, hf⟩ := hd
  obtain ⟨cs, rfl, hsz⟩ := WideShapes.okWide_struct Tryd.underlying24 hval
  obtain ⟨t, a, cap, h1, h2, h3⟩ := lterm_of fuel _ _ hf
  refine ⟨t, Lt.at_iff.2 ⟨h2, _, ?_, h3⟩⟩
  congr 1
  apply Array.toList_inj.1
  simpa [Value.cells] using h1

end Go.Proofs.YtifklfnpaigdkaaDoor
