/-
  The reference's l1Struct with kids.
-/
import Derived.Test.YtifklfnpaigdkaaDoorBase2
namespace Go.Proofs.YtifklfnpaigdkaaDoor
open Go.RowKit
set_option linter.unusedVariables false

theorem row_flat {S : Nat → Prop} {w : World} {b : Nat} : ∀ {ts : List Tm} {off : Nat}, Tm.row S w b off ts → ∃ xs, Tm.flat S w ts xs ∧ ∀ j u, xs[j]? = some u → w.cell? ⟨b, off + j, none⟩ = some u
  | [], off, _ => ⟨[], by simp [Tm.flat], by simp⟩
  | t :: ts, off, h => by
    simp only [Tm.row] at h
    obtain ⟨a, cap, h1, h2, h3, h4, h5⟩ := Tm.at_of_cells h.1
    obtain ⟨xs, hx, hc⟩ := row_flat h.2
    refine ⟨tcells t a cap ++ xs, ⟨a, cap, xs, rfl, h5, hx⟩, ?_⟩
    intro j u hj
    match j with
    | 0 => simp [tcells] at hj; subst hj; exact h1
    | 1 => simp [tcells] at hj; subst hj; exact h2
    | 2 => simp [tcells] at hj; subst hj; exact h3
    | 3 => simp [tcells] at hj; subst hj; exact h4
    | j + 4 =>
      simp [tcells] at hj
      rw [show off + (j + 4) = off + 4 + j by omega]
      exact hc j u hj
theorem flat_one {S : Nat → Prop} {w : World} : ∀ {ts : List Tm} {xs : List Value}, Tm.flat S w ts xs → ∀ u ∈ xs, u.oneCell' = true
  | [], xs, h => by simp only [Tm.flat] at h; subst h; simp
  | t :: ts, xs, h => by
    obtain ⟨a, cap, rest, rfl, h1, h2⟩ := h
    have := flat_one h2
    simp [tcells, Value.oneCell']
    exact this

theorem own_empty {w : World} {T b : Nat} (hb : b = w.heap.size) : (w.alloc (.cells #[] T)).ownsRow b T 4 (.slice (some ⟨b, 0, none⟩) 0 0) 0 [] := by
  subst hb
  refine ⟨rfl, .inr ⟨w.heap.size, 0, #[], rfl, Nat.le_refl _, ?_, by omega, by decide, rfl, rfl⟩⟩
  show (w.heap.push _)[w.heap.size]? = _
  simp

theorem grown_cells {W w2 : World} {v : Value} {base : Nat} (hg : W.grownBy w2 v.ownBlock) (hv : ∀ g, v.ownBlock = some g → base ≤ g) (hb : base ≤ W.heap.size) :
    (∀ b o, b < base → w2.cell? ⟨b, o, none⟩ = W.cell? ⟨b, o, none⟩) ∧ (∀ b o, b < base → w2.frozen? ⟨b, o, none⟩ = W.frozen? ⟨b, o, none⟩) :=
  ⟨fun b o h => World.cell?_of_block (w := W) (a := ⟨b, o, none⟩) (hg.block b (by omega) (fun e => by have := hv b e.symm; omega)),
   fun b o h => World.frozen?_of_block (w := W) (a := ⟨b, o, none⟩) (hg.block b (by omega) (fun e => by have := hv b e.symm; omega))⟩
def StructC (s : ByteArray) (ts : List Tm) : Prop := ∀ (v : Value) (S : Nat → Prop) (w : World), Tm.sl S w ts v →
  Calls Tryd.prog 61 #[.string s, v] w fun e w' => ∃ v', e = .returned v' ∧ Tm.at (fun b => S b ∨ w.heap.size ≤ b) w' (.mk 3 0 s ts) v' ∧ Ext w w'

set_option maxRecDepth 100000 in
set_option maxHeartbeats 1000000 in
theorem specl1Struct (s : ByteArray) (ts : List Tm) (hs : s.size ≤ 1048576) (hts : ts ≠ []) : StructC s ts := by
  intro v S w hv
  obtain ⟨i0, hi, hz0, hz1, hz2⟩ := info_parts info_term3
  obtain ⟨a, cap, rfl, h1, h2, h3, h4⟩ := hv
  obtain ⟨b, off, rfl, hSb, hrow⟩ := h4.resolve_left hts
  obtain ⟨xs, hfl, hcs⟩ := row_flat hrow
  have hlen := flat_len hfl
  have h1c := flat_one hfl
  have HCS := Lib.hid (fun W (E : Ext w W) j u (h : xs[j]? = some u) => (show W.cell? ((⟨b, off, none⟩ : Addr).add j) = some u by
    rw [show (⟨b, off, none⟩ : Addr).add j = ⟨b, off + j, none⟩ by unfold Addr.add; split <;> simp_all]
    exact E.cell (hcs j u h)))
  have HFL := Lib.hid hfl
  have H1C := Lib.hid h1c
  have HI := Lib.hid hi
  have HZ := Lib.hid hz0
  clear hcs hfl h1c hrow h4 hi hz0
  go_enter Tryd.func61, Tryd.ntmps61
  go_wp2_with (at_builtin; refine wpList_append_fresh rfl (.tmp 6) (.tmp 7) 27 rfl (w.heap.size + 1) 29 i0 _ 4 56 Tryd.underlying27 HI.out HZ.out hz1 hz2 rfl (by decide) (.slice (some ⟨w.heap.size + 1, 0, none⟩) 0 0) 0 [] rfl (own_empty (by simp)) ⟨b, off, none⟩ ts.length cap xs rfl hlen (HCS.out _ ((Ext.alloc _ _).trans (Ext.alloc _ _))) H1C.out (by unfold maxLen; omega) (by omega) (by simp) ?_; intro v2 w2 ho2 hg2 hfr2 _; obtain ⟨av, cv, rfl⟩ := own_form ho2; obtain ⟨kc, kf⟩ := grown_cells hg2 (base := w.heap.size + 1) (fun g h => by simp [Value.ownBlock] at h; omega) (by simp); have HO2 := Lib.hid ho2; have HG2 := Lib.hid hg2; have HFR := Lib.hid hfr2; clear ho2 hg2 hfr2)
  have ho := HO2.out
  rw [Nat.zero_add, List.nil_append] at ho
  have hge := own_ge ho
  have hE : Ext w w2 := ((Ext.alloc _ _).trans (Ext.alloc _ _)).grown HG2.out (fun b h => by simp [Value.ownBlock] at h; omega)
  refine ret4_set (p := 4) (T := 29) (b := w.heap.size) (u0 := .int .i64 0) (u1 := .int .i64 0) (u2 := .string ⟨#[]⟩) (u3 := .slice none 0 0) (by kernel_rfl) (fun _ => by kernel_rfl) (fun _ => by kernel_rfl) rfl rfl (by go_simp) (by go_simp) (by go_simp) (by go_simp) ?_
  intro X hX
  have hsl := own_sl ho (flat_mono (S' := fun b => S b ∧ b < w.heap.size) (fun _ h => h) ((Agree.of_ext hE)) (flat_bound HFL.out)) h3
  refine ⟨_, rfl, Tm.at_iff.2 ⟨hs, _, rfl, Tm.sl_mono ?_ (Agree.grown hX ?_) hsl⟩, hE.grown hX (fun b h => by simp at h; omega)⟩
  · rintro b (⟨hb, _⟩ | hb)
    · exact .inl hb
    · exact .inr (by have := hge b hb; omega)
  · intro b h
    simp at h
    subst h
    rintro (⟨_, hb⟩ | hb)
    · omega
    · have := hge _ hb; omega

end Go.Proofs.YtifklfnpaigdkaaDoor
