/-
  The draws of two terms that are l3Two's own.
-/
import Derived.Test.YteplfajhmpmklaaMg48
import Derived.Test.YteplfajhmpmklaaMg31
import Derived.Test.YteplfajhmpmklaaMg16
namespace Go.Proofs.Yteplfajhmpmklaa
open Go.RowKit
set_option linter.unusedVariables false

set_option maxRecDepth 100000 in
set_option maxHeartbeats 2000000 in
theorem drawGeneralize (v : Value) (w : World) (hv : BytesAt w v) : Calls Try.prog 28 #[v] w (TmOut2 w) := by
  have hb1 := BoxT.new w (.int .i64 0) (.int .i64 0) (.string ⟨#[]⟩) (.slice none 0 0) 29 rfl
  have hb2 := BoxT.new (w.alloc (.cells #[.int .i64 0, .int .i64 0, .string ⟨#[]⟩, .slice none 0 0] 29)) (.int .i64 0) (.int .i64 0) (.string ⟨#[]⟩) (.slice none 0 0) 29 (b := w.heap.size + 1) (by simp)
  have e02 := (Ext.alloc w (.cells #[.int .i64 0, .int .i64 0, .string ⟨#[]⟩, .slice none 0 0] 29)).trans (Ext.alloc _ (.cells #[.int .i64 0, .int .i64 0, .string ⟨#[]⟩, .slice none 0 0] 29))
  have B1 := Lib.hid (hb1.ext (Ext.alloc _ (.cells #[.int .i64 0, .int .i64 0, .string ⟨#[]⟩, .slice none 0 0] 29)))
  have B2 := Lib.hid hb2
  have HV := Lib.hid (hv.ext e02)
  have E02 := Lib.hid e02
  clear hb1 hb2 e02
  obtain ⟨a, len, cap, rfl, _⟩ := hv
  go_enter Try.func28, Try.ntmps28
  go_wp2_with fail
  refine (specl3Two _ _ HV.out).mono ?_
  rintro e w1 ⟨t, u, v1, v2, rfl, hv1, hv2, e1⟩
  obtain ⟨a1, c1, rfl⟩ := at_form hv1
  obtain ⟨a2, c2, rfl⟩ := at_form hv2
  have s1 : w.heap.size + 2 ≤ w1.heap.size := by have := Below.size e1; simpa using this
  have HB1 := Lib.hid (B1.out.ext e1)
  have HB2 := Lib.hid (B2.out.ext e1)
  have V1 := Lib.hid hv1
  have V2 := Lib.hid hv2
  have E1 := Lib.hid (E02.out.trans e1)
  clear hv1 hv2 e1 B1 B2 HV
  obtain ⟨g0, g1, g2, g3, g4, g5, g6, g7⟩ := HB1.out
  obtain ⟨q0, q1, q2, q3, q4, q5, q6, q7⟩ := HB2.out
  go_wp2_with fail
  refine ret44_set (p1 := 2) (p2 := 3) (T := 29) (b1 := w.heap.size) (b2 := w.heap.size + 1) (by kernel_rfl) (fun _ => by kernel_rfl) (fun _ => by kernel_rfl) rfl rfl rfl (by omega) HB1.out HB2.out ?_
  intro X hX
  have hag := hX.agree (S := fun b => w.heap.size + 2 ≤ b) (fun k hk h => by omega)
  exact ⟨t, u, _, _, rfl, Tm.at_mono (fun b h => by omega) hag (Tm.at_mono (fun b h => by simp at h; omega) (Agree.refl _) V1.out), Tm.at_mono (fun b h => by omega) hag (Tm.at_mono (fun b h => by simp at h; omega) (Agree.refl _) V2.out), ((Fr.of_ext E1.out).trans (hX.mono (fun k _ h => show w.heap.size ≤ k by omega))).toExt (fun k hk hm => by omega)⟩

set_option maxRecDepth 100000 in
set_option maxHeartbeats 2000000 in
theorem drawUnifyTerms (v : Value) (w : World) (hv : BytesAt w v) : Calls Try.prog 36 #[v] w (TmOut2 w) := by
  have hb1 := BoxT.new w (.int .i64 0) (.int .i64 0) (.string ⟨#[]⟩) (.slice none 0 0) 29 rfl
  have hb2 := BoxT.new (w.alloc (.cells #[.int .i64 0, .int .i64 0, .string ⟨#[]⟩, .slice none 0 0] 29)) (.int .i64 0) (.int .i64 0) (.string ⟨#[]⟩) (.slice none 0 0) 29 (b := w.heap.size + 1) (by simp)
  have e02 := (Ext.alloc w (.cells #[.int .i64 0, .int .i64 0, .string ⟨#[]⟩, .slice none 0 0] 29)).trans (Ext.alloc _ (.cells #[.int .i64 0, .int .i64 0, .string ⟨#[]⟩, .slice none 0 0] 29))
  have B1 := Lib.hid (hb1.ext (Ext.alloc _ (.cells #[.int .i64 0, .int .i64 0, .string ⟨#[]⟩, .slice none 0 0] 29)))
  have B2 := Lib.hid hb2
  have HV := Lib.hid (hv.ext e02)
  have E02 := Lib.hid e02
  clear hb1 hb2 e02
  obtain ⟨a, len, cap, rfl, _⟩ := hv
  go_enter Try.func36, Try.ntmps36
  go_wp2_with fail
  refine (specl3Two _ _ HV.out).mono ?_
  rintro e w1 ⟨t, u, v1, v2, rfl, hv1, hv2, e1⟩
  obtain ⟨a1, c1, rfl⟩ := at_form hv1
  obtain ⟨a2, c2, rfl⟩ := at_form hv2
  have s1 : w.heap.size + 2 ≤ w1.heap.size := by have := Below.size e1; simpa using this
  have HB1 := Lib.hid (B1.out.ext e1)
  have HB2 := Lib.hid (B2.out.ext e1)
  have V1 := Lib.hid hv1
  have V2 := Lib.hid hv2
  have E1 := Lib.hid (E02.out.trans e1)
  clear hv1 hv2 e1 B1 B2 HV
  obtain ⟨g0, g1, g2, g3, g4, g5, g6, g7⟩ := HB1.out
  obtain ⟨q0, q1, q2, q3, q4, q5, q6, q7⟩ := HB2.out
  go_wp2_with fail
  refine ret44_set (p1 := 2) (p2 := 3) (T := 29) (b1 := w.heap.size) (b2 := w.heap.size + 1) (by kernel_rfl) (fun _ => by kernel_rfl) (fun _ => by kernel_rfl) rfl rfl rfl (by omega) HB1.out HB2.out ?_
  intro X hX
  have hag := hX.agree (S := fun b => w.heap.size + 2 ≤ b) (fun k hk h => by omega)
  exact ⟨t, u, _, _, rfl, Tm.at_mono (fun b h => by omega) hag (Tm.at_mono (fun b h => by simp at h; omega) (Agree.refl _) V1.out), Tm.at_mono (fun b h => by omega) hag (Tm.at_mono (fun b h => by simp at h; omega) (Agree.refl _) V2.out), ((Fr.of_ext E1.out).trans (hX.mono (fun k _ h => show w.heap.size ≤ k by omega))).toExt (fun k hk hm => by omega)⟩

end Go.Proofs.Yteplfajhmpmklaa

/-
  VariantTerms on both sides.
-/
namespace Go.Proofs.Yteplfajhmpmklaa
open Go.RowKit
set_option linter.unusedVariables false

set_option maxRecDepth 100000 in
set_option maxHeartbeats 8000000 in
theorem specVariantTerms (t u : Tm) (v v' : Value) (S S' : Nat → Prop) (w : World) (ht : Tm.at S w t v) (hu : Tm.at S' w u v') :
    Calls Try.prog 18 #[v, v'] w fun e w' => e = .returned (.bool (variantF t u)) ∧ Ext w w' := by
  have T0 := Lib.hid (fun w' (e' : Ext w w') => specTermValid t v S w' (Tm.at_ext e' ht))
  have U0 := Lib.hid (fun w' (e' : Ext w w') => specTermValid u v' S' w' (Tm.at_ext e' hu))
  have CT := Lib.hid (fun (h : validF t = true) w' (e' : Ext w w') => specl3Canon t v S w' (valid_shape h) (by have := valid_sz h; omega) (Tm.at_ext e' ht))
  have CU := Lib.hid (fun (h : validF u = true) w' (e' : Ext w w') => specl3Canon u v' S' w' (valid_shape h) (by have := valid_sz h; omega) (Tm.at_ext e' hu))
  obtain ⟨a, c, rfl⟩ := at_form ht
  obtain ⟨b, d, rfl⟩ := at_form hu
  clear ht hu
  cases hv : validF t
  · have HT := Lib.hid hv
    clear hv
    have HF : Hid (variantF t u = false) := Lib.hid (by unfold variantF; rw [HT.out]; rfl)
    go_enter Try.func18, Try.ntmps18
    go_wp2_with fail
    obtain ⟨w0, hW⟩ : ∃ W0, W0 = ((w.alloc (.cells #[.int .i64 t.kind, .int .i64 t.n, .string t.name, .slice a t.kids.length c] 29)).alloc (.cells #[.int .i64 u.kind, .int .i64 u.n, .string u.name, .slice b u.kids.length d] 29)) := ⟨_, rfl⟩
    rw [← hW]
    have X := Lib.hid (show BoxT w0 w.heap.size (.int .i64 t.kind) (.int .i64 t.n) (.string t.name) (.slice a t.kids.length c) by rw [hW]; exact (BoxT.new w _ _ _ _ 29 rfl).ext (Ext.alloc _ _))
    have Y := Lib.hid (show BoxT w0 (w.heap.size + 1) (.int .i64 u.kind) (.int .i64 u.n) (.string u.name) (.slice b u.kids.length d) by rw [hW]; exact BoxT.new _ _ _ _ _ 29 (by simp))
    have E0 : Hid (Ext w w0) := Lib.hid (by rw [hW]; exact (Ext.alloc _ _).trans (Ext.alloc _ _))
    clear hW
    obtain ⟨x0, x1, x2, x3, _, _, _, _⟩ := X.out
    obtain ⟨y0, y1, y2, y3, _, _, _, _⟩ := Y.out
    go_region_law (first
      | (go_simp; go_at_call_of 40 (Value.string t.name); refine (T0.out _ (by first | exact E0.out | exact E0.out.trans (Ext.drew _))).mono ?_; rw [HT.out]; rintro e w1 ⟨rfl, q⟩; (try replace q := Ext.undrew q); have E1 := Lib.hid (E0.out.trans q); have X := Lib.hid (X.out.ext q); obtain ⟨x0, x1, x2, x3, _, _, _, _⟩ := X.out; have Y := Lib.hid (Y.out.ext q); obtain ⟨y0, y1, y2, y3, _, _, _, _⟩ := Y.out; clear q; dsimp only))
    all_goals
      go_wp2_with fail
      go_ret
      exact ⟨retB HF.out.symm, E1.out⟩
  cases hu : validF u
  · have HT := Lib.hid hv
    have HU := Lib.hid hu
    clear hv hu
    have HF : Hid (variantF t u = false) := Lib.hid (by unfold variantF; rw [HT.out, HU.out]; rfl)
    go_enter Try.func18, Try.ntmps18
    go_wp2_with fail
    obtain ⟨w0, hW⟩ : ∃ W0, W0 = ((w.alloc (.cells #[.int .i64 t.kind, .int .i64 t.n, .string t.name, .slice a t.kids.length c] 29)).alloc (.cells #[.int .i64 u.kind, .int .i64 u.n, .string u.name, .slice b u.kids.length d] 29)) := ⟨_, rfl⟩
    rw [← hW]
    have X := Lib.hid (show BoxT w0 w.heap.size (.int .i64 t.kind) (.int .i64 t.n) (.string t.name) (.slice a t.kids.length c) by rw [hW]; exact (BoxT.new w _ _ _ _ 29 rfl).ext (Ext.alloc _ _))
    have Y := Lib.hid (show BoxT w0 (w.heap.size + 1) (.int .i64 u.kind) (.int .i64 u.n) (.string u.name) (.slice b u.kids.length d) by rw [hW]; exact BoxT.new _ _ _ _ _ 29 (by simp))
    have E0 : Hid (Ext w w0) := Lib.hid (by rw [hW]; exact (Ext.alloc _ _).trans (Ext.alloc _ _))
    clear hW
    obtain ⟨x0, x1, x2, x3, _, _, _, _⟩ := X.out
    obtain ⟨y0, y1, y2, y3, _, _, _, _⟩ := Y.out
    go_region_law (first
      | (go_simp; go_at_call_of 40 (Value.string t.name); refine (T0.out _ (by first | exact E0.out | exact E0.out.trans (Ext.drew _))).mono ?_; rw [HT.out]; rintro e w1 ⟨rfl, q⟩; (try replace q := Ext.undrew q); have E1 := Lib.hid (E0.out.trans q); have X := Lib.hid (X.out.ext q); obtain ⟨x0, x1, x2, x3, _, _, _, _⟩ := X.out; have Y := Lib.hid (Y.out.ext q); obtain ⟨y0, y1, y2, y3, _, _, _, _⟩ := Y.out; clear q; dsimp only)
      | (go_simp; go_at_call_of 40 (Value.string u.name); refine (U0.out _ (by first | exact E1.out | exact E1.out.trans (Ext.drew _))).mono ?_; rw [HU.out]; rintro e w2 ⟨rfl, q⟩; (try replace q := Ext.undrew q); have E2 := Lib.hid (E1.out.trans q); have X := Lib.hid (X.out.ext q); obtain ⟨x0, x1, x2, x3, _, _, _, _⟩ := X.out; have Y := Lib.hid (Y.out.ext q); obtain ⟨y0, y1, y2, y3, _, _, _, _⟩ := Y.out; clear q; dsimp only))
    all_goals
      go_wp2_with fail
      go_ret
      exact ⟨retB HF.out.symm, E2.out⟩
  · have HT := Lib.hid hv
    have HU := Lib.hid hu
    clear hv hu
    have HF : Hid (variantF t u = Tm.same (ren1 t) (ren1 u)) := Lib.hid (by unfold variantF; rw [HT.out, HU.out]; rfl)
    go_enter Try.func18, Try.ntmps18
    go_wp2_with fail
    obtain ⟨w0, hW⟩ : ∃ W0, W0 = ((w.alloc (.cells #[.int .i64 t.kind, .int .i64 t.n, .string t.name, .slice a t.kids.length c] 29)).alloc (.cells #[.int .i64 u.kind, .int .i64 u.n, .string u.name, .slice b u.kids.length d] 29)) := ⟨_, rfl⟩
    rw [← hW]
    have X := Lib.hid (show BoxT w0 w.heap.size (.int .i64 t.kind) (.int .i64 t.n) (.string t.name) (.slice a t.kids.length c) by rw [hW]; exact (BoxT.new w _ _ _ _ 29 rfl).ext (Ext.alloc _ _))
    have Y := Lib.hid (show BoxT w0 (w.heap.size + 1) (.int .i64 u.kind) (.int .i64 u.n) (.string u.name) (.slice b u.kids.length d) by rw [hW]; exact BoxT.new _ _ _ _ _ 29 (by simp))
    have E0 : Hid (Ext w w0) := Lib.hid (by rw [hW]; exact (Ext.alloc _ _).trans (Ext.alloc _ _))
    clear hW
    obtain ⟨x0, x1, x2, x3, _, _, _, _⟩ := X.out
    obtain ⟨y0, y1, y2, y3, _, _, _, _⟩ := Y.out
    go_region_law (first
      | (go_simp; go_at_call_of 40 (Value.string t.name); refine (T0.out _ (by first | exact E0.out | exact E0.out.trans (Ext.drew _))).mono ?_; rw [HT.out]; rintro e w1 ⟨rfl, q⟩; (try replace q := Ext.undrew q); have E1 := Lib.hid (E0.out.trans q); have X := Lib.hid (X.out.ext q); obtain ⟨x0, x1, x2, x3, _, _, _, _⟩ := X.out; have Y := Lib.hid (Y.out.ext q); obtain ⟨y0, y1, y2, y3, _, _, _, _⟩ := Y.out; clear q; dsimp only)
      | (go_simp; go_at_call_of 40 (Value.string u.name); refine (U0.out _ (by first | exact E1.out | exact E1.out.trans (Ext.drew _))).mono ?_; rw [HU.out]; rintro e w2 ⟨rfl, q⟩; (try replace q := Ext.undrew q); have E2 := Lib.hid (E1.out.trans q); have X := Lib.hid (X.out.ext q); obtain ⟨x0, x1, x2, x3, _, _, _, _⟩ := X.out; have Y := Lib.hid (Y.out.ext q); obtain ⟨y0, y1, y2, y3, _, _, _, _⟩ := Y.out; clear q; dsimp only)
      | (go_simp; go_at_call_of 53 (Value.string t.name); refine (CT.out HT.out _ (by first | exact E2.out | exact E2.out.trans (Ext.drew _))).mono ?_; rintro e w3 ⟨a3, c3, rfl, o3, q⟩; (try replace q := Ext.undrew q); have E3 := Lib.hid (E2.out.trans q); have X := Lib.hid (X.out.ext q); obtain ⟨x0, x1, x2, x3, _, _, _, _⟩ := X.out; have Y := Lib.hid (Y.out.ext q); obtain ⟨y0, y1, y2, y3, _, _, _, _⟩ := Y.out; have O3 := Lib.hid (own_flat _ _ _ o3); clear o3; clear q; dsimp only)
      | (go_simp; go_at_call_of 53 (Value.string u.name); refine (CU.out HU.out _ (by first | exact E3.out | exact E3.out.trans (Ext.drew _))).mono ?_; rintro e w4 ⟨a4, c4, rfl, o4, q⟩; (try replace q := Ext.undrew q); have E4 := Lib.hid (E3.out.trans q); have X := Lib.hid (X.out.ext q); obtain ⟨x0, x1, x2, x3, _, _, _, _⟩ := X.out; have Y := Lib.hid (Y.out.ext q); obtain ⟨y0, y1, y2, y3, _, _, _, _⟩ := Y.out; have O4 := Lib.hid (own_flat _ _ _ o4); have O3 := Lib.hid (Tm.at_ext q O3.out); clear o4; clear q; dsimp only)
      | (go_simp; go_at_call 52; refine (specTermSame _ (ren1 t) (ren1 u) _ _ _ _ _ (Nat.le_refl _) (by first | exact O3.out | exact Tm.at_ext (Ext.drew _) O3.out) (by first | exact O4.out | exact Tm.at_ext (Ext.drew _) O4.out)).mono ?_; rintro e w5 ⟨rfl, q⟩; (try replace q := Ext.undrew q); have E5 := Lib.hid (E4.out.trans q); have X := Lib.hid (X.out.ext q); obtain ⟨x0, x1, x2, x3, _, _, _, _⟩ := X.out; have Y := Lib.hid (Y.out.ext q); obtain ⟨y0, y1, y2, y3, _, _, _, _⟩ := Y.out; clear q; dsimp only))
    all_goals
      go_wp2_with fail
      go_ret
      exact ⟨retB HF.out.symm, E5.out⟩

/-- an owned row of one term: its four cells -/
theorem own_one {F : Nat → Prop} {t : Tm} {v : Value} {w : World} (h : OwnS F [t] v w) : ∃ b cp a c, v = .slice (some ⟨b, 0, none⟩) 1 cp ∧ 1 ≤ cp ∧
    w.cell? ⟨b, 0, none⟩ = some (.int .i64 t.kind) ∧ w.cell? ⟨b, 1, none⟩ = some (.int .i64 t.n) ∧ w.cell? ⟨b, 2, none⟩ = some (.string t.name) ∧ w.cell? ⟨b, 3, none⟩ = some (.slice a t.kids.length c) ∧
    Tm.at (fun _ => True) w t (.agg #[.int .i64 t.kind, .int .i64 t.n, .string t.name, .slice a t.kids.length c]) := by
  obtain ⟨xs, ho, hz, hf⟩ := h
  have hsl := own_sl ho (oflat_flat _ _ hf) (by simp)
  obtain ⟨h1, h2⟩ := ho
  rcases h2 with ⟨rfl, h2⟩ | ⟨g, cap, cur, rfl, h3, h4, h5, h6, h7, h8⟩
  · simp at h2
  · obtain ⟨a0, c0, he, q1, q2, q3, q4⟩ := hsl
    obtain ⟨rfl, _, rfl⟩ := Value.slice.inj he
    obtain ⟨b, off, ak, ck, hab, _, k0, k1, k2, k3, hat⟩ := tget (k := 0) (t := t) q4 rfl
    simp only [Option.some.injEq, Addr.mk.injEq, and_true] at hab
    obtain ⟨rfl, rfl⟩ := hab
    simp only [Nat.zero_mul, Nat.add_zero, Nat.zero_add] at k0 k1 k2 k3
    exact ⟨g, cap, ak, ck, rfl, by simpa using q1, k0, k1, k2, k3, Tm.at_mono (fun _ _ => trivial) (Agree.refl _) hat⟩
def OneP (r : Tm) (w' : World) (e : Ending) (W' : World) : Prop := ∃ b cp a c, e = .returned (.slice (some ⟨b, 0, none⟩) 1 cp) ∧ 1 ≤ cp ∧
    W'.cell? ⟨b, 0, none⟩ = some (.int .i64 r.kind) ∧ W'.cell? ⟨b, 1, none⟩ = some (.int .i64 r.n) ∧ W'.cell? ⟨b, 2, none⟩ = some (.string r.name) ∧ W'.cell? ⟨b, 3, none⟩ = some (.slice a r.kids.length c) ∧
    Tm.at (fun _ => True) W' r (.agg #[.int .i64 r.kind, .int .i64 r.n, .string r.name, .slice a r.kids.length c]) ∧ Ext w' W'
theorem renum_new {t : Tm} {a : Option Addr} {c nb : Nat} {S : Nat → Prop} {w W : World} (hv : validF t = true) (ht : Tm.at S w t (.agg #[.int .i64 t.kind, .int .i64 t.n, .string t.name, .slice a t.kids.length c])) (e : Ext w W)
    (h0 : W.cell? ⟨nb, 0, none⟩ = some (.int .i64 t.kind)) (h1 : W.cell? ⟨nb, 1, none⟩ = some (.int .i64 t.n)) (h2 : W.cell? ⟨nb, 2, none⟩ = some (.string t.name)) (h3 : W.cell? ⟨nb, 3, none⟩ = some (.slice a t.kids.length c)) :
    Calls Try.prog 51 #[.slice (some ⟨nb, 0, none⟩) 1 1] W (OneP (ren1 t) W) := by
  have hat := Tm.at_mono (S' := fun _ => True) (fun _ _ => trivial) (Agree.refl _) (Tm.at_ext e ht)
  obtain ⟨hn, sv, hsv, hk⟩ := Tm.at_iff.1 hat
  have hsv' : sv = .slice a t.kids.length c := by
    simp only [Value.agg.injEq] at hsv
    have := congrArg (fun x : Array Value => x[3]?) hsv
    simpa using this.symm
  subst hsv'
  have hs : Tm.sl (fun _ => True) W [t] (.slice (some ⟨nb, 0, none⟩) 1 1) :=
    ⟨_, 1, rfl, by simp, by omega, by simp, .inr ⟨nb, 0, rfl, trivial, by simp only [Tm.row, and_true]; exact Tm.cells_iff.2 ⟨_, h0, by simpa using h1, by simpa using h2, by simpa using h3, hn, hk⟩⟩⟩
  refine (implrenumbered [t] _ (fun _ => True) W (by have := valid_sz hv; simp only [Tm.szL]; omega) (by simp only [shapeL, Bool.and_true]; exact valid_shape hv) hs).mono ?_
  rw [renF_one]
  rintro e w2 ⟨a2, c2, rfl, ho, q⟩
  obtain ⟨b, cp, a3, c3, he, h1, k0, k1, k2, k3, hat⟩ := own_one ho
  exact ⟨b, cp, a3, c3, congrArg Ending.returned he, h1, k0, k1, k2, k3, hat, q⟩

end Go.Proofs.Yteplfajhmpmklaa
