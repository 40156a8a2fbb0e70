/-
  The reference's l2Draw: it draws a term with operators; DrawWriteTerm.
-/
import Derived.Test.YtifklfnpaigdkaaDoorDraws
namespace Go.Proofs.YtifklfnpaigdkaaDoor
open Go.RowKit
set_option linter.unusedVariables false

def bC : Nat → Nat
  | 0 => 5 + dC 0
  | d + 1 => 5 + dC (d + 1) + 2 * bC d
theorem bC_ge : ∀ d, 5 + dC d ≤ bC d
  | 0 => Nat.le_refl _
  | d + 1 => by simp only [bC]; omega
def ArW (d : Nat) : Prop := ∀ (depth : Int) (r p : Nat) (w : World), depth ≤ d + 1 → -1000 ≤ depth → depth ≤ 1000 → p + bC d ≤ 1099511627776 → Rd w r p →
  Calls Tryd.prog 34 #[.pointer (some ⟨r, 0, none⟩), .int .i64 depth] w (TmPost r p (bC d) (fun _ => True) w)
theorem l2_end {r p P q C : Nat} {w wk X : World} {t : Tm} {v : Value} {o : Obj} (hX : wk.grownBy X (some w.heap.size)) (he : ExtR r (w.alloc o) wk) (hr0 : Rd w r q) (hr : Rd wk r P)
    (hv : Tm.at (fun b => w.heap.size + 1 ≤ b) wk t v) (hp : P ≤ p + C) : TmPost r p C (fun _ => True) w (.returned v) X := leaf_end hX he hr0 hr hv trivial hp

set_option maxRecDepth 100000 in
set_option maxHeartbeats 2000000 in
theorem l2_low (depth : Int) (C r p : Nat) (w : World) (hC : 5 + dC 0 ≤ C) (hd : depth < 2) (hd1 : -1000 ≤ depth) (hp : p + C ≤ 1099511627776) (hr : Rd w r p) :
    Calls Tryd.prog 34 #[.pointer (some ⟨r, 0, none⟩), .int .i64 depth] w (TmPost r p C (fun _ => True) w) := by
  have hrl := hr.lt
  have n0 : ¬ w.heap.size = r := by omega
  have R := Lib.hid (hr.ext (Ext.alloc w (.cells #[.int .i64 0, .int .i64 0, .string ⟨#[]⟩, .slice none 0 0] 29)))
  have E := Lib.hid (ExtR.refl r (w.alloc (.cells #[.int .i64 0, .int .i64 0, .string ⟨#[]⟩, .slice none 0 0] 29)))
  have HR0 := Lib.hid hr
  clear hr
  simp only [dC] at hC
  have hd' : decide (depth < 2) = true := by simpa using hd
  go_enter Tryd.func34, Tryd.ntmps34
  go_wp2_with fail
  refine (specl1Draw 0 1 r p _ (by omega) (by omega) (by omega) (by simp only [dC]; omega) R.out).mono ?_
  rintro e w3 ⟨t, v3, p3, rfl, hv3, _, hr3, hp3, he3⟩
  simp only [dC] at hp3
  obtain ⟨a3, c3, rfl⟩ := at_form hv3
  have HV := Lib.hid hv3
  have R := Lib.hid hr3
  have E := Lib.hid (E.out.trans he3)
  clear hv3 hr3 he3
  obtain ⟨kc, kf⟩ := ExtR.cells E.out
  have s0 : w.heap.size < w.heap.size + 1 := by omega
  go_wp2_with fail
  refine ret4_set (p := 4) (T := 29) (b := w.heap.size) (u0 := .int .i64 0) (u1 := .int .i64 0) (u2 := .string ⟨#[]⟩) (u3 := .slice none 0 0) (by kernel_rfl) (fun _ => by kernel_rfl) (fun _ => by kernel_rfl) rfl rfl (by rw [kc _ _ (by simp) n0]; go_simp) (by rw [kc _ _ (by simp) n0]; go_simp) (by rw [kc _ _ (by simp) n0]; go_simp) (by rw [kc _ _ (by simp) n0]; go_simp) ?_
  intro X hX
  exact l2_end hX E.out HR0.out R.out (Tm.at_mono (fun b h => by simp at h; omega) (Agree.refl _) HV.out) (by omega)

set_option maxRecDepth 100000 in
set_option maxHeartbeats 4000000 in
theorem specl2Draw : ∀ d, ArW d := by
  intro d
  induction d with
  | zero => exact fun depth r p w h1 h2 _ h4 h5 => l2_low depth _ r p w (Nat.le_refl _) (by omega) h2 h4 h5
  | succ d ih =>
    intro depth r p w hdep h2 h3 h4 hr
    have hge := bC_ge d
    have hdc : bC (d + 1) = 5 + dC (d + 1) + 2 * bC d := rfl
    have hdd : dC 0 ≤ dC (d + 1) := by have := dC_ge (d + 1); simp only [dC] at *; omega
    rw [hdc] at h4 ⊢
    by_cases hd : depth < 2
    · exact l2_low depth _ r p w (by omega) hd h2 (by omega) hr
    have IH := Lib.hid ih
    have HDEP := Lib.hid hdep
    have hrl := hr.lt
    have n0 : ¬ w.heap.size = r := by omega
    have R := Lib.hid (hr.ext (Ext.alloc w (.cells #[.int .i64 0, .int .i64 0, .string ⟨#[]⟩, .slice none 0 0] 29)))
    have E := Lib.hid (ExtR.refl r (w.alloc (.cells #[.int .i64 0, .int .i64 0, .string ⟨#[]⟩, .slice none 0 0] 29)))
    have HR0 := Lib.hid hr
    clear hr ih hdep hdc
    have hd' : decide (depth < 2) = false := by simpa using hd
    go_enter Tryd.func34, Tryd.ntmps34
    go_wp2_with fail
    refine (rdpick r p 3 _ (by omega) (by decide) (by decide) R.out).mono ?_
    rintro e w2 ⟨x, rfl, hx0, hx1, hr2, he2⟩
    have R := Lib.hid hr2
    have E := Lib.hid (E.out.trans he2)
    have hs2 : w.heap.size + 1 ≤ w2.heap.size := by have := he2.1.size; simpa using this
    clear hr2 he2
    by_cases hx : x = 0
    · subst hx
      go_wp2_with fail
      refine (specl1Draw (d + 1) depth r (p + 1) _ (by have := HDEP.out; omega) (by omega) (by omega) (by omega) R.out).mono ?_
      rintro e w3 ⟨t, v3, p3, rfl, hv3, _, hr3, hp3, he3⟩
      obtain ⟨a3, c3, rfl⟩ := at_form hv3
      have HV := Lib.hid hv3
      have R := Lib.hid hr3
      have E := Lib.hid (E.out.trans he3)
      clear hv3 hr3 he3
      obtain ⟨kc, kf⟩ := ExtR.cells E.out
      have s0 : w.heap.size < w.heap.size + 1 := by omega
      go_wp2_with fail
      refine ret4_set (p := 4) (T := 29) (b := w.heap.size) (u0 := .int .i64 0) (u1 := .int .i64 0) (u2 := .string ⟨#[]⟩) (u3 := .slice none 0 0) (by kernel_rfl) (fun _ => by kernel_rfl) (fun _ => by kernel_rfl) rfl rfl (by rw [kc _ _ (by simp) n0]; go_simp) (by rw [kc _ _ (by simp) n0]; go_simp) (by rw [kc _ _ (by simp) n0]; go_simp) (by rw [kc _ _ (by simp) n0]; go_simp) ?_
      intro X hX
      exact l2_end hX E.out HR0.out R.out (Tm.at_mono (fun b h => by omega) (Agree.refl _) HV.out) (by omega)
    have hx' : (x == 0) = false := by simpa using hx
    clear hx
    go_wp2_with fail
    refine (rdof_new [⟨#[43]⟩, ⟨#[45]⟩, ⟨#[42]⟩, ⟨#[105, 115]⟩, ⟨#[109, 111, 100]⟩, ⟨#[61]⟩, ⟨#[47, 47]⟩, ⟨#[61, 60]⟩] 8 rfl rfl (by decide) (by decide) (by simp) (by omega) R.out (by simp)).mono ?_
    rintro e w3 ⟨s, rfl, hs, hr3, he3⟩
    have hss : s.size ≤ 1048576 := (show ∀ z ∈ ([⟨#[43]⟩, ⟨#[45]⟩, ⟨#[42]⟩, ⟨#[105, 115]⟩, ⟨#[109, 111, 100]⟩, ⟨#[61]⟩, ⟨#[47, 47]⟩, ⟨#[61, 60]⟩] : List ByteArray), z.size ≤ 1048576 by decide) s hs
    have R := Lib.hid hr3
    have E := Lib.hid (E.out.trans he3)
    have hs3 : w.heap.size + 1 ≤ w3.heap.size := by have := E.out.1.size; simp at this; omega
    clear hr3 he3 hs
    go_wp2_with fail
    refine (IH.out (depth - 1) r (p + 1 + 1) _ (by have := HDEP.out; omega) (by omega) (by omega) (by omega) R.out).mono ?_
    rintro e w4 ⟨t1, v1, p1, rfl, hv1, _, hr4, hp1, he4⟩
    have hs4 := he4.1.size
    obtain ⟨a1, c1, rfl⟩ := at_form hv1
    have R := Lib.hid hr4
    have E := Lib.hid (E.out.trans he4)
    have V1 := Lib.hid hv1
    clear hr4 he4 hv1
    go_wp2_with fail
    refine (IH.out (depth - 1) r p1 _ (by have := HDEP.out; omega) (by omega) (by omega) (by omega) R.out).mono ?_
    rintro e w5 ⟨t2, v2, p2, rfl, hv2, _, hr5, hp2, he5⟩
    have hs5 := he5.1.size
    obtain ⟨a2, c2, rfl⟩ := at_form hv2
    have R := Lib.hid hr5
    have E := Lib.hid (E.out.trans he5)
    have V1 := Lib.hid (Tm.at_mono (fun b h => h) (he5.agree (S := fun b => w3.heap.size ≤ b) (by omega)) V1.out)
    have V2 := Lib.hid hv2
    clear hr5 he5 hv2
    go_wp2_with fail
    refine (specl1Struct s [t1, t2] hss (by simp) _ (fun b => w.heap.size + 1 ≤ b ∨ b = w5.heap.size) _ (sl_new (S := fun b => w.heap.size + 1 ≤ b) (xs := tcells t1 a1 c1 ++ (tcells t2 a2 c2 ++ [])) ⟨a1, c1, _, rfl, Tm.at_mono (fun b h => by omega) (Agree.refl _) V1.out, a2, c2, _, rfl, Tm.at_mono (fun b h => by omega) (Agree.refl _) V2.out, rfl⟩ rfl rfl (by simp))).mono ?_
    rintro e w6 ⟨v, rfl, hv, e6⟩
    obtain ⟨a6, c6, rfl⟩ := at_form hv
    have HV := Lib.hid hv
    have e56 := (Ext.alloc _ _).trans e6
    have R := Lib.hid (R.out.ext e56)
    have E := Lib.hid (E.out.trans (ExtR.of_ext e56))
    clear hv e6 e56
    obtain ⟨kc, kf⟩ := ExtR.cells E.out
    have s0 : w.heap.size < w.heap.size + 1 := by omega
    go_wp2_with fail
    refine ret4_set (p := 4) (T := 29) (b := w.heap.size) (u0 := .int .i64 0) (u1 := .int .i64 0) (u2 := .string ⟨#[]⟩) (u3 := .slice none 0 0) (by kernel_rfl) (fun _ => by kernel_rfl) (fun _ => by kernel_rfl) rfl rfl (by rw [kc _ _ (by simp) n0]; go_simp) (by rw [kc _ _ (by simp) n0]; go_simp) (by rw [kc _ _ (by simp) n0]; go_simp) (by rw [kc _ _ (by simp) n0]; go_simp) ?_
    intro X hX
    refine l2_end hX E.out HR0.out R.out (Tm.at_mono (fun b h => ?_) (Agree.refl _) HV.out) (by omega)
    simp at h; omega

set_option maxRecDepth 100000 in
set_option maxHeartbeats 1000000 in
theorem drawWriteTerm (v : Value) (w : World) (hv : BytesAt w v) : Calls Tryd.prog 15 #[v] w (TmOut w) := by
  have B1 := Lib.hid (BoxT.new w (.int .i64 0) (.int .i64 0) (.string ⟨#[]⟩) (.slice none 0 0) 29 rfl)
  have HV := Lib.hid (hv.ext (Ext.alloc w (.cells #[.int .i64 0, .int .i64 0, .string ⟨#[]⟩, .slice none 0 0] 29)))
  obtain ⟨a, len, cap, rfl, _⟩ := hv
  go_enter Tryd.func15, Tryd.ntmps15
  go_wp2_with fail
  refine (specl18Open _ _ HV.out).mono ?_
  rintro e w1 ⟨r, rfl, hr, hrd, e1⟩
  have hr : w.heap.size + 1 ≤ r := by simp at hr; omega
  have hlt := hrd.lt
  have nr : w.heap.size ≠ r := by omega
  have R := Lib.hid hrd
  have B1 := Lib.hid (B1.out.ext e1)
  have E1 := Lib.hid ((Ext.alloc w (.cells #[.int .i64 0, .int .i64 0, .string ⟨#[]⟩, .slice none 0 0] 29)).trans e1)
  clear hrd e1 HV
  go_wp2_with fail
  refine (rdnum_new [3, 2, 4, 1] 4 rfl rfl (by decide) (by simp) (by omega) R.out (by simp)).mono ?_
  rintro e w8 ⟨n, rfl, hn, hr8, he8⟩
  obtain ⟨hn1, hn3⟩ : 1 ≤ n ∧ n ≤ 4 := by simp at hn; omega
  have R := Lib.hid hr8
  have B1 := Lib.hid (B1.out.extR he8 nr)
  have E := Lib.hid he8
  have s8 := he8.1.size
  clear hr8 he8 hn
  go_wp2_with fail
  refine (specl2Draw 3 n r _ _ (by omega) (by omega) (by omega) (by simp only [bC, dC]; omega) R.out).mono ?_
  rintro e w2 ⟨t, v2, p2, rfl, hv2, _, hr2, hp2, he2⟩
  simp only [bC, dC] at hp2
  have R := Lib.hid hr2
  have V := Lib.hid hv2
  have B1 := Lib.hid (B1.out.extR he2 nr)
  have E := Lib.hid (E.out.trans he2)
  have s2 := he2.1.size
  clear hv2 hr2 he2
  go_wp2_with fail
  refine (specl1Mutate r p2 t v2 _ _ (by omega) R.out V.out).mono ?_
  rintro e w3 ⟨u, v3, p3, rfl, hv3, _, hr3, hp3, he3⟩
  obtain ⟨a3, c3, rfl⟩ := at_form hv3
  have V := Lib.hid hv3
  have BF := B1.out.extR he3 nr
  obtain ⟨g0, g1, g2, g3, z0, z1, z2, z3⟩ := BF
  have E := Lib.hid (E.out.trans he3)
  clear hv3 hr3 he3 B1 R
  go_wp2_with fail
  refine ret4_set (p := 2) (T := 29) (b := w.heap.size) (by kernel_rfl) (fun _ => by kernel_rfl) (fun _ => by kernel_rfl) rfl rfl g0 g1 g2 g3 ?_
  intro X hX
  exact out_end (Nat.le_refl _) hX (ExtR.below E1.out E.out (by omega)) (Tm.at_mono (fun b h => by omega) (Agree.refl _) V.out)

end Go.Proofs.YtifklfnpaigdkaaDoor
