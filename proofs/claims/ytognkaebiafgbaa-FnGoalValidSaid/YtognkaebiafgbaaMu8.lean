/-
  The reference's l1Some and l1Mutate: a term is drawn; a copy of a term, sometimes changed.
-/
import Derived.Deep.LoopGhost
import Derived.Test.YtognkaebiafgbaaMu6
import Derived.Test.YtognkaebiafgbaaMu7
namespace Go.Proofs.Ytognkaebiafgbaa
open Go.RowKit
set_option linter.unusedVariables false
theorem AppI.bound {T : Nat} {Z : Nat → Prop} {ts : List Tm} {v : Value} {w : World} (h : AppI T Z ts v w) : AppI T (fun b => Z b ∧ b < w.heap.size) ts v w := by
  obtain ⟨xs, h1, h2, h3⟩ := h
  exact ⟨xs, h1, fun g hg => ⟨h2 g hg, (h1.lt g hg).2⟩, flat_mono (fun b h => ⟨⟨h.1.1, h.2⟩, h.1.2⟩) (Agree.refl w) (flat_bound h3)⟩
theorem leaf_end2 {B r p P q C : Nat} {w wk X : World} {D : Tm → Prop} {t : Tm} {v : Value} (hB : w.heap.size ≤ B) (hX : wk.grownBy X (some B)) (he : ExtR r w wk) (hr0 : Rd w r q) (hr : Rd wk r P)
    (hv : Tm.at (fun b => w.heap.size ≤ b ∧ b ≠ B) wk t v) (hd : D t) (hp : P ≤ p + C) : TmPost r p C D w (.returned v) X := by
  have hrk := hr0.lt
  have f : Fr (fun k => k = B) wk X := Fr.of_grown hX (fun k e => by cases e; rfl)
  exact ⟨t, v, P, rfl, Tm.at_mono (fun b h => h.1) (f.agree (S := fun b => w.heap.size ≤ b ∧ b ≠ B) (fun k hk h => hk.2 h)) hv, hd, Rd.fr hr0 he hr f (fun k _ h => by omega), hp, he.fr f (fun k _ h => by omega)⟩
set_option maxRecDepth 100000 in
set_option maxHeartbeats 1000000 in
theorem specl1Some (r p : Nat) (w : World) (hp : p + 161 ≤ 1099511627776) (hr : Rd w r p) :
    Calls Try.prog 15 #[.pointer (some ⟨r, 0, none⟩)] w (TmPost r p 161 (Drawn 4) w) := by
  have hrl := hr.lt
  have HR0 := Lib.hid hr
  have R := Lib.hid (hr.ext (Ext.alloc w (.cells #[.int .i64 0, .int .i64 0, .string ⟨#[]⟩, .slice none 0 0] 25)))
  have E := Lib.hid (ExtR.of_ext (r := r) (Ext.alloc w (.cells #[.int .i64 0, .int .i64 0, .string ⟨#[]⟩, .slice none 0 0] 25)))
  have n0 : ¬ w.heap.size = r := by omega
  clear hr
  go_enter Try.func15, Try.ntmps15
  go_wp2_with fail
  refine (rdnum_new [3, 2, 4, 1] 4 rfl rfl (by decide) (by simp) (by omega) R.out (by simp)).mono ?_
  rintro e w2 ⟨x, rfl, hx, hr2, he2⟩
  have hx1 : 1 ≤ x ∧ x ≤ 4 := by simp at hx; omega
  obtain ⟨hx1, hx2⟩ := hx1
  have R := Lib.hid hr2
  have E1 := Lib.hid he2
  have E := Lib.hid (E.out.trans he2)
  have s2 : w.heap.size + 1 ≤ w2.heap.size := by have := he2.1.size; simp at this; omega
  clear hr2 he2 hx
  go_wp2_with fail
  refine (specl1Draw 3 x r (p + 1) _ (by omega) (by omega) (by omega) (by show p + 1 + 160 ≤ _; omega) R.out).mono ?_
  rintro e w3 ⟨t, v, p', rfl, hv, hd, hr3, hp', he3⟩
  obtain ⟨a3, c3, rfl⟩ := at_form hv
  have HV := Lib.hid hv
  have HD := Lib.hid hd
  have R := Lib.hid hr3
  have E1 := Lib.hid (E1.out.trans he3)
  have E := Lib.hid (E.out.trans he3)
  have hp2 : p' ≤ p + 1 + 160 := hp'
  obtain ⟨kc, kf⟩ := ExtR.cells E1.out
  have s0 : w.heap.size < w.heap.size + 1 := by omega
  clear hv hd hr3 he3 hp'
  go_wp2_with fail
  refine ret4_set (p := 2) (T := 25) (b := w.heap.size) (u0 := .int .i64 0) (u1 := .int .i64 0) (u2 := .string ⟨#[]⟩) (u3 := .slice none 0 0) (by kernel_rfl) (fun _ => by kernel_rfl) (fun _ => by kernel_rfl) rfl rfl (by rw [kc _ _ (by simp) n0]; go_simp) (by rw [kc _ _ (by simp) n0]; go_simp) (by rw [kc _ _ (by simp) n0]; go_simp) (by rw [kc _ _ (by simp) n0]; go_simp) ?_
  intro X hX
  exact leaf_end2 (Nat.le_refl _) hX E.out HR0.out R.out (Tm.at_mono (fun b h => ⟨by omega, by omega⟩) (Agree.refl _) HV.out) HD.out (by omega)
set_option maxRecDepth 100000 in
set_option maxHeartbeats 4000000 in
theorem specl1Mutate (r p : Nat) (t : Tm) (v : Value) (S : Nat → Prop) (w : World) (hp : p + 2 ≤ 1099511627776) (hr : Rd w r p) (ht : Tm.at S w t v) :
    Calls Try.prog 14 #[.pointer (some ⟨r, 0, none⟩), v] w (TmPost r p 2 (fun _ => True) w) := by
  have hrl := hr.lt
  have HR0 := Lib.hid hr
  have hsm := at_small ht
  obtain ⟨hs1, hs2⟩ := hsm
  have HT := Lib.hid (fun W (e : Ext w W) => Tm.at_ext e ht)
  obtain ⟨a0, c0, rfl⟩ := at_form ht
  obtain ⟨i0, hi, hz0, hz1, hz2⟩ := info_parts info_term3
  have HI := Lib.hid hi
  have HZ := Lib.hid hz0
  have HZ1 := Lib.hid hz1
  have HZ2 := Lib.hid hz2
  clear hr ht hi hz0 hz1 hz2
  go_enter Try.func14, Try.ntmps14
  go_wp2_with fail
  have E02 := Lib.hid ((Ext.alloc w (.cells #[.int .i64 t.kind, .int .i64 t.n, .string t.name, .slice a0 t.kids.length c0] 25)).trans (Ext.alloc _ (.cells #[.int .i64 0, .int .i64 0, .string ⟨#[]⟩, .slice none 0 0] 25)))
  refine (specl1Copy _ t (Nat.le_refl _) _ S _ (HT.out _ E02.out)).mono ?_
  rintro e w1 ⟨a1, c1, rfl, hA, e1⟩
  have s1 : w.heap.size + 2 ≤ w1.heap.size := by have := Below.size e1; simp at this; omega
  have A := Lib.hid (((hA.bound.zone (Z' := fun b => w.heap.size + 2 ≤ b ∧ b ≠ w1.heap.size) (fun b h => by simp at h; omega))).ext (Ext.alloc w1 (.cells #[.int .i64 t.kind, .int .i64 t.n, .string t.name, .slice a1 t.kids.length c1] 25)))
  have e1a := e1.trans (Ext.alloc w1 (.cells #[.int .i64 t.kind, .int .i64 t.n, .string t.name, .slice a1 t.kids.length c1] 25))
  have R := Lib.hid (HR0.out.ext (E02.out.trans e1a))
  have E := Lib.hid (ExtR.of_ext (r := r) e1a)
  clear hA e1 e1a HT
  go_wp2_with fail
  refine (rdpick r p 50 _ (by omega) (by decide) (by decide) R.out).mono ?_
  rintro e w2 ⟨x, rfl, hx0, hx1, hr2, he2⟩
  have nO : w1.heap.size ≠ r := by omega
  have n1 : ¬ w.heap.size + 1 = r := by omega
  have m1 : ¬ w.heap.size + 1 = w1.heap.size := by omega
  have m2 : ¬ w1.heap.size = w.heap.size + 1 := by omega
  have b0 := he2.cell (o := 0) (v := .int .i64 t.kind) nO (by go_simp)
  have b1 := he2.cell (o := 1) (v := .int .i64 t.n) nO (by go_simp)
  have b2 := he2.cell (o := 2) (v := .string t.name) nO (by go_simp)
  have b3 := he2.cell (o := 3) (v := .slice a1 t.kids.length c1) nO (by go_simp)
  have f0 := he2.frozen (o := 0) (by simp) nO (by go_simp)
  have f1 := he2.frozen (o := 1) (by simp) nO (by go_simp)
  have f2 := he2.frozen (o := 2) (by simp) nO (by go_simp)
  have f3 := he2.frozen (o := 3) (by simp) nO (by go_simp)
  have A := Lib.hid (A.out.keep (M := fun k => k = r) (Fr.of_extR he2 rfl) (fun k _ h => by omega))
  have R := Lib.hid hr2
  have E := Lib.hid (E.out.trans he2)
  have s2 : w1.heap.size + 1 ≤ w2.heap.size := by have := he2.1.size; simp at this; omega
  clear hr2 he2
  obtain rfl | rfl | rfl | rfl | rfl | hx : x = 0 ∨ x = 1 ∨ x = 2 ∨ x = 3 ∨ x = 4 ∨ 5 ≤ x := by omega
  · go_wp2_with fail
    refine (rdnum_new [0, 4, 1, 2, 3] 5 rfl rfl (by decide) (by simp) (by omega) R.out (by simp)).mono ?_
    rintro e w3 ⟨y, rfl, hy, hr3, he3⟩
    have b0 := he3.cell nO b0
    have b1 := he3.cell nO b1
    have b2 := he3.cell nO b2
    have b3 := he3.cell nO b3
    have f0 := he3.frozen (by omega) nO f0
    have f1 := he3.frozen (by omega) nO f1
    have f2 := he3.frozen (by omega) nO f2
    have f3 := he3.frozen (by omega) nO f3
    have A := Lib.hid (A.out.keep (M := fun k => k = r) (Fr.of_extR he3 rfl) (fun k _ h => by omega))
    have R := Lib.hid hr3
    have E := Lib.hid (E.out.trans he3)
    clear hr3 he3 hy
    obtain ⟨kc, kf⟩ := ExtR.cells E.out
    have g0 : w3.cell? ⟨w.heap.size + 1, 0, none⟩ = some (.int .i64 0) := (by rw [kc _ _ (by simp) n1]; go_simp)
    have g1 : w3.cell? ⟨w.heap.size + 1, 1, none⟩ = some (.int .i64 0) := (by rw [kc _ _ (by simp) n1]; go_simp)
    have g2 : w3.cell? ⟨w.heap.size + 1, 2, none⟩ = some (.string ⟨#[]⟩) := (by rw [kc _ _ (by simp) n1]; go_simp)
    have g3 : w3.cell? ⟨w.heap.size + 1, 3, none⟩ = some (.slice none 0 0) := (by rw [kc _ _ (by simp) n1]; go_simp)
    have z0 : w3.frozen? ⟨w.heap.size + 1, 0, none⟩ = false := by rw [kf _ _ (by simp) n1]; go_simp
    have z1 : w3.frozen? ⟨w.heap.size + 1, 1, none⟩ = false := by rw [kf _ _ (by simp) n1]; go_simp
    have z2 : w3.frozen? ⟨w.heap.size + 1, 2, none⟩ = false := by rw [kf _ _ (by simp) n1]; go_simp
    have z3 : w3.frozen? ⟨w.heap.size + 1, 3, none⟩ = false := by rw [kf _ _ (by simp) n1]; go_simp
    clear kc kf
    go_wp2_with fail
    refine ret4_set (p := 4) (T := 25) (b := w.heap.size + 1) (by kernel_rfl) (fun _ => by kernel_rfl) (fun _ => by kernel_rfl) rfl rfl (cell_other (by simpa using m1) g0) (cell_other (by simpa using m1) g1) (cell_other (by simpa using m1) g2) (cell_other (by simpa using m1) g3) ?_
    intro X hX
    have f : ∀ u, Fr (fun k => k = w1.heap.size) w3 (w3.setCell ⟨w1.heap.size, 0, none⟩ u) := fun u => Fr.setCell _ rfl
    have E' := (ExtR.of_ext E02.out).trans E.out
    exact leaf_end2 (t := .mk y t.n t.name t.kids) (by omega) hX (E'.fr (f _) (fun k _ h => by omega)) HR0.out (Rd.fr HR0.out E' R.out (f _) (fun k _ h => by omega)) (app_at ((A.out.keep (f _) (fun k _ h hz => hz.2 h)).zone (fun b h => by omega)) (hs1) hs2) trivial (by omega)
  · go_wp2_with fail
    refine (rdnum_new [26, 1000, -1000, -1, 1] 5 rfl rfl (by decide) (by simp) (by omega) R.out (by simp)).mono ?_
    rintro e w3 ⟨y, rfl, hy, hr3, he3⟩
    have b0 := he3.cell nO b0
    have b1 := he3.cell nO b1
    have b2 := he3.cell nO b2
    have b3 := he3.cell nO b3
    have f0 := he3.frozen (by omega) nO f0
    have f1 := he3.frozen (by omega) nO f1
    have f2 := he3.frozen (by omega) nO f2
    have f3 := he3.frozen (by omega) nO f3
    have A := Lib.hid (A.out.keep (M := fun k => k = r) (Fr.of_extR he3 rfl) (fun k _ h => by omega))
    have R := Lib.hid hr3
    have E := Lib.hid (E.out.trans he3)
    clear hr3 he3 hy
    obtain ⟨kc, kf⟩ := ExtR.cells E.out
    have g0 : w3.cell? ⟨w.heap.size + 1, 0, none⟩ = some (.int .i64 0) := (by rw [kc _ _ (by simp) n1]; go_simp)
    have g1 : w3.cell? ⟨w.heap.size + 1, 1, none⟩ = some (.int .i64 0) := (by rw [kc _ _ (by simp) n1]; go_simp)
    have g2 : w3.cell? ⟨w.heap.size + 1, 2, none⟩ = some (.string ⟨#[]⟩) := (by rw [kc _ _ (by simp) n1]; go_simp)
    have g3 : w3.cell? ⟨w.heap.size + 1, 3, none⟩ = some (.slice none 0 0) := (by rw [kc _ _ (by simp) n1]; go_simp)
    have z0 : w3.frozen? ⟨w.heap.size + 1, 0, none⟩ = false := by rw [kf _ _ (by simp) n1]; go_simp
    have z1 : w3.frozen? ⟨w.heap.size + 1, 1, none⟩ = false := by rw [kf _ _ (by simp) n1]; go_simp
    have z2 : w3.frozen? ⟨w.heap.size + 1, 2, none⟩ = false := by rw [kf _ _ (by simp) n1]; go_simp
    have z3 : w3.frozen? ⟨w.heap.size + 1, 3, none⟩ = false := by rw [kf _ _ (by simp) n1]; go_simp
    clear kc kf
    go_wp2_with fail
    refine ret4_set (p := 4) (T := 25) (b := w.heap.size + 1) (by kernel_rfl) (fun _ => by kernel_rfl) (fun _ => by kernel_rfl) rfl rfl (cell_other (by simpa using m1) g0) (cell_other (by simpa using m1) g1) (cell_other (by simpa using m1) g2) (cell_other (by simpa using m1) g3) ?_
    intro X hX
    have f : ∀ u, Fr (fun k => k = w1.heap.size) w3 (w3.setCell ⟨w1.heap.size, 1, none⟩ u) := fun u => Fr.setCell _ rfl
    have E' := (ExtR.of_ext E02.out).trans E.out
    exact leaf_end2 (t := .mk t.kind y t.name t.kids) (by omega) hX (E'.fr (f _) (fun k _ h => by omega)) HR0.out (Rd.fr HR0.out E' R.out (f _) (fun k _ h => by omega)) (app_at ((A.out.keep (f _) (fun k _ h hz => hz.2 h)).zone (fun b h => by omega)) (hs1) hs2) trivial (by omega)
  · go_wp2_with fail
    refine (rdof_new [⟨#[]⟩, ⟨#[88]⟩, ⟨#[116, 111, 111, 108, 111, 110, 103]⟩, ⟨#[195, 169]⟩, ⟨#[97]⟩] 5 rfl rfl (by decide) (by decide) (by simp) (by omega) R.out (by simp)).mono ?_
    rintro e w3 ⟨y, rfl, hy, hr3, he3⟩
    have b0 := he3.cell nO b0
    have b1 := he3.cell nO b1
    have b2 := he3.cell nO b2
    have b3 := he3.cell nO b3
    have f0 := he3.frozen (by omega) nO f0
    have f1 := he3.frozen (by omega) nO f1
    have f2 := he3.frozen (by omega) nO f2
    have f3 := he3.frozen (by omega) nO f3
    have hys : y.size ≤ 1048576 := (show ∀ z ∈ ([⟨#[]⟩, ⟨#[88]⟩, ⟨#[116, 111, 111, 108, 111, 110, 103]⟩, ⟨#[195, 169]⟩, ⟨#[97]⟩] : List ByteArray), z.size ≤ 1048576 by decide) y hy
    have A := Lib.hid (A.out.keep (M := fun k => k = r) (Fr.of_extR he3 rfl) (fun k _ h => by omega))
    have R := Lib.hid hr3
    have E := Lib.hid (E.out.trans he3)
    clear hr3 he3 hy
    obtain ⟨kc, kf⟩ := ExtR.cells E.out
    have g0 : w3.cell? ⟨w.heap.size + 1, 0, none⟩ = some (.int .i64 0) := (by rw [kc _ _ (by simp) n1]; go_simp)
    have g1 : w3.cell? ⟨w.heap.size + 1, 1, none⟩ = some (.int .i64 0) := (by rw [kc _ _ (by simp) n1]; go_simp)
    have g2 : w3.cell? ⟨w.heap.size + 1, 2, none⟩ = some (.string ⟨#[]⟩) := (by rw [kc _ _ (by simp) n1]; go_simp)
    have g3 : w3.cell? ⟨w.heap.size + 1, 3, none⟩ = some (.slice none 0 0) := (by rw [kc _ _ (by simp) n1]; go_simp)
    have z0 : w3.frozen? ⟨w.heap.size + 1, 0, none⟩ = false := by rw [kf _ _ (by simp) n1]; go_simp
    have z1 : w3.frozen? ⟨w.heap.size + 1, 1, none⟩ = false := by rw [kf _ _ (by simp) n1]; go_simp
    have z2 : w3.frozen? ⟨w.heap.size + 1, 2, none⟩ = false := by rw [kf _ _ (by simp) n1]; go_simp
    have z3 : w3.frozen? ⟨w.heap.size + 1, 3, none⟩ = false := by rw [kf _ _ (by simp) n1]; go_simp
    clear kc kf
    go_wp2_with fail
    refine ret4_set (p := 4) (T := 25) (b := w.heap.size + 1) (by kernel_rfl) (fun _ => by kernel_rfl) (fun _ => by kernel_rfl) rfl rfl (cell_other (by simpa using m1) g0) (cell_other (by simpa using m1) g1) (cell_other (by simpa using m1) g2) (cell_other (by simpa using m1) g3) ?_
    intro X hX
    have f : ∀ u, Fr (fun k => k = w1.heap.size) w3 (w3.setCell ⟨w1.heap.size, 2, none⟩ u) := fun u => Fr.setCell _ rfl
    have E' := (ExtR.of_ext E02.out).trans E.out
    exact leaf_end2 (t := .mk t.kind t.n y t.kids) (by omega) hX (E'.fr (f _) (fun k _ h => by omega)) HR0.out (Rd.fr HR0.out E' R.out (f _) (fun k _ h => by omega)) (app_at ((A.out.keep (f _) (fun k _ h hz => hz.2 h)).zone (fun b h => by omega)) (hys) hs2) trivial (by omega)
  · go_wp2_with fail
    go_loopg [] (5 - t.kids.length) (fun g wr => ∃ (us : List Tm) (av : Option Addr) (cv : Nat), g = 5 - us.length ∧ us.length ≤ 1048576 ∧ Hid (AppI 25 (fun b => w.heap.size + 2 ≤ b ∧ b ≠ w1.heap.size) us (.slice av us.length cv) wr) ∧
        wr.cell? ⟨w1.heap.size, 0, none⟩ = some (.int .i64 t.kind) ∧ wr.cell? ⟨w1.heap.size, 1, none⟩ = some (.int .i64 t.n) ∧ wr.cell? ⟨w1.heap.size, 2, none⟩ = some (.string t.name) ∧ wr.cell? ⟨w1.heap.size, 3, none⟩ = some (.slice av us.length cv) ∧
        wr.frozen? ⟨w1.heap.size, 3, none⟩ = false ∧ Hid (Rd wr r (p + 1)) ∧ Hid (ExtR r ((w.alloc (.cells #[.int .i64 t.kind, .int .i64 t.n, .string t.name, .slice a0 t.kids.length c0] 25)).alloc (.cells #[.int .i64 0, .int .i64 0, .string ⟨#[]⟩, .slice none 0 0] 25)) wr))
    case atStart => exact ⟨t.kids, a1, c1, rfl, hs2, A, b0, b1, b2, b3, f3, R, E⟩
    case round =>
      clear b0 b1 b2 b3 f0 f1 f2 f3 A R E
      obtain ⟨us, av, cv, hg, hus, A, b0, b1, b2, b3, f3, R, E⟩ := hrel
      by_cases hlt : us.length ≤ 4
      · have sO := block_lt_of_cell b0
        simp only at sO
        have HG := Lib.hid hg
        clear hg
        go_wp2_with fail
        go_region_law (first
          | (go_simp; go_at_call 29; refine (specl1Int 1 _).mono ?_; rintro e w3 ⟨v3, rfl, hv3, e3⟩; try replace e3 := Ext.undrew e3; have sO3 := Nat.lt_of_lt_of_le sO (Below.size e3); have d0 := e3.cell b0; have d1 := e3.cell b1; have d2 := e3.cell b2; have d3 := e3.cell b3; have k3 := e3.frozen sO f3; obtain ⟨a3, c3, rfl⟩ := at_form (hv3 (fun _ => True)); dsimp only)
          | (refine step_append_tm rfl (.tmp 36) (.tmp 38) 23 rfl (fun b => w.heap.size + 2 ≤ b ∧ b ≠ w1.heap.size) 25 i0 Try.underlying23 HI.out HZ.out HZ1.out HZ2.out (.slice av us.length cv) us (.mk 2 1 ⟨#[]⟩ []) a3 c3 rfl (A.out.ext e3) rfl (hv3 _) (by omega) (fun b hb => by omega) ?_; intro av2 cv2 w4 hA2 hf2; have A2 := Lib.hid hA2; have F2 := Lib.hid hf2; have q0 := hf2.cell (fun h => h.2 rfl) d0; have q1 := hf2.cell (fun h => h.2 rfl) d1; have q2 := hf2.cell (fun h => h.2 rfl) d2; have q3 := hf2.cell (fun h => h.2 rfl) d3; have j3 := hf2.frozen sO3 (fun h => h.2 rfl) k3; clear hA2 hf2 d0 d1 d2 d3 k3))
        all_goals go_wp2_with fail
        all_goals
          have hlen : (us ++ [Tm.mk 2 1 ⟨#[]⟩ []]).length = us.length + 1 := by simp
          have F3 : ∀ u, Fr (fun b => w.heap.size + 2 ≤ b) w3 (w4.setCell ⟨w1.heap.size, 3, none⟩ u) := fun u => (F2.out.mono (fun _ _ h => h.1)).trans (Fr.setCell _ (by omega))
          go_roundg (5 - (us.length + 1))
          case measure => have := HG.out; omega
          case rel =>
            refine ⟨us ++ [.mk 2 1 ⟨#[]⟩ []], av2, cv2, by rw [hlen], by rw [hlen]; omega, Lib.hid ?_, cell_off (by decide) q0, cell_off (by decide) q1, cell_off (by decide) q2, ?_, ?_, Lib.hid ?_, Lib.hid ?_⟩
            · rw [hlen]
              exact A2.out.keep (M := fun k => k = w1.heap.size) (Fr.setCell _ rfl) (fun k _ h hz => hz.2 h)
            · rw [hlen]
              exact cell_same q3
            · rw [World.frozen?_setCell]
              exact j3
            · exact Rd.fr HR0.out ((ExtR.of_ext E02.out).trans E.out) R.out ((Fr.of_ext e3).trans (F3 _)) (fun k _ h => by omega)
            · exact (E.out.trans (ExtR.of_ext e3)).fr (F3 _) (fun k _ h => ⟨by simp; omega, by omega⟩)
      · obtain ⟨kc, kf⟩ := ExtR.cells E.out
        have g0 : wr.cell? ⟨w.heap.size + 1, 0, none⟩ = some (.int .i64 0) := (by rw [kc _ _ (by simp) n1]; go_simp)
        have g1 : wr.cell? ⟨w.heap.size + 1, 1, none⟩ = some (.int .i64 0) := (by rw [kc _ _ (by simp) n1]; go_simp)
        have g2 : wr.cell? ⟨w.heap.size + 1, 2, none⟩ = some (.string ⟨#[]⟩) := (by rw [kc _ _ (by simp) n1]; go_simp)
        have g3 : wr.cell? ⟨w.heap.size + 1, 3, none⟩ = some (.slice none 0 0) := (by rw [kc _ _ (by simp) n1]; go_simp)
        have z0 : wr.frozen? ⟨w.heap.size + 1, 0, none⟩ = false := by rw [kf _ _ (by simp) n1]; go_simp
        have z1 : wr.frozen? ⟨w.heap.size + 1, 1, none⟩ = false := by rw [kf _ _ (by simp) n1]; go_simp
        have z2 : wr.frozen? ⟨w.heap.size + 1, 2, none⟩ = false := by rw [kf _ _ (by simp) n1]; go_simp
        have z3 : wr.frozen? ⟨w.heap.size + 1, 3, none⟩ = false := by rw [kf _ _ (by simp) n1]; go_simp
        clear kc kf
        have HG := Lib.hid hg
        clear hg
        go_wp2_with fail
        refine ret4_set (p := 4) (T := 25) (b := w.heap.size + 1) (by kernel_rfl) (fun _ => by kernel_rfl) (fun _ => by kernel_rfl) rfl rfl g0 g1 g2 g3 ?_
        intro X hX
        have E' := (ExtR.of_ext E02.out).trans E.out
        exact leaf_end2 (t := .mk t.kind t.n t.name us) (by omega) hX E' HR0.out R.out (app_at (A.out.zone (fun b h => by omega)) hs1 hus) trivial (by omega)
  · have U : Hid (Tm.at (fun b => w.heap.size + 2 ≤ b ∧ b ≠ w1.heap.size) w2 t (.agg #[.int .i64 t.kind, .int .i64 t.n, .string t.name, .slice a1 t.kids.length c1])) := Lib.hid (app_at' A.out ⟨hs1, hs2⟩)
    go_wp2_with fail
    go_loopw [6] (fun i wr => ∃ (k : Nat) (u : Tm) (av : Option Addr) (cv : Nat), k ≤ 30 ∧ i = .int .i64 k ∧ Hid (Tm.at (fun b => w.heap.size + 2 ≤ b ∧ b ≠ w1.heap.size) wr u (.agg #[.int .i64 u.kind, .int .i64 u.n, .string u.name, .slice av u.kids.length cv])) ∧
        wr.cell? ⟨w1.heap.size, 0, none⟩ = some (.int .i64 u.kind) ∧ wr.cell? ⟨w1.heap.size, 1, none⟩ = some (.int .i64 u.n) ∧ wr.cell? ⟨w1.heap.size, 2, none⟩ = some (.string u.name) ∧ wr.cell? ⟨w1.heap.size, 3, none⟩ = some (.slice av u.kids.length cv) ∧
        wr.frozen? ⟨w1.heap.size, 0, none⟩ = false ∧ wr.frozen? ⟨w1.heap.size, 1, none⟩ = false ∧ wr.frozen? ⟨w1.heap.size, 2, none⟩ = false ∧ wr.frozen? ⟨w1.heap.size, 3, none⟩ = false ∧ Hid (Rd wr r (p + 1)) ∧ Hid (ExtR r ((w.alloc (.cells #[.int .i64 t.kind, .int .i64 t.n, .string t.name, .slice a0 t.kids.length c0] 25)).alloc (.cells #[.int .i64 0, .int .i64 0, .string ⟨#[]⟩, .slice none 0 0] 25)) wr)) (fun i _ => 30 - (intOf i).toNat)
    case atStart => exact ⟨0, t, a1, c1, by omega, rfl, U, b0, b1, b2, b3, f0, f1, f2, f3, R, E⟩
    case round =>
      clear b0 b1 b2 b3 f0 f1 f2 f3 A R E U
      obtain ⟨k, u, av, cv, hk, rfl, U, b0, b1, b2, b3, f0, f1, f2, f3, R, E⟩ := hrel
      by_cases hlt : k < 30
      · have sO := block_lt_of_cell b0
        simp only at sO
        go_wp2_with fail
        refine (specl1Struct ⟨#[115]⟩ [u] (by decide) (by simp) _ (fun b => (w.heap.size + 2 ≤ b ∧ b ≠ w1.heap.size) ∨ b = wr.heap.size) _ (sl_new (S := fun b => w.heap.size + 2 ≤ b ∧ b ≠ w1.heap.size) (xs := tcells u av cv ++ []) ⟨av, cv, _, rfl, U.out, rfl⟩ rfl rfl (by simp))).mono ?_
        rintro e w3 ⟨v3, rfl, hv3, e3⟩
        obtain ⟨a3, c3, rfl⟩ := at_form hv3
        have e3 := (Ext.alloc _ _).trans e3
        have V := Lib.hid (Tm.at_mono (S' := fun b => w.heap.size + 2 ≤ b ∧ b ≠ w1.heap.size) (fun b h => by simp at h; omega) (Agree.refl _) hv3)
        have d0 := e3.cell b0
        have d1 := e3.cell b1
        have d2 := e3.cell b2
        have d3 := e3.cell b3
        have k0 := e3.frozen sO f0
        have k1 := e3.frozen sO f1
        have k2 := e3.frozen sO f2
        have k3 := e3.frozen sO f3
        have E3 := Lib.hid e3
        clear hv3 e3
        go_wp2_with fail
        obtain ⟨x0, x1, x2, x3⟩ := set4_cells (.int .i64 3) (.int .i64 0) (.string ⟨#[115]⟩) (.slice a3 1 c3) d0 d1 d2 d3
        have F : Fr (fun k => k = w1.heap.size) w3 (set4 w3 w1.heap.size (.int .i64 3) (.int .i64 0) (.string ⟨#[115]⟩) (.slice a3 1 c3)) := Fr.of_grown (set4_grown _ _ _ _ _ _) (fun k e => by cases e; rfl)
        go_roundw
        case rel =>
          refine ⟨k + 1, .mk 3 0 ⟨#[115]⟩ [u], a3, c3, by omega, by simp, Lib.hid (F.at V.out (fun k h h2 => h.2 h2)), x0, x1, x2, x3, ?_, ?_, ?_, ?_, Lib.hid ?_, Lib.hid ?_⟩
          · simp only [World.frozen?_setCell]; exact k0
          · simp only [World.frozen?_setCell]; exact k1
          · simp only [World.frozen?_setCell]; exact k2
          · simp only [World.frozen?_setCell]; exact k3
          · exact Rd.fr HR0.out ((ExtR.of_ext E02.out).trans (E.out.trans (ExtR.of_ext E3.out))) (R.out.ext E3.out) F (fun k _ h => by omega)
          · exact (E.out.trans (ExtR.of_ext E3.out)).fr F (fun k _ h => ⟨by simp; omega, by omega⟩)
        case measure => simp [intOf]; omega
      · obtain ⟨kc, kf⟩ := ExtR.cells E.out
        have g0 : wr.cell? ⟨w.heap.size + 1, 0, none⟩ = some (.int .i64 0) := (by rw [kc _ _ (by simp) n1]; go_simp)
        have g1 : wr.cell? ⟨w.heap.size + 1, 1, none⟩ = some (.int .i64 0) := (by rw [kc _ _ (by simp) n1]; go_simp)
        have g2 : wr.cell? ⟨w.heap.size + 1, 2, none⟩ = some (.string ⟨#[]⟩) := (by rw [kc _ _ (by simp) n1]; go_simp)
        have g3 : wr.cell? ⟨w.heap.size + 1, 3, none⟩ = some (.slice none 0 0) := (by rw [kc _ _ (by simp) n1]; go_simp)
        have z0 : wr.frozen? ⟨w.heap.size + 1, 0, none⟩ = false := by rw [kf _ _ (by simp) n1]; go_simp
        have z1 : wr.frozen? ⟨w.heap.size + 1, 1, none⟩ = false := by rw [kf _ _ (by simp) n1]; go_simp
        have z2 : wr.frozen? ⟨w.heap.size + 1, 2, none⟩ = false := by rw [kf _ _ (by simp) n1]; go_simp
        have z3 : wr.frozen? ⟨w.heap.size + 1, 3, none⟩ = false := by rw [kf _ _ (by simp) n1]; go_simp
        clear kc kf
        go_wp2_with fail
        refine ret4_set (p := 4) (T := 25) (b := w.heap.size + 1) (by kernel_rfl) (fun _ => by kernel_rfl) (fun _ => by kernel_rfl) rfl rfl g0 g1 g2 g3 ?_
        intro X hX
        have E' := (ExtR.of_ext E02.out).trans E.out
        exact leaf_end2 (t := u) (by omega) hX E' HR0.out R.out (Tm.at_mono (fun b h => by omega) (Agree.refl _) U.out) trivial (by omega)
  · have h0 : (x == 0) = false := by simp; omega
    have h1 : (x == 1) = false := by simp; omega
    have h2 : (x == 2) = false := by simp; omega
    have h3 : (x == 3) = false := by simp; omega
    have h4 : (x == 4) = false := by simp; omega
    obtain ⟨kc, kf⟩ := ExtR.cells E.out
    have g0 : w2.cell? ⟨w.heap.size + 1, 0, none⟩ = some (.int .i64 0) := (by rw [kc _ _ (by simp) n1]; go_simp)
    have g1 : w2.cell? ⟨w.heap.size + 1, 1, none⟩ = some (.int .i64 0) := (by rw [kc _ _ (by simp) n1]; go_simp)
    have g2 : w2.cell? ⟨w.heap.size + 1, 2, none⟩ = some (.string ⟨#[]⟩) := (by rw [kc _ _ (by simp) n1]; go_simp)
    have g3 : w2.cell? ⟨w.heap.size + 1, 3, none⟩ = some (.slice none 0 0) := (by rw [kc _ _ (by simp) n1]; go_simp)
    have z0 : w2.frozen? ⟨w.heap.size + 1, 0, none⟩ = false := by rw [kf _ _ (by simp) n1]; go_simp
    have z1 : w2.frozen? ⟨w.heap.size + 1, 1, none⟩ = false := by rw [kf _ _ (by simp) n1]; go_simp
    have z2 : w2.frozen? ⟨w.heap.size + 1, 2, none⟩ = false := by rw [kf _ _ (by simp) n1]; go_simp
    have z3 : w2.frozen? ⟨w.heap.size + 1, 3, none⟩ = false := by rw [kf _ _ (by simp) n1]; go_simp
    clear kc kf
    go_wp2_with fail
    refine ret4_set (p := 4) (T := 25) (b := w.heap.size + 1) (by kernel_rfl) (fun _ => by kernel_rfl) (fun _ => by kernel_rfl) rfl rfl g0 g1 g2 g3 ?_
    intro X hX
    have E' := (ExtR.of_ext E02.out).trans E.out
    exact leaf_end2 (t := t) (by omega) hX E' HR0.out R.out (app_at' (A.out.zone (fun b h => by omega)) ⟨hs1, hs2⟩) trivial (by omega)
end Go.Proofs.Ytognkaebiafgbaa
