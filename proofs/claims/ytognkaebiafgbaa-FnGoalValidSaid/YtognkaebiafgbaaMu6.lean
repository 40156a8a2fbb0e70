/-
  The reference's l1Draw: it draws a small valid term.
-/
import Derived.Test.YtognkaebiafgbaaMu5
namespace Go.Proofs.Ytognkaebiafgbaa
open Go.RowKit
set_option linter.unusedVariables false
def drawNames : List ByteArray := [⟨#[97]⟩, ⟨#[98]⟩, ⟨#[110, 105, 108]⟩, ⟨#[91, 93]⟩, ⟨#[102, 111, 111]⟩, ⟨#[43]⟩, ⟨#[46]⟩, ⟨#[102]⟩, ⟨#[103]⟩, ⟨#[115]⟩, ⟨#[61]⟩, ⟨#[105, 115]⟩]
def Drawn : Nat → Tm → Prop
  | 0, _ => False
  | d + 1, .mk k n s ks => (k = 1 ∧ 0 ≤ n ∧ n ≤ 3 ∧ s = ⟨#[]⟩ ∧ ks = []) ∨ (k = 2 ∧ -999 ≤ n ∧ n ≤ 999 ∧ s = ⟨#[]⟩ ∧ ks = []) ∨ (k = 3 ∧ n = 0 ∧ s ∈ drawNames ∧ ks.length ≤ 3 ∧ ∀ u ∈ ks, Drawn d u)
theorem Drawn.name {d : Nat} {t : Tm} (h : Drawn d t) : t.name.size ≤ 6 := by
  obtain ⟨k, n, s, ks⟩ := t
  cases d with
  | zero => exact h.elim
  | succ d =>
    rcases h with ⟨_, _, _, rfl, _⟩ | ⟨_, _, _, rfl, _⟩ | ⟨_, _, h3, _⟩
    · show (⟨#[]⟩ : ByteArray).size ≤ 6; decide
    · show (⟨#[]⟩ : ByteArray).size ≤ 6; decide
    · have hall : ∀ x ∈ drawNames, x.size ≤ 6 := by decide
      exact hall s h3
def dC : Nat → Nat
  | 0 => 4
  | d + 1 => 4 + 3 * dC d
theorem dC_ge : ∀ d, 4 ≤ dC d
  | 0 => Nat.le_refl _
  | d + 1 => by simp [dC]
def TmPost (r p C : Nat) (D : Tm → Prop) (w : World) (e : Ending) (w' : World) : Prop :=
  ∃ t v p', e = .returned v ∧ Tm.at (fun b => w.heap.size ≤ b) w' t v ∧ D t ∧ Rd w' r p' ∧ p' ≤ p + C ∧ ExtR r w w'
set_option maxHeartbeats 1000000 in
theorem specl1StructO (s : ByteArray) (w : World) (hs : s.size ≤ 1048576) : Calls Try.prog 26 #[.string s, .slice none 0 0] w fun e w' =>
    e = .returned (.agg #[.int .i64 3, .int .i64 0, .string s, .slice (some ⟨w.heap.size + 1, 0, none⟩) 0 0]) ∧ (∀ Z : Nat → Prop, Z (w.heap.size + 1) → ¬ Z w.heap.size → AppI 25 Z [] (.slice (some ⟨w.heap.size + 1, 0, none⟩) 0 0) w') ∧ Ext w w' ∧ w.heap.size + 1 < w'.heap.size := by
  go_enter Try.func26, Try.ntmps26
  go_wp2_with fail
  refine ret4 (p := 4) (T := 25) (v0 := .int .i64 3) (v1 := .int .i64 0) (v2 := .string s) (v3 := .slice (some ⟨w.heap.size + 1, 0, none⟩) 0 0) (by kernel_rfl) (fun _ => by kernel_rfl) (fun _ => by kernel_rfl) rfl rfl (by go_simp) (by go_simp) (by go_simp) (by go_simp) ?_
  refine ⟨rfl, fun Z h1 h2 => ?_, (Ext.alloc _ _).trans (Ext.alloc _ _), by simp⟩
  exact AppI.empty (by simp) h1
def DrawC (d : Nat) : Prop := ∀ (depth : Int) (r p : Nat) (w : World), depth ≤ d + 1 → -1000 ≤ depth → depth ≤ 1000 → p + dC d ≤ 1099511627776 → Rd w r p →
  Calls Try.prog 27 #[.pointer (some ⟨r, 0, none⟩), .int .i64 depth] w (TmPost r p (dC d) (Drawn (d + 1)) w)
theorem leaf_end {r p P q C : Nat} {w wk X : World} {D : Tm → Prop} {t : Tm} {v : Value} {o : Obj} (hX : wk.grownBy X (some w.heap.size)) (he : ExtR r (w.alloc o) wk) (hr0 : Rd w r q) (hr : Rd wk r P)
    (hv : Tm.at (fun b => w.heap.size + 1 ≤ b) wk t v) (hd : D t) (hp : P ≤ p + C) : TmPost r p C D w (.returned v) X := by
  have hrk := hr0.lt
  have f : Fr (fun k => k = w.heap.size) wk X := Fr.of_grown hX (fun k e => by cases e; rfl)
  have he' : ExtR r w wk := (ExtR.of_ext (Ext.alloc w o)).trans he
  exact ⟨t, v, P, rfl, Tm.at_mono (fun b h => by omega) (f.agree (S := fun b => w.heap.size + 1 ≤ b) (fun k hk h => by omega)) hv, hd, Rd.fr hr0 he' hr f (fun k _ h => by omega), hp, he'.fr f (fun k _ h => by omega)⟩
set_option maxRecDepth 100000 in
set_option maxHeartbeats 2000000 in
theorem draw_low (depth : Int) (d r p : Nat) (w : World) (hd : depth < 2) (hd1 : -1000 ≤ depth) (hp : p + 4 ≤ 1099511627776) (hr : Rd w r p) :
    Calls Try.prog 27 #[.pointer (some ⟨r, 0, none⟩), .int .i64 depth] w (TmPost r p 4 (Drawn (d + 1)) w) := by
  have hrl := hr.lt
  obtain ⟨P, hP, hr⟩ : ∃ P, P ≤ p + 1 ∧ Rd w r P := ⟨p, by omega, hr⟩
  have n0 : ¬ w.heap.size = r := by omega
  have R := Lib.hid (hr.ext (Ext.alloc w (.cells #[.int .i64 0, .int .i64 0, .string ⟨#[]⟩, .slice none 0 0] 25)))
  have E := Lib.hid (ExtR.refl r (w.alloc (.cells #[.int .i64 0, .int .i64 0, .string ⟨#[]⟩, .slice none 0 0] 25)))
  have HR0 := Lib.hid hr
  clear hr
  have hd' : decide (depth < 2) = true := by simpa using hd
  go_enter Try.func27, Try.ntmps27
  go_wp2_with fail
  refine (rdpick r P 4 _ (by omega) (by decide) (by decide) R.out).mono ?_
  rintro e w2 ⟨x, rfl, hx0, hx1, hr2, he2⟩
  have R := Lib.hid hr2
  have E := Lib.hid (E.out.trans he2)
  clear hr2 he2
  obtain rfl | rfl | hx : x = 0 ∨ x = 1 ∨ (x = 2 ∨ x = 3) := by omega
  · go_wp2_with fail
    refine (rdpick r (P + 1) 4 _ (by omega) (by decide) (by decide) R.out).mono ?_
    rintro e w3 ⟨y, rfl, hy0, hy1, hr3, he3⟩
    have R := Lib.hid hr3
    have E := Lib.hid (E.out.trans he3)
    clear hr3 he3
    go_wp2_with fail
    refine (specl1Var y _).mono ?_
    rintro e w4 ⟨v, rfl, hv, e4⟩
    obtain ⟨a4, c4, rfl⟩ := at_form (hv (fun _ => True))
    have HV := Lib.hid hv
    have R := Lib.hid (R.out.ext e4)
    have E := Lib.hid (E.out.trans (ExtR.of_ext e4))
    clear hv e4
    obtain ⟨kc, kf⟩ := ExtR.cells E.out
    have s0 : w.heap.size < w.heap.size + 1 := by omega
    go_wp2_with fail
    refine ret4_set (p := 4) (T := 25) (b := w.heap.size) (u0 := .int .i64 0) (u1 := .int .i64 0) (u2 := .string ⟨#[]⟩) (u3 := .slice none 0 0) (by kernel_rfl) (fun _ => by kernel_rfl) (fun _ => by kernel_rfl) rfl rfl (by rw [kc _ _ (by simp) n0]; go_simp) (by rw [kc _ _ (by simp) n0]; go_simp) (by rw [kc _ _ (by simp) n0]; go_simp) (by rw [kc _ _ (by simp) n0]; go_simp) ?_
    intro X hX
    exact leaf_end hX E.out HR0.out R.out (HV.out _) (by first | (exact .inl ⟨rfl, by omega, by omega, rfl, rfl⟩)) (by omega)
  · go_wp2_with fail
    refine (rdnum_new [0, 1, 7, -3, 999, -999] 6 rfl rfl (by decide) (by simp) (by omega) R.out (by simp)).mono ?_
    rintro e w3 ⟨y, rfl, hy, hr3, he3⟩
    have HY := Lib.hid hy
    have R := Lib.hid hr3
    have E := Lib.hid (E.out.trans he3)
    clear hr3 he3 hy
    go_wp2_with fail
    refine (specl1Int y _).mono ?_
    rintro e w4 ⟨v, rfl, hv, e4⟩
    obtain ⟨a4, c4, rfl⟩ := at_form (hv (fun _ => True))
    have HV := Lib.hid hv
    have R := Lib.hid (R.out.ext e4)
    have E := Lib.hid (E.out.trans (ExtR.of_ext e4))
    clear hv e4
    obtain ⟨kc, kf⟩ := ExtR.cells E.out
    have s0 : w.heap.size < w.heap.size + 1 := by omega
    go_wp2_with fail
    refine ret4_set (p := 4) (T := 25) (b := w.heap.size) (u0 := .int .i64 0) (u1 := .int .i64 0) (u2 := .string ⟨#[]⟩) (u3 := .slice none 0 0) (by kernel_rfl) (fun _ => by kernel_rfl) (fun _ => by kernel_rfl) rfl rfl (by rw [kc _ _ (by simp) n0]; go_simp) (by rw [kc _ _ (by simp) n0]; go_simp) (by rw [kc _ _ (by simp) n0]; go_simp) (by rw [kc _ _ (by simp) n0]; go_simp) ?_
    intro X hX
    have hy := HY.out
    simp at hy
    exact leaf_end hX E.out HR0.out R.out (HV.out _) (.inr (.inl ⟨rfl, by omega, by omega, rfl, rfl⟩)) (by omega)
  · obtain rfl | rfl := hx
    all_goals
      go_wp2_with fail
      refine (rdof_new [⟨#[97]⟩, ⟨#[98]⟩, ⟨#[110, 105, 108]⟩, ⟨#[91, 93]⟩, ⟨#[102, 111, 111]⟩, ⟨#[43]⟩] 6 rfl rfl (by decide) (by decide) (by simp) (by omega) R.out (by simp)).mono ?_
      rintro e w3 ⟨y, rfl, hy, hr3, he3⟩
      have HY := Lib.hid hy
      have R := Lib.hid hr3
      have E := Lib.hid (E.out.trans he3)
      have hys : y.size ≤ 1048576 := (show ∀ z ∈ ([⟨#[97]⟩, ⟨#[98]⟩, ⟨#[110, 105, 108]⟩, ⟨#[91, 93]⟩, ⟨#[102, 111, 111]⟩, ⟨#[43]⟩] : List ByteArray), z.size ≤ 1048576 by decide) y hy
      clear hr3 he3 hy
      go_wp2_with fail
      refine (specl1Struct0 y _ hys).mono ?_
      rintro e w4 ⟨v, rfl, hv, e4⟩
      obtain ⟨a4, c4, rfl⟩ := at_form (hv (fun _ => True))
      have HV := Lib.hid hv
      have R := Lib.hid (R.out.ext e4)
      have E := Lib.hid (E.out.trans (ExtR.of_ext e4))
      clear hv e4
      obtain ⟨kc, kf⟩ := ExtR.cells E.out
      have s0 : w.heap.size < w.heap.size + 1 := by omega
      go_wp2_with fail
      refine ret4_set (p := 4) (T := 25) (b := w.heap.size) (u0 := .int .i64 0) (u1 := .int .i64 0) (u2 := .string ⟨#[]⟩) (u3 := .slice none 0 0) (by kernel_rfl) (fun _ => by kernel_rfl) (fun _ => by kernel_rfl) rfl rfl (by rw [kc _ _ (by simp) n0]; go_simp) (by rw [kc _ _ (by simp) n0]; go_simp) (by rw [kc _ _ (by simp) n0]; go_simp) (by rw [kc _ _ (by simp) n0]; go_simp) ?_
      intro X hX
      exact leaf_end hX E.out HR0.out R.out (HV.out _) (.inr (.inr ⟨rfl, rfl, (show ∀ z ∈ ([⟨#[97]⟩, ⟨#[98]⟩, ⟨#[110, 105, 108]⟩, ⟨#[91, 93]⟩, ⟨#[102, 111, 111]⟩, ⟨#[43]⟩] : List ByteArray), z ∈ drawNames by simp [drawNames]) y HY.out, by simp, by simp⟩)) (by omega)
theorem sl_new {S : Nat → Prop} {w : World} {ts : List Tm} {xs : List Value} {cs : Array Value} {T n : Nat} (h : Tm.flat S w ts xs) (hcs : cs = xs.toArray) (hn : ts.length = n) (hl : n ≤ 1048576) :
    Tm.sl (fun b => S b ∨ b = w.heap.size) (w.alloc (.cells cs T)) ts (.slice (some ⟨w.heap.size, 0, none⟩) n n) := by
  subst hn hcs
  refine ⟨_, _, rfl, Nat.le_refl _, by omega, hl, .inr ⟨w.heap.size, 0, rfl, .inr rfl, ?_⟩⟩
  refine flat_row (flat_mono (fun b h => .inl h) (Agree.of_ext (Ext.alloc _ _)) h) fun j hj => ?_
  rw [List.getElem?_eq_getElem hj]
  exact cell_new _ _ _ _ _ (by simp [hj])
set_option maxRecDepth 100000 in
set_option maxHeartbeats 4000000 in
theorem specl1Draw : ∀ d, DrawC d := by
  intro d
  induction d with
  | zero => exact fun depth r p w h1 h2 _ h4 h5 => draw_low depth 0 r p w (by omega) h2 h4 h5
  | succ d ih =>
    intro depth r p w hdep h2 h3 h4 hr
    have hge := dC_ge d
    have hdc : dC (d + 1) = 4 + 3 * dC d := rfl
    by_cases hd : depth < 2
    · refine (draw_low depth (d + 1) r p w hd h2 (by omega) hr).mono ?_
      rintro e w' ⟨t, v, p', q1, q2, q3, q4, q5, q6⟩
      exact ⟨t, v, p', q1, q2, q3, q4, by omega, q6⟩
    have IH := Lib.hid ih
    have HDC := Lib.hid hdc
    have HDEP := Lib.hid hdep
    have hrl := hr.lt
    have n0 : ¬ w.heap.size = r := by omega
    have R := Lib.hid (hr.ext (Ext.alloc w (.cells #[.int .i64 0, .int .i64 0, .string ⟨#[]⟩, .slice none 0 0] 25)))
    have E := Lib.hid (ExtR.refl r (w.alloc (.cells #[.int .i64 0, .int .i64 0, .string ⟨#[]⟩, .slice none 0 0] 25)))
    have HR0 := Lib.hid hr
    rw [hdc] at h4
    clear hr ih hdc hdep
    obtain ⟨i0, hi, hz0, hz1, hz2⟩ := info_parts info_term3
    have HI := Lib.hid hi
    have HZ := Lib.hid hz0
    have HZ1 := Lib.hid hz1
    have HZ2 := Lib.hid hz2
    clear hi hz0 hz1 hz2
    have hd' : decide (depth < 2) = false := by simpa using hd
    go_enter Try.func27, Try.ntmps27
    go_wp2_with fail
    refine (rdpick r p 4 _ (by omega) (by decide) (by decide) R.out).mono ?_
    rintro e w2 ⟨x, rfl, hx0, hx1, hr2, he2⟩
    have R := Lib.hid hr2
    have E := Lib.hid (E.out.trans he2)
    clear hr2 he2
    obtain ⟨P, hP, R⟩ : ∃ P, P ≤ p + 1 ∧ Hid (Rd w2 r P) := ⟨_, Nat.le_refl _, R⟩
    by_cases hx : x = 0
    · subst hx
      go_wp2_with fail
      refine (rdpick r P 4 _ (by omega) (by decide) (by decide) R.out).mono ?_
      rintro e w2 ⟨x, rfl, hx0, hx1, hr2, he2⟩
      have R := Lib.hid hr2
      have E := Lib.hid (E.out.trans he2)
      clear hr2 he2
      obtain rfl | rfl | hx : x = 0 ∨ x = 1 ∨ (x = 2 ∨ x = 3) := by omega
      · go_wp2_with fail
        refine (rdpick r (P + 1) 4 _ (by omega) (by decide) (by decide) R.out).mono ?_
        rintro e w3 ⟨y, rfl, hy0, hy1, hr3, he3⟩
        have R := Lib.hid hr3
        have E := Lib.hid (E.out.trans he3)
        clear hr3 he3
        go_wp2_with fail
        refine (specl1Var y _).mono ?_
        rintro e w4 ⟨v, rfl, hv, e4⟩
        obtain ⟨a4, c4, rfl⟩ := at_form (hv (fun _ => True))
        have HV := Lib.hid hv
        have R := Lib.hid (R.out.ext e4)
        have E := Lib.hid (E.out.trans (ExtR.of_ext e4))
        clear hv e4
        obtain ⟨kc, kf⟩ := ExtR.cells E.out
        have s0 : w.heap.size < w.heap.size + 1 := by omega
        go_wp2_with fail
        refine ret4_set (p := 4) (T := 25) (b := w.heap.size) (u0 := .int .i64 0) (u1 := .int .i64 0) (u2 := .string ⟨#[]⟩) (u3 := .slice none 0 0) (by kernel_rfl) (fun _ => by kernel_rfl) (fun _ => by kernel_rfl) rfl rfl (by rw [kc _ _ (by simp) n0]; go_simp) (by rw [kc _ _ (by simp) n0]; go_simp) (by rw [kc _ _ (by simp) n0]; go_simp) (by rw [kc _ _ (by simp) n0]; go_simp) ?_
        intro X hX
        exact leaf_end hX E.out HR0.out R.out (HV.out _) (by first | (exact .inl ⟨rfl, by omega, by omega, rfl, rfl⟩)) (by rw [HDC.out]; omega)
      · go_wp2_with fail
        refine (rdnum_new [0, 1, 7, -3, 999, -999] 6 rfl rfl (by decide) (by simp) (by omega) R.out (by simp)).mono ?_
        rintro e w3 ⟨y, rfl, hy, hr3, he3⟩
        have HY := Lib.hid hy
        have R := Lib.hid hr3
        have E := Lib.hid (E.out.trans he3)
        clear hr3 he3 hy
        go_wp2_with fail
        refine (specl1Int y _).mono ?_
        rintro e w4 ⟨v, rfl, hv, e4⟩
        obtain ⟨a4, c4, rfl⟩ := at_form (hv (fun _ => True))
        have HV := Lib.hid hv
        have R := Lib.hid (R.out.ext e4)
        have E := Lib.hid (E.out.trans (ExtR.of_ext e4))
        clear hv e4
        obtain ⟨kc, kf⟩ := ExtR.cells E.out
        have s0 : w.heap.size < w.heap.size + 1 := by omega
        go_wp2_with fail
        refine ret4_set (p := 4) (T := 25) (b := w.heap.size) (u0 := .int .i64 0) (u1 := .int .i64 0) (u2 := .string ⟨#[]⟩) (u3 := .slice none 0 0) (by kernel_rfl) (fun _ => by kernel_rfl) (fun _ => by kernel_rfl) rfl rfl (by rw [kc _ _ (by simp) n0]; go_simp) (by rw [kc _ _ (by simp) n0]; go_simp) (by rw [kc _ _ (by simp) n0]; go_simp) (by rw [kc _ _ (by simp) n0]; go_simp) ?_
        intro X hX
        have hy := HY.out
        simp at hy
        exact leaf_end hX E.out HR0.out R.out (HV.out _) (.inr (.inl ⟨rfl, by omega, by omega, rfl, rfl⟩)) (by rw [HDC.out]; omega)
      · obtain rfl | rfl := hx
        all_goals
          go_wp2_with fail
          refine (rdof_new [⟨#[97]⟩, ⟨#[98]⟩, ⟨#[110, 105, 108]⟩, ⟨#[91, 93]⟩, ⟨#[102, 111, 111]⟩, ⟨#[43]⟩] 6 rfl rfl (by decide) (by decide) (by simp) (by omega) R.out (by simp)).mono ?_
          rintro e w3 ⟨y, rfl, hy, hr3, he3⟩
          have HY := Lib.hid hy
          have R := Lib.hid hr3
          have E := Lib.hid (E.out.trans he3)
          have hys : y.size ≤ 1048576 := (show ∀ z ∈ ([⟨#[97]⟩, ⟨#[98]⟩, ⟨#[110, 105, 108]⟩, ⟨#[91, 93]⟩, ⟨#[102, 111, 111]⟩, ⟨#[43]⟩] : List ByteArray), z.size ≤ 1048576 by decide) y hy
          clear hr3 he3 hy
          go_wp2_with fail
          refine (specl1Struct0 y _ hys).mono ?_
          rintro e w4 ⟨v, rfl, hv, e4⟩
          obtain ⟨a4, c4, rfl⟩ := at_form (hv (fun _ => True))
          have HV := Lib.hid hv
          have R := Lib.hid (R.out.ext e4)
          have E := Lib.hid (E.out.trans (ExtR.of_ext e4))
          clear hv e4
          obtain ⟨kc, kf⟩ := ExtR.cells E.out
          have s0 : w.heap.size < w.heap.size + 1 := by omega
          go_wp2_with fail
          refine ret4_set (p := 4) (T := 25) (b := w.heap.size) (u0 := .int .i64 0) (u1 := .int .i64 0) (u2 := .string ⟨#[]⟩) (u3 := .slice none 0 0) (by kernel_rfl) (fun _ => by kernel_rfl) (fun _ => by kernel_rfl) rfl rfl (by rw [kc _ _ (by simp) n0]; go_simp) (by rw [kc _ _ (by simp) n0]; go_simp) (by rw [kc _ _ (by simp) n0]; go_simp) (by rw [kc _ _ (by simp) n0]; go_simp) ?_
          intro X hX
          exact leaf_end hX E.out HR0.out R.out (HV.out _) (.inr (.inr ⟨rfl, rfl, (show ∀ z ∈ ([⟨#[97]⟩, ⟨#[98]⟩, ⟨#[110, 105, 108]⟩, ⟨#[91, 93]⟩, ⟨#[102, 111, 111]⟩, ⟨#[43]⟩] : List ByteArray), z ∈ drawNames by simp [drawNames]) y HY.out, by simp, by simp⟩)) (by rw [HDC.out]; omega)
    · have hx' : (x == 0) = false := by simpa using hx
      go_wp2_with fail
      refine (rdpick r P 3 _ (by omega) (by decide) (by decide) R.out).mono ?_
      rintro e w3 ⟨y, rfl, hy0, hy1, hr3, he3⟩
      have R := Lib.hid hr3
      have E := Lib.hid (E.out.trans he3)
      clear hr3 he3
      by_cases hy : y = 0
      · subst hy
        go_wp2_with fail
        refine (IH.out (depth - 1) r (P + 1) _ (by have := HDEP.out; omega) (by omega) (by omega) (by omega) R.out).mono ?_
        rintro e w4 ⟨t1, v1, p1, rfl, hv1, hd1, hr4, hp1, he4⟩
        have hs3 : w.heap.size + 1 ≤ w3.heap.size := by have := E.out.1.size; simp at this; omega
        have hs4 := he4.1.size
        obtain ⟨a1, c1, rfl⟩ := at_form hv1
        have R := Lib.hid hr4
        have E := Lib.hid (E.out.trans he4)
        have V1 := Lib.hid hv1
        have D1 := Lib.hid hd1
        clear hr4 he4 hv1 hd1
        go_wp2_with fail
        refine (IH.out (depth - 1) r p1 _ (by have := HDEP.out; omega) (by omega) (by omega) (by omega) R.out).mono ?_
        rintro e w5 ⟨t2, v2, p2, rfl, hv2, hd2, hr5, hp2, he5⟩
        have hs5 := he5.1.size
        obtain ⟨a2, c2, rfl⟩ := at_form hv2
        have R := Lib.hid hr5
        have E := Lib.hid (E.out.trans he5)
        have V1 := Lib.hid (Tm.at_mono (fun b h => h) (he5.agree (S := fun b => w3.heap.size ≤ b) (by omega)) V1.out)
        have V2 := Lib.hid hv2
        have D2 := Lib.hid hd2
        clear hr5 he5 hv2 hd2
        go_wp2_with fail
        refine (specl1Struct ⟨#[46]⟩ [t1, t2] (by decide) (by simp) _ (fun b => w.heap.size + 1 ≤ b ∨ b = w5.heap.size) _ (sl_new (S := fun b => w.heap.size + 1 ≤ b) (xs := tcells t1 a1 c1 ++ (tcells t2 a2 c2 ++ [])) ⟨a1, c1, _, rfl, Tm.at_mono (fun b h => by omega) (Agree.refl _) V1.out, a2, c2, _, rfl, Tm.at_mono (fun b h => by omega) (Agree.refl _) V2.out, rfl⟩ rfl rfl (by simp))).mono ?_
        rintro e w6 ⟨v, rfl, hv, e6⟩
        obtain ⟨a6, c6, rfl⟩ := at_form hv
        have HV := Lib.hid hv
        have e56 := (Ext.alloc _ _).trans e6
        have R := Lib.hid (R.out.ext e56)
        have E := Lib.hid (E.out.trans (ExtR.of_ext e56))
        clear hv e6 e56
        obtain ⟨kc, kf⟩ := ExtR.cells E.out
        have s0 : w.heap.size < w.heap.size + 1 := by omega
        go_wp2_with fail
        refine ret4_set (p := 4) (T := 25) (b := w.heap.size) (u0 := .int .i64 0) (u1 := .int .i64 0) (u2 := .string ⟨#[]⟩) (u3 := .slice none 0 0) (by kernel_rfl) (fun _ => by kernel_rfl) (fun _ => by kernel_rfl) rfl rfl (by rw [kc _ _ (by simp) n0]; go_simp) (by rw [kc _ _ (by simp) n0]; go_simp) (by rw [kc _ _ (by simp) n0]; go_simp) (by rw [kc _ _ (by simp) n0]; go_simp) ?_
        intro X hX
        refine leaf_end hX E.out HR0.out R.out (Tm.at_mono (fun b h => ?_) (Agree.refl _) HV.out) (.inr (.inr ⟨rfl, rfl, by simp [drawNames], by simp, ?_⟩)) (by rw [HDC.out]; omega)
        · simp at h; omega
        · intro u hu
          simp at hu
          rcases hu with rfl | rfl
          · exact D1.out
          · exact D2.out
      · have hy' : (y == 0) = false := by simpa using hy
        go_wp2_with fail
        refine (rdof_new [⟨#[102]⟩, ⟨#[103]⟩, ⟨#[115]⟩, ⟨#[43]⟩, ⟨#[61]⟩, ⟨#[105, 115]⟩, ⟨#[102, 111, 111]⟩] 7 rfl rfl (by decide) (by decide) (by simp) (by omega) R.out (by simp)).mono ?_
        rintro e w4 ⟨s, rfl, hs, hr4, he4⟩
        have HS := Lib.hid hs
        have hss : s.size ≤ 1048576 := (show ∀ z ∈ ([⟨#[102]⟩, ⟨#[103]⟩, ⟨#[115]⟩, ⟨#[43]⟩, ⟨#[61]⟩, ⟨#[105, 115]⟩, ⟨#[102, 111, 111]⟩] : List ByteArray), z.size ≤ 1048576 by decide) s hs
        have R := Lib.hid hr4
        have E := Lib.hid (E.out.trans he4)
        have hs4 : w.heap.size + 1 ≤ w4.heap.size := by have := E.out.1.size; simp at this; omega
        clear hr4 he4 hs
        go_wp2_with fail
        refine (specl1StructO s _ hss).mono ?_
        rintro e w5 ⟨rfl, hA, e5, hs5⟩
        have A := Lib.hid ((hA (fun b => w4.heap.size + 1 ≤ b ∧ b ≠ w5.heap.size) ⟨Nat.le_refl _, by omega⟩ (by omega)).ext (Ext.alloc w5 (.cells #[.int .i64 3, .int .i64 0, .string s, .slice (some ⟨w4.heap.size + 1, 0, none⟩) 0 0] 25)))
        have e56 := e5.trans (Ext.alloc w5 (.cells #[.int .i64 3, .int .i64 0, .string s, .slice (some ⟨w4.heap.size + 1, 0, none⟩) 0 0] 25))
        have R := Lib.hid (R.out.ext e56)
        have E := Lib.hid (E.out.trans (ExtR.of_ext e56))
        clear hA e5 e56
        go_wp2_with fail
        refine (rdnum_new [2, 1, 3, 2] 4 rfl rfl (by decide) (by simp) (by omega) R.out (by simp)).mono ?_
        rintro e w8 ⟨n, rfl, hn, hr8, he8⟩
        obtain ⟨n, rfl, hn1, hn3⟩ : ∃ k : Nat, n = (k : Int) ∧ 1 ≤ k ∧ k ≤ 3 := ⟨n.toNat, by simp at hn; omega, by simp at hn; omega, by simp at hn; omega⟩
        have nD : w5.heap.size ≠ r := by omega
        have q0 := he8.cell (o := 0) (v := .int .i64 3) nD (by go_simp)
        have q1 := he8.cell (o := 1) (v := .int .i64 0) nD (by go_simp)
        have q2 := he8.cell (o := 2) (v := .string s) nD (by go_simp)
        have q3 := he8.cell (o := 3) (v := .slice (some ⟨w4.heap.size + 1, 0, none⟩) 0 0) nD (by go_simp)
        have q4 := he8.frozen (o := 3) (by simp) nD (by go_simp)
        have QA := Lib.hid (A.out.keep (M := fun k => k = r) (Fr.of_extR he8 rfl) (fun k _ h => by omega))
        have QR := Lib.hid hr8
        have QE := Lib.hid (E.out.trans he8)
        clear hr8 he8 hn
        go_wp2_with fail
        go_loopw [6] (fun i wr => ∃ (k : Nat) (ts : List Tm) (av : Option Addr) (cv P' : Nat), ts.length + k ≤ 3 ∧ i = .int .i64 k ∧ Hid (AppI 25 (fun b => w4.heap.size + 1 ≤ b ∧ b ≠ w5.heap.size) ts (.slice av ts.length cv) wr) ∧ Hid (∀ u ∈ ts, Drawn (d + 1) u) ∧
            Hid (Rd wr r P') ∧ P' + k * dC d ≤ p + 4 + 3 * dC d ∧ Hid (ExtR r (w.alloc (.cells #[.int .i64 0, .int .i64 0, .string ⟨#[]⟩, .slice none 0 0] 25)) wr) ∧
            wr.cell? ⟨w5.heap.size, 0, none⟩ = some (.int .i64 3) ∧ wr.cell? ⟨w5.heap.size, 1, none⟩ = some (.int .i64 0) ∧ wr.cell? ⟨w5.heap.size, 2, none⟩ = some (.string s) ∧ wr.cell? ⟨w5.heap.size, 3, none⟩ = some (.slice av ts.length cv) ∧ wr.frozen? ⟨w5.heap.size, 3, none⟩ = false) (fun i _ => (intOf i).toNat)
        case atStart =>
          refine ⟨n, [], _, _, P + 1 + 1 + 1, by simpa using hn3, rfl, QA, Lib.hid (by simp), QR, ?_, QE, q0, q1, q2, q3, q4⟩
          have := Nat.mul_le_mul_right (dC d) hn3
          omega
        case round =>
          obtain ⟨k, ts, av, cv, P', hk, rfl, A, HD, R, hP', E, c0, c1, c2, c3, f3⟩ := hrel
          clear q0 q1 q2 q3 q4 QA QR QE
          by_cases hk0 : k = 0
          · subst hk0
            obtain ⟨kc, kf⟩ := ExtR.cells E.out
            have s0 : w.heap.size < w.heap.size + 1 := by omega
            go_wp2_with fail
            refine ret4_set (p := 4) (T := 25) (b := w.heap.size) (u0 := .int .i64 0) (u1 := .int .i64 0) (u2 := .string ⟨#[]⟩) (u3 := .slice none 0 0) (by kernel_rfl) (fun _ => by kernel_rfl) (fun _ => by kernel_rfl) rfl rfl (by rw [kc _ _ (by simp) n0]; go_simp) (by rw [kc _ _ (by simp) n0]; go_simp) (by rw [kc _ _ (by simp) n0]; go_simp) (by rw [kc _ _ (by simp) n0]; go_simp) ?_
            intro X hX
            refine leaf_end (t := .mk 3 0 s ts) hX E.out HR0.out R.out (Tm.at_iff.2 ⟨hss, _, rfl, Tm.sl_mono (fun b h => by omega) (Agree.refl _) (A.out.sl (by omega))⟩) (.inr (.inr ⟨rfl, rfl, (show ∀ z ∈ ([⟨#[102]⟩, ⟨#[103]⟩, ⟨#[115]⟩, ⟨#[43]⟩, ⟨#[61]⟩, ⟨#[105, 115]⟩, ⟨#[102, 111, 111]⟩] : List ByteArray), z ∈ drawNames by simp [drawNames]) s HS.out, by omega, HD.out⟩)) (by rw [HDC.out]; omega)
          · have hP2 : P' + dC d ≤ p + 4 + 3 * dC d := by
              have : dC d ≤ k * dC d := Nat.le_mul_of_pos_left _ (by omega)
              omega
            have HP := Lib.hid hP'
            have szD := block_lt_of_cell c0
            simp only at szD
            have HC := Lib.hid (fun w' (h : Rd w' r P') => IH.out (depth - 1) r P' w' (by have := HDEP.out; omega) (by omega) (by omega) (by omega) h)
            have hl1 : ts.length < 1048576 := by omega
            clear hP'
            go_wp2_with fail
            have hw1 : IntKind.i64.wrap (depth - 1) = depth - 1 := IntWalk.i64_in _ (by omega)
            go_region_law (first
              | (go_simp; go_at_call 27; refine (HC.out _ (by first | exact R.out | exact R.out.ext (Ext.drew _))).mono ?_; rintro e w1 ⟨t, v1, p1, rfl, hv1, hd1, hr1, hp1, he1⟩; try replace he1 := (ExtR.of_ext (Ext.drew _)).trans he1; have szD1 := Nat.lt_of_lt_of_le szD he1.1.size; have b0 := he1.cell nD c0; have b1 := he1.cell nD c1; have b2 := he1.cell nD c2; have b3 := he1.cell nD c3; have g3 := he1.frozen szD nD f3; obtain ⟨a2, c2, rfl⟩ := at_form hv1; dsimp only)
              | (refine step_append_tm rfl (.tmp 56) (.tmp 61) 23 rfl (fun b => w4.heap.size + 1 ≤ b ∧ b ≠ w5.heap.size) 25 i0 Try.underlying23 HI.out HZ.out HZ1.out HZ2.out (.slice av ts.length cv) ts t a2 c2 rfl (A.out.keep (M := fun k => k = r) (Fr.of_extR he1 rfl) (fun k _ h => by omega)) rfl (A.out.apart (fun b hb => by omega) hv1) hl1 (fun b hb => by have := he1.1.size; omega) ?_; intro av2 cv2 w2 hA2 hf2; have A2 := Lib.hid hA2; have F2 := Lib.hid hf2; have d0 := hf2.cell (fun h => h.2 rfl) b0; have d1 := hf2.cell (fun h => h.2 rfl) b1; have d2 := hf2.cell (fun h => h.2 rfl) b2; have d3 := hf2.cell (fun h => h.2 rfl) b3; have k3 := hf2.frozen (Nat.lt_of_lt_of_le szD he1.1.size) (fun h => h.2 rfl) g3; clear hA2 hf2 b0 b1 b2 b3 g3))
            all_goals go_wp2_with fail
            all_goals
              clear hw1
              have F3 : ∀ u, Fr (fun b => w4.heap.size + 1 ≤ b) w1 (w2.setCell ⟨w5.heap.size, 3, none⟩ u) := fun u => (F2.out.mono (fun _ _ h => h.1)).trans (Fr.setCell _ (by omega))
              have hlen : (ts ++ [t]).length = ts.length + 1 := by simp
              have hmul : k * dC d = (k - 1) * dC d + dC d := by
                obtain ⟨j, rfl⟩ : ∃ j, k = j + 1 := ⟨k - 1, by omega⟩
                simp [Nat.succ_mul]
              have HP' := HP.out
              rw [hmul] at HP'
              have HM := Lib.hid HP'
              clear hmul HP'
              go_roundw
              case rel =>
                refine ⟨k - 1, ts ++ [t], av2, cv2, p1, by rw [hlen]; omega, by congr 1; omega, Lib.hid ?_, Lib.hid ?_, Lib.hid ?_, by have := HM.out; omega, Lib.hid ?_, cell_off (by decide) d0, cell_off (by decide) d1, cell_off (by decide) d2, ?_, ?_⟩
                · rw [hlen]
                  exact A2.out.keep (M := fun k => k = w5.heap.size) (Fr.setCell _ rfl) (fun k _ h hz => hz.2 h)
                · intro u hu
                  simp at hu
                  rcases hu with hu | rfl
                  · exact HD.out u hu
                  · exact hd1
                · exact Rd.fr HR0.out ((ExtR.of_ext (Ext.alloc _ _)).trans (E.out.trans he1)) hr1 (F3 _) (fun k _ h => by omega)
                · exact (E.out.trans he1).fr (F3 _) (fun k _ h => ⟨by simp; omega, by omega⟩)
                · rw [hlen]
                  exact cell_same d3
                · rw [World.frozen?_setCell]
                  exact k3
              case measure => simp [intOf]; omega
end Go.Proofs.Ytognkaebiafgbaa
