/-
  Generalization: the reference's Generalize.
-/
import Derived.Test.YteplfajhmpmklaaMg41
import Derived.Test.YteplfajhmpmklaaMg42
import Derived.Test.YteplfajhmpmklaaMg20
import Derived.Test.YteplfajhmpmklaaMg16
import Derived.Test.YteplfajhmpmklaaMg25
namespace Go.Proofs.Yteplfajhmpmklaa
open Go.RowKit
set_option linter.unusedVariables false

set_option maxRecDepth 100000 in
set_option maxHeartbeats 4000000 in
theorem specGeneralize (t u : Tm) (v v' : Value) (S : Nat → Prop) (w : World) (ht : Tm.at S w t v) (hu : Tm.at S w u v') :
    Calls Try.prog 22 #[v, v'] w (TmBO (genR t u) (genB t u) w) := by
  replace ht := Tm.at_bound ht
  replace hu := Tm.at_bound hu
  obtain ⟨S, hB, ht, hu⟩ : ∃ S : Nat → Prop, (∀ b, S b → b < w.heap.size) ∧ Tm.at S w t v ∧ Tm.at S w u v' := ⟨_, fun b hb => hb.2, ht, hu⟩
  have HT := Lib.hid ht
  have HU := Lib.hid hu
  have HB := Lib.hid hB
  obtain ⟨a, c, rfl⟩ := at_form ht
  obtain ⟨a', c', rfl⟩ := at_form hu
  clear ht hu hB
  have E3 := Lib.hid (((Ext.alloc w (.cells #[.int .i64 t.kind, .int .i64 t.n, .string t.name, .slice a t.kids.length c] 29)).trans (Ext.alloc _ (.cells #[.int .i64 u.kind, .int .i64 u.n, .string u.name, .slice a' u.kids.length c'] 29))).trans (Ext.alloc _ (.cells #[.int .i64 0, .int .i64 0, .string ⟨#[]⟩, .slice none 0 0] 29)))
  obtain ⟨b1, hb1⟩ : ∃ x, validF t = x := ⟨_, rfl⟩
  obtain ⟨b2, hb2⟩ : ∃ x, validF u = x := ⟨_, rfl⟩
  have HB1 := Lib.hid hb1
  have HB2 := Lib.hid hb2
  clear hb1 hb2
  have BX : Hid (BoxT (((w.alloc (.cells #[.int .i64 t.kind, .int .i64 t.n, .string t.name, .slice a t.kids.length c] 29)).alloc (.cells #[.int .i64 u.kind, .int .i64 u.n, .string u.name, .slice a' u.kids.length c'] 29)).alloc (.cells #[.int .i64 0, .int .i64 0, .string ⟨#[]⟩, .slice none 0 0] 29)) w.heap.size (.int .i64 t.kind) (.int .i64 t.n) (.string t.name) (.slice a t.kids.length c) ∧
      BoxT (((w.alloc (.cells #[.int .i64 t.kind, .int .i64 t.n, .string t.name, .slice a t.kids.length c] 29)).alloc (.cells #[.int .i64 u.kind, .int .i64 u.n, .string u.name, .slice a' u.kids.length c'] 29)).alloc (.cells #[.int .i64 0, .int .i64 0, .string ⟨#[]⟩, .slice none 0 0] 29)) (w.heap.size + 1) (.int .i64 u.kind) (.int .i64 u.n) (.string u.name) (.slice a' u.kids.length c') ∧
      BoxT (((w.alloc (.cells #[.int .i64 t.kind, .int .i64 t.n, .string t.name, .slice a t.kids.length c] 29)).alloc (.cells #[.int .i64 u.kind, .int .i64 u.n, .string u.name, .slice a' u.kids.length c'] 29)).alloc (.cells #[.int .i64 0, .int .i64 0, .string ⟨#[]⟩, .slice none 0 0] 29)) (w.heap.size + 1 + 1) (.int .i64 0) (.int .i64 0) (.string ⟨#[]⟩) (.slice none 0 0)) :=
    Lib.hid (by refine ⟨⟨?_, ?_, ?_, ?_, ?_, ?_, ?_, ?_⟩, ⟨?_, ?_, ?_, ?_, ?_, ?_, ?_, ?_⟩, ⟨?_, ?_, ?_, ?_, ?_, ?_, ?_, ?_⟩⟩ <;> go_simp)
  go_enter Try.func22, Try.ntmps22
  go_wp2_with fail
  refine (specTermValid t _ S _ (Tm.at_ext E3.out HT.out)).mono ?_
  rw [HB1.out]
  rintro e w1 ⟨rfl, e1⟩
  have E1 := Lib.hid (E3.out.trans e1)
  have B1 := Lib.hid (And.intro (BX.out.1.ext e1) (And.intro (BX.out.2.1.ext e1) (BX.out.2.2.ext e1)))
  obtain ⟨⟨x0, x1, x2, x3, _, _, _, _⟩, ⟨y0, y1, y2, y3, _, _, _, _⟩, ⟨r0, r1, r2, r3, z0, z1, z2, z3⟩⟩ := B1.out
  clear e1 BX E3
  have no : ∀ (X w5 : World), Ext w w5 → Fr (fun k => k = w.heap.size + 1 + 1) w5 X → genB t u = false → TmBO (genR t u) (genB t u) w (.returned (.tuple #[.agg #[.int .i64 0, .int .i64 0, .string ⟨#[]⟩, .slice none 0 0], .bool false])) X := fun X w5 e f h => by
    rw [gen_no h, h]
    exact ⟨none, 0, rfl, own_nil _ _ _ _ _ (by decide), ((Fr.of_ext e).trans f).toExt (fun k hk h => by omega)⟩
  have NO := Lib.hid no
  clear no
  cases b1
  · have HF : Hid (genB t u = false) := Lib.hid (by unfold genB; rw [HB1.out]; rfl)
    go_wp2_with fail
    refine ret4b_set (p := 4) (q := 5) (T := 29) (by kernel_rfl) (fun _ => by kernel_rfl) (fun _ => by kernel_rfl) rfl rfl rfl B1.out.2.2 ?_
    intro X f
    exact NO.out X w1 E1.out f HF.out
  · have V1 := Lib.hid (Tm.at_ext E1.out HU.out)
    go_wp2_with fail
    refine (specTermValid u _ S _ V1.out).mono ?_
    rw [HB2.out]
    rintro e w2 ⟨rfl, e2⟩
    have E2 := Lib.hid (E1.out.trans e2)
    have B2 := Lib.hid (And.intro (B1.out.1.ext e2) (And.intro (B1.out.2.1.ext e2) (B1.out.2.2.ext e2)))
    clear x0 x1 x2 x3 y0 y1 y2 y3 r0 r1 r2 r3 z0 z1 z2 z3
    obtain ⟨⟨x0, x1, x2, x3, _, _, _, _⟩, ⟨y0, y1, y2, y3, _, _, _, _⟩, ⟨r0, r1, r2, r3, z0, z1, z2, z3⟩⟩ := B2.out
    have hb0 := B2.out.1.lt
    have hb1 := B2.out.2.1.lt
    have hb2 := B2.out.2.2.lt
    clear e2 B1 V1
    cases b2
    · have HF : Hid (genB t u = false) := Lib.hid (by unfold genB; rw [HB2.out, Bool.and_false]; rfl)
      go_wp2_with fail
      refine ret4b_set (p := 4) (q := 5) (T := 29) (by kernel_rfl) (fun _ => by kernel_rfl) (fun _ => by kernel_rfl) rfl rfl rfl B2.out.2.2 ?_
      intro X f
      exact NO.out X w2 E2.out f HF.out
    · have HSB : Hid (∀ b, S b → b < w2.heap.size) := Lib.hid (fun b h => Nat.lt_of_lt_of_le (HB.out b h) (Below.size E2.out))
      have HSZ : Hid (Tm.sz t ≤ 120) := Lib.hid (by have := HB1.out; rw [valid_eq] at this; simp at this; exact this.2)
      have HPL : Hid (PrL S w2 [] (.slice none 0 0) (.slice none 0 0)) := Lib.hid ⟨fun _ => ⟨rfl, rfl⟩, ⟨none, 0, rfl, by simp, by omega, by simp, .inl rfl⟩, ⟨none, 0, rfl, by simp, by omega, by simp, .inl rfl⟩⟩
      go_wp2_with fail
      refine (specgen _ t (Nat.le_refl _) u _ _ (.slice none 0 0) (.slice none 0 0) [] S _ (Tm.at_ext E2.out HT.out) (Tm.at_ext E2.out HU.out) HSB.out (by have := HSZ.out; simp; omega) HPL.out).mono ?_
      rintro e w3 ⟨a3, c3, l3, r3, Y3, rfl, ho, hp3, hz3, e3⟩
      obtain ⟨⟨la, lc, rfl⟩, ra, rc, rfl⟩ := hp3.form
      unfold val4
      obtain ⟨r, hr⟩ : ∃ r, (genF t u []).1 = r := ⟨_, rfl⟩
      obtain ⟨ql, hql⟩ : ∃ n, (genF t u []).2.length = n := ⟨_, rfl⟩
      rw [hr] at ho ⊢
      rw [hql]
      have HR := Lib.hid hr
      have E3 := Lib.hid (E2.out.trans e3)
      have hz3 : w2.heap.size ≤ w3.heap.size := Below.size e3
      have HO := Lib.hid (own_zone (F' := fun b => w2.heap.size ≤ b) ho (fun b hb => hb.1))
      have B3 := Lib.hid (B2.out.2.2.ext e3)
      clear hr hql ho hp3 e3 x0 x1 x2 x3 y0 y1 y2 y3 r0 r1 r2 r3 z0 z1 z2 z3
      obtain ⟨r0, r1, r2, r3, z0, z1, z2, z3⟩ := B3.out
      have V3 := Lib.hid (own_flat _ _ _ HO.out)
      have Z3 := Lib.hid ((BoxT.new w3 (.int .i64 r.kind) (.int .i64 r.n) (.string r.name) (.slice a3 r.kids.length c3) 29 rfl).ext (Ext.alloc _ (.cells #[.slice la ql lc, .slice ra ql rc] 71)))
      obtain ⟨b3, hb3⟩ : ∃ x, validF r = x := ⟨_, rfl⟩
      have HB3 := Lib.hid hb3
      clear hb3
      go_wp2_with fail
      refine (specTermValid r _ _ _ (Tm.at_ext ((Ext.alloc _ _).trans (Ext.alloc _ _)) V3.out)).mono ?_
      rw [HB3.out]
      rintro e w4 ⟨rfl, e4⟩
      have B4 := Lib.hid (B3.out.ext (((Ext.alloc _ _).trans (Ext.alloc _ _)).trans e4))
      have Z4 := Lib.hid (Z3.out.ext e4)
      have E4 := Lib.hid (E3.out.trans (((Ext.alloc _ _).trans (Ext.alloc _ _)).trans e4))
      have HO4 := Lib.hid (own_ext1 HO.out (((Ext.alloc _ _).trans (Ext.alloc _ _)).trans e4))
      have hz4 : w3.heap.size ≤ w4.heap.size := by have := Below.size e4; simp at this; omega
      clear e4 r0 r1 r2 r3 z0 z1 z2 z3
      obtain ⟨r0, r1, r2, r3, z0, z1, z2, z3⟩ := B4.out
      obtain ⟨y0, y1, y2, y3, _, _, _, _⟩ := Z4.out
      cases b3
      · have HF : Hid (genB t u = false) := Lib.hid (by unfold genB; rw [HR.out, HB3.out, Bool.and_false])
        go_wp2_with fail
        refine ret4b_set (p := 4) (q := 5) (T := 29) (by kernel_rfl) (fun _ => by kernel_rfl) (fun _ => by kernel_rfl) rfl rfl rfl B4.out ?_
        intro X f
        exact NO.out X w4 E4.out f HF.out
      · have HF : Hid (genB t u = true) := Lib.hid (by unfold genB; rw [HR.out, HB3.out, HB1.out, HB2.out]; rfl)
        go_wp2_with fail
        refine ret4b_set (p := 4) (q := 5) (T := 29) (by kernel_rfl) (fun _ => by kernel_rfl) (fun _ => by kernel_rfl) rfl rfl rfl B4.out ?_
        intro X f
        rw [gen_yes HF.out, HR.out, HF.out]
        exact ⟨_, _, rfl, own_mono (fun b hb => by omega) f (fun b hb h => by omega) _ _ HO4.out, ((Fr.of_ext E4.out).trans f).toExt (fun k hk h => by omega)⟩
end Go.Proofs.Yteplfajhmpmklaa

/-
  What DrawShiftTerm draws: a term and a number.
-/
namespace Go.Proofs.Yteplfajhmpmklaa
open Go.RowKit
set_option linter.unusedVariables false

theorem rdnum_newd (zs : List Int) {r p : Nat} {w : World} {T : Nat} {cs : Array Value} (n : Nat) (hn : zs.length = n) (hcs : cs = (zs.map (Value.int .i64)).toArray) (hl : n ≤ 1048576) (h0 : zs ≠ []) (hp : p ≤ 1099511627776) (hr : Rd w r p) {b : Nat} (hb : b = w.heap.size) :
    Calls Try.prog 72 #[.pointer (some ⟨r, 0, none⟩), .slice (some ⟨b, 0, none⟩) n n] ((w.alloc (.cells cs T)).drew) (NumPost r p zs w) := by
  subst hb
  have hlt := hr.lt
  refine (rdnum r p zs _ _ hp (hr.ext ((Ext.alloc _ _).trans (Ext.drew _))) h0 ?_ (IntsAt.ext (ints_at_new zs n hn w T cs hcs hl) (Ext.drew _))).mono ?_
  · rintro b o c l h
    simp at h; omega
  · rintro e w' ⟨s, h1, h2, h3, h4⟩
    exact ⟨s, h1, h2, h3, (ExtR.of_ext ((Ext.alloc _ _).trans (Ext.drew _))).trans h4⟩
theorem BoxT.four {w : World} {b : Nat} {v0 v1 v2 v3 : Value} (h : BoxT w b v0 v1 v2 v3) : w.cell? ⟨b, 0, none⟩ = some v0 ∧ w.cell? ⟨b, 1, none⟩ = some v1 ∧ w.cell? ⟨b, 2, none⟩ = some v2 ∧ w.cell? ⟨b, 3, none⟩ = some v3 := ⟨h.1, h.2.1, h.2.2.1, h.2.2.2.1⟩
theorem setfour {w : World} {b c : Nat} {v0 v1 v2 v3 u0 u1 u2 u3 : Value} (hb : ¬ b = c) (h : BoxT w b v0 v1 v2 v3) :
    ((((w.setCell ⟨c, 0, none⟩ u0).setCell ⟨c, 1, none⟩ u1).setCell ⟨c, 2, none⟩ u2).setCell ⟨c, 3, none⟩ u3).cell? ⟨b, 0, none⟩ = some v0 ∧ ((((w.setCell ⟨c, 0, none⟩ u0).setCell ⟨c, 1, none⟩ u1).setCell ⟨c, 2, none⟩ u2).setCell ⟨c, 3, none⟩ u3).cell? ⟨b, 1, none⟩ = some v1 ∧ ((((w.setCell ⟨c, 0, none⟩ u0).setCell ⟨c, 1, none⟩ u1).setCell ⟨c, 2, none⟩ u2).setCell ⟨c, 3, none⟩ u3).cell? ⟨b, 2, none⟩ = some v2 ∧ ((((w.setCell ⟨c, 0, none⟩ u0).setCell ⟨c, 1, none⟩ u1).setCell ⟨c, 2, none⟩ u2).setCell ⟨c, 3, none⟩ u3).cell? ⟨b, 3, none⟩ = some v3 :=
  BoxT.four (h.fr (M := fun k => k = c) (Fr.of_grown (set4_grown w c u0 u1 u2 u3) (fun k e => by cases e; rfl)) hb)
/-- a drawn term and number -/
def TmNOut (zs : List Int) (w : World) (e : Ending) (w' : World) : Prop := ∃ t v n, e = .returned (.tuple #[v, .int .i64 n]) ∧ n ∈ zs ∧ Tm.at (fun b => w.heap.size ≤ b) w' t v ∧ Ext w w'


end Go.Proofs.Yteplfajhmpmklaa
