/-
  Generalization: the program's Generalize.
-/
import Derived.Test.YteplfajhmpmklaaMg38
import Derived.Test.YteplfajhmpmklaaMg19
namespace Go.Proofs.Yteplfajhmpmklaa
open Go.RowKit
set_option linter.unusedVariables false

set_option maxRecDepth 100000 in
set_option maxHeartbeats 2000000 in
theorem implgen_int (n : Int) (u : Tm) (hh : headF (.mk 2 n ⟨#[]⟩ []) u) : GenC (.mk 2 n ⟨#[]⟩ []) u := by
  intro v v' pv ps S w pp d d' hsh hsu ht hu hB hSp hSg hps hP
  have HF : Hid (genF (.mk 2 n ⟨#[]⟩ []) u ps = (.mk 2 n ⟨#[]⟩ [], ps)) := Lib.hid (by rw [gen_head hh]; simp [genL])
  have HP := Lib.hid hP
  have HB := Lib.hid hB
  have hpp := hP.lt
  have HPV : Hid (∀ g, pv.ownBlock = some g → g < w.heap.size) := Lib.hid (fun g hg => hP.2.2.1.lt hg)
  obtain ⟨uk, un, us, uks⟩ := u
  obtain ⟨h1, _, h3, h4, h5⟩ := hh
  simp only [Tm.kind, Tm.n, Tm.name, Tm.kids] at h1 h3 h4 h5 HF
  subst h1 h3 h4
  obtain ⟨_, sv, rfl, hsl⟩ := Tm.at_iff.1 ht
  obtain ⟨_, sv', rfl, hsl'⟩ := Tm.at_iff.1 hu
  obtain ⟨a, cap, rfl, g1, g2, g3, _⟩ := hsl
  obtain ⟨a', cap', rfl, g1', g2', g3', _⟩ := hsl'
  simp only [Tm.kids, Tm.kind, Tm.n, Tm.name] at *
  clear ht hu hB hSg hSp hps hP hsh hsu h5
  go_enter Try.func57, Try.ntmps57
  go_wp2_with fail
  refine (implnumber _ _).mono ?_
  rintro e w5 ⟨a5, c5, rfl, ho, e5⟩
  have E5 := Lib.hid ((((Ext.alloc w _).trans (Ext.alloc _ _)).trans (Ext.alloc _ _)).trans e5)
  have HO := Lib.hid ho
  have s5 := Below.size e5
  obtain ⟨r0, r1, r2, r3, z0, z1, z2, z3⟩ := BoxT.ext (w := ((w.alloc (.cells #[.int .i64 2, .int .i64 n, .string ⟨#[]⟩, .slice a 0 cap] 29)).alloc (.cells #[.int .i64 2, .int .i64 n, .string ⟨#[]⟩, .slice a' uks.length cap'] 29)).alloc (.cells #[.int .i64 0, .int .i64 0, .string ⟨#[]⟩, .slice none 0 0] 29)) (b := w.heap.size + 1 + 1) (BoxT.new _ (.int .i64 0) (.int .i64 0) (.string ⟨#[]⟩) (.slice none 0 0) 29 (by simp)) e5
  have hs3 : w.heap.size + 3 ≤ w5.heap.size := by simpa using s5
  clear ho e5
  go_wp2_with fail
  refine ret4_set (p := 6) (T := 29) (b := w.heap.size + 1 + 1) (by kernel_rfl) (fun _ => by kernel_rfl) (fun _ => by kernel_rfl) rfl rfl r0 r1 r2 r3 ?_
  intro X hX
  have f : Fr (fun b => b = w.heap.size + 1 + 1) w5 X := Fr.of_grown hX (fun k e => by cases e; rfl)
  rw [HF.out]
  refine ⟨a5, c5, pv, rfl, own_mono (fun b hb => ?_) f (fun b hb h => ?_) _ _ HO.out, (HP.out.ext E5.out).fr f (by omega) (fun g hg h => by have := HPV.out g hg; omega) (fun k hk h => by have := HB.out k hk; omega), fun g hg => .inl hg, (((Fr.of_ext E5.out).trans f).toExt (fun k hk h => by omega)) |> Fr.of_ext⟩
  · simp at hb
    exact ⟨by omega, fun h => by have := HPV.out b h; omega⟩
  · simp at hb; omega

theorem shape_two {n : Int} {s : ByteArray} {ks : List Tm} {d : Nat} (h : shapeF (.mk 2 n s ks) d = true) : s = ⟨#[]⟩ ∧ ks = [] := by
  rcases shape_own h with ⟨h1, _⟩ | ⟨_, h1, h2⟩ | ⟨h1, _⟩
  · omega
  · exact ⟨bl_ext (by rw [h1]; simp), h2⟩
  · omega
theorem implgen : ∀ (m : Nat) (t : Tm), Tm.sz t ≤ m → ∀ u, GenC t u := by
  intro m
  induction m with
  | zero => intro t hm; have := Tm.sz_pos t; omega
  | succ m ih =>
    intro t hm u v v' pv ps S w pp d d' hsh hsu ht hu hB hSp hSg hps hP
    obtain ⟨k, n, s, ks⟩ := t
    have IH : ∀ (j : Nat) (t : Tm), ks[j]? = some t → ∀ x, GenC t x := fun j t h x => ih t (by
      have := kid_lt (k := k) (n := n) (s := s) (ks := ks) h; omega) x
    have go : GenC (.mk k n s ks) u → Calls Try.prog 57 #[v, v', .pointer (some ⟨pp, 0, none⟩)] w (GenPost S pp pv (genF (.mk k n s ks) u ps).1 (genF (.mk k n s ks) u ps).2 w) := fun h => h v v' pv ps S w pp d d' hsh hsu ht hu hB hSp hSg hps hP
    apply go
    rcases shape_own hsh with ⟨rfl, _⟩ | ⟨rfl, _⟩ | ⟨rfl, rfl⟩
    · exact implgen_other _ _ (fun h => h.2.1 rfl) (.inl ⟨rfl, rfl⟩)
    · obtain ⟨rfl, rfl⟩ := shape_two hsh
      by_cases h2 : u.kind = 2
      · by_cases h3 : n = u.n
        · obtain ⟨uk, un, us, uks⟩ := u
          simp only [Tm.kind, Tm.n] at h2 h3
          subst h2 h3
          obtain ⟨rfl, rfl⟩ := shape_two hsu
          exact implgen_int _ _ ⟨rfl, by simp [Tm.kind], rfl, rfl, rfl⟩
        · exact implgen_other _ _ (fun h => h3 h.2.2.1) (.inr (.inr (.inl ⟨rfl, rfl, by simp [h2], by simpa [Tm.n] using h3⟩)))
      · exact implgen_other _ _ (fun h => h2 h.1.symm) (.inr (.inl ⟨rfl, rfl, by simpa using h2⟩))
    · by_cases h2 : u.kind = 3
      · have hu0 : u.n = 0 := by
          obtain ⟨uk, un, us, uks⟩ := u
          simp only [Tm.kind] at h2
          subst h2
          rcases shape_own hsu with ⟨h, _⟩ | ⟨h, _⟩ | ⟨_, h⟩
          · omega
          · omega
          · exact h
        by_cases h3 : s = u.name
        · by_cases h4 : ks.length = u.kids.length
          · exact implgenl 0 s ks u ⟨h2.symm, by simp [Tm.kind], hu0.symm, h3, h4⟩ rfl IH
          · exact implgen_other _ _ (fun h => h4 h.2.2.2.2) (.inr (.inr (.inr (.inr (.inr ⟨rfl, by simp [h2], by simp [Tm.name, h3], by show ((ks.length : Int) == (u.kids.length : Int)) = false; exact beq_false_of_ne (fun h => h4 (by omega)), rfl⟩)))))
        · exact implgen_other _ _ (fun h => h3 h.2.2.2.1) (.inr (.inr (.inr (.inr (.inl ⟨rfl, by simp [h2], by simp only [Tm.name]; simp; exact fun h => h3 (bl_ext h), rfl⟩)))))
      · exact implgen_other _ _ (fun h => h2 h.1.symm) (.inr (.inr (.inr (.inl ⟨rfl, by simpa using h2, rfl⟩))))

theorem gen_yes {t u : Tm} (h : genB t u = true) : genR t u = (genF t u []).1 := by unfold genR; rw [if_pos h]
set_option maxRecDepth 100000 in
set_option maxHeartbeats 4000000 in
theorem implGeneralize (t u : Tm) (v v' : Value) (S : Nat → Prop) (w : World) (ht : Tm.at S w t v) (hu : Tm.at S w u v') :
    Calls Try.prog 23 #[v, v'] w (TmBO (genR t u) (genB t u) w) := by
  replace ht := Tm.at_bound ht
  replace hu := Tm.at_bound hu
  obtain ⟨S, hB, ht, hu⟩ : ∃ S : Nat → Prop, (∀ b, S b → b < w.heap.size) ∧ Tm.at S w t v ∧ Tm.at S w u v' := ⟨_, fun b hb => hb.2, ht, hu⟩
  have HT := Lib.hid ht
  have HU := Lib.hid hu
  have HB := Lib.hid hB
  obtain ⟨a, c, rfl⟩ := at_form ht
  obtain ⟨a', c', rfl⟩ := at_form hu
  clear ht hu hB
  have E3 := Lib.hid (((Ext.alloc w (.cells #[.int .i64 t.kind, .int .i64 t.n, .string t.name, .slice a t.kids.length c] 29)).trans (Ext.alloc _ (.cells #[.int .i64 u.kind, .int .i64 u.n, .string u.name, .slice a' u.kids.length c'] 29))).trans (Ext.alloc _ (.cells #[.int .i64 0, .int .i64 0, .string ⟨#[]⟩, .slice none 0 0] 29)))
  obtain ⟨b1, hb1⟩ : ∃ x, validF t = x := ⟨_, rfl⟩
  obtain ⟨b2, hb2⟩ : ∃ x, validF u = x := ⟨_, rfl⟩
  have HB1 := Lib.hid hb1
  have HB2 := Lib.hid hb2
  clear hb1 hb2
  have BX : Hid (BoxT (((w.alloc (.cells #[.int .i64 t.kind, .int .i64 t.n, .string t.name, .slice a t.kids.length c] 29)).alloc (.cells #[.int .i64 u.kind, .int .i64 u.n, .string u.name, .slice a' u.kids.length c'] 29)).alloc (.cells #[.int .i64 0, .int .i64 0, .string ⟨#[]⟩, .slice none 0 0] 29)) w.heap.size (.int .i64 t.kind) (.int .i64 t.n) (.string t.name) (.slice a t.kids.length c) ∧
      BoxT (((w.alloc (.cells #[.int .i64 t.kind, .int .i64 t.n, .string t.name, .slice a t.kids.length c] 29)).alloc (.cells #[.int .i64 u.kind, .int .i64 u.n, .string u.name, .slice a' u.kids.length c'] 29)).alloc (.cells #[.int .i64 0, .int .i64 0, .string ⟨#[]⟩, .slice none 0 0] 29)) (w.heap.size + 1) (.int .i64 u.kind) (.int .i64 u.n) (.string u.name) (.slice a' u.kids.length c') ∧
      BoxT (((w.alloc (.cells #[.int .i64 t.kind, .int .i64 t.n, .string t.name, .slice a t.kids.length c] 29)).alloc (.cells #[.int .i64 u.kind, .int .i64 u.n, .string u.name, .slice a' u.kids.length c'] 29)).alloc (.cells #[.int .i64 0, .int .i64 0, .string ⟨#[]⟩, .slice none 0 0] 29)) (w.heap.size + 1 + 1) (.int .i64 0) (.int .i64 0) (.string ⟨#[]⟩) (.slice none 0 0)) :=
    Lib.hid (by refine ⟨⟨?_, ?_, ?_, ?_, ?_, ?_, ?_, ?_⟩, ⟨?_, ?_, ?_, ?_, ?_, ?_, ?_, ?_⟩, ⟨?_, ?_, ?_, ?_, ?_, ?_, ?_, ?_⟩⟩ <;> go_simp)
  go_enter Try.func23, Try.ntmps23
  go_wp2_with fail
  refine (implTermValid t _ S _ (Tm.at_ext E3.out HT.out)).mono ?_
  rw [HB1.out]
  rintro e w1 ⟨rfl, e1⟩
  have E1 := Lib.hid (E3.out.trans e1)
  have B1 := Lib.hid (And.intro (BX.out.1.ext e1) (And.intro (BX.out.2.1.ext e1) (BX.out.2.2.ext e1)))
  obtain ⟨⟨x0, x1, x2, x3, _, _, _, _⟩, ⟨y0, y1, y2, y3, _, _, _, _⟩, ⟨r0, r1, r2, r3, z0, z1, z2, z3⟩⟩ := B1.out
  clear e1 BX E3
  have no : ∀ (X w5 : World), Ext w w5 → Fr (fun k => k = w.heap.size + 1 + 1) w5 X → genB t u = false → TmBO (genR t u) (genB t u) w (.returned (.tuple #[.agg #[.int .i64 0, .int .i64 0, .string ⟨#[]⟩, .slice none 0 0], .bool false])) X := fun X w5 e f h => by
    rw [gen_no h, h]
    exact ⟨none, 0, rfl, own_nil _ _ _ _ _ (by decide), ((Fr.of_ext e).trans f).toExt (fun k hk h => by omega)⟩
  have NO := Lib.hid no
  clear no
  cases b1
  · have HF : Hid (genB t u = false) := Lib.hid (by unfold genB; rw [HB1.out]; rfl)
    go_wp2_with fail
    refine ret4b_set (p := 4) (q := 5) (T := 29) (by kernel_rfl) (fun _ => by kernel_rfl) (fun _ => by kernel_rfl) rfl rfl rfl B1.out.2.2 ?_
    intro X f
    exact NO.out X w1 E1.out f HF.out
  · have V1 := Lib.hid (Tm.at_ext E1.out HU.out)
    go_wp2_with fail
    refine (implTermValid u _ S _ V1.out).mono ?_
    rw [HB2.out]
    rintro e w2 ⟨rfl, e2⟩
    have E2 := Lib.hid (E1.out.trans e2)
    have B2 := Lib.hid (And.intro (B1.out.1.ext e2) (And.intro (B1.out.2.1.ext e2) (B1.out.2.2.ext e2)))
    clear x0 x1 x2 x3 y0 y1 y2 y3 r0 r1 r2 r3 z0 z1 z2 z3
    obtain ⟨⟨x0, x1, x2, x3, _, _, _, _⟩, ⟨y0, y1, y2, y3, _, _, _, _⟩, ⟨r0, r1, r2, r3, z0, z1, z2, z3⟩⟩ := B2.out
    have hb0 := B2.out.1.lt
    have hb1 := B2.out.2.1.lt
    have hb2 := B2.out.2.2.lt
    clear e2 B1 V1
    cases b2
    · have HF : Hid (genB t u = false) := Lib.hid (by unfold genB; rw [HB2.out, Bool.and_false]; rfl)
      go_wp2_with fail
      refine ret4b_set (p := 4) (q := 5) (T := 29) (by kernel_rfl) (fun _ => by kernel_rfl) (fun _ => by kernel_rfl) rfl rfl rfl B2.out.2.2 ?_
      intro X f
      exact NO.out X w2 E2.out f HF.out
    · have HPC : Hid (PrC S w2.heap.size [] (.slice none 0 0) (w2.alloc (.cells #[.slice none 0 0] 74))) := Lib.hid ⟨by go_simp, by go_simp, PrI.nil _ _, by simp [Value.ownBlock]⟩
      have HSB : Hid (∀ b, S b → b < w2.heap.size) := Lib.hid (fun b h => Nat.lt_of_lt_of_le (HB.out b h) (Below.size E2.out))
      have HSZ : Hid (Tm.sz t ≤ 120) := Lib.hid (by have := HB1.out; rw [valid_eq] at this; simp at this; exact this.2)
      have SH1 := Lib.hid (valid_shape HB1.out)
      have SH2 := Lib.hid (valid_shape HB2.out)
      go_wp2_with fail
      refine (implgen _ t (Nat.le_refl _) u _ _ (.slice none 0 0) [] S _ w2.heap.size 30 30 SH1.out SH2.out (Tm.at_ext (E2.out.trans (Ext.alloc _ _)) HT.out) (Tm.at_ext (E2.out.trans (Ext.alloc _ _)) HU.out) (fun b h => by have := HSB.out b h; simp; omega) (fun h => by have := HSB.out _ h; omega) (by simp [Value.ownBlock]) (by have := HSZ.out; simp; omega) HPC.out).mono ?_
      rintro e w3 ⟨a3, c3, pv3, rfl, ho, hp3, hn3, f3⟩
      obtain ⟨r, hr⟩ : ∃ r, (genF t u []).1 = r := ⟨_, rfl⟩
      rw [hr] at ho ⊢
      have HR := Lib.hid hr
      have E3 := Lib.hid (show Ext w w3 from ((Fr.of_ext (E2.out.trans (Ext.alloc _ _))).trans f3).toExt (fun k hk h => h.elim (fun h => by omega) (fun h => by simp [Value.ownBlock] at h)))
      have G3 : Hid (Fr (fun k => k = w2.heap.size) w2 w3) := Lib.hid ((Fr.of_ext (Ext.alloc _ _)).trans (f3.mono (fun k _ h => h.elim id (fun h => by simp [Value.ownBlock] at h))))
      have hz3 : w2.heap.size + 1 ≤ w3.heap.size := by have := f3.size; simpa using this
      have HO := Lib.hid (own_zone (F' := fun b => w2.heap.size ≤ b) ho (fun b hb => by have := hb.1; simp at this; omega))
      have B3 := Lib.hid (B2.out.2.2.fr G3.out (by omega))
      clear hr ho hp3 hn3 f3 x0 x1 x2 x3 y0 y1 y2 y3 r0 r1 r2 r3 z0 z1 z2 z3
      obtain ⟨r0, r1, r2, r3, z0, z1, z2, z3⟩ := B3.out
      have V3 := Lib.hid (own_flat _ _ _ HO.out)
      have Z3 := Lib.hid (BoxT.new w3 (.int .i64 r.kind) (.int .i64 r.n) (.string r.name) (.slice a3 r.kids.length c3) 29 rfl)
      obtain ⟨b3, hb3⟩ : ∃ x, validF r = x := ⟨_, rfl⟩
      have HB3 := Lib.hid hb3
      clear hb3
      go_wp2_with fail
      refine (implTermValid r _ _ _ (Tm.at_ext (Ext.alloc _ _) V3.out)).mono ?_
      rw [HB3.out]
      rintro e w4 ⟨rfl, e4⟩
      have B4 := Lib.hid (B3.out.ext ((Ext.alloc _ _).trans e4))
      have Z4 := Lib.hid (Z3.out.ext e4)
      have E4 := Lib.hid (E3.out.trans ((Ext.alloc _ _).trans e4))
      have HO4 := Lib.hid (own_ext1 HO.out ((Ext.alloc _ _).trans e4))
      have hz4 : w3.heap.size ≤ w4.heap.size := by have := Below.size e4; simp at this; omega
      clear e4 r0 r1 r2 r3 z0 z1 z2 z3
      obtain ⟨r0, r1, r2, r3, z0, z1, z2, z3⟩ := B4.out
      obtain ⟨y0, y1, y2, y3, _, _, _, _⟩ := Z4.out
      cases b3
      · have HF : Hid (genB t u = false) := Lib.hid (by unfold genB; rw [HR.out, HB3.out, Bool.and_false])
        go_wp2_with fail
        refine ret4b_set (p := 4) (q := 5) (T := 29) (by kernel_rfl) (fun _ => by kernel_rfl) (fun _ => by kernel_rfl) rfl rfl rfl B4.out ?_
        intro X f
        exact NO.out X w4 E4.out f HF.out
      · have HF : Hid (genB t u = true) := Lib.hid (by unfold genB; rw [HR.out, HB3.out, HB1.out, HB2.out]; rfl)
        go_wp2_with fail
        refine ret4b_set (p := 4) (q := 5) (T := 29) (by kernel_rfl) (fun _ => by kernel_rfl) (fun _ => by kernel_rfl) rfl rfl rfl B4.out ?_
        intro X f
        rw [gen_yes HF.out, HR.out, HF.out]
        exact ⟨_, _, rfl, own_mono (fun b hb => by omega) f (fun b hb h => by omega) _ _ HO4.out, ((Fr.of_ext E4.out).trans f).toExt (fun k hk h => by omega)⟩
end Go.Proofs.Yteplfajhmpmklaa
