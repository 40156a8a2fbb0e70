/-
  The program's store: unify.
-/
import Derived.StillTailTactics
import Derived.Test.YtognkaebiafgbaaGreatMv46
import Derived.Test.YtognkaebiafgbaaGreatMv47
import Derived.Test.YtognkaebiafgbaaGreatMv16
namespace Go.Proofs.YtognkaebiafgbaaGreat
open Go.RowKit Go.Maps
set_option linter.unusedVariables false
def Trl (K K1 : List Tm) (L2 : List Int) : Prop := (∀ n : Int, 0 ≤ n → n ≤ 25 → lookK K1 n = lookK K n ∨ n ∈ L2) ∧ ∀ n, n ∈ L2 → 0 ≤ n ∧ n ≤ 25
theorem Trl.refl (K : List Tm) : Trl K K [] := ⟨fun _ _ _ => .inl rfl, fun _ h => by simp at h⟩
theorem Trl.trans {A B C : List Tm} {L M : List Int} (h : Trl A B L) (g : Trl B C M) : Trl A C (L ++ M) := ⟨fun n h1 h2 => by
  rcases g.1 n h1 h2 with e | e
  · rcases h.1 n h1 h2 with e' | e'
    · exact .inl (e.trans e')
    · exact .inr (List.mem_append_left _ e')
  · exact .inr (List.mem_append_right _ e), fun n hn => (List.mem_append.1 hn).elim (h.2 n) (g.2 n)⟩
theorem Trl.set {K : List Tm} {n : Int} {u : Tm} (hl : K.length = 26) (hn : 0 ≤ n ∧ n ≤ 25) : Trl K (K.set n.toNat u) [n] := ⟨fun m h1 h2 => by
  rw [look_set hl hn ⟨h1, h2⟩]
  split
  · rename_i e; exact .inr (by simp [e])
  · exact .inl rfl, fun m hm => by simp at hm; subst hm; exact hn⟩
def UniP (S : Nat → Prop) (sb mb : Nat) (K K1 : List Tm) (c : Bool) (L : List Int) (tv : Value) (w : World) (e : Ending) (w' : World) : Prop :=
  e = .returned (.bool c) ∧ ∃ L2, StoP S sb mb K1 L L2 tv w w' ∧ Trl K K1 L2
def UniC (K : List Tm) (a b : Tm) (K1 : List Tm) (c : Bool) : Prop := ∀ (va vb tv : Value) (L : List Int) (S : Nat → Prop) (w : World) (sb mb : Nat), (∀ b, S b → b < w.heap.size) → Tm.at S w a va → Tm.at S w b vb → StoT S w sb mb K L tv →
  Calls Tryz.prog 32 #[.pointer (some ⟨sb, 0, none⟩), va, vb] w (UniP S sb mb K K1 c L tv w)
def WkG (A B : Nat) (a b : Tm) (ax bx : Option Addr) (ac bc : Nat) (W : World) (n6 n7 : Prop) (w : World) : Prop :=
  Fr (fun k => k = A ∨ k = B) W w ∧ (n6 → BoxT w A (.int .i64 a.kind) (.int .i64 a.n) (.string a.name) (.slice ax a.kids.length ac)) ∧ (n7 → BoxT w B (.int .i64 b.kind) (.int .i64 b.n) (.string b.name) (.slice bx b.kids.length bc))
def WkV (S : Nat → Prop) (x : Tm) (v : Value) (w : World) : Prop := ∃ p q, v = val4 x p q ∧ Tm.at S w x (val4 x p q)
def WkB (S : Nat → Prop) (A : Nat) (x : Tm) (w : World) : Prop := ∃ p q, BoxT w A (.int .i64 x.kind) (.int .i64 x.n) (.string x.name) (.slice p x.kids.length q) ∧ Tm.at S w x (val4 x p q)
def WkΦ (S : Nat → Prop) (sb A B : Nat) (a b x y : Tm) (ax bx : Option Addr) (ac bc : Nat) (i : Nat) (v : Value) (w : World) : Prop :=
  match i with
  | 1 => v = val4 a ax ac
  | 2 => WkV S x v w
  | 4 => v = val4 b bx bc
  | 5 => WkV S y v w
  | 6 => WkB S A x w
  | 7 => WkB S B y w
  | _ => v = .pointer (some ⟨sb, 0, none⟩)
theorem WkG.to {A B : Nat} {a b : Tm} {ax bx : Option Addr} {ac bc : Nat} {W w : World} {n6 n7 m6 m7 : Prop} (h : WkG A B a b ax bx ac bc W n6 n7 w) (h6 : m6 → n6) (h7 : m7 → n7) : WkG A B a b ax bx ac bc W m6 m7 w := ⟨h.1, fun x => h.2.1 (h6 x), fun x => h.2.2 (h7 x)⟩
theorem WkG.ext {A B : Nat} {a b : Tm} {ax bx : Option Addr} {ac bc : Nat} {W w w' : World} {n6 n7 : Prop} (h : WkG A B a b ax bx ac bc W n6 n7 w) (e : Ext w w') : WkG A B a b ax bx ac bc W n6 n7 w' := ⟨h.1.trans (Fr.of_ext e), fun x => (h.2.1 x).ext e, fun x => (h.2.2 x).ext e⟩
theorem WkΦ.fr {S M : Nat → Prop} {sb A B : Nat} {a b x y : Tm} {ax bx : Option Addr} {ac bc i : Nat} {v : Value} {w w' : World} (h : WkΦ S sb A B a b x y ax bx ac bc i v w) (f : Fr M w w') (hS : ∀ k, S k → ¬ M k) (h6 : i = 6 → ¬ M A) (h7 : i = 7 → ¬ M B) (hi : i < 8) : WkΦ S sb A B a b x y ax bx ac bc i v w' := by
  rcases (by omega : i = 0 ∨ i = 1 ∨ i = 2 ∨ i = 3 ∨ i = 4 ∨ i = 5 ∨ i = 6 ∨ i = 7) with rfl | rfl | rfl | rfl | rfl | rfl | rfl | rfl
  · exact h
  · exact h
  · obtain ⟨p, q, h1, h2⟩ := h
    exact ⟨p, q, h1, f.at h2 hS⟩
  · exact h
  · exact h
  · obtain ⟨p, q, h1, h2⟩ := h
    exact ⟨p, q, h1, f.at h2 hS⟩
  · obtain ⟨p, q, h1, h2⟩ := h
    exact ⟨p, q, h1.fr f (h6 rfl), f.at h2 hS⟩
  · obtain ⟨p, q, h1, h2⟩ := h
    exact ⟨p, q, h1.fr f (h7 rfl), f.at h2 hS⟩
theorem WkΦ.ext {S : Nat → Prop} {sb A B : Nat} {a b x y : Tm} {ax bx : Option Addr} {ac bc i : Nat} {v : Value} {w w' : World} (h : WkΦ S sb A B a b x y ax bx ac bc i v w) (e : Ext w w') (hi : i < 8) : WkΦ S sb A B a b x y ax bx ac bc i v w' := h.fr (M := fun _ => False) (Fr.of_ext e) (fun _ _ h => h) (fun _ h => h) (fun _ h => h) hi
theorem StoP.from {S : Nat → Prop} {sb mb : Nat} {K' : List Tm} {L L2 : List Int} {tv : Value} {w w3 w4 : World} (h : StoP S sb mb K' L L2 tv w3 w4) (e : Ext w w3) : StoP S sb mb K' L L2 tv w w4 := by
  obtain ⟨tv', h1, h2, h3⟩ := h
  exact ⟨tv', h1, fun g hg => (h2 g hg).imp id (fun h => Nat.le_trans (Below.size e) h), (Fr.of_ext e).trans h3⟩
set_option maxRecDepth 100000 in
set_option maxHeartbeats 8000000 in
theorem implunify : ∀ (F : Nat) (K : List Tm) (a b : Tm) (c : Bool) (K1 : List Tm) (d e : Nat), uniF F K a b = some (c, K1) → VK K → (∃ ρ, Rk K ρ) → shapeF a d = true → shapeF b e = true → UniC K a b K1 c := by
  intro F
  induction F with
  | zero => intro K a b c K1 d e h; unfold uniF at h; simp at h
  | succ F ih =>
    intro K a b c K1 d e h hv hr hsa hsb va vb tv L S w sb mb hB ht hu hst
    obtain ⟨x, y, hx, hy⟩ := uniF_walks h
    rw [uniF_succ hx hy] at h
    have HU := Lib.hid h
    have HX := Lib.hid hx
    have HY := Lib.hid hy
    have HV := Lib.hid hv
    have HR := Lib.hid hr
    have HSA := Lib.hid hsa
    have HSB := Lib.hid hsb
    have HB := Lib.hid hB
    have HTA := Lib.hid ht
    have HTB := Lib.hid hu
    have HST := Lib.hid hst
    have hsb := hst.1.lt
    obtain ⟨m0, _, hkm⟩ := hst.1.km
    have hmb := hkm.lt
    have hkm0 := hkm.1
    obtain ⟨ax, ac, rfl⟩ := at_form ht
    obtain ⟨bx, bc, rfl⟩ := at_form hu
    have E0 := Lib.hid ((Ext.alloc w (.cells #[.int .i64 a.kind, .int .i64 a.n, .string a.name, .slice ax a.kids.length ac] 26)).trans (Ext.alloc _ (.cells #[.int .i64 b.kind, .int .i64 b.n, .string b.name, .slice bx b.kids.length bc] 26)))
    have HSM : Hid (∀ k, S k → ¬ (k = w.heap.size ∨ k = w.heap.size + 1)) := Lib.hid (fun k hk h => by have := hB k hk; omega)
    have hsz0 : w.heap.size + 2 ≤ ((w.alloc (.cells #[.int .i64 a.kind, .int .i64 a.n, .string a.name, .slice ax a.kids.length ac] 26)).alloc (.cells #[.int .i64 b.kind, .int .i64 b.n, .string b.name, .slice bx b.kids.length bc] 26)).heap.size := by simp
    have BX := Lib.hid (And.intro ((BoxT.new w (.int .i64 a.kind) (.int .i64 a.n) (.string a.name) (.slice ax a.kids.length ac) 26 rfl).ext (Ext.alloc _ (.cells #[.int .i64 b.kind, .int .i64 b.n, .string b.name, .slice bx b.kids.length bc] 26))) (BoxT.new (w.alloc (.cells #[.int .i64 a.kind, .int .i64 a.n, .string a.name, .slice ax a.kids.length ac] 26)) (.int .i64 b.kind) (.int .i64 b.n) (.string b.name) (.slice bx b.kids.length bc) 26 (b := w.heap.size + 1) (by simp)))
    clear h hx hy hv hr hsa hB ht hu hst hkm
    go_enter Tryz.func32, Tryz.ntmps32
    go_wp2_with fail
    refine wp_region_relies (by kernel_rfl) (by kernel_rfl) (by kernel_rfl) (fun D _ w' => WkG w.heap.size (w.heap.size + 1) a b ax bx ac bc _ (¬ D 6) (¬ D 7) w') (WkΦ S sb w.heap.size (w.heap.size + 1) a b x y ax bx ac bc) ⟨Fr.of_ext (Ext.drew _), fun _ => BX.out.1.ext (Ext.drew _), fun _ => BX.out.2.ext (Ext.drew _)⟩ ?hs ?he
    case hs =>
      refine .cons ?h0 (.cons ?h1 (.cons ?h2 (.cons ?h3 (.cons ?h4 (.cons ?h5 (.cons ?h6 (.cons ?h7 .nil)))))))
      case h0 =>
        intro A D vs w5 old dep hnd hcl hlt hG K hK
        have s0 := old 0 (by kernel_rfl)
        simp only [List.getElem?_toArray, List.getElem?_cons_zero] at s0
        go_simp
        exact hK _ _ (hG.to (fun h hd => h (.inr hd)) (fun h hd => h (.inr hd))) (fun _ _ _ h => h) rfl
      case h1 =>
        intro A D vs w5 old dep hnd hcl hlt hG K hK
        have s4 := old 4 (by kernel_rfl)
        simp only [List.getElem?_toArray, List.getElem?_cons_succ, List.getElem?_cons_zero] at s4
        obtain ⟨q0, q1, q2, q3, _, _, _, _⟩ := hG.2.1 (fun h => hnd (hcl 6 1 h (by kernel_rfl)))
        go_simp
        exact hK _ _ (hG.to (fun h hd => h (.inr hd)) (fun h hd => h (.inr hd))) (fun _ _ _ h => h) rfl
      case h2 =>
        intro A D vs w5 old dep hnd hcl hlt hG K hK
        obtain ⟨_, e0, t0⟩ := dep 0 (by kernel_rfl)
        replace t0 := t0 8 (by kernel_rfl) (by simp)
        replace e0 : vs 0 = (.pointer (some ⟨sb, 0, none⟩)) := e0
        rw [e0] at t0
        obtain ⟨_, e1, t1⟩ := dep 1 (by kernel_rfl)
        replace t1 := t1 9 (by kernel_rfl) (by simp)
        replace e1 : vs 1 = val4 a ax ac := e1
        rw [e1] at t1
        unfold val4 at t1
        have hst5 := (HST.out.1.ext E0.out).fr hG.1 (fun k hk => hk.elim (fun h => ⟨fun hs => by have := HB.out k hs; omega, by omega, by omega⟩) (fun h => ⟨fun hs => by have := HB.out k hs; omega, by omega, by omega⟩))
        have hat5 := hG.1.at (Tm.at_ext E0.out HTA.out) HSM.out
        have hle := hG.1.size
        go_simp
        go_at_call 56
        refine (implwalk _ _ _ _ HX.out _ S w5 sb mb _ HV.out HSA.out (fun b hb => by have := HB.out b hb; omega) hat5 hst5).mono ?_
        rintro e w6 ⟨v6, rfl, hv6, e6⟩
        obtain ⟨p6, q6, rfl⟩ := at_form hv6
        exact hK _ _ ((hG.ext e6).to (fun h hd => h (.inr hd)) (fun h hd => h (.inr hd))) (fun j u hd h => h.ext e6 (hlt j hd)) ⟨p6, q6, rfl, hv6⟩
      case h3 =>
        intro A D vs w5 old dep hnd hcl hlt hG K hK
        have s0 := old 0 (by kernel_rfl)
        simp only [List.getElem?_toArray, List.getElem?_cons_zero] at s0
        go_simp
        exact hK _ _ (hG.to (fun h hd => h (.inr hd)) (fun h hd => h (.inr hd))) (fun _ _ _ h => h) rfl
      case h4 =>
        intro A D vs w5 old dep hnd hcl hlt hG K hK
        have s5 := old 5 (by kernel_rfl)
        simp only [List.getElem?_toArray, List.getElem?_cons_succ, List.getElem?_cons_zero] at s5
        obtain ⟨q0, q1, q2, q3, _, _, _, _⟩ := hG.2.2 (fun h => hnd (hcl 7 4 h (by kernel_rfl)))
        go_simp
        exact hK _ _ (hG.to (fun h hd => h (.inr hd)) (fun h hd => h (.inr hd))) (fun _ _ _ h => h) rfl
      case h5 =>
        intro A D vs w5 old dep hnd hcl hlt hG K hK
        obtain ⟨_, e3, t3⟩ := dep 3 (by kernel_rfl)
        replace t3 := t3 11 (by kernel_rfl) (by simp)
        replace e3 : vs 3 = (.pointer (some ⟨sb, 0, none⟩)) := e3
        rw [e3] at t3
        obtain ⟨_, e4, t4⟩ := dep 4 (by kernel_rfl)
        replace t4 := t4 12 (by kernel_rfl) (by simp)
        replace e4 : vs 4 = val4 b bx bc := e4
        rw [e4] at t4
        unfold val4 at t4
        have hst5 := (HST.out.1.ext E0.out).fr hG.1 (fun k hk => hk.elim (fun h => ⟨fun hs => by have := HB.out k hs; omega, by omega, by omega⟩) (fun h => ⟨fun hs => by have := HB.out k hs; omega, by omega, by omega⟩))
        have hat5 := hG.1.at (Tm.at_ext E0.out HTB.out) HSM.out
        have hle := hG.1.size
        go_simp
        go_at_call 56
        refine (implwalk _ _ _ _ HY.out _ S w5 sb mb _ HV.out HSB.out (fun b hb => by have := HB.out b hb; omega) hat5 hst5).mono ?_
        rintro e w6 ⟨v6, rfl, hv6, e6⟩
        obtain ⟨p6, q6, rfl⟩ := at_form hv6
        exact hK _ _ ((hG.ext e6).to (fun h hd => h (.inr hd)) (fun h hd => h (.inr hd))) (fun j u hd h => h.ext e6 (hlt j hd)) ⟨p6, q6, rfl, hv6⟩
      case h6 =>
        intro A D vs w5 old dep hnd hcl hlt hG K hK
        have s4 := old 4 (by kernel_rfl)
        simp only [List.getElem?_toArray, List.getElem?_cons_succ, List.getElem?_cons_zero] at s4
        obtain ⟨_, e2, t2⟩ := dep 2 (by kernel_rfl)
        replace t2 := t2 10 (by kernel_rfl) (by simp)
        obtain ⟨p6, q6, e6, hat6⟩ := e2
        rw [e6] at t2
        unfold val4 at t2
        have hbx := hG.2.1 hnd
        have hbx' := hbx
        have lr := hbx.lt
        obtain ⟨q0, q1, q2, q3, z0, z1, z2, z3⟩ := hbx'
        go_simp
        have f6 := put4_frw (M := fun k => k = w.heap.size) w5 (b := w.heap.size) (.int .i64 x.kind) (.int .i64 x.n) (.string x.name) (.slice p6 x.kids.length q6) rfl
        have hS6 : ∀ k, S k → ¬ k = w.heap.size := fun k hk h => by have := HB.out k hk; omega
        refine hK undef _ ⟨hG.1.trans (f6.mono (fun k _ h => .inl h)), fun h => absurd (.inl rfl) h, fun h => (hG.2.2 (fun hd => h (.inr hd))).fr f6 (by omega)⟩ (fun j u hd h => h.fr f6 hS6 (fun e => ?_) (fun e => ?_) (hlt j hd)) ⟨p6, q6, BoxT.put4w hbx _ _ _ _, f6.at hat6 hS6⟩
        · first | omega | (subst e; exact absurd hd hnd)
        · first | omega | (subst e; exact absurd hd hnd)
      case h7 =>
        intro A D vs w5 old dep hnd hcl hlt hG K hK
        have s5 := old 5 (by kernel_rfl)
        simp only [List.getElem?_toArray, List.getElem?_cons_succ, List.getElem?_cons_zero] at s5
        obtain ⟨_, e5, t5⟩ := dep 5 (by kernel_rfl)
        replace t5 := t5 13 (by kernel_rfl) (by simp)
        obtain ⟨p6, q6, e6, hat6⟩ := e5
        rw [e6] at t5
        unfold val4 at t5
        have hbx := hG.2.2 hnd
        have hbx' := hbx
        have lr := hbx.lt
        obtain ⟨q0, q1, q2, q3, z0, z1, z2, z3⟩ := hbx'
        go_simp
        have f6 := put4_frw (M := fun k => k = (w.heap.size + 1)) w5 (b := (w.heap.size + 1)) (.int .i64 y.kind) (.int .i64 y.n) (.string y.name) (.slice p6 y.kids.length q6) rfl
        have hS6 : ∀ k, S k → ¬ k = (w.heap.size + 1) := fun k hk h => by have := HB.out k hk; omega
        refine hK undef _ ⟨hG.1.trans (f6.mono (fun k _ h => .inr h)), fun h => (hG.2.1 (fun hd => h (.inr hd))).fr f6 (by omega), fun h => absurd (.inl rfl) h⟩ (fun j u hd h => h.fr f6 hS6 (fun e => ?_) (fun e => ?_) (hlt j hd)) ⟨p6, q6, BoxT.put4w hbx _ _ _ _, f6.at hat6 hS6⟩
        · first | omega | (subst e; exact absurd hd hnd)
        · first | omega | (subst e; exact absurd hd hnd)
    case he =>
      intro D vs w3 hD hG hφ
      obtain ⟨p, q, bx6, at6⟩ : WkB S w.heap.size x w3 := hφ 6 (by show 6 < 8; decide)
      obtain ⟨p', q', bx7, at7⟩ : WkB S (w.heap.size + 1) y w3 := hφ 7 (by show 7 < 8; decide)
      have F3 := Lib.hid (show Ext w w3 from ((Fr.of_ext E0.out).trans hG.1).toExt (fun k hk h => by omega))
      have W3 := Lib.hid (HST.out.ext F3.out)
      have X3 := Lib.hid bx6
      have Y3 := Lib.hid bx7
      have AX := Lib.hid at6
      have AY := Lib.hid at7
      have HB3 : Hid (∀ b, S b → b < w3.heap.size) := Lib.hid (fun b h => Nat.lt_of_lt_of_le (HB.out b h) (Below.size F3.out))
      obtain ⟨d1, hsx⟩ := walk_shape HV.out HSA.out HX.out
      obtain ⟨e1, hsy⟩ := walk_shape HV.out HSB.out HY.out
      have SX := Lib.hid hsx
      have SY := Lib.hid hsy
      have FX := Lib.hid (fun hk : x.kind = 1 => And.intro (shape_occ hsx hk) (walk_free HX.out hk))
      have FY := Lib.hid (fun hk : y.kind = 1 => And.intro (shape_occ hsy hk) (walk_free HY.out hk))
      have SAME : Hid (∀ w', Ext w3 w' → c = true → K1 = K → UniP S sb mb K K1 c L tv w (.returned (.bool true)) w') := Lib.hid (fun w' e' h1 h2 => by
        subst h1 h2
        exact ⟨rfl, [], ⟨tv, by simpa using W3.out.ext e', fun g hg => .inl hg, Fr.of_ext (F3.out.trans e')⟩, Trl.refl K1⟩)
      have NONE : Hid (∀ w', Ext w3 w' → c = false → K1 = K → UniP S sb mb K K1 c L tv w (.returned (.bool false)) w') := Lib.hid (fun w' e' h1 h2 => by
        subst h1 h2
        exact ⟨rfl, [], ⟨tv, by simpa using W3.out.ext e', fun g hg => .inl hg, Fr.of_ext (F3.out.trans e')⟩, Trl.refl K1⟩)
      clear hD hG hφ at6 at7 hsx hsy
      simp only [putO, Act.put, List.setIfInBounds_toArray, List.set_cons_zero, List.set_cons_succ]
      obtain ⟨x0, x1, x2, x3, _, _, _, _⟩ := bx6
      obtain ⟨y0, y1, y2, y3, _, _, _, _⟩ := bx7
      by_cases h1 : x.kind = 1
      · by_cases h2 : y.kind = 1 ∧ x.n = y.n
        · have HR1 := HU.out
          rw [if_pos ⟨h1, h2.1, h2.2⟩] at HR1
          have HR1 := Lib.hid HR1
          have q1 : (x.kind == 1) = true := by simp [h1]
          have q2 : (y.kind == 1) = true := by simp [h2.1]
          have q3 : (x.n == y.n) = true := by simp [h2.2]
          clear h1 h2
          go_wp2_with fail
          go_ret
          have hh := HR1.out
          simp only [Option.some.injEq, Prod.mk.injEq] at hh
          exact SAME.out _ (Ext.refl _) hh.1.symm hh.2.symm
        · have HR1 := HU.out
          rw [if_neg (fun h => h2 ⟨h.2.1, h.2.2⟩), if_pos h1] at HR1
          have HR1 := Lib.hid HR1
          have hk := h1
          obtain ⟨bo, hbo⟩ : ∃ b, occB K x.n y = b := ⟨_, rfl⟩
          have HBO := Lib.hid hbo
          have BD := Lib.hid (fun (w' : World) (e' : Ext w3 w') => implbind K x.n y _ HV.out HR.out (FX.out hk).1 (FX.out hk).2 SY.out _ tv L S w' sb mb (fun b h => Nat.lt_of_lt_of_le (HB3.out b h) (Below.size e')) (Tm.at_ext e' AY.out) (W3.out.ext e'))
          have LK := Lib.hid HV.out.1
          have NB := Lib.hid (FX.out hk).1
          rw [hbo] at BD
          have BR : Hid (∀ w', StoP S sb mb (if bo = true then K else K.set (x.n).toNat y) L (if bo = true then [] else [x.n]) tv w3 w' → UniP S sb mb K K1 c L tv w (.returned (.bool (!bo))) w') := Lib.hid (fun w' hp => by
            have hh := HR1.out
            have hp := hp.from F3.out
            cases bo
            · rw [if_neg (fun h => by rw [occB_true h] at hbo; cases hbo)] at hh
              simp only [Option.some.injEq, Prod.mk.injEq] at hh
              obtain ⟨rfl, rfl⟩ := hh
              exact ⟨rfl, [x.n], by simpa using hp, Trl.set LK.out NB.out⟩
            · rw [if_pos (occB_iff.1 hbo)] at hh
              simp only [Option.some.injEq, Prod.mk.injEq] at hh
              obtain ⟨rfl, rfl⟩ := hh
              exact ⟨rfl, [], by simpa using hp, Trl.refl K⟩)
          clear hbo hk
          have q1 : (x.kind == 1) = true := by simp [h1]
          have hpre : (y.kind == 1) = false ∨ ((y.kind == 1) = true ∧ (x.n == y.n) = false) := by
            by_cases h3 : y.kind = 1
            · exact .inr ⟨by simp [h3], by simpa using fun h => h2 ⟨h3, h⟩⟩
            · exact .inl (by simpa using h3)
          clear h1 h2
          rcases hpre with q2 | ⟨q2, q3⟩
          all_goals
            go_wp2_with fail
            refine (BD.out _ (Ext.refl _)).mono ?_
            rintro e4 w4 ⟨rfl, hp⟩
            have HPP := Lib.hid (BR.out w4 hp)
            clear hp
            go_wp2_with fail
            go_ret
            exact HPP.out
      · have q1 : (x.kind == 1) = false := by simpa using h1
        by_cases h2 : y.kind = 1
        · have HR1 := HU.out
          rw [if_neg (fun h => h1 h.1), if_neg h1, if_pos h2] at HR1
          have HR1 := Lib.hid HR1
          have hk := h2
          obtain ⟨bo, hbo⟩ : ∃ b, occB K y.n x = b := ⟨_, rfl⟩
          have HBO := Lib.hid hbo
          have BD := Lib.hid (fun (w' : World) (e' : Ext w3 w') => implbind K y.n x _ HV.out HR.out (FY.out hk).1 (FY.out hk).2 SX.out _ tv L S w' sb mb (fun b h => Nat.lt_of_lt_of_le (HB3.out b h) (Below.size e')) (Tm.at_ext e' AX.out) (W3.out.ext e'))
          have LK := Lib.hid HV.out.1
          have NB := Lib.hid (FY.out hk).1
          rw [hbo] at BD
          have BR : Hid (∀ w', StoP S sb mb (if bo = true then K else K.set (y.n).toNat x) L (if bo = true then [] else [y.n]) tv w3 w' → UniP S sb mb K K1 c L tv w (.returned (.bool (!bo))) w') := Lib.hid (fun w' hp => by
            have hh := HR1.out
            have hp := hp.from F3.out
            cases bo
            · rw [if_neg (fun h => by rw [occB_true h] at hbo; cases hbo)] at hh
              simp only [Option.some.injEq, Prod.mk.injEq] at hh
              obtain ⟨rfl, rfl⟩ := hh
              exact ⟨rfl, [y.n], by simpa using hp, Trl.set LK.out NB.out⟩
            · rw [if_pos (occB_iff.1 hbo)] at hh
              simp only [Option.some.injEq, Prod.mk.injEq] at hh
              obtain ⟨rfl, rfl⟩ := hh
              exact ⟨rfl, [], by simpa using hp, Trl.refl K⟩)
          clear hbo hk
          have q2 : (y.kind == 1) = true := by simp [h2]
          clear h1 h2
          go_wp2_with fail
          refine (BD.out _ (Ext.refl _)).mono ?_
          rintro e4 w4 ⟨rfl, hp⟩
          have HPP := Lib.hid (BR.out w4 hp)
          clear hp
          go_wp2_with fail
          go_ret
          exact HPP.out
        · have q2 : (y.kind == 1) = false := by simpa using h2
          by_cases h3 : x.kind = y.kind ∧ x.n = y.n ∧ x.name = y.name ∧ x.kids.length = y.kids.length
          · have HR1 := HU.out
            rw [if_neg (fun h => h1 h.1), if_neg h1, if_neg h2, if_pos h3] at HR1
            have HR1 := Lib.hid HR1
            obtain ⟨g1, g2, g3, g4⟩ := h3
            have q3 : (x.kind != y.kind) = false := by simp [g1]
            have q4 : (x.n != y.n) = false := by simp [g2]
            have q5 : (x.name.toList == y.name.toList) = true := by simp [g3]
            have q6 : ((x.kids.length : Int) != (y.kids.length : Int)) = false := by simp [g4]
            have HL4 := Lib.hid g4
            have HNT : Hid (∀ g, tv.ownBlock = some g → g < w.heap.size) := Lib.hid (fun g hg => (HST.out.2.2.2.1.1.lt g hg).2)
            have KX := Lib.hid (kids_shape SX.out)
            have KY := Lib.hid (kids_shape SY.out)
            have hs3 := Below.size F3.out
            have HIH := Lib.hid ih
            clear h1 h2 g1 g2 g3 g4 ih
            have HSM3 : Hid (∀ k, S k → ¬ MTst sb mb tv k) := Lib.hid (fun k hk h => by
              rcases h with rfl | rfl | h
              · exact HST.out.1.2.1 hk
              · exact hkm0 hk
              · exact (HST.out.2.2.2.2.1 k h).2.2 hk)
            have HAB : Hid (¬ MTst sb mb tv w.heap.size ∧ ¬ MTst sb mb tv (w.heap.size + 1)) := Lib.hid ⟨fun h => by
              rcases h with h | h | h
              · omega
              · omega
              · have := HNT.out _ h; omega, fun h => by
              rcases h with h | h | h
              · omega
              · omega
              · have := HNT.out _ h; omega⟩
            go_wp2_with fail
            go_loopw [7, 80] (fun _ i wr => ∃ (j : Nat) (Kj : List Tm) (Lj : List Int) (tvj : Value), j ≤ x.kids.length ∧ i = .int .i64 j ∧ Hid (uniL F Kj (x.kids.drop j) (y.kids.drop j) = some (c, K1)) ∧ Hid (VK Kj ∧ ∃ ρ, Rk Kj ρ) ∧ Hid (StoT S wr sb mb Kj (L ++ Lj) tvj ∧ (∀ g, tvj.ownBlock = some g → tv.ownBlock = some g ∨ w3.heap.size ≤ g) ∧ Fr (MTst sb mb tv) w3 wr ∧ Trl K Kj Lj)) (fun _ i _ => x.kids.length - (intOf i).toNat)
            case atStart => exact ⟨0, K, [], tv, Nat.zero_le _, rfl, HR1, Lib.hid ⟨HV.out, HR.out⟩, Lib.hid ⟨by simpa using W3.out, fun g hg => .inl hg, Fr.refl _ _, Trl.refl K⟩⟩
            case round =>
              obtain ⟨j, Kj, Lj, tvj, hj, rfl, HUj, HVj, HWj⟩ := hrel
              obtain ⟨_, _, _, xa, _, _, _, _⟩ := X3.out.fr HWj.out.2.2.1 HAB.out.1
              obtain ⟨_, _, _, ya, _, _, _, _⟩ := Y3.out.fr HWj.out.2.2.1 HAB.out.2
              have hwj := HWj.out.2.2.1.size
              by_cases hlt : j < x.kids.length
              · obtain ⟨t, htk⟩ := getk hlt
                have hly : j < y.kids.length := by have := HL4.out; omega
                obtain ⟨u, huk⟩ := getk hly
                have hu1 := HUj.out
                rw [List.drop_eq_getElem_cons hlt, List.drop_eq_getElem_cons hly, uniL_cons] at hu1
                rw [show x.kids[j] = t from (List.getElem?_eq_some_iff.1 htk).2, show y.kids[j] = u from (List.getElem?_eq_some_iff.1 huk).2] at hu1
                obtain ⟨c2, K2, hq⟩ : ∃ c2 K2, uniF F Kj t u = some (c2, K2) := by
                  cases hq : uniF F Kj t u with
                  | none => rw [hq] at hu1; simp at hu1
                  | some r => exact ⟨r.1, r.2, rfl⟩
                rw [hq] at hu1
                have sht := shapeL_mem KX.out (List.mem_of_getElem? htk)
                have shu := shapeL_mem KY.out (List.mem_of_getElem? huk)
                have HIC := Lib.hid (HIH.out Kj t u c2 K2 _ _ hq HVj.out.1 HVj.out.2 sht shu)
                have HGD : Hid (c2 = true → Good Kj K2) := Lib.hid (fun h => by subst h; exact outF F Kj t u _ _ K2 HVj.out.1 HVj.out.2 sht shu hq)
                obtain ⟨_, sv, e6, hsx⟩ := Tm.at_iff.1 AX.out
                obtain ⟨_, sv', e7, hsy⟩ := Tm.at_iff.1 AY.out
                simp only [val4, Value.agg.injEq, Array.mk.injEq, List.cons.injEq, and_true, true_and] at e6 e7
                subst e6 e7
                obtain ⟨_, _, e8, hcx, _, hlx, r4⟩ := HWj.out.2.2.1.sl hsx HSM3.out
                cases e8
                obtain ⟨_, _, e8, hcy, _, hly2, r4'⟩ := HWj.out.2.2.1.sl hsy HSM3.out
                cases e8
                obtain ⟨b6, off6, a1, c1, rfl, hSb, k1, k2, k3, k4, hat1⟩ := tget r4 htk
                obtain ⟨b7, off7, a2, c3, rfl, hSb', m1, m2, m3, m4, hat2⟩ := tget r4' huk
                have V1 := Lib.hid (Tm.at_ext (Ext.drew wr) hat1)
                have V2 := Lib.hid (Tm.at_ext (Ext.drew wr) hat2)
                have WD := Lib.hid (HWj.out.1.ext (Ext.drew wr))
                have HBD : Hid (∀ b, S b → b < wr.drew.heap.size) := Lib.hid (fun b h => by have h1 : wr.drew.heap.size = wr.heap.size := rfl; have := HB3.out b h; omega)
                have HU1 := Lib.hid hu1
                have xa' : wr.drew.cell? _ = _ := xa
                have ya' : wr.drew.cell? _ = _ := ya
                have l1' : wr.drew.cell? _ = _ := k1
                have l2' : wr.drew.cell? _ = _ := k2
                have l3' : wr.drew.cell? _ = _ := k3
                have l4' : wr.drew.cell? _ = _ := k4
                have n1' : wr.drew.cell? _ = _ := m1
                have n2' : wr.drew.cell? _ = _ := m2
                have n3' : wr.drew.cell? _ = _ := m3
                have n4' : wr.drew.cell? _ = _ := m4
                have CMP : Hid (∀ (w5 : World) (L2 : List Int), StoP S sb mb K2 (L ++ Lj) L2 tvj wr.drew w5 → Trl Kj K2 L2 → ∃ tv2, StoT S w5 sb mb K2 (L ++ (Lj ++ L2)) tv2 ∧ (∀ g, tv2.ownBlock = some g → tv.ownBlock = some g ∨ w3.heap.size ≤ g) ∧ Fr (MTst sb mb tv) w3 w5 ∧ Trl K K2 (Lj ++ L2)) := Lib.hid (fun w5 L2 hp ht => by
                  obtain ⟨tv2, h1, h2, h3⟩ := hp
                  have hd : wr.drew.heap.size = wr.heap.size := rfl
                  refine ⟨tv2, by rw [← List.append_assoc]; exact h1, fun g hg => ?_, ?_, HWj.out.2.2.2.trans ht⟩
                  · rcases h2 g hg with h | h
                    · exact HWj.out.2.1 g h
                    · exact .inr (by omega)
                  · have f : Fr (fun k => MTst sb mb tv k ∨ w3.heap.size ≤ k) w3 w5 := ((HWj.out.2.2.1.mono (fun k _ h => .inl h)).trans (Fr.of_ext (Ext.drew _))).trans (h3.mono (fun k _ h => by
                      rcases h with h | h | h
                      · exact .inl (.inl h)
                      · exact .inl (.inr (.inl h))
                      · rcases HWj.out.2.1 k h with h | h
                        · exact .inl (.inr (.inr h))
                        · exact .inr h))
                    exact f.mono (fun k hk h => h.elim id (fun h => absurd hk (by omega))))
                clear r4 r4' htk huk hu1 hq sht shu hat1 hat2 hsx hsy
                cases c2
                all_goals
                  go_wp2_with fail
                  go_still_tail 11, (by kernel_rfl)
                  change wpList _ _ _ _ _ wr.drew
                  go_wp2_with fail
                  refine (HIC.out _ _ tvj (L ++ Lj) S _ sb mb HBD.out V1.out V2.out WD.out).mono ?_
                  rintro e5 w5 ⟨rfl, L2, hp, ht⟩
                  obtain ⟨tv2, i1, i2, i3, i4⟩ := CMP.out w5 L2 hp ht
                  have I1 := Lib.hid i1
                  have I2 := Lib.hid i2
                  have I3 := Lib.hid i3
                  have I4 := Lib.hid i4
                  clear hp ht i1 i2 i3 i4
                  go_wp2_with fail
                · go_ret
                  have hh := HU1.out
                  simp only [Option.some.injEq, Prod.mk.injEq] at hh
                  obtain ⟨rfl, rfl⟩ := hh
                  exact ⟨rfl, Lj ++ L2, StoP.from ⟨tv2, I1.out, I2.out, I3.out⟩ F3.out, I4.out⟩
                · go_roundw
                  case rel => exact ⟨_, _, _, _, _, _, _, _, _, _, _, _, _, _, _, _, _, _, _, ⟨j + 1, K2, Lj ++ L2, tv2, by omega, by simp, HU1, Lib.hid ⟨(HGD.out (by first | trivial | rfl)).1, (HGD.out (by first | trivial | rfl)).2.1⟩, Lib.hid ⟨I1.out, I2.out, I3.out, I4.out⟩⟩, rfl⟩
                  case measure => simp [intOf]; omega
              · have hjj : j = x.kids.length := by omega
                subst hjj
                have HE : Hid (c = true ∧ K1 = Kj) := Lib.hid (by
                  have hh := HUj.out
                  rw [List.drop_of_length_le (Nat.le_refl _), uniL_nil] at hh
                  simp only [Option.some.injEq, Prod.mk.injEq] at hh
                  exact ⟨hh.1.symm, hh.2.symm⟩)
                go_wp2_with fail
                go_ret
                rw [HE.out.1, HE.out.2]
                exact ⟨rfl, Lj, StoP.from ⟨tvj, HWj.out.1, HWj.out.2.1, HWj.out.2.2.1⟩ F3.out, HWj.out.2.2.2⟩
          · have HR1 := HU.out
            rw [if_neg (fun h => h1 h.1), if_neg h1, if_neg h2, if_neg h3] at HR1
            have HR1 := Lib.hid HR1
            have hpre : (x.kind != y.kind) = true ∨ ((x.kind != y.kind) = false ∧ (x.n != y.n) = true) ∨ ((x.kind != y.kind) = false ∧ (x.n != y.n) = false ∧ (x.name.toList == y.name.toList) = false) ∨ ((x.kind != y.kind) = false ∧ (x.n != y.n) = false ∧ (x.name.toList == y.name.toList) = true ∧ ((x.kids.length : Int) != (y.kids.length : Int)) = true) := by
              by_cases g1 : x.kind = y.kind
              · by_cases g2 : x.n = y.n
                · by_cases g3 : x.name = y.name
                  · refine .inr (.inr (.inr ⟨by simp [g1], by simp [g2], by simp [g3], ?_⟩))
                    have : ¬ x.kids.length = y.kids.length := fun h => h3 ⟨g1, g2, g3, h⟩
                    simp [bne]
                    omega
                  · exact .inr (.inr (.inl ⟨by simp [g1], by simp [g2], beq_false_of_ne (fun h => g3 (bl_ext h))⟩))
                · exact .inr (.inl ⟨by simp [g1], by simpa [bne] using g2⟩)
              · exact .inl (by simpa [bne] using g1)
            clear h1 h2 h3
            rcases hpre with q3 | ⟨q3, q4⟩ | ⟨q3, q4, q5⟩ | ⟨q3, q4, q5, q6⟩
            all_goals
              go_wp2_with fail
              go_ret
              have hh := HR1.out
              simp only [Option.some.injEq, Prod.mk.injEq] at hh
              exact NONE.out _ (Ext.refl _) hh.1.symm hh.2.symm
end Go.Proofs.YtognkaebiafgbaaGreat
