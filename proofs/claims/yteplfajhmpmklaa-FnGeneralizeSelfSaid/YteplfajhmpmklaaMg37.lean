/-
  Generalization: the program's generalize.
-/
import Derived.Test.YteplfajhmpmklaaMg35
import Derived.Test.YteplfajhmpmklaaMg36
namespace Go.Proofs.Yteplfajhmpmklaa
open Go.RowKit
set_option linter.unusedVariables false

theorem info_pair : (Try.prog.info? 105).map (fun i => (i.zero, i.size, i.bytes)) = some (some (.agg #[.int .i64 0, .int .i64 0, .string ⟨#[]⟩, .slice none 0 0, .int .i64 0, .int .i64 0, .string ⟨#[]⟩, .slice none 0 0]), 8, 112) := by kernel_rfl
set_option maxRecDepth 100000 in
theorem implnumber (n : Int) (w : World) : Calls Try.prog 89 #[.int .i64 n] w (TmO (.mk 2 n ⟨#[]⟩ []) w) := by
  go_enter Try.func89, Try.ntmps89
  go_wp2_with fail
  refine ret4 (p := 2) (T := 29) (b := w.heap.size) (v0 := .int .i64 2) (v1 := .int .i64 n) (v2 := .string ⟨#[]⟩) (v3 := .slice none 0 0) (by kernel_rfl) (fun _ => by kernel_rfl) (fun _ => by kernel_rfl) rfl rfl (by go_simp) (by go_simp) (by go_simp) (by go_simp) ?_
  exact ⟨none, 0, rfl, own_nil _ _ _ _ _ (by decide), Ext.alloc _ _⟩

theorem two_parts {o : Option TypeInfo} {z : Value} (h : o.map (fun i => (i.zero, i.size, i.bytes)) = some (some z, 8, 112)) : ∃ i, o = some i ∧ i.zero = some z ∧ i.size = 8 ∧ i.bytes = 112 := by
  cases o with
  | none => simp at h
  | some i => simp at h; exact ⟨i, rfl, h⟩
/-- a pair of terms whose heads differ -/
theorem gen_other {t u : Tm} {ps : List (Tm × Tm)} (h : ¬ headF t u) : genF t u ps = (varT (pidx ps t u : Nat), addP ps t u) := by
  obtain ⟨k, n, s, ks⟩ := t
  simp only [genF, if_neg h]

/-- while the pair is appended: what holds of the world .. -/
def GenG (S : Nat → Prop) (pp : Nat) (ps : List (Tm × Tm)) (pv : Value) (xs : List Value) (w4 : World) (no8 no10 : Prop) (w : World) : Prop :=
  Fr (fun k => k = pp ∨ pv.ownBlock = some k) w4 w ∧ w.frozen? ⟨pp, 0, none⟩ = false ∧ (no10 → w.cell? ⟨pp, 0, none⟩ = some pv) ∧ (no8 → w.ownsRow 0 105 8 pv ps.length xs)
def GenNew (S : Nat → Prop) (pp : Nat) (ps : List (Tm × Tm)) (pv : Value) (w4 : World) (t u : Tm) (v : Value) (w : World) : Prop :=
  ∃ av cv, v = .slice av (ps.length + 1) cv ∧ (∀ g, v.ownBlock = some g → pv.ownBlock = some g ∨ w4.heap.size ≤ g) ∧ PrI S (ps ++ [(t, u)]) v w
def val4 (t : Tm) (a : Option Addr) (c : Nat) : Value := .agg #[.int .i64 t.kind, .int .i64 t.n, .string t.name, .slice a t.kids.length c]
/-- .. and what each operation leaves -/
def GenΦ (S : Nat → Prop) (pp : Nat) (ps : List (Tm × Tm)) (pv : Value) (w4 : World) (t u : Tm) (a b : Option Addr) (c d : Nat) (i : Nat) (v : Value) (w : World) : Prop :=
  match i with
  | 3 => v = pv
  | 4 => v = val4 t a c
  | 5 => v = val4 u b d
  | 6 => v = .agg #[.int .i64 t.kind, .int .i64 t.n, .string t.name, .slice a t.kids.length c, .int .i64 u.kind, .int .i64 u.n, .string u.name, .slice b u.kids.length d]
  | 7 => ∃ nb, v = .slice (some ⟨nb, 0, none⟩) 1 1 ∧ w4.heap.size ≤ nb ∧ ∀ j x, (tcells t a c ++ tcells u b d)[j]? = some x → w.cell? ⟨nb, j, none⟩ = some x
  | 8 => GenNew S pp ps pv w4 t u v w
  | 10 => ∃ nv, w.cell? ⟨pp, 0, none⟩ = some nv ∧ GenNew S pp ps pv w4 t u nv w
  | _ => v = .pointer (some ⟨pp, 0, none⟩)

theorem GenG.to {S : Nat → Prop} {pp : Nat} {ps : List (Tm × Tm)} {pv : Value} {xs : List Value} {w4 w : World} {n8 n10 m8 m10 : Prop} (h : GenG S pp ps pv xs w4 n8 n10 w) (h8 : m8 → n8) (h10 : m10 → n10) : GenG S pp ps pv xs w4 m8 m10 w := ⟨h.1, h.2.1, fun h' => h.2.2.1 (h10 h'), fun h' => h.2.2.2 (h8 h')⟩
theorem GenG.ext {S : Nat → Prop} {pp : Nat} {ps : List (Tm × Tm)} {pv : Value} {xs : List Value} {w4 w w' : World} {n8 n10 : Prop} (h : GenG S pp ps pv xs w4 n8 n10 w) (e : Ext w w') (hp : pp < w4.heap.size) : GenG S pp ps pv xs w4 n8 n10 w' :=
  ⟨h.1.trans (Fr.of_ext e), e.frozen (Nat.lt_of_lt_of_le hp h.1.size) h.2.1, fun h' => e.cell (h.2.2.1 h'), fun h' => own_ext (h.2.2.2 h') e⟩
theorem GenNew.own {S : Nat → Prop} {pp : Nat} {ps : List (Tm × Tm)} {pv v : Value} {w4 w : World} {t u : Tm} (h : GenNew S pp ps pv w4 t u v w) : ∀ g, v.ownBlock = some g → pv.ownBlock = some g ∨ w4.heap.size ≤ g := by
  obtain ⟨av, cv, rfl, h1, h2⟩ := h
  exact h1
theorem GenNew.fr {S M : Nat → Prop} {pp : Nat} {ps : List (Tm × Tm)} {pv v : Value} {w4 w w' : World} {t u : Tm} (h : GenNew S pp ps pv w4 t u v w) (f : Fr M w w') (hM : ∀ g, v.ownBlock = some g → ¬ M g) (hS : ∀ k, S k → ¬ M k) : GenNew S pp ps pv w4 t u v w' := by
  obtain ⟨av, cv, rfl, h1, h2⟩ := h
  exact ⟨av, cv, rfl, h1, h2.fr f hM hS⟩
theorem GenΦ.fr8 {S M : Nat → Prop} {pp : Nat} {ps : List (Tm × Tm)} {pv : Value} {w4 : World} {t u : Tm} {a b : Option Addr} {c d i : Nat} {v : Value} {w w' : World} (h : GenΦ S pp ps pv w4 t u a b c d i v w) (h8 : i ≠ 8) (h10 : i ≠ 10) (f : Fr M w w') (hM : ∀ k, w4.heap.size ≤ k → ¬ M k) : GenΦ S pp ps pv w4 t u a b c d i v w' := by
  unfold GenΦ at h ⊢
  split
  · exact h
  · exact h
  · exact h
  · exact h
  · obtain ⟨nb, h1, h2, h3⟩ := h
    exact ⟨nb, h1, h2, fun j x hx => f.cell (hM nb h2) (h3 j x hx)⟩
  · exact absurd rfl h8
  · exact absurd rfl h10
  · rename_i n3 n4 n5 n6 n7 n8 n10
    split at h
    · exact absurd rfl n3
    · exact absurd rfl n4
    · exact absurd rfl n5
    · exact absurd rfl n6
    · exact absurd rfl n7
    · exact absurd rfl n8
    · exact absurd rfl n10
    · exact h
theorem GenΦ.ext {S : Nat → Prop} {pp : Nat} {ps : List (Tm × Tm)} {pv : Value} {w4 : World} {t u : Tm} {a b : Option Addr} {c d i : Nat} {v : Value} {w w' : World} (h : GenΦ S pp ps pv w4 t u a b c d i v w) (e : Ext w w') : GenΦ S pp ps pv w4 t u a b c d i v w' := by
  by_cases h8 : i = 8
  · subst h8; exact GenNew.fr (M := fun _ => False) (show GenNew S pp ps pv w4 t u v w from h) (Fr.of_ext e) (fun _ _ h => h) (fun _ _ h => h)
  by_cases h10 : i = 10
  · subst h10
    obtain ⟨nv, h1, h2⟩ := h
    exact ⟨nv, e.cell h1, h2.fr (M := fun _ => False) (Fr.of_ext e) (fun _ _ h => h) (fun _ _ h => h)⟩
  exact h.fr8 (M := fun _ => False) h8 h10 (Fr.of_ext e) (fun _ _ h => h)

set_option maxRecDepth 100000 in
set_option maxHeartbeats 8000000 in
theorem implgen_other (t u : Tm) (hno : ¬ headF t u)
    (hpre : ((t.kind == 3) = false ∧ (t.kind == 2) = false) ∨ ((t.kind == 3) = false ∧ (t.kind == 2) = true ∧ (u.kind == 2) = false) ∨ ((t.kind == 3) = false ∧ (t.kind == 2) = true ∧ (u.kind == 2) = true ∧ (t.n == u.n) = false) ∨
      ((t.kind == 3) = true ∧ (u.kind == 3) = false ∧ (t.kind == 2) = false) ∨ ((t.kind == 3) = true ∧ (u.kind == 3) = true ∧ (t.name.toList == u.name.toList) = false ∧ (t.kind == 2) = false) ∨ ((t.kind == 3) = true ∧ (u.kind == 3) = true ∧ (t.name.toList == u.name.toList) = true ∧ ((t.kids.length : Int) == (u.kids.length : Int)) = false ∧ (t.kind == 2) = false)) : GenC t u := by
  intro v v' pv ps S w pp d d' hsh hsu ht hu hB hSp hSg hps hP
  have HF := Lib.hid (gen_other (ps := ps) hno)
  obtain ⟨i1, hi, hz0, hz1, hz2⟩ := two_parts info_pair
  have HI := Lib.hid hi
  have HZ := Lib.hid hz0
  have HZ1 := Lib.hid hz1
  have HZ2 := Lib.hid hz2
  clear hi hz0 hz1 hz2
  have HT := Lib.hid ht
  have HU := Lib.hid hu
  have HP := Lib.hid hP
  have HB := Lib.hid hB
  have HSG := Lib.hid hSg
  have HSP := Lib.hid hSp
  have HPS : Hid (ps.length + 1 ≤ 1048576) := Lib.hid (by have := Tm.sz_pos t; omega)
  have hpp := hP.lt
  have hpp1 : pp < w.heap.size + 1 := by omega
  have hpp2 : pp < w.heap.size + 1 + 1 := by omega
  have HPV : Hid (∀ g, pv.ownBlock = some g → g < w.heap.size) := Lib.hid (fun g hg => hP.2.2.1.lt hg)
  obtain ⟨pa, pc, rfl⟩ := hP.2.2.1.form
  have p0 := hP.1
  have f0 := hP.2.1
  obtain ⟨a, c, rfl⟩ := at_form ht
  obtain ⟨a', c', rfl⟩ := at_form hu
  clear ht hu hB hSg hSp hps hP hsh hsu hno
  obtain ⟨tk, tn, ts, tks⟩ := t
  obtain ⟨uk, un, us, uks⟩ := u
  simp only [Tm.kind, Tm.n, Tm.name, Tm.kids] at hpre HT HU ⊢
  rcases hpre with ⟨q1, q2⟩ | ⟨q1, q2, q3⟩ | ⟨q1, q2, q3, q4⟩ | ⟨q1, q2, q3⟩ | ⟨q1, q2, q3, q4⟩ | ⟨q1, q2, q3, q4, q5⟩
  all_goals
    go_enter Try.func57, Try.ntmps57
    go_wp2_with fail
    have E3 := Lib.hid (((Ext.alloc w (.cells #[.int .i64 tk, .int .i64 tn, .string ts, .slice a tks.length c] 29)).trans (Ext.alloc _ (.cells #[.int .i64 uk, .int .i64 un, .string us, .slice a' uks.length c'] 29))).trans (Ext.alloc _ (.cells #[.int .i64 0, .int .i64 0, .string ⟨#[]⟩, .slice none 0 0] 29)))
    have BX : Hid (BoxT (((w.alloc (.cells #[.int .i64 tk, .int .i64 tn, .string ts, .slice a tks.length c] 29)).alloc (.cells #[.int .i64 uk, .int .i64 un, .string us, .slice a' uks.length c'] 29)).alloc (.cells #[.int .i64 0, .int .i64 0, .string ⟨#[]⟩, .slice none 0 0] 29)) w.heap.size (.int .i64 tk) (.int .i64 tn) (.string ts) (.slice a tks.length c) ∧
        BoxT (((w.alloc (.cells #[.int .i64 tk, .int .i64 tn, .string ts, .slice a tks.length c] 29)).alloc (.cells #[.int .i64 uk, .int .i64 un, .string us, .slice a' uks.length c'] 29)).alloc (.cells #[.int .i64 0, .int .i64 0, .string ⟨#[]⟩, .slice none 0 0] 29)) (w.heap.size + 1) (.int .i64 uk) (.int .i64 un) (.string us) (.slice a' uks.length c') ∧
        BoxT (((w.alloc (.cells #[.int .i64 tk, .int .i64 tn, .string ts, .slice a tks.length c] 29)).alloc (.cells #[.int .i64 uk, .int .i64 un, .string us, .slice a' uks.length c'] 29)).alloc (.cells #[.int .i64 0, .int .i64 0, .string ⟨#[]⟩, .slice none 0 0] 29)) (w.heap.size + 1 + 1) (.int .i64 0) (.int .i64 0) (.string ⟨#[]⟩) (.slice none 0 0)) :=
      Lib.hid (by refine ⟨⟨?_, ?_, ?_, ?_, ?_, ?_, ?_, ?_⟩, ⟨?_, ?_, ?_, ?_, ?_, ?_, ?_, ?_⟩, ⟨?_, ?_, ?_, ?_, ?_, ?_, ?_, ?_⟩⟩ <;> go_simp)
    refine (implindexP _ _ ps _ S _ _ _ _ _ _ _ (HP.out.2.2.1.ext E3.out) (Tm.at_ext E3.out HT.out) (Tm.at_ext E3.out HU.out) BX.out.1 BX.out.2.1).mono ?_
    rintro e w4 ⟨e4, hres⟩
    have E4 := Lib.hid (E3.out.trans e4)
    have B4 := Lib.hid (And.intro (BX.out.1.ext e4) (And.intro (BX.out.2.1.ext e4) (BX.out.2.2.ext e4)))
    have p4 := E4.out.cell p0
    have f4 := E4.out.frozen hpp f0
    have P4 := Lib.hid (HP.out.2.2.1.ext E4.out)
    have hz4 : w.heap.size + 3 ≤ w4.heap.size := by have := B4.out.2.2.lt; omega
    clear e4 BX E3
    rcases hres with ⟨hlt, rfl⟩ | ⟨heq, rfl⟩
    · have HLT := Lib.hid hlt
      have hidx : ((pidx ps (.mk tk tn ts tks) (.mk uk un us uks) : Nat) : Int) ≥ 0 := by omega
      obtain ⟨x, hx⟩ : ∃ x, pidx ps (.mk tk tn ts tks) (.mk uk un us uks) = x := ⟨_, rfl⟩
      rw [hx] at hidx hlt HLT
      rw [hx]
      have HX := Lib.hid hx
      clear hx hlt
      go_wp2_with fail
      refine (implvariable _ _).mono ?_
      rintro e w5 ⟨a5, c5, rfl, ho, e5⟩
      have E5 := Lib.hid (E4.out.trans e5)
      have HO := Lib.hid ho
      have P5 := Lib.hid ((HP.out).ext E5.out)
      have s5 := Below.size e5
      obtain ⟨r0, r1, r2, r3, z0, z1, z2, z3⟩ := B4.out.2.2.ext e5
      clear ho e5
      go_wp2_with fail
      refine ret4_set (p := 6) (T := 29) (b := w.heap.size + 1 + 1) (by kernel_rfl) (fun _ => by kernel_rfl) (fun _ => by kernel_rfl) rfl rfl r0 r1 r2 r3 ?_
      intro X hX
      have f : Fr (fun b => b = w.heap.size + 1 + 1) w5 X := Fr.of_grown hX (fun k e => by cases e; rfl)
      have hadd : addP ps (.mk tk tn ts tks) (.mk uk un us uks) = ps := by unfold addP; rw [HX.out, if_pos HLT.out]
      rw [HF.out]
      simp only [hadd, HX.out]
      refine ⟨a5, c5, _, rfl, own_mono (fun b hb => ⟨by omega, fun h => by have := HPV.out b h; omega⟩) f (fun b hb h => by omega) _ _ HO.out, P5.out.fr f (by omega) (fun g hg h => by have := HPV.out g hg; omega) (fun k hk h => by have := HB.out k hk; omega), fun g hg => .inl hg, (((Fr.of_ext E5.out).trans f).toExt (fun k hk h => by omega)) |> Fr.of_ext⟩
    · have HX := Lib.hid heq
      obtain ⟨xs, how, hfl, hle⟩ := P4.out
      have HOW := Lib.hid how
      have HFL := Lib.hid hfl
      obtain ⟨⟨x0, x1, x2, x3, _, _, _, _⟩, ⟨y0, y1, y2, y3, _, _, _, _⟩, _⟩ := B4.out
      have T4 := Lib.hid (Tm.at_ext E4.out HT.out)
      have U4 := Lib.hid (Tm.at_ext E4.out HU.out)
      have hl1 : ps.length + 1 ≤ 1048576 := HPS.out
      have hp4 : pp < w4.heap.size := by omega
      have HSF : Hid (∀ k, S k → ¬ (k = pp ∨ (Value.slice pa ps.length pc).ownBlock = some k)) := Lib.hid (fun k hk h => h.elim (fun h => HSP.out (h ▸ hk)) (fun h => HSG.out k h hk))
      clear heq how hfl
      go_wp2_with fail
      refine wp_region_relies (by kernel_rfl) (by kernel_rfl) (by kernel_rfl) (fun D _ w' => GenG S pp ps (.slice pa ps.length pc) xs w4 (¬ D 8) (¬ D 10) w') (GenΦ S pp ps (.slice pa ps.length pc) w4 (.mk tk tn ts tks) (.mk uk un us uks) a a' c c') ?hg ?hstep ?hend
      case hg => exact ⟨Fr.of_ext (Ext.drew _), (Ext.drew w4).frozen hp4 f4, fun _ => (Ext.drew w4).cell p4, fun _ => own_ext HOW.out (Ext.drew _)⟩
      case hstep =>
        refine .cons ?h0 (.cons ?h1 (.cons ?h2 (.cons ?h3 (.cons ?h4 (.cons ?h5 (.cons ?h6 (.cons ?h7 (.cons ?h8 (.cons ?h9 (.cons ?h10 .nil))))))))))
        case h0 =>
          intro A D vs w5 old dep hnd hcl hlt hG K hK
          have s2 := old 2 (by kernel_rfl)
          simp only [List.getElem?_toArray, List.getElem?_cons_succ, List.getElem?_cons_zero] at s2
          go_simp
          exact hK _ _ (hG.to (fun h hd => h (.inr hd)) (fun h hd => h (.inr hd))) (fun _ _ _ h => h) rfl
        case h1 =>
          intro A D vs w5 old dep hnd hcl hlt hG K hK
          have s2 := old 2 (by kernel_rfl)
          simp only [List.getElem?_toArray, List.getElem?_cons_succ, List.getElem?_cons_zero] at s2
          go_simp
          exact hK _ _ (hG.to (fun h hd => h (.inr hd)) (fun h hd => h (.inr hd))) (fun _ _ _ h => h) rfl
        case h2 =>
          intro A D vs w5 old dep hnd hcl hlt hG K hK
          obtain ⟨_, e1, t1⟩ := dep 1 (by kernel_rfl)
          replace t1 := t1 94 (by kernel_rfl) (by simp)
          replace e1 : vs 1 = (.pointer (some ⟨pp, 0, none⟩)) := e1
          rw [e1] at t1
          go_simp
          exact hK _ _ (hG.to (fun h hd => h (.inr hd)) (fun h hd => h (.inr hd))) (fun _ _ _ h => h) rfl
        case h3 =>
          intro A D vs w5 old dep hnd hcl hlt hG K hK
          obtain ⟨_, e2, t2⟩ := dep 2 (by kernel_rfl)
          replace t2 := t2 95 (by kernel_rfl) (by simp)
          replace e2 : vs 2 = (.pointer (some ⟨pp, 0, none⟩)) := e2
          rw [e2] at t2
          have pc := hG.2.2.1 (fun h10 => hnd (hcl 8 3 (hcl 10 8 h10 (by kernel_rfl)) (by kernel_rfl)))
          go_simp
          exact hK _ _ (hG.to (fun h hd => h (.inr hd)) (fun h hd => h (.inr hd))) (fun _ _ _ h => h) rfl
        case h4 =>
          intro A D vs w5 old dep hnd hcl hlt hG K hK
          have s3 := old 3 (by kernel_rfl)
          simp only [List.getElem?_toArray, List.getElem?_cons_succ, List.getElem?_cons_zero] at s3
          have x0 := hG.1.cell (fun h => h.elim (fun h => by omega) (fun h => by have := HPV.out _ h; omega)) x0
          have x1 := hG.1.cell (fun h => h.elim (fun h => by omega) (fun h => by have := HPV.out _ h; omega)) x1
          have x2 := hG.1.cell (fun h => h.elim (fun h => by omega) (fun h => by have := HPV.out _ h; omega)) x2
          have x3 := hG.1.cell (fun h => h.elim (fun h => by omega) (fun h => by have := HPV.out _ h; omega)) x3
          go_simp
          exact hK _ _ (hG.to (fun h hd => h (.inr hd)) (fun h hd => h (.inr hd))) (fun _ _ _ h => h) rfl
        case h5 =>
          intro A D vs w5 old dep hnd hcl hlt hG K hK
          have s4 := old 4 (by kernel_rfl)
          simp only [List.getElem?_toArray, List.getElem?_cons_succ, List.getElem?_cons_zero] at s4
          have y0 := hG.1.cell (fun h => h.elim (fun h => by omega) (fun h => by have := HPV.out _ h; omega)) y0
          have y1 := hG.1.cell (fun h => h.elim (fun h => by omega) (fun h => by have := HPV.out _ h; omega)) y1
          have y2 := hG.1.cell (fun h => h.elim (fun h => by omega) (fun h => by have := HPV.out _ h; omega)) y2
          have y3 := hG.1.cell (fun h => h.elim (fun h => by omega) (fun h => by have := HPV.out _ h; omega)) y3
          go_simp
          exact hK _ _ (hG.to (fun h hd => h (.inr hd)) (fun h hd => h (.inr hd))) (fun _ _ _ h => h) rfl
        case h6 =>
          intro A D vs w5 old dep hnd hcl hlt hG K hK
          obtain ⟨_, e4, t4⟩ := dep 4 (by kernel_rfl)
          replace t4 := t4 97 (by kernel_rfl) (by simp)
          replace e4 : vs 4 = (.agg #[.int .i64 tk, .int .i64 tn, .string ts, .slice a tks.length c]) := e4
          rw [e4] at t4
          obtain ⟨_, e5, t5⟩ := dep 5 (by kernel_rfl)
          replace t5 := t5 98 (by kernel_rfl) (by simp)
          replace e5 : vs 5 = (.agg #[.int .i64 uk, .int .i64 un, .string us, .slice a' uks.length c']) := e5
          rw [e5] at t5
          go_simp
          exact hK _ _ (hG.to (fun h hd => h (.inr hd)) (fun h hd => h (.inr hd))) (fun _ _ _ h => h) rfl
        case h7 =>
          intro A D vs w5 old dep hnd hcl hlt hG K hK
          obtain ⟨_, e6, t6⟩ := dep 6 (by kernel_rfl)
          replace t6 := t6 99 (by kernel_rfl) (by simp)
          replace e6 : vs 6 = (.agg #[.int .i64 tk, .int .i64 tn, .string ts, .slice a tks.length c, .int .i64 uk, .int .i64 un, .string us, .slice a' uks.length c']) := e6
          rw [e6] at t6
          go_simp
          exact hK _ _ ((hG.ext (Ext.alloc _ _) hp4).to (fun h hd => h (.inr hd)) (fun h hd => h (.inr hd))) (fun j u _ h => h.ext (Ext.alloc _ _)) ⟨_, rfl, hG.1.size, fun j x h => by have hq := cell_new w5 #[.int .i64 tk, .int .i64 tn, .string ts, .slice a tks.length c, .int .i64 uk, .int .i64 un, .string us, .slice a' uks.length c'] 105 j x (by simpa [tcells, Tm.kind, Tm.n, Tm.name, Tm.kids] using h); rw [Nat.zero_add] at hq; exact hq⟩
        case h8 =>
          intro A D vs w5 old dep hnd hcl hlt hG K hK
          obtain ⟨_, e3, t3⟩ := dep 3 (by kernel_rfl)
          replace t3 := t3 96 (by kernel_rfl) (by simp)
          replace e3 : vs 3 = (.slice pa ps.length pc) := e3
          rw [e3] at t3
          obtain ⟨_, e7, t7⟩ := dep 7 (by kernel_rfl)
          replace t7 := t7 100 (by kernel_rfl) (by simp)
          obtain ⟨nb, e7, hnb, hcells⟩ := e7
          rw [e7] at t7
          have how := hG.2.2.2 hnd
          refine step_append_fresh rfl (.tmp 96) (.tmp 100) 74 rfl 0 105 i1 _ 8 112 Try.underlying74 HI.out HZ.out HZ1.out HZ2.out rfl (by decide) (.slice pa ps.length pc) ps.length xs (by simp [Act.eval, t3]) how ⟨nb, 0, none⟩ 1 1 (tcells (.mk tk tn ts tks) a c ++ tcells (.mk uk un us uks) a' c') (by simp [Act.eval, t7]) rfl (fun j u h => by have := hcells j u h; rw [show (⟨nb, 0, none⟩ : Addr).add j = ⟨nb, j, none⟩ by unfold Addr.add; split <;> simp_all]; exact this) (by simp [tcells, Value.oneCell']) (by unfold maxLen; omega) (by omega) (by omega) ?_
          intro v2 w6 ho6 hg6 hfr6
          obtain ⟨av, cv, rfl⟩ := own_form ho6
          have f6 : Fr (fun k => (Value.slice pa ps.length pc).ownBlock = some k) w5 w6 := Fr.of_grown hg6 (fun k hk => hk)
          refine hK _ _ ⟨hG.1.trans (f6.mono (fun k _ h => .inr h)), f6.frozen (Nat.lt_of_lt_of_le hp4 hG.1.size) HP.out.2.2.2 hG.2.1, fun h => f6.cell HP.out.2.2.2 (hG.2.2.1 (fun hd => h (.inr hd))), fun h => absurd (.inl rfl) h⟩ (fun j u hd h => ?_) ⟨av, cv, rfl, fun g hg => (hfr6 g hg).imp id (fun h => Nat.le_trans hG.1.size h), pr_next (flat_mono (fun _ h => h) (hG.1.agree HSF.out) HFL.out) (by omega) (hG.1.at T4.out HSF.out) (hG.1.at U4.out HSF.out) ho6 (f6.agree (fun k hk h => HSG.out k h hk))⟩
          by_cases hj8 : j = 8
          · subst hj8; exact absurd hd hnd
          by_cases hj10 : j = 10
          · subst hj10; exact absurd (hcl 10 8 hd (by kernel_rfl)) hnd
          exact h.fr8 hj8 hj10 f6 (fun k hk h => by have := HPV.out k h; omega)
        case h9 =>
          intro A D vs w5 old dep hnd hcl hlt hG K hK
          obtain ⟨_, e0, t0⟩ := dep 0 (by kernel_rfl)
          replace t0 := t0 93 (by kernel_rfl) (by simp)
          replace e0 : vs 0 = (.pointer (some ⟨pp, 0, none⟩)) := e0
          rw [e0] at t0
          go_simp
          exact hK _ _ (hG.to (fun h hd => h (.inr hd)) (fun h hd => h (.inr hd))) (fun _ _ _ h => h) rfl
        case h10 =>
          intro A D vs w5 old dep hnd hcl hlt hG K hK
          obtain ⟨_, e9, t9⟩ := dep 9 (by kernel_rfl)
          replace t9 := t9 102 (by kernel_rfl) (by simp)
          replace e9 : vs 9 = (.pointer (some ⟨pp, 0, none⟩)) := e9
          rw [e9] at t9
          obtain ⟨_, e8, t8⟩ := dep 8 (by kernel_rfl)
          replace t8 := t8 101 (by kernel_rfl) (by simp)
          obtain ⟨av, cv, e8, hown, hpr⟩ := e8
          have lp := Nat.lt_of_lt_of_le hp4 hG.1.size
          have pcell := hG.2.2.1 hnd
          have pfro := hG.2.1
          rw [e8] at t8 hown hpr
          go_simp
          have f6 : Fr (fun k => k = pp) w5 (w5.setCell ⟨pp, 0, none⟩ (.slice av (ps.length + 1) cv)) := Fr.setCell _ rfl
          have hn : GenNew S pp ps (.slice pa ps.length pc) w4 (.mk tk tn ts tks) (.mk uk un us uks) (.slice av (ps.length + 1) cv) w5 := ⟨av, cv, rfl, hown, hpr⟩
          have hst : ∀ v, GenNew S pp ps (.slice pa ps.length pc) w4 (.mk tk tn ts tks) (.mk uk un us uks) v w5 → GenNew S pp ps (.slice pa ps.length pc) w4 (.mk tk tn ts tks) (.mk uk un us uks) v (w5.setCell ⟨pp, 0, none⟩ (.slice av (ps.length + 1) cv)) := fun v h => h.fr f6 (fun g hg e => by
            rcases h.own g hg with h1 | h1
            · exact HP.out.2.2.2 (e ▸ h1)
            · omega) (fun k hk e => HSP.out (e ▸ hk))
          refine hK undef _ ⟨hG.1.trans (f6.mono (fun k _ h => .inl h)), by rw [World.frozen?_setCell]; exact pfro, fun h => absurd (.inl rfl) h, fun h => own_fr (hG.2.2.2 (fun hd => h (.inr hd))) f6 (fun g hg e => HP.out.2.2.2 (e ▸ hg))⟩ (fun j u hd h => ?_) ⟨_, cell_same pcell, hst _ hn⟩
          by_cases hj8 : j = 8
          · subst hj8; exact hst u h
          by_cases hj10 : j = 10
          · subst hj10; exact absurd hd hnd
          exact h.fr8 hj8 hj10 f6 (fun k hk h => by omega)

      case hend =>
        intro D vs w9 hD hG hφ
        have h10 : GenΦ S pp ps (.slice pa ps.length pc) w4 (.mk tk tn ts tks) (.mk uk un us uks) a a' c c' 10 (vs 10) w9 := hφ 10 (by simp)
        obtain ⟨nv, p9, av, cv, rfl, N9, P9⟩ := h10
        have F9 := Lib.hid hG.1
        have f9 := hG.2.1
        have N9 := Lib.hid N9
        have P9 := Lib.hid P9
        have hne : ¬ (Value.slice av (ps.length + 1) cv).ownBlock = some pp := fun h => by
          rcases N9.out pp h with h1 | h1
          · exact HP.out.2.2.2 h1
          · omega
        have HNE := Lib.hid hne
        have B9 := Lib.hid (show BoxT w9 (w.heap.size + 1 + 1) (.int .i64 0) (.int .i64 0) (.string ⟨#[]⟩) (.slice none 0 0) from B4.out.2.2.fr F9.out (fun h => h.elim (fun h => by omega) (fun h => by have := HPV.out _ h; omega)))
        have s9 := F9.out.size
        clear hD hG hφ hne x0 x1 x2 x3 y0 y1 y2 y3 p4 f4
        simp only [putO, Act.put, List.setIfInBounds_toArray, List.set_cons_zero, List.set_cons_succ]
        go_wp2_with fail
        refine (implvariable _ _).mono ?_
        rintro e w7 ⟨a5, c5, rfl, ho, e5⟩
        have HO := Lib.hid ho
        have E7 := Lib.hid e5
        have s5 := Below.size e5
        obtain ⟨r0, r1, r2, r3, z0, z1, z2, z3⟩ := B9.out.ext e5
        clear ho e5
        go_wp2_with fail
        refine ret4_set (p := 6) (T := 29) (b := w.heap.size + 1 + 1) (by kernel_rfl) (fun _ => by kernel_rfl) (fun _ => by kernel_rfl) rfl rfl r0 r1 r2 r3 ?_
        intro X hX
        have f : Fr (fun b => b = w.heap.size + 1 + 1) w7 X := Fr.of_grown hX (fun k e => by cases e; rfl)
        have hadd : addP ps (.mk tk tn ts tks) (.mk uk un us uks) = ps ++ [(.mk tk tn ts tks, .mk uk un us uks)] := by unfold addP; rw [HX.out, if_neg (Nat.lt_irrefl _)]
        have P7 : PrC S pp (ps ++ [(Tm.mk tk tn ts tks, Tm.mk uk un us uks)]) (.slice av (ps.length + 1) cv) w7 := PrC.ext ⟨p9, f9, P9.out, HNE.out⟩ E7.out
        have own7 : ∀ g, (Value.slice av (ps.length + 1) cv).ownBlock = some g → g < w.heap.size ∨ w.heap.size + 3 ≤ g := fun g hg => by
          rcases N9.out g hg with h1 | h1
          · exact .inl (HPV.out g h1)
          · exact .inr (by omega)
        rw [HF.out]
        simp only [hadd, HX.out]
        refine ⟨a5, c5, _, rfl, own_mono (fun b hb => ⟨by omega, fun h => by have := PrI.lt P9.out h; omega⟩) f (fun b hb h => by omega) _ _ HO.out, P7.fr f (by omega) (fun g hg h => by have := own7 g hg; omega) (fun k hk h => by have := HB.out k hk; omega), fun g hg => (N9.out g hg).imp id (fun h => by omega), ?_⟩
        have g1 : Fr (fun k => k = pp ∨ (Value.slice pa ps.length pc).ownBlock = some k ∨ w.heap.size ≤ k) w X := (((Fr.of_ext E4.out).trans (F9.out.mono (fun k _ h => h.imp id .inl))).trans (Fr.of_ext E7.out)).trans (f.mono (fun k _ h => .inr (.inr (by omega))))
        exact g1.mono (fun k hk h => by
          rcases h with h | h | h
          · exact .inl h
          · exact .inr h
          · omega)
end Go.Proofs.Yteplfajhmpmklaa
