/-
  A law's equality of bindings, at the same bindings in two places.
-/
import Derived.Deep.CutBlock
import Derived.Test.YtdelhgodhkbjdaaMu44
import Derived.Test.YtdelhgodhkbjdaaMu1
import Derived.Test.YtdelhgodhkbjdaaMu39
import Derived.Test.YtdelhgodhkbjdaaMu24
import Derived.Test.YtdelhgodhkbjdaaMu23
import Derived.Test.YtdelhgodhkbjdaaMu29
namespace Go.Proofs.Ytdelhgodhkbjdaa
open Go.RowKit
set_option linter.unusedVariables false

set_option maxRecDepth 100000 in
set_option maxHeartbeats 1000000 in
theorem lawseqBind (x : Bd) (a1 a2 : Option Addr) (c1 c2 : Nat) (S S' : Nat → Prop) (w : World) (h1 : Tm.at S w x.t (.agg #[.int .i64 x.t.kind, .int .i64 x.t.n, .string x.t.name, .slice a1 x.t.kids.length c1])) (h2 : Tm.at S' w x.t (.agg #[.int .i64 x.t.kind, .int .i64 x.t.n, .string x.t.name, .slice a2 x.t.kids.length c2])) :
    Calls Try.prog 63 #[.agg #[.int .i64 x.n, .int .i64 x.t.kind, .int .i64 x.t.n, .string x.t.name, .slice a1 x.t.kids.length c1], .agg #[.int .i64 x.n, .int .i64 x.t.kind, .int .i64 x.t.n, .string x.t.name, .slice a2 x.t.kids.length c2]] w fun e w' => e = .returned (.bool true) ∧ Ext w w' := by
  have HC := Lib.hid (fun w' (e' : Ext w w') => lawseqTerm_any x.t x.t _ _ S S' w' (Tm.at_ext e' h1) (Tm.at_ext e' h2))
  rw [same_refl] at HC
  clear h1 h2
  go_enter Try.func63, Try.ntmps63
  go_wp2_with fail
  refine (HC.out _ ((Ext.alloc _ _).trans (Ext.alloc _ _))).mono ?_
  rintro e w1 ⟨rfl, e1⟩
  have E1 := Lib.hid (((Ext.alloc _ _).trans (Ext.alloc _ _)).trans e1)
  clear e1
  go_wp2_with fail
  go_ret
  exact ⟨rfl, E1.out⟩
set_option maxRecDepth 100000 in
set_option maxHeartbeats 2000000 in
theorem lawseqBindS (ts : List Bd) (v v' : Value) (S S' : Nat → Prop) (w : World) (ht : Bd.sl S w ts v) (hu : Bd.sl S' w ts v') :
    Calls Try.prog 30 #[v, v'] w fun e w' => e = .returned (.bool true) ∧ Ext w w' := by
  obtain ⟨a, cap, rfl, h1, h2, h3, h4⟩ := ht
  obtain ⟨a', cap', rfl, h1', h2', h3', h4'⟩ := hu
  have H4 := Lib.hid h4
  have H4' := Lib.hid h4'
  clear h4 h4'
  have e4' : ((ts.length : Int) != (ts.length : Int)) = false := by simp
  go_enter Try.func30, Try.ntmps30
  go_wp2_with fail
  go_loopw [5] (fun i wr => ∃ k : Nat, k ≤ ts.length ∧ i = .int .i64 k ∧ Hid (Ext w wr)) (fun i _ => ts.length - (intOf i).toNat)
  case atStart => exact ⟨0, Nat.zero_le _, rfl, Lib.hid (Ext.refl _)⟩
  case round =>
    obtain ⟨k, hk, rfl, HE⟩ := hrel
    by_cases hlt : k < ts.length
    · obtain ⟨x, hx⟩ := bgetk hlt
      obtain ⟨b, off, ak, ck, rfl, p0, p1, p2, p3, p4, hat⟩ := Bd.get H4.out hx HE.out
      obtain ⟨b', off', ak', ck', rfl, q0, q1, q2, q3, q4, hat'⟩ := Bd.get H4'.out hx HE.out
      have cQ := quiet_call (w := wr) (fun w' e' => lawseqBind x ak ak' ck ck' S S' w' (Tm.at_ext (HE.out.trans e') hat) (Tm.at_ext (HE.out.trans e') hat'))
      have k0 := cell_regrown p0
      have k1 := cell_regrown p1
      have k2 := cell_regrown p2
      have k3 := cell_regrown p3
      have k4 := cell_regrown p4
      have l0 := cell_regrown q0
      have l1 := cell_regrown q1
      have l2 := cell_regrown q2
      have l3 := cell_regrown q3
      have l4 := cell_regrown q4
      clear p0 p1 p2 p3 p4 q0 q1 q2 q3 q4 hat hat' hx
      go_wp2_with fail
      refine region_ext (by kernel_rfl) (by kernel_rfl) ?_
      repeat (quiet_step (exact cQ _ _))
      refine wpQuiet_nil ?_
      intro wq eq
      go_wp2_with fail
      go_roundw
      case rel => exact ⟨k + 1, by omega, by go_num, Lib.hid (HE.out.trans eq)⟩
      case measure => simp [intOf]; omega
    · go_wp2_with fail
      go_ret
      exact ⟨rfl, HE.out⟩
end Go.Proofs.Ytdelhgodhkbjdaa

/-
  A region of an exact law of one or two terms: the arguments made anew, a call that returns bindings and something else.
-/
namespace Go.Proofs.Ytdelhgodhkbjdaa
open Go.RowKit
set_option linter.unusedVariables false

theorem wp_region_reliesQ {P : Program} {id : Nat} {L : List Oper} {Q : Exit → Act → World → Prop} {a0 : Act} {w : World} (hm : P.follows .mixedOrders = true) (ha : Apart L.toArray = true) (hb : Behind L.toArray = true) (G : (Nat → Prop) → (Nat → Value) → World → Prop) (φ : Nat → Value → World → Prop)
    (hg : G (fun _ => False) (fun _ => undef) w.drew) (hstep : ∀ Q' : Exit → Act → World → Prop, AllFrom (RelyAt P L.toArray Q' G φ a0) 0 L)
    (hend : ∀ D vs w, (∀ i, i < L.length → D i) → G D vs w → (∀ i, i < L.length → φ i (vs i) w) → Q .normal (putO vs L 0 a0) w) : (Code.region id L.toArray true).wp P Q a0 w :=
  wp_region_relies hm ha hb G φ hg (hstep Q) hend
def OwnW (t : Tm) (v : Value) (W w : World) : Prop := ∃ a c, v = val4 t a c ∧ Tm.own (fun b => W.heap.size ≤ b) w t (.slice a t.kids.length c)
def BdW (bs : List Bd) (v : Value) (W w : World) : Prop := ∃ a c, v = .slice a bs.length c ∧ OwnB (fun b => W.heap.size ≤ b) bs v w
def BtW (bs : List Bd) (y v : Value) (W w : World) : Prop := ∃ u, v = .tuple #[u, y] ∧ BdW bs u W w
theorem OwnW.ext {t : Tm} {v : Value} {W w w' : World} (h : OwnW t v W w) (e : Ext w w') : OwnW t v W w' := by
  obtain ⟨a, c, h1, h2⟩ := h
  exact ⟨a, c, h1, own_ext1 h2 e⟩
theorem BdW.ext {bs : List Bd} {v : Value} {W w w' : World} (h : BdW bs v W w) (e : Ext w w') : BdW bs v W w' := by
  obtain ⟨a, c, h1, h2⟩ := h
  exact ⟨a, c, h1, h2.ext e⟩
theorem BtW.ext {bs : List Bd} {y v : Value} {W w w' : World} (h : BtW bs y v W w) (e : Ext w w') : BtW bs y v W w' := by
  obtain ⟨u, h1, h2⟩ := h
  exact ⟨u, h1, h2.ext e⟩
def BX2 (t0 t1 : Tm) (x0 x1 : Option Addr) (y0 y1 : Nat) (bs : List Bd) (y : Value) (W : World) (i : Nat) (v : Value) (w : World) : Prop :=
  match i with
  | 0 => v = val4 t0 x0 y0
  | 1 => OwnW t0 v W w
  | 2 => v = val4 t1 x1 y1
  | 3 => OwnW t1 v W w
  | 4 => BtW bs y v W w
  | 5 => BtW bs y v W w
  | 6 => BdW bs v W w
  | 7 => v = y
  | 8 => BdW bs v W w
  | _ => v = y
theorem BX2.ext {t0 t1 : Tm} {x0 x1 : Option Addr} {y0 y1 : Nat} {bs : List Bd} {y : Value} {W : World} : ∀ {i : Nat} {v : Value} {w w' : World}, BX2 t0 t1 x0 x1 y0 y1 bs y W i v w → Ext w w' → BX2 t0 t1 x0 x1 y0 y1 bs y W i v w'
  | 0, _, _, _, h, _ => h
  | 1, _, _, _, h, e => OwnW.ext h e
  | 2, _, _, _, h, _ => h
  | 3, _, _, _, h, e => OwnW.ext h e
  | 4, _, _, _, h, e => BtW.ext h e
  | 5, _, _, _, h, e => BtW.ext h e
  | 6, _, _, _, h, e => BdW.ext h e
  | 7, _, _, _, h, _ => h
  | 8, _, _, _, h, e => BdW.ext h e
  | _ + 9, _, _, _, h, _ => h
theorem bdsU_sz (K : List Tm) : ∀ j, okU K j = true → szB (bdsU K j) ≤ 361 * j
  | 0, _ => by simp [bdsU, szB]
  | j + 1, h => by
    unfold okU at h
    simp only [Bool.and_eq_true, Bool.or_eq_true, decide_eq_true_eq] at h
    have := bdsU_sz K j h.1
    unfold bdsU
    split
    · omega
    · rename_i hk
      have h2 : fits (resT K j) 0 1 = true := h.2.resolve_left hk
      unfold fits at h2
      simp only [decide_eq_true_eq] at h2
      have h3 : ∀ (xs : List Bd) (x : Bd), szB (xs ++ [x]) = szB xs + (1 + 3 * Tm.sz x.t) := by
        intro xs x
        induction xs with
        | nil => simp [szB]
        | cons y xs ih => simp only [List.cons_append, szB, ih]; omega
      rw [h3]
      simp only
      omega
theorem ut_sz (t u : Tm) : szB (utR t u) ≤ 9386 ∧ (utR t u).length ≤ 26 := by
  cases h : utB t u
  · rw [utR_no h]; simp [szB]
  · have h0 : okU (uniR t u).2 26 = true := by
      unfold utB at h
      simp only [Bool.and_eq_true] at h
      exact h.2
    have h1 := bdsU_sz (uniR t u).2 26 h0
    have h2 := bdsU_len (uniR t u).2 26
    unfold utR
    rw [if_pos h]
    exact ⟨by omega, h2⟩
end Go.Proofs.Ytdelhgodhkbjdaa

/-
  The reference's unification: walks.
-/
namespace Go.Proofs.Ytdelhgodhkbjdaa
open Go.RowKit
set_option linter.unusedVariables false

def CapOk (c : Nat) : Prop := 26 ≤ c ∧ c ≤ 9223372036854775807
set_option maxRecDepth 100000 in
set_option maxHeartbeats 4000000 in
theorem specl3Walk (F : Nat) (K : List Tm) (t x : Tm) (hw : walkF F K t = some x) (v : Value) (S : Nat → Prop) (w : World) (kb kc d : Nat) (hv : VK K) (hs : shapeF t d = true) (hB : ∀ b, S b → b < w.heap.size) (ht : Tm.at S w t v) (hk : Kn S w kb K) (hc : CapOk kc) :
    Calls Try.prog 86 #[v, .slice (some ⟨kb, 0, none⟩) 26 kc] w fun e w' => ∃ v', e = .returned v' ∧ Tm.at S w' x v' ∧ Ext w w' := by
  have HKN := Lib.hid hk
  have HVK := Lib.hid hv
  have HS := Lib.hid hs
  have HW := Lib.hid hw
  have HB0 := Lib.hid hB
  obtain ⟨hc1, hc2⟩ := hc
  have lkb := hk.lt
  clear hB hv hs hw hk
  obtain ⟨a, c, rfl⟩ := at_form ht
  have V := Lib.hid ht
  clear ht
  go_enter Try.func86, Try.ntmps86
  go_wp2_with fail
  go_loopg [] F (fun g wr => ∃ (cur : Tm) (ac : Option Addr) (cc e : Nat), Hid (walkF g K cur = some x) ∧ Hid (shapeF cur e = true) ∧ Hid (BoxT wr w.heap.size (.int .i64 cur.kind) (.int .i64 cur.n) (.string cur.name) (.slice ac cur.kids.length cc)) ∧
      Hid (Tm.at S wr cur (.agg #[.int .i64 cur.kind, .int .i64 cur.n, .string cur.name, .slice ac cur.kids.length cc])) ∧ Hid (BoxT wr (w.heap.size + 1) (.int .i64 0) (.int .i64 0) (.string ⟨#[]⟩) (.slice none 0 0)) ∧ Hid (Ext w wr))
  case atStart =>
    refine ⟨t, a, c, d, HW, HS, Lib.hid ?_, Lib.hid (Tm.at_ext ((Ext.alloc _ _).trans (Ext.alloc _ _)) V.out), Lib.hid ?_, Lib.hid ((Ext.alloc _ _).trans (Ext.alloc _ _))⟩
    · exact (BoxT.new w _ _ _ _ 25 rfl).ext (Ext.alloc _ _)
    · exact BoxT.new _ _ _ _ _ 25 (by simp)
  case round =>
    obtain ⟨cur, ac, cc, e, HWc, HSc, HP, HV, HR, HE⟩ := hrel
    obtain ⟨g, rfl⟩ : ∃ g, gk = g + 1 := by
      cases gk with
      | zero => exact absurd HWc.out (by simp [walkF])
      | succ g => exact ⟨g, rfl⟩
    obtain ⟨k, n, s, ks⟩ := cur
    simp only [Tm.kind, Tm.n, Tm.name, Tm.kids] at HP HV
    obtain ⟨p0, p1, p2, p3, f0, f1, f2, f3⟩ := HP.out
    obtain ⟨r0, r1, r2, r3, g0, g1, g2, g3⟩ := HR.out
    have lP := HP.out.lt
    have lR : w.heap.size + 1 < wr.heap.size := HR.out.lt
    have FIN : Hid (∀ X, Fr (fun k => k = w.heap.size + 1) wr X → (Tm.mk k n s ks) = x → ∃ v', Ending.returned (.agg #[.int .i64 k, .int .i64 n, .string s, .slice ac ks.length cc]) = Ending.returned v' ∧ Tm.at S X x v' ∧ Ext w X) := Lib.hid (fun X f h => by
      subst h
      exact ⟨_, rfl, f.at HV.out (fun k hk h => by have := HB0.out k hk; omega), ((Fr.of_ext HE.out).trans f).toExt (fun k hk h => by omega)⟩)
    by_cases hk : k = 1
    · subst hk
      obtain ⟨hn0, hn1⟩ := shape_var HSc.out
      have hn26 : n < 26 := by omega
      obtain ⟨ra, rc, q0, q1, q2, q3, hat, z0, z1, z2, z3⟩ := HKN.out.look ⟨hn0, hn1⟩
      obtain ⟨N, rfl⟩ := Int.eq_ofNat_of_zero_le hn0
      have hN : N < 26 := by omega
      simp only [Int.toNat_natCast] at q0 q1 q2 q3 z0 z1 z2 z3
      have q0 := HE.out.cell q0
      have q1 := HE.out.cell q1
      have q2 := HE.out.cell q2
      have q3 := HE.out.cell q3
      by_cases hz : (lookK K (N : Int)).kind = 0
      · have HX : Hid (Tm.mk 1 (N : Int) s ks = x) := Lib.hid (by
          have := HWc.out
          rw [walkF, if_neg (by rintro ⟨_, h⟩; exact h hz)] at this
          exact Option.some.inj this)
        have hz' : ((lookK K (N : Int)).kind != 0) = false := by simp [hz]
        clear hat hz z0 z1 z2 z3
        go_wp2_with fail
        refine ret4_set (p := 4) (T := 25) (b := w.heap.size + 1) (by kernel_rfl) (fun _ => by kernel_rfl) (fun _ => by kernel_rfl) rfl rfl r0 r1 r2 r3 ?_
        intro X hX
        exact FIN.out X (Fr.of_grown hX (fun k e => by cases e; rfl)) HX.out
      · obtain ⟨e', hsr'⟩ := HVK.out.2 _ hn0 hn1 hz
        obtain ⟨r, hr⟩ : ∃ r, lookK K (N : Int) = r := ⟨_, rfl⟩
        have HWn : Hid (walkF g K r = some x) := Lib.hid (by
          have := HWc.out
          rw [walkF, if_pos ⟨rfl, hz⟩] at this
          simp only [Tm.n] at this
          rwa [hr] at this)
        have hz' : ((lookK K (N : Int)).kind != 0) = true := by simpa using hz
        rw [hr] at hat hsr' q0 q1 q2 q3 hz'
        have HSr := Lib.hid hsr'
        have HAT := Lib.hid (Tm.at_ext HE.out hat)
        clear hz hr hat hsr' z0 z1 z2 z3 FIN
        go_wp2_with fail
        have f4 : Fr (fun k => k = w.heap.size) wr _ := put4_frw wr (b := w.heap.size) (.int .i64 r.kind) (.int .i64 r.n) (.string r.name) (.slice ra r.kids.length rc) rfl
        go_roundg g
        case measure => omega
        case rel => exact ⟨r, ra, rc, e', HWn, HSr, Lib.hid (BoxT.put4 HP.out _ _ _ _), Lib.hid (f4.at HAT.out (fun k hk h => by have := HB0.out k hk; omega)), Lib.hid (HR.out.fr f4 (by omega)), Lib.hid (((Fr.of_ext HE.out).trans f4).toExt (fun k hk h => by omega))⟩
    · have HX : Hid (Tm.mk k n s ks = x) := Lib.hid (by
        have := HWc.out
        rw [walkF, if_neg (by rintro ⟨h, _⟩; exact hk h)] at this
        exact Option.some.inj this)
      have hk' : (k == 1) = false := by simpa using hk
      clear hk
      go_wp2_with fail
      refine ret4_set (p := 4) (T := 25) (b := w.heap.size + 1) (by kernel_rfl) (fun _ => by kernel_rfl) (fun _ => by kernel_rfl) rfl rfl r0 r1 r2 r3 ?_
      intro X hX
      exact FIN.out X (Fr.of_grown hX (fun k e => by cases e; rfl)) HX.out
end Go.Proofs.Ytdelhgodhkbjdaa
