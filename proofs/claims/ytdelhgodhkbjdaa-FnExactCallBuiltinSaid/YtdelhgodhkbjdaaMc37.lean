/-
  A law's equality of bindings, at the same bindings in two places.
-/
import Derived.Test.YtdelhgodhkbjdaaRows
import Derived.WalkKit
import Derived.WalkSpells
import Derived.WalkLawsBesides
import Derived.Lib.Hide
import Derived.Test.YtdelhgodhkbjdaaMc36
import Derived.Test.YtdelhgodhkbjdaaMc1
import Derived.Test.YtdelhgodhkbjdaaMc33
namespace Go.Proofs.Ytdelhgodhkbjdaa
open Go.RowKit
set_option linter.unusedVariables false

set_option maxRecDepth 100000 in
set_option maxHeartbeats 1000000 in
theorem lawseqBind (x : Bd) (a1 a2 : Option Addr) (c1 c2 : Nat) (S S' : Nat → Prop) (w : World) (h1 : Tm.at S w x.t (.agg #[.int .i64 x.t.kind, .int .i64 x.t.n, .string x.t.name, .slice a1 x.t.kids.length c1])) (h2 : Tm.at S' w x.t (.agg #[.int .i64 x.t.kind, .int .i64 x.t.n, .string x.t.name, .slice a2 x.t.kids.length c2])) :
    Calls Try.prog 63 #[.agg #[.int .i64 x.n, .int .i64 x.t.kind, .int .i64 x.t.n, .string x.t.name, .slice a1 x.t.kids.length c1], .agg #[.int .i64 x.n, .int .i64 x.t.kind, .int .i64 x.t.n, .string x.t.name, .slice a2 x.t.kids.length c2]] w fun e w' => e = .returned (.bool true) ∧ Ext w w' := by
  have HC := Lib.hid (fun w' (e' : Ext w w') => lawseqTerm_any x.t x.t _ _ S S' w' (Tm.at_ext e' h1) (Tm.at_ext e' h2))
  rw [same_refl] at HC
  clear h1 h2
  go_enter Try.func63, Try.ntmps63
  go_wp2_with fail
  refine (HC.out _ ((Ext.alloc _ _).trans (Ext.alloc _ _))).mono ?_
  rintro e w1 ⟨rfl, e1⟩
  have E1 := Lib.hid (((Ext.alloc _ _).trans (Ext.alloc _ _)).trans e1)
  clear e1
  go_wp2_with fail
  go_ret
  exact ⟨rfl, E1.out⟩
set_option maxRecDepth 100000 in
set_option maxHeartbeats 2000000 in
theorem lawseqBindS (ts : List Bd) (v v' : Value) (S S' : Nat → Prop) (w : World) (ht : Bd.sl S w ts v) (hu : Bd.sl S' w ts v') :
    Calls Try.prog 30 #[v, v'] w fun e w' => e = .returned (.bool true) ∧ Ext w w' := by
  obtain ⟨a, cap, rfl, h1, h2, h3, h4⟩ := ht
  obtain ⟨a', cap', rfl, h1', h2', h3', h4'⟩ := hu
  have H4 := Lib.hid h4
  have H4' := Lib.hid h4'
  clear h4 h4'
  have e4' : ((ts.length : Int) != (ts.length : Int)) = false := by simp
  go_enter Try.func30, Try.ntmps30
  go_wp2_with fail
  go_loopw [5] (fun i wr => ∃ k : Nat, k ≤ ts.length ∧ i = .int .i64 k ∧ Hid (Ext w wr)) (fun i _ => ts.length - (intOf i).toNat)
  case atStart => exact ⟨0, Nat.zero_le _, rfl, Lib.hid (Ext.refl _)⟩
  case round =>
    obtain ⟨k, hk, rfl, HE⟩ := hrel
    by_cases hlt : k < ts.length
    · obtain ⟨x, hx⟩ := bgetk hlt
      obtain ⟨b, off, ak, ck, rfl, p0, p1, p2, p3, p4, hat⟩ := Bd.get H4.out hx HE.out
      obtain ⟨b', off', ak', ck', rfl, q0, q1, q2, q3, q4, hat'⟩ := Bd.get H4'.out hx HE.out
      have cQ := quiet_call (w := wr) (fun w' e' => lawseqBind x ak ak' ck ck' S S' w' (Tm.at_ext (HE.out.trans e') hat) (Tm.at_ext (HE.out.trans e') hat'))
      have k0 := cell_regrown p0
      have k1 := cell_regrown p1
      have k2 := cell_regrown p2
      have k3 := cell_regrown p3
      have k4 := cell_regrown p4
      have l0 := cell_regrown q0
      have l1 := cell_regrown q1
      have l2 := cell_regrown q2
      have l3 := cell_regrown q3
      have l4 := cell_regrown q4
      clear p0 p1 p2 p3 p4 q0 q1 q2 q3 q4 hat hat' hx
      go_wp2_with fail
      refine region_ext (by kernel_rfl) (by kernel_rfl) ?_
      repeat (quiet_step (exact cQ _ _))
      refine wpQuiet_nil ?_
      intro wq eq
      go_wp2_with fail
      go_roundw
      case rel => exact ⟨k + 1, by omega, by go_num, Lib.hid (HE.out.trans eq)⟩
      case measure => simp [intOf]; omega
    · go_wp2_with fail
      go_ret
      exact ⟨rfl, HE.out⟩
end Go.Proofs.Ytdelhgodhkbjdaa

/-
  A region of an exact law of one or two terms: the arguments made anew, a call that returns bindings and something else.
-/
namespace Go.Proofs.Ytdelhgodhkbjdaa
open Go.RowKit
set_option linter.unusedVariables false

theorem wp_region_reliesQ {P : Program} {id : Nat} {L : List Oper} {Q : Exit → Act → World → Prop} {a0 : Act} {w : World} (hm : P.follows .mixedOrders = true) (ha : Apart L.toArray = true) (hb : Behind L.toArray = true) (G : (Nat → Prop) → (Nat → Value) → World → Prop) (φ : Nat → Value → World → Prop)
    (hg : G (fun _ => False) (fun _ => undef) w.drew) (hstep : ∀ Q' : Exit → Act → World → Prop, AllFrom (RelyAt P L.toArray Q' G φ a0) 0 L)
    (hend : ∀ D vs w, (∀ i, i < L.length → D i) → G D vs w → (∀ i, i < L.length → φ i (vs i) w) → Q .normal (putO vs L 0 a0) w) : (Code.region id L.toArray true).wp P Q a0 w :=
  wp_region_relies hm ha hb G φ hg (hstep Q) hend
def OwnW (t : Tm) (v : Value) (W w : World) : Prop := ∃ a c, v = val4 t a c ∧ Tm.own (fun b => W.heap.size ≤ b) w t (.slice a t.kids.length c)
def BdW (bs : List Bd) (v : Value) (W w : World) : Prop := ∃ a c, v = .slice a bs.length c ∧ OwnB (fun b => W.heap.size ≤ b) bs v w
def BtW (bs : List Bd) (y v : Value) (W w : World) : Prop := ∃ u, v = .tuple #[u, y] ∧ BdW bs u W w
theorem OwnW.ext {t : Tm} {v : Value} {W w w' : World} (h : OwnW t v W w) (e : Ext w w') : OwnW t v W w' := by
  obtain ⟨a, c, h1, h2⟩ := h
  exact ⟨a, c, h1, own_ext1 h2 e⟩
theorem BdW.ext {bs : List Bd} {v : Value} {W w w' : World} (h : BdW bs v W w) (e : Ext w w') : BdW bs v W w' := by
  obtain ⟨a, c, h1, h2⟩ := h
  exact ⟨a, c, h1, h2.ext e⟩
theorem BtW.ext {bs : List Bd} {y v : Value} {W w w' : World} (h : BtW bs y v W w) (e : Ext w w') : BtW bs y v W w' := by
  obtain ⟨u, h1, h2⟩ := h
  exact ⟨u, h1, h2.ext e⟩
def BX2 (t0 t1 : Tm) (x0 x1 : Option Addr) (y0 y1 : Nat) (bs : List Bd) (y : Value) (W : World) (i : Nat) (v : Value) (w : World) : Prop :=
  match i with
  | 0 => v = val4 t0 x0 y0
  | 1 => OwnW t0 v W w
  | 2 => v = val4 t1 x1 y1
  | 3 => OwnW t1 v W w
  | 4 => BtW bs y v W w
  | 5 => BtW bs y v W w
  | 6 => BdW bs v W w
  | 7 => v = y
  | 8 => BdW bs v W w
  | _ => v = y
theorem BX2.ext {t0 t1 : Tm} {x0 x1 : Option Addr} {y0 y1 : Nat} {bs : List Bd} {y : Value} {W : World} : ∀ {i : Nat} {v : Value} {w w' : World}, BX2 t0 t1 x0 x1 y0 y1 bs y W i v w → Ext w w' → BX2 t0 t1 x0 x1 y0 y1 bs y W i v w'
  | 0, _, _, _, h, _ => h
  | 1, _, _, _, h, e => OwnW.ext h e
  | 2, _, _, _, h, _ => h
  | 3, _, _, _, h, e => OwnW.ext h e
  | 4, _, _, _, h, e => BtW.ext h e
  | 5, _, _, _, h, e => BtW.ext h e
  | 6, _, _, _, h, e => BdW.ext h e
  | 7, _, _, _, h, _ => h
  | 8, _, _, _, h, e => BdW.ext h e
  | _ + 9, _, _, _, h, _ => h
theorem bdsU_sz (K : List Tm) : ∀ j, okU K j = true → szB (bdsU K j) ≤ 361 * j
  | 0, _ => by simp [bdsU, szB]
  | j + 1, h => by
    unfold okU at h
    simp only [Bool.and_eq_true, Bool.or_eq_true, decide_eq_true_eq] at h
    have := bdsU_sz K j h.1
    unfold bdsU
    split
    · omega
    · rename_i hk
      have h2 : fits (resT K j) 0 1 = true := h.2.resolve_left hk
      unfold fits at h2
      simp only [decide_eq_true_eq] at h2
      have h3 : ∀ (xs : List Bd) (x : Bd), szB (xs ++ [x]) = szB xs + (1 + 3 * Tm.sz x.t) := by
        intro xs x
        induction xs with
        | nil => simp [szB]
        | cons y xs ih => simp only [List.cons_append, szB, ih]; omega
      rw [h3]
      simp only
      omega
theorem ut_sz (t u : Tm) : szB (utR t u) ≤ 9386 ∧ (utR t u).length ≤ 26 := by
  cases h : utB t u
  · rw [utR_no h]; simp [szB]
  · have h0 : okU (uniR t u).2 26 = true := by
      unfold utB at h
      simp only [Bool.and_eq_true] at h
      exact h.2
    have h1 := bdsU_sz (uniR t u).2 26 h0
    have h2 := bdsU_len (uniR t u).2 26
    unfold utR
    rw [if_pos h]
    exact ⟨by omega, h2⟩
theorem allR_sz (K : List Tm) : szB (allR K) ≤ 9386 ∧ (allR K).length ≤ 26 := by
  unfold allR
  split
  · rename_i h
    exact ⟨by have := bdsU_sz K 26 h; omega, bdsU_len K 26⟩
  · simp [szB]
end Go.Proofs.Ytdelhgodhkbjdaa

/-
  What the functions on names of operators and of goals that are built in return: whatever the name.
-/
namespace Go.Proofs.Ytdelhgodhkbjdaa
open Go.RowKit

def isBuiltinF (s : List UInt8) (n : Int) : Bool :=
  if s = [61] ∨ s = [92, 61] ∨ s = [61, 61] ∨ s = [60] ∨ s = [62] ∨ s = [61, 60] ∨ s = [62, 61] ∨ s = [61, 58, 61] ∨ s = [105, 115] then n == 2 else
  if s = [116, 114, 117, 101] ∨ s = [102, 97, 105, 108] then n == 0 else
  if s = [118, 97, 114] ∨ s = [110, 111, 110, 118, 97, 114] ∨ s = [97, 116, 111, 109] ∨ s = [105, 110, 116] then n == 1 else
  if s = [97, 114, 103] then n == 3 else
  false

def opLevelF (s : List UInt8) : Int :=
  if s = [61] ∨ s = [92, 61] ∨ s = [61, 61] ∨ s = [60] ∨ s = [62] ∨ s = [61, 60] ∨ s = [62, 61] ∨ s = [61, 58, 61] ∨ s = [105, 115] then 3 else
  if s = [43] ∨ s = [45] then 2 else
  if s = [42] ∨ s = [47, 47] ∨ s = [109, 111, 100] then 1 else
  0
set_option maxHeartbeats 1000000 in
theorem specIsBuiltin (s : ByteArray) (n : Int) (w : World) : Calls Try.prog 43 #[.string s, .int .i64 n] w fun e w' => e = .returned (.bool (isBuiltinF s.toList n)) ∧ w = w' := by
  by_cases h : s.toList = [61] ∨ s.toList = [92, 61] ∨ s.toList = [61, 61] ∨ s.toList = [60] ∨ s.toList = [62] ∨ s.toList = [61, 60] ∨ s.toList = [62, 61] ∨ s.toList = [61, 58, 61] ∨ s.toList = [105, 115] ∨ s.toList = [116, 114, 117, 101] ∨ s.toList = [102, 97, 105, 108] ∨ s.toList = [118, 97, 114] ∨ s.toList = [110, 111, 110, 118, 97, 114] ∨ s.toList = [97, 116, 111, 109] ∨ s.toList = [105, 110, 116] ∨ s.toList = [97, 114, 103]
  · rcases h with h | h | h | h | h | h | h | h | h | h | h | h | h | h | h | h
    all_goals
      go_enter Try.func43, Try.ntmps43
      go_wp2
      go_ret
      exact ⟨by simp [isBuiltinF, h], rfl⟩
  · simp only [not_or] at h
    obtain ⟨h0, h1, h2, h3, h4, h5, h6, h7, h8, h9, h10, h11, h12, h13, h14, h15⟩ := h
    have g0 : (s.toList == [61]) = false := by simpa using h0
    have g1 : (s.toList == [92, 61]) = false := by simpa using h1
    have g2 : (s.toList == [61, 61]) = false := by simpa using h2
    have g3 : (s.toList == [60]) = false := by simpa using h3
    have g4 : (s.toList == [62]) = false := by simpa using h4
    have g5 : (s.toList == [61, 60]) = false := by simpa using h5
    have g6 : (s.toList == [62, 61]) = false := by simpa using h6
    have g7 : (s.toList == [61, 58, 61]) = false := by simpa using h7
    have g8 : (s.toList == [105, 115]) = false := by simpa using h8
    have g9 : (s.toList == [116, 114, 117, 101]) = false := by simpa using h9
    have g10 : (s.toList == [102, 97, 105, 108]) = false := by simpa using h10
    have g11 : (s.toList == [118, 97, 114]) = false := by simpa using h11
    have g12 : (s.toList == [110, 111, 110, 118, 97, 114]) = false := by simpa using h12
    have g13 : (s.toList == [97, 116, 111, 109]) = false := by simpa using h13
    have g14 : (s.toList == [105, 110, 116]) = false := by simpa using h14
    have g15 : (s.toList == [97, 114, 103]) = false := by simpa using h15
    clear h0 h1 h2 h3 h4 h5 h6 h7 h8 h9 h10 h11 h12 h13 h14 h15
    go_enter Try.func43, Try.ntmps43
    go_wp2
    go_ret
    simp only [beq_eq_false_iff_ne, ne_eq] at g0 g1 g2 g3 g4 g5 g6 g7 g8 g9 g10 g11 g12 g13 g14 g15
    exact ⟨by simp [isBuiltinF, g0, g1, g2, g3, g4, g5, g6, g7, g8, g9, g10, g11, g12, g13, g14, g15], rfl⟩

set_option maxHeartbeats 1000000 in
theorem implIsBuiltin (s : ByteArray) (n : Int) (w : World) : Calls Try.prog 71 #[.string s, .int .i64 n] w fun e w' => e = .returned (.bool (isBuiltinF s.toList n)) ∧ w = w' := by
  by_cases h : s.toList = [61] ∨ s.toList = [92, 61] ∨ s.toList = [61, 61] ∨ s.toList = [60] ∨ s.toList = [62] ∨ s.toList = [61, 60] ∨ s.toList = [62, 61] ∨ s.toList = [61, 58, 61] ∨ s.toList = [105, 115] ∨ s.toList = [116, 114, 117, 101] ∨ s.toList = [102, 97, 105, 108] ∨ s.toList = [118, 97, 114] ∨ s.toList = [110, 111, 110, 118, 97, 114] ∨ s.toList = [97, 116, 111, 109] ∨ s.toList = [105, 110, 116] ∨ s.toList = [97, 114, 103]
  · rcases h with h | h | h | h | h | h | h | h | h | h | h | h | h | h | h | h
    all_goals
      go_enter Try.func71, Try.ntmps71
      go_wp2
      go_ret
      exact ⟨by simp [isBuiltinF, h], rfl⟩
  · simp only [not_or] at h
    obtain ⟨h0, h1, h2, h3, h4, h5, h6, h7, h8, h9, h10, h11, h12, h13, h14, h15⟩ := h
    have g0 : (s.toList == [61]) = false := by simpa using h0
    have g1 : (s.toList == [92, 61]) = false := by simpa using h1
    have g2 : (s.toList == [61, 61]) = false := by simpa using h2
    have g3 : (s.toList == [60]) = false := by simpa using h3
    have g4 : (s.toList == [62]) = false := by simpa using h4
    have g5 : (s.toList == [61, 60]) = false := by simpa using h5
    have g6 : (s.toList == [62, 61]) = false := by simpa using h6
    have g7 : (s.toList == [61, 58, 61]) = false := by simpa using h7
    have g8 : (s.toList == [105, 115]) = false := by simpa using h8
    have g9 : (s.toList == [116, 114, 117, 101]) = false := by simpa using h9
    have g10 : (s.toList == [102, 97, 105, 108]) = false := by simpa using h10
    have g11 : (s.toList == [118, 97, 114]) = false := by simpa using h11
    have g12 : (s.toList == [110, 111, 110, 118, 97, 114]) = false := by simpa using h12
    have g13 : (s.toList == [97, 116, 111, 109]) = false := by simpa using h13
    have g14 : (s.toList == [105, 110, 116]) = false := by simpa using h14
    have g15 : (s.toList == [97, 114, 103]) = false := by simpa using h15
    clear h0 h1 h2 h3 h4 h5 h6 h7 h8 h9 h10 h11 h12 h13 h14 h15
    go_enter Try.func71, Try.ntmps71
    go_wp2
    go_ret
    simp only [beq_eq_false_iff_ne, ne_eq] at g0 g1 g2 g3 g4 g5 g6 g7 g8 g9 g10 g11 g12 g13 g14 g15
    exact ⟨by simp [isBuiltinF, g0, g1, g2, g3, g4, g5, g6, g7, g8, g9, g10, g11, g12, g13, g14, g15], rfl⟩

set_option maxHeartbeats 1000000 in
theorem specl2Level (s : ByteArray) (w : World) : Calls Try.prog 91 #[.string s] w fun e w' => e = .returned (.int .i64 (opLevelF s.toList)) ∧ w = w' := by
  by_cases h : s.toList = [61] ∨ s.toList = [92, 61] ∨ s.toList = [61, 61] ∨ s.toList = [60] ∨ s.toList = [62] ∨ s.toList = [61, 60] ∨ s.toList = [62, 61] ∨ s.toList = [61, 58, 61] ∨ s.toList = [105, 115] ∨ s.toList = [43] ∨ s.toList = [45] ∨ s.toList = [42] ∨ s.toList = [47, 47] ∨ s.toList = [109, 111, 100]
  · rcases h with h | h | h | h | h | h | h | h | h | h | h | h | h | h
    all_goals
      go_enter Try.func91, Try.ntmps91
      go_wp2
      go_ret
      exact ⟨by simp [opLevelF, h], rfl⟩
  · simp only [not_or] at h
    obtain ⟨h0, h1, h2, h3, h4, h5, h6, h7, h8, h9, h10, h11, h12, h13⟩ := h
    have g0 : (s.toList == [61]) = false := by simpa using h0
    have g1 : (s.toList == [92, 61]) = false := by simpa using h1
    have g2 : (s.toList == [61, 61]) = false := by simpa using h2
    have g3 : (s.toList == [60]) = false := by simpa using h3
    have g4 : (s.toList == [62]) = false := by simpa using h4
    have g5 : (s.toList == [61, 60]) = false := by simpa using h5
    have g6 : (s.toList == [62, 61]) = false := by simpa using h6
    have g7 : (s.toList == [61, 58, 61]) = false := by simpa using h7
    have g8 : (s.toList == [105, 115]) = false := by simpa using h8
    have g9 : (s.toList == [43]) = false := by simpa using h9
    have g10 : (s.toList == [45]) = false := by simpa using h10
    have g11 : (s.toList == [42]) = false := by simpa using h11
    have g12 : (s.toList == [47, 47]) = false := by simpa using h12
    have g13 : (s.toList == [109, 111, 100]) = false := by simpa using h13
    clear h0 h1 h2 h3 h4 h5 h6 h7 h8 h9 h10 h11 h12 h13
    go_enter Try.func91, Try.ntmps91
    go_wp2
    go_ret
    simp only [beq_eq_false_iff_ne, ne_eq] at g0 g1 g2 g3 g4 g5 g6 g7 g8 g9 g10 g11 g12 g13
    exact ⟨by simp [opLevelF, g0, g1, g2, g3, g4, g5, g6, g7, g8, g9, g10, g11, g12, g13], rfl⟩


end Go.Proofs.Ytdelhgodhkbjdaa
