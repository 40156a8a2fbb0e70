/-
  For every code FnCompareGoal returns true: of <, >, =:= exactly one holds where both sides have values.
-/
import Derived.Test.YtdelhgodhkbjdaaRows
import Derived.Test.YtdelhgodhkbjdaaMg50
import Derived.Test.YtdelhgodhkbjdaaMg49
import Derived.Test.YtdelhgodhkbjdaaMg34
import Derived.Test.YtdelhgodhkbjdaaDrawCgMg
import Derived.Test.YtdelhgodhkbjdaaMg26
import Derived.Test.YtdelhgodhkbjdaaMg44
import Derived.BigQuiet
import Derived.ProofKit
import Derived.OpenShut
import Derived.ShutString
namespace Go.Proofs.Ytdelhgodhkbjdaa.fnCompareGoal
open Go.ChangeShapes Go.WideShapes Go.ChangeAt Go.RowKit
open Go.ChangeMaps (open_string shut_string)
set_option linter.unusedVariables false

theorem own : ownKnob Try.prog.godebug = none := by kernel_rfl
theorem laidOut : laidOutB Try.prog = true := by kernel_rfl

def nm : Nat → ByteArray
  | 0 => ⟨#[60]⟩
  | 1 => ⟨#[62]⟩
  | _ => ⟨#[61, 58, 61]⟩
theorem nm_l : (nm 0).toList = [60] ∧ (nm 1).toList = [62] ∧ (nm 2).toList = [61, 58, 61] := by decide +kernel
theorem nm_name (k : Nat) : nameF (nm k) = true := by
  match k with
  | 0 => decide +kernel
  | 1 => decide +kernel
  | k + 2 => show nameF ⟨#[61, 58, 61]⟩ = true; decide +kernel
theorem nm_size (k : Nat) : (nm k).size ≤ 1048576 := by
  match k with
  | 0 => decide
  | 1 => decide
  | k + 2 => show (⟨#[61, 58, 61]⟩ : ByteArray).size ≤ 1048576; decide
mutual
theorem ar_code : ∀ (t : Tm), (arF t).2 ≠ 1
  | .mk k n s ks => by
    have h0 : ∀ (i : Nat), ((arL ks).getD i (0, 0)).2 ≠ 1 := by
      intro i
      rw [List.getD_eq_getElem?_getD]
      cases hi : (arL ks)[i]? with
      | none => simp
      | some p => exact arL_code ks p (List.mem_of_getElem? hi)
    simp only [arF, arC]
    split
    · simp
    · split
      · simp
      · split
        · split
          · split
            · unfold arOp rngI
              repeat' split
              all_goals simp
            · exact h0 1
          · exact h0 0
        · simp
theorem arL_code : ∀ (ts : List Tm), ∀ p ∈ arL ts, p.2 ≠ 1
  | [], p, hp => by simp [arL] at hp
  | t :: ts, p, hp => by
    simp only [arL, List.mem_cons] at hp
    rcases hp with rfl | hp
    · exact ar_code t
    · exact arL_code ts p hp
end
theorem cmp_code {s : ByteArray} {x y : Tm} (hs : s.toList = [60] ∨ s.toList = [62] ∨ s.toList = [61, 60] ∨ s.toList = [62, 61] ∨ s.toList = [61, 58, 61]) (h : validF (.mk 3 0 s [x, y]) = true) :
    cbN (.mk 3 0 s [x, y]) = cmpR s.toList x y ∧ cbR (.mk 3 0 s [x, y]) = [] := by
  refine cb_none (gb_of h ?_) ?_
  · rcases hs with hs | hs | hs | hs | hs <;> rw [hs] <;> rfl
  · rcases hs with hs | hs | hs | hs | hs <;> simp [callR, kidAt, hs]
noncomputable def cgN (ks : List Tm) : Nat → Int
  | 0 => 0
  | k + 1 => cgN ks k + (if cbN (.mk 3 0 (nm k) ks) = 0 then 1 else 0)
theorem cgN_bd (ks : List Tm) : ∀ k, 0 ≤ cgN ks k ∧ cgN ks k ≤ k
  | 0 => ⟨by simp [cgN], by simp [cgN]⟩
  | k + 1 => by
    have := cgN_bd ks k
    simp only [cgN]
    split <;> omega
theorem cg_main {k n : Int} {s : ByteArray} {ks : List Tm} (h : cmpGoalF (.mk k n s ks) = true) :
    k = 3 ∧ n = 0 ∧ cbR (.mk k n s ks) = [] ∧ (cgN ks 3 == 1) = (cbN (.mk k n s ks) == 0 || cbN (.mk k n s ks) == 1) := by
  simp only [cmpGoalF, cmpGF, Bool.and_eq_true] at h
  obtain ⟨hv, ⟨h3, h2⟩, hf⟩ := h
  obtain rfl : k = 3 := by simpa using h3
  obtain ⟨x, y, rfl⟩ := two_of (show ks.length = 2 by have h4 : (ks.length : Int) = 2 := (by simpa using h2); omega)
  have hsh := valid_shape hv
  have hn : n = 0 ∧ nameF s = true := by
    simp only [shapeF, Bool.and_eq_true] at hsh
    have h4 := hsh.1.2
    unfold ownF at h4
    simp at h4
    exact ⟨h4.1, h4.2⟩
  obtain ⟨rfl, hns⟩ := hn
  have hs : s.toList = [60] ∨ s.toList = [62] ∨ s.toList = [61, 60] ∨ s.toList = [62, 61] ∨ s.toList = [61, 58, 61] := by
    simp [hasF, five] at hf
    rcases hf with h | h | h | h | h <;> simp [← h]
  obtain ⟨e1, e2⟩ := cmp_code hs hv
  have hvk : ∀ j, validF (.mk 3 0 (nm j) [x, y]) = true := fun j => (valid_name ((nm_name j).trans hns.symm)).trans hv
  obtain ⟨l0, l1, l2⟩ := nm_l
  obtain ⟨a0, _⟩ := cmp_code (.inl l0) (hvk 0)
  obtain ⟨a1, _⟩ := cmp_code (.inr (.inl l1)) (hvk 1)
  obtain ⟨a2, _⟩ := cmp_code (.inr (.inr (.inr (.inr l2)))) (hvk 2)
  refine ⟨rfl, rfl, e2, ?_⟩
  simp only [cgN, a0, a1, a2, e1, l0, l1, l2]
  have c1 := ar_code x
  have c2 := ar_code y
  unfold cmpR
  by_cases hx : (arF x).2 = 0
  · by_cases hy : (arF y).2 = 0
    · have key : ∀ b : Bool, (holdsN b == 0 || holdsN b == 1) = true := by intro b; cases b <;> rfl
      simp only [hx, hy, ne_eq, not_true, if_false, key]
      rcases Int.lt_trichotomy (arF x).1 (arF y).1 with h | h | h
      · simp [cmpN, holdsN, h, show ¬ (arF y).1 < (arF x).1 by omega, show ¬ (arF x).1 = (arF y).1 by omega]
      · simp [cmpN, holdsN, h]
      · simp [cmpN, holdsN, h, show ¬ (arF x).1 < (arF y).1 by omega, show ¬ (arF x).1 = (arF y).1 by omega]
    · simp [hx, hy, c2]
  · simp [hx, c1]

theorem nm_cell (w : World) (k : Nat) (hk : k < 3) : (w.alloc (.cells #[.string ⟨#[60]⟩, .string ⟨#[62]⟩, .string ⟨#[61, 58, 61]⟩] 9)).cell? ⟨w.heap.size, k, none⟩ = some (.string (nm k)) := by
  have h : (#[.string ⟨#[60]⟩, .string ⟨#[62]⟩, .string ⟨#[61, 58, 61]⟩] : Array Value)[k]? = some (.string (nm k)) := by
    match k, hk with
    | 0, _ => rfl
    | 1, _ => rfl
    | 2, _ => rfl
  have := cell_new w _ 9 k _ h
  simpa using this
theorem nm_at {S : Nat → Prop} {w : World} {s : ByteArray} {ks : List Tm} {a : Option Addr} {c : Nat} (k : Nat) (h : Tm.at S w (.mk 3 0 s ks) (.agg #[.int .i64 3, .int .i64 0, .string s, .slice a ks.length c])) :
    Tm.at (fun _ => True) w (.mk 3 0 (nm k) ks) (.agg #[.int .i64 3, .int .i64 0, .string (nm k), .slice a ks.length c]) := by
  obtain ⟨_, sv, hv, hs⟩ := Tm.at_iff.1 h
  simp only [Value.agg.injEq, Array.mk.injEq, List.cons.injEq, and_true] at hv
  obtain ⟨_, _, _, rfl⟩ := hv
  exact Tm.at_iff.2 ⟨nm_size k, _, rfl, Tm.sl_mono (fun _ _ => trivial) (Agree.refl _) hs⟩
/-- what the operations of the loop's drawn region yield -/
def CG3 (ks : List Tm) (a : Option Addr) (c B X k : Nat) (sk : ByteArray) (m : Int) (j : Nat) (v : Value) (w : World) : Prop :=
  match j with
  | 0 => v = .slice (some ⟨B, 0, none⟩) 3 3
  | 1 => v = .int .i64 k
  | 2 => v = .pointer (some ⟨B, k, none⟩)
  | 3 => v = .string sk
  | 4 => v = .pointer (some ⟨X, 3, none⟩)
  | 5 => v = .slice a ks.length c
  | 6 => v = .agg #[.int .i64 3, .int .i64 0, .string sk, .slice a ks.length c]
  | 7 => ∃ u, v = .tuple #[u, .int .i64 m]
  | 8 => ∃ u, v = .tuple #[u, .int .i64 m]
  | 10 => v = .int .i64 m
  | 12 => v = .int .i64 m
  | _ => True

set_option maxRecDepth 100000 in
set_option maxHeartbeats 8000000 in
theorem walk (v0 : Value) (w : World) (hv0 : BytesAt w v0) :
    Calls Try.prog 4 #[v0] w fun e w' => e = .returned (.bool true) ∧ Below w.heap.size w w' := by
  have HV := Lib.hid hv0
  obtain ⟨a, len, cap, rfl, h1, h2, h3⟩ := hv0
  clear h3
  by_cases hl : len ≤ 1048576
  · go_enter Try.func4, Try.ntmps4
    go_wp2_with fail
    refine (drawCompareGoal _ _ HV.out).mono ?_
    rintro e w1 ⟨t, v1, rfl, hv1, q⟩
    obtain ⟨a1, c1, rfl⟩ := at_form hv1
    have B := Lib.hid q
    have V := Lib.hid hv1
    clear hv1 q
    obtain ⟨kd, n0, s, ks⟩ := t
    have V0 := V.out
    simp only [Tm.kind, Tm.n, Tm.name, Tm.kids] at V0 ⊢
    have V := Lib.hid V0
    clear V0
    obtain ⟨bc, hbc⟩ : ∃ b, cmpGoalF (.mk kd n0 s ks) = b := ⟨_, rfl⟩
    have HBC := Lib.hid hbc
    have e0 := Ext.alloc w1 (.cells #[.int .i64 kd, .int .i64 n0, .string s, .slice a1 ks.length c1] 25)
    have y0 := (BoxT.new w1 (.int .i64 kd) (.int .i64 n0) (.string s) (.slice a1 ks.length c1) 25 (b := w1.heap.size) rfl)
    have q := e0
    have B := Lib.hid (B.out.trans q)
    have V := Lib.hid (Tm.at_ext q V.out)
    have X := Lib.hid y0
    clear q e0 y0
    cases bc
    · clear hbc
      obtain ⟨kx0, kx1, kx2, kx3, _, _, _, _⟩ := X.out
      go_wp2_with fail
      refine (calls_bo (implCompareGoal _ _ _ _ V.out) HBC.out).mono ?_
      rintro e w2 ⟨rfl, q⟩
      clear kx0 kx1 kx2 kx3
      have B := Lib.hid (B.out.trans q)
      have V := Lib.hid (Tm.at_ext q V.out)
      have X := Lib.hid (X.out.ext q)
      clear q
      obtain ⟨kx0, kx1, kx2, kx3, _, _, _, _⟩ := X.out
      go_wp2_with fail
      refine (calls_bo (specCompareGoal _ _ _ _ V.out) HBC.out).mono ?_
      rintro e w3 ⟨rfl, q⟩
      clear kx0 kx1 kx2 kx3
      have B := Lib.hid (B.out.trans q)
      have V := Lib.hid (Tm.at_ext q V.out)
      have X := Lib.hid (X.out.ext q)
      clear q
      obtain ⟨kx0, kx1, kx2, kx3, _, _, _, _⟩ := X.out
      go_wp2_with fail
      refine (calls_bo (specCompareGoal _ _ _ _ V.out) HBC.out).mono ?_
      rintro e w4 ⟨rfl, q⟩
      clear kx0 kx1 kx2 kx3
      have B := Lib.hid (B.out.trans q)
      have V := Lib.hid (Tm.at_ext q V.out)
      have X := Lib.hid (X.out.ext q)
      clear q
      go_wp2_with fail
      go_ret
      exact ⟨rfl, B.out⟩
    · obtain ⟨rfl, rfl, e2, e3⟩ := cg_main hbc
      clear hbc
      obtain ⟨n1, hn1⟩ : ∃ n, cbN (.mk 3 0 s ks) = n := ⟨_, rfl⟩
      rw [hn1] at e3
      have HN1 := Lib.hid hn1
      have HR1 := Lib.hid e2
      have HE3 := Lib.hid e3
      clear hn1 e2 e3
      obtain ⟨kx0, kx1, kx2, kx3, _, _, _, _⟩ := X.out
      go_wp2_with fail
      refine (calls_bo (implCompareGoal _ _ _ _ V.out) HBC.out).mono ?_
      rintro e w2 ⟨rfl, q⟩
      clear kx0 kx1 kx2 kx3
      have B := Lib.hid (B.out.trans q)
      have V := Lib.hid (Tm.at_ext q V.out)
      have X := Lib.hid (X.out.ext q)
      clear q
      obtain ⟨kx0, kx1, kx2, kx3, _, _, _, _⟩ := X.out
      go_wp2_with fail
      refine (calls_bo (specCompareGoal _ _ _ _ V.out) HBC.out).mono ?_
      rintro e w3 ⟨rfl, q⟩
      clear kx0 kx1 kx2 kx3
      have B := Lib.hid (B.out.trans q)
      have V := Lib.hid (Tm.at_ext q V.out)
      have X := Lib.hid (X.out.ext q)
      clear q
      obtain ⟨kx0, kx1, kx2, kx3, _, _, _, _⟩ := X.out
      go_wp2_with fail
      refine (calls_cb (implCallBuiltin _ _ _ _ V.out) HR1.out HN1.out).mono ?_
      rintro e w4 ⟨a3, c3, rfl, _, q⟩
      clear kx0 kx1 kx2 kx3
      have B := Lib.hid (B.out.trans q)
      have V := Lib.hid (Tm.at_ext q V.out)
      have X := Lib.hid (X.out.ext q)
      clear q
      have ea := Ext.alloc w4 (.cells #[.string ⟨#[60]⟩, .string ⟨#[62]⟩, .string ⟨#[61, 58, 61]⟩] 9)
      have NMS := Lib.hid (fun k (hk : k < 3) => nm_cell w4 k hk)
      have q := ea
      have B := Lib.hid (B.out.trans q)
      have V := Lib.hid (Tm.at_ext q V.out)
      have X := Lib.hid (X.out.ext q)
      clear q ea
      have tok : True := trivial
      go_wp2_with fail
      go_loopw [7, 9] (fun n i wr => ∃ k : Nat, k ≤ 3 ∧ i = .int .i64 k ∧ n = .int .i64 (cgN ks k) ∧ Hid (Ext (w4.alloc (.cells #[.string ⟨#[60]⟩, .string ⟨#[62]⟩, .string ⟨#[61, 58, 61]⟩] 9)) wr)) (fun _ i _ => 3 - (intOf i).toNat)
      case atStart => exact ⟨0, by omega, rfl, rfl, Lib.hid (Ext.refl _)⟩
      case round =>
        obtain ⟨k, hk, rfl, rfl, HE⟩ := hrel
        by_cases hlt : k < 3
        · have hcn := NMS.out k hlt
          have hcb := cgN_bd ks k
          obtain ⟨cn, hcn2⟩ : ∃ c, c = cgN ks k := ⟨_, rfl⟩
          rw [← hcn2] at hcb ⊢
          have HCN := Lib.hid hcn2
          have VK := Lib.hid (fun w' (e' : Ext wr w') => nm_at k (Tm.at_ext (HE.out.trans e') V.out))
          obtain ⟨kx0, kx1, kx2, kx3, _, _, _, _⟩ := X.out.ext HE.out
          have kn := HE.out.cell hcn
          obtain ⟨m, hm⟩ : ∃ m, cbN (.mk 3 0 (nm k) ks) = m := ⟨_, rfl⟩
          have HM := Lib.hid hm
          have HM2 := Lib.hid hm
          obtain ⟨sk, hsk⟩ : ∃ z, nm k = z := ⟨_, rfl⟩
          rw [hsk] at kn HM
          have VK2 := Lib.hid (fun w' (e' : Ext wr w') => (by have h := VK.out w' e'; rw [hsk] at h; exact h : Tm.at (fun _ => True) w' (.mk 3 0 sk ks) (.agg #[.int .i64 3, .int .i64 0, .string sk, .slice a1 ks.length c1])))
          clear hcn hcn2 hm hsk VK
          go_wp2_with fail
          refine wp_region_relies (by kernel_rfl) (by kernel_rfl) (by kernel_rfl) (fun _ _ w' => Ext wr w') (CG3 ks a1 c1 w4.heap.size w1.heap.size k sk m) (Ext.drew _) ?hs4 ?he4
          case hs4 =>
            refine .cons ?h0 (.cons ?h1 (.cons ?h2 (.cons ?h3 (.cons ?h4 (.cons ?h5 (.cons ?h6 (.cons ?h7 (.cons ?h8 (.cons ?h9 (.cons ?h10 (.cons ?h11 (.cons ?h12 .nil))))))))))))
            case h0 =>
              intro A D vs w5 old dep hnd hcl hlt hG K hK
              have s8 := old 8 (by kernel_rfl)
              simp only [List.getElem?_toArray, List.getElem?_cons_succ, List.getElem?_cons_zero] at s8
              go_simp
              exact hK _ _ hG (fun _ _ _ h => h) rfl
            case h1 =>
              intro A D vs w5 old dep hnd hcl hlt hG K hK
              have s9 := old 9 (by kernel_rfl)
              simp only [List.getElem?_toArray, List.getElem?_cons_succ, List.getElem?_cons_zero] at s9
              go_simp
              exact hK _ _ hG (fun _ _ _ h => h) rfl
            case h2 =>
              intro A D vs w5 old dep hnd hcl hlt hG K hK
              obtain ⟨_, e0, j0⟩ := dep 0 (by kernel_rfl)
              replace j0 := j0 44 (by kernel_rfl) (by simp)
              replace e0 : vs 0 = .slice (some ⟨w4.heap.size, 0, none⟩) 3 3 := e0
              rw [e0] at j0
              obtain ⟨_, e1, j1⟩ := dep 1 (by kernel_rfl)
              replace j1 := j1 45 (by kernel_rfl) (by simp)
              replace e1 : vs 1 = .int .i64 k := e1
              rw [e1] at j1
              go_simp
              exact hK _ _ hG (fun _ _ _ h => h) rfl
            case h3 =>
              intro A D vs w5 old dep hnd hcl hlt hG K hK
              obtain ⟨_, e2, j2⟩ := dep 2 (by kernel_rfl)
              replace j2 := j2 46 (by kernel_rfl) (by simp)
              replace e2 : vs 2 = .pointer (some ⟨w4.heap.size, k, none⟩) := e2
              rw [e2] at j2
              have qn := hG.cell kn
              go_simp
              exact hK _ _ hG (fun _ _ _ h => h) rfl
            case h4 =>
              intro A D vs w5 old dep hnd hcl hlt hG K hK
              have s3 := old 3 (by kernel_rfl)
              simp only [List.getElem?_toArray, List.getElem?_cons_succ, List.getElem?_cons_zero] at s3
              go_simp
              exact hK _ _ hG (fun _ _ _ h => h) rfl
            case h5 =>
              intro A D vs w5 old dep hnd hcl hlt hG K hK
              obtain ⟨_, e4, j4⟩ := dep 4 (by kernel_rfl)
              replace j4 := j4 48 (by kernel_rfl) (by simp)
              replace e4 : vs 4 = .pointer (some ⟨w1.heap.size, 3, none⟩) := e4
              rw [e4] at j4
              have q3 := hG.cell kx3
              go_simp
              exact hK _ _ hG (fun _ _ _ h => h) rfl
            case h6 =>
              intro A D vs w5 old dep hnd hcl hlt hG K hK
              obtain ⟨_, e3, j3⟩ := dep 3 (by kernel_rfl)
              replace j3 := j3 47 (by kernel_rfl) (by simp)
              replace e3 : vs 3 = .string sk := e3
              rw [e3] at j3
              obtain ⟨_, e5, j5⟩ := dep 5 (by kernel_rfl)
              replace j5 := j5 49 (by kernel_rfl) (by simp)
              replace e5 : vs 5 = .slice a1 ks.length c1 := e5
              rw [e5] at j5
              go_simp
              exact hK _ _ hG (fun _ _ _ h => h) rfl
            case h7 =>
              intro A D vs w5 old dep hnd hcl hlt hG K hK
              obtain ⟨_, e6, j6⟩ := dep 6 (by kernel_rfl)
              replace j6 := j6 50 (by kernel_rfl) (by simp)
              replace e6 : vs 6 = .agg #[.int .i64 3, .int .i64 0, .string sk, .slice a1 ks.length c1] := e6
              rw [e6] at j6
              go_simp
              go_at_call 12
              refine (implCallBuiltin _ _ _ _ (VK2.out _ hG)).mono ?_
              rintro e w6 ⟨a5, c5, rfl, ho, e6⟩
              exact hK _ _ (hG.trans e6) (fun j x _ h => h) ⟨_, by rw [HM.out]⟩
            case h8 =>
              intro A D vs w5 old dep hnd hcl hlt hG K hK
              obtain ⟨_, e7, j7⟩ := dep 7 (by kernel_rfl)
              replace j7 := j7 51 (by kernel_rfl) (by simp)
              obtain ⟨u4, e4⟩ := e7
              rw [e4] at j7
              go_simp
              exact hK _ _ hG (fun _ _ _ h => h) ⟨u4, rfl⟩
            case h9 =>
              intro A D vs w5 old dep hnd hcl hlt hG K hK
              obtain ⟨_, e8, j8⟩ := dep 8 (by kernel_rfl)
              replace j8 := j8 43 (by kernel_rfl) (by simp)
              obtain ⟨u4, e4⟩ := e8
              rw [e4] at j8
              go_simp
              exact hK _ _ hG (fun _ _ _ h => h) trivial
            case h10 =>
              intro A D vs w5 old dep hnd hcl hlt hG K hK
              obtain ⟨_, e8, j8⟩ := dep 8 (by kernel_rfl)
              replace j8 := j8 43 (by kernel_rfl) (by simp)
              obtain ⟨u4, e4⟩ := e8
              rw [e4] at j8
              go_simp
              exact hK _ _ hG (fun _ _ _ h => h) rfl
            case h11 =>
              intro A D vs w5 old dep hnd hcl hlt hG K hK
              obtain ⟨_, e9, j9⟩ := dep 9 (by kernel_rfl)
              replace j9 := j9 52 (by kernel_rfl) (by simp)
              go_simp
              exact hK _ _ hG (fun _ _ _ h => h) trivial
            case h12 =>
              intro A D vs w5 old dep hnd hcl hlt hG K hK
              obtain ⟨_, e10, j10⟩ := dep 10 (by kernel_rfl)
              replace j10 := j10 53 (by kernel_rfl) (by simp)
              replace e10 : vs 10 = .int .i64 m := e10
              rw [e10] at j10
              go_simp
              exact hK _ _ hG (fun _ _ _ h => h) rfl
          case he4 =>
            intro D vs wz hD q hφ
            have h12 : vs 12 = .int .i64 m := hφ 12 (by show 12 < 13; decide)
            obtain ⟨z11, h11⟩ : ∃ z, vs 11 = z := ⟨_, rfl⟩
            simp only [putO, Act.put, List.setIfInBounds_toArray, List.set_cons_zero, List.set_cons_succ]
            rw [h12, h11]
            clear hφ hD h11
            by_cases hm0 : m = 0
            · have hm0' : (m == 0) = true := by simpa using hm0
              have HS : Hid (cgN ks (k + 1) = cn + 1) := Lib.hid (by rw [HCN.out, cgN, HM2.out, if_pos hm0])
              clear hm0
              go_wp2_with fail
              go_roundw
              case rel => exact ⟨k + 1, by omega, by go_num, by rw [HS.out], Lib.hid (HE.out.trans q)⟩
              case measure => simp [intOf]; omega
            · have hm0' : (m == 0) = false := by simpa using hm0
              have HS : Hid (cgN ks (k + 1) = cn) := Lib.hid (by rw [HCN.out, cgN, HM2.out, if_neg hm0]; omega)
              clear hm0
              go_wp2_with fail
              go_roundw
              case rel => exact ⟨k + 1, by omega, by go_num, by rw [HS.out], Lib.hid (HE.out.trans q)⟩
              case measure => simp [intOf]; omega
        · obtain rfl : k = 3 := by omega
          obtain ⟨c, hc⟩ : ∃ c, c = cgN ks 3 := ⟨_, rfl⟩
          have he := HE3.out
          rw [← hc] at he ⊢
          have HQ := Lib.hid he
          clear hc he
          cases q1 : (c == 1) <;> cases q2 : (n1 == 0) <;> cases q3 : (n1 == 1)
          all_goals first
            | (exfalso; have := HQ.out; rw [q1, q2, q3] at this; exact absurd this (by decide))
            | (go_wp2_with fail
               go_ret
               exact ⟨rfl, B.out.trans HE.out⟩)
  · go_enter Try.func4, Try.ntmps4
    go_wp2_with fail
    go_ret
    exact ⟨rfl, Below.refl _ _⟩


set_option maxRecDepth 100000 in
theorem lifted (os : Os) (started : os.Started) (H : Type) (enc : TypeId × Value → H) :
    ReturnsInHanded {} Try.checked os 4 .any (Rows.fnCompareGoalSpec.pre6 enc Try.prog Try.f4 Rows.fnCompareGoalRow.domain false) (Rows.fnCompareGoalSpec.post enc Try.prog Try.f4 false true false false) := by
  refine returnsInHanded_of_change (C := Try.checked) own started (by kernel_rfl) Try.func4
    (ChangeSpec.witness6 (enc := enc) (C := Try.checked) false ⟨#[], #[.slice none 0 0], []⟩ 8 (by kernel_rfl) (by kernel_rfl) (by kernel_rfl) (by kernel_rfl)) ?_
  intro W base args ds gs before hval0 hW hcnd _
  have hval : ∀ (j : Nat) t v, Try.f4.params[j]? = some t → args[j]? = some v → Value.okWide Try.prog W .any base t v := hval0
  have hW' := hW
  obtain ⟨p, q, hA0, hV, rfl, hfz, hnd⟩ := hW
  have hA : DataW.TrodAll enc Try.prog W 0 (fun _ => true) true Try.f4.params.toList args.toList ds p := hA0
  rw [Try.params4] at hA hval
  obtain ⟨v0, vs0, d0, ds0, p0, q0, hargs, rfl, rfl, h0, r0⟩ := trodAll_cons hA
  obtain ⟨rfl, rfl, rfl⟩ := trodAll_nil r0
  obtain rfl : args = #[v0] := by cases args; simp_all
  obtain ⟨rfl, rfl⟩ := trodVars_none hV
  have k0 := h0
  have lt0 : ∀ x ∈ p0, x.block < W.heap.size := by obtain ⟨m, hm⟩ := k0; exact DataW.trod_lt m _ _ _ hm
  obtain ⟨a0, len0, cap0, rfl⟩ := okWide_slice Try.underlying22 (hval 0 22 v0 rfl rfl)
  have w0 := bytes_of_trod h0
  clear hA0 hval0 hval
  refine (walk _ W w0).mono fun e W' ⟨he, bel⟩ => ?_
  subst he
  exact ⟨_, rfl, _, _, _, [], _, [], hW', trodAll_mk1 (shut_bool Try.underlying4 _), (trodAll_cons_mk (Below.trod laidOut (by kernel_rfl) (of_decide_eq_true (by kernel_rfl)) k0 bel lt0) trodAll_mk0), rfl, bel.frame _, fun h => by cases h⟩

set_option maxRecDepth 100000 in
theorem over : Rows.fnCompareGoalRow.holds Try.pinned (OpenSpec.ofChange Rows.fnCompareGoalSpec) :=
  OpenClaim.holds_of_wide 4 Try.f4 rfl rfl rfl rfl rfl rfl rfl ⟨rfl, rfl, rfl, rfl, rfl⟩ rfl rfl rfl rfl rfl (by kernel_rfl) Try.func4 (by kernel_rfl)
    (of_decide_eq_true (by kernel_rfl)) (by unfold Func.isWrapper; first | (rw [if_pos (by decide +kernel)]; kernel_rfl) | (rw [if_neg (by decide +kernel)]; exact ⟨rfl, rfl⟩))
    (fun os started H enc _ => lifted os started H enc)

/-- the statement -/
theorem proved : Rows.FnCompareGoalSaid := over
end Go.Proofs.Ytdelhgodhkbjdaa.fnCompareGoal
