/-
  Values of arithmetic terms: what the program computes.
-/
import Derived.Test.YtdelhgodhkbjdaaMg6
import Derived.Test.YtdelhgodhkbjdaaMg9
import Derived.Test.YtdelhgodhkbjdaaMg16
import Derived.Test.YtdelhgodhkbjdaaMg14
import Derived.Test.YtdelhgodhkbjdaaMg4
import Derived.Test.YtdelhgodhkbjdaaMg32
namespace Go.Proofs.Ytdelhgodhkbjdaa
open Go.RowKit
set_option linter.unusedVariables false

def rngI (n : Int) : Int × Int := if -999 ≤ n ∧ n ≤ 999 then (n, 0) else (0, 5)
def modI (a b : Int) : Int := (a.tmod b + b).tmod b
def arOp (s : List UInt8) (a b : Int) : Int × Int := if s = [43] then rngI (a + b) else if s = [45] then rngI (a - b) else if s = [42] then rngI (a * b) else if b = 0 then (0, 4) else if s = [109, 111, 100] then (modI a b, 0) else (a.tdiv b, 0)
def opsA : List ByteArray := [⟨#[43]⟩, ⟨#[45]⟩, ⟨#[42]⟩, ⟨#[47, 47]⟩, ⟨#[109, 111, 100]⟩]
def arC (k n : Int) (s : ByteArray) (ps : List (Int × Int)) : Int × Int :=
  if k = 2 then (n, 0) else if k = 1 then (0, 2) else if ps.length = 2 ∧ hasF opsA s = true then
    (if (ps.getD 0 (0, 0)).2 = 0 then (if (ps.getD 1 (0, 0)).2 = 0 then arOp s.toList (ps.getD 0 (0, 0)).1 (ps.getD 1 (0, 0)).1 else (0, (ps.getD 1 (0, 0)).2)) else (0, (ps.getD 0 (0, 0)).2)) else (0, 3)
mutual
/-- value and code of a term -/
def arF : Tm → Int × Int
  | .mk k n s ks => arC k n s (arL ks)
def arL : List Tm → List (Int × Int)
  | [] => []
  | t :: ts => arF t :: arL ts
end
theorem arL_len : ∀ ts : List Tm, (arL ts).length = ts.length
  | [] => rfl
  | t :: ts => by simp [arL, arL_len ts]
theorem tmod_abs (a b : Int) : (a.tmod b).natAbs ≤ a.natAbs ∧ (b ≠ 0 → (a.tmod b).natAbs < b.natAbs) := by
  rw [Int.natAbs_tmod]
  exact ⟨Nat.mod_le _ _, fun h => Nat.mod_lt _ (by omega)⟩
theorem tdiv_abs (a b : Int) : (a.tdiv b).natAbs ≤ a.natAbs := by
  rw [Int.natAbs_tdiv]
  exact Nat.div_le_self _ _
theorem mul_bd {a b : Int} (h1 : -999 ≤ a) (h2 : a ≤ 999) (h3 : -999 ≤ b) (h4 : b ≤ 999) : -998001 ≤ a * b ∧ a * b ≤ 998001 := by
  have h : (a * b).natAbs ≤ 999 * 999 := by
    rw [Int.natAbs_mul]
    exact Nat.mul_le_mul (by omega) (by omega)
  omega
theorem rng_bd (n : Int) : -999 ≤ (rngI n).1 ∧ (rngI n).1 ≤ 999 := by
  unfold rngI
  split <;> simp <;> omega
theorem op_bd (s : List UInt8) {a b : Int} (h1 : -999 ≤ a) (h2 : a ≤ 999) (h3 : -999 ≤ b) (h4 : b ≤ 999) : -999 ≤ (arOp s a b).1 ∧ (arOp s a b).1 ≤ 999 := by
  unfold arOp
  split
  · exact rng_bd _
  · split
    · exact rng_bd _
    · split
      · exact rng_bd _
      · split
        · simp
        · rename_i hb
          split
          · have := (tmod_abs (a.tmod b + b) b).2 hb
            simp only [modI]
            omega
          · have := tdiv_abs a b
            simp only
            omega
theorem shape_int {n : Int} {s : ByteArray} {ks : List Tm} {d : Nat} (h : shapeF (.mk 2 n s ks) d = true) : -999 ≤ n ∧ n ≤ 999 := by
  simp only [shapeF, Bool.and_eq_true] at h
  have h2 := h.1.2
  unfold ownF at h2
  simp at h2
  exact ⟨h2.1.1.1, h2.1.1.2⟩
mutual
theorem ar_bd : ∀ (t : Tm) (d : Nat), shapeF t d = true → -999 ≤ (arF t).1 ∧ (arF t).1 ≤ 999
  | .mk k n s ks, d, h => by
    simp only [arF, arC]
    split
    · rename_i hk
      subst hk
      exact shape_int h
    · split
      · simp
      · split
        · split
          · split
            · simp only [shapeF, Bool.and_eq_true] at h
              have hL := arL_bd ks (d - 1) h.2
              have h0 : ∀ (i : Nat), -999 ≤ ((arL ks).getD i (0, 0)).1 ∧ ((arL ks).getD i (0, 0)).1 ≤ 999 := by
                intro i
                rw [List.getD_eq_getElem?_getD]
                cases hi : (arL ks)[i]? with
                | none => simp
                | some p => exact hL p (List.mem_of_getElem? hi)
              exact op_bd _ (h0 0).1 (h0 0).2 (h0 1).1 (h0 1).2
            · simp
          · simp
        · simp
theorem arL_bd : ∀ (ts : List Tm) (d : Nat), shapeL ts d = true → ∀ p ∈ arL ts, -999 ≤ p.1 ∧ p.1 ≤ 999
  | [], _, _, p, hp => by simp [arL] at hp
  | t :: ts, d, h, p, hp => by
    simp only [shapeL, Bool.and_eq_true] at h
    simp only [arL, List.mem_cons] at hp
    rcases hp with rfl | hp
    · exact ar_bd t d h.1
    · exact arL_bd ts d h.2 p hp
end
theorem ops_new (w : World) (T : Nat) : StrsAt (w.alloc (.cells #[.string ⟨#[43]⟩, .string ⟨#[45]⟩, .string ⟨#[42]⟩, .string ⟨#[47, 47]⟩, .string ⟨#[109, 111, 100]⟩] T)) opsA (.slice (some ⟨w.heap.size, 0, none⟩) 5 5) := by
  refine ⟨_, _, rfl, by decide, by decide, by decide, .inr ⟨w.heap.size, 0, rfl, fun i s h => ?_⟩⟩
  have hi : i < 5 := by
    have := (List.getElem?_eq_some_iff.1 h).1
    simpa [opsA] using this
  revert s
  rcases i with _ | _ | _ | _ | _ | i
  all_goals first | omega | (intro s h; simp [opsA] at h; subst h; exact cell_new _ _ _ _ _ rfl)
theorem ops_or {s : ByteArray} (h : hasF opsA s = true) : s.toList = [43] ∨ s.toList = [45] ∨ s.toList = [42] ∨ s.toList = [47, 47] ∨ s.toList = [109, 111, 100] := by
  simp [hasF, opsA] at h
  rcases h with h | h | h | h | h
  · exact .inl h.symm
  · exact .inr (.inl h.symm)
  · exact .inr (.inr (.inl h.symm))
  · exact .inr (.inr (.inr (.inl h.symm)))
  · exact .inr (.inr (.inr (.inr h.symm)))
theorem shape_kid' {k n : Int} {s : ByteArray} {ks : List Tm} {d : Nat} (h : shapeF (.mk k n s ks) d = true) {j : Nat} {t : Tm} (ht : ks[j]? = some t) : shapeF t (d - 1) = true := by
  simp only [shapeF, Bool.and_eq_true] at h
  exact shapeL_mem h.2 (List.mem_of_getElem? ht)
theorem two_of {ks : List Tm} (h : ks.length = 2) : ∃ x y, ks = [x, y] := by
  match ks, h with
  | [x, y], _ => exact ⟨x, y, rfl⟩
theorem retII {a b c d : Int} (h : a = c ∧ b = d) : Ending.returned (.tuple #[.int .i64 a, .int .i64 b]) = .returned (.tuple #[.int .i64 c, .int .i64 d]) := by rw [h.1, h.2]
def ArOut (p : Int × Int) (w : World) (e : Ending) (w' : World) : Prop := e = .returned (.tuple #[.int .i64 p.1, .int .i64 p.2]) ∧ Ext w w'

def ArC (t : Tm) : Prop := ∀ (v : Value) (S : Nat → Prop) (w : World) (d : Nat), shapeF t d = true → Tm.at S w t v → Calls Try.prog 54 #[v] w (ArOut (arF t) w)
set_option maxRecDepth 100000 in
set_option maxHeartbeats 800000 in
theorem implarith : ∀ (m : Nat) (t : Tm), Tm.sz t ≤ m → ArC t := by
  intro m
  induction m with
  | zero => intro t hm; have := Tm.sz_pos t; omega
  | succ m ih =>
    intro t hm v S w d hsh ht
    obtain ⟨k, n, s, ks⟩ := t
    have IH := Lib.hid (show ∀ (j : Nat) (u : Tm), ks[j]? = some u → ArC u from fun j u h => ih u (by
      have := kid_lt (k := k) (n := n) (s := s) (ks := ks) h; omega))
    clear ih hm
    obtain ⟨hs1, sv, rfl, a, cap, rfl, h1, h2, h3, h4⟩ := ht
    have H4 := Lib.hid h4
    have HSH := Lib.hid hsh
    clear h4 hsh
    by_cases hk2 : k = 2
    · subst hk2
      have HF := Lib.hid (show arF (.mk 2 n s ks) = (n, 0) by simp [arF, arC])
      go_enter Try.func54, Try.ntmps54
      go_wp2_with fail
      go_ret2
      exact ⟨by rw [HF.out]; rfl, Ext.alloc _ _⟩
    by_cases hk1 : k = 1
    · subst hk1
      have HF := Lib.hid (show arF (.mk 1 n s ks) = (0, 2) by simp [arF, arC])
      clear hk2
      go_enter Try.func54, Try.ntmps54
      go_wp2_with fail
      go_ret2
      exact ⟨by rw [HF.out]; rfl, Ext.alloc _ _⟩
    have q2 : (k == 2) = false := by simpa using hk2
    have q1 : (k == 1) = false := by simpa using hk1
    by_cases hl : ks.length = 2
    · have hl1 : ((ks.length : Int) != 2) = false := by simp [hl]
      cases hh : hasF opsA s
      · have HH := Lib.hid hh
        have HF := Lib.hid (show arF (.mk k n s ks) = (0, 3) by simp [arF, arC, hk2, hk1, hh])
        clear hl hk2 hk1 hh
        go_enter Try.func54, Try.ntmps54
        go_wp2_with fail
        refine (slicesContainsS opsA _ s _ ?_).mono ?_
        · have h := ops_new (w.alloc (.cells #[.int .i64 k, .int .i64 n, .string s, .slice a ks.length cap] 25)) 9
          simpa using h
        rw [HH.out]
        rintro e w1 ⟨rfl, rfl⟩
        go_wp2_with fail
        go_ret2
        exact ⟨by rw [HF.out]; rfl, (Ext.alloc _ _).trans (Ext.alloc _ _)⟩
      · obtain ⟨x, y, rfl⟩ := two_of hl
        obtain ⟨b, off, ax, cx, rfl, hSb, x1, x2, x3, x4, hatx⟩ := tget (k := 0) (t := x) H4.out rfl
        obtain ⟨b', off', ay, cy, hbb, _, y1, y2, y3, y4, haty⟩ := tget (k := 1) (t := y) H4.out rfl
        simp only [Option.some.injEq, Addr.mk.injEq, and_true] at hbb
        obtain ⟨rfl, rfl⟩ := hbb
        have sx := shape_kid' HSH.out (j := 0) (t := x) rfl
        have sy := shape_kid' HSH.out (j := 1) (t := y) rfl
        obtain ⟨xa, xc, hx⟩ : ∃ a c, arF x = (a, c) := ⟨_, _, rfl⟩
        obtain ⟨ya, yc, hy⟩ : ∃ a c, arF y = (a, c) := ⟨_, _, rfl⟩
        have bx := ar_bd x _ sx
        have bY := ar_bd y _ sy
        rw [hx] at bx
        rw [hy] at bY
        obtain ⟨bx1, bx2⟩ := bx
        obtain ⟨by1, by2⟩ := bY
        simp only at bx1 bx2 by1 by2
        have CX := Lib.hid (fun w' (e' : Ext w w') => IH.out 0 x rfl _ S w' _ sx (Tm.at_ext e' hatx))
        have CY := Lib.hid (fun w' (e' : Ext w w') => IH.out 1 y rfl _ S w' _ sy (Tm.at_ext e' haty))
        have HX := Lib.hid hx
        have HY := Lib.hid hy
        have HF := Lib.hid (show arF (.mk k n s [x, y]) = if xc = 0 then (if yc = 0 then arOp s.toList xa ya else (0, yc)) else (0, xc) by simp [arF, arC, hk2, hk1, hh, arL, hx, hy])
        have HH := Lib.hid hh
        clear hl hk2 hk1 hh hatx haty sx sy hx hy
        simp only [Nat.zero_mul, Nat.add_zero, Nat.one_mul] at x1 x2 x3 x4 y1 y2 y3 y4
        have bl := block_lt_of_cell x1
        simp only at bl
        go_enter Try.func54, Try.ntmps54
        go_wp2_with fail
        refine (slicesContainsS opsA _ s _ ?_).mono ?_
        · have h := ops_new (w.alloc (.cells #[.int .i64 k, .int .i64 n, .string s, .slice (some ⟨b, off, none⟩) [x, y].length cap] 25)) 9
          simpa using h
        rw [HH.out]
        rintro e w1 ⟨rfl, rfl⟩
        go_wp2_with fail
        refine (CX.out _ ((Ext.alloc _ _).trans (Ext.alloc _ _))).mono ?_
        rw [HX.out]
        rintro e w1 ⟨rfl, e1⟩
        dsimp only
        have X := Lib.hid (((BoxT.new w (.int .i64 k) (.int .i64 n) (.string s) (.slice (some ⟨b, off, none⟩) 2 cap) 25 rfl).ext (Ext.alloc _ (.cells #[.string ⟨#[43]⟩, .string ⟨#[45]⟩, .string ⟨#[42]⟩, .string ⟨#[47, 47]⟩, .string ⟨#[109, 111, 100]⟩] 9))).ext e1)
        have E := Lib.hid (((Ext.alloc _ _).trans (Ext.alloc _ _)).trans e1)
        obtain ⟨b0, b1, b2, b3, _, _, _, _⟩ := X.out
        have y1 := E.out.cell y1
        have y2 := E.out.cell y2
        have y3 := E.out.cell y3
        have y4 := E.out.cell y4
        clear e1 x1 x2 x3 x4 bl
        by_cases hxc : xc = 0
        · subst hxc
          go_wp2_with fail
          refine (CY.out _ E.out).mono ?_
          rw [HY.out]
          rintro e w2 ⟨rfl, e2⟩
          dsimp only
          have X := Lib.hid (X.out.ext e2)
          have E := Lib.hid (E.out.trans e2)
          clear e2 b0 b1 b2 b3 y1 y2 y3 y4
          obtain ⟨b0, b1, b2, b3, _, _, _, _⟩ := X.out
          by_cases hyc : yc = 0
          · subst hyc
            have hf := HF.out
            simp only [if_true] at hf
            have HF := Lib.hid hf
            clear hf
            rcases ops_or HH.out with hop | hop | hop | hop | hop
            · have HOP := Lib.hid (show arOp s.toList xa ya = rngI (xa + ya) by rw [hop]; simp [arOp])
              by_cases r1 : -999 ≤ xa + ya
              · by_cases r2 : xa + ya ≤ 999
                · have HR := Lib.hid (show arF (.mk k n s [x, y]) = (xa + ya, 0) by rw [HF.out, HOP.out]; unfold rngI; rw [if_pos ⟨r1, r2⟩])
                  go_wp2_with (go_at_call 77; refine (implwithin _ _ _ _).mono ?_; rintro e w' ⟨rfl, rfl⟩)
                  go_ret2
                  exact ⟨by rw [HR.out]; rfl, E.out⟩
                · have HR := Lib.hid (show arF (.mk k n s [x, y]) = (0, 5) by rw [HF.out, HOP.out]; unfold rngI; rw [if_neg (fun h => r2 h.2)])
                  have qr : (decide (-999 ≤ xa + ya) && decide (xa + ya ≤ 999)) = false := by simp; intro h; omega
                  go_wp2_with (go_at_call 77; refine (implwithin _ _ _ _).mono ?_; rw [qr]; rintro e w' ⟨rfl, rfl⟩)
                  go_ret2
                  exact ⟨by rw [HR.out]; rfl, E.out⟩
              · have HR := Lib.hid (show arF (.mk k n s [x, y]) = (0, 5) by rw [HF.out, HOP.out]; unfold rngI; rw [if_neg (fun h => r1 h.1)])
                have qr : (decide (-999 ≤ xa + ya) && decide (xa + ya ≤ 999)) = false := by simp; intro h; omega
                go_wp2_with (go_at_call 77; refine (implwithin _ _ _ _).mono ?_; rw [qr]; rintro e w' ⟨rfl, rfl⟩)
                go_ret2
                exact ⟨by rw [HR.out]; rfl, E.out⟩
            · have HOP := Lib.hid (show arOp s.toList xa ya = rngI (xa - ya) by rw [hop]; simp [arOp])
              by_cases r1 : -999 ≤ xa - ya
              · by_cases r2 : xa - ya ≤ 999
                · have HR := Lib.hid (show arF (.mk k n s [x, y]) = (xa - ya, 0) by rw [HF.out, HOP.out]; unfold rngI; rw [if_pos ⟨r1, r2⟩])
                  go_wp2_with (go_at_call 77; refine (implwithin _ _ _ _).mono ?_; rintro e w' ⟨rfl, rfl⟩)
                  go_ret2
                  exact ⟨by rw [HR.out]; rfl, E.out⟩
                · have HR := Lib.hid (show arF (.mk k n s [x, y]) = (0, 5) by rw [HF.out, HOP.out]; unfold rngI; rw [if_neg (fun h => r2 h.2)])
                  have qr : (decide (-999 ≤ xa - ya) && decide (xa - ya ≤ 999)) = false := by simp; intro h; omega
                  go_wp2_with (go_at_call 77; refine (implwithin _ _ _ _).mono ?_; rw [qr]; rintro e w' ⟨rfl, rfl⟩)
                  go_ret2
                  exact ⟨by rw [HR.out]; rfl, E.out⟩
              · have HR := Lib.hid (show arF (.mk k n s [x, y]) = (0, 5) by rw [HF.out, HOP.out]; unfold rngI; rw [if_neg (fun h => r1 h.1)])
                have qr : (decide (-999 ≤ xa - ya) && decide (xa - ya ≤ 999)) = false := by simp; intro h; omega
                go_wp2_with (go_at_call 77; refine (implwithin _ _ _ _).mono ?_; rw [qr]; rintro e w' ⟨rfl, rfl⟩)
                go_ret2
                exact ⟨by rw [HR.out]; rfl, E.out⟩
            · have HOP := Lib.hid (show arOp s.toList xa ya = rngI (xa * ya) by rw [hop]; simp [arOp])
              obtain ⟨mb1, mb2⟩ := mul_bd bx1 bx2 by1 by2
              by_cases r1 : -999 ≤ xa * ya
              · by_cases r2 : xa * ya ≤ 999
                · have HR := Lib.hid (show arF (.mk k n s [x, y]) = (xa * ya, 0) by rw [HF.out, HOP.out]; unfold rngI; rw [if_pos ⟨r1, r2⟩])
                  go_wp2_with (go_at_call 77; refine (implwithin _ _ _ _).mono ?_; rintro e w' ⟨rfl, rfl⟩)
                  go_ret2
                  exact ⟨by rw [HR.out]; rfl, E.out⟩
                · have HR := Lib.hid (show arF (.mk k n s [x, y]) = (0, 5) by rw [HF.out, HOP.out]; unfold rngI; rw [if_neg (fun h => r2 h.2)])
                  have qr : (decide (-999 ≤ xa * ya) && decide (xa * ya ≤ 999)) = false := by simp; intro h; omega
                  go_wp2_with (go_at_call 77; refine (implwithin _ _ _ _).mono ?_; rw [qr]; rintro e w' ⟨rfl, rfl⟩)
                  go_ret2
                  exact ⟨by rw [HR.out]; rfl, E.out⟩
              · have HR := Lib.hid (show arF (.mk k n s [x, y]) = (0, 5) by rw [HF.out, HOP.out]; unfold rngI; rw [if_neg (fun h => r1 h.1)])
                have qr : (decide (-999 ≤ xa * ya) && decide (xa * ya ≤ 999)) = false := by simp; intro h; omega
                go_wp2_with (go_at_call 77; refine (implwithin _ _ _ _).mono ?_; rw [qr]; rintro e w' ⟨rfl, rfl⟩)
                go_ret2
                exact ⟨by rw [HR.out]; rfl, E.out⟩
            · by_cases hz : ya = 0
              · have HR := Lib.hid (show arF (.mk k n s [x, y]) = (0, 4) by rw [HF.out, hop, hz]; simp [arOp])
                subst hz
                go_wp2_with fail
                go_ret2
                exact ⟨by rw [HR.out]; rfl, E.out⟩
              · have HR := Lib.hid (show arF (.mk k n s [x, y]) = (xa.tdiv ya, 0) by rw [HF.out, hop]; simp [arOp, hz])
                have qz : (ya == 0) = false := by simpa using hz
                have hd : -999 ≤ xa.tdiv ya ∧ xa.tdiv ya ≤ 999 := by have := tdiv_abs xa ya; omega
                obtain ⟨hd1, hd2⟩ := hd
                go_wp2_with (go_at_call 77; refine (implwithin _ _ _ _).mono ?_; rintro e w' ⟨rfl, rfl⟩)
                go_ret2
                exact ⟨by rw [HR.out]; rfl, E.out⟩
            · by_cases hz : ya = 0
              · have HR := Lib.hid (show arF (.mk k n s [x, y]) = (0, 4) by rw [HF.out, hop, hz]; simp [arOp])
                subst hz
                go_wp2_with fail
                go_ret2
                exact ⟨by rw [HR.out]; rfl, E.out⟩
              · have HR := Lib.hid (show arF (.mk k n s [x, y]) = ((xa.tmod ya + ya).tmod ya, 0) by rw [HF.out, hop]; simp [arOp, hz, modI])
                have qz : (ya == 0) = false := by simpa using hz
                have hm := (tmod_abs xa ya).2 hz
                have hd : -1998 ≤ xa.tmod ya + ya ∧ xa.tmod ya + ya ≤ 1998 := by omega
                obtain ⟨hd1, hd2⟩ := hd
                have hn : -999 ≤ (xa.tmod ya + ya).tmod ya ∧ (xa.tmod ya + ya).tmod ya ≤ 999 := by have := (tmod_abs (xa.tmod ya + ya) ya).2 hz; omega
                obtain ⟨hn1, hn2⟩ := hn
                have ht : -999 ≤ xa.tmod ya ∧ xa.tmod ya ≤ 999 := by omega
                obtain ⟨ht1, ht2⟩ := ht
                clear hm
                go_wp2_with (go_at_call 77; refine (implwithin _ _ _ _).mono ?_; rintro e w' ⟨rfl, rfl⟩)
                go_ret2
                exact ⟨by rw [HR.out]; rfl, E.out⟩
          · have qy : (yc != 0) = true := by simpa using hyc
            have HF := Lib.hid (show arF (.mk k n s [x, y]) = (0, yc) by rw [HF.out]; simp [hyc])
            clear hyc
            go_wp2_with fail
            go_ret2
            exact ⟨by rw [HF.out]; rfl, E.out⟩
        · have qx : (xc != 0) = true := by simpa using hxc
          have HF := Lib.hid (show arF (.mk k n s [x, y]) = (0, xc) by rw [HF.out, if_neg hxc])
          clear hxc
          go_wp2_with fail
          go_ret2
          exact ⟨by rw [HF.out]; rfl, E.out⟩
    · have hl1 : ((ks.length : Int) != 2) = true := by simp; omega
      have HF := Lib.hid (show arF (.mk k n s ks) = (0, 3) by simp [arF, arC, hk2, hk1, arL_len, hl])
      clear hl hk2 hk1
      go_enter Try.func54, Try.ntmps54
      go_wp2_with fail
      go_ret2
      exact ⟨by rw [HF.out]; rfl, by first | exact Ext.alloc _ _ | exact (Ext.alloc _ _).trans (Ext.alloc _ _)⟩

def evF (t : Tm) : Int × Int := if validF t = true then arF t else (0, 6)
set_option maxRecDepth 100000 in
theorem implEvalArith (t : Tm) (v : Value) (S : Nat → Prop) (w : World) (ht : Tm.at S w t v) : Calls Try.prog 19 #[v] w (ArOut (evF t) w) := by
  obtain ⟨a0, c0, rfl⟩ := at_form ht
  have V := Lib.hid (Tm.at_ext (Ext.alloc w (.cells #[.int .i64 t.kind, .int .i64 t.n, .string t.name, .slice a0 t.kids.length c0] 25)) ht)
  clear ht
  cases hv : validF t
  all_goals
    have HV := Lib.hid hv
    clear hv
    go_enter Try.func19, Try.ntmps19
    go_wp2_with fail
    refine (implTermValid t _ _ _ V.out).mono ?_
    rw [HV.out]
    rintro e w1 ⟨rfl, e1⟩
    obtain ⟨b0, b1, b2, b3, _, _, _, _⟩ := (BoxT.new w (.int .i64 t.kind) (.int .i64 t.n) (.string t.name) (.slice a0 t.kids.length c0) 25 rfl).ext e1
    have V := Lib.hid (Tm.at_ext e1 V.out)
    have E := Lib.hid ((Ext.alloc _ _).trans e1)
    clear e1
    go_wp2_with fail
  · go_ret2
    exact ⟨by unfold evF; rw [HV.out]; rfl, E.out⟩
  · refine (implarith _ t (Nat.le_refl _) _ _ _ 30 (valid_shape HV.out) V.out).mono ?_
    rintro e w2 ⟨rfl, e2⟩
    have HE := Lib.hid (show evF t = arF t by unfold evF; rw [HV.out]; rfl)
    dsimp only
    go_wp2_with fail
    go_ret2
    exact ⟨by rw [HE.out]; rfl, E.out.trans e2⟩

end Go.Proofs.Ytdelhgodhkbjdaa
