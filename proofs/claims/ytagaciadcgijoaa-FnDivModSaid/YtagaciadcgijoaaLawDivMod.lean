/-
  For every two codes FnDivMod returns true: the quotient and the remainder of a division are exact.
-/
import Derived.Test.YtagaciadcgijoaaRows
import Derived.Test.YtagaciadcgijoaaArithT
import Derived.Test.YtagaciadcgijoaaDrawA
import Derived.Test.YtagaciadcgijoaaBRep
import Derived.ProofKit
import Derived.OpenShut
import Derived.ShutString
namespace Go.Proofs.Ytagaciadcgijoaa.fnDivMod
open Go.ChangeShapes Go.WideShapes Go.ChangeAt Go.RowKit
open Go.ChangeMaps (open_string shut_string)
set_option linter.unusedVariables false

theorem own : ownKnob Try.prog.godebug = none := by kernel_rfl
theorem laidOut : laidOutB Try.prog = true := by kernel_rfl

theorem plus_has : hasF opsA ⟨#[43]⟩ = true := by simp [hasF, opsA]
theorem rng_code (n : Int) (h : (rngI n).2 ≠ 0) : (rngI n).1 = 0 := by
  unfold rngI at h ⊢
  split
  · rename_i hh
    rw [if_pos hh] at h
    exact absurd rfl h
  · rfl
theorem op_code (s : List UInt8) (a b : Int) (h : (arOp s a b).2 ≠ 0) : (arOp s a b).1 = 0 := by
  unfold arOp at h ⊢
  split
  · rename_i e; rw [if_pos e] at h; exact rng_code _ h
  · rename_i e; rw [if_neg e] at h
    split
    · rename_i e; rw [if_pos e] at h; exact rng_code _ h
    · rename_i e; rw [if_neg e] at h
      split
      · rename_i e; rw [if_pos e] at h; exact rng_code _ h
      · rename_i e; rw [if_neg e] at h
        split
        · rfl
        · rename_i e; rw [if_neg e] at h
          split
          · rename_i e; rw [if_pos e] at h; exact absurd rfl h
          · rename_i e; rw [if_neg e] at h; exact absurd rfl h
theorem arC_code (k n : Int) (s : ByteArray) (ps : List (Int × Int)) (h : (arC k n s ps).2 ≠ 0) : (arC k n s ps).1 = 0 := by
  unfold arC at h ⊢
  split
  · rename_i e; rw [if_pos e] at h; exact absurd rfl h
  · rename_i e; rw [if_neg e] at h
    split
    · rfl
    · rename_i e; rw [if_neg e] at h
      split
      · rename_i e; rw [if_pos e] at h
        split
        · rename_i e; rw [if_pos e] at h
          split
          · rename_i e; rw [if_pos e] at h; exact op_code _ _ _ h
          · rfl
        · rfl
      · rfl
theorem ev_zero {t : Tm} {n k : Int} (h : evF t = (n, k)) (hk : k ≠ 0) : n = 0 := by
  unfold evF at h
  split at h
  · obtain ⟨k0, n0, s, ks⟩ := t
    simp only [arF] at h
    have := arC_code k0 n0 s (arL ks) (by rw [h]; exact hk)
    rw [h] at this
    exact this
  · have := congrArg Prod.fst h
    exact this.symm
theorem ev_valid {t : Tm} {n : Int} (h : evF t = (n, 0)) : validF t = true ∧ arF t = (n, 0) := by
  unfold evF at h
  split at h
  · rename_i hv
    exact ⟨hv, h⟩
  · simp at h
theorem ev_bd {t : Tm} {n : Int} (h : evF t = (n, 0)) : -999 ≤ n ∧ n ≤ 999 := by
  obtain ⟨h1, h2⟩ := ev_valid h
  have := ar_bd t 30 (valid_shape h1)
  rw [h2] at this
  exact this
theorem ev_two {s : ByteArray} {t u : Tm} {n m x c : Int} (hs : hasF opsA s = true) (ht : evF t = (n, 0)) (hu : evF u = (m, 0)) (h : evF (.mk 3 0 s [t, u]) = (x, c)) (hc : c ≠ 6) : (x, c) = arOp s.toList n m := by
  obtain ⟨_, h1⟩ := ev_valid ht
  obtain ⟨_, h2⟩ := ev_valid hu
  unfold evF at h
  split at h
  · rw [← h]
    simp [arF, arL, arC, h1, h2, hs]
  · simp at h; omega

theorem num_at {w : World} {d : Int} : Tm.at (fun _ => True) w (.mk 2 d ⟨#[]⟩ []) (.agg #[.int .i64 2, .int .i64 d, .string ⟨#[]⟩, .slice none 0 0]) :=
  Tm.at_iff.2 ⟨by show (⟨#[]⟩ : ByteArray).size ≤ 1048576; decide, _, rfl, none, 0, rfl, Nat.le_refl _, by omega, by show 0 ≤ 1048576; decide, .inl rfl⟩
theorem two_at {S : Nat → Prop} {w : World} {s : ByteArray} {t : Tm} {d : Int} {aX : Option Addr} {cX T b : Nat} (hs : s.size ≤ 1048576) (hb : b = w.heap.size)
    (V : Tm.at S w t (.agg #[.int .i64 t.kind, .int .i64 t.n, .string t.name, .slice aX t.kids.length cX])) :
    Tm.at (fun _ => True) (w.alloc (.cells #[.int .i64 t.kind, .int .i64 t.n, .string t.name, .slice aX t.kids.length cX, .int .i64 2, .int .i64 d, .string ⟨#[]⟩, .slice none 0 0] T)) (.mk 3 0 s [t, .mk 2 d ⟨#[]⟩ []])
      (.agg #[.int .i64 3, .int .i64 0, .string s, .slice (some ⟨b, 0, none⟩) 2 2]) := by
  subst hb
  exact Tm.at_iff.2 ⟨hs, _, rfl, Tm.sl_mono (fun _ _ => trivial) (Agree.refl _) (sl_new (S := fun _ => True) (xs := tcells t aX cX ++ (tcells (.mk 2 d ⟨#[]⟩ []) none 0 ++ [])) ⟨aX, cX, _, rfl, Tm.at_mono (fun _ _ => trivial) (Agree.refl _) V, none, 0, _, rfl, num_at, rfl⟩ rfl rfl (by show 2 ≤ 1048576; decide))⟩
theorem num_ev {d : Int} (h1 : -999 ≤ d) (h2 : d ≤ 999) : evF (.mk 2 d ⟨#[]⟩ []) = (d, 0) := by
  have hv : validF (.mk 2 d ⟨#[]⟩ []) = true := by
    rw [valid_eq]
    simp [shapeF, shapeL, ownF, Tm.sz, Tm.szL, h1, h2]
  unfold evF
  rw [if_pos hv]
  simp [arF, arC]
theorem div_has : hasF opsA ⟨#[47, 47]⟩ = true := by simp [hasF, opsA]
theorem mod_has : hasF opsA ⟨#[109, 111, 100]⟩ = true := by simp [hasF, opsA]
theorem div_op {n d : Int} (hd : d ≠ 0) : arOp (⟨#[47, 47]⟩ : ByteArray).toList n d = (n.tdiv d, 0) := by
  simp [arOp, hd]
theorem mod_op {n d : Int} (hd : d ≠ 0) : arOp (⟨#[109, 111, 100]⟩ : ByteArray).toList n d = (modI n d, 0) := by
  simp [arOp, hd]
/-- the length's divisor -/
def divI (len : Nat) : Int := if len % 2 = 1 then -(1 + (len % 12 : Nat)) else 1 + (len % 12 : Nat)
theorem sq_lt {a b : Int} (h : a.natAbs < b.natAbs) : 0 ≤ a * a ∧ a * a < b * b := by
  have h1 : (a * a).natAbs < (b * b).natAbs := by
    rw [Int.natAbs_mul, Int.natAbs_mul]
    exact Nat.mul_lt_mul'' h h
  have sq : ∀ c : Int, 0 ≤ c * c := fun c => by
    by_cases hc : 0 ≤ c
    · exact Int.mul_nonneg hc hc
    · exact Int.mul_nonneg_of_nonpos_of_nonpos (by omega) (by omega)
  have h2 : 0 ≤ a * a := sq a
  have h3 : 0 ≤ b * b := sq b
  omega
theorem dm_eq (a b : Int) : b * a.tdiv b + a.tmod b = a := by
  have := Int.tmod_add_mul_tdiv a b
  omega
theorem rest_eq (n d : Int) : n - n.tdiv d * d = n.tmod d := by
  have := dm_eq n d
  have e : n.tdiv d * d = d * n.tdiv d := Int.mul_comm _ _
  omega
theorem rest_sign (n d : Int) : 0 ≤ n.tmod d * n := by
  by_cases h : 0 ≤ n
  · exact Int.mul_nonneg (Int.tmod_nonneg d h) h
  · have h1 : n.tmod d ≤ 0 := by
      have := Int.tmod_nonneg d (a := -n) (by omega)
      rw [Int.neg_tmod] at this
      omega
    exact Int.mul_nonneg_of_nonpos_of_nonpos h1 (by omega)
theorem mod_sign {n d : Int} (hd : d ≠ 0) : 0 ≤ modI n d * d := by
  unfold modI
  have h := (tmod_abs n d).2 hd
  by_cases h0 : 0 ≤ d
  · exact Int.mul_nonneg (Int.tmod_nonneg d (by omega)) h0
  · have h1 : (n.tmod d + d).tmod d ≤ 0 := by
      have := Int.tmod_nonneg d (a := -(n.tmod d + d)) (by omega)
      rw [Int.neg_tmod] at this
      omega
    exact Int.mul_nonneg_of_nonpos_of_nonpos h1 (by omega)
theorem mod_dvd {n d : Int} (hd : d ≠ 0) : (n - modI n d).tmod d = 0 := by
  unfold modI
  apply Int.tmod_eq_zero_of_dvd
  have e1 := dm_eq n d
  have e2 := dm_eq (n.tmod d + d) d
  refine ⟨n.tdiv d + (n.tmod d + d).tdiv d - 1, ?_⟩
  rw [Int.mul_sub, Int.mul_add]
  omega

set_option maxRecDepth 100000 in
set_option maxHeartbeats 8000000 in
theorem walk (v0 : Value) (v1 : Value) (w : World) (hv0 : BytesAt w v0) (hv1 : BytesAt w v1) :
    Calls Try.prog 3 #[v0, v1] w fun e w' => e = .returned (.bool true) ∧ Below w.heap.size w w' := by
  have HV := Lib.hid hv0
  obtain ⟨a, len, cap, rfl, h1, h2, h3⟩ := hv0
  obtain ⟨ma, mlen, mcap, rfl, h1m, h2m, h3m⟩ := hv1
  clear h3 h3m
  by_cases hl : len ≤ 1048576
  · by_cases hml : mlen ≤ 1048576
    · obtain ⟨d, hd⟩ : ∃ d, d = divI mlen := ⟨_, rfl⟩
      have HD := Lib.hid hd
      clear hd
      have hdb : d ≠ 0 ∧ -12 ≤ d ∧ d ≤ 12 := by have := HD.out; unfold divI at this; split at this <;> omega
      obtain ⟨hd0, hd1, hd2⟩ := hdb
      go_enter Try.func3, Try.ntmps3
      go_wp2_with fail
      refine (drawEvalArith _ _ HV.out).mono ?_
      rintro e w1 ⟨t, v1, rfl, hv1, q⟩
      obtain ⟨aX, cX, rfl⟩ := at_form hv1
      have ea := Ext.alloc w1 (.cells #[.int .i64 t.kind, .int .i64 t.n, .string t.name, .slice aX t.kids.length cX] 25)
      have B := Lib.hid (q.trans ea)
      have X := Lib.hid (BoxT.new w1 (.int .i64 t.kind) (.int .i64 t.n) (.string t.name) (.slice aX t.kids.length cX) 25 rfl)
      have V := Lib.hid (Tm.at_ext ea hv1)
      clear q ea hv1
      obtain ⟨n, k, hP⟩ : ∃ n k, evF t = (n, k) := ⟨_, _, rfl⟩
      have HP := Lib.hid hP
      clear hP
      obtain ⟨kx0, kx1, kx2, kx3, _, _, _, _⟩ := X.out
      go_wp2_with fail
      refine (implEvalArith t _ _ _ V.out).mono ?_
      rw [HP.out]
      rintro e w2 ⟨rfl, q⟩
      clear kx0 kx1 kx2 kx3
      have B := Lib.hid (B.out.trans q)
      have X := Lib.hid (X.out.ext q)
      have V := Lib.hid (Tm.at_ext q V.out)
      clear q
      dsimp only
      obtain ⟨kx0, kx1, kx2, kx3, _, _, _, _⟩ := X.out
      go_wp2_with fail
      refine (specEvalArith t _ _ _ V.out).mono ?_
      rw [HP.out]
      rintro e w3 ⟨rfl, q⟩
      clear kx0 kx1 kx2 kx3
      have B := Lib.hid (B.out.trans q)
      have X := Lib.hid (X.out.ext q)
      have V := Lib.hid (Tm.at_ext q V.out)
      clear q
      dsimp only
      by_cases hp : mlen % 2 = 1
      · have hde : -(1 + (mlen : Int) % 12) = d := by have := HD.out; unfold divI at this; rw [if_pos hp] at this; omega
        obtain ⟨q, a1, hQ⟩ : ∃ n k, evF (.mk 3 0 ⟨#[47, 47]⟩ [t, .mk 2 d ⟨#[]⟩ []]) = (n, k) := ⟨_, _, rfl⟩
        have HQ := Lib.hid hQ
        clear hQ
        obtain ⟨m, b1, hM⟩ : ∃ n k, evF (.mk 3 0 ⟨#[109, 111, 100]⟩ [t, .mk 2 d ⟨#[]⟩ []]) = (n, k) := ⟨_, _, rfl⟩
        have HM := Lib.hid hM
        clear hM
        obtain ⟨kx0, kx1, kx2, kx3, _, _, _, _⟩ := X.out
        have lX := X.out.lt
        go_wp2_with fail
        refine (implEvalArith (.mk 3 0 ⟨#[47, 47]⟩ [t, (.mk 2 d ⟨#[]⟩ [])]) _ (fun b => True) _ (two_at (by show (⟨#[47, 47]⟩ : ByteArray).size ≤ 1048576; decide) (by simp) (Tm.at_ext (Ext.alloc _ _) V.out))).mono ?_
        rw [HQ.out]
        rintro e w4 ⟨rfl, q⟩
        clear kx0 kx1 kx2 kx3
        clear lX
        have Z := Lib.hid ((BoxT.new w3 (.int .i64 2) (.int .i64 d) (.string ⟨#[]⟩) (.slice none 0 0) 25 rfl).ext ((Ext.alloc _ _).trans q))
        replace q := (Ext.alloc _ _).trans ((Ext.alloc _ _).trans q)
        have B := Lib.hid (B.out.trans q)
        have X := Lib.hid (X.out.ext q)
        have V := Lib.hid (Tm.at_ext q V.out)
        clear q
        dsimp only
        obtain ⟨kx0, kx1, kx2, kx3, _, _, _, _⟩ := X.out
        have lX := X.out.lt
        obtain ⟨kz0, kz1, kz2, kz3, _, _, _, _⟩ := Z.out
        have lZ := Z.out.lt
        go_wp2_with fail
        refine (implEvalArith (.mk 3 0 ⟨#[109, 111, 100]⟩ [t, (.mk 2 d ⟨#[]⟩ [])]) _ (fun b => True) _ (two_at (by show (⟨#[109, 111, 100]⟩ : ByteArray).size ≤ 1048576; decide) (by simp) V.out)).mono ?_
        rw [HM.out]
        rintro e w5 ⟨rfl, q⟩
        clear kx0 kx1 kx2 kx3
        clear lX
        clear kz0 kz1 kz2 kz3
        clear lZ
        replace q := (Ext.alloc _ _).trans q
        have B := Lib.hid (B.out.trans q)
        have X := Lib.hid (X.out.ext q)
        have V := Lib.hid (Tm.at_ext q V.out)
        have Z := Lib.hid (Z.out.ext q)
        clear q
        dsimp only
        clear hde hp
        by_cases hc : k = 0
        · subst hc
          by_cases hc : a1 = 0
          · subst hc
            by_cases hc : b1 = 0
            · subst hc
              have hq : q = n.tdiv d := by
                have := ev_two div_has HP.out (num_ev (by omega) (by omega)) HQ.out (by decide)
                rw [div_op hd0] at this
                exact (Prod.mk.inj this).1
              have hm : m = modI n d := by
                have := ev_two mod_has HP.out (num_ev (by omega) (by omega)) HM.out (by decide)
                rw [mod_op hd0] at this
                exact (Prod.mk.inj this).1
              obtain ⟨hn1, hn2⟩ := ev_bd HP.out
              clear HP HQ HM HD
              have g1 : n - q * d = n.tmod d := by rw [hq]; exact rest_eq n d
              have g2 := (tmod_abs n d).2 hd0
              have g3 : (modI n d).natAbs < d.natAbs := (tmod_abs _ d).2 hd0
              have f1 := sq_lt g2
              have f2 := sq_lt g3
              have f3 := rest_sign n d
              have f4 := mod_sign (n := n) hd0
              have f5 := mod_dvd (n := n) hd0
              rw [← g1] at f1 f3 g2
              rw [← hm] at f2 f4 f5 g3
              have f6 := mul_bd (a := d) (b := d) (by omega) (by omega) (by omega) (by omega)
              have f7 := mul_bd (a := n - q * d) (b := n) (by omega) (by omega) (by omega) (by omega)
              have f8 := mul_bd (a := m) (b := d) (by omega) (by omega) (by omega) (by omega)
              have f9 : -10000 ≤ q * d ∧ q * d ≤ 10000 := by omega
              have f10 : -999 ≤ m ∧ m ≤ 999 := by omega
              have f11 : -999 ≤ n - q * d ∧ n - q * d ≤ 999 := by omega
              have f12 : (d == 0) = false := by simpa using hd0
              have f13 : ((n - m).tmod d == 0) = true := by rw [f5]; rfl
              clear g1 g2 g3 hq hm
              obtain ⟨p1, p2⟩ := f1
              obtain ⟨p3, p4⟩ := f2
              obtain ⟨p5, p6⟩ := f6
              obtain ⟨p7, p8⟩ := f7
              obtain ⟨p9, p10⟩ := f8
              obtain ⟨p11, p12⟩ := f9
              obtain ⟨p13, p14⟩ := f10
              obtain ⟨p15, p16⟩ := f11
              go_wp2_with fail
              go_ret
              exact ⟨by first | rfl | exact retB (by simp [*]), B.out⟩
            · have hb : (b1 != 0) = true := by simpa using hc
              clear hc
              go_wp2_with fail
              go_ret
              exact ⟨by first | rfl | exact retB (by simp), B.out⟩
          · have ha : (a1 != 0) = true := by simpa using hc
            clear hc
            go_wp2_with fail
            go_ret
            exact ⟨by first | rfl | exact retB (by simp), B.out⟩
        · have hk : (k != 0) = true := by simpa using hc
          clear hc
          go_wp2_with fail
          go_ret
          exact ⟨by first | rfl | exact retB (by simp), B.out⟩
      · have hde : 1 + (mlen : Int) % 12 = d := by have := HD.out; unfold divI at this; rw [if_neg hp] at this; omega
        obtain ⟨q, a1, hQ⟩ : ∃ n k, evF (.mk 3 0 ⟨#[47, 47]⟩ [t, .mk 2 d ⟨#[]⟩ []]) = (n, k) := ⟨_, _, rfl⟩
        have HQ := Lib.hid hQ
        clear hQ
        obtain ⟨m, b1, hM⟩ : ∃ n k, evF (.mk 3 0 ⟨#[109, 111, 100]⟩ [t, .mk 2 d ⟨#[]⟩ []]) = (n, k) := ⟨_, _, rfl⟩
        have HM := Lib.hid hM
        clear hM
        obtain ⟨kx0, kx1, kx2, kx3, _, _, _, _⟩ := X.out
        have lX := X.out.lt
        go_wp2_with fail
        refine (implEvalArith (.mk 3 0 ⟨#[47, 47]⟩ [t, (.mk 2 d ⟨#[]⟩ [])]) _ (fun b => True) _ (two_at (by show (⟨#[47, 47]⟩ : ByteArray).size ≤ 1048576; decide) (by simp) (Tm.at_ext (Ext.alloc _ _) V.out))).mono ?_
        rw [HQ.out]
        rintro e w4 ⟨rfl, q⟩
        clear kx0 kx1 kx2 kx3
        clear lX
        have Z := Lib.hid ((BoxT.new w3 (.int .i64 2) (.int .i64 d) (.string ⟨#[]⟩) (.slice none 0 0) 25 rfl).ext ((Ext.alloc _ _).trans q))
        replace q := (Ext.alloc _ _).trans ((Ext.alloc _ _).trans q)
        have B := Lib.hid (B.out.trans q)
        have X := Lib.hid (X.out.ext q)
        have V := Lib.hid (Tm.at_ext q V.out)
        clear q
        dsimp only
        obtain ⟨kx0, kx1, kx2, kx3, _, _, _, _⟩ := X.out
        have lX := X.out.lt
        obtain ⟨kz0, kz1, kz2, kz3, _, _, _, _⟩ := Z.out
        have lZ := Z.out.lt
        go_wp2_with fail
        refine (implEvalArith (.mk 3 0 ⟨#[109, 111, 100]⟩ [t, (.mk 2 d ⟨#[]⟩ [])]) _ (fun b => True) _ (two_at (by show (⟨#[109, 111, 100]⟩ : ByteArray).size ≤ 1048576; decide) (by simp) V.out)).mono ?_
        rw [HM.out]
        rintro e w5 ⟨rfl, q⟩
        clear kx0 kx1 kx2 kx3
        clear lX
        clear kz0 kz1 kz2 kz3
        clear lZ
        replace q := (Ext.alloc _ _).trans q
        have B := Lib.hid (B.out.trans q)
        have X := Lib.hid (X.out.ext q)
        have V := Lib.hid (Tm.at_ext q V.out)
        have Z := Lib.hid (Z.out.ext q)
        clear q
        dsimp only
        clear hde hp
        by_cases hc : k = 0
        · subst hc
          by_cases hc : a1 = 0
          · subst hc
            by_cases hc : b1 = 0
            · subst hc
              have hq : q = n.tdiv d := by
                have := ev_two div_has HP.out (num_ev (by omega) (by omega)) HQ.out (by decide)
                rw [div_op hd0] at this
                exact (Prod.mk.inj this).1
              have hm : m = modI n d := by
                have := ev_two mod_has HP.out (num_ev (by omega) (by omega)) HM.out (by decide)
                rw [mod_op hd0] at this
                exact (Prod.mk.inj this).1
              obtain ⟨hn1, hn2⟩ := ev_bd HP.out
              clear HP HQ HM HD
              have g1 : n - q * d = n.tmod d := by rw [hq]; exact rest_eq n d
              have g2 := (tmod_abs n d).2 hd0
              have g3 : (modI n d).natAbs < d.natAbs := (tmod_abs _ d).2 hd0
              have f1 := sq_lt g2
              have f2 := sq_lt g3
              have f3 := rest_sign n d
              have f4 := mod_sign (n := n) hd0
              have f5 := mod_dvd (n := n) hd0
              rw [← g1] at f1 f3 g2
              rw [← hm] at f2 f4 f5 g3
              have f6 := mul_bd (a := d) (b := d) (by omega) (by omega) (by omega) (by omega)
              have f7 := mul_bd (a := n - q * d) (b := n) (by omega) (by omega) (by omega) (by omega)
              have f8 := mul_bd (a := m) (b := d) (by omega) (by omega) (by omega) (by omega)
              have f9 : -10000 ≤ q * d ∧ q * d ≤ 10000 := by omega
              have f10 : -999 ≤ m ∧ m ≤ 999 := by omega
              have f11 : -999 ≤ n - q * d ∧ n - q * d ≤ 999 := by omega
              have f12 : (d == 0) = false := by simpa using hd0
              have f13 : ((n - m).tmod d == 0) = true := by rw [f5]; rfl
              clear g1 g2 g3 hq hm
              obtain ⟨p1, p2⟩ := f1
              obtain ⟨p3, p4⟩ := f2
              obtain ⟨p5, p6⟩ := f6
              obtain ⟨p7, p8⟩ := f7
              obtain ⟨p9, p10⟩ := f8
              obtain ⟨p11, p12⟩ := f9
              obtain ⟨p13, p14⟩ := f10
              obtain ⟨p15, p16⟩ := f11
              go_wp2_with fail
              go_ret
              exact ⟨by first | rfl | exact retB (by simp [*]), B.out⟩
            · have hb : (b1 != 0) = true := by simpa using hc
              clear hc
              go_wp2_with fail
              go_ret
              exact ⟨by first | rfl | exact retB (by simp), B.out⟩
          · have ha : (a1 != 0) = true := by simpa using hc
            clear hc
            go_wp2_with fail
            go_ret
            exact ⟨by first | rfl | exact retB (by simp), B.out⟩
        · have hk : (k != 0) = true := by simpa using hc
          clear hc
          go_wp2_with fail
          go_ret
          exact ⟨by first | rfl | exact retB (by simp), B.out⟩
    · go_enter Try.func3, Try.ntmps3
      go_wp2_with fail
      go_ret
      exact ⟨rfl, Below.refl _ _⟩
  · go_enter Try.func3, Try.ntmps3
    go_wp2_with fail
    go_ret
    exact ⟨rfl, Below.refl _ _⟩


set_option maxRecDepth 100000 in
theorem lifted (os : Os) (started : os.Started) (H : Type) (enc : TypeId × Value → H) :
    ReturnsInHanded {} Try.checked os 3 .any (Rows.fnDivModSpec.pre6 enc Try.prog Try.f3 Rows.fnDivModRow.domain false) (Rows.fnDivModSpec.post enc Try.prog Try.f3 false true false false) := by
  refine returnsInHanded_of_change (C := Try.checked) own started (by kernel_rfl) Try.func3
    (ChangeSpec.witness6 (enc := enc) (C := Try.checked) false ⟨#[], #[.slice none 0 0, .slice none 0 0], []⟩ 8 (by kernel_rfl) (by kernel_rfl) (by kernel_rfl) (by kernel_rfl)) ?_
  intro W base args ds gs before hval0 hW hcnd _
  have hval : ∀ (j : Nat) t v, Try.f3.params[j]? = some t → args[j]? = some v → Value.okWide Try.prog W .any base t v := hval0
  have hW' := hW
  obtain ⟨p, q, hA0, hV, rfl, hfz, hnd⟩ := hW
  have hA : DataW.TrodAll enc Try.prog W 0 (fun _ => true) true Try.f3.params.toList args.toList ds p := hA0
  rw [Try.params3] at hA hval
  obtain ⟨v0, vs0, d0, ds0, p0, q0, hargs, rfl, rfl, h0, r0⟩ := trodAll_cons hA
  obtain ⟨v1, vs1, d1, ds1, p1, q1, rfl, rfl, rfl, h1, r1⟩ := trodAll_cons r0
  obtain ⟨rfl, rfl, rfl⟩ := trodAll_nil r1
  obtain rfl : args = #[v0, v1] := by cases args; simp_all
  obtain ⟨rfl, rfl⟩ := trodVars_none hV
  have k0 := h0
  have lt0 : ∀ x ∈ p0, x.block < W.heap.size := by obtain ⟨m, hm⟩ := k0; exact DataW.trod_lt m _ _ _ hm
  obtain ⟨a0, len0, cap0, rfl⟩ := okWide_slice Try.underlying22 (hval 0 22 v0 rfl rfl)
  have w0 := bytes_of_trod h0
  have k1 := h1
  have lt1 : ∀ x ∈ p1, x.block < W.heap.size := by obtain ⟨m, hm⟩ := k1; exact DataW.trod_lt m _ _ _ hm
  obtain ⟨a1, len1, cap1, rfl⟩ := okWide_slice Try.underlying22 (hval 1 22 v1 rfl rfl)
  have w1 := bytes_of_trod h1
  clear hA0 hval0 hval
  refine (walk _ _ W w0 w1).mono fun e W' ⟨he, bel⟩ => ?_
  subst he
  exact ⟨_, rfl, _, _, _, [], _, [], hW', trodAll_mk1 (shut_bool Try.underlying4 _), (trodAll_cons_mk (Below.trod laidOut (by kernel_rfl) (of_decide_eq_true (by kernel_rfl)) k0 bel lt0) (trodAll_cons_mk (Below.trod laidOut (by kernel_rfl) (of_decide_eq_true (by kernel_rfl)) k1 bel lt1) trodAll_mk0)), rfl, bel.frame _, fun h => by cases h⟩

set_option maxRecDepth 100000 in
theorem over : Rows.fnDivModRow.holds Try.pinned (OpenSpec.ofChange Rows.fnDivModSpec) :=
  OpenClaim.holds_of_wide 3 Try.f3 rfl rfl rfl rfl rfl rfl rfl ⟨rfl, rfl, rfl, rfl, rfl⟩ rfl rfl rfl rfl rfl (by kernel_rfl) Try.func3 (by kernel_rfl)
    (of_decide_eq_true (by kernel_rfl)) (by unfold Func.isWrapper; first | (rw [if_pos (by decide +kernel)]; kernel_rfl) | (rw [if_neg (by decide +kernel)]; exact ⟨rfl, rfl⟩))
    (fun os started H enc _ => lifted os started H enc)

/-- the statement -/
theorem proved : Rows.FnDivModSaid := over
end Go.Proofs.Ytagaciadcgijoaa.fnDivMod
