/-
  For every two codes FnArgGoal returns true: arg finds arguments.
-/
import Derived.Test.YtdelhgodhkbjdaaRows
import Derived.Test.YtdelhgodhkbjdaaMg50
import Derived.Test.YtdelhgodhkbjdaaMg51
import Derived.Test.YtdelhgodhkbjdaaMg49
import Derived.Test.YtdelhgodhkbjdaaMg14
import Derived.Test.YtdelhgodhkbjdaaMg44
import Derived.IntWalk
import Derived.BigQuiet
import Derived.ProofKit
import Derived.OpenShut
import Derived.ShutString
namespace Go.Proofs.Ytdelhgodhkbjdaa.fnArgGoal
open Go.ChangeShapes Go.WideShapes Go.ChangeAt Go.RowKit
open Go.ChangeMaps (open_string shut_string)
set_option linter.unusedVariables false

theorem own : ownKnob Try.prog.godebug = none := by kernel_rfl
theorem laidOut : laidOutB Try.prog = true := by kernel_rfl

abbrev nArg : ByteArray := ⟨#[97, 114, 103]⟩
theorem nArg_l : nArg.toList = [97, 114, 103] := by decide +kernel
theorem cbR_len (t : Tm) : (cbR t).length ≤ 1048576 := by
  unfold cbR
  split
  · have := bdsU_len (callR t.name.toList t.kids).2 26
    omega
  · simp
theorem occ_kid {m : Int} {t u : Tm} {j : Nat} (h : t.kids[j]? = some u) (ho : occV m u) : occV m t := by
  obtain ⟨k, n, s, ks⟩ := t
  exact .inr (occL_mem h ho)
theorem arg_codes {t : Tm} {n : Int} (h : validF (.mk 3 0 nArg [intT n, t, varT 25]) = true) (h1 : 1 ≤ n) :
    validF t = true ∧ (t.kind = 1 → cbN (.mk 3 0 nArg [intT n, t, varT 25]) = 2 ∧ cbR (.mk 3 0 nArg [intT n, t, varT 25]) = []) ∧
    (t.kind ≠ 1 → t.kids.length = 0 → cbN (.mk 3 0 nArg [intT n, t, varT 25]) = 3 ∧ cbR (.mk 3 0 nArg [intT n, t, varT 25]) = []) ∧
    (t.kind ≠ 1 → t.kids.length ≠ 0 → (t.kids.length : Int) < n → cbN (.mk 3 0 nArg [intT n, t, varT 25]) = 1 ∧ cbR (.mk 3 0 nArg [intT n, t, varT 25]) = []) ∧
    (∀ u, t.kind ≠ 1 → n ≤ t.kids.length → t.kids[(n - 1).toNat]? = some u → hasI (tvarsF t) 25 = false → cbN (.mk 3 0 nArg [intT n, t, varT 25]) = 0 ∧ cbR (.mk 3 0 nArg [intT n, t, varT 25]) = [⟨25, u⟩]) := by
  have hv : validF t = true := valid_kid h (by simp [Tm.kids])
  have hg := gb_of h (by rw [nArg_l]; rfl)
  have hc : callR nArg.toList [intT n, t, varT 25] = argR (intT n) t (varT 25) := by rw [nArg_l]; simp [callR, kidAt]
  have hk3 : t.kind ≠ 1 → t.kids.length ≠ 0 → t.kind = 3 := by
    intro a b
    have hs := valid_shape hv
    obtain ⟨k, m, s, ks⟩ := t
    rcases shape_own hs with ⟨rfl, h2⟩ | ⟨rfl, h2⟩ | ⟨rfl, h2⟩
    · exact absurd rfl a
    · simp only [shapeF, Bool.and_eq_true] at hs
      have h3 := hs.1.2
      unfold ownF at h3
      simp only [Tm.kids] at b
      simp [b] at h3
    · rfl
  have hi : (intT n).kind = 2 := rfl
  refine ⟨hv, fun a => ?_, fun a b => ?_, fun a b c => ?_, fun u a b hu hn => ?_⟩
  · exact cb_none hg (by rw [hc]; unfold argR; rw [if_pos (.inr a)])
  · exact cb_none hg (by rw [hc]; unfold argR; rw [if_neg (by rw [hi]; rintro (h | h); cases h; exact a h), if_pos (.inr (.inr b))])
  · refine cb_none hg ?_
    rw [hc]; unfold argR
    rw [if_neg (by rw [hi]; rintro (h | h); cases h; exact a h), if_neg (by rw [hi]; rintro (h | h | h); exact h rfl; exact h (hk3 a b); exact b h), if_pos (by show ¬ (1 ≤ n ∧ n ≤ _); omega)]
  · have hlen : t.kids.length ≠ 0 := by omega
    have hvu : validF u = true := valid_kid hv (List.mem_of_getElem? hu)
    have ho : ¬ occV 25 u := fun h => no_occ hv hn (occ_kid hu h)
    have huu : uniR (varT 25) u = (true, known0.set 25 u) := uniR_var ho
    obtain ⟨a1, a2⟩ := all_set (shape_kind (valid_shape hvu)) ho
    have hf : fits u 0 1 = true := (fits_valid (shape_loc (valid_shape hvu))).trans hvu
    obtain ⟨e1, e2⟩ := cb_of hg (r := (0, known0.set 25 u)) (by
      rw [hc]; unfold argR
      rw [if_neg (by rw [hi]; rintro (h | h); cases h; exact a h), if_neg (by rw [hi]; rintro (h | h | h); exact h rfl; exact h (hk3 a hlen); exact hlen h), if_neg (by show ¬ ¬ (1 ≤ n ∧ n ≤ _); omega)]
      rw [show (intT n).n = n from rfl, kidAt_get hu, huu]
      rfl)
    rw [e1, e2]
    simp [a1, a2, hf]

set_option maxRecDepth 100000 in
set_option maxHeartbeats 8000000 in
theorem walk (v0 : Value) (v1 : Value) (w : World) (hv0 : BytesAt w v0) (hv1 : BytesAt w v1) :
    Calls Try.prog 6 #[v0, v1] w fun e w' => e = .returned (.bool true) ∧ Below w.heap.size w w' := by
  have HV := Lib.hid hv0
  obtain ⟨a, len, cap, rfl, h1, h2, h3⟩ := hv0
  obtain ⟨ma, mlen, mcap, rfl, h1m, h2m, h3m⟩ := hv1
  clear h3 h3m
  by_cases hl : len ≤ 1048576
  · by_cases hml : mlen ≤ 1048576
    · obtain ⟨m, hm⟩ : ∃ m : Nat, mlen % 5 = m := ⟨_, rfl⟩
      have hm5 : m ≤ 4 := by omega
      have hmt : (mlen : Int).tmod 5 = (m : Int) := by rw [← hm]; exact Int.ofNat_tmod mlen 5
      go_enter Try.func6, Try.ntmps6
      go_wp2_with fail
      refine (drawTermValid _ _ HV.out).mono ?_
      rintro e w1 ⟨t, v1, rfl, hv1, q⟩
      obtain ⟨a1, c1, rfl⟩ := at_form hv1
      have B := Lib.hid q
      have V := Lib.hid hv1
      clear hv1 q
      have e0 := Ext.alloc w1 (.cells #[.int .i64 t.kind, .int .i64 t.n, .string t.name, .slice a1 t.kids.length c1] 25)
      have e1 := Ext.alloc (w1.alloc (.cells #[.int .i64 t.kind, .int .i64 t.n, .string t.name, .slice a1 t.kids.length c1] 25)) (.cells #[.int .i64 2, .int .i64 (1 + (m : Int)), .string ⟨#[]⟩, .slice none 0 0, .int .i64 t.kind, .int .i64 t.n, .string t.name, .slice a1 t.kids.length c1, .int .i64 1, .int .i64 25, .string ⟨#[]⟩, .slice none 0 0] 25)
      have e2 := Ext.alloc ((w1.alloc (.cells #[.int .i64 t.kind, .int .i64 t.n, .string t.name, .slice a1 t.kids.length c1] 25)).alloc (.cells #[.int .i64 2, .int .i64 (1 + (m : Int)), .string ⟨#[]⟩, .slice none 0 0, .int .i64 t.kind, .int .i64 t.n, .string t.name, .slice a1 t.kids.length c1, .int .i64 1, .int .i64 25, .string ⟨#[]⟩, .slice none 0 0] 25)) (.cells #[.int .i64 3, .int .i64 0, .string nArg, .slice (some ⟨w1.heap.size + 1, 0, none⟩) 3 3] 25)
      have y0 := ((BoxT.new w1 (.int .i64 t.kind) (.int .i64 t.n) (.string t.name) (.slice a1 t.kids.length c1) 25 (b := w1.heap.size) rfl).ext (e1.trans e2))
      have y1' : Tm.at (fun _ => True) ((w1.alloc (.cells #[.int .i64 t.kind, .int .i64 t.n, .string t.name, .slice a1 t.kids.length c1] 25)).alloc (.cells #[.int .i64 2, .int .i64 (1 + (m : Int)), .string ⟨#[]⟩, .slice none 0 0, .int .i64 t.kind, .int .i64 t.n, .string t.name, .slice a1 t.kids.length c1, .int .i64 1, .int .i64 25, .string ⟨#[]⟩, .slice none 0 0] 25)) (.mk 3 0 nArg [intT (1 + (m : Int)), t, varT 25]) (.agg #[.int .i64 3, .int .i64 0, .string nArg, .slice (some ⟨(w1.alloc (.cells #[.int .i64 t.kind, .int .i64 t.n, .string t.name, .slice a1 t.kids.length c1] 25)).heap.size, 0, none⟩) 3 3]) := struct_at (S := fun _ => True) nArg 25 (by decide +kernel) (by simp) (flatc (Tm.at_mono (fun _ _ => trivial) (Agree.refl _) (int_at (S := fun _ => True) (1 + (m : Int)))) (flatc (Tm.at_mono (fun _ _ => trivial) (Agree.refl _) (Tm.at_ext e0 V.out)) (flat1 (Tm.at_mono (fun _ _ => trivial) (Agree.refl _) (var_at (S := fun _ => True) 25)))))
      rw [show (w1.alloc (.cells #[.int .i64 t.kind, .int .i64 t.n, .string t.name, .slice a1 t.kids.length c1] 25)).heap.size = w1.heap.size + 1 by simp] at y1'
      have y1 := Tm.at_ext e2 y1'
      clear y1'
      have y2 := (BoxT.new ((w1.alloc (.cells #[.int .i64 t.kind, .int .i64 t.n, .string t.name, .slice a1 t.kids.length c1] 25)).alloc (.cells #[.int .i64 2, .int .i64 (1 + (m : Int)), .string ⟨#[]⟩, .slice none 0 0, .int .i64 t.kind, .int .i64 t.n, .string t.name, .slice a1 t.kids.length c1, .int .i64 1, .int .i64 25, .string ⟨#[]⟩, .slice none 0 0] 25)) (.int .i64 3) (.int .i64 0) (.string nArg) (.slice (some ⟨w1.heap.size + 1, 0, none⟩) 3 3) 25 (b := w1.heap.size + 2) (by simp))
      have q := ((e0.trans e1).trans e2)
      have B := Lib.hid (B.out.trans q)
      have V := Lib.hid (Tm.at_ext q V.out)
      have X := Lib.hid y0
      have E := Lib.hid y1
      have Z := Lib.hid y2
      clear q e0 e1 e2 y0 y1 y2
      obtain ⟨r1, hr1⟩ : ∃ r, cbR (.mk 3 0 nArg [intT (1 + (m : Int)), t, varT 25]) = r := ⟨_, rfl⟩
      obtain ⟨n1, hn1⟩ : ∃ n, cbN (.mk 3 0 nArg [intT (1 + (m : Int)), t, varT 25]) = n := ⟨_, rfl⟩
      have HRL : Hid (r1.length ≤ 1048576) := Lib.hid (by rw [← hr1]; exact cbR_len _)
      have HR1 := Lib.hid hr1
      have HN1 := Lib.hid hn1
      have hnn : (n1 != n1) = false := by simp
      cases hval : validF (.mk 3 0 nArg [intT (1 + (m : Int)), t, varT 25])
      · have HVAL := Lib.hid hval
        clear hval hr1 hn1
        obtain ⟨kz0, kz1, kz2, kz3, _, _, _, _⟩ := Z.out
        go_wp2_with fail
        refine (calls_cb (implCallBuiltin _ _ _ _ E.out) HR1.out HN1.out).mono ?_
        rintro e w2 ⟨a3, c3, rfl, ho, q⟩
        clear kz0 kz1 kz2 kz3
        have B := Lib.hid (B.out.trans q)
        have V := Lib.hid (Tm.at_ext q V.out)
        have X := Lib.hid (X.out.ext q)
        have E := Lib.hid (Tm.at_ext q E.out)
        have Z := Lib.hid (Z.out.ext q)
        clear q
        have P1 := Lib.hid ho
        clear ho
        obtain ⟨kz0, kz1, kz2, kz3, _, _, _, _⟩ := Z.out
        go_wp2_with fail
        refine (calls_cb (specCallBuiltin _ _ _ _ E.out) HR1.out HN1.out).mono ?_
        rintro e w3 ⟨a4, c4, rfl, ho, q⟩
        clear kz0 kz1 kz2 kz3
        have B := Lib.hid (B.out.trans q)
        have V := Lib.hid (Tm.at_ext q V.out)
        have X := Lib.hid (X.out.ext q)
        have E := Lib.hid (Tm.at_ext q E.out)
        have Z := Lib.hid (Z.out.ext q)
        have P1 := Lib.hid (OwnB.ext P1.out q)
        clear q
        have P2 := Lib.hid ho
        clear ho
        obtain ⟨kz0, kz1, kz2, kz3, _, _, _, _⟩ := Z.out
        obtain ⟨kx0, kx1, kx2, kx3, _, _, _, _⟩ := X.out
        go_wp2_with fail
        refine (lawspgBinds _ _ _ _ _ _ (OwnB.sl P1.out HRL.out) (OwnB.sl P2.out HRL.out)).mono ?_
        rintro e w4 ⟨rfl, q⟩
        clear kz0 kz1 kz2 kz3
        clear kx0 kx1 kx2 kx3
        have B := Lib.hid (B.out.trans q)
        have V := Lib.hid (Tm.at_ext q V.out)
        have X := Lib.hid (X.out.ext q)
        have E := Lib.hid (Tm.at_ext q E.out)
        have Z := Lib.hid (Z.out.ext q)
        have P1 := Lib.hid (OwnB.ext P1.out q)
        have P2 := Lib.hid (OwnB.ext P2.out q)
        clear q
        obtain ⟨kz0, kz1, kz2, kz3, _, _, _, _⟩ := Z.out
        obtain ⟨kx0, kx1, kx2, kx3, _, _, _, _⟩ := X.out
        go_wp2_with fail
        refine (calls_bo (implTermValid _ _ _ _ E.out) HVAL.out).mono ?_
        rintro e w5 ⟨rfl, q⟩
        clear kz0 kz1 kz2 kz3
        clear kx0 kx1 kx2 kx3
        have B := Lib.hid (B.out.trans q)
        have V := Lib.hid (Tm.at_ext q V.out)
        have X := Lib.hid (X.out.ext q)
        have E := Lib.hid (Tm.at_ext q E.out)
        have Z := Lib.hid (Z.out.ext q)
        have P1 := Lib.hid (OwnB.ext P1.out q)
        have P2 := Lib.hid (OwnB.ext P2.out q)
        clear q
        go_wp2_with fail
        refine (lawspgBinds _ _ _ _ _ _ (OwnB.sl P1.out HRL.out) (OwnB.sl P2.out HRL.out)).mono ?_
        rintro e w6 ⟨rfl, q⟩
        have B := Lib.hid (B.out.trans q)
        have V := Lib.hid (Tm.at_ext q V.out)
        have X := Lib.hid (X.out.ext q)
        have E := Lib.hid (Tm.at_ext q E.out)
        have Z := Lib.hid (Z.out.ext q)
        have P1 := Lib.hid (OwnB.ext P1.out q)
        have P2 := Lib.hid (OwnB.ext P2.out q)
        clear q
        go_wp2_with fail
        go_ret
        exact ⟨rfl, B.out⟩
      · obtain ⟨hvt, q1, q2, q3, q4⟩ := arg_codes hval (by omega)
        have HVAL := Lib.hid hval
        clear hval
        rw [hr1, hn1] at q1 q2 q3 q4
        clear hr1 hn1
        cases hn : hasI (tvarsF t) 25
        · have HN := Lib.hid hn
          by_cases hk : t.kind = 1
          · obtain ⟨rfl, rfl⟩ := q1 hk
            have hk' : (t.kind == 1) = true := by simpa using hk
            clear q1 q2 q3 q4 hn hk
            obtain ⟨kz0, kz1, kz2, kz3, _, _, _, _⟩ := Z.out
            go_wp2_with fail
            refine (calls_cb (implCallBuiltin _ _ _ _ E.out) HR1.out HN1.out).mono ?_
            rintro e w2 ⟨a3, c3, rfl, ho, q⟩
            clear kz0 kz1 kz2 kz3
            have B := Lib.hid (B.out.trans q)
            have V := Lib.hid (Tm.at_ext q V.out)
            have X := Lib.hid (X.out.ext q)
            have E := Lib.hid (Tm.at_ext q E.out)
            have Z := Lib.hid (Z.out.ext q)
            clear q
            have P1 := Lib.hid ho
            clear ho
            obtain ⟨kz0, kz1, kz2, kz3, _, _, _, _⟩ := Z.out
            go_wp2_with fail
            refine (calls_cb (specCallBuiltin _ _ _ _ E.out) HR1.out HN1.out).mono ?_
            rintro e w3 ⟨a4, c4, rfl, ho, q⟩
            clear kz0 kz1 kz2 kz3
            have B := Lib.hid (B.out.trans q)
            have V := Lib.hid (Tm.at_ext q V.out)
            have X := Lib.hid (X.out.ext q)
            have E := Lib.hid (Tm.at_ext q E.out)
            have Z := Lib.hid (Z.out.ext q)
            have P1 := Lib.hid (OwnB.ext P1.out q)
            clear q
            have P2 := Lib.hid ho
            clear ho
            obtain ⟨kz0, kz1, kz2, kz3, _, _, _, _⟩ := Z.out
            obtain ⟨kx0, kx1, kx2, kx3, _, _, _, _⟩ := X.out
            go_wp2_with fail
            refine (lawspgBinds _ _ _ _ _ _ (OwnB.sl P1.out HRL.out) (OwnB.sl P2.out HRL.out)).mono ?_
            rintro e w4 ⟨rfl, q⟩
            clear kz0 kz1 kz2 kz3
            clear kx0 kx1 kx2 kx3
            have B := Lib.hid (B.out.trans q)
            have V := Lib.hid (Tm.at_ext q V.out)
            have X := Lib.hid (X.out.ext q)
            have E := Lib.hid (Tm.at_ext q E.out)
            have Z := Lib.hid (Z.out.ext q)
            have P1 := Lib.hid (OwnB.ext P1.out q)
            have P2 := Lib.hid (OwnB.ext P2.out q)
            clear q
            obtain ⟨kz0, kz1, kz2, kz3, _, _, _, _⟩ := Z.out
            obtain ⟨kx0, kx1, kx2, kx3, _, _, _, _⟩ := X.out
            go_wp2_with fail
            refine (calls_bo (implTermValid _ _ _ _ E.out) HVAL.out).mono ?_
            rintro e w5 ⟨rfl, q⟩
            clear kz0 kz1 kz2 kz3
            clear kx0 kx1 kx2 kx3
            have B := Lib.hid (B.out.trans q)
            have V := Lib.hid (Tm.at_ext q V.out)
            have X := Lib.hid (X.out.ext q)
            have E := Lib.hid (Tm.at_ext q E.out)
            have Z := Lib.hid (Z.out.ext q)
            have P1 := Lib.hid (OwnB.ext P1.out q)
            have P2 := Lib.hid (OwnB.ext P2.out q)
            clear q
            obtain ⟨kx0, kx1, kx2, kx3, _, _, _, _⟩ := X.out
            go_wp2_with fail
            refine (implTermVars t _ _ _ V.out).mono ?_
            rintro e w6 ⟨v5, rfl, hI, q⟩
            clear kx0 kx1 kx2 kx3
            have B := Lib.hid (B.out.trans q)
            have V := Lib.hid (Tm.at_ext q V.out)
            have X := Lib.hid (X.out.ext q)
            have E := Lib.hid (Tm.at_ext q E.out)
            have Z := Lib.hid (Z.out.ext q)
            have P1 := Lib.hid (OwnB.ext P1.out q)
            have P2 := Lib.hid (OwnB.ext P2.out q)
            clear q
            obtain ⟨kx0, kx1, kx2, kx3, _, _, _, _⟩ := X.out
            go_wp2_with fail
            refine (calls_eqw (lawspgIn _ _ _ _ (IntI.ints hI)) HN.out).mono ?_
            rintro e w7 ⟨rfl, q⟩
            clear kx0 kx1 kx2 kx3
            have B := Lib.hid (B.out.trans q)
            have V := Lib.hid (Tm.at_ext q V.out)
            have X := Lib.hid (X.out.ext q)
            have E := Lib.hid (Tm.at_ext q E.out)
            have Z := Lib.hid (Z.out.ext q)
            have P1 := Lib.hid (OwnB.ext P1.out q)
            have P2 := Lib.hid (OwnB.ext P2.out q)
            clear q
            obtain ⟨kx0, kx1, kx2, kx3, _, _, _, _⟩ := X.out
            go_wp2_with fail
            go_ret
            exact ⟨rfl, B.out⟩
          · have hk' : (t.kind == 1) = false := by simpa using hk
            by_cases hz : t.kids.length = 0
            · obtain ⟨rfl, rfl⟩ := q2 hk hz
              have hz' : ((t.kids.length : Int) == 0) = true := by simp [hz]
              have HZ := Lib.hid hz
              clear q1 q2 q3 q4 hn hk hz
              obtain ⟨kz0, kz1, kz2, kz3, _, _, _, _⟩ := Z.out
              go_wp2_with fail
              refine (calls_cb (implCallBuiltin _ _ _ _ E.out) HR1.out HN1.out).mono ?_
              rintro e w2 ⟨a3, c3, rfl, ho, q⟩
              clear kz0 kz1 kz2 kz3
              have B := Lib.hid (B.out.trans q)
              have V := Lib.hid (Tm.at_ext q V.out)
              have X := Lib.hid (X.out.ext q)
              have E := Lib.hid (Tm.at_ext q E.out)
              have Z := Lib.hid (Z.out.ext q)
              clear q
              have P1 := Lib.hid ho
              clear ho
              obtain ⟨kz0, kz1, kz2, kz3, _, _, _, _⟩ := Z.out
              go_wp2_with fail
              refine (calls_cb (specCallBuiltin _ _ _ _ E.out) HR1.out HN1.out).mono ?_
              rintro e w3 ⟨a4, c4, rfl, ho, q⟩
              clear kz0 kz1 kz2 kz3
              have B := Lib.hid (B.out.trans q)
              have V := Lib.hid (Tm.at_ext q V.out)
              have X := Lib.hid (X.out.ext q)
              have E := Lib.hid (Tm.at_ext q E.out)
              have Z := Lib.hid (Z.out.ext q)
              have P1 := Lib.hid (OwnB.ext P1.out q)
              clear q
              have P2 := Lib.hid ho
              clear ho
              obtain ⟨kz0, kz1, kz2, kz3, _, _, _, _⟩ := Z.out
              obtain ⟨kx0, kx1, kx2, kx3, _, _, _, _⟩ := X.out
              go_wp2_with fail
              refine (lawspgBinds _ _ _ _ _ _ (OwnB.sl P1.out HRL.out) (OwnB.sl P2.out HRL.out)).mono ?_
              rintro e w4 ⟨rfl, q⟩
              clear kz0 kz1 kz2 kz3
              clear kx0 kx1 kx2 kx3
              have B := Lib.hid (B.out.trans q)
              have V := Lib.hid (Tm.at_ext q V.out)
              have X := Lib.hid (X.out.ext q)
              have E := Lib.hid (Tm.at_ext q E.out)
              have Z := Lib.hid (Z.out.ext q)
              have P1 := Lib.hid (OwnB.ext P1.out q)
              have P2 := Lib.hid (OwnB.ext P2.out q)
              clear q
              obtain ⟨kz0, kz1, kz2, kz3, _, _, _, _⟩ := Z.out
              obtain ⟨kx0, kx1, kx2, kx3, _, _, _, _⟩ := X.out
              go_wp2_with fail
              refine (calls_bo (implTermValid _ _ _ _ E.out) HVAL.out).mono ?_
              rintro e w5 ⟨rfl, q⟩
              clear kz0 kz1 kz2 kz3
              clear kx0 kx1 kx2 kx3
              have B := Lib.hid (B.out.trans q)
              have V := Lib.hid (Tm.at_ext q V.out)
              have X := Lib.hid (X.out.ext q)
              have E := Lib.hid (Tm.at_ext q E.out)
              have Z := Lib.hid (Z.out.ext q)
              have P1 := Lib.hid (OwnB.ext P1.out q)
              have P2 := Lib.hid (OwnB.ext P2.out q)
              clear q
              obtain ⟨kx0, kx1, kx2, kx3, _, _, _, _⟩ := X.out
              go_wp2_with fail
              refine (implTermVars t _ _ _ V.out).mono ?_
              rintro e w6 ⟨v5, rfl, hI, q⟩
              clear kx0 kx1 kx2 kx3
              have B := Lib.hid (B.out.trans q)
              have V := Lib.hid (Tm.at_ext q V.out)
              have X := Lib.hid (X.out.ext q)
              have E := Lib.hid (Tm.at_ext q E.out)
              have Z := Lib.hid (Z.out.ext q)
              have P1 := Lib.hid (OwnB.ext P1.out q)
              have P2 := Lib.hid (OwnB.ext P2.out q)
              clear q
              obtain ⟨kx0, kx1, kx2, kx3, _, _, _, _⟩ := X.out
              go_wp2_with fail
              refine (calls_eqw (lawspgIn _ _ _ _ (IntI.ints hI)) HN.out).mono ?_
              rintro e w7 ⟨rfl, q⟩
              clear kx0 kx1 kx2 kx3
              have B := Lib.hid (B.out.trans q)
              have V := Lib.hid (Tm.at_ext q V.out)
              have X := Lib.hid (X.out.ext q)
              have E := Lib.hid (Tm.at_ext q E.out)
              have Z := Lib.hid (Z.out.ext q)
              have P1 := Lib.hid (OwnB.ext P1.out q)
              have P2 := Lib.hid (OwnB.ext P2.out q)
              clear q
              obtain ⟨kx0, kx1, kx2, kx3, _, _, _, _⟩ := X.out
              go_wp2_with fail
              go_ret
              exact ⟨rfl, B.out⟩
            · have hz' : ((t.kids.length : Int) == 0) = false := by simp; intro h; exact hz (by simp [h])
              by_cases hgt : (t.kids.length : Int) < 1 + (m : Int)
              · obtain ⟨rfl, rfl⟩ := q3 hk hz hgt
                clear q1 q2 q3 q4 hn hk hz
                obtain ⟨kz0, kz1, kz2, kz3, _, _, _, _⟩ := Z.out
                go_wp2_with fail
                refine (calls_cb (implCallBuiltin _ _ _ _ E.out) HR1.out HN1.out).mono ?_
                rintro e w2 ⟨a3, c3, rfl, ho, q⟩
                clear kz0 kz1 kz2 kz3
                have B := Lib.hid (B.out.trans q)
                have V := Lib.hid (Tm.at_ext q V.out)
                have X := Lib.hid (X.out.ext q)
                have E := Lib.hid (Tm.at_ext q E.out)
                have Z := Lib.hid (Z.out.ext q)
                clear q
                have P1 := Lib.hid ho
                clear ho
                obtain ⟨kz0, kz1, kz2, kz3, _, _, _, _⟩ := Z.out
                go_wp2_with fail
                refine (calls_cb (specCallBuiltin _ _ _ _ E.out) HR1.out HN1.out).mono ?_
                rintro e w3 ⟨a4, c4, rfl, ho, q⟩
                clear kz0 kz1 kz2 kz3
                have B := Lib.hid (B.out.trans q)
                have V := Lib.hid (Tm.at_ext q V.out)
                have X := Lib.hid (X.out.ext q)
                have E := Lib.hid (Tm.at_ext q E.out)
                have Z := Lib.hid (Z.out.ext q)
                have P1 := Lib.hid (OwnB.ext P1.out q)
                clear q
                have P2 := Lib.hid ho
                clear ho
                obtain ⟨kz0, kz1, kz2, kz3, _, _, _, _⟩ := Z.out
                obtain ⟨kx0, kx1, kx2, kx3, _, _, _, _⟩ := X.out
                go_wp2_with fail
                refine (lawspgBinds _ _ _ _ _ _ (OwnB.sl P1.out HRL.out) (OwnB.sl P2.out HRL.out)).mono ?_
                rintro e w4 ⟨rfl, q⟩
                clear kz0 kz1 kz2 kz3
                clear kx0 kx1 kx2 kx3
                have B := Lib.hid (B.out.trans q)
                have V := Lib.hid (Tm.at_ext q V.out)
                have X := Lib.hid (X.out.ext q)
                have E := Lib.hid (Tm.at_ext q E.out)
                have Z := Lib.hid (Z.out.ext q)
                have P1 := Lib.hid (OwnB.ext P1.out q)
                have P2 := Lib.hid (OwnB.ext P2.out q)
                clear q
                obtain ⟨kz0, kz1, kz2, kz3, _, _, _, _⟩ := Z.out
                obtain ⟨kx0, kx1, kx2, kx3, _, _, _, _⟩ := X.out
                go_wp2_with fail
                refine (calls_bo (implTermValid _ _ _ _ E.out) HVAL.out).mono ?_
                rintro e w5 ⟨rfl, q⟩
                clear kz0 kz1 kz2 kz3
                clear kx0 kx1 kx2 kx3
                have B := Lib.hid (B.out.trans q)
                have V := Lib.hid (Tm.at_ext q V.out)
                have X := Lib.hid (X.out.ext q)
                have E := Lib.hid (Tm.at_ext q E.out)
                have Z := Lib.hid (Z.out.ext q)
                have P1 := Lib.hid (OwnB.ext P1.out q)
                have P2 := Lib.hid (OwnB.ext P2.out q)
                clear q
                obtain ⟨kx0, kx1, kx2, kx3, _, _, _, _⟩ := X.out
                go_wp2_with fail
                refine (implTermVars t _ _ _ V.out).mono ?_
                rintro e w6 ⟨v5, rfl, hI, q⟩
                clear kx0 kx1 kx2 kx3
                have B := Lib.hid (B.out.trans q)
                have V := Lib.hid (Tm.at_ext q V.out)
                have X := Lib.hid (X.out.ext q)
                have E := Lib.hid (Tm.at_ext q E.out)
                have Z := Lib.hid (Z.out.ext q)
                have P1 := Lib.hid (OwnB.ext P1.out q)
                have P2 := Lib.hid (OwnB.ext P2.out q)
                clear q
                obtain ⟨kx0, kx1, kx2, kx3, _, _, _, _⟩ := X.out
                go_wp2_with fail
                refine (calls_eqw (lawspgIn _ _ _ _ (IntI.ints hI)) HN.out).mono ?_
                rintro e w7 ⟨rfl, q⟩
                clear kx0 kx1 kx2 kx3
                have B := Lib.hid (B.out.trans q)
                have V := Lib.hid (Tm.at_ext q V.out)
                have X := Lib.hid (X.out.ext q)
                have E := Lib.hid (Tm.at_ext q E.out)
                have Z := Lib.hid (Z.out.ext q)
                have P1 := Lib.hid (OwnB.ext P1.out q)
                have P2 := Lib.hid (OwnB.ext P2.out q)
                clear q
                obtain ⟨kx0, kx1, kx2, kx3, _, _, _, _⟩ := X.out
                have g3 := cell_regrown kx3
                have hd : decide ((t.kids.length : Int) < 1 + (m : Int)) = true := by simpa using hgt
                clear hgt
                go_wp2_with fail
                refine region_ext (by kernel_rfl) (by kernel_rfl) ?_
                repeat (go_big_quiet_step (fail))
                refine wpQuiet_nil ?_
                intro wq eq
                go_wp2_with fail
                go_ret
                exact ⟨rfl, B.out.trans eq⟩
              · obtain ⟨u, hu⟩ := getk (show m < t.kids.length by omega)
                obtain ⟨rfl, rfl⟩ := q4 u hk (by omega) (by rw [show (1 + (m : Int) - 1).toNat = m by omega]; exact hu) hn
                have HU := Lib.hid hu
                clear q1 q2 q3 q4 hn hk hz hu
                obtain ⟨kz0, kz1, kz2, kz3, _, _, _, _⟩ := Z.out
                go_wp2_with fail
                refine (calls_cb (implCallBuiltin _ _ _ _ E.out) HR1.out HN1.out).mono ?_
                rintro e w2 ⟨a3, c3, rfl, ho, q⟩
                clear kz0 kz1 kz2 kz3
                have B := Lib.hid (B.out.trans q)
                have V := Lib.hid (Tm.at_ext q V.out)
                have X := Lib.hid (X.out.ext q)
                have E := Lib.hid (Tm.at_ext q E.out)
                have Z := Lib.hid (Z.out.ext q)
                clear q
                have P1 := Lib.hid ho
                clear ho
                obtain ⟨kz0, kz1, kz2, kz3, _, _, _, _⟩ := Z.out
                go_wp2_with fail
                refine (calls_cb (specCallBuiltin _ _ _ _ E.out) HR1.out HN1.out).mono ?_
                rintro e w3 ⟨a4, c4, rfl, ho, q⟩
                clear kz0 kz1 kz2 kz3
                have B := Lib.hid (B.out.trans q)
                have V := Lib.hid (Tm.at_ext q V.out)
                have X := Lib.hid (X.out.ext q)
                have E := Lib.hid (Tm.at_ext q E.out)
                have Z := Lib.hid (Z.out.ext q)
                have P1 := Lib.hid (OwnB.ext P1.out q)
                clear q
                have P2 := Lib.hid ho
                clear ho
                obtain ⟨kz0, kz1, kz2, kz3, _, _, _, _⟩ := Z.out
                obtain ⟨kx0, kx1, kx2, kx3, _, _, _, _⟩ := X.out
                go_wp2_with fail
                refine (lawspgBinds _ _ _ _ _ _ (OwnB.sl P1.out HRL.out) (OwnB.sl P2.out HRL.out)).mono ?_
                rintro e w4 ⟨rfl, q⟩
                clear kz0 kz1 kz2 kz3
                clear kx0 kx1 kx2 kx3
                have B := Lib.hid (B.out.trans q)
                have V := Lib.hid (Tm.at_ext q V.out)
                have X := Lib.hid (X.out.ext q)
                have E := Lib.hid (Tm.at_ext q E.out)
                have Z := Lib.hid (Z.out.ext q)
                have P1 := Lib.hid (OwnB.ext P1.out q)
                have P2 := Lib.hid (OwnB.ext P2.out q)
                clear q
                obtain ⟨kz0, kz1, kz2, kz3, _, _, _, _⟩ := Z.out
                obtain ⟨kx0, kx1, kx2, kx3, _, _, _, _⟩ := X.out
                go_wp2_with fail
                refine (calls_bo (implTermValid _ _ _ _ E.out) HVAL.out).mono ?_
                rintro e w5 ⟨rfl, q⟩
                clear kz0 kz1 kz2 kz3
                clear kx0 kx1 kx2 kx3
                have B := Lib.hid (B.out.trans q)
                have V := Lib.hid (Tm.at_ext q V.out)
                have X := Lib.hid (X.out.ext q)
                have E := Lib.hid (Tm.at_ext q E.out)
                have Z := Lib.hid (Z.out.ext q)
                have P1 := Lib.hid (OwnB.ext P1.out q)
                have P2 := Lib.hid (OwnB.ext P2.out q)
                clear q
                obtain ⟨kx0, kx1, kx2, kx3, _, _, _, _⟩ := X.out
                go_wp2_with fail
                refine (implTermVars t _ _ _ V.out).mono ?_
                rintro e w6 ⟨v5, rfl, hI, q⟩
                clear kx0 kx1 kx2 kx3
                have B := Lib.hid (B.out.trans q)
                have V := Lib.hid (Tm.at_ext q V.out)
                have X := Lib.hid (X.out.ext q)
                have E := Lib.hid (Tm.at_ext q E.out)
                have Z := Lib.hid (Z.out.ext q)
                have P1 := Lib.hid (OwnB.ext P1.out q)
                have P2 := Lib.hid (OwnB.ext P2.out q)
                clear q
                obtain ⟨kx0, kx1, kx2, kx3, _, _, _, _⟩ := X.out
                go_wp2_with fail
                refine (calls_eqw (lawspgIn _ _ _ _ (IntI.ints hI)) HN.out).mono ?_
                rintro e w7 ⟨rfl, q⟩
                clear kx0 kx1 kx2 kx3
                have B := Lib.hid (B.out.trans q)
                have V := Lib.hid (Tm.at_ext q V.out)
                have X := Lib.hid (X.out.ext q)
                have E := Lib.hid (Tm.at_ext q E.out)
                have Z := Lib.hid (Z.out.ext q)
                have P1 := Lib.hid (OwnB.ext P1.out q)
                have P2 := Lib.hid (OwnB.ext P2.out q)
                clear q
                have B9 := Lib.hid B.out
                obtain ⟨bb, off, ak, ck, rfl, d0, d1, d2, d3, d4, hc5, d5⟩ := one_at P1.out
                change _ = some (Value.int .i64 25) at d0
                change _ = some (Value.int .i64 u.kind) at d1
                change _ = some (Value.int .i64 u.n) at d2
                change _ = some (Value.string u.name) at d3
                change _ = some (Value.slice ak u.kids.length ck) at d4
                obtain ⟨_, sv1, hsv1, b1, e1, rfl, h1a, h1b, h1c, h1d⟩ := Tm.at_iff.1 V.out
                simp at hsv1
                obtain ⟨rfl, rfl⟩ := hsv1
                obtain ⟨bj, oj, aj, cj, rfl, hSb, k1, k2, k3, k4, hat⟩ := tget h1d HU.out
                have cQ := quiet_call (w := w7) (fun w' e' => calls_bo (implTermSame _ u u _ _ _ _ w' (Nat.le_refl _) (Tm.at_ext e' d5) (Tm.at_ext e' hat)) (same_refl u))
                obtain ⟨kx0, kx1, kx2, kx3, _, _, _, _⟩ := X.out
                have f0 := cell_regrown kx0
                have f1 := cell_regrown kx1
                have f2 := cell_regrown kx2
                have f3 := cell_regrown kx3
                have f4 := cell_regrown d0
                have f5 := cell_regrown d1
                have f6 := cell_regrown d2
                have f7 := cell_regrown d3
                have f8 := cell_regrown d4
                have f9 := cell_regrown k1
                have f10 := cell_regrown k2
                have f11 := cell_regrown k3
                have f12 := cell_regrown k4
                clear h1d hat d5 d0 d1 d2 d3 d4 k1 k2 k3 k4 hSb
                have hwr : IntKind.i64.wrap (1 + (m : Int) - 1) = (m : Int) := by rw [show 1 + (m : Int) - 1 = (m : Int) by omega]; exact IntWalk.i64_in _ (by omega)
                have hwr2 : IntKind.i64.wrap (m : Int) = (m : Int) := IntWalk.i64_in _ (by omega)
                have hlt : (m : Int) < (t.kids.length : Int) := by clear hwr hwr2; omega
                have hd : decide ((t.kids.length : Int) < 1 + (m : Int)) = false := by clear hwr hwr2; simpa using hgt
                have hd2 : decide (1 + (m : Int) ≤ (t.kids.length : Int)) = true := by clear hwr hwr2; simp; omega
                clear hgt
                go_wp2_with fail
                refine region_ext (by kernel_rfl) (by kernel_rfl) ?_
                repeat (go_big_quiet_step (exact cQ _ _))
                refine wpQuiet_nil ?_
                intro wq eq
                go_wp2_with fail
                go_ret
                exact ⟨rfl, B9.out.trans eq⟩
        · have HN := Lib.hid hn
          clear hn q1 q2 q3 q4
          obtain ⟨kz0, kz1, kz2, kz3, _, _, _, _⟩ := Z.out
          go_wp2_with fail
          refine (calls_cb (implCallBuiltin _ _ _ _ E.out) HR1.out HN1.out).mono ?_
          rintro e w2 ⟨a3, c3, rfl, ho, q⟩
          clear kz0 kz1 kz2 kz3
          have B := Lib.hid (B.out.trans q)
          have V := Lib.hid (Tm.at_ext q V.out)
          have X := Lib.hid (X.out.ext q)
          have E := Lib.hid (Tm.at_ext q E.out)
          have Z := Lib.hid (Z.out.ext q)
          clear q
          have P1 := Lib.hid ho
          clear ho
          obtain ⟨kz0, kz1, kz2, kz3, _, _, _, _⟩ := Z.out
          go_wp2_with fail
          refine (calls_cb (specCallBuiltin _ _ _ _ E.out) HR1.out HN1.out).mono ?_
          rintro e w3 ⟨a4, c4, rfl, ho, q⟩
          clear kz0 kz1 kz2 kz3
          have B := Lib.hid (B.out.trans q)
          have V := Lib.hid (Tm.at_ext q V.out)
          have X := Lib.hid (X.out.ext q)
          have E := Lib.hid (Tm.at_ext q E.out)
          have Z := Lib.hid (Z.out.ext q)
          have P1 := Lib.hid (OwnB.ext P1.out q)
          clear q
          have P2 := Lib.hid ho
          clear ho
          obtain ⟨kz0, kz1, kz2, kz3, _, _, _, _⟩ := Z.out
          obtain ⟨kx0, kx1, kx2, kx3, _, _, _, _⟩ := X.out
          go_wp2_with fail
          refine (lawspgBinds _ _ _ _ _ _ (OwnB.sl P1.out HRL.out) (OwnB.sl P2.out HRL.out)).mono ?_
          rintro e w4 ⟨rfl, q⟩
          clear kz0 kz1 kz2 kz3
          clear kx0 kx1 kx2 kx3
          have B := Lib.hid (B.out.trans q)
          have V := Lib.hid (Tm.at_ext q V.out)
          have X := Lib.hid (X.out.ext q)
          have E := Lib.hid (Tm.at_ext q E.out)
          have Z := Lib.hid (Z.out.ext q)
          have P1 := Lib.hid (OwnB.ext P1.out q)
          have P2 := Lib.hid (OwnB.ext P2.out q)
          clear q
          obtain ⟨kz0, kz1, kz2, kz3, _, _, _, _⟩ := Z.out
          obtain ⟨kx0, kx1, kx2, kx3, _, _, _, _⟩ := X.out
          go_wp2_with fail
          refine (calls_bo (implTermValid _ _ _ _ E.out) HVAL.out).mono ?_
          rintro e w5 ⟨rfl, q⟩
          clear kz0 kz1 kz2 kz3
          clear kx0 kx1 kx2 kx3
          have B := Lib.hid (B.out.trans q)
          have V := Lib.hid (Tm.at_ext q V.out)
          have X := Lib.hid (X.out.ext q)
          have E := Lib.hid (Tm.at_ext q E.out)
          have Z := Lib.hid (Z.out.ext q)
          have P1 := Lib.hid (OwnB.ext P1.out q)
          have P2 := Lib.hid (OwnB.ext P2.out q)
          clear q
          obtain ⟨kx0, kx1, kx2, kx3, _, _, _, _⟩ := X.out
          go_wp2_with fail
          refine (implTermVars t _ _ _ V.out).mono ?_
          rintro e w6 ⟨v5, rfl, hI, q⟩
          clear kx0 kx1 kx2 kx3
          have B := Lib.hid (B.out.trans q)
          have V := Lib.hid (Tm.at_ext q V.out)
          have X := Lib.hid (X.out.ext q)
          have E := Lib.hid (Tm.at_ext q E.out)
          have Z := Lib.hid (Z.out.ext q)
          have P1 := Lib.hid (OwnB.ext P1.out q)
          have P2 := Lib.hid (OwnB.ext P2.out q)
          clear q
          obtain ⟨kx0, kx1, kx2, kx3, _, _, _, _⟩ := X.out
          go_wp2_with fail
          refine (calls_eqw (lawspgIn _ _ _ _ (IntI.ints hI)) HN.out).mono ?_
          rintro e w7 ⟨rfl, q⟩
          clear kx0 kx1 kx2 kx3
          have B := Lib.hid (B.out.trans q)
          have V := Lib.hid (Tm.at_ext q V.out)
          have X := Lib.hid (X.out.ext q)
          have E := Lib.hid (Tm.at_ext q E.out)
          have Z := Lib.hid (Z.out.ext q)
          have P1 := Lib.hid (OwnB.ext P1.out q)
          have P2 := Lib.hid (OwnB.ext P2.out q)
          clear q
          go_wp2_with fail
          refine (lawspgBinds _ _ _ _ _ _ (OwnB.sl P1.out HRL.out) (OwnB.sl P2.out HRL.out)).mono ?_
          rintro e w8 ⟨rfl, q⟩
          have B := Lib.hid (B.out.trans q)
          have V := Lib.hid (Tm.at_ext q V.out)
          have X := Lib.hid (X.out.ext q)
          have E := Lib.hid (Tm.at_ext q E.out)
          have Z := Lib.hid (Z.out.ext q)
          have P1 := Lib.hid (OwnB.ext P1.out q)
          have P2 := Lib.hid (OwnB.ext P2.out q)
          clear q
          go_wp2_with fail
          go_ret
          exact ⟨rfl, B.out⟩
    · go_enter Try.func6, Try.ntmps6
      go_wp2_with fail
      go_ret
      exact ⟨rfl, Below.refl _ _⟩
  · go_enter Try.func6, Try.ntmps6
    go_wp2_with fail
    go_ret
    exact ⟨rfl, Below.refl _ _⟩


set_option maxRecDepth 100000 in
theorem lifted (os : Os) (started : os.Started) (H : Type) (enc : TypeId × Value → H) :
    ReturnsInHanded {} Try.checked os 6 .any (Rows.fnArgGoalSpec.pre6 enc Try.prog Try.f6 Rows.fnArgGoalRow.domain false) (Rows.fnArgGoalSpec.post enc Try.prog Try.f6 false true false false) := by
  refine returnsInHanded_of_change (C := Try.checked) own started (by kernel_rfl) Try.func6
    (ChangeSpec.witness6 (enc := enc) (C := Try.checked) false ⟨#[], #[.slice none 0 0, .slice none 0 0], []⟩ 8 (by kernel_rfl) (by kernel_rfl) (by kernel_rfl) (by kernel_rfl)) ?_
  intro W base args ds gs before hval0 hW hcnd _
  have hval : ∀ (j : Nat) t v, Try.f6.params[j]? = some t → args[j]? = some v → Value.okWide Try.prog W .any base t v := hval0
  have hW' := hW
  obtain ⟨p, q, hA0, hV, rfl, hfz, hnd⟩ := hW
  have hA : DataW.TrodAll enc Try.prog W 0 (fun _ => true) true Try.f6.params.toList args.toList ds p := hA0
  rw [Try.params6] at hA hval
  obtain ⟨v0, vs0, d0, ds0, p0, q0, hargs, rfl, rfl, h0, r0⟩ := trodAll_cons hA
  obtain ⟨v1, vs1, d1, ds1, p1, q1, rfl, rfl, rfl, h1, r1⟩ := trodAll_cons r0
  obtain ⟨rfl, rfl, rfl⟩ := trodAll_nil r1
  obtain rfl : args = #[v0, v1] := by cases args; simp_all
  obtain ⟨rfl, rfl⟩ := trodVars_none hV
  have k0 := h0
  have lt0 : ∀ x ∈ p0, x.block < W.heap.size := by obtain ⟨m, hm⟩ := k0; exact DataW.trod_lt m _ _ _ hm
  obtain ⟨a0, len0, cap0, rfl⟩ := okWide_slice Try.underlying22 (hval 0 22 v0 rfl rfl)
  have w0 := bytes_of_trod h0
  have k1 := h1
  have lt1 : ∀ x ∈ p1, x.block < W.heap.size := by obtain ⟨m, hm⟩ := k1; exact DataW.trod_lt m _ _ _ hm
  obtain ⟨a1, len1, cap1, rfl⟩ := okWide_slice Try.underlying22 (hval 1 22 v1 rfl rfl)
  have w1 := bytes_of_trod h1
  clear hA0 hval0 hval
  refine (walk _ _ W w0 w1).mono fun e W' ⟨he, bel⟩ => ?_
  subst he
  exact ⟨_, rfl, _, _, _, [], _, [], hW', trodAll_mk1 (shut_bool Try.underlying4 _), (trodAll_cons_mk (Below.trod laidOut (by kernel_rfl) (of_decide_eq_true (by kernel_rfl)) k0 bel lt0) (trodAll_cons_mk (Below.trod laidOut (by kernel_rfl) (of_decide_eq_true (by kernel_rfl)) k1 bel lt1) trodAll_mk0)), rfl, bel.frame _, fun h => by cases h⟩

set_option maxRecDepth 100000 in
theorem over : Rows.fnArgGoalRow.holds Try.pinned (OpenSpec.ofChange Rows.fnArgGoalSpec) :=
  OpenClaim.holds_of_wide 6 Try.f6 rfl rfl rfl rfl rfl rfl rfl ⟨rfl, rfl, rfl, rfl, rfl⟩ rfl rfl rfl rfl rfl (by kernel_rfl) Try.func6 (by kernel_rfl)
    (of_decide_eq_true (by kernel_rfl)) (by unfold Func.isWrapper; first | (rw [if_pos (by decide +kernel)]; kernel_rfl) | (rw [if_neg (by decide +kernel)]; exact ⟨rfl, rfl⟩))
    (fun os started H enc _ => lifted os started H enc)

/-- the statement -/
theorem proved : Rows.FnArgGoalSaid := over
end Go.Proofs.Ytdelhgodhkbjdaa.fnArgGoal
