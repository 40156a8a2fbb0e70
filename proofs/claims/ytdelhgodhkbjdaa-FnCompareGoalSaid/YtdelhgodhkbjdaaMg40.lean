/-
  The program's comparisons, all goals that are built in, CallBuiltin.
-/
import Derived.Test.YtdelhgodhkbjdaaMg39
namespace Go.Proofs.Ytdelhgodhkbjdaa
open Go.RowKit
set_option linter.unusedVariables false

theorem okU_not {K : List Tm} (h : okU K 26 = false) : allR K = [] := by unfold allR; rw [h]; rfl
set_option maxRecDepth 100000 in
set_option maxHeartbeats 8000000 in
theorem implcompared (n : Int) (s : ByteArray) (ks : List Tm) (v : Value) (S : Nat → Prop) (w : World) (hs : s.toList = [60] ∨ s.toList = [62] ∨ s.toList = [61, 60] ∨ s.toList = [62, 61] ∨ s.toList = [61, 58, 61]) (hl : ks.length = 2) (hsh : shapeL ks 29 = true) (ht : Tm.at S w (.mk 3 n s ks) v) :
    Calls Try.prog 72 #[v] w fun e w' => e = .returned (.int .i64 (cmpR s.toList (kidAt ks 0) (kidAt ks 1))) ∧ Ext w w' := by
  have HT := Lib.hid ht
  have HSH := Lib.hid hsh
  have HL := Lib.hid hl
  have HS := Lib.hid hs
  obtain ⟨hs1, sv, rfl, a, c, rfl, h1, h2, h3, h4⟩ := Tm.at_iff.1 ht
  have H4 := Lib.hid h4
  simp only [Tm.kind, Tm.n, Tm.name, Tm.kids] at HT H4 ⊢
  clear ht hsh h4 h1 h2 h3 hl hs
  have hk0 : 0 < ks.length := by have := HL.out; omega
  have hk1 : 1 < ks.length := by have := HL.out; omega
  have hk1i : (1 : Int) < (ks.length : Int) := by omega
  obtain ⟨b, off, a0, c0, rfl, hSb0, l0, l1, l2, l3, hat0, hg0⟩ := kids1 H4.out hk0
  obtain ⟨b1, off1, a1, c1, e1, hSb1, m0, m1, m2, m3, hat1, hg1⟩ := kids1 H4.out hk1
  cases e1
  simp only [Nat.zero_mul, Nat.add_zero] at l0 l1 l2 l3
  simp only [Nat.one_mul] at m0 m1 m2 m3
  have SH0 := Lib.hid (shapeL_mem HSH.out (List.mem_of_getElem? hg0))
  have SH1 := Lib.hid (shapeL_mem HSH.out (List.mem_of_getElem? hg1))
  obtain ⟨t0, ht0⟩ : ∃ t, kidAt ks 0 = t := ⟨_, rfl⟩
  obtain ⟨t1, ht1⟩ : ∃ t, kidAt ks 1 = t := ⟨_, rfl⟩
  rw [ht0] at l0 l1 l2 l3 hat0 SH0 ⊢
  rw [ht1] at m0 m1 m2 m3 hat1 SH1 ⊢
  have AR0 : Hid (∀ w' (e' : Ext w w'), Calls Try.prog 54 #[val4 t0 a0 c0] w' (ArOut (arF t0) w')) := Lib.hid (fun w' e' => implarith _ t0 (Nat.le_refl _) _ S w' 29 SH0.out (Tm.at_ext e' hat0))
  have AR1 : Hid (∀ w' (e' : Ext w w'), Calls Try.prog 54 #[val4 t1 a1 c1] w' (ArOut (arF t1) w')) := Lib.hid (fun w' e' => implarith _ t1 (Nat.le_refl _) _ S w' 29 SH1.out (Tm.at_ext e' hat1))
  obtain ⟨⟨x, cx⟩, hx⟩ : ∃ p, arF t0 = p := ⟨_, rfl⟩
  obtain ⟨⟨y, cy⟩, hy⟩ : ∃ p, arF t1 = p := ⟨_, rfl⟩
  have HF : Hid (cmpR s.toList t0 t1 = if cx ≠ 0 then cx else if cy ≠ 0 then cy else holdsN (cmpN s.toList x y)) := Lib.hid (by unfold cmpR; rw [hx, hy])
  rw [hx] at AR0
  rw [hy] at AR1
  have BX : Hid (-999 ≤ x ∧ x ≤ 999 ∧ -999 ≤ y ∧ y ≤ 999) := Lib.hid (by have h1 := ar_bd t0 _ SH0.out; have h2 := ar_bd t1 _ SH1.out; rw [hx] at h1; rw [hy] at h2; exact ⟨h1.1, h1.2, h2.1, h2.2⟩)
  have hbw := block_lt_of_cell l0
  simp only at hbw
  clear hx hy hat0 hat1 hg0 hg1 ht0 ht1
  go_enter Try.func72, Try.ntmps72
  go_wp2_with fail
  refine (AR0.out _ (Ext.alloc _ _)).mono ?_
  rintro e w2 ⟨rfl, e2⟩
  have X2 := Lib.hid ((BoxT.new w (.int .i64 3) (.int .i64 n) (.string s) (.slice (some ⟨b, off, none⟩) ks.length c) 25 rfl).ext e2)
  have E2 := Lib.hid ((Ext.alloc w _).trans e2)
  have m0 := E2.out.cell m0
  have m1 := E2.out.cell m1
  have m2 := E2.out.cell m2
  have m3 := E2.out.cell m3
  clear e2 l0 l1 l2 l3
  obtain ⟨x0, x1, x2, x3, _, _, _, _⟩ := X2.out
  by_cases hc : cx = 0
  · subst hc
    have hcn : ((0 : Int) != 0) = false := rfl
    go_wp2_with fail
    refine (AR1.out _ E2.out).mono ?_
    rintro e w3 ⟨rfl, e3⟩
    have X3 := Lib.hid (X2.out.ext e3)
    have E3 := Lib.hid (E2.out.trans e3)
    clear e3 m0 m1 m2 m3 x0 x1 x2 x3
    obtain ⟨x0, x1, x2, x3, _, _, _, _⟩ := X3.out
    by_cases hd : cy = 0
    · subst hd
      have HF2 : Hid (cmpR s.toList t0 t1 = holdsN (cmpN s.toList x y)) := Lib.hid (by rw [HF.out]; rfl)
      obtain ⟨b0, b1, b2, b3⟩ := BX.out
      rcases HS.out with hs | hs | hs | hs | hs
      all_goals
        have HC := Lib.hid (show cmpN s.toList x y = _ by unfold cmpN; rw [hs])
        go_wp2_with fail
        refine (implholds _ _).mono ?_
        rintro e4 w4 ⟨rfl, rfl⟩
        go_wp2_with fail
        go_ret
        exact ⟨by rw [HF2.out, HC.out]; first | rfl | simp, E3.out⟩
    · have hdn : (cy != 0) = true := by simpa using hd
      have HF2 : Hid (cmpR s.toList t0 t1 = cy) := Lib.hid (by rw [HF.out, if_neg (by simp), if_pos hd])
      clear hd
      go_wp2_with fail
      go_ret
      exact ⟨by rw [HF2.out]; rfl, E3.out⟩
  · have hcn : (cx != 0) = true := by simpa using hc
    have HF2 : Hid (cmpR s.toList t0 t1 = cx) := Lib.hid (by rw [HF.out, if_pos hc])
    clear hc
    go_wp2_with fail
    go_ret
    exact ⟨by rw [HF2.out]; rfl, E2.out⟩

set_option maxRecDepth 100000 in
set_option maxHeartbeats 4000000 in
theorem implcall_cmp (n : Int) (s : ByteArray) (ks : List Tm) (v : Value) (S : Nat → Prop) (w : World) (sb mb : Nat) (hs : s.toList = [60] ∨ s.toList = [62] ∨ s.toList = [61, 60] ∨ s.toList = [62, 61] ∨ s.toList = [61, 58, 61]) (hl : ks.length = 2) (hsh : shapeL ks 29 = true) (hB : ∀ b, S b → b < w.heap.size) (ht : Tm.at S w (.mk 3 n s ks) v) (hst : StoT S w sb mb known0 [] (.slice none 0 0)) :
    Calls Try.prog 40 #[.pointer (some ⟨sb, 0, none⟩), v] w (CallQ S sb mb (callR s.toList ks) w) := by
  have HF : Hid (callR s.toList ks = (cmpR s.toList (kidAt ks 0) (kidAt ks 1), known0)) := Lib.hid (by unfold callR; rcases hs with hs | hs | hs | hs | hs <;> (rw [hs]; simp))
  have HC : Hid (cmpGF 3 s ks.length = true) := Lib.hid (by unfold cmpGF hasF five; rw [hl]; rcases hs with hs | hs | hs | hs | hs <;> simp [hs])
  have HT := Lib.hid ht
  have HST := Lib.hid hst
  have CP := Lib.hid (fun (v' : Value) (w' : World) (e' : Ext w w') (h' : Tm.at S w' (.mk 3 n s ks) v') => implcompared n s ks v' S w' hs hl hsh h')
  obtain ⟨hs1, sv, rfl, a, c, rfl, h1, h2, h3, h4⟩ := Tm.at_iff.1 ht
  simp only [Tm.kind, Tm.n, Tm.name, Tm.kids] at HT ⊢
  clear hB ht hst hsh h4 h1 h2 h3 hl hs
  go_enter Try.func40, Try.ntmps40
  go_wp2_with fail
  refine (implcompares 3 n s ks _ S _ (Tm.at_ext (Ext.alloc _ _) HT.out)).mono ?_
  rw [HC.out]
  rintro e w2 ⟨rfl, e2⟩
  have X2 := Lib.hid ((BoxT.new w (.int .i64 3) (.int .i64 n) (.string s) (.slice a ks.length c) 25 rfl).ext e2)
  have E2 := Lib.hid ((Ext.alloc w _).trans e2)
  clear e2
  obtain ⟨x0, x1, x2, x3, _, _, _, _⟩ := X2.out
  go_wp2_with fail
  refine (CP.out _ _ E2.out (Tm.at_ext E2.out HT.out)).mono ?_
  rintro e w3 ⟨rfl, e3⟩
  have E3 := Lib.hid (E2.out.trans e3)
  clear e3
  go_wp2_with fail
  go_ret
  exact ⟨by rw [HF.out]; rfl, Fr.of_ext E3.out, fun _ => by rw [HF.out]; exact (HST.out.ext E3.out).1⟩
theorem uniR_ok {x y : Tm} {d e : Nat} (hx : shapeF x d = true) (hy : shapeF y e = true) (h : holdsN (uniR x y).1 = 0) : VK (uniR x y).2 ∧ ∃ ρ, Rk (uniR x y).2 ρ := by
  refine uniR_good hx hy ?_
  cases hc : (uniR x y).1 with
  | true => rfl
  | false => rw [hc] at h; exact absurd h (by decide)
theorem kid_shape {ks : List Tm} {i d : Nat} (h : shapeL ks d = true) (hi : i < ks.length) : shapeF (kidAt ks i) d = true := by
  obtain ⟨t, ht⟩ := getk hi
  rw [kidAt_get ht]
  exact shapeL_mem h (List.mem_of_getElem? ht)
/-- the names of goals that are built in -/
theorem builtin_names {s : List UInt8} {n : Nat} (h : isBuiltinF s n = true) :
    ((s = [61] ∨ s = [92, 61] ∨ s = [61, 61] ∨ s = [105, 115] ∨ (s = [60] ∨ s = [62] ∨ s = [61, 60] ∨ s = [62, 61] ∨ s = [61, 58, 61])) ∧ n = 2) ∨ ((s = [116, 114, 117, 101] ∨ s = [102, 97, 105, 108]) ∧ n = 0) ∨
    ((s = [118, 97, 114] ∨ s = [110, 111, 110, 118, 97, 114] ∨ s = [97, 116, 111, 109] ∨ s = [105, 110, 116]) ∧ n = 1) ∨ (s = [97, 114, 103] ∧ n = 3) := by
  unfold isBuiltinF at h
  split at h
  · rename_i hs
    refine .inl ⟨?_, (by have h2 : (n : Int) = 2 := (by simpa using h); omega)⟩
    rcases hs with h | h | h | h | h | h | h | h | h <;> simp [h]
  · split at h
    · rename_i hs
      exact .inr (.inl ⟨hs, (by have h2 : (n : Int) = 0 := (by simpa using h); omega)⟩)
    · split at h
      · rename_i hs
        exact .inr (.inr (.inl ⟨hs, (by have h2 : (n : Int) = 1 := (by simpa using h); omega)⟩))
      · split at h
        · rename_i hs
          exact .inr (.inr (.inr ⟨hs, (by have h2 : (n : Int) = 3 := (by simpa using h); omega)⟩))
        · cases h
theorem implcall (n : Int) (s : ByteArray) (ks : List Tm) (v : Value) (S : Nat → Prop) (w : World) (sb mb : Nat) (hb : isBuiltinF s.toList ks.length = true) (hsh : shapeL ks 29 = true) (hB : ∀ b, S b → b < w.heap.size) (ht : Tm.at S w (.mk 3 n s ks) v) (hst : StoT S w sb mb known0 [] (.slice none 0 0)) :
    Calls Try.prog 40 #[.pointer (some ⟨sb, 0, none⟩), v] w (CallA sb mb (callR s.toList ks) w) := by
  have k0 : VK known0 ∧ ∃ ρ, Rk known0 ρ := ⟨vk0, rk0⟩
  rcases builtin_names hb with ⟨hs, hl⟩ | ⟨hs, hl⟩ | ⟨hs, hl⟩ | ⟨hs, hl⟩
  · rcases hs with hs | hs | hs | hs | hs
    · refine (implcall_eq n s ks v S w sb mb hs hl hsh hB ht hst).mono (fun e w' h => h.to hB (fun h0 => ?_))
      have hF : callR s.toList ks = (holdsN (uniR (kidAt ks 0) (kidAt ks 1)).1, (uniR (kidAt ks 0) (kidAt ks 1)).2) := by unfold callR; rw [hs]; simp
      rw [hF] at h0 ⊢
      exact uniR_ok (kid_shape hsh (by omega)) (kid_shape hsh (by omega)) h0
    · exact implcall_ne n s ks v S w sb mb hs hl hsh hB ht hst
    · refine (implcall_same n s ks v S w sb mb hs hl hsh hB ht hst).mono (fun e w' h => h.to hB (fun h0 => ?_))
      have hF : (callR s.toList ks).2 = known0 := by unfold callR; rw [hs]; simp
      rw [hF]; exact k0
    · refine (implcall_is n s ks v S w sb mb hs hl hsh hB ht hst).mono (fun e w' h => h.to hB (fun h0 => ?_))
      have hF : callR s.toList ks = isR (kidAt ks 0) (kidAt ks 1) := by unfold callR; rw [hs]; simp
      rw [hF] at h0 ⊢
      unfold isR at h0 ⊢
      split
      · exact k0
      · rename_i hc
        rw [if_neg hc] at h0
        exact uniR_ok (kid_shape hsh (by omega)) (arF_shape (kid_shape hsh (i := 1) (by omega)) rfl) h0
    · refine (implcall_cmp n s ks v S w sb mb hs hl hsh hB ht hst).mono (fun e w' h => h.to hB (fun h0 => ?_))
      have hF : (callR s.toList ks).2 = known0 := by unfold callR; rcases hs with hs | hs | hs | hs | hs <;> (rw [hs]; simp)
      rw [hF]; exact k0
  · rcases hs with hs | hs
    · refine (implcall_true n s ks v S w sb mb hs hl hsh hB ht hst).mono (fun e w' h => h.to hB (fun h0 => ?_))
      have hF : (callR s.toList ks).2 = known0 := by unfold callR; rw [hs]; simp
      rw [hF]; exact k0
    · refine (implcall_fail n s ks v S w sb mb hs hl hsh hB ht hst).mono (fun e w' h => h.to hB (fun h0 => ?_))
      have hF : (callR s.toList ks).2 = known0 := by unfold callR; rw [hs]; simp
      rw [hF]; exact k0
  · rcases hs with hs | hs | hs | hs
    · refine (implcall_var n s ks v S w sb mb hs hl hsh hB ht hst).mono (fun e w' h => h.to hB (fun h0 => ?_))
      have hF : (callR s.toList ks).2 = known0 := by unfold callR; rw [hs]; simp
      rw [hF]; exact k0
    · refine (implcall_nonvar n s ks v S w sb mb hs hl hsh hB ht hst).mono (fun e w' h => h.to hB (fun h0 => ?_))
      have hF : (callR s.toList ks).2 = known0 := by unfold callR; rw [hs]; simp
      rw [hF]; exact k0
    · refine (implcall_atom n s ks v S w sb mb hs hl hsh hB ht hst).mono (fun e w' h => h.to hB (fun h0 => ?_))
      have hF : (callR s.toList ks).2 = known0 := by unfold callR; rw [hs]; simp
      rw [hF]; exact k0
    · refine (implcall_int n s ks v S w sb mb hs hl hsh hB ht hst).mono (fun e w' h => h.to hB (fun h0 => ?_))
      have hF : (callR s.toList ks).2 = known0 := by unfold callR; rw [hs]; simp
      rw [hF]; exact k0
  · refine (implcall_arg n s ks v S w sb mb hs hl hsh hB ht hst).mono (fun e w' h => h.to hB (fun h0 => ?_))
    have hF : callR s.toList ks = argR (kidAt ks 0) (kidAt ks 1) (kidAt ks 2) := by unfold callR; rw [hs]; simp
    rw [hF] at h0 ⊢
    unfold argR at h0 ⊢
    split
    · exact k0
    · rename_i h1
      rw [if_neg h1] at h0
      split
      · exact k0
      · rename_i h2
        rw [if_neg h2] at h0
        split
        · exact k0
        · rename_i h3
          rw [if_neg h3] at h0
          have h4 := Classical.not_not.1 h3
          exact uniR_ok (kid_shape hsh (by omega)) (kid_shape (kids_shape (kid_shape hsh (i := 1) (by omega))) (by omega)) h0
theorem cb_no {g : Tm} (h : gbF g = false) : cbN g = 6 := by unfold cbN; rw [if_neg (by rw [h]; simp)]
theorem cb_yes {g : Tm} (h : gbF g = true) {code : Int} {K : List Tm} (hr : callR g.name.toList g.kids = (code, K)) : cbN g = (if code ≠ 0 then code else if okU K 26 = true then 0 else 5) ∧ cbR g = (if code = 0 then allR K else []) := by
  unfold cbN cbR allR
  rw [hr]
  simp only [h, if_true, true_and]
  by_cases hc : code = 0
  · simp [hc]
  · simp [hc]
set_option maxRecDepth 100000 in
set_option maxHeartbeats 4000000 in
theorem implCallBuiltin (t : Tm) (v : Value) (S : Nat → Prop) (w : World) (ht : Tm.at S w t v) :
    Calls Try.prog 12 #[v] w (BdBO (cbR t) (.int .i64 (cbN t)) w) := by
  replace ht := Tm.at_bound ht
  obtain ⟨S, hB, ht⟩ : ∃ S : Nat → Prop, (∀ b, S b → b < w.heap.size) ∧ Tm.at S w t v := ⟨_, fun b hb => hb.2, ht⟩
  obtain ⟨k, n, s, ks⟩ := t
  have HT := Lib.hid ht
  have HB := Lib.hid hB
  obtain ⟨hs1, sv, rfl, a, c, rfl, h1, h2, h3, h4⟩ := Tm.at_iff.1 ht
  simp only [Tm.kind, Tm.n, Tm.name, Tm.kids] at HT ⊢
  clear ht hB h1 h2 h3 h4
  have NO := Lib.hid (fun (z : Int) (hz : z ≠ 0) (h : cbN (.mk k n s ks) = z) (w' : World) (e : Ext w w') => (show BdBO (cbR (.mk k n s ks)) (.int .i64 (cbN (.mk k n s ks))) w (.returned (.tuple #[.slice none 0 0, .int .i64 z])) w' from ⟨none, 0, by rw [cbR_no (by rw [h]; exact hz), h]; rfl, by rw [cbR_no (by rw [h]; exact hz)]; exact OwnB.nil _ _, e⟩))
  obtain ⟨b1, hb1⟩ : ∃ x, validF (.mk k n s ks) = x := ⟨_, rfl⟩
  have HB1 := Lib.hid hb1
  clear hb1
  go_enter Try.func12, Try.ntmps12
  go_wp2_with fail
  refine (implTermValid (.mk k n s ks) _ S _ (Tm.at_ext (Ext.alloc _ _) HT.out)).mono ?_
  rw [HB1.out]
  rintro e w2 ⟨rfl, e2⟩
  have X2 := Lib.hid ((BoxT.new w (.int .i64 k) (.int .i64 n) (.string s) (.slice a ks.length c) 25 rfl).ext e2)
  have E2 := Lib.hid ((Ext.alloc w _).trans e2)
  clear e2
  obtain ⟨x0, x1, x2, x3, _, _, _, _⟩ := X2.out
  cases b1
  · have HF : Hid (cbN (.mk k n s ks) = 6) := Lib.hid (cb_no (by show (validF (.mk k n s ks) && builtF k s ks.length) = false; rw [HB1.out]; rfl))
    go_wp2_with fail
    go_ret2
    exact NO.out 6 (by decide) HF.out _ E2.out
  obtain ⟨b2, hb2⟩ : ∃ x, builtF k s ks.length = x := ⟨_, rfl⟩
  have HB2 := Lib.hid hb2
  clear hb2
  go_wp2_with fail
  refine (implisBuilt k n s ks _ S _ (Tm.at_ext E2.out HT.out)).mono ?_
  rw [HB2.out]
  rintro e w3 ⟨rfl, e3⟩
  have X3 := Lib.hid (X2.out.ext e3)
  have E3 := Lib.hid (E2.out.trans e3)
  clear e3 x0 x1 x2 x3
  obtain ⟨x0, x1, x2, x3, _, _, _, _⟩ := X3.out
  cases b2
  · have HF : Hid (cbN (.mk k n s ks) = 6) := Lib.hid (cb_no (by show (validF (.mk k n s ks) && builtF k s ks.length) = false; rw [HB1.out, HB2.out]; rfl))
    go_wp2_with fail
    go_ret2
    exact NO.out 6 (by decide) HF.out _ E3.out
  have HG : Hid (gbF (.mk k n s ks) = true) := Lib.hid (by show (validF (.mk k n s ks) && builtF k s ks.length) = true; rw [HB1.out, HB2.out]; rfl)
  have h2 := HB2.out
  unfold builtF at h2
  simp only [Bool.and_eq_true, beq_iff_eq] at h2
  obtain ⟨rfl, hbb⟩ := h2
  have HBB := Lib.hid hbb
  have HSH : Hid (shapeL ks 29 = true) := Lib.hid (kids_shape (valid_shape HB1.out))
  obtain ⟨⟨code, K⟩, hr⟩ : ∃ p, callR s.toList ks = p := ⟨_, rfl⟩
  have HR := Lib.hid hr
  have HN : Hid (cbN (.mk 3 n s ks) = if code ≠ 0 then code else if okU K 26 = true then 0 else 5) := Lib.hid (cb_yes HG.out hr).1
  have HRR : Hid (cbR (.mk 3 n s ks) = if code = 0 then allR K else []) := Lib.hid (cb_yes HG.out hr).2
  clear hbb hr
  go_wp2_with fail
  refine (implnewStore S w3 (fun b hb => Nat.lt_of_lt_of_le (HB.out b hb) (Below.size E3.out))).mono ?_
  rintro e w4 ⟨rfl, hst, e4⟩
  have ST := Lib.hid hst
  have E4 := Lib.hid (E3.out.trans e4)
  have X4 := Lib.hid (X3.out.ext e4)
  have lw3 := Below.size E3.out
  clear hst e4 x0 x1 x2 x3
  obtain ⟨x0, x1, x2, x3, _, _, _, _⟩ := X4.out
  go_wp2_with fail
  refine (implcall n s ks _ S w4 _ _ HBB.out HSH.out (fun b hb => Nat.lt_of_lt_of_le (HB.out b hb) (Below.size E4.out)) (Tm.at_ext E4.out HT.out) ST.out).mono ?_
  rw [HR.out]
  rintro e w5 ⟨rfl, f5, hall⟩
  have E5 := Lib.hid (((Fr.of_ext E4.out).trans f5).toExt (fun k hk h => by omega))
  have HA := Lib.hid hall
  clear f5 hall x0 x1 x2 x3
  simp only at HA
  by_cases hc : code = 0
  · subst hc
    have hcn : ((0 : Int) != 0) = false := rfl
    have lw5 := Below.size E5.out
    obtain ⟨bo, hbo⟩ : ∃ b, okU K 26 = b := ⟨_, rfl⟩
    have HBO := Lib.hid hbo
    rw [hbo] at HA
    clear hbo
    go_wp2_with fail
    refine (HA.out (by first | rfl | trivial)).mono ?_
    rintro e w6 ⟨a6, c6, rfl, ho, e6⟩
    have HO := Lib.hid ho
    have E6 := Lib.hid (E5.out.trans e6)
    clear ho e6
    cases bo
    · have HF : Hid (cbN (.mk 3 n s ks) = 5) := Lib.hid (by rw [HN.out, HBO.out]; rfl)
      go_wp2_with fail
      go_ret2
      exact NO.out 5 (by decide) HF.out _ E6.out
    · have HF : Hid (cbN (.mk 3 n s ks) = 0) := Lib.hid (by rw [HN.out, HBO.out]; rfl)
      go_wp2_with fail
      go_ret2
      have h1 : cbR (.mk 3 n s ks) = allR K := by rw [HRR.out]; rfl
      exact ⟨a6, c6, by rw [h1, HF.out]; rfl, by rw [h1]; exact HO.out.zone (fun b hb => by omega), E6.out⟩
  · have hcn : (code != 0) = true := by simpa using hc
    have HF : Hid (cbN (.mk 3 n s ks) = code) := Lib.hid (by rw [HN.out, if_pos hc])
    have HC := Lib.hid hc
    clear hc HA
    go_wp2_with fail
    go_ret2
    exact NO.out code HC.out HF.out _ E5.out
end Go.Proofs.Ytdelhgodhkbjdaa
