/-
  The reference's l5Solve: 'is'.
-/
import Derived.Test.YtdelhgodhkbjdaaMg46
import Derived.Test.YtdelhgodhkbjdaaMg26
namespace Go.Proofs.Ytdelhgodhkbjdaa
open Go.RowKit
set_option linter.unusedVariables false

/-- while 'is' unifies: what each operation leaves -/
def IsΨ (S : Nat → Prop) (A kb : Nat) (W : World) (t0 : Tm) (a0 : Option Addr) (c0 : Nat) (m : Int) (cc : Bool) (K : List Tm) (b off len c : Nat) (i : Nat) (v : Value) (w : World) : Prop :=
  match i with
  | 0 => v = .pointer (some ⟨A, 3, none⟩)
  | 1 => v = .slice (some ⟨b, off, none⟩) len c
  | 2 => v = .pointer (some ⟨b, off, none⟩)
  | 3 => v = val4 t0 a0 c0
  | 4 => v = .int .i64 m
  | 5 => ∃ a c, v = val4 (intT m) a c ∧ Tm.at (fun _ => False) w (intT m) v
  | 6 => v = .slice (some ⟨kb, 0, none⟩) 26 26
  | 7 => v = .bool cc ∧ Fr (fun k => k = kb) W w ∧ Kn S w kb K
  | _ => v = .int .i64 (holdsN cc)
theorem IsΨ.fr7 {S : Nat → Prop} {A kb : Nat} {W : World} {t0 : Tm} {a0 : Option Addr} {c0 : Nat} {m : Int} {cc : Bool} {K : List Tm} {b off len c : Nat} {M : Nat → Prop} {i : Nat} {v : Value} {w w' : World} (h : IsΨ S A kb W t0 a0 c0 m cc K b off len c i v w) (f : Fr M w w') (h7 : i = 7 → ∀ k, ¬ M k) : IsΨ S A kb W t0 a0 c0 m cc K b off len c i v w' := by
  unfold IsΨ at h ⊢
  split
  · exact h
  · exact h
  · exact h
  · exact h
  · exact h
  · obtain ⟨a, c, h1, h2⟩ := h
    exact ⟨a, c, h1, f.at h2 (fun _ h => h.elim)⟩
  · exact h
  · obtain ⟨h1, h2, h3⟩ := h
    have f' : Fr (fun _ => False) w w' := f.mono (fun k _ hk => h7 rfl k hk)
    exact ⟨h1, h2.trans (f'.mono (fun _ _ h => h.elim)), h3.fr f' (fun _ h => h.elim)⟩
  · rename_i n0 n1 n2 n3 n4 n5 n6 n7
    split at h
    · exact absurd rfl n0
    · exact absurd rfl n1
    · exact absurd rfl n2
    · exact absurd rfl n3
    · exact absurd rfl n4
    · exact absurd rfl n5
    · exact absurd rfl n6
    · exact absurd rfl n7
    · exact h
theorem IsΨ.fr {S : Nat → Prop} {A kb : Nat} {W : World} {t0 : Tm} {a0 : Option Addr} {c0 : Nat} {m : Int} {cc : Bool} {K : List Tm} {b off len c : Nat} {M : Nat → Prop} {i : Nat} {v : Value} {w w' : World} (h : IsΨ S A kb W t0 a0 c0 m cc K b off len c i v w) (f : Fr M w w') (hM : ∀ k, ¬ M k) : IsΨ S A kb W t0 a0 c0 m cc K b off len c i v w' := h.fr7 f (fun _ => hM)
set_option maxRecDepth 100000 in
set_option maxHeartbeats 8000000 in
theorem specl5_is (n : Int) (s : ByteArray) (ks : List Tm) (v : Value) (S : Nat → Prop) (w : World) (kb : Nat) (hs : s.toList = [105, 115]) (hl : ks.length = 2) (hsh : shapeL ks 29 = true) (hsz : Tm.szL ks ≤ 119) (hB : ∀ b, S b → b < w.heap.size) (ht : Tm.at S w (.mk 3 n s ks) v) (hst : Kn S w kb known0) :
    Calls Try.prog 44 #[v, .slice (some ⟨kb, 0, none⟩) 26 26] w (CallK S kb (callR s.toList ks) w) := by
  have HF : Hid (callR s.toList ks = isR (kidAt ks 0) (kidAt ks 1)) := Lib.hid (by unfold callR; rw [hs]; simp)
  have HB := Lib.hid hB
  have HT := Lib.hid ht
  have HST := Lib.hid hst
  have HSH := Lib.hid hsh
  have HSZ := Lib.hid hsz
  have lkb := hst.lt
  have HL := Lib.hid hl
  have HKB := Lib.hid hst.1
  obtain ⟨hs1, sv, rfl, a, c, rfl, h1, h2, h3, h4⟩ := Tm.at_iff.1 ht
  have H4 := Lib.hid h4
  simp only [Tm.kind, Tm.n, Tm.name, Tm.kids] at HT H4 ⊢
  clear hB ht hst hsh h4 h1 h2 h3 hl hsz
  go_enter Try.func44, Try.ntmps44
  go_upto_region 1 with (fail)
  obtain ⟨w2, hw2⟩ : ∃ z, z = w.alloc (.cells #[.int .i64 3, .int .i64 n, .string s, .slice a ks.length c] 25) := ⟨_, rfl⟩
  have E2 : Hid (Ext w w2) := Lib.hid (by rw [hw2]; exact Ext.alloc _ _)
  have X2 : Hid (BoxT w2 w.heap.size (.int .i64 3) (.int .i64 n) (.string s) (.slice a ks.length c)) := Lib.hid (by rw [hw2]; exact BoxT.new _ _ _ _ _ _ rfl)
  rw [← hw2]
  clear hw2
  have ST2 := Lib.hid (HST.out.ext E2.out)
  obtain ⟨x0, x1, x2, x3, _, _, _, _⟩ := X2.out
  have lx2 := X2.out.lt
  have hk0 : 0 < ks.length := by have := HL.out; omega
  obtain ⟨b, off, a0, c0, rfl, hSb0, l0, l1, l2, l3, hat0, hg0⟩ := kids1 H4.out hk0
  simp only [Nat.zero_mul, Nat.add_zero] at l0 l1 l2 l3
  have l0 := E2.out.cell l0
  have l1 := E2.out.cell l1
  have l2 := E2.out.cell l2
  have l3 := E2.out.cell l3
  have HA0 := Lib.hid (Tm.at_ext E2.out hat0)
  have SH0 := Lib.hid (shapeL_mem HSH.out (List.mem_of_getElem? hg0))
  have SZ0 := Lib.hid (sz_le120 HSZ.out hg0)
  clear hat0 hg0
  obtain ⟨t0, ht0⟩ : ∃ t, kidAt ks 0 = t := ⟨_, rfl⟩
  rw [ht0] at l0 l1 l2 l3 HA0 SH0 SZ0 HF
  clear ht0
  have hk1 : 1 < ks.length := by have := HL.out; omega
  obtain ⟨b1, off1, a1, c1, e1, hSb1, m0, m1, m2, m3, hat1, hg1⟩ := kids1 H4.out hk1
  cases e1
  simp only [Nat.one_mul] at m0 m1 m2 m3
  have hk1i : (1 : Int) < (ks.length : Int) := by omega
  have m0 := E2.out.cell m0
  have m1 := E2.out.cell m1
  have m2 := E2.out.cell m2
  have m3 := E2.out.cell m3
  have HA1 := Lib.hid (Tm.at_ext E2.out hat1)
  have SH1 := Lib.hid (shapeL_mem HSH.out (List.mem_of_getElem? hg1))
  have SZ1 := Lib.hid (sz_le120 HSZ.out hg1)
  clear hat1 hg1
  obtain ⟨t1, ht1⟩ : ∃ t, kidAt ks 1 = t := ⟨_, rfl⟩
  rw [ht1] at m0 m1 m2 m3 HA1 SH1 SZ1 HF
  clear ht1
  have hl1 : Hid (∀ w' (e' : Ext w2 w'), Calls Try.prog 55 #[val4 t1 a1 c1] w' (ArOut (arF t1) w')) := Lib.hid (fun w' e' => specl5Arith _ t1 (Nat.le_refl _) _ S w' 29 SH1.out (Tm.at_ext e' HA1.out))
  obtain ⟨⟨m, code⟩, hm⟩ : ∃ p, arF t1 = p := ⟨_, rfl⟩
  rw [hm] at hl1
  have HM := Lib.hid hm
  clear hm
  go_wp2_with fail
  refine (hl1.out _ (Ext.refl _)).mono ?_
  rintro e3 w3 ⟨rfl, e3'⟩
  have E3 := Lib.hid e3'
  have ST3 := Lib.hid (ST2.out.ext e3')
  have X3 := Lib.hid (X2.out.ext e3')
  have l0 := e3'.cell l0
  have l1 := e3'.cell l1
  have l2 := e3'.cell l2
  have l3 := e3'.cell l3
  have lz := Below.size e3'
  have lz2 := Below.size E2.out
  clear e3' m0 m1 m2 m3 x0 x1 x2 x3
  obtain ⟨x0, x1, x2, x3, _, _, _, _⟩ := X3.out
  by_cases hc : code = 0
  · subst hc
    have hcn : ((0 : Int) != 0) = false := rfl
    have HF2 : Hid (callR s.toList ks = (holdsN (uniR t0 (intT m)).1, (uniR t0 (intT m)).2)) := Lib.hid (by rw [HF.out]; unfold isR; rw [HM.out]; simp)
    have shi : Hid (shapeF (intT m) 29 = true) := Lib.hid (arF_shape SH1.out HM.out)
    obtain ⟨f, hf⟩ := uniR_spec SH0.out shi.out
    obtain ⟨cc, K, hr⟩ : ∃ c K, uniR t0 (intT m) = (c, K) := ⟨_, _, rfl⟩
    rw [hr] at hf HF2
    have HU := Lib.hid hf
    have hw3 : Hid (∀ b, S b → b < w3.heap.size) := Lib.hid (fun b hb => by have := HB.out b hb; omega)
    have S2T : Hid (∀ (w5 : World) (v5 : Value), Ext w3 w5 → Tm.at (fun _ => False) w5 (intT m) v5 → Calls Try.prog 60 #[val4 t0 a0 c0, v5, .slice (some ⟨kb, 0, none⟩) 26 26] w5 (fun e w' => e = .returned (.bool cc) ∧ Kn S w' kb K ∧ Fr (fun k => k = kb) w5 w')) := Lib.hid (fun w5 v5 e5 h5 =>
      specl3Unify f known0 t0 (intT m) cc K 29 29 HU.out vk0 rk0 szk0 SH0.out shi.out SZ0.out (by show Tm.sz (.mk 2 m ⟨#[]⟩ []) ≤ 120; simp [Tm.sz, Tm.szL]) _ _ S w5 kb 26 (fun b hb => Nat.lt_of_lt_of_le (hw3.out b hb) (Below.size e5)) (Tm.at_ext (E3.out.trans e5) HA0.out) (at_bare h5) (ST3.out.ext e5) ⟨by omega, by omega⟩)
    clear hf hr
    go_wp2_with fail
    refine wp_region_relies (by kernel_rfl) (by kernel_rfl) (by kernel_rfl) (fun D _ w' => ¬ D 7 → Ext w3 w') (IsΨ S w.heap.size kb w3 t0 a0 c0 m cc K b off ks.length c) (fun _ => Ext.drew _) ?hs ?he
    case hs =>
      refine .cons ?h0 (.cons ?h1 (.cons ?h2 (.cons ?h3 (.cons ?h4 (.cons ?h5 (.cons ?h6 (.cons ?h7 (.cons ?h8 (.cons ?h9 .nil)))))))))
      case h0 =>
        intro A D vs w5 old dep hnd hcl hlt hG K hK
        have s2 := old 2 (by kernel_rfl)
        simp only [List.getElem?_toArray, List.getElem?_cons_succ, List.getElem?_cons_zero] at s2
        go_simp
        exact hK _ _ (fun h => hG (fun hd => h (.inr hd))) (fun _ _ _ h => h) rfl
      case h1 =>
        intro A D vs w5 old dep hnd hcl hlt hG K hK
        obtain ⟨_, e0, j0⟩ := dep 0 (by kernel_rfl)
        replace j0 := j0 69 (by kernel_rfl) (by simp)
        replace e0 : vs 0 = .pointer (some ⟨w.heap.size, 3, none⟩) := e0
        rw [e0] at j0
        have EW := (hG (fun h => hnd (hcl 2 1 (hcl 3 2 (hcl 7 3 h (by kernel_rfl)) (by kernel_rfl)) (by kernel_rfl))))
        have x3 := EW.cell x3
        go_simp
        exact hK _ _ (fun h => hG (fun hd => h (.inr hd))) (fun _ _ _ h => h) rfl
      case h2 =>
        intro A D vs w5 old dep hnd hcl hlt hG K hK
        obtain ⟨_, e1, j1⟩ := dep 1 (by kernel_rfl)
        replace j1 := j1 70 (by kernel_rfl) (by simp)
        replace e1 : vs 1 = .slice (some ⟨b, off, none⟩) ks.length c := e1
        rw [e1] at j1
        go_simp
        exact hK _ _ (fun h => hG (fun hd => h (.inr hd))) (fun _ _ _ h => h) rfl
      case h3 =>
        intro A D vs w5 old dep hnd hcl hlt hG K hK
        obtain ⟨_, e2, j2⟩ := dep 2 (by kernel_rfl)
        replace j2 := j2 71 (by kernel_rfl) (by simp)
        replace e2 : vs 2 = .pointer (some ⟨b, off, none⟩) := e2
        rw [e2] at j2
        have EW := (hG (fun h => hnd (hcl 7 3 h (by kernel_rfl))))
        have l0 := EW.cell l0
        have l1 := EW.cell l1
        have l2 := EW.cell l2
        have l3 := EW.cell l3
        go_simp
        exact hK _ _ (fun h => hG (fun hd => h (.inr hd))) (fun _ _ _ h => h) rfl
      case h4 =>
        intro A D vs w5 old dep hnd hcl hlt hG K hK
        have s5 := old 5 (by kernel_rfl)
        simp only [List.getElem?_toArray, List.getElem?_cons_succ, List.getElem?_cons_zero] at s5
        go_simp
        exact hK _ _ (fun h => hG (fun hd => h (.inr hd))) (fun _ _ _ h => h) rfl
      case h5 =>
        intro A D vs w5 old dep hnd hcl hlt hG K hK
        obtain ⟨_, e4, j4⟩ := dep 4 (by kernel_rfl)
        replace j4 := j4 73 (by kernel_rfl) (by simp)
        replace e4 : vs 4 = .int .i64 m := e4
        rw [e4] at j4
        have EW := (hG (fun h => hnd (hcl 7 5 h (by kernel_rfl))))
        go_simp
        go_at_call 47
        refine (specl1Int m w5).mono ?_
        rintro e w6 ⟨v6, rfl, ho, e6⟩
        obtain ⟨a5, c5, rfl⟩ := at_form (ho (fun _ => False))
        exact hK _ _ (fun h => EW.trans e6) (fun j u hd h => IsΨ.fr (M := fun _ => False) h (Fr.of_ext e6) (fun _ h => h)) ⟨a5, c5, rfl, ho _⟩
      case h6 =>
        intro A D vs w5 old dep hnd hcl hlt hG K hK
        have s1 := old 1 (by kernel_rfl)
        simp only [List.getElem?_toArray, List.getElem?_cons_succ, List.getElem?_cons_zero] at s1
        go_simp
        exact hK _ _ (fun h => hG (fun hd => h (.inr hd))) (fun _ _ _ h => h) rfl
      case h7 =>
        intro A D vs w5 old dep hnd hcl hlt hG K hK
        obtain ⟨_, e3, j3⟩ := dep 3 (by kernel_rfl)
        replace j3 := j3 72 (by kernel_rfl) (by simp)
        replace e3 : vs 3 = val4 t0 a0 c0 := e3
        rw [e3] at j3
        obtain ⟨_, e5, j5⟩ := dep 5 (by kernel_rfl)
        replace j5 := j5 74 (by kernel_rfl) (by simp)
        obtain ⟨_, e6, j6⟩ := dep 6 (by kernel_rfl)
        replace j6 := j6 75 (by kernel_rfl) (by simp)
        replace e6 : vs 6 = .slice (some ⟨kb, 0, none⟩) 26 26 := e6
        rw [e6] at j6
        obtain ⟨a5, c5, e5, o5⟩ := e5
        rw [e5] at j5 o5
        unfold val4 at j3 j5
        have EW := hG hnd
        have hUU := S2T.out w5 (.agg #[.int .i64 (intT m).kind, .int .i64 (intT m).n, .string (intT m).name, .slice a5 (intT m).kids.length c5]) EW o5
        go_simp
        go_at_call 60
        refine hUU.mono ?_
        rintro e w6 ⟨rfl, hk6, hf6⟩
        exact hK _ _ (fun h => absurd (.inl rfl) h) (fun j u hd h => IsΨ.fr7 h hf6 (fun hj => by subst hj; exact absurd hd hnd)) ⟨rfl, (Fr.of_ext EW).trans hf6, hk6⟩
      case h8 =>
        intro A D vs w5 old dep hnd hcl hlt hG K hK
        obtain ⟨_, e7, j7⟩ := dep 7 (by kernel_rfl)
        replace j7 := j7 76 (by kernel_rfl) (by simp)
        obtain ⟨e7, _, _⟩ := e7
        rw [e7] at j7
        go_simp
        go_at_call 81
        refine (specl5Code cc w5).mono ?_
        rintro e w6 ⟨rfl, rfl⟩
        exact hK _ _ (fun h => hG (fun hd => h (.inr hd))) (fun _ _ _ h => h) rfl
      case h9 =>
        intro A D vs w5 old dep hnd hcl hlt hG K hK
        obtain ⟨_, e8, j8⟩ := dep 8 (by kernel_rfl)
        replace j8 := j8 77 (by kernel_rfl) (by simp)
        replace e8 : vs 8 = .int .i64 (holdsN cc) := e8
        rw [e8] at j8
        go_simp
        exact hK _ _ (fun h => hG (fun hd => h (.inr hd))) (fun _ _ _ h => h) rfl
    case he =>
      intro D vs w9 hD hG hφ
      obtain ⟨e7, f7, s7⟩ : vs 7 = .bool cc ∧ Fr (fun k => k = kb) w3 w9 ∧ Kn S w9 kb K := hφ 7 (by show 7 < 10; decide)
      have e9 : vs 9 = .int .i64 (holdsN cc) := hφ 9 (by show 9 < 10; decide)
      have F9 := Lib.hid ((Fr.of_ext (E2.out.trans E3.out)).trans f7)
      have S9 := Lib.hid s7
      clear hD hG hφ f7 s7
      simp only [putO, Act.put, List.setIfInBounds_toArray, List.set_cons_zero, List.set_cons_succ]
      rw [e9]
      clear e9 e7
      go_wp2_with fail
      go_ret
      exact ⟨by rw [HF2.out]; rfl, F9.out, fun _ => by rw [HF2.out]; exact S9.out⟩
  · have hcn : (code != 0) = true := by simpa using hc
    have HF2 : Hid (callR s.toList ks = (code, known0)) := Lib.hid (by rw [HF.out]; unfold isR; rw [HM.out]; simp [hc])
    clear hc
    go_wp2_with fail
    go_ret
    exact ⟨by rw [HF2.out]; rfl, Fr.of_ext (E2.out.trans E3.out), fun _ => by rw [HF2.out]; exact ST3.out⟩

end Go.Proofs.Ytdelhgodhkbjdaa
