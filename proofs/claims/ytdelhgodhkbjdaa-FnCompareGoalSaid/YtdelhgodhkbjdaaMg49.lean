/-
  The reference's l5Solve: '\\='.
-/
import Derived.Test.YtdelhgodhkbjdaaMg48
namespace Go.Proofs.Ytdelhgodhkbjdaa
open Go.RowKit
set_option linter.unusedVariables false

/-- while the reference tries '\\=' on a copy: what holds of the world .. -/
def NeG (S : Nat → Prop) (W : World) (D : Nat → Prop) (vs : Nat → Value) (w : World) : Prop :=
  Ext W w ∧ (D 8 → ¬ D 10 → w.ownsRow 0 25 4 (vs 8) 0 []) ∧ (D 10 → ¬ D 11 → ∀ nb kc, vs 10 = .slice (some ⟨nb, 0, none⟩) 26 kc → Kn S w nb known0)
/-- .. and what each operation leaves -/
def NeΦ (A b off len c kb : Nat) (W : World) (t0 t1 : Tm) (a0 a1 : Option Addr) (c0 c1 : Nat) (cc : Bool) (i : Nat) (v : Value) (w : World) : Prop :=
  match i with
  | 0 => v = .pointer (some ⟨A, 3, none⟩)
  | 1 => v = .slice (some ⟨b, off, none⟩) len c
  | 2 => v = .pointer (some ⟨b, off, none⟩)
  | 3 => v = val4 t0 a0 c0
  | 4 => v = .pointer (some ⟨A, 3, none⟩)
  | 5 => v = .slice (some ⟨b, off, none⟩) len c
  | 6 => v = .pointer (some ⟨b, off + 4, none⟩)
  | 7 => v = val4 t1 a1 c1
  | 8 => ∃ nb, v = .slice (some ⟨nb, 0, none⟩) 0 0 ∧ W.heap.size ≤ nb
  | 9 => v = .slice (some ⟨kb, 0, none⟩) 26 26
  | 10 => ∃ nb kc, v = .slice (some ⟨nb, 0, none⟩) 26 kc ∧ CapOk kc ∧ W.heap.size ≤ nb
  | 11 => v = .bool cc
  | 12 => v = .bool (!cc)
  | _ => v = .int .i64 (holdsN (!cc))
theorem NeΦ.any {A b off len c kb : Nat} {W : World} {t0 t1 : Tm} {a0 a1 : Option Addr} {c0 c1 : Nat} {cc : Bool} {i : Nat} {v : Value} {w w' : World} (h : NeΦ A b off len c kb W t0 t1 a0 a1 c0 c1 cc i v w) : NeΦ A b off len c kb W t0 t1 a0 a1 c0 c1 cc i v w' := h
theorem NeΦ.ext {A b off len c kb : Nat} {W : World} {t0 t1 : Tm} {a0 a1 : Option Addr} {c0 c1 : Nat} {cc : Bool} {i : Nat} {v : Value} {w w' : World} (h : NeΦ A b off len c kb W t0 t1 a0 a1 c0 c1 cc i v w) (e : Ext w w') : NeΦ A b off len c kb W t0 t1 a0 a1 c0 c1 cc i v w' := h.any
theorem NeΦ.fr {A b off len c kb nb : Nat} {W : World} {t0 t1 : Tm} {a0 a1 : Option Addr} {c0 c1 : Nat} {cc : Bool} {i : Nat} {v : Value} {w w' : World} (h : NeΦ A b off len c kb W t0 t1 a0 a1 c0 c1 cc i v w) (f : Fr (fun k => k = nb) w w') (hn : W.heap.size ≤ nb) : NeΦ A b off len c kb W t0 t1 a0 a1 c0 c1 cc i v w' := h.any
theorem NeG.same {S : Nat → Prop} {W : World} {D : Nat → Prop} {vs : Nat → Value} {w : World} {i : Nat} {v : Value} (h : NeG S W D vs w) (h8 : i ≠ 8) (h10 : i ≠ 10) : NeG S W (fun k => k = i ∨ D k) (fun k => if k = i then v else vs k) w := by
  refine ⟨h.1, fun hd hn => ?_, fun hd hn nb kc hv => ?_⟩
  · dsimp only
    rw [if_neg (fun e : 8 = i => h8 e.symm)]
    exact h.2.1 (hd.resolve_left (fun e => h8 e.symm)) (fun hd => hn (.inr hd))
  · dsimp only at hv
    rw [if_neg (fun e : 10 = i => h10 e.symm)] at hv
    exact h.2.2 (hd.resolve_left (fun e => h10 e.symm)) (fun hd => hn (.inr hd)) nb kc hv
theorem NeG.mk8 {S : Nat → Prop} {W : World} {D : Nat → Prop} {vs : Nat → Value} {w : World} (h : NeG S W D vs w) : NeG S W (fun k => k = 8 ∨ D k) (fun k => if k = 8 then .slice (some ⟨w.heap.size, 0, none⟩) 0 0 else vs k) (w.alloc (.cells #[] 25)) := by
  refine ⟨h.1.trans (Ext.alloc _ _), fun _ _ => ?_, fun hd hn nb kc hv => ?_⟩
  · dsimp only
    rw [if_pos rfl]
    exact own_low (own_empty rfl) (Nat.zero_le _)
  · dsimp only at hv
    rw [if_neg (by decide)] at hv
    exact (h.2.2 (hd.resolve_left (by decide)) (fun hd => hn (.inr hd)) nb kc hv).ext (Ext.alloc _ _)
theorem NeG.mk10 {S : Nat → Prop} {W : World} {D : Nat → Prop} {vs : Nat → Value} {w w' : World} {nb8 nb kc : Nat} (h : NeG S W D vs w) (f : Fr (fun k => k = nb8) w w') (h8 : W.heap.size ≤ nb8) (hk : Kn S w' nb known0) : NeG S W (fun k => k = 10 ∨ D k) (fun k => if k = 10 then .slice (some ⟨nb, 0, none⟩) 26 kc else vs k) w' := by
  refine ⟨((Fr.of_ext h.1).trans f).toExt (fun k hk h => by omega), fun _ hn => absurd (.inl rfl) hn, fun _ _ nb' kc' hv => ?_⟩
  dsimp only at hv
  rw [if_pos rfl] at hv
  simp only [Value.slice.injEq, Option.some.injEq, Addr.mk.injEq, and_true, true_and] at hv
  rw [← hv.1]; exact hk
theorem NeG.mk11 {S : Nat → Prop} {W : World} {D : Nat → Prop} {vs : Nat → Value} {w w' : World} {nb : Nat} {v : Value} (h : NeG S W D vs w) (f : Fr (fun k => k = nb) w w') (hn : W.heap.size ≤ nb) (hd10 : D 10 := by assumption) : NeG S W (fun k => k = 11 ∨ D k) (fun k => if k = 11 then v else vs k) w' :=
  ⟨((Fr.of_ext h.1).trans f).toExt (fun k hk h => by omega), fun _ hn => absurd (.inr hd10) hn, fun _ hn => absurd (.inl rfl) hn⟩
/-- the cells of a row of terms, and a row that holds the same -/
theorem Kn.copy {S : Nat → Prop} {w : World} {kb : Nat} {K : List Tm} (h : Kn S w kb K) : ∃ news : List Value, news.length = 26 * 4 ∧ (∀ j u, news[j]? = some u → w.cell? ((⟨kb, 0, none⟩ : Addr).add j) = some u) ∧ (∀ u ∈ news, u.oneCell' = true) ∧
    ∀ (w' : World) (v : Value), w'.ownsRow 0 25 4 v 26 news → (∀ b, S b → w.heap[b]? = w'.heap[b]?) → (∀ g, v.ownBlock = some g → ¬ S g) → ∃ nb kc, v = .slice (some ⟨nb, 0, none⟩) 26 kc ∧ CapOk kc ∧ v.ownBlock = some nb ∧ Kn S w' nb K := by
  obtain ⟨h0, hl, h⟩ := h
  have hcell : ∀ j, j < 104 → ∃ u, w.cell? ⟨kb, j, none⟩ = some u ∧ u.oneCell' = true := by
    intro j hj
    obtain ⟨t, ht⟩ := getk (ts := K) (k := j / 4) (by omega)
    obtain ⟨⟨sv, c0, c1, c2, c3, _, a, cap, e, _⟩, _⟩ := And.intro (Tm.cells_iff.1 (h _ t ht).1) trivial
    have hm : j = j / 4 * 4 + j % 4 := by omega
    have : j % 4 = 0 ∨ j % 4 = 1 ∨ j % 4 = 2 ∨ j % 4 = 3 := by omega
    rcases this with h4 | h4 | h4 | h4
    · rw [h4] at hm; rw [hm]; exact ⟨_, c0, rfl⟩
    · rw [h4] at hm; rw [hm]; exact ⟨_, c1, rfl⟩
    · rw [h4] at hm; rw [hm]; exact ⟨_, c2, rfl⟩
    · rw [h4] at hm; rw [hm]; exact ⟨_, c3, by rw [e]; rfl⟩
  have hnew : ∀ j, j < 104 → w.cell? ⟨kb, j, none⟩ = ((List.range 104).map (fun j => (w.cell? ⟨kb, j, none⟩).getD undef))[j]? := by
    intro j hj
    obtain ⟨u, hu, _⟩ := hcell j hj
    simp [hj, hu]
  refine ⟨(List.range 104).map (fun j => (w.cell? ⟨kb, j, none⟩).getD undef), by rw [List.length_map, List.length_range], fun j u hj => ?_, fun u hu => ?_, fun w' v how hsame hvS => ?_⟩
  · have hj2 : j < 104 := by have := (List.getElem?_eq_some_iff.1 hj).1; rw [List.length_map, List.length_range] at this; exact this
    rw [addr_add, Nat.zero_add, hnew j hj2]; exact hj
  · obtain ⟨j, hj, e⟩ := List.getElem_of_mem hu
    have hj2 : j < 104 := by rw [List.length_map, List.length_range] at hj; exact hj
    obtain ⟨u', hu', ho⟩ := hcell j hj2
    simp only [List.getElem_map, List.getElem_range, hu', Option.getD_some] at e
    rw [← e]; exact ho
  · have hcap := how.2
    rcases hcap with ⟨_, h2⟩ | ⟨g, cap, cur, rfl, h3, h4, h5, h6, h7, h8⟩
    · omega
    refine ⟨g, cap, rfl, ⟨h5, by simp only [maxLen] at h6; omega⟩, rfl, hvS g rfl, hl, fun i t ht => ?_⟩
    have hi : i < 26 := by have := (List.getElem?_eq_some_iff.1 ht).1; omega
    have hag : Agree S w w' := fun k o v hk hc => by
      have hb := hsame k hk
      rw [World.cell?_of_block (w := w) (a := ⟨k, o, none⟩) hb.symm]; exact hc
    have hc2 : ∀ j, j < 104 → w'.cell? ⟨g, j, none⟩ = w.cell? ⟨kb, j, none⟩ := fun j hj => by
      rw [how.cellAt j (by omega), hnew j hj]
    obtain ⟨sv, c0, c1, c2, c3, c4, c5⟩ := Tm.cells_iff.1 (h i t ht).1
    refine ⟨Tm.cells_iff.2 ⟨sv, ?_, ?_, ?_, ?_, c4, Tm.sl_mono (fun _ h => h) hag c5⟩, fun j hj => how.frozenAt _⟩
    · rw [hc2 _ (by omega)]; exact c0
    · rw [hc2 _ (by omega)]; exact c1
    · rw [hc2 _ (by omega)]; exact c2
    · rw [hc2 _ (by omega)]; exact c3
set_option maxRecDepth 100000 in
set_option maxHeartbeats 8000000 in
theorem specl5_ne (n : Int) (s : ByteArray) (ks : List Tm) (v : Value) (S : Nat → Prop) (w : World) (kb : Nat) (hs : s.toList = [92, 61]) (hl : ks.length = 2) (hsh : shapeL ks 29 = true) (hsz : Tm.szL ks ≤ 119) (hB : ∀ b, S b → b < w.heap.size) (ht : Tm.at S w (.mk 3 n s ks) v) (hst : Kn S w kb known0) :
    Calls Try.prog 44 #[v, .slice (some ⟨kb, 0, none⟩) 26 26] w (CallK S kb (callR s.toList ks) w) := by
  have HF : Hid (callR s.toList ks = (holdsN (!(uniR (kidAt ks 0) (kidAt ks 1)).1), known0)) := Lib.hid (by unfold callR; rw [hs]; simp)
  have HB := Lib.hid hB
  have HT := Lib.hid ht
  have HST := Lib.hid hst
  have HSH := Lib.hid hsh
  have HSZ := Lib.hid hsz
  have lkb := hst.lt
  have HL := Lib.hid hl
  have HKB := Lib.hid hst.1
  obtain ⟨hs1, sv, rfl, a, c, rfl, h1, h2, h3, h4⟩ := Tm.at_iff.1 ht
  have H4 := Lib.hid h4
  simp only [Tm.kind, Tm.n, Tm.name, Tm.kids] at HT H4 ⊢
  clear hB ht hst hsh h4 h1 h2 h3 hl hsz
  go_enter Try.func44, Try.ntmps44
  go_upto_region 1 with (fail)
  obtain ⟨w2, hw2⟩ : ∃ z, z = w.alloc (.cells #[.int .i64 3, .int .i64 n, .string s, .slice a ks.length c] 25) := ⟨_, rfl⟩
  have E2 : Hid (Ext w w2) := Lib.hid (by rw [hw2]; exact Ext.alloc _ _)
  have X2 : Hid (BoxT w2 w.heap.size (.int .i64 3) (.int .i64 n) (.string s) (.slice a ks.length c)) := Lib.hid (by rw [hw2]; exact BoxT.new _ _ _ _ _ _ rfl)
  rw [← hw2]
  clear hw2
  have ST2 := Lib.hid (HST.out.ext E2.out)
  obtain ⟨x0, x1, x2, x3, _, _, _, _⟩ := X2.out
  have lx2 := X2.out.lt
  have hk0 : 0 < ks.length := by have := HL.out; omega
  obtain ⟨b, off, a0, c0, rfl, hSb0, l0, l1, l2, l3, hat0, hg0⟩ := kids1 H4.out hk0
  simp only [Nat.zero_mul, Nat.add_zero] at l0 l1 l2 l3
  have l0 := E2.out.cell l0
  have l1 := E2.out.cell l1
  have l2 := E2.out.cell l2
  have l3 := E2.out.cell l3
  have HA0 := Lib.hid (Tm.at_ext E2.out hat0)
  have SH0 := Lib.hid (shapeL_mem HSH.out (List.mem_of_getElem? hg0))
  have SZ0 := Lib.hid (sz_le120 HSZ.out hg0)
  clear hat0 hg0
  obtain ⟨t0, ht0⟩ : ∃ t, kidAt ks 0 = t := ⟨_, rfl⟩
  rw [ht0] at l0 l1 l2 l3 HA0 SH0 SZ0 HF
  clear ht0
  have hk1 : 1 < ks.length := by have := HL.out; omega
  obtain ⟨b1, off1, a1, c1, e1, hSb1, m0, m1, m2, m3, hat1, hg1⟩ := kids1 H4.out hk1
  cases e1
  simp only [Nat.one_mul] at m0 m1 m2 m3
  have hk1i : (1 : Int) < (ks.length : Int) := by omega
  have m0 := E2.out.cell m0
  have m1 := E2.out.cell m1
  have m2 := E2.out.cell m2
  have m3 := E2.out.cell m3
  have HA1 := Lib.hid (Tm.at_ext E2.out hat1)
  have SH1 := Lib.hid (shapeL_mem HSH.out (List.mem_of_getElem? hg1))
  have SZ1 := Lib.hid (sz_le120 HSZ.out hg1)
  clear hat1 hg1
  obtain ⟨t1, ht1⟩ : ∃ t, kidAt ks 1 = t := ⟨_, rfl⟩
  rw [ht1] at m0 m1 m2 m3 HA1 SH1 SZ1 HF
  clear ht1
  obtain ⟨f, hf⟩ := uniR_spec SH0.out SH1.out
  obtain ⟨cc, K, hr⟩ : ∃ c K, uniR t0 t1 = (c, K) := ⟨_, _, rfl⟩
  rw [hr] at hf HF
  have HU := Lib.hid hf
  clear hf hr
  obtain ⟨i0, hi, hz0, hz1, hz2⟩ := info_parts info_term3
  have HI := Lib.hid hi
  have HZ := Lib.hid hz0
  have HZ1 := Lib.hid hz1
  have HZ2 := Lib.hid hz2
  clear hi hz0 hz1 hz2
  have lw2 := Below.size E2.out
  have S2T : Hid (∀ (w5 : World) (nb kc : Nat), Ext w2 w5 → CapOk kc → w2.heap.size ≤ nb → Kn S w5 nb known0 → Calls Try.prog 60 #[val4 t0 a0 c0, val4 t1 a1 c1, .slice (some ⟨nb, 0, none⟩) 26 kc] w5 (fun e w' => e = .returned (.bool cc) ∧ Kn S w' nb K ∧ Fr (fun k => k = nb) w5 w')) := Lib.hid (fun w5 nb kc e5 hkc _ hkn =>
    specl3Unify f known0 t0 t1 cc K 29 29 HU.out vk0 rk0 szk0 SH0.out SH1.out SZ0.out SZ1.out _ _ S w5 nb kc (fun b hb => by have := HB.out b hb; have := Below.size e5; omega) (Tm.at_ext e5 HA0.out) (Tm.at_ext e5 HA1.out) hkn hkc)
  have KNC : Hid (∀ w5, Ext w2 w5 → ∃ news : List Value, news.length = 26 * 4 ∧ (∀ j u, news[j]? = some u → w5.cell? ((⟨kb, 0, none⟩ : Addr).add j) = some u) ∧ (∀ u ∈ news, u.oneCell' = true) ∧
      ∀ (w6 : World) (v : Value), w6.ownsRow 0 25 4 v 26 news → ∀ {nb8 : Nat}, w5.grownBy w6 (some nb8) → w2.heap.size ≤ nb8 → (∀ g, v.ownBlock = some g → w2.heap.size ≤ g) → ∃ nb kc, v = .slice (some ⟨nb, 0, none⟩) 26 kc ∧ CapOk kc ∧ w2.heap.size ≤ nb ∧ Kn S w6 nb known0) := Lib.hid (fun w5 e5 => by
    obtain ⟨news, h1, h2, h3, h4⟩ := Kn.copy (ST2.out.ext e5)
    refine ⟨news, h1, h2, h3, fun w6 v how nb8 hg h8 hvo => ?_⟩
    obtain ⟨nb, kc, e, hk, ho, hkn⟩ := h4 w6 v how (fun b hb => by
      have h1 := HB.out b hb
      have h2 := Below.size e5
      exact (hg.block b (by omega) (fun e => by simp at e; omega)).symm) (fun g hg2 hS => by have := hvo g hg2; have := HB.out g hS; omega)
    exact ⟨nb, kc, e, hk, hvo nb ho, hkn⟩)
  go_wp2_with fail
  refine wp_region_relies (by kernel_rfl) (by kernel_rfl) (by kernel_rfl) (fun D vs w' => NeG S w2 D vs w') (NeΦ w.heap.size b off ks.length c kb w2 t0 t1 a0 a1 c0 c1 cc) ⟨Ext.drew _, fun h => h.elim, fun h => h.elim⟩ ?hs ?he
  case hs =>
    refine .cons ?h0 (.cons ?h1 (.cons ?h2 (.cons ?h3 (.cons ?h4 (.cons ?h5 (.cons ?h6 (.cons ?h7 (.cons ?h8 (.cons ?h9 (.cons ?h10 (.cons ?h11 (.cons ?h12 (.cons ?h13 (.cons ?h14 .nil))))))))))))))
    case h0 =>
      intro A D vs w5 old dep hnd hcl hlt hG K hK
      have s2 := old 2 (by kernel_rfl)
      simp only [List.getElem?_toArray, List.getElem?_cons_succ, List.getElem?_cons_zero] at s2
      go_simp
      exact hK _ _ (NeG.same hG (by decide) (by decide)) (fun _ _ _ h => h) rfl
    case h1 =>
      intro A D vs w5 old dep hnd hcl hlt hG K hK
      obtain ⟨_, e0, j0⟩ := dep 0 (by kernel_rfl)
      replace j0 := j0 30 (by kernel_rfl) (by simp)
      replace e0 : vs 0 = .pointer (some ⟨w.heap.size, 3, none⟩) := e0
      rw [e0] at j0
      have EW := hG.1
      have x3 := EW.cell x3
      go_simp
      exact hK _ _ (NeG.same hG (by decide) (by decide)) (fun _ _ _ h => h) rfl
    case h2 =>
      intro A D vs w5 old dep hnd hcl hlt hG K hK
      obtain ⟨_, e1, j1⟩ := dep 1 (by kernel_rfl)
      replace j1 := j1 31 (by kernel_rfl) (by simp)
      replace e1 : vs 1 = .slice (some ⟨b, off, none⟩) ks.length c := e1
      rw [e1] at j1
      go_simp
      exact hK _ _ (NeG.same hG (by decide) (by decide)) (fun _ _ _ h => h) rfl
    case h3 =>
      intro A D vs w5 old dep hnd hcl hlt hG K hK
      obtain ⟨_, e2, j2⟩ := dep 2 (by kernel_rfl)
      replace j2 := j2 32 (by kernel_rfl) (by simp)
      replace e2 : vs 2 = .pointer (some ⟨b, off, none⟩) := e2
      rw [e2] at j2
      have EW := hG.1
      have l0 := EW.cell l0
      have l1 := EW.cell l1
      have l2 := EW.cell l2
      have l3 := EW.cell l3
      go_simp
      exact hK _ _ (NeG.same hG (by decide) (by decide)) (fun _ _ _ h => h) rfl
    case h4 =>
      intro A D vs w5 old dep hnd hcl hlt hG K hK
      have s2 := old 2 (by kernel_rfl)
      simp only [List.getElem?_toArray, List.getElem?_cons_succ, List.getElem?_cons_zero] at s2
      go_simp
      exact hK _ _ (NeG.same hG (by decide) (by decide)) (fun _ _ _ h => h) rfl
    case h5 =>
      intro A D vs w5 old dep hnd hcl hlt hG K hK
      obtain ⟨_, e4, j4⟩ := dep 4 (by kernel_rfl)
      replace j4 := j4 34 (by kernel_rfl) (by simp)
      replace e4 : vs 4 = .pointer (some ⟨w.heap.size, 3, none⟩) := e4
      rw [e4] at j4
      have EW := hG.1
      have x3 := EW.cell x3
      go_simp
      exact hK _ _ (NeG.same hG (by decide) (by decide)) (fun _ _ _ h => h) rfl
    case h6 =>
      intro A D vs w5 old dep hnd hcl hlt hG K hK
      obtain ⟨_, e5, j5⟩ := dep 5 (by kernel_rfl)
      replace j5 := j5 35 (by kernel_rfl) (by simp)
      replace e5 : vs 5 = .slice (some ⟨b, off, none⟩) ks.length c := e5
      rw [e5] at j5
      go_simp
      exact hK _ _ (NeG.same hG (by decide) (by decide)) (fun _ _ _ h => h) rfl
    case h7 =>
      intro A D vs w5 old dep hnd hcl hlt hG K hK
      obtain ⟨_, e6, j6⟩ := dep 6 (by kernel_rfl)
      replace j6 := j6 36 (by kernel_rfl) (by simp)
      replace e6 : vs 6 = .pointer (some ⟨b, off + 4, none⟩) := e6
      rw [e6] at j6
      have EW := hG.1
      have m0 := EW.cell m0
      have m1 := EW.cell m1
      have m2 := EW.cell m2
      have m3 := EW.cell m3
      go_simp
      exact hK _ _ (NeG.same hG (by decide) (by decide)) (fun _ _ _ h => h) rfl
    case h8 =>
      intro A D vs w5 old dep hnd hcl hlt hG K hK
      go_simp
      exact hK _ _ (NeG.mk8 hG) (fun j u hd h => NeΦ.ext h (Ext.alloc _ _)) ⟨_, rfl, Below.size hG.1⟩
    case h9 =>
      intro A D vs w5 old dep hnd hcl hlt hG K hK
      have s1 := old 1 (by kernel_rfl)
      simp only [List.getElem?_toArray, List.getElem?_cons_succ, List.getElem?_cons_zero] at s1
      go_simp
      exact hK _ _ (NeG.same hG (by decide) (by decide)) (fun _ _ _ h => h) rfl
    case h10 =>
      intro A D vs w5 old dep hnd hcl hlt hG K hK
      obtain ⟨hd8, e8, j8⟩ := dep 8 (by kernel_rfl)
      replace j8 := j8 38 (by kernel_rfl) (by simp)
      obtain ⟨_, e9, j9⟩ := dep 9 (by kernel_rfl)
      replace j9 := j9 39 (by kernel_rfl) (by simp)
      replace e9 : vs 9 = .slice (some ⟨kb, 0, none⟩) 26 26 := e9
      rw [e9] at j9
      obtain ⟨nb8, e8, hnb8⟩ := e8
      have hrow := hG.2.1 hd8 hnd
      rw [e8] at j8 hrow
      obtain ⟨news, hn1, hn2, hn3, hn4⟩ := KNC.out w5 hG.1
      refine step_append_fresh rfl (.tmp 38) (.tmp 39) 23 rfl 0 25 i0 _ 4 56 Try.underlying23 HI.out HZ.out HZ1.out HZ2.out rfl (by decide) (.slice (some ⟨nb8, 0, none⟩) 0 0) 0 [] (by simp [Act.eval, j8]) hrow ⟨kb, 0, none⟩ 26 26 news (by simp [Act.eval, j9]) (by rw [hn1]) hn2 hn3 (by unfold maxLen; omega) (by omega) (by omega) ?_
      intro v2 w6 ho6 hg6 hfr6
      have hv2 : ∀ g, v2.ownBlock = some g → w2.heap.size ≤ g := by
        intro g hg
        have hq := hfr6 g hg
        simp only [Value.ownBlock, Option.some.injEq] at hq
        have := Below.size hG.1
        omega
      obtain ⟨nb, kc, rfl, hkc, hnb, hkn⟩ := hn4 w6 v2 (by simpa using ho6) hg6 hnb8 hv2
      have f6 : Fr (fun k => k = nb8) w5 w6 := Fr.of_grown hg6 (fun k hk => by simp [Value.ownBlock] at hk; omega)
      exact hK _ _ (NeG.mk10 hG f6 hnb8 hkn) (fun j u hd h => NeΦ.fr h f6 hnb8) ⟨nb, kc, rfl, hkc, hnb⟩
    case h11 =>
      intro A D vs w5 old dep hnd hcl hlt hG K hK
      obtain ⟨_, e3, j3⟩ := dep 3 (by kernel_rfl)
      replace j3 := j3 33 (by kernel_rfl) (by simp)
      replace e3 : vs 3 = val4 t0 a0 c0 := e3
      rw [e3] at j3
      obtain ⟨_, e7, j7⟩ := dep 7 (by kernel_rfl)
      replace j7 := j7 37 (by kernel_rfl) (by simp)
      replace e7 : vs 7 = val4 t1 a1 c1 := e7
      rw [e7] at j7
      obtain ⟨hd10, e10, j10⟩ := dep 10 (by kernel_rfl)
      replace j10 := j10 40 (by kernel_rfl) (by simp)
      obtain ⟨nb, kc, e10, hkc, hnb⟩ := e10
      have hkn := hG.2.2 hd10 hnd nb kc e10
      rw [e10] at j10
      unfold val4 at j3 j7
      have hUU := S2T.out w5 nb kc hG.1 hkc hnb hkn
      go_simp
      go_at_call 60
      refine hUU.mono ?_
      rintro e w6 ⟨rfl, hk6, hf6⟩
      exact hK _ _ (NeG.mk11 hG hf6 hnb) (fun j u hd h => NeΦ.fr h hf6 hnb) rfl
    case h12 =>
      intro A D vs w5 old dep hnd hcl hlt hG K hK
      obtain ⟨_, e11, j11⟩ := dep 11 (by kernel_rfl)
      replace j11 := j11 41 (by kernel_rfl) (by simp)
      replace e11 : vs 11 = .bool cc := e11
      rw [e11] at j11
      go_simp
      exact hK _ _ (NeG.same hG (by decide) (by decide)) (fun _ _ _ h => h) rfl
    case h13 =>
      intro A D vs w5 old dep hnd hcl hlt hG K hK
      obtain ⟨_, e12, j12⟩ := dep 12 (by kernel_rfl)
      replace j12 := j12 42 (by kernel_rfl) (by simp)
      replace e12 : vs 12 = .bool (!cc) := e12
      rw [e12] at j12
      go_simp
      go_at_call 81
      refine (specl5Code (!cc) w5).mono ?_
      rintro e w6 ⟨rfl, rfl⟩
      exact hK _ _ (NeG.same hG (by decide) (by decide)) (fun _ _ _ h => h) rfl
    case h14 =>
      intro A D vs w5 old dep hnd hcl hlt hG K hK
      obtain ⟨_, e13, j13⟩ := dep 13 (by kernel_rfl)
      replace j13 := j13 43 (by kernel_rfl) (by simp)
      replace e13 : vs 13 = .int .i64 (holdsN (!cc)) := e13
      rw [e13] at j13
      go_simp
      exact hK _ _ (NeG.same hG (by decide) (by decide)) (fun _ _ _ h => h) rfl
  case he =>
    intro D vs w9 hD hG hφ
    have e14 : vs 14 = .int .i64 (holdsN (!cc)) := hφ 14 (by show 14 < 15; decide)
    have E9 := Lib.hid (E2.out.trans hG.1)
    clear hD hG hφ
    simp only [putO, Act.put, List.setIfInBounds_toArray, List.set_cons_zero, List.set_cons_succ]
    rw [e14]
    clear e14
    go_wp2_with fail
    go_ret
    exact ⟨by rw [HF.out]; rfl, Fr.of_ext E9.out, fun _ => by rw [HF.out]; exact HST.out.ext E9.out⟩


theorem specl5Solve (n : Int) (s : ByteArray) (ks : List Tm) (v : Value) (S : Nat → Prop) (w : World) (kb : Nat) (hb : isBuiltinF s.toList ks.length = true) (hsh : shapeL ks 29 = true) (hsz : Tm.szL ks ≤ 119) (hB : ∀ b, S b → b < w.heap.size) (ht : Tm.at S w (.mk 3 n s ks) v) (hst : Kn S w kb known0) :
    Calls Try.prog 44 #[v, .slice (some ⟨kb, 0, none⟩) 26 26] w (CallK S kb (callR s.toList ks) w) := by
  rcases builtin_names hb with ⟨hs, hl⟩ | ⟨hs, hl⟩ | ⟨hs, hl⟩ | ⟨hs, hl⟩
  · rcases hs with hs | hs | hs | hs | hs
    · exact specl5_eq n s ks v S w kb hs hl hsh hsz hB ht hst
    · exact specl5_ne n s ks v S w kb hs hl hsh hsz hB ht hst
    · exact specl5_same n s ks v S w kb hs hl hsh hsz hB ht hst
    · exact specl5_is n s ks v S w kb hs hl hsh hsz hB ht hst
    · exact specl5_cmp n s ks v S w kb hs hl hsh hsz hB ht hst
  · rcases hs with hs | hs
    · exact specl5_true n s ks v S w kb hs hl hsh hsz hB ht hst
    · exact specl5_fail n s ks v S w kb hs hl hsh hsz hB ht hst
  · rcases hs with hs | hs | hs | hs
    · exact specl5_var n s ks v S w kb hs hl hsh hsz hB ht hst
    · exact specl5_nonvar n s ks v S w kb hs hl hsh hsz hB ht hst
    · exact specl5_atom n s ks v S w kb hs hl hsh hsz hB ht hst
    · exact specl5_int n s ks v S w kb hs hl hsh hsz hB ht hst
  · exact specl5_arg n s ks v S w kb hs hl hsh hsz hB ht hst
theorem callR_ok {s : List UInt8} {ks : List Tm} (hb : isBuiltinF s ks.length = true) (hsh : shapeL ks 29 = true) (h0 : (callR s ks).1 = 0) : VK (callR s ks).2 ∧ ∃ ρ, Rk (callR s ks).2 ρ := by
  have k0 : VK known0 ∧ ∃ ρ, Rk known0 ρ := ⟨vk0, rk0⟩
  rcases builtin_names hb with ⟨hs, hl⟩ | ⟨hs, hl⟩ | ⟨hs, hl⟩ | ⟨hs, hl⟩
  · rcases hs with hs | hs | hs | hs | hs
    · have hF : callR s ks = (holdsN (uniR (kidAt ks 0) (kidAt ks 1)).1, (uniR (kidAt ks 0) (kidAt ks 1)).2) := by unfold callR; rw [hs]; simp
      rw [hF] at h0 ⊢
      exact uniR_ok (kid_shape hsh (by omega)) (kid_shape hsh (by omega)) h0
    · rw [show (callR s ks).2 = known0 by unfold callR; rw [hs]; simp]; exact k0
    · rw [show (callR s ks).2 = known0 by unfold callR; rw [hs]; simp]; exact k0
    · have hF : callR s ks = isR (kidAt ks 0) (kidAt ks 1) := by unfold callR; rw [hs]; simp
      rw [hF] at h0 ⊢
      unfold isR at h0 ⊢
      split
      · exact k0
      · rename_i hc
        rw [if_neg hc] at h0
        exact uniR_ok (kid_shape hsh (by omega)) (arF_shape (kid_shape hsh (i := 1) (by omega)) rfl) h0
    · rw [show (callR s ks).2 = known0 by unfold callR; rcases hs with hs | hs | hs | hs | hs <;> (rw [hs]; simp)]; exact k0
  · rcases hs with hs | hs <;> (rw [show (callR s ks).2 = known0 by unfold callR; rw [hs]; simp]; exact k0)
  · rcases hs with hs | hs | hs | hs <;> (rw [show (callR s ks).2 = known0 by unfold callR; rw [hs]; simp]; exact k0)
  · have hF : callR s ks = argR (kidAt ks 0) (kidAt ks 1) (kidAt ks 2) := by unfold callR; rw [hs]; simp
    rw [hF] at h0 ⊢
    unfold argR at h0 ⊢
    split
    · exact k0
    · rename_i h1
      rw [if_neg h1] at h0
      split
      · exact k0
      · rename_i h2
        rw [if_neg h2] at h0
        split
        · exact k0
        · rename_i h3
          rw [if_neg h3] at h0
          have h4 := Classical.not_not.1 h3
          exact uniR_ok (kid_shape hsh (by omega)) (kid_shape (kids_shape (kid_shape hsh (i := 1) (by omega))) (by omega)) h0
set_option maxRecDepth 100000 in
set_option maxHeartbeats 16000000 in
theorem specCallBuiltin (t : Tm) (v : Value) (S : Nat → Prop) (w : World) (ht : Tm.at S w t v) :
    Calls Try.prog 13 #[v] w (BdBO (cbR t) (.int .i64 (cbN t)) w) := by
  replace ht := Tm.at_bound ht
  obtain ⟨S, hB, ht⟩ : ∃ S : Nat → Prop, (∀ b, S b → b < w.heap.size) ∧ Tm.at S w t v := ⟨_, fun b hb => hb.2, ht⟩
  obtain ⟨k, n, s, ks⟩ := t
  have HT := Lib.hid ht
  have HB := Lib.hid hB
  obtain ⟨hs1, sv, rfl, a, c, rfl, h1, h2, h3, h4⟩ := Tm.at_iff.1 ht
  simp only [Tm.kind, Tm.n, Tm.name, Tm.kids] at HT ⊢
  clear ht hB h1 h2 h3 h4
  obtain ⟨i0, hi, hz0, hz1, hz2⟩ := bind_parts info_bind
  have HI := Lib.hid hi
  have HZ := Lib.hid hz0
  have HZ1 := Lib.hid hz1
  have HZ2 := Lib.hid hz2
  clear hi hz0 hz1 hz2
  obtain ⟨b1, hb1⟩ : ∃ x, validF (.mk k n s ks) = x := ⟨_, rfl⟩
  have HB1 := Lib.hid hb1
  clear hb1
  go_enter Try.func13, Try.ntmps13
  go_upto_region 2 with (fail)
  obtain ⟨w2, hw2⟩ : ∃ z, z = (w.alloc (.cells #[.int .i64 k, .int .i64 n, .string s, .slice a ks.length c] 25)).alloc (.cells #[] 36) := ⟨_, rfl⟩
  have E2 : Hid (Ext w w2) := Lib.hid (by rw [hw2]; exact (Ext.alloc _ _).trans (Ext.alloc _ _))
  have X2 : Hid (BoxT w2 w.heap.size (.int .i64 k) (.int .i64 n) (.string s) (.slice a ks.length c)) := Lib.hid (by rw [hw2]; exact (BoxT.new _ _ _ _ _ _ rfl).ext (Ext.alloc _ _))
  have NN : Hid (OwnB (fun b => w.heap.size ≤ b) [] (.slice (some ⟨w.heap.size + 1, 0, none⟩) 0 0) w2) := Lib.hid (by rw [hw2]; exact OwnB.empty (by simp) (by omega))
  rw [← hw2]
  clear hw2
  have NO := Lib.hid (fun (z : Int) (hz : z ≠ 0) (h : cbN (.mk k n s ks) = z) (w' : World) (e : Ext w2 w') => (show BdBO (cbR (.mk k n s ks)) (.int .i64 (cbN (.mk k n s ks))) w (.returned (.tuple #[.slice (some ⟨w.heap.size + 1, 0, none⟩) 0 0, .int .i64 z])) w' from ⟨_, 0, by rw [cbR_no (by rw [h]; exact hz), h]; rfl, by rw [cbR_no (by rw [h]; exact hz)]; exact NN.out.ext e, E2.out.trans e⟩))
  obtain ⟨x0, x1, x2, x3, _, _, _, _⟩ := X2.out
  have lx2 := X2.out.lt
  go_wp2_with fail
  refine (specTermValid (.mk k n s ks) _ S w2 (Tm.at_ext E2.out HT.out)).mono ?_
  rw [HB1.out]
  rintro e w3 ⟨rfl, e3⟩
  have E3 := Lib.hid e3
  have X3 := Lib.hid (X2.out.ext e3)
  clear e3 x0 x1 x2 x3
  obtain ⟨x0, x1, x2, x3, _, _, _, _⟩ := X3.out
  cases b1
  · have HF : Hid (cbN (.mk k n s ks) = 6) := Lib.hid (cb_no (by show (validF (.mk k n s ks) && builtF k s ks.length) = false; rw [HB1.out]; rfl))
    go_wp2_with fail
    go_ret2
    exact NO.out 6 (by decide) HF.out _ E3.out
  by_cases hk : k = 3
  case neg =>
    have hk' : (k != 3) = true := by simpa using hk
    have HF : Hid (cbN (.mk k n s ks) = 6) := Lib.hid (cb_no (by show (validF (.mk k n s ks) && builtF k s ks.length) = false; unfold builtF; rw [show (k == 3) = false by simpa using hk]; simp))
    clear hk
    go_wp2_with fail
    go_ret2
    exact NO.out 6 (by decide) HF.out _ E3.out
  subst hk
  have hk' : ((3 : Int) != 3) = false := rfl
  obtain ⟨b2, hb2⟩ : ∃ x, isBuiltinF s.toList ks.length = x := ⟨_, rfl⟩
  have HB2 := Lib.hid hb2
  clear hb2
  go_wp2_with fail
  refine (specIsBuiltin_x s ks.length _).mono ?_
  rw [HB2.out]
  rintro e w4 ⟨rfl, e4⟩
  have E4 := Lib.hid (E3.out.trans e4)
  have X4 := Lib.hid (X3.out.ext e4)
  clear e4 x0 x1 x2 x3
  obtain ⟨x0, x1, x2, x3, _, _, _, _⟩ := X4.out
  have lx4 := X4.out.lt
  cases b2
  · have HF : Hid (cbN (.mk 3 n s ks) = 6) := Lib.hid (cb_no (by show (validF (.mk 3 n s ks) && builtF 3 s ks.length) = false; unfold builtF; rw [HB2.out]; simp))
    go_wp2_with fail
    go_ret2
    exact NO.out 6 (by decide) HF.out _ E4.out
  have HG : Hid (gbF (.mk 3 n s ks) = true) := Lib.hid (by show (validF (.mk 3 n s ks) && builtF 3 s ks.length) = true; unfold builtF; rw [HB1.out, HB2.out]; rfl)
  have HSH : Hid (shapeL ks 29 = true) := Lib.hid (kids_shape (valid_shape HB1.out))
  have HSZ : Hid (Tm.szL ks ≤ 119) := Lib.hid (by have h1 := valid_sz HB1.out; simp only [Tm.sz] at h1; omega)
  obtain ⟨⟨code, K⟩, hr⟩ : ∃ p, callR s.toList ks = p := ⟨_, rfl⟩
  have HRC := Lib.hid hr
  have HN : Hid (cbN (.mk 3 n s ks) = if code ≠ 0 then code else if okU K 26 = true then 0 else 5) := Lib.hid (cb_yes HG.out hr).1
  have HRR : Hid (cbR (.mk 3 n s ks) = if code = 0 then allR K else []) := Lib.hid (cb_yes HG.out hr).2
  have hmk := make26
  clear hr
  go_upto_region 5 with (fail)
  obtain ⟨w6, hw6⟩ : ∃ z, z = w4.alloc (.cells row26 25) := ⟨_, rfl⟩
  have E6 : Hid (Ext w4 w6) := Lib.hid (by rw [hw6]; exact Ext.alloc _ _)
  have KN6 : Hid (Kn S w6 w4.heap.size known0) := Lib.hid (by rw [hw6]; exact Kn.made S w4 _ (fun h => by have := HB.out _ h; omega))
  rw [← hw6]
  clear hw6 hmk x0 x1 x2 x3
  have X6 := Lib.hid (X4.out.ext E6.out)
  obtain ⟨x0, x1, x2, x3, _, _, _, _⟩ := X6.out
  have E06 := Lib.hid (E2.out.trans (E4.out.trans E6.out))
  have l46 := KN6.out.lt
  go_wp2_with fail
  refine (specl5Solve n s ks _ S w6 _ HB2.out HSH.out HSZ.out (fun b hb => Nat.lt_of_lt_of_le (HB.out b hb) (Below.size E06.out)) (Tm.at_ext E06.out HT.out) KN6.out).mono ?_
  rw [HRC.out]
  rintro e wz ⟨rfl, f7, hk7⟩
  have E7 : Hid (Ext w2 wz) := Lib.hid (((Fr.of_ext (E4.out.trans E6.out)).trans f7).toExt (fun k hk h => by have := Below.size E4.out; omega))
  have lz : w4.heap.size < wz.heap.size := by have := f7.size; omega
  have HK7 := Lib.hid hk7
  simp only at HK7
  clear hk7 f7 x0 x1 x2 x3 KN6
  by_cases hc : code = 0
  case neg =>
    have hcn : (code != 0) = true := by simpa using hc
    have HF : Hid (cbN (.mk 3 n s ks) = code) := Lib.hid (by rw [HN.out, if_pos hc])
    have HC := Lib.hid hc
    clear hc HK7
    go_wp2_with fail
    go_ret2
    exact NO.out code HC.out HF.out _ E7.out
  subst hc
  have hcn : ((0 : Int) != 0) = false := rfl
  have hvk := callR_ok HB2.out HSH.out (by rw [HRC.out])
  rw [HRC.out] at hvk
  have HV : Hid (VK K) := Lib.hid hvk.1
  have HR : Hid (∃ ρ, Rk K ρ) := Lib.hid hvk.2
  have KN : Hid (Kn S wz w4.heap.size K) := Lib.hid (HK7.out (by first | rfl | trivial))
  have NOU := NO
  have NO := Lib.hid (fun (h : okU K 26 = false) (w' : World) (e : Ext wz w') => NOU.out 5 (by decide) (by rw [HN.out, h]; rfl) w' (E7.out.trans e))
  have YES := Lib.hid (fun (h : okU K 26 = true) (w' : World) (bs : List Bd) (av : Option Addr) (cv : Nat) (hb : bs = bdsU K 26) (ho : OwnB (fun b => wz.heap.size ≤ b) bs (.slice av bs.length cv) w') (e : Ext wz w') (en : Ending) (hen : en = .returned (.tuple #[.slice av bs.length cv, .int .i64 0])) => (show BdBO (cbR (.mk 3 n s ks)) (.int .i64 (cbN (.mk 3 n s ks))) w en w' from by
    have h1 : cbN (.mk 3 n s ks) = 0 := by rw [HN.out, h]; rfl
    have h2 : cbR (.mk 3 n s ks) = bs := by rw [HRR.out, if_pos rfl]; unfold allR; rw [h, if_pos rfl, hb]
    have lz0 := Below.size E7.out
    have lz1 := Below.size E2.out
    exact ⟨av, cv, by rw [h1, h2]; exact hen, by rw [h2]; exact ho.zone (fun b hb => by omega), E2.out.trans (E7.out.trans e)⟩))
  have HB0 := HB
  have HB := Lib.hid (fun (b : Nat) (hb : S b) => (show b < wz.heap.size from by have := HB0.out b hb; have := Below.size E7.out; have := Below.size E2.out; omega))
  obtain ⟨kb, hkb⟩ : ∃ kb, w4.heap.size = kb := ⟨_, rfl⟩
  rw [hkb] at KN lz ⊢
  clear hkb hvk HK7
  go_wp2_with fail
  go_loopw [7, 8] (fun o i wr => ∃ (j : Nat) (av : Option Addr) (cv : Nat) (bs : List Bd), j ≤ 26 ∧ i = .int .i64 j ∧ o = .slice av bs.length cv ∧ Hid (bs = bdsU K j) ∧ Hid (okU K j = true) ∧
      Hid (OwnB (fun b => wz.heap.size ≤ b ∧ b < wr.heap.size) bs (.slice av bs.length cv) wr) ∧ Hid (Ext wz wr)) (fun _ i _ => 26 - (intOf i).toNat)
  case atStart => exact ⟨0, _, 0, [], by omega, rfl, rfl, Lib.hid rfl, Lib.hid rfl, Lib.hid (OwnB.empty rfl ⟨Nat.le_refl _, by simp⟩), Lib.hid (Ext.alloc _ _)⟩
  case round =>
    obtain ⟨j, av, cv, bs, hj, rfl, rfl, HBS, HOK, HO, HE⟩ := hrel
    have lwr : wz.heap.size ≤ wr.heap.size := Below.size HE.out
    by_cases hlt : j < 26
    · have hn : 0 ≤ (j : Int) ∧ (j : Int) ≤ 25 := by omega
      have hlt2 : (j : Int) < 26 := by omega
      obtain ⟨ra, rc, q0, q1, q2, q3, hat, _, _, _, _⟩ := KN.out.look hn
      simp only [Int.toNat_natCast] at q0 q1 q2 q3
      have q0 := HE.out.cell q0
      have q1 := HE.out.cell q1
      have q2 := HE.out.cell q2
      have q3 := HE.out.cell q3
      by_cases hz : (lookK K (j : Int)).kind = 0
      · have HN : Hid (bdsU K (j + 1) = bdsU K j ∧ okU K (j + 1) = true) := Lib.hid ⟨by rw [bdsU, if_pos hz], by rw [okU, HOK.out, decide_eq_true hz]; rfl⟩
        have hz' : ((lookK K (j : Int)).kind == 0) = true := by simp [hz]
        clear hz hat
        go_wp2_with fail
        exact ⟨⟨j + 1, av, cv, bs, by omega, by go_num, rfl, Lib.hid (HBS.out.trans HN.out.1.symm), Lib.hid HN.out.2, HO, HE⟩, by simp [intOf]; omega⟩
      · obtain ⟨f, hf⟩ := resT_spec HV.out HR.out hn hz
        obtain ⟨d, hsh⟩ := HV.out.2 (j : Int) hn.1 hn.2 hz
        obtain ⟨r, hr⟩ : ∃ r, lookK K (j : Int) = r := ⟨_, rfl⟩
        obtain ⟨T, hT⟩ : ∃ T, resT K (j : Int) = T := ⟨_, rfl⟩
        have hz' : ((lookK K (j : Int)).kind == 0) = false := by simpa using hz
        rw [hr] at hat hsh hf q0 q1 q2 q3 hz'
        rw [hT] at hf
        have HSH := Lib.hid hsh
        have HAT := Lib.hid (Tm.at_ext HE.out hat)
        have HF := Lib.hid hf
        have HFV := Lib.hid (fits_valid (res_loc HV.out f r T d hsh hf))
        have HN : Hid (bdsU K (j + 1) = bdsU K j ++ [⟨(j : Int), T⟩] ∧ okU K (j + 1) = fits T 0 1) := Lib.hid ⟨by rw [bdsU, if_neg hz, hT], by rw [okU, HOK.out, decide_eq_false hz, hT]; simp⟩
        clear hz hr hT hat hsh hf
        go_wp2_with fail
        refine (specl3Full f K r T HF.out _ S wr kb 26 d 120 HSH.out (fun b hb => by have := HB.out b hb; omega) HAT.out (KN.out.ext HE.out) ⟨by omega, by omega⟩ HV.out (by omega) (by omega)).mono ?_
        rintro e w6 ⟨e6, T', l, a2, c2, rfl, ho, hl0, hl1, hcase⟩
        have E6 := Lib.hid e6
        have lw6 := Below.size e6
        clear e6 q0 q1 q2 q3
        rcases hcase with ⟨hs, rfl, rfl⟩ | ⟨hs, rfl⟩
        · have HOT := Lib.hid ho
          have hl2 : 0 ≤ 120 - (Tm.sz T' : Int) := by omega
          obtain ⟨l, hl⟩ : ∃ l, 120 - (Tm.sz T' : Int) = l := ⟨_, rfl⟩
          rw [hl] at hl2 ⊢
          clear ho hs hl hl0 hl1
          obtain ⟨bv, hbv⟩ : ∃ b, validF T' = b := ⟨_, rfl⟩
          have HBV := Lib.hid hbv
          clear hbv
          have HT8 := Lib.hid (own_flat _ _ _ (own_ext1 HOT.out (Ext.alloc w6 (.cells #[.int .i64 T'.kind, .int .i64 T'.n, .string T'.name, .slice a2 T'.kids.length c2] 25))))
          go_wp2_with fail
          refine (specTermValid T' _ _ _ HT8.out).mono ?_
          rw [HBV.out]
          rintro e w7 ⟨rfl, e7⟩
          have E67 := Lib.hid ((Ext.alloc w6 (.cells #[.int .i64 T'.kind, .int .i64 T'.n, .string T'.name, .slice a2 T'.kids.length c2] 25)).trans e7)
          have X7 := Lib.hid ((BoxT.new w6 (.int .i64 T'.kind) (.int .i64 T'.n) (.string T'.name) (.slice a2 T'.kids.length c2) 25 rfl).ext e7)
          have lw7 := Below.size E67.out
          clear e7
          cases bv
          · have HNO : Hid (okU K 26 = false) := Lib.hid (okU_no (j := j + 1) (by rw [HN.out.2, HFV.out, HBV.out]) (by omega))
            have EE := Lib.hid (HE.out.trans (E6.out.trans E67.out))
            go_wp2_with fail
            go_ret2
            exact NO.out HNO.out _ EE.out
          · have HN2 : Hid (okU K (j + 1) = true) := Lib.hid (by rw [HN.out.2, HFV.out, HBV.out])
            have EE := Lib.hid (HE.out.trans (E6.out.trans E67.out))
            have HO7 := Lib.hid (HO.out.ext (E6.out.trans E67.out))
            have HT7 := Lib.hid (own_ext1 HOT.out E67.out)
            have hl : bs.length < 1048576 := by have := bdsU_len K j; rw [HBS.out]; omega
            have hw07 : wr.heap.size ≤ w7.heap.size := by omega
            have hw0r : wz.heap.size ≤ wr.heap.size := by omega
            obtain ⟨x0, x1, x2, x3, _, _, _, _⟩ := X7.out
            have lx := X7.out.lt
            go_wp2_with (at_builtin; refine wpList_append_ob (w0 := wr) (w1 := w7) rfl (.tmp 68) (.tmp 72) 27 rfl wz.heap.size i0 Try.underlying27 HI.out HZ.out HZ1.out HZ2.out (.slice av bs.length cv) bs ⟨(j : Int), T'⟩ a2 c2 rfl HO7.out rfl HT7.out hw07 hw0r hl rfl ?_; intro av2 cv2 w8 hA2 hf2; have A8 := Lib.hid hA2; have F8 := Lib.hid hf2; clear hA2 hf2)
            have hlen : (bs ++ [(⟨(j : Int), T'⟩ : Bd)]).length = bs.length + 1 := by simp
            exact ⟨⟨j + 1, av2, cv2, bs ++ [⟨(j : Int), T'⟩], by omega, by go_num, by rw [hlen], Lib.hid (by rw [HN.out.1, HBS.out]), HN2, Lib.hid (by rw [hlen]; exact A8.out), Lib.hid (((Fr.of_ext EE.out).trans F8.out).toExt (fun k hk h => by omega))⟩, by simp [intOf]; omega⟩
        · have HNO : Hid (okU K 26 = false) := Lib.hid (okU_no (j := j + 1) (by rw [HN.out.2]; unfold fits; exact decide_eq_false (fun h => by omega)) (by omega))
          have EE := Lib.hid (HE.out.trans (E6.out.trans (Ext.alloc w6 (.cells #[.int .i64 T'.kind, .int .i64 T'.n, .string T'.name, .slice a2 T'.kids.length c2] 25))))
          go_wp2_with fail
          go_ret2
          exact NO.out HNO.out _ EE.out
    · have hjj : j = 26 := by omega
      subst hjj
      go_wp2_with fail
      go_ret2
      exact YES.out HOK.out _ bs av cv HBS.out (HO.out.zone (fun b hb => hb.1)) HE.out _ rfl

end Go.Proofs.Ytdelhgodhkbjdaa
