/-
  The reference's unification: l3Unify.
-/
import Derived.StillTailTactics
import Derived.Test.YtdelhgodhkbjdaaMg41
namespace Go.Proofs.Ytdelhgodhkbjdaa
open Go.RowKit
set_option linter.unusedVariables false

/-- what l3Unify leaves -/
def SUniP (S : Nat → Prop) (kb : Nat) (K1 : List Tm) (c : Bool) (w : World) (e : Ending) (w' : World) : Prop := e = .returned (.bool c) ∧ Kn S w' kb K1 ∧ Fr (fun k => k = kb) w w'
def SUniC (K : List Tm) (a b : Tm) (K1 : List Tm) (c : Bool) : Prop := ∀ (va vb : Value) (S : Nat → Prop) (w : World) (kb kc : Nat), (∀ b, S b → b < w.heap.size) → Tm.at S w a va → Tm.at S w b vb → Kn S w kb K → CapOk kc →
  Calls Try.prog 60 #[va, vb, .slice (some ⟨kb, 0, none⟩) 26 kc] w (SUniP S kb K1 c w)
theorem SUniP.from {S : Nat → Prop} {kb : Nat} {K1 : List Tm} {c : Bool} {w w1 w2 : World} {e : Ending} (h : SUniP S kb K1 c w1 e w2) (g : Fr (fun k => k = kb) w w1) : SUniP S kb K1 c w e w2 := ⟨h.1, h.2.1, g.trans h.2.2⟩

def SUniI (f : Nat) : Prop := ∀ (K : List Tm) (a b : Tm) (c : Bool) (K1 : List Tm) (d e : Nat), uniF f K a b = some (c, K1) → VK K → (∃ ρ, Rk K ρ) → SzK K → shapeF a d = true → shapeF b e = true → Tm.sz a ≤ 120 → Tm.sz b ≤ 120 → SUniC K a b K1 c
def sameHead (x y : Tm) : Prop := x.kind = y.kind ∧ x.n = y.n ∧ x.name = y.name ∧ x.kids.length = y.kids.length
/-- what comes of the two ends -/
structure SRes (f : Nat) (K : List Tm) (x y : Tm) (c : Bool) (K1 : List Tm) : Prop where
  one : x.kind = 1 → y.kind = 1 → x.n = y.n → c = true ∧ K1 = K
  occ : x.kind = 1 → ¬ (y.kind = 1 ∧ x.n = y.n) → occB K x.n y = true → c = false ∧ K1 = K
  set : x.kind = 1 → ¬ (y.kind = 1 ∧ x.n = y.n) → occB K x.n y = false → c = true ∧ K1 = K.set x.n.toNat y
  swap : x.kind ≠ 1 → y.kind = 1 → SUniC K y x K1 c
  no : x.kind ≠ 1 → y.kind ≠ 1 → ¬ sameHead x y → c = false ∧ K1 = K
  kids : x.kind ≠ 1 → y.kind ≠ 1 → sameHead x y → uniL f K x.kids y.kids = some (c, K1) ∧ SUniI f

set_option maxRecDepth 100000 in
set_option maxHeartbeats 16000000 in
theorem specUni1 (F f : Nat) (K : List Tm) (a b x y : Tm) (c : Bool) (K1 : List Tm) (hx : walkF F K a = some x) (hy : walkF F K b = some y) (d e : Nat) (hv : VK K) (hr : ∃ ρ, Rk K ρ) (hz : SzK K) (hsa : shapeF a d = true) (hsb : shapeF b e = true) (hza : Tm.sz a ≤ 120) (hzb : Tm.sz b ≤ 120) (hres : SRes f K x y c K1) :
    SUniC K a b K1 c := by
  intro va vb S w kb kc hB ha hb hk hc
  have hcc := hc
  obtain ⟨d1, hsx⟩ := walk_shape hv hsa hx
  obtain ⟨e1, hsy⟩ := walk_shape hv hsb hy
  have hzy := walk_sz hz hv hsb hzb hy
  have HX := Lib.hid hx
  have HY := Lib.hid hy
  have HV := Lib.hid hv
  have HZ := Lib.hid hz
  have HSA := Lib.hid hsa
  have HSB := Lib.hid hsb
  have HSX := Lib.hid hsx
  have HSY := Lib.hid hsy
  have HZY := Lib.hid hzy
  have HB := Lib.hid hB
  have HTA := Lib.hid ha
  have HTB := Lib.hid hb
  have HKN := Lib.hid hk
  have lkb := hk.lt
  have hN0 := Lib.hid hk.1
  have HC := Lib.hid hcc
  obtain ⟨hc1, hc2⟩ := hc
  obtain ⟨ax, ac, rfl⟩ := at_form ha
  obtain ⟨bx, bc, rfl⟩ := at_form hb
  have HRES := Lib.hid hres
  have HR := Lib.hid hr
  have hzx := walk_sz hz hv hsa hza hx
  have HZX := Lib.hid hzx
  clear hx hy hv hz hsa hsb hza hzb hsx hsy hzy hB ha hb hk hcc hres hr hzx
  go_enter Try.func60, Try.ntmps60
  go_wp2_with fail
  obtain ⟨w2, hw2⟩ : ∃ z, z = (w.alloc (.cells #[.int .i64 a.kind, .int .i64 a.n, .string a.name, .slice ax a.kids.length ac] 25)).alloc (.cells #[.int .i64 b.kind, .int .i64 b.n, .string b.name, .slice bx b.kids.length bc] 25) := ⟨_, rfl⟩
  have E2 : Hid (Ext w w2) := Lib.hid (by rw [hw2]; exact (Ext.alloc _ _).trans (Ext.alloc _ _))
  have X2 : Hid (BoxT w2 w.heap.size (.int .i64 a.kind) (.int .i64 a.n) (.string a.name) (.slice ax a.kids.length ac)) := Lib.hid (by rw [hw2]; exact (BoxT.new _ _ _ _ _ _ rfl).ext (Ext.alloc _ _))
  have Y2 : Hid (BoxT w2 (w.heap.size + 1) (.int .i64 b.kind) (.int .i64 b.n) (.string b.name) (.slice bx b.kids.length bc)) := Lib.hid (by rw [hw2]; exact BoxT.new _ _ _ _ _ _ (by simp))
  rw [← hw2]
  clear hw2
  refine (specl3Walk F K a x HX.out _ S w2 kb kc d HV.out HSA.out (fun b hb => Nat.lt_of_lt_of_le (HB.out b hb) (Below.size E2.out)) (Tm.at_ext E2.out HTA.out) (HKN.out.ext E2.out) HC.out).mono ?_
  rintro e w3 ⟨v3, rfl, hv3, e3⟩
  obtain ⟨px, pc, rfl⟩ := at_form hv3
  have E3 := Lib.hid (E2.out.trans e3)
  have X3 := Lib.hid (X2.out.ext e3)
  have Y3 := Lib.hid (Y2.out.ext e3)
  have AX3 := Lib.hid hv3
  obtain ⟨x0, x1, x2, x3, _, _, _, _⟩ := X3.out
  have ly3 : w.heap.size + 1 < w3.heap.size := Y3.out.lt
  obtain ⟨y0, y1, y2, y3, _, _, _, _⟩ := Y3.out
  clear e3 hv3
  go_upto_region 2 with (fail)
  obtain ⟨w4, hw4⟩ : ∃ z, z = (((w3.setCell ⟨w.heap.size, 0, none⟩ (.int .i64 x.kind)).setCell ⟨w.heap.size, 1, none⟩ (.int .i64 x.n)).setCell ⟨w.heap.size, 2, none⟩ (.string x.name)).setCell ⟨w.heap.size, 3, none⟩ (.slice px x.kids.length pc) := ⟨_, rfl⟩
  have F4 : Hid (Fr (fun k => k = w.heap.size) w3 w4) := Lib.hid (by rw [hw4]; exact put4_frw w3 _ _ _ _ rfl)
  have X4 : Hid (BoxT w4 w.heap.size (.int .i64 x.kind) (.int .i64 x.n) (.string x.name) (.slice px x.kids.length pc)) := Lib.hid (by rw [hw4]; exact BoxT.put4w X3.out _ _ _ _)
  rw [← hw4]
  clear hw4 x0 x1 x2 x3 y0 y1 y2 y3
  have Y4 := Lib.hid (Y3.out.fr F4.out (by omega))
  have E4 := Lib.hid (((Fr.of_ext E3.out).trans F4.out).toExt (fun k hk h => by omega))
  have AX4 := Lib.hid (F4.out.at AX3.out (fun k hk h => by have := HB.out k hk; omega))
  obtain ⟨y0, y1, y2, y3, _, _, _, _⟩ := Y4.out
  have hx4 : w.heap.size < w4.heap.size := X4.out.lt
  have hy4 : w.heap.size + 1 < w4.heap.size := Y4.out.lt
  go_wp2_with fail
  refine (specl3Walk F K b y HY.out _ S w4 kb kc e HV.out HSB.out (fun b hb => Nat.lt_of_lt_of_le (HB.out b hb) (Below.size E4.out)) (Tm.at_ext E4.out HTB.out) (HKN.out.ext E4.out) HC.out).mono ?_
  rintro e w5 ⟨v5, rfl, hv5, e5⟩
  obtain ⟨qx, qc, rfl⟩ := at_form hv5
  have E5 := Lib.hid (E4.out.trans e5)
  have X5 := Lib.hid (X4.out.ext e5)
  have Y5 := Lib.hid (Y4.out.ext e5)
  have AX5 := Lib.hid (Tm.at_ext e5 AX4.out)
  have AY5 := Lib.hid hv5
  clear e5 hv5 y0 y1 y2 y3
  obtain ⟨y0, y1, y2, y3, _, _, _, _⟩ := Y5.out
  have hx5 : w.heap.size < w5.heap.size := X5.out.lt
  have hy5 : w.heap.size + 1 < w5.heap.size := Y5.out.lt
  go_upto_region 3 with (fail)
  obtain ⟨w6, hw6⟩ : ∃ z, z = (((w5.setCell ⟨w.heap.size + 1, 0, none⟩ (.int .i64 y.kind)).setCell ⟨w.heap.size + 1, 1, none⟩ (.int .i64 y.n)).setCell ⟨w.heap.size + 1, 2, none⟩ (.string y.name)).setCell ⟨w.heap.size + 1, 3, none⟩ (.slice qx y.kids.length qc) := ⟨_, rfl⟩
  have F6 : Hid (Fr (fun k => k = w.heap.size + 1) w5 w6) := Lib.hid (by rw [hw6]; exact put4_frw w5 _ _ _ _ rfl)
  have Y6 : Hid (BoxT w6 (w.heap.size + 1) (.int .i64 y.kind) (.int .i64 y.n) (.string y.name) (.slice qx y.kids.length qc)) := Lib.hid (by rw [hw6]; exact BoxT.put4w Y5.out _ _ _ _)
  rw [← hw6]
  clear hw6 y0 y1 y2 y3
  have X6 := Lib.hid (X5.out.fr F6.out (by omega))
  have E6 := Lib.hid (((Fr.of_ext E5.out).trans F6.out).toExt (fun k hk h => by omega))
  have AX := Lib.hid (F6.out.at AX5.out (fun k hk h => by have := HB.out k hk; omega))
  have AY := Lib.hid (F6.out.at AY5.out (fun k hk h => by have := HB.out k hk; omega))
  have KN := Lib.hid (HKN.out.ext E6.out)
  have HB6 : Hid (∀ b, S b → b < w6.heap.size) := Lib.hid (fun b hb => Nat.lt_of_lt_of_le (HB.out b hb) (Below.size E6.out))
  have SAME : Hid (∀ w', Ext w6 w' → ∀ c', c = c' ∧ K1 = K → SUniP S kb K1 c w (.returned (.bool c')) w') := Lib.hid (fun w' e' c' h => by
    obtain ⟨rfl, rfl⟩ := h
    exact ⟨rfl, KN.out.ext e', Fr.of_ext (E6.out.trans e')⟩)
  have F06 := Lib.hid (Fr.of_ext (M := fun k => k = kb) E6.out)
  clear AX3 AX4 AX5 AY5 X3 X4 X5 Y3 Y4 Y5 F4 F6 E3 E4 E5 HTA HTB
  obtain ⟨x0, x1, x2, x3, _, _, _, _⟩ := X6.out
  obtain ⟨y0, y1, y2, y3, _, _, _, _⟩ := Y6.out
  have hx6 : w.heap.size < w6.heap.size := X6.out.lt
  have hy6 : w.heap.size + 1 < w6.heap.size := Y6.out.lt
  by_cases h1 : x.kind = 1
  · have q1 : (x.kind == 1) = true := by simp [h1]
    by_cases h2 : y.kind = 1 ∧ x.n = y.n
    · have HH := Lib.hid (HRES.out.one h1 h2.1 h2.2)
      have q2 : (y.kind == 1) = true := by simp [h2.1]
      have q3 : (x.n == y.n) = true := by simp [h2.2]
      clear h1 h2
      go_wp2_with fail
      go_ret
      exact SAME.out _ (Ext.refl _) _ HH.out
    · have hpre : (y.kind == 1) = false ∨ ((y.kind == 1) = true ∧ (x.n == y.n) = false) := by
        by_cases h3 : y.kind = 1
        · exact .inr ⟨by simp [h3], by simpa using fun h => h2 ⟨h3, h⟩⟩
        · exact .inl (by simpa using h3)
      obtain ⟨bo, hbo⟩ : ∃ b, occB K x.n y = b := ⟨_, rfl⟩
      have HO : Hid (bo = true → c = false ∧ K1 = K) := Lib.hid (fun h => HRES.out.occ h1 h2 (hbo.trans h))
      have HSET : Hid (bo = false → c = true ∧ K1 = K.set x.n.toNat y) := Lib.hid (fun h => HRES.out.set h1 h2 (hbo.trans h))
      have hnb := shape_occ HSX.out h1
      have WI := Lib.hid (fun (w' : World) (e' : Ext w6 w') => specl3Within K x.n y (.agg #[.int .i64 y.kind, .int .i64 y.n, .string y.name, .slice qx y.kids.length qc]) S w' kb kc _ HV.out HZ.out HSY.out HZY.out (fun b hb => Nat.lt_of_lt_of_le (HB6.out b hb) (Below.size e')) (Tm.at_ext e' AY.out) (KN.out.ext e') HC.out)
      rw [hbo] at WI
      clear h1 h2 hbo
      rcases hpre with q2 | ⟨q2, q3⟩
      all_goals
        go_wp2_with fail
        refine (WI.out _ (Ext.refl _)).mono ?_
        rintro e7 w7 ⟨rfl, e7⟩
        have E7 := Lib.hid e7
        have X7 := Lib.hid (X6.out.ext e7)
        have Y7 := Lib.hid (Y6.out.ext e7)
        have KN7 := Lib.hid (KN.out.ext e7)
        have AY7 := Lib.hid (Tm.at_ext e7 AY.out)
        clear e7 x0 x1 x2 x3 y0 y1 y2 y3
        obtain ⟨x0, x1, x2, x3, _, _, _, _⟩ := X7.out
        obtain ⟨y0, y1, y2, y3, _, _, _, _⟩ := Y7.out
        cases bo
        · obtain ⟨xn, hxn⟩ : ∃ xn, x.n = xn := ⟨_, rfl⟩
          rw [hxn] at hnb x1
          have HXN := Lib.hid hxn
          obtain ⟨hn0, hn1⟩ := hnb
          obtain ⟨ra, rc, q0', q1', q2', q3', hat, z0, z1, z2, z3⟩ := KN7.out.look ⟨hn0, hn1⟩
          obtain ⟨N, rfl⟩ := Int.eq_ofNat_of_zero_le hn0
          have hN : N < 26 := by omega
          have hN2 : (N : Int) < 26 := by omega
          simp only [Int.toNat_natCast] at q0' q1' q2' q3' z0 z1 z2 z3
          have HST := Lib.hid (KN7.out.set ⟨hn0, hn1⟩ AY7.out)
          clear hat hxn
          go_wp2_with fail
          go_ret
          obtain ⟨h1, h2⟩ := HSET.out (by first | rfl | trivial)
          rw [h1, h2, HXN.out]
          have h3 := HST.out
          simp only [Int.toNat_natCast] at h3 ⊢
          exact ⟨rfl, h3, (F06.out.trans (Fr.of_ext E7.out)).trans (Fr.of_grown (set4o_grown _ _ _ _ _ _ _) (fun k e => by cases e; rfl))⟩
        · go_wp2_with fail
          go_ret
          exact SAME.out _ E7.out _ (HO.out (by first | rfl | trivial))
  · have q1 : (x.kind == 1) = false := by simpa using h1
    by_cases h2 : y.kind = 1
    · have q2 : (y.kind == 1) = true := by simp [h2]
      have SW := Lib.hid (HRES.out.swap h1 h2)
      clear h1 h2
      go_wp2_with fail
      refine (SW.out _ _ S w6 kb kc HB6.out AY.out AX.out KN.out HC.out).mono ?_
      rintro e7 w7 h7
      have H7 := Lib.hid (h7.from F06.out)
      obtain ⟨rfl, _⟩ := h7
      go_wp2_with fail
      go_ret
      exact H7.out
    · have q2 : (y.kind == 1) = false := by simpa using h2
      by_cases h3 : sameHead x y
      · obtain ⟨HU, HIH⟩ := HRES.out.kids h1 h2 h3
        have HU := Lib.hid HU
        have HIH := Lib.hid HIH
        obtain ⟨g1, g2, g3, g4⟩ := h3
        have q3 : (x.kind != y.kind) = false := by simp [g1]
        have q4 : (x.n != y.n) = false := by simp [g2]
        have q5 : (x.name.toList == y.name.toList) = true := by simp [g3]
        have q6 : ((x.kids.length : Int) != (y.kids.length : Int)) = false := by simp [g4]
        have HL4 := Lib.hid g4
        have KX := Lib.hid (kids_shape HSX.out)
        have KY := Lib.hid (kids_shape HSY.out)
        have HSM : Hid (∀ k, S k → ¬ k = kb) := Lib.hid (fun k hk h => hN0.out (h ▸ hk))
        clear h1 h2 g1 g2 g3 g4
        go_wp2_with fail
        go_loopw [7] (fun i wr => ∃ (j : Nat) (Kj : List Tm), j ≤ x.kids.length ∧ i = .int .i64 j ∧ Hid (uniL f Kj (x.kids.drop j) (y.kids.drop j) = some (c, K1)) ∧ Hid (VK Kj ∧ (∃ ρ, Rk Kj ρ) ∧ SzK Kj) ∧ Hid (Kn S wr kb Kj ∧ Fr (fun k => k = kb) w6 wr)) (fun i _ => x.kids.length - (intOf i).toNat)
        case atStart => exact ⟨0, K, Nat.zero_le _, rfl, HU, Lib.hid ⟨HV.out, HR.out, HZ.out⟩, Lib.hid ⟨KN.out, Fr.refl _ _⟩⟩
        case round =>
          obtain ⟨j, Kj, hj, rfl, HUj, HVj, HWj⟩ := hrel
          obtain ⟨_, _, _, xa, _, _, _, _⟩ := X6.out.fr HWj.out.2 (by omega)
          obtain ⟨_, _, _, ya, _, _, _, _⟩ := Y6.out.fr HWj.out.2 (by omega)
          have hwj := HWj.out.2.size
          have F0j := Lib.hid (F06.out.trans HWj.out.2)
          by_cases hlt : j < x.kids.length
          · obtain ⟨t, htk⟩ := getk hlt
            have hly : j < y.kids.length := by have := HL4.out; omega
            obtain ⟨u, huk⟩ := getk hly
            have hu1 := HUj.out
            rw [List.drop_eq_getElem_cons hlt, List.drop_eq_getElem_cons hly, uniL_cons] at hu1
            rw [show x.kids[j] = t from (List.getElem?_eq_some_iff.1 htk).2, show y.kids[j] = u from (List.getElem?_eq_some_iff.1 huk).2] at hu1
            obtain ⟨c2, K2, hq⟩ : ∃ c2 K2, uniF f Kj t u = some (c2, K2) := by
              cases hq : uniF f Kj t u with
              | none => rw [hq] at hu1; simp at hu1
              | some r => exact ⟨r.1, r.2, rfl⟩
            rw [hq] at hu1
            have sht := shapeL_mem KX.out (List.mem_of_getElem? htk)
            have shu := shapeL_mem KY.out (List.mem_of_getElem? huk)
            have szt : Tm.sz t ≤ 120 := by have := sz_kid htk; have := HZX.out; omega
            have szu : Tm.sz u ≤ 120 := by have := sz_kid huk; have := HZY.out; omega
            have HIC := Lib.hid (HIH.out Kj t u c2 K2 _ _ hq HVj.out.1 HVj.out.2.1 HVj.out.2.2 sht shu szt szu)
            have HGD : Hid (c2 = true → Good Kj K2 ∧ SzK K2) := Lib.hid (fun h => by
              subst h
              exact ⟨outF f Kj t u _ _ K2 HVj.out.1 HVj.out.2.1 sht shu hq, sz_uni f Kj t u _ _ K2 HVj.out.1 HVj.out.2.1 HVj.out.2.2 sht shu szt szu hq⟩)
            obtain ⟨_, sv, e6, hsx⟩ := Tm.at_iff.1 AX.out
            obtain ⟨_, sv', e7, hsy⟩ := Tm.at_iff.1 AY.out
            simp only [Value.agg.injEq, Array.mk.injEq, List.cons.injEq, and_true, true_and] at e6 e7
            subst e6 e7
            obtain ⟨_, _, e8, hcx, _, hlx, r4⟩ := HWj.out.2.sl hsx HSM.out
            cases e8
            obtain ⟨_, _, e8, hcy, _, hly2, r4'⟩ := HWj.out.2.sl hsy HSM.out
            cases e8
            obtain ⟨b6, off6, a1, c1, rfl, hSb, k1, k2, k3, k4, hat1⟩ := tget r4 htk
            obtain ⟨b7, off7, a2, c3, rfl, hSb', m1, m2, m3, m4, hat2⟩ := tget r4' huk
            have V1 := Lib.hid (Tm.at_ext (Ext.drew wr) hat1)
            have V2 := Lib.hid (Tm.at_ext (Ext.drew wr) hat2)
            have WD := Lib.hid (HWj.out.1.ext (Ext.drew wr))
            have HBD : Hid (∀ b, S b → b < wr.drew.heap.size) := Lib.hid (fun b h => by have h1 : wr.drew.heap.size = wr.heap.size := rfl; have := HB6.out b h; omega)
            have HU1 := Lib.hid hu1
            have xa' : wr.drew.cell? _ = _ := xa
            have ya' : wr.drew.cell? _ = _ := ya
            have l1' : wr.drew.cell? _ = _ := k1
            have l2' : wr.drew.cell? _ = _ := k2
            have l3' : wr.drew.cell? _ = _ := k3
            have l4' : wr.drew.cell? _ = _ := k4
            have n1' : wr.drew.cell? _ = _ := m1
            have n2' : wr.drew.cell? _ = _ := m2
            have n3' : wr.drew.cell? _ = _ := m3
            have n4' : wr.drew.cell? _ = _ := m4
            clear r4 r4' htk huk hu1 hq sht shu hat1 hat2 hsx hsy
            cases c2
            all_goals
              go_wp2_with fail
              go_still_tail 11, (by kernel_rfl)
              change wpList _ _ _ _ _ wr.drew
              go_wp2_with fail
              refine (HIC.out _ _ S _ kb kc HBD.out V1.out V2.out WD.out HC.out).mono ?_
              rintro e5 w5 ⟨rfl, hp, ht⟩
              have I1 := Lib.hid hp
              have I2 := Lib.hid ((Fr.drew (M := fun k => k = kb) wr).trans ht)
              clear hp ht
              go_wp2_with fail
            · go_ret
              have hh := HU1.out
              simp only [Option.some.injEq, Prod.mk.injEq] at hh
              obtain ⟨rfl, rfl⟩ := hh
              exact ⟨rfl, I1.out, F0j.out.trans I2.out⟩
            · have hg := HGD.out (by first | rfl | trivial)
              exact ⟨⟨j + 1, K2, by omega, by go_num, HU1, Lib.hid ⟨hg.1.1, hg.1.2.1, hg.2⟩, Lib.hid ⟨I1.out, HWj.out.2.trans I2.out⟩⟩, by simp [intOf]; omega⟩
          · have hjj : j = x.kids.length := by omega
            subst hjj
            have HE : Hid (c = true ∧ K1 = Kj) := Lib.hid (by
              have hh := HUj.out
              rw [List.drop_of_length_le (Nat.le_refl _), uniL_nil] at hh
              simp only [Option.some.injEq, Prod.mk.injEq] at hh
              exact ⟨hh.1.symm, hh.2.symm⟩)
            go_wp2_with fail
            go_ret
            rw [HE.out.1, HE.out.2]
            exact ⟨rfl, HWj.out.1, F0j.out⟩
      · have HH := Lib.hid (HRES.out.no h1 h2 h3)
        have hpre : (x.kind != y.kind) = true ∨ ((x.kind != y.kind) = false ∧ (x.n != y.n) = true) ∨ ((x.kind != y.kind) = false ∧ (x.n != y.n) = false ∧ (x.name.toList == y.name.toList) = false) ∨ ((x.kind != y.kind) = false ∧ (x.n != y.n) = false ∧ (x.name.toList == y.name.toList) = true ∧ ((x.kids.length : Int) != (y.kids.length : Int)) = true) := by
          by_cases g1 : x.kind = y.kind
          · by_cases g2 : x.n = y.n
            · by_cases g3 : x.name = y.name
              · refine .inr (.inr (.inr ⟨by simp [g1], by simp [g2], by simp [g3], ?_⟩))
                have : ¬ x.kids.length = y.kids.length := fun h => h3 ⟨g1, g2, g3, h⟩
                simp [bne]
                omega
              · exact .inr (.inr (.inl ⟨by simp [g1], by simp [g2], beq_false_of_ne (fun h => g3 (bl_ext h))⟩))
            · exact .inr (.inl ⟨by simp [g1], by simpa [bne] using g2⟩)
          · exact .inl (by simpa [bne] using g1)
        clear h1 h2 h3
        rcases hpre with q3 | ⟨q3, q4⟩ | ⟨q3, q4, q5⟩ | ⟨q3, q4, q5, q6⟩
        all_goals
          go_wp2_with fail
          go_ret
          exact SAME.out _ (Ext.refl _) _ HH.out

/-- an unbound variable and something else -/
theorem specUniV (F : Nat) (K : List Tm) (x y : Tm) (d e : Nat) (hv : VK K) (hr : ∃ ρ, Rk K ρ) (hz : SzK K) (hsx : shapeF x d = true) (hsy : shapeF y e = true) (hzx : Tm.sz x ≤ 120) (hzy : Tm.sz y ≤ 120) (hx : walkF (F + 1) K x = some x) (hy : walkF (F + 1) K y = some y) (hx1 : x.kind = 1) (hy1 : y.kind ≠ 1) (c : Bool) (K1 : List Tm)
    (hc1 : OccT K x.n y → c = false ∧ K1 = K) (hc2 : ¬ OccT K x.n y → c = true ∧ K1 = K.set x.n.toNat y) : SUniC K x y K1 c := by
  refine specUni1 (F + 1) 0 K x y x y c K1 hx hy d e hv hr hz hsx hsy hzx hzy ⟨fun _ h => absurd h hy1, fun _ _ h => ?_, fun _ _ h => ?_, fun h => absurd hx1 h, fun h => absurd hx1 h, fun h => absurd hx1 h⟩
  · exact hc1 (occB_iff.1 h)
  · exact hc2 (fun h2 => by rw [occB_true h2] at h; cases h)
theorem walk_stay {K : List Tm} {f : Nat} {t x : Tm} (h : walkF f K t = some x) (F : Nat) : walkF (F + 1) K x = some x := by rw [walkF, if_neg (walk_end h)]
theorem specl3Unify : ∀ f, SUniI f
  | 0 => fun K a b c K1 d e h => by unfold uniF at h; simp at h
  | f + 1 => by
    intro K a b c K1 d e h hv hr hz ha hb sa sb
    obtain ⟨x, y, hx, hy⟩ := uniF_walks h
    obtain ⟨d1, hsx⟩ := walk_shape hv ha hx
    obtain ⟨e1, hsy⟩ := walk_shape hv hb hy
    have zx := walk_sz hz hv ha sa hx
    have zy := walk_sz hz hv hb sb hy
    rw [uniF_succ hx hy] at h
    refine specUni1 f f K a b x y c K1 hx hy d e hv hr hz ha hb sa sb ⟨fun h1 h2 h3 => ?_, fun h1 h2 h3 => ?_, fun h1 h2 h3 => ?_, fun h1 h2 => ?_, fun h1 h2 h3 => ?_, fun h1 h2 h3 => ?_⟩
    · rw [if_pos ⟨h1, h2, h3⟩] at h
      simp only [Option.some.injEq, Prod.mk.injEq] at h
      exact ⟨h.1.symm, h.2.symm⟩
    · rw [if_neg (fun h => h2 h.2), if_pos h1, if_pos (occB_iff.1 h3)] at h
      simp only [Option.some.injEq, Prod.mk.injEq] at h
      exact ⟨h.1.symm, h.2.symm⟩
    · rw [if_neg (fun h => h2 h.2), if_pos h1, if_neg (fun h2 => by rw [occB_true h2] at h3; cases h3)] at h
      simp only [Option.some.injEq, Prod.mk.injEq] at h
      exact ⟨h.1.symm, h.2.symm⟩
    · rw [if_neg (fun h => h1 h.1), if_neg h1, if_pos h2] at h
      refine specUniV 0 K y x _ _ hv hr hz hsy hsx zy zx (walk_stay hy 0) (walk_stay hx 0) h2 h1 c K1 (fun ho => ?_) (fun ho => ?_)
      · rw [if_pos ho] at h
        simp only [Option.some.injEq, Prod.mk.injEq] at h
        exact ⟨h.1.symm, h.2.symm⟩
      · rw [if_neg ho] at h
        simp only [Option.some.injEq, Prod.mk.injEq] at h
        exact ⟨h.1.symm, h.2.symm⟩
    · rw [if_neg (fun h => h1 h.1), if_neg h1, if_neg h2, if_neg (show ¬ (x.kind = y.kind ∧ x.n = y.n ∧ x.name = y.name ∧ x.kids.length = y.kids.length) from h3)] at h
      simp only [Option.some.injEq, Prod.mk.injEq] at h
      exact ⟨h.1.symm, h.2.symm⟩
    · rw [if_neg (fun h => h1 h.1), if_neg h1, if_neg h2, if_pos (show x.kind = y.kind ∧ x.n = y.n ∧ x.name = y.name ∧ x.kids.length = y.kids.length from h3)] at h
      exact ⟨h, specl3Unify f⟩
end Go.Proofs.Ytdelhgodhkbjdaa
