/-
  The program's store: a term with what its variables stand for laid in (resolving, resolve).
-/
import Derived.Deep.CutBlock
import Derived.Deep.CutRange
import Derived.Test.YtognkaebiafgbaaGreatMv44
import Derived.Test.YtognkaebiafgbaaGreatMv48
import Derived.Test.YtognkaebiafgbaaGreatMv27
namespace Go.Proofs.YtognkaebiafgbaaGreat
open Go.RowKit Go.Maps
set_option linter.unusedVariables false
abbrev zero4 : Value := .agg #[.int .i64 0, .int .i64 0, .string ⟨#[]⟩, .slice none 0 0]
def ResP (T : Tm) (c d : Int) (cb : Nat) (w : World) (e : Ending) (w' : World) : Prop :=
  Fr (fun k => k = cb) w w' ∧ w'.frozen? ⟨cb, 0, none⟩ = false ∧
  ((fits T c d = true ∧ w'.cell? ⟨cb, 0, none⟩ = some (.int .i64 (c + (Tm.sz T : Int))) ∧ ∃ a cc, e = .returned (.tuple #[.agg #[.int .i64 T.kind, .int .i64 T.n, .string T.name, .slice a T.kids.length cc], .bool true]) ∧ Tm.own (fun b => w.heap.size ≤ b) w' T (.slice a T.kids.length cc)) ∨
   (fits T c d = false ∧ e = .returned (.tuple #[zero4, .bool false])))
def ResC (K : List Tm) (t T : Tm) : Prop := ∀ (v : Value) (S : Nat → Prop) (w : World) (sb mb cb dd : Nat) (c d : Int), shapeF t dd = true → (∀ b, S b → b < w.heap.size) → Tm.at S w t v → Sto S w sb mb K → VK K → ¬ S cb → cb ≠ sb → cb ≠ mb →
  w.cell? ⟨cb, 0, none⟩ = some (.int .i64 c) → w.frozen? ⟨cb, 0, none⟩ = false → 0 ≤ c → c ≤ 120 → 1 ≤ d → d ≤ 31 →
  Calls Tryz.prog 72 #[.pointer (some ⟨sb, 0, none⟩), v, .int .i64 d, .pointer (some ⟨cb, 0, none⟩)] w (ResP T c d cb w)
structure KidR (w : World) (O R cb z : Nat) (ts : List Tm) (u0 u1 u2 : Value) (av : Option Addr) (cv : Nat) (cc : Int) (wr : World) : Prop where
  app : OwnS (fun b => z ≤ b ∧ b < wr.heap.size) ts (.slice av ts.length cv) wr
  fr : Fr (fun k => k = cb) w wr
  box : BoxT wr O u0 u1 u2 (.slice av ts.length cv)
  res : BoxT wr R (.int .i64 0) (.int .i64 0) (.string ⟨#[]⟩) (.slice none 0 0)
  cnt : wr.cell? ⟨cb, 0, none⟩ = some (.int .i64 cc)
  frz : wr.frozen? ⟨cb, 0, none⟩ = false
theorem KidR.next {w wr w1 w2 : World} {O R cb z : Nat} {ts : List Tm} {t : Tm} {u0 u1 u2 : Value} {av av2 : Option Addr} {cv cv2 : Nat} {cc c2 : Int} (h : KidR w O R cb z ts u0 u1 u2 av cv cc wr) (hO : w.heap.size ≤ O) (hOz : O < z) (hRz : R < z) (hR : R ≠ O) (hcb : cb < w.heap.size) (hRc : R ≠ cb)
    (f1 : Fr (fun k => k = cb) wr w1) (hc : w1.cell? ⟨cb, 0, none⟩ = some (.int .i64 c2)) (hfz : w1.frozen? ⟨cb, 0, none⟩ = false)
    (hA : OwnS (fun b => z ≤ b ∧ b < w2.heap.size) (ts ++ [t]) (.slice av2 (ts.length + 1) cv2) w2) (hf : Fr (fun b => z ≤ b) w1 w2) : KidR w O R cb z (ts ++ [t]) u0 u1 u2 av2 cv2 c2 (w2.setCell ⟨O, 3, none⟩ (.slice av2 (ts.length + 1) cv2)) := by
  have hlen : (ts ++ [t]).length = ts.length + 1 := by simp
  have hl1 : cb < w1.heap.size := block_lt_of_cell hc
  refine ⟨?_, ?_, ?_, ?_, ?_, ?_⟩
  · rw [hlen]
    exact hA.mono (M := fun k => k = O) (fun b hb => ⟨hb.1, by simpa [World.setCell] using hb.2⟩) (Fr.setCell _ rfl) (fun b hb h => by omega)
  · have g : Fr (fun k => k = cb ∨ w.heap.size ≤ k) w (w2.setCell ⟨O, 3, none⟩ (.slice av2 (ts.length + 1) cv2)) := ((h.fr.mono (fun k _ h => .inl h)).trans (f1.mono (fun k _ h => .inl h))).trans ((hf.mono (fun k _ h => .inr (by omega))).trans (Fr.setCell _ (.inr hO)))
    exact g.mono (fun k hk h => h.elim id (fun h => absurd hk (by omega)))
  · rw [hlen]
    exact ((h.box.fr f1 (by omega)).fr hf (by omega)).set3 _
  · exact ((h.res.fr f1 (by omega)).fr hf (by omega)).fr (M := fun k => k = O) (Fr.setCell _ rfl) hR
  · exact (Fr.setCell (M := fun k => k = O) w2 rfl).cell (by omega) (hf.cell (by omega) hc)
  · rw [World.frozen?_setCell]; exact hf.frozen hl1 (by omega) hfz
set_option maxRecDepth 100000 in
set_option maxHeartbeats 8000000 in
theorem implresolving : ∀ (f : Nat) (K : List Tm) (t T : Tm), resF f K t = some T → ResC K t T := by
  intro f
  induction f with
  | zero => intro K t T h; unfold resF at h; simp at h
  | succ f ih =>
    intro K t T h v S w sb mb cb dd c d hsh hB ht hst hv hcS hcs hcm hcell hfz hc0 hc1 hd0 hd1
    obtain ⟨g, x, ks, e, hx, hks, rfl⟩ := resF_walk h
    cases e
    have HB := Lib.hid hB
    have HT := Lib.hid ht
    have HST := Lib.hid hst
    have HV := Lib.hid hv
    have HX := Lib.hid hx
    obtain ⟨d', hsx⟩ := walk_shape hv hsh hx
    have SX := Lib.hid hsx
    have SH := Lib.hid hsh
    obtain ⟨hlen, hat0⟩ := resL_at hks
    have HLEN := Lib.hid hlen
    have HKS := Lib.hid hat0
    have IH := Lib.hid ih
    have hcb := block_lt_of_cell hcell
    simp only at hcb
    have hsb := hst.1
    have lsb := hst.lt
    have hst_mb : Hid (mb < w.heap.size) := Lib.hid (by obtain ⟨m0, _, hkm⟩ := hst.km; exact hkm.lt)
    have HCS := Lib.hid hcS
    obtain ⟨a, ca, rfl⟩ := at_form ht
    clear hB ht hst hv hx hsx hsh hlen hat0 ih h hks
    go_enter Tryz.func72, Tryz.ntmps72
    go_wp2_with fail
    have hsz2 : w.heap.size + 2 ≤ ((w.alloc (.cells #[.int .i64 t.kind, .int .i64 t.n, .string t.name, .slice a t.kids.length ca] 26)).alloc (.cells #[.int .i64 0, .int .i64 0, .string ⟨#[]⟩, .slice none 0 0] 26)).heap.size := by simp
    have E2 := Lib.hid ((Ext.alloc w (.cells #[.int .i64 t.kind, .int .i64 t.n, .string t.name, .slice a t.kids.length ca] 26)).trans (Ext.alloc _ (.cells #[.int .i64 0, .int .i64 0, .string ⟨#[]⟩, .slice none 0 0] 26)))
    have X2 := Lib.hid ((BoxT.new w (.int .i64 t.kind) (.int .i64 t.n) (.string t.name) (.slice a t.kids.length ca) 26 rfl).ext (Ext.alloc _ (.cells #[.int .i64 0, .int .i64 0, .string ⟨#[]⟩, .slice none 0 0] 26)))
    have R2 := Lib.hid (BoxT.new (w.alloc (.cells #[.int .i64 t.kind, .int .i64 t.n, .string t.name, .slice a t.kids.length ca] 26)) (.int .i64 0) (.int .i64 0) (.string ⟨#[]⟩) (.slice none 0 0) 26 (b := w.heap.size + 1) (by simp))
    refine (implwalk _ _ _ _ HX.out _ S _ sb mb _ HV.out SH.out (fun b hb => by have := HB.out b hb; omega) (Tm.at_ext E2.out HT.out) (HST.out.ext E2.out)).mono ?_
    rintro e w3 ⟨v3, rfl, hv3, e3⟩
    obtain ⟨a3, c3, rfl⟩ := at_form hv3
    have E3 := Lib.hid (E2.out.trans e3)
    have X3 := Lib.hid (X2.out.ext e3)
    have R3 := Lib.hid (R2.out.ext e3)
    have AX3 := Lib.hid hv3
    have k3 := E3.out.cell hcell
    have f3 := E3.out.frozen hcb hfz
    have hsz3 : w.heap.size + 2 ≤ w3.heap.size := Nat.le_trans hsz2 (Below.size e3)
    have hne1 : ¬ cb = w.heap.size := by omega
    have hne2 : ¬ w.heap.size = cb := by omega
    obtain ⟨x0, x1, x2, x3, xf0, xf1, xf2, xf3⟩ := X3.out
    clear e3 hv3
    go_upto_region 2 with (fail)
    obtain ⟨w4, hw4⟩ : ∃ z, z = (((w3.setCell ⟨w.heap.size, 0, none⟩ (.int .i64 x.kind)).setCell ⟨w.heap.size, 1, none⟩ (.int .i64 x.n)).setCell ⟨w.heap.size, 2, none⟩ (.string x.name)).setCell ⟨w.heap.size, 3, none⟩ (.slice a3 x.kids.length c3) := ⟨_, rfl⟩
    have F4 : Hid (Fr (fun k => k = w.heap.size) w3 w4) := Lib.hid (by rw [hw4]; exact put4_frw w3 _ _ _ _ rfl)
    have X4 : Hid (BoxT w4 w.heap.size (.int .i64 x.kind) (.int .i64 x.n) (.string x.name) (.slice a3 x.kids.length c3)) := Lib.hid (by rw [hw4]; exact BoxT.put4w X3.out _ _ _ _)
    rw [← hw4]
    clear hw4
    have R4 := Lib.hid (R3.out.fr F4.out (by omega))
    have hlt4 := F4.out.size
    have k4 := F4.out.cell hne1 k3
    have f4 := F4.out.frozen (by omega) hne1 f3
    have lcb : cb < w4.heap.size := by omega
    clear x0 x1 x2 x3 xf0 xf1 xf2 xf3 k3 f3
    go_upto_region 3 with (fail)
    obtain ⟨w5, hw5⟩ : ∃ z, z = w4.setCell ⟨cb, 0, none⟩ (.int .i64 (c + 1)) := ⟨_, rfl⟩
    have F5 : Hid (Fr (fun k => k = cb) w4 w5) := Lib.hid (by rw [hw5]; exact Fr.setCell _ rfl)
    have k5 : w5.cell? ⟨cb, 0, none⟩ = some (.int .i64 (c + 1)) := by rw [hw5]; exact cell_same k4
    have f5 : w5.frozen? ⟨cb, 0, none⟩ = false := by rw [hw5, World.frozen?_setCell]; exact f4
    rw [← hw5]
    clear hw5 k4 f4
    have X5 := Lib.hid (X4.out.fr F5.out hne2)
    have R5 := Lib.hid (R4.out.fr F5.out (by omega))
    have hlt5 := F5.out.size
    have lcb5 : cb < w5.heap.size := by omega
    have F05 : Hid (Fr (fun k => k = cb) w w5) := Lib.hid ((((Fr.of_ext (M := fun k => k = cb ∨ k = w.heap.size) E3.out).trans (F4.out.mono (fun k _ h => .inr h))).trans (F5.out.mono (fun k _ h => .inl h))).mono (fun k hk h => h.elim id (fun h => by omega)))
    have FIN : Hid (∀ X, Fr (fun k => k = w.heap.size + 1) w5 X → Fr (fun k => k = cb) w X) := Lib.hid (fun X f => ((F05.out.mono (M' := fun k => k = cb ∨ k = w.heap.size + 1) (fun k _ h => .inl h)).trans (f.mono (fun k _ h => .inr h))).mono (fun k hk h => h.elim id (fun h => by omega)))
    have lX5 := X5.out.lt
    have lR5 : w.heap.size + 1 < w5.heap.size := R5.out.lt
    by_cases hq1 : 120 < c + 1
    · have HF := Lib.hid (fits_no (T := .mk x.kind x.n x.name ks) (d := d) (.inl hq1))
      obtain ⟨r0, r1, r2, r3, z0, z1, z2, z3⟩ := R5.out
      have hq3 : 119 < c := by omega
      go_wp2_with fail
      refine ret4b_set (p := 8) (q := 9) (T := 26) (by kernel_rfl) (fun _ => by kernel_rfl) (fun _ => by kernel_rfl) rfl rfl rfl R5.out ?_
      intro X f
      exact ⟨FIN.out X f, f.frozen lcb5 (by omega) f5, .inr ⟨HF.out, rfl⟩⟩
    by_cases hq2 : 30 < d
    · have HF := Lib.hid (fits_no (T := .mk x.kind x.n x.name ks) (c := c) (.inr hq2))
      obtain ⟨r0, r1, r2, r3, z0, z1, z2, z3⟩ := R5.out
      have ha : c + 1 ≤ 120 := by omega
      clear hq1
      go_wp2_with fail
      refine ret4b_set (p := 8) (q := 9) (T := 26) (by kernel_rfl) (fun _ => by kernel_rfl) (fun _ => by kernel_rfl) rfl rfl rfl R5.out ?_
      intro X f
      exact ⟨FIN.out X f, f.frozen lcb5 (by omega) f5, .inr ⟨HF.out, rfl⟩⟩
    have ha : c + 1 ≤ 120 := by omega
    have hb : d ≤ 30 := by omega
    clear hq1 hq2
    obtain ⟨x0, x1, x2, x3, _, _, _, _⟩ := X5.out
    have HSM : Hid (∀ k, S k → ¬ k = cb ∧ ¬ k = w.heap.size ∧ k < w3.heap.size) := Lib.hid (fun k hk => ⟨fun h => HCS.out (h ▸ hk), fun h => by have := HB.out k hk; omega, by have := HB.out k hk; omega⟩)
    have F35 : Hid (Fr (fun k => k = cb ∨ k = w.heap.size) w3 w5) := Lib.hid ((F4.out.mono (fun k _ h => .inr h)).trans (F5.out.mono (fun k _ h => .inl h)))
    have AX5 := Lib.hid (F35.out.at AX3.out (fun k hk h => h.elim (HSM.out k hk).1 (HSM.out k hk).2.1))
    have ST5 := Lib.hid ((HST.out.ext E3.out).fr F35.out (fun k hk => hk.elim (fun h => by subst h; exact ⟨HCS.out, hcm, hcs⟩) (fun h => ⟨fun hs => (HSM.out k hs).2.1 h, by subst h; have := hst_mb.out; omega, by omega⟩)))
    obtain ⟨i0, hi, hz0, hz1, hz2⟩ := info_parts info_term3
    have HI := Lib.hid hi
    have HZ := Lib.hid hz0
    have HZ1 := Lib.hid hz1
    have HZ2 := Lib.hid hz2
    have LKS : Hid (ks.length = x.kids.length) := Lib.hid HLEN.out.symm
    clear hi hz0 hz1 hz2
    go_wp2_with fail
    go_loopw [42] (fun i wr => ∃ (j : Nat) (av : Option Addr) (cv : Nat) (ts : List Tm), j ≤ x.kids.length ∧ i = .int .i64 j ∧ Hid (ts = ks.take j) ∧ Hid (∀ q T, q < j → ks[q]? = some T → fits T (c + 1 + (Tm.szL (ks.take q) : Int)) (d + 1) = true) ∧
        Hid (KidR w5 w5.heap.size (w.heap.size + 1) cb (w5.heap.size + 1) ts (.int .i64 x.kind) (.int .i64 x.n) (.string x.name) av cv (c + 1 + (Tm.szL ts : Int)) wr)) (fun i _ => x.kids.length - (intOf i).toNat)
    case atStart =>
      refine ⟨0, none, 0, [], Nat.zero_le _, rfl, Lib.hid rfl, Lib.hid (fun q T h => absurd h (Nat.not_lt_zero _)), Lib.hid ⟨OwnS.nil _ _, Fr.of_ext (Ext.alloc _ _), BoxT.new _ _ _ _ _ _ rfl, R5.out.ext (Ext.alloc _ _), ?_, ?_⟩⟩
      · have := (Ext.alloc w5 (.cells #[.int .i64 x.kind, .int .i64 x.n, .string x.name, .slice none 0 0] 26)).cell k5
        simpa [Tm.szL] using this
      · exact (Ext.alloc w5 _).frozen lcb5 f5
    case round =>
      obtain ⟨j, av, cv, ts, hj, rfl, HTS, HFIT, HK⟩ := hrel
      by_cases hlt : j < x.kids.length
      · obtain ⟨tk, htk⟩ := getk hlt
        obtain ⟨_, sv, esv, hsl⟩ := Tm.at_iff.1 AX5.out
        simp only [Value.agg.injEq, Array.mk.injEq, List.cons.injEq, and_true, true_and] at esv
        subst esv
        obtain ⟨_, _, e8, hcx, _, hlx, r4⟩ := HK.out.fr.sl hsl (fun k hk h => (HSM.out k hk).1 h)
        cases e8
        obtain ⟨b6, off6, a1, c1, rfl, hSb, l1, l2, l3, l4, hat1⟩ := tget r4 htk
        obtain ⟨Tk, hTk, hres⟩ := HKS.out j tk htk
        have HTK := Lib.hid hTk
        have HRS := Lib.hid hres
        have V1 := Lib.hid hat1
        have SHK := Lib.hid (shapeL_mem (kids_shape SX.out) (List.mem_of_getElem? htk))
        clear r4 htk hat1 hsl hTk hres
        have lwr := HK.out.fr.size
        obtain ⟨g0, g1, g2, g3, y0, y1, y2, y3⟩ := HK.out.box
        obtain ⟨r0, r1, r2, r3, z0, z1, z2, z3⟩ := HK.out.res
        have hb6 := block_lt_of_cell l1
        simp only at hb6
        have HCL : Hid (c + 1 + (Tm.szL ts : Int) ≤ 120) := Lib.hid (by rw [HTS.out]; exact cnt_le ha (by have := LKS.out; omega) HFIT.out)
        have E7 := Lib.hid (Ext.alloc wr (.cells #[.int .i64 tk.kind, .int .i64 tk.n, .string tk.name, .slice a1 tk.kids.length c1] 26))
        have lcw : cb < wr.heap.size := by omega
        have HCC := Lib.hid (IH.out K tk Tk HRS.out (.agg #[.int .i64 tk.kind, .int .i64 tk.n, .string tk.name, .slice a1 tk.kids.length c1]) S _ sb mb cb _ (c + 1 + (Tm.szL ts : Int)) (d + 1) SHK.out (fun b hb => by have := HB.out b hb; have := Below.size E7.out; omega) (Tm.at_ext E7.out V1.out) (((ST5.out.fr HK.out.fr (fun k hk => by subst hk; exact ⟨HCS.out, hcm, hcs⟩))).ext E7.out) HV.out HCS.out hcs hcm (E7.out.cell HK.out.cnt) (E7.out.frozen lcw HK.out.frz) (by omega) HCL.out (by omega) (by omega))
        go_wp2_with fail
        refine HCC.out.mono ?_
        rintro e w6 ⟨f6, z6, hcase⟩
        have F6 := Lib.hid ((Fr.of_ext E7.out).trans f6)
        have lw6 := F6.out.size
        have sz7 : wr.heap.size + 1 ≤ w6.heap.size := by have := f6.size; simpa using this
        have B6 := Lib.hid (HK.out.box.fr F6.out (by omega))
        have R6 := Lib.hid (HK.out.res.fr F6.out (by omega))
        clear HCC f6 g0 g1 g2 g3 y0 y1 y2 y3 r0 r1 r2 r3 z0 z1 z2 z3 l1 l2 l3 l4
        obtain ⟨r0, r1, r2, r3, z0, z1, z2, z3⟩ := R6.out
        have lR6 : w.heap.size + 1 < w6.heap.size := by omega
        rcases hcase with ⟨hfit, hc6, a2, c2, rfl, ho⟩ | ⟨hfit, rfl⟩
        · have HF6 := Lib.hid hfit
          have HC6 := Lib.hid hc6
          have HZ6 := Lib.hid z6
          have HO := Lib.hid ho
          clear hfit hc6 ho z6
          go_upto_region 12 with (fail)
          obtain ⟨w7, hw7⟩ : ∃ z, z = w6.alloc (.cells #[.int .i64 Tk.kind, .int .i64 Tk.n, .string Tk.name, .slice a2 Tk.kids.length c2] 26) := ⟨_, rfl⟩
          have E67 : Hid (Ext w6 w7) := Lib.hid (by rw [hw7]; exact Ext.alloc _ _)
          have X7 : Hid (BoxT w7 w6.heap.size (.int .i64 Tk.kind) (.int .i64 Tk.n) (.string Tk.name) (.slice a2 Tk.kids.length c2)) := Lib.hid (by rw [hw7]; exact BoxT.new _ _ _ _ _ _ rfl)
          rw [← hw7]
          clear hw7 r0 r1 r2 r3 z0 z1 z2 z3
          have B7 := Lib.hid (B6.out.ext E67.out)
          have HO7 := Lib.hid (own_zone (F' := fun b => wr.heap.size ≤ b) (own_ext1 HO.out E67.out) (fun b hb => by have h0 : (wr.alloc (.cells #[.int .i64 tk.kind, .int .i64 tk.n, .string tk.name, .slice a1 tk.kids.length c1] 26)).heap.size ≤ b := hb; have := Below.size E7.out; omega))
          have F67 := Lib.hid (F6.out.trans (Fr.of_ext E67.out))
          have A7 := Lib.hid (HK.out.app.mono (F' := fun b => w5.heap.size + 1 ≤ b ∧ b < wr.heap.size) (fun b hb => hb) F67.out (fun b hb h => by omega))
          have C7 := Lib.hid (E67.out.cell HC6.out)
          have lc6 : cb < w6.heap.size := by omega
          have Z7 := Lib.hid (E67.out.frozen lc6 HZ6.out)
          have HTS1 : Hid (ts ++ [Tk] = ks.take (j + 1)) := Lib.hid (by rw [HTS.out, take_snoc_of HTK.out])
          have HLT : Hid (ts.length = j) := Lib.hid (by rw [HTS.out, List.length_take]; have := LKS.out; omega)
          obtain ⟨g0, g1, g2, g3, y0, y1, y2, y3⟩ := B7.out
          obtain ⟨t0, t1, t2, t3, _, _, _, _⟩ := X7.out
          have s7 := E67.out |> Below.size
          have lo7 := B7.out.lt
          have lx7 := X7.out.lt
          have hls : ts.length < 1048576 := by have := HLT.out; omega
          have hzr : w5.heap.size + 1 ≤ wr.heap.size := by have := HK.out.box.lt; omega
          have hw7 : wr.heap.size ≤ w7.heap.size := by omega
          go_wp2_with (at_builtin; refine wpList_append_ow (w0 := wr) (w1 := w7) rfl (.tmp 59) (.tmp 61) 24 rfl (w5.heap.size + 1) i0 Tryz.underlying24 HI.out HZ.out HZ1.out HZ2.out (.slice av ts.length cv) ts Tk a2 c2 rfl A7.out rfl HO7.out hw7 hzr hls rfl ?_; intro av2 cv2 w8 hA2 hf2; have K8 := Lib.hid (HK.out.next (c2 := c + 1 + (Tm.szL ts : Int) + (Tm.sz Tk : Int)) (by omega) (by omega) (by omega) (by omega) (by omega) (by omega) F67.out C7.out Z7.out hA2 hf2); have g3 := hf2.cell (k := w5.heap.size) (by omega) g3; have y3 := hf2.frozen (k := w5.heap.size) (by omega) (by omega) y3; clear hA2 hf2)
          have hzk : (Tm.szL (ts ++ [Tk]) : Int) = (Tm.szL ts : Int) + (Tm.sz Tk : Int) := by
            have := szL_add HTK.out
            rw [HTS1.out, HTS.out]; omega
          refine ⟨⟨j + 1, av2, cv2, ts ++ [Tk], by omega, by go_num, HTS1, Lib.hid (fun q T hq hT => ?_), Lib.hid ?_⟩, by simp [intOf]; omega⟩
          · by_cases e : q = j
            · subst e
              rw [HTK.out] at hT
              cases hT
              have := HF6.out
              rw [HTS.out] at this
              exact this
            · exact HFIT.out q T (by omega) hT
          · have := K8.out
            rw [hzk, ← Int.add_assoc]
            exact this
        · have HNF : Hid (fits (.mk x.kind x.n x.name ks) c d = false) := Lib.hid (fits_kid HTK.out (by rw [HTS.out] at hfit; exact hfit))
          have FW6 : Hid (Fr (fun k => k = cb) w w6) := Lib.hid ((F05.out.trans HK.out.fr).trans F6.out)
          clear hfit
          go_wp2_with fail
          have R7 := (BoxT.put4w R6.out (.int .i64 0) (.int .i64 0) (.string ⟨#[]⟩) (.slice none 0 0)).ext (Ext.alloc _ (.cells #[.int .i64 0, .int .i64 0, .string ⟨#[]⟩, .slice none 0 0] 26))
          refine ret4b (p := 8) (q := 9) (T := 26) (by kernel_rfl) (fun _ => by kernel_rfl) (fun _ => by kernel_rfl) rfl rfl rfl R7 ?_
          have f := (put4_frw (M := fun k => k = w.heap.size + 1) w6 (b := w.heap.size + 1) (.int .i64 0) (.int .i64 0) (.string ⟨#[]⟩) (.slice none 0 0) rfl).trans (Fr.of_ext (Ext.alloc _ (.cells #[.int .i64 0, .int .i64 0, .string ⟨#[]⟩, .slice none 0 0] 26)))
          exact ⟨((FW6.out.mono (M' := fun k => k = cb ∨ k = w.heap.size + 1) (fun k _ h => .inl h)).trans (f.mono (fun k _ h => .inr h))).mono (fun k hk h => h.elim id (fun h => by omega)), f.frozen (by omega) (by omega) z6, .inr ⟨HNF.out, rfl⟩⟩
      · have hjj : j = x.kids.length := by omega
        subst hjj
        have HALL : Hid (ts = ks) := Lib.hid (by rw [HTS.out, List.take_of_length_le (by have := LKS.out; omega)])
        have HYES : Hid (fits (.mk x.kind x.n x.name ks) c d = true) := Lib.hid (fits_all ha hb (fun q T hT => HFIT.out q T (by have := (List.getElem?_eq_some_iff.1 hT).1; have := LKS.out; omega) hT))
        have HNM := Lib.hid (at_small AX5.out)
        have FW : Hid (Fr (fun k => k = cb) w wr) := Lib.hid (F05.out.trans HK.out.fr)
        have lcw : cb < wr.heap.size := Nat.lt_of_lt_of_le lcb5 HK.out.fr.size
        obtain ⟨g0, g1, g2, g3, y0, y1, y2, y3⟩ := HK.out.box
        obtain ⟨r0, r1, r2, r3, z0, z1, z2, z3⟩ := HK.out.res
        go_wp2_with fail
        refine ret4b_set (p := 8) (q := 9) (T := 26) (by kernel_rfl) (fun _ => by kernel_rfl) (fun _ => by kernel_rfl) rfl rfl rfl HK.out.res ?_
        intro X f
        have hlen : ts.length = x.kids.length := by rw [HALL.out, LKS.out]
        refine ⟨((FW.out.mono (M' := fun k => k = cb ∨ k = w.heap.size + 1) (fun k _ h => .inl h)).trans (f.mono (fun k _ h => .inr h))).mono (fun k hk h => h.elim id (fun h => by omega)), f.frozen lcw (by omega) HK.out.frz, .inl ⟨HYES.out, ?_, av, cv, ?_, own_iff.2 ⟨HNM.out.1, ?_, ?_⟩⟩⟩
        · have h1 := f.cell (k := cb) (by omega) HK.out.cnt
          rw [HALL.out] at h1
          rw [h1]
          simp only [Tm.sz]
          congr 2; omega
        · show _ = Ending.returned (.tuple #[.agg #[.int .i64 x.kind, .int .i64 x.n, .string x.name, .slice av ks.length cv], .bool true])
          rw [LKS.out, ← hlen]
          rfl
        · simp only [Tm.kids]; have := LKS.out; have := HNM.out.2; omega
        · simp only [Tm.kids]
          rw [← HALL.out]
          exact HK.out.app.mono (fun b hb => by omega) f (fun b hb h => by omega)
set_option maxRecDepth 100000 in
set_option maxHeartbeats 4000000 in
theorem implresolve (f : Nat) (K : List Tm) (t T : Tm) (h : resF f K t = some T) (v : Value) (S : Nat → Prop) (w : World) (sb mb dd : Nat) (hsh : shapeF t dd = true) (hB : ∀ b, S b → b < w.heap.size) (ht : Tm.at S w t v) (hst : Sto S w sb mb K) (hv : VK K) :
    Calls Tryz.prog 58 #[.pointer (some ⟨sb, 0, none⟩), v] w fun e w' => Ext w w' ∧
      ((fits T 0 1 = true ∧ ∃ a cc, e = .returned (.tuple #[.agg #[.int .i64 T.kind, .int .i64 T.n, .string T.name, .slice a T.kids.length cc], .bool true]) ∧ Tm.own (fun b => w.heap.size ≤ b) w' T (.slice a T.kids.length cc)) ∨
       (fits T 0 1 = false ∧ e = .returned (.tuple #[zero4, .bool false]))) := by
  have HC := Lib.hid (implresolving f K t T h)
  have HB := Lib.hid hB
  have HT := Lib.hid ht
  have HST := Lib.hid hst
  have HV := Lib.hid hv
  have HSH := Lib.hid hsh
  obtain ⟨m0, _, hkm⟩ := hst.km
  have lsb := hst.lt
  have lmb := hkm.lt
  obtain ⟨a, ca, rfl⟩ := at_form ht
  clear h hB ht hst hv hsh hkm
  go_enter Tryz.func58, Tryz.ntmps58
  go_wp2_with fail
  obtain ⟨w3, hw3⟩ : ∃ z, z = ((w.alloc (.cells #[.int .i64 t.kind, .int .i64 t.n, .string t.name, .slice a t.kids.length ca] 26)).alloc (.cells #[.int .i64 0, .int .i64 0, .string ⟨#[]⟩, .slice none 0 0] 26)).alloc (.cells #[.int .i64 0] 3) := ⟨_, rfl⟩
  have E3 : Hid (Ext w w3) := Lib.hid (by rw [hw3]; exact ((Ext.alloc _ _).trans (Ext.alloc _ _)).trans (Ext.alloc _ _))
  have R3 : Hid (BoxT w3 (w.heap.size + 1) (.int .i64 0) (.int .i64 0) (.string ⟨#[]⟩) (.slice none 0 0)) := Lib.hid (by rw [hw3]; exact (BoxT.new _ _ _ _ _ _ (by simp)).ext (Ext.alloc _ _))
  have k3 : w3.cell? ⟨w.heap.size + 1 + 1, 0, none⟩ = some (.int .i64 0) := by rw [hw3]; go_simp
  have z3 : w3.frozen? ⟨w.heap.size + 1 + 1, 0, none⟩ = false := by rw [hw3]; go_simp
  have s3 : w.heap.size + 3 ≤ w3.heap.size := by rw [hw3]; simp
  rw [← hw3]
  clear hw3
  refine (HC.out _ S w3 sb mb _ dd 0 1 HSH.out (fun b hb => by have := HB.out b hb; omega) (Tm.at_ext E3.out HT.out) (HST.out.ext E3.out) HV.out (fun h => by have := HB.out _ h; omega) (by omega) (by omega) k3 z3 (by omega) (by omega) (by omega) (by omega)).mono ?_
  rintro e w4 ⟨f4, _, hcase⟩
  have F4 := Lib.hid f4
  have R4 := Lib.hid (R3.out.fr f4 (by omega))
  have E4 := Lib.hid (((Fr.of_ext E3.out).trans f4).toExt (fun k hk h => by omega))
  have s4 := f4.size
  clear f4
  obtain ⟨r0, r1, r2, r3, y0, y1, y2, y3⟩ := R4.out
  rcases hcase with ⟨hfit, _, a2, c2, rfl, ho⟩ | ⟨hfit, rfl⟩
  · have HF := Lib.hid hfit
    have HO := Lib.hid ho
    clear hfit ho
    go_wp2_with fail
    refine ret4b_set (p := 4) (q := 5) (T := 26) (by kernel_rfl) (fun _ => by kernel_rfl) (fun _ => by kernel_rfl) rfl rfl rfl R4.out ?_
    intro X f
    exact ⟨((Fr.of_ext E4.out).trans f).toExt (fun k hk h => by omega), .inl ⟨HF.out, a2, c2, rfl, own_mono (fun b hb => by omega) f (fun b hb h => by omega) _ _ HO.out⟩⟩
  · have HF := Lib.hid hfit
    clear hfit
    go_wp2_with fail
    refine ret4b_set (p := 4) (q := 5) (T := 26) (by kernel_rfl) (fun _ => by kernel_rfl) (fun _ => by kernel_rfl) rfl rfl rfl R4.out ?_
    intro X f
    exact ⟨((Fr.of_ext E4.out).trans f).toExt (fun k hk h => by omega), .inr ⟨HF.out, rfl⟩⟩
end Go.Proofs.YtognkaebiafgbaaGreat
