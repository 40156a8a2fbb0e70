/-
  The reference's l4Copy: a clause that shares nothing.
-/
import Derived.Deep.CutBlock
import Derived.Test.YtognkaebiafgbaaMu33
import Derived.Test.YtognkaebiafgbaaMu42
import Derived.Test.YtognkaebiafgbaaMu26
namespace Go.Proofs.Ytognkaebiafgbaa
open Go.RowKit
set_option linter.unusedVariables false
set_option maxRecDepth 100000 in
set_option maxHeartbeats 4000000 in
theorem specl4Copy (c : Cl) (v : Value) (S : Nat → Prop) (w : World) (hc : Cl.at S w c v) : Calls Try.prog 60 #[v] w (ClOne c w) := by
  obtain ⟨hd, bd⟩ := c
  obtain ⟨a, cap, a', cap', rfl, hat, hsl⟩ := Cl.form hc
  simp only at hat hsl
  obtain ⟨i0, hi, hz0, hz1, hz2⟩ := info_parts info_term3
  have HI := Lib.hid hi
  have HZ := Lib.hid hz0
  have HZ1 := Lib.hid hz1
  have HZ2 := Lib.hid hz2
  have HCH := Lib.hid (fun w' (e' : Ext w w') => specl1CopyO hd _ S w' (Tm.at_ext e' hat))
  obtain ⟨ar, cp, heq, h1, h2, h3, h4⟩ := hsl
  simp only [Value.slice.injEq] at heq
  obtain ⟨rfl, _, rfl⟩ := heq
  have H4 := Lib.hid h4
  have hnm := (Tm.at_iff.1 hat).1
  clear h4 hat hc hi hz0 hz1 hz2
  go_enter Try.func60, Try.ntmps60
  go_wp2_with fail
  refine (HCH.out _ ((Ext.alloc _ _).trans (Ext.alloc _ _))).mono ?_
  rintro e w1 ⟨a1, c1, rfl, hv1, q⟩
  have hz : w.heap.size + 2 ≤ w1.heap.size := by have := Below.size q; simp at this; omega
  have P1 := Lib.hid (BoxC.ext ((BoxC.new w (.int .i64 hd.kind) (.int .i64 hd.n) (.string hd.name) (.slice a hd.kids.length cap) (.slice a' bd.length cap') 33 rfl).ext (Ext.alloc _ (.cells #[.int .i64 0, .int .i64 0, .string ⟨#[]⟩, .slice none 0 0, .slice none 0 0] 33))) q)
  have R1 := Lib.hid (show BoxCZ w1 (w.heap.size + 1) from BoxC.ext (BoxC.new _ _ _ _ _ _ 33 (by simp)) q)
  have E1 := Lib.hid (((Ext.alloc _ _).trans (Ext.alloc _ _)).trans q)
  have V1 := Lib.hid (own_zone (F' := fun b => w.heap.size + 2 ≤ b ∧ b < w1.heap.size) (own_bound _ _ hv1) (fun b hb => ⟨by have := hb.1; simp at this; omega, hb.2⟩))
  clear q hv1
  go_upto_region 2 with (fail)
  obtain ⟨w2, hw2⟩ : ∃ z, z = w1.alloc (.cells #[.int .i64 hd.kind, .int .i64 hd.n, .string hd.name, .slice a1 hd.kids.length c1, .slice none 0 0] 33) := ⟨_, rfl⟩
  have e2 : Ext w1 w2 := by rw [hw2]; exact Ext.alloc _ _
  have O2 := Lib.hid (show BoxC w2 w1.heap.size (.int .i64 hd.kind) (.int .i64 hd.n) (.string hd.name) (.slice a1 hd.kids.length c1) (.slice none 0 0) by rw [hw2]; exact BoxC.new _ _ _ _ _ _ 33 rfl)
  rw [← hw2]
  have P2 := Lib.hid (P1.out.ext e2)
  have R2 := Lib.hid (R1.out.ext e2)
  have E2 := Lib.hid (E1.out.trans e2)
  have V2 := Lib.hid (own_ext1 V1.out e2)
  clear hw2 e2
  go_wp2_with fail
  go_loopw [4] (fun i wr => ∃ (j : Nat) (av : Option Addr) (cv : Nat) (ts : List Tm), j ≤ bd.length ∧ i = .int .i64 j ∧ Hid (ts = cpL (bd.take j)) ∧
      Hid (BoxC wr w.heap.size (.int .i64 hd.kind) (.int .i64 hd.n) (.string hd.name) (.slice a hd.kids.length cap) (.slice a' bd.length cap')) ∧ Hid (BoxCZ wr (w.heap.size + 1)) ∧
      Hid (BoxC wr w1.heap.size (.int .i64 hd.kind) (.int .i64 hd.n) (.string hd.name) (.slice a1 hd.kids.length c1) (.slice av ts.length cv)) ∧
      Hid (OwnS (fun b => w1.heap.size + 1 ≤ b ∧ b < wr.heap.size) ts (.slice av ts.length cv) wr) ∧ Hid (Tm.own (fun b => w.heap.size + 2 ≤ b ∧ b < w1.heap.size) wr hd (.slice a1 hd.kids.length c1)) ∧ Hid (Ext w wr)) (fun i _ => bd.length - (intOf i).toNat)
  case atStart =>
    exact ⟨0, none, 0, [], Nat.zero_le _, rfl, Lib.hid rfl, P2, R2, O2, Lib.hid (OwnS.nil _ _), V2, E2⟩
  case round =>
    obtain ⟨j, av, cv, ts, hj, rfl, HT, HP, HR, HO, HS, HV, HE⟩ := hrel
    have hlen : ts.length = j := by rw [HT.out, cpL_len]; simp; omega
    have bo := HO.out
    have lo := bo.lt
    obtain ⟨o0, o1, o2, o3, o4, f0, f1, f2, f3, f4⟩ := bo
    have bp := HP.out
    have lp := bp.lt
    obtain ⟨p0, p1, p2, p3, p4, _, _, _, _, _⟩ := bp
    have lr := HR.out.lt
    by_cases hlt : j < bd.length
    · obtain ⟨tk, htk⟩ := getk hlt
      obtain ⟨b, off, ak, ck, rfl, hSb, k1, k2, k3, k4, hat⟩ := tget H4.out htk
      have k1 := HE.out.cell k1
      have k2 := HE.out.cell k2
      have k3 := HE.out.cell k3
      have k4 := HE.out.cell k4
      have hlk : bd.length ≤ 1048576 := h3
      have HC := Lib.hid (fun w' (e' : Ext wr w') => specl1CopyO tk _ S w' (Tm.at_ext (HE.out.trans e') hat))
      have HTS : Hid (ts ++ [cp1 tk] = cpL (bd.take (j + 1))) := Lib.hid (by rw [HT.out, cpL_snoc htk])
      have hbw := block_lt_of_cell k1
      simp only at hbw
      rw [hlen] at o4
      clear htk hat hSb o0 o1 o2 o3 f0 f1 f2 f3 p0 p1 p2 p3
      go_wp2_with fail
      go_region_law (first
        | (go_simp; go_at_call 28; refine (HC.out _ ?_).mono ?_; (first | exact Ext.refl _ | exact Ext.drew _); rintro e w3 ⟨a2, c2, rfl, hv1, e1⟩; (try replace e1 := Ext.undrew e1); have e2 := Lib.hid e1; have hv2 := Lib.hid (own_zone (F' := fun b => wr.heap.size ≤ b) hv1 (fun b hb => by simpa using hb)); have d3 := e2.out.cell o4; have d4 := e2.out.cell p4; have s1 := Below.size e2.out; have s2 := Nat.lt_of_lt_of_le lo s1; have s3 := Nat.lt_of_lt_of_le lp s1; clear e1 hv1; dsimp only)
        | (refine step_append_ow (w0 := wr) rfl (.tmp 17) (.tmp 24) 23 rfl (w1.heap.size + 1) i0 Try.underlying23 HI.out HZ.out HZ1.out HZ2.out (.slice av ts.length cv) ts (cp1 tk) a2 c2 (by rw [hlen]; rfl) (HS.out.mono (M := fun _ => False) (fun b h => h) (Fr.of_ext e2.out) (fun _ _ h => h)) rfl hv2.out s1 (by omega) (by omega) rfl ?_; intro av2 cv2 w4 hA2 hf2; have A2 := Lib.hid hA2; have F2 := Lib.hid hf2; have g3 := hf2.cell (k := w1.heap.size) (by omega) d3; have g5 := hf2.frozen (k := w1.heap.size) (by omega) (by omega) (e2.out.frozen lo f4); clear hA2 hf2))
      all_goals
        have FX := Lib.hid (show Fr (fun k => w1.heap.size ≤ k) wr (w4.setCell ⟨w1.heap.size, 4, none⟩ (.slice av2 (ts.length + 1) cv2)) from ((Fr.of_ext e2.out).trans (F2.out.mono (fun k _ h => by omega))).trans (Fr.setCell _ (Nat.le_refl _)))
        have OX := Lib.hid (((HO.out.ext e2.out).fr F2.out (by omega)).setBody (.slice av2 (ts.length + 1) cv2))
        have SX := Lib.hid (show OwnS (fun b => w1.heap.size + 1 ≤ b ∧ b < (w4.setCell ⟨w1.heap.size, 4, none⟩ (.slice av2 (ts.length + 1) cv2)).heap.size) (ts ++ [cp1 tk]) (.slice av2 (ts.length + 1) cv2) (w4.setCell ⟨w1.heap.size, 4, none⟩ (.slice av2 (ts.length + 1) cv2)) from A2.out.mono (M := fun k => k = w1.heap.size) (fun b hb => ⟨hb.1, by simpa [World.setCell] using hb.2⟩) (Fr.setCell _ rfl) (fun b hb h => by omega))
        have PX := Lib.hid (HP.out.fr FX.out (by omega))
        have RX := Lib.hid (HR.out.fr FX.out (by omega))
        have VX := Lib.hid (own_mono (F' := fun b => w.heap.size + 2 ≤ b ∧ b < w1.heap.size) (fun b hb => hb) FX.out (fun b hb h => by omega) _ _ HV.out)
        have EX := Lib.hid (((Fr.of_ext HE.out).trans FX.out).toExt (fun q hq h => by omega))
        go_wp2_with fail
        go_roundw
        case rel => exact ⟨j + 1, av2, cv2, ts ++ [cp1 tk], by omega, by simp, HTS, by simpa [hlen] using PX, by simpa [hlen] using RX, by simpa [hlen] using OX, by simpa [hlen] using SX, by simpa [hlen] using VX, by simpa [hlen] using EX⟩
        case measure => simp [intOf]; omega
    · have hjj : j = bd.length := by omega
      subst hjj
      have hts : ts = cpL bd := by rw [HT.out, List.take_of_length_le (Nat.le_refl _)]
      subst hts
      have br := HR.out
      obtain ⟨g0, g1, g2, g3, g4, z0, z1, z2, z3, z4⟩ := br
      go_wp2_with fail
      refine ret5_set (p := 2) (T := 33) (b := w.heap.size + 1) (by kernel_rfl) (fun _ => by kernel_rfl) (fun _ => by kernel_rfl) rfl rfl HR.out ?_
      intro X hX
      have f : Fr (fun b => b = w.heap.size + 1) wr X := Fr.of_grown hX (fun k e => by cases e; rfl)
      have hs := f.size
      refine ⟨_, rfl, ⟨a1, c1, av, cv, w1.heap.size + 1, rfl, ?_, ?_, by omega, by omega⟩, ((Fr.of_ext HE.out).trans f).toExt (fun k hk h => by omega)⟩
      · exact own_mono (fun b hb => ⟨by omega, by omega⟩) f (fun b hb h => by omega) _ _ HV.out
      · exact HS.out.mono (fun b hb => ⟨hb.1, by omega⟩) f (fun b hb h => by omega)
end Go.Proofs.Ytognkaebiafgbaa

namespace Go.Proofs.Ytognkaebiafgbaa
open Go.RowKit
set_option linter.unusedVariables false
def AppS (T : Nat) (Z S : Nat → Prop) (ts : List Tm) (v : Value) (w : World) : Prop := ∃ xs, w.ownsRow 0 T 4 v ts.length xs ∧ (∀ g, v.ownBlock = some g → Z g) ∧ Tm.flat S w ts xs
theorem AppS.empty {w : World} {T b : Nat} {Z S : Nat → Prop} (hb : b = w.heap.size) (hz : Z b) : AppS T Z S [] (.slice (some ⟨b, 0, none⟩) 0 0) (w.alloc (.cells #[] T)) :=
  ⟨[], own_low (own_empty hb) (Nat.zero_le _), by intro g hg; simp [Value.ownBlock] at hg; subst hg; exact hz, rfl⟩
theorem AppS.keep {T : Nat} {Z S M : Nat → Prop} {ts : List Tm} {v : Value} {w w' : World} (h : AppS T Z S ts v w) (f : Fr M w w') (hM : ∀ k, k < w.heap.size → M k → ¬ Z k) (hS : ∀ k, S k → ¬ M k) : AppS T Z S ts v w' := by
  obtain ⟨xs, h1, hz, h2⟩ := h
  exact ⟨xs, own_keep h1 f (fun g hg hm => hM g (h1.lt g hg).2 hm (hz g hg)), hz, flat_mono (fun _ h => h) (f.agree hS) h2⟩
theorem AppS.ext {T : Nat} {Z S : Nat → Prop} {ts : List Tm} {v : Value} {w w' : World} (h : AppS T Z S ts v w) (e : Ext w w') : AppS T Z S ts v w' := h.keep (M := fun _ => False) (Fr.of_ext e) (fun _ _ h => h.elim) (fun _ _ h => h)
theorem AppS.sl {T : Nat} {Z S : Nat → Prop} {ts : List Tm} {v : Value} {w : World} (h : AppS T Z S ts v w) (hl : ts.length ≤ 1048576) : Tm.sl (fun b => S b ∨ v.ownBlock = some b) w ts v := by
  obtain ⟨xs, h1, hz, h2⟩ := h
  exact own_sl h1 h2 hl
theorem wpList_append_sh {P : Program} {ops : Array Oper} {rest : List Oper} {o : Oper} {a : Act} {w1 : World} {Q : Exit → Act → World → Prop}
    (hgd : o.guard = none) (s x : Operand) (ty : TypeId)
    (ho : o.op = .call { callee := .builtin .append, args := #[s, x], argTypes := #[ty, ty] })
    (Z S : Nat → Prop) (T : TypeId) (i : TypeInfo) (ht : P.underlying ty = some (.slice T)) (hi : P.info? T = some i) (hz : i.zero = some (.agg #[.int .i64 0, .int .i64 0, .string ⟨#[]⟩, .slice none 0 0]))
    (hsize : i.size = 4) (hby : i.bytes = 56)
    (v : Value) (ts : List Tm) (t : Tm) (a2 : Option Addr) (c2 : Nat) (hs : a.eval s = v) (happ : AppS T Z S ts v w1) {nb : Nat} (hx : a.eval x = .slice (some ⟨nb, 0, none⟩) 1 1)
    (hv1 : Tm.at S w1 t (.agg #[.int .i64 t.kind, .int .i64 t.n, .string t.name, .slice a2 t.kids.length c2])) (hSZ : ∀ b, S b → ¬ Z b)
    (hl : ts.length < 1048576) (hnew : ∀ b, w1.heap.size ≤ b → Z b) (hnb : nb = w1.heap.size)
    (h : ∀ av cv w2, AppS T Z S (ts ++ [t]) (.slice av (ts.length + 1) cv) w2 → Fr Z w1 w2 → wpList P ops Q rest (a.put o.dst (.slice av (ts.length + 1) cv)) w2) :
    wpList P ops Q (o :: rest) a (w1.alloc (.cells #[.int .i64 t.kind, .int .i64 t.n, .string t.name, .slice a2 t.kids.length c2] T)) := by
  subst hnb
  obtain ⟨xs, how, hzz, hfl⟩ := happ
  refine wpList_append_fresh hgd s x ty ho 0 T i _ 4 56 ht hi hz hsize hby rfl (by decide) v ts.length xs hs (own_ext how (Ext.alloc _ _)) ⟨w1.heap.size, 0, none⟩ 1 1 (tcells t a2 c2) hx rfl (fun j u h => cell_four _ _ _ j u h) (by simp [tcells, Value.oneCell']) (by unfold maxLen; omega) (by omega) (by omega) ?_
  intro v2 w2 ho2 hg2 hfr2 _
  obtain ⟨av, cv, rfl⟩ := own_form ho2
  have f : Fr Z w1 w2 := (Fr.alloc _ _).trans (Fr.of_grown hg2 (fun k hk => hzz k hk))
  refine h av cv w2 ⟨xs ++ tcells t a2 c2, by simpa using ho2, ?_, flat_snoc (f.at hv1 hSZ) (flat_mono (fun _ h => h) (f.agree hSZ) hfl)⟩ f
  intro g hg
  rcases hfr2 g hg with hh | hh
  · exact hzz g hh
  · exact hnew g (by simp at hh; omega)
theorem joinF_take_snoc {ts : List Tm} {j : Nat} {t : Tm} (h : ts[j]? = some t) (h0 : j ≠ 0) : joinF ((ts.take (j + 1)).map (txt true)) = (joinF ((ts.take j).map (txt true)) ++ [44]) ++ txt true t := by
  rw [take_snoc_of h, List.map_append, List.map_cons, List.map_nil, joinF_snoc]
  · simp
  · intro e
    rw [List.map_eq_nil_iff, List.take_eq_nil_iff] at e
    rcases e with e | e
    · exact h0 e
    · rw [e] at h; simp at h
set_option maxRecDepth 100000 in
set_option maxHeartbeats 2000000 in
theorem specl2Args (ts : List Tm) (v : Value) (S : Nat → Prop) (w : World) (hp : ∀ (j : Nat) (u : Tm), ts[j]? = some u → S2C u) (hd : ∀ (j : Nat) (u : Tm), ts[j]? = some u → ∃ d, shapeF u d = true) (hlen : (joinF (ts.map (txt true))).length ≤ 4000) (ht : Tm.sl S w ts v) :
    Calls Try.prog 84 #[v] w fun e w' => e = .returned (.string (bs (joinF (ts.map (txt true))))) ∧ Ext w w' := by
  have HP := Lib.hid hp
  have HD := Lib.hid hd
  have HLN := Lib.hid hlen
  obtain ⟨ar, cap, rfl, h1, h2, h3, h4⟩ := ht
  have H4 := Lib.hid h4
  clear hp hd hlen h4
  go_enter Try.func84, Try.ntmps84
  go_wp2_with fail
  go_loopw [3, 4] (fun sv i wr => ∃ (j : Nat) (l : List UInt8), j ≤ ts.length ∧ sv = .string (bs l) ∧ i = .int .i64 j ∧ Hid (l = joinF ((ts.take j).map (txt true))) ∧ Hid (Ext w wr)) (fun _ i _ => ts.length - (intOf i).toNat)
  case atStart => exact ⟨0, [], Nat.zero_le _, rfl, rfl, Lib.hid rfl, Lib.hid (Ext.refl _)⟩
  case round =>
    obtain ⟨j, l, hj, rfl, rfl, HLQ, HX⟩ := hrel
    have ll : l.length ≤ 4000 := by rw [HLQ.out, List.map_take]; exact Nat.le_trans (joinF_take _ _) HLN.out
    by_cases hlt : j < ts.length
    · obtain ⟨tk, htk⟩ := getk hlt
      obtain ⟨b, off, a1, c1', rfl, hSb, k1, k2, k3, k4, hat⟩ := tget H4.out htk
      replace k1 := HX.out.cell k1
      replace k2 := HX.out.cell k2
      replace k3 := HX.out.cell k3
      replace k4 := HX.out.cell k4
      obtain ⟨d, hsd⟩ := HD.out j tk htk
      have HC := Lib.hid (HP.out j tk htk d _ S wr hsd (Tm.at_ext HX.out hat))
      have hl3 : ts.length ≤ 1048576 := h3
      have lx : l.length + 1 + (txt true tk).length ≤ 8003 := by
        have h2 : (joinF ((ts.take (j + 1)).map (txt true))).length ≤ 4000 := by rw [List.map_take]; exact Nat.le_trans (joinF_take _ _) HLN.out
        by_cases hj0 : j = 0
        · subst hj0
          rw [take_snoc_of htk] at h2
          simp [joinF] at h2
          omega
        · rw [joinF_take_snoc htk hj0] at h2
          simp only [List.length_append] at h2
          omega
      have lb0 : ¬ 9223372036854775807 < (bs l).size + 1 := by rw [bs_size]; omega
      have lb1 : ¬ 9223372036854775807 < (bs l).size + (bs (txt true tk)).size := by rw [bs_size, bs_size]; omega
      have lb2 : ¬ 9223372036854775807 < (bs l).size + 1 + (bs (txt true tk)).size := by rw [bs_size, bs_size]; omega
      by_cases hj0 : j = 0
      · have hjz : ¬ (0 : Int) < (j : Int) := by omega
        have HN := Lib.hid (show l ++ txt true tk = joinF ((ts.take (j + 1)).map (txt true)) by
          rw [take_snoc_of htk, HLQ.out, hj0]
          simp [joinF])
        clear htk hat hSb hj0 lx
        go_wp2_with fail
        refine HC.out.mono ?_
        rintro e w2 ⟨rfl, e2⟩
        go_wp2_with fail
        go_roundw
        case rel => exact ⟨j + 1, l ++ txt true tk, by omega, congrArg Value.string (bs_app _ _), by simp, HN, Lib.hid (HX.out.trans e2)⟩
        case measure => simp [intOf]; omega
      · have hjz : (0 : Int) < (j : Int) := by omega
        have HN := Lib.hid (show (l ++ [44]) ++ txt true tk = joinF ((ts.take (j + 1)).map (txt true)) by
          rw [joinF_take_snoc htk hj0, HLQ.out])
        clear htk hat hSb hj0 lx
        go_wp2_with fail
        refine HC.out.mono ?_
        rintro e w2 ⟨rfl, e2⟩
        go_wp2_with fail
        go_roundw
        case rel => exact ⟨j + 1, (l ++ [44]) ++ txt true tk, by omega, congrArg Value.string (by rw [show (⟨#[44]⟩ : ByteArray) = bs [44] from rfl, bs_app, bs_app]), by simp, HN, Lib.hid (HX.out.trans e2)⟩
        case measure => simp [intOf]; omega
    · obtain rfl : j = ts.length := by omega
      have HQ := Lib.hid (show l = joinF (ts.map (txt true)) by rw [HLQ.out, List.take_of_length_le (Nat.le_refl _)])
      go_wp2_with fail
      go_ret
      exact ⟨by rw [← HQ.out]; rfl, HX.out⟩
end Go.Proofs.Ytognkaebiafgbaa
