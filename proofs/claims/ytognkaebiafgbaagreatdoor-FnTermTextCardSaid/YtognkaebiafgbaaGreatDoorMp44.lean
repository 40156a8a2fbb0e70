/-
  The reference's readers: l1Chain.
-/
import Derived.Test.YtognkaebiafgbaaGreatDoorMp42
import Derived.Test.YtognkaebiafgbaaGreatDoorMp43
import Derived.Test.YtognkaebiafgbaaGreatDoorMp13
import Derived.Test.YtognkaebiafgbaaGreatDoorMp20
import Derived.Test.YtognkaebiafgbaaGreatDoorMp35
namespace Go.Proofs.YtognkaebiafgbaaGreatDoor
open Go.RowKit
set_option linter.unusedVariables false

theorem chain_drop {ts : List Tm} {tl : Tm} {k : Nat} {x : Tm} (h : ts[k]? = some x) : chainT (ts.drop k) tl = sT dotN [x, chainT (ts.drop (k + 1)) tl] := by
  have hl : k < ts.length := by
    apply Decidable.byContradiction
    intro hn
    rw [List.getElem?_eq_none (by omega)] at h
    cases h
  rw [List.drop_eq_getElem_cons hl]
  rw [List.getElem?_eq_getElem hl] at h
  rw [Option.some.inj h]
  rfl
theorem box_at {S : Nat → Prop} {w w' : World} {t : Tm} {a : Option Addr} {c : Nat} {M : Nat → Prop} (f : Fr M w w') (hS : ∀ b, S b → ¬ M b) (h : Tm.at S w t (.agg #[.int .i64 t.kind, .int .i64 t.n, .string t.name, .slice a t.kids.length c])) : Tm.at S w' t (.agg #[.int .i64 t.kind, .int .i64 t.n, .string t.name, .slice a t.kids.length c]) := f.at h hS
set_option maxRecDepth 100000 in
set_option maxHeartbeats 3000000 in
theorem specl1Chain {S : Nat → Prop} {ts : List Tm} {tl : Tm} {v : Value} {a : Option Addr} {c : Nat} {w : World} (hv : Tm.sl S w ts v) (ht : Tm.at S w tl (.agg #[.int .i64 tl.kind, .int .i64 tl.n, .string tl.name, .slice a tl.kids.length c])) :
    Calls Tryz.prog 170 #[v, .agg #[.int .i64 tl.kind, .int .i64 tl.n, .string tl.name, .slice a tl.kids.length c]] w fun e w' =>
      ∃ a' c', e = .returned (.agg #[.int .i64 (chainT ts tl).kind, .int .i64 (chainT ts tl).n, .string (chainT ts tl).name, .slice a' (chainT ts tl).kids.length c']) ∧ Tm.at (fun b => S b ∨ w.heap.size ≤ b) w' (chainT ts tl) (.agg #[.int .i64 (chainT ts tl).kind, .int .i64 (chainT ts tl).n, .string (chainT ts tl).name, .slice a' (chainT ts tl).kids.length c']) ∧ Ext w w' := by
  have hvb := Tm.sl_bound hv
  have htb := Tm.at_bound ht
  have HVB := Lib.hid hvb
  obtain ⟨av, cap, rfl, h1, h2, h3, h4⟩ := hvb
  have H4 := Lib.hid h4
  have HTB := Lib.hid htb
  clear hv ht h4 htb
  go_enter Tryz.func170, Tryz.ntmps170
  go_wp2_with fail
  go_loopw [6] (fun iv wr => ∃ (k : Nat) (t : Tm) (ta : Option Addr) (tc : Nat), k ≤ ts.length ∧ iv = .int .i64 ((k : Int) - 1) ∧ Hid (t = chainT (ts.drop k) tl) ∧
    Hid (BoxT wr (w.heap.size + 1 + 1) (.int .i64 t.kind) (.int .i64 t.n) (.string t.name) (.slice ta t.kids.length tc)) ∧ Hid (BoxT wr (w.heap.size + 1) (.int .i64 0) (.int .i64 0) (.string ⟨#[]⟩) (.slice none 0 0)) ∧
    Hid (Tm.at (fun b => (S b ∧ b < w.heap.size) ∨ w.heap.size + 1 + 1 + 1 ≤ b) wr t (.agg #[.int .i64 t.kind, .int .i64 t.n, .string t.name, .slice ta t.kids.length tc])) ∧ Hid (Ext w wr)) (fun iv _ => ((intOf iv) + 1).toNat)
  case atStart =>
    refine ⟨ts.length, tl, a, c, Nat.le_refl _, by first | rfl | simp, Lib.hid (by rw [List.drop_length]; rfl), Lib.hid ?_, Lib.hid ?_, Lib.hid ?_, Lib.hid ?_⟩
    · exact BoxT.new _ _ _ _ _ 25 (by simp)
    · exact (BoxT.new _ _ _ _ _ 25 (by simp)).ext (Ext.alloc _ _)
    · exact Tm.at_mono (fun b hb => .inl hb) (Agree.of_ext (((Ext.alloc _ _).trans (Ext.alloc _ _)).trans (Ext.alloc _ _))) HTB.out
    · exact ((Ext.alloc _ _).trans (Ext.alloc _ _)).trans (Ext.alloc _ _)
  case round =>
    obtain ⟨k, t, ta, tc, hk, rfl, HT, HB, HZ, HA, HE⟩ := hrel
    have lb := HB.out.lt
    have lz := HZ.out.lt
    have bx := HB.out
    obtain ⟨m0, m1, m2, m3, n0, n1, n2, n3⟩ := bx
    by_cases hk0 : k = 0
    · subst hk0
      have HT0 := Lib.hid (show t = chainT ts tl from HT.out)
      have z := HZ.out
      obtain ⟨z0, z1, z2, z3, y0, y1, y2, y3⟩ := z
      go_wp2_with fail
      refine ret4_set (p := 4) (T := 25) (b := w.heap.size + 1) (by kernel_rfl) (fun _ => by kernel_rfl) (fun _ => by kernel_rfl) rfl rfl z0 z1 z2 z3 ?_
      intro X hX
      have fX : Fr (fun b => b = w.heap.size + 1) wr X := Fr.of_grown hX (fun k e => by cases e; rfl)
      have h := fX.at HA.out (fun b hb e => by rcases hb with hb | hb <;> omega)
      have hE : Ext w X := ((Fr.of_ext HE.out).trans fX).toExt (fun q hq h => by omega)
      have e := HT0.out
      subst e
      exact ⟨ta, tc, rfl, Tm.at_mono (fun b hb => by rcases hb with hb | hb; exact .inl hb.1; exact .inr (by omega)) (Agree.refl _) h, hE⟩
    · obtain ⟨k, rfl⟩ : ∃ j, k = j + 1 := ⟨k - 1, by omega⟩
      have hkl : k < ts.length := by omega
      obtain ⟨x, hx⟩ := getk hkl
      have HC := Lib.hid (chain_drop (tl := tl) hx)
      obtain ⟨b, off, ax, cx, rfl, hSb, k1, k2, k3, k4, hxat⟩ := tget H4.out hx
      have k1 := HE.out.cell k1
      have k2 := HE.out.cell k2
      have k3 := HE.out.cell k3
      have k4 := HE.out.cell k4
      have HX := Lib.hid (Tm.at_ext HE.out hxat)
      have hbw := block_lt_of_cell k1
      simp only at hbw
      have hii : ((k + 1 : Nat) : Int) - 1 = (k : Int) := by omega
      rw [hii]
      clear hx hxat hii
      have hlk : ts.length ≤ 1048576 := h3
      have hsl := sl_new (w := wr) (T := 25) (ts := [x, t]) (cs := #[.int .i64 x.kind, .int .i64 x.n, .string x.name, .slice ax x.kids.length cx, .int .i64 t.kind, .int .i64 t.n, .string t.name, .slice ta t.kids.length tc]) (S := fun b => (S b ∧ b < w.heap.size) ∨ w.heap.size + 1 + 1 + 1 ≤ b) (xs := tcells x ax cx ++ (tcells t ta tc ++ [])) ⟨ax, cx, _, rfl, Tm.at_mono (fun b h => .inl h) (Agree.refl _) HX.out, ta, tc, _, rfl, HA.out, rfl⟩ rfl (n := 2) rfl (by decide)
      have SC := Lib.hid (fun (W : World) (e : Ext (wr.alloc (.cells #[.int .i64 x.kind, .int .i64 x.n, .string x.name, .slice ax x.kids.length cx, .int .i64 t.kind, .int .i64 t.n, .string t.name, .slice ta t.kids.length tc] 25)) W) => specl1Struct ⟨#[46]⟩ [x, t] (by decide) (by simp) _ _ W (Tm.sl_ext e hsl))
      clear hsl
      go_wp2_with fail
      go_region_law (first
        | (go_simp; go_at_call 117; refine (SC.out _ (by first | exact Ext.refl _ | exact Ext.drew _)).mono ?_; rintro e w6 ⟨v6, rfl, hv6, e6⟩; (try replace e6 := Ext.undrew e6); obtain ⟨a6, c6, rfl⟩ := at_form hv6; have E6 := Lib.hid ((Ext.alloc wr _).trans e6); have HV6 := Lib.hid hv6; have bx6 := HB.out.ext E6.out; have l6 := bx6.lt; obtain ⟨d0, d1, d2, d3, g0, g1, g2, g3⟩ := bx6; clear hv6 e6; dsimp only))
      all_goals
        obtain ⟨wX, hwX⟩ : ∃ z, z = ((((w6.setCell ⟨w.heap.size + 1 + 1, 0, none⟩ (.int .i64 (Tm.mk 3 0 ⟨#[46]⟩ [x, t]).kind)).setCell ⟨w.heap.size + 1 + 1, 1, none⟩ (.int .i64 (Tm.mk 3 0 ⟨#[46]⟩ [x, t]).n)).setCell ⟨w.heap.size + 1 + 1, 2, none⟩ (.string (Tm.mk 3 0 ⟨#[46]⟩ [x, t]).name)).setCell ⟨w.heap.size + 1 + 1, 3, none⟩ (.slice a6 (Tm.mk 3 0 ⟨#[46]⟩ [x, t]).kids.length c6)) := ⟨_, rfl⟩
        have fX : Fr (fun q => q = w.heap.size + 1 + 1) w6 wX := by rw [hwX]; exact put4_frw (M := fun q => q = w.heap.size + 1 + 1) w6 _ _ _ _ rfl
        have BX := Lib.hid (show BoxT wX (w.heap.size + 1 + 1) (.int .i64 (Tm.mk 3 0 ⟨#[46]⟩ [x, t]).kind) (.int .i64 (Tm.mk 3 0 ⟨#[46]⟩ [x, t]).n) (.string (Tm.mk 3 0 ⟨#[46]⟩ [x, t]).name) (.slice a6 (Tm.mk 3 0 ⟨#[46]⟩ [x, t]).kids.length c6) by rw [hwX]; exact (HB.out.ext E6.out).put4 _ _ _ _)
        rw [← hwX]
        have ZX := Lib.hid ((HZ.out.ext E6.out).fr fX (by omega))
        have s6 : wr.heap.size ≤ w6.heap.size := Below.size E6.out
        have AX := Lib.hid (Tm.at_mono (S' := fun b => (S b ∧ b < w.heap.size) ∨ w.heap.size + 1 + 1 + 1 ≤ b) (fun q hq => by
          rcases hq with ((hq | hq) | hq) | hq
          · exact .inl hq
          · exact .inr hq
          · exact .inr (by have hq' : q = wr.heap.size := hq; omega)
          · exact .inr (by have hq' : _ ≤ q := hq; simp at hq'; omega)) (Agree.refl _) (fX.at HV6.out (fun q hq e => by
          subst e
          rcases hq with ((hq | hq) | hq) | hq
          · omega
          · omega
          · have hq' : w.heap.size + 1 + 1 = wr.heap.size := hq; omega
          · have hq' : _ ≤ w.heap.size + 1 + 1 := hq; simp at hq'; omega)))
        have EX := Lib.hid (((Fr.of_ext (M := fun q => q = w.heap.size + 1 + 1) (HE.out.trans E6.out)).trans fX).toExt (fun q hq h => by omega))
        have HTN := Lib.hid (show (Tm.mk 3 0 ⟨#[46]⟩ [x, t]) = chainT (ts.drop k) tl by rw [HC.out, ← HT.out]; rfl)
        clear hwX fX d0 d1 d2 d3 g0 g1 g2 g3
        go_wp2_with fail
        exact ⟨⟨k, (Tm.mk 3 0 ⟨#[46]⟩ [x, t]), a6, c6, by omega, by rfl, HTN, BX, ZX, AX, EX⟩, by simp [intOf]⟩
end Go.Proofs.YtognkaebiafgbaaGreatDoor

/-
  The reference's readers: l1Args.
-/
namespace Go.Proofs.YtognkaebiafgbaaGreatDoor
open Go.RowKit
set_option linter.unusedVariables false

theorem wpList_append_tmN {P : Program} {ops : Array Oper} {rest : List Oper} {o : Oper} {a : Act} {w1 : World} {Q : Exit → Act → World → Prop}
    (hgd : o.guard = none) (s x : Operand) (ty : TypeId)
    (ho : o.op = .call { callee := .builtin .append, args := #[s, x], argTypes := #[ty, ty] })
    (Z : Nat → Prop) (T : TypeId) (i : TypeInfo) (ht : P.underlying ty = some (.slice T)) (hi : P.info? T = some i) (hz : i.zero = some (.agg #[.int .i64 0, .int .i64 0, .string ⟨#[]⟩, .slice none 0 0]))
    (hsize : i.size = 4) (hby : i.bytes = 56)
    (v : Value) (ts : List Tm) (t : Tm) (a2 : Option Addr) (c2 : Nat) (hs : a.eval s = v) (happ : AppI T Z ts v w1) {nb : Nat} (hx : a.eval x = .slice (some ⟨nb, 0, none⟩) 1 1)
    (hv1 : Tm.at (fun b => Z b ∧ v.ownBlock ≠ some b) w1 t (.agg #[.int .i64 t.kind, .int .i64 t.n, .string t.name, .slice a2 t.kids.length c2]))
    (hl : ts.length < 1048576) (hnew : ∀ b, w1.heap.size ≤ b → Z b) (hnb : nb = w1.heap.size)
    (h : ∀ av cv w2, AppI T Z (ts ++ [t]) (.slice av (ts.length + 1) cv) w2 → Fr Z w1 w2 → wpList P ops Q rest (a.put o.dst (.slice av (ts.length + 1) cv)) w2) :
    wpList P ops Q (o :: rest) a (w1.alloc (.cells #[.int .i64 t.kind, .int .i64 t.n, .string t.name, .slice a2 t.kids.length c2] T)) := by
  subst hnb
  exact wpList_append_tm hgd s x ty ho Z T i ht hi hz hsize hby v ts t a2 c2 hs happ hx hv1 hl hnew h
/-- what l1Parse does with a depth -/
def SpC (d : Nat) : Prop := ∀ (s : ByteArray) (r : List UInt8) (i : Int) (w : World), s.size ≤ 1048576 → AtR s (some r) i → Calls Tryz.prog 87 #[.string s, .int .i64 i, .int .i64 d] w (SpTm s (spP d r) w)
/-- what a reader of terms leaves -/
def SpTms (s : ByteArray) (X : Option (List Tm × List UInt8)) (w : World) (e : Ending) (w' : World) : Prop :=
  ∃ ts a c i, e = .returned (.tuple #[.slice a ts.length c, .int .i64 i]) ∧ Tm.sl (fun b => w.heap.size ≤ b) w' ts (.slice a ts.length c) ∧ Ext w w' ∧ AtR s (X.map Prod.snd) i ∧ (∀ us r, X = some (us, r) → ts = us)
theorem hd_yes {c : UInt8} {X : Option (Tm × List UInt8)} (h : hdB (isB c) (X.map Prod.snd) = true) : ∃ k r, X = some (k, c :: r) := by
  cases X with
  | none => cases h
  | some p =>
    obtain ⟨k, r⟩ := p
    cases r with
    | nil => cases h
    | cons b r =>
      have : b = c := by simpa [hdB, isB] using h
      exact ⟨k, r, by rw [this]⟩
theorem args_close {f : List UInt8 → Option (Tm × List UInt8)} {m : Nat} {acc : List Tm} {r r' : List UInt8} {k : Tm} (h : f r = some (k, 41 :: r')) : argsS f (m + 1) acc r = some (acc ++ [k], r') := by
  rw [argsS, h]; simp
theorem args_comma {f : List UInt8 → Option (Tm × List UInt8)} {m : Nat} {acc : List Tm} {r r' : List UInt8} {k : Tm} (h : f r = some (k, 44 :: r')) : argsS f (m + 1) acc r = argsS f m (acc ++ [k]) r' := by
  rw [argsS, h]; simp
theorem args_fail {f : List UInt8 → Option (Tm × List UInt8)} {m : Nat} {acc : List Tm} {r : List UInt8} (h1 : hdB (isB 41) ((f r).map Prod.snd) = false) (h2 : hdB (isB 44) ((f r).map Prod.snd) = false) : argsS f (m + 1) acc r = none := by
  rw [argsS]
  cases h : f r with
  | none => rfl
  | some p =>
    obtain ⟨k, q⟩ := p
    cases q with
    | nil => rfl
    | cons c q =>
      rw [h] at h1 h2
      have n1 : ¬ c = 41 := by simpa [hdB, isB] using h1
      have n2 : ¬ c = 44 := by simpa [hdB, isB] using h2
      simp only [if_neg n1, if_neg n2]
theorem SpTms.none {s : ByteArray} {w w' : World} {e : Ending} (he : e = .returned (.tuple #[.slice none 0 0, .int .i64 (-1)])) (hx : Ext w w') : SpTms s none w e w' :=
  ⟨[], _, _, -1, he, ⟨_, _, rfl, Nat.le_refl _, by omega, by simp, .inl rfl⟩, hx, AtR.no (by decide) (by decide), fun us r h => by cases h⟩
set_option maxRecDepth 100000 in
set_option maxHeartbeats 3000000 in
theorem specl1Args (d : Nat) (hC : SpC d) (hd : d ≤ 100) {s : ByteArray} {r0 : List UInt8} {i0 : Int} (hs : s.size ≤ 1048576) (hat : AtR s (some r0) i0) (w : World) :
    Calls Tryz.prog 130 #[.string s, .int .i64 i0, .int .i64 d] w (SpTms s (argsS (spP d) 5 [] r0) w) := by
  obtain ⟨X, hX⟩ : ∃ X, argsS (spP d) 5 [] r0 = X := ⟨_, rfl⟩
  rw [hX]
  have HX0 := Lib.hid hX
  have HC := Lib.hid hC
  have HA0 := Lib.hid hat
  obtain ⟨ti, hi, hz0, hz1, hz2⟩ := info_parts info_term3
  have HI := Lib.hid hi
  have HZ0 := Lib.hid hz0
  have HZ1 := Lib.hid hz1
  have HZ2 := Lib.hid hz2
  clear hX hC hat hi hz0 hz1 hz2
  go_enter Tryz.func130, Tryz.ntmps130
  go_wp2_with fail
  go_loopg [1, 8] 5 (fun g iv lv wr => ∃ (acc : List Tm) (av : Option Addr) (cv : Nat) (i : Int) (r : List UInt8), iv = .int .i64 i ∧ lv = .slice av acc.length cv ∧ acc.length + g = 5 ∧
    Hid (AppI 25 (fun b => w.heap.size ≤ b) acc (.slice av acc.length cv) wr) ∧ Hid (Ext w wr) ∧ Hid (AtR s (some r) i) ∧ Hid (argsS (spP d) g acc r = X))
  case atStart =>
    exact ⟨[], _, _, i0, r0, rfl, rfl, rfl, Lib.hid (AppI.empty rfl (Nat.le_refl _)), Lib.hid (Ext.alloc _ _), HA0, HX0⟩
  case round =>
    obtain ⟨acc, av, cv, i, r, rfl, rfl, hg, HA, HE, HAt, HXr⟩ := hrel
    cases gk with
    | zero =>
      have hal : acc.length = 5 := by omega
      have HN := Lib.hid (show X = none from HXr.out.symm)
      have hgt : ¬ (acc.length : Int) ≤ 4 := by omega
      go_wp2_with fail
      go_ret2
      rw [HN.out]
      exact SpTms.none rfl HE.out
    | succ m =>
      have hle : (acc.length : Int) ≤ 4 := by omega
      have hlc : acc.length < 1048576 := by omega
      have sE : w.heap.size ≤ wr.heap.size := Below.size HE.out
      have C := Lib.hid (HC.out s r i wr hs HAt.out)
      go_wp2_with fail
      refine C.out.mono ?_
      rintro e w1 ⟨t, ta, tc, i1, rfl, ht, e1, hat1, hXt⟩
      have HT := Lib.hid ht
      have E1 := Lib.hid e1
      have HAt1 := Lib.hid hat1
      have HXt := Lib.hid hXt
      have l1 := hat1.le hs
      have s1 : wr.heap.size ≤ w1.heap.size := Below.size e1
      have e12 : Ext wr (w1.alloc (.cells #[.int .i64 t.kind, .int .i64 t.n, .string t.name, .slice ta t.kids.length tc] 25)) := e1.trans (Ext.alloc _ _)
      have HA1 := Lib.hid (HA.out.ext e12)
      have HV1 := Lib.hid (HA.out.apart (fun b hb => by omega) (Tm.at_ext (Ext.alloc w1 (.cells #[.int .i64 t.kind, .int .i64 t.n, .string t.name, .slice ta t.kids.length tc] 25)) ht))
      have hnew : ∀ b, (w1.alloc (.cells #[.int .i64 t.kind, .int .i64 t.n, .string t.name, .slice ta t.kids.length tc] 25)).heap.size ≤ b → w.heap.size ≤ b := fun b hb => by simp at hb; omega
      have HN := Lib.hid hnew
      have E12 := Lib.hid e12
      clear ht e1 hat1 hXt e12 hnew
      go_wp2_with (at_builtin; refine wpList_append_tmN rfl (.tmp 22) (.tmp 24) 23 rfl (fun b => w.heap.size ≤ b) 25 ti Tryz.underlying23 HI.out HZ0.out HZ1.out HZ2.out (.slice av acc.length cv) acc t ta tc rfl HA1.out rfl HV1.out hlc HN.out (by simp) ?_; intro av2 cv2 w2 hA2 hf2; have A2 := Lib.hid hA2; have F2 := Lib.hid hf2; clear hA2 hf2)
      have E02 := Lib.hid (show Ext w w2 from ((Fr.of_ext (M := fun b => w.heap.size ≤ b) (HE.out.trans E12.out)).trans F2.out).toExt (fun q hq h => by omega))
      have hl2 : (acc ++ [t]).length = acc.length + 1 := by simp
      have SG := signX HAt1.out 41 41 rfl w2 hs
      cases hc : hdB (isB 41) ((spP d r).map Prod.snd)
      · rw [hc] at SG
        have SG := Lib.hid SG
        cases hk : hdB (isB 44) ((spP d r).map Prod.snd)
        · have HN := Lib.hid (show X = none by rw [← HXr.out]; exact args_fail hc hk)
          have SG2 := Lib.hid (fun w3 => hk ▸ signX HAt1.out 44 44 rfl w3 hs)
          clear hc hk
          go_wp2_with fail
          refine SG.out.mono ?_
          rintro e w3 ⟨rfl, e3⟩
          have E3 := Lib.hid (E02.out.trans e3)
          clear e3
          go_wp2_with fail
          refine (SG2.out w3).mono ?_
          rintro e w4 ⟨rfl, e4⟩
          have E4 := Lib.hid (E3.out.trans e4)
          clear e4
          go_wp2_with fail
          go_ret2
          rw [HN.out]
          exact SpTms.none rfl E4.out
        · obtain ⟨k, r', hq⟩ := hd_yes hk
          have htk := HXt.out k _ hq
          subst htk
          have HXn := Lib.hid (show argsS (spP d) m (acc ++ [t]) r' = X by rw [← HXr.out, args_comma hq])
          have HAn := Lib.hid (show AtR s (some r') (i1 + 1) from (show AtR s (some (44 :: r')) i1 by have := HAt1.out; rw [hq] at this; exact this).next)
          have SG2 := Lib.hid (fun w3 => hk ▸ signX HAt1.out 44 44 rfl w3 hs)
          clear hc hk hq
          go_wp2_with fail
          refine SG.out.mono ?_
          rintro e w3 ⟨rfl, e3⟩
          have E3 := Lib.hid e3
          clear e3
          go_wp2_with fail
          refine (SG2.out w3).mono ?_
          rintro e w4 ⟨rfl, e4⟩
          have E4 := Lib.hid (E3.out.trans e4)
          clear e4
          go_wp2_with fail
          go_roundg m
          case measure => omega
          case rel =>
            exact ⟨acc ++ [t], av2, cv2, i1 + 1, r', rfl, by rw [hl2], by rw [hl2]; omega, Lib.hid (by rw [hl2]; exact A2.out.ext E4.out), Lib.hid (E02.out.trans E4.out), HAn, HXn⟩
      · rw [hc] at SG
        have SG := Lib.hid SG
        obtain ⟨k, r', hq⟩ := hd_yes hc
        have htk := HXt.out k _ hq
        subst htk
        have HXn := Lib.hid (show X = some (acc ++ [t], r') by rw [← HXr.out, args_close hq])
        have HAn := Lib.hid (show AtR s (some r') (i1 + 1) from (show AtR s (some (41 :: r')) i1 by have := HAt1.out; rw [hq] at this; exact this).next)
        clear hc hq
        go_wp2_with fail
        refine SG.out.mono ?_
        rintro e w3 ⟨rfl, e3⟩
        have E3 := Lib.hid e3
        clear e3
        go_wp2_with fail
        go_ret2
        rw [HXn.out]
        have hsl := (A2.out.ext E3.out).sl (by rw [hl2]; omega)
        rw [← hl2] at hsl ⊢
        exact ⟨acc ++ [t], av2, cv2, i1 + 1, rfl, hsl, E02.out.trans E3.out, HAn.out, fun us r h => by cases h; rfl⟩
end Go.Proofs.YtognkaebiafgbaaGreatDoor
