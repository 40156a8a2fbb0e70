/-
  The reference's readers: l1Chain.
-/
import Derived.Test.YtognkaebiafgbaaGreatMv23
import Derived.Test.YtognkaebiafgbaaGreatMv28
import Derived.Test.YtognkaebiafgbaaGreatMv4
import Derived.Test.YtognkaebiafgbaaGreatMv27
import Derived.Test.YtognkaebiafgbaaGreatMv17
import Derived.Test.YtognkaebiafgbaaGreatMv18
namespace Go.Proofs.YtognkaebiafgbaaGreat
open Go.RowKit
set_option linter.unusedVariables false
theorem chain_drop {ts : List Tm} {tl : Tm} {k : Nat} {x : Tm} (h : ts[k]? = some x) : chainT (ts.drop k) tl = sT dotN [x, chainT (ts.drop (k + 1)) tl] := by
  have hl : k < ts.length := by
    apply Decidable.byContradiction
    intro hn
    rw [List.getElem?_eq_none (by omega)] at h
    cases h
  rw [List.drop_eq_getElem_cons hl]
  rw [List.getElem?_eq_getElem hl] at h
  rw [Option.some.inj h]
  rfl
set_option maxRecDepth 100000 in
set_option maxHeartbeats 3000000 in
theorem specl1Chain {S : Nat → Prop} {ts : List Tm} {tl : Tm} {v : Value} {a : Option Addr} {c : Nat} {w : World} (hv : Tm.sl S w ts v) (ht : Tm.at S w tl (.agg #[.int .i64 tl.kind, .int .i64 tl.n, .string tl.name, .slice a tl.kids.length c])) :
    Calls Tryz.prog 97 #[v, .agg #[.int .i64 tl.kind, .int .i64 tl.n, .string tl.name, .slice a tl.kids.length c]] w fun e w' =>
      ∃ a' c', e = .returned (.agg #[.int .i64 (chainT ts tl).kind, .int .i64 (chainT ts tl).n, .string (chainT ts tl).name, .slice a' (chainT ts tl).kids.length c']) ∧ Tm.at (fun b => S b ∨ w.heap.size ≤ b) w' (chainT ts tl) (.agg #[.int .i64 (chainT ts tl).kind, .int .i64 (chainT ts tl).n, .string (chainT ts tl).name, .slice a' (chainT ts tl).kids.length c']) ∧ Ext w w' := by
  have hvb := Tm.sl_bound hv
  have htb := Tm.at_bound ht
  have HVB := Lib.hid hvb
  obtain ⟨av, cap, rfl, h1, h2, h3, h4⟩ := hvb
  have H4 := Lib.hid h4
  have HTB := Lib.hid htb
  clear hv ht h4 htb
  go_enter Tryz.func97, Tryz.ntmps97
  go_wp2_with fail
  go_loopw [6] (fun iv wr => ∃ (k : Nat) (t : Tm) (ta : Option Addr) (tc : Nat), k ≤ ts.length ∧ iv = .int .i64 ((k : Int) - 1) ∧ Hid (t = chainT (ts.drop k) tl) ∧
    Hid (BoxT wr (w.heap.size + 1 + 1) (.int .i64 t.kind) (.int .i64 t.n) (.string t.name) (.slice ta t.kids.length tc)) ∧ Hid (BoxT wr (w.heap.size + 1) (.int .i64 0) (.int .i64 0) (.string ⟨#[]⟩) (.slice none 0 0)) ∧
    Hid (Tm.at (fun b => (S b ∧ b < w.heap.size) ∨ w.heap.size + 1 + 1 + 1 ≤ b) wr t (.agg #[.int .i64 t.kind, .int .i64 t.n, .string t.name, .slice ta t.kids.length tc])) ∧ Hid (Ext w wr)) (fun iv _ => ((intOf iv) + 1).toNat)
  case atStart =>
    refine ⟨ts.length, tl, a, c, Nat.le_refl _, by first | rfl | simp, Lib.hid (by rw [List.drop_length]; rfl), Lib.hid ?_, Lib.hid ?_, Lib.hid ?_, Lib.hid ?_⟩
    · exact BoxT.new _ _ _ _ _ 26 (by simp)
    · exact (BoxT.new _ _ _ _ _ 26 (by simp)).ext (Ext.alloc _ _)
    · exact Tm.at_mono (fun b hb => .inl hb) (Agree.of_ext (((Ext.alloc _ _).trans (Ext.alloc _ _)).trans (Ext.alloc _ _))) HTB.out
    · exact ((Ext.alloc _ _).trans (Ext.alloc _ _)).trans (Ext.alloc _ _)
  case round =>
    obtain ⟨k, t, ta, tc, hk, rfl, HT, HB, HZ, HA, HE⟩ := hrel
    have lb := HB.out.lt
    have lz := HZ.out.lt
    have bx := HB.out
    obtain ⟨m0, m1, m2, m3, n0, n1, n2, n3⟩ := bx
    by_cases hk0 : k = 0
    · subst hk0
      have HT0 := Lib.hid (show t = chainT ts tl from HT.out)
      have z := HZ.out
      obtain ⟨z0, z1, z2, z3, y0, y1, y2, y3⟩ := z
      go_wp2_with fail
      refine ret4_set (p := 4) (T := 26) (b := w.heap.size + 1) (by kernel_rfl) (fun _ => by kernel_rfl) (fun _ => by kernel_rfl) rfl rfl z0 z1 z2 z3 ?_
      intro X hX
      have fX : Fr (fun b => b = w.heap.size + 1) wr X := Fr.of_grown hX (fun k e => by cases e; rfl)
      have h := fX.at HA.out (fun b hb e => by rcases hb with hb | hb <;> omega)
      have hE : Ext w X := ((Fr.of_ext HE.out).trans fX).toExt (fun q hq h => by omega)
      have e := HT0.out
      subst e
      exact ⟨ta, tc, rfl, Tm.at_mono (fun b hb => by rcases hb with hb | hb; exact .inl hb.1; exact .inr (by omega)) (Agree.refl _) h, hE⟩
    · obtain ⟨k, rfl⟩ : ∃ j, k = j + 1 := ⟨k - 1, by omega⟩
      have hkl : k < ts.length := by omega
      obtain ⟨x, hx⟩ := getk hkl
      have HC := Lib.hid (chain_drop (tl := tl) hx)
      obtain ⟨b, off, ax, cx, rfl, hSb, k1, k2, k3, k4, hxat⟩ := tget H4.out hx
      have k1 := HE.out.cell k1
      have k2 := HE.out.cell k2
      have k3 := HE.out.cell k3
      have k4 := HE.out.cell k4
      have HX := Lib.hid (Tm.at_ext HE.out hxat)
      have hbw := block_lt_of_cell k1
      simp only at hbw
      have hii : ((k + 1 : Nat) : Int) - 1 = (k : Int) := by omega
      rw [hii]
      clear hx hxat hii
      have hlk : ts.length ≤ 1048576 := h3
      have hsl := sl_new (w := wr) (T := 26) (ts := [x, t]) (cs := #[.int .i64 x.kind, .int .i64 x.n, .string x.name, .slice ax x.kids.length cx, .int .i64 t.kind, .int .i64 t.n, .string t.name, .slice ta t.kids.length tc]) (S := fun b => (S b ∧ b < w.heap.size) ∨ w.heap.size + 1 + 1 + 1 ≤ b) (xs := tcells x ax cx ++ (tcells t ta tc ++ [])) ⟨ax, cx, _, rfl, Tm.at_mono (fun b h => .inl h) (Agree.refl _) HX.out, ta, tc, _, rfl, HA.out, rfl⟩ rfl (n := 2) rfl (by decide)
      have SC := Lib.hid (fun (W : World) (e : Ext (wr.alloc (.cells #[.int .i64 x.kind, .int .i64 x.n, .string x.name, .slice ax x.kids.length cx, .int .i64 t.kind, .int .i64 t.n, .string t.name, .slice ta t.kids.length tc] 26)) W) => specl1Struct ⟨#[46]⟩ [x, t] (by decide) (by simp) _ _ W (Tm.sl_ext e hsl))
      clear hsl
      go_wp2_with fail
      go_region_law (first
        | (go_simp; go_at_call 35; refine (SC.out _ (by first | exact Ext.refl _ | exact Ext.drew _)).mono ?_; rintro e w6 ⟨v6, rfl, hv6, e6⟩; (try replace e6 := Ext.undrew e6); obtain ⟨a6, c6, rfl⟩ := at_form hv6; have E6 := Lib.hid ((Ext.alloc wr _).trans e6); have HV6 := Lib.hid hv6; have bx6 := HB.out.ext E6.out; have l6 := bx6.lt; obtain ⟨d0, d1, d2, d3, g0, g1, g2, g3⟩ := bx6; clear hv6 e6; dsimp only))
      all_goals
        obtain ⟨wX, hwX⟩ : ∃ z, z = ((((w6.setCell ⟨w.heap.size + 1 + 1, 0, none⟩ (.int .i64 (Tm.mk 3 0 ⟨#[46]⟩ [x, t]).kind)).setCell ⟨w.heap.size + 1 + 1, 1, none⟩ (.int .i64 (Tm.mk 3 0 ⟨#[46]⟩ [x, t]).n)).setCell ⟨w.heap.size + 1 + 1, 2, none⟩ (.string (Tm.mk 3 0 ⟨#[46]⟩ [x, t]).name)).setCell ⟨w.heap.size + 1 + 1, 3, none⟩ (.slice a6 (Tm.mk 3 0 ⟨#[46]⟩ [x, t]).kids.length c6)) := ⟨_, rfl⟩
        have fX : Fr (fun q => q = w.heap.size + 1 + 1) w6 wX := by rw [hwX]; exact put4_frw (M := fun q => q = w.heap.size + 1 + 1) w6 _ _ _ _ rfl
        have BX := Lib.hid (show BoxT wX (w.heap.size + 1 + 1) (.int .i64 (Tm.mk 3 0 ⟨#[46]⟩ [x, t]).kind) (.int .i64 (Tm.mk 3 0 ⟨#[46]⟩ [x, t]).n) (.string (Tm.mk 3 0 ⟨#[46]⟩ [x, t]).name) (.slice a6 (Tm.mk 3 0 ⟨#[46]⟩ [x, t]).kids.length c6) by rw [hwX]; exact (HB.out.ext E6.out).put4 _ _ _ _)
        rw [← hwX]
        have ZX := Lib.hid ((HZ.out.ext E6.out).fr fX (by omega))
        have s6 : wr.heap.size ≤ w6.heap.size := Below.size E6.out
        have AX := Lib.hid (Tm.at_mono (S' := fun b => (S b ∧ b < w.heap.size) ∨ w.heap.size + 1 + 1 + 1 ≤ b) (fun q hq => by
          rcases hq with ((hq | hq) | hq) | hq
          · exact .inl hq
          · exact .inr hq
          · exact .inr (by have hq' : q = wr.heap.size := hq; omega)
          · exact .inr (by have hq' : _ ≤ q := hq; simp at hq'; omega)) (Agree.refl _) (fX.at HV6.out (fun q hq e => by
          subst e
          rcases hq with ((hq | hq) | hq) | hq
          · omega
          · omega
          · have hq' : w.heap.size + 1 + 1 = wr.heap.size := hq; omega
          · have hq' : _ ≤ w.heap.size + 1 + 1 := hq; simp at hq'; omega)))
        have EX := Lib.hid (((Fr.of_ext (M := fun q => q = w.heap.size + 1 + 1) (HE.out.trans E6.out)).trans fX).toExt (fun q hq h => by omega))
        have HTN := Lib.hid (show (Tm.mk 3 0 ⟨#[46]⟩ [x, t]) = chainT (ts.drop k) tl by rw [HC.out, ← HT.out]; rfl)
        clear hwX fX d0 d1 d2 d3 g0 g1 g2 g3
        go_wp2_with fail
        exact ⟨⟨k, (Tm.mk 3 0 ⟨#[46]⟩ [x, t]), a6, c6, by omega, by rfl, HTN, BX, ZX, AX, EX⟩, by simp [intOf]⟩
end Go.Proofs.YtognkaebiafgbaaGreat

namespace Go.Proofs.YtognkaebiafgbaaGreat
open Go.RowKit
set_option linter.unusedVariables false
theorem wpList_append_tmN {P : Program} {ops : Array Oper} {rest : List Oper} {o : Oper} {a : Act} {w1 : World} {Q : Exit → Act → World → Prop}
    (hgd : o.guard = none) (s x : Operand) (ty : TypeId)
    (ho : o.op = .call { callee := .builtin .append, args := #[s, x], argTypes := #[ty, ty] })
    (Z : Nat → Prop) (T : TypeId) (i : TypeInfo) (ht : P.underlying ty = some (.slice T)) (hi : P.info? T = some i) (hz : i.zero = some (.agg #[.int .i64 0, .int .i64 0, .string ⟨#[]⟩, .slice none 0 0]))
    (hsize : i.size = 4) (hby : i.bytes = 56)
    (v : Value) (ts : List Tm) (t : Tm) (a2 : Option Addr) (c2 : Nat) (hs : a.eval s = v) (happ : AppI T Z ts v w1) {nb : Nat} (hx : a.eval x = .slice (some ⟨nb, 0, none⟩) 1 1)
    (hv1 : Tm.at (fun b => Z b ∧ v.ownBlock ≠ some b) w1 t (.agg #[.int .i64 t.kind, .int .i64 t.n, .string t.name, .slice a2 t.kids.length c2]))
    (hl : ts.length < 1048576) (hnew : ∀ b, w1.heap.size ≤ b → Z b) (hnb : nb = w1.heap.size)
    (h : ∀ av cv w2, AppI T Z (ts ++ [t]) (.slice av (ts.length + 1) cv) w2 → Fr Z w1 w2 → wpList P ops Q rest (a.put o.dst (.slice av (ts.length + 1) cv)) w2) :
    wpList P ops Q (o :: rest) a (w1.alloc (.cells #[.int .i64 t.kind, .int .i64 t.n, .string t.name, .slice a2 t.kids.length c2] T)) := by
  subst hnb
  exact wpList_append_tm hgd s x ty ho Z T i ht hi hz hsize hby v ts t a2 c2 hs happ hx hv1 hl hnew h
def SpTms (s : ByteArray) (X : Option (List Tm × List UInt8)) (w : World) (e : Ending) (w' : World) : Prop :=
  ∃ ts a c i, e = .returned (.tuple #[.slice a ts.length c, .int .i64 i]) ∧ Tm.sl (fun b => w.heap.size ≤ b) w' ts (.slice a ts.length c) ∧ Ext w w' ∧ AtR s (X.map Prod.snd) i ∧ (∀ us r, X = some (us, r) → ts = us)
theorem SpTms.none {s : ByteArray} {w w' : World} {e : Ending} (he : e = .returned (.tuple #[.slice none 0 0, .int .i64 (-1)])) (hx : Ext w w') : SpTms s none w e w' :=
  ⟨[], _, _, -1, he, ⟨_, _, rfl, Nat.le_refl _, by omega, by simp, .inl rfl⟩, hx, AtR.no (by decide) (by decide), fun us r h => by cases h⟩
end Go.Proofs.YtognkaebiafgbaaGreat

namespace Go.Proofs.YtognkaebiafgbaaGreat
open Go.RowKit
set_option linter.unusedVariables false
theorem SpTm.fail {s : ByteArray} {w Z : World} {e : Ending} (he : e = .returned (.tuple #[.agg #[.int .i64 0, .int .i64 0, .string ⟨#[]⟩, .slice none 0 0], .int .i64 (-1)])) (hx : Ext w Z) : SpTm s none w e Z :=
  ⟨zTm, none, 0, -1, he, at_zero _ _ _ _ _ (by decide), hx, AtR.no (by decide) (by decide), fun u r h => by cases h⟩
end Go.Proofs.YtognkaebiafgbaaGreat

namespace Go.Proofs.YtognkaebiafgbaaGreat
open Go.RowKit
set_option linter.unusedVariables false
theorem dropW_le {p : UInt8 → Bool} (l : List UInt8) : (l.dropWhile p).length ≤ l.length := (List.dropWhile_sublist p).length_le
theorem numP_len {rest : List UInt8} {t : Tm} {r : List UInt8} (h : numP rest = some (t, r)) : r.length < rest.length := by
  cases rest with
  | nil => cases h
  | cons b l =>
    simp only [numP] at h
    split at h
    · cases h
      have := dropW_le (p := digitB) l
      simp only [List.length_cons]; omega
    · cases h
theorem nameP_len {rest : List UInt8} {s r : List UInt8} (h : nameP rest = some (s, r)) : r.length < rest.length ∧ s.length ≤ rest.length := by
  unfold nameP at h
  split at h
  · cases h
  · split at h
    · rename_i h1
      cases h
      have := congrArg List.length (List.takeWhile_append_dropWhile (p := smallB) (l := rest))
      rw [List.length_append] at this
      omega
    · split at h
      · cases h
      · rename_i h1 h2 h3
        cases h
        have hne : rest ≠ [] := by
          rintro rfl
          exact h3 (by rw [signN_eq]; rfl)
        have : 0 < rest.length := List.length_pos_iff.2 hne
        simp only [List.length_drop, List.length_take]
        omega
end Go.Proofs.YtognkaebiafgbaaGreat

namespace Go.Proofs.YtognkaebiafgbaaGreat
open Go.RowKit
set_option linter.unusedVariables false
theorem drop_head {s : ByteArray} {n : Nat} {b : UInt8} {r : List UInt8} (h : s.toList.drop n = b :: r) : ∃ hl : n < s.size, s[n] = b := by
  have hl : n < s.toList.length := by
    apply Decidable.byContradiction
    intro hn
    rw [List.drop_eq_nil_of_le (by omega)] at h
    cases h
  rw [List.drop_eq_getElem_cons hl] at h
  injection h with h3 h4
  rw [bl_len] at hl
  exact ⟨hl, by rw [← bl_get s n hl]; exact h3⟩
end Go.Proofs.YtognkaebiafgbaaGreat

namespace Go.Proofs.YtognkaebiafgbaaGreat
open Go.RowKit
set_option linter.unusedVariables false
theorem opS_len {rest s r : List UInt8} (h : opS rest = some (s, r)) : r.length < rest.length := by
  have key : ∀ q : List UInt8, q.length ≤ rest.length → ∀ s' r', nameP q = some (s', r') → r'.length < rest.length := fun q hq s' r' hn => by
    have := (nameP_len hn).1
    omega
  unfold opS at h
  by_cases hsp : rest.head? = some 32
  · simp only [hsp, if_true, true_and] at h
    split at h
    · cases h
    · cases hn : nameP (rest.drop 1) with
      | none => rw [hn] at h; cases h
      | some p =>
        obtain ⟨s', r'⟩ := p
        have hl := key _ (by rw [List.length_drop]; omega) _ _ hn
        rw [hn] at h
        simp only at h
        split at h
        · cases h
        · split at h
          · split at h
            · cases h
              rw [List.length_drop]
              omega
            · cases h
          · cases h
  · simp only [hsp, if_false, false_and] at h
    split at h
    · cases h
    · cases hn : nameP rest with
      | none => rw [hn] at h; cases h
      | some p =>
        obtain ⟨s', r'⟩ := p
        have hl := key _ (Nat.le_refl _) _ _ hn
        rw [hn] at h
        simp only at h
        split at h
        · cases h
        · split at h
          · cases h
          · cases h
            exact hl
theorem sl_all : ∀ F : Nat, (∀ e L rest t r, rdF F e L rest = some (t, r) → r.length < rest.length) ∧ (∀ e L u rest t r, loopS F e L u rest = some (t, r) → r.length ≤ rest.length) ∧ (∀ e x y acc rest ks r, termsF F e x y acc rest = some (ks, r) → r.length < rest.length)
  | 0 => by
    refine ⟨?_, ?_, ?_⟩
    · intro e L rest t r h; rw [rdF] at h; cases h
    · intro e L u rest t r h; rw [loopS] at h; cases h
    · intro e x y acc rest ks r h; rw [termsF] at h; cases h
  | F + 1 => by
    obtain ⟨iR, iL, iT⟩ := sl_all F
    refine ⟨?_, ?_, ?_⟩
    · intro e L rest t r h
      cases L with
      | succ L =>
        rw [rdF] at h
        split at h
        · rename_i u q hq
          have h1 := iR _ _ _ _ _ hq
          have h2 := iL _ _ _ _ _ _ h
          omega
        · cases h
      | zero =>
        cases rest with
        | nil =>
          rw [rdF] at h
          split at h <;> cases h
        | cons b l =>
          rw [rdF] at h
          split at h
          · cases h
          · skip
            split at h
            · split at h
              · rename_i u c q hq
                have h1 := iR _ _ _ _ _ hq
                simp only [List.length_cons] at h1 ⊢
                split at h
                · cases h; omega
                · cases h
              · cases h
            · split at h
              · split at h
                · rename_i ks c q hq
                  have h1 := iT _ _ _ _ _ _ _ hq
                  simp only [List.length_cons] at h1 ⊢
                  split at h
                  · cases h; omega
                  · split at h
                    · rename_i tl d q' hq'
                      have h2 := iR _ _ _ _ _ hq'
                      simp only [List.length_cons] at h2
                      split at h
                      · cases h; omega
                      · cases h
                    · cases h
                · cases h
              · split at h
                · cases h; simp
                · split at h
                  · exact numP_len h
                  · split at h
                    · cases h
                    · rename_i s c q hq
                      have h1 := (nameP_len hq).1
                      simp only [List.length_cons] at h1 ⊢
                      split at h
                      · split at h
                        · rename_i ks d q' hq'
                          have h2 := iT _ _ _ _ _ _ _ hq'
                          simp only [List.length_cons] at h2
                          cases h; omega
                        · cases h
                      · cases h; simp only [List.length_cons]; omega
                    · rename_i s hq
                      cases h
                      exact (nameP_len hq).1
    · intro e L u rest t r h
      rw [loopS] at h
      split at h
      · cases h; exact Nat.le_refl _
      · rename_i s q hq
        have h0 := opS_len hq
        split at h
        · cases h; exact Nat.le_refl _
        · split at h
          · cases h
          · rename_i b q' hq'
            have h1 := iR _ _ _ _ _ hq'
            split at h
            · cases h; omega
            · have h2 := iL _ _ _ _ _ _ h
              omega
    · intro e x y acc rest ks r h
      rw [termsF] at h
      split at h
      · rename_i t c q hq
        have h1 := iR _ _ _ _ _ hq
        split at h
        · cases h; exact h1
        · split at h
          · have h2 := iT _ _ _ _ _ _ _ h
            simp only [List.length_cons] at h1
            omega
          · cases h
      · cases h
end Go.Proofs.YtognkaebiafgbaaGreat
