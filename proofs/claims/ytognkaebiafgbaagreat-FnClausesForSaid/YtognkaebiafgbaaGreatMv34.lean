/-
  The reference's readers of clauses: l4Goals.
-/
import Derived.Test.YtognkaebiafgbaaGreatMv33
import Derived.Test.YtognkaebiafgbaaGreatMv24
import Derived.Test.YtognkaebiafgbaaGreatMv7
import Derived.Test.YtognkaebiafgbaaGreatMv27
import Derived.Test.YtognkaebiafgbaaGreatMv16
namespace Go.Proofs.YtognkaebiafgbaaGreat
open Go.RowKit
set_option linter.unusedVariables false
theorem goals_none {rd : List UInt8 → Option (Tm × List UInt8)} {n : Nat} {acc : List Tm} {rest : List UInt8} (h : rd rest = none) : goalsG rd (n + 1) acc rest = none := by rw [goalsG, h]
theorem goals_last {rd : List UInt8 → Option (Tm × List UInt8)} {n : Nat} {acc : List Tm} {rest q : List UInt8} {t : Tm} (h : rd rest = some (t, q)) (hc : hdB (isB 44) (some q) = false) : goalsG rd (n + 1) acc rest = some (acc ++ [t], q) := by rw [goalsG, h]; simp only [hc, Bool.false_eq_true, if_false]
theorem goals_more {rd : List UInt8 → Option (Tm × List UInt8)} {n : Nat} {acc : List Tm} {rest q : List UInt8} {t : Tm} (h : rd rest = some (t, 44 :: q)) : goalsG rd (n + 1) acc rest = goalsG rd n (acc ++ [t]) q := by
  rw [goalsG, h]
  have hc : hdB (isB 44) (some (44 :: q)) = true := rfl
  simp only [hc, if_true, List.tail_cons]
set_option maxRecDepth 100000 in
set_option maxHeartbeats 4000000 in
theorem specl4Goals (F : Nat) (s : ByteArray) (r0 : List UInt8) (i0 : Int) (w : World) (hs : s.size ≤ 1000) (hat : AtR s (some r0) i0) (hF : 6 * s.size + 4 ≤ F) :
    Calls Tryz.prog 75 #[.string s, .int .i64 i0] w (SpTms s (goalsG (rdF F 30 3) 7 [] r0) w) := by
  obtain ⟨X, hX⟩ : ∃ X, goalsG (rdF F 30 3) 7 [] r0 = X := ⟨_, rfl⟩
  rw [hX]
  have HX0 := Lib.hid hX
  have HA0 := Lib.hid hat
  have hr0 := hat.len
  have hi0 : 0 ≤ i0 := by obtain ⟨n, rfl, _⟩ := hat.good; omega
  have hs' : s.size ≤ 1048576 := by omega
  obtain ⟨ti, hi, hz0, hz1, hz2⟩ := info_parts info_term3
  have HI := Lib.hid hi
  have HZ0 := Lib.hid hz0
  have HZ1 := Lib.hid hz1
  have HZ2 := Lib.hid hz2
  clear hX hat hi hz0 hz1 hz2
  go_enter Tryz.func75, Tryz.ntmps75
  go_wp2_with fail
  go_loopg [1, 6] 8 (fun g iv lv wr => ∃ (acc : List Tm) (av : Option Addr) (cv : Nat) (i : Int) (r : List UInt8) (n : Nat), iv = .int .i64 i ∧ lv = .slice av acc.length cv ∧ g = n + 1 ∧ acc.length + n = 7 ∧
    Hid (AppI 26 (fun b => w.heap.size ≤ b) acc (.slice av acc.length cv) wr) ∧ Hid (Ext w wr) ∧ Hid (AtR s (some r) i) ∧ Hid (goalsG (rdF F 30 3) n acc r = X))
  case atStart =>
    exact ⟨[], _, _, i0, r0, 7, rfl, rfl, rfl, rfl, Lib.hid (AppI.empty rfl (Nat.le_refl _)), Lib.hid (Ext.alloc _ _), HA0, HX0⟩
  case round =>
    obtain ⟨acc, av, cv, i, r, n, rfl, rfl, hg, hal, HA, HE, HAt, HXr⟩ := hrel
    subst hg
    by_cases hn0 : n = 0
    · subst hn0
      have hgt : ¬ (acc.length : Int) ≤ 6 := by omega
      have HXN := Lib.hid (show X = none by rw [← HXr.out]; rfl)
      go_wp2_with fail
      go_ret2
      rw [HXN.out]
      exact SpTms.fail rfl (by omega) (by omega) HE.out
    obtain ⟨n, rfl⟩ : ∃ z, n = z + 1 := ⟨n - 1, by omega⟩
    have hle6 : (acc.length : Int) ≤ 6 := by omega
    have hlc : acc.length < 1048576 := by omega
    have sE : w.heap.size ≤ wr.heap.size := Below.size HE.out
    have hrl := HAt.out.len
    have hii : 0 ≤ i := by obtain ⟨m, rfl, _⟩ := HAt.out.good; omega
    have C := Lib.hid (rd_all F s r i 30 3 wr hs (by omega) (by omega) HAt.out (by omega))
    go_wp2_with fail
    refine C.out.mono ?_
    rintro e w1 ⟨t, ta, tc, i1, rfl, ht, e1, hat1, hXt⟩
    have HAt1 := Lib.hid hat1
    have HXt := Lib.hid hXt
    have l1 := hat1.le hs'
    have s1 : wr.heap.size ≤ w1.heap.size := Below.size e1
    have e12 : Ext wr (w1.alloc (.cells #[.int .i64 t.kind, .int .i64 t.n, .string t.name, .slice ta t.kids.length tc] 26)) := e1.trans (Ext.alloc _ _)
    have HA1 := Lib.hid (HA.out.ext e12)
    have HV1 := Lib.hid (HA.out.apart (fun b hb => by omega) (Tm.at_ext (Ext.alloc w1 (.cells #[.int .i64 t.kind, .int .i64 t.n, .string t.name, .slice ta t.kids.length tc] 26)) ht))
    have hnew : ∀ b, (w1.alloc (.cells #[.int .i64 t.kind, .int .i64 t.n, .string t.name, .slice ta t.kids.length tc] 26)).heap.size ≤ b → w.heap.size ≤ b := fun b hb => by simp at hb; omega
    have HN := Lib.hid hnew
    have E12 := Lib.hid e12
    clear ht e1 hat1 hXt e12 hnew
    cases hrd : rdF F 30 3 r with
    | none =>
      rw [hrd] at HAt1
      have hneg : i1 < 0 := HAt1.out.bad.1
      have HXN := Lib.hid (show X = none by rw [← HXr.out]; exact goals_none hrd)
      have E02 := Lib.hid (HE.out.trans E12.out)
      clear hrd
      go_wp2_with fail
      go_ret2
      rw [HXN.out]
      exact SpTms.fail rfl (by omega) (by omega) E02.out
    | some p =>
      obtain ⟨k, q⟩ := p
      have htk := HXt.out k q hrd
      subst htk
      have HRD := Lib.hid hrd
      have hpos : ¬ i1 < 0 := by
        rw [hrd] at HAt1
        obtain ⟨n, rfl, _⟩ := HAt1.out.good
        omega
      have hi1 : i1 ≤ 1000 := by
        rw [hrd] at HAt1
        have := HAt1.out.len
        omega
      have HI1 := Lib.hid (show 0 ≤ i1 ∧ i1 ≤ 1000 from ⟨by omega, hi1⟩)
      rw [hrd] at HAt1
      have SGc := fun w' => signX HAt1.out 44 44 rfl w' hs'
      have hx0 : ((rdF F 30 3 r).map Prod.snd) = some q := by rw [hrd]; rfl
      clear hrd
      go_wp2_with (at_builtin; refine wpList_append_tmN rfl (.tmp 21) (.tmp 23) 24 rfl (fun b => w.heap.size ≤ b) 26 ti Tryz.underlying24 HI.out HZ0.out HZ1.out HZ2.out (.slice av acc.length cv) acc t ta tc rfl HA1.out rfl HV1.out hlc HN.out (by simp) ?_; intro av2 cv2 w2 hA2 hf2; have A2 := Lib.hid hA2; have F2 := Lib.hid hf2; clear hA2 hf2)
      have E02 := Lib.hid (show Ext w w2 from ((Fr.of_ext (M := fun b => w.heap.size ≤ b) (HE.out.trans E12.out)).trans F2.out).toExt (fun q hq h => by omega))
      have hl2 : (acc ++ [t]).length = acc.length + 1 := by simp
      cases hcc : hdB (isB 44) (some q)
      · have SGc := Lib.hid (fun w' => hcc ▸ SGc w')
        have HXn := Lib.hid (show X = some (acc ++ [t], q) by rw [← HXr.out]; exact goals_last HRD.out hcc)
        clear hcc hx0
        go_wp2_with fail
        refine (SGc.out w2).mono ?_
        rintro e w5 ⟨rfl, e5⟩
        have E5 := Lib.hid e5
        clear e5
        go_wp2_with fail
        go_ret2
        rw [HXn.out]
        have hsl := (A2.out.ext E5.out).sl (by rw [hl2]; omega)
        rw [← hl2] at hsl ⊢
        exact ⟨acc ++ [t], av2, cv2, i1, rfl, hsl, E02.out.trans E5.out, HAt1.out, fun us r h => by cases h; rfl⟩
      · have SGc := Lib.hid (fun w' => hcc ▸ SGc w')
        obtain ⟨r', hq⟩ : ∃ r', q = 44 :: r' := by
          cases q with
          | nil => cases hcc
          | cons c q' => exact ⟨q', by rw [show c = 44 by simpa [hdB, isB] using hcc]⟩
        have HXn := Lib.hid (show goalsG (rdF F 30 3) n (acc ++ [t]) r' = X by rw [← HXr.out]; exact (goals_more (by rw [HRD.out, hq])).symm)
        have HAn := Lib.hid (show AtR s (some r') (i1 + 1) from AtR.next (b := 44) (by have := HAt1.out; rw [hq] at this; exact this))
        clear hcc hx0 hq
        go_wp2_with fail
        refine (SGc.out w2).mono ?_
        rintro e w5 ⟨rfl, e5⟩
        have E5 := Lib.hid e5
        clear e5
        go_wp2_with fail
        go_roundg (n + 1)
        case measure => omega
        case rel =>
          exact ⟨acc ++ [t], av2, cv2, i1 + 1, r', n, rfl, by rw [hl2], rfl, by rw [hl2]; omega, Lib.hid (by rw [hl2]; exact A2.out.ext E5.out), Lib.hid (E02.out.trans E5.out), HAn, HXn⟩
end Go.Proofs.YtognkaebiafgbaaGreat

namespace Go.Proofs.YtognkaebiafgbaaGreat
open Go.RowKit
set_option linter.unusedVariables false
structure Bd where
  n : Int
  t : Tm
def Bd.cells (S : Nat → Prop) (w : World) (b off : Nat) (x : Bd) : Prop := w.cell? ⟨b, off, none⟩ = some (.int .i64 x.n) ∧ Tm.cells S w b (off + 1) x.t
def Bd.row (S : Nat → Prop) (w : World) (b off : Nat) : List Bd → Prop
  | [] => True
  | x :: xs => Bd.cells S w b off x ∧ Bd.row S w b (off + 5) xs
def Bd.sl (S : Nat → Prop) (w : World) (xs : List Bd) (v : Value) : Prop :=
  ∃ a cap, v = .slice a xs.length cap ∧ xs.length ≤ cap ∧ cap ≤ 9223372036854775807 ∧ xs.length ≤ 1048576 ∧
    (xs = [] ∨ ∃ b off, a = some ⟨b, off, none⟩ ∧ S b ∧ Bd.row S w b off xs)
theorem Bd.row_mono {S S' : Nat → Prop} {w w' : World} (hS : ∀ b, S b → S' b) (ha : Agree S w w') {b : Nat} (hb : S b) : ∀ (xs : List Bd) (off : Nat), Bd.row S w b off xs → Bd.row S' w' b off xs
  | [], _, _ => trivial
  | x :: xs, off, h => by
    obtain ⟨⟨h1, h2⟩, h4⟩ := h
    exact ⟨⟨ha _ _ _ hb h1, Tm.cells_mono hS ha (b' := 0) (fun o v => ha _ o v hb) _ h2⟩, Bd.row_mono hS ha hb xs _ h4⟩
theorem Bd.sl_mono {S S' : Nat → Prop} {w w' : World} (hS : ∀ b, S b → S' b) (ha : Agree S w w') {xs : List Bd} {v : Value} (h : Bd.sl S w xs v) : Bd.sl S' w' xs v := by
  obtain ⟨a, cap, h1, h2, h3, h4, h5⟩ := h
  refine ⟨a, cap, h1, h2, h3, h4, ?_⟩
  rcases h5 with h5 | ⟨b, off, h5, h6, h7⟩
  · exact .inl h5
  · exact .inr ⟨b, off, h5, hS _ h6, Bd.row_mono hS ha h6 xs _ h7⟩
theorem Bd.sl_ext {S : Nat → Prop} {w w' : World} (e : Ext w w') {xs : List Bd} {v : Value} (h : Bd.sl S w xs v) : Bd.sl S w' xs v := Bd.sl_mono (fun _ h => h) (Agree.of_ext e) h
theorem Bd.row_get {S : Nat → Prop} {w : World} {b : Nat} : ∀ {xs : List Bd} {off : Nat}, Bd.row S w b off xs → ∀ (i : Nat) (x : Bd), xs[i]? = some x → Bd.cells S w b (off + i * 5) x
  | [], _, _, i, t, h => by simp at h
  | c0 :: cs, off, h, 0, t, ht => by
    simp at ht; subst ht
    simpa using h.1
  | c0 :: cs, off, h, i + 1, t, ht => by
    have := Bd.row_get h.2 i t (by simpa using ht)
    rw [show off + (i + 1) * 5 = off + 5 + i * 5 by omega]
    exact this
theorem Bd.get {S : Nat → Prop} {w wr : World} {xs : List Bd} {a : Option Addr} {k : Nat} {x : Bd}
    (h : xs = [] ∨ ∃ b off, a = some ⟨b, off, none⟩ ∧ S b ∧ Bd.row S w b off xs) (hx : xs[k]? = some x) (he : Ext w wr) :
    ∃ b off ak ck, a = some ⟨b, off, none⟩ ∧ wr.cell? ⟨b, off + k * 5, none⟩ = some (.int .i64 x.n) ∧
      wr.cell? ⟨b, off + k * 5 + 1, none⟩ = some (.int .i64 x.t.kind) ∧ wr.cell? ⟨b, off + k * 5 + 2, none⟩ = some (.int .i64 x.t.n) ∧ wr.cell? ⟨b, off + k * 5 + 3, none⟩ = some (.string x.t.name) ∧
      wr.cell? ⟨b, off + k * 5 + 4, none⟩ = some (.slice ak x.t.kids.length ck) ∧
      Tm.at S w x.t (.agg #[.int .i64 x.t.kind, .int .i64 x.t.n, .string x.t.name, .slice ak x.t.kids.length ck]) := by
  rcases h with h4 | ⟨b, off, rfl, hSb, hrow⟩
  · rw [h4] at hx; simp at hx
  obtain ⟨h1, h2⟩ := Bd.row_get hrow k x hx
  obtain ⟨ak, ck, c0, c1, c2, c3, hat⟩ := Tm.at_of_cells h2
  exact ⟨b, off, ak, ck, rfl, he.cell h1, he.cell c0, he.cell c1, he.cell c2, he.cell c3, hat⟩
def cp1 (t : Tm) : Tm := t
def cpL (ts : List Tm) : List Tm := ts
theorem cpL_len (ts : List Tm) : (cpL ts).length = ts.length := rfl
theorem cpL_snoc {ts : List Tm} {j : Nat} {t : Tm} (h : ts[j]? = some t) : cpL (ts.take (j + 1)) = cpL (ts.take j) ++ [cp1 t] := by
  unfold cpL cp1
  obtain ⟨hk, rfl⟩ := List.getElem?_eq_some_iff.1 h
  rw [List.take_succ_eq_append_getElem hk]
end Go.Proofs.YtognkaebiafgbaaGreat

namespace Go.Proofs.YtognkaebiafgbaaGreat
open Go.RowKit
set_option linter.unusedVariables false
def CopyO (t : Tm) : Prop := ∀ (v : Value) (S : Nat → Prop) (w : World), Tm.at S w t v → Calls Tryz.prog 38 #[v] w (TmO (cp1 t) w)
set_option maxRecDepth 100000 in
set_option maxHeartbeats 4000000 in
theorem specl1CopyO' : ∀ (m : Nat) (t : Tm), Tm.sz t ≤ m → CopyO t := by
  intro m
  induction m with
  | zero => intro t hm; have := Tm.sz_pos t; omega
  | succ m ih =>
    intro t hm v S w ht
    obtain ⟨k, n, s, ks⟩ := t
    have IH := Lib.hid (show ∀ (j : Nat) (u : Tm), ks[j]? = some u → CopyO u from fun j u h => ih u (by
      have := kid_lt (k := k) (n := n) (s := s) (ks := ks) h; omega))
    clear ih hm
    obtain ⟨i0, hi, hz0, hz1, hz2⟩ := info_parts info_term3
    obtain ⟨hs1, sv, rfl, a, cap, rfl, h1, h2, h3, h4⟩ := ht
    have H4 := Lib.hid h4
    have HI := Lib.hid hi
    have HZ := Lib.hid hz0
    have HZ1 := Lib.hid hz1
    have HZ2 := Lib.hid hz2
    have HF : Hid (cp1 (.mk k n s ks) = .mk k n s (cpL ks)) := Lib.hid rfl
    clear h4 hi hz0 hz1 hz2
    go_enter Tryz.func38, Tryz.ntmps38
    go_wp2_with fail
    go_loopw [4] (fun i wr => ∃ (j : Nat) (av : Option Addr) (cv : Nat) (ts : List Tm), j ≤ ks.length ∧ i = .int .i64 j ∧ Hid (ts = cpL (ks.take j)) ∧
        Hid (BoxT wr (w.heap.size) (.int .i64 k) (.int .i64 n) (.string s) (.slice a ks.length cap)) ∧ Hid (KidO w (w.heap.size + 1 + 1) (w.heap.size + 1) (w.heap.size + 1 + 1 + 1) ts (.int .i64 k) (.int .i64 n) (.string s) av cv wr)) (fun i _ => ks.length - (intOf i).toNat)
    case atStart =>
      refine ⟨0, none, 0, [], Nat.zero_le _, rfl, Lib.hid rfl, Lib.hid ?_, Lib.hid ⟨OwnS.nil _ _, ((Ext.alloc _ _).trans (Ext.alloc _ _)).trans (Ext.alloc _ _), ?_, ?_⟩⟩
      · exact ((BoxT.new w (.int .i64 k) (.int .i64 n) (.string s) (.slice a ks.length cap) 26 rfl).ext (Ext.alloc _ _)).ext (Ext.alloc _ _)
      · exact BoxT.new ((w.alloc (.cells #[.int .i64 k, .int .i64 n, .string s, .slice a ks.length cap] 26)).alloc (.cells #[.int .i64 0, .int .i64 0, .string ⟨#[]⟩, .slice none 0 0] 26)) (.int .i64 k) (.int .i64 n) (.string s) (.slice none 0 0) 26 (by simp)
      · exact (BoxT.new (w.alloc (.cells #[.int .i64 k, .int .i64 n, .string s, .slice a ks.length cap] 26)) (.int .i64 0) (.int .i64 0) (.string ⟨#[]⟩) (.slice none 0 0) 26 (by simp)).ext (Ext.alloc _ _)
    case round =>
      obtain ⟨j, av, cv, ts, hj, rfl, HT, HP, HK⟩ := hrel
      have hlen : ts.length = j := by rw [HT.out, cpL_len]; simp; omega
      obtain ⟨c0, c1, c2, c3, f0, f1, f2, f3⟩ := HK.out.box
      obtain ⟨p0, p1, p2, p3, _, _, _, _⟩ := HP.out
      have hsz : w.heap.size + 1 + 1 + 1 ≤ wr.heap.size := HK.out.box.lt
      have sz : w.heap.size + 1 + 1 < wr.heap.size := HK.out.box.lt
      have sp : w.heap.size < wr.heap.size := HP.out.lt
      rw [hlen] at c3
      by_cases hlt : j < ks.length
      · obtain ⟨tk, htk⟩ := getk hlt
        obtain ⟨b, off, a1, c1', rfl, hSb, k1, k2, k3, k4, hat⟩ := tget H4.out htk
        have k1 := HK.out.ext.cell k1
        have k2 := HK.out.ext.cell k2
        have k3 := HK.out.ext.cell k3
        have k4 := HK.out.ext.cell k4
        have hlk : ks.length ≤ 1048576 := h3
        have HC := Lib.hid (fun w' (e' : Ext wr w') => IH.out j tk htk _ S w' (Tm.at_ext (HK.out.ext.trans e') hat))
        have HTS : Hid (ts ++ [cp1 tk] = cpL (ks.take (j + 1))) := Lib.hid (by rw [HT.out, cpL_snoc htk])
        have hbw := block_lt_of_cell k1
        simp only at hbw
        clear htk hat hSb c0 c1 c2 f0 f1 f2 p0 p1 p2
        go_wp2_with fail
        go_region_law (first
          | (go_simp; go_at_call 38; refine (HC.out _ ?_).mono ?_; (first | exact Ext.refl _ | exact Ext.drew _); rintro e w1 ⟨a2, c2, rfl, hv1, e1⟩; (try replace e1 := Ext.undrew e1); have e2 := Lib.hid e1; have hv2 := Lib.hid (own_zone (F' := fun b => wr.heap.size ≤ b) hv1 (fun b hb => by simpa using hb)); have d3 := e2.out.cell c3; have d4 := e2.out.cell p3; have s1 := Below.size e2.out; have s2 := Nat.lt_of_lt_of_le sz s1; have s3 := Nat.lt_of_lt_of_le sp s1; clear e1 hv1; dsimp only)
          | (refine step_append_ow (w0 := wr) rfl (.tmp 20) (.tmp 27) 24 rfl (w.heap.size + 1 + 1 + 1) i0 Tryz.underlying24 HI.out HZ.out HZ1.out HZ2.out (.slice av ts.length cv) ts (cp1 tk) a2 c2 (by rw [hlen]; rfl) (HK.out.app.ext e2.out) rfl hv2.out s1 hsz (by omega) rfl ?_; intro av2 cv2 w2 hA2 hf2; have K2 := Lib.hid (HK.out.next (by omega) (by omega) (by omega) (by omega) e2.out hA2 hf2); have P2 := Lib.hid (((HP.out.ext e2.out).fr hf2 (by omega)).fr (M := fun k => k = w.heap.size + 1 + 1) (Fr.setCell (i := 3) (u := .slice av2 (ts.length + 1) cv2) w2 rfl) (by omega)); have g3 := hf2.cell (k := w.heap.size + 1 + 1) (by omega) d3; have g5 := hf2.frozen (k := w.heap.size + 1 + 1) (by omega) (by omega) (e2.out.frozen sz f3); clear hA2 hf2))
        all_goals go_wp2_with fail
        all_goals
          go_roundw
          case rel => exact ⟨j + 1, av2, cv2, ts ++ [cp1 tk], by omega, by simp, HTS, by rw [← hlen]; exact P2, by rw [← hlen]; exact K2⟩
          case measure => simp [intOf]; omega
      · have hjj : j = ks.length := by omega
        subst hjj
        have hts : ts = cpL ks := by rw [HT.out, List.take_of_length_le (Nat.le_refl _)]
        subst hts
        obtain ⟨g0, g1, g2, g3, z0, z1, z2, z3⟩ := HK.out.res
        go_wp2_with fail
        refine ret4_set (p := 2) (T := 26) (b := w.heap.size + 1) (by kernel_rfl) (fun _ => by kernel_rfl) (fun _ => by kernel_rfl) rfl rfl g0 g1 g2 g3 ?_
        intro X hX
        have f : Fr (fun b => b = w.heap.size + 1) wr X := Fr.of_grown hX (fun k e => by cases e; rfl)
        rw [HF.out]
        have hA := HK.out.app
        refine ⟨av, cv, rfl, own_iff.2 ⟨hs1, ?_, hA.mono (fun b hb => by omega) f (fun b hb h => by omega)⟩, ((Fr.of_ext HK.out.ext).trans f).toExt (fun k hk h => by omega)⟩
        simp only [Tm.kids, cpL_len]
        exact h3
theorem specl1CopyO (t : Tm) (v : Value) (S : Nat → Prop) (w : World) (ht : Tm.at S w t v) : Calls Tryz.prog 38 #[v] w (TmO t w) := specl1CopyO' _ t (Nat.le_refl _) v S w ht
end Go.Proofs.YtognkaebiafgbaaGreat
