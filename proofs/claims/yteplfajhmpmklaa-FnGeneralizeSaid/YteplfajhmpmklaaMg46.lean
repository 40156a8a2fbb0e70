/-
  Bindings (a number and a term): their reading in memory, and the plain replacing of variables.
-/
import Derived.Test.YteplfajhmpmklaaMg45
import Derived.Test.YteplfajhmpmklaaMg44
import Derived.Test.YteplfajhmpmklaaMg25
namespace Go.Proofs.Yteplfajhmpmklaa
open Go.RowKit
set_option linter.unusedVariables false

/-- a binding -/
structure Bd where
  n : Int
  t : Tm
/-- a binding in five cells -/
def Bd.cells (S : Nat → Prop) (w : World) (b off : Nat) (x : Bd) : Prop := w.cell? ⟨b, off, none⟩ = some (.int .i64 x.n) ∧ Tm.cells S w b (off + 1) x.t
def Bd.row (S : Nat → Prop) (w : World) (b off : Nat) : List Bd → Prop
  | [] => True
  | x :: xs => Bd.cells S w b off x ∧ Bd.row S w b (off + 5) xs
/-- a slice of bindings -/
def Bd.sl (S : Nat → Prop) (w : World) (xs : List Bd) (v : Value) : Prop :=
  ∃ a cap, v = .slice a xs.length cap ∧ xs.length ≤ cap ∧ cap ≤ 9223372036854775807 ∧ xs.length ≤ 1048576 ∧
    (xs = [] ∨ ∃ b off, a = some ⟨b, off, none⟩ ∧ S b ∧ Bd.row S w b off xs)
theorem Bd.row_mono {S S' : Nat → Prop} {w w' : World} (hS : ∀ b, S b → S' b) (ha : Agree S w w') {b : Nat} (hb : S b) : ∀ (xs : List Bd) (off : Nat), Bd.row S w b off xs → Bd.row S' w' b off xs
  | [], _, _ => trivial
  | x :: xs, off, h => by
    obtain ⟨⟨h1, h2⟩, h4⟩ := h
    exact ⟨⟨ha _ _ _ hb h1, Tm.cells_mono hS ha (b' := 0) (fun o v => ha _ o v hb) _ h2⟩, Bd.row_mono hS ha hb xs _ h4⟩
theorem Bd.sl_mono {S S' : Nat → Prop} {w w' : World} (hS : ∀ b, S b → S' b) (ha : Agree S w w') {xs : List Bd} {v : Value} (h : Bd.sl S w xs v) : Bd.sl S' w' xs v := by
  obtain ⟨a, cap, h1, h2, h3, h4, h5⟩ := h
  refine ⟨a, cap, h1, h2, h3, h4, ?_⟩
  rcases h5 with h5 | ⟨b, off, h5, h6, h7⟩
  · exact .inl h5
  · exact .inr ⟨b, off, h5, hS _ h6, Bd.row_mono hS ha h6 xs _ h7⟩
theorem Bd.sl_ext {S : Nat → Prop} {w w' : World} (e : Ext w w') {xs : List Bd} {v : Value} (h : Bd.sl S w xs v) : Bd.sl S w' xs v := Bd.sl_mono (fun _ h => h) (Agree.of_ext e) h
theorem Bd.row_get {S : Nat → Prop} {w : World} {b : Nat} : ∀ {xs : List Bd} {off : Nat}, Bd.row S w b off xs → ∀ (i : Nat) (x : Bd), xs[i]? = some x → Bd.cells S w b (off + i * 5) x
  | [], _, _, i, t, h => by simp at h
  | c0 :: cs, off, h, 0, t, ht => by
    simp at ht; subst ht
    simpa using h.1
  | c0 :: cs, off, h, i + 1, t, ht => by
    have := Bd.row_get h.2 i t (by simpa using ht)
    rw [show off + (i + 1) * 5 = off + 5 + i * 5 by omega]
    exact this
/-- one element of a row, read later -/
theorem Bd.get {S : Nat → Prop} {w wr : World} {xs : List Bd} {a : Option Addr} {k : Nat} {x : Bd}
    (h : xs = [] ∨ ∃ b off, a = some ⟨b, off, none⟩ ∧ S b ∧ Bd.row S w b off xs) (hx : xs[k]? = some x) (he : Ext w wr) :
    ∃ b off ak ck, a = some ⟨b, off, none⟩ ∧ wr.cell? ⟨b, off + k * 5, none⟩ = some (.int .i64 x.n) ∧
      wr.cell? ⟨b, off + k * 5 + 1, none⟩ = some (.int .i64 x.t.kind) ∧ wr.cell? ⟨b, off + k * 5 + 2, none⟩ = some (.int .i64 x.t.n) ∧ wr.cell? ⟨b, off + k * 5 + 3, none⟩ = some (.string x.t.name) ∧
      wr.cell? ⟨b, off + k * 5 + 4, none⟩ = some (.slice ak x.t.kids.length ck) ∧
      Tm.at S w x.t (.agg #[.int .i64 x.t.kind, .int .i64 x.t.n, .string x.t.name, .slice ak x.t.kids.length ck]) := by
  rcases h with h4 | ⟨b, off, rfl, hSb, hrow⟩
  · rw [h4] at hx; simp at hx
  obtain ⟨h1, h2⟩ := Bd.row_get hrow k x hx
  obtain ⟨ak, ck, c0, c1, c2, c3, hat⟩ := Tm.at_of_cells h2
  exact ⟨b, off, ak, ck, rfl, he.cell h1, he.cell c0, he.cell c1, he.cell c2, he.cell c3, hat⟩
theorem bgetk {xs : List Bd} {k : Nat} (h : k < xs.length) : ∃ x, xs[k]? = some x := ⟨xs[k], by simp [h]⟩

/-- what a variable stands for -/
def findF (n : Int) : List Bd → Option Tm
  | [] => none
  | x :: xs => if x.n = n then some x.t else findF n xs
theorem find_none {n : Int} : ∀ {xs : List Bd}, (∀ (j : Nat) (x : Bd), xs[j]? = some x → x.n ≠ n) → findF n xs = none
  | [], _ => rfl
  | x :: xs, h => by
    simp only [findF]
    rw [if_neg (h 0 x rfl), find_none (fun j y hy => h (j + 1) y (by simpa using hy))]
theorem find_at {n : Int} : ∀ {xs : List Bd} {k : Nat} {x : Bd}, xs[k]? = some x → x.n = n → (∀ (j : Nat) (y : Bd), j < k → xs[j]? = some y → y.n ≠ n) → findF n xs = some x.t
  | [], k, x, h, _, _ => by simp at h
  | x0 :: xs, 0, x, h, hn, _ => by simp at h; subst h; simp [findF, hn]
  | x0 :: xs, k + 1, x, h, hn, hb => by
    simp only [findF]
    rw [if_neg (hb 0 x0 (by omega) rfl)]
    exact find_at (by simpa using h) hn (fun j y hj hy => hb (j + 1) y (by omega) (by simpa using hy))
mutual
/-- all variables replaced at once -/
def applyS (bs : List Bd) : Tm → Tm
  | .mk k n s ks => if k = 1 ∧ (findF n bs).isSome = true then (findF n bs).getD (.mk k n s ks) else .mk k n s (applySL bs ks)
def applySL (bs : List Bd) : List Tm → List Tm
  | [] => []
  | t :: ts => applyS bs t :: applySL bs ts
end
theorem applySL_len (bs : List Bd) : ∀ ts : List Tm, (applySL bs ts).length = ts.length
  | [] => rfl
  | t :: ts => by simp [applySL, applySL_len bs ts]
theorem applySL_snoc (bs : List Bd) : ∀ {ts : List Tm} {j : Nat} {t : Tm}, ts[j]? = some t → applySL bs (ts.take (j + 1)) = applySL bs (ts.take j) ++ [applyS bs t]
  | [], j, t, h => by simp at h
  | t0 :: ts, 0, t, h => by simp at h; subst h; simp [applySL]
  | t0 :: ts, j + 1, t, h => by
    simp only [List.take_succ_cons, applySL, List.cons_append]
    rw [applySL_snoc bs (by simpa using h)]
/-- a copy -/
def cp1 (t : Tm) : Tm := t
def cpL (ts : List Tm) : List Tm := ts
theorem cpL_len (ts : List Tm) : (cpL ts).length = ts.length := rfl
theorem cpL_snoc {ts : List Tm} {j : Nat} {t : Tm} (h : ts[j]? = some t) : cpL (ts.take (j + 1)) = cpL (ts.take j) ++ [cp1 t] := by
  unfold cpL cp1
  obtain ⟨hk, rfl⟩ := List.getElem?_eq_some_iff.1 h
  rw [List.take_succ_eq_append_getElem hk]

end Go.Proofs.Yteplfajhmpmklaa

/-
  Replacing variables keeps variables' numbers small.
-/
namespace Go.Proofs.Yteplfajhmpmklaa
open Go.RowKit
set_option linter.unusedVariables false

theorem find_mem {n : Int} : ∀ {bs : List Bd} {x : Tm}, findF n bs = some x → ∃ b ∈ bs, b.t = x
  | [], x, h => by simp [findF] at h
  | b :: bs, x, h => by
    simp only [findF] at h
    split at h
    · exact ⟨b, by simp, by simpa using h⟩
    · obtain ⟨c, hc, e⟩ := find_mem h
      exact ⟨c, by simp [hc], e⟩
mutual
theorem nb_apply {bs : List Bd} (hb : ∀ b ∈ bs, NB b.t) : ∀ t : Tm, NB t → NB (applyS bs t)
  | .mk k n s ks, h => by
    simp only [applyS]
    split
    · rename_i hc
      obtain ⟨x, hx⟩ := Option.isSome_iff_exists.1 hc.2
      obtain ⟨b, hm, rfl⟩ := find_mem hx
      rw [hx]
      exact hb b hm
    · exact ⟨h.1, nbl_apply hb ks h.2⟩
theorem nbl_apply {bs : List Bd} (hb : ∀ b ∈ bs, NB b.t) : ∀ ts : List Tm, NBL ts → NBL (applySL bs ts)
  | [], _ => trivial
  | t :: ts, h => ⟨nb_apply hb t h.1, nbl_apply hb ts h.2⟩
end

end Go.Proofs.Yteplfajhmpmklaa

/-
  The reference's l1Copy: the copy shares nothing.
-/
namespace Go.Proofs.Yteplfajhmpmklaa
open Go.RowKit
set_option linter.unusedVariables false

def CopyO (t : Tm) : Prop := ∀ (v : Value) (S : Nat → Prop) (w : World), Tm.at S w t v → Calls Try.prog 73 #[v] w (TmO (cp1 t) w)
set_option maxRecDepth 100000 in
set_option maxHeartbeats 4000000 in
theorem specl1CopyO' : ∀ (m : Nat) (t : Tm), Tm.sz t ≤ m → CopyO t := by
  intro m
  induction m with
  | zero => intro t hm; have := Tm.sz_pos t; omega
  | succ m ih =>
    intro t hm v S w ht
    obtain ⟨k, n, s, ks⟩ := t
    have IH := Lib.hid (show ∀ (j : Nat) (u : Tm), ks[j]? = some u → CopyO u from fun j u h => ih u (by
      have := kid_lt (k := k) (n := n) (s := s) (ks := ks) h; omega))
    clear ih hm
    obtain ⟨i0, hi, hz0, hz1, hz2⟩ := info_parts info_term3
    obtain ⟨hs1, sv, rfl, a, cap, rfl, h1, h2, h3, h4⟩ := ht
    have H4 := Lib.hid h4
    have HI := Lib.hid hi
    have HZ := Lib.hid hz0
    have HZ1 := Lib.hid hz1
    have HZ2 := Lib.hid hz2
    have HF : Hid (cp1 (.mk k n s ks) = .mk k n s (cpL ks)) := Lib.hid rfl
    clear h4 hi hz0 hz1 hz2
    go_enter Try.func73, Try.ntmps73
    go_wp2_with fail
    go_loopw [4] (fun i wr => ∃ (j : Nat) (av : Option Addr) (cv : Nat) (ts : List Tm), j ≤ ks.length ∧ i = .int .i64 j ∧ Hid (ts = cpL (ks.take j)) ∧
        Hid (BoxT wr (w.heap.size) (.int .i64 k) (.int .i64 n) (.string s) (.slice a ks.length cap)) ∧ Hid (KidO w (w.heap.size + 1 + 1) (w.heap.size + 1) (w.heap.size + 1 + 1 + 1) ts (.int .i64 k) (.int .i64 n) (.string s) av cv wr)) (fun i _ => ks.length - (intOf i).toNat)
    case atStart =>
      refine ⟨0, none, 0, [], Nat.zero_le _, rfl, Lib.hid rfl, Lib.hid ?_, Lib.hid ⟨OwnS.nil _ _, ((Ext.alloc _ _).trans (Ext.alloc _ _)).trans (Ext.alloc _ _), ?_, ?_⟩⟩
      · exact ((BoxT.new w (.int .i64 k) (.int .i64 n) (.string s) (.slice a ks.length cap) 29 rfl).ext (Ext.alloc _ _)).ext (Ext.alloc _ _)
      · exact BoxT.new ((w.alloc (.cells #[.int .i64 k, .int .i64 n, .string s, .slice a ks.length cap] 29)).alloc (.cells #[.int .i64 0, .int .i64 0, .string ⟨#[]⟩, .slice none 0 0] 29)) (.int .i64 k) (.int .i64 n) (.string s) (.slice none 0 0) 29 (by simp)
      · exact (BoxT.new (w.alloc (.cells #[.int .i64 k, .int .i64 n, .string s, .slice a ks.length cap] 29)) (.int .i64 0) (.int .i64 0) (.string ⟨#[]⟩) (.slice none 0 0) 29 (by simp)).ext (Ext.alloc _ _)
    case round =>
      obtain ⟨j, av, cv, ts, hj, rfl, HT, HP, HK⟩ := hrel
      have hlen : ts.length = j := by rw [HT.out, cpL_len]; simp; omega
      obtain ⟨c0, c1, c2, c3, f0, f1, f2, f3⟩ := HK.out.box
      obtain ⟨p0, p1, p2, p3, _, _, _, _⟩ := HP.out
      have hsz : w.heap.size + 1 + 1 + 1 ≤ wr.heap.size := HK.out.box.lt
      have sz : w.heap.size + 1 + 1 < wr.heap.size := HK.out.box.lt
      have sp : w.heap.size < wr.heap.size := HP.out.lt
      rw [hlen] at c3
      by_cases hlt : j < ks.length
      · obtain ⟨tk, htk⟩ := getk hlt
        obtain ⟨b, off, a1, c1', rfl, hSb, k1, k2, k3, k4, hat⟩ := tget H4.out htk
        have k1 := HK.out.ext.cell k1
        have k2 := HK.out.ext.cell k2
        have k3 := HK.out.ext.cell k3
        have k4 := HK.out.ext.cell k4
        have hlk : ks.length ≤ 1048576 := h3
        have HC := Lib.hid (fun w' (e' : Ext wr w') => IH.out j tk htk _ S w' (Tm.at_ext (HK.out.ext.trans e') hat))
        have HTS : Hid (ts ++ [cp1 tk] = cpL (ks.take (j + 1))) := Lib.hid (by rw [HT.out, cpL_snoc htk])
        have hbw := block_lt_of_cell k1
        simp only at hbw
        clear htk hat hSb c0 c1 c2 f0 f1 f2 p0 p1 p2
        go_wp2_with fail
        go_region_law (first
          | (go_simp; go_at_call 73; refine (HC.out _ ?_).mono ?_; (first | exact Ext.refl _ | exact Ext.drew _); rintro e w1 ⟨a2, c2, rfl, hv1, e1⟩; (try replace e1 := Ext.undrew e1); have e2 := Lib.hid e1; have hv2 := Lib.hid (own_zone (F' := fun b => wr.heap.size ≤ b) hv1 (fun b hb => by simpa using hb)); have d3 := e2.out.cell c3; have d4 := e2.out.cell p3; have s1 := Below.size e2.out; have s2 := Nat.lt_of_lt_of_le sz s1; have s3 := Nat.lt_of_lt_of_le sp s1; clear e1 hv1; dsimp only)
          | (refine step_append_ow (w0 := wr) rfl (.tmp 20) (.tmp 27) 27 rfl (w.heap.size + 1 + 1 + 1) i0 Try.underlying27 HI.out HZ.out HZ1.out HZ2.out (.slice av ts.length cv) ts (cp1 tk) a2 c2 (by rw [hlen]; rfl) (HK.out.app.ext e2.out) rfl hv2.out s1 hsz (by omega) rfl ?_; intro av2 cv2 w2 hA2 hf2; have K2 := Lib.hid (HK.out.next (by omega) (by omega) (by omega) (by omega) e2.out hA2 hf2); have P2 := Lib.hid (((HP.out.ext e2.out).fr hf2 (by omega)).fr (M := fun k => k = w.heap.size + 1 + 1) (Fr.setCell (i := 3) (u := .slice av2 (ts.length + 1) cv2) w2 rfl) (by omega)); have g3 := hf2.cell (k := w.heap.size + 1 + 1) (by omega) d3; have g5 := hf2.frozen (k := w.heap.size + 1 + 1) (by omega) (by omega) (e2.out.frozen sz f3); clear hA2 hf2))
        all_goals go_wp2_with fail
        all_goals
          go_roundw
          case rel => exact ⟨j + 1, av2, cv2, ts ++ [cp1 tk], by omega, by simp, HTS, by rw [← hlen]; exact P2, by rw [← hlen]; exact K2⟩
          case measure => simp [intOf]; omega
      · have hjj : j = ks.length := by omega
        subst hjj
        have hts : ts = cpL ks := by rw [HT.out, List.take_of_length_le (Nat.le_refl _)]
        subst hts
        obtain ⟨g0, g1, g2, g3, z0, z1, z2, z3⟩ := HK.out.res
        go_wp2_with fail
        refine ret4_set (p := 2) (T := 29) (b := w.heap.size + 1) (by kernel_rfl) (fun _ => by kernel_rfl) (fun _ => by kernel_rfl) rfl rfl g0 g1 g2 g3 ?_
        intro X hX
        have f : Fr (fun b => b = w.heap.size + 1) wr X := Fr.of_grown hX (fun k e => by cases e; rfl)
        rw [HF.out]
        have hA := HK.out.app
        refine ⟨av, cv, rfl, own_iff.2 ⟨hs1, ?_, hA.mono (fun b hb => by omega) f (fun b hb h => by omega)⟩, ((Fr.of_ext HK.out.ext).trans f).toExt (fun k hk h => by omega)⟩
        simp only [Tm.kids, cpL_len]
        exact h3
theorem specl1CopyO (t : Tm) (v : Value) (S : Nat → Prop) (w : World) (ht : Tm.at S w t v) : Calls Try.prog 73 #[v] w (TmO t w) := specl1CopyO' _ t (Nat.le_refl _) v S w ht

end Go.Proofs.Yteplfajhmpmklaa
