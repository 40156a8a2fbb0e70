/-
  The mirror's toTerm makes a term in rows of its own, no row twice.
-/
import Derived.Laws.IdiomStrings
import Derived.Deep.CutBlock
import Derived.Deep.LoopGhost
import Derived.Test.YtognkaebiafgbaaMu19
import Derived.Test.YtognkaebiafgbaaMu17
namespace Go.Proofs.Ytognkaebiafgbaa
open Go.RowKit
set_option linter.unusedVariables false
mutual
theorem own_bound : ∀ {F : Nat → Prop} {w : World} (t : Tm) (sv : Value), Tm.own F w t sv → Tm.own (fun b => F b ∧ b < w.heap.size) w t sv
  | F, w, .mk k n s ks, sv, h => by
    simp only [Tm.own] at h ⊢
    obtain ⟨h1, h2, xs, h3, h4, h5⟩ := h
    refine ⟨h1, h2, xs, h3, fun g hg => ⟨h4 g hg, (h3.lt g hg).2⟩, ?_⟩
    exact oflat_mono (M := fun _ => False) (fun b hb => ⟨⟨hb.1.1, hb.2⟩, hb.1.2⟩) (Fr.refl _ _) (fun _ _ h => h) _ _ (oflat_bound ks xs h5)
theorem oflat_bound : ∀ {F : Nat → Prop} {w : World} (ts : List Tm) (xs : List Value), Tm.oflat F w ts xs → Tm.oflat (fun b => F b ∧ b < w.heap.size) w ts xs
  | F, w, [], xs, h => by simp only [Tm.oflat] at h ⊢; exact h
  | F, w, t :: ts, xs, h => by
    simp only [Tm.oflat] at h ⊢
    obtain ⟨F1, F2, a, c, rest, h1, h2, h3, h4, h5⟩ := h
    exact ⟨fun b => F1 b ∧ b < w.heap.size, fun b => F2 b ∧ b < w.heap.size, a, c, rest, h1, fun b hb => ⟨⟨(h2 b hb.1).1, hb.2⟩, fun h => (h2 b hb.1).2 h.1⟩, fun b hb => ⟨h3 b hb.1, hb.2⟩, own_bound t _ h4, oflat_bound ts rest h5⟩
end
theorem OwnS.bound {F : Nat → Prop} {w : World} {ts : List Tm} {v : Value} (h : OwnS F ts v w) : OwnS (fun b => F b ∧ b < w.heap.size) ts v w := by
  obtain ⟨xs, h3, h4, h5⟩ := h
  exact ⟨xs, h3, fun g hg => ⟨h4 g hg, (h3.lt g hg).2⟩, oflat_mono (M := fun _ => False) (fun b hb => ⟨⟨hb.1.1, hb.2⟩, hb.1.2⟩) (Fr.refl _ _) (fun _ _ h => h) _ _ (oflat_bound ts xs h5)⟩
theorem OwnS.ext {F : Nat → Prop} {w w' : World} {ts : List Tm} {v : Value} (h : OwnS F ts v w) (e : Ext w w') : OwnS F ts v w' := h.mono (M := fun _ => False) (fun _ h => h) (Fr.of_ext e) (fun _ _ h => h)
theorem own_ext1 {F : Nat → Prop} {w w' : World} {t : Tm} {v : Value} (h : Tm.own F w t v) (e : Ext w w') : Tm.own F w' t v := own_mono (M := fun _ => False) (fun _ h => h) (Fr.of_ext e) (fun _ _ h => h) _ _ h
theorem own_zone {F F' : Nat → Prop} {w : World} {t : Tm} {v : Value} (h : Tm.own F w t v) (hF : ∀ b, F b → F' b) : Tm.own F' w t v := own_mono (M := fun _ => False) hF (Fr.refl _ _) (fun _ _ h => h) _ _ h
def TmO (t : Tm) (w : World) (e : Ending) (w' : World) : Prop := ∃ a c, e = .returned (.agg #[.int .i64 t.kind, .int .i64 t.n, .string t.name, .slice a t.kids.length c]) ∧ Tm.own (fun b => w.heap.size ≤ b) w' t (.slice a t.kids.length c) ∧ Ext w w'
end Go.Proofs.Ytognkaebiafgbaa

namespace Go.Proofs.Ytognkaebiafgbaa
open Go.RowKit
set_option linter.unusedVariables false
theorem ret4b_set {P : Program} {fn : Func} {R : Ending → World → Prop} {a : Act} {Y : World} {p q T b : Nat} {u0 u1 u2 u3 v0 v1 v2 v3 y : Value}
    (hres : fn.results = #[.cell p T, .tmp q]) (hT : ∀ w, (isAgg T).run P w = .ok true w) (hs : ∀ w, (sizeOf T).run P w = .ok 4 w) (hp : a.tmps.getD p undef = .pointer (some ⟨b, 0, none⟩)) (hq : a.tmps.getD q undef = y) (hd : a.defers = [])
    (h : BoxT Y b u0 u1 u2 u3)
    (hR : ∀ X, Fr (fun k => k = b) Y X → R (.returned (.tuple #[.agg #[v0, v1, v2, v3], y])) X) :
    bodyPost P fn R .ret a ((((Y.setCell ⟨b, 0, none⟩ v0).setCell ⟨b, 1, none⟩ v1).setCell ⟨b, 2, none⟩ v2).setCell ⟨b, 3, none⟩ v3) := by
  obtain ⟨c0, c1, c2, c3⟩ := set4_cells (Y := Y) v0 v1 v2 v3 h.1 h.2.1 h.2.2.1 h.2.2.2.1
  refine bodyPost_ret (v := .tuple #[.agg #[v0, v1, v2, v3], y]) ?_ hd (hR _ (Fr.of_grown (set4_grown Y b v0 v1 v2 v3) (fun k e => by cases e; rfl)))
  have hl := load4 (P := P) (T := T) (b := b) hT hs c0 c1 c2 c3
  simp only [results, hres]
  have hp' : a.tmps[p]?.getD undef = .pointer (some ⟨b, 0, none⟩) := by simpa using hp
  have hq' : a.tmps[q]?.getD undef = y := by simpa using hq
  unfold set4 at hl
  simp [hp', hq', asAddr, hl]
theorem ret4b {P : Program} {fn : Func} {R : Ending → World → Prop} {a : Act} {Y : World} {p q T b : Nat} {v0 v1 v2 v3 y : Value}
    (hres : fn.results = #[.cell p T, .tmp q]) (hT : ∀ w, (isAgg T).run P w = .ok true w) (hs : ∀ w, (sizeOf T).run P w = .ok 4 w) (hp : a.tmps.getD p undef = .pointer (some ⟨b, 0, none⟩)) (hq : a.tmps.getD q undef = y) (hd : a.defers = [])
    (h : BoxT Y b v0 v1 v2 v3) (hR : R (.returned (.tuple #[.agg #[v0, v1, v2, v3], y])) Y) : bodyPost P fn R .ret a Y := by
  refine bodyPost_ret (v := .tuple #[.agg #[v0, v1, v2, v3], y]) ?_ hd hR
  have hl := load4 (P := P) (T := T) (b := b) hT hs h.1 h.2.1 h.2.2.1 h.2.2.2.1
  simp only [results, hres]
  have hp' : a.tmps[p]?.getD undef = .pointer (some ⟨b, 0, none⟩) := by simpa using hp
  have hq' : a.tmps[q]?.getD undef = y := by simpa using hq
  simp [hp', hq', asAddr, hl]
theorem own_nil (F : Nat → Prop) (w : World) (k n : Int) (s : ByteArray) (hs : s.size ≤ 1048576) : Tm.own F w (.mk k n s []) (.slice none 0 0) := own_iff.2 ⟨hs, by simp [Tm.kids], OwnS.nil _ _⟩
def val4 (t : Tm) (a : Option Addr) (c : Nat) : Value := .agg #[.int .i64 t.kind, .int .i64 t.n, .string t.name, .slice a t.kids.length c]
theorem BoxT.put4 {w : World} {b : Nat} {u0 u1 u2 u3 : Value} (h : BoxT w b u0 u1 u2 u3) (v0 v1 v2 v3 : Value) : BoxT ((((w.setCell ⟨b, 0, none⟩ v0).setCell ⟨b, 1, none⟩ v1).setCell ⟨b, 2, none⟩ v2).setCell ⟨b, 3, none⟩ v3) b v0 v1 v2 v3 := by
  obtain ⟨a0, a1, a2, a3, f0, f1, f2, f3⟩ := h
  obtain ⟨c0, c1, c2, c3⟩ := set4_cells (Y := w) v0 v1 v2 v3 a0 a1 a2 a3
  refine ⟨c0, c1, c2, c3, ?_, ?_, ?_, ?_⟩
  · rw [World.frozen?_setCell, World.frozen?_setCell, World.frozen?_setCell, World.frozen?_setCell]; exact f0
  · rw [World.frozen?_setCell, World.frozen?_setCell, World.frozen?_setCell, World.frozen?_setCell]; exact f1
  · rw [World.frozen?_setCell, World.frozen?_setCell, World.frozen?_setCell, World.frozen?_setCell]; exact f2
  · rw [World.frozen?_setCell, World.frozen?_setCell, World.frozen?_setCell, World.frozen?_setCell]; exact f3
theorem put4_frw {M : Nat → Prop} (w : World) {b : Nat} (u0 u1 u2 u3 : Value) (hM : M b) : Fr M w ((((w.setCell ⟨b, 0, none⟩ u0).setCell ⟨b, 1, none⟩ u1).setCell ⟨b, 2, none⟩ u2).setCell ⟨b, 3, none⟩ u3) := (((Fr.setCell _ hM).trans (Fr.setCell _ hM)).trans (Fr.setCell _ hM)).trans (Fr.setCell _ hM)
end Go.Proofs.Ytognkaebiafgbaa

namespace Go.Proofs.Ytognkaebiafgbaa
open Go.RowKit
set_option linter.unusedVariables false
def TabW (w : World) : Prop := Lib.TabIs Try.prog w "internal/strconv.uint64pow10" .u64 Lib.pow10Tab
theorem TabW.ext {w w' : World} (h : TabW w) (e : Ext w w') : TabW w' := by
  unfold TabW Lib.TabIs World.var? at h ⊢
  cases hg : Try.prog.globalNamed "internal/strconv.uint64pow10" with
  | none => simp [hg] at h
  | some g =>
    simp only [hg, Option.bind_some] at h ⊢
    have hlt : g < w.heap.size := by
      apply Decidable.byContradiction
      intro hn
      rw [Array.getElem?_eq_none (by omega)] at h
      simp at h
    rw [e.block g hlt]
    exact h
theorem conv_oneT (w : World) (T : TypeId) (c : UInt8) (x : Int) (hx : x = c.toNat) : Sem.run Try.prog (convert 22 9 (.slice (some ⟨w.heap.size, 0, none⟩) 1 1)) (w.alloc (.cells #[.int .u8 x] T)) = .ok (.string ⟨#[c]⟩) (w.alloc (.cells #[.int .u8 x] T)) := by
  subst hx
  exact run_convert_bytes_back (P := Try.prog) _ 22 9 5 ⟨w.heap.size, 0, none⟩ 1 [c] Try.underlying22 Try.underlying5 Try.underlying9 (fun j hj => by
    have h1 : j < 1 := hj
    have : j = 0 := by omega
    subst this
    exact cell_new w _ _ 0 _ rfl)
theorem letter_toNat {n : Int} (h0 : 0 ≤ n) (h1 : n ≤ 25) : (65 + n : Int) = ((letB n).toNat : Int) := by
  unfold letB
  rw [UInt8.toNat_ofNat']
  omega
def StrI (Z : Nat → Prop) (xs : List ByteArray) (v : Value) (w : World) : Prop := w.ownsRow 0 9 1 v xs.length (xs.map Value.string) ∧ (∀ g, v.ownBlock = some g → Z g) ∧ xs.length ≤ 1048576
theorem StrI.nil (Z : Nat → Prop) (w : World) : StrI Z [] (.slice none 0 0) w := ⟨⟨rfl, .inl ⟨rfl, rfl⟩⟩, by simp [Value.ownBlock], by simp⟩
theorem StrI.form {Z : Nat → Prop} {xs : List ByteArray} {v : Value} {w : World} (h : StrI Z xs v w) : ∃ a c, v = .slice a xs.length c := own_form h.1
theorem StrI.keep {Z M : Nat → Prop} {xs : List ByteArray} {v : Value} {w w' : World} (h : StrI Z xs v w) (f : Fr M w w') (hM : ∀ k, k < w.heap.size → M k → ¬ Z k) : StrI Z xs v w' := by
  refine ⟨own_keep h.1 f (fun g hg hm => ?_), h.2⟩
  exact hM g (h.1.lt g hg).2 hm (h.2.1 g hg)
theorem StrI.ext {Z : Nat → Prop} {xs : List ByteArray} {v : Value} {w w' : World} (h : StrI Z xs v w) (e : Ext w w') : StrI Z xs v w' := h.keep (M := fun _ => False) (Fr.of_ext e) (fun _ _ h => h.elim)
theorem StrI.cells {Z : Nat → Prop} {xs : List ByteArray} {v : Value} {w : World} (h : StrI Z xs v w) (hne : xs ≠ []) : ∃ g c, v = .slice (some ⟨g, 0, none⟩) xs.length c ∧ g < w.heap.size ∧ xs.length ≤ c ∧ ∀ (j : Nat) (x : ByteArray), xs[j]? = some x → w.cell? ⟨g, 0 + j, none⟩ = some (.string x) := by
  obtain ⟨h1, h2, h3⟩ := h
  have hc := fun g (hg : v.ownBlock = some g) => h1.cells hg
  have hlt := fun g (hg : v.ownBlock = some g) => (h1.lt g hg).2
  obtain ⟨e1, e2⟩ := h1
  rcases e2 with ⟨rfl, e2⟩ | ⟨g, cap, cur, rfl, e3, e4, e5, e6, e7⟩
  · exact absurd (List.eq_nil_of_length_eq_zero e2) hne
  · refine ⟨g, cap, rfl, hlt g rfl, e5, fun j x hx => ?_⟩
    have := hc g rfl j (.string x) (by simp [hx])
    rw [show (⟨g, 0, none⟩ : Addr).add j = ⟨g, 0 + j, none⟩ by unfold Addr.add; split <;> simp_all] at this
    exact this
end Go.Proofs.Ytognkaebiafgbaa

namespace Go.Proofs.Ytognkaebiafgbaa
open Go.RowKit
set_option linter.unusedVariables false
theorem two_get {S : Nat → Prop} {w : World} {a b : Tm} {ar : Option Addr} (h : [a, b] = [] ∨ ∃ b' off, ar = some ⟨b', off, none⟩ ∧ S b' ∧ Tm.row S w b' off [a, b]) :
    ∃ r off p c p' c', ar = some ⟨r, off, none⟩ ∧ S r ∧ w.cell? ⟨r, off, none⟩ = some (.int .i64 a.kind) ∧ w.cell? ⟨r, off + 1, none⟩ = some (.int .i64 a.n) ∧ w.cell? ⟨r, off + 2, none⟩ = some (.string a.name) ∧ w.cell? ⟨r, off + 3, none⟩ = some (.slice p a.kids.length c) ∧
      w.cell? ⟨r, off + 4, none⟩ = some (.int .i64 b.kind) ∧ w.cell? ⟨r, off + 5, none⟩ = some (.int .i64 b.n) ∧ w.cell? ⟨r, off + 6, none⟩ = some (.string b.name) ∧ w.cell? ⟨r, off + 7, none⟩ = some (.slice p' b.kids.length c') ∧
      Tm.at S w a (val4 a p c) ∧ Tm.at S w b (val4 b p' c') := by
  obtain ⟨r, off, p, c, rfl, hS, k1, k2, k3, k4, hat⟩ := tget h (k := 0) (t := a) rfl
  obtain ⟨r', off', p', c', q, hS', q1, q2, q3, q4, hat'⟩ := tget h (k := 1) (t := b) rfl
  obtain ⟨rfl, rfl⟩ : r = r' ∧ off = off' := by simpa using q
  exact ⟨r, off, p, c, p', c', rfl, hS, by simpa using k1, by simpa using k2, by simpa using k3, by simpa using k4, by simpa using q1, by simpa using q2, by simpa using q3, by simpa using q4, hat, hat'⟩
theorem at_kids {S : Nat → Prop} {w : World} {k n : Int} {s : ByteArray} {ks : List Tm} {ac : Option Addr} {len cc : Nat} (h : Tm.at S w (.mk k n s ks) (.agg #[.int .i64 k, .int .i64 n, .string s, .slice ac len cc])) :
    s.size ≤ 1048576 ∧ len = ks.length ∧ ks.length ≤ cc ∧ cc ≤ 9223372036854775807 ∧ ks.length ≤ 1048576 ∧ (ks = [] ∨ ∃ b' off, ac = some ⟨b', off, none⟩ ∧ S b' ∧ Tm.row S w b' off ks) := by
  obtain ⟨h1, sv, h2, a, c, rfl, h3, h4, h5, h6⟩ := h
  simp at h2
  obtain ⟨rfl, rfl, rfl⟩ := h2
  exact ⟨h1, rfl, h3, h4, h5, h6⟩
theorem txt_var (o : Bool) (n : Int) (s : ByteArray) (ks : List Tm) : txt o (.mk 1 n s ks) = [letB n] := by simp [txt, txF, ownTx]
theorem txt_int (o : Bool) (n : Int) (s : ByteArray) (ks : List Tm) : txt o (.mk 2 n s ks) = Lib.itoa n := by simp [txt, txF, ownTx]
theorem txt_pair {o : Bool} {n : Int} {s : ByteArray} {a b : Tm} (ho : (o && infF 3 s 2) = false) (h : pairF 3 s 2 = true) : txt o (.mk 3 n s [a, b]) = 91 :: (txt o a ++ (rst o b ++ [93])) := by
  simp [txt, rst, txF, ownTx, txL, ho, h]
theorem rst_pair {o : Bool} {n : Int} {s : ByteArray} {a b : Tm} (h : pairF 3 s 2 = true) : rst o (.mk 3 n s [a, b]) = 44 :: (txt o a ++ rst o b) := by
  simp [txt, rst, txF, restTx, txL, h]
theorem rst_nil {o : Bool} {k n : Int} {s : ByteArray} {ks : List Tm} (hp : pairF k s ks.length = false) (h : nilF k s ks.length = true) : rst o (.mk k n s ks) = [] := by
  simp [rst, txF, restTx, txL_len, hp, h]
theorem rst_tail {o : Bool} {k n : Int} {s : ByteArray} {ks : List Tm} (hp : pairF k s ks.length = false) (h : nilF k s ks.length = false) : rst o (.mk k n s ks) = 124 :: txt o (.mk k n s ks) := by
  simp [rst, txt, txF, restTx, txL_len, hp, h]
theorem txt_atom {o : Bool} {n : Int} {s : ByteArray} : txt o (.mk 3 n s []) = s.toList := by
  simp [txt, txF, ownTx, txL, infF, pairF]
theorem txt_args {o : Bool} {n : Int} {s : ByteArray} {ks : List Tm} (ho : (o && infF 3 s ks.length) = false) (h : pairF 3 s ks.length = false) (hl : ks.length ≠ 0) : txt o (.mk 3 n s ks) = s.toList ++ 40 :: (joinF (ks.map (txt o)) ++ [41]) := by
  simp only [txt, txF, ownTx, txL_len, ho, h, if_neg hl, if_neg (show ¬ (3 : Int) = 1 by decide), if_neg (show ¬ (3 : Int) = 2 by decide), if_neg (show ¬ false = true by decide), txL_map]
end Go.Proofs.Ytognkaebiafgbaa
