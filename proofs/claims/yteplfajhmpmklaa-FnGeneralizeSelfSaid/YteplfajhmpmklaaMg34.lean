/-
  Generalization: the pairs in memory; IndexFunc over pairs; the program's generalize.
-/
import Derived.Deep.RegionHeld3
import Derived.Test.YteplfajhmpmklaaMg33
import Derived.Test.YteplfajhmpmklaaMg16
import Derived.Test.YteplfajhmpmklaaMg30
import Derived.Test.YteplfajhmpmklaaMg8
namespace Go.Proofs.Yteplfajhmpmklaa
open Go.RowKit
set_option linter.unusedVariables false

/-- the terms of pairs, one behind the other -/
def unz : List (Tm × Tm) → List Tm
  | [] => []
  | p :: ps => p.1 :: p.2 :: unz ps
theorem unz_len : ∀ ps : List (Tm × Tm), (unz ps).length = ps.length * 2
  | [] => rfl
  | p :: ps => by simp [unz, unz_len ps]; omega
theorem unz_app : ∀ ps qs : List (Tm × Tm), unz (ps ++ qs) = unz ps ++ unz qs
  | [], _ => rfl
  | p :: ps, qs => by simp [unz, unz_app ps qs]
theorem unz_get : ∀ {ps : List (Tm × Tm)} {j : Nat} {p : Tm × Tm}, ps[j]? = some p → (unz ps)[j * 2]? = some p.1 ∧ (unz ps)[j * 2 + 1]? = some p.2
  | [], j, p, h => by simp at h
  | q :: ps, 0, p, h => by simp at h; subst h; simp [unz]
  | q :: ps, j + 1, p, h => by
    have := unz_get (ps := ps) (j := j) (p := p) (by simpa using h)
    rw [show (j + 1) * 2 = j * 2 + 1 + 1 by omega]
    simpa [unz] using this
/-- a slice of pairs -/
def PrS (S : Nat → Prop) (w : World) (ps : List (Tm × Tm)) (v : Value) : Prop :=
  ∃ a cap, v = .slice a ps.length cap ∧ ps.length ≤ cap ∧ cap ≤ maxLen ∧ ps.length ≤ 1048576 ∧ (ps = [] ∨ ∃ b off, a = some ⟨b, off, none⟩ ∧ Tm.row S w b off (unz ps))
theorem pget {S : Nat → Prop} {w : World} {ps : List (Tm × Tm)} {a : Option Addr} {k : Nat} {p : Tm × Tm}
    (h : ps = [] ∨ ∃ b off, a = some ⟨b, off, none⟩ ∧ Tm.row S w b off (unz ps)) (hp : ps[k]? = some p) :
    ∃ b off a1 c1 a2 c2, a = some ⟨b, off, none⟩ ∧
      w.cell? ⟨b, off + k * 8, none⟩ = some (.int .i64 p.1.kind) ∧ w.cell? ⟨b, off + k * 8 + 1, none⟩ = some (.int .i64 p.1.n) ∧ w.cell? ⟨b, off + k * 8 + 2, none⟩ = some (.string p.1.name) ∧ w.cell? ⟨b, off + k * 8 + 3, none⟩ = some (.slice a1 p.1.kids.length c1) ∧
      w.cell? ⟨b, off + k * 8 + 4, none⟩ = some (.int .i64 p.2.kind) ∧ w.cell? ⟨b, off + k * 8 + 5, none⟩ = some (.int .i64 p.2.n) ∧ w.cell? ⟨b, off + k * 8 + 6, none⟩ = some (.string p.2.name) ∧ w.cell? ⟨b, off + k * 8 + 7, none⟩ = some (.slice a2 p.2.kids.length c2) ∧
      Tm.at S w p.1 (.agg #[.int .i64 p.1.kind, .int .i64 p.1.n, .string p.1.name, .slice a1 p.1.kids.length c1]) ∧ Tm.at S w p.2 (.agg #[.int .i64 p.2.kind, .int .i64 p.2.n, .string p.2.name, .slice a2 p.2.kids.length c2]) := by
  rcases h with h | ⟨b, off, rfl, hrow⟩
  · rw [h] at hp; simp at hp
  obtain ⟨g1, g2⟩ := unz_get hp
  obtain ⟨a1, c1, d0, d1, d2, d3, d4⟩ := Tm.at_of_cells (Tm.row_get hrow _ _ g1)
  obtain ⟨a2, c2, e0, e1, e2, e3, e4⟩ := Tm.at_of_cells (Tm.row_get hrow _ _ g2)
  rw [show off + k * 2 * 4 = off + k * 8 by omega] at d0 d1 d2 d3
  rw [show off + (k * 2 + 1) * 4 = off + k * 8 + 4 by omega] at e0 e1 e2 e3
  exact ⟨b, off, a1, c1, a2, c2, rfl, d0, d1, d2, d3, e0, e1, e2, e3, d4, e4⟩

/-- pairs in a row of its own; what the terms hold lies in S -/
def PrI (S : Nat → Prop) (ps : List (Tm × Tm)) (v : Value) (w : World) : Prop :=
  ∃ xs, w.ownsRow 0 105 8 v ps.length xs ∧ Tm.flat S w (unz ps) xs ∧ ps.length ≤ 1048576
theorem PrI.nil (S : Nat → Prop) (w : World) : PrI S [] (.slice none 0 0) w := ⟨[], ⟨rfl, .inl ⟨rfl, rfl⟩⟩, rfl, by simp⟩
theorem PrI.form {S : Nat → Prop} {ps : List (Tm × Tm)} {v : Value} {w : World} (h : PrI S ps v w) : ∃ a c, v = .slice a ps.length c := by
  obtain ⟨xs, h, _⟩ := h
  exact own_form h
theorem PrI.lt {S : Nat → Prop} {ps : List (Tm × Tm)} {v : Value} {w : World} (h : PrI S ps v w) {g : Nat} (hg : v.ownBlock = some g) : g < w.heap.size := by
  obtain ⟨xs, h, _⟩ := h
  exact (h.lt g hg).2
theorem PrI.fr {S M : Nat → Prop} {ps : List (Tm × Tm)} {v : Value} {w w' : World} (h : PrI S ps v w) (f : Fr M w w') (hM : ∀ g, v.ownBlock = some g → ¬ M g) (hS : ∀ k, S k → ¬ M k) : PrI S ps v w' := by
  obtain ⟨xs, h1, h2, h3⟩ := h
  exact ⟨xs, own_fr h1 f hM, flat_mono (fun _ h => h) (f.agree hS) h2, h3⟩
theorem PrI.ext {S : Nat → Prop} {ps : List (Tm × Tm)} {v : Value} {w w' : World} (h : PrI S ps v w) (f : Ext w w') : PrI S ps v w' := h.fr (M := fun _ => False) (Fr.of_ext f) (fun _ _ h => h) (fun _ _ h => h)
theorem PrI.sl {S : Nat → Prop} {ps : List (Tm × Tm)} {v : Value} {w : World} (h : PrI S ps v w) : PrS S w ps v := by
  obtain ⟨xs, h1, h2, h3⟩ := h
  have hcell := fun (g : Nat) (hg : v.ownBlock = some g) => h1.cells (g := g) hg
  obtain ⟨e1, e2⟩ := h1
  rcases e2 with ⟨rfl, e2⟩ | ⟨g, cap, cur, rfl, e3, e4, e5, e6, e7⟩
  · have : ps = [] := List.eq_nil_of_length_eq_zero e2
    subst this
    exact ⟨none, 0, by simp, by simp, by omega, by simp, .inl rfl⟩
  · refine ⟨_, cap, rfl, e5, e6, h3, .inr ⟨g, 0, rfl, ?_⟩⟩
    refine flat_row h2 fun j hj => ?_
    have := hcell g rfl j xs[j] (by simp [hj])
    rw [show (⟨g, 0, none⟩ : Addr).add j = ⟨g, 0 + j, none⟩ by unfold Addr.add; split <;> simp_all] at this
    rw [this]; simp [hj]
theorem flat_two {S : Nat → Prop} {w : World} {t u : Tm} {a1 a2 : Option Addr} {c1 c2 : Nat} {ts : List Tm} {xs : List Value} (h : Tm.flat S w ts xs)
    (ht : Tm.at S w t (.agg #[.int .i64 t.kind, .int .i64 t.n, .string t.name, .slice a1 t.kids.length c1])) (hu : Tm.at S w u (.agg #[.int .i64 u.kind, .int .i64 u.n, .string u.name, .slice a2 u.kids.length c2])) : Tm.flat S w (ts ++ [t, u]) (xs ++ (tcells t a1 c1 ++ tcells u a2 c2)) := by
  have := flat_snoc hu (flat_snoc ht h)
  simpa [List.append_assoc] using this
/-- behind an append of one pair -/
theorem pr_next {S : Nat → Prop} {ps : List (Tm × Tm)} {t u : Tm} {nv : Value} {w1 w2 : World} {xs : List Value} {a1 a2 : Option Addr} {c1 c2 : Nat}
    (hfl : Tm.flat S w1 (unz ps) xs) (hl : ps.length < 1048576)
    (ht : Tm.at S w1 t (.agg #[.int .i64 t.kind, .int .i64 t.n, .string t.name, .slice a1 t.kids.length c1])) (hu : Tm.at S w1 u (.agg #[.int .i64 u.kind, .int .i64 u.n, .string u.name, .slice a2 u.kids.length c2]))
    (ho2 : w2.ownsRow 0 105 8 nv (ps.length + 1) (xs ++ (tcells t a1 c1 ++ tcells u a2 c2))) (hag : Agree S w1 w2) : PrI S (ps ++ [(t, u)]) nv w2 := by
  refine ⟨_, by simpa using ho2, ?_, by simp; omega⟩
  rw [unz_app]
  exact flat_mono (fun _ h => h) hag (flat_two hfl ht hu)

def FuncStepP (fid : FuncId) (caps : Array Value) (ts : List (Tm × Tm)) (S : Nat → Prop) (I : Nat → World → Prop) (b : Nat → Bool) : Prop :=
  ∀ (j : Nat) (p : Tm × Tm) (a1 a2 : Option Addr) (c1 c2 : Nat) (w : World), ts[j]? = some p → I j w → Tm.at S w p.1 (.agg #[.int .i64 p.1.kind, .int .i64 p.1.n, .string p.1.name, .slice a1 p.1.kids.length c1]) → Tm.at S w p.2 (.agg #[.int .i64 p.2.kind, .int .i64 p.2.n, .string p.2.name, .slice a2 p.2.kids.length c2]) →
    Calls Try.prog fid (#[.agg #[.int .i64 p.1.kind, .int .i64 p.1.n, .string p.1.name, .slice a1 p.1.kids.length c1, .int .i64 p.2.kind, .int .i64 p.2.n, .string p.2.name, .slice a2 p.2.kids.length c2]] ++ caps) w fun e w' => e = .returned (.bool (b j)) ∧ I (j + 1) w'

set_option maxHeartbeats 1000000 in
theorem slicesIndexFuncP (fid : FuncId) (caps : Array Value) (ts : List (Tm × Tm)) (S : Nat → Prop) (I : Nat → World → Prop) (b : Nat → Bool) (v : Value) (w : World)
    (hcf : ∀ args w, Sem.run Try.prog (callFunc fid args) w = .ok (.enter fid args) w) (hstep : Hid (FuncStepP fid caps ts S I b)) (hI : Hid (∀ j w, I j w → PrS S w ts v)) (h0 : Hid (I 0 w)) :
    Calls Try.prog 90 #[v, .func (.func fid) #[] caps] w (IndexPost ts.length I b) := by
  obtain ⟨a, cap, rfl, h1, h2, h3, h4⟩ := hI.out 0 w h0.out
  clear h4
  go_enter Try.func90, Try.ntmps90
  go_wp2_with fail
  go_loopw [5, 8] (fun _ i wr => ∃ k : Nat, k ≤ ts.length ∧ i = .int .i64 k ∧ Hid (∀ i, i < k → b i = false) ∧ Hid (I k wr)) (fun _ i _ => ts.length - (intOf i).toNat)
  case atStart => exact ⟨0, Nat.zero_le _, rfl, fun i hi => absurd hi (by omega), h0⟩
  case round =>
    obtain ⟨k, hk, rfl, HB, HK⟩ := hrel
    by_cases hlt : k < ts.length
    · obtain ⟨tk, htk⟩ : ∃ t, ts[k]? = some t := ⟨ts[k], by simp [hlt]⟩
      obtain ⟨a', cap', ha, _, _, _, h4⟩ := hI.out k wr HK.out
      cases ha
      obtain ⟨bb, off, a1, c1, a2, c2, rfl, d0, d1, d2, d3, e0, e1, e2, e3, hat1, hat2⟩ := pget h4 htk
      have HC := Lib.hid (hstep.out k tk a1 a2 c1 c2 wr htk HK.out hat1 hat2)
      clear h4 htk hat1 hat2
      cases hb : b k
      all_goals
        rw [hb] at HC
        have Hb := Lib.hid hb
        clear hb
        go_wp2_with fail
        refine HC.out.mono ?_
        rintro e w' ⟨rfl, hk'⟩
        have HK' := Lib.hid hk'
        clear hk'
        go_wp2_with fail
        first
          | (go_ret; exact .inl ⟨k, hlt, HB.out, Hb.out, rfl, HK'.out⟩)
          | (go_roundw
             case rel => exact ⟨k + 1, by omega, by go_num, fun i hi => by
               by_cases e : i = k
               · rw [e]; exact Hb.out
               · exact HB.out i (by omega), HK'⟩
             case measure => simp [intOf]; omega)
    · go_wp2_with fail
      go_ret
      exact .inr ⟨fun i hi => HB.out i (by omega), rfl, by rw [show ts.length = k by omega]; exact HK.out⟩

end Go.Proofs.Yteplfajhmpmklaa
