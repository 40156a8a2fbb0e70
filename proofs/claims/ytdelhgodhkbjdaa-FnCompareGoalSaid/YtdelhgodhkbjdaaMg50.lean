/-
  Unification from nothing, plain: a term with itself; a fresh variable with a term.
-/
import Derived.Test.YtdelhgodhkbjdaaMg41
namespace Go.Proofs.Ytdelhgodhkbjdaa
open Go.RowKit
set_option linter.unusedVariables false

theorem uni_det {f g : Nat} {K : List Tm} {a b : Tm} {x y : Bool × List Tm} (h : uniF f K a b = some x) (h' : uniF g K a b = some y) : x = y := by
  rcases Nat.le_total f g with e | e
  · have := mono f g K a b x h e; rw [h'] at this; exact (Option.some.inj this).symm
  · have := mono g f K a b y h' e; rw [h] at this; exact Option.some.inj this
theorem uniR_eq {f : Nat} {a b : Tm} {r : Bool × List Tm} (h : uniF f known0 a b = some r) : uniR a b = r := by
  have he : ∃ r, ∃ f, uniF f known0 a b = some r := ⟨r, f, h⟩
  unfold uniR
  rw [dif_pos he]
  obtain ⟨g, hg⟩ := he.choose_spec
  exact uni_det hg h
theorem walk0 (f : Nat) (t : Tm) : walkF (f + 1) known0 t = some t := by
  simp only [walkF]
  rw [if_neg]
  rintro ⟨_, h⟩
  rw [look_known0] at h
  exact h rfl
mutual
/-- a term with itself -/
theorem uni_self : ∀ t : Tm, ∃ f, uniF f known0 t t = some (true, known0)
  | .mk k n s ks => by
    obtain ⟨f, hf⟩ := uniL_self ks
    refine ⟨f + 1 + 1, ?_⟩
    rw [uniF_succ (walk0 f _) (walk0 f _)]
    by_cases h : k = 1
    · rw [if_pos ⟨h, h, rfl⟩]
    · have h' : ¬ (Tm.mk k n s ks).kind = 1 := h
      rw [if_neg (fun e => h' e.1), if_neg h', if_neg h', if_pos ⟨rfl, rfl, rfl, rfl⟩]
      exact monoL (mono f) (f + 1) _ _ _ _ hf (by omega)
theorem uniL_self : ∀ ts : List Tm, ∃ f, uniL f known0 ts ts = some (true, known0)
  | [] => ⟨0, uniL_nil _ _ _⟩
  | t :: ts => by
    obtain ⟨f, hf⟩ := uni_self t
    obtain ⟨g, hg⟩ := uniL_self ts
    refine ⟨f + g, ?_⟩
    rw [uniL_cons, mono f (f + g) _ _ _ _ hf (by omega)]
    exact monoL (mono g) (f + g) _ _ _ _ hg (by omega)
end
theorem uniR_self (t : Tm) : uniR t t = (true, known0) := by obtain ⟨f, hf⟩ := uni_self t; exact uniR_eq hf
theorem occT0 {n : Int} {t : Tm} (h : OccT known0 n t) : occV n t := by
  obtain ⟨m, h1, h2⟩ := h
  have := rch_unbound h2 (by rw [look_known0]; rintro ⟨_, _, h⟩; exact h rfl)
  subst this
  exact h1
/-- a variable with a term in which it does not stand -/
theorem uniR_var {n : Int} {b : Tm} (h : ¬ occV n b) : uniR (varT n) b = (true, known0.set n.toNat b) := by
  refine uniR_eq (f := 2) ?_
  rw [uniF_succ (walk0 0 _) (walk0 0 _)]
  have e1 : (varT n).kind = 1 := rfl
  rw [if_neg, if_pos e1, if_neg (show ¬ OccT known0 (varT n).n b from fun e => h (occT0 e))]
  · rfl
  · rintro ⟨_, h1, h2⟩
    apply h
    have := occ_var h1
    rw [← h2] at this
    exact this
theorem walk_un {K : List Tm} {t : Tm} (h : ∀ m, occV m t → (lookK K m).kind = 0) (f : Nat) : walkF (f + 1) K t = some t := by
  simp only [walkF]
  rw [if_neg]
  rintro ⟨h1, h2⟩
  exact h2 (h _ (occ_var h1))
mutual
theorem res_free {K : List Tm} : ∀ t : Tm, (∀ m, occV m t → (lookK K m).kind = 0) → ∃ f, resF f K t = some t
  | .mk k n s ks, h => by
    obtain ⟨f, hf⟩ := resL_free ks (fun m hm => h m (.inr hm))
    refine ⟨f + 1 + 1, ?_⟩
    rw [resF_succ (walk_un h f), show resL (f + 1) K (Tm.mk k n s ks).kids = some ks from rmonoL (rmono f) (f + 1) K (by omega) _ _ hf]
    rfl
theorem resL_free {K : List Tm} : ∀ ts : List Tm, (∀ m, occL m ts → (lookK K m).kind = 0) → ∃ f, resL f K ts = some ts
  | [], _ => ⟨0, resL_nil _ _⟩
  | t :: ts, h => by
    obtain ⟨f, hf⟩ := res_free t (fun m hm => h m (.inl hm))
    obtain ⟨g, hg⟩ := resL_free ts (fun m hm => h m (.inr hm))
    refine ⟨f + g, ?_⟩
    rw [resL_cons, rmono f (f + g) _ _ _ hf (by omega), rmonoL (rmono g) (f + g) _ (by omega) _ _ hg]
end
theorem set25 (b : Tm) (j : Nat) : lookK (known0.set 25 b) (j : Int) = if j = 25 then b else zeroT := by
  unfold lookK known0
  rw [List.getElem?_set]
  by_cases e : j = 25
  · subst e; simp
  · rw [if_neg (by simpa using fun h => e h.symm), if_neg e, List.getElem?_replicate]
    split <;> rfl
theorem bds_set (b : Tm) : ∀ j, j ≤ 25 → bdsU (known0.set 25 b) j = [] ∧ okU (known0.set 25 b) j = true
  | 0, _ => ⟨rfl, rfl⟩
  | j + 1, h => by
    obtain ⟨h1, h2⟩ := bds_set b j (by omega)
    have hz : (lookK (known0.set 25 b) (j : Int)).kind = 0 := by rw [set25, if_neg (by omega)]; rfl
    constructor
    · rw [bdsU, if_pos hz, h1]
    · rw [okU, h2, hz]; rfl
/-- what all gives then -/
theorem all_set {b : Tm} (hk : b.kind ≠ 0) (h : ¬ occV 25 b) : bdsU (known0.set 25 b) 26 = [⟨25, b⟩] ∧ okU (known0.set 25 b) 26 = fits b 0 1 := by
  obtain ⟨h1, h2⟩ := bds_set b 25 (by omega)
  have hl : lookK (known0.set 25 b) ((25 : Nat) : Int) = b := by rw [set25, if_pos rfl]
  have hr : resT (known0.set 25 b) ((25 : Nat) : Int) = b := by
    obtain ⟨f, hf⟩ := res_free (K := known0.set 25 b) b (fun m hm => by
      by_cases e : m = 25
      · subst e; exact absurd hm h
      · unfold lookK
        by_cases e2 : m.toNat = 25
        · have : m = 25 := by omega
          exact absurd this e
        · rw [List.getElem?_set, if_neg (fun e3 => e2 e3.symm)]
          exact (congrArg Tm.kind (look_known0 m)).trans rfl)
    unfold resT
    have he : ∃ T, ∃ f, resF f (known0.set 25 b) (lookK (known0.set 25 b) ((25 : Nat) : Int)) = some T := ⟨b, f, by rw [hl]; exact hf⟩
    rw [dif_pos he]
    obtain ⟨g, hg⟩ := he.choose_spec
    exact res_det hg (by rw [hl]; exact hf)
  constructor
  · rw [bdsU, hl, if_neg hk, h1, hr]; rfl
  · rw [okU, hl, h2, hr, decide_eq_false hk]; simp
theorem no_occ {b : Tm} (h : validF b = true) (hn : hasI (tvarsF b) 25 = false) : ¬ occV 25 b := by
  intro ho
  have : (25 : Int) ∈ tvarsF b := by unfold tvarsF; rw [if_pos h]; exact (varsF_iff 25 b []).2 (.inr ho)
  unfold hasI at hn
  simp at hn
  exact hn this
/-- UnifyTerms of a term with itself -/
theorem ut_self (t : Tm) : utB t t = validF t ∧ utR t t = [] := by
  have h : utB t t = validF t := by
    unfold utB
    rw [uniR_self]
    simp only [(okU0 26).1, Bool.and_self, Bool.and_true]
  refine ⟨h, ?_⟩
  unfold utR
  split
  · rw [uniR_self]; exact (okU0 26).2
  · rfl
theorem valid_var25 : validF (varT 25) = true := by
  rw [valid_eq]
  simp [varT, shapeF, shapeL, ownF, Tm.sz, Tm.szL]
  try decide
theorem ut_var {b : Tm} (h : validF b = true) (hn : hasI (tvarsF b) 25 = false) : utB (varT 25) b = true ∧ utR (varT 25) b = [⟨25, b⟩] := by
  have ho := no_occ h hn
  obtain ⟨h1, h2⟩ := all_set (shape_kind (valid_shape h)) ho
  have hu : uniR (varT 25) b = (true, known0.set 25 b) := uniR_var ho
  have hb : utB (varT 25) b = true := by
    unfold utB
    rw [hu]
    simp only [valid_var25, h, h2, (fits_valid (shape_loc (valid_shape h))).trans h, Bool.and_self]
  refine ⟨hb, ?_⟩
  unfold utR
  rw [if_pos hb, hu]
  exact h1
abbrev nIs : ByteArray := ⟨#[105, 115]⟩
theorem nIs_l : nIs.toList = [105, 115] := by decide +kernel
theorem is_codes {t : Tm} (h : validF (.mk 3 0 nIs [varT 25, t]) = true) :
    validF t = true ∧ ((arF t).2 ≠ 0 → cbN (.mk 3 0 nIs [varT 25, t]) = (arF t).2 ∧ cbR (.mk 3 0 nIs [varT 25, t]) = []) ∧
      ((arF t).2 = 0 → cbN (.mk 3 0 nIs [varT 25, t]) = 0 ∧ cbR (.mk 3 0 nIs [varT 25, t]) = [⟨25, intT (arF t).1⟩]) := by
  have hv : validF t = true := valid_kid h (by simp [Tm.kids])
  have hg := gb_of h (by rw [nIs_l]; rfl)
  refine ⟨hv, fun hc => ?_, fun hc => ?_⟩
  · refine cb_none hg ?_
    rw [nIs_l]
    simp [callR, kidAt, isR, hc]
  · have hsh := arF_shape (valid_shape hv) (m := (arF t).1) (code := (arF t).2) rfl
    have ho : ¬ occV 25 (intT (arF t).1) := by unfold intT; simp [occV, occL]
    obtain ⟨h1, h2⟩ := all_set (shape_kind hsh) ho
    have hf : fits (intT (arF t).1) 0 1 = true := by simp [fits, intT, Tm.sz, Tm.szL, dep, depL]
    obtain ⟨h3, h4⟩ := cb_of hg (r := (0, known0.set 25 (intT (arF t).1))) (by
      rw [nIs_l]
      have hu : uniR (varT 25) (intT (arF t).1) = (true, known0.set 25 (intT (arF t).1)) := uniR_var ho
      have hi : isR (varT 25) t = (0, known0.set 25 (intT (arF t).1)) := by
        unfold isR
        rw [if_neg (by rw [hc]; simp), hu]
        rfl
      simp [callR, kidAt, hi])
    rw [h3, h4]
    simp [h1, h2, hf]
theorem var_at {S : Nat → Prop} {w : World} (n : Int) : Tm.at S w (varT n) (.agg #[.int .i64 (varT n).kind, .int .i64 (varT n).n, .string (varT n).name, .slice none (varT n).kids.length 0]) :=
  Tm.at_iff.2 ⟨Nat.zero_le _, _, rfl, none, 0, rfl, Nat.le_refl _, by omega, Nat.zero_le _, .inl rfl⟩
theorem int_at {S : Nat → Prop} {w : World} (n : Int) : Tm.at S w (intT n) (.agg #[.int .i64 (intT n).kind, .int .i64 (intT n).n, .string (intT n).name, .slice none (intT n).kids.length 0]) :=
  Tm.at_iff.2 ⟨Nat.zero_le _, _, rfl, none, 0, rfl, Nat.le_refl _, by omega, Nat.zero_le _, .inl rfl⟩
theorem calls_ev {P : Program} {f : FuncId} {args : Array Value} {w : World} {p q : Int × Int} (h : Calls P f args w (ArOut p w)) (e : p = q) : Calls P f args w (ArOut q w) := by
  rw [← e]; exact h
/-- the one binding, read -/
theorem one_at {w : World} {F : Nat → Prop} {x : Bd} {a : Option Addr} {c : Nat} (h : OwnB F [x] (.slice a ([x] : List Bd).length c) w) :
    ∃ b off ak ck, a = some ⟨b, off, none⟩ ∧ w.cell? ⟨b, off, none⟩ = some (.int .i64 x.n) ∧ w.cell? ⟨b, off + 1, none⟩ = some (.int .i64 x.t.kind) ∧ w.cell? ⟨b, off + 2, none⟩ = some (.int .i64 x.t.n) ∧ w.cell? ⟨b, off + 3, none⟩ = some (.string x.t.name) ∧ w.cell? ⟨b, off + 4, none⟩ = some (.slice ak x.t.kids.length ck) ∧ 1 ≤ c ∧ Tm.at (fun _ => True) w x.t (.agg #[.int .i64 x.t.kind, .int .i64 x.t.n, .string x.t.name, .slice ak x.t.kids.length ck]) := by
  obtain ⟨a', c', he, h1, h2, h3, h4⟩ := OwnB.sl h (by simp)
  cases he
  obtain ⟨b, off, ak, ck, e, d0, d1, d2, d3, d4, d5⟩ := Bd.get h4 (k := 0) rfl (Ext.refl w)
  exact ⟨b, off, ak, ck, e, d0, d1, d2, d3, d4, h1, Tm.at_mono (fun _ _ => trivial) (Agree.refl _) d5⟩
theorem calls_bd {P : Program} {f : FuncId} {args : Array Value} {w : World} {r r' : List Bd} {n n' : Bool} (h : Calls P f args w (BdBO r (.bool n) w)) (e : r = r') (e' : n = n') : Calls P f args w (BdBO r' (.bool n') w) := by
  rw [← e, ← e']; exact h
theorem calls_eqw {P : Program} {f : FuncId} {args : Array Value} {w : World} {a b : Bool} (h : Calls P f args w fun e w' => e = .returned (.bool a) ∧ w = w') (e : a = b) : Calls P f args w fun e w' => e = .returned (.bool b) ∧ Ext w w' := by
  rw [← e]; exact h.mono fun e w' ⟨h1, h2⟩ => ⟨h1, h2 ▸ Ext.refl _⟩
end Go.Proofs.Ytdelhgodhkbjdaa
