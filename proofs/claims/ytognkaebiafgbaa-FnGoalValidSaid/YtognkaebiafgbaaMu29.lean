/-
  Reading a clause, plain: what both sides read, and that the text of every valid clause is read back.
-/
import Derived.Test.YtognkaebiafgbaaRows
import Derived.WalkLawsBesides
import Derived.Laws.EntriesVeiled
import Derived.Test.YtognkaebiafgbaaMu18
import Derived.Test.YtognkaebiafgbaaMu23
import Derived.Test.YtognkaebiafgbaaMu28
import Derived.Test.YtognkaebiafgbaaMu9
import Derived.Test.YtognkaebiafgbaaMu16
namespace Go.Proofs.Ytognkaebiafgbaa
open Go.RowKit
set_option linter.unusedVariables false
theorem Par.both {α β γ : Type} {f : Nat → Option α} {h : Nat → Option β} {g : Nat → Option γ} {x : α} {y : β} {z : γ} (hf : Par f x) (hh : Par h y) (e : ∀ F, f F = some x → h F = some y → g F = some z) : Par g z := by
  obtain ⟨F0, hf⟩ := hf
  obtain ⟨F1, hh⟩ := hh
  exact ⟨F0 + F1, fun F hF => e F (hf F (by omega)) (hh F (by omega))⟩
theorem Par.same {α : Type} {f : Nat → Option α} {x y : α} (h1 : Par f x) (h2 : Par f y) : x = y := by
  obtain ⟨F0, h1⟩ := h1
  obtain ⟨F1, h2⟩ := h2
  have a := h1 (F0 + F1) (by omega)
  have b := h2 (F0 + F1) (by omega)
  rw [a] at b
  exact Option.some.inj b
def goalsG (rd : List UInt8 → Option (Tm × List UInt8)) : Nat → List Tm → List UInt8 → Option (List Tm × List UInt8)
  | 0, _, _ => none
  | n + 1, acc, rest =>
    match rd rest with
    | none => none
    | some (t, r) => if hdB (isB 44) (some r) = true then goalsG rd n (acc ++ [t]) r.tail else some (acc ++ [t], r)
def bodyG (rd : List UInt8 → Option (Tm × List UInt8)) (n : Nat) (r : List UInt8) : Option (List Tm × List UInt8) :=
  match r with
  | 58 :: 45 :: q => goalsG rd n [] q
  | r => some ([], r)
def RdG (rdX : Nat → List UInt8 → Option (Tm × List UInt8)) : Prop := ∀ (t : Tm) (c : UInt8) (r : List UInt8), validF t = true → sole t = false → clB c → Par (fun F => rdX F (txt true t ++ c :: r)) (t, c :: r)
theorem sole_plain {t : Tm} (h : plainF t.kind t.name t.kids.length = true) : sole t = false := by
  obtain ⟨k, n, s, ks⟩ := t
  show soleF k s ks.length = false
  have h2 : decide (0 < opLevelF s.toList) = false := by
    cases hd : decide (0 < opLevelF s.toList)
    · rfl
    · have h' : plainF k s ks.length = true := h
      unfold plainF at h'
      rw [hd] at h'
      simp at h'
  simp only [soleF, h2, Bool.and_false]
theorem sole_goal {t : Tm} (h : goalF t = true) : sole t = false := by
  obtain ⟨k, n, s, ks⟩ := t
  simp only [goalF, Bool.and_eq_true, Bool.or_eq_true] at h
  rcases h.2 with (h | h) | h
  · show soleF k s ks.length = false
    simp only [cutF, Bool.and_eq_true, beq_iff_eq] at h
    simp only [soleF, h.1.2]
    rw [show decide (0 < opLevelF [33]) = false by decide, Bool.and_false]
  · exact sole_plain (t := .mk k n s ks) h
  · show soleF k s ks.length = false
    cases hs : soleF k s ks.length
    · rfl
    · simp only [soleF, Bool.and_eq_true, beq_iff_eq, decide_eq_true_eq] at hs
      simp only [builtF, Bool.and_eq_true] at h
      have hb := h.2
      rw [hs.1.2] at hb
      rcases op_cases hs.2 with e | e | e | e | e | e | e | e | e | e | e | e | e | e <;> (rw [e] at hb; exact absurd hb (by decide))
theorem goals_rt {rdX : Nat → List UInt8 → Option (Tm × List UInt8)} (H : RdG rdX) : ∀ (ts : List Tm) (acc : List Tm) (n : Nat), ts ≠ [] → (∀ t ∈ ts, goalF t = true) → ts.length ≤ n →
    Par (fun F => goalsG (rdX F) n acc (joinF (ts.map (txt true)) ++ [46])) (acc ++ ts, [46])
  | [], _, _, h, _, _ => absurd rfl h
  | [t], acc, n, _, hg, hn => by
    obtain ⟨n, rfl⟩ : ∃ m, n = m + 1 := ⟨n - 1, by simp only [List.length_cons, List.length_nil] at hn; omega⟩
    have h1 := H t 46 [] (goal_val (hg t (by simp))) (sole_goal (hg t (by simp))) (by unfold clB; simp)
    refine h1.both h1 fun F e _ => ?_
    show goalsG (rdX F) (n + 1) acc (txt true t ++ [46]) = _
    rw [goalsG, e]
    rfl
  | t :: u :: ts, acc, n, _, hg, hn => by
    obtain ⟨n, rfl⟩ : ∃ m, n = m + 1 := ⟨n - 1, by simp only [List.length_cons] at hn; omega⟩
    have h1 := H t 44 (joinF ((u :: ts).map (txt true)) ++ [46]) (goal_val (hg t (by simp))) (sole_goal (hg t (by simp))) (by unfold clB; simp)
    have h2 := goals_rt H (u :: ts) (acc ++ [t]) n (by simp) (fun x hx => hg x (by simp only [List.mem_cons] at hx ⊢; exact .inr hx)) (by simp only [List.length_cons] at hn ⊢; omega)
    refine h1.both h2 fun F e1 e2 => ?_
    have ej : joinF ((t :: u :: ts).map (txt true)) ++ [46] = txt true t ++ 44 :: (joinF ((u :: ts).map (txt true)) ++ [46]) := by simp [joinF]
    rw [ej, goalsG, e1]
    show goalsG (rdX F) n (acc ++ [t]) (joinF ((u :: ts).map (txt true)) ++ [46]) = _
    rw [e2]
    simp
def clauseG (rd : List UInt8 → Option (Tm × List UInt8)) (n : Nat) (l : List UInt8) : Option (Cl × List UInt8) :=
  match rd l with
  | none => none
  | some (t, r) => match bodyG rd n r with
    | none => none
    | some (ts, q) => some (⟨t, ts⟩, q)
theorem cl_goals {c : Cl} (h : clValidF c = true) : plainF c.head.kind c.head.name c.head.kids.length = true ∧ ∀ t ∈ c.body, goalF t = true := by
  simp only [clValidF, goalsF, Bool.and_eq_true, decide_eq_true_eq, Bool.not_eq_true'] at h
  refine ⟨h.1.2, fun t ht => ?_⟩
  have := List.any_eq_false.1 h.2.2 t ht
  simpa [notGoal] using this
theorem clause_rt {rdX : Nat → List UInt8 → Option (Tm × List UInt8)} (H : RdG rdX) {c : Cl} (h : clValidF c = true) {n : Nat} (hn : 6 ≤ n) : Par (fun F => clauseG (rdX F) n (clTxt c)) (c, [46]) := by
  obtain ⟨h1, h2, h3⟩ := cl_parts h
  obtain ⟨h4, h5⟩ := cl_goals h
  obtain ⟨hd, bd⟩ := c
  cases bd with
  | nil =>
    have e1 := H hd 46 [] h1 (sole_plain h4) (by unfold clB; simp)
    refine e1.both e1 fun F e _ => ?_
    show clauseG (rdX F) n (txt true hd ++ [46]) = _
    unfold clauseG
    rw [e]
    rfl
  | cons b bs' =>
    have e1 := H hd 58 (45 :: (joinF ((b :: bs').map (txt true)) ++ [46])) h1 (sole_plain h4) (by unfold clB; simp)
    have e2 := goals_rt H (b :: bs') [] n (by simp) h5 (by simp only [] at h2; omega)
    refine e1.both e2 fun F e e' => ?_
    have et : clTxt ⟨hd, b :: bs'⟩ = txt true hd ++ 58 :: (45 :: (joinF ((b :: bs').map (txt true)) ++ [46])) := by simp [clTxt]
    rw [et]
    unfold clauseG
    rw [e]
    show (match goalsG (rdX F) n [] (joinF ((b :: bs').map (txt true)) ++ [46]) with | none => none | some (ts, q) => some (Cl.mk hd ts, q)) = _
    rw [e']
    rfl
theorem rdg_spec : RdG (fun F l => rdF F 30 3 l) := fun t c r hv hs hc =>
  (ms_all _ t (Nat.le_refl _)).cl (valid_parts hv).1 (Nat.le_refl _) (.inr (.inl ⟨c, r, rfl, hc⟩)) (fun h => by rw [hs] at h; cases h) (opS_cl hc)
theorem clTxt_inj {c c' : Cl} (h : clValidF c = true) (h' : clValidF c' = true) (e : clTxt c = clTxt c') : c = c' := by
  have h1 := clause_rt rdg_spec h (Nat.le_refl _)
  have h2 := clause_rt rdg_spec h' (Nat.le_refl _)
  rw [e] at h1
  exact congrArg Prod.fst (h1.same h2)
open Classical in
noncomputable def parseClO (l : List UInt8) : Option Cl := if h : ∃ c, clValidF c = true ∧ clTxt c = l then some h.choose else none
theorem parseClO_some {c : Cl} (h : clValidF c = true) : parseClO (clTxt c) = some c := by
  have he : ∃ u, clValidF u = true ∧ clTxt u = clTxt c := ⟨c, h, rfl⟩
  unfold parseClO
  rw [dif_pos he]
  exact congrArg some (clTxt_inj he.choose_spec.1 h he.choose_spec.2)
theorem parseClO_spec {l : List UInt8} {c : Cl} (h : parseClO l = some c) : clValidF c = true ∧ clTxt c = l := by
  unfold parseClO at h
  split at h
  · rename_i he
    rw [← Option.some.inj h]
    exact he.choose_spec
  · cases h
def zCl : Cl := ⟨zTm, []⟩
noncomputable def parseC (s : ByteArray) : Option Cl := if s.size ≤ 1000 then parseClO s.toList else none
theorem spec_fuel (s : ByteArray) : ∃ F, 6 * s.size + 4 ≤ F ∧ ∀ c, parseClO s.toList = some c → clauseG (rdF F 30 3) 7 s.toList = some (c, [46]) := by
  cases e : parseClO s.toList with
  | none => exact ⟨_, Nat.le_refl _, fun t0 h => by cases h⟩
  | some c =>
    obtain ⟨hv, ht⟩ := parseClO_spec e
    obtain ⟨F0, h0⟩ := clause_rt rdg_spec hv (n := 7) (by omega)
    rw [ht] at h0
    exact ⟨F0 + (6 * s.size + 4), by omega, fun t1 h1 => by cases h1; exact h0 _ (by omega)⟩
end Go.Proofs.Ytognkaebiafgbaa

namespace Go.Proofs.Ytognkaebiafgbaa
open Go.RowKit
set_option linter.unusedVariables false
theorem cgetk {ts : List Cl} {k : Nat} (h : k < ts.length) : ∃ t, ts[k]? = some t := ⟨ts[k], by simp [h]⟩
end Go.Proofs.Ytognkaebiafgbaa

namespace Go.Proofs.Ytognkaebiafgbaa
open Go.RowKit
set_option linter.unusedVariables false
def ccells (c : Cl) (a : Option Addr) (cap : Nat) (a' : Option Addr) (cap' : Nat) : List Value := [.int .i64 c.head.kind, .int .i64 c.head.n, .string c.head.name, .slice a c.head.kids.length cap, .slice a' c.body.length cap']
def Cl.flat (S : Nat → Prop) (w : World) : List Cl → List Value → Prop
  | [], xs => xs = []
  | c :: cs, xs => ∃ a cap a' cap' rest, xs = ccells c a cap a' cap' ++ rest ∧ (Tm.at S w c.head (.agg #[.int .i64 c.head.kind, .int .i64 c.head.n, .string c.head.name, .slice a c.head.kids.length cap]) ∧ Tm.sl S w c.body (.slice a' c.body.length cap')) ∧ Cl.flat S w cs rest
theorem cflat_mono {S S' : Nat → Prop} {w w' : World} (hS : ∀ b, S b → S' b) (ha : Agree S w w') : ∀ {ts : List Cl} {xs : List Value}, Cl.flat S w ts xs → Cl.flat S' w' ts xs
  | [], xs, h => h
  | t :: ts, xs, h => by
    obtain ⟨a, cap, a', cap', rest, rfl, h1, h2⟩ := h
    exact ⟨a, cap, a', cap', rest, rfl, ⟨Tm.at_mono hS ha h1.1, Tm.sl_mono hS ha h1.2⟩, cflat_mono hS ha h2⟩
theorem cflat_row {S : Nat → Prop} {w : World} {b : Nat} : ∀ {ts : List Cl} {xs : List Value} {off : Nat}, Cl.flat S w ts xs → (∀ j, j < xs.length → w.cell? ⟨b, off + j, none⟩ = xs[j]?) → Cl.row S w b off ts
  | [], xs, off, h, _ => trivial
  | t :: ts, xs, off, h, hc => by
    obtain ⟨a, cap, a', cap', rest, rfl, h1, h2⟩ := h
    obtain ⟨h3, sv, h4, h5⟩ := Tm.at_iff.1 h1.1
    have hsv : sv = .slice a t.head.kids.length cap := by
      simp only [Value.agg.injEq] at h4
      have := congrArg (fun x : Array Value => x[3]?) h4
      simpa using this.symm
    subst hsv
    refine ⟨⟨Tm.cells_iff.2 ⟨_, ?_, ?_, ?_, ?_, h3, h5⟩, _, ?_, h1.2⟩, ?_⟩
    · have := hc 0 (by simp [ccells]); simpa [ccells] using this
    · have := hc 1 (by simp [ccells]); simpa [ccells] using this
    · have := hc 2 (by simp [ccells]); simpa [ccells] using this
    · have := hc 3 (by simp [ccells]); simpa [ccells] using this
    · have := hc 4 (by simp [ccells]); simpa [ccells] using this
    · refine cflat_row h2 fun j hj => ?_
      have := hc (5 + j) (by simp [ccells]; omega)
      rw [show off + 5 + j = off + (5 + j) by omega, this, show 5 + j = j + 5 by omega]
      simp [ccells]
theorem own_slC {S : Nat → Prop} {w : World} {base e : Nat} {v : Value} {ts : List Cl} {xs : List Value} (ho : w.ownsRow base e 5 v ts.length xs) (hf : Cl.flat S w ts xs) (hl : ts.length ≤ 1048576) : Cl.sl (fun b => S b ∨ v.ownBlock = some b) w ts v := by
  have hcell := fun (g : Nat) (hg : v.ownBlock = some g) => ho.cells (g := g) hg
  obtain ⟨h1, h2⟩ := ho
  rcases h2 with ⟨rfl, h2⟩ | ⟨g, cap, cur, rfl, h3, h4, h5, h6, h7, h8⟩
  · have : ts = [] := List.eq_nil_of_length_eq_zero h2
    subst this
    exact ⟨none, 0, by simp, by simp, by omega, by simp, .inl rfl⟩
  · refine ⟨_, cap, rfl, h5, h6, hl, .inr ⟨g, 0, rfl, .inr rfl, ?_⟩⟩
    refine cflat_row (cflat_mono (fun b h => .inl h) (fun b o v _ h => h) hf) fun j hj => ?_
    have := hcell g rfl j xs[j] (by simp [hj])
    rw [show (⟨g, 0, none⟩ : Addr).add j = ⟨g, 0 + j, none⟩ by unfold Addr.add; split <;> simp_all] at this
    rw [this]; simp [hj]
def Cl.sameL : List Cl → List Cl → Bool
  | [], [] => true
  | t :: ts, u :: us => Cl.same t u && Cl.sameL ts us
  | _, _ => false
def notValid (c : Cl) : Bool := !clValidF c
def prValidF (cs : List Cl) : Bool := decide (cs.length ≤ 20) && !(cs.any notValid)
end Go.Proofs.Ytognkaebiafgbaa
