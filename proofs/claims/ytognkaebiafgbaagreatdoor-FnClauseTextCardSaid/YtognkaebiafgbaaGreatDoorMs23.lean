/-
  Reading a clause, plain: what both sides read, and that the text of every valid clause is read back.
-/
import Derived.Test.YtognkaebiafgbaaGreatDoorRows
import Derived.WalkLawsBesides
import Derived.Laws.EntriesVeiled
import Derived.Test.YtognkaebiafgbaaGreatDoorMs13
import Derived.Test.YtognkaebiafgbaaGreatDoorMs18
import Derived.Test.YtognkaebiafgbaaGreatDoorMs22
import Derived.Test.YtognkaebiafgbaaGreatDoorMs7
import Derived.Test.YtognkaebiafgbaaGreatDoorMs12
namespace Go.Proofs.YtognkaebiafgbaaGreatDoor
open Go.RowKit
set_option linter.unusedVariables false
theorem Par.both {α β γ : Type} {f : Nat → Option α} {h : Nat → Option β} {g : Nat → Option γ} {x : α} {y : β} {z : γ} (hf : Par f x) (hh : Par h y) (e : ∀ F, f F = some x → h F = some y → g F = some z) : Par g z := by
  obtain ⟨F0, hf⟩ := hf
  obtain ⟨F1, hh⟩ := hh
  exact ⟨F0 + F1, fun F hF => e F (hf F (by omega)) (hh F (by omega))⟩
theorem Par.same {α : Type} {f : Nat → Option α} {x y : α} (h1 : Par f x) (h2 : Par f y) : x = y := by
  obtain ⟨F0, h1⟩ := h1
  obtain ⟨F1, h2⟩ := h2
  have a := h1 (F0 + F1) (by omega)
  have b := h2 (F0 + F1) (by omega)
  rw [a] at b
  exact Option.some.inj b
def goalsG (rd : List UInt8 → Option (Tm × List UInt8)) : Nat → List Tm → List UInt8 → Option (List Tm × List UInt8)
  | 0, _, _ => none
  | n + 1, acc, rest =>
    match rd rest with
    | none => none
    | some (t, r) => if hdB (isB 44) (some r) = true then goalsG rd n (acc ++ [t]) r.tail else some (acc ++ [t], r)
def bodyG (rd : List UInt8 → Option (Tm × List UInt8)) (n : Nat) (r : List UInt8) : Option (List Tm × List UInt8) :=
  match r with
  | 58 :: 45 :: q => goalsG rd n [] q
  | r => some ([], r)
def RdG (rdX : Nat → List UInt8 → Option (Tm × List UInt8)) : Prop := ∀ (t : Tm) (c : UInt8) (r : List UInt8), validF t = true → sole t = false → clB c → Par (fun F => rdX F (txt true t ++ c :: r)) (t, c :: r)
theorem sole_plain {t : Tm} (h : plainF t.kind t.name t.kids.length = true) : sole t = false := by
  obtain ⟨k, n, s, ks⟩ := t
  show soleF k s ks.length = false
  have h2 : decide (0 < opLevelF s.toList) = false := by
    cases hd : decide (0 < opLevelF s.toList)
    · rfl
    · have h' : plainF k s ks.length = true := h
      unfold plainF at h'
      rw [hd] at h'
      simp at h'
  simp only [soleF, h2, Bool.and_false]
theorem sole_goal {t : Tm} (h : goalF t = true) : sole t = false := by
  obtain ⟨k, n, s, ks⟩ := t
  simp only [goalF, Bool.and_eq_true, Bool.or_eq_true] at h
  rcases h.2 with (h | h) | h
  · show soleF k s ks.length = false
    simp only [cutF, Bool.and_eq_true, beq_iff_eq] at h
    simp only [soleF, h.1.2]
    rw [show decide (0 < opLevelF [33]) = false by decide, Bool.and_false]
  · exact sole_plain (t := .mk k n s ks) h
  · show soleF k s ks.length = false
    cases hs : soleF k s ks.length
    · rfl
    · simp only [soleF, Bool.and_eq_true, beq_iff_eq, decide_eq_true_eq] at hs
      simp only [builtF, Bool.and_eq_true] at h
      have hb := h.2
      rw [hs.1.2] at hb
      rcases op_cases hs.2 with e | e | e | e | e | e | e | e | e | e | e | e | e | e <;> (rw [e] at hb; exact absurd hb (by decide))
theorem goals_rt {rdX : Nat → List UInt8 → Option (Tm × List UInt8)} (H : RdG rdX) : ∀ (ts : List Tm) (acc : List Tm) (n : Nat), ts ≠ [] → (∀ t ∈ ts, goalF t = true) → ts.length ≤ n →
    Par (fun F => goalsG (rdX F) n acc (joinF (ts.map (txt true)) ++ [46])) (acc ++ ts, [46])
  | [], _, _, h, _, _ => absurd rfl h
  | [t], acc, n, _, hg, hn => by
    obtain ⟨n, rfl⟩ : ∃ m, n = m + 1 := ⟨n - 1, by simp only [List.length_cons, List.length_nil] at hn; omega⟩
    have h1 := H t 46 [] (goal_val (hg t (by simp))) (sole_goal (hg t (by simp))) (by unfold clB; simp)
    refine h1.both h1 fun F e _ => ?_
    show goalsG (rdX F) (n + 1) acc (txt true t ++ [46]) = _
    rw [goalsG, e]
    rfl
  | t :: u :: ts, acc, n, _, hg, hn => by
    obtain ⟨n, rfl⟩ : ∃ m, n = m + 1 := ⟨n - 1, by simp only [List.length_cons] at hn; omega⟩
    have h1 := H t 44 (joinF ((u :: ts).map (txt true)) ++ [46]) (goal_val (hg t (by simp))) (sole_goal (hg t (by simp))) (by unfold clB; simp)
    have h2 := goals_rt H (u :: ts) (acc ++ [t]) n (by simp) (fun x hx => hg x (by simp only [List.mem_cons] at hx ⊢; exact .inr hx)) (by simp only [List.length_cons] at hn ⊢; omega)
    refine h1.both h2 fun F e1 e2 => ?_
    have ej : joinF ((t :: u :: ts).map (txt true)) ++ [46] = txt true t ++ 44 :: (joinF ((u :: ts).map (txt true)) ++ [46]) := by simp [joinF]
    rw [ej, goalsG, e1]
    show goalsG (rdX F) n (acc ++ [t]) (joinF ((u :: ts).map (txt true)) ++ [46]) = _
    rw [e2]
    simp
def clauseG (rd : List UInt8 → Option (Tm × List UInt8)) (n : Nat) (l : List UInt8) : Option (Cl × List UInt8) :=
  match rd l with
  | none => none
  | some (t, r) => match bodyG rd n r with
    | none => none
    | some (ts, q) => some (⟨t, ts⟩, q)
theorem cl_goals {c : Cl} (h : clValidF c = true) : plainF c.head.kind c.head.name c.head.kids.length = true ∧ ∀ t ∈ c.body, goalF t = true := by
  simp only [clValidF, goalsF, Bool.and_eq_true, decide_eq_true_eq, Bool.not_eq_true'] at h
  refine ⟨h.1.2, fun t ht => ?_⟩
  have := List.any_eq_false.1 h.2.2 t ht
  simpa [notGoal] using this
theorem clause_rt {rdX : Nat → List UInt8 → Option (Tm × List UInt8)} (H : RdG rdX) {c : Cl} (h : clValidF c = true) {n : Nat} (hn : 6 ≤ n) : Par (fun F => clauseG (rdX F) n (clTxt c)) (c, [46]) := by
  obtain ⟨h1, h2, h3⟩ := cl_parts h
  obtain ⟨h4, h5⟩ := cl_goals h
  obtain ⟨hd, bd⟩ := c
  cases bd with
  | nil =>
    have e1 := H hd 46 [] h1 (sole_plain h4) (by unfold clB; simp)
    refine e1.both e1 fun F e _ => ?_
    show clauseG (rdX F) n (txt true hd ++ [46]) = _
    unfold clauseG
    rw [e]
    rfl
  | cons b bs' =>
    have e1 := H hd 58 (45 :: (joinF ((b :: bs').map (txt true)) ++ [46])) h1 (sole_plain h4) (by unfold clB; simp)
    have e2 := goals_rt H (b :: bs') [] n (by simp) h5 (by simp only [] at h2; omega)
    refine e1.both e2 fun F e e' => ?_
    have et : clTxt ⟨hd, b :: bs'⟩ = txt true hd ++ 58 :: (45 :: (joinF ((b :: bs').map (txt true)) ++ [46])) := by simp [clTxt]
    rw [et]
    unfold clauseG
    rw [e]
    show (match goalsG (rdX F) n [] (joinF ((b :: bs').map (txt true)) ++ [46]) with | none => none | some (ts, q) => some (Cl.mk hd ts, q)) = _
    rw [e']
    rfl
theorem rdg_spec : RdG (fun F l => rdF F 30 3 l) := fun t c r hv hs hc =>
  (ms_all _ t (Nat.le_refl _)).cl (valid_parts hv).1 (Nat.le_refl _) (.inr (.inl ⟨c, r, rfl, hc⟩)) (fun h => by rw [hs] at h; cases h) (opS_cl hc)
theorem rdg_impl : RdG (fun F l => termF true F 3 1 l) := fun t c r hv hs hc =>
  mt_all _ t (Nat.le_refl _) 30 1 3 (c :: r) (t, c :: r) (valid_parts hv).1 (by omega) (lev_3 t) (.inr (.inl ⟨c, r, rfl, hc⟩)) (fun h => by rw [hs] at h; cases h) (.inl (opP_cl hc)) (Par.now fun F => loop_stop (.inl (opP_cl hc)))
theorem clTxt_inj {c c' : Cl} (h : clValidF c = true) (h' : clValidF c' = true) (e : clTxt c = clTxt c') : c = c' := by
  have h1 := clause_rt rdg_spec h (Nat.le_refl _)
  have h2 := clause_rt rdg_spec h' (Nat.le_refl _)
  rw [e] at h1
  exact congrArg Prod.fst (h1.same h2)
open Classical in
noncomputable def parseClO (l : List UInt8) : Option Cl := if h : ∃ c, clValidF c = true ∧ clTxt c = l then some h.choose else none
theorem parseClO_some {c : Cl} (h : clValidF c = true) : parseClO (clTxt c) = some c := by
  have he : ∃ u, clValidF u = true ∧ clTxt u = clTxt c := ⟨c, h, rfl⟩
  unfold parseClO
  rw [dif_pos he]
  exact congrArg some (clTxt_inj he.choose_spec.1 h he.choose_spec.2)
theorem parseClO_spec {l : List UInt8} {c : Cl} (h : parseClO l = some c) : clValidF c = true ∧ clTxt c = l := by
  unfold parseClO at h
  split at h
  · rename_i he
    rw [← Option.some.inj h]
    exact he.choose_spec
  · cases h
def zCl : Cl := ⟨zTm, []⟩
noncomputable def parseC (s : ByteArray) : Option Cl := if s.size ≤ 1000 then parseClO s.toList else none
theorem spec_fuel (s : ByteArray) : ∃ F, 6 * s.size + 4 ≤ F ∧ ∀ c, parseClO s.toList = some c → clauseG (rdF F 30 3) 7 s.toList = some (c, [46]) := by
  cases e : parseClO s.toList with
  | none => exact ⟨_, Nat.le_refl _, fun t0 h => by cases h⟩
  | some c =>
    obtain ⟨hv, ht⟩ := parseClO_spec e
    obtain ⟨F0, h0⟩ := clause_rt rdg_spec hv (n := 7) (by omega)
    rw [ht] at h0
    exact ⟨F0 + (6 * s.size + 4), by omega, fun t1 h1 => by cases h1; exact h0 _ (by omega)⟩
theorem impl_fuel (s : ByteArray) (n : Nat) (hn : 6 ≤ n) : ∃ F, 4 * s.size + 2 ≤ F ∧ ∀ c, parseClO s.toList = some c → clauseG (termF true F 3 1) n s.toList = some (c, [46]) := by
  cases e : parseClO s.toList with
  | none => exact ⟨_, Nat.le_refl _, fun t0 h => by cases h⟩
  | some c =>
    obtain ⟨hv, ht⟩ := parseClO_spec e
    obtain ⟨F0, h0⟩ := clause_rt rdg_impl hv hn
    rw [ht] at h0
    exact ⟨F0 + (4 * s.size + 2), by omega, fun t1 h1 => by cases h1; exact h0 _ (by omega)⟩
end Go.Proofs.YtognkaebiafgbaaGreatDoor

namespace Go.Proofs.YtognkaebiafgbaaGreatDoor
open Go.RowKit
set_option linter.unusedVariables false
theorem cgetk {ts : List Cl} {k : Nat} (h : k < ts.length) : ∃ t, ts[k]? = some t := ⟨ts[k], by simp [h]⟩
end Go.Proofs.YtognkaebiafgbaaGreatDoor

namespace Go.Proofs.YtognkaebiafgbaaGreatDoor
open Go.RowKit
set_option linter.unusedVariables false
def ccells (c : Cl) (a : Option Addr) (cap : Nat) (a' : Option Addr) (cap' : Nat) : List Value := [.int .i64 c.head.kind, .int .i64 c.head.n, .string c.head.name, .slice a c.head.kids.length cap, .slice a' c.body.length cap']
def Cl.flat (S : Nat → Prop) (w : World) : List Cl → List Value → Prop
  | [], xs => xs = []
  | c :: cs, xs => ∃ a cap a' cap' rest, xs = ccells c a cap a' cap' ++ rest ∧ (Tm.at S w c.head (.agg #[.int .i64 c.head.kind, .int .i64 c.head.n, .string c.head.name, .slice a c.head.kids.length cap]) ∧ Tm.sl S w c.body (.slice a' c.body.length cap')) ∧ Cl.flat S w cs rest
theorem cflat_mono {S S' : Nat → Prop} {w w' : World} (hS : ∀ b, S b → S' b) (ha : Agree S w w') : ∀ {ts : List Cl} {xs : List Value}, Cl.flat S w ts xs → Cl.flat S' w' ts xs
  | [], xs, h => h
  | t :: ts, xs, h => by
    obtain ⟨a, cap, a', cap', rest, rfl, h1, h2⟩ := h
    exact ⟨a, cap, a', cap', rest, rfl, ⟨Tm.at_mono hS ha h1.1, Tm.sl_mono hS ha h1.2⟩, cflat_mono hS ha h2⟩
theorem cflat_row {S : Nat → Prop} {w : World} {b : Nat} : ∀ {ts : List Cl} {xs : List Value} {off : Nat}, Cl.flat S w ts xs → (∀ j, j < xs.length → w.cell? ⟨b, off + j, none⟩ = xs[j]?) → Cl.row S w b off ts
  | [], xs, off, h, _ => trivial
  | t :: ts, xs, off, h, hc => by
    obtain ⟨a, cap, a', cap', rest, rfl, h1, h2⟩ := h
    obtain ⟨h3, sv, h4, h5⟩ := Tm.at_iff.1 h1.1
    have hsv : sv = .slice a t.head.kids.length cap := by
      simp only [Value.agg.injEq] at h4
      have := congrArg (fun x : Array Value => x[3]?) h4
      simpa using this.symm
    subst hsv
    refine ⟨⟨Tm.cells_iff.2 ⟨_, ?_, ?_, ?_, ?_, h3, h5⟩, _, ?_, h1.2⟩, ?_⟩
    · have := hc 0 (by simp [ccells]); simpa [ccells] using this
    · have := hc 1 (by simp [ccells]); simpa [ccells] using this
    · have := hc 2 (by simp [ccells]); simpa [ccells] using this
    · have := hc 3 (by simp [ccells]); simpa [ccells] using this
    · have := hc 4 (by simp [ccells]); simpa [ccells] using this
    · refine cflat_row h2 fun j hj => ?_
      have := hc (5 + j) (by simp [ccells]; omega)
      rw [show off + 5 + j = off + (5 + j) by omega, this, show 5 + j = j + 5 by omega]
      simp [ccells]
theorem own_slC {S : Nat → Prop} {w : World} {base e : Nat} {v : Value} {ts : List Cl} {xs : List Value} (ho : w.ownsRow base e 5 v ts.length xs) (hf : Cl.flat S w ts xs) (hl : ts.length ≤ 1048576) : Cl.sl (fun b => S b ∨ v.ownBlock = some b) w ts v := by
  have hcell := fun (g : Nat) (hg : v.ownBlock = some g) => ho.cells (g := g) hg
  obtain ⟨h1, h2⟩ := ho
  rcases h2 with ⟨rfl, h2⟩ | ⟨g, cap, cur, rfl, h3, h4, h5, h6, h7, h8⟩
  · have : ts = [] := List.eq_nil_of_length_eq_zero h2
    subst this
    exact ⟨none, 0, by simp, by simp, by omega, by simp, .inl rfl⟩
  · refine ⟨_, cap, rfl, h5, h6, hl, .inr ⟨g, 0, rfl, .inr rfl, ?_⟩⟩
    refine cflat_row (cflat_mono (fun b h => .inl h) (fun b o v _ h => h) hf) fun j hj => ?_
    have := hcell g rfl j xs[j] (by simp [hj])
    rw [show (⟨g, 0, none⟩ : Addr).add j = ⟨g, 0 + j, none⟩ by unfold Addr.add; split <;> simp_all] at this
    rw [this]; simp [hj]
def Cl.sameL : List Cl → List Cl → Bool
  | [], [] => true
  | t :: ts, u :: us => Cl.same t u && Cl.sameL ts us
  | _, _ => false
def notValid (c : Cl) : Bool := !clValidF c
def prValidF (cs : List Cl) : Bool := decide (cs.length ≤ 20) && !(cs.any notValid)
end Go.Proofs.YtognkaebiafgbaaGreatDoor

namespace Go.Proofs.YtognkaebiafgbaaGreatDoor
open Go.RowKit
set_option linter.unusedVariables false
def NL (l : List UInt8) : Prop := (10 : UInt8) ∉ l
theorem nl_nil : NL [] := by simp [NL]
theorem nl_app {a b : List UInt8} : NL (a ++ b) ↔ NL a ∧ NL b := by simp [NL, not_or]
theorem nl_cons {x : UInt8} {a : List UInt8} : NL (x :: a) ↔ x ≠ 10 ∧ NL a := by
  unfold NL
  rw [List.mem_cons, not_or]
  constructor
  · exact fun h => ⟨fun e => h.1 e.symm, h.2⟩
  · exact fun h => ⟨fun e => h.1 e.symm, h.2⟩
theorem nl_name {s : ByteArray} (h : nameF s = true) : NL s.toList := by
  simp only [nameF, Bool.or_eq_true] at h
  rcases h with h | h
  · simp only [wordF, Bool.and_eq_true] at h
    intro hm
    have := List.all_eq_true.1 h.1 10 hm
    exact absurd this (by decide)
  · simp only [hasF, List.any_eq_true, beq_iff_eq] at h
    obtain ⟨x, hx, e⟩ := h
    rw [← e]
    clear e
    simp only [signs, List.mem_cons, List.not_mem_nil, or_false] at hx
    rcases hx with rfl | rfl | rfl | rfl | rfl | rfl | rfl | rfl | rfl | rfl | rfl | rfl | rfl | rfl | rfl <;> simp [ByteArray.toList_eq, NL]
theorem nl_dec (u : Nat) : NL (Lib.decDigits u) := fun h => absurd (dec_digits u u (Nat.le_refl _) 10 h) (by decide)
theorem nl_itoa (n : Int) : NL (Lib.itoa n) := by
  unfold Lib.itoa
  split
  · exact nl_cons.2 ⟨by decide, nl_dec _⟩
  · exact nl_dec _
theorem nl_opn {x : Tx} {m : Int} {r : Bool} (h : NL x.txt) : NL (opn x m r) := by
  unfold opn
  split
  · exact nl_cons.2 ⟨by decide, nl_app.2 ⟨h, nl_cons.2 ⟨by decide, nl_nil⟩⟩⟩
  · exact h
theorem nl_spaced {s : List UInt8} (h : NL s) : NL (spaced s) := by
  unfold spaced
  split
  · exact nl_cons.2 ⟨by decide, nl_app.2 ⟨h, nl_cons.2 ⟨by decide, nl_nil⟩⟩⟩
  · exact h
theorem nl_join : ∀ xs : List (List UInt8), (∀ (j : Nat) (x : List UInt8), xs[j]? = some x → NL x) → NL (joinF xs)
  | [], _ => nl_nil
  | [x], h => h 0 x rfl
  | x :: y :: xs, h => by
    have h2 := nl_join (y :: xs) (fun j z hz => h (j + 1) z (by simpa using hz))
    exact nl_app.2 ⟨h 0 x rfl, nl_cons.2 ⟨by decide, h2⟩⟩
theorem nl_let {n : Int} (h0 : 0 ≤ n) (h1 : n ≤ 25) : letB n ≠ 10 := by
  unfold letB
  intro e
  have := congrArg UInt8.toNat e
  rw [UInt8.toNat_ofNat'] at this
  have e10 : (10 : UInt8).toNat = 10 := rfl
  omega
theorem shape_var' {n : Int} {s : ByteArray} {ks : List Tm} {d : Nat} (h : shapeF (.mk 1 n s ks) d = true) : 0 ≤ n ∧ n ≤ 25 := by
  simp only [shapeF, Bool.and_eq_true] at h
  have h2 := h.1.2
  unfold ownF at h2
  simp at h2
  exact ⟨h2.1.1.1, h2.1.1.2⟩
mutual
theorem tx_nl (o : Bool) : ∀ (t : Tm) (d : Nat), shapeF t d = true → NL (txt o t) ∧ NL (rst o t)
  | .mk k n s ks, d, h => by
    have hl := tx_nls o ks (d - 1) (by simp only [shapeF, Bool.and_eq_true] at h; exact h.2)
    have key : NL (ownTx o k n s (txL o ks)) := by
      rcases shape_own h with ⟨rfl, _, rfl⟩ | ⟨rfl, _, rfl⟩ | ⟨rfl, rfl⟩
      · have := shape_var' h
        simp only [ownTx, if_true]
        exact nl_cons.2 ⟨nl_let this.1 this.2, nl_nil⟩
      · simp only [ownTx, if_neg (show ¬ (2 : Int) = 1 by decide), if_true]
        exact nl_itoa n
      · obtain ⟨hn, _⟩ := shape_name h
        have hn := nl_name hn
        simp only [ownTx, if_neg (show ¬ (3 : Int) = 1 by decide), if_neg (show ¬ (3 : Int) = 2 by decide), txL_len]
        split
        · rename_i hi
          obtain ⟨a, b, rfl⟩ := len_two (inf_two (by simp only [Bool.and_eq_true] at hi; exact hi.2)).2.1
          have h4 := hl 0 a rfl
          have h5 := hl 1 b rfl
          exact nl_app.2 ⟨nl_opn (by simpa [txL, txt] using h4.1), nl_app.2 ⟨nl_spaced hn, nl_opn (by simpa [txL, txt] using h5.1)⟩⟩
        · split
          · rename_i _ hp
            obtain ⟨a, b, rfl⟩ := len_two (pair_two hp).2.1
            have h4 := hl 0 a rfl
            have h5 := hl 1 b rfl
            refine nl_cons.2 ⟨by decide, nl_app.2 ⟨by simpa [txL, txt] using h4.1, nl_app.2 ⟨by simpa [txL, rst] using h5.2, nl_cons.2 ⟨by decide, nl_nil⟩⟩⟩⟩
          · split
            · exact hn
            · rw [txL_map]
              refine nl_app.2 ⟨hn, nl_cons.2 ⟨by decide, nl_app.2 ⟨nl_join _ (fun j x hx => ?_), nl_cons.2 ⟨by decide, nl_nil⟩⟩⟩⟩
              rw [List.getElem?_map] at hx
              cases hk : ks[j]? with
              | none => rw [hk] at hx; cases hx
              | some t =>
                rw [hk] at hx
                simp only [Option.map_some, Option.some.injEq] at hx
                rw [← hx]
                exact (hl j t hk).1
    refine ⟨by simpa [txt, txF] using key, ?_⟩
    simp only [rst, txF, restTx]
    split
    · rename_i hp
      rw [txL_len] at hp
      obtain ⟨a, b, rfl⟩ := len_two (pair_two hp).2.1
      have h4 := hl 0 a rfl
      have h5 := hl 1 b rfl
      exact nl_cons.2 ⟨by decide, nl_app.2 ⟨by simpa [txL, txt] using h4.1, by simpa [txL, rst] using h5.2⟩⟩
    · split
      · exact nl_nil
      · exact nl_cons.2 ⟨by decide, key⟩
theorem tx_nls (o : Bool) : ∀ (ts : List Tm) (d : Nat), shapeL ts d = true → ∀ (j : Nat) (t : Tm), ts[j]? = some t → NL (txt o t) ∧ NL (rst o t)
  | [], d, h, j, t, ht => by simp at ht
  | t :: ts, d, h, j, u, hu => by
    simp only [shapeL, Bool.and_eq_true] at h
    rcases j with _ | j
    · simp at hu; subst hu; exact tx_nl o t d h.1
    · exact tx_nls o ts d h.2 j u (by simpa using hu)
end
theorem nl_val {t : Tm} (h : validF t = true) : NL (txt true t) := (tx_nl true t 30 (valid_parts h).1).1
theorem nl_cl {c : Cl} (h : clValidF c = true) : NL (clTxt c) := by
  obtain ⟨h1, h2, h3⟩ := cl_parts h
  unfold clTxt
  refine nl_app.2 ⟨nl_val h1, ?_⟩
  split
  · exact nl_cons.2 ⟨by decide, nl_nil⟩
  · refine nl_cons.2 ⟨by decide, nl_cons.2 ⟨by decide, nl_app.2 ⟨nl_join _ (fun j x hx => ?_), nl_cons.2 ⟨by decide, nl_nil⟩⟩⟩⟩
    rw [List.getElem?_map] at hx
    cases hk : c.body[j]? with
    | none => rw [hk] at hx; cases hx
    | some t =>
      rw [hk] at hx
      simp only [Option.map_some, Option.some.injEq] at hx
      rw [← hx]
      exact nl_val (h3 j t hk)
def cutL : List UInt8 → List (List UInt8)
  | [] => [[]]
  | b :: l => if b = 10 then [] :: cutL l else (b :: (cutL l).headD []) :: (cutL l).tail
theorem cutL_ne : ∀ l, cutL l ≠ []
  | [] => by simp [cutL]
  | b :: l => by unfold cutL; split <;> simp
theorem cutL_len (l : List UInt8) : 1 ≤ (cutL l).length := List.length_pos_iff.2 (cutL_ne l)
theorem cutL_le : ∀ l, (cutL l).length ≤ l.length + 1
  | [] => by simp [cutL]
  | b :: l => by
    have := cutL_le l
    have := cutL_len l
    unfold cutL
    split
    · simp only [List.length_cons]; omega
    · simp only [List.length_cons, List.length_tail]; omega
theorem cutL_nl : ∀ (x l : List UInt8), NL x → cutL (x ++ 10 :: l) = x :: cutL l
  | [], l, _ => by simp [cutL]
  | b :: x, l, h => by
    have h' := nl_cons.1 h
    rw [List.cons_append, cutL, if_neg h'.1, cutL_nl x l h'.2]
    rfl
theorem cutL_ends : ∀ xs : List (List UInt8), (∀ x ∈ xs, NL x) → cutL ((xs.map (· ++ [10])).flatten) = xs ++ [[]]
  | [], _ => rfl
  | x :: xs, h => by
    have ih := cutL_ends xs (fun y hy => h y (by simp [hy]))
    rw [List.map_cons, List.flatten_cons, List.append_assoc, List.singleton_append, cutL_nl _ _ (h x (by simp)), ih]
    rfl
def mapO {α β : Type} (f : α → Option β) : List α → Option (List β)
  | [] => some []
  | x :: xs => match f x with
    | none => none
    | some y => match mapO f xs with
      | none => none
      | some ys => some (y :: ys)
theorem mapO_snoc {α β : Type} {f : α → Option β} : ∀ {ls : List α} {cs : List β} {x : α} {c : β}, mapO f ls = some cs → f x = some c → mapO f (ls ++ [x]) = some (cs ++ [c])
  | [], cs, x, c, h, hx => by
    simp only [mapO, Option.some.injEq] at h
    subst h
    simp [mapO, hx]
  | y :: ls, cs, x, c, h, hx => by
    rw [mapO] at h
    cases e : f y with
    | none => rw [e] at h; cases h
    | some d =>
      rw [e] at h
      cases e2 : mapO f ls with
      | none => rw [e2] at h; cases h
      | some ds =>
        rw [e2] at h
        simp only [Option.some.injEq] at h
        subst h
        rw [List.cons_append, mapO, e, mapO_snoc e2 hx]
        rfl
theorem mapO_none {α β : Type} {f : α → Option β} : ∀ {ls : List α} {j : Nat} {x : α}, ls[j]? = some x → f x = none → mapO f ls = none
  | [], j, x, h, _ => by simp at h
  | y :: ls, 0, x, h, hx => by simp at h; subst h; simp [mapO, hx]
  | y :: ls, j + 1, x, h, hx => by
    have := mapO_none (ls := ls) (j := j) (x := x) (by simpa using h) hx
    rw [mapO, this]
    cases f y <;> rfl
theorem mapO_all {α β : Type} {f : α → Option β} {g : β → α} : ∀ {cs : List β}, (∀ c ∈ cs, f (g c) = some c) → mapO f (cs.map g) = some cs
  | [], _ => rfl
  | c :: cs, h => by
    rw [List.map_cons, mapO, h c (by simp), mapO_all (fun d hd => h d (by simp [hd]))]
noncomputable def parsePr (l : List UInt8) : Option (List Cl) := if (cutL l).length ≤ 21 ∧ (cutL l).getLast? = some [] then mapO (fun x => parseC (bs x)) (cutL l).dropLast else none
theorem parseC_val {c : Cl} (h : clValidF c = true) (hl : (clTxt c).length ≤ 1000) : parseC (bs (clTxt c)) = some c := by
  unfold parseC
  rw [if_pos (by rw [bs_size]; exact hl), bs_list]
  exact parseClO_some h
theorem pr_mem {cs : List Cl} (h : prValidF cs = true) : cs.length ≤ 20 ∧ ∀ c ∈ cs, clValidF c = true := by
  simp only [prValidF, Bool.and_eq_true, decide_eq_true_eq, Bool.not_eq_true'] at h
  refine ⟨h.1, fun c hc => ?_⟩
  have := List.any_eq_false.1 h.2 c hc
  simpa [notValid] using this
theorem parsePr_val {cs : List Cl} (h : prValidF cs = true) (hl : ∀ c ∈ cs, (clTxt c).length ≤ 1000) : parsePr (prTxt cs) = some cs := by
  obtain ⟨h1, h2⟩ := pr_mem h
  have hcut : cutL (prTxt cs) = cs.map clTxt ++ [[]] := by
    rw [← cutL_ends (cs.map clTxt) (fun x hx => by
      obtain ⟨c, hc, rfl⟩ := List.mem_map.1 hx
      exact nl_cl (h2 c hc))]
    unfold prTxt
    rw [List.map_map]
    rfl
  unfold parsePr
  rw [hcut, if_pos ⟨by simp; omega, by simp⟩, List.dropLast_concat]
  exact mapO_all (fun c hc => parseC_val (h2 c hc) (hl c hc))
noncomputable def parsePT (s : ByteArray) : List Cl := (parsePr s.toList).getD []
noncomputable def parsePB (s : ByteArray) : Bool := (parsePr s.toList).isSome
end Go.Proofs.YtognkaebiafgbaaGreatDoor

namespace Go.Proofs.YtognkaebiafgbaaGreatDoor
open Go.RowKit
set_option linter.unusedVariables false
def tV (n : Int) : Tm := .mk 1 n ⟨#[]⟩ []
def tI (n : Int) : Tm := .mk 2 n ⟨#[]⟩ []
def tS (s : List UInt8) (ks : List Tm) : Tm := .mk 3 0 ⟨s.toArray⟩ ks
def pr0 : List Cl := [⟨(tS [97, 112, 112] [(tS [91, 93] []), (tV 0), (tV 0)]), []⟩, ⟨(tS [97, 112, 112] [(tS [46] [(tV 0), (tV 1)]), (tV 2), (tS [46] [(tV 0), (tV 3)])]), [(tS [97, 112, 112] [(tV 1), (tV 2), (tV 3)])]⟩]
def px0 : List UInt8 := [97, 112, 112, 40, 91, 93, 44, 65, 44, 65, 41, 46, 10, 97, 112, 112, 40, 91, 65, 124, 66, 93, 44, 67, 44, 91, 65, 124, 68, 93, 41, 58, 45, 97, 112, 112, 40, 66, 44, 67, 44, 68, 41, 46, 10]
def pr1 : List Cl := [⟨(tS [109, 101, 109] [(tV 0), (tS [46] [(tV 0), (tV 1)])]), []⟩, ⟨(tS [109, 101, 109] [(tV 0), (tS [46] [(tV 1), (tV 2)])]), [(tS [109, 101, 109] [(tV 0), (tV 2)])]⟩]
def px1 : List UInt8 := [109, 101, 109, 40, 65, 44, 91, 65, 124, 66, 93, 41, 46, 10, 109, 101, 109, 40, 65, 44, 91, 66, 124, 67, 93, 41, 58, 45, 109, 101, 109, 40, 65, 44, 67, 41, 46, 10]
def pr2 : List Cl := [⟨(tS [112] [(tI 1)]), []⟩, ⟨(tS [112] [(tI 2)]), []⟩, ⟨(tS [112] [(tI 3)]), []⟩, ⟨(tS [113] [(tV 0)]), [(tS [112] [(tV 0)]), (tS [62] [(tV 0), (tI 1)]), (tS [33] [])]⟩, ⟨(tS [114] [(tV 0), (tV 1)]), [(tS [112] [(tV 0)]), (tS [112] [(tV 1)])]⟩]
def px2 : List UInt8 := [112, 40, 49, 41, 46, 10, 112, 40, 50, 41, 46, 10, 112, 40, 51, 41, 46, 10, 113, 40, 65, 41, 58, 45, 112, 40, 65, 41, 44, 65, 62, 49, 44, 33, 46, 10, 114, 40, 65, 44, 66, 41, 58, 45, 112, 40, 65, 41, 44, 112, 40, 66, 41, 46, 10]
def pr3 : List Cl := [⟨(tS [108, 101, 110] [(tS [91, 93] []), (tI 0)]), []⟩, ⟨(tS [108, 101, 110] [(tS [46] [(tV 0), (tV 1)]), (tV 2)]), [(tS [108, 101, 110] [(tV 1), (tV 3)]), (tS [105, 115] [(tV 2), (tS [43] [(tV 3), (tI 1)])])]⟩]
def px3 : List UInt8 := [108, 101, 110, 40, 91, 93, 44, 48, 41, 46, 10, 108, 101, 110, 40, 91, 65, 124, 66, 93, 44, 67, 41, 58, 45, 108, 101, 110, 40, 66, 44, 68, 41, 44, 67, 32, 105, 115, 32, 68, 43, 49, 46, 10]
def pr4 : List Cl := [⟨(tS [109, 97, 120] [(tV 0), (tV 1), (tV 0)]), [(tS [62, 61] [(tV 0), (tV 1)]), (tS [33] [])]⟩, ⟨(tS [109, 97, 120] [(tV 0), (tV 1), (tV 1)]), []⟩]
def px4 : List UInt8 := [109, 97, 120, 40, 65, 44, 66, 44, 65, 41, 58, 45, 65, 62, 61, 66, 44, 33, 46, 10, 109, 97, 120, 40, 65, 44, 66, 44, 66, 41, 46, 10]
def pr5 : List Cl := [⟨(tS [101] [(tS [97] []), (tS [98] [])]), []⟩, ⟨(tS [101] [(tS [98] []), (tS [99] [])]), []⟩, ⟨(tS [101] [(tS [99] []), (tS [100] [])]), []⟩, ⟨(tS [116] [(tV 0), (tV 1)]), [(tS [101] [(tV 0), (tV 1)])]⟩, ⟨(tS [116] [(tV 0), (tV 1)]), [(tS [101] [(tV 0), (tV 2)]), (tS [116] [(tV 2), (tV 1)])]⟩]
def px5 : List UInt8 := [101, 40, 97, 44, 98, 41, 46, 10, 101, 40, 98, 44, 99, 41, 46, 10, 101, 40, 99, 44, 100, 41, 46, 10, 116, 40, 65, 44, 66, 41, 58, 45, 101, 40, 65, 44, 66, 41, 46, 10, 116, 40, 65, 44, 66, 41, 58, 45, 101, 40, 65, 44, 67, 41, 44, 116, 40, 67, 44, 66, 41, 46, 10]
def pr6 : List Cl := [⟨(tS [108, 111, 111, 112] []), [(tS [108, 111, 111, 112] [])]⟩, ⟨(tS [111, 107] []), []⟩]
def px6 : List UInt8 := [108, 111, 111, 112, 58, 45, 108, 111, 111, 112, 46, 10, 111, 107, 46, 10]
def pr7 : List Cl := [⟨(tS [102, 97, 99] [(tI 0), (tI 1)]), [(tS [33] [])]⟩, ⟨(tS [102, 97, 99] [(tV 0), (tV 1)]), [(tS [62] [(tV 0), (tI 0)]), (tS [105, 115] [(tV 2), (tS [45] [(tV 0), (tI 1)])]), (tS [102, 97, 99] [(tV 2), (tV 3)]), (tS [105, 115] [(tV 1), (tS [42] [(tV 0), (tV 3)])])]⟩]
def px7 : List UInt8 := [102, 97, 99, 40, 48, 44, 49, 41, 58, 45, 33, 46, 10, 102, 97, 99, 40, 65, 44, 66, 41, 58, 45, 65, 62, 48, 44, 67, 32, 105, 115, 32, 65, 45, 49, 44, 102, 97, 99, 40, 67, 44, 68, 41, 44, 66, 32, 105, 115, 32, 65, 42, 68, 46, 10]
def pr8 : List Cl := [⟨(tS [115] [(tV 0)]), [(tS [61] [(tV 0), (tS [102] [(tV 1)])]), (tS [97, 114, 103] [(tI 1), (tV 0), (tV 1)]), (tS [61] [(tV 1), (tI 1)])]⟩, ⟨(tS [115] [(tV 0)]), [(tS [118, 97, 114] [(tV 0)]), (tS [61] [(tV 0), (tS [110, 111, 110, 101] [])])]⟩]
def px8 : List UInt8 := [115, 40, 65, 41, 58, 45, 65, 61, 102, 40, 66, 41, 44, 97, 114, 103, 40, 49, 44, 65, 44, 66, 41, 44, 66, 61, 49, 46, 10, 115, 40, 65, 41, 58, 45, 118, 97, 114, 40, 65, 41, 44, 65, 61, 110, 111, 110, 101, 46, 10]
def pr9 : List Cl := [⟨(tS [114, 101, 118] [(tS [91, 93] []), (tV 0), (tV 0)]), []⟩, ⟨(tS [114, 101, 118] [(tS [46] [(tV 0), (tV 1)]), (tV 2), (tV 3)]), [(tS [114, 101, 118] [(tV 1), (tS [46] [(tV 0), (tV 2)]), (tV 3)])]⟩]
def px9 : List UInt8 := [114, 101, 118, 40, 91, 93, 44, 65, 44, 65, 41, 46, 10, 114, 101, 118, 40, 91, 65, 124, 66, 93, 44, 67, 44, 68, 41, 58, 45, 114, 101, 118, 40, 66, 44, 91, 65, 124, 67, 93, 44, 68, 41, 46, 10]
def pr10 : List Cl := [⟨(tS [98, 97, 100] [(tV 0)]), [(tS [105, 115] [(tV 1), (tS [43] [(tV 0), (tS [102, 111, 111] [])])]), (tS [61] [(tV 2), (tV 1)])]⟩, ⟨(tS [98, 105, 103] [(tV 0)]), [(tS [105, 115] [(tV 0), (tS [43] [(tI 999), (tI 1)])])]⟩, ⟨(tS [117, 110] [(tV 0)]), [(tS [110, 111, 115, 117, 99, 104] [(tV 0)])]⟩]
def px10 : List UInt8 := [98, 97, 100, 40, 65, 41, 58, 45, 66, 32, 105, 115, 32, 65, 43, 102, 111, 111, 44, 67, 61, 66, 46, 10, 98, 105, 103, 40, 65, 41, 58, 45, 65, 32, 105, 115, 32, 57, 57, 57, 43, 49, 46, 10, 117, 110, 40, 65, 41, 58, 45, 110, 111, 115, 117, 99, 104, 40, 65, 41, 46, 10]
set_option maxRecDepth 100000 in
theorem pt0 : prTxt pr0 = px0 := by decide +kernel
set_option maxRecDepth 100000 in
theorem pv0 : prValidF pr0 = true := by decide +kernel
set_option maxRecDepth 100000 in
theorem pt1 : prTxt pr1 = px1 := by decide +kernel
set_option maxRecDepth 100000 in
theorem pv1 : prValidF pr1 = true := by decide +kernel
set_option maxRecDepth 100000 in
theorem pt2 : prTxt pr2 = px2 := by decide +kernel
set_option maxRecDepth 100000 in
theorem pv2 : prValidF pr2 = true := by decide +kernel
set_option maxRecDepth 100000 in
theorem pt3 : prTxt pr3 = px3 := by decide +kernel
set_option maxRecDepth 100000 in
theorem pv3 : prValidF pr3 = true := by decide +kernel
set_option maxRecDepth 100000 in
theorem pt4 : prTxt pr4 = px4 := by decide +kernel
set_option maxRecDepth 100000 in
theorem pv4 : prValidF pr4 = true := by decide +kernel
set_option maxRecDepth 100000 in
theorem pt5 : prTxt pr5 = px5 := by decide +kernel
set_option maxRecDepth 100000 in
theorem pv5 : prValidF pr5 = true := by decide +kernel
set_option maxRecDepth 100000 in
theorem pt6 : prTxt pr6 = px6 := by decide +kernel
set_option maxRecDepth 100000 in
theorem pv6 : prValidF pr6 = true := by decide +kernel
set_option maxRecDepth 100000 in
theorem pt7 : prTxt pr7 = px7 := by decide +kernel
set_option maxRecDepth 100000 in
theorem pv7 : prValidF pr7 = true := by decide +kernel
set_option maxRecDepth 100000 in
theorem pt8 : prTxt pr8 = px8 := by decide +kernel
set_option maxRecDepth 100000 in
theorem pv8 : prValidF pr8 = true := by decide +kernel
set_option maxRecDepth 100000 in
theorem pt9 : prTxt pr9 = px9 := by decide +kernel
set_option maxRecDepth 100000 in
theorem pv9 : prValidF pr9 = true := by decide +kernel
set_option maxRecDepth 100000 in
theorem pt10 : prTxt pr10 = px10 := by decide +kernel
set_option maxRecDepth 100000 in
theorem pv10 : prValidF pr10 = true := by decide +kernel
def drawnPr : List (List Cl) := [pr0, pr1, pr2, pr3, pr4, pr5, pr6, pr7, pr8, pr9, pr10]
def drawnTx : List ByteArray := [⟨#[97, 112, 112, 40, 91, 93, 44, 65, 44, 65, 41, 46, 10, 97, 112, 112, 40, 91, 65, 124, 66, 93, 44, 67, 44, 91, 65, 124, 68, 93, 41, 58, 45, 97, 112, 112, 40, 66, 44, 67, 44, 68, 41, 46, 10]⟩, ⟨#[109, 101, 109, 40, 65, 44, 91, 65, 124, 66, 93, 41, 46, 10, 109, 101, 109, 40, 65, 44, 91, 66, 124, 67, 93, 41, 58, 45, 109, 101, 109, 40, 65, 44, 67, 41, 46, 10]⟩, ⟨#[112, 40, 49, 41, 46, 10, 112, 40, 50, 41, 46, 10, 112, 40, 51, 41, 46, 10, 113, 40, 65, 41, 58, 45, 112, 40, 65, 41, 44, 65, 62, 49, 44, 33, 46, 10, 114, 40, 65, 44, 66, 41, 58, 45, 112, 40, 65, 41, 44, 112, 40, 66, 41, 46, 10]⟩, ⟨#[108, 101, 110, 40, 91, 93, 44, 48, 41, 46, 10, 108, 101, 110, 40, 91, 65, 124, 66, 93, 44, 67, 41, 58, 45, 108, 101, 110, 40, 66, 44, 68, 41, 44, 67, 32, 105, 115, 32, 68, 43, 49, 46, 10]⟩, ⟨#[109, 97, 120, 40, 65, 44, 66, 44, 65, 41, 58, 45, 65, 62, 61, 66, 44, 33, 46, 10, 109, 97, 120, 40, 65, 44, 66, 44, 66, 41, 46, 10]⟩, ⟨#[101, 40, 97, 44, 98, 41, 46, 10, 101, 40, 98, 44, 99, 41, 46, 10, 101, 40, 99, 44, 100, 41, 46, 10, 116, 40, 65, 44, 66, 41, 58, 45, 101, 40, 65, 44, 66, 41, 46, 10, 116, 40, 65, 44, 66, 41, 58, 45, 101, 40, 65, 44, 67, 41, 44, 116, 40, 67, 44, 66, 41, 46, 10]⟩, ⟨#[108, 111, 111, 112, 58, 45, 108, 111, 111, 112, 46, 10, 111, 107, 46, 10]⟩, ⟨#[102, 97, 99, 40, 48, 44, 49, 41, 58, 45, 33, 46, 10, 102, 97, 99, 40, 65, 44, 66, 41, 58, 45, 65, 62, 48, 44, 67, 32, 105, 115, 32, 65, 45, 49, 44, 102, 97, 99, 40, 67, 44, 68, 41, 44, 66, 32, 105, 115, 32, 65, 42, 68, 46, 10]⟩, ⟨#[115, 40, 65, 41, 58, 45, 65, 61, 102, 40, 66, 41, 44, 97, 114, 103, 40, 49, 44, 65, 44, 66, 41, 44, 66, 61, 49, 46, 10, 115, 40, 65, 41, 58, 45, 118, 97, 114, 40, 65, 41, 44, 65, 61, 110, 111, 110, 101, 46, 10]⟩, ⟨#[114, 101, 118, 40, 91, 93, 44, 65, 44, 65, 41, 46, 10, 114, 101, 118, 40, 91, 65, 124, 66, 93, 44, 67, 44, 68, 41, 58, 45, 114, 101, 118, 40, 66, 44, 91, 65, 124, 67, 93, 44, 68, 41, 46, 10]⟩, ⟨#[98, 97, 100, 40, 65, 41, 58, 45, 66, 32, 105, 115, 32, 65, 43, 102, 111, 111, 44, 67, 61, 66, 46, 10, 98, 105, 103, 40, 65, 41, 58, 45, 65, 32, 105, 115, 32, 57, 57, 57, 43, 49, 46, 10, 117, 110, 40, 65, 41, 58, 45, 110, 111, 115, 117, 99, 104, 40, 65, 41, 46, 10]⟩]
theorem drawn_back {l : List UInt8} {p : List Cl} (e : prTxt p = l) (h : prValidF p = true) (hl : ∀ c ∈ p, (clTxt c).length ≤ 1000) : parsePr l = some p := by
  rw [← e]; exact parsePr_val h hl
theorem len_of_pr {p : List Cl} {n : Nat} (h : (prTxt p).length ≤ n) : ∀ c ∈ p, (clTxt c).length ≤ n := by
  induction p with
  | nil => intro c hc; simp at hc
  | cons d p ih =>
    intro c hc
    simp only [prTxt, List.map_cons, List.flatten_cons, List.length_append, List.length_cons, List.length_nil] at h ih
    rcases List.mem_cons.1 hc with rfl | hc
    · omega
    · exact ih (by omega) c hc
theorem drawn_texts : ∀ x ∈ drawnTx, ∃ p, parsePT x = p ∧ parsePB x = true ∧ prValidF p = true ∧ p ≠ [] ∧ p ∈ drawnPr := by
  have key : ∀ (l : List UInt8) (p : List Cl), prTxt p = l → prValidF p = true → l.length ≤ 1000 → p ≠ [] → p ∈ drawnPr → ∃ q, parsePT ⟨l.toArray⟩ = q ∧ parsePB ⟨l.toArray⟩ = true ∧ prValidF q = true ∧ q ≠ [] ∧ q ∈ drawnPr := by
    intro l p e h hl hne hm
    have hb := drawn_back e h (len_of_pr (by rw [e]; exact hl))
    have hx : (⟨l.toArray⟩ : ByteArray).toList = l := bs_list l
    exact ⟨p, by unfold parsePT; rw [hx, hb]; rfl, by unfold parsePB; rw [hx, hb]; rfl, h, hne, hm⟩
  intro x hx
  simp only [drawnTx, List.mem_cons, List.not_mem_nil, or_false] at hx
  rcases hx with rfl | rfl | rfl | rfl | rfl | rfl | rfl | rfl | rfl | rfl | rfl
  · exact key px0 pr0 pt0 pv0 (by decide +kernel) (by simp [pr0]) (by simp [drawnPr])
  · exact key px1 pr1 pt1 pv1 (by decide +kernel) (by simp [pr1]) (by simp [drawnPr])
  · exact key px2 pr2 pt2 pv2 (by decide +kernel) (by simp [pr2]) (by simp [drawnPr])
  · exact key px3 pr3 pt3 pv3 (by decide +kernel) (by simp [pr3]) (by simp [drawnPr])
  · exact key px4 pr4 pt4 pv4 (by decide +kernel) (by simp [pr4]) (by simp [drawnPr])
  · exact key px5 pr5 pt5 pv5 (by decide +kernel) (by simp [pr5]) (by simp [drawnPr])
  · exact key px6 pr6 pt6 pv6 (by decide +kernel) (by simp [pr6]) (by simp [drawnPr])
  · exact key px7 pr7 pt7 pv7 (by decide +kernel) (by simp [pr7]) (by simp [drawnPr])
  · exact key px8 pr8 pt8 pv8 (by decide +kernel) (by simp [pr8]) (by simp [drawnPr])
  · exact key px9 pr9 pt9 pv9 (by decide +kernel) (by simp [pr9]) (by simp [drawnPr])
  · exact key px10 pr10 pt10 pv10 (by decide +kernel) (by simp [pr10]) (by simp [drawnPr])
end Go.Proofs.YtognkaebiafgbaaGreatDoor
