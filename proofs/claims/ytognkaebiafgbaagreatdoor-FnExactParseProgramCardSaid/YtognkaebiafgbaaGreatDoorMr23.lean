/-
  Reading a clause, plain: what both sides read, and that the text of every valid clause is read back.
-/
import Derived.Test.YtognkaebiafgbaaGreatDoorRows
import Derived.WalkLawsBesides
import Derived.Laws.EntriesVeiled
import Derived.Test.YtognkaebiafgbaaGreatDoorMr11
import Derived.Test.YtognkaebiafgbaaGreatDoorMr17
import Derived.Test.YtognkaebiafgbaaGreatDoorMr22
import Derived.Test.YtognkaebiafgbaaGreatDoorMr3
import Derived.Test.YtognkaebiafgbaaGreatDoorMr10
namespace Go.Proofs.YtognkaebiafgbaaGreatDoor
open Go.RowKit
set_option linter.unusedVariables false
theorem Par.both {α β γ : Type} {f : Nat → Option α} {h : Nat → Option β} {g : Nat → Option γ} {x : α} {y : β} {z : γ} (hf : Par f x) (hh : Par h y) (e : ∀ F, f F = some x → h F = some y → g F = some z) : Par g z := by
  obtain ⟨F0, hf⟩ := hf
  obtain ⟨F1, hh⟩ := hh
  exact ⟨F0 + F1, fun F hF => e F (hf F (by omega)) (hh F (by omega))⟩
theorem Par.same {α : Type} {f : Nat → Option α} {x y : α} (h1 : Par f x) (h2 : Par f y) : x = y := by
  obtain ⟨F0, h1⟩ := h1
  obtain ⟨F1, h2⟩ := h2
  have a := h1 (F0 + F1) (by omega)
  have b := h2 (F0 + F1) (by omega)
  rw [a] at b
  exact Option.some.inj b
def goalsG (rd : List UInt8 → Option (Tm × List UInt8)) : Nat → List Tm → List UInt8 → Option (List Tm × List UInt8)
  | 0, _, _ => none
  | n + 1, acc, rest =>
    match rd rest with
    | none => none
    | some (t, r) => if hdB (isB 44) (some r) = true then goalsG rd n (acc ++ [t]) r.tail else some (acc ++ [t], r)
def bodyG (rd : List UInt8 → Option (Tm × List UInt8)) (n : Nat) (r : List UInt8) : Option (List Tm × List UInt8) :=
  match r with
  | 58 :: 45 :: q => goalsG rd n [] q
  | r => some ([], r)
def RdG (rdX : Nat → List UInt8 → Option (Tm × List UInt8)) : Prop := ∀ (t : Tm) (c : UInt8) (r : List UInt8), validF t = true → sole t = false → clB c → Par (fun F => rdX F (txt true t ++ c :: r)) (t, c :: r)
theorem sole_plain {t : Tm} (h : plainF t.kind t.name t.kids.length = true) : sole t = false := by
  obtain ⟨k, n, s, ks⟩ := t
  show soleF k s ks.length = false
  have h2 : decide (0 < opLevelF s.toList) = false := by
    cases hd : decide (0 < opLevelF s.toList)
    · rfl
    · have h' : plainF k s ks.length = true := h
      unfold plainF at h'
      rw [hd] at h'
      simp at h'
  simp only [soleF, h2, Bool.and_false]
theorem sole_goal {t : Tm} (h : goalF t = true) : sole t = false := by
  obtain ⟨k, n, s, ks⟩ := t
  simp only [goalF, Bool.and_eq_true, Bool.or_eq_true] at h
  rcases h.2 with (h | h) | h
  · show soleF k s ks.length = false
    simp only [cutF, Bool.and_eq_true, beq_iff_eq] at h
    simp only [soleF, h.1.2]
    rw [show decide (0 < opLevelF [33]) = false by decide, Bool.and_false]
  · exact sole_plain (t := .mk k n s ks) h
  · show soleF k s ks.length = false
    cases hs : soleF k s ks.length
    · rfl
    · simp only [soleF, Bool.and_eq_true, beq_iff_eq, decide_eq_true_eq] at hs
      simp only [builtF, Bool.and_eq_true] at h
      have hb := h.2
      rw [hs.1.2] at hb
      rcases op_cases hs.2 with e | e | e | e | e | e | e | e | e | e | e | e | e | e <;> (rw [e] at hb; exact absurd hb (by decide))
theorem goals_rt {rdX : Nat → List UInt8 → Option (Tm × List UInt8)} (H : RdG rdX) : ∀ (ts : List Tm) (acc : List Tm) (n : Nat), ts ≠ [] → (∀ t ∈ ts, goalF t = true) → ts.length ≤ n →
    Par (fun F => goalsG (rdX F) n acc (joinF (ts.map (txt true)) ++ [46])) (acc ++ ts, [46])
  | [], _, _, h, _, _ => absurd rfl h
  | [t], acc, n, _, hg, hn => by
    obtain ⟨n, rfl⟩ : ∃ m, n = m + 1 := ⟨n - 1, by simp only [List.length_cons, List.length_nil] at hn; omega⟩
    have h1 := H t 46 [] (goal_val (hg t (by simp))) (sole_goal (hg t (by simp))) (by unfold clB; simp)
    refine h1.both h1 fun F e _ => ?_
    show goalsG (rdX F) (n + 1) acc (txt true t ++ [46]) = _
    rw [goalsG, e]
    rfl
  | t :: u :: ts, acc, n, _, hg, hn => by
    obtain ⟨n, rfl⟩ : ∃ m, n = m + 1 := ⟨n - 1, by simp only [List.length_cons] at hn; omega⟩
    have h1 := H t 44 (joinF ((u :: ts).map (txt true)) ++ [46]) (goal_val (hg t (by simp))) (sole_goal (hg t (by simp))) (by unfold clB; simp)
    have h2 := goals_rt H (u :: ts) (acc ++ [t]) n (by simp) (fun x hx => hg x (by simp only [List.mem_cons] at hx ⊢; exact .inr hx)) (by simp only [List.length_cons] at hn ⊢; omega)
    refine h1.both h2 fun F e1 e2 => ?_
    have ej : joinF ((t :: u :: ts).map (txt true)) ++ [46] = txt true t ++ 44 :: (joinF ((u :: ts).map (txt true)) ++ [46]) := by simp [joinF]
    rw [ej, goalsG, e1]
    show goalsG (rdX F) n (acc ++ [t]) (joinF ((u :: ts).map (txt true)) ++ [46]) = _
    rw [e2]
    simp
def clauseG (rd : List UInt8 → Option (Tm × List UInt8)) (n : Nat) (l : List UInt8) : Option (Cl × List UInt8) :=
  match rd l with
  | none => none
  | some (t, r) => match bodyG rd n r with
    | none => none
    | some (ts, q) => some (⟨t, ts⟩, q)
theorem cl_goals {c : Cl} (h : clValidF c = true) : plainF c.head.kind c.head.name c.head.kids.length = true ∧ ∀ t ∈ c.body, goalF t = true := by
  simp only [clValidF, goalsF, Bool.and_eq_true, decide_eq_true_eq, Bool.not_eq_true'] at h
  refine ⟨h.1.2, fun t ht => ?_⟩
  have := List.any_eq_false.1 h.2.2 t ht
  simpa [notGoal] using this
theorem clause_rt {rdX : Nat → List UInt8 → Option (Tm × List UInt8)} (H : RdG rdX) {c : Cl} (h : clValidF c = true) {n : Nat} (hn : 6 ≤ n) : Par (fun F => clauseG (rdX F) n (clTxt c)) (c, [46]) := by
  obtain ⟨h1, h2, h3⟩ := cl_parts h
  obtain ⟨h4, h5⟩ := cl_goals h
  obtain ⟨hd, bd⟩ := c
  cases bd with
  | nil =>
    have e1 := H hd 46 [] h1 (sole_plain h4) (by unfold clB; simp)
    refine e1.both e1 fun F e _ => ?_
    show clauseG (rdX F) n (txt true hd ++ [46]) = _
    unfold clauseG
    rw [e]
    rfl
  | cons b bs' =>
    have e1 := H hd 58 (45 :: (joinF ((b :: bs').map (txt true)) ++ [46])) h1 (sole_plain h4) (by unfold clB; simp)
    have e2 := goals_rt H (b :: bs') [] n (by simp) h5 (by simp only [] at h2; omega)
    refine e1.both e2 fun F e e' => ?_
    have et : clTxt ⟨hd, b :: bs'⟩ = txt true hd ++ 58 :: (45 :: (joinF ((b :: bs').map (txt true)) ++ [46])) := by simp [clTxt]
    rw [et]
    unfold clauseG
    rw [e]
    show (match goalsG (rdX F) n [] (joinF ((b :: bs').map (txt true)) ++ [46]) with | none => none | some (ts, q) => some (Cl.mk hd ts, q)) = _
    rw [e']
    rfl
theorem rdg_spec : RdG (fun F l => rdF F 30 3 l) := fun t c r hv hs hc =>
  (ms_all _ t (Nat.le_refl _)).cl (valid_parts hv).1 (Nat.le_refl _) (.inr (.inl ⟨c, r, rfl, hc⟩)) (fun h => by rw [hs] at h; cases h) (opS_cl hc)
theorem rdg_impl : RdG (fun F l => termF true F 3 1 l) := fun t c r hv hs hc =>
  mt_all _ t (Nat.le_refl _) 30 1 3 (c :: r) (t, c :: r) (valid_parts hv).1 (by omega) (lev_3 t) (.inr (.inl ⟨c, r, rfl, hc⟩)) (fun h => by rw [hs] at h; cases h) (.inl (opP_cl hc)) (Par.now fun F => loop_stop (.inl (opP_cl hc)))
theorem clTxt_inj {c c' : Cl} (h : clValidF c = true) (h' : clValidF c' = true) (e : clTxt c = clTxt c') : c = c' := by
  have h1 := clause_rt rdg_spec h (Nat.le_refl _)
  have h2 := clause_rt rdg_spec h' (Nat.le_refl _)
  rw [e] at h1
  exact congrArg Prod.fst (h1.same h2)
open Classical in
noncomputable def parseClO (l : List UInt8) : Option Cl := if h : ∃ c, clValidF c = true ∧ clTxt c = l then some h.choose else none
theorem parseClO_some {c : Cl} (h : clValidF c = true) : parseClO (clTxt c) = some c := by
  have he : ∃ u, clValidF u = true ∧ clTxt u = clTxt c := ⟨c, h, rfl⟩
  unfold parseClO
  rw [dif_pos he]
  exact congrArg some (clTxt_inj he.choose_spec.1 h he.choose_spec.2)
theorem parseClO_spec {l : List UInt8} {c : Cl} (h : parseClO l = some c) : clValidF c = true ∧ clTxt c = l := by
  unfold parseClO at h
  split at h
  · rename_i he
    rw [← Option.some.inj h]
    exact he.choose_spec
  · cases h
def zCl : Cl := ⟨zTm, []⟩
noncomputable def parseC (s : ByteArray) : Option Cl := if s.size ≤ 1000 then parseClO s.toList else none
theorem spec_fuel (s : ByteArray) : ∃ F, 6 * s.size + 4 ≤ F ∧ ∀ c, parseClO s.toList = some c → clauseG (rdF F 30 3) 7 s.toList = some (c, [46]) := by
  cases e : parseClO s.toList with
  | none => exact ⟨_, Nat.le_refl _, fun t0 h => by cases h⟩
  | some c =>
    obtain ⟨hv, ht⟩ := parseClO_spec e
    obtain ⟨F0, h0⟩ := clause_rt rdg_spec hv (n := 7) (by omega)
    rw [ht] at h0
    exact ⟨F0 + (6 * s.size + 4), by omega, fun t1 h1 => by cases h1; exact h0 _ (by omega)⟩
theorem impl_fuel (s : ByteArray) (n : Nat) (hn : 6 ≤ n) : ∃ F, 4 * s.size + 2 ≤ F ∧ ∀ c, parseClO s.toList = some c → clauseG (termF true F 3 1) n s.toList = some (c, [46]) := by
  cases e : parseClO s.toList with
  | none => exact ⟨_, Nat.le_refl _, fun t0 h => by cases h⟩
  | some c =>
    obtain ⟨hv, ht⟩ := parseClO_spec e
    obtain ⟨F0, h0⟩ := clause_rt rdg_impl hv hn
    rw [ht] at h0
    exact ⟨F0 + (4 * s.size + 2), by omega, fun t1 h1 => by cases h1; exact h0 _ (by omega)⟩
end Go.Proofs.YtognkaebiafgbaaGreatDoor

namespace Go.Proofs.YtognkaebiafgbaaGreatDoor
open Go.RowKit
set_option linter.unusedVariables false
theorem cgetk {ts : List Cl} {k : Nat} (h : k < ts.length) : ∃ t, ts[k]? = some t := ⟨ts[k], by simp [h]⟩
end Go.Proofs.YtognkaebiafgbaaGreatDoor

namespace Go.Proofs.YtognkaebiafgbaaGreatDoor
open Go.RowKit
set_option linter.unusedVariables false
def ccells (c : Cl) (a : Option Addr) (cap : Nat) (a' : Option Addr) (cap' : Nat) : List Value := [.int .i64 c.head.kind, .int .i64 c.head.n, .string c.head.name, .slice a c.head.kids.length cap, .slice a' c.body.length cap']
def Cl.flat (S : Nat → Prop) (w : World) : List Cl → List Value → Prop
  | [], xs => xs = []
  | c :: cs, xs => ∃ a cap a' cap' rest, xs = ccells c a cap a' cap' ++ rest ∧ (Tm.at S w c.head (.agg #[.int .i64 c.head.kind, .int .i64 c.head.n, .string c.head.name, .slice a c.head.kids.length cap]) ∧ Tm.sl S w c.body (.slice a' c.body.length cap')) ∧ Cl.flat S w cs rest
theorem cflat_mono {S S' : Nat → Prop} {w w' : World} (hS : ∀ b, S b → S' b) (ha : Agree S w w') : ∀ {ts : List Cl} {xs : List Value}, Cl.flat S w ts xs → Cl.flat S' w' ts xs
  | [], xs, h => h
  | t :: ts, xs, h => by
    obtain ⟨a, cap, a', cap', rest, rfl, h1, h2⟩ := h
    exact ⟨a, cap, a', cap', rest, rfl, ⟨Tm.at_mono hS ha h1.1, Tm.sl_mono hS ha h1.2⟩, cflat_mono hS ha h2⟩
theorem cflat_row {S : Nat → Prop} {w : World} {b : Nat} : ∀ {ts : List Cl} {xs : List Value} {off : Nat}, Cl.flat S w ts xs → (∀ j, j < xs.length → w.cell? ⟨b, off + j, none⟩ = xs[j]?) → Cl.row S w b off ts
  | [], xs, off, h, _ => trivial
  | t :: ts, xs, off, h, hc => by
    obtain ⟨a, cap, a', cap', rest, rfl, h1, h2⟩ := h
    obtain ⟨h3, sv, h4, h5⟩ := Tm.at_iff.1 h1.1
    have hsv : sv = .slice a t.head.kids.length cap := by
      simp only [Value.agg.injEq] at h4
      have := congrArg (fun x : Array Value => x[3]?) h4
      simpa using this.symm
    subst hsv
    refine ⟨⟨Tm.cells_iff.2 ⟨_, ?_, ?_, ?_, ?_, h3, h5⟩, _, ?_, h1.2⟩, ?_⟩
    · have := hc 0 (by simp [ccells]); simpa [ccells] using this
    · have := hc 1 (by simp [ccells]); simpa [ccells] using this
    · have := hc 2 (by simp [ccells]); simpa [ccells] using this
    · have := hc 3 (by simp [ccells]); simpa [ccells] using this
    · have := hc 4 (by simp [ccells]); simpa [ccells] using this
    · refine cflat_row h2 fun j hj => ?_
      have := hc (5 + j) (by simp [ccells]; omega)
      rw [show off + 5 + j = off + (5 + j) by omega, this, show 5 + j = j + 5 by omega]
      simp [ccells]
theorem own_slC {S : Nat → Prop} {w : World} {base e : Nat} {v : Value} {ts : List Cl} {xs : List Value} (ho : w.ownsRow base e 5 v ts.length xs) (hf : Cl.flat S w ts xs) (hl : ts.length ≤ 1048576) : Cl.sl (fun b => S b ∨ v.ownBlock = some b) w ts v := by
  have hcell := fun (g : Nat) (hg : v.ownBlock = some g) => ho.cells (g := g) hg
  obtain ⟨h1, h2⟩ := ho
  rcases h2 with ⟨rfl, h2⟩ | ⟨g, cap, cur, rfl, h3, h4, h5, h6, h7, h8⟩
  · have : ts = [] := List.eq_nil_of_length_eq_zero h2
    subst this
    exact ⟨none, 0, by simp, by simp, by omega, by simp, .inl rfl⟩
  · refine ⟨_, cap, rfl, h5, h6, hl, .inr ⟨g, 0, rfl, .inr rfl, ?_⟩⟩
    refine cflat_row (cflat_mono (fun b h => .inl h) (fun b o v _ h => h) hf) fun j hj => ?_
    have := hcell g rfl j xs[j] (by simp [hj])
    rw [show (⟨g, 0, none⟩ : Addr).add j = ⟨g, 0 + j, none⟩ by unfold Addr.add; split <;> simp_all] at this
    rw [this]; simp [hj]
def Cl.sameL : List Cl → List Cl → Bool
  | [], [] => true
  | t :: ts, u :: us => Cl.same t u && Cl.sameL ts us
  | _, _ => false
set_option maxHeartbeats 1000000 in
theorem lawseqClauseS (ts us : List Cl) (v v' : Value) (S S' : Nat → Prop) (w : World) (hts : ts = us) (ht : Cl.sl S w ts v) (hu : Cl.sl S' w us v') :
    Calls Tryz.prog 23 #[v, v'] w fun e w' => e = .returned (.bool true) ∧ Ext w w' := by
  subst hts
  obtain ⟨a, cap, rfl, h1, h2, h3, h4⟩ := ht
  obtain ⟨a', cap', rfl, h1', h2', h3', h4'⟩ := hu
  have H4 := Lib.hid h4
  have H4' := Lib.hid h4'
  clear h4 h4'
  go_enter Tryz.func23, Tryz.ntmps23
  go_wp2_with fail
  go_loopw [5] (fun i wr => ∃ k : Nat, k ≤ ts.length ∧ i = .int .i64 k ∧ Ext w wr) (fun i _ => ts.length - (intOf i).toNat)
  case atStart => exact ⟨0, Nat.zero_le _, rfl, Ext.refl _⟩
  case round =>
    obtain ⟨k, hk, rfl, he⟩ := hrel
    by_cases hlt : k < ts.length
    · obtain ⟨tk, htk⟩ := cgetk hlt
      obtain ⟨b, off, ak, ck, al, cl, rfl, c1, c2, c3, c4, c5, hat, hsl⟩ := Cl.get H4.out htk he
      obtain ⟨b', off', ak', ck', al', cl', rfl, d1, d2, d3, d4, d5, hat', hsl'⟩ := Cl.get H4'.out htk he
      have k1 := cell_regrown c1
      have k2 := cell_regrown c2
      have k3 := cell_regrown c3
      have k4 := cell_regrown c4
      have k5 := cell_regrown c5
      have l1 := cell_regrown d1
      have l2 := cell_regrown d2
      have l3 := cell_regrown d3
      have l4 := cell_regrown d4
      have l5 := cell_regrown d5
      have cQ := quiet_call (w := wr) (fun w' e' => lawseqClause tk tk _ _ S S' w' ⟨_, _, rfl, Tm.at_ext (he.trans e') hat, Tm.sl_ext (he.trans e') hsl⟩ ⟨_, _, rfl, Tm.at_ext (he.trans e') hat', Tm.sl_ext (he.trans e') hsl'⟩)
      clear c1 c2 c3 c4 c5 d1 d2 d3 d4 d5 htk hat hsl hat' hsl'
      rw [csame_refl] at cQ
      go_wp2_with fail
      refine region_ext (by kernel_rfl) (by kernel_rfl) ?_
      repeat (quiet_step (exact cQ _ _))
      refine wpQuiet_nil ?_
      intro wq eq
      go_wp2_with fail
      go_roundw
      case rel => exact ⟨k + 1, by omega, by go_num, he.trans eq⟩
      case measure => simp [intOf]; omega
    · go_wp2_with fail
      go_ret
      exact ⟨rfl, he⟩
def notValid (c : Cl) : Bool := !clValidF c
def prValidF (cs : List Cl) : Bool := decide (cs.length ≤ 20) && !(cs.any notValid)
end Go.Proofs.YtognkaebiafgbaaGreatDoor

namespace Go.Proofs.YtognkaebiafgbaaGreatDoor
open Go.RowKit
set_option linter.unusedVariables false
def NL (l : List UInt8) : Prop := (10 : UInt8) ∉ l
theorem nl_nil : NL [] := by simp [NL]
theorem nl_app {a b : List UInt8} : NL (a ++ b) ↔ NL a ∧ NL b := by simp [NL, not_or]
theorem nl_cons {x : UInt8} {a : List UInt8} : NL (x :: a) ↔ x ≠ 10 ∧ NL a := by
  unfold NL
  rw [List.mem_cons, not_or]
  constructor
  · exact fun h => ⟨fun e => h.1 e.symm, h.2⟩
  · exact fun h => ⟨fun e => h.1 e.symm, h.2⟩
def cutL : List UInt8 → List (List UInt8)
  | [] => [[]]
  | b :: l => if b = 10 then [] :: cutL l else (b :: (cutL l).headD []) :: (cutL l).tail
theorem cutL_ne : ∀ l, cutL l ≠ []
  | [] => by simp [cutL]
  | b :: l => by unfold cutL; split <;> simp
theorem cutL_len (l : List UInt8) : 1 ≤ (cutL l).length := List.length_pos_iff.2 (cutL_ne l)
theorem cutL_le : ∀ l, (cutL l).length ≤ l.length + 1
  | [] => by simp [cutL]
  | b :: l => by
    have := cutL_le l
    have := cutL_len l
    unfold cutL
    split
    · simp only [List.length_cons]; omega
    · simp only [List.length_cons, List.length_tail]; omega
theorem cutL_nl : ∀ (x l : List UInt8), NL x → cutL (x ++ 10 :: l) = x :: cutL l
  | [], l, _ => by simp [cutL]
  | b :: x, l, h => by
    have h' := nl_cons.1 h
    rw [List.cons_append, cutL, if_neg h'.1, cutL_nl x l h'.2]
    rfl
def unL : List (List UInt8) → List UInt8
  | [] => []
  | [x] => x
  | x :: y :: xs => x ++ 10 :: unL (y :: xs)
theorem unL_cons (x : List UInt8) {xs : List (List UInt8)} (h : xs ≠ []) : unL (x :: xs) = x ++ 10 :: unL xs := by
  cases xs with
  | nil => exact absurd rfl h
  | cons y ys => rfl
theorem unL_head (b : UInt8) {xs : List (List UInt8)} (h : xs ≠ []) : unL ((b :: xs.headD []) :: xs.tail) = b :: unL xs := by
  cases xs with
  | nil => exact absurd rfl h
  | cons y ys =>
    cases ys with
    | nil => rfl
    | cons z zs => rfl
theorem unL_cutL : ∀ l, unL (cutL l) = l
  | [] => rfl
  | b :: l => by
    rw [cutL]
    split
    · rename_i h
      rw [unL_cons _ (cutL_ne l), unL_cutL l, h]
      rfl
    · rw [unL_head _ (cutL_ne l), unL_cutL l]
theorem unL_ends : ∀ xs : List (List UInt8), unL (xs ++ [[]]) = (xs.map (· ++ [10])).flatten
  | [] => rfl
  | x :: xs => by
    rw [List.cons_append, unL_cons _ (by simp), unL_ends xs]
    simp
theorem snoc_last {α : Type} : ∀ {l : List α} {x : α}, l.getLast? = some x → l = l.dropLast ++ [x]
  | [], _, h => by simp at h
  | [y], x, h => by simp at h; subst h; rfl
  | y :: z :: l, x, h => by
    have := snoc_last (l := z :: l) (x := x) (by simpa [List.getLast?_cons_cons] using h)
    rw [List.dropLast_cons_cons, List.cons_append, ← this]
def mapO {α β : Type} (f : α → Option β) : List α → Option (List β)
  | [] => some []
  | x :: xs => match f x with
    | none => none
    | some y => match mapO f xs with
      | none => none
      | some ys => some (y :: ys)
theorem mapO_snoc {α β : Type} {f : α → Option β} : ∀ {ls : List α} {cs : List β} {x : α} {c : β}, mapO f ls = some cs → f x = some c → mapO f (ls ++ [x]) = some (cs ++ [c])
  | [], cs, x, c, h, hx => by
    simp only [mapO, Option.some.injEq] at h
    subst h
    simp [mapO, hx]
  | y :: ls, cs, x, c, h, hx => by
    rw [mapO] at h
    cases e : f y with
    | none => rw [e] at h; cases h
    | some d =>
      rw [e] at h
      cases e2 : mapO f ls with
      | none => rw [e2] at h; cases h
      | some ds =>
        rw [e2] at h
        simp only [Option.some.injEq] at h
        subst h
        rw [List.cons_append, mapO, e, mapO_snoc e2 hx]
        rfl
theorem mapO_none {α β : Type} {f : α → Option β} : ∀ {ls : List α} {j : Nat} {x : α}, ls[j]? = some x → f x = none → mapO f ls = none
  | [], j, x, h, _ => by simp at h
  | y :: ls, 0, x, h, hx => by simp at h; subst h; simp [mapO, hx]
  | y :: ls, j + 1, x, h, hx => by
    have := mapO_none (ls := ls) (j := j) (x := x) (by simpa using h) hx
    rw [mapO, this]
    cases f y <;> rfl
theorem mapO_len {α β : Type} {f : α → Option β} : ∀ {ls : List α} {cs : List β}, mapO f ls = some cs → cs.length = ls.length
  | [], cs, h => by simp only [mapO, Option.some.injEq] at h; subst h; rfl
  | y :: ls, cs, h => by
    rw [mapO] at h
    cases e : f y with
    | none => rw [e] at h; cases h
    | some d =>
      rw [e] at h
      cases e2 : mapO f ls with
      | none => rw [e2] at h; cases h
      | some ds =>
        rw [e2] at h
        simp only [Option.some.injEq] at h
        subst h
        simp [mapO_len e2]
theorem mapO_get {α β : Type} {f : α → Option β} : ∀ {ls : List α} {cs : List β}, mapO f ls = some cs → ∀ (j : Nat) (c : β), cs[j]? = some c → ∃ x, ls[j]? = some x ∧ f x = some c
  | [], cs, h, j, c, hc => by simp only [mapO, Option.some.injEq] at h; subst h; simp at hc
  | y :: ls, cs, h, j, c, hc => by
    rw [mapO] at h
    cases e : f y with
    | none => rw [e] at h; cases h
    | some d =>
      rw [e] at h
      cases e2 : mapO f ls with
      | none => rw [e2] at h; cases h
      | some ds =>
        rw [e2] at h
        simp only [Option.some.injEq] at h
        subst h
        cases j with
        | zero => simp at hc; subst hc; exact ⟨y, rfl, e⟩
        | succ j => exact mapO_get e2 j c (by simpa using hc)
theorem mapO_flat {f : List UInt8 → Option Cl} (hf : ∀ l c, f l = some c → clTxt c = l) : ∀ {ls : List (List UInt8)} {cs : List Cl}, mapO f ls = some cs → prTxt cs = (ls.map (· ++ [10])).flatten
  | [], cs, h => by simp only [mapO, Option.some.injEq] at h; subst h; rfl
  | y :: ls, cs, h => by
    rw [mapO] at h
    cases e : f y with
    | none => rw [e] at h; cases h
    | some d =>
      rw [e] at h
      cases e2 : mapO f ls with
      | none => rw [e2] at h; cases h
      | some ds =>
        rw [e2] at h
        simp only [Option.some.injEq] at h
        subst h
        have := mapO_flat hf e2
        unfold prTxt at this ⊢
        rw [List.map_cons, List.flatten_cons, this, hf y d e, List.map_cons, List.flatten_cons]
noncomputable def parsePr (l : List UInt8) : Option (List Cl) := if (cutL l).length ≤ 21 ∧ (cutL l).getLast? = some [] then mapO (fun x => parseC (bs x)) (cutL l).dropLast else none
theorem parseC_of {l : List UInt8} {c : Cl} (h : parseC (bs l) = some c) : clValidF c = true ∧ clTxt c = l := by
  unfold parseC at h
  split at h
  · have := parseClO_spec h
    rw [bs_list] at this
    exact this
  · cases h
theorem prValid_of {cs : List Cl} (h1 : cs.length ≤ 20) (h2 : ∀ c ∈ cs, clValidF c = true) : prValidF cs = true := by
  simp only [prValidF, Bool.and_eq_true, decide_eq_true_eq, Bool.not_eq_true']
  refine ⟨h1, List.any_eq_false.2 fun c hc => ?_⟩
  simp [notValid, h2 c hc]
theorem pr_mem {cs : List Cl} (h : prValidF cs = true) : cs.length ≤ 20 ∧ ∀ c ∈ cs, clValidF c = true := by
  simp only [prValidF, Bool.and_eq_true, decide_eq_true_eq, Bool.not_eq_true'] at h
  refine ⟨h.1, fun c hc => ?_⟩
  have := List.any_eq_false.1 h.2 c hc
  simpa [notValid] using this
theorem parsePr_spec {l : List UInt8} {cs : List Cl} (h : parsePr l = some cs) : prValidF cs = true ∧ prTxt cs = l := by
  unfold parsePr at h
  split at h
  · rename_i hc
    have hs := snoc_last hc.2
    have hl := mapO_len h
    have hl2 : (cutL l).length = (cutL l).dropLast.length + 1 := by
      conv => lhs; rw [hs]
      simp
    refine ⟨prValid_of (by omega) (fun c hm => ?_), ?_⟩
    · obtain ⟨j, hj⟩ := List.getElem?_of_mem hm
      obtain ⟨x, _, hx⟩ := mapO_get h j c hj
      exact (parseC_of hx).1
    · rw [mapO_flat (fun l c h => (parseC_of h).2) h, ← unL_ends, ← hs, unL_cutL]
  · cases h
noncomputable def parsePT (s : ByteArray) : List Cl := (parsePr s.toList).getD []
noncomputable def parsePB (s : ByteArray) : Bool := (parsePr s.toList).isSome
end Go.Proofs.YtognkaebiafgbaaGreatDoor
