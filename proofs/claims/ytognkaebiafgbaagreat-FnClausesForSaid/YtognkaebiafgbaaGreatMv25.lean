/-
  Slices of clauses: the mirror's szClauseS, toClauseS, eqClauseS; and ProgramValid on both sides.
-/
import Derived.Test.YtognkaebiafgbaaGreatMv13
import Derived.Test.YtognkaebiafgbaaGreatMv24
namespace Go.Proofs.YtognkaebiafgbaaGreat
open Go.RowKit
set_option linter.unusedVariables false
def ccells (c : Cl) (a : Option Addr) (cap : Nat) (a' : Option Addr) (cap' : Nat) : List Value := [.int .i64 c.head.kind, .int .i64 c.head.n, .string c.head.name, .slice a c.head.kids.length cap, .slice a' c.body.length cap']
def Cl.flat (S : Nat → Prop) (w : World) : List Cl → List Value → Prop
  | [], xs => xs = []
  | c :: cs, xs => ∃ a cap a' cap' rest, xs = ccells c a cap a' cap' ++ rest ∧ (Tm.at S w c.head (.agg #[.int .i64 c.head.kind, .int .i64 c.head.n, .string c.head.name, .slice a c.head.kids.length cap]) ∧ Tm.sl S w c.body (.slice a' c.body.length cap')) ∧ Cl.flat S w cs rest
theorem cflat_mono {S S' : Nat → Prop} {w w' : World} (hS : ∀ b, S b → S' b) (ha : Agree S w w') : ∀ {ts : List Cl} {xs : List Value}, Cl.flat S w ts xs → Cl.flat S' w' ts xs
  | [], xs, h => h
  | t :: ts, xs, h => by
    obtain ⟨a, cap, a', cap', rest, rfl, h1, h2⟩ := h
    exact ⟨a, cap, a', cap', rest, rfl, ⟨Tm.at_mono hS ha h1.1, Tm.sl_mono hS ha h1.2⟩, cflat_mono hS ha h2⟩
theorem cflat_snoc {S : Nat → Prop} {w : World} {c : Cl} {a a' : Option Addr} {cap cap' : Nat} (hc : Tm.at S w c.head (.agg #[.int .i64 c.head.kind, .int .i64 c.head.n, .string c.head.name, .slice a c.head.kids.length cap]) ∧ Tm.sl S w c.body (.slice a' c.body.length cap')) :
    ∀ {ts : List Cl} {xs : List Value}, Cl.flat S w ts xs → Cl.flat S w (ts ++ [c]) (xs ++ ccells c a cap a' cap')
  | [], xs, h => by simp only [Cl.flat] at h; subst h; exact ⟨a, cap, a', cap', [], by simp, hc, rfl⟩
  | t0 :: ts, xs, h => by
    obtain ⟨a0, cap0, a1, cap1, rest, rfl, h1, h2⟩ := h
    exact ⟨a0, cap0, a1, cap1, rest ++ ccells c a cap a' cap', by simp, h1, cflat_snoc hc h2⟩
theorem cflat_row {S : Nat → Prop} {w : World} {b : Nat} : ∀ {ts : List Cl} {xs : List Value} {off : Nat}, Cl.flat S w ts xs → (∀ j, j < xs.length → w.cell? ⟨b, off + j, none⟩ = xs[j]?) → Cl.row S w b off ts
  | [], xs, off, h, _ => trivial
  | t :: ts, xs, off, h, hc => by
    obtain ⟨a, cap, a', cap', rest, rfl, h1, h2⟩ := h
    obtain ⟨h3, sv, h4, h5⟩ := Tm.at_iff.1 h1.1
    have hsv : sv = .slice a t.head.kids.length cap := by
      simp only [Value.agg.injEq] at h4
      have := congrArg (fun x : Array Value => x[3]?) h4
      simpa using this.symm
    subst hsv
    refine ⟨⟨Tm.cells_iff.2 ⟨_, ?_, ?_, ?_, ?_, h3, h5⟩, _, ?_, h1.2⟩, ?_⟩
    · have := hc 0 (by simp [ccells]); simpa [ccells] using this
    · have := hc 1 (by simp [ccells]); simpa [ccells] using this
    · have := hc 2 (by simp [ccells]); simpa [ccells] using this
    · have := hc 3 (by simp [ccells]); simpa [ccells] using this
    · have := hc 4 (by simp [ccells]); simpa [ccells] using this
    · refine cflat_row h2 fun j hj => ?_
      have := hc (5 + j) (by simp [ccells]; omega)
      rw [show off + 5 + j = off + (5 + j) by omega, this, show 5 + j = j + 5 by omega]
      simp [ccells]
theorem own_slC {S : Nat → Prop} {w : World} {base e : Nat} {v : Value} {ts : List Cl} {xs : List Value} (ho : w.ownsRow base e 5 v ts.length xs) (hf : Cl.flat S w ts xs) (hl : ts.length ≤ 1048576) : Cl.sl (fun b => S b ∨ v.ownBlock = some b) w ts v := by
  have hcell := fun (g : Nat) (hg : v.ownBlock = some g) => ho.cells (g := g) hg
  obtain ⟨h1, h2⟩ := ho
  rcases h2 with ⟨rfl, h2⟩ | ⟨g, cap, cur, rfl, h3, h4, h5, h6, h7, h8⟩
  · have : ts = [] := List.eq_nil_of_length_eq_zero h2
    subst this
    exact ⟨none, 0, by simp, by simp, by omega, by simp, .inl rfl⟩
  · refine ⟨_, cap, rfl, h5, h6, hl, .inr ⟨g, 0, rfl, .inr rfl, ?_⟩⟩
    refine cflat_row (cflat_mono (fun b h => .inl h) (fun b o v _ h => h) hf) fun j hj => ?_
    have := hcell g rfl j xs[j] (by simp [hj])
    rw [show (⟨g, 0, none⟩ : Addr).add j = ⟨g, 0 + j, none⟩ by unfold Addr.add; split <;> simp_all] at this
    rw [this]; simp [hj]
def Cl.sameL : List Cl → List Cl → Bool
  | [], [] => true
  | t :: ts, u :: us => Cl.same t u && Cl.sameL ts us
  | _, _ => false
def notValid (c : Cl) : Bool := !clValidF c
def prValidF (cs : List Cl) : Bool := decide (cs.length ≤ 20) && !(cs.any notValid)
set_option maxHeartbeats 400000 in
theorem implProgramValid1 (t : Cl) (v : Value) (S : Nat → Prop) (w : World) (ht : Cl.at S w t v) :
    Calls Tryz.prog 27 #[v] w fun e w' => e = .returned (.bool (notValid t)) ∧ Ext w w' := by
  have HT := Lib.hid (fun w' (e' : Ext w w') => implClauseValid t v S w' (Cl.at_ext e' ht))
  obtain ⟨a, c, a', c', rfl, _⟩ := Cl.form ht
  clear ht
  go_enter Tryz.func27, Tryz.ntmps27
  go_wp2_with fail
  refine (HT.out _ (Ext.alloc _ _)).mono ?_
  rintro e w1 ⟨rfl, q⟩
  go_wp2_with fail
  go_ret
  exact ⟨rfl, (Ext.alloc _ _).trans q⟩
set_option maxHeartbeats 400000 in
theorem implProgramValid (ts : List Cl) (v : Value) (S : Nat → Prop) (w : World) (ht : Cl.sl S w ts v) :
    Calls Tryz.prog 8 #[v] w fun e w' => e = .returned (.bool (prValidF ts)) ∧ Ext w w' := by
  have HT := Lib.hid (containsAnyC 27 notValid (fun _ _ => by kernel_rfl) implProgramValid1 ts v S w ht)
  obtain ⟨a, cap, rfl, h1, h2, h3, h4⟩ := ht
  clear h4
  by_cases hl : ts.length ≤ 20
  · have hf : Hid (prValidF ts = !(ts.any notValid)) := Lib.hid (by unfold prValidF; rw [decide_eq_true hl]; rfl)
    go_enter Tryz.func8, Tryz.ntmps8
    go_wp2_with fail
    refine HT.out.mono ?_
    rintro e w1 ⟨rfl, q⟩
    go_wp2_with fail
    go_ret
    exact ⟨retB hf.out.symm, q⟩
  · have hf : Hid (prValidF ts = false) := Lib.hid (by unfold prValidF; rw [decide_eq_false hl]; rfl)
    go_enter Tryz.func8, Tryz.ntmps8
    go_wp2_with fail
    go_ret
    exact ⟨retB hf.out.symm, Ext.refl _⟩
theorem prog_no {ts : List Cl} {j : Nat} {t : Cl} (h : ts[j]? = some t) (hg : clValidF t = false) : prValidF ts = false := by
  have : ts.any notValid = true := List.any_eq_true.2 ⟨t, List.mem_of_getElem? h, by unfold notValid; rw [hg]; rfl⟩
  unfold prValidF
  rw [this]
  simp
def ProgTo (k : Nat) (ts : List Cl) : Prop := ∀ (j : Nat) (t : Cl), j < k → ts[j]? = some t → clValidF t = true
theorem progTo_succ {k : Nat} {ts : List Cl} {t : Cl} (h : ProgTo k ts) (ht : ts[k]? = some t) (hg : clValidF t = true) : ProgTo (k + 1) ts := by
  intro j u hj hu
  by_cases e : j = k
  · subst e; rw [ht] at hu; cases hu; exact hg
  · exact h j u (by omega) hu
theorem progTo_all {k : Nat} {ts : List Cl} (h : ProgTo k ts) (hk : ts.length ≤ k) : prValidF ts = decide (ts.length ≤ 20) := by
  have : ts.any notValid = false := List.any_eq_false.2 (fun t ht => by
    obtain ⟨j, hj⟩ := List.getElem?_of_mem ht
    have := h j t (by have := (List.getElem?_eq_some_iff.1 hj).1; omega) hj
    unfold notValid
    rw [this]
    simp)
  unfold prValidF
  rw [this]
  simp
set_option maxHeartbeats 1000000 in
theorem specProgramValid (cs : List Cl) (v : Value) (S : Nat → Prop) (w : World) (hc : Cl.sl S w cs v) :
    Calls Tryz.prog 22 #[v] w fun e w' => e = .returned (.bool (prValidF cs)) ∧ Ext w w' := by
  obtain ⟨a, cap, rfl, h1, h2, h3, h4⟩ := hc
  have H4 := Lib.hid h4
  clear h4
  go_enter Tryz.func22, Tryz.ntmps22
  go_wp2_with fail
  go_loopw [3] (fun i wr => ∃ k : Nat, k ≤ cs.length ∧ k ≤ 21 ∧ i = .int .i64 k ∧ Hid (ProgTo k cs) ∧ Ext w wr) (fun i _ => cs.length - (intOf i).toNat)
  case atStart => exact ⟨0, Nat.zero_le _, by omega, rfl, fun j t h => absurd h (by omega), Ext.refl _⟩
  case round =>
    obtain ⟨k, hk, hk7, rfl, HG, he⟩ := hrel
    by_cases hlt : k < cs.length
    · by_cases hk6 : k ≤ 20
      · obtain ⟨tk, htk⟩ := cgetk hlt
        obtain ⟨bb, off, ak, ck, al, cl, rfl, c0, c1, c2, c3, c4, hat, hsl⟩ := Cl.get H4.out htk he
        have HC := Lib.hid (fun w' (e' : Ext wr w') => specClauseValid tk _ S w' ⟨_, _, rfl, Tm.at_ext (he.trans e') hat, Tm.sl_ext (he.trans e') hsl⟩)
        have HTK := Lib.hid htk
        clear htk hat hsl
        cases hg : clValidF tk
        · have hf : Hid (prValidF cs = false) := Lib.hid (prog_no HTK.out hg)
          go_wp2_with fail
          refine (HC.out _ (Ext.refl _)).mono ?_
          rw [hg]
          rintro e w1 ⟨rfl, q⟩
          clear hg
          go_wp2_with fail
          go_ret
          exact ⟨retB hf.out.symm, he.trans q⟩
        · have hs := Lib.hid (progTo_succ HG.out HTK.out hg)
          go_wp2_with fail
          refine (HC.out _ (Ext.refl _)).mono ?_
          rw [hg]
          rintro e w1 ⟨rfl, q⟩
          clear hg
          go_wp2_with fail
          go_roundw
          case rel => exact ⟨k + 1, by omega, by omega, by go_num, hs, he.trans q⟩
          case measure => simp [intOf]; omega
      · have h6 : ¬ cs.length ≤ 20 := by omega
        have hf : Hid (prValidF cs = false) := Lib.hid (by unfold prValidF; rw [decide_eq_false h6]; simp)
        go_wp2_with fail
        go_ret
        exact ⟨retB (by rw [hf.out, decide_eq_false (by omega)]), he⟩
    · have hall := Lib.hid (progTo_all HG.out (by omega))
      by_cases h6 : cs.length ≤ 20
      · have hf : Hid (prValidF cs = true) := Lib.hid (by rw [hall.out, decide_eq_true h6])
        go_wp2_with fail
        go_ret
        exact ⟨retB (by rw [hf.out, decide_eq_true (by omega)]), he⟩
      · have hf : Hid (prValidF cs = false) := Lib.hid (by rw [hall.out, decide_eq_false h6])
        go_wp2_with fail
        go_ret
        exact ⟨retB (by rw [hf.out, decide_eq_false (by omega)]), he⟩
end Go.Proofs.YtognkaebiafgbaaGreat

namespace Go.Proofs.YtognkaebiafgbaaGreat
open Go.RowKit
set_option linter.unusedVariables false
def NL (l : List UInt8) : Prop := (10 : UInt8) ∉ l
theorem nl_nil : NL [] := by simp [NL]
theorem nl_app {a b : List UInt8} : NL (a ++ b) ↔ NL a ∧ NL b := by simp [NL, not_or]
theorem nl_cons {x : UInt8} {a : List UInt8} : NL (x :: a) ↔ x ≠ 10 ∧ NL a := by
  unfold NL
  rw [List.mem_cons, not_or]
  constructor
  · exact fun h => ⟨fun e => h.1 e.symm, h.2⟩
  · exact fun h => ⟨fun e => h.1 e.symm, h.2⟩
theorem nl_name {s : ByteArray} (h : nameF s = true) : NL s.toList := by
  simp only [nameF, Bool.or_eq_true] at h
  rcases h with h | h
  · simp only [wordF, Bool.and_eq_true] at h
    intro hm
    have := List.all_eq_true.1 h.1 10 hm
    exact absurd this (by decide)
  · simp only [hasF, List.any_eq_true, beq_iff_eq] at h
    obtain ⟨x, hx, e⟩ := h
    rw [← e]
    clear e
    simp only [signs, List.mem_cons, List.not_mem_nil, or_false] at hx
    rcases hx with rfl | rfl | rfl | rfl | rfl | rfl | rfl | rfl | rfl | rfl | rfl | rfl | rfl | rfl | rfl <;> simp [ByteArray.toList_eq, NL]
theorem nl_dec (u : Nat) : NL (Lib.decDigits u) := fun h => absurd (dec_digits u u (Nat.le_refl _) 10 h) (by decide)
theorem nl_itoa (n : Int) : NL (Lib.itoa n) := by
  unfold Lib.itoa
  split
  · exact nl_cons.2 ⟨by decide, nl_dec _⟩
  · exact nl_dec _
theorem nl_opn {x : Tx} {m : Int} {r : Bool} (h : NL x.txt) : NL (opn x m r) := by
  unfold opn
  split
  · exact nl_cons.2 ⟨by decide, nl_app.2 ⟨h, nl_cons.2 ⟨by decide, nl_nil⟩⟩⟩
  · exact h
theorem nl_spaced {s : List UInt8} (h : NL s) : NL (spaced s) := by
  unfold spaced
  split
  · exact nl_cons.2 ⟨by decide, nl_app.2 ⟨h, nl_cons.2 ⟨by decide, nl_nil⟩⟩⟩
  · exact h
theorem nl_join : ∀ xs : List (List UInt8), (∀ (j : Nat) (x : List UInt8), xs[j]? = some x → NL x) → NL (joinF xs)
  | [], _ => nl_nil
  | [x], h => h 0 x rfl
  | x :: y :: xs, h => by
    have h2 := nl_join (y :: xs) (fun j z hz => h (j + 1) z (by simpa using hz))
    exact nl_app.2 ⟨h 0 x rfl, nl_cons.2 ⟨by decide, h2⟩⟩
theorem nl_let {n : Int} (h0 : 0 ≤ n) (h1 : n ≤ 25) : letB n ≠ 10 := by
  unfold letB
  intro e
  have := congrArg UInt8.toNat e
  rw [UInt8.toNat_ofNat'] at this
  have e10 : (10 : UInt8).toNat = 10 := rfl
  omega
theorem shape_var' {n : Int} {s : ByteArray} {ks : List Tm} {d : Nat} (h : shapeF (.mk 1 n s ks) d = true) : 0 ≤ n ∧ n ≤ 25 := by
  simp only [shapeF, Bool.and_eq_true] at h
  have h2 := h.1.2
  unfold ownF at h2
  simp at h2
  exact ⟨h2.1.1.1, h2.1.1.2⟩
mutual
theorem tx_nl (o : Bool) : ∀ (t : Tm) (d : Nat), shapeF t d = true → NL (txt o t) ∧ NL (rst o t)
  | .mk k n s ks, d, h => by
    have hl := tx_nls o ks (d - 1) (by simp only [shapeF, Bool.and_eq_true] at h; exact h.2)
    have key : NL (ownTx o k n s (txL o ks)) := by
      rcases shape_own h with ⟨rfl, _, rfl⟩ | ⟨rfl, _, rfl⟩ | ⟨rfl, rfl⟩
      · have := shape_var' h
        simp only [ownTx, if_true]
        exact nl_cons.2 ⟨nl_let this.1 this.2, nl_nil⟩
      · simp only [ownTx, if_neg (show ¬ (2 : Int) = 1 by decide), if_true]
        exact nl_itoa n
      · obtain ⟨hn, _⟩ := shape_name h
        have hn := nl_name hn
        simp only [ownTx, if_neg (show ¬ (3 : Int) = 1 by decide), if_neg (show ¬ (3 : Int) = 2 by decide), txL_len]
        split
        · rename_i hi
          obtain ⟨a, b, rfl⟩ := len_two (inf_two (by simp only [Bool.and_eq_true] at hi; exact hi.2)).2.1
          have h4 := hl 0 a rfl
          have h5 := hl 1 b rfl
          exact nl_app.2 ⟨nl_opn (by simpa [txL, txt] using h4.1), nl_app.2 ⟨nl_spaced hn, nl_opn (by simpa [txL, txt] using h5.1)⟩⟩
        · split
          · rename_i _ hp
            obtain ⟨a, b, rfl⟩ := len_two (pair_two hp).2.1
            have h4 := hl 0 a rfl
            have h5 := hl 1 b rfl
            refine nl_cons.2 ⟨by decide, nl_app.2 ⟨by simpa [txL, txt] using h4.1, nl_app.2 ⟨by simpa [txL, rst] using h5.2, nl_cons.2 ⟨by decide, nl_nil⟩⟩⟩⟩
          · split
            · exact hn
            · rw [txL_map]
              refine nl_app.2 ⟨hn, nl_cons.2 ⟨by decide, nl_app.2 ⟨nl_join _ (fun j x hx => ?_), nl_cons.2 ⟨by decide, nl_nil⟩⟩⟩⟩
              rw [List.getElem?_map] at hx
              cases hk : ks[j]? with
              | none => rw [hk] at hx; cases hx
              | some t =>
                rw [hk] at hx
                simp only [Option.map_some, Option.some.injEq] at hx
                rw [← hx]
                exact (hl j t hk).1
    refine ⟨by simpa [txt, txF] using key, ?_⟩
    simp only [rst, txF, restTx]
    split
    · rename_i hp
      rw [txL_len] at hp
      obtain ⟨a, b, rfl⟩ := len_two (pair_two hp).2.1
      have h4 := hl 0 a rfl
      have h5 := hl 1 b rfl
      exact nl_cons.2 ⟨by decide, nl_app.2 ⟨by simpa [txL, txt] using h4.1, by simpa [txL, rst] using h5.2⟩⟩
    · split
      · exact nl_nil
      · exact nl_cons.2 ⟨by decide, key⟩
theorem tx_nls (o : Bool) : ∀ (ts : List Tm) (d : Nat), shapeL ts d = true → ∀ (j : Nat) (t : Tm), ts[j]? = some t → NL (txt o t) ∧ NL (rst o t)
  | [], d, h, j, t, ht => by simp at ht
  | t :: ts, d, h, j, u, hu => by
    simp only [shapeL, Bool.and_eq_true] at h
    rcases j with _ | j
    · simp at hu; subst hu; exact tx_nl o t d h.1
    · exact tx_nls o ts d h.2 j u (by simpa using hu)
end
theorem nl_val {t : Tm} (h : validF t = true) : NL (txt true t) := (tx_nl true t 30 (valid_parts h).1).1
theorem nl_cl {c : Cl} (h : clValidF c = true) : NL (clTxt c) := by
  obtain ⟨h1, h2, h3⟩ := cl_parts h
  unfold clTxt
  refine nl_app.2 ⟨nl_val h1, ?_⟩
  split
  · exact nl_cons.2 ⟨by decide, nl_nil⟩
  · refine nl_cons.2 ⟨by decide, nl_cons.2 ⟨by decide, nl_app.2 ⟨nl_join _ (fun j x hx => ?_), nl_cons.2 ⟨by decide, nl_nil⟩⟩⟩⟩
    rw [List.getElem?_map] at hx
    cases hk : c.body[j]? with
    | none => rw [hk] at hx; cases hx
    | some t =>
      rw [hk] at hx
      simp only [Option.map_some, Option.some.injEq] at hx
      rw [← hx]
      exact nl_val (h3 j t hk)
def cutL : List UInt8 → List (List UInt8)
  | [] => [[]]
  | b :: l => if b = 10 then [] :: cutL l else (b :: (cutL l).headD []) :: (cutL l).tail
theorem cutL_ne : ∀ l, cutL l ≠ []
  | [] => by simp [cutL]
  | b :: l => by unfold cutL; split <;> simp
theorem cutL_len (l : List UInt8) : 1 ≤ (cutL l).length := List.length_pos_iff.2 (cutL_ne l)
theorem cutL_le : ∀ l, (cutL l).length ≤ l.length + 1
  | [] => by simp [cutL]
  | b :: l => by
    have := cutL_le l
    have := cutL_len l
    unfold cutL
    split
    · simp only [List.length_cons]; omega
    · simp only [List.length_cons, List.length_tail]; omega
theorem cutL_nl : ∀ (x l : List UInt8), NL x → cutL (x ++ 10 :: l) = x :: cutL l
  | [], l, _ => by simp [cutL]
  | b :: x, l, h => by
    have h' := nl_cons.1 h
    rw [List.cons_append, cutL, if_neg h'.1, cutL_nl x l h'.2]
    rfl
theorem cutL_ends : ∀ xs : List (List UInt8), (∀ x ∈ xs, NL x) → cutL ((xs.map (· ++ [10])).flatten) = xs ++ [[]]
  | [], _ => rfl
  | x :: xs, h => by
    have ih := cutL_ends xs (fun y hy => h y (by simp [hy]))
    rw [List.map_cons, List.flatten_cons, List.append_assoc, List.singleton_append, cutL_nl _ _ (h x (by simp)), ih]
    rfl
def mapO {α β : Type} (f : α → Option β) : List α → Option (List β)
  | [] => some []
  | x :: xs => match f x with
    | none => none
    | some y => match mapO f xs with
      | none => none
      | some ys => some (y :: ys)
theorem mapO_snoc {α β : Type} {f : α → Option β} : ∀ {ls : List α} {cs : List β} {x : α} {c : β}, mapO f ls = some cs → f x = some c → mapO f (ls ++ [x]) = some (cs ++ [c])
  | [], cs, x, c, h, hx => by
    simp only [mapO, Option.some.injEq] at h
    subst h
    simp [mapO, hx]
  | y :: ls, cs, x, c, h, hx => by
    rw [mapO] at h
    cases e : f y with
    | none => rw [e] at h; cases h
    | some d =>
      rw [e] at h
      cases e2 : mapO f ls with
      | none => rw [e2] at h; cases h
      | some ds =>
        rw [e2] at h
        simp only [Option.some.injEq] at h
        subst h
        rw [List.cons_append, mapO, e, mapO_snoc e2 hx]
        rfl
theorem mapO_none {α β : Type} {f : α → Option β} : ∀ {ls : List α} {j : Nat} {x : α}, ls[j]? = some x → f x = none → mapO f ls = none
  | [], j, x, h, _ => by simp at h
  | y :: ls, 0, x, h, hx => by simp at h; subst h; simp [mapO, hx]
  | y :: ls, j + 1, x, h, hx => by
    have := mapO_none (ls := ls) (j := j) (x := x) (by simpa using h) hx
    rw [mapO, this]
    cases f y <;> rfl
theorem mapO_all {α β : Type} {f : α → Option β} {g : β → α} : ∀ {cs : List β}, (∀ c ∈ cs, f (g c) = some c) → mapO f (cs.map g) = some cs
  | [], _ => rfl
  | c :: cs, h => by
    rw [List.map_cons, mapO, h c (by simp), mapO_all (fun d hd => h d (by simp [hd]))]
noncomputable def parsePr (l : List UInt8) : Option (List Cl) := if (cutL l).length ≤ 21 ∧ (cutL l).getLast? = some [] then mapO (fun x => parseC (bs x)) (cutL l).dropLast else none
theorem parseC_val {c : Cl} (h : clValidF c = true) (hl : (clTxt c).length ≤ 1000) : parseC (bs (clTxt c)) = some c := by
  unfold parseC
  rw [if_pos (by rw [bs_size]; exact hl), bs_list]
  exact parseClO_some h
theorem pr_mem {cs : List Cl} (h : prValidF cs = true) : cs.length ≤ 20 ∧ ∀ c ∈ cs, clValidF c = true := by
  simp only [prValidF, Bool.and_eq_true, decide_eq_true_eq, Bool.not_eq_true'] at h
  refine ⟨h.1, fun c hc => ?_⟩
  have := List.any_eq_false.1 h.2 c hc
  simpa [notValid] using this
theorem parsePr_val {cs : List Cl} (h : prValidF cs = true) (hl : ∀ c ∈ cs, (clTxt c).length ≤ 1000) : parsePr (prTxt cs) = some cs := by
  obtain ⟨h1, h2⟩ := pr_mem h
  have hcut : cutL (prTxt cs) = cs.map clTxt ++ [[]] := by
    rw [← cutL_ends (cs.map clTxt) (fun x hx => by
      obtain ⟨c, hc, rfl⟩ := List.mem_map.1 hx
      exact nl_cl (h2 c hc))]
    unfold prTxt
    rw [List.map_map]
    rfl
  unfold parsePr
  rw [hcut, if_pos ⟨by simp; omega, by simp⟩, List.dropLast_concat]
  exact mapO_all (fun c hc => parseC_val (h2 c hc) (hl c hc))
noncomputable def parsePT (s : ByteArray) : List Cl := (parsePr s.toList).getD []
noncomputable def parsePB (s : ByteArray) : Bool := (parsePr s.toList).isSome
end Go.Proofs.YtognkaebiafgbaaGreat
