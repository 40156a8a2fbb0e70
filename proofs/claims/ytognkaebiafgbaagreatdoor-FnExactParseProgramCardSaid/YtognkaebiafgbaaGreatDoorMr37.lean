/-
  How large a clause is that has been read.
-/
import Derived.Lib.AtoiAllCases
import Derived.Test.YtognkaebiafgbaaGreatDoorMr26
import Derived.Test.YtognkaebiafgbaaGreatDoorMr36
import Derived.Test.YtognkaebiafgbaaGreatDoorMr25
import Derived.Test.YtognkaebiafgbaaGreatDoorMr24
import Derived.Test.YtognkaebiafgbaaGreatDoorMr11
import Derived.Test.YtognkaebiafgbaaGreatDoorMr13
namespace Go.Proofs.YtognkaebiafgbaaGreatDoor
open Go.RowKit
set_option linter.unusedVariables false
theorem val_small {t : Tm} (hv : validF t = true) : Tm.sz t ≤ 120 ∧ t.name.size ≤ 1048576 ∧ t.kids.length ≤ 1048576 := by
  have h2 := (valid_parts hv).2
  have h1 := (valid_parts hv).1
  obtain ⟨k, n, nm, ks⟩ := t
  have hl : ks.length ≤ 4 := by
    rcases shape_own h1 with ⟨_, _, h⟩ | ⟨_, _, h⟩ | ⟨rfl, _⟩
    · rw [h]; decide
    · rw [h]; decide
    · exact (shape_name h1).2
  refine ⟨h2, ?_, by simp only [Tm.kids]; omega⟩
  simp only [Tm.name]
  rcases shape_own h1 with ⟨_, h, _⟩ | ⟨_, h, _⟩ | ⟨rfl, _⟩
  · rw [← bl_len, h]; decide
  · rw [← bl_len, h]; decide
  · have := (name_len (shape_name h1).1).2
    rw [bl_len] at this
    omega
theorem szL_of : ∀ (ts : List Tm), (∀ (j : Nat) (t : Tm), ts[j]? = some t → Tm.sz t ≤ 120) → Tm.szL ts ≤ ts.length * 120
  | [], _ => by simp [Tm.szL]
  | t :: ts, h => by
    have h1 := h 0 t rfl
    have h2 := szL_of ts (fun j x hx => h (j + 1) x (by simpa using hx))
    simp only [Tm.szL, List.length_cons, Nat.add_mul, Nat.one_mul]
    omega
theorem cl_small {c : Cl} (hc : clValidF c = true) : Cl.mk3 c ≤ 6000 ∧ c.head.name.size ≤ 1048576 ∧ c.head.kids.length ≤ 1048576 ∧ c.body.length ≤ 1048576 := by
  obtain ⟨h1, h2, h3⟩ := cl_parts hc
  obtain ⟨a1, a2, a3⟩ := val_small h1
  have h4 := szL_of c.body (fun j t ht => (val_small (h3 j t ht)).1)
  refine ⟨?_, a2, a3, by omega⟩
  unfold Cl.mk3
  have h5 : Tm.szL c.head.kids ≤ 120 := by
    obtain ⟨⟨k, n, nm, ks⟩, b⟩ := c
    simp only [Tm.sz] at a1
    simp only [Tm.kids]
    omega
  omega
theorem parse_small (s : ByteArray) : Cl.mk3 (parseCT s) ≤ 6000 ∧ (parseCT s).head.name.size ≤ 1048576 ∧ (parseCT s).head.kids.length ≤ 1048576 ∧ (parseCT s).body.length ≤ 1048576 := by
  cases e : parseC s with
  | none =>
    rw [(parseC_no e).1]
    exact ⟨by decide, by decide, by decide, by decide⟩
  | some c =>
    have e2 : parseCT s = c := by unfold parseCT; rw [e]; rfl
    rw [e2]
    unfold parseC at e
    split at e
    · exact cl_small (parseClO_spec e).1
    · cases e
end Go.Proofs.YtognkaebiafgbaaGreatDoor

namespace Go.Proofs.YtognkaebiafgbaaGreatDoor
open Go.RowKit
set_option linter.unusedVariables false
def PrBO (cs : List Cl) (b : Bool) (w : World) (e : Ending) (w' : World) : Prop := ∃ a c, e = .returned (.tuple #[.slice a cs.length c, .bool b]) ∧ OwnP (fun k => w.heap.size ≤ k) cs (.slice a cs.length c) w' ∧ Ext w w'
noncomputable def linesPr (ls : List (List UInt8)) : Option (List Cl) := if ls.length ≤ 21 ∧ ls.getLast? = some [] then mapO (fun x => parseC (bs x)) ls.dropLast else none
theorem linesPr_no1 {ls : List (List UInt8)} (h : 21 < ls.length) : linesPr ls = none := by
  unfold linesPr
  rw [if_neg]
  rintro ⟨h1, _⟩
  omega
theorem linesPr_no2 {ls : List (List UInt8)} {x : List UInt8} (h : ls[ls.length - 1]? = some x) (hx : x ≠ []) : linesPr ls = none := by
  unfold linesPr
  rw [if_neg]
  rintro ⟨_, h2⟩
  rw [List.getLast?_eq_getElem?, h] at h2
  exact hx (Option.some.inj h2)
theorem linesPr_no3 {ls : List (List UInt8)} {j : Nat} {x : List UInt8} (hj : j + 1 < ls.length) (h : ls[j]? = some x) (hx : parseC (bs x) = none) : linesPr ls = none := by
  unfold linesPr
  split
  · refine mapO_none (j := j) (x := x) ?_ hx
    rw [List.dropLast_eq_take, List.getElem?_take, if_pos (by omega)]
    exact h
  · rfl
theorem linesPr_yes {ls : List (List UInt8)} {cs : List Cl} (h1 : ls.length ≤ 21) (h2 : ls[ls.length - 1]? = some []) (h3 : mapO (fun x => parseC (bs x)) (ls.take (ls.length - 1)) = some cs) : linesPr ls = some cs := by
  unfold linesPr
  rw [if_pos ⟨h1, by rw [List.getLast?_eq_getElem?, h2]⟩, List.dropLast_eq_take]
  exact h3
theorem cut_line : ∀ (l x : List UInt8), x ∈ cutL l → x.length ≤ l.length
  | [], x, h => by simp [cutL] at h; subst h; simp
  | b :: l, x, h => by
    rw [cutL] at h
    split at h
    · rcases List.mem_cons.1 h with rfl | h
      · simp
      · have := cut_line l x h; simp only [List.length_cons]; omega
    · rcases List.mem_cons.1 h with rfl | h
      · have hm : (cutL l).headD [] ∈ cutL l := by
          cases e : cutL l with
          | nil => exact absurd e (cutL_ne l)
          | cons y ys => simp
        have := cut_line l _ hm
        simp only [List.length_cons]; omega
      · have := cut_line l x (List.mem_of_mem_tail h); simp only [List.length_cons]; omega
theorem pr_none {s : ByteArray} (h : linesPr (cutL s.toList) = none) : parsePT s = [] ∧ parsePB s = false := by
  have e : parsePr s.toList = none := h
  exact ⟨by unfold parsePT; rw [e]; rfl, by unfold parsePB; rw [e]; rfl⟩
theorem pr_some {s : ByteArray} {cs : List Cl} (h : linesPr (cutL s.toList) = some cs) : parsePT s = cs ∧ parsePB s = true := by
  have e : parsePr s.toList = some cs := h
  exact ⟨by unfold parsePT; rw [e]; rfl, by unfold parsePB; rw [e]; rfl⟩
theorem line_no {x : ByteArray} (h : parseC x = none) : parseCT x = zCl ∧ parseCB x = false := parseC_no h
theorem line_yes {x : ByteArray} {c : Cl} (h : parseC x = some c) : parseCT x = c ∧ parseCB x = true := ⟨by unfold parseCT; rw [h]; rfl, by unfold parseCB; rw [h]; rfl⟩
theorem line_small {x : ByteArray} {c : Cl} (h : parseC x = some c) : c.body.length ≤ 1048576 := by
  have := (parse_small x).2.2.2
  rw [(line_yes h).1] at this
  exact this
end Go.Proofs.YtognkaebiafgbaaGreatDoor

namespace Go.Proofs.YtognkaebiafgbaaGreatDoor
open Go.RowKit
set_option linter.unusedVariables false
theorem dig_bd {c : UInt8} (h : digitB c = true) : 48 ≤ c.toNat ∧ c.toNat ≤ 57 := by simpa [digitB] using h
theorem pu_snoc : ∀ (l : List UInt8) (acc v : Nat) (c : UInt8), Lib.parseUint10 acc l = .ok v → digitB c = true → v < 1000 → Lib.parseUint10 acc (l ++ [c]) = .ok (v * 10 + (c.toNat - 48))
  | [], acc, v, c, h, hc, hv => by
    simp only [Lib.parseUint10] at h
    injection h with h
    subst h
    have := dig_bd hc
    simp only [List.nil_append, Lib.parseUint10]
    rw [if_pos this, if_neg (by omega), if_neg (by omega)]
  | d :: l, acc, v, c, h, hc, hv => by
    simp only [Lib.parseUint10] at h
    simp only [List.cons_append, Lib.parseUint10]
    split at h
    · rename_i h1
      split at h
      · cases h
      · rename_i h2
        split at h
        · cases h
        · rename_i h3
          rw [if_pos h1, if_neg h2, if_neg h3]
          exact pu_snoc l _ v c h hc hv
    · cases h
theorem pu_dec : ∀ (m u : Nat), u ≤ m → u ≤ 999 → Lib.parseUint10 0 (Lib.decDigits u) = .ok u
  | m, u, hm, hu => by
    by_cases h : u < 10
    · rw [Lib.decDigits_one h]
      have hd := dig_nat h
      have hdd : digitB (UInt8.ofNat (48 + u)) = true := by simp only [digitB, decide_eq_true_eq]; rw [hd]; omega
      have := pu_snoc [] 0 0 (UInt8.ofNat (48 + u)) rfl hdd (by omega)
      rw [hd] at this
      rw [List.nil_append] at this
      rw [show UInt8.ofNat (48 + u) = 48 + UInt8.ofNat u by simp] at this
      simpa using this
    · cases m with
      | zero => omega
      | succ m =>
        have ih := pu_dec m (u / 10) (by omega) (by omega)
        have hd := dig_nat (Nat.mod_lt u (show 0 < 10 by omega))
        have hdd : digitB (UInt8.ofNat (48 + u % 10)) = true := by
          simp only [digitB, decide_eq_true_eq]; rw [hd]
          have := Nat.mod_lt u (show 0 < 10 by omega)
          omega
        have := pu_snoc _ 0 _ (UInt8.ofNat (48 + u % 10)) ih hdd (by omega)
        rw [hd] at this
        rw [Lib.decDigits, dif_neg h]
        rw [this]
        congr 1
        omega
theorem pu_dig : ∀ (l : List UInt8) (acc : Nat), (∀ c ∈ l, digitB c = true) → Lib.parseUint10 acc l = .range ∨ ∃ u, Lib.parseUint10 acc l = .ok u
  | [], acc, _ => .inr ⟨acc, rfl⟩
  | c :: l, acc, h => by
    have hc := dig_bd (h c (by simp))
    simp only [Lib.parseUint10]
    rw [if_pos hc]
    split
    · exact .inl rfl
    · split
      · exact .inl rfl
      · exact pu_dig l _ (fun x hx => h x (by simp [hx]))
theorem atoi_itoa {n : Int} (h0 : -999 ≤ n) (h1 : n ≤ 999) : Lib.atoiAll (Lib.itoa n) = .ok n := by
  unfold Lib.itoa
  split
  · rename_i hn
    rw [Lib.atoiAll_minus]
    unfold Lib.parseMag
    rw [if_neg (dec_ne _), pu_dec _ _ (Nat.le_refl _) (by omega)]
    simp only [Lib.signed]
    rw [if_neg (by omega)]
    congr 1
    omega
  · cases h : Lib.decDigits n.toNat with
    | nil => exact absurd h (dec_ne _)
    | cons c l =>
      have hc := dig_bd (dec_digits _ _ (Nat.le_refl n.toNat) c (by rw [h]; simp))
      rw [Lib.atoiAll_plain c l (by omega) (by omega), ← h]
      unfold Lib.parseMag
      rw [if_neg (dec_ne _), pu_dec _ _ (Nat.le_refl _) (by omega)]
      simp only [Lib.signless]
      rw [if_neg (by omega)]
      congr 1
      omega
theorem atoi_numeral {b : UInt8} {l : List UInt8} (hb : digitB b = true ∨ (b = 45 ∧ l ≠ [])) (hl : ∀ c ∈ l, digitB c = true) : Lib.atoiAll (b :: l) = .range ∨ ∃ v, Lib.atoiAll (b :: l) = .ok v := by
  rcases hb with hb | ⟨rfl, hne⟩
  · have hc := dig_bd hb
    rw [Lib.atoiAll_plain b l (by omega) (by omega)]
    unfold Lib.parseMag
    rw [if_neg (by simp)]
    rcases pu_dig (b :: l) 0 (fun c h => by rcases List.mem_cons.1 h with h | h; rw [h]; exact hb; exact hl c h) with h | ⟨u, h⟩
    · rw [h]; exact .inl rfl
    · rw [h]
      simp only [Lib.signless]
      split
      · exact .inl rfl
      · exact .inr ⟨_, rfl⟩
  · rw [Lib.atoiAll_minus]
    unfold Lib.parseMag
    rw [if_neg hne]
    rcases pu_dig l 0 hl with h | ⟨u, h⟩
    · rw [h]; exact .inl rfl
    · rw [h]
      simp only [Lib.signed]
      split
      · exact .inl rfl
      · exact .inr ⟨_, rfl⟩
theorem numO_range {ds : List UInt8} (h : Lib.atoiAll ds = .range) : numO ds = none := by
  cases e : numO ds with
  | none => rfl
  | some n =>
    obtain ⟨h0, h1, h2⟩ := numO_some e
    rw [← h2, atoi_itoa h0 h1] at h
    cases h
theorem numO_ok {ds : List UInt8} {v : Int} (h : Lib.atoiAll ds = .ok v) : numO ds = if Lib.itoa v = ds ∧ -999 ≤ v ∧ v ≤ 999 then some v else none := by
  split
  · rename_i hc
    rw [← hc.1]
    exact numO_itoa hc.2.1 hc.2.2
  · rename_i hc
    cases e : numO ds with
    | none => rfl
    | some n =>
      obtain ⟨h0, h1, h2⟩ := numO_some e
      have := atoi_itoa h0 h1
      rw [h2, h] at this
      injection this with this
      exact absurd ⟨by rw [this]; exact h2, by omega, by omega⟩ hc
end Go.Proofs.YtognkaebiafgbaaGreatDoor

namespace Go.Proofs.YtognkaebiafgbaaGreatDoor
open Go.RowKit
set_option linter.unusedVariables false
def zT : Tm := .mk 0 0 ⟨#[]⟩ []
def nextB : Option (List UInt8) → UInt8
  | some (b :: _) => b
  | _ => 0
def RdW (rb : Nat) (s : ByteArray) (o : Bool) (X : Option (List UInt8)) (w : World) : Prop :=
  ∃ i bad : Int, BoxT w rb (.string s) (.int .i64 i) (.int .i64 bad) (.bool o) ∧ (∀ r, X = some r → bad = -1 ∧ 0 ≤ i ∧ i ≤ s.size ∧ s.toList.drop i.toNat = r) ∧ (X = none → 0 ≤ bad)
theorem RdW.good {rb : Nat} {s : ByteArray} {o : Bool} {r : List UInt8} {w : World} (h : RdW rb s o (some r) w) : ∃ n : Nat, n ≤ s.size ∧ s.toList.drop n = r ∧ BoxT w rb (.string s) (.int .i64 n) (.int .i64 (-1)) (.bool o) := by
  obtain ⟨i, bad, hb, h1, _⟩ := h
  obtain ⟨rfl, h2, h3, h4⟩ := h1 r rfl
  obtain ⟨n, rfl⟩ := Int.eq_ofNat_of_zero_le h2
  exact ⟨n, by omega, by simpa using h4, hb⟩
theorem RdW.mk {rb : Nat} {s : ByteArray} {o : Bool} {r : List UInt8} {w : World} {n : Nat} (h1 : n ≤ s.size) (h2 : s.toList.drop n = r) (h3 : BoxT w rb (.string s) (.int .i64 n) (.int .i64 (-1)) (.bool o)) : RdW rb s o (some r) w := by
  refine ⟨n, -1, h3, ?_, ?_⟩
  · intro q e; cases e; exact ⟨rfl, by omega, by omega, by simpa using h2⟩
  · intro e; cases e
theorem RdW.bad {rb : Nat} {s : ByteArray} {o : Bool} {w : World} (h : RdW rb s o none w) : ∃ i bad : Int, 0 ≤ bad ∧ BoxT w rb (.string s) (.int .i64 i) (.int .i64 bad) (.bool o) := by
  obtain ⟨i, bad, hb, _, h1⟩ := h
  exact ⟨i, bad, h1 rfl, hb⟩
theorem RdW.mkBad {rb : Nat} {s : ByteArray} {o : Bool} {w : World} {i bad : Int} (h : 0 ≤ bad) (hb : BoxT w rb (.string s) (.int .i64 i) (.int .i64 bad) (.bool o)) : RdW rb s o none w := by
  refine ⟨i, bad, hb, ?_, fun _ => h⟩
  intro q e; cases e
theorem RdW.lt {rb : Nat} {s : ByteArray} {o : Bool} {X : Option (List UInt8)} {w : World} (h : RdW rb s o X w) : rb < w.heap.size := by
  obtain ⟨i, bad, hb, _⟩ := h
  exact hb.lt
theorem RdW.fr {M : Nat → Prop} {rb : Nat} {s : ByteArray} {o : Bool} {X : Option (List UInt8)} {w w' : World} (h : RdW rb s o X w) (f : Fr M w w') (hm : ¬ M rb) : RdW rb s o X w' := by
  obtain ⟨i, bad, hb, h1⟩ := h
  exact ⟨i, bad, hb.fr f hm, h1⟩
theorem RdW.ext {rb : Nat} {s : ByteArray} {o : Bool} {X : Option (List UInt8)} {w w' : World} (h : RdW rb s o X w) (e : Ext w w') : RdW rb s o X w' := h.fr (M := fun _ => False) (Fr.of_ext e) (fun h => h)
theorem BoxT.set2 {w : World} {b : Nat} {v0 v1 v2 v3 : Value} (h : BoxT w b v0 v1 v2 v3) (u : Value) : BoxT (w.setCell ⟨b, 2, none⟩ u) b v0 v1 u v3 := by
  obtain ⟨c0, c1, c2, c3, f0, f1, f2, f3⟩ := h
  exact ⟨cell_off (by decide) c0, cell_off (by decide) c1, cell_same c2, cell_off (by decide) c3, by rw [World.frozen?_setCell]; exact f0, by rw [World.frozen?_setCell]; exact f1, by rw [World.frozen?_setCell]; exact f2, by rw [World.frozen?_setCell]; exact f3⟩
theorem BoxT.setAt {w : World} {b : Nat} {v0 v1 v2 v3 : Value} (h : BoxT w b v0 v1 v2 v3) (u : Value) : BoxT (w.setCell ⟨b, 1, none⟩ u) b v0 u v2 v3 := by
  obtain ⟨c0, c1, c2, c3, f0, f1, f2, f3⟩ := h
  exact ⟨cell_off (by decide) c0, cell_same c1, cell_off (by decide) c2, cell_off (by decide) c3, by rw [World.frozen?_setCell]; exact f0, by rw [World.frozen?_setCell]; exact f1, by rw [World.frozen?_setCell]; exact f2, by rw [World.frozen?_setCell]; exact f3⟩
def RdTm (rb : Nat) (s : ByteArray) (o : Bool) (X : Option (Tm × List UInt8)) (w : World) (e : Ending) (w' : World) : Prop :=
  ∃ t a c, e = .returned (.agg #[.int .i64 t.kind, .int .i64 t.n, .string t.name, .slice a t.kids.length c]) ∧ Tm.own (fun b => w.heap.size ≤ b) w' t (.slice a t.kids.length c) ∧ Fr (fun k => k = rb) w w' ∧ RdW rb s o (X.map Prod.snd) w' ∧ (∀ u r, X = some (u, r) → t = u)
theorem tm_zero {rb : Nat} {s : ByteArray} {o : Bool} {w Y : World} {e : Ending} (he : e = .returned (.agg #[.int .i64 0, .int .i64 0, .string ⟨#[]⟩, .slice none 0 0])) (f : Fr (fun k => k = rb) w Y) (hr : RdW rb s o none Y) : RdTm rb s o none w e Y :=
  ⟨zT, none, 0, he, own_nil _ _ _ _ _ (by decide), f, hr, fun u r h => by cases h⟩
set_option maxRecDepth 100000 in
set_option maxHeartbeats 1000000 in
theorem implstop {rb : Nat} {s : ByteArray} {o : Bool} {X : Option (List UInt8)} {n : Int} {w : World} (hn : 0 ≤ n) (h : RdW rb s o X w) :
    Calls Tryz.prog 105 #[.pointer (some ⟨rb, 0, none⟩), .int .i64 n] w (RdTm rb s o none w) := by
  obtain ⟨i, bad, hb, _, _⟩ := h
  have hlt := hb.lt
  have HB := Lib.hid hb
  obtain ⟨c0, c1, c2, c3, f0, f1, f2, f3⟩ := hb
  by_cases hbad : bad < 0
  · go_enter Tryz.func105, Tryz.ntmps105
    go_wp2_with fail
    refine ret4 (p := 4) (T := 25) (b := w.heap.size) (v0 := .int .i64 0) (v1 := .int .i64 0) (v2 := .string ⟨#[]⟩) (v3 := .slice none 0 0) (by kernel_rfl) (fun _ => by kernel_rfl) (fun _ => by kernel_rfl) rfl rfl (by go_simp) (by go_simp) (by go_simp) (by go_simp) ?_
    exact tm_zero rfl ((Fr.setCell (M := fun k => k = rb) _ rfl).trans (Fr.alloc _ _)) (RdW.mkBad hn ((HB.out.set2 _).ext (Ext.alloc _ _)))
  · go_enter Tryz.func105, Tryz.ntmps105
    go_wp2_with fail
    refine ret4 (p := 4) (T := 25) (b := w.heap.size) (v0 := .int .i64 0) (v1 := .int .i64 0) (v2 := .string ⟨#[]⟩) (v3 := .slice none 0 0) (by kernel_rfl) (fun _ => by kernel_rfl) (fun _ => by kernel_rfl) rfl rfl (by go_simp) (by go_simp) (by go_simp) (by go_simp) ?_
    exact tm_zero rfl (Fr.alloc _ _) (RdW.mkBad (by omega) (HB.out.ext (Ext.alloc _ _)))
theorem implstop' {rb : Nat} {s : ByteArray} {o : Bool} {X : Option (List UInt8)} {w : World} {i bad : Int} (h : RdW rb s o X w) (hb : BoxT w rb (.string s) (.int .i64 i) (.int .i64 bad) (.bool o)) (hi : bad = -1 ∧ 0 ≤ i ∨ 0 ≤ bad) :
    Calls Tryz.prog 105 #[.pointer (some ⟨rb, 0, none⟩), .int .i64 i] w (RdTm rb s o none w) := by
  rcases hi with ⟨_, hi⟩ | hbad
  · exact implstop hi h
  · have hlt := hb.lt
    have HB := Lib.hid hb
    obtain ⟨c0, c1, c2, c3, f0, f1, f2, f3⟩ := hb
    go_enter Tryz.func105, Tryz.ntmps105
    go_wp2_with fail
    refine ret4 (p := 4) (T := 25) (b := w.heap.size) (v0 := .int .i64 0) (v1 := .int .i64 0) (v2 := .string ⟨#[]⟩) (v3 := .slice none 0 0) (by kernel_rfl) (fun _ => by kernel_rfl) (fun _ => by kernel_rfl) rfl rfl (by go_simp) (by go_simp) (by go_simp) (by go_simp) ?_
    exact tm_zero rfl (Fr.alloc _ _) (RdW.mkBad (by omega) (HB.out.ext (Ext.alloc _ _)))
theorem drop_cons {s : ByteArray} {n : Nat} {b : UInt8} {r : List UInt8} (h : s.toList.drop n = b :: r) : ∃ hl : n < s.size, s[n] = b ∧ s.toList.drop (n + 1) = r := by
  have hl : n < s.toList.length := by
    apply Decidable.byContradiction
    intro hn
    rw [List.drop_eq_nil_of_le (by omega)] at h
    cases h
  have h2 := h
  rw [List.drop_eq_getElem_cons hl] at h2
  injection h2 with h3 h4
  rw [bl_len] at hl
  exact ⟨hl, by rw [← bl_get s n hl]; exact h3, h4⟩
theorem drop_nil {s : ByteArray} {n : Nat} (h : s.toList.drop n = []) : s.size ≤ n := by
  have := List.drop_eq_nil_iff.1 h
  rwa [bl_len] at this
set_option maxRecDepth 100000 in
set_option maxHeartbeats 1000000 in
theorem implnext {rb : Nat} {s : ByteArray} {o : Bool} {X : Option (List UInt8)} {w : World} (hs : s.size ≤ 4000) (h : RdW rb s o X w) :
    Calls Tryz.prog 58 #[.pointer (some ⟨rb, 0, none⟩)] w fun e w' => e = .returned (.int .u8 (nextB X).toNat) ∧ Ext w w' := by
  have hlt := h.lt
  cases X with
  | none =>
    obtain ⟨i, bad, hbad, hb⟩ := h.bad
    clear h
    obtain ⟨c0, c1, c2, c3, _⟩ := hb
    have k0 := cell_regrown c0
    have k1 := cell_regrown c1
    have k2 := cell_regrown c2
    go_enter Tryz.func58, Tryz.ntmps58
    go_wp2_with fail
    refine region_ext (by kernel_rfl) (by kernel_rfl) ?_
    repeat (go_big_quiet_step (fail))
    refine wpQuiet_nil ?_
    intro w1 e1
    go_wp2_with fail
    go_ret
    exact ⟨rfl, e1⟩
  | some r =>
    obtain ⟨n, h1, h2, hb⟩ := h.good
    clear h
    obtain ⟨c0, c1, c2, c3, _⟩ := hb
    have k0 := cell_regrown c0
    have k1 := cell_regrown c1
    have k2 := cell_regrown c2
    cases r with
    | nil =>
      have h3 := drop_nil h2
      clear h2
      go_enter Tryz.func58, Tryz.ntmps58
      go_wp2_with fail
      refine region_ext (by kernel_rfl) (by kernel_rfl) ?_
      repeat (go_big_quiet_step (fail))
      refine wpQuiet_nil ?_
      intro w1 e1
      go_wp2_with fail
      go_ret
      exact ⟨rfl, e1⟩
    | cons b r =>
      obtain ⟨h3, h4, _⟩ := drop_cons h2
      have H4 := Lib.hid h4
      clear h2 h4
      go_enter Tryz.func58, Tryz.ntmps58
      go_wp2_with fail
      refine region_ext (by kernel_rfl) (by kernel_rfl) ?_
      repeat (go_big_quiet_step (fail))
      refine wpQuiet_nil ?_
      intro w1 e1
      have d0 := e1.cell c0
      have d1 := e1.cell c1
      have k0 := cell_regrown d0
      have k1 := cell_regrown d1
      go_wp2_with fail
      refine region_ext (by kernel_rfl) (by kernel_rfl) ?_
      repeat (go_big_quiet_step (fail))
      refine wpQuiet_nil ?_
      intro w2 e2
      go_wp2_with fail
      go_ret
      exact ⟨by rw [← H4.out]; rfl, e1.trans e2⟩
def skipX (b : UInt8) : Option (List UInt8) → Option (List UInt8)
  | some (c :: r) => if c = b then some r else none
  | _ => none
theorem skip_no {b : UInt8} {X : Option (List UInt8)} (h : nextB X ≠ b) : skipX b X = none := by
  cases X with
  | none => rfl
  | some r =>
    cases r with
    | nil => rfl
    | cons c r =>
      have : ¬ c = b := h
      simp only [skipX, if_neg this]
theorem next_yes {b : UInt8} {X : Option (List UInt8)} (hb : b ≠ 0) (h : nextB X = b) : ∃ r, X = some (b :: r) := by
  cases X with
  | none => exact absurd h.symm hb
  | some r =>
    cases r with
    | nil => exact absurd h.symm hb
    | cons c r => exact ⟨r, by rw [← h]; rfl⟩
theorem u8_beq (a b : UInt8) : ((a.toNat : Int) == (b.toNat : Int)) = decide (a = b) := by
  rw [Bool.eq_iff_iff]
  simp only [beq_iff_eq, decide_eq_true_eq]
  constructor
  · intro h; exact UInt8.toNat_inj.1 (by omega)
  · rintro rfl; rfl
theorem RdW.step {rb : Nat} {s : ByteArray} {o : Bool} {w : World} {n : Nat} {b : UInt8} {r : List UInt8} (hb : BoxT w rb (.string s) (.int .i64 n) (.int .i64 (-1)) (.bool o)) (h : s.toList.drop n = b :: r) {u : Value} (hu : u = .int .i64 ((n : Int) + 1)) : RdW rb s o (some r) (w.setCell ⟨rb, 1, none⟩ u) := by
  subst hu
  obtain ⟨h1, _, h2⟩ := drop_cons h
  exact RdW.mk (n := n + 1) (by omega) h2 (hb.setAt _)
set_option maxRecDepth 100000 in
set_option maxHeartbeats 1000000 in
theorem implskip {rb : Nat} {s : ByteArray} {o : Bool} {X : Option (List UInt8)} {b : UInt8} {m : Int} {w : World} (hs : s.size ≤ 4000) (hb0 : b ≠ 0) (hm : m = b.toNat) (h : RdW rb s o X w) :
    Calls Tryz.prog 59 #[.pointer (some ⟨rb, 0, none⟩), .int .u8 m] w fun e w' => (∃ v, e = .returned v) ∧ Fr (fun k => k = rb) w w' ∧ RdW rb s o (skipX b X) w' := by
  subst hm
  have hlt := h.lt
  have H := Lib.hid h
  have heq := u8_beq (nextB X) b
  by_cases hc : nextB X = b
  · obtain ⟨r, rfl⟩ := next_yes hb0 hc
    rw [decide_eq_true hc] at heq
    obtain ⟨n, h1, h2, hb⟩ := h.good
    have HB := Lib.hid hb
    have H2 := Lib.hid h2
    clear h h2 hb hc
    go_enter Tryz.func59, Tryz.ntmps59
    go_wp2_with fail
    refine (implnext hs H.out).mono ?_
    rintro e w1 ⟨rfl, e1⟩
    have hb1 := HB.out.ext e1
    have HB1 := Lib.hid hb1
    obtain ⟨c0, c1, c2, c3, f0, f1, f2, f3⟩ := hb1
    go_wp2_with fail
    go_end0
    refine ⟨⟨_, rfl⟩, (Fr.of_ext e1).trans (Fr.setCell (M := fun k => k = rb) _ rfl), ?_⟩
    rw [show skipX b (some (b :: r)) = some r by simp [skipX]]
    exact RdW.step HB1.out H2.out rfl
  · rw [decide_eq_false hc] at heq
    have HS := Lib.hid (skip_no hc)
    clear hc
    obtain ⟨i, bad, hb, hgood, hbad⟩ := h
    have hi : bad = -1 ∧ 0 ≤ i ∨ 0 ≤ bad := by
      cases X with
      | none => exact .inr (hbad rfl)
      | some r => exact .inl ⟨(hgood r rfl).1, (hgood r rfl).2.1⟩
    have HB := Lib.hid hb
    clear hgood hbad hb
    go_enter Tryz.func59, Tryz.ntmps59
    go_wp2_with fail
    refine (implnext hs H.out).mono ?_
    rintro e w1 ⟨rfl, e1⟩
    have hb1 := HB.out.ext e1
    have HB1 := Lib.hid hb1
    have H1 := Lib.hid (H.out.ext e1)
    obtain ⟨c0, c1, c2, c3, f0, f1, f2, f3⟩ := hb1
    go_wp2_with fail
    refine (implstop' H1.out HB1.out hi).mono ?_
    rintro e w2 ⟨t, a, c, rfl, _, f2, h2, _⟩
    go_wp2_with fail
    refine bodyPost_ret (results_none rfl _ _ _) rfl ?_
    exact ⟨⟨_, rfl⟩, (Fr.of_ext e1).trans f2, by rw [HS.out]; exact h2⟩
end Go.Proofs.YtognkaebiafgbaaGreatDoor

namespace Go.Proofs.YtognkaebiafgbaaGreatDoor
open Go.RowKit
set_option linter.unusedVariables false
set_option maxRecDepth 100000 in
theorem rdisDigit (b : UInt8) (w : World) : Calls Tryz.prog 173 #[.int .u8 b.toNat] w fun e w' => e = .returned (.bool (digitB b)) ∧ Ext w w' := by
  by_cases h1 : (48 : Int) ≤ b.toNat
  · by_cases h2 : (b.toNat : Int) ≤ 57
    · have HF := Lib.hid (show digitB b = true by simp [digitB]; omega)
      go_enter Tryz.func173, Tryz.ntmps173
      go_wp2_with fail
      go_ret
      exact ⟨retB HF.out.symm, Ext.refl _⟩
    · have HF := Lib.hid (show digitB b = false by simp [digitB]; omega)
      go_enter Tryz.func173, Tryz.ntmps173
      go_wp2_with fail
      go_ret
      exact ⟨retB HF.out.symm, Ext.refl _⟩
  · have HF := Lib.hid (show digitB b = false by simp [digitB]; omega)
    go_enter Tryz.func173, Tryz.ntmps173
    go_wp2_with fail
    go_ret
    exact ⟨retB HF.out.symm, Ext.refl _⟩
set_option maxRecDepth 100000 in
set_option maxHeartbeats 4000000 in
theorem implisNumber {rb : Nat} {s : ByteArray} {o : Bool} {b : UInt8} {r : List UInt8} {w : World} (hs : s.size ≤ 4000) (h : RdW rb s o (some (b :: r)) w) :
    Calls Tryz.prog 132 #[.pointer (some ⟨rb, 0, none⟩)] w fun e w' => e = .returned (.bool (numStart (b :: r))) ∧ Ext w w' := by
  obtain ⟨n, h1, h2, hb⟩ := h.good
  have H := Lib.hid h
  obtain ⟨h3, _, h4⟩ := drop_cons h2
  have HB := Lib.hid hb
  clear h h2 hb
  cases hd : digitB b
  · by_cases h45 : b = 45
    · have heq : ((b.toNat : Int) == 45) = true := by
        have := u8_beq b 45
        rw [decide_eq_true h45] at this
        exact this
      cases r with
      | nil =>
        have h5 := drop_nil h4
        have hdec : decide ((n : Int) + 1 < (s.size : Int)) = false := decide_eq_false (by omega)
        have HF := Lib.hid (show numStart [b] = false by subst h45; rfl)
        clear h4 h45
        go_enter Tryz.func132, Tryz.ntmps132
        go_wp2_with fail
        refine (implnext hs H.out).mono ?_
        rintro e w1 ⟨rfl, e1⟩
        obtain ⟨c0, c1, c2, c3, _⟩ := HB.out.ext e1
        have k0 := cell_regrown c0
        have k1 := cell_regrown c1
        have cQ := quiet_call (w := w1) (fun w' e' => rdisDigit b w')
        rw [hd] at cQ
        have hN : nextB (some [b]) = b := rfl
        rw [hN]
        go_wp2_with fail
        refine region_ext (by kernel_rfl) (by kernel_rfl) ?_
        repeat (go_big_quiet_step (exact cQ _ _))
        refine wpQuiet_nil ?_
        intro w2 e2
        go_wp2_with fail
        go_ret
        exact ⟨retB HF.out.symm, e1.trans e2⟩
      | cons c r =>
        obtain ⟨h5, h6, h7⟩ := drop_cons h4
        obtain ⟨m, hm⟩ : ∃ m, n + 1 = m := ⟨_, rfl⟩
        have hdec : decide ((m : Int) < (s.size : Int)) = true := decide_eq_true (by omega)
        have em : (n : Int) = (m : Int) - 1 := by omega
        have e11 : (m : Int) - 1 + 1 = (m : Int) := by omega
        have h5m : m < s.size := by omega
        have HF := Lib.hid (show numStart (b :: c :: r) = digitB s[m] by subst hm; rw [h6]; subst h45; rfl)
        clear h4 h6 h7 h45
        go_enter Tryz.func132, Tryz.ntmps132
        go_wp2_with fail
        refine (implnext hs H.out).mono ?_
        rintro e w1 ⟨rfl, e1⟩
        obtain ⟨c0, c1, c2, c3, _⟩ := HB.out.ext e1
        rw [em] at c1
        have k0 := cell_regrown c0
        have k1 := cell_regrown c1
        have cQ := quiet_call (w := w1) (fun w' e' => rdisDigit b w')
        have cR := quiet_call (w := w1) (fun w' e' => rdisDigit s[m] w')
        rw [hd] at cQ
        have hN : nextB (some (b :: c :: r)) = b := rfl
        rw [hN]
        go_wp2_with fail
        refine region_ext (by kernel_rfl) (by kernel_rfl) ?_
        repeat (go_big_quiet_step (first | exact cQ _ _ | exact cR _ _))
        refine wpQuiet_nil ?_
        intro w2 e2
        go_wp2_with fail
        go_ret
        exact ⟨retB HF.out.symm, e1.trans e2⟩
    · have hne : ((b.toNat : Int) == 45) = false := by
        have := u8_beq b 45
        rw [decide_eq_false h45] at this
        exact this
      have HF := Lib.hid (show numStart (b :: r) = false by
        simp only [numStart, hd, Bool.false_or]
        rw [show (b == 45) = false by simpa using h45]
        rfl)
      clear h4 h45
      go_enter Tryz.func132, Tryz.ntmps132
      go_wp2_with fail
      refine (implnext hs H.out).mono ?_
      rintro e w1 ⟨rfl, e1⟩
      obtain ⟨c0, c1, c2, c3, _⟩ := HB.out.ext e1
      have k0 := cell_regrown c0
      have k1 := cell_regrown c1
      have cQ := quiet_call (w := w1) (fun w' e' => rdisDigit b w')
      rw [hd] at cQ
      have hN : nextB (some (b :: r)) = b := rfl
      rw [hN]
      go_wp2_with fail
      refine region_ext (by kernel_rfl) (by kernel_rfl) ?_
      repeat (go_big_quiet_step (exact cQ _ _))
      refine wpQuiet_nil ?_
      intro w2 e2
      go_wp2_with fail
      go_ret
      exact ⟨retB HF.out.symm, e1.trans e2⟩
  · have HF := Lib.hid (show numStart (b :: r) = true by simp only [numStart, hd, Bool.true_or])
    clear h4
    go_enter Tryz.func132, Tryz.ntmps132
    go_wp2_with fail
    refine (implnext hs H.out).mono ?_
    rintro e w1 ⟨rfl, e1⟩
    obtain ⟨c0, c1, c2, c3, _⟩ := HB.out.ext e1
    have k0 := cell_regrown c0
    have k1 := cell_regrown c1
    have cQ := quiet_call (w := w1) (fun w' e' => rdisDigit b w')
    rw [hd] at cQ
    have hN : nextB (some (b :: r)) = b := rfl
    rw [hN]
    go_wp2_with fail
    refine region_ext (by kernel_rfl) (by kernel_rfl) ?_
    repeat (go_big_quiet_step (exact cQ _ _))
    refine wpQuiet_nil ?_
    intro w2 e2
    go_wp2_with fail
    go_ret
    exact ⟨retB HF.out.symm, e1.trans e2⟩
end Go.Proofs.YtognkaebiafgbaaGreatDoor
