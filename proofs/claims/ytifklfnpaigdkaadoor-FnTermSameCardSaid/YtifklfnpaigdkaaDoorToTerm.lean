/-
  What the mirror's szTerm and toTerm return: the weight of a term against a bound, and a copy of the term in new memory.
-/
import Derived.Test.YtifklfnpaigdkaaDoorLRep
import Derived.Test.YtifklfnpaigdkaaDoorRet
import Derived.Test.YtifklfnpaigdkaaDoorSame
import Derived.WalkLawsBesides
namespace Go.Proofs.YtifklfnpaigdkaaDoor
open Go.RowKit
set_option linter.unusedVariables false

mutual
/-- letters and arguments of a term -/
def Tm.wt : Tm → Nat
  | .mk _ _ s ks => s.size + (ks.length + Tm.wtL ks)
def Tm.wtL : List Tm → Nat
  | [] => 0
  | t :: ts => Tm.wt t + Tm.wtL ts
end
/-- what is left of a bound -/
def leftF (w : Nat) (l : Nat) : Int := if w ≤ l then (l : Int) - w else -1
theorem leftF_yes {w l : Nat} (h : w ≤ l) : leftF w l = ((l - w : Nat) : Int) := by unfold leftF; rw [if_pos h]; omega
theorem leftF_no {w l : Nat} (h : ¬ w ≤ l) : leftF w l = -1 := by unfold leftF; rw [if_neg h]

theorem wtL_take {ts : List Tm} {k : Nat} {t : Tm} (h : ts[k]? = some t) : Tm.wtL (ts.take (k + 1)) = Tm.wtL (ts.take k) + Tm.wt t := by
  induction ts generalizing k with
  | nil => simp at h
  | cons t0 ts ih =>
    cases k with
    | zero => simp at h; subst h; simp [Tm.wtL]
    | succ k =>
      have := ih (k := k) (by simpa using h)
      simp only [List.take_succ_cons, Tm.wtL]
      omega
theorem wtL_take_le : ∀ (ts : List Tm) (k : Nat), Tm.wtL (ts.take k) ≤ Tm.wtL ts
  | [], k => by simp
  | t :: ts, 0 => by simp [Tm.wtL]
  | t :: ts, k + 1 => by have := wtL_take_le ts k; simp only [List.take_succ_cons, Tm.wtL]; omega
theorem wtL_full {ts : List Tm} {k : Nat} (h : ts.length ≤ k) : Tm.wtL (ts.take k) = Tm.wtL ts := by rw [List.take_of_length_le h]

/-- one element of a row of the mirror's terms, read -/
theorem lget {S : Nat → Prop} {w wr : World} {ts : List Tm} {a : Option Addr} {k : Nat} {t : Tm}
    (h : ts = [] ∨ ∃ b off, a = some ⟨b, off, none⟩ ∧ S b ∧ Lt.row S w b off ts) (ht : ts[k]? = some t) (he : Ext w wr) :
    ∃ b off ak ck, a = some ⟨b, off, none⟩ ∧
      wr.cell? ⟨b, off + k * 4, none⟩ = some (.int .i64 t.kind) ∧ wr.cell? ⟨b, off + k * 4 + 1, none⟩ = some (.int .i64 t.n) ∧ wr.cell? ⟨b, off + k * 4 + 2, none⟩ = some (.string t.name) ∧
        wr.cell? ⟨b, off + k * 4 + 3, none⟩ = some (.slice ak t.kids.length ck) ∧ Lt.at S w t (.agg #[.int .i64 t.kind, .int .i64 t.n, .string t.name, .slice ak t.kids.length ck]) := by
  rcases h with h4 | ⟨b, off, rfl, hSb, hrow⟩
  · rw [h4] at ht; simp at ht
  obtain ⟨ak, ck, c1, c2, c3, c4, hat⟩ := Lt.at_of_cells (Lt.row_get hrow k t ht)
  exact ⟨b, off, ak, ck, rfl, he.cell c1, he.cell c2, he.cell c3, he.cell c4, hat⟩

def SzS (ts : List Tm) : Prop := ∀ (v : Value) (l : Nat) (S : Nat → Prop) (w : World), l ≤ 1048576 → Lt.sl S w ts v →
    Calls Tryd.prog 23 #[v, .int .i64 l] w fun e w' => e = .returned (.int .i64 (leftF (ts.length + Tm.wtL ts) l)) ∧ Ext w w'

set_option maxHeartbeats 1000000 in
theorem lawszTerm (t : Tm) (hks : Hid (SzS t.kids)) (v : Value) (l : Nat) (S : Nat → Prop) (w : World) (hl : l ≤ 1048576) (ht : Lt.at S w t v) :
    Calls Tryd.prog 8 #[v, .int .i64 l] w fun e w' => e = .returned (.int .i64 (leftF (Tm.wt t) l)) ∧ Ext w w' := by
  obtain ⟨k, n, s, ks⟩ := t
  obtain ⟨hs1, sv, rfl, hk⟩ := ht
  have HK := Lib.hid hk
  obtain ⟨a, cap, rfl, h1, h2, h3, h4⟩ := hk
  clear h4
  by_cases e1 : s.size ≤ l
  · have hcall := fun w' (e' : Ext w w') => hks.out _ (l - s.size) S w' (by omega) (Lt.sl_ext e' HK.out)
    have hcast : ((l - s.size : Nat) : Int) = (l : Int) - (s.size : Int) := by omega
    by_cases e2 : ks.length + Tm.wtL ks ≤ l - s.size
    · rw [show (Tm.mk k n s ks).kids = ks from rfl, leftF_yes e2, hcast] at hcall
      have hf := Lib.hid (show leftF (Tm.wt (.mk k n s ks)) l = ((l - s.size - (ks.length + Tm.wtL ks) : Nat) : Int) by
        rw [leftF_yes (by simp only [Tm.wt]; omega)]; simp only [Tm.wt]; congr 1; omega)
      generalize l - s.size - (ks.length + Tm.wtL ks) = q at hf hcall
      have HC := Lib.hid hcall
      clear hcall hcast e2
      go_enter Tryd.func8, Tryd.ntmps8
      go_wp2_with fail
      refine (HC.out _ (Ext.alloc _ _)).mono ?_
      rintro e w' ⟨rfl, e'⟩
      go_wp2_with fail
      go_ret
      exact ⟨retI hf.out.symm, (Ext.alloc _ _).trans e'⟩
    · rw [show (Tm.mk k n s ks).kids = ks from rfl, leftF_no e2, hcast] at hcall
      have hf := Lib.hid (show leftF (Tm.wt (.mk k n s ks)) l = -1 by rw [leftF_no]; simp only [Tm.wt]; omega)
      have HC := Lib.hid hcall
      clear hcall hcast e2
      go_enter Tryd.func8, Tryd.ntmps8
      go_wp2_with fail
      refine (HC.out _ (Ext.alloc _ _)).mono ?_
      rintro e w' ⟨rfl, e'⟩
      go_wp2_with fail
      go_ret
      exact ⟨retI hf.out.symm, (Ext.alloc _ _).trans e'⟩
  · have hf := Lib.hid (show leftF (Tm.wt (.mk k n s ks)) l = -1 by rw [leftF_no]; simp only [Tm.wt]; omega)
    go_enter Tryd.func8, Tryd.ntmps8
    go_wp2_with fail
    go_ret
    exact ⟨retI hf.out.symm, Ext.alloc _ _⟩

set_option maxHeartbeats 1000000 in
theorem lawszTermS : ∀ (m : Nat) (ts : List Tm), Tm.szL ts ≤ m → SzS ts := by
  intro m
  induction m using Nat.strongRecOn with
  | _ m ih =>
    intro ts hm v l S w hl ht
    have IH := Lib.hid (show ∀ (j : Nat) (t : Tm), ts[j]? = some t → SzS t.kids from fun j t h => by
      have h1 := Tm.sz_mem h
      have h2 : Tm.szL t.kids < Tm.sz t := by cases t; simp only [Tm.sz, Tm.kids]; omega
      exact ih (Tm.szL t.kids) (by omega) t.kids (Nat.le_refl _))
    clear ih hm
    obtain ⟨a, cap, rfl, h1, h2, h3, h4⟩ := ht
    have H4 := Lib.hid h4
    clear h4
    by_cases e1 : ts.length ≤ l
    · go_enter Tryd.func23, Tryd.ntmps23
      go_wp2_with fail
      go_loopw [1, 5] (fun q i wr => ∃ k r : Nat, k ≤ ts.length ∧ i = .int .i64 k ∧ q = .int .i64 r ∧ r + ts.length + Tm.wtL (ts.take k) = l ∧ Ext w wr) (fun _ i _ => ts.length - (intOf i).toNat)
      case atStart => exact ⟨0, l - ts.length, Nat.zero_le _, rfl, by rw [show ((l - ts.length : Nat) : Int) = (l : Int) - (ts.length : Int) by omega], by simp [Tm.wtL]; omega, Ext.refl _⟩
      case round =>
        obtain ⟨k, r, hk, rfl, rfl, hr, he⟩ := hrel
        have HR := Lib.hid hr
        have hrl : r ≤ 1048576 := by omega
        clear hr
        by_cases hlt : k < ts.length
        · obtain ⟨tk, htk⟩ := getk hlt
          obtain ⟨b, off, ak, ck, rfl, c1, c2, c3, c4, hat⟩ := lget H4.out htk he
          have hcall := fun w' (e' : Ext wr w') => lawszTerm tk (Lib.hid (IH.out k tk htk)) _ r S w' hrl (Lt.at_ext (he.trans e') hat)
          have HT := Lib.hid (wtL_take htk)
          have HG := Lib.hid (wtL_take_le ts (k + 1))
          clear htk hat
          by_cases e2 : Tm.wt tk ≤ r
          · rw [leftF_yes e2] at hcall
            have HC := Lib.hid hcall
            have HF := Lib.hid (show r - Tm.wt tk + ts.length + Tm.wtL (ts.take (k + 1)) = l by have := HT.out; have := HR.out; omega)
            generalize r - Tm.wt tk = q at HF HC
            clear hcall e2
            go_wp2_with fail
            refine (HC.out _ (Ext.refl _)).mono ?_
            rintro e w' ⟨rfl, e'⟩
            go_wp2_with fail
            go_roundw
            case rel => exact ⟨k + 1, q, by omega, by go_num, rfl, HF.out, he.trans e'⟩
            case measure => simp [intOf]; omega
          · rw [leftF_no e2] at hcall
            have HC := Lib.hid hcall
            have hf := Lib.hid (show leftF (ts.length + Tm.wtL ts) l = -1 by rw [leftF_no]; have := HT.out; have := HR.out; have := HG.out; omega)
            clear hcall e2
            go_wp2_with fail
            refine (HC.out _ (Ext.refl _)).mono ?_
            rintro e w' ⟨rfl, e'⟩
            go_wp2_with fail
            go_ret
            exact ⟨retI hf.out.symm, he.trans e'⟩
        · have hf := Lib.hid (show leftF (ts.length + Tm.wtL ts) l = (r : Int) by
            have := HR.out; rw [wtL_full (by omega)] at this; rw [leftF_yes (by omega)]; omega)
          go_wp2_with fail
          go_ret
          exact ⟨retI hf.out.symm, he⟩
    · have hf := Lib.hid (show leftF (ts.length + Tm.wtL ts) l = -1 by rw [leftF_no]; omega)
      go_enter Tryd.func23, Tryd.ntmps23
      go_wp2_with fail
      go_ret
      exact ⟨retI hf.out.symm, Ext.refl _⟩
theorem lawszTerm_any (t : Tm) (v : Value) (l : Nat) (S : Nat → Prop) (w : World) (hl : l ≤ 1048576) (ht : Lt.at S w t v) :
    Calls Tryd.prog 8 #[v, .int .i64 l] w fun e w' => e = .returned (.int .i64 (leftF (Tm.wt t) l)) ∧ Ext w w' :=
  lawszTerm t (Lib.hid (lawszTermS _ _ (Nat.le_refl _))) v l S w hl ht

def ToS (ts : List Tm) : Prop := ∀ (v : Value) (S : Nat → Prop) (w : World), ts.length + Tm.wtL ts ≤ 1048576 → Lt.sl S w ts v →
    Calls Tryd.prog 26 #[v] w fun e w' => ∃ v', e = .returned v' ∧ Tm.sl (fun b => w.heap.size ≤ b) w' ts v' ∧ Ext w w'

set_option maxHeartbeats 1000000 in
theorem lawstoTerm (t : Tm) (hks : Hid (ToS t.kids)) (v : Value) (S : Nat → Prop) (w : World) (hl : Tm.wt t ≤ 1048576) (ht : Lt.at S w t v) :
    Calls Tryd.prog 10 #[v] w fun e w' => ∃ v', e = .returned v' ∧ Tm.at (fun b => w.heap.size ≤ b) w' t v' ∧ Ext w w' := by
  obtain ⟨k, n, s, ks⟩ := t
  simp only [Tm.wt] at hl
  obtain ⟨hs1, sv, rfl, hk⟩ := ht
  have hcall := fun w' (e' : Ext w w') => hks.out _ S w' (by simp only [Tm.kids]; omega) (Lt.sl_ext e' hk)
  have HC := Lib.hid hcall
  obtain ⟨a, cap, rfl, h1, h2, h3, h4⟩ := hk
  clear h4 hcall
  go_enter Tryd.func10, Tryd.ntmps10
  go_wp2_with fail
  refine (HC.out _ (((Ext.alloc _ _).trans (Ext.alloc _ _)).trans (Ext.alloc _ _))).mono ?_
  rintro e w' ⟨v', rfl, hv', e'⟩
  have hsz : w.heap.size + 3 ≤ w'.heap.size := by have := Below.size e'; simp at this; omega
  have b0 := e'.cell (a := ⟨w.heap.size + 2, 0, none⟩) (v := .int .i64 k) (by go_simp)
  have b1 := e'.cell (a := ⟨w.heap.size + 2, 1, none⟩) (v := .int .i64 n) (by go_simp)
  have b2 := e'.cell (a := ⟨w.heap.size + 2, 2, none⟩) (v := .string s) (by go_simp)
  have b3 := e'.cell (a := ⟨w.heap.size + 2, 3, none⟩) (v := .slice none 0 0) (by go_simp)
  have d0 := e'.cell (a := ⟨w.heap.size + 1, 0, none⟩) (v := .int .i64 0) (by go_simp)
  have d1 := e'.cell (a := ⟨w.heap.size + 1, 1, none⟩) (v := .int .i64 0) (by go_simp)
  have d2 := e'.cell (a := ⟨w.heap.size + 1, 2, none⟩) (v := .string ⟨#[]⟩) (by go_simp)
  have d3 := e'.cell (a := ⟨w.heap.size + 1, 3, none⟩) (v := .slice none 0 0) (by go_simp)
  have f3 := e'.frozen (a := ⟨w.heap.size + 2, 3, none⟩) (by simp) (by go_simp)
  have g0 := e'.frozen (a := ⟨w.heap.size + 1, 0, none⟩) (by simp) (by go_simp)
  have g1 := e'.frozen (a := ⟨w.heap.size + 1, 1, none⟩) (by simp) (by go_simp)
  have g2 := e'.frozen (a := ⟨w.heap.size + 1, 2, none⟩) (by simp) (by go_simp)
  have g3 := e'.frozen (a := ⟨w.heap.size + 1, 3, none⟩) (by simp) (by go_simp)
  have E := Lib.hid e'
  have HV := Lib.hid hv'
  obtain ⟨a', cap', rfl, q1, q2, q3, q4⟩ := hv'
  clear e' q4
  go_wp2_with fail
  refine ret4_set (p := 2) (T := 29) (by kernel_rfl) (fun _ => by kernel_rfl) (fun _ => by kernel_rfl) rfl rfl (cell_other (by simp) d0) (cell_other (by simp) d1) (cell_other (by simp) d2) (cell_other (by simp) d3) ?_
  intro X hX
  refine ⟨_, rfl, Tm.at_iff.2 ⟨by simp only [Tm.name]; omega, _, rfl, ?_⟩, ?_⟩
  · refine Tm.sl_mono ?_ ?_ HV.out
    · intro b hb; simp at hb; omega
    · exact (Agree.setCell (by simp)).trans (Agree.grown hX (by simp))
  · exact Ext.grown (w' := World.setCell _ _ _) (Below.setCell ((((Ext.alloc _ _).trans (Ext.alloc _ _)).trans (Ext.alloc _ _)).trans E.out) (by simp; omega) _) hX (by simp)

theorem info_term : (Tryd.prog.info? 29).map (fun i => (i.zero, i.size, i.bytes)) = some (some (.agg #[.int .i64 0, .int .i64 0, .string ⟨#[]⟩, .slice none 0 0]), 4, 56) := by kernel_rfl

set_option maxHeartbeats 1000000 in
theorem lawstoTermS : ∀ (m : Nat) (ts : List Tm), Tm.szL ts ≤ m → ToS ts := by
  intro m
  induction m using Nat.strongRecOn with
  | _ m ih =>
    intro ts hm v S w hl ht
    have IH := Lib.hid (show ∀ (j : Nat) (t : Tm), ts[j]? = some t → ToS t.kids from fun j t h => by
      have h1 := Tm.sz_mem h
      have h2 : Tm.szL t.kids < Tm.sz t := by cases t; simp only [Tm.sz, Tm.kids]; omega
      exact ih (Tm.szL t.kids) (by omega) t.kids (Nat.le_refl _))
    clear ih hm
    obtain ⟨a, cap, rfl, h1, h2, h3, h4⟩ := ht
    have H4 := Lib.hid h4
    clear h4
    obtain ⟨i0, hi, hz0, hz1, hz2⟩ := info_parts info_term
    go_enter Tryd.func26, Tryd.ntmps26
    go_wp2_with (at_make; refine wpList_make_full _ rfl (.tmp 6) (.tmp 6) 27 rfl w.heap.size 29 i0 _ 4 Tryd.underlying27 hi hz0 hz1 .i64 .i64 _ _ ts.length rfl rfl rfl rfl ?c1 ?c2 (Nat.le_refl _) ?_)
    case c1 => rw [hz2]; omega
    case c2 => unfold maxLen; omega
    intro w1 hown hg
    have he1 := Ext.of_grown hg
    have hlt1 : w.heap.size < w1.heap.size := (hown.lt w.heap.size rfl).2
    have HO := Lib.hid hown
    clear hown hg
    go_wp2_with fail
    go_loopw [4] (fun i wr => ∃ (k : Nat) (done rest : List Value), k ≤ ts.length ∧ i = .int .i64 k ∧ Hid (wr.ownsRow w.heap.size 29 4 (.slice (some ⟨w.heap.size, 0, none⟩) ts.length ts.length) ts.length (done ++ rest)) ∧ Tm.flat (fun b => w.heap.size < b) wr (ts.take k) done ∧ Ext w wr ∧ w.heap.size < wr.heap.size) (fun i _ => ts.length - (intOf i).toNat)
    case atStart => exact ⟨0, [], _, Nat.zero_le _, rfl, HO.out, rfl, he1, hlt1⟩
    case round =>
      obtain ⟨k, done, rest, hk, rfl, HOW, hfl, he, hlt1⟩ := hrel
      have HF := Lib.hid hfl
      clear hfl
      by_cases hlt : k < ts.length
      · obtain ⟨tk, htk⟩ := getk hlt
        obtain ⟨b, off, ak, ck, rfl, c1, c2, c3, c4, hat⟩ := lget H4.out htk he
        have hwt : Tm.wt tk ≤ 1048576 := by have := wtL_take htk; have := wtL_take_le ts (k + 1); omega
        have HC := Lib.hid (fun w' (e' : Ext wr w') => lawstoTerm tk (Lib.hid (IH.out k tk htk)) _ S w' hwt (Lt.at_ext (he.trans e') hat))
        have HTK := Lib.hid htk
        have hld : done.length = k * 4 := by have := flat_len HF.out; rw [List.length_take] at this; omega
        have hlr : 4 ≤ rest.length := by have := HOW.out.1; rw [List.length_append] at this; omega
        have HLD := Lib.hid hld
        obtain ⟨u0, u1, u2, u3, r, rfl⟩ := four_of hlr
        clear htk hat hld hlr hwt
        go_wp2_with fail
        refine (HC.out _ (Ext.refl _)).mono ?_
        rintro e wq ⟨vt, rfl, hvt, e'⟩
        obtain ⟨hn1, sv, rfl, a', cap', rfl, q⟩ := Tm.at_iff.1 hvt
        have HOQ := own_ext HOW.out e'
        have HV := Lib.hid hvt
        have o0 : wq.cell? ⟨w.heap.size, k * 4, none⟩ = some u0 := by rw [HOQ.cellAt _ (by omega)]; simp [← HLD.out]
        have o1 : wq.cell? ⟨w.heap.size, k * 4 + 1, none⟩ = some u1 := by rw [HOQ.cellAt _ (by omega)]; simp [← HLD.out]
        have o2 : wq.cell? ⟨w.heap.size, k * 4 + 2, none⟩ = some u2 := by rw [HOQ.cellAt _ (by omega)]; simp [← HLD.out]
        have o3 : wq.cell? ⟨w.heap.size, k * 4 + 3, none⟩ = some u3 := by rw [HOQ.cellAt _ (by omega)]; simp [← HLD.out]
        have f0 := HOQ.frozenAt (k * 4)
        have f1 := HOQ.frozenAt (k * 4 + 1)
        have f2 := HOQ.frozenAt (k * 4 + 2)
        have f3 := HOQ.frozenAt (k * 4 + 3)
        have E := Lib.hid e'
        have HQ := Lib.hid HOQ
        have q4 := Lib.hid q
        clear e' HOQ hvt q
        go_wp2_with fail
        go_roundw
        case rel =>
          obtain ⟨hO, hG⟩ := own_set4 (v0 := .int .i64 tk.kind) (v1 := .int .i64 tk.n) (v2 := .string tk.name) (v3 := .slice a' tk.kids.length cap') HQ.out HLD.out
          have hA : Agree (fun b => w.heap.size < b) wq _ := Agree.grown hG (by simp)
          refine ⟨k + 1, done ++ tcells tk a' cap', r, by omega, by go_num, Lib.hid hO, ?_, Ext.grown (he.trans E.out) hG (by simp), Nat.lt_of_lt_of_le (Nat.lt_of_lt_of_le hlt1 (Below.size E.out)) hG.size⟩
          rw [take_snoc_of HTK.out]
          exact flat_snoc (Tm.at_mono (by intro b hb; omega) hA (Tm.at_mono (S' := fun b => w.heap.size < b) (by intro b hb; omega) (Agree.refl _) HV.out)) (flat_mono (fun _ h => h) ((Agree.of_ext E.out).trans hA) HF.out)
        case measure => simp [intOf]; omega
      · have hkn : k = ts.length := by omega
        subst hkn
        have hf := HF.out
        rw [List.take_of_length_le (Nat.le_refl _)] at hf
        have hrest : rest = [] := by
          have h1 := HOW.out.1
          have h2 := flat_len hf
          rw [List.length_append] at h1
          exact List.eq_nil_of_length_eq_zero (by omega)
        subst hrest
        have hsl := own_sl (by simpa using HOW.out) hf (by omega)
        have HS := Lib.hid (Tm.sl_mono (S' := fun b => w.heap.size ≤ b) (by intro b hb; rcases hb with hb | hb <;> first | omega | (simp [Value.ownBlock] at hb; omega)) (Agree.refl _) hsl)
        clear hf hsl
        go_wp2_with fail
        go_ret
        exact ⟨_, rfl, HS.out, he⟩
theorem lawstoTerm_any (t : Tm) (v : Value) (S : Nat → Prop) (w : World) (hl : Tm.wt t ≤ 1048576) (ht : Lt.at S w t v) :
    Calls Tryd.prog 10 #[v] w fun e w' => ∃ v', e = .returned v' ∧ Tm.at (fun b => w.heap.size ≤ b) w' t v' ∧ Ext w w' :=
  lawstoTerm t (Lib.hid (lawstoTermS _ _ (Nat.le_refl _))) v S w hl ht

end Go.Proofs.YtifklfnpaigdkaaDoor
