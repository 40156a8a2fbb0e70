/-
  The mirror's toTerm makes a term in rows of its own, no row twice.
-/
import Derived.Test.YtifklfnpaigdkaaDoorToTerm
import Derived.Test.YtifklfnpaigdkaaDoorOwn2
namespace Go.Proofs.YtifklfnpaigdkaaDoor
open Go.RowKit
set_option linter.unusedVariables false

mutual
theorem own_bound : ∀ {F : Nat → Prop} {w : World} (t : Tm) (sv : Value), Tm.own F w t sv → Tm.own (fun b => F b ∧ b < w.heap.size) w t sv
  | F, w, .mk k n s ks, sv, h => by
    simp only [Tm.own] at h ⊢
    obtain ⟨h1, h2, xs, h3, h4, h5⟩ := h
    refine ⟨h1, h2, xs, h3, fun g hg => ⟨h4 g hg, (h3.lt g hg).2⟩, ?_⟩
    exact oflat_mono (M := fun _ => False) (fun b hb => ⟨⟨hb.1.1, hb.2⟩, hb.1.2⟩) (Fr.refl _ _) (fun _ _ h => h) _ _ (oflat_bound ks xs h5)
theorem oflat_bound : ∀ {F : Nat → Prop} {w : World} (ts : List Tm) (xs : List Value), Tm.oflat F w ts xs → Tm.oflat (fun b => F b ∧ b < w.heap.size) w ts xs
  | F, w, [], xs, h => by simp only [Tm.oflat] at h ⊢; exact h
  | F, w, t :: ts, xs, h => by
    simp only [Tm.oflat] at h ⊢
    obtain ⟨F1, F2, a, c, rest, h1, h2, h3, h4, h5⟩ := h
    exact ⟨fun b => F1 b ∧ b < w.heap.size, fun b => F2 b ∧ b < w.heap.size, a, c, rest, h1, fun b hb => ⟨⟨(h2 b hb.1).1, hb.2⟩, fun h => (h2 b hb.1).2 h.1⟩, fun b hb => ⟨h3 b hb.1, hb.2⟩, own_bound t _ h4, oflat_bound ts rest h5⟩
end
theorem OwnS.bound {F : Nat → Prop} {w : World} {ts : List Tm} {v : Value} (h : OwnS F ts v w) : OwnS (fun b => F b ∧ b < w.heap.size) ts v w := by
  obtain ⟨xs, h3, h4, h5⟩ := h
  exact ⟨xs, h3, fun g hg => ⟨h4 g hg, (h3.lt g hg).2⟩, oflat_mono (M := fun _ => False) (fun b hb => ⟨⟨hb.1.1, hb.2⟩, hb.1.2⟩) (Fr.refl _ _) (fun _ _ h => h) _ _ (oflat_bound ts xs h5)⟩
theorem OwnS.ext {F : Nat → Prop} {w w' : World} {ts : List Tm} {v : Value} (h : OwnS F ts v w) (e : Ext w w') : OwnS F ts v w' := h.mono (M := fun _ => False) (fun _ h => h) (Fr.of_ext e) (fun _ _ h => h)
theorem own_ext1 {F : Nat → Prop} {w w' : World} {t : Tm} {v : Value} (h : Tm.own F w t v) (e : Ext w w') : Tm.own F w' t v := own_mono (M := fun _ => False) (fun _ h => h) (Fr.of_ext e) (fun _ _ h => h) _ _ h
theorem own_zone {F F' : Nat → Prop} {w : World} {t : Tm} {v : Value} (h : Tm.own F w t v) (hF : ∀ b, F b → F' b) : Tm.own F' w t v := own_mono (M := fun _ => False) hF (Fr.refl _ _) (fun _ _ h => h) _ _ h

def ToSO (ts : List Tm) : Prop := ∀ (v : Value) (S : Nat → Prop) (w : World), ts.length + Tm.wtL ts ≤ 1048576 → Lt.sl S w ts v →
    Calls Tryd.prog 26 #[v] w fun e w' => ∃ a c, e = .returned (.slice a ts.length c) ∧ OwnS (fun b => w.heap.size ≤ b) ts (.slice a ts.length c) w' ∧ Ext w w'
def TmO (t : Tm) (w : World) (e : Ending) (w' : World) : Prop := ∃ a c, e = .returned (.agg #[.int .i64 t.kind, .int .i64 t.n, .string t.name, .slice a t.kids.length c]) ∧ Tm.own (fun b => w.heap.size ≤ b) w' t (.slice a t.kids.length c) ∧ Ext w w'

set_option maxHeartbeats 1000000 in
theorem toTermO (t : Tm) (hks : Hid (ToSO t.kids)) (v : Value) (S : Nat → Prop) (w : World) (hl : Tm.wt t ≤ 1048576) (ht : Lt.at S w t v) :
    Calls Tryd.prog 10 #[v] w (TmO t w) := by
  obtain ⟨k, n, s, ks⟩ := t
  simp only [Tm.wt] at hl
  obtain ⟨hs1, sv, rfl, hk⟩ := ht
  have hcall := fun w' (e' : Ext w w') => hks.out _ S w' (by simp only [Tm.kids]; omega) (Lt.sl_ext e' hk)
  have HC := Lib.hid hcall
  obtain ⟨a, cap, rfl, h1, h2, h3, h4⟩ := hk
  clear h4 hcall
  go_enter Tryd.func10, Tryd.ntmps10
  go_wp2_with fail
  refine (HC.out _ (((Ext.alloc _ _).trans (Ext.alloc _ _)).trans (Ext.alloc _ _))).mono ?_
  rintro e w' ⟨a', cap', rfl, hv', e'⟩
  have hsz : w.heap.size + 3 ≤ w'.heap.size := by have := Below.size e'; simp at this; omega
  have b0 := e'.cell (a := ⟨w.heap.size + 2, 0, none⟩) (v := .int .i64 k) (by go_simp)
  have b1 := e'.cell (a := ⟨w.heap.size + 2, 1, none⟩) (v := .int .i64 n) (by go_simp)
  have b2 := e'.cell (a := ⟨w.heap.size + 2, 2, none⟩) (v := .string s) (by go_simp)
  have b3 := e'.cell (a := ⟨w.heap.size + 2, 3, none⟩) (v := .slice none 0 0) (by go_simp)
  have d0 := e'.cell (a := ⟨w.heap.size + 1, 0, none⟩) (v := .int .i64 0) (by go_simp)
  have d1 := e'.cell (a := ⟨w.heap.size + 1, 1, none⟩) (v := .int .i64 0) (by go_simp)
  have d2 := e'.cell (a := ⟨w.heap.size + 1, 2, none⟩) (v := .string ⟨#[]⟩) (by go_simp)
  have d3 := e'.cell (a := ⟨w.heap.size + 1, 3, none⟩) (v := .slice none 0 0) (by go_simp)
  have f3 := e'.frozen (a := ⟨w.heap.size + 2, 3, none⟩) (by simp) (by go_simp)
  have g0 := e'.frozen (a := ⟨w.heap.size + 1, 0, none⟩) (by simp) (by go_simp)
  have g1 := e'.frozen (a := ⟨w.heap.size + 1, 1, none⟩) (by simp) (by go_simp)
  have g2 := e'.frozen (a := ⟨w.heap.size + 1, 2, none⟩) (by simp) (by go_simp)
  have g3 := e'.frozen (a := ⟨w.heap.size + 1, 3, none⟩) (by simp) (by go_simp)
  have E := Lib.hid e'
  have HV := Lib.hid hv'
  clear e' hv'
  simp only [Tm.kids] at *
  go_wp2_with fail
  refine ret4_set (p := 2) (T := 29) (by kernel_rfl) (fun _ => by kernel_rfl) (fun _ => by kernel_rfl) rfl rfl (cell_other (by simp) d0) (cell_other (by simp) d1) (cell_other (by simp) d2) (cell_other (by simp) d3) ?_
  intro X hX
  have f : Fr (fun b => b = w.heap.size + 1 ∨ b = w.heap.size + 2) w' X := (Fr.setCell (M := fun b => b = w.heap.size + 1 ∨ b = w.heap.size + 2) w' (.inr rfl)).trans (Fr.of_grown hX (fun k e => by cases e; exact .inl rfl))
  refine ⟨_, _, rfl, own_iff.2 ⟨by simp only [Tm.name]; omega, by simp only [Tm.kids]; omega, HV.out.mono (fun b hb => ?_) f (fun b hb => ?_)⟩, ?_⟩
  · simp at hb; omega
  · simp at hb; omega
  · exact ((Fr.of_ext (((Ext.alloc _ _).trans (Ext.alloc _ _)).trans (Ext.alloc _ _))).trans ((Fr.of_ext E.out).trans f)).toExt (fun k hk h => by omega)

set_option maxHeartbeats 1000000 in
theorem toTermSO : ∀ (m : Nat) (ts : List Tm), Tm.szL ts ≤ m → ToSO ts := by
  intro m
  induction m using Nat.strongRecOn with
  | _ m ih =>
    intro ts hm v S w hl ht
    have IH := Lib.hid (show ∀ (j : Nat) (t : Tm), ts[j]? = some t → ToSO t.kids from fun j t h => by
      have h1 := Tm.sz_mem h
      have h2 : Tm.szL t.kids < Tm.sz t := by cases t; simp only [Tm.sz, Tm.kids]; omega
      exact ih (Tm.szL t.kids) (by omega) t.kids (Nat.le_refl _))
    clear ih hm
    obtain ⟨a, cap, rfl, h1, h2, h3, h4⟩ := ht
    have H4 := Lib.hid h4
    clear h4
    obtain ⟨i0, hi, hz0, hz1, hz2⟩ := info_parts info_term
    go_enter Tryd.func26, Tryd.ntmps26
    go_wp2_with (at_make; refine wpList_make_full _ rfl (.tmp 6) (.tmp 6) 27 rfl w.heap.size 29 i0 _ 4 Tryd.underlying27 hi hz0 hz1 .i64 .i64 _ _ ts.length rfl rfl rfl rfl ?c1 ?c2 (Nat.le_refl _) ?_)
    case c1 => rw [hz2]; omega
    case c2 => unfold maxLen; omega
    intro w1 hown hg
    have he1 := Ext.of_grown hg
    have hlt1 : w.heap.size < w1.heap.size := (hown.lt w.heap.size rfl).2
    have HO := Lib.hid hown
    clear hown hg
    go_wp2_with fail
    go_loopw [4] (fun i wr => ∃ (k : Nat) (done rest : List Value), k ≤ ts.length ∧ i = .int .i64 k ∧ Hid (wr.ownsRow w.heap.size 29 4 (.slice (some ⟨w.heap.size, 0, none⟩) ts.length ts.length) ts.length (done ++ rest)) ∧ Tm.oflat (fun b => w.heap.size < b ∧ b < wr.heap.size) wr (ts.take k) done ∧ Ext w wr ∧ w.heap.size < wr.heap.size) (fun i _ => ts.length - (intOf i).toNat)
    case atStart => exact ⟨0, [], _, Nat.zero_le _, rfl, HO.out, by simp [Tm.oflat], he1, hlt1⟩
    case round =>
      obtain ⟨k, done, rest, hk, rfl, HOW, hfl, he, hlt1⟩ := hrel
      have HF := Lib.hid hfl
      clear hfl
      by_cases hlt : k < ts.length
      · obtain ⟨tk, htk⟩ := getk hlt
        obtain ⟨b, off, ak, ck, rfl, c1, c2, c3, c4, hat⟩ := lget H4.out htk he
        have hwt : Tm.wt tk ≤ 1048576 := by have := wtL_take htk; have := wtL_take_le ts (k + 1); omega
        have HC := Lib.hid (fun w' (e' : Ext wr w') => toTermO tk (Lib.hid (IH.out k tk htk)) _ S w' hwt (Lt.at_ext (he.trans e') hat))
        have HTK := Lib.hid htk
        have hld : done.length = k * 4 := by have := flat_len (oflat_flat _ _ HF.out); rw [List.length_take] at this; omega
        have hlr : 4 ≤ rest.length := by have := HOW.out.1; rw [List.length_append] at this; omega
        have HLD := Lib.hid hld
        obtain ⟨u0, u1, u2, u3, r, rfl⟩ := four_of hlr
        clear htk hat hld hlr hwt
        go_wp2_with fail
        refine (HC.out _ (Ext.refl _)).mono ?_
        rintro e wq ⟨a', cap', rfl, hvt, e'⟩
        have HOQ := own_ext HOW.out e'
        have HV := Lib.hid hvt
        have o0 : wq.cell? ⟨w.heap.size, k * 4, none⟩ = some u0 := by rw [HOQ.cellAt _ (by omega)]; simp [← HLD.out]
        have o1 : wq.cell? ⟨w.heap.size, k * 4 + 1, none⟩ = some u1 := by rw [HOQ.cellAt _ (by omega)]; simp [← HLD.out]
        have o2 : wq.cell? ⟨w.heap.size, k * 4 + 2, none⟩ = some u2 := by rw [HOQ.cellAt _ (by omega)]; simp [← HLD.out]
        have o3 : wq.cell? ⟨w.heap.size, k * 4 + 3, none⟩ = some u3 := by rw [HOQ.cellAt _ (by omega)]; simp [← HLD.out]
        have f0 := HOQ.frozenAt (k * 4)
        have f1 := HOQ.frozenAt (k * 4 + 1)
        have f2 := HOQ.frozenAt (k * 4 + 2)
        have f3 := HOQ.frozenAt (k * 4 + 3)
        have E := Lib.hid e'
        have HQ := Lib.hid HOQ
        clear e' HOQ hvt
        go_wp2_with fail
        go_roundw
        case rel =>
          obtain ⟨hO, hG⟩ := own_set4 (v0 := .int .i64 tk.kind) (v1 := .int .i64 tk.n) (v2 := .string tk.name) (v3 := .slice a' tk.kids.length cap') HQ.out HLD.out
          have f : Fr (fun b => b = w.heap.size) wq _ := Fr.of_grown hG (fun k e => by cases e; rfl)
          have h1 := oflat_mono (F' := fun b => w.heap.size < b ∧ b < wr.heap.size) (fun _ h => h) (Fr.of_ext (M := fun _ => False) E.out) (fun _ _ h => h) _ _ HF.out
          have h2 := oflat_snoc (own_bound _ _ HV.out) h1 (fun b hb h => by omega)
          have hsE := Below.size E.out
          have hsG := hG.size
          refine ⟨k + 1, done ++ tcells tk a' cap', r, by omega, by go_num, Lib.hid hO, ?_, Ext.grown (he.trans E.out) hG (by simp), Nat.lt_of_lt_of_le (Nat.lt_of_lt_of_le hlt1 hsE) hsG⟩
          rw [take_snoc_of HTK.out]
          exact oflat_mono (by rintro b (hb | hb) <;> exact ⟨by omega, by omega⟩) f (by rintro b (hb | hb) h <;> omega) _ _ h2
        case measure => simp [intOf]; omega
      · have hkn : k = ts.length := by omega
        subst hkn
        have hf := HF.out
        rw [List.take_of_length_le (Nat.le_refl _)] at hf
        have hrest : rest = [] := by
          have h1 := HOW.out.1
          have h2 := flat_len (oflat_flat _ _ hf)
          rw [List.length_append] at h1
          exact List.eq_nil_of_length_eq_zero (by omega)
        subst hrest
        have HS : Hid (OwnS (fun b => w.heap.size ≤ b) ts (.slice (some ⟨w.heap.size, 0, none⟩) ts.length ts.length) wr) := Lib.hid ⟨done, own_low (by simpa using HOW.out) (Nat.zero_le _), by intro g hg; simp [Value.ownBlock] at hg; omega,
          oflat_mono (M := fun _ => False) (fun b hb => ⟨by omega, by simp [Value.ownBlock]; omega⟩) (Fr.refl _ _) (fun _ _ h => h) _ _ hf⟩
        clear hf
        go_wp2_with fail
        go_ret
        exact ⟨_, _, rfl, HS.out, he⟩
theorem toTermO_any (t : Tm) (v : Value) (S : Nat → Prop) (w : World) (hl : Tm.wt t ≤ 1048576) (ht : Lt.at S w t v) :
    Calls Tryd.prog 10 #[v] w (TmO t w) := toTermO t (Lib.hid (toTermSO _ _ (Nat.le_refl _))) v S w hl ht

end Go.Proofs.YtifklfnpaigdkaaDoor
