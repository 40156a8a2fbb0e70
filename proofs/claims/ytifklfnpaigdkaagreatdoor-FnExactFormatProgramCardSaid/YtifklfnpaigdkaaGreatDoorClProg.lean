/-
  Slices of clauses: the mirror's szClauseS, toClauseS, eqClauseS; and ProgramValid on both sides.
-/
import Derived.Test.YtifklfnpaigdkaaGreatDoorClValid
import Derived.Test.YtifklfnpaigdkaaGreatDoorClFuncs
namespace Go.Proofs.YtifklfnpaigdkaaGreatDoor
open Go.RowKit
set_option linter.unusedVariables false

def Cl.wtL : List Cl → Nat
  | [] => 0
  | c :: cs => Cl.wt c + Cl.wtL cs
theorem cwtL_take {cs : List Cl} {k : Nat} {c : Cl} (h : cs[k]? = some c) : Cl.wtL (cs.take (k + 1)) = Cl.wtL (cs.take k) + Cl.wt c := by
  induction cs generalizing k with
  | nil => simp at h
  | cons t0 ts ih =>
    cases k with
    | zero => simp at h; subst h; simp [Cl.wtL]
    | succ k =>
      have := ih (k := k) (by simpa using h)
      simp only [List.take_succ_cons, Cl.wtL]
      omega
theorem cwtL_take_le : ∀ (cs : List Cl) (k : Nat), Cl.wtL (cs.take k) ≤ Cl.wtL cs
  | [], k => by simp
  | t :: ts, 0 => by simp [Cl.wtL]
  | t :: ts, k + 1 => by have := cwtL_take_le ts k; simp only [List.take_succ_cons, Cl.wtL]; omega
theorem cwtL_full {cs : List Cl} {k : Nat} (h : cs.length ≤ k) : Cl.wtL (cs.take k) = Cl.wtL cs := by rw [List.take_of_length_le h]

set_option maxHeartbeats 1000000 in
theorem lawszClauseS (ts : List Cl) (v : Value) (l : Nat) (S : Nat → Prop) (w : World) (hl : l ≤ 1048576) (ht : Lc.sl S w ts v) :
    Calls Tryz.prog 10 #[v, .int .i64 l] w fun e w' => e = .returned (.int .i64 (leftF (ts.length + Cl.wtL ts) l)) ∧ Ext w w' := by
  obtain ⟨a, cap, rfl, h1, h2, h3, h4⟩ := ht
  have H4 := Lib.hid h4
  clear h4
  by_cases e1 : ts.length ≤ l
  · go_enter Tryz.func10, Tryz.ntmps10
    go_wp2_with fail
    go_loopw [1, 5] (fun q i wr => ∃ k r : Nat, k ≤ ts.length ∧ i = .int .i64 k ∧ q = .int .i64 r ∧ r + ts.length + Cl.wtL (ts.take k) = l ∧ Ext w wr) (fun _ i _ => ts.length - (intOf i).toNat)
    case atStart => exact ⟨0, l - ts.length, Nat.zero_le _, rfl, by rw [show ((l - ts.length : Nat) : Int) = (l : Int) - (ts.length : Int) by omega], by simp [Cl.wtL]; omega, Ext.refl _⟩
    case round =>
      obtain ⟨k, r, hk, rfl, rfl, hr, he⟩ := hrel
      have HR := Lib.hid hr
      have hrl : r ≤ 1048576 := by omega
      clear hr
      by_cases hlt : k < ts.length
      · obtain ⟨tk, htk⟩ := cgetk hlt
        obtain ⟨b, off, ak, ck, al, cl, rfl, c1, c2, c3, c4, c5, hat, hsl⟩ := Lc.get H4.out htk he
        have hcall := fun w' (e' : Ext wr w') => lawszClause tk _ r S w' hrl ⟨_, _, rfl, Lt.at_ext (he.trans e') hat, Lt.sl_ext (he.trans e') hsl⟩
        have HT := Lib.hid (cwtL_take htk)
        have HG := Lib.hid (cwtL_take_le ts (k + 1))
        clear htk hat hsl
        by_cases e2 : Cl.wt tk ≤ r
        · rw [leftF_yes e2] at hcall
          have HC := Lib.hid hcall
          have HF := Lib.hid (show r - Cl.wt tk + ts.length + Cl.wtL (ts.take (k + 1)) = l by have := HT.out; have := HR.out; omega)
          generalize r - Cl.wt tk = q at HF HC
          clear hcall e2
          go_wp2_with fail
          refine (HC.out _ (Ext.refl _)).mono ?_
          rintro e w' ⟨rfl, e'⟩
          go_wp2_with fail
          go_roundw
          case rel => exact ⟨k + 1, q, by omega, by go_num, rfl, HF.out, he.trans e'⟩
          case measure => simp [intOf]; omega
        · rw [leftF_no e2] at hcall
          have HC := Lib.hid hcall
          have hf := Lib.hid (show leftF (ts.length + Cl.wtL ts) l = -1 by rw [leftF_no]; have := HT.out; have := HR.out; have := HG.out; omega)
          clear hcall e2
          go_wp2_with fail
          refine (HC.out _ (Ext.refl _)).mono ?_
          rintro e w' ⟨rfl, e'⟩
          go_wp2_with fail
          go_ret
          exact ⟨retI hf.out.symm, he.trans e'⟩
      · have hf := Lib.hid (show leftF (ts.length + Cl.wtL ts) l = (r : Int) by
          have := HR.out; rw [cwtL_full (by omega)] at this; rw [leftF_yes (by omega)]; omega)
        go_wp2_with fail
        go_ret
        exact ⟨retI hf.out.symm, he⟩
  · have hf := Lib.hid (show leftF (ts.length + Cl.wtL ts) l = -1 by rw [leftF_no]; omega)
    go_enter Tryz.func10, Tryz.ntmps10
    go_wp2_with fail
    go_ret
    exact ⟨retI hf.out.symm, Ext.refl _⟩

/-- the five cells of a clause -/
def ccells (c : Cl) (a : Option Addr) (cap : Nat) (a' : Option Addr) (cap' : Nat) : List Value := [.int .i64 c.head.kind, .int .i64 c.head.n, .string c.head.name, .slice a c.head.kids.length cap, .slice a' c.body.length cap']
def Cl.flat (S : Nat → Prop) (w : World) : List Cl → List Value → Prop
  | [], xs => xs = []
  | c :: cs, xs => ∃ a cap a' cap' rest, xs = ccells c a cap a' cap' ++ rest ∧ (Tm.at S w c.head (.agg #[.int .i64 c.head.kind, .int .i64 c.head.n, .string c.head.name, .slice a c.head.kids.length cap]) ∧ Tm.sl S w c.body (.slice a' c.body.length cap')) ∧ Cl.flat S w cs rest
theorem cflat_len {S : Nat → Prop} {w : World} : ∀ {ts : List Cl} {xs : List Value}, Cl.flat S w ts xs → xs.length = ts.length * 5
  | [], xs, h => by simp only [Cl.flat] at h; subst h; rfl
  | t :: ts, xs, h => by
    obtain ⟨a, cap, a', cap', rest, rfl, _, h2⟩ := h
    have := cflat_len h2
    simp [ccells]; omega
theorem cflat_mono {S S' : Nat → Prop} {w w' : World} (hS : ∀ b, S b → S' b) (ha : Agree S w w') : ∀ {ts : List Cl} {xs : List Value}, Cl.flat S w ts xs → Cl.flat S' w' ts xs
  | [], xs, h => h
  | t :: ts, xs, h => by
    obtain ⟨a, cap, a', cap', rest, rfl, h1, h2⟩ := h
    exact ⟨a, cap, a', cap', rest, rfl, ⟨Tm.at_mono hS ha h1.1, Tm.sl_mono hS ha h1.2⟩, cflat_mono hS ha h2⟩
theorem cflat_snoc {S : Nat → Prop} {w : World} {c : Cl} {a a' : Option Addr} {cap cap' : Nat} (hc : Tm.at S w c.head (.agg #[.int .i64 c.head.kind, .int .i64 c.head.n, .string c.head.name, .slice a c.head.kids.length cap]) ∧ Tm.sl S w c.body (.slice a' c.body.length cap')) :
    ∀ {ts : List Cl} {xs : List Value}, Cl.flat S w ts xs → Cl.flat S w (ts ++ [c]) (xs ++ ccells c a cap a' cap')
  | [], xs, h => by simp only [Cl.flat] at h; subst h; exact ⟨a, cap, a', cap', [], by simp, hc, rfl⟩
  | t0 :: ts, xs, h => by
    obtain ⟨a0, cap0, a1, cap1, rest, rfl, h1, h2⟩ := h
    exact ⟨a0, cap0, a1, cap1, rest ++ ccells c a cap a' cap', by simp, h1, cflat_snoc hc h2⟩
theorem cflat_row {S : Nat → Prop} {w : World} {b : Nat} : ∀ {ts : List Cl} {xs : List Value} {off : Nat}, Cl.flat S w ts xs → (∀ j, j < xs.length → w.cell? ⟨b, off + j, none⟩ = xs[j]?) → Cl.row S w b off ts
  | [], xs, off, h, _ => trivial
  | t :: ts, xs, off, h, hc => by
    obtain ⟨a, cap, a', cap', rest, rfl, h1, h2⟩ := h
    obtain ⟨h3, sv, h4, h5⟩ := Tm.at_iff.1 h1.1
    have hsv : sv = .slice a t.head.kids.length cap := by
      simp only [Value.agg.injEq] at h4
      have := congrArg (fun x : Array Value => x[3]?) h4
      simpa using this.symm
    subst hsv
    refine ⟨⟨Tm.cells_iff.2 ⟨_, ?_, ?_, ?_, ?_, h3, h5⟩, _, ?_, h1.2⟩, ?_⟩
    · have := hc 0 (by simp [ccells]); simpa [ccells] using this
    · have := hc 1 (by simp [ccells]); simpa [ccells] using this
    · have := hc 2 (by simp [ccells]); simpa [ccells] using this
    · have := hc 3 (by simp [ccells]); simpa [ccells] using this
    · have := hc 4 (by simp [ccells]); simpa [ccells] using this
    · refine cflat_row h2 fun j hj => ?_
      have := hc (5 + j) (by simp [ccells]; omega)
      rw [show off + 5 + j = off + (5 + j) by omega, this, show 5 + j = j + 5 by omega]
      simp [ccells]
/-- an owned row of clauses is a slice of clauses -/
theorem own_slC {S : Nat → Prop} {w : World} {base e : Nat} {v : Value} {ts : List Cl} {xs : List Value} (ho : w.ownsRow base e 5 v ts.length xs) (hf : Cl.flat S w ts xs) (hl : ts.length ≤ 1048576) : Cl.sl (fun b => S b ∨ v.ownBlock = some b) w ts v := by
  have hcell := fun (g : Nat) (hg : v.ownBlock = some g) => ho.cells (g := g) hg
  obtain ⟨h1, h2⟩ := ho
  rcases h2 with ⟨rfl, h2⟩ | ⟨g, cap, cur, rfl, h3, h4, h5, h6, h7, h8⟩
  · have : ts = [] := List.eq_nil_of_length_eq_zero h2
    subst this
    exact ⟨none, 0, by simp, by simp, by omega, by simp, .inl rfl⟩
  · refine ⟨_, cap, rfl, h5, h6, hl, .inr ⟨g, 0, rfl, .inr rfl, ?_⟩⟩
    refine cflat_row (cflat_mono (fun b h => .inl h) (fun b o v _ h => h) hf) fun j hj => ?_
    have := hcell g rfl j xs[j] (by simp [hj])
    rw [show (⟨g, 0, none⟩ : Addr).add j = ⟨g, 0 + j, none⟩ by unfold Addr.add; split <;> simp_all] at this
    rw [this]; simp [hj]
theorem set5_list {done rest : List Value} {u0 u1 u2 u3 u4 v0 v1 v2 v3 v4 : Value} {a : Nat} (ha : done.length = a) :
    (((((done ++ u0 :: u1 :: u2 :: u3 :: u4 :: rest).set a v0).set (a + 1) v1).set (a + 2) v2).set (a + 3) v3).set (a + 4) v4 = (done ++ [v0, v1, v2, v3, v4]) ++ rest := by
  subst ha
  simp
theorem five_of {l : List Value} (h : 5 ≤ l.length) : ∃ u0 u1 u2 u3 u4 r, l = u0 :: u1 :: u2 :: u3 :: u4 :: r := by
  match l, h with
  | u0 :: u1 :: u2 :: u3 :: u4 :: r, _ => exact ⟨u0, u1, u2, u3, u4, r, rfl⟩
/-- the store of a whole clause into an owned row -/
theorem own_set5 {w : World} {base e g n cap a : Nat} {done rest : List Value} {u0 u1 u2 u3 u4 v0 v1 v2 v3 v4 : Value}
    (h : w.ownsRow base e 5 (.slice (some ⟨g, 0, none⟩) n cap) n (done ++ u0 :: u1 :: u2 :: u3 :: u4 :: rest)) (ha : done.length = a) :
    (((((w.setCell ⟨g, a, none⟩ v0).setCell ⟨g, a + 1, none⟩ v1).setCell ⟨g, a + 2, none⟩ v2).setCell ⟨g, a + 3, none⟩ v3).setCell ⟨g, a + 4, none⟩ v4).ownsRow base e 5 (.slice (some ⟨g, 0, none⟩) n cap) n ((done ++ [v0, v1, v2, v3, v4]) ++ rest) ∧
      w.grownBy (((((w.setCell ⟨g, a, none⟩ v0).setCell ⟨g, a + 1, none⟩ v1).setCell ⟨g, a + 2, none⟩ v2).setCell ⟨g, a + 3, none⟩ v3).setCell ⟨g, a + 4, none⟩ v4) (some g) := by
  obtain ⟨h1, g1⟩ := h.stored a v0
  obtain ⟨h2, g2⟩ := h1.stored (a + 1) v1
  obtain ⟨h3, g3⟩ := h2.stored (a + 2) v2
  obtain ⟨h4, g4⟩ := h3.stored (a + 3) v3
  obtain ⟨h5, g5⟩ := h4.stored (a + 4) v4
  rw [set5_list ha] at h5
  exact ⟨h5, grown_trans (grown_trans (grown_trans (grown_trans g1 g2) g3) g4) g5⟩

theorem info_clause : (Tryz.prog.info? 33).map (fun i => (i.zero, i.size, i.bytes)) = some (some (.agg #[.int .i64 0, .int .i64 0, .string ⟨#[]⟩, .slice none 0 0, .slice none 0 0]), 5, 80) := by kernel_rfl

set_option maxHeartbeats 1000000 in
theorem lawstoClauseS (ts : List Cl) (v : Value) (S : Nat → Prop) (w : World) (hl : ts.length + Cl.wtL ts ≤ 1048576) (ht : Lc.sl S w ts v) :
    Calls Tryz.prog 12 #[v] w fun e w' => ∃ v', e = .returned v' ∧ Cl.sl (fun b => w.heap.size ≤ b) w' ts v' ∧ Ext w w' := by
  obtain ⟨a, cap, rfl, h1, h2, h3, h4⟩ := ht
  have H4 := Lib.hid h4
  clear h4
  obtain ⟨i0, hi, hz0, hz1, hz2⟩ := info_parts info_clause
  go_enter Tryz.func12, Tryz.ntmps12
  go_wp2_with (at_make; refine wpList_make_full _ rfl (.tmp 6) (.tmp 6) 40 rfl w.heap.size 33 i0 _ 5 Tryz.underlying40 hi hz0 hz1 .i64 .i64 _ _ ts.length rfl rfl rfl rfl ?c1 ?c2 (Nat.le_refl _) ?_)
  case c1 => rw [hz2]; omega
  case c2 => unfold maxLen; omega
  intro w1 hown hg
  have he1 := Ext.of_grown hg
  have hlt1 : w.heap.size < w1.heap.size := (hown.lt w.heap.size rfl).2
  have HO := Lib.hid hown
  clear hown hg
  go_wp2_with fail
  go_loopw [4] (fun i wr => ∃ (k : Nat) (done rest : List Value), k ≤ ts.length ∧ i = .int .i64 k ∧ Hid (wr.ownsRow w.heap.size 33 5 (.slice (some ⟨w.heap.size, 0, none⟩) ts.length ts.length) ts.length (done ++ rest)) ∧ Cl.flat (fun b => w.heap.size < b) wr (ts.take k) done ∧ Ext w wr ∧ w.heap.size < wr.heap.size) (fun i _ => ts.length - (intOf i).toNat)
  case atStart => exact ⟨0, [], _, Nat.zero_le _, rfl, HO.out, rfl, he1, hlt1⟩
  case round =>
    obtain ⟨k, done, rest, hk, rfl, HOW, hfl, he, hlt1⟩ := hrel
    have HF := Lib.hid hfl
    clear hfl
    by_cases hlt : k < ts.length
    · obtain ⟨tk, htk⟩ := cgetk hlt
      obtain ⟨b, off, ak, ck, al, cl, rfl, c1, c2, c3, c4, c5, hat, hsl⟩ := Lc.get H4.out htk he
      have hwt : Cl.wt tk ≤ 1048576 := by have := cwtL_take htk; have := cwtL_take_le ts (k + 1); omega
      have HC := Lib.hid (fun w' (e' : Ext wr w') => lawstoClause tk _ S w' hwt ⟨_, _, rfl, Lt.at_ext (he.trans e') hat, Lt.sl_ext (he.trans e') hsl⟩)
      have HTK := Lib.hid htk
      have hld : done.length = k * 5 := by have := cflat_len HF.out; rw [List.length_take] at this; omega
      have hlr : 5 ≤ rest.length := by have := HOW.out.1; rw [List.length_append] at this; omega
      have HLD := Lib.hid hld
      obtain ⟨u0, u1, u2, u3, u4, r, rfl⟩ := five_of hlr
      clear htk hat hsl hld hlr hwt
      go_wp2_with fail
      refine (HC.out _ (Ext.refl _)).mono ?_
      rintro e wq ⟨vt, rfl, hvt, e'⟩
      obtain ⟨a', ca', b', cb', rfl, hv1, hv2⟩ := Cl.form hvt
      have HOQ := own_ext HOW.out e'
      have HV := Lib.hid (And.intro hv1 hv2)
      have o0 : wq.cell? ⟨w.heap.size, k * 5, none⟩ = some u0 := by rw [HOQ.cellAt _ (by omega)]; simp [← HLD.out]
      have o1 : wq.cell? ⟨w.heap.size, k * 5 + 1, none⟩ = some u1 := by rw [HOQ.cellAt _ (by omega)]; simp [← HLD.out]
      have o2 : wq.cell? ⟨w.heap.size, k * 5 + 2, none⟩ = some u2 := by rw [HOQ.cellAt _ (by omega)]; simp [← HLD.out]
      have o3 : wq.cell? ⟨w.heap.size, k * 5 + 3, none⟩ = some u3 := by rw [HOQ.cellAt _ (by omega)]; simp [← HLD.out]
      have o4 : wq.cell? ⟨w.heap.size, k * 5 + 4, none⟩ = some u4 := by rw [HOQ.cellAt _ (by omega)]; simp [← HLD.out]
      have f0 := HOQ.frozenAt (k * 5)
      have f1 := HOQ.frozenAt (k * 5 + 1)
      have f2 := HOQ.frozenAt (k * 5 + 2)
      have f3 := HOQ.frozenAt (k * 5 + 3)
      have f4 := HOQ.frozenAt (k * 5 + 4)
      have E := Lib.hid e'
      have HQ := Lib.hid HOQ
      clear e' HOQ hvt hv1 hv2
      go_wp2_with fail
      go_roundw
      case rel =>
        obtain ⟨hO, hG⟩ := own_set5 (v0 := .int .i64 tk.head.kind) (v1 := .int .i64 tk.head.n) (v2 := .string tk.head.name) (v3 := .slice a' tk.head.kids.length ca') (v4 := .slice b' tk.body.length cb') HQ.out HLD.out
        have hA : Agree (fun b => w.heap.size < b) wq _ := Agree.grown hG (by simp)
        have hS : ∀ b, wr.heap.size ≤ b → w.heap.size < b := by intro b hb; omega
        refine ⟨k + 1, done ++ ccells tk a' ca' b' cb', r, by omega, by go_num, Lib.hid hO, ?_, Ext.grown (he.trans E.out) hG (by simp), Nat.lt_of_lt_of_le (Nat.lt_of_lt_of_le hlt1 (Below.size E.out)) hG.size⟩
        rw [take_snoc_of HTK.out]
        exact cflat_snoc ⟨Tm.at_mono (fun _ h => h) hA (Tm.at_mono hS (Agree.refl _) HV.out.1), Tm.sl_mono (fun _ h => h) hA (Tm.sl_mono hS (Agree.refl _) HV.out.2)⟩ (cflat_mono (fun _ h => h) ((Agree.of_ext E.out).trans hA) HF.out)
      case measure => simp [intOf]; omega
    · have hkn : k = ts.length := by omega
      subst hkn
      have hf := HF.out
      rw [List.take_of_length_le (Nat.le_refl _)] at hf
      have hrest : rest = [] := by
        have h1 := HOW.out.1
        have h2 := cflat_len hf
        rw [List.length_append] at h1
        exact List.eq_nil_of_length_eq_zero (by omega)
      subst hrest
      have hsl := own_slC (by simpa using HOW.out) hf (by omega)
      have HS := Lib.hid (Cl.sl_mono (S' := fun b => w.heap.size ≤ b) (by intro b hb; rcases hb with hb | hb <;> first | omega | (simp [Value.ownBlock] at hb; omega)) (Agree.refl _) hsl)
      clear hf hsl
      go_wp2_with fail
      go_ret
      exact ⟨_, rfl, HS.out, he⟩

def Cl.sameL : List Cl → List Cl → Bool
  | [], [] => true
  | t :: ts, u :: us => Cl.same t u && Cl.sameL ts us
  | _, _ => false
theorem csameL_refl : ∀ ts : List Cl, Cl.sameL ts ts = true
  | [] => rfl
  | t :: ts => by simp only [Cl.sameL, csame_refl t, csameL_refl ts, Bool.and_self]

set_option maxHeartbeats 1000000 in
/-- equal slices of clauses -/
theorem lawseqClauseS (ts us : List Cl) (v v' : Value) (S S' : Nat → Prop) (w : World) (hts : ts = us) (ht : Cl.sl S w ts v) (hu : Cl.sl S' w us v') :
    Calls Tryz.prog 14 #[v, v'] w fun e w' => e = .returned (.bool true) ∧ Ext w w' := by
  subst hts
  obtain ⟨a, cap, rfl, h1, h2, h3, h4⟩ := ht
  obtain ⟨a', cap', rfl, h1', h2', h3', h4'⟩ := hu
  have H4 := Lib.hid h4
  have H4' := Lib.hid h4'
  clear h4 h4'
  go_enter Tryz.func14, Tryz.ntmps14
  go_wp2_with fail
  go_loopw [5] (fun i wr => ∃ k : Nat, k ≤ ts.length ∧ i = .int .i64 k ∧ Ext w wr) (fun i _ => ts.length - (intOf i).toNat)
  case atStart => exact ⟨0, Nat.zero_le _, rfl, Ext.refl _⟩
  case round =>
    obtain ⟨k, hk, rfl, he⟩ := hrel
    by_cases hlt : k < ts.length
    · obtain ⟨tk, htk⟩ := cgetk hlt
      obtain ⟨b, off, ak, ck, al, cl, rfl, c1, c2, c3, c4, c5, hat, hsl⟩ := Cl.get H4.out htk he
      obtain ⟨b', off', ak', ck', al', cl', rfl, d1, d2, d3, d4, d5, hat', hsl'⟩ := Cl.get H4'.out htk he
      have k1 := cell_regrown c1
      have k2 := cell_regrown c2
      have k3 := cell_regrown c3
      have k4 := cell_regrown c4
      have k5 := cell_regrown c5
      have l1 := cell_regrown d1
      have l2 := cell_regrown d2
      have l3 := cell_regrown d3
      have l4 := cell_regrown d4
      have l5 := cell_regrown d5
      have cQ := quiet_call (w := wr) (fun w' e' => lawseqClause tk tk _ _ S S' w' ⟨_, _, rfl, Tm.at_ext (he.trans e') hat, Tm.sl_ext (he.trans e') hsl⟩ ⟨_, _, rfl, Tm.at_ext (he.trans e') hat', Tm.sl_ext (he.trans e') hsl'⟩)
      clear c1 c2 c3 c4 c5 d1 d2 d3 d4 d5 htk hat hsl hat' hsl'
      rw [csame_refl] at cQ
      go_wp2_with fail
      refine region_ext (by kernel_rfl) (by kernel_rfl) ?_
      repeat (quiet_step (exact cQ _ _))
      refine wpQuiet_nil ?_
      intro wq eq
      go_wp2_with fail
      go_roundw
      case rel => exact ⟨k + 1, by omega, by go_num, he.trans eq⟩
      case measure => simp [intOf]; omega
    · go_wp2_with fail
      go_ret
      exact ⟨rfl, he⟩

def notValid (c : Cl) : Bool := !clValidF c
/-- valid programs -/
def prValidF (cs : List Cl) : Bool := decide (cs.length ≤ 20) && !(cs.any notValid)
set_option maxHeartbeats 400000 in
theorem implProgramValid1 (t : Cl) (v : Value) (S : Nat → Prop) (w : World) (ht : Cl.at S w t v) :
    Calls Tryz.prog 38 #[v] w fun e w' => e = .returned (.bool (notValid t)) ∧ Ext w w' := by
  have HT := Lib.hid (fun w' (e' : Ext w w') => implClauseValid t v S w' (Cl.at_ext e' ht))
  obtain ⟨a, c, a', c', rfl, _⟩ := Cl.form ht
  clear ht
  go_enter Tryz.func38, Tryz.ntmps38
  go_wp2_with fail
  refine (HT.out _ (Ext.alloc _ _)).mono ?_
  rintro e w1 ⟨rfl, q⟩
  go_wp2_with fail
  go_ret
  exact ⟨rfl, (Ext.alloc _ _).trans q⟩
set_option maxHeartbeats 400000 in
theorem implProgramValid (ts : List Cl) (v : Value) (S : Nat → Prop) (w : World) (ht : Cl.sl S w ts v) :
    Calls Tryz.prog 26 #[v] w fun e w' => e = .returned (.bool (prValidF ts)) ∧ Ext w w' := by
  have HT := Lib.hid (containsAnyC 38 notValid (fun _ _ => by kernel_rfl) implProgramValid1 ts v S w ht)
  obtain ⟨a, cap, rfl, h1, h2, h3, h4⟩ := ht
  clear h4
  by_cases hl : ts.length ≤ 20
  · have hf : Hid (prValidF ts = !(ts.any notValid)) := Lib.hid (by unfold prValidF; rw [decide_eq_true hl]; rfl)
    go_enter Tryz.func26, Tryz.ntmps26
    go_wp2_with fail
    refine HT.out.mono ?_
    rintro e w1 ⟨rfl, q⟩
    go_wp2_with fail
    go_ret
    exact ⟨retB hf.out.symm, q⟩
  · have hf : Hid (prValidF ts = false) := Lib.hid (by unfold prValidF; rw [decide_eq_false hl]; rfl)
    go_enter Tryz.func26, Tryz.ntmps26
    go_wp2_with fail
    go_ret
    exact ⟨retB hf.out.symm, Ext.refl _⟩

theorem prog_no {ts : List Cl} {j : Nat} {t : Cl} (h : ts[j]? = some t) (hg : clValidF t = false) : prValidF ts = false := by
  have : ts.any notValid = true := List.any_eq_true.2 ⟨t, List.mem_of_getElem? h, by unfold notValid; rw [hg]; rfl⟩
  unfold prValidF
  rw [this]
  simp
def ProgTo (k : Nat) (ts : List Cl) : Prop := ∀ (j : Nat) (t : Cl), j < k → ts[j]? = some t → clValidF t = true
theorem progTo_succ {k : Nat} {ts : List Cl} {t : Cl} (h : ProgTo k ts) (ht : ts[k]? = some t) (hg : clValidF t = true) : ProgTo (k + 1) ts := by
  intro j u hj hu
  by_cases e : j = k
  · subst e; rw [ht] at hu; cases hu; exact hg
  · exact h j u (by omega) hu
theorem progTo_all {k : Nat} {ts : List Cl} (h : ProgTo k ts) (hk : ts.length ≤ k) : prValidF ts = decide (ts.length ≤ 20) := by
  have : ts.any notValid = false := List.any_eq_false.2 (fun t ht => by
    obtain ⟨j, hj⟩ := List.getElem?_of_mem ht
    have := h j t (by have := (List.getElem?_eq_some_iff.1 hj).1; omega) hj
    unfold notValid
    rw [this]
    simp)
  unfold prValidF
  rw [this]
  simp

set_option maxHeartbeats 1000000 in
theorem specProgramValid (cs : List Cl) (v : Value) (S : Nat → Prop) (w : World) (hc : Cl.sl S w cs v) :
    Calls Tryz.prog 25 #[v] w fun e w' => e = .returned (.bool (prValidF cs)) ∧ Ext w w' := by
  obtain ⟨a, cap, rfl, h1, h2, h3, h4⟩ := hc
  have H4 := Lib.hid h4
  clear h4
  go_enter Tryz.func25, Tryz.ntmps25
  go_wp2_with fail
  go_loopw [3] (fun i wr => ∃ k : Nat, k ≤ cs.length ∧ k ≤ 21 ∧ i = .int .i64 k ∧ Hid (ProgTo k cs) ∧ Ext w wr) (fun i _ => cs.length - (intOf i).toNat)
  case atStart => exact ⟨0, Nat.zero_le _, by omega, rfl, fun j t h => absurd h (by omega), Ext.refl _⟩
  case round =>
    obtain ⟨k, hk, hk7, rfl, HG, he⟩ := hrel
    by_cases hlt : k < cs.length
    · by_cases hk6 : k ≤ 20
      · obtain ⟨tk, htk⟩ := cgetk hlt
        obtain ⟨bb, off, ak, ck, al, cl, rfl, c0, c1, c2, c3, c4, hat, hsl⟩ := Cl.get H4.out htk he
        have HC := Lib.hid (fun w' (e' : Ext wr w') => specClauseValid tk _ S w' ⟨_, _, rfl, Tm.at_ext (he.trans e') hat, Tm.sl_ext (he.trans e') hsl⟩)
        have HTK := Lib.hid htk
        clear htk hat hsl
        cases hg : clValidF tk
        · have hf : Hid (prValidF cs = false) := Lib.hid (prog_no HTK.out hg)
          go_wp2_with fail
          refine (HC.out _ (Ext.refl _)).mono ?_
          rw [hg]
          rintro e w1 ⟨rfl, q⟩
          clear hg
          go_wp2_with fail
          go_ret
          exact ⟨retB hf.out.symm, he.trans q⟩
        · have hs := Lib.hid (progTo_succ HG.out HTK.out hg)
          go_wp2_with fail
          refine (HC.out _ (Ext.refl _)).mono ?_
          rw [hg]
          rintro e w1 ⟨rfl, q⟩
          clear hg
          go_wp2_with fail
          go_roundw
          case rel => exact ⟨k + 1, by omega, by omega, by go_num, hs, he.trans q⟩
          case measure => simp [intOf]; omega
      · have h6 : ¬ cs.length ≤ 20 := by omega
        have hf : Hid (prValidF cs = false) := Lib.hid (by unfold prValidF; rw [decide_eq_false h6]; simp)
        go_wp2_with fail
        go_ret
        exact ⟨retB (by rw [hf.out, decide_eq_false (by omega)]), he⟩
    · have hall := Lib.hid (progTo_all HG.out (by omega))
      by_cases h6 : cs.length ≤ 20
      · have hf : Hid (prValidF cs = true) := Lib.hid (by rw [hall.out, decide_eq_true h6])
        go_wp2_with fail
        go_ret
        exact ⟨retB (by rw [hf.out, decide_eq_true (by omega)]), he⟩
      · have hf : Hid (prValidF cs = false) := Lib.hid (by rw [hall.out, decide_eq_false h6])
        go_wp2_with fail
        go_ret
        exact ⟨retB (by rw [hf.out, decide_eq_false (by omega)]), he⟩

end Go.Proofs.YtifklfnpaigdkaaGreatDoor
