/-
  The mirror's clauses, copied into memory of their own: each clause in an interval of blocks.
-/
import Derived.Test.YtagaciadcgijoaaClProg
import Derived.Test.YtagaciadcgijoaaMarkT
namespace Go.Proofs.Ytagaciadcgijoaa
open Go.RowKit
set_option linter.unusedVariables false

/-- a clause that shares nothing: the head's memory lies below m, the body's behind -/
def ClO (c : Cl) (w : World) (e : Ending) (w' : World) : Prop := ∃ a ca b cb m, e = .returned (.agg #[.int .i64 c.head.kind, .int .i64 c.head.n, .string c.head.name, .slice a c.head.kids.length ca, .slice b c.body.length cb]) ∧
  Tm.own (fun k => w.heap.size ≤ k ∧ k < m) w' c.head (.slice a c.head.kids.length ca) ∧ OwnS (fun k => m ≤ k ∧ k < w'.heap.size) c.body (.slice b c.body.length cb) w' ∧ w.heap.size ≤ m ∧ m ≤ w'.heap.size ∧ Ext w w'
set_option maxHeartbeats 2000000 in
theorem toClauseO (c : Cl) (v : Value) (S : Nat → Prop) (w : World) (hl : Cl.wt c ≤ 1048576) (ht : Lc.at S w c v) :
    Calls Try.prog 27 #[v] w (ClO c w) := by
  obtain ⟨a, ca, b, cb, rfl, hH, hB⟩ := Lc.form ht
  have hl' := hl
  unfold Cl.wt at hl'
  have HT := Lib.hid (fun w' (e' : Ext w w') => toTermO_any c.head _ S w' (by omega) (Lt.at_ext e' hH))
  have HB := Lib.hid (Lt.sl_bound hB)
  have HS := Lib.hid (fun w' (g : Agree (fun b => S b ∧ b < w.heap.size) w w') => toTermSO _ c.body (Nat.le_refl _) _ (fun b => S b ∧ b < w.heap.size) w' (by omega) (Lt.sl_mono (fun _ h => h) g HB.out))
  clear hH hB ht hl hl' HB
  go_enter Try.func27, Try.ntmps27
  go_wp2_with fail
  refine (HT.out _ (((Ext.alloc _ _).trans (Ext.alloc _ _)).trans (Ext.alloc _ _))).mono ?_
  rintro e w1 ⟨a', ca', rfl, hv1, q⟩
  have hz : w.heap.size + 3 ≤ w1.heap.size := by have := Below.size q; simp at this; omega
  have c4 := q.cell (a := ⟨w.heap.size, 4, none⟩) (v := .slice b c.body.length cb) (by go_simp)
  have O : BoxCZ w1 (w.heap.size + 2) := BoxC.ext (BoxC.new _ _ _ _ _ _ 45 (by simp)) q
  have R : BoxCZ w1 (w.heap.size + 1) := BoxC.ext ((BoxC.new _ _ _ _ _ _ 45 (by simp)).ext (Ext.alloc _ _)) q
  have E := Lib.hid ((((Ext.alloc _ _).trans (Ext.alloc _ _)).trans (Ext.alloc _ _)).trans q)
  have V := Lib.hid (own_zone (F' := fun b => w.heap.size + 3 ≤ b ∧ b < w1.heap.size) (own_bound _ _ hv1) (fun b hb => ⟨by simpa using hb.1, hb.2⟩))
  clear q hv1
  have O' := Lib.hid O
  have R' := Lib.hid R
  obtain ⟨o0, o1, o2, o3, o4, f0, f1, f2, f3, f4⟩ := O
  clear R
  go_wp2_with fail
  refine (HS.out _ ((Agree.of_ext E.out).trans (Agree.trans (Agree.trans (Agree.trans (Agree.setCell ?_) (Agree.setCell ?_)) (Agree.setCell ?_)) (Agree.setCell ?_)))).mono ?_
  · exact fun h => by have := h.2; simp at this; omega
  · exact fun h => by have := h.2; simp at this; omega
  · exact fun h => by have := h.2; simp at this; omega
  · exact fun h => by have := h.2; simp at this; omega
  rintro e w2 ⟨a2, ca2, rfl, hv2, q⟩
  have O := (O'.out.setHead (.int .i64 c.head.kind) (.int .i64 c.head.n) (.string c.head.name) (.slice a' c.head.kids.length ca')).ext q
  have g := set4_grown w1 (w.heap.size + 2) (.int .i64 c.head.kind) (.int .i64 c.head.n) (.string c.head.name) (.slice a' c.head.kids.length ca')
  have f : Fr (fun b => b = w.heap.size + 2) w1 w2 := (Fr.of_grown g (fun k e => by cases e; rfl)).trans (Fr.of_ext q)
  have R := R'.out.fr f (by omega)
  have hz2 := f.size
  have hz3 : w.heap.size + 3 ≤ w2.heap.size := by omega
  have V2 := Lib.hid (OwnS.zone (F' := fun b => w1.heap.size ≤ b ∧ b < w2.heap.size) hv2.bound (fun b hb => ⟨by simpa using hb.1, hb.2⟩))
  clear q g O' R' o0 o1 o2 o3 o4 f0 f1 f2 f3 f4 hz2 hv2
  have R' := Lib.hid R
  have F := Lib.hid f
  clear f
  obtain ⟨o0, o1, o2, o3, o4, f0, f1, f2, f3, f4⟩ := O
  obtain ⟨r0, r1, r2, r3, r4, k0, k1, k2, k3, k4⟩ := R
  go_wp2_with fail
  refine ret5_set (p := 2) (T := 45) (by kernel_rfl) (fun _ => by kernel_rfl) (fun _ => by kernel_rfl) rfl rfl (R'.out.fr (Fr.setCell (M := fun b => b = w.heap.size + 2) w2 rfl) (by omega)) ?_
  intro X hX
  have f : Fr (fun b => b = w.heap.size + 1 ∨ b = w.heap.size + 2) w2 X := (Fr.setCell (M := fun b => b = w.heap.size + 1 ∨ b = w.heap.size + 2) w2 (.inr rfl)).trans (Fr.of_grown hX (fun k e => by cases e; exact .inl rfl))
  have f2 : Fr (fun b => b = w.heap.size + 1 ∨ b = w.heap.size + 2) w1 X := (F.out.mono (fun b _ h => .inr h)).trans f
  have hzx := f.size
  refine ⟨a', ca', a2, ca2, w1.heap.size, rfl, ?_, ?_, by omega, by have := F.out.size; omega, ((Fr.of_ext E.out).trans f2).toExt (fun k hk h => by omega)⟩
  · exact own_mono (fun b hb => ⟨by omega, hb.2⟩) f2 (fun b hb h => by omega) _ _ V.out
  · exact V2.out.mono (fun b hb => ⟨hb.1, by omega⟩) f (fun b hb h => by omega)
/-- clauses whose memory lies in intervals, one behind the other, from lo to hi -/
def Cl.cz (w : World) (hi : Nat) : Nat → List Cl → List Value → Prop
  | lo, [], xs => xs = [] ∧ lo ≤ hi
  | lo, c :: cs, xs => ∃ m1 m2 a ca b cb rest, xs = ccells c a ca b cb ++ rest ∧ lo ≤ m1 ∧ m1 ≤ m2 ∧ Tm.own (fun k => lo ≤ k ∧ k < m1) w c.head (.slice a c.head.kids.length ca) ∧
      OwnS (fun k => m1 ≤ k ∧ k < m2) c.body (.slice b c.body.length cb) w ∧ Cl.cz w hi m2 cs rest
theorem cz_le {w : World} {hi : Nat} : ∀ {lo : Nat} {cs : List Cl} {xs : List Value}, Cl.cz w hi lo cs xs → lo ≤ hi
  | lo, [], xs, h => h.2
  | lo, c :: cs, xs, h => by
    obtain ⟨m1, m2, a, ca, b, cb, rest, _, h1, h2, _, _, h3⟩ := h
    have := cz_le h3
    omega
theorem cz_mono {w w' : World} {M : Nat → Prop} (f : Fr M w w') {hi hi' : Nat} (hh : hi ≤ hi') : ∀ {lo : Nat} {cs : List Cl} {xs : List Value}, (∀ k, lo ≤ k → k < hi → ¬ M k) → Cl.cz w hi lo cs xs → Cl.cz w' hi' lo cs xs
  | lo, [], xs, _, h => ⟨h.1, by have := h.2; omega⟩
  | lo, c :: cs, xs, hM, h => by
    obtain ⟨m1, m2, a, ca, b, cb, rest, h0, h1, h2, h3, h4, h5⟩ := h
    have hl := cz_le h5
    exact ⟨m1, m2, a, ca, b, cb, rest, h0, h1, h2, own_mono (fun _ h => h) f (fun k hk => hM k hk.1 (by omega)) _ _ h3, h4.mono (fun _ h => h) f (fun k hk => hM k (by omega) (by omega)), cz_mono f hh (fun k hk => hM k (by omega)) h5⟩
theorem cz_snoc {w : World} {c : Cl} {a b : Option Addr} {ca cb m hi : Nat} (hh : Tm.own (fun k => m ≤ k ∧ k < hi) w c.head (.slice a c.head.kids.length ca)) {hi2 : Nat} (hb : OwnS (fun k => hi ≤ k ∧ k < hi2) c.body (.slice b c.body.length cb) w) (h1 : m ≤ hi) (h2 : hi ≤ hi2) :
    ∀ {lo : Nat} {cs : List Cl} {xs : List Value}, Cl.cz w m lo cs xs → Cl.cz w hi2 lo (cs ++ [c]) (xs ++ ccells c a ca b cb)
  | lo, [], xs, h => by
    obtain ⟨rfl, hl⟩ := h
    exact ⟨hi, hi2, a, ca, b, cb, [], by simp, by omega, h2, own_zone hh (fun k hk => ⟨by omega, hk.2⟩), hb, rfl, Nat.le_refl _⟩
  | lo, c0 :: cs, xs, h => by
    obtain ⟨m1, m2, a0, ca0, b0, cb0, rest, rfl, q1, q2, q3, q4, q5⟩ := h
    exact ⟨m1, m2, a0, ca0, b0, cb0, rest ++ ccells c a ca b cb, by simp, q1, q2, q3, q4, cz_snoc hh hb h1 h2 q5⟩
theorem OwnS.slT {F : Nat → Prop} {w : World} {ts : List Tm} {v : Value} (h : OwnS F ts v w) (hl : ts.length ≤ 1048576) : Tm.sl (fun _ => True) w ts v := by
  obtain ⟨xs, ho, hz, hf⟩ := h
  exact Tm.sl_mono (fun _ _ => trivial) (Agree.refl _) (own_sl ho (oflat_flat _ _ hf) hl)
theorem cz_flat {w : World} {hi : Nat} : ∀ {lo : Nat} {cs : List Cl} {xs : List Value}, (∀ c ∈ cs, c.body.length ≤ 1048576) → Cl.cz w hi lo cs xs → Cl.flat (fun _ => True) w cs xs
  | lo, [], xs, _, h => h.1
  | lo, c :: cs, xs, hl, h => by
    obtain ⟨m1, m2, a, ca, b, cb, rest, h0, h1, h2, h3, h4, h5⟩ := h
    exact ⟨a, ca, b, cb, rest, h0, ⟨Tm.at_mono (fun _ _ => trivial) (Agree.refl _) (own_flat _ _ _ h3), h4.slT (hl c (by simp))⟩, cz_flat (fun d hd => hl d (by simp [hd])) h5⟩
/-- clauses that share nothing: the row at a block below lo, the rest from lo to hi -/
def OwnC (lo hi : Nat) (cs : List Cl) (v : Value) (w : World) : Prop := ∃ g xs, v = .slice (some ⟨g, 0, none⟩) cs.length cs.length ∧ lo = g + 1 ∧ w.ownsRow 0 45 5 v cs.length xs ∧ Cl.cz w hi lo cs xs
theorem OwnC.sl {lo hi : Nat} {cs : List Cl} {v : Value} {w : World} (h : OwnC lo hi cs v w) (hl : cs.length + Cl.wtL cs ≤ 1048576) : Cl.sl (fun _ => True) w cs v := by
  obtain ⟨g, xs, rfl, _, ho, hz⟩ := h
  refine Cl.sl_mono (fun _ _ => trivial) (Agree.refl _) (own_slC ho (cz_flat (fun c hc => ?_) hz) (by omega))
  obtain ⟨j, hj⟩ := List.getElem?_of_mem hc
  have h1 := cwtL_take hj
  have h2 := cwtL_take_le cs (j + 1)
  unfold Cl.wt at h1
  omega
theorem OwnC.mono {lo hi : Nat} {cs : List Cl} {v : Value} {w w' : World} {M : Nat → Prop} (h : OwnC lo hi cs v w) (f : Fr M w w') (hM : ∀ k, M k → hi ≤ k) : OwnC lo hi cs v w' := by
  obtain ⟨g, xs, rfl, hg, ho, hz⟩ := h
  have hl := cz_le hz
  exact ⟨g, xs, rfl, hg, own_fr ho f (fun k hk hm => by simp [Value.ownBlock] at hk; subst hk; have := hM _ hm; omega), cz_mono f (Nat.le_refl _) (fun k h1 h2 hm => by have := hM _ hm; omega) hz⟩
theorem cz_len {w : World} {hi : Nat} : ∀ {lo : Nat} {cs : List Cl} {xs : List Value}, Cl.cz w hi lo cs xs → xs.length = cs.length * 5
  | lo, [], xs, h => by rw [h.1]; rfl
  | lo, c :: cs, xs, h => by
    obtain ⟨m1, m2, a, ca, b, cb, rest, rfl, _, _, _, _, h5⟩ := h
    have := cz_len h5
    simp [ccells]; omega
set_option maxHeartbeats 1000000 in
theorem toClauseSO (ts : List Cl) (v : Value) (S : Nat → Prop) (w : World) (hl : ts.length + Cl.wtL ts ≤ 1048576) (ht : Lc.sl S w ts v) :
    Calls Try.prog 39 #[v] w fun e w' => ∃ a, e = .returned (.slice a ts.length ts.length) ∧ OwnC (w.heap.size + 1) w'.heap.size ts (.slice a ts.length ts.length) w' ∧ Ext w w' := by
  obtain ⟨a, cap, rfl, h1, h2, h3, h4⟩ := ht
  have H4 := Lib.hid h4
  clear h4
  obtain ⟨i0, hi, hz0, hz1, hz2⟩ := info_parts info_clause
  go_enter Try.func39, Try.ntmps39
  go_wp2_with (at_make; refine wpList_make_full _ rfl (.tmp 6) (.tmp 6) 59 rfl w.heap.size 45 i0 _ 5 Try.underlying59 hi hz0 hz1 .i64 .i64 _ _ ts.length rfl rfl rfl rfl ?c1 ?c2 (Nat.le_refl _) ?_)
  case c1 => rw [hz2]; omega
  case c2 => unfold maxLen; omega
  intro w1 hown hg
  have he1 := Ext.of_grown hg
  have hlt1 : w.heap.size < w1.heap.size := (hown.lt w.heap.size rfl).2
  have HO := Lib.hid hown
  clear hown hg
  go_wp2_with fail
  go_loopw [4] (fun i wr => ∃ (k : Nat) (done rest : List Value), k ≤ ts.length ∧ i = .int .i64 k ∧ Hid (wr.ownsRow w.heap.size 45 5 (.slice (some ⟨w.heap.size, 0, none⟩) ts.length ts.length) ts.length (done ++ rest)) ∧ Cl.cz wr wr.heap.size (w.heap.size + 1) (ts.take k) done ∧ Ext w wr ∧ w.heap.size < wr.heap.size) (fun i _ => ts.length - (intOf i).toNat)
  case atStart => exact ⟨0, [], _, Nat.zero_le _, rfl, HO.out, ⟨rfl, hlt1⟩, he1, hlt1⟩
  case round =>
    obtain ⟨k, done, rest, hk, rfl, HOW, hfl, he, hlt1⟩ := hrel
    have HF := Lib.hid hfl
    clear hfl
    by_cases hlt : k < ts.length
    · obtain ⟨tk, htk⟩ := cgetk hlt
      obtain ⟨b, off, ak, ck, al, cl, rfl, c1, c2, c3, c4, c5, hat, hsl⟩ := Lc.get H4.out htk he
      have hwt : Cl.wt tk ≤ 1048576 := by have := cwtL_take htk; have := cwtL_take_le ts (k + 1); omega
      have HC := Lib.hid (fun w' (e' : Ext wr w') => toClauseO tk _ S w' hwt ⟨_, _, rfl, Lt.at_ext (he.trans e') hat, Lt.sl_ext (he.trans e') hsl⟩)
      have HTK := Lib.hid htk
      have hld : done.length = k * 5 := by have := cz_len HF.out; rw [List.length_take] at this; omega
      have hlr : 5 ≤ rest.length := by have := HOW.out.1; rw [List.length_append] at this; omega
      have HLD := Lib.hid hld
      obtain ⟨u0, u1, u2, u3, u4, r, rfl⟩ := five_of hlr
      clear htk hat hsl hld hlr hwt
      go_wp2_with fail
      refine (HC.out _ (Ext.refl _)).mono ?_
      rintro e wq ⟨a', ca', b', cb', m, rfl, hv1, hv2, hm1, hm2, e'⟩
      have HOQ := own_ext HOW.out e'
      have HV := Lib.hid (And.intro hv1 hv2)
      have o0 : wq.cell? ⟨w.heap.size, k * 5, none⟩ = some u0 := by rw [HOQ.cellAt _ (by omega)]; simp [← HLD.out]
      have o1 : wq.cell? ⟨w.heap.size, k * 5 + 1, none⟩ = some u1 := by rw [HOQ.cellAt _ (by omega)]; simp [← HLD.out]
      have o2 : wq.cell? ⟨w.heap.size, k * 5 + 2, none⟩ = some u2 := by rw [HOQ.cellAt _ (by omega)]; simp [← HLD.out]
      have o3 : wq.cell? ⟨w.heap.size, k * 5 + 3, none⟩ = some u3 := by rw [HOQ.cellAt _ (by omega)]; simp [← HLD.out]
      have o4 : wq.cell? ⟨w.heap.size, k * 5 + 4, none⟩ = some u4 := by rw [HOQ.cellAt _ (by omega)]; simp [← HLD.out]
      have f0 := HOQ.frozenAt (k * 5)
      have f1 := HOQ.frozenAt (k * 5 + 1)
      have f2 := HOQ.frozenAt (k * 5 + 2)
      have f3 := HOQ.frozenAt (k * 5 + 3)
      have f4 := HOQ.frozenAt (k * 5 + 4)
      have E := Lib.hid e'
      have HQ := Lib.hid HOQ
      clear e' HOQ hv1 hv2
      go_wp2_with fail
      go_roundw
      case rel =>
        obtain ⟨hO, hG⟩ := own_set5 (v0 := .int .i64 tk.head.kind) (v1 := .int .i64 tk.head.n) (v2 := .string tk.head.name) (v3 := .slice a' tk.head.kids.length ca') (v4 := .slice b' tk.body.length cb') HQ.out HLD.out
        have f : Fr (fun k => k = w.heap.size) wq _ := Fr.of_grown hG (fun k e => by cases e; rfl)
        have hsz := f.size
        have hse := Below.size E.out
        refine ⟨k + 1, done ++ ccells tk a' ca' b' cb', r, by omega, by go_num, Lib.hid hO, ?_, Ext.grown (he.trans E.out) hG (by simp), Nat.lt_of_lt_of_le (Nat.lt_of_lt_of_le hlt1 hse) hG.size⟩
        rw [take_snoc_of HTK.out]
        have hcz := cz_mono (M := fun k => k = w.heap.size) ((Fr.of_ext E.out).trans f) (Nat.le_refl _) (fun k h1 h2 h => by omega) HF.out
        exact cz_snoc (m := wr.heap.size) (hi := m) (own_mono (fun k hk => hk) f (fun k hk h => by omega) _ _ HV.out.1) (HV.out.2.mono (fun k hk => ⟨hk.1, by omega⟩) f (fun k hk h => by omega)) hm1 (by omega) hcz
      case measure => simp [intOf]; omega
    · have hkn : k = ts.length := by omega
      subst hkn
      have hf := HF.out
      rw [List.take_of_length_le (Nat.le_refl _)] at hf
      have hrest : rest = [] := by
        have h1 := HOW.out.1
        have h2 := cz_len hf
        rw [List.length_append] at h1
        exact List.eq_nil_of_length_eq_zero (by omega)
      subst hrest
      have HS : Hid (OwnC (w.heap.size + 1) wr.heap.size ts (.slice (some ⟨w.heap.size, 0, none⟩) ts.length ts.length) wr) := Lib.hid ⟨w.heap.size, done, rfl, rfl, by simpa using own_low HOW.out (Nat.zero_le _), hf⟩
      clear hf
      go_wp2_with fail
      go_ret
      exact ⟨_, rfl, HS.out, he⟩

end Go.Proofs.Ytagaciadcgijoaa
