/-
  Goals that are built in, plain: what the laws over drawn goals speak of. And the readings of a term that a program lays: a row of kids, then the term.
-/
import Derived.Deep.CutBlock
import Derived.Test.YtdelhgodhkbjdaaMg40
import Derived.Test.YtdelhgodhkbjdaaMg19
import Derived.Test.YtdelhgodhkbjdaaMg18
import Derived.Test.YtdelhgodhkbjdaaMg23
import Derived.Test.YtdelhgodhkbjdaaMg16
import Derived.Test.YtdelhgodhkbjdaaMg17
namespace Go.Proofs.Ytdelhgodhkbjdaa
open Go.RowKit
set_option linter.unusedVariables false

theorem struct_at {S : Nat → Prop} {w : World} {ts : List Tm} {xs : List Value} (s : ByteArray) (T : Nat) (hs : s.size ≤ 1048576) (hl : ts.length ≤ 1048576) (hf : Tm.flat S w ts xs) :
    Tm.at (fun _ => True) (w.alloc (.cells xs.toArray T)) (.mk 3 0 s ts) (.agg #[.int .i64 3, .int .i64 0, .string s, .slice (some ⟨w.heap.size, 0, none⟩) ts.length ts.length]) := by
  refine Tm.at_iff.2 ⟨hs, _, rfl, some ⟨w.heap.size, 0, none⟩, ts.length, rfl, Nat.le_refl _, by omega, hl, .inr ⟨w.heap.size, 0, rfl, trivial, ?_⟩⟩
  refine flat_row (flat_mono (fun _ _ => trivial) (Agree.of_ext (Ext.alloc w (.cells xs.toArray T))) hf) ?_
  intro j hj
  obtain ⟨u, hu⟩ : ∃ u, xs[j]? = some u := ⟨xs[j], List.getElem?_eq_getElem hj⟩
  rw [hu]
  exact cell_new w xs.toArray T j u (by simpa using hu)
theorem flat1 {S : Nat → Prop} {w : World} {t : Tm} {a : Option Addr} {c : Nat} (h : Tm.at S w t (.agg #[.int .i64 t.kind, .int .i64 t.n, .string t.name, .slice a t.kids.length c])) :
    Tm.flat S w [t] [.int .i64 t.kind, .int .i64 t.n, .string t.name, .slice a t.kids.length c] := ⟨a, c, [], rfl, h, rfl⟩
theorem flatc {S : Nat → Prop} {w : World} {t : Tm} {a : Option Addr} {c : Nat} {ts : List Tm} {xs : List Value} (h : Tm.at S w t (.agg #[.int .i64 t.kind, .int .i64 t.n, .string t.name, .slice a t.kids.length c])) (hr : Tm.flat S w ts xs) :
    Tm.flat S w (t :: ts) (.int .i64 t.kind :: .int .i64 t.n :: .string t.name :: .slice a t.kids.length c :: xs) := ⟨a, c, xs, rfl, h, hr⟩
theorem valid_name {s s' : ByteArray} {ks : List Tm} (h : nameF s = nameF s') : validF (.mk 3 0 s ks) = validF (.mk 3 0 s' ks) := by
  unfold validF
  simp only [scanF]
  rw [h]
  simp
/-- a goal of that name and number of kids, if valid, is a goal that is built in -/
theorem gb_of {s : ByteArray} {ks : List Tm} (h : validF (.mk 3 0 s ks) = true) (hb : isBuiltinF s.toList ks.length = true) : gbF (.mk 3 0 s ks) = true := by
  unfold gbF
  rw [h]
  simp only [Tm.kind, Tm.name, Tm.kids, builtF, hb]
  rfl
theorem gb_no {g : Tm} (h : validF g = false) : gbF g = false := by unfold gbF; rw [h]; rfl
/-- the code and the bindings of a goal that is built in -/
theorem cb_of {s : ByteArray} {ks : List Tm} {r : Int × List Tm} (h : gbF (.mk 3 0 s ks) = true) (hr : callR s.toList ks = r) :
    cbN (.mk 3 0 s ks) = (if r.1 ≠ 0 then r.1 else if okU r.2 26 = true then 0 else 5) ∧ cbR (.mk 3 0 s ks) = (if r.1 = 0 ∧ okU r.2 26 = true then bdsU r.2 26 else []) := by
  unfold cbN cbR
  simp only [Tm.name, Tm.kids, hr, h, if_true, true_and]
  try exact ⟨trivial, trivial⟩
theorem cb_none {s : ByteArray} {ks : List Tm} {n : Int} (h : gbF (.mk 3 0 s ks) = true) (hr : callR s.toList ks = (n, known0)) : cbN (.mk 3 0 s ks) = n ∧ cbR (.mk 3 0 s ks) = [] := by
  obtain ⟨h1, h2⟩ := cb_of h hr
  rw [h1, h2]
  simp only [(okU0 26).1, (okU0 26).2]
  refine ⟨?_, by split <;> rfl⟩
  split
  · rfl
  · rename_i h; simp at h; simp [h]
abbrev nVar : ByteArray := ⟨#[118, 97, 114]⟩
abbrev nNonvar : ByteArray := ⟨#[110, 111, 110, 118, 97, 114]⟩
theorem nVar_l : nVar.toList = [118, 97, 114] := by decide +kernel
theorem nNonvar_l : nNonvar.toList = [110, 111, 110, 118, 97, 114] := by decide +kernel
theorem test_codes {t : Tm} (h : validF (.mk 3 0 nVar [t]) = true) :
    (cbN (.mk 3 0 nVar [t]) = holdsN (t.kind == 1) ∧ cbR (.mk 3 0 nVar [t]) = []) ∧ (cbN (.mk 3 0 nNonvar [t]) = holdsN (t.kind != 1) ∧ cbR (.mk 3 0 nNonvar [t]) = []) := by
  have h2 : validF (.mk 3 0 nNonvar [t]) = true := by rw [← h]; exact valid_name (by decide +kernel)
  refine ⟨cb_none (gb_of h (by rw [nVar_l]; rfl)) ?_, cb_none (gb_of h2 (by rw [nNonvar_l]; rfl)) ?_⟩
  · rw [nVar_l]; simp [callR, kidAt]
  · rw [nNonvar_l]; simp [callR, kidAt]
/-- a call of CallBuiltin whose answer is known -/
theorem calls_cb {P : Program} {f : FuncId} {args : Array Value} {w : World} {r r' : List Bd} {n n' : Int} (h : Calls P f args w (BdBO r (.int .i64 n) w)) (e : r = r') (e' : n = n') : Calls P f args w (BdBO r' (.int .i64 n') w) := by
  rw [← e, ← e']; exact h
theorem calls_bo {P : Program} {f : FuncId} {args : Array Value} {w : World} {a b : Bool} {M : World → Prop} (h : Calls P f args w fun e w' => e = .returned (.bool a) ∧ M w') (e : a = b) : Calls P f args w fun e w' => e = .returned (.bool b) ∧ M w' := by
  rw [← e]; exact h
end Go.Proofs.Ytdelhgodhkbjdaa

/-
  The reference's unification: walks.
-/
namespace Go.Proofs.Ytdelhgodhkbjdaa
open Go.RowKit
set_option linter.unusedVariables false

def CapOk (c : Nat) : Prop := 26 ≤ c ∧ c ≤ 9223372036854775807
set_option maxRecDepth 100000 in
set_option maxHeartbeats 4000000 in
theorem specl3Walk (F : Nat) (K : List Tm) (t x : Tm) (hw : walkF F K t = some x) (v : Value) (S : Nat → Prop) (w : World) (kb kc d : Nat) (hv : VK K) (hs : shapeF t d = true) (hB : ∀ b, S b → b < w.heap.size) (ht : Tm.at S w t v) (hk : Kn S w kb K) (hc : CapOk kc) :
    Calls Try.prog 86 #[v, .slice (some ⟨kb, 0, none⟩) 26 kc] w fun e w' => ∃ v', e = .returned v' ∧ Tm.at S w' x v' ∧ Ext w w' := by
  have HKN := Lib.hid hk
  have HVK := Lib.hid hv
  have HS := Lib.hid hs
  have HW := Lib.hid hw
  have HB0 := Lib.hid hB
  obtain ⟨hc1, hc2⟩ := hc
  have lkb := hk.lt
  clear hB hv hs hw hk
  obtain ⟨a, c, rfl⟩ := at_form ht
  have V := Lib.hid ht
  clear ht
  go_enter Try.func86, Try.ntmps86
  go_wp2_with fail
  go_loopg [] F (fun g wr => ∃ (cur : Tm) (ac : Option Addr) (cc e : Nat), Hid (walkF g K cur = some x) ∧ Hid (shapeF cur e = true) ∧ Hid (BoxT wr w.heap.size (.int .i64 cur.kind) (.int .i64 cur.n) (.string cur.name) (.slice ac cur.kids.length cc)) ∧
      Hid (Tm.at S wr cur (.agg #[.int .i64 cur.kind, .int .i64 cur.n, .string cur.name, .slice ac cur.kids.length cc])) ∧ Hid (BoxT wr (w.heap.size + 1) (.int .i64 0) (.int .i64 0) (.string ⟨#[]⟩) (.slice none 0 0)) ∧ Hid (Ext w wr))
  case atStart =>
    refine ⟨t, a, c, d, HW, HS, Lib.hid ?_, Lib.hid (Tm.at_ext ((Ext.alloc _ _).trans (Ext.alloc _ _)) V.out), Lib.hid ?_, Lib.hid ((Ext.alloc _ _).trans (Ext.alloc _ _))⟩
    · exact (BoxT.new w _ _ _ _ 25 rfl).ext (Ext.alloc _ _)
    · exact BoxT.new _ _ _ _ _ 25 (by simp)
  case round =>
    obtain ⟨cur, ac, cc, e, HWc, HSc, HP, HV, HR, HE⟩ := hrel
    obtain ⟨g, rfl⟩ : ∃ g, gk = g + 1 := by
      cases gk with
      | zero => exact absurd HWc.out (by simp [walkF])
      | succ g => exact ⟨g, rfl⟩
    obtain ⟨k, n, s, ks⟩ := cur
    simp only [Tm.kind, Tm.n, Tm.name, Tm.kids] at HP HV
    obtain ⟨p0, p1, p2, p3, f0, f1, f2, f3⟩ := HP.out
    obtain ⟨r0, r1, r2, r3, g0, g1, g2, g3⟩ := HR.out
    have lP := HP.out.lt
    have lR : w.heap.size + 1 < wr.heap.size := HR.out.lt
    have FIN : Hid (∀ X, Fr (fun k => k = w.heap.size + 1) wr X → (Tm.mk k n s ks) = x → ∃ v', Ending.returned (.agg #[.int .i64 k, .int .i64 n, .string s, .slice ac ks.length cc]) = Ending.returned v' ∧ Tm.at S X x v' ∧ Ext w X) := Lib.hid (fun X f h => by
      subst h
      exact ⟨_, rfl, f.at HV.out (fun k hk h => by have := HB0.out k hk; omega), ((Fr.of_ext HE.out).trans f).toExt (fun k hk h => by omega)⟩)
    by_cases hk : k = 1
    · subst hk
      obtain ⟨hn0, hn1⟩ := shape_var HSc.out
      have hn26 : n < 26 := by omega
      obtain ⟨ra, rc, q0, q1, q2, q3, hat, z0, z1, z2, z3⟩ := HKN.out.look ⟨hn0, hn1⟩
      obtain ⟨N, rfl⟩ := Int.eq_ofNat_of_zero_le hn0
      have hN : N < 26 := by omega
      simp only [Int.toNat_natCast] at q0 q1 q2 q3 z0 z1 z2 z3
      have q0 := HE.out.cell q0
      have q1 := HE.out.cell q1
      have q2 := HE.out.cell q2
      have q3 := HE.out.cell q3
      by_cases hz : (lookK K (N : Int)).kind = 0
      · have HX : Hid (Tm.mk 1 (N : Int) s ks = x) := Lib.hid (by
          have := HWc.out
          rw [walkF, if_neg (by rintro ⟨_, h⟩; exact h hz)] at this
          exact Option.some.inj this)
        have hz' : ((lookK K (N : Int)).kind != 0) = false := by simp [hz]
        clear hat hz z0 z1 z2 z3
        go_wp2_with fail
        refine ret4_set (p := 4) (T := 25) (b := w.heap.size + 1) (by kernel_rfl) (fun _ => by kernel_rfl) (fun _ => by kernel_rfl) rfl rfl r0 r1 r2 r3 ?_
        intro X hX
        exact FIN.out X (Fr.of_grown hX (fun k e => by cases e; rfl)) HX.out
      · obtain ⟨e', hsr'⟩ := HVK.out.2 _ hn0 hn1 hz
        obtain ⟨r, hr⟩ : ∃ r, lookK K (N : Int) = r := ⟨_, rfl⟩
        have HWn : Hid (walkF g K r = some x) := Lib.hid (by
          have := HWc.out
          rw [walkF, if_pos ⟨rfl, hz⟩] at this
          simp only [Tm.n] at this
          rwa [hr] at this)
        have hz' : ((lookK K (N : Int)).kind != 0) = true := by simpa using hz
        rw [hr] at hat hsr' q0 q1 q2 q3 hz'
        have HSr := Lib.hid hsr'
        have HAT := Lib.hid (Tm.at_ext HE.out hat)
        clear hz hr hat hsr' z0 z1 z2 z3 FIN
        go_wp2_with fail
        have f4 : Fr (fun k => k = w.heap.size) wr _ := put4_frw wr (b := w.heap.size) (.int .i64 r.kind) (.int .i64 r.n) (.string r.name) (.slice ra r.kids.length rc) rfl
        go_roundg g
        case measure => omega
        case rel => exact ⟨r, ra, rc, e', HWn, HSr, Lib.hid (BoxT.put4 HP.out _ _ _ _), Lib.hid (f4.at HAT.out (fun k hk h => by have := HB0.out k hk; omega)), Lib.hid (HR.out.fr f4 (by omega)), Lib.hid (((Fr.of_ext HE.out).trans f4).toExt (fun k hk h => by omega))⟩
    · have HX : Hid (Tm.mk k n s ks = x) := Lib.hid (by
        have := HWc.out
        rw [walkF, if_neg (by rintro ⟨h, _⟩; exact hk h)] at this
        exact Option.some.inj this)
      have hk' : (k == 1) = false := by simpa using hk
      clear hk
      go_wp2_with fail
      refine ret4_set (p := 4) (T := 25) (b := w.heap.size + 1) (by kernel_rfl) (fun _ => by kernel_rfl) (fun _ => by kernel_rfl) rfl rfl r0 r1 r2 r3 ?_
      intro X hX
      exact FIN.out X (Fr.of_grown hX (fun k e => by cases e; rfl)) HX.out
end Go.Proofs.Ytdelhgodhkbjdaa

/-
  The reference's search of a variable in a term, plain: the work list.
-/
namespace Go.Proofs.Ytdelhgodhkbjdaa
open Go.RowKit
set_option linter.unusedVariables false

mutual
theorem varsF_iff (x : Int) : ∀ (t : Tm) (zs : List Int), x ∈ varsF t zs ↔ x ∈ zs ∨ occV x t
  | .mk k n s ks, zs => by
    simp only [varsF, occV]
    rw [varsL_iff x ks]
    split
    · rename_i h
      simp only [Bool.and_eq_true, beq_iff_eq] at h
      simp only [List.mem_append, List.mem_singleton]
      constructor
      · rintro ((h1 | rfl) | h1)
        · exact .inl h1
        · exact .inr (.inl ⟨h.1, rfl⟩)
        · exact .inr (.inr h1)
      · rintro (h1 | ⟨_, rfl⟩ | h1)
        · exact .inl (.inl h1)
        · exact .inl (.inr rfl)
        · exact .inr h1
    · rename_i h
      constructor
      · rintro (h1 | h1)
        · exact .inl h1
        · exact .inr (.inr h1)
      · rintro (h1 | ⟨rfl, rfl⟩ | h1)
        · exact .inl h1
        · simp [hasI] at h
          exact .inl h
        · exact .inr h1
theorem varsL_iff (x : Int) : ∀ (ts : List Tm) (zs : List Int), x ∈ varsL ts zs ↔ x ∈ zs ∨ occL x ts
  | [], zs => by simp [varsL, occL]
  | t :: ts, zs => by
    simp only [varsL, occL]
    rw [varsL_iff x ts, varsF_iff x t]
    exact or_assoc
end
mutual
theorem varsF_pre : ∀ (t : Tm) (zs : List Int), ∃ r, varsF t zs = zs ++ r
  | .mk k n s ks, zs => by
    simp only [varsF]
    split
    · obtain ⟨r, h⟩ := varsL_pre ks (zs ++ [n])
      exact ⟨n :: r, by rw [h]; simp⟩
    · exact varsL_pre ks zs
theorem varsL_pre : ∀ (ts : List Tm) (zs : List Int), ∃ r, varsL ts zs = zs ++ r
  | [], zs => ⟨[], by simp [varsL]⟩
  | t :: ts, zs => by
    simp only [varsL]
    obtain ⟨r, h⟩ := varsF_pre t zs
    obtain ⟨q, h2⟩ := varsL_pre ts (varsF t zs)
    exact ⟨r ++ q, by rw [h2, h]; simp⟩
end
theorem nodup_range : ∀ (m : Nat) (l : List Int), l.Nodup → (∀ x ∈ l, 0 ≤ x ∧ x < m) → l.length ≤ m
  | 0, l, _, h => by
    cases l with
    | nil => exact Nat.le_refl _
    | cons x l => have := h x (by simp); omega
  | m + 1, l, hn, h => by
    have h1 : (l.erase (m : Int)).length ≤ m := nodup_range m _ (hn.erase _) (fun x hx => by
      have h2 := h x (List.mem_of_mem_erase hx)
      have h3 : x ≠ m := fun e => by
        subst e
        exact (List.Nodup.not_mem_erase hn) hx
      omega)
    have h2 := List.length_erase_le (a := (m : Int)) (l := l)
    by_cases hm : (m : Int) ∈ l
    · have := List.length_erase_of_mem hm
      omega
    · have := List.erase_of_not_mem hm
      rw [this] at h1
      omega

/-- the work list W, the first i of it done -/
def WkL (K : List Tm) (n : Int) (t : Tm) (W : List Int) (i : Nat) : Prop :=
  W.Nodup ∧ (∀ m ∈ W, 0 ≤ m ∧ m ≤ 25) ∧ (∀ x, occV x t → x ∈ W) ∧ (∀ m ∈ W, Rch K n m → OccT K n t) ∧
    ∀ (j : Nat) (m : Int), j < i → W[j]? = some m → m ≠ n ∧ ((lookK K m).kind ≠ 0 → ∀ p, occV p (lookK K m) → p ∈ W)
theorem WkL.len {K : List Tm} {n : Int} {t : Tm} {W : List Int} {i : Nat} (h : WkL K n t W i) : W.length ≤ 26 := nodup_range 26 W h.1 (fun x hx => by have := h.2.1 x hx; omega)
theorem WkL.start {K : List Tm} {n : Int} {t : Tm} {d : Nat} (hs : shapeF t d = true) : WkL K n t (varsF t []) 0 := by
  refine ⟨varsF_nodup t [] (by simp), fun m hm => ?_, fun x hx => (varsF_iff x t []).2 (.inr hx), fun m hm hr => ?_, fun j m h => absurd h (Nat.not_lt_zero _)⟩
  · rcases (varsF_iff m t []).1 hm with h | h
    · simp at h
    · exact occ_shape t d hs h
  · rcases (varsF_iff m t []).1 hm with h | h
    · simp at h
    · exact ⟨m, h, hr⟩
theorem WkL.found {K : List Tm} {n : Int} {t : Tm} {W : List Int} {i : Nat} (h : WkL K n t W i) (hi : W[i]? = some n) : OccT K n t := h.2.2.2.1 n (List.mem_of_getElem? hi) Rch.here
theorem WkL.skip {K : List Tm} {n m : Int} {t : Tm} {W : List Int} {i : Nat} (h : WkL K n t W i) (hi : W[i]? = some m) (hm : m ≠ n) (h0 : (lookK K m).kind = 0) : WkL K n t W (i + 1) := by
  refine ⟨h.1, h.2.1, h.2.2.1, h.2.2.2.1, fun j p hj hp => ?_⟩
  by_cases e : j = i
  · subst e
    rw [hi] at hp
    cases hp
    exact ⟨hm, fun h1 => absurd h0 h1⟩
  · exact h.2.2.2.2 j p (by omega) hp
theorem WkL.next {K : List Tm} {n m : Int} {t : Tm} {W : List Int} {i d : Nat} (h : WkL K n t W i) (hi : W[i]? = some m) (hm : m ≠ n) (h0 : (lookK K m).kind ≠ 0) (hs : shapeF (lookK K m) d = true) : WkL K n t (varsF (lookK K m) W) (i + 1) := by
  obtain ⟨r, hr⟩ := varsF_pre (lookK K m) W
  have hlt := (List.getElem?_eq_some_iff.1 hi).1
  have hmW := List.mem_of_getElem? hi
  have hmb := h.2.1 m hmW
  refine ⟨varsF_nodup _ W h.1, fun p hp => ?_, fun x hx => (varsF_iff x _ W).2 (.inl (h.2.2.1 x hx)), fun p hp hrp => ?_, fun j p hj hp => ?_⟩
  · rcases (varsF_iff p _ W).1 hp with h1 | h1
    · exact h.2.1 p h1
    · exact occ_shape _ d hs h1
  · rcases (varsF_iff p _ W).1 hp with h1 | h1
    · exact h.2.2.2.1 p h1 hrp
    · exact h.2.2.2.1 m hmW (Rch.step hmb.1 hmb.2 h0 h1 hrp)
  · rw [hr, List.getElem?_append_left (by omega)] at hp
    by_cases e : j = i
    · subst e
      rw [hi] at hp
      cases hp
      exact ⟨hm, fun _ p hp => (varsF_iff p _ W).2 (.inr hp)⟩
    · obtain ⟨h1, h2⟩ := h.2.2.2.2 j p (by omega) hp
      exact ⟨h1, fun h3 q hq => (varsF_iff q _ W).2 (.inl (h2 h3 q hq))⟩
theorem WkL.none {K : List Tm} {n : Int} {t : Tm} {W : List Int} (h : WkL K n t W W.length) : ¬ OccT K n t := by
  have hc : ∀ m, Rch K n m → m ∈ W → False := by
    intro m hr
    induction hr with
    | here =>
      intro hm
      obtain ⟨j, hj, e⟩ := List.getElem_of_mem hm
      exact (h.2.2.2.2 j n hj (by rw [List.getElem?_eq_getElem hj, e])).1 rfl
    | step h0 h1 h2 h3 _ ih =>
      intro hm
      obtain ⟨j, hj, e⟩ := List.getElem_of_mem hm
      exact ih ((h.2.2.2.2 j _ hj (by rw [List.getElem?_eq_getElem hj, e])).2 h2 _ h3)
  rintro ⟨m, h1, h2⟩
  exact hc m h2 (h.2.2.1 m h1)

/-- sizes -/
def SzK (K : List Tm) : Prop := ∀ n : Int, 0 ≤ n → n ≤ 25 → Tm.sz (lookK K n) ≤ 120
theorem szk0 : SzK known0 := fun n _ _ => by rw [look_known0]; decide
theorem SzK.set {K : List Tm} {n : Int} {u : Tm} (h : SzK K) (hl : K.length = 26) (hn : 0 ≤ n ∧ n ≤ 25) (hu : Tm.sz u ≤ 120) : SzK (K.set n.toNat u) := fun m h1 h2 => by
  rw [look_set hl hn ⟨h1, h2⟩]
  split
  · exact hu
  · exact h m h1 h2
theorem walk_sz {K : List Tm} (h : SzK K) (hv : VK K) : ∀ {f : Nat} {t x : Tm} {d : Nat}, shapeF t d = true → Tm.sz t ≤ 120 → walkF f K t = some x → Tm.sz x ≤ 120
  | 0, _, _, _, _, _, hw => by simp [walkF] at hw
  | f + 1, t, x, d, hs, ht, hw => by
    simp only [walkF] at hw
    split at hw
    · rename_i e
      have hb := shape_occ hs e.1
      obtain ⟨d', hs'⟩ := hv.2 _ hb.1 hb.2 e.2
      exact walk_sz h hv hs' (h _ hb.1 hb.2) hw
    · cases hw; exact ht
theorem sz_kid {t u : Tm} {j : Nat} (h : t.kids[j]? = some u) : Tm.sz u ≤ Tm.sz t := by
  obtain ⟨k, n, s, ks⟩ := t
  replace h : ks[j]? = some u := h
  have := kid_lt (k := k) (n := n) (s := s) h
  omega
def SzF (f : Nat) : Prop := ∀ (K : List Tm) (a b : Tm) (d e : Nat) (K1 : List Tm), VK K → (∃ ρ, Rk K ρ) → SzK K → shapeF a d = true → shapeF b e = true → Tm.sz a ≤ 120 → Tm.sz b ≤ 120 → uniF f K a b = some (true, K1) → SzK K1
theorem szL_uni {f : Nat} (h : SzF f) : ∀ (ts us : List Tm) (K : List Tm) (d e : Nat) (K1 : List Tm), VK K → (∃ ρ, Rk K ρ) → SzK K → shapeL ts d = true → shapeL us e = true → (∀ t ∈ ts, Tm.sz t ≤ 120) → (∀ t ∈ us, Tm.sz t ≤ 120) → uniL f K ts us = some (true, K1) → SzK K1
  | [], us, K, d, e, K1, hv, hr, hz, _, _, _, _, h1 => by rw [uniL_nil] at h1; cases h1; exact hz
  | t :: ts, [], K, d, e, K1, hv, hr, hz, _, _, _, _, h1 => by rw [uniL_nil'] at h1; cases h1; exact hz
  | t :: ts, u :: us, K, d, e, K1, hv, hr, hz, ht, hu, st, su, h1 => by
    rw [uniL_cons] at h1
    simp only [shapeL, Bool.and_eq_true] at ht hu
    cases he : uniF f K t u with
    | none => rw [he] at h1; simp at h1
    | some q =>
      obtain ⟨c, K2⟩ := q
      rw [he] at h1
      cases c
      · simp at h1
      · have g := outF f K t u d e K2 hv hr ht.1 hu.1 he
        exact szL_uni h ts us K2 d e K1 g.1 g.2.1 (h K t u d e K2 hv hr hz ht.1 hu.1 (st t (by simp)) (su u (by simp)) he) ht.2 hu.2 (fun x hx => st x (by simp [hx])) (fun x hx => su x (by simp [hx])) h1
theorem sz_uni : ∀ f, SzF f
  | 0 => fun K a b d e K1 _ _ _ _ _ _ _ h => by unfold uniF at h; simp at h
  | f + 1 => by
    intro K a b d e K1 hv hr hz ha hb sa sb h
    obtain ⟨x, y, hx, hy⟩ := uniF_walks h
    obtain ⟨d1, hsx⟩ := walk_shape hv ha hx
    obtain ⟨e1, hsy⟩ := walk_shape hv hb hy
    have zx := walk_sz hz hv ha sa hx
    have zy := walk_sz hz hv hb sb hy
    rw [uniF_succ hx hy] at h
    split at h
    · cases h; exact hz
    split at h
    · rename_i hk
      split at h
      · cases h
      · cases h; exact hz.set hv.1 (shape_occ hsx hk) zy
    split at h
    · rename_i hk
      split at h
      · cases h
      · cases h; exact hz.set hv.1 (shape_occ hsy hk) zx
    split at h
    · exact szL_uni (sz_uni f) _ _ K _ _ K1 hv hr hz (kids_shape hsx) (kids_shape hsy) (fun t ht => by obtain ⟨j, hj, e⟩ := List.getElem_of_mem ht; have := sz_kid (t := x) (u := t) (j := j) (by rw [List.getElem?_eq_getElem hj, e]); omega) (fun t ht => by obtain ⟨j, hj, e⟩ := List.getElem_of_mem ht; have := sz_kid (t := y) (u := t) (j := j) (by rw [List.getElem?_eq_getElem hj, e]); omega) h
    · cases h
end Go.Proofs.Ytdelhgodhkbjdaa

/-
  The reference's unification: whether a variable occurs in a term.
-/
namespace Go.Proofs.Ytdelhgodhkbjdaa
open Go.RowKit
set_option linter.unusedVariables false

set_option maxRecDepth 100000 in
set_option maxHeartbeats 8000000 in
theorem specl3Within (K : List Tm) (n : Int) (t : Tm) (v : Value) (S : Nat → Prop) (w : World) (kb kc d : Nat) (hv : VK K) (hz : SzK K) (hs : shapeF t d = true) (hsz : Tm.sz t ≤ 120) (hB : ∀ b, S b → b < w.heap.size) (ht : Tm.at S w t v) (hk : Kn S w kb K) (hc : CapOk kc) :
    Calls Try.prog 98 #[.int .i64 n, v, .slice (some ⟨kb, 0, none⟩) 26 kc] w fun e w' => e = .returned (.bool (occB K n t)) ∧ Ext w w' := by
  have HKN := Lib.hid hk
  have HVK := Lib.hid hv
  have HZK := Lib.hid hz
  have HS := Lib.hid hs
  have HSZ := Lib.hid hsz
  have HB := Lib.hid hB
  obtain ⟨hc1, hc2⟩ := hc
  have lkb := hk.lt
  clear hB hv hs hk hz hsz
  obtain ⟨a, c, rfl⟩ := at_form ht
  have V := Lib.hid ht
  clear ht
  go_enter Try.func98, Try.ntmps98
  go_wp2_with fail
  obtain ⟨w1, hw1⟩ : ∃ z, z = w.alloc (.cells #[.int .i64 t.kind, .int .i64 t.n, .string t.name, .slice a t.kids.length c] 25) := ⟨_, rfl⟩
  have E1 : Hid (Ext w w1) := Lib.hid (by rw [hw1]; exact Ext.alloc _ _)
  rw [← hw1]
  clear hw1
  refine (specl1Vars _ t (Nat.le_refl _) _ _ [] S (fun b => w1.heap.size ≤ b) _ (Tm.at_ext E1.out V.out) (IntI.nil _ _) (fun b h => h) (fun b h1 h2 h3 => by omega) (by have := HSZ.out; simp; omega)).mono ?_
  rw [vars_eq _ _ _ HS.out]
  rintro e w2 ⟨v2, rfl, hI, hf⟩
  have HI := Lib.hid hI
  have E2 := Lib.hid (E1.out.trans (hf.toExt (fun k hk h => by omega)))
  obtain ⟨a2, c2, rfl⟩ := hI.form
  have lw2 := Below.size E2.out
  have lw1 := Below.size E1.out
  clear hI hf
  go_wp2_with fail
  go_loopw [7, 8] (fun q i wr => ∃ (j : Nat) (W : List Int) (aw : Option Addr) (cw : Nat), j ≤ W.length ∧ i = .int .i64 j ∧ q = .slice aw W.length cw ∧ Hid (WkL K n t W j) ∧ Hid (IntI (fun b => w.heap.size ≤ b) W (.slice aw W.length cw) wr) ∧ Hid (Ext w wr)) (fun _ i _ => 26 - (intOf i).toNat)
  case atStart => exact ⟨0, varsF t [], a2, c2, Nat.zero_le _, rfl, rfl, Lib.hid (WkL.start HS.out), Lib.hid (HI.out.zone (fun b h => by omega)), E2⟩
  case round =>
    obtain ⟨j, W, aw, cw, hj, rfl, rfl, HW, HIW, HE⟩ := hrel
    have hlen := HW.out.len
    have lwr := Below.size HE.out
    by_cases hlt : j < W.length
    · obtain ⟨m, hm⟩ : ∃ m, W[j]? = some m := ⟨W[j], List.getElem?_eq_getElem hlt⟩
      have hmb := HW.out.2.1 m (List.mem_of_getElem? hm)
      have HM := Lib.hid hm
      obtain ⟨ad, cap, e1, h1, h2, h3, h4⟩ := HIW.out.ints
      simp only [Value.slice.injEq] at e1
      obtain ⟨rfl, _, rfl⟩ := e1
      rcases h4 with h4 | ⟨bw, ow, rfl, hcl⟩
      · rw [h4] at hlt; simp at hlt
      have l1 := hcl j m hm
      clear hcl hm
      obtain ⟨hm0, hm1⟩ := hmb
      obtain ⟨M, rfl⟩ := Int.eq_ofNat_of_zero_le hm0
      have hM : M < 26 := by omega
      have hM' : (M : Int) < 26 := by omega
      obtain ⟨ra, rc, q0, q1, q2, q3, hat, z0, z1, z2, z3⟩ := HKN.out.look ⟨hm0, hm1⟩
      simp only [Int.toNat_natCast] at q0 q1 q2 q3 z0 z1 z2 z3
      have q0 := HE.out.cell q0
      have q1 := HE.out.cell q1
      have q2 := HE.out.cell q2
      have q3 := HE.out.cell q3
      by_cases hmn : (M : Int) = n
      · have HF : Hid (occB K n t = true) := Lib.hid (occB_true (HW.out.found (by rw [← hmn]; exact HM.out)))
        have hmn' : ((M : Int) == n) = true := by simp [hmn]
        clear hmn hat
        go_wp2_with fail
        go_ret
        exact ⟨retB HF.out.symm, HE.out⟩
      · have hmn' : ((M : Int) == n) = false := by simpa using hmn
        by_cases hz : (lookK K (M : Int)).kind = 0
        · have HN := Lib.hid (HW.out.skip HM.out hmn hz)
          have hz' : ((lookK K (M : Int)).kind != 0) = false := by simp [hz]
          clear hz hat hmn
          go_wp2_with fail
          exact ⟨⟨j + 1, W, _, cw, by omega, by go_num, rfl, HN, HIW, HE⟩, by simp [intOf]; omega⟩
        · obtain ⟨e', hsr⟩ := HVK.out.2 _ hm0 hm1 hz
          have HN := Lib.hid (HW.out.next HM.out hmn hz hsr)
          have hzr := HZK.out _ hm0 hm1
          have hz' : ((lookK K (M : Int)).kind != 0) = true := by simpa using hz
          obtain ⟨r, hr⟩ : ∃ r, lookK K (M : Int) = r := ⟨_, rfl⟩
          rw [hr] at hat hsr q0 q1 q2 q3 hz' HN hzr
          have HSR := Lib.hid hsr
          have HAT := Lib.hid (Tm.at_ext HE.out hat)
          clear hz hr hat hsr hmn
          go_wp2_with fail
          refine (specl1Vars _ r (Nat.le_refl _) _ _ W S (fun b => w.heap.size ≤ b) _ HAT.out HIW.out (fun b h => by omega) (fun b h1 h2 h3 => by have := HB.out b h1; omega) (by omega)).mono ?_
          rw [vars_eq _ _ _ HSR.out]
          rintro e w3 ⟨v3, rfl, hI3, hf3⟩
          have HI3 := Lib.hid hI3
          have E3 := Lib.hid (((Fr.of_ext HE.out).trans hf3).toExt (fun k hk h => by omega))
          obtain ⟨a3, c3, rfl⟩ := hI3.form
          have hle : j + 1 ≤ (varsF r W).length := by
            obtain ⟨q, hq⟩ := varsF_pre r W
            rw [hq]; simp; omega
          clear hI3 hf3
          go_wp2_with fail
          exact ⟨⟨j + 1, varsF r W, a3, c3, hle, by go_num, rfl, HN, HI3, E3⟩, by simp [intOf]; omega⟩
    · have hjj : j = W.length := by omega
      subst hjj
      have HF : Hid (occB K n t = false) := Lib.hid (occB_false HW.out.none)
      go_wp2_with fail
      go_ret
      exact ⟨retB HF.out.symm, HE.out⟩
end Go.Proofs.Ytdelhgodhkbjdaa
