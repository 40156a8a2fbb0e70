/-
  Generalization: the reference's l3General, the loop over arguments.
-/
import Derived.Test.YteplfajhmpmklaaMg40
namespace Go.Proofs.Yteplfajhmpmklaa
open Go.RowKit
set_option linter.unusedVariables false

/-- append of one term in a plain list, all in zone z .. but for the blocks of X -/
theorem wpList_append_owx {P : Program} {ops : Array Oper} {rest : List Oper} {o : Oper} {a : Act} {w0 w1 : World} {Q : Exit → Act → World → Prop} (X : Nat → Prop)
    (hgd : o.guard = none) (s x : Operand) (ty : TypeId)
    (ho : o.op = .call { callee := .builtin .append, args := #[s, x], argTypes := #[ty, ty] })
    (z : Nat) (i : TypeInfo) (ht : P.underlying ty = some (.slice 29)) (hi : P.info? 29 = some i) (hz : i.zero = some (.agg #[.int .i64 0, .int .i64 0, .string ⟨#[]⟩, .slice none 0 0]))
    (hsize : i.size = 4) (hby : i.bytes = 56)
    (v : Value) (ts : List Tm) (t : Tm) (a2 : Option Addr) (c2 : Nat) (hs : a.eval s = v) (happ : OwnS (fun b => z ≤ b ∧ b < w0.heap.size ∧ ¬ X b) ts v w1) {nb : Nat} (hx : a.eval x = .slice (some ⟨nb, 0, none⟩) 1 1)
    (hv1 : Tm.own (fun b => w0.heap.size ≤ b ∧ ¬ X b) w1 t (.slice a2 t.kids.length c2)) (hw : w0.heap.size ≤ w1.heap.size) (hzw : z ≤ w0.heap.size) (hX : ∀ b, X b → b < w1.heap.size)
    (hl : ts.length < 1048576) (hnb : nb = w1.heap.size)
    (h : ∀ av cv w2, OwnS (fun b => z ≤ b ∧ b < w2.heap.size ∧ ¬ X b) (ts ++ [t]) (.slice av (ts.length + 1) cv) w2 → Fr (fun b => z ≤ b ∧ ¬ X b) w1 w2 → wpList P ops Q rest (a.put o.dst (.slice av (ts.length + 1) cv)) w2) :
    wpList P ops Q (o :: rest) a (w1.alloc (.cells #[.int .i64 t.kind, .int .i64 t.n, .string t.name, .slice a2 t.kids.length c2] 29)) := by
  subst hnb
  obtain ⟨xs, how, hzz, hfl⟩ := happ
  have hb := own_bound _ _ hv1
  refine wpList_append_fresh hgd s x ty ho 0 29 i _ 4 56 ht hi hz hsize hby rfl (by decide) v ts.length xs hs (own_ext how (Ext.alloc _ _)) ⟨w1.heap.size, 0, none⟩ 1 1 (tcells t a2 c2) hx rfl (fun j u h => cell_four _ _ _ j u h) (by simp [tcells, Value.oneCell']) (by unfold maxLen; omega) (by omega) (by omega) ?_
  intro v2 w2 ho2 hg2 hfr2 _
  obtain ⟨av, cv, rfl⟩ := own_form ho2
  have hn := ownS_next how hzz hfl hb (fun b h1 h2 => by omega) (fun b h => by omega) (fun b h => by omega) ho2 hg2 hfr2
  refine h av cv w2 ((hn.bound).mono (M := fun _ => False) (fun b hb => ⟨?_, hb.2, ?_⟩) (Fr.refl _ _) (fun _ _ h => h)) ((Fr.alloc _ _).trans (Fr.of_grown hg2 (fun k hk => ⟨(hzz k hk).1, (hzz k hk).2.2⟩)))
  · rcases hb.1 with h | h | h <;> omega
  · rcases hb.1 with h | h | h
    · exact h.2.2
    · exact h.1.2
    · intro hx; have := hX _ hx; omega
/-- the value of a call's two results -/
def tup (x : Tm) (a : Option Addr) (c : Nat) (l r : Value) : Value := .tuple #[val4 x a c, .agg #[l, r]]
/-- what the call leaves: R blocks that are new -/
def Res2 (Y : Zone) (x : Tm) (qs : List (Tm × Tm)) (v : Value) (R : Zone) (w : World) : Prop :=
  ∃ a c l r Y', v = tup x a c l r ∧ (∃ la lc, l = .slice la qs.length lc) ∧ (∃ ra rc, r = .slice ra qs.length rc) ∧ Tm.own (fun b => R b ∧ ¬ Y' b) w x (.slice a x.kids.length c) ∧ PrL Y' w qs l r ∧ ∀ b, Y' b → Y b ∨ R b
theorem Res2.fr {Y M : Zone} {x : Tm} {qs : List (Tm × Tm)} {v : Value} {R : Zone} {w w' : World} (h : Res2 Y x qs v R w) (f : Fr M w w') (hR : ∀ g, R g → ¬ M g) (hY : ∀ g, Y g → ¬ M g) : Res2 Y x qs v R w' := by
  obtain ⟨a, c, l, r, Y', h1, h2, h3, h4, h5, h6⟩ := h
  exact ⟨a, c, l, r, Y', h1, h2, h3, own_mono (fun _ h => h) f (fun b hb => hR b hb.1) _ _ h4, h5.fr f (fun g hg => (h6 g hg).elim (hY g) (hR g)), h6⟩
/-- the form of the call's value -/
def Fm (x : Tm) (qs : List (Tm × Tm)) (v : Value) : Prop := ∃ a c la lc ra rc, v = tup x a c (.slice la qs.length lc) (.slice ra qs.length rc)
def AlcT (w : World) (v0 v1 v2 v3 v : Value) (E : Zone) : Prop := ∃ nb, v = .pointer (some ⟨nb, 0, none⟩) ∧ E nb ∧ BoxT w nb v0 v1 v2 v3
def Alc2 (w : World) (v0 v1 v : Value) (E : Zone) : Prop := ∃ nb, v = .pointer (some ⟨nb, 0, none⟩) ∧ E nb ∧ Box2 w nb v0 v1
def R6 (Y : Zone) (A B P j : Nat) (ka kb : Option Addr) (la lb ca cb b off b' off' : Nat) (t u x : Tm) (a1 a2 : Option Addr) (c1 c2 : Nat) (qs : List (Tm × Tm)) (l r : Value) (i : Nat) (us : List Value) (E R : Zone) (w : World) : Prop :=
  match i with
  | 0 => us.headD undef = .pointer (some ⟨A, 3, none⟩)
  | 1 => us.headD undef = .slice ka la ca
  | 2 => us.headD undef = .int .i64 j
  | 3 => us.headD undef = .pointer (some ⟨b, off + j * 4, none⟩)
  | 4 => us.headD undef = val4 t a1 c1
  | 5 => us.headD undef = .pointer (some ⟨B, 3, none⟩)
  | 6 => us.headD undef = .slice kb lb cb
  | 7 => us.headD undef = .int .i64 j
  | 8 => us.headD undef = .pointer (some ⟨b', off' + j * 4, none⟩)
  | 9 => us.headD undef = val4 u a2 c2
  | 10 => us.headD undef = .agg #[l, r]
  | 11 => Res2 Y x qs (us.headD undef) R w
  | 12 => ∃ v, us = [v, v] ∧ Fm x qs v
  | 13 => ∃ a c l r, us = [val4 x a c, tup x a c l r]
  | 14 => ∃ a c la lc ra rc, us = [.agg #[.slice la qs.length lc, .slice ra qs.length rc], tup x a c (.slice la qs.length lc) (.slice ra qs.length rc)]
  | 15 => AlcT w (.int .i64 0) (.int .i64 0) (.string ⟨#[]⟩) (.slice none 0 0) (us.headD undef) E
  | 16 => Alc2 w (.slice none 0 0) (.slice none 0 0) (us.headD undef) E
  | 17 => ∃ v a c l r, us = [v, tup x a c l r] ∧ AlcT w (.int .i64 x.kind) (.int .i64 x.n) (.string x.name) (.slice a x.kids.length c) v E
  | 18 => ∃ v a c l r, us = [v, tup x a c l r] ∧ Alc2 w l r v E
  | _ => True
def refs6 : Nat → List Nat
  | 12 => [12, 11]
  | 13 => [13, 11]
  | 14 => [14, 11]
  | 17 => [15, 11]
  | 18 => [16, 11]
  | j => [j]
def need6 : Nat → List Nat
  | 1 => [0]
  | 3 => [1, 2]
  | 4 => [3]
  | 6 => [5]
  | 8 => [6, 7]
  | 9 => [8]
  | 11 => [4, 9, 10]
  | 12 => [11]
  | 13 => [12]
  | 14 => [12]
  | 17 => [15, 13]
  | 18 => [16, 14]
  | _ => []
def cons6 : Nat → List Nat
  | 17 => [15]
  | 18 => [16]
  | _ => []
theorem c6 {j : Nat} (hj : j = 11 ∨ j = 17 ∨ j = 18) (k : Nat) : j ∉ cons6 k := by
  unfold cons6
  rcases hj with rfl | rfl | rfl <;> split <;> simp
theorem AlcT.fr {M : Zone} {w w' : World} {v0 v1 v2 v3 v : Value} {E : Zone} (h : AlcT w v0 v1 v2 v3 v E) (f : Fr M w w') (hE : ∀ g, E g → ¬ M g) : AlcT w' v0 v1 v2 v3 v E := by
  obtain ⟨nb, h1, h2, h3⟩ := h
  exact ⟨nb, h1, h2, h3.fr f (hE nb h2)⟩
theorem Alc2.fr {M : Zone} {w w' : World} {v0 v1 v : Value} {E : Zone} (h : Alc2 w v0 v1 v E) (f : Fr M w w') (hE : ∀ g, E g → ¬ M g) : Alc2 w' v0 v1 v E := by
  obtain ⟨nb, h1, h2, h3⟩ := h
  exact ⟨nb, h1, h2, h3.fr f (hE nb h2)⟩
theorem R6.fr {Y : Zone} {A B P j : Nat} {ka kb : Option Addr} {la lb ca cb b off b' off' : Nat} {t u x : Tm} {a1 a2 : Option Addr} {c1 c2 : Nat} {qs : List (Tm × Tm)} {l r : Value} (M : Zone) : ∀ (i : Nat) (us : List Value) (E R : Zone) (w w' : World), R6 Y A B P j ka kb la lb ca cb b off b' off' t u x a1 a2 c1 c2 qs l r i us E R w → Fr M w w' → (∀ g, E g → ¬ M g) → (∀ g, R g → ¬ M g) → (∀ g, Y g → ¬ M g) → R6 Y A B P j ka kb la lb ca cb b off b' off' t u x a1 a2 c1 c2 qs l r i us E R w'
  | 0, _, _, _, _, _, h, _, _, _, _ => h
  | 1, _, _, _, _, _, h, _, _, _, _ => h
  | 2, _, _, _, _, _, h, _, _, _, _ => h
  | 3, _, _, _, _, _, h, _, _, _, _ => h
  | 4, _, _, _, _, _, h, _, _, _, _ => h
  | 5, _, _, _, _, _, h, _, _, _, _ => h
  | 6, _, _, _, _, _, h, _, _, _, _ => h
  | 7, _, _, _, _, _, h, _, _, _, _ => h
  | 8, _, _, _, _, _, h, _, _, _, _ => h
  | 9, _, _, _, _, _, h, _, _, _, _ => h
  | 10, _, _, _, _, _, h, _, _, _, _ => h
  | 12, _, _, _, _, _, h, _, _, _, _ => h
  | 13, _, _, _, _, _, h, _, _, _, _ => h
  | 14, _, _, _, _, _, h, _, _, _, _ => h
  | 11, _, _, _, _, _, h, f, _, hR, hY => Res2.fr h f hR hY
  | 15, _, _, _, _, _, h, f, hE, _, _ => AlcT.fr h f hE
  | 16, _, _, _, _, _, h, f, hE, _, _ => Alc2.fr h f hE
  | 17, _, _, _, _, _, h, f, hE, _, _ => by
    obtain ⟨v, a, c, l, r, h1, h2⟩ := h
    exact ⟨v, a, c, l, r, h1, h2.fr f hE⟩
  | 18, _, _, _, _, _, h, f, hE, _, _ => by
    obtain ⟨v, a, c, l, r, h1, h2⟩ := h
    exact ⟨v, a, c, l, r, h1, h2.fr f hE⟩
  | _ + 19, _, _, _, _, _, _, _, _, _, _ => trivial
/-- nothing old is changed -/
def O0 (i g : Nat) : Prop := False

def R9 (R6 R7 : Nat) (v0 v1 v2 v3 l r : Value) (j : Nat) (us : List Value) (E R : Zone) (w : World) : Prop :=
  match j with
  | 0 => us.headD undef = .agg #[v0, v1, v2, v3]
  | 1 => us.headD undef = .agg #[l, r]
  | 2 => BoxT w R6 v0 v1 v2 v3
  | 3 => Box2 w R7 l r
  | _ => True
def need9 : Nat → List Nat
  | 2 => [0]
  | 3 => [1]
  | _ => []
theorem R9.fr {R6 R7 : Nat} {v0 v1 v2 v3 l r : Value} (M : Zone) : ∀ (j : Nat) (us : List Value) (E R : Zone) (w w' : World), R9 R6 R7 v0 v1 v2 v3 l r j us E R w → Fr M w w' → (∀ g, O2 2 3 R6 R7 j g → ¬ M g) → R9 R6 R7 v0 v1 v2 v3 l r j us E R w'
  | 0, _, _, _, _, _, h, _, _ => h
  | 1, _, _, _, _, _, h, _, _ => h
  | 2, _, _, _, _, _, h, f, hO => BoxT.fr h f (hO _ (.inl ⟨rfl, rfl⟩))
  | 3, _, _, _, _, _, h, f, hO => Box2.fr h f (hO _ (.inr ⟨rfl, rfl⟩))
  | _ + 4, _, _, _, _, _, _, _, _ => trivial
/-- between the rounds -/
structure LoopS (w : World) (t u : Tm) (a b : Option Addr) (c d : Nat) (x0 x1 x2 : Value) (ts : List Tm) (qs : List (Tm × Tm)) (av : Option Addr) (cv : Nat) (l r : Value) (Y Y' : Zone) (wr : World) : Prop where
  app : OwnS (fun b => w.heap.size + 1 + 1 + 1 + 1 + 1 + 1 ≤ b ∧ b < wr.heap.size ∧ ¬ Y' b) ts (.slice av ts.length cv) wr
  box : BoxT wr (w.heap.size + 1 + 1 + 1 + 1 + 1) x0 x1 x2 (.slice av ts.length cv)
  bx : BoxT wr w.heap.size (.int .i64 t.kind) (.int .i64 t.n) (.string t.name) (.slice a t.kids.length c) ∧ BoxT wr (w.heap.size + 1) (.int .i64 u.kind) (.int .i64 u.n) (.string u.name) (.slice b u.kids.length d) ∧ Box2 wr (w.heap.size + 1 + 1) l r ∧
    BoxT wr (w.heap.size + 1 + 1 + 1) (.int .i64 0) (.int .i64 0) (.string ⟨#[]⟩) (.slice none 0 0) ∧ Box2 wr (w.heap.size + 1 + 1 + 1 + 1) (.slice none 0 0) (.slice none 0 0)
  prs : PrL Y' wr qs l r
  zone : ∀ g, Y' g → g < wr.heap.size ∧ (Y g ∨ w.heap.size + 1 + 1 + 1 + 1 + 1 + 1 ≤ g)
  ext : Ext w wr

set_option maxRecDepth 100000 in
set_option maxHeartbeats 16000000 in
theorem specgenl (k n : Int) (s : ByteArray) (ks : List Tm) (u : Tm) (hh : headF (.mk k n s ks) u) (IH : ∀ (j : Nat) (t : Tm), ks[j]? = some t → ∀ x, GenSC t x) : GenSC (.mk k n s ks) u := by
  intro v v' l r ps Y w ht hu hB hps hP
  have HF := Lib.hid (gen_head (ps := ps) hh)
  have HIH := Lib.hid IH
  obtain ⟨i0, hi, hz0, hz1, hz2⟩ := info_parts info_term3
  have HI := Lib.hid hi
  have HZ := Lib.hid hz0
  have HZ1 := Lib.hid hz1
  have HZ2 := Lib.hid hz2
  have HP := Lib.hid hP
  have HB := Lib.hid hB
  have HPS : Hid (ps.length + (1 + Tm.szL ks) ≤ 1048576) := Lib.hid (by simpa only [Tm.sz] using hps)
  obtain ⟨⟨la, lc, rfl⟩, ra, rc, rfl⟩ := hP.form
  obtain ⟨uk, un, us, uks⟩ := u
  obtain ⟨h1, h2, h3, h4, h5⟩ := hh
  simp only [Tm.kind, Tm.n, Tm.name, Tm.kids] at h1 h2 h3 h4 h5 HF
  subst h1 h3 h4
  have h2b : (k != 1) = true := by simpa [bne] using h2
  have HNS : Hid (s.size ≤ 1048576) := Lib.hid (Tm.at_iff.1 ht).1
  obtain ⟨_, sv, rfl, hsl⟩ := Tm.at_iff.1 ht
  obtain ⟨_, sv', rfl, hsl'⟩ := Tm.at_iff.1 hu
  have HSL := Lib.hid hsl
  have HSL' := Lib.hid hsl'
  obtain ⟨a, cap, rfl, g1, g2, g3, _⟩ := hsl
  obtain ⟨a', cap', rfl, g1', g2', g3', _⟩ := hsl'
  simp only [Tm.kids, Tm.kind, Tm.n, Tm.name] at *
  have H5 := Lib.hid h5
  have h5b : ((ks.length : Int) == (uks.length : Int)) = true := by simp [h5]
  clear ht hu hB hps hP h5 h2 IH hi hz0 hz1 hz2
  go_enter Try.func56, Try.ntmps56
  go_wp2_with fail
  go_loopw [9] (fun i wr => ∃ (j : Nat) (av : Option Addr) (cv : Nat) (ts : List Tm) (qs : List (Tm × Tm)) (la : Option Addr) (lc : Nat) (ra : Option Addr) (rc : Nat) (Y' : Zone), j ≤ ks.length ∧ i = .int .i64 j ∧ Hid (genL (ks.take j) (uks.take j) ps = (ts, qs)) ∧
      Hid (LoopS w (.mk k n s ks) (.mk k n s uks) a a' cap cap' (.int .i64 k) (.int .i64 n) (.string s) ts qs av cv (.slice la qs.length lc) (.slice ra qs.length rc) Y Y' wr)) (fun i _ => ks.length - (intOf i).toNat)
  case atStart =>
    have E4 : Ext w _ := (((((Ext.alloc w (.cells #[.int .i64 k, .int .i64 n, .string s, .slice a ks.length cap] 29)).trans (Ext.alloc _ (.cells #[.int .i64 k, .int .i64 n, .string s, .slice a' uks.length cap'] 29))).trans (Ext.alloc _ (.cells #[.slice la ps.length lc, .slice ra ps.length rc] 71))).trans (Ext.alloc _ (.cells #[.int .i64 0, .int .i64 0, .string ⟨#[]⟩, .slice none 0 0] 29))).trans (Ext.alloc _ (.cells #[.slice none 0 0, .slice none 0 0] 71))).trans (Ext.alloc _ (.cells #[.int .i64 k, .int .i64 n, .string s, .slice none 0 0] 29))
    refine ⟨0, none, 0, [], ps, la, lc, ra, rc, Y, Nat.zero_le _, rfl, Lib.hid (by simp [genL]), Lib.hid ⟨OwnS.nil _ _, ?_, ⟨?_, ?_, ?_, ?_, ?_⟩, HP.out.ext E4, fun g hg => ⟨Nat.lt_of_lt_of_le (HB.out g hg) (Below.size E4), .inl hg⟩, E4⟩⟩
    · refine ⟨?_, ?_, ?_, ?_, ?_, ?_, ?_, ?_⟩ <;> go_simp
    · simp only [Tm.kind, Tm.n, Tm.name, Tm.kids]; refine ⟨?_, ?_, ?_, ?_, ?_, ?_, ?_, ?_⟩ <;> go_simp
    · simp only [Tm.kind, Tm.n, Tm.name, Tm.kids]; refine ⟨?_, ?_, ?_, ?_, ?_, ?_, ?_, ?_⟩ <;> go_simp
    · refine ⟨?_, ?_, ?_, ?_⟩ <;> go_simp
    · refine ⟨?_, ?_, ?_, ?_, ?_, ?_, ?_, ?_⟩ <;> go_simp
    · refine ⟨?_, ?_, ?_, ?_⟩ <;> go_simp
  case round =>
    obtain ⟨j, av, cv, ts, qs, la, lc, ra, rc, Y', hj, rfl, HT, HK⟩ := hrel
    have hlu : uks.length = ks.length := H5.out.symm
    have hlen : ts.length = j := by
      have h1 := genL_len (ks.take j) (uks.take j) ps (by simp; omega)
      rw [HT.out] at h1
      simp at h1; omega
    have HL := Lib.hid hlen
    clear hlen
    obtain ⟨⟨_, _, _, xa, _, _, _, _⟩, ⟨_, _, _, xb, _, _, _, _⟩, ⟨xp0, xp1, _, _⟩, _, _⟩ := HK.out.bx
    simp only [Tm.kids] at xa xb
    have lO := HK.out.box.lt
    have hbw : w.heap.size + 6 ≤ wr.heap.size := by omega
    by_cases hlt : j < ks.length
    · obtain ⟨tk, htk⟩ := getk hlt
      obtain ⟨uk, huk⟩ := getk (ts := uks) (k := j) (by omega)
      obtain ⟨_, _, e1, _, _, _, r4⟩ := Tm.sl_ext HK.out.ext HSL.out
      cases e1
      obtain ⟨_, _, e1, _, _, _, r4'⟩ := Tm.sl_ext HK.out.ext HSL'.out
      cases e1
      obtain ⟨b, off, a1, c1, rfl, hSb, k1, k2, k3, k4, hat1⟩ := tget r4 htk
      obtain ⟨b', off', a2, c2, rfl, hSb', m1, m2, m3, m4, hat2⟩ := tget r4' huk
      have hqs : qs.length + Tm.sz tk ≤ 1048576 := by
        have h1 := genL_len2 (ks.take j) (uks.take j) ps
        rw [HT.out] at h1
        have h2 := szL_take htk
        have h3 := HPS.out
        simp only at h1
        omega
      have HIC := Lib.hid (fun (w' : World) (e' : Ext wr w') => HIH.out j tk htk uk _ _ _ _ qs (fun b => Y b ∨ Y' b) w' (Tm.at_mono (fun _ h => .inl h) (Agree.of_ext e') hat1) (Tm.at_mono (fun _ h => .inl h) (Agree.of_ext e') hat2) (fun b hb => Nat.lt_of_lt_of_le (hb.elim (fun h => by have := HB.out b h; omega) (fun h => (HK.out.zone b h).1)) (Below.size e')) hqs ⟨HK.out.prs.1, Tm.sl_mono (fun _ h => .inr h) (Agree.of_ext e') HK.out.prs.2.1, Tm.sl_mono (fun _ h => .inr h) (Agree.of_ext e') HK.out.prs.2.2⟩)
      have HTS : Hid (genL (ks.take (j + 1)) (uks.take (j + 1)) ps = (ts ++ [(genF tk uk qs).1], (genF tk uk qs).2)) := Lib.hid (by rw [genL_snoc ps htk huk, HT.out])
      have hbw1 := block_lt_of_cell k1
      have hbw1' := block_lt_of_cell m1
      simp only at hbw1 hbw1'
      clear r4 r4' htk huk hat1 hat2
      have hlk : ks.length ≤ 1048576 := g3
      have hlu2 : uks.length ≤ cap' := g1'
      have hju : j < uks.length := by omega
      clear hlu
      go_wp2_with fail
      refine wp_region_sep (by kernel_rfl) (by kernel_rfl) (by kernel_rfl) need6 cons6 refs6 (by kernel_rfl) (by kernel_rfl) O0 (R6 (fun b => Y b ∨ Y' b) w.heap.size (w.heap.size + 1) (w.heap.size + 1 + 1) j (some ⟨b, off, none⟩) (some ⟨b', off', none⟩) ks.length uks.length cap cap' b off b' off' tk uk (genF tk uk qs).1 a1 a2 c1 c2 (genF tk uk qs).2 (.slice la qs.length lc) (.slice ra qs.length rc)) (fun _ _ => True) (fun _ _ h => h.elim) (fun _ _ _ _ h => h.elim) (fun M i us E R w1 w2 h f hE hR _ hS => R6.fr M i us E R w1 w2 h f hE hR (fun g hg => hS g (hg.elim (fun h => by have := HB.out g h; omega) (fun h => (HK.out.zone g h).1)) (fun _ h => h))) (fun _ _ _ _ _ _ _ => trivial) (fun _ => trivial) ?hs6 ?he6
      case hs6 =>
          refine .cons ?h0 (.cons ?h1 (.cons ?h2 (.cons ?h3 (.cons ?h4 (.cons ?h5 (.cons ?h6 (.cons ?h7 (.cons ?h8 (.cons ?h9 (.cons ?h10 (.cons ?h11 (.cons ?h12 (.cons ?h13 (.cons ?h14 (.cons ?h15 (.cons ?h16 (.cons ?h17 (.cons ?h18 .nil))))))))))))))))))
          case h0 =>
            intro A vs E R w5 old dep hbn hds hpre hfr K hK
            have s3 := old 3 (by kernel_rfl)
            simp only [List.getElem?_toArray, List.getElem?_cons_succ, List.getElem?_cons_zero] at s3
            go_simp
            exact hK _ (fun _ => False) (fun _ => False) _ (Fr.refl _ _) rfl (fun _ h => h.elim) (fun _ h => h.elim)
          case h1 =>
            intro A vs E R w5 old dep hbn hds hpre hfr K hK
            obtain ⟨e0, t0⟩ := dep 0 (by decide)
            replace t0 := t0 62 (by kernel_rfl) (by simp)
            replace e0 : vs 0 = (.pointer (some ⟨w.heap.size, 3, none⟩)) := e0
            rw [e0] at t0
            have q := hfr.cell (by rintro ⟨_, h⟩; exact h) xa
            go_simp
            exact hK _ (fun _ => False) (fun _ => False) _ (Fr.refl _ _) rfl (fun _ h => h.elim) (fun _ h => h.elim)
          case h2 =>
            intro A vs E R w5 old dep hbn hds hpre hfr K hK
            have s9 := old 9 (by kernel_rfl)
            simp only [List.getElem?_toArray, List.getElem?_cons_succ, List.getElem?_cons_zero] at s9
            go_simp
            exact hK _ (fun _ => False) (fun _ => False) _ (Fr.refl _ _) rfl (fun _ h => h.elim) (fun _ h => h.elim)
          case h3 =>
            intro A vs E R w5 old dep hbn hds hpre hfr K hK
            obtain ⟨e1, t1⟩ := dep 1 (by decide)
            replace t1 := t1 63 (by kernel_rfl) (by simp)
            replace e1 : vs 1 = (.slice (some ⟨b, off, none⟩) ks.length cap) := e1
            rw [e1] at t1
            obtain ⟨e2, t2⟩ := dep 2 (by decide)
            replace t2 := t2 64 (by kernel_rfl) (by simp)
            replace e2 : vs 2 = (.int .i64 (j : Nat)) := e2
            rw [e2] at t2
            go_simp
            exact hK _ (fun _ => False) (fun _ => False) _ (Fr.refl _ _) rfl (fun _ h => h.elim) (fun _ h => h.elim)
          case h4 =>
            intro A vs E R w5 old dep hbn hds hpre hfr K hK
            obtain ⟨e3, t3⟩ := dep 3 (by decide)
            replace t3 := t3 65 (by kernel_rfl) (by simp)
            replace e3 : vs 3 = (.pointer (some ⟨b, off + j * 4, none⟩)) := e3
            rw [e3] at t3
            have q1 := hfr.cell (by rintro ⟨_, h⟩; exact h) k1
            have q2 := hfr.cell (by rintro ⟨_, h⟩; exact h) k2
            have q3 := hfr.cell (by rintro ⟨_, h⟩; exact h) k3
            have q4 := hfr.cell (by rintro ⟨_, h⟩; exact h) k4
            go_simp
            exact hK _ (fun _ => False) (fun _ => False) _ (Fr.refl _ _) rfl (fun _ h => h.elim) (fun _ h => h.elim)
          case h5 =>
            intro A vs E R w5 old dep hbn hds hpre hfr K hK
            have s4 := old 4 (by kernel_rfl)
            simp only [List.getElem?_toArray, List.getElem?_cons_succ, List.getElem?_cons_zero] at s4
            go_simp
            exact hK _ (fun _ => False) (fun _ => False) _ (Fr.refl _ _) rfl (fun _ h => h.elim) (fun _ h => h.elim)
          case h6 =>
            intro A vs E R w5 old dep hbn hds hpre hfr K hK
            obtain ⟨e5, t5⟩ := dep 5 (by decide)
            replace t5 := t5 67 (by kernel_rfl) (by simp)
            replace e5 : vs 5 = (.pointer (some ⟨w.heap.size + 1, 3, none⟩)) := e5
            rw [e5] at t5
            have q := hfr.cell (by rintro ⟨_, h⟩; exact h) xb
            go_simp
            exact hK _ (fun _ => False) (fun _ => False) _ (Fr.refl _ _) rfl (fun _ h => h.elim) (fun _ h => h.elim)
          case h7 =>
            intro A vs E R w5 old dep hbn hds hpre hfr K hK
            have s9 := old 9 (by kernel_rfl)
            simp only [List.getElem?_toArray, List.getElem?_cons_succ, List.getElem?_cons_zero] at s9
            go_simp
            exact hK _ (fun _ => False) (fun _ => False) _ (Fr.refl _ _) rfl (fun _ h => h.elim) (fun _ h => h.elim)
          case h8 =>
            intro A vs E R w5 old dep hbn hds hpre hfr K hK
            obtain ⟨e6, t6⟩ := dep 6 (by decide)
            replace t6 := t6 68 (by kernel_rfl) (by simp)
            replace e6 : vs 6 = (.slice (some ⟨b', off', none⟩) uks.length cap') := e6
            rw [e6] at t6
            obtain ⟨e7, t7⟩ := dep 7 (by decide)
            replace t7 := t7 69 (by kernel_rfl) (by simp)
            replace e7 : vs 7 = (.int .i64 (j : Nat)) := e7
            rw [e7] at t7
            go_simp
            exact hK _ (fun _ => False) (fun _ => False) _ (Fr.refl _ _) rfl (fun _ h => h.elim) (fun _ h => h.elim)
          case h9 =>
            intro A vs E R w5 old dep hbn hds hpre hfr K hK
            obtain ⟨e8, t8⟩ := dep 8 (by decide)
            replace t8 := t8 70 (by kernel_rfl) (by simp)
            replace e8 : vs 8 = (.pointer (some ⟨b', off' + j * 4, none⟩)) := e8
            rw [e8] at t8
            have q1 := hfr.cell (by rintro ⟨_, h⟩; exact h) m1
            have q2 := hfr.cell (by rintro ⟨_, h⟩; exact h) m2
            have q3 := hfr.cell (by rintro ⟨_, h⟩; exact h) m3
            have q4 := hfr.cell (by rintro ⟨_, h⟩; exact h) m4
            go_simp
            exact hK _ (fun _ => False) (fun _ => False) _ (Fr.refl _ _) rfl (fun _ h => h.elim) (fun _ h => h.elim)
          case h10 =>
            intro A vs E R w5 old dep hbn hds hpre hfr K hK
            have s5 := old 5 (by kernel_rfl)
            simp only [List.getElem?_toArray, List.getElem?_cons_succ, List.getElem?_cons_zero] at s5
            have q0 := hfr.cell (by rintro ⟨_, h⟩; exact h) xp0
            have q1 := hfr.cell (by rintro ⟨_, h⟩; exact h) xp1
            go_simp
            exact hK _ (fun _ => False) (fun _ => False) _ (Fr.refl _ _) rfl (fun _ h => h.elim) (fun _ h => h.elim)
          case h11 =>
            intro A vs E R w5 old dep hbn hds hpre hfr K hK
            obtain ⟨e4, t4⟩ := dep 4 (by decide)
            replace t4 := t4 66 (by kernel_rfl) (by simp)
            replace e4 : vs 4 = val4 tk a1 c1 := e4
            rw [e4] at t4
            obtain ⟨e9, t9⟩ := dep 9 (by decide)
            replace t9 := t9 71 (by kernel_rfl) (by simp)
            replace e9 : vs 9 = val4 uk a2 c2 := e9
            rw [e9] at t9
            obtain ⟨e10, t10⟩ := dep 10 (by decide)
            replace t10 := t10 72 (by kernel_rfl) (by simp)
            replace e10 : vs 10 = (.agg #[.slice la qs.length lc, .slice ra qs.length rc]) := e10
            rw [e10] at t10
            unfold val4 at t4 t9
            have ew := hfr.toExt (fun k _ => (by rintro ⟨_, h⟩; exact h))
            go_simp
            go_at_call 56
            refine (HIC.out w5 ew).mono ?_
            rintro e w6 ⟨a3, c3, l3, r3, Y3, rfl, ho, hp, hz, e6⟩
            have hs6 := Below.size e6
            have hs5 := Below.size ew
            refine hK _ (fun _ => False) (fun g => w5.heap.size ≤ g ∧ g < w6.heap.size) w6 (Fr.of_ext e6) ?_ (fun _ h => h.elim) (fun g h => .inr (.inr h))
            obtain ⟨f1, f2⟩ := hp.form
            exact ⟨a3, c3, l3, r3, Y3, rfl, f1, f2, own_zone (own_bound _ _ ho) (fun b hb => ⟨⟨hb.1.1, hb.2⟩, hb.1.2⟩), hp, fun b hb => (hz b hb).2.imp id (fun h => ⟨h, (hz b hb).1⟩)⟩
          case h12 =>
            intro A vs E R w5 old dep hbn hds hpre hfr K hK
            obtain ⟨e11, t11⟩ := dep 11 (by decide)
            replace t11 := t11 73 (by kernel_rfl) (by simp)
            obtain ⟨a3, c3, l3, r3, Y3, e3, ⟨la3, lc3, rfl⟩, ⟨ra3, rc3, rfl⟩, _⟩ := e11
            replace e3 : vs 11 = tup (genF tk uk qs).1 a3 c3 (.slice la3 (genF tk uk qs).2.length lc3) (.slice ra3 (genF tk uk qs).2.length rc3) := e3
            have e3' := e3
            unfold tup at e3'
            rw [e3'] at t11
            go_simp
            refine hK _ (fun _ => False) (fun _ => False) _ (Fr.refl _ _) ?_ (fun _ h => h.elim) (fun _ h => h.elim)
            exact ⟨vs 11, congrArg (fun z => [z, vs 11]) e3'.symm, a3, c3, la3, lc3, ra3, rc3, e3⟩
          case h13 =>
            intro A vs E R w5 old dep hbn hds hpre hfr K hK
            obtain ⟨e12, t12⟩ := dep 12 (by decide)
            replace t12 := t12 61 (by kernel_rfl) (by simp)
            obtain ⟨v, e3, a3, c3, la3, lc3, ra3, rc3, rfl⟩ := e12
            replace e3 : [vs 12, vs 11] = [tup (genF tk uk qs).1 a3 c3 (.slice la3 (genF tk uk qs).2.length lc3) (.slice ra3 (genF tk uk qs).2.length rc3), tup (genF tk uk qs).1 a3 c3 (.slice la3 (genF tk uk qs).2.length lc3) (.slice ra3 (genF tk uk qs).2.length rc3)] := e3
            simp only [List.cons.injEq, and_true] at e3
            obtain ⟨g1, g2⟩ := e3
            have g1' := g1
            unfold tup val4 at g1'
            rw [g1'] at t12
            go_simp
            refine hK _ (fun _ => False) (fun _ => False) _ (Fr.refl _ _) ?_ (fun _ h => h.elim) (fun _ h => h.elim)
            exact ⟨a3, c3, _, _, congrArg (fun z => [val4 (genF tk uk qs).1 a3 c3, z]) g2⟩
          case h14 =>
            intro A vs E R w5 old dep hbn hds hpre hfr K hK
            obtain ⟨e12, t12⟩ := dep 12 (by decide)
            replace t12 := t12 61 (by kernel_rfl) (by simp)
            obtain ⟨v, e3, a3, c3, la3, lc3, ra3, rc3, rfl⟩ := e12
            replace e3 : [vs 12, vs 11] = [tup (genF tk uk qs).1 a3 c3 (.slice la3 (genF tk uk qs).2.length lc3) (.slice ra3 (genF tk uk qs).2.length rc3), tup (genF tk uk qs).1 a3 c3 (.slice la3 (genF tk uk qs).2.length lc3) (.slice ra3 (genF tk uk qs).2.length rc3)] := e3
            simp only [List.cons.injEq, and_true] at e3
            obtain ⟨g1, g2⟩ := e3
            have g1' := g1
            unfold tup val4 at g1'
            rw [g1'] at t12
            go_simp
            refine hK _ (fun _ => False) (fun _ => False) _ (Fr.refl _ _) ?_ (fun _ h => h.elim) (fun _ h => h.elim)
            exact ⟨a3, c3, la3, lc3, ra3, rc3, congrArg (fun z => [Value.agg #[.slice la3 (genF tk uk qs).2.length lc3, .slice ra3 (genF tk uk qs).2.length rc3], z]) g2⟩
          case h15 =>
            intro A vs E R w5 old dep hbn hds hpre hfr K hK
            go_simp
            exact hK _ (fun g => g = w5.heap.size) (fun _ => False) _ (Fr.alloc _ _) ⟨_, rfl, rfl, BoxT.new w5 _ _ _ _ _ rfl⟩ (fun g h => ⟨.inr ⟨by omega, by simp; omega⟩, fun h => h⟩) (fun _ h => h.elim)
          case h16 =>
            intro A vs E R w5 old dep hbn hds hpre hfr K hK
            go_simp
            exact hK _ (fun g => g = w5.heap.size) (fun _ => False) _ (Fr.alloc _ _) ⟨_, rfl, rfl, by refine ⟨?_, ?_, ?_, ?_⟩ <;> go_simp⟩ (fun g h => ⟨.inr ⟨by omega, by simp; omega⟩, fun h => h⟩) (fun _ h => h.elim)
          case h17 =>
            intro A vs E R w5 old dep hbn hds hpre hfr K hK
            obtain ⟨e15, t15⟩ := dep 15 (by decide)
            replace t15 := t15 10 (by kernel_rfl) (by simp)
            obtain ⟨e13, t13⟩ := dep 13 (by decide)
            replace t13 := t13 74 (by kernel_rfl) (by simp)
            obtain ⟨nb, e1, hE, hbx⟩ := e15
            obtain ⟨a3, c3, l3, r3, e3⟩ := e13
            replace e1 : vs 15 = .pointer (some ⟨nb, 0, none⟩) := e1
            replace hE : E 15 nb := hE
            replace e3 : [vs 13, vs 11] = [val4 (genF tk uk qs).1 a3 c3, tup (genF tk uk qs).1 a3 c3 l3 r3] := e3
            simp only [List.cons.injEq, and_true] at e3
            obtain ⟨g1, g2⟩ := e3
            unfold val4 at g1
            rw [e1] at t15
            rw [g1] at t13
            have hbx' := hbx
            have lr := hbx.lt
            obtain ⟨r0, r1, r2, r3', z0, z1, z2, z3⟩ := hbx'
            go_simp
            refine hK undef (fun g => g = nb) (fun _ => False) _ (put4_fr _ _ _ _ _ (.inl ⟨15, by decide, hE⟩)) ?_ (fun g h => ⟨.inl ⟨15, by decide, h ▸ hE⟩, fun h => h⟩) (fun _ h => h.elim)
            exact ⟨vs 15, a3, c3, l3, r3, congrArg (fun z => [vs 15, z]) g2, nb, e1, rfl, BoxT.put4x hbx _ _ _ _⟩
          case h18 =>
            intro A vs E R w5 old dep hbn hds hpre hfr K hK
            obtain ⟨e16, t16⟩ := dep 16 (by decide)
            replace t16 := t16 11 (by kernel_rfl) (by simp)
            obtain ⟨e14, t14⟩ := dep 14 (by decide)
            replace t14 := t14 75 (by kernel_rfl) (by simp)
            obtain ⟨nb, e1, hE, hbx⟩ := e16
            obtain ⟨a3, c3, la3, lc3, ra3, rc3, e3⟩ := e14
            replace e1 : vs 16 = .pointer (some ⟨nb, 0, none⟩) := e1
            replace hE : E 16 nb := hE
            replace e3 : [vs 14, vs 11] = [.agg #[.slice la3 (genF tk uk qs).2.length lc3, .slice ra3 (genF tk uk qs).2.length rc3], tup (genF tk uk qs).1 a3 c3 (.slice la3 (genF tk uk qs).2.length lc3) (.slice ra3 (genF tk uk qs).2.length rc3)] := e3
            simp only [List.cons.injEq, and_true] at e3
            obtain ⟨g1, g2⟩ := e3
            rw [e1] at t16
            rw [g1] at t14
            have hbx' := hbx
            have lr := hbx.lt
            obtain ⟨r0, r1, z0, z1⟩ := hbx'
            go_simp
            refine hK undef (fun g => g = nb) (fun _ => False) _ (put2_fr _ _ _ (.inl ⟨16, by decide, hE⟩)) ?_ (fun g h => ⟨.inl ⟨16, by decide, h ▸ hE⟩, fun h => h⟩) (fun _ h => h.elim)
            exact ⟨vs 16, a3, c3, _, _, congrArg (fun z => [vs 16, z]) g2, nb, e1, rfl, hbx.put _ _⟩

      case he6 =>
          intro vs E R w9 f9 hres hdis
          have e9 : Ext wr w9 := f9.toExt (fun k _ => by rintro ⟨_, h⟩; exact h)
          obtain ⟨⟨a3, c3, l3, r3, Y3, h1, ⟨la3, lc3, rfl⟩, ⟨ra3, rc3, rfl⟩, h4, h5, h6⟩, hb11⟩ := hres 11 (by show 11 < 19; decide) (fun k _ => c6 (by decide) k)
          obtain ⟨⟨v17, a4, c4, l4, r4, h7, nb, h8, h9, h10⟩, hb17⟩ := hres 17 (by show 17 < 19; decide) (fun k _ => c6 (by decide) k)
          obtain ⟨⟨v18, a5, c5, l5, r5, h11, nb2, h12, h13, h14⟩, hb18⟩ := hres 18 (by show 18 < 19; decide) (fun k _ => c6 (by decide) k)
          have d17 := hdis 17 11 (by show 17 < 19; decide) (by show 11 < 19; decide) (fun k _ => c6 (by decide) k) (fun k _ => c6 (by decide) k)
          have d18 := hdis 18 11 (by show 18 < 19; decide) (by show 11 < 19; decide) (fun k _ => c6 (by decide) k) (fun k _ => c6 (by decide) k)
          have d78 := hdis 17 18 (by show 17 < 19; decide) (by show 18 < 19; decide) (fun k _ => c6 (by decide) k) (fun k _ => c6 (by decide) k)
          replace h1 : vs 11 = tup (genF tk uk qs).1 a3 c3 (.slice la3 (genF tk uk qs).2.length lc3) (.slice ra3 (genF tk uk qs).2.length rc3) := h1
          replace h7 : [vs 15, vs 11] = [v17, tup (genF tk uk qs).1 a4 c4 l4 r4] := h7
          replace h11 : [vs 16, vs 11] = [v18, tup (genF tk uk qs).1 a5 c5 l5 r5] := h11
          simp only [List.cons.injEq, and_true] at h7 h11
          obtain ⟨i1, i2⟩ := h7
          obtain ⟨i3, i4⟩ := h11
          rw [h1] at i2 i4
          simp only [tup, val4, Value.tuple.injEq, Array.mk.injEq, List.cons.injEq, Value.agg.injEq, Value.slice.injEq, and_true, true_and] at i2 i4
          obtain ⟨⟨rfl, rfl⟩, rfl, rfl⟩ := i2
          obtain ⟨⟨rfl, rfl⟩, rfl, rfl⟩ := i4
          rw [h8] at i1
          rw [h12] at i3
          have hwr := Below.size e9
          have hn1 := hb17 nb (.inl h9)
          have hn2 := hb18 nb2 (.inl h13)
          have hne : nb ≠ nb2 := fun e => (d78 nb h9).1 (by decide) (e ▸ h13)
          have rb1 : ∀ g, R 11 g → g ≠ nb := fun g hg e => (d17 nb h9).2 (e ▸ hg)
          have rb2 : ∀ g, R 11 g → g ≠ nb2 := fun g hg e => (d18 nb2 h13).2 (e ▸ hg)
          have y3lt : ∀ g, Y3 g → g < w9.heap.size := fun g hg => (h6 g hg).elim (fun h => Nat.lt_of_lt_of_le (h.elim (fun h => by have := HB.out g h; omega) (fun h => (HK.out.zone g h).1)) hwr) (fun h => (hb11 g (.inr h)).2)
          have y3zone : ∀ g, Y3 g → Y g ∨ w.heap.size + 1 + 1 + 1 + 1 + 1 + 1 ≤ g := fun g hg => (h6 g hg).elim (fun h => h.elim .inl (fun h => (HK.out.zone g h).2)) (fun h => .inr (by have := (hb11 g (.inr h)).1; omega))
          have y3nb : ∀ g, Y3 g → g ≠ nb ∧ g ≠ nb2 := fun g hg => (h6 g hg).elim (fun h => by
            have : g < wr.heap.size := h.elim (fun h => by have := HB.out g h; omega) (fun h => (HK.out.zone g h).1)
            omega) (fun h => ⟨rb1 g h, rb2 g h⟩)
          obtain ⟨X, hX⟩ : ∃ X : Nat → Prop, X = fun b => Y3 b ∨ b = nb ∨ b = nb2 := ⟨_, rfl⟩
          have HXD := Lib.hid hX
          have HA : Hid (OwnS (fun b => w.heap.size + 1 + 1 + 1 + 1 + 1 + 1 ≤ b ∧ b < wr.heap.size ∧ ¬ X b) ts (.slice av ts.length cv) w9) := Lib.hid ((HK.out.app.ext e9).mono (M := fun _ => False) (fun b hb => ⟨hb.1, hb.2.1, fun hx => by
            rw [hX] at hx
            rcases hx with hx | hx | hx
            · rcases h6 b hx with h | h
              · rcases h with h | h
                · have := HB.out b h; omega
                · exact hb.2.2 h
              · have := (hb11 b (.inr h)).1; omega
            · omega
            · omega⟩) (Fr.refl _ _) (fun _ _ h => h))
          have HO : Hid (Tm.own (fun b => wr.heap.size ≤ b ∧ ¬ X b) w9 (genF tk uk qs).1 (.slice a3 (genF tk uk qs).1.kids.length c3)) := Lib.hid (own_zone h4 (fun b hb => ⟨(hb11 b (.inr hb.1)).1, fun hx => by
            rw [hX] at hx
            rcases hx with hx | hx | hx
            · exact hb.2 hx
            · exact rb1 b hb.1 hx
            · exact rb2 b hb.1 hx⟩))
          have HXL : Hid (∀ b, X b → b < w9.heap.size) := Lib.hid (fun b hx => by
            rw [hX] at hx
            rcases hx with hx | hx | hx
            · exact y3lt b hx
            · omega
            · omega)
          have HY1 := Lib.hid y3lt
          have HY2 := Lib.hid y3zone
          have HY3 := Lib.hid y3nb
          have H5' := Lib.hid h5
          have H10 := Lib.hid h10
          have H14 := Lib.hid h14
          have E9 := Lib.hid e9
          have HT1 : Hid (ts.length < 1048576) := Lib.hid (by have := HL.out; omega)
          have BO := Lib.hid (HK.out.box.ext e9)
          have HBX := Lib.hid (show BoxT w9 w.heap.size _ _ _ _ ∧ BoxT w9 (w.heap.size + 1) _ _ _ _ ∧ Box2 w9 (w.heap.size + 1 + 1) _ _ ∧ BoxT w9 (w.heap.size + 1 + 1 + 1) _ _ _ _ ∧ Box2 w9 (w.heap.size + 1 + 1 + 1 + 1) _ _ from ⟨HK.out.bx.1.ext e9, HK.out.bx.2.1.ext e9, HK.out.bx.2.2.1.ext e9, HK.out.bx.2.2.2.1.ext e9, HK.out.bx.2.2.2.2.ext e9⟩)
          have HN2 : Hid (¬ (w.heap.size + 1 + 1 + 1 + 1 + 1 + 1 ≤ nb2 ∧ ¬ X nb2)) := Lib.hid (fun h => h.2 (by rw [hX]; exact .inr (.inr rfl)))
          have q1 : ¬ nb2 = w.heap.size + 1 + 1 + 1 + 1 + 1 := by omega
          have q2 : ¬ w.heap.size + 1 + 1 + 1 + 1 + 1 = nb2 := by omega
          have lP9 : w.heap.size + 1 + 1 < w9.heap.size := by omega
          obtain ⟨_, _, _, o3, _, _, _, of3⟩ := BO.out
          obtain ⟨n0, n1, n2, n3, _, _, _, _⟩ := h10
          have lnb : nb < w9.heap.size := hn1.2
          have lO9 : w.heap.size + 1 + 1 + 1 + 1 + 1 < w9.heap.size := by omega
          clear f9 hres hdis hX y3lt y3zone y3nb rb1 rb2 d17 d18 d78 h4 h5 h6 h9 h13 h14 e9 hb11 hb17 hb18 hne h1 xa xb xp0 xp1 k1 k2 k3 k4 m1 m2 m3 m4
          simp only [putO, Act.put, List.setIfInBounds_toArray, List.set_cons_zero, List.set_cons_succ]
          rw [i1, i3]
          go_wp2_with (at_builtin; refine wpList_append_owx (w0 := wr) (w1 := w9) X rfl (.tmp 77) (.tmp 79) 27 rfl (w.heap.size + 1 + 1 + 1 + 1 + 1 + 1) i0 Try.underlying27 HI.out HZ.out HZ1.out HZ2.out (.slice av ts.length cv) ts (genF tk uk qs).1 a3 c3 rfl HA.out rfl HO.out hwr (by omega) HXL.out HT1.out rfl ?_; intro av2 cv2 w2 hA2 hf2; have A2 := Lib.hid hA2; have F2 := Lib.hid hf2; clear hA2 hf2; have o3 := F2.out.cell (k := w.heap.size + 1 + 1 + 1 + 1 + 1) (by omega) o3; have of3 := F2.out.frozen lO9 (by omega) of3; obtain ⟨p0, p1, _, _⟩ := H14.out.fr F2.out HN2.out; obtain ⟨s0, s1, t0, t1⟩ := HBX.out.2.2.1.fr F2.out (by omega); have lO2 := Nat.lt_of_lt_of_le lO9 F2.out.size; have lP2 := Nat.lt_of_lt_of_le lP9 F2.out.size)
          go_roundw
          case rel =>
            have hlen1 : (ts ++ [(genF tk uk qs).1]).length = ts.length + 1 := by simp
            have hX := HXD.out
            have fO : Fr (fun k => k = w.heap.size + 1 + 1 + 1 + 1 + 1) w2 (w2.setCell ⟨w.heap.size + 1 + 1 + 1 + 1 + 1, 3, none⟩ (.slice av2 (ts.length + 1) cv2)) := Fr.setCell _ rfl
            have fP := put2_fr (M := fun k => k = w.heap.size + 1 + 1) (w2.setCell ⟨w.heap.size + 1 + 1 + 1 + 1 + 1, 3, none⟩ (.slice av2 (ts.length + 1) cv2)) (b := w.heap.size + 1 + 1) (.slice la3 (genF tk uk qs).2.length lc3) (.slice ra3 (genF tk uk qs).2.length rc3) rfl
            have y3O : ∀ g, Y3 g → ¬ g = w.heap.size + 1 + 1 + 1 + 1 + 1 := fun g hg => (HY2.out g hg).elim (fun h => by have := HB.out g h; omega) (fun h => by omega)
            have y3P : ∀ g, Y3 g → ¬ g = w.heap.size + 1 + 1 := fun g hg => (HY2.out g hg).elim (fun h => by have := HB.out g h; omega) (fun h => by omega)
            have y3M : ∀ g, Y3 g → ¬ (w.heap.size + 1 + 1 + 1 + 1 + 1 + 1 ≤ g ∧ ¬ X g) := fun g hg h => h.2 (by rw [hX]; exact .inl hg)
            refine ⟨j + 1, av2, cv2, ts ++ [(genF tk uk qs).1], (genF tk uk qs).2, la3, lc3, ra3, rc3, Y3, by omega, by go_num, HTS, Lib.hid ⟨?_, ?_, ⟨?_, ?_, ?_, ?_, ?_⟩, ?_, fun g hg => ⟨?_, HY2.out g hg⟩, ?_⟩⟩
            · rw [hlen1]
              exact (A2.out.mono (F' := fun b => w.heap.size + 1 + 1 + 1 + 1 + 1 + 1 ≤ b ∧ b < w2.heap.size ∧ ¬ Y3 b) (fun b hb => ⟨hb.1, hb.2.1, fun h => hb.2.2 (by rw [hX]; exact .inl h)⟩) fO (fun b hb h => by omega)).mono (fun b hb => ⟨hb.1, Nat.lt_of_lt_of_le hb.2.1 (Nat.le_trans fO.size fP.size), hb.2.2⟩) fP (fun b hb h => by omega)
            · rw [hlen1]
              exact ((BO.out.fr F2.out (by omega)).set3 _).fr fP (by omega)
            · exact ((HBX.out.1.fr F2.out (by omega)).fr fO (by omega)).fr fP (by omega)
            · exact ((HBX.out.2.1.fr F2.out (by omega)).fr fO (by omega)).fr fP (by omega)
            · exact ((HBX.out.2.2.1.fr F2.out (by omega)).fr fO (by omega)).put _ _
            · exact ((HBX.out.2.2.2.1.fr F2.out (by omega)).fr fO (by omega)).fr fP (by omega)
            · exact ((HBX.out.2.2.2.2.fr F2.out (by omega)).fr fO (by omega)).fr fP (by omega)
            · exact ((H5'.out.fr F2.out y3M).fr fO y3O).fr fP y3P
            · exact Nat.lt_of_lt_of_le (HY1.out g hg) (Nat.le_trans F2.out.size (Nat.le_trans fO.size fP.size))
            · exact ((((Fr.of_ext (M := fun k => w.heap.size ≤ k) (HK.out.ext.trans E9.out)).trans (F2.out.mono (fun k _ h => by omega))).trans (fO.mono (fun k _ h => by omega))).trans (fP.mono (fun k _ h => by omega))).toExt (fun k hk h => by omega)
          case measure => simp [intOf]; omega
    · have hjj : j = ks.length := by omega
      subst hjj
      have HR : Hid (genL ks uks ps = (ts, qs)) := Lib.hid (by have := HT.out; rwa [List.take_of_length_le (Nat.le_refl _), List.take_of_length_le (by omega)] at this)
      have HR6 := Lib.hid HK.out.bx.2.2.2.1
      have HR7 := Lib.hid HK.out.bx.2.2.2.2
      have HPO : Hid (¬ ∃ i, O2 2 3 (w.heap.size + 1 + 1 + 1) (w.heap.size + 1 + 1 + 1 + 1) i (w.heap.size + 1 + 1)) := Lib.hid (by rintro ⟨i, ⟨_, h⟩ | ⟨_, h⟩⟩ <;> omega)
      have HOO : Hid (¬ ∃ i, O2 2 3 (w.heap.size + 1 + 1 + 1) (w.heap.size + 1 + 1 + 1 + 1) i (w.heap.size + 1 + 1 + 1 + 1 + 1)) := Lib.hid (by rintro ⟨i, ⟨_, h⟩ | ⟨_, h⟩⟩ <;> omega)
      obtain ⟨o0, o1, o2, o3, _, _, _, _⟩ := HK.out.box
      go_wp2_with fail
      refine wp_region_sep (by kernel_rfl) (by kernel_rfl) (by kernel_rfl) need9 cons0 refs1 (by kernel_rfl) (by kernel_rfl) (O2 2 3 (w.heap.size + 1 + 1 + 1) (w.heap.size + 1 + 1 + 1 + 1)) (R9 (w.heap.size + 1 + 1 + 1) (w.heap.size + 1 + 1 + 1 + 1) (.int .i64 k) (.int .i64 n) (.string s) (.slice av ts.length cv) (.slice la qs.length lc) (.slice ra qs.length rc)) (Pre2 2 3 (w.heap.size + 1 + 1 + 1) (w.heap.size + 1 + 1 + 1 + 1)) (O2.lt (by omega) (by omega)) (O2.apart (by decide) (by omega)) (fun M i us E R w1 w2 h f _ _ hO _ => h.fr M i us E R w1 w2 f hO) Pre2.fr (fun i => ⟨fun _ => HR6.out, fun _ => HR7.out⟩) ?hs9 ?he9
      case hs9 =>
          refine .cons ?h0 (.cons ?h1 (.cons ?h2 (.cons ?h3 .nil)))
          case h0 =>
            intro A vs E R w5 old dep hbn hds hpre hfr K hK
            have s8 := old 8 (by kernel_rfl)
            simp only [List.getElem?_toArray, List.getElem?_cons_succ, List.getElem?_cons_zero] at s8
            have q0 := hfr.cell HOO.out o0
            have q1 := hfr.cell HOO.out o1
            have q2 := hfr.cell HOO.out o2
            have q3 := hfr.cell HOO.out o3
            go_simp
            exact hK _ (fun _ => False) (fun _ => False) _ (Fr.refl _ _) rfl (fun _ h => h.elim) (fun _ h => h.elim)
          case h1 =>
            intro A vs E R w5 old dep hbn hds hpre hfr K hK
            have s5 := old 5 (by kernel_rfl)
            simp only [List.getElem?_toArray, List.getElem?_cons_succ, List.getElem?_cons_zero] at s5
            have q0 := hfr.cell HPO.out xp0
            have q1 := hfr.cell HPO.out xp1
            go_simp
            exact hK _ (fun _ => False) (fun _ => False) _ (Fr.refl _ _) rfl (fun _ h => h.elim) (fun _ h => h.elim)
          case h2 =>
            intro A vs E R w5 old dep hbn hds hpre hfr K hK
            have s6 := old 6 (by kernel_rfl)
            simp only [List.getElem?_toArray, List.getElem?_cons_succ, List.getElem?_cons_zero] at s6
            obtain ⟨e0, t0⟩ := dep 0 (by decide)
            replace t0 := t0 83 (by kernel_rfl) (by simp)
            replace e0 : vs 0 = (.agg #[.int .i64 k, .int .i64 n, .string s, .slice av ts.length cv]) := e0
            rw [e0] at t0
            have hb6 := hpre.1 rfl
            have lr := hb6.lt
            have hb6' := hb6
            obtain ⟨r0, r1, r2, r3, z0, z1, z2, z3⟩ := hb6'
            go_simp
            exact hK undef (fun _ => False) (fun _ => False) _ (put4_fr _ _ _ _ _ (.inr (.inl ⟨rfl, rfl⟩))) (BoxT.put4x hb6 _ _ _ _) (fun _ h => h.elim) (fun _ h => h.elim)
          case h3 =>
            intro A vs E R w5 old dep hbn hds hpre hfr K hK
            have s7 := old 7 (by kernel_rfl)
            simp only [List.getElem?_toArray, List.getElem?_cons_succ, List.getElem?_cons_zero] at s7
            obtain ⟨e1, t1⟩ := dep 1 (by decide)
            replace t1 := t1 84 (by kernel_rfl) (by simp)
            replace e1 : vs 1 = (.agg #[.slice la qs.length lc, .slice ra qs.length rc]) := e1
            rw [e1] at t1
            have hb7 := hpre.2 rfl
            have lr := hb7.lt
            have hb7' := hb7
            obtain ⟨r0, r1, z0, z1⟩ := hb7'
            go_simp
            exact hK undef (fun _ => False) (fun _ => False) _ (put2_fr _ _ _ (.inr (.inr ⟨rfl, rfl⟩))) (hb7.put _ _) (fun _ h => h.elim) (fun _ h => h.elim)

      case he9 =>
          intro vs E R w9 f9 hres _
          have r6 : BoxT w9 (w.heap.size + 1 + 1 + 1) (.int .i64 k) (.int .i64 n) (.string s) (.slice av ts.length cv) := (hres 2 (by show 2 < 4; decide) (fun _ _ => by simp [cons0])).1
          have r7 : Box2 w9 (w.heap.size + 1 + 1 + 1 + 1) (.slice la qs.length lc) (.slice ra qs.length rc) := (hres 3 (by show 3 < 4; decide) (fun _ _ => by simp [cons0])).1
          have F9 := Lib.hid f9
          have X6 := Lib.hid r6
          have X7 := Lib.hid r7
          clear f9 hres r6 r7
          simp only [putO, Act.put, List.setIfInBounds_toArray, List.set_cons_zero, List.set_cons_succ]
          go_wp2_with fail
          refine ret42 (p := 6) (q := 7) (T := 29) (T2 := 71) (by kernel_rfl) (fun _ => by kernel_rfl) (fun _ => by kernel_rfl) (fun _ => by kernel_rfl) (fun _ => by kernel_rfl) rfl rfl rfl X6.out X7.out ?_
          have oM : ∀ g, (Y g ∨ w.heap.size + 1 + 1 + 1 + 1 + 1 + 1 ≤ g) → ¬ ∃ i, O2 2 3 (w.heap.size + 1 + 1 + 1) (w.heap.size + 1 + 1 + 1 + 1) i g := fun g hg => by
            have := hg.imp (HB.out g) id
            rintro ⟨i, ⟨_, h⟩ | ⟨_, h⟩⟩ <;> omega
          have e9 : Ext w w9 := ((Fr.of_ext (M := fun g => ∃ i, O2 2 3 (w.heap.size + 1 + 1 + 1) (w.heap.size + 1 + 1 + 1 + 1) i g) HK.out.ext).trans F9.out).toExt (fun k hk => by rintro ⟨i, ⟨_, h⟩ | ⟨_, h⟩⟩ <;> omega)
          rw [HF.out]
          simp only [HR.out]
          refine ⟨av, cv, _, _, Y', rfl, own_iff.2 ⟨HNS.out, ?_, HK.out.app.mono (fun b hb => ⟨by omega, hb.2.2⟩) F9.out (fun b hb => oM b (.inr hb.1))⟩, HK.out.prs.fr F9.out (fun g hg => oM g (HK.out.zone g hg).2), fun g hg => ⟨Nat.lt_of_lt_of_le (HK.out.zone g hg).1 F9.out.size, (HK.out.zone g hg).2.imp id (fun h => by omega)⟩, e9⟩
          have := HL.out
          simp only [Tm.kids]; omega
/-- the reference's l3General -/
theorem specgen : ∀ (m : Nat) (t : Tm), Tm.sz t ≤ m → ∀ u, GenSC t u := by
  intro m
  induction m with
  | zero => intro t hm; have := Tm.sz_pos t; omega
  | succ m ih =>
    intro t hm u
    by_cases hh : headF t u
    · obtain ⟨k, n, s, ks⟩ := t
      exact specgenl k n s ks u hh (fun j t h x => ih t (by have := kid_lt (k := k) (n := n) (s := s) (ks := ks) h; omega) x)
    · refine specgen_other t u hh ?_
      by_cases h1 : t.kind = u.kind
      · by_cases h2 : t.kind = 1
        · exact .inr (.inl ⟨by simp [h1], by simp [h2]⟩)
        · by_cases h3 : t.n = u.n
          · by_cases h4 : t.name = u.name
            · exact .inr (.inr (.inr (.inr ⟨by simp [h1], by simpa using h2, by simp [h3], by simp [h4], beq_false_of_ne (fun h => hh ⟨h1, h2, h3, h4, by omega⟩)⟩)))
            · exact .inr (.inr (.inr (.inl ⟨by simp [h1], by simpa using h2, by simp [h3], beq_false_of_ne (fun h => h4 (bl_ext h))⟩)))
          · exact .inr (.inr (.inl ⟨by simp [h1], by simpa using h2, by simpa using h3⟩))
      · exact .inl (by simpa using h1)
end Go.Proofs.Yteplfajhmpmklaa
