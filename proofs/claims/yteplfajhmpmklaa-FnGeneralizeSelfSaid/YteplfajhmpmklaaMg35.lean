/-
  Generalization: the program's generalize: the pairs behind a pointer, the loop over the arguments.
-/
import Derived.Deep.RegionLaw
import Derived.Test.YteplfajhmpmklaaMg34
import Derived.Test.YteplfajhmpmklaaMg25
namespace Go.Proofs.Yteplfajhmpmklaa
open Go.RowKit
set_option linter.unusedVariables false

/-- append of one term, all in zone z .. but for the blocks of X -/
theorem step_append_owx {P : Program} {ops : Array Oper} {o : Oper} {a : Act} {w0 w1 : World} {K : Act → World → Prop} {Q : Exit → Act → World → Prop} {E : Prop} (X : Nat → Prop)
    (hgd : o.guard = none) (s x : Operand) (ty : TypeId)
    (ho : o.op = .call { callee := .builtin .append, args := #[s, x], argTypes := #[ty, ty] })
    (z : Nat) (i : TypeInfo) (ht : P.underlying ty = some (.slice 29)) (hi : P.info? 29 = some i) (hz : i.zero = some (.agg #[.int .i64 0, .int .i64 0, .string ⟨#[]⟩, .slice none 0 0]))
    (hsize : i.size = 4) (hby : i.bytes = 56)
    (v : Value) (ts : List Tm) (t : Tm) (a2 : Option Addr) (c2 : Nat) (hs : a.eval s = v) (happ : OwnS (fun b => z ≤ b ∧ b < w0.heap.size ∧ ¬ X b) ts v w1) {nb : Nat} (hx : a.eval x = .slice (some ⟨nb, 0, none⟩) 1 1)
    (hv1 : Tm.own (fun b => w0.heap.size ≤ b ∧ ¬ X b) w1 t (.slice a2 t.kids.length c2)) (hw : w0.heap.size ≤ w1.heap.size) (hzw : z ≤ w0.heap.size) (hX : ∀ b, X b → b < w1.heap.size)
    (hl : ts.length < 1048576) (hnb : nb = w1.heap.size)
    (h : ∀ av cv w2, OwnS (fun b => z ≤ b ∧ b < w2.heap.size ∧ ¬ X b) (ts ++ [t]) (.slice av (ts.length + 1) cv) w2 → Fr (fun b => z ≤ b ∧ ¬ X b) w1 w2 → K (a.put o.dst (.slice av (ts.length + 1) cv)) w2) :
    if Region.wanted o (yielded ops a.tmps) = true then Oper.wp P o a (w1.alloc (.cells #[.int .i64 t.kind, .int .i64 t.n, .string t.name, .slice a2 t.kids.length c2] 29)) K Q else E := by
  subst hnb
  obtain ⟨xs, how, hzz, hfl⟩ := happ
  have hb := own_bound _ _ hv1
  refine step_append_fresh hgd s x ty ho 0 29 i _ 4 56 ht hi hz hsize hby rfl (by decide) v ts.length xs hs (own_ext how (Ext.alloc _ _)) ⟨w1.heap.size, 0, none⟩ 1 1 (tcells t a2 c2) hx rfl (fun j u h => cell_four _ _ _ j u h) (by simp [tcells, Value.oneCell']) (by unfold maxLen; omega) (by omega) (by omega) ?_
  intro v2 w2 ho2 hg2 hfr2
  obtain ⟨av, cv, rfl⟩ := own_form ho2
  have hn := ownS_next how hzz hfl hb (fun b h1 h2 => by omega) (fun b h => by omega) (fun b h => by omega) ho2 hg2 hfr2
  refine h av cv w2 ((hn.bound).mono (M := fun _ => False) (fun b hb => ⟨?_, hb.2, ?_⟩) (Fr.refl _ _) (fun _ _ h => h)) ((Fr.alloc _ _).trans (Fr.of_grown hg2 (fun k hk => ⟨(hzz k hk).1, (hzz k hk).2.2⟩)))
  · rcases hb.1 with h | h | h <;> omega
  · rcases hb.1 with h | h | h
    · exact h.2.2
    · exact h.1.2
    · intro hx; have := hX _ hx; omega

/-- the pairs behind a pointer -/
def PrC (S : Nat → Prop) (pp : Nat) (qs : List (Tm × Tm)) (pv : Value) (w : World) : Prop := w.cell? ⟨pp, 0, none⟩ = some pv ∧ w.frozen? ⟨pp, 0, none⟩ = false ∧ PrI S qs pv w ∧ pv.ownBlock ≠ some pp
theorem PrC.lt {S : Nat → Prop} {pp : Nat} {qs : List (Tm × Tm)} {pv : Value} {w : World} (h : PrC S pp qs pv w) : pp < w.heap.size := block_lt_of_cell h.1
theorem PrC.fr {S M : Nat → Prop} {pp : Nat} {qs : List (Tm × Tm)} {pv : Value} {w w' : World} (h : PrC S pp qs pv w) (f : Fr M w w') (hp : ¬ M pp) (hM : ∀ g, pv.ownBlock = some g → ¬ M g) (hS : ∀ k, S k → ¬ M k) : PrC S pp qs pv w' :=
  ⟨f.cell hp h.1, f.frozen h.lt hp h.2.1, h.2.2.1.fr f hM hS, h.2.2.2⟩
theorem PrC.ext {S : Nat → Prop} {pp : Nat} {qs : List (Tm × Tm)} {pv : Value} {w w' : World} (h : PrC S pp qs pv w) (f : Ext w w') : PrC S pp qs pv w' := h.fr (M := fun _ => False) (Fr.of_ext f) (fun h => h) (fun _ _ h => h) (fun _ _ h => h)
/-- between the rounds -/
structure KidP (S : Nat → Prop) (pp : Nat) (pv : Value) (w : World) (O R z : Nat) (ts : List Tm) (qs : List (Tm × Tm)) (u0 u1 u2 : Value) (av : Option Addr) (cv : Nat) (pv' : Value) (wr : World) : Prop where
  app : OwnS (fun b => z ≤ b ∧ b < wr.heap.size ∧ ¬ pv'.ownBlock = some b) ts (.slice av ts.length cv) wr
  box : BoxT wr O u0 u1 u2 (.slice av ts.length cv)
  res : BoxT wr R (.int .i64 0) (.int .i64 0) (.string ⟨#[]⟩) (.slice none 0 0)
  prs : PrC S pp qs pv' wr
  own : ∀ g, pv'.ownBlock = some g → pv.ownBlock = some g ∨ z ≤ g
  fr : Fr (fun k => k = pp ∨ pv.ownBlock = some k) w wr
theorem KidP.next {S : Nat → Prop} {pp : Nat} {pv pv1 pv2 : Value} {w wr w1 w2 : World} {O R z : Nat} {ts : List Tm} {t : Tm} {qs qs' : List (Tm × Tm)} {u0 u1 u2 : Value} {av av2 : Option Addr} {cv cv2 : Nat}
    (h : KidP S pp pv w O R z ts qs u0 u1 u2 av cv pv1 wr) (hO : w.heap.size ≤ O) (hR : w.heap.size ≤ R) (hOz : O < z) (hRz : R < z) (hRO : R ≠ O) (hzr : z ≤ wr.heap.size) (hpp : pp < w.heap.size) (hpv : ∀ g, pv.ownBlock = some g → g < w.heap.size) (hS : ∀ b, S b → b < w.heap.size)
    (f1 : Fr (fun k => k = pp ∨ pv1.ownBlock = some k) wr w1) (hp : PrC S pp qs' pv2 w1) (ho : ∀ g, pv2.ownBlock = some g → pv1.ownBlock = some g ∨ wr.heap.size ≤ g)
    (hA : OwnS (fun b => z ≤ b ∧ b < w2.heap.size ∧ ¬ pv2.ownBlock = some b) (ts ++ [t]) (.slice av2 (ts.length + 1) cv2) w2) (hf : Fr (fun b => z ≤ b ∧ ¬ pv2.ownBlock = some b) w1 w2) :
    KidP S pp pv w O R z (ts ++ [t]) qs' u0 u1 u2 av2 cv2 pv2 (w2.setCell ⟨O, 3, none⟩ (.slice av2 (ts.length + 1) cv2)) := by
  have hlen : (ts ++ [t]).length = ts.length + 1 := by simp
  have o1 : ∀ g, pv1.ownBlock = some g → g < w.heap.size ∨ z ≤ g := fun g hg => (h.own g hg).imp (hpv g) id
  have o2 : ∀ g, pv2.ownBlock = some g → pv.ownBlock = some g ∨ z ≤ g := fun g hg => by
    rcases ho g hg with h1 | h1
    · exact h.own g h1
    · exact .inr (by omega)
  have n1 : ∀ b, w.heap.size ≤ b → b < z → ¬ (b = pp ∨ pv1.ownBlock = some b) := fun b h1 h2 h3 => by
    rcases h3 with h3 | h3
    · omega
    · have := o1 b h3; omega
  have n2 : ∀ b, b < z → ¬ (z ≤ b ∧ ¬ pv2.ownBlock = some b) := fun b h1 h2 => by omega
  have g2 : ∀ g, pv2.ownBlock = some g → g ≠ O := fun g hg e => by
    rcases o2 g hg with h1 | h1
    · have := hpv g h1; omega
    · omega
  refine ⟨?_, ?_, ?_, ?_, o2, ?_⟩
  · rw [hlen]
    exact hA.mono (M := fun k => k = O) (fun b hb => ⟨hb.1, by simpa [World.setCell] using hb.2.1, hb.2.2⟩) (Fr.setCell _ rfl) (fun b hb h => by omega)
  · rw [hlen]
    exact ((h.box.fr f1 (n1 O hO hOz)).fr hf (n2 O hOz)).set3 _
  · exact ((h.res.fr f1 (n1 R hR hRz)).fr hf (n2 R hRz)).fr (M := fun k => k = O) (Fr.setCell _ rfl) hRO
  · exact (hp.fr hf (n2 pp (by omega)) (fun g hg hm => hm.2 hg) (fun k hk => n2 k (by have := hS k hk; omega))).fr (M := fun k => k = O) (Fr.setCell _ rfl) (by omega) (fun g hg => g2 g hg) (fun k hk e => by have := hS k hk; omega)
  · have f2 : Fr (fun k => k = pp ∨ pv.ownBlock = some k ∨ w.heap.size ≤ k) w (w2.setCell ⟨O, 3, none⟩ (.slice av2 (ts.length + 1) cv2)) :=
      ((h.fr.mono (fun k _ hk => hk.imp id .inl)).trans (f1.mono (fun k _ hk => by
        rcases hk with hk | hk
        · exact .inl hk
        · rcases h.own k hk with h1 | h1
          · exact .inr (.inl h1)
          · exact .inr (.inr (by omega))))).trans ((hf.mono (fun k _ hk => .inr (.inr (by omega)))).trans (Fr.setCell _ (.inr (.inr hO))))
    exact f2.mono (fun k h1 hk => by
      rcases hk with hk | hk | hk
      · exact .inl hk
      · exact .inr hk
      · omega)

/-- what generalize leaves -/
def GenPost (S : Nat → Prop) (pp : Nat) (pv : Value) (r : Tm) (qs : List (Tm × Tm)) (w : World) (e : Ending) (w' : World) : Prop :=
  ∃ a c pv', e = .returned (.agg #[.int .i64 r.kind, .int .i64 r.n, .string r.name, .slice a r.kids.length c]) ∧ Tm.own (fun b => w.heap.size ≤ b ∧ ¬ pv'.ownBlock = some b) w' r (.slice a r.kids.length c) ∧ PrC S pp qs pv' w' ∧
    (∀ g, pv'.ownBlock = some g → pv.ownBlock = some g ∨ w.heap.size ≤ g) ∧ Fr (fun k => k = pp ∨ pv.ownBlock = some k) w w'
def GenC (t u : Tm) : Prop := ∀ (v v' pv : Value) (ps : List (Tm × Tm)) (S : Nat → Prop) (w : World) (pp d d' : Nat), shapeF t d = true → shapeF u d' = true → Tm.at S w t v → Tm.at S w u v' → (∀ b, S b → b < w.heap.size) → ¬ S pp → (∀ g, pv.ownBlock = some g → ¬ S g) → ps.length + Tm.sz t ≤ 1048576 → PrC S pp ps pv w →
    Calls Try.prog 57 #[v, v', .pointer (some ⟨pp, 0, none⟩)] w (GenPost S pp pv (genF t u ps).1 (genF t u ps).2 w)

set_option maxHeartbeats 1000000 in
theorem implgen1 (t u : Tm) (p : Tm × Tm) (v1 v2 v3 v4 : Value) (a1 a2 : Option Addr) (c1 c2 : Nat) (S : Nat → Prop) (w : World) (A B : Nat) (a b : Option Addr) (c d : Nat)
    (h1 : Tm.at S w p.1 (.agg #[.int .i64 p.1.kind, .int .i64 p.1.n, .string p.1.name, .slice a1 p.1.kids.length c1])) (h2 : Tm.at S w p.2 (.agg #[.int .i64 p.2.kind, .int .i64 p.2.n, .string p.2.name, .slice a2 p.2.kids.length c2]))
    (ht : Tm.at S w t (.agg #[.int .i64 t.kind, .int .i64 t.n, .string t.name, .slice a t.kids.length c])) (hu : Tm.at S w u (.agg #[.int .i64 u.kind, .int .i64 u.n, .string u.name, .slice b u.kids.length d]))
    (hA : BoxT w A (.int .i64 t.kind) (.int .i64 t.n) (.string t.name) (.slice a t.kids.length c)) (hB : BoxT w B (.int .i64 u.kind) (.int .i64 u.n) (.string u.name) (.slice b u.kids.length d)) :
    Calls Try.prog 91 #[.agg #[.int .i64 p.1.kind, .int .i64 p.1.n, .string p.1.name, .slice a1 p.1.kids.length c1, .int .i64 p.2.kind, .int .i64 p.2.n, .string p.2.name, .slice a2 p.2.kids.length c2], .pointer (some ⟨A, 0, none⟩), .pointer (some ⟨B, 0, none⟩)] w
      fun e w' => e = .returned (.bool (Tm.same p.1 t && Tm.same p.2 u)) ∧ Ext w w' := by
  have H1 := Lib.hid h1
  have H2 := Lib.hid h2
  have HT := Lib.hid ht
  have HU := Lib.hid hu
  have HA := Lib.hid hA
  have HB := Lib.hid hB
  obtain ⟨x0, x1, x2, x3, _, _, _, _⟩ := hA
  obtain ⟨y0, y1, y2, y3, _, _, _, _⟩ := hB
  have lA := HA.out.lt
  have lB := HB.out.lt
  clear h1 h2 ht hu
  go_enter Try.func91, Try.ntmps91
  go_wp2_with fail
  refine (implTermSame _ p.1 t _ _ S S _ (Nat.le_refl _) (Tm.at_ext (Ext.alloc _ _) H1.out) (Tm.at_ext (Ext.alloc _ _) HT.out)).mono ?_
  obtain ⟨bb, hb⟩ : ∃ bb, Tm.same p.1 t = bb := ⟨_, rfl⟩
  rw [hb]
  rintro e w1 ⟨rfl, e1⟩
  have E1 := Lib.hid ((Ext.alloc _ _).trans e1)
  have q4 := e1.cell (a := ⟨w.heap.size, 4, none⟩) (v := .int .i64 p.2.kind) (by go_simp)
  have q5 := e1.cell (a := ⟨w.heap.size, 5, none⟩) (v := .int .i64 p.2.n) (by go_simp)
  have q6 := e1.cell (a := ⟨w.heap.size, 6, none⟩) (v := .string p.2.name) (by go_simp)
  have q7 := e1.cell (a := ⟨w.heap.size, 7, none⟩) (v := .slice a2 p.2.kids.length c2) (by go_simp)
  replace y0 := E1.out.cell y0
  replace y1 := E1.out.cell y1
  replace y2 := E1.out.cell y2
  replace y3 := E1.out.cell y3
  have Hb := Lib.hid hb
  clear e1 x0 x1 x2 x3 hb
  cases bb
  · go_wp2_with fail
    go_ret
    exact ⟨by rw [Hb.out]; rfl, E1.out⟩
  · go_wp2_with fail
    refine (implTermSame _ p.2 u _ _ S S _ (Nat.le_refl _) (Tm.at_ext E1.out H2.out) (Tm.at_ext E1.out HU.out)).mono ?_
    rintro e w2 ⟨rfl, e2⟩
    have E2 := Lib.hid (E1.out.trans e2)
    clear e2
    go_wp2_with fail
    go_ret
    exact ⟨by rw [Hb.out]; rfl, E2.out⟩

/-- the place of a pair, by IndexFunc's answer -/
theorem pidx_at : ∀ {ps : List (Tm × Tm)} {t u : Tm} {b : Nat → Bool}, (∀ j p, ps[j]? = some p → b j = (Tm.same p.1 t && Tm.same p.2 u)) → ∀ {j : Nat}, j < ps.length → (∀ i, i < j → b i = false) → b j = true → pidx ps t u = j
  | [], _, _, _, _, j, h, _, _ => by simp at h
  | p :: ps, t, u, b, hb, 0, _, _, h => by
    rw [hb 0 p rfl] at h
    simp only [pidx, if_pos h]
  | p :: ps, t, u, b, hb, j + 1, hj, h1, h2 => by
    have h0 := h1 0 (by omega)
    rw [hb 0 p rfl] at h0
    simp only [pidx]
    rw [if_neg (by rw [h0]; simp)]
    rw [pidx_at (b := fun i => b (i + 1)) (fun j p hp => hb (j + 1) p (by simpa using hp)) (j := j) (by simpa using hj) (fun i hi => h1 (i + 1) (by omega)) h2]
theorem pidx_no : ∀ {ps : List (Tm × Tm)} {t u : Tm} {b : Nat → Bool}, (∀ j p, ps[j]? = some p → b j = (Tm.same p.1 t && Tm.same p.2 u)) → (∀ i, i < ps.length → b i = false) → pidx ps t u = ps.length
  | [], _, _, _, _, _ => rfl
  | p :: ps, t, u, b, hb, h1 => by
    have h0 := h1 0 (by simp)
    rw [hb 0 p rfl] at h0
    simp only [pidx]
    rw [if_neg (by rw [h0]; simp), pidx_no (b := fun i => b (i + 1)) (fun j p hp => hb (j + 1) p (by simpa using hp)) (fun i hi => h1 (i + 1) (by simp; omega))]
    rfl
/-- the test of a pair at a place -/
def atP (t u : Tm) (ps : List (Tm × Tm)) (j : Nat) : Bool := match ps[j]? with | some p => Tm.same p.1 t && Tm.same p.2 u | none => false
theorem atP_eq (t u : Tm) (ps : List (Tm × Tm)) : ∀ j p, ps[j]? = some p → atP t u ps j = (Tm.same p.1 t && Tm.same p.2 u) := fun j p h => by unfold atP; rw [h]
theorem implindexP (t u : Tm) (ps : List (Tm × Tm)) (pv : Value) (S : Nat → Prop) (w : World) (A B : Nat) (a b : Option Addr) (c d : Nat)
    (hp : PrI S ps pv w) (ht : Tm.at S w t (.agg #[.int .i64 t.kind, .int .i64 t.n, .string t.name, .slice a t.kids.length c])) (hu : Tm.at S w u (.agg #[.int .i64 u.kind, .int .i64 u.n, .string u.name, .slice b u.kids.length d]))
    (hA : BoxT w A (.int .i64 t.kind) (.int .i64 t.n) (.string t.name) (.slice a t.kids.length c)) (hB : BoxT w B (.int .i64 u.kind) (.int .i64 u.n) (.string u.name) (.slice b u.kids.length d)) :
    Calls Try.prog 90 #[pv, .func (.func 91) #[] #[.pointer (some ⟨A, 0, none⟩), .pointer (some ⟨B, 0, none⟩)]] w
      fun e w' => Ext w w' ∧ ((pidx ps t u < ps.length ∧ e = .returned (.int .i64 (pidx ps t u : Nat))) ∨ (pidx ps t u = ps.length ∧ e = .returned (.int .i64 (-1)))) := by
  refine (slicesIndexFuncP 91 _ ps S (fun _ w' => Ext w w') (atP t u ps) pv w (fun _ _ => by kernel_rfl) (Lib.hid fun j p a1 a2 c1 c2 w' hj e h1 h2 => ?_) (Lib.hid fun j w' e => (hp.ext e).sl) (Lib.hid (Ext.refl w))).mono ?_
  · refine (implgen1 t u p pv pv pv pv a1 a2 c1 c2 S w' A B a b c d h1 h2 (Tm.at_ext e ht) (Tm.at_ext e hu) (hA.ext e) (hB.ext e)).mono ?_
    rintro e' w'' ⟨rfl, e2⟩
    exact ⟨by rw [atP_eq t u ps j p hj], e.trans e2⟩
  · rintro e w' (⟨j, hj, hb, hbj, rfl, hI⟩ | ⟨hb, rfl, hI⟩)
    · have h := pidx_at (atP_eq t u ps) hj hb hbj
      exact ⟨hI, .inl ⟨by omega, by rw [h]⟩⟩
    · exact ⟨hI, .inr ⟨pidx_no (atP_eq t u ps) hb, rfl⟩⟩

end Go.Proofs.Yteplfajhmpmklaa
