/-
  Bindings whose terms share nothing, in a row of their own: what unification returns; append of one.
-/
import Derived.Test.YtognkaebiafgbaaGreatMv34
import Derived.Test.YtognkaebiafgbaaGreatMv27
import Derived.Test.YtognkaebiafgbaaGreatMv49
import Derived.Test.YtognkaebiafgbaaGreatMv9
namespace Go.Proofs.YtognkaebiafgbaaGreat
open Go.RowKit
set_option linter.unusedVariables false
def bcells (x : Bd) (a : Option Addr) (c : Nat) : List Value := .int .i64 x.n :: tcells x.t a c
def Bd.oflat (F : Nat → Prop) (w : World) : List Bd → List Value → Prop
  | [], xs => xs = []
  | x :: ts, xs => ∃ (F1 F2 : Nat → Prop) (a : Option Addr) (c : Nat) (rest : List Value), xs = bcells x a c ++ rest ∧ (∀ b, F1 b → F b ∧ ¬ F2 b) ∧ (∀ b, F2 b → F b) ∧ Tm.own F1 w x.t (.slice a x.t.kids.length c) ∧ Bd.oflat F2 w ts rest
def OwnB (F : Nat → Prop) (ts : List Bd) (v : Value) (w : World) : Prop :=
  ∃ xs, w.ownsRow 0 87 5 v ts.length xs ∧ (∀ g, v.ownBlock = some g → F g) ∧ Bd.oflat (fun b => F b ∧ v.ownBlock ≠ some b) w ts xs
theorem oflatB_mono {w w' : World} {M : Nat → Prop} (f : Fr M w w') : ∀ {F F' : Nat → Prop} (hF : ∀ b, F b → F' b) (hM : ∀ b, F b → ¬ M b) (ts : List Bd) (xs : List Value), Bd.oflat F w ts xs → Bd.oflat F' w' ts xs
  | F, F', hF, hM, [], xs, h => h
  | F, F', hF, hM, t :: ts, xs, h => by
    obtain ⟨F1, F2, a, c, rest, h1, h2, h3, h4, h5⟩ := h
    exact ⟨F1, F2, a, c, rest, h1, fun b hb => ⟨hF b (h2 b hb).1, (h2 b hb).2⟩, fun b hb => hF b (h3 b hb), own_mono (fun b hb => hb) f (fun b hb => hM b (h2 b hb).1) t.t _ h4, oflatB_mono f (fun b hb => hb) (fun b hb => hM b (h3 b hb)) ts rest h5⟩
theorem OwnB.mono {F F' : Nat → Prop} {w w' : World} {M : Nat → Prop} {ts : List Bd} {v : Value} (h : OwnB F ts v w) (hF : ∀ b, F b → F' b) (f : Fr M w w') (hM : ∀ b, F b → ¬ M b) : OwnB F' ts v w' := by
  obtain ⟨xs, h3, h4, h5⟩ := h
  exact ⟨xs, own_fr h3 f (fun g hg => hM g (h4 g hg)), fun g hg => hF g (h4 g hg), oflatB_mono f (fun b hb => ⟨hF b hb.1, hb.2⟩) (fun b hb => hM b hb.1) _ xs h5⟩
theorem OwnB.ext {F : Nat → Prop} {w w' : World} {ts : List Bd} {v : Value} (h : OwnB F ts v w) (e : Ext w w') : OwnB F ts v w' := h.mono (M := fun _ => False) (fun _ h => h) (Fr.of_ext e) (fun _ _ h => h)
theorem OwnB.zone {F F' : Nat → Prop} {w : World} {ts : List Bd} {v : Value} (h : OwnB F ts v w) (hF : ∀ b, F b → F' b) : OwnB F' ts v w := h.mono (M := fun _ => False) hF (Fr.refl _ _) (fun _ _ h => h)
theorem oflatB_bound : ∀ {F : Nat → Prop} {w : World} (ts : List Bd) (xs : List Value), Bd.oflat F w ts xs → Bd.oflat (fun b => F b ∧ b < w.heap.size) w ts xs
  | F, w, [], xs, h => h
  | F, w, t :: ts, xs, h => by
    obtain ⟨F1, F2, a, c, rest, h1, h2, h3, h4, h5⟩ := h
    exact ⟨fun b => F1 b ∧ b < w.heap.size, fun b => F2 b ∧ b < w.heap.size, a, c, rest, h1, fun b hb => ⟨⟨(h2 b hb.1).1, hb.2⟩, fun h => (h2 b hb.1).2 h.1⟩, fun b hb => ⟨h3 b hb.1, hb.2⟩, own_bound t.t _ h4, oflatB_bound ts rest h5⟩
theorem OwnB.bound {F : Nat → Prop} {w : World} {ts : List Bd} {v : Value} (h : OwnB F ts v w) : OwnB (fun b => F b ∧ b < w.heap.size) ts v w := by
  obtain ⟨xs, h3, h4, h5⟩ := h
  exact ⟨xs, h3, fun g hg => ⟨h4 g hg, (h3.lt g hg).2⟩, oflatB_mono (M := fun _ => False) (Fr.refl _ _) (fun b hb => ⟨⟨hb.1.1, hb.2⟩, hb.1.2⟩) (fun _ _ h => h) _ _ (oflatB_bound ts xs h5)⟩
theorem OwnB.nil (F : Nat → Prop) (w : World) : OwnB F [] (.slice none 0 0) w := ⟨[], ⟨rfl, .inl ⟨rfl, rfl⟩⟩, by simp [Value.ownBlock], rfl⟩
theorem OwnB.form {F : Nat → Prop} {ts : List Bd} {v : Value} {w : World} (h : OwnB F ts v w) : ∃ a c, v = .slice a ts.length c := by
  obtain ⟨xs, h1, _⟩ := h
  exact own_form h1
theorem oflatB_row {w : World} {b : Nat} : ∀ {F : Nat → Prop} {ts : List Bd} {xs : List Value} {off : Nat}, Bd.oflat F w ts xs → (∀ j, j < xs.length → w.cell? ⟨b, off + j, none⟩ = xs[j]?) → Bd.row (fun _ => True) w b off ts
  | F, [], xs, off, h, hc => trivial
  | F, t :: ts, xs, off, h, hc => by
    obtain ⟨F1, F2, a, c, rest, rfl, h2, h3, h4, h5⟩ := h
    have ha := Tm.at_mono (fun _ _ => trivial) (Agree.refl w) (own_flat t.t a c h4)
    obtain ⟨hs, sv, e, hk⟩ := Tm.at_iff.1 ha
    simp only [Value.agg.injEq, Array.mk.injEq, List.cons.injEq, and_true, true_and] at e
    subst e
    refine ⟨⟨?_, Tm.cells_iff.2 ⟨_, ?_, ?_, ?_, ?_, hs, hk⟩⟩, oflatB_row h5 (fun j hj => ?_)⟩
    · simpa [bcells, tcells] using hc 0 (by simp [bcells, tcells])
    · simpa [bcells, tcells] using hc 1 (by simp [bcells, tcells])
    · simpa [bcells, tcells] using hc 2 (by simp [bcells, tcells])
    · simpa [bcells, tcells] using hc 3 (by simp [bcells, tcells])
    · simpa [bcells, tcells] using hc 4 (by simp [bcells, tcells])
    · have := hc (5 + j) (by simp [bcells, tcells]; omega)
      rw [show off + (5 + j) = off + 5 + j by omega] at this
      rw [this, show 5 + j = j + 5 by omega]
      simp [bcells, tcells]
theorem OwnB.sl {F : Nat → Prop} {w : World} {ts : List Bd} {v : Value} (h : OwnB F ts v w) (hl : ts.length ≤ 1048576) : Bd.sl (fun _ => True) w ts v := by
  obtain ⟨xs, ho, hz, hf⟩ := h
  have hcell := fun (g : Nat) (hg : v.ownBlock = some g) => ho.cells (g := g) hg
  obtain ⟨h1, h2⟩ := ho
  rcases h2 with ⟨rfl, h2⟩ | ⟨g, cap, cur, rfl, h3, h4, h5, h6, h7, h8⟩
  · have : ts = [] := List.eq_nil_of_length_eq_zero h2
    subst this
    exact ⟨none, 0, by simp, by simp, by omega, by simp, .inl rfl⟩
  · refine ⟨_, cap, rfl, h5, h6, hl, .inr ⟨g, 0, rfl, trivial, oflatB_row hf (fun j hj => ?_)⟩⟩
    have := hcell g rfl j xs[j] (by simp [hj])
    rw [show (⟨g, 0, none⟩ : Addr).add j = ⟨g, 0 + j, none⟩ by unfold Addr.add; split <;> simp_all] at this
    rw [this]; simp [hj]
theorem oflatB_snoc {w : World} {x : Bd} {a : Option Addr} {c : Nat} {G : Nat → Prop} (ht : Tm.own G w x.t (.slice a x.t.kids.length c)) : ∀ {F : Nat → Prop} {ts : List Bd} {xs : List Value}, Bd.oflat F w ts xs → (∀ b, F b → ¬ G b) →
    Bd.oflat (fun b => F b ∨ G b) w (ts ++ [x]) (xs ++ bcells x a c)
  | F, [], xs, h, _ => by
    rw [show xs = [] from h]
    exact ⟨G, fun _ => False, a, c, [], by simp, fun b hb => ⟨.inr hb, fun h => h⟩, fun b hb => hb.elim, ht, rfl⟩
  | F, u :: ts, xs, h, hd => by
    obtain ⟨F1, F2, a1, c1, rest, rfl, h2, h3, h4, h5⟩ := h
    exact ⟨F1, fun b => F2 b ∨ G b, a1, c1, rest ++ bcells x a c, by simp, fun b hb => ⟨.inl (h2 b hb).1, fun h => h.elim (h2 b hb).2 (hd b (h2 b hb).1)⟩, fun b hb => hb.elim (fun h => .inl (h3 b h)) .inr, h4, oflatB_snoc ht h5 (fun b hb => hd b (h3 b hb))⟩
theorem ownB_next {F G : Nat → Prop} {ts : List Bd} {x : Bd} {v nv : Value} {w1 w2 : World} {xs : List Value} {a2 : Option Addr} {c2 : Nat} {o : Obj}
    (how : w1.ownsRow 0 87 5 v ts.length xs) (hz : ∀ g, v.ownBlock = some g → F g) (hfl : Bd.oflat (fun b => F b ∧ v.ownBlock ≠ some b) w1 ts xs)
    (hv1 : Tm.own G w1 x.t (.slice a2 x.t.kids.length c2)) (hdis : ∀ b, F b → ¬ G b) (hG : ∀ b, G b → b < w1.heap.size) (hFl : ∀ b, F b → b < w1.heap.size)
    (ho2 : w2.ownsRow 0 87 5 nv (ts.length + 1) (xs ++ bcells x a2 c2)) (hg : (w1.alloc o).grownBy w2 v.ownBlock)
    (hfr : ∀ g, nv.ownBlock = some g → v.ownBlock = some g ∨ (w1.alloc o).heap.size ≤ g) : OwnB (fun b => F b ∨ G b ∨ w1.heap.size ≤ b) (ts ++ [x]) nv w2 := by
  have hs3 : (w1.alloc o).heap.size = w1.heap.size + 1 := by simp
  have f : Fr (fun b => v.ownBlock = some b) w1 w2 := (Fr.alloc w1 o).trans (Fr.of_grown hg (fun k hk => hk))
  refine ⟨xs ++ bcells x a2 c2, by simpa using ho2, ?_, ?_⟩
  · intro g hgg
    rcases hfr g hgg with h | h
    · exact .inl (hz g h)
    · exact .inr (.inr (by omega))
  · have hne : ∀ b, b < w1.heap.size → v.ownBlock ≠ some b → nv.ownBlock ≠ some b := by
      intro b hb h1 h2
      rcases hfr b h2 with h | h
      · exact h1 h
      · omega
    have hgv : ∀ b, G b → v.ownBlock ≠ some b := fun b hb h => hdis b (hz b h) hb
    have hs := oflatB_snoc (own_mono (F' := G) (fun b hb => hb) f (fun b hb => hgv b hb) x.t _ hv1) (oflatB_mono (F' := fun b => F b ∧ v.ownBlock ≠ some b) f (fun b hb => hb) (fun b hb => hb.2) ts xs hfl) (fun b hb => hdis b hb.1)
    refine oflatB_mono (M := fun _ => False) (Fr.refl _ _) ?_ (fun b _ h => h) _ _ hs
    rintro b (hb | hb)
    · exact ⟨.inl hb.1, hne b (hFl b hb.1) hb.2⟩
    · exact ⟨.inr (.inl hb), hne b (hG b hb) (hgv b hb)⟩
theorem cell_fiveB (w : World) (x : Bd) (T : Nat) {a : Option Addr} {c : Nat} (j : Nat) (u : Value) (h : (bcells x a c)[j]? = some u) :
    (w.alloc (.cells #[.int .i64 x.n, .int .i64 x.t.kind, .int .i64 x.t.n, .string x.t.name, .slice a x.t.kids.length c] T)).cell? ((⟨w.heap.size, 0, none⟩ : Addr).add j) = some u := by
  rw [show (⟨w.heap.size, 0, none⟩ : Addr).add j = ⟨w.heap.size, 0 + j, none⟩ by unfold Addr.add; split <;> simp_all]
  exact cell_new _ _ _ _ _ (by simpa [bcells, tcells] using h)
theorem info_bind : (Tryz.prog.info? 87).map (fun i => (i.zero, i.size, i.bytes)) = some (some (.agg #[.int .i64 0, .int .i64 0, .int .i64 0, .string ⟨#[]⟩, .slice none 0 0]), 5, 64) := by kernel_rfl
theorem bind_parts {o : Option TypeInfo} {z : Value} (h : o.map (fun i => (i.zero, i.size, i.bytes)) = some (some z, 5, 64)) : ∃ i, o = some i ∧ i.zero = some z ∧ i.size = 5 ∧ i.bytes = 64 := by
  cases o with
  | none => simp at h
  | some i => simp at h; exact ⟨i, rfl, h⟩
theorem wpList_append_ob {P : Program} {ops : Array Oper} {rest : List Oper} {o : Oper} {a : Act} {w0 w1 : World} {Q : Exit → Act → World → Prop}
    (hgd : o.guard = none) (s x : Operand) (ty : TypeId)
    (ho : o.op = .call { callee := .builtin .append, args := #[s, x], argTypes := #[ty, ty] })
    (z : Nat) (i : TypeInfo) (ht : P.underlying ty = some (.slice 87)) (hi : P.info? 87 = some i) (hz : i.zero = some (.agg #[.int .i64 0, .int .i64 0, .int .i64 0, .string ⟨#[]⟩, .slice none 0 0]))
    (hsize : i.size = 5) (hby : i.bytes = 64)
    (v : Value) (ts : List Bd) (y : Bd) (a2 : Option Addr) (c2 : Nat) (hs : a.eval s = v) (happ : OwnB (fun b => z ≤ b ∧ b < w0.heap.size) ts v w1) {nb : Nat} (hx : a.eval x = .slice (some ⟨nb, 0, none⟩) 1 1)
    (hv1 : Tm.own (fun b => w0.heap.size ≤ b) w1 y.t (.slice a2 y.t.kids.length c2)) (hw : w0.heap.size ≤ w1.heap.size) (hzw : z ≤ w0.heap.size)
    (hl : ts.length < 1048576) (hnb : nb = w1.heap.size)
    (h : ∀ av cv w2, OwnB (fun b => z ≤ b ∧ b < w2.heap.size) (ts ++ [y]) (.slice av (ts.length + 1) cv) w2 → Fr (fun b => z ≤ b) w1 w2 → wpList P ops Q rest (a.put o.dst (.slice av (ts.length + 1) cv)) w2) :
    wpList P ops Q (o :: rest) a (w1.alloc (.cells #[.int .i64 y.n, .int .i64 y.t.kind, .int .i64 y.t.n, .string y.t.name, .slice a2 y.t.kids.length c2] 87)) := by
  subst hnb
  obtain ⟨xs, how, hzz, hfl⟩ := happ
  have hb := own_bound _ _ hv1
  refine wpList_append_fresh hgd s x ty ho 0 87 i _ 5 64 ht hi hz hsize hby rfl (by decide) v ts.length xs hs (own_ext how (Ext.alloc _ _)) ⟨w1.heap.size, 0, none⟩ 1 1 (bcells y a2 c2) hx rfl (fun j u h => cell_fiveB _ _ _ j u h) (by simp [bcells, tcells, Value.oneCell']) (by unfold maxLen; omega) (by omega) (by omega) ?_
  intro v2 w2 ho2 hg2 hfr2 _
  obtain ⟨av, cv, rfl⟩ := own_form ho2
  have hn := ownB_next how hzz hfl hb (fun b h1 h2 => by omega) (fun b h => h.2) (fun b h => by omega) ho2 hg2 hfr2
  refine h av cv w2 ((hn.bound).mono (M := fun _ => False) (fun b hb => ⟨?_, hb.2⟩) (Fr.refl _ _) (fun _ _ h => h)) ((Fr.alloc _ _).trans (Fr.of_grown hg2 (fun k hk => (hzz k hk).1)))
  rcases hb.1 with h | h | h <;> omega
end Go.Proofs.YtognkaebiafgbaaGreat

namespace Go.Proofs.YtognkaebiafgbaaGreat
open Go.RowKit Go.Maps
set_option linter.unusedVariables false
open Classical in
noncomputable def resT (K : List Tm) (n : Int) : Tm := if h : ∃ T, ∃ f, resF f K (lookK K n) = some T then h.choose else zeroT
theorem resT_spec {K : List Tm} (hv : VK K) (hr : ∃ ρ, Rk K ρ) {n : Int} (hn : 0 ≤ n ∧ n ≤ 25) (hk : (lookK K n).kind ≠ 0) : ∃ f, resF f K (lookK K n) = some (resT K n) := by
  obtain ⟨ρ, hr⟩ := hr
  obtain ⟨d, hs⟩ := hv.2 n hn.1 hn.2 hk
  obtain ⟨f, T, h⟩ := res_ex hv hr _ d hs
  have he : ∃ T, ∃ f, resF f K (lookK K n) = some T := ⟨T, f, h⟩
  unfold resT
  rw [dif_pos he]
  exact he.choose_spec
noncomputable def bdsU (K : List Tm) : Nat → List Bd
  | 0 => []
  | j + 1 => if (lookK K (j : Int)).kind = 0 then bdsU K j else bdsU K j ++ [⟨(j : Int), resT K (j : Int)⟩]
noncomputable def okU (K : List Tm) : Nat → Bool
  | 0 => true
  | j + 1 => okU K j && (decide ((lookK K (j : Int)).kind = 0) || fits (resT K (j : Int)) 0 1)
theorem bdsU_len (K : List Tm) : ∀ j, (bdsU K j).length ≤ j
  | 0 => Nat.le_refl _
  | j + 1 => by
    have := bdsU_len K j
    unfold bdsU
    split
    · omega
    · simp; omega
theorem okU_no {K : List Tm} {j : Nat} (h : okU K j = false) : ∀ {m : Nat}, j ≤ m → okU K m = false
  | 0, hm => by rw [show (0 : Nat) = j by omega]; exact h
  | m + 1, hm => by
    by_cases e : j = m + 1
    · rw [← e]; exact h
    · unfold okU; rw [okU_no h (by omega)]; rfl
noncomputable def allR (K : List Tm) : List Bd := if okU K 26 = true then bdsU K 26 else []
def BdBO (bs : List Bd) (y : Value) (w : World) (e : Ending) (w' : World) : Prop := ∃ a c, e = .returned (.tuple #[.slice a bs.length c, y]) ∧ OwnB (fun b => w.heap.size ≤ b) bs (.slice a bs.length c) w' ∧ Ext w w'
set_option maxRecDepth 100000 in
set_option maxHeartbeats 8000000 in
theorem implall (K : List Tm) (S : Nat → Prop) (w : World) (sb mb : Nat) (hv : VK K) (hr : ∃ ρ, Rk K ρ) (hB : ∀ b, S b → b < w.heap.size) (hst : Sto S w sb mb K) :
    Calls Tryz.prog 33 #[.pointer (some ⟨sb, 0, none⟩)] w (BdBO (allR K) (.bool (okU K 26)) w) := by
  have HB := Lib.hid hB
  have HST := Lib.hid hst
  have HV := Lib.hid hv
  have HR := Lib.hid hr
  obtain ⟨hs0, hs1, hs2, m0, hm0, hkm⟩ := hst
  have HKM := Lib.hid hkm
  have HS0 := Lib.hid hs0
  have lsb := block_lt_of_cell hs0
  simp only at lsb
  obtain ⟨i0, hi, hz0, hz1, hz2⟩ := bind_parts info_bind
  have HI := Lib.hid hi
  have HZ := Lib.hid hz0
  have HZ1 := Lib.hid hz1
  have HZ2 := Lib.hid hz2
  clear hv hr hB hkm hm0 hi hz0 hz1 hz2 hs0
  go_enter Tryz.func33, Tryz.ntmps33
  go_wp2_with fail
  go_loopw [4, 9] (fun o i wr => ∃ (j : Nat) (av : Option Addr) (cv : Nat) (bs : List Bd), j ≤ 26 ∧ i = .int .i64 j ∧ o = .slice av bs.length cv ∧ Hid (bs = bdsU K j) ∧ Hid (okU K j = true) ∧
      Hid (OwnB (fun b => w.heap.size ≤ b ∧ b < wr.heap.size) bs (.slice av bs.length cv) wr) ∧ Hid (Ext w wr)) (fun _ i _ => 26 - (intOf i).toNat)
  case atStart => exact ⟨0, none, 0, [], by omega, rfl, rfl, Lib.hid rfl, Lib.hid rfl, Lib.hid (OwnB.nil _ _), Lib.hid (Ext.refl _)⟩
  case round =>
    obtain ⟨j, av, cv, bs, hj, rfl, rfl, HBS, HOK, HO, HE⟩ := hrel
    have lsr : sb < wr.heap.size := Nat.lt_of_lt_of_le lsb (Below.size HE.out)
    have lwr : w.heap.size ≤ wr.heap.size := Below.size HE.out
    by_cases hlt : j < 26
    · have hn : 0 ≤ (j : Int) ∧ (j : Int) ≤ 25 := by omega
      have s0 := HE.out.cell HS0.out
      by_cases hz : (lookK K (j : Int)).kind = 0
      · have L1 := run_look_no (HKM.out.ext HE.out) hn hz
        have HN : Hid (bdsU K (j + 1) = bdsU K j ∧ okU K (j + 1) = true) := Lib.hid ⟨by rw [bdsU, if_pos hz], by rw [okU, HOK.out, decide_eq_true hz]; rfl⟩
        clear hz
        go_wp2_with fail
        exact ⟨⟨j + 1, av, cv, bs, by omega, by go_num, rfl, Lib.hid (HBS.out.trans HN.out.1.symm), Lib.hid HN.out.2, Lib.hid (HO.out.mono (fun b hb => ⟨hb.1, by simp; omega⟩) (Fr.of_ext (M := fun _ => False) (Ext.alloc _ _)) (fun _ _ h => h)), Lib.hid (HE.out.trans (Ext.alloc _ _))⟩, by simp [intOf]; omega⟩
      · obtain ⟨ra, rc, hat, hrun⟩ := run_look_yes (HKM.out.ext HE.out) hn hz
        obtain ⟨f, hf⟩ := resT_spec HV.out HR.out hn hz
        obtain ⟨d, hsh⟩ := HV.out.2 (j : Int) hn.1 hn.2 hz
        obtain ⟨r, hr⟩ : ∃ r, lookK K (j : Int) = r := ⟨_, rfl⟩
        obtain ⟨T, hT⟩ : ∃ T, resT K (j : Int) = T := ⟨_, rfl⟩
        rw [hr] at hat hrun hsh hf
        rw [hT] at hf
        have HSH := Lib.hid hsh
        have HAT := Lib.hid hat
        have HF := Lib.hid hf
        have HN : Hid (bdsU K (j + 1) = bdsU K j ++ [⟨(j : Int), T⟩] ∧ okU K (j + 1) = fits T 0 1) := Lib.hid ⟨by rw [bdsU, if_neg hz, hT], by rw [okU, HOK.out, decide_eq_false hz, hT]; simp⟩
        have L1 := hrun _ (Ext.refl _)
        clear hz hr hT hat hsh hf hrun
        go_wp2_with fail
        obtain ⟨w5, hw5⟩ : ∃ z, z = wr.alloc (.cells #[.int .i64 r.kind, .int .i64 r.n, .string r.name, .slice ra r.kids.length rc] 26) := ⟨_, rfl⟩
        have E5 : Hid (Ext wr w5) := Lib.hid (by rw [hw5]; exact Ext.alloc _ _)
        rw [← hw5]
        clear hw5 L1 s0
        refine (implresolve _ K r T HF.out _ S w5 sb mb d HSH.out (fun b hb => by have := HB.out b hb; have := Below.size E5.out; omega) (Tm.at_ext E5.out HAT.out) (HST.out.ext (HE.out.trans E5.out)) HV.out).mono ?_
        rintro e w6 ⟨e6, hcase⟩
        have E6 := Lib.hid (E5.out.trans e6)
        have lw5 := Below.size E5.out
        have lw6 := Below.size e6
        clear e6
        rcases hcase with ⟨hfit, a2, c2, rfl, ho⟩ | ⟨hfit, rfl⟩
        · have HN2 : Hid (okU K (j + 1) = true) := Lib.hid (by rw [HN.out.2]; exact hfit)
          have HOT := Lib.hid ho
          clear hfit ho
          go_upto_region 10 with (fail)
          obtain ⟨w7, hw7⟩ : ∃ z, z = w6.alloc (.cells #[.int .i64 T.kind, .int .i64 T.n, .string T.name, .slice a2 T.kids.length c2] 26) := ⟨_, rfl⟩
          have E7 : Hid (Ext w6 w7) := Lib.hid (by rw [hw7]; exact Ext.alloc _ _)
          have X7 : Hid (BoxT w7 w6.heap.size (.int .i64 T.kind) (.int .i64 T.n) (.string T.name) (.slice a2 T.kids.length c2)) := Lib.hid (by rw [hw7]; exact BoxT.new _ _ _ _ _ _ rfl)
          rw [← hw7]
          clear hw7
          have lw7 := Below.size E7.out
          have HO7 := Lib.hid (HO.out.ext (E6.out.trans E7.out))
          have HT7 := Lib.hid (own_zone (F' := fun b => wr.heap.size ≤ b) (own_ext1 HOT.out E7.out) (fun b hb => by omega))
          have hl : bs.length < 1048576 := by have := bdsU_len K j; rw [HBS.out]; omega
          have hw07 : wr.heap.size ≤ w7.heap.size := by omega
          have E07 := Lib.hid (HE.out.trans (E6.out.trans E7.out))
          obtain ⟨x0, x1, x2, x3, _, _, _, _⟩ := X7.out
          have lx := X7.out.lt
          go_wp2_with (at_builtin; refine wpList_append_ob (w0 := wr) (w1 := w7) rfl (.tmp 31) (.tmp 35) 34 rfl w.heap.size i0 Tryz.underlying34 HI.out HZ.out HZ1.out HZ2.out (.slice av bs.length cv) bs ⟨(j : Int), T⟩ a2 c2 rfl HO7.out rfl HT7.out hw07 lwr hl rfl ?_; intro av2 cv2 w8 hA2 hf2; have A8 := Lib.hid hA2; have F8 := Lib.hid hf2; clear hA2 hf2)
          have hlen : (bs ++ [(⟨(j : Int), T⟩ : Bd)]).length = bs.length + 1 := by simp
          exact ⟨⟨j + 1, av2, cv2, bs ++ [⟨(j : Int), T⟩], by omega, by go_num, by rw [hlen], Lib.hid (by rw [HN.out.1, HBS.out]), HN2, Lib.hid (by rw [hlen]; exact A8.out), Lib.hid (((Fr.of_ext E07.out).trans F8.out).toExt (fun k hk h => by omega))⟩, by simp [intOf]; omega⟩
        · have HNO : Hid (okU K 26 = false) := Lib.hid (okU_no (j := j + 1) (by rw [HN.out.2]; exact hfit) (by omega))
          clear hfit
          go_wp2_with fail
          go_ret2
          have h1 : allR K = [] := by unfold allR; rw [HNO.out]; rfl
          exact ⟨none, 0, by rw [h1, HNO.out]; rfl, by rw [h1]; exact OwnB.nil _ _, HE.out.trans (E6.out.trans (Ext.alloc _ _))⟩
    · have hjj : j = 26 := by omega
      subst hjj
      go_wp2_with fail
      go_ret2
      have h1 : allR K = bs := by unfold allR; rw [HOK.out, if_pos rfl, HBS.out]
      exact ⟨av, cv, by rw [h1, HOK.out]; rfl, by rw [h1]; exact HO.out.zone (fun b hb => hb.1), HE.out⟩
theorem vk0 : VK known0 := ⟨by simp [known0], fun n _ _ h => by rw [look_known0] at h; exact absurd rfl h⟩
theorem rk0 : ∃ ρ, Rk known0 ρ := ⟨fun _ => 0, fun n _ _ h => by rw [look_known0] at h; exact absurd rfl h⟩
open Classical in
noncomputable def uniR (a b : Tm) : Bool × List Tm := if h : ∃ r, ∃ f, uniF f known0 a b = some r then h.choose else (false, known0)
theorem uniR_spec {a b : Tm} {d e : Nat} (ha : shapeF a d = true) (hb : shapeF b e = true) : ∃ f, uniF f known0 a b = some (uniR a b) := by
  obtain ⟨f, r, h⟩ := uni_ex _ known0 a b d e vk0 rk0 (Nat.le_refl _) ha hb
  have he : ∃ r, ∃ f, uniF f known0 a b = some r := ⟨r, f, h⟩
  unfold uniR
  rw [dif_pos he]
  exact he.choose_spec
theorem uniR_good {a b : Tm} {d e : Nat} (ha : shapeF a d = true) (hb : shapeF b e = true) (h : (uniR a b).1 = true) : VK (uniR a b).2 ∧ ∃ ρ, Rk (uniR a b).2 ρ := by
  obtain ⟨f, hf⟩ := uniR_spec ha hb
  have g := outF f known0 a b d e (uniR a b).2 vk0 rk0 ha hb (by rw [hf, ← h])
  exact ⟨g.1, g.2.1⟩
noncomputable def utB (a b : Tm) : Bool := validF a && validF b && (uniR a b).1 && okU (uniR a b).2 26
noncomputable def utR (a b : Tm) : List Bd := if utB a b = true then bdsU (uniR a b).2 26 else []
theorem utR_no {a b : Tm} (h : utB a b = false) : utR a b = [] := by unfold utR; rw [h]; rfl
theorem unb0 : unb known0 = 26 := by decide
set_option maxRecDepth 100000 in
theorem implnewStore (S : Nat → Prop) (w : World) (hB : ∀ b, S b → b < w.heap.size) :
    Calls Tryz.prog 31 #[] w fun e w' => e = .returned (.pointer (some ⟨w.heap.size + 1, 0, none⟩)) ∧ StoT S w' (w.heap.size + 1) w.heap.size known0 [] (.slice none 0 0) ∧ Ext w w' := by
  have HB := Lib.hid hB
  clear hB
  have hmm := @run_makeMap Tryz.prog
  go_enter Tryz.func31, Tryz.ntmps31
  go_wp2_with fail
  go_ret
  refine ⟨rfl, ⟨⟨by go_simp, fun h => by have := HB.out _ h; omega, by omega, 0, by rw [unb0]; omega, (Km.made S w (fun h => by have := HB.out _ h; omega)).ext (Ext.alloc _ _)⟩, by go_simp, by go_simp, IntI.nil _ _, by simp [Value.ownBlock], by rw [unb0]; simp⟩, (Ext.alloc _ _).trans (Ext.alloc _ _)⟩
set_option maxRecDepth 100000 in
set_option maxHeartbeats 8000000 in
theorem implUnifyTerms (t u : Tm) (v v' : Value) (S : Nat → Prop) (w : World) (ht : Tm.at S w t v) (hu : Tm.at S w u v') :
    Calls Tryz.prog 10 #[v, v'] w (BdBO (utR t u) (.bool (utB t u)) w) := by
  replace ht := Tm.at_bound ht
  replace hu := Tm.at_bound hu
  obtain ⟨S, hB, ht, hu⟩ : ∃ S : Nat → Prop, (∀ b, S b → b < w.heap.size) ∧ Tm.at S w t v ∧ Tm.at S w u v' := ⟨_, fun b hb => hb.2, ht, hu⟩
  have HT := Lib.hid ht
  have HU := Lib.hid hu
  have HB := Lib.hid hB
  obtain ⟨a, c, rfl⟩ := at_form ht
  obtain ⟨a', c', rfl⟩ := at_form hu
  clear ht hu hB
  obtain ⟨b1, hb1⟩ : ∃ x, validF t = x := ⟨_, rfl⟩
  obtain ⟨b2, hb2⟩ : ∃ x, validF u = x := ⟨_, rfl⟩
  have HB1 := Lib.hid hb1
  have HB2 := Lib.hid hb2
  clear hb1 hb2
  have NO := Lib.hid (fun (h : utB t u = false) (w' : World) (e : Ext w w') => (show BdBO (utR t u) (.bool (utB t u)) w (.returned (.tuple #[.slice none 0 0, .bool false])) w' from ⟨none, 0, by rw [utR_no h, h]; rfl, by rw [utR_no h]; exact OwnB.nil _ _, e⟩))
  go_enter Tryz.func10, Tryz.ntmps10
  go_wp2_with fail
  obtain ⟨w2, hw2⟩ : ∃ z, z = (w.alloc (.cells #[.int .i64 t.kind, .int .i64 t.n, .string t.name, .slice a t.kids.length c] 26)).alloc (.cells #[.int .i64 u.kind, .int .i64 u.n, .string u.name, .slice a' u.kids.length c'] 26) := ⟨_, rfl⟩
  have E2 : Hid (Ext w w2) := Lib.hid (by rw [hw2]; exact (Ext.alloc _ _).trans (Ext.alloc _ _))
  have X2 : Hid (BoxT w2 w.heap.size (.int .i64 t.kind) (.int .i64 t.n) (.string t.name) (.slice a t.kids.length c)) := Lib.hid (by rw [hw2]; exact (BoxT.new _ _ _ _ _ _ rfl).ext (Ext.alloc _ _))
  have Y2 : Hid (BoxT w2 (w.heap.size + 1) (.int .i64 u.kind) (.int .i64 u.n) (.string u.name) (.slice a' u.kids.length c')) := Lib.hid (by rw [hw2]; exact BoxT.new _ _ _ _ _ _ (by simp))
  rw [← hw2]
  clear hw2
  refine (implnewStore S w2 (fun b hb => Nat.lt_of_lt_of_le (HB.out b hb) (Below.size E2.out))).mono ?_
  rintro e w3 ⟨rfl, hst, e3⟩
  have HST := Lib.hid hst
  have E3 := Lib.hid (E2.out.trans e3)
  have X3 := Lib.hid (X2.out.ext e3)
  have Y3 := Lib.hid (Y2.out.ext e3)
  obtain ⟨x0, x1, x2, x3, _, _, _, _⟩ := X3.out
  clear hst e3
  go_wp2_with fail
  refine (implTermValid t _ S w3 (Tm.at_ext E3.out HT.out)).mono ?_
  rw [HB1.out]
  rintro e w4 ⟨rfl, e4⟩
  have E4 := Lib.hid (E3.out.trans e4)
  have X4 := Lib.hid (X3.out.ext e4)
  have Y4 := Lib.hid (Y3.out.ext e4)
  have ST4 := Lib.hid (HST.out.ext e4)
  clear e4 x0 x1 x2 x3
  obtain ⟨x0, x1, x2, x3, _, _, _, _⟩ := X4.out
  obtain ⟨y0, y1, y2, y3, _, _, _, _⟩ := Y4.out
  cases b1
  · have HF : Hid (utB t u = false) := Lib.hid (by unfold utB; rw [HB1.out]; rfl)
    go_wp2_with fail
    go_ret2
    exact NO.out HF.out _ E4.out
  go_wp2_with fail
  refine (implTermValid u _ S w4 (Tm.at_ext E4.out HU.out)).mono ?_
  rw [HB2.out]
  rintro e w5 ⟨rfl, e5⟩
  have E5 := Lib.hid (E4.out.trans e5)
  have X5 := Lib.hid (X4.out.ext e5)
  have Y5 := Lib.hid (Y4.out.ext e5)
  have ST5 := Lib.hid (ST4.out.ext e5)
  clear e5 x0 x1 x2 x3 y0 y1 y2 y3
  obtain ⟨x0, x1, x2, x3, _, _, _, _⟩ := X5.out
  obtain ⟨y0, y1, y2, y3, _, _, _, _⟩ := Y5.out
  cases b2
  · have HF : Hid (utB t u = false) := Lib.hid (by unfold utB; rw [HB2.out, Bool.and_false]; rfl)
    go_wp2_with fail
    go_ret2
    exact NO.out HF.out _ E5.out
  obtain ⟨f, hf⟩ := uniR_spec (valid_shape HB1.out) (valid_shape HB2.out)
  obtain ⟨c1, K1, hr⟩ : ∃ c1 K1, uniR t u = (c1, K1) := ⟨_, _, rfl⟩
  rw [hr] at hf
  have HR := Lib.hid hr
  have HF := Lib.hid hf
  have HBB : Hid (utB t u = (c1 && okU K1 26)) := Lib.hid (by unfold utB; rw [HB1.out, HB2.out, HR.out]; rfl)
  have HG : Hid (c1 = true → VK K1 ∧ ∃ ρ, Rk K1 ρ) := Lib.hid (fun h => by have := uniR_good (valid_shape HB1.out) (valid_shape HB2.out) (by rw [HR.out]; exact h); rwa [HR.out] at this)
  have lw2 : w.heap.size ≤ w2.heap.size := Below.size E2.out
  clear hr hf
  go_wp2_with fail
  refine (implunify f known0 t u c1 K1 30 30 HF.out vk0 rk0 (valid_shape HB1.out) (valid_shape HB2.out) _ _ (.slice none 0 0) [] S w5 _ _ (fun b hb => Nat.lt_of_lt_of_le (HB.out b hb) (Below.size E5.out)) (Tm.at_ext E5.out HT.out) (Tm.at_ext E5.out HU.out) ST5.out).mono ?_
  rintro e w6 ⟨rfl, L2, ⟨tv, hs6, hn6, f6⟩, _⟩
  have HS6 := Lib.hid hs6
  have E6 := Lib.hid (((Fr.of_ext E5.out).trans f6).toExt (fun k hk h => by
    rcases h with h | h | h
    · omega
    · omega
    · simp [Value.ownBlock] at h))
  clear hs6 hn6 f6
  cases c1
  · have HF2 : Hid (utB t u = false) := Lib.hid (by rw [HBB.out]; rfl)
    go_wp2_with fail
    go_ret2
    exact NO.out HF2.out _ E6.out
  go_wp2_with fail
  refine (implall K1 S w6 _ _ (HG.out (by first | rfl | trivial)).1 (HG.out (by first | rfl | trivial)).2 (fun b hb => Nat.lt_of_lt_of_le (HB.out b hb) (Below.size E6.out)) HS6.out.1).mono ?_
  rintro e w7 ⟨a7, c7, rfl, ho, e7⟩
  have HO := Lib.hid ho
  have E7 := Lib.hid e7
  have lw6 := Below.size E6.out
  clear ho e7
  go_wp2_with fail
  go_ret2
  have h1 : utB t u = okU K1 26 := by rw [HBB.out]; rfl
  have h2 : utR t u = allR K1 := by unfold utR allR; rw [h1, HR.out]
  exact ⟨a7, c7, by rw [h1, h2]; rfl, by rw [h2]; exact HO.out.zone (fun b hb => by omega), E6.out.trans E7.out⟩
end Go.Proofs.YtognkaebiafgbaaGreat
