/-
  Generalization: the program's generalize, whole.
-/
import Derived.Test.YteplfajhmpmklaaMg37
namespace Go.Proofs.Yteplfajhmpmklaa
open Go.RowKit
set_option linter.unusedVariables false

/-- after an append of one term: the element's cells stand already -/
theorem ownS_next2 {F G : Nat → Prop} {ts : List Tm} {t : Tm} {v nv : Value} {w1 w2 : World} {xs : List Value} {a2 : Option Addr} {c2 : Nat}
    (how : w1.ownsRow 0 29 4 v ts.length xs) (hz : ∀ g, v.ownBlock = some g → F g) (hfl : Tm.oflat (fun b => F b ∧ v.ownBlock ≠ some b) w1 ts xs)
    (hv1 : Tm.own G w1 t (.slice a2 t.kids.length c2)) (hdis : ∀ b, F b → ¬ G b) (hG : ∀ b, G b → b < w1.heap.size) (hFl : ∀ b, F b → b < w1.heap.size)
    (ho2 : w2.ownsRow 0 29 4 nv (ts.length + 1) (xs ++ tcells t a2 c2)) (f : Fr (fun b => v.ownBlock = some b) w1 w2)
    (hfr : ∀ g, nv.ownBlock = some g → v.ownBlock = some g ∨ w1.heap.size ≤ g) : OwnS (fun b => F b ∨ G b ∨ w1.heap.size ≤ b) (ts ++ [t]) nv w2 := by
  refine ⟨xs ++ tcells t a2 c2, by simpa using ho2, ?_, ?_⟩
  · intro g hgg
    rcases hfr g hgg with h | h
    · exact .inl (hz g h)
    · exact .inr (.inr h)
  · have hne : ∀ b, b < w1.heap.size → v.ownBlock ≠ some b → nv.ownBlock ≠ some b := by
      intro b hb h1 h2
      rcases hfr b h2 with h | h
      · exact h1 h
      · omega
    have hgv : ∀ b, G b → v.ownBlock ≠ some b := fun b hb h => hdis b (hz b h) hb
    have hs := oflat_snoc (own_mono (F' := G) (fun b hb => hb) f (fun b hb => hgv b hb) t _ hv1) (oflat_mono (F' := fun b => F b ∧ v.ownBlock ≠ some b) (fun b hb => hb) f (fun b hb => hb.2) ts xs hfl) (fun b hb => hdis b hb.1)
    refine oflat_mono (M := fun _ => False) ?_ (Fr.refl _ _) (fun b _ h => h) _ _ hs
    rintro b (hb | hb)
    · exact ⟨.inl hb.1, hne b (hFl b hb.1) hb.2⟩
    · exact ⟨.inr (.inl hb), hne b (hG b hb) (hgv b hb)⟩

theorem cell_four2 (w : World) (t : Tm) (T : Nat) {a : Option Addr} {c : Nat} (j : Nat) (u : Value) (h : (tcells t a c)[j]? = some u) : (w.alloc (.cells #[.int .i64 t.kind, .int .i64 t.n, .string t.name, .slice a t.kids.length c] T)).cell? ⟨w.heap.size, j, none⟩ = some u := by
  have hq := cell_four w t T j u h
  rw [show (⟨w.heap.size, 0, none⟩ : Addr).add j = ⟨w.heap.size, j, none⟩ by unfold Addr.add; split <;> simp_all] at hq
  exact hq
/-- what may change while a term is appended -/
def MM (O z pp : Nat) (pv : Value) (k : Nat) : Prop := k = O ∨ k = pp ∨ pv.ownBlock = some k ∨ z ≤ k
def B3 (w : World) (O : Nat) (u0 u1 u2 : Value) : Prop := w.cell? ⟨O, 0, none⟩ = some u0 ∧ w.cell? ⟨O, 1, none⟩ = some u1 ∧ w.cell? ⟨O, 2, none⟩ = some u2 ∧ w.frozen? ⟨O, 0, none⟩ = false ∧ w.frozen? ⟨O, 1, none⟩ = false ∧ w.frozen? ⟨O, 2, none⟩ = false ∧ w.frozen? ⟨O, 3, none⟩ = false
theorem B3.fr {M : Nat → Prop} {w w' : World} {O : Nat} {u0 u1 u2 : Value} (h : B3 w O u0 u1 u2) (f : Fr M w w') (hM : ¬ M O) : B3 w' O u0 u1 u2 := by
  have hl := block_lt_of_cell h.1
  simp only at hl
  exact ⟨f.cell hM h.1, f.cell hM h.2.1, f.cell hM h.2.2.1, f.frozen hl hM h.2.2.2.1, f.frozen hl hM h.2.2.2.2.1, f.frozen hl hM h.2.2.2.2.2.1, f.frozen hl hM h.2.2.2.2.2.2⟩
theorem B3.set {w : World} {O : Nat} {u0 u1 u2 : Value} (h : B3 w O u0 u1 u2) (v : Value) : B3 (w.setCell ⟨O, 3, none⟩ v) O u0 u1 u2 := by
  obtain ⟨h0, h1, h2, f0, f1, f2, f3⟩ := h
  exact ⟨cell_off (by decide) h0, cell_off (by decide) h1, cell_off (by decide) h2, by rw [World.frozen?_setCell]; exact f0, by rw [World.frozen?_setCell]; exact f1, by rw [World.frozen?_setCell]; exact f2, by rw [World.frozen?_setCell]; exact f3⟩
/-- while a term is appended: the world .. -/
def LoG (S : Nat → Prop) (pp O z : Nat) (qs : List (Tm × Tm)) (pv : Value) (ts : List Tm) (av : Option Addr) (cv : Nat) (u0 u1 u2 : Value) (W : World) (n13 n15 n17 : Prop) (w : World) : Prop :=
  Fr (MM O z pp pv) W w ∧ B3 w O u0 u1 u2 ∧ (n17 → w.cell? ⟨O, 3, none⟩ = some (.slice av ts.length cv)) ∧ (n13 → PrC S pp qs pv w) ∧ (n15 → OwnS (fun b => z ≤ b ∧ b < W.heap.size ∧ ¬ pv.ownBlock = some b) ts (.slice av ts.length cv) w)
/-- the pairs behind the call -/
def LoP (S : Nat → Prop) (pp : Nat) (qs' : List (Tm × Tm)) (pv : Value) (W : World) (pv2 : Value) (w : World) : Prop := PrC S pp qs' pv2 w ∧ ∀ g, pv2.ownBlock = some g → pv.ownBlock = some g ∨ W.heap.size ≤ g
def Lo13 (S : Nat → Prop) (pp : Nat) (qs' : List (Tm × Tm)) (pv : Value) (W : World) (r : Tm) (v : Value) (w : World) : Prop :=
  ∃ a2 c2 pv2, v = val4 r a2 c2 ∧ Tm.own (fun b => W.heap.size ≤ b ∧ ¬ pv2.ownBlock = some b) w r (.slice a2 r.kids.length c2) ∧ LoP S pp qs' pv W pv2 w
def Lo14 (S : Nat → Prop) (pp : Nat) (qs' : List (Tm × Tm)) (pv : Value) (W : World) (r : Tm) (v : Value) (w : World) : Prop :=
  ∃ nb a2 c2 pv2, v = .slice (some ⟨nb, 0, none⟩) 1 1 ∧ W.heap.size ≤ nb ∧ (∀ j x, (tcells r a2 c2)[j]? = some x → w.cell? ⟨nb, j, none⟩ = some x) ∧ Tm.own (fun b => W.heap.size ≤ b ∧ ¬ pv2.ownBlock = some b) w r (.slice a2 r.kids.length c2) ∧ LoP S pp qs' pv W pv2 w
def Lo15 (S : Nat → Prop) (pp z : Nat) (qs' : List (Tm × Tm)) (pv : Value) (ts : List Tm) (W : World) (r : Tm) (v : Value) (w : World) : Prop :=
  ∃ av2 cv2 pv2, v = .slice av2 (ts.length + 1) cv2 ∧ OwnS (fun b => z ≤ b ∧ ¬ pv2.ownBlock = some b) (ts ++ [r]) (.slice av2 (ts.length + 1) cv2) w ∧ LoP S pp qs' pv W pv2 w
def LoΦ (S : Nat → Prop) (pp O z A B : Nat) (qs' : List (Tm × Tm)) (pv : Value) (ts : List Tm) (av : Option Addr) (cv j : Nat) (W : World) (r t u : Tm) (b off b' off' la cap la' cap' : Nat) (a1 a2 : Option Addr) (c1 c2 : Nat) (i : Nat) (v : Value) (w : World) : Prop :=
  match i with
  | 0 => v = .pointer (some ⟨O, 3, none⟩)
  | 1 => v = .slice av ts.length cv
  | 2 => v = .pointer (some ⟨A, 3, none⟩)
  | 3 => v = .slice (some ⟨b, off, none⟩) la cap
  | 4 => v = .int .i64 j
  | 5 => v = .pointer (some ⟨b, off + j * 4, none⟩)
  | 6 => v = val4 t a1 c1
  | 7 => v = .pointer (some ⟨B, 3, none⟩)
  | 8 => v = .slice (some ⟨b', off', none⟩) la' cap'
  | 9 => v = .int .i64 j
  | 10 => v = .pointer (some ⟨b', off' + j * 4, none⟩)
  | 11 => v = val4 u a2 c2
  | 12 => v = .pointer (some ⟨pp, 0, none⟩)
  | 13 => Lo13 S pp qs' pv W r v w
  | 14 => Lo14 S pp qs' pv W r v w
  | 15 => Lo15 S pp z qs' pv ts W r v w
  | 16 => v = .pointer (some ⟨O, 3, none⟩)
  | _ => ∃ nv, w.cell? ⟨O, 3, none⟩ = some nv ∧ Lo15 S pp z qs' pv ts W r nv w
theorem LoG.to {S : Nat → Prop} {pp O z : Nat} {qs : List (Tm × Tm)} {pv : Value} {ts : List Tm} {av : Option Addr} {cv : Nat} {u0 u1 u2 : Value} {W : World} {n13 n15 n17 m13 m15 m17 : Prop} {w : World} (h : LoG S pp O z qs pv ts av cv u0 u1 u2 W n13 n15 n17 w) (h13 : m13 → n13) (h15 : m15 → n15) (h17 : m17 → n17) : LoG S pp O z qs pv ts av cv u0 u1 u2 W m13 m15 m17 w :=
  ⟨h.1, h.2.1, fun x => h.2.2.1 (h17 x), fun x => h.2.2.2.1 (h13 x), fun x => h.2.2.2.2 (h15 x)⟩
theorem LoG.ext {S : Nat → Prop} {pp O z : Nat} {qs : List (Tm × Tm)} {pv : Value} {ts : List Tm} {av : Option Addr} {cv : Nat} {u0 u1 u2 : Value} {W : World} {n13 n15 n17 : Prop} {w w' : World} (h : LoG S pp O z qs pv ts av cv u0 u1 u2 W n13 n15 n17 w) (e : Ext w w') : LoG S pp O z qs pv ts av cv u0 u1 u2 W n13 n15 n17 w' :=
  ⟨h.1.trans (Fr.of_ext e), h.2.1.fr (M := fun _ => False) (Fr.of_ext e) (fun h => h), fun x => e.cell (h.2.2.1 x), fun x => (h.2.2.2.1 x).ext e, fun x => (h.2.2.2.2 x).ext e⟩
theorem LoP.fr {S M : Nat → Prop} {pp : Nat} {qs' : List (Tm × Tm)} {pv pv2 : Value} {W w w' : World} (h : LoP S pp qs' pv W pv2 w) (f : Fr M w w') (hp : ¬ M pp) (hS : ∀ k, S k → ¬ M k) (hM : ∀ k, pv.ownBlock = some k ∨ W.heap.size ≤ k → ¬ M k) : LoP S pp qs' pv W pv2 w' :=
  ⟨h.1.fr f hp (fun g hg => hM g (h.2 g hg)) hS, h.2⟩
/-- what the calls have left stays under a change of old blocks other than these -/
theorem LoΦ.fr {S M : Nat → Prop} {pp O z A B : Nat} {qs' : List (Tm × Tm)} {pv : Value} {ts : List Tm} {av : Option Addr} {cv j : Nat} {W : World} {r t u : Tm} {b off b' off' la cap la' cap' : Nat} {a1 a2 : Option Addr} {c1 c2 i : Nat} {v : Value} {w w' : World}
    (h : LoΦ S pp O z A B qs' pv ts av cv j W r t u b off b' off' la cap la' cap' a1 a2 c1 c2 i v w) (h15 : i = 15 → Lo15 S pp z qs' pv ts W r v w → Lo15 S pp z qs' pv ts W r v w') (h17 : i < 17) (f : Fr M w w') (hp : ¬ M pp) (hS : ∀ k, S k → ¬ M k) (hM : ∀ k, pv.ownBlock = some k ∨ W.heap.size ≤ k → ¬ M k) :
    LoΦ S pp O z A B qs' pv ts av cv j W r t u b off b' off' la cap la' cap' a1 a2 c1 c2 i v w' := by
  rcases (by omega : i = 0 ∨ i = 1 ∨ i = 2 ∨ i = 3 ∨ i = 4 ∨ i = 5 ∨ i = 6 ∨ i = 7 ∨ i = 8 ∨ i = 9 ∨ i = 10 ∨ i = 11 ∨ i = 12 ∨ i = 13 ∨ i = 14 ∨ i = 15 ∨ i = 16) with rfl | rfl | rfl | rfl | rfl | rfl | rfl | rfl | rfl | rfl | rfl | rfl | rfl | rfl | rfl | rfl | rfl
  case inr.inr.inr.inr.inr.inr.inr.inr.inr.inr.inr.inr.inr.inl =>
    obtain ⟨x, y, pv2, e1, e2, e3⟩ := h
    exact ⟨x, y, pv2, e1, own_mono (fun _ h => h) f (fun b hb => hM b (.inr hb.1)) _ _ e2, e3.fr f hp hS hM⟩
  case inr.inr.inr.inr.inr.inr.inr.inr.inr.inr.inr.inr.inr.inr.inl =>
    obtain ⟨nb, x, y, pv2, e1, e2, e3, e4, e5⟩ := h
    exact ⟨nb, x, y, pv2, e1, e2, fun j x hx => f.cell (hM nb (.inr e2)) (e3 j x hx), own_mono (fun _ h => h) f (fun b hb => hM b (.inr hb.1)) _ _ e4, e5.fr f hp hS hM⟩
  case inr.inr.inr.inr.inr.inr.inr.inr.inr.inr.inr.inr.inr.inr.inr.inl => exact h15 rfl h
  all_goals exact h
theorem Lo15.fr {S M : Nat → Prop} {pp z : Nat} {qs' : List (Tm × Tm)} {pv : Value} {ts : List Tm} {W : World} {r : Tm} {v : Value} {w w' : World} (h : Lo15 S pp z qs' pv ts W r v w) (f : Fr M w w') (hp : ¬ M pp) (hS : ∀ k, S k → ¬ M k) (hM : ∀ k, pv.ownBlock = some k ∨ W.heap.size ≤ k → ¬ M k) (hz : ∀ k, z ≤ k → ¬ M k) : Lo15 S pp z qs' pv ts W r v w' := by
  obtain ⟨x, y, pv2, e1, e2, e3⟩ := h
  exact ⟨x, y, pv2, e1, e2.mono (fun _ h => h) f (fun b hb => hz b hb.1), e3.fr f hp hS hM⟩
theorem LoΦ.val {S : Nat → Prop} {pp O z A B : Nat} {qs' : List (Tm × Tm)} {pv : Value} {ts : List Tm} {av : Option Addr} {cv j : Nat} {W : World} {r t u : Tm} {b off b' off' la cap la' cap' : Nat} {a1 a2 : Option Addr} {c1 c2 i : Nat} {v : Value} {w w' : World}
    (h : LoΦ S pp O z A B qs' pv ts av cv j W r t u b off b' off' la cap la' cap' a1 a2 c1 c2 i v w) (hi : i < 13 ∨ i = 16) : LoΦ S pp O z A B qs' pv ts av cv j W r t u b off b' off' la cap la' cap' a1 a2 c1 c2 i v w' := by
  rcases (by omega : i = 0 ∨ i = 1 ∨ i = 2 ∨ i = 3 ∨ i = 4 ∨ i = 5 ∨ i = 6 ∨ i = 7 ∨ i = 8 ∨ i = 9 ∨ i = 10 ∨ i = 11 ∨ i = 12 ∨ i = 16) with rfl | rfl | rfl | rfl | rfl | rfl | rfl | rfl | rfl | rfl | rfl | rfl | rfl | rfl
  all_goals exact h
theorem LoΦ.ext {S : Nat → Prop} {pp O z A B : Nat} {qs' : List (Tm × Tm)} {pv : Value} {ts : List Tm} {av : Option Addr} {cv j : Nat} {W : World} {r t u : Tm} {b off b' off' la cap la' cap' : Nat} {a1 a2 : Option Addr} {c1 c2 i : Nat} {v : Value} {w w' : World}
    (h : LoΦ S pp O z A B qs' pv ts av cv j W r t u b off b' off' la cap la' cap' a1 a2 c1 c2 i v w) (hi : i < 17) (e : Ext w w') : LoΦ S pp O z A B qs' pv ts av cv j W r t u b off b' off' la cap la' cap' a1 a2 c1 c2 i v w' :=
  h.fr (M := fun _ => False) (fun _ h => h.fr (M := fun _ => False) (Fr.of_ext e) (fun h => h) (fun _ _ h => h) (fun _ _ h => h) (fun _ _ h => h)) hi (Fr.of_ext e) (fun h => h) (fun _ _ h => h) (fun _ _ h => h)
theorem gen_head {k n : Int} {s : ByteArray} {ks : List Tm} {u : Tm} {ps : List (Tm × Tm)} (h : headF (.mk k n s ks) u) : genF (.mk k n s ks) u ps = (.mk k n s (genL ks u.kids ps).1, (genL ks u.kids ps).2) := by
  simp only [genF, if_pos h]

set_option maxRecDepth 100000 in
set_option maxHeartbeats 16000000 in
theorem implgenl (n : Int) (s : ByteArray) (ks : List Tm) (u : Tm) (hh : headF (.mk 3 n s ks) u) (hn : n = 0) (IH : ∀ (j : Nat) (t : Tm), ks[j]? = some t → ∀ x, GenC t x) : GenC (.mk 3 n s ks) u := by
  intro v v' pv ps S w pp d d' hsh hsu ht hu hB hSp hSg hps hP
  subst hn
  have HF := Lib.hid (gen_head (ps := ps) hh)
  have HIH := Lib.hid IH
  obtain ⟨i0, hi, hz0, hz1, hz2⟩ := info_parts info_term3
  have HI := Lib.hid hi
  have HZ := Lib.hid hz0
  have HZ1 := Lib.hid hz1
  have HZ2 := Lib.hid hz2
  have HP := Lib.hid hP
  have HB := Lib.hid hB
  have HSG := Lib.hid hSg
  have HSP := Lib.hid hSp
  have HPS : Hid (ps.length + (1 + Tm.szL ks) ≤ 1048576) := Lib.hid (by simpa only [Tm.sz] using hps)
  have hpp := hP.lt
  have HPV : Hid (∀ g, pv.ownBlock = some g → g < w.heap.size) := Lib.hid (fun g hg => hP.2.2.1.lt hg)
  obtain ⟨uk, un, us, uks⟩ := u
  obtain ⟨h1, _, h3, h4, h5⟩ := hh
  simp only [Tm.kind, Tm.n, Tm.name, Tm.kids] at h1 h3 h4 h5 HF
  subst h1 h3 h4
  have HSH := Lib.hid hsh
  have HSU := Lib.hid hsu
  have HNS : Hid (s.size ≤ 1048576) := Lib.hid (Tm.at_iff.1 ht).1
  obtain ⟨_, sv, rfl, hsl⟩ := Tm.at_iff.1 ht
  obtain ⟨_, sv', rfl, hsl'⟩ := Tm.at_iff.1 hu
  have HSL := Lib.hid hsl
  have HSL' := Lib.hid hsl'
  obtain ⟨a, cap, rfl, g1, g2, g3, _⟩ := hsl
  obtain ⟨a', cap', rfl, g1', g2', g3', _⟩ := hsl'
  simp only [Tm.kids, Tm.kind, Tm.n, Tm.name] at *
  have H5 := Lib.hid h5
  have h5b : ((ks.length : Int) == (uks.length : Int)) = true := by simp [h5]
  clear ht hu hB hSg hSp hps hP hsh hsu h5 IH hi hz0 hz1 hz2
  go_enter Try.func57, Try.ntmps57
  go_wp2_with fail
  go_loopw [8, 41] (fun _ i wr => ∃ (j : Nat) (av : Option Addr) (cv : Nat) (ts : List Tm) (qs : List (Tm × Tm)) (pv1 : Value), j ≤ ks.length ∧ i = .int .i64 j ∧ Hid (genL (ks.take j) (uks.take j) ps = (ts, qs)) ∧
      Hid (KidP S pp pv w (w.heap.size + 1 + 1 + 1) (w.heap.size + 1 + 1) (w.heap.size + 1 + 1 + 1 + 1) ts qs (.int .i64 3) (.int .i64 0) (.string s) av cv pv1 wr) ∧
      Hid (wr.cell? ⟨w.heap.size, 3, none⟩ = some (.slice a ks.length cap) ∧ wr.cell? ⟨w.heap.size + 1, 3, none⟩ = some (.slice a' uks.length cap'))) (fun _ i _ => ks.length - (intOf i).toNat)
  case atStart =>
    have E4 := (((Ext.alloc w (.cells #[.int .i64 3, .int .i64 0, .string s, .slice a ks.length cap] 29)).trans (Ext.alloc _ (.cells #[.int .i64 3, .int .i64 0, .string s, .slice a' uks.length cap'] 29))).trans (Ext.alloc _ (.cells #[.int .i64 0, .int .i64 0, .string ⟨#[]⟩, .slice none 0 0] 29))).trans (Ext.alloc _ (.cells #[.int .i64 3, .int .i64 0, .string s, .slice none 0 0] 29))
    refine ⟨0, none, 0, [], ps, pv, Nat.zero_le _, rfl, Lib.hid (by simp [genL]), Lib.hid ⟨OwnS.nil _ _, ?_, ?_, HP.out.ext E4, fun g hg => .inl hg, Fr.of_ext E4⟩, Lib.hid ⟨?_, ?_⟩⟩
    · refine ⟨?_, ?_, ?_, ?_, ?_, ?_, ?_, ?_⟩ <;> go_simp
    · refine ⟨?_, ?_, ?_, ?_, ?_, ?_, ?_, ?_⟩ <;> go_simp
    · go_simp
    · go_simp
  case round =>
    obtain ⟨j, av, cv, ts, qs, pv1, hj, rfl, HT, HK, HC⟩ := hrel
    have hlu : uks.length = ks.length := H5.out.symm
    have hlen : ts.length = j := by
      have h1 := genL_len (ks.take j) (uks.take j) ps (by simp; omega)
      rw [HT.out] at h1
      simp at h1; omega
    obtain ⟨xa, xb⟩ := HC.out
    have HL := Lib.hid hlen
    clear hlen
    have lO := HK.out.box.lt
    have lO1 : w.heap.size + 1 + 1 + 1 + 1 ≤ wr.heap.size := lO
    have HPV1 : Hid (∀ g, pv1.ownBlock = some g → g < w.heap.size ∨ w.heap.size + 1 + 1 + 1 + 1 ≤ g) := Lib.hid (fun g hg => (HK.out.own g hg).imp (HPV.out g) id)
    by_cases hlt : j < ks.length
    · obtain ⟨tk, htk⟩ := getk hlt
      obtain ⟨uk, huk⟩ := getk (ts := uks) (k := j) (by omega)
      have HSW : Hid (∀ k, S k → ¬ (k = pp ∨ pv.ownBlock = some k)) := Lib.hid (fun k hk h => h.elim (fun h => HSP.out (h ▸ hk)) (fun h => HSG.out k h hk))
      obtain ⟨_, _, e1, _, _, _, r4⟩ := HK.out.fr.sl HSL.out HSW.out
      cases e1
      obtain ⟨_, _, e1, _, _, _, r4'⟩ := HK.out.fr.sl HSL'.out HSW.out
      cases e1
      obtain ⟨b, off, a1, c1, rfl, hSb, k1, k2, k3, k4, hat1⟩ := tget r4 htk
      obtain ⟨b', off', a2, c2, rfl, hSb', m1, m2, m3, m4, hat2⟩ := tget r4' huk
      have HBW : Hid (∀ k, S k → k < wr.heap.size) := Lib.hid (fun k hk => by have := HB.out k hk; omega)
      have HSM : Hid (∀ k, S k → ¬ MM (w.heap.size + 1 + 1 + 1) (w.heap.size + 1 + 1 + 1 + 1) pp pv1 k) := Lib.hid (fun k hk h => by
        have hlt := HB.out k hk
        rcases h with h | h | h | h
        · omega
        · exact HSP.out (h ▸ hk)
        · rcases HK.out.own k h with h | h
          · exact HSG.out k h hk
          · omega
        · omega)
      have HA0 : Hid (¬ MM (w.heap.size + 1 + 1 + 1) (w.heap.size + 1 + 1 + 1 + 1) pp pv1 w.heap.size) := Lib.hid (fun h => by
        rcases h with h | h | h | h
        · omega
        · omega
        · have := HPV1.out _ h; omega
        · omega)
      have HB0 : Hid (¬ MM (w.heap.size + 1 + 1 + 1) (w.heap.size + 1 + 1 + 1 + 1) pp pv1 (w.heap.size + 1)) := Lib.hid (fun h => by
        rcases h with h | h | h | h
        · omega
        · omega
        · have := HPV1.out _ h; omega
        · omega)
      have HR0 : Hid (¬ MM (w.heap.size + 1 + 1 + 1) (w.heap.size + 1 + 1 + 1 + 1) pp pv1 (w.heap.size + 1 + 1)) := Lib.hid (fun h => by
        rcases h with h | h | h | h
        · omega
        · omega
        · have := HPV1.out _ h; omega
        · omega)
      have HO0 : Hid (¬ (w.heap.size + 1 + 1 + 1 = pp ∨ pv1.ownBlock = some (w.heap.size + 1 + 1 + 1))) := Lib.hid (fun h => by
        rcases h with h | h
        · omega
        · have := HPV1.out _ h; omega)
      have hqs : qs.length + Tm.sz tk ≤ 1048576 := by
        have h1 := genL_len2 (ks.take j) (uks.take j) ps
        rw [HT.out] at h1
        have h2 := szL_take htk
        have h3 := HPS.out
        simp only at h1
        omega
      have HIC := Lib.hid (fun (w' : World) (h1 : Tm.at S w' tk (.agg #[.int .i64 tk.kind, .int .i64 tk.n, .string tk.name, .slice a1 tk.kids.length c1])) (h2 : Tm.at S w' uk (.agg #[.int .i64 uk.kind, .int .i64 uk.n, .string uk.name, .slice a2 uk.kids.length c2])) (h3 : ∀ b, S b → b < w'.heap.size) (h4 : PrC S pp qs pv1 w') =>
        HIH.out j tk htk uk _ _ pv1 qs S w' pp (d - 1) (d' - 1) (shape_kid HSH.out htk) (shape_kid HSU.out huk) h1 h2 h3 HSP.out (fun g hg hs => by
          rcases HK.out.own g hg with h | h
          · exact HSG.out g h hs
          · have := HB.out g hs; omega) hqs h4)
      have HTS : Hid (genL (ks.take (j + 1)) (uks.take (j + 1)) ps = (ts ++ [(genF tk uk qs).1], (genF tk uk qs).2)) := Lib.hid (by rw [genL_snoc ps htk huk, HT.out])
      obtain ⟨c0', c1', c2', c3', f0', f1', f2', f3'⟩ := HK.out.box
      have hbw := block_lt_of_cell k1
      have hbw' := block_lt_of_cell m1
      simp only at hbw hbw'
      clear r4 r4' htk huk
      have hlk : ks.length ≤ 1048576 := g3
      have hlu2 : uks.length ≤ cap' := g1'
      have hju : j < uks.length := by omega
      clear hlu
      go_wp2_with fail
      refine wp_region_relies (by kernel_rfl) (by kernel_rfl) (by kernel_rfl) (fun D _ w' => LoG S pp (w.heap.size + 1 + 1 + 1) (w.heap.size + 1 + 1 + 1 + 1) qs pv1 ts av cv (.int .i64 3) (.int .i64 0) (.string s) wr (¬ D 13) (¬ D 15) (¬ D 17) w') (LoΦ S pp (w.heap.size + 1 + 1 + 1) (w.heap.size + 1 + 1 + 1 + 1) w.heap.size (w.heap.size + 1) (genF tk uk qs).2 pv1 ts av cv j wr (genF tk uk qs).1 tk uk b off b' off' ks.length cap uks.length cap' a1 a2 c1 c2) ?hg ?hstep ?hend
      case hg => exact ⟨Fr.of_ext (Ext.drew _), B3.fr (M := fun _ => False) ⟨c0', c1', c2', f0', f1', f2', f3'⟩ (Fr.of_ext (Ext.drew _)) (fun h => h), fun _ => (Ext.drew _).cell c3', fun _ => HK.out.prs.ext (Ext.drew _), fun _ => HK.out.app.ext (Ext.drew _)⟩
      case hstep =>
            refine .cons ?h0 (.cons ?h1 (.cons ?h2 (.cons ?h3 (.cons ?h4 (.cons ?h5 (.cons ?h6 (.cons ?h7 (.cons ?h8 (.cons ?h9 (.cons ?h10 (.cons ?h11 (.cons ?h12 (.cons ?h13 (.cons ?h14 (.cons ?h15 (.cons ?h16 (.cons ?h17 .nil)))))))))))))))))
            case h0 =>
              intro A D vs w5 old dep hnd hcl hlt hG K hK
              have s7 := old 7 (by kernel_rfl)
              simp only [List.getElem?_toArray, List.getElem?_cons_succ, List.getElem?_cons_zero] at s7
              go_simp
              exact hK _ _ (hG.to (fun h hd => h (.inr hd)) (fun h hd => h (.inr hd)) (fun h hd => h (.inr hd))) (fun _ _ _ h => h) rfl
            case h1 =>
              intro A D vs w5 old dep hnd hcl hlt hG K hK
              obtain ⟨_, e0, t0⟩ := dep 0 (by kernel_rfl)
              replace t0 := t0 44 (by kernel_rfl) (by simp)
              replace e0 : vs 0 = (.pointer (some ⟨w.heap.size + 1 + 1 + 1, 3, none⟩)) := e0
              rw [e0] at t0
              have q3 := hG.2.2.1 (fun h17 => hnd (hcl 15 1 (hcl 17 15 h17 (by kernel_rfl)) (by kernel_rfl)))
              go_simp
              exact hK _ _ (hG.to (fun h hd => h (.inr hd)) (fun h hd => h (.inr hd)) (fun h hd => h (.inr hd))) (fun _ _ _ h => h) rfl
            case h2 =>
              intro A D vs w5 old dep hnd hcl hlt hG K hK
              have s3 := old 3 (by kernel_rfl)
              simp only [List.getElem?_toArray, List.getElem?_cons_succ, List.getElem?_cons_zero] at s3
              go_simp
              exact hK _ _ (hG.to (fun h hd => h (.inr hd)) (fun h hd => h (.inr hd)) (fun h hd => h (.inr hd))) (fun _ _ _ h => h) rfl
            case h3 =>
              intro A D vs w5 old dep hnd hcl hlt hG K hK
              obtain ⟨_, e2, t2⟩ := dep 2 (by kernel_rfl)
              replace t2 := t2 46 (by kernel_rfl) (by simp)
              replace e2 : vs 2 = (.pointer (some ⟨w.heap.size, 3, none⟩)) := e2
              rw [e2] at t2
              have xa := hG.1.cell (HA0.out) xa
              go_simp
              exact hK _ _ (hG.to (fun h hd => h (.inr hd)) (fun h hd => h (.inr hd)) (fun h hd => h (.inr hd))) (fun _ _ _ h => h) rfl
            case h4 =>
              intro A D vs w5 old dep hnd hcl hlt hG K hK
              have s8 := old 8 (by kernel_rfl)
              simp only [List.getElem?_toArray, List.getElem?_cons_succ, List.getElem?_cons_zero] at s8
              go_simp
              exact hK _ _ (hG.to (fun h hd => h (.inr hd)) (fun h hd => h (.inr hd)) (fun h hd => h (.inr hd))) (fun _ _ _ h => h) rfl
            case h5 =>
              intro A D vs w5 old dep hnd hcl hlt hG K hK
              obtain ⟨_, e3, t3⟩ := dep 3 (by kernel_rfl)
              replace t3 := t3 47 (by kernel_rfl) (by simp)
              replace e3 : vs 3 = (.slice (some ⟨b, off, none⟩) ks.length cap) := e3
              rw [e3] at t3
              obtain ⟨_, e4, t4⟩ := dep 4 (by kernel_rfl)
              replace t4 := t4 48 (by kernel_rfl) (by simp)
              replace e4 : vs 4 = (.int .i64 (j : Nat)) := e4
              rw [e4] at t4
              go_simp
              exact hK _ _ (hG.to (fun h hd => h (.inr hd)) (fun h hd => h (.inr hd)) (fun h hd => h (.inr hd))) (fun _ _ _ h => h) rfl
            case h6 =>
              intro A D vs w5 old dep hnd hcl hlt hG K hK
              obtain ⟨_, e5, t5⟩ := dep 5 (by kernel_rfl)
              replace t5 := t5 49 (by kernel_rfl) (by simp)
              replace e5 : vs 5 = (.pointer (some ⟨b, off + j * 4, none⟩)) := e5
              rw [e5] at t5
              have k1 := hG.1.cell (HSM.out _ hSb) k1
              have k2 := hG.1.cell (HSM.out _ hSb) k2
              have k3 := hG.1.cell (HSM.out _ hSb) k3
              have k4 := hG.1.cell (HSM.out _ hSb) k4
              go_simp
              exact hK _ _ (hG.to (fun h hd => h (.inr hd)) (fun h hd => h (.inr hd)) (fun h hd => h (.inr hd))) (fun _ _ _ h => h) rfl
            case h7 =>
              intro A D vs w5 old dep hnd hcl hlt hG K hK
              have s4 := old 4 (by kernel_rfl)
              simp only [List.getElem?_toArray, List.getElem?_cons_succ, List.getElem?_cons_zero] at s4
              go_simp
              exact hK _ _ (hG.to (fun h hd => h (.inr hd)) (fun h hd => h (.inr hd)) (fun h hd => h (.inr hd))) (fun _ _ _ h => h) rfl
            case h8 =>
              intro A D vs w5 old dep hnd hcl hlt hG K hK
              obtain ⟨_, e7, t7⟩ := dep 7 (by kernel_rfl)
              replace t7 := t7 51 (by kernel_rfl) (by simp)
              replace e7 : vs 7 = (.pointer (some ⟨w.heap.size + 1, 3, none⟩)) := e7
              rw [e7] at t7
              have xb := hG.1.cell (HB0.out) xb
              go_simp
              exact hK _ _ (hG.to (fun h hd => h (.inr hd)) (fun h hd => h (.inr hd)) (fun h hd => h (.inr hd))) (fun _ _ _ h => h) rfl
            case h9 =>
              intro A D vs w5 old dep hnd hcl hlt hG K hK
              have s8 := old 8 (by kernel_rfl)
              simp only [List.getElem?_toArray, List.getElem?_cons_succ, List.getElem?_cons_zero] at s8
              go_simp
              exact hK _ _ (hG.to (fun h hd => h (.inr hd)) (fun h hd => h (.inr hd)) (fun h hd => h (.inr hd))) (fun _ _ _ h => h) rfl
            case h10 =>
              intro A D vs w5 old dep hnd hcl hlt hG K hK
              obtain ⟨_, e8, t8⟩ := dep 8 (by kernel_rfl)
              replace t8 := t8 52 (by kernel_rfl) (by simp)
              replace e8 : vs 8 = (.slice (some ⟨b', off', none⟩) uks.length cap') := e8
              rw [e8] at t8
              obtain ⟨_, e9, t9⟩ := dep 9 (by kernel_rfl)
              replace t9 := t9 53 (by kernel_rfl) (by simp)
              replace e9 : vs 9 = (.int .i64 (j : Nat)) := e9
              rw [e9] at t9
              go_simp
              exact hK _ _ (hG.to (fun h hd => h (.inr hd)) (fun h hd => h (.inr hd)) (fun h hd => h (.inr hd))) (fun _ _ _ h => h) rfl
            case h11 =>
              intro A D vs w5 old dep hnd hcl hlt hG K hK
              obtain ⟨_, e10, t10⟩ := dep 10 (by kernel_rfl)
              replace t10 := t10 54 (by kernel_rfl) (by simp)
              replace e10 : vs 10 = (.pointer (some ⟨b', off' + j * 4, none⟩)) := e10
              rw [e10] at t10
              have m1 := hG.1.cell (HSM.out _ hSb') m1
              have m2 := hG.1.cell (HSM.out _ hSb') m2
              have m3 := hG.1.cell (HSM.out _ hSb') m3
              have m4 := hG.1.cell (HSM.out _ hSb') m4
              go_simp
              exact hK _ _ (hG.to (fun h hd => h (.inr hd)) (fun h hd => h (.inr hd)) (fun h hd => h (.inr hd))) (fun _ _ _ h => h) rfl
            case h12 =>
              intro A D vs w5 old dep hnd hcl hlt hG K hK
              have s2 := old 2 (by kernel_rfl)
              simp only [List.getElem?_toArray, List.getElem?_cons_succ, List.getElem?_cons_zero] at s2
              go_simp
              exact hK _ _ (hG.to (fun h hd => h (.inr hd)) (fun h hd => h (.inr hd)) (fun h hd => h (.inr hd))) (fun _ _ _ h => h) rfl
            case h13 =>
              intro A D vs w5 old dep hnd hcl hlt hG K hK
              obtain ⟨_, e6, t6⟩ := dep 6 (by kernel_rfl)
              replace t6 := t6 50 (by kernel_rfl) (by simp)
              replace e6 : vs 6 = val4 tk a1 c1 := e6
              rw [e6] at t6
              obtain ⟨_, e11, t11⟩ := dep 11 (by kernel_rfl)
              replace t11 := t11 55 (by kernel_rfl) (by simp)
              replace e11 : vs 11 = val4 uk a2 c2 := e11
              rw [e11] at t11
              obtain ⟨_, e12, t12⟩ := dep 12 (by kernel_rfl)
              replace t12 := t12 56 (by kernel_rfl) (by simp)
              replace e12 : vs 12 = (.pointer (some ⟨pp, 0, none⟩)) := e12
              rw [e12] at t12
              have hpc := hG.2.2.2.1 hnd
              have hle := hG.1.size
              unfold val4 at t6 t11
              go_simp
              go_at_call 57
              refine (HIC.out w5 (hG.1.at hat1 HSM.out) (hG.1.at hat2 HSM.out) (fun b hb => Nat.lt_of_lt_of_le (HBW.out b hb) hle) hpc).mono ?_
              rintro e w6 ⟨a3, c3, pv2, rfl, ho, hp2, hn2, f6⟩
              have f7 : Fr (MM (w.heap.size + 1 + 1 + 1) (w.heap.size + 1 + 1 + 1 + 1) pp pv1) w5 w6 := f6.mono (fun k _ h => h.elim (fun h => .inr (.inl h)) (fun h => .inr (.inr (.inl h))))
              refine hK _ _ ⟨hG.1.trans f7, hG.2.1.fr f6 HO0.out, fun h => f6.cell HO0.out (hG.2.2.1 (fun hd => h (.inr hd))), fun h => absurd (.inl rfl) h, fun h => (hG.2.2.2.2 (fun hd => h (.inr hd))).mono (fun _ h => h) f6 (fun b hb h => h.elim (fun h => by omega) (fun h => hb.2.2 h))⟩ (fun i v hd h => h.val ?_) ⟨a3, c3, pv2, rfl, own_zone ho (fun b hb => ⟨by omega, hb.2⟩), hp2, fun g hg => (hn2 g hg).imp id (fun h => by omega)⟩
              have hi : i < 18 := hlt i hd
              rcases (by omega : i < 13 ∨ i = 13 ∨ i = 14 ∨ i = 15 ∨ i = 16 ∨ i = 17) with h1 | rfl | rfl | rfl | rfl | rfl
              · exact .inl h1
              · exact absurd hd hnd
              · exact absurd (hcl 14 13 hd (by kernel_rfl)) hnd
              · exact absurd (hcl 14 13 (hcl 15 14 hd (by kernel_rfl)) (by kernel_rfl)) hnd
              · exact .inr rfl
              · exact absurd (hcl 14 13 (hcl 15 14 (hcl 17 15 hd (by kernel_rfl)) (by kernel_rfl)) (by kernel_rfl)) hnd
            case h14 =>
              intro A D vs w5 old dep hnd hcl hlt hG K hK
              obtain ⟨_, e13, t13⟩ := dep 13 (by kernel_rfl)
              replace t13 := t13 57 (by kernel_rfl) (by simp)
              obtain ⟨a3, c3, pv2, e13, ho, hp⟩ := e13
              rw [e13] at t13
              unfold val4 at t13
              go_simp
              exact hK _ _ ((hG.ext (Ext.alloc _ _)).to (fun h hd => h (.inr hd)) (fun h hd => h (.inr hd)) (fun h hd => h (.inr hd))) (fun i v hd h => h.ext (by have hi : i < 18 := hlt i hd; have : i ≠ 17 := fun e => (by subst e; exact hnd (hcl 15 14 (hcl 17 15 hd (by kernel_rfl)) (by kernel_rfl))); omega) (Ext.alloc _ _)) ⟨w5.heap.size, a3, c3, pv2, rfl, hG.1.size, fun j x h => cell_four2 w5 _ _ j x h, own_ext1 ho (Ext.alloc _ _), hp.1.ext (Ext.alloc _ _), hp.2⟩
            case h15 =>
              intro A D vs w5 old dep hnd hcl hlt hG K hK
              obtain ⟨_, e1, t1⟩ := dep 1 (by kernel_rfl)
              replace t1 := t1 45 (by kernel_rfl) (by simp)
              replace e1 : vs 1 = (.slice av ts.length cv) := e1
              rw [e1] at t1
              obtain ⟨_, e14, t14⟩ := dep 14 (by kernel_rfl)
              replace t14 := t14 58 (by kernel_rfl) (by simp)
              obtain ⟨nb, a3, c3, pv2, e14, hnb, hcells, ho, hp⟩ := e14
              rw [e14] at t14
              obtain ⟨xs, how, hzz, hfl⟩ := hG.2.2.2.2 hnd
              have hle := hG.1.size
              have hlen := HL.out
              refine step_append_fresh rfl (.tmp 45) (.tmp 58) 27 rfl 0 29 i0 _ 4 56 Try.underlying27 HI.out HZ.out HZ1.out HZ2.out rfl (by decide) (.slice av ts.length cv) ts.length xs (by simp [Act.eval, t1]) how ⟨nb, 0, none⟩ 1 1 (tcells (genF tk uk qs).1 a3 c3) (by simp [Act.eval, t14]) rfl (fun j u h => by have := hcells j u h; rw [show (⟨nb, 0, none⟩ : Addr).add j = ⟨nb, j, none⟩ by unfold Addr.add; split <;> simp_all]; exact this) (by simp [tcells, Value.oneCell']) (by unfold maxLen; omega) (by omega) (by omega) ?_
              intro v2 w6 ho6 hg6 hfr6
              obtain ⟨av2, cv2, rfl⟩ := own_form ho6
              have f6 : Fr (fun k => (Value.slice av ts.length cv).ownBlock = some k) w5 w6 := Fr.of_grown hg6 (fun k hk => hk)
              have hn := ownS_next2 how hzz hfl (own_bound _ _ ho) (fun b h1 h2 => by omega) (fun b h => h.2) (fun b h => by omega) ho6 f6 hfr6
              have hp6 : ¬ (Value.slice av ts.length cv).ownBlock = some pp := fun h => by have := (hzz pp h).1; omega
              have hS6 : ∀ k, S k → ¬ (Value.slice av ts.length cv).ownBlock = some k := fun k hk h => by have := (hzz k h).1; have := HB.out k hk; omega
              have hM6 : ∀ k, pv1.ownBlock = some k ∨ wr.heap.size ≤ k → ¬ (Value.slice av ts.length cv).ownBlock = some k := fun k hk h => by
                have h1 := hzz k h
                rcases hk with hk | hk
                · exact h1.2.2 hk
                · omega
              have hO6 : ¬ (Value.slice av ts.length cv).ownBlock = some (w.heap.size + 1 + 1 + 1) := fun h => by have := (hzz _ h).1; omega
              refine hK _ _ ⟨hG.1.trans (f6.mono (fun k _ h => .inr (.inr (.inr (hzz k h).1)))), hG.2.1.fr f6 hO6, fun h => f6.cell hO6 (hG.2.2.1 (fun hd => h (.inr hd))), fun h => (hG.2.2.2.1 (fun hd => h (.inr hd))).fr f6 hp6 (fun g hg => hM6 g (.inl hg)) hS6, fun h => absurd (.inl rfl) h⟩ (fun i v hd h => h.fr (fun h => absurd hd (by subst h; exact hnd)) ?_ f6 hp6 hS6 hM6) ⟨av2, cv2, pv2, rfl, hn.mono (M := fun _ => False) (fun b hb => ?_) (Fr.refl _ _) (fun _ _ h => h), hp.fr f6 hp6 hS6 hM6⟩
              · have hi : i < 18 := hlt i hd
                have : i ≠ 17 := fun e => by subst e; exact hnd (hcl 17 15 hd (by kernel_rfl))
                omega
              · have hlp := fun h => PrI.lt hp.1.2.2.1 (g := b) h
                rcases hb with hb | hb | hb
                · exact ⟨hb.1, fun h => (hp.2 b h).elim hb.2.2 (fun h => by omega)⟩
                · exact ⟨by omega, hb.1.2⟩
                · exact ⟨by omega, fun h => by have := hlp h; omega⟩
            case h16 =>
              intro A D vs w5 old dep hnd hcl hlt hG K hK
              have s7 := old 7 (by kernel_rfl)
              simp only [List.getElem?_toArray, List.getElem?_cons_succ, List.getElem?_cons_zero] at s7
              go_simp
              exact hK _ _ (hG.to (fun h hd => h (.inr hd)) (fun h hd => h (.inr hd)) (fun h hd => h (.inr hd))) (fun _ _ _ h => h) rfl
            case h17 =>
              intro A D vs w5 old dep hnd hcl hlt hG K hK
              obtain ⟨_, e16, t16⟩ := dep 16 (by kernel_rfl)
              replace t16 := t16 60 (by kernel_rfl) (by simp)
              replace e16 : vs 16 = (.pointer (some ⟨w.heap.size + 1 + 1 + 1, 3, none⟩)) := e16
              rw [e16] at t16
              obtain ⟨_, e15, t15⟩ := dep 15 (by kernel_rfl)
              replace t15 := t15 59 (by kernel_rfl) (by simp)
              have q3 := hG.2.2.1 hnd
              have qf := hG.2.1.2.2.2.2.2.2
              have hle := hG.1.size
              have HE15 := Lib.hid e15
              obtain ⟨av2, cv2, pv2, e15, hA, hp⟩ := e15
              rw [e15] at t15 HE15
              go_simp
              have f6 : Fr (fun k => k = w.heap.size + 1 + 1 + 1) w5 (w5.setCell ⟨w.heap.size + 1 + 1 + 1, 3, none⟩ (.slice av2 (ts.length + 1) cv2)) := Fr.setCell _ rfl
              have hM6 : ∀ k, pv1.ownBlock = some k ∨ wr.heap.size ≤ k → ¬ k = w.heap.size + 1 + 1 + 1 := fun k hk h => by
                rcases hk with hk | hk
                · have := HPV1.out k hk; omega
                · omega
              have hS6 : ∀ k, S k → ¬ k = w.heap.size + 1 + 1 + 1 := fun k hk h => by have := HB.out k hk; omega
              have hl : ∀ v, Lo15 S pp (w.heap.size + 1 + 1 + 1 + 1) (genF tk uk qs).2 pv1 ts wr (genF tk uk qs).1 v w5 → Lo15 S pp (w.heap.size + 1 + 1 + 1 + 1) (genF tk uk qs).2 pv1 ts wr (genF tk uk qs).1 v (w5.setCell ⟨w.heap.size + 1 + 1 + 1, 3, none⟩ (.slice av2 (ts.length + 1) cv2)) := fun v h => h.fr f6 (by omega) hS6 hM6 (fun k hk => by omega)
              refine hK undef _ ⟨hG.1.trans (f6.mono (fun k _ h => .inl h)), hG.2.1.set _, fun h => absurd (.inl rfl) h, fun h => (hG.2.2.2.1 (fun hd => h (.inr hd))).fr f6 (by omega) (fun g hg => hM6 g (.inl hg)) hS6, fun h => (hG.2.2.2.2 (fun hd => h (.inr hd))).mono (fun _ h => h) f6 (fun b hb => by omega)⟩ (fun i v hd h => h.fr (fun _ h => hl v h) ?_ f6 (by omega) hS6 hM6) ⟨_, cell_same q3, hl _ HE15.out⟩
              have hi : i < 18 := hlt i hd
              have : i ≠ 17 := fun e => by subst e; exact hnd hd
              omega
      case hend =>
        intro D vs w9 hD hG hφ
        obtain ⟨nv, q9, av2, cv2, pv2, rfl, hA, hp⟩ : ∃ nv, w9.cell? ⟨w.heap.size + 1 + 1 + 1, 3, none⟩ = some nv ∧ Lo15 S pp (w.heap.size + 1 + 1 + 1 + 1) (genF tk uk qs).2 pv1 ts wr (genF tk uk qs).1 nv w9 := hφ 17 (by simp)
        have hlen1 : (ts ++ [(genF tk uk qs).1]).length = ts.length + 1 := by simp
        have hF := hG.1
        have KN : Hid (KidP S pp pv w (w.heap.size + 1 + 1 + 1) (w.heap.size + 1 + 1) (w.heap.size + 1 + 1 + 1 + 1) (ts ++ [(genF tk uk qs).1]) (genF tk uk qs).2 (.int .i64 3) (.int .i64 0) (.string s) av2 cv2 pv2 w9) := Lib.hid (by
          obtain ⟨z0, z1, z2, y0, y1, y2, y3⟩ := hG.2.1
          refine ⟨?_, ?_, HK.out.res.fr hF HR0.out, hp.1, fun g hg => ?_, ?_⟩
          · rw [hlen1]; exact hA.bound.mono (M := fun _ => False) (fun b hb => ⟨hb.1.1, hb.2, hb.1.2⟩) (Fr.refl _ _) (fun _ _ h => h)
          · rw [hlen1]; exact ⟨z0, z1, z2, q9, y0, y1, y2, y3⟩
          · rcases hp.2 g hg with h | h
            · exact HK.out.own g h
            · exact .inr (by omega)
          · have f1 : Fr (fun k => k = pp ∨ pv.ownBlock = some k ∨ w.heap.size ≤ k) w w9 := (HK.out.fr.mono (fun k _ h => h.imp id .inl)).trans (hF.mono (fun k _ h => by
              rcases h with h | h | h | h
              · exact .inr (.inr (by omega))
              · exact .inl h
              · rcases HK.out.own k h with h | h
                · exact .inr (.inl h)
                · exact .inr (.inr (by omega))
              · exact .inr (.inr (by omega))))
            exact f1.mono (fun k hk h => by
              rcases h with h | h | h
              · exact .inl h
              · exact .inr h
              · omega))
        have CN := Lib.hid (And.intro (hF.cell HA0.out xa) (hF.cell HB0.out xb))
        clear hD hG hφ hF hA hp q9 xa xb k1 k2 k3 k4 m1 m2 m3 m4 hat1 hat2 c0' c1' c2' c3' f0' f1' f2' f3'
        simp only [putO, Act.put, List.setIfInBounds_toArray, List.set_cons_zero, List.set_cons_succ]
        go_wp2_with fail
        go_roundw
        case rel => exact ⟨j + 1, av2, cv2, ts ++ [(genF tk uk qs).1], (genF tk uk qs).2, pv2, by omega, by simp, HTS, KN, CN⟩
        case measure => simp [intOf]; omega
    · have hjj : j = ks.length := by omega
      subst hjj
      have HR : Hid (genL ks uks ps = (ts, qs)) := Lib.hid (by have := HT.out; rwa [List.take_of_length_le (Nat.le_refl _), List.take_of_length_le (by omega)] at this)
      obtain ⟨r0, r1, r2, r3, z0, z1, z2, z3⟩ := HK.out.res
      obtain ⟨c0', c1', c2', c3', f0', f1', f2', f3'⟩ := HK.out.box
      go_wp2_with fail
      refine ret4_set (p := 6) (T := 29) (b := w.heap.size + 1 + 1) (by kernel_rfl) (fun _ => by kernel_rfl) (fun _ => by kernel_rfl) rfl rfl r0 r1 r2 r3 ?_
      intro X hX
      have f : Fr (fun b => b = w.heap.size + 1 + 1) wr X := Fr.of_grown hX (fun k e => by cases e; rfl)
      rw [HF.out]
      simp only [HR.out]
      refine ⟨av, cv, pv1, rfl, own_iff.2 ⟨HNS.out, ?_, HK.out.app.mono (fun b hb => ⟨by omega, hb.2.2⟩) f (fun b hb h => by omega)⟩, HK.out.prs.fr f (by omega) (fun g hg h => by have := HPV1.out g hg; omega) (fun k hk h => by have := HB.out k hk; omega), fun g hg => (HK.out.own g hg).imp id (fun h => by omega), ?_⟩
      · have := HL.out; simp only [Tm.kids]; omega
      · have f1 : Fr (fun k => k = pp ∨ pv.ownBlock = some k ∨ w.heap.size ≤ k) w X := (HK.out.fr.mono (fun k _ h => h.imp id .inl)).trans (f.mono (fun k _ h => .inr (.inr (by omega))))
        exact f1.mono (fun k hk h => by
          rcases h with h | h | h
          · exact .inl h
          · exact .inr h
          · omega)

end Go.Proofs.Yteplfajhmpmklaa
