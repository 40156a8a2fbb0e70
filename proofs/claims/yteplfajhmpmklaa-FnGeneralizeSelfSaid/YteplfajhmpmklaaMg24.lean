/-
  What variables stand for: a list of 26 terms, zeroT for nothing.
-/
import Derived.Laws.EntriesVeiled
import Derived.Test.YteplfajhmpmklaaMg23
import Derived.Test.YteplfajhmpmklaaMg16
namespace Go.Proofs.Yteplfajhmpmklaa
open Go.RowKit
set_option linter.unusedVariables false

def zeroT : Tm := .mk 0 0 ⟨#[]⟩ []
def varT (n : Int) : Tm := .mk 1 n ⟨#[]⟩ []
theorem shape_kid {k n : Int} {s : ByteArray} {ks : List Tm} {d : Nat} (h : shapeF (.mk k n s ks) d = true) {j : Nat} {t : Tm} (ht : ks[j]? = some t) : shapeF t (d - 1) = true := by
  simp only [shapeF, Bool.and_eq_true] at h
  exact shapeL_mem h.2 (List.mem_of_getElem? ht)
theorem shape_var {n : Int} {s : ByteArray} {ks : List Tm} {d : Nat} (h : shapeF (.mk 1 n s ks) d = true) : 0 ≤ n ∧ n ≤ 25 := by
  simp only [shapeF, Bool.and_eq_true] at h
  have h2 := h.1.2
  unfold ownF at h2
  simp at h2
  exact ⟨h2.1.1.1, h2.1.1.2⟩

/-- what a variable stands for so far (zeroT: nothing) -/
def lookK (K : List Tm) (n : Int) : Tm := (K[n.toNat]?).getD zeroT
def known0 : List Tm := List.replicate 26 zeroT
theorem look_set {K : List Tm} (hl : K.length = 26) {n m : Int} (hn : 0 ≤ n ∧ n ≤ 25) (hm : 0 ≤ m ∧ m ≤ 25) (u : Tm) : lookK (K.set n.toNat u) m = if m = n then u else lookK K m := by
  unfold lookK
  rw [List.getElem?_set]
  by_cases e : m = n
  · subst e
    rw [if_pos rfl, if_pos rfl, if_pos (by omega)]
    rfl
  · rw [if_neg e, if_neg (by omega)]
theorem look_known0 (n : Int) : lookK known0 n = zeroT := by
  unfold lookK known0
  rw [List.getElem?_replicate]
  split <;> rfl
theorem shape_kind {t : Tm} {d : Nat} (h : shapeF t d = true) : t.kind ≠ 0 := by
  obtain ⟨k, n, s, ks⟩ := t
  rcases shape_own h with ⟨rfl, _⟩ | ⟨rfl, _⟩ | ⟨rfl, _⟩ <;> simp [Tm.kind]
/-- what is known stays known -/
def LeK (K K' : List Tm) : Prop := ∀ n : Int, 0 ≤ n ∧ n ≤ 25 → (lookK K n).kind ≠ 0 → lookK K' n = lookK K n
theorem LeK.trans {A B C : List Tm} (h : LeK A B) (g : LeK B C) : LeK A C := fun n hn hz => by
  have h1 := h n hn hz
  rw [g n hn (by rw [h1]; exact hz), h1]

end Go.Proofs.Yteplfajhmpmklaa

/-
  The program's mapVars: a term with all variables replaced, sharing nothing.
-/
namespace Go.Proofs.Yteplfajhmpmklaa
open Go.RowKit
set_option linter.unusedVariables false

mutual
def mapF (g : Int → Tm) : Tm → Tm
  | .mk k n s ks => if k = 1 then g n else .mk k n s (mapL g ks)
def mapL (g : Int → Tm) : List Tm → List Tm
  | [] => []
  | t :: ts => mapF g t :: mapL g ts
end
theorem mapL_len (g : Int → Tm) : ∀ ts : List Tm, (mapL g ts).length = ts.length
  | [] => rfl
  | t :: ts => by simp [mapL, mapL_len g ts]
theorem mapL_snoc (g : Int → Tm) : ∀ {ts : List Tm} {j : Nat} {t : Tm}, ts[j]? = some t → mapL g (ts.take (j + 1)) = mapL g (ts.take j) ++ [mapF g t]
  | [], j, t, h => by simp at h
  | t0 :: ts, 0, t, h => by simp at h; subst h; simp [mapL]
  | t0 :: ts, j + 1, t, h => by
    simp only [List.take_succ_cons, mapL, List.cons_append]
    rw [mapL_snoc g (by simpa using h)]

/-- the function that is handed in answers g n -/
def CloC (fid : FuncId) (caps : Array Value) (g : Int → Tm) (w : World) : Prop := ∀ (n : Int) (w' : World), 0 ≤ n → n ≤ 25 → Ext w w' → Calls Try.prog fid (#[.int .i64 n] ++ caps) w' (TmO (g n) w')
theorem CloC.ext {fid : FuncId} {caps : Array Value} {g : Int → Tm} {w w' : World} (h : CloC fid caps g w) (e : Ext w w') : CloC fid caps g w' := fun n w2 h1 h2 e2 => h n w2 h1 h2 (e.trans e2)
def MapC (g : Int → Tm) (t : Tm) : Prop := ∀ (v : Value) (S : Nat → Prop) (w : World) (d : Nat) (fid : FuncId) (caps : Array Value), shapeF t d = true → Tm.at S w t v →
  (∀ args w, Sem.run Try.prog (callFunc fid args) w = .ok (.enter fid args) w) → CloC fid caps g w → Calls Try.prog 79 #[v, .func (.func fid) #[] caps] w (TmO (mapF g t) w)

set_option maxRecDepth 100000 in
set_option maxHeartbeats 2000000 in
theorem implmapVars (g : Int → Tm) : ∀ (m : Nat) (t : Tm), Tm.sz t ≤ m → MapC g t := by
  intro m
  induction m with
  | zero => intro t hm; have := Tm.sz_pos t; omega
  | succ m ih =>
    intro t hm v S w d fid caps hsh ht hcf hclo
    obtain ⟨k, n, s, ks⟩ := t
    have IH := Lib.hid (show ∀ (j : Nat) (u : Tm), ks[j]? = some u → MapC g u from fun j u h => ih u (by
      have := kid_lt (k := k) (n := n) (s := s) (ks := ks) h; omega))
    clear ih hm
    obtain ⟨i0, hi, hz0, hz1, hz2⟩ := info_parts info_term3
    obtain ⟨hs1, sv, rfl, a, cap, rfl, h1, h2, h3, h4⟩ := ht
    have H4 := Lib.hid h4
    have HI := Lib.hid hi
    have HZ := Lib.hid hz0
    have HZ1 := Lib.hid hz1
    have HZ2 := Lib.hid hz2
    have HSH := Lib.hid hsh
    have HCLO := Lib.hid hclo
    clear h4 hi hz0 hz1 hz2 hsh hclo
    by_cases hk : k = 1
    · subst hk
      obtain ⟨n0, n25⟩ := shape_var HSH.out
      have HC := Lib.hid (fun w' e' => HCLO.out n w' n0 n25 e')
      have HF := Lib.hid (show mapF g (.mk 1 n s ks) = g n by simp only [mapF, if_true])
      go_enter Try.func79, Try.ntmps79
      go_wp2_with fail
      refine (HC.out _ ((Ext.alloc _ _).trans (Ext.alloc _ _))).mono ?_
      rintro e w1 ⟨a1, c1, rfl, ho, e1⟩
      obtain ⟨r0, r1, r2, r3, z0, z1, z2, z3⟩ := (BoxT.new (w.alloc (.cells #[.int .i64 1, .int .i64 n, .string s, .slice a ks.length cap] 29)) (.int .i64 0) (.int .i64 0) (.string ⟨#[]⟩) (.slice none 0 0) 29 (b := w.heap.size + 1) (by simp)).ext e1
      have HO := Lib.hid ho
      have E1 := Lib.hid (((Ext.alloc _ _).trans (Ext.alloc _ _)).trans e1)
      have hz1 : w.heap.size + 2 ≤ w1.heap.size := by have := Below.size e1; simpa using this
      clear ho e1
      go_wp2_with fail
      refine ret4_set (p := 4) (T := 29) (b := w.heap.size + 1) (by kernel_rfl) (fun _ => by kernel_rfl) (fun _ => by kernel_rfl) rfl rfl r0 r1 r2 r3 ?_
      intro X hX
      have f : Fr (fun b => b = w.heap.size + 1) w1 X := Fr.of_grown hX (fun k e => by cases e; rfl)
      rw [HF.out]
      refine ⟨_, _, rfl, own_mono (fun b hb => ?_) f (fun b hb h => ?_) _ _ HO.out, ((Fr.of_ext E1.out).trans f).toExt (fun k hk h => by omega)⟩
      · simp at hb; omega
      · simp at hb; omega
    · have hkb : (k == 1) = false := by simpa using hk
      have HF := Lib.hid (show mapF g (.mk k n s ks) = .mk k n s (mapL g ks) by simp only [mapF, if_neg hk])
      clear hk
      go_enter Try.func79, Try.ntmps79
      go_wp2_with fail
      go_loopw [20] (fun i wr => ∃ (j : Nat) (av : Option Addr) (cv : Nat) (ts : List Tm), j ≤ ks.length ∧ i = .int .i64 j ∧ Hid (ts = mapL g (ks.take j)) ∧
          Hid (KidO w w.heap.size (w.heap.size + 1) (w.heap.size + 2) ts (.int .i64 k) (.int .i64 n) (.string s) av cv wr)) (fun i _ => ks.length - (intOf i).toNat)
      case atStart =>
        refine ⟨0, none, 0, [], Nat.zero_le _, rfl, Lib.hid rfl, Lib.hid ⟨OwnS.nil _ _, (Ext.alloc _ _).trans (Ext.alloc _ _), ?_, ?_⟩⟩
        · exact (BoxT.new w (.int .i64 k) (.int .i64 n) (.string s) (.slice none 0 0) 29 rfl).ext (Ext.alloc _ _)
        · exact BoxT.new (w.alloc (.cells #[.int .i64 k, .int .i64 n, .string s, .slice none 0 0] 29)) _ _ _ _ 29 (by simp)
      case round =>
        obtain ⟨j, av, cv, ts, hj, rfl, HT, HK⟩ := hrel
        have hlen : ts.length = j := by rw [HT.out, mapL_len]; simp; omega
        obtain ⟨c0, c1, c2, c3, f0, f1, f2, f3⟩ := HK.out.box
        have hsz : w.heap.size + 2 ≤ wr.heap.size := by have := HK.out.res.lt; omega
        have sz : w.heap.size < wr.heap.size := by omega
        rw [hlen] at c3
        by_cases hlt : j < ks.length
        · obtain ⟨tk, htk⟩ := getk hlt
          obtain ⟨b, off, a1, c1', rfl, hSb, k1, k2, k3, k4, hat⟩ := tget H4.out htk
          have k1 := HK.out.ext.cell k1
          have k2 := HK.out.ext.cell k2
          have k3 := HK.out.ext.cell k3
          have k4 := HK.out.ext.cell k4
          have hlk : ks.length ≤ 1048576 := h3
          have HC := Lib.hid (fun w' (e' : Ext wr w') => IH.out j tk htk _ S w' (d - 1) fid caps (shape_kid HSH.out htk) (Tm.at_ext (HK.out.ext.trans e') hat) hcf (HCLO.out.ext (HK.out.ext.trans e')))
          have HTS : Hid (ts ++ [mapF g tk] = mapL g (ks.take (j + 1))) := Lib.hid (by rw [HT.out, mapL_snoc g htk])
          have hbw := block_lt_of_cell k1
          simp only at hbw
          clear htk hat hSb c0 c1 c2 f0 f1 f2
          go_wp2_with fail
          go_region_law (first
            | (go_simp; go_at_call 79; refine (HC.out _ ?_).mono ?_; (first | exact Ext.alloc _ _ | exact (Ext.alloc _ _).trans (Ext.drew _)); rintro e w1 ⟨a2, c2, rfl, hv1, e1⟩; (try replace e1 := Ext.undrew e1); have e2 := Lib.hid ((Ext.alloc _ _).trans e1); have hv2 := Lib.hid (own_zone (F' := fun b => wr.heap.size ≤ b) hv1 (fun b hb => by simp at hb; omega)); have d3 := e2.out.cell c3; have s1 := Below.size e2.out; have s2 := Nat.lt_of_lt_of_le sz s1; clear e1 hv1; dsimp only)
            | (refine step_append_ow (w0 := wr) rfl (.tmp 25) (.tmp 29) 27 rfl (w.heap.size + 2) i0 Try.underlying27 HI.out HZ.out HZ1.out HZ2.out (.slice av ts.length cv) ts (mapF g tk) a2 c2 (by rw [hlen]; rfl) (HK.out.app.ext e2.out) rfl hv2.out s1 hsz (by omega) rfl ?_; intro av2 cv2 w2 hA2 hf2; have K2 := Lib.hid (HK.out.next (Nat.le_refl _) (by omega) (by omega) (by omega) e2.out hA2 hf2); have g3 := hf2.cell (k := w.heap.size) (by omega) d3; have g5 := hf2.frozen (k := w.heap.size) (by omega) (by omega) (e2.out.frozen (show w.heap.size < wr.heap.size by omega) f3); clear hA2 hf2))
          all_goals go_wp2_with fail
          all_goals
            go_roundw
            case rel => exact ⟨j + 1, av2, cv2, ts ++ [mapF g tk], by omega, by simp, HTS, by rw [← hlen]; exact K2⟩
            case measure => simp [intOf]; omega
        · have hjj : j = ks.length := by omega
          subst hjj
          have hts : ts = mapL g ks := by rw [HT.out, List.take_of_length_le (Nat.le_refl _)]
          subst hts
          obtain ⟨g0, g1, g2, g3, z0, z1, z2, z3⟩ := HK.out.res
          go_wp2_with fail
          refine ret4_set (p := 4) (T := 29) (b := w.heap.size + 1) (by kernel_rfl) (fun _ => by kernel_rfl) (fun _ => by kernel_rfl) rfl rfl g0 g1 g2 g3 ?_
          intro X hX
          have f : Fr (fun b => b = w.heap.size + 1) wr X := Fr.of_grown hX (fun k e => by cases e; rfl)
          rw [HF.out]
          have hA := HK.out.app
          refine ⟨av, cv, by rw [← hlen]; rfl, own_iff.2 ⟨hs1, ?_, hA.mono (fun b hb => by omega) f (fun b hb h => by omega)⟩, ((Fr.of_ext HK.out.ext).trans f).toExt (fun k hk h => by omega)⟩
          simp only [Tm.kids, mapL_len]
          exact h3

end Go.Proofs.Yteplfajhmpmklaa
