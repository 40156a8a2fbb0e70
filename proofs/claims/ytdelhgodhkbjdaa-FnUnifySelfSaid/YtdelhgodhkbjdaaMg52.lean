/-
  The program's mapVars: a term with all variables replaced, sharing nothing.
-/
import Derived.Laws.EntriesVeiled
import Derived.Test.YtdelhgodhkbjdaaMg28
import Derived.Test.YtdelhgodhkbjdaaMg16
import Derived.Test.YtdelhgodhkbjdaaMg17
import Derived.Test.YtdelhgodhkbjdaaMg23
namespace Go.Proofs.Ytdelhgodhkbjdaa
open Go.RowKit
set_option linter.unusedVariables false

mutual
def mapF (g : Int → Tm) : Tm → Tm
  | .mk k n s ks => if k = 1 then g n else .mk k n s (mapL g ks)
def mapL (g : Int → Tm) : List Tm → List Tm
  | [] => []
  | t :: ts => mapF g t :: mapL g ts
end
theorem mapL_len (g : Int → Tm) : ∀ ts : List Tm, (mapL g ts).length = ts.length
  | [] => rfl
  | t :: ts => by simp [mapL, mapL_len g ts]
theorem mapL_snoc (g : Int → Tm) : ∀ {ts : List Tm} {j : Nat} {t : Tm}, ts[j]? = some t → mapL g (ts.take (j + 1)) = mapL g (ts.take j) ++ [mapF g t]
  | [], j, t, h => by simp at h
  | t0 :: ts, 0, t, h => by simp at h; subst h; simp [mapL]
  | t0 :: ts, j + 1, t, h => by
    simp only [List.take_succ_cons, mapL, List.cons_append]
    rw [mapL_snoc g (by simpa using h)]

/-- the function that is handed in answers g n -/
def CloC (fid : FuncId) (caps : Array Value) (g : Int → Tm) (w : World) : Prop := ∀ (n : Int) (w' : World), 0 ≤ n → n ≤ 25 → Ext w w' → Calls Try.prog fid (#[.int .i64 n] ++ caps) w' (TmO (g n) w')
theorem CloC.ext {fid : FuncId} {caps : Array Value} {g : Int → Tm} {w w' : World} (h : CloC fid caps g w) (e : Ext w w') : CloC fid caps g w' := fun n w2 h1 h2 e2 => h n w2 h1 h2 (e.trans e2)

end Go.Proofs.Ytdelhgodhkbjdaa

/-
  Shifting a term's variables: the program and the reference.
-/
namespace Go.Proofs.Ytdelhgodhkbjdaa
open Go.RowKit
set_option linter.unusedVariables false


mutual
/-- the reference's -/
def shiftS (m : Int) : Tm → Tm
  | .mk k n s ks => .mk k (if k = 1 then n + m else n) s (shiftSL m ks)
def shiftSL (m : Int) : List Tm → List Tm
  | [] => []
  | t :: ts => shiftS m t :: shiftSL m ts
end
theorem shiftSL_len (m : Int) : ∀ ts : List Tm, (shiftSL m ts).length = ts.length
  | [] => rfl
  | t :: ts => by simp [shiftSL, shiftSL_len m ts]
theorem shiftSL_snoc (m : Int) : ∀ {ts : List Tm} {j : Nat} {t : Tm}, ts[j]? = some t → shiftSL m (ts.take (j + 1)) = shiftSL m (ts.take j) ++ [shiftS m t]
  | [], j, t, h => by simp at h
  | t0 :: ts, 0, t, h => by simp at h; subst h; simp [shiftSL]
  | t0 :: ts, j + 1, t, h => by
    simp only [List.take_succ_cons, shiftSL, List.cons_append]
    rw [shiftSL_snoc m (by simpa using h)]
theorem var_form {n : Int} {s : ByteArray} {ks : List Tm} {d : Nat} (h : shapeF (.mk 1 n s ks) d = true) : s = ⟨#[]⟩ ∧ ks = [] := by
  rcases shape_own h with ⟨_, h1, h2⟩ | ⟨h1, _⟩ | ⟨h1, _⟩
  · exact ⟨bl_ext (by rw [h1]; simp), h2⟩
  · omega
  · omega
mutual
theorem shift_eq (m : Int) : ∀ (t : Tm) (d : Nat), shapeF t d = true → mapF (fun n => varT (n + m)) t = shiftS m t
  | .mk k n s ks, d, h => by
    simp only [mapF, shiftS]
    by_cases hk : k = 1
    · subst hk
      obtain ⟨rfl, rfl⟩ := var_form h
      simp [shiftSL, varT]
    · rw [if_neg hk, if_neg hk]
      simp only [shapeF, Bool.and_eq_true] at h
      rw [shiftL_eq m ks (d - 1) h.2]
theorem shiftL_eq (m : Int) : ∀ (ts : List Tm) (d : Nat), shapeL ts d = true → mapL (fun n => varT (n + m)) ts = shiftSL m ts
  | [], _, _ => rfl
  | t :: ts, d, h => by
    simp only [shapeL, Bool.and_eq_true] at h
    simp only [mapL, shiftSL]
    rw [shift_eq m t d h.1, shiftL_eq m ts d h.2]
end

def ShiftC (m : Int) (t : Tm) : Prop := ∀ (v : Value) (S : Nat → Prop) (w : World) (d : Nat), shapeF t d = true → Tm.at S w t v → Calls Try.prog 95 #[v, .int .i64 m] w (TmO (shiftS m t) w)
set_option maxRecDepth 100000 in
set_option maxHeartbeats 4000000 in
theorem specl3Shift (q : Int) (hq1 : -25 ≤ q) (hq2 : q ≤ 25) : ∀ (m : Nat) (t : Tm), Tm.sz t ≤ m → ShiftC q t := by
  intro m
  induction m with
  | zero => intro t hm; have := Tm.sz_pos t; omega
  | succ m ih =>
    intro t hm v S w d hsh ht
    obtain ⟨k, n, s, ks⟩ := t
    have IH := Lib.hid (show ∀ (j : Nat) (u : Tm), ks[j]? = some u → ShiftC q u from fun j u h => ih u (by
      have := kid_lt (k := k) (n := n) (s := s) (ks := ks) h; omega))
    clear ih hm
    obtain ⟨i0, hi, hz0, hz1, hz2⟩ := info_parts info_term3
    obtain ⟨hs1, sv, rfl, a, cap, rfl, h1, h2, h3, h4⟩ := ht
    have H4 := Lib.hid h4
    have HI := Lib.hid hi
    have HZ := Lib.hid hz0
    have HZ1 := Lib.hid hz1
    have HZ2 := Lib.hid hz2
    have HSH := Lib.hid hsh
    have hn : k = 1 → 0 ≤ n ∧ n ≤ 25 := fun e => shape_var (e ▸ hsh)
    clear h4 hi hz0 hz1 hz2 hsh
    obtain ⟨N, hN, hpre⟩ : ∃ N : Int, N = (if k = 1 then n + q else n) ∧ ((k == 1) = true ∧ 0 ≤ n ∧ n ≤ 25 ∧ N = n + q ∨ (k == 1) = false ∧ n = N) := by
      by_cases hk : k = 1
      · exact ⟨n + q, by rw [if_pos hk], .inl ⟨by simpa using hk, (hn hk).1, (hn hk).2, rfl⟩⟩
      · exact ⟨n, by rw [if_neg hk], .inr ⟨by simpa using hk, rfl⟩⟩
    have HF := Lib.hid (show shiftS q (.mk k n s ks) = .mk k N s (shiftSL q ks) by rw [hN]; rfl)
    clear hN hn
    rcases hpre with ⟨hkb, n0, n25, rfl⟩ | ⟨hkb, rfl⟩
    · go_enter Try.func95, Try.ntmps95
      go_wp2_with fail
      go_loopw [6] (fun i wr => ∃ (j : Nat) (av : Option Addr) (cv : Nat) (ts : List Tm), j ≤ ks.length ∧ i = .int .i64 j ∧ Hid (ts = shiftSL q (ks.take j)) ∧
          Hid (BoxT wr (w.heap.size) (.int .i64 k) (.int .i64 n) (.string s) (.slice a ks.length cap)) ∧ Hid (KidO w (w.heap.size + 1 + 1) (w.heap.size + 1) (w.heap.size + 1 + 1 + 1) ts (.int .i64 k) (.int .i64 (n + q)) (.string s) av cv wr)) (fun i _ => ks.length - (intOf i).toNat)
      case atStart =>
        refine ⟨0, none, 0, [], Nat.zero_le _, rfl, Lib.hid rfl, Lib.hid ?_, Lib.hid ⟨OwnS.nil _ _, ((Ext.alloc _ _).trans (Ext.alloc _ _)).trans (Ext.alloc _ _), ?_, ?_⟩⟩
        · exact ((BoxT.new w (.int .i64 k) (.int .i64 n) (.string s) (.slice a ks.length cap) 25 rfl).ext (Ext.alloc _ _)).ext (Ext.alloc _ _)
        · exact BoxT.new ((w.alloc (.cells #[.int .i64 k, .int .i64 n, .string s, .slice a ks.length cap] 25)).alloc (.cells #[.int .i64 0, .int .i64 0, .string ⟨#[]⟩, .slice none 0 0] 25)) (.int .i64 k) (.int .i64 (n + q)) (.string s) (.slice none 0 0) 25 (by simp)
        · exact (BoxT.new (w.alloc (.cells #[.int .i64 k, .int .i64 n, .string s, .slice a ks.length cap] 25)) (.int .i64 0) (.int .i64 0) (.string ⟨#[]⟩) (.slice none 0 0) 25 (by simp)).ext (Ext.alloc _ _)
      case round =>
        obtain ⟨j, av, cv, ts, hj, rfl, HT, HP, HK⟩ := hrel
        have hlen : ts.length = j := by rw [HT.out, shiftSL_len]; simp; omega
        obtain ⟨c0, c1, c2, c3, f0, f1, f2, f3⟩ := HK.out.box
        obtain ⟨p0, p1, p2, p3, _, _, _, _⟩ := HP.out
        have hsz : w.heap.size + 1 + 1 + 1 ≤ wr.heap.size := HK.out.box.lt
        have sz : w.heap.size + 1 + 1 < wr.heap.size := HK.out.box.lt
        have sp : w.heap.size < wr.heap.size := HP.out.lt
        rw [hlen] at c3
        by_cases hlt : j < ks.length
        · obtain ⟨tk, htk⟩ := getk hlt
          obtain ⟨b, off, a1, c1', rfl, hSb, k1, k2, k3, k4, hat⟩ := tget H4.out htk
          have k1 := HK.out.ext.cell k1
          have k2 := HK.out.ext.cell k2
          have k3 := HK.out.ext.cell k3
          have k4 := HK.out.ext.cell k4
          have hlk : ks.length ≤ 1048576 := h3
          have HC := Lib.hid (fun w' (e' : Ext wr w') => IH.out j tk htk _ S w' (d - 1) (shape_kid HSH.out htk) (Tm.at_ext (HK.out.ext.trans e') hat))
          have HTS : Hid (ts ++ [shiftS q tk] = shiftSL q (ks.take (j + 1))) := Lib.hid (by rw [HT.out, shiftSL_snoc q htk])
          have hbw := block_lt_of_cell k1
          simp only at hbw
          clear htk hat hSb c0 c1 c2 f0 f1 f2 p0 p1 p2
          go_wp2_with fail
          go_region_law (first
            | (go_simp; go_at_call 95; refine (HC.out _ ?_).mono ?_; (first | exact Ext.refl _ | exact Ext.drew _); rintro e w1 ⟨a2, c2, rfl, hv1, e1⟩; (try replace e1 := Ext.undrew e1); have e2 := Lib.hid e1; have hv2 := Lib.hid (own_zone (F' := fun b => wr.heap.size ≤ b) hv1 (fun b hb => by simpa using hb)); have d3 := e2.out.cell c3; have d4 := e2.out.cell p3; have s1 := Below.size e2.out; have s2 := Nat.lt_of_lt_of_le sz s1; have s3 := Nat.lt_of_lt_of_le sp s1; clear e1 hv1; dsimp only)
            | (refine step_append_ow (w0 := wr) rfl (.tmp 30) (.tmp 38) 23 rfl (w.heap.size + 1 + 1 + 1) i0 Try.underlying23 HI.out HZ.out HZ1.out HZ2.out (.slice av ts.length cv) ts (shiftS q tk) a2 c2 (by rw [hlen]; rfl) (HK.out.app.ext e2.out) rfl hv2.out s1 hsz (by omega) rfl ?_; intro av2 cv2 w2 hA2 hf2; have K2 := Lib.hid (HK.out.next (by omega) (by omega) (by omega) (by omega) e2.out hA2 hf2); have P2 := Lib.hid (((HP.out.ext e2.out).fr hf2 (by omega)).fr (M := fun k => k = w.heap.size + 1 + 1) (Fr.setCell (i := 3) (u := .slice av2 (ts.length + 1) cv2) w2 rfl) (by omega)); have g3 := hf2.cell (k := w.heap.size + 1 + 1) (by omega) d3; have g5 := hf2.frozen (k := w.heap.size + 1 + 1) (by omega) (by omega) (e2.out.frozen sz f3); clear hA2 hf2))
          all_goals go_wp2_with fail
          all_goals
            go_roundw
            case rel => exact ⟨j + 1, av2, cv2, ts ++ [shiftS q tk], by omega, by simp, HTS, by rw [← hlen]; exact P2, by rw [← hlen]; exact K2⟩
            case measure => simp [intOf]; omega
        · have hjj : j = ks.length := by omega
          subst hjj
          have hts : ts = shiftSL q ks := by rw [HT.out, List.take_of_length_le (Nat.le_refl _)]
          subst hts
          obtain ⟨g0, g1, g2, g3, z0, z1, z2, z3⟩ := HK.out.res
          go_wp2_with fail
          refine ret4_set (p := 4) (T := 25) (b := w.heap.size + 1) (by kernel_rfl) (fun _ => by kernel_rfl) (fun _ => by kernel_rfl) rfl rfl g0 g1 g2 g3 ?_
          intro X hX
          have f : Fr (fun b => b = w.heap.size + 1) wr X := Fr.of_grown hX (fun k e => by cases e; rfl)
          rw [HF.out]
          have hA := HK.out.app
          refine ⟨av, cv, by rw [← hlen]; rfl, own_iff.2 ⟨hs1, ?_, hA.mono (fun b hb => by omega) f (fun b hb h => by omega)⟩, ((Fr.of_ext HK.out.ext).trans f).toExt (fun k hk h => by omega)⟩
          simp only [Tm.kids, shiftSL_len]
          exact h3
    · go_enter Try.func95, Try.ntmps95
      go_wp2_with fail
      go_loopw [6] (fun i wr => ∃ (j : Nat) (av : Option Addr) (cv : Nat) (ts : List Tm), j ≤ ks.length ∧ i = .int .i64 j ∧ Hid (ts = shiftSL q (ks.take j)) ∧
          Hid (BoxT wr (w.heap.size) (.int .i64 k) (.int .i64 n) (.string s) (.slice a ks.length cap)) ∧ Hid (KidO w (w.heap.size + 1 + 1) (w.heap.size + 1) (w.heap.size + 1 + 1 + 1) ts (.int .i64 k) (.int .i64 n) (.string s) av cv wr)) (fun i _ => ks.length - (intOf i).toNat)
      case atStart =>
        refine ⟨0, none, 0, [], Nat.zero_le _, rfl, Lib.hid rfl, Lib.hid ?_, Lib.hid ⟨OwnS.nil _ _, ((Ext.alloc _ _).trans (Ext.alloc _ _)).trans (Ext.alloc _ _), ?_, ?_⟩⟩
        · exact ((BoxT.new w (.int .i64 k) (.int .i64 n) (.string s) (.slice a ks.length cap) 25 rfl).ext (Ext.alloc _ _)).ext (Ext.alloc _ _)
        · exact BoxT.new ((w.alloc (.cells #[.int .i64 k, .int .i64 n, .string s, .slice a ks.length cap] 25)).alloc (.cells #[.int .i64 0, .int .i64 0, .string ⟨#[]⟩, .slice none 0 0] 25)) (.int .i64 k) (.int .i64 n) (.string s) (.slice none 0 0) 25 (by simp)
        · exact (BoxT.new (w.alloc (.cells #[.int .i64 k, .int .i64 n, .string s, .slice a ks.length cap] 25)) (.int .i64 0) (.int .i64 0) (.string ⟨#[]⟩) (.slice none 0 0) 25 (by simp)).ext (Ext.alloc _ _)
      case round =>
        obtain ⟨j, av, cv, ts, hj, rfl, HT, HP, HK⟩ := hrel
        have hlen : ts.length = j := by rw [HT.out, shiftSL_len]; simp; omega
        obtain ⟨c0, c1, c2, c3, f0, f1, f2, f3⟩ := HK.out.box
        obtain ⟨p0, p1, p2, p3, _, _, _, _⟩ := HP.out
        have hsz : w.heap.size + 1 + 1 + 1 ≤ wr.heap.size := HK.out.box.lt
        have sz : w.heap.size + 1 + 1 < wr.heap.size := HK.out.box.lt
        have sp : w.heap.size < wr.heap.size := HP.out.lt
        rw [hlen] at c3
        by_cases hlt : j < ks.length
        · obtain ⟨tk, htk⟩ := getk hlt
          obtain ⟨b, off, a1, c1', rfl, hSb, k1, k2, k3, k4, hat⟩ := tget H4.out htk
          have k1 := HK.out.ext.cell k1
          have k2 := HK.out.ext.cell k2
          have k3 := HK.out.ext.cell k3
          have k4 := HK.out.ext.cell k4
          have hlk : ks.length ≤ 1048576 := h3
          have HC := Lib.hid (fun w' (e' : Ext wr w') => IH.out j tk htk _ S w' (d - 1) (shape_kid HSH.out htk) (Tm.at_ext (HK.out.ext.trans e') hat))
          have HTS : Hid (ts ++ [shiftS q tk] = shiftSL q (ks.take (j + 1))) := Lib.hid (by rw [HT.out, shiftSL_snoc q htk])
          have hbw := block_lt_of_cell k1
          simp only at hbw
          clear htk hat hSb c0 c1 c2 f0 f1 f2 p0 p1 p2
          go_wp2_with fail
          go_region_law (first
            | (go_simp; go_at_call 95; refine (HC.out _ ?_).mono ?_; (first | exact Ext.refl _ | exact Ext.drew _); rintro e w1 ⟨a2, c2, rfl, hv1, e1⟩; (try replace e1 := Ext.undrew e1); have e2 := Lib.hid e1; have hv2 := Lib.hid (own_zone (F' := fun b => wr.heap.size ≤ b) hv1 (fun b hb => by simpa using hb)); have d3 := e2.out.cell c3; have d4 := e2.out.cell p3; have s1 := Below.size e2.out; have s2 := Nat.lt_of_lt_of_le sz s1; have s3 := Nat.lt_of_lt_of_le sp s1; clear e1 hv1; dsimp only)
            | (refine step_append_ow (w0 := wr) rfl (.tmp 30) (.tmp 38) 23 rfl (w.heap.size + 1 + 1 + 1) i0 Try.underlying23 HI.out HZ.out HZ1.out HZ2.out (.slice av ts.length cv) ts (shiftS q tk) a2 c2 (by rw [hlen]; rfl) (HK.out.app.ext e2.out) rfl hv2.out s1 hsz (by omega) rfl ?_; intro av2 cv2 w2 hA2 hf2; have K2 := Lib.hid (HK.out.next (by omega) (by omega) (by omega) (by omega) e2.out hA2 hf2); have P2 := Lib.hid (((HP.out.ext e2.out).fr hf2 (by omega)).fr (M := fun k => k = w.heap.size + 1 + 1) (Fr.setCell (i := 3) (u := .slice av2 (ts.length + 1) cv2) w2 rfl) (by omega)); have g3 := hf2.cell (k := w.heap.size + 1 + 1) (by omega) d3; have g5 := hf2.frozen (k := w.heap.size + 1 + 1) (by omega) (by omega) (e2.out.frozen sz f3); clear hA2 hf2))
          all_goals go_wp2_with fail
          all_goals
            go_roundw
            case rel => exact ⟨j + 1, av2, cv2, ts ++ [shiftS q tk], by omega, by simp, HTS, by rw [← hlen]; exact P2, by rw [← hlen]; exact K2⟩
            case measure => simp [intOf]; omega
        · have hjj : j = ks.length := by omega
          subst hjj
          have hts : ts = shiftSL q ks := by rw [HT.out, List.take_of_length_le (Nat.le_refl _)]
          subst hts
          obtain ⟨g0, g1, g2, g3, z0, z1, z2, z3⟩ := HK.out.res
          go_wp2_with fail
          refine ret4_set (p := 4) (T := 25) (b := w.heap.size + 1) (by kernel_rfl) (fun _ => by kernel_rfl) (fun _ => by kernel_rfl) rfl rfl g0 g1 g2 g3 ?_
          intro X hX
          have f : Fr (fun b => b = w.heap.size + 1) wr X := Fr.of_grown hX (fun k e => by cases e; rfl)
          rw [HF.out]
          have hA := HK.out.app
          refine ⟨av, cv, by rw [← hlen]; rfl, own_iff.2 ⟨hs1, ?_, hA.mono (fun b hb => by omega) f (fun b hb h => by omega)⟩, ((Fr.of_ext HK.out.ext).trans f).toExt (fun k hk h => by omega)⟩
          simp only [Tm.kids, shiftSL_len]
          exact h3

end Go.Proofs.Ytdelhgodhkbjdaa
