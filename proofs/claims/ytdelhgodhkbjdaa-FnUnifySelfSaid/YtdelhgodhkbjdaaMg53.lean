/-
  What DrawShiftTerm draws: a term and a number.
-/
import Derived.Test.YtdelhgodhkbjdaaMg14
import Derived.Test.YtdelhgodhkbjdaaMg52
import Derived.Test.YtdelhgodhkbjdaaMg31
namespace Go.Proofs.Ytdelhgodhkbjdaa
open Go.RowKit
set_option linter.unusedVariables false

theorem rdnum_newd (zs : List Int) {r p : Nat} {w : World} {T : Nat} {cs : Array Value} (n : Nat) (hn : zs.length = n) (hcs : cs = (zs.map (Value.int .i64)).toArray) (hl : n ≤ 1048576) (h0 : zs ≠ []) (hp : p ≤ 1099511627776) (hr : Rd w r p) {b : Nat} (hb : b = w.heap.size) :
    Calls Try.prog 53 #[.pointer (some ⟨r, 0, none⟩), .slice (some ⟨b, 0, none⟩) n n] ((w.alloc (.cells cs T)).drew) (NumPost r p zs w) := by
  subst hb
  have hlt := hr.lt
  refine (rdnum r p zs _ _ hp (hr.ext ((Ext.alloc _ _).trans (Ext.drew _))) h0 ?_ (IntsAt.ext (ints_at_new zs n hn w T cs hcs hl) (Ext.drew _))).mono ?_
  · rintro b o c l h
    simp at h; omega
  · rintro e w' ⟨s, h1, h2, h3, h4⟩
    exact ⟨s, h1, h2, h3, (ExtR.of_ext ((Ext.alloc _ _).trans (Ext.drew _))).trans h4⟩
theorem BoxT.four {w : World} {b : Nat} {v0 v1 v2 v3 : Value} (h : BoxT w b v0 v1 v2 v3) : w.cell? ⟨b, 0, none⟩ = some v0 ∧ w.cell? ⟨b, 1, none⟩ = some v1 ∧ w.cell? ⟨b, 2, none⟩ = some v2 ∧ w.cell? ⟨b, 3, none⟩ = some v3 := ⟨h.1, h.2.1, h.2.2.1, h.2.2.2.1⟩
theorem setfour {w : World} {b c : Nat} {v0 v1 v2 v3 u0 u1 u2 u3 : Value} (hb : ¬ b = c) (h : BoxT w b v0 v1 v2 v3) :
    ((((w.setCell ⟨c, 0, none⟩ u0).setCell ⟨c, 1, none⟩ u1).setCell ⟨c, 2, none⟩ u2).setCell ⟨c, 3, none⟩ u3).cell? ⟨b, 0, none⟩ = some v0 ∧ ((((w.setCell ⟨c, 0, none⟩ u0).setCell ⟨c, 1, none⟩ u1).setCell ⟨c, 2, none⟩ u2).setCell ⟨c, 3, none⟩ u3).cell? ⟨b, 1, none⟩ = some v1 ∧ ((((w.setCell ⟨c, 0, none⟩ u0).setCell ⟨c, 1, none⟩ u1).setCell ⟨c, 2, none⟩ u2).setCell ⟨c, 3, none⟩ u3).cell? ⟨b, 2, none⟩ = some v2 ∧ ((((w.setCell ⟨c, 0, none⟩ u0).setCell ⟨c, 1, none⟩ u1).setCell ⟨c, 2, none⟩ u2).setCell ⟨c, 3, none⟩ u3).cell? ⟨b, 3, none⟩ = some v3 :=
  BoxT.four (h.fr (M := fun k => k = c) (Fr.of_grown (set4_grown w c u0 u1 u2 u3) (fun k e => by cases e; rfl)) hb)
/-- a drawn term and number -/
def TmNOut (zs : List Int) (w : World) (e : Ending) (w' : World) : Prop := ∃ t v n, e = .returned (.tuple #[v, .int .i64 n]) ∧ n ∈ zs ∧ Tm.at (fun b => w.heap.size ≤ b) w' t v ∧ Ext w w'


end Go.Proofs.Ytdelhgodhkbjdaa

/-
  The reference's l3Shift on terms whose variables' numbers are small.
-/
namespace Go.Proofs.Ytdelhgodhkbjdaa
open Go.RowKit
set_option linter.unusedVariables false

mutual
/-- the variables' numbers are small -/
def NB : Tm → Prop
  | .mk k n _ ks => (k = 1 → -1000 ≤ n ∧ n ≤ 1000) ∧ NBL ks
def NBL : List Tm → Prop
  | [] => True
  | t :: ts => NB t ∧ NBL ts
end
theorem nbl_mem : ∀ {ts : List Tm} {t : Tm}, NBL ts → t ∈ ts → NB t
  | [], _, _, h => by simp at h
  | u :: ts, t, h, hm => by
    rcases List.mem_cons.1 hm with rfl | hm
    · exact h.1
    · exact nbl_mem h.2 hm
theorem nb_kid {k n : Int} {s : ByteArray} {ks : List Tm} (h : NB (.mk k n s ks)) {j : Nat} {t : Tm} (ht : ks[j]? = some t) : NB t := nbl_mem h.2 (List.mem_of_getElem? ht)
theorem nbl_of : ∀ {ts : List Tm}, (∀ t ∈ ts, NB t) → NBL ts
  | [], _ => trivial
  | t :: ts, h => ⟨h t (by simp), nbl_of (fun u hu => h u (by simp [hu]))⟩
theorem nb_drawn : ∀ (d : Nat) (t : Tm), Drawn d t → NB t
  | 0, t, h => by simp [Drawn] at h
  | d + 1, .mk k n s ks, h => by
    simp only [Drawn] at h
    rcases h with ⟨rfl, h1, h2, _, rfl⟩ | ⟨rfl, _, _, _, rfl⟩ | ⟨rfl, rfl, _, _, h5⟩
    · exact ⟨fun _ => by omega, trivial⟩
    · exact ⟨fun e => by omega, trivial⟩
    · exact ⟨fun e => by omega, nbl_of (fun u hu => nb_drawn d u (h5 u hu))⟩

def ShiftCN (m : Int) (t : Tm) : Prop := ∀ (v : Value) (S : Nat → Prop) (w : World), NB t → Tm.at S w t v → Calls Try.prog 95 #[v, .int .i64 m] w (TmO (shiftS m t) w)
set_option maxRecDepth 100000 in
set_option maxHeartbeats 4000000 in
theorem specl3ShiftN (q : Int) (hq1 : -25 ≤ q) (hq2 : q ≤ 25) : ∀ (m : Nat) (t : Tm), Tm.sz t ≤ m → ShiftCN q t := by
  intro m
  induction m with
  | zero => intro t hm; have := Tm.sz_pos t; omega
  | succ m ih =>
    intro t hm v S w hsh ht
    obtain ⟨k, n, s, ks⟩ := t
    have IH := Lib.hid (show ∀ (j : Nat) (u : Tm), ks[j]? = some u → ShiftCN q u from fun j u h => ih u (by
      have := kid_lt (k := k) (n := n) (s := s) (ks := ks) h; omega))
    clear ih hm
    obtain ⟨i0, hi, hz0, hz1, hz2⟩ := info_parts info_term3
    obtain ⟨hs1, sv, rfl, a, cap, rfl, h1, h2, h3, h4⟩ := ht
    have H4 := Lib.hid h4
    have HI := Lib.hid hi
    have HZ := Lib.hid hz0
    have HZ1 := Lib.hid hz1
    have HZ2 := Lib.hid hz2
    have HSH := Lib.hid hsh
    have hn : k = 1 → -1000 ≤ n ∧ n ≤ 1000 := fun e => hsh.1 e
    clear h4 hi hz0 hz1 hz2 hsh
    obtain ⟨N, hN, hpre⟩ : ∃ N : Int, N = (if k = 1 then n + q else n) ∧ ((k == 1) = true ∧ -1000 ≤ n ∧ n ≤ 1000 ∧ N = n + q ∨ (k == 1) = false ∧ n = N) := by
      by_cases hk : k = 1
      · exact ⟨n + q, by rw [if_pos hk], .inl ⟨by simpa using hk, (hn hk).1, (hn hk).2, rfl⟩⟩
      · exact ⟨n, by rw [if_neg hk], .inr ⟨by simpa using hk, rfl⟩⟩
    have HF := Lib.hid (show shiftS q (.mk k n s ks) = .mk k N s (shiftSL q ks) by rw [hN]; rfl)
    clear hN hn
    rcases hpre with ⟨hkb, n0, n25, rfl⟩ | ⟨hkb, rfl⟩
    · go_enter Try.func95, Try.ntmps95
      go_wp2_with fail
      go_loopw [6] (fun i wr => ∃ (j : Nat) (av : Option Addr) (cv : Nat) (ts : List Tm), j ≤ ks.length ∧ i = .int .i64 j ∧ Hid (ts = shiftSL q (ks.take j)) ∧
          Hid (BoxT wr (w.heap.size) (.int .i64 k) (.int .i64 n) (.string s) (.slice a ks.length cap)) ∧ Hid (KidO w (w.heap.size + 1 + 1) (w.heap.size + 1) (w.heap.size + 1 + 1 + 1) ts (.int .i64 k) (.int .i64 (n + q)) (.string s) av cv wr)) (fun i _ => ks.length - (intOf i).toNat)
      case atStart =>
        refine ⟨0, none, 0, [], Nat.zero_le _, rfl, Lib.hid rfl, Lib.hid ?_, Lib.hid ⟨OwnS.nil _ _, ((Ext.alloc _ _).trans (Ext.alloc _ _)).trans (Ext.alloc _ _), ?_, ?_⟩⟩
        · exact ((BoxT.new w (.int .i64 k) (.int .i64 n) (.string s) (.slice a ks.length cap) 25 rfl).ext (Ext.alloc _ _)).ext (Ext.alloc _ _)
        · exact BoxT.new ((w.alloc (.cells #[.int .i64 k, .int .i64 n, .string s, .slice a ks.length cap] 25)).alloc (.cells #[.int .i64 0, .int .i64 0, .string ⟨#[]⟩, .slice none 0 0] 25)) (.int .i64 k) (.int .i64 (n + q)) (.string s) (.slice none 0 0) 25 (by simp)
        · exact (BoxT.new (w.alloc (.cells #[.int .i64 k, .int .i64 n, .string s, .slice a ks.length cap] 25)) (.int .i64 0) (.int .i64 0) (.string ⟨#[]⟩) (.slice none 0 0) 25 (by simp)).ext (Ext.alloc _ _)
      case round =>
        obtain ⟨j, av, cv, ts, hj, rfl, HT, HP, HK⟩ := hrel
        have hlen : ts.length = j := by rw [HT.out, shiftSL_len]; simp; omega
        obtain ⟨c0, c1, c2, c3, f0, f1, f2, f3⟩ := HK.out.box
        obtain ⟨p0, p1, p2, p3, _, _, _, _⟩ := HP.out
        have hsz : w.heap.size + 1 + 1 + 1 ≤ wr.heap.size := HK.out.box.lt
        have sz : w.heap.size + 1 + 1 < wr.heap.size := HK.out.box.lt
        have sp : w.heap.size < wr.heap.size := HP.out.lt
        rw [hlen] at c3
        by_cases hlt : j < ks.length
        · obtain ⟨tk, htk⟩ := getk hlt
          obtain ⟨b, off, a1, c1', rfl, hSb, k1, k2, k3, k4, hat⟩ := tget H4.out htk
          have k1 := HK.out.ext.cell k1
          have k2 := HK.out.ext.cell k2
          have k3 := HK.out.ext.cell k3
          have k4 := HK.out.ext.cell k4
          have hlk : ks.length ≤ 1048576 := h3
          have HC := Lib.hid (fun w' (e' : Ext wr w') => IH.out j tk htk _ S w' (nb_kid HSH.out htk) (Tm.at_ext (HK.out.ext.trans e') hat))
          have HTS : Hid (ts ++ [shiftS q tk] = shiftSL q (ks.take (j + 1))) := Lib.hid (by rw [HT.out, shiftSL_snoc q htk])
          have hbw := block_lt_of_cell k1
          simp only at hbw
          clear htk hat hSb c0 c1 c2 f0 f1 f2 p0 p1 p2
          go_wp2_with fail
          go_region_law (first
            | (go_simp; go_at_call 95; refine (HC.out _ ?_).mono ?_; (first | exact Ext.refl _ | exact Ext.drew _); rintro e w1 ⟨a2, c2, rfl, hv1, e1⟩; (try replace e1 := Ext.undrew e1); have e2 := Lib.hid e1; have hv2 := Lib.hid (own_zone (F' := fun b => wr.heap.size ≤ b) hv1 (fun b hb => by simpa using hb)); have d3 := e2.out.cell c3; have d4 := e2.out.cell p3; have s1 := Below.size e2.out; have s2 := Nat.lt_of_lt_of_le sz s1; have s3 := Nat.lt_of_lt_of_le sp s1; clear e1 hv1; dsimp only)
            | (refine step_append_ow (w0 := wr) rfl (.tmp 30) (.tmp 38) 23 rfl (w.heap.size + 1 + 1 + 1) i0 Try.underlying23 HI.out HZ.out HZ1.out HZ2.out (.slice av ts.length cv) ts (shiftS q tk) a2 c2 (by rw [hlen]; rfl) (HK.out.app.ext e2.out) rfl hv2.out s1 hsz (by omega) rfl ?_; intro av2 cv2 w2 hA2 hf2; have K2 := Lib.hid (HK.out.next (by omega) (by omega) (by omega) (by omega) e2.out hA2 hf2); have P2 := Lib.hid (((HP.out.ext e2.out).fr hf2 (by omega)).fr (M := fun k => k = w.heap.size + 1 + 1) (Fr.setCell (i := 3) (u := .slice av2 (ts.length + 1) cv2) w2 rfl) (by omega)); have g3 := hf2.cell (k := w.heap.size + 1 + 1) (by omega) d3; have g5 := hf2.frozen (k := w.heap.size + 1 + 1) (by omega) (by omega) (e2.out.frozen sz f3); clear hA2 hf2))
          all_goals go_wp2_with fail
          all_goals
            go_roundw
            case rel => exact ⟨j + 1, av2, cv2, ts ++ [shiftS q tk], by omega, by simp, HTS, by rw [← hlen]; exact P2, by rw [← hlen]; exact K2⟩
            case measure => simp [intOf]; omega
        · have hjj : j = ks.length := by omega
          subst hjj
          have hts : ts = shiftSL q ks := by rw [HT.out, List.take_of_length_le (Nat.le_refl _)]
          subst hts
          obtain ⟨g0, g1, g2, g3, z0, z1, z2, z3⟩ := HK.out.res
          go_wp2_with fail
          refine ret4_set (p := 4) (T := 25) (b := w.heap.size + 1) (by kernel_rfl) (fun _ => by kernel_rfl) (fun _ => by kernel_rfl) rfl rfl g0 g1 g2 g3 ?_
          intro X hX
          have f : Fr (fun b => b = w.heap.size + 1) wr X := Fr.of_grown hX (fun k e => by cases e; rfl)
          rw [HF.out]
          have hA := HK.out.app
          refine ⟨av, cv, by rw [← hlen]; rfl, own_iff.2 ⟨hs1, ?_, hA.mono (fun b hb => by omega) f (fun b hb h => by omega)⟩, ((Fr.of_ext HK.out.ext).trans f).toExt (fun k hk h => by omega)⟩
          simp only [Tm.kids, shiftSL_len]
          exact h3
    · go_enter Try.func95, Try.ntmps95
      go_wp2_with fail
      go_loopw [6] (fun i wr => ∃ (j : Nat) (av : Option Addr) (cv : Nat) (ts : List Tm), j ≤ ks.length ∧ i = .int .i64 j ∧ Hid (ts = shiftSL q (ks.take j)) ∧
          Hid (BoxT wr (w.heap.size) (.int .i64 k) (.int .i64 n) (.string s) (.slice a ks.length cap)) ∧ Hid (KidO w (w.heap.size + 1 + 1) (w.heap.size + 1) (w.heap.size + 1 + 1 + 1) ts (.int .i64 k) (.int .i64 n) (.string s) av cv wr)) (fun i _ => ks.length - (intOf i).toNat)
      case atStart =>
        refine ⟨0, none, 0, [], Nat.zero_le _, rfl, Lib.hid rfl, Lib.hid ?_, Lib.hid ⟨OwnS.nil _ _, ((Ext.alloc _ _).trans (Ext.alloc _ _)).trans (Ext.alloc _ _), ?_, ?_⟩⟩
        · exact ((BoxT.new w (.int .i64 k) (.int .i64 n) (.string s) (.slice a ks.length cap) 25 rfl).ext (Ext.alloc _ _)).ext (Ext.alloc _ _)
        · exact BoxT.new ((w.alloc (.cells #[.int .i64 k, .int .i64 n, .string s, .slice a ks.length cap] 25)).alloc (.cells #[.int .i64 0, .int .i64 0, .string ⟨#[]⟩, .slice none 0 0] 25)) (.int .i64 k) (.int .i64 n) (.string s) (.slice none 0 0) 25 (by simp)
        · exact (BoxT.new (w.alloc (.cells #[.int .i64 k, .int .i64 n, .string s, .slice a ks.length cap] 25)) (.int .i64 0) (.int .i64 0) (.string ⟨#[]⟩) (.slice none 0 0) 25 (by simp)).ext (Ext.alloc _ _)
      case round =>
        obtain ⟨j, av, cv, ts, hj, rfl, HT, HP, HK⟩ := hrel
        have hlen : ts.length = j := by rw [HT.out, shiftSL_len]; simp; omega
        obtain ⟨c0, c1, c2, c3, f0, f1, f2, f3⟩ := HK.out.box
        obtain ⟨p0, p1, p2, p3, _, _, _, _⟩ := HP.out
        have hsz : w.heap.size + 1 + 1 + 1 ≤ wr.heap.size := HK.out.box.lt
        have sz : w.heap.size + 1 + 1 < wr.heap.size := HK.out.box.lt
        have sp : w.heap.size < wr.heap.size := HP.out.lt
        rw [hlen] at c3
        by_cases hlt : j < ks.length
        · obtain ⟨tk, htk⟩ := getk hlt
          obtain ⟨b, off, a1, c1', rfl, hSb, k1, k2, k3, k4, hat⟩ := tget H4.out htk
          have k1 := HK.out.ext.cell k1
          have k2 := HK.out.ext.cell k2
          have k3 := HK.out.ext.cell k3
          have k4 := HK.out.ext.cell k4
          have hlk : ks.length ≤ 1048576 := h3
          have HC := Lib.hid (fun w' (e' : Ext wr w') => IH.out j tk htk _ S w' (nb_kid HSH.out htk) (Tm.at_ext (HK.out.ext.trans e') hat))
          have HTS : Hid (ts ++ [shiftS q tk] = shiftSL q (ks.take (j + 1))) := Lib.hid (by rw [HT.out, shiftSL_snoc q htk])
          have hbw := block_lt_of_cell k1
          simp only at hbw
          clear htk hat hSb c0 c1 c2 f0 f1 f2 p0 p1 p2
          go_wp2_with fail
          go_region_law (first
            | (go_simp; go_at_call 95; refine (HC.out _ ?_).mono ?_; (first | exact Ext.refl _ | exact Ext.drew _); rintro e w1 ⟨a2, c2, rfl, hv1, e1⟩; (try replace e1 := Ext.undrew e1); have e2 := Lib.hid e1; have hv2 := Lib.hid (own_zone (F' := fun b => wr.heap.size ≤ b) hv1 (fun b hb => by simpa using hb)); have d3 := e2.out.cell c3; have d4 := e2.out.cell p3; have s1 := Below.size e2.out; have s2 := Nat.lt_of_lt_of_le sz s1; have s3 := Nat.lt_of_lt_of_le sp s1; clear e1 hv1; dsimp only)
            | (refine step_append_ow (w0 := wr) rfl (.tmp 30) (.tmp 38) 23 rfl (w.heap.size + 1 + 1 + 1) i0 Try.underlying23 HI.out HZ.out HZ1.out HZ2.out (.slice av ts.length cv) ts (shiftS q tk) a2 c2 (by rw [hlen]; rfl) (HK.out.app.ext e2.out) rfl hv2.out s1 hsz (by omega) rfl ?_; intro av2 cv2 w2 hA2 hf2; have K2 := Lib.hid (HK.out.next (by omega) (by omega) (by omega) (by omega) e2.out hA2 hf2); have P2 := Lib.hid (((HP.out.ext e2.out).fr hf2 (by omega)).fr (M := fun k => k = w.heap.size + 1 + 1) (Fr.setCell (i := 3) (u := .slice av2 (ts.length + 1) cv2) w2 rfl) (by omega)); have g3 := hf2.cell (k := w.heap.size + 1 + 1) (by omega) d3; have g5 := hf2.frozen (k := w.heap.size + 1 + 1) (by omega) (by omega) (e2.out.frozen sz f3); clear hA2 hf2))
          all_goals go_wp2_with fail
          all_goals
            go_roundw
            case rel => exact ⟨j + 1, av2, cv2, ts ++ [shiftS q tk], by omega, by simp, HTS, by rw [← hlen]; exact P2, by rw [← hlen]; exact K2⟩
            case measure => simp [intOf]; omega
        · have hjj : j = ks.length := by omega
          subst hjj
          have hts : ts = shiftSL q ks := by rw [HT.out, List.take_of_length_le (Nat.le_refl _)]
          subst hts
          obtain ⟨g0, g1, g2, g3, z0, z1, z2, z3⟩ := HK.out.res
          go_wp2_with fail
          refine ret4_set (p := 4) (T := 25) (b := w.heap.size + 1) (by kernel_rfl) (fun _ => by kernel_rfl) (fun _ => by kernel_rfl) rfl rfl g0 g1 g2 g3 ?_
          intro X hX
          have f : Fr (fun b => b = w.heap.size + 1) wr X := Fr.of_grown hX (fun k e => by cases e; rfl)
          rw [HF.out]
          have hA := HK.out.app
          refine ⟨av, cv, by rw [← hlen]; rfl, own_iff.2 ⟨hs1, ?_, hA.mono (fun b hb => by omega) f (fun b hb h => by omega)⟩, ((Fr.of_ext HK.out.ext).trans f).toExt (fun k hk h => by omega)⟩
          simp only [Tm.kids, shiftSL_len]
          exact h3

end Go.Proofs.Ytdelhgodhkbjdaa

/-
  Replacing variables keeps variables' numbers small.
-/
namespace Go.Proofs.Ytdelhgodhkbjdaa
open Go.RowKit
set_option linter.unusedVariables false

theorem find_mem {n : Int} : ∀ {bs : List Bd} {x : Tm}, findF n bs = some x → ∃ b ∈ bs, b.t = x
  | [], x, h => by simp [findF] at h
  | b :: bs, x, h => by
    simp only [findF] at h
    split at h
    · exact ⟨b, by simp, by simpa using h⟩
    · obtain ⟨c, hc, e⟩ := find_mem h
      exact ⟨c, by simp [hc], e⟩
mutual
theorem nb_apply {bs : List Bd} (hb : ∀ b ∈ bs, NB b.t) : ∀ t : Tm, NB t → NB (applyS bs t)
  | .mk k n s ks, h => by
    simp only [applyS]
    split
    · rename_i hc
      obtain ⟨x, hx⟩ := Option.isSome_iff_exists.1 hc.2
      obtain ⟨b, hm, rfl⟩ := find_mem hx
      rw [hx]
      exact hb b hm
    · exact ⟨h.1, nbl_apply hb ks h.2⟩
theorem nbl_apply {bs : List Bd} (hb : ∀ b ∈ bs, NB b.t) : ∀ ts : List Tm, NBL ts → NBL (applySL bs ts)
  | [], _ => trivial
  | t :: ts, h => ⟨nb_apply hb t h.1, nbl_apply hb ts h.2⟩
end

end Go.Proofs.Ytdelhgodhkbjdaa

/-
  The reference's l1Copy: the copy shares nothing.
-/
namespace Go.Proofs.Ytdelhgodhkbjdaa
open Go.RowKit
set_option linter.unusedVariables false

def CopyO (t : Tm) : Prop := ∀ (v : Value) (S : Nat → Prop) (w : World), Tm.at S w t v → Calls Try.prog 68 #[v] w (TmO (cp1 t) w)
set_option maxRecDepth 100000 in
set_option maxHeartbeats 4000000 in
theorem specl1CopyO' : ∀ (m : Nat) (t : Tm), Tm.sz t ≤ m → CopyO t := by
  intro m
  induction m with
  | zero => intro t hm; have := Tm.sz_pos t; omega
  | succ m ih =>
    intro t hm v S w ht
    obtain ⟨k, n, s, ks⟩ := t
    have IH := Lib.hid (show ∀ (j : Nat) (u : Tm), ks[j]? = some u → CopyO u from fun j u h => ih u (by
      have := kid_lt (k := k) (n := n) (s := s) (ks := ks) h; omega))
    clear ih hm
    obtain ⟨i0, hi, hz0, hz1, hz2⟩ := info_parts info_term3
    obtain ⟨hs1, sv, rfl, a, cap, rfl, h1, h2, h3, h4⟩ := ht
    have H4 := Lib.hid h4
    have HI := Lib.hid hi
    have HZ := Lib.hid hz0
    have HZ1 := Lib.hid hz1
    have HZ2 := Lib.hid hz2
    have HF : Hid (cp1 (.mk k n s ks) = .mk k n s (cpL ks)) := Lib.hid rfl
    clear h4 hi hz0 hz1 hz2
    go_enter Try.func68, Try.ntmps68
    go_wp2_with fail
    go_loopw [4] (fun i wr => ∃ (j : Nat) (av : Option Addr) (cv : Nat) (ts : List Tm), j ≤ ks.length ∧ i = .int .i64 j ∧ Hid (ts = cpL (ks.take j)) ∧
        Hid (BoxT wr (w.heap.size) (.int .i64 k) (.int .i64 n) (.string s) (.slice a ks.length cap)) ∧ Hid (KidO w (w.heap.size + 1 + 1) (w.heap.size + 1) (w.heap.size + 1 + 1 + 1) ts (.int .i64 k) (.int .i64 n) (.string s) av cv wr)) (fun i _ => ks.length - (intOf i).toNat)
    case atStart =>
      refine ⟨0, none, 0, [], Nat.zero_le _, rfl, Lib.hid rfl, Lib.hid ?_, Lib.hid ⟨OwnS.nil _ _, ((Ext.alloc _ _).trans (Ext.alloc _ _)).trans (Ext.alloc _ _), ?_, ?_⟩⟩
      · exact ((BoxT.new w (.int .i64 k) (.int .i64 n) (.string s) (.slice a ks.length cap) 25 rfl).ext (Ext.alloc _ _)).ext (Ext.alloc _ _)
      · exact BoxT.new ((w.alloc (.cells #[.int .i64 k, .int .i64 n, .string s, .slice a ks.length cap] 25)).alloc (.cells #[.int .i64 0, .int .i64 0, .string ⟨#[]⟩, .slice none 0 0] 25)) (.int .i64 k) (.int .i64 n) (.string s) (.slice none 0 0) 25 (by simp)
      · exact (BoxT.new (w.alloc (.cells #[.int .i64 k, .int .i64 n, .string s, .slice a ks.length cap] 25)) (.int .i64 0) (.int .i64 0) (.string ⟨#[]⟩) (.slice none 0 0) 25 (by simp)).ext (Ext.alloc _ _)
    case round =>
      obtain ⟨j, av, cv, ts, hj, rfl, HT, HP, HK⟩ := hrel
      have hlen : ts.length = j := by rw [HT.out, cpL_len]; simp; omega
      obtain ⟨c0, c1, c2, c3, f0, f1, f2, f3⟩ := HK.out.box
      obtain ⟨p0, p1, p2, p3, _, _, _, _⟩ := HP.out
      have hsz : w.heap.size + 1 + 1 + 1 ≤ wr.heap.size := HK.out.box.lt
      have sz : w.heap.size + 1 + 1 < wr.heap.size := HK.out.box.lt
      have sp : w.heap.size < wr.heap.size := HP.out.lt
      rw [hlen] at c3
      by_cases hlt : j < ks.length
      · obtain ⟨tk, htk⟩ := getk hlt
        obtain ⟨b, off, a1, c1', rfl, hSb, k1, k2, k3, k4, hat⟩ := tget H4.out htk
        have k1 := HK.out.ext.cell k1
        have k2 := HK.out.ext.cell k2
        have k3 := HK.out.ext.cell k3
        have k4 := HK.out.ext.cell k4
        have hlk : ks.length ≤ 1048576 := h3
        have HC := Lib.hid (fun w' (e' : Ext wr w') => IH.out j tk htk _ S w' (Tm.at_ext (HK.out.ext.trans e') hat))
        have HTS : Hid (ts ++ [cp1 tk] = cpL (ks.take (j + 1))) := Lib.hid (by rw [HT.out, cpL_snoc htk])
        have hbw := block_lt_of_cell k1
        simp only at hbw
        clear htk hat hSb c0 c1 c2 f0 f1 f2 p0 p1 p2
        go_wp2_with fail
        go_region_law (first
          | (go_simp; go_at_call 68; refine (HC.out _ ?_).mono ?_; (first | exact Ext.refl _ | exact Ext.drew _); rintro e w1 ⟨a2, c2, rfl, hv1, e1⟩; (try replace e1 := Ext.undrew e1); have e2 := Lib.hid e1; have hv2 := Lib.hid (own_zone (F' := fun b => wr.heap.size ≤ b) hv1 (fun b hb => by simpa using hb)); have d3 := e2.out.cell c3; have d4 := e2.out.cell p3; have s1 := Below.size e2.out; have s2 := Nat.lt_of_lt_of_le sz s1; have s3 := Nat.lt_of_lt_of_le sp s1; clear e1 hv1; dsimp only)
          | (refine step_append_ow (w0 := wr) rfl (.tmp 20) (.tmp 27) 23 rfl (w.heap.size + 1 + 1 + 1) i0 Try.underlying23 HI.out HZ.out HZ1.out HZ2.out (.slice av ts.length cv) ts (cp1 tk) a2 c2 (by rw [hlen]; rfl) (HK.out.app.ext e2.out) rfl hv2.out s1 hsz (by omega) rfl ?_; intro av2 cv2 w2 hA2 hf2; have K2 := Lib.hid (HK.out.next (by omega) (by omega) (by omega) (by omega) e2.out hA2 hf2); have P2 := Lib.hid (((HP.out.ext e2.out).fr hf2 (by omega)).fr (M := fun k => k = w.heap.size + 1 + 1) (Fr.setCell (i := 3) (u := .slice av2 (ts.length + 1) cv2) w2 rfl) (by omega)); have g3 := hf2.cell (k := w.heap.size + 1 + 1) (by omega) d3; have g5 := hf2.frozen (k := w.heap.size + 1 + 1) (by omega) (by omega) (e2.out.frozen sz f3); clear hA2 hf2))
        all_goals go_wp2_with fail
        all_goals
          go_roundw
          case rel => exact ⟨j + 1, av2, cv2, ts ++ [cp1 tk], by omega, by simp, HTS, by rw [← hlen]; exact P2, by rw [← hlen]; exact K2⟩
          case measure => simp [intOf]; omega
      · have hjj : j = ks.length := by omega
        subst hjj
        have hts : ts = cpL ks := by rw [HT.out, List.take_of_length_le (Nat.le_refl _)]
        subst hts
        obtain ⟨g0, g1, g2, g3, z0, z1, z2, z3⟩ := HK.out.res
        go_wp2_with fail
        refine ret4_set (p := 2) (T := 25) (b := w.heap.size + 1) (by kernel_rfl) (fun _ => by kernel_rfl) (fun _ => by kernel_rfl) rfl rfl g0 g1 g2 g3 ?_
        intro X hX
        have f : Fr (fun b => b = w.heap.size + 1) wr X := Fr.of_grown hX (fun k e => by cases e; rfl)
        rw [HF.out]
        have hA := HK.out.app
        refine ⟨av, cv, rfl, own_iff.2 ⟨hs1, ?_, hA.mono (fun b hb => by omega) f (fun b hb h => by omega)⟩, ((Fr.of_ext HK.out.ext).trans f).toExt (fun k hk h => by omega)⟩
        simp only [Tm.kids, cpL_len]
        exact h3
theorem specl1CopyO (t : Tm) (v : Value) (S : Nat → Prop) (w : World) (ht : Tm.at S w t v) : Calls Try.prog 68 #[v] w (TmO t w) := specl1CopyO' _ t (Nat.le_refl _) v S w ht

end Go.Proofs.Ytdelhgodhkbjdaa
