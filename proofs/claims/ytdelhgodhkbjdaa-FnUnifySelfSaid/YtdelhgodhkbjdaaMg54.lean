/-
  The reference's l3Find and l3Apply.
-/
import Derived.Test.YtdelhgodhkbjdaaMg53
namespace Go.Proofs.Ytdelhgodhkbjdaa
open Go.RowKit
set_option linter.unusedVariables false

/-- what l3Find answers -/
def FindOut (r : Option Tm) (w : World) (e : Ending) (w' : World) : Prop :=
  (∃ x a c, r = some x ∧ e = .returned (.tuple #[.agg #[.int .i64 x.kind, .int .i64 x.n, .string x.name, .slice a x.kids.length c], .bool true]) ∧ Tm.at (fun _ => True) w' x (.agg #[.int .i64 x.kind, .int .i64 x.n, .string x.name, .slice a x.kids.length c]) ∧ Ext w w') ∨
  (r = none ∧ e = .returned (.tuple #[.agg #[.int .i64 0, .int .i64 0, .string ⟨#[]⟩, .slice none 0 0], .bool false]) ∧ Ext w w')
set_option maxHeartbeats 1000000 in
theorem specl3Find (bs : List Bd) (n : Int) (v : Value) (S : Nat → Prop) (w : World) (hb : Bd.sl S w bs v) : Calls Try.prog 111 #[v, .int .i64 n] w (FindOut (findF n bs) w) := by
  obtain ⟨a, cap, rfl, h1, h2, h3, h4⟩ := hb
  have H4 := Lib.hid h4
  clear h4
  go_enter Try.func111, Try.ntmps111
  go_wp2_with fail
  go_loopw [6] (fun i wr => ∃ k : Nat, k ≤ bs.length ∧ i = .int .i64 k ∧ Hid (∀ (j : Nat) (x : Bd), j < k → bs[j]? = some x → x.n ≠ n) ∧ Ext w wr ∧ Hid (BoxT wr w.heap.size (.int .i64 0) (.int .i64 0) (.string ⟨#[]⟩) (.slice none 0 0))) (fun i _ => bs.length - (intOf i).toNat)
  case atStart => exact ⟨0, Nat.zero_le _, rfl, fun j x h => absurd h (by omega), Ext.alloc _ _, Lib.hid (BoxT.new w _ _ _ _ 25 rfl)⟩
  case round =>
    obtain ⟨k, hk, rfl, HN, he, HB⟩ := hrel
    obtain ⟨b0, b1, b2, b3, z0, z1, z2, z3⟩ := HB.out
    by_cases hlt : k < bs.length
    · obtain ⟨x, hx⟩ := bgetk hlt
      obtain ⟨b, off, ak, ck, rfl, c0, c1, c2, c3, c4, hat⟩ := Bd.get H4.out hx he
      have HX := Lib.hid hx
      have V := Lib.hid (Tm.at_bound hat)
      clear hx hat
      by_cases hn : x.n = n
      · have HF := Lib.hid (find_at HX.out hn HN.out)
        have hb : (x.n == n) = true := by simpa using hn
        clear hn
        go_wp2_with fail
        refine ret4b_set (p := 4) (q := 5) (T := 25) (b := w.heap.size) (by kernel_rfl) (fun _ => by kernel_rfl) (fun _ => by kernel_rfl) rfl rfl rfl HB.out ?_
        intro X hX
        have f : Fr (fun k => k = w.heap.size) w X := (Fr.of_ext he).trans hX
        exact .inl ⟨x.t, ak, ck, HF.out, rfl, Tm.at_mono (fun _ _ => trivial) (f.agree (S := fun b => S b ∧ b < w.heap.size) (fun k hk h => by have := hk.2; omega)) V.out, f.toExt (fun k hk h => by omega)⟩
      · have hb : (x.n == n) = false := by simpa using hn
        have HN2 : Hid (∀ (j : Nat) (y : Bd), j < k + 1 → bs[j]? = some y → y.n ≠ n) := Lib.hid (fun j y hj hy => by
          by_cases e : j = k
          · subst e; rw [HX.out] at hy; cases hy; exact hn
          · exact HN.out j y (by omega) hy)
        clear hn
        go_wp2_with fail
        go_roundw
        case rel => exact ⟨k + 1, by omega, by go_num, HN2, he, HB⟩
        case measure => simp [intOf]; omega
    · have HF : Hid (findF n bs = none) := Lib.hid (find_none (fun j x hj => HN.out j x (by have := (List.getElem?_eq_some_iff.1 hj).1; omega) hj))
      go_wp2_with fail
      refine ret4b_set (p := 4) (q := 5) (T := 25) (b := w.heap.size) (by kernel_rfl) (fun _ => by kernel_rfl) (fun _ => by kernel_rfl) rfl rfl rfl HB.out ?_
      intro X hX
      exact .inr ⟨HF.out, rfl, ((Fr.of_ext he).trans hX).toExt (fun k hk h => by omega)⟩

def ApC (bs : List Bd) (t : Tm) : Prop := ∀ (v bv : Value) (S S' : Nat → Prop) (w : World), Tm.at S w t v → Bd.sl S' w bs bv → Calls Try.prog 94 #[v, bv] w (TmO (applyS bs t) w)
set_option maxRecDepth 100000 in
set_option maxHeartbeats 4000000 in
theorem specl3Apply (bs : List Bd) : ∀ (m : Nat) (t : Tm), Tm.sz t ≤ m → ApC bs t := by
  intro m
  induction m with
  | zero => intro t hm; have := Tm.sz_pos t; omega
  | succ m ih =>
    intro t hm v bv S S' w ht hbs
    obtain ⟨k, n, s, ks⟩ := t
    have IH := Lib.hid (show ∀ (j : Nat) (u : Tm), ks[j]? = some u → ApC bs u from fun j u h => ih u (by
      have := kid_lt (k := k) (n := n) (s := s) (ks := ks) h; omega))
    clear ih hm
    obtain ⟨i0, hi, hz0, hz1, hz2⟩ := info_parts info_term3
    obtain ⟨hs1, sv, rfl, a, cap, rfl, h1, h2, h3, h4⟩ := ht
    have H4 := Lib.hid h4
    have HI := Lib.hid hi
    have HZ := Lib.hid hz0
    have HZ1 := Lib.hid hz1
    have HZ2 := Lib.hid hz2
    have HBS := Lib.hid hbs
    obtain ⟨ba, bc, rfl, _⟩ := hbs
    clear h4 hi hz0 hz1 hz2
    by_cases hk : k = 1
    · subst hk
      go_enter Try.func94, Try.ntmps94
      go_wp2_with fail
      refine (specl3Find bs n _ S' _ (Bd.sl_ext ((Ext.alloc _ _).trans (Ext.alloc _ _)) HBS.out)).mono ?_
      rintro e wf (⟨x, ax, cx, hf, rfl, hat, q⟩ | ⟨hf, rfl, q⟩)
      · have HF : Hid (applyS bs (.mk 1 n s ks) = x) := Lib.hid (by simp only [applyS, hf]; simp)
        have HR := Lib.hid ((BoxT.new (w.alloc (.cells #[.int .i64 1, .int .i64 n, .string s, .slice a ks.length cap] 25)) (.int .i64 0) (.int .i64 0) (.string ⟨#[]⟩) (.slice none 0 0) 25 (b := w.heap.size + 1) (by simp)).ext q)
        have E := Lib.hid (((Ext.alloc _ _).trans (Ext.alloc _ _)).trans q)
        have hsz := HR.out.lt
        have V := Lib.hid hat
        clear hf q hat
        go_wp2_with fail
        refine (specl1CopyO x _ _ _ (Tm.at_ext (Ext.alloc _ _) V.out)).mono ?_
        rintro e w2 ⟨a2, c2, rfl, ho, q⟩
        have HRR := HR.out.ext ((Ext.alloc _ _).trans q)
        obtain ⟨r0, r1, r2, r3, z0, z1, z2, z3⟩ := HRR
        have O := Lib.hid ho
        have E2 := Lib.hid (E.out.trans ((Ext.alloc _ _).trans q))
        have hs2 : wf.heap.size + 1 ≤ w2.heap.size := by have := Below.size q; simpa using this
        clear ho q
        go_wp2_with fail
        refine ret4_set (p := 4) (T := 25) (b := w.heap.size + 1) (by kernel_rfl) (fun _ => by kernel_rfl) (fun _ => by kernel_rfl) rfl rfl r0 r1 r2 r3 ?_
        intro X hX
        have f : Fr (fun b => b = w.heap.size + 1) w2 X := Fr.of_grown hX (fun k e => by cases e; rfl)
        rw [HF.out]
        refine ⟨_, _, rfl, own_mono (fun b hb => ?_) f (fun b hb h => ?_) _ _ O.out, ((Fr.of_ext E2.out).trans f).toExt (fun k hk h => by omega)⟩
        · (try simp at hb); omega
        · (try simp at hb); omega
      · have HF : Hid (applyS bs (.mk 1 n s ks) = .mk 1 n s (applySL bs ks)) := Lib.hid (by simp only [applyS, hf]; simp)
        obtain ⟨w0, hw0⟩ : ∃ x, x = wf.alloc (.cells #[.int .i64 0, .int .i64 0, .string ⟨#[]⟩, .slice none 0 0] 25) := ⟨_, rfl⟩
        have HP := Lib.hid ((((BoxT.new w (.int .i64 1) (.int .i64 n) (.string s) (.slice a ks.length cap) 25 rfl).ext (Ext.alloc _ _)).ext q).ext (Ext.alloc wf (.cells #[.int .i64 0, .int .i64 0, .string ⟨#[]⟩, .slice none 0 0] 25)))
        have HR := Lib.hid (((BoxT.new (w.alloc (.cells #[.int .i64 1, .int .i64 n, .string s, .slice a ks.length cap] 25)) (.int .i64 0) (.int .i64 0) (.string ⟨#[]⟩) (.slice none 0 0) 25 (b := w.heap.size + 1) (by simp)).ext q).ext (Ext.alloc wf (.cells #[.int .i64 0, .int .i64 0, .string ⟨#[]⟩, .slice none 0 0] 25)))
        have E := Lib.hid ((((Ext.alloc _ _).trans (Ext.alloc _ _)).trans q).trans (Ext.alloc wf (.cells #[.int .i64 0, .int .i64 0, .string ⟨#[]⟩, .slice none 0 0] 25)))
        have hw2 : w.heap.size + 2 ≤ wf.heap.size := by have := Below.size q; simpa using this
        obtain ⟨p0, p1, p2, p3, _, _, _, _⟩ := ((BoxT.new w (.int .i64 1) (.int .i64 n) (.string s) (.slice a ks.length cap) 25 rfl).ext (Ext.alloc _ _)).ext q
        have lw1 : w.heap.size < wf.heap.size := by omega
        have lw2 : w.heap.size + 1 < wf.heap.size := by omega
        clear hf q hw0
        go_wp2_with fail
        go_loopw [8] (fun i wr => ∃ (j : Nat) (av : Option Addr) (cv : Nat) (ts : List Tm), j ≤ ks.length ∧ i = .int .i64 j ∧ Hid (ts = applySL bs (ks.take j)) ∧
            Hid (BoxT wr (w.heap.size) (.int .i64 1) (.int .i64 n) (.string s) (.slice a ks.length cap)) ∧ Hid (KidO w (wf.heap.size + 1) (w.heap.size + 1) (wf.heap.size + 1 + 1) ts (.int .i64 1) (.int .i64 n) (.string s) av cv wr)) (fun i _ => ks.length - (intOf i).toNat)
        case atStart => exact ⟨0, none, 0, [], Nat.zero_le _, rfl, Lib.hid rfl, Lib.hid (HP.out.ext (Ext.alloc _ _)), Lib.hid ⟨OwnS.nil _ _, E.out.trans (Ext.alloc _ _), BoxT.new _ (.int .i64 1) (.int .i64 n) (.string s) (.slice none 0 0) 25 (by simp), HR.out.ext (Ext.alloc _ _)⟩⟩
        case round =>
          obtain ⟨j, av, cv, ts, hj, rfl, HT, HP, HK⟩ := hrel
          have hlen : ts.length = j := by rw [HT.out, applySL_len]; simp; omega
          obtain ⟨c0, c1, c2, c3, f0, f1, f2, f3⟩ := HK.out.box
          obtain ⟨p0, p1, p2, p3, _, _, _, _⟩ := HP.out
          have hsz : wf.heap.size + 1 + 1 ≤ wr.heap.size := HK.out.box.lt
          have sz : wf.heap.size + 1 < wr.heap.size := HK.out.box.lt
          have sp : w.heap.size < wr.heap.size := HP.out.lt
          rw [hlen] at c3
          by_cases hlt : j < ks.length
          · obtain ⟨tk, htk⟩ := getk hlt
            obtain ⟨b, off, a1, c1', rfl, hSb, k1, k2, k3, k4, hat⟩ := tget H4.out htk
            have k1 := HK.out.ext.cell k1
            have k2 := HK.out.ext.cell k2
            have k3 := HK.out.ext.cell k3
            have k4 := HK.out.ext.cell k4
            have hlk : ks.length ≤ 1048576 := h3
            have HC := Lib.hid (fun w' (e' : Ext wr w') => IH.out j tk htk _ _ S S' w' (Tm.at_ext (HK.out.ext.trans e') hat) (Bd.sl_ext (HK.out.ext.trans e') HBS.out))
            have HTS : Hid (ts ++ [applyS bs tk] = applySL bs (ks.take (j + 1))) := Lib.hid (by rw [HT.out, applySL_snoc bs htk])
            have hbw := block_lt_of_cell k1
            simp only at hbw
            clear htk hat hSb c0 c1 c2 f0 f1 f2 p0 p1 p2
            go_wp2_with fail
            go_region_law (first
              | (go_simp; go_at_call 94; refine (HC.out _ ?_).mono ?_; (first | exact Ext.refl _ | exact Ext.drew _); rintro e w1 ⟨a2, c2, rfl, hv1, e1⟩; (try replace e1 := Ext.undrew e1); have e2 := Lib.hid e1; have hv2 := Lib.hid (own_zone (F' := fun b => wr.heap.size ≤ b) hv1 (fun b hb => by simpa using hb)); have d3 := e2.out.cell c3; have d4 := e2.out.cell p3; have s1 := Below.size e2.out; have s2 := Nat.lt_of_lt_of_le sz s1; have s3 := Nat.lt_of_lt_of_le sp s1; clear e1 hv1; dsimp only)
              | (refine step_append_ow (w0 := wr) rfl (.tmp 37) (.tmp 45) 23 rfl (wf.heap.size + 1 + 1) i0 Try.underlying23 HI.out HZ.out HZ1.out HZ2.out (.slice av ts.length cv) ts (applyS bs tk) a2 c2 (by rw [hlen]; rfl) (HK.out.app.ext e2.out) rfl hv2.out s1 hsz (by omega) rfl ?_; intro av2 cv2 w2 hA2 hf2; have K2 := Lib.hid (HK.out.next (by omega) (by omega) (by omega) (by omega) e2.out hA2 hf2); have P2 := Lib.hid (((HP.out.ext e2.out).fr hf2 (by omega)).fr (M := fun k => k = wf.heap.size + 1) (Fr.setCell (i := 3) (u := .slice av2 (ts.length + 1) cv2) w2 rfl) (by omega)); have g3 := hf2.cell (k := wf.heap.size + 1) (by omega) d3; have g5 := hf2.frozen (k := wf.heap.size + 1) (by omega) (by omega) (e2.out.frozen sz f3); clear hA2 hf2))
            all_goals go_wp2_with fail
            all_goals
              go_roundw
              case rel => exact ⟨j + 1, av2, cv2, ts ++ [applyS bs tk], by omega, by simp, HTS, by rw [← hlen]; exact P2, by rw [← hlen]; exact K2⟩
              case measure => simp [intOf]; omega
          · have hjj : j = ks.length := by omega
            subst hjj
            have hts : ts = applySL bs ks := by rw [HT.out, List.take_of_length_le (Nat.le_refl _)]
            subst hts
            obtain ⟨g0, g1, g2, g3, z0, z1, z2, z3⟩ := HK.out.res
            go_wp2_with fail
            refine ret4_set (p := 4) (T := 25) (b := w.heap.size + 1) (by kernel_rfl) (fun _ => by kernel_rfl) (fun _ => by kernel_rfl) rfl rfl g0 g1 g2 g3 ?_
            intro X hX
            have f : Fr (fun b => b = w.heap.size + 1) wr X := Fr.of_grown hX (fun k e => by cases e; rfl)
            rw [HF.out]
            have hA := HK.out.app
            refine ⟨av, cv, by rw [← hlen]; rfl, own_iff.2 ⟨hs1, ?_, hA.mono (fun b hb => by omega) f (fun b hb h => by omega)⟩, ((Fr.of_ext HK.out.ext).trans f).toExt (fun k hk h => by omega)⟩
            simp only [Tm.kids, applySL_len]
            exact h3
    · have hkb : (k == 1) = false := by simpa using hk
      have HF : Hid (applyS bs (.mk k n s ks) = .mk k n s (applySL bs ks)) := Lib.hid (by simp only [applyS, hk]; simp)
      clear hk
      go_enter Try.func94, Try.ntmps94
      go_wp2_with fail
      go_loopw [8] (fun i wr => ∃ (j : Nat) (av : Option Addr) (cv : Nat) (ts : List Tm), j ≤ ks.length ∧ i = .int .i64 j ∧ Hid (ts = applySL bs (ks.take j)) ∧
          Hid (BoxT wr (w.heap.size) (.int .i64 k) (.int .i64 n) (.string s) (.slice a ks.length cap)) ∧ Hid (KidO w (w.heap.size + 1 + 1) (w.heap.size + 1) (w.heap.size + 1 + 1 + 1) ts (.int .i64 k) (.int .i64 n) (.string s) av cv wr)) (fun i _ => ks.length - (intOf i).toNat)
      case atStart =>
        refine ⟨0, none, 0, [], Nat.zero_le _, rfl, Lib.hid rfl, Lib.hid ?_, Lib.hid ⟨OwnS.nil _ _, ((Ext.alloc _ _).trans (Ext.alloc _ _)).trans (Ext.alloc _ _), ?_, ?_⟩⟩
        · exact ((BoxT.new w (.int .i64 k) (.int .i64 n) (.string s) (.slice a ks.length cap) 25 rfl).ext (Ext.alloc _ _)).ext (Ext.alloc _ _)
        · exact BoxT.new ((w.alloc (.cells #[.int .i64 k, .int .i64 n, .string s, .slice a ks.length cap] 25)).alloc (.cells #[.int .i64 0, .int .i64 0, .string ⟨#[]⟩, .slice none 0 0] 25)) (.int .i64 k) (.int .i64 n) (.string s) (.slice none 0 0) 25 (by simp)
        · exact (BoxT.new (w.alloc (.cells #[.int .i64 k, .int .i64 n, .string s, .slice a ks.length cap] 25)) (.int .i64 0) (.int .i64 0) (.string ⟨#[]⟩) (.slice none 0 0) 25 (by simp)).ext (Ext.alloc _ _)
      case round =>
        obtain ⟨j, av, cv, ts, hj, rfl, HT, HP, HK⟩ := hrel
        have hlen : ts.length = j := by rw [HT.out, applySL_len]; simp; omega
        obtain ⟨c0, c1, c2, c3, f0, f1, f2, f3⟩ := HK.out.box
        obtain ⟨p0, p1, p2, p3, _, _, _, _⟩ := HP.out
        have hsz : w.heap.size + 1 + 1 + 1 ≤ wr.heap.size := HK.out.box.lt
        have sz : w.heap.size + 1 + 1 < wr.heap.size := HK.out.box.lt
        have sp : w.heap.size < wr.heap.size := HP.out.lt
        rw [hlen] at c3
        by_cases hlt : j < ks.length
        · obtain ⟨tk, htk⟩ := getk hlt
          obtain ⟨b, off, a1, c1', rfl, hSb, k1, k2, k3, k4, hat⟩ := tget H4.out htk
          have k1 := HK.out.ext.cell k1
          have k2 := HK.out.ext.cell k2
          have k3 := HK.out.ext.cell k3
          have k4 := HK.out.ext.cell k4
          have hlk : ks.length ≤ 1048576 := h3
          have HC := Lib.hid (fun w' (e' : Ext wr w') => IH.out j tk htk _ _ S S' w' (Tm.at_ext (HK.out.ext.trans e') hat) (Bd.sl_ext (HK.out.ext.trans e') HBS.out))
          have HTS : Hid (ts ++ [applyS bs tk] = applySL bs (ks.take (j + 1))) := Lib.hid (by rw [HT.out, applySL_snoc bs htk])
          have hbw := block_lt_of_cell k1
          simp only at hbw
          clear htk hat hSb c0 c1 c2 f0 f1 f2 p0 p1 p2
          go_wp2_with fail
          go_region_law (first
            | (go_simp; go_at_call 94; refine (HC.out _ ?_).mono ?_; (first | exact Ext.refl _ | exact Ext.drew _); rintro e w1 ⟨a2, c2, rfl, hv1, e1⟩; (try replace e1 := Ext.undrew e1); have e2 := Lib.hid e1; have hv2 := Lib.hid (own_zone (F' := fun b => wr.heap.size ≤ b) hv1 (fun b hb => by simpa using hb)); have d3 := e2.out.cell c3; have d4 := e2.out.cell p3; have s1 := Below.size e2.out; have s2 := Nat.lt_of_lt_of_le sz s1; have s3 := Nat.lt_of_lt_of_le sp s1; clear e1 hv1; dsimp only)
            | (refine step_append_ow (w0 := wr) rfl (.tmp 37) (.tmp 45) 23 rfl (w.heap.size + 1 + 1 + 1) i0 Try.underlying23 HI.out HZ.out HZ1.out HZ2.out (.slice av ts.length cv) ts (applyS bs tk) a2 c2 (by rw [hlen]; rfl) (HK.out.app.ext e2.out) rfl hv2.out s1 hsz (by omega) rfl ?_; intro av2 cv2 w2 hA2 hf2; have K2 := Lib.hid (HK.out.next (by omega) (by omega) (by omega) (by omega) e2.out hA2 hf2); have P2 := Lib.hid (((HP.out.ext e2.out).fr hf2 (by omega)).fr (M := fun k => k = w.heap.size + 1 + 1) (Fr.setCell (i := 3) (u := .slice av2 (ts.length + 1) cv2) w2 rfl) (by omega)); have g3 := hf2.cell (k := w.heap.size + 1 + 1) (by omega) d3; have g5 := hf2.frozen (k := w.heap.size + 1 + 1) (by omega) (by omega) (e2.out.frozen sz f3); clear hA2 hf2))
          all_goals go_wp2_with fail
          all_goals
            go_roundw
            case rel => exact ⟨j + 1, av2, cv2, ts ++ [applyS bs tk], by omega, by simp, HTS, by rw [← hlen]; exact P2, by rw [← hlen]; exact K2⟩
            case measure => simp [intOf]; omega
        · have hjj : j = ks.length := by omega
          subst hjj
          have hts : ts = applySL bs ks := by rw [HT.out, List.take_of_length_le (Nat.le_refl _)]
          subst hts
          obtain ⟨g0, g1, g2, g3, z0, z1, z2, z3⟩ := HK.out.res
          go_wp2_with fail
          refine ret4_set (p := 4) (T := 25) (b := w.heap.size + 1) (by kernel_rfl) (fun _ => by kernel_rfl) (fun _ => by kernel_rfl) rfl rfl g0 g1 g2 g3 ?_
          intro X hX
          have f : Fr (fun b => b = w.heap.size + 1) wr X := Fr.of_grown hX (fun k e => by cases e; rfl)
          rw [HF.out]
          have hA := HK.out.app
          refine ⟨av, cv, by rw [← hlen]; rfl, own_iff.2 ⟨hs1, ?_, hA.mono (fun b hb => by omega) f (fun b hb h => by omega)⟩, ((Fr.of_ext HK.out.ext).trans f).toExt (fun k hk h => by omega)⟩
          simp only [Tm.kids, applySL_len]
          exact h3

end Go.Proofs.Ytdelhgodhkbjdaa
