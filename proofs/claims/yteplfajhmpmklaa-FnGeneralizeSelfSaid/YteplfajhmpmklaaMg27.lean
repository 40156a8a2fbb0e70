/-
  Numbering the variables of terms anew: the reference's renaming, the program's list of variables and renumbered.
-/
import Derived.Test.YteplfajhmpmklaaMg26
namespace Go.Proofs.Yteplfajhmpmklaa
open Go.RowKit
set_option linter.unusedVariables false

theorem BoxT.set1 {w : World} {b : Nat} {v0 v1 v2 v3 : Value} (h : BoxT w b v0 v1 v2 v3) (u : Value) : BoxT (w.setCell ⟨b, 1, none⟩ u) b v0 u v2 v3 := by
  obtain ⟨c0, c1, c2, c3, f0, f1, f2, f3⟩ := h
  exact ⟨cell_off (i := 0) (j := 1) (by decide) c0, cell_same c1, cell_off (i := 2) (j := 1) (by decide) c2, cell_off (i := 3) (j := 1) (by decide) c3, by rw [World.frozen?_setCell]; exact f0, by rw [World.frozen?_setCell]; exact f1, by rw [World.frozen?_setCell]; exact f2, by rw [World.frozen?_setCell]; exact f3⟩

def RenC (zs : List Int) (t : Tm) : Prop := ∀ (v vv : Value) (S : Nat → Prop) (w : World) (d : Nat), shapeF t d = true → Tm.at S w t v → IntsAt w zs vv → Calls Try.prog 83 #[v, vv] w (TmO (renS zs t) w)
set_option maxRecDepth 100000 in
set_option maxHeartbeats 4000000 in
theorem specl1Rename (zs : List Int) : ∀ (m : Nat) (t : Tm), Tm.sz t ≤ m → RenC zs t := by
  intro m
  induction m with
  | zero => intro t hm; have := Tm.sz_pos t; omega
  | succ m ih =>
    intro t hm v vv S w d hsh ht hzs
    obtain ⟨k, n, s, ks⟩ := t
    have IH := Lib.hid (show ∀ (j : Nat) (u : Tm), ks[j]? = some u → ∀ (v vv : Value) (S : Nat → Prop) (w : World) (d : Nat), shapeF u d = true → Tm.at S w u v → IntsAt w zs vv → Calls Try.prog 83 #[v, vv] w (TmO (renS zs u) w) from fun j u h => ih u (by
      have := kid_lt (k := k) (n := n) (s := s) (ks := ks) h; omega))
    clear ih hm
    obtain ⟨i0, hi, hz0, hz1, hz2⟩ := info_parts info_term3
    obtain ⟨hs1, sv, rfl, a, cap, rfl, h1, h2, h3, h4⟩ := ht
    have H4 := Lib.hid h4
    have HI := Lib.hid hi
    have HZ := Lib.hid hz0
    have HZ1 := Lib.hid hz1
    have HZ2 := Lib.hid hz2
    have HSH := Lib.hid hsh
    have HZS := Lib.hid hzs
    clear h4 hi hz0 hz1 hz2 hsh
    obtain ⟨za, zc, rfl, y1, y2, y3, y4⟩ := hzs
    have Y4 := Lib.hid y4
    clear y4
    go_enter Try.func83, Try.ntmps83
    go_wp2_with fail
    go_loopw [6] (fun i wr => ∃ (j : Nat) (N : Int), j ≤ zs.length ∧ i = .int .i64 j ∧ Hid (N = if k = 1 then lastK zs n n j else n) ∧ Ext w wr ∧
        Hid (BoxT wr w.heap.size (.int .i64 k) (.int .i64 n) (.string s) (.slice a ks.length cap)) ∧ Hid (BoxT wr (w.heap.size + 1 + 1) (.int .i64 k) (.int .i64 N) (.string s) (.slice none 0 0)) ∧
        Hid (BoxT wr (w.heap.size + 1) (.int .i64 0) (.int .i64 0) (.string ⟨#[]⟩) (.slice none 0 0))) (fun i _ => zs.length - (intOf i).toNat)
    case atStart =>
      refine ⟨0, n, Nat.zero_le _, rfl, Lib.hid (by split <;> rfl), ((Ext.alloc _ _).trans (Ext.alloc _ _)).trans (Ext.alloc _ _), Lib.hid ?_, Lib.hid ?_, Lib.hid ?_⟩
      · exact ((BoxT.new w (.int .i64 k) (.int .i64 n) (.string s) (.slice a ks.length cap) 29 rfl).ext (Ext.alloc _ _)).ext (Ext.alloc _ _)
      · exact BoxT.new ((w.alloc (.cells #[.int .i64 k, .int .i64 n, .string s, .slice a ks.length cap] 29)).alloc (.cells #[.int .i64 0, .int .i64 0, .string ⟨#[]⟩, .slice none 0 0] 29)) (.int .i64 k) (.int .i64 n) (.string s) (.slice none 0 0) 29 (by simp)
      · exact (BoxT.new (w.alloc (.cells #[.int .i64 k, .int .i64 n, .string s, .slice a ks.length cap] 29)) (.int .i64 0) (.int .i64 0) (.string ⟨#[]⟩) (.slice none 0 0) 29 (by simp)).ext (Ext.alloc _ _)
    case round =>
      obtain ⟨j, N, hj, rfl, HN, he, HP, HO, HR⟩ := hrel
      obtain ⟨p0, p1, p2, p3, _, _, _, _⟩ := HP.out
      obtain ⟨o0, o1, o2, o3, z0, z1, z2, z3⟩ := HO.out
      have so : w.heap.size + 1 + 1 < wr.heap.size := HO.out.lt
      by_cases hk : k = 1
      · subst hk
        by_cases hlt : j < zs.length
        · obtain ⟨z, hz⟩ : ∃ z, zs[j]? = some z := ⟨zs[j], by simp [hlt]⟩
          rcases Y4.out with y4 | ⟨b, off, rfl, y5⟩
          · subst y4; simp at hlt
          have q1 := cell_regrown (he.cell (y5 j z hz))
          have q2 := cell_regrown p1
          have Hz := Lib.hid hz
          clear hz y5
          by_cases hzn : z = n
          · subst hzn
            have HN2 : Hid ((j : Int) = if (1 : Int) = 1 then lastK zs z z (j + 1) else z) := Lib.hid (by rw [if_pos rfl]; simp only [lastK]; rw [if_pos Hz.out])
            clear o0 o1 o2 o3 p2 p3
            go_wp2_with fail
            refine region_ext (by kernel_rfl) (by kernel_rfl) ?_
            repeat (quiet_step (fail))
            refine wpQuiet_nil ?_
            intro wq eq
            have HOQ := HO.out.ext eq
            have HPQ := HP.out.ext eq
            have HRQ := HR.out.ext eq
            have O1 := Lib.hid HOQ
            have P1 := Lib.hid HPQ
            have R1 := Lib.hid HRQ
            have E1 := Lib.hid (he.trans eq)
            obtain ⟨o0, o1, o2, o3, z0, z1, z2, z3⟩ := HOQ
            clear HPQ HRQ eq q1 q2
            go_wp2_with fail
            go_roundw
            case rel =>
              have f : Fr (fun b => b = w.heap.size + 1 + 1) wq (wq.setCell ⟨w.heap.size + 1 + 1, 1, none⟩ (.int .i64 j)) := Fr.setCell _ rfl
              exact ⟨j + 1, j, by omega, by go_num, HN2, ((Fr.of_ext E1.out).trans f).toExt (fun k hk h => by omega), Lib.hid (P1.out.fr f (by omega)), Lib.hid (O1.out.set1 _), Lib.hid (R1.out.fr f (by omega))⟩
            case measure => simp [intOf]; omega
          · have hzb : (z == n) = false := by simpa using hzn
            have HN2 : Hid (N = if (1 : Int) = 1 then lastK zs n n (j + 1) else n) := Lib.hid (by
              have := HN.out
              rw [if_pos rfl] at this ⊢
              simp only [lastK]
              rw [if_neg (by rw [Hz.out]; simpa using hzn)]
              exact this)
            clear o0 o1 o2 o3 p2 p3 hzn
            go_wp2_with fail
            refine region_ext (by kernel_rfl) (by kernel_rfl) ?_
            repeat (quiet_step (fail))
            refine wpQuiet_nil ?_
            intro wq eq
            go_wp2_with fail
            go_roundw
            case rel => exact ⟨j + 1, N, by omega, by go_num, HN2, he.trans eq, Lib.hid (HP.out.ext eq), Lib.hid (HO.out.ext eq), Lib.hid (HR.out.ext eq)⟩
            case measure => simp [intOf]; omega
        · have hjz : j = zs.length := by omega
          subst hjz
          have HF : Hid (renS zs (.mk 1 n s ks) = .mk 1 N s (renSL zs ks)) := Lib.hid (by
            have := HN.out
            rw [if_pos rfl] at this
            rw [this]
            simp [renS])
          clear HN
          go_wp2_with fail
          go_loopw [7] (fun i wr => ∃ (j : Nat) (av : Option Addr) (cv : Nat) (ts : List Tm), j ≤ ks.length ∧ i = .int .i64 j ∧ Hid (ts = renSL zs (ks.take j)) ∧
              Hid (BoxT wr (w.heap.size) (.int .i64 1) (.int .i64 n) (.string s) (.slice a ks.length cap)) ∧ Hid (KidO w (w.heap.size + 1 + 1) (w.heap.size + 1) (w.heap.size + 1 + 1 + 1) ts (.int .i64 1) (.int .i64 N) (.string s) av cv wr)) (fun i _ => ks.length - (intOf i).toNat)
          case atStart => exact ⟨0, none, 0, [], Nat.zero_le _, rfl, Lib.hid rfl, Lib.hid HP.out, Lib.hid ⟨OwnS.nil _ _, he, HO.out, HR.out⟩⟩
          case round =>
            obtain ⟨j, av, cv, ts, hj, rfl, HT, HP, HK⟩ := hrel
            have hlen : ts.length = j := by rw [HT.out, renSL_len]; simp; omega
            obtain ⟨c0, c1, c2, c3, f0, f1, f2, f3⟩ := HK.out.box
            obtain ⟨p0, p1, p2, p3, _, _, _, _⟩ := HP.out
            have hsz : w.heap.size + 1 + 1 + 1 ≤ wr.heap.size := HK.out.box.lt
            have sz : w.heap.size + 1 + 1 < wr.heap.size := HK.out.box.lt
            have sp : w.heap.size < wr.heap.size := HP.out.lt
            rw [hlen] at c3
            by_cases hlt : j < ks.length
            · obtain ⟨tk, htk⟩ := getk hlt
              obtain ⟨b, off, a1, c1', rfl, hSb, k1, k2, k3, k4, hat⟩ := tget H4.out htk
              have k1 := HK.out.ext.cell k1
              have k2 := HK.out.ext.cell k2
              have k3 := HK.out.ext.cell k3
              have k4 := HK.out.ext.cell k4
              have hlk : ks.length ≤ 1048576 := h3
              have HC := Lib.hid (fun w' (e' : Ext wr w') => IH.out j tk htk _ _ S w' (d - 1) (shape_kid HSH.out htk) (Tm.at_ext (HK.out.ext.trans e') hat) (IntsAt.ext HZS.out (HK.out.ext.trans e')))
              have HTS : Hid (ts ++ [renS zs tk] = renSL zs (ks.take (j + 1))) := Lib.hid (by rw [HT.out, renSL_snoc zs htk])
              have hbw := block_lt_of_cell k1
              simp only at hbw
              clear htk hat hSb c0 c1 c2 f0 f1 f2 p0 p1 p2
              go_wp2_with fail
              go_region_law (first
                | (go_simp; go_at_call 83; refine (HC.out _ ?_).mono ?_; (first | exact Ext.refl _ | exact Ext.drew _); rintro e w1 ⟨a2, c2, rfl, hv1, e1⟩; (try replace e1 := Ext.undrew e1); have e2 := Lib.hid e1; have hv2 := Lib.hid (own_zone (F' := fun b => wr.heap.size ≤ b) hv1 (fun b hb => by simpa using hb)); have d3 := e2.out.cell c3; have d4 := e2.out.cell p3; have s1 := Below.size e2.out; have s2 := Nat.lt_of_lt_of_le sz s1; have s3 := Nat.lt_of_lt_of_le sp s1; clear e1 hv1; dsimp only)
                | (refine step_append_ow (w0 := wr) rfl (.tmp 43) (.tmp 51) 27 rfl (w.heap.size + 1 + 1 + 1) i0 Try.underlying27 HI.out HZ.out HZ1.out HZ2.out (.slice av ts.length cv) ts (renS zs tk) a2 c2 (by rw [hlen]; rfl) (HK.out.app.ext e2.out) rfl hv2.out s1 hsz (by omega) rfl ?_; intro av2 cv2 w2 hA2 hf2; have K2 := Lib.hid (HK.out.next (by omega) (by omega) (by omega) (by omega) e2.out hA2 hf2); have P2 := Lib.hid (((HP.out.ext e2.out).fr hf2 (by omega)).fr (M := fun k => k = w.heap.size + 1 + 1) (Fr.setCell (i := 3) (u := .slice av2 (ts.length + 1) cv2) w2 rfl) (by omega)); have g3 := hf2.cell (k := w.heap.size + 1 + 1) (by omega) d3; have g5 := hf2.frozen (k := w.heap.size + 1 + 1) (by omega) (by omega) (e2.out.frozen sz f3); clear hA2 hf2))
              all_goals go_wp2_with fail
              all_goals
                go_roundw
                case rel => exact ⟨j + 1, av2, cv2, ts ++ [renS zs tk], by omega, by simp, HTS, by rw [← hlen]; exact P2, by rw [← hlen]; exact K2⟩
                case measure => simp [intOf]; omega
            · have hjj : j = ks.length := by omega
              subst hjj
              have hts : ts = renSL zs ks := by rw [HT.out, List.take_of_length_le (Nat.le_refl _)]
              subst hts
              obtain ⟨g0, g1, g2, g3, z0, z1, z2, z3⟩ := HK.out.res
              go_wp2_with fail
              refine ret4_set (p := 4) (T := 29) (b := w.heap.size + 1) (by kernel_rfl) (fun _ => by kernel_rfl) (fun _ => by kernel_rfl) rfl rfl g0 g1 g2 g3 ?_
              intro X hX
              have f : Fr (fun b => b = w.heap.size + 1) wr X := Fr.of_grown hX (fun k e => by cases e; rfl)
              rw [HF.out]
              have hA := HK.out.app
              refine ⟨av, cv, by rw [← hlen]; rfl, own_iff.2 ⟨hs1, ?_, hA.mono (fun b hb => by omega) f (fun b hb h => by omega)⟩, ((Fr.of_ext HK.out.ext).trans f).toExt (fun k hk h => by omega)⟩
              simp only [Tm.kids, renSL_len]
              exact h3
      · have hkb : (k == 1) = false := by simpa using hk
        have HF : Hid (renS zs (.mk k n s ks) = .mk k N s (renSL zs ks)) := Lib.hid (by
          have := HN.out
          rw [if_neg hk] at this
          simp only [renS]
          rw [if_neg hk, this])
        clear HN hk
        by_cases hlt : j < zs.length
        · go_wp2_with fail
          go_loopw [7] (fun i wr => ∃ (j : Nat) (av : Option Addr) (cv : Nat) (ts : List Tm), j ≤ ks.length ∧ i = .int .i64 j ∧ Hid (ts = renSL zs (ks.take j)) ∧
              Hid (BoxT wr (w.heap.size) (.int .i64 k) (.int .i64 n) (.string s) (.slice a ks.length cap)) ∧ Hid (KidO w (w.heap.size + 1 + 1) (w.heap.size + 1) (w.heap.size + 1 + 1 + 1) ts (.int .i64 k) (.int .i64 N) (.string s) av cv wr)) (fun i _ => ks.length - (intOf i).toNat)
          case atStart => exact ⟨0, none, 0, [], Nat.zero_le _, rfl, Lib.hid rfl, Lib.hid HP.out, Lib.hid ⟨OwnS.nil _ _, he, HO.out, HR.out⟩⟩
          case round =>
            obtain ⟨j, av, cv, ts, hj, rfl, HT, HP, HK⟩ := hrel
            have hlen : ts.length = j := by rw [HT.out, renSL_len]; simp; omega
            obtain ⟨c0, c1, c2, c3, f0, f1, f2, f3⟩ := HK.out.box
            obtain ⟨p0, p1, p2, p3, _, _, _, _⟩ := HP.out
            have hsz : w.heap.size + 1 + 1 + 1 ≤ wr.heap.size := HK.out.box.lt
            have sz : w.heap.size + 1 + 1 < wr.heap.size := HK.out.box.lt
            have sp : w.heap.size < wr.heap.size := HP.out.lt
            rw [hlen] at c3
            by_cases hlt : j < ks.length
            · obtain ⟨tk, htk⟩ := getk hlt
              obtain ⟨b, off, a1, c1', rfl, hSb, k1, k2, k3, k4, hat⟩ := tget H4.out htk
              have k1 := HK.out.ext.cell k1
              have k2 := HK.out.ext.cell k2
              have k3 := HK.out.ext.cell k3
              have k4 := HK.out.ext.cell k4
              have hlk : ks.length ≤ 1048576 := h3
              have HC := Lib.hid (fun w' (e' : Ext wr w') => IH.out j tk htk _ _ S w' (d - 1) (shape_kid HSH.out htk) (Tm.at_ext (HK.out.ext.trans e') hat) (IntsAt.ext HZS.out (HK.out.ext.trans e')))
              have HTS : Hid (ts ++ [renS zs tk] = renSL zs (ks.take (j + 1))) := Lib.hid (by rw [HT.out, renSL_snoc zs htk])
              have hbw := block_lt_of_cell k1
              simp only at hbw
              clear htk hat hSb c0 c1 c2 f0 f1 f2 p0 p1 p2
              go_wp2_with fail
              go_region_law (first
                | (go_simp; go_at_call 83; refine (HC.out _ ?_).mono ?_; (first | exact Ext.refl _ | exact Ext.drew _); rintro e w1 ⟨a2, c2, rfl, hv1, e1⟩; (try replace e1 := Ext.undrew e1); have e2 := Lib.hid e1; have hv2 := Lib.hid (own_zone (F' := fun b => wr.heap.size ≤ b) hv1 (fun b hb => by simpa using hb)); have d3 := e2.out.cell c3; have d4 := e2.out.cell p3; have s1 := Below.size e2.out; have s2 := Nat.lt_of_lt_of_le sz s1; have s3 := Nat.lt_of_lt_of_le sp s1; clear e1 hv1; dsimp only)
                | (refine step_append_ow (w0 := wr) rfl (.tmp 43) (.tmp 51) 27 rfl (w.heap.size + 1 + 1 + 1) i0 Try.underlying27 HI.out HZ.out HZ1.out HZ2.out (.slice av ts.length cv) ts (renS zs tk) a2 c2 (by rw [hlen]; rfl) (HK.out.app.ext e2.out) rfl hv2.out s1 hsz (by omega) rfl ?_; intro av2 cv2 w2 hA2 hf2; have K2 := Lib.hid (HK.out.next (by omega) (by omega) (by omega) (by omega) e2.out hA2 hf2); have P2 := Lib.hid (((HP.out.ext e2.out).fr hf2 (by omega)).fr (M := fun k => k = w.heap.size + 1 + 1) (Fr.setCell (i := 3) (u := .slice av2 (ts.length + 1) cv2) w2 rfl) (by omega)); have g3 := hf2.cell (k := w.heap.size + 1 + 1) (by omega) d3; have g5 := hf2.frozen (k := w.heap.size + 1 + 1) (by omega) (by omega) (e2.out.frozen sz f3); clear hA2 hf2))
              all_goals go_wp2_with fail
              all_goals
                go_roundw
                case rel => exact ⟨j + 1, av2, cv2, ts ++ [renS zs tk], by omega, by simp, HTS, by rw [← hlen]; exact P2, by rw [← hlen]; exact K2⟩
                case measure => simp [intOf]; omega
            · have hjj : j = ks.length := by omega
              subst hjj
              have hts : ts = renSL zs ks := by rw [HT.out, List.take_of_length_le (Nat.le_refl _)]
              subst hts
              obtain ⟨g0, g1, g2, g3, z0, z1, z2, z3⟩ := HK.out.res
              go_wp2_with fail
              refine ret4_set (p := 4) (T := 29) (b := w.heap.size + 1) (by kernel_rfl) (fun _ => by kernel_rfl) (fun _ => by kernel_rfl) rfl rfl g0 g1 g2 g3 ?_
              intro X hX
              have f : Fr (fun b => b = w.heap.size + 1) wr X := Fr.of_grown hX (fun k e => by cases e; rfl)
              rw [HF.out]
              have hA := HK.out.app
              refine ⟨av, cv, by rw [← hlen]; rfl, own_iff.2 ⟨hs1, ?_, hA.mono (fun b hb => by omega) f (fun b hb h => by omega)⟩, ((Fr.of_ext HK.out.ext).trans f).toExt (fun k hk h => by omega)⟩
              simp only [Tm.kids, renSL_len]
              exact h3
        · go_wp2_with fail
          go_loopw [7] (fun i wr => ∃ (j : Nat) (av : Option Addr) (cv : Nat) (ts : List Tm), j ≤ ks.length ∧ i = .int .i64 j ∧ Hid (ts = renSL zs (ks.take j)) ∧
              Hid (BoxT wr (w.heap.size) (.int .i64 k) (.int .i64 n) (.string s) (.slice a ks.length cap)) ∧ Hid (KidO w (w.heap.size + 1 + 1) (w.heap.size + 1) (w.heap.size + 1 + 1 + 1) ts (.int .i64 k) (.int .i64 N) (.string s) av cv wr)) (fun i _ => ks.length - (intOf i).toNat)
          case atStart => exact ⟨0, none, 0, [], Nat.zero_le _, rfl, Lib.hid rfl, Lib.hid HP.out, Lib.hid ⟨OwnS.nil _ _, he, HO.out, HR.out⟩⟩
          case round =>
            obtain ⟨j, av, cv, ts, hj, rfl, HT, HP, HK⟩ := hrel
            have hlen : ts.length = j := by rw [HT.out, renSL_len]; simp; omega
            obtain ⟨c0, c1, c2, c3, f0, f1, f2, f3⟩ := HK.out.box
            obtain ⟨p0, p1, p2, p3, _, _, _, _⟩ := HP.out
            have hsz : w.heap.size + 1 + 1 + 1 ≤ wr.heap.size := HK.out.box.lt
            have sz : w.heap.size + 1 + 1 < wr.heap.size := HK.out.box.lt
            have sp : w.heap.size < wr.heap.size := HP.out.lt
            rw [hlen] at c3
            by_cases hlt : j < ks.length
            · obtain ⟨tk, htk⟩ := getk hlt
              obtain ⟨b, off, a1, c1', rfl, hSb, k1, k2, k3, k4, hat⟩ := tget H4.out htk
              have k1 := HK.out.ext.cell k1
              have k2 := HK.out.ext.cell k2
              have k3 := HK.out.ext.cell k3
              have k4 := HK.out.ext.cell k4
              have hlk : ks.length ≤ 1048576 := h3
              have HC := Lib.hid (fun w' (e' : Ext wr w') => IH.out j tk htk _ _ S w' (d - 1) (shape_kid HSH.out htk) (Tm.at_ext (HK.out.ext.trans e') hat) (IntsAt.ext HZS.out (HK.out.ext.trans e')))
              have HTS : Hid (ts ++ [renS zs tk] = renSL zs (ks.take (j + 1))) := Lib.hid (by rw [HT.out, renSL_snoc zs htk])
              have hbw := block_lt_of_cell k1
              simp only at hbw
              clear htk hat hSb c0 c1 c2 f0 f1 f2 p0 p1 p2
              go_wp2_with fail
              go_region_law (first
                | (go_simp; go_at_call 83; refine (HC.out _ ?_).mono ?_; (first | exact Ext.refl _ | exact Ext.drew _); rintro e w1 ⟨a2, c2, rfl, hv1, e1⟩; (try replace e1 := Ext.undrew e1); have e2 := Lib.hid e1; have hv2 := Lib.hid (own_zone (F' := fun b => wr.heap.size ≤ b) hv1 (fun b hb => by simpa using hb)); have d3 := e2.out.cell c3; have d4 := e2.out.cell p3; have s1 := Below.size e2.out; have s2 := Nat.lt_of_lt_of_le sz s1; have s3 := Nat.lt_of_lt_of_le sp s1; clear e1 hv1; dsimp only)
                | (refine step_append_ow (w0 := wr) rfl (.tmp 43) (.tmp 51) 27 rfl (w.heap.size + 1 + 1 + 1) i0 Try.underlying27 HI.out HZ.out HZ1.out HZ2.out (.slice av ts.length cv) ts (renS zs tk) a2 c2 (by rw [hlen]; rfl) (HK.out.app.ext e2.out) rfl hv2.out s1 hsz (by omega) rfl ?_; intro av2 cv2 w2 hA2 hf2; have K2 := Lib.hid (HK.out.next (by omega) (by omega) (by omega) (by omega) e2.out hA2 hf2); have P2 := Lib.hid (((HP.out.ext e2.out).fr hf2 (by omega)).fr (M := fun k => k = w.heap.size + 1 + 1) (Fr.setCell (i := 3) (u := .slice av2 (ts.length + 1) cv2) w2 rfl) (by omega)); have g3 := hf2.cell (k := w.heap.size + 1 + 1) (by omega) d3; have g5 := hf2.frozen (k := w.heap.size + 1 + 1) (by omega) (by omega) (e2.out.frozen sz f3); clear hA2 hf2))
              all_goals go_wp2_with fail
              all_goals
                go_roundw
                case rel => exact ⟨j + 1, av2, cv2, ts ++ [renS zs tk], by omega, by simp, HTS, by rw [← hlen]; exact P2, by rw [← hlen]; exact K2⟩
                case measure => simp [intOf]; omega
            · have hjj : j = ks.length := by omega
              subst hjj
              have hts : ts = renSL zs ks := by rw [HT.out, List.take_of_length_le (Nat.le_refl _)]
              subst hts
              obtain ⟨g0, g1, g2, g3, z0, z1, z2, z3⟩ := HK.out.res
              go_wp2_with fail
              refine ret4_set (p := 4) (T := 29) (b := w.heap.size + 1) (by kernel_rfl) (fun _ => by kernel_rfl) (fun _ => by kernel_rfl) rfl rfl g0 g1 g2 g3 ?_
              intro X hX
              have f : Fr (fun b => b = w.heap.size + 1) wr X := Fr.of_grown hX (fun k e => by cases e; rfl)
              rw [HF.out]
              have hA := HK.out.app
              refine ⟨av, cv, by rw [← hlen]; rfl, own_iff.2 ⟨hs1, ?_, hA.mono (fun b hb => by omega) f (fun b hb h => by omega)⟩, ((Fr.of_ext HK.out.ext).trans f).toExt (fun k hk h => by omega)⟩
              simp only [Tm.kids, renSL_len]
              exact h3

theorem szL_step {ts : List Tm} {j : Nat} {t : Tm} {zs : List Int} (ht : ts[j]? = some t) (hl : zs.length + Tm.szL ts ≤ 1048576) : (varsL (ts.take j) zs).length + Tm.sz t ≤ 1048576 := by
  have h1 := szL_take ht
  have h2 := varsL_len (ts.take j) zs
  omega

set_option maxRecDepth 100000 in
set_option maxHeartbeats 1000000 in
theorem implvarsOf (ts : List Tm) (v : Value) (S : Nat → Prop) (w : World) (hl : Tm.szL ts ≤ 1048576) (ht : Tm.sl S w ts v) : Calls Try.prog 78 #[v] w (IntsOut (varsL ts []) w) := by
  obtain ⟨a, cap, rfl, h1, h2, h3, h4⟩ := Tm.sl_bound ht
  have H4 := Lib.hid h4
  clear h4 ht
  go_enter Try.func78, Try.ntmps78
  go_wp2_with fail
  go_loopw [3, 8] (fun q i wr => ∃ (j : Nat), j ≤ ts.length ∧ i = .int .i64 j ∧ Hid (IntI (fun b => w.heap.size ≤ b) (varsL (ts.take j) []) q wr) ∧ Ext w wr) (fun _ i _ => ts.length - (intOf i).toNat)
  case atStart => exact ⟨0, Nat.zero_le _, rfl, Lib.hid (IntI.nil _ _), Ext.refl _⟩
  case round =>
    obtain ⟨j, hj, rfl, HQ, he⟩ := hrel
    by_cases hlt : j < ts.length
    · obtain ⟨tk, htk⟩ := getk hlt
      obtain ⟨b, off, ak, ck, rfl, hSb, c0, c1, c2, c3, hat⟩ := tget H4.out htk
      replace c0 := he.cell c0
      replace c1 := he.cell c1
      replace c2 := he.cell c2
      replace c3 := he.cell c3
      have V := Lib.hid (Tm.at_ext he hat)
      have HST : Hid ((varsL (ts.take j) []).length + Tm.sz tk ≤ 1048576) := Lib.hid (szL_step htk (by simpa using hl))
      have HV := Lib.hid (varsL_snoc (zs := []) htk)
      have hsz := Below.size he
      clear htk hat hSb
      go_wp2_with fail
      refine (impladdVars _ tk (Nat.le_refl _) _ _ (varsL (ts.take j) []) _ (fun b => w.heap.size ≤ b) _ (Tm.at_ext (Ext.alloc _ _) V.out) (IntI.ext HQ.out (Ext.alloc _ _)) (fun b h => by simp at h; omega) (fun b h _ h2 => by have := h.2; omega) HST.out).mono ?_
      rintro e w2 ⟨v2, rfl, hI, hf⟩
      have I := Lib.hid hI
      have F := Lib.hid ((Fr.alloc (M := fun b => w.heap.size ≤ b) _ _).trans hf)
      clear hI hf
      go_wp2_with fail
      go_roundw
      case rel => exact ⟨j + 1, by omega, by go_num, Lib.hid (by rw [HV.out]; exact I.out), ((Fr.of_ext he).trans F.out).toExt (fun k hk h => by omega)⟩
      case measure => simp [intOf]; omega
    · have hjl : j = ts.length := by omega
      subst hjl
      have HQ2 := HQ.out
      rw [List.take_of_length_le (Nat.le_refl _)] at HQ2
      have HQ3 := Lib.hid HQ2
      clear HQ2
      go_wp2_with fail
      go_ret
      exact ⟨_, rfl, HQ3.out, he⟩

set_option maxHeartbeats 400000 in
theorem implrenumbered1 (zs : List Int) (v : Value) (b : Nat) (n : Int) (w : World) (hc : w.cell? ⟨b, 0, none⟩ = some v) (hz : IntsAt w zs v) : Calls Try.prog 80 #[.int .i64 n, .pointer (some ⟨b, 0, none⟩)] w (TmO (numT zs n) w) := by
  have hb := block_lt_of_cell hc
  simp only at hb
  have HZ := Lib.hid hz
  clear hz
  go_enter Try.func80, Try.ntmps80
  go_wp2_with fail
  refine (slicesIndexX zs v n _ (IntsAt.ext HZ.out (Ext.alloc _ _))).mono ?_
  rintro e w1 ⟨rfl, rfl⟩
  go_wp2_with fail
  refine (implvariable _ _).mono ?_
  rintro e w2 ⟨a, c, rfl, o, q⟩
  obtain ⟨r0, r1, r2, r3, z0, z1, z2, z3⟩ := (BoxT.new w (.int .i64 0) (.int .i64 0) (.string ⟨#[]⟩) (.slice none 0 0) 29 rfl).ext q
  have HO := Lib.hid o
  have E := Lib.hid ((Ext.alloc _ _).trans q)
  have hz1 : w.heap.size + 1 ≤ w2.heap.size := by have := Below.size q; simpa using this
  clear o q
  go_wp2_with fail
  refine ret4_set (p := 3) (T := 29) (b := w.heap.size) (by kernel_rfl) (fun _ => by kernel_rfl) (fun _ => by kernel_rfl) rfl rfl r0 r1 r2 r3 ?_
  intro X hX
  have f : Fr (fun b => b = w.heap.size) w2 X := Fr.of_grown hX (fun k e => by cases e; rfl)
  refine ⟨_, _, rfl, own_mono (fun b hb => ?_) f (fun b hb h => ?_) _ _ HO.out, ((Fr.of_ext E.out).trans f).toExt (fun k hk h => by omega)⟩
  · simp at hb; omega
  · simp at hb; omega

/-- a list of terms that shares nothing -/
def LsO (ts : List Tm) (w : World) (e : Ending) (w' : World) : Prop := ∃ a c, e = .returned (.slice a ts.length c) ∧ OwnS (fun b => w.heap.size ≤ b) ts (.slice a ts.length c) w' ∧ Ext w w'

set_option maxRecDepth 100000 in
set_option maxHeartbeats 2000000 in
theorem implrenumbered (ts : List Tm) (v : Value) (S : Nat → Prop) (w : World) (hl : Tm.szL ts ≤ 1048576) (hsh : shapeL ts 30 = true) (ht : Tm.sl S w ts v) : Calls Try.prog 51 #[v] w (LsO (renF ts) w) := by
  have HVO := Lib.hid (implvarsOf ts v S w hl ht)
  obtain ⟨i0, hi, hz0, hz1, hz2⟩ := info_parts info_term3
  have HI := Lib.hid hi
  have HZ0 := Lib.hid hz0
  have HZ1 := Lib.hid hz1
  have HZ2 := Lib.hid hz2
  have HSH := Lib.hid hsh
  obtain ⟨a, cap, rfl, h1, h2, h3, h4⟩ := Tm.sl_bound ht
  have H4 := Lib.hid h4
  clear h4 ht hi hz0 hz1 hz2 hsh hl
  go_enter Try.func51, Try.ntmps51
  go_wp2_with fail
  refine HVO.out.mono ?_
  rintro e w1 ⟨zv, rfl, hI, q⟩
  have HZS := Lib.hid ((hI.bound).zone (Z' := fun b => b < w1.heap.size) (fun b h => h.2))
  have hw1 := Below.size q
  have Q := Lib.hid q
  obtain ⟨za, zc, rfl⟩ := hI.form
  clear hI q HVO
  go_wp2_with fail
  go_loopw [4, 11] (fun q i wr => ∃ (j : Nat) (av : Option Addr) (cv : Nat) (us : List Tm), j ≤ ts.length ∧ i = .int .i64 j ∧ q = .slice av us.length cv ∧ Hid (us = mapL (numT (varsL ts [])) (ts.take j)) ∧
      Hid (OwnS (fun b => w1.heap.size + 1 ≤ b ∧ b < wr.heap.size) us (.slice av us.length cv) wr) ∧ Ext w wr ∧ wr.cell? ⟨w1.heap.size, 0, none⟩ = some (.slice za (varsL ts []).length zc) ∧ Hid (IntI (fun b => b < w1.heap.size) (varsL ts []) (.slice za (varsL ts []).length zc) wr)) (fun _ i _ => ts.length - (intOf i).toNat)
  case atStart => exact ⟨0, none, 0, [], Nat.zero_le _, rfl, rfl, Lib.hid rfl, Lib.hid (OwnS.nil _ _), Q.out.trans (Ext.alloc _ _), by go_simp, Lib.hid (IntI.ext HZS.out (Ext.alloc _ _))⟩
  case round =>
    obtain ⟨j, av, cv, us, hj, rfl, rfl, HU, HA, he, hzc, HZW⟩ := hrel
    have hsz : w1.heap.size < wr.heap.size := block_lt_of_cell hzc
    have hlen : Hid (us.length = j) := Lib.hid (by rw [HU.out, mapL_len]; simp; omega)
    by_cases hlt : j < ts.length
    · obtain ⟨tk, htk⟩ := getk hlt
      have hlu : us.length < 1048576 := by have := hlen.out; omega
      obtain ⟨b, off, ak, ck, rfl, hSb, c0, c1, c2, c3, hat⟩ := tget H4.out htk
      replace c0 := he.cell c0
      replace c1 := he.cell c1
      replace c2 := he.cell c2
      replace c3 := he.cell c3
      have V := Lib.hid (Tm.at_ext he hat)
      have HTK : Hid (shapeF tk 30 = true) := Lib.hid (shapeL_mem HSH.out (List.mem_of_getElem? htk))
      have HNX := Lib.hid (mapL_snoc (numT (varsL ts [])) htk)
      have hbw := block_lt_of_cell c0
      simp only at hbw
      clear htk hat hSb
      go_wp2_with fail
      refine (implmapVars (numT (varsL ts [])) _ tk (Nat.le_refl _) _ _ _ 30 80 #[.pointer (some ⟨w1.heap.size, 0, none⟩)] HTK.out (Tm.at_ext (Ext.alloc _ _) V.out) (fun _ _ => by kernel_rfl)
        (fun n w' _ _ e' => implrenumbered1 (varsL ts []) (.slice za (varsL ts []).length zc) w1.heap.size n w' (e'.cell ((Ext.alloc _ _).cell hzc)) (IntsAt.ext (IntI.ext HZW.out (Ext.alloc _ _)).ints e'))).mono ?_
      rintro e w2 ⟨a2, q2, rfl, ho, q⟩
      have E2 := Lib.hid ((Ext.alloc _ _).trans q)
      have HO := Lib.hid (own_zone (F' := fun b => wr.heap.size ≤ b) ho (fun b hb => by simp at hb; omega))
      have hs2 := Below.size E2.out
      have A2 := Lib.hid (HA.out.ext E2.out)
      have hzc2 := E2.out.cell hzc
      have ZW2 := Lib.hid (IntI.ext HZW.out E2.out)
      clear ho q c0 c1 c2 c3
      go_wp2_with (at_builtin; refine wpList_append_ow (w0 := wr) (w1 := w2) rfl (.tmp 15) (.tmp 19) 27 rfl (w1.heap.size + 1) i0 Try.underlying27 HI.out HZ0.out HZ1.out HZ2.out _ us (mapF (numT (varsL ts [])) tk) a2 _ rfl A2.out rfl HO.out hs2 hsz hlu (by simp) ?_; intro av2 cv2 w3 hA3 hf3; have A3 := Lib.hid hA3; have F3 := Lib.hid hf3; clear hA3 hf3)
      go_roundw
      case rel =>
        have hl2 : (us ++ [mapF (numT (varsL ts [])) tk]).length = us.length + 1 := by simp
        refine ⟨j + 1, av2, cv2, us ++ [mapF (numT (varsL ts [])) tk], by omega, by go_num, by rw [hl2], Lib.hid (by rw [HU.out, HNX.out]), Lib.hid (by rw [hl2]; exact A3.out), ((Fr.of_ext (he.trans E2.out)).trans F3.out).toExt (fun k hk h => by omega), F3.out.cell (by omega) hzc2, Lib.hid (ZW2.out.keep F3.out (fun k _ h hz => by omega))⟩
      case measure => simp [intOf]; omega
    · have hjl : j = ts.length := by omega
      subst hjl
      have hus : us = renF ts := by rw [HU.out, List.take_of_length_le (Nat.le_refl _)]; rfl
      subst hus
      have A4 := Lib.hid (HA.out.mono (M := fun _ => False) (F' := fun b => w.heap.size ≤ b) (fun b hb => by omega) (Fr.refl _ _) (fun _ _ h => h))
      go_wp2_with fail
      go_ret
      exact ⟨_, _, rfl, A4.out, he⟩

end Go.Proofs.Yteplfajhmpmklaa
