/-
  The program's reader: name.
-/
import Derived.Test.YtognkaebiafgbaaGreatDoorMr38
import Derived.Test.YtognkaebiafgbaaGreatDoorMr40
namespace Go.Proofs.YtognkaebiafgbaaGreatDoor
open Go.RowKit
set_option linter.unusedVariables false
theorem split_at {p : UInt8 → Bool} {r : List UInt8} {k : Nat} (hk : k ≤ r.length) (h1 : ∀ c ∈ r.take k, p c = true) (h2 : ∀ c q, r.drop k = c :: q → p c = false) : r.takeWhile p = r.take k ∧ r.dropWhile p = r.drop k :=
  take_drop_digits (List.take_append_drop k r).symm h1 h2
def NmPost (rb : Nat) (s : ByteArray) (o : Bool) (X : Option (List UInt8 × List UInt8)) (w : World) (e : Ending) (w' : World) : Prop :=
  Fr (fun k => k = rb) w w' ∧ RdW rb s o (X.map Prod.snd) w' ∧ e = .returned (.string (bs ((X.map Prod.fst).getD [])))
def sgF (r : List UInt8) (n : Nat) (s : ByteArray) : Nat := if s.toList.isPrefixOf r = true then max n s.size else n
theorem sgF_le {r : List UInt8} {n : Nat} {s : ByteArray} (h : n ≤ r.length) : sgF r n s ≤ r.length := by
  unfold sgF
  split
  · rename_i hp
    have := (List.isPrefixOf_iff_prefix.1 hp).length_le
    rw [bl_len] at this
    omega
  · exact h
theorem sg_snoc {r : List UInt8} {ss : List ByteArray} {j : Nat} {x : ByteArray} (h : ss[j]? = some x) : (ss.take (j + 1)).foldl (sgF r) 0 = sgF r ((ss.take j).foldl (sgF r) 0) x := by
  have hj : j < ss.length := by
    apply Decidable.byContradiction
    intro hn
    rw [List.getElem?_eq_none (by omega)] at h
    cases h
  have hx : ss[j] = x := by rw [List.getElem?_eq_getElem hj] at h; exact Option.some.inj h
  rw [List.take_succ_eq_append_getElem hj, List.foldl_append, hx]
  rfl
theorem bs_getE {r : List UInt8} {k : Nat} (h : k < (bs r).size) : r[k]? = some (bs r)[k] := by
  have hl : k < r.length := by rw [bs_size] at h; exact h
  rw [List.getElem?_eq_getElem hl]
  congr 1
theorem take_all {p : UInt8 → Bool} {r : List UInt8} {k : Nat} {c : UInt8} (h : ∀ c ∈ r.take k, p c = true) (hk : r[k]? = some c) (hc : p c = true) : ∀ c ∈ r.take (k + 1), p c = true := by
  intro x hx
  have hl : k < r.length := by
    apply Decidable.byContradiction
    intro hn
    rw [List.getElem?_eq_none (by omega)] at hk
    cases hk
  rw [List.take_succ_eq_append_getElem hl] at hx
  rcases List.mem_append.1 hx with hx | hx
  · exact h x hx
  · rw [List.getElem?_eq_getElem hl] at hk
    rw [List.mem_singleton.1 hx, Option.some.inj hk]; exact hc
theorem drop_get {r : List UInt8} {k : Nat} {c c' : UInt8} {q : List UInt8} (hk : r[k]? = some c) (h : r.drop k = c' :: q) : c' = c := by
  have := congrArg (fun l => l[0]?) h
  simp only [List.getElem?_drop, List.getElem?_cons_zero, Nat.add_zero] at this
  rw [hk] at this
  exact (Option.some.inj this).symm
set_option maxRecDepth 100000 in
set_option maxHeartbeats 4000000 in
theorem rdname {rb : Nat} {s : ByteArray} {o : Bool} {r : List UInt8} {w : World} (hs : s.size ≤ 4000) (h : RdW rb s o (some r) w) :
    Calls Tryz.prog 137 #[.pointer (some ⟨rb, 0, none⟩)] w (NmPost rb s o (nameP r) w) := by
  obtain ⟨n, h1, h2, hb⟩ := h.good
  have hlen : n + r.length = s.size := by
    have := congrArg List.length h2
    rw [List.length_drop, bl_len] at this
    omega
  have hrest : s.extract n s.size = bs r := by rw [ext_end rfl, h2]
  have hsz := bs_size r
  have hlt := hb.lt
  have HB := Lib.hid hb
  have H := Lib.hid h
  have H2 := Lib.hid h2
  obtain ⟨c0, c1, c2, c3, f0, f1, f2, f3⟩ := hb
  have k0 := cell_regrown c0
  have k1 := cell_regrown c1
  clear h h2
  go_enter Tryz.func137, Tryz.ntmps137
  go_wp2_with fail
  refine region_ext (by kernel_rfl) (by kernel_rfl) ?_
  repeat (go_big_quiet_step (fail))
  refine wpQuiet_nil ?_
  intro w1 e1
  have hb1 := HB.out.ext e1
  have HB1 := Lib.hid hb1
  have HR1 := Lib.hid (H.out.ext e1)
  have hlt1 := hb1.lt
  obtain ⟨d0, d1, d2, d3, g0, g1, g2, g3⟩ := hb1
  have E1 := Lib.hid e1
  clear k0 k1 c0 c1 c2 c3 f0 f1 f2 f3 hrest e1
  go_wp2_with fail
  go_loop [4] (fun i => ∃ k : Nat, k ≤ r.length ∧ i = .int .i64 k ∧ Hid (∀ c ∈ r.take k, smallB c = true)) (fun i => r.length - (intOf i).toNat)
  case atStart => exact ⟨0, Nat.zero_le _, rfl, Lib.hid (by simp)⟩
  case round =>
    obtain ⟨k, hk, rfl, HA⟩ := hrel
    -- a letter more
    by_cases hgo : ∃ hl : k < (bs r).size, 97 ≤ ((bs r)[k].toNat : Int) ∧ ((bs r)[k].toNat : Int) ≤ 122
    · obtain ⟨hl, g1, g2⟩ := hgo
      have HN := Lib.hid (take_all HA.out (bs_getE hl) (by simp only [smallB, decide_eq_true_eq]; omega))
      go_wp2_with fail
      go_round
      case rel => exact ⟨k + 1, by omega, by go_num, HN⟩
      case measure => simp [intOf]; omega
    · have HS : Hid (r.takeWhile smallB = r.take k ∧ r.dropWhile smallB = r.drop k) := Lib.hid (split_at hk HA.out (fun c q e => by
        have hl : k < r.length := by
          apply Decidable.byContradiction
          intro hn
          rw [List.drop_eq_nil_of_le (by omega)] at e
          cases e
        have hl' : k < (bs r).size := by rw [bs_size]; exact hl
        have := drop_get (bs_getE hl') e
        rw [this]
        simp only [smallB, decide_eq_false_iff_not]
        intro hc
        exact hgo ⟨hl', by omega, by omega⟩))
      have HT : Hid ((r.takeWhile smallB).length = k) := Lib.hid (by rw [HS.out.1, List.length_take]; omega)
      have key : ∀ Q : Prop, (∀ hl : ¬ k < (bs r).size, Q) → (∀ hl : k < (bs r).size, ((bs r)[k].toNat : Int) < 97 → Q) → (∀ hl : k < (bs r).size, 97 ≤ ((bs r)[k].toNat : Int) → 122 < ((bs r)[k].toNat : Int) → Q) → Q := by
        intro Q q1 q2 q3
        by_cases hl : k < (bs r).size
        · by_cases h97 : ((bs r)[k].toNat : Int) < 97
          · exact q2 hl h97
          · refine q3 hl (by omega) ?_
            apply Decidable.byContradiction
            intro hn
            exact hgo ⟨hl, by omega, by omega⟩
        · exact q1 hl
      clear hgo HA
      refine key _ (fun hl => ?_) (fun hl h97 => ?_) (fun hl h97 h122 => ?_)
      all_goals
        clear key
        by_cases h6 : 6 < k
        · have HX : Hid (nameP r = none) := Lib.hid (by unfold nameP; rw [HT.out, if_pos h6])
          go_wp2_with fail
          refine (implstop (o := o) (n := (n : Int)) (by omega) HR1.out).mono ?_
          rintro e w2 ⟨t, ta, tc, rfl, _, f2, hr2, _⟩
          have F2 := Lib.hid f2
          have R2 := Lib.hid hr2
          clear f2 hr2
          go_wp2_with fail
          go_ret
          rw [HX.out]
          exact ⟨(Fr.of_ext E1.out).trans F2.out, R2.out, rfl⟩
        · by_cases h0 : k = 0
          · subst h0
            go_wp2_with fail
            refine (implsymbols _).mono ?_
            rintro e w2 ⟨v, rfl, hv, e2⟩
            have HB2 := Lib.hid (HB1.out.ext e2)
            have HR2 := Lib.hid (HR1.out.ext e2)
            have E2 := Lib.hid (E1.out.trans e2)
            have hb2 := HB2.out
            have hlt2 := hb2.lt
            obtain ⟨d0, d1, d2, d3, g0, g1, g2, g3⟩ := hb2
            obtain ⟨av, cap, rfl, v1, v2, v3, v4⟩ := hv
            have V4 := Lib.hid v4
            clear e2 v4
            go_wp2_with fail
            go_loop [4, 46] (fun q i => ∃ j m : Nat, j ≤ signs.length ∧ i = .int .i64 j ∧ q = .int .i64 m ∧ Hid ((signs.take j).foldl (sgF r) 0 = m) ∧ m ≤ r.length) (fun _ i => signs.length - (intOf i).toNat)
            case atStart => exact ⟨0, 0, Nat.zero_le _, rfl, rfl, Lib.hid rfl, Nat.zero_le _⟩
            case round =>
              obtain ⟨j, m, hj, rfl, rfl, HM, hm⟩ := hrel
              by_cases hjl : j < signs.length
              · rcases V4.out with h4 | ⟨bk, off, rfl, h5⟩
                · rw [h4] at hjl; simp at hjl
                · obtain ⟨x, hx⟩ : ∃ x, signs[j]? = some x := ⟨signs[j], by simp [hjl]⟩
                  have hc := h5 j x hx
                  have HS1 := Lib.hid (sg_snoc (r := r) hx)
                  have hxs := sgF_le (r := r) (n := m) (s := x) hm
                  have hP := Tryz.strings_HasPrefix (bs r) x w2
                  have hpe : Lib.hasPrefix (bs r).data.toList x.data.toList = x.toList.isPrefixOf r := by rw [ByteArray.toList_eq]; rfl
                  rw [hpe] at hP
                  clear hx h5 hpe
                  cases hp : x.toList.isPrefixOf r
                  · rw [hp] at hP
                    have hsg : sgF r m x = m := by unfold sgF; rw [if_neg (by rw [hp]; decide)]
                    have HN := Lib.hid (show (signs.take (j + 1)).foldl (sgF r) 0 = m by rw [HS1.out, HM.out, hsg])
                    clear hp hsg
                    go_wp2_with (go_at_call 134; refine hP.mono ?_; rintro e w3 ⟨rfl, rfl⟩)
                    go_round
                    case rel => exact ⟨j + 1, m, by omega, by go_num, rfl, HN, hm⟩
                    case measure => simp [intOf]; omega
                  · rw [hp] at hP
                    have hsg : sgF r m x = max m x.size := by unfold sgF; rw [if_pos hp]
                    have HN := Lib.hid (show (signs.take (j + 1)).foldl (sgF r) 0 = max m x.size by rw [HS1.out, HM.out, hsg])
                    rw [hsg] at hxs
                    clear hp hsg
                    go_wp2_with (go_at_call 134; refine hP.mono ?_; rintro e w3 ⟨rfl, rfl⟩)
                    exact ⟨⟨j + 1, max m x.size, by omega, by go_num, congrArg (Value.int .i64) (by omega), HN, hxs⟩, by simp [intOf]; omega⟩
              · have hm' : signN r = m := by
                  have := HM.out
                  rw [List.take_of_length_le (by omega)] at this
                  exact this
                by_cases hm0 : m = 0
                · subst hm0
                  have HX : Hid (nameP r = none) := Lib.hid (by unfold nameP; rw [HT.out, if_neg (by omega), if_neg (by omega), if_pos hm'])
                  clear hm'
                  go_wp2_with fail
                  refine (implstop (o := o) (n := (n : Int)) (by omega) HR2.out).mono ?_
                  rintro e w4 ⟨t, ta, tc, rfl, _, f4, hr4, _⟩
                  have F4 := Lib.hid f4
                  have R4 := Lib.hid hr4
                  clear f4 hr4
                  go_wp2_with fail
                  go_ret
                  rw [HX.out]
                  exact ⟨(Fr.of_ext E2.out).trans F4.out, R4.out, rfl⟩
                · have HX : Hid (nameP r = some (r.take m, r.drop m)) := Lib.hid (by unfold nameP; rw [HT.out, if_neg (by omega), if_neg (by omega), if_neg (by omega), hm'])
                  have hex : (bs r).extract 0 m = bs (r.take m) := ext_bs (n := 0) (r := r.drop m) (by rw [bs_list, List.drop_zero, List.take_append_drop]) (by rw [List.length_take]; omega) (by omega)
                  clear hm'
                  go_wp2_with fail
                  all_goals
                    go_ret
                    rw [HX.out]
                    refine ⟨(Fr.of_ext E2.out).trans (Fr.setCell (M := fun k => k = rb) _ rfl), RdW.mk (n := n + m) (by omega) (by rw [← List.drop_drop, H2.out]) ?_, rfl⟩
                    exact HB2.out.setAt _
          · have HX : Hid (nameP r = some (r.take k, r.drop k)) := Lib.hid (by unfold nameP; rw [HT.out, if_neg h6, if_pos (by omega), HS.out.1, HS.out.2])
            have hex : (bs r).extract 0 k = bs (r.take k) := ext_bs (n := 0) (r := r.drop k) (by rw [bs_list, List.drop_zero, List.take_append_drop]) (by rw [List.length_take]; omega) (by omega)
            go_wp2_with fail
            go_ret
            rw [HX.out]
            refine ⟨(Fr.of_ext E1.out).trans (Fr.setCell (M := fun k => k = rb) _ rfl), RdW.mk (n := n + k) (by omega) (by rw [← List.drop_drop, H2.out]) ?_, rfl⟩
            exact HB1.out.setAt _
end Go.Proofs.YtognkaebiafgbaaGreatDoor

namespace Go.Proofs.YtognkaebiafgbaaGreatDoor
open Go.RowKit
set_option linter.unusedVariables false
theorem u8_eq0 (b : UInt8) : ((b.toNat : Int) == 0) = decide (b = 0) := u8_beq b 0
theorem u8_eq40 (b : UInt8) : ((b.toNat : Int) == 40) = decide (b = 40) := u8_beq b 40
theorem u8_eq91 (b : UInt8) : ((b.toNat : Int) == 91) = decide (b = 91) := u8_beq b 91
theorem prim_deep {o : Bool} {F deep : Nat} {rest : List UInt8} (h : 30 < deep) : primF o (F + 1) deep rest = none := by
  cases rest with
  | nil => simp [primF]
  | cons b r => rw [primF, if_pos h]
theorem prim_nil {o : Bool} {F deep : Nat} : primF o (F + 1) deep [] = none := by simp [primF]
theorem prim_zero {o : Bool} {F deep : Nat} {r : List UInt8} : primF o (F + 1) deep (0 :: r) = none := by
  rw [primF]
  split
  · rfl
  · rfl
set_option maxRecDepth 100000 in
set_option maxHeartbeats 8000000 in
theorem rdprim_fail (o : Bool) (F : Nat) (rb : Nat) (s : ByteArray) (deep : Nat) (rest : List UInt8) (w : World) (hs : s.size ≤ 4000) (hd : deep ≤ 9000) (h : RdW rb s o (some rest) w) (hf : 30 < deep ∨ nextB (some rest) = 0) :
    Calls Tryz.prog 88 #[.pointer (some ⟨rb, 0, none⟩), .int .i64 deep] w (RdTm rb s o none w) := by
  have H := Lib.hid h
  obtain ⟨n, h1, h2, hb⟩ := h.good
  have hlt := hb.lt
  have HB := Lib.hid hb
  obtain ⟨c0, c1, c2, c3, f0, f1, f2, f3⟩ := hb
  clear h h2
  have stopEnd : ∀ {w1 : World} {t : Tm} {ta : Option Addr} {tc : Nat}, True := fun {_ _ _ _} => trivial
  by_cases hdp : 30 < deep
  · clear hf stopEnd
    go_enter Tryz.func88, Tryz.ntmps88
    go_wp2_with fail
    refine (implstop (o := o) (X := some rest) (n := (n : Int)) (by omega) (H.out.ext (Ext.alloc _ _))).mono ?_
    rintro e w2 ⟨t, ta, tc, rfl, ho, f2, hr2, _⟩
    have hz := (BoxT.new w (.int .i64 0) (.int .i64 0) (.string ⟨#[]⟩) (.slice none 0 0) 25 rfl).fr f2 (by omega)
    have HZ := Lib.hid hz
    have W2 := Lib.hid ((Fr.alloc (M := fun k => k = rb) w _).trans f2)
    have HR := Lib.hid hr2
    have HO := Lib.hid ho
    have lz := hz.lt
    obtain ⟨z0, z1, z2, z3, y0, y1, y2, y3⟩ := hz
    clear ho hr2 f2
    go_wp2_with fail
    exact rd_ret (p := 4) (T := 25) (b := w.heap.size) (t := t) (ta := ta) (tc := tc) (X := none) (by kernel_rfl) (fun _ => by kernel_rfl) (fun _ => by kernel_rfl) rfl rfl HZ.out (Nat.le_refl _) (by omega) W2.out HO.out (fun k hk => by have hk : (w.alloc _).heap.size ≤ k := hk; simp at hk; omega) HR.out (fun u r h => by cases h)
  · have hn : nextB (some rest) = 0 := by rcases hf with h | h; exact absurd h hdp; exact h
    have heq := u8_eq0 (nextB (some rest))
    rw [decide_eq_true hn] at heq
    clear hf stopEnd hn
    go_enter Tryz.func88, Tryz.ntmps88
    go_wp2_with fail
    refine (implnext hs (H.out.ext (Ext.alloc _ _))).mono ?_
    rintro e w1 ⟨rfl, e1⟩
    have hb1 := (HB.out.ext (Ext.alloc _ (.cells #[.int .i64 0, .int .i64 0, .string ⟨#[]⟩, .slice none 0 0] 25))).ext e1
    obtain ⟨d0, d1, d2, d3, g0, g1, g2, g3⟩ := hb1
    go_wp2_with fail
    refine (implstop (o := o) (X := some rest) (n := (n : Int)) (by omega) ((H.out.ext (Ext.alloc _ _)).ext e1)).mono ?_
    rintro e w2 ⟨t, ta, tc, rfl, ho, f2, hr2, _⟩
    have s1 : w.heap.size + 1 ≤ w1.heap.size := by have := Below.size e1; simpa using this
    have hz := ((BoxT.new w (.int .i64 0) (.int .i64 0) (.string ⟨#[]⟩) (.slice none 0 0) 25 rfl).ext e1).fr f2 (by omega)
    have HZ := Lib.hid hz
    have W2 := Lib.hid (((Fr.alloc (M := fun k => k = rb) w _).trans (Fr.of_ext e1)).trans f2)
    have HR := Lib.hid hr2
    have HO := Lib.hid ho
    have lz := hz.lt
    obtain ⟨z0, z1, z2, z3, y0, y1, y2, y3⟩ := hz
    clear ho hr2 f2 d0 d1 d2 d3 g0 g1 g2 g3
    go_wp2_with fail
    exact rd_ret (p := 4) (T := 25) (b := w.heap.size) (t := t) (ta := ta) (tc := tc) (X := none) (by kernel_rfl) (fun _ => by kernel_rfl) (fun _ => by kernel_rfl) rfl rfl HZ.out (Nat.le_refl _) (by omega) W2.out HO.out (fun k hk => by have hk : w1.heap.size ≤ k := hk; omega) HR.out (fun u r h => by cases h)
set_option maxRecDepth 100000 in
set_option maxHeartbeats 8000000 in
theorem rdprim_up (o : Bool) (rb : Nat) (s : ByteArray) (deep : Nat) (b : UInt8) (r : List UInt8) (w : World) (hs : s.size ≤ 4000) (hd : deep ≤ 30) (h : RdW rb s o (some (b :: r)) w) (h0 : b ≠ 0) (hu : isUp b = true) :
    Calls Tryz.prog 88 #[.pointer (some ⟨rb, 0, none⟩), .int .i64 deep] w (RdTm rb s o (some (vT b, r)) w) := by
  have H := Lib.hid h
  obtain ⟨n, h1, h2, hb⟩ := h.good
  have hlt := hb.lt
  have HB := Lib.hid hb
  have H2 := Lib.hid h2
  obtain ⟨h3, _, h4⟩ := drop_cons h2
  obtain ⟨c0, c1, c2, c3, f0, f1, f2, f3⟩ := hb
  have q0 := u8_eq0 b
  rw [decide_eq_false h0] at q0
  clear h h2 h4 h0
  have hu2 : 65 ≤ b.toNat ∧ b.toNat ≤ 90 := by simpa [isUp] using hu
  obtain ⟨u1, u2⟩ := hu2
  have u3 : (65 : Int) ≤ b.toNat := by omega
  have u4 : (b.toNat : Int) ≤ 90 := by omega
  clear hu
  go_enter Tryz.func88, Tryz.ntmps88
  go_wp2_with fail
  refine (implnext hs (H.out.ext (Ext.alloc _ _))).mono ?_
  rw [show nextB (some (b :: r)) = b from rfl]
  rintro e w1 ⟨rfl, e1⟩
  have s1 : w.heap.size + 1 ≤ w1.heap.size := by have := Below.size e1; simpa using this
  have HB1 := Lib.hid ((HB.out.ext (Ext.alloc w (.cells #[.int .i64 0, .int .i64 0, .string ⟨#[]⟩, .slice none 0 0] 25))).ext e1)
  have HZ1 := Lib.hid ((BoxT.new w (.int .i64 0) (.int .i64 0) (.string ⟨#[]⟩) (.slice none 0 0) 25 rfl).ext e1)
  have W1 := Lib.hid ((Fr.alloc (M := fun k => k = rb) w (.cells #[.int .i64 0, .int .i64 0, .string ⟨#[]⟩, .slice none 0 0] 25)).trans (Fr.of_ext e1))
  have H1 := Lib.hid ((H.out.ext (Ext.alloc w (.cells #[.int .i64 0, .int .i64 0, .string ⟨#[]⟩, .slice none 0 0] 25))).ext e1)
  have hb1 := HB1.out
  have hlt1 := hb1.lt
  have lz1 := HZ1.out.lt
  obtain ⟨d0, d1, d2, d3, g0, g1, g2, g3⟩ := hb1
  clear e1
  go_wp2_with fail
  refine (rdvariable _ _).mono ?_
  rintro e w3 ⟨ta, tc, rfl, ho, e3⟩
  have fs : Fr (fun k => k = rb) w1 (w1.setCell ⟨rb, 1, none⟩ (.int .i64 ((n : Int) + 1))) := Fr.setCell w1 rfl
  have hz3 := (HZ1.out.fr fs (by omega)).ext e3
  have HZ3 := Lib.hid hz3
  have W3 := Lib.hid ((W1.out.trans fs).trans (Fr.of_ext e3))
  have HR := Lib.hid ((RdW.step HB1.out H2.out rfl).ext e3)
  have HO := Lib.hid ho
  have ss : w1.heap.size ≤ (w1.setCell ⟨rb, 1, none⟩ (.int .i64 ((n : Int) + 1))).heap.size := fs.size
  have lz3 := hz3.lt
  obtain ⟨z0, z1, z2, z3, y0, y1, y2, y3⟩ := hz3
  clear ho d0 d1 d2 d3 g0 g1 g2 g3 fs
  go_wp2_with fail
  exact rd_ret (p := 4) (T := 25) (b := w.heap.size) (t := vT b) (ta := ta) (tc := tc) (X := some (vT b, r)) (by kernel_rfl) (fun _ => by kernel_rfl) (fun _ => by kernel_rfl) rfl rfl HZ3.out (Nat.le_refl _) (by omega) W3.out HO.out (fun k hk => by have hk : (w1.setCell ⟨rb, 1, none⟩ (.int .i64 ((n : Int) + 1))).heap.size ≤ k := hk; omega) HR.out (fun u r h => by cases h; rfl)
set_option maxRecDepth 100000 in
set_option maxHeartbeats 8000000 in
theorem rdprim_num (o : Bool) (rb : Nat) (s : ByteArray) (deep : Nat) (b : UInt8) (r : List UInt8) (w : World) (hs : s.size ≤ 4000) (hd : deep ≤ 30) (h : RdW rb s o (some (b :: r)) w) (h0 : b ≠ 0) (hL : LibW rb w) (hu : isUp b = false) (hst : numStart (b :: r) = true) :
    Calls Tryz.prog 88 #[.pointer (some ⟨rb, 0, none⟩), .int .i64 deep] w (RdTm rb s o (numP (b :: r)) w) := by
  have H := Lib.hid h
  obtain ⟨n, h1, h2, hb⟩ := h.good
  have hlt := hb.lt
  have HB := Lib.hid hb
  have H2 := Lib.hid h2
  obtain ⟨h3, _, h4⟩ := drop_cons h2
  obtain ⟨c0, c1, c2, c3, f0, f1, f2, f3⟩ := hb
  have q0 := u8_eq0 b
  rw [decide_eq_false h0] at q0
  clear h h2 h4 h0
  have HL := Lib.hid hL
  have HST := Lib.hid hst
  have hu2 : ¬ (65 ≤ b.toNat ∧ b.toNat ≤ 90) := by simpa [isUp] using hu
  clear hu hL hst
  by_cases u3 : (65 : Int) ≤ b.toNat
  · have u4 : ¬ (b.toNat : Int) ≤ 90 := by omega
    go_enter Tryz.func88, Tryz.ntmps88
    go_wp2_with fail
    refine (implnext hs (H.out.ext (Ext.alloc _ _))).mono ?_
    rw [show nextB (some (b :: r)) = b from rfl]
    rintro e w1 ⟨rfl, e1⟩
    have s1 : w.heap.size + 1 ≤ w1.heap.size := by have := Below.size e1; simpa using this
    have HB1 := Lib.hid ((HB.out.ext (Ext.alloc w (.cells #[.int .i64 0, .int .i64 0, .string ⟨#[]⟩, .slice none 0 0] 25))).ext e1)
    have HZ1 := Lib.hid ((BoxT.new w (.int .i64 0) (.int .i64 0) (.string ⟨#[]⟩) (.slice none 0 0) 25 rfl).ext e1)
    have W1 := Lib.hid ((Fr.alloc (M := fun k => k = rb) w (.cells #[.int .i64 0, .int .i64 0, .string ⟨#[]⟩, .slice none 0 0] 25)).trans (Fr.of_ext e1))
    have H1 := Lib.hid ((H.out.ext (Ext.alloc w (.cells #[.int .i64 0, .int .i64 0, .string ⟨#[]⟩, .slice none 0 0] 25))).ext e1)
    have hb1 := HB1.out
    have hlt1 := hb1.lt
    have lz1 := HZ1.out.lt
    obtain ⟨d0, d1, d2, d3, g0, g1, g2, g3⟩ := hb1
    clear e1
    have N := Lib.hid (implisNumber hs H1.out)
    rw [HST.out] at N
    go_wp2_with fail
    refine N.out.mono ?_
    rintro e w2 ⟨rfl, e2⟩
    go_wp2_with fail
    refine (rdnumber hs ((HL.out.fr W1.out).ext e2) (H1.out.ext e2) HST.out).mono ?_
    rintro e w3 ⟨t, ta, tc, rfl, ho, f3, hr3, hX⟩
    have s2 := Below.size e2
    have hz3 := (HZ1.out.ext e2).fr f3 (by omega)
    have HZ3 := Lib.hid hz3
    have W3 := Lib.hid ((W1.out.trans (Fr.of_ext e2)).trans f3)
    have HR := Lib.hid hr3
    have HO := Lib.hid ho
    have HX := Lib.hid hX
    have lz3 := hz3.lt
    obtain ⟨z0, z1, z2, z3, y0, y1, y2, y3⟩ := hz3
    clear ho hr3 f3 hX d0 d1 d2 d3 g0 g1 g2 g3
    go_wp2_with fail
    exact rd_ret (p := 4) (T := 25) (b := w.heap.size) (t := t) (ta := ta) (tc := tc) (by kernel_rfl) (fun _ => by kernel_rfl) (fun _ => by kernel_rfl) rfl rfl HZ3.out (Nat.le_refl _) (by omega) W3.out HO.out (fun k hk => by have hk : w2.heap.size ≤ k := hk; omega) HR.out HX.out
  · go_enter Tryz.func88, Tryz.ntmps88
    go_wp2_with fail
    refine (implnext hs (H.out.ext (Ext.alloc _ _))).mono ?_
    rw [show nextB (some (b :: r)) = b from rfl]
    rintro e w1 ⟨rfl, e1⟩
    have s1 : w.heap.size + 1 ≤ w1.heap.size := by have := Below.size e1; simpa using this
    have HB1 := Lib.hid ((HB.out.ext (Ext.alloc w (.cells #[.int .i64 0, .int .i64 0, .string ⟨#[]⟩, .slice none 0 0] 25))).ext e1)
    have HZ1 := Lib.hid ((BoxT.new w (.int .i64 0) (.int .i64 0) (.string ⟨#[]⟩) (.slice none 0 0) 25 rfl).ext e1)
    have W1 := Lib.hid ((Fr.alloc (M := fun k => k = rb) w (.cells #[.int .i64 0, .int .i64 0, .string ⟨#[]⟩, .slice none 0 0] 25)).trans (Fr.of_ext e1))
    have H1 := Lib.hid ((H.out.ext (Ext.alloc w (.cells #[.int .i64 0, .int .i64 0, .string ⟨#[]⟩, .slice none 0 0] 25))).ext e1)
    have hb1 := HB1.out
    have hlt1 := hb1.lt
    have lz1 := HZ1.out.lt
    obtain ⟨d0, d1, d2, d3, g0, g1, g2, g3⟩ := hb1
    clear e1
    have N := Lib.hid (implisNumber hs H1.out)
    rw [HST.out] at N
    go_wp2_with fail
    refine N.out.mono ?_
    rintro e w2 ⟨rfl, e2⟩
    go_wp2_with fail
    refine (rdnumber hs ((HL.out.fr W1.out).ext e2) (H1.out.ext e2) HST.out).mono ?_
    rintro e w3 ⟨t, ta, tc, rfl, ho, f3, hr3, hX⟩
    have s2 := Below.size e2
    have hz3 := (HZ1.out.ext e2).fr f3 (by omega)
    have HZ3 := Lib.hid hz3
    have W3 := Lib.hid ((W1.out.trans (Fr.of_ext e2)).trans f3)
    have HR := Lib.hid hr3
    have HO := Lib.hid ho
    have HX := Lib.hid hX
    have lz3 := hz3.lt
    obtain ⟨z0, z1, z2, z3, y0, y1, y2, y3⟩ := hz3
    clear ho hr3 f3 hX d0 d1 d2 d3 g0 g1 g2 g3
    go_wp2_with fail
    exact rd_ret (p := 4) (T := 25) (b := w.heap.size) (t := t) (ta := ta) (tc := tc) (by kernel_rfl) (fun _ => by kernel_rfl) (fun _ => by kernel_rfl) rfl rfl HZ3.out (Nat.le_refl _) (by omega) W3.out HO.out (fun k hk => by have hk : w2.heap.size ≤ k := hk; omega) HR.out HX.out
end Go.Proofs.YtognkaebiafgbaaGreatDoor
