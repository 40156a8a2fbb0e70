/-
  The reference's l1Bend; the draws of texts of terms.
-/
import Derived.Test.YtognkaebiafgbaaGreatDoorMp15
import Derived.Test.YtognkaebiafgbaaGreatDoorMp16
import Derived.Test.YtognkaebiafgbaaGreatDoorMp39
import Derived.Test.YtognkaebiafgbaaGreatDoorMp32
namespace Go.Proofs.YtognkaebiafgbaaGreatDoor
open Go.RowKit
set_option linter.unusedVariables false

theorem drawn_shape : ∀ (d : Nat) (t : Tm) (e : Nat), Drawn d t → d ≤ e → shapeF t e = true
  | 0, _, _, h, _ => h.elim
  | d + 1, .mk k n s ks, e, h, he => by
    have hL : ∀ (us : List Tm), (∀ u ∈ us, Drawn d u) → shapeL us (e - 1) = true := by
      intro us
      induction us with
      | nil => intro _; rfl
      | cons u us ih =>
        intro hu
        simp only [shapeL, Bool.and_eq_true]
        exact ⟨drawn_shape d u (e - 1) (hu u (by simp)) (by omega), ih (fun x hx => hu x (by simp [hx]))⟩
    have e1 : decide (1 ≤ e) = true := decide_eq_true (by omega)
    rcases h with ⟨rfl, h1, h2, rfl, rfl⟩ | ⟨rfl, h1, h2, rfl, rfl⟩ | ⟨rfl, rfl, h3, h4, h5⟩
    · have hs : ((⟨#[]⟩ : ByteArray).toList == []) = true := by rw [ByteArray.toList_eq]; rfl
      simp only [shapeF, shapeL, ownF, e1, if_true, hs, decide_eq_true h1, decide_eq_true (show n ≤ 25 by omega), List.length_nil, decide_true, Bool.and_self]
    · have hs : ((⟨#[]⟩ : ByteArray).toList == []) = true := by rw [ByteArray.toList_eq]; rfl
      simp only [shapeF, shapeL, ownF, e1, if_true, if_false, hs, decide_eq_true h1, decide_eq_true h2, List.length_nil, decide_true, Bool.and_self, show ¬ ((2 : Int) = 1) by decide]
    · have hn : nameF s = true := (show ∀ x ∈ drawNames, nameF x = true by decide +kernel) s h3
      simp only [shapeF, ownF, e1, hL ks h5, if_true, if_false, hn, decide_eq_true (show ks.length ≤ 4 by omega), decide_true, Bool.and_self, show ¬ ((3 : Int) = 1) by decide, show ¬ ((3 : Int) = 2) by decide]
def szB : Nat → Nat
  | 0 => 0
  | d + 1 => 1 + 3 * szB d
theorem drawn_sz : ∀ (d : Nat) (t : Tm), Drawn d t → Tm.sz t ≤ szB d
  | 0, _, h => h.elim
  | d + 1, .mk k n s ks, h => by
    have hL : ∀ (us : List Tm), (∀ u ∈ us, Drawn d u) → Tm.szL us ≤ us.length * szB d := by
      intro us
      induction us with
      | nil => intro _; simp [Tm.szL]
      | cons u us ih =>
        intro hu
        have h1 := drawn_sz d u (hu u (by simp))
        have h2 := ih (fun x hx => hu x (by simp [hx]))
        simp only [Tm.szL, List.length_cons, Nat.add_mul, Nat.one_mul]
        omega
    simp only [Tm.sz, szB]
    rcases h with ⟨_, _, _, _, rfl⟩ | ⟨_, _, _, _, rfl⟩ | ⟨_, _, _, h4, h5⟩
    · simp only [Tm.szL]; omega
    · simp only [Tm.szL]; omega
    · have h6 := hL ks h5
      have h7 : ks.length * szB d ≤ 3 * szB d := Nat.mul_le_mul_right _ h4
      omega
theorem drawn_valid {t : Tm} (h : Drawn 4 t) : validF t = true := by
  have h1 := drawn_shape 4 t 30 h (by omega)
  have h2 := drawn_sz 4 t h
  have h3 : szB 4 = 40 := rfl
  rw [valid_eq, h1, Bool.true_and, decide_eq_true_eq]
  omega
/-- what l1Bend leaves -/
def BendPost (r p : Nat) (s : ByteArray) (w : World) (e : Ending) (w' : World) : Prop := ∃ (u : ByteArray) (p' : Nat), e = .returned (.string u) ∧ u.size ≤ s.size + 4 ∧ Rd w' r p' ∧ p' ≤ p + 4 ∧ ExtR r w w'
theorem hv_ext {r : Nat} {w w' : World} {ss : List ByteArray} {v : Value} (hb : ∀ b o c l, v = .slice (some ⟨b, o, none⟩) l c → b ≠ r) (h : StrsAt w ss v) (e : ExtR r w w') : StrsAt w' ss v := by
  obtain ⟨a, cap, hv, v1, v2, v3, v4⟩ := h
  subst hv
  refine ⟨a, cap, rfl, v1, v2, v3, ?_⟩
  rcases v4 with v4 | ⟨b, off, rfl, v5⟩
  · exact .inl v4
  · exact .inr ⟨b, off, rfl, fun i x hx => e.cell (hb b off _ _ rfl) (v5 i x hx)⟩
set_option maxRecDepth 100000 in
set_option maxHeartbeats 4000000 in
theorem specl1Bend (r p : Nat) (s : ByteArray) (bits : List ByteArray) (v : Value) (w : World) (hs : s.size ≤ 1048570) (hp : p + 4 ≤ 1099511627776) (hr : Rd w r p) (hz : bits ≠ []) (hb : ∀ b o c l, v = .slice (some ⟨b, o, none⟩) l c → b ≠ r) (hv : StrsAt w bits v) (h4 : ∀ b ∈ bits, b.size ≤ 4) :
    Calls Tryz.prog 68 #[.pointer (some ⟨r, 0, none⟩), .string s, v] w (BendPost r p s w) := by
  have R := Lib.hid hr
  have HV := Lib.hid hv
  have HB := Lib.hid hb
  have H4 := Lib.hid h4
  have hrl := hr.lt
  clear hr hv hb h4
  by_cases h0 : s.size = 0
  · have h0' : ((s.size : Int) == 0) = true := by rw [beq_iff_eq]; omega
    go_enter Tryz.func68, Tryz.ntmps68
    go_wp2_with fail
    go_ret
    exact ⟨s, p, rfl, by omega, R.out, by omega, ExtR.refl _ _⟩
  · have h0' : ((s.size : Int) == 0) = false := by rw [beq_eq_false_iff_ne]; omega
    go_enter Tryz.func68, Tryz.ntmps68
    go_wp2_with fail
    refine (rdpick r p 2 _ (by omega) (by omega) (by omega) R.out).mono ?_
    rintro e w1 ⟨x, rfl, hx0, hx1, hr1, he1⟩
    have R1 := Lib.hid hr1
    have E1 := Lib.hid he1
    clear hr1 he1
    by_cases hx : x = 0
    · have hx' : (x == 0) = true := by rw [hx]; rfl
      go_wp2_with fail
      go_ret
      exact ⟨s, p + 1, rfl, by omega, R1.out, by omega, E1.out⟩
    · have hx' : (x == 0) = false := by rw [beq_eq_false_iff_ne]; exact hx
      go_wp2_with fail
      refine (rdpick r (p + 1) s.size _ (by omega) (by omega) (by omega) R1.out).mono ?_
      rintro e w2 ⟨k, rfl, hk0, hk1, hr2, he2⟩
      obtain ⟨k, rfl⟩ := Int.eq_ofNat_of_zero_le hk0
      have R2 := Lib.hid hr2
      have E2 := Lib.hid (E1.out.trans he2)
      have HV2 := Lib.hid (hv_ext HB.out HV.out (E1.out.trans he2))
      have hks : k < s.size := by omega
      clear hr2 he2 hx hx'
      go_wp2_with fail
      have hk : ((k : Nat) : Int) ≤ s.size := by omega
      have hex : (s.extract 0 k).size = k := by simp; omega
      have hex2 : ∀ j : Nat, (s.extract j s.size).size = s.size - j := fun j => by simp
      go_region_law (first
        | (go_simp; go_at_call 116; (first | refine (rdof r (p + 1 + 1) bits v _ (by omega) (R2.out.ext (Ext.drew _)) hz HB.out (HV2.out.ext (Ext.drew _))).mono ?_ | refine (rdof r (p + 1 + 1 + 1) bits v _ (by omega) RP.out hz HB.out VP.out).mono ?_); rintro e wO ⟨y, rfl, hy, hrO, heO⟩; have hy4 := H4.out y hy; have c9 : ¬ 9223372036854775807 < k + y.size := (by omega); (try have c10 : ¬ 9223372036854775807 < k + y.size + (s.size - (k + z)) := (by omega)); have RO := Lib.hid hrO; have EO := Lib.hid heO; clear hy hrO heO; dsimp only)
        | (go_simp; go_at_call 84; (first | refine (rdpick r (p + 1 + 1) 2 _ (by omega) (by omega) (by omega) (R2.out.ext (Ext.drew _))).mono ?_ | refine (rdpick r (p + 1 + 1 + 1) 2 _ (by omega) (by omega) (by omega) RO.out).mono ?_); rintro e wP ⟨z, rfl, hz0, hz1, hrP, heP⟩; have RP := Lib.hid hrP; have EP := Lib.hid heP; (first | have VP := Lib.hid (hv_ext HB.out HV2.out ((ExtR.of_ext (Ext.drew _)).trans heP)) | skip); have hkz : (k : Int) + z ≤ s.size := (by omega); obtain ⟨z, rfl⟩ := Int.eq_ofNat_of_zero_le hz0; have hkn : k + z ≤ s.size := (by omega); have hwz : IntKind.i64.wrap ((k : Int) + (z : Int)) = (k : Int) + (z : Int) := (by rw [IntKind.wrap_i64]; omega); have hnn : (0 : Int) ≤ (k : Int) + (z : Int) := (by omega); have hle2 : (k : Int) + (z : Int) ≤ (s.size : Int) := (by omega); have htn : ((k : Int) + (z : Int)).toNat = k + z := (by omega); (try have c10 : ¬ 9223372036854775807 < k + y.size + (s.size - (k + z)) := (by omega)); clear hrP heP; dsimp only))
      all_goals
        go_wp2_with fail
        go_ret
        first
        | exact ⟨s.extract 0 k ++ y ++ s.extract (k + z) s.size, p + 1 + 1 + 1 + 1, rfl, by simp only [ByteArray.size_append, hex, hex2]; omega, RP.out, by omega, E2.out.trans (((ExtR.of_ext (Ext.drew _)).trans EO.out).trans EP.out)⟩
        | exact ⟨s.extract 0 k ++ y ++ s.extract (k + z) s.size, p + 1 + 1 + 1 + 1, rfl, by simp only [ByteArray.size_append, hex, hex2]; omega, RO.out, by omega, E2.out.trans (((ExtR.of_ext (Ext.drew _)).trans EP.out).trans EO.out)⟩
end Go.Proofs.YtognkaebiafgbaaGreatDoor
