/-
  A law's marks in one term's memory.
-/
import Derived.Test.YtdelhgodhkbjdaaMu41
namespace Go.Proofs.Ytdelhgodhkbjdaa
open Go.RowKit
set_option linter.unusedVariables false

mutual
theorem sz_wt : ∀ (t : Tm), Tm.sz t ≤ 1 + Tm.wt t
  | .mk k n s ks => by
    have := szL_wt ks
    simp only [Tm.sz, Tm.wt]
    omega
theorem szL_wt : ∀ (ts : List Tm), Tm.szL ts ≤ ts.length + Tm.wtL ts
  | [] => by simp [Tm.szL]
  | t :: ts => by
    have h1 := sz_wt t
    have h2 := szL_wt ts
    simp only [Tm.szL, Tm.wtL, List.length_cons]
    omega
end
theorem kids_wt (t : Tm) : Tm.szL t.kids ≤ Tm.wt t ∧ t.kids.length ≤ Tm.wt t := by
  obtain ⟨k, n, s, ks⟩ := t
  have := szL_wt ks
  simp only [Tm.wt, Tm.kids]
  omega
/-- what toTerm makes, read -/
theorem own_at {F : Nat → Prop} {w : World} {t : Tm} {a : Option Addr} {c : Nat} (h : OwnS F t.kids (.slice a t.kids.length c) w) (hn : t.name.size ≤ 1048576) (hl : t.kids.length ≤ 1048576) :
    Tm.at F w t (.agg #[.int .i64 t.kind, .int .i64 t.n, .string t.name, .slice a t.kids.length c]) := own_flat t a c (own_iff.2 ⟨hn, hl, h⟩)
theorem OwnS.zone {F F' : Nat → Prop} {w : World} {ts : List Tm} {v : Value} (h : OwnS F ts v w) (hF : ∀ b, F b → F' b) : OwnS F' ts v w := h.mono (M := fun _ => False) hF (Fr.refl _ _) (fun _ _ h => h)
theorem own_kids {F : Nat → Prop} {w : World} {t : Tm} {v : Value} (h : Tm.own F w t v) : OwnS F t.kids v w := (own_iff.1 h).2.2
theorem name_wt (t : Tm) : t.name.size ≤ Tm.wt t := by cases t; simp only [Tm.wt, Tm.name]; omega

set_option maxRecDepth 100000 in
theorem lawsmarkTerm (t : Tm) (a : Option Addr) (c : Nat) (F : Nat → Prop) (w : World) (k : Nat) (hk : k + 3 * Tm.szL t.kids < 9000000) (ho : OwnS F t.kids (.slice a t.kids.length c) w) :
    Calls Try.prog 32 #[.agg #[.int .i64 t.kind, .int .i64 t.n, .string t.name, .slice a t.kids.length c], .int .i64 k] w fun e w' => e = .returned (.int .i64 (k + 3 * Tm.szL t.kids : Nat)) ∧ OwnS F (markL t.kids k) (.slice a t.kids.length c) w' ∧ Fr F w w' := by
  have HK := Lib.hid hk
  have HO := Lib.hid ho
  clear hk ho
  go_enter Try.func32, Try.ntmps32
  go_wp2_with fail
  refine (lawsmarkTermS _ _ (Nat.le_refl _) F _ _ k HK.out (HO.out.ext (Ext.alloc _ _))).mono ?_
  rintro e w1 ⟨rfl, h1, h2⟩
  have H1 := Lib.hid h1
  have H2 := Lib.hid h2
  clear h1 h2
  go_wp2_with fail
  go_ret
  exact ⟨rfl, H1.out, (Fr.alloc _ _).trans H2.out⟩


end Go.Proofs.Ytdelhgodhkbjdaa
