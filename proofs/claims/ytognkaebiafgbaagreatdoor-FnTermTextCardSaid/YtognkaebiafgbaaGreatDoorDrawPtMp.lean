/-
  The reference's draws of FnTermText.
-/
import Derived.Test.YtognkaebiafgbaaGreatDoorBendSMp
namespace Go.Proofs.YtognkaebiafgbaaGreatDoor
open Go.RowKit
set_option linter.unusedVariables false

/-- a drawn text -/
def TxOut (N : Nat) (w : World) (e : Ending) (w' : World) : Prop := ∃ u : ByteArray, e = .returned (.string u) ∧ u.size ≤ N ∧ Ext w w'
def bendBits : List ByteArray := [⟨#[]⟩, ⟨#[40]⟩, ⟨#[41]⟩, ⟨#[44]⟩, ⟨#[65]⟩, ⟨#[48]⟩, ⟨#[91]⟩, ⟨#[124]⟩, ⟨#[93]⟩, ⟨#[45]⟩]
set_option maxRecDepth 100000 in
set_option maxHeartbeats 2000000 in
theorem drawParseTerm (v : Value) (w : World) (hv : BytesAt w v) : Calls Tryz.prog 48 #[v] w (TxOut 4000 w) := by
  have HO := Lib.hid (specl18Open v w hv)
  obtain ⟨a, len, cap, rfl, _⟩ := hv
  go_enter Tryz.func48, Tryz.ntmps48
  go_wp2_with fail
  refine HO.out.mono ?_
  rintro e w1 ⟨r, rfl, hr0, hr1, e1⟩
  have E1 := Lib.hid e1
  have R1 := Lib.hid hr1
  clear e1 hr1
  go_wp2_with fail
  refine (specl1Some r 0 _ (by omega) R1.out).mono ?_
  rintro e w2 ⟨t, v2, p2, rfl, ht, hD, hr2, hp2, e2⟩
  obtain ⟨a2, c2, rfl⟩ := at_form ht
  have hval := drawn_valid hD
  have R2 := Lib.hid hr2
  have E2 := Lib.hid e2
  have TX := Lib.hid (specl1Text _ t (Nat.le_refl _) (valid_parts hval).2 30 _ _ w2 (valid_parts hval).1 ht)
  have hlen : (bs (txt false t)).size ≤ 3840 := by
    have h1 := (tx_len false t 30 (valid_parts hval).1).1
    have h2 := (valid_parts hval).2
    rw [bs_size]
    omega
  clear hr2 e2 ht hD hval
  go_wp2_with fail
  refine TX.out.mono ?_
  rintro e w3 ⟨rfl, e3⟩
  have E3 := Lib.hid e3
  have R3 := Lib.hid ((R2.out.ext e3).ext (Ext.alloc w3 (.cells #[.string ⟨#[]⟩, .string ⟨#[40]⟩, .string ⟨#[41]⟩, .string ⟨#[44]⟩, .string ⟨#[65]⟩, .string ⟨#[48]⟩, .string ⟨#[91]⟩, .string ⟨#[124]⟩, .string ⟨#[93]⟩, .string ⟨#[45]⟩] 9)))
  have r3 : r < w3.heap.size := (R2.out.ext e3).lt
  have BS := Lib.hid (strs_at_new bendBits 10 rfl w3 9 #[.string ⟨#[]⟩, .string ⟨#[40]⟩, .string ⟨#[41]⟩, .string ⟨#[44]⟩, .string ⟨#[65]⟩, .string ⟨#[48]⟩, .string ⟨#[91]⟩, .string ⟨#[124]⟩, .string ⟨#[93]⟩, .string ⟨#[45]⟩] rfl (by decide) (by decide))
  clear e3
  go_wp2_with fail
  refine (specl1Bend r p2 (bs (txt false t)) bendBits _ _ (by omega) (by omega) R3.out (by decide) (fun b o c l h => by cases h; omega) BS.out (by decide)).mono ?_
  rintro e w4 ⟨u, p4, rfl, hu, _, _, e4⟩
  go_wp2_with fail
  go_ret
  refine ⟨u, rfl, by omega, ?_⟩
  have f1 : Fr (fun b => w.heap.size ≤ b) w w4 := (Fr.of_ext E1.out).trans ((Fr.of_extR E2.out hr0).trans ((Fr.of_ext (E3.out.trans (Ext.alloc _ _))).trans (Fr.of_extR e4 hr0)))
  exact f1.toExt (fun q hq h => by omega)
end Go.Proofs.YtognkaebiafgbaaGreatDoor
