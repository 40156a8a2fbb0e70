/-
  The reference's DrawIsBuiltin.
-/
import Derived.ProofKit
import Derived.Test.YtognkaebiafgbaaMu48
import Derived.Test.YtognkaebiafgbaaMu3
namespace Go.Proofs.Ytognkaebiafgbaa
open Go.RowKit
set_option linter.unusedVariables false
set_option maxRecDepth 100000 in
set_option maxHeartbeats 2000000 in
theorem drawIsBuiltin (v : Value) (w : World) (hv : BytesAt w v) : Calls Try.prog 6 #[v] w fun e w' => ∃ (y : ByteArray) (n : Int), e = .returned (.tuple #[.string y, .int .i64 n]) ∧ y.size ≤ 1048576 ∧ Ext w w' := by
  have HO := Lib.hid (specl18Open v w hv)
  obtain ⟨a, len, cap, rfl, _⟩ := hv
  go_enter Try.func6, Try.ntmps6
  go_wp2_with fail
  refine HO.out.mono ?_
  rintro e w1 ⟨r, rfl, hr0, hr1, e1⟩
  have E1 := Lib.hid e1
  have R := Lib.hid hr1
  have s1 := Below.size e1
  have rl := hr1.lt
  clear e1 hr1
  go_wp2_with fail
  refine (rdof_new [⟨#[105, 115]⟩, ⟨#[61]⟩, ⟨#[116, 114, 117, 101]⟩, ⟨#[118, 97, 114]⟩, ⟨#[97, 114, 103]⟩, ⟨#[102, 111, 111]⟩, ⟨#[60]⟩, ⟨#[109, 111, 100]⟩, ⟨#[]⟩] 9 rfl rfl (by decide) (by decide) (by simp) (by omega) R.out (by simp)).mono ?_
  rintro e x1 ⟨y, rfl, hy, hr1, he1⟩
  have hys : y.size ≤ 1048576 := (show ∀ z ∈ ([⟨#[105, 115]⟩, ⟨#[61]⟩, ⟨#[116, 114, 117, 101]⟩, ⟨#[118, 97, 114]⟩, ⟨#[97, 114, 103]⟩, ⟨#[102, 111, 111]⟩, ⟨#[60]⟩, ⟨#[109, 111, 100]⟩, ⟨#[]⟩] : List ByteArray), z.size ≤ 1048576 by decide) y hy
  have RA := Lib.hid hr1
  have EA := Lib.hid he1
  clear hr1 he1 hy
  go_wp2_with fail
  refine (rdnum_new [2, 0, 1, 3, -1] 5 rfl rfl (by decide) (by simp) (by omega) RA.out (by simp)).mono ?_
  rintro e x2 ⟨n, rfl, hn, hr2, he2⟩
  have EB := Lib.hid he2
  clear hr2 he2
  go_wp2_with fail
  go_ret2
  exact ⟨y, n, rfl, hys, ((Fr.of_ext E1.out).trans (Fr.of_extR (EA.out.trans EB.out) (by show w.heap.size ≤ r; omega))).toExt (fun q hq h => by have h' : w.heap.size ≤ q := h; omega)⟩
end Go.Proofs.Ytognkaebiafgbaa

namespace Go.Proofs.Ytognkaebiafgbaa
open Go.ChangeShapes Go.WideShapes Go.ChangeAt Go.RowKit
set_option linter.unusedVariables false
theorem badd_add (b off n : Nat) : (⟨b, off, none⟩ : Addr).add n = ⟨b, off + n, none⟩ := by
  unfold Addr.add
  by_cases h : n = 0
  · subst h; rfl
  · rw [if_neg h]
theorem bspot_none {w : World} {a : Addr} {v : Value} (h : w.cell? a = some v) : a = ⟨a.block, a.off, none⟩ := by
  obtain ⟨b, o, s⟩ := a
  cases s with
  | none => rfl
  | some s => simp [World.cell?] at h; split at h <;> simp at h
theorem bytes_of_trod {H : Type} {enc : TypeId × Value → H} {w : World} {a : Option Addr} {len cap : Nat} {d : DataW H} {ps : List MemPlace}
    (h : DataW.Trod enc Try.prog w 0 (fun _ => true) true 22 (.slice a len cap) d ps) : BytesAt w (.slice a len cap) := by
  obtain ⟨fuel, hf⟩ := h
  rcases open_ints Try.underlying22 Try.underlying5 (by kernel_rfl) hf with ⟨hcs, _⟩ | ⟨x, l, c, zs, hcs, _, hl, hm, hz, _, hcell, hwz⟩
  · simp [Value.cells] at hcs
    obtain ⟨rfl, rfl, rfl⟩ := hcs
    exact ⟨none, 0, 0, rfl, by omega, by omega, .inl rfl⟩
  · simp [Value.cells] at hcs
    obtain ⟨rfl, rfl, rfl⟩ := hcs
    have hz' : zs.length = cap := by simpa using hz
    refine ⟨_, len, cap, rfl, hl, hm, ?_⟩
    by_cases h0 : len = 0
    · exact .inl h0
    · have hx : x = ⟨x.block, x.off, none⟩ := by
        have := bspot_none (hcell 0 (by omega))
        simpa [Addr.add] using this
      refine .inr ⟨x.block, x.off, by rw [← hx], fun i hi => ?_⟩
      have hc := hcell i (by omega)
      rw [hx, badd_add] at hc
      have hmem : zs.getD i 0 ∈ zs := by
        rw [List.getD_eq_getElem?_getD, List.getElem?_eq_getElem (by omega)]
        exact List.getElem_mem _
      have hw := hwz _ hmem
      generalize zs.getD i 0 = z at hc hw
      have hb : 0 ≤ z ∧ z ≤ 255 := by
        simp [Lit.wf, IntKind.min, IntKind.max, IntKind.bits, IntKind.signed] at hw
        omega
      obtain ⟨n, rfl⟩ := Int.eq_ofNat_of_zero_le hb.1
      exact ⟨n, by omega, hc⟩
end Go.Proofs.Ytognkaebiafgbaa
