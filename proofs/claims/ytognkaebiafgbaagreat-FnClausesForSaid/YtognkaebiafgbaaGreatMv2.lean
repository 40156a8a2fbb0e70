/-
  The source of draws (l18Rd): what it reads as in memory, and what pick, of and num return: some number in range, some element.
-/
import Derived.Test.YtognkaebiafgbaaGreatRows
import Derived.WalkLawsBesides
import Derived.BigQuiet
import Derived.Deep.QuietTactic
import Derived.Laws.Bits64
import Derived.Laws.EntriesVeiled
import Derived.Deep.RegionLaw
import Derived.Test.YtognkaebiafgbaaGreatMv1
namespace Go.Proofs.YtognkaebiafgbaaGreat
open Go.RowKit
set_option linter.unusedVariables false
def BytesAt (w : World) (v : Value) : Prop :=
  ∃ a len cap, v = .slice a len cap ∧ len ≤ cap ∧ cap ≤ 9223372036854775807 ∧
    (len = 0 ∨ ∃ b off, a = some ⟨b, off, none⟩ ∧ ∀ i, i < len → ∃ n : Nat, n ≤ 255 ∧ w.cell? ⟨b, off + i, none⟩ = some (.int .u8 n))
def Rd (w : World) (r p : Nat) : Prop :=
  ∃ a len cap, w.cell? ⟨r, 0, none⟩ = some (.slice a len cap) ∧ w.cell? ⟨r, 1, none⟩ = some (.int .i64 p) ∧ w.frozen? ⟨r, 1, none⟩ = false ∧ len ≤ cap ∧ cap ≤ 9223372036854775807 ∧ len ≤ 2000 ∧
    (len = 0 ∨ ∃ b off, a = some ⟨b, off, none⟩ ∧ b ≠ r ∧ ∀ i, i < len → ∃ n : Nat, n ≤ 255 ∧ w.cell? ⟨b, off + i, none⟩ = some (.int .u8 n))
theorem Rd.lt {w : World} {r p : Nat} (h : Rd w r p) : r < w.heap.size := by
  obtain ⟨a, len, cap, h1, _⟩ := h
  exact block_lt_of_cell h1
theorem Rd.ext {w w' : World} {r p : Nat} (h : Rd w r p) (e : Ext w w') : Rd w' r p := by
  have hlt := h.lt
  obtain ⟨a, len, cap, h1, h2, h3, h4, h5, h6, h7⟩ := h
  refine ⟨a, len, cap, e.cell h1, e.cell h2, e.frozen hlt h3, h4, h5, h6, ?_⟩
  rcases h7 with h7 | ⟨b, off, h7, h8, h9⟩
  · exact .inl h7
  · exact .inr ⟨b, off, h7, h8, fun i hi => let ⟨n, hn, hc⟩ := h9 i hi; ⟨n, hn, e.cell hc⟩⟩
def ExtC (r : Nat) (w w' : World) : Prop := w.grownBy w' (some r)
theorem ExtC.of_ext {r : Nat} {w w' : World} (h : Ext w w') : ExtC r w w' := ⟨Below.os h, Below.tape h, Below.output h, Below.size h, fun k hk _ => Below.block h k hk⟩
theorem ExtC.trans {r : Nat} {a b c : World} (h : ExtC r a b) (k : ExtC r b c) : ExtC r a c := grown_trans h k
theorem ExtC.refl (r : Nat) (w : World) : ExtC r w w := .of_ext (Ext.refl w)
theorem ExtC.cell {r : Nat} {w w' : World} (h : ExtC r w w') {b o : Nat} {v : Value} (hb : b ≠ r) (hc : w.cell? ⟨b, o, none⟩ = some v) : w'.cell? ⟨b, o, none⟩ = some v := by
  have hlt := block_lt_of_cell hc
  rw [World.cell?_of_block (w := w) (a := ⟨b, o, none⟩) (h.block b hlt (fun e => hb (Option.some.inj e)))]
  exact hc
theorem ExtC.frozen {r : Nat} {w w' : World} (h : ExtC r w w') {b o : Nat} (hlt : b < w.heap.size) (hb : b ≠ r) (hf : w.frozen? ⟨b, o, none⟩ = false) : w'.frozen? ⟨b, o, none⟩ = false := by
  rw [World.frozen?_of_block (w := w) (a := ⟨b, o, none⟩) (h.block b hlt (fun e => hb (Option.some.inj e)))]
  exact hf
theorem ExtC.agree {r : Nat} {w w' : World} {S : Nat → Prop} (h : ExtC r w w') (hS : ¬ S r) : Agree S w w' := Agree.grown h (fun b hb => by cases hb; exact hS)
theorem ExtC.below {r : Nat} {w w1 w' : World} (h0 : Ext w w1) (h : ExtC r w1 w') (hr : w.heap.size ≤ r) : Ext w w' := Ext.grown h0 h (fun b hb => by cases hb; exact hr)
def ExtR (r : Nat) (w w' : World) : Prop := w.grownBy w' (some r) ∧ ∀ v, w.cell? ⟨r, 0, none⟩ = some v → w'.cell? ⟨r, 0, none⟩ = some v
theorem ExtR.of_ext {r : Nat} {w w' : World} (h : Ext w w') : ExtR r w w' := ⟨⟨Below.os h, Below.tape h, Below.output h, Below.size h, fun k hk _ => Below.block h k hk⟩, fun v hv => h.cell hv⟩
theorem ExtR.trans {r : Nat} {a b c : World} (h : ExtR r a b) (k : ExtR r b c) : ExtR r a c := ⟨grown_trans h.1 k.1, fun v hv => k.2 v (h.2 v hv)⟩
theorem ExtR.refl (r : Nat) (w : World) : ExtR r w w := .of_ext (Ext.refl w)
theorem ExtR.cell {r : Nat} {w w' : World} (h : ExtR r w w') {b o : Nat} {v : Value} (hb : b ≠ r) (hc : w.cell? ⟨b, o, none⟩ = some v) : w'.cell? ⟨b, o, none⟩ = some v := by
  have hlt := block_lt_of_cell hc
  rw [World.cell?_of_block (w := w) (a := ⟨b, o, none⟩) (h.1.block b hlt (fun e => hb (Option.some.inj e)))]
  exact hc
theorem ExtR.frozen {r : Nat} {w w' : World} (h : ExtR r w w') {b o : Nat} (hlt : b < w.heap.size) (hb : b ≠ r) (hf : w.frozen? ⟨b, o, none⟩ = false) : w'.frozen? ⟨b, o, none⟩ = false := by
  rw [World.frozen?_of_block (w := w) (a := ⟨b, o, none⟩) (h.1.block b hlt (fun e => hb (Option.some.inj e)))]
  exact hf
theorem ExtR.agree {r : Nat} {w w' : World} {S : Nat → Prop} (h : ExtR r w w') (hS : ¬ S r) : Agree S w w' := Agree.grown h.1 (fun b hb => by cases hb; exact hS)
theorem ExtR.below {r : Nat} {w w1 w' : World} (h0 : Ext w w1) (h : ExtR r w1 w') (hr : w.heap.size ≤ r) : Ext w w' := Ext.grown h0 h.1 (fun b hb => by cases hb; exact hr)
theorem rd_step {w : World} {r p : Nat} (h : Rd w r p) : Rd (w.setCell ⟨r, 1, none⟩ (.int .i64 (p + 1 : Nat))) r (p + 1) ∧ ExtR r w (w.setCell ⟨r, 1, none⟩ (.int .i64 (p + 1 : Nat))) := by
  have hg : ExtR r w (w.setCell ⟨r, 1, none⟩ (.int .i64 (p + 1 : Nat))) := ⟨grown_setCell _ _ _ _, fun v hv => cell_off (by decide) hv⟩
  refine ⟨?_, hg⟩
  obtain ⟨a, len, cap, h1, h2, h3, h4, h5, h6, h7⟩ := h
  refine ⟨a, len, cap, cell_off (by decide) h1, cell_same h2, by simpa using h3, h4, h5, h6, ?_⟩
  rcases h7 with h7 | ⟨b, off, h7, h8, h9⟩
  · exact .inl h7
  · exact .inr ⟨b, off, h7, h8, fun i hi => let ⟨n, hn, hc⟩ := h9 i hi; ⟨n, hn, hg.cell h8 hc⟩⟩
theorem xor_i64 (a b : Nat) (ha : a < 4611686018427387904) (hb : b < 4611686018427387904) : bits .xor .i64 (a : Int) (b : Int) = ((a ^^^ b : Nat) : Int) := by
  have hx : a ^^^ b < 2 ^ 62 := Nat.xor_lt_two_pow (by omega) (by omega)
  have h1 : (BitVec.ofInt 64 (a : Int)).toNat = a := by
    rw [BitVec.ofInt_natCast, BitVec.toNat_ofNat]; exact Nat.mod_eq_of_lt (by omega)
  have h2 : (BitVec.ofInt 64 (b : Int)).toNat = b := by
    rw [BitVec.ofInt_natCast, BitVec.toNat_ofNat]; exact Nat.mod_eq_of_lt (by omega)
  show IntKind.i64.wrap ((BitVec.ofInt 64 (a : Int) ^^^ BitVec.ofInt 64 (b : Int)).toNat : Int) = _
  rw [BitVec.toNat_xor, h1, h2]
  exact IntWalk.i64_in _ (by omega)
theorem nat_name (x : Int) (h0 : 0 ≤ x) (h1 : x ≤ 4611686018427387903) : ∃ A : Nat, IntKind.i64.wrap x = (A : Int) ∧ (A : Int) = x := ⟨x.toNat, by rw [IntWalk.i64_in _ (by omega)]; omega, by omega⟩
theorem mix_end (E n : Int) (h0 : 0 ≤ E) (h1 : E ≤ 4611686018427387903) (hn : 1 ≤ n) : 0 ≤ (bits .xor .i64 E (wrap64 (E.tdiv 64))).tmod n ∧ (bits .xor .i64 E (wrap64 (E.tdiv 64))).tmod n < n := by
  obtain ⟨z, rfl⟩ := Int.eq_ofNat_of_zero_le h0
  have e : wrap64 ((z : Int).tdiv 64) = ((z / 64 : Nat) : Int) := by
    rw [Int.tdiv_eq_ediv_of_nonneg (by omega), show ((z : Int) / 64) = ((z / 64 : Nat) : Int) from rfl]
    unfold wrap64; omega
  rw [e, xor_i64 z (z / 64) (by omega) (by omega), Int.tmod_eq_emod_of_nonneg (by omega)]
  exact ⟨Int.emod_nonneg _ (by omega), Int.emod_lt_of_pos _ (by omega)⟩
theorem mix_E (p len x1 x2 : Nat) (hp : p ≤ 1099511627776) (hx1 : x1 ≤ 255) (hx2 : x2 ≤ 255) :
    0 ≤ wrap64 ((x1 : Int) * 131 + (x2 : Int) * 1117 + (p : Int) * 29 + wrap64 (wrap64 ((p : Int) / (len : Int)) * 53)) ∧ wrap64 ((x1 : Int) * 131 + (x2 : Int) * 1117 + (p : Int) * 29 + wrap64 (wrap64 ((p : Int) / (len : Int)) * 53)) ≤ 4611686018427387903 := by
  have hq0 : p / len ≤ p := Nat.div_le_self _ _
  rw [show ((p : Int) / (len : Int)) = ((p / len : Nat) : Int) from rfl]
  generalize p / len = q at hq0
  rw [IntWalk.wrap64_in (q : Int) (by omega), IntWalk.wrap64_in ((q : Int) * 53) (by omega), IntWalk.wrap64_in _ (by omega)]
  omega
theorem Ext.drewN (w : World) (n : Nat) : Ext w (w.drewN n) := ⟨rfl, rfl, rfl, Nat.le_refl _, fun _ _ => rfl⟩
def PickPost (r p : Nat) (n : Int) (w : World) (e : Ending) (w' : World) : Prop := ∃ x : Int, e = .returned (.int .i64 x) ∧ 0 ≤ x ∧ x < n ∧ Rd w' r (p + 1) ∧ ExtR r w w'
set_option maxHeartbeats 1000000 in
theorem rdpick (r p : Nat) (n : Int) (w : World) (hp : p ≤ 1099511627776) (hn : 1 ≤ n) (hn2 : n ≤ 1048576) (h : Rd w r p) :
    Calls Tryz.prog 15 #[.pointer (some ⟨r, 0, none⟩), .int .i64 n] w (PickPost r p n w) := by
  obtain ⟨hs1, hs2⟩ := rd_step h
  have HS1 := Lib.hid hs1
  have HS2 := Lib.hid hs2
  obtain ⟨a, len, cap, h1, h2, h3, h4, h5, h6, h7⟩ := h
  clear hs1 hs2
  by_cases hl : len = 0
  · subst hl
    go_enter Tryz.func15, Tryz.ntmps15
    go_wp2_with fail
    go_ret
    exact ⟨0, rfl, by omega, by omega, HS1.out, HS2.out⟩
  · have hpos : 0 < len := Nat.pos_of_ne_zero hl
    obtain ⟨b, off, rfl, hb, hcs⟩ := h7.resolve_left hl
    by_cases hk : p < len
    · obtain ⟨x, hx, hc⟩ := hcs p hk
      have E1 := Lib.hid (Int.emod_nonneg (x : Int) (show n ≠ 0 by omega))
      have E2 := Lib.hid (Int.emod_lt_of_pos (x : Int) (show 0 < n by omega))
      clear hcs h7
      have hl' : ((len : Int) == 0) = false := by simp [hl]
      go_enter Tryz.func15, Tryz.ntmps15
      go_wp2_with fail
      all_goals (go_ret; exact ⟨(x : Int) % n, rfl, E1.out, E2.out, HS1.out, HS2.out⟩)
    · have hl' : ((len : Int) == 0) = false := by simp [hl]
      have m1 : p % len < len := Nat.mod_lt _ hpos
      have m2 : (p * 7 + 3) % len < len := Nat.mod_lt _ hpos
      obtain ⟨x1, hx1, k1⟩ := hcs _ m1
      obtain ⟨x2, hx2, k2⟩ := hcs _ m2
      clear hcs h7
      obtain ⟨a2, e2, b2⟩ := nat_name ((p : Int) * 7) (by omega) (by omega)
      obtain ⟨a3, e3, b3⟩ := nat_name ((a2 : Int) + 3) (by omega) (by omega)
      have v3 : a3 = p * 7 + 3 := by omega
      clear b2 b3
      obtain ⟨M1, w1, v1⟩ : ∃ A : Nat, (p : Int).tmod (len : Int) = (A : Int) ∧ A = p % len := ⟨p % len, by rw [Int.tmod_eq_emod_of_nonneg (by omega)]; rfl, rfl⟩
      obtain ⟨M2, w2, v2⟩ : ∃ A : Nat, (a3 : Int).tmod (len : Int) = (A : Int) ∧ A = (p * 7 + 3) % len := ⟨(p * 7 + 3) % len, by rw [Int.tmod_eq_emod_of_nonneg (by omega), v3]; rfl, rfl⟩
      rw [← v1] at m1 k1
      rw [← v2] at m2 k2
      have MX := Lib.hid (mix_end _ n (mix_E p len x1 x2 hp hx1 hx2).1 (mix_E p len x1 x2 hp hx1 hx2).2 hn)
      have m1' : (M1 : Int) < (len : Int) := by omega
      have m2' : (M2 : Int) < (len : Int) := by omega
      clear v1 v2 v3
      go_enter Tryz.func15, Tryz.ntmps15
      go_wp2_with fail
      refine wp_region_quiet_lit (by kernel_rfl) (by kernel_rfl) ?_
      repeat (quiet_step (fail))
      refine wpQuiet_nil ?_
      intro _ hw'
      obtain ⟨nq, hw''⟩ := hw'
      subst hw''
      go_wp2_with fail
      go_ret
      exact ⟨_, rfl, MX.out.1, MX.out.2, Rd.ext HS1.out (Ext.drewN _ nq), HS2.out.trans (ExtR.of_ext (Ext.drewN _ nq))⟩
def IntsAt (w : World) (zs : List Int) (v : Value) : Prop :=
  ∃ a cap, v = .slice a zs.length cap ∧ zs.length ≤ cap ∧ cap ≤ 9223372036854775807 ∧ zs.length ≤ 1048576 ∧
    (zs = [] ∨ ∃ b off, a = some ⟨b, off, none⟩ ∧ ∀ i z, zs[i]? = some z → w.cell? ⟨b, off + i, none⟩ = some (.int .i64 z))
def NumPost (r p : Nat) (zs : List Int) (w : World) (e : Ending) (w' : World) : Prop := ∃ x : Int, e = .returned (.int .i64 x) ∧ x ∈ zs ∧ Rd w' r (p + 1) ∧ ExtR r w w'
set_option maxHeartbeats 1000000 in
theorem rdnum (r p : Nat) (zs : List Int) (v : Value) (w : World) (hp : p ≤ 1099511627776) (h : Rd w r p) (hz : zs ≠ []) (hb : ∀ b o c l, v = .slice (some ⟨b, o, none⟩) l c → b ≠ r) (hv : IntsAt w zs v) :
    Calls Tryz.prog 39 #[.pointer (some ⟨r, 0, none⟩), v] w (NumPost r p zs w) := by
  obtain ⟨a, cap, rfl, h1, h2, h3, h4⟩ := hv
  have hpos : 1 ≤ zs.length := by cases zs with | nil => exact absurd rfl hz | cons _ _ => simp
  obtain ⟨b, off, rfl, hcs⟩ := h4.resolve_left hz
  have hbr := hb b off cap _ rfl
  have HCS := Lib.hid hcs
  have HZ := Lib.hid hz
  clear hcs hz hb h4
  go_enter Tryz.func39, Tryz.ntmps39
  go_wp2_with fail
  refine (rdpick r p _ w hp (by omega) (by omega) h).mono ?_
  rintro e w1 ⟨x, rfl, hx0, hx1, hr, he⟩
  obtain ⟨k, rfl⟩ := Int.eq_ofNat_of_zero_le hx0
  have hk : k < zs.length := by omega
  have hget : zs[k]? = some zs[k] := by simp [hk]
  have hc := he.cell hbr (HCS.out k _ hget)
  have HM := Lib.hid (List.getElem_mem hk)
  generalize zs[k] = z at hc HM
  have HR := Lib.hid hr
  have HE := Lib.hid he
  clear hget hr he
  go_wp2_with fail
  go_ret
  exact ⟨z, rfl, HM.out, HR.out, HE.out⟩
def OfPost (r p : Nat) (ss : List ByteArray) (w : World) (e : Ending) (w' : World) : Prop := ∃ s : ByteArray, e = .returned (.string s) ∧ s ∈ ss ∧ Rd w' r (p + 1) ∧ ExtR r w w'
set_option maxHeartbeats 1000000 in
theorem rdof (r p : Nat) (ss : List ByteArray) (v : Value) (w : World) (hp : p ≤ 1099511627776) (h : Rd w r p) (hz : ss ≠ []) (hb : ∀ b o c l, v = .slice (some ⟨b, o, none⟩) l c → b ≠ r) (hv : StrsAt w ss v) :
    Calls Tryz.prog 40 #[.pointer (some ⟨r, 0, none⟩), v] w (OfPost r p ss w) := by
  obtain ⟨a, cap, rfl, h1, h2, h3, h4⟩ := hv
  have hpos : 1 ≤ ss.length := by cases ss with | nil => exact absurd rfl hz | cons _ _ => simp
  obtain ⟨b, off, rfl, hcs⟩ := h4.resolve_left hz
  have hbr := hb b off cap _ rfl
  have HCS := Lib.hid hcs
  have HZ := Lib.hid hz
  clear hcs hz hb h4 h3
  go_enter Tryz.func40, Tryz.ntmps40
  go_wp2_with fail
  refine (rdpick r p _ w hp (by omega) (by omega) h).mono ?_
  rintro e w1 ⟨x, rfl, hx0, hx1, hr, he⟩
  obtain ⟨k, rfl⟩ := Int.eq_ofNat_of_zero_le hx0
  have hk : k < ss.length := by omega
  have hget : ss[k]? = some ss[k] := by simp [hk]
  have hc := he.cell hbr (HCS.out k _ hget)
  have HM := Lib.hid (List.getElem_mem hk)
  generalize ss[k] = z at hc HM
  have HR := Lib.hid hr
  have HE := Lib.hid he
  clear hget hr he
  go_wp2_with fail
  go_ret
  exact ⟨z, rfl, HM.out, HR.out, HE.out⟩
set_option maxHeartbeats 1000000 in
theorem specl18Open (v : Value) (w : World) (hv : BytesAt w v) :
    Calls Tryz.prog 12 #[v] w fun e w' => ∃ r, e = .returned (.pointer (some ⟨r, 0, none⟩)) ∧ w.heap.size ≤ r ∧ Rd w' r 0 ∧ Ext w w' := by
  obtain ⟨a, len, cap, rfl, h1, h2, h3⟩ := hv
  by_cases hl : len ≤ 2000
  · go_enter Tryz.func12, Tryz.ntmps12
    go_wp2_with fail
    go_ret
    refine ⟨w.heap.size, rfl, Nat.le_refl _, ⟨a, len, cap, by go_simp, by go_simp, by go_simp, h1, h2, hl, ?_⟩, Ext.alloc _ _⟩
    rcases h3 with h3 | ⟨b, off, h3, h4⟩
    · exact .inl h3
    · by_cases h0 : len = 0
      · exact .inl h0
      · refine .inr ⟨b, off, h3, ?_, fun i hi => let ⟨n, hn, hc⟩ := h4 i hi; ⟨n, hn, (Ext.alloc _ _).cell hc⟩⟩
        obtain ⟨n, _, hc⟩ := h4 0 (by omega)
        have := block_lt_of_cell hc
        simp only at this; omega
  · rcases h3 with h3 | ⟨b, off, rfl, h4⟩
    · omega
    · have H4 := Lib.hid h4
      clear h4
      go_enter Tryz.func12, Tryz.ntmps12
      go_wp2_with fail
      go_ret
      refine ⟨w.heap.size, rfl, Nat.le_refl _, ⟨some ⟨b, off, none⟩, 2000, cap, by go_simp, by go_simp, by go_simp, by omega, h2, by omega, .inr ⟨b, off, rfl, ?_, fun i hi => let ⟨n, hn, hc⟩ := H4.out i (by omega); ⟨n, hn, (Ext.alloc _ _).cell hc⟩⟩⟩, Ext.alloc _ _⟩
      obtain ⟨n, _, hc⟩ := H4.out 0 (by omega)
      have := block_lt_of_cell hc
      simp only at this; omega
end Go.Proofs.YtognkaebiafgbaaGreat

namespace Go.Proofs.YtognkaebiafgbaaGreat
open Go.RowKit
set_option linter.unusedVariables false
set_option maxHeartbeats 1000000 in
theorem specl1Var (n : Int) (w : World) : Calls Tryz.prog 62 #[.int .i64 n] w fun e w' => ∃ v, e = .returned v ∧ (∀ S, Tm.at S w' (.mk 1 n ⟨#[]⟩ []) v) ∧ Ext w w' := by
  go_enter Tryz.func62, Tryz.ntmps62
  go_wp2_with fail
  refine ret4 (p := 2) (T := 26) (v0 := .int .i64 1) (v1 := .int .i64 n) (v2 := .string ⟨#[]⟩) (v3 := .slice none 0 0) (by kernel_rfl) (fun _ => by kernel_rfl) (fun _ => by kernel_rfl) rfl rfl (by go_simp) (by go_simp) (by go_simp) (by go_simp) ?_
  exact ⟨_, rfl, fun S => Tm.at_iff.2 ⟨by show (⟨#[]⟩ : ByteArray).size ≤ 1048576; decide, _, rfl, none, 0, by simp [Tm.kids], by simp [Tm.kids], by omega, by simp [Tm.kids], .inl rfl⟩, Ext.alloc _ _⟩
set_option maxHeartbeats 1000000 in
theorem specl1Int (n : Int) (w : World) : Calls Tryz.prog 41 #[.int .i64 n] w fun e w' => ∃ v, e = .returned v ∧ (∀ S, Tm.at S w' (.mk 2 n ⟨#[]⟩ []) v) ∧ Ext w w' := by
  go_enter Tryz.func41, Tryz.ntmps41
  go_wp2_with fail
  refine ret4 (p := 2) (T := 26) (v0 := .int .i64 2) (v1 := .int .i64 n) (v2 := .string ⟨#[]⟩) (v3 := .slice none 0 0) (by kernel_rfl) (fun _ => by kernel_rfl) (fun _ => by kernel_rfl) rfl rfl (by go_simp) (by go_simp) (by go_simp) (by go_simp) ?_
  exact ⟨_, rfl, fun S => Tm.at_iff.2 ⟨by show (⟨#[]⟩ : ByteArray).size ≤ 1048576; decide, _, rfl, none, 0, by simp [Tm.kids], by simp [Tm.kids], by omega, by simp [Tm.kids], .inl rfl⟩, Ext.alloc _ _⟩
set_option maxHeartbeats 1000000 in
theorem specl1Struct0 (s : ByteArray) (w : World) (hs : s.size ≤ 1048576) : Calls Tryz.prog 35 #[.string s, .slice none 0 0] w fun e w' => ∃ v, e = .returned v ∧ (∀ S, Tm.at S w' (.mk 3 0 s []) v) ∧ Ext w w' := by
  go_enter Tryz.func35, Tryz.ntmps35
  go_wp2_with fail
  refine ret4 (p := 4) (T := 26) (v0 := .int .i64 3) (v1 := .int .i64 0) (v2 := .string s) (v3 := .slice (some ⟨w.heap.size + 1, 0, none⟩) 0 0) (by kernel_rfl) (fun _ => by kernel_rfl) (fun _ => by kernel_rfl) rfl rfl (by go_simp) (by go_simp) (by go_simp) (by go_simp) ?_
  exact ⟨_, rfl, fun S => Tm.at_iff.2 ⟨hs, _, rfl, some ⟨w.heap.size + 1, 0, none⟩, 0, by simp [Tm.kids], by simp [Tm.kids], by omega, by simp [Tm.kids], .inl rfl⟩, (Ext.alloc _ _).trans (Ext.alloc _ _)⟩
end Go.Proofs.YtognkaebiafgbaaGreat

namespace Go.Proofs.YtognkaebiafgbaaGreat
open Go.RowKit
set_option linter.unusedVariables false
theorem step_append_fresh {P : Program} {ops : Array Oper} {o : Oper} {a : Act} {w : World} {K : Act → World → Prop} {Q : Exit → Act → World → Prop} {E : Prop}
    (hgd : o.guard = none) (s x : Operand) (t : TypeId)
    (ho : o.op = .call { callee := .builtin .append, args := #[s, x], argTypes := #[t, t] })
    (base : Nat) (e : TypeId) (i : TypeInfo) (z : Value) (size bytes : Nat) (ht : P.underlying t = some (.slice e)) (hi : P.info? e = some i) (hz : i.zero = some z)
    (hsize : i.size = size) (hby : i.bytes = bytes) (hzs : z.cells.size = size) (hsz : 0 < size)
    (v : Value) (n : Nat) (xs : List Value) (hs : a.eval s = v) (hown : w.ownsRow base e size v n xs)
    (ad : Addr) (m c : Nat) (news : List Value) (hx : a.eval x = .slice (some ad) m c) (hl : news.length = m * size) (hnews : ∀ j u, news[j]? = some u → w.cell? (ad.add j) = some u) (h1 : ∀ u ∈ news, u.oneCell' = true)
    (h63 : n + m ≤ maxLen) (hbytes : (n + m) * bytes ≤ 140737488355328) (hbase : base ≤ w.heap.size)
    (h : ∀ v' w', w'.ownsRow base e size v' (n + m) (xs ++ news) → w.grownBy w' v.ownBlock → (∀ g, v'.ownBlock = some g → v.ownBlock = some g ∨ w.heap.size ≤ g) → K (a.put o.dst v') w') :
    if Region.wanted o (yielded ops a.tmps) = true then Oper.wp P o a w K Q else E := by
  have hw : Region.wanted o (yielded ops a.tmps) = true := by simp [Region.wanted, hgd]
  rw [if_pos hw]
  obtain ⟨v', w', hr, h2, h3, h4⟩ := run_append_own (P := P) w base t o.type e i z size bytes ht hi hz hsize hby hzs hsz v n xs hown ad m c news hl hnews h1 h63 hbytes hbase
  have h5 := append_fresh base t o.type e i z size bytes ht hi hz hsize hby hzs hsz v n xs hown ad m c news hl hnews h1 h63 hbytes hbase v' w' hr
  unfold Oper.wp execOp
  simp only [ho, resolve, invoke, builtin, Sem.run_bind, Sem.run_pure, Result.andThen_ok, List.map_toArray, List.map_cons, List.map_nil, hs, hx, hr]
  exact h v' w' h2 h3 h5
end Go.Proofs.YtognkaebiafgbaaGreat

namespace Go.Proofs.YtognkaebiafgbaaGreat
open Go.RowKit
set_option linter.unusedVariables false
theorem tget {S : Nat → Prop} {w : World} {ts : List Tm} {a : Option Addr} {k : Nat} {t : Tm}
    (h : ts = [] ∨ ∃ b off, a = some ⟨b, off, none⟩ ∧ S b ∧ Tm.row S w b off ts) (ht : ts[k]? = some t) :
    ∃ b off ak ck, a = some ⟨b, off, none⟩ ∧ S b ∧
      w.cell? ⟨b, off + k * 4, none⟩ = some (.int .i64 t.kind) ∧ w.cell? ⟨b, off + k * 4 + 1, none⟩ = some (.int .i64 t.n) ∧ w.cell? ⟨b, off + k * 4 + 2, none⟩ = some (.string t.name) ∧
        w.cell? ⟨b, off + k * 4 + 3, none⟩ = some (.slice ak t.kids.length ck) ∧ Tm.at S w t (.agg #[.int .i64 t.kind, .int .i64 t.n, .string t.name, .slice ak t.kids.length ck]) := by
  rcases h with h4 | ⟨b, off, rfl, hSb, hrow⟩
  · rw [h4] at ht; simp at ht
  obtain ⟨ak, ck, c1, c2, c3, c4, hat⟩ := Tm.at_of_cells (Tm.row_get hrow k t ht)
  exact ⟨b, off, ak, ck, rfl, hSb, c1, c2, c3, c4, hat⟩
def FuncStep (fid : FuncId) (caps : Array Value) (ts : List Tm) (S : Nat → Prop) (I : Nat → World → Prop) (b : Nat → Bool) : Prop :=
  ∀ (j : Nat) (t : Tm) (vt : Value) (w : World), ts[j]? = some t → (∀ i, i < j → b i = false) → I j w → Tm.at S w t vt → Calls Tryz.prog fid (#[vt] ++ caps) w fun e w' => e = .returned (.bool (b j)) ∧ I (j + 1) w'
def IndexPost (n : Nat) (I : Nat → World → Prop) (b : Nat → Bool) (e : Ending) (w' : World) : Prop :=
  ((∃ j, j < n ∧ (∀ i, i < j → b i = false) ∧ b j = true ∧ e = .returned (.int .i64 j) ∧ I (j + 1) w') ∨ ((∀ i, i < n → b i = false) ∧ e = .returned (.int .i64 (-1)) ∧ I n w'))
set_option maxHeartbeats 1000000 in
theorem slicesIndexFunc (fid : FuncId) (caps : Array Value) (ts : List Tm) (S : Nat → Prop) (I : Nat → World → Prop) (b : Nat → Bool) (v : Value) (w : World)
    (hcf : ∀ args w, Sem.run Tryz.prog (callFunc fid args) w = .ok (.enter fid args) w) (hstep : Hid (FuncStep fid caps ts S I b)) (hI : Hid (∀ j w, I j w → Tm.sl S w ts v)) (h0 : Hid (I 0 w)) :
    Calls Tryz.prog 79 #[v, .func (.func fid) #[] caps] w (IndexPost ts.length I b) := by
  obtain ⟨a, cap, rfl, h1, h2, h3, h4⟩ := hI.out 0 w h0.out
  clear h4
  go_enter Tryz.func79, Tryz.ntmps79
  go_wp2_with fail
  go_loopw [5, 8] (fun _ i wr => ∃ k : Nat, k ≤ ts.length ∧ i = .int .i64 k ∧ Hid (∀ i, i < k → b i = false) ∧ Hid (I k wr)) (fun _ i _ => ts.length - (intOf i).toNat)
  case atStart => exact ⟨0, Nat.zero_le _, rfl, fun i hi => absurd hi (by omega), h0⟩
  case round =>
    obtain ⟨k, hk, rfl, HB, HK⟩ := hrel
    by_cases hlt : k < ts.length
    · obtain ⟨tk, htk⟩ := getk hlt
      obtain ⟨a', cap', ha, _, _, _, h4⟩ := hI.out k wr HK.out
      cases ha
      obtain ⟨bb, off, ak, ck, rfl, hSb, c1, c2, c3, c4, hat⟩ := tget h4 htk
      have HC := Lib.hid (hstep.out k tk _ wr htk HB.out HK.out hat)
      clear h4 htk hat hSb
      cases hb : b k
      all_goals
        rw [hb] at HC
        have Hb := Lib.hid hb
        clear hb
        go_wp2_with fail
        refine HC.out.mono ?_
        rintro e w' ⟨rfl, hk'⟩
        have HK' := Lib.hid hk'
        clear hk'
        go_wp2_with fail
        first
          | (go_ret; exact .inl ⟨k, hlt, HB.out, Hb.out, rfl, HK'.out⟩)
          | (go_roundw
             case rel => exact ⟨k + 1, by omega, by go_num, fun i hi => by
               by_cases e : i = k
               · rw [e]; exact Hb.out
               · exact HB.out i (by omega), HK'⟩
             case measure => simp [intOf]; omega)
    · go_wp2_with fail
      go_ret
      exact .inr ⟨fun i hi => HB.out i (by omega), rfl, by rw [show ts.length = k by omega]; exact HK.out⟩
def ContPost (n : Nat) (I : Nat → World → Prop) (b : Nat → Bool) (e : Ending) (w' : World) : Prop :=
  ((∃ j, j < n ∧ (∀ i, i < j → b i = false) ∧ b j = true ∧ e = .returned (.bool true) ∧ I (j + 1) w') ∨ ((∀ i, i < n → b i = false) ∧ e = .returned (.bool false) ∧ I n w'))
set_option maxHeartbeats 1000000 in
theorem slicesContainsFunc (fid : FuncId) (caps : Array Value) (ts : List Tm) (S : Nat → Prop) (I : Nat → World → Prop) (b : Nat → Bool) (v : Value) (w : World)
    (hcf : ∀ args w, Sem.run Tryz.prog (callFunc fid args) w = .ok (.enter fid args) w) (hstep : Hid (FuncStep fid caps ts S I b)) (hI : Hid (∀ j w, I j w → Tm.sl S w ts v)) (h0 : Hid (I 0 w)) :
    Calls Tryz.prog 65 #[v, .func (.func fid) #[] caps] w (ContPost ts.length I b) := by
  have HC := Lib.hid (slicesIndexFunc fid caps ts S I b v w hcf hstep hI h0)
  obtain ⟨a, cap, rfl, h1, h2, h3, h4⟩ := hI.out 0 w h0.out
  clear h4 hcf
  go_enter Tryz.func65, Tryz.ntmps65
  go_wp2_with fail
  refine HC.out.mono ?_
  rintro e w' (⟨j, hj, hb, hbj, rfl, hI'⟩ | ⟨hb, rfl, hI'⟩)
  · have H1 := Lib.hid hb
    have H2 := Lib.hid hbj
    have H3 := Lib.hid hI'
    clear hb hbj hI'
    go_wp2_with fail
    go_ret
    exact .inl ⟨j, hj, H1.out, H2.out, rfl, H3.out⟩
  · have H1 := Lib.hid hb
    have H3 := Lib.hid hI'
    clear hb hI'
    go_wp2_with fail
    go_ret
    exact .inr ⟨H1.out, rfl, H3.out⟩
end Go.Proofs.YtognkaebiafgbaaGreat

namespace Go.Proofs.YtognkaebiafgbaaGreat
open Go.RowKit
set_option linter.unusedVariables false
theorem info_term3 : (Tryz.prog.info? 26).map (fun i => (i.zero, i.size, i.bytes)) = some (some (.agg #[.int .i64 0, .int .i64 0, .string ⟨#[]⟩, .slice none 0 0]), 4, 56) := by kernel_rfl
theorem ext_cells {W w1 : World} (h : Ext W w1) : ∀ b o, b < W.heap.size → w1.cell? ⟨b, o, none⟩ = W.cell? ⟨b, o, none⟩ := fun b o hb => Below.cell (p := ⟨b, o, none⟩) h hb
theorem cell_four (w : World) (t : Tm) (T : Nat) {a : Option Addr} {c : Nat} (j : Nat) (u : Value) (h : (tcells t a c)[j]? = some u) :
    (w.alloc (.cells #[.int .i64 t.kind, .int .i64 t.n, .string t.name, .slice a t.kids.length c] T)).cell? ((⟨w.heap.size, 0, none⟩ : Addr).add j) = some u := by
  rw [show (⟨w.heap.size, 0, none⟩ : Addr).add j = ⟨w.heap.size, 0 + j, none⟩ by unfold Addr.add; split <;> simp_all]
  exact cell_new _ _ _ _ _ (by simpa [tcells] using h)
theorem own_form {w : World} {base e size n : Nat} {v : Value} {xs : List Value} (h : w.ownsRow base e size v n xs) : ∃ a c, v = .slice a n c := by
  rcases h.2 with ⟨rfl, rfl⟩ | ⟨g, cap, cur, rfl, _⟩
  · exact ⟨none, 0, rfl⟩
  · exact ⟨_, _, rfl⟩
theorem own_ge {w : World} {base e size n : Nat} {v : Value} {xs : List Value} (h : w.ownsRow base e size v n xs) : ∀ g, v.ownBlock = some g → base ≤ g := fun g hg => (h.lt g hg).1
theorem flat_bound {S : Nat → Prop} {w : World} : ∀ {ts : List Tm} {xs : List Value}, Tm.flat S w ts xs → Tm.flat (fun b => S b ∧ b < w.heap.size) w ts xs
  | [], xs, h => h
  | t :: ts, xs, h => by
    obtain ⟨a, cap, rest, rfl, h1, h2⟩ := h
    exact ⟨a, cap, rest, rfl, Tm.at_bound h1, flat_bound h2⟩
end Go.Proofs.YtognkaebiafgbaaGreat

namespace Go.Proofs.YtognkaebiafgbaaGreat
open Go.RowKit
set_option linter.unusedVariables false
theorem row_flat {S : Nat → Prop} {w : World} {b : Nat} : ∀ {ts : List Tm} {off : Nat}, Tm.row S w b off ts → ∃ xs, Tm.flat S w ts xs ∧ ∀ j u, xs[j]? = some u → w.cell? ⟨b, off + j, none⟩ = some u
  | [], off, _ => ⟨[], by simp [Tm.flat], by simp⟩
  | t :: ts, off, h => by
    simp only [Tm.row] at h
    obtain ⟨a, cap, h1, h2, h3, h4, h5⟩ := Tm.at_of_cells h.1
    obtain ⟨xs, hx, hc⟩ := row_flat h.2
    refine ⟨tcells t a cap ++ xs, ⟨a, cap, xs, rfl, h5, hx⟩, ?_⟩
    intro j u hj
    match j with
    | 0 => simp [tcells] at hj; subst hj; exact h1
    | 1 => simp [tcells] at hj; subst hj; exact h2
    | 2 => simp [tcells] at hj; subst hj; exact h3
    | 3 => simp [tcells] at hj; subst hj; exact h4
    | j + 4 =>
      simp [tcells] at hj
      rw [show off + (j + 4) = off + 4 + j by omega]
      exact hc j u hj
theorem flat_one {S : Nat → Prop} {w : World} : ∀ {ts : List Tm} {xs : List Value}, Tm.flat S w ts xs → ∀ u ∈ xs, u.oneCell' = true
  | [], xs, h => by simp only [Tm.flat] at h; subst h; simp
  | t :: ts, xs, h => by
    obtain ⟨a, cap, rest, rfl, h1, h2⟩ := h
    have := flat_one h2
    simp [tcells, Value.oneCell']
    exact this
theorem own_empty {w : World} {T b : Nat} (hb : b = w.heap.size) : (w.alloc (.cells #[] T)).ownsRow b T 4 (.slice (some ⟨b, 0, none⟩) 0 0) 0 [] := by
  subst hb
  refine ⟨rfl, .inr ⟨w.heap.size, 0, #[], rfl, Nat.le_refl _, ?_, by omega, by decide, rfl, rfl⟩⟩
  show (w.heap.push _)[w.heap.size]? = _
  simp
theorem grown_cells {W w2 : World} {v : Value} {base : Nat} (hg : W.grownBy w2 v.ownBlock) (hv : ∀ g, v.ownBlock = some g → base ≤ g) (hb : base ≤ W.heap.size) :
    (∀ b o, b < base → w2.cell? ⟨b, o, none⟩ = W.cell? ⟨b, o, none⟩) ∧ (∀ b o, b < base → w2.frozen? ⟨b, o, none⟩ = W.frozen? ⟨b, o, none⟩) :=
  ⟨fun b o h => World.cell?_of_block (w := W) (a := ⟨b, o, none⟩) (hg.block b (by omega) (fun e => by have := hv b e.symm; omega)),
   fun b o h => World.frozen?_of_block (w := W) (a := ⟨b, o, none⟩) (hg.block b (by omega) (fun e => by have := hv b e.symm; omega))⟩
def StructC (s : ByteArray) (ts : List Tm) : Prop := ∀ (v : Value) (S : Nat → Prop) (w : World), Tm.sl S w ts v →
  Calls Tryz.prog 35 #[.string s, v] w fun e w' => ∃ v', e = .returned v' ∧ Tm.at (fun b => S b ∨ w.heap.size ≤ b) w' (.mk 3 0 s ts) v' ∧ Ext w w'
set_option maxRecDepth 100000 in
set_option maxHeartbeats 1000000 in
theorem specl1Struct (s : ByteArray) (ts : List Tm) (hs : s.size ≤ 1048576) (hts : ts ≠ []) : StructC s ts := by
  intro v S w hv
  obtain ⟨i0, hi, hz0, hz1, hz2⟩ := info_parts info_term3
  obtain ⟨a, cap, rfl, h1, h2, h3, h4⟩ := hv
  obtain ⟨b, off, rfl, hSb, hrow⟩ := h4.resolve_left hts
  obtain ⟨xs, hfl, hcs⟩ := row_flat hrow
  have hlen := flat_len hfl
  have h1c := flat_one hfl
  have HCS := Lib.hid (fun W (E : Ext w W) j u (h : xs[j]? = some u) => (show W.cell? ((⟨b, off, none⟩ : Addr).add j) = some u by
    rw [show (⟨b, off, none⟩ : Addr).add j = ⟨b, off + j, none⟩ by unfold Addr.add; split <;> simp_all]
    exact E.cell (hcs j u h)))
  have HFL := Lib.hid hfl
  have H1C := Lib.hid h1c
  have HI := Lib.hid hi
  have HZ := Lib.hid hz0
  clear hcs hfl h1c hrow h4 hi hz0
  go_enter Tryz.func35, Tryz.ntmps35
  go_wp2_with (at_builtin; refine wpList_append_fresh rfl (.tmp 6) (.tmp 7) 24 rfl (w.heap.size + 1) 26 i0 _ 4 56 Tryz.underlying24 HI.out HZ.out hz1 hz2 rfl (by decide) (.slice (some ⟨w.heap.size + 1, 0, none⟩) 0 0) 0 [] rfl (own_empty (by simp)) ⟨b, off, none⟩ ts.length cap xs rfl hlen (HCS.out _ ((Ext.alloc _ _).trans (Ext.alloc _ _))) H1C.out (by unfold maxLen; omega) (by omega) (by simp) ?_; intro v2 w2 ho2 hg2 hfr2 _; obtain ⟨av, cv, rfl⟩ := own_form ho2; obtain ⟨kc, kf⟩ := grown_cells hg2 (base := w.heap.size + 1) (fun g h => by simp [Value.ownBlock] at h; omega) (by simp); have HO2 := Lib.hid ho2; have HG2 := Lib.hid hg2; have HFR := Lib.hid hfr2; clear ho2 hg2 hfr2)
  have ho := HO2.out
  rw [Nat.zero_add, List.nil_append] at ho
  have hge := own_ge ho
  have hE : Ext w w2 := ((Ext.alloc _ _).trans (Ext.alloc _ _)).grown HG2.out (fun b h => by simp [Value.ownBlock] at h; omega)
  refine ret4_set (p := 4) (T := 26) (b := w.heap.size) (u0 := .int .i64 0) (u1 := .int .i64 0) (u2 := .string ⟨#[]⟩) (u3 := .slice none 0 0) (by kernel_rfl) (fun _ => by kernel_rfl) (fun _ => by kernel_rfl) rfl rfl (by go_simp) (by go_simp) (by go_simp) (by go_simp) ?_
  intro X hX
  have hsl := own_sl ho (flat_mono (S' := fun b => S b ∧ b < w.heap.size) (fun _ h => h) ((Agree.of_ext hE)) (flat_bound HFL.out)) h3
  refine ⟨_, rfl, Tm.at_iff.2 ⟨hs, _, rfl, Tm.sl_mono ?_ (Agree.grown hX ?_) hsl⟩, hE.grown hX (fun b h => by simp at h; omega)⟩
  · rintro b (⟨hb, _⟩ | hb)
    · exact .inl hb
    · exact .inr (by have := hge b hb; omega)
  · intro b h
    simp at h
    subst h
    rintro (⟨_, hb⟩ | hb)
    · omega
    · have := hge _ hb; omega
end Go.Proofs.YtognkaebiafgbaaGreat
