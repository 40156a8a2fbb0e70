/-
  The source of draws (l18Rd): what it reads as in memory, and what pick, of and num return: some number in range, some element.
-/
import Derived.Test.YtognkaebiafgbaaRows
import Derived.WalkLawsBesides
import Derived.BigQuiet
import Derived.Deep.QuietTactic
import Derived.Laws.Bits64
import Derived.Test.YtognkaebiafgbaaMu2
namespace Go.Proofs.Ytognkaebiafgbaa
open Go.RowKit
set_option linter.unusedVariables false
def BytesAt (w : World) (v : Value) : Prop :=
  ∃ a len cap, v = .slice a len cap ∧ len ≤ cap ∧ cap ≤ 9223372036854775807 ∧
    (len = 0 ∨ ∃ b off, a = some ⟨b, off, none⟩ ∧ ∀ i, i < len → ∃ n : Nat, n ≤ 255 ∧ w.cell? ⟨b, off + i, none⟩ = some (.int .u8 n))
def Rd (w : World) (r p : Nat) : Prop :=
  ∃ a len cap, w.cell? ⟨r, 0, none⟩ = some (.slice a len cap) ∧ w.cell? ⟨r, 1, none⟩ = some (.int .i64 p) ∧ w.frozen? ⟨r, 1, none⟩ = false ∧ len ≤ cap ∧ cap ≤ 9223372036854775807 ∧ len ≤ 2000 ∧
    (len = 0 ∨ ∃ b off, a = some ⟨b, off, none⟩ ∧ b ≠ r ∧ ∀ i, i < len → ∃ n : Nat, n ≤ 255 ∧ w.cell? ⟨b, off + i, none⟩ = some (.int .u8 n))
theorem Rd.lt {w : World} {r p : Nat} (h : Rd w r p) : r < w.heap.size := by
  obtain ⟨a, len, cap, h1, _⟩ := h
  exact block_lt_of_cell h1
theorem Rd.ext {w w' : World} {r p : Nat} (h : Rd w r p) (e : Ext w w') : Rd w' r p := by
  have hlt := h.lt
  obtain ⟨a, len, cap, h1, h2, h3, h4, h5, h6, h7⟩ := h
  refine ⟨a, len, cap, e.cell h1, e.cell h2, e.frozen hlt h3, h4, h5, h6, ?_⟩
  rcases h7 with h7 | ⟨b, off, h7, h8, h9⟩
  · exact .inl h7
  · exact .inr ⟨b, off, h7, h8, fun i hi => let ⟨n, hn, hc⟩ := h9 i hi; ⟨n, hn, e.cell hc⟩⟩
def ExtC (r : Nat) (w w' : World) : Prop := w.grownBy w' (some r)
theorem ExtC.of_ext {r : Nat} {w w' : World} (h : Ext w w') : ExtC r w w' := ⟨Below.os h, Below.tape h, Below.output h, Below.size h, fun k hk _ => Below.block h k hk⟩
theorem ExtC.trans {r : Nat} {a b c : World} (h : ExtC r a b) (k : ExtC r b c) : ExtC r a c := grown_trans h k
theorem ExtC.refl (r : Nat) (w : World) : ExtC r w w := .of_ext (Ext.refl w)
theorem ExtC.cell {r : Nat} {w w' : World} (h : ExtC r w w') {b o : Nat} {v : Value} (hb : b ≠ r) (hc : w.cell? ⟨b, o, none⟩ = some v) : w'.cell? ⟨b, o, none⟩ = some v := by
  have hlt := block_lt_of_cell hc
  rw [World.cell?_of_block (w := w) (a := ⟨b, o, none⟩) (h.block b hlt (fun e => hb (Option.some.inj e)))]
  exact hc
theorem ExtC.frozen {r : Nat} {w w' : World} (h : ExtC r w w') {b o : Nat} (hlt : b < w.heap.size) (hb : b ≠ r) (hf : w.frozen? ⟨b, o, none⟩ = false) : w'.frozen? ⟨b, o, none⟩ = false := by
  rw [World.frozen?_of_block (w := w) (a := ⟨b, o, none⟩) (h.block b hlt (fun e => hb (Option.some.inj e)))]
  exact hf
theorem ExtC.agree {r : Nat} {w w' : World} {S : Nat → Prop} (h : ExtC r w w') (hS : ¬ S r) : Agree S w w' := Agree.grown h (fun b hb => by cases hb; exact hS)
theorem ExtC.below {r : Nat} {w w1 w' : World} (h0 : Ext w w1) (h : ExtC r w1 w') (hr : w.heap.size ≤ r) : Ext w w' := Ext.grown h0 h (fun b hb => by cases hb; exact hr)
def ExtR (r : Nat) (w w' : World) : Prop := w.grownBy w' (some r) ∧ ∀ v, w.cell? ⟨r, 0, none⟩ = some v → w'.cell? ⟨r, 0, none⟩ = some v
theorem ExtR.of_ext {r : Nat} {w w' : World} (h : Ext w w') : ExtR r w w' := ⟨⟨Below.os h, Below.tape h, Below.output h, Below.size h, fun k hk _ => Below.block h k hk⟩, fun v hv => h.cell hv⟩
theorem ExtR.trans {r : Nat} {a b c : World} (h : ExtR r a b) (k : ExtR r b c) : ExtR r a c := ⟨grown_trans h.1 k.1, fun v hv => k.2 v (h.2 v hv)⟩
theorem ExtR.refl (r : Nat) (w : World) : ExtR r w w := .of_ext (Ext.refl w)
theorem ExtR.cell {r : Nat} {w w' : World} (h : ExtR r w w') {b o : Nat} {v : Value} (hb : b ≠ r) (hc : w.cell? ⟨b, o, none⟩ = some v) : w'.cell? ⟨b, o, none⟩ = some v := by
  have hlt := block_lt_of_cell hc
  rw [World.cell?_of_block (w := w) (a := ⟨b, o, none⟩) (h.1.block b hlt (fun e => hb (Option.some.inj e)))]
  exact hc
theorem ExtR.frozen {r : Nat} {w w' : World} (h : ExtR r w w') {b o : Nat} (hlt : b < w.heap.size) (hb : b ≠ r) (hf : w.frozen? ⟨b, o, none⟩ = false) : w'.frozen? ⟨b, o, none⟩ = false := by
  rw [World.frozen?_of_block (w := w) (a := ⟨b, o, none⟩) (h.1.block b hlt (fun e => hb (Option.some.inj e)))]
  exact hf
theorem ExtR.agree {r : Nat} {w w' : World} {S : Nat → Prop} (h : ExtR r w w') (hS : ¬ S r) : Agree S w w' := Agree.grown h.1 (fun b hb => by cases hb; exact hS)
theorem ExtR.below {r : Nat} {w w1 w' : World} (h0 : Ext w w1) (h : ExtR r w1 w') (hr : w.heap.size ≤ r) : Ext w w' := Ext.grown h0 h.1 (fun b hb => by cases hb; exact hr)
theorem rd_step {w : World} {r p : Nat} (h : Rd w r p) : Rd (w.setCell ⟨r, 1, none⟩ (.int .i64 (p + 1 : Nat))) r (p + 1) ∧ ExtR r w (w.setCell ⟨r, 1, none⟩ (.int .i64 (p + 1 : Nat))) := by
  have hg : ExtR r w (w.setCell ⟨r, 1, none⟩ (.int .i64 (p + 1 : Nat))) := ⟨grown_setCell _ _ _ _, fun v hv => cell_off (by decide) hv⟩
  refine ⟨?_, hg⟩
  obtain ⟨a, len, cap, h1, h2, h3, h4, h5, h6, h7⟩ := h
  refine ⟨a, len, cap, cell_off (by decide) h1, cell_same h2, by simpa using h3, h4, h5, h6, ?_⟩
  rcases h7 with h7 | ⟨b, off, h7, h8, h9⟩
  · exact .inl h7
  · exact .inr ⟨b, off, h7, h8, fun i hi => let ⟨n, hn, hc⟩ := h9 i hi; ⟨n, hn, hg.cell h8 hc⟩⟩
theorem xor_i64 (a b : Nat) (ha : a < 4611686018427387904) (hb : b < 4611686018427387904) : bits .xor .i64 (a : Int) (b : Int) = ((a ^^^ b : Nat) : Int) := by
  have hx : a ^^^ b < 2 ^ 62 := Nat.xor_lt_two_pow (by omega) (by omega)
  have h1 : (BitVec.ofInt 64 (a : Int)).toNat = a := by
    rw [BitVec.ofInt_natCast, BitVec.toNat_ofNat]; exact Nat.mod_eq_of_lt (by omega)
  have h2 : (BitVec.ofInt 64 (b : Int)).toNat = b := by
    rw [BitVec.ofInt_natCast, BitVec.toNat_ofNat]; exact Nat.mod_eq_of_lt (by omega)
  show IntKind.i64.wrap ((BitVec.ofInt 64 (a : Int) ^^^ BitVec.ofInt 64 (b : Int)).toNat : Int) = _
  rw [BitVec.toNat_xor, h1, h2]
  exact IntWalk.i64_in _ (by omega)
theorem nat_name (x : Int) (h0 : 0 ≤ x) (h1 : x ≤ 4611686018427387903) : ∃ A : Nat, IntKind.i64.wrap x = (A : Int) ∧ (A : Int) = x := ⟨x.toNat, by rw [IntWalk.i64_in _ (by omega)]; omega, by omega⟩
theorem mix_end (E n : Int) (h0 : 0 ≤ E) (h1 : E ≤ 4611686018427387903) (hn : 1 ≤ n) : 0 ≤ (bits .xor .i64 E (wrap64 (E.tdiv 64))).tmod n ∧ (bits .xor .i64 E (wrap64 (E.tdiv 64))).tmod n < n := by
  obtain ⟨z, rfl⟩ := Int.eq_ofNat_of_zero_le h0
  have e : wrap64 ((z : Int).tdiv 64) = ((z / 64 : Nat) : Int) := by
    rw [Int.tdiv_eq_ediv_of_nonneg (by omega), show ((z : Int) / 64) = ((z / 64 : Nat) : Int) from rfl]
    unfold wrap64; omega
  rw [e, xor_i64 z (z / 64) (by omega) (by omega), Int.tmod_eq_emod_of_nonneg (by omega)]
  exact ⟨Int.emod_nonneg _ (by omega), Int.emod_lt_of_pos _ (by omega)⟩
theorem mix_E (p len x1 x2 : Nat) (hp : p ≤ 1099511627776) (hx1 : x1 ≤ 255) (hx2 : x2 ≤ 255) :
    0 ≤ wrap64 ((x1 : Int) * 131 + (x2 : Int) * 1117 + (p : Int) * 29 + wrap64 (wrap64 ((p : Int) / (len : Int)) * 53)) ∧ wrap64 ((x1 : Int) * 131 + (x2 : Int) * 1117 + (p : Int) * 29 + wrap64 (wrap64 ((p : Int) / (len : Int)) * 53)) ≤ 4611686018427387903 := by
  have hq0 : p / len ≤ p := Nat.div_le_self _ _
  rw [show ((p : Int) / (len : Int)) = ((p / len : Nat) : Int) from rfl]
  generalize p / len = q at hq0
  rw [IntWalk.wrap64_in (q : Int) (by omega), IntWalk.wrap64_in ((q : Int) * 53) (by omega), IntWalk.wrap64_in _ (by omega)]
  omega
theorem Ext.drewN (w : World) (n : Nat) : Ext w (w.drewN n) := ⟨rfl, rfl, rfl, Nat.le_refl _, fun _ _ => rfl⟩
def PickPost (r p : Nat) (n : Int) (w : World) (e : Ending) (w' : World) : Prop := ∃ x : Int, e = .returned (.int .i64 x) ∧ 0 ≤ x ∧ x < n ∧ Rd w' r (p + 1) ∧ ExtR r w w'
set_option maxHeartbeats 1000000 in
theorem rdpick (r p : Nat) (n : Int) (w : World) (hp : p ≤ 1099511627776) (hn : 1 ≤ n) (hn2 : n ≤ 1048576) (h : Rd w r p) :
    Calls Try.prog 12 #[.pointer (some ⟨r, 0, none⟩), .int .i64 n] w (PickPost r p n w) := by
  obtain ⟨hs1, hs2⟩ := rd_step h
  have HS1 := Lib.hid hs1
  have HS2 := Lib.hid hs2
  obtain ⟨a, len, cap, h1, h2, h3, h4, h5, h6, h7⟩ := h
  clear hs1 hs2
  by_cases hl : len = 0
  · subst hl
    go_enter Try.func12, Try.ntmps12
    go_wp2_with fail
    go_ret
    exact ⟨0, rfl, by omega, by omega, HS1.out, HS2.out⟩
  · have hpos : 0 < len := Nat.pos_of_ne_zero hl
    obtain ⟨b, off, rfl, hb, hcs⟩ := h7.resolve_left hl
    by_cases hk : p < len
    · obtain ⟨x, hx, hc⟩ := hcs p hk
      have E1 := Lib.hid (Int.emod_nonneg (x : Int) (show n ≠ 0 by omega))
      have E2 := Lib.hid (Int.emod_lt_of_pos (x : Int) (show 0 < n by omega))
      clear hcs h7
      have hl' : ((len : Int) == 0) = false := by simp [hl]
      go_enter Try.func12, Try.ntmps12
      go_wp2_with fail
      all_goals (go_ret; exact ⟨(x : Int) % n, rfl, E1.out, E2.out, HS1.out, HS2.out⟩)
    · have hl' : ((len : Int) == 0) = false := by simp [hl]
      have m1 : p % len < len := Nat.mod_lt _ hpos
      have m2 : (p * 7 + 3) % len < len := Nat.mod_lt _ hpos
      obtain ⟨x1, hx1, k1⟩ := hcs _ m1
      obtain ⟨x2, hx2, k2⟩ := hcs _ m2
      clear hcs h7
      obtain ⟨a2, e2, b2⟩ := nat_name ((p : Int) * 7) (by omega) (by omega)
      obtain ⟨a3, e3, b3⟩ := nat_name ((a2 : Int) + 3) (by omega) (by omega)
      have v3 : a3 = p * 7 + 3 := by omega
      clear b2 b3
      obtain ⟨M1, w1, v1⟩ : ∃ A : Nat, (p : Int).tmod (len : Int) = (A : Int) ∧ A = p % len := ⟨p % len, by rw [Int.tmod_eq_emod_of_nonneg (by omega)]; rfl, rfl⟩
      obtain ⟨M2, w2, v2⟩ : ∃ A : Nat, (a3 : Int).tmod (len : Int) = (A : Int) ∧ A = (p * 7 + 3) % len := ⟨(p * 7 + 3) % len, by rw [Int.tmod_eq_emod_of_nonneg (by omega), v3]; rfl, rfl⟩
      rw [← v1] at m1 k1
      rw [← v2] at m2 k2
      have MX := Lib.hid (mix_end _ n (mix_E p len x1 x2 hp hx1 hx2).1 (mix_E p len x1 x2 hp hx1 hx2).2 hn)
      have m1' : (M1 : Int) < (len : Int) := by omega
      have m2' : (M2 : Int) < (len : Int) := by omega
      clear v1 v2 v3
      go_enter Try.func12, Try.ntmps12
      go_wp2_with fail
      refine wp_region_quiet_lit (by kernel_rfl) (by kernel_rfl) ?_
      repeat (quiet_step (fail))
      refine wpQuiet_nil ?_
      intro _ hw'
      obtain ⟨nq, hw''⟩ := hw'
      subst hw''
      go_wp2_with fail
      go_ret
      exact ⟨_, rfl, MX.out.1, MX.out.2, Rd.ext HS1.out (Ext.drewN _ nq), HS2.out.trans (ExtR.of_ext (Ext.drewN _ nq))⟩
def IntsAt (w : World) (zs : List Int) (v : Value) : Prop :=
  ∃ a cap, v = .slice a zs.length cap ∧ zs.length ≤ cap ∧ cap ≤ 9223372036854775807 ∧ zs.length ≤ 1048576 ∧
    (zs = [] ∨ ∃ b off, a = some ⟨b, off, none⟩ ∧ ∀ i z, zs[i]? = some z → w.cell? ⟨b, off + i, none⟩ = some (.int .i64 z))
def NumPost (r p : Nat) (zs : List Int) (w : World) (e : Ending) (w' : World) : Prop := ∃ x : Int, e = .returned (.int .i64 x) ∧ x ∈ zs ∧ Rd w' r (p + 1) ∧ ExtR r w w'
set_option maxHeartbeats 1000000 in
theorem rdnum (r p : Nat) (zs : List Int) (v : Value) (w : World) (hp : p ≤ 1099511627776) (h : Rd w r p) (hz : zs ≠ []) (hb : ∀ b o c l, v = .slice (some ⟨b, o, none⟩) l c → b ≠ r) (hv : IntsAt w zs v) :
    Calls Try.prog 21 #[.pointer (some ⟨r, 0, none⟩), v] w (NumPost r p zs w) := by
  obtain ⟨a, cap, rfl, h1, h2, h3, h4⟩ := hv
  have hpos : 1 ≤ zs.length := by cases zs with | nil => exact absurd rfl hz | cons _ _ => simp
  obtain ⟨b, off, rfl, hcs⟩ := h4.resolve_left hz
  have hbr := hb b off cap _ rfl
  have HCS := Lib.hid hcs
  have HZ := Lib.hid hz
  clear hcs hz hb h4
  go_enter Try.func21, Try.ntmps21
  go_wp2_with fail
  refine (rdpick r p _ w hp (by omega) (by omega) h).mono ?_
  rintro e w1 ⟨x, rfl, hx0, hx1, hr, he⟩
  obtain ⟨k, rfl⟩ := Int.eq_ofNat_of_zero_le hx0
  have hk : k < zs.length := by omega
  have hget : zs[k]? = some zs[k] := by simp [hk]
  have hc := he.cell hbr (HCS.out k _ hget)
  have HM := Lib.hid (List.getElem_mem hk)
  generalize zs[k] = z at hc HM
  have HR := Lib.hid hr
  have HE := Lib.hid he
  clear hget hr he
  go_wp2_with fail
  go_ret
  exact ⟨z, rfl, HM.out, HR.out, HE.out⟩
def OfPost (r p : Nat) (ss : List ByteArray) (w : World) (e : Ending) (w' : World) : Prop := ∃ s : ByteArray, e = .returned (.string s) ∧ s ∈ ss ∧ Rd w' r (p + 1) ∧ ExtR r w w'
set_option maxHeartbeats 1000000 in
theorem rdof (r p : Nat) (ss : List ByteArray) (v : Value) (w : World) (hp : p ≤ 1099511627776) (h : Rd w r p) (hz : ss ≠ []) (hb : ∀ b o c l, v = .slice (some ⟨b, o, none⟩) l c → b ≠ r) (hv : StrsAt w ss v) :
    Calls Try.prog 20 #[.pointer (some ⟨r, 0, none⟩), v] w (OfPost r p ss w) := by
  obtain ⟨a, cap, rfl, h1, h2, h3, h4⟩ := hv
  have hpos : 1 ≤ ss.length := by cases ss with | nil => exact absurd rfl hz | cons _ _ => simp
  obtain ⟨b, off, rfl, hcs⟩ := h4.resolve_left hz
  have hbr := hb b off cap _ rfl
  have HCS := Lib.hid hcs
  have HZ := Lib.hid hz
  clear hcs hz hb h4 h3
  go_enter Try.func20, Try.ntmps20
  go_wp2_with fail
  refine (rdpick r p _ w hp (by omega) (by omega) h).mono ?_
  rintro e w1 ⟨x, rfl, hx0, hx1, hr, he⟩
  obtain ⟨k, rfl⟩ := Int.eq_ofNat_of_zero_le hx0
  have hk : k < ss.length := by omega
  have hget : ss[k]? = some ss[k] := by simp [hk]
  have hc := he.cell hbr (HCS.out k _ hget)
  have HM := Lib.hid (List.getElem_mem hk)
  generalize ss[k] = z at hc HM
  have HR := Lib.hid hr
  have HE := Lib.hid he
  clear hget hr he
  go_wp2_with fail
  go_ret
  exact ⟨z, rfl, HM.out, HR.out, HE.out⟩
set_option maxHeartbeats 1000000 in
theorem specl18Open (v : Value) (w : World) (hv : BytesAt w v) :
    Calls Try.prog 11 #[v] w fun e w' => ∃ r, e = .returned (.pointer (some ⟨r, 0, none⟩)) ∧ w.heap.size ≤ r ∧ Rd w' r 0 ∧ Ext w w' := by
  obtain ⟨a, len, cap, rfl, h1, h2, h3⟩ := hv
  by_cases hl : len ≤ 2000
  · go_enter Try.func11, Try.ntmps11
    go_wp2_with fail
    go_ret
    refine ⟨w.heap.size, rfl, Nat.le_refl _, ⟨a, len, cap, by go_simp, by go_simp, by go_simp, h1, h2, hl, ?_⟩, Ext.alloc _ _⟩
    rcases h3 with h3 | ⟨b, off, h3, h4⟩
    · exact .inl h3
    · by_cases h0 : len = 0
      · exact .inl h0
      · refine .inr ⟨b, off, h3, ?_, fun i hi => let ⟨n, hn, hc⟩ := h4 i hi; ⟨n, hn, (Ext.alloc _ _).cell hc⟩⟩
        obtain ⟨n, _, hc⟩ := h4 0 (by omega)
        have := block_lt_of_cell hc
        simp only at this; omega
  · rcases h3 with h3 | ⟨b, off, rfl, h4⟩
    · omega
    · have H4 := Lib.hid h4
      clear h4
      go_enter Try.func11, Try.ntmps11
      go_wp2_with fail
      go_ret
      refine ⟨w.heap.size, rfl, Nat.le_refl _, ⟨some ⟨b, off, none⟩, 2000, cap, by go_simp, by go_simp, by go_simp, by omega, h2, by omega, .inr ⟨b, off, rfl, ?_, fun i hi => let ⟨n, hn, hc⟩ := H4.out i (by omega); ⟨n, hn, (Ext.alloc _ _).cell hc⟩⟩⟩, Ext.alloc _ _⟩
      obtain ⟨n, _, hc⟩ := H4.out 0 (by omega)
      have := block_lt_of_cell hc
      simp only at this; omega
end Go.Proofs.Ytognkaebiafgbaa
