/-
  The program's (*store).call: solving a goal that is built in.
-/
import Derived.Deep.CutBlock
import Derived.StillTailTactics
import Derived.Test.YtdelhgodhkbjdaaMg35
import Derived.Test.YtdelhgodhkbjdaaMg36
namespace Go.Proofs.Ytdelhgodhkbjdaa
open Go.RowKit
set_option linter.unusedVariables false

theorem StoT.lt0 {S : Nat → Prop} {w : World} {sb mb : Nat} {K : List Tm} {L : List Int} {tv : Value} (h : StoT S w sb mb K L tv) : sb < w.heap.size ∧ mb < w.heap.size := ⟨h.1.lt, by obtain ⟨m0, _, hkm⟩ := h.1.km; exact hkm.lt⟩
theorem implholds (b : Bool) (w : World) : Calls Try.prog 73 #[.bool b] w fun e w' => e = .returned (.int .i64 (holdsN b)) ∧ w = w' := by
  cases b
  all_goals
    go_enter Try.func73, Try.ntmps73
    go_wp2_with fail
    go_ret
    exact ⟨rfl, rfl⟩
theorem implisAtomT (t : Tm) (v : Value) (S : Nat → Prop) (w : World) (ht : Tm.at S w t v) : Calls Try.prog 76 #[v] w fun e w' => e = .returned (.bool (atomF t.kind t.kids.length)) ∧ Ext w w' := by
  cases t
  exact implisAtom _ _ _ _ v S w ht
/-- a term without arguments reads anywhere -/
theorem at_bare {S S' : Nat → Prop} {w : World} {k n : Int} {s : ByteArray} {v : Value} (h : Tm.at S w (.mk k n s []) v) : Tm.at S' w (.mk k n s []) v := by
  obtain ⟨h1, sv, e, a, c, e2, h2, h3, h4, _⟩ := Tm.at_iff.1 h
  exact Tm.at_iff.2 ⟨h1, sv, e, a, c, e2, h2, h3, h4, .inl rfl⟩
/-- the first arguments -/
theorem kids1 {S : Nat → Prop} {w : World} {ks : List Tm} {a : Option Addr} (h : ks = [] ∨ ∃ b off, a = some ⟨b, off, none⟩ ∧ S b ∧ Tm.row S w b off ks) {k : Nat} (hl : k < ks.length) :
    ∃ b off ak ck, a = some ⟨b, off, none⟩ ∧ S b ∧ w.cell? ⟨b, off + k * 4, none⟩ = some (.int .i64 (kidAt ks k).kind) ∧ w.cell? ⟨b, off + k * 4 + 1, none⟩ = some (.int .i64 (kidAt ks k).n) ∧ w.cell? ⟨b, off + k * 4 + 2, none⟩ = some (.string (kidAt ks k).name) ∧
      w.cell? ⟨b, off + k * 4 + 3, none⟩ = some (.slice ak (kidAt ks k).kids.length ck) ∧ Tm.at S w (kidAt ks k) (val4 (kidAt ks k) ak ck) ∧ ks[k]? = some (kidAt ks k) := by
  obtain ⟨t, ht⟩ := getk hl
  rw [kidAt_get ht]
  obtain ⟨b, off, ak, ck, h1, h2, h3, h4, h5, h6, h7⟩ := tget h ht
  exact ⟨b, off, ak, ck, h1, h2, h3, h4, h5, h6, h7, ht⟩
set_option maxRecDepth 100000 in
set_option maxHeartbeats 1000000 in
theorem implcall_true (n : Int) (s : ByteArray) (ks : List Tm) (v : Value) (S : Nat → Prop) (w : World) (sb mb : Nat) (hs : s.toList = [116, 114, 117, 101]) (hl : ks.length = 0) (hsh : shapeL ks 29 = true) (hB : ∀ b, S b → b < w.heap.size) (ht : Tm.at S w (.mk 3 n s ks) v) (hst : StoT S w sb mb known0 [] (.slice none 0 0)) :
    Calls Try.prog 40 #[.pointer (some ⟨sb, 0, none⟩), v] w (CallQ S sb mb (callR s.toList ks) w) := by
  have HF : Hid (callR s.toList ks = ((0 : Int), known0)) := Lib.hid (by unfold callR; rw [hs]; simp)
  have HC : Hid (cmpGF 3 s ks.length = false) := Lib.hid (by unfold cmpGF hasF five; rw [hl]; simp [hs])
  have HB := Lib.hid hB
  have HT := Lib.hid ht
  have HST := Lib.hid hst
  have HSH := Lib.hid hsh
  have lsb := hst.lt0
  have HL := Lib.hid hl
  have HNE := Lib.hid hst.1.2.2.1
  have HSB := Lib.hid hst.1.2.1
  obtain ⟨hs1, sv, rfl, a, c, rfl, h1, h2, h3, h4⟩ := Tm.at_iff.1 ht
  have H4 := Lib.hid h4
  simp only [Tm.kind, Tm.n, Tm.name, Tm.kids] at HT H4 ⊢
  clear hB ht hst hsh h4 h1 h2 h3 hl
  go_enter Try.func40, Try.ntmps40
  go_wp2_with fail
  refine (implcompares 3 n s ks _ S _ (Tm.at_ext (Ext.alloc _ _) HT.out)).mono ?_
  rw [HC.out]
  rintro e w2 ⟨rfl, e2⟩
  have X2 := Lib.hid ((BoxT.new w (.int .i64 3) (.int .i64 n) (.string s) (.slice a ks.length c) 25 rfl).ext e2)
  have E2 := Lib.hid ((Ext.alloc w (.cells #[.int .i64 3, .int .i64 n, .string s, .slice a ks.length c] 25)).trans e2)
  have ST2 := Lib.hid (HST.out.ext E2.out)
  clear e2
  obtain ⟨x0, x1, x2, x3, _, _, _, _⟩ := X2.out
  have lx2 := X2.out.lt
  go_wp2_with fail
  go_ret
  exact ⟨by rw [HF.out]; rfl, Fr.of_ext E2.out, fun _ => by rw [HF.out]; exact ST2.out.1⟩

set_option maxRecDepth 100000 in
set_option maxHeartbeats 1000000 in
theorem implcall_fail (n : Int) (s : ByteArray) (ks : List Tm) (v : Value) (S : Nat → Prop) (w : World) (sb mb : Nat) (hs : s.toList = [102, 97, 105, 108]) (hl : ks.length = 0) (hsh : shapeL ks 29 = true) (hB : ∀ b, S b → b < w.heap.size) (ht : Tm.at S w (.mk 3 n s ks) v) (hst : StoT S w sb mb known0 [] (.slice none 0 0)) :
    Calls Try.prog 40 #[.pointer (some ⟨sb, 0, none⟩), v] w (CallQ S sb mb (callR s.toList ks) w) := by
  have HF : Hid (callR s.toList ks = ((1 : Int), known0)) := Lib.hid (by unfold callR; rw [hs]; simp)
  have HC : Hid (cmpGF 3 s ks.length = false) := Lib.hid (by unfold cmpGF hasF five; rw [hl]; simp [hs])
  have HB := Lib.hid hB
  have HT := Lib.hid ht
  have HST := Lib.hid hst
  have HSH := Lib.hid hsh
  have lsb := hst.lt0
  have HL := Lib.hid hl
  have HNE := Lib.hid hst.1.2.2.1
  have HSB := Lib.hid hst.1.2.1
  obtain ⟨hs1, sv, rfl, a, c, rfl, h1, h2, h3, h4⟩ := Tm.at_iff.1 ht
  have H4 := Lib.hid h4
  simp only [Tm.kind, Tm.n, Tm.name, Tm.kids] at HT H4 ⊢
  clear hB ht hst hsh h4 h1 h2 h3 hl
  go_enter Try.func40, Try.ntmps40
  go_wp2_with fail
  refine (implcompares 3 n s ks _ S _ (Tm.at_ext (Ext.alloc _ _) HT.out)).mono ?_
  rw [HC.out]
  rintro e w2 ⟨rfl, e2⟩
  have X2 := Lib.hid ((BoxT.new w (.int .i64 3) (.int .i64 n) (.string s) (.slice a ks.length c) 25 rfl).ext e2)
  have E2 := Lib.hid ((Ext.alloc w (.cells #[.int .i64 3, .int .i64 n, .string s, .slice a ks.length c] 25)).trans e2)
  have ST2 := Lib.hid (HST.out.ext E2.out)
  clear e2
  obtain ⟨x0, x1, x2, x3, _, _, _, _⟩ := X2.out
  have lx2 := X2.out.lt
  go_wp2_with fail
  go_ret
  exact ⟨by rw [HF.out]; rfl, Fr.of_ext E2.out, fun _ => by rw [HF.out]; exact ST2.out.1⟩

set_option maxRecDepth 100000 in
set_option maxHeartbeats 1000000 in
theorem implcall_eq (n : Int) (s : ByteArray) (ks : List Tm) (v : Value) (S : Nat → Prop) (w : World) (sb mb : Nat) (hs : s.toList = [61]) (hl : ks.length = 2) (hsh : shapeL ks 29 = true) (hB : ∀ b, S b → b < w.heap.size) (ht : Tm.at S w (.mk 3 n s ks) v) (hst : StoT S w sb mb known0 [] (.slice none 0 0)) :
    Calls Try.prog 40 #[.pointer (some ⟨sb, 0, none⟩), v] w (CallQ S sb mb (callR s.toList ks) w) := by
  have HF : Hid (callR s.toList ks = (holdsN (uniR (kidAt ks 0) (kidAt ks 1)).1, (uniR (kidAt ks 0) (kidAt ks 1)).2)) := Lib.hid (by unfold callR; rw [hs]; simp)
  have HC : Hid (cmpGF 3 s ks.length = false) := Lib.hid (by unfold cmpGF hasF five; rw [hl]; simp [hs])
  have HB := Lib.hid hB
  have HT := Lib.hid ht
  have HST := Lib.hid hst
  have HSH := Lib.hid hsh
  have lsb := hst.lt0
  have HL := Lib.hid hl
  have HNE := Lib.hid hst.1.2.2.1
  have HSB := Lib.hid hst.1.2.1
  obtain ⟨hs1, sv, rfl, a, c, rfl, h1, h2, h3, h4⟩ := Tm.at_iff.1 ht
  have H4 := Lib.hid h4
  simp only [Tm.kind, Tm.n, Tm.name, Tm.kids] at HT H4 ⊢
  clear hB ht hst hsh h4 h1 h2 h3 hl
  go_enter Try.func40, Try.ntmps40
  go_wp2_with fail
  refine (implcompares 3 n s ks _ S _ (Tm.at_ext (Ext.alloc _ _) HT.out)).mono ?_
  rw [HC.out]
  rintro e w2 ⟨rfl, e2⟩
  have X2 := Lib.hid ((BoxT.new w (.int .i64 3) (.int .i64 n) (.string s) (.slice a ks.length c) 25 rfl).ext e2)
  have E2 := Lib.hid ((Ext.alloc w (.cells #[.int .i64 3, .int .i64 n, .string s, .slice a ks.length c] 25)).trans e2)
  have ST2 := Lib.hid (HST.out.ext E2.out)
  clear e2
  obtain ⟨x0, x1, x2, x3, _, _, _, _⟩ := X2.out
  have lx2 := X2.out.lt
  have hk0 : 0 < ks.length := by have := HL.out; omega
  obtain ⟨b, off, a0, c0, rfl, hSb0, l0, l1, l2, l3, hat0, hg0⟩ := kids1 H4.out hk0
  simp only [Nat.zero_mul, Nat.add_zero] at l0 l1 l2 l3
  have l0 := E2.out.cell l0
  have l1 := E2.out.cell l1
  have l2 := E2.out.cell l2
  have l3 := E2.out.cell l3
  have HA0 := Lib.hid (Tm.at_ext E2.out hat0)
  have SH0 := Lib.hid (shapeL_mem HSH.out (List.mem_of_getElem? hg0))
  clear hat0 hg0
  obtain ⟨t0, ht0⟩ : ∃ t, kidAt ks 0 = t := ⟨_, rfl⟩
  rw [ht0] at l0 l1 l2 l3 HA0 SH0 HF
  clear ht0
  have hk1 : 1 < ks.length := by have := HL.out; omega
  obtain ⟨b1, off1, a1, c1, e1, hSb1, m0, m1, m2, m3, hat1, hg1⟩ := kids1 H4.out hk1
  cases e1
  simp only [Nat.one_mul] at m0 m1 m2 m3
  have hk1i : (1 : Int) < (ks.length : Int) := by omega
  have m0 := E2.out.cell m0
  have m1 := E2.out.cell m1
  have m2 := E2.out.cell m2
  have m3 := E2.out.cell m3
  have HA1 := Lib.hid (Tm.at_ext E2.out hat1)
  have SH1 := Lib.hid (shapeL_mem HSH.out (List.mem_of_getElem? hg1))
  clear hat1 hg1
  obtain ⟨t1, ht1⟩ : ∃ t, kidAt ks 1 = t := ⟨_, rfl⟩
  rw [ht1] at m0 m1 m2 m3 HA1 SH1 HF
  clear ht1
  obtain ⟨f, hf⟩ := uniR_spec SH0.out SH1.out
  obtain ⟨cc, K, hr⟩ : ∃ c K, uniR t0 t1 = (c, K) := ⟨_, _, rfl⟩
  rw [hr] at hf HF
  have HU := Lib.hid hf
  clear hf hr
  have l0d : w2.drew.cell? _ = _ := l0
  have l1d : w2.drew.cell? _ = _ := l1
  have l2d : w2.drew.cell? _ = _ := l2
  have l3d : w2.drew.cell? _ = _ := l3
  have m0d : w2.drew.cell? _ = _ := m0
  have m1d : w2.drew.cell? _ = _ := m1
  have m2d : w2.drew.cell? _ = _ := m2
  have m3d : w2.drew.cell? _ = _ := m3
  have WD := Lib.hid (ST2.out.ext (Ext.drew w2))
  have HB2 : Hid (∀ b, S b → b < w2.drew.heap.size) := Lib.hid (fun b h => by have h1 : w2.drew.heap.size = w2.heap.size := rfl; have := HB.out b h; have := Below.size E2.out; omega)
  go_wp2_with fail
  go_still_tail 7, (by kernel_rfl)
  change wpList _ _ _ _ _ w2.drew
  go_wp2_with fail
  refine (implunify f known0 t0 t1 cc K 29 29 HU.out vk0 rk0 SH0.out SH1.out _ _ (.slice none 0 0) [] S _ sb mb HB2.out (Tm.at_ext (Ext.drew _) HA0.out) (Tm.at_ext (Ext.drew _) HA1.out) WD.out).mono ?_
  rintro e3 w3 ⟨rfl, L2, ⟨tv, hs3, _, f3⟩, _⟩
  have S3 := Lib.hid hs3
  have F3 := Lib.hid (((Fr.of_ext (E2.out.trans (Ext.drew _))).trans f3).mono (fun k _ h => by simpa [MT, Value.ownBlock] using h))
  clear hs3 f3
  go_wp2_with fail
  refine (implholds _ _).mono ?_
  rintro e4 w4 ⟨rfl, rfl⟩
  go_wp2_with fail
  go_ret
  exact ⟨by rw [HF.out]; rfl, F3.out, fun _ => by rw [HF.out]; exact S3.out.1⟩

set_option maxRecDepth 100000 in
set_option maxHeartbeats 1000000 in
theorem implcall_same (n : Int) (s : ByteArray) (ks : List Tm) (v : Value) (S : Nat → Prop) (w : World) (sb mb : Nat) (hs : s.toList = [61, 61]) (hl : ks.length = 2) (hsh : shapeL ks 29 = true) (hB : ∀ b, S b → b < w.heap.size) (ht : Tm.at S w (.mk 3 n s ks) v) (hst : StoT S w sb mb known0 [] (.slice none 0 0)) :
    Calls Try.prog 40 #[.pointer (some ⟨sb, 0, none⟩), v] w (CallQ S sb mb (callR s.toList ks) w) := by
  have HF : Hid (callR s.toList ks = (holdsN (Tm.same (kidAt ks 0) (kidAt ks 1)), known0)) := Lib.hid (by unfold callR; rw [hs]; simp)
  have HC : Hid (cmpGF 3 s ks.length = false) := Lib.hid (by unfold cmpGF hasF five; rw [hl]; simp [hs])
  have HB := Lib.hid hB
  have HT := Lib.hid ht
  have HST := Lib.hid hst
  have HSH := Lib.hid hsh
  have lsb := hst.lt0
  have HL := Lib.hid hl
  have HNE := Lib.hid hst.1.2.2.1
  have HSB := Lib.hid hst.1.2.1
  obtain ⟨hs1, sv, rfl, a, c, rfl, h1, h2, h3, h4⟩ := Tm.at_iff.1 ht
  have H4 := Lib.hid h4
  simp only [Tm.kind, Tm.n, Tm.name, Tm.kids] at HT H4 ⊢
  clear hB ht hst hsh h4 h1 h2 h3 hl
  go_enter Try.func40, Try.ntmps40
  go_wp2_with fail
  refine (implcompares 3 n s ks _ S _ (Tm.at_ext (Ext.alloc _ _) HT.out)).mono ?_
  rw [HC.out]
  rintro e w2 ⟨rfl, e2⟩
  have X2 := Lib.hid ((BoxT.new w (.int .i64 3) (.int .i64 n) (.string s) (.slice a ks.length c) 25 rfl).ext e2)
  have E2 := Lib.hid ((Ext.alloc w (.cells #[.int .i64 3, .int .i64 n, .string s, .slice a ks.length c] 25)).trans e2)
  have ST2 := Lib.hid (HST.out.ext E2.out)
  clear e2
  obtain ⟨x0, x1, x2, x3, _, _, _, _⟩ := X2.out
  have lx2 := X2.out.lt
  have hk0 : 0 < ks.length := by have := HL.out; omega
  obtain ⟨b, off, a0, c0, rfl, hSb0, l0, l1, l2, l3, hat0, hg0⟩ := kids1 H4.out hk0
  simp only [Nat.zero_mul, Nat.add_zero] at l0 l1 l2 l3
  have l0 := E2.out.cell l0
  have l1 := E2.out.cell l1
  have l2 := E2.out.cell l2
  have l3 := E2.out.cell l3
  have HA0 := Lib.hid (Tm.at_ext E2.out hat0)
  have SH0 := Lib.hid (shapeL_mem HSH.out (List.mem_of_getElem? hg0))
  clear hat0 hg0
  obtain ⟨t0, ht0⟩ : ∃ t, kidAt ks 0 = t := ⟨_, rfl⟩
  rw [ht0] at l0 l1 l2 l3 HA0 SH0 HF
  clear ht0
  have hk1 : 1 < ks.length := by have := HL.out; omega
  obtain ⟨b1, off1, a1, c1, e1, hSb1, m0, m1, m2, m3, hat1, hg1⟩ := kids1 H4.out hk1
  cases e1
  simp only [Nat.one_mul] at m0 m1 m2 m3
  have hk1i : (1 : Int) < (ks.length : Int) := by omega
  have m0 := E2.out.cell m0
  have m1 := E2.out.cell m1
  have m2 := E2.out.cell m2
  have m3 := E2.out.cell m3
  have HA1 := Lib.hid (Tm.at_ext E2.out hat1)
  have SH1 := Lib.hid (shapeL_mem HSH.out (List.mem_of_getElem? hg1))
  clear hat1 hg1
  obtain ⟨t1, ht1⟩ : ∃ t, kidAt ks 1 = t := ⟨_, rfl⟩
  rw [ht1] at m0 m1 m2 m3 HA1 SH1 HF
  clear ht1
  have l0d : w2.drew.cell? _ = _ := l0
  have l1d : w2.drew.cell? _ = _ := l1
  have l2d : w2.drew.cell? _ = _ := l2
  have l3d : w2.drew.cell? _ = _ := l3
  have m0d : w2.drew.cell? _ = _ := m0
  have m1d : w2.drew.cell? _ = _ := m1
  have m2d : w2.drew.cell? _ = _ := m2
  have m3d : w2.drew.cell? _ = _ := m3
  go_wp2_with fail
  go_still_tail 6, (by kernel_rfl)
  change wpList _ _ _ _ _ w2.drew
  go_wp2_with fail
  refine (implTermSame _ t0 t1 _ _ S S _ (Nat.le_refl _) (Tm.at_ext (Ext.drew _) HA0.out) (Tm.at_ext (Ext.drew _) HA1.out)).mono ?_
  obtain ⟨bb, hbb⟩ : ∃ b, Tm.same t0 t1 = b := ⟨_, rfl⟩
  rw [hbb] at HF ⊢
  rintro e3 w3 ⟨rfl, e3⟩
  have E3 := Lib.hid ((E2.out.trans (Ext.drew _)).trans e3)
  clear hbb e3
  go_wp2_with fail
  refine (implholds _ _).mono ?_
  rintro e4 w4 ⟨rfl, rfl⟩
  go_wp2_with fail
  go_ret
  exact ⟨by rw [HF.out]; rfl, Fr.of_ext E3.out, fun _ => by rw [HF.out]; exact (HST.out.ext E3.out).1⟩

set_option maxRecDepth 100000 in
set_option maxHeartbeats 1000000 in
theorem implcall_var (n : Int) (s : ByteArray) (ks : List Tm) (v : Value) (S : Nat → Prop) (w : World) (sb mb : Nat) (hs : s.toList = [118, 97, 114]) (hl : ks.length = 1) (hsh : shapeL ks 29 = true) (hB : ∀ b, S b → b < w.heap.size) (ht : Tm.at S w (.mk 3 n s ks) v) (hst : StoT S w sb mb known0 [] (.slice none 0 0)) :
    Calls Try.prog 40 #[.pointer (some ⟨sb, 0, none⟩), v] w (CallQ S sb mb (callR s.toList ks) w) := by
  have HF : Hid (callR s.toList ks = (holdsN ((kidAt ks 0).kind == 1), known0)) := Lib.hid (by unfold callR; rw [hs]; simp)
  have HC : Hid (cmpGF 3 s ks.length = false) := Lib.hid (by unfold cmpGF hasF five; rw [hl]; simp [hs])
  have HB := Lib.hid hB
  have HT := Lib.hid ht
  have HST := Lib.hid hst
  have HSH := Lib.hid hsh
  have lsb := hst.lt0
  have HL := Lib.hid hl
  have HNE := Lib.hid hst.1.2.2.1
  have HSB := Lib.hid hst.1.2.1
  obtain ⟨hs1, sv, rfl, a, c, rfl, h1, h2, h3, h4⟩ := Tm.at_iff.1 ht
  have H4 := Lib.hid h4
  simp only [Tm.kind, Tm.n, Tm.name, Tm.kids] at HT H4 ⊢
  clear hB ht hst hsh h4 h1 h2 h3 hl
  go_enter Try.func40, Try.ntmps40
  go_wp2_with fail
  refine (implcompares 3 n s ks _ S _ (Tm.at_ext (Ext.alloc _ _) HT.out)).mono ?_
  rw [HC.out]
  rintro e w2 ⟨rfl, e2⟩
  have X2 := Lib.hid ((BoxT.new w (.int .i64 3) (.int .i64 n) (.string s) (.slice a ks.length c) 25 rfl).ext e2)
  have E2 := Lib.hid ((Ext.alloc w (.cells #[.int .i64 3, .int .i64 n, .string s, .slice a ks.length c] 25)).trans e2)
  have ST2 := Lib.hid (HST.out.ext E2.out)
  clear e2
  obtain ⟨x0, x1, x2, x3, _, _, _, _⟩ := X2.out
  have lx2 := X2.out.lt
  have hk0 : 0 < ks.length := by have := HL.out; omega
  obtain ⟨b, off, a0, c0, rfl, hSb0, l0, l1, l2, l3, hat0, hg0⟩ := kids1 H4.out hk0
  simp only [Nat.zero_mul, Nat.add_zero] at l0 l1 l2 l3
  have l0 := E2.out.cell l0
  have l1 := E2.out.cell l1
  have l2 := E2.out.cell l2
  have l3 := E2.out.cell l3
  have HA0 := Lib.hid (Tm.at_ext E2.out hat0)
  have SH0 := Lib.hid (shapeL_mem HSH.out (List.mem_of_getElem? hg0))
  clear hat0 hg0
  obtain ⟨t0, ht0⟩ : ∃ t, kidAt ks 0 = t := ⟨_, rfl⟩
  rw [ht0] at l0 l1 l2 l3 HA0 SH0 HF
  clear ht0
  have hbb0 : ∃ b, (t0.kind == 1) = b := ⟨_, rfl⟩
  obtain ⟨bb, hbb⟩ := hbb0
  rw [hbb] at HF
  have HBB := Lib.hid hbb
  go_wp2_with fail
  refine (implholds _ _).mono ?_
  rintro e4 w4 ⟨rfl, rfl⟩
  go_wp2_with fail
  go_ret
  exact ⟨by rw [HF.out]; rfl, Fr.of_ext E2.out, fun _ => by rw [HF.out]; exact ST2.out.1⟩

set_option maxRecDepth 100000 in
set_option maxHeartbeats 1000000 in
theorem implcall_nonvar (n : Int) (s : ByteArray) (ks : List Tm) (v : Value) (S : Nat → Prop) (w : World) (sb mb : Nat) (hs : s.toList = [110, 111, 110, 118, 97, 114]) (hl : ks.length = 1) (hsh : shapeL ks 29 = true) (hB : ∀ b, S b → b < w.heap.size) (ht : Tm.at S w (.mk 3 n s ks) v) (hst : StoT S w sb mb known0 [] (.slice none 0 0)) :
    Calls Try.prog 40 #[.pointer (some ⟨sb, 0, none⟩), v] w (CallQ S sb mb (callR s.toList ks) w) := by
  have HF : Hid (callR s.toList ks = (holdsN ((kidAt ks 0).kind != 1), known0)) := Lib.hid (by unfold callR; rw [hs]; simp)
  have HC : Hid (cmpGF 3 s ks.length = false) := Lib.hid (by unfold cmpGF hasF five; rw [hl]; simp [hs])
  have HB := Lib.hid hB
  have HT := Lib.hid ht
  have HST := Lib.hid hst
  have HSH := Lib.hid hsh
  have lsb := hst.lt0
  have HL := Lib.hid hl
  have HNE := Lib.hid hst.1.2.2.1
  have HSB := Lib.hid hst.1.2.1
  obtain ⟨hs1, sv, rfl, a, c, rfl, h1, h2, h3, h4⟩ := Tm.at_iff.1 ht
  have H4 := Lib.hid h4
  simp only [Tm.kind, Tm.n, Tm.name, Tm.kids] at HT H4 ⊢
  clear hB ht hst hsh h4 h1 h2 h3 hl
  go_enter Try.func40, Try.ntmps40
  go_wp2_with fail
  refine (implcompares 3 n s ks _ S _ (Tm.at_ext (Ext.alloc _ _) HT.out)).mono ?_
  rw [HC.out]
  rintro e w2 ⟨rfl, e2⟩
  have X2 := Lib.hid ((BoxT.new w (.int .i64 3) (.int .i64 n) (.string s) (.slice a ks.length c) 25 rfl).ext e2)
  have E2 := Lib.hid ((Ext.alloc w (.cells #[.int .i64 3, .int .i64 n, .string s, .slice a ks.length c] 25)).trans e2)
  have ST2 := Lib.hid (HST.out.ext E2.out)
  clear e2
  obtain ⟨x0, x1, x2, x3, _, _, _, _⟩ := X2.out
  have lx2 := X2.out.lt
  have hk0 : 0 < ks.length := by have := HL.out; omega
  obtain ⟨b, off, a0, c0, rfl, hSb0, l0, l1, l2, l3, hat0, hg0⟩ := kids1 H4.out hk0
  simp only [Nat.zero_mul, Nat.add_zero] at l0 l1 l2 l3
  have l0 := E2.out.cell l0
  have l1 := E2.out.cell l1
  have l2 := E2.out.cell l2
  have l3 := E2.out.cell l3
  have HA0 := Lib.hid (Tm.at_ext E2.out hat0)
  have SH0 := Lib.hid (shapeL_mem HSH.out (List.mem_of_getElem? hg0))
  clear hat0 hg0
  obtain ⟨t0, ht0⟩ : ∃ t, kidAt ks 0 = t := ⟨_, rfl⟩
  rw [ht0] at l0 l1 l2 l3 HA0 SH0 HF
  clear ht0
  have hbb0 : ∃ b, (t0.kind != 1) = b := ⟨_, rfl⟩
  obtain ⟨bb, hbb⟩ := hbb0
  rw [hbb] at HF
  have HBB := Lib.hid hbb
  go_wp2_with fail
  refine (implholds _ _).mono ?_
  rintro e4 w4 ⟨rfl, rfl⟩
  go_wp2_with fail
  go_ret
  exact ⟨by rw [HF.out]; rfl, Fr.of_ext E2.out, fun _ => by rw [HF.out]; exact ST2.out.1⟩

set_option maxRecDepth 100000 in
set_option maxHeartbeats 1000000 in
theorem implcall_int (n : Int) (s : ByteArray) (ks : List Tm) (v : Value) (S : Nat → Prop) (w : World) (sb mb : Nat) (hs : s.toList = [105, 110, 116]) (hl : ks.length = 1) (hsh : shapeL ks 29 = true) (hB : ∀ b, S b → b < w.heap.size) (ht : Tm.at S w (.mk 3 n s ks) v) (hst : StoT S w sb mb known0 [] (.slice none 0 0)) :
    Calls Try.prog 40 #[.pointer (some ⟨sb, 0, none⟩), v] w (CallQ S sb mb (callR s.toList ks) w) := by
  have HF : Hid (callR s.toList ks = (holdsN ((kidAt ks 0).kind == 2), known0)) := Lib.hid (by unfold callR; rw [hs]; simp)
  have HC : Hid (cmpGF 3 s ks.length = false) := Lib.hid (by unfold cmpGF hasF five; rw [hl]; simp [hs])
  have HB := Lib.hid hB
  have HT := Lib.hid ht
  have HST := Lib.hid hst
  have HSH := Lib.hid hsh
  have lsb := hst.lt0
  have HL := Lib.hid hl
  have HNE := Lib.hid hst.1.2.2.1
  have HSB := Lib.hid hst.1.2.1
  obtain ⟨hs1, sv, rfl, a, c, rfl, h1, h2, h3, h4⟩ := Tm.at_iff.1 ht
  have H4 := Lib.hid h4
  simp only [Tm.kind, Tm.n, Tm.name, Tm.kids] at HT H4 ⊢
  clear hB ht hst hsh h4 h1 h2 h3 hl
  go_enter Try.func40, Try.ntmps40
  go_wp2_with fail
  refine (implcompares 3 n s ks _ S _ (Tm.at_ext (Ext.alloc _ _) HT.out)).mono ?_
  rw [HC.out]
  rintro e w2 ⟨rfl, e2⟩
  have X2 := Lib.hid ((BoxT.new w (.int .i64 3) (.int .i64 n) (.string s) (.slice a ks.length c) 25 rfl).ext e2)
  have E2 := Lib.hid ((Ext.alloc w (.cells #[.int .i64 3, .int .i64 n, .string s, .slice a ks.length c] 25)).trans e2)
  have ST2 := Lib.hid (HST.out.ext E2.out)
  clear e2
  obtain ⟨x0, x1, x2, x3, _, _, _, _⟩ := X2.out
  have lx2 := X2.out.lt
  have hk0 : 0 < ks.length := by have := HL.out; omega
  obtain ⟨b, off, a0, c0, rfl, hSb0, l0, l1, l2, l3, hat0, hg0⟩ := kids1 H4.out hk0
  simp only [Nat.zero_mul, Nat.add_zero] at l0 l1 l2 l3
  have l0 := E2.out.cell l0
  have l1 := E2.out.cell l1
  have l2 := E2.out.cell l2
  have l3 := E2.out.cell l3
  have HA0 := Lib.hid (Tm.at_ext E2.out hat0)
  have SH0 := Lib.hid (shapeL_mem HSH.out (List.mem_of_getElem? hg0))
  clear hat0 hg0
  obtain ⟨t0, ht0⟩ : ∃ t, kidAt ks 0 = t := ⟨_, rfl⟩
  rw [ht0] at l0 l1 l2 l3 HA0 SH0 HF
  clear ht0
  have hbb0 : ∃ b, (t0.kind == 2) = b := ⟨_, rfl⟩
  obtain ⟨bb, hbb⟩ := hbb0
  rw [hbb] at HF
  have HBB := Lib.hid hbb
  go_wp2_with fail
  refine (implholds _ _).mono ?_
  rintro e4 w4 ⟨rfl, rfl⟩
  go_wp2_with fail
  go_ret
  exact ⟨by rw [HF.out]; rfl, Fr.of_ext E2.out, fun _ => by rw [HF.out]; exact ST2.out.1⟩

set_option maxRecDepth 100000 in
set_option maxHeartbeats 1000000 in
theorem implcall_atom (n : Int) (s : ByteArray) (ks : List Tm) (v : Value) (S : Nat → Prop) (w : World) (sb mb : Nat) (hs : s.toList = [97, 116, 111, 109]) (hl : ks.length = 1) (hsh : shapeL ks 29 = true) (hB : ∀ b, S b → b < w.heap.size) (ht : Tm.at S w (.mk 3 n s ks) v) (hst : StoT S w sb mb known0 [] (.slice none 0 0)) :
    Calls Try.prog 40 #[.pointer (some ⟨sb, 0, none⟩), v] w (CallQ S sb mb (callR s.toList ks) w) := by
  have HF : Hid (callR s.toList ks = (holdsN (atomF (kidAt ks 0).kind (kidAt ks 0).kids.length), known0)) := Lib.hid (by unfold callR; rw [hs]; simp)
  have HC : Hid (cmpGF 3 s ks.length = false) := Lib.hid (by unfold cmpGF hasF five; rw [hl]; simp [hs])
  have HB := Lib.hid hB
  have HT := Lib.hid ht
  have HST := Lib.hid hst
  have HSH := Lib.hid hsh
  have lsb := hst.lt0
  have HL := Lib.hid hl
  have HNE := Lib.hid hst.1.2.2.1
  have HSB := Lib.hid hst.1.2.1
  obtain ⟨hs1, sv, rfl, a, c, rfl, h1, h2, h3, h4⟩ := Tm.at_iff.1 ht
  have H4 := Lib.hid h4
  simp only [Tm.kind, Tm.n, Tm.name, Tm.kids] at HT H4 ⊢
  clear hB ht hst hsh h4 h1 h2 h3 hl
  go_enter Try.func40, Try.ntmps40
  go_wp2_with fail
  refine (implcompares 3 n s ks _ S _ (Tm.at_ext (Ext.alloc _ _) HT.out)).mono ?_
  rw [HC.out]
  rintro e w2 ⟨rfl, e2⟩
  have X2 := Lib.hid ((BoxT.new w (.int .i64 3) (.int .i64 n) (.string s) (.slice a ks.length c) 25 rfl).ext e2)
  have E2 := Lib.hid ((Ext.alloc w (.cells #[.int .i64 3, .int .i64 n, .string s, .slice a ks.length c] 25)).trans e2)
  have ST2 := Lib.hid (HST.out.ext E2.out)
  clear e2
  obtain ⟨x0, x1, x2, x3, _, _, _, _⟩ := X2.out
  have lx2 := X2.out.lt
  have hk0 : 0 < ks.length := by have := HL.out; omega
  obtain ⟨b, off, a0, c0, rfl, hSb0, l0, l1, l2, l3, hat0, hg0⟩ := kids1 H4.out hk0
  simp only [Nat.zero_mul, Nat.add_zero] at l0 l1 l2 l3
  have l0 := E2.out.cell l0
  have l1 := E2.out.cell l1
  have l2 := E2.out.cell l2
  have l3 := E2.out.cell l3
  have HA0 := Lib.hid (Tm.at_ext E2.out hat0)
  have SH0 := Lib.hid (shapeL_mem HSH.out (List.mem_of_getElem? hg0))
  clear hat0 hg0
  obtain ⟨t0, ht0⟩ : ∃ t, kidAt ks 0 = t := ⟨_, rfl⟩
  rw [ht0] at l0 l1 l2 l3 HA0 SH0 HF
  clear ht0
  obtain ⟨bb, hbb⟩ : ∃ b, atomF t0.kind t0.kids.length = b := ⟨_, rfl⟩
  rw [hbb] at HF
  have HAT := Lib.hid (implisAtomT t0 _ S w2 HA0.out)
  rw [hbb] at HAT
  clear hbb
  go_wp2_with fail
  refine HAT.out.mono ?_
  rintro e3 w3 ⟨rfl, e3⟩
  have E3 := Lib.hid (E2.out.trans e3)
  clear e3
  go_wp2_with fail
  refine (implholds _ _).mono ?_
  rintro e4 w4 ⟨rfl, rfl⟩
  go_wp2_with fail
  go_ret
  exact ⟨by rw [HF.out]; rfl, Fr.of_ext E3.out, fun _ => by rw [HF.out]; exact (HST.out.ext E3.out).1⟩


/-- while 'is' unifies: what each operation leaves -/
def IsΦ (S : Nat → Prop) (sb mb : Nat) (W : World) (t0 : Tm) (a0 : Option Addr) (c0 : Nat) (m : Int) (cc : Bool) (K : List Tm) (b off len c : Nat) (i : Nat) (v : Value) (w : World) : Prop :=
  match i with
  | 0 => v = .pointer (some ⟨sb, 0, none⟩)
  | 1 => v = .slice (some ⟨b, off, none⟩) len c
  | 2 => v = .pointer (some ⟨b, off, none⟩)
  | 3 => v = val4 t0 a0 c0
  | 4 => v = .int .i64 m
  | 5 => ∃ a c, v = val4 (intT m) a c ∧ Tm.own (fun b => W.heap.size ≤ b) w (intT m) (.slice a (intT m).kids.length c)
  | 6 => v = .bool cc ∧ Fr (fun k => k = sb ∨ k = mb) W w ∧ Sto S w sb mb K
  | _ => v = .int .i64 (holdsN cc)
theorem IsΦ.fr {S : Nat → Prop} {sb mb : Nat} {W : World} {t0 : Tm} {a0 : Option Addr} {c0 : Nat} {m : Int} {cc : Bool} {K : List Tm} {b off len c : Nat} {M : Nat → Prop} {i : Nat} {v : Value} {w w' : World} (h : IsΦ S sb mb W t0 a0 c0 m cc K b off len c i v w) (f : Fr M w w') (hM : ∀ k, M k → k = sb ∨ k = mb) (h6 : i = 6 → ∀ k, ¬ M k) (hW : sb < W.heap.size ∧ mb < W.heap.size := by assumption) : IsΦ S sb mb W t0 a0 c0 m cc K b off len c i v w' := by
  unfold IsΦ at h ⊢
  split
  · exact h
  · exact h
  · exact h
  · exact h
  · exact h
  · obtain ⟨a, c, h1, h2⟩ := h
    exact ⟨a, c, h1, own_mono (fun _ h => h) f (fun k hk hm => by have := hM k hm; omega) _ _ h2⟩
  · obtain ⟨h1, h2, h3⟩ := h
    have f' : Fr (fun _ => False) w w' := f.mono (fun k _ hk => h6 rfl k hk)
    exact ⟨h1, h2.trans (f'.mono (fun _ _ h => h.elim)), h3.fr f' (fun _ h => h.elim)⟩
  · rename_i n0 n1 n2 n3 n4 n5 n6
    split at h
    · exact absurd rfl n0
    · exact absurd rfl n1
    · exact absurd rfl n2
    · exact absurd rfl n3
    · exact absurd rfl n4
    · exact absurd rfl n5
    · exact absurd rfl n6
    · exact h
set_option maxRecDepth 100000 in
set_option maxHeartbeats 1000000 in
theorem implcall_is (n : Int) (s : ByteArray) (ks : List Tm) (v : Value) (S : Nat → Prop) (w : World) (sb mb : Nat) (hs : s.toList = [105, 115]) (hl : ks.length = 2) (hsh : shapeL ks 29 = true) (hB : ∀ b, S b → b < w.heap.size) (ht : Tm.at S w (.mk 3 n s ks) v) (hst : StoT S w sb mb known0 [] (.slice none 0 0)) :
    Calls Try.prog 40 #[.pointer (some ⟨sb, 0, none⟩), v] w (CallQ S sb mb (callR s.toList ks) w) := by
  have HF : Hid (callR s.toList ks = isR (kidAt ks 0) (kidAt ks 1)) := Lib.hid (by unfold callR; rw [hs]; simp)
  have HC : Hid (cmpGF 3 s ks.length = false) := Lib.hid (by unfold cmpGF hasF five; rw [hl]; simp [hs])
  have HB := Lib.hid hB
  have HT := Lib.hid ht
  have HST := Lib.hid hst
  have HSH := Lib.hid hsh
  have lsb := hst.lt0
  have HL := Lib.hid hl
  have HNE := Lib.hid hst.1.2.2.1
  have HSB := Lib.hid hst.1.2.1
  obtain ⟨hs1, sv, rfl, a, c, rfl, h1, h2, h3, h4⟩ := Tm.at_iff.1 ht
  have H4 := Lib.hid h4
  simp only [Tm.kind, Tm.n, Tm.name, Tm.kids] at HT H4 ⊢
  clear hB ht hst hsh h4 h1 h2 h3 hl
  go_enter Try.func40, Try.ntmps40
  go_wp2_with fail
  refine (implcompares 3 n s ks _ S _ (Tm.at_ext (Ext.alloc _ _) HT.out)).mono ?_
  rw [HC.out]
  rintro e w2 ⟨rfl, e2⟩
  have X2 := Lib.hid ((BoxT.new w (.int .i64 3) (.int .i64 n) (.string s) (.slice a ks.length c) 25 rfl).ext e2)
  have E2 := Lib.hid ((Ext.alloc w (.cells #[.int .i64 3, .int .i64 n, .string s, .slice a ks.length c] 25)).trans e2)
  have ST2 := Lib.hid (HST.out.ext E2.out)
  clear e2
  obtain ⟨x0, x1, x2, x3, _, _, _, _⟩ := X2.out
  have lx2 := X2.out.lt
  have hk0 : 0 < ks.length := by have := HL.out; omega
  obtain ⟨b, off, a0, c0, rfl, hSb0, l0, l1, l2, l3, hat0, hg0⟩ := kids1 H4.out hk0
  simp only [Nat.zero_mul, Nat.add_zero] at l0 l1 l2 l3
  have l0 := E2.out.cell l0
  have l1 := E2.out.cell l1
  have l2 := E2.out.cell l2
  have l3 := E2.out.cell l3
  have HA0 := Lib.hid (Tm.at_ext E2.out hat0)
  have SH0 := Lib.hid (shapeL_mem HSH.out (List.mem_of_getElem? hg0))
  clear hat0 hg0
  obtain ⟨t0, ht0⟩ : ∃ t, kidAt ks 0 = t := ⟨_, rfl⟩
  rw [ht0] at l0 l1 l2 l3 HA0 SH0 HF
  clear ht0
  have hk1 : 1 < ks.length := by have := HL.out; omega
  obtain ⟨b1, off1, a1, c1, e1, hSb1, m0, m1, m2, m3, hat1, hg1⟩ := kids1 H4.out hk1
  cases e1
  simp only [Nat.one_mul] at m0 m1 m2 m3
  have hk1i : (1 : Int) < (ks.length : Int) := by omega
  have m0 := E2.out.cell m0
  have m1 := E2.out.cell m1
  have m2 := E2.out.cell m2
  have m3 := E2.out.cell m3
  have HA1 := Lib.hid (Tm.at_ext E2.out hat1)
  have SH1 := Lib.hid (shapeL_mem HSH.out (List.mem_of_getElem? hg1))
  clear hat1 hg1
  obtain ⟨t1, ht1⟩ : ∃ t, kidAt ks 1 = t := ⟨_, rfl⟩
  rw [ht1] at m0 m1 m2 m3 HA1 SH1 HF
  clear ht1
  have hl1 : Hid (∀ w' (e' : Ext w2 w'), Calls Try.prog 54 #[val4 t1 a1 c1] w' (ArOut (arF t1) w')) := Lib.hid (fun w' e' => implarith _ t1 (Nat.le_refl _) _ S w' 29 SH1.out (Tm.at_ext e' HA1.out))
  obtain ⟨⟨m, code⟩, hm⟩ : ∃ p, arF t1 = p := ⟨_, rfl⟩
  rw [hm] at hl1
  have HM := Lib.hid hm
  clear hm
  go_wp2_with fail
  refine (hl1.out _ (Ext.refl _)).mono ?_
  rintro e3 w3 ⟨rfl, e3'⟩
  have E3 := Lib.hid e3'
  have ST3 := Lib.hid (ST2.out.ext e3')
  have l0 := e3'.cell l0
  have l1 := e3'.cell l1
  have l2 := e3'.cell l2
  have l3 := e3'.cell l3
  have lz := Below.size e3'
  have lz2 := Below.size E2.out
  clear e3' m0 m1 m2 m3 x0 x1 x2 x3
  by_cases hc : code = 0
  · subst hc
    have HF2 : Hid (callR s.toList ks = (holdsN (uniR t0 (intT m)).1, (uniR t0 (intT m)).2)) := Lib.hid (by rw [HF.out]; unfold isR; rw [HM.out]; simp)
    have shi : Hid (shapeF (intT m) 29 = true) := Lib.hid (arF_shape SH1.out HM.out)
    obtain ⟨f, hf⟩ := uniR_spec SH0.out shi.out
    obtain ⟨cc, K, hr⟩ : ∃ c K, uniR t0 (intT m) = (c, K) := ⟨_, _, rfl⟩
    rw [hr] at hf HF2
    have HU := Lib.hid hf
    have hw3 : Hid (∀ b, S b → b < w3.heap.size) := Lib.hid (fun b hb => by have := HB.out b hb; omega)
    have S2T : Hid (∀ (w5 : World) (v5 : Value), Ext w3 w5 → Tm.at (fun b => w3.heap.size ≤ b) w5 (intT m) v5 → Calls Try.prog 59 #[.pointer (some ⟨sb, 0, none⟩), val4 t0 a0 c0, v5] w5 (fun e w' => e = .returned (.bool cc) ∧ Fr (fun k => k = sb ∨ k = mb) w5 w' ∧ Sto S w' sb mb K ∧ True)) := Lib.hid (fun w5 v5 e5 h5 => by
      refine (implunify f known0 t0 (intT m) cc K 29 29 HU.out vk0 rk0 SH0.out shi.out _ _ (.slice none 0 0) [] S w5 sb mb (fun b hb => Nat.lt_of_lt_of_le (hw3.out b hb) (Below.size e5)) (Tm.at_ext (E3.out.trans e5) HA0.out) (at_bare h5) (ST3.out.ext e5)).mono ?_
      rintro e w' ⟨rfl, L2, ⟨tv, hs3, _, f3⟩, _⟩
      exact ⟨rfl, f3.mono (fun k _ h => by simpa [MT, Value.ownBlock] using h), hs3.1, trivial⟩)
    have lw3 : sb < w3.heap.size ∧ mb < w3.heap.size := by omega
    clear hf hr
    go_wp2_with fail
    refine wp_region_relies (by kernel_rfl) (by kernel_rfl) (by kernel_rfl) (fun D _ w' => ¬ D 6 → Ext w3 w') (IsΦ S sb mb w3 t0 a0 c0 m cc K b off ks.length c) (fun _ => Ext.drew _) ?hs ?he
    case hs =>
      refine .cons ?h0 (.cons ?h1 (.cons ?h2 (.cons ?h3 (.cons ?h4 (.cons ?h5 (.cons ?h6 (.cons ?h7 (.cons ?h8 .nil))))))))
      case h0 =>
        intro A D vs w5 old dep hnd hcl hlt hG K hK
        have s0 := old 0 (by kernel_rfl)
        simp only [List.getElem?_toArray, List.getElem?_cons_zero] at s0
        go_simp
        exact hK _ _ (fun h => hG (fun hd => h (.inr hd))) (fun _ _ _ h => h) rfl
      case h1 =>
        intro A D vs w5 old dep hnd hcl hlt hG K hK
        have s5 := old 5 (by kernel_rfl)
        simp only [List.getElem?_toArray, List.getElem?_cons_succ, List.getElem?_cons_zero] at s5
        go_simp
        exact hK _ _ (fun h => hG (fun hd => h (.inr hd))) (fun _ _ _ h => h) rfl
      case h2 =>
        intro A D vs w5 old dep hnd hcl hlt hG K hK
        obtain ⟨_, e1, j1⟩ := dep 1 (by kernel_rfl)
        replace j1 := j1 77 (by kernel_rfl) (by simp)
        replace e1 : vs 1 = .slice (some ⟨b, off, none⟩) ks.length c := e1
        rw [e1] at j1
        go_simp
        exact hK _ _ (fun h => hG (fun hd => h (.inr hd))) (fun _ _ _ h => h) rfl
      case h3 =>
        intro A D vs w5 old dep hnd hcl hlt hG K hK
        obtain ⟨_, e2, j2⟩ := dep 2 (by kernel_rfl)
        replace j2 := j2 78 (by kernel_rfl) (by simp)
        replace e2 : vs 2 = .pointer (some ⟨b, off, none⟩) := e2
        rw [e2] at j2
        have EW := (hG (fun h => hnd (hcl 6 3 h (by kernel_rfl))))
        have l0 := EW.cell l0
        have l1 := EW.cell l1
        have l2 := EW.cell l2
        have l3 := EW.cell l3
        go_simp
        exact hK _ _ (fun h => hG (fun hd => h (.inr hd))) (fun _ _ _ h => h) rfl
      case h4 =>
        intro A D vs w5 old dep hnd hcl hlt hG K hK
        have s8 := old 8 (by kernel_rfl)
        simp only [List.getElem?_toArray, List.getElem?_cons_succ, List.getElem?_cons_zero] at s8
        go_simp
        exact hK _ _ (fun h => hG (fun hd => h (.inr hd))) (fun _ _ _ h => h) rfl
      case h5 =>
        intro A D vs w5 old dep hnd hcl hlt hG K hK
        obtain ⟨_, e4, j4⟩ := dep 4 (by kernel_rfl)
        replace j4 := j4 80 (by kernel_rfl) (by simp)
        replace e4 : vs 4 = .int .i64 m := e4
        rw [e4] at j4
        have EW := (hG (fun h => hnd (hcl 6 5 h (by kernel_rfl))))
        go_simp
        go_at_call 75
        refine (implnumber m w5).mono ?_
        rintro e w6 ⟨a5, c5, rfl, ho, e6⟩
        exact hK _ _ (fun h => EW.trans e6) (fun j u hd h => IsΦ.fr (M := fun _ => False) h (Fr.of_ext e6) (fun _ h => h.elim) (fun _ _ h => h)) ⟨a5, c5, rfl, own_zone ho (fun b hb => Nat.le_trans (Below.size EW) hb)⟩
      case h6 =>
        intro A D vs w5 old dep hnd hcl hlt hG K hK
        obtain ⟨_, e0, j0⟩ := dep 0 (by kernel_rfl)
        replace j0 := j0 76 (by kernel_rfl) (by simp)
        replace e0 : vs 0 = .pointer (some ⟨sb, 0, none⟩) := e0
        rw [e0] at j0
        obtain ⟨_, e3, j3⟩ := dep 3 (by kernel_rfl)
        replace j3 := j3 79 (by kernel_rfl) (by simp)
        replace e3 : vs 3 = val4 t0 a0 c0 := e3
        rw [e3] at j3
        obtain ⟨_, e5, j5⟩ := dep 5 (by kernel_rfl)
        replace j5 := j5 81 (by kernel_rfl) (by simp)
        obtain ⟨a5, c5, e5, o5⟩ := e5
        rw [e5] at j5
        unfold val4 at j3 j5
        have EW := hG hnd
        have hUU := S2T.out w5 (.agg #[.int .i64 (intT m).kind, .int .i64 (intT m).n, .string (intT m).name, .slice a5 (intT m).kids.length c5]) EW (own_flat _ _ _ o5)
        go_simp
        go_at_call 59
        refine hUU.mono ?_
        rintro e w6 ⟨rfl, hu1, hu2, hu3⟩
        exact hK _ _ (fun h => absurd (.inl rfl) h) (fun j u hd h => IsΦ.fr h hu1 (fun k hk => hk) (fun hj _ => by subst hj; exact absurd hd hnd)) ⟨rfl, (Fr.of_ext EW).trans hu1, hu2⟩
      case h7 =>
        intro A D vs w5 old dep hnd hcl hlt hG K hK
        obtain ⟨_, e6, j6⟩ := dep 6 (by kernel_rfl)
        replace j6 := j6 82 (by kernel_rfl) (by simp)
        obtain ⟨e6, _, _⟩ := e6
        rw [e6] at j6
        go_simp
        go_at_call 73
        refine (implholds cc w5).mono ?_
        rintro e w6 ⟨rfl, rfl⟩
        exact hK _ _ (fun h => hG (fun hd => h (.inr hd))) (fun _ _ _ h => h) rfl
      case h8 =>
        intro A D vs w5 old dep hnd hcl hlt hG K hK
        obtain ⟨_, e7, j7⟩ := dep 7 (by kernel_rfl)
        replace j7 := j7 83 (by kernel_rfl) (by simp)
        replace e7 : vs 7 = .int .i64 (holdsN cc) := e7
        rw [e7] at j7
        go_simp
        exact hK _ _ (fun h => hG (fun hd => h (.inr hd))) (fun _ _ _ h => h) rfl
    case he =>
      intro D vs w9 hD hG hφ
      obtain ⟨e6, f6, s6⟩ : vs 6 = .bool cc ∧ Fr (fun k => k = sb ∨ k = mb) w3 w9 ∧ Sto S w9 sb mb K := hφ 6 (by show 6 < 9; decide)
      have e8 : vs 8 = .int .i64 (holdsN cc) := hφ 8 (by show 8 < 9; decide)
      have F9 := Lib.hid ((Fr.of_ext (E2.out.trans E3.out)).trans f6)
      have S9 := Lib.hid s6
      clear hD hG hφ f6 s6
      simp only [putO, Act.put, List.setIfInBounds_toArray, List.set_cons_zero, List.set_cons_succ]
      rw [e8]
      clear e8 e6
      go_wp2_with fail
      go_ret
      exact ⟨by rw [HF2.out]; rfl, F9.out, fun _ => by rw [HF2.out]; exact S9.out⟩
  · have hcn : (code != 0) = true := by simpa using hc
    have HF2 : Hid (callR s.toList ks = (code, known0)) := Lib.hid (by rw [HF.out]; unfold isR; rw [HM.out]; simp [hc])
    clear hc
    go_wp2_with fail
    go_ret
    exact ⟨by rw [HF2.out]; rfl, Fr.of_ext (E2.out.trans E3.out), fun _ => by rw [HF2.out]; exact ST3.out.1⟩

end Go.Proofs.Ytdelhgodhkbjdaa
