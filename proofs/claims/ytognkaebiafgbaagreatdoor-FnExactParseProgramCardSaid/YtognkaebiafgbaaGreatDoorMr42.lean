/-
  The program's reader: primary at an opening bracket and at a list.
-/
import Derived.Test.YtognkaebiafgbaaGreatDoorMr41
namespace Go.Proofs.YtognkaebiafgbaaGreatDoor
open Go.RowKit
set_option linter.unusedVariables false
def brX : Option (Tm × List UInt8) → Option (Tm × List UInt8)
  | some (t, c :: r) => if c = 41 then some (t, r) else none
  | _ => none
theorem br_facts (z : Option (Tm × List UInt8)) : skipX 41 (z.map Prod.snd) = (brX z).map Prod.snd ∧ ∀ u r, brX z = some (u, r) → ∃ r', z = some (u, r') := by
  cases z with
  | none => exact ⟨rfl, fun u r h => by cases h⟩
  | some p =>
    obtain ⟨t, r'⟩ := p
    cases r' with
    | nil => exact ⟨rfl, fun u r h => by cases h⟩
    | cons c r' =>
      by_cases hc : c = 41
      · simp only [Option.map_some, skipX, brX, if_pos hc]
        exact ⟨by first | rfl | trivial, fun u r h => by cases h; exact ⟨_, rfl⟩⟩
      · simp only [Option.map_some, skipX, brX, if_neg hc]
        exact ⟨by first | rfl | trivial, fun u r h => by cases h⟩
set_option maxRecDepth 100000 in
set_option maxHeartbeats 8000000 in
theorem rdprim_br (F : Nat) (rb : Nat) (s : ByteArray) (deep : Nat) (r : List UInt8) (w : World) (hs : s.size ≤ 4000) (hd : deep ≤ 30) (h : RdW rb s true (some (40 :: r)) w) (hL : LibW rb w) (hT : TerC F) (hF : 4 * r.length + 2 ≤ F) :
    Calls Tryz.prog 88 #[.pointer (some ⟨rb, 0, none⟩), .int .i64 deep] w (RdTm rb s true (brX (termF true F 3 deep r)) w) := by
  obtain ⟨b, hb40⟩ : ∃ b : UInt8, b = 40 := ⟨_, rfl⟩
  rw [← hb40] at h
  have H := Lib.hid h
  obtain ⟨n, h1, h2, hb⟩ := h.good
  have hlt := hb.lt
  have HB := Lib.hid hb
  have H2 := Lib.hid h2
  obtain ⟨h3, _, h4⟩ := drop_cons h2
  obtain ⟨c0, c1, c2, c3, f0, f1, f2, f3⟩ := hb
  have q0 := u8_eq0 b
  rw [decide_eq_false (show ¬ b = 0 by rw [hb40]; decide)] at q0
  have q40 := u8_eq40 b
  rw [decide_eq_true hb40] at q40
  have u3 : ¬ (65 : Int) ≤ b.toNat := by rw [hb40]; decide
  have hst : numStart (b :: r) = false := by rw [hb40]; rfl
  have HST := Lib.hid hst
  clear h h2 h4 hb40 hst
  have HL := Lib.hid hL
  have HT := Lib.hid hT
  clear hL hT
  go_enter Tryz.func88, Tryz.ntmps88
  go_wp2_with fail
  refine (implnext hs (H.out.ext (Ext.alloc _ _))).mono ?_
  rw [show nextB (some (b :: r)) = b from rfl]
  rintro e w1 ⟨rfl, e1⟩
  have s1 : w.heap.size + 1 ≤ w1.heap.size := by have := Below.size e1; simpa using this
  have HB1 := Lib.hid ((HB.out.ext (Ext.alloc w (.cells #[.int .i64 0, .int .i64 0, .string ⟨#[]⟩, .slice none 0 0] 25))).ext e1)
  have HZ1 := Lib.hid ((BoxT.new w (.int .i64 0) (.int .i64 0) (.string ⟨#[]⟩) (.slice none 0 0) 25 rfl).ext e1)
  have W1 := Lib.hid ((Fr.alloc (M := fun k => k = rb) w (.cells #[.int .i64 0, .int .i64 0, .string ⟨#[]⟩, .slice none 0 0] 25)).trans (Fr.of_ext e1))
  have H1 := Lib.hid ((H.out.ext (Ext.alloc w (.cells #[.int .i64 0, .int .i64 0, .string ⟨#[]⟩, .slice none 0 0] 25))).ext e1)
  have hb1 := HB1.out
  have hlt1 := hb1.lt
  have lz1 := HZ1.out.lt
  obtain ⟨d0, d1, d2, d3, g0, g1, g2, g3⟩ := hb1
  clear e1
  have N := Lib.hid (implisNumber hs H1.out)
  rw [HST.out] at N
  go_wp2_with fail
  refine N.out.mono ?_
  rintro e w2 ⟨rfl, e2⟩
  have HB2 := Lib.hid (HB1.out.ext e2)
  have HZ2 := Lib.hid (HZ1.out.ext e2)
  have W2 := Lib.hid (W1.out.trans (Fr.of_ext e2))
  have s2 : w.heap.size + 1 ≤ w2.heap.size := by have := Below.size e2; omega
  have hb2 := HB2.out
  have hlt2 := hb2.lt
  clear e2 d0 d1 d2 d3 g0 g1 g2 g3
  obtain ⟨d0, d1, d2, d3, g0, g1, g2, g3⟩ := hb2
  have fs : Fr (fun k => k = rb) w2 (w2.setCell ⟨rb, 1, none⟩ (.int .i64 ((n : Int) + 1))) := Fr.setCell w2 rfl
  have C := Lib.hid (HT.out rb s 3 deep r (w2.setCell ⟨rb, 1, none⟩ (.int .i64 ((n : Int) + 1))) hs (by decide) (by decide) (by omega) (HL.out.fr (W2.out.trans fs)) (RdW.step HB2.out H2.out rfl) hF)
  have FS := Lib.hid fs
  have ss := fs.size
  clear fs
  go_wp2_with fail
  refine C.out.mono ?_
  rintro e w3 ⟨t, ta, tc, rfl, ho, f3, hr3, hXt⟩
  have W3 := Lib.hid ((W2.out.trans FS.out).trans f3)
  have F3 := Lib.hid (FS.out.trans f3)
  have HZ3 := Lib.hid (HZ2.out.fr F3.out (by omega))
  have HR3 := Lib.hid hr3
  have HO := Lib.hid ho
  have HX := Lib.hid hXt
  have s3 := f3.size
  have K := Lib.hid (implskip (b := 41) (m := 41) hs (by decide) rfl (HR3.out.ext (Ext.alloc w3 (.cells #[.int .i64 t.kind, .int .i64 t.n, .string t.name, .slice ta t.kids.length tc] 25))))
  clear ho hr3 f3 hXt d0 d1 d2 d3 g0 g1 g2 g3
  go_wp2_with fail
  refine K.out.mono ?_
  rintro e w4 ⟨⟨v4, rfl⟩, f4, hr4⟩
  have s4 : w3.heap.size + 1 ≤ w4.heap.size := by have := f4.size; simpa using this
  have hb4 := (BoxT.new w3 (.int .i64 t.kind) (.int .i64 t.n) (.string t.name) (.slice ta t.kids.length tc) 25 rfl).fr f4 (by omega)
  obtain ⟨m0, m1, m2, m3, _⟩ := hb4
  have hz4 := (HZ3.out.ext (Ext.alloc w3 (.cells #[.int .i64 t.kind, .int .i64 t.n, .string t.name, .slice ta t.kids.length tc] 25))).fr f4 (by omega)
  have HZ4 := Lib.hid hz4
  have W4 := Lib.hid ((W3.out.trans (Fr.alloc w3 (.cells #[.int .i64 t.kind, .int .i64 t.n, .string t.name, .slice ta t.kids.length tc] 25))).trans f4)
  have R4 := Lib.hid hr4
  have O4 := Lib.hid (own_mono (fun b hb => hb) f4 (fun k hk e => by have hk' : (w2.setCell ⟨rb, 1, none⟩ (.int .i64 ((n : Int) + 1))).heap.size ≤ k := hk; omega) _ _ (own_ext1 HO.out (Ext.alloc w3 (.cells #[.int .i64 t.kind, .int .i64 t.n, .string t.name, .slice ta t.kids.length tc] 25))))
  have lz4 := hz4.lt
  have BR := Lib.hid (br_facts (termF true F 3 deep r))
  obtain ⟨z0, z1, z2, z3, y0, y1, y2, y3⟩ := hz4
  clear hr4 f4
  go_wp2_with fail
  exact rd_ret (p := 4) (T := 25) (b := w.heap.size) (t := t) (ta := ta) (tc := tc) (by kernel_rfl) (fun _ => by kernel_rfl) (fun _ => by kernel_rfl) rfl rfl HZ4.out (Nat.le_refl _) (by omega) W4.out O4.out (fun k hk => by have hk : (w2.setCell ⟨rb, 1, none⟩ (.int .i64 ((n : Int) + 1))).heap.size ≤ k := hk; omega) (by rw [← BR.out.1]; exact R4.out) (fun u r' h => by obtain ⟨q, hq⟩ := BR.out.2 u r' h; exact HX.out _ _ hq)
theorem pre_no {r : List UInt8} (h : r.head? ≠ some 93) : Lib.hasPrefix (bs (91 :: r)).data.toList (⟨#[91, 93]⟩ : ByteArray).data.toList = false := by
  show ([91, 93] : List UInt8).isPrefixOf (91 :: r) = false
  cases r with
  | nil => rfl
  | cons c r =>
    have hc : ¬ c = 93 := by simpa using h
    have hc' : (93 == c) = false := by
      rw [beq_eq_false_iff_ne]
      exact fun e => hc e.symm
    simp [List.isPrefixOf, hc']
theorem pre_yes {r : List UInt8} (h : r.head? = some 93) : Lib.hasPrefix (bs (91 :: r)).data.toList (⟨#[91, 93]⟩ : ByteArray).data.toList = true := by
  show ([91, 93] : List UInt8).isPrefixOf (91 :: r) = true
  cases r with
  | nil => cases h
  | cons c r =>
    have hc : c = 93 := by simpa using h
    subst hc
    rfl
theorem quiet_prefix (a b : ByteArray) (v : Bool) (h : Lib.hasPrefix a.data.toList b.data.toList = v) (w : World) : ∀ w', Ext w w' → Calls Tryz.prog 134 #[.string a, .string b] w' fun e w'' => e = .returned (.bool v) ∧ Ext w' w'' := by
  intro w' _
  refine (Tryz.strings_HasPrefix a b w').mono ?_
  rintro e w'' ⟨rfl, rfl⟩
  exact ⟨by rw [h], Ext.refl _⟩
set_option maxRecDepth 100000 in
set_option maxHeartbeats 8000000 in
theorem rdprim_list (F : Nat) (o : Bool) (rb : Nat) (s : ByteArray) (deep : Nat) (r : List UInt8) (w : World) (hs : s.size ≤ 4000) (hd : deep ≤ 30) (h : RdW rb s o (some (91 :: r)) w) (hne : r.head? ≠ some 93) (hL : LibW rb w) (hC : ListC o F) (hF : 4 * r.length + 3 ≤ F) :
    Calls Tryz.prog 88 #[.pointer (some ⟨rb, 0, none⟩), .int .i64 deep] w (RdTm rb s o (listF o F deep [] r) w) := by
  obtain ⟨b, hb91⟩ : ∃ b : UInt8, b = 91 := ⟨_, rfl⟩
  rw [← hb91] at h
  have H := Lib.hid h
  obtain ⟨n, h1, h2, hb⟩ := h.good
  have hlt := hb.lt
  have HB := Lib.hid hb
  have H2 := Lib.hid h2
  obtain ⟨h3, _, h4⟩ := drop_cons h2
  obtain ⟨c0, c1, c2, c3, f0, f1, f2, f3⟩ := hb
  have q0 := u8_eq0 b
  rw [decide_eq_false (show ¬ b = 0 by rw [hb91]; decide)] at q0
  have q40 := u8_eq40 b
  rw [decide_eq_false (show ¬ b = 40 by rw [hb91]; decide)] at q40
  have q91 := u8_eq91 b
  rw [decide_eq_true hb91] at q91
  have u3 : (65 : Int) ≤ b.toNat := by rw [hb91]; decide
  have u4 : ¬ (b.toNat : Int) ≤ 90 := by rw [hb91]; decide
  have hst : numStart (b :: r) = false := by rw [hb91]; rfl
  have HST := Lib.hid hst
  have hpre : Lib.hasPrefix (bs (b :: r)).data.toList (⟨#[91, 93]⟩ : ByteArray).data.toList = false := by
    rw [hb91]
    exact pre_no hne
  have hext : s.extract n s.size = bs (b :: r) := by rw [ext_end rfl, h2]
  clear h h2 h4 hb91 hst hne
  have HL := Lib.hid hL
  have HC := Lib.hid hC
  clear hL hC
  go_enter Tryz.func88, Tryz.ntmps88
  go_wp2_with fail
  refine (implnext hs (H.out.ext (Ext.alloc _ _))).mono ?_
  rw [show nextB (some (b :: r)) = b from rfl]
  rintro e w1 ⟨rfl, e1⟩
  have s1 : w.heap.size + 1 ≤ w1.heap.size := by have := Below.size e1; simpa using this
  have HB1 := Lib.hid ((HB.out.ext (Ext.alloc w (.cells #[.int .i64 0, .int .i64 0, .string ⟨#[]⟩, .slice none 0 0] 25))).ext e1)
  have HZ1 := Lib.hid ((BoxT.new w (.int .i64 0) (.int .i64 0) (.string ⟨#[]⟩) (.slice none 0 0) 25 rfl).ext e1)
  have W1 := Lib.hid ((Fr.alloc (M := fun k => k = rb) w (.cells #[.int .i64 0, .int .i64 0, .string ⟨#[]⟩, .slice none 0 0] 25)).trans (Fr.of_ext e1))
  have H1 := Lib.hid ((H.out.ext (Ext.alloc w (.cells #[.int .i64 0, .int .i64 0, .string ⟨#[]⟩, .slice none 0 0] 25))).ext e1)
  have hb1 := HB1.out
  have hlt1 := hb1.lt
  have lz1 := HZ1.out.lt
  obtain ⟨d0, d1, d2, d3, g0, g1, g2, g3⟩ := hb1
  clear e1
  have N := Lib.hid (implisNumber hs H1.out)
  rw [HST.out] at N
  go_wp2_with fail
  refine N.out.mono ?_
  rintro e w2 ⟨rfl, e2⟩
  have HB2 := Lib.hid (HB1.out.ext e2)
  have HZ2 := Lib.hid (HZ1.out.ext e2)
  have W2 := Lib.hid (W1.out.trans (Fr.of_ext e2))
  have s2 : w.heap.size + 1 ≤ w2.heap.size := by have := Below.size e2; omega
  have hb2 := HB2.out
  have hlt2 := hb2.lt
  clear e2 d0 d1 d2 d3 g0 g1 g2 g3
  obtain ⟨d0, d1, d2, d3, g0, g1, g2, g3⟩ := hb2
  have k0 := cell_regrown d0
  have k1 := cell_regrown d1
  have k3 := cell_regrown d3
  have cQ := quiet_call (w := w2) (quiet_prefix (bs (b :: r)) ⟨#[91, 93]⟩ _ hpre w2)
  clear hpre
  go_wp2_with fail
  refine region_ext (by kernel_rfl) (by kernel_rfl) ?_
  repeat (go_big_quiet_step (exact cQ _ _))
  refine wpQuiet_nil ?_
  intro w5 e5
  have HB5 := Lib.hid (HB2.out.ext e5)
  have HZ5 := Lib.hid (HZ2.out.ext e5)
  have W5 := Lib.hid (W2.out.trans (Fr.of_ext e5))
  have s5 : w.heap.size + 1 ≤ w5.heap.size := by have := Below.size e5; omega
  have hb5 := HB5.out
  have hlt5 := hb5.lt
  clear e5 d0 d1 d2 d3 g0 g1 g2 g3 k0 k1 k3 cQ hext
  obtain ⟨d0, d1, d2, d3, g0, g1, g2, g3⟩ := hb5
  have fs : Fr (fun k => k = rb) w5 (w5.setCell ⟨rb, 1, none⟩ (.int .i64 ((n : Int) + 1))) := Fr.setCell w5 rfl
  have C := Lib.hid (HC.out rb s deep r (w5.setCell ⟨rb, 1, none⟩ (.int .i64 ((n : Int) + 1))) hs hd (HL.out.fr (W5.out.trans fs)) (RdW.step HB5.out H2.out rfl) hF)
  have FS := Lib.hid fs
  have ss := fs.size
  clear fs
  go_wp2_with fail
  refine C.out.mono ?_
  rintro e w3 ⟨t, ta, tc, rfl, ho, f3, hr3, hXt⟩
  have W3 := Lib.hid ((W5.out.trans FS.out).trans f3)
  have hz3 := HZ5.out.fr (FS.out.trans f3) (by omega)
  have HZ3 := Lib.hid hz3
  have HR := Lib.hid hr3
  have HO := Lib.hid ho
  have HX := Lib.hid hXt
  have lz3 := hz3.lt
  obtain ⟨z0, z1, z2, z3, y0, y1, y2, y3⟩ := hz3
  clear ho hr3 f3 hXt d0 d1 d2 d3 g0 g1 g2 g3
  go_wp2_with fail
  exact rd_ret (p := 4) (T := 25) (b := w.heap.size) (t := t) (ta := ta) (tc := tc) (by kernel_rfl) (fun _ => by kernel_rfl) (fun _ => by kernel_rfl) rfl rfl HZ3.out (Nat.le_refl _) (by omega) W3.out HO.out (fun k hk => by have hk : (w5.setCell ⟨rb, 1, none⟩ (.int .i64 ((n : Int) + 1))).heap.size ≤ k := hk; omega) HR.out HX.out
end Go.Proofs.YtognkaebiafgbaaGreatDoor
