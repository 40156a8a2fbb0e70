/-
  Texts of terms: the program's text of a structure with arguments, and of every term.
-/
import Derived.Test.YtognkaebiafgbaaGreatDoorMr14
namespace Go.Proofs.YtognkaebiafgbaaGreatDoor
open Go.RowKit
set_option linter.unusedVariables false
set_option maxRecDepth 100000 in
set_option maxHeartbeats 4000000 in
theorem impltext_args (o : Bool) (fid : FuncId) (n : Int) (s : ByteArray) (ks : List Tm) (d : Nat) (v : Value) (S : Nat → Prop) (w : World) (hcf : ∀ args w, Sem.run Tryz.prog (callFunc fid args) w = .ok (.enter fid args) w)
    (hp : ∀ u, Tm.sz u < Tm.sz (.mk 3 n s ks) → PartC o fid u) (hsh : shapeF (.mk 3 n s ks) d = true) (hsz : Tm.sz (.mk 3 n s ks) ≤ 120) (hpr : pairF 3 s ks.length = false) (ho : (o && infF 3 s ks.length) = false) (hl : ks.length ≠ 0) (ht : Tm.at S w (.mk 3 n s ks) v) (htab : TabW w) :
    Calls Tryz.prog 139 #[v, .func (.func fid) #[] #[]] w fun e w' => e = .returned (.string (bs (txt o (.mk 3 n s ks)))) ∧ Ext w w' := by
  have HP := Lib.hid hp
  have HSH := Lib.hid hsh
  have HLN := Lib.hid (tx_len o _ d hsh)
  have HF := Lib.hid (txt_args (n := n) ho hpr hl)
  have HTAB := Lib.hid htab
  have HZ := Lib.hid hsz
  have HNE := Lib.hid hl
  have HT := Lib.hid ht
  obtain ⟨i0, hi, hz0, hz1, hz2⟩ := info_parts info_str
  obtain ⟨hs1, sv, rfl, ar, cap, rfl, h1, h2, h3, h4⟩ := ht
  have H4 := Lib.hid h4
  have HI := Lib.hid hi
  have HZ0 := Lib.hid hz0
  have HZ1 := Lib.hid hz1
  have HZ2 := Lib.hid hz2
  have hlz : ((ks.length : Int) == 0) = false := by simp; intro e; exact hl (by rw [e]; rfl)
  clear hp hsh hsz ho htab h4 hl hi hz0 hz1 hz2
  go_enter Tryz.func139, Tryz.ntmps139
  go_wp2_with fail
  refine (implisPair 3 n s ks _ S _ (Tm.at_ext (Ext.alloc _ _) HT.out)).mono ?_
  rintro e w1 ⟨rfl, e1⟩
  have E1 := Lib.hid ((Ext.alloc w (.cells #[.int .i64 3, .int .i64 n, .string s, .slice ar ks.length cap] 25)).trans e1)
  obtain ⟨c0, c1, c2, c3, g0, g1, g2, g3⟩ := (BoxT.new w (.int .i64 3) (.int .i64 n) (.string s) (.slice ar ks.length cap) 25 rfl).ext e1
  have s1 : w.heap.size < w1.heap.size := block_lt_of_cell c0
  clear e1 g0 g1 g2 g3
  go_wp2_with fail
  go_loopw [7, 74] (fun sv i wr => ∃ (j : Nat) (av : Option Addr) (cv : Nat), j ≤ ks.length ∧ sv = .slice av j cv ∧ i = .int .i64 j ∧ Hid (StrI (fun b => w1.heap.size ≤ b) ((ks.take j).map fun t => bs (txt o t)) (.slice av j cv) wr) ∧ Hid (Ext w1 wr)) (fun _ i _ => ks.length - (intOf i).toNat)
  case atStart => exact ⟨0, none, 0, Nat.zero_le _, rfl, rfl, Lib.hid (StrI.nil _ _), Lib.hid (Ext.refl _)⟩
  case round =>
    obtain ⟨j, av, cv, hj, rfl, rfl, HK, HX⟩ := hrel
    have hlen : ((ks.take j).map fun t => bs (txt o t)).length = j := by simp; omega
    have sw : w1.heap.size ≤ wr.heap.size := Below.size HX.out
    by_cases hlt : j < ks.length
    · obtain ⟨tk, htk⟩ := getk hlt
      obtain ⟨b, off, a1, c1', rfl, hSb, k1, k2, k3, k4, hat⟩ := tget H4.out htk
      have EW := Lib.hid (E1.out.trans HX.out)
      replace k1 := EW.out.cell k1
      replace k2 := EW.out.cell k2
      replace k3 := EW.out.cell k3
      replace k4 := EW.out.cell k4
      have HTK := Lib.hid (shape_kid HSH.out htk)
      have hkl := kid_lt (k := 3) (n := n) (s := s) htk
      have HC := Lib.hid (fun w' (e' : Ext wr w') => HP.out tk hkl (d - 1) _ S w' HTK.out (Tm.at_ext (EW.out.trans e') hat) (HTAB.out.ext (EW.out.trans e')))
      have HTS := Lib.hid (show ((ks.take j).map fun t => bs (txt o t)) ++ [bs (txt o tk)] = (ks.take (j + 1)).map fun t => bs (txt o t) by rw [take_snoc_of htk]; simp)
      have hl3 : ks.length ≤ 1048576 := h3
      clear htk hkl hat hSb
      go_wp2_with fail
      refine (HC.out _ (Ext.alloc _ _)).mono ?_
      rintro e w2 ⟨rfl, e2⟩
      have E2 := Lib.hid ((Ext.alloc wr (.cells #[.int .i64 tk.kind, .int .i64 tk.n, .string tk.name, .slice a1 tk.kids.length c1'] 25)).trans e2)
      have sw2 : w1.heap.size ≤ w2.heap.size := Nat.le_trans sw (Below.size E2.out)
      clear e2
      go_wp2_with (at_builtin; refine wpList_append_str rfl (.tmp 78) (.tmp 82) 69 rfl (fun b => w1.heap.size ≤ b) i0 Tryz.underlying69 HI.out HZ0.out HZ1.out HZ2.out (.slice av j cv) ((ks.take j).map fun t => bs (txt o t)) (bs (txt o tk)) rfl (HK.out.ext E2.out) rfl (by rw [hlen]; omega) (fun b hb => Nat.le_trans sw2 hb) rfl ?_; intro av2 cv2 w3 hA2 hf2; rw [hlen] at hA2; have K3 := Lib.hid hA2; have F3 := Lib.hid hf2; clear hA2 hf2; rw [hlen])
      all_goals
        go_roundw
        case rel => exact ⟨j + 1, av2, cv2, by omega, rfl, by simp, Lib.hid (by rw [← HTS.out]; exact K3.out), Lib.hid (((Fr.of_ext (HX.out.trans E2.out)).trans F3.out).toExt (fun k hk h => by omega))⟩
        case measure => simp [intOf]; omega
    · obtain rfl : j = ks.length := by omega
      have htk : ks.take ks.length = ks := List.take_of_length_le (Nat.le_refl _)
      have HJ := Lib.hid (show (ks.map fun t => bs (txt o t)) = (ks.map (txt o)).map bs by rw [List.map_map]; rfl)
      have EW := Lib.hid (E1.out.trans HX.out)
      have lj : (joinF (ks.map (txt o))).length + s.toList.length + 2 ≤ 4000 := by
        have h1 := HLN.out.1
        have h2 := HZ.out
        rw [HF.out] at h1
        simp only [List.length_append, List.length_cons, List.length_nil] at h1
        omega
      have lj1 : (bs (joinF (ks.map (txt o)))).size + s.size + 2 ≤ 4000 := by rw [bs_size, ← bl_len]; exact lj
      have cQ := quiet_call (w := wr) (fun w' e' => joinC (fun b => w1.heap.size ≤ b) (ks.map (txt o)) (.slice av ks.length cv) w' (by intro e; have := congrArg List.length e; simp at this; exact HNE.out (by rw [this]; rfl)) (by omega) (by
        have := HK.out.ext e'
        rw [htk, HJ.out] at this
        exact this))
      replace c2 := cell_regrown (HX.out.cell c2)
      have sw3 : w.heap.size < wr.heap.size := Nat.lt_of_lt_of_le s1 sw
      have lb1 : ¬ 9223372036854775807 < s.size + 1 := by omega
      have lb2 : ¬ 9223372036854775807 < s.size + 1 + (bs (joinF (ks.map (txt o)))).size := by omega
      have lb3 : ¬ 9223372036854775807 < s.size + 1 + (bs (joinF (ks.map (txt o)))).size + 1 := by omega
      clear hlen hlt hj htk
      go_wp2_with fail
      refine region_ext (by kernel_rfl) (by kernel_rfl) ?_
      repeat (quiet_step (exact cQ _ _))
      refine wpQuiet_nil ?_
      intro wq eq
      go_wp2_with fail
      go_ret
      refine ⟨?_, EW.out.trans eq⟩
      rw [HF.out]
      refine retS ?_
      show ((s ++ bs [40]) ++ bs (joinF (ks.map (txt o)))) ++ bs [41] = bs _
      exact bl_ext (by simp only [list_app, bs_list]; simp)
end Go.Proofs.YtognkaebiafgbaaGreatDoor

namespace Go.Proofs.YtognkaebiafgbaaGreatDoor
open Go.RowKit
set_option linter.unusedVariables false
set_option maxRecDepth 100000 in
set_option maxHeartbeats 2000000 in
theorem impltext (o : Bool) (fid : FuncId) (t : Tm) (d : Nat) (v : Value) (S : Nat → Prop) (w : World) (hcf : ∀ args w, Sem.run Tryz.prog (callFunc fid args) w = .ok (.enter fid args) w)
    (hp : ∀ u, Tm.sz u < Tm.sz t → PartC o fid u) (hsh : shapeF t d = true) (hsz : Tm.sz t ≤ 120) (ho : (o && infF t.kind t.name t.kids.length) = false) (ht : Tm.at S w t v) (htab : TabW w) :
    Calls Tryz.prog 139 #[v, .func (.func fid) #[] #[]] w fun e w' => e = .returned (.string (bs (txt o t))) ∧ Ext w w' := by
  obtain ⟨k, n, s, ks⟩ := t
  simp only [Tm.kind, Tm.name, Tm.kids] at ho
  rcases shape_own hsh with ⟨rfl, _, rfl⟩ | ⟨rfl, _, rfl⟩ | ⟨rfl, rfl⟩
  · obtain ⟨n0, n1⟩ := shape_var hsh
    have HF := Lib.hid (txt_var o n s [])
    obtain ⟨hs1, sv, rfl, ar, cap, rfl, h1, h2, h3, h4⟩ := ht
    clear h4 hp hsh ho htab
    go_enter Tryz.func139, Tryz.ntmps139
    go_wp2_with (go_at_call 179; refine (implletter n n0 n1 _).mono ?_; rintro e w1 ⟨rfl, e1⟩)
    go_ret
    exact ⟨by rw [HF.out]; rfl, (Ext.alloc _ _).trans e1⟩
  · obtain ⟨n0, n1⟩ := shape_int' hsh
    have HF := Lib.hid (txt_int o n s [])
    obtain ⟨hs1, sv, rfl, ar, cap, rfl, h1, h2, h3, h4⟩ := ht
    have HTB := Lib.hid htab
    clear h4 hp hsh ho htab
    go_enter Tryz.func139, Tryz.ntmps139
    go_wp2_with (go_at_call 175; refine (itoaC n n0 n1 _ (HTB.out.ext (Ext.alloc _ _))).mono ?_; rintro e w1 ⟨rfl, e1⟩)
    go_ret
    exact ⟨by rw [HF.out]; rfl, (Ext.alloc _ _).trans e1⟩
  · by_cases hl : ks.length = 0
    · have : ks = [] := List.eq_nil_of_length_eq_zero hl
      subst this
      have HF := Lib.hid (txt_atom (o := o) (n := 0) (s := s))
      have HT := Lib.hid ht
      obtain ⟨hs1, sv, rfl, ar, cap, rfl, h1, h2, h3, h4⟩ := ht
      have hpr : pairF 3 s 0 = false := by simp [pairF]
      clear h4 hp hsh ho htab hl
      go_enter Tryz.func139, Tryz.ntmps139
      go_wp2_with fail
      refine (implisPair 3 0 s [] _ S _ (Tm.at_ext (Ext.alloc _ _) HT.out)).mono ?_
      rintro e w1 ⟨rfl, e1⟩
      obtain ⟨c0, c1, c2, c3, g0, g1, g2, g3⟩ := (BoxT.new w (.int .i64 3) (.int .i64 0) (.string s) (.slice ar 0 cap) 25 rfl).ext e1
      have s1 : w.heap.size < w1.heap.size := block_lt_of_cell c0
      go_wp2_with fail
      go_ret
      exact ⟨by rw [HF.out, bs_of]; rfl, (Ext.alloc _ _).trans e1⟩
    · cases hpr : pairF 3 s ks.length
      · exact impltext_args o fid 0 s ks d v S w hcf hp hsh hsz hpr ho hl ht htab
      · obtain ⟨a, b, rfl⟩ := len_two (pair_two hpr).2.1
        exact impltext_pair o fid 0 s a b d v S w hcf hp hsh hsz hpr ho ht htab
theorem valid_parts {t : Tm} (h : validF t = true) : shapeF t 30 = true ∧ Tm.sz t ≤ 120 := by
  rw [valid_eq] at h
  simpa using h
theorem op_word {s : List UInt8} (h : 0 < opLevelF s) : wordF s = (s == [105, 115] || s == [109, 111, 100]) := by
  unfold opLevelF at h
  split at h
  · rename_i h'
    rcases h' with rfl | rfl | rfl | rfl | rfl | rfl | rfl | rfl | rfl <;> rfl
  · split at h
    · rename_i h'
      rcases h' with rfl | rfl <;> rfl
    · split at h
      · rename_i h'
        rcases h' with rfl | rfl | rfl <;> rfl
      · omega
theorem op_le3 (s : List UInt8) : opLevelF s ≤ 3 := by unfold opLevelF; repeat' split <;> omega
set_option maxRecDepth 100000 in
theorem implopText (s : ByteArray) (w : World) (hs : s.size ≤ 1048576) : Calls Tryz.prog 104 #[.string s] w fun e w' => e = .returned (.string (bs (spaced s.toList))) ∧ Ext w w' := by
  cases hw : wordF s.toList
  · have HF := Lib.hid (show spaced s.toList = s.toList by simp [spaced, hw])
    go_enter Tryz.func104, Tryz.ntmps104
    go_wp2_with (go_at_call 106; refine (implisLetters s _ hs).mono ?_; rw [hw]; rintro e w1 ⟨rfl, rfl⟩)
    go_ret
    exact ⟨by rw [HF.out, bs_of]; rfl, Ext.refl _⟩
  · have HF := Lib.hid (show spaced s.toList = 32 :: (s.toList ++ [32]) by simp [spaced, hw])
    have lb1 : ¬ 9223372036854775807 < 1 + s.size := by omega
    have lb2 : ¬ 9223372036854775807 < 1 + s.size + 1 := by omega
    go_enter Tryz.func104, Tryz.ntmps104
    go_wp2_with (go_at_call 106; refine (implisLetters s _ hs).mono ?_; rw [hw]; rintro e w1 ⟨rfl, rfl⟩)
    go_ret
    refine ⟨?_, Ext.refl _⟩
    rw [HF.out]
    refine retS ?_
    show (bs [32] ++ s) ++ bs [32] = bs _
    exact bl_ext (by simp only [list_app, bs_list]; simp)
set_option maxRecDepth 100000 in
theorem implleftMost (s : ByteArray) (w : World) (hs : 0 < opLevelF s.toList) : Calls Tryz.prog 103 #[.string s] w fun e w' => e = .returned (.int .i64 (leftM s.toList)) ∧ Ext w w' := by
  have h3 := op_le3 s.toList
  by_cases h : opLevelF s.toList = 3
  · have HF := Lib.hid (show leftM s.toList = 2 by simp [leftM, h])
    go_enter Tryz.func103, Tryz.ntmps103
    go_wp2_with (go_at_call 102; refine (implOpLevel s _).mono ?_; rw [h]; rintro e w1 ⟨rfl, rfl⟩)
    go_ret
    exact ⟨by rw [HF.out]; rfl, Ext.refl _⟩
  · have HF := Lib.hid (show leftM s.toList = opLevelF s.toList by simp [leftM, h])
    have hb : (opLevelF s.toList == 1 || opLevelF s.toList == 2) = true := by
      rcases (show opLevelF s.toList = 1 ∨ opLevelF s.toList = 2 by omega) with h | h <;> simp [h]
    go_enter Tryz.func103, Tryz.ntmps103
    go_wp2_with (go_at_call 102; refine (implOpLevel s _).mono ?_; rw [hb]; rintro e w1 ⟨rfl, rfl⟩)
    go_ret
    exact ⟨by rw [HF.out]; rfl, Ext.refl _⟩
end Go.Proofs.YtognkaebiafgbaaGreatDoor

namespace Go.Proofs.YtognkaebiafgbaaGreatDoor
open Go.RowKit
set_option linter.unusedVariables false
def argsS (f : List UInt8 → Option (Tm × List UInt8)) : Nat → List Tm → List UInt8 → Option (List Tm × List UInt8)
  | 0, _, _ => none
  | n + 1, acc, rest =>
    match f rest with
    | some (k, c :: r) => if c = 41 then some (acc ++ [k], r) else if c = 44 then argsS f n (acc ++ [k]) r else none
    | _ => none
def itemsS (f : List UInt8 → Option (Tm × List UInt8)) : Nat → List Tm → List UInt8 → Option (Tm × List UInt8)
  | 0, _, _ => none
  | n + 1, acc, rest =>
    match f rest with
    | some (k, c :: r) =>
      if c = 124 then
        match f r with
        | some (tl, d :: r') => if d = 93 then some (chainT (acc ++ [k]) tl, r') else none
        | _ => none
      else if c = 93 then some (chainT (acc ++ [k]) (sT nilN []), r)
      else if c = 44 then itemsS f n (acc ++ [k]) r else none
    | _ => none
def nameS (f : List UInt8 → Option (Tm × List UInt8)) (s : ByteArray) : List UInt8 → Option (Tm × List UInt8)
  | c :: r => if c = 40 then (match argsS f 5 [] r with | some (ks, r') => some (sT s ks, r') | none => none) else some (sT s [], c :: r)
  | [] => some (sT s [], [])
noncomputable def spP : Nat → List UInt8 → Option (Tm × List UInt8)
  | 0, _ => none
  | d + 1, rest =>
    match rest with
    | [] => none
    | b :: r =>
      if isUp b = true then some (vT b, r) else
      if numStart (b :: r) = true then numP (b :: r) else
      if b = 91 ∧ r.head? ≠ some 93 then itemsS (spP d) 121 [] r else
      match nameP (b :: r) with
      | none => none
      | some (s, r') => nameS (spP d) (bs s) r'
def RS (t : Tm) : Prop := ∀ (d e : Nat) (rest : List UInt8), shapeF t d = true → d ≤ e → Fol rest → spP e (txt false t ++ rest) = some (t, rest)
end Go.Proofs.YtognkaebiafgbaaGreatDoor
