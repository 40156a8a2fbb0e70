/-
  Texts of terms: the program's text of every term; plainText, FormatTerm; how operators are written.
-/
import Derived.Test.YtifklfnpaigdkaaDoorTxtI3
namespace Go.Proofs.YtifklfnpaigdkaaDoor
open Go.RowKit
set_option linter.unusedVariables false

set_option maxRecDepth 100000 in
set_option maxHeartbeats 2000000 in
theorem impltext (o : Bool) (fid : FuncId) (t : Tm) (d : Nat) (v : Value) (S : Nat → Prop) (w : World) (hcf : ∀ args w, Sem.run Tryd.prog (callFunc fid args) w = .ok (.enter fid args) w)
    (hp : ∀ u, Tm.sz u < Tm.sz t → PartC o fid u) (hsh : shapeF t d = true) (hsz : Tm.sz t ≤ 120) (ho : (o && infF t.kind t.name t.kids.length) = false) (ht : Tm.at S w t v) (htab : TabW w) :
    Calls Tryd.prog 48 #[v, .func (.func fid) #[] #[]] w fun e w' => e = .returned (.string (bs (txt o t))) ∧ Ext w w' := by
  obtain ⟨k, n, s, ks⟩ := t
  simp only [Tm.kind, Tm.name, Tm.kids] at ho
  rcases shape_own hsh with ⟨rfl, _, rfl⟩ | ⟨rfl, _, rfl⟩ | ⟨rfl, rfl⟩
  · obtain ⟨n0, n1⟩ := shape_var hsh
    have HF := Lib.hid (txt_var o n s [])
    obtain ⟨hs1, sv, rfl, ar, cap, rfl, h1, h2, h3, h4⟩ := ht
    clear h4 hp hsh ho htab
    go_enter Tryd.func48, Tryd.ntmps48
    go_wp2_with (go_at_call 70; refine (implletter n n0 n1 _).mono ?_; rintro e w1 ⟨rfl, e1⟩)
    go_ret
    exact ⟨by rw [HF.out]; rfl, (Ext.alloc _ _).trans e1⟩
  · obtain ⟨n0, n1⟩ := shape_int' hsh
    have HF := Lib.hid (txt_int o n s [])
    obtain ⟨hs1, sv, rfl, ar, cap, rfl, h1, h2, h3, h4⟩ := ht
    have HTB := Lib.hid htab
    clear h4 hp hsh ho htab
    go_enter Tryd.func48, Tryd.ntmps48
    go_wp2_with (go_at_call 71; refine (itoaC n n0 n1 _ (HTB.out.ext (Ext.alloc _ _))).mono ?_; rintro e w1 ⟨rfl, e1⟩)
    go_ret
    exact ⟨by rw [HF.out]; rfl, (Ext.alloc _ _).trans e1⟩
  · by_cases hl : ks.length = 0
    · have : ks = [] := List.eq_nil_of_length_eq_zero hl
      subst this
      have HF := Lib.hid (txt_atom (o := o) (n := 0) (s := s))
      have HT := Lib.hid ht
      obtain ⟨hs1, sv, rfl, ar, cap, rfl, h1, h2, h3, h4⟩ := ht
      have hpr : pairF 3 s 0 = false := by simp [pairF]
      clear h4 hp hsh ho htab hl
      go_enter Tryd.func48, Tryd.ntmps48
      go_wp2_with fail
      refine (implisPair 3 0 s [] _ S _ (Tm.at_ext (Ext.alloc _ _) HT.out)).mono ?_
      rintro e w1 ⟨rfl, e1⟩
      obtain ⟨c0, c1, c2, c3, g0, g1, g2, g3⟩ := (BoxT.new w (.int .i64 3) (.int .i64 0) (.string s) (.slice ar 0 cap) 29 rfl).ext e1
      have s1 : w.heap.size < w1.heap.size := block_lt_of_cell c0
      go_wp2_with fail
      go_ret
      exact ⟨by rw [HF.out, bs_of]; rfl, (Ext.alloc _ _).trans e1⟩
    · cases hpr : pairF 3 s ks.length
      · exact impltext_args o fid 0 s ks d v S w hcf hp hsh hsz hpr ho hl ht htab
      · obtain ⟨a, b, rfl⟩ := len_two (pair_two hpr).2.1
        exact impltext_pair o fid 0 s a b d v S w hcf hp hsh hsz hpr ho ht htab

set_option maxRecDepth 100000 in
theorem implplainText : ∀ (m : Nat) (t : Tm), Tm.sz t ≤ m → Tm.sz t ≤ 120 → PartC false 28 t := by
  intro m
  induction m with
  | zero => intro t hm; have := Tm.sz_pos t; omega
  | succ m ih =>
    intro t hm hsz d v S w hsh ht htab
    have HC := Lib.hid (fun w' (e' : Ext w w') => impltext false 28 t d v S w' (fun args w => by rfl) (fun u hu => ih u (by omega) (by omega)) hsh hsz (by simp) (Tm.at_ext e' ht) (htab.ext e'))
    obtain ⟨a, c, rfl⟩ := at_form ht
    clear ih hm hsz hsh ht htab
    go_enter Tryd.func28, Tryd.ntmps28
    go_wp2_with (go_at_call 48; refine (HC.out _ (Ext.alloc _ _)).mono ?_; rintro e w1 ⟨rfl, e1⟩)
    go_ret
    exact ⟨rfl, (Ext.alloc _ _).trans e1⟩

theorem valid_parts {t : Tm} (h : validF t = true) : shapeF t 30 = true ∧ Tm.sz t ≤ 120 := by
  rw [valid_eq] at h
  simpa using h
set_option maxRecDepth 100000 in
theorem implFormatTerm (t : Tm) (v : Value) (S : Nat → Prop) (w : World) (ht : Tm.at S w t v) (htab : TabW w) : Calls Tryd.prog 11 #[v] w fun e w' => e = .returned (.string (bs (formatF false t))) ∧ Ext w w' := by
  have HV := Lib.hid (fun w' (e' : Ext w w') => implTermValid t v S w' (Tm.at_ext e' ht))
  have HP := Lib.hid (fun (hv : validF t = true) w' (e' : Ext w w') => implplainText _ t (Nat.le_refl _) (valid_parts hv).2 30 v S w' (valid_parts hv).1 (Tm.at_ext e' ht) (htab.ext e'))
  obtain ⟨a, c, rfl⟩ := at_form ht
  cases hv : validF t
  · have HF := Lib.hid (show formatF false t = [] by simp [formatF, hv])
    rw [hv] at HV
    clear ht htab HP
    go_enter Tryd.func11, Tryd.ntmps11
    go_wp2_with (go_at_call 27; refine (HV.out _ (Ext.alloc _ _)).mono ?_; rintro e w1 ⟨rfl, e1⟩)
    go_ret
    exact ⟨by rw [HF.out]; rfl, (Ext.alloc _ _).trans e1⟩
  · have HF := Lib.hid (show formatF false t = txt false t by simp [formatF, hv])
    have HQ := Lib.hid (HP.out hv)
    rw [hv] at HV
    clear ht htab HP
    go_enter Tryd.func11, Tryd.ntmps11
    go_wp2_with fail
    refine (HV.out _ (Ext.alloc _ _)).mono ?_
    rintro e w1 ⟨rfl, e1⟩
    obtain ⟨c0, c1, c2, c3, g0, g1, g2, g3⟩ := (BoxT.new w (.int .i64 t.kind) (.int .i64 t.n) (.string t.name) (.slice a t.kids.length c) 29 rfl).ext e1
    have s1 : w.heap.size < w1.heap.size := block_lt_of_cell c0
    have E1 := Lib.hid ((Ext.alloc w (.cells #[.int .i64 t.kind, .int .i64 t.n, .string t.name, .slice a t.kids.length c] 29)).trans e1)
    clear e1
    go_wp2_with (go_at_call 28; refine (HQ.out _ E1.out).mono ?_; rintro e w2 ⟨rfl, e2⟩)
    go_ret
    exact ⟨by rw [HF.out]; rfl, E1.out.trans e2⟩

/-! ### operators -/
theorem op_word {s : List UInt8} (h : 0 < opLevelF s) : wordF s = (s == [105, 115] || s == [109, 111, 100]) := by
  unfold opLevelF at h
  split at h
  · rename_i h'
    rcases h' with rfl | rfl | rfl | rfl | rfl | rfl | rfl | rfl | rfl <;> rfl
  · split at h
    · rename_i h'
      rcases h' with rfl | rfl <;> rfl
    · split at h
      · rename_i h'
        rcases h' with rfl | rfl | rfl <;> rfl
      · omega
theorem op_le3 (s : List UInt8) : opLevelF s ≤ 3 := by unfold opLevelF; repeat' split <;> omega
set_option maxRecDepth 100000 in
theorem implopText (s : ByteArray) (w : World) (hs : s.size ≤ 1048576) : Calls Tryd.prog 58 #[.string s] w fun e w' => e = .returned (.string (bs (spaced s.toList))) ∧ Ext w w' := by
  cases hw : wordF s.toList
  · have HF := Lib.hid (show spaced s.toList = s.toList by simp [spaced, hw])
    go_enter Tryd.func58, Tryd.ntmps58
    go_wp2_with (go_at_call 80; refine (implisLetters s _ hs).mono ?_; rw [hw]; rintro e w1 ⟨rfl, rfl⟩)
    go_ret
    exact ⟨by rw [HF.out, bs_of]; rfl, Ext.refl _⟩
  · have HF := Lib.hid (show spaced s.toList = 32 :: (s.toList ++ [32]) by simp [spaced, hw])
    have lb1 : ¬ 9223372036854775807 < 1 + s.size := by omega
    have lb2 : ¬ 9223372036854775807 < 1 + s.size + 1 := by omega
    go_enter Tryd.func58, Tryd.ntmps58
    go_wp2_with (go_at_call 80; refine (implisLetters s _ hs).mono ?_; rw [hw]; rintro e w1 ⟨rfl, rfl⟩)
    go_ret
    refine ⟨?_, Ext.refl _⟩
    rw [HF.out]
    refine retS ?_
    show (bs [32] ++ s) ++ bs [32] = bs _
    exact bl_ext (by simp only [list_app, bs_list]; simp)
set_option maxRecDepth 100000 in
theorem implleftMost (s : ByteArray) (w : World) (hs : 0 < opLevelF s.toList) : Calls Tryd.prog 57 #[.string s] w fun e w' => e = .returned (.int .i64 (leftM s.toList)) ∧ Ext w w' := by
  have h3 := op_le3 s.toList
  by_cases h : opLevelF s.toList = 3
  · have HF := Lib.hid (show leftM s.toList = 2 by simp [leftM, h])
    go_enter Tryd.func57, Tryd.ntmps57
    go_wp2_with (go_at_call 18; refine (implOpLevel s _).mono ?_; rw [h]; rintro e w1 ⟨rfl, rfl⟩)
    go_ret
    exact ⟨by rw [HF.out]; rfl, Ext.refl _⟩
  · have HF := Lib.hid (show leftM s.toList = opLevelF s.toList by simp [leftM, h])
    have hb : (opLevelF s.toList == 1 || opLevelF s.toList == 2) = true := by
      rcases (show opLevelF s.toList = 1 ∨ opLevelF s.toList = 2 by omega) with h | h <;> simp [h]
    go_enter Tryd.func57, Tryd.ntmps57
    go_wp2_with (go_at_call 18; refine (implOpLevel s _).mono ?_; rw [hb]; rintro e w1 ⟨rfl, rfl⟩)
    go_ret
    exact ⟨by rw [HF.out]; rfl, Ext.refl _⟩
end Go.Proofs.YtifklfnpaigdkaaDoor
