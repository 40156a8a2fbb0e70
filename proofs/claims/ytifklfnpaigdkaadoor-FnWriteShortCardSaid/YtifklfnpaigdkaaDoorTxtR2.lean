/-
  Texts of terms, the reference's l2Args, l2List, l2Text and WriteTerm.
-/
import Derived.Test.YtifklfnpaigdkaaDoorTxtR
namespace Go.Proofs.YtifklfnpaigdkaaDoor
open Go.RowKit
set_option linter.unusedVariables false

/-- a list of terms in a row of its own (zone Z); what they hold lies in S -/
def AppS (T : Nat) (Z S : Nat → Prop) (ts : List Tm) (v : Value) (w : World) : Prop := ∃ xs, w.ownsRow 0 T 4 v ts.length xs ∧ (∀ g, v.ownBlock = some g → Z g) ∧ Tm.flat S w ts xs
theorem AppS.empty {w : World} {T b : Nat} {Z S : Nat → Prop} (hb : b = w.heap.size) (hz : Z b) : AppS T Z S [] (.slice (some ⟨b, 0, none⟩) 0 0) (w.alloc (.cells #[] T)) :=
  ⟨[], own_low (own_empty hb) (Nat.zero_le _), by intro g hg; simp [Value.ownBlock] at hg; subst hg; exact hz, rfl⟩
theorem AppS.keep {T : Nat} {Z S M : Nat → Prop} {ts : List Tm} {v : Value} {w w' : World} (h : AppS T Z S ts v w) (f : Fr M w w') (hM : ∀ k, k < w.heap.size → M k → ¬ Z k) (hS : ∀ k, S k → ¬ M k) : AppS T Z S ts v w' := by
  obtain ⟨xs, h1, hz, h2⟩ := h
  exact ⟨xs, own_keep h1 f (fun g hg hm => hM g (h1.lt g hg).2 hm (hz g hg)), hz, flat_mono (fun _ h => h) (f.agree hS) h2⟩
theorem AppS.ext {T : Nat} {Z S : Nat → Prop} {ts : List Tm} {v : Value} {w w' : World} (h : AppS T Z S ts v w) (e : Ext w w') : AppS T Z S ts v w' := h.keep (M := fun _ => False) (Fr.of_ext e) (fun _ _ h => h.elim) (fun _ _ h => h)
theorem AppS.sl {T : Nat} {Z S : Nat → Prop} {ts : List Tm} {v : Value} {w : World} (h : AppS T Z S ts v w) (hl : ts.length ≤ 1048576) : Tm.sl (fun b => S b ∨ v.ownBlock = some b) w ts v := by
  obtain ⟨xs, h1, hz, h2⟩ := h
  exact own_sl h1 h2 hl
theorem wpList_append_sh {P : Program} {ops : Array Oper} {rest : List Oper} {o : Oper} {a : Act} {w1 : World} {Q : Exit → Act → World → Prop}
    (hgd : o.guard = none) (s x : Operand) (ty : TypeId)
    (ho : o.op = .call { callee := .builtin .append, args := #[s, x], argTypes := #[ty, ty] })
    (Z S : Nat → Prop) (T : TypeId) (i : TypeInfo) (ht : P.underlying ty = some (.slice T)) (hi : P.info? T = some i) (hz : i.zero = some (.agg #[.int .i64 0, .int .i64 0, .string ⟨#[]⟩, .slice none 0 0]))
    (hsize : i.size = 4) (hby : i.bytes = 56)
    (v : Value) (ts : List Tm) (t : Tm) (a2 : Option Addr) (c2 : Nat) (hs : a.eval s = v) (happ : AppS T Z S ts v w1) {nb : Nat} (hx : a.eval x = .slice (some ⟨nb, 0, none⟩) 1 1)
    (hv1 : Tm.at S w1 t (.agg #[.int .i64 t.kind, .int .i64 t.n, .string t.name, .slice a2 t.kids.length c2])) (hSZ : ∀ b, S b → ¬ Z b)
    (hl : ts.length < 1048576) (hnew : ∀ b, w1.heap.size ≤ b → Z b) (hnb : nb = w1.heap.size)
    (h : ∀ av cv w2, AppS T Z S (ts ++ [t]) (.slice av (ts.length + 1) cv) w2 → Fr Z w1 w2 → wpList P ops Q rest (a.put o.dst (.slice av (ts.length + 1) cv)) w2) :
    wpList P ops Q (o :: rest) a (w1.alloc (.cells #[.int .i64 t.kind, .int .i64 t.n, .string t.name, .slice a2 t.kids.length c2] T)) := by
  subst hnb
  obtain ⟨xs, how, hzz, hfl⟩ := happ
  refine wpList_append_fresh hgd s x ty ho 0 T i _ 4 56 ht hi hz hsize hby rfl (by decide) v ts.length xs hs (own_ext how (Ext.alloc _ _)) ⟨w1.heap.size, 0, none⟩ 1 1 (tcells t a2 c2) hx rfl (fun j u h => cell_four _ _ _ j u h) (by simp [tcells, Value.oneCell']) (by unfold maxLen; omega) (by omega) (by omega) ?_
  intro v2 w2 ho2 hg2 hfr2 _
  obtain ⟨av, cv, rfl⟩ := own_form ho2
  have f : Fr Z w1 w2 := (Fr.alloc _ _).trans (Fr.of_grown hg2 (fun k hk => hzz k hk))
  refine h av cv w2 ⟨xs ++ tcells t a2 c2, by simpa using ho2, ?_, flat_snoc (f.at hv1 hSZ) (flat_mono (fun _ h => h) (f.agree hSZ) hfl)⟩ f
  intro g hg
  rcases hfr2 g hg with hh | hh
  · exact hzz g hh
  · exact hnew g (by simp at hh; omega)

theorem joinF_take_snoc {ts : List Tm} {j : Nat} {t : Tm} (h : ts[j]? = some t) (h0 : j ≠ 0) : joinF ((ts.take (j + 1)).map (txt true)) = (joinF ((ts.take j).map (txt true)) ++ [44]) ++ txt true t := by
  rw [take_snoc_of h, List.map_append, List.map_cons, List.map_nil, joinF_snoc]
  · simp
  · intro e
    rw [List.map_eq_nil_iff, List.take_eq_nil_iff] at e
    rcases e with e | e
    · exact h0 e
    · rw [e] at h; simp at h
set_option maxRecDepth 100000 in
set_option maxHeartbeats 2000000 in
theorem specl2Args (ts : List Tm) (v : Value) (S : Nat → Prop) (w : World) (hp : ∀ (j : Nat) (u : Tm), ts[j]? = some u → S2C u) (hd : ∀ (j : Nat) (u : Tm), ts[j]? = some u → ∃ d, shapeF u d = true) (hlen : (joinF (ts.map (txt true))).length ≤ 4000) (ht : Tm.sl S w ts v) :
    Calls Tryd.prog 54 #[v] w fun e w' => e = .returned (.string (bs (joinF (ts.map (txt true))))) ∧ Ext w w' := by
  have HP := Lib.hid hp
  have HD := Lib.hid hd
  have HLN := Lib.hid hlen
  obtain ⟨ar, cap, rfl, h1, h2, h3, h4⟩ := ht
  have H4 := Lib.hid h4
  clear hp hd hlen h4
  go_enter Tryd.func54, Tryd.ntmps54
  go_wp2_with fail
  go_loopw [3, 4] (fun sv i wr => ∃ (j : Nat) (l : List UInt8), j ≤ ts.length ∧ sv = .string (bs l) ∧ i = .int .i64 j ∧ Hid (l = joinF ((ts.take j).map (txt true))) ∧ Hid (Ext w wr)) (fun _ i _ => ts.length - (intOf i).toNat)
  case atStart => exact ⟨0, [], Nat.zero_le _, rfl, rfl, Lib.hid rfl, Lib.hid (Ext.refl _)⟩
  case round =>
    obtain ⟨j, l, hj, rfl, rfl, HLQ, HX⟩ := hrel
    have ll : l.length ≤ 4000 := by rw [HLQ.out, List.map_take]; exact Nat.le_trans (joinF_take _ _) HLN.out
    by_cases hlt : j < ts.length
    · obtain ⟨tk, htk⟩ := getk hlt
      obtain ⟨b, off, a1, c1', rfl, hSb, k1, k2, k3, k4, hat⟩ := tget H4.out htk
      replace k1 := HX.out.cell k1
      replace k2 := HX.out.cell k2
      replace k3 := HX.out.cell k3
      replace k4 := HX.out.cell k4
      obtain ⟨d, hsd⟩ := HD.out j tk htk
      have HC := Lib.hid (HP.out j tk htk d _ S wr hsd (Tm.at_ext HX.out hat))
      have hl3 : ts.length ≤ 1048576 := h3
      have lx : l.length + 1 + (txt true tk).length ≤ 8003 := by
        have h2 : (joinF ((ts.take (j + 1)).map (txt true))).length ≤ 4000 := by rw [List.map_take]; exact Nat.le_trans (joinF_take _ _) HLN.out
        by_cases hj0 : j = 0
        · subst hj0
          rw [take_snoc_of htk] at h2
          simp [joinF] at h2
          omega
        · rw [joinF_take_snoc htk hj0] at h2
          simp only [List.length_append] at h2
          omega
      have lb0 : ¬ 9223372036854775807 < (bs l).size + 1 := by rw [bs_size]; omega
      have lb1 : ¬ 9223372036854775807 < (bs l).size + (bs (txt true tk)).size := by rw [bs_size, bs_size]; omega
      have lb2 : ¬ 9223372036854775807 < (bs l).size + 1 + (bs (txt true tk)).size := by rw [bs_size, bs_size]; omega
      by_cases hj0 : j = 0
      · have hjz : ¬ (0 : Int) < (j : Int) := by omega
        have HN := Lib.hid (show l ++ txt true tk = joinF ((ts.take (j + 1)).map (txt true)) by
          rw [take_snoc_of htk, HLQ.out, hj0]
          simp [joinF])
        clear htk hat hSb hj0 lx
        go_wp2_with fail
        refine HC.out.mono ?_
        rintro e w2 ⟨rfl, e2⟩
        go_wp2_with fail
        go_roundw
        case rel => exact ⟨j + 1, l ++ txt true tk, by omega, congrArg Value.string (bs_app _ _), by simp, HN, Lib.hid (HX.out.trans e2)⟩
        case measure => simp [intOf]; omega
      · have hjz : (0 : Int) < (j : Int) := by omega
        have HN := Lib.hid (show (l ++ [44]) ++ txt true tk = joinF ((ts.take (j + 1)).map (txt true)) by
          rw [joinF_take_snoc htk hj0, HLQ.out])
        clear htk hat hSb hj0 lx
        go_wp2_with fail
        refine HC.out.mono ?_
        rintro e w2 ⟨rfl, e2⟩
        go_wp2_with fail
        go_roundw
        case rel => exact ⟨j + 1, (l ++ [44]) ++ txt true tk, by omega, congrArg Value.string (by rw [show (⟨#[44]⟩ : ByteArray) = bs [44] from rfl, bs_app, bs_app]), by simp, HN, Lib.hid (HX.out.trans e2)⟩
        case measure => simp [intOf]; omega
    · obtain rfl : j = ts.length := by omega
      have HQ := Lib.hid (show l = joinF (ts.map (txt true)) by rw [HLQ.out, List.take_of_length_le (Nat.le_refl _)])
      go_wp2_with fail
      go_ret
      exact ⟨by rw [← HQ.out]; rfl, HX.out⟩
end Go.Proofs.YtifklfnpaigdkaaDoor
