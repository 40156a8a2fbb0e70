/-
  The program's store: taking all bindings back (undo), and what 'all' returns then.
-/
import Derived.Test.YtdelhgodhkbjdaaMg32
import Derived.Test.YtdelhgodhkbjdaaMg35
namespace Go.Proofs.Ytdelhgodhkbjdaa
open Go.RowKit Go.Maps
set_option linter.unusedVariables false

theorem turned_fr {w w' : World} {b : Nat} (h : w.mapTurned w' b) : Fr (fun k => k = b) w w' := by
  obtain ⟨es, clock, es', clock', h1, rfl⟩ := h
  refine ⟨rfl, rfl, rfl, by simp [Go.ChangeMaps.setBlock], fun k hk hne => ?_⟩
  simp only [Go.ChangeMaps.setBlock]
  rw [Array.getElem?_setIfInBounds]
  rw [if_neg (fun e => hne e.symm)]
/-- a variable taken out -/
theorem Km.del {S : Nat → Prop} {w w' : World} {b m : Nat} {K : List Tm} {D : DataW Value} (h0 : ¬ S b) (hl : K.length = 26) (hD : IsMap D) (h : ∀ n : Int, 0 ≤ n ∧ n ≤ 25 → look1 S w D n (lookK K n)) {n : Int} (hn : 0 ≤ n ∧ n ≤ 25)
    (ho : w'.ownsMap Try.prog 3 heldR b m (D.del (.int .i64 n))) (f : Fr (fun k => k = b) w w') : Km S w' b m (K.set n.toNat zeroT) := by
  have hag : Agree S w w' := f.agree (fun k hk e => by subst e; exact h0 hk)
  refine ⟨h0, by simp [hl], _, ho, hD.del _, fun i hi => ?_⟩
  rw [look_set hl hn hi]
  split
  · rename_i e
    subst e
    unfold look1
    rw [if_pos (show zeroT.kind = 0 from rfl)]
    exact Maps.has_del_same
  · rename_i e
    have hne : Lit.int .i64 i ≠ Lit.int .i64 n := by intro h; cases h; exact e rfl
    have := (h i hi).agree hag
    unfold look1 at this ⊢
    rw [Maps.has_del_other hne]
    split
    · rename_i e1; rw [if_pos e1] at this; exact this
    · rename_i e1
      rw [if_neg e1] at this
      obtain ⟨h1, v1, h2, h3⟩ := this
      exact ⟨h1, v1, fun z => by rw [Maps.atKey_del_other hne]; exact h2 z, h3⟩
theorem Km.zero {S : Nat → Prop} {w : World} {b m : Nat} {K : List Tm} (h : Km S w b m K) (hz : ∀ n : Int, 0 ≤ n ∧ n ≤ 25 → (lookK K n).kind = 0) : Km S w b m known0 := by
  obtain ⟨h0, hl, D, h1, h2, h3⟩ := h
  refine ⟨h0, by simp [known0], D, h1, h2, fun n hn => ?_⟩
  have := h3 n hn
  unfold look1 at this ⊢
  rw [if_pos (hz n hn)] at this
  rw [look_known0, if_pos (show zeroT.kind = 0 from rfl)]
  exact this
theorem wp_del_km {S : Nat → Prop} {w : World} {b mm : Nat} {K : List Tm} {n : Int} {ops : Array Oper} {rest : List Oper} {o : Oper} {a : Act} {Q : Exit → Act → World → Prop}
    (hg : o.guard = none) (m x : Operand) (hop : o.op = Op.call { callee := Callee.builtin Builtin.delete, args := #[m, x], argTypes := #[89, 3] }) (h : Km S w b mm K) (hn : 0 ≤ n ∧ n ≤ 25) (hm : a.eval m = .map (some b)) (hx : a.eval x = .int .i64 n)
    (hK : ∀ w', Km S w' b mm (K.set n.toNat zeroT) → Fr (fun k => k = b) w w' → wpList Try.prog ops Q rest (a.put o.dst (.tuple #[])) w') : wpList Try.prog ops Q (o :: rest) a w := by
  obtain ⟨h0, hl, D, h1, h2, h3⟩ := h
  refine wpList_delete_own w hg m x _ _ hop 25 map_keyed Try.underlying89 heldR b mm D hm h1 (.int .i64 n) (.int .i64 n) hx (keyOf_int_mk Try.underlying3 (small_wf hn)) ?_
  intro w' ho hg'
  have f := turned_fr hg'
  exact hK w' (Km.del h0 hl h2 h3 hn ho f) f
def delL : List Tm → List Int → List Tm
  | K, [] => K
  | K, n :: ns => delL (K.set n.toNat zeroT) ns
theorem delL_snoc : ∀ {K : List Tm} {ns : List Int} {j : Nat} {n : Int}, ns[j]? = some n → delL K (ns.take (j + 1)) = (delL K (ns.take j)).set n.toNat zeroT
  | K, [], j, n, h => by simp at h
  | K, m :: ns, 0, n, h => by simp at h; subst h; simp [delL]
  | K, m :: ns, j + 1, n, h => by
    simp only [List.take_succ_cons, delL]
    exact delL_snoc (by simpa using h)
theorem delL_look : ∀ {ns : List Int} {K : List Tm}, K.length = 26 → (∀ n ∈ ns, 0 ≤ n ∧ n ≤ 25) → ∀ m : Int, 0 ≤ m ∧ m ≤ 25 → (m ∈ ns ∨ (lookK K m).kind = 0) → (lookK (delL K ns) m).kind = 0
  | [], K, _, _, m, _, h => by
    rcases h with h | h
    · simp at h
    · exact h
  | n :: ns, K, hl, hns, m, hm, h => by
    refine delL_look (ns := ns) (K := K.set n.toNat zeroT) (by simp [hl]) (fun x hx => hns x (by simp [hx])) m hm ?_
    rw [look_set hl (hns n (by simp)) hm]
    by_cases e : m = n
    · rw [if_pos e]; exact .inr rfl
    · rw [if_neg e]
      rcases h with h | h
      · exact .inl (by simpa [e] using h)
      · exact .inr h

set_option maxRecDepth 100000 in
set_option maxHeartbeats 4000000 in
theorem implundo (K : List Tm) (L : List Int) (tv : Value) (S : Nat → Prop) (w : World) (sb mb : Nat) (ht : Trl known0 K L) (hst : StoT S w sb mb K L tv) :
    Calls Try.prog 74 #[.pointer (some ⟨sb, 0, none⟩), .int .i64 0] w fun e w' => (∃ v, e = .returned v) ∧ Fr (fun k => k = sb ∨ k = mb) w w' ∧ w'.cell? ⟨sb, 0, none⟩ = some (.map (some mb)) ∧ ∃ m, Km S w' mb m known0 := by
  obtain ⟨⟨hs0, hs1, hs2, m0, _, hkm⟩, ht1, hf1, hI, hown, hlen⟩ := hst
  have HT := Lib.hid ht
  have HK := Lib.hid hkm
  have HI := Lib.hid hI
  have lsb := block_lt_of_cell hs0
  simp only at lsb
  obtain ⟨a, c, rfl⟩ := hI.form
  have HO := Lib.hid hown
  have hl := hI.2.2
  obtain ⟨_, _, e1, i1, i2, i3, i4⟩ := hI.ints
  simp only [Value.slice.injEq] at e1
  obtain ⟨rfl, _, rfl⟩ := e1
  have H4 := Lib.hid i4
  clear ht hkm hI hown i4
  go_enter Try.func74, Try.ntmps74
  go_wp2_with fail
  go_loopw [13] (fun i wr => ∃ j : Nat, j ≤ L.length ∧ i = .int .i64 j ∧ Hid (Km S wr mb m0 (delL K (L.take j))) ∧ Hid (Fr (fun k => k = mb) w wr)) (fun i _ => L.length - (intOf i).toNat)
  case atStart => exact ⟨0, Nat.zero_le _, rfl, Lib.hid (by simpa [delL] using HK.out), Lib.hid (Fr.refl _ _)⟩
  case round =>
    obtain ⟨j, hj, rfl, HKj, HF⟩ := hrel
    have s0 := HF.out.cell hs2 hs0
    have t1 := HF.out.cell hs2 ht1
    have u1 := HF.out.frozen lsb hs2 hf1
    have lsr : sb < wr.heap.size := Nat.lt_of_lt_of_le lsb HF.out.size
    by_cases hlt : j < L.length
    · obtain ⟨n, hn⟩ : ∃ n, L[j]? = some n := ⟨L[j], List.getElem?_eq_getElem hlt⟩
      have hnb := HT.out.2 n (List.mem_of_getElem? hn)
      rcases H4.out with h4 | ⟨b, off, rfl, h5⟩
      · rw [h4] at hlt; simp at hlt
      have h6 := h5 j n hn
      have hbo : ¬ b = mb := fun h => (HO.out b (by
        have := HI.out.1
        rcases this.2 with ⟨e, _⟩ | ⟨g, cap, cur, e, _⟩
        · simp only [Value.slice.injEq] at e
          exact absurd e.1 (by simp)
        · simp only [Value.slice.injEq, Option.some.injEq, Addr.mk.injEq] at e
          simp [Value.ownBlock, e.1.1]
          try exact ⟨e.1.2.1, e.1.2.2⟩)).2.1 h
      have h7 := HF.out.cell hbo h6
      have HN := Lib.hid (delL_snoc (K := K) hn)
      have HNB := Lib.hid hnb
      clear h5 h6 hn hnb
      go_wp2_with (at_delete; refine wp_del_km rfl (.tmp 20) (.tmp 21) rfl HKj.out HNB.out rfl rfl ?_; intro w5 hk5 f5; have K5 := Lib.hid hk5; have F5 := Lib.hid f5; clear hk5 f5)
      exact ⟨⟨j + 1, by omega, by go_num, Lib.hid (by rw [HN.out]; exact K5.out), Lib.hid (HF.out.trans F5.out)⟩, by simp [intOf]; omega⟩
    · have hjj : j = L.length := by omega
      subst hjj
      have HZ : Hid (Km S wr mb m0 known0) := Lib.hid (Km.zero HKj.out (fun n hn => by
        rw [List.take_of_length_le (Nat.le_refl _)]
        refine delL_look HK.out.2.1 HT.out.2 n hn ?_
        rcases HT.out.1 n hn.1 hn.2 with h | h
        · exact .inr (by rw [h, look_known0]; rfl)
        · exact .inl h))
      clear HKj
      go_wp2_with fail
      have f : Fr (fun k => k = sb) wr (wr.setCell ⟨sb, 1, none⟩ (.slice a 0 c)) := Fr.setCell _ rfl
      refine bodyPost_end (v := .tuple #[]) (results_none rfl _ _ _) rfl ?_
      exact ⟨⟨_, rfl⟩, (HF.out.mono (fun k _ h => .inr h)).trans (f.mono (fun k _ h => .inl h)), cell_off (by decide) s0, m0, HZ.out.fr f (fun k hk => by subst hk; exact ⟨hs1, hs2⟩)⟩

set_option maxRecDepth 100000 in
set_option maxHeartbeats 2000000 in
/-- all, where nothing stands for anything -/
theorem implall0 (S : Nat → Prop) (w : World) (sb mb m : Nat) (hs0 : w.cell? ⟨sb, 0, none⟩ = some (.map (some mb))) (hk : Km S w mb m known0) :
    Calls Try.prog 41 #[.pointer (some ⟨sb, 0, none⟩)] w (BdBO [] (.bool true) w) := by
  have HKM := Lib.hid hk
  have lsb := block_lt_of_cell hs0
  simp only at lsb
  have HS0 := Lib.hid hs0
  clear hk hs0
  go_enter Try.func41, Try.ntmps41
  go_wp2_with fail
  go_loopw [4, 9] (fun o i wr => ∃ (j : Nat), j ≤ 26 ∧ i = .int .i64 j ∧ o = .slice none 0 0 ∧ Hid (Ext w wr)) (fun _ i _ => 26 - (intOf i).toNat)
  case atStart => exact ⟨0, by omega, rfl, rfl, Lib.hid (Ext.refl _)⟩
  case round =>
    obtain ⟨j, hj, rfl, rfl, HE⟩ := hrel
    have lsr : sb < wr.heap.size := Nat.lt_of_lt_of_le lsb (Below.size HE.out)
    by_cases hlt : j < 26
    · have hn : 0 ≤ (j : Int) ∧ (j : Int) ≤ 25 := by omega
      have s0 := HE.out.cell HS0.out
      have L1 := run_look_no (HKM.out.ext HE.out) hn (by rw [look_known0]; rfl)
      go_wp2_with fail
      exact ⟨⟨j + 1, by omega, by go_num, rfl, Lib.hid (HE.out.trans (Ext.alloc _ _))⟩, by simp [intOf]; omega⟩
    · have hjj : j = 26 := by omega
      subst hjj
      go_wp2_with fail
      go_ret2
      exact ⟨none, 0, rfl, OwnB.nil _ _, HE.out⟩
theorem okU0 : ∀ j, okU known0 j = true ∧ bdsU known0 j = []
  | 0 => ⟨rfl, rfl⟩
  | j + 1 => by
    obtain ⟨h1, h2⟩ := okU0 j
    constructor
    · rw [okU, h1, look_known0]; rfl
    · rw [bdsU, look_known0, if_pos (show zeroT.kind = 0 from rfl), h2]
/-- what solving a goal leaves: its code, and 'all' ready to be called -/
def CallA (sb mb : Nat) (r : Int × List Tm) (w : World) (e : Ending) (w' : World) : Prop :=
  e = .returned (.int .i64 r.1) ∧ Fr (fun k => k = sb ∨ k = mb) w w' ∧ (r.1 = 0 → Calls Try.prog 41 #[.pointer (some ⟨sb, 0, none⟩)] w' (BdBO (allR r.2) (.bool (okU r.2 26)) w'))
theorem CallQ.to {S : Nat → Prop} {sb mb : Nat} {r : Int × List Tm} {w w' : World} {e : Ending} (h : CallQ S sb mb r w e w') (hB : ∀ b, S b → b < w.heap.size) (hv : r.1 = 0 → VK r.2 ∧ ∃ ρ, Rk r.2 ρ) : CallA sb mb r w e w' := by
  obtain ⟨h1, h2, h3⟩ := h
  exact ⟨h1, h2, fun hr => implall r.2 S w' sb mb (hv hr).1 (hv hr).2 (fun b hb => Nat.lt_of_lt_of_le (hB b hb) h2.size) (h3 hr)⟩
end Go.Proofs.Ytdelhgodhkbjdaa
