/-
  The program's store with its trail; bind.
-/
import Derived.StillTailTactics
import Derived.Maps.OwnOps
import Derived.Test.YtdelhgodhkbjdaaMg24
namespace Go.Proofs.Ytdelhgodhkbjdaa
open Go.RowKit Go.Maps
set_option linter.unusedVariables false

/-- the store, its map, and its trail: the numbers L in slice tv -/
def StoT (S : Nat → Prop) (w : World) (sb mb : Nat) (K : List Tm) (L : List Int) (tv : Value) : Prop :=
  Sto S w sb mb K ∧ w.cell? ⟨sb, 1, none⟩ = some tv ∧ w.frozen? ⟨sb, 1, none⟩ = false ∧ IntI (fun _ => True) L tv w ∧ (∀ g, tv.ownBlock = some g → g ≠ sb ∧ g ≠ mb ∧ ¬ S g) ∧ L.length + unb K ≤ 1000
theorem StoT.sto {S : Nat → Prop} {w : World} {sb mb : Nat} {K : List Tm} {L : List Int} {tv : Value} (h : StoT S w sb mb K L tv) : Sto S w sb mb K := h.1
theorem StoT.fr {S M : Nat → Prop} {w w' : World} {sb mb : Nat} {K : List Tm} {L : List Int} {tv : Value} (h : StoT S w sb mb K L tv) (f : Fr M w w') (hM : ∀ k, M k → ¬ S k ∧ k ≠ mb ∧ k ≠ sb ∧ ¬ tv.ownBlock = some k) : StoT S w' sb mb K L tv :=
  ⟨h.1.fr f (fun k hk => ⟨(hM k hk).1, (hM k hk).2.1, (hM k hk).2.2.1⟩), f.cell (fun hm => (hM _ hm).2.2.1 rfl) h.2.1, f.frozen h.1.lt (fun hm => (hM _ hm).2.2.1 rfl) h.2.2.1, ⟨own_keep h.2.2.2.1.1 f (fun g hg hm => (hM g hm).2.2.2 hg), fun _ _ => trivial, h.2.2.2.1.2.2⟩, h.2.2.2.2⟩
theorem StoT.ext {S : Nat → Prop} {w w' : World} {sb mb : Nat} {K : List Tm} {L : List Int} {tv : Value} (h : StoT S w sb mb K L tv) (f : Ext w w') : StoT S w' sb mb K L tv := h.fr (M := fun _ => False) (Fr.of_ext f) (fun _ h => h.elim)
/-- what a call may change -/
def MT (sb mb : Nat) (tv : Value) (k : Nat) : Prop := k = sb ∨ k = mb ∨ tv.ownBlock = some k
/-- what a call leaves: the store knows K', the trail has grown by L2 -/
def StoP (S : Nat → Prop) (sb mb : Nat) (K' : List Tm) (L L2 : List Int) (tv : Value) (w w' : World) : Prop :=
  ∃ tv', StoT S w' sb mb K' (L ++ L2) tv' ∧ (∀ g, tv'.ownBlock = some g → tv.ownBlock = some g ∨ w.heap.size ≤ g) ∧ Fr (MT sb mb tv) w w'
theorem info_int2 : (Try.prog.info? 3).map (fun i => (i.zero, i.size, i.bytes)) = some (some (.int .i64 0), 1, 8) := by kernel_rfl
theorem int_parts {o : Option TypeInfo} {z : Value} (h : o.map (fun i => (i.zero, i.size, i.bytes)) = some (some z, 1, 8)) : ∃ i, o = some i ∧ i.zero = some z ∧ i.size = 1 ∧ i.bytes = 8 := by
  cases o with
  | none => simp at h
  | some i => simp at h; exact ⟨i, rfl, h⟩

set_option maxRecDepth 100000 in
set_option maxHeartbeats 8000000 in
theorem implbind (K : List Tm) (n : Int) (t : Tm) (d : Nat) (hv : VK K) (hr : ∃ ρ, Rk K ρ) (hn : 0 ≤ n ∧ n ≤ 25) (h0 : (lookK K n).kind = 0) (hs : shapeF t d = true) (v tv : Value) (L : List Int) (S : Nat → Prop) (w : World) (sb mb : Nat) (hB : ∀ b, S b → b < w.heap.size) (ht : Tm.at S w t v) (hst : StoT S w sb mb K L tv) :
    Calls Try.prog 97 #[.pointer (some ⟨sb, 0, none⟩), .int .i64 n, v] w fun e w' => e = .returned (.bool (!occB K n t)) ∧ StoP S sb mb (if occB K n t = true then K else K.set n.toNat t) L (if occB K n t = true then [] else [n]) tv w w' := by
  obtain ⟨ρ, hr⟩ := hr
  obtain ⟨R, hR⟩ := rank_top ρ
  obtain ⟨a, c, rfl⟩ := at_form ht
  have hsb := hst.1.lt
  obtain ⟨m0, hm0, hkm⟩ := hst.1.km
  have hmb := hkm.lt
  have hne : sb ≠ mb := hst.1.2.2.1
  obtain ⟨ta, tc, rfl⟩ := hst.2.2.2.1.form
  have HW := Lib.hid hst
  have HT := Lib.hid ht
  have HB := Lib.hid hB
  have HK0 := Lib.hid (shape_kind hs)
  have HTW : Hid (∀ g, (Value.slice ta L.length tc).ownBlock = some g → g < w.heap.size) := Lib.hid (fun g hg => (hst.2.2.2.1.1.lt g hg).2)
  have hw1 : w.heap.size + 1 ≤ (w.alloc (.cells #[.int .i64 t.kind, .int .i64 t.n, .string t.name, .slice a t.kids.length c] 25)).heap.size := by simp
  have OC := Lib.hid (fun (b : Nat) (w' : World) (e' : Ext w w') (hb : w.heap.size ≤ b) (hM : Met w' b known0) => imploccurs K n ρ S sb mb b hv hr hn h0 (fun h => by have := hB b h; omega) (by omega) (by omega) R (Tm.sz t) t (fun m hm => by have := occ_shape t d hs hm; exact hR m this.1 this.2) (Nat.le_refl _) (.agg #[.int .i64 t.kind, .int .i64 t.n, .string t.name, .slice a t.kids.length c]) known0 w' d hs (Tm.at_ext e' ht) (fun b hb => Nat.lt_of_lt_of_le (hB b hb) (Below.size e')) (hst.1.ext e') hM (fun m h1 h2 h3 => by rw [look_known0] at h3; exact absurd rfl h3))
  have HN := Lib.hid hn
  have H0 := Lib.hid h0
  obtain ⟨bo, hbo⟩ : ∃ b, occB K n t = b := ⟨_, rfl⟩
  have HBO := Lib.hid hbo
  rw [hbo]
  have hmm := @run_makeMap Try.prog
  have HMET := Lib.hid (show Met ((w.alloc (.cells #[.int .i64 t.kind, .int .i64 t.n, .string t.name, .slice a t.kids.length c] 25)).alloc (.map #[] 0)) (w.heap.size + 1) known0 by have h := Met.made (w.alloc (.cells #[.int .i64 t.kind, .int .i64 t.n, .string t.name, .slice a t.kids.length c] 25)); rw [show (w.alloc (.cells #[.int .i64 t.kind, .int .i64 t.n, .string t.name, .slice a t.kids.length c] 25)).heap.size = w.heap.size + 1 by simp] at h; exact h)
  clear hv hr hR hs ht hB h0 hbo hkm hm0 hst
  go_enter Try.func97, Try.ntmps97
  go_wp2_with fail
  refine (OC.out (w.heap.size + 1) _ ((Ext.alloc _ _).trans (Ext.alloc _ _)) (by omega) HMET.out).mono ?_
  rintro e w2 ⟨rfl, f2, _⟩
  rw [HBO.out]
  have F2 := Lib.hid (((Fr.of_ext ((Ext.alloc _ _).trans (Ext.alloc _ _))).trans f2).toExt (fun k hk h => by omega))
  have X2 := Lib.hid (((BoxT.new w (.int .i64 t.kind) (.int .i64 t.n) (.string t.name) (.slice a t.kids.length c) 25 rfl).ext (Ext.alloc _ (.map #[] 0))).fr f2 (by omega))
  clear f2 OC hmm
  cases bo
  · have W2 := Lib.hid (HW.out.ext F2.out)
    obtain ⟨x0, x1, x2, x3, _, _, _, _⟩ := X2.out
    have s0 := W2.out.1.1
    have hz2 := Below.size F2.out
    have t1 := W2.out.2.1
    have tf1 := W2.out.2.2.1
    obtain ⟨m2, hm2, hkm2⟩ := W2.out.1.km
    have HKM := Lib.hid (hkm2.ext (Ext.drew _))
    have HU := Lib.hid (Tm.at_ext (F2.out.trans (Ext.drew _)) HT.out)
    have e0 : w2.drew.cell? ⟨sb, 0, none⟩ = some (.map (some mb)) := s0
    have e1 : w2.drew.cell? ⟨w.heap.size, 0, none⟩ = _ := x0
    have e2 : w2.drew.cell? ⟨w.heap.size, 1, none⟩ = _ := x1
    have e3 : w2.drew.cell? ⟨w.heap.size, 2, none⟩ = _ := x2
    have e4 : w2.drew.cell? ⟨w.heap.size, 3, none⟩ = _ := x3
    have lsb2 : sb < w2.heap.size := by omega
    have lsb3 : sb < w2.drew.heap.size := lsb2
    have lx : w.heap.size < w2.drew.heap.size := X2.out.lt
    obtain ⟨i0, hi, hz0, hz1, hz2⟩ := int_parts info_int2
    have HI := Lib.hid hi
    have HZ := Lib.hid hz0
    have HZ1 := Lib.hid hz1
    have HZ2 := Lib.hid hz2
    clear hi hz0 hz1 hz2 hkm2
    go_wp2_with fail
    go_still_tail 6, (by kernel_rfl)
    change wpList _ _ _ _ _ w2.drew
    refine wp_put_km rfl _ _ _ rfl HKM.out (by omega) HN.out HK0.out _ HU.out rfl rfl rfl ?_
    intro w3 hK3 f3
    have F3 := Lib.hid ((Fr.of_ext (M := fun k => k = mb) (Ext.drew w2)).trans f3)
    have K3 := Lib.hid hK3
    have p0 := F3.out.cell hne s0
    have p1 := F3.out.cell hne t1
    have p2 := F3.out.frozen lsb2 hne tf1
    have lsb4 := Nat.lt_of_lt_of_le lsb2 F3.out.size
    have HII : Hid (IntI (fun b => b < w3.heap.size ∧ (Value.slice ta L.length tc).ownBlock = some b ∨ w3.heap.size ≤ b) L (.slice ta L.length tc) w3) := Lib.hid ⟨own_keep W2.out.2.2.2.1.1 F3.out (fun g hg hm => (W2.out.2.2.2.2.1 g hg).2.1 hm), fun g hg => .inl ⟨Nat.lt_of_lt_of_le (W2.out.2.2.2.1.1.lt g hg).2 F3.out.size, hg⟩, W2.out.2.2.2.1.2.2⟩
    have HLN : Hid (L.length < 1048576) := Lib.hid (by have := HW.out.2.2.2.2.2; omega)
    have HSB : Hid (¬ (sb < w3.heap.size ∧ (Value.slice ta L.length tc).ownBlock = some sb ∨ w3.heap.size ≤ sb)) := Lib.hid (fun h => h.elim (fun h => (HW.out.2.2.2.2.1 sb h.2).1 rfl) (fun h => by omega))
    clear hK3 f3 x0 x1 x2 x3 e0 e1 e2 e3 e4
    go_wp2_with (at_builtin; refine wpList_append_int (w1 := w3) rfl (.tmp 22) (.tmp 24) 39 rfl (fun b => b < w3.heap.size ∧ (Value.slice ta L.length tc).ownBlock = some b ∨ w3.heap.size ≤ b) i0 Try.underlying39 HI.out HZ.out HZ1.out HZ2.out _ L n rfl HII.out rfl HLN.out (fun b hb => .inr hb) rfl ?_; intro av2 cv2 w4 hI4 hf4; have I4 := Lib.hid hI4; have F4 := Lib.hid hf4; have p0 := hf4.cell HSB.out p0; have p1 := hf4.cell HSB.out p1; have p2 := hf4.frozen lsb4 HSB.out p2; clear hI4 hf4)
    go_ret
    have f5 : Fr (fun k => k = sb) w4 (w4.setCell ⟨sb, 1, none⟩ (.slice av2 (L.length + 1) cv2)) := Fr.setCell _ rfl
    have hz3 := F3.out.size
    have hz2 := Below.size F2.out
    have M4 : ∀ k, (k < w3.heap.size ∧ (Value.slice ta L.length tc).ownBlock = some k ∨ w3.heap.size ≤ k) → ¬ S k ∧ k ≠ mb ∧ k ≠ sb := fun k hk => by
      rcases hk with hk | hk
      · have := HW.out.2.2.2.2.1 k hk.2
        exact ⟨this.2.2, this.2.1, this.1⟩
      · exact ⟨fun h => by have := HB.out k h; omega, by omega, by omega⟩
    have hunb : unb (K.set n.toNat t) < unb K := unb_set (look_get HKM.out.2.1 HN.out) H0.out HK0.out
    refine ⟨rfl, .slice av2 (L.length + 1) cv2, ⟨⟨cell_off (by decide) p0, HW.out.1.2.1, hne, m2 + 1, by omega, ?_⟩, cell_same p1, by rw [World.frozen?_setCell]; exact p2, ?_, fun g hg => ?_, ?_⟩, fun g hg => ?_, ?_⟩
    · exact (K3.out.fr F4.out (fun k hk => ⟨(M4 k hk).1, (M4 k hk).2.1⟩)).fr f5 (fun k hk => by subst hk; exact ⟨HW.out.1.2.1, hne⟩)
    · have h4 := I4.out
      have hl4 : (L ++ [n]).length = L.length + 1 := by simp
      exact ⟨own_keep h4.1 f5 (fun g hg e => (M4 g (h4.2.1 g hg)).2.2 e), fun _ _ => trivial, h4.2.2⟩
    · have := M4 g (I4.out.2.1 g hg)
      exact ⟨this.2.2, this.2.1, this.1⟩
    · have := HW.out.2.2.2.2.2
      simp only [List.length_append, List.length_cons, List.length_nil]
      omega
    · rcases I4.out.2.1 g hg with h | h
      · exact .inl h.2
      · exact .inr (by omega)
    · have f : Fr (fun k => MT sb mb (.slice ta L.length tc) k ∨ w.heap.size ≤ k) w (w4.setCell ⟨sb, 1, none⟩ (.slice av2 (L.length + 1) cv2)) :=
        (((Fr.of_ext F2.out).trans (F3.out.mono (fun k _ h => .inl (.inr (.inl h))))).trans (F4.out.mono (fun k _ h => by
          rcases h with h | h
          · exact .inl (.inr (.inr h.2))
          · exact .inr (by omega)))).trans (f5.mono (fun k _ h => .inl (.inl h)))
      exact f.mono (fun k hk h => h.elim id (fun h => absurd hk (by omega)))
  · go_wp2_with fail
    go_ret
    refine ⟨rfl, _, ?_, fun g hg => .inl hg, Fr.of_ext F2.out⟩
    simpa using HW.out.ext F2.out
end Go.Proofs.Ytdelhgodhkbjdaa
