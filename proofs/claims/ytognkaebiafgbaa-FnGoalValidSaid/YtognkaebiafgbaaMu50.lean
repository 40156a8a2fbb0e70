/-
  The reference's DrawGoalValid.
-/
import Derived.Deep.AppendSrc
import Derived.Test.YtognkaebiafgbaaMu48
import Derived.Test.YtognkaebiafgbaaMu49
import Derived.Test.YtognkaebiafgbaaMu9
import Derived.Test.YtognkaebiafgbaaMu20
namespace Go.Proofs.Ytognkaebiafgbaa
open Go.RowKit
set_option linter.unusedVariables false
theorem row_cells4 {S : Nat → Prop} {w : World} {b : Nat} : ∀ (ts : List Tm) (off : Nat), Tm.row S w b off ts → ∃ xs, Tm.flat S w ts xs ∧ xs.length = ts.length * 4 ∧ (∀ j u, xs[j]? = some u → w.cell? ⟨b, off + j, none⟩ = some u) ∧ ∀ u ∈ xs, u.oneCell' = true
  | [], off, _ => ⟨[], rfl, rfl, fun j u h => by simp at h, fun u h => by simp at h⟩
  | t :: ts, off, h => by
    simp only [Tm.row] at h
    obtain ⟨xs, h1, h2, h3, h4⟩ := row_cells4 ts (off + 4) h.2
    obtain ⟨a, cap, c0, c1, c2, c3, hat⟩ := Tm.at_of_cells h.1
    refine ⟨tcells t a cap ++ xs, ⟨a, cap, xs, rfl, hat, h1⟩, by simp [tcells, h2]; omega, fun j u hj => ?_, fun u hu => ?_⟩
    · match j, hj with
      | 0, hj => simp [tcells] at hj; subst hj; exact c0
      | 1, hj => simp [tcells] at hj; subst hj; exact c1
      | 2, hj => simp [tcells] at hj; subst hj; exact c2
      | 3, hj => simp [tcells] at hj; subst hj; exact c3
      | j + 4, hj =>
        have := h3 j u (by simpa [tcells] using hj)
        rw [show off + (j + 4) = off + 4 + j by omega]
        exact this
    · rcases List.mem_append.1 hu with hu | hu
      · simp only [tcells, List.mem_cons, List.not_mem_nil, or_false] at hu
        rcases hu with rfl | rfl | rfl | rfl <;> rfl
      · exact h4 u hu
theorem step_append_run {P : Program} {ops : Array Oper} {o : Oper} {a : Act} {w : World} {K : Act → World → Prop} {Q : Exit → Act → World → Prop} {E : Prop}
    (hgd : o.guard = none) (s x : Operand) (t : TypeId)
    (ho : o.op = .call { callee := .builtin .append, args := #[s, x], argTypes := #[t, t] })
    (v vx : Value) (hs : a.eval s = v) (hx : a.eval x = vx) (v' : Value) (w' : World) (hr : (Builtin.append_ #[t, t] o.type #[v, vx]).run P w = .ok v' w')
    (h : K (a.put o.dst v') w') :
    if Region.wanted o (yielded ops a.tmps) = true then Oper.wp P o a w K Q else E := by
  have hw : Region.wanted o (yielded ops a.tmps) = true := by simp [Region.wanted, hgd]
  rw [if_pos hw]
  unfold Oper.wp execOp
  simp only [ho, resolve, invoke, builtin, Sem.run_bind, Sem.run_pure, Result.andThen_ok, List.map_toArray, List.map_cons, List.map_nil, hs, hx, hr]
  exact h
theorem append_list {P : Program} {w : World} {t tx ty : TypeId} {i : TypeInfo} (ht : P.underlying t = some (.slice 25)) (hi : P.info? 25 = some i) (hz : i.zero = some (.agg #[.int .i64 0, .int .i64 0, .string ⟨#[]⟩, .slice none 0 0])) (hsize : i.size = 4) (hby : i.bytes = 56)
    {nb n : Nat} {x0 : List Value} (hc0 : x0.length = 4) (hown : ∀ j u, x0[j]? = some u → w.cell? ⟨nb, j, none⟩ = some u) (x : Value) (news : List Value) (hs : Src P 4 tx x n news w) (hn : n ≤ 1048576) :
    ∃ g cap w', (Builtin.append_ #[t, tx] ty #[.slice (some ⟨nb, 0, none⟩) 1 1, x]).run P w = .ok (.slice (some ⟨g, 0, none⟩) (1 + n) cap) w' ∧ (g = nb ∨ w.heap.size ≤ g) ∧ Ext w w' ∧ ∀ j u, (x0 ++ news)[j]? = some u → w'.cell? ⟨g, j, none⟩ = some u := by
  have hs' : Src P i.size tx x n news w := by rw [hsize]; exact hs
  by_cases h0 : n = 0
  · subst h0
    have hnil : news = [] := List.eq_nil_of_length_eq_zero (by have := hs.newsLen; omega)
    subst hnil
    have hr := run_append_room_src (P := P) w t tx ty 25 i ht hi nb 0 1 1 x 0 [] hs' (by omega) (fun j hj => by simp at hj) (fun j hj => by simp at hj)
    exact ⟨nb, 1, _, hr, .inl rfl, Ext.refl _, fun j u h => hown j u (by simpa using h)⟩
  · have hr := run_append_grow_src (P := P) w t tx ty 25 i _ ht hi hz (some ⟨nb, 0, none⟩) 1 1 x0 (by
      refine run_firstCells_some _ _ _ _ _ _ x0 (by rw [hsize]; omega) (fun j u h => ?_)
      have := hown j u h
      rw [show (⟨nb, 0, none⟩ : Addr).add j = ⟨nb, 0 + j, none⟩ by unfold Addr.add; split <;> simp_all, Nat.zero_add]
      simpa using this) x n news hs' (by omega) (by omega) (growslice_fits (by omega) (by rw [hby]; omega))
    refine ⟨w.heap.size, _, _, hr, .inr (Nat.le_refl _), (Ext.drew _).trans (Ext.alloc _ _), fun j u h => ?_⟩
    obtain ⟨cs, hcs⟩ : ∃ cs, cs = ((x0 ++ news).toArray ++ Builtin.zeroCells (Value.agg #[.int .i64 0, .int .i64 0, .string ⟨#[]⟩, .slice none 0 0]).cells (grownCap w (1 + n) 1 25 - (1 + n))) := ⟨_, rfl⟩
    rw [← hcs]
    have := cell_new w.drew cs 25 j u (by
      obtain ⟨hj, hu⟩ := List.getElem?_eq_some_iff.1 h
      rw [hcs, Array.getElem?_append_left (by simpa using hj)]
      simpa using h)
    rw [Nat.zero_add] at this
    exact this
theorem row_cell {S : Nat → Prop} {w : World} {g k : Nat} {ts : List Tm} {t : Tm} (h : Tm.row S w g 0 ts) (ht : ts[k]? = some t) : ∃ a cap, w.cell? ⟨g, k * 4, none⟩ = some (.int .i64 t.kind) ∧ w.cell? ⟨g, k * 4 + 1, none⟩ = some (.int .i64 t.n) ∧ w.cell? ⟨g, k * 4 + 2, none⟩ = some (.string t.name) ∧
      w.cell? ⟨g, k * 4 + 3, none⟩ = some (.slice a t.kids.length cap) ∧ Tm.at S w t (.agg #[.int .i64 t.kind, .int .i64 t.n, .string t.name, .slice a t.kids.length cap]) := by
  have := Tm.at_of_cells (Tm.row_get h k t ht)
  rwa [Nat.zero_add] at this
structure GvM (W : World) (z r B : Nat) (c : Cl) (ah : Option Addr) (ch : Nat) (D : Nat → Prop) (vs : Nat → Value) (w : World) : Prop where
  fr : Fr (fun g => g = r ∨ g = B) W w
  own : D 3 → ¬ D 6 → ∃ nb, vs 3 = .slice (some ⟨nb, 0, none⟩) 1 1 ∧ W.heap.size ≤ nb ∧ ∀ j u, (tcells c.head ah ch)[j]? = some u → w.cell? ⟨nb, j, none⟩ = some u
  app : D 6 → ∃ g cp, vs 6 = .slice (some ⟨g, 0, none⟩) (c.body.length + 1) cp ∧ z ≤ g ∧ Tm.row (fun b => z ≤ b) w g 0 (c.head :: c.body)
  idx : D 13 → ∃ (g cp k : Nat) (t : Tm), vs 6 = .slice (some ⟨g, 0, none⟩) (c.body.length + 1) cp ∧ vs 13 = .pointer (some ⟨g, k * 4, none⟩) ∧ (c.head :: c.body)[k]? = some t
  ld : D 14 → ∃ t : Tm, Tm.at (fun b => z ≤ b) w t (vs 14)
  mu : D 15 → ∃ (t : Tm) (a5 : Option Addr) (c5 : Nat), vs 15 = .agg #[.int .i64 t.kind, .int .i64 t.n, .string t.name, .slice a5 t.kids.length c5] ∧ Tm.at (fun b => W.heap.size ≤ b) w t (vs 15)
structure GvR (r P B : Nat) (D : Nat → Prop) (vs : Nat → Value) (w : World) : Prop where
  bz : ¬ D 16 → BoxZ w B
  bx : D 16 → ∃ (t : Tm) (a5 : Option Addr) (c5 : Nat), vs 15 = .agg #[.int .i64 t.kind, .int .i64 t.n, .string t.name, .slice a5 t.kids.length c5] ∧ BoxT w B (.int .i64 t.kind) (.int .i64 t.n) (.string t.name) (.slice a5 t.kids.length c5)
  rd : ¬ D 15 → (¬ D 12 → Rd w r P) ∧ (D 12 → Rd w r (P + 1))
theorem GvM.carry {W : World} {z r B : Nat} {c : Cl} {ah : Option Addr} {ch : Nat} {D : Nat → Prop} {vs : Nat → Value} {w w' : World} (hr : r < z) (hB : B < z) (hz : z ≤ W.heap.size) (h : GvM W z r B c ah ch D vs w) (f : Fr (fun g => g = r ∨ g = B) w w') : GvM W z r B c ah ch D vs w' := by
  refine ⟨h.fr.trans f, fun h3 h6 => ?_, fun h6 => ?_, h.idx, fun h14 => ?_, fun h15 => ?_⟩
  · obtain ⟨nb, e, q, hc⟩ := h.own h3 h6
    exact ⟨nb, e, q, fun j u hj => f.cell (by omega) (hc j u hj)⟩
  · obtain ⟨g, cp, e, q, hr'⟩ := h.app h6
    exact ⟨g, cp, e, q, Tm.row_mono (fun _ h => h) (f.agree (S := fun b => z ≤ b) (fun k hk h => by omega)) (b' := 0) (fun o v hv => f.cell (by omega) hv) _ hr'⟩
  · obtain ⟨t, ht⟩ := h.ld h14
    exact ⟨t, f.at ht (fun k hk h => by omega)⟩
  · obtain ⟨t, a5, c5, e, ht⟩ := h.mu h15
    exact ⟨t, a5, c5, e, f.at ht (fun k hk h => by omega)⟩
theorem GvM.put {W : World} {z r B : Nat} {c : Cl} {ah : Option Addr} {ch : Nat} {D : Nat → Prop} {vs : Nat → Value} {w : World} {i : Nat} {v : Value} (h : GvM W z r B c ah ch D vs w) (h3 : 3 ≠ i) (h6 : 6 ≠ i) (h13 : 13 ≠ i) (h14 : 14 ≠ i) (h15 : 15 ≠ i) :
    GvM W z r B c ah ch (fun k => k = i ∨ D k) (fun k => if k = i then v else vs k) w := by
  refine ⟨h.fr, ?_, ?_, ?_, ?_, ?_⟩
  · rw [if_neg h3]; exact fun a b => h.own (a.resolve_left h3) (fun q => b (.inr q))
  · rw [if_neg h6]; exact fun a => h.app (a.resolve_left h6)
  · rw [if_neg h6, if_neg h13]; exact fun a => h.idx (a.resolve_left h13)
  · rw [if_neg h14]; exact fun a => h.ld (a.resolve_left h14)
  · rw [if_neg h15]; exact fun a => h.mu (a.resolve_left h15)
theorem GvR.put {r P B : Nat} {D : Nat → Prop} {vs : Nat → Value} {w : World} {i : Nat} {v : Value} (h : GvR r P B D vs w) (h12 : 12 ≠ i) (h15 : 15 ≠ i) (h16 : 16 ≠ i) : GvR r P B (fun k => k = i ∨ D k) (fun k => if k = i then v else vs k) w := by
  refine ⟨fun a => h.bz (fun q => a (.inr q)), ?_, fun a => ⟨fun b => (h.rd (fun q => a (.inr q))).1 (fun q => b (.inr q)), fun b => (h.rd (fun q => a (.inr q))).2 (b.resolve_left h12)⟩⟩
  rw [if_neg h15]; exact fun a => h.bx (a.resolve_left h16)
theorem GvR.ext {r P B : Nat} {D : Nat → Prop} {vs : Nat → Value} {w w' : World} (h : GvR r P B D vs w) (e : Ext w w') : GvR r P B D vs w' :=
  ⟨fun a => (h.bz a).ext e, fun a => let ⟨t, a5, c5, q1, q2⟩ := h.bx a; ⟨t, a5, c5, q1, q2.ext e⟩, fun a => ⟨fun b => ((h.rd a).1 b).ext e, fun b => ((h.rd a).2 b).ext e⟩⟩
def GvΦ (r O : Nat) (c : Cl) (ah ab : Option Addr) (ch cb : Nat) (i : Nat) (v : Value) (w : World) : Prop :=
  match i with
  | 0 => v = (.pointer (some ⟨r, 0, none⟩))
  | 1 => v = (.pointer (some ⟨O, 0, none⟩))
  | 2 => v = (.agg #[.int .i64 c.head.kind, .int .i64 c.head.n, .string c.head.name, .slice ah c.head.kids.length ch])
  | 4 => v = (.pointer (some ⟨O, 4, none⟩))
  | 5 => v = (.slice ab c.body.length cb)
  | 7 => v = (.pointer (some ⟨r, 0, none⟩))
  | 8 => v = (.pointer (some ⟨O, 4, none⟩))
  | 9 => v = (.slice ab c.body.length cb)
  | 10 => v = .int .i64 c.body.length
  | 11 => v = .int .i64 ((c.body.length : Int) + 1)
  | 12 => ∃ k : Nat, k < c.body.length + 1 ∧ v = .int .i64 k
  | _ => True
theorem GvΦ.all {r O : Nat} {c : Cl} {ah ab : Option Addr} {ch cb : Nat} {i : Nat} {v : Value} {w w' : World} (h : GvΦ r O c ah ab ch cb i v w) : GvΦ r O c ah ab ch cb i v w' := h
theorem fr_out9 {w w' : World} (f : Fr (fun b => w.heap.size ≤ b) w w') : Ext w w' := f.toExt (fun q hq h => by omega)
set_option maxRecDepth 100000 in
set_option maxHeartbeats 8000000 in
theorem drawGoalValid (v : Value) (w : World) (hv : BytesAt w v) : Calls Try.prog 4 #[v] w (TmOut w) := by
  obtain ⟨W0, hW0⟩ : ∃ z, z = w.alloc (.cells #[.int .i64 0, .int .i64 0, .string ⟨#[]⟩, .slice none 0 0] 25) := ⟨_, rfl⟩
  have hE0 : Ext w W0 := by rw [hW0]; exact Ext.alloc _ _
  have hB0 : BoxZ W0 w.heap.size := by rw [hW0]; exact BoxT.new _ _ _ _ _ 25 rfl
  have s0 : W0.heap.size = w.heap.size + 1 := by rw [hW0]; simp
  have HO := Lib.hid (specl18Open v W0 (hv.ext hE0))
  have E0 := Lib.hid hE0
  have B0 := Lib.hid hB0
  obtain ⟨i0, hi, hz0, hz1, hz2⟩ := info_parts info_term3
  have HI := Lib.hid hi
  have HZ := Lib.hid hz0
  have HZ1 := Lib.hid hz1
  have HZ2 := Lib.hid hz2
  obtain ⟨a, len, cap, rfl, _⟩ := hv
  clear hE0 hB0 hi hz0 hz1 hz2
  go_enter Try.func4, Try.ntmps4
  go_upto_region 1 with (fail)
  rw [← hW0]
  clear hW0
  go_wp2_with fail
  refine HO.out.mono ?_
  rintro e w1 ⟨r, rfl, hr0, hr1, e1⟩
  have E1 := Lib.hid (E0.out.trans e1)
  have B1 := Lib.hid (B0.out.ext e1)
  have R1 := Lib.hid hr1
  have s1 := Below.size e1
  have rl := hr1.lt
  clear e1 hr1
  go_wp2_with fail
  refine (rdpick r 0 2 _ (by omega) (by decide) (by decide) R1.out).mono ?_
  rintro e w2 ⟨x, rfl, hx0, hx1, hr2, e2⟩
  have R2 := Lib.hid hr2
  have E2 := Lib.hid e2
  have B2 := Lib.hid (B1.out.extR e2 (by omega))
  have s2 := e2.1.size
  clear hr2 e2
  obtain rfl | rfl : x = 0 ∨ x = 1 := by omega
  · go_wp2_with fail
    refine (specl4Clause r (0 + 1) _ (by omega) R2.out).mono ?_
    rintro e w3 ⟨c, v3, P, rfl, hk, hat, hr3, hP, e3⟩
    obtain ⟨ah, ch, ab, cb, rfl, hh3, hb3⟩ := Cl.form hat
    have e34 := e3.trans (ExtR.of_ext (r := r) (Ext.alloc w3 (.cells #[.int .i64 c.head.kind, .int .i64 c.head.n, .string c.head.name, .slice ah c.head.kids.length ch, .slice ab c.body.length cb] 33)))
    have E3 := Lib.hid (E2.out.trans e34)
    have B3 := Lib.hid (B2.out.extR e34 (by omega))
    have C3 := Lib.hid (BoxC.new w3 (.int .i64 c.head.kind) (.int .i64 c.head.n) (.string c.head.name) (.slice ah c.head.kids.length ch) (.slice ab c.body.length cb) 33 rfl)
    have H3 := Lib.hid (Tm.at_ext (Ext.alloc w3 (.cells #[.int .i64 c.head.kind, .int .i64 c.head.n, .string c.head.name, .slice ah c.head.kids.length ch, .slice ab c.body.length cb] 33)) hh3)
    have D3 := Lib.hid (Tm.sl_ext (Ext.alloc w3 (.cells #[.int .i64 c.head.kind, .int .i64 c.head.n, .string c.head.name, .slice ah c.head.kids.length ch, .slice ab c.body.length cb] 33)) hb3)
    have R3 := Lib.hid (hr3.ext (Ext.alloc w3 (.cells #[.int .i64 c.head.kind, .int .i64 c.head.n, .string c.head.name, .slice ah c.head.kids.length ch, .slice ab c.body.length cb] 33)))
    have s3 := e3.1.size
    have s4 : (w3.alloc (.cells #[.int .i64 c.head.kind, .int .i64 c.head.n, .string c.head.name, .slice ah c.head.kids.length ch, .slice ab c.body.length cb] 33)).heap.size = w3.heap.size + 1 := by simp
    clear e3 e34 hat hh3 hb3 hr3
    go_upto_region 4 with (fail)
    obtain ⟨W, hW⟩ : ∃ z, z = w3.alloc (.cells #[.int .i64 c.head.kind, .int .i64 c.head.n, .string c.head.name, .slice ah c.head.kids.length ch, .slice ab c.body.length cb] 33) := ⟨_, rfl⟩
    rw [← hW] at E3 B3 C3 H3 D3 R3 s4 ⊢
    clear hW
    obtain ⟨O, hO⟩ : ∃ O, O = w3.heap.size := ⟨_, rfl⟩
    rw [← hO] at C3 s4 s3 ⊢
    clear hO
    have hrz : r < w2.heap.size := by omega
    have hBz : w.heap.size < w2.heap.size := by omega
    have hzW : w2.heap.size ≤ W.heap.size := by omega
    have nOr : O ≠ r := by omega
    have nOB : O ≠ w.heap.size := by omega
    obtain ⟨z, hz⟩ : ∃ z, z = w2.heap.size := ⟨_, rfl⟩
    rw [← hz] at hrz hBz hzW H3 D3
    have hzO : z ≤ O := by omega
    obtain ⟨B, hB⟩ : ∃ B, B = w.heap.size := ⟨_, rfl⟩
    have hBw : w.heap.size ≤ B := by omega
    rw [← hB] at B3 hBz nOB ⊢
    have nBr : B ≠ r := by omega
    clear hB hz
    go_wp2_with fail
    refine wp_region_relies (by kernel_rfl) (by kernel_rfl) (by kernel_rfl) (fun D vs w' => GvM W z r B c ah ch D vs w' ∧ GvR r P B D vs w') (GvΦ r O c ah ab ch cb) ?hg ?hs ?he
    case hg => exact ⟨⟨Fr.of_ext (Ext.drew _), fun h => h.elim, fun h => h.elim, fun h => h.elim, fun h => h.elim, fun h => h.elim⟩, ⟨fun _ => B3.out.ext (Ext.drew _), fun h => h.elim, fun _ => ⟨fun _ => R3.out.ext (Ext.drew _), fun h => h.elim⟩⟩⟩
    case hs =>
      refine .cons ?h0 (.cons ?h1 (.cons ?h2 (.cons ?h3 (.cons ?h4 (.cons ?h5 (.cons ?h6 (.cons ?h7 (.cons ?h8 (.cons ?h9 (.cons ?h10 (.cons ?h11 (.cons ?h12 (.cons ?h13 (.cons ?h14 (.cons ?h15 (.cons ?h16 .nil))))))))))))))))
      case h0 =>
        intro A D vs w5 old dep hnd hcl hlt hG K hK
        have s3 := old 3 (by kernel_rfl)
        simp only [List.getElem?_toArray, List.getElem?_cons_succ, List.getElem?_cons_zero] at s3
        go_simp
        exact hK _ _ ⟨hG.1.put (by decide) (by decide) (by decide) (by decide) (by decide), hG.2.put (by decide) (by decide) (by decide)⟩ (fun _ _ _ h => GvΦ.all h) rfl
      case h1 =>
        intro A D vs w5 old dep hnd hcl hlt hG K hK
        have s4 := old 4 (by kernel_rfl)
        simp only [List.getElem?_toArray, List.getElem?_cons_succ, List.getElem?_cons_zero] at s4
        go_simp
        exact hK _ _ ⟨hG.1.put (by decide) (by decide) (by decide) (by decide) (by decide), hG.2.put (by decide) (by decide) (by decide)⟩ (fun _ _ _ h => GvΦ.all h) rfl
      case h2 =>
        intro A D vs w5 old dep hnd hcl hlt hG K hK
        obtain ⟨_, e1, t1⟩ := dep 1 (by kernel_rfl)
        replace t1 := t1 13 (by kernel_rfl) (by simp)
        replace e1 : vs 1 = (.pointer (some ⟨O, 0, none⟩)) := e1
        rw [e1] at t1
        obtain ⟨q0, q1, q2, q3, q4, _⟩ := C3.out
        have y0 := hG.1.fr.cell (k := O) (by omega) q0
        have y1 := hG.1.fr.cell (k := O) (by omega) q1
        have y2 := hG.1.fr.cell (k := O) (by omega) q2
        have y3 := hG.1.fr.cell (k := O) (by omega) q3
        go_simp
        exact hK _ _ ⟨hG.1.put (by decide) (by decide) (by decide) (by decide) (by decide), hG.2.put (by decide) (by decide) (by decide)⟩ (fun _ _ _ h => GvΦ.all h) rfl
      case h3 =>
        intro A D vs w5 old dep hnd hcl hlt hG K hK
        obtain ⟨_, e2, t2⟩ := dep 2 (by kernel_rfl)
        replace t2 := t2 14 (by kernel_rfl) (by simp)
        replace e2 : vs 2 = (.agg #[.int .i64 c.head.kind, .int .i64 c.head.n, .string c.head.name, .slice ah c.head.kids.length ch]) := e2
        rw [e2] at t2
        go_simp
        have ea := Ext.alloc w5 (.cells #[.int .i64 c.head.kind, .int .i64 c.head.n, .string c.head.name, .slice ah c.head.kids.length ch] 25)
        have hM := hG.1.carry hrz hBz hzW (Fr.of_ext ea)
        refine hK _ _ ⟨⟨hM.fr, fun _ _ => ⟨w5.heap.size, rfl, hG.1.fr.size, fun j u h => by have hq := cell_new w5 #[.int .i64 c.head.kind, .int .i64 c.head.n, .string c.head.name, .slice ah c.head.kids.length ch] 25 j u (by simpa [tcells] using h); rwa [Nat.zero_add] at hq⟩, fun h => hM.app (h.resolve_left (by decide)), fun h => hM.idx (h.resolve_left (by decide)), fun h => hM.ld (h.resolve_left (by decide)), fun h => hM.mu (h.resolve_left (by decide))⟩, (hG.2.ext ea).put (by decide) (by decide) (by decide)⟩ (fun _ _ _ h => GvΦ.all h) trivial
      case h4 =>
        intro A D vs w5 old dep hnd hcl hlt hG K hK
        have s4 := old 4 (by kernel_rfl)
        simp only [List.getElem?_toArray, List.getElem?_cons_succ, List.getElem?_cons_zero] at s4
        go_simp
        exact hK _ _ ⟨hG.1.put (by decide) (by decide) (by decide) (by decide) (by decide), hG.2.put (by decide) (by decide) (by decide)⟩ (fun _ _ _ h => GvΦ.all h) rfl
      case h5 =>
        intro A D vs w5 old dep hnd hcl hlt hG K hK
        obtain ⟨_, e4, t4⟩ := dep 4 (by kernel_rfl)
        replace t4 := t4 16 (by kernel_rfl) (by simp)
        replace e4 : vs 4 = (.pointer (some ⟨O, 4, none⟩)) := e4
        rw [e4] at t4
        obtain ⟨q0, q1, q2, q3, q4, _⟩ := C3.out
        have y4 := hG.1.fr.cell (k := O) (by omega) q4
        go_simp
        exact hK _ _ ⟨hG.1.put (by decide) (by decide) (by decide) (by decide) (by decide), hG.2.put (by decide) (by decide) (by decide)⟩ (fun _ _ _ h => GvΦ.all h) rfl
      case h6 =>
        intro A D vs w5 old dep hnd hcl hlt hG K hK
        obtain ⟨d3, _, t3⟩ := dep 3 (by kernel_rfl)
        replace t3 := t3 15 (by kernel_rfl) (by simp)
        obtain ⟨_, e5, t5⟩ := dep 5 (by kernel_rfl)
        replace t5 := t5 17 (by kernel_rfl) (by simp)
        replace e5 : vs 5 = (.slice ab c.body.length cb) := e5
        rw [e5] at t5
        obtain ⟨nb, e3, hnb, hcells⟩ := hG.1.own d3 hnd
        rw [e3] at t3
        have hbody := hG.1.fr.sl D3.out (fun k hk h => by omega)
        have hhead := hG.1.fr.at H3.out (fun k hk h => by omega)
        obtain ⟨news, hfl, hsrc, hbl⟩ : ∃ news, Tm.flat (fun b => z ≤ b) w5 c.body news ∧ Src Try.prog 4 23 (.slice ab c.body.length cb) c.body.length news w5 ∧ c.body.length ≤ 1048576 := by
          obtain ⟨aa, cc, hq, q1, q2, q3, q4⟩ := hbody
          simp only [Value.slice.injEq, true_and] at hq
          obtain ⟨rfl, rfl⟩ := hq
          rcases q4 with q4 | ⟨bb, off, rfl, q5, q6⟩
          · cases ab with
            | none =>
              refine ⟨[], by rw [q4]; rfl, ?_, q3⟩
              rw [q4]
              exact Src.ofNil w5 Try.underlying23 cb
            | some ad =>
              refine ⟨[], by rw [q4]; rfl, ?_, q3⟩
              rw [q4]
              exact Src.ofSlice w5 Try.underlying23 ad 0 cb [] rfl (fun j u h => by simp at h) (fun u h => by simp at h)
          · obtain ⟨news, n1, n2, n3, n4⟩ := row_cells4 _ _ q6
            refine ⟨news, n1, Src.ofSlice w5 Try.underlying23 ⟨bb, off, none⟩ _ cb news n2 (fun j u h => ?_) n4, q3⟩
            have := n3 j u h
            rwa [show (⟨bb, off, none⟩ : Addr).add j = ⟨bb, off + j, none⟩ by unfold Addr.add; split <;> simp_all]
        obtain ⟨g, cp, w6, hrun, hg, e6, hrow6⟩ := append_list (ty := 23) (t := 23) Try.underlying23 HI.out HZ.out HZ1.out HZ2.out (nb := nb) (by rfl) hcells _ _ hsrc hbl
        have hzg : z ≤ g := by rcases hg with rfl | hg; · omega
                               · have := hG.1.fr.size; omega
        refine step_append_run rfl (.tmp 15) (.tmp 17) 23 rfl _ _ (by simp [Act.eval, t3]) (by simp [Act.eval, t5]) _ _ hrun ?_
        have hM := hG.1.carry hrz hBz hzW (Fr.of_ext e6)
        refine hK _ _ ⟨⟨hM.fr, fun _ b => absurd (.inl rfl) b, fun _ => ⟨g, cp, by rw [Nat.add_comm c.body.length 1]; rfl, hzg, ?_⟩, fun h => absurd (hcl 13 6 (h.resolve_left (by decide)) (by kernel_rfl)) hnd, fun h => hM.ld (h.resolve_left (by decide)), fun h => hM.mu (h.resolve_left (by decide))⟩, (hG.2.ext e6).put (by decide) (by decide) (by decide)⟩ (fun _ _ _ h => GvΦ.all h) trivial
        refine flat_row (xs := tcells c.head ah ch ++ news) ⟨ah, ch, news, rfl, Tm.at_ext e6 hhead, flat_mono (fun _ h => h) (Agree.of_ext e6) hfl⟩ (fun j hj => ?_)
        rw [Nat.zero_add, hrow6 j _ (List.getElem?_eq_getElem hj), List.getElem?_eq_getElem hj]
      case h7 =>
        intro A D vs w5 old dep hnd hcl hlt hG K hK
        have s3 := old 3 (by kernel_rfl)
        simp only [List.getElem?_toArray, List.getElem?_cons_succ, List.getElem?_cons_zero] at s3
        go_simp
        exact hK _ _ ⟨hG.1.put (by decide) (by decide) (by decide) (by decide) (by decide), hG.2.put (by decide) (by decide) (by decide)⟩ (fun _ _ _ h => GvΦ.all h) rfl
      case h8 =>
        intro A D vs w5 old dep hnd hcl hlt hG K hK
        have s4 := old 4 (by kernel_rfl)
        simp only [List.getElem?_toArray, List.getElem?_cons_succ, List.getElem?_cons_zero] at s4
        go_simp
        exact hK _ _ ⟨hG.1.put (by decide) (by decide) (by decide) (by decide) (by decide), hG.2.put (by decide) (by decide) (by decide)⟩ (fun _ _ _ h => GvΦ.all h) rfl
      case h9 =>
        intro A D vs w5 old dep hnd hcl hlt hG K hK
        obtain ⟨_, e8, t8⟩ := dep 8 (by kernel_rfl)
        replace t8 := t8 20 (by kernel_rfl) (by simp)
        replace e8 : vs 8 = (.pointer (some ⟨O, 4, none⟩)) := e8
        rw [e8] at t8
        obtain ⟨q0, q1, q2, q3, q4, _⟩ := C3.out
        have y4 := hG.1.fr.cell (k := O) (by omega) q4
        go_simp
        exact hK _ _ ⟨hG.1.put (by decide) (by decide) (by decide) (by decide) (by decide), hG.2.put (by decide) (by decide) (by decide)⟩ (fun _ _ _ h => GvΦ.all h) rfl
      case h10 =>
        intro A D vs w5 old dep hnd hcl hlt hG K hK
        obtain ⟨_, e9, t9⟩ := dep 9 (by kernel_rfl)
        replace t9 := t9 21 (by kernel_rfl) (by simp)
        replace e9 : vs 9 = (.slice ab c.body.length cb) := e9
        rw [e9] at t9
        go_simp
        exact hK _ _ ⟨hG.1.put (by decide) (by decide) (by decide) (by decide) (by decide), hG.2.put (by decide) (by decide) (by decide)⟩ (fun _ _ _ h => GvΦ.all h) rfl
      case h11 =>
        intro A D vs w5 old dep hnd hcl hlt hG K hK
        obtain ⟨_, e10, t10⟩ := dep 10 (by kernel_rfl)
        replace t10 := t10 22 (by kernel_rfl) (by simp)
        replace e10 : vs 10 = (.int .i64 c.body.length) := e10
        rw [e10] at t10
        have hw1 : IntKind.i64.wrap ((c.body.length : Int) + 1) = (c.body.length : Int) + 1 := IntWalk.i64_in _ (by omega)
        go_simp
        exact hK _ _ ⟨hG.1.put (by decide) (by decide) (by decide) (by decide) (by decide), hG.2.put (by decide) (by decide) (by decide)⟩ (fun _ _ _ h => GvΦ.all h) rfl
      case h12 =>
        intro A D vs w5 old dep hnd hcl hlt hG K hK
        obtain ⟨_, e7, t7⟩ := dep 7 (by kernel_rfl)
        replace t7 := t7 19 (by kernel_rfl) (by simp)
        replace e7 : vs 7 = (.pointer (some ⟨r, 0, none⟩)) := e7
        rw [e7] at t7
        obtain ⟨_, e11, t11⟩ := dep 11 (by kernel_rfl)
        replace t11 := t11 23 (by kernel_rfl) (by simp)
        replace e11 : vs 11 = (.int .i64 ((c.body.length : Int) + 1)) := e11
        rw [e11] at t11
        have hn15 : ¬ D 15 := fun h => hnd (hcl 13 12 (hcl 14 13 (hcl 15 14 h (by kernel_rfl)) (by kernel_rfl)) (by kernel_rfl))
        have hrd := (hG.2.rd hn15).1 hnd
        go_simp
        go_at_call 12
        refine (rdpick r P ((c.body.length : Int) + 1) _ (by omega) (by omega) (by omega) hrd).mono ?_
        rintro e w6 ⟨y, rfl, hy0, hy1, hr6, e6⟩
        obtain ⟨k, rfl⟩ := Int.eq_ofNat_of_zero_le hy0
        have f6 : Fr (fun g => g = r ∨ g = B) w5 w6 := Fr.of_extR e6 (.inl rfl)
        have hn16 : ¬ D 16 := fun h => hn15 (hcl 16 15 h (by kernel_rfl))
        exact hK _ _ ⟨(hG.1.carry hrz hBz hzW f6).put (by decide) (by decide) (by decide) (by decide) (by decide), ⟨fun _ => (hG.2.bz hn16).extR e6 (by omega), fun h => absurd (h.resolve_left (by decide)) hn16, fun _ => ⟨fun h => absurd (.inl rfl) h, fun _ => hr6⟩⟩⟩ (fun _ _ _ h => GvΦ.all h) ⟨k, by omega, rfl⟩
      case h13 =>
        intro A D vs w5 old dep hnd hcl hlt hG K hK
        obtain ⟨d6, _, t6⟩ := dep 6 (by kernel_rfl)
        replace t6 := t6 18 (by kernel_rfl) (by simp)
        obtain ⟨_, e12, t12⟩ := dep 12 (by kernel_rfl)
        replace t12 := t12 24 (by kernel_rfl) (by simp)
        obtain ⟨k, hk12, e12⟩ := e12
        replace e12 : vs 12 = .int .i64 k := e12
        rw [e12] at t12
        obtain ⟨g, cp, e6, hzg, hrow⟩ := hG.1.app d6
        rw [e6] at t6
        obtain ⟨t, ht⟩ : ∃ t, (c.head :: c.body)[k]? = some t := ⟨_, List.getElem?_eq_getElem (by simp only [List.length_cons]; omega)⟩
        have hk13 : (k : Int) < (c.body.length : Int) + 1 := by omega
        go_simp
        exact hK _ _ ⟨⟨hG.1.fr, fun a b => hG.1.own (a.resolve_left (by decide)) (fun q => b (.inr q)), fun a => hG.1.app (a.resolve_left (by decide)), fun _ => ⟨g, cp, k, t, e6, rfl, ht⟩, fun a => hG.1.ld (a.resolve_left (by decide)), fun a => hG.1.mu (a.resolve_left (by decide))⟩, hG.2.put (by decide) (by decide) (by decide)⟩ (fun _ _ _ h => GvΦ.all h) trivial
      case h14 =>
        intro A D vs w5 old dep hnd hcl hlt hG K hK
        obtain ⟨d13, _, t13⟩ := dep 13 (by kernel_rfl)
        replace t13 := t13 25 (by kernel_rfl) (by simp)
        obtain ⟨g, cp, k, t, e6, e13, ht⟩ := hG.1.idx d13
        rw [e13] at t13
        obtain ⟨g', cp', e6', hzg, hrow⟩ := hG.1.app (hcl 13 6 d13 (by kernel_rfl))
        rw [e6] at e6'
        simp only [Value.slice.injEq, Option.some.injEq, Addr.mk.injEq, and_true, true_and] at e6'
        obtain ⟨rfl, rfl⟩ := e6'
        obtain ⟨at', ct', y0, y1, y2, y3, hat⟩ := row_cell hrow ht
        go_simp
        exact hK _ _ ⟨⟨hG.1.fr, fun a b => hG.1.own (a.resolve_left (by decide)) (fun q => b (.inr q)), fun a => hG.1.app (a.resolve_left (by decide)), fun a => hG.1.idx (a.resolve_left (by decide)), fun _ => ⟨t, hat⟩, fun a => hG.1.mu (a.resolve_left (by decide))⟩, hG.2.put (by decide) (by decide) (by decide)⟩ (fun _ _ _ h => GvΦ.all h) trivial
      case h15 =>
        intro A D vs w5 old dep hnd hcl hlt hG K hK
        obtain ⟨_, e0, t0⟩ := dep 0 (by kernel_rfl)
        replace t0 := t0 12 (by kernel_rfl) (by simp)
        replace e0 : vs 0 = (.pointer (some ⟨r, 0, none⟩)) := e0
        rw [e0] at t0
        obtain ⟨d14, _, t14⟩ := dep 14 (by kernel_rfl)
        replace t14 := t14 26 (by kernel_rfl) (by simp)
        obtain ⟨t, hat⟩ := hG.1.ld d14
        obtain ⟨v14, hv14⟩ : ∃ v, vs 14 = v := ⟨_, rfl⟩
        rw [hv14] at t14 hat
        have hrd := (hG.2.rd hnd).2 (hcl 13 12 (hcl 14 13 d14 (by kernel_rfl)) (by kernel_rfl))
        have hn16 : ¬ D 16 := fun h => hnd (hcl 16 15 h (by kernel_rfl))
        go_simp
        go_at_call 14
        refine (specl1Mutate r (P + 1) t v14 _ w5 (by omega) hrd hat).mono ?_
        rintro e w6 ⟨u, v6, p6, rfl, hv6, _, hr6, hp6, e6⟩
        obtain ⟨a6, c6, rfl⟩ := at_form hv6
        have f6 : Fr (fun g => g = r ∨ g = B) w5 w6 := Fr.of_extR e6 (.inl rfl)
        have hM := hG.1.carry hrz hBz hzW f6
        exact hK _ _ ⟨⟨hM.fr, fun a b => hM.own (a.resolve_left (by decide)) (fun q => b (.inr q)), fun a => hM.app (a.resolve_left (by decide)), fun a => hM.idx (a.resolve_left (by decide)), fun a => hM.ld (a.resolve_left (by decide)), fun _ => ⟨u, a6, c6, rfl, Tm.at_mono (fun b hb => Nat.le_trans hG.1.fr.size hb) (Agree.refl _) hv6⟩⟩, ⟨fun _ => (hG.2.bz hn16).extR e6 (by omega), fun h => absurd (h.resolve_left (by decide)) hn16, fun h => absurd (.inl rfl) h⟩⟩ (fun _ _ _ h => GvΦ.all h) trivial
      case h16 =>
        intro A D vs w5 old dep hnd hcl hlt hG K hK
        obtain ⟨d15, _, t15⟩ := dep 15 (by kernel_rfl)
        replace t15 := t15 27 (by kernel_rfl) (by simp)
        obtain ⟨u, a6, c6, e15, hat⟩ := hG.1.mu d15
        rw [e15] at t15
        have hbz := hG.2.bz hnd
        obtain ⟨y0, y1, y2, y3, f0, f1, f2, f3⟩ := hbz
        have s2 := old 2 (by kernel_rfl)
        simp only [List.getElem?_toArray, List.getElem?_cons_succ, List.getElem?_cons_zero] at s2
        go_simp
        have f6 := put4_frw (M := fun g => g = r ∨ g = B) w5 (b := B) (.int .i64 u.kind) (.int .i64 u.n) (.string u.name) (.slice a6 u.kids.length c6) (.inr rfl)
        exact hK undef _ ⟨(hG.1.carry hrz hBz hzW f6).put (by decide) (by decide) (by decide) (by decide) (by decide), ⟨fun h => absurd (.inl rfl) h, fun _ => ⟨u, a6, c6, e15, BoxT.put4 (hG.2.bz hnd) _ _ _ _⟩, fun h => absurd (.inr d15) h⟩⟩ (fun _ _ _ h => GvΦ.all h) trivial
    case he =>
      intro D vs w9 hD hG hφ
      obtain ⟨t, a5, c5, e15, bx⟩ := hG.2.bx (hD 16 (by show 16 < 17; decide))
      obtain ⟨t', a5', c5', e15', ht⟩ := hG.1.mu (hD 15 (by show 15 < 17; decide))
      rw [e15] at ht
      have fr := hG.1.fr
      simp only [putO, Act.put, List.setIfInBounds_toArray, List.set_cons_zero, List.set_cons_succ]
      clear hD hG hφ
      obtain ⟨g0, g1, g2, g3, _⟩ := bx
      go_wp2_with fail
      refine ret4 (p := 2) (T := 25) (b := B) (by kernel_rfl) (fun _ => by kernel_rfl) (fun _ => by kernel_rfl) rfl rfl g0 g1 g2 g3 ?_
      refine ⟨t', _, rfl, Tm.at_mono (S := fun b => W.heap.size ≤ b) (fun b hb => by omega) (Agree.refl _) ?_, ?_⟩
      · exact ht
      · exact fr_out9 ((Fr.of_ext E1.out).trans ((Fr.of_extR E3.out (by show w.heap.size ≤ r; omega)).trans (fr.mono (fun k _ h => by show w.heap.size ≤ k; omega))))
  · go_wp2_with fail
    refine (specl1Some r (0 + 1) _ (by omega) R2.out).mono ?_
    rintro e w3 ⟨t, v2, p2, rfl, hv2, _, hr3, hp2, e3⟩
    have R3 := Lib.hid hr3
    have V3 := Lib.hid hv2
    have E3 := Lib.hid (E2.out.trans e3)
    have B3 := Lib.hid (B2.out.extR e3 (by omega))
    have s3 := e3.1.size
    clear hr3 e3 hv2
    go_wp2_with fail
    refine (specl1Mutate r p2 t v2 _ _ (by omega) R3.out V3.out).mono ?_
    rintro e w4 ⟨u, v4, p3, rfl, hv3, _, hr4, hp3, e4⟩
    obtain ⟨a3, c3, rfl⟩ := at_form hv3
    have V4 := Lib.hid hv3
    have E4 := Lib.hid (E3.out.trans e4)
    have BF := B3.out.extR e4 (by omega)
    obtain ⟨g0, g1, g2, g3, z0, z1, z2, z3⟩ := BF
    clear hr4 e4 hv3
    go_wp2_with fail
    refine ret4_set (p := 2) (T := 25) (b := w.heap.size) (by kernel_rfl) (fun _ => by kernel_rfl) (fun _ => by kernel_rfl) rfl rfl g0 g1 g2 g3 ?_
    intro X hX
    exact out_end (Nat.le_refl _) hX (fr_out9 ((Fr.of_ext E1.out).trans (Fr.of_extR E4.out (by show w.heap.size ≤ r; omega)))) (Tm.at_mono (fun b h => by omega) (Agree.refl _) V4.out)
end Go.Proofs.Ytognkaebiafgbaa
