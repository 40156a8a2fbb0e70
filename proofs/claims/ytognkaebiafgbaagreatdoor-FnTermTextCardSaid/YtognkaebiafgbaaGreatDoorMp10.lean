/-
  The reference's draws of terms (begun): l1Var, l1Int.
-/
import Derived.Deep.RegionLaw
import Derived.Test.YtognkaebiafgbaaGreatDoorMp4
import Derived.Test.YtognkaebiafgbaaGreatDoorMp2
import Derived.Test.YtognkaebiafgbaaGreatDoorMp9
namespace Go.Proofs.YtognkaebiafgbaaGreatDoor
open Go.RowKit
set_option linter.unusedVariables false

set_option maxHeartbeats 1000000 in
theorem specl1Var (n : Int) (w : World) : Calls Tryz.prog 125 #[.int .i64 n] w fun e w' => ∃ v, e = .returned v ∧ (∀ S, Tm.at S w' (.mk 1 n ⟨#[]⟩ []) v) ∧ Ext w w' := by
  go_enter Tryz.func125, Tryz.ntmps125
  go_wp2_with fail
  refine ret4 (p := 2) (T := 25) (v0 := .int .i64 1) (v1 := .int .i64 n) (v2 := .string ⟨#[]⟩) (v3 := .slice none 0 0) (by kernel_rfl) (fun _ => by kernel_rfl) (fun _ => by kernel_rfl) rfl rfl (by go_simp) (by go_simp) (by go_simp) (by go_simp) ?_
  exact ⟨_, rfl, fun S => Tm.at_iff.2 ⟨by show (⟨#[]⟩ : ByteArray).size ≤ 1048576; decide, _, rfl, none, 0, by simp [Tm.kids], by simp [Tm.kids], by omega, by simp [Tm.kids], .inl rfl⟩, Ext.alloc _ _⟩
set_option maxHeartbeats 1000000 in
theorem specl1Int (n : Int) (w : World) : Calls Tryz.prog 149 #[.int .i64 n] w fun e w' => ∃ v, e = .returned v ∧ (∀ S, Tm.at S w' (.mk 2 n ⟨#[]⟩ []) v) ∧ Ext w w' := by
  go_enter Tryz.func149, Tryz.ntmps149
  go_wp2_with fail
  refine ret4 (p := 2) (T := 25) (v0 := .int .i64 2) (v1 := .int .i64 n) (v2 := .string ⟨#[]⟩) (v3 := .slice none 0 0) (by kernel_rfl) (fun _ => by kernel_rfl) (fun _ => by kernel_rfl) rfl rfl (by go_simp) (by go_simp) (by go_simp) (by go_simp) ?_
  exact ⟨_, rfl, fun S => Tm.at_iff.2 ⟨by show (⟨#[]⟩ : ByteArray).size ≤ 1048576; decide, _, rfl, none, 0, by simp [Tm.kids], by simp [Tm.kids], by omega, by simp [Tm.kids], .inl rfl⟩, Ext.alloc _ _⟩

theorem info_term2 : (Tryz.prog.info? 25).map (fun i => (i.zero, i.size, i.bytes)) = some (some (.agg #[.int .i64 0, .int .i64 0, .string ⟨#[]⟩, .slice none 0 0]), 4, 56) := by kernel_rfl
set_option maxHeartbeats 1000000 in
theorem specl1Struct0 (s : ByteArray) (w : World) (hs : s.size ≤ 1048576) : Calls Tryz.prog 117 #[.string s, .slice none 0 0] w fun e w' => ∃ v, e = .returned v ∧ (∀ S, Tm.at S w' (.mk 3 0 s []) v) ∧ Ext w w' := by
  go_enter Tryz.func117, Tryz.ntmps117
  go_wp2_with fail
  refine ret4 (p := 4) (T := 25) (v0 := .int .i64 3) (v1 := .int .i64 0) (v2 := .string s) (v3 := .slice (some ⟨w.heap.size + 1, 0, none⟩) 0 0) (by kernel_rfl) (fun _ => by kernel_rfl) (fun _ => by kernel_rfl) rfl rfl (by go_simp) (by go_simp) (by go_simp) (by go_simp) ?_
  exact ⟨_, rfl, fun S => Tm.at_iff.2 ⟨hs, _, rfl, some ⟨w.heap.size + 1, 0, none⟩, 0, by simp [Tm.kids], by simp [Tm.kids], by omega, by simp [Tm.kids], .inl rfl⟩, (Ext.alloc _ _).trans (Ext.alloc _ _)⟩

end Go.Proofs.YtognkaebiafgbaaGreatDoor

/-
  append by whatever source inside a region that draws its order: the step law (after wpList_append_fresh).
-/
namespace Go.Proofs.YtognkaebiafgbaaGreatDoor
open Go.RowKit
set_option linter.unusedVariables false

theorem step_append_fresh {P : Program} {ops : Array Oper} {o : Oper} {a : Act} {w : World} {K : Act → World → Prop} {Q : Exit → Act → World → Prop} {E : Prop}
    (hgd : o.guard = none) (s x : Operand) (t : TypeId)
    (ho : o.op = .call { callee := .builtin .append, args := #[s, x], argTypes := #[t, t] })
    (base : Nat) (e : TypeId) (i : TypeInfo) (z : Value) (size bytes : Nat) (ht : P.underlying t = some (.slice e)) (hi : P.info? e = some i) (hz : i.zero = some z)
    (hsize : i.size = size) (hby : i.bytes = bytes) (hzs : z.cells.size = size) (hsz : 0 < size)
    (v : Value) (n : Nat) (xs : List Value) (hs : a.eval s = v) (hown : w.ownsRow base e size v n xs)
    (ad : Addr) (m c : Nat) (news : List Value) (hx : a.eval x = .slice (some ad) m c) (hl : news.length = m * size) (hnews : ∀ j u, news[j]? = some u → w.cell? (ad.add j) = some u) (h1 : ∀ u ∈ news, u.oneCell' = true)
    (h63 : n + m ≤ maxLen) (hbytes : (n + m) * bytes ≤ 140737488355328) (hbase : base ≤ w.heap.size)
    (h : ∀ v' w', w'.ownsRow base e size v' (n + m) (xs ++ news) → w.grownBy w' v.ownBlock → (∀ g, v'.ownBlock = some g → v.ownBlock = some g ∨ w.heap.size ≤ g) → K (a.put o.dst v') w') :
    if Region.wanted o (yielded ops a.tmps) = true then Oper.wp P o a w K Q else E := by
  have hw : Region.wanted o (yielded ops a.tmps) = true := by simp [Region.wanted, hgd]
  rw [if_pos hw]
  obtain ⟨v', w', hr, h2, h3, h4⟩ := run_append_own (P := P) w base t o.type e i z size bytes ht hi hz hsize hby hzs hsz v n xs hown ad m c news hl hnews h1 h63 hbytes hbase
  have h5 := append_fresh base t o.type e i z size bytes ht hi hz hsize hby hzs hsz v n xs hown ad m c news hl hnews h1 h63 hbytes hbase v' w' hr
  unfold Oper.wp execOp
  simp only [ho, resolve, invoke, builtin, Sem.run_bind, Sem.run_pure, Result.andThen_ok, List.map_toArray, List.map_cons, List.map_nil, hs, hx, hr]
  exact h v' w' h2 h3 h5

end Go.Proofs.YtognkaebiafgbaaGreatDoor

/-
  Small laws on rows that a call owns, used by all functions that append terms.
-/
namespace Go.Proofs.YtognkaebiafgbaaGreatDoor
open Go.RowKit
set_option linter.unusedVariables false

theorem info_term3 : (Tryz.prog.info? 25).map (fun i => (i.zero, i.size, i.bytes)) = some (some (.agg #[.int .i64 0, .int .i64 0, .string ⟨#[]⟩, .slice none 0 0]), 4, 56) := by kernel_rfl

theorem cell_four (w : World) (t : Tm) (T : Nat) {a : Option Addr} {c : Nat} (j : Nat) (u : Value) (h : (tcells t a c)[j]? = some u) :
    (w.alloc (.cells #[.int .i64 t.kind, .int .i64 t.n, .string t.name, .slice a t.kids.length c] T)).cell? ((⟨w.heap.size, 0, none⟩ : Addr).add j) = some u := by
  rw [show (⟨w.heap.size, 0, none⟩ : Addr).add j = ⟨w.heap.size, 0 + j, none⟩ by unfold Addr.add; split <;> simp_all]
  exact cell_new _ _ _ _ _ (by simpa [tcells] using h)
theorem own_form {w : World} {base e size n : Nat} {v : Value} {xs : List Value} (h : w.ownsRow base e size v n xs) : ∃ a c, v = .slice a n c := by
  rcases h.2 with ⟨rfl, rfl⟩ | ⟨g, cap, cur, rfl, _⟩
  · exact ⟨none, 0, rfl⟩
  · exact ⟨_, _, rfl⟩
theorem own_ge {w : World} {base e size n : Nat} {v : Value} {xs : List Value} (h : w.ownsRow base e size v n xs) : ∀ g, v.ownBlock = some g → base ≤ g := fun g hg => (h.lt g hg).1
theorem grown_keep {w w' : World} {v u : Value} {base b o : Nat} (hg : w.grownBy w' v.ownBlock) (hv : ∀ g, v.ownBlock = some g → base ≤ g) (hb : b < base) (hc : w.cell? ⟨b, o, none⟩ = some u) : w'.cell? ⟨b, o, none⟩ = some u := by
  have hlt := block_lt_of_cell hc
  rw [World.cell?_of_block (w := w) (a := ⟨b, o, none⟩) (hg.block b hlt (fun e => by have := hv b e.symm; omega))]
  exact hc
theorem grown_keepf {w w' : World} {v : Value} {base b o : Nat} (hg : w.grownBy w' v.ownBlock) (hv : ∀ g, v.ownBlock = some g → base ≤ g) (hb : b < base) (hlt : b < w.heap.size) (hc : w.frozen? ⟨b, o, none⟩ = false) : w'.frozen? ⟨b, o, none⟩ = false := by
  rw [World.frozen?_of_block (w := w) (a := ⟨b, o, none⟩) (hg.block b hlt (fun e => by have := hv b e.symm; omega))]
  exact hc
theorem flat_bound {S : Nat → Prop} {w : World} : ∀ {ts : List Tm} {xs : List Value}, Tm.flat S w ts xs → Tm.flat (fun b => S b ∧ b < w.heap.size) w ts xs
  | [], xs, h => h
  | t :: ts, xs, h => by
    obtain ⟨a, cap, rest, rfl, h1, h2⟩ := h
    exact ⟨a, cap, rest, rfl, Tm.at_bound h1, flat_bound h2⟩
theorem own_setCell {w : World} {base e size n : Nat} {v u : Value} {xs : List Value} {b i : Nat} (h : w.ownsRow base e size v n xs) (hb : b < base) : (w.setCell ⟨b, i, none⟩ u).ownsRow base e size v n xs :=
  h.kept (grown_setCell w b i u) (by
    cases hv : v.ownBlock with
    | none => exact .inl rfl
    | some g => exact .inr (fun e => by have := own_ge h g hv; simp at e; omega))
end Go.Proofs.YtognkaebiafgbaaGreatDoor

/-
  The reference's l1Struct with kids.
-/
namespace Go.Proofs.YtognkaebiafgbaaGreatDoor
open Go.RowKit
set_option linter.unusedVariables false

theorem row_flat {S : Nat → Prop} {w : World} {b : Nat} : ∀ {ts : List Tm} {off : Nat}, Tm.row S w b off ts → ∃ xs, Tm.flat S w ts xs ∧ ∀ j u, xs[j]? = some u → w.cell? ⟨b, off + j, none⟩ = some u
  | [], off, _ => ⟨[], by simp [Tm.flat], by simp⟩
  | t :: ts, off, h => by
    simp only [Tm.row] at h
    obtain ⟨a, cap, h1, h2, h3, h4, h5⟩ := Tm.at_of_cells h.1
    obtain ⟨xs, hx, hc⟩ := row_flat h.2
    refine ⟨tcells t a cap ++ xs, ⟨a, cap, xs, rfl, h5, hx⟩, ?_⟩
    intro j u hj
    match j with
    | 0 => simp [tcells] at hj; subst hj; exact h1
    | 1 => simp [tcells] at hj; subst hj; exact h2
    | 2 => simp [tcells] at hj; subst hj; exact h3
    | 3 => simp [tcells] at hj; subst hj; exact h4
    | j + 4 =>
      simp [tcells] at hj
      rw [show off + (j + 4) = off + 4 + j by omega]
      exact hc j u hj
theorem flat_one {S : Nat → Prop} {w : World} : ∀ {ts : List Tm} {xs : List Value}, Tm.flat S w ts xs → ∀ u ∈ xs, u.oneCell' = true
  | [], xs, h => by simp only [Tm.flat] at h; subst h; simp
  | t :: ts, xs, h => by
    obtain ⟨a, cap, rest, rfl, h1, h2⟩ := h
    have := flat_one h2
    simp [tcells, Value.oneCell']
    exact this

theorem own_empty {w : World} {T b : Nat} (hb : b = w.heap.size) : (w.alloc (.cells #[] T)).ownsRow b T 4 (.slice (some ⟨b, 0, none⟩) 0 0) 0 [] := by
  subst hb
  refine ⟨rfl, .inr ⟨w.heap.size, 0, #[], rfl, Nat.le_refl _, ?_, by omega, by decide, rfl, rfl⟩⟩
  show (w.heap.push _)[w.heap.size]? = _
  simp

theorem grown_cells {W w2 : World} {v : Value} {base : Nat} (hg : W.grownBy w2 v.ownBlock) (hv : ∀ g, v.ownBlock = some g → base ≤ g) (hb : base ≤ W.heap.size) :
    (∀ b o, b < base → w2.cell? ⟨b, o, none⟩ = W.cell? ⟨b, o, none⟩) ∧ (∀ b o, b < base → w2.frozen? ⟨b, o, none⟩ = W.frozen? ⟨b, o, none⟩) :=
  ⟨fun b o h => World.cell?_of_block (w := W) (a := ⟨b, o, none⟩) (hg.block b (by omega) (fun e => by have := hv b e.symm; omega)),
   fun b o h => World.frozen?_of_block (w := W) (a := ⟨b, o, none⟩) (hg.block b (by omega) (fun e => by have := hv b e.symm; omega))⟩
def StructC (s : ByteArray) (ts : List Tm) : Prop := ∀ (v : Value) (S : Nat → Prop) (w : World), Tm.sl S w ts v →
  Calls Tryz.prog 117 #[.string s, v] w fun e w' => ∃ v', e = .returned v' ∧ Tm.at (fun b => S b ∨ w.heap.size ≤ b) w' (.mk 3 0 s ts) v' ∧ Ext w w'

set_option maxRecDepth 100000 in
set_option maxHeartbeats 1000000 in
theorem specl1Struct (s : ByteArray) (ts : List Tm) (hs : s.size ≤ 1048576) (hts : ts ≠ []) : StructC s ts := by
  intro v S w hv
  obtain ⟨i0, hi, hz0, hz1, hz2⟩ := info_parts info_term3
  obtain ⟨a, cap, rfl, h1, h2, h3, h4⟩ := hv
  obtain ⟨b, off, rfl, hSb, hrow⟩ := h4.resolve_left hts
  obtain ⟨xs, hfl, hcs⟩ := row_flat hrow
  have hlen := flat_len hfl
  have h1c := flat_one hfl
  have HCS := Lib.hid (fun W (E : Ext w W) j u (h : xs[j]? = some u) => (show W.cell? ((⟨b, off, none⟩ : Addr).add j) = some u by
    rw [show (⟨b, off, none⟩ : Addr).add j = ⟨b, off + j, none⟩ by unfold Addr.add; split <;> simp_all]
    exact E.cell (hcs j u h)))
  have HFL := Lib.hid hfl
  have H1C := Lib.hid h1c
  have HI := Lib.hid hi
  have HZ := Lib.hid hz0
  clear hcs hfl h1c hrow h4 hi hz0
  go_enter Tryz.func117, Tryz.ntmps117
  go_wp2_with (at_builtin; refine wpList_append_fresh rfl (.tmp 6) (.tmp 7) 23 rfl (w.heap.size + 1) 25 i0 _ 4 56 Tryz.underlying23 HI.out HZ.out hz1 hz2 rfl (by decide) (.slice (some ⟨w.heap.size + 1, 0, none⟩) 0 0) 0 [] rfl (own_empty (by simp)) ⟨b, off, none⟩ ts.length cap xs rfl hlen (HCS.out _ ((Ext.alloc _ _).trans (Ext.alloc _ _))) H1C.out (by unfold maxLen; omega) (by omega) (by simp) ?_; intro v2 w2 ho2 hg2 hfr2 _; obtain ⟨av, cv, rfl⟩ := own_form ho2; obtain ⟨kc, kf⟩ := grown_cells hg2 (base := w.heap.size + 1) (fun g h => by simp [Value.ownBlock] at h; omega) (by simp); have HO2 := Lib.hid ho2; have HG2 := Lib.hid hg2; have HFR := Lib.hid hfr2; clear ho2 hg2 hfr2)
  have ho := HO2.out
  rw [Nat.zero_add, List.nil_append] at ho
  have hge := own_ge ho
  have hE : Ext w w2 := ((Ext.alloc _ _).trans (Ext.alloc _ _)).grown HG2.out (fun b h => by simp [Value.ownBlock] at h; omega)
  refine ret4_set (p := 4) (T := 25) (b := w.heap.size) (u0 := .int .i64 0) (u1 := .int .i64 0) (u2 := .string ⟨#[]⟩) (u3 := .slice none 0 0) (by kernel_rfl) (fun _ => by kernel_rfl) (fun _ => by kernel_rfl) rfl rfl (by go_simp) (by go_simp) (by go_simp) (by go_simp) ?_
  intro X hX
  have hsl := own_sl ho (flat_mono (S' := fun b => S b ∧ b < w.heap.size) (fun _ h => h) ((Agree.of_ext hE)) (flat_bound HFL.out)) h3
  refine ⟨_, rfl, Tm.at_iff.2 ⟨hs, _, rfl, Tm.sl_mono ?_ (Agree.grown hX ?_) hsl⟩, hE.grown hX (fun b h => by simp at h; omega)⟩
  · rintro b (⟨hb, _⟩ | hb)
    · exact .inl hb
    · exact .inr (by have := hge b hb; omega)
  · intro b h
    simp at h
    subst h
    rintro (⟨_, hb⟩ | hb)
    · omega
    · have := hge _ hb; omega

end Go.Proofs.YtognkaebiafgbaaGreatDoor
