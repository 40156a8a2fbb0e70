/-
  The reference's draws of terms (begun): l1Var, l1Int.
-/
import Derived.Deep.RegionLaw
import Derived.Deep.LoopGhost
import Derived.Deep.RegionHeld3
import Derived.Test.YtognkaebiafgbaaGreatDoorMq2
import Derived.Test.YtognkaebiafgbaaGreatDoorMq4
namespace Go.Proofs.YtognkaebiafgbaaGreatDoor
open Go.RowKit
set_option linter.unusedVariables false
set_option maxHeartbeats 1000000 in
theorem specl1Var (n : Int) (w : World) : Calls Tryz.prog 125 #[.int .i64 n] w fun e w' => ∃ v, e = .returned v ∧ (∀ S, Tm.at S w' (.mk 1 n ⟨#[]⟩ []) v) ∧ Ext w w' := by
  go_enter Tryz.func125, Tryz.ntmps125
  go_wp2_with fail
  refine ret4 (p := 2) (T := 25) (v0 := .int .i64 1) (v1 := .int .i64 n) (v2 := .string ⟨#[]⟩) (v3 := .slice none 0 0) (by kernel_rfl) (fun _ => by kernel_rfl) (fun _ => by kernel_rfl) rfl rfl (by go_simp) (by go_simp) (by go_simp) (by go_simp) ?_
  exact ⟨_, rfl, fun S => Tm.at_iff.2 ⟨by show (⟨#[]⟩ : ByteArray).size ≤ 1048576; decide, _, rfl, none, 0, by simp [Tm.kids], by simp [Tm.kids], by omega, by simp [Tm.kids], .inl rfl⟩, Ext.alloc _ _⟩
set_option maxHeartbeats 1000000 in
theorem specl1Int (n : Int) (w : World) : Calls Tryz.prog 149 #[.int .i64 n] w fun e w' => ∃ v, e = .returned v ∧ (∀ S, Tm.at S w' (.mk 2 n ⟨#[]⟩ []) v) ∧ Ext w w' := by
  go_enter Tryz.func149, Tryz.ntmps149
  go_wp2_with fail
  refine ret4 (p := 2) (T := 25) (v0 := .int .i64 2) (v1 := .int .i64 n) (v2 := .string ⟨#[]⟩) (v3 := .slice none 0 0) (by kernel_rfl) (fun _ => by kernel_rfl) (fun _ => by kernel_rfl) rfl rfl (by go_simp) (by go_simp) (by go_simp) (by go_simp) ?_
  exact ⟨_, rfl, fun S => Tm.at_iff.2 ⟨by show (⟨#[]⟩ : ByteArray).size ≤ 1048576; decide, _, rfl, none, 0, by simp [Tm.kids], by simp [Tm.kids], by omega, by simp [Tm.kids], .inl rfl⟩, Ext.alloc _ _⟩
set_option maxHeartbeats 1000000 in
theorem specl1Struct0 (s : ByteArray) (w : World) (hs : s.size ≤ 1048576) : Calls Tryz.prog 117 #[.string s, .slice none 0 0] w fun e w' => ∃ v, e = .returned v ∧ (∀ S, Tm.at S w' (.mk 3 0 s []) v) ∧ Ext w w' := by
  go_enter Tryz.func117, Tryz.ntmps117
  go_wp2_with fail
  refine ret4 (p := 4) (T := 25) (v0 := .int .i64 3) (v1 := .int .i64 0) (v2 := .string s) (v3 := .slice (some ⟨w.heap.size + 1, 0, none⟩) 0 0) (by kernel_rfl) (fun _ => by kernel_rfl) (fun _ => by kernel_rfl) rfl rfl (by go_simp) (by go_simp) (by go_simp) (by go_simp) ?_
  exact ⟨_, rfl, fun S => Tm.at_iff.2 ⟨hs, _, rfl, some ⟨w.heap.size + 1, 0, none⟩, 0, by simp [Tm.kids], by simp [Tm.kids], by omega, by simp [Tm.kids], .inl rfl⟩, (Ext.alloc _ _).trans (Ext.alloc _ _)⟩
end Go.Proofs.YtognkaebiafgbaaGreatDoor

namespace Go.Proofs.YtognkaebiafgbaaGreatDoor
open Go.RowKit
set_option linter.unusedVariables false
theorem step_append_fresh {P : Program} {ops : Array Oper} {o : Oper} {a : Act} {w : World} {K : Act → World → Prop} {Q : Exit → Act → World → Prop} {E : Prop}
    (hgd : o.guard = none) (s x : Operand) (t : TypeId)
    (ho : o.op = .call { callee := .builtin .append, args := #[s, x], argTypes := #[t, t] })
    (base : Nat) (e : TypeId) (i : TypeInfo) (z : Value) (size bytes : Nat) (ht : P.underlying t = some (.slice e)) (hi : P.info? e = some i) (hz : i.zero = some z)
    (hsize : i.size = size) (hby : i.bytes = bytes) (hzs : z.cells.size = size) (hsz : 0 < size)
    (v : Value) (n : Nat) (xs : List Value) (hs : a.eval s = v) (hown : w.ownsRow base e size v n xs)
    (ad : Addr) (m c : Nat) (news : List Value) (hx : a.eval x = .slice (some ad) m c) (hl : news.length = m * size) (hnews : ∀ j u, news[j]? = some u → w.cell? (ad.add j) = some u) (h1 : ∀ u ∈ news, u.oneCell' = true)
    (h63 : n + m ≤ maxLen) (hbytes : (n + m) * bytes ≤ 140737488355328) (hbase : base ≤ w.heap.size)
    (h : ∀ v' w', w'.ownsRow base e size v' (n + m) (xs ++ news) → w.grownBy w' v.ownBlock → (∀ g, v'.ownBlock = some g → v.ownBlock = some g ∨ w.heap.size ≤ g) → K (a.put o.dst v') w') :
    if Region.wanted o (yielded ops a.tmps) = true then Oper.wp P o a w K Q else E := by
  have hw : Region.wanted o (yielded ops a.tmps) = true := by simp [Region.wanted, hgd]
  rw [if_pos hw]
  obtain ⟨v', w', hr, h2, h3, h4⟩ := run_append_own (P := P) w base t o.type e i z size bytes ht hi hz hsize hby hzs hsz v n xs hown ad m c news hl hnews h1 h63 hbytes hbase
  have h5 := append_fresh base t o.type e i z size bytes ht hi hz hsize hby hzs hsz v n xs hown ad m c news hl hnews h1 h63 hbytes hbase v' w' hr
  unfold Oper.wp execOp
  simp only [ho, resolve, invoke, builtin, Sem.run_bind, Sem.run_pure, Result.andThen_ok, List.map_toArray, List.map_cons, List.map_nil, hs, hx, hr]
  exact h v' w' h2 h3 h5
end Go.Proofs.YtognkaebiafgbaaGreatDoor

namespace Go.Proofs.YtognkaebiafgbaaGreatDoor
open Go.RowKit
set_option linter.unusedVariables false
theorem info_term3 : (Tryz.prog.info? 25).map (fun i => (i.zero, i.size, i.bytes)) = some (some (.agg #[.int .i64 0, .int .i64 0, .string ⟨#[]⟩, .slice none 0 0]), 4, 56) := by kernel_rfl
theorem ext_cells {W w1 : World} (h : Ext W w1) : ∀ b o, b < W.heap.size → w1.cell? ⟨b, o, none⟩ = W.cell? ⟨b, o, none⟩ := fun b o hb => Below.cell (p := ⟨b, o, none⟩) h hb
theorem cell_four (w : World) (t : Tm) (T : Nat) {a : Option Addr} {c : Nat} (j : Nat) (u : Value) (h : (tcells t a c)[j]? = some u) :
    (w.alloc (.cells #[.int .i64 t.kind, .int .i64 t.n, .string t.name, .slice a t.kids.length c] T)).cell? ((⟨w.heap.size, 0, none⟩ : Addr).add j) = some u := by
  rw [show (⟨w.heap.size, 0, none⟩ : Addr).add j = ⟨w.heap.size, 0 + j, none⟩ by unfold Addr.add; split <;> simp_all]
  exact cell_new _ _ _ _ _ (by simpa [tcells] using h)
theorem own_form {w : World} {base e size n : Nat} {v : Value} {xs : List Value} (h : w.ownsRow base e size v n xs) : ∃ a c, v = .slice a n c := by
  rcases h.2 with ⟨rfl, rfl⟩ | ⟨g, cap, cur, rfl, _⟩
  · exact ⟨none, 0, rfl⟩
  · exact ⟨_, _, rfl⟩
theorem own_ge {w : World} {base e size n : Nat} {v : Value} {xs : List Value} (h : w.ownsRow base e size v n xs) : ∀ g, v.ownBlock = some g → base ≤ g := fun g hg => (h.lt g hg).1
theorem flat_bound {S : Nat → Prop} {w : World} : ∀ {ts : List Tm} {xs : List Value}, Tm.flat S w ts xs → Tm.flat (fun b => S b ∧ b < w.heap.size) w ts xs
  | [], xs, h => h
  | t :: ts, xs, h => by
    obtain ⟨a, cap, rest, rfl, h1, h2⟩ := h
    exact ⟨a, cap, rest, rfl, Tm.at_bound h1, flat_bound h2⟩
end Go.Proofs.YtognkaebiafgbaaGreatDoor

namespace Go.Proofs.YtognkaebiafgbaaGreatDoor
open Go.RowKit
set_option linter.unusedVariables false
theorem row_flat {S : Nat → Prop} {w : World} {b : Nat} : ∀ {ts : List Tm} {off : Nat}, Tm.row S w b off ts → ∃ xs, Tm.flat S w ts xs ∧ ∀ j u, xs[j]? = some u → w.cell? ⟨b, off + j, none⟩ = some u
  | [], off, _ => ⟨[], by simp [Tm.flat], by simp⟩
  | t :: ts, off, h => by
    simp only [Tm.row] at h
    obtain ⟨a, cap, h1, h2, h3, h4, h5⟩ := Tm.at_of_cells h.1
    obtain ⟨xs, hx, hc⟩ := row_flat h.2
    refine ⟨tcells t a cap ++ xs, ⟨a, cap, xs, rfl, h5, hx⟩, ?_⟩
    intro j u hj
    match j with
    | 0 => simp [tcells] at hj; subst hj; exact h1
    | 1 => simp [tcells] at hj; subst hj; exact h2
    | 2 => simp [tcells] at hj; subst hj; exact h3
    | 3 => simp [tcells] at hj; subst hj; exact h4
    | j + 4 =>
      simp [tcells] at hj
      rw [show off + (j + 4) = off + 4 + j by omega]
      exact hc j u hj
theorem flat_one {S : Nat → Prop} {w : World} : ∀ {ts : List Tm} {xs : List Value}, Tm.flat S w ts xs → ∀ u ∈ xs, u.oneCell' = true
  | [], xs, h => by simp only [Tm.flat] at h; subst h; simp
  | t :: ts, xs, h => by
    obtain ⟨a, cap, rest, rfl, h1, h2⟩ := h
    have := flat_one h2
    simp [tcells, Value.oneCell']
    exact this
theorem own_empty {w : World} {T b : Nat} (hb : b = w.heap.size) : (w.alloc (.cells #[] T)).ownsRow b T 4 (.slice (some ⟨b, 0, none⟩) 0 0) 0 [] := by
  subst hb
  refine ⟨rfl, .inr ⟨w.heap.size, 0, #[], rfl, Nat.le_refl _, ?_, by omega, by decide, rfl, rfl⟩⟩
  show (w.heap.push _)[w.heap.size]? = _
  simp
theorem grown_cells {W w2 : World} {v : Value} {base : Nat} (hg : W.grownBy w2 v.ownBlock) (hv : ∀ g, v.ownBlock = some g → base ≤ g) (hb : base ≤ W.heap.size) :
    (∀ b o, b < base → w2.cell? ⟨b, o, none⟩ = W.cell? ⟨b, o, none⟩) ∧ (∀ b o, b < base → w2.frozen? ⟨b, o, none⟩ = W.frozen? ⟨b, o, none⟩) :=
  ⟨fun b o h => World.cell?_of_block (w := W) (a := ⟨b, o, none⟩) (hg.block b (by omega) (fun e => by have := hv b e.symm; omega)),
   fun b o h => World.frozen?_of_block (w := W) (a := ⟨b, o, none⟩) (hg.block b (by omega) (fun e => by have := hv b e.symm; omega))⟩
def StructC (s : ByteArray) (ts : List Tm) : Prop := ∀ (v : Value) (S : Nat → Prop) (w : World), Tm.sl S w ts v →
  Calls Tryz.prog 117 #[.string s, v] w fun e w' => ∃ v', e = .returned v' ∧ Tm.at (fun b => S b ∨ w.heap.size ≤ b) w' (.mk 3 0 s ts) v' ∧ Ext w w'
set_option maxRecDepth 100000 in
set_option maxHeartbeats 1000000 in
theorem specl1Struct (s : ByteArray) (ts : List Tm) (hs : s.size ≤ 1048576) (hts : ts ≠ []) : StructC s ts := by
  intro v S w hv
  obtain ⟨i0, hi, hz0, hz1, hz2⟩ := info_parts info_term3
  obtain ⟨a, cap, rfl, h1, h2, h3, h4⟩ := hv
  obtain ⟨b, off, rfl, hSb, hrow⟩ := h4.resolve_left hts
  obtain ⟨xs, hfl, hcs⟩ := row_flat hrow
  have hlen := flat_len hfl
  have h1c := flat_one hfl
  have HCS := Lib.hid (fun W (E : Ext w W) j u (h : xs[j]? = some u) => (show W.cell? ((⟨b, off, none⟩ : Addr).add j) = some u by
    rw [show (⟨b, off, none⟩ : Addr).add j = ⟨b, off + j, none⟩ by unfold Addr.add; split <;> simp_all]
    exact E.cell (hcs j u h)))
  have HFL := Lib.hid hfl
  have H1C := Lib.hid h1c
  have HI := Lib.hid hi
  have HZ := Lib.hid hz0
  clear hcs hfl h1c hrow h4 hi hz0
  go_enter Tryz.func117, Tryz.ntmps117
  go_wp2_with (at_builtin; refine wpList_append_fresh rfl (.tmp 6) (.tmp 7) 23 rfl (w.heap.size + 1) 25 i0 _ 4 56 Tryz.underlying23 HI.out HZ.out hz1 hz2 rfl (by decide) (.slice (some ⟨w.heap.size + 1, 0, none⟩) 0 0) 0 [] rfl (own_empty (by simp)) ⟨b, off, none⟩ ts.length cap xs rfl hlen (HCS.out _ ((Ext.alloc _ _).trans (Ext.alloc _ _))) H1C.out (by unfold maxLen; omega) (by omega) (by simp) ?_; intro v2 w2 ho2 hg2 hfr2 _; obtain ⟨av, cv, rfl⟩ := own_form ho2; obtain ⟨kc, kf⟩ := grown_cells hg2 (base := w.heap.size + 1) (fun g h => by simp [Value.ownBlock] at h; omega) (by simp); have HO2 := Lib.hid ho2; have HG2 := Lib.hid hg2; have HFR := Lib.hid hfr2; clear ho2 hg2 hfr2)
  have ho := HO2.out
  rw [Nat.zero_add, List.nil_append] at ho
  have hge := own_ge ho
  have hE : Ext w w2 := ((Ext.alloc _ _).trans (Ext.alloc _ _)).grown HG2.out (fun b h => by simp [Value.ownBlock] at h; omega)
  refine ret4_set (p := 4) (T := 25) (b := w.heap.size) (u0 := .int .i64 0) (u1 := .int .i64 0) (u2 := .string ⟨#[]⟩) (u3 := .slice none 0 0) (by kernel_rfl) (fun _ => by kernel_rfl) (fun _ => by kernel_rfl) rfl rfl (by go_simp) (by go_simp) (by go_simp) (by go_simp) ?_
  intro X hX
  have hsl := own_sl ho (flat_mono (S' := fun b => S b ∧ b < w.heap.size) (fun _ h => h) ((Agree.of_ext hE)) (flat_bound HFL.out)) h3
  refine ⟨_, rfl, Tm.at_iff.2 ⟨hs, _, rfl, Tm.sl_mono ?_ (Agree.grown hX ?_) hsl⟩, hE.grown hX (fun b h => by simp at h; omega)⟩
  · rintro b (⟨hb, _⟩ | hb)
    · exact .inl hb
    · exact .inr (by have := hge b hb; omega)
  · intro b h
    simp at h
    subst h
    rintro (⟨_, hb⟩ | hb)
    · omega
    · have := hge _ hb; omega
end Go.Proofs.YtognkaebiafgbaaGreatDoor

namespace Go.Proofs.YtognkaebiafgbaaGreatDoor
open Go.RowKit
set_option linter.unusedVariables false
structure Fr (M : Nat → Prop) (w w' : World) : Prop where
  os : w'.os = w.os
  tape : w'.tape = w.tape
  output : w'.output = w.output
  size : w.heap.size ≤ w'.heap.size
  block : ∀ k, k < w.heap.size → ¬ M k → w'.heap[k]? = w.heap[k]?
theorem Fr.refl (M : Nat → Prop) (w : World) : Fr M w w := ⟨rfl, rfl, rfl, Nat.le_refl _, fun _ _ _ => rfl⟩
theorem Fr.trans {M : Nat → Prop} {a b c : World} (h : Fr M a b) (k : Fr M b c) : Fr M a c :=
  ⟨k.os.trans h.os, k.tape.trans h.tape, k.output.trans h.output, Nat.le_trans h.size k.size, fun i hi hne => (k.block i (Nat.lt_of_lt_of_le hi h.size) hne).trans (h.block i hi hne)⟩
theorem Fr.mono {M M' : Nat → Prop} {a b : World} (h : Fr M a b) (hM : ∀ k, k < a.heap.size → M k → M' k) : Fr M' a b :=
  ⟨h.os, h.tape, h.output, h.size, fun i hi hne => h.block i hi (fun hm => hne (hM i hi hm))⟩
theorem Fr.of_grown {M : Nat → Prop} {a b : World} {row : Option Nat} (h : a.grownBy b row) (hM : ∀ k, row = some k → M k) : Fr M a b :=
  ⟨h.os, h.tape, h.output, h.size, fun i hi hne => h.block i hi (fun e => hne (hM i e.symm))⟩
theorem Fr.of_ext {M : Nat → Prop} {a b : World} (h : Ext a b) : Fr M a b := Fr.of_grown h.grownBy (by simp)
theorem Fr.of_extR {M : Nat → Prop} {r : Nat} {a b : World} (h : ExtR r a b) (hM : M r) : Fr M a b := Fr.of_grown h.1 (fun k e => by cases e; exact hM)
theorem Fr.alloc {M : Nat → Prop} (w : World) (o : Obj) : Fr M w (w.alloc o) := Fr.of_ext (Ext.alloc _ _)
theorem Fr.drew {M : Nat → Prop} (w : World) : Fr M w w.drew := Fr.of_ext (Ext.drew _)
theorem Fr.setCell {M : Nat → Prop} (w : World) {b i : Nat} {u : Value} (hM : M b) : Fr M w (w.setCell ⟨b, i, none⟩ u) := Fr.of_grown (grown_setCell _ _ _ _) (fun k e => by cases e; exact hM)
theorem Fr.toExt {M : Nat → Prop} {a b : World} (h : Fr M a b) (hM : ∀ k, k < a.heap.size → ¬ M k) : Ext a b := ⟨h.os, h.tape, h.output, h.size, fun i hi => h.block i hi (hM i hi)⟩
theorem Fr.cells {M : Nat → Prop} {a b : World} (h : Fr M a b) : (∀ k o, k < a.heap.size → ¬ M k → b.cell? ⟨k, o, none⟩ = a.cell? ⟨k, o, none⟩) ∧ (∀ k o, k < a.heap.size → ¬ M k → b.frozen? ⟨k, o, none⟩ = a.frozen? ⟨k, o, none⟩) :=
  ⟨fun k o hk hm => World.cell?_of_block (w := a) (a := ⟨k, o, none⟩) (h.block k hk hm), fun k o hk hm => World.frozen?_of_block (w := a) (a := ⟨k, o, none⟩) (h.block k hk hm)⟩
theorem Fr.cell {M : Nat → Prop} {a b : World} (h : Fr M a b) {k o : Nat} {v : Value} (hm : ¬ M k) (hc : a.cell? ⟨k, o, none⟩ = some v) : b.cell? ⟨k, o, none⟩ = some v := by
  rw [h.cells.1 k o (block_lt_of_cell hc) hm]; exact hc
theorem Fr.frozen {M : Nat → Prop} {a b : World} (h : Fr M a b) {k o : Nat} (hk : k < a.heap.size) (hm : ¬ M k) (hc : a.frozen? ⟨k, o, none⟩ = false) : b.frozen? ⟨k, o, none⟩ = false := by
  rw [h.cells.2 k o hk hm]; exact hc
theorem Fr.agree {M S : Nat → Prop} {a b : World} (h : Fr M a b) (hS : ∀ k, S k → ¬ M k) : Agree S a b := fun k o v hk hc => h.cell (hS k hk) hc
theorem Fr.at {M S : Nat → Prop} {a b : World} (h : Fr M a b) {t : Tm} {v : Value} (ht : Tm.at S a t v) (hS : ∀ k, S k → ¬ M k) : Tm.at S b t v := Tm.at_mono (fun _ h => h) (h.agree hS) ht
theorem Fr.sl {M S : Nat → Prop} {a b : World} (h : Fr M a b) {ts : List Tm} {v : Value} (ht : Tm.sl S a ts v) (hS : ∀ k, S k → ¬ M k) : Tm.sl S b ts v := Tm.sl_mono (fun _ h => h) (h.agree hS) ht
theorem ExtR.fr {M : Nat → Prop} {a b c : World} {r : Nat} (h : ExtR r a b) (f : Fr M b c) (hM : ∀ k, k < b.heap.size → M k → a.heap.size ≤ k ∧ k ≠ r) : ExtR r a c := by
  have f' : Fr (fun k => a.heap.size ≤ k ∧ k ≠ r) b c := f.mono hM
  refine ⟨⟨f.os.trans h.1.os, f.tape.trans h.1.tape, f.output.trans h.1.output, Nat.le_trans h.1.size f.size, fun k hk hne => ?_⟩, fun v hv => f'.cell (by omega) (h.2 v hv)⟩
  rw [f'.block k (Nat.lt_of_lt_of_le hk h.1.size) (by omega)]
  exact h.1.block k hk hne
theorem Rd.fr {M : Nat → Prop} {a b c : World} {r p P : Nat} (h0 : Rd a r p) (h : ExtR r a b) (hr : Rd b r P) (f : Fr M b c) (hM : ∀ k, k < b.heap.size → M k → a.heap.size ≤ k) : Rd c r P := by
  have hra := h0.lt
  have hrb := hr.lt
  have f' : Fr (fun k => a.heap.size ≤ k) b c := f.mono hM
  obtain ⟨a0, len0, cap0, g1, _, _, _, _, _, g7⟩ := h0
  obtain ⟨a1, len, cap, h1, h2, h3, h4, h5, h6, h7⟩ := hr
  have e := h.2 _ g1
  rw [h1] at e
  simp only [Option.some.injEq, Value.slice.injEq] at e
  obtain ⟨rfl, rfl, rfl⟩ := e
  refine ⟨_, _, _, f'.cell (by omega) h1, f'.cell (by omega) h2, f'.frozen hrb (by omega) h3, h4, h5, h6, ?_⟩
  rcases h7 with h7 | ⟨bb, off, h7, h8, h9⟩
  · exact .inl h7
  · rcases g7 with g7 | ⟨bb', off', g7, g8, g9⟩
    · exact .inl g7
    · rw [h7] at g7
      simp only [Option.some.injEq, Addr.mk.injEq, and_true] at g7
      obtain ⟨rfl, rfl⟩ := g7
      refine .inr ⟨bb, off, h7, h8, fun i hi => ?_⟩
      obtain ⟨n, hn, hc⟩ := h9 i hi
      obtain ⟨m, _, hm⟩ := g9 i hi
      have := block_lt_of_cell hm
      simp only at this
      exact ⟨n, hn, f'.cell (by omega) hc⟩
def AppI (T : Nat) (Z : Nat → Prop) (ts : List Tm) (v : Value) (w : World) : Prop :=
  ∃ xs, w.ownsRow 0 T 4 v ts.length xs ∧ (∀ g, v.ownBlock = some g → Z g) ∧ Tm.flat (fun b => Z b ∧ v.ownBlock ≠ some b) w ts xs
theorem AppI.nil (T : Nat) (Z : Nat → Prop) (w : World) : AppI T Z [] (.slice none 0 0) w := ⟨[], ⟨rfl, .inl ⟨rfl, rfl⟩⟩, by simp [Value.ownBlock], rfl⟩
theorem AppI.form {T : Nat} {Z : Nat → Prop} {ts : List Tm} {v : Value} {w : World} (h : AppI T Z ts v w) : ∃ a c, v = .slice a ts.length c := by
  obtain ⟨xs, h, _⟩ := h
  exact own_form h
theorem AppI.keep {T : Nat} {Z : Nat → Prop} {ts : List Tm} {v : Value} {w w' : World} {M : Nat → Prop} (h : AppI T Z ts v w) (f : Fr M w w') (hM : ∀ k, k < w.heap.size → M k → ¬ Z k) : AppI T Z ts v w' := by
  obtain ⟨xs, h1, hz, h2⟩ := h
  have hf : Fr (fun k => ¬ Z k) w w' := f.mono hM
  refine ⟨xs, ?_, hz, flat_mono (fun _ h => h) (hf.agree (fun k hk hm => hm hk.1)) h2⟩
  obtain ⟨e1, e2⟩ := h1
  refine ⟨e1, ?_⟩
  rcases e2 with e2 | ⟨g, cap, cur, rfl, e3, e4, e5⟩
  · exact .inl e2
  · refine .inr ⟨g, cap, cur, rfl, e3, ?_, e5⟩
    rw [hf.block g (by
      obtain ⟨x, _⟩ := Array.getElem?_eq_some_iff.1 e4
      exact x) (fun hn => hn (hz g rfl))]
    exact e4
theorem AppI.ext {T : Nat} {Z : Nat → Prop} {ts : List Tm} {v : Value} {w w' : World} (h : AppI T Z ts v w) (f : Ext w w') : AppI T Z ts v w' := h.keep (M := fun _ => False) (Fr.of_ext f) (fun _ _ h => h.elim)
theorem AppI.sl {T : Nat} {Z : Nat → Prop} {ts : List Tm} {v : Value} {w : World} (h : AppI T Z ts v w) (hl : ts.length ≤ 1048576) : Tm.sl Z w ts v := by
  obtain ⟨xs, h1, hz, h2⟩ := h
  refine Tm.sl_mono ?_ (Agree.refl w) (own_sl h1 h2 hl)
  rintro b (hb | hb)
  · exact hb.1
  · exact hz b hb
theorem own_low {w : World} {base base' e size n : Nat} {v : Value} {xs : List Value} (h : w.ownsRow base e size v n xs) (hb : base' ≤ base) : w.ownsRow base' e size v n xs := by
  obtain ⟨e1, e2⟩ := h
  refine ⟨e1, ?_⟩
  rcases e2 with e2 | ⟨g, cap, cur, h3, h4, h5⟩
  · exact .inl e2
  · exact .inr ⟨g, cap, cur, h3, by omega, h5⟩
theorem AppI.empty {w : World} {T b : Nat} {Z : Nat → Prop} (hb : b = w.heap.size) (hz : Z b) : AppI T Z [] (.slice (some ⟨b, 0, none⟩) 0 0) (w.alloc (.cells #[] T)) :=
  ⟨[], own_low (own_empty hb) (Nat.zero_le _), by intro g hg; simp [Value.ownBlock] at hg; subst hg; exact hz, rfl⟩
theorem AppI.apart {T : Nat} {Z : Nat → Prop} {ts : List Tm} {v : Value} {w w1 : World} {t : Tm} {u : Value} (h : AppI T Z ts v w) (hb : ∀ b, w.heap.size ≤ b → Z b) (ht : Tm.at (fun b => w.heap.size ≤ b) w1 t u) : Tm.at (fun b => Z b ∧ v.ownBlock ≠ some b) w1 t u := by
  obtain ⟨xs, h1, _⟩ := h
  refine Tm.at_mono (fun b hb2 => ⟨hb b hb2, fun e => ?_⟩) (Agree.refl _) ht
  have := (h1.lt b e).2
  omega
theorem app_next {T : Nat} {Z : Nat → Prop} {ts : List Tm} {t : Tm} {v nv : Value} {w1 w2 : World} {xs : List Value} {a2 : Option Addr} {c2 : Nat} {o : Obj}
    (how : w1.ownsRow 0 T 4 v ts.length xs) (hz : ∀ g, v.ownBlock = some g → Z g) (hfl : Tm.flat (fun b => Z b ∧ v.ownBlock ≠ some b) w1 ts xs)
    (hv1 : Tm.at (fun b => Z b ∧ v.ownBlock ≠ some b) w1 t (.agg #[.int .i64 t.kind, .int .i64 t.n, .string t.name, .slice a2 t.kids.length c2]))
    (ho2 : w2.ownsRow 0 T 4 nv (ts.length + 1) (xs ++ tcells t a2 c2)) (hg : (w1.alloc o).grownBy w2 v.ownBlock) (hnew : ∀ b, w1.heap.size ≤ b → Z b)
    (hfr : ∀ g, nv.ownBlock = some g → v.ownBlock = some g ∨ (w1.alloc o).heap.size ≤ g) : AppI T Z (ts ++ [t]) nv w2 := by
  have hs3 : (w1.alloc o).heap.size = w1.heap.size + 1 := by simp
  have hag : Agree (fun b => Z b ∧ v.ownBlock ≠ some b) w1 w2 := (Agree.of_ext (Ext.alloc w1 o)).trans (Agree.grown hg (fun b h hz => hz.2 h))
  have hS : ∀ b, (Z b ∧ v.ownBlock ≠ some b) ∧ b < w1.heap.size → Z b ∧ nv.ownBlock ≠ some b := by
    rintro b ⟨⟨h1, h2⟩, h3⟩
    refine ⟨h1, fun h => ?_⟩
    rcases hfr b h with h | h
    · exact h2 h
    · omega
  refine ⟨xs ++ tcells t a2 c2, by simpa using ho2, ?_, flat_snoc ?_ ?_⟩
  · intro g hgg
    rcases hfr g hgg with h | h
    · exact hz g h
    · exact hnew g (by omega)
  · exact Tm.at_mono hS (fun b o v hb hc => hag b o v hb.1 hc) (Tm.at_bound hv1)
  · exact flat_mono hS (fun b o v hb hc => hag b o v hb.1 hc) (flat_bound hfl)
theorem wpList_append_tm {P : Program} {ops : Array Oper} {rest : List Oper} {o : Oper} {a : Act} {w1 : World} {Q : Exit → Act → World → Prop}
    (hgd : o.guard = none) (s x : Operand) (ty : TypeId)
    (ho : o.op = .call { callee := .builtin .append, args := #[s, x], argTypes := #[ty, ty] })
    (Z : Nat → Prop) (T : TypeId) (i : TypeInfo) (ht : P.underlying ty = some (.slice T)) (hi : P.info? T = some i) (hz : i.zero = some (.agg #[.int .i64 0, .int .i64 0, .string ⟨#[]⟩, .slice none 0 0]))
    (hsize : i.size = 4) (hby : i.bytes = 56)
    (v : Value) (ts : List Tm) (t : Tm) (a2 : Option Addr) (c2 : Nat) (hs : a.eval s = v) (happ : AppI T Z ts v w1) (hx : a.eval x = .slice (some ⟨w1.heap.size, 0, none⟩) 1 1)
    (hv1 : Tm.at (fun b => Z b ∧ v.ownBlock ≠ some b) w1 t (.agg #[.int .i64 t.kind, .int .i64 t.n, .string t.name, .slice a2 t.kids.length c2]))
    (hl : ts.length < 1048576) (hnew : ∀ b, w1.heap.size ≤ b → Z b)
    (h : ∀ av cv w2, AppI T Z (ts ++ [t]) (.slice av (ts.length + 1) cv) w2 → Fr Z w1 w2 → wpList P ops Q rest (a.put o.dst (.slice av (ts.length + 1) cv)) w2) :
    wpList P ops Q (o :: rest) a (w1.alloc (.cells #[.int .i64 t.kind, .int .i64 t.n, .string t.name, .slice a2 t.kids.length c2] T)) := by
  obtain ⟨xs, how, hzz, hfl⟩ := happ
  refine wpList_append_fresh hgd s x ty ho 0 T i _ 4 56 ht hi hz hsize hby rfl (by decide) v ts.length xs hs (own_ext how (Ext.alloc _ _)) ⟨w1.heap.size, 0, none⟩ 1 1 (tcells t a2 c2) hx rfl (fun j u h => cell_four _ _ _ j u h) (by simp [tcells, Value.oneCell']) (by unfold maxLen; omega) (by omega) (by omega) ?_
  intro v2 w2 ho2 hg2 hfr2 _
  obtain ⟨av, cv, rfl⟩ := own_form ho2
  exact h av cv w2 (app_next how hzz hfl hv1 ho2 hg2 hnew hfr2) ((Fr.alloc _ _).trans (Fr.of_grown hg2 (fun k hk => hzz k hk)))
theorem ExtR.cells {r : Nat} {w w' : World} (h : ExtR r w w') : (∀ k o, k < w.heap.size → ¬ k = r → w'.cell? ⟨k, o, none⟩ = w.cell? ⟨k, o, none⟩) ∧ (∀ k o, k < w.heap.size → ¬ k = r → w'.frozen? ⟨k, o, none⟩ = w.frozen? ⟨k, o, none⟩) :=
  (Fr.of_extR (M := fun k => k = r) h rfl).cells
theorem at_form {S : Nat → Prop} {w : World} {t : Tm} {v : Value} (h : Tm.at S w t v) : ∃ a c, v = .agg #[.int .i64 t.kind, .int .i64 t.n, .string t.name, .slice a t.kids.length c] := by
  obtain ⟨_, sv, rfl, a, c, rfl, _⟩ := Tm.at_iff.1 h
  exact ⟨a, c, rfl⟩
structure KidI (T : Nat) (w W0 : World) (O : Nat) (ts : List Tm) (u0 u1 u2 : Value) (av : Option Addr) (cv : Nat) (wr : World) : Prop where
  app : AppI T (fun b => O + 1 ≤ b) ts (.slice av ts.length cv) wr
  fr : Fr (fun b => O ≤ b) W0 wr
  c0 : wr.cell? ⟨O, 0, none⟩ = some u0
  c1 : wr.cell? ⟨O, 1, none⟩ = some u1
  c2 : wr.cell? ⟨O, 2, none⟩ = some u2
  c3 : wr.cell? ⟨O, 3, none⟩ = some (.slice av ts.length cv)
  f3 : wr.frozen? ⟨O, 3, none⟩ = false
theorem KidI.next {T O : Nat} {w W0 wr w1 w2 : World} {ts : List Tm} {t : Tm} {u0 u1 u2 : Value} {av av2 : Option Addr} {cv cv2 : Nat} (h : KidI T w W0 O ts u0 u1 u2 av cv wr) (e1 : Ext wr w1)
    (hA : AppI T (fun b => O + 1 ≤ b) (ts ++ [t]) (.slice av2 (ts.length + 1) cv2) w2) (hf : Fr (fun b => O + 1 ≤ b) w1 w2) : KidI T w W0 O (ts ++ [t]) u0 u1 u2 av2 cv2 (w2.setCell ⟨O, 3, none⟩ (.slice av2 (ts.length + 1) cv2)) := by
  have hlen : (ts ++ [t]).length = ts.length + 1 := by simp
  have hlt := block_lt_of_cell h.c0
  simp only at hlt
  refine ⟨?_, ?_, cell_off (by decide) (hf.cell (by omega) (e1.cell h.c0)), cell_off (by decide) (hf.cell (by omega) (e1.cell h.c1)), cell_off (by decide) (hf.cell (by omega) (e1.cell h.c2)), ?_, ?_⟩
  · rw [hlen]
    exact hA.keep (M := fun k => k = O) (Fr.setCell _ rfl) (fun k _ h hz => by omega)
  · exact (h.fr.trans (Fr.of_ext e1)).trans ((hf.mono (fun k _ h => by omega)).trans (Fr.setCell _ (Nat.le_refl _)))
  · rw [hlen]
    exact cell_same (hf.cell (by omega) (e1.cell h.c3))
  · rw [World.frozen?_setCell]
    exact hf.frozen (Nat.lt_of_lt_of_le hlt (Below.size e1)) (by omega) (e1.frozen hlt h.f3)
theorem KidI.cells {T O : Nat} {w W0 wr : World} {ts : List Tm} {u0 u1 u2 : Value} {av : Option Addr} {cv : Nat} (h : KidI T w W0 O ts u0 u1 u2 av cv wr) (hO : O ≤ W0.heap.size) : (∀ k o, k < O → wr.cell? ⟨k, o, none⟩ = W0.cell? ⟨k, o, none⟩) ∧ (∀ k o, k < O → wr.frozen? ⟨k, o, none⟩ = W0.frozen? ⟨k, o, none⟩) :=
  ⟨fun k o hk => h.fr.cells.1 k o (by omega) (by omega), fun k o hk => h.fr.cells.2 k o (by omega) (by omega)⟩
theorem KidI.ext {T O : Nat} {w W0 wr : World} {ts : List Tm} {u0 u1 u2 : Value} {av : Option Addr} {cv : Nat} (h : KidI T w W0 O ts u0 u1 u2 av cv wr) (e : Ext w W0) (hO : w.heap.size ≤ O) : Ext w wr :=
  ((Fr.of_ext e).trans h.fr).toExt (fun k hk hm => by omega)
end Go.Proofs.YtognkaebiafgbaaGreatDoor

namespace Go.Proofs.YtognkaebiafgbaaGreatDoor
open Go.RowKit
set_option linter.unusedVariables false
def IntI (Z : Nat → Prop) (zs : List Int) (v : Value) (w : World) : Prop := w.ownsRow 0 3 1 v zs.length (zs.map (Value.int .i64)) ∧ (∀ g, v.ownBlock = some g → Z g) ∧ zs.length ≤ 1048576
theorem IntI.nil (Z : Nat → Prop) (w : World) : IntI Z [] (.slice none 0 0) w := ⟨⟨rfl, .inl ⟨rfl, rfl⟩⟩, by simp [Value.ownBlock], by simp⟩
theorem IntI.form {Z : Nat → Prop} {zs : List Int} {v : Value} {w : World} (h : IntI Z zs v w) : ∃ a c, v = .slice a zs.length c := own_form h.1
theorem IntI.empty {w : World} {b : Nat} {Z : Nat → Prop} (hb : b = w.heap.size) (hz : Z b) : IntI Z [] (.slice (some ⟨b, 0, none⟩) 0 0) (w.alloc (.cells #[] 3)) := by
  subst hb
  refine ⟨⟨rfl, .inr ⟨w.heap.size, 0, #[], rfl, Nat.zero_le _, ?_, by simp, by decide, rfl, rfl⟩⟩, by intro g hg; simp [Value.ownBlock] at hg; subst hg; exact hz, by simp⟩
  show (w.heap.push _)[w.heap.size]? = _
  simp
theorem own_keep {w w' : World} {e size n : Nat} {v : Value} {xs : List Value} {M : Nat → Prop} (h : w.ownsRow 0 e size v n xs) (f : Fr M w w') (hM : ∀ g, v.ownBlock = some g → ¬ M g) : w'.ownsRow 0 e size v n xs := by
  obtain ⟨e1, e2⟩ := h
  refine ⟨e1, ?_⟩
  rcases e2 with e2 | ⟨g, cap, cur, rfl, e3, e4, e5⟩
  · exact .inl e2
  · refine .inr ⟨g, cap, cur, rfl, e3, ?_, e5⟩
    rw [f.block g (by
      obtain ⟨x, _⟩ := Array.getElem?_eq_some_iff.1 e4
      exact x) (hM g rfl)]
    exact e4
theorem IntI.keep {Z M : Nat → Prop} {zs : List Int} {v : Value} {w w' : World} (h : IntI Z zs v w) (f : Fr M w w') (hM : ∀ k, k < w.heap.size → M k → ¬ Z k) : IntI Z zs v w' := by
  refine ⟨own_keep h.1 f (fun g hg hm => ?_), h.2⟩
  exact hM g (h.1.lt g hg).2 hm (h.2.1 g hg)
theorem IntI.ext {Z : Nat → Prop} {zs : List Int} {v : Value} {w w' : World} (h : IntI Z zs v w) (e : Ext w w') : IntI Z zs v w' := h.keep (M := fun _ => False) (Fr.of_ext e) (fun _ _ h => h.elim)
theorem IntI.bound {Z : Nat → Prop} {zs : List Int} {v : Value} {w : World} (h : IntI Z zs v w) : IntI (fun b => Z b ∧ b < w.heap.size) zs v w := ⟨h.1, fun g hg => ⟨h.2.1 g hg, (h.1.lt g hg).2⟩, h.2.2⟩
theorem IntsAt.ext {w w' : World} {zs : List Int} {v : Value} (h : IntsAt w zs v) (e : Ext w w') : IntsAt w' zs v := by
  obtain ⟨a, cap, h1, h2, h3, h4, h5⟩ := h
  refine ⟨a, cap, h1, h2, h3, h4, ?_⟩
  rcases h5 with h5 | ⟨b, off, h5, h6⟩
  · exact .inl h5
  · exact .inr ⟨b, off, h5, fun i z hz => e.cell (h6 i z hz)⟩
end Go.Proofs.YtognkaebiafgbaaGreatDoor

namespace Go.Proofs.YtognkaebiafgbaaGreatDoor
open Go.RowKit
set_option linter.unusedVariables false
def drawNames : List ByteArray := [⟨#[97]⟩, ⟨#[98]⟩, ⟨#[110, 105, 108]⟩, ⟨#[91, 93]⟩, ⟨#[102, 111, 111]⟩, ⟨#[43]⟩, ⟨#[46]⟩, ⟨#[102]⟩, ⟨#[103]⟩, ⟨#[115]⟩, ⟨#[61]⟩, ⟨#[105, 115]⟩]
def Drawn : Nat → Tm → Prop
  | 0, _ => False
  | d + 1, .mk k n s ks => (k = 1 ∧ 0 ≤ n ∧ n ≤ 3 ∧ s = ⟨#[]⟩ ∧ ks = []) ∨ (k = 2 ∧ -999 ≤ n ∧ n ≤ 999 ∧ s = ⟨#[]⟩ ∧ ks = []) ∨ (k = 3 ∧ n = 0 ∧ s ∈ drawNames ∧ ks.length ≤ 3 ∧ ∀ u ∈ ks, Drawn d u)
theorem Drawn.name {d : Nat} {t : Tm} (h : Drawn d t) : t.name.size ≤ 6 := by
  obtain ⟨k, n, s, ks⟩ := t
  cases d with
  | zero => exact h.elim
  | succ d =>
    rcases h with ⟨_, _, _, rfl, _⟩ | ⟨_, _, _, rfl, _⟩ | ⟨_, _, h3, _⟩
    · show (⟨#[]⟩ : ByteArray).size ≤ 6; decide
    · show (⟨#[]⟩ : ByteArray).size ≤ 6; decide
    · have hall : ∀ x ∈ drawNames, x.size ≤ 6 := by decide
      exact hall s h3
theorem sl_new {S : Nat → Prop} {w : World} {ts : List Tm} {xs : List Value} {cs : Array Value} {T n : Nat} (h : Tm.flat S w ts xs) (hcs : cs = xs.toArray) (hn : ts.length = n) (hl : n ≤ 1048576) :
    Tm.sl (fun b => S b ∨ b = w.heap.size) (w.alloc (.cells cs T)) ts (.slice (some ⟨w.heap.size, 0, none⟩) n n) := by
  subst hn hcs
  refine ⟨_, _, rfl, Nat.le_refl _, by omega, hl, .inr ⟨w.heap.size, 0, rfl, .inr rfl, ?_⟩⟩
  refine flat_row (flat_mono (fun b h => .inl h) (Agree.of_ext (Ext.alloc _ _)) h) fun j hj => ?_
  rw [List.getElem?_eq_getElem hj]
  exact cell_new _ _ _ _ _ (by simp [hj])
end Go.Proofs.YtognkaebiafgbaaGreatDoor

namespace Go.Proofs.YtognkaebiafgbaaGreatDoor
open Go.RowKit
set_option linter.unusedVariables false
theorem AppI.bound {T : Nat} {Z : Nat → Prop} {ts : List Tm} {v : Value} {w : World} (h : AppI T Z ts v w) : AppI T (fun b => Z b ∧ b < w.heap.size) ts v w := by
  obtain ⟨xs, h1, h2, h3⟩ := h
  exact ⟨xs, h1, fun g hg => ⟨h2 g hg, (h1.lt g hg).2⟩, flat_mono (fun b h => ⟨⟨h.1.1, h.2⟩, h.1.2⟩) (Agree.refl w) (flat_bound h3)⟩
end Go.Proofs.YtognkaebiafgbaaGreatDoor

namespace Go.Proofs.YtognkaebiafgbaaGreatDoor
open Go.RowKit
set_option linter.unusedVariables false
def BoxT (w : World) (b : Nat) (v0 v1 v2 v3 : Value) : Prop :=
  w.cell? ⟨b, 0, none⟩ = some v0 ∧ w.cell? ⟨b, 1, none⟩ = some v1 ∧ w.cell? ⟨b, 2, none⟩ = some v2 ∧ w.cell? ⟨b, 3, none⟩ = some v3 ∧
    w.frozen? ⟨b, 0, none⟩ = false ∧ w.frozen? ⟨b, 1, none⟩ = false ∧ w.frozen? ⟨b, 2, none⟩ = false ∧ w.frozen? ⟨b, 3, none⟩ = false
theorem BoxT.lt {w : World} {b : Nat} {v0 v1 v2 v3 : Value} (h : BoxT w b v0 v1 v2 v3) : b < w.heap.size := block_lt_of_cell h.1
theorem BoxT.fr {M : Nat → Prop} {w w' : World} {b : Nat} {v0 v1 v2 v3 : Value} (h : BoxT w b v0 v1 v2 v3) (f : Fr M w w') (hb : ¬ M b) : BoxT w' b v0 v1 v2 v3 :=
  ⟨f.cell hb h.1, f.cell hb h.2.1, f.cell hb h.2.2.1, f.cell hb h.2.2.2.1, f.frozen h.lt hb h.2.2.2.2.1, f.frozen h.lt hb h.2.2.2.2.2.1, f.frozen h.lt hb h.2.2.2.2.2.2.1, f.frozen h.lt hb h.2.2.2.2.2.2.2⟩
theorem BoxT.ext {w w' : World} {b : Nat} {v0 v1 v2 v3 : Value} (h : BoxT w b v0 v1 v2 v3) (e : Ext w w') : BoxT w' b v0 v1 v2 v3 := h.fr (M := fun _ => False) (Fr.of_ext e) (fun h => h)
theorem BoxT.new (w : World) (v0 v1 v2 v3 : Value) (T : Nat) {b : Nat} (hb : b = w.heap.size) : BoxT (w.alloc (.cells #[v0, v1, v2, v3] T)) b v0 v1 v2 v3 := by
  subst hb
  refine ⟨?_, ?_, ?_, ?_, ?_, ?_, ?_, ?_⟩ <;> go_simp
theorem BytesAt.ext {w w' : World} {v : Value} (h : BytesAt w v) (e : Ext w w') : BytesAt w' v := by
  obtain ⟨a, len, cap, h1, h2, h3, h4⟩ := h
  refine ⟨a, len, cap, h1, h2, h3, ?_⟩
  rcases h4 with h4 | ⟨b, off, h4, h5⟩
  · exact .inl h4
  · exact .inr ⟨b, off, h4, fun i hi => let ⟨n, hn, hc⟩ := h5 i hi; ⟨n, hn, e.cell hc⟩⟩
end Go.Proofs.YtognkaebiafgbaaGreatDoor

namespace Go.Proofs.YtognkaebiafgbaaGreatDoor
open Go.RowKit
set_option linter.unusedVariables false
theorem shapeL_mem : ∀ {ts : List Tm} {d : Nat} {t : Tm}, shapeL ts d = true → t ∈ ts → shapeF t d = true
  | [], _, _, _, hm => by simp at hm
  | u :: ts, d, t, h, hm => by
    simp only [shapeL, Bool.and_eq_true] at h
    rcases List.mem_cons.1 hm with rfl | hm
    · exact h.1
    · exact shapeL_mem h.2 hm
end Go.Proofs.YtognkaebiafgbaaGreatDoor

namespace Go.Proofs.YtognkaebiafgbaaGreatDoor
open Go.RowKit
set_option linter.unusedVariables false
theorem shape_own {k n : Int} {s : ByteArray} {ks : List Tm} {d : Nat} (h : shapeF (.mk k n s ks) d = true) : (k = 1 ∧ s.toList = [] ∧ ks = []) ∨ (k = 2 ∧ s.toList = [] ∧ ks = []) ∨ (k = 3 ∧ n = 0) := by
  simp only [shapeF, Bool.and_eq_true] at h
  have h2 := h.1.2
  unfold ownF at h2
  split at h2
  · rename_i hk
    simp at h2
    exact .inl ⟨hk, by simpa using h2.1.2, List.eq_nil_of_length_eq_zero (by simpa using h2.2)⟩
  · split at h2
    · rename_i hk
      simp at h2
      exact .inr (.inl ⟨hk, by simpa using h2.1.2, List.eq_nil_of_length_eq_zero (by simpa using h2.2)⟩)
    · split at h2
      · rename_i hk
        simp at h2
        exact .inr (.inr ⟨hk, h2.1.1⟩)
      · cases h2
end Go.Proofs.YtognkaebiafgbaaGreatDoor

namespace Go.Proofs.YtognkaebiafgbaaGreatDoor
open Go.RowKit
set_option linter.unusedVariables false
def zeroT : Tm := .mk 0 0 ⟨#[]⟩ []
theorem shape_kid {k n : Int} {s : ByteArray} {ks : List Tm} {d : Nat} (h : shapeF (.mk k n s ks) d = true) {j : Nat} {t : Tm} (ht : ks[j]? = some t) : shapeF t (d - 1) = true := by
  simp only [shapeF, Bool.and_eq_true] at h
  exact shapeL_mem h.2 (List.mem_of_getElem? ht)
theorem shape_var {n : Int} {s : ByteArray} {ks : List Tm} {d : Nat} (h : shapeF (.mk 1 n s ks) d = true) : 0 ≤ n ∧ n ≤ 25 := by
  simp only [shapeF, Bool.and_eq_true] at h
  have h2 := h.1.2
  unfold ownF at h2
  simp at h2
  exact ⟨h2.1.1.1, h2.1.1.2⟩
def lookK (K : List Tm) (n : Int) : Tm := (K[n.toNat]?).getD zeroT
def LeK (K K' : List Tm) : Prop := ∀ n : Int, 0 ≤ n ∧ n ≤ 25 → (lookK K n).kind ≠ 0 → lookK K' n = lookK K n
theorem LeK.trans {A B C : List Tm} (h : LeK A B) (g : LeK B C) : LeK A C := fun n hn hz => by
  have h1 := h n hn hz
  rw [g n hn (by rw [h1]; exact hz), h1]
end Go.Proofs.YtognkaebiafgbaaGreatDoor
