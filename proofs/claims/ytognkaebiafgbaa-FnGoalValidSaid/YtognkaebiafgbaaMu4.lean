/-
  The reference's draws of terms (begun): l1Var, l1Int.
-/
import Derived.Test.YtognkaebiafgbaaRows
import Derived.WalkLawsBesides
import Derived.Laws.EntriesVeiled
import Derived.Deep.RegionLaw
import Derived.Test.YtognkaebiafgbaaMu3
import Derived.Test.YtognkaebiafgbaaMu2
namespace Go.Proofs.Ytognkaebiafgbaa
open Go.RowKit
set_option linter.unusedVariables false
set_option maxHeartbeats 1000000 in
theorem specl1Var (n : Int) (w : World) : Calls Try.prog 42 #[.int .i64 n] w fun e w' => ∃ v, e = .returned v ∧ (∀ S, Tm.at S w' (.mk 1 n ⟨#[]⟩ []) v) ∧ Ext w w' := by
  go_enter Try.func42, Try.ntmps42
  go_wp2_with fail
  refine ret4 (p := 2) (T := 25) (v0 := .int .i64 1) (v1 := .int .i64 n) (v2 := .string ⟨#[]⟩) (v3 := .slice none 0 0) (by kernel_rfl) (fun _ => by kernel_rfl) (fun _ => by kernel_rfl) rfl rfl (by go_simp) (by go_simp) (by go_simp) (by go_simp) ?_
  exact ⟨_, rfl, fun S => Tm.at_iff.2 ⟨by show (⟨#[]⟩ : ByteArray).size ≤ 1048576; decide, _, rfl, none, 0, by simp [Tm.kids], by simp [Tm.kids], by omega, by simp [Tm.kids], .inl rfl⟩, Ext.alloc _ _⟩
set_option maxHeartbeats 1000000 in
theorem specl1Int (n : Int) (w : World) : Calls Try.prog 29 #[.int .i64 n] w fun e w' => ∃ v, e = .returned v ∧ (∀ S, Tm.at S w' (.mk 2 n ⟨#[]⟩ []) v) ∧ Ext w w' := by
  go_enter Try.func29, Try.ntmps29
  go_wp2_with fail
  refine ret4 (p := 2) (T := 25) (v0 := .int .i64 2) (v1 := .int .i64 n) (v2 := .string ⟨#[]⟩) (v3 := .slice none 0 0) (by kernel_rfl) (fun _ => by kernel_rfl) (fun _ => by kernel_rfl) rfl rfl (by go_simp) (by go_simp) (by go_simp) (by go_simp) ?_
  exact ⟨_, rfl, fun S => Tm.at_iff.2 ⟨by show (⟨#[]⟩ : ByteArray).size ≤ 1048576; decide, _, rfl, none, 0, by simp [Tm.kids], by simp [Tm.kids], by omega, by simp [Tm.kids], .inl rfl⟩, Ext.alloc _ _⟩
set_option maxHeartbeats 1000000 in
theorem specl1Struct0 (s : ByteArray) (w : World) (hs : s.size ≤ 1048576) : Calls Try.prog 26 #[.string s, .slice none 0 0] w fun e w' => ∃ v, e = .returned v ∧ (∀ S, Tm.at S w' (.mk 3 0 s []) v) ∧ Ext w w' := by
  go_enter Try.func26, Try.ntmps26
  go_wp2_with fail
  refine ret4 (p := 4) (T := 25) (v0 := .int .i64 3) (v1 := .int .i64 0) (v2 := .string s) (v3 := .slice (some ⟨w.heap.size + 1, 0, none⟩) 0 0) (by kernel_rfl) (fun _ => by kernel_rfl) (fun _ => by kernel_rfl) rfl rfl (by go_simp) (by go_simp) (by go_simp) (by go_simp) ?_
  exact ⟨_, rfl, fun S => Tm.at_iff.2 ⟨hs, _, rfl, some ⟨w.heap.size + 1, 0, none⟩, 0, by simp [Tm.kids], by simp [Tm.kids], by omega, by simp [Tm.kids], .inl rfl⟩, (Ext.alloc _ _).trans (Ext.alloc _ _)⟩
end Go.Proofs.Ytognkaebiafgbaa

namespace Go.Proofs.Ytognkaebiafgbaa
open Go.RowKit
set_option linter.unusedVariables false
theorem step_append_fresh {P : Program} {ops : Array Oper} {o : Oper} {a : Act} {w : World} {K : Act → World → Prop} {Q : Exit → Act → World → Prop} {E : Prop}
    (hgd : o.guard = none) (s x : Operand) (t : TypeId)
    (ho : o.op = .call { callee := .builtin .append, args := #[s, x], argTypes := #[t, t] })
    (base : Nat) (e : TypeId) (i : TypeInfo) (z : Value) (size bytes : Nat) (ht : P.underlying t = some (.slice e)) (hi : P.info? e = some i) (hz : i.zero = some z)
    (hsize : i.size = size) (hby : i.bytes = bytes) (hzs : z.cells.size = size) (hsz : 0 < size)
    (v : Value) (n : Nat) (xs : List Value) (hs : a.eval s = v) (hown : w.ownsRow base e size v n xs)
    (ad : Addr) (m c : Nat) (news : List Value) (hx : a.eval x = .slice (some ad) m c) (hl : news.length = m * size) (hnews : ∀ j u, news[j]? = some u → w.cell? (ad.add j) = some u) (h1 : ∀ u ∈ news, u.oneCell' = true)
    (h63 : n + m ≤ maxLen) (hbytes : (n + m) * bytes ≤ 140737488355328) (hbase : base ≤ w.heap.size)
    (h : ∀ v' w', w'.ownsRow base e size v' (n + m) (xs ++ news) → w.grownBy w' v.ownBlock → (∀ g, v'.ownBlock = some g → v.ownBlock = some g ∨ w.heap.size ≤ g) → K (a.put o.dst v') w') :
    if Region.wanted o (yielded ops a.tmps) = true then Oper.wp P o a w K Q else E := by
  have hw : Region.wanted o (yielded ops a.tmps) = true := by simp [Region.wanted, hgd]
  rw [if_pos hw]
  obtain ⟨v', w', hr, h2, h3, h4⟩ := run_append_own (P := P) w base t o.type e i z size bytes ht hi hz hsize hby hzs hsz v n xs hown ad m c news hl hnews h1 h63 hbytes hbase
  have h5 := append_fresh base t o.type e i z size bytes ht hi hz hsize hby hzs hsz v n xs hown ad m c news hl hnews h1 h63 hbytes hbase v' w' hr
  unfold Oper.wp execOp
  simp only [ho, resolve, invoke, builtin, Sem.run_bind, Sem.run_pure, Result.andThen_ok, List.map_toArray, List.map_cons, List.map_nil, hs, hx, hr]
  exact h v' w' h2 h3 h5
end Go.Proofs.Ytognkaebiafgbaa

namespace Go.Proofs.Ytognkaebiafgbaa
open Go.RowKit
set_option linter.unusedVariables false
theorem tget {S : Nat → Prop} {w : World} {ts : List Tm} {a : Option Addr} {k : Nat} {t : Tm}
    (h : ts = [] ∨ ∃ b off, a = some ⟨b, off, none⟩ ∧ S b ∧ Tm.row S w b off ts) (ht : ts[k]? = some t) :
    ∃ b off ak ck, a = some ⟨b, off, none⟩ ∧ S b ∧
      w.cell? ⟨b, off + k * 4, none⟩ = some (.int .i64 t.kind) ∧ w.cell? ⟨b, off + k * 4 + 1, none⟩ = some (.int .i64 t.n) ∧ w.cell? ⟨b, off + k * 4 + 2, none⟩ = some (.string t.name) ∧
        w.cell? ⟨b, off + k * 4 + 3, none⟩ = some (.slice ak t.kids.length ck) ∧ Tm.at S w t (.agg #[.int .i64 t.kind, .int .i64 t.n, .string t.name, .slice ak t.kids.length ck]) := by
  rcases h with h4 | ⟨b, off, rfl, hSb, hrow⟩
  · rw [h4] at ht; simp at ht
  obtain ⟨ak, ck, c1, c2, c3, c4, hat⟩ := Tm.at_of_cells (Tm.row_get hrow k t ht)
  exact ⟨b, off, ak, ck, rfl, hSb, c1, c2, c3, c4, hat⟩
def FuncStep (fid : FuncId) (caps : Array Value) (ts : List Tm) (S : Nat → Prop) (I : Nat → World → Prop) (b : Nat → Bool) : Prop :=
  ∀ (j : Nat) (t : Tm) (vt : Value) (w : World), ts[j]? = some t → (∀ i, i < j → b i = false) → I j w → Tm.at S w t vt → Calls Try.prog fid (#[vt] ++ caps) w fun e w' => e = .returned (.bool (b j)) ∧ I (j + 1) w'
def IndexPost (n : Nat) (I : Nat → World → Prop) (b : Nat → Bool) (e : Ending) (w' : World) : Prop :=
  ((∃ j, j < n ∧ (∀ i, i < j → b i = false) ∧ b j = true ∧ e = .returned (.int .i64 j) ∧ I (j + 1) w') ∨ ((∀ i, i < n → b i = false) ∧ e = .returned (.int .i64 (-1)) ∧ I n w'))
set_option maxHeartbeats 1000000 in
theorem slicesIndexFunc (fid : FuncId) (caps : Array Value) (ts : List Tm) (S : Nat → Prop) (I : Nat → World → Prop) (b : Nat → Bool) (v : Value) (w : World)
    (hcf : ∀ args w, Sem.run Try.prog (callFunc fid args) w = .ok (.enter fid args) w) (hstep : Hid (FuncStep fid caps ts S I b)) (hI : Hid (∀ j w, I j w → Tm.sl S w ts v)) (h0 : Hid (I 0 w)) :
    Calls Try.prog 50 #[v, .func (.func fid) #[] caps] w (IndexPost ts.length I b) := by
  obtain ⟨a, cap, rfl, h1, h2, h3, h4⟩ := hI.out 0 w h0.out
  clear h4
  go_enter Try.func50, Try.ntmps50
  go_wp2_with fail
  go_loopw [5, 8] (fun _ i wr => ∃ k : Nat, k ≤ ts.length ∧ i = .int .i64 k ∧ Hid (∀ i, i < k → b i = false) ∧ Hid (I k wr)) (fun _ i _ => ts.length - (intOf i).toNat)
  case atStart => exact ⟨0, Nat.zero_le _, rfl, fun i hi => absurd hi (by omega), h0⟩
  case round =>
    obtain ⟨k, hk, rfl, HB, HK⟩ := hrel
    by_cases hlt : k < ts.length
    · obtain ⟨tk, htk⟩ := getk hlt
      obtain ⟨a', cap', ha, _, _, _, h4⟩ := hI.out k wr HK.out
      cases ha
      obtain ⟨bb, off, ak, ck, rfl, hSb, c1, c2, c3, c4, hat⟩ := tget h4 htk
      have HC := Lib.hid (hstep.out k tk _ wr htk HB.out HK.out hat)
      clear h4 htk hat hSb
      cases hb : b k
      all_goals
        rw [hb] at HC
        have Hb := Lib.hid hb
        clear hb
        go_wp2_with fail
        refine HC.out.mono ?_
        rintro e w' ⟨rfl, hk'⟩
        have HK' := Lib.hid hk'
        clear hk'
        go_wp2_with fail
        first
          | (go_ret; exact .inl ⟨k, hlt, HB.out, Hb.out, rfl, HK'.out⟩)
          | (go_roundw
             case rel => exact ⟨k + 1, by omega, by go_num, fun i hi => by
               by_cases e : i = k
               · rw [e]; exact Hb.out
               · exact HB.out i (by omega), HK'⟩
             case measure => simp [intOf]; omega)
    · go_wp2_with fail
      go_ret
      exact .inr ⟨fun i hi => HB.out i (by omega), rfl, by rw [show ts.length = k by omega]; exact HK.out⟩
def ContPost (n : Nat) (I : Nat → World → Prop) (b : Nat → Bool) (e : Ending) (w' : World) : Prop :=
  ((∃ j, j < n ∧ (∀ i, i < j → b i = false) ∧ b j = true ∧ e = .returned (.bool true) ∧ I (j + 1) w') ∨ ((∀ i, i < n → b i = false) ∧ e = .returned (.bool false) ∧ I n w'))
set_option maxHeartbeats 1000000 in
theorem slicesContainsFunc (fid : FuncId) (caps : Array Value) (ts : List Tm) (S : Nat → Prop) (I : Nat → World → Prop) (b : Nat → Bool) (v : Value) (w : World)
    (hcf : ∀ args w, Sem.run Try.prog (callFunc fid args) w = .ok (.enter fid args) w) (hstep : Hid (FuncStep fid caps ts S I b)) (hI : Hid (∀ j w, I j w → Tm.sl S w ts v)) (h0 : Hid (I 0 w)) :
    Calls Try.prog 38 #[v, .func (.func fid) #[] caps] w (ContPost ts.length I b) := by
  have HC := Lib.hid (slicesIndexFunc fid caps ts S I b v w hcf hstep hI h0)
  obtain ⟨a, cap, rfl, h1, h2, h3, h4⟩ := hI.out 0 w h0.out
  clear h4 hcf
  go_enter Try.func38, Try.ntmps38
  go_wp2_with fail
  refine HC.out.mono ?_
  rintro e w' (⟨j, hj, hb, hbj, rfl, hI'⟩ | ⟨hb, rfl, hI'⟩)
  · have H1 := Lib.hid hb
    have H2 := Lib.hid hbj
    have H3 := Lib.hid hI'
    clear hb hbj hI'
    go_wp2_with fail
    go_ret
    exact .inl ⟨j, hj, H1.out, H2.out, rfl, H3.out⟩
  · have H1 := Lib.hid hb
    have H3 := Lib.hid hI'
    clear hb hI'
    go_wp2_with fail
    go_ret
    exact .inr ⟨H1.out, rfl, H3.out⟩
end Go.Proofs.Ytognkaebiafgbaa

namespace Go.Proofs.Ytognkaebiafgbaa
open Go.RowKit
set_option linter.unusedVariables false
theorem info_term3 : (Try.prog.info? 25).map (fun i => (i.zero, i.size, i.bytes)) = some (some (.agg #[.int .i64 0, .int .i64 0, .string ⟨#[]⟩, .slice none 0 0]), 4, 56) := by kernel_rfl
theorem ext_cells {W w1 : World} (h : Ext W w1) : ∀ b o, b < W.heap.size → w1.cell? ⟨b, o, none⟩ = W.cell? ⟨b, o, none⟩ := fun b o hb => Below.cell (p := ⟨b, o, none⟩) h hb
theorem cell_four (w : World) (t : Tm) (T : Nat) {a : Option Addr} {c : Nat} (j : Nat) (u : Value) (h : (tcells t a c)[j]? = some u) :
    (w.alloc (.cells #[.int .i64 t.kind, .int .i64 t.n, .string t.name, .slice a t.kids.length c] T)).cell? ((⟨w.heap.size, 0, none⟩ : Addr).add j) = some u := by
  rw [show (⟨w.heap.size, 0, none⟩ : Addr).add j = ⟨w.heap.size, 0 + j, none⟩ by unfold Addr.add; split <;> simp_all]
  exact cell_new _ _ _ _ _ (by simpa [tcells] using h)
theorem own_form {w : World} {base e size n : Nat} {v : Value} {xs : List Value} (h : w.ownsRow base e size v n xs) : ∃ a c, v = .slice a n c := by
  rcases h.2 with ⟨rfl, rfl⟩ | ⟨g, cap, cur, rfl, _⟩
  · exact ⟨none, 0, rfl⟩
  · exact ⟨_, _, rfl⟩
theorem own_ge {w : World} {base e size n : Nat} {v : Value} {xs : List Value} (h : w.ownsRow base e size v n xs) : ∀ g, v.ownBlock = some g → base ≤ g := fun g hg => (h.lt g hg).1
theorem flat_bound {S : Nat → Prop} {w : World} : ∀ {ts : List Tm} {xs : List Value}, Tm.flat S w ts xs → Tm.flat (fun b => S b ∧ b < w.heap.size) w ts xs
  | [], xs, h => h
  | t :: ts, xs, h => by
    obtain ⟨a, cap, rest, rfl, h1, h2⟩ := h
    exact ⟨a, cap, rest, rfl, Tm.at_bound h1, flat_bound h2⟩
end Go.Proofs.Ytognkaebiafgbaa

namespace Go.Proofs.Ytognkaebiafgbaa
open Go.RowKit
set_option linter.unusedVariables false
theorem row_flat {S : Nat → Prop} {w : World} {b : Nat} : ∀ {ts : List Tm} {off : Nat}, Tm.row S w b off ts → ∃ xs, Tm.flat S w ts xs ∧ ∀ j u, xs[j]? = some u → w.cell? ⟨b, off + j, none⟩ = some u
  | [], off, _ => ⟨[], by simp [Tm.flat], by simp⟩
  | t :: ts, off, h => by
    simp only [Tm.row] at h
    obtain ⟨a, cap, h1, h2, h3, h4, h5⟩ := Tm.at_of_cells h.1
    obtain ⟨xs, hx, hc⟩ := row_flat h.2
    refine ⟨tcells t a cap ++ xs, ⟨a, cap, xs, rfl, h5, hx⟩, ?_⟩
    intro j u hj
    match j with
    | 0 => simp [tcells] at hj; subst hj; exact h1
    | 1 => simp [tcells] at hj; subst hj; exact h2
    | 2 => simp [tcells] at hj; subst hj; exact h3
    | 3 => simp [tcells] at hj; subst hj; exact h4
    | j + 4 =>
      simp [tcells] at hj
      rw [show off + (j + 4) = off + 4 + j by omega]
      exact hc j u hj
theorem flat_one {S : Nat → Prop} {w : World} : ∀ {ts : List Tm} {xs : List Value}, Tm.flat S w ts xs → ∀ u ∈ xs, u.oneCell' = true
  | [], xs, h => by simp only [Tm.flat] at h; subst h; simp
  | t :: ts, xs, h => by
    obtain ⟨a, cap, rest, rfl, h1, h2⟩ := h
    have := flat_one h2
    simp [tcells, Value.oneCell']
    exact this
theorem own_empty {w : World} {T b : Nat} (hb : b = w.heap.size) : (w.alloc (.cells #[] T)).ownsRow b T 4 (.slice (some ⟨b, 0, none⟩) 0 0) 0 [] := by
  subst hb
  refine ⟨rfl, .inr ⟨w.heap.size, 0, #[], rfl, Nat.le_refl _, ?_, by omega, by decide, rfl, rfl⟩⟩
  show (w.heap.push _)[w.heap.size]? = _
  simp
theorem grown_cells {W w2 : World} {v : Value} {base : Nat} (hg : W.grownBy w2 v.ownBlock) (hv : ∀ g, v.ownBlock = some g → base ≤ g) (hb : base ≤ W.heap.size) :
    (∀ b o, b < base → w2.cell? ⟨b, o, none⟩ = W.cell? ⟨b, o, none⟩) ∧ (∀ b o, b < base → w2.frozen? ⟨b, o, none⟩ = W.frozen? ⟨b, o, none⟩) :=
  ⟨fun b o h => World.cell?_of_block (w := W) (a := ⟨b, o, none⟩) (hg.block b (by omega) (fun e => by have := hv b e.symm; omega)),
   fun b o h => World.frozen?_of_block (w := W) (a := ⟨b, o, none⟩) (hg.block b (by omega) (fun e => by have := hv b e.symm; omega))⟩
def StructC (s : ByteArray) (ts : List Tm) : Prop := ∀ (v : Value) (S : Nat → Prop) (w : World), Tm.sl S w ts v →
  Calls Try.prog 26 #[.string s, v] w fun e w' => ∃ v', e = .returned v' ∧ Tm.at (fun b => S b ∨ w.heap.size ≤ b) w' (.mk 3 0 s ts) v' ∧ Ext w w'
set_option maxRecDepth 100000 in
set_option maxHeartbeats 1000000 in
theorem specl1Struct (s : ByteArray) (ts : List Tm) (hs : s.size ≤ 1048576) (hts : ts ≠ []) : StructC s ts := by
  intro v S w hv
  obtain ⟨i0, hi, hz0, hz1, hz2⟩ := info_parts info_term3
  obtain ⟨a, cap, rfl, h1, h2, h3, h4⟩ := hv
  obtain ⟨b, off, rfl, hSb, hrow⟩ := h4.resolve_left hts
  obtain ⟨xs, hfl, hcs⟩ := row_flat hrow
  have hlen := flat_len hfl
  have h1c := flat_one hfl
  have HCS := Lib.hid (fun W (E : Ext w W) j u (h : xs[j]? = some u) => (show W.cell? ((⟨b, off, none⟩ : Addr).add j) = some u by
    rw [show (⟨b, off, none⟩ : Addr).add j = ⟨b, off + j, none⟩ by unfold Addr.add; split <;> simp_all]
    exact E.cell (hcs j u h)))
  have HFL := Lib.hid hfl
  have H1C := Lib.hid h1c
  have HI := Lib.hid hi
  have HZ := Lib.hid hz0
  clear hcs hfl h1c hrow h4 hi hz0
  go_enter Try.func26, Try.ntmps26
  go_wp2_with (at_builtin; refine wpList_append_fresh rfl (.tmp 6) (.tmp 7) 23 rfl (w.heap.size + 1) 25 i0 _ 4 56 Try.underlying23 HI.out HZ.out hz1 hz2 rfl (by decide) (.slice (some ⟨w.heap.size + 1, 0, none⟩) 0 0) 0 [] rfl (own_empty (by simp)) ⟨b, off, none⟩ ts.length cap xs rfl hlen (HCS.out _ ((Ext.alloc _ _).trans (Ext.alloc _ _))) H1C.out (by unfold maxLen; omega) (by omega) (by simp) ?_; intro v2 w2 ho2 hg2 hfr2 _; obtain ⟨av, cv, rfl⟩ := own_form ho2; obtain ⟨kc, kf⟩ := grown_cells hg2 (base := w.heap.size + 1) (fun g h => by simp [Value.ownBlock] at h; omega) (by simp); have HO2 := Lib.hid ho2; have HG2 := Lib.hid hg2; have HFR := Lib.hid hfr2; clear ho2 hg2 hfr2)
  have ho := HO2.out
  rw [Nat.zero_add, List.nil_append] at ho
  have hge := own_ge ho
  have hE : Ext w w2 := ((Ext.alloc _ _).trans (Ext.alloc _ _)).grown HG2.out (fun b h => by simp [Value.ownBlock] at h; omega)
  refine ret4_set (p := 4) (T := 25) (b := w.heap.size) (u0 := .int .i64 0) (u1 := .int .i64 0) (u2 := .string ⟨#[]⟩) (u3 := .slice none 0 0) (by kernel_rfl) (fun _ => by kernel_rfl) (fun _ => by kernel_rfl) rfl rfl (by go_simp) (by go_simp) (by go_simp) (by go_simp) ?_
  intro X hX
  have hsl := own_sl ho (flat_mono (S' := fun b => S b ∧ b < w.heap.size) (fun _ h => h) ((Agree.of_ext hE)) (flat_bound HFL.out)) h3
  refine ⟨_, rfl, Tm.at_iff.2 ⟨hs, _, rfl, Tm.sl_mono ?_ (Agree.grown hX ?_) hsl⟩, hE.grown hX (fun b h => by simp at h; omega)⟩
  · rintro b (⟨hb, _⟩ | hb)
    · exact .inl hb
    · exact .inr (by have := hge b hb; omega)
  · intro b h
    simp at h
    subst h
    rintro (⟨_, hb⟩ | hb)
    · omega
    · have := hge _ hb; omega
end Go.Proofs.Ytognkaebiafgbaa
