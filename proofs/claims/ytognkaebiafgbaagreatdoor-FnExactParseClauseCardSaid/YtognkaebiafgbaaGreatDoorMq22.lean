/-
  A law's marks in one term's memory.
-/
import Derived.Test.YtognkaebiafgbaaGreatDoorMq21
import Derived.Test.YtognkaebiafgbaaGreatDoorMq19
import Derived.Test.YtognkaebiafgbaaGreatDoorMq20
import Derived.Test.YtognkaebiafgbaaGreatDoorMq7
namespace Go.Proofs.YtognkaebiafgbaaGreatDoor
open Go.RowKit
set_option linter.unusedVariables false
theorem own_at {F : Nat → Prop} {w : World} {t : Tm} {a : Option Addr} {c : Nat} (h : OwnS F t.kids (.slice a t.kids.length c) w) (hn : t.name.size ≤ 1048576) (hl : t.kids.length ≤ 1048576) :
    Tm.at F w t (.agg #[.int .i64 t.kind, .int .i64 t.n, .string t.name, .slice a t.kids.length c]) := own_flat t a c (own_iff.2 ⟨hn, hl, h⟩)
theorem own_kids {F : Nat → Prop} {w : World} {t : Tm} {v : Value} (h : Tm.own F w t v) : OwnS F t.kids v w := (own_iff.1 h).2.2
set_option maxRecDepth 100000 in
theorem lawsmarkTerm (t : Tm) (a : Option Addr) (c : Nat) (F : Nat → Prop) (w : World) (k : Nat) (hk : k + 3 * Tm.szL t.kids < 9000000) (ho : OwnS F t.kids (.slice a t.kids.length c) w) :
    Calls Tryz.prog 40 #[.agg #[.int .i64 t.kind, .int .i64 t.n, .string t.name, .slice a t.kids.length c], .int .i64 k] w fun e w' => e = .returned (.int .i64 (k + 3 * Tm.szL t.kids : Nat)) ∧ OwnS F (markL t.kids k) (.slice a t.kids.length c) w' ∧ Fr F w w' := by
  have HK := Lib.hid hk
  have HO := Lib.hid ho
  clear hk ho
  go_enter Tryz.func40, Tryz.ntmps40
  go_wp2_with fail
  refine (lawsmarkTermS _ _ (Nat.le_refl _) F _ _ k HK.out (HO.out.ext (Ext.alloc _ _))).mono ?_
  rintro e w1 ⟨rfl, h1, h2⟩
  have H1 := Lib.hid h1
  have H2 := Lib.hid h2
  clear h1 h2
  go_wp2_with fail
  go_ret
  exact ⟨rfl, H1.out, (Fr.alloc _ _).trans H2.out⟩
set_option maxRecDepth 100000 in
theorem lawsheldTerm (t : Tm) (a : Option Addr) (c : Nat) (F : Nat → Prop) (w : World) (k : Nat) (hk : k + 3 * Tm.szL t.kids < 9000000) (hl : t.kids.length ≤ 1048576) (ho : OwnS F (markL t.kids k) (.slice a t.kids.length c) w) :
    Calls Tryz.prog 41 #[.agg #[.int .i64 t.kind, .int .i64 t.n, .string t.name, .slice a t.kids.length c], .int .i64 k] w fun e w' => e = .returned (.int .i64 (k + 3 * Tm.szL t.kids : Nat)) ∧ Ext w w' := by
  have hsl : Hid (Tm.sl F w (markL t.kids k) (.slice a t.kids.length c)) := Lib.hid (ho.app.sl (by rw [markL_len]; exact hl))
  have HK := Lib.hid hk
  clear hk ho
  go_enter Tryz.func41, Tryz.ntmps41
  go_wp2_with fail
  refine (lawsheldTermS _ _ (Nat.le_refl _) F _ _ k HK.out (Tm.sl_ext (Ext.alloc _ _) hsl.out)).mono ?_
  rintro e w1 ⟨rfl, h1⟩
  have H1 := Lib.hid h1
  clear h1
  go_wp2_with fail
  go_ret
  exact ⟨rfl, (Ext.alloc _ _).trans H1.out⟩
end Go.Proofs.YtognkaebiafgbaaGreatDoor

namespace Go.Proofs.YtognkaebiafgbaaGreatDoor
open Go.RowKit
set_option linter.unusedVariables false
theorem rdops : ∀ F : Nat, PriC true F ∧ TerC F ∧ PartC' true F := by
  intro F
  induction F using Nat.strongRecOn with
  | _ F ih =>
    have hp : PriC true F := by
      cases F with
      | zero => intro rb s deep rest w _ _ _ _ hF; omega
      | succ F => exact rdprim true F (fun G hG => (ih G (by omega)).2.2) (fun _ => (ih F (by omega)).2.1)
    have ht : TerC F := by
      cases F with
      | zero => intro rb s level deep rest w _ _ _ _ _ _ hF; omega
      | succ F => exact rdterm F (ih F (by omega)).1 (fun G hG => (ih G hG).2.1)
    exact ⟨hp, ht, rdpart true F (fun h => by cases h) (fun _ => ht)⟩
def LibG (w : World) : Prop := TabW w ∧ ∃ ev, w.cell? ⟨4, 0, none⟩ = some ev ∧ (ev = .nilIface ∨ ∃ te pe, ev = .iface te pe)
theorem tab_lt {w : World} (h : TabW w) : 5 < w.heap.size := by
  have hg : Tryz.prog.globalNamed "internal/strconv.uint64pow10" = some 5 := by kernel_rfl
  unfold TabW Lib.TabIs World.var? at h
  simp only [hg, Option.bind_some] at h
  apply Decidable.byContradiction
  intro hn
  rw [Array.getElem?_eq_none (by omega)] at h
  simp at h
theorem LibG.lib {w w' : World} (h : LibG w) (e : Ext w w') {rb : Nat} (hrb : w.heap.size ≤ rb) : LibW rb w' := by
  obtain ⟨h1, ev, h2, h3⟩ := h
  have := tab_lt h1
  have h4 := block_lt_of_cell h2
  simp only at h4
  exact ⟨h1.ext e, ⟨ev, e.cell h2, h3⟩, by omega, by omega⟩
theorem LibG.ext {w w' : World} (h : LibG w) (e : Ext w w') : LibG w' := by
  obtain ⟨h1, ev, h2, h3⟩ := h
  exact ⟨h1.ext e, ev, e.cell h2, h3⟩
end Go.Proofs.YtognkaebiafgbaaGreatDoor

namespace Go.Proofs.YtognkaebiafgbaaGreatDoor
open Go.RowKit
set_option linter.unusedVariables false
set_option maxRecDepth 100000 in
set_option maxHeartbeats 2000000 in
theorem rdprimBad {rb : Nat} {s : ByteArray} {o : Bool} {deep : Int} {w : World} (h : RdW rb s o none w) :
    Calls Tryz.prog 88 #[.pointer (some ⟨rb, 0, none⟩), .int .i64 deep] w (RdTm rb s o none w) := by
  have hlt := h.lt
  have H := Lib.hid h
  have ZB := Lib.hid (BoxT.new w (.int .i64 0) (.int .i64 0) (.string ⟨#[]⟩) (.slice none 0 0) 25 rfl)
  have EB := Lib.hid (Ext.alloc w (.cells #[.int .i64 0, .int .i64 0, .string ⟨#[]⟩, .slice none 0 0] 25))
  clear h
  go_enter Tryz.func88, Tryz.ntmps88
  go_upto_region 1 with (fail)
  obtain ⟨wa, hwa⟩ : ∃ z, z = w.alloc (.cells #[.int .i64 0, .int .i64 0, .string ⟨#[]⟩, .slice none 0 0] 25) := ⟨_, rfl⟩
  rw [← hwa] at ZB EB ⊢
  clear hwa
  have H1 := Lib.hid (H.out.ext EB.out)
  obtain ⟨i, bad, hbad, hb⟩ := H1.out.bad
  obtain ⟨c0, c1, c2, c3, f0, f1, f2, f3⟩ := hb
  have la := H1.out.lt
  have bz := ZB.out
  obtain ⟨z0, z1, z2, z3, y0, y1, y2, y3⟩ := bz
  have lz9 := ZB.out.lt
  go_wp2_with fail
  refine ret4_set (p := 4) (T := 25) (b := w.heap.size) (by kernel_rfl) (fun _ => by kernel_rfl) (fun _ => by kernel_rfl) rfl rfl z0 z1 z2 z3 ?_
  intro X hX
  have fX : Fr (fun b => b = w.heap.size) wa X := Fr.of_grown hX (fun k e => by cases e; rfl)
  exact tm_zero rfl (((Fr.of_ext EB.out).trans fX).toExt (fun q hq h => by omega) |> fun e => Fr.of_ext e) (H1.out.fr fX (by omega))
set_option maxRecDepth 100000 in
set_option maxHeartbeats 2000000 in
theorem rdtermBad {rb : Nat} {s : ByteArray} {level deep : Int} {w : World} (hs : s.size ≤ 4000) (h : RdW rb s true none w) :
    Calls Tryz.prog 57 #[.pointer (some ⟨rb, 0, none⟩), .int .i64 level, .int .i64 deep] w (RdTm rb s true none w) := by
  have hlt := h.lt
  have HZ := Lib.hid (BoxT.new w (.int .i64 0) (.int .i64 0) (.string ⟨#[]⟩) (.slice none 0 0) 25 rfl)
  have HP := Lib.hid (rdprimBad (deep := deep) (h.ext (Ext.alloc w (.cells #[.int .i64 0, .int .i64 0, .string ⟨#[]⟩, .slice none 0 0] 25))))
  clear h
  go_enter Tryz.func57, Tryz.ntmps57
  go_wp2_with fail
  refine HP.out.mono ?_
  rintro e w1 ⟨t1, ta1, tc1, rfl, ho1, f1, hr1, _⟩
  have s1 := f1.size
  have s1' : w.heap.size + 1 ≤ w1.heap.size := by simpa using s1
  have W1 := Lib.hid (((Fr.alloc (M := fun k => k = rb) w (.cells #[.int .i64 0, .int .i64 0, .string ⟨#[]⟩, .slice none 0 0] 25)).trans f1).trans (Fr.alloc _ (.cells #[.int .i64 t1.kind, .int .i64 t1.n, .string t1.name, .slice ta1 t1.kids.length tc1] 25)))
  have HZ1 := Lib.hid ((HZ.out.fr f1 (by omega)).ext (Ext.alloc _ (.cells #[.int .i64 t1.kind, .int .i64 t1.n, .string t1.name, .slice ta1 t1.kids.length tc1] 25)))
  have HT1 := Lib.hid (BoxT.new w1 (.int .i64 t1.kind) (.int .i64 t1.n) (.string t1.name) (.slice ta1 t1.kids.length tc1) 25 rfl)
  have O1 := Lib.hid (own_zone (F' := fun b => w.heap.size + 1 ≤ b) (own_ext1 ho1 (Ext.alloc _ (.cells #[.int .i64 t1.kind, .int .i64 t1.n, .string t1.name, .slice ta1 t1.kids.length tc1] 25))) (fun b hb => by have hb' : _ ≤ b := hb; simpa using hb'))
  have R1 := Lib.hid (hr1.ext (Ext.alloc _ (.cells #[.int .i64 t1.kind, .int .i64 t1.n, .string t1.name, .slice ta1 t1.kids.length tc1] 25)))
  clear ho1 f1 hr1 s1
  go_upto_region 2 with (fail)
  obtain ⟨w2, hw2⟩ : ∃ z, z = w1.alloc (.cells #[.int .i64 t1.kind, .int .i64 t1.n, .string t1.name, .slice ta1 t1.kids.length tc1] 25) := ⟨_, rfl⟩
  rw [← hw2] at W1 HZ1 HT1 O1 R1 ⊢
  clear hw2
  go_wp2_with fail
  go_loopg [8] 1 (fun g mv wr => mv = .int .i64 0 ∧ wr = w2 ∧ g = 1)
  case atStart => exact ⟨rfl, rfl, rfl⟩
  case round =>
    obtain ⟨rfl, rfl, hg⟩ := hrel
    have OPR := Lib.hid (rdoperator hs R1.out)
    go_wp2_with fail
    refine OPR.out.mono ?_
    rintro e w3 ⟨rfl, e3⟩
    have Z3 := Lib.hid (HZ1.out.ext e3)
    have T3 := Lib.hid (HT1.out.ext e3)
    have W3 := Lib.hid (W1.out.trans (Fr.of_ext e3))
    have O3 := Lib.hid (own_ext1 O1.out e3)
    have R3 := Lib.hid (R1.out.ext e3)
    have lz := Z3.out.lt
    have lt := T3.out.lt
    have z := Z3.out
    obtain ⟨z0, z1, z2, z3, y0, y1, y2, y3⟩ := z
    have tbx := T3.out
    obtain ⟨m0, m1, m2, m3, n0, n1, n2, n3⟩ := tbx
    go_wp2_with fail
    refine (implOpLevel _ _).mono ?_
    rw [bs_list]
    rintro e w4 ⟨rfl, rfl⟩
    have heq : (bs (opX none)).toList.isEmpty = true := by rw [bs_list]; rfl
    have heq3 : (bs (opX none)).toList = [] := by rw [bs_list]; rfl
    go_wp2_with fail
    exact rd_ret (p := 6) (T := 25) (b := w.heap.size) (t := t1) (ta := ta1) (tc := tc1) (by kernel_rfl) (fun _ => by kernel_rfl) (fun _ => by kernel_rfl) rfl rfl Z3.out (Nat.le_refl _) (by omega) W3.out O3.out (fun k hk => by have hk' : w.heap.size + 1 ≤ k := hk; omega) R3.out (fun u r h => by cases h)
end Go.Proofs.YtognkaebiafgbaaGreatDoor

namespace Go.Proofs.YtognkaebiafgbaaGreatDoor
open Go.RowKit
set_option linter.unusedVariables false
structure Cl where
  head : Tm
  body : List Tm
def Cl.at (S : Nat → Prop) (w : World) (c : Cl) (v : Value) : Prop := ∃ sv bv, v = .agg #[.int .i64 c.head.kind, .int .i64 c.head.n, .string c.head.name, sv, bv] ∧ Tm.at S w c.head (.agg #[.int .i64 c.head.kind, .int .i64 c.head.n, .string c.head.name, sv]) ∧ Tm.sl S w c.body bv
def Cl.cells (S : Nat → Prop) (w : World) (b off : Nat) (c : Cl) : Prop := Tm.cells S w b off c.head ∧ ∃ sv, w.cell? ⟨b, off + 4, none⟩ = some sv ∧ Tm.sl S w c.body sv
def Cl.row (S : Nat → Prop) (w : World) (b off : Nat) : List Cl → Prop
  | [] => True
  | c :: cs => Cl.cells S w b off c ∧ Cl.row S w b (off + 5) cs
def Cl.sl (S : Nat → Prop) (w : World) (cs : List Cl) (v : Value) : Prop :=
  ∃ a cap, v = .slice a cs.length cap ∧ cs.length ≤ cap ∧ cap ≤ 9223372036854775807 ∧ cs.length ≤ 1048576 ∧
    (cs = [] ∨ ∃ b off, a = some ⟨b, off, none⟩ ∧ S b ∧ Cl.row S w b off cs)
theorem Cl.at_mono {S S' : Nat → Prop} {w w' : World} (hS : ∀ b, S b → S' b) (ha : Agree S w w') {c : Cl} {v : Value} (h : Cl.at S w c v) : Cl.at S' w' c v := by
  obtain ⟨hv, bv, h1, h2, h3⟩ := h
  exact ⟨hv, bv, h1, Tm.at_mono hS ha h2, Tm.sl_mono hS ha h3⟩
theorem Cl.at_ext {S : Nat → Prop} {w w' : World} (e : Ext w w') {c : Cl} {v : Value} (h : Cl.at S w c v) : Cl.at S w' c v := Cl.at_mono (fun _ h => h) (Agree.of_ext e) h
theorem Cl.row_mono {S S' : Nat → Prop} {w w' : World} (hS : ∀ b, S b → S' b) (ha : Agree S w w') {b : Nat} (hb : S b) : ∀ (cs : List Cl) (off : Nat), Cl.row S w b off cs → Cl.row S' w' b off cs
  | [], _, _ => trivial
  | c :: cs, off, h => by
    obtain ⟨⟨h1, sv, h2, h3⟩, h4⟩ := h
    exact ⟨⟨Tm.cells_mono hS ha (b' := 0) (fun o v => ha _ o v hb) _ h1, sv, ha _ _ _ hb h2, Tm.sl_mono hS ha h3⟩, Cl.row_mono hS ha hb cs _ h4⟩
theorem Cl.sl_mono {S S' : Nat → Prop} {w w' : World} (hS : ∀ b, S b → S' b) (ha : Agree S w w') {cs : List Cl} {v : Value} (h : Cl.sl S w cs v) : Cl.sl S' w' cs v := by
  obtain ⟨a, cap, h1, h2, h3, h4, h5⟩ := h
  refine ⟨a, cap, h1, h2, h3, h4, ?_⟩
  rcases h5 with h5 | ⟨b, off, h5, h6, h7⟩
  · exact .inl h5
  · exact .inr ⟨b, off, h5, hS _ h6, Cl.row_mono hS ha h6 cs _ h7⟩
theorem Cl.sl_ext {S : Nat → Prop} {w w' : World} (e : Ext w w') {cs : List Cl} {v : Value} (h : Cl.sl S w cs v) : Cl.sl S w' cs v := Cl.sl_mono (fun _ h => h) (Agree.of_ext e) h
theorem Cl.row_get {S : Nat → Prop} {w : World} {b : Nat} : ∀ {cs : List Cl} {off : Nat}, Cl.row S w b off cs → ∀ (i : Nat) (c : Cl), cs[i]? = some c → Cl.cells S w b (off + i * 5) c
  | [], _, _, i, t, h => by simp at h
  | c0 :: cs, off, h, 0, t, ht => by
    simp at ht; subst ht
    simpa using h.1
  | c0 :: cs, off, h, i + 1, t, ht => by
    have := Cl.row_get h.2 i t (by simpa using ht)
    rw [show off + (i + 1) * 5 = off + 5 + i * 5 by omega]
    exact this
theorem Cl.at_of_cells {S : Nat → Prop} {w : World} {b off : Nat} {c : Cl} (h : Cl.cells S w b off c) :
    ∃ a cap a' cap', w.cell? ⟨b, off, none⟩ = some (.int .i64 c.head.kind) ∧ w.cell? ⟨b, off + 1, none⟩ = some (.int .i64 c.head.n) ∧ w.cell? ⟨b, off + 2, none⟩ = some (.string c.head.name) ∧
      w.cell? ⟨b, off + 3, none⟩ = some (.slice a c.head.kids.length cap) ∧ w.cell? ⟨b, off + 4, none⟩ = some (.slice a' c.body.length cap') ∧
      Tm.at S w c.head (.agg #[.int .i64 c.head.kind, .int .i64 c.head.n, .string c.head.name, .slice a c.head.kids.length cap]) ∧ Tm.sl S w c.body (.slice a' c.body.length cap') := by
  obtain ⟨h1, sv, h2, h3⟩ := h
  obtain ⟨a, cap, c0, c1, c2, c3, hat⟩ := Tm.at_of_cells h1
  have h3' := h3
  obtain ⟨a', cap', rfl, _⟩ := h3
  exact ⟨a, cap, a', cap', c0, c1, c2, c3, h2, hat, h3'⟩
theorem Cl.form {S : Nat → Prop} {w : World} {c : Cl} {v : Value} (h : Cl.at S w c v) :
    ∃ a cap a' cap', v = .agg #[.int .i64 c.head.kind, .int .i64 c.head.n, .string c.head.name, .slice a c.head.kids.length cap, .slice a' c.body.length cap'] ∧
      Tm.at S w c.head (.agg #[.int .i64 c.head.kind, .int .i64 c.head.n, .string c.head.name, .slice a c.head.kids.length cap]) ∧ Tm.sl S w c.body (.slice a' c.body.length cap') := by
  obtain ⟨hv, bv, rfl, h2, h3⟩ := h
  have h2' := h2
  have h3' := h3
  obtain ⟨a', cap', rfl, _⟩ := h3
  obtain ⟨_, sv', he, a, cap, rfl, _⟩ := Tm.at_iff.1 h2
  simp only [Value.agg.injEq, Array.mk.injEq, List.cons.injEq, and_true, true_and] at he
  subst he
  exact ⟨a, cap, a', cap', rfl, h2', h3'⟩
def BoxC (w : World) (b : Nat) (v0 v1 v2 v3 v4 : Value) : Prop :=
  w.cell? ⟨b, 0, none⟩ = some v0 ∧ w.cell? ⟨b, 1, none⟩ = some v1 ∧ w.cell? ⟨b, 2, none⟩ = some v2 ∧ w.cell? ⟨b, 3, none⟩ = some v3 ∧ w.cell? ⟨b, 4, none⟩ = some v4 ∧
    w.frozen? ⟨b, 0, none⟩ = false ∧ w.frozen? ⟨b, 1, none⟩ = false ∧ w.frozen? ⟨b, 2, none⟩ = false ∧ w.frozen? ⟨b, 3, none⟩ = false ∧ w.frozen? ⟨b, 4, none⟩ = false
abbrev BoxCZ (w : World) (b : Nat) : Prop := BoxC w b (.int .i64 0) (.int .i64 0) (.string ⟨#[]⟩) (.slice none 0 0) (.slice none 0 0)
theorem BoxC.lt {w : World} {b : Nat} {v0 v1 v2 v3 v4 : Value} (h : BoxC w b v0 v1 v2 v3 v4) : b < w.heap.size := block_lt_of_cell h.1
theorem BoxC.fr {M : Nat → Prop} {w w' : World} {b : Nat} {v0 v1 v2 v3 v4 : Value} (h : BoxC w b v0 v1 v2 v3 v4) (f : Fr M w w') (hb : ¬ M b) : BoxC w' b v0 v1 v2 v3 v4 := by
  have hl := h.lt
  obtain ⟨c0, c1, c2, c3, c4, f0, f1, f2, f3, f4⟩ := h
  exact ⟨f.cell hb c0, f.cell hb c1, f.cell hb c2, f.cell hb c3, f.cell hb c4, f.frozen hl hb f0, f.frozen hl hb f1, f.frozen hl hb f2, f.frozen hl hb f3, f.frozen hl hb f4⟩
theorem BoxC.ext {w w' : World} {b : Nat} {v0 v1 v2 v3 v4 : Value} (h : BoxC w b v0 v1 v2 v3 v4) (e : Ext w w') : BoxC w' b v0 v1 v2 v3 v4 := h.fr (M := fun _ => False) (Fr.of_ext e) (fun h => h)
theorem BoxC.new (w : World) (v0 v1 v2 v3 v4 : Value) (T : Nat) {b : Nat} (hb : b = w.heap.size) : BoxC (w.alloc (.cells #[v0, v1, v2, v3, v4] T)) b v0 v1 v2 v3 v4 := by
  subst hb
  refine ⟨?_, ?_, ?_, ?_, ?_, ?_, ?_, ?_, ?_, ?_⟩ <;> go_simp
theorem BoxC.setHead {w : World} {b : Nat} {v0 v1 v2 v3 v4 : Value} (h : BoxC w b v0 v1 v2 v3 v4) (u0 u1 u2 u3 : Value) : BoxC (set4 w b u0 u1 u2 u3) b u0 u1 u2 u3 v4 := by
  obtain ⟨c0, c1, c2, c3, c4, f0, f1, f2, f3, f4⟩ := h
  obtain ⟨s0, s1, s2, s3⟩ := set4_cells u0 u1 u2 u3 c0 c1 c2 c3
  have s4 : (set4 w b u0 u1 u2 u3).cell? ⟨b, 4, none⟩ = some v4 := by
    unfold set4
    exact cell_off (i := 4) (j := 3) (by decide) (cell_off (i := 4) (j := 2) (by decide) (cell_off (i := 4) (j := 1) (by decide) (cell_off (i := 4) (j := 0) (by decide) c4)))
  exact ⟨s0, s1, s2, s3, s4, by unfold set4; rw [World.frozen?_setCell, World.frozen?_setCell, World.frozen?_setCell, World.frozen?_setCell]; exact f0, by unfold set4; rw [World.frozen?_setCell, World.frozen?_setCell, World.frozen?_setCell, World.frozen?_setCell]; exact f1, by unfold set4; rw [World.frozen?_setCell, World.frozen?_setCell, World.frozen?_setCell, World.frozen?_setCell]; exact f2, by unfold set4; rw [World.frozen?_setCell, World.frozen?_setCell, World.frozen?_setCell, World.frozen?_setCell]; exact f3, by unfold set4; rw [World.frozen?_setCell, World.frozen?_setCell, World.frozen?_setCell, World.frozen?_setCell]; exact f4⟩
theorem BoxC.setBody {w : World} {b : Nat} {v0 v1 v2 v3 v4 : Value} (h : BoxC w b v0 v1 v2 v3 v4) (u : Value) : BoxC (w.setCell ⟨b, 4, none⟩ u) b v0 v1 v2 v3 u := by
  obtain ⟨c0, c1, c2, c3, c4, f0, f1, f2, f3, f4⟩ := h
  exact ⟨cell_off (i := 0) (j := 4) (by decide) c0, cell_off (i := 1) (j := 4) (by decide) c1, cell_off (i := 2) (j := 4) (by decide) c2, cell_off (i := 3) (j := 4) (by decide) c3, cell_same c4, by rw [World.frozen?_setCell]; exact f0, by rw [World.frozen?_setCell]; exact f1, by rw [World.frozen?_setCell]; exact f2, by rw [World.frozen?_setCell]; exact f3, by rw [World.frozen?_setCell]; exact f4⟩
theorem load5 {P : Program} {w : World} {T b : Nat} {v0 v1 v2 v3 v4 : Value} (hT : ∀ w, (isAgg T).run P w = .ok true w) (hs : ∀ w, (sizeOf T).run P w = .ok 5 w)
    (h0 : w.cell? ⟨b, 0, none⟩ = some v0) (h1 : w.cell? ⟨b, 1, none⟩ = some v1) (h2 : w.cell? ⟨b, 2, none⟩ = some v2) (h3 : w.cell? ⟨b, 3, none⟩ = some v3) (h4 : w.cell? ⟨b, 4, none⟩ = some v4) :
    (loadVar T ⟨b, 0, none⟩).run P w = .ok (.agg #[v0, v1, v2, v3, v4]) w := by
  unfold loadVar
  simp only [Sem.run_bind, hT, Result.andThen_ok, if_true, hs]
  simp [loadCells, loadCellsFrom, go_sem, h0, h1, h2, h3, h4]
theorem set5_grown (Y : World) (b : Nat) (v0 v1 v2 v3 v4 : Value) : Y.grownBy ((((((Y.setCell ⟨b, 0, none⟩ v0).setCell ⟨b, 1, none⟩ v1).setCell ⟨b, 2, none⟩ v2).setCell ⟨b, 3, none⟩ v3)).setCell ⟨b, 4, none⟩ v4) (some b) :=
  grown_trans (set4_grown Y b v0 v1 v2 v3) (grown_setCell _ _ _ _)
theorem ret5_set {P : Program} {fn : Func} {R : Ending → World → Prop} {a : Act} {Y : World} {p T b : Nat} {u0 u1 u2 u3 u4 v0 v1 v2 v3 v4 : Value}
    (hres : fn.results = #[.cell p T]) (hT : ∀ w, (isAgg T).run P w = .ok true w) (hs : ∀ w, (sizeOf T).run P w = .ok 5 w) (hp : a.tmps.getD p undef = .pointer (some ⟨b, 0, none⟩)) (hd : a.defers = [])
    (h : BoxC Y b u0 u1 u2 u3 u4)
    (hR : ∀ X, Y.grownBy X (some b) → R (.returned (.agg #[v0, v1, v2, v3, v4])) X) :
    bodyPost P fn R .ret a ((((((Y.setCell ⟨b, 0, none⟩ v0).setCell ⟨b, 1, none⟩ v1).setCell ⟨b, 2, none⟩ v2).setCell ⟨b, 3, none⟩ v3)).setCell ⟨b, 4, none⟩ v4) := by
  have h' := (h.setHead v0 v1 v2 v3).setBody v4
  obtain ⟨c0, c1, c2, c3, c4, _⟩ := h'
  refine bodyPost_ret (v := .agg #[v0, v1, v2, v3, v4]) ?_ hd (hR _ (set5_grown Y b v0 v1 v2 v3 v4))
  have hl := load5 (P := P) (T := T) (b := b) hT hs c0 c1 c2 c3 c4
  simp only [results, hres]
  have hp' : a.tmps[p]?.getD undef = .pointer (some ⟨b, 0, none⟩) := by simpa using hp
  unfold set4 at hl
  simp [hp', asAddr, hl]
end Go.Proofs.YtognkaebiafgbaaGreatDoor
