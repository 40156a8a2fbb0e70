/-
  The reference's draws of one term and of two.
-/
import Derived.Deep.RegionHeld3
import Derived.Test.YtognkaebiafgbaaGreatDoorMp15
import Derived.Test.YtognkaebiafgbaaGreatDoorMp12
namespace Go.Proofs.YtognkaebiafgbaaGreatDoor
open Go.RowKit
set_option linter.unusedVariables false

/-- a box of four cells that may be written -/
def BoxT (w : World) (b : Nat) (v0 v1 v2 v3 : Value) : Prop :=
  w.cell? ⟨b, 0, none⟩ = some v0 ∧ w.cell? ⟨b, 1, none⟩ = some v1 ∧ w.cell? ⟨b, 2, none⟩ = some v2 ∧ w.cell? ⟨b, 3, none⟩ = some v3 ∧
    w.frozen? ⟨b, 0, none⟩ = false ∧ w.frozen? ⟨b, 1, none⟩ = false ∧ w.frozen? ⟨b, 2, none⟩ = false ∧ w.frozen? ⟨b, 3, none⟩ = false
abbrev BoxZ (w : World) (b : Nat) : Prop := BoxT w b (.int .i64 0) (.int .i64 0) (.string ⟨#[]⟩) (.slice none 0 0)
theorem BoxT.lt {w : World} {b : Nat} {v0 v1 v2 v3 : Value} (h : BoxT w b v0 v1 v2 v3) : b < w.heap.size := block_lt_of_cell h.1
theorem BoxT.fr {M : Nat → Prop} {w w' : World} {b : Nat} {v0 v1 v2 v3 : Value} (h : BoxT w b v0 v1 v2 v3) (f : Fr M w w') (hb : ¬ M b) : BoxT w' b v0 v1 v2 v3 :=
  ⟨f.cell hb h.1, f.cell hb h.2.1, f.cell hb h.2.2.1, f.cell hb h.2.2.2.1, f.frozen h.lt hb h.2.2.2.2.1, f.frozen h.lt hb h.2.2.2.2.2.1, f.frozen h.lt hb h.2.2.2.2.2.2.1, f.frozen h.lt hb h.2.2.2.2.2.2.2⟩
theorem BoxT.ext {w w' : World} {b : Nat} {v0 v1 v2 v3 : Value} (h : BoxT w b v0 v1 v2 v3) (e : Ext w w') : BoxT w' b v0 v1 v2 v3 := h.fr (M := fun _ => False) (Fr.of_ext e) (fun h => h)
theorem BoxT.extR {w w' : World} {r b : Nat} {v0 v1 v2 v3 : Value} (h : BoxT w b v0 v1 v2 v3) (e : ExtR r w w') (hb : b ≠ r) : BoxT w' b v0 v1 v2 v3 := h.fr (M := fun k => k = r) (Fr.of_extR e rfl) hb
theorem BoxT.new (w : World) (v0 v1 v2 v3 : Value) (T : Nat) {b : Nat} (hb : b = w.heap.size) : BoxT (w.alloc (.cells #[v0, v1, v2, v3] T)) b v0 v1 v2 v3 := by
  subst hb
  refine ⟨?_, ?_, ?_, ?_, ?_, ?_, ?_, ?_⟩ <;> go_simp
theorem BytesAt.ext {w w' : World} {v : Value} (h : BytesAt w v) (e : Ext w w') : BytesAt w' v := by
  obtain ⟨a, len, cap, h1, h2, h3, h4⟩ := h
  refine ⟨a, len, cap, h1, h2, h3, ?_⟩
  rcases h4 with h4 | ⟨b, off, h4, h5⟩
  · exact .inl h4
  · exact .inr ⟨b, off, h4, fun i hi => let ⟨n, hn, hc⟩ := h5 i hi; ⟨n, hn, e.cell hc⟩⟩

/-- the end of a function that returns two terms -/
theorem ret44 {P : Program} {fn : Func} {R : Ending → World → Prop} {a : Act} {X : World} {p1 p2 T b1 b2 : Nat} {v0 v1 v2 v3 y0 y1 y2 y3 : Value}
    (hres : fn.results = #[.cell p1 T, .cell p2 T]) (hT : ∀ w, (isAgg T).run P w = .ok true w) (hs : ∀ w, (sizeOf T).run P w = .ok 4 w)
    (hp1 : a.tmps.getD p1 undef = .pointer (some ⟨b1, 0, none⟩)) (hp2 : a.tmps.getD p2 undef = .pointer (some ⟨b2, 0, none⟩)) (hd : a.defers = [])
    (h0 : X.cell? ⟨b1, 0, none⟩ = some v0) (h1 : X.cell? ⟨b1, 1, none⟩ = some v1) (h2 : X.cell? ⟨b1, 2, none⟩ = some v2) (h3 : X.cell? ⟨b1, 3, none⟩ = some v3)
    (g0 : X.cell? ⟨b2, 0, none⟩ = some y0) (g1 : X.cell? ⟨b2, 1, none⟩ = some y1) (g2 : X.cell? ⟨b2, 2, none⟩ = some y2) (g3 : X.cell? ⟨b2, 3, none⟩ = some y3)
    (hR : R (.returned (.tuple #[.agg #[v0, v1, v2, v3], .agg #[y0, y1, y2, y3]])) X) : bodyPost P fn R .ret a X := by
  refine bodyPost_ret (v := .tuple #[.agg #[v0, v1, v2, v3], .agg #[y0, y1, y2, y3]]) ?_ hd hR
  have hl := load4 (P := P) (w := X) (T := T) (b := b1) hT hs h0 h1 h2 h3
  have hl2 := load4 (P := P) (w := X) (T := T) (b := b2) hT hs g0 g1 g2 g3
  simp only [results, hres]
  have hp1' : a.tmps[p1]?.getD undef = .pointer (some ⟨b1, 0, none⟩) := by simpa using hp1
  have hp2' : a.tmps[p2]?.getD undef = .pointer (some ⟨b2, 0, none⟩) := by simpa using hp2
  simp [hp1', hp2', asAddr, hl, hl2]
theorem ret44_set {P : Program} {fn : Func} {R : Ending → World → Prop} {a : Act} {Y : World} {p1 p2 T b1 b2 : Nat} {v0 v1 v2 v3 y0 y1 y2 y3 u0 u1 u2 u3 x0 x1 x2 x3 : Value}
    (hres : fn.results = #[.cell p1 T, .cell p2 T]) (hT : ∀ w, (isAgg T).run P w = .ok true w) (hs : ∀ w, (sizeOf T).run P w = .ok 4 w)
    (hp1 : a.tmps.getD p1 undef = .pointer (some ⟨b1, 0, none⟩)) (hp2 : a.tmps.getD p2 undef = .pointer (some ⟨b2, 0, none⟩)) (hd : a.defers = []) (hb : b1 ≠ b2)
    (h1 : BoxT Y b1 u0 u1 u2 u3) (h2 : BoxT Y b2 x0 x1 x2 x3)
    (hR : ∀ X, Fr (fun k => k = b1 ∨ k = b2) Y X → R (.returned (.tuple #[.agg #[v0, v1, v2, v3], .agg #[y0, y1, y2, y3]])) X) :
    bodyPost P fn R .ret a ((((((((Y.setCell ⟨b1, 0, none⟩ v0).setCell ⟨b1, 1, none⟩ v1).setCell ⟨b1, 2, none⟩ v2).setCell ⟨b1, 3, none⟩ v3).setCell ⟨b2, 0, none⟩ y0).setCell ⟨b2, 1, none⟩ y1).setCell ⟨b2, 2, none⟩ y2).setCell ⟨b2, 3, none⟩ y3) := by
  obtain ⟨c0, c1, c2, c3⟩ := set4_cells (Y := Y) v0 v1 v2 v3 h1.1 h1.2.1 h1.2.2.1 h1.2.2.2.1
  have f1 : Fr (fun k => k = b1 ∨ k = b2) Y (set4 Y b1 v0 v1 v2 v3) := Fr.of_grown (set4_grown _ _ _ _ _ _) (fun k e => by cases e; exact .inl rfl)
  have f1' : Fr (fun k => k = b1) Y (set4 Y b1 v0 v1 v2 v3) := Fr.of_grown (set4_grown _ _ _ _ _ _) (fun k e => by cases e; rfl)
  have h2' := h2.fr f1' (fun e => hb e.symm)
  obtain ⟨d0, d1, d2, d3⟩ := set4_cells (Y := set4 Y b1 v0 v1 v2 v3) y0 y1 y2 y3 h2'.1 h2'.2.1 h2'.2.2.1 h2'.2.2.2.1
  have f2 : Fr (fun k => k = b1 ∨ k = b2) (set4 Y b1 v0 v1 v2 v3) (set4 (set4 Y b1 v0 v1 v2 v3) b2 y0 y1 y2 y3) := Fr.of_grown (set4_grown _ _ _ _ _ _) (fun k e => by cases e; exact .inr rfl)
  have f2' : Fr (fun k => k = b2) (set4 Y b1 v0 v1 v2 v3) (set4 (set4 Y b1 v0 v1 v2 v3) b2 y0 y1 y2 y3) := Fr.of_grown (set4_grown _ _ _ _ _ _) (fun k e => by cases e; rfl)
  exact ret44 hres hT hs hp1 hp2 hd (f2'.cell hb c0) (f2'.cell hb c1) (f2'.cell hb c2) (f2'.cell hb c3) d0 d1 d2 d3 (hR _ (f1.trans f2))

def TmOut (w : World) (e : Ending) (w' : World) : Prop := ∃ t v, e = .returned v ∧ Tm.at (fun b => w.heap.size ≤ b) w' t v ∧ Ext w w'
def TmOut2 (w : World) (e : Ending) (w' : World) : Prop := ∃ t u v1 v2, e = .returned (.tuple #[v1, v2]) ∧ Tm.at (fun b => w.heap.size ≤ b) w' t v1 ∧ Tm.at (fun b => w.heap.size ≤ b) w' u v2 ∧ Ext w w'
/-- the end of a function that returns a term which it has from a call, the box of its result being block B -/
theorem out_end {B : Nat} {w wk X : World} {t : Tm} {v : Value} (hB : w.heap.size ≤ B) (hX : wk.grownBy X (some B)) (he : Ext w wk) (hv : Tm.at (fun b => w.heap.size ≤ b ∧ b ≠ B) wk t v) : TmOut w (.returned v) X := by
  have f : Fr (fun k => k = B) wk X := Fr.of_grown hX (fun k e => by cases e; rfl)
  exact ⟨t, v, rfl, Tm.at_mono (fun b h => h.1) (f.agree (S := fun b => w.heap.size ≤ b ∧ b ≠ B) (fun k hk h => hk.2 h)) hv, ((Fr.of_ext he).trans (f.mono (fun k _ h => show w.heap.size ≤ k by omega))).toExt (fun k hk hm => by omega)⟩

set_option maxRecDepth 100000 in
set_option maxHeartbeats 1000000 in
theorem drawTermValid (v : Value) (w : World) (hv : BytesAt w v) : Calls Tryz.prog 91 #[v] w (TmOut w) := by
  have B1 := Lib.hid (BoxT.new w (.int .i64 0) (.int .i64 0) (.string ⟨#[]⟩) (.slice none 0 0) 25 rfl)
  have HV := Lib.hid (hv.ext (Ext.alloc w (.cells #[.int .i64 0, .int .i64 0, .string ⟨#[]⟩, .slice none 0 0] 25)))
  obtain ⟨a, len, cap, rfl, _⟩ := hv
  go_enter Tryz.func91, Tryz.ntmps91
  go_wp2_with fail
  refine (specl18Open _ _ HV.out).mono ?_
  rintro e w1 ⟨r, rfl, hr, hrd, e1⟩
  have hr : w.heap.size + 1 ≤ r := by simp at hr; omega
  have hlt := hrd.lt
  have nr : w.heap.size ≠ r := by omega
  have R := Lib.hid hrd
  have B1 := Lib.hid (B1.out.ext e1)
  have E1 := Lib.hid ((Ext.alloc w (.cells #[.int .i64 0, .int .i64 0, .string ⟨#[]⟩, .slice none 0 0] 25)).trans e1)
  clear hrd e1 HV
  go_wp2_with fail
  refine (specl1Some r 0 _ (by omega) R.out).mono ?_
  rintro e w2 ⟨t, v2, p2, rfl, hv2, _, hr2, hp2, he2⟩
  have R := Lib.hid hr2
  have V := Lib.hid hv2
  have B1 := Lib.hid (B1.out.extR he2 nr)
  have E := Lib.hid he2
  have s2 := he2.1.size
  clear hv2 hr2 he2
  go_wp2_with fail
  refine (specl1Mutate r p2 t v2 _ _ (by omega) R.out V.out).mono ?_
  rintro e w3 ⟨u, v3, p3, rfl, hv3, _, hr3, hp3, he3⟩
  obtain ⟨a3, c3, rfl⟩ := at_form hv3
  have V := Lib.hid hv3
  have BF := B1.out.extR he3 nr
  obtain ⟨g0, g1, g2, g3, z0, z1, z2, z3⟩ := BF
  have E := Lib.hid (E.out.trans he3)
  clear hv3 hr3 he3 B1 R
  go_wp2_with fail
  refine ret4_set (p := 2) (T := 25) (b := w.heap.size) (by kernel_rfl) (fun _ => by kernel_rfl) (fun _ => by kernel_rfl) rfl rfl g0 g1 g2 g3 ?_
  intro X hX
  exact out_end (Nat.le_refl _) hX (ExtR.below E1.out E.out (by omega)) (Tm.at_mono (fun b h => by omega) (Agree.refl _) V.out)

/-- tail: made by gen_draws.py -/
theorem tail_begins : True := trivial




set_option maxRecDepth 100000 in
set_option maxHeartbeats 1000000 in
theorem drawFormatTerm (v : Value) (w : World) (hv : BytesAt w v) : Calls Tryz.prog 42 #[v] w (TmOut w) := by
  have B1 := Lib.hid (BoxT.new w (.int .i64 0) (.int .i64 0) (.string ⟨#[]⟩) (.slice none 0 0) 25 rfl)
  have HV := Lib.hid (hv.ext (Ext.alloc w (.cells #[.int .i64 0, .int .i64 0, .string ⟨#[]⟩, .slice none 0 0] 25)))
  obtain ⟨a, len, cap, rfl, _⟩ := hv
  go_enter Tryz.func42, Tryz.ntmps42
  go_wp2_with fail
  refine (drawTermValid _ _ HV.out).mono ?_
  rintro e w1 ⟨t, v1, rfl, hv1, e1⟩
  obtain ⟨a1, c1, rfl⟩ := at_form hv1
  obtain ⟨g0, g1, g2, g3, z0, z1, z2, z3⟩ := B1.out.ext e1
  have V := Lib.hid hv1
  have E1 := Lib.hid e1
  clear hv1 e1 B1 HV
  go_wp2_with fail
  refine ret4_set (p := 2) (T := 25) (b := w.heap.size) (by kernel_rfl) (fun _ => by kernel_rfl) (fun _ => by kernel_rfl) rfl rfl g0 g1 g2 g3 ?_
  intro X hX
  exact out_end (Nat.le_refl _) hX ((Ext.alloc _ _).trans E1.out) (Tm.at_mono (fun b h => by simp at h; omega) (Agree.refl _) V.out)


end Go.Proofs.YtognkaebiafgbaaGreatDoor

/-
  The variables of a term, in the program and in the reference.
-/
namespace Go.Proofs.YtognkaebiafgbaaGreatDoor
open Go.RowKit
set_option linter.unusedVariables false

theorem info_int : (Tryz.prog.info? 3).map (fun i => (i.zero, i.size, i.bytes)) = some (some (.int .i64 0), 1, 8) := by kernel_rfl



theorem valid_sz {t : Tm} (h : validF t = true) : Tm.sz t ≤ 120 := by
  rw [valid_eq] at h
  simp at h
  exact h.2
theorem valid_shape {t : Tm} (h : validF t = true) : shapeF t 30 = true := by
  rw [valid_eq] at h
  simp at h
  exact h.1
/-- what TermVars returns -/
def tvarsF (t : Tm) : List Int := if validF t = true then varsF t [] else []
def IntsOut (zs : List Int) (w : World) (e : Ending) (w' : World) : Prop := ∃ v, e = .returned v ∧ IntI (fun b => w.heap.size ≤ b) zs v w' ∧ Ext w w'


end Go.Proofs.YtognkaebiafgbaaGreatDoor

/-
  Plain laws: what a valid term's arguments are; its variables.
-/
namespace Go.Proofs.YtognkaebiafgbaaGreatDoor
open Go.RowKit
set_option linter.unusedVariables false

mutual
theorem shape_up : ∀ (t : Tm) (d e : Nat), d ≤ e → shapeF t d = true → shapeF t e = true
  | .mk k n s ks, d, e, hde, h => by
    simp only [shapeF, Bool.and_eq_true, decide_eq_true_eq] at h ⊢
    exact ⟨⟨by omega, h.1.2⟩, shapeL_up ks (d - 1) (e - 1) (by omega) h.2⟩
theorem shapeL_up : ∀ (ts : List Tm) (d e : Nat), d ≤ e → shapeL ts d = true → shapeL ts e = true
  | [], _, _, _, _ => rfl
  | t :: ts, d, e, hde, h => by
    simp only [shapeL, Bool.and_eq_true] at h ⊢
    exact ⟨shape_up t d e hde h.1, shapeL_up ts d e hde h.2⟩
end
theorem shapeL_mem : ∀ {ts : List Tm} {d : Nat} {t : Tm}, shapeL ts d = true → t ∈ ts → shapeF t d = true
  | [], _, _, _, hm => by simp at hm
  | u :: ts, d, t, h, hm => by
    simp only [shapeL, Bool.and_eq_true] at h
    rcases List.mem_cons.1 hm with rfl | hm
    · exact h.1
    · exact shapeL_mem h.2 hm
theorem valid_kid {t u : Tm} (h : validF t = true) (hu : u ∈ t.kids) : validF u = true := by
  obtain ⟨k, n, s, ks⟩ := t
  simp only [Tm.kids] at hu
  obtain ⟨j, hj⟩ := List.getElem?_of_mem hu
  have hsz := valid_sz h
  have hsh := valid_shape h
  have hlt := kid_lt (k := k) (n := n) (s := s) (ks := ks) hj
  rw [valid_eq]
  simp only [Bool.and_eq_true, decide_eq_true_eq]
  simp only [shapeF, Bool.and_eq_true] at hsh
  exact ⟨shape_up u 29 30 (by omega) (shapeL_mem hsh.2 hu), by omega⟩

mutual
theorem varsF_mem : ∀ (t : Tm) (zs : List Int) (x : Int), x ∈ zs → x ∈ varsF t zs
  | .mk k n s ks, zs, x, h => by
    simp only [varsF]
    refine varsL_mem ks _ x ?_
    split
    · exact List.mem_append_left _ h
    · exact h
theorem varsL_mem : ∀ (ts : List Tm) (zs : List Int) (x : Int), x ∈ zs → x ∈ varsL ts zs
  | [], zs, x, h => h
  | t :: ts, zs, x, h => by
    simp only [varsL]
    exact varsL_mem ts _ x (varsF_mem t zs x h)
end
mutual
theorem varsF_sub : ∀ (t : Tm) (zs us : List Int) (x : Int), x ∈ varsF t zs → x ∈ zs ∨ x ∈ varsF t us
  | .mk k n s ks, zs, us, x, h => by
    simp only [varsF] at h ⊢
    rcases varsL_sub ks _ (if (k == 1 && !(hasI us n)) = true then us ++ [n] else us) x h with h1 | h1
    · split at h1
      · rename_i hc
        rcases List.mem_append.1 h1 with h2 | h2
        · exact .inl h2
        · right
          simp at h2
          subst h2
          refine varsL_mem ks _ x ?_
          by_cases hu : hasI us x = true
          · rw [hu]
            simp
            simpa [hasI] using hu
          · simp at hc
            simp [hc.1, hu]
      · exact .inl h1
    · exact .inr h1
theorem varsL_sub : ∀ (ts : List Tm) (zs us : List Int) (x : Int), x ∈ varsL ts zs → x ∈ zs ∨ x ∈ varsL ts us
  | [], zs, us, x, h => .inl h
  | t :: ts, zs, us, x, h => by
    simp only [varsL] at h ⊢
    rcases varsL_sub ts (varsF t zs) (varsF t us) x h with h1 | h1
    · rcases varsF_sub t zs us x h1 with h2 | h2
      · exact .inl h2
      · exact .inr (varsL_mem ts _ x h2)
    · exact .inr h1
end
theorem varsL_kid : ∀ {ts : List Tm} {t : Tm} {zs : List Int} {x : Int}, t ∈ ts → x ∈ varsF t [] → x ∈ varsL ts zs
  | [], _, _, _, hm, _ => by simp at hm
  | u :: ts, t, zs, x, hm, hx => by
    simp only [varsL]
    rcases List.mem_cons.1 hm with rfl | hm
    · refine varsL_mem ts _ x ?_
      rcases varsF_sub t [] zs x hx with h | h
      · simp at h
      · exact h
    · exact varsL_kid hm hx
theorem vars_kid {t u : Tm} {x : Int} (hu : u ∈ t.kids) (hx : x ∈ varsF u []) : x ∈ varsF t [] := by
  obtain ⟨k, n, s, ks⟩ := t
  simp only [varsF]
  exact varsL_kid hu hx
mutual
theorem varsF_nodup : ∀ (t : Tm) (zs : List Int), zs.Nodup → (varsF t zs).Nodup
  | .mk k n s ks, zs, h => by
    simp only [varsF]
    refine varsL_nodup ks _ ?_
    split
    · rename_i hc
      simp [hasI] at hc
      rw [List.nodup_append]
      refine ⟨h, by simp, ?_⟩
      intro a ha b hb
      simp at hb
      subst hb
      intro e
      subst e
      exact hc.2 ha
    · exact h
theorem varsL_nodup : ∀ (ts : List Tm) (zs : List Int), zs.Nodup → (varsL ts zs).Nodup
  | [], zs, h => h
  | t :: ts, zs, h => by
    simp only [varsL]
    exact varsL_nodup ts _ (varsF_nodup t zs h)
end
theorem nodup_take {zs : List Int} {k : Nat} {x : Int} (h : zs.Nodup) (hx : zs[k]? = some x) : hasI (zs.take k) x = false := by
  simp only [hasI]
  cases hc : (zs.take k).contains x with
  | false => rfl
  | true =>
    exfalso
    simp only [List.contains_iff_mem] at hc
    have h' : (zs.take k ++ zs.drop k).Nodup := by rw [List.take_append_drop]; exact h
    rw [List.nodup_append] at h'
    have hd : x ∈ zs.drop k := List.mem_of_getElem? (i := 0) (by simpa using hx)
    exact h'.2.2 x hc x hd rfl
theorem tvars_nodup (t : Tm) : (tvarsF t).Nodup := by
  unfold tvarsF
  split
  · exact varsF_nodup t [] (by simp)
  · simp
theorem tvars_len (t : Tm) : (tvarsF t).length ≤ Tm.sz t := by
  unfold tvarsF
  split
  · have := varsF_len t []
    simpa using this
  · simp
theorem tvars_kid {t u : Tm} {x : Int} (h : validF t = true) (hu : u ∈ t.kids) (hx : x ∈ tvarsF u) : hasI (tvarsF t) x = true := by
  unfold tvarsF at hx ⊢
  rw [if_pos (valid_kid h hu)] at hx
  rw [if_pos h]
  simp only [hasI]
  simp
  exact vars_kid hu hx
/-- the sum of the sizes -/
theorem szL_snoc {ts : List Tm} {k : Nat} {t : Tm} (h : ts[k]? = some t) : Tm.szL (ts.take (k + 1)) = Tm.szL (ts.take k) + Tm.sz t := by
  induction ts generalizing k with
  | nil => simp at h
  | cons t0 ts ih =>
    cases k with
    | zero => simp at h; subst h; simp [Tm.szL]
    | succ k =>
      have := ih (k := k) (by simpa using h)
      simp only [List.take_succ_cons, Tm.szL]
      omega
theorem sz_kids (t : Tm) : Tm.sz t = 1 + Tm.szL t.kids := by
  obtain ⟨k, n, s, ks⟩ := t
  simp only [Tm.sz, Tm.kids]

end Go.Proofs.YtognkaebiafgbaaGreatDoor
