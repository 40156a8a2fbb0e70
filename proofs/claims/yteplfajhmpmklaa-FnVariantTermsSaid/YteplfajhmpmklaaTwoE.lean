/-
  The draws that call l3Two.
-/
import Derived.Test.YteplfajhmpmklaaTwoD
namespace Go.Proofs.Yteplfajhmpmklaa
open Go.RowKit
set_option linter.unusedVariables false


set_option maxRecDepth 100000 in
set_option maxHeartbeats 8000000 in
theorem drawVariantTerms (v : Value) (w : World) (hv : BytesAt w v) : Calls Try.prog 16 #[v] w (TmOut2 w) := by
  have hb1 := BoxT.new w (.int .i64 0) (.int .i64 0) (.string ⟨#[]⟩) (.slice none 0 0) 29 rfl
  have hb2 := BoxT.new (w.alloc (.cells #[.int .i64 0, .int .i64 0, .string ⟨#[]⟩, .slice none 0 0] 29)) (.int .i64 0) (.int .i64 0) (.string ⟨#[]⟩) (.slice none 0 0) 29 (b := w.heap.size + 1) (by simp)
  have e02 := (Ext.alloc w (.cells #[.int .i64 0, .int .i64 0, .string ⟨#[]⟩, .slice none 0 0] 29)).trans (Ext.alloc _ (.cells #[.int .i64 0, .int .i64 0, .string ⟨#[]⟩, .slice none 0 0] 29))
  have B1 := Lib.hid (hb1.ext (Ext.alloc _ (.cells #[.int .i64 0, .int .i64 0, .string ⟨#[]⟩, .slice none 0 0] 29)))
  have B2 := Lib.hid hb2
  have HV := Lib.hid (hv.ext e02)
  have E02 := Lib.hid e02
  clear hb1 hb2 e02
  have HV0 := Lib.hid hv
  obtain ⟨a, len, cap, rfl, _⟩ := hv
  go_enter Try.func16, Try.ntmps16
  go_wp2_with fail
  refine (specl18Open _ _ HV.out).mono ?_
  rintro e w1 ⟨r, rfl, hr, hrd, e1⟩
  have hr : w.heap.size + 2 ≤ r := by simp at hr; omega
  have hlt := hrd.lt
  have n1 : w.heap.size ≠ r := by omega
  have n2 : w.heap.size + 1 ≠ r := by omega
  have R := Lib.hid hrd
  have HR0 := Lib.hid hrd
  have B1 := Lib.hid (B1.out.ext e1)
  have B2 := Lib.hid (B2.out.ext e1)
  have E1 := Lib.hid (E02.out.trans e1)
  clear hrd e1 HV
  go_wp2_with fail
  refine (specl1Some r 0 _ (by omega) R.out).mono ?_
  rintro e w2 ⟨t, v2, p2, rfl, hv2, hd2, hr2, hp2, he2⟩
  have hp2 : p2 ≤ 161 := by omega
  obtain ⟨a2, c2, rfl⟩ := at_form hv2
  have s2 := he2.1.size
  have HD := Lib.hid hd2
  have ea := Ext.alloc w2 (.cells #[.int .i64 t.kind, .int .i64 t.n, .string t.name, .slice a2 t.kids.length c2] 29)
  have A := Lib.hid (BoxT.new w2 (.int .i64 t.kind) (.int .i64 t.n) (.string t.name) (.slice a2 t.kids.length c2) 29 rfl)
  have R := Lib.hid (hr2.ext ea)
  have V := Lib.hid (Tm.at_ext ea (Tm.at_bound hv2))
  have B1 := Lib.hid ((B1.out.extR he2 n1).ext ea)
  have B2 := Lib.hid ((B2.out.extR he2 n2).ext ea)
  have E := Lib.hid (he2.trans (ExtR.of_ext ea))
  have nA : w2.heap.size ≠ r := by omega
  have m1 : ¬ w2.heap.size = w.heap.size := by omega
  have m2 : ¬ w2.heap.size = w.heap.size + 1 := by omega
  clear hv2 hr2 he2 ea hd2
  go_wp2_with fail
  refine (rdpick r p2 2 _ (by omega) (by decide) (by decide) R.out).mono ?_
  rintro e w3 ⟨y, rfl, hy0, hy1, hr3, he3⟩
  have s3 : w2.heap.size + 1 ≤ w3.heap.size := by have := he3.1.size; simp at this; omega
  have R := Lib.hid hr3
  have A := Lib.hid (A.out.extR he3 nA)
  have B1 := Lib.hid (B1.out.extR he3 n1)
  have B2 := Lib.hid (B2.out.extR he3 n2)
  have V := Lib.hid (Tm.at_mono (fun b h => h) (he3.agree (S := (fun b => w1.heap.size ≤ b ∧ b < w2.heap.size)) (by omega)) V.out)
  have E := Lib.hid (E.out.trans he3)
  clear hr3 he3
  obtain rfl | rfl : y = 0 ∨ y = 1 := by omega
  · go_wp2_with fail
    obtain ⟨t0, t1, t2, t3, _, _, _, _⟩ := A.out
    have HNT := Lib.hid (nb_drawn 4 t HD.out)
    have HM1 := Lib.hid (fun w' (h : Rd w' r (p2 + 1)) (e : ExtR r w3 w') => specl1Mutate r (p2 + 1) t _ _ w' (by omega) h (Tm.at_mono (fun b h => h) (e.agree (S := (fun b => w1.heap.size ≤ b ∧ b < w2.heap.size)) (by omega)) V.out))
    have HPK := Lib.hid (fun w' p' (hp : p' ≤ p2 + 10) (h : Rd w' r p') => rdpick r p' 4 w' (by omega) (by decide) (by decide) h)
    have HSH := Lib.hid (fun (n : Int) (h1 : -25 ≤ n) (h2 : n ≤ 25) w' (e : ExtR r w3 w') => specl3ShiftN n h1 h2 _ t (Nat.le_refl _) _ _ w' HNT.out (Tm.at_mono (fun b h => h) (e.agree (S := (fun b => w1.heap.size ≤ b ∧ b < w2.heap.size)) (by omega)) V.out))
    have rlt := R.out.lt
    go_region_held3 (fun w' => w'.cell? ⟨w2.heap.size, 0, none⟩ = some (.int .i64 t.kind) ∧ w'.cell? ⟨w2.heap.size, 1, none⟩ = some (.int .i64 t.n) ∧ w'.cell? ⟨w2.heap.size, 2, none⟩ = some (.string t.name) ∧ w'.cell? ⟨w2.heap.size, 3, none⟩ = some (.slice a2 t.kids.length c2))
      ((refine ⟨?_, ?_, ?_, ?_⟩ <;> first | with_reducible assumption | (with_reducible (apply ExtR.cell; assumption; assumption; assumption)) | (with_reducible (apply Ext.cell; assumption; assumption)) | go_simp))
      ((first
        | (go_at_call 48; refine (HM1.out _ ?_ ?_).mono ?_; (first | exact R.out | exact R.out.ext (Ext.drew _)); (first | exact ExtR.refl _ _ | exact ExtR.of_ext (Ext.drew _)); rintro e wa ⟨x5, va, pa, rfl, hva, _, hra, hpa, hea⟩; (try replace hea := (ExtR.of_ext (Ext.drew _)).trans hea); obtain ⟨aa, ca, rfl⟩ := at_form hva; have y0 := hea.cell nA t0; have y1 := hea.cell nA t1; have y2 := hea.cell nA t2; have y3 := hea.cell nA t3)
        | (go_at_call 47; refine (HPK.out _ pa ?_ ?_).mono ?_; omega; (first | exact hra | exact hra.ext (Ext.drew _)); rintro e wb ⟨n, rfl, hn0, hn1, hrb, heb⟩; (try replace heb := (ExtR.of_ext (Ext.drew _)).trans heb); have k0 := heb.cell nA y0; have k1 := heb.cell nA y1; have k2 := heb.cell nA y2; have k3 := heb.cell nA y3)
        | (go_at_call 49; refine (HSH.out n (by omega) (by omega) _ ?_).mono ?_; (first | exact hea.trans heb | exact (hea.trans heb).trans (ExtR.of_ext (Ext.drew _))); rintro e wc ⟨ac, cc, rfl, hoc, ec⟩; (try replace ec := Ext.undrew ec); have l0 := ec.cell k0; have l1 := ec.cell k1; have l2 := ec.cell k2; have l3 := ec.cell k3; obtain ⟨g0, g1, g2, g3, g4, g5, g6, g7⟩ := ((B1.out.extR hea n1).extR heb n1).ext ec; obtain ⟨q0, q1, q2, q3, q4, q5, q6, q7⟩ := ((B2.out.extR hea n2).extR heb n2).ext ec)
        | fail))
    all_goals go_wp2_with fail
    all_goals
      have hek := (hea.trans heb).trans (ExtR.of_ext ec)
      have hvc := own_flat _ _ _ hoc
      refine ret44_set (p1 := 2) (p2 := 3) (T := 29) (b1 := w.heap.size) (b2 := w.heap.size + 1) (by kernel_rfl) (fun _ => by kernel_rfl) (fun _ => by kernel_rfl) rfl rfl rfl (by omega) (B1.out.extR hek n1) (B2.out.extR hek n2) ?_
      intro X hX
      have E' := ExtR.below E1.out (E.out.trans hek) (by omega)
      have sa := hea.1.size
      have sb := heb.1.size
      have sk := E.out.1.size
      have heb2 := heb.trans (ExtR.of_ext ec)
      refine ⟨x5, _, _, _, rfl, Tm.at_mono (fun b h => ?_) (hX.agree (S := fun b => w3.heap.size ≤ b) (fun k hk h => by omega)) (Tm.at_mono (fun b h => h) (heb2.agree (S := fun b => w3.heap.size ≤ b) (by omega)) hva), Tm.at_mono (fun b h => ?_) (hX.agree (S := fun b => wb.heap.size ≤ b) (fun k hk h => by omega)) hvc, ((Fr.of_ext E').trans (hX.mono (fun k _ h => show w.heap.size ≤ k by omega))).toExt (fun k hk hm => by omega)⟩
      · omega
      · omega
  · have E0 := ExtR.below E1.out E.out (by omega)
    have HVK := Lib.hid (HV0.out.ext E0)
    have EX := Lib.hid E0
    clear E0
    go_wp2_with fail
    refine (specl3Two _ _ HVK.out).mono ?_
    rintro e w4 ⟨x, u, v3, v4, rfl, hv3, hv4, e4⟩
    obtain ⟨a3, c3, rfl⟩ := at_form hv3
    obtain ⟨a4, c4, rfl⟩ := at_form hv4
    have B1 := Lib.hid (B1.out.ext e4)
    have B2 := Lib.hid (B2.out.ext e4)
    obtain ⟨g0, g1, g2, g3, g4, g5, g6, g7⟩ := B1.out
    obtain ⟨q0, q1, q2, q3, q4, q5, q6, q7⟩ := B2.out
    have V3 := Lib.hid hv3
    have V4 := Lib.hid hv4
    have EX := Lib.hid (EX.out.trans e4)
    have sk := E.out.1.size
    clear hv3 hv4 e4
    go_wp2_with fail
    refine ret44_set (p1 := 2) (p2 := 3) (T := 29) (b1 := w.heap.size) (b2 := w.heap.size + 1) (by kernel_rfl) (fun _ => by kernel_rfl) (fun _ => by kernel_rfl) rfl rfl rfl (by omega) B1.out B2.out ?_
    intro X hX
    have hag := hX.agree (S := fun b => w3.heap.size ≤ b) (fun k hk h => by omega)
    exact ⟨x, u, _, _, rfl, Tm.at_mono (fun b h => by omega) hag V3.out, Tm.at_mono (fun b h => by omega) hag V4.out, ((Fr.of_ext EX.out).trans (hX.mono (fun k _ h => show w.heap.size ≤ k by omega))).toExt (fun k hk hm => by omega)⟩

set_option maxRecDepth 100000 in
set_option maxHeartbeats 1000000 in
theorem drawUnifyTerms (v : Value) (w : World) (hv : BytesAt w v) : Calls Try.prog 36 #[v] w (TmOut2 w) := by
  have hb1 := BoxT.new w (.int .i64 0) (.int .i64 0) (.string ⟨#[]⟩) (.slice none 0 0) 29 rfl
  have hb2 := BoxT.new (w.alloc (.cells #[.int .i64 0, .int .i64 0, .string ⟨#[]⟩, .slice none 0 0] 29)) (.int .i64 0) (.int .i64 0) (.string ⟨#[]⟩) (.slice none 0 0) 29 (b := w.heap.size + 1) (by simp)
  have e02 := (Ext.alloc w (.cells #[.int .i64 0, .int .i64 0, .string ⟨#[]⟩, .slice none 0 0] 29)).trans (Ext.alloc _ (.cells #[.int .i64 0, .int .i64 0, .string ⟨#[]⟩, .slice none 0 0] 29))
  have B1 := Lib.hid (hb1.ext (Ext.alloc _ (.cells #[.int .i64 0, .int .i64 0, .string ⟨#[]⟩, .slice none 0 0] 29)))
  have B2 := Lib.hid hb2
  have HV := Lib.hid (hv.ext e02)
  have E02 := Lib.hid e02
  clear hb1 hb2 e02
  obtain ⟨a, len, cap, rfl, _⟩ := hv
  go_enter Try.func36, Try.ntmps36
  go_wp2_with fail
  refine (specl3Two _ _ HV.out).mono ?_
  rintro e w1 ⟨t, u, v1, v2, rfl, hv1, hv2, e1⟩
  obtain ⟨a1, c1, rfl⟩ := at_form hv1
  obtain ⟨a2, c2, rfl⟩ := at_form hv2
  have HB1 := Lib.hid (B1.out.ext e1)
  have HB2 := Lib.hid (B2.out.ext e1)
  obtain ⟨g0, g1, g2, g3, g4, g5, g6, g7⟩ := HB1.out
  obtain ⟨q0, q1, q2, q3, q4, q5, q6, q7⟩ := HB2.out
  have V1 := Lib.hid hv1
  have V2 := Lib.hid hv2
  have E1 := Lib.hid (E02.out.trans e1)
  clear hv1 hv2 e1 B1 B2 HV
  go_wp2_with fail
  refine ret44_set (p1 := 2) (p2 := 3) (T := 29) (b1 := w.heap.size) (b2 := w.heap.size + 1) (by kernel_rfl) (fun _ => by kernel_rfl) (fun _ => by kernel_rfl) rfl rfl rfl (by omega) HB1.out HB2.out ?_
  intro X hX
  have hag := hX.agree (S := fun b => w.heap.size + 2 ≤ b) (fun k hk h => by omega)
  exact ⟨t, u, _, _, rfl, Tm.at_mono (fun b h => by omega) hag (Tm.at_mono (fun b h => by simp at h; omega) (Agree.refl _) V1.out), Tm.at_mono (fun b h => by omega) hag (Tm.at_mono (fun b h => by simp at h; omega) (Agree.refl _) V2.out), ((Fr.of_ext E1.out).trans (hX.mono (fun k _ h => show w.heap.size ≤ k by omega))).toExt (fun k hk hm => by omega)⟩

set_option maxRecDepth 100000 in
set_option maxHeartbeats 1000000 in
theorem drawGeneralize (v : Value) (w : World) (hv : BytesAt w v) : Calls Try.prog 28 #[v] w (TmOut2 w) := by
  have hb1 := BoxT.new w (.int .i64 0) (.int .i64 0) (.string ⟨#[]⟩) (.slice none 0 0) 29 rfl
  have hb2 := BoxT.new (w.alloc (.cells #[.int .i64 0, .int .i64 0, .string ⟨#[]⟩, .slice none 0 0] 29)) (.int .i64 0) (.int .i64 0) (.string ⟨#[]⟩) (.slice none 0 0) 29 (b := w.heap.size + 1) (by simp)
  have e02 := (Ext.alloc w (.cells #[.int .i64 0, .int .i64 0, .string ⟨#[]⟩, .slice none 0 0] 29)).trans (Ext.alloc _ (.cells #[.int .i64 0, .int .i64 0, .string ⟨#[]⟩, .slice none 0 0] 29))
  have B1 := Lib.hid (hb1.ext (Ext.alloc _ (.cells #[.int .i64 0, .int .i64 0, .string ⟨#[]⟩, .slice none 0 0] 29)))
  have B2 := Lib.hid hb2
  have HV := Lib.hid (hv.ext e02)
  have E02 := Lib.hid e02
  clear hb1 hb2 e02
  obtain ⟨a, len, cap, rfl, _⟩ := hv
  go_enter Try.func28, Try.ntmps28
  go_wp2_with fail
  refine (specl3Two _ _ HV.out).mono ?_
  rintro e w1 ⟨t, u, v1, v2, rfl, hv1, hv2, e1⟩
  obtain ⟨a1, c1, rfl⟩ := at_form hv1
  obtain ⟨a2, c2, rfl⟩ := at_form hv2
  have HB1 := Lib.hid (B1.out.ext e1)
  have HB2 := Lib.hid (B2.out.ext e1)
  obtain ⟨g0, g1, g2, g3, g4, g5, g6, g7⟩ := HB1.out
  obtain ⟨q0, q1, q2, q3, q4, q5, q6, q7⟩ := HB2.out
  have V1 := Lib.hid hv1
  have V2 := Lib.hid hv2
  have E1 := Lib.hid (E02.out.trans e1)
  clear hv1 hv2 e1 B1 B2 HV
  go_wp2_with fail
  refine ret44_set (p1 := 2) (p2 := 3) (T := 29) (b1 := w.heap.size) (b2 := w.heap.size + 1) (by kernel_rfl) (fun _ => by kernel_rfl) (fun _ => by kernel_rfl) rfl rfl rfl (by omega) HB1.out HB2.out ?_
  intro X hX
  have hag := hX.agree (S := fun b => w.heap.size + 2 ≤ b) (fun k hk h => by omega)
  exact ⟨t, u, _, _, rfl, Tm.at_mono (fun b h => by omega) hag (Tm.at_mono (fun b h => by simp at h; omega) (Agree.refl _) V1.out), Tm.at_mono (fun b h => by omega) hag (Tm.at_mono (fun b h => by simp at h; omega) (Agree.refl _) V2.out), ((Fr.of_ext E1.out).trans (hX.mono (fun k _ h => show w.heap.size ≤ k by omega))).toExt (fun k hk hm => by omega)⟩

end Go.Proofs.Yteplfajhmpmklaa
