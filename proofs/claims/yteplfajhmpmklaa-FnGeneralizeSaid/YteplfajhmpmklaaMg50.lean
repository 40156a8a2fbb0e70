/-
  VariantTerms of the program.
-/
import Derived.Deep.RegionHeld
import Derived.Test.YteplfajhmpmklaaMg49
import Derived.Test.YteplfajhmpmklaaMg16
namespace Go.Proofs.Yteplfajhmpmklaa
open Go.RowKit
set_option linter.unusedVariables false

theorem wpAnyH_to {P : Program} {ops : Array Oper} {Q : Exit → Act → World → Prop} {md : Region.Mode} {S S' : World → Prop} (hs : ∀ w, S' w → S w) : ∀ (fuel : Nat) (listed : Array Bool) (a : Act) (w : World), wpAnyH P md ops Q S' fuel listed a w → wpAnyH P md ops Q S fuel listed a w
  | 0, _, _, _, h => h
  | fuel + 1, _, _, _, h => ⟨h.1, fun i hi => wpOp_mono (fun a' w' h' => ⟨hs _ h'.1, wpAnyH_to hs fuel _ a' w' h'.2⟩) (h.2 i hi)⟩
theorem getl {l : List Oper} {i : Nat} {o : Oper} (h : l[i]? = some o) : l.toArray[i]? = some o := by simpa using h

set_option maxRecDepth 100000 in
set_option maxHeartbeats 3000000 in
theorem implVariantTerms (t u : Tm) (v v' : Value) (S S' : Nat → Prop) (w : World) (ht : Tm.at S w t v) (hu : Tm.at S' w u v') :
    Calls Try.prog 17 #[v, v'] w fun e w' => e = .returned (.bool (variantF t u)) ∧ Ext w w' := by
  have T0 := Lib.hid (fun w' (e' : Ext w w') => implTermValid t v S w' (Tm.at_ext e' ht))
  have U0 := Lib.hid (fun w' (e' : Ext w w') => implTermValid u v' S' w' (Tm.at_ext e' hu))
  obtain ⟨a, c, rfl⟩ := at_form ht
  obtain ⟨b, d, rfl⟩ := at_form hu
  have CT := Lib.hid (fun (h : validF t = true) W nb (e' : Ext w W) => renum_new (W := W) (nb := nb) h ht e')
  have CU := Lib.hid (fun (h : validF u = true) W nb (e' : Ext w W) => renum_new (W := W) (nb := nb) h hu e')
  clear ht hu
  cases hv : validF t
  · have HT := Lib.hid hv
    clear hv
    have HF : Hid (variantF t u = false) := Lib.hid (by unfold variantF; rw [HT.out]; rfl)
    go_enter Try.func17, Try.ntmps17
    go_wp2_with fail
    obtain ⟨w0, hW⟩ : ∃ W0, W0 = ((w.alloc (.cells #[.int .i64 t.kind, .int .i64 t.n, .string t.name, .slice a t.kids.length c] 29)).alloc (.cells #[.int .i64 u.kind, .int .i64 u.n, .string u.name, .slice b u.kids.length d] 29)) := ⟨_, rfl⟩
    rw [← hW]
    have X := Lib.hid (show BoxT w0 w.heap.size (.int .i64 t.kind) (.int .i64 t.n) (.string t.name) (.slice a t.kids.length c) by rw [hW]; exact (BoxT.new w _ _ _ _ 29 rfl).ext (Ext.alloc _ _))
    have Y := Lib.hid (show BoxT w0 (w.heap.size + 1) (.int .i64 u.kind) (.int .i64 u.n) (.string u.name) (.slice b u.kids.length d) by rw [hW]; exact BoxT.new _ _ _ _ _ 29 (by simp))
    have E0 : Hid (Ext w w0) := Lib.hid (by rw [hW]; exact (Ext.alloc _ _).trans (Ext.alloc _ _))
    clear hW
    obtain ⟨x0, x1, x2, x3, _, _, _, _⟩ := X.out
    obtain ⟨y0, y1, y2, y3, _, _, _, _⟩ := Y.out
    refine wp_region_held_drew (S := fun w' => Ext w0 w') (by kernel_rfl) (Ext.drew w0) (fun hHeld => ?_)
    refine' wpAnyH_take (i := 0) (v := _) (oi := _) ?hi42 (by kernel_rfl) (by kernel_rfl) (by kernel_rfl) ?hQ42 (Or.inl ⟨?hw42, ?hy42⟩) hHeld ?rest42
    case hi42 => (apply getl; rfl)
    case hQ42 => exact fun _ _ _ h => h
    case hw42 => rfl
    case hy42 => (intro w hSw; have c0 := Ext.cell hSw x0; have c1 := Ext.cell hSw x1; have c2 := Ext.cell hSw x2; have c3 := Ext.cell hSw x3; go_simp; (try with_reducible rfl))
    try simp only [Act.put, List.setIfInBounds_toArray, List.set_cons_zero, List.set_cons_succ]
    refine wpAnyH_ready (rs := [1]) (by kernel_rfl) (by simp) ?_
    refine' AllReadyH.cons (o := _) ?hi61 (fun K hK => ?step61) ?more61
    case hi61 => (apply getl; rfl)
    case step61 =>
      go_simp
      go_at_call 27
      refine (T0.out _ (E0.out.trans (Ext.drew _))).mono ?_
      rw [HT.out]
      rintro e w1 ⟨rfl, q⟩
      have E1 : Ext w0 w1 := Ext.undrew q
      obtain ⟨x0, x1, x2, x3, _, _, _, _⟩ := X.out.ext E1
      obtain ⟨y0, y1, y2, y3, _, _, _, _⟩ := Y.out.ext E1
      clear q
      dsimp only
      refine hK.out _ _ (E1) (fun hHeld => ?_)
      clear hK K
      try simp only [Act.put, List.setIfInBounds_toArray, List.set_cons_zero, List.set_cons_succ]
      refine wpAnyH_to (S' := fun w' => Ext w1 w') (fun w' h => Ext.trans E1 h) _ _ _ _ ?_
      clear hHeld
      have hHeld := Ext.refl w1
      refine' wpAnyH_take (i := 2) (v := _) (oi := _) ?hi43 (by kernel_rfl) (by kernel_rfl) (by kernel_rfl) ?hQ43 (Or.inl ⟨?hw43, ?hy43⟩) hHeld ?rest43
      case hi43 => (apply getl; rfl)
      case hQ43 => exact fun _ _ _ h => h
      case hw43 => rfl
      case hy43 => (intro w hSw; go_simp; (try with_reducible rfl))
      try simp only [Act.put, List.setIfInBounds_toArray, List.set_cons_zero, List.set_cons_succ]
      refine' wpAnyH_take (i := 3) (v := undef) (oi := _) ?hi44 (by kernel_rfl) (by kernel_rfl) (by kernel_rfl) ?hQ44 (Or.inr ⟨?hw44, rfl⟩) hHeld ?rest44
      case hi44 => (apply getl; rfl)
      case hQ44 => exact fun _ _ _ h => h
      case hw44 => rfl
      try simp only [Act.put, List.setIfInBounds_toArray, List.set_cons_zero, List.set_cons_succ]
      refine' wpAnyH_take (i := 4) (v := undef) (oi := _) ?hi45 (by kernel_rfl) (by kernel_rfl) (by kernel_rfl) ?hQ45 (Or.inr ⟨?hw45, rfl⟩) hHeld ?rest45
      case hi45 => (apply getl; rfl)
      case hQ45 => exact fun _ _ _ h => h
      case hw45 => rfl
      try simp only [Act.put, List.setIfInBounds_toArray, List.set_cons_zero, List.set_cons_succ]
      refine' wpAnyH_take (i := 5) (v := _) (oi := _) ?hi46 (by kernel_rfl) (by kernel_rfl) (by kernel_rfl) ?hQ46 (Or.inl ⟨?hw46, ?hy46⟩) hHeld ?rest46
      case hi46 => (apply getl; rfl)
      case hQ46 => exact fun _ _ _ h => h
      case hw46 => rfl
      case hy46 => (intro w hSw; go_simp; (try with_reducible rfl))
      try simp only [Act.put, List.setIfInBounds_toArray, List.set_cons_zero, List.set_cons_succ]
      refine' wpAnyH_take (i := 6) (v := _) (oi := _) ?hi47 (by kernel_rfl) (by kernel_rfl) (by kernel_rfl) ?hQ47 (Or.inl ⟨?hw47, ?hy47⟩) hHeld ?rest47
      case hi47 => (apply getl; rfl)
      case hQ47 => exact fun _ _ _ h => h
      case hw47 => rfl
      case hy47 => (intro w hSw; go_simp; (try with_reducible rfl))
      try simp only [Act.put, List.setIfInBounds_toArray, List.set_cons_zero, List.set_cons_succ]
      refine' wpAnyH_take (i := 7) (v := undef) (oi := _) ?hi48 (by kernel_rfl) (by kernel_rfl) (by kernel_rfl) ?hQ48 (Or.inr ⟨?hw48, rfl⟩) hHeld ?rest48
      case hi48 => (apply getl; rfl)
      case hQ48 => exact fun _ _ _ h => h
      case hw48 => rfl
      try simp only [Act.put, List.setIfInBounds_toArray, List.set_cons_zero, List.set_cons_succ]
      refine' wpAnyH_take (i := 8) (v := undef) (oi := _) ?hi49 (by kernel_rfl) (by kernel_rfl) (by kernel_rfl) ?hQ49 (Or.inr ⟨?hw49, rfl⟩) hHeld ?rest49
      case hi49 => (apply getl; rfl)
      case hQ49 => exact fun _ _ _ h => h
      case hw49 => rfl
      try simp only [Act.put, List.setIfInBounds_toArray, List.set_cons_zero, List.set_cons_succ]
      refine' wpAnyH_take (i := 9) (v := undef) (oi := _) ?hi50 (by kernel_rfl) (by kernel_rfl) (by kernel_rfl) ?hQ50 (Or.inr ⟨?hw50, rfl⟩) hHeld ?rest50
      case hi50 => (apply getl; rfl)
      case hQ50 => exact fun _ _ _ h => h
      case hw50 => rfl
      try simp only [Act.put, List.setIfInBounds_toArray, List.set_cons_zero, List.set_cons_succ]
      refine' wpAnyH_take (i := 10) (v := undef) (oi := _) ?hi51 (by kernel_rfl) (by kernel_rfl) (by kernel_rfl) ?hQ51 (Or.inr ⟨?hw51, rfl⟩) hHeld ?rest51
      case hi51 => (apply getl; rfl)
      case hQ51 => exact fun _ _ _ h => h
      case hw51 => rfl
      try simp only [Act.put, List.setIfInBounds_toArray, List.set_cons_zero, List.set_cons_succ]
      refine' wpAnyH_take (i := 11) (v := undef) (oi := _) ?hi52 (by kernel_rfl) (by kernel_rfl) (by kernel_rfl) ?hQ52 (Or.inr ⟨?hw52, rfl⟩) hHeld ?rest52
      case hi52 => (apply getl; rfl)
      case hQ52 => exact fun _ _ _ h => h
      case hw52 => rfl
      try simp only [Act.put, List.setIfInBounds_toArray, List.set_cons_zero, List.set_cons_succ]
      refine' wpAnyH_take (i := 12) (v := undef) (oi := _) ?hi53 (by kernel_rfl) (by kernel_rfl) (by kernel_rfl) ?hQ53 (Or.inr ⟨?hw53, rfl⟩) hHeld ?rest53
      case hi53 => (apply getl; rfl)
      case hQ53 => exact fun _ _ _ h => h
      case hw53 => rfl
      try simp only [Act.put, List.setIfInBounds_toArray, List.set_cons_zero, List.set_cons_succ]
      refine' wpAnyH_take (i := 13) (v := undef) (oi := _) ?hi54 (by kernel_rfl) (by kernel_rfl) (by kernel_rfl) ?hQ54 (Or.inr ⟨?hw54, rfl⟩) hHeld ?rest54
      case hi54 => (apply getl; rfl)
      case hQ54 => exact fun _ _ _ h => h
      case hw54 => rfl
      try simp only [Act.put, List.setIfInBounds_toArray, List.set_cons_zero, List.set_cons_succ]
      refine' wpAnyH_take (i := 14) (v := undef) (oi := _) ?hi55 (by kernel_rfl) (by kernel_rfl) (by kernel_rfl) ?hQ55 (Or.inr ⟨?hw55, rfl⟩) hHeld ?rest55
      case hi55 => (apply getl; rfl)
      case hQ55 => exact fun _ _ _ h => h
      case hw55 => rfl
      try simp only [Act.put, List.setIfInBounds_toArray, List.set_cons_zero, List.set_cons_succ]
      refine' wpAnyH_take (i := 15) (v := undef) (oi := _) ?hi56 (by kernel_rfl) (by kernel_rfl) (by kernel_rfl) ?hQ56 (Or.inr ⟨?hw56, rfl⟩) hHeld ?rest56
      case hi56 => (apply getl; rfl)
      case hQ56 => exact fun _ _ _ h => h
      case hw56 => rfl
      try simp only [Act.put, List.setIfInBounds_toArray, List.set_cons_zero, List.set_cons_succ]
      refine' wpAnyH_take (i := 16) (v := undef) (oi := _) ?hi57 (by kernel_rfl) (by kernel_rfl) (by kernel_rfl) ?hQ57 (Or.inr ⟨?hw57, rfl⟩) hHeld ?rest57
      case hi57 => (apply getl; rfl)
      case hQ57 => exact fun _ _ _ h => h
      case hw57 => rfl
      try simp only [Act.put, List.setIfInBounds_toArray, List.set_cons_zero, List.set_cons_succ]
      refine' wpAnyH_take (i := 17) (v := undef) (oi := _) ?hi58 (by kernel_rfl) (by kernel_rfl) (by kernel_rfl) ?hQ58 (Or.inr ⟨?hw58, rfl⟩) hHeld ?rest58
      case hi58 => (apply getl; rfl)
      case hQ58 => exact fun _ _ _ h => h
      case hw58 => rfl
      try simp only [Act.put, List.setIfInBounds_toArray, List.set_cons_zero, List.set_cons_succ]
      refine' wpAnyH_take (i := 18) (v := _) (oi := _) ?hi59 (by kernel_rfl) (by kernel_rfl) (by kernel_rfl) ?hQ59 (Or.inl ⟨?hw59, ?hy59⟩) hHeld ?rest59
      case hi59 => (apply getl; rfl)
      case hQ59 => exact fun _ _ _ h => h
      case hw59 => rfl
      case hy59 => (intro w hSw; go_simp; (try with_reducible rfl))
      try simp only [Act.put, List.setIfInBounds_toArray, List.set_cons_zero, List.set_cons_succ]
      refine' wpAnyH_take (i := 19) (v := _) (oi := _) ?hi60 (by kernel_rfl) (by kernel_rfl) (by kernel_rfl) ?hQ60 (Or.inl ⟨?hw60, ?hy60⟩) hHeld ?rest60
      case hi60 => (apply getl; rfl)
      case hQ60 => exact fun _ _ _ h => h
      case hw60 => rfl
      case hy60 => (intro w hSw; go_simp; (try with_reducible rfl))
      try simp only [Act.put, List.setIfInBounds_toArray, List.set_cons_zero, List.set_cons_succ]
      refine wpAnyH_done (by kernel_rfl) ?_ _
      go_wp2_with fail
      go_ret
      exact ⟨retB HF.out.symm, E0.out.trans E1⟩
    case more61 =>
      exact AllReadyH.nil
  cases hu : validF u
  · have HT := Lib.hid hv
    have HU := Lib.hid hu
    clear hv hu
    have HF : Hid (variantF t u = false) := Lib.hid (by unfold variantF; rw [HT.out, HU.out]; rfl)
    go_enter Try.func17, Try.ntmps17
    go_wp2_with fail
    obtain ⟨w0, hW⟩ : ∃ W0, W0 = ((w.alloc (.cells #[.int .i64 t.kind, .int .i64 t.n, .string t.name, .slice a t.kids.length c] 29)).alloc (.cells #[.int .i64 u.kind, .int .i64 u.n, .string u.name, .slice b u.kids.length d] 29)) := ⟨_, rfl⟩
    rw [← hW]
    have X := Lib.hid (show BoxT w0 w.heap.size (.int .i64 t.kind) (.int .i64 t.n) (.string t.name) (.slice a t.kids.length c) by rw [hW]; exact (BoxT.new w _ _ _ _ 29 rfl).ext (Ext.alloc _ _))
    have Y := Lib.hid (show BoxT w0 (w.heap.size + 1) (.int .i64 u.kind) (.int .i64 u.n) (.string u.name) (.slice b u.kids.length d) by rw [hW]; exact BoxT.new _ _ _ _ _ 29 (by simp))
    have E0 : Hid (Ext w w0) := Lib.hid (by rw [hW]; exact (Ext.alloc _ _).trans (Ext.alloc _ _))
    clear hW
    obtain ⟨x0, x1, x2, x3, _, _, _, _⟩ := X.out
    obtain ⟨y0, y1, y2, y3, _, _, _, _⟩ := Y.out
    refine wp_region_held_drew (S := fun w' => Ext w0 w') (by kernel_rfl) (Ext.drew w0) (fun hHeld => ?_)
    refine' wpAnyH_take (i := 0) (v := _) (oi := _) ?hi62 (by kernel_rfl) (by kernel_rfl) (by kernel_rfl) ?hQ62 (Or.inl ⟨?hw62, ?hy62⟩) hHeld ?rest62
    case hi62 => (apply getl; rfl)
    case hQ62 => exact fun _ _ _ h => h
    case hw62 => rfl
    case hy62 => (intro w hSw; have c0 := Ext.cell hSw x0; have c1 := Ext.cell hSw x1; have c2 := Ext.cell hSw x2; have c3 := Ext.cell hSw x3; go_simp; (try with_reducible rfl))
    try simp only [Act.put, List.setIfInBounds_toArray, List.set_cons_zero, List.set_cons_succ]
    refine wpAnyH_ready (rs := [1]) (by kernel_rfl) (by simp) ?_
    refine' AllReadyH.cons (o := _) ?hi81 (fun K hK => ?step81) ?more81
    case hi81 => (apply getl; rfl)
    case step81 =>
      go_simp
      go_at_call 27
      refine (T0.out _ (E0.out.trans (Ext.drew _))).mono ?_
      rw [HT.out]
      rintro e w1 ⟨rfl, q⟩
      have E1 : Ext w0 w1 := Ext.undrew q
      obtain ⟨x0, x1, x2, x3, _, _, _, _⟩ := X.out.ext E1
      obtain ⟨y0, y1, y2, y3, _, _, _, _⟩ := Y.out.ext E1
      clear q
      dsimp only
      refine hK.out _ _ (E1) (fun hHeld => ?_)
      clear hK K
      try simp only [Act.put, List.setIfInBounds_toArray, List.set_cons_zero, List.set_cons_succ]
      refine wpAnyH_to (S' := fun w' => Ext w1 w') (fun w' h => Ext.trans E1 h) _ _ _ _ ?_
      clear hHeld
      have hHeld := Ext.refl w1
      refine' wpAnyH_take (i := 2) (v := _) (oi := _) ?hi78 (by kernel_rfl) (by kernel_rfl) (by kernel_rfl) ?hQ78 (Or.inl ⟨?hw78, ?hy78⟩) hHeld ?rest78
      case hi78 => (apply getl; rfl)
      case hQ78 => exact fun _ _ _ h => h
      case hw78 => rfl
      case hy78 => (intro w hSw; go_simp; (try with_reducible rfl))
      try simp only [Act.put, List.setIfInBounds_toArray, List.set_cons_zero, List.set_cons_succ]
      refine' wpAnyH_take (i := 3) (v := _) (oi := _) ?hi79 (by kernel_rfl) (by kernel_rfl) (by kernel_rfl) ?hQ79 (Or.inl ⟨?hw79, ?hy79⟩) hHeld ?rest79
      case hi79 => (apply getl; rfl)
      case hQ79 => exact fun _ _ _ h => h
      case hw79 => rfl
      case hy79 => (intro w hSw; have c0 := Ext.cell hSw y0; have c1 := Ext.cell hSw y1; have c2 := Ext.cell hSw y2; have c3 := Ext.cell hSw y3; go_simp; (try with_reducible rfl))
      try simp only [Act.put, List.setIfInBounds_toArray, List.set_cons_zero, List.set_cons_succ]
      refine wpAnyH_ready (rs := [4]) (by kernel_rfl) (by simp) ?_
      refine' AllReadyH.cons (o := _) ?hi80 (fun K hK => ?step80) ?more80
      case hi80 => (apply getl; rfl)
      case step80 =>
        go_simp
        go_at_call 27
        refine (U0.out _ (E0.out.trans E1)).mono ?_
        rw [HU.out]
        rintro e w2 ⟨rfl, q⟩
        have E2 : Ext w1 w2 := q
        obtain ⟨x0, x1, x2, x3, _, _, _, _⟩ := X.out.ext (E1.trans E2)
        obtain ⟨y0, y1, y2, y3, _, _, _, _⟩ := Y.out.ext (E1.trans E2)
        clear q
        dsimp only
        refine hK.out _ _ (E2) (fun hHeld => ?_)
        clear hK K
        try simp only [Act.put, List.setIfInBounds_toArray, List.set_cons_zero, List.set_cons_succ]
        refine wpAnyH_to (S' := fun w' => Ext w2 w') (fun w' h => Ext.trans E2 h) _ _ _ _ ?_
        clear hHeld
        have hHeld := Ext.refl w2
        refine' wpAnyH_take (i := 5) (v := _) (oi := _) ?hi63 (by kernel_rfl) (by kernel_rfl) (by kernel_rfl) ?hQ63 (Or.inl ⟨?hw63, ?hy63⟩) hHeld ?rest63
        case hi63 => (apply getl; rfl)
        case hQ63 => exact fun _ _ _ h => h
        case hw63 => rfl
        case hy63 => (intro w hSw; go_simp; (try with_reducible rfl))
        try simp only [Act.put, List.setIfInBounds_toArray, List.set_cons_zero, List.set_cons_succ]
        refine' wpAnyH_take (i := 6) (v := _) (oi := _) ?hi64 (by kernel_rfl) (by kernel_rfl) (by kernel_rfl) ?hQ64 (Or.inl ⟨?hw64, ?hy64⟩) hHeld ?rest64
        case hi64 => (apply getl; rfl)
        case hQ64 => exact fun _ _ _ h => h
        case hw64 => rfl
        case hy64 => (intro w hSw; go_simp; (try with_reducible rfl))
        try simp only [Act.put, List.setIfInBounds_toArray, List.set_cons_zero, List.set_cons_succ]
        refine' wpAnyH_take (i := 7) (v := undef) (oi := _) ?hi65 (by kernel_rfl) (by kernel_rfl) (by kernel_rfl) ?hQ65 (Or.inr ⟨?hw65, rfl⟩) hHeld ?rest65
        case hi65 => (apply getl; rfl)
        case hQ65 => exact fun _ _ _ h => h
        case hw65 => rfl
        try simp only [Act.put, List.setIfInBounds_toArray, List.set_cons_zero, List.set_cons_succ]
        refine' wpAnyH_take (i := 8) (v := undef) (oi := _) ?hi66 (by kernel_rfl) (by kernel_rfl) (by kernel_rfl) ?hQ66 (Or.inr ⟨?hw66, rfl⟩) hHeld ?rest66
        case hi66 => (apply getl; rfl)
        case hQ66 => exact fun _ _ _ h => h
        case hw66 => rfl
        try simp only [Act.put, List.setIfInBounds_toArray, List.set_cons_zero, List.set_cons_succ]
        refine' wpAnyH_take (i := 9) (v := undef) (oi := _) ?hi67 (by kernel_rfl) (by kernel_rfl) (by kernel_rfl) ?hQ67 (Or.inr ⟨?hw67, rfl⟩) hHeld ?rest67
        case hi67 => (apply getl; rfl)
        case hQ67 => exact fun _ _ _ h => h
        case hw67 => rfl
        try simp only [Act.put, List.setIfInBounds_toArray, List.set_cons_zero, List.set_cons_succ]
        refine' wpAnyH_take (i := 10) (v := undef) (oi := _) ?hi68 (by kernel_rfl) (by kernel_rfl) (by kernel_rfl) ?hQ68 (Or.inr ⟨?hw68, rfl⟩) hHeld ?rest68
        case hi68 => (apply getl; rfl)
        case hQ68 => exact fun _ _ _ h => h
        case hw68 => rfl
        try simp only [Act.put, List.setIfInBounds_toArray, List.set_cons_zero, List.set_cons_succ]
        refine' wpAnyH_take (i := 11) (v := undef) (oi := _) ?hi69 (by kernel_rfl) (by kernel_rfl) (by kernel_rfl) ?hQ69 (Or.inr ⟨?hw69, rfl⟩) hHeld ?rest69
        case hi69 => (apply getl; rfl)
        case hQ69 => exact fun _ _ _ h => h
        case hw69 => rfl
        try simp only [Act.put, List.setIfInBounds_toArray, List.set_cons_zero, List.set_cons_succ]
        refine' wpAnyH_take (i := 12) (v := undef) (oi := _) ?hi70 (by kernel_rfl) (by kernel_rfl) (by kernel_rfl) ?hQ70 (Or.inr ⟨?hw70, rfl⟩) hHeld ?rest70
        case hi70 => (apply getl; rfl)
        case hQ70 => exact fun _ _ _ h => h
        case hw70 => rfl
        try simp only [Act.put, List.setIfInBounds_toArray, List.set_cons_zero, List.set_cons_succ]
        refine' wpAnyH_take (i := 13) (v := undef) (oi := _) ?hi71 (by kernel_rfl) (by kernel_rfl) (by kernel_rfl) ?hQ71 (Or.inr ⟨?hw71, rfl⟩) hHeld ?rest71
        case hi71 => (apply getl; rfl)
        case hQ71 => exact fun _ _ _ h => h
        case hw71 => rfl
        try simp only [Act.put, List.setIfInBounds_toArray, List.set_cons_zero, List.set_cons_succ]
        refine' wpAnyH_take (i := 14) (v := undef) (oi := _) ?hi72 (by kernel_rfl) (by kernel_rfl) (by kernel_rfl) ?hQ72 (Or.inr ⟨?hw72, rfl⟩) hHeld ?rest72
        case hi72 => (apply getl; rfl)
        case hQ72 => exact fun _ _ _ h => h
        case hw72 => rfl
        try simp only [Act.put, List.setIfInBounds_toArray, List.set_cons_zero, List.set_cons_succ]
        refine' wpAnyH_take (i := 15) (v := undef) (oi := _) ?hi73 (by kernel_rfl) (by kernel_rfl) (by kernel_rfl) ?hQ73 (Or.inr ⟨?hw73, rfl⟩) hHeld ?rest73
        case hi73 => (apply getl; rfl)
        case hQ73 => exact fun _ _ _ h => h
        case hw73 => rfl
        try simp only [Act.put, List.setIfInBounds_toArray, List.set_cons_zero, List.set_cons_succ]
        refine' wpAnyH_take (i := 16) (v := undef) (oi := _) ?hi74 (by kernel_rfl) (by kernel_rfl) (by kernel_rfl) ?hQ74 (Or.inr ⟨?hw74, rfl⟩) hHeld ?rest74
        case hi74 => (apply getl; rfl)
        case hQ74 => exact fun _ _ _ h => h
        case hw74 => rfl
        try simp only [Act.put, List.setIfInBounds_toArray, List.set_cons_zero, List.set_cons_succ]
        refine' wpAnyH_take (i := 17) (v := undef) (oi := _) ?hi75 (by kernel_rfl) (by kernel_rfl) (by kernel_rfl) ?hQ75 (Or.inr ⟨?hw75, rfl⟩) hHeld ?rest75
        case hi75 => (apply getl; rfl)
        case hQ75 => exact fun _ _ _ h => h
        case hw75 => rfl
        try simp only [Act.put, List.setIfInBounds_toArray, List.set_cons_zero, List.set_cons_succ]
        refine' wpAnyH_take (i := 18) (v := _) (oi := _) ?hi76 (by kernel_rfl) (by kernel_rfl) (by kernel_rfl) ?hQ76 (Or.inl ⟨?hw76, ?hy76⟩) hHeld ?rest76
        case hi76 => (apply getl; rfl)
        case hQ76 => exact fun _ _ _ h => h
        case hw76 => rfl
        case hy76 => (intro w hSw; go_simp; (try with_reducible rfl))
        try simp only [Act.put, List.setIfInBounds_toArray, List.set_cons_zero, List.set_cons_succ]
        refine' wpAnyH_take (i := 19) (v := _) (oi := _) ?hi77 (by kernel_rfl) (by kernel_rfl) (by kernel_rfl) ?hQ77 (Or.inl ⟨?hw77, ?hy77⟩) hHeld ?rest77
        case hi77 => (apply getl; rfl)
        case hQ77 => exact fun _ _ _ h => h
        case hw77 => rfl
        case hy77 => (intro w hSw; go_simp; (try with_reducible rfl))
        try simp only [Act.put, List.setIfInBounds_toArray, List.set_cons_zero, List.set_cons_succ]
        refine wpAnyH_done (by kernel_rfl) ?_ _
        go_wp2_with fail
        go_ret
        exact ⟨retB HF.out.symm, (E0.out.trans E1).trans E2⟩
      case more80 =>
        exact AllReadyH.nil
    case more81 =>
      exact AllReadyH.nil
  · have HT := Lib.hid hv
    have HU := Lib.hid hu
    clear hv hu
    have HF : Hid (variantF t u = Tm.same (ren1 t) (ren1 u)) := Lib.hid (by unfold variantF; rw [HT.out, HU.out]; rfl)
    go_enter Try.func17, Try.ntmps17
    go_wp2_with fail
    obtain ⟨w0, hW⟩ : ∃ W0, W0 = ((w.alloc (.cells #[.int .i64 t.kind, .int .i64 t.n, .string t.name, .slice a t.kids.length c] 29)).alloc (.cells #[.int .i64 u.kind, .int .i64 u.n, .string u.name, .slice b u.kids.length d] 29)) := ⟨_, rfl⟩
    rw [← hW]
    have X := Lib.hid (show BoxT w0 w.heap.size (.int .i64 t.kind) (.int .i64 t.n) (.string t.name) (.slice a t.kids.length c) by rw [hW]; exact (BoxT.new w _ _ _ _ 29 rfl).ext (Ext.alloc _ _))
    have Y := Lib.hid (show BoxT w0 (w.heap.size + 1) (.int .i64 u.kind) (.int .i64 u.n) (.string u.name) (.slice b u.kids.length d) by rw [hW]; exact BoxT.new _ _ _ _ _ 29 (by simp))
    have E0 : Hid (Ext w w0) := Lib.hid (by rw [hW]; exact (Ext.alloc _ _).trans (Ext.alloc _ _))
    clear hW
    obtain ⟨x0, x1, x2, x3, _, _, _, _⟩ := X.out
    obtain ⟨y0, y1, y2, y3, _, _, _, _⟩ := Y.out
    refine wp_region_held_drew (S := fun w' => Ext w0 w') (by kernel_rfl) (Ext.drew w0) (fun hHeld => ?_)
    refine' wpAnyH_take (i := 0) (v := _) (oi := _) ?hi31 (by kernel_rfl) (by kernel_rfl) (by kernel_rfl) ?hQ31 (Or.inl ⟨?hw31, ?hy31⟩) hHeld ?rest31
    case hi31 => (apply getl; rfl)
    case hQ31 => exact fun _ _ _ h => h
    case hw31 => rfl
    case hy31 => (intro w hSw; have c0 := Ext.cell hSw x0; have c1 := Ext.cell hSw x1; have c2 := Ext.cell hSw x2; have c3 := Ext.cell hSw x3; go_simp; (try with_reducible rfl))
    try simp only [Act.put, List.setIfInBounds_toArray, List.set_cons_zero, List.set_cons_succ]
    refine wpAnyH_ready (rs := [1]) (by kernel_rfl) (by simp) ?_
    refine' AllReadyH.cons (o := _) ?hi41 (fun K hK => ?step41) ?more41
    case hi41 => (apply getl; rfl)
    case step41 =>
      go_simp
      go_at_call 27
      refine (T0.out _ (E0.out.trans (Ext.drew _))).mono ?_
      rw [HT.out]
      rintro e w1 ⟨rfl, q⟩
      have E1 : Ext w0 w1 := Ext.undrew q
      obtain ⟨x0, x1, x2, x3, _, _, _, _⟩ := X.out.ext E1
      obtain ⟨y0, y1, y2, y3, _, _, _, _⟩ := Y.out.ext E1
      clear q
      dsimp only
      refine hK.out _ _ (E1) (fun hHeld => ?_)
      clear hK K
      try simp only [Act.put, List.setIfInBounds_toArray, List.set_cons_zero, List.set_cons_succ]
      refine wpAnyH_to (S' := fun w' => Ext w1 w') (fun w' h => Ext.trans E1 h) _ _ _ _ ?_
      clear hHeld
      have hHeld := Ext.refl w1
      refine' wpAnyH_take (i := 2) (v := _) (oi := _) ?hi38 (by kernel_rfl) (by kernel_rfl) (by kernel_rfl) ?hQ38 (Or.inl ⟨?hw38, ?hy38⟩) hHeld ?rest38
      case hi38 => (apply getl; rfl)
      case hQ38 => exact fun _ _ _ h => h
      case hw38 => rfl
      case hy38 => (intro w hSw; go_simp; (try with_reducible rfl))
      try simp only [Act.put, List.setIfInBounds_toArray, List.set_cons_zero, List.set_cons_succ]
      refine' wpAnyH_take (i := 3) (v := _) (oi := _) ?hi39 (by kernel_rfl) (by kernel_rfl) (by kernel_rfl) ?hQ39 (Or.inl ⟨?hw39, ?hy39⟩) hHeld ?rest39
      case hi39 => (apply getl; rfl)
      case hQ39 => exact fun _ _ _ h => h
      case hw39 => rfl
      case hy39 => (intro w hSw; have c0 := Ext.cell hSw y0; have c1 := Ext.cell hSw y1; have c2 := Ext.cell hSw y2; have c3 := Ext.cell hSw y3; go_simp; (try with_reducible rfl))
      try simp only [Act.put, List.setIfInBounds_toArray, List.set_cons_zero, List.set_cons_succ]
      refine wpAnyH_ready (rs := [4]) (by kernel_rfl) (by simp) ?_
      refine' AllReadyH.cons (o := _) ?hi40 (fun K hK => ?step40) ?more40
      case hi40 => (apply getl; rfl)
      case step40 =>
        go_simp
        go_at_call 27
        refine (U0.out _ (E0.out.trans E1)).mono ?_
        rw [HU.out]
        rintro e w2 ⟨rfl, q⟩
        have E2 : Ext w1 w2 := q
        obtain ⟨x0, x1, x2, x3, _, _, _, _⟩ := X.out.ext (E1.trans E2)
        obtain ⟨y0, y1, y2, y3, _, _, _, _⟩ := Y.out.ext (E1.trans E2)
        clear q
        dsimp only
        refine hK.out _ _ (E2) (fun hHeld => ?_)
        clear hK K
        try simp only [Act.put, List.setIfInBounds_toArray, List.set_cons_zero, List.set_cons_succ]
        refine wpAnyH_to (S' := fun w' => Ext w2 w') (fun w' h => Ext.trans E2 h) _ _ _ _ ?_
        clear hHeld
        have hHeld := Ext.refl w2
        refine' wpAnyH_take (i := 5) (v := _) (oi := _) ?hi32 (by kernel_rfl) (by kernel_rfl) (by kernel_rfl) ?hQ32 (Or.inl ⟨?hw32, ?hy32⟩) hHeld ?rest32
        case hi32 => (apply getl; rfl)
        case hQ32 => exact fun _ _ _ h => h
        case hw32 => rfl
        case hy32 => (intro w hSw; go_simp; (try with_reducible rfl))
        try simp only [Act.put, List.setIfInBounds_toArray, List.set_cons_zero, List.set_cons_succ]
        refine' wpAnyH_take (i := 6) (v := _) (oi := _) ?hi33 (by kernel_rfl) (by kernel_rfl) (by kernel_rfl) ?hQ33 (Or.inl ⟨?hw33, ?hy33⟩) hHeld ?rest33
        case hi33 => (apply getl; rfl)
        case hQ33 => exact fun _ _ _ h => h
        case hw33 => rfl
        case hy33 => (intro w hSw; go_simp; (try with_reducible rfl))
        try simp only [Act.put, List.setIfInBounds_toArray, List.set_cons_zero, List.set_cons_succ]
        refine' wpAnyH_take (i := 7) (v := _) (oi := _) ?hi34 (by kernel_rfl) (by kernel_rfl) (by kernel_rfl) ?hQ34 (Or.inl ⟨?hw34, ?hy34⟩) hHeld ?rest34
        case hi34 => (apply getl; rfl)
        case hQ34 => exact fun _ _ _ h => h
        case hw34 => rfl
        case hy34 => (intro w hSw; have c0 := Ext.cell hSw x0; have c1 := Ext.cell hSw x1; have c2 := Ext.cell hSw x2; have c3 := Ext.cell hSw x3; go_simp; (try with_reducible rfl))
        try simp only [Act.put, List.setIfInBounds_toArray, List.set_cons_zero, List.set_cons_succ]
        refine' wpAnyH_take (i := 12) (v := _) (oi := _) ?hi35 (by kernel_rfl) (by kernel_rfl) (by kernel_rfl) ?hQ35 (Or.inl ⟨?hw35, ?hy35⟩) hHeld ?rest35
        case hi35 => (apply getl; rfl)
        case hQ35 => exact fun _ _ _ h => h
        case hw35 => rfl
        case hy35 => (intro w hSw; have c0 := Ext.cell hSw y0; have c1 := Ext.cell hSw y1; have c2 := Ext.cell hSw y2; have c3 := Ext.cell hSw y3; go_simp; (try with_reducible rfl))
        try simp only [Act.put, List.setIfInBounds_toArray, List.set_cons_zero, List.set_cons_succ]
        refine wpAnyH_ready (rs := [8, 13]) (by kernel_rfl) (by simp) ?_
        refine' AllReadyH.cons (o := _) ?hi36 (fun K hK => ?step36) ?more36
        case hi36 => (apply getl; rfl)
        case step36 =>
          go_simp
          refine hK.out _ _ (Ext.alloc _ _) (fun hHeld => ?_)
          clear hK K
          try simp only [Act.put, List.setIfInBounds_toArray, List.set_cons_zero, List.set_cons_succ]
          refine wpAnyH_ready (rs := [9, 13]) (by kernel_rfl) (by simp) ?_
          refine' AllReadyH.cons (o := _) ?hi19 (fun K hK => ?step19) ?more19
          case hi19 => (apply getl; rfl)
          case step19 =>
            go_simp
            go_at_call 51
            refine (CT.out HT.out _ _ (((E0.out.trans E1).trans E2).trans (Ext.alloc _ _)) (by go_simp) (by go_simp) (by go_simp) (by go_simp)).mono ?_
            rintro e w3 ⟨b3, p3, a3, c3, rfl, hp3, k0, k1, k2, k3, hat3, q⟩
            have E3 : Ext w2 w3 := (Ext.alloc _ _).trans q
            have O3 := Lib.hid hat3
            clear hat3
            have hb3 := block_lt_of_cell k0
            simp only at hb3
            clear q
            dsimp only
            refine hK.out _ _ (E3) (fun hHeld => ?_)
            clear hK K
            try simp only [Act.put, List.setIfInBounds_toArray, List.set_cons_zero, List.set_cons_succ]
            refine wpAnyH_to (S' := fun w' => Ext w3 w') (fun w' h => Ext.trans E3 h) _ _ _ _ ?_
            clear hHeld
            have hHeld := Ext.refl w3
            refine' wpAnyH_take (i := 10) (v := _) (oi := _) ?hi1 (by kernel_rfl) (by kernel_rfl) (by kernel_rfl) ?hQ1 (Or.inl ⟨?hw1, ?hy1⟩) hHeld ?rest1
            case hi1 => (apply getl; rfl)
            case hQ1 => exact fun _ _ _ h => h
            case hw1 => rfl
            case hy1 => (intro w hSw; go_simp; (try with_reducible rfl))
            try simp only [Act.put, List.setIfInBounds_toArray, List.set_cons_zero, List.set_cons_succ]
            refine' wpAnyH_take (i := 11) (v := _) (oi := _) ?hi2 (by kernel_rfl) (by kernel_rfl) (by kernel_rfl) ?hQ2 (Or.inl ⟨?hw2, ?hy2⟩) hHeld ?rest2
            case hi2 => (apply getl; rfl)
            case hQ2 => exact fun _ _ _ h => h
            case hw2 => rfl
            case hy2 => (intro w hSw; have c0 := Ext.cell hSw k0; have c1 := Ext.cell hSw k1; have c2 := Ext.cell hSw k2; have c3 := Ext.cell hSw k3; go_simp; (try with_reducible rfl))
            try simp only [Act.put, List.setIfInBounds_toArray, List.set_cons_zero, List.set_cons_succ]
            refine wpAnyH_ready (rs := [13]) (by kernel_rfl) (by simp) ?_
            refine' AllReadyH.cons (o := _) ?hi9 (fun K hK => ?step9) ?more9
            case hi9 => (apply getl; rfl)
            case step9 =>
              go_simp
              refine hK.out _ _ (Ext.alloc _ _) (fun hHeld => ?_)
              clear hK K
              try simp only [Act.put, List.setIfInBounds_toArray, List.set_cons_zero, List.set_cons_succ]
              refine wpAnyH_ready (rs := [14]) (by kernel_rfl) (by simp) ?_
              refine' AllReadyH.cons (o := _) ?hi8 (fun K hK => ?step8) ?more8
              case hi8 => (apply getl; rfl)
              case step8 =>
                go_simp
                go_at_call 51
                refine (CU.out HU.out _ _ ((((E0.out.trans E1).trans E2).trans E3).trans (Ext.alloc _ _)) (by go_simp) (by go_simp) (by go_simp) (by go_simp)).mono ?_
                rintro e w4 ⟨b4, p4, a4, c4, rfl, hp4, l0, l1, l2, l3, hat4, q⟩
                have E4 : Ext w3 w4 := (Ext.alloc _ _).trans q
                have O4 := Lib.hid hat4
                clear hat4
                clear q
                dsimp only
                refine hK.out _ _ (E4) (fun hHeld => ?_)
                clear hK K
                try simp only [Act.put, List.setIfInBounds_toArray, List.set_cons_zero, List.set_cons_succ]
                refine wpAnyH_to (S' := fun w' => Ext w4 w') (fun w' h => Ext.trans E4 h) _ _ _ _ ?_
                clear hHeld
                have hHeld := Ext.refl w4
                refine' wpAnyH_take (i := 15) (v := _) (oi := _) ?hi3 (by kernel_rfl) (by kernel_rfl) (by kernel_rfl) ?hQ3 (Or.inl ⟨?hw3, ?hy3⟩) hHeld ?rest3
                case hi3 => (apply getl; rfl)
                case hQ3 => exact fun _ _ _ h => h
                case hw3 => rfl
                case hy3 => (intro w hSw; go_simp; (try with_reducible rfl))
                try simp only [Act.put, List.setIfInBounds_toArray, List.set_cons_zero, List.set_cons_succ]
                refine' wpAnyH_take (i := 16) (v := _) (oi := _) ?hi4 (by kernel_rfl) (by kernel_rfl) (by kernel_rfl) ?hQ4 (Or.inl ⟨?hw4, ?hy4⟩) hHeld ?rest4
                case hi4 => (apply getl; rfl)
                case hQ4 => exact fun _ _ _ h => h
                case hw4 => rfl
                case hy4 => (intro w hSw; have c0 := Ext.cell hSw l0; have c1 := Ext.cell hSw l1; have c2 := Ext.cell hSw l2; have c3 := Ext.cell hSw l3; go_simp; (try with_reducible rfl))
                try simp only [Act.put, List.setIfInBounds_toArray, List.set_cons_zero, List.set_cons_succ]
                refine wpAnyH_ready (rs := [17]) (by kernel_rfl) (by simp) ?_
                refine' AllReadyH.cons (o := _) ?hi7 (fun K hK => ?step7) ?more7
                case hi7 => (apply getl; rfl)
                case step7 =>
                  go_simp
                  go_at_call 29
                  refine (implTermSame _ (ren1 t) (ren1 u) _ _ _ _ _ (Nat.le_refl _) (Tm.at_ext E4 O3.out) O4.out).mono ?_
                  rintro e w5 ⟨rfl, q⟩
                  have E5 := Lib.hid q
                  clear q
                  dsimp only
                  refine hK.out _ _ (E5.out) (fun hHeld => ?_)
                  clear hK K
                  try simp only [Act.put, List.setIfInBounds_toArray, List.set_cons_zero, List.set_cons_succ]
                  refine' wpAnyH_take (i := 18) (v := _) (oi := _) ?hi5 (by kernel_rfl) (by kernel_rfl) (by kernel_rfl) ?hQ5 (Or.inl ⟨?hw5, ?hy5⟩) hHeld ?rest5
                  case hi5 => (apply getl; rfl)
                  case hQ5 => exact fun _ _ _ h => h
                  case hw5 => rfl
                  case hy5 => (intro w hSw; go_simp; (try with_reducible rfl))
                  try simp only [Act.put, List.setIfInBounds_toArray, List.set_cons_zero, List.set_cons_succ]
                  refine' wpAnyH_take (i := 19) (v := _) (oi := _) ?hi6 (by kernel_rfl) (by kernel_rfl) (by kernel_rfl) ?hQ6 (Or.inl ⟨?hw6, ?hy6⟩) hHeld ?rest6
                  case hi6 => (apply getl; rfl)
                  case hQ6 => exact fun _ _ _ h => h
                  case hw6 => rfl
                  case hy6 => (intro w hSw; go_simp; (try with_reducible rfl))
                  try simp only [Act.put, List.setIfInBounds_toArray, List.set_cons_zero, List.set_cons_succ]
                  refine wpAnyH_done (by kernel_rfl) ?_ _
                  go_wp2_with fail
                  go_ret
                  exact ⟨retB HF.out.symm, ((((E0.out.trans E1).trans E2).trans E3).trans E4).trans E5.out⟩
                case more7 =>
                  exact AllReadyH.nil
              case more8 =>
                exact AllReadyH.nil
            case more9 =>
              exact AllReadyH.nil
          case more19 =>
            refine' AllReadyH.cons (o := _) ?hi20 (fun K hK => ?step20) ?more20
            case hi20 => (apply getl; rfl)
            case step20 =>
              go_simp
              refine hK.out _ _ ((Ext.alloc _ _).trans (Ext.alloc _ _)) (fun hHeld => ?_)
              clear hK K
              try simp only [Act.put, List.setIfInBounds_toArray, List.set_cons_zero, List.set_cons_succ]
              refine wpAnyH_ready (rs := [9]) (by kernel_rfl) (by simp) ?_
              refine' AllReadyH.cons (o := _) ?hi18 (fun K hK => ?step18) ?more18
              case hi18 => (apply getl; rfl)
              case step18 =>
                go_simp
                go_at_call 51
                refine (CT.out HT.out _ _ ((((E0.out.trans E1).trans E2).trans (Ext.alloc _ _)).trans (Ext.alloc _ _)) (by go_simp) (by go_simp) (by go_simp) (by go_simp)).mono ?_
                rintro e w3 ⟨b3, p3, a3, c3, rfl, hp3, k0, k1, k2, k3, hat3, q⟩
                have E3 : Ext w2 w3 := ((Ext.alloc _ _).trans (Ext.alloc _ _)).trans q
                have O3 := Lib.hid hat3
                clear hat3
                have hb3 := block_lt_of_cell k0
                simp only at hb3
                have m0 := q.cell (a := ⟨w2.heap.size + 1, 0, none⟩) (v := .int .i64 u.kind) (by go_simp)
                have m1 := q.cell (a := ⟨w2.heap.size + 1, 1, none⟩) (v := .int .i64 u.n) (by go_simp)
                have m2 := q.cell (a := ⟨w2.heap.size + 1, 2, none⟩) (v := .string u.name) (by go_simp)
                have m3 := q.cell (a := ⟨w2.heap.size + 1, 3, none⟩) (v := .slice b u.kids.length d) (by go_simp)
                clear q
                dsimp only
                refine hK.out _ _ (E3) (fun hHeld => ?_)
                clear hK K
                try simp only [Act.put, List.setIfInBounds_toArray, List.set_cons_zero, List.set_cons_succ]
                refine wpAnyH_to (S' := fun w' => Ext w3 w') (fun w' h => Ext.trans E3 h) _ _ _ _ ?_
                clear hHeld
                have hHeld := Ext.refl w3
                refine' wpAnyH_take (i := 10) (v := _) (oi := _) ?hi10 (by kernel_rfl) (by kernel_rfl) (by kernel_rfl) ?hQ10 (Or.inl ⟨?hw10, ?hy10⟩) hHeld ?rest10
                case hi10 => (apply getl; rfl)
                case hQ10 => exact fun _ _ _ h => h
                case hw10 => rfl
                case hy10 => (intro w hSw; go_simp; (try with_reducible rfl))
                try simp only [Act.put, List.setIfInBounds_toArray, List.set_cons_zero, List.set_cons_succ]
                refine' wpAnyH_take (i := 11) (v := _) (oi := _) ?hi11 (by kernel_rfl) (by kernel_rfl) (by kernel_rfl) ?hQ11 (Or.inl ⟨?hw11, ?hy11⟩) hHeld ?rest11
                case hi11 => (apply getl; rfl)
                case hQ11 => exact fun _ _ _ h => h
                case hw11 => rfl
                case hy11 => (intro w hSw; have c0 := Ext.cell hSw k0; have c1 := Ext.cell hSw k1; have c2 := Ext.cell hSw k2; have c3 := Ext.cell hSw k3; go_simp; (try with_reducible rfl))
                try simp only [Act.put, List.setIfInBounds_toArray, List.set_cons_zero, List.set_cons_succ]
                refine wpAnyH_ready (rs := [14]) (by kernel_rfl) (by simp) ?_
                refine' AllReadyH.cons (o := _) ?hi17 (fun K hK => ?step17) ?more17
                case hi17 => (apply getl; rfl)
                case step17 =>
                  go_simp
                  go_at_call 51
                  refine (CU.out HU.out _ _ (((E0.out.trans E1).trans E2).trans E3) m0 m1 m2 m3).mono ?_
                  rintro e w4 ⟨b4, p4, a4, c4, rfl, hp4, l0, l1, l2, l3, hat4, q⟩
                  have E4 : Ext w3 w4 := q
                  have O4 := Lib.hid hat4
                  clear hat4
                  clear q
                  dsimp only
                  refine hK.out _ _ (E4) (fun hHeld => ?_)
                  clear hK K
                  try simp only [Act.put, List.setIfInBounds_toArray, List.set_cons_zero, List.set_cons_succ]
                  refine wpAnyH_to (S' := fun w' => Ext w4 w') (fun w' h => Ext.trans E4 h) _ _ _ _ ?_
                  clear hHeld
                  have hHeld := Ext.refl w4
                  refine' wpAnyH_take (i := 15) (v := _) (oi := _) ?hi12 (by kernel_rfl) (by kernel_rfl) (by kernel_rfl) ?hQ12 (Or.inl ⟨?hw12, ?hy12⟩) hHeld ?rest12
                  case hi12 => (apply getl; rfl)
                  case hQ12 => exact fun _ _ _ h => h
                  case hw12 => rfl
                  case hy12 => (intro w hSw; go_simp; (try with_reducible rfl))
                  try simp only [Act.put, List.setIfInBounds_toArray, List.set_cons_zero, List.set_cons_succ]
                  refine' wpAnyH_take (i := 16) (v := _) (oi := _) ?hi13 (by kernel_rfl) (by kernel_rfl) (by kernel_rfl) ?hQ13 (Or.inl ⟨?hw13, ?hy13⟩) hHeld ?rest13
                  case hi13 => (apply getl; rfl)
                  case hQ13 => exact fun _ _ _ h => h
                  case hw13 => rfl
                  case hy13 => (intro w hSw; have c0 := Ext.cell hSw l0; have c1 := Ext.cell hSw l1; have c2 := Ext.cell hSw l2; have c3 := Ext.cell hSw l3; go_simp; (try with_reducible rfl))
                  try simp only [Act.put, List.setIfInBounds_toArray, List.set_cons_zero, List.set_cons_succ]
                  refine wpAnyH_ready (rs := [17]) (by kernel_rfl) (by simp) ?_
                  refine' AllReadyH.cons (o := _) ?hi16 (fun K hK => ?step16) ?more16
                  case hi16 => (apply getl; rfl)
                  case step16 =>
                    go_simp
                    go_at_call 29
                    refine (implTermSame _ (ren1 t) (ren1 u) _ _ _ _ _ (Nat.le_refl _) (Tm.at_ext E4 O3.out) O4.out).mono ?_
                    rintro e w5 ⟨rfl, q⟩
                    have E5 := Lib.hid q
                    clear q
                    dsimp only
                    refine hK.out _ _ (E5.out) (fun hHeld => ?_)
                    clear hK K
                    try simp only [Act.put, List.setIfInBounds_toArray, List.set_cons_zero, List.set_cons_succ]
                    refine' wpAnyH_take (i := 18) (v := _) (oi := _) ?hi14 (by kernel_rfl) (by kernel_rfl) (by kernel_rfl) ?hQ14 (Or.inl ⟨?hw14, ?hy14⟩) hHeld ?rest14
                    case hi14 => (apply getl; rfl)
                    case hQ14 => exact fun _ _ _ h => h
                    case hw14 => rfl
                    case hy14 => (intro w hSw; go_simp; (try with_reducible rfl))
                    try simp only [Act.put, List.setIfInBounds_toArray, List.set_cons_zero, List.set_cons_succ]
                    refine' wpAnyH_take (i := 19) (v := _) (oi := _) ?hi15 (by kernel_rfl) (by kernel_rfl) (by kernel_rfl) ?hQ15 (Or.inl ⟨?hw15, ?hy15⟩) hHeld ?rest15
                    case hi15 => (apply getl; rfl)
                    case hQ15 => exact fun _ _ _ h => h
                    case hw15 => rfl
                    case hy15 => (intro w hSw; go_simp; (try with_reducible rfl))
                    try simp only [Act.put, List.setIfInBounds_toArray, List.set_cons_zero, List.set_cons_succ]
                    refine wpAnyH_done (by kernel_rfl) ?_ _
                    go_wp2_with fail
                    go_ret
                    exact ⟨retB HF.out.symm, ((((E0.out.trans E1).trans E2).trans E3).trans E4).trans E5.out⟩
                  case more16 =>
                    exact AllReadyH.nil
                case more17 =>
                  exact AllReadyH.nil
              case more18 =>
                exact AllReadyH.nil
            case more20 =>
              exact AllReadyH.nil
        case more36 =>
          refine' AllReadyH.cons (o := _) ?hi37 (fun K hK => ?step37) ?more37
          case hi37 => (apply getl; rfl)
          case step37 =>
            go_simp
            refine hK.out _ _ (Ext.alloc _ _) (fun hHeld => ?_)
            clear hK K
            try simp only [Act.put, List.setIfInBounds_toArray, List.set_cons_zero, List.set_cons_succ]
            refine wpAnyH_ready (rs := [8]) (by kernel_rfl) (by simp) ?_
            refine' AllReadyH.cons (o := _) ?hi30 (fun K hK => ?step30) ?more30
            case hi30 => (apply getl; rfl)
            case step30 =>
              go_simp
              refine hK.out _ _ ((Ext.alloc _ _).trans (Ext.alloc _ _)) (fun hHeld => ?_)
              clear hK K
              try simp only [Act.put, List.setIfInBounds_toArray, List.set_cons_zero, List.set_cons_succ]
              refine wpAnyH_ready (rs := [9]) (by kernel_rfl) (by simp) ?_
              refine' AllReadyH.cons (o := _) ?hi29 (fun K hK => ?step29) ?more29
              case hi29 => (apply getl; rfl)
              case step29 =>
                go_simp
                go_at_call 51
                refine (CT.out HT.out _ _ ((((E0.out.trans E1).trans E2).trans (Ext.alloc _ _)).trans (Ext.alloc _ _)) (by go_simp) (by go_simp) (by go_simp) (by go_simp)).mono ?_
                rintro e w3 ⟨b3, p3, a3, c3, rfl, hp3, k0, k1, k2, k3, hat3, q⟩
                have E3 : Ext w2 w3 := ((Ext.alloc _ _).trans (Ext.alloc _ _)).trans q
                have O3 := Lib.hid hat3
                clear hat3
                have hb3 := block_lt_of_cell k0
                simp only at hb3
                have m0 := q.cell (a := ⟨w2.heap.size, 0, none⟩) (v := .int .i64 u.kind) (by go_simp)
                have m1 := q.cell (a := ⟨w2.heap.size, 1, none⟩) (v := .int .i64 u.n) (by go_simp)
                have m2 := q.cell (a := ⟨w2.heap.size, 2, none⟩) (v := .string u.name) (by go_simp)
                have m3 := q.cell (a := ⟨w2.heap.size, 3, none⟩) (v := .slice b u.kids.length d) (by go_simp)
                clear q
                dsimp only
                refine hK.out _ _ (E3) (fun hHeld => ?_)
                clear hK K
                try simp only [Act.put, List.setIfInBounds_toArray, List.set_cons_zero, List.set_cons_succ]
                refine wpAnyH_to (S' := fun w' => Ext w3 w') (fun w' h => Ext.trans E3 h) _ _ _ _ ?_
                clear hHeld
                have hHeld := Ext.refl w3
                refine' wpAnyH_take (i := 10) (v := _) (oi := _) ?hi21 (by kernel_rfl) (by kernel_rfl) (by kernel_rfl) ?hQ21 (Or.inl ⟨?hw21, ?hy21⟩) hHeld ?rest21
                case hi21 => (apply getl; rfl)
                case hQ21 => exact fun _ _ _ h => h
                case hw21 => rfl
                case hy21 => (intro w hSw; go_simp; (try with_reducible rfl))
                try simp only [Act.put, List.setIfInBounds_toArray, List.set_cons_zero, List.set_cons_succ]
                refine' wpAnyH_take (i := 11) (v := _) (oi := _) ?hi22 (by kernel_rfl) (by kernel_rfl) (by kernel_rfl) ?hQ22 (Or.inl ⟨?hw22, ?hy22⟩) hHeld ?rest22
                case hi22 => (apply getl; rfl)
                case hQ22 => exact fun _ _ _ h => h
                case hw22 => rfl
                case hy22 => (intro w hSw; have c0 := Ext.cell hSw k0; have c1 := Ext.cell hSw k1; have c2 := Ext.cell hSw k2; have c3 := Ext.cell hSw k3; go_simp; (try with_reducible rfl))
                try simp only [Act.put, List.setIfInBounds_toArray, List.set_cons_zero, List.set_cons_succ]
                refine wpAnyH_ready (rs := [14]) (by kernel_rfl) (by simp) ?_
                refine' AllReadyH.cons (o := _) ?hi28 (fun K hK => ?step28) ?more28
                case hi28 => (apply getl; rfl)
                case step28 =>
                  go_simp
                  go_at_call 51
                  refine (CU.out HU.out _ _ (((E0.out.trans E1).trans E2).trans E3) m0 m1 m2 m3).mono ?_
                  rintro e w4 ⟨b4, p4, a4, c4, rfl, hp4, l0, l1, l2, l3, hat4, q⟩
                  have E4 : Ext w3 w4 := q
                  have O4 := Lib.hid hat4
                  clear hat4
                  clear q
                  dsimp only
                  refine hK.out _ _ (E4) (fun hHeld => ?_)
                  clear hK K
                  try simp only [Act.put, List.setIfInBounds_toArray, List.set_cons_zero, List.set_cons_succ]
                  refine wpAnyH_to (S' := fun w' => Ext w4 w') (fun w' h => Ext.trans E4 h) _ _ _ _ ?_
                  clear hHeld
                  have hHeld := Ext.refl w4
                  refine' wpAnyH_take (i := 15) (v := _) (oi := _) ?hi23 (by kernel_rfl) (by kernel_rfl) (by kernel_rfl) ?hQ23 (Or.inl ⟨?hw23, ?hy23⟩) hHeld ?rest23
                  case hi23 => (apply getl; rfl)
                  case hQ23 => exact fun _ _ _ h => h
                  case hw23 => rfl
                  case hy23 => (intro w hSw; go_simp; (try with_reducible rfl))
                  try simp only [Act.put, List.setIfInBounds_toArray, List.set_cons_zero, List.set_cons_succ]
                  refine' wpAnyH_take (i := 16) (v := _) (oi := _) ?hi24 (by kernel_rfl) (by kernel_rfl) (by kernel_rfl) ?hQ24 (Or.inl ⟨?hw24, ?hy24⟩) hHeld ?rest24
                  case hi24 => (apply getl; rfl)
                  case hQ24 => exact fun _ _ _ h => h
                  case hw24 => rfl
                  case hy24 => (intro w hSw; have c0 := Ext.cell hSw l0; have c1 := Ext.cell hSw l1; have c2 := Ext.cell hSw l2; have c3 := Ext.cell hSw l3; go_simp; (try with_reducible rfl))
                  try simp only [Act.put, List.setIfInBounds_toArray, List.set_cons_zero, List.set_cons_succ]
                  refine wpAnyH_ready (rs := [17]) (by kernel_rfl) (by simp) ?_
                  refine' AllReadyH.cons (o := _) ?hi27 (fun K hK => ?step27) ?more27
                  case hi27 => (apply getl; rfl)
                  case step27 =>
                    go_simp
                    go_at_call 29
                    refine (implTermSame _ (ren1 t) (ren1 u) _ _ _ _ _ (Nat.le_refl _) (Tm.at_ext E4 O3.out) O4.out).mono ?_
                    rintro e w5 ⟨rfl, q⟩
                    have E5 := Lib.hid q
                    clear q
                    dsimp only
                    refine hK.out _ _ (E5.out) (fun hHeld => ?_)
                    clear hK K
                    try simp only [Act.put, List.setIfInBounds_toArray, List.set_cons_zero, List.set_cons_succ]
                    refine' wpAnyH_take (i := 18) (v := _) (oi := _) ?hi25 (by kernel_rfl) (by kernel_rfl) (by kernel_rfl) ?hQ25 (Or.inl ⟨?hw25, ?hy25⟩) hHeld ?rest25
                    case hi25 => (apply getl; rfl)
                    case hQ25 => exact fun _ _ _ h => h
                    case hw25 => rfl
                    case hy25 => (intro w hSw; go_simp; (try with_reducible rfl))
                    try simp only [Act.put, List.setIfInBounds_toArray, List.set_cons_zero, List.set_cons_succ]
                    refine' wpAnyH_take (i := 19) (v := _) (oi := _) ?hi26 (by kernel_rfl) (by kernel_rfl) (by kernel_rfl) ?hQ26 (Or.inl ⟨?hw26, ?hy26⟩) hHeld ?rest26
                    case hi26 => (apply getl; rfl)
                    case hQ26 => exact fun _ _ _ h => h
                    case hw26 => rfl
                    case hy26 => (intro w hSw; go_simp; (try with_reducible rfl))
                    try simp only [Act.put, List.setIfInBounds_toArray, List.set_cons_zero, List.set_cons_succ]
                    refine wpAnyH_done (by kernel_rfl) ?_ _
                    go_wp2_with fail
                    go_ret
                    exact ⟨retB HF.out.symm, ((((E0.out.trans E1).trans E2).trans E3).trans E4).trans E5.out⟩
                  case more27 =>
                    exact AllReadyH.nil
                case more28 =>
                  exact AllReadyH.nil
              case more29 =>
                exact AllReadyH.nil
            case more30 =>
              exact AllReadyH.nil
          case more37 =>
            exact AllReadyH.nil
      case more40 =>
        exact AllReadyH.nil
    case more41 =>
      exact AllReadyH.nil

end Go.Proofs.Yteplfajhmpmklaa
