/-
  The reference's l4MutateAll: a copy of a program, sometimes changed; the draws of programs.
-/
import Derived.Test.YtognkaebiafgbaaGreatMv40
import Derived.Test.YtognkaebiafgbaaGreatMv28
namespace Go.Proofs.YtognkaebiafgbaaGreat
open Go.RowKit
set_option linter.unusedVariables false
def AppC (Z : Nat → Prop) (cs : List Cl) (v : Value) (w : World) : Prop :=
  ∃ xs, w.ownsRow 0 38 5 v cs.length xs ∧ (∀ g, v.ownBlock = some g → Z g) ∧ Cl.flat (fun b => Z b ∧ v.ownBlock ≠ some b) w cs xs
theorem AppC.form {Z : Nat → Prop} {cs : List Cl} {v : Value} {w : World} (h : AppC Z cs v w) : ∃ a c, v = .slice a cs.length c := by
  obtain ⟨xs, h, _⟩ := h
  exact own_form h
theorem AppC.keep {Z M : Nat → Prop} {cs : List Cl} {v : Value} {w w' : World} (h : AppC Z cs v w) (f : Fr M w w') (hM : ∀ k, M k → ¬ Z k) : AppC Z cs v w' := by
  obtain ⟨xs, h1, hz, h2⟩ := h
  exact ⟨xs, own_fr h1 f (fun g hg hm => hM g hm (hz g hg)), hz, cflat_mono (fun _ h => h) (f.agree (fun k hk hm => hM k hm hk.1)) h2⟩
theorem AppC.ext {Z : Nat → Prop} {cs : List Cl} {v : Value} {w w' : World} (h : AppC Z cs v w) (e : Ext w w') : AppC Z cs v w' := h.keep (M := fun _ => False) (Fr.of_ext e) (fun _ h => h.elim)
theorem AppC.sl {Z : Nat → Prop} {cs : List Cl} {v : Value} {w : World} (h : AppC Z cs v w) (hl : cs.length ≤ 1048576) : Cl.sl Z w cs v := by
  obtain ⟨xs, h1, hz, h2⟩ := h
  refine Cl.sl_mono ?_ (Agree.refl w) (own_slC h1 h2 hl)
  rintro b (hb | hb)
  · exact hb.1
  · exact hz b hb
theorem AppC.empty {w : World} {b : Nat} {Z : Nat → Prop} (hb : b = w.heap.size) (hz : Z b) : AppC Z [] (.slice (some ⟨b, 0, none⟩) 0 0) (w.alloc (.cells #[] 38)) :=
  ⟨[], own_low (own_empty5 hb) (Nat.zero_le _), by intro g hg; simp [Value.ownBlock] at hg; subst hg; exact hz, rfl⟩
theorem cflat_bound {S : Nat → Prop} {w : World} : ∀ {ts : List Cl} {xs : List Value}, Cl.flat S w ts xs → Cl.flat (fun b => S b ∧ b < w.heap.size) w ts xs
  | [], xs, h => h
  | t :: ts, xs, h => by
    obtain ⟨a, cap, a', cap', rest, rfl, h1, h2⟩ := h
    exact ⟨a, cap, a', cap', rest, rfl, ⟨Tm.at_bound h1.1, Tm.sl_bound h1.2⟩, cflat_bound h2⟩
theorem wpList_append_ac {P : Program} {ops : Array Oper} {rest : List Oper} {o : Oper} {a : Act} {w1 : World} {Q : Exit → Act → World → Prop}
    (hgd : o.guard = none) (s x : Operand) (ty : TypeId)
    (ho : o.op = .call { callee := .builtin .append, args := #[s, x], argTypes := #[ty, ty] })
    (Z : Nat → Prop) (i : TypeInfo) (ht : P.underlying ty = some (.slice 38)) (hi : P.info? 38 = some i) (hz : i.zero = some (.agg #[.int .i64 0, .int .i64 0, .string ⟨#[]⟩, .slice none 0 0, .slice none 0 0]))
    (hsize : i.size = 5) (hby : i.bytes = 80)
    (v : Value) (ts : List Cl) (t : Cl) (a2 b2 : Option Addr) (c2 d2 : Nat) (hs : a.eval s = v) (happ : AppC Z ts v w1) {nb : Nat} (hx : a.eval x = .slice (some ⟨nb, 0, none⟩) 1 1)
    (hv1 : Tm.at (fun b => Z b ∧ v.ownBlock ≠ some b) w1 t.head (.agg #[.int .i64 t.head.kind, .int .i64 t.head.n, .string t.head.name, .slice a2 t.head.kids.length c2]) ∧ Tm.sl (fun b => Z b ∧ v.ownBlock ≠ some b) w1 t.body (.slice b2 t.body.length d2))
    (hl : ts.length < 1048576) (hnew : ∀ b, w1.heap.size ≤ b → Z b) (hnb : nb = w1.heap.size)
    (h : ∀ av cv w2, AppC Z (ts ++ [t]) (.slice av (ts.length + 1) cv) w2 → Fr Z w1 w2 → wpList P ops Q rest (a.put o.dst (.slice av (ts.length + 1) cv)) w2) :
    wpList P ops Q (o :: rest) a (w1.alloc (.cells #[.int .i64 t.head.kind, .int .i64 t.head.n, .string t.head.name, .slice a2 t.head.kids.length c2, .slice b2 t.body.length d2] 38)) := by
  subst hnb
  obtain ⟨xs, how, hzz, hfl⟩ := happ
  refine wpList_append_fresh hgd s x ty ho 0 38 i _ 5 80 ht hi hz hsize hby rfl (by decide) v ts.length xs hs (own_ext how (Ext.alloc _ _)) ⟨w1.heap.size, 0, none⟩ 1 1 (ccells t a2 c2 b2 d2) hx rfl (fun j u h => cell_five _ _ _ j u h) (by simp [ccells, Value.oneCell']) (by unfold maxLen; omega) (by omega) (by omega) ?_
  intro v2 w2 ho2 hg2 hfr2 _
  obtain ⟨av, cv, rfl⟩ := own_form ho2
  have hs3 : (w1.alloc (.cells #[.int .i64 t.head.kind, .int .i64 t.head.n, .string t.head.name, .slice a2 t.head.kids.length c2, .slice b2 t.body.length d2] 38)).heap.size = w1.heap.size + 1 := by simp
  have hag : Agree (fun b => Z b ∧ v.ownBlock ≠ some b) w1 w2 := (Agree.of_ext (Ext.alloc w1 _)).trans (Agree.grown hg2 (fun b h hz => hz.2 h))
  have hS : ∀ b, (Z b ∧ v.ownBlock ≠ some b) ∧ b < w1.heap.size → Z b ∧ (Value.slice av (ts.length + 1) cv).ownBlock ≠ some b := by
    rintro b ⟨⟨h1, h2⟩, h3⟩
    refine ⟨h1, fun h => ?_⟩
    rcases hfr2 b h with h | h
    · exact h2 h
    · omega
  refine h av cv w2 ⟨xs ++ ccells t a2 c2 b2 d2, by simpa using ho2, ?_, cflat_snoc ⟨?_, ?_⟩ ?_⟩ ((Fr.alloc _ _).trans (Fr.of_grown hg2 (fun k hk => hzz k hk)))
  · intro g hgg
    rcases hfr2 g hgg with h | h
    · exact hzz g h
    · exact hnew g (by omega)
  · exact Tm.at_mono hS (fun b o v hb hc => hag b o v hb.1 hc) (Tm.at_bound hv1.1)
  · exact Tm.sl_mono hS (fun b o v hb hc => hag b o v hb.1 hc) (Tm.sl_bound hv1.2)
  · exact cflat_mono hS (fun b o v hb hc => hag b o v hb.1 hc) (cflat_bound hfl)
theorem AppC.apart {Z : Nat → Prop} {ts : List Cl} {v : Value} {w : World} (h : AppC Z ts v w) (hb : ∀ b, w.heap.size ≤ b → Z b) : ∀ b, w.heap.size ≤ b → Z b ∧ v.ownBlock ≠ some b := fun b h2 => by
  obtain ⟨xs, h1, _⟩ := h
  exact ⟨hb b h2, fun e => by have := (h1.lt b e).2; omega⟩
theorem sl_tail {S : Nat → Prop} {w : World} {cs : List Cl} {g n cap : Nat} (hn : cs.length = n + 1) (h : Cl.sl S w cs (.slice (some ⟨g, 0, none⟩) (n + 1) cap)) : Cl.sl S w cs.tail (.slice (some ⟨g, 5, none⟩) n (cap - 1)) := by
  obtain ⟨a, c, hv, h1, h2, h3, h4⟩ := h
  simp only [Value.slice.injEq] at hv
  obtain ⟨rfl, _, rfl⟩ := hv
  obtain ⟨c0, cs, rfl⟩ : ∃ c0 ds, cs = c0 :: ds := by
    cases cs with
    | nil => simp at hn
    | cons c0 ds => exact ⟨c0, ds, rfl⟩
  have hn' : cs.length = n := by simpa using hn
  refine ⟨some ⟨g, 5, none⟩, cap - 1, by rw [List.tail_cons, hn'], by simp only [List.tail_cons]; omega, by omega, by simp only [List.tail_cons]; simp only [List.length_cons] at h3; omega, ?_⟩
  rcases h4 with h4 | ⟨b, off, he, hS, hrow⟩
  · cases h4
  · simp only [Option.some.injEq, Addr.mk.injEq, and_true] at he
    obtain ⟨rfl, rfl⟩ := he
    exact .inr ⟨g, 5, rfl, hS, by simpa using hrow.2⟩
theorem own_slice9 {w : World} {T n c : Nat} {a : Option Addr} {xs : List Value} (h : w.ownsRow 0 T 5 (.slice a n c) n xs) (hn : 0 < n) : ∃ g, a = some ⟨g, 0, none⟩ := by
  rcases h.2 with ⟨h1, h2⟩ | ⟨g, cap, cur, h1, _⟩
  · omega
  · simp only [Value.slice.injEq] at h1
    exact ⟨g, h1.1⟩
def PrsPost (r p C : Nat) (w : World) (e : Ending) (w' : World) : Prop := ∃ ds g o c P, e = .returned (.slice (some ⟨g, o, none⟩) ds.length c) ∧ ds.length ≤ 21 ∧ Cl.sl (fun b => w.heap.size ≤ b) w' ds (.slice (some ⟨g, o, none⟩) ds.length c) ∧ Rd w' r P ∧ P ≤ p + C ∧ ExtR r w w'
set_option maxRecDepth 100000 in
set_option maxHeartbeats 8000000 in
theorem specl4MutateAll (r p : Nat) (cs : List Cl) (a : Option Addr) (cap : Nat) (S : Nat → Prop) (w : World) (hne : cs ≠ []) (hlen : cs.length ≤ 20) (hb : ∀ c ∈ cs, c.body.length ≤ 6) (hSr : ¬ S r) (hp : p + 3500 ≤ 1099511627776) (hr : Rd w r p) (hc : Cl.sl S w cs (.slice a cs.length cap)) :
    Calls Tryz.prog 13 #[.pointer (some ⟨r, 0, none⟩), .slice a cs.length cap] w (PrsPost r p 3500 w) := by
  have hrl := hr.lt
  have HR0 := Lib.hid hr
  have HC := Lib.hid hc
  have HBL := Lib.hid hb
  have hne' : 1 ≤ cs.length := List.length_pos_iff.2 hne
  obtain ⟨i0, hi, hz0, hz1, hz2⟩ := info_parts info_cl
  have A0 := Lib.hid (AppC.empty (w := w) (b := w.heap.size) (Z := fun b => w.heap.size ≤ b) rfl (Nat.le_refl _))
  have E0 := Lib.hid (ExtR.of_ext (r := r) (Ext.alloc w (.cells #[] 38)))
  have R0 := Lib.hid (hr.ext (Ext.alloc w (.cells #[] 38)))
  clear hr hc hb hne
  go_enter Tryz.func13, Tryz.ntmps13
  go_wp2_with fail
  go_loopw [5, 6] (fun ov iv wr => ∃ (j : Nat) (ds : List Cl) (av : Option Addr) (cv P : Nat), j ≤ cs.length ∧ iv = .int .i64 j ∧ ov = .slice av ds.length cv ∧ ds.length = j ∧ P ≤ p + 170 * j ∧ Hid (AppC (fun b => w.heap.size ≤ b) ds (.slice av ds.length cv) wr) ∧ Hid (Rd wr r P) ∧ Hid (ExtR r w wr)) (fun _ i _ => cs.length - (intOf i).toNat)
  case atStart => exact ⟨0, [], _, 0, p, Nat.zero_le _, rfl, rfl, rfl, by omega, A0, R0, E0⟩
  case round =>
    obtain ⟨j, ds, av, cv, P, hj, rfl, rfl, hdj, hP, A, R, E⟩ := hrel
    clear A0 R0 E0
    have HDJ := Lib.hid hdj
    have HP := Lib.hid hP
    clear hdj hP
    have hrw := E.out.1.size
    by_cases hlt : j < cs.length
    · obtain ⟨ck, hck⟩ := cgetk hlt
      have hcr := Cl.sl_mono (fun _ h => h) (E.out.agree hSr) HC.out
      obtain ⟨_, _, hsl, _, _, _, h4⟩ := hcr
      simp only [Value.slice.injEq, true_and] at hsl
      obtain ⟨rfl, rfl⟩ := hsl
      obtain ⟨b, off, ak, ckk, al, cl, rfl, k0, k1, k2, k3, k4, hat, hbd⟩ := Cl.get h4 hck (Ext.refl _)
      have HMU := Lib.hid (specl4Mutate r P 6 ck _ S wr (by omega) (HBL.out ck (List.mem_of_getElem? hck)) (by have := HP.out; omega) R.out ⟨_, _, rfl, hat, hbd⟩)
      have hl1 : ds.length < 1048576 := by have := HDJ.out; omega
      clear h4 hck hat hbd
      go_wp2_with fail
      refine HMU.out.mono ?_
      rintro e w1 ⟨c, v, P2, rfl, hk, hcat, hr1, hP2, he1⟩
      obtain ⟨a1, c1, b1, d1, rfl, hh1, hb1⟩ := Cl.form hcat
      have A1 := Lib.hid (A.out.keep (M := fun k => k = r) (Fr.of_extR he1 rfl) (fun k h hz => by have hz' : w.heap.size ≤ k := hz; omega))
      have hap := A.out.apart (fun b hb => by have := hrw; show w.heap.size ≤ b; omega)
      have V1 := Lib.hid (And.intro (Tm.at_mono hap (Agree.refl _) hh1) (Tm.sl_mono hap (Agree.refl _) hb1))
      have R1 := Lib.hid hr1
      have E1 := Lib.hid (E.out.trans he1)
      have s1 := he1.1.size
      clear hcat hh1 hb1 hap hr1 he1 A R
      go_wp2_with (at_builtin; refine wpList_append_ac rfl (.tmp 14) (.tmp 21) 23 rfl (fun b => w.heap.size ≤ b) i0 Tryz.underlying23 hi hz0 hz1 hz2 (.slice av ds.length cv) ds c a1 b1 c1 d1 rfl A1.out rfl V1.out hl1 (fun b hb => by show w.heap.size ≤ b; omega) rfl ?_; intro av2 cv2 w2 hA2 hF2)
      go_roundw
      case rel =>
        refine ⟨j + 1, ds ++ [c], av2, cv2, P2, by omega, by go_num, by simp, by simp [HDJ.out], by have := HP.out; omega, Lib.hid (by simpa using hA2), Lib.hid ?_, Lib.hid ?_⟩
        · exact Rd.fr HR0.out E1.out R1.out hF2 (fun k _ h => h)
        · exact E1.out.fr hF2 (fun k _ h => ⟨h, by have h' : w.heap.size ≤ k := h; omega⟩)
      case measure => simp [intOf]; omega
    · obtain rfl : j = cs.length := by omega
      have hP' : P ≤ p + 3400 := by have := HP.out; omega
      go_wp2_with fail
      refine (rdpick r P 30 _ (by omega) (by decide) (by decide) R.out).mono ?_
      rintro e w1 ⟨x, rfl, hx0, hx1, hr1, he1⟩
      have A1 := Lib.hid (A.out.keep (M := fun k => k = r) (Fr.of_extR he1 rfl) (fun k h hz => by have hz' : w.heap.size ≤ k := hz; omega))
      have R1 := Lib.hid hr1
      have E1 := Lib.hid (E.out.trans he1)
      have s1 := he1.1.size
      clear hr1 he1 A R E
      obtain rfl | rfl | hx : x = 0 ∨ x = 1 ∨ 2 ≤ x := by omega
      · go_wp2_with fail
        go_loopw [5] (fun ov wr2 => ∃ (us : List Cl) (av : Option Addr) (cv : Nat), ov = .slice av us.length cv ∧ us.length ≤ 21 ∧ Hid (AppC (fun b => w.heap.size ≤ b) us (.slice av us.length cv) wr2) ∧ Hid (Rd wr2 r (P + 1)) ∧ Hid (ExtR r w wr2)) (fun ov _ => 21 - (match ov with | .slice _ n _ => n | _ => 0))
        case atStart => exact ⟨ds, av, cv, rfl, by have := HDJ.out; omega, A1, R1, E1⟩
        case round =>
          clear A1 R1 E1
          obtain ⟨us, av3, cv3, rfl, hus, A, R, E⟩ := hrel
          have HUS := Lib.hid hus
          have hrw := E.out.1.size
          by_cases hlt : us.length ≤ 20
          · have hl1 : us.length < 1048576 := by omega
            clear hus
            go_wp2_with fail
            refine (specl1Struct0 ⟨#[122]⟩ _ (by decide)).mono ?_
            rintro e x1 ⟨v5, rfl, hv5, e5⟩
            obtain ⟨a5, c5, rfl⟩ := at_form (hv5 (fun _ => True))
            have A2 := Lib.hid (A.out.ext e5)
            have R2 := Lib.hid (R.out.ext e5)
            have E2 := Lib.hid (E.out.trans (ExtR.of_ext e5))
            have V5 := Lib.hid (hv5 (fun b => w.heap.size ≤ b ∧ (Value.slice av3 us.length cv3).ownBlock ≠ some b))
            have s5 := Below.size e5
            clear hv5 e5 A R E
            go_wp2_with (at_builtin; refine wpList_append_ac rfl (.tmp 30) (.tmp 33) 23 rfl (fun b => w.heap.size ≤ b) i0 Tryz.underlying23 hi hz0 hz1 hz2 (.slice av3 us.length cv3) us ⟨.mk 3 0 ⟨#[122]⟩ [], []⟩ a5 none c5 0 rfl A2.out rfl ⟨V5.out, ⟨none, 0, rfl, Nat.le_refl _, by omega, by simp, .inl rfl⟩⟩ hl1 (fun b hb => by show w.heap.size ≤ b; omega) rfl ?_; intro av2 cv2 w2 hA2 hF2)
            go_roundw
            case rel =>
              refine ⟨us ++ [⟨.mk 3 0 ⟨#[122]⟩ [], []⟩], av2, cv2, by simp, by simp; omega, Lib.hid (by simpa using hA2), Lib.hid ?_, Lib.hid ?_⟩
              · exact Rd.fr HR0.out E2.out R2.out hF2 (fun k _ h => h)
              · exact E2.out.fr hF2 (fun k _ h => ⟨h, by have h' : w.heap.size ≤ k := h; omega⟩)
            case measure => simp; omega
          · obtain ⟨g3, rfl⟩ : ∃ g, av3 = some ⟨g, 0, none⟩ := by
              obtain ⟨xs, how, _⟩ := A.out
              exact own_slice9 how (by omega)
            have HL := Lib.hid (A.out.sl (by omega))
            clear hus
            go_wp2_with fail
            go_ret
            exact ⟨us, g3, 0, cv3, P + 1, rfl, HUS.out, HL.out, R.out, by omega, E.out⟩
      · obtain ⟨N, hN⟩ : ∃ N, ds.length = N + 1 := ⟨ds.length - 1, by have := HDJ.out; omega⟩
        have hN20 : N ≤ 19 := by have := HDJ.out; omega
        have hsl := A1.out.sl (by omega)
        have hsl2 := hsl
        obtain ⟨_, _, he, hcap, _, _, h4⟩ := hsl2
        simp only [Value.slice.injEq, true_and] at he
        obtain ⟨rfl, rfl⟩ := he
        have hav : ∃ g, av = some ⟨g, 0, none⟩ := by
          obtain ⟨xs, how, _⟩ := A1.out
          exact own_slice9 how (by omega)
        obtain ⟨g, rfl⟩ := hav
        rw [hN] at hsl hcap ⊢
        have HT := Lib.hid (sl_tail hN hsl)
        have HTL := Lib.hid (show ds.tail.length = N by rw [List.length_tail]; omega)
        clear h4 hsl hN
        have HN0 := Lib.hid (fun (a' : Option Addr) (h : N = 0) => show Cl.sl (fun b => w.heap.size ≤ b) w1 ds.tail (.slice a' N 0) by
          have e : ds.tail = [] := List.eq_nil_of_length_eq_zero (by rw [HTL.out]; exact h)
          rw [e, h]
          exact ⟨a', 0, rfl, Nat.le_refl _, by omega, by simp, .inl rfl⟩)
        have hcap' : N + 1 ≤ cv := hcap
        go_wp2_with fail
        all_goals
          go_ret
          first
          | exact ⟨ds.tail, g, 5, cv - 1, P + 1, by rw [HTL.out]; rfl, by rw [HTL.out]; omega, by rw [HTL.out]; exact HT.out, R1.out, by omega, E1.out⟩
          | exact ⟨ds.tail, g, 0, 0, P + 1, by rw [HTL.out]; rfl, by rw [HTL.out]; omega, by rw [HTL.out]; exact HN0.out _ (by omega), R1.out, by omega, E1.out⟩
      · have h0 : (x == 0) = false := by simp; omega
        have h1 : (x == 1) = false := by simp; omega
        obtain ⟨g, rfl⟩ : ∃ g, av = some ⟨g, 0, none⟩ := by
          obtain ⟨xs, how, _⟩ := A1.out
          exact own_slice9 how (by have := HDJ.out; omega)
        have HL := Lib.hid (A1.out.sl (by have := HDJ.out; omega))
        go_wp2_with fail
        go_ret
        exact ⟨ds, g, 0, cv, P + 1, rfl, by have := HDJ.out; omega, HL.out, R1.out, by omega, E1.out⟩
end Go.Proofs.YtognkaebiafgbaaGreat
