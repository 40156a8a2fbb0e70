/-
  The reference's DrawCompareGoal.
-/
import Derived.Test.YtdelhgodhkbjdaaMg14
import Derived.Deep.CutBlock
namespace Go.Proofs.Ytdelhgodhkbjdaa
open Go.RowKit
set_option linter.unusedVariables false

theorem info_termc : (Try.prog.info? 25).map (fun i => (i.zero, i.size, i.bytes)) = some (some (.agg #[.int .i64 0, .int .i64 0, .string ⟨#[]⟩, .slice none 0 0]), 4, 56) := by kernel_rfl
def cgNames : List ByteArray := [⟨#[60]⟩, ⟨#[62]⟩, ⟨#[61, 58, 61]⟩, ⟨#[61, 60]⟩, ⟨#[62, 61]⟩, ⟨#[61]⟩, ⟨#[102, 111, 111]⟩]
def cgObj : Obj := .cells #[.string ⟨#[60]⟩, .string ⟨#[62]⟩, .string ⟨#[61, 58, 61]⟩, .string ⟨#[61, 60]⟩, .string ⟨#[62, 61]⟩, .string ⟨#[61]⟩, .string ⟨#[102, 111, 111]⟩] 9
theorem cg_cell (w : World) (n : Nat) (hn : n < 7) : ∃ s : ByteArray, s.size ≤ 1048576 ∧ (w.alloc cgObj).cell? ⟨w.heap.size, n, none⟩ = some (.string s) := by
  have h : ∀ k, k < 7 → ∃ s : ByteArray, s.size ≤ 1048576 ∧ (#[.string ⟨#[60]⟩, .string ⟨#[62]⟩, .string ⟨#[61, 58, 61]⟩, .string ⟨#[61, 60]⟩, .string ⟨#[62, 61]⟩, .string ⟨#[61]⟩, .string ⟨#[102, 111, 111]⟩] : Array Value)[k]? = some (.string s) := by
    intro k hk
    match k, hk with
    | 0, _ => exact ⟨⟨#[60]⟩, by decide, rfl⟩
    | 1, _ => exact ⟨⟨#[62]⟩, by decide, rfl⟩
    | 2, _ => exact ⟨⟨#[61, 58, 61]⟩, by decide, rfl⟩
    | 3, _ => exact ⟨⟨#[61, 60]⟩, by decide, rfl⟩
    | 4, _ => exact ⟨⟨#[62, 61]⟩, by decide, rfl⟩
    | 5, _ => exact ⟨⟨#[61]⟩, by decide, rfl⟩
    | 6, _ => exact ⟨⟨#[102, 111, 111]⟩, by decide, rfl⟩
  obtain ⟨s, h1, h2⟩ := h n hn
  exact ⟨s, h1, by have := cell_new w _ 9 n _ h2; simpa [cgObj] using this⟩

set_option maxRecDepth 100000 in
set_option maxHeartbeats 4000000 in
theorem drawCompareGoal (v : Value) (w : World) (hv : BytesAt w v) : Calls Try.prog 15 #[v] w (TmOut w) := by
  obtain ⟨i0, hi, hz0, hz1, hz2⟩ := info_parts info_termc
  have HI := Lib.hid hi
  have HZ0 := Lib.hid hz0
  have HZ1 := Lib.hid hz1
  have HZ2 := Lib.hid hz2
  clear hi hz0 hz1 hz2
  have B1 := Lib.hid (BoxT.new w (.int .i64 0) (.int .i64 0) (.string ⟨#[]⟩) (.slice none 0 0) 25 rfl)
  have HV := Lib.hid (hv.ext (Ext.alloc w (.cells #[.int .i64 0, .int .i64 0, .string ⟨#[]⟩, .slice none 0 0] 25)))
  obtain ⟨a, len, cap, rfl, _⟩ := hv
  go_enter Try.func15, Try.ntmps15
  go_wp2_with fail
  refine (specl18Open _ _ HV.out).mono ?_
  rintro e w1 ⟨r, rfl, hr, hrd, e1⟩
  have hr : w.heap.size + 1 ≤ r := by simp at hr; omega
  have hlt := hrd.lt
  have nr : w.heap.size ≠ r := by omega
  have s1 := Below.size e1
  obtain ⟨z, hz⟩ : ∃ z, z = w1.heap.size + 1 := ⟨_, rfl⟩
  have ea := (Ext.alloc w1 cgObj).trans (Ext.alloc _ (.cells #[] 25))
  have A := Lib.hid (AppI.empty (T := 25) (Z := fun b => z ≤ b) (w := w1.alloc cgObj) (b := w1.heap.size + 1) (by simp) (by omega))
  have R := Lib.hid (hrd.ext ea)
  have R1 := Lib.hid (hrd.ext (Ext.alloc w1 cgObj))
  have NM := Lib.hid (fun n (hn : n < 7) => cg_cell w1 n hn)
  have B1 := Lib.hid ((B1.out.ext e1).ext (Ext.alloc w1 cgObj))
  have E1 := Lib.hid (((Ext.alloc w (.cells #[.int .i64 0, .int .i64 0, .string ⟨#[]⟩, .slice none 0 0] 25)).trans e1).trans (Ext.alloc w1 cgObj))
  have E := Lib.hid (ExtR.of_ext (r := r) (Ext.alloc (w1.alloc cgObj) (.cells #[] 25)))
  have s1 : (w1.alloc cgObj).heap.size = z := by rw [hz]; simp
  clear hrd e1 HV ea
  go_wp2_with fail
  go_loopw [5, 6] (fun q i wr => ∃ (k P : Nat) (ts : List Tm) (av : Option Addr) (cv : Nat), k ≤ 2 ∧ ts.length = k ∧ q = .slice av ts.length cv ∧ i = .int .i64 k ∧ P ≤ 200 * k ∧
      Hid (Rd wr r P) ∧ Hid (AppI 25 (fun b => z ≤ b) ts (.slice av ts.length cv) wr) ∧ Hid (ExtR r (w1.alloc cgObj) wr) ∧ z ≤ wr.heap.size) (fun _ i _ => 2 - (intOf i).toNat)
  case atStart => exact ⟨0, 0, [], some ⟨w1.heap.size + 1, 0, none⟩, 0, by omega, rfl, rfl, rfl, by omega, R, A, E, by simp; omega⟩
  case round =>
    obtain ⟨k, P, ts, av, cv, hk, hts, rfl, rfl, hP, R, A, E, sz⟩ := hrel
    have hlu : ts.length < 1048576 := by omega
    have HTS := Lib.hid hts
    by_cases hlt2 : k < 2
    · clear hts
      have A0 := Lib.hid A.out
      have A := Lib.hid A.out.bound
      go_wp2_with fail
      refine (rdpick r P 4 _ (by omega) (by decide) (by decide) R.out).mono ?_
      rintro e w2 ⟨x, rfl, hx0, hx1, hr2, he2⟩
      have R := Lib.hid hr2
      have A := Lib.hid (A.out.keep (Fr.of_extR (M := fun k => k = r) he2 rfl) (fun k _ h hz => by omega))
      have E := Lib.hid (E.out.trans he2)
      have s2 := he2.1.size
      clear hr2 he2
      go_wp2_with fail
      refine (specl1Int x _).mono ?_
      rintro e w4 ⟨v, rfl, hv, e4⟩
      obtain ⟨t, ht⟩ : ∃ t, t = Tm.mk 2 x ⟨#[]⟩ [] := ⟨_, rfl⟩
      rw [← ht] at hv
      obtain ⟨a4, c4, rfl⟩ := at_form (hv (fun _ => True))
      clear ht hx0 hx1
      have e5 := e4.trans (Ext.alloc w4 (.cells #[.int .i64 t.kind, .int .i64 t.n, .string t.name, .slice a4 t.kids.length c4] 25))
      have BX := Lib.hid (BoxT.new w4 (.int .i64 t.kind) (.int .i64 t.n) (.string t.name) (.slice a4 t.kids.length c4) 25 rfl)
      have R := Lib.hid (R.out.ext e5)
      have A := Lib.hid (A.out.ext e5)
      have E := Lib.hid (E.out.trans (ExtR.of_ext e5))
      have V := Lib.hid (Tm.at_ext (Ext.alloc w4 (.cells #[.int .i64 t.kind, .int .i64 t.n, .string t.name, .slice a4 t.kids.length c4] 25)) (hv (fun b => wr.heap.size ≤ b ∧ b ≠ w4.heap.size)))
      have s4 := Below.size e4
      have nx : w4.heap.size ≠ r := by omega
      clear e4 e5 hv
      go_wp2_with fail
      refine (rdpick r (P + 1) 4 _ (by omega) (by decide) (by decide) R.out).mono ?_
      rintro e w5 ⟨y, rfl, hy0, hy1, hr2, he2⟩
      have R := Lib.hid hr2
      have A := Lib.hid (A.out.keep (Fr.of_extR (M := fun k => k = r) he2 rfl) (fun k _ h hz => by omega))
      have BX := Lib.hid (BX.out.extR he2 nx)
      have V := Lib.hid (Tm.at_mono (fun b h => h) (he2.agree (S := fun b => wr.heap.size ≤ b ∧ b ≠ w4.heap.size) (by omega)) V.out)
      have E := Lib.hid (E.out.trans he2)
      have s5 : w4.heap.size + 1 ≤ w5.heap.size := by have := he2.1.size; simpa using this
      clear hr2 he2
      have HNW : Hid (∀ b, w5.heap.size ≤ b → z ≤ b) := Lib.hid (fun b h => by omega)
      by_cases hy : y = 0
      · subst hy
        obtain ⟨k0, k1, k2, k3, f0, f1, f2, f3⟩ := BX.out
        go_wp2_with fail
        refine (rdpick r (P + 1 + 1) 3 _ (by omega) (by decide) (by decide) R.out).mono ?_
        rintro e w6 ⟨x2, rfl, hx0, hx1, hr2, he2⟩
        clear k0 k1 k2 k3 f0 f1 f2 f3
        have R := Lib.hid hr2
        have A := Lib.hid (A.out.keep (Fr.of_extR (M := fun k => k = r) he2 rfl) (fun k _ h hz => by omega))
        have BX := Lib.hid (BX.out.extR he2 nx)
        have E := Lib.hid (E.out.trans he2)
        have s6 := he2.1.size
        clear hr2 he2 V
        go_wp2_with fail
        refine (specl1Int x2 _).mono ?_
        rintro e w7 ⟨v2, rfl, hv2, e7⟩
        obtain ⟨t2, ht2⟩ : ∃ t, t = Tm.mk 2 x2 ⟨#[]⟩ [] := ⟨_, rfl⟩
        rw [← ht2] at hv2
        obtain ⟨a7, c7, rfl⟩ := at_form (hv2 (fun _ => True))
        clear ht2 hx0 hx1
        have HV2 := Lib.hid hv2
        have s7 := Below.size e7
        have E7 := Lib.hid e7
        clear hv2 e7
        go_wp2_with fail
        refine (specl1Int 1 _).mono ?_
        rintro e w8 ⟨v3, rfl, hv3, e8⟩
        obtain ⟨t3, ht3⟩ : ∃ t, t = Tm.mk 2 1 ⟨#[]⟩ [] := ⟨_, rfl⟩
        rw [← ht3] at hv3
        obtain ⟨a8, c8, rfl⟩ := at_form (hv3 (fun _ => True))
        clear ht3
        have HV2 := Lib.hid (fun S => Tm.at_ext e8 (HV2.out S))
        have HV3 := Lib.hid hv3
        have s8 := Below.size e8
        have E8 := Lib.hid (E7.out.trans e8)
        clear hv3 e8 E7
        go_wp2_with fail
        refine (specl1Struct ⟨#[43]⟩ [t2, t3] (by decide) (by simp) _ (fun b => w5.heap.size ≤ b) _ (sl_new (S := fun b => w5.heap.size + 1 ≤ b ∧ b ≠ w8.heap.size) (xs := tcells t2 a7 c7 ++ (tcells t3 a8 c8 ++ [])) ⟨a7, c7, _, rfl, HV2.out _, a8, c8, _, rfl, HV3.out _, rfl⟩ rfl rfl (by simp) |> Tm.sl_mono (fun b hb => by omega) (Agree.refl _))).mono ?_
        rintro e w9 ⟨v9, rfl, hv9, e9⟩
        obtain ⟨u, hu⟩ : ∃ u, u = Tm.mk 3 0 ⟨#[43]⟩ [t2, t3] := ⟨_, rfl⟩
        rw [← hu] at hv9
        obtain ⟨a9, c9, rfl⟩ := at_form hv9
        clear hu
        have e10 := E8.out.trans ((Ext.alloc _ _).trans e9)
        have R := Lib.hid (R.out.ext e10)
        have A := Lib.hid (A.out.ext e10)
        have BX := Lib.hid (BX.out.ext e10)
        have E := Lib.hid (E.out.trans (ExtR.of_ext e10))
        have V := Lib.hid (Tm.at_mono (S' := fun b => wr.heap.size ≤ b ∧ b ≠ w4.heap.size) (fun b h => by simp at h; omega) (Agree.refl _) hv9)
        have s9 := Below.size e10
        have HNW : Hid (∀ b, w9.heap.size ≤ b → z ≤ b) := Lib.hid (fun b h => by omega)
        clear hv9 e9 e10 HV2 HV3 E8
        have sx := BX.out.lt
        obtain ⟨k0, k1, k2, k3, f0, f1, f2, f3⟩ := BX.out
        go_upto_region 13 with (fail)
        obtain ⟨wx, hwx⟩ : ∃ z, z = set4 w9 w4.heap.size (.int .i64 u.kind) (.int .i64 u.n) (.string u.name) (.slice a9 u.kids.length c9) := ⟨_, rfl⟩
        have FX : Fr (fun k => k = w4.heap.size) w9 wx := by rw [hwx]; exact Fr.of_grown (set4_grown _ _ _ _ _ _) (fun k e => by cases e; rfl)
        obtain ⟨y0, y1, y2, y3⟩ := set4_cells (Y := w9) (.int .i64 u.kind) (.int .i64 u.n) (.string u.name) (.slice a9 u.kids.length c9) k0 k1 k2 k3
        rw [← hwx] at y0 y1 y2 y3
        unfold set4 at hwx
        rw [← hwx]
        clear hwx k0 k1 k2 k3 f0 f1 f2 f3 BX
        have R := Lib.hid (Rd.fr R1.out E.out R.out FX (fun k hk h => by rw [s1]; omega))
        have A := Lib.hid (A.out.keep FX (fun k hk h hz => by omega))
        have E := Lib.hid (ExtR.fr E.out FX (fun k hk h => ⟨by rw [s1]; omega, by omega⟩))
        have V := Lib.hid (Tm.at_mono (fun b hb => hb) (FX.agree (S := fun b => wr.heap.size ≤ b ∧ b ≠ w4.heap.size) (fun k hk h => hk.2 h)) V.out)
        have sxx := FX.size
        clear FX
        go_wp2_with go_loud (at_builtin; refine wpList_append_tm rfl (.tmp 34) (.tmp 36) 23 rfl (fun b => z ≤ b) 25 i0 Try.underlying23 HI.out HZ0.out HZ1.out HZ2.out _ ts u a9 c9 rfl ((A.out.keep (Fr.refl (fun k => k = w4.heap.size) _) (fun k hk h hz => by omega)).zone (fun b hb => hb.1)) rfl (A0.out.apart (fun b hb => by omega) (Tm.at_mono (fun b hb => hb.1) (((Fr.refl (fun k => k = w4.heap.size) _)).agree (fun k hk h => hk.2 h)) V.out)) hlu (fun b h => by omega) ?_; intro av2 cv2 wz hA5 hf5; have A5 := Lib.hid hA5; have F5 := Lib.hid (((Fr.refl (fun k => k = w4.heap.size) _).mono (M' := fun b => z ≤ b) (fun k _ h => by omega)).trans hf5); clear hA5 hf5)
        have s5 := F5.out.size
        go_roundw
        case rel =>
          have hl2 : (ts ++ [u]).length = ts.length + 1 := by simp
          have hrz := Rd.fr R1.out E.out R.out F5.out (fun k hk h => by rw [s1]; omega)
          exact ⟨k + 1, (P + 1 + 1 + 1), ts ++ [u], av2, cv2, by omega, by rw [hl2, HTS.out], by rw [hl2], by go_num, by omega, Lib.hid hrz, Lib.hid (by rw [hl2]; exact A5.out), Lib.hid (ExtR.fr E.out F5.out (fun k hk h => ⟨by rw [s1]; omega, by omega⟩)), by omega⟩
        case measure => simp [intOf]; omega
      · have hy' : (y == 0) = false := by simpa using hy
        by_cases hz1 : y = 1
        · subst hz1
          go_wp2_with fail
          refine (specl1Some r (P + 1 + 1) _ (by omega) R.out).mono ?_
          rintro e w6 ⟨u, v6, p6, rfl, hv6, _, hr2, hp6, he2⟩
          obtain ⟨a9, c9, rfl⟩ := at_form hv6
          have R := Lib.hid hr2
          have A := Lib.hid (A.out.keep (Fr.of_extR (M := fun k => k = r) he2 rfl) (fun k _ h hz => by omega))
          have BX := Lib.hid (BX.out.extR he2 nx)
          have E := Lib.hid (E.out.trans he2)
          have s6 := he2.1.size
          have V := Lib.hid (Tm.at_mono (S' := fun b => wr.heap.size ≤ b ∧ b ≠ w4.heap.size) (fun b h => by omega) (Agree.refl _) hv6)
          clear hr2 he2 hv6
          have sx := BX.out.lt
          obtain ⟨k0, k1, k2, k3, f0, f1, f2, f3⟩ := BX.out
          go_upto_region 13 with (fail)
          obtain ⟨wx, hwx⟩ : ∃ z, z = set4 w6 w4.heap.size (.int .i64 u.kind) (.int .i64 u.n) (.string u.name) (.slice a9 u.kids.length c9) := ⟨_, rfl⟩
          have FX : Fr (fun k => k = w4.heap.size) w6 wx := by rw [hwx]; exact Fr.of_grown (set4_grown _ _ _ _ _ _) (fun k e => by cases e; rfl)
          obtain ⟨y0, y1, y2, y3⟩ := set4_cells (Y := w6) (.int .i64 u.kind) (.int .i64 u.n) (.string u.name) (.slice a9 u.kids.length c9) k0 k1 k2 k3
          rw [← hwx] at y0 y1 y2 y3
          unfold set4 at hwx
          rw [← hwx]
          clear hwx k0 k1 k2 k3 f0 f1 f2 f3 BX
          have R := Lib.hid (Rd.fr R1.out E.out R.out FX (fun k hk h => by rw [s1]; omega))
          have A := Lib.hid (A.out.keep FX (fun k hk h hz => by omega))
          have E := Lib.hid (ExtR.fr E.out FX (fun k hk h => ⟨by rw [s1]; omega, by omega⟩))
          have V := Lib.hid (Tm.at_mono (fun b hb => hb) (FX.agree (S := fun b => wr.heap.size ≤ b ∧ b ≠ w4.heap.size) (fun k hk h => hk.2 h)) V.out)
          have sxx := FX.size
          clear FX
          go_wp2_with go_loud (at_builtin; refine wpList_append_tm rfl (.tmp 34) (.tmp 36) 23 rfl (fun b => z ≤ b) 25 i0 Try.underlying23 HI.out HZ0.out HZ1.out HZ2.out _ ts u a9 c9 rfl ((A.out.keep (Fr.refl (fun k => k = w4.heap.size) _) (fun k hk h hz => by omega)).zone (fun b hb => hb.1)) rfl (A0.out.apart (fun b hb => by omega) (Tm.at_mono (fun b hb => hb.1) (((Fr.refl (fun k => k = w4.heap.size) _)).agree (fun k hk h => hk.2 h)) V.out)) hlu (fun b h => by omega) ?_; intro av2 cv2 wz hA5 hf5; have A5 := Lib.hid hA5; have F5 := Lib.hid (((Fr.refl (fun k => k = w4.heap.size) _).mono (M' := fun b => z ≤ b) (fun k _ h => by omega)).trans hf5); clear hA5 hf5)
          have s5 := F5.out.size
          go_roundw
          case rel =>
            have hl2 : (ts ++ [u]).length = ts.length + 1 := by simp
            have hrz := Rd.fr R1.out E.out R.out F5.out (fun k hk h => by rw [s1]; omega)
            exact ⟨k + 1, p6, ts ++ [u], av2, cv2, by omega, by rw [hl2, HTS.out], by rw [hl2], by go_num, by omega, Lib.hid hrz, Lib.hid (by rw [hl2]; exact A5.out), Lib.hid (ExtR.fr E.out F5.out (fun k hk h => ⟨by rw [s1]; omega, by omega⟩)), by omega⟩
          case measure => simp [intOf]; omega
        · have hz1' : (y == 1) = false := by simpa using hz1
          obtain ⟨k0, k1, k2, k3, f0, f1, f2, f3⟩ := BX.out
          go_wp2_with go_loud (at_builtin; refine wpList_append_tm rfl (.tmp 34) (.tmp 36) 23 rfl (fun b => z ≤ b) 25 i0 Try.underlying23 HI.out HZ0.out HZ1.out HZ2.out _ ts t a4 c4 rfl ((A.out.keep (Fr.refl (fun k => k = w4.heap.size) _) (fun k hk h hz => by omega)).zone (fun b hb => hb.1)) rfl (A0.out.apart (fun b hb => by omega) (Tm.at_mono (fun b hb => hb.1) (((Fr.refl (fun k => k = w4.heap.size) _)).agree (fun k hk h => hk.2 h)) V.out)) hlu (fun b h => by omega) ?_; intro av2 cv2 wz hA5 hf5; have A5 := Lib.hid hA5; have F5 := Lib.hid (((Fr.refl (fun k => k = w4.heap.size) _).mono (M' := fun b => z ≤ b) (fun k _ h => by omega)).trans hf5); clear hA5 hf5)
          have s5 := F5.out.size
          go_roundw
          case rel =>
            have hl2 : (ts ++ [t]).length = ts.length + 1 := by simp
            have hrz := Rd.fr R1.out E.out R.out F5.out (fun k hk h => by rw [s1]; omega)
            exact ⟨k + 1, (P + 1 + 1), ts ++ [t], av2, cv2, by omega, by rw [hl2, HTS.out], by rw [hl2], by go_num, by omega, Lib.hid hrz, Lib.hid (by rw [hl2]; exact A5.out), Lib.hid (ExtR.fr E.out F5.out (fun k hk h => ⟨by rw [s1]; omega, by omega⟩)), by omega⟩
          case measure => simp [intOf]; omega
    · have AS := Lib.hid (A.out.sl (by omega))
      clear hts
      go_wp2_with fail
      refine (rdpick r P 7 _ (by omega) (by decide) (by decide) R.out).mono ?_
      rintro e w2 ⟨x, rfl, hx0, hx1, hr2, he2⟩
      obtain ⟨n, rfl⟩ : ∃ n : Nat, x = (n : Int) := ⟨x.toNat, by omega⟩
      have hn7 : n < 7 := by omega
      obtain ⟨s, hs, hcn⟩ := NM.out n hn7
      have R := Lib.hid hr2
      have E := Lib.hid (E.out.trans he2)
      have AS := Lib.hid ((Fr.of_extR (M := fun k => k = r) he2 rfl).sl AS.out (fun k hk h => by omega))
      have s2 := he2.1.size
      have nn : w1.heap.size ≠ r := by omega
      have hcn := E.out.cell nn hcn
      have hc0 := cell_regrown hcn
      have s3 : w1.heap.size < w2.heap.size := by omega
      clear hr2 he2
      have e8 := Ext.alloc w2 (.cells #[.int .i64 3, .int .i64 0, .string s, .slice av ts.length cv] 25)
      have BT := Lib.hid (BoxT.new w2 (.int .i64 3) (.int .i64 0) (.string s) (.slice av ts.length cv) 25 rfl)
      have V := Lib.hid (show Tm.at (fun b => z ≤ b) _ (.mk 3 0 s ts) (.agg #[.int .i64 3, .int .i64 0, .string s, .slice av ts.length cv]) from Tm.at_iff.2 ⟨hs, _, rfl, Tm.sl_ext e8 AS.out⟩)
      have R := Lib.hid (R.out.ext e8)
      have E := Lib.hid (E.out.trans (ExtR.of_ext e8))
      have hl2 : ts.length ≤ 2 := by have := HTS.out; omega
      clear e8 AS
      go_wp2_with fail
      refine (rdpick r (P + 1) 10 _ (by omega) (by decide) (by decide) R.out).mono ?_
      rintro e w4 ⟨y, rfl, hy0, hy1, hr2, he2⟩
      have nb : w2.heap.size ≠ r := by omega
      have R := Lib.hid hr2
      have E := Lib.hid (E.out.trans he2)
      have V := Lib.hid (Tm.at_mono (fun b h => h) (he2.agree (S := fun b => z ≤ b) (by omega)) V.out)
      obtain ⟨k0, k1, k2, k3, _, _, _, _⟩ := BT.out.extR he2 nb
      clear hr2 he2 hcn
      by_cases hy : y = 0
      · subst hy
        go_wp2_with fail
        refine (specl1Mutate r (P + 1 + 1) _ _ _ _ (by omega) R.out V.out).mono ?_
        rintro e w5 ⟨u, v3, p3, rfl, hv3, _, hr3, hp3, he3⟩
        obtain ⟨a3, c3, rfl⟩ := at_form hv3
        have V := Lib.hid hv3
        have s4 := E.out.1.size
        have s4' : z ≤ w4.heap.size := by rw [s1] at s4; exact s4
        have E := Lib.hid (E.out.trans he3)
        obtain ⟨g0, g1, g2, g3, z0, z1, z2, z3⟩ := B1.out.extR E.out nr
        clear hv3 hr3 he3 k0 k1 k2 k3
        go_wp2_with fail
        refine ret4_set (p := 2) (T := 25) (b := w.heap.size) (by kernel_rfl) (fun _ => by kernel_rfl) (fun _ => by kernel_rfl) rfl rfl g0 g1 g2 g3 ?_
        intro X hX
        exact out_end (Nat.le_refl _) hX (ExtR.below E1.out E.out (by omega)) (Tm.at_mono (fun b h => by omega) (Agree.refl _) V.out)
      · have hy' : (y == 0) = false := by simpa using hy
        obtain ⟨g0, g1, g2, g3, z0, z1, z2, z3⟩ := B1.out.extR E.out nr
        go_wp2_with fail
        refine ret4_set (p := 2) (T := 25) (b := w.heap.size) (by kernel_rfl) (fun _ => by kernel_rfl) (fun _ => by kernel_rfl) rfl rfl g0 g1 g2 g3 ?_
        intro X hX
        exact out_end (Nat.le_refl _) hX (ExtR.below E1.out E.out (by omega)) (Tm.at_mono (fun b h => by omega) (Agree.refl _) V.out)
end Go.Proofs.Ytdelhgodhkbjdaa
