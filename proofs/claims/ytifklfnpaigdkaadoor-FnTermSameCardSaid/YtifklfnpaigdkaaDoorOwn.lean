/-
  A slice of terms that a call makes: the cells of the terms that it holds so far; and append by one element.
-/
import Derived.Test.YtifklfnpaigdkaaDoorRep
namespace Go.Proofs.YtifklfnpaigdkaaDoor
open Go.RowKit
set_option linter.unusedVariables false

/-- the four cells of a term -/
def tcells (t : Tm) (a : Option Addr) (cap : Nat) : List Value := [.int .i64 t.kind, .int .i64 t.n, .string t.name, .slice a t.kids.length cap]
/-- the cells of terms, one behind the other -/
def Tm.flat (S : Nat → Prop) (w : World) : List Tm → List Value → Prop
  | [], xs => xs = []
  | t :: ts, xs => ∃ a cap rest, xs = tcells t a cap ++ rest ∧ Tm.at S w t (.agg #[.int .i64 t.kind, .int .i64 t.n, .string t.name, .slice a t.kids.length cap]) ∧ Tm.flat S w ts rest
theorem flat_len {S : Nat → Prop} {w : World} : ∀ {ts : List Tm} {xs : List Value}, Tm.flat S w ts xs → xs.length = ts.length * 4
  | [], xs, h => by simp only [Tm.flat] at h; subst h; rfl
  | t :: ts, xs, h => by
    obtain ⟨a, cap, rest, rfl, _, h2⟩ := h
    have := flat_len h2
    simp [tcells]; omega
theorem flat_mono {S S' : Nat → Prop} {w w' : World} (hS : ∀ b, S b → S' b) (ha : Agree S w w') : ∀ {ts : List Tm} {xs : List Value}, Tm.flat S w ts xs → Tm.flat S' w' ts xs
  | [], xs, h => h
  | t :: ts, xs, h => by
    obtain ⟨a, cap, rest, rfl, h1, h2⟩ := h
    exact ⟨a, cap, rest, rfl, Tm.at_mono hS ha h1, flat_mono hS ha h2⟩
theorem flat_snoc {S : Nat → Prop} {w : World} {t : Tm} {a : Option Addr} {cap : Nat} (ht : Tm.at S w t (.agg #[.int .i64 t.kind, .int .i64 t.n, .string t.name, .slice a t.kids.length cap])) :
    ∀ {ts : List Tm} {xs : List Value}, Tm.flat S w ts xs → Tm.flat S w (ts ++ [t]) (xs ++ tcells t a cap)
  | [], xs, h => by simp only [Tm.flat] at h; subst h; exact ⟨a, cap, [], by simp, ht, rfl⟩
  | t0 :: ts, xs, h => by
    obtain ⟨a0, cap0, rest, rfl, h1, h2⟩ := h
    exact ⟨a0, cap0, rest ++ tcells t a cap, by simp, h1, flat_snoc ht h2⟩
theorem flat_row {S : Nat → Prop} {w : World} {b : Nat} : ∀ {ts : List Tm} {xs : List Value} {off : Nat}, Tm.flat S w ts xs → (∀ j, j < xs.length → w.cell? ⟨b, off + j, none⟩ = xs[j]?) → Tm.row S w b off ts
  | [], xs, off, h, _ => by simp [Tm.row]
  | t :: ts, xs, off, h, hc => by
    obtain ⟨a, cap, rest, rfl, h1, h2⟩ := h
    simp only [Tm.row]
    obtain ⟨h3, sv, h4, h5⟩ := Tm.at_iff.1 h1
    have hsv : sv = .slice a t.kids.length cap := by
      simp only [Value.agg.injEq] at h4
      have := congrArg (fun x : Array Value => x[3]?) h4
      simpa using this.symm
    subst hsv
    refine ⟨Tm.cells_iff.2 ⟨_, ?_, ?_, ?_, ?_, h3, h5⟩, ?_⟩
    · have := hc 0 (by simp [tcells]); simpa [tcells] using this
    · have := hc 1 (by simp [tcells]); simpa [tcells] using this
    · have := hc 2 (by simp [tcells]); simpa [tcells] using this
    · have := hc 3 (by simp [tcells]); simpa [tcells] using this
    · refine flat_row h2 fun j hj => ?_
      have := hc (4 + j) (by simp [tcells]; omega)
      rw [show off + 4 + j = off + (4 + j) by omega, this, show 4 + j = j + 4 by omega]
      simp [tcells]
/-- an owned row of terms is a slice of terms -/
theorem own_sl {S : Nat → Prop} {w : World} {base e : Nat} {v : Value} {ts : List Tm} {xs : List Value} (ho : w.ownsRow base e 4 v ts.length xs) (hf : Tm.flat S w ts xs) (hl : ts.length ≤ 1048576) : Tm.sl (fun b => S b ∨ v.ownBlock = some b) w ts v := by
  have hcell := fun (g : Nat) (hg : v.ownBlock = some g) => ho.cells (g := g) hg
  obtain ⟨h1, h2⟩ := ho
  rcases h2 with ⟨rfl, h2⟩ | ⟨g, cap, cur, rfl, h3, h4, h5, h6, h7, h8⟩
  · have : ts = [] := List.eq_nil_of_length_eq_zero h2
    subst this
    exact ⟨none, 0, by simp, by simp, by omega, by simp, .inl rfl⟩
  · refine ⟨_, cap, rfl, h5, h6, hl, .inr ⟨g, 0, rfl, .inr rfl, ?_⟩⟩
    refine flat_row (flat_mono (fun b h => .inl h) (fun b o v _ h => h) hf) fun j hj => ?_
    have := hcell g rfl j xs[j] (by simp [hj])
    rw [show (⟨g, 0, none⟩ : Addr).add j = ⟨g, 0 + j, none⟩ by unfold Addr.add; split <;> simp_all] at this
    rw [this]; simp [hj]

/-- append: the row that comes of it is the same block, or a new one -/
theorem append_fresh {P : Program} {w : World} (base : Nat) (t ty e : TypeId) (i : TypeInfo) (z : Value) (size bytes : Nat) (ht : P.underlying t = some (.slice e)) (hi : P.info? e = some i) (hz : i.zero = some z)
    (hsize : i.size = size) (hby : i.bytes = bytes) (hzs : z.cells.size = size) (hsz : 0 < size)
    (v : Value) (n : Nat) (xs : List Value) (hown : w.ownsRow base e size v n xs)
    (a : Addr) (m c : Nat) (news : List Value) (hl : news.length = m * size) (hnews : ∀ j u, news[j]? = some u → w.cell? (a.add j) = some u) (h1 : ∀ u ∈ news, u.oneCell' = true)
    (h63 : n + m ≤ maxLen) (hbytes : (n + m) * bytes ≤ 140737488355328) (hbase : base ≤ w.heap.size) (v' : Value) (w' : World)
    (hr : (Builtin.append_ #[t, t] ty #[v, .slice (some a) m c]).run P w = .ok v' w') : ∀ g, v'.ownBlock = some g → v.ownBlock = some g ∨ w.heap.size ≤ g := by
  intro g hg
  by_cases hc : v.ownBlock = some g
  · exact .inl hc
  right
  rcases hown.2 with ⟨rfl, hn⟩ | ⟨g0, cap, cur, rfl, hbg, hg0, hnc, hcm, hcs, htake⟩
  · -- nil: owned from the heap's end on
    have ho : w.ownsRow w.heap.size e size (.slice none 0 0) n xs := ⟨hown.1, .inl ⟨rfl, hn⟩⟩
    obtain ⟨v2, w2, hr2, ho2, _, _⟩ := run_append_own (P := P) w w.heap.size t ty e i z size bytes ht hi hz hsize hby hzs hsz _ n xs ho a m c news hl hnews h1 h63 hbytes (Nat.le_refl _)
    rw [hr] at hr2
    cases hr2
    exact (ho2.lt g hg).1
  · by_cases hroom : n + m ≤ cap
    · subst hsize
      have hfit : n * i.size + news.length ≤ cur.size := by rw [hl, hcs, ← Nat.add_mul]; exact Nat.mul_le_mul_right _ hroom
      have hr2 := run_append_room (P := P) w t ty e i ht hi g0 n cap cur hg0 a m c news hl hnews h1 hroom hfit
      rw [hr] at hr2
      cases hr2
      exact absurd hg hc
    · subst hsize
      have hlen : xs.length = n * i.size := hown.1
      have hr2 := run_append_grow (P := P) w t ty e i z ht hi hz ⟨g0, 0, none⟩ n cap xs hown.1 (hown.cells (g := g0) rfl) a m c news hl hnews (by omega) (by simp only [maxLen] at h63; omega) (growslice_fits (by omega) (by rw [hby]; exact hbytes))
      rw [hr] at hr2
      cases hr2
      simp only [Value.ownBlock, Option.some.injEq] at hg
      omega

theorem wpList_append_fresh {P : Program} {w : World} {ops : Array Oper} {rest : List Oper} {o : Oper} {a : Act} {Q : Exit → Act → World → Prop} (hgd : o.guard = none) (s x : Operand) (t : TypeId)
    (ho : o.op = .call { callee := .builtin .append, args := #[s, x], argTypes := #[t, t] })
    (base : Nat) (e : TypeId) (i : TypeInfo) (z : Value) (size bytes : Nat) (ht : P.underlying t = some (.slice e)) (hi : P.info? e = some i) (hz : i.zero = some z)
    (hsize : i.size = size) (hby : i.bytes = bytes) (hzs : z.cells.size = size) (hsz : 0 < size)
    (v : Value) (n : Nat) (xs : List Value) (hs : a.eval s = v) (hown : w.ownsRow base e size v n xs)
    (ad : Addr) (m c : Nat) (news : List Value) (hx : a.eval x = .slice (some ad) m c) (hl : news.length = m * size) (hnews : ∀ j u, news[j]? = some u → w.cell? (ad.add j) = some u) (h1 : ∀ u ∈ news, u.oneCell' = true)
    (h63 : n + m ≤ maxLen) (hbytes : (n + m) * bytes ≤ 140737488355328) (hbase : base ≤ w.heap.size)
    (h : ∀ v' w', w'.ownsRow base e size v' (n + m) (xs ++ news) → w.grownBy w' v.ownBlock → (∀ g, v'.ownBlock = some g → v.ownBlock = some g ∨ w.heap.size ≤ g) → (v' = .slice none 0 0 ↔ v = .slice none 0 0 ∧ m = 0) → wpList P ops Q rest (a.put o.dst v') w') : wpList P ops Q (o :: rest) a w := by
  refine wpList_plain hgd fun K hK => ?_
  obtain ⟨v', w', hr, h2, h3, h4⟩ := run_append_own (P := P) w base t o.type e i z size bytes ht hi hz hsize hby hzs hsz v n xs hown ad m c news hl hnews h1 h63 hbytes hbase
  have h5 := append_fresh base t o.type e i z size bytes ht hi hz hsize hby hzs hsz v n xs hown ad m c news hl hnews h1 h63 hbytes hbase v' w' hr
  unfold Oper.wp execOp
  simp only [ho, resolve, invoke, builtin, Sem.run_bind, Sem.run_pure, Result.andThen_ok, List.map_toArray, List.map_cons, List.map_nil, hs, hx, hr]
  exact hK _ _ (h v' w' h2 h3 h5 h4)

theorem Ext.grownBy {w w' : World} (h : Ext w w') : w.grownBy w' none := ⟨Below.os h, Below.tape h, Below.output h, Below.size h, fun k hk _ => Below.block h k hk⟩
theorem Ext.of_grown {w w' : World} (h : w.grownBy w' none) : Ext w w' := ⟨h.os, h.tape, h.output, h.size, fun k hk => h.block k hk (by simp)⟩
theorem own_ext {w w' : World} {base e size n : Nat} {v : Value} {xs : List Value} (h : w.ownsRow base e size v n xs) (he : Ext w w') : w'.ownsRow base e size v n xs :=
  h.kept he.grownBy (by cases hv : v.ownBlock <;> simp)
/-- four cells of a list, set -/
theorem set4_list {done rest : List Value} {u0 u1 u2 u3 v0 v1 v2 v3 : Value} {a : Nat} (ha : done.length = a) :
    ((((done ++ u0 :: u1 :: u2 :: u3 :: rest).set a v0).set (a + 1) v1).set (a + 2) v2).set (a + 3) v3 = (done ++ [v0, v1, v2, v3]) ++ rest := by
  subst ha
  simp
theorem four_of {l : List Value} (h : 4 ≤ l.length) : ∃ u0 u1 u2 u3 r, l = u0 :: u1 :: u2 :: u3 :: r := by
  match l, h with
  | u0 :: u1 :: u2 :: u3 :: r, _ => exact ⟨u0, u1, u2, u3, r, rfl⟩

end Go.Proofs.YtifklfnpaigdkaaDoor
