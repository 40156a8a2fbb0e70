/-
  A region that draws its order, each operation by a law of its own: what each leaves (phi) holds on in whatever the others do (R): no order is branched over.
-/
import Derived.RegionTactic
namespace Go.Proofs.YtognkaebiafgbaaGreat
open Go Go.Region
set_option linter.unusedVariables false
def dstOf (ops : Array Oper) (i : Nat) : Option Tmp := (ops[i]?).bind (·.dst)
def putL (ops : Array Oper) (vs : Nat → Value) (l : List Nat) (a : Act) : Act := l.foldl (fun a i => a.put (dstOf ops i) (vs i)) a
theorem putL_snoc (ops : Array Oper) (vs : Nat → Value) (l : List Nat) (i : Nat) (a : Act) : putL ops vs (l ++ [i]) a = (putL ops vs l a).put (dstOf ops i) (vs i) := by simp [putL]
theorem putL_congr (ops : Array Oper) {vs us : Nat → Value} : ∀ (l : List Nat) (a : Act), (∀ i, i ∈ l → vs i = us i) → putL ops vs l a = putL ops us l a
  | [], _, _ => rfl
  | i :: l, a, h => by
    have := putL_congr ops l (a.put (dstOf ops i) (vs i)) (fun j hj => h j (List.mem_cons_of_mem _ hj))
    simp only [putL, List.foldl_cons] at this ⊢
    rw [this, h i (List.mem_cons_self ..)]
theorem put_old (a : Act) (d : Option Tmp) (v : Value) (k : Nat) (h : d ≠ some k) : (a.put d v).tmps[k]? = a.tmps[k]? := by
  cases d with
  | none => rfl
  | some d =>
    simp only [Act.put]
    rw [Array.getElem?_setIfInBounds]
    rw [if_neg (fun e => h (by rw [e]))]
theorem put_size (a : Act) (d : Option Tmp) (v : Value) : (a.put d v).tmps.size = a.tmps.size := by
  cases d <;> simp [Act.put]
theorem put_new (a : Act) (d : Nat) (v : Value) (h : d < a.tmps.size) : (a.put (some d) v).tmps[d]? = some v := by
  simp only [Act.put]
  rw [Array.getElem?_setIfInBounds]
  simp [h]
theorem putL_old (ops : Array Oper) (vs : Nat → Value) (k : Nat) : ∀ (l : List Nat) (a : Act), (∀ i, i ∈ l → dstOf ops i ≠ some k) → (putL ops vs l a).tmps[k]? = a.tmps[k]?
  | [], _, _ => rfl
  | i :: l, a, h => by
    have := putL_old ops vs k l (a.put (dstOf ops i) (vs i)) (fun j hj => h j (List.mem_cons_of_mem _ hj))
    rw [put_old _ _ _ _ (h i (List.mem_cons_self ..))] at this
    exact this
def Apart (ops : Array Oper) : Bool := (List.range ops.size).all fun i => (List.range ops.size).all fun j => decide (i = j) || (match dstOf ops i with | none => true | some d => decide (dstOf ops j ≠ some d))
def Behind (ops : Array Oper) : Bool := (List.range ops.size).all fun i => match ops[i]? with | none => true | some o => o.after.all fun e => !Region.binds .any e || decide (e.on < i)
theorem apart_spec {ops : Array Oper} (h : Apart ops = true) {i j d : Nat} (hi : i < ops.size) (hj : j < ops.size) (hd : dstOf ops i = some d) (hne : i ≠ j) : dstOf ops j ≠ some d := by
  unfold Apart at h
  rw [List.all_eq_true] at h
  have h1 := h i (by simpa using hi)
  rw [List.all_eq_true] at h1
  have h2 := h1 j (by simpa using hj)
  rw [hd] at h2
  simpa [hne] using h2
theorem behind_spec {ops : Array Oper} (h : Behind ops = true) {i : Nat} {o : Oper} (ho : ops[i]? = some o) : ∀ e ∈ o.after, Region.binds .any e = true → e.on < i := by
  unfold Behind at h
  rw [List.all_eq_true] at h
  have h1 := h i (by simpa using (Array.getElem?_eq_some_iff.1 ho).1)
  rw [ho] at h1
  intro e he hbd
  have := Array.all_eq_true_iff_forall_mem.1 h1 e he
  simpa [hbd] using this
theorem putL_new {ops : Array Oper} (ha : Apart ops = true) (vs : Nat → Value) {j d : Nat} (hd : dstOf ops j = some d) : ∀ (l : List Nat) (a : Act), l.Nodup → (∀ i, i ∈ l → i < ops.size) → j ∈ l → d < a.tmps.size → (putL ops vs l a).tmps[d]? = some (vs j)
  | [], _, _, _, h, _ => by simp at h
  | i :: l, a, hn, hb, hj, hs => by
    rw [List.nodup_cons] at hn
    have hjs : j < ops.size := hb j hj
    by_cases e : j = i
    · subst e
      have h1 := putL_old ops vs d l (a.put (dstOf ops j) (vs j)) (fun k hk => apart_spec ha hjs (hb k (List.mem_cons_of_mem _ hk)) hd (fun e => hn.1 (e ▸ hk)))
      rw [hd, put_new _ _ _ hs] at h1
      rw [← hd] at h1
      exact h1
    · have hj' : j ∈ l := by
        rcases List.mem_cons.1 hj with h | h
        · exact absurd h e
        · exact h
      exact putL_new ha vs hd l (a.put (dstOf ops i) (vs i)) hn.2 (fun k hk => hb k (List.mem_cons_of_mem _ hk)) hj' (by rw [put_size]; exact hs)
theorem nd_le : ∀ (n : Nat) (l : List Nat), l.Nodup → (∀ j, j ∈ l → j < n) → l.length ≤ n
  | 0, [], _, _ => Nat.le_refl _
  | 0, x :: l, _, h => absurd (h x (List.mem_cons_self ..)) (by omega)
  | n + 1, l, hn, h => by
    by_cases hm : n ∈ l
    · have h1 := nd_le n (l.erase n) (hn.erase n) (fun j hj => by
        have h2 := h j (List.mem_of_mem_erase hj)
        have h3 : j ≠ n := fun e => by
          rw [e] at hj
          exact (List.Nodup.not_mem_erase hn) hj
        omega)
      have h4 := List.length_erase_of_mem hm
      omega
    · have := nd_le n l hn (fun j hj => by
        have h2 := h j hj
        have h3 : j ≠ n := fun e => hm (e ▸ hj)
        omega)
      omega
theorem put_comm (a : Act) {d e : Option Tmp} (u v : Value) (h : ∀ k, d = some k → e ≠ some k) : (a.put d u).put e v = (a.put e v).put d u := by
  cases d with
  | none => rfl
  | some d =>
    cases e with
    | none => rfl
    | some e =>
      have : d ≠ e := fun he => h d rfl (by rw [he])
      simp only [Act.put]
      rw [Array.setIfInBounds_comm _ _ this]
def RelyStep (P : Program) (ops : Array Oper) (Q : Exit → Act → World → Prop) (G : (Nat → Prop) → (Nat → Value) → World → Prop) (φ : Nat → Value → World → Prop) (a0 : Act) (i : Nat) (o : Oper) : Prop :=
  ∀ (l : List Nat) (vs : Nat → Value) (w : World), i ∉ l → l.Nodup → (∀ j, j ∈ l → j < ops.size) → (∀ e ∈ o.after, Region.binds .any e = true → e.on ∈ l) → (∀ j, j ∈ l → ∀ o', ops[j]? = some o' → ∀ e ∈ o'.after, Region.binds .any e = true → e.on ∈ l) → G (fun k => k ∈ l) vs w → (∀ j, j ∈ l → φ j (vs j) w) →
    ∀ K : Act → World → Prop, (∀ v w', G (fun k => k = i ∨ k ∈ l) (fun k => if k = i then v else vs k) w' → (∀ j u, j ∈ l → φ j u w → φ j u w') → φ i v w' → K ((putL ops vs l a0).put o.dst v) w') →
      if Region.wanted o (yielded ops (putL ops vs l a0).tmps) = true then Oper.wp P o (putL ops vs l a0) w K Q else K ((putL ops vs l a0).put o.dst undef) w
theorem rely_any {P : Program} {ops : Array Oper} {Q : Exit → Act → World → Prop} (ha : Apart ops = true) (hb : Behind ops = true) (G : (Nat → Prop) → (Nat → Value) → World → Prop) (φ : Nat → Value → World → Prop) (a0 : Act)
    (hstep : ∀ i o, ops[i]? = some o → RelyStep P ops Q G φ a0 i o)
    (hend : ∀ D vs w, (∀ i, i < ops.size → D i) → G D vs w → (∀ i, i < ops.size → φ i (vs i) w) → Q .normal (putL ops vs (List.range ops.size) a0) w) :
    ∀ (fuel : Nat) (listed : Array Bool) (a : Act) (w : World), (∃ l vs, l.Nodup ∧ listed.size = ops.size ∧ (∀ i, i < ops.size → (listed.getD i false = true ↔ i ∈ l)) ∧ (∀ i, i ∈ l → i < ops.size) ∧ a = putL ops vs l a0 ∧ G (fun k => k ∈ l) vs w ∧ (∀ i, i ∈ l → φ i (vs i) w) ∧ l.length + fuel = ops.size ∧ (∀ j, j ∈ l → ∀ o', ops[j]? = some o' → ∀ e ∈ o'.after, Region.binds .any e = true → e.on ∈ l)) →
      wpAny P .any ops Q fuel listed a w := by
  have fin : ∀ (listed : Array Bool) (a : Act) (w : World) (l : List Nat) (vs : Nat → Value), l.Nodup → (∀ i, i ∈ l → i < ops.size) → a = putL ops vs l a0 → G (fun k => k ∈ l) vs w → (∀ i, i ∈ l → φ i (vs i) w) → (∀ i, i < ops.size → i ∈ l) → Q .normal a w := by
    intro listed a w l vs hn hlt he hg hφ hall
    have hp : l.Perm (List.range ops.size) := (List.perm_ext_iff_of_nodup hn List.nodup_range).2 (fun i => ⟨fun h => by simpa using hlt i h, fun h => hall i (by simpa using h)⟩)
    have : putL ops vs l a0 = putL ops vs (List.range ops.size) a0 := by
      unfold putL
      refine hp.foldl_eq' (fun x hx y hy z => ?_) _
      by_cases e : x = y
      · subst e; rfl
      · exact put_comm z (vs x) (vs y) (fun k hk => apart_spec ha (hlt x hx) (hlt y hy) hk e)
    rw [he, this]
    exact hend _ vs w hall hg (fun i hi => hφ i (hall i hi))
  have alls : ∀ (listed : Array Bool) (l : List Nat), (∀ i, i < ops.size → (listed.getD i false = true ↔ i ∈ l)) → listed.size = ops.size → Region.ready .any ops listed = [] → ∀ i, i < ops.size → i ∈ l := by
    intro listed l hl hs hr i
    induction i using Nat.strongRecOn with
    | _ i ih =>
      intro hi
      refine Classical.byContradiction fun hno => ?_
      obtain ⟨o, ho⟩ : ∃ o, ops[i]? = some o := ⟨ops[i], by simp [hi]⟩
      have hm : i ∈ Region.ready .any ops listed := mem_ready.2 ⟨by
        have : ¬ listed.getD i false = true := fun h => hno ((hl i hi).1 h)
        have h2 : i < listed.size := by omega
        simp [h2] at this ⊢
        exact this, o, ho, fun e he hbd => by
        have h1 := behind_spec hb ho e he hbd
        exact (hl e.on (by omega)).2 (ih e.on h1 (by omega))⟩
      rw [hr] at hm
      cases hm
  intro fuel
  induction fuel with
  | zero =>
    rintro listed a w ⟨l, vs, hn, hs, hl, hlt, he, hg, hφ, hlen, hcl⟩
    have hall : ∀ i, i < ops.size → i ∈ l := fun i hi => Classical.byContradiction fun hno => by
      have := nd_le ops.size (i :: l) (List.nodup_cons.2 ⟨hno, hn⟩) (fun j hj => by
        rcases List.mem_cons.1 hj with h | h
        · omega
        · exact hlt j h)
      simp at this
      omega
    refine ⟨?_, fin listed a w l vs hn hlt he hg hφ hall⟩
    refine List.eq_nil_iff_forall_not_mem.2 fun i hi => ?_
    obtain ⟨h1, o, ho, _⟩ := mem_ready.1 hi
    have hi' := (Array.getElem?_eq_some_iff.1 ho).1
    have h2 := (hl i hi').2 (hall i hi')
    have h3 : i < listed.size := by omega
    simp [h3] at h1 h2
    rw [h1] at h2
    cases h2
  | succ fuel ih =>
    rintro listed a w ⟨l, vs, hn, hs, hl, hlt, he, hg, hφ, hlen, hcl⟩
    refine ⟨fun hr => fin listed a w l vs hn hlt he hg hφ (alls listed l hl hs hr), fun i hi => ?_⟩
    obtain ⟨h1, o, ho, hall⟩ := mem_ready.1 hi
    have hi' := (Array.getElem?_eq_some_iff.1 ho).1
    have hil : i ∉ l := fun h => by
      have h2 := (hl i hi').2 h
      have h3 : i < listed.size := by omega
      simp [h3] at h1 h2
      rw [h1] at h2
      cases h2
    subst he
    refine wpOp_step ho fun K hK => hstep i o ho l vs w hil hn hlt (fun e he hbd => (hl e.on (by have := behind_spec hb ho e he hbd; omega)).1 (hall e he hbd)) hcl hg hφ K fun v w' hg' hst hv => hK _ _ (ih _ _ _ ?_)
    refine ⟨l ++ [i], fun k => if k = i then v else vs k, ?_, by simp [hs], fun k hk => ?_, fun k hk => ?_, ?_, ?_, fun k hk => ?_, by simp; omega, ?_⟩
    · rw [List.nodup_append]
      exact ⟨hn, by simp, fun x hx y hy e => by simp at hy; exact hil (by rw [← hy, ← e]; exact hx)⟩
    · rw [List.mem_append, List.mem_singleton]
      by_cases e : k = i
      · subst e
        have h3 : k < listed.size := by omega
        simp [h3]
      · have h3 : k < listed.size := by omega
        rw [← (hl k hk)]
        simp [e, h3, Ne.symm e]
    · rcases List.mem_append.1 hk with h | h
      · exact hlt k h
      · simp at h; omega
    · rw [putL_snoc, if_pos rfl]
      have hd : dstOf ops i = o.dst := by simp [dstOf, ho]
      rw [hd, putL_congr ops (vs := fun k => if k = i then v else vs k) (us := vs) l a0 (fun k hk => if_neg (fun e => hil (by rw [← e]; exact hk)))]
    · have he : (fun k => k ∈ l ++ [i]) = (fun k => k = i ∨ k ∈ l) := funext fun k => propext (by rw [List.mem_append, List.mem_singleton]; exact Or.comm)
      rw [he]
      exact hg'
    · dsimp only
      rcases List.mem_append.1 hk with h | h
      · rw [if_neg (fun e => hil (by rw [← e]; exact h))]
        exact hst k _ h (hφ k h)
      · simp at h
        subst h
        rw [if_pos rfl]
        exact hv
    · intro j hj o' ho' e he hbd
      rcases List.mem_append.1 hj with h | h
      · exact List.mem_append.2 (.inl (hcl j h o' ho' e he hbd))
      · simp at h
        subst h
        rw [ho] at ho'
        cases ho'
        exact List.mem_append.2 (.inl ((hl e.on (by have := behind_spec hb ho e he hbd; omega)).1 (hall e he hbd)))
theorem wp_region_rely {P : Program} {id : Nat} {ops : Array Oper} {Q : Exit → Act → World → Prop} {a0 : Act} {w : World} (hm : P.follows .mixedOrders = true) (ha : Apart ops = true) (hb : Behind ops = true) (G : (Nat → Prop) → (Nat → Value) → World → Prop) (φ : Nat → Value → World → Prop)
    (hg : G (fun _ => False) (fun _ => undef) w.drew) (hstep : ∀ i o, ops[i]? = some o → RelyStep P ops Q G φ a0 i o)
    (hend : ∀ D vs w, (∀ i, i < ops.size → D i) → G D vs w → (∀ i, i < ops.size → φ i (vs i) w) → Q .normal (putL ops vs (List.range ops.size) a0) w) : (Code.region id ops true).wp P Q a0 w := by
  refine wp_region_any hm (rely_any ha hb G φ a0 hstep hend _ _ _ _ ⟨[], fun _ => undef, by simp, by simp, fun i hi => ?_, by simp, rfl, by simpa using hg, by simp, by simp, by simp⟩)
  simp [hi]
def AllFrom (R : Nat → Oper → Prop) : Nat → List Oper → Prop
  | _, [] => True
  | k, o :: l => R k o ∧ AllFrom R (k + 1) l
theorem AllFrom.nil {R : Nat → Oper → Prop} {k : Nat} : AllFrom R k [] := trivial
theorem AllFrom.cons {R : Nat → Oper → Prop} {k : Nat} {o : Oper} {l : List Oper} (h : R k o) (t : AllFrom R (k + 1) l) : AllFrom R k (o :: l) := ⟨h, t⟩
theorem AllFrom.get {R : Nat → Oper → Prop} : ∀ {l : List Oper} {k : Nat}, AllFrom R k l → ∀ i o, l[i]? = some o → R (k + i) o
  | [], _, _, i, o, h => by simp at h
  | o0 :: l, k, h, 0, o, ho => by simp at ho; subst ho; exact h.1
  | o0 :: l, k, h, i + 1, o, ho => by
    have := AllFrom.get h.2 i o (by simpa using ho)
    rw [show k + (i + 1) = k + 1 + i by omega]
    exact this
def putO (vs : Nat → Value) : List Oper → Nat → Act → Act
  | [], _, a => a
  | o :: l, k, a => putO vs l (k + 1) (a.put o.dst (vs k))
theorem putL_putO (ops : Array Oper) (vs : Nat → Value) : ∀ (L : List Oper) (k : Nat) (a : Act), (∀ i, i < L.length → ops[k + i]? = L[i]?) → putL ops vs (List.range' k L.length) a = putO vs L k a
  | [], _, _, _ => rfl
  | o :: L, k, a, h => by
    have h0 := h 0 (by simp)
    have hd : dstOf ops k = o.dst := by
      simp at h0
      simp [dstOf, h0]
    have := putL_putO ops vs L (k + 1) (a.put o.dst (vs k)) (fun i hi => by
      have := h (i + 1) (by simpa using hi)
      rw [show k + 1 + i = k + (i + 1) by omega, this]
      simp)
    simp only [List.length_cons, List.range'_succ, putO]
    rw [← this]
    simp only [putL, List.foldl_cons, hd]
def RelyAt (P : Program) (ops : Array Oper) (Q : Exit → Act → World → Prop) (G : (Nat → Prop) → (Nat → Value) → World → Prop) (φ : Nat → Value → World → Prop) (a0 : Act) (i : Nat) (o : Oper) : Prop :=
  ∀ (a : Act) (D : Nat → Prop) (vs : Nat → Value) (w : World), (∀ k, (ops.toList.all fun o => decide (o.dst ≠ some k)) = true → a.tmps[k]? = a0.tmps[k]?) →
    (∀ j, (o.after.toList.any fun e => Region.binds .any e && e.on == j) = true → D j ∧ φ j (vs j) w ∧ ∀ d, dstOf ops j = some d → d < a0.tmps.size → a.tmps[d]? = some (vs j)) → ¬ D i → (∀ j k, D j → (match ops[j]? with | some o' => o'.after.toList.any fun e => Region.binds .any e && e.on == k | none => false) = true → D k) → (∀ j, D j → j < ops.size) → G D vs w →
    ∀ K : Act → World → Prop, (∀ v w', G (fun k => k = i ∨ D k) (fun k => if k = i then v else vs k) w' → (∀ j u, D j → φ j u w → φ j u w') → φ i v w' → K (a.put o.dst v) w') →
      if Region.wanted o (yielded ops a.tmps) = true then Oper.wp P o a w K Q else K (a.put o.dst undef) w
theorem RelyAt.step {P : Program} {ops : Array Oper} {Q : Exit → Act → World → Prop} {G : (Nat → Prop) → (Nat → Value) → World → Prop} {φ : Nat → Value → World → Prop} {a0 : Act} {i : Nat} {o : Oper} (ha : Apart ops = true) (h : RelyAt P ops Q G φ a0 i o) : RelyStep P ops Q G φ a0 i o := by
  intro l vs w hil hn hlt hdep hcl hg hφ K hK
  refine h (putL ops vs l a0) _ vs w (fun k hk => ?_) (fun j hj => ?_) hil (fun j k hj hk => ?_) hlt hg K hK
  · refine putL_old ops vs k l a0 (fun j hj he => ?_)
    rw [List.all_eq_true] at hk
    have hjs := hlt j hj
    have := hk ops[j] (by simp)
    simp [dstOf, hjs] at he
    simp [he] at this
  · rw [List.any_eq_true] at hj
    obtain ⟨e, he, hb⟩ := hj
    simp only [Bool.and_eq_true, beq_iff_eq] at hb
    obtain ⟨hb, rfl⟩ := hb
    have hm := hdep e (by simpa using he) hb
    exact ⟨hm, hφ _ hm, fun d hd hs => putL_new ha vs hd l a0 hn hlt hm hs⟩
  · split at hk
    · rename_i o' ho'
      rw [List.any_eq_true] at hk
      obtain ⟨e, he, hb⟩ := hk
      simp only [Bool.and_eq_true, beq_iff_eq] at hb
      obtain ⟨hb, rfl⟩ := hb
      exact hcl j hj o' ho' e (by simpa using he) hb
    · cases hk
theorem wp_region_relies {P : Program} {id : Nat} {L : List Oper} {Q : Exit → Act → World → Prop} {a0 : Act} {w : World} (hm : P.follows .mixedOrders = true) (ha : Apart L.toArray = true) (hb : Behind L.toArray = true) (G : (Nat → Prop) → (Nat → Value) → World → Prop) (φ : Nat → Value → World → Prop)
    (hg : G (fun _ => False) (fun _ => undef) w.drew) (hstep : AllFrom (RelyAt P L.toArray Q G φ a0) 0 L)
    (hend : ∀ D vs w, (∀ i, i < L.length → D i) → G D vs w → (∀ i, i < L.length → φ i (vs i) w) → Q .normal (putO vs L 0 a0) w) : (Code.region id L.toArray true).wp P Q a0 w := by
  refine wp_region_rely hm ha hb G φ hg (fun i o ho => (by have := hstep.get i o (by simpa using ho); rw [Nat.zero_add] at this; exact this.step ha)) (fun D vs w hD hg hφ => ?_)
  have : putL L.toArray vs (List.range L.toArray.size) a0 = putO vs L 0 a0 := by
    rw [List.size_toArray, List.range_eq_range']
    exact putL_putO _ vs L 0 a0 (fun i hi => by simp)
  rw [this]
  exact hend D vs w (fun i hi => hD i (by simpa using hi)) hg (fun i hi => hφ i (by simpa using hi))
end Go.Proofs.YtognkaebiafgbaaGreat
