import Derived.Test.YtollifednpjkeaaLater
/-
  A region that draws its order and whose operations make memory: told by what each operation yields, up to where it lies.
-/
namespace Go.Proofs.Ytollifednpjkeaa
open Go.RowKit

theorem filter_lt {α : Type} {p q : α → Bool} : ∀ (l : List α), (∀ x ∈ l, q x = true → p x = true) → (∃ x ∈ l, p x = true ∧ q x = false) → (l.filter q).length < (l.filter p).length := by
  have le : ∀ (l : List α), (∀ x ∈ l, q x = true → p x = true) → (l.filter q).length ≤ (l.filter p).length := by
    intro l
    induction l with
    | nil => intro _; simp
    | cons x r ih =>
      intro h
      have h1 := ih (fun y hy => h y (List.mem_cons_of_mem _ hy))
      have h2 := h x (List.mem_cons_self ..)
      simp only [List.filter_cons]
      cases hq : q x
      · cases hp : p x <;> simp <;> omega
      · rw [h2 hq]; simp; omega
  intro l
  induction l with
  | nil => rintro _ ⟨x, hx, _⟩; cases hx
  | cons x r ih =>
    rintro h ⟨y, hy, hp, hq⟩
    have h1 := le r (fun z hz => h z (List.mem_cons_of_mem _ hz))
    simp only [List.filter_cons]
    rcases List.mem_cons.1 hy with rfl | hy
    · rw [hp, hq]; simp; omega
    · have h2 := ih (fun z hz => h z (List.mem_cons_of_mem _ hz)) ⟨y, hy, hp, hq⟩
      have h3 := h x (List.mem_cons_self ..)
      cases hqx : q x
      · cases hpx : p x <;> simp <;> omega
      · rw [h3 hqx]; simp; omega

section
variable {P : Program} {Q : Exit → Act → World → Prop}

/-- What an operation yielded lies in its slot. -/
def Got (ops : Array Oper) (Ps : Nat → Value → World → Prop) (a : Act) (w : World) (j : Nat) : Prop := ∀ d, (ops[j]?).bind (·.dst) = some d → ∃ v, a.tmps[d]? = some v ∧ Ps j v w
/-- What a step owes. -/
def Yield1 (a : Act) (o : Oper) (w : World) (R : Value → World → Prop) (a' : Act) (w' : World) : Prop := ∃ v, a' = a.put o.dst v ∧ Below w.heap.size w w' ∧ R v w'
/-- The frame, but for what the region's operations yield. -/
structure Around (ops : Array Oper) (a0 : Act) (w0 : World) (a : Act) (w : World) : Prop where
  below : Below w0.heap.size w0 w
  defers : a.defers = a0.defers
  size : a.tmps.size = a0.tmps.size
  out : ∀ (s : Tmp), (∀ (i : Nat) (o : Oper), ops[i]? = some o → o.dst ≠ some s) → a.tmps[s]? = a0.tmps[s]?
def FactStep (P : Program) (ops : Array Oper) (Q : Exit → Act → World → Prop) (Ps : Nat → Value → World → Prop) (a0 : Act) (w0 : World) (i : Nat) (o : Oper) : Prop :=
  ∀ a w, Around ops a0 w0 a w → (∀ j, o.after.any (fun e => Region.binds .any e && e.on == j) = true → Got ops Ps a w j) →
    if Region.wanted o (yielded ops a.tmps) = true then o.wp P a w (Yield1 a o w (Ps i)) Q else Ps i undef w

theorem Act.put_size (a : Act) (d : Option Tmp) (v : Value) : (a.put d v).tmps.size = a.tmps.size := by
  cases d <;> simp [Act.put]
theorem Act.put_defers (a : Act) (d : Option Tmp) (v : Value) : (a.put d v).defers = a.defers := by
  cases d <;> simp [Act.put]
theorem Act.put_other (a : Act) (d : Option Tmp) (v : Value) (s : Tmp) (h : d ≠ some s) : (a.put d v).tmps[s]? = a.tmps[s]? := by
  cases d with
  | none => rfl
  | some t => simp only [Act.put]; rw [Array.getElem?_setIfInBounds_ne (by rintro rfl; exact h rfl)]
theorem Act.put_self (a : Act) (d : Tmp) (v : Value) (h : d < a.tmps.size) : (a.put (some d) v).tmps[d]? = some v := by
  simp [Act.put, h]

theorem wpAny_facts {ops : Array Oper} {Ps : Nat → Value → World → Prop} {a0 : Act} {w0 : World}
    (hord : ∀ (i : Nat) (o : Oper), ops[i]? = some o → ∀ e ∈ o.after.toList, Region.binds .any e = true → e.on < i)
    (hdst : ∀ (i j : Nat) (oi oj : Oper) (d : Tmp), ops[i]? = some oi → ops[j]? = some oj → i ≠ j → oi.dst = some d → oj.dst ≠ some d)
    (hbnd : ∀ (i : Nat) (o : Oper) (d : Tmp), ops[i]? = some o → o.dst = some d → d < a0.tmps.size)
    (hst : ∀ i v A B, Ps i v A → Below A.heap.size A B → Ps i v B)
    (hstep : ∀ i o, ops[i]? = some o → FactStep P ops Q Ps a0 w0 i o)
    (hend : ∀ a w, Around ops a0 w0 a w → (∀ j, Got ops Ps a w j) → Q .normal a w) :
    ∀ (fuel : Nat) (listed : Array Bool) (a : Act) (w : World), listed.size = ops.size → Around ops a0 w0 a w → (∀ j, listed.getD j false = true → Got ops Ps a w j) →
      ((List.range ops.size).filter fun i => !listed.getD i true).length ≤ fuel → wpAny P .any ops Q fuel listed a w := by
  have both : ∀ (listed : Array Bool) (j : Nat), listed.size = ops.size → j < ops.size → listed.getD j true = listed.getD j false := fun listed j hl hj => by
    simp [Array.getD, hl, hj]
  have allEnd : ∀ (listed : Array Bool) (a : Act) (w : World), listed.size = ops.size → Around ops a0 w0 a w → (∀ j, listed.getD j false = true → Got ops Ps a w j) → (∀ j, j < ops.size → listed.getD j false = true) → Q .normal a w := fun listed a w hl hA hF hall => by
    refine hend a w hA fun j d hd => ?_
    have hj : j < ops.size := by
      rcases Nat.lt_or_ge j ops.size with h | h
      · exact h
      · rw [Array.getElem?_eq_none h] at hd; cases hd
    exact hF j (hall j hj) d hd
  intro fuel
  induction fuel with
  | zero =>
    intro listed a w hl hA hF hc
    have hall : ∀ j, j < ops.size → listed.getD j false = true := fun j hj => by
      have h0 : (List.range ops.size).filter (fun i => !listed.getD i true) = [] := List.eq_nil_of_length_eq_zero (by omega)
      have h1 := List.filter_eq_nil_iff.1 h0 j (List.mem_range.2 hj)
      rw [← both listed j hl hj]; simpa using h1
    refine ⟨?_, allEnd listed a w hl hA hF hall⟩
    unfold Region.ready
    refine List.filter_eq_nil_iff.2 fun j hj => ?_
    have hj' := List.mem_range.1 hj
    rw [both listed j hl hj', hall j hj']; simp
  | succ fuel ih =>
    intro listed a w hl hA hF hc
    refine ⟨fun hr => ?_, fun i hi => ?_⟩
    · refine allEnd listed a w hl hA hF ?_
      intro j
      induction j using Nat.strongRecOn with
      | _ j ihj =>
        intro hj
        cases hlj : listed.getD j false with
        | true => rfl
        | false =>
          exfalso
          have hm : j ∈ Region.ready .any ops listed := by
            unfold Region.ready
            refine List.mem_filter.2 ⟨List.mem_range.2 hj, ?_⟩
            rw [both listed j hl hj, hlj, Array.getElem?_eq_getElem hj]
            simp only [Option.map_some, Option.getD_some, Bool.not_false, Bool.true_and]
            rw [← Array.all_toList, List.all_eq_true]
            intro e he
            cases hbe : Region.binds .any e with
            | false => rfl
            | true =>
              have h1 := hord j ops[j] (Array.getElem?_eq_getElem hj) e he hbe
              rw [ihj e.on h1 (by omega)]; rfl
          rw [hr] at hm; cases hm
    · unfold Region.ready at hi
      obtain ⟨hir, hif⟩ := List.mem_filter.1 hi
      have hin := List.mem_range.1 hir
      rw [Array.getElem?_eq_getElem hin] at hif
      simp only [Option.map_some, Option.getD_some, Bool.and_eq_true, Bool.not_eq_true'] at hif
      obtain ⟨hil, hia⟩ := hif
      have hoi := Array.getElem?_eq_getElem hin
      have hdeps : ∀ j, ops[i].after.any (fun e => Region.binds .any e && e.on == j) = true → Got ops Ps a w j := fun j hj => by
        rw [← Array.any_toList, List.any_eq_true] at hj
        obtain ⟨e, he, hej⟩ := hj
        simp only [Bool.and_eq_true, beq_iff_eq] at hej
        rw [← Array.all_toList, List.all_eq_true] at hia
        have := hia e he
        rw [hej.1, hej.2] at this
        exact hF j (by simpa using this)
      have hs := hstep i ops[i] hoi a w hA hdeps
      have hcnt : ((List.range ops.size).filter fun k => !(listed.setIfInBounds i true).getD k true).length ≤ fuel := by
        have hlt := filter_lt (p := fun k => !listed.getD k true) (q := fun k => !(listed.setIfInBounds i true).getD k true) (List.range ops.size) (fun k hk hq => by
          simp only [Bool.not_eq_true'] at hq ⊢
          by_cases hki : i = k
          · subst hki; exact hil
          · have hk' := List.mem_range.1 hk
            simpa [Array.getD, hl, hk', Array.getElem_setIfInBounds_ne, hki] using hq) ⟨i, hir, by simp only [Bool.not_eq_true']; exact hil, by simp [Array.getD, hl, hin]⟩
        omega
      have next : ∀ (v : Value) (w' : World), Below w.heap.size w w' → Ps i v w' → wpAny P .any ops Q fuel (listed.setIfInBounds i true) (a.put ops[i].dst v) w' := fun v w' hb hp => by
        refine ih _ _ _ (by simp [hl]) ⟨hA.below.trans (hb.mono hA.below.size), by rw [Act.put_defers]; exact hA.defers, by rw [Act.put_size]; exact hA.size, fun s hs' => by rw [Act.put_other _ _ _ _ (hs' i _ hoi)]; exact hA.out s hs'⟩ (fun j hj d hd => ?_) hcnt
        by_cases hij : i = j
        · subst hij
          rw [hoi] at hd
          have hd' : ops[i].dst = some d := by simpa using hd
          refine ⟨v, ?_, hp⟩
          rw [hd']
          exact Act.put_self a d v (by rw [hA.size]; exact hbnd i _ d hoi hd')
        · have hj' : listed.getD j false = true := by
            simp only [Array.getD, Array.size_setIfInBounds] at hj ⊢
            split at hj
            · rename_i hlt
              rw [dif_pos hlt]
              have h3 : (listed.setIfInBounds i true)[j]'(by simpa using hlt) = listed[j] := Array.getElem_setIfInBounds_ne (by simpa using hlt) hij
              exact h3.symm.trans hj
            · cases hj
          obtain ⟨u, hu, hpu⟩ := hF j hj' d hd
          cases hoj : ops[j]? with
          | none => rw [hoj] at hd; cases hd
          | some oj =>
            rw [hoj] at hd
            refine ⟨u, ?_, hst j u w w' hpu hb⟩
            rw [Act.put_other _ _ _ _ (fun e => hdst i j _ _ d hoi hoj hij e (by simpa using hd))]
            exact hu
      unfold wpOp
      rw [hoi]
      simp only
      split
      · rename_i hw
        rw [if_pos hw] at hs
        refine .inl (Oper.wp_mono ?_ hs)
        rintro a' w' ⟨v, rfl, hb, hp⟩
        exact next v w' hb hp
      · rename_i hw
        rw [if_neg hw] at hs
        exact next undef w (Below.refl _ _) hs

theorem wpAny_factsT {ops : Array Oper} {n : Nat} {Ps : Nat → Value → World → Prop} {a0 : Act} {w0 : World}
    (hn : ops.size = n + 1) (hall : ∀ j, j < n → ∀ o, ops[n]? = some o → o.after.any (fun e => Region.binds .any e && e.on == j) = true)
    (hord : ∀ (i : Nat) (o : Oper), ops[i]? = some o → ∀ e ∈ o.after.toList, Region.binds .any e = true → e.on < i)
    (hdst : ∀ (i j : Nat) (oi oj : Oper) (d : Tmp), ops[i]? = some oi → ops[j]? = some oj → i ≠ j → oi.dst = some d → oj.dst ≠ some d)
    (hbnd : ∀ (i : Nat) (o : Oper) (d : Tmp), ops[i]? = some o → o.dst = some d → d < a0.tmps.size)
    (hst : ∀ i v A B, Ps i v A → Below A.heap.size A B → Ps i v B)
    (hstep : ∀ i o, ops[i]? = some o → i < n → FactStep P ops Q Ps a0 w0 i o)
    (htail : ∀ a w o, ops[n]? = some o → Around ops a0 w0 a w → (∀ j, j < n → Got ops Ps a w j) → if Region.wanted o (yielded ops a.tmps) = true then o.wp P a w (fun a' w' => Q .normal a' w') Q else Q .normal (a.put o.dst undef) w) :
    ∀ (fuel : Nat) (listed : Array Bool) (a : Act) (w : World), listed.size = ops.size → Around ops a0 w0 a w → (∀ j, listed.getD j false = true → Got ops Ps a w j) → listed.getD n false = false →
      ((List.range ops.size).filter fun i => !listed.getD i true).length ≤ fuel → wpAny P .any ops Q fuel listed a w := by
  have both : ∀ (listed : Array Bool) (j : Nat), listed.size = ops.size → j < ops.size → listed.getD j true = listed.getD j false := fun listed j hl hj => by
    simp [Array.getD, hl, hj]
  have over : ∀ (fuel : Nat) (listed : Array Bool) (a : Act) (w : World), listed.size = ops.size → (∀ j, j < ops.size → listed.getD j false = true) → Q .normal a w → wpAny P .any ops Q fuel listed a w := fun fuel listed a w hl hall h => by
    have hr : Region.ready .any ops listed = [] := by
      unfold Region.ready
      refine List.filter_eq_nil_iff.2 fun j hj => ?_
      have hj' := List.mem_range.1 hj
      rw [both listed j hl hj', hall j hj']; simp
    rcases fuel with _ | fuel
    · exact ⟨hr, h⟩
    · exact ⟨fun _ => h, fun i hi => by rw [hr] at hi; cases hi⟩
  intro fuel
  induction fuel with
  | zero =>
    intro listed a w hl hA hF hT hc
    have h0 : (List.range ops.size).filter (fun i => !listed.getD i true) = [] := List.eq_nil_of_length_eq_zero (by omega)
    have h1 := List.filter_eq_nil_iff.1 h0 n (List.mem_range.2 (by omega))
    rw [both listed n hl (by omega), hT] at h1
    simp at h1
  | succ fuel ih =>
    intro listed a w hl hA hF hT hc
    refine ⟨fun hr => ?_, fun i hi => ?_⟩
    · exfalso
      have hq : ∀ j, j < ops.size → listed.getD j false = true := by
        intro j
        induction j using Nat.strongRecOn with
        | _ j ihj =>
          intro hj
          cases hlj : listed.getD j false with
          | true => rfl
          | false =>
            exfalso
            have hm : j ∈ Region.ready .any ops listed := by
              unfold Region.ready
              refine List.mem_filter.2 ⟨List.mem_range.2 hj, ?_⟩
              rw [both listed j hl hj, hlj, Array.getElem?_eq_getElem hj]
              simp only [Option.map_some, Option.getD_some, Bool.not_false, Bool.true_and]
              rw [← Array.all_toList, List.all_eq_true]
              intro e he
              cases hbe : Region.binds .any e with
              | false => rfl
              | true =>
                have h1 := hord j ops[j] (Array.getElem?_eq_getElem hj) e he hbe
                rw [ihj e.on h1 (by omega)]; rfl
            rw [hr] at hm; cases hm
      rw [hq n (by omega)] at hT; cases hT
    · unfold Region.ready at hi
      obtain ⟨hir, hif⟩ := List.mem_filter.1 hi
      have hin := List.mem_range.1 hir
      rw [Array.getElem?_eq_getElem hin] at hif
      simp only [Option.map_some, Option.getD_some, Bool.and_eq_true, Bool.not_eq_true'] at hif
      obtain ⟨hil, hia⟩ := hif
      have hoi := Array.getElem?_eq_getElem hin
      have hdeps : ∀ j, ops[i].after.any (fun e => Region.binds .any e && e.on == j) = true → Got ops Ps a w j := fun j hj => by
        rw [← Array.any_toList, List.any_eq_true] at hj
        obtain ⟨e, he, hej⟩ := hj
        simp only [Bool.and_eq_true, beq_iff_eq] at hej
        rw [← Array.all_toList, List.all_eq_true] at hia
        have := hia e he
        rw [hej.1, hej.2] at this
        exact hF j (by simpa using this)
      by_cases hin' : i = n
      · subst hin'
        have hlist : ∀ j, j < i → listed.getD j false = true := fun j hj => by
          have h1 := hall j hj _ hoi
          rw [← Array.any_toList, List.any_eq_true] at h1
          obtain ⟨e, he, hej⟩ := h1
          simp only [Bool.and_eq_true, beq_iff_eq] at hej
          rw [← Array.all_toList, List.all_eq_true] at hia
          have := hia e he
          rw [hej.1, hej.2] at this
          simpa using this
        have ht := htail a w _ hoi hA (fun j hj => hF j (hlist j hj))
        have next : ∀ a' w', Q .normal a' w' → wpAny P .any ops Q fuel (listed.setIfInBounds i true) a' w' := fun a' w' h => over _ _ _ _ (by simp [hl]) (fun j hj => by
          by_cases hij : i = j
          · subst hij; simp [Array.getD, hl, hin]
          · have h1 := hlist j (by omega)
            simp only [Array.getD, Array.size_setIfInBounds, hl, hj] at h1 ⊢
            rw [dif_pos trivial] at h1 ⊢
            have h3 : (listed.setIfInBounds i true)[j]'(by simp [hl, hj]) = listed[j]'(by omega) := Array.getElem_setIfInBounds_ne (by omega) hij
            exact h3.trans h1) h
        unfold wpOp
        rw [hoi]
        simp only
        split
        · rename_i hw
          rw [if_pos hw] at ht
          exact .inl (Oper.wp_mono next ht)
        · rename_i hw
          rw [if_neg hw] at ht
          exact next _ _ ht
      have hs := hstep i ops[i] hoi (by omega) a w hA hdeps
      have hcnt : ((List.range ops.size).filter fun k => !(listed.setIfInBounds i true).getD k true).length ≤ fuel := by
        have hlt := filter_lt (p := fun k => !listed.getD k true) (q := fun k => !(listed.setIfInBounds i true).getD k true) (List.range ops.size) (fun k hk hq => by
          simp only [Bool.not_eq_true'] at hq ⊢
          by_cases hki : i = k
          · subst hki; exact hil
          · have hk' := List.mem_range.1 hk
            simpa [Array.getD, hl, hk', Array.getElem_setIfInBounds_ne, hki] using hq) ⟨i, hir, by simp only [Bool.not_eq_true']; exact hil, by simp [Array.getD, hl, hin]⟩
        omega
      have next : ∀ (v : Value) (w' : World), Below w.heap.size w w' → Ps i v w' → wpAny P .any ops Q fuel (listed.setIfInBounds i true) (a.put ops[i].dst v) w' := fun v w' hb hp => by
        refine ih _ _ _ (by simp [hl]) ⟨hA.below.trans (hb.mono hA.below.size), by rw [Act.put_defers]; exact hA.defers, by rw [Act.put_size]; exact hA.size, fun s hs' => by rw [Act.put_other _ _ _ _ (hs' i _ hoi)]; exact hA.out s hs'⟩ (fun j hj d hd => ?_) (by
          simp only [Array.getD, Array.size_setIfInBounds] at hT ⊢
          split at hT
          · rename_i hlt
            rw [dif_pos hlt]
            have h3 : (listed.setIfInBounds i true)[n]'(by simpa using hlt) = listed[n] := Array.getElem_setIfInBounds_ne (by simpa using hlt) hin'
            exact h3.trans hT
          · rename_i hlt; omega) hcnt
        by_cases hij : i = j
        · subst hij
          rw [hoi] at hd
          have hd' : ops[i].dst = some d := by simpa using hd
          refine ⟨v, ?_, hp⟩
          rw [hd']
          exact Act.put_self a d v (by rw [hA.size]; exact hbnd i _ d hoi hd')
        · have hj' : listed.getD j false = true := by
            simp only [Array.getD, Array.size_setIfInBounds] at hj ⊢
            split at hj
            · rename_i hlt
              rw [dif_pos hlt]
              have h3 : (listed.setIfInBounds i true)[j]'(by simpa using hlt) = listed[j] := Array.getElem_setIfInBounds_ne (by simpa using hlt) hij
              exact h3.symm.trans hj
            · cases hj
          obtain ⟨u, hu, hpu⟩ := hF j hj' d hd
          cases hoj : ops[j]? with
          | none => rw [hoj] at hd; cases hd
          | some oj =>
            rw [hoj] at hd
            refine ⟨u, ?_, hst j u w w' hpu hb⟩
            rw [Act.put_other _ _ _ _ (fun e => hdst i j _ _ d hoi hoj hij e (by simpa using hd))]
            exact hu
      unfold wpOp
      rw [hoi]
      simp only
      split
      · rename_i hw
        rw [if_pos hw] at hs
        refine .inl (Oper.wp_mono ?_ hs)
        rintro a' w' ⟨v, rfl, hb, hp⟩
        exact next v w' hb hp
      · rename_i hw
        rw [if_neg hw] at hs
        exact next undef w (Below.refl _ _) hs

def factsOk (l : List Oper) (m : Nat) : Bool :=
  (List.range l.length).all fun i => match l[i]? with
    | none => true
    | some o => o.after.toList.all (fun e => !Region.binds .any e || decide (e.on < i)) && (match o.dst with
      | none => true
      | some d => decide (d < m) && (List.range l.length).all (fun j => j == i || (match l[j]? with | none => true | some oj => oj.dst != some d)))
theorem factsOk_at {l : List Oper} {m : Nat} (h : factsOk l m = true) {i : Nat} {o : Oper} (ho : l[i]? = some o) : (∀ e ∈ o.after.toList, Region.binds .any e = true → e.on < i) ∧ ∀ d, o.dst = some d → d < m ∧ ∀ j oj, l[j]? = some oj → j ≠ i → oj.dst ≠ some d := by
  have hi : i < l.length := (List.getElem?_eq_some_iff.1 ho).1
  unfold factsOk at h
  rw [List.all_eq_true] at h
  have h1 := h i (List.mem_range.2 hi)
  rw [ho] at h1
  simp only [Bool.and_eq_true, List.all_eq_true] at h1
  refine ⟨fun e he hbe => by have := h1.1 e he; rw [hbe] at this; simpa using this, fun d hd => ?_⟩
  have h2 := h1.2
  rw [hd] at h2
  simp only [Bool.and_eq_true, decide_eq_true_eq, List.all_eq_true] at h2
  refine ⟨h2.1, fun j oj hoj hji => ?_⟩
  have h3 := h2.2 j (List.mem_range.2 (List.getElem?_eq_some_iff.1 hoj).1)
  rw [hoj] at h3
  simp only [Bool.or_eq_true, beq_iff_eq, bne_iff_ne] at h3
  rcases h3 with h | h
  · exact absurd h hji
  · exact h

/-- The steps of a list of operations, from the k-th on. -/
def FactSteps (P : Program) (ops : Array Oper) (Q : Exit → Act → World → Prop) (Ps : Nat → Value → World → Prop) (a0 : Act) (w0 : World) : Nat → List Oper → Prop
  | _, [] => True
  | k, o :: r => FactStep P ops Q Ps a0 w0 k o ∧ FactSteps P ops Q Ps a0 w0 (k + 1) r
theorem FactSteps.at {ops : Array Oper} {Ps : Nat → Value → World → Prop} {a0 : Act} {w0 : World} : ∀ (l : List Oper) (k : Nat), FactSteps P ops Q Ps a0 w0 k l → ∀ i o, l[i]? = some o → FactStep P ops Q Ps a0 w0 (k + i) o
  | [], _, _, i, o, h => by simp at h
  | x :: r, k, h, 0, o, ho => by
    have : x = o := by simpa using ho
    subst this; exact h.1
  | x :: r, k, h, i + 1, o, ho => by
    have := FactSteps.at r (k + 1) h.2 i o (by simpa using ho)
    rw [show k + (i + 1) = k + 1 + i by omega]; exact this

theorem wp_region_facts {id : Nat} {l : List Oper} {a : Act} {w : World} (Ps : Nat → Value → World → Prop) (hm : P.follows .mixedOrders = true) (hok : factsOk l a.tmps.size = true)
    (hst : ∀ i v A B, Ps i v A → Below A.heap.size A B → Ps i v B)
    (hsteps : FactSteps P l.toArray Q Ps a w.drew 0 l)
    (hend : ∀ a' w', Around l.toArray a w.drew a' w' → (∀ j, Got l.toArray Ps a' w' j) → Q .normal a' w') : (Code.region id l.toArray true).wp P Q a w := by
  refine wp_region_any hm ?_
  have toL : ∀ (i : Nat) (o : Oper), l.toArray[i]? = some o → l[i]? = some o := fun i o h => by simpa using h
  refine wpAny_facts (fun i o ho e he hbe => (factsOk_at hok (toL i o ho)).1 e he hbe)
    (fun i j oi oj d hi hj hij hd => ((factsOk_at hok (toL i oi hi)).2 d hd).2 j oj (toL j oj hj) (Ne.symm hij))
    (fun i o d ho hd => ((factsOk_at hok (toL i o ho)).2 d hd).1) hst
    (fun i o ho => by have := FactSteps.at l 0 hsteps i o (toL i o ho); rwa [Nat.zero_add] at this) hend _ _ _ _ (by simp) ⟨Below.refl _ _, rfl, rfl, fun _ _ => rfl⟩ (fun j hj => ?_) ?_
  · simp [Array.getD] at hj
  · refine Nat.le_trans (List.length_filter_le _ _) (by simp)
theorem wp_region_factsT {id : Nat} {l : List Oper} {a : Act} {w : World} (n : Nat) (Ps : Nat → Value → World → Prop) (hm : P.follows .mixedOrders = true) (hok : factsOk l a.tmps.size = true)
    (hn : l.length = n + 1) (hall : (match l[n]? with | none => false | some o => (List.range n).all fun j => o.after.toList.any fun e => Region.binds .any e && e.on == j) = true)
    (hst : ∀ i v A B, Ps i v A → Below A.heap.size A B → Ps i v B)
    (hsteps : FactSteps P l.toArray Q Ps a w.drew 0 (l.take n))
    (htail : ∀ a' w' o, l[n]? = some o → Around l.toArray a w.drew a' w' → (∀ j, j < n → Got l.toArray Ps a' w' j) → if Region.wanted o (yielded l.toArray a'.tmps) = true then o.wp P a' w' (fun a' w' => Q .normal a' w') Q else Q .normal (a'.put o.dst undef) w') : (Code.region id l.toArray true).wp P Q a w := by
  refine wp_region_any hm ?_
  have toL : ∀ (i : Nat) (o : Oper), l.toArray[i]? = some o → l[i]? = some o := fun i o h => by simpa using h
  refine wpAny_factsT (n := n) (by simpa using hn) (fun j hj o ho => ?_) (fun i o ho e he hbe => (factsOk_at hok (toL i o ho)).1 e he hbe)
    (fun i j oi oj d hi hj hij hd => ((factsOk_at hok (toL i oi hi)).2 d hd).2 j oj (toL j oj hj) (Ne.symm hij))
    (fun i o d ho hd => ((factsOk_at hok (toL i o ho)).2 d hd).1) hst
    (fun i o ho hi => by
      have := FactSteps.at (l.take n) 0 hsteps i o (by rw [List.getElem?_take, if_pos hi]; exact toL i o ho)
      rwa [Nat.zero_add] at this) (fun a' w' o ho hA hG => htail a' w' o (toL n o ho) hA hG) _ _ _ _ (by simp) ⟨Below.refl _ _, rfl, rfl, fun _ _ => rfl⟩ (fun j hj => ?_) ?_ ?_
  · rw [toL n o ho] at hall
    have h1 := List.all_eq_true.1 hall j (List.mem_range.2 hj)
    rw [← Array.any_toList]; exact h1
  · simp [Array.getD] at hj
  · simp [Array.getD]
  · refine Nat.le_trans (List.length_filter_le _ _) (by simp)
end

end Go.Proofs.Ytollifednpjkeaa
