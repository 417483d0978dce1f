import Derived.Test.YtollifednpjkeaaApartA
/-
  Texts tell formulas apart: operators.
-/
namespace Go.Proofs.Ytollifednpjkeaa
open Go.RowKit

def Fm.tl (full : Bool) (f : Fm) : List UInt8 := (f.tx full).data.toList
/-- The text of a formula as a part: in brackets where it does not bind most strongly. -/
def Fm.un (full : Bool) (f : Fm) : List UInt8 := if f.str < 6 then 40 :: (f.tl full ++ [41]) else f.tl full
def UnOk (o : Int) (n : ByteArray) : Prop := ((o = 8 ∨ o = 9) ∧ isVar n = true) ∨ ((o = 3 ∨ o = 10 ∨ o = 11 ∨ o = 12 ∨ o = 13) ∧ n.data.toList = [])
def BinK (k : Nat) : Prop := k = 4 ∨ k = 5 ∨ k = 6 ∨ k = 7 ∨ k = 14
theorem isEmp_list (n : ByteArray) : isEmp n = n.data.toList.isEmpty := by unfold isEmp; rw [Lib.toList_data]
/-- The three kinds of right formulas. -/
theorem sh_view {f : Fm} (h : f.sh true = true) : (f.sub = [] ∧ ItemOk f.op f.name f.args) ∨ (∃ g, f.sub = [g] ∧ f.args = [] ∧ UnOk f.op f.name ∧ g.sh true = true) ∨
    (∃ l r, f.sub = [l, r] ∧ f.args = [] ∧ BinK f.op.toNat ∧ 0 ≤ f.op ∧ f.name.data.toList = [] ∧ l.sh true = true ∧ r.sh true = true) := by
  have hp := sh_parts h
  rw [f.sh_eq] at h
  obtain ⟨o, n, a, s⟩ := f
  simp only [Fm.op, Fm.name, Fm.args, Fm.sub] at h hp ⊢
  simp only [headOk, Bool.and_eq_true, decide_eq_true_eq] at h
  obtain ⟨⟨⟨h1, h2⟩, -, h4, h5, h6⟩, h7, -⟩ := h
  have hsub := hp.sub
  simp only [Fm.sub] at hsub
  clear hp
  have none : ∀ {n : ByteArray}, isEmp n = true → n.data.toList = [] := fun {n} h => by rw [isEmp_list] at h; simpa using h
  have anil : a.length ≤ 0 → a = [] := fun h => List.length_eq_zero_iff.1 (by omega)
  have one : s.length = 1 → ∃ g, s = [g] ∧ g.sh true = true := fun h => by
    obtain ⟨g, rfl⟩ := List.length_eq_one_iff.1 h
    exact ⟨g, rfl, hsub g (by simp)⟩
  have two : s.length = 2 → ∃ l r, s = [l, r] ∧ l.sh true = true ∧ r.sh true = true := fun h => by
    obtain ⟨l, r, rfl⟩ : ∃ l r, s = [l, r] := by match s, h with | [l, r], _ => exact ⟨l, r, rfl⟩
    exact ⟨l, r, rfl, hsub l (by simp), hsub r (by simp)⟩
  obtain ⟨k, rfl⟩ : ∃ k : Nat, o = k := ⟨o.toNat, by omega⟩
  rw [Int.toNat_natCast] at *
  obtain rfl | rfl | rfl | rfl | rfl | rfl | rfl | rfl | rfl | rfl | rfl | rfl | rfl | rfl | rfl | rfl : k = 1 ∨ k = 2 ∨ k = 3 ∨ k = 4 ∨ k = 5 ∨ k = 6 ∨ k = 7 ∨ k = 8 ∨ k = 9 ∨ k = 10 ∨ k = 11 ∨ k = 12 ∨ k = 13 ∨ k = 14 ∨ k = 15 ∨ k = 16 := by omega
  · exact Or.inl ⟨List.length_eq_zero_iff.1 h6, Or.inr (Or.inl ⟨rfl, h4, h7⟩)⟩
  · exact Or.inl ⟨List.length_eq_zero_iff.1 h6, Or.inl ⟨rfl, none h4, anil h5⟩⟩
  · obtain ⟨g, rfl, hg⟩ := one h6
    exact Or.inr (Or.inl ⟨g, rfl, anil h5, Or.inr ⟨by decide, none h4⟩, hg⟩)
  · obtain ⟨l, r, rfl, hl, hr⟩ := two h6
    exact Or.inr (Or.inr ⟨l, r, rfl, anil h5, by unfold BinK; decide, by decide, none h4, hl, hr⟩)
  · obtain ⟨l, r, rfl, hl, hr⟩ := two h6
    exact Or.inr (Or.inr ⟨l, r, rfl, anil h5, by unfold BinK; decide, by decide, none h4, hl, hr⟩)
  · obtain ⟨l, r, rfl, hl, hr⟩ := two h6
    exact Or.inr (Or.inr ⟨l, r, rfl, anil h5, by unfold BinK; decide, by decide, none h4, hl, hr⟩)
  · obtain ⟨l, r, rfl, hl, hr⟩ := two h6
    exact Or.inr (Or.inr ⟨l, r, rfl, anil h5, by unfold BinK; decide, by decide, none h4, hl, hr⟩)
  · obtain ⟨g, rfl, hg⟩ := one h6
    exact Or.inr (Or.inl ⟨g, rfl, anil h5, Or.inl ⟨by decide, h4⟩, hg⟩)
  · obtain ⟨g, rfl, hg⟩ := one h6
    exact Or.inr (Or.inl ⟨g, rfl, anil h5, Or.inl ⟨by decide, h4⟩, hg⟩)
  · obtain ⟨g, rfl, hg⟩ := one h6
    exact Or.inr (Or.inl ⟨g, rfl, anil h5, Or.inr ⟨by decide, none h4⟩, hg⟩)
  · obtain ⟨g, rfl, hg⟩ := one h6
    exact Or.inr (Or.inl ⟨g, rfl, anil h5, Or.inr ⟨by decide, none h4⟩, hg⟩)
  · obtain ⟨g, rfl, hg⟩ := one h6
    exact Or.inr (Or.inl ⟨g, rfl, anil h5, Or.inr ⟨by decide, none h4⟩, hg⟩)
  · obtain ⟨g, rfl, hg⟩ := one h6
    exact Or.inr (Or.inl ⟨g, rfl, anil h5, Or.inr ⟨by decide, none h4⟩, hg⟩)
  · obtain ⟨l, r, rfl, hl, hr⟩ := two h6
    exact Or.inr (Or.inr ⟨l, r, rfl, anil h5, by unfold BinK; decide, by decide, none h4, hl, hr⟩)
  · exact Or.inl ⟨List.length_eq_zero_iff.1 h6, Or.inr (Or.inr (Or.inl ⟨rfl, h4, anil h5⟩))⟩
  · exact Or.inl ⟨List.length_eq_zero_iff.1 h6, Or.inr (Or.inr (Or.inr ⟨rfl, h4, h7⟩))⟩

theorem str_nil {f : Fm} (h : f.sub = []) : f.str = 6 := by unfold Fm.str; rw [h]; rfl
theorem str_one {f g : Fm} (h : f.sub = [g]) (hu : UnOk f.op f.name) : f.str = 6 := by
  unfold Fm.str; rw [h]
  rcases hu with ⟨e | e, -⟩ | ⟨e | e | e | e | e, -⟩ <;> rw [e] <;> rfl
theorem str_two {f l r : Fm} (h : f.sub = [l, r]) : f.str = sgS f.op.toNat := by unfold Fm.str; rw [h]; rfl
theorem bin_str {k : Nat} (h : BinK k) : 1 ≤ sgS k ∧ sgS k ≤ 5 := by rcases h with rfl | rfl | rfl | rfl | rfl <;> decide
theorem bin_inj {k m : Nat} (h : BinK k) (h' : BinK m) (e : sgS k = sgS m) : k = m := by
  rcases h with rfl | rfl | rfl | rfl | rfl <;> rcases h' with rfl | rfl | rfl | rfl | rfl <;> first | rfl | (exact absurd e (by decide))
theorem str_le {f : Fm} (h : f.sh true = true) : f.str ≤ 6 := by
  rcases sh_view h with ⟨h1, -⟩ | ⟨g, h1, -, h2, -⟩ | ⟨l, r, h1, -, h2, -⟩
  · rw [str_nil h1]; decide
  · rw [str_one h1 h2]; decide
  · rw [str_two h1]; have := bin_str h2; omega

/-! ## What stands where -/
theorem bs_app (a b : ByteArray) : (a ++ b).data.toList = a.data.toList ++ b.data.toList := by simp
theorem tl_item (full : Bool) {f : Fm} (h : f.sub = []) (hi : ItemOk f.op f.name f.args) : f.tl full = itemW f.op f.name ++ itemT [32] f.op f.args := by
  unfold Fm.tl
  rw [f.tx_eq, h]
  exact simple_tl _ _ rfl hi
theorem tl_one (full : Bool) {f g : Fm} (h : f.sub = [g]) : f.tl full = (aheadTx f.op.toNat f.name).data.toList ++ g.un full := by
  unfold Fm.tl
  rw [f.tx_eq, h]
  simp only [fTxs, nodeTx, bs_app, Fm.un, Fm.tl, brTx, wrapTx]
  by_cases hs : g.str < 6
  · simp [hs]
  · simp [hs]
def bL (full : Bool) (k : Nat) (l : Fm) : Bool := needL k l.str || (full && decide (l.str < 6))
def bR (full : Bool) (k : Nat) (r : Fm) : Bool := needR k r.str || (full && decide (r.str < 6))
def side (full b : Bool) (l : Fm) : List UInt8 := bif b then l.un full else l.tl full
theorem need_lt {k : Nat} (hk : BinK k) {s : Int} : (needL k s = true → s < 6) ∧ (needR k s = true → s < 6) := by
  have := bin_str hk
  unfold needL needR
  constructor <;> intro h <;> simp only [Bool.or_eq_true, Bool.and_eq_true, decide_eq_true_eq, beq_iff_eq] at h <;> omega
theorem br_side (full needed : Bool) (l : Fm) (h : needed = true → l.str < 6) : (brTx full needed (l.tx full, l.str)).data.toList = side full (needed || (full && decide (l.str < 6))) l := by
  unfold brTx side wrapTx Fm.un
  cases hb : needed || (full && decide (l.str < 6))
  · rfl
  · have : l.str < 6 := by
      cases hn : needed
      · rw [hn] at hb; simp only [Bool.false_or, Bool.and_eq_true, decide_eq_true_eq] at hb; exact hb.2
      · exact h hn
    rw [if_pos this]
    simp [Fm.tl]
theorem tl_two (full : Bool) {f l r : Fm} (h : f.sub = [l, r]) (hk : BinK f.op.toNat) : f.tl full = side full (bL full f.op.toNat l) l ++ 32 :: ((sgT f.op.toNat).data.toList ++ 32 :: side full (bR full f.op.toNat r) r) := by
  have h1 := br_side full (needL f.op.toNat l.str) l (need_lt hk).1
  have h2 := br_side full (needR f.op.toNat r.str) r (need_lt hk).2
  unfold Fm.tl
  rw [f.tx_eq, h]
  simp only [fTxs, nodeTx, bs_app, h1, h2, bL, bR]
  simp

/-! ## A chain of operators -/
def pickF (b : Bool) (l : Fm) (fl : Fm × List (Nat × Fm)) : Fm × List (Nat × Fm) := bif b then (l, []) else fl
def nodeFl (full : Bool) (f : Fm) (k : Nat) : List (Fm × (Fm × List (Nat × Fm))) → Fm × List (Nat × Fm)
  | [(l, a), (r, b)] => ((pickF (bL full k l) l a).1, (pickF (bL full k l) l a).2 ++ (k, (pickF (bR full k r) r b).1) :: (pickF (bR full k r) r b).2)
  | _ => (f, [])
mutual
/-- The parts of a formula from left to right, each with the operator ahead of it. -/
def Fm.flat (full : Bool) : Fm → Fm × List (Nat × Fm)
  | .mk o n a s => nodeFl full (.mk o n a s) o.toNat (flats full s)
def flats (full : Bool) : List Fm → List (Fm × (Fm × List (Nat × Fm)))
  | [] => []
  | f :: r => (f, f.flat full) :: flats full r
end
theorem Fm.flat_eq (full : Bool) (f : Fm) : f.flat full = nodeFl full f f.op.toNat (flats full f.sub) := by cases f; simp only [Fm.flat, Fm.op, Fm.sub]
theorem flat_nil (full : Bool) {f : Fm} (h : f.sub = []) : f.flat full = (f, []) := by rw [f.flat_eq, h]; rfl
theorem flat_one (full : Bool) {f g : Fm} (h : f.sub = [g]) : f.flat full = (f, []) := by rw [f.flat_eq, h]; rfl
theorem flat_two (full : Bool) {f l r : Fm} (h : f.sub = [l, r]) : f.flat full = ((pickF (bL full f.op.toNat l) l (l.flat full)).1, (pickF (bL full f.op.toNat l) l (l.flat full)).2 ++ (f.op.toNat, (pickF (bR full f.op.toNat r) r (r.flat full)).1) :: (pickF (bR full f.op.toNat r) r (r.flat full)).2) := by
  rw [f.flat_eq, h]; rfl
def seqR (full : Bool) : List (Nat × Fm) → List UInt8
  | [] => []
  | (k, h) :: r => 32 :: ((sgT k).data.toList ++ 32 :: (h.un full ++ seqR full r))
theorem seqR_append (full : Bool) (a b : List (Nat × Fm)) : seqR full (a ++ b) = seqR full a ++ seqR full b := by
  induction a with
  | nil => rfl
  | cons x r ih => obtain ⟨k, h⟩ := x; simp only [List.cons_append, seqR, ih, List.append_assoc]
theorem wt_sub {f g : Fm} (h : g ∈ f.sub) : g.wt < f.wt := by have := wfs_mem h; rw [f.wt_eq]; omega

/-- What a chain holds. -/
structure FlatP (full : Bool) (f : Fm) : Prop where
  text : f.tl full = (f.flat full).1.un full ++ seqR full (f.flat full).2
  head : (f.flat full).1.sh true = true ∧ (f.flat full).1.wt ≤ f.wt ∧ ((f.flat full).1.str < 6 → (f.flat full).1.wt < f.wt)
  rest : ∀ p ∈ (f.flat full).2, BinK p.1 ∧ f.str ≤ sgS p.1 ∧ p.2.sh true = true ∧ p.2.wt ≤ f.wt ∧ (p.2.str < 6 → p.2.wt < f.wt)
  nil : (f.flat full).2 = [] → f.flat full = (f, [])
/-- .. and a side of it. -/
structure SideP (full : Bool) (b : Bool) (l : Fm) (N : Nat) : Prop where
  text : side full b l = (pickF b l (l.flat full)).1.un full ++ seqR full (pickF b l (l.flat full)).2
  head : (pickF b l (l.flat full)).1.sh true = true ∧ (pickF b l (l.flat full)).1.wt < N
  rest : ∀ p ∈ (pickF b l (l.flat full)).2, b = false ∧ BinK p.1 ∧ l.str ≤ sgS p.1 ∧ p.2.sh true = true ∧ p.2.wt < N
theorem side_of {full b : Bool} {l : Fm} {N : Nat} (hs : l.sh true = true) (h : FlatP full l) (hN : l.wt < N) : SideP full b l N := by
  cases b
  · refine ⟨h.text, ⟨h.head.1, ?_⟩, fun p hp => ⟨rfl, ?_⟩⟩
    · have := h.head.2.1; show (l.flat full).1.wt < N; omega
    · have := h.rest p hp; exact ⟨this.1, this.2.1, this.2.2.1, by omega⟩
  · exact ⟨by simp [side, pickF, seqR], ⟨hs, hN⟩, fun p hp => by cases hp⟩
theorem flat_all (full : Bool) : ∀ (N : Nat) (f : Fm), f.wt ≤ N → f.sh true = true → FlatP full f
  | 0, f, h, _ => by have := f.wt_pos; omega
  | N + 1, f, hN, h => by
    rcases sh_view h with ⟨h1, h2⟩ | ⟨g, h1, -, h2, -⟩ | ⟨l, r, h1, -, h2, -, -, hl, hr⟩
    · have e := flat_nil full h1
      have hs := str_nil h1
      refine ⟨?_, ?_, ?_, fun _ => e⟩ <;> rw [e]
      · show f.tl full = f.un full ++ []
        unfold Fm.un; rw [if_neg (by omega)]; simp
      · exact ⟨h, Nat.le_refl _, fun hx => by simp only at hx; omega⟩
      · intro p hp; cases hp
    · have e := flat_one full h1
      have hs := str_one h1 h2
      refine ⟨?_, ?_, ?_, fun _ => e⟩ <;> rw [e]
      · show f.tl full = f.un full ++ []
        unfold Fm.un; rw [if_neg (by omega)]; simp
      · exact ⟨h, Nat.le_refl _, fun hx => by simp only at hx; omega⟩
      · intro p hp; cases hp
    · have wl : l.wt < f.wt := wt_sub (by rw [h1]; simp)
      have wr : r.wt < f.wt := wt_sub (by rw [h1]; simp)
      have sl : SideP full (bL full f.op.toNat l) l f.wt := side_of hl (flat_all full N l (by omega) hl) wl
      have sr : SideP full (bR full f.op.toNat r) r f.wt := side_of hr (flat_all full N r (by omega) hr) wr
      have e := flat_two full h1
      have hs := str_two h1
      have nl : bL full f.op.toNat l = false → sgS f.op.toNat ≤ l.str := fun hb => by
        simp only [bL, needL, Bool.or_eq_false_iff, decide_eq_false_iff_not] at hb; omega
      have nr : bR full f.op.toNat r = false → sgS f.op.toNat ≤ r.str := fun hb => by
        simp only [bR, needR, Bool.or_eq_false_iff, decide_eq_false_iff_not] at hb; omega
      refine ⟨?_, ?_, ?_, fun hx => ?_⟩ <;> (try rw [e])
      · rw [tl_two full h1 h2, sl.text, sr.text, seqR_append]
        simp only [seqR, List.append_assoc]
      · exact ⟨sl.head.1, Nat.le_of_lt sl.head.2, fun _ => sl.head.2⟩
      · intro p hp
        rw [hs]
        rcases List.mem_append.1 hp with hp | hp
        · obtain ⟨hb, x1, x2, x3, x4⟩ := sl.rest p hp
          exact ⟨x1, Int.le_trans (nl hb) x2, x3, Nat.le_of_lt x4, fun _ => x4⟩
        · rcases List.mem_cons.1 hp with rfl | hp
          · exact ⟨h2, Int.le_refl _, sr.head.1, Nat.le_of_lt sr.head.2, fun _ => sr.head.2⟩
          · obtain ⟨hb, x1, x2, x3, x4⟩ := sr.rest p hp
            exact ⟨x1, Int.le_trans (nr hb) x2, x3, Nat.le_of_lt x4, fun _ => x4⟩
      · rw [e] at hx; simp at hx
theorem flatP (full : Bool) {f : Fm} (h : f.sh true = true) : FlatP full f := flat_all full _ f (Nat.le_refl _) h

/-- A chain has one operator that binds all of it. -/
theorem split_eq {A B A' B' : List (Nat × Fm)} {k k' : Nat} {x x' : Fm}
    (hA : ∀ p ∈ A, sgS k < sgS p.1 ∨ (sgS p.1 = sgS k ∧ sgR k = false)) (hB : ∀ p ∈ B, sgS k < sgS p.1 ∨ (sgS p.1 = sgS k ∧ sgR k = true))
    (hA' : ∀ p ∈ A', sgS k' < sgS p.1 ∨ (sgS p.1 = sgS k' ∧ sgR k' = false)) (hB' : ∀ p ∈ B', sgS k' < sgS p.1 ∨ (sgS p.1 = sgS k' ∧ sgR k' = true))
    (hk : BinK k) (hk' : BinK k') (h : A ++ (k, x) :: B = A' ++ (k', x') :: B') : A = A' ∧ k = k' ∧ x = x' ∧ B = B' := by
  rcases List.append_eq_append_iff.1 h with ⟨zs, rfl, e⟩ | ⟨zs, rfl, e⟩
  · cases zs with
    | nil =>
      simp only [List.nil_append, List.cons.injEq, Prod.mk.injEq] at e
      exact ⟨by simp, e.1.1, e.1.2, e.2⟩
    | cons y r =>
      simp only [List.cons_append, List.cons.injEq] at e
      obtain ⟨rfl, rfl⟩ := e
      have h1 := hA' (k, x) (by simp)
      have h2 := hB (k', x') (by simp)
      simp only at h1 h2
      have h3 : sgS k = sgS k' := by omega
      obtain rfl := bin_inj hk hk' h3
      rcases h1 with h1 | h1
      · omega
      · rcases h2 with h2 | h2
        · omega
        · rw [h1.2] at h2; cases h2.2
  · cases zs with
    | nil =>
      simp only [List.nil_append, List.cons.injEq, Prod.mk.injEq] at e
      exact ⟨by simp, e.1.1.symm, e.1.2.symm, e.2.symm⟩
    | cons y r =>
      simp only [List.cons_append, List.cons.injEq] at e
      obtain ⟨rfl, rfl⟩ := e
      have h1 := hA (k', x') (by simp)
      have h2 := hB' (k, x) (by simp)
      simp only at h1 h2
      have h3 : sgS k = sgS k' := by omega
      obtain rfl := bin_inj hk hk' h3
      rcases h1 with h1 | h1
      · omega
      · rcases h2 with h2 | h2
        · omega
        · rw [h1.2] at h2; cases h2.2
theorem pick_inj {full b b' : Bool} {l l' : Fm} (hl : l.sh true = true) (hl' : l'.sh true = true) (ih : l.flat full = l'.flat full → l = l') (h : pickF b l (l.flat full) = pickF b' l' (l'.flat full)) : l = l' := by
  cases b <;> cases b'
  · exact ih h
  · have e : l.flat full = (l', []) := h
    have := (flatP full hl).nil (by rw [e])
    rw [this] at e
    exact (Prod.mk.inj e).1
  · have e : (l, []) = l'.flat full := h
    have := (flatP full hl').nil (by rw [← e])
    rw [this] at e
    exact (Prod.mk.inj e).1
  · exact (Prod.mk.inj (show (l, []) = (l', []) from h)).1
theorem left_min {full : Bool} {f l : Fm} (hl : l.sh true = true) : ∀ p ∈ (pickF (bL full f.op.toNat l) l (l.flat full)).2, sgS f.op.toNat < sgS p.1 ∨ (sgS p.1 = sgS f.op.toNat ∧ sgR f.op.toNat = false) := by
  intro p hp
  obtain ⟨hb, -, h2, -, -⟩ := (side_of (b := bL full f.op.toNat l) hl (flatP full hl) (Nat.lt_succ_self _)).rest p hp
  simp only [bL, needL, Bool.or_eq_false_iff, decide_eq_false_iff_not] at hb
  by_cases h3 : sgS p.1 = sgS f.op.toNat
  · refine Or.inr ⟨h3, ?_⟩
    have h4 : l.str = sgS f.op.toNat := by omega
    have h5 := hb.1.2
    rw [h4] at h5
    simpa using h5
  · exact Or.inl (by omega)
theorem right_min {full : Bool} {f r : Fm} (hr : r.sh true = true) : ∀ p ∈ (pickF (bR full f.op.toNat r) r (r.flat full)).2, sgS f.op.toNat < sgS p.1 ∨ (sgS p.1 = sgS f.op.toNat ∧ sgR f.op.toNat = true) := by
  intro p hp
  obtain ⟨hb, -, h2, -, -⟩ := (side_of (b := bR full f.op.toNat r) hr (flatP full hr) (Nat.lt_succ_self _)).rest p hp
  simp only [bR, needR, Bool.or_eq_false_iff, decide_eq_false_iff_not] at hb
  by_cases h3 : sgS p.1 = sgS f.op.toNat
  · refine Or.inr ⟨h3, ?_⟩
    have h4 : r.str = sgS f.op.toNat := by omega
    have h5 := hb.1.2
    rw [h4] at h5
    simpa using h5
  · exact Or.inl (by omega)
theorem flat_inj (full : Bool) : ∀ (N : Nat) (f g : Fm), f.wt ≤ N → f.sh true = true → g.sh true = true → f.flat full = g.flat full → f = g
  | 0, f, _, h, _, _, _ => by have := f.wt_pos; omega
  | N + 1, f, g, hN, hf, hg, h => by
    have one : ∀ {f : Fm}, f.flat full = (f, []) → f.flat full = g.flat full → g.sh true = true → f = g := fun {f} e h hg => by
      rw [e] at h
      have := (flatP full hg).nil (by rw [← h])
      rw [this] at h
      exact (Prod.mk.inj h).1
    rcases sh_view hf with ⟨h1, -⟩ | ⟨_, h1, -⟩ | ⟨l, r, h1, a1, k1, p1, n1, hl, hr⟩
    · exact one (flat_nil full h1) h hg
    · exact one (flat_one full h1) h hg
    · rcases sh_view hg with ⟨g1, -⟩ | ⟨_, g1, -⟩ | ⟨l', r', g1, a2, k2, p2, n2, hl', hr'⟩
      · have e := flat_nil full g1
        rw [e] at h
        have := (flatP full hf).nil (by rw [h])
        rw [this] at h
        exact (Prod.mk.inj h).1
      · have e := flat_one full g1
        rw [e] at h
        have := (flatP full hf).nil (by rw [h])
        rw [this] at h
        exact (Prod.mk.inj h).1
      · rw [flat_two full h1, flat_two full g1] at h
        obtain ⟨e1, e2⟩ := Prod.mk.inj h
        obtain ⟨e3, e4, e5, e6⟩ := split_eq (left_min hl) (right_min hr) (left_min hl') (right_min hr') k1 k2 e2
        have wl : l.wt < f.wt := wt_sub (by rw [h1]; simp)
        have wr : r.wt < f.wt := wt_sub (by rw [h1]; simp)
        have q1 := pick_inj hl hl' (flat_inj full N l l' (by omega) hl hl') (Prod.ext e1 e3)
        have q2 := pick_inj hr hr' (flat_inj full N r r' (by omega) hr hr') (Prod.ext e5 e6)
        exact Fm.ext' (by omega) (bs_ext (n1.trans n2.symm)) (a1.trans a2.symm) (by rw [h1, g1, q1, q2])

end Go.Proofs.Ytollifednpjkeaa
