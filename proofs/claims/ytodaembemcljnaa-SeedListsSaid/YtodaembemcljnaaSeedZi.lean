import Derived.Test.YtodaembemcljnaaSeedZh
/-
  SeedLists: plain laws, and slices of bytes.
-/
namespace Go.Proofs.Ytodaembemcljnaa
open Go.RowKit
set_option linter.unusedVariables false

/-- How often each number below n is in a list. -/
def cnt (n : Nat) (l : List Nat) : List Nat := (List.range n).map (fun j => l.count j)
theorem cnt_length (n : Nat) (l : List Nat) : (cnt n l).length = n := by simp [cnt]
theorem cnt_get (n : Nat) (l : List Nat) (j : Nat) (h : j < (cnt n l).length) : (cnt n l)[j] = l.count j := by simp [cnt]
theorem cnt_nil (n : Nat) : cnt n [] = List.replicate n 0 := by
  apply List.ext_getElem
  · simp [cnt]
  · intro j h1 h2; simp [cnt]
theorem cnt_app (n : Nat) (l : List Nat) (y : Nat) (hy : y < n) : cnt n (l ++ [y]) = (cnt n l).set y (l.count y + 1) := by
  apply List.ext_getElem
  · simp [cnt]
  · intro j h1 h2
    rw [cnt_get, List.getElem_set]
    split
    · rename_i e; subst e; simp [List.count_append]
    · rename_i e
      rw [cnt_get, List.count_append, List.count_singleton]
      rw [if_neg (by simpa using e)]; rfl
theorem cnt_perm {n : Nat} {l : List Nat} (h : l.Perm (List.range n)) : cnt n l = List.replicate n 1 := by
  apply List.ext_getElem
  · simp [cnt]
  · intro j h1 h2
    rw [cnt_get, h.count_eq, List.getElem_replicate]
    have hj : j < n := by simpa [cnt] using h1
    rw [List.nodup_range.count, if_pos (List.mem_range.2 hj)]
theorem count_le (l : List Nat) (y : Nat) : l.count y ≤ l.length := List.count_le_length

/-- A slice of bytes. -/
structure SliceU (w : World) (v : Value) (l : List Nat) : Prop where
  at' : ∃ a cap, v = .slice a l.length cap ∧ l.length ≤ cap ∧ cap ≤ maxLen ∧ (0 < l.length → ∃ b off, a = some ⟨b, off, none⟩ ∧ b < w.heap.size ∧ ∀ j (hj : j < l.length), w.cell? ⟨b, off + j, none⟩ = some (.int .u8 (l[j] : Int)))
  le : ∀ x ∈ l, x ≤ 255
theorem SliceU.below {w w' : World} {v : Value} {l : List Nat} (h : SliceU w v l) (hb : Below w.heap.size w w') : SliceU w' v l := by
  obtain ⟨a, cap, h1, h2, h3, h4⟩ := h.at'
  refine ⟨⟨a, cap, h1, h2, h3, fun hl => ?_⟩, h.le⟩
  obtain ⟨b, off, h5, h6, h7⟩ := h4 hl
  exact ⟨b, off, h5, Nat.lt_of_lt_of_le h6 hb.size, fun j hj => (hb.cell (p := ⟨b, off + j, none⟩) h6).trans (h7 j hj)⟩

theorem sum_le255 (l : List Nat) (h : ∀ x ∈ l, x ≤ 255) : l.sum ≤ 255 * l.length := by
  induction l with
  | nil => simp
  | cons a l ih =>
    have h1 := h a (by simp)
    have h2 := ih (fun x hx => h x (by simp [hx]))
    simp only [List.sum_cons, List.length_cons]; omega
theorem nats_of (l : List Nat) : nats (l.map Int.ofNat) = l := by
  unfold nats
  rw [List.map_map]
  conv => rhs; rw [← List.map_id l]
  exact List.map_congr_left (fun x _ => rfl)
theorem wrong_of (l : List Nat) (h : ∀ x ∈ l, x ≤ 255) : (l.map Int.ofNat).any wrongW = false := by
  rw [List.any_eq_false]
  intro z hz
  obtain ⟨x, hx, rfl⟩ := List.mem_map.1 hz
  have := h x hx
  simp [wrongW]
  omega

/-- What Weigh returns for bytes: wrong where the sum is zero. -/
theorem lists_zero (x : Wd) (i : Nat) (l : List Nat) (hl : l.length ≤ 100) (hle : ∀ y ∈ l, y ≤ 255) (hs : l.sum = 0) (w : World) (v : Value) (hv : SliceI w v (l.map Int.ofNat)) :
    Calls Try.prog 21 #[.agg #[.int .u64 (x.toNat : Int)], .int .i64 (i : Int), v] w fun e w' => e = .returned (.tuple #[.int .i64 0, .int .i64 0, .int .i64 2]) ∧ Below w.heap.size w w' := by
  have := Weigh_any x i (l.map Int.ofNat) v w hv (by simp; omega) (wrong_of l hle)
  rw [nats_of, if_neg (by rw [hs]; omega)] at this
  exact this
theorem lists_some (x : Wd) (i : Nat) (hi : i < 549755813888) (l : List Nat) (hl : l.length ≤ 100) (hle : ∀ y ∈ l, y ≤ 255) (hs : 0 < l.sum) :
    ∃ (o j : Nat) (ho : o < l.length), i < j ∧ 0 < l[o] ∧ ∀ (w : World) (v : Value) (hv : SliceI w v (l.map Int.ofNat)),
      Calls Try.prog 21 #[.agg #[.int .u64 (x.toNat : Int)], .int .i64 (i : Int), v] w fun e w' => e = .returned (.tuple #[.int .i64 (o : Int), .int .i64 (j : Int), .int .i64 0]) ∧ Below w.heap.size w w' := by
  have hsl := sum_le255 l hle
  obtain ⟨R, hR⟩ : ∃ R, bel x l.sum (1099511627776 - i) i = R := ⟨_, rfl⟩
  rcases R with _ | ⟨t, j⟩
  · have := bel_full (by omega) (by omega) hR
    omega
  · have ht := bel_lt (by omega) hR
    obtain ⟨h1, h2⟩ := weighGo_lt l t ht
    refine ⟨weighGo l t, j, h1, (bel_some hR).1, by rw [List.getD_eq_getElem?_getD, List.getElem?_eq_getElem h1] at h2; exact h2, fun w v hv => ?_⟩
    have := Weigh_any x i (l.map Int.ofNat) v w hv (by simp; omega) (wrong_of l hle)
    rw [nats_of, if_pos (by omega)] at this
    unfold weighV at this
    rw [nats_of, Int.toNat_natCast, hR] at this
    exact this
/-- Perm below n. -/
theorem lists_perm (x : Wd) (i n : Nat) (hi : i < 549755813888) (hn : n ≤ 100) : ∃ (L : List Nat) (a : Nat), L.Perm (List.range n) ∧ i + (n - 1) ≤ a ∧ a ≤ 1099511627776 ∧ ∀ w, Calls Try.prog 19 #[.agg #[.int .u64 (x.toNat : Int)], .int .i64 (i : Int), .int .i64 (n : Int)] w fun e w' => ∃ v, e = .returned (.tuple #[v, .int .i64 (a : Int), .int .i64 0]) ∧ OwnI w.heap.size w' v L ∧ Below w.heap.size w w' := by
  have hp := permGo_perm x (n - 1) (List.range n) (i, 0) (by simp; omega)
  have hm : (n - 1) * (n - 1 + 1) ≤ 100 * 100 := Nat.mul_le_mul (by omega) (by omega)
  obtain ⟨h1, h2⟩ := permGo_ok x (n - 1) (List.range n) (i, 0) rfl (by simp; omega)
  have h3 := (permGo_at x (n - 1) (List.range n) (i, 0) (by simp; omega)).2
  refine ⟨_, _, hp, h2, h3, fun w => (Perm_any x i n (by omega) (by omega) w).mono ?_⟩
  rintro e w' ⟨⟨v, rfl, ho⟩, -, hb⟩
  refine ⟨v, ?_, ho h1, hb⟩
  unfold listV
  rw [if_pos (show (permS x n i).2.2 = 0 from h1)]
  rfl
theorem lists_choose (x : Wd) (i n k : Nat) (hi : i < 549755813888) (hn : n ≤ 100) (hk : k ≤ n) : ∃ (L : List Nat) (a : Nat), L.length = k ∧ L.Pairwise (· < ·) ∧ (∀ y ∈ L, y < n) ∧ (k = n → L = List.range n) ∧ i + k ≤ a ∧ a ≤ 1099511627776 ∧ ∀ w, Calls Try.prog 22 #[.agg #[.int .u64 (x.toNat : Int)], .int .i64 (i : Int), .int .i64 (n : Int), .int .i64 (k : Int)] w fun e w' => ∃ v, e = .returned (.tuple #[v, .int .i64 (a : Int), .int .i64 0]) ∧ OwnI w.heap.size w' v L ∧ Below w.heap.size w w' := by
  have hlen : (chooseGo x k (n - k) [] (i, 0)).1.length = k := by rw [chooseGo_length]; simp
  obtain ⟨hnd, hlt⟩ := chooseGo_nodup x k (n - k) [] (i, 0) List.nodup_nil (by simp)
  rw [show n - k + k = n by omega] at hlt
  have hm : k * 100 ≤ 100 * 100 := Nat.mul_le_mul (by omega) (by omega)
  obtain ⟨h1, h2⟩ := chooseGo_ok x 100 k (n - k) [] (i, 0) rfl (by omega) (by simp; omega)
  have h3 := (chooseGo_at x k (n - k) [] (i, 0) (by simp; omega)).2
  refine ⟨sortL (chooseGo x k (n - k) [] (i, 0)).1, _, by rw [(sortL_perm _).length_eq]; exact hlen, sortL_lt hnd, fun y hy => hlt y ((sortL_perm _).mem_iff.1 hy), fun e => sortL_all hnd hlt (by rw [hlen, e]), h2, h3, fun w => (Choose_any x i n k (by omega) (by omega) hk w).mono ?_⟩
  rintro e w' ⟨⟨v, rfl, ho⟩, -, hb⟩
  refine ⟨v, ?_, ho h1, hb⟩
  unfold listV
  rw [if_pos (show (chooseS x n k i).2.2 = 0 from h1)]
  rfl
end Go.Proofs.Ytodaembemcljnaa
