import Derived.Test.YtodaembemcljnaaSeedY
/-
  draws; SeedDraws' walk.
-/
namespace Go.Proofs.Ytodaembemcljnaa
open Go.RowKit
set_option linter.unusedVariables false

theorem rperm_no (key : Wd) (i n : Int) (h : n < 0 ∨ 1000 < n ∨ i < 0 ∨ 1099511627776 < i) (w : World) :
    Calls Try.prog 32 #[.int .u64 (key.toNat : Int), .int .i64 i, .int .i64 n] w fun e w' => e = .returned (.tuple #[.slice none 0 0, .int .i64 0, .int .i64 2]) ∧ w = w' := by
  by_cases h0 : i < 0
  · go_enter Try.func32, Try.ntmps32
    go_wp2_with fail
    go_ret3
    exact ⟨rfl, rfl⟩
  by_cases h1 : 1099511627776 < i
  · go_enter Try.func32, Try.ntmps32
    go_wp2_with fail
    go_ret3
    exact ⟨rfl, rfl⟩
  by_cases h2 : n < 0
  · go_enter Try.func32, Try.ntmps32
    go_wp2_with fail
    go_ret3
    exact ⟨rfl, rfl⟩
  have h3 : 1000 < n := by omega
  clear h
  go_enter Try.func32, Try.ntmps32
  go_wp2_with fail
  go_ret3
  exact ⟨rfl, rfl⟩
theorem rchoose_no (key : Wd) (i n k : Int) (h : n < 0 ∨ 1000 < n ∨ k < 0 ∨ n < k ∨ i < 0 ∨ 1099511627776 < i) (w : World) :
    Calls Try.prog 33 #[.int .u64 (key.toNat : Int), .int .i64 i, .int .i64 n, .int .i64 k] w fun e w' => e = .returned (.tuple #[.slice none 0 0, .int .i64 0, .int .i64 2]) ∧ w = w' := by
  by_cases h0 : i < 0
  · go_enter Try.func33, Try.ntmps33
    go_wp2_with fail
    go_ret3
    exact ⟨rfl, rfl⟩
  by_cases h1 : 1099511627776 < i
  · go_enter Try.func33, Try.ntmps33
    go_wp2_with fail
    go_ret3
    exact ⟨rfl, rfl⟩
  by_cases h2 : n < 0
  · go_enter Try.func33, Try.ntmps33
    go_wp2_with fail
    go_ret3
    exact ⟨rfl, rfl⟩
  by_cases h3 : 1000 < n
  · go_enter Try.func33, Try.ntmps33
    go_wp2_with fail
    go_ret3
    exact ⟨rfl, rfl⟩
  by_cases h4 : k < 0
  · go_enter Try.func33, Try.ntmps33
    go_wp2_with fail
    go_ret3
    exact ⟨rfl, rfl⟩
  have h5 : n < k := by omega
  clear h
  go_enter Try.func33, Try.ntmps33
  go_wp2_with fail
  go_ret3
  exact ⟨rfl, rfl⟩

/-- A slice, an index, an error. -/
def Hands (L : List Int) (at' er : Nat) (w : World) (e : Ending) (w' : World) : Prop := ∃ v, e = .returned (.tuple #[v, .int .i64 (at' : Int), .int .i64 (er : Int)]) ∧ SliceI w' v L ∧ Below w.heap.size w w'
theorem slice_nil (w : World) : SliceI w (.slice none 0 0) [] := ⟨none, 0, rfl, Nat.le_refl _, Nat.zero_le _, fun h => by simp at h⟩
theorem hands_of {B : Nat} {r : List Nat × Src} {w : World} {e : Ending} {w' : World} (h : ListMade B r w e w') : Hands (if r.2.2 = 0 then r.1.map Int.ofNat else []) (if r.2.2 = 0 then r.2.1 else 0) r.2.2 w e w' := by
  obtain ⟨⟨v, rfl, h1⟩, h2, h3⟩ := h
  unfold listV
  by_cases h0 : r.2.2 = 0
  · rw [if_pos h0, if_pos h0, if_pos h0]
    exact ⟨v, by rw [h0]; rfl, (h1 h0).slice, h3⟩
  · rw [if_neg h0, if_neg h0, if_neg h0]
    exact ⟨_, rfl, slice_nil _, h3⟩
theorem hands_no {w : World} {e : Ending} {w' : World} (h : e = .returned (.tuple #[.slice none 0 0, .int .i64 0, .int .i64 2]) ∧ Below w.heap.size w w') : Hands [] 0 2 w e w' := ⟨_, h.1, slice_nil _, h.2⟩

theorem below_both (key : Wd) (i n : Int) (hn : n ≤ 9223372036854775807) : ∃ a b c : Nat,
    (∀ w, Calls Try.prog 17 #[.agg #[.int .u64 (key.toNat : Int)], .int .i64 i, .int .i64 n] w fun e w' => e = .returned (.tuple #[.int .i64 (a : Int), .int .i64 (b : Int), .int .i64 (c : Int)]) ∧ Below w.heap.size w w') ∧
    (∀ w, Calls Try.prog 31 #[.int .u64 (key.toNat : Int), .int .i64 i, .int .i64 n] w fun e w' => e = .returned (.tuple #[.int .i64 (a : Int), .int .i64 (b : Int), .int .i64 (c : Int)]) ∧ w = w') := by
  by_cases h : n < 1 ∨ i < 0 ∨ 1099511627776 < i
  · exact ⟨0, 0, 2, fun w => Below_no key i n h w, fun w => rbelow_no key i n h w⟩
  · obtain ⟨j, rfl⟩ : ∃ j : Nat, i = (j : Int) := ⟨i.toNat, by omega⟩
    obtain ⟨m, rfl⟩ : ∃ j : Nat, n = (j : Int) := ⟨n.toNat, by omega⟩
    have H1 := fun w => Below_any key j m (by omega) (by omega) (by omega) w
    have H2 := fun w => rbelow_any key j m (by omega) (by omega) (by omega) w
    obtain ⟨R, hR⟩ : ∃ R, bel key m (1099511627776 - j) j = R := ⟨_, rfl⟩
    rw [hR] at H1 H2
    rcases R with _ | ⟨v, q⟩
    · exact ⟨0, 0, 4, H1, H2⟩
    · exact ⟨v, q, 0, H1, H2⟩
theorem perm_both (key : Wd) (i n : Int) : ∃ (L : List Int) (b c : Nat),
    (∀ w, Calls Try.prog 19 #[.agg #[.int .u64 (key.toNat : Int)], .int .i64 i, .int .i64 n] w (Hands L b c w)) ∧
    (∀ w, Calls Try.prog 32 #[.int .u64 (key.toNat : Int), .int .i64 i, .int .i64 n] w (Hands L b c w)) := by
  by_cases h : n < 0 ∨ 1000 < n ∨ i < 0 ∨ 1099511627776 < i
  · exact ⟨[], 0, 2, fun w => (Perm_no key i n h w).mono fun e w' h => hands_no h, fun w => (rperm_no key i n h w).mono fun e w' h => hands_no ⟨h.1, h.2 ▸ Below.refl _ _⟩⟩
  · obtain ⟨j, rfl⟩ : ∃ j : Nat, i = (j : Int) := ⟨i.toNat, by omega⟩
    obtain ⟨m, rfl⟩ : ∃ j : Nat, n = (j : Int) := ⟨n.toNat, by omega⟩
    exact ⟨_, _, _, fun w => (Perm_any key j m (by omega) (by omega) w).mono fun e w' h => hands_of h, fun w => (rperm_any key j m (by omega) (by omega) w).mono fun e w' h => hands_of h⟩
theorem choose_both (key : Wd) (i n k : Int) : ∃ (L : List Int) (b c : Nat),
    (∀ w, Calls Try.prog 22 #[.agg #[.int .u64 (key.toNat : Int)], .int .i64 i, .int .i64 n, .int .i64 k] w (Hands L b c w)) ∧
    (∀ w, Calls Try.prog 33 #[.int .u64 (key.toNat : Int), .int .i64 i, .int .i64 n, .int .i64 k] w (Hands L b c w)) := by
  by_cases h : n < 0 ∨ 1000 < n ∨ k < 0 ∨ n < k ∨ i < 0 ∨ 1099511627776 < i
  · exact ⟨[], 0, 2, fun w => (Choose_no key i n k h w).mono fun e w' h => hands_no h, fun w => (rchoose_no key i n k h w).mono fun e w' h => hands_no ⟨h.1, h.2 ▸ Below.refl _ _⟩⟩
  · obtain ⟨j, rfl⟩ : ∃ j : Nat, i = (j : Int) := ⟨i.toNat, by omega⟩
    obtain ⟨m, rfl⟩ : ∃ j : Nat, n = (j : Int) := ⟨n.toNat, by omega⟩
    obtain ⟨q, rfl⟩ : ∃ j : Nat, k = (j : Int) := ⟨k.toNat, by omega⟩
    exact ⟨_, _, _, fun w => (Choose_any key j m q (by omega) (by omega) (by omega) w).mono fun e w' h => hands_of h, fun w => (rchoose_any key j m q (by omega) (by omega) (by omega) w).mono fun e w' h => hands_of h⟩

set_option maxRecDepth 100000 in
theorem draws_any (x : Wd) (i n k : Int) (hn : n ≤ 9223372036854775807) (w : World) :
    Calls Try.prog 12 #[.int .u64 (x.toNat : Int), .int .i64 i, .int .i64 n, .int .i64 k] w fun e w' => e = .returned (.bool true) ∧ Below w.heap.size w w' := by
  obtain ⟨a1, b1, c1, hA1, hA2⟩ := below_both x i n hn
  obtain ⟨L2, b2, c2, hB1, hB2⟩ := perm_both x i n
  obtain ⟨L3, b3, c3, hC1, hC2⟩ := choose_both x i n k
  have A1 := Lib.hid hA1
  have A2 := Lib.hid hA2
  have B1 := Lib.hid hB1
  have B2 := Lib.hid hB2
  have C1 := Lib.hid hC1
  have C2 := Lib.hid hC2
  clear hA1 hA2 hB1 hB2 hC1 hC2
  have early : ∀ P : Prop, (200 < n ∧ n ≤ 1000) ∨ ¬ (200 < n ∧ n ≤ 1000) := fun _ => by omega
  go_enter Try.func12, Try.ntmps12
  go_wp2_with fail
  refine (A1.out _).mono ?_
  rintro e w1 ⟨rfl, hb1⟩
  have q1 : w1.cell? ⟨w.heap.size, 0, none⟩ = some (.int .u64 (x.toNat : Int)) := ((kept hb1).1 _ _ (by simp)).trans (by simp [go_sem])
  have l1 : w.heap.size < w1.heap.size := World.block_lt_of_cell? w1 _ q1
  have D1 : Below w.heap.size w w1 := ((Below.refl _ _).alloc (Nat.le_refl _) _).trans (hb1.mono (by simp))
  clear hb1 early
  go_wp2_with fail
  refine (A2.out _).mono ?_
  rintro e w2 ⟨rfl, rfl⟩
  by_cases hmid : 200 < n ∧ n ≤ 1000
  · obtain ⟨h1, h2⟩ := hmid
    go_wp2_with fail
    go_ret
    exact ⟨rfl, D1⟩
  · have hd : (decide (200 < n) && decide (n ≤ 1000)) = false := by
      rw [Bool.and_eq_false_iff]; simp; omega
    go_wp2_with fail
    all_goals
      refine (B1.out _).mono ?_
      rintro e w3 ⟨v3, rfl, hs3, hb3⟩
      have q3 := (hb3.cell (p := ⟨w.heap.size, 0, none⟩) l1).trans q1
      have l3 : w.heap.size < w3.heap.size := Nat.lt_of_lt_of_le l1 hb3.size
      have D3 := D1.trans (hb3.mono D1.size)
      have HS3 := Lib.hid hs3
      clear q1 hb3 hs3
      go_wp2_with fail
      refine (B2.out _).mono ?_
      rintro e w4 ⟨v4, rfl, hs4, hb4⟩
      have q4 := (hb4.cell (p := ⟨w.heap.size, 0, none⟩) l3).trans q3
      have l4 : w.heap.size < w4.heap.size := Nat.lt_of_lt_of_le l3 hb4.size
      have D4 := D3.trans (hb4.mono D3.size)
      have HS4 := Lib.hid hs4
      have HS34 := Lib.hid (HS3.out.below hb4)
      clear q3 hb4 hs4 D1 D3
      go_wp2_with fail
      refine (sameInts_any L2 L2 _ _ _ HS34.out HS4.out).mono ?_
      rintro e w5 ⟨rfl, hb5⟩
      have q5 := (hb5.cell (p := ⟨w.heap.size, 0, none⟩) l4).trans q4
      have l5 : w.heap.size < w5.heap.size := Nat.lt_of_lt_of_le l4 hb5.size
      have D5 := D4.trans (hb5.mono D4.size)
      clear q4 hb5 D4
      go_wp2_with fail
      refine (C1.out _).mono ?_
      rintro e w6 ⟨v6, rfl, hs6, hb6⟩
      have D6 := D5.trans (hb6.mono D5.size)
      have HS6 := Lib.hid hs6
      clear q5 hb6 hs6 D5
      go_wp2_with fail
      refine (C2.out _).mono ?_
      rintro e w7 ⟨v7, rfl, hs7, hb7⟩
      have D7 := D6.trans (hb7.mono D6.size)
      have HS7 := Lib.hid hs7
      have HS67 := Lib.hid (HS6.out.below hb7)
      clear hb7 hs7 D6
      go_wp2_with fail
      refine (sameInts_any L3 L3 _ _ _ HS67.out HS7.out).mono ?_
      rintro e w8 ⟨rfl, hb8⟩
      have D8 := D7.trans (hb8.mono D7.size)
      clear hb8 D7
      go_wp2_with fail
      go_ret
      exact ⟨rfl, D8⟩
theorem seedDraws_yes (a i n k : Int) (ha : (Lit.int .u64 a).wf = true) (hi : (Lit.int .i64 i).wf = true) (hn : (Lit.int .i64 n).wf = true) (hk : (Lit.int .i64 k).wf = true) (w : World) :
    Calls Try.prog 3 #[.int .u64 a, .int .i64 i, .int .i64 n, .int .i64 k] w fun e w' => e = .returned (.bool true) ∧ Below w.heap.size w w' := by
  obtain ⟨x, rfl⟩ := wd_of a ha
  have hn2 := (i64_of n hn).2
  go_enter Try.func3, Try.ntmps3
  go_wp2_with fail
  refine (draws_any x i n k hn2 _).mono ?_
  rintro e w1 ⟨rfl, hb1⟩
  go_wp2_with fail
  refine (awake_yes _).mono ?_
  rintro e w2 ⟨rfl, hb2⟩
  replace hb2 := hb1.trans (hb2.mono hb1.size)
  go_wp2_with fail
  go_ret
  exact ⟨rfl, hb2⟩
end Go.Proofs.Ytodaembemcljnaa
