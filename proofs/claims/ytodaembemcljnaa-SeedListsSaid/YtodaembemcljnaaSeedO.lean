import Derived.Test.YtodaembemcljnaaSeedN
/-
  awake.
-/
namespace Go.Proofs.Ytodaembemcljnaa
open Go.RowKit
set_option linter.unusedVariables false

theorem rest_a1 (w : World) : Calls Try.prog 15 #[.int .u64 18446744073709551609, .int .i64 10] w fun e w' => e = .returned (.tuple #[.int .i64 9, .bool true]) ∧ w = w' := by
  have h := rest_yes 18446744073709551609#64 10 (by omega) (by omega) (by decide +kernel) w
  have e1 : ((18446744073709551609#64).toNat : Int) = 18446744073709551609 := by decide +kernel
  have e2 : (((18446744073709551609#64).toNat % 10 : Nat) : Int) = 9 := by decide +kernel
  rw [e1, e2] at h
  exact h
theorem rest_a2 (w : World) : Calls Try.prog 15 #[.int .u64 18446744073709551610, .int .i64 10] w fun e w' => e = .returned (.tuple #[.int .i64 0, .bool false]) ∧ w = w' := by
  have h := rest_not 18446744073709551610#64 10 (by omega) (by omega) (by decide +kernel) w
  have e1 : ((18446744073709551610#64).toNat : Int) = 18446744073709551610 := by decide +kernel
  rw [e1] at h
  exact h
theorem rest_a3 (w : World) : Calls Try.prog 15 #[.int .u64 7, .int .i64 0] w fun e w' => e = .returned (.tuple #[.int .i64 0, .bool false]) ∧ w = w' := by
  have h := rest_no 7#64 0 (by omega) w
  have e1 : ((7#64).toNat : Int) = 7 := by decide +kernel
  rw [e1] at h
  exact h
theorem new_a (w : World) : Calls Try.prog 29 #[.int .u64 5] w fun e w' => ∃ K : Wd, e = .returned (.agg #[.int .u64 (K.toNat : Int)]) ∧ Below w.heap.size w w' := by
  have h := new_any 5#64 w
  have e1 : ((5#64).toNat : Int) = 5 := by decide +kernel
  rw [e1] at h
  exact h.mono fun e w' h => ⟨_, h⟩
theorem mix_a (w : World) : Calls Try.prog 28 #[.int .u64 5] w fun e w' => e = .returned (.int .u64 ((mix 5#64).toNat : Int)) ∧ Below w.heap.size w w' := by
  have h := mix_any 5#64 w
  have e1 : ((5#64).toNat : Int) = 5 := by decide +kernel
  rw [e1] at h
  exact h
theorem unmix_a (w : World) : Calls Try.prog 27 #[.int .u64 ((mix 5#64).toNat : Int)] w fun e w' => e = .returned (.int .u64 5) ∧ Below w.heap.size w w' := by
  have h := unmix_any (mix 5#64) w
  rw [unmix_mix] at h
  have e1 : ((5#64).toNat : Int) = 5 := by decide +kernel
  rw [e1] at h
  exact h
theorem perm_a (K : Wd) (w : World) : Calls Try.prog 19 #[.agg #[.int .u64 (K.toNat : Int)], .int .i64 3, .int .i64 1] w fun e w' => ∃ v, e = .returned (.tuple #[v, .int .i64 3, .int .i64 0]) ∧ SliceI w' v [0] ∧ Below w.heap.size w w' := by
  refine (Perm_any K 3 1 (by omega) (by omega) w).mono ?_
  rintro e w' ⟨⟨v, rfl, h1⟩, h2, h3⟩
  have e1 : permS K 1 3 = ([0], (3, 0)) := by simp [permS, permGo, List.range_succ]
  rw [e1] at h1 ⊢
  have := (h1 rfl).slice
  exact ⟨v, rfl, this, h3⟩
theorem choose_full (K : Wd) (n i : Nat) (h : i + n * n ≤ 1099511627776) : (chooseS K n n i).2.2 = 0 ∧ sortL (chooseS K n n i).1 = List.range n := by
  have e : n - n = 0 := Nat.sub_self n
  refine ⟨(chooseGo_ok K n n (n - n) [] (i, 0) rfl (by omega) h).1, ?_⟩
  have h1 := chooseGo_nodup K n (n - n) [] (i, 0) List.nodup_nil (by simp)
  have h2 : (chooseS K n n i).1.length = n := by unfold chooseS; rw [chooseGo_length]; simp
  exact sortL_all h1.1 (fun x hx => by have := h1.2 x hx; omega) h2
theorem choose_all (K : Wd) (n i : Nat) (hn : n ≤ 1000) (h : i + n * n ≤ 1099511627776) (w : World) : Calls Try.prog 22 #[.agg #[.int .u64 (K.toNat : Int)], .int .i64 (i : Int), .int .i64 (n : Int), .int .i64 (n : Int)] w fun e w' => ∃ v x, e = .returned (.tuple #[v, x, .int .i64 0]) ∧ SliceI w' v ((List.range n).map Int.ofNat) ∧ Below w.heap.size w w' := by
  obtain ⟨f1, f2⟩ := choose_full K n i h
  refine (Choose_any K i n n (by omega) hn (Nat.le_refl _) w).mono ?_
  rintro e w' ⟨⟨v, rfl, h1⟩, h2, h3⟩
  rw [f2] at h1 ⊢
  obtain ⟨r, hr⟩ : ∃ r, (chooseS K n n i).2 = r := ⟨_, rfl⟩
  rw [hr] at f1 h1 ⊢
  clear hr f2 h2
  have := (h1 f1).slice
  refine ⟨v, .int .i64 (r.1 : Int), ?_, this, h3⟩
  show Ending.returned (listV r v) = _
  unfold listV
  rw [if_pos f1]
theorem choose_a (K : Wd) (w : World) : Calls Try.prog 22 #[.agg #[.int .u64 (K.toNat : Int)], .int .i64 0, .int .i64 4, .int .i64 4] w fun e w' => ∃ v x, e = .returned (.tuple #[v, x, .int .i64 0]) ∧ SliceI w' v [0, 1, 2, 3] ∧ Below w.heap.size w w' :=
  choose_all K 4 0 (by omega) (by omega) w
theorem weigh_one (K : Wd) (i : Nat) (l : List Int) (v : Value) (w : World) (hv : SliceI w v l) (hl : l.length ≤ 1000) (hw : l.any wrongW = false) (S m : Nat) (hS : (nats l).sum = S) (h0 : 0 < S) (hi : i + S ≤ 1099511627776) (hm : ∀ t, t < S → weighGo (nats l) t = m) :
    Calls Try.prog 21 #[.agg #[.int .u64 (K.toNat : Int)], .int .i64 (i : Int), v] w fun e w' => ∃ x, e = .returned (.tuple #[.int .i64 (m : Int), x, .int .i64 0]) ∧ Below w.heap.size w w' := by
  refine (Weigh_any K i l v w hv hl hw).mono ?_
  rintro e w' ⟨rfl, h3⟩
  rw [if_pos ⟨by omega, by omega, by omega⟩]
  have ho := belS_ok (key := K) (n := S) h0 (i, 0) rfl hi
  have e0 : ((i : Nat) : Int).toNat = i := by omega
  unfold weighV
  rw [hS, e0]
  rcases hBB : bel K S (1099511627776 - i) i with _ | ⟨t, j⟩
  · rw [belS_none hBB] at ho; exact absurd ho.1 (by decide)
  · have ht := bel_lt h0 hBB
    exact ⟨.int .i64 (j : Int), by simp only [hm t ht], h3⟩
theorem weigh_a (K : Wd) (v : Value) (w : World) (hv : SliceI w v [0, 5, 0]) : Calls Try.prog 21 #[.agg #[.int .u64 (K.toNat : Int)], .int .i64 0, v] w fun e w' => ∃ x, e = .returned (.tuple #[.int .i64 1, x, .int .i64 0]) ∧ Below w.heap.size w w' :=
  weigh_one K 0 [0, 5, 0] v w hv (by simp) (by decide) 5 1 (by decide) (by omega) (by omega) (fun t ht => by
    show weighGo [0, 5, 0] t = 1
    simp [weighGo]; omega)
theorem below_end (K : Wd) (n : Nat) (hn : 1 ≤ n) (hm : n ≤ 1000) (w : World) : Calls Try.prog 17 #[.agg #[.int .u64 (K.toNat : Int)], .int .i64 1099511627776, .int .i64 (n : Int)] w fun e w' => e = .returned (.tuple #[.int .i64 0, .int .i64 0, .int .i64 4]) ∧ Below w.heap.size w w' := by
  have h := Below_any K 1099511627776 n (by omega) hn (by omega) w
  have e : bel K n (1099511627776 - 1099511627776) 1099511627776 = none := by rw [Nat.sub_self, bel]
  rw [e] at h
  exact h
theorem below_a (K : Wd) (w : World) : Calls Try.prog 17 #[.agg #[.int .u64 (K.toNat : Int)], .int .i64 1099511627776, .int .i64 6] w fun e w' => e = .returned (.tuple #[.int .i64 0, .int .i64 0, .int .i64 4]) ∧ Below w.heap.size w w' :=
  below_end K 6 (by omega) (by omega) w
end Go.Proofs.Ytodaembemcljnaa
