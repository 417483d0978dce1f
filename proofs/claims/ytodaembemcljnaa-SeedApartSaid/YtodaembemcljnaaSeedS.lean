import Derived.Test.YtodaembemcljnaaSeedR
/-
  SeedFair's walk.
-/
namespace Go.Proofs.Ytodaembemcljnaa
open Go.RowKit
set_option linter.unusedVariables false

theorem mod_succ_eq (x n : Nat) (hn : 1 ≤ n) : ((x + 1) % n = 0 ∧ x % n = n - 1) ∨ ((x + 1) % n = x % n + 1 ∧ x % n + 1 < n) := by
  have h1 := Nat.div_add_mod x n
  have h2 := Nat.mod_lt x (y := n) (by omega)
  by_cases h : x % n = n - 1
  · left
    refine ⟨?_, h⟩
    have : x + 1 = n * (x / n + 1) := by rw [Nat.mul_add]; omega
    rw [this, Nat.mul_mod_right]
  · right
    refine ⟨?_, by omega⟩
    have : x + 1 = n * (x / n) + (x % n + 1) := by omega
    rw [this, Nat.mul_add_mod, Nat.mod_eq_of_lt (by omega)]
theorem acc_zero (n : Nat) (hn : 1 ≤ n) (hm : n ≤ 9223372036854775807) : acc n 0#64 = true := by
  rw [acc_iff hn]
  have := Nat.mod_lt 18446744073709551616 (y := n) (by omega)
  simp; omega
theorem acc_top {n : Nat} (hn : 1 ≤ n) {x : Wd} (ha : acc n x = true) (hx : x.toNat = 18446744073709551615) : x.toNat % n = n - 1 := by
  rw [acc_iff hn] at ha
  have hlm := Nat.mod_lt 18446744073709551616 (y := n) (by omega)
  have h0 : 18446744073709551616 % n = 0 := by omega
  rcases mod_succ_eq x.toNat n hn with h | h
  · exact h.2
  · rw [hx] at h
    have e : (18446744073709551615 + 1) % n = 18446744073709551616 % n := rfl
    omega
theorem acc_next {n : Nat} (hn : 1 ≤ n) {x y : Wd} (hy : y.toNat = x.toNat + 1) (ha : acc n x = true) (hb : acc n y = false) : x.toNat % n = n - 1 := by
  have hb' : ¬ acc n y = true := by simp [hb]
  rw [acc_iff hn] at ha hb'
  have h1 := Nat.div_add_mod 18446744073709551616 n
  have hl := Nat.mod_le 18446744073709551616 n
  have h2 : (x.toNat + 1) % n = 0 := by
    have : x.toNat + 1 = n * (18446744073709551616 / n) := by omega
    rw [this, Nat.mul_mod_right]
  rcases mod_succ_eq x.toNat n hn with h | h
  · exact h.2
  · omega
theorem acc_not_next {n : Nat} (hn : 1 ≤ n) {x y : Wd} (hy : y.toNat = x.toNat + 1) (ha : acc n x = false) : acc n y = false := by
  have ha' : ¬ acc n x = true := by simp [ha]
  rw [acc_iff hn] at ha'
  cases h : acc n y
  · rfl
  · rw [acc_iff hn] at h; omega
theorem acc_few {n : Nat} (hn : 1 ≤ n) {x : Wd} (ha : acc n x = false) : 18446744073709551615 - x.toNat + 1 < n := by
  have ha' : ¬ acc n x = true := by simp [ha]
  rw [acc_iff hn] at ha'
  have := Nat.mod_lt 18446744073709551616 (y := n) (by omega)
  have := x.isLt
  omega
theorem rest_z (n : Nat) (hn : 1 ≤ n) (hm : n ≤ 9223372036854775807) (w : World) : Calls Try.prog 15 #[.int .u64 0, .int .i64 (n : Int)] w fun e w' => e = .returned (.tuple #[.int .i64 0, .bool true]) ∧ w = w' := by
  have h := rest_yes 0#64 n hn hm (acc_zero n hn hm) w
  have e1 : ((0#64).toNat : Int) = 0 := by decide
  have e2 : (((0#64).toNat % n : Nat) : Int) = 0 := by simp
  rw [e1, e2] at h
  exact h

set_option maxRecDepth 100000 in
theorem fair_no (x : Wd) (n : Int) (hn : n < 1) (w : World) : Calls Try.prog 5 #[.int .u64 (x.toNat : Int), .int .i64 n] w fun e w' => e = .returned (.bool true) ∧ Below w.heap.size w w' := by
  go_enter Try.func5, Try.ntmps5
  go_wp2_with fail
  refine (awake_yes _).mono ?_
  rintro e w1 ⟨rfl, hb1⟩
  go_wp2_with fail
  refine (rest_no x n hn _).mono ?_
  rintro e w2 ⟨rfl, rfl⟩
  go_wp2_with fail
  go_ret
  exact ⟨rfl, hb1⟩
theorem not_eq_neg (x : Wd) : bits .xor .u64 18446744073709551615 (x.toNat : Int) = 18446744073709551615 - (x.toNat : Int) := by
  have h := w_xor 18446744073709551615#64 x
  have e : ((18446744073709551615#64).toNat : Int) = 18446744073709551615 := by decide
  rw [e] at h
  rw [h]
  have h2 : (18446744073709551615#64 ^^^ x).toNat = 18446744073709551615 - x.toNat := by
    have : 18446744073709551615#64 ^^^ x = ~~~x := by
      apply BitVec.eq_of_getLsbD_eq; intro i hi
      have hones : (18446744073709551615#64 : Wd) = BitVec.allOnes 64 := by decide
      rw [hones, BitVec.getLsbD_xor, BitVec.getLsbD_not, BitVec.getLsbD_allOnes]; simp [hi]
    rw [this, BitVec.toNat_not]
  rw [h2]; have := x.isLt; omega
set_option maxRecDepth 100000 in
theorem fair_not (x : Wd) (n : Nat) (hn : 1 ≤ n) (hm : n ≤ 9223372036854775807) (ha : acc n x = false) (w : World) : Calls Try.prog 5 #[.int .u64 (x.toNat : Int), .int .i64 (n : Int)] w fun e w' => e = .returned (.bool true) ∧ Below w.heap.size w w' := by
  have hx := x.isLt
  have hf := acc_few hn ha
  have hne := not_eq_neg x
  have hcmp : decide ((n : Int) - 1 ≤ bits .xor .u64 (if IntKind.u64.signed = true then -1 else IntKind.u64.max) (x.toNat : Int)) = false := by
    have e : (if IntKind.u64.signed = true then (-1 : Int) else IntKind.u64.max) = 18446744073709551615 := rfl
    rw [e, hne]
    simp only [decide_eq_false_iff_not]; omega
  have HA := Lib.hid ha
  have HNE := Lib.hid hne
  have HX := Lib.hid hx
  by_cases htop : x.toNat = 18446744073709551615
  · have htt : ((x.toNat : Int) == 18446744073709551615) = true := by simp; omega
    clear ha hne hx htop
    go_enter Try.func5, Try.ntmps5
    go_wp2_with fail
    refine (awake_yes _).mono ?_
    rintro e w1 ⟨rfl, hb1⟩
    go_wp2_with fail
    refine (rest_not x n hn hm HA.out _).mono ?_
    rintro e w2 ⟨rfl, rfl⟩
    go_wp2_with fail
    refine (rest_z n hn hm _).mono ?_
    rintro e w2 ⟨rfl, rfl⟩
    go_wp2_with fail
    go_ret
    exact ⟨rfl, hb1⟩
  · have htt : ((x.toNat : Int) == 18446744073709551615) = false := by simp; omega
    have hnx : IntKind.u64.wrap ((x.toNat : Int) + 1) = ((x + 1#64).toNat : Int) := w_add x 1#64
    have hy : (x + 1#64).toNat = x.toNat + 1 := by rw [BitVec.toNat_add]; simp; omega
    have HN := Lib.hid hnx
    have HY := Lib.hid (acc_not_next hn hy ha)
    clear ha hne hx htop hnx hy
    go_enter Try.func5, Try.ntmps5
    go_wp2_with fail
    refine (awake_yes _).mono ?_
    rintro e w1 ⟨rfl, hb1⟩
    go_wp2_with fail
    refine (rest_not x n hn hm HA.out _).mono ?_
    rintro e w2 ⟨rfl, rfl⟩
    go_wp2_with fail
    refine (rest_z n hn hm _).mono ?_
    rintro e w2 ⟨rfl, rfl⟩
    go_wp2_with fail
    rw [HN.out]
    refine (rest_not _ n hn hm HY.out _).mono ?_
    rintro e w2 ⟨rfl, rfl⟩
    go_wp2_with fail
    go_ret
    exact ⟨rfl, hb1⟩
set_option maxRecDepth 100000 in
theorem fair_yes (x : Wd) (n : Nat) (hn : 1 ≤ n) (hm : n ≤ 9223372036854775807) (ha : acc n x = true) (w : World) : Calls Try.prog 5 #[.int .u64 (x.toNat : Int), .int .i64 (n : Int)] w fun e w' => e = .returned (.bool true) ∧ Below w.heap.size w w' := by
  have hx := x.isLt
  have hv : x.toNat % n < n := Nat.mod_lt _ (by omega)
  have HA := Lib.hid ha
  have HX := Lib.hid hx
  by_cases htop : x.toNat = 18446744073709551615
  · have htt : ((x.toNat : Int) == 18446744073709551615) = true := by simp; omega
    have hvv := acc_top hn ha htop
    obtain ⟨v, hvv2⟩ : ∃ v, x.toNat % n = v := ⟨_, rfl⟩
    have H := Lib.hid (fun w => rest_yes x n hn hm ha w)
    rw [hvv2] at hv hvv H
    have i1 : ((v : Int) == (n : Int) - 1) = true := by simp; omega
    have i2 : (v : Int) < n := by omega
    have i3 : ¬ (v : Int) < 0 := by omega
    clear ha hx htop hvv hvv2
    go_enter Try.func5, Try.ntmps5
    go_wp2_with fail
    refine (awake_yes _).mono ?_
    rintro e w1 ⟨rfl, hb1⟩
    go_wp2_with fail
    refine (H.out _).mono ?_
    rintro e w2 ⟨rfl, rfl⟩
    go_wp2_with fail
    refine (rest_z n hn hm _).mono ?_
    rintro e w2 ⟨rfl, rfl⟩
    go_wp2_with fail
    go_ret
    exact ⟨rfl, hb1⟩
  · have htt : ((x.toNat : Int) == 18446744073709551615) = false := by simp; omega
    have hnx : IntKind.u64.wrap ((x.toNat : Int) + 1) = ((x + 1#64).toNat : Int) := w_add x 1#64
    have hy : (x + 1#64).toNat = x.toNat + 1 := by rw [BitVec.toNat_add]; simp; omega
    have HN := Lib.hid hnx
    have hsucc := mod_succ_eq x.toNat n hn
    rw [← hy] at hsucc
    obtain ⟨y, hyy⟩ : ∃ y, x + 1#64 = y := ⟨_, rfl⟩
    rw [hyy] at hsucc hy HN
    obtain ⟨v, hvv2⟩ : ∃ v, x.toNat % n = v := ⟨_, rfl⟩
    have H := Lib.hid (fun w => rest_yes x n hn hm ha w)
    rw [hvv2] at hv H hsucc
    cases hb : acc n y
    · have hvv := acc_next hn hy ha hb
      rw [hvv2] at hvv
      have HY := Lib.hid (fun w => rest_not y n hn hm hb w)
      have i1 : ((v : Int) == (n : Int) - 1) = true := by simp; omega
      have i2 : (v : Int) < n := by omega
      have i3 : ¬ (v : Int) < 0 := by omega
      clear ha hx htop hnx hy hsucc hvv hvv2 hb hyy
      go_enter Try.func5, Try.ntmps5
      go_wp2_with fail
      refine (awake_yes _).mono ?_
      rintro e w1 ⟨rfl, hb1⟩
      go_wp2_with fail
      refine (H.out _).mono ?_
      rintro e w2 ⟨rfl, rfl⟩
      go_wp2_with fail
      refine (rest_z n hn hm _).mono ?_
      rintro e w2 ⟨rfl, rfl⟩
      go_wp2_with fail
      rw [HN.out]
      refine (HY.out _).mono ?_
      rintro e w2 ⟨rfl, rfl⟩
      go_wp2_with fail
      go_ret
      exact ⟨rfl, hb1⟩
    · have HY := Lib.hid (fun w => rest_yes y n hn hm hb w)
      obtain ⟨u, huu⟩ : ∃ u, y.toNat % n = u := ⟨_, rfl⟩
      rw [huu] at HY hsucc
      have i2 : (v : Int) < n := by omega
      have i3 : ¬ (v : Int) < 0 := by omega
      rcases hsucc with ⟨s1, s2⟩ | ⟨s1, s2⟩
      · have i1 : ((v : Int) == (n : Int) - 1) = true := by simp; omega
        subst s1
        clear ha hx htop hnx hy hvv2 hb hyy huu s2
        go_enter Try.func5, Try.ntmps5
        go_wp2_with fail
        refine (awake_yes _).mono ?_
        rintro e w1 ⟨rfl, hb1⟩
        go_wp2_with fail
        refine (H.out _).mono ?_
        rintro e w2 ⟨rfl, rfl⟩
        go_wp2_with fail
        refine (rest_z n hn hm _).mono ?_
        rintro e w2 ⟨rfl, rfl⟩
        go_wp2_with fail
        rw [HN.out]
        refine (HY.out _).mono ?_
        rintro e w2 ⟨rfl, rfl⟩
        go_wp2_with fail
        go_ret
        exact ⟨rfl, hb1⟩
      · have i1 : ((v : Int) == (n : Int) - 1) = false := by simp; omega
        have i4 : IntKind.i64.wrap ((v : Int) + 1) = (v : Int) + 1 := IntWalk.i64_in _ (by omega)
        have i5 : ((u : Int) == (v : Int) + 1) = true := by simp; omega
        clear ha hx htop hnx hy hvv2 hb hyy huu s1
        go_enter Try.func5, Try.ntmps5
        go_wp2_with fail
        refine (awake_yes _).mono ?_
        rintro e w1 ⟨rfl, hb1⟩
        go_wp2_with fail
        refine (H.out _).mono ?_
        rintro e w2 ⟨rfl, rfl⟩
        go_wp2_with fail
        refine (rest_z n hn hm _).mono ?_
        rintro e w2 ⟨rfl, rfl⟩
        go_wp2_with fail
        rw [HN.out]
        refine (HY.out _).mono ?_
        rintro e w2 ⟨rfl, rfl⟩
        go_wp2_with fail
        go_ret
        exact ⟨rfl, hb1⟩
theorem seedFair_yes (a n : Int) (ha : (Lit.int .u64 a).wf = true) (hn : (Lit.int .i64 n).wf = true) (w : World) : Calls Try.prog 5 #[.int .u64 a, .int .i64 n] w fun e w' => e = .returned (.bool true) ∧ Below w.heap.size w w' := by
  obtain ⟨x, rfl⟩ := wd_of a ha
  have hb := i64_of n hn
  by_cases h : n < 1
  · exact fair_no x n h w
  · obtain ⟨m, rfl⟩ : ∃ m : Nat, n = (m : Int) := ⟨n.toNat, by omega⟩
    cases hc : acc m x
    · exact fair_not x m (by omega) (by omega) hc w
    · exact fair_yes x m (by omega) (by omega) hc w
end Go.Proofs.Ytodaembemcljnaa
