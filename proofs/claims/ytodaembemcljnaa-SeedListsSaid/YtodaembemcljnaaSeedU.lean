import Derived.Test.YtodaembemcljnaaSeedR
/-
  The reference's words.
-/
namespace Go.Proofs.Ytodaembemcljnaa
open Go.RowKit
set_option linter.unusedVariables false

theorem w_and (a b : Wd) : bits .and .u64 (a.toNat : Int) (b.toNat : Int) = ((a &&& b).toNat : Int) := by
  have hx : a.toNat &&& b.toNat < 2 ^ 64 := Nat.and_lt_two_pow _ b.isLt
  have h1 : (BitVec.ofInt 64 (a.toNat : Int)) = a := by rw [BitVec.ofInt_natCast]; simp
  have h2 : (BitVec.ofInt 64 (b.toNat : Int)) = b := by rw [BitVec.ofInt_natCast]; simp
  show IntKind.u64.wrap ((BitVec.ofInt 64 (a.toNat : Int) &&& BitVec.ofInt 64 (b.toNat : Int)).toNat : Int) = _
  rw [h1, h2, w_id]
theorem w_or (a b : Wd) : bits .or .u64 (a.toNat : Int) (b.toNat : Int) = ((a ||| b).toNat : Int) := by
  have h1 : (BitVec.ofInt 64 (a.toNat : Int)) = a := by rw [BitVec.ofInt_natCast]; simp
  have h2 : (BitVec.ofInt 64 (b.toNat : Int)) = b := by rw [BitVec.ofInt_natCast]; simp
  show IntKind.u64.wrap ((BitVec.ofInt 64 (a.toNat : Int) ||| BitVec.ofInt 64 (b.toNat : Int)).toNat : Int) = _
  rw [h1, h2, w_id]
theorem w_and1 (a : Wd) : bits .and .u64 (a.toNat : Int) 1 = ((a &&& 1#64).toNat : Int) := w_and a 1#64

theorem w_shl (a : Wd) (i : Nat) : IntKind.u64.wrap ((a.toNat : Int) * 2 ^ i) = ((a <<< i).toNat : Int) := by
  rw [IntKind.wrap_u64, BitVec.toNat_shiftLeft, Nat.shiftLeft_eq]
  simp
theorem rmix_any (x : Wd) (w : World) : Calls Try.prog 51 #[.int .u64 (x.toNat : Int)] w fun e w' => e = .returned (.int .u64 ((mix x).toNat : Int)) ∧ w = w' := by
  have h1 : bits .xor .u64 (x.toNat : Int) ((x.toNat : Int) / 1073741824) = ((xs 30 x).toNat : Int) := by rw [w_shr _ 30 _ (by decide), w_xor]; rfl
  have h2 := w_mulc1 (xs 30 x)
  obtain ⟨y1, hy1⟩ : ∃ y, xs 30 x = y := ⟨_, rfl⟩
  obtain ⟨y2, hy2⟩ : ∃ y, y1 * c1 = y := ⟨_, rfl⟩
  rw [hy1] at h1 h2
  rw [hy2] at h2
  have h3 : bits .xor .u64 (y2.toNat : Int) ((y2.toNat : Int) / 134217728) = ((xs 27 y2).toNat : Int) := by rw [w_shr _ 27 _ (by decide), w_xor]; rfl
  have h4 := w_mulc2 (xs 27 y2)
  obtain ⟨y3, hy3⟩ : ∃ y, xs 27 y2 = y := ⟨_, rfl⟩
  obtain ⟨y4, hy4⟩ : ∃ y, y3 * c2 = y := ⟨_, rfl⟩
  rw [hy3] at h3 h4
  rw [hy4] at h4
  have h5 : bits .xor .u64 (y4.toNat : Int) ((y4.toNat : Int) / 2147483648) = ((xs 31 y4).toNat : Int) := by rw [w_shr _ 31 _ (by decide), w_xor]; rfl
  have hm : mix x = xs 31 y4 := by rw [mix, hy1, hy2, hy3, hy4]
  obtain ⟨y5, hy5⟩ : ∃ y, xs 31 y4 = y := ⟨_, rfl⟩
  rw [hm]
  rw [hy5] at h5 ⊢
  clear hy1 hy2 hy3 hy4 hy5 hm
  go_enter Try.func51, Try.ntmps51
  go_wp2_with fail
  go_ret
  exact ⟨rfl, rfl⟩

set_option maxRecDepth 100000 in
theorem unshift_any (k : Nat) (hk : 64 ≤ 3 * k) (hk2 : k < 64) (x : Wd) (w : World) : Calls Try.prog 63 #[.int .u64 (x.toNat : Int), .int .i64 (k : Int)] w fun e w' => e = .returned (.int .u64 ((ux k x).toNat : Int)) ∧ w = w' := by
  obtain ⟨z, hz⟩ : ∃ z, ux k x = z := ⟨_, rfl⟩
  have hst : ∀ i, i < 64 → hiB (i + 1) z ||| (ushB k x (hiB (i + 1) z) i <<< i) = hiB i z := by
    intro i hi; rw [← hz]; exact ush_step hk x i hi
  rw [hz]
  have HST := Lib.hid hst
  clear hz hst
  go_enter Try.func63, Try.ntmps63
  go_wp2_with fail
  go_loop [5, 6, 7] (fun y i _ => ∃ j : Nat, j ≤ 64 ∧ i = .int .i64 ((j : Int) - 1) ∧ y = .int .u64 ((hiB j z).toNat : Int)) (fun _ i _ => ((intOf i) + 1).toNat)
  case atStart => exact ⟨64, by omega, rfl, by rw [hiB_top]; rfl⟩
  case round =>
    obtain ⟨j, hj, rfl, rfl⟩ := hrel
    by_cases hpos : 0 < j
    · obtain ⟨i, rfl⟩ : ∃ i, j = i + 1 := ⟨j - 1, by omega⟩
      have e1 : ((i + 1 : Nat) : Int) - 1 = (i : Int) := by omega
      rw [e1]
      have HS := Lib.hid (HST.out i (by omega))
      obtain ⟨y, hy⟩ : ∃ y, hiB (i + 1) z = y := ⟨_, rfl⟩
      rw [hy] at HS ⊢
      clear hy e1
      by_cases hik : i + k < 64
      · go_wp2_with fail
        go_round
        case rel => exact ⟨i, by omega, rfl, by
          have h := HS.out
          unfold ushB at h
          rw [if_pos hik] at h
          rw [w_shr _ i _ rfl, w_shr _ (i + k) _ rfl, w_and1, w_and1, w_xor, w_shl, w_or, h]⟩
        case measure => simp [intOf]
      · go_wp2_with fail
        go_round
        case rel => exact ⟨i, by omega, rfl, by
          have h := HS.out
          unfold ushB at h
          rw [if_neg hik] at h
          rw [w_shr _ i _ rfl, w_and1, w_shl, w_or, h]⟩
        case measure => simp [intOf]
    · obtain rfl : j = 0 := by omega
      go_wp2_with fail
      go_ret
      exact ⟨by rw [hiB_zero]; rfl, rfl⟩

def bitAt (j : Nat) : Wd := 1#64 <<< j
theorem bitAt_succ (j : Nat) : bitAt j * 2#64 = bitAt (j + 1) := by
  unfold bitAt
  apply BitVec.eq_of_toNat_eq
  rw [BitVec.toNat_mul, BitVec.toNat_shiftLeft, BitVec.toNat_shiftLeft, Nat.shiftLeft_eq, Nat.shiftLeft_eq, Nat.pow_succ]
  simp only [BitVec.toNat_ofNat]
  omega
theorem bitAt_ne (j : Nat) (h : j < 64) : ((bitAt j).toNat : Int) ≠ 0 := by
  have : bitAt j ≠ 0#64 := by
    intro e
    have := congrArg (fun z => z.getLsbD j) e
    unfold bitAt at this
    simp [h] at this
  intro e
  exact this (BitVec.eq_of_toNat_eq (by simp; omega))
theorem bitAt_top : bitAt 64 = 0#64 := by decide
def lft (b : Int) : Nat := if b = 0 then 0 else 64 - Nat.log2 b.toNat
theorem bitAt_toNat (j : Nat) (h : j < 64) : (bitAt j).toNat = 2 ^ j := by
  unfold bitAt
  rw [BitVec.toNat_shiftLeft, Nat.shiftLeft_eq]
  simp only [BitVec.toNat_ofNat]
  have : 2 ^ j < 2 ^ 64 := Nat.pow_lt_pow_right (by omega) h
  rw [Nat.mod_eq_of_lt (by omega)]; omega
theorem lft_bit (j : Nat) (h : j ≤ 64) : lft ((bitAt j).toNat : Int) = 64 - j := by
  unfold lft
  by_cases hj : j = 64
  · subst hj; rw [bitAt_top]; simp
  · have hp : 0 < 2 ^ j := Nat.two_pow_pos j
    rw [bitAt_toNat j (by omega), if_neg (by omega)]
    have : ((2 ^ j : Nat) : Int).toNat = 2 ^ j := by omega
    rw [this, Nat.log2_two_pow]
theorem w_mul2 (a : Wd) : IntKind.u64.wrap ((a.toNat : Int) * 2) = ((a * 2#64).toNat : Int) := w_mul a 2#64

set_option maxRecDepth 100000 in
theorem divide_any (x odd d : Wd) (h : odd * d = 1#64) (ho : odd.toNat % 2 = 1) (w : World) : Calls Try.prog 64 #[.int .u64 (x.toNat : Int), .int .u64 (odd.toNat : Int)] w fun e w' => e = .returned (.int .u64 ((x * d).toNat : Int)) ∧ w = w' := by
  have hst : ∀ j, j < 64 → loB (j + 1) (x * d) = if (x - loB j (x * d) * odd) &&& bitAt j = 0#64 then loB j (x * d) else loB j (x * d) ||| bitAt j := by
    intro j hj
    have h1 := div_test (x := x) h ho j hj
    rw [loB_succ _ _ hj]
    unfold bitAt
    by_cases hb : (x * d).getLsbD j = true
    · rw [if_pos hb, if_neg (by rw [h1, hb]; simp)]
    · have hb' : (x * d).getLsbD j = false := by simpa using hb
      rw [if_neg hb, if_pos (h1.2 hb')]
  obtain ⟨z, hz⟩ : ∃ z, x * d = z := ⟨_, rfl⟩
  rw [hz] at hst ⊢
  have HST := Lib.hid hst
  clear hst hz h ho
  go_enter Try.func64, Try.ntmps64
  go_wp2_with fail
  go_loop [5, 6] (fun y b => ∃ j : Nat, j ≤ 64 ∧ b = .int .u64 ((bitAt j).toNat : Int) ∧ y = .int .u64 ((loB j z).toNat : Int)) (fun _ b => lft (intOf b))
  case atStart => exact ⟨0, by omega, rfl, by rw [loB_zero]; rfl⟩
  case round =>
    obtain ⟨j, hj, rfl, rfl⟩ := hrel
    by_cases hlt : j < 64
    · have hne := bitAt_ne j hlt
      have hbs := bitAt_succ j
      have hs := HST.out j hlt
      obtain ⟨y, hy⟩ : ∃ y, loB j z = y := ⟨_, rfl⟩
      obtain ⟨b, hb⟩ : ∃ b, bitAt j = b := ⟨_, rfl⟩
      rw [hy, hb] at hs
      rw [hb] at hne hbs
      rw [hy, hb]
      have HS := Lib.hid hs
      have HBS := Lib.hid hbs
      have HB := Lib.hid hb
      clear hs hbs hy hb
      have i1 : ((b.toNat : Int) != 0) = true := by simp; omega
      obtain ⟨t, ht⟩ : ∃ t, (x - y * odd) &&& b = t := ⟨_, rfl⟩
      have htt : bits .and .u64 (IntKind.u64.wrap ((x.toNat : Int) - IntKind.u64.wrap ((y.toNat : Int) * (odd.toNat : Int)))) (b.toNat : Int) = (t.toNat : Int) := by rw [w_mul, w_sub, w_and, ht]
      rw [ht] at HS
      clear ht
      have hl1 := lft_bit j hj
      have hl2 := lft_bit (j + 1) hlt
      rw [HB.out] at hl1
      have HL1 := Lib.hid hl1
      have HL2 := Lib.hid hl2
      clear hl1 hl2
      by_cases h0 : t = 0#64
      · have i2 : ((t.toNat : Int) != 0) = false := by subst h0; rfl
        go_wp2_with fail
        go_round
        case rel => exact ⟨j + 1, hlt, by rw [w_mul2, HBS.out], by have := HS.out; rw [if_pos h0] at this; rw [this]⟩
        case measure =>
          rw [w_mul2, HBS.out]
          show lft ((bitAt (j + 1)).toNat : Int) < lft (b.toNat : Int)
          rw [HL1.out, HL2.out]; omega
      · have i2 : ((t.toNat : Int) != 0) = true := by
          simp; intro e; exact h0 (BitVec.eq_of_toNat_eq (by simpa using e))
        go_wp2_with fail
        go_round
        case rel => exact ⟨j + 1, hlt, by rw [w_mul2, HBS.out], by have := HS.out; rw [if_neg h0] at this; rw [this, w_or]⟩
        case measure =>
          rw [w_mul2, HBS.out]
          show lft ((bitAt (j + 1)).toNat : Int) < lft (b.toNat : Int)
          rw [HL1.out, HL2.out]; omega
    · obtain rfl : j = 64 := by omega
      rw [bitAt_top, loB_top]
      go_wp2_with fail
      go_ret
      exact ⟨rfl, rfl⟩
theorem divide_c1 (x : Wd) (w : World) : Calls Try.prog 64 #[.int .u64 (x.toNat : Int), .int .u64 13787848793156543929] w fun e w' => e = .returned (.int .u64 ((x * d1).toNat : Int)) ∧ w = w' :=
  divide_any x c1 d1 c1d1 (by decide +kernel) w
theorem divide_c2 (x : Wd) (w : World) : Calls Try.prog 64 #[.int .u64 (x.toNat : Int), .int .u64 10723151780598845931] w fun e w' => e = .returned (.int .u64 ((x * d2).toNat : Int)) ∧ w = w' :=
  divide_any x c2 d2 c2d2 (by decide +kernel) w
theorem runmix_any (x : Wd) (w : World) : Calls Try.prog 52 #[.int .u64 (x.toNat : Int)] w fun e w' => e = .returned (.int .u64 ((unmix x).toNat : Int)) ∧ w = w' := by
  obtain ⟨y1, hy1⟩ : ∃ y, ux 31 x = y := ⟨_, rfl⟩
  obtain ⟨y2, hy2⟩ : ∃ y, y1 * d2 = y := ⟨_, rfl⟩
  obtain ⟨y3, hy3⟩ : ∃ y, ux 27 y2 = y := ⟨_, rfl⟩
  obtain ⟨y4, hy4⟩ : ∃ y, y3 * d1 = y := ⟨_, rfl⟩
  obtain ⟨y5, hy5⟩ : ∃ y, ux 30 y4 = y := ⟨_, rfl⟩
  have hu : unmix x = y5 := by rw [unmix, hy1, hy2, hy3, hy4, hy5]
  have H1 := Lib.hid (fun w => unshift_any 31 (by omega) (by omega) x w)
  have H2 := Lib.hid (fun w => divide_c2 y1 w)
  have H3 := Lib.hid (fun w => unshift_any 27 (by omega) (by omega) y2 w)
  have H4 := Lib.hid (fun w => divide_c1 y3 w)
  have H5 := Lib.hid (fun w => unshift_any 30 (by omega) (by omega) y4 w)
  rw [hy1] at H1
  rw [hy2] at H2
  rw [hy3] at H3
  rw [hy4] at H4
  rw [hy5] at H5
  rw [hu]
  clear hy1 hy2 hy3 hy4 hy5 hu
  go_enter Try.func52, Try.ntmps52
  go_wp2_with fail
  refine (H1.out _).mono ?_
  rintro e w1 ⟨rfl, rfl⟩
  go_wp2_with fail
  refine (H2.out _).mono ?_
  rintro e w1 ⟨rfl, rfl⟩
  go_wp2_with fail
  refine (H3.out _).mono ?_
  rintro e w1 ⟨rfl, rfl⟩
  go_wp2_with fail
  refine (H4.out _).mono ?_
  rintro e w1 ⟨rfl, rfl⟩
  go_wp2_with fail
  refine (H5.out _).mono ?_
  rintro e w1 ⟨rfl, rfl⟩
  go_wp2_with fail
  go_ret
  exact ⟨rfl, rfl⟩
theorem rrest_no (x : Wd) (n : Int) (hn : n < 1) (w : World) : Calls Try.prog 53 #[.int .u64 (x.toNat : Int), .int .i64 n] w fun e w' => e = .returned (.tuple #[.int .i64 0, .bool false]) ∧ w = w' := by
  go_enter Try.func53, Try.ntmps53
  go_wp2_with fail
  go_ret2
  exact ⟨rfl, rfl⟩
theorem rthr (x : Wd) (n : Nat) (hn : 1 ≤ n) : (18446744073709551615 - ((x.toNat : Int) - (x.toNat : Int) % (n : Int)) < (n : Int) - 1) ↔ acc n x = false := by
  rw [← rest_ref hn x]
  have hx := x.isLt
  have hme := Nat.mod_le x.toNat n
  rw [← Int.natCast_emod]
  omega
theorem rrest_yes (x : Wd) (n : Nat) (hn : 1 ≤ n) (hm : n ≤ 9223372036854775807) (ha : acc n x = true) (w : World) : Calls Try.prog 53 #[.int .u64 (x.toNat : Int), .int .i64 (n : Int)] w fun e w' => e = .returned (.tuple #[.int .i64 ((x.toNat % n : Nat) : Int), .bool true]) ∧ w = w' := by
  have hx := x.isLt
  have i1 : decide (18446744073709551615 - ((x.toNat : Int) - (x.toNat : Int) % (n : Int)) < (n : Int) - 1) = false := by
    simp only [decide_eq_false_iff_not]; intro h; rw [(rthr x n hn).1 h] at ha; cases ha
  have hml := Nat.mod_lt x.toNat (y := n) (by omega)
  have hme := Nat.mod_le x.toNat n
  clear ha
  go_enter Try.func53, Try.ntmps53
  go_wp2_with fail
  go_ret2
  exact ⟨by rw [Int.natCast_emod]; rfl, rfl⟩
theorem rrest_not (x : Wd) (n : Nat) (hn : 1 ≤ n) (hm : n ≤ 9223372036854775807) (ha : acc n x = false) (w : World) : Calls Try.prog 53 #[.int .u64 (x.toNat : Int), .int .i64 (n : Int)] w fun e w' => e = .returned (.tuple #[.int .i64 0, .bool false]) ∧ w = w' := by
  have hx := x.isLt
  have i1 : decide (18446744073709551615 - ((x.toNat : Int) - (x.toNat : Int) % (n : Int)) < (n : Int) - 1) = true := by
    simp only [decide_eq_true_iff]; exact (rthr x n hn).2 ha
  have hml := Nat.mod_lt x.toNat (y := n) (by omega)
  have hme := Nat.mod_le x.toNat n
  clear ha
  go_enter Try.func53, Try.ntmps53
  go_wp2_with fail
  go_ret2
  exact ⟨rfl, rfl⟩

theorem rnew_any (x : Wd) (w : World) : Calls Try.prog 50 #[.int .u64 (x.toNat : Int)] w fun e w' => e = .returned (.int .u64 ((mix x).toNat : Int)) ∧ w = w' := by
  go_enter Try.func50, Try.ntmps50
  go_wp2_with fail
  refine (rmix_any x _).mono ?_
  rintro e w1 ⟨rfl, rfl⟩
  go_wp2_with fail
  go_ret
  exact ⟨rfl, rfl⟩
theorem rat_any (x : Wd) (n : Int) (w : World) : Calls Try.prog 49 #[.int .u64 (x.toNat : Int), .int .i64 n] w fun e w' => e = .returned (.int .u64 ((mix (mix (x + 1#64) ^^^ BitVec.ofInt 64 n)).toNat : Int)) ∧ w = w' := by
  have hw : IntKind.u64.wrap ((x.toNat : Int) + 1) = ((x + 1#64).toNat : Int) := w_add x 1#64
  obtain ⟨y1, hy1⟩ : ∃ y, x + 1#64 = y := ⟨_, rfl⟩
  rw [hy1] at hw ⊢
  have HW := Lib.hid hw
  obtain ⟨y2, hy2⟩ : ∃ y, mix y1 = y := ⟨_, rfl⟩
  have H1 := Lib.hid (fun w => rmix_any y1 w)
  rw [hy2] at H1 ⊢
  obtain ⟨y3, hy3⟩ : ∃ y, y2 ^^^ BitVec.ofInt 64 n = y := ⟨_, rfl⟩
  have h3 : bits .xor .u64 (y2.toNat : Int) (IntKind.u64.wrap n) = (y3.toNat : Int) := by rw [w_of, w_xor, hy3]
  rw [hy3]
  have H3 := Lib.hid h3
  clear hw hy1 hy2 hy3 h3
  go_enter Try.func49, Try.ntmps49
  go_wp2_with fail
  rw [HW.out]
  refine (H1.out _).mono ?_
  rintro e w1 ⟨rfl, rfl⟩
  go_wp2_with fail
  rw [H3.out]
  refine (rmix_any y3 _).mono ?_
  rintro e w1 ⟨rfl, rfl⟩
  go_wp2_with fail
  go_ret
  exact ⟨rfl, rfl⟩
theorem rword_any (x : Wd) (i : Nat) (hi : i < 1099511627776) (w : World) : Calls Try.prog 48 #[.int .u64 (x.toNat : Int), .int .i64 (i : Int)] w fun e w' => e = .returned (.tuple #[.int .u64 ((word x i).toNat : Int), .int .i64 0]) ∧ w = w' := by
  obtain ⟨z, hz⟩ : ∃ z, x + BitVec.ofNat 64 (i + 1) * gold = z := ⟨_, rfl⟩
  have hw : word x i = mix z := by rw [word, hz]
  have hs : IntKind.u64.wrap ((x.toNat : Int) + IntKind.u64.wrap (((i : Int) + 1) * 11400714819323198485)) = (z.toNat : Int) := by rw [w_step i hi, w_add, hz]
  rw [hw]
  have HW := Lib.hid hs
  clear hz hs hw
  go_enter Try.func48, Try.ntmps48
  go_wp2_with fail
  rw [HW.out]
  refine (rmix_any z _).mono ?_
  rintro e w1 ⟨rfl, rfl⟩
  go_wp2_with fail
  go_ret2
  exact ⟨rfl, rfl⟩
theorem rword_no (x : Wd) (i : Int) (hi : i < 0 ∨ 1099511627776 ≤ i) (w : World) : Calls Try.prog 48 #[.int .u64 (x.toNat : Int), .int .i64 i] w fun e w' => e = .returned (.tuple #[.int .u64 0, .int .i64 2]) ∧ w = w' := by
  rcases hi with hi | hi
  · go_enter Try.func48, Try.ntmps48
    go_wp2_with fail
    go_ret2
    exact ⟨rfl, rfl⟩
  · have h0 : ¬ i < 0 := by omega
    go_enter Try.func48, Try.ntmps48
    go_wp2_with fail
    go_ret2
    exact ⟨rfl, rfl⟩
theorem rsub_empty (x : Wd) (s : ByteArray) (hs : s.size = 0) (w : World) : Calls Try.prog 47 #[.int .u64 (x.toNat : Int), .string s] w fun e w' => e = .returned (.tuple #[.int .u64 0, .int .i64 2]) ∧ w = w' := by
  have h1 : (s.size : Int) = 0 := by omega
  clear hs
  go_enter Try.func47, Try.ntmps47
  go_wp2_with fail
  go_ret2
  exact ⟨rfl, rfl⟩
theorem rsub_long (x : Wd) (s : ByteArray) (hs : 32 < s.size) (hm : s.size ≤ maxLen) (w : World) : Calls Try.prog 47 #[.int .u64 (x.toNat : Int), .string s] w fun e w' => e = .returned (.tuple #[.int .u64 0, .int .i64 3]) ∧ w = w' := by
  unfold maxLen at hm
  have h1 : ((s.size : Int) == 0) = false := by rw [beq_eq_false_iff_ne]; omega
  go_enter Try.func47, Try.ntmps47
  go_wp2_with fail
  go_ret2
  exact ⟨rfl, rfl⟩
set_option maxRecDepth 100000 in
theorem rsub_any (x : Wd) (s : ByteArray) (hs : 1 ≤ s.size) (hs2 : s.size ≤ 32) (w : World) : Calls Try.prog 47 #[.int .u64 (x.toNat : Int), .string s] w fun e w' => e = .returned (.tuple #[.int .u64 ((subK x s).toNat : Int), .int .i64 0]) ∧ w = w' := by
  have h1 : ((s.size : Int) == 0) = false := by rw [beq_eq_false_iff_ne]; omega
  have HS := Lib.hid (w_nat s.size (by omega))
  obtain ⟨k1, hk1⟩ : ∃ k1, x ^^^ BitVec.ofNat 64 s.size = k1 := ⟨_, rfl⟩
  obtain ⟨k0, hk0⟩ : ∃ k0, mix k1 = k0 := ⟨_, rfl⟩
  have hK : subK x s = subF s.data.toList k0 := by unfold subK; rw [hk1, hk0]
  have M0 := Lib.hid (fun w => rmix_any k1 w)
  rw [hk0] at M0
  have hx1 : bits .xor .u64 (x.toNat : Int) (s.size : Int) = (k1.toNat : Int) := by rw [HS.out, w_xor, hk1]
  have HX := Lib.hid hx1
  have HK := Lib.hid hK
  clear hk1 hk0 hK hx1
  go_enter Try.func47, Try.ntmps47
  go_wp2_with fail
  rw [HX.out]
  refine (M0.out _).mono ?_
  rintro e w1 ⟨rfl, rfl⟩
  go_wp2_with fail
  go_loop [6, 7] (fun a i => ∃ k : Nat, k ≤ s.size ∧ i = .int .i64 (k : Int) ∧ a = .int .u64 ((subF (s.data.toList.take k) k0).toNat : Int)) (fun _ i => s.size - (intOf i).toNat)
  case atStart => exact ⟨0, by omega, rfl, by rw [List.take_zero, subF_nil]⟩
  case round =>
    obtain ⟨k, hk, rfl, rfl⟩ := hrel
    by_cases hlt : k < s.size
    · have hst := Lib.hid (sub_step s k0 k hlt)
      obtain ⟨y, hy⟩ : ∃ y, subF (s.data.toList.take k) k0 = y := ⟨_, rfl⟩
      rw [hy] at hst ⊢
      clear hy
      have hw : bits .xor .u64 (y.toNat : Int) (IntKind.u64.wrap ((s[k].toNat : Nat) : Int)) = ((y ^^^ BitVec.ofNat 64 s[k].toNat).toNat : Int) := by
        rw [w_byte, w_id, w_xor]
      obtain ⟨z, hz2⟩ : ∃ z, y ^^^ BitVec.ofNat 64 s[k].toNat = z := ⟨_, rfl⟩
      have hg : subG y s[k] = mix z := by unfold subG; rw [hz2]
      rw [hz2] at hw
      have HW := Lib.hid hw
      have HG := Lib.hid hg
      clear hw hz2 hg
      go_wp2_with fail
      rw [HW.out]
      refine (rmix_any z _).mono ?_
      rintro e w3 ⟨rfl, rfl⟩
      go_wp2_with fail
      go_round
      case rel => exact ⟨k + 1, by omega, by go_num, by rw [hst.out, HG.out]⟩
      case measure => simp [intOf]; omega
    · have he : s.data.toList.take k = s.data.toList := List.take_of_length_le (by simp; omega)
      rw [he, ← HK.out]
      clear he
      go_wp2_with fail
      go_ret2
      exact ⟨rfl, rfl⟩
end Go.Proofs.Ytodaembemcljnaa
