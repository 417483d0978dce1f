import Derived.Test.YtodaembemcljnaaSeedA
/-
  Unmix.
-/
namespace Go.Proofs.Ytodaembemcljnaa
open Go.RowKit
set_option linter.unusedVariables false

set_option maxRecDepth 100000 in
theorem unmix_any (x : Wd) (w : World) : Calls Try.prog 27 #[.int .u64 (x.toNat : Int)] w fun e w' => e = .returned (.int .u64 ((unmix x).toNat : Int)) ∧ Below w.heap.size w w' := by
  go_enter Try.func27, Try.ntmps27
  go_wp2_with fail
  refine (steps_any _).mono ?_
  rintro e w1 ⟨rfl, hb1⟩
  go_wp2_with fail
  have hbA := hb1.alloc hb1.size (.cells #[.int .i64 30, .int .u64 13787848793156543929, .int .i64 27, .int .u64 10723151780598845931, .int .i64 31, .int .u64 1] 78)
  obtain ⟨wa, hwa⟩ : ∃ wa, w1.alloc (.cells #[.int .i64 30, .int .u64 13787848793156543929, .int .i64 27, .int .u64 10723151780598845931, .int .i64 31, .int .u64 1] 78) = wa := ⟨_, rfl⟩
  refine (reverse_any w1.heap.size w1.heap.size 3 _ (Nat.le_refl _) (by simp) (Lib.hid (by simp [go_sem])) (Lib.hid (fun j => by simp [go_sem]))).mono ?_
  rintro e w2 ⟨rfl, hb2, ht⟩
  have hb3 : Below w.heap.size w w2 := hbA.trans (hb2.mono hb1.size)
  have ht' := ht.out
  obtain ⟨h0, h1, h2, h3, h4, h5⟩ := ht'
  clear hwa hbA hb2 ht
  go_wp2_with fail
  clear h0 h1 h2 h3 h4 h5
  go_loopw [0, 11] (fun a i wr => ∃ k : Nat, k ≤ 3 ∧ i = .int .i64 (k : Int) ∧ a = .int .u64 ((ust x k).toNat : Int) ∧ Below w.heap.size w wr) (fun _ i _ => 3 - (intOf i).toNat)
  case atStart => exact ⟨0, by omega, rfl, by rw [ust_zero], hb3⟩
  case round =>
    obtain ⟨k, hk, rfl, rfl, hb⟩ := hrel
    have hk4 : k = 0 ∨ k = 1 ∨ k = 2 ∨ k = 3 := by omega
    rcases hk4 with rfl | rfl | rfl | rfl
    · have r0 := run_turn0
      go_wp2_with fail
      refine (inverse_1 _).mono ?_
      rintro e w3 ⟨rfl, rfl⟩
      clear r0
      go_wp2_with fail
      obtain ⟨z, hz⟩ : ∃ z, ust x 0 = z := ⟨_, rfl⟩
      rw [hz]
      have HZ := Lib.hid hz
      clear hz
      have hbw := hb.alloc hb.size (.cells #[.int .i64 31, .int .u64 1] 77)
      obtain ⟨wb, hwb⟩ : ∃ wb, wr.alloc (.cells #[.int .i64 31, .int .u64 1] 77) = wb := ⟨_, rfl⟩
      have hc0 : wb.cell? ⟨wr.heap.size, 0, none⟩ = some (.int .i64 31) := by rw [← hwb, World.cell?_alloc_at _ _ _ _ rfl]; rfl
      have hlt : wr.heap.size < wb.heap.size := by rw [← hwb]; simp
      rw [hwb] at hbw ⊢
      clear hwb
      obtain ⟨B, hB⟩ : ∃ B, wr.heap.size = B := ⟨_, rfl⟩
      rw [hB] at hc0 hlt ⊢
      clear hB hb
      go_loopw [6, 23] (fun y j wr2 => ∃ m : Nat, m ≤ 2 ∧ j = .int .i64 (m : Int) ∧ y = .int .u64 ((yst 31 z m).toNat : Int) ∧ Below wb.heap.size wb wr2) (fun _ j _ => 2 - (intOf j).toNat)
      case atStart => exact ⟨0, by omega, rfl, by rw [yst_zero], Below.refl _ _⟩
      case round =>
        obtain ⟨m, hm, rfl, rfl, hbm⟩ := hrel
        have hcm := (hbm.cell (p := ⟨B, 0, none⟩) hlt).trans hc0
        have hm4 : m = 0 ∨ m = 1 ∨ m = 2 := by omega
        rcases hm4 with rfl | rfl | rfl
        · go_wp2_with fail
          go_roundw
          case rel => exact ⟨1, by omega, rfl, by rw [w_shr _ 31 _ (by decide), w_xor, yst_one], hbm⟩
          case measure => simp [intOf]
        · go_wp2_with fail
          go_roundw
          case rel => exact ⟨2, by omega, rfl, by rw [w_shr _ 31 _ (by decide), w_xor, yst_two], hbm⟩
          case measure => simp [intOf]
        · go_wp2_with fail
          go_roundw
          case rel => exact ⟨1, by omega, rfl, by rw [← HZ.out, ust_one], hbw.trans (hbm.mono hbw.size)⟩
          case measure => simp [intOf]
    · have r0 := run_turn1
      go_wp2_with fail
      refine (inverse_c2 _).mono ?_
      rintro e w3 ⟨rfl, rfl⟩
      clear r0
      go_wp2_with fail
      obtain ⟨z, hz⟩ : ∃ z, ust x 1 * d2 = z := ⟨_, rfl⟩
      rw [w_mul, hz]
      have HZ := Lib.hid hz
      clear hz
      have hbw := hb.alloc hb.size (.cells #[.int .i64 27, .int .u64 10723151780598845931] 77)
      obtain ⟨wb, hwb⟩ : ∃ wb, wr.alloc (.cells #[.int .i64 27, .int .u64 10723151780598845931] 77) = wb := ⟨_, rfl⟩
      have hc0 : wb.cell? ⟨wr.heap.size, 0, none⟩ = some (.int .i64 27) := by rw [← hwb, World.cell?_alloc_at _ _ _ _ rfl]; rfl
      have hlt : wr.heap.size < wb.heap.size := by rw [← hwb]; simp
      rw [hwb] at hbw ⊢
      clear hwb
      obtain ⟨B, hB⟩ : ∃ B, wr.heap.size = B := ⟨_, rfl⟩
      rw [hB] at hc0 hlt ⊢
      clear hB hb
      go_loopw [6, 23] (fun y j wr2 => ∃ m : Nat, m ≤ 2 ∧ j = .int .i64 (m : Int) ∧ y = .int .u64 ((yst 27 z m).toNat : Int) ∧ Below wb.heap.size wb wr2) (fun _ j _ => 2 - (intOf j).toNat)
      case atStart => exact ⟨0, by omega, rfl, by rw [yst_zero], Below.refl _ _⟩
      case round =>
        obtain ⟨m, hm, rfl, rfl, hbm⟩ := hrel
        have hcm := (hbm.cell (p := ⟨B, 0, none⟩) hlt).trans hc0
        have hm4 : m = 0 ∨ m = 1 ∨ m = 2 := by omega
        rcases hm4 with rfl | rfl | rfl
        · go_wp2_with fail
          go_roundw
          case rel => exact ⟨1, by omega, rfl, by rw [w_shr _ 27 _ (by decide), w_xor, yst_one], hbm⟩
          case measure => simp [intOf]
        · go_wp2_with fail
          go_roundw
          case rel => exact ⟨2, by omega, rfl, by rw [w_shr _ 27 _ (by decide), w_xor, yst_two], hbm⟩
          case measure => simp [intOf]
        · go_wp2_with fail
          go_roundw
          case rel => exact ⟨2, by omega, rfl, by rw [← HZ.out, ust_two], hbw.trans (hbm.mono hbw.size)⟩
          case measure => simp [intOf]
    · have r0 := run_turn2
      go_wp2_with fail
      refine (inverse_c1 _).mono ?_
      rintro e w3 ⟨rfl, rfl⟩
      clear r0
      go_wp2_with fail
      obtain ⟨z, hz⟩ : ∃ z, ust x 2 * d1 = z := ⟨_, rfl⟩
      rw [w_mul, hz]
      have HZ := Lib.hid hz
      clear hz
      have hbw := hb.alloc hb.size (.cells #[.int .i64 30, .int .u64 13787848793156543929] 77)
      obtain ⟨wb, hwb⟩ : ∃ wb, wr.alloc (.cells #[.int .i64 30, .int .u64 13787848793156543929] 77) = wb := ⟨_, rfl⟩
      have hc0 : wb.cell? ⟨wr.heap.size, 0, none⟩ = some (.int .i64 30) := by rw [← hwb, World.cell?_alloc_at _ _ _ _ rfl]; rfl
      have hlt : wr.heap.size < wb.heap.size := by rw [← hwb]; simp
      rw [hwb] at hbw ⊢
      clear hwb
      obtain ⟨B, hB⟩ : ∃ B, wr.heap.size = B := ⟨_, rfl⟩
      rw [hB] at hc0 hlt ⊢
      clear hB hb
      go_loopw [6, 23] (fun y j wr2 => ∃ m : Nat, m ≤ 2 ∧ j = .int .i64 (m : Int) ∧ y = .int .u64 ((yst 30 z m).toNat : Int) ∧ Below wb.heap.size wb wr2) (fun _ j _ => 2 - (intOf j).toNat)
      case atStart => exact ⟨0, by omega, rfl, by rw [yst_zero], Below.refl _ _⟩
      case round =>
        obtain ⟨m, hm, rfl, rfl, hbm⟩ := hrel
        have hcm := (hbm.cell (p := ⟨B, 0, none⟩) hlt).trans hc0
        have hm4 : m = 0 ∨ m = 1 ∨ m = 2 := by omega
        rcases hm4 with rfl | rfl | rfl
        · go_wp2_with fail
          go_roundw
          case rel => exact ⟨1, by omega, rfl, by rw [w_shr _ 30 _ (by decide), w_xor, yst_one], hbm⟩
          case measure => simp [intOf]
        · go_wp2_with fail
          go_roundw
          case rel => exact ⟨2, by omega, rfl, by rw [w_shr _ 30 _ (by decide), w_xor, yst_two], hbm⟩
          case measure => simp [intOf]
        · go_wp2_with fail
          go_roundw
          case rel => exact ⟨3, by omega, rfl, by rw [← HZ.out, ust_three], hbw.trans (hbm.mono hbw.size)⟩
          case measure => simp [intOf]
    · go_wp2_with fail
      go_ret
      exact ⟨by rw [← ust_end]; rfl, hb⟩
end Go.Proofs.Ytodaembemcljnaa
