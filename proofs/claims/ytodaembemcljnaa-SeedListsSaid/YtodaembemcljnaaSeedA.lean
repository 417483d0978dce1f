import Derived.Test.YtodaembemcljnaaRows
import Derived.Test.YtodaembemcljnaaPlain
import Derived.Test.YtodaembemcljnaaSeedQ
import Derived.WalkKit
import Derived.WalkSpells
import Derived.WalkLawsBesides
import Derived.Deep.QuietTactic
import Derived.BigQuiet
import Derived.Lib.Hide
import Derived.Deep.DeepFit
import Derived.Laws.Bits64
/-
  Mix, inverse, Unmix, Rest, the streams.
-/
namespace Go.Proofs.Ytodaembemcljnaa
open Go.RowKit
set_option linter.unusedVariables false

theorem w_xor (a b : Wd) : bits .xor .u64 (a.toNat : Int) (b.toNat : Int) = ((a ^^^ b).toNat : Int) := by
  rw [bits_xor_u64_nat _ _ a.isLt b.isLt, BitVec.toNat_xor]
theorem w_mul (a b : Wd) : IntKind.u64.wrap ((a.toNat : Int) * (b.toNat : Int)) = ((a * b).toNat : Int) := by
  rw [IntKind.wrap_u64, BitVec.toNat_mul]; simp
theorem w_add (a b : Wd) : IntKind.u64.wrap ((a.toNat : Int) + (b.toNat : Int)) = ((a + b).toNat : Int) := by
  rw [IntKind.wrap_u64, BitVec.toNat_add]; simp
theorem w_sub (a b : Wd) : IntKind.u64.wrap ((a.toNat : Int) - (b.toNat : Int)) = ((a - b).toNat : Int) := by
  rw [IntKind.wrap_u64, BitVec.toNat_sub]; have := a.isLt; have := b.isLt; omega
theorem w_shr (a : Wd) (k : Nat) (p : Int) (hp : p = 2 ^ k) : (a.toNat : Int) / p = ((a >>> k).toNat : Int) := by
  rw [BitVec.toNat_ushiftRight, Nat.shiftRight_eq_div_pow, hp]; simp
theorem w_2sub (a : Wd) : IntKind.u64.wrap (2 - (a.toNat : Int)) = ((2#64 - a).toNat : Int) := w_sub 2#64 a
theorem w_mulc1 (a : Wd) : IntKind.u64.wrap ((a.toNat : Int) * 13787848793156543929) = ((a * c1).toNat : Int) := w_mul a c1
theorem w_mulc2 (a : Wd) : IntKind.u64.wrap ((a.toNat : Int) * 10723151780598845931) = ((a * c2).toNat : Int) := w_mul a c2
theorem w_id (a : Wd) : IntKind.u64.wrap (a.toNat : Int) = (a.toNat : Int) := by
  rw [IntKind.wrap_u64]; have := a.isLt; omega
theorem mul_1 (a : Wd) : a * 1#64 = a := BitVec.mul_one a

def stepsV : Value := .agg #[.int .i64 30, .int .u64 13787848793156543929, .int .i64 27, .int .u64 10723151780598845931, .int .i64 31, .int .u64 1]
theorem steps_any (w : World) : Calls Try.prog 54 #[] w fun e w' => e = .returned (.agg #[.int .i64 30, .int .u64 13787848793156543929, .int .i64 27, .int .u64 10723151780598845931, .int .i64 31, .int .u64 1]) ∧ Below w.heap.size w w' := by
  go_enter Try.func54, Try.ntmps54
  go_wp2_with fail
  exact bodyPost_ret (v := .agg #[.int .i64 30, .int .u64 13787848793156543929, .int .i64 27, .int .u64 10723151780598845931, .int .i64 31, .int .u64 1]) (by simp [results, Try.results54, go_sem]) rfl ⟨rfl, (Below.refl _ _).alloc (Nat.le_refl _) _⟩

def nwt (n : Wd) : Nat → Wd
  | 0 => n
  | k + 1 => newton n (nwt n k)
set_option maxRecDepth 100000 in
theorem inverse_any (n : Wd) (w : World) : Calls Try.prog 56 #[.int .u64 (n.toNat : Int)] w fun e w' => e = .returned (.int .u64 ((inv n).toNat : Int)) ∧ w = w' := by
  have hinv : inv n = nwt n 5 := rfl
  have HI := Lib.hid hinv
  clear hinv
  go_enter Try.func56, Try.ntmps56
  go_wp2_with fail
  go_loop [3, 5] (fun x i => ∃ k : Nat, k ≤ 5 ∧ i = .int .i64 (k : Int) ∧ x = .int .u64 ((nwt n k).toNat : Int)) (fun _ i => 5 - (intOf i).toNat)
  case atStart => exact ⟨0, by omega, rfl, rfl⟩
  case round =>
    obtain ⟨k, hk, rfl, rfl⟩ := hrel
    by_cases hlt : k < 5
    · have hs : nwt n (k + 1) = nwt n k * (2#64 - n * nwt n k) := rfl
      have HS := Lib.hid hs
      clear hs
      obtain ⟨x, hx⟩ : ∃ x, nwt n k = x := ⟨_, rfl⟩
      rw [hx] at HS ⊢
      clear hx
      go_wp2_with fail
      go_round
      case rel => exact ⟨k + 1, by omega, by go_num, by rw [HS.out, w_mul, w_2sub, w_mul]⟩
      case measure => simp [intOf]; omega
    · obtain rfl : k = 5 := by omega
      go_wp2_with fail
      go_ret
      exact ⟨by rw [HI.out]; rfl, rfl⟩

def mst (x : Wd) : Nat → Wd
  | 0 => x
  | 1 => xs 30 x * c1
  | 2 => xs 27 (xs 30 x * c1) * c2
  | _ => mix x
theorem mst_two (x : Wd) : mst x 3 = xs 31 (mst x 2) * 1#64 := (BitVec.mul_one _).symm
def stepT : Array Value := #[.int .i64 30, .int .u64 13787848793156543929, .int .i64 27, .int .u64 10723151780598845931, .int .i64 31, .int .u64 1]
theorem run_step0 (W : World) : Sem.run Try.prog (Instr.index 78 (.agg #[.int .i64 30, .int .u64 13787848793156543929, .int .i64 27, .int .u64 10723151780598845931, .int .i64 31, .int .u64 1]) (.int .i64 0)) W = .ok (.agg #[.int .i64 30, .int .u64 13787848793156543929]) W := by kernel_rfl
theorem run_step1 (W : World) : Sem.run Try.prog (Instr.index 78 (.agg #[.int .i64 30, .int .u64 13787848793156543929, .int .i64 27, .int .u64 10723151780598845931, .int .i64 31, .int .u64 1]) (.int .i64 1)) W = .ok (.agg #[.int .i64 27, .int .u64 10723151780598845931]) W := by kernel_rfl
theorem run_step2 (W : World) : Sem.run Try.prog (Instr.index 78 (.agg #[.int .i64 30, .int .u64 13787848793156543929, .int .i64 27, .int .u64 10723151780598845931, .int .i64 31, .int .u64 1]) (.int .i64 2)) W = .ok (.agg #[.int .i64 31, .int .u64 1]) W := by kernel_rfl
theorem below_drewN {n : Nat} {A B : World} (h : Below n A B) : ∀ k, Below n A (B.drewN k)
  | 0 => h
  | k + 1 => (below_drewN h k).drew
set_option maxRecDepth 100000 in
theorem mix_any (x : Wd) (w : World) : Calls Try.prog 28 #[.int .u64 (x.toNat : Int)] w fun e w' => e = .returned (.int .u64 ((mix x).toNat : Int)) ∧ Below w.heap.size w w' := by
  go_enter Try.func28, Try.ntmps28
  go_wp2_with fail
  refine (steps_any _).mono ?_
  rintro e w1 ⟨rfl, hb1⟩
  go_wp2_with fail
  go_loopw [0, 6] (fun a i wr => ∃ k : Nat, k ≤ 3 ∧ i = .int .i64 (k : Int) ∧ a = .int .u64 ((mst x k).toNat : Int) ∧ Below w.heap.size w wr) (fun _ i _ => 3 - (intOf i).toNat)
  case atStart => exact ⟨0, by omega, rfl, rfl, hb1⟩
  case round =>
    obtain ⟨k, hk, rfl, rfl, hb⟩ := hrel
    have hk4 : k = 0 ∨ k = 1 ∨ k = 2 ∨ k = 3 := by omega
    rcases hk4 with rfl | rfl | rfl | rfl
    · have r0 := run_step0
      go_wp2_with fail
      clear r0
      go_quiet (fail)
      go_wp2_with fail
      go_roundw
      case rel => exact ⟨1, by omega, rfl, by rw [w_shr _ 30 _ (by decide), w_xor, w_mulc1]; rfl, below_drewN (hb.alloc hb.size _) _⟩
      case measure => simp [intOf]
    · have r0 := run_step1
      go_wp2_with fail
      clear r0
      go_quiet (fail)
      go_wp2_with fail
      go_roundw
      case rel => exact ⟨2, by omega, rfl, by rw [w_shr _ 27 _ (by decide), w_xor, w_mulc2]; rfl, below_drewN (hb.alloc hb.size _) _⟩
      case measure => simp [intOf]
    · have r0 := run_step2
      go_wp2_with fail
      clear r0
      go_quiet (fail)
      go_wp2_with fail
      go_roundw
      case rel => exact ⟨3, by omega, rfl, by rw [w_shr _ 31 _ (by decide), w_xor, w_id]; rfl, below_drewN (hb.alloc hb.size _) _⟩
      case measure => simp [intOf]
    · go_wp2_with fail
      go_ret
      exact ⟨rfl, hb⟩

def TurnedAt (b : Nat) (w : World) : Prop := Hid (w.cell? ⟨b, 0, none⟩ = some (.int .i64 31) ∧ w.cell? ⟨b, 1, none⟩ = some (.int .u64 1) ∧ w.cell? ⟨b, 2, none⟩ = some (.int .i64 27) ∧ w.cell? ⟨b, 3, none⟩ = some (.int .u64 10723151780598845931) ∧ w.cell? ⟨b, 4, none⟩ = some (.int .i64 30) ∧ w.cell? ⟨b, 5, none⟩ = some (.int .u64 13787848793156543929))
set_option maxRecDepth 100000 in
theorem reverse_any (b n0 : Nat) (cap : Nat) (w : World) (hb : n0 ≤ b) (hbl : b < w.heap.size)
    (hc : Hid (w.cell? ⟨b, 0, none⟩ = some (.int .i64 30) ∧ w.cell? ⟨b, 1, none⟩ = some (.int .u64 13787848793156543929) ∧ w.cell? ⟨b, 2, none⟩ = some (.int .i64 27) ∧ w.cell? ⟨b, 3, none⟩ = some (.int .u64 10723151780598845931) ∧ w.cell? ⟨b, 4, none⟩ = some (.int .i64 31) ∧ w.cell? ⟨b, 5, none⟩ = some (.int .u64 1)))
    (hf : Hid (∀ j, w.frozen? ⟨b, j, none⟩ = false)) :
    Calls Try.prog 55 #[.slice (some ⟨b, 0, none⟩) 3 cap] w fun e w' => e = .returned (.tuple #[]) ∧ Below n0 w w' ∧ TurnedAt b w' := by
  obtain ⟨h0, h1, h2, h3, h4, h5⟩ := hc.out
  have f0 := hf.out 0
  have f1 := hf.out 1
  have f4 := hf.out 4
  have f5 := hf.out 5
  go_enter Try.func55, Try.ntmps55
  go_wp2_with fail
  go_loopw [2, 3] (fun i j wr => (i = .int .i64 0 ∧ j = .int .i64 2 ∧ wr = w) ∨ (i = .int .i64 1 ∧ j = .int .i64 1 ∧ Below n0 w wr ∧ TurnedAt b wr)) (fun i _ _ => 1 - (intOf i).toNat)
  case atStart => exact Or.inl ⟨rfl, rfl, rfl⟩
  case round =>
    rcases hrel with ⟨rfl, rfl, rfl⟩ | ⟨rfl, rfl, hb1, ht⟩
    · go_wp2_with fail
      go_region
      go_wp2_with fail
      go_roundw
      case rel => exact Or.inr ⟨rfl, rfl, (by repeat (first | exact Below.refl _ _ | assumption | refine Below.alloc ?_ (by simp; try omega) _ | refine Below.drew ?_ | refine Below.setCell ?_ (by simp; try omega) _)), Lib.hid (by simp [go_sem, h0, h1, h2, h3, h4, h5])⟩
      case measure => simp [intOf]
    · go_wp2_with fail
      refine bodyPost_end (results_none rfl _ _ _) rfl ?_
      exact ⟨rfl, hb1, ht⟩

theorem inverse_1 (w : World) : Calls Try.prog 56 #[.int .u64 1] w fun e w' => e = .returned (.int .u64 1) ∧ w = w' := inverse_any 1#64 w
theorem inverse_c1 (w : World) : Calls Try.prog 56 #[.int .u64 13787848793156543929] w fun e w' => e = .returned (.int .u64 (d1.toNat : Int)) ∧ w = w' := inverse_any c1 w
theorem inverse_c2 (w : World) : Calls Try.prog 56 #[.int .u64 10723151780598845931] w fun e w' => e = .returned (.int .u64 (d2.toNat : Int)) ∧ w = w' := inverse_any c2 w
def yst (k : Nat) (z : Wd) : Nat → Wd
  | 0 => z
  | 1 => z ^^^ (z >>> k)
  | _ => ux k z
theorem yst_zero (k : Nat) (z : Wd) : yst k z 0 = z := rfl
theorem yst_one (k : Nat) (z : Wd) : z ^^^ (yst k z 0 >>> k) = yst k z 1 := rfl
theorem yst_two (k : Nat) (z : Wd) : z ^^^ (yst k z 1 >>> k) = yst k z 2 := by
  show z ^^^ ((z ^^^ (z >>> k)) >>> k) = z ^^^ (z >>> k) ^^^ (z >>> (2 * k))
  apply BitVec.eq_of_getLsbD_eq; intro i hi
  simp only [BitVec.getLsbD_xor, BitVec.getLsbD_ushiftRight]
  have e : 2 * k + i = k + (k + i) := by omega
  rw [e]
  cases z.getLsbD i <;> cases z.getLsbD (k + i) <;> cases z.getLsbD (k + (k + i)) <;> rfl
def ust (x : Wd) : Nat → Wd
  | 0 => x
  | 1 => ux 31 x
  | 2 => ux 27 (ux 31 x * d2)
  | _ => unmix x
theorem ust_zero (x : Wd) : ust x 0 = x := rfl
theorem ust_one (x : Wd) : yst 31 (ust x 0) 2 = ust x 1 := by simp only [yst, ust]
theorem ust_two (x : Wd) : yst 27 (ust x 1 * d2) 2 = ust x 2 := by simp only [yst, ust]
theorem ust_three (x : Wd) : yst 30 (ust x 2 * d1) 2 = ust x 3 := by simp only [yst, ust, unmix]
theorem ust_end (x : Wd) : ust x 3 = unmix x := rfl
theorem run_turn0 (W : World) : Sem.run Try.prog (Instr.index 78 (.agg #[.int .i64 31, .int .u64 1, .int .i64 27, .int .u64 10723151780598845931, .int .i64 30, .int .u64 13787848793156543929]) (.int .i64 0)) W = .ok (.agg #[.int .i64 31, .int .u64 1]) W := by kernel_rfl
theorem run_turn1 (W : World) : Sem.run Try.prog (Instr.index 78 (.agg #[.int .i64 31, .int .u64 1, .int .i64 27, .int .u64 10723151780598845931, .int .i64 30, .int .u64 13787848793156543929]) (.int .i64 1)) W = .ok (.agg #[.int .i64 27, .int .u64 10723151780598845931]) W := by kernel_rfl
theorem run_turn2 (W : World) : Sem.run Try.prog (Instr.index 78 (.agg #[.int .i64 31, .int .u64 1, .int .i64 27, .int .u64 10723151780598845931, .int .i64 30, .int .u64 13787848793156543929]) (.int .i64 2)) W = .ok (.agg #[.int .i64 30, .int .u64 13787848793156543929]) W := by kernel_rfl
end Go.Proofs.Ytodaembemcljnaa
