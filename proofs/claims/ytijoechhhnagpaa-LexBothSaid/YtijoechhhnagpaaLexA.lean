import Derived.Test.YtijoechhhnagpaaRows
import Derived.Test.YtijoechhhnagpaaPlain
import Derived.WalkKit
import Derived.WalkSpells
import Derived.WalkLawsBesides
import Derived.Deep.QuietTactic
import Derived.BigQuiet
import Derived.Lib.Hide
import Derived.Deep.DeepFit
namespace Go.Proofs.Ytijoechhhnagpaa
open Go.RowKit

theorem letter_any (n : Int) (w : World) :
    Calls Try.prog 26 #[.int .u8 n] w fun e w' => e = .returned (.bool (alphaI n)) ∧ w = w' := by
  go_enter Try.func26, Try.ntmps26
  go_wp2
  all_goals (go_ret; exact ⟨ret_bool_iff (by simp [alphaI, smallI, capitalI]; omega), rfl⟩)

theorem digit_any (n : Int) (w : World) :
    Calls Try.prog 42 #[.int .u8 n] w fun e w' => e = .returned (.bool (digitI n)) ∧ w = w' := by
  go_enter Try.func42, Try.ntmps42
  go_wp2
  all_goals (go_ret; exact ⟨ret_bool_iff (by simp [digitI]; omega), rfl⟩)

theorem sdigit_any (n : Int) (w : World) :
    Calls Try.prog 45 #[.int .u8 n] w fun e w' => e = .returned (.bool (digitI n)) ∧ w = w' := by
  go_enter Try.func45, Try.ntmps45
  go_wp2
  all_goals (go_ret; exact ⟨ret_bool_iff (by simp [digitI]; omega), rfl⟩)
theorem small_any (n : Int) (w : World) :
    Calls Try.prog 56 #[.int .u8 n] w fun e w' => e = .returned (.bool (smallI n)) ∧ w = w' := by
  go_enter Try.func56, Try.ntmps56
  go_wp2
  all_goals (go_ret; exact ⟨ret_bool_iff (by simp [smallI]; omega), rfl⟩)
theorem capital_any (n : Int) (w : World) :
    Calls Try.prog 48 #[.int .u8 n] w fun e w' => e = .returned (.bool (capitalI n)) ∧ w = w' := by
  go_enter Try.func48, Try.ntmps48
  go_wp2
  all_goals (go_ret; exact ⟨ret_bool_iff (by simp [capitalI]; omega), rfl⟩)
theorem alnum_any (n : Int) (w : World) :
    Calls Try.prog 47 #[.int .u8 n] w fun e w' => e = .returned (.bool (alnumI n)) ∧ w = w' := by
  go_enter Try.func47, Try.ntmps47
  go_wp2
  all_goals (go_ret; exact ⟨ret_bool_iff (by simp [alnumI, smallI, capitalI, digitI]; omega), rfl⟩)
theorem var1_any (n : Int) (w : World) :
    Calls Try.prog 44 #[.int .u8 n] w fun e w' => e = .returned (.bool (varI n)) ∧ w = w' := by
  go_enter Try.func44, Try.ntmps44
  go_wp2
  all_goals (go_ret; exact ⟨ret_bool_iff (by simp [varI]; omega), rfl⟩)
theorem fun1_any (n : Int) (w : World) :
    Calls Try.prog 46 #[.int .u8 n] w fun e w' => e = .returned (.bool (funI n)) ∧ w = w' := by
  go_enter Try.func46, Try.ntmps46
  go_wp2
  all_goals (go_ret; exact ⟨ret_bool_iff (by simp [funI]; omega), rfl⟩)
end Go.Proofs.Ytijoechhhnagpaa
