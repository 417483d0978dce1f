import Derived.Test.YtollifednpjkeaaRows
import Derived.Test.YtollifednpjkeaaPlain
import Derived.WalkKit
import Derived.WalkSpells
import Derived.WalkLawsBesides
import Derived.Deep.QuietTactic
import Derived.BigQuiet
import Derived.Lib.Hide
import Derived.Deep.DeepFit
namespace Go.Proofs.Ytollifednpjkeaa
open Go.RowKit

theorem sdigit_any (n : Int) (w : World) :
    Calls Try.prog 87 #[.int .u8 n] w fun e w' => e = .returned (.bool (digitI n)) ∧ w = w' := by
  go_enter Try.func87, Try.ntmps87
  go_wp2
  all_goals (go_ret; exact ⟨ret_bool_iff (by simp [digitI]; omega), rfl⟩)
theorem small_any (n : Int) (w : World) :
    Calls Try.prog 104 #[.int .u8 n] w fun e w' => e = .returned (.bool (smallI n)) ∧ w = w' := by
  go_enter Try.func104, Try.ntmps104
  go_wp2
  all_goals (go_ret; exact ⟨ret_bool_iff (by simp [smallI]; omega), rfl⟩)
theorem capital_any (n : Int) (w : World) :
    Calls Try.prog 97 #[.int .u8 n] w fun e w' => e = .returned (.bool (capitalI n)) ∧ w = w' := by
  go_enter Try.func97, Try.ntmps97
  go_wp2
  all_goals (go_ret; exact ⟨ret_bool_iff (by simp [capitalI]; omega), rfl⟩)
theorem alnum_any (n : Int) (w : World) :
    Calls Try.prog 89 #[.int .u8 n] w fun e w' => e = .returned (.bool (alnumI n)) ∧ w = w' := by
  go_enter Try.func89, Try.ntmps89
  go_wp2
  all_goals (go_ret; exact ⟨ret_bool_iff (by simp [alnumI, smallI, capitalI, digitI]; omega), rfl⟩)
theorem var1_any (n : Int) (w : World) :
    Calls Try.prog 86 #[.int .u8 n] w fun e w' => e = .returned (.bool (varI n)) ∧ w = w' := by
  go_enter Try.func86, Try.ntmps86
  go_wp2
  all_goals (go_ret; exact ⟨ret_bool_iff (by simp [varI]; omega), rfl⟩)
theorem fun1_any (n : Int) (w : World) :
    Calls Try.prog 88 #[.int .u8 n] w fun e w' => e = .returned (.bool (funI n)) ∧ w = w' := by
  go_enter Try.func88, Try.ntmps88
  go_wp2
  all_goals (go_ret; exact ⟨ret_bool_iff (by simp [funI]; omega), rfl⟩)
end Go.Proofs.Ytollifednpjkeaa
