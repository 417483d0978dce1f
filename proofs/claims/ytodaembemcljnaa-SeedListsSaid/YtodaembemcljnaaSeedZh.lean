import Derived.Test.YtodaembemcljnaaSeedZg
/-
  SeedSteps.
-/
namespace Go.Proofs.Ytodaembemcljnaa
open Go.RowKit
set_option linter.unusedVariables false
theorem u8_of (a : Int) (h : (Lit.int .u8 a).wf = true) : 0 ≤ a ∧ a ≤ 255 := by
  simpa [Lit.wf, IntKind.min, IntKind.max, IntKind.signed, IntKind.bits] using h
theorem seedSteps_yes (k a z m : Int) (hk : (Lit.int .u64 k).wf = true) (ha : (Lit.int .i64 a).wf = true) (hz : (Lit.int .u8 z).wf = true) (hm : (Lit.int .u8 m).wf = true) (w : World) :
    Calls Try.prog 6 #[.int .u64 k, .int .i64 a, .int .u8 z, .int .u8 m] w fun e w' => e = .returned (.bool true) ∧ Below w.heap.size w w' := by
  obtain ⟨x, rfl⟩ := wd_of k hk
  exact seedSteps_walk x a z m (i64_of a ha) (u8_of z hz) (u8_of m hm) w
end Go.Proofs.Ytodaembemcljnaa
