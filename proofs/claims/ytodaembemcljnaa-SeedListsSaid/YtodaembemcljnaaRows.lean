/-
  No cell of these rows narrows 'for every input' (looked for: loops, veiled, ifaces, maps, wideKeys, modest, calm, conditions, laid).
  DERIVED. THE GIVEN ROWS OF THIS SEAT. 9 by the template 'for every input the law returns true; each argument reads behind the call as it read before'; 0 by the template 'total and deterministic' (their statements: YtodaembemcljnaaTotals.lean).
  GIVEN WITH THE SEED: the statements are not yours to turn. If you find one false, say at which input.
  Laid BY PROGRAM, IN A SANDBOX (cutbox-rows.mjs): the forced cells as the released guide's own fill.sh prints them over the translation b5f19eaa2e3535e3… (all of the seat's roots in one cut). By AI agents, Wed Nov 11 2026. No macro, syntax, notation, axiom, sorry.
-/
import Derived.Test.YtodaembemcljnaaChecked
import GoSem.Claim
import GoSem.ClaimJoined
import GoSem.ClaimMapViews
import Derived.JoinedTies
import Derived.KernelRfl
namespace Go.Proofs.Ytodaembemcljnaa
/- THE CELL 'sum', in the pinned program and in every row, IS THE sha256 OF THE DUMP (.gsa) THAT YtodaembemcljnaaProg.lean LOADS. Nothing in Lean hashes anything: it is a label: what it is worth is what the hold of that sum in a sandbox is worth. -/
noncomputable def Try.pinned : Pinned := { name := "ytodaembemcljnaa", sum := "b5f19eaa2e3535e351752b77dc4c3274d9a2b9ad94f2586514b1974c94317827", checked := Try.checked }
namespace Rows
def none {H : Type} : Left H := { results := [], args := [] }

/-- 'lyceumlaw01.SeedDraws': WHATEVER THE INPUT: true; the input reads as it did. -/
def seedDrawsSpec : ChangeSpec := { name := "seedDraws", fn := fun _ => fun
  | [d1, d2, d3, d4] => { results := [.lit (.bool true)], args := [d1, d2, d3, d4] }
  | _ => none }
def seedDrawsRow : OpenClaim := { program := "ytodaembemcljnaa", sum := "b5f19eaa2e3535e351752b77dc4c3274d9a2b9ad94f2586514b1974c94317827", func := "lyceum/lyceumlaw01.SeedDraws", spec := "seedDraws", unfollowed := true, recurses := true, apart := false }
def SeedDrawsSaid : Prop := seedDrawsRow.holds Try.pinned (OpenSpec.ofChange seedDrawsSpec)

/-- ITS FALSE NEIGHBOUR: 'it returns false'. Refute it at one input. -/
def seedDrawsWrong : ChangeSpec := { name := "seedDraws", fn := fun _ => fun
  | [d1, d2, d3, d4] => { results := [.lit (.bool false)], args := [d1, d2, d3, d4] }
  | _ => none }
def SeedDrawsWrongFalsely : Prop := seedDrawsRow.holds Try.pinned (OpenSpec.ofChange seedDrawsWrong)

/-- 'lyceumlaw01.SeedWeighs': WHATEVER THE INPUT: true; the input reads as it did. -/
def seedWeighsSpec : ChangeSpec := { name := "seedWeighs", fn := fun _ => fun
  | [d1, d2, d3] => { results := [.lit (.bool true)], args := [d1, d2, d3] }
  | _ => none }
def seedWeighsRow : OpenClaim := { program := "ytodaembemcljnaa", sum := "b5f19eaa2e3535e351752b77dc4c3274d9a2b9ad94f2586514b1974c94317827", func := "lyceum/lyceumlaw01.SeedWeighs", spec := "seedWeighs", unfollowed := true, recurses := true, apart := false }
def SeedWeighsSaid : Prop := seedWeighsRow.holds Try.pinned (OpenSpec.ofChange seedWeighsSpec)

/-- ITS FALSE NEIGHBOUR: 'it returns false'. Refute it at one input. -/
def seedWeighsWrong : ChangeSpec := { name := "seedWeighs", fn := fun _ => fun
  | [d1, d2, d3] => { results := [.lit (.bool false)], args := [d1, d2, d3] }
  | _ => none }
def SeedWeighsWrongFalsely : Prop := seedWeighsRow.holds Try.pinned (OpenSpec.ofChange seedWeighsWrong)

/-- 'lyceumlaw01.SeedFair': WHATEVER THE INPUT: true; the input reads as it did. -/
def seedFairSpec : ChangeSpec := { name := "seedFair", fn := fun _ => fun
  | [d1, d2] => { results := [.lit (.bool true)], args := [d1, d2] }
  | _ => none }
def seedFairRow : OpenClaim := { program := "ytodaembemcljnaa", sum := "b5f19eaa2e3535e351752b77dc4c3274d9a2b9ad94f2586514b1974c94317827", func := "lyceum/lyceumlaw01.SeedFair", spec := "seedFair", unfollowed := true, recurses := true, apart := false }
def SeedFairSaid : Prop := seedFairRow.holds Try.pinned (OpenSpec.ofChange seedFairSpec)

/-- ITS FALSE NEIGHBOUR: 'it returns false'. Refute it at one input. -/
def seedFairWrong : ChangeSpec := { name := "seedFair", fn := fun _ => fun
  | [d1, d2] => { results := [.lit (.bool false)], args := [d1, d2] }
  | _ => none }
def SeedFairWrongFalsely : Prop := seedFairRow.holds Try.pinned (OpenSpec.ofChange seedFairWrong)

/-- 'lyceumlaw01.SeedSteps': WHATEVER THE INPUT: true; the input reads as it did. -/
def seedStepsSpec : ChangeSpec := { name := "seedSteps", fn := fun _ => fun
  | [d1, d2, d3, d4] => { results := [.lit (.bool true)], args := [d1, d2, d3, d4] }
  | _ => none }
def seedStepsRow : OpenClaim := { program := "ytodaembemcljnaa", sum := "b5f19eaa2e3535e351752b77dc4c3274d9a2b9ad94f2586514b1974c94317827", func := "lyceum/lyceumlaw01.SeedSteps", spec := "seedSteps", unfollowed := true, recurses := true, apart := false }
def SeedStepsSaid : Prop := seedStepsRow.holds Try.pinned (OpenSpec.ofChange seedStepsSpec)

/-- ITS FALSE NEIGHBOUR: 'it returns false'. Refute it at one input. -/
def seedStepsWrong : ChangeSpec := { name := "seedSteps", fn := fun _ => fun
  | [d1, d2, d3, d4] => { results := [.lit (.bool false)], args := [d1, d2, d3, d4] }
  | _ => none }
def SeedStepsWrongFalsely : Prop := seedStepsRow.holds Try.pinned (OpenSpec.ofChange seedStepsWrong)

/-- 'lyceumlaw01.SeedLists': WHATEVER THE INPUT: true; the input reads as it did. -/
def seedListsSpec : ChangeSpec := { name := "seedLists", fn := fun _ => fun
  | [d1, d2, d3, d4, d5] => { results := [.lit (.bool true)], args := [d1, d2, d3, d4, d5] }
  | _ => none }
def seedListsRow : OpenClaim := { program := "ytodaembemcljnaa", sum := "b5f19eaa2e3535e351752b77dc4c3274d9a2b9ad94f2586514b1974c94317827", func := "lyceum/lyceumlaw01.SeedLists", spec := "seedLists", unfollowed := true, recurses := true, apart := false }
def SeedListsSaid : Prop := seedListsRow.holds Try.pinned (OpenSpec.ofChange seedListsSpec)

/-- ITS FALSE NEIGHBOUR: 'it returns false'. Refute it at one input. -/
def seedListsWrong : ChangeSpec := { name := "seedLists", fn := fun _ => fun
  | [d1, d2, d3, d4, d5] => { results := [.lit (.bool false)], args := [d1, d2, d3, d4, d5] }
  | _ => none }
def SeedListsWrongFalsely : Prop := seedListsRow.holds Try.pinned (OpenSpec.ofChange seedListsWrong)

/-- 'lyceumlaw01.SeedWrong': WHATEVER THE INPUT: true; the input reads as it did. -/
def seedWrongSpec : ChangeSpec := { name := "seedWrong", fn := fun _ => fun
  | [d1, d2, d3] => { results := [.lit (.bool true)], args := [d1, d2, d3] }
  | _ => none }
def seedWrongRow : OpenClaim := { program := "ytodaembemcljnaa", sum := "b5f19eaa2e3535e351752b77dc4c3274d9a2b9ad94f2586514b1974c94317827", func := "lyceum/lyceumlaw01.SeedWrong", spec := "seedWrong", unfollowed := true, recurses := true, apart := false }
def SeedWrongSaid : Prop := seedWrongRow.holds Try.pinned (OpenSpec.ofChange seedWrongSpec)

/-- ITS FALSE NEIGHBOUR: 'it returns false'. Refute it at one input. -/
def seedWrongWrong : ChangeSpec := { name := "seedWrong", fn := fun _ => fun
  | [d1, d2, d3] => { results := [.lit (.bool false)], args := [d1, d2, d3] }
  | _ => none }
def SeedWrongWrongFalsely : Prop := seedWrongRow.holds Try.pinned (OpenSpec.ofChange seedWrongWrong)

/-- 'lyceumlaw01.SeedTells': WHATEVER THE INPUT: true; the input reads as it did. -/
def seedTellsSpec : ChangeSpec := { name := "seedTells", fn := fun _ => fun
  | [d1, d2, d3, d4] => { results := [.lit (.bool true)], args := [d1, d2, d3, d4] }
  | _ => none }
def seedTellsRow : OpenClaim := { program := "ytodaembemcljnaa", sum := "b5f19eaa2e3535e351752b77dc4c3274d9a2b9ad94f2586514b1974c94317827", func := "lyceum/lyceumlaw01.SeedTells", spec := "seedTells", unfollowed := true, recurses := true, apart := false }
def SeedTellsSaid : Prop := seedTellsRow.holds Try.pinned (OpenSpec.ofChange seedTellsSpec)

/-- ITS FALSE NEIGHBOUR: 'it returns false'. Refute it at one input. -/
def seedTellsWrong : ChangeSpec := { name := "seedTells", fn := fun _ => fun
  | [d1, d2, d3, d4] => { results := [.lit (.bool false)], args := [d1, d2, d3, d4] }
  | _ => none }
def SeedTellsWrongFalsely : Prop := seedTellsRow.holds Try.pinned (OpenSpec.ofChange seedTellsWrong)

/-- 'lyceumlaw01.SeedSmall': WHATEVER THE INPUT: true; the input reads as it did. -/
def seedSmallSpec : ChangeSpec := { name := "seedSmall", fn := fun _ => fun
  | [] => { results := [.lit (.bool true)], args := [] }
  | _ => none }
def seedSmallRow : OpenClaim := { program := "ytodaembemcljnaa", sum := "b5f19eaa2e3535e351752b77dc4c3274d9a2b9ad94f2586514b1974c94317827", func := "lyceum/lyceumlaw01.SeedSmall", spec := "seedSmall", unfollowed := true, recurses := true, apart := false }
def SeedSmallSaid : Prop := seedSmallRow.holds Try.pinned (OpenSpec.ofChange seedSmallSpec)

/-- ITS FALSE NEIGHBOUR: 'it returns false'. Refute it at one input. -/
def seedSmallWrong : ChangeSpec := { name := "seedSmall", fn := fun _ => fun
  | [] => { results := [.lit (.bool false)], args := [] }
  | _ => none }
def SeedSmallWrongFalsely : Prop := seedSmallRow.holds Try.pinned (OpenSpec.ofChange seedSmallWrong)

/-- 'lyceumlaw01.SeedApart': WHATEVER THE INPUT: true; the input reads as it did. -/
def seedApartSpec : ChangeSpec := { name := "seedApart", fn := fun _ => fun
  | [d1, d2, d3, d4, d5, d6, d7] => { results := [.lit (.bool true)], args := [d1, d2, d3, d4, d5, d6, d7] }
  | _ => none }
def seedApartRow : OpenClaim := { program := "ytodaembemcljnaa", sum := "b5f19eaa2e3535e351752b77dc4c3274d9a2b9ad94f2586514b1974c94317827", func := "lyceum/lyceumlaw01.SeedApart", spec := "seedApart", unfollowed := true, recurses := true, apart := false }
def SeedApartSaid : Prop := seedApartRow.holds Try.pinned (OpenSpec.ofChange seedApartSpec)

/-- ITS FALSE NEIGHBOUR: 'it returns false'. Refute it at one input. -/
def seedApartWrong : ChangeSpec := { name := "seedApart", fn := fun _ => fun
  | [d1, d2, d3, d4, d5, d6, d7] => { results := [.lit (.bool false)], args := [d1, d2, d3, d4, d5, d6, d7] }
  | _ => none }
def SeedApartWrongFalsely : Prop := seedApartRow.holds Try.pinned (OpenSpec.ofChange seedApartWrong)

/- THE SECOND FORM. 'bulk': how many values and letters a reading holds, each counted each time it is reached (what is shared counts as often as it is met; a slice's spare places count too). A statement '..UptoSaid' is the law's where the arguments, and the package variables that the reading takes, are together of bulk at most 1048576: NARROWER than '..Said'. Prove '..Said' where nothing that the law and all that it calls make is longer than what came in: it says more and counts as full. Else prove '..UptoSaid'. A law counts once. -/
mutual
def uptoBulk {H : Type} : DataW H → Nat
  | .lit (.string bytes) => bytes.length + 1
  | .lit _ => 1
  | .nil => 1
  | .ptr d => uptoBulk d + 1
  | .slice elems spare => uptoBulkAll elems + uptoBulkAll spare + 1
  | .agg parts => uptoBulkAll parts + 1
  | .iface _ d => uptoBulk d + 1
  | .map entries => uptoBulkEntries entries + 1
  | .held _ => 1
def uptoBulkAll {H : Type} : List (DataW H) → Nat
  | [] => 0
  | d :: r => uptoBulk d + uptoBulkAll r
def uptoBulkEntries {H : Type} : List (Lit × DataW H) → Nat
  | [] => 0
  | x :: r => uptoBulkEntry x + uptoBulkEntries r
def uptoBulkEntry {H : Type} : Lit × DataW H → Nat
  | (.string bytes, d) => bytes.length + uptoBulk d + 1
  | (_, d) => uptoBulk d + 1
 end
def uptoSmall : (H : Type) → List (DataW H) → Bool := fun _ ds => decide (uptoBulkAll ds ≤ 1048576)
def OpenSpec.upto (s : _root_.Go.ChangeSpec) : _root_.Go.OpenSpec := { _root_.Go.OpenSpec.ofChange s with cond := some uptoSmall }

/-- 'lyceumlaw01.SeedDraws', WHERE WHAT IT READS IS OF BULK AT MOST 1048576: true; the input reads as it did. -/
def seedDrawsUptoRow : OpenClaim := { program := "ytodaembemcljnaa", sum := "b5f19eaa2e3535e351752b77dc4c3274d9a2b9ad94f2586514b1974c94317827", func := "lyceum/lyceumlaw01.SeedDraws", spec := "seedDraws", unfollowed := true, recurses := true, apart := false, narrowed := true }
def SeedDrawsUptoSaid : Prop := seedDrawsUptoRow.holds Try.pinned (OpenSpec.upto seedDrawsSpec)

/-- 'lyceumlaw01.SeedWeighs', WHERE WHAT IT READS IS OF BULK AT MOST 1048576: true; the input reads as it did. -/
def seedWeighsUptoRow : OpenClaim := { program := "ytodaembemcljnaa", sum := "b5f19eaa2e3535e351752b77dc4c3274d9a2b9ad94f2586514b1974c94317827", func := "lyceum/lyceumlaw01.SeedWeighs", spec := "seedWeighs", unfollowed := true, recurses := true, apart := false, narrowed := true }
def SeedWeighsUptoSaid : Prop := seedWeighsUptoRow.holds Try.pinned (OpenSpec.upto seedWeighsSpec)

/-- 'lyceumlaw01.SeedFair', WHERE WHAT IT READS IS OF BULK AT MOST 1048576: true; the input reads as it did. -/
def seedFairUptoRow : OpenClaim := { program := "ytodaembemcljnaa", sum := "b5f19eaa2e3535e351752b77dc4c3274d9a2b9ad94f2586514b1974c94317827", func := "lyceum/lyceumlaw01.SeedFair", spec := "seedFair", unfollowed := true, recurses := true, apart := false, narrowed := true }
def SeedFairUptoSaid : Prop := seedFairUptoRow.holds Try.pinned (OpenSpec.upto seedFairSpec)

/-- 'lyceumlaw01.SeedSteps', WHERE WHAT IT READS IS OF BULK AT MOST 1048576: true; the input reads as it did. -/
def seedStepsUptoRow : OpenClaim := { program := "ytodaembemcljnaa", sum := "b5f19eaa2e3535e351752b77dc4c3274d9a2b9ad94f2586514b1974c94317827", func := "lyceum/lyceumlaw01.SeedSteps", spec := "seedSteps", unfollowed := true, recurses := true, apart := false, narrowed := true }
def SeedStepsUptoSaid : Prop := seedStepsUptoRow.holds Try.pinned (OpenSpec.upto seedStepsSpec)

/-- 'lyceumlaw01.SeedLists', WHERE WHAT IT READS IS OF BULK AT MOST 1048576: true; the input reads as it did. -/
def seedListsUptoRow : OpenClaim := { program := "ytodaembemcljnaa", sum := "b5f19eaa2e3535e351752b77dc4c3274d9a2b9ad94f2586514b1974c94317827", func := "lyceum/lyceumlaw01.SeedLists", spec := "seedLists", unfollowed := true, recurses := true, apart := false, narrowed := true }
def SeedListsUptoSaid : Prop := seedListsUptoRow.holds Try.pinned (OpenSpec.upto seedListsSpec)

/-- 'lyceumlaw01.SeedWrong', WHERE WHAT IT READS IS OF BULK AT MOST 1048576: true; the input reads as it did. -/
def seedWrongUptoRow : OpenClaim := { program := "ytodaembemcljnaa", sum := "b5f19eaa2e3535e351752b77dc4c3274d9a2b9ad94f2586514b1974c94317827", func := "lyceum/lyceumlaw01.SeedWrong", spec := "seedWrong", unfollowed := true, recurses := true, apart := false, narrowed := true }
def SeedWrongUptoSaid : Prop := seedWrongUptoRow.holds Try.pinned (OpenSpec.upto seedWrongSpec)

/-- 'lyceumlaw01.SeedTells', WHERE WHAT IT READS IS OF BULK AT MOST 1048576: true; the input reads as it did. -/
def seedTellsUptoRow : OpenClaim := { program := "ytodaembemcljnaa", sum := "b5f19eaa2e3535e351752b77dc4c3274d9a2b9ad94f2586514b1974c94317827", func := "lyceum/lyceumlaw01.SeedTells", spec := "seedTells", unfollowed := true, recurses := true, apart := false, narrowed := true }
def SeedTellsUptoSaid : Prop := seedTellsUptoRow.holds Try.pinned (OpenSpec.upto seedTellsSpec)

/-- 'lyceumlaw01.SeedSmall', WHERE WHAT IT READS IS OF BULK AT MOST 1048576: true; the input reads as it did. -/
def seedSmallUptoRow : OpenClaim := { program := "ytodaembemcljnaa", sum := "b5f19eaa2e3535e351752b77dc4c3274d9a2b9ad94f2586514b1974c94317827", func := "lyceum/lyceumlaw01.SeedSmall", spec := "seedSmall", unfollowed := true, recurses := true, apart := false, narrowed := true }
def SeedSmallUptoSaid : Prop := seedSmallUptoRow.holds Try.pinned (OpenSpec.upto seedSmallSpec)

/-- 'lyceumlaw01.SeedApart', WHERE WHAT IT READS IS OF BULK AT MOST 1048576: true; the input reads as it did. -/
def seedApartUptoRow : OpenClaim := { program := "ytodaembemcljnaa", sum := "b5f19eaa2e3535e351752b77dc4c3274d9a2b9ad94f2586514b1974c94317827", func := "lyceum/lyceumlaw01.SeedApart", spec := "seedApart", unfollowed := true, recurses := true, apart := false, narrowed := true }
def SeedApartUptoSaid : Prop := seedApartUptoRow.holds Try.pinned (OpenSpec.upto seedApartSpec)

end Rows
end Go.Proofs.Ytodaembemcljnaa
