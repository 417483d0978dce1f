/-
  NARROWER THAN 'FOR EVERY INPUT', by the rows' own cells (each row's printed sentence says how): FormatApart: loops · FormatWrong: loops · FormatPart: loops.
  DERIVED. THE GIVEN ROWS OF THIS SEAT. 3 by the template 'for every input the law returns true; each argument reads behind the call as it read before'; 0 by the template 'total and deterministic' (their statements: YtollifednpjkeaaTotals.lean).
  GIVEN WITH THE SEED: the statements are not yours to turn. If you find one false, say at which input.
  Laid BY PROGRAM, IN A SANDBOX (cutbox-rows.mjs): the forced cells as the released guide's own fill.sh prints them over the translation cde910d8f1eb29a3… (all of the seat's roots in one cut). By AI agents, Wed Nov 11 2026. No macro, syntax, notation, axiom, sorry.
-/
import Derived.Test.YtollifednpjkeaaChecked
import GoSem.Claim
import GoSem.ClaimJoined
import GoSem.ClaimMapViews
import Derived.JoinedTies
import Derived.KernelRfl
namespace Go.Proofs.Ytollifednpjkeaa
/- THE CELL 'sum', in the pinned program and in every row, IS THE sha256 OF THE DUMP (.gsa) THAT YtollifednpjkeaaProg.lean LOADS. Nothing in Lean hashes anything: it is a label: what it is worth is what the hold of that sum in a sandbox is worth. -/
noncomputable def Try.pinned : Pinned := { name := "ytollifednpjkeaa", sum := "cde910d8f1eb29a3b2cb9c3d5e76f52bc4f5bf7aac80943ac5b42fed7991045c", checked := Try.checked }
namespace Rows
def none {H : Type} : Left H := { results := [], args := [] }

/-- 'lyceumlaw06.FormatApart': WHATEVER THE INPUT: true; the input reads as it did. -/
def formatApartSpec : ChangeSpec := { name := "formatApart", fn := fun _ => fun
  | [d1, d2] => { results := [.lit (.bool true)], args := [d1, d2] }
  | _ => none }
def formatApartRow : OpenClaim := { program := "ytollifednpjkeaa", sum := "cde910d8f1eb29a3b2cb9c3d5e76f52bc4f5bf7aac80943ac5b42fed7991045c", func := "lyceum/lyceumlaw06.FormatApart", spec := "formatApart", inPlace := ["internal/abi.NoEscape", "internal/bytealg.MakeNoZero"], unfollowed := true, recurses := true, loops := true, apart := false }
def FormatApartSaid : Prop := formatApartRow.holds Try.pinned (OpenSpec.ofChange formatApartSpec)

/-- ITS FALSE NEIGHBOUR: 'it returns false'. Refute it at one input. -/
def formatApartWrong : ChangeSpec := { name := "formatApart", fn := fun _ => fun
  | [d1, d2] => { results := [.lit (.bool false)], args := [d1, d2] }
  | _ => none }
def FormatApartWrongFalsely : Prop := formatApartRow.holds Try.pinned (OpenSpec.ofChange formatApartWrong)

/-- 'lyceumlaw06.FormatWrong': WHATEVER THE INPUT: true; the input reads as it did. -/
def formatWrongSpec : ChangeSpec := { name := "formatWrong", fn := fun _ => fun
  | [d1, d2, d3] => { results := [.lit (.bool true)], args := [d1, d2, d3] }
  | _ => none }
def formatWrongRow : OpenClaim := { program := "ytollifednpjkeaa", sum := "cde910d8f1eb29a3b2cb9c3d5e76f52bc4f5bf7aac80943ac5b42fed7991045c", func := "lyceum/lyceumlaw06.FormatWrong", spec := "formatWrong", inPlace := ["internal/abi.NoEscape", "internal/bytealg.MakeNoZero"], unfollowed := true, recurses := true, loops := true, apart := false }
def FormatWrongSaid : Prop := formatWrongRow.holds Try.pinned (OpenSpec.ofChange formatWrongSpec)

/-- ITS FALSE NEIGHBOUR: 'it returns false'. Refute it at one input. -/
def formatWrongWrong : ChangeSpec := { name := "formatWrong", fn := fun _ => fun
  | [d1, d2, d3] => { results := [.lit (.bool false)], args := [d1, d2, d3] }
  | _ => none }
def FormatWrongWrongFalsely : Prop := formatWrongRow.holds Try.pinned (OpenSpec.ofChange formatWrongWrong)

/-- 'lyceumlaw06.FormatPart': WHATEVER THE INPUT: true; the input reads as it did. -/
def formatPartSpec : ChangeSpec := { name := "formatPart", fn := fun _ => fun
  | [d1, d2] => { results := [.lit (.bool true)], args := [d1, d2] }
  | _ => none }
def formatPartRow : OpenClaim := { program := "ytollifednpjkeaa", sum := "cde910d8f1eb29a3b2cb9c3d5e76f52bc4f5bf7aac80943ac5b42fed7991045c", func := "lyceum/lyceumlaw06.FormatPart", spec := "formatPart", inPlace := ["internal/abi.NoEscape", "internal/bytealg.MakeNoZero", "internal/bytealg.IndexByteString", "internal/bytealg.IndexString"], unfollowed := true, recurses := true, named := ["internal/bytealg.MaxLen"], loops := true, apart := false }
def FormatPartSaid : Prop := formatPartRow.holds Try.pinned (OpenSpec.ofChange formatPartSpec)

/-- ITS FALSE NEIGHBOUR: 'it returns false'. Refute it at one input. -/
def formatPartWrong : ChangeSpec := { name := "formatPart", fn := fun _ => fun
  | [d1, d2] => { results := [.lit (.bool false)], args := [d1, d2] }
  | _ => none }
def FormatPartWrongFalsely : Prop := formatPartRow.holds Try.pinned (OpenSpec.ofChange formatPartWrong)

/- THE SECOND FORM. 'bulk': how many values and letters a reading holds, each counted each time it is reached (what is shared counts as often as it is met; a slice's spare places count too). A statement '..UptoSaid' is the law's where the arguments, and the package variables that the reading takes, are together of bulk at most 1048576: NARROWER than '..Said'. Prove '..Said' where nothing that the law and all that it calls make is longer than what came in: it says more and counts as full. Else prove '..UptoSaid'. A law counts once. -/
mutual
def uptoBulk {H : Type} : DataW H → Nat
  | .lit (.string bytes) => bytes.length + 1
  | .lit _ => 1
  | .nil => 1
  | .ptr d => uptoBulk d + 1
  | .slice elems spare => uptoBulkAll elems + uptoBulkAll spare + 1
  | .agg parts => uptoBulkAll parts + 1
  | .iface _ d => uptoBulk d + 1
  | .map entries => uptoBulkEntries entries + 1
  | .held _ => 1
def uptoBulkAll {H : Type} : List (DataW H) → Nat
  | [] => 0
  | d :: r => uptoBulk d + uptoBulkAll r
def uptoBulkEntries {H : Type} : List (Lit × DataW H) → Nat
  | [] => 0
  | x :: r => uptoBulkEntry x + uptoBulkEntries r
def uptoBulkEntry {H : Type} : Lit × DataW H → Nat
  | (.string bytes, d) => bytes.length + uptoBulk d + 1
  | (_, d) => uptoBulk d + 1
 end
def uptoSmall : (H : Type) → List (DataW H) → Bool := fun _ ds => decide (uptoBulkAll ds ≤ 1048576)
def OpenSpec.upto (s : _root_.Go.ChangeSpec) : _root_.Go.OpenSpec := { _root_.Go.OpenSpec.ofChange s with cond := some uptoSmall }

/-- 'lyceumlaw06.FormatApart', WHERE WHAT IT READS IS OF BULK AT MOST 1048576: true; the input reads as it did. -/
def formatApartUptoRow : OpenClaim := { program := "ytollifednpjkeaa", sum := "cde910d8f1eb29a3b2cb9c3d5e76f52bc4f5bf7aac80943ac5b42fed7991045c", func := "lyceum/lyceumlaw06.FormatApart", spec := "formatApart", inPlace := ["internal/abi.NoEscape", "internal/bytealg.MakeNoZero"], unfollowed := true, recurses := true, loops := true, apart := false, narrowed := true }
def FormatApartUptoSaid : Prop := formatApartUptoRow.holds Try.pinned (OpenSpec.upto formatApartSpec)

/-- 'lyceumlaw06.FormatWrong', WHERE WHAT IT READS IS OF BULK AT MOST 1048576: true; the input reads as it did. -/
def formatWrongUptoRow : OpenClaim := { program := "ytollifednpjkeaa", sum := "cde910d8f1eb29a3b2cb9c3d5e76f52bc4f5bf7aac80943ac5b42fed7991045c", func := "lyceum/lyceumlaw06.FormatWrong", spec := "formatWrong", inPlace := ["internal/abi.NoEscape", "internal/bytealg.MakeNoZero"], unfollowed := true, recurses := true, loops := true, apart := false, narrowed := true }
def FormatWrongUptoSaid : Prop := formatWrongUptoRow.holds Try.pinned (OpenSpec.upto formatWrongSpec)

/-- 'lyceumlaw06.FormatPart', WHERE WHAT IT READS IS OF BULK AT MOST 1048576: true; the input reads as it did. -/
def formatPartUptoRow : OpenClaim := { program := "ytollifednpjkeaa", sum := "cde910d8f1eb29a3b2cb9c3d5e76f52bc4f5bf7aac80943ac5b42fed7991045c", func := "lyceum/lyceumlaw06.FormatPart", spec := "formatPart", inPlace := ["internal/abi.NoEscape", "internal/bytealg.MakeNoZero", "internal/bytealg.IndexByteString", "internal/bytealg.IndexString"], unfollowed := true, recurses := true, named := ["internal/bytealg.MaxLen"], loops := true, apart := false, narrowed := true }
def FormatPartUptoSaid : Prop := formatPartUptoRow.holds Try.pinned (OpenSpec.upto formatPartSpec)

end Rows
end Go.Proofs.Ytollifednpjkeaa
