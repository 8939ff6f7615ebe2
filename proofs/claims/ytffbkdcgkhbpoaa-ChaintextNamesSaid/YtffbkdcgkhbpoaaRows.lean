/-
  NARROWER THAN 'FOR EVERY INPUT', by the rows' own cells (each row's printed sentence says how): ChaintextLines: loops · ChaintextJoined: loops · ChaintextCause: loops · ChaintextTexts: loops · ChaintextBack: loops.
  DERIVED. THE GIVEN ROWS OF THIS SEAT. 6 by the template 'for every input the law returns true; each argument reads behind the call as it read before'; 0 by the template 'total and deterministic' (their statements: YtffbkdcgkhbpoaaTotals.lean).
  GIVEN WITH THE SEED: the statements are not yours to turn. If you find one false, say at which input.
  Laid BY PROGRAM, IN A SANDBOX (cutbox-rows.mjs): the forced cells as the released guide's own fill.sh prints them over the translation ebed85c80143c005… (all of the seat's roots in one cut). By AI agents, Wed Nov 11 2026. No macro, syntax, notation, axiom, sorry.
-/
import Derived.Test.YtffbkdcgkhbpoaaChecked
import GoSem.Claim
import GoSem.ClaimJoined
import GoSem.ClaimMapViews
import Derived.JoinedTies
import Derived.KernelRfl
namespace Go.Proofs.Ytffbkdcgkhbpoaa
/- THE CELL 'sum', in the pinned program and in every row, IS THE sha256 OF THE DUMP (.gsa) THAT YtffbkdcgkhbpoaaProg.lean LOADS. Nothing in Lean hashes anything: it is a label: what it is worth is what the hold of that sum in a sandbox is worth. -/
noncomputable def Try.pinned : Pinned := { name := "ytffbkdcgkhbpoaa", sum := "ebed85c80143c00528560cb18f9d3b2f2dd3f007b7fa18e09fc4eb34398d6d96", checked := Try.checked }
namespace Rows
def none {H : Type} : Left H := { results := [], args := [] }

/-- 'wreckagelaw39.ChaintextLines': WHATEVER THE INPUT: true; the input reads as it did. -/
def chaintextLinesSpec : ChangeSpec := { name := "chaintextLines", fn := fun _ => fun
  | [d1, d2] => { results := [.lit (.bool true)], args := [d1, d2] }
  | _ => none }
def chaintextLinesRow : OpenClaim := { program := "ytffbkdcgkhbpoaa", sum := "ebed85c80143c00528560cb18f9d3b2f2dd3f007b7fa18e09fc4eb34398d6d96", func := "wreckage/wreckagelaw39.ChaintextLines", spec := "chaintextLines", inPlace := ["internal/abi.NoEscape", "internal/bytealg.IndexByteString"], recurses := true, loops := true, apart := false }
def ChaintextLinesSaid : Prop := chaintextLinesRow.holds Try.pinned (OpenSpec.ofChange chaintextLinesSpec)

/-- ITS FALSE NEIGHBOUR: 'it returns false'. Refute it at one input. -/
def chaintextLinesWrong : ChangeSpec := { name := "chaintextLines", fn := fun _ => fun
  | [d1, d2] => { results := [.lit (.bool false)], args := [d1, d2] }
  | _ => none }
def ChaintextLinesWrongFalsely : Prop := chaintextLinesRow.holds Try.pinned (OpenSpec.ofChange chaintextLinesWrong)

/-- 'wreckagelaw39.ChaintextJoined': WHATEVER THE INPUT: true; the input reads as it did. -/
def chaintextJoinedSpec : ChangeSpec := { name := "chaintextJoined", fn := fun _ => fun
  | [d1, d2] => { results := [.lit (.bool true)], args := [d1, d2] }
  | _ => none }
def chaintextJoinedRow : OpenClaim := { program := "ytffbkdcgkhbpoaa", sum := "ebed85c80143c00528560cb18f9d3b2f2dd3f007b7fa18e09fc4eb34398d6d96", func := "wreckage/wreckagelaw39.ChaintextJoined", spec := "chaintextJoined", inPlace := ["internal/abi.NoEscape", "internal/bytealg.IndexByteString"], recurses := true, loops := true, apart := false }
def ChaintextJoinedSaid : Prop := chaintextJoinedRow.holds Try.pinned (OpenSpec.ofChange chaintextJoinedSpec)

/-- ITS FALSE NEIGHBOUR: 'it returns false'. Refute it at one input. -/
def chaintextJoinedWrong : ChangeSpec := { name := "chaintextJoined", fn := fun _ => fun
  | [d1, d2] => { results := [.lit (.bool false)], args := [d1, d2] }
  | _ => none }
def ChaintextJoinedWrongFalsely : Prop := chaintextJoinedRow.holds Try.pinned (OpenSpec.ofChange chaintextJoinedWrong)

/-- 'wreckagelaw39.ChaintextCause': WHATEVER THE INPUT: true; the input reads as it did. -/
def chaintextCauseSpec : ChangeSpec := { name := "chaintextCause", fn := fun _ => fun
  | [d] => { results := [.lit (.bool true)], args := [d] }
  | _ => none }
def chaintextCauseRow : OpenClaim := { program := "ytffbkdcgkhbpoaa", sum := "ebed85c80143c00528560cb18f9d3b2f2dd3f007b7fa18e09fc4eb34398d6d96", func := "wreckage/wreckagelaw39.ChaintextCause", spec := "chaintextCause", inPlace := ["internal/abi.NoEscape", "internal/bytealg.IndexByteString"], recurses := true, loops := true, apart := false }
def ChaintextCauseSaid : Prop := chaintextCauseRow.holds Try.pinned (OpenSpec.ofChange chaintextCauseSpec)

/-- ITS FALSE NEIGHBOUR: 'it returns false'. Refute it at one input. -/
def chaintextCauseWrong : ChangeSpec := { name := "chaintextCause", fn := fun _ => fun
  | [d] => { results := [.lit (.bool false)], args := [d] }
  | _ => none }
def ChaintextCauseWrongFalsely : Prop := chaintextCauseRow.holds Try.pinned (OpenSpec.ofChange chaintextCauseWrong)

/-- 'wreckagelaw39.ChaintextTexts': WHATEVER THE INPUT: true; the input reads as it did. -/
def chaintextTextsSpec : ChangeSpec := { name := "chaintextTexts", fn := fun _ => fun
  | [d1, d2] => { results := [.lit (.bool true)], args := [d1, d2] }
  | _ => none }
def chaintextTextsRow : OpenClaim := { program := "ytffbkdcgkhbpoaa", sum := "ebed85c80143c00528560cb18f9d3b2f2dd3f007b7fa18e09fc4eb34398d6d96", func := "wreckage/wreckagelaw39.ChaintextTexts", spec := "chaintextTexts", inPlace := ["internal/abi.NoEscape", "internal/bytealg.CountString", "internal/bytealg.IndexByteString", "internal/bytealg.IndexString"], unfollowed := true, recurses := true, named := ["internal/bytealg.MaxLen"], loops := true, apart := false }
def ChaintextTextsSaid : Prop := chaintextTextsRow.holds Try.pinned (OpenSpec.ofChange chaintextTextsSpec)

/-- ITS FALSE NEIGHBOUR: 'it returns false'. Refute it at one input. -/
def chaintextTextsWrong : ChangeSpec := { name := "chaintextTexts", fn := fun _ => fun
  | [d1, d2] => { results := [.lit (.bool false)], args := [d1, d2] }
  | _ => none }
def ChaintextTextsWrongFalsely : Prop := chaintextTextsRow.holds Try.pinned (OpenSpec.ofChange chaintextTextsWrong)

/-- 'wreckagelaw39.ChaintextNames': WHATEVER THE INPUT: true; the input reads as it did. -/
def chaintextNamesSpec : ChangeSpec := { name := "chaintextNames", fn := fun _ => fun
  | [] => { results := [.lit (.bool true)], args := [] }
  | _ => none }
def chaintextNamesRow : OpenClaim := { program := "ytffbkdcgkhbpoaa", sum := "ebed85c80143c00528560cb18f9d3b2f2dd3f007b7fa18e09fc4eb34398d6d96", func := "wreckage/wreckagelaw39.ChaintextNames", spec := "chaintextNames", inPlace := ["internal/abi.NoEscape", "internal/bytealg.IndexByteString", "internal/bytealg.CountString", "internal/bytealg.IndexString"], unfollowed := true, recurses := true, named := ["internal/bytealg.MaxLen"], apart := false }
def ChaintextNamesSaid : Prop := chaintextNamesRow.holds Try.pinned (OpenSpec.ofChange chaintextNamesSpec)

/-- ITS FALSE NEIGHBOUR: 'it returns false'. Refute it at one input. -/
def chaintextNamesWrong : ChangeSpec := { name := "chaintextNames", fn := fun _ => fun
  | [] => { results := [.lit (.bool false)], args := [] }
  | _ => none }
def ChaintextNamesWrongFalsely : Prop := chaintextNamesRow.holds Try.pinned (OpenSpec.ofChange chaintextNamesWrong)

/-- 'wreckagelaw39.ChaintextBack': WHATEVER THE INPUT: true; the input reads as it did. -/
def chaintextBackSpec : ChangeSpec := { name := "chaintextBack", fn := fun _ => fun
  | [d1, d2] => { results := [.lit (.bool true)], args := [d1, d2] }
  | _ => none }
def chaintextBackRow : OpenClaim := { program := "ytffbkdcgkhbpoaa", sum := "ebed85c80143c00528560cb18f9d3b2f2dd3f007b7fa18e09fc4eb34398d6d96", func := "wreckage/wreckagelaw39.ChaintextBack", spec := "chaintextBack", inPlace := ["internal/abi.NoEscape", "internal/bytealg.IndexByteString", "internal/bytealg.CountString", "internal/bytealg.IndexString"], unfollowed := true, recurses := true, named := ["internal/bytealg.MaxLen"], loops := true, apart := false }
def ChaintextBackSaid : Prop := chaintextBackRow.holds Try.pinned (OpenSpec.ofChange chaintextBackSpec)

/-- ITS FALSE NEIGHBOUR: 'it returns false'. Refute it at one input. -/
def chaintextBackWrong : ChangeSpec := { name := "chaintextBack", fn := fun _ => fun
  | [d1, d2] => { results := [.lit (.bool false)], args := [d1, d2] }
  | _ => none }
def ChaintextBackWrongFalsely : Prop := chaintextBackRow.holds Try.pinned (OpenSpec.ofChange chaintextBackWrong)

/- THE SECOND FORM. 'bulk': how many values and letters a reading holds, each counted each time it is reached (what is shared counts as often as it is met; a slice's spare places count too). A statement '..UptoSaid' is the law's where the arguments, and the package variables that the reading takes, are together of bulk at most 1048576: NARROWER than '..Said'. Prove '..Said' where nothing that the law and all that it calls make is longer than what came in: it says more and counts as full. Else prove '..UptoSaid'. A law counts once. -/
mutual
def uptoBulk {H : Type} : DataW H → Nat
  | .lit (.string bytes) => bytes.length + 1
  | .lit _ => 1
  | .nil => 1
  | .ptr d => uptoBulk d + 1
  | .slice elems spare => uptoBulkAll elems + uptoBulkAll spare + 1
  | .agg parts => uptoBulkAll parts + 1
  | .iface _ d => uptoBulk d + 1
  | .map entries => uptoBulkEntries entries + 1
  | .held _ => 1
def uptoBulkAll {H : Type} : List (DataW H) → Nat
  | [] => 0
  | d :: r => uptoBulk d + uptoBulkAll r
def uptoBulkEntries {H : Type} : List (Lit × DataW H) → Nat
  | [] => 0
  | x :: r => uptoBulkEntry x + uptoBulkEntries r
def uptoBulkEntry {H : Type} : Lit × DataW H → Nat
  | (.string bytes, d) => bytes.length + uptoBulk d + 1
  | (_, d) => uptoBulk d + 1
 end
def uptoSmall : (H : Type) → List (DataW H) → Bool := fun _ ds => decide (uptoBulkAll ds ≤ 1048576)
def OpenSpec.upto (s : _root_.Go.ChangeSpec) : _root_.Go.OpenSpec := { _root_.Go.OpenSpec.ofChange s with cond := some uptoSmall }

/-- 'wreckagelaw39.ChaintextLines', WHERE WHAT IT READS IS OF BULK AT MOST 1048576: true; the input reads as it did. -/
def chaintextLinesUptoRow : OpenClaim := { program := "ytffbkdcgkhbpoaa", sum := "ebed85c80143c00528560cb18f9d3b2f2dd3f007b7fa18e09fc4eb34398d6d96", func := "wreckage/wreckagelaw39.ChaintextLines", spec := "chaintextLines", inPlace := ["internal/abi.NoEscape", "internal/bytealg.IndexByteString"], recurses := true, loops := true, apart := false, narrowed := true }
def ChaintextLinesUptoSaid : Prop := chaintextLinesUptoRow.holds Try.pinned (OpenSpec.upto chaintextLinesSpec)

/-- 'wreckagelaw39.ChaintextJoined', WHERE WHAT IT READS IS OF BULK AT MOST 1048576: true; the input reads as it did. -/
def chaintextJoinedUptoRow : OpenClaim := { program := "ytffbkdcgkhbpoaa", sum := "ebed85c80143c00528560cb18f9d3b2f2dd3f007b7fa18e09fc4eb34398d6d96", func := "wreckage/wreckagelaw39.ChaintextJoined", spec := "chaintextJoined", inPlace := ["internal/abi.NoEscape", "internal/bytealg.IndexByteString"], recurses := true, loops := true, apart := false, narrowed := true }
def ChaintextJoinedUptoSaid : Prop := chaintextJoinedUptoRow.holds Try.pinned (OpenSpec.upto chaintextJoinedSpec)

/-- 'wreckagelaw39.ChaintextCause', WHERE WHAT IT READS IS OF BULK AT MOST 1048576: true; the input reads as it did. -/
def chaintextCauseUptoRow : OpenClaim := { program := "ytffbkdcgkhbpoaa", sum := "ebed85c80143c00528560cb18f9d3b2f2dd3f007b7fa18e09fc4eb34398d6d96", func := "wreckage/wreckagelaw39.ChaintextCause", spec := "chaintextCause", inPlace := ["internal/abi.NoEscape", "internal/bytealg.IndexByteString"], recurses := true, loops := true, apart := false, narrowed := true }
def ChaintextCauseUptoSaid : Prop := chaintextCauseUptoRow.holds Try.pinned (OpenSpec.upto chaintextCauseSpec)

/-- 'wreckagelaw39.ChaintextTexts', WHERE WHAT IT READS IS OF BULK AT MOST 1048576: true; the input reads as it did. -/
def chaintextTextsUptoRow : OpenClaim := { program := "ytffbkdcgkhbpoaa", sum := "ebed85c80143c00528560cb18f9d3b2f2dd3f007b7fa18e09fc4eb34398d6d96", func := "wreckage/wreckagelaw39.ChaintextTexts", spec := "chaintextTexts", inPlace := ["internal/abi.NoEscape", "internal/bytealg.CountString", "internal/bytealg.IndexByteString", "internal/bytealg.IndexString"], unfollowed := true, recurses := true, named := ["internal/bytealg.MaxLen"], loops := true, apart := false, narrowed := true }
def ChaintextTextsUptoSaid : Prop := chaintextTextsUptoRow.holds Try.pinned (OpenSpec.upto chaintextTextsSpec)

/-- 'wreckagelaw39.ChaintextNames', WHERE WHAT IT READS IS OF BULK AT MOST 1048576: true; the input reads as it did. -/
def chaintextNamesUptoRow : OpenClaim := { program := "ytffbkdcgkhbpoaa", sum := "ebed85c80143c00528560cb18f9d3b2f2dd3f007b7fa18e09fc4eb34398d6d96", func := "wreckage/wreckagelaw39.ChaintextNames", spec := "chaintextNames", inPlace := ["internal/abi.NoEscape", "internal/bytealg.IndexByteString", "internal/bytealg.CountString", "internal/bytealg.IndexString"], unfollowed := true, recurses := true, named := ["internal/bytealg.MaxLen"], apart := false, narrowed := true }
def ChaintextNamesUptoSaid : Prop := chaintextNamesUptoRow.holds Try.pinned (OpenSpec.upto chaintextNamesSpec)

/-- 'wreckagelaw39.ChaintextBack', WHERE WHAT IT READS IS OF BULK AT MOST 1048576: true; the input reads as it did. -/
def chaintextBackUptoRow : OpenClaim := { program := "ytffbkdcgkhbpoaa", sum := "ebed85c80143c00528560cb18f9d3b2f2dd3f007b7fa18e09fc4eb34398d6d96", func := "wreckage/wreckagelaw39.ChaintextBack", spec := "chaintextBack", inPlace := ["internal/abi.NoEscape", "internal/bytealg.IndexByteString", "internal/bytealg.CountString", "internal/bytealg.IndexString"], unfollowed := true, recurses := true, named := ["internal/bytealg.MaxLen"], loops := true, apart := false, narrowed := true }
def ChaintextBackUptoSaid : Prop := chaintextBackUptoRow.holds Try.pinned (OpenSpec.upto chaintextBackSpec)

end Rows
end Go.Proofs.Ytffbkdcgkhbpoaa
