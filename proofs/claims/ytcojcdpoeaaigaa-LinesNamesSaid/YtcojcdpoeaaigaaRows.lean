/-
  NARROWER THAN 'FOR EVERY INPUT', by the rows' own cells (each row's printed sentence says how): LinesValues: loops · LinesFrames: loops · LinesBack: loops · LinesOne: loops.
  DERIVED. THE GIVEN ROWS OF THIS SEAT. 5 by the template 'for every input the law returns true; each argument reads behind the call as it read before'; 0 by the template 'total and deterministic' (their statements: YtcojcdpoeaaigaaTotals.lean).
  GIVEN WITH THE SEED: the statements are not yours to turn. If you find one false, say at which input.
  Laid BY PROGRAM, IN A SANDBOX (cutbox-rows.mjs): the forced cells as the released guide's own fill.sh prints them over the translation 460f7d8436c319dc… (all of the seat's roots in one cut). By AI agents, Wed Nov 11 2026. No macro, syntax, notation, axiom, sorry.
-/
import Derived.Test.YtcojcdpoeaaigaaChecked
import GoSem.Claim
import GoSem.ClaimJoined
import GoSem.ClaimMapViews
import Derived.JoinedTies
import Derived.KernelRfl
namespace Go.Proofs.Ytcojcdpoeaaigaa
/- THE CELL 'sum', in the pinned program and in every row, IS THE sha256 OF THE DUMP (.gsa) THAT YtcojcdpoeaaigaaProg.lean LOADS. Nothing in Lean hashes anything: it is a label: what it is worth is what the hold of that sum in a sandbox is worth. -/
noncomputable def Try.pinned : Pinned := { name := "ytcojcdpoeaaigaa", sum := "460f7d8436c319dcbac6b2a7027b10bdd452df325b43bffe21d8d2e88dff74a7", checked := Try.checked }
namespace Rows
def none {H : Type} : Left H := { results := [], args := [] }

/-- 'wreckagelaw38.LinesValues': WHATEVER THE INPUT: true; the input reads as it did. -/
def linesValuesSpec : ChangeSpec := { name := "linesValues", fn := fun _ => fun
  | [d1, d2] => { results := [.lit (.bool true)], args := [d1, d2] }
  | _ => none }
def linesValuesRow : OpenClaim := { program := "ytcojcdpoeaaigaa", sum := "460f7d8436c319dcbac6b2a7027b10bdd452df325b43bffe21d8d2e88dff74a7", func := "wreckage/wreckagelaw38.LinesValues", spec := "linesValues", inPlace := ["internal/abi.NoEscape", "internal/bytealg.IndexByteString"], recurses := true, loops := true, apart := false }
def LinesValuesSaid : Prop := linesValuesRow.holds Try.pinned (OpenSpec.ofChange linesValuesSpec)

/-- ITS FALSE NEIGHBOUR: 'it returns false'. Refute it at one input. -/
def linesValuesWrong : ChangeSpec := { name := "linesValues", fn := fun _ => fun
  | [d1, d2] => { results := [.lit (.bool false)], args := [d1, d2] }
  | _ => none }
def LinesValuesWrongFalsely : Prop := linesValuesRow.holds Try.pinned (OpenSpec.ofChange linesValuesWrong)

/-- 'wreckagelaw38.LinesFrames': WHATEVER THE INPUT: true; the input reads as it did. -/
def linesFramesSpec : ChangeSpec := { name := "linesFrames", fn := fun _ => fun
  | [d1, d2, d3, d4] => { results := [.lit (.bool true)], args := [d1, d2, d3, d4] }
  | _ => none }
def linesFramesRow : OpenClaim := { program := "ytcojcdpoeaaigaa", sum := "460f7d8436c319dcbac6b2a7027b10bdd452df325b43bffe21d8d2e88dff74a7", func := "wreckage/wreckagelaw38.LinesFrames", spec := "linesFrames", inPlace := ["internal/abi.NoEscape", "internal/bytealg.IndexByteString"], unfollowed := true, recurses := true, loops := true, apart := false }
def LinesFramesSaid : Prop := linesFramesRow.holds Try.pinned (OpenSpec.ofChange linesFramesSpec)

/-- ITS FALSE NEIGHBOUR: 'it returns false'. Refute it at one input. -/
def linesFramesWrong : ChangeSpec := { name := "linesFrames", fn := fun _ => fun
  | [d1, d2, d3, d4] => { results := [.lit (.bool false)], args := [d1, d2, d3, d4] }
  | _ => none }
def LinesFramesWrongFalsely : Prop := linesFramesRow.holds Try.pinned (OpenSpec.ofChange linesFramesWrong)

/-- 'wreckagelaw38.LinesNames': WHATEVER THE INPUT: true; the input reads as it did. -/
def linesNamesSpec : ChangeSpec := { name := "linesNames", fn := fun _ => fun
  | [] => { results := [.lit (.bool true)], args := [] }
  | _ => none }
def linesNamesRow : OpenClaim := { program := "ytcojcdpoeaaigaa", sum := "460f7d8436c319dcbac6b2a7027b10bdd452df325b43bffe21d8d2e88dff74a7", func := "wreckage/wreckagelaw38.LinesNames", spec := "linesNames", inPlace := ["internal/abi.NoEscape", "internal/bytealg.IndexByteString"], unfollowed := true, recurses := true, apart := false }
def LinesNamesSaid : Prop := linesNamesRow.holds Try.pinned (OpenSpec.ofChange linesNamesSpec)

/-- ITS FALSE NEIGHBOUR: 'it returns false'. Refute it at one input. -/
def linesNamesWrong : ChangeSpec := { name := "linesNames", fn := fun _ => fun
  | [] => { results := [.lit (.bool false)], args := [] }
  | _ => none }
def LinesNamesWrongFalsely : Prop := linesNamesRow.holds Try.pinned (OpenSpec.ofChange linesNamesWrong)

/-- 'wreckagelaw38.LinesBack': WHATEVER THE INPUT: true; the input reads as it did. -/
def linesBackSpec : ChangeSpec := { name := "linesBack", fn := fun _ => fun
  | [d1, d2] => { results := [.lit (.bool true)], args := [d1, d2] }
  | _ => none }
def linesBackRow : OpenClaim := { program := "ytcojcdpoeaaigaa", sum := "460f7d8436c319dcbac6b2a7027b10bdd452df325b43bffe21d8d2e88dff74a7", func := "wreckage/wreckagelaw38.LinesBack", spec := "linesBack", inPlace := ["internal/abi.NoEscape", "internal/bytealg.IndexByteString"], unfollowed := true, recurses := true, loops := true, apart := false }
def LinesBackSaid : Prop := linesBackRow.holds Try.pinned (OpenSpec.ofChange linesBackSpec)

/-- ITS FALSE NEIGHBOUR: 'it returns false'. Refute it at one input. -/
def linesBackWrong : ChangeSpec := { name := "linesBack", fn := fun _ => fun
  | [d1, d2] => { results := [.lit (.bool false)], args := [d1, d2] }
  | _ => none }
def LinesBackWrongFalsely : Prop := linesBackRow.holds Try.pinned (OpenSpec.ofChange linesBackWrong)

/-- 'wreckagelaw38.LinesOne': WHATEVER THE INPUT: true; the input reads as it did. -/
def linesOneSpec : ChangeSpec := { name := "linesOne", fn := fun _ => fun
  | [d1, d2] => { results := [.lit (.bool true)], args := [d1, d2] }
  | _ => none }
def linesOneRow : OpenClaim := { program := "ytcojcdpoeaaigaa", sum := "460f7d8436c319dcbac6b2a7027b10bdd452df325b43bffe21d8d2e88dff74a7", func := "wreckage/wreckagelaw38.LinesOne", spec := "linesOne", inPlace := ["internal/abi.NoEscape", "internal/bytealg.IndexByteString"], unfollowed := true, recurses := true, loops := true, apart := false }
def LinesOneSaid : Prop := linesOneRow.holds Try.pinned (OpenSpec.ofChange linesOneSpec)

/-- ITS FALSE NEIGHBOUR: 'it returns false'. Refute it at one input. -/
def linesOneWrong : ChangeSpec := { name := "linesOne", fn := fun _ => fun
  | [d1, d2] => { results := [.lit (.bool false)], args := [d1, d2] }
  | _ => none }
def LinesOneWrongFalsely : Prop := linesOneRow.holds Try.pinned (OpenSpec.ofChange linesOneWrong)

/- THE SECOND FORM. 'bulk': how many values and letters a reading holds, each counted each time it is reached (what is shared counts as often as it is met; a slice's spare places count too). A statement '..UptoSaid' is the law's where the arguments, and the package variables that the reading takes, are together of bulk at most 1048576: NARROWER than '..Said'. Prove '..Said' where nothing that the law and all that it calls make is longer than what came in: it says more and counts as full. Else prove '..UptoSaid'. A law counts once. -/
mutual
def uptoBulk {H : Type} : DataW H → Nat
  | .lit (.string bytes) => bytes.length + 1
  | .lit _ => 1
  | .nil => 1
  | .ptr d => uptoBulk d + 1
  | .slice elems spare => uptoBulkAll elems + uptoBulkAll spare + 1
  | .agg parts => uptoBulkAll parts + 1
  | .iface _ d => uptoBulk d + 1
  | .map entries => uptoBulkEntries entries + 1
  | .held _ => 1
def uptoBulkAll {H : Type} : List (DataW H) → Nat
  | [] => 0
  | d :: r => uptoBulk d + uptoBulkAll r
def uptoBulkEntries {H : Type} : List (Lit × DataW H) → Nat
  | [] => 0
  | x :: r => uptoBulkEntry x + uptoBulkEntries r
def uptoBulkEntry {H : Type} : Lit × DataW H → Nat
  | (.string bytes, d) => bytes.length + uptoBulk d + 1
  | (_, d) => uptoBulk d + 1
 end
def uptoSmall : (H : Type) → List (DataW H) → Bool := fun _ ds => decide (uptoBulkAll ds ≤ 1048576)
def OpenSpec.upto (s : _root_.Go.ChangeSpec) : _root_.Go.OpenSpec := { _root_.Go.OpenSpec.ofChange s with cond := some uptoSmall }

/-- 'wreckagelaw38.LinesValues', WHERE WHAT IT READS IS OF BULK AT MOST 1048576: true; the input reads as it did. -/
def linesValuesUptoRow : OpenClaim := { program := "ytcojcdpoeaaigaa", sum := "460f7d8436c319dcbac6b2a7027b10bdd452df325b43bffe21d8d2e88dff74a7", func := "wreckage/wreckagelaw38.LinesValues", spec := "linesValues", inPlace := ["internal/abi.NoEscape", "internal/bytealg.IndexByteString"], recurses := true, loops := true, apart := false, narrowed := true }
def LinesValuesUptoSaid : Prop := linesValuesUptoRow.holds Try.pinned (OpenSpec.upto linesValuesSpec)

/-- 'wreckagelaw38.LinesFrames', WHERE WHAT IT READS IS OF BULK AT MOST 1048576: true; the input reads as it did. -/
def linesFramesUptoRow : OpenClaim := { program := "ytcojcdpoeaaigaa", sum := "460f7d8436c319dcbac6b2a7027b10bdd452df325b43bffe21d8d2e88dff74a7", func := "wreckage/wreckagelaw38.LinesFrames", spec := "linesFrames", inPlace := ["internal/abi.NoEscape", "internal/bytealg.IndexByteString"], unfollowed := true, recurses := true, loops := true, apart := false, narrowed := true }
def LinesFramesUptoSaid : Prop := linesFramesUptoRow.holds Try.pinned (OpenSpec.upto linesFramesSpec)

/-- 'wreckagelaw38.LinesNames', WHERE WHAT IT READS IS OF BULK AT MOST 1048576: true; the input reads as it did. -/
def linesNamesUptoRow : OpenClaim := { program := "ytcojcdpoeaaigaa", sum := "460f7d8436c319dcbac6b2a7027b10bdd452df325b43bffe21d8d2e88dff74a7", func := "wreckage/wreckagelaw38.LinesNames", spec := "linesNames", inPlace := ["internal/abi.NoEscape", "internal/bytealg.IndexByteString"], unfollowed := true, recurses := true, apart := false, narrowed := true }
def LinesNamesUptoSaid : Prop := linesNamesUptoRow.holds Try.pinned (OpenSpec.upto linesNamesSpec)

/-- 'wreckagelaw38.LinesBack', WHERE WHAT IT READS IS OF BULK AT MOST 1048576: true; the input reads as it did. -/
def linesBackUptoRow : OpenClaim := { program := "ytcojcdpoeaaigaa", sum := "460f7d8436c319dcbac6b2a7027b10bdd452df325b43bffe21d8d2e88dff74a7", func := "wreckage/wreckagelaw38.LinesBack", spec := "linesBack", inPlace := ["internal/abi.NoEscape", "internal/bytealg.IndexByteString"], unfollowed := true, recurses := true, loops := true, apart := false, narrowed := true }
def LinesBackUptoSaid : Prop := linesBackUptoRow.holds Try.pinned (OpenSpec.upto linesBackSpec)

/-- 'wreckagelaw38.LinesOne', WHERE WHAT IT READS IS OF BULK AT MOST 1048576: true; the input reads as it did. -/
def linesOneUptoRow : OpenClaim := { program := "ytcojcdpoeaaigaa", sum := "460f7d8436c319dcbac6b2a7027b10bdd452df325b43bffe21d8d2e88dff74a7", func := "wreckage/wreckagelaw38.LinesOne", spec := "linesOne", inPlace := ["internal/abi.NoEscape", "internal/bytealg.IndexByteString"], unfollowed := true, recurses := true, loops := true, apart := false, narrowed := true }
def LinesOneUptoSaid : Prop := linesOneUptoRow.holds Try.pinned (OpenSpec.upto linesOneSpec)

end Rows
end Go.Proofs.Ytcojcdpoeaaigaa
