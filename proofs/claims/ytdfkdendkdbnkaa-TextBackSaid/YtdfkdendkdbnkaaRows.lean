/-
  No cell of these rows narrows 'for every input' (looked for: loops, veiled, ifaces, maps, wideKeys, modest, calm, conditions, laid).
  DERIVED. THE GIVEN ROWS OF THIS SEAT. 7 by the template 'for every input the law returns true; each argument reads behind the call as it read before'; 0 by the template 'total and deterministic' (their statements: YtdfkdendkdbnkaaTotals.lean).
  GIVEN WITH THE SEED: the statements are not yours to turn. If you find one false, say at which input.
  Laid BY PROGRAM, IN A SANDBOX (cutbox-rows.mjs): the forced cells as the released guide's own fill.sh prints them over the translation 4bd69cdbd40c37fd… (all of the seat's roots in one cut). By AI agents, Wed Nov 11 2026. No macro, syntax, notation, axiom, sorry.
-/
import Derived.Test.YtdfkdendkdbnkaaChecked
import GoSem.Claim
import GoSem.ClaimJoined
import GoSem.ClaimMapViews
import Derived.JoinedTies
import Derived.KernelRfl
namespace Go.Proofs.Ytdfkdendkdbnkaa
/- THE CELL 'sum', in the pinned program and in every row, IS THE sha256 OF THE DUMP (.gsa) THAT YtdfkdendkdbnkaaProg.lean LOADS. Nothing in Lean hashes anything: it is a label: what it is worth is what the hold of that sum in a sandbox is worth. -/
noncomputable def Try.pinned : Pinned := { name := "ytdfkdendkdbnkaa", sum := "4bd69cdbd40c37fd637620b928e6506a46cde0d611a405d04b8078082e40f9c2", checked := Try.checked }
namespace Rows
def none {H : Type} : Left H := { results := [], args := [] }

/-- 'wreckagelaw03.TextWrites': WHATEVER THE INPUT: true; the input reads as it did. -/
def textWritesSpec : ChangeSpec := { name := "textWrites", fn := fun _ => fun
  | [d1, d2, d3, d4] => { results := [.lit (.bool true)], args := [d1, d2, d3, d4] }
  | _ => none }
def textWritesRow : OpenClaim := { program := "ytdfkdendkdbnkaa", sum := "4bd69cdbd40c37fd637620b928e6506a46cde0d611a405d04b8078082e40f9c2", func := "wreckage/wreckagelaw03.TextWrites", spec := "textWrites", apart := false }
def TextWritesSaid : Prop := textWritesRow.holds Try.pinned (OpenSpec.ofChange textWritesSpec)

/-- ITS FALSE NEIGHBOUR: 'it returns false'. Refute it at one input. -/
def textWritesWrong : ChangeSpec := { name := "textWrites", fn := fun _ => fun
  | [d1, d2, d3, d4] => { results := [.lit (.bool false)], args := [d1, d2, d3, d4] }
  | _ => none }
def TextWritesWrongFalsely : Prop := textWritesRow.holds Try.pinned (OpenSpec.ofChange textWritesWrong)

/-- 'wreckagelaw03.TextPlain': WHATEVER THE INPUT: true; the input reads as it did. -/
def textPlainSpec : ChangeSpec := { name := "textPlain", fn := fun _ => fun
  | [d1, d2, d3] => { results := [.lit (.bool true)], args := [d1, d2, d3] }
  | _ => none }
def textPlainRow : OpenClaim := { program := "ytdfkdendkdbnkaa", sum := "4bd69cdbd40c37fd637620b928e6506a46cde0d611a405d04b8078082e40f9c2", func := "wreckage/wreckagelaw03.TextPlain", spec := "textPlain", inPlace := ["internal/bytealg.IndexByteString"], apart := false }
def TextPlainSaid : Prop := textPlainRow.holds Try.pinned (OpenSpec.ofChange textPlainSpec)

/-- ITS FALSE NEIGHBOUR: 'it returns false'. Refute it at one input. -/
def textPlainWrong : ChangeSpec := { name := "textPlain", fn := fun _ => fun
  | [d1, d2, d3] => { results := [.lit (.bool false)], args := [d1, d2, d3] }
  | _ => none }
def TextPlainWrongFalsely : Prop := textPlainRow.holds Try.pinned (OpenSpec.ofChange textPlainWrong)

/-- 'wreckagelaw03.TextLists': WHATEVER THE INPUT: true; the input reads as it did. -/
def textListsSpec : ChangeSpec := { name := "textLists", fn := fun _ => fun
  | [d1, d2] => { results := [.lit (.bool true)], args := [d1, d2] }
  | _ => none }
def textListsRow : OpenClaim := { program := "ytdfkdendkdbnkaa", sum := "4bd69cdbd40c37fd637620b928e6506a46cde0d611a405d04b8078082e40f9c2", func := "wreckage/wreckagelaw03.TextLists", spec := "textLists", inPlace := ["internal/bytealg.IndexByteString"], apart := false }
def TextListsSaid : Prop := textListsRow.holds Try.pinned (OpenSpec.ofChange textListsSpec)

/-- ITS FALSE NEIGHBOUR: 'it returns false'. Refute it at one input. -/
def textListsWrong : ChangeSpec := { name := "textLists", fn := fun _ => fun
  | [d1, d2] => { results := [.lit (.bool false)], args := [d1, d2] }
  | _ => none }
def TextListsWrongFalsely : Prop := textListsRow.holds Try.pinned (OpenSpec.ofChange textListsWrong)

/-- 'wreckagelaw03.TextReads': WHATEVER THE INPUT: true; the input reads as it did. -/
def textReadsSpec : ChangeSpec := { name := "textReads", fn := fun _ => fun
  | [d] => { results := [.lit (.bool true)], args := [d] }
  | _ => none }
def textReadsRow : OpenClaim := { program := "ytdfkdendkdbnkaa", sum := "4bd69cdbd40c37fd637620b928e6506a46cde0d611a405d04b8078082e40f9c2", func := "wreckage/wreckagelaw03.TextReads", spec := "textReads", inPlace := ["internal/bytealg.IndexByteString"], apart := false }
def TextReadsSaid : Prop := textReadsRow.holds Try.pinned (OpenSpec.ofChange textReadsSpec)

/-- ITS FALSE NEIGHBOUR: 'it returns false'. Refute it at one input. -/
def textReadsWrong : ChangeSpec := { name := "textReads", fn := fun _ => fun
  | [d] => { results := [.lit (.bool false)], args := [d] }
  | _ => none }
def TextReadsWrongFalsely : Prop := textReadsRow.holds Try.pinned (OpenSpec.ofChange textReadsWrong)

/-- 'wreckagelaw03.TextNames': WHATEVER THE INPUT: true; the input reads as it did. -/
def textNamesSpec : ChangeSpec := { name := "textNames", fn := fun _ => fun
  | [] => { results := [.lit (.bool true)], args := [] }
  | _ => none }
def textNamesRow : OpenClaim := { program := "ytdfkdendkdbnkaa", sum := "4bd69cdbd40c37fd637620b928e6506a46cde0d611a405d04b8078082e40f9c2", func := "wreckage/wreckagelaw03.TextNames", spec := "textNames", inPlace := ["internal/bytealg.IndexByteString"], apart := false }
def TextNamesSaid : Prop := textNamesRow.holds Try.pinned (OpenSpec.ofChange textNamesSpec)

/-- ITS FALSE NEIGHBOUR: 'it returns false'. Refute it at one input. -/
def textNamesWrong : ChangeSpec := { name := "textNames", fn := fun _ => fun
  | [] => { results := [.lit (.bool false)], args := [] }
  | _ => none }
def TextNamesWrongFalsely : Prop := textNamesRow.holds Try.pinned (OpenSpec.ofChange textNamesWrong)

/-- 'wreckagelaw03.TextBack': WHATEVER THE INPUT: true; the input reads as it did. -/
def textBackSpec : ChangeSpec := { name := "textBack", fn := fun _ => fun
  | [d1, d2, d3, d4] => { results := [.lit (.bool true)], args := [d1, d2, d3, d4] }
  | _ => none }
def textBackRow : OpenClaim := { program := "ytdfkdendkdbnkaa", sum := "4bd69cdbd40c37fd637620b928e6506a46cde0d611a405d04b8078082e40f9c2", func := "wreckage/wreckagelaw03.TextBack", spec := "textBack", inPlace := ["internal/bytealg.IndexByteString"], apart := false }
def TextBackSaid : Prop := textBackRow.holds Try.pinned (OpenSpec.ofChange textBackSpec)

/-- ITS FALSE NEIGHBOUR: 'it returns false'. Refute it at one input. -/
def textBackWrong : ChangeSpec := { name := "textBack", fn := fun _ => fun
  | [d1, d2, d3, d4] => { results := [.lit (.bool false)], args := [d1, d2, d3, d4] }
  | _ => none }
def TextBackWrongFalsely : Prop := textBackRow.holds Try.pinned (OpenSpec.ofChange textBackWrong)

/-- 'wreckagelaw03.TextOne': WHATEVER THE INPUT: true; the input reads as it did. -/
def textOneSpec : ChangeSpec := { name := "textOne", fn := fun _ => fun
  | [d] => { results := [.lit (.bool true)], args := [d] }
  | _ => none }
def textOneRow : OpenClaim := { program := "ytdfkdendkdbnkaa", sum := "4bd69cdbd40c37fd637620b928e6506a46cde0d611a405d04b8078082e40f9c2", func := "wreckage/wreckagelaw03.TextOne", spec := "textOne", inPlace := ["internal/bytealg.IndexByteString"], apart := false }
def TextOneSaid : Prop := textOneRow.holds Try.pinned (OpenSpec.ofChange textOneSpec)

/-- ITS FALSE NEIGHBOUR: 'it returns false'. Refute it at one input. -/
def textOneWrong : ChangeSpec := { name := "textOne", fn := fun _ => fun
  | [d] => { results := [.lit (.bool false)], args := [d] }
  | _ => none }
def TextOneWrongFalsely : Prop := textOneRow.holds Try.pinned (OpenSpec.ofChange textOneWrong)

/- THE SECOND FORM. 'bulk': how many values and letters a reading holds, each counted each time it is reached (what is shared counts as often as it is met; a slice's spare places count too). A statement '..UptoSaid' is the law's where the arguments, and the package variables that the reading takes, are together of bulk at most 1048576: NARROWER than '..Said'. Prove '..Said' where nothing that the law and all that it calls make is longer than what came in: it says more and counts as full. Else prove '..UptoSaid'. A law counts once. -/
mutual
def uptoBulk {H : Type} : DataW H → Nat
  | .lit (.string bytes) => bytes.length + 1
  | .lit _ => 1
  | .nil => 1
  | .ptr d => uptoBulk d + 1
  | .slice elems spare => uptoBulkAll elems + uptoBulkAll spare + 1
  | .agg parts => uptoBulkAll parts + 1
  | .iface _ d => uptoBulk d + 1
  | .map entries => uptoBulkEntries entries + 1
  | .held _ => 1
def uptoBulkAll {H : Type} : List (DataW H) → Nat
  | [] => 0
  | d :: r => uptoBulk d + uptoBulkAll r
def uptoBulkEntries {H : Type} : List (Lit × DataW H) → Nat
  | [] => 0
  | x :: r => uptoBulkEntry x + uptoBulkEntries r
def uptoBulkEntry {H : Type} : Lit × DataW H → Nat
  | (.string bytes, d) => bytes.length + uptoBulk d + 1
  | (_, d) => uptoBulk d + 1
 end
def uptoSmall : (H : Type) → List (DataW H) → Bool := fun _ ds => decide (uptoBulkAll ds ≤ 1048576)
def OpenSpec.upto (s : _root_.Go.ChangeSpec) : _root_.Go.OpenSpec := { _root_.Go.OpenSpec.ofChange s with cond := some uptoSmall }

/-- 'wreckagelaw03.TextWrites', WHERE WHAT IT READS IS OF BULK AT MOST 1048576: true; the input reads as it did. -/
def textWritesUptoRow : OpenClaim := { program := "ytdfkdendkdbnkaa", sum := "4bd69cdbd40c37fd637620b928e6506a46cde0d611a405d04b8078082e40f9c2", func := "wreckage/wreckagelaw03.TextWrites", spec := "textWrites", apart := false, narrowed := true }
def TextWritesUptoSaid : Prop := textWritesUptoRow.holds Try.pinned (OpenSpec.upto textWritesSpec)

/-- 'wreckagelaw03.TextPlain', WHERE WHAT IT READS IS OF BULK AT MOST 1048576: true; the input reads as it did. -/
def textPlainUptoRow : OpenClaim := { program := "ytdfkdendkdbnkaa", sum := "4bd69cdbd40c37fd637620b928e6506a46cde0d611a405d04b8078082e40f9c2", func := "wreckage/wreckagelaw03.TextPlain", spec := "textPlain", inPlace := ["internal/bytealg.IndexByteString"], apart := false, narrowed := true }
def TextPlainUptoSaid : Prop := textPlainUptoRow.holds Try.pinned (OpenSpec.upto textPlainSpec)

/-- 'wreckagelaw03.TextLists', WHERE WHAT IT READS IS OF BULK AT MOST 1048576: true; the input reads as it did. -/
def textListsUptoRow : OpenClaim := { program := "ytdfkdendkdbnkaa", sum := "4bd69cdbd40c37fd637620b928e6506a46cde0d611a405d04b8078082e40f9c2", func := "wreckage/wreckagelaw03.TextLists", spec := "textLists", inPlace := ["internal/bytealg.IndexByteString"], apart := false, narrowed := true }
def TextListsUptoSaid : Prop := textListsUptoRow.holds Try.pinned (OpenSpec.upto textListsSpec)

/-- 'wreckagelaw03.TextReads', WHERE WHAT IT READS IS OF BULK AT MOST 1048576: true; the input reads as it did. -/
def textReadsUptoRow : OpenClaim := { program := "ytdfkdendkdbnkaa", sum := "4bd69cdbd40c37fd637620b928e6506a46cde0d611a405d04b8078082e40f9c2", func := "wreckage/wreckagelaw03.TextReads", spec := "textReads", inPlace := ["internal/bytealg.IndexByteString"], apart := false, narrowed := true }
def TextReadsUptoSaid : Prop := textReadsUptoRow.holds Try.pinned (OpenSpec.upto textReadsSpec)

/-- 'wreckagelaw03.TextNames', WHERE WHAT IT READS IS OF BULK AT MOST 1048576: true; the input reads as it did. -/
def textNamesUptoRow : OpenClaim := { program := "ytdfkdendkdbnkaa", sum := "4bd69cdbd40c37fd637620b928e6506a46cde0d611a405d04b8078082e40f9c2", func := "wreckage/wreckagelaw03.TextNames", spec := "textNames", inPlace := ["internal/bytealg.IndexByteString"], apart := false, narrowed := true }
def TextNamesUptoSaid : Prop := textNamesUptoRow.holds Try.pinned (OpenSpec.upto textNamesSpec)

/-- 'wreckagelaw03.TextBack', WHERE WHAT IT READS IS OF BULK AT MOST 1048576: true; the input reads as it did. -/
def textBackUptoRow : OpenClaim := { program := "ytdfkdendkdbnkaa", sum := "4bd69cdbd40c37fd637620b928e6506a46cde0d611a405d04b8078082e40f9c2", func := "wreckage/wreckagelaw03.TextBack", spec := "textBack", inPlace := ["internal/bytealg.IndexByteString"], apart := false, narrowed := true }
def TextBackUptoSaid : Prop := textBackUptoRow.holds Try.pinned (OpenSpec.upto textBackSpec)

/-- 'wreckagelaw03.TextOne', WHERE WHAT IT READS IS OF BULK AT MOST 1048576: true; the input reads as it did. -/
def textOneUptoRow : OpenClaim := { program := "ytdfkdendkdbnkaa", sum := "4bd69cdbd40c37fd637620b928e6506a46cde0d611a405d04b8078082e40f9c2", func := "wreckage/wreckagelaw03.TextOne", spec := "textOne", inPlace := ["internal/bytealg.IndexByteString"], apart := false, narrowed := true }
def TextOneUptoSaid : Prop := textOneUptoRow.holds Try.pinned (OpenSpec.upto textOneSpec)

end Rows
end Go.Proofs.Ytdfkdendkdbnkaa
