/-
  NARROWER THAN 'FOR EVERY INPUT', by the rows' own cells (each row's printed sentence says how): QueryAnswers: loops · QueryEach: loops · QueryLines: loops.
  DERIVED. THE GIVEN ROWS OF THIS SEAT. 3 by the template 'for every input the law returns true; each argument reads behind the call as it read before'; 0 by the template 'total and deterministic' (their statements: YtbcdfamilcmjnaaGreatTotals.lean).
  GIVEN WITH THE SEED: the statements are not yours to turn. If you find one false, say at which input.
  Laid BY PROGRAM, IN A SANDBOX (cutbox-rows.mjs): the forced cells as the released guide's own fill.sh prints them over the translation 73ed221713eff35f… (all of the seat's roots in one cut). By AI agents, Wed Nov 11 2026. No macro, syntax, notation, axiom, sorry.
-/
import Derived.Test.YtbcdfamilcmjnaaGreatChecked
import GoSem.Claim
import GoSem.ClaimJoined
import GoSem.ClaimMapViews
import Derived.JoinedTies
import Derived.KernelRfl
namespace Go.Proofs.YtbcdfamilcmjnaaGreat
/- THE CELL 'sum', in the pinned program and in every row, IS THE sha256 OF THE DUMP (.gsa) THAT YtbcdfamilcmjnaaGreatProg.lean LOADS. Nothing in Lean hashes anything: it is a label: what it is worth is what the hold of that sum in a sandbox is worth. -/
noncomputable def Tryz.pinned : Pinned := { name := "ytbcdfamilcmjnaagreat", sum := "73ed221713eff35f1663f5a971d4676335141bcae0bf103ed7067dbb9f507e24", checked := Tryz.checked }
namespace Rows
def none {H : Type} : Left H := { results := [], args := [] }

/-- 'wreckagelaw44.QueryAnswers': WHATEVER THE INPUT: true; the input reads as it did. -/
def queryAnswersSpec : ChangeSpec := { name := "queryAnswers", fn := fun _ => fun
  | [d1, d2, d3, d4] => { results := [.lit (.bool true)], args := [d1, d2, d3, d4] }
  | _ => none }
def queryAnswersRow : OpenClaim := { program := "ytbcdfamilcmjnaagreat", sum := "73ed221713eff35f1663f5a971d4676335141bcae0bf103ed7067dbb9f507e24", func := "wreckage/wreckagelaw44.QueryAnswers", spec := "queryAnswers", inPlace := ["internal/abi.NoEscape", "internal/bytealg.IndexByteString", "internal/bytealg.IndexString"], unfollowed := true, recurses := true, named := ["internal/bytealg.MaxLen"], loops := true, apart := false }
def QueryAnswersSaid : Prop := queryAnswersRow.holds Tryz.pinned (OpenSpec.ofChange queryAnswersSpec)

/-- ITS FALSE NEIGHBOUR: 'it returns false'. Refute it at one input. -/
def queryAnswersWrong : ChangeSpec := { name := "queryAnswers", fn := fun _ => fun
  | [d1, d2, d3, d4] => { results := [.lit (.bool false)], args := [d1, d2, d3, d4] }
  | _ => none }
def QueryAnswersWrongFalsely : Prop := queryAnswersRow.holds Tryz.pinned (OpenSpec.ofChange queryAnswersWrong)

/-- 'wreckagelaw44.QueryEach': WHATEVER THE INPUT: true; the input reads as it did. -/
def queryEachSpec : ChangeSpec := { name := "queryEach", fn := fun _ => fun
  | [d1, d2, d3, d4] => { results := [.lit (.bool true)], args := [d1, d2, d3, d4] }
  | _ => none }
def queryEachRow : OpenClaim := { program := "ytbcdfamilcmjnaagreat", sum := "73ed221713eff35f1663f5a971d4676335141bcae0bf103ed7067dbb9f507e24", func := "wreckage/wreckagelaw44.QueryEach", spec := "queryEach", inPlace := ["internal/bytealg.IndexByteString", "internal/bytealg.IndexString", "internal/abi.NoEscape"], unfollowed := true, recurses := true, named := ["internal/bytealg.MaxLen"], loops := true, apart := false }
def QueryEachSaid : Prop := queryEachRow.holds Tryz.pinned (OpenSpec.ofChange queryEachSpec)

/-- ITS FALSE NEIGHBOUR: 'it returns false'. Refute it at one input. -/
def queryEachWrong : ChangeSpec := { name := "queryEach", fn := fun _ => fun
  | [d1, d2, d3, d4] => { results := [.lit (.bool false)], args := [d1, d2, d3, d4] }
  | _ => none }
def QueryEachWrongFalsely : Prop := queryEachRow.holds Tryz.pinned (OpenSpec.ofChange queryEachWrong)

/-- 'wreckagelaw44.QueryLines': WHATEVER THE INPUT: true; the input reads as it did. -/
def queryLinesSpec : ChangeSpec := { name := "queryLines", fn := fun _ => fun
  | [d1, d2, d3] => { results := [.lit (.bool true)], args := [d1, d2, d3] }
  | _ => none }
def queryLinesRow : OpenClaim := { program := "ytbcdfamilcmjnaagreat", sum := "73ed221713eff35f1663f5a971d4676335141bcae0bf103ed7067dbb9f507e24", func := "wreckage/wreckagelaw44.QueryLines", spec := "queryLines", inPlace := ["internal/bytealg.IndexByteString", "internal/bytealg.IndexString", "internal/abi.NoEscape"], unfollowed := true, recurses := true, named := ["internal/bytealg.MaxLen"], loops := true, apart := false }
def QueryLinesSaid : Prop := queryLinesRow.holds Tryz.pinned (OpenSpec.ofChange queryLinesSpec)

/-- ITS FALSE NEIGHBOUR: 'it returns false'. Refute it at one input. -/
def queryLinesWrong : ChangeSpec := { name := "queryLines", fn := fun _ => fun
  | [d1, d2, d3] => { results := [.lit (.bool false)], args := [d1, d2, d3] }
  | _ => none }
def QueryLinesWrongFalsely : Prop := queryLinesRow.holds Tryz.pinned (OpenSpec.ofChange queryLinesWrong)

/- THE SECOND FORM. 'bulk': how many values and letters a reading holds, each counted each time it is reached (what is shared counts as often as it is met; a slice's spare places count too). A statement '..UptoSaid' is the law's where the arguments, and the package variables that the reading takes, are together of bulk at most 1048576: NARROWER than '..Said'. Prove '..Said' where nothing that the law and all that it calls make is longer than what came in: it says more and counts as full. Else prove '..UptoSaid'. A law counts once. -/
mutual
def uptoBulk {H : Type} : DataW H → Nat
  | .lit (.string bytes) => bytes.length + 1
  | .lit _ => 1
  | .nil => 1
  | .ptr d => uptoBulk d + 1
  | .slice elems spare => uptoBulkAll elems + uptoBulkAll spare + 1
  | .agg parts => uptoBulkAll parts + 1
  | .iface _ d => uptoBulk d + 1
  | .map entries => uptoBulkEntries entries + 1
  | .held _ => 1
def uptoBulkAll {H : Type} : List (DataW H) → Nat
  | [] => 0
  | d :: r => uptoBulk d + uptoBulkAll r
def uptoBulkEntries {H : Type} : List (Lit × DataW H) → Nat
  | [] => 0
  | x :: r => uptoBulkEntry x + uptoBulkEntries r
def uptoBulkEntry {H : Type} : Lit × DataW H → Nat
  | (.string bytes, d) => bytes.length + uptoBulk d + 1
  | (_, d) => uptoBulk d + 1
 end
def uptoSmall : (H : Type) → List (DataW H) → Bool := fun _ ds => decide (uptoBulkAll ds ≤ 1048576)
def OpenSpec.upto (s : _root_.Go.ChangeSpec) : _root_.Go.OpenSpec := { _root_.Go.OpenSpec.ofChange s with cond := some uptoSmall }

/-- 'wreckagelaw44.QueryAnswers', WHERE WHAT IT READS IS OF BULK AT MOST 1048576: true; the input reads as it did. -/
def queryAnswersUptoRow : OpenClaim := { program := "ytbcdfamilcmjnaagreat", sum := "73ed221713eff35f1663f5a971d4676335141bcae0bf103ed7067dbb9f507e24", func := "wreckage/wreckagelaw44.QueryAnswers", spec := "queryAnswers", inPlace := ["internal/abi.NoEscape", "internal/bytealg.IndexByteString", "internal/bytealg.IndexString"], unfollowed := true, recurses := true, named := ["internal/bytealg.MaxLen"], loops := true, apart := false, narrowed := true }
def QueryAnswersUptoSaid : Prop := queryAnswersUptoRow.holds Tryz.pinned (OpenSpec.upto queryAnswersSpec)

/-- 'wreckagelaw44.QueryEach', WHERE WHAT IT READS IS OF BULK AT MOST 1048576: true; the input reads as it did. -/
def queryEachUptoRow : OpenClaim := { program := "ytbcdfamilcmjnaagreat", sum := "73ed221713eff35f1663f5a971d4676335141bcae0bf103ed7067dbb9f507e24", func := "wreckage/wreckagelaw44.QueryEach", spec := "queryEach", inPlace := ["internal/bytealg.IndexByteString", "internal/bytealg.IndexString", "internal/abi.NoEscape"], unfollowed := true, recurses := true, named := ["internal/bytealg.MaxLen"], loops := true, apart := false, narrowed := true }
def QueryEachUptoSaid : Prop := queryEachUptoRow.holds Tryz.pinned (OpenSpec.upto queryEachSpec)

/-- 'wreckagelaw44.QueryLines', WHERE WHAT IT READS IS OF BULK AT MOST 1048576: true; the input reads as it did. -/
def queryLinesUptoRow : OpenClaim := { program := "ytbcdfamilcmjnaagreat", sum := "73ed221713eff35f1663f5a971d4676335141bcae0bf103ed7067dbb9f507e24", func := "wreckage/wreckagelaw44.QueryLines", spec := "queryLines", inPlace := ["internal/bytealg.IndexByteString", "internal/bytealg.IndexString", "internal/abi.NoEscape"], unfollowed := true, recurses := true, named := ["internal/bytealg.MaxLen"], loops := true, apart := false, narrowed := true }
def QueryLinesUptoSaid : Prop := queryLinesUptoRow.holds Tryz.pinned (OpenSpec.upto queryLinesSpec)

end Rows
end Go.Proofs.YtbcdfamilcmjnaaGreat
