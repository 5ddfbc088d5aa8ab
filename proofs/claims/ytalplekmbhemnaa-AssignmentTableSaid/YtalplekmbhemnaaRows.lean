/-
  No cell of these rows narrows 'for every input' (looked for: loops, veiled, ifaces, maps, wideKeys, modest, calm, conditions, laid).
  DERIVED. THE GIVEN ROWS OF THIS SEAT. 5 by the template 'for every input the law returns true; each argument reads behind the call as it read before'; 0 by the template 'total and deterministic' (their statements: YtalplekmbhemnaaTotals.lean).
  GIVEN WITH THE SEED: the statements are not yours to turn. If you find one false, say at which input.
  Laid BY PROGRAM, IN A SANDBOX (cutbox-rows.mjs): the forced cells as the released guide's own fill.sh prints them over the translation ae474c90dff29372… (all of the seat's roots in one cut). By AI agents, Wed Nov 11 2026. No macro, syntax, notation, axiom, sorry.
-/
import Derived.Test.YtalplekmbhemnaaChecked
import GoSem.Claim
import GoSem.ClaimJoined
import GoSem.ClaimMapViews
import Derived.JoinedTies
import Derived.KernelRfl
namespace Go.Proofs.Ytalplekmbhemnaa
/- THE CELL 'sum', in the pinned program and in every row, IS THE sha256 OF THE DUMP (.gsa) THAT YtalplekmbhemnaaProg.lean LOADS. Nothing in Lean hashes anything: it is a label: what it is worth is what the hold of that sum in a sandbox is worth. -/
noncomputable def Try.pinned : Pinned := { name := "ytalplekmbhemnaa", sum := "ae474c90dff29372ad8065561f530c9da72a5b94df20d8942ceb44ed8864ead1", checked := Try.checked }
namespace Rows
def none {H : Type} : Left H := { results := [], args := [] }

/-- 'samaritanlaw36.AssignmentNoImprovingSwap': WHATEVER THE INPUT: true; the input reads as it did. -/
def assignmentNoImprovingSwapSpec : ChangeSpec := { name := "assignmentNoImprovingSwap", fn := fun _ => fun
  | [d] => { results := [.lit (.bool true)], args := [d] }
  | _ => none }
def assignmentNoImprovingSwapRow : OpenClaim := { program := "ytalplekmbhemnaa", sum := "ae474c90dff29372ad8065561f530c9da72a5b94df20d8942ceb44ed8864ead1", func := "samaritan/samaritanlaw36.AssignmentNoImprovingSwap", spec := "assignmentNoImprovingSwap", apart := false }
def AssignmentNoImprovingSwapSaid : Prop := assignmentNoImprovingSwapRow.holds Try.pinned (OpenSpec.ofChange assignmentNoImprovingSwapSpec)

/-- ITS FALSE NEIGHBOUR: 'it returns false'. Refute it at one input. -/
def assignmentNoImprovingSwapWrong : ChangeSpec := { name := "assignmentNoImprovingSwap", fn := fun _ => fun
  | [d] => { results := [.lit (.bool false)], args := [d] }
  | _ => none }
def AssignmentNoImprovingSwapWrongFalsely : Prop := assignmentNoImprovingSwapRow.holds Try.pinned (OpenSpec.ofChange assignmentNoImprovingSwapWrong)

/-- 'samaritanlaw36.AssignmentPermutation': WHATEVER THE INPUT: true; the input reads as it did. -/
def assignmentPermutationSpec : ChangeSpec := { name := "assignmentPermutation", fn := fun _ => fun
  | [d] => { results := [.lit (.bool true)], args := [d] }
  | _ => none }
def assignmentPermutationRow : OpenClaim := { program := "ytalplekmbhemnaa", sum := "ae474c90dff29372ad8065561f530c9da72a5b94df20d8942ceb44ed8864ead1", func := "samaritan/samaritanlaw36.AssignmentPermutation", spec := "assignmentPermutation", apart := false }
def AssignmentPermutationSaid : Prop := assignmentPermutationRow.holds Try.pinned (OpenSpec.ofChange assignmentPermutationSpec)

/-- ITS FALSE NEIGHBOUR: 'it returns false'. Refute it at one input. -/
def assignmentPermutationWrong : ChangeSpec := { name := "assignmentPermutation", fn := fun _ => fun
  | [d] => { results := [.lit (.bool false)], args := [d] }
  | _ => none }
def AssignmentPermutationWrongFalsely : Prop := assignmentPermutationRow.holds Try.pinned (OpenSpec.ofChange assignmentPermutationWrong)

/-- 'samaritanlaw36.AssignmentExtraColumn': WHATEVER THE INPUT: true; the input reads as it did. -/
def assignmentExtraColumnSpec : ChangeSpec := { name := "assignmentExtraColumn", fn := fun _ => fun
  | [d1, d2] => { results := [.lit (.bool true)], args := [d1, d2] }
  | _ => none }
def assignmentExtraColumnRow : OpenClaim := { program := "ytalplekmbhemnaa", sum := "ae474c90dff29372ad8065561f530c9da72a5b94df20d8942ceb44ed8864ead1", func := "samaritan/samaritanlaw36.AssignmentExtraColumn", spec := "assignmentExtraColumn", apart := false }
def AssignmentExtraColumnSaid : Prop := assignmentExtraColumnRow.holds Try.pinned (OpenSpec.ofChange assignmentExtraColumnSpec)

/-- ITS FALSE NEIGHBOUR: 'it returns false'. Refute it at one input. -/
def assignmentExtraColumnWrong : ChangeSpec := { name := "assignmentExtraColumn", fn := fun _ => fun
  | [d1, d2] => { results := [.lit (.bool false)], args := [d1, d2] }
  | _ => none }
def AssignmentExtraColumnWrongFalsely : Prop := assignmentExtraColumnRow.holds Try.pinned (OpenSpec.ofChange assignmentExtraColumnWrong)

/-- 'samaritanlaw36.AssignmentTable': WHATEVER THE INPUT: true; the input reads as it did. -/
def assignmentTableSpec : ChangeSpec := { name := "assignmentTable", fn := fun _ => fun
  | [d1, d2] => { results := [.lit (.bool true)], args := [d1, d2] }
  | _ => none }
def assignmentTableRow : OpenClaim := { program := "ytalplekmbhemnaa", sum := "ae474c90dff29372ad8065561f530c9da72a5b94df20d8942ceb44ed8864ead1", func := "samaritan/samaritanlaw36.AssignmentTable", spec := "assignmentTable", recurses := true, apart := false }
def AssignmentTableSaid : Prop := assignmentTableRow.holds Try.pinned (OpenSpec.ofChange assignmentTableSpec)

/-- ITS FALSE NEIGHBOUR: 'it returns false'. Refute it at one input. -/
def assignmentTableWrong : ChangeSpec := { name := "assignmentTable", fn := fun _ => fun
  | [d1, d2] => { results := [.lit (.bool false)], args := [d1, d2] }
  | _ => none }
def AssignmentTableWrongFalsely : Prop := assignmentTableRow.holds Try.pinned (OpenSpec.ofChange assignmentTableWrong)

/-- 'samaritanlaw36.AssignmentNewTable': WHATEVER THE INPUT: true; the input reads as it did. -/
def assignmentNewTableSpec : ChangeSpec := { name := "assignmentNewTable", fn := fun _ => fun
  | [d1, d2] => { results := [.lit (.bool true)], args := [d1, d2] }
  | _ => none }
def assignmentNewTableRow : OpenClaim := { program := "ytalplekmbhemnaa", sum := "ae474c90dff29372ad8065561f530c9da72a5b94df20d8942ceb44ed8864ead1", func := "samaritan/samaritanlaw36.AssignmentNewTable", spec := "assignmentNewTable", apart := false }
def AssignmentNewTableSaid : Prop := assignmentNewTableRow.holds Try.pinned (OpenSpec.ofChange assignmentNewTableSpec)

/-- ITS FALSE NEIGHBOUR: 'it returns false'. Refute it at one input. -/
def assignmentNewTableWrong : ChangeSpec := { name := "assignmentNewTable", fn := fun _ => fun
  | [d1, d2] => { results := [.lit (.bool false)], args := [d1, d2] }
  | _ => none }
def AssignmentNewTableWrongFalsely : Prop := assignmentNewTableRow.holds Try.pinned (OpenSpec.ofChange assignmentNewTableWrong)

/- THE SECOND FORM. 'bulk': how many values and letters a reading holds, each counted each time it is reached (what is shared counts as often as it is met; a slice's spare places count too). A statement '..UptoSaid' is the law's where the arguments, and the package variables that the reading takes, are together of bulk at most 1048576: NARROWER than '..Said'. Prove '..Said' where nothing that the law and all that it calls make is longer than what came in: it says more and counts as full. Else prove '..UptoSaid'. A law counts once. -/
mutual
def uptoBulk {H : Type} : DataW H → Nat
  | .lit (.string bytes) => bytes.length + 1
  | .lit _ => 1
  | .nil => 1
  | .ptr d => uptoBulk d + 1
  | .slice elems spare => uptoBulkAll elems + uptoBulkAll spare + 1
  | .agg parts => uptoBulkAll parts + 1
  | .iface _ d => uptoBulk d + 1
  | .map entries => uptoBulkEntries entries + 1
  | .held _ => 1
def uptoBulkAll {H : Type} : List (DataW H) → Nat
  | [] => 0
  | d :: r => uptoBulk d + uptoBulkAll r
def uptoBulkEntries {H : Type} : List (Lit × DataW H) → Nat
  | [] => 0
  | x :: r => uptoBulkEntry x + uptoBulkEntries r
def uptoBulkEntry {H : Type} : Lit × DataW H → Nat
  | (.string bytes, d) => bytes.length + uptoBulk d + 1
  | (_, d) => uptoBulk d + 1
 end
def uptoSmall : (H : Type) → List (DataW H) → Bool := fun _ ds => decide (uptoBulkAll ds ≤ 1048576)
def OpenSpec.upto (s : _root_.Go.ChangeSpec) : _root_.Go.OpenSpec := { _root_.Go.OpenSpec.ofChange s with cond := some uptoSmall }

/-- 'samaritanlaw36.AssignmentNoImprovingSwap', WHERE WHAT IT READS IS OF BULK AT MOST 1048576: true; the input reads as it did. -/
def assignmentNoImprovingSwapUptoRow : OpenClaim := { program := "ytalplekmbhemnaa", sum := "ae474c90dff29372ad8065561f530c9da72a5b94df20d8942ceb44ed8864ead1", func := "samaritan/samaritanlaw36.AssignmentNoImprovingSwap", spec := "assignmentNoImprovingSwap", apart := false, narrowed := true }
def AssignmentNoImprovingSwapUptoSaid : Prop := assignmentNoImprovingSwapUptoRow.holds Try.pinned (OpenSpec.upto assignmentNoImprovingSwapSpec)

/-- 'samaritanlaw36.AssignmentPermutation', WHERE WHAT IT READS IS OF BULK AT MOST 1048576: true; the input reads as it did. -/
def assignmentPermutationUptoRow : OpenClaim := { program := "ytalplekmbhemnaa", sum := "ae474c90dff29372ad8065561f530c9da72a5b94df20d8942ceb44ed8864ead1", func := "samaritan/samaritanlaw36.AssignmentPermutation", spec := "assignmentPermutation", apart := false, narrowed := true }
def AssignmentPermutationUptoSaid : Prop := assignmentPermutationUptoRow.holds Try.pinned (OpenSpec.upto assignmentPermutationSpec)

/-- 'samaritanlaw36.AssignmentExtraColumn', WHERE WHAT IT READS IS OF BULK AT MOST 1048576: true; the input reads as it did. -/
def assignmentExtraColumnUptoRow : OpenClaim := { program := "ytalplekmbhemnaa", sum := "ae474c90dff29372ad8065561f530c9da72a5b94df20d8942ceb44ed8864ead1", func := "samaritan/samaritanlaw36.AssignmentExtraColumn", spec := "assignmentExtraColumn", apart := false, narrowed := true }
def AssignmentExtraColumnUptoSaid : Prop := assignmentExtraColumnUptoRow.holds Try.pinned (OpenSpec.upto assignmentExtraColumnSpec)

/-- 'samaritanlaw36.AssignmentTable', WHERE WHAT IT READS IS OF BULK AT MOST 1048576: true; the input reads as it did. -/
def assignmentTableUptoRow : OpenClaim := { program := "ytalplekmbhemnaa", sum := "ae474c90dff29372ad8065561f530c9da72a5b94df20d8942ceb44ed8864ead1", func := "samaritan/samaritanlaw36.AssignmentTable", spec := "assignmentTable", recurses := true, apart := false, narrowed := true }
def AssignmentTableUptoSaid : Prop := assignmentTableUptoRow.holds Try.pinned (OpenSpec.upto assignmentTableSpec)

/-- 'samaritanlaw36.AssignmentNewTable', WHERE WHAT IT READS IS OF BULK AT MOST 1048576: true; the input reads as it did. -/
def assignmentNewTableUptoRow : OpenClaim := { program := "ytalplekmbhemnaa", sum := "ae474c90dff29372ad8065561f530c9da72a5b94df20d8942ceb44ed8864ead1", func := "samaritan/samaritanlaw36.AssignmentNewTable", spec := "assignmentNewTable", apart := false, narrowed := true }
def AssignmentNewTableUptoSaid : Prop := assignmentNewTableUptoRow.holds Try.pinned (OpenSpec.upto assignmentNewTableSpec)

end Rows
end Go.Proofs.Ytalplekmbhemnaa
