/-
  No cell of these rows narrows 'for every input' (looked for: loops, veiled, ifaces, maps, wideKeys, modest, calm, conditions, laid).
  DERIVED. THE GIVEN ROWS OF THIS SEAT. 6 by the template 'for every input the law returns true; each argument reads behind the call as it read before'; 0 by the template 'total and deterministic' (their statements: YthddcccffiofbaaTotals.lean).
  GIVEN WITH THE SEED: the statements are not yours to turn. If you find one false, say at which input.
  Laid BY PROGRAM, IN A SANDBOX (cutbox-rows.mjs): the forced cells as the released guide's own fill.sh prints them over the translation 32969149f0029b70… (all of the seat's roots in one cut). By AI agents, Wed Nov 11 2026. No macro, syntax, notation, axiom, sorry.
-/
import Derived.Test.YthddcccffiofbaaChecked
import GoSem.Claim
import GoSem.ClaimJoined
import GoSem.ClaimMapViews
import Derived.JoinedTies
import Derived.KernelRfl
namespace Go.Proofs.Ythddcccffiofbaa
/- THE CELL 'sum', in the pinned program and in every row, IS THE sha256 OF THE DUMP (.gsa) THAT YthddcccffiofbaaProg.lean LOADS. Nothing in Lean hashes anything: it is a label: what it is worth is what the hold of that sum in a sandbox is worth. -/
noncomputable def Try.pinned : Pinned := { name := "ythddcccffiofbaa", sum := "32969149f0029b70d1583e529047f0951c1bf4acbde94fe2de8fb8e7e755143e", checked := Try.checked }
namespace Rows
def none {H : Type} : Left H := { results := [], args := [] }

/-- 'samaritanlaw21.FailureDetectorMatchesModel': WHATEVER THE INPUT: true; the input reads as it did. -/
def failureDetectorMatchesModelSpec : ChangeSpec := { name := "failureDetectorMatchesModel", fn := fun _ => fun
  | [d1, d2] => { results := [.lit (.bool true)], args := [d1, d2] }
  | _ => none }
def failureDetectorMatchesModelRow : OpenClaim := { program := "ythddcccffiofbaa", sum := "32969149f0029b70d1583e529047f0951c1bf4acbde94fe2de8fb8e7e755143e", func := "samaritan/samaritanlaw21.FailureDetectorMatchesModel", spec := "failureDetectorMatchesModel", apart := false }
def FailureDetectorMatchesModelSaid : Prop := failureDetectorMatchesModelRow.holds Try.pinned (OpenSpec.ofChange failureDetectorMatchesModelSpec)

/-- ITS FALSE NEIGHBOUR: 'it returns false'. Refute it at one input. -/
def failureDetectorMatchesModelWrong : ChangeSpec := { name := "failureDetectorMatchesModel", fn := fun _ => fun
  | [d1, d2] => { results := [.lit (.bool false)], args := [d1, d2] }
  | _ => none }
def FailureDetectorMatchesModelWrongFalsely : Prop := failureDetectorMatchesModelRow.holds Try.pinned (OpenSpec.ofChange failureDetectorMatchesModelWrong)

/-- 'samaritanlaw21.FailureDetectorNew': WHATEVER THE INPUT: true; the input reads as it did. -/
def failureDetectorNewSpec : ChangeSpec := { name := "failureDetectorNew", fn := fun _ => fun
  | [d] => { results := [.lit (.bool true)], args := [d] }
  | _ => none }
def failureDetectorNewRow : OpenClaim := { program := "ythddcccffiofbaa", sum := "32969149f0029b70d1583e529047f0951c1bf4acbde94fe2de8fb8e7e755143e", func := "samaritan/samaritanlaw21.FailureDetectorNew", spec := "failureDetectorNew", apart := false }
def FailureDetectorNewSaid : Prop := failureDetectorNewRow.holds Try.pinned (OpenSpec.ofChange failureDetectorNewSpec)

/-- ITS FALSE NEIGHBOUR: 'it returns false'. Refute it at one input. -/
def failureDetectorNewWrong : ChangeSpec := { name := "failureDetectorNew", fn := fun _ => fun
  | [d] => { results := [.lit (.bool false)], args := [d] }
  | _ => none }
def FailureDetectorNewWrongFalsely : Prop := failureDetectorNewRow.holds Try.pinned (OpenSpec.ofChange failureDetectorNewWrong)

/-- 'samaritanlaw21.FailureDetectorPunctual': WHATEVER THE INPUT: true; the input reads as it did. -/
def failureDetectorPunctualSpec : ChangeSpec := { name := "failureDetectorPunctual", fn := fun _ => fun
  | [d1, d2] => { results := [.lit (.bool true)], args := [d1, d2] }
  | _ => none }
def failureDetectorPunctualRow : OpenClaim := { program := "ythddcccffiofbaa", sum := "32969149f0029b70d1583e529047f0951c1bf4acbde94fe2de8fb8e7e755143e", func := "samaritan/samaritanlaw21.FailureDetectorPunctual", spec := "failureDetectorPunctual", apart := false }
def FailureDetectorPunctualSaid : Prop := failureDetectorPunctualRow.holds Try.pinned (OpenSpec.ofChange failureDetectorPunctualSpec)

/-- ITS FALSE NEIGHBOUR: 'it returns false'. Refute it at one input. -/
def failureDetectorPunctualWrong : ChangeSpec := { name := "failureDetectorPunctual", fn := fun _ => fun
  | [d1, d2] => { results := [.lit (.bool false)], args := [d1, d2] }
  | _ => none }
def FailureDetectorPunctualWrongFalsely : Prop := failureDetectorPunctualRow.holds Try.pinned (OpenSpec.ofChange failureDetectorPunctualWrong)

/-- 'samaritanlaw21.FailureDetectorTimeouts': WHATEVER THE INPUT: true; the input reads as it did. -/
def failureDetectorTimeoutsSpec : ChangeSpec := { name := "failureDetectorTimeouts", fn := fun _ => fun
  | [d1, d2] => { results := [.lit (.bool true)], args := [d1, d2] }
  | _ => none }
def failureDetectorTimeoutsRow : OpenClaim := { program := "ythddcccffiofbaa", sum := "32969149f0029b70d1583e529047f0951c1bf4acbde94fe2de8fb8e7e755143e", func := "samaritan/samaritanlaw21.FailureDetectorTimeouts", spec := "failureDetectorTimeouts", apart := false }
def FailureDetectorTimeoutsSaid : Prop := failureDetectorTimeoutsRow.holds Try.pinned (OpenSpec.ofChange failureDetectorTimeoutsSpec)

/-- ITS FALSE NEIGHBOUR: 'it returns false'. Refute it at one input. -/
def failureDetectorTimeoutsWrong : ChangeSpec := { name := "failureDetectorTimeouts", fn := fun _ => fun
  | [d1, d2] => { results := [.lit (.bool false)], args := [d1, d2] }
  | _ => none }
def FailureDetectorTimeoutsWrongFalsely : Prop := failureDetectorTimeoutsRow.holds Try.pinned (OpenSpec.ofChange failureDetectorTimeoutsWrong)

/-- 'samaritanlaw21.FailureDetectorSettles': WHATEVER THE INPUT: true; the input reads as it did. -/
def failureDetectorSettlesSpec : ChangeSpec := { name := "failureDetectorSettles", fn := fun _ => fun
  | [d1, d2, d3] => { results := [.lit (.bool true)], args := [d1, d2, d3] }
  | _ => none }
def failureDetectorSettlesRow : OpenClaim := { program := "ythddcccffiofbaa", sum := "32969149f0029b70d1583e529047f0951c1bf4acbde94fe2de8fb8e7e755143e", func := "samaritan/samaritanlaw21.FailureDetectorSettles", spec := "failureDetectorSettles", apart := false }
def FailureDetectorSettlesSaid : Prop := failureDetectorSettlesRow.holds Try.pinned (OpenSpec.ofChange failureDetectorSettlesSpec)

/-- ITS FALSE NEIGHBOUR: 'it returns false'. Refute it at one input. -/
def failureDetectorSettlesWrong : ChangeSpec := { name := "failureDetectorSettles", fn := fun _ => fun
  | [d1, d2, d3] => { results := [.lit (.bool false)], args := [d1, d2, d3] }
  | _ => none }
def FailureDetectorSettlesWrongFalsely : Prop := failureDetectorSettlesRow.holds Try.pinned (OpenSpec.ofChange failureDetectorSettlesWrong)

/-- 'samaritanlaw21.FailureDetectorNextAlive': WHATEVER THE INPUT: true; the input reads as it did. -/
def failureDetectorNextAliveSpec : ChangeSpec := { name := "failureDetectorNextAlive", fn := fun _ => fun
  | [d1, d2, d3] => { results := [.lit (.bool true)], args := [d1, d2, d3] }
  | _ => none }
def failureDetectorNextAliveRow : OpenClaim := { program := "ythddcccffiofbaa", sum := "32969149f0029b70d1583e529047f0951c1bf4acbde94fe2de8fb8e7e755143e", func := "samaritan/samaritanlaw21.FailureDetectorNextAlive", spec := "failureDetectorNextAlive", apart := false }
def FailureDetectorNextAliveSaid : Prop := failureDetectorNextAliveRow.holds Try.pinned (OpenSpec.ofChange failureDetectorNextAliveSpec)

/-- ITS FALSE NEIGHBOUR: 'it returns false'. Refute it at one input. -/
def failureDetectorNextAliveWrong : ChangeSpec := { name := "failureDetectorNextAlive", fn := fun _ => fun
  | [d1, d2, d3] => { results := [.lit (.bool false)], args := [d1, d2, d3] }
  | _ => none }
def FailureDetectorNextAliveWrongFalsely : Prop := failureDetectorNextAliveRow.holds Try.pinned (OpenSpec.ofChange failureDetectorNextAliveWrong)

/- THE SECOND FORM. 'bulk': how many values and letters a reading holds, each counted each time it is reached (what is shared counts as often as it is met; a slice's spare places count too). A statement '..UptoSaid' is the law's where the arguments, and the package variables that the reading takes, are together of bulk at most 1048576: NARROWER than '..Said'. Prove '..Said' where nothing that the law and all that it calls make is longer than what came in: it says more and counts as full. Else prove '..UptoSaid'. A law counts once. -/
mutual
def uptoBulk {H : Type} : DataW H → Nat
  | .lit (.string bytes) => bytes.length + 1
  | .lit _ => 1
  | .nil => 1
  | .ptr d => uptoBulk d + 1
  | .slice elems spare => uptoBulkAll elems + uptoBulkAll spare + 1
  | .agg parts => uptoBulkAll parts + 1
  | .iface _ d => uptoBulk d + 1
  | .map entries => uptoBulkEntries entries + 1
  | .held _ => 1
def uptoBulkAll {H : Type} : List (DataW H) → Nat
  | [] => 0
  | d :: r => uptoBulk d + uptoBulkAll r
def uptoBulkEntries {H : Type} : List (Lit × DataW H) → Nat
  | [] => 0
  | x :: r => uptoBulkEntry x + uptoBulkEntries r
def uptoBulkEntry {H : Type} : Lit × DataW H → Nat
  | (.string bytes, d) => bytes.length + uptoBulk d + 1
  | (_, d) => uptoBulk d + 1
 end
def uptoSmall : (H : Type) → List (DataW H) → Bool := fun _ ds => decide (uptoBulkAll ds ≤ 1048576)
def OpenSpec.upto (s : _root_.Go.ChangeSpec) : _root_.Go.OpenSpec := { _root_.Go.OpenSpec.ofChange s with cond := some uptoSmall }

/-- 'samaritanlaw21.FailureDetectorMatchesModel', WHERE WHAT IT READS IS OF BULK AT MOST 1048576: true; the input reads as it did. -/
def failureDetectorMatchesModelUptoRow : OpenClaim := { program := "ythddcccffiofbaa", sum := "32969149f0029b70d1583e529047f0951c1bf4acbde94fe2de8fb8e7e755143e", func := "samaritan/samaritanlaw21.FailureDetectorMatchesModel", spec := "failureDetectorMatchesModel", apart := false, narrowed := true }
def FailureDetectorMatchesModelUptoSaid : Prop := failureDetectorMatchesModelUptoRow.holds Try.pinned (OpenSpec.upto failureDetectorMatchesModelSpec)

/-- 'samaritanlaw21.FailureDetectorNew', WHERE WHAT IT READS IS OF BULK AT MOST 1048576: true; the input reads as it did. -/
def failureDetectorNewUptoRow : OpenClaim := { program := "ythddcccffiofbaa", sum := "32969149f0029b70d1583e529047f0951c1bf4acbde94fe2de8fb8e7e755143e", func := "samaritan/samaritanlaw21.FailureDetectorNew", spec := "failureDetectorNew", apart := false, narrowed := true }
def FailureDetectorNewUptoSaid : Prop := failureDetectorNewUptoRow.holds Try.pinned (OpenSpec.upto failureDetectorNewSpec)

/-- 'samaritanlaw21.FailureDetectorPunctual', WHERE WHAT IT READS IS OF BULK AT MOST 1048576: true; the input reads as it did. -/
def failureDetectorPunctualUptoRow : OpenClaim := { program := "ythddcccffiofbaa", sum := "32969149f0029b70d1583e529047f0951c1bf4acbde94fe2de8fb8e7e755143e", func := "samaritan/samaritanlaw21.FailureDetectorPunctual", spec := "failureDetectorPunctual", apart := false, narrowed := true }
def FailureDetectorPunctualUptoSaid : Prop := failureDetectorPunctualUptoRow.holds Try.pinned (OpenSpec.upto failureDetectorPunctualSpec)

/-- 'samaritanlaw21.FailureDetectorTimeouts', WHERE WHAT IT READS IS OF BULK AT MOST 1048576: true; the input reads as it did. -/
def failureDetectorTimeoutsUptoRow : OpenClaim := { program := "ythddcccffiofbaa", sum := "32969149f0029b70d1583e529047f0951c1bf4acbde94fe2de8fb8e7e755143e", func := "samaritan/samaritanlaw21.FailureDetectorTimeouts", spec := "failureDetectorTimeouts", apart := false, narrowed := true }
def FailureDetectorTimeoutsUptoSaid : Prop := failureDetectorTimeoutsUptoRow.holds Try.pinned (OpenSpec.upto failureDetectorTimeoutsSpec)

/-- 'samaritanlaw21.FailureDetectorSettles', WHERE WHAT IT READS IS OF BULK AT MOST 1048576: true; the input reads as it did. -/
def failureDetectorSettlesUptoRow : OpenClaim := { program := "ythddcccffiofbaa", sum := "32969149f0029b70d1583e529047f0951c1bf4acbde94fe2de8fb8e7e755143e", func := "samaritan/samaritanlaw21.FailureDetectorSettles", spec := "failureDetectorSettles", apart := false, narrowed := true }
def FailureDetectorSettlesUptoSaid : Prop := failureDetectorSettlesUptoRow.holds Try.pinned (OpenSpec.upto failureDetectorSettlesSpec)

/-- 'samaritanlaw21.FailureDetectorNextAlive', WHERE WHAT IT READS IS OF BULK AT MOST 1048576: true; the input reads as it did. -/
def failureDetectorNextAliveUptoRow : OpenClaim := { program := "ythddcccffiofbaa", sum := "32969149f0029b70d1583e529047f0951c1bf4acbde94fe2de8fb8e7e755143e", func := "samaritan/samaritanlaw21.FailureDetectorNextAlive", spec := "failureDetectorNextAlive", apart := false, narrowed := true }
def FailureDetectorNextAliveUptoSaid : Prop := failureDetectorNextAliveUptoRow.holds Try.pinned (OpenSpec.upto failureDetectorNextAliveSpec)

end Rows
end Go.Proofs.Ythddcccffiofbaa
