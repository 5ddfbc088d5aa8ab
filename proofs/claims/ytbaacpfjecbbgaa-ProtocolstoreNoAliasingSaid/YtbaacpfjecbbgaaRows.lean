/-
  No cell of these rows narrows 'for every input' (looked for: loops, veiled, ifaces, maps, wideKeys, modest, calm, conditions, laid).
  DERIVED. THE GIVEN ROWS OF THIS SEAT. 20 by the template 'for every input the law returns true; each argument reads behind the call as it read before'; 0 by the template 'total and deterministic' (their statements: YtbaacpfjecbbgaaTotals.lean).
  GIVEN WITH THE SEED: the statements are not yours to turn. If you find one false, say at which input.
  Laid BY PROGRAM, IN A SANDBOX (cutbox-rows.mjs): the forced cells as the released guide's own fill.sh prints them over the translation cfdccbcb00710b04… (all of the seat's roots in one cut). By AI agents, Wed Nov 11 2026. No macro, syntax, notation, axiom, sorry.
-/
import Derived.Test.YtbaacpfjecbbgaaChecked
import GoSem.Claim
import GoSem.ClaimJoined
import GoSem.ClaimMapViews
import Derived.JoinedTies
import Derived.KernelRfl
namespace Go.Proofs.Ytbaacpfjecbbgaa
/- THE CELL 'sum', in the pinned program and in every row, IS THE sha256 OF THE DUMP (.gsa) THAT YtbaacpfjecbbgaaProg.lean LOADS. Nothing in Lean hashes anything: it is a label: what it is worth is what the hold of that sum in a sandbox is worth. -/
noncomputable def Try.pinned : Pinned := { name := "ytbaacpfjecbbgaa", sum := "cfdccbcb00710b0493b0cc2fbd53eb7e18151960f574eb1ce1660fe5219a0958", checked := Try.checked }
namespace Rows
def none {H : Type} : Left H := { results := [], args := [] }

/-- 'samaritanlaw14.InterviewNarrows': WHATEVER THE INPUT: true; the input reads as it did. -/
def interviewNarrowsSpec : ChangeSpec := { name := "interviewNarrows", fn := fun _ => fun
  | [d1, d2] => { results := [.lit (.bool true)], args := [d1, d2] }
  | _ => none }
def interviewNarrowsRow : OpenClaim := { program := "ytbaacpfjecbbgaa", sum := "cfdccbcb00710b0493b0cc2fbd53eb7e18151960f574eb1ce1660fe5219a0958", func := "samaritan/samaritanlaw14.InterviewNarrows", spec := "interviewNarrows", unfollowed := true, recurses := true, apart := false }
def InterviewNarrowsSaid : Prop := interviewNarrowsRow.holds Try.pinned (OpenSpec.ofChange interviewNarrowsSpec)

/-- ITS FALSE NEIGHBOUR: 'it returns false'. Refute it at one input. -/
def interviewNarrowsWrong : ChangeSpec := { name := "interviewNarrows", fn := fun _ => fun
  | [d1, d2] => { results := [.lit (.bool false)], args := [d1, d2] }
  | _ => none }
def InterviewNarrowsWrongFalsely : Prop := interviewNarrowsRow.holds Try.pinned (OpenSpec.ofChange interviewNarrowsWrong)

/-- 'samaritanlaw14.InterviewNew': WHATEVER THE INPUT: true; the input reads as it did. -/
def interviewNewSpec : ChangeSpec := { name := "interviewNew", fn := fun _ => fun
  | [d] => { results := [.lit (.bool true)], args := [d] }
  | _ => none }
def interviewNewRow : OpenClaim := { program := "ytbaacpfjecbbgaa", sum := "cfdccbcb00710b0493b0cc2fbd53eb7e18151960f574eb1ce1660fe5219a0958", func := "samaritan/samaritanlaw14.InterviewNew", spec := "interviewNew", unfollowed := true, recurses := true, apart := false }
def InterviewNewSaid : Prop := interviewNewRow.holds Try.pinned (OpenSpec.ofChange interviewNewSpec)

/-- ITS FALSE NEIGHBOUR: 'it returns false'. Refute it at one input. -/
def interviewNewWrong : ChangeSpec := { name := "interviewNew", fn := fun _ => fun
  | [d] => { results := [.lit (.bool false)], args := [d] }
  | _ => none }
def InterviewNewWrongFalsely : Prop := interviewNewRow.holds Try.pinned (OpenSpec.ofChange interviewNewWrong)

/-- 'samaritanlaw14.InterviewMatches': WHATEVER THE INPUT: true; the input reads as it did. -/
def interviewMatchesSpec : ChangeSpec := { name := "interviewMatches", fn := fun _ => fun
  | [d1, d2] => { results := [.lit (.bool true)], args := [d1, d2] }
  | _ => none }
def interviewMatchesRow : OpenClaim := { program := "ytbaacpfjecbbgaa", sum := "cfdccbcb00710b0493b0cc2fbd53eb7e18151960f574eb1ce1660fe5219a0958", func := "samaritan/samaritanlaw14.InterviewMatches", spec := "interviewMatches", unfollowed := true, recurses := true, apart := false }
def InterviewMatchesSaid : Prop := interviewMatchesRow.holds Try.pinned (OpenSpec.ofChange interviewMatchesSpec)

/-- ITS FALSE NEIGHBOUR: 'it returns false'. Refute it at one input. -/
def interviewMatchesWrong : ChangeSpec := { name := "interviewMatches", fn := fun _ => fun
  | [d1, d2] => { results := [.lit (.bool false)], args := [d1, d2] }
  | _ => none }
def InterviewMatchesWrongFalsely : Prop := interviewMatchesRow.holds Try.pinned (OpenSpec.ofChange interviewMatchesWrong)

/-- 'samaritanlaw14.InterviewReplay': WHATEVER THE INPUT: true; the input reads as it did. -/
def interviewReplaySpec : ChangeSpec := { name := "interviewReplay", fn := fun _ => fun
  | [d1, d2] => { results := [.lit (.bool true)], args := [d1, d2] }
  | _ => none }
def interviewReplayRow : OpenClaim := { program := "ytbaacpfjecbbgaa", sum := "cfdccbcb00710b0493b0cc2fbd53eb7e18151960f574eb1ce1660fe5219a0958", func := "samaritan/samaritanlaw14.InterviewReplay", spec := "interviewReplay", unfollowed := true, recurses := true, apart := false }
def InterviewReplaySaid : Prop := interviewReplayRow.holds Try.pinned (OpenSpec.ofChange interviewReplaySpec)

/-- ITS FALSE NEIGHBOUR: 'it returns false'. Refute it at one input. -/
def interviewReplayWrong : ChangeSpec := { name := "interviewReplay", fn := fun _ => fun
  | [d1, d2] => { results := [.lit (.bool false)], args := [d1, d2] }
  | _ => none }
def InterviewReplayWrongFalsely : Prop := interviewReplayRow.holds Try.pinned (OpenSpec.ofChange interviewReplayWrong)

/-- 'samaritanlaw14.InterviewCopies': WHATEVER THE INPUT: true; the input reads as it did. -/
def interviewCopiesSpec : ChangeSpec := { name := "interviewCopies", fn := fun _ => fun
  | [d1, d2] => { results := [.lit (.bool true)], args := [d1, d2] }
  | _ => none }
def interviewCopiesRow : OpenClaim := { program := "ytbaacpfjecbbgaa", sum := "cfdccbcb00710b0493b0cc2fbd53eb7e18151960f574eb1ce1660fe5219a0958", func := "samaritan/samaritanlaw14.InterviewCopies", spec := "interviewCopies", unfollowed := true, recurses := true, apart := false }
def InterviewCopiesSaid : Prop := interviewCopiesRow.holds Try.pinned (OpenSpec.ofChange interviewCopiesSpec)

/-- ITS FALSE NEIGHBOUR: 'it returns false'. Refute it at one input. -/
def interviewCopiesWrong : ChangeSpec := { name := "interviewCopies", fn := fun _ => fun
  | [d1, d2] => { results := [.lit (.bool false)], args := [d1, d2] }
  | _ => none }
def InterviewCopiesWrongFalsely : Prop := interviewCopiesRow.holds Try.pinned (OpenSpec.ofChange interviewCopiesWrong)

/-- 'samaritanlaw14.InterviewUndo': WHATEVER THE INPUT: true; the input reads as it did. -/
def interviewUndoSpec : ChangeSpec := { name := "interviewUndo", fn := fun _ => fun
  | [d1, d2, d3] => { results := [.lit (.bool true)], args := [d1, d2, d3] }
  | _ => none }
def interviewUndoRow : OpenClaim := { program := "ytbaacpfjecbbgaa", sum := "cfdccbcb00710b0493b0cc2fbd53eb7e18151960f574eb1ce1660fe5219a0958", func := "samaritan/samaritanlaw14.InterviewUndo", spec := "interviewUndo", unfollowed := true, recurses := true, apart := false }
def InterviewUndoSaid : Prop := interviewUndoRow.holds Try.pinned (OpenSpec.ofChange interviewUndoSpec)

/-- ITS FALSE NEIGHBOUR: 'it returns false'. Refute it at one input. -/
def interviewUndoWrong : ChangeSpec := { name := "interviewUndo", fn := fun _ => fun
  | [d1, d2, d3] => { results := [.lit (.bool false)], args := [d1, d2, d3] }
  | _ => none }
def InterviewUndoWrongFalsely : Prop := interviewUndoRow.holds Try.pinned (OpenSpec.ofChange interviewUndoWrong)

/-- 'samaritanlaw15.ProtocolstorePinStability': WHATEVER THE INPUT: true; the input reads as it did. -/
def protocolstorePinStabilitySpec : ChangeSpec := { name := "protocolstorePinStability", fn := fun _ => fun
  | [d1, d2] => { results := [.lit (.bool true)], args := [d1, d2] }
  | _ => none }
def protocolstorePinStabilityRow : OpenClaim := { program := "ytbaacpfjecbbgaa", sum := "cfdccbcb00710b0493b0cc2fbd53eb7e18151960f574eb1ce1660fe5219a0958", func := "samaritan/samaritanlaw15.ProtocolstorePinStability", spec := "protocolstorePinStability", unfollowed := true, recurses := true, apart := false }
def ProtocolstorePinStabilitySaid : Prop := protocolstorePinStabilityRow.holds Try.pinned (OpenSpec.ofChange protocolstorePinStabilitySpec)

/-- ITS FALSE NEIGHBOUR: 'it returns false'. Refute it at one input. -/
def protocolstorePinStabilityWrong : ChangeSpec := { name := "protocolstorePinStability", fn := fun _ => fun
  | [d1, d2] => { results := [.lit (.bool false)], args := [d1, d2] }
  | _ => none }
def ProtocolstorePinStabilityWrongFalsely : Prop := protocolstorePinStabilityRow.holds Try.pinned (OpenSpec.ofChange protocolstorePinStabilityWrong)

/-- 'samaritanlaw15.ProtocolstoreNoAliasing': WHATEVER THE INPUT: true; the input reads as it did. -/
def protocolstoreNoAliasingSpec : ChangeSpec := { name := "protocolstoreNoAliasing", fn := fun _ => fun
  | [d] => { results := [.lit (.bool true)], args := [d] }
  | _ => none }
def protocolstoreNoAliasingRow : OpenClaim := { program := "ytbaacpfjecbbgaa", sum := "cfdccbcb00710b0493b0cc2fbd53eb7e18151960f574eb1ce1660fe5219a0958", func := "samaritan/samaritanlaw15.ProtocolstoreNoAliasing", spec := "protocolstoreNoAliasing", unfollowed := true, recurses := true, apart := false }
def ProtocolstoreNoAliasingSaid : Prop := protocolstoreNoAliasingRow.holds Try.pinned (OpenSpec.ofChange protocolstoreNoAliasingSpec)

/-- ITS FALSE NEIGHBOUR: 'it returns false'. Refute it at one input. -/
def protocolstoreNoAliasingWrong : ChangeSpec := { name := "protocolstoreNoAliasing", fn := fun _ => fun
  | [d] => { results := [.lit (.bool false)], args := [d] }
  | _ => none }
def ProtocolstoreNoAliasingWrongFalsely : Prop := protocolstoreNoAliasingRow.holds Try.pinned (OpenSpec.ofChange protocolstoreNoAliasingWrong)

/-- 'samaritanlaw15.ProtocolstorePutValidation': WHATEVER THE INPUT: true; the input reads as it did. -/
def protocolstorePutValidationSpec : ChangeSpec := { name := "protocolstorePutValidation", fn := fun _ => fun
  | [d] => { results := [.lit (.bool true)], args := [d] }
  | _ => none }
def protocolstorePutValidationRow : OpenClaim := { program := "ytbaacpfjecbbgaa", sum := "cfdccbcb00710b0493b0cc2fbd53eb7e18151960f574eb1ce1660fe5219a0958", func := "samaritan/samaritanlaw15.ProtocolstorePutValidation", spec := "protocolstorePutValidation", unfollowed := true, recurses := true, apart := false }
def ProtocolstorePutValidationSaid : Prop := protocolstorePutValidationRow.holds Try.pinned (OpenSpec.ofChange protocolstorePutValidationSpec)

/-- ITS FALSE NEIGHBOUR: 'it returns false'. Refute it at one input. -/
def protocolstorePutValidationWrong : ChangeSpec := { name := "protocolstorePutValidation", fn := fun _ => fun
  | [d] => { results := [.lit (.bool false)], args := [d] }
  | _ => none }
def ProtocolstorePutValidationWrongFalsely : Prop := protocolstorePutValidationRow.holds Try.pinned (OpenSpec.ofChange protocolstorePutValidationWrong)

/-- 'samaritanlaw15.ProtocolstoreCapacity': WHATEVER THE INPUT: true; the input reads as it did. -/
def protocolstoreCapacitySpec : ChangeSpec := { name := "protocolstoreCapacity", fn := fun _ => fun
  | [d1, d2] => { results := [.lit (.bool true)], args := [d1, d2] }
  | _ => none }
def protocolstoreCapacityRow : OpenClaim := { program := "ytbaacpfjecbbgaa", sum := "cfdccbcb00710b0493b0cc2fbd53eb7e18151960f574eb1ce1660fe5219a0958", func := "samaritan/samaritanlaw15.ProtocolstoreCapacity", spec := "protocolstoreCapacity", unfollowed := true, recurses := true, apart := false }
def ProtocolstoreCapacitySaid : Prop := protocolstoreCapacityRow.holds Try.pinned (OpenSpec.ofChange protocolstoreCapacitySpec)

/-- ITS FALSE NEIGHBOUR: 'it returns false'. Refute it at one input. -/
def protocolstoreCapacityWrong : ChangeSpec := { name := "protocolstoreCapacity", fn := fun _ => fun
  | [d1, d2] => { results := [.lit (.bool false)], args := [d1, d2] }
  | _ => none }
def ProtocolstoreCapacityWrongFalsely : Prop := protocolstoreCapacityRow.holds Try.pinned (OpenSpec.ofChange protocolstoreCapacityWrong)

/-- 'samaritanlaw13.ProtocolCheckCheck': WHATEVER THE INPUT: true; the input reads as it did. -/
def protocolCheckCheckSpec : ChangeSpec := { name := "protocolCheckCheck", fn := fun _ => fun
  | [d] => { results := [.lit (.bool true)], args := [d] }
  | _ => none }
def protocolCheckCheckRow : OpenClaim := { program := "ytbaacpfjecbbgaa", sum := "cfdccbcb00710b0493b0cc2fbd53eb7e18151960f574eb1ce1660fe5219a0958", func := "samaritan/samaritanlaw13.ProtocolCheckCheck", spec := "protocolCheckCheck", unfollowed := true, recurses := true, apart := false }
def ProtocolCheckCheckSaid : Prop := protocolCheckCheckRow.holds Try.pinned (OpenSpec.ofChange protocolCheckCheckSpec)

/-- ITS FALSE NEIGHBOUR: 'it returns false'. Refute it at one input. -/
def protocolCheckCheckWrong : ChangeSpec := { name := "protocolCheckCheck", fn := fun _ => fun
  | [d] => { results := [.lit (.bool false)], args := [d] }
  | _ => none }
def ProtocolCheckCheckWrongFalsely : Prop := protocolCheckCheckRow.holds Try.pinned (OpenSpec.ofChange protocolCheckCheckWrong)

/-- 'samaritanlaw13.ProtocolCheckMaxQuestions': WHATEVER THE INPUT: true; the input reads as it did. -/
def protocolCheckMaxQuestionsSpec : ChangeSpec := { name := "protocolCheckMaxQuestions", fn := fun _ => fun
  | [d1, d2] => { results := [.lit (.bool true)], args := [d1, d2] }
  | _ => none }
def protocolCheckMaxQuestionsRow : OpenClaim := { program := "ytbaacpfjecbbgaa", sum := "cfdccbcb00710b0493b0cc2fbd53eb7e18151960f574eb1ce1660fe5219a0958", func := "samaritan/samaritanlaw13.ProtocolCheckMaxQuestions", spec := "protocolCheckMaxQuestions", unfollowed := true, recurses := true, apart := false }
def ProtocolCheckMaxQuestionsSaid : Prop := protocolCheckMaxQuestionsRow.holds Try.pinned (OpenSpec.ofChange protocolCheckMaxQuestionsSpec)

/-- ITS FALSE NEIGHBOUR: 'it returns false'. Refute it at one input. -/
def protocolCheckMaxQuestionsWrong : ChangeSpec := { name := "protocolCheckMaxQuestions", fn := fun _ => fun
  | [d1, d2] => { results := [.lit (.bool false)], args := [d1, d2] }
  | _ => none }
def ProtocolCheckMaxQuestionsWrongFalsely : Prop := protocolCheckMaxQuestionsRow.holds Try.pinned (OpenSpec.ofChange protocolCheckMaxQuestionsWrong)

/-- 'samaritanlaw13.ProtocolCheckUrgencyRange': WHATEVER THE INPUT: true; the input reads as it did. -/
def protocolCheckUrgencyRangeSpec : ChangeSpec := { name := "protocolCheckUrgencyRange", fn := fun _ => fun
  | [d1, d2] => { results := [.lit (.bool true)], args := [d1, d2] }
  | _ => none }
def protocolCheckUrgencyRangeRow : OpenClaim := { program := "ytbaacpfjecbbgaa", sum := "cfdccbcb00710b0493b0cc2fbd53eb7e18151960f574eb1ce1660fe5219a0958", func := "samaritan/samaritanlaw13.ProtocolCheckUrgencyRange", spec := "protocolCheckUrgencyRange", unfollowed := true, recurses := true, apart := false }
def ProtocolCheckUrgencyRangeSaid : Prop := protocolCheckUrgencyRangeRow.holds Try.pinned (OpenSpec.ofChange protocolCheckUrgencyRangeSpec)

/-- ITS FALSE NEIGHBOUR: 'it returns false'. Refute it at one input. -/
def protocolCheckUrgencyRangeWrong : ChangeSpec := { name := "protocolCheckUrgencyRange", fn := fun _ => fun
  | [d1, d2] => { results := [.lit (.bool false)], args := [d1, d2] }
  | _ => none }
def ProtocolCheckUrgencyRangeWrongFalsely : Prop := protocolCheckUrgencyRangeRow.holds Try.pinned (OpenSpec.ofChange protocolCheckUrgencyRangeWrong)

/-- 'samaritanlaw13.ProtocolCheckPaths': WHATEVER THE INPUT: true; the input reads as it did. -/
def protocolCheckPathsSpec : ChangeSpec := { name := "protocolCheckPaths", fn := fun _ => fun
  | [d1, d2] => { results := [.lit (.bool true)], args := [d1, d2] }
  | _ => none }
def protocolCheckPathsRow : OpenClaim := { program := "ytbaacpfjecbbgaa", sum := "cfdccbcb00710b0493b0cc2fbd53eb7e18151960f574eb1ce1660fe5219a0958", func := "samaritan/samaritanlaw13.ProtocolCheckPaths", spec := "protocolCheckPaths", unfollowed := true, recurses := true, apart := false }
def ProtocolCheckPathsSaid : Prop := protocolCheckPathsRow.holds Try.pinned (OpenSpec.ofChange protocolCheckPathsSpec)

/-- ITS FALSE NEIGHBOUR: 'it returns false'. Refute it at one input. -/
def protocolCheckPathsWrong : ChangeSpec := { name := "protocolCheckPaths", fn := fun _ => fun
  | [d1, d2] => { results := [.lit (.bool false)], args := [d1, d2] }
  | _ => none }
def ProtocolCheckPathsWrongFalsely : Prop := protocolCheckPathsRow.holds Try.pinned (OpenSpec.ofChange protocolCheckPathsWrong)

/-- 'samaritanlaw13.ProtocolCheckCountPaths': WHATEVER THE INPUT: true; the input reads as it did. -/
def protocolCheckCountPathsSpec : ChangeSpec := { name := "protocolCheckCountPaths", fn := fun _ => fun
  | [d] => { results := [.lit (.bool true)], args := [d] }
  | _ => none }
def protocolCheckCountPathsRow : OpenClaim := { program := "ytbaacpfjecbbgaa", sum := "cfdccbcb00710b0493b0cc2fbd53eb7e18151960f574eb1ce1660fe5219a0958", func := "samaritan/samaritanlaw13.ProtocolCheckCountPaths", spec := "protocolCheckCountPaths", unfollowed := true, recurses := true, apart := false }
def ProtocolCheckCountPathsSaid : Prop := protocolCheckCountPathsRow.holds Try.pinned (OpenSpec.ofChange protocolCheckCountPathsSpec)

/-- ITS FALSE NEIGHBOUR: 'it returns false'. Refute it at one input. -/
def protocolCheckCountPathsWrong : ChangeSpec := { name := "protocolCheckCountPaths", fn := fun _ => fun
  | [d] => { results := [.lit (.bool false)], args := [d] }
  | _ => none }
def ProtocolCheckCountPathsWrongFalsely : Prop := protocolCheckCountPathsRow.holds Try.pinned (OpenSpec.ofChange protocolCheckCountPathsWrong)

/-- 'samaritanlaw13.ProtocolCheckShortestPath': WHATEVER THE INPUT: true; the input reads as it did. -/
def protocolCheckShortestPathSpec : ChangeSpec := { name := "protocolCheckShortestPath", fn := fun _ => fun
  | [d1, d2] => { results := [.lit (.bool true)], args := [d1, d2] }
  | _ => none }
def protocolCheckShortestPathRow : OpenClaim := { program := "ytbaacpfjecbbgaa", sum := "cfdccbcb00710b0493b0cc2fbd53eb7e18151960f574eb1ce1660fe5219a0958", func := "samaritan/samaritanlaw13.ProtocolCheckShortestPath", spec := "protocolCheckShortestPath", unfollowed := true, recurses := true, apart := false }
def ProtocolCheckShortestPathSaid : Prop := protocolCheckShortestPathRow.holds Try.pinned (OpenSpec.ofChange protocolCheckShortestPathSpec)

/-- ITS FALSE NEIGHBOUR: 'it returns false'. Refute it at one input. -/
def protocolCheckShortestPathWrong : ChangeSpec := { name := "protocolCheckShortestPath", fn := fun _ => fun
  | [d1, d2] => { results := [.lit (.bool false)], args := [d1, d2] }
  | _ => none }
def ProtocolCheckShortestPathWrongFalsely : Prop := protocolCheckShortestPathRow.holds Try.pinned (OpenSpec.ofChange protocolCheckShortestPathWrong)

/-- 'samaritanlaw13.ProtocolCheckPathsEnd': WHATEVER THE INPUT: true; the input reads as it did. -/
def protocolCheckPathsEndSpec : ChangeSpec := { name := "protocolCheckPathsEnd", fn := fun _ => fun
  | [d] => { results := [.lit (.bool true)], args := [d] }
  | _ => none }
def protocolCheckPathsEndRow : OpenClaim := { program := "ytbaacpfjecbbgaa", sum := "cfdccbcb00710b0493b0cc2fbd53eb7e18151960f574eb1ce1660fe5219a0958", func := "samaritan/samaritanlaw13.ProtocolCheckPathsEnd", spec := "protocolCheckPathsEnd", unfollowed := true, recurses := true, apart := false }
def ProtocolCheckPathsEndSaid : Prop := protocolCheckPathsEndRow.holds Try.pinned (OpenSpec.ofChange protocolCheckPathsEndSpec)

/-- ITS FALSE NEIGHBOUR: 'it returns false'. Refute it at one input. -/
def protocolCheckPathsEndWrong : ChangeSpec := { name := "protocolCheckPathsEnd", fn := fun _ => fun
  | [d] => { results := [.lit (.bool false)], args := [d] }
  | _ => none }
def ProtocolCheckPathsEndWrongFalsely : Prop := protocolCheckPathsEndRow.holds Try.pinned (OpenSpec.ofChange protocolCheckPathsEndWrong)

/-- 'samaritanlaw13.ProtocolCheckCycle': WHATEVER THE INPUT: true; the input reads as it did. -/
def protocolCheckCycleSpec : ChangeSpec := { name := "protocolCheckCycle", fn := fun _ => fun
  | [d1, d2, d3] => { results := [.lit (.bool true)], args := [d1, d2, d3] }
  | _ => none }
def protocolCheckCycleRow : OpenClaim := { program := "ytbaacpfjecbbgaa", sum := "cfdccbcb00710b0493b0cc2fbd53eb7e18151960f574eb1ce1660fe5219a0958", func := "samaritan/samaritanlaw13.ProtocolCheckCycle", spec := "protocolCheckCycle", unfollowed := true, recurses := true, apart := false }
def ProtocolCheckCycleSaid : Prop := protocolCheckCycleRow.holds Try.pinned (OpenSpec.ofChange protocolCheckCycleSpec)

/-- ITS FALSE NEIGHBOUR: 'it returns false'. Refute it at one input. -/
def protocolCheckCycleWrong : ChangeSpec := { name := "protocolCheckCycle", fn := fun _ => fun
  | [d1, d2, d3] => { results := [.lit (.bool false)], args := [d1, d2, d3] }
  | _ => none }
def ProtocolCheckCycleWrongFalsely : Prop := protocolCheckCycleRow.holds Try.pinned (OpenSpec.ofChange protocolCheckCycleWrong)

/-- 'samaritanlaw15.ProtocolstoreMatchesModel': WHATEVER THE INPUT: true; the input reads as it did. -/
def protocolstoreMatchesModelSpec : ChangeSpec := { name := "protocolstoreMatchesModel", fn := fun _ => fun
  | [d] => { results := [.lit (.bool true)], args := [d] }
  | _ => none }
def protocolstoreMatchesModelRow : OpenClaim := { program := "ytbaacpfjecbbgaa", sum := "cfdccbcb00710b0493b0cc2fbd53eb7e18151960f574eb1ce1660fe5219a0958", func := "samaritan/samaritanlaw15.ProtocolstoreMatchesModel", spec := "protocolstoreMatchesModel", unfollowed := true, recurses := true, apart := false }
def ProtocolstoreMatchesModelSaid : Prop := protocolstoreMatchesModelRow.holds Try.pinned (OpenSpec.ofChange protocolstoreMatchesModelSpec)

/-- ITS FALSE NEIGHBOUR: 'it returns false'. Refute it at one input. -/
def protocolstoreMatchesModelWrong : ChangeSpec := { name := "protocolstoreMatchesModel", fn := fun _ => fun
  | [d] => { results := [.lit (.bool false)], args := [d] }
  | _ => none }
def ProtocolstoreMatchesModelWrongFalsely : Prop := protocolstoreMatchesModelRow.holds Try.pinned (OpenSpec.ofChange protocolstoreMatchesModelWrong)

/-- 'samaritanlaw15.ProtocolstoreOnlyTerminating': WHATEVER THE INPUT: true; the input reads as it did. -/
def protocolstoreOnlyTerminatingSpec : ChangeSpec := { name := "protocolstoreOnlyTerminating", fn := fun _ => fun
  | [d] => { results := [.lit (.bool true)], args := [d] }
  | _ => none }
def protocolstoreOnlyTerminatingRow : OpenClaim := { program := "ytbaacpfjecbbgaa", sum := "cfdccbcb00710b0493b0cc2fbd53eb7e18151960f574eb1ce1660fe5219a0958", func := "samaritan/samaritanlaw15.ProtocolstoreOnlyTerminating", spec := "protocolstoreOnlyTerminating", unfollowed := true, recurses := true, apart := false }
def ProtocolstoreOnlyTerminatingSaid : Prop := protocolstoreOnlyTerminatingRow.holds Try.pinned (OpenSpec.ofChange protocolstoreOnlyTerminatingSpec)

/-- ITS FALSE NEIGHBOUR: 'it returns false'. Refute it at one input. -/
def protocolstoreOnlyTerminatingWrong : ChangeSpec := { name := "protocolstoreOnlyTerminating", fn := fun _ => fun
  | [d] => { results := [.lit (.bool false)], args := [d] }
  | _ => none }
def ProtocolstoreOnlyTerminatingWrongFalsely : Prop := protocolstoreOnlyTerminatingRow.holds Try.pinned (OpenSpec.ofChange protocolstoreOnlyTerminatingWrong)

/- THE SECOND FORM. 'bulk': how many values and letters a reading holds, each counted each time it is reached (what is shared counts as often as it is met; a slice's spare places count too). A statement '..UptoSaid' is the law's where the arguments, and the package variables that the reading takes, are together of bulk at most 1048576: NARROWER than '..Said'. Prove '..Said' where nothing that the law and all that it calls make is longer than what came in: it says more and counts as full. Else prove '..UptoSaid'. A law counts once. -/
mutual
def uptoBulk {H : Type} : DataW H → Nat
  | .lit (.string bytes) => bytes.length + 1
  | .lit _ => 1
  | .nil => 1
  | .ptr d => uptoBulk d + 1
  | .slice elems spare => uptoBulkAll elems + uptoBulkAll spare + 1
  | .agg parts => uptoBulkAll parts + 1
  | .iface _ d => uptoBulk d + 1
  | .map entries => uptoBulkEntries entries + 1
  | .held _ => 1
def uptoBulkAll {H : Type} : List (DataW H) → Nat
  | [] => 0
  | d :: r => uptoBulk d + uptoBulkAll r
def uptoBulkEntries {H : Type} : List (Lit × DataW H) → Nat
  | [] => 0
  | x :: r => uptoBulkEntry x + uptoBulkEntries r
def uptoBulkEntry {H : Type} : Lit × DataW H → Nat
  | (.string bytes, d) => bytes.length + uptoBulk d + 1
  | (_, d) => uptoBulk d + 1
 end
def uptoSmall : (H : Type) → List (DataW H) → Bool := fun _ ds => decide (uptoBulkAll ds ≤ 1048576)
def OpenSpec.upto (s : _root_.Go.ChangeSpec) : _root_.Go.OpenSpec := { _root_.Go.OpenSpec.ofChange s with cond := some uptoSmall }

/-- 'samaritanlaw14.InterviewNarrows', WHERE WHAT IT READS IS OF BULK AT MOST 1048576: true; the input reads as it did. -/
def interviewNarrowsUptoRow : OpenClaim := { program := "ytbaacpfjecbbgaa", sum := "cfdccbcb00710b0493b0cc2fbd53eb7e18151960f574eb1ce1660fe5219a0958", func := "samaritan/samaritanlaw14.InterviewNarrows", spec := "interviewNarrows", unfollowed := true, recurses := true, apart := false, narrowed := true }
def InterviewNarrowsUptoSaid : Prop := interviewNarrowsUptoRow.holds Try.pinned (OpenSpec.upto interviewNarrowsSpec)

/-- 'samaritanlaw14.InterviewNew', WHERE WHAT IT READS IS OF BULK AT MOST 1048576: true; the input reads as it did. -/
def interviewNewUptoRow : OpenClaim := { program := "ytbaacpfjecbbgaa", sum := "cfdccbcb00710b0493b0cc2fbd53eb7e18151960f574eb1ce1660fe5219a0958", func := "samaritan/samaritanlaw14.InterviewNew", spec := "interviewNew", unfollowed := true, recurses := true, apart := false, narrowed := true }
def InterviewNewUptoSaid : Prop := interviewNewUptoRow.holds Try.pinned (OpenSpec.upto interviewNewSpec)

/-- 'samaritanlaw14.InterviewMatches', WHERE WHAT IT READS IS OF BULK AT MOST 1048576: true; the input reads as it did. -/
def interviewMatchesUptoRow : OpenClaim := { program := "ytbaacpfjecbbgaa", sum := "cfdccbcb00710b0493b0cc2fbd53eb7e18151960f574eb1ce1660fe5219a0958", func := "samaritan/samaritanlaw14.InterviewMatches", spec := "interviewMatches", unfollowed := true, recurses := true, apart := false, narrowed := true }
def InterviewMatchesUptoSaid : Prop := interviewMatchesUptoRow.holds Try.pinned (OpenSpec.upto interviewMatchesSpec)

/-- 'samaritanlaw14.InterviewReplay', WHERE WHAT IT READS IS OF BULK AT MOST 1048576: true; the input reads as it did. -/
def interviewReplayUptoRow : OpenClaim := { program := "ytbaacpfjecbbgaa", sum := "cfdccbcb00710b0493b0cc2fbd53eb7e18151960f574eb1ce1660fe5219a0958", func := "samaritan/samaritanlaw14.InterviewReplay", spec := "interviewReplay", unfollowed := true, recurses := true, apart := false, narrowed := true }
def InterviewReplayUptoSaid : Prop := interviewReplayUptoRow.holds Try.pinned (OpenSpec.upto interviewReplaySpec)

/-- 'samaritanlaw14.InterviewCopies', WHERE WHAT IT READS IS OF BULK AT MOST 1048576: true; the input reads as it did. -/
def interviewCopiesUptoRow : OpenClaim := { program := "ytbaacpfjecbbgaa", sum := "cfdccbcb00710b0493b0cc2fbd53eb7e18151960f574eb1ce1660fe5219a0958", func := "samaritan/samaritanlaw14.InterviewCopies", spec := "interviewCopies", unfollowed := true, recurses := true, apart := false, narrowed := true }
def InterviewCopiesUptoSaid : Prop := interviewCopiesUptoRow.holds Try.pinned (OpenSpec.upto interviewCopiesSpec)

/-- 'samaritanlaw14.InterviewUndo', WHERE WHAT IT READS IS OF BULK AT MOST 1048576: true; the input reads as it did. -/
def interviewUndoUptoRow : OpenClaim := { program := "ytbaacpfjecbbgaa", sum := "cfdccbcb00710b0493b0cc2fbd53eb7e18151960f574eb1ce1660fe5219a0958", func := "samaritan/samaritanlaw14.InterviewUndo", spec := "interviewUndo", unfollowed := true, recurses := true, apart := false, narrowed := true }
def InterviewUndoUptoSaid : Prop := interviewUndoUptoRow.holds Try.pinned (OpenSpec.upto interviewUndoSpec)

/-- 'samaritanlaw15.ProtocolstorePinStability', WHERE WHAT IT READS IS OF BULK AT MOST 1048576: true; the input reads as it did. -/
def protocolstorePinStabilityUptoRow : OpenClaim := { program := "ytbaacpfjecbbgaa", sum := "cfdccbcb00710b0493b0cc2fbd53eb7e18151960f574eb1ce1660fe5219a0958", func := "samaritan/samaritanlaw15.ProtocolstorePinStability", spec := "protocolstorePinStability", unfollowed := true, recurses := true, apart := false, narrowed := true }
def ProtocolstorePinStabilityUptoSaid : Prop := protocolstorePinStabilityUptoRow.holds Try.pinned (OpenSpec.upto protocolstorePinStabilitySpec)

/-- 'samaritanlaw15.ProtocolstoreNoAliasing', WHERE WHAT IT READS IS OF BULK AT MOST 1048576: true; the input reads as it did. -/
def protocolstoreNoAliasingUptoRow : OpenClaim := { program := "ytbaacpfjecbbgaa", sum := "cfdccbcb00710b0493b0cc2fbd53eb7e18151960f574eb1ce1660fe5219a0958", func := "samaritan/samaritanlaw15.ProtocolstoreNoAliasing", spec := "protocolstoreNoAliasing", unfollowed := true, recurses := true, apart := false, narrowed := true }
def ProtocolstoreNoAliasingUptoSaid : Prop := protocolstoreNoAliasingUptoRow.holds Try.pinned (OpenSpec.upto protocolstoreNoAliasingSpec)

/-- 'samaritanlaw15.ProtocolstorePutValidation', WHERE WHAT IT READS IS OF BULK AT MOST 1048576: true; the input reads as it did. -/
def protocolstorePutValidationUptoRow : OpenClaim := { program := "ytbaacpfjecbbgaa", sum := "cfdccbcb00710b0493b0cc2fbd53eb7e18151960f574eb1ce1660fe5219a0958", func := "samaritan/samaritanlaw15.ProtocolstorePutValidation", spec := "protocolstorePutValidation", unfollowed := true, recurses := true, apart := false, narrowed := true }
def ProtocolstorePutValidationUptoSaid : Prop := protocolstorePutValidationUptoRow.holds Try.pinned (OpenSpec.upto protocolstorePutValidationSpec)

/-- 'samaritanlaw15.ProtocolstoreCapacity', WHERE WHAT IT READS IS OF BULK AT MOST 1048576: true; the input reads as it did. -/
def protocolstoreCapacityUptoRow : OpenClaim := { program := "ytbaacpfjecbbgaa", sum := "cfdccbcb00710b0493b0cc2fbd53eb7e18151960f574eb1ce1660fe5219a0958", func := "samaritan/samaritanlaw15.ProtocolstoreCapacity", spec := "protocolstoreCapacity", unfollowed := true, recurses := true, apart := false, narrowed := true }
def ProtocolstoreCapacityUptoSaid : Prop := protocolstoreCapacityUptoRow.holds Try.pinned (OpenSpec.upto protocolstoreCapacitySpec)

/-- 'samaritanlaw13.ProtocolCheckCheck', WHERE WHAT IT READS IS OF BULK AT MOST 1048576: true; the input reads as it did. -/
def protocolCheckCheckUptoRow : OpenClaim := { program := "ytbaacpfjecbbgaa", sum := "cfdccbcb00710b0493b0cc2fbd53eb7e18151960f574eb1ce1660fe5219a0958", func := "samaritan/samaritanlaw13.ProtocolCheckCheck", spec := "protocolCheckCheck", unfollowed := true, recurses := true, apart := false, narrowed := true }
def ProtocolCheckCheckUptoSaid : Prop := protocolCheckCheckUptoRow.holds Try.pinned (OpenSpec.upto protocolCheckCheckSpec)

/-- 'samaritanlaw13.ProtocolCheckMaxQuestions', WHERE WHAT IT READS IS OF BULK AT MOST 1048576: true; the input reads as it did. -/
def protocolCheckMaxQuestionsUptoRow : OpenClaim := { program := "ytbaacpfjecbbgaa", sum := "cfdccbcb00710b0493b0cc2fbd53eb7e18151960f574eb1ce1660fe5219a0958", func := "samaritan/samaritanlaw13.ProtocolCheckMaxQuestions", spec := "protocolCheckMaxQuestions", unfollowed := true, recurses := true, apart := false, narrowed := true }
def ProtocolCheckMaxQuestionsUptoSaid : Prop := protocolCheckMaxQuestionsUptoRow.holds Try.pinned (OpenSpec.upto protocolCheckMaxQuestionsSpec)

/-- 'samaritanlaw13.ProtocolCheckUrgencyRange', WHERE WHAT IT READS IS OF BULK AT MOST 1048576: true; the input reads as it did. -/
def protocolCheckUrgencyRangeUptoRow : OpenClaim := { program := "ytbaacpfjecbbgaa", sum := "cfdccbcb00710b0493b0cc2fbd53eb7e18151960f574eb1ce1660fe5219a0958", func := "samaritan/samaritanlaw13.ProtocolCheckUrgencyRange", spec := "protocolCheckUrgencyRange", unfollowed := true, recurses := true, apart := false, narrowed := true }
def ProtocolCheckUrgencyRangeUptoSaid : Prop := protocolCheckUrgencyRangeUptoRow.holds Try.pinned (OpenSpec.upto protocolCheckUrgencyRangeSpec)

/-- 'samaritanlaw13.ProtocolCheckPaths', WHERE WHAT IT READS IS OF BULK AT MOST 1048576: true; the input reads as it did. -/
def protocolCheckPathsUptoRow : OpenClaim := { program := "ytbaacpfjecbbgaa", sum := "cfdccbcb00710b0493b0cc2fbd53eb7e18151960f574eb1ce1660fe5219a0958", func := "samaritan/samaritanlaw13.ProtocolCheckPaths", spec := "protocolCheckPaths", unfollowed := true, recurses := true, apart := false, narrowed := true }
def ProtocolCheckPathsUptoSaid : Prop := protocolCheckPathsUptoRow.holds Try.pinned (OpenSpec.upto protocolCheckPathsSpec)

/-- 'samaritanlaw13.ProtocolCheckCountPaths', WHERE WHAT IT READS IS OF BULK AT MOST 1048576: true; the input reads as it did. -/
def protocolCheckCountPathsUptoRow : OpenClaim := { program := "ytbaacpfjecbbgaa", sum := "cfdccbcb00710b0493b0cc2fbd53eb7e18151960f574eb1ce1660fe5219a0958", func := "samaritan/samaritanlaw13.ProtocolCheckCountPaths", spec := "protocolCheckCountPaths", unfollowed := true, recurses := true, apart := false, narrowed := true }
def ProtocolCheckCountPathsUptoSaid : Prop := protocolCheckCountPathsUptoRow.holds Try.pinned (OpenSpec.upto protocolCheckCountPathsSpec)

/-- 'samaritanlaw13.ProtocolCheckShortestPath', WHERE WHAT IT READS IS OF BULK AT MOST 1048576: true; the input reads as it did. -/
def protocolCheckShortestPathUptoRow : OpenClaim := { program := "ytbaacpfjecbbgaa", sum := "cfdccbcb00710b0493b0cc2fbd53eb7e18151960f574eb1ce1660fe5219a0958", func := "samaritan/samaritanlaw13.ProtocolCheckShortestPath", spec := "protocolCheckShortestPath", unfollowed := true, recurses := true, apart := false, narrowed := true }
def ProtocolCheckShortestPathUptoSaid : Prop := protocolCheckShortestPathUptoRow.holds Try.pinned (OpenSpec.upto protocolCheckShortestPathSpec)

/-- 'samaritanlaw13.ProtocolCheckPathsEnd', WHERE WHAT IT READS IS OF BULK AT MOST 1048576: true; the input reads as it did. -/
def protocolCheckPathsEndUptoRow : OpenClaim := { program := "ytbaacpfjecbbgaa", sum := "cfdccbcb00710b0493b0cc2fbd53eb7e18151960f574eb1ce1660fe5219a0958", func := "samaritan/samaritanlaw13.ProtocolCheckPathsEnd", spec := "protocolCheckPathsEnd", unfollowed := true, recurses := true, apart := false, narrowed := true }
def ProtocolCheckPathsEndUptoSaid : Prop := protocolCheckPathsEndUptoRow.holds Try.pinned (OpenSpec.upto protocolCheckPathsEndSpec)

/-- 'samaritanlaw13.ProtocolCheckCycle', WHERE WHAT IT READS IS OF BULK AT MOST 1048576: true; the input reads as it did. -/
def protocolCheckCycleUptoRow : OpenClaim := { program := "ytbaacpfjecbbgaa", sum := "cfdccbcb00710b0493b0cc2fbd53eb7e18151960f574eb1ce1660fe5219a0958", func := "samaritan/samaritanlaw13.ProtocolCheckCycle", spec := "protocolCheckCycle", unfollowed := true, recurses := true, apart := false, narrowed := true }
def ProtocolCheckCycleUptoSaid : Prop := protocolCheckCycleUptoRow.holds Try.pinned (OpenSpec.upto protocolCheckCycleSpec)

/-- 'samaritanlaw15.ProtocolstoreMatchesModel', WHERE WHAT IT READS IS OF BULK AT MOST 1048576: true; the input reads as it did. -/
def protocolstoreMatchesModelUptoRow : OpenClaim := { program := "ytbaacpfjecbbgaa", sum := "cfdccbcb00710b0493b0cc2fbd53eb7e18151960f574eb1ce1660fe5219a0958", func := "samaritan/samaritanlaw15.ProtocolstoreMatchesModel", spec := "protocolstoreMatchesModel", unfollowed := true, recurses := true, apart := false, narrowed := true }
def ProtocolstoreMatchesModelUptoSaid : Prop := protocolstoreMatchesModelUptoRow.holds Try.pinned (OpenSpec.upto protocolstoreMatchesModelSpec)

/-- 'samaritanlaw15.ProtocolstoreOnlyTerminating', WHERE WHAT IT READS IS OF BULK AT MOST 1048576: true; the input reads as it did. -/
def protocolstoreOnlyTerminatingUptoRow : OpenClaim := { program := "ytbaacpfjecbbgaa", sum := "cfdccbcb00710b0493b0cc2fbd53eb7e18151960f574eb1ce1660fe5219a0958", func := "samaritan/samaritanlaw15.ProtocolstoreOnlyTerminating", spec := "protocolstoreOnlyTerminating", unfollowed := true, recurses := true, apart := false, narrowed := true }
def ProtocolstoreOnlyTerminatingUptoSaid : Prop := protocolstoreOnlyTerminatingUptoRow.holds Try.pinned (OpenSpec.upto protocolstoreOnlyTerminatingSpec)

end Rows
end Go.Proofs.Ytbaacpfjecbbgaa
