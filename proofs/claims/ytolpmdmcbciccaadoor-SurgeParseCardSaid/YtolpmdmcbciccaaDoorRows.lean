/-
  NARROWER THAN 'FOR EVERY INPUT', by the rows' own cells (each row's printed sentence says how): SurgeLevel: laid · SurgeMonotonic: laid · SurgeValidate: laid · SurgeMatchesModel: laid · SurgeHysteresis: laid · SurgeDrill: laid · SurgeFormat: laid · SurgeParse: laid.
  DERIVED. THE GIVEN ROWS OF THIS SEAT. 8 by the template 'for every input the law returns true; each argument reads behind the call as it read before'; 0 by the template 'total and deterministic' (their statements: YtolpmdmcbciccaaDoorTotals.lean).
  GIVEN WITH THE SEED: the statements are not yours to turn. If you find one false, say at which input.
  Laid BY PROGRAM, IN A SANDBOX (cutbox-rows.mjs): the forced cells as the released guide's own fill.sh prints them over the translation b9c86e3b3c3239fd… (all of the seat's roots in one cut). By AI agents, Wed Nov 11 2026. No macro, syntax, notation, axiom, sorry.
-/
import Derived.Test.YtolpmdmcbciccaaDoorChecked
import GoSem.Claim
import GoSem.ClaimJoined
import GoSem.ClaimMapViews
import Derived.JoinedTies
import Derived.KernelRfl
namespace Go.Proofs.YtolpmdmcbciccaaDoor
/- THE CELL 'sum', in the pinned program and in every row, IS THE sha256 OF THE DUMP (.gsa) THAT YtolpmdmcbciccaaDoorProg.lean LOADS. Nothing in Lean hashes anything: it is a label: what it is worth is what the hold of that sum in a sandbox is worth. -/
noncomputable def Tryd.pinned : Pinned := { name := "ytolpmdmcbciccaadoor", sum := "b9c86e3b3c3239fd22b7655ee7e42197f029ff173c8074ab789a04c8b5908356", checked := Tryd.checked }
namespace Rows
def none {H : Type} : Left H := { results := [], args := [] }

/- WHAT THE LISTED PACKAGE-LEVEL VARIABLES READ AS WHEN THE CALL BEGINS. Each datum BY PROGRAM (the guide's laid-datum.mjs) off the statement by which the dump's own 'gosem.cut.vars' lays the variable. In a bare row this is a premise. The card (YtolpmdmcbciccaaDoorCards.lean) ties it to the program's text. -/
def laid_math_bits_deBruijn32tab {H : Type} : DataW H := .agg [.lit (.int .u8 0), .lit (.int .u8 1), .lit (.int .u8 28), .lit (.int .u8 2), .lit (.int .u8 29), .lit (.int .u8 14), .lit (.int .u8 24), .lit (.int .u8 3), .lit (.int .u8 30), .lit (.int .u8 22), .lit (.int .u8 20), .lit (.int .u8 15), .lit (.int .u8 25), .lit (.int .u8 17), .lit (.int .u8 4), .lit (.int .u8 8), .lit (.int .u8 31), .lit (.int .u8 27), .lit (.int .u8 13), .lit (.int .u8 23), .lit (.int .u8 21), .lit (.int .u8 19), .lit (.int .u8 16), .lit (.int .u8 7), .lit (.int .u8 26), .lit (.int .u8 12), .lit (.int .u8 18), .lit (.int .u8 6), .lit (.int .u8 11), .lit (.int .u8 5), .lit (.int .u8 10), .lit (.int .u8 9)]
def laid_math_bits_deBruijn64tab {H : Type} : DataW H := .agg [.lit (.int .u8 0), .lit (.int .u8 1), .lit (.int .u8 56), .lit (.int .u8 2), .lit (.int .u8 57), .lit (.int .u8 49), .lit (.int .u8 28), .lit (.int .u8 3), .lit (.int .u8 61), .lit (.int .u8 58), .lit (.int .u8 42), .lit (.int .u8 50), .lit (.int .u8 38), .lit (.int .u8 29), .lit (.int .u8 17), .lit (.int .u8 4), .lit (.int .u8 62), .lit (.int .u8 47), .lit (.int .u8 59), .lit (.int .u8 36), .lit (.int .u8 45), .lit (.int .u8 43), .lit (.int .u8 51), .lit (.int .u8 22), .lit (.int .u8 53), .lit (.int .u8 39), .lit (.int .u8 33), .lit (.int .u8 30), .lit (.int .u8 24), .lit (.int .u8 18), .lit (.int .u8 12), .lit (.int .u8 5), .lit (.int .u8 63), .lit (.int .u8 55), .lit (.int .u8 48), .lit (.int .u8 27), .lit (.int .u8 60), .lit (.int .u8 41), .lit (.int .u8 37), .lit (.int .u8 16), .lit (.int .u8 46), .lit (.int .u8 35), .lit (.int .u8 44), .lit (.int .u8 21), .lit (.int .u8 52), .lit (.int .u8 32), .lit (.int .u8 23), .lit (.int .u8 11), .lit (.int .u8 54), .lit (.int .u8 26), .lit (.int .u8 40), .lit (.int .u8 15), .lit (.int .u8 34), .lit (.int .u8 20), .lit (.int .u8 31), .lit (.int .u8 10), .lit (.int .u8 25), .lit (.int .u8 14), .lit (.int .u8 19), .lit (.int .u8 9), .lit (.int .u8 13), .lit (.int .u8 8), .lit (.int .u8 7), .lit (.int .u8 6)]
def laid_internal_strconv_uint64pow10 {H : Type} : DataW H := .agg [.lit (.int .u64 1), .lit (.int .u64 10), .lit (.int .u64 100), .lit (.int .u64 1000), .lit (.int .u64 10000), .lit (.int .u64 100000), .lit (.int .u64 1000000), .lit (.int .u64 10000000), .lit (.int .u64 100000000), .lit (.int .u64 1000000000), .lit (.int .u64 10000000000), .lit (.int .u64 100000000000), .lit (.int .u64 1000000000000), .lit (.int .u64 10000000000000), .lit (.int .u64 100000000000000), .lit (.int .u64 1000000000000000), .lit (.int .u64 10000000000000000), .lit (.int .u64 100000000000000000), .lit (.int .u64 1000000000000000000), .lit (.int .u64 10000000000000000000)]

/-- 'samaritanlaw45.SurgeLevel': WHATEVER THE INPUT: true; the input reads as it did. -/
def surgeLevelSpec : ChangeSpec := { name := "surgeLevel", fn := fun _ => fun
  | [d1, d2, d3] => { results := [.lit (.bool true)], args := [d1, d2, d3] }
  | _ => none }
def surgeLevelRow : OpenClaim := { program := "ytolpmdmcbciccaadoor", sum := "b9c86e3b3c3239fd22b7655ee7e42197f029ff173c8074ab789a04c8b5908356", func := "samaritan/samaritanlaw45.SurgeLevel", spec := "surgeLevel", inPlace := ["internal/abi.NoEscape", "internal/bytealg.IndexByteString", "internal/bytealg.IndexString"], unfollowed := true, recurses := true, named := ["internal/strconv.uint64pow10", "math/bits.deBruijn32tab", "math/bits.deBruijn64tab", "internal/bytealg.MaxLen"], apart := false, laid := [("math/bits.deBruijn32tab", laid_math_bits_deBruijn32tab), ("math/bits.deBruijn64tab", laid_math_bits_deBruijn64tab), ("internal/strconv.uint64pow10", laid_internal_strconv_uint64pow10)] }
def SurgeLevelSaid : Prop := surgeLevelRow.holds Tryd.pinned (OpenSpec.ofChange surgeLevelSpec)

/-- ITS FALSE NEIGHBOUR: 'it returns false'. Refute it at one input. -/
def surgeLevelWrong : ChangeSpec := { name := "surgeLevel", fn := fun _ => fun
  | [d1, d2, d3] => { results := [.lit (.bool false)], args := [d1, d2, d3] }
  | _ => none }
def SurgeLevelWrongFalsely : Prop := surgeLevelRow.holds Tryd.pinned (OpenSpec.ofChange surgeLevelWrong)

/-- 'samaritanlaw45.SurgeMonotonic': WHATEVER THE INPUT: true; the input reads as it did. -/
def surgeMonotonicSpec : ChangeSpec := { name := "surgeMonotonic", fn := fun _ => fun
  | [d1, d2, d3] => { results := [.lit (.bool true)], args := [d1, d2, d3] }
  | _ => none }
def surgeMonotonicRow : OpenClaim := { program := "ytolpmdmcbciccaadoor", sum := "b9c86e3b3c3239fd22b7655ee7e42197f029ff173c8074ab789a04c8b5908356", func := "samaritan/samaritanlaw45.SurgeMonotonic", spec := "surgeMonotonic", inPlace := ["internal/abi.NoEscape", "internal/bytealg.IndexByteString", "internal/bytealg.IndexString"], unfollowed := true, recurses := true, named := ["internal/strconv.uint64pow10", "math/bits.deBruijn32tab", "math/bits.deBruijn64tab", "internal/bytealg.MaxLen"], apart := false, laid := [("math/bits.deBruijn32tab", laid_math_bits_deBruijn32tab), ("math/bits.deBruijn64tab", laid_math_bits_deBruijn64tab), ("internal/strconv.uint64pow10", laid_internal_strconv_uint64pow10)] }
def SurgeMonotonicSaid : Prop := surgeMonotonicRow.holds Tryd.pinned (OpenSpec.ofChange surgeMonotonicSpec)

/-- ITS FALSE NEIGHBOUR: 'it returns false'. Refute it at one input. -/
def surgeMonotonicWrong : ChangeSpec := { name := "surgeMonotonic", fn := fun _ => fun
  | [d1, d2, d3] => { results := [.lit (.bool false)], args := [d1, d2, d3] }
  | _ => none }
def SurgeMonotonicWrongFalsely : Prop := surgeMonotonicRow.holds Tryd.pinned (OpenSpec.ofChange surgeMonotonicWrong)

/-- 'samaritanlaw45.SurgeValidate': WHATEVER THE INPUT: true; the input reads as it did. -/
def surgeValidateSpec : ChangeSpec := { name := "surgeValidate", fn := fun _ => fun
  | [d] => { results := [.lit (.bool true)], args := [d] }
  | _ => none }
def surgeValidateRow : OpenClaim := { program := "ytolpmdmcbciccaadoor", sum := "b9c86e3b3c3239fd22b7655ee7e42197f029ff173c8074ab789a04c8b5908356", func := "samaritan/samaritanlaw45.SurgeValidate", spec := "surgeValidate", inPlace := ["internal/abi.NoEscape", "internal/bytealg.IndexByteString", "internal/bytealg.IndexString"], unfollowed := true, recurses := true, named := ["internal/strconv.uint64pow10", "math/bits.deBruijn32tab", "math/bits.deBruijn64tab", "internal/bytealg.MaxLen"], apart := false, laid := [("math/bits.deBruijn32tab", laid_math_bits_deBruijn32tab), ("math/bits.deBruijn64tab", laid_math_bits_deBruijn64tab), ("internal/strconv.uint64pow10", laid_internal_strconv_uint64pow10)] }
def SurgeValidateSaid : Prop := surgeValidateRow.holds Tryd.pinned (OpenSpec.ofChange surgeValidateSpec)

/-- ITS FALSE NEIGHBOUR: 'it returns false'. Refute it at one input. -/
def surgeValidateWrong : ChangeSpec := { name := "surgeValidate", fn := fun _ => fun
  | [d] => { results := [.lit (.bool false)], args := [d] }
  | _ => none }
def SurgeValidateWrongFalsely : Prop := surgeValidateRow.holds Tryd.pinned (OpenSpec.ofChange surgeValidateWrong)

/-- 'samaritanlaw45.SurgeMatchesModel': WHATEVER THE INPUT: true; the input reads as it did. -/
def surgeMatchesModelSpec : ChangeSpec := { name := "surgeMatchesModel", fn := fun _ => fun
  | [d1, d2] => { results := [.lit (.bool true)], args := [d1, d2] }
  | _ => none }
def surgeMatchesModelRow : OpenClaim := { program := "ytolpmdmcbciccaadoor", sum := "b9c86e3b3c3239fd22b7655ee7e42197f029ff173c8074ab789a04c8b5908356", func := "samaritan/samaritanlaw45.SurgeMatchesModel", spec := "surgeMatchesModel", inPlace := ["internal/abi.NoEscape", "internal/bytealg.IndexByteString", "internal/bytealg.IndexString"], unfollowed := true, recurses := true, named := ["internal/strconv.uint64pow10", "math/bits.deBruijn32tab", "math/bits.deBruijn64tab", "internal/bytealg.MaxLen"], apart := false, laid := [("math/bits.deBruijn32tab", laid_math_bits_deBruijn32tab), ("math/bits.deBruijn64tab", laid_math_bits_deBruijn64tab), ("internal/strconv.uint64pow10", laid_internal_strconv_uint64pow10)] }
def SurgeMatchesModelSaid : Prop := surgeMatchesModelRow.holds Tryd.pinned (OpenSpec.ofChange surgeMatchesModelSpec)

/-- ITS FALSE NEIGHBOUR: 'it returns false'. Refute it at one input. -/
def surgeMatchesModelWrong : ChangeSpec := { name := "surgeMatchesModel", fn := fun _ => fun
  | [d1, d2] => { results := [.lit (.bool false)], args := [d1, d2] }
  | _ => none }
def SurgeMatchesModelWrongFalsely : Prop := surgeMatchesModelRow.holds Tryd.pinned (OpenSpec.ofChange surgeMatchesModelWrong)

/-- 'samaritanlaw45.SurgeHysteresis': WHATEVER THE INPUT: true; the input reads as it did. -/
def surgeHysteresisSpec : ChangeSpec := { name := "surgeHysteresis", fn := fun _ => fun
  | [d1, d2, d3] => { results := [.lit (.bool true)], args := [d1, d2, d3] }
  | _ => none }
def surgeHysteresisRow : OpenClaim := { program := "ytolpmdmcbciccaadoor", sum := "b9c86e3b3c3239fd22b7655ee7e42197f029ff173c8074ab789a04c8b5908356", func := "samaritan/samaritanlaw45.SurgeHysteresis", spec := "surgeHysteresis", inPlace := ["internal/abi.NoEscape", "internal/bytealg.IndexByteString", "internal/bytealg.IndexString"], unfollowed := true, recurses := true, named := ["internal/strconv.uint64pow10", "math/bits.deBruijn32tab", "math/bits.deBruijn64tab", "internal/bytealg.MaxLen"], apart := false, laid := [("math/bits.deBruijn32tab", laid_math_bits_deBruijn32tab), ("math/bits.deBruijn64tab", laid_math_bits_deBruijn64tab), ("internal/strconv.uint64pow10", laid_internal_strconv_uint64pow10)] }
def SurgeHysteresisSaid : Prop := surgeHysteresisRow.holds Tryd.pinned (OpenSpec.ofChange surgeHysteresisSpec)

/-- ITS FALSE NEIGHBOUR: 'it returns false'. Refute it at one input. -/
def surgeHysteresisWrong : ChangeSpec := { name := "surgeHysteresis", fn := fun _ => fun
  | [d1, d2, d3] => { results := [.lit (.bool false)], args := [d1, d2, d3] }
  | _ => none }
def SurgeHysteresisWrongFalsely : Prop := surgeHysteresisRow.holds Tryd.pinned (OpenSpec.ofChange surgeHysteresisWrong)

/-- 'samaritanlaw45.SurgeDrill': WHATEVER THE INPUT: true; the input reads as it did. -/
def surgeDrillSpec : ChangeSpec := { name := "surgeDrill", fn := fun _ => fun
  | [d1, d2] => { results := [.lit (.bool true)], args := [d1, d2] }
  | _ => none }
def surgeDrillRow : OpenClaim := { program := "ytolpmdmcbciccaadoor", sum := "b9c86e3b3c3239fd22b7655ee7e42197f029ff173c8074ab789a04c8b5908356", func := "samaritan/samaritanlaw45.SurgeDrill", spec := "surgeDrill", inPlace := ["internal/abi.NoEscape", "internal/bytealg.IndexByteString", "internal/bytealg.IndexString"], unfollowed := true, recurses := true, named := ["internal/strconv.uint64pow10", "math/bits.deBruijn32tab", "math/bits.deBruijn64tab", "internal/bytealg.MaxLen"], apart := false, laid := [("math/bits.deBruijn32tab", laid_math_bits_deBruijn32tab), ("math/bits.deBruijn64tab", laid_math_bits_deBruijn64tab), ("internal/strconv.uint64pow10", laid_internal_strconv_uint64pow10)] }
def SurgeDrillSaid : Prop := surgeDrillRow.holds Tryd.pinned (OpenSpec.ofChange surgeDrillSpec)

/-- ITS FALSE NEIGHBOUR: 'it returns false'. Refute it at one input. -/
def surgeDrillWrong : ChangeSpec := { name := "surgeDrill", fn := fun _ => fun
  | [d1, d2] => { results := [.lit (.bool false)], args := [d1, d2] }
  | _ => none }
def SurgeDrillWrongFalsely : Prop := surgeDrillRow.holds Tryd.pinned (OpenSpec.ofChange surgeDrillWrong)

/-- 'samaritanlaw45.SurgeFormat': WHATEVER THE INPUT: true; the input reads as it did. -/
def surgeFormatSpec : ChangeSpec := { name := "surgeFormat", fn := fun _ => fun
  | [d] => { results := [.lit (.bool true)], args := [d] }
  | _ => none }
def surgeFormatRow : OpenClaim := { program := "ytolpmdmcbciccaadoor", sum := "b9c86e3b3c3239fd22b7655ee7e42197f029ff173c8074ab789a04c8b5908356", func := "samaritan/samaritanlaw45.SurgeFormat", spec := "surgeFormat", inPlace := ["internal/abi.NoEscape", "internal/bytealg.IndexByteString", "internal/bytealg.IndexString"], unfollowed := true, recurses := true, named := ["internal/strconv.uint64pow10", "math/bits.deBruijn32tab", "math/bits.deBruijn64tab", "internal/bytealg.MaxLen"], apart := false, laid := [("math/bits.deBruijn32tab", laid_math_bits_deBruijn32tab), ("math/bits.deBruijn64tab", laid_math_bits_deBruijn64tab), ("internal/strconv.uint64pow10", laid_internal_strconv_uint64pow10)] }
def SurgeFormatSaid : Prop := surgeFormatRow.holds Tryd.pinned (OpenSpec.ofChange surgeFormatSpec)

/-- ITS FALSE NEIGHBOUR: 'it returns false'. Refute it at one input. -/
def surgeFormatWrong : ChangeSpec := { name := "surgeFormat", fn := fun _ => fun
  | [d] => { results := [.lit (.bool false)], args := [d] }
  | _ => none }
def SurgeFormatWrongFalsely : Prop := surgeFormatRow.holds Tryd.pinned (OpenSpec.ofChange surgeFormatWrong)

/-- 'samaritanlaw45.SurgeParse': WHATEVER THE INPUT: true; the input reads as it did. -/
def surgeParseSpec : ChangeSpec := { name := "surgeParse", fn := fun _ => fun
  | [d] => { results := [.lit (.bool true)], args := [d] }
  | _ => none }
def surgeParseRow : OpenClaim := { program := "ytolpmdmcbciccaadoor", sum := "b9c86e3b3c3239fd22b7655ee7e42197f029ff173c8074ab789a04c8b5908356", func := "samaritan/samaritanlaw45.SurgeParse", spec := "surgeParse", inPlace := ["internal/abi.NoEscape", "internal/bytealg.IndexByteString", "internal/bytealg.IndexString"], unfollowed := true, recurses := true, named := ["internal/strconv.uint64pow10", "math/bits.deBruijn32tab", "math/bits.deBruijn64tab", "internal/bytealg.MaxLen"], apart := false, laid := [("math/bits.deBruijn32tab", laid_math_bits_deBruijn32tab), ("math/bits.deBruijn64tab", laid_math_bits_deBruijn64tab), ("internal/strconv.uint64pow10", laid_internal_strconv_uint64pow10)] }
def SurgeParseSaid : Prop := surgeParseRow.holds Tryd.pinned (OpenSpec.ofChange surgeParseSpec)

/-- ITS FALSE NEIGHBOUR: 'it returns false'. Refute it at one input. -/
def surgeParseWrong : ChangeSpec := { name := "surgeParse", fn := fun _ => fun
  | [d] => { results := [.lit (.bool false)], args := [d] }
  | _ => none }
def SurgeParseWrongFalsely : Prop := surgeParseRow.holds Tryd.pinned (OpenSpec.ofChange surgeParseWrong)

/- THE SECOND FORM. 'bulk': how many values and letters a reading holds, each counted each time it is reached (what is shared counts as often as it is met; a slice's spare places count too). A statement '..UptoSaid' is the law's where the arguments, and the package variables that the reading takes, are together of bulk at most 1048576: NARROWER than '..Said'. Prove '..Said' where nothing that the law and all that it calls make is longer than what came in: it says more and counts as full. Else prove '..UptoSaid'. A law counts once. -/
mutual
def uptoBulk {H : Type} : DataW H → Nat
  | .lit (.string bytes) => bytes.length + 1
  | .lit _ => 1
  | .nil => 1
  | .ptr d => uptoBulk d + 1
  | .slice elems spare => uptoBulkAll elems + uptoBulkAll spare + 1
  | .agg parts => uptoBulkAll parts + 1
  | .iface _ d => uptoBulk d + 1
  | .map entries => uptoBulkEntries entries + 1
  | .held _ => 1
def uptoBulkAll {H : Type} : List (DataW H) → Nat
  | [] => 0
  | d :: r => uptoBulk d + uptoBulkAll r
def uptoBulkEntries {H : Type} : List (Lit × DataW H) → Nat
  | [] => 0
  | x :: r => uptoBulkEntry x + uptoBulkEntries r
def uptoBulkEntry {H : Type} : Lit × DataW H → Nat
  | (.string bytes, d) => bytes.length + uptoBulk d + 1
  | (_, d) => uptoBulk d + 1
 end
def uptoSmall : (H : Type) → List (DataW H) → Bool := fun _ ds => decide (uptoBulkAll ds ≤ 1048576)
def OpenSpec.upto (s : _root_.Go.ChangeSpec) : _root_.Go.OpenSpec := { _root_.Go.OpenSpec.ofChange s with cond := some uptoSmall }

/-- 'samaritanlaw45.SurgeLevel', WHERE WHAT IT READS IS OF BULK AT MOST 1048576: true; the input reads as it did. -/
def surgeLevelUptoRow : OpenClaim := { program := "ytolpmdmcbciccaadoor", sum := "b9c86e3b3c3239fd22b7655ee7e42197f029ff173c8074ab789a04c8b5908356", func := "samaritan/samaritanlaw45.SurgeLevel", spec := "surgeLevel", inPlace := ["internal/abi.NoEscape", "internal/bytealg.IndexByteString", "internal/bytealg.IndexString"], unfollowed := true, recurses := true, named := ["internal/strconv.uint64pow10", "math/bits.deBruijn32tab", "math/bits.deBruijn64tab", "internal/bytealg.MaxLen"], apart := false, laid := [("math/bits.deBruijn32tab", laid_math_bits_deBruijn32tab), ("math/bits.deBruijn64tab", laid_math_bits_deBruijn64tab), ("internal/strconv.uint64pow10", laid_internal_strconv_uint64pow10)], narrowed := true }
def SurgeLevelUptoSaid : Prop := surgeLevelUptoRow.holds Tryd.pinned (OpenSpec.upto surgeLevelSpec)

/-- 'samaritanlaw45.SurgeMonotonic', WHERE WHAT IT READS IS OF BULK AT MOST 1048576: true; the input reads as it did. -/
def surgeMonotonicUptoRow : OpenClaim := { program := "ytolpmdmcbciccaadoor", sum := "b9c86e3b3c3239fd22b7655ee7e42197f029ff173c8074ab789a04c8b5908356", func := "samaritan/samaritanlaw45.SurgeMonotonic", spec := "surgeMonotonic", inPlace := ["internal/abi.NoEscape", "internal/bytealg.IndexByteString", "internal/bytealg.IndexString"], unfollowed := true, recurses := true, named := ["internal/strconv.uint64pow10", "math/bits.deBruijn32tab", "math/bits.deBruijn64tab", "internal/bytealg.MaxLen"], apart := false, laid := [("math/bits.deBruijn32tab", laid_math_bits_deBruijn32tab), ("math/bits.deBruijn64tab", laid_math_bits_deBruijn64tab), ("internal/strconv.uint64pow10", laid_internal_strconv_uint64pow10)], narrowed := true }
def SurgeMonotonicUptoSaid : Prop := surgeMonotonicUptoRow.holds Tryd.pinned (OpenSpec.upto surgeMonotonicSpec)

/-- 'samaritanlaw45.SurgeValidate', WHERE WHAT IT READS IS OF BULK AT MOST 1048576: true; the input reads as it did. -/
def surgeValidateUptoRow : OpenClaim := { program := "ytolpmdmcbciccaadoor", sum := "b9c86e3b3c3239fd22b7655ee7e42197f029ff173c8074ab789a04c8b5908356", func := "samaritan/samaritanlaw45.SurgeValidate", spec := "surgeValidate", inPlace := ["internal/abi.NoEscape", "internal/bytealg.IndexByteString", "internal/bytealg.IndexString"], unfollowed := true, recurses := true, named := ["internal/strconv.uint64pow10", "math/bits.deBruijn32tab", "math/bits.deBruijn64tab", "internal/bytealg.MaxLen"], apart := false, laid := [("math/bits.deBruijn32tab", laid_math_bits_deBruijn32tab), ("math/bits.deBruijn64tab", laid_math_bits_deBruijn64tab), ("internal/strconv.uint64pow10", laid_internal_strconv_uint64pow10)], narrowed := true }
def SurgeValidateUptoSaid : Prop := surgeValidateUptoRow.holds Tryd.pinned (OpenSpec.upto surgeValidateSpec)

/-- 'samaritanlaw45.SurgeMatchesModel', WHERE WHAT IT READS IS OF BULK AT MOST 1048576: true; the input reads as it did. -/
def surgeMatchesModelUptoRow : OpenClaim := { program := "ytolpmdmcbciccaadoor", sum := "b9c86e3b3c3239fd22b7655ee7e42197f029ff173c8074ab789a04c8b5908356", func := "samaritan/samaritanlaw45.SurgeMatchesModel", spec := "surgeMatchesModel", inPlace := ["internal/abi.NoEscape", "internal/bytealg.IndexByteString", "internal/bytealg.IndexString"], unfollowed := true, recurses := true, named := ["internal/strconv.uint64pow10", "math/bits.deBruijn32tab", "math/bits.deBruijn64tab", "internal/bytealg.MaxLen"], apart := false, laid := [("math/bits.deBruijn32tab", laid_math_bits_deBruijn32tab), ("math/bits.deBruijn64tab", laid_math_bits_deBruijn64tab), ("internal/strconv.uint64pow10", laid_internal_strconv_uint64pow10)], narrowed := true }
def SurgeMatchesModelUptoSaid : Prop := surgeMatchesModelUptoRow.holds Tryd.pinned (OpenSpec.upto surgeMatchesModelSpec)

/-- 'samaritanlaw45.SurgeHysteresis', WHERE WHAT IT READS IS OF BULK AT MOST 1048576: true; the input reads as it did. -/
def surgeHysteresisUptoRow : OpenClaim := { program := "ytolpmdmcbciccaadoor", sum := "b9c86e3b3c3239fd22b7655ee7e42197f029ff173c8074ab789a04c8b5908356", func := "samaritan/samaritanlaw45.SurgeHysteresis", spec := "surgeHysteresis", inPlace := ["internal/abi.NoEscape", "internal/bytealg.IndexByteString", "internal/bytealg.IndexString"], unfollowed := true, recurses := true, named := ["internal/strconv.uint64pow10", "math/bits.deBruijn32tab", "math/bits.deBruijn64tab", "internal/bytealg.MaxLen"], apart := false, laid := [("math/bits.deBruijn32tab", laid_math_bits_deBruijn32tab), ("math/bits.deBruijn64tab", laid_math_bits_deBruijn64tab), ("internal/strconv.uint64pow10", laid_internal_strconv_uint64pow10)], narrowed := true }
def SurgeHysteresisUptoSaid : Prop := surgeHysteresisUptoRow.holds Tryd.pinned (OpenSpec.upto surgeHysteresisSpec)

/-- 'samaritanlaw45.SurgeDrill', WHERE WHAT IT READS IS OF BULK AT MOST 1048576: true; the input reads as it did. -/
def surgeDrillUptoRow : OpenClaim := { program := "ytolpmdmcbciccaadoor", sum := "b9c86e3b3c3239fd22b7655ee7e42197f029ff173c8074ab789a04c8b5908356", func := "samaritan/samaritanlaw45.SurgeDrill", spec := "surgeDrill", inPlace := ["internal/abi.NoEscape", "internal/bytealg.IndexByteString", "internal/bytealg.IndexString"], unfollowed := true, recurses := true, named := ["internal/strconv.uint64pow10", "math/bits.deBruijn32tab", "math/bits.deBruijn64tab", "internal/bytealg.MaxLen"], apart := false, laid := [("math/bits.deBruijn32tab", laid_math_bits_deBruijn32tab), ("math/bits.deBruijn64tab", laid_math_bits_deBruijn64tab), ("internal/strconv.uint64pow10", laid_internal_strconv_uint64pow10)], narrowed := true }
def SurgeDrillUptoSaid : Prop := surgeDrillUptoRow.holds Tryd.pinned (OpenSpec.upto surgeDrillSpec)

/-- 'samaritanlaw45.SurgeFormat', WHERE WHAT IT READS IS OF BULK AT MOST 1048576: true; the input reads as it did. -/
def surgeFormatUptoRow : OpenClaim := { program := "ytolpmdmcbciccaadoor", sum := "b9c86e3b3c3239fd22b7655ee7e42197f029ff173c8074ab789a04c8b5908356", func := "samaritan/samaritanlaw45.SurgeFormat", spec := "surgeFormat", inPlace := ["internal/abi.NoEscape", "internal/bytealg.IndexByteString", "internal/bytealg.IndexString"], unfollowed := true, recurses := true, named := ["internal/strconv.uint64pow10", "math/bits.deBruijn32tab", "math/bits.deBruijn64tab", "internal/bytealg.MaxLen"], apart := false, laid := [("math/bits.deBruijn32tab", laid_math_bits_deBruijn32tab), ("math/bits.deBruijn64tab", laid_math_bits_deBruijn64tab), ("internal/strconv.uint64pow10", laid_internal_strconv_uint64pow10)], narrowed := true }
def SurgeFormatUptoSaid : Prop := surgeFormatUptoRow.holds Tryd.pinned (OpenSpec.upto surgeFormatSpec)

/-- 'samaritanlaw45.SurgeParse', WHERE WHAT IT READS IS OF BULK AT MOST 1048576: true; the input reads as it did. -/
def surgeParseUptoRow : OpenClaim := { program := "ytolpmdmcbciccaadoor", sum := "b9c86e3b3c3239fd22b7655ee7e42197f029ff173c8074ab789a04c8b5908356", func := "samaritan/samaritanlaw45.SurgeParse", spec := "surgeParse", inPlace := ["internal/abi.NoEscape", "internal/bytealg.IndexByteString", "internal/bytealg.IndexString"], unfollowed := true, recurses := true, named := ["internal/strconv.uint64pow10", "math/bits.deBruijn32tab", "math/bits.deBruijn64tab", "internal/bytealg.MaxLen"], apart := false, laid := [("math/bits.deBruijn32tab", laid_math_bits_deBruijn32tab), ("math/bits.deBruijn64tab", laid_math_bits_deBruijn64tab), ("internal/strconv.uint64pow10", laid_internal_strconv_uint64pow10)], narrowed := true }
def SurgeParseUptoSaid : Prop := surgeParseUptoRow.holds Tryd.pinned (OpenSpec.upto surgeParseSpec)

end Rows
end Go.Proofs.YtolpmdmcbciccaaDoor
