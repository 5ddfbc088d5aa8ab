/- More arguments of the rows: numbers. -/
import Derived.Test.YtbaacpfjecbbgaaR
namespace Go.Proofs.Ytbaacpfjecbbgaa
open Go Go.Nf Go.ChangeShapes Go.WideShapes Go.RowKit
theorem und3 : Try.prog.underlying 3 = some (.int .i64) := by kernel_rfl
theorem intP {P : Program} {W : World} {t : TypeId} {v : Value} (ht : P.underlying t = some (.int .i64)) (hv : ∃ base, Value.okWide P W .any base t v) : ∃ a : Int, v = .int .i64 a := by
  obtain ⟨base, hv⟩ := hv
  exact okWide_int ht hv
theorem int_in {W : World} {v : Value} (hv : ∃ base, Value.okWide Try.prog W .any base 3 v) : ∃ a : Int, v = .int .i64 a := intP und3 hv
end Go.Proofs.Ytbaacpfjecbbgaa
