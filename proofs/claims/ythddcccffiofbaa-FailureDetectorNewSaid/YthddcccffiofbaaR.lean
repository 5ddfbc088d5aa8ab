/- What the rows of this seat share: the settings and the arguments. -/
import Derived.Test.YthddcccffiofbaaFl
namespace Go.Proofs.Ythddcccffiofbaa
open Go Go.Nf Go.ChangeShapes Go.WideShapes Go.RowKit

theorem own : ownKnob Try.prog.godebug = none := by kernel_rfl
theorem laidOut : laidOutB Try.prog = true := by kernel_rfl
def I5 : List Lf := [.int .i64, .int .i64, .int .i64, .int .i64, .int .i64]
def isStruct (d : Option TypeDesc) : Bool := match d with | some (.struct _) => true | _ => false
theorem of_struct {d : Option TypeDesc} (h : isStruct d = true) : ∃ fs, d = some (.struct fs) := by
  unfold isStruct at h; split at h
  · exact ⟨_, rfl⟩
  · cases h
theorem und23' : isStruct (Try.prog.underlying 23) = true := by kernel_rfl
theorem leaf32 : leafs Try.prog 4 32 = some [.int .i64, .int .i64, .int .i64] := by kernel_rfl
theorem leaf23' : leafs Try.prog 4 23 = some I5 := by kernel_rfl
theorem leaf50 : leafs Try.prog 4 50 = some [.int .i64, .int .i64] := by kernel_rfl
theorem leaf42 : leafs Try.prog 4 42 = some [.int .u16] := by kernel_rfl
section
variable {H : Type} {enc : TypeId × Value → H} {W : World}
/-- the first argument of each law: five numbers -/
theorem made_in {v : Value} {d : DataW H} {p : List MemPlace} (hv : ∃ base, Value.okWide Try.prog W .any base 23 v) (hh : DataW.Trod enc Try.prog W 0 (fun _ => true) true 23 v d p) :
    ∃ s a pa m n : Int, v = .agg #[.int .i64 s, .int .i64 a, .int .i64 pa, .int .i64 m, .int .i64 n] := by
  obtain ⟨fs, und23⟩ := of_struct und23'
  obtain ⟨cs, rfl, h⟩ := struct_in (f := 4) (ls := I5) (fs := fs) und23 leaf23' hv hh
  obtain ⟨s, _, rfl, -, h⟩ := h.icons
  obtain ⟨a, _, rfl, -, h⟩ := h.icons
  obtain ⟨pa, _, rfl, -, h⟩ := h.icons
  obtain ⟨m, _, rfl, -, h⟩ := h.icons
  obtain ⟨n, _, rfl, -, h⟩ := h.icons
  obtain rfl := h.nil
  exact ⟨s, a, pa, m, n, rfl⟩
end
end Go.Proofs.Ythddcccffiofbaa
