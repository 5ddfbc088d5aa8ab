/- The arguments of the table's law. -/
import Derived.Test.YtalplekmbhemnaaR
import Derived.Test.YtalplekmbhemnaaGv
namespace Go.Proofs.Ytalplekmbhemnaa
open Go Go.Nf Go.ChangeShapes Go.WideShapes Go.RowKit

theorem leaf36 : leafs Try.prog 4 36 = some [.int .u8, .int .u8] := by kernel_rfl
theorem leaf42 : leafs Try.prog 4 42 = some [.int .i64, .int .i64, .int .i64] := by kernel_rfl
theorem array36 : ∃ n e, Try.prog.underlying 36 = some (.array n e) := ⟨2, 5, by kernel_rfl⟩
section
variable {H : Type} {enc : TypeId × Value → H} {W : World}
theorem size_in {v : Value} {d : DataW H} {p : List MemPlace} (hv : ∃ base, Value.okWide Try.prog W .any base 36 v) (hh : DataW.Trod enc Try.prog W 0 (fun _ => true) true 36 v d p) :
    ∃ a b : Int, v = .agg #[.int .u8 a, .int .u8 b] ∧ (0 ≤ a ∧ a ≤ 255) ∧ 0 ≤ b ∧ b ≤ 255 := by
  obtain ⟨n, e, hu⟩ := array36
  obtain ⟨cs, rfl, h⟩ := array_in hu leaf36 hv hh
  obtain ⟨a, _, rfl, ha, h⟩ := h.icons
  obtain ⟨b, _, rfl, hb, h⟩ := h.icons
  obtain rfl := h.nil
  exact ⟨a, b, rfl, by simpa [Lit.wf, IntKind.min, IntKind.max, IntKind.signed, IntKind.bits] using ha, by simpa [Lit.wf, IntKind.min, IntKind.max, IntKind.signed, IntKind.bits] using hb⟩
theorem steps_in {v : Value} {d : DataW H} {p : List MemPlace} (hv : ∃ base, Value.okWide Try.prog W .any base 37 v) (hh : DataW.Trod enc Try.prog W 0 (fun _ => true) true 37 v d p) :
    ∃ o c, ∃ l : List (Int × Int × Int), v = .slice o l.length c ∧ Rd W o 3 (l.map encS) := by
  have ht : Try.prog.underlying 37 = some (.slice 42) := by kernel_rfl
  have hsz : Try.prog.cellsOf 42 = 3 := by kernel_rfl
  obtain ⟨o, n, cc, rows, rfl, hl, -, hrd, hrow⟩ := slIn_open ht leaf42 (slice_in ht hv hh)
  obtain ⟨l, rfl⟩ := rows_of encS rows fun row hr => by
    have h := hrow row hr
    obtain ⟨a, _, rfl, -, h⟩ := h.icons
    obtain ⟨b, _, rfl, -, h⟩ := h.icons
    obtain ⟨c, _, rfl, -, h⟩ := h.icons
    obtain rfl := h.nil
    exact ⟨(a, b, c), rfl⟩
  rw [List.length_map] at hl
  rw [hsz] at hrd
  subst hl
  exact ⟨o, cc, l, rfl, hrd⟩
end
end Go.Proofs.Ytalplekmbhemnaa
