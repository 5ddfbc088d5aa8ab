/- More arguments of the rows: operations, bytes. -/
import Derived.Test.YtbaacpfjecbbgaaR
import Derived.Test.YtbaacpfjecbbgaaLb
import Derived.Test.YtbaacpfjecbbgaaLc
namespace Go.Proofs.Ytbaacpfjecbbgaa
open Go Go.Nf Go.ChangeShapes Go.WideShapes Go.RowKit

theorem leaf50 : leafs Try.prog 4 50 = some [.bool, .int .i64] := by kernel_rfl
theorem leaf5 : leafs Try.prog 4 5 = some [.int .u8] := by kernel_rfl
theorem und47 : Try.prog.underlying 47 = some (.slice 50) := by kernel_rfl
theorem und25 : Try.prog.underlying 25 = some (.slice 5) := by kernel_rfl
section
variable {H : Type} {enc : TypeId × Value → H} {W : World}
theorem acts_in {v : Value} {d : DataW H} {p : List MemPlace} (hv : ∃ base, Value.okWide Try.prog W .any base 47 v) (hh : DataW.Trod enc Try.prog W 0 (fun _ => true) true 47 v d p) :
    ∃ o c, ∃ xs : List (Bool × Int), v = .slice o xs.length c ∧ Recs W (fun _ => True) o 2 (xs.map encT) ∧ xs.length ≤ 9223372036854775807 := by
  obtain ⟨o, n, cc, rows, rfl, hl, hm, hrd, hrow⟩ := slIn_open (e := 50) und47 leaf50 (slice_in und47 hv hh)
  obtain ⟨xs, rfl⟩ := rows_of encT rows fun row hr => by
    have h0 := hrow row hr
    obtain ⟨b, _, e1, h1⟩ := h0.bcons
    obtain ⟨a, _, e2, -, h2⟩ := h1.icons
    exact ⟨(b, a), by rw [e1, e2, h2.nil]; rfl⟩
  rw [List.length_map] at hl
  have hsz : Try.prog.cellsOf 50 = 2 := by kernel_rfl
  rw [hsz] at hrd
  subst hl
  refine ⟨o, cc, xs, rfl, fun i row hi => ?_, by unfold maxLen at hm; omega⟩
  obtain ⟨a, h1, h2⟩ := hrd.at hi
  exact ⟨a, h1, trivial, h2⟩
theorem bytes_in {v : Value} {d : DataW H} {p : List MemPlace} (hv : ∃ base, Value.okWide Try.prog W .any base 25 v) (hh : DataW.Trod enc Try.prog W 0 (fun _ => true) true 25 v d p) :
    ∃ o c, ∃ xs : List Int, v = .slice o xs.length c ∧ Recs W (fun _ => True) o 1 (xs.map encU8) ∧ xs.length ≤ 9223372036854775807 ∧ ∀ x, x ∈ xs → 0 ≤ x ∧ x ≤ 255 := by
  obtain ⟨o, n, cc, rows, rfl, hl, hm, hrd, hrow⟩ := slIn_open (e := 5) und25 leaf5 (slice_in und25 hv hh)
  have hrow' : ∀ row ∈ rows, ∃ a : Int, row = encU8 a ∧ 0 ≤ a ∧ a ≤ 255 := fun row hr => by
    have h := hrow row hr
    obtain ⟨a, _, rfl, hw, h⟩ := h.icons
    obtain rfl := h.nil
    refine ⟨a, rfl, ?_⟩
    simp only [Lit.wf, Bool.and_eq_true, decide_eq_true_eq] at hw
    simpa [IntKind.min, IntKind.max, IntKind.signed, IntKind.bits] using hw
  obtain ⟨xs, rfl⟩ := rows_of encU8 rows fun row hr => by
    obtain ⟨a, h, -⟩ := hrow' row hr
    exact ⟨a, h⟩
  rw [List.length_map] at hl
  have hsz : Try.prog.cellsOf 5 = 1 := by kernel_rfl
  rw [hsz] at hrd
  subst hl
  refine ⟨o, cc, xs, rfl, fun i row hi => ?_, by unfold maxLen at hm; omega, fun x hx => ?_⟩
  · obtain ⟨a, h1, h2⟩ := hrd.at hi
    exact ⟨a, h1, trivial, h2⟩
  · obtain ⟨a, h, h2⟩ := hrow' (encU8 x) (List.mem_map_of_mem hx)
    have : x = a := by simpa [encU8] using h
    rw [this]; exact h2
end
end Go.Proofs.Ytbaacpfjecbbgaa
