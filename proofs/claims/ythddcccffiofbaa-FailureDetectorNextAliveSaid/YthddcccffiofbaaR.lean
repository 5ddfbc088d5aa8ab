/- What the rows of this seat share: the settings and the arguments. -/
import Derived.Test.YthddcccffiofbaaFl
namespace Go.Proofs.Ythddcccffiofbaa
open Go Go.Nf Go.ChangeShapes Go.WideShapes Go.RowKit

theorem own : ownKnob Try.prog.godebug = none := by kernel_rfl
theorem laidOut : laidOutB Try.prog = true := by kernel_rfl
def I5 : List Lf := [.int .i64, .int .i64, .int .i64, .int .i64, .int .i64]
def isStruct (d : Option TypeDesc) : Bool := match d with | some (.struct _) => true | _ => false
theorem of_struct {d : Option TypeDesc} (h : isStruct d = true) : ∃ fs, d = some (.struct fs) := by
  unfold isStruct at h; split at h
  · exact ⟨_, rfl⟩
  · cases h
theorem und23' : isStruct (Try.prog.underlying 23) = true := by kernel_rfl
theorem leaf32 : leafs Try.prog 4 32 = some [.int .i64, .int .i64, .int .i64] := by kernel_rfl
theorem leaf23' : leafs Try.prog 4 23 = some I5 := by kernel_rfl
theorem leaf50 : leafs Try.prog 4 50 = some [.int .i64, .int .i64] := by kernel_rfl
theorem leaf42 : leafs Try.prog 4 42 = some [.int .u16] := by kernel_rfl
section
variable {H : Type} {enc : TypeId × Value → H} {W : World}
/-- the first argument of each law: five numbers -/
theorem made_in {v : Value} {d : DataW H} {p : List MemPlace} (hv : ∃ base, Value.okWide Try.prog W .any base 23 v) (hh : DataW.Trod enc Try.prog W 0 (fun _ => true) true 23 v d p) :
    ∃ s a pa m n : Int, v = .agg #[.int .i64 s, .int .i64 a, .int .i64 pa, .int .i64 m, .int .i64 n] := by
  obtain ⟨fs, und23⟩ := of_struct und23'
  obtain ⟨cs, rfl, h⟩ := struct_in (f := 4) (ls := I5) (fs := fs) und23 leaf23' hv hh
  obtain ⟨s, _, rfl, -, h⟩ := h.icons
  obtain ⟨a, _, rfl, -, h⟩ := h.icons
  obtain ⟨pa, _, rfl, -, h⟩ := h.icons
  obtain ⟨m, _, rfl, -, h⟩ := h.icons
  obtain ⟨n, _, rfl, -, h⟩ := h.icons
  obtain rfl := h.nil
  exact ⟨s, a, pa, m, n, rfl⟩
def encA (a : Int × Int × Int) : List Value := [.int .i64 a.1, .int .i64 a.2.1, .int .i64 a.2.2]
def encU (a : Int) : List Value := [.int .u16 a]
theorem acts_in {v : Value} {d : DataW H} {p : List MemPlace} (hv : ∃ base, Value.okWide Try.prog W .any base 24 v) (hh : DataW.Trod enc Try.prog W 0 (fun _ => true) true 24 v d p) :
    ∃ o c, ∃ acts : List (Int × Int × Int), v = .slice o acts.length c ∧ Rd W o 3 (acts.map encA) := by
  have ht : Try.prog.underlying 24 = some (.slice 32) := by kernel_rfl
  have hsz : Try.prog.cellsOf 32 = 3 := by kernel_rfl
  obtain ⟨o, n, cc, rows, rfl, hl, -, hrd, hrow⟩ := slIn_open ht leaf32 (slice_in ht hv hh)
  obtain ⟨acts, rfl⟩ := rows_of encA rows fun row hr => by
    have h := hrow row hr
    obtain ⟨a, _, rfl, -, h⟩ := h.icons
    obtain ⟨b, _, rfl, -, h⟩ := h.icons
    obtain ⟨c, _, rfl, -, h⟩ := h.icons
    obtain rfl := h.nil
    exact ⟨(a, b, c), rfl⟩
  rw [List.length_map] at hl
  rw [hsz] at hrd
  subst hl
  exact ⟨o, cc, acts, rfl, hrd⟩
theorem gaps_in {v : Value} {d : DataW H} {p : List MemPlace} (hv : ∃ base, Value.okWide Try.prog W .any base 41 v) (hh : DataW.Trod enc Try.prog W 0 (fun _ => true) true 41 v d p) :
    ∃ o c, ∃ gaps : List Int, v = .slice o gaps.length c ∧ Rd W o 1 (gaps.map encU) ∧ ∀ x ∈ gaps, 0 ≤ x ∧ x ≤ 65535 := by
  have ht : Try.prog.underlying 41 = some (.slice 42) := by kernel_rfl
  have hsz : Try.prog.cellsOf 42 = 1 := by kernel_rfl
  obtain ⟨o, n, cc, rows, rfl, hl, -, hrd, hrow⟩ := slIn_open ht leaf42 (slice_in ht hv hh)
  have hrow : ∀ row ∈ rows, ∃ x, row = encU x ∧ 0 ≤ x ∧ x ≤ 65535 := fun row hr => by
    have h := hrow row hr
    obtain ⟨a, _, rfl, hw, h⟩ := h.icons
    obtain rfl := h.nil
    refine ⟨a, rfl, ?_⟩
    simpa [Lit.wf, IntKind.min, IntKind.max, IntKind.signed, IntKind.bits] using hw
  obtain ⟨gaps, rfl⟩ := rows_of encU rows fun row hr => by obtain ⟨x, h, -⟩ := hrow row hr; exact ⟨x, h⟩
  rw [List.length_map] at hl
  rw [hsz] at hrd
  subst hl
  refine ⟨o, cc, gaps, rfl, hrd, fun x hx => ?_⟩
  obtain ⟨y, h1, h2⟩ := hrow (encU x) (List.mem_map.2 ⟨x, hx, rfl⟩)
  cases h1
  exact h2
theorem array50 : ∃ n e, Try.prog.underlying 50 = some (.array n e) := ⟨2, 2, by kernel_rfl⟩
theorem pair_in {v : Value} {d : DataW H} {p : List MemPlace} (hv : ∃ base, Value.okWide Try.prog W .any base 50 v) (hh : DataW.Trod enc Try.prog W 0 (fun _ => true) true 50 v d p) :
    ∃ a b : Int, v = .agg #[.int .i64 a, .int .i64 b] := by
  obtain ⟨n, e, hu⟩ := array50
  obtain ⟨cs, rfl, h⟩ := array_in hu leaf50 hv hh
  obtain ⟨a, _, rfl, -, h⟩ := h.icons
  obtain ⟨b, _, rfl, -, h⟩ := h.icons
  obtain rfl := h.nil
  exact ⟨a, b, rfl⟩
theorem int_in {v : Value} {d : DataW H} {p : List MemPlace} (hv : ∃ base, Value.okWide Try.prog W .any base 2 v) : ∃ a : Int, v = .int .i64 a := by
  obtain ⟨base, hv⟩ := hv
  exact okWide_int (P := Try.prog) (t := 2) (k := .i64) (by kernel_rfl) hv
end
end Go.Proofs.Ythddcccffiofbaa
