/- What the row of this seat needs: the arguments. -/
import Derived.Test.YtcaokpglbolkcaaTx
import Derived.Test.YtcaokpglbolkcaaNfW
namespace Go.Proofs.Ytcaokpglbolkcaa
open Go Go.Nf Go.ChangeShapes Go.WideShapes Go.RowKit

theorem own : ownKnob Try.prog.godebug = none := by kernel_rfl
theorem laidOut : laidOutB Try.prog = true := by kernel_rfl
theorem leaf65 : leafs Try.prog 4 65 = some [.int .i64, .int .i64, .int .i64] := by kernel_rfl
theorem leaf29 : leafs Try.prog 4 29 = some [.int .i64, .int .i64, .int .i64, .int .i64, .int .i64, .int .i64, .int .i64, .int .i64, .int .i64, .int .i64] := by kernel_rfl
theorem leaf34 : leafs Try.prog 4 34 = some [.int .i64, .int .i64, .string, .slice 31, .int .i64, .int .i64, .slice 32, .slice 31, .int .i64, .bool] := by kernel_rfl
theorem leaf3 : leafs Try.prog 4 3 = some [.int .i64] := by kernel_rfl
theorem leaf2 : leafs Try.prog 4 2 = some [.int .i64] := by kernel_rfl
theorem undS22 : Try.prog.underlying 22 = some (.slice 65) := by kernel_rfl
theorem undS23 : Try.prog.underlying 23 = some (.slice 34) := by kernel_rfl
theorem undS24 : Try.prog.underlying 24 = some (.slice 29) := by kernel_rfl
theorem undS31 : Try.prog.underlying 31 = some (.slice 3) := by kernel_rfl
theorem undS32 : Try.prog.underlying 32 = some (.slice 2) := by kernel_rfl
def encI (x : Int) : List Value := [.int .i64 x]
section
variable {H : Type} {enc : TypeId × Value → H} {W : World}
theorem rd_nums {o : Option Addr} {xs : List Int} (h : Rd W o 1 (xs.map encI)) : Nums W (fun _ => True) o xs := fun j v hj => by
  obtain ⟨a, ha, hc⟩ := h.at (i := j) (row := encI v) (by rw [List.getElem?_map, hj]; rfl)
  refine ⟨a, ha, trivial, ?_⟩
  have := hc 0 (.int .i64 v) rfl
  rwa [Go.Nf.add_zero] at this
theorem rd_recs {α : Type} {f : α → List Value} {k : Nat} {o : Option Addr} {xs : List α} (h : Rd W o k (xs.map f)) : Recs W (fun _ => True) o k (xs.map f) := fun i row hi => by
  obtain ⟨a, h1, h2⟩ := h.at hi
  exact ⟨a, h1, trivial, h2⟩
theorem nums_open {v : Value} (h : Go.Nf.SlIn enc Try.prog W 31 v) : ∃ o c, ∃ xs : List Int, v = .slice o xs.length c ∧ Nums W (fun _ => True) o xs := by
  obtain ⟨o, n, cc, rows, rfl, hl, hm, hrd, hrow⟩ := slIn_open (e := 3) undS31 leaf3 h
  obtain ⟨xs, rfl⟩ := rows_of encI rows fun row hr => by
    have h := hrow row hr
    obtain ⟨a, _, rfl, -, h⟩ := h.icons
    obtain rfl := h.nil
    exact ⟨a, rfl⟩
  rw [List.length_map] at hl
  have hsz : Try.prog.cellsOf 3 = 1 := by kernel_rfl
  rw [hsz] at hrd
  subst hl
  exact ⟨o, cc, xs, rfl, rd_nums hrd⟩
theorem edges_in {v : Value} {d : DataW H} {p : List MemPlace} (hv : ∃ base, Value.okWide Try.prog W .any base 22 v) (hh : DataW.Trod enc Try.prog W 0 (fun _ => true) true 22 v d p) :
    ∃ o c, ∃ xs : List Edg, v = .slice o xs.length c ∧ Edgs W (fun _ => True) o xs := by
  obtain ⟨o, n, cc, rows, rfl, hl, hm, hrd, hrow⟩ := slIn_open (e := 65) undS22 leaf65 (slice_in undS22 hv hh)
  obtain ⟨xs, rfl⟩ := rows_of encE rows fun row hr => by
    have h := hrow row hr
    obtain ⟨a, _, rfl, -, h⟩ := h.icons
    obtain ⟨b, _, rfl, -, h⟩ := h.icons
    obtain ⟨c, _, rfl, -, h⟩ := h.icons
    obtain rfl := h.nil
    exact ⟨⟨a, b, c⟩, rfl⟩
  rw [List.length_map] at hl
  have hsz : Try.prog.cellsOf 65 = 3 := by kernel_rfl
  rw [hsz] at hrd
  subst hl
  exact ⟨o, cc, xs, rfl, rd_recs hrd⟩
theorem units_in {v : Value} {d : DataW H} {p : List MemPlace} (hv : ∃ base, Value.okWide Try.prog W .any base 24 v) (hh : DataW.Trod enc Try.prog W 0 (fun _ => true) true 24 v d p) :
    ∃ o c, ∃ xs : List Un, v = .slice o xs.length c ∧ Uns W (fun _ => True) o xs := by
  obtain ⟨o, n, cc, rows, rfl, hl, hm, hrd, hrow⟩ := slIn_open (e := 29) undS24 leaf29 (slice_in undS24 hv hh)
  obtain ⟨xs, rfl⟩ := rows_of encUn rows fun row hr => by
    have h := hrow row hr
    obtain ⟨a1, _, rfl, -, h⟩ := h.icons
    obtain ⟨a2, _, rfl, -, h⟩ := h.icons
    obtain ⟨a3, _, rfl, -, h⟩ := h.icons
    obtain ⟨a4, _, rfl, -, h⟩ := h.icons
    obtain ⟨a5, _, rfl, -, h⟩ := h.icons
    obtain ⟨a6, _, rfl, -, h⟩ := h.icons
    obtain ⟨a7, _, rfl, -, h⟩ := h.icons
    obtain ⟨a8, _, rfl, -, h⟩ := h.icons
    obtain ⟨a9, _, rfl, -, h⟩ := h.icons
    obtain ⟨a10, _, rfl, -, h⟩ := h.icons
    obtain rfl := h.nil
    exact ⟨⟨a1, a2, a3, a4, a5, a6, a7, a8, a9, a10⟩, rfl⟩
  rw [List.length_map] at hl
  have hsz : Try.prog.cellsOf 29 = 10 := by kernel_rfl
  rw [hsz] at hrd
  subst hl
  exact ⟨o, cc, xs, rfl, rd_recs hrd⟩
theorem incs_in {v : Value} {d : DataW H} {p : List MemPlace} (hv : ∃ base, Value.okWide Try.prog W .any base 23 v) (hh : DataW.Trod enc Try.prog W 0 (fun _ => true) true 23 v d p) :
    ∃ o c, ∃ xs : List Inc, v = .slice o xs.length c ∧ Incs W (fun _ => True) o xs := by
  obtain ⟨o, n, cc, rows, rfl, hl, hm, hrd, hrow⟩ := slIn_open (e := 34) undS23 leaf34 (slice_in undS23 hv hh)
  have key : ∀ row ∈ rows, ∃ x : Inc, row = encInc x ∧ Nums W (fun _ => True) x.oN x.nodes := fun row hr => by
    have h := hrow row hr
    obtain ⟨a1, _, rfl, -, h⟩ := h.icons
    obtain ⟨a2, _, rfl, -, h⟩ := h.icons
    obtain ⟨a3, _, rfl, -, h⟩ := h.scons
    obtain ⟨a4, _, rfl, h4, h⟩ := h.slcons
    obtain ⟨a5, _, rfl, -, h⟩ := h.icons
    obtain ⟨a6, _, rfl, -, h⟩ := h.icons
    obtain ⟨a7, _, rfl, h7, h⟩ := h.slcons
    obtain ⟨a8, _, rfl, h8, h⟩ := h.slcons
    obtain ⟨a9, _, rfl, -, h⟩ := h.icons
    obtain ⟨a10, _, rfl, h'⟩ := h.bcons
    obtain rfl := h'.nil
    obtain ⟨o4, c4, xs4, rfl, hN⟩ := nums_open h4
    obtain ⟨o7, n7, c7, -, rfl, -⟩ := slIn_open (e := 2) undS32 leaf2 h7
    obtain ⟨o8, n8, c8, -, rfl, -⟩ := slIn_open (e := 3) undS31 leaf3 h8
    exact ⟨⟨a1, a2, a3, o4, xs4, c4, a5, a6, o7, n7, c7, o8, n8, c8, a9, a10⟩, rfl, hN⟩
  obtain ⟨xs, h1, h2⟩ : ∃ xs : List Inc, rows = xs.map encInc ∧ ∀ x ∈ xs, Nums W (fun _ => True) x.oN x.nodes := by
    clear hrow hrd hl hm
    induction rows with
    | nil => exact ⟨[], rfl, fun x hx => by cases hx⟩
    | cons r rows ih =>
      obtain ⟨x, hx1, hx2⟩ := key r (.head _)
      obtain ⟨xs, h1, h2⟩ := ih fun row hr => key row (.tail _ hr)
      refine ⟨x :: xs, by rw [h1, hx1]; rfl, fun y hy => ?_⟩
      rcases List.mem_cons.1 hy with rfl | hy
      · exact hx2
      · exact h2 y hy
  subst h1
  rw [List.length_map] at hl
  have hsz : Try.prog.cellsOf 34 = 10 := by kernel_rfl
  rw [hsz] at hrd
  subst hl
  exact ⟨o, cc, xs, rfl, rd_recs hrd, h2⟩
end
end Go.Proofs.Ytcaokpglbolkcaa
