/- What the rows of this seat share: the arguments. -/
import Derived.Test.YtalplekmbhemnaaGn
namespace Go.Proofs.Ytalplekmbhemnaa
open Go Go.Nf Go.ChangeShapes Go.WideShapes Go.RowKit

theorem own : ownKnob Try.prog.godebug = none := by kernel_rfl
theorem laidOut : laidOutB Try.prog = true := by kernel_rfl
theorem leaf2 : leafs Try.prog 4 2 = some [.int .i64] := by kernel_rfl
theorem leaf32 : leafs Try.prog 4 32 = some [.slice 32] := by kernel_rfl
def encI (x : Int) : List Value := [.int .i64 x]
section
variable {H : Type} {enc : TypeId × Value → H} {W : World}
theorem rd_nums {o : Option Addr} {xs : List Int} (h : Rd W o 1 (xs.map encI)) : Nums W (fun _ => True) o xs := fun j v hj => by
  obtain ⟨a, ha, hc⟩ := h.at (i := j) (row := encI v) (by rw [List.getElem?_map, hj]; rfl)
  refine ⟨a, ha, trivial, ?_⟩
  have := hc 0 (.int .i64 v) rfl
  rwa [add_zero] at this
theorem nums_open {v : Value} (h : SlIn enc Try.prog W 32 v) : ∃ o c, ∃ xs : List Int, v = .slice o xs.length c ∧ Nums W (fun _ => True) o xs ∧ xs.length ≤ maxLen := by
  obtain ⟨o, n, cc, rows, rfl, hl, hm, hrd, hrow⟩ := slIn_open (e := 2) und32 leaf2 h
  obtain ⟨xs, rfl⟩ := rows_of encI rows fun row hr => by
    have h := hrow row hr
    obtain ⟨a, _, rfl, -, h⟩ := h.icons
    obtain rfl := h.nil
    exact ⟨a, rfl⟩
  rw [List.length_map] at hl
  have hsz : Try.prog.cellsOf 2 = 1 := by kernel_rfl
  rw [hsz] at hrd
  subst hl
  exact ⟨o, cc, xs, rfl, rd_nums hrd, hm⟩
theorem list_of {α β : Type} (P : α → β → Prop) : ∀ (l : List β), (∀ b ∈ l, ∃ a, P a b) → ∃ us : List α, us.length = l.length ∧ ∀ (i : Nat) a b, us[i]? = some a → l[i]? = some b → P a b
  | [], _ => ⟨[], rfl, fun i a b h => by simp at h⟩
  | b :: l, h => by
    obtain ⟨a, ha⟩ := h b (by simp)
    obtain ⟨us, h1, h2⟩ := list_of P l fun x hx => h x (List.mem_cons_of_mem _ hx)
    refine ⟨a :: us, by simp [h1], fun i x y hx hy => ?_⟩
    cases i with
    | zero => simp at hx hy; subst hx; subst hy; exact ha
    | succ i => exact h2 i x y (by simpa using hx) (by simpa using hy)
theorem matrix_in {v : Value} {d : DataW H} {p : List MemPlace} (hv : ∃ base, Value.okWide Try.prog W .any base 22 v) (hh : DataW.Trod enc Try.prog W 0 (fun _ => true) true 22 v d p) :
    ∃ o c, ∃ rows : List (List Int), v = .slice o rows.length c ∧ Mat W (fun _ => True) o rows ∧ rows.length ≤ 9223372036854775807 := by
  have ht : Try.prog.underlying 22 = some (.slice 32) := by kernel_rfl
  have hsz : Try.prog.cellsOf 32 = 1 := by kernel_rfl
  obtain ⟨o, n, cc, rows, rfl, hl, hm, hrd, hrow⟩ := slIn_open ht leaf32 (slice_in ht hv hh)
  rw [hsz] at hrd
  obtain ⟨xs, h1, h2⟩ := list_of (fun (x : List Int) (row : List Value) => ∃ oi ci, row = [.slice oi x.length ci] ∧ Nums W (fun _ => True) oi x) rows fun row hr => by
    have h := hrow row hr
    match row, h with
    | [c], h =>
      obtain ⟨oi, ci, x, rfl, hn, -⟩ := nums_open h.1
      exact ⟨x, oi, ci, rfl, hn⟩
    | [], h => exact h.elim
    | _ :: _ :: _, h => exact h.2.elim
  subst hl
  rw [← h1]
  refine ⟨o, cc, xs, rfl, fun i x hi => ?_, by unfold maxLen at hm; omega⟩
  have hlt : i < rows.length := by
    rcases Nat.lt_or_ge i xs.length with h | h
    · omega
    · rw [List.getElem?_eq_none h] at hi; cases hi
  obtain ⟨oi, ci, e, hn⟩ := h2 i x _ hi (List.getElem?_eq_getElem hlt)
  obtain ⟨a, ha, hc⟩ := hrd.at (List.getElem?_eq_getElem hlt)
  have := hc 0 (.slice oi x.length ci) (by rw [e]; rfl)
  rw [add_zero] at this
  exact ⟨a, oi, ci, ha, trivial, this, hn⟩
theorem row_in {v : Value} {d : DataW H} {p : List MemPlace} (hv : ∃ base, Value.okWide Try.prog W .any base 32 v) (hh : DataW.Trod enc Try.prog W 0 (fun _ => true) true 32 v d p) :
    ∃ o c, ∃ xs : List Int, v = .slice o xs.length c ∧ Nums W (fun _ => True) o xs ∧ xs.length ≤ maxLen := nums_open (slice_in und32 hv hh)
theorem int_in {v : Value} (hv : ∃ base, Value.okWide Try.prog W .any base 3 v) : ∃ a : Int, v = .int .i64 a := by
  obtain ⟨base, hv⟩ := hv
  exact okWide_int (P := Try.prog) (t := 3) (k := .i64) (by kernel_rfl) hv
end
end Go.Proofs.Ytalplekmbhemnaa
