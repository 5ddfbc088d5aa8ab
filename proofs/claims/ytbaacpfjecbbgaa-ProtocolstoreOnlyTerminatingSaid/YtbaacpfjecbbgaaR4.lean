/- More arguments of the rows: operations on a store. -/
import Derived.Test.YtbaacpfjecbbgaaR3
import Derived.Test.YtbaacpfjecbbgaaU4
namespace Go.Proofs.Ytbaacpfjecbbgaa
open Go Go.Nf Go.ChangeShapes Go.WideShapes Go.RowKit

theorem leaf70 : leafs Try.prog 4 70 = some [.int .u8, .string, .int .i64, .slice 22, .int .i64, .string, .int .i64] := by kernel_rfl
theorem und62 : Try.prog.underlying 62 = some (.slice 70) := by kernel_rfl
theorem und85 : Try.prog.underlying 85 = some (.int .u16) := by kernel_rfl
theorem has16 {a : Int} (h : IntKind.has .u16 a) : 0 ≤ a ∧ a ≤ 65535 := by
  simpa [IntKind.has, IntKind.min, IntKind.max, IntKind.signed, IntKind.bits] using h
theorem u16P {P : Program} {W : World} {t : TypeId} {v : Value} (ht : P.underlying t = some (.int .u16)) (hv : ∃ base, Value.okWide P W .any base t v) : ∃ a : Int, v = .int .u16 a ∧ 0 ≤ a ∧ a ≤ 65535 := by
  obtain ⟨base, hv⟩ := hv
  obtain ⟨a, rfl⟩ := okWide_int ht hv
  exact ⟨a, rfl, has16 (hasP ht hv)⟩
theorem u16_in {W : World} {v : Value} (hv : ∃ base, Value.okWide Try.prog W .any base 85 v) : ∃ a : Int, v = .int .u16 a ∧ 0 ≤ a ∧ a ≤ 65535 := u16P und85 hv
theorem und2' : Try.prog.underlying 2 = some (.int .i64) := by kernel_rfl
theorem int2_in {W : World} {v : Value} (hv : ∃ base, Value.okWide Try.prog W .any base 2 v) : ∃ a : Int, v = .int .i64 a := intP und2' hv
section
variable {H : Type} {enc : TypeId × Value → H} {W : World}
theorem questions_open {v : Value} (hq : SlIn enc Try.prog W 22 v) : ∃ o c, ∃ qs : List Qst, v = .slice o qs.length c ∧ Qs W (fun _ => True) o qs ∧ qs.length ≤ 9223372036854775807 ∧ ∀ q, q ∈ qs → FitQ q := by
  obtain ⟨o, n, cc, rows, rfl, hl, hm, hrd, hrow⟩ := slIn_open (e := 38) und22 leaf38 hq
  have hsz : Try.prog.cellsOf 38 = 2 := by kernel_rfl
  rw [hsz] at hrd
  obtain ⟨qs, h1, h2⟩ := list_of (fun (x : Qst) (row : List Value) => FitQ x ∧ ∃ oi ci, row = [.string x.text, .slice oi x.ans.length ci] ∧ Recs W (fun _ => True) oi 4 (x.ans.map encA)) rows fun row hr => by
    have h := hrow row hr
    obtain ⟨tx, _, rfl, ht, h⟩ := h.scons
    obtain ⟨sl, _, rfl, hsl, h⟩ := h.slcons
    obtain rfl := h.nil
    obtain ⟨oi, ci, xs, rfl, hR, hx, hF⟩ := answers_open hsl
    exact ⟨⟨tx, xs⟩, ⟨by show tx.size ≤ _; unfold maxLen at ht; omega, hx, hF⟩, oi, ci, rfl, hR⟩
  have hlt : ∀ {i : Nat} {x : Qst}, qs[i]? = some x → i < rows.length := fun {i x} hi => by
    rcases Nat.lt_or_ge i qs.length with h | h
    · omega
    · rw [List.getElem?_eq_none h] at hi; cases hi
  unfold maxLen at hm
  subst hl
  refine ⟨o, cc, qs, by rw [h1], fun i x hi => ?_, by omega, fun q hq => ?_⟩
  · have hil := hlt hi
    obtain ⟨-, oi, ci, e, hR⟩ := h2 i x _ hi (List.getElem?_eq_getElem hil)
    obtain ⟨a, ha, hc⟩ := hrd.at (List.getElem?_eq_getElem hil)
    refine ⟨a, oi, ci, ha, trivial, ?_, hc 1 _ (by rw [e]; rfl), hR⟩
    have := hc 0 (.string x.text) (by rw [e]; rfl)
    rwa [add_zero] at this
  · obtain ⟨i, hi, e⟩ := List.getElem_of_mem hq
    have hi' : qs[i]? = some q := by rw [List.getElem?_eq_getElem hi]; exact congrArg some e
    exact (h2 i q _ hi' (List.getElem?_eq_getElem (hlt hi'))).1
theorem ops_in {v : Value} {d : DataW H} {p : List MemPlace} (hv : ∃ base, Value.okWide Try.prog W .any base 62 v) (hh : DataW.Trod enc Try.prog W 0 (fun _ => true) true 62 v d p) :
    ∃ o c, ∃ l : List Ac, v = .slice o l.length c ∧ Acs W (fun _ => True) o l ∧ (∀ a, a ∈ l → FitP a.t) ∧ l.length ≤ 9223372036854775807 := by
  obtain ⟨o, n, cc, rows, rfl, hl, hm, hrd, hrow⟩ := slIn_open (e := 70) und62 leaf70 (slice_in und62 hv hh)
  have hsz : Try.prog.cellsOf 70 = 7 := by kernel_rfl
  rw [hsz] at hrd
  obtain ⟨l, h1, h2⟩ := list_of (fun (a : Ac) (row : List Value) => FitP a.t ∧ ∃ qo qc, row = [.int .u8 a.kind, .string a.t.name, .int .i64 a.t.version, .slice qo a.t.qs.length qc, .int .i64 a.call, .string a.name, .int .i64 a.version] ∧ Qs W (fun _ => True) qo a.t.qs) rows fun row hr => by
    have h := hrow row hr
    obtain ⟨kd, _, rfl, -, h⟩ := h.icons
    obtain ⟨nm, _, rfl, hn, h⟩ := h.scons
    obtain ⟨vr, _, rfl, -, h⟩ := h.icons
    obtain ⟨sl, _, rfl, hsl, h⟩ := h.slcons
    obtain ⟨cl, _, rfl, -, h⟩ := h.icons
    obtain ⟨nm2, _, rfl, -, h⟩ := h.scons
    obtain ⟨vr2, _, rfl, -, h⟩ := h.icons
    obtain rfl := h.nil
    obtain ⟨qo, qc, qs, rfl, hQ, hql, hF⟩ := questions_open hsl
    exact ⟨⟨kd, ⟨nm, vr, qs⟩, cl, nm2, vr2⟩, ⟨by show nm.size ≤ _; unfold maxLen at hn; omega, hql, hF⟩, qo, qc, rfl, hQ⟩
  have hlt : ∀ {i : Nat} {x : Ac}, l[i]? = some x → i < rows.length := fun {i x} hi => by
    rcases Nat.lt_or_ge i l.length with h | h
    · omega
    · rw [List.getElem?_eq_none h] at hi; cases hi
  unfold maxLen at hm
  subst hl
  refine ⟨o, cc, l, by rw [h1], fun i x hi => ?_, fun a ha => ?_, by omega⟩
  · have hil := hlt hi
    obtain ⟨-, qo, qc, e, hQ⟩ := h2 i x _ hi (List.getElem?_eq_getElem hil)
    obtain ⟨ad, ha, hc⟩ := hrd.at (List.getElem?_eq_getElem hil)
    exact ⟨ad, qo, qc, ha, trivial, fun j v hj => hc j v (by rw [e]; exact hj), hQ⟩
  · obtain ⟨i, hi, e⟩ := List.getElem_of_mem ha
    have hi' : l[i]? = some a := by rw [List.getElem?_eq_getElem hi]; exact congrArg some e
    exact (h2 i a _ hi' (List.getElem?_eq_getElem (hlt hi'))).1
end
end Go.Proofs.Ytbaacpfjecbbgaa
