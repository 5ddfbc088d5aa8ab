/- A protocol handed in: each question's answers take no more than the reach. -/
import Derived.Test.YtbaacpfjecbbgaaR3
import Derived.Test.YtbaacpfjecbbgaaNfV
namespace Go.Proofs.Ytbaacpfjecbbgaa
open Go Go.Nf Go.ChangeShapes Go.WideShapes Go.RowKit

section
variable {H : Type} {enc : TypeId × Value → H} {W : World}
theorem bytes58 : Try.prog.bytesOf 58 = 48 := by kernel_rfl
theorem answers_size {o : Option Addr} {n c : Nat} (h : SlB enc Try.prog W 36 (.slice o n c)) : n * 48 ≤ 140737488355328 := by
  obtain ⟨o', n', cc, rows, e, hl, hm, hb, hrd, hrow⟩ := slB_open (e := 58) und36 leaf58 h
  cases e
  rw [bytes58] at hb
  exact Nat.le_trans hb (by decide)
theorem protocol_inB {v : Value} {d : DataW H} {p : List MemPlace} (hv : ∃ base, Value.okWide Try.prog W .any base 24 v) (hh : DataW.Trod enc Try.prog W 0 (fun _ => true) true 24 v d p) (hreach : Go.Nf.Reach Try.prog 24 d) :
    ∃ o c, ∃ t : Prot, v = .agg #[.string t.name, .int .i64 t.version, .slice o t.qs.length c] ∧ Qs W (fun _ => True) o t.qs ∧ FitP t ∧ ∀ q, q ∈ t.qs → q.ans.length * 48 ≤ 140737488355328 := by
  obtain ⟨fs, und24⟩ := of_struct und24'
  obtain ⟨cs, rfl, hB⟩ := struct_inB und24 leaf24 hv hh hreach
  have h := hB.fits
  obtain ⟨s, _, rfl, hs1, h⟩ := h.scons
  obtain ⟨ver, _, rfl, -, h⟩ := h.icons
  obtain ⟨q, _, rfl, hq, h⟩ := h.slcons
  obtain rfl := h.nil
  obtain ⟨o, n, cc, rows, rfl, hl, hm, -, hrd, hrow⟩ := slB_open (e := 38) und22 leaf38 (show SlB enc Try.prog W 22 q from hB.2.2.1)
  have hsz : Try.prog.cellsOf 38 = 2 := by kernel_rfl
  rw [hsz] at hrd
  obtain ⟨qs, h1, h2⟩ := list_of (fun (x : Qst) (row : List Value) => (FitQ x ∧ x.ans.length * 48 ≤ 140737488355328) ∧ ∃ oi ci, row = [.string x.text, .slice oi x.ans.length ci] ∧ Recs W (fun _ => True) oi 4 (x.ans.map encA)) rows fun row hr => by
    have hB := hrow row hr
    have h := hB.fits
    obtain ⟨tx, _, rfl, ht, h⟩ := h.scons
    obtain ⟨sl, _, rfl, hsl, h⟩ := h.slcons
    obtain rfl := h.nil
    obtain ⟨oi, ci, xs, rfl, hR, hx, hF⟩ := answers_open hsl
    exact ⟨⟨tx, xs⟩, ⟨⟨by show tx.size ≤ _; unfold maxLen at ht; omega, hx, hF⟩, answers_size hB.2.1⟩, oi, ci, rfl, hR⟩
  have hlt : ∀ {i : Nat} {x : Qst}, qs[i]? = some x → i < rows.length := fun {i x} hi => by
    rcases Nat.lt_or_ge i qs.length with h | h
    · omega
    · rw [List.getElem?_eq_none h] at hi; cases hi
  have each : ∀ q, q ∈ qs → FitQ q ∧ q.ans.length * 48 ≤ 140737488355328 := fun q hq => by
    obtain ⟨i, hi, e⟩ := List.getElem_of_mem hq
    have hi' : qs[i]? = some q := by rw [List.getElem?_eq_getElem hi]; exact congrArg some e
    exact (h2 i q _ hi' (List.getElem?_eq_getElem (hlt hi'))).1
  unfold maxLen at hs1 hm
  subst hl
  refine ⟨o, cc, ⟨s, ver, qs⟩, by rw [show (Prot.mk s ver qs).qs.length = rows.length from h1], fun i x hi => ?_, ⟨by show s.size ≤ _; omega, by show qs.length ≤ _; omega, fun q hq => (each q hq).1⟩, fun q hq => (each q hq).2⟩
  have hil := hlt hi
  obtain ⟨-, oi, ci, e, hR⟩ := h2 i x _ hi (List.getElem?_eq_getElem hil)
  obtain ⟨a, ha, hc⟩ := hrd.at (List.getElem?_eq_getElem hil)
  refine ⟨a, oi, ci, ha, trivial, ?_, hc 1 _ (by rw [e]; rfl), hR⟩
  have := hc 0 (.string x.text) (by rw [e]; rfl)
  rwa [add_zero] at this
end
end Go.Proofs.Ytbaacpfjecbbgaa
