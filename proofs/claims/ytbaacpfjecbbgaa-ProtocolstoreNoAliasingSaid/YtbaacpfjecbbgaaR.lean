/- What the rows of this seat share: the arguments. -/
import Derived.Test.YtbaacpfjecbbgaaHc
namespace Go.Proofs.Ytbaacpfjecbbgaa
open Go Go.Nf Go.ChangeShapes Go.WideShapes Go.RowKit

theorem own : ownKnob Try.prog.godebug = none := by kernel_rfl
theorem laidOut : laidOutB Try.prog = true := by kernel_rfl
def isStruct (d : Option TypeDesc) : Bool := match d with | some (.struct _) => true | _ => false
theorem of_struct {d : Option TypeDesc} (h : isStruct d = true) : ∃ fs, d = some (.struct fs) := by
  unfold isStruct at h; split at h
  · exact ⟨_, rfl⟩
  · cases h
theorem und24' : isStruct (Try.prog.underlying 24) = true := by kernel_rfl
theorem leaf24 : leafs Try.prog 4 24 = some [.string, .int .i64, .slice 22] := by kernel_rfl
theorem leaf38 : leafs Try.prog 4 38 = some [.string, .slice 36] := by kernel_rfl
theorem leaf58 : leafs Try.prog 4 58 = some [.string, .int .i64, .int .i64, .string] := by kernel_rfl
theorem leaf3 : leafs Try.prog 4 3 = some [.int .i64] := by kernel_rfl
theorem und22 : Try.prog.underlying 22 = some (.slice 38) := by kernel_rfl
theorem und36 : Try.prog.underlying 36 = some (.slice 58) := by kernel_rfl
theorem und48 : Try.prog.underlying 48 = some (.slice 3) := by kernel_rfl
def encI (x : Int) : List Value := [.int .i64 x]
theorem list_of {α β : Type} (P : α → β → Prop) : ∀ (l : List β), (∀ b ∈ l, ∃ a, P a b) → ∃ us : List α, us.length = l.length ∧ ∀ (i : Nat) a b, us[i]? = some a → l[i]? = some b → P a b
  | [], _ => ⟨[], rfl, fun i a b h => by simp at h⟩
  | b :: l, h => by
    obtain ⟨a, ha⟩ := h b (by simp)
    obtain ⟨us, h1, h2⟩ := list_of P l fun x hx => h x (List.mem_cons_of_mem _ hx)
    refine ⟨a :: us, by simp [h1], fun i x y hx hy => ?_⟩
    cases i with
    | zero => simp at hx hy; subst hx; subst hy; exact ha
    | succ i => exact h2 i x y (by simpa using hx) (by simpa using hy)
section
variable {H : Type} {enc : TypeId × Value → H} {W : World}
theorem capP {P : Program} {W : World} {base t e : Nat} {o : Option Addr} {n c : Nat} (ht : P.underlying t = some (.slice e)) (h : Value.okWide P W .any base t (.slice o n c)) : n ≤ c := by
  simp only [Value.okWide, ht, Cell.okWide, Cell.ok] at h
  cases o with
  | none =>
    cases n with
    | zero => exact Nat.zero_le _
    | succ n => simp at h
  | some a => simp at h; exact h.1
theorem hasP {P : Program} {W : World} {base t : Nat} {k : IntKind} {n : Int} (ht : P.underlying t = some (.int k)) (h : Value.okWide P W .any base t (.int k n)) : k.has n := by
  simp only [Value.okWide, ht, Cell.okWide, Cell.ok] at h
  exact h.2
theorem has8 {n : Int} (h : IntKind.has .u8 n) : 0 ≤ n ∧ n ≤ 255 := by
  simpa [IntKind.has, IntKind.min, IntKind.max, IntKind.signed, IntKind.bits] using h
theorem cap_le {P : Program} {W : World} {t e : TypeId} {o : Option Addr} {n c : Nat} (ht : P.underlying t = some (.slice e)) (hv : ∃ base, Value.okWide P W .any base t (.slice o n c)) : n ≤ c := by
  obtain ⟨base, hv⟩ := hv
  exact capP ht hv
theorem u8P {P : Program} {W : World} {t : TypeId} {v : Value} (ht : P.underlying t = some (.int .u8)) (hv : ∃ base, Value.okWide P W .any base t v) : ∃ a : Int, v = .int .u8 a ∧ 0 ≤ a ∧ a ≤ 255 := by
  obtain ⟨base, hv⟩ := hv
  obtain ⟨a, rfl⟩ := okWide_int ht hv
  exact ⟨a, rfl, has8 (hasP ht hv)⟩
theorem rd_nums {o : Option Addr} {xs : List Int} (h : Rd W o 1 (xs.map encI)) : Nums W (fun _ => True) o xs := fun j v hj => by
  obtain ⟨a, ha, hc⟩ := h.at (i := j) (row := encI v) (by rw [List.getElem?_map, hj]; rfl)
  refine ⟨a, ha, trivial, ?_⟩
  have := hc 0 (.int .i64 v) rfl
  rwa [add_zero] at this
theorem nums_open {v : Value} (h : SlIn enc Try.prog W 48 v) : ∃ o c, ∃ xs : List Int, v = .slice o xs.length c ∧ Nums W (fun _ => True) o xs ∧ xs.length ≤ maxLen := by
  obtain ⟨o, n, cc, rows, rfl, hl, hm, hrd, hrow⟩ := slIn_open (e := 3) und48 leaf3 h
  obtain ⟨xs, rfl⟩ := rows_of encI rows fun row hr => by
    have h := hrow row hr
    obtain ⟨a, _, rfl, -, h⟩ := h.icons
    obtain rfl := h.nil
    exact ⟨a, rfl⟩
  rw [List.length_map] at hl
  have hsz : Try.prog.cellsOf 3 = 1 := by kernel_rfl
  rw [hsz] at hrd
  subst hl
  exact ⟨o, cc, xs, rfl, rd_nums hrd, hm⟩
theorem row_in {v : Value} {d : DataW H} {p : List MemPlace} (hv : ∃ base, Value.okWide Try.prog W .any base 48 v) (hh : DataW.Trod enc Try.prog W 0 (fun _ => true) true 48 v d p) :
    ∃ o c, ∃ xs : List Int, v = .slice o xs.length c ∧ Nums W (fun _ => True) o xs ∧ xs.length ≤ 9223372036854775807 ∧ xs.length ≤ c := by
  obtain ⟨o, c, xs, rfl, h1, h2⟩ := nums_open (slice_in und48 hv hh)
  exact ⟨o, c, xs, rfl, h1, by unfold maxLen at h2; omega, cap_le und48 hv⟩
theorem und5 : Try.prog.underlying 5 = some (.int .u8) := by kernel_rfl
theorem u8_in {v : Value} (hv : ∃ base, Value.okWide Try.prog W .any base 5 v) : ∃ a : Int, v = .int .u8 a ∧ 0 ≤ a ∧ a ≤ 255 := u8P und5 hv
theorem answers_open {v : Value} (h : SlIn enc Try.prog W 36 v) : ∃ o c, ∃ xs : List Ans, v = .slice o xs.length c ∧ Recs W (fun _ => True) o 4 (xs.map encA) ∧ xs.length ≤ 9223372036854775807 ∧ ∀ a, a ∈ xs → FitA a := by
  obtain ⟨o, n, cc, rows, rfl, hl, hm, hrd, hrow⟩ := slIn_open (e := 58) und36 leaf58 h
  have hrow' : ∀ row ∈ rows, ∃ a : Ans, row = encA a ∧ FitA a := fun row hr => by
    have h := hrow row hr
    obtain ⟨s, _, rfl, h1, h⟩ := h.scons
    obtain ⟨a, _, rfl, -, h⟩ := h.icons
    obtain ⟨b, _, rfl, -, h⟩ := h.icons
    obtain ⟨t, _, rfl, h2, h⟩ := h.scons
    obtain rfl := h.nil
    unfold maxLen at h1 h2
    exact ⟨⟨s, a, b, t⟩, rfl, by show s.size ≤ _; omega, by show t.size ≤ _; omega⟩
  obtain ⟨xs, rfl⟩ := rows_of encA rows fun row hr => by
    obtain ⟨a, h1, -⟩ := hrow' row hr
    exact ⟨a, h1⟩
  rw [List.length_map] at hl
  have hsz : Try.prog.cellsOf 58 = 4 := by kernel_rfl
  rw [hsz] at hrd
  subst hl
  refine ⟨o, cc, xs, rfl, fun i row hi => ?_, by unfold maxLen at hm; omega, fun a ha => ?_⟩
  · obtain ⟨a, h1, h2⟩ := hrd.at hi
    exact ⟨a, h1, trivial, h2⟩
  · obtain ⟨b, h1, h2⟩ := hrow' (encA a) (List.mem_map_of_mem ha)
    have : a = b := by
      have e := h1
      unfold encA at e
      simp only [List.cons.injEq, Value.string.injEq, Value.int.injEq, true_and, and_true] at e
      cases a; cases b
      simp only [Ans.mk.injEq]
      exact ⟨e.1, e.2.1, e.2.2.1, e.2.2.2⟩
    rw [this]; exact h2
theorem protocol_in {v : Value} {d : DataW H} {p : List MemPlace} (hv : ∃ base, Value.okWide Try.prog W .any base 24 v) (hh : DataW.Trod enc Try.prog W 0 (fun _ => true) true 24 v d p) :
    ∃ o c, ∃ t : Prot, v = .agg #[.string t.name, .int .i64 t.version, .slice o t.qs.length c] ∧ Qs W (fun _ => True) o t.qs ∧ FitP t := by
  obtain ⟨fs, und24⟩ := of_struct und24'
  obtain ⟨cs, rfl, h⟩ := struct_in und24 leaf24 hv hh
  obtain ⟨s, _, rfl, hs1, h⟩ := h.scons
  obtain ⟨ver, _, rfl, -, h⟩ := h.icons
  obtain ⟨q, _, rfl, hq, h⟩ := h.slcons
  obtain rfl := h.nil
  obtain ⟨o, n, cc, rows, rfl, hl, hm, hrd, hrow⟩ := slIn_open (e := 38) und22 leaf38 hq
  have hsz : Try.prog.cellsOf 38 = 2 := by kernel_rfl
  rw [hsz] at hrd
  obtain ⟨qs, h1, h2⟩ := list_of (fun (x : Qst) (row : List Value) => FitQ x ∧ ∃ oi ci, row = [.string x.text, .slice oi x.ans.length ci] ∧ Recs W (fun _ => True) oi 4 (x.ans.map encA)) rows fun row hr => by
    have h := hrow row hr
    obtain ⟨tx, _, rfl, ht, h⟩ := h.scons
    obtain ⟨sl, _, rfl, hsl, h⟩ := h.slcons
    obtain rfl := h.nil
    obtain ⟨oi, ci, xs, rfl, hR, hx, hF⟩ := answers_open hsl
    exact ⟨⟨tx, xs⟩, ⟨by show tx.size ≤ _; unfold maxLen at ht; omega, hx, hF⟩, oi, ci, rfl, hR⟩
  have hlt : ∀ {i : Nat} {x : Qst}, qs[i]? = some x → i < rows.length := fun {i x} hi => by
    rcases Nat.lt_or_ge i qs.length with h | h
    · omega
    · rw [List.getElem?_eq_none h] at hi; cases hi
  unfold maxLen at hs1 hm
  subst hl
  refine ⟨o, cc, ⟨s, ver, qs⟩, by rw [show (Prot.mk s ver qs).qs.length = rows.length from h1], fun i x hi => ?_, ⟨by show s.size ≤ _; omega, by show qs.length ≤ _; omega, fun q hq => ?_⟩⟩
  · have hil := hlt hi
    obtain ⟨-, oi, ci, e, hR⟩ := h2 i x _ hi (List.getElem?_eq_getElem hil)
    obtain ⟨a, ha, hc⟩ := hrd.at (List.getElem?_eq_getElem hil)
    refine ⟨a, oi, ci, ha, trivial, ?_, hc 1 _ (by rw [e]; rfl), hR⟩
    have := hc 0 (.string x.text) (by rw [e]; rfl)
    rwa [add_zero] at this
  · obtain ⟨i, hi, e⟩ := List.getElem_of_mem hq
    have hi' : qs[i]? = some q := by rw [List.getElem?_eq_getElem hi]; exact congrArg some e
    exact (h2 i q _ hi' (List.getElem?_eq_getElem (hlt hi'))).1
end
end Go.Proofs.Ytbaacpfjecbbgaa
