/- What the rows of this seat share: the arguments, the heap that the door's own run leaves, the table of powers. -/
import Derived.Test.YtneklhmkiememaaDoorZq
import Derived.Test.YtneklhmkiememaaDoorNfL
import Derived.Test.YtneklhmkiememaaDoorRows
import Derived.ProofKit
import Derived.Stop.Joined
import Derived.MakeChecks
import Derived.LaidSub
namespace Go.Proofs.YtneklhmkiememaaDoor
open Go Go.Nf Go.ChangeShapes Go.WideShapes Go.RowKit

theorem own : ownKnob Tryd.prog.godebug = none := by kernel_rfl
theorem laidOut : laidOutB Tryd.prog = true := by kernel_rfl
def laid3 : List (String × DataW Unit) := [("math/bits.deBruijn32tab", Rows.laid_math_bits_deBruijn32tab), ("math/bits.deBruijn64tab", Rows.laid_math_bits_deBruijn64tab), ("internal/strconv.uint64pow10", Rows.laid_internal_strconv_uint64pow10)]
theorem door_met (os : Os) (args : Array Value) : laidMetH Tryd.prog laid3 ((World.doorLaid Tryd.prog 400 os).forCall (fun _ _ => 0) ⟨#[], args, []⟩).memory :=
  laidMetH_of_parts3 (fuel := 8) (laidMet_of_run' 8 (by kernel_rfl) (by kernel_rfl)) (by kernel_rfl) (by kernel_rfl)
/-- the table as the contracts ask for it -/
def laid1 : List (String × DataW Unit) := [("internal/strconv.uint64pow10", Lib.tabData .u64 Lib.pow10Tab)]
theorem tab_name : Tryd.prog.globalNamed "internal/strconv.uint64pow10" = some 0 := by kernel_rfl
theorem tab_type : (Tryd.prog.globals[0]?).map (·.type) = some 109 := by kernel_rfl
def isArr (d : Option TypeDesc) (n e : Nat) : Bool := match d with | some (.array n' e') => n' == n && e' == e | _ => false
theorem of_arr {d : Option TypeDesc} {n e : Nat} (h : isArr d n e = true) : d = some (.array n e) := by
  unfold isArr at h
  split at h
  · simp only [Bool.and_eq_true, beq_iff_eq] at h
    rw [h.1, h.2]
  · cases h
theorem tab_arr : Tryd.prog.underlying 109 = some (.array 20 102) := of_arr (by kernel_rfl)
theorem tab_elem : Tryd.prog.underlying 102 = some (.int .u64) := by kernel_rfl
theorem tab_cell : Tryd.prog.cellsOf 102 = 1 := by kernel_rfl
theorem tab_cells : Tryd.prog.cellsOf 109 = 20 := by kernel_rfl
theorem tab_of {W : World} (h : laidMetH Tryd.prog laid3 W) : Tab W := by
  have h1 := laidMetH.filter (fun x => x.1 == "internal/strconv.uint64pow10") h
  have e : (laid3.filter fun x => x.1 == "internal/strconv.uint64pow10") = laid1 := by kernel_rfl
  rw [e, Go.MakeChecks.laidMetH_plain _ _ _ (by kernel_rfl)] at h1
  exact Lib.tabIs_of_head tab_name tab_type tab_arr tab_elem tab_cell tab_cells h1
def isStruct (d : Option TypeDesc) : Bool := match d with | some (.struct _) => true | _ => false
theorem of_struct {d : Option TypeDesc} (h : isStruct d = true) : ∃ fs, d = some (.struct fs) := by
  unfold isStruct at h; split at h
  · exact ⟨_, rfl⟩
  · cases h
theorem isS40 : isStruct (Tryd.prog.underlying 40) = true := by kernel_rfl
theorem isS52 : isStruct (Tryd.prog.underlying 52) = true := by kernel_rfl
theorem leaf2 : leafs Tryd.prog 4 2 = some [.int .i64] := by kernel_rfl
theorem leaf3 : leafs Tryd.prog 4 3 = some [.int .i64] := by kernel_rfl
theorem leaf26 : leafs Tryd.prog 4 26 = some [.slice 26] := by kernel_rfl
theorem leaf40 : leafs Tryd.prog 4 40 = some [.slice 26, .slice 26, .slice 23] := by kernel_rfl
theorem leaf52 : leafs Tryd.prog 4 52 = some [.int .i64, .int .i64, .int .i64] := by kernel_rfl
theorem unds22 : Tryd.prog.underlying 22 = some (.slice 26) := of_slice (by kernel_rfl)
theorem unds26 : Tryd.prog.underlying 26 = some (.slice 2) := of_slice (by kernel_rfl)
theorem unds23 : Tryd.prog.underlying 23 = some (.slice 3) := of_slice (by kernel_rfl)
def encI (x : Int) : List Value := [.int .i64 x]
section
variable {H : Type} {enc : TypeId × Value → H} {W : World}
theorem rd_nums {o : Option Addr} {xs : List Int} (h : Rd W o 1 (xs.map encI)) : Nums W (fun _ => True) o xs := fun j v hj => by
  obtain ⟨a, ha, hc⟩ := h.at (i := j) (row := encI v) (by rw [List.getElem?_map, hj]; rfl)
  refine ⟨a, ha, trivial, ?_⟩
  have := hc 0 (.int .i64 v) rfl
  rwa [Go.Nf.add_zero] at this
theorem rows_all {α : Type} (f : α → List Value) (P : α → Prop) : ∀ (rows : List (List Value)), (∀ row ∈ rows, ∃ a, row = f a ∧ P a) → ∃ xs : List α, rows = xs.map f ∧ ∀ a ∈ xs, P a
  | [], _ => ⟨[], rfl, fun _ h => by cases h⟩
  | r :: rows, h => by
    obtain ⟨a, ha, hp⟩ := h r (.head _)
    obtain ⟨xs, e, hs⟩ := rows_all f P rows fun x hx => h x (.tail _ hx)
    refine ⟨a :: xs, by rw [ha, e]; rfl, fun x hx => ?_⟩
    rcases List.mem_cons.1 hx with rfl | hx
    · exact hp
    · exact hs x hx
theorem nums_open {t e : TypeId} (ht : Tryd.prog.underlying t = some (.slice e)) (hl : leafs Tryd.prog 4 e = some [.int .i64]) (hsz : Tryd.prog.cellsOf e = 1) {v : Value} (h : SlIn enc Tryd.prog W t v) :
    ∃ o c, ∃ xs : List Int, v = .slice o xs.length c ∧ Nums W (fun _ => True) o xs ∧ I64 xs := by
  obtain ⟨o, n, cc, rows, rfl, hl, hm, hrd, hrow⟩ := slIn_open (e := e) ht hl h
  obtain ⟨xs, rfl, hx⟩ := rows_all encI (fun x => -9223372036854775808 ≤ x ∧ x ≤ 9223372036854775807) rows fun row hr => by
    have h := hrow row hr
    obtain ⟨a, _, rfl, hw, h⟩ := h.icons
    obtain rfl := h.nil
    simp only [Lit.wf, Bool.and_eq_true, decide_eq_true_eq] at hw
    exact ⟨a, rfl, hw⟩
  rw [List.length_map] at hl
  rw [hsz] at hrd
  subst hl
  exact ⟨o, cc, xs, rfl, rd_nums hrd, hx⟩
theorem c2 : Tryd.prog.cellsOf 2 = 1 := by kernel_rfl
theorem c3 : Tryd.prog.cellsOf 3 = 1 := by kernel_rfl
theorem list_of {α β : Type} (P : α → β → Prop) : ∀ (l : List β), (∀ b ∈ l, ∃ a, P a b) → ∃ us : List α, us.length = l.length ∧ ∀ (i : Nat) a b, us[i]? = some a → l[i]? = some b → P a b
  | [], _ => ⟨[], rfl, fun i a b h => by simp at h⟩
  | b :: l, h => by
    obtain ⟨a, ha⟩ := h b (by simp)
    obtain ⟨us, h1, h2⟩ := list_of P l fun x hx => h x (List.mem_cons_of_mem _ hx)
    refine ⟨a :: us, by simp [h1], fun i x y hx hy => ?_⟩
    cases i with
    | zero => simp at hx hy; subst hx; subst hy; exact ha
    | succ i => exact h2 i x y (by simpa using hx) (by simpa using hy)
theorem mat_in {v : Value} {d : DataW H} {p : List MemPlace} (hv : ∃ base, Value.okWide Tryd.prog W .any base 22 v) (hh : DataW.Trod enc Tryd.prog W 0 (fun _ => true) true 22 v d p) :
    ∃ o c, ∃ rows : List (List Int), v = .slice o rows.length c ∧ Mat W (fun _ => True) o rows := by
  have hsz : Tryd.prog.cellsOf 26 = 1 := by kernel_rfl
  obtain ⟨o, n, cc, rows, rfl, hl, hm, hrd, hrow⟩ := slIn_open unds22 leaf26 (slice_in unds22 hv hh)
  rw [hsz] at hrd
  obtain ⟨xs, h1, h2⟩ := list_of (fun (x : List Int) (row : List Value) => ∃ oi ci, row = [.slice oi x.length ci] ∧ Nums W (fun _ => True) oi x) rows fun row hr => by
    have h := hrow row hr
    obtain ⟨c, _, rfl, hs, h⟩ := h.slcons
    obtain rfl := h.nil
    obtain ⟨oi, ci, x, rfl, hn, -⟩ := nums_open unds26 leaf2 c2 hs
    exact ⟨x, oi, ci, rfl, hn⟩
  subst hl
  rw [← h1]
  refine ⟨o, cc, xs, rfl, fun i x hi => ?_⟩
  have hlt : i < rows.length := by
    rcases Nat.lt_or_ge i xs.length with h | h
    · omega
    · rw [List.getElem?_eq_none h] at hi; cases hi
  obtain ⟨oi, ci, e, hn⟩ := h2 i x _ hi (List.getElem?_eq_getElem hlt)
  obtain ⟨a, ha, hc⟩ := hrd.at (List.getElem?_eq_getElem hlt)
  have := hc 0 (.slice oi x.length ci) (by rw [e]; rfl)
  rw [Go.Nf.add_zero] at this
  exact ⟨a, oi, ci, ha, trivial, by rw [toNat_cast]; exact this, hn⟩
theorem ints_in {v : Value} {d : DataW H} {p : List MemPlace} (hv : ∃ base, Value.okWide Tryd.prog W .any base 23 v) (hh : DataW.Trod enc Tryd.prog W 0 (fun _ => true) true 23 v d p) :
    ∃ o c, ∃ xs : List Int, v = .slice o xs.length c ∧ Nums W (fun _ => True) o xs := by
  obtain ⟨o, c, xs, h1, h2, -⟩ := nums_open unds23 leaf3 c3 (slice_in unds23 hv hh)
  exact ⟨o, c, xs, h1, h2⟩
theorem proof_in {v : Value} {d : DataW H} {p : List MemPlace} (hv : ∃ base, Value.okWide Tryd.prog W .any base 40 v) (hh : DataW.Trod enc Tryd.prog W 0 (fun _ => true) true 40 v d p) :
    ∃ oU oV oH cU cV cH, ∃ U V Hs : List Int, v = certV oU U.length cU oV V.length cV oH Hs.length cH ∧ Nums W (fun _ => True) oU U ∧ Nums W (fun _ => True) oV V ∧ Nums W (fun _ => True) oH Hs ∧ I64 U ∧ I64 V ∧ I64 Hs := by
  obtain ⟨fs, und⟩ := of_struct isS40
  obtain ⟨cs, rfl, h⟩ := struct_in und leaf40 hv hh
  obtain ⟨a, _, rfl, ha, h⟩ := h.slcons
  obtain ⟨b, _, rfl, hb, h⟩ := h.slcons
  obtain ⟨c, _, rfl, hc, h⟩ := h.slcons
  obtain rfl := h.nil
  obtain ⟨oU, cU, U, rfl, u1, u2⟩ := nums_open unds26 leaf2 c2 ha
  obtain ⟨oV, cV, V, rfl, v1, v2⟩ := nums_open unds26 leaf2 c2 hb
  obtain ⟨oH, cH, Hs, rfl, h1, h2⟩ := nums_open unds23 leaf3 c3 hc
  exact ⟨oU, oV, oH, cU, cV, cH, U, V, Hs, rfl, u1, v1, h1, u2, v2, h2⟩
theorem spoil_in {v : Value} {d : DataW H} {p : List MemPlace} (hv : ∃ base, Value.okWide Tryd.prog W .any base 52 v) (hh : DataW.Trod enc Tryd.prog W 0 (fun _ => true) true 52 v d p) :
    ∃ x y z : Int, v = .agg #[.int .i64 x, .int .i64 y, .int .i64 z] := by
  obtain ⟨fs, und⟩ := of_struct isS52
  obtain ⟨cs, rfl, h⟩ := struct_in und leaf52 hv hh
  obtain ⟨x, _, rfl, -, h⟩ := h.icons
  obtain ⟨y, _, rfl, -, h⟩ := h.icons
  obtain ⟨z, _, rfl, -, h⟩ := h.icons
  obtain rfl := h.nil
  exact ⟨x, y, z, rfl⟩
end
end Go.Proofs.YtneklhmkiememaaDoor
