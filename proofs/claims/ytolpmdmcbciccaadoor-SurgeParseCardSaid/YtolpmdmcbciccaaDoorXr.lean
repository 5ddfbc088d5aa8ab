/- What the rows of this seat share: the arguments, and the heap that the door's own run leaves. -/
import Derived.Test.YtolpmdmcbciccaaDoorXd
import Derived.Test.YtolpmdmcbciccaaDoorNfL
import Derived.Test.YtolpmdmcbciccaaDoorRows
import Derived.ProofKit
import Derived.Stop.Joined
namespace Go.Proofs.YtolpmdmcbciccaaDoor
open Go Go.Nf Go.ChangeShapes Go.WideShapes Go.RowKit

theorem own : ownKnob Tryd.prog.godebug = none := by kernel_rfl
theorem laidOut : laidOutB Tryd.prog = true := by kernel_rfl
def laid3 : List (String × DataW Unit) := [("math/bits.deBruijn32tab", Rows.laid_math_bits_deBruijn32tab), ("math/bits.deBruijn64tab", Rows.laid_math_bits_deBruijn64tab), ("internal/strconv.uint64pow10", Rows.laid_internal_strconv_uint64pow10)]
theorem door_met (os : Os) (args : Array Value) : laidMetH Tryd.prog laid3 ((World.doorLaid Tryd.prog 400 os).forCall (fun _ _ => 0) ⟨#[], args, []⟩).memory :=
  laidMetH_of_parts3 (fuel := 8) (laidMet_of_run' 8 (by kernel_rfl) (by kernel_rfl)) (by kernel_rfl) (by kernel_rfl)
def isStruct (d : Option TypeDesc) : Bool := match d with | some (.struct _) => true | _ => false
theorem of_struct {d : Option TypeDesc} (h : isStruct d = true) : ∃ fs, d = some (.struct fs) := by
  unfold isStruct at h; split at h
  · exact ⟨_, rfl⟩
  · cases h
theorem und32' : isStruct (Tryd.prog.underlying 32) = true := by kernel_rfl
theorem und39' : isStruct (Tryd.prog.underlying 39) = true := by kernel_rfl
theorem leaf32 : leafs Tryd.prog 4 32 = some [.string, .slice 30] := by kernel_rfl
theorem leaf39 : leafs Tryd.prog 4 39 = some [.string, .slice 30, .int .i64, .bool] := by kernel_rfl
theorem leaf9 : leafs Tryd.prog 4 9 = some [.string] := by kernel_rfl
theorem leaf52 : leafs Tryd.prog 4 52 = some [.slice 52] := by kernel_rfl
theorem leaf49 : leafs Tryd.prog 4 49 = some [.int .i64, .int .i64, .int .i64, .string] := by kernel_rfl
theorem leaf74 : leafs Tryd.prog 4 74 = some [.int .i64, .int .i64, .string, .slice 71, .int .i64, .int .i64, .slice 72, .slice 71, .int .i64, .bool] := by kernel_rfl
theorem leaf29 : leafs Tryd.prog 4 29 = some [.int .i64, .int .i64, .int .i64, .int .i64, .int .i64, .int .i64, .int .i64, .int .i64, .int .i64, .int .i64] := by kernel_rfl
theorem leaf108 : leafs Tryd.prog 4 108 = some [.string, .int .i64, .slice 71] := by kernel_rfl
theorem leaf3 : leafs Tryd.prog 4 3 = some [.int .i64] := by kernel_rfl
theorem und22 : Tryd.prog.underlying 22 = some (.slice 74) := of_slice (by kernel_rfl)
theorem und23 : Tryd.prog.underlying 23 = some (.slice 29) := of_slice (by kernel_rfl)
theorem und24 : Tryd.prog.underlying 24 = some (.slice 108) := of_slice (by kernel_rfl)
theorem und30 : Tryd.prog.underlying 30 = some (.slice 52) := of_slice (by kernel_rfl)
theorem und52 : Tryd.prog.underlying 52 = some (.slice 9) := of_slice (by kernel_rfl)
theorem und40 : Tryd.prog.underlying 40 = some (.slice 49) := of_slice (by kernel_rfl)
theorem und71 : Tryd.prog.underlying 71 = some (.slice 3) := of_slice (by kernel_rfl)
theorem und72 : Tryd.prog.underlying 72 = some (.slice 2) := of_slice (by kernel_rfl)
theorem und2 : Tryd.prog.underlying 2 = some (.int .i64) := by kernel_rfl
theorem rowsP {α : Type} (f : α → List Value) (P : α → Prop) : ∀ (rows : List (List Value)), (∀ row ∈ rows, ∃ a, row = f a ∧ P a) → ∃ xs : List α, rows = xs.map f ∧ ∀ a ∈ xs, P a
  | [], _ => ⟨[], rfl, fun _ h => by cases h⟩
  | r :: rows, h => by
    obtain ⟨a, ha, hp⟩ := h r (.head _)
    obtain ⟨xs, e, hs⟩ := rowsP f P rows fun x hx => h x (.tail _ hx)
    refine ⟨a :: xs, by rw [ha, e]; rfl, fun x hx => ?_⟩
    rcases List.mem_cons.1 hx with rfl | hx
    · exact hp
    · exact hs x hx
section
variable {H : Type} {enc : TypeId × Value → H} {W : World}
theorem capP {P : Program} {W : World} {base t e : Nat} {o : Option Addr} {n c : Nat} (ht : P.underlying t = some (.slice e)) (h : Value.okWide P W .any base t (.slice o n c)) : n ≤ c := by
  simp only [Value.okWide, ht, Cell.okWide, Cell.ok] at h
  cases o with
  | none =>
    cases n with
    | zero => exact Nat.zero_le _
    | succ n => simp at h
  | some a => simp at h; exact h.1
theorem cap_le {P : Program} {W : World} {t e : TypeId} {o : Option Addr} {n c : Nat} (ht : P.underlying t = some (.slice e)) (hv : ∃ base, Value.okWide P W .any base t (.slice o n c)) : n ≤ c := by
  obtain ⟨base, hv⟩ := hv
  exact capP ht hv
theorem rd_recs {o : Option Addr} {k : Nat} {rows : List (List Value)} (h : Go.Nf.Rd W o k rows) : Recs W Any' o k rows := fun i row hi => by
  obtain ⟨a, ha, hc⟩ := h.at hi
  exact ⟨a, ha, trivial, hc⟩
theorem reach_le {n : Nat} (h : n ≤ reachBytes) : n ≤ 140737488355328 := Nat.le_trans h (by decide)
theorem strs_open {v : Value} (h : SlB enc Tryd.prog W 52 v) : ∃ o c, ∃ xs : List Str, v = .slice o xs.length c ∧ Strs W Any' o xs ∧ xs.length * 16 ≤ 140737488355328 ∧ ∀ s ∈ xs, s.length ≤ 9223372036854775807 := by
  obtain ⟨o, n, cc, rows, rfl, hl, hm, hb, hrd, hrow⟩ := slB_open (e := 9) und52 leaf9 h
  obtain ⟨xs, rfl, hx⟩ := rowsP encS (fun s => s.length ≤ 9223372036854775807) rows fun row hr => by
    have h := (hrow row hr).fits
    obtain ⟨s, _, rfl, hs, h⟩ := h.scons
    obtain rfl := h.nil
    refine ⟨sb s, by unfold encS; rw [BA_sb], ?_⟩
    rw [sb_len]
    unfold maxLen at hs
    omega
  rw [List.length_map] at hl
  have hsz : Tryd.prog.cellsOf 9 = 1 := by kernel_rfl
  have hby : Tryd.prog.bytesOf 9 = 16 := by kernel_rfl
  rw [hsz] at hrd
  rw [hby] at hb
  subst hl
  exact ⟨o, cc, xs, rfl, rd_recs hrd, reach_le hb, hx⟩
theorem lol_open {v : Value} (h : SlB enc Tryd.prog W 30 v) : ∃ o c, ∃ ls : List (List Str), v = .slice o ls.length c ∧ Lol W Any' o ls ∧ ls.length * 24 ≤ 140737488355328 ∧ ∀ l ∈ ls, l.length * 16 ≤ 140737488355328 ∧ ∀ s ∈ l, s.length ≤ 9223372036854775807 := by
  obtain ⟨o, n, cc, rows, rfl, hl, hm, hb, hrd, hrow⟩ := slB_open (e := 52) und30 leaf52 h
  obtain ⟨rs, rfl, hx⟩ := rowsP encL (fun r => Strs W Any' r.2.1 r.1 ∧ r.1.length * 16 ≤ 140737488355328 ∧ ∀ s ∈ r.1, s.length ≤ 9223372036854775807) rows fun row hr => by
    have hB := hrow row hr
    obtain ⟨c, _, rfl, -, h⟩ := hB.fits.slcons
    obtain rfl := h.nil
    obtain ⟨oi, ci, xs, rfl, h1, h2, h3⟩ := strs_open (show SlB enc Tryd.prog W 52 c from hB.1)
    exact ⟨(xs, oi, ci), rfl, h1, h2, h3⟩
  rw [List.length_map] at hl
  have hsz : Tryd.prog.cellsOf 52 = 1 := by kernel_rfl
  have hby : Tryd.prog.bytesOf 52 = 24 := by kernel_rfl
  rw [hsz] at hrd
  rw [hby] at hb
  refine ⟨o, cc, rs.map (·.1), by rw [List.length_map, hl], ⟨rs, rfl, rd_recs hrd, fun x hx' => (hx x hx').1⟩, by rw [List.length_map, hl]; exact reach_le hb, fun l hl => ?_⟩
  obtain ⟨r, hr, rfl⟩ := List.mem_map.1 hl
  exact (hx r hr).2
theorem plan_in {v : Value} {d : DataW H} {p : List MemPlace} (hv : ∃ base, Value.okWide Tryd.prog W .any base 32 v) (hh : DataW.Trod enc Tryd.prog W 0 (fun _ => true) true 32 v d p) (hreach : Go.Nf.Reach Tryd.prog 32 d) :
    ∃ o c, ∃ t : Pl, v = plV t.name o t.steps.length c ∧ Lol W Any' o t.steps ∧ t.Fit := by
  obtain ⟨fs, und⟩ := of_struct und32'
  obtain ⟨cs, rfl, hB⟩ := struct_inB und leaf32 hv hh hreach
  have h := hB.fits
  obtain ⟨s, _, rfl, hs, h⟩ := h.scons
  obtain ⟨q, _, rfl, -, h⟩ := h.slcons
  obtain rfl := h.nil
  obtain ⟨o, c, ls, rfl, h1, h2, h3⟩ := lol_open (show SlB enc Tryd.prog W 30 q from hB.2.1)
  unfold maxLen at hs
  refine ⟨o, c, ⟨sb s, ls⟩, by show _ = plV (sb s) o ls.length c; unfold plV; rw [BA_sb], h1, ⟨by show (sb s).length ≤ _; rw [sb_len]; omega, h2, h3⟩⟩
theorem made_in {v : Value} {d : DataW H} {p : List MemPlace} (hv : ∃ base, Value.okWide Tryd.prog W .any base 39 v) (hh : DataW.Trod enc Tryd.prog W 0 (fun _ => true) true 39 v d p) (hreach : Go.Nf.Reach Tryd.prog 39 d) :
    ∃ o c, ∃ t : Pl, ∃ calm dr, v = madeV t o c calm dr ∧ Lol W Any' o t.steps ∧ t.Fit := by
  obtain ⟨fs, und⟩ := of_struct und39'
  obtain ⟨cs, rfl, hB⟩ := struct_inB und leaf39 hv hh hreach
  have h := hB.fits
  obtain ⟨s, _, rfl, hs, h⟩ := h.scons
  obtain ⟨q, _, rfl, -, h⟩ := h.slcons
  obtain ⟨calm, _, rfl, -, h⟩ := h.icons
  obtain ⟨dr, _, rfl, h'⟩ := h.bcons
  obtain rfl := h'.nil
  obtain ⟨o, c, ls, rfl, h1, h2, h3⟩ := lol_open (show SlB enc Tryd.prog W 30 q from hB.2.1)
  unfold maxLen at hs
  refine ⟨o, c, ⟨sb s, ls⟩, calm, dr, by show _ = madeV ⟨sb s, ls⟩ o c calm dr; unfold madeV; rw [BA_sb], h1, ⟨by show (sb s).length ≤ _; rw [sb_len]; omega, h2, h3⟩⟩
theorem acts_in {v : Value} {d : DataW H} {p : List MemPlace} (hv : ∃ base, Value.okWide Tryd.prog W .any base 40 v) (hh : DataW.Trod enc Tryd.prog W 0 (fun _ => true) true 40 v d p) :
    ∃ o c, ∃ xs : List Ac, v = .slice o xs.length c ∧ Acs W Any' o xs := by
  obtain ⟨o, n, cc, rows, rfl, hl, hm, hrd, hrow⟩ := slIn_open (e := 49) und40 leaf49 (slice_in und40 hv hh)
  obtain ⟨xs, rfl⟩ := rows_of encAc rows fun row hr => by
    have h := hrow row hr
    obtain ⟨a, _, rfl, -, h⟩ := h.icons
    obtain ⟨b, _, rfl, -, h⟩ := h.icons
    obtain ⟨c, _, rfl, -, h⟩ := h.icons
    obtain ⟨s, _, rfl, -, h⟩ := h.scons
    obtain rfl := h.nil
    exact ⟨⟨a, b, c, sb s⟩, by unfold encAc; rw [BA_sb]⟩
  rw [List.length_map] at hl
  have hsz : Tryd.prog.cellsOf 49 = 4 := by kernel_rfl
  rw [hsz] at hrd
  subst hl
  exact ⟨o, cc, xs, rfl, rd_recs hrd⟩
theorem slv (t e : TypeId) {f : Nat} {ls : List Lf} {v : Value} (ht : Tryd.prog.underlying t = some (.slice e)) (hls : leafs Tryd.prog f e = some ls) (h : SlIn enc Tryd.prog W t v) : ∃ o n c, v = .slice o n c := by
  obtain ⟨o, n, cc, rows, rfl, -⟩ := slIn_open ht hls h
  exact ⟨o, n, cc, rfl⟩
theorem leaf2 : leafs Tryd.prog 4 2 = some [.int .i64] := by kernel_rfl
theorem incs_in {v : Value} {d : DataW H} {p : List MemPlace} (hv : ∃ base, Value.okWide Tryd.prog W .any base 22 v) (hh : DataW.Trod enc Tryd.prog W 0 (fun _ => true) true 22 v d p) :
    ∃ o c, ∃ xs : List Inc, v = .slice o xs.length c ∧ Incs W Any' o xs ∧ xs.length ≤ c := by
  obtain ⟨o, n, cc, rows, rfl, hl, hm, hrd, hrow⟩ := slIn_open (e := 74) und22 leaf74 (slice_in und22 hv hh)
  have hc := cap_le und22 hv
  obtain ⟨xs, rfl⟩ := rows_of encInc rows fun row hr => by
    have h := hrow row hr
    obtain ⟨a0, _, rfl, -, h⟩ := h.icons
    obtain ⟨a1, _, rfl, -, h⟩ := h.icons
    obtain ⟨a2, _, rfl, -, h⟩ := h.scons
    obtain ⟨a3, _, rfl, h3, h⟩ := h.slcons
    obtain ⟨a4, _, rfl, -, h⟩ := h.icons
    obtain ⟨a5, _, rfl, -, h⟩ := h.icons
    obtain ⟨a6, _, rfl, h6, h⟩ := h.slcons
    obtain ⟨a7, _, rfl, h7, h⟩ := h.slcons
    obtain ⟨a8, _, rfl, -, h⟩ := h.icons
    obtain ⟨a9, _, rfl, h'⟩ := h.bcons
    obtain rfl := h'.nil
    obtain ⟨o3, n3, c3, rfl⟩ := slv 71 3 und71 leaf3 h3
    obtain ⟨o6, n6, c6, rfl⟩ := slv 72 2 und72 leaf2 h6
    obtain ⟨o7, n7, c7, rfl⟩ := slv 71 3 und71 leaf3 h7
    exact ⟨⟨a0, a1, sb a2, o3, n3, c3, a4, a5, o6, n6, c6, o7, n7, c7, a8, a9⟩, by unfold encInc; rw [BA_sb]⟩
  rw [List.length_map] at hl
  have hsz : Tryd.prog.cellsOf 74 = 10 := by kernel_rfl
  rw [hsz] at hrd
  subst hl
  exact ⟨o, cc, xs, rfl, rd_recs hrd, hc⟩
theorem units_in {v : Value} {d : DataW H} {p : List MemPlace} (hv : ∃ base, Value.okWide Tryd.prog W .any base 23 v) (hh : DataW.Trod enc Tryd.prog W 0 (fun _ => true) true 23 v d p) :
    ∃ o c, ∃ xs : List Un, v = .slice o xs.length c ∧ Uns W Any' o xs ∧ xs.length ≤ c := by
  obtain ⟨o, n, cc, rows, rfl, hl, hm, hrd, hrow⟩ := slIn_open (e := 29) und23 leaf29 (slice_in und23 hv hh)
  have hc := cap_le und23 hv
  obtain ⟨xs, rfl⟩ := rows_of encUn rows fun row hr => by
    have h := hrow row hr
    obtain ⟨a0, _, rfl, -, h⟩ := h.icons
    obtain ⟨a1, _, rfl, -, h⟩ := h.icons
    obtain ⟨a2, _, rfl, -, h⟩ := h.icons
    obtain ⟨a3, _, rfl, -, h⟩ := h.icons
    obtain ⟨a4, _, rfl, -, h⟩ := h.icons
    obtain ⟨a5, _, rfl, -, h⟩ := h.icons
    obtain ⟨a6, _, rfl, -, h⟩ := h.icons
    obtain ⟨a7, _, rfl, -, h⟩ := h.icons
    obtain ⟨a8, _, rfl, -, h⟩ := h.icons
    obtain ⟨a9, _, rfl, -, h⟩ := h.icons
    obtain rfl := h.nil
    exact ⟨⟨a0, a1, a2, a3, a4, a5, a6, a7, a8, a9⟩, rfl⟩
  rw [List.length_map] at hl
  have hsz : Tryd.prog.cellsOf 29 = 10 := by kernel_rfl
  rw [hsz] at hrd
  subst hl
  exact ⟨o, cc, xs, rfl, rd_recs hrd, hc⟩
def encI (x : Int) : List Value := [.int .i64 x]
theorem nums_open {v : Value} (h : SlIn enc Tryd.prog W 71 v) : ∃ o c, ∃ xs : List Int, v = .slice o xs.length c ∧ Nums W Any' o xs ∧ xs.length ≤ maxLen := by
  obtain ⟨o, n, cc, rows, rfl, hl, hm, hrd, hrow⟩ := slIn_open (e := 3) und71 leaf3 h
  obtain ⟨xs, rfl⟩ := rows_of encI rows fun row hr => by
    have h := hrow row hr
    obtain ⟨a, _, rfl, -, h⟩ := h.icons
    obtain rfl := h.nil
    exact ⟨a, rfl⟩
  rw [List.length_map] at hl
  have hsz : Tryd.prog.cellsOf 3 = 1 := by kernel_rfl
  rw [hsz] at hrd
  subst hl
  refine ⟨o, cc, xs, rfl, fun j v hj => ?_, hm⟩
  obtain ⟨a, ha, hc⟩ := hrd.at (i := j) (row := encI v) (by rw [List.getElem?_map, hj]; rfl)
  refine ⟨a, ha, trivial, ?_⟩
  have := hc 0 (.int .i64 v) rfl
  rwa [Go.Nf.add_zero] at this
theorem plans_in {v : Value} {d : DataW H} {p : List MemPlace} (hv : ∃ base, Value.okWide Tryd.prog W .any base 24 v) (hh : DataW.Trod enc Tryd.prog W 0 (fun _ => true) true 24 v d p) (hreach : Go.Nf.Reach Tryd.prog 24 d) :
    ∃ o c, ∃ xs : List Pln, v = .slice o xs.length c ∧ Plns W Any' o xs ∧ FitPl xs := by
  obtain ⟨o, n, cc, rows, rfl, hl, hm, hb, hrd, hrow⟩ := slB_open (e := 108) und24 leaf108 (slice_inB und24 hv hh hreach)
  obtain ⟨rs, rfl, hx⟩ := rowsP encPl (fun r => Nums W Any' r.2.1 r.1.kinds ∧ r.1.code.length ≤ 9223372036854775807 ∧ r.1.kinds.length ≤ 9223372036854775806) rows fun row hr => by
    have hB := hrow row hr
    obtain ⟨s, _, rfl, hs, h⟩ := hB.fits.scons
    obtain ⟨u, _, rfl, -, h⟩ := h.icons
    obtain ⟨k, _, rfl, hk, h⟩ := h.slcons
    obtain rfl := h.nil
    obtain ⟨o7, n7, c7, rows7, e7, hl7, hm7, hb7, -, -⟩ := slB_open (e := 3) und71 leaf3 (show SlB enc Tryd.prog W 71 k from hB.2.2.1)
    obtain ⟨oi, ci, xs, e8, h1, h2⟩ := nums_open hk
    rw [e7] at e8
    simp only [Value.slice.injEq] at e8
    obtain ⟨rfl, rfl, rfl⟩ := e8
    have hby : Tryd.prog.bytesOf 3 = 8 := by kernel_rfl
    rw [hby] at hb7
    have := reach_le hb7
    subst e7
    exact ⟨(⟨sb s, u, xs⟩, o7, c7), by unfold encPl; rw [BA_sb], h1, by show (sb s).length ≤ _; rw [sb_len]; unfold maxLen at hs; omega, by show xs.length ≤ _; omega⟩
  rw [List.length_map] at hl
  have hsz : Tryd.prog.cellsOf 108 = 3 := by kernel_rfl
  have hby : Tryd.prog.bytesOf 108 = 48 := by kernel_rfl
  rw [hby] at hb
  have := reach_le hb
  exact ⟨o, cc, rs.map (·.1), by rw [List.length_map, hl], ⟨rs, rfl, rd_recs (by rw [← hsz]; exact hrd), fun x hx' => (hx x hx').1⟩, by rw [List.length_map]; omega, fun p hp => by
    obtain ⟨r, hr, rfl⟩ := List.mem_map.1 hp
    exact (hx r hr).2⟩
theorem strP {P : Program} {t : TypeId} {v : Value} (ht : P.underlying t = some .string) (hv : ∃ base, Value.okWide P W .any base t v) : ∃ s, v = .string s := by
  obtain ⟨base, hv⟩ := hv
  exact okWide_string ht hv
theorem intP {P : Program} {t : TypeId} {k : IntKind} {v : Value} (ht : P.underlying t = some (.int k)) (hv : ∃ base, Value.okWide P W .any base t v) : ∃ x : Int, v = .int k x := by
  obtain ⟨base, hv⟩ := hv
  exact okWide_int ht hv
theorem text_in {v : Value} (hv : ∃ base, Value.okWide Tryd.prog W .any base 9 v) : ∃ s : Str, v = .string (BA s) := by
  obtain ⟨s, rfl⟩ := strP und9 hv
  exact ⟨sb s, congrArg Value.string (BA_sb s).symm⟩
theorem tick_in {v : Value} (hv : ∃ base, Value.okWide Tryd.prog W .any base 2 v) : ∃ x : Int, v = .int .i64 x := intP und2 hv
end
end Go.Proofs.YtolpmdmcbciccaaDoor
