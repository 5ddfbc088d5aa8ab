/- Contracts of chapter 36: the small functions, the costs, the square. -/
import Derived.Test.YtcaokpglbolkcaaNf0
import Derived.Test.YtcaokpglbolkcaaNfY
import Derived.Test.YtcaokpglbolkcaaNfX
import Derived.Test.YtcaokpglbolkcaaNfZ
import Derived.Test.YtcaokpglbolkcaaNfQ
import Derived.Test.YtcaokpglbolkcaaNfU
namespace Go.Proofs.Ytcaokpglbolkcaa
open Go Go.Nf

/-- no edge -/
abbrev Inf : Int := 4611686018427387904
def isCost (c : Int) : Bool := (decide (0 ≤ c) && decide (c ≤ 1099511627776)) || decide (c = 4611686018427387904)
theorem isCost_c (c : Int) (w : World) : Calls Try.prog 52 #[.int .i64 c] w fun e w' => e = .returned (.bool (isCost c)) ∧ w = w' := by
  refine nf52 c w _ ⟨fun a => ⟨fun b => ⟨ret_bool ?_, rfl⟩, fun b => ⟨fun d => ⟨ret_bool ?_, rfl⟩, fun d => ⟨ret_bool ?_, rfl⟩⟩⟩, fun a => ⟨fun d => ⟨ret_bool ?_, rfl⟩, fun d => ⟨ret_bool ?_, rfl⟩⟩⟩
  all_goals (simp [isCost, ge_iff_le] at *; try omega)

/-- the index of the first v, or -1 -/
def idxOf (v : Int) : List Int → Int → Int
  | [], _ => -1
  | x :: xs, i => if v = x then i else idxOf v xs (i + 1)
theorem index_c (o : Option Addr) (c : Nat) (xs : List Int) (v : Int) (w : World) {A : Nat → Prop} (h : Nums w A o xs) (hl : xs.length ≤ 1000) :
    Calls Try.prog 72 #[.slice o xs.length c, .int .i64 v] w fun e w' => e = .returned (.int .i64 (idxOf v xs 0)) ∧ w = w' := by
  refine nf72 o xs.length c v w _ ⟨fun k x w' => ∃ j : Nat, x = (j : Int) ∧ j ≤ xs.length ∧ k = xs.length - j ∧ idxOf v (xs.drop j) j = idxOf v xs 0 ∧ w = w', ⟨_, 0, rfl, Nat.zero_le _, rfl, by simp, rfl⟩, ?_⟩
  rintro k _ _ x ⟨j, rfl, hj, rfl, hI, rfl⟩
  refine ⟨fun hlt => ?_, fun hge => ?_⟩
  · have hlt : j < xs.length := by have := dT hlt; omega
    obtain ⟨a, ha, hc⟩ := h.get hlt
    rw [List.drop_eq_getElem_cons hlt, idxOf] at hI
    refine ⟨a, ha, ⟨by omega, by omega⟩, _, hc, fun he => ⟨ret_int ?_, rfl⟩, fun he => ⟨_, by omega, j + 1, by rw [wr (by omega)]; omega, hlt, rfl, ?_, rfl⟩⟩
    · rw [if_pos (dT he)] at hI; exact hI
    · rw [if_neg (dF he)] at hI; exact_mod_cast hI
  · have := dF hge
    obtain rfl : j = xs.length := by omega
    rw [List.drop_length] at hI
    exact ⟨ret_int hI, rfl⟩

def rowOk (n : Nat) (r : List Int) : Bool := decide (r.length = n) && r.all isCost
def first (rows : List (List Int)) : Nat := (rows.headD []).length
/-- the error of a matrix -/
def errOf (rows : List (List Int)) : Int :=
  if 64 < rows.length then 3 else if rows.all (fun r => decide (r.length ≤ 64)) then (if rows.all (rowOk (first rows)) then 0 else 1) else 3
theorem first_get {rows : List (List Int)} (h : 0 < rows.length) : first rows = rows[0].length := by
  cases rows with
  | nil => simp at h
  | cons r rs => rfl
theorem all_take_succ {α : Type} {l : List α} {p : α → Bool} {j : Nat} (h : j < l.length) (h1 : (l.take j).all p = true) (h2 : p l[j] = true) : (l.take (j + 1)).all p = true := by
  rw [List.take_succ_eq_append_getElem h, List.all_append, h1, Bool.true_and]
  simp [h2]
theorem all_false {α : Type} {l : List α} {p : α → Bool} {j : Nat} (h : j < l.length) (h2 : p l[j] = false) : l.all p = false := by
  rw [List.all_eq_false]
  exact ⟨_, List.getElem_mem h, by rw [h2]; simp⟩
theorem err_long {rows : List (List Int)} (h : rows.length > 64) : errOf rows = 3 := by unfold errOf; rw [if_pos h]
theorem err_wide {rows : List (List Int)} {j : Nat} (h : j < rows.length) (h2 : rows[j].length > 64) : errOf rows = 3 := by
  unfold errOf
  rw [all_false (p := fun r => decide (r.length ≤ 64)) h (by simp; omega)]
  simp
theorem err_bad {rows : List (List Int)} {j : Nat} (h0 : ¬ rows.length > 64) (hw : rows.all (fun r => decide (r.length ≤ 64)) = true) (h : j < rows.length) (h2 : rowOk (first rows) rows[j] = false) : errOf rows = 1 := by
  unfold errOf
  rw [if_neg (by omega), if_pos hw, all_false h h2]
  simp
theorem err_ok {rows : List (List Int)} (h0 : ¬ rows.length > 64) (hw : rows.all (fun r => decide (r.length ≤ 64)) = true) (h : rows.all (rowOk (first rows)) = true) : errOf rows = 0 := by
  unfold errOf
  rw [if_neg (by omega), if_pos hw, if_pos h]

theorem check_c (o : Option Addr) (c : Nat) (rows : List (List Int)) (w : World) {A : Nat → Prop} (h : Mat w A o rows) :
    Calls Try.prog 32 #[.slice o rows.length c] w fun e w' => e = .returned (.tuple #[.int .i64 (if errOf rows = 0 then (first rows : Int) else 0), .int .i64 (errOf rows)]) ∧ w = w' := by
  refine nf32 o rows.length c w _ ⟨fun hb => ⟨?_, rfl⟩, fun hb => ?_⟩
  · rw [err_long (by have := dT hb; omega)]; rfl
  have h0 : ¬ rows.length > 64 := by have := dF hb; omega
  refine ⟨fun k x w' => ∃ j : Nat, x = (j : Int) ∧ j ≤ rows.length ∧ k = rows.length - j ∧ (rows.take j).all (fun r => decide (r.length ≤ 64)) = true ∧ w = w', ⟨_, 0, rfl, Nat.zero_le _, rfl, rfl, rfl⟩, ?_⟩
  rintro k _ _ x ⟨j, rfl, hj, rfl, hI, rfl⟩
  refine ⟨fun hlt => ?_, fun hge => ?_⟩
  · have hlt : j < rows.length := by have := dT hlt; omega
    obtain ⟨a, oi, ci, ha, hc, hn⟩ := h.get hlt
    refine ⟨a, ha, ⟨by omega, by omega⟩, _, _, _, hc, fun hb => ⟨?_, rfl⟩, fun hb => ⟨_, by omega, j + 1, by rw [wr (by omega)]; omega, hlt, rfl, all_take_succ hlt hI (by have := dF hb; simp; omega), rfl⟩⟩
    rw [err_wide hlt (by have := dT hb; omega)]; rfl
  have := dF hge
  obtain rfl : j = rows.length := by omega
  rw [List.take_length] at hI
  refine ⟨fun hz => ⟨?_, rfl⟩, fun hz => ?_⟩
  · have hz : rows = [] := List.length_eq_zero_iff.1 (by have := dT hz; omega)
    subst hz; rfl
  have hz := dF hz
  obtain ⟨a, oi, ci, ha, hc, hn⟩ := h.get0 (by omega)
  rw [← first_get (by omega)] at hc
  refine ⟨a, ha, ⟨by omega, by omega⟩, _, _, _, hc, fun k x w' => ∃ j : Nat, x = (j : Int) ∧ j ≤ rows.length ∧ k = rows.length - j ∧ (rows.take j).all (rowOk (first rows)) = true ∧ w = w', ⟨_, 0, rfl, Nat.zero_le _, rfl, rfl, rfl⟩, ?_⟩
  rintro k _ _ x ⟨j, rfl, hj, rfl, hI2, rfl⟩
  refine ⟨fun hlt => ?_, fun hge => ⟨?_, rfl⟩⟩
  · have hlt : j < rows.length := by have := dT hlt; omega
    obtain ⟨a, oi, ci, ha, hc, hn⟩ := h.get hlt
    have hwide : rows[j].length ≤ 64 := by
      have := List.all_eq_true.1 hI _ (List.getElem_mem hlt)
      simpa using this
    refine ⟨a, ha, ⟨by omega, by omega⟩, _, _, _, hc, fun hne => ⟨?_, rfl⟩, fun heq => ?_⟩
    · have hne := nT hne
      rw [err_bad h0 hI hlt (by unfold rowOk; rw [decide_eq_false (by omega), Bool.false_and])]; rfl
    have heq : rows[j].length = first rows := by have := nF heq; omega
    refine ⟨fun k x w' => ∃ i : Nat, x = (i : Int) ∧ i ≤ rows[j].length ∧ k = rows[j].length - i ∧ (rows[j].take i).all isCost = true ∧ w = w', ⟨_, 0, rfl, Nat.zero_le _, rfl, rfl, rfl⟩, ?_⟩
    rintro k _ _ x ⟨i, rfl, hi, rfl, hI3, rfl⟩
    refine ⟨fun hlt' => ?_, fun hge => ?_⟩
    · have hlt' : i < rows[j].length := by have := dT hlt'; omega
      obtain ⟨a', ha', hc'⟩ := hn.get hlt'
      refine ⟨a', ha', ⟨by omega, by omega⟩, _, hc', (isCost_c _ _).mono ?_⟩
      rintro _ _ ⟨rfl, rfl⟩
      refine ⟨_, rfl, fun hy => ⟨_, by omega, i + 1, by rw [wr (by omega)]; omega, hlt', rfl, all_take_succ hlt' hI3 hy, rfl⟩, fun hn' => ⟨?_, rfl⟩⟩
      rw [err_bad h0 hI hlt (by unfold rowOk; rw [all_false hlt' hn', Bool.and_false])]; rfl
    · have := dF hge
      obtain rfl : i = rows[j].length := by omega
      rw [List.take_length] at hI3
      exact ⟨_, by omega, j + 1, by rw [wr (by omega)]; omega, hlt, rfl, all_take_succ hlt hI2 (by unfold rowOk; rw [decide_eq_true heq, hI3]; rfl), rfl⟩
  · have := dF hge
    obtain rfl : j = rows.length := by omega
    rw [List.take_length] at hI2
    rw [err_ok h0 hI hI2]; rfl

theorem isCost_of {c : Int} (h : 0 ≤ c ∧ c ≤ 1099511627776 ∨ c = 4611686018427387904) : isCost c = true := by
  unfold isCost; rw [Bool.or_eq_true, Bool.and_eq_true, decide_eq_true_eq, decide_eq_true_eq, decide_eq_true_eq]; exact h
theorem isCost_not {c : Int} (h : ¬ (0 ≤ c ∧ c ≤ 1099511627776 ∨ c = 4611686018427387904)) : isCost c = false := by
  cases hc : isCost c with
  | false => rfl
  | true =>
    exfalso; apply h
    unfold isCost at hc; rw [Bool.or_eq_true, Bool.and_eq_true, decide_eq_true_eq, decide_eq_true_eq, decide_eq_true_eq] at hc; exact hc

/-- the column of row i -/
def gm (m : List Int) (i : Nat) : Int := (m[i]?).getD (-1)
/-- the cost at row i, column c -/
def at2 (rows : List (List Int)) (i : Nat) (c : Int) : Int := ((((rows[i]?).getD [])[c.toNat]?).getD 0)
/-- row i's column is a column, has an edge, and no row before has it -/
def okA (rows : List (List Int)) (m : List Int) (i : Nat) : Bool :=
  decide (gm m i = -1) || (decide (0 ≤ gm m i) && decide (gm m i < ((rows[i]?).getD []).length) && !decide (at2 rows i (gm m i) = 4611686018427387904) && (List.range i).all (fun k => !decide (gm m k = gm m i)))
def cnt (m : List Int) : Nat → Int
  | 0 => 0
  | i + 1 => cnt m i + (if gm m i = -1 then 0 else 1)
def tot (rows : List (List Int)) (m : List Int) : Nat → Int
  | 0 => 0
  | i + 1 => tot rows m i + (if gm m i = -1 then 0 else at2 rows i (gm m i))
def okAll (rows : List (List Int)) (m : List Int) : Bool := (List.range m.length).all (okA rows m)
def costE (rows : List (List Int)) (m : List Int) : Int := if errOf rows = 0 then (if m.length = rows.length then (if okAll rows m then 0 else 1) else 1) else errOf rows
def costN (rows : List (List Int)) (m : List Int) : Int := if costE rows m = 0 then cnt m m.length else 0
def costS (rows : List (List Int)) (m : List Int) : Int := if costE rows m = 0 then tot rows m m.length else 0

theorem cnt_bd (m : List Int) : ∀ i, 0 ≤ cnt m i ∧ cnt m i ≤ i
  | 0 => by simp [cnt]
  | i + 1 => by have := cnt_bd m i; simp only [cnt]; split <;> omega
theorem okAll_bad {rows : List (List Int)} {m : List Int} {j : Nat} (h : j < m.length) (h2 : okA rows m j = false) : okAll rows m = false := by
  unfold okAll; rw [List.all_eq_false]; exact ⟨j, by simpa using h, by rw [h2]; simp⟩
theorem isCost_bd {c : Int} (h : isCost c = true) (hi : c ≠ 4611686018427387904) : 0 ≤ c ∧ c ≤ 1099511627776 := by
  unfold isCost at h; rw [Bool.or_eq_true, Bool.and_eq_true, decide_eq_true_eq, decide_eq_true_eq, decide_eq_true_eq] at h
  rcases h with h | h
  · exact h
  · exact absurd h hi
theorem err0 {rows : List (List Int)} (h : errOf rows = 0) : rows.length ≤ 64 ∧ (∀ r ∈ rows, r.length ≤ 64) ∧ ∀ r ∈ rows, r.length = first rows ∧ ∀ c ∈ r, isCost c = true := by
  unfold errOf at h
  split at h
  · cases h
  · split at h
    · rename_i h1 h2
      split at h
      · rename_i h3
        refine ⟨by omega, fun r hr => by simpa using List.all_eq_true.1 h2 r hr, fun r hr => ?_⟩
        have := List.all_eq_true.1 h3 r hr
        unfold rowOk at this
        rw [Bool.and_eq_true, decide_eq_true_eq] at this
        exact ⟨this.1, fun c hc => List.all_eq_true.1 this.2 c hc⟩
      · cases h
    · cases h
theorem at2_bd {rows : List (List Int)} (h : errOf rows = 0) {i : Nat} {c : Int} (hi : at2 rows i c ≠ 4611686018427387904) : 0 ≤ at2 rows i c ∧ at2 rows i c ≤ 1099511627776 := by
  unfold at2 at *
  cases hr : rows[i]? with
  | none => simp
  | some r =>
    rw [hr] at hi
    simp only [Option.getD_some] at hi ⊢
    cases hc : r[c.toNat]? with
    | none => simp
    | some x =>
      rw [hc] at hi
      simp only [Option.getD_some] at hi ⊢
      exact isCost_bd ((err0 h).2.2 r (List.mem_of_getElem? hr) |>.2 x (List.mem_of_getElem? hc)) hi
theorem okA_split {rows : List (List Int)} {m : List Int} {i : Nat} (h : okA rows m i = true) (hn : gm m i ≠ -1) : 0 ≤ gm m i ∧ gm m i < ((rows[i]?).getD []).length ∧ at2 rows i (gm m i) ≠ 4611686018427387904 ∧ ∀ k, k < i → gm m k ≠ gm m i := by
  unfold okA at h
  simp only [Bool.or_eq_true, Bool.and_eq_true, decide_eq_true_eq, Bool.not_eq_true', decide_eq_false_iff_not, List.all_eq_true, List.mem_range] at h
  rcases h with h | ⟨⟨⟨h1, h2⟩, h3⟩, h4⟩
  · exact absurd h hn
  · exact ⟨h1, h2, h3, fun k hk => h4 k hk⟩
theorem okA_mk {rows : List (List Int)} {m : List Int} {i : Nat} (h1 : 0 ≤ gm m i) (h2 : gm m i < ((rows[i]?).getD []).length) (h3 : at2 rows i (gm m i) ≠ 4611686018427387904) (h4 : ∀ k, k < i → gm m k ≠ gm m i) : okA rows m i = true := by
  unfold okA
  simp only [Bool.or_eq_true, Bool.and_eq_true, decide_eq_true_eq, Bool.not_eq_true', decide_eq_false_iff_not, List.all_eq_true, List.mem_range]
  exact .inr ⟨⟨⟨h1, h2⟩, h3⟩, h4⟩
theorem okA_bad {rows : List (List Int)} {m : List Int} {i : Nat} (hn : gm m i ≠ -1) (h : ¬ (0 ≤ gm m i ∧ gm m i < ((rows[i]?).getD []).length ∧ at2 rows i (gm m i) ≠ 4611686018427387904 ∧ ∀ k, k < i → gm m k ≠ gm m i)) : okA rows m i = false := by
  cases hk : okA rows m i with
  | false => rfl
  | true => exact absurd (okA_split hk hn) h
theorem tot_bd {rows : List (List Int)} {m : List Int} (h : errOf rows = 0) : ∀ i, (∀ k, k < i → okA rows m k = true) → 0 ≤ tot rows m i ∧ tot rows m i ≤ 1099511627776 * i
  | 0, _ => by simp [tot]
  | i + 1, hk => by
    have := tot_bd h i fun k hk' => hk k (by omega)
    simp only [tot]
    split
    · omega
    · rename_i hn
      have := at2_bd h (okA_split (hk i (by omega)) hn).2.2.1
      omega

structure Sq where
  size : Nat
  cost : List (List Int)
  rowOf : List Int
  rowD : List Int
  colD : List Int
def Sq.c (Q : Sq) (i j : Nat) : Int := (((Q.cost[i]?).getD [])[j]?).getD 0
def Sq.u (Q : Sq) (i : Nat) : Int := (Q.rowD[i]?).getD 0
def Sq.v (Q : Sq) (j : Nat) : Int := (Q.colD[j]?).getD 0
def Sq.r (Q : Sq) (j : Nat) : Int := (Q.rowOf[j]?).getD 0
structure SqAt (w : World) (q br bu bv : Nat) (A : Nat → Prop) (Q : Sq) : Prop where
  hq : ∃ oc cc, Row w q 120 [.slice oc Q.size cc, .int .i64 (Q.size : Int), .slice (some ⟨br, 0, none⟩) Q.size Q.size, .slice (some ⟨bu, 0, none⟩) Q.size Q.size, .slice (some ⟨bv, 0, none⟩) Q.size Q.size] ∧ Mat w A oc Q.cost
  hr : Row w br 3 (intsV Q.rowOf)
  hu : Row w bu 2 (intsV Q.rowD)
  hv : Row w bv 2 (intsV Q.colD)
  ne : q ≠ br ∧ q ≠ bu ∧ q ≠ bv ∧ br ≠ bu ∧ br ≠ bv ∧ bu ≠ bv
  hA : ¬ A q ∧ ¬ A br ∧ ¬ A bu ∧ ¬ A bv
  len : Q.cost.length = Q.size ∧ (∀ r ∈ Q.cost, r.length = Q.size) ∧ Q.rowOf.length = Q.size ∧ Q.rowD.length = Q.size ∧ Q.colD.length = Q.size
  small : Q.size ≤ 128
theorem SqAt.keep {w w' : World} {q br bu bv : Nat} {A S : Nat → Prop} {Q : Sq} (h : SqAt w q br bu bv A Q) (g : Only S w w') (h1 : ¬ S q) (h2 : ¬ S br) (h3 : ¬ S bu) (h4 : ¬ S bv) (h5 : ∀ b, A b → ¬ S b) : SqAt w' q br bu bv A Q := by
  obtain ⟨oc, cc, k1, k2⟩ := h.hq
  exact ⟨⟨oc, cc, k1.keep g h1, k2.keep g h5⟩, h.hr.keep g h2, h.hu.keep g h3, h.hv.keep g h4, h.ne, h.hA, h.len, h.small⟩
theorem SqAt.grow {w w' : World} {q br bu bv : Nat} {A : Nat → Prop} {Q : Sq} (h : SqAt w q br bu bv A Q) (g : Grow w w') : SqAt w' q br bu bv A Q :=
  h.keep g (fun h => h) (fun h => h) (fun h => h) (fun h => h) fun _ _ h => h
theorem intsV_get {xs : List Int} {j : Nat} (h : j < xs.length) : (intsV xs)[(j : Int).toNat * 1]? = some (.int .i64 xs[j]) := by rw [toNat_cast, Nat.mul_one]; simp [intsV, h]
def Sq.tight (Q : Sq) (i j : Nat) : Bool := !decide (Q.c i j = 4611686018427387904) && decide (Q.c i j = IntKind.wrap .i64 (Q.u i + Q.v j))

theorem tight_c (q br bu bv : Nat) (A : Nat → Prop) (Q : Sq) (i j : Nat) (w : World) (h : SqAt w q br bu bv A Q) (hi : i < Q.size) (hj : j < Q.size) :
    Calls Try.prog 73 #[.pointer (some ⟨q, 0, none⟩), .int .i64 (i : Int), .int .i64 (j : Int)] w fun e w' => e = .returned (.bool (Q.tight i j)) ∧ Grow w w' := by
  refine nf73 q i j w _ fun w1 e1 => ?_
  have g1 : Grow w w1 := only_drew e1
  have h := h.grow g1
  obtain ⟨oc, cc, hq, hm⟩ := h.hq
  obtain ⟨l1, l2, l3, l4, l5⟩ := h.len
  have hic : i < Q.cost.length := by omega
  obtain ⟨a, oi, ci, ha, hc, hn⟩ := hm.get hic
  have hrl : Q.cost[i].length = Q.size := l2 _ (List.getElem_mem hic)
  have hjc : j < Q.cost[i].length := by omega
  obtain ⟨a', ha', hc'⟩ := hn.get hjc
  have ec : Q.c i j = Q.cost[i][j] := by unfold Sq.c; rw [List.getElem?_eq_getElem hic]; simp [hjc]
  have eu : Q.u i = Q.rowD[i]'(by omega) := by unfold Sq.u; rw [List.getElem?_eq_getElem (by omega)]; rfl
  have ev : Q.v j = Q.colD[j]'(by omega) := by unfold Sq.v; rw [List.getElem?_eq_getElem (by omega)]; rfl
  rw [← ec] at hc'
  have cu := h.hu.cellAdd (intsV_get (xs := Q.rowD) (j := i) (by omega))
  have cv := h.hv.cellAdd (intsV_get (xs := Q.colD) (j := j) (by omega))
  rw [← eu] at cu
  rw [← ev] at cv
  refine ⟨_, _, _, hq.cell rfl, a, ha, ⟨by omega, by omega⟩, _, _, _, hc, a', ha', ⟨by omega, by omega⟩, _, hc', fun hfin => ⟨_, _, _, hq.cell rfl, a, ha, ⟨by omega, by omega⟩, _, _, _, hc, a', ha', ⟨by omega, by omega⟩, _, hc', _, _, _, hq.cell rfl, _, rfl, ⟨by omega, by omega⟩, _, cu, _, _, _, hq.cell rfl, _, rfl, ⟨by omega, by omega⟩, _, cv, fun ht => ⟨ret_bool ?_, g1⟩, fun ht => ⟨ret_bool ?_, g1⟩⟩, fun hinf => ⟨ret_bool ?_, g1⟩⟩
  · unfold Sq.tight; rw [hfin, ht]; rfl
  · unfold Sq.tight; rw [hfin, ht]; rfl
  · unfold Sq.tight; rw [hinf]; rfl

/-- row i of the square of a matrix with R rows and C columns -/
def sqRow (rows : List (List Int)) (C i : Nat) : List Int :=
  if i < rows.length then (rows[i]?).getD [] ++ (List.replicate rows.length 4611686018427387904).set i 140737488355328 else List.replicate (rows.length + C) 0
def sq0 (rows : List (List Int)) (C : Nat) : Sq :=
  { size := rows.length + C, cost := (List.range (rows.length + C)).map (sqRow rows C), rowOf := List.replicate (rows.length + C) (-1), rowD := List.replicate (rows.length + C) 0, colD := List.replicate (rows.length + C) 0 }
theorem elem32 : Elem Try.prog 32 2 1 8 := elem_of (by kernel_rfl)
theorem elem31 : Elem Try.prog 31 3 1 8 := elem_of (by kernel_rfl)
theorem elem48 : Elem Try.prog 48 32 1 24 := elem_of (by kernel_rfl)
theorem zero2 : zeroL Try.prog 2 = some [.int .i64 0] := by kernel_rfl
theorem zero3 : zeroL Try.prog 3 = some [.int .i64 0] := by kernel_rfl
theorem und32 : Try.prog.underlying 32 = some (.slice 2) := by kernel_rfl
theorem size2 : (Try.prog.info? 2).map (·.size) = some 1 := by kernel_rfl
theorem rep_ints (n : Nat) : (List.replicate n [Value.int .i64 0]).flatten = intsV (List.replicate n 0) := by
  induction n with
  | zero => rfl
  | succ n ih => rw [List.replicate_succ, List.flatten_cons, ih, List.replicate_succ]; rfl
theorem intsV_len (xs : List Int) : (intsV xs).length = xs.length := by simp [intsV]
theorem intsV_set (xs : List Int) (j : Nat) (x : Int) (h : j < xs.length) : setFrom (intsV xs) ((j : Int).toNat * 1) [.int .i64 x] = intsV (xs.set j x) := by
  rw [toNat_cast, Nat.mul_one]
  simp [setFrom, intsV, List.map_set]
/-- a new row of zeros -/
theorem make_zeros {w : World} {t T : TypeId} {n : Nat} {K : Value → World → Prop} (he : Elem Try.prog t T 1 8) (hz : zeroL Try.prog T = some [.int .i64 0]) (hn : n ≤ 200)
    (h : ∀ w', Row w' (hs w) T (intsV (List.replicate n 0)) → Grow w w' → hs w' = hs w + 1 → K (.slice (some ⟨hs w, 0, none⟩) n n) w') : RunOk Try.prog (Hold (Instr.makeSlice t (.int .i64 (n : Int)) (.int .i64 (n : Int)))) w K := by
  refine run_make_row he hz (by omega) (by omega) (by omega) (by omega) fun w1 e1 => ?_
  rw [toNat_cast] at *
  refine h w1 ?_ (only_alloc e1) (hs_alloc e1)
  rw [← rep_ints]; exact Row.new e1
/-- fill a row from a column on -/
theorem fill_step (v : Int) (xs : List Int) (n j : Nat) (h : j < n) (hx : xs.length = j) (z : Int) : (xs ++ List.replicate (n - j) z).set j v = xs ++ [v] ++ List.replicate (n - (j + 1)) z := by
  rw [List.set_append_right _ _ (by omega), hx, Nat.sub_self, show n - j = (n - (j + 1)) + 1 from by omega, List.replicate_succ, List.set_cons_zero]
  simp

theorem own_row {w : World} {B T size : Nat} {o : Option Addr} {n c : Nat} {xs : List Value} (h : Own w B T size o n c xs) {b : Nat} (hb : inBlock o b) : ∃ l, Row w b T l := by
  obtain ⟨a, rfl, rfl⟩ := hb
  rcases h.2 with ⟨e, _⟩ | ⟨g, cap, cur, e, _, hg, _⟩
  · cases e
  · cases e
    exact ⟨cur.toList, by unfold Row; rw [Array.toArray_toList]; exact hg⟩
theorem own_ne {w : World} {B T T' size : Nat} {o : Option Addr} {n c : Nat} {xs : List Value} (h : Own w B T size o n c xs) {b : Nat} {l : List Value} (hr : Row w b T' l) (ht : T ≠ T') : ¬ inBlock o b := fun hb => by
  obtain ⟨l', hl'⟩ := own_row h hb
  exact ht (hl'.inj hr).2

def sv (S g : Nat) : Value := .slice (some ⟨g, 0, none⟩) S S
/-- the first t rows of the square lie in the blocks gs -/
structure Part (w0 w : World) (q B : Nat) (rows : List (List Int)) (C : Nat) (oc : Option Addr) (cc t : Nat) (gs : List Nat) (rest : List Value) : Prop where
  hq : Row w q 120 ([.slice oc t cc, .int .i64 ((rows.length + C : Nat) : Int)] ++ rest)
  own : Own w B 32 1 oc t cc (gs.map (sv (rows.length + C)))
  len : gs.length = t
  row : ∀ (i : Nat) g, gs[i]? = some g → Row w g 2 (intsV (sqRow rows C i)) ∧ q < g
  g : Grow w0 w
theorem newSquare_rows (q B : Nat) (rows : List (List Int)) (C : Nat) (oc : Option Addr) (cc t : Nat) (gs : List Nat) (w0 w : World) (g : Nat) (hp : Part w0 w q B rows C oc cc t gs [.slice none 0 0, .slice none 0 0, .slice none 0 0]) (hq0 : hs w0 ≤ q) (hqB : q < B) (hB : hs w0 ≤ B) (hBw : B ≤ hs w)
    (hg : Row w g 2 (intsV (sqRow rows C t))) (hgq : q < g) (hS : t < rows.length + C) (hS' : rows.length + C ≤ 128) (K : Option Addr → Nat → Nat → World → Prop)
    (hK : ∀ o' c' w', Part w0 w' q B rows C o' c' (t + 1) (gs ++ [g]) [.slice none 0 0, .slice none 0 0, .slice none 0 0] → K o' (t + 1) c' w') :
    ∀ w26, w26 = w.alloc (.cells #[sv (rows.length + C) g] 32 (0, 0)) →
      RunOk Try.prog (Hold (Builtin.append_ #[48, 48] 48 #[.slice oc t cc, .slice (some ⟨hs w, 0, none⟩) 1 1])) w26 fun v28 w29 => ∃ o30 n31 n32, v28 = .slice o30 n31 n32 ∧ There w29 ⟨q, 0, none⟩ 1 ∧ ∀ w33, w33 = setCells w29 ⟨q, 0, none⟩ [.slice o30 n31 n32] 0 → K o30 n31 n32 w33 := by
  intro w26 e26
  have l26 := hs_alloc e26
  have g26 : Grow w w26 := only_alloc e26
  refine run_append_row elem48 (hp.own.grow g26) (Row.new e26) rfl (by simp [sv, Value.oneCell']) (by unfold maxLen; omega) (by omega) (by omega) ?_
  intro o' c' w29 hown' ho' _
  have nq : ¬ inBlock oc q := own_ne hp.own hp.hq (by decide)
  have rq := (hp.hq.grow g26).keep ho' nq
  refine ⟨_, _, _, rfl, rq.there (by simp), fun w33 e33 => hK _ _ _ ⟨?_, ?_, by simp [hp.len], fun i g' hi => ?_, ?_⟩⟩
  · exact rq.set e33
  · have := hown'.keep (only_set e33) fun b hb hbe => by have := (hown'.base b hb).1; omega
    rw [List.map_append]; exact this
  · have hrow : Row w g' 2 (intsV (sqRow rows C i)) ∧ q < g' := by
      rcases Nat.lt_or_ge i gs.length with h | h
      · rw [List.getElem?_append_left h] at hi; exact hp.row i g' hi
      · have hlen := hp.len
        rw [List.getElem?_append_right h] at hi
        have : i - gs.length = 0 := by
          rcases Nat.eq_zero_or_pos (i - gs.length) with h' | h'
          · exact h'
          · rw [List.getElem?_eq_none (by simp; omega)] at hi; cases hi
        rw [this] at hi
        cases hi
        obtain rfl : i = t := by omega
        exact ⟨hg, hgq⟩
    exact ⟨((hrow.1.grow g26).keep ho' (own_ne hp.own hrow.1 (by decide))).keep (only_set e33) (by omega), hrow.2⟩
  · exact ((hp.g.trans' g26).trans ho' fun b hb hin => by have := (hp.own.base b hin).1; omega).trans (only_set e33) fun b hb hbe => by omega

theorem set_mid (xs : List Int) (k : Nat) (z v : Int) (n : Nat) (h : n = xs.length) : (xs ++ List.replicate (k + 1) z).set n v = xs ++ [v] ++ List.replicate k z := by
  subst h
  rw [List.set_append_right _ _ (Nat.le_refl _), Nat.sub_self, List.replicate_succ, List.set_cons_zero]
  simp
theorem newSquare_c (o : Option Addr) (c : Nat) (rows : List (List Int)) (C : Nat) (w : World) {A0 : Nat → Prop} (h : Mat w A0 o rows) (hrow : ∀ r ∈ rows, r.length = C) (hR : rows.length ≤ 64) (hCl : C ≤ 64) :
    Calls Try.prog 53 #[.slice o rows.length c, .int .i64 (C : Int)] w fun e w' =>
      ∃ q br bu bv, ∃ A : Nat → Prop, e = .returned (.pointer (some ⟨q, 0, none⟩)) ∧ SqAt w' q br bu bv A (sq0 rows C) ∧ (∀ b, A b → hs w ≤ b ∧ b < hs w') ∧ hs w ≤ q ∧ hs w ≤ br ∧ hs w ≤ bu ∧ hs w ≤ bv ∧ Grow w w' := by
  refine nf53 o rows.length c C w _ fun w1 e1 => ?_
  have l1 := hs_alloc e1
  have r1 := Row.new e1
  have hwS : IntKind.wrap .i64 (((rows.length : Nat) : Int) + (C : Int)) = ((rows.length + C : Nat) : Int) := by rw [wr (by omega)]; omega
  rw [hwS] at r1
  refine ⟨_, r1.cell rfl, fun k x w' => ∃ t oc cc gs, x = ((t : Nat) : Int) ∧ t ≤ rows.length + C ∧ k = rows.length + C - t ∧ Part w w' (hs w) (hs w1) rows C oc cc t gs [.slice none 0 0, .slice none 0 0, .slice none 0 0], ?_, ?_⟩
  · exact ⟨_, 0, none, 0, [], rfl, Nat.zero_le _, rfl, r1, own_nil _ _ _ _, rfl, fun i g hi => by simp at hi, only_alloc e1⟩
  rintro k _ w2 x ⟨t, oc, cc, gs, rfl, ht, rfl, hp⟩
  have l2 := hp.g.size
  have hq2 := hp.hq.lt
  refine ⟨fun hlt => ?_, fun hge => ?_⟩
  · have hlt : t < rows.length + C := by have := dT hlt; omega
    refine ⟨_, hp.hq.cell rfl, make_zeros elem32 zero2 (by omega) fun w3 r3 g3 l3 => ⟨_, _, _, rfl, fun k18 hk => ?_⟩⟩
    have hp3 : ∀ w', Only (fun b => b = hs w2) w2 w' → Part w w' (hs w) (hs w1) rows C oc cc t gs [.slice none 0 0, .slice none 0 0, .slice none 0 0] := fun w' g =>
      ⟨hp.hq.keep g (by omega), hp.own.keep g fun b hb hbe => by have := (hp.own.base b hb).2; omega, hp.len, fun i g' hi => by
        have := hp.row i g' hi
        exact ⟨this.1.keep g (by have := this.1.lt; omega), this.2⟩, hp.g.trans g fun i hi hj => by omega⟩
    have key : ∀ w', Row w' (hs w2) 2 (intsV (sqRow rows C t)) → Only (fun b => b = hs w2) w2 w' → k18 w' := fun w4 r4 g4 => hk w4 fun _ => by
      have hp4 := hp3 w4 g4
      have := g4.size
      refine ⟨_, _, _, hp4.hq.cell rfl, ?_⟩
      refine newSquare_rows (hs w) (hs w1) rows C oc cc t gs w w4 (hs w2) hp4 (Nat.le_refl _) (by omega) (by omega) (by omega) r4 (by omega) hlt (by omega) _ fun o' c' w' hp' => ⟨_, by omega, t + 1, o', c', gs ++ [hs w2], by rw [wr (by omega)]; omega, hlt, rfl, hp'⟩
    refine ⟨fun hin => ?_, fun hout => ?_⟩
    · have hin : t < rows.length := by have := dT hin; omega
      have hlen : rows[t].length = C := hrow _ (List.getElem_mem hin)
      refine ⟨fun k x w' => ∃ u : Nat, x = ((C + u : Nat) : Int) ∧ u ≤ rows.length ∧ k = rows.length - u ∧ Row w' (hs w2) 2 (intsV (List.replicate C 0 ++ List.replicate u 4611686018427387904 ++ List.replicate (rows.length - u) 0)) ∧ Only (fun b => b = hs w2) w2 w', ⟨_, 0, rfl, Nat.zero_le _, rfl, ?_, g3.only⟩, ?_⟩
      · rw [List.replicate_zero, List.append_nil, Nat.sub_zero, List.replicate_append_replicate, Nat.add_comm C]; exact r3
      rintro k _ w4 x ⟨u, rfl, hu, rfl, r4, g4⟩
      refine ⟨_, (hp3 w4 g4).hq.cell rfl, fun hlt' => ?_, fun hge => ?_⟩
      · have hlt' : u < rows.length := by have := dT hlt'; omega
        have hll : (List.replicate C (0 : Int) ++ List.replicate u 4611686018427387904 ++ List.replicate (rows.length - u) 0).length = rows.length + C := by simp; omega
        refine ⟨_, rfl, ⟨by omega, by omega⟩, r4.thereAdd (by rw [intsV_len, hll, toNat_cast]; simp; omega), fun w5 e5 => ⟨_, by omega, u + 1, by rw [wr (by omega)]; omega, hlt', rfl, ?_, g4.trans' (only_setAdd e5)⟩⟩
        have r5 := r4.setAdd e5
        rw [intsV_set _ _ _ (by rw [hll]; omega), show rows.length - u = (rows.length - (u + 1)) + 1 by omega, set_mid _ _ _ _ _ (by simp)] at r5
        rw [List.replicate_succ', ← List.append_assoc (List.replicate C 0)]
        exact r5
      · have hge := dF hge
        obtain rfl : u = rows.length := by omega
        obtain ⟨a, oi, ci, ha, hc, hn⟩ := h.get hin
        have gw : Grow w w4 := hp.g.trans g4 fun i hi hj => by omega
        rw [Nat.sub_self, List.replicate_zero, List.append_nil] at r4
        obtain ⟨a, oi, ci, ha, hc, hn⟩ := (h.grow gw).get hin
        refine ⟨a, ha, ⟨by omega, by omega⟩, _, _, _, hc, copy_nums und32 size2 r4 (by rw [intsV_len]; simp; omega) (by omega) hn fun w5 r5 g5 => ⟨_, rfl, _, rfl, ⟨by rw [wr (by omega)]; omega, by rw [wr (by omega)]; omega⟩, ?_⟩⟩
        have hw' : IntKind.wrap .i64 ((C : Int) + (t : Int)) = ((C + t : Nat) : Int) := by rw [wr (by omega)]; omega
        have ed : (intsV (List.replicate C 0 ++ List.replicate rows.length 4611686018427387904)).drop rows[t].length = intsV (List.replicate rows.length 4611686018427387904) := by
          unfold intsV; rw [hlen, List.map_append, List.drop_append]; simp
        rw [ed, show intsV rows[t] ++ intsV (List.replicate rows.length 4611686018427387904) = intsV (rows[t] ++ List.replicate rows.length 4611686018427387904) by simp [intsV]] at r5
        rw [hw']
        refine ⟨r5.thereAdd (by rw [intsV_len, toNat_cast]; simp; omega), fun w6 e6 => key w6 ?_ ((g4.trans' g5).trans' (only_setAdd e6))⟩
        have r6 := r5.setAdd e6
        rw [intsV_set _ _ _ (by simp; omega), List.set_append_right _ _ (by omega), hlen, show C + t - C = t by omega] at r6
        unfold sqRow; rw [if_pos hin, List.getElem?_eq_getElem hin]
        exact r6
    · have hout : ¬ t < rows.length := by have := dF hout; omega
      refine key w3 ?_ g3.only
      unfold sqRow; rw [if_neg hout]; exact r3
  · have hge := dF hge
    obtain rfl : t = rows.length + C := by omega
    refine ⟨_, hp.hq.cell rfl, make_zeros elem32 zero2 (by omega) fun w3 ru g3 l3 => ⟨_, _, _, rfl, (hp.hq.grow g3).there (by simp), fun w4 e4 => ?_⟩⟩
    have rq4 := (hp.hq.grow g3).set e4
    have g4 : Only (fun b => b = hs w) w3 w4 := only_set e4
    have l4 := g4.size
    refine ⟨_, rq4.cell rfl, make_zeros elem32 zero2 (by omega) fun w5 rv g5 l5 => ⟨_, _, _, rfl, (rq4.grow g5).there (by simp [setFrom]), fun w6 e6 => ?_⟩⟩
    have rq6 := (rq4.grow g5).set e6
    have g6 : Only (fun b => b = hs w) w5 w6 := only_set e6
    have l6 := g6.size
    refine ⟨_, rq6.cell rfl, make_zeros elem31 zero3 (by omega) fun w7 rr g7 l7 => ⟨_, _, _, rfl, (rq6.grow g7).there (by simp [setFrom]), fun w8 e8 => ?_⟩⟩
    have rq8 := (rq6.grow g7).set e8
    have g8 : Only (fun b => b = hs w) w7 w8 := only_set e8
    have ru8 := ((((ru.keep g4 (by omega)).grow g5).keep g6 (by omega)).grow g7).keep g8 (by omega)
    have rv8 := ((rv.keep g6 (by omega)).grow g7).keep g8 (by omega)
    have rr8 := rr.keep g8 (by omega)
    have F : Only (fun b => b = hs w) w2 w8 := ((((g3.only.trans' g4).trans' g5.only).trans' g6).trans' g7.only).trans' g8
    have l8 := g8.size
    refine ⟨_, _, _, rq8.cell rfl, fun k x w' => ∃ j : Nat, x = (j : Int) ∧ j ≤ rows.length + C ∧ k = rows.length + C - j ∧ Row w' (hs w6) 3 (intsV (List.replicate j (-1) ++ List.replicate (rows.length + C - j) 0)) ∧ Only (fun b => b = hs w6) w8 w', ⟨_, 0, rfl, Nat.zero_le _, rfl, rr8, Only.refl _ _⟩, ?_⟩
    rintro k _ w9 x ⟨j, rfl, hj, rfl, r9, g9⟩
    have rq9 := rq8.keep g9 (by omega)
    refine ⟨fun hlt => ?_, fun hge => ?_⟩
    · have hlt : j < rows.length + C := by have := dT hlt; omega
      refine ⟨_, _, _, rq9.cell rfl, _, rfl, ⟨by omega, by omega⟩, r9.thereAdd (by rw [intsV_len, toNat_cast]; simp; omega), fun w10 e10 => ⟨_, by omega, j + 1, by rw [wr (by omega)]; omega, hlt, rfl, ?_, g9.trans' (only_setAdd e10)⟩⟩
      have r10 := r9.setAdd e10
      rw [intsV_set _ _ _ (by simp; omega), show rows.length + C - j = (rows.length + C - (j + 1)) + 1 by omega, set_mid _ _ _ _ _ (by simp)] at r10
      rw [List.replicate_succ']
      exact r10
    · have hge := dF hge
      obtain rfl : j = rows.length + C := by omega
      have l9 := g9.size
      have F9 : Only (fun b => b = hs w ∨ b = hs w6) w2 w9 := (F.mono fun i _ h => .inl h).trans g9 fun i _ h => .inr h
      rw [Nat.sub_self, List.replicate_zero, List.append_nil] at r9
      refine ⟨hs w, hs w6, hs w2, hs w4, fun b => hs w1 ≤ b ∧ b < hs w2, rfl, ⟨⟨oc, cc, rq9, ?_⟩, r9, ru8.keep g9 (by omega), rv8.keep g9 (by omega), ⟨by omega, by omega, by omega, by omega, by omega, by omega⟩, ⟨by omega, by omega, by omega, by omega⟩, ⟨by simp [sq0], ?_, by simp [sq0], by simp [sq0], by simp [sq0]⟩, by simp [sq0]; omega⟩, fun b hb => ⟨by omega, by omega⟩, Nat.le_refl _, by omega, by omega, by omega, hp.g.trans F9 fun i hi hj => by omega⟩
      · intro i row hi
        simp only [sq0, List.getElem?_map, Option.map_eq_some_iff] at hi
        obtain ⟨i', hi', rfl⟩ := hi
        have hlt : i < rows.length + C := by
          rcases Nat.lt_or_ge i (rows.length + C) with h | h
          · exact h
          · rw [List.getElem?_eq_none (by simpa using h)] at hi'; cases hi'
        rw [List.getElem?_range hlt] at hi'
        cases hi'
        have hgl : i < gs.length := by rw [hp.len]; exact hlt
        obtain ⟨hr, hgq⟩ := hp.row i gs[i] (List.getElem?_eq_getElem hgl)
        obtain ⟨gg, _, rfl, -⟩ := hp.own.head (by omega)
        have hb := hp.own.base gg ⟨_, rfl, rfl⟩
        have own9 := hp.own.keep F9 fun b hb hbe => by have := hp.own.base b hb; omega
        have hc := own9.cell (j := (i : Int).toNat * 1) (v := sv (rows.length + C) gs[i]) (by rw [toNat_cast, Nat.mul_one]; simp [hgl])
        have hsl : (sqRow rows C i).length = rows.length + C := by
          unfold sqRow
          split
          · rename_i hin
            rw [List.getElem?_eq_getElem hin]
            have := hrow _ (List.getElem_mem hin)
            simp; omega
          · simp
        refine ⟨_, some ⟨gs[i], 0, none⟩, rows.length + C, rfl, hb, by rw [hsl]; exact hc, (hr.keep F9 (by have := hr.lt; omega)).nums ⟨by omega, hr.lt⟩⟩
      · intro r hr
        simp only [sq0, List.mem_map, List.mem_range] at hr
        obtain ⟨i, hi, rfl⟩ := hr
        unfold sqRow
        split
        · rename_i hin
          rw [List.getElem?_eq_getElem hin]
          have := hrow _ (List.getElem_mem hin)
          simp [sq0]; omega
        · simp [sq0]

def shiftF : List Int → Int → List Nat → List Int
  | R, _, [] => R
  | R, row, c :: cs => shiftF (R.set c row) ((R[c]?).getD 0) cs
def Chain (t : List Int) : Int → List Nat → Prop
  | c, [] => c < 0
  | c, k :: ks => c = (k : Int) ∧ k < t.length ∧ Chain t ((t[k]?).getD 0) ks
theorem SqAt.setR {w w' : World} {q br bu bv : Nat} {A : Nat → Prop} {Q : Sq} {j : Nat} {x : Int} (h : SqAt w q br bu bv A Q) (hj : j < Q.size) (e : w' = setCells w ((⟨br, 0, none⟩ : Addr).add ((j : Int).toNat * 1)) [.int .i64 x] 0) :
    SqAt w' q br bu bv A { Q with rowOf := Q.rowOf.set j x } := by
  have g := only_setAdd e
  obtain ⟨oc, cc, k1, k2⟩ := h.hq
  obtain ⟨n1, n2, n3, n4, n5, n6⟩ := h.ne
  obtain ⟨a1, a2, a3, a4⟩ := h.hA
  obtain ⟨l1, l2, l3, l4, l5⟩ := h.len
  have hr := h.hr.setAdd e
  rw [intsV_set _ _ _ (by omega)] at hr
  exact ⟨⟨oc, cc, k1.keep g n1, k2.keep g fun b hb hbe => a2 (hbe ▸ hb)⟩, hr, h.hu.keep g (fun hh => n4 hh.symm), h.hv.keep g (fun hh => n5 hh.symm), h.ne, h.hA, ⟨l1, l2, by simpa using l3, l4, l5⟩, h.small⟩

theorem shift_c (q br bu bv : Nat) (A A' : Nat → Prop) (Q : Sq) (row column : Int) (o : Option Addr) (c : Nat) (toward : List Int) (cs : List Nat) (w : World) (h : SqAt w q br bu bv A Q) (ht : Nums w A' o toward) (hA' : ¬ A' br) (hlen : toward.length = Q.size) (hch : Chain toward column cs) :
    Calls Try.prog 74 #[.pointer (some ⟨q, 0, none⟩), .int .i64 row, .int .i64 column, .slice o toward.length c] w fun e w' =>
      e = .returned (.tuple #[]) ∧ SqAt w' q br bu bv A { Q with rowOf := shiftF Q.rowOf row cs } ∧ Only (fun b => b = br) w w' := by
  refine nf74 q row column o toward.length c w _ ⟨fun k x y w' => ∃ ks R, Chain toward y ks ∧ k = ks.length ∧ SqAt w' q br bu bv A { Q with rowOf := R } ∧ shiftF R x ks = shiftF Q.rowOf row cs ∧ Only (fun b => b = br) w w', ⟨_, cs, Q.rowOf, hch, rfl, h, rfl, Only.refl _ _⟩, ?_⟩
  rintro k _ w1 x y ⟨ks, R, hc, rfl, h1, hI, g⟩
  refine ⟨fun hge w2 e2 => ?_, fun hlt => ?_⟩
  · have hge := dT hge
    cases ks with
    | nil => simp only [Chain] at hc; omega
    | cons k ks =>
      obtain ⟨rfl, hk, hc⟩ := hc
      have g2 : Only (fun b => b = br) w w2 := g.trans' (only_drew e2)
      have h2 := h1.grow (only_drew e2)
      obtain ⟨oc, cc, hq, hm⟩ := h2.hq
      obtain ⟨l1, l2, l3, l4, l5⟩ := h2.len
      simp only at l3 hq
      have cr := h2.hr.cellAdd (intsV_get (xs := R) (j := k) (by omega))
      refine ⟨_, _, _, hq.cell rfl, _, _, _, hq.cell rfl, _, rfl, ⟨by omega, by omega⟩, _, cr, _, rfl, ⟨by omega, by omega⟩, h2.hr.thereAdd (by rw [intsV_len, toNat_cast]; simp only; omega), fun w3 e3 => ?_⟩
      have h3 := h2.setR (j := k) (x := x) (by simp only; omega) e3
      have g3 := g2.trans' (only_setAdd e3)
      obtain ⟨a, ha, hct⟩ := (ht.keep g3 fun b hb hbe => hA' (hbe ▸ hb)).get hk
      refine ⟨a, ha, ⟨by omega, by omega⟩, _, hct, _, by simp, ks, R.set k x, ?_, rfl, h3, ?_, g3⟩
      · rw [List.getElem?_eq_getElem hk] at hc; exact hc
      · rw [← hI]; simp only [shiftF]
        rw [List.getElem?_eq_getElem (show k < R.length by omega)]; rfl
  · have hlt := dF hlt
    cases ks with
    | nil => simp only [shiftF] at hI; subst hI; exact ⟨rfl, h1, g⟩
    | cons k ks => obtain ⟨rfl, -, -⟩ := hc; omega
end Go.Proofs.Ytcaokpglbolkcaa
