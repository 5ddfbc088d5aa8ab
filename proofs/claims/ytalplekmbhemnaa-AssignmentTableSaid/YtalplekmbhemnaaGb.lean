/- Contracts: the check of a cost matrix, in the program and in the reference. -/
import Derived.Test.YtalplekmbhemnaaGa
namespace Go.Proofs.Ytalplekmbhemnaa
open Go Go.Nf

def rowOk (n : Nat) (r : List Int) : Bool := decide (r.length = n) && r.all isCost
def first (rows : List (List Int)) : Nat := (rows.headD []).length
/-- the error of a matrix -/
def errOf (rows : List (List Int)) : Int :=
  if 64 < rows.length then 3 else if rows.all (fun r => decide (r.length ≤ 64)) then (if rows.all (rowOk (first rows)) then 0 else 1) else 3
theorem first_get {rows : List (List Int)} (h : 0 < rows.length) : first rows = rows[0].length := by
  cases rows with
  | nil => simp at h
  | cons r rs => rfl
theorem all_take_succ {α : Type} {l : List α} {p : α → Bool} {j : Nat} (h : j < l.length) (h1 : (l.take j).all p = true) (h2 : p l[j] = true) : (l.take (j + 1)).all p = true := by
  rw [List.take_succ_eq_append_getElem h, List.all_append, h1, Bool.true_and]
  simp [h2]
theorem all_false {α : Type} {l : List α} {p : α → Bool} {j : Nat} (h : j < l.length) (h2 : p l[j] = false) : l.all p = false := by
  rw [List.all_eq_false]
  exact ⟨_, List.getElem_mem h, by rw [h2]; simp⟩
theorem err_long {rows : List (List Int)} (h : rows.length > 64) : errOf rows = 3 := by unfold errOf; rw [if_pos h]
theorem err_wide {rows : List (List Int)} {j : Nat} (h : j < rows.length) (h2 : rows[j].length > 64) : errOf rows = 3 := by
  unfold errOf
  rw [all_false (p := fun r => decide (r.length ≤ 64)) h (by simp; omega)]
  simp
theorem err_bad {rows : List (List Int)} {j : Nat} (h0 : ¬ rows.length > 64) (hw : rows.all (fun r => decide (r.length ≤ 64)) = true) (h : j < rows.length) (h2 : rowOk (first rows) rows[j] = false) : errOf rows = 1 := by
  unfold errOf
  rw [if_neg (by omega), if_pos hw, all_false h h2]
  simp
theorem err_ok {rows : List (List Int)} (h0 : ¬ rows.length > 64) (hw : rows.all (fun r => decide (r.length ≤ 64)) = true) (h : rows.all (rowOk (first rows)) = true) : errOf rows = 0 := by
  unfold errOf
  rw [if_neg (by omega), if_pos hw, if_pos h]

theorem check_c (o : Option Addr) (c : Nat) (rows : List (List Int)) (w : World) {A : Nat → Prop} (h : Mat w A o rows) :
    Calls Try.prog 18 #[.slice o rows.length c] w fun e w' => e = .returned (.tuple #[.int .i64 (if errOf rows = 0 then (first rows : Int) else 0), .int .i64 (errOf rows)]) ∧ w = w' := by
  refine nf18 o rows.length c w _ ⟨fun hb => ⟨?_, rfl⟩, fun hb => ?_⟩
  · rw [err_long (by have := dT hb; omega)]; rfl
  have h0 : ¬ rows.length > 64 := by have := dF hb; omega
  refine ⟨fun k x w' => ∃ j : Nat, x = (j : Int) ∧ j ≤ rows.length ∧ k = rows.length - j ∧ (rows.take j).all (fun r => decide (r.length ≤ 64)) = true ∧ w = w', ⟨_, 0, rfl, Nat.zero_le _, rfl, rfl, rfl⟩, ?_⟩
  rintro k _ _ x ⟨j, rfl, hj, rfl, hI, rfl⟩
  refine ⟨fun hlt => ?_, fun hge => ?_⟩
  · have hlt : j < rows.length := by have := dT hlt; omega
    obtain ⟨a, oi, ci, ha, hc, hn⟩ := h.get hlt
    refine ⟨a, ha, ⟨by omega, by omega⟩, _, _, _, hc, fun hb => ⟨?_, rfl⟩, fun hb => ⟨_, by omega, j + 1, by rw [wr (by omega)]; omega, hlt, rfl, all_take_succ hlt hI (by have := dF hb; simp; omega), rfl⟩⟩
    rw [err_wide hlt (by have := dT hb; omega)]; rfl
  have := dF hge
  obtain rfl : j = rows.length := by omega
  rw [List.take_length] at hI
  refine ⟨fun hz => ⟨?_, rfl⟩, fun hz => ?_⟩
  · have hz : rows = [] := List.length_eq_zero_iff.1 (by have := dT hz; omega)
    subst hz; rfl
  have hz := dF hz
  obtain ⟨a, oi, ci, ha, hc, hn⟩ := h.get0 (by omega)
  rw [← first_get (by omega)] at hc
  refine ⟨a, ha, ⟨by omega, by omega⟩, _, _, _, hc, fun k x w' => ∃ j : Nat, x = (j : Int) ∧ j ≤ rows.length ∧ k = rows.length - j ∧ (rows.take j).all (rowOk (first rows)) = true ∧ w = w', ⟨_, 0, rfl, Nat.zero_le _, rfl, rfl, rfl⟩, ?_⟩
  rintro k _ _ x ⟨j, rfl, hj, rfl, hI2, rfl⟩
  refine ⟨fun hlt => ?_, fun hge => ⟨?_, rfl⟩⟩
  · have hlt : j < rows.length := by have := dT hlt; omega
    obtain ⟨a, oi, ci, ha, hc, hn⟩ := h.get hlt
    have hwide : rows[j].length ≤ 64 := by
      have := List.all_eq_true.1 hI _ (List.getElem_mem hlt)
      simpa using this
    refine ⟨a, ha, ⟨by omega, by omega⟩, _, _, _, hc, fun hne => ⟨?_, rfl⟩, fun heq => ?_⟩
    · have hne := nT hne
      rw [err_bad h0 hI hlt (by unfold rowOk; rw [decide_eq_false (by omega), Bool.false_and])]; rfl
    have heq : rows[j].length = first rows := by have := nF heq; omega
    refine ⟨fun k x w' => ∃ i : Nat, x = (i : Int) ∧ i ≤ rows[j].length ∧ k = rows[j].length - i ∧ (rows[j].take i).all isCost = true ∧ w = w', ⟨_, 0, rfl, Nat.zero_le _, rfl, rfl, rfl⟩, ?_⟩
    rintro k _ _ x ⟨i, rfl, hi, rfl, hI3, rfl⟩
    refine ⟨fun hlt' => ?_, fun hge => ?_⟩
    · have hlt' : i < rows[j].length := by have := dT hlt'; omega
      obtain ⟨a', ha', hc'⟩ := hn.get hlt'
      refine ⟨a', ha', ⟨by omega, by omega⟩, _, hc', (isCost_c _ _).mono ?_⟩
      rintro _ _ ⟨rfl, rfl⟩
      refine ⟨_, rfl, fun hy => ⟨_, by omega, i + 1, by rw [wr (by omega)]; omega, hlt', rfl, all_take_succ hlt' hI3 hy, rfl⟩, fun hn' => ⟨?_, rfl⟩⟩
      rw [err_bad h0 hI hlt (by unfold rowOk; rw [all_false hlt' hn', Bool.and_false])]; rfl
    · have := dF hge
      obtain rfl : i = rows[j].length := by omega
      rw [List.take_length] at hI3
      exact ⟨_, by omega, j + 1, by rw [wr (by omega)]; omega, hlt, rfl, all_take_succ hlt hI2 (by unfold rowOk; rw [decide_eq_true heq, hI3]; rfl), rfl⟩
  · have := dF hge
    obtain rfl : j = rows.length := by omega
    rw [List.take_length] at hI2
    rw [err_ok h0 hI hI2]; rfl
end Go.Proofs.Ytalplekmbhemnaa
