/- Contracts: the reference's check of a matrix. -/
import Derived.Test.YtalplekmbhemnaaGb
namespace Go.Proofs.Ytalplekmbhemnaa
open Go Go.Nf

theorem isCost_of {c : Int} (h : 0 ≤ c ∧ c ≤ 1099511627776 ∨ c = 4611686018427387904) : isCost c = true := by
  unfold isCost; rw [Bool.or_eq_true, Bool.and_eq_true, decide_eq_true_eq, decide_eq_true_eq, decide_eq_true_eq]; exact h
theorem isCost_not {c : Int} (h : ¬ (0 ≤ c ∧ c ≤ 1099511627776 ∨ c = 4611686018427387904)) : isCost c = false := by
  cases hc : isCost c with
  | false => rfl
  | true =>
    exfalso; apply h
    unfold isCost at hc; rw [Bool.or_eq_true, Bool.and_eq_true, decide_eq_true_eq, decide_eq_true_eq, decide_eq_true_eq] at hc; exact hc

theorem right_c (o : Option Addr) (c : Nat) (rows : List (List Int)) (w : World) {A : Nat → Prop} (h : Mat w A o rows) :
    Calls Try.prog 11 #[.slice o rows.length c] w fun e w' => e = .returned (.int .i64 (errOf rows)) ∧ w = w' := by
  refine nf11 o rows.length c w _ ⟨fun hb => ⟨ret_int ?_, rfl⟩, fun hb => ?_⟩
  · rw [err_long (by have := dT hb; omega)]
  have h0 : ¬ rows.length > 64 := by have := dF hb; omega
  refine ⟨fun k x w' => ∃ j : Nat, x = (j : Int) ∧ j ≤ rows.length ∧ k = rows.length - j ∧ (rows.take j).all (fun r => decide (r.length ≤ 64)) = true ∧ w = w', ⟨_, 0, rfl, Nat.zero_le _, rfl, rfl, rfl⟩, ?_⟩
  rintro k _ _ x ⟨j, rfl, hj, rfl, hI, rfl⟩
  refine ⟨fun hlt => ?_, fun hge => ?_⟩
  · have hlt : j < rows.length := by have := dT hlt; omega
    obtain ⟨a, oi, ci, ha, hc, hn⟩ := h.get hlt
    refine ⟨a, ha, ⟨by omega, by omega⟩, _, _, _, hc, fun hb => ⟨ret_int ?_, rfl⟩, fun hb => ⟨_, by omega, j + 1, by rw [wr (by omega)]; omega, hlt, rfl, all_take_succ hlt hI (by have := dF hb; simp; omega), rfl⟩⟩
    rw [err_wide hlt (by have := dT hb; omega)]
  have := dF hge
  obtain rfl : j = rows.length := by omega
  rw [List.take_length] at hI
  refine ⟨fun k x w' => ∃ j : Nat, x = (j : Int) ∧ j ≤ rows.length ∧ k = rows.length - j ∧ (rows.take j).all (rowOk (first rows)) = true ∧ w = w', ⟨_, 0, rfl, Nat.zero_le _, rfl, rfl, rfl⟩, ?_⟩
  rintro k _ _ x ⟨j, rfl, hj, rfl, hI2, rfl⟩
  refine ⟨fun hlt => ?_, fun hge => ⟨ret_int ?_, rfl⟩⟩
  · have hlt : j < rows.length := by have := dT hlt; omega
    obtain ⟨a, oi, ci, ha, hc, hn⟩ := h.get hlt
    obtain ⟨a0, oi0, ci0, ha0, hc0, hn0⟩ := h.get0 (by omega)
    rw [← first_get (by omega)] at hc0
    have hwide : rows[j].length ≤ 64 := by
      have := List.all_eq_true.1 hI _ (List.getElem_mem hlt)
      simpa using this
    refine ⟨a, ha, ⟨by omega, by omega⟩, _, _, _, hc, a0, ha0, ⟨by omega, by omega⟩, _, _, _, hc0, fun hne => ⟨ret_int ?_, rfl⟩, fun heq => ?_⟩
    · have hne := nT hne
      rw [err_bad h0 hI hlt (by unfold rowOk; rw [decide_eq_false (by omega), Bool.false_and])]
    have heq : rows[j].length = first rows := by have := nF heq; omega
    refine ⟨fun k x w' => ∃ i : Nat, x = (i : Int) ∧ i ≤ rows[j].length ∧ k = rows[j].length - i ∧ (rows[j].take i).all isCost = true ∧ w = w', ⟨_, 0, rfl, Nat.zero_le _, rfl, rfl, rfl⟩, ?_⟩
    rintro k _ _ x ⟨i, rfl, hi, rfl, hI3, rfl⟩
    refine ⟨fun hlt' => ?_, fun hge => ?_⟩
    · have hlt' : i < rows[j].length := by have := dT hlt'; omega
      obtain ⟨a', ha', hc'⟩ := hn.get hlt'
      have good : isCost rows[j][i] = true → ∃ n50 : Nat, n50 < rows[j].length - i ∧ ∃ i' : Nat, IntKind.wrap .i64 ((i : Int) + 1) = (i' : Int) ∧ i' ≤ rows[j].length ∧ n50 = rows[j].length - i' ∧ (rows[j].take i').all isCost = true ∧ w = w := fun hy => ⟨_, by omega, i + 1, by rw [wr (by omega)]; omega, hlt', rfl, all_take_succ hlt' hI3 hy, rfl⟩
      have bad : isCost rows[j][i] = false → errOf rows = 1 := fun hn' => err_bad h0 hI hlt (by unfold rowOk; rw [all_false hlt' hn', Bool.and_false])
      refine ⟨a', ha', ⟨by omega, by omega⟩, _, hc', fun hneg => ⟨fun hi' => ⟨ret_int ?_, rfl⟩, fun hi' => good (isCost_of (.inr (nF hi')))⟩, fun hnn => ⟨fun hbig => ⟨fun hi' => ⟨ret_int ?_, rfl⟩, fun hi' => good (isCost_of (.inr (nF hi')))⟩, fun hsm => good (isCost_of (.inl ⟨by have := dF hnn; omega, by have := dF hsm; omega⟩))⟩⟩
      · rw [bad (isCost_not (by have := dT hneg; have := nT hi'; omega))]
      · rw [bad (isCost_not (by have := dT hbig; have := nT hi'; omega))]
    · have := dF hge
      obtain rfl : i = rows[j].length := by omega
      rw [List.take_length] at hI3
      exact ⟨_, by omega, j + 1, by rw [wr (by omega)]; omega, hlt, rfl, all_take_succ hlt hI2 (by unfold rowOk; rw [decide_eq_true heq, hI3]; rfl), rfl⟩
  · have := dF hge
    obtain rfl : j = rows.length := by omega
    rw [List.take_length] at hI2
    rw [err_ok h0 hI hI2]
end Go.Proofs.Ytalplekmbhemnaa
