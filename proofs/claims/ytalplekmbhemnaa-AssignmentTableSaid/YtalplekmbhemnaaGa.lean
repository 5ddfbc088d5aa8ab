/- Contracts of the small functions of the assignment chapter: what they compute, and that they write nothing. -/
import Derived.Test.YtalplekmbhemnaaNf2
import Derived.Test.YtalplekmbhemnaaNf1
import Derived.Test.YtalplekmbhemnaaNfY
import Derived.Test.YtalplekmbhemnaaNfX
namespace Go.Proofs.Ytalplekmbhemnaa
open Go Go.Nf

/-- no edge -/
abbrev Inf : Int := 4611686018427387904
def isCost (c : Int) : Bool := (decide (0 ≤ c) && decide (c ≤ 1099511627776)) || decide (c = 4611686018427387904)
theorem isCost_c (c : Int) (w : World) : Calls Try.prog 20 #[.int .i64 c] w fun e w' => e = .returned (.bool (isCost c)) ∧ w = w' := by
  refine nf20 c w _ ⟨fun a => ⟨fun b => ⟨ret_bool ?_, rfl⟩, fun b => ⟨fun d => ⟨ret_bool ?_, rfl⟩, fun d => ⟨ret_bool ?_, rfl⟩⟩⟩, fun a => ⟨fun d => ⟨ret_bool ?_, rfl⟩, fun d => ⟨ret_bool ?_, rfl⟩⟩⟩
  all_goals (simp [isCost, ge_iff_le] at *; try omega)

/-- the index of the first v, or -1 -/
def idxOf (v : Int) : List Int → Int → Int
  | [], _ => -1
  | x :: xs, i => if v = x then i else idxOf v xs (i + 1)
theorem index_c (o : Option Addr) (c : Nat) (xs : List Int) (v : Int) (w : World) {A : Nat → Prop} (h : Nums w A o xs) (hl : xs.length ≤ 1000) :
    Calls Try.prog 26 #[.slice o xs.length c, .int .i64 v] w fun e w' => e = .returned (.int .i64 (idxOf v xs 0)) ∧ w = w' := by
  refine nf26 o xs.length c v w _ ⟨fun k x w' => ∃ j : Nat, x = (j : Int) ∧ j ≤ xs.length ∧ k = xs.length - j ∧ idxOf v (xs.drop j) j = idxOf v xs 0 ∧ w = w', ⟨_, 0, rfl, Nat.zero_le _, rfl, by simp, rfl⟩, ?_⟩
  rintro k _ _ x ⟨j, rfl, hj, rfl, hI, rfl⟩
  refine ⟨fun hlt => ?_, fun hge => ?_⟩
  · have hlt : j < xs.length := by have := dT hlt; omega
    obtain ⟨a, ha, hc⟩ := h.get hlt
    rw [List.drop_eq_getElem_cons hlt, idxOf] at hI
    refine ⟨a, ha, ⟨by omega, by omega⟩, _, hc, fun he => ⟨ret_int ?_, rfl⟩, fun he => ⟨_, by omega, j + 1, by rw [wr (by omega)]; omega, hlt, rfl, ?_, rfl⟩⟩
    · rw [if_pos (dT he)] at hI; exact hI
    · rw [if_neg (dF he)] at hI; exact_mod_cast hI
  · have := dF hge
    obtain rfl : j = xs.length := by omega
    rw [List.drop_length] at hI
    exact ⟨ret_int hI, rfl⟩
theorem same_c (o o' : Option Addr) (c c' : Nat) (xs ys : List Int) (w : World) {A A' : Nat → Prop} (h : Nums w A o xs) (h' : Nums w A' o' ys) (hl : xs.length ≤ 1000) :
    Calls Try.prog 17 #[.slice o xs.length c, .slice o' ys.length c'] w fun e w' => e = .returned (.bool (decide (xs = ys))) ∧ Grow w w' := by
  refine nf17 o _ c o' _ c' w _ ⟨fun a => ⟨ret_bool ?_, Only.refl _ _⟩, fun a => ?_⟩
  · have := nT a; symm; rw [decide_eq_false_iff_not]; rintro rfl; exact this rfl
  have hll : xs.length = ys.length := by have := nF a; omega
  refine ⟨fun k x w' => ∃ j : Nat, x = (j : Int) ∧ j ≤ xs.length ∧ k = xs.length - j ∧ xs.take j = ys.take j ∧ Grow w w', ⟨_, 0, rfl, Nat.zero_le _, rfl, rfl, Only.refl _ _⟩, ?_⟩
  rintro k _ w1 x ⟨j, rfl, hj, rfl, hI, g⟩
  refine ⟨fun hlt w2 e2 => ?_, fun hge => ⟨ret_bool ?_, g⟩⟩
  · have hlt : j < xs.length := by have := dT hlt; omega
    have g2 : Grow w w2 := g.trans' (only_drew e2)
    obtain ⟨a, ha, hc⟩ := (h.grow g2).get hlt
    obtain ⟨a', ha', hc'⟩ := (h'.grow g2).get (j := j) (by omega)
    refine ⟨a, ha, ⟨by omega, by omega⟩, _, hc, a', ha', ⟨by omega, by omega⟩, _, hc', fun hne => ⟨ret_bool ?_, g2⟩, fun heq => ⟨_, by omega, j + 1, by rw [wr (by omega)]; omega, hlt, rfl, ?_, g2⟩⟩
    · have := nT hne
      symm; rw [decide_eq_false_iff_not]; rintro rfl; exact this rfl
    · rw [List.take_succ_eq_append_getElem hlt, List.take_succ_eq_append_getElem (by omega), hI, nF heq]
  · have := dF hge
    obtain rfl : j = xs.length := by omega
    symm; rw [decide_eq_true_eq]
    rw [List.take_of_length_le (Nat.le_refl _), List.take_of_length_le (by omega)] at hI
    exact hI

/-- few -/
theorem few_c (o : Option Addr) (c : Nat) (rows : List (List Int)) (most : Int) (w : World) {A : Nat → Prop} (h : Mat w A o rows) (hl : rows.length ≤ 9223372036854775807) :
    Calls Try.prog 9 #[.slice o rows.length c, .int .i64 most] w fun e w' => e = .returned (.bool (rows.all (fun r => decide (r.length ≤ 70)) && decide ((rows.length : Int) ≤ most))) ∧ w = w' := by
  refine nf9 o rows.length c most w _ ⟨fun k x w' => ∃ j : Nat, x = (j : Int) ∧ j ≤ rows.length ∧ k = rows.length - j ∧ (rows.take j).all (fun r => decide (r.length ≤ 70)) = true ∧ w = w', ⟨_, 0, rfl, Nat.zero_le _, rfl, rfl, rfl⟩, ?_⟩
  rintro k _ _ x ⟨j, rfl, hj, rfl, hI, rfl⟩
  refine ⟨fun hlt => ?_, fun hge => ?_⟩
  · have hlt : j < rows.length := by have := dT hlt; omega
    obtain ⟨a, oi, ci, ha, hc, hn⟩ := h.get hlt
    refine ⟨a, ha, ⟨by omega, by omega⟩, _, _, _, hc, fun hb => ⟨ret_bool ?_, rfl⟩, fun hb => ⟨_, by omega, j + 1, by rw [wr (by omega)]; omega, hlt, rfl, ?_, rfl⟩⟩
    · have hb := dT hb
      have : rows.all (fun r => decide (r.length ≤ 70)) = false := by
        rw [List.all_eq_false]
        exact ⟨_, List.getElem_mem hlt, by simp; omega⟩
      rw [this, Bool.false_and]
    · have hb := dF hb
      rw [List.take_succ_eq_append_getElem hlt, List.all_append, hI, Bool.true_and]
      simp; omega
  · have := dF hge
    obtain rfl : j = rows.length := by omega
    rw [List.take_length] at hI
    rw [hI, Bool.true_and]
    exact ⟨fun hm => ⟨ret_bool hm.symm, rfl⟩, fun hm => ⟨ret_bool hm.symm, rfl⟩⟩
end Go.Proofs.Ytalplekmbhemnaa
