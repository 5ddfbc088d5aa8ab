/- The law AssignmentPermutation: it returns true and writes nothing old. -/
import Derived.Test.YtalplekmbhemnaaPi
import Derived.Test.YtalplekmbhemnaaNfU
namespace Go.Proofs.Ytalplekmbhemnaa
open Go Go.Nf

theorem few_lt' {rows : List (List Int)} {k : Int} (h : (rows.all (fun r => decide (r.length ≤ 70)) && decide ((rows.length : Int) ≤ k)) = true) : (rows.length : Int) ≤ k := by
  rw [Bool.and_eq_true] at h; exact dT h.2
theorem Solve_of {o : Option Addr} {c : Nat} {rows : List (List Int)} {w : World} {A0 : Nat → Prop} (h : Mat w A0 o rows) (he : errOf rows = 0) :
    Calls Try.prog 10 #[.slice o rows.length c] w fun e w' => Grow w w' ∧ ∃ b m, e = .returned (.tuple #[.slice (some ⟨b, 0, none⟩) rows.length rows.length, .int .i64 (tot rows m rows.length), .int .i64 0]) ∧ Row w' b 3 (intsV m) ∧ hs w ≤ b ∧ Best rows (first rows) m :=
  (Solve_c o c rows w h).mono fun e w' ⟨g, h⟩ => ⟨g, by
    rcases h with ⟨h, -⟩ | ⟨-, h⟩
    · exact absurd he h
    · exact h⟩
theorem Cost_of {o : Option Addr} {c b : Nat} {rows : List (List Int)} {m : List Int} {w : World} {A0 : Nat → Prop} (h : Mat w A0 o rows) (he : errOf rows = 0) (hm : Row w b 3 (intsV m)) (hv : Valid rows (first rows) m) :
    Calls Try.prog 12 #[.slice o rows.length c, .slice (some ⟨b, 0, none⟩) rows.length rows.length] w fun e w' => e = .returned (.tuple #[.int .i64 (cnt m rows.length), .int .i64 (tot rows m rows.length), .int .i64 0]) ∧ w = w' := by
  have := cost_c o (some ⟨b, 0, none⟩) c rows.length rows m w (A' := fun _ => True) h (hm.nums trivial)
  obtain ⟨k1, k2, k3⟩ := hv.costs he
  rw [k1, k2, k3, hv.len] at this
  exact this
theorem take_one {α : Type} {l : List α} {i : Nat} {x : α} (h : l[i]? = some x) : l.take (i + 1) = l.take i ++ [x] := by
  rw [List.take_add_one, h]; rfl

set_option maxRecDepth 10000 in
set_option maxHeartbeats 4000000 in
theorem turn_law (o : Option Addr) (c : Nat) (rows : List (List Int)) (w : World) {A0 : Nat → Prop} (h : Mat w A0 o rows) (hlong : rows.length ≤ 9223372036854775807) :
    Calls Try.prog 4 #[.slice o rows.length c] w (Tru w) := by
  refine nf4 o rows.length c w _ ((alive_c w).mono ?_)
  rintro _ w1 ⟨rfl, g1⟩
  refine ⟨_, rfl, bT ((few_c o c rows 30 w1 (h.grow g1) hlong).mono ?_)⟩
  rintro _ _ ⟨rfl, rfl⟩
  refine ⟨_, rfl, fun hf => ?_, fun _ => ⟨rfl, g1⟩⟩
  have hlen := few_lt' hf
  refine (right_c o c rows w1 (h.grow g1)).mono ?_
  rintro _ _ ⟨rfl, rfl⟩
  refine ⟨_, rfl, fun _ => ⟨rfl, g1⟩, fun he => ?_⟩
  have he := nF he
  obtain ⟨_, hC, hr⟩ := err0 he
  have hrow : ∀ r ∈ rows, r.length = first rows := fun r hr' => (hr r hr').1
  obtain ⟨he', hfirst⟩ := turn_err he
  have hcl := first_le he
  refine ⟨fun n o m c x w' => ∃ i : Nat, x = (i : Int) ∧ i ≤ rows.length ∧ n = rows.length - i ∧ Built w' (hs w1) 32 2 o m c ((turn rows).take i) ∧ Grow w1 w', ⟨_, 0, rfl, Nat.zero_le _, rfl, Built.nil _ _ _ _, Only.refl _ _⟩, ?_⟩
  rintro n _ w2 o2 m2 c2 x ⟨i, rfl, hi, rfl, hB, g2⟩
  have hm2 := hB.len
  rw [List.length_take, turn_len] at hm2
  refine ⟨fun hlt => ?_, fun hge => ?_⟩
  · have hlt : i < rows.length := by have := dT hlt; omega
    have e1 : IntKind.wrap .i64 (IntKind.wrap .i64 (((rows.length : Nat) : Int) - 1) - (i : Int)) = ((rows.length - 1 - i : Nat) : Int) := by rw [wr (x := ((rows.length : Nat) : Int) - 1) (by omega), wr (by omega)]; omega
    rw [e1]
    obtain ⟨a, oi, ci, ha, hc, hn⟩ := ((h.grow g1).grow g2).get (j := rows.length - 1 - i) (by omega)
    have hll : (rows[rows.length - 1 - i]'(by omega)).length = first rows := hrow _ (List.getElem_mem _)
    have htg := turn_get hlt
    generalize (rows[rows.length - 1 - i]'(by omega)) = l at *
    refine ⟨a, ha, ⟨by omega, by omega⟩, _, _, _, hc, fun n o m c x w' => ∃ k : Nat, x = (k : Int) ∧ k ≤ l.length ∧ n = l.length - k ∧ Own w' (hs w2) 2 1 o m c (intsV (l.reverse.take k)) ∧ Grow w2 w', ⟨_, 0, rfl, Nat.zero_le _, rfl, own_nil _ _ _ _, Only.refl _ _⟩, ?_⟩
    rintro n _ w3 o3 m3 c3 x ⟨k, rfl, hk, rfl, hO, g3⟩
    have hm3 := hO.length
    simp only [intsV, List.length_map, List.length_take, List.length_reverse] at hm3
    refine ⟨fun hlt2 => ?_, fun hge2 => ?_⟩
    · have hlt2 : k < l.length := by have := dT hlt2; omega
      have e2 : IntKind.wrap .i64 (IntKind.wrap .i64 (((l.length : Nat) : Int) - 1) - (k : Int)) = ((l.length - 1 - k : Nat) : Int) := by rw [wr (x := ((l.length : Nat) : Int) - 1) (by omega), wr (by omega)]; omega
      rw [e2]
      obtain ⟨a', ha', hc'⟩ := (hn.grow g3).get (j := l.length - 1 - k) (by omega)
      have hs3 := g3.size
      refine ⟨a', ha', ⟨by omega, by omega⟩, _, hc', fun w4 e4 => ?_⟩
      refine run_append_row elem32 (hO.grow (only_alloc e4)) (Row.new e4) rfl (by simp [Value.oneCell']) (by unfold maxLen; omega) (by omega) (by have := hs_alloc e4; omega) fun o' c' w5 h5 g5 _ => ⟨_, _, _, rfl, _, ?_, k + 1, by rw [wr (by omega)]; omega, hlt2, rfl, ?_, ?_⟩
      · omega
      · have : l.reverse[k]? = some (l[l.length - 1 - k]'(by omega)) := by rw [List.getElem?_reverse (by omega), List.getElem?_eq_getElem (by omega)]
        rw [take_one this, intsV, List.map_append]
        exact h5
      · exact (g3.trans' (only_alloc e4)).trans g5 fun b hb hin => by have := (hO.base b hin).1; omega
    · have hge2 := dF hge2
      obtain rfl : k = l.length := by omega
      intro w4 e4
      rw [List.take_of_length_le (by simp)] at hO
      have hB4 := (hB.grow g3).grow (only_alloc e4)
      have hs3 := g3.size
      have hs2 := g2.size
      have hO4 : Own w4 (hs w1) 2 1 o3 l.reverse.length c3 (intsV l.reverse) := by
        have := (hO.grow (only_alloc e4)).mono hs2
        have e : m3 = l.reverse.length := by simp; omega
        rw [e] at this; exact this
      have e3 : m3 = l.reverse.length := by simp; omega
      have r4 := Row.new e4
      rw [e3] at r4
      refine Built.push elem22 hB4 hO4 r4 (by decide) (by unfold maxLen; omega) (by omega) (by have := hs_alloc e4; omega) fun o' c' w5 h5 g5 => ⟨_, _, _, rfl, _, ?_, i + 1, by rw [wr (by omega)]; omega, hlt, rfl, ?_, ?_⟩
      · omega
      · rw [take_one htg]; exact h5
      · refine ((g2.trans' g3).trans' (only_alloc e4)).trans g5 fun b hb hin => ?_
        obtain ⟨svs, k1, -⟩ := hB
        have := (k1.base b hin).1; omega
  · have hge := dF hge
    obtain rfl : i = rows.length := by omega
    rw [List.take_of_length_le (by rw [turn_len]; exact Nat.le_refl _)] at hB
    have hm : m2 = (turn rows).length := by rw [turn_len]; omega
    subst hm
    refine (Solve_of ((h.grow g1).grow g2) he).mono ?_
    rintro _ w3 ⟨g3, b, m, rfl, r3, hb, best⟩
    refine ⟨_, _, _, _, _, rfl, (Solve_of (hB.grow g3).mat he').mono ?_⟩
    rintro _ w4 ⟨g4, b', m', rfl, r4, hb', best'⟩
    rw [hfirst] at best'
    obtain ⟨tc, tt⟩ := best.turned best' hrow
    rw [turn_len, tt]
    refine ⟨_, _, _, _, _, rfl, nno rfl (nno rfl (nno rfl ((Cost_of ((((h.grow g1).grow g2).grow g3).grow g4) he (r3.grow g4) best.valid).mono ?_)))⟩
    rintro _ _ ⟨rfl, rfl⟩
    refine ⟨_, _, _, rfl, ?_⟩
    have cc := Cost_of (c := c2) ((hB.grow g3).grow g4).mat he' r4 (by rw [hfirst]; exact best'.valid)
    rw [turn_len] at cc
    refine cc.mono ?_
    rintro _ _ ⟨rfl, rfl⟩
    exact ⟨_, _, _, rfl, yes rfl (yes rfl (yes tc.symm ⟨rfl, ((g1.trans' g2).trans' g3).trans' g4⟩))⟩
end Go.Proofs.Ytalplekmbhemnaa
