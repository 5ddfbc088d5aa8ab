/- Contracts: the matrix of successors, its clone and what is reachable in it. -/
import Derived.Test.YtbaacpfjecbbgaaHf
namespace Go.Proofs.Ytbaacpfjecbbgaa
open Go Go.Nf

theorem elem91 : Elem Try.prog 91 48 1 24 := elem_of (by kernel_rfl)
theorem elem99 : Elem Try.prog 99 4 1 1 := elem_of (by kernel_rfl)
theorem zero48 : zeroL Try.prog 48 = some [.slice none 0 0] := by kernel_rfl
theorem zero4 : zeroL Try.prog 4 = some [.bool false] := by kernel_rfl
theorem zero3 : zeroL Try.prog 3 = some [.int .i64 0] := by kernel_rfl
def boolsV (xs : List Bool) : List Value := xs.map fun x => .bool x
theorem boolsV_len (xs : List Bool) : (boolsV xs).length = xs.length := by simp [boolsV]
theorem flat_one {α : Type} (n : Nat) (v : α) : (List.replicate n [v]).flatten = List.replicate n v := by
  induction n with
  | zero => rfl
  | succ n ih => rw [List.replicate_succ, List.flatten_cons, ih, List.replicate_succ]; rfl
theorem rep_bools (n : Nat) : (List.replicate n [Value.bool false]).flatten = boolsV (List.replicate n false) := by rw [flat_one]; simp [boolsV]
theorem boolsV_set (xs : List Bool) (j : Nat) (x : Bool) : setFrom (boolsV xs) ((j : Int).toNat * 1) [.bool x] = boolsV (xs.set j x) := by
  rw [toNat_cast, Nat.mul_one]
  simp [setFrom, boolsV, List.map_set]
theorem boolsV_get {xs : List Bool} {j : Nat} (h : j < xs.length) : (boolsV xs)[(j : Int).toNat * 1]? = some (.bool (gB xs j)) := by
  rw [toNat_cast, Nat.mul_one]
  simp [boolsV, gB, h]
theorem make_bools {w : World} {n : Nat} {K : Value → World → Prop} (hn : n ≤ 200)
    (h : ∀ w', Row w' (hs w) 4 (boolsV (List.replicate n false)) → Grow w w' → hs w' = hs w + 1 → K (.slice (some ⟨hs w, 0, none⟩) n n) w') : RunOk Try.prog (Hold (Instr.makeSlice 99 (.int .i64 (n : Int)) (.int .i64 (n : Int)))) w K :=
  run_make_row elem99 zero4 (by omega) (Int.le_refl _) (by omega) (by omega) fun w1 e1 => by
    rw [toNat_cast] at e1 ⊢
    rw [rep_bools] at e1
    exact h w1 (Row.new e1) (only_alloc e1) (hs_alloc e1)
theorem make_rows {w : World} {n : Nat} {K : Value → World → Prop} (hn : n ≤ 200)
    (h : ∀ w', Row w' (hs w) 48 (List.replicate n (.slice none 0 0)) → Grow w w' → hs w' = hs w + 1 → K (.slice (some ⟨hs w, 0, none⟩) n n) w') : RunOk Try.prog (Hold (Instr.makeSlice 91 (.int .i64 (n : Int)) (.int .i64 (n : Int)))) w K :=
  run_make_row elem91 zero48 (by omega) (Int.le_refl _) (by omega) (by omega) fun w1 e1 => by
    rw [toNat_cast] at e1 ⊢
    rw [flat_one] at e1
    exact h w1 (Row.new e1) (only_alloc e1) (hs_alloc e1)

/-! ### the graph -/
/-- every successor is a question -/
def Inside (qs : List Qst) : Prop := ∀ q y, Sx qs q y → y < qs.length
/-- what 'followers' returns -/
structure IsRows (qs : List Qst) (rows : List (List Int)) : Prop where
  len : rows.length = qs.length
  mem : ∀ (i : Nat) r, rows[i]? = some r → r.length ≤ 20 ∧ ∀ y, y ∈ r ↔ Sx qs i y
theorem followers_c (o : Option Addr) (c : Nat) (p : Prot) (hn : p.qs.length ≤ 100) (hL : ∀ s, s ∈ p.qs → s.ans.length ≤ 20) (w : World) {A : Nat → Prop} (h : Qs w A o p.qs) :
    Calls Try.prog 94 #[.agg #[.string p.name, .int .i64 p.version, .slice o p.qs.length c]] w fun e w' => ∃ o' c' rows, e = .returned (.slice o' p.qs.length c') ∧ IsRows p.qs rows ∧ Mat w' (fun b => hs w ≤ b ∧ b < hs w') o' rows ∧ Grow w w' := by
  refine nf94 p.name p.version o p.qs.length c w _ fun w1 e1 => ?_
  have r := Row.new e1
  have g : Grow w w1 := only_alloc e1
  refine ⟨_, _, _, r.cell rfl, make_rows (by omega) fun w2 r2 g2 hs2 => ⟨_, _, _, rfl, _, _, _, (r.grow g2).cell rfl, fun k x w' => ∃ (j : Nat) (svs : List Value) (rows : List (List Int)), x = (j : Int) ∧ j ≤ p.qs.length ∧ k = p.qs.length - j ∧ svs.length = p.qs.length ∧ rows.length = j ∧ Row w' (hs w1) 48 svs ∧ Only (fun b => b = hs w1) w2 w' ∧
      ∀ (i : Nat) s, rows[i]? = some s → s.length ≤ 20 ∧ (∀ y, y ∈ s ↔ Sx p.qs i y) ∧ ∃ oi ci, svs[i]? = some (.slice oi s.length ci) ∧ Own w' (hs w2) 3 1 oi s.length ci (intsV s), ⟨_, 0, _, [], rfl, Nat.zero_le _, rfl, by simp, rfl, r2, Only.refl _ _, fun i s h => by simp at h⟩, ?_⟩⟩
  rintro k _ w3 x ⟨j, svs, rows, rfl, hj, rfl, hsv, hrl, r3, g3, hI⟩
  have G3 : Grow w1 w3 := g2.trans g3 fun b hb hh => by omega
  refine ⟨fun hlt => ?_, fun hge => ?_⟩
  · have hlt : j < p.qs.length := by have := dT hlt; omega
    have r' := r.grow G3
    refine ⟨_, r'.cell rfl, _, r'.cell rfl, _, _, _, r'.cell rfl, (successors_c o c p j hL w3 ((h.grow g).grow G3)).mono ?_⟩
    rintro _ w4 ⟨o4, c4, xs, rfl, hown, hmem, hxl, g4⟩
    have r4 := r3.grow g4
    refine ⟨_, _, _, rfl, _, rfl, ⟨by omega, by omega⟩, r4.thereAdd (by rw [toNat_cast]; simp; omega), fun w5 e5 => ⟨_, by omega, j + 1, setFrom svs ((j : Int).toNat * 1) [.slice o4 xs.length c4], rows ++ [xs], by rw [wr (by omega)]; omega, hlt, rfl, by rw [setFrom_length]; exact hsv, by simp [hrl], r4.setAdd e5, (g3.grow g4).trans' (only_setAdd e5), fun i s hi => ?_⟩⟩
    have g5 : Only (fun b => b = hs w1) w4 w5 := only_setAdd e5
    have hcell : ∀ t, (setFrom svs ((j : Int).toNat * 1) [Value.slice o4 xs.length c4])[t]? = if t = j then some (Value.slice o4 xs.length c4) else svs[t]? := fun t => by
      rw [toNat_cast, Nat.mul_one]
      simp only [setFrom, List.getElem?_set]
      by_cases e : j = t
      · subst e; simp [hsv, hlt]
      · rw [if_neg e, if_neg fun h => e h.symm]
    rcases Nat.lt_or_ge i rows.length with hil | hil
    · rw [List.getElem?_append_left hil] at hi
      obtain ⟨q1, q2, oi, ci, q3, q4⟩ := hI i s hi
      refine ⟨q1, q2, oi, ci, by rw [hcell, if_neg (by omega)]; exact q3, (q4.grow g4).keep g5 fun b hb e => ?_⟩
      have := (q4.base b hb).1
      omega
    · rw [List.getElem?_append_right hil] at hi
      have e : i - rows.length = 0 := by
        rcases Nat.eq_zero_or_pos (i - rows.length) with h' | h'
        · exact h'
        · rw [List.getElem?_eq_none (by simp; omega)] at hi; cases hi
      rw [e] at hi
      cases hi
      obtain rfl : i = j := by omega
      refine ⟨hxl, hmem, o4, c4, by rw [hcell, if_pos rfl], (hown.mono g3.size).keep g5 fun b hb e => ?_⟩
      have := (hown.base b hb).1
      have := g3.size
      omega
  · have := dF hge
    obtain rfl : j = p.qs.length := by omega
    refine ⟨_, _, rows, rfl, ⟨by omega, fun i s hi => ⟨(hI i s hi).1, (hI i s hi).2.1⟩⟩, fun i s hi => ?_, g.trans' G3⟩
    obtain ⟨-, -, oi, ci, q3, q4⟩ := hI i s hi
    refine ⟨_, oi, ci, rfl, ⟨g.size, r3.lt⟩, r3.cellAdd (by rw [toNat_cast, Nat.mul_one]; exact q3), q4.nums.mono fun b hb => ⟨?_, hb.2⟩⟩
    have := g.size
    have := g2.size
    omega
theorem clone_c {w : World} {A : Nat → Prop} {o : Option Addr} {c : Nat} {xs : List Int} (hn : xs.length ≤ 1000) (h : Nums w A o xs) :
    Calls Try.prog 81 #[.slice o xs.length c] w fun e w' => ∃ o' c', e = .returned (.slice o' xs.length c') ∧ Own w' (hs w) 3 1 o' xs.length c' (intsV xs) ∧ Grow w w' := by
  refine nf81 o xs.length c w _ ⟨fun ho => ?_, fun ho w1 e1 => ?_⟩
  · have : xs = [] := by
      rcases Nat.eq_zero_or_pos xs.length with h0 | h0
      · exact List.length_eq_zero_iff.1 h0
      · obtain ⟨a, rfl, -⟩ := h.get h0
        cases ho
    subst this
    exact ⟨none, 0, rfl, own_nil _ _ _ _, Only.refl _ _⟩
  · have r1 : Row w1 (hs w) 3 [] := Row.new e1
    have o1 : Own w1 (hs w) 3 1 (some ⟨hs w, 0, none⟩) 0 0 (intsV []) := r1.own (n := 0) (Nat.le_refl _) rfl (by simp [maxLen])
    have g1 : Grow w w1 := only_alloc e1
    refine append_nums elem48 o1 (h.grow g1) (by simp [maxLen]; omega) (by omega) g1.size fun o' c' w2 p1 p2 => ⟨_, _, _, rfl, o', c', by rw [Nat.zero_add], by simpa using p1, g1.trans p2 fun b hb hh => ?_⟩
    obtain ⟨a, ha, rfl⟩ := hh
    cases ha
    exact absurd hb (by simp)
end Go.Proofs.Ytbaacpfjecbbgaa
