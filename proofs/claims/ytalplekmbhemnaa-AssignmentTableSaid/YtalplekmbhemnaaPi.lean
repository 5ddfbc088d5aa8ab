/- Plain: the best assignments of a matrix turned round, and of a matrix with one column more. -/
import Derived.Test.YtalplekmbhemnaaPh
namespace Go.Proofs.Ytalplekmbhemnaa
open Go Go.Nf

theorem cnt_sum (m : List Int) : ∀ n, cnt m n = sumN n (fun i => one (gm m i))
  | 0 => rfl
  | n + 1 => by rw [cnt, sumN, cnt_sum m n]; rfl
theorem tot_sum (rows : List (List Int)) (m : List Int) : ∀ n, tot rows m n = sumN n (fun i => val rows i (gm m i))
  | 0 => rfl
  | n + 1 => by rw [tot, sumN, tot_sum rows m n]; rfl
theorem sumN_rev (f : Nat → Int) (n : Nat) : sumN n (fun i => f (n - 1 - i)) = sumN n f :=
  sumN_perm f n (fun i => n - 1 - i) (fun i hi => by omega) fun i j hi hj e => by omega

def turn (rows : List (List Int)) : List (List Int) := (rows.map List.reverse).reverse
theorem turn_len (rows : List (List Int)) : (turn rows).length = rows.length := by simp [turn]
theorem turn_get {rows : List (List Int)} {i : Nat} (h : i < rows.length) : (turn rows)[i]? = some (rows[rows.length - 1 - i]'(by omega)).reverse := by
  unfold turn
  rw [List.getElem?_reverse (by simpa using h), List.length_map, List.getElem?_map, List.getElem?_eq_getElem (by omega)]; rfl
theorem turn_turn (rows : List (List Int)) : turn (turn rows) = rows := by
  unfold turn
  rw [List.map_reverse, List.reverse_reverse, List.map_map]
  have : (List.reverse ∘ List.reverse : List Int → List Int) = id := by funext l; simp
  rw [this, List.map_id]
theorem turn_rows {rows : List (List Int)} {C : Nat} (h : ∀ r ∈ rows, r.length = C) : ∀ r ∈ turn rows, r.length = C := by
  intro r hr
  simp only [turn, List.mem_reverse, List.mem_map] at hr
  obtain ⟨r', h1, rfl⟩ := hr
  simpa using h r' h1
theorem turn_at {rows : List (List Int)} {C i : Nat} {x : Int} (h : ∀ r ∈ rows, r.length = C) (hi : i < rows.length) (h0 : 0 ≤ x) (hx : x < C) : at2 (turn rows) i x = at2 rows (rows.length - 1 - i) ((C : Int) - 1 - x) := by
  obtain ⟨j, rfl⟩ : ∃ j : Nat, x = (j : Int) := ⟨x.toNat, by omega⟩
  have e : ((C : Int) - 1 - (j : Int)) = ((C - 1 - j : Nat) : Int) := by omega
  have hl : (rows[rows.length - 1 - i]'(by omega)).length = C := h _ (List.getElem_mem _)
  rw [e, at2_get (i := rows.length - 1 - i) (by omega) (by omega)]
  unfold at2
  rw [turn_get hi]
  simp only [Option.getD_some, Int.toNat_natCast]
  rw [List.getElem?_reverse (by omega), List.getElem?_eq_getElem (by omega)]
  simp only [Option.getD_some, hl]
def flip (R C : Nat) (m : List Int) : List Int := (List.range R).map fun i => if gm m (R - 1 - i) = -1 then -1 else (C : Int) - 1 - gm m (R - 1 - i)
theorem flip_gm {R C i : Nat} {m : List Int} (h : i < R) : gm (flip R C m) i = if gm m (R - 1 - i) = -1 then -1 else (C : Int) - 1 - gm m (R - 1 - i) := by
  rw [flip, gm, List.getElem?_map, List.getElem?_range h]; rfl
theorem Valid.flip {rows : List (List Int)} {C : Nat} {m : List Int} (h : Valid rows C m) (hr : ∀ r ∈ rows, r.length = C) : Valid (turn rows) C (flip rows.length C m) := by
  refine ⟨by simp [Ytalplekmbhemnaa.flip, turn_len], fun i hi => ?_, fun i k hi hk => ?_⟩
  · rw [turn_len] at hi
    rw [flip_gm hi]
    rcases h.ok (rows.length - 1 - i) (by omega) with e | ⟨h1, h2, h3⟩
    · rw [if_pos e]; exact .inl rfl
    · rw [if_neg (by omega)]
      refine .inr ⟨by omega, by omega, ?_⟩
      rw [turn_at hr hi (by omega) (by omega)]
      rw [show (C : Int) - 1 - ((C : Int) - 1 - gm m (rows.length - 1 - i)) = gm m (rows.length - 1 - i) by omega]
      exact h3
  · rw [turn_len] at hi hk
    rw [flip_gm hi, flip_gm hk]
    have h1 := h.ok (rows.length - 1 - i) (by omega)
    have h2 := h.ok (rows.length - 1 - k) (by omega)
    split <;> split
    · intros; omega
    · intros; omega
    · intros; omega
    · intro _ e
      have := h.ne (rows.length - 1 - i) (rows.length - 1 - k) (by omega) (by omega) ‹_› (by omega)
      omega
theorem Valid.flip_cnt {rows : List (List Int)} {C : Nat} {m : List Int} (h : Valid rows C m) : cnt (Ytalplekmbhemnaa.flip rows.length C m) rows.length = cnt m rows.length := by
  rw [cnt_sum, cnt_sum, ← sumN_rev (fun i => one (gm m i))]
  refine sumN_congr fun i hi => ?_
  rw [flip_gm hi]
  rcases h.ok (rows.length - 1 - i) (by omega) with e | ⟨h1, h2, h3⟩
  · rw [if_pos e, e]
  · rw [if_neg (by omega)]; unfold one; rw [if_neg (by omega), if_neg (by omega)]
theorem Valid.flip_tot {rows : List (List Int)} {C : Nat} {m : List Int} (h : Valid rows C m) (hr : ∀ r ∈ rows, r.length = C) : tot (turn rows) (Ytalplekmbhemnaa.flip rows.length C m) rows.length = tot rows m rows.length := by
  rw [tot_sum, tot_sum, ← sumN_rev (fun i => val rows i (gm m i))]
  refine sumN_congr fun i hi => ?_
  rw [flip_gm hi]
  rcases h.ok (rows.length - 1 - i) (by omega) with e | ⟨h1, h2, h3⟩
  · rw [if_pos e, e]; rfl
  · rw [if_neg (by omega)]
    unfold val
    rw [if_neg (by omega), if_neg (by omega), turn_at hr hi (by omega) (by omega)]
    rw [show (C : Int) - 1 - ((C : Int) - 1 - gm m (rows.length - 1 - i)) = gm m (rows.length - 1 - i) by omega]
theorem Best.turned {rows : List (List Int)} {C : Nat} {m m' : List Int} (h : Best rows C m) (h' : Best (turn rows) C m') (hr : ∀ r ∈ rows, r.length = C) :
    cnt m' rows.length = cnt m rows.length ∧ tot (turn rows) m' rows.length = tot rows m rows.length := by
  have v1 := h.valid.flip hr
  have v2 := h'.valid.flip (turn_rows hr)
  rw [turn_turn] at v2
  have c1 := h.valid.flip_cnt
  have c2 := h'.valid.flip_cnt
  have t1 := h.valid.flip_tot hr
  have t2 := h'.valid.flip_tot (turn_rows hr)
  rw [turn_turn] at t2
  have m1 := h'.most _ v1
  have m2 := h.most _ v2
  rw [turn_len] at *
  have e : cnt m' rows.length = cnt m rows.length := by omega
  have l1 := h'.least _ v1
  have l2 := h.least _ v2
  rw [turn_len] at *
  exact ⟨e, by have := l1 (by omega); have := l2 (by omega); omega⟩
theorem err_of {rows : List (List Int)} {C : Nat} (h1 : rows.length ≤ 64) (h2 : C ≤ 64) (h3 : ∀ r ∈ rows, r.length = C) (h4 : ∀ r ∈ rows, ∀ c ∈ r, isCost c = true) : errOf rows = 0 := by
  refine err_ok (by omega) (List.all_eq_true.2 fun r hr => by rw [decide_eq_true_eq, h3 r hr]; exact h2) (List.all_eq_true.2 fun r hr => ?_)
  unfold rowOk
  rw [Bool.and_eq_true, decide_eq_true_eq, List.all_eq_true]
  refine ⟨?_, h4 r hr⟩
  cases rows with
  | nil => cases hr
  | cons r0 rows => rw [h3 r hr]; exact (h3 r0 (by simp)).symm
theorem first_of {rows : List (List Int)} {C : Nat} (h3 : ∀ r ∈ rows, r.length = C) (hn : rows ≠ []) : first rows = C := by
  cases rows with
  | nil => exact absurd rfl hn
  | cons r0 rows => exact h3 r0 (by simp)
theorem turn_err {rows : List (List Int)} (h : errOf rows = 0) : errOf (turn rows) = 0 ∧ first (turn rows) = first rows := by
  obtain ⟨h1, h2, h3⟩ := err0 h
  have hr := turn_rows fun r hr => (h3 r hr).1
  refine ⟨err_of (by rw [turn_len]; exact h1) (first_le h) hr fun r hr c hc => ?_, ?_⟩
  · simp only [turn, List.mem_reverse, List.mem_map] at hr
    obtain ⟨r', h5, rfl⟩ := hr
    exact (h3 r' h5).2 c (by simpa using hc)
  · by_cases hn : rows = []
    · subst hn; rfl
    · exact first_of hr fun e => hn (by rw [← turn_turn rows, e]; rfl)

/-! ### one column more -/
def more (rows : List (List Int)) (col : List Int) : List (List Int) := List.zipWith (fun r x => r ++ [x]) rows col
theorem more_len {rows : List (List Int)} {col : List Int} (h : col.length = rows.length) : (more rows col).length = rows.length := by simp [more, h]
theorem more_get {rows : List (List Int)} {col : List Int} {i : Nat} (h : col.length = rows.length) (hi : i < rows.length) : (more rows col)[i]? = some (rows[i] ++ [col[i]'(by omega)]) := by
  unfold more; rw [List.getElem?_zipWith]; simp [hi, show i < col.length by omega]
theorem more_at {rows : List (List Int)} {col : List Int} {C i : Nat} {x : Int} (h : col.length = rows.length) (hr : ∀ r ∈ rows, r.length = C) (hi : i < rows.length) (h0 : 0 ≤ x) (hx : x < C) : at2 (more rows col) i x = at2 rows i x := by
  have hl : rows[i].length = C := hr _ (List.getElem_mem hi)
  unfold at2
  rw [more_get h hi, List.getElem?_eq_getElem hi]
  simp only [Option.getD_some]
  rw [List.getElem?_append_left (by omega)]
theorem more_rows {rows : List (List Int)} {col : List Int} {C : Nat} (h : col.length = rows.length) (hr : ∀ r ∈ rows, r.length = C) : ∀ r ∈ more rows col, r.length = C + 1 := by
  intro r hr'
  obtain ⟨i, hi, e⟩ := List.mem_iff_getElem.1 hr'
  have hi' : i < rows.length := by rw [more_len h] at hi; exact hi
  have := more_get h hi'
  rw [List.getElem?_eq_getElem hi, e] at this
  cases this
  have := hr _ (List.getElem_mem hi')
  simp [this]
theorem Best.wider {rows : List (List Int)} {col : List Int} {C : Nat} {m m' : List Int} (hb : Best rows C m) (hb' : Best (more rows col) (C + 1) m') (h : col.length = rows.length) (hr : ∀ r ∈ rows, r.length = C) :
    (cnt m' rows.length = cnt m rows.length ∧ tot (more rows col) m' rows.length ≤ tot rows m rows.length) ∨ cnt m' rows.length = cnt m rows.length + 1 := by
  have hml := more_len h
  have hv := hb.valid
  have hv' := hb'.valid
  have v1 : Valid (more rows col) (C + 1) m := by
    refine ⟨by rw [hml]; exact hv.len, fun i hi => ?_, fun i k hi hk => hv.ne i k (by omega) (by omega)⟩
    rcases hv.ok i (by omega) with e | ⟨h1, h2, h3⟩
    · exact .inl e
    · exact .inr ⟨h1, by omega, by rw [more_at h hr (by omega) h1 h2]; exact h3⟩
  have t1 : tot (more rows col) m rows.length = tot rows m rows.length := by
    rw [tot_sum, tot_sum]
    refine sumN_congr fun i hi => ?_
    rcases hv.ok i hi with e | ⟨h1, h2, h3⟩
    · unfold val; rw [if_pos e, if_pos e]
    · unfold val; rw [if_neg (by omega), if_neg (by omega), more_at h hr hi h1 h2]
  have m1 := hb'.most _ v1
  rw [hml] at m1
  have key : cnt m' rows.length ≤ cnt m rows.length + 1 := by
    by_cases hex : ∃ i, i < rows.length ∧ gm m' i = (C : Int)
    · obtain ⟨i, hi, e⟩ := hex
      have hl : i < m'.length := by have := hv'.len; omega
      have v2 : Valid rows C (m'.set i (-1)) := by
        refine ⟨by have := hv'.len; simp; omega, fun k hk => ?_, fun k k' hk hk' => ?_⟩
        · rw [gm_set hl]
          split
          · exact .inl rfl
          · rename_i hne
            rcases hv'.ok k (by omega) with e' | ⟨h1, h2, h3⟩
            · exact .inl e'
            · have : gm m' k ≠ (C : Int) := fun e2 => hne (hv'.ne i k (by omega) (by omega) (by omega) (by omega))
              have hlt : gm m' k < C := by omega
              exact .inr ⟨h1, hlt, by rw [more_at h hr hk h1 hlt] at h3; exact h3⟩
        · rw [gm_set hl, gm_set hl]
          split <;> split
          · intros; omega
          · intro h1; exact absurd rfl h1
          · intro h1 h2; omega
          · exact hv'.ne k k' (by omega) (by omega)
      have m2 := hb.most _ v2
      rw [cnt_put hl, if_pos hi] at m2
      have : one (gm m' i) = 1 := if_neg (by omega)
      have : one (-1) = 0 := rfl
      omega
    · have v2 : Valid rows C m' := by
        refine ⟨by have := hv'.len; omega, fun k hk => ?_, fun k k' hk hk' => hv'.ne k k' (by omega) (by omega)⟩
        rcases hv'.ok k (by omega) with e' | ⟨h1, h2, h3⟩
        · exact .inl e'
        · have : gm m' k ≠ (C : Int) := fun e2 => hex ⟨k, hk, e2⟩
          have hlt : gm m' k < C := by omega
          exact .inr ⟨h1, hlt, by rw [more_at h hr hk h1 hlt] at h3; exact h3⟩
      have := hb.most _ v2
      omega
  by_cases e : cnt m' rows.length = cnt m rows.length
  · refine .inl ⟨e, ?_⟩
    have := hb'.least _ v1 (by rw [hml]; omega)
    rw [hml, t1] at this
    exact this
  · exact .inr (by omega)
end Go.Proofs.Ytalplekmbhemnaa
