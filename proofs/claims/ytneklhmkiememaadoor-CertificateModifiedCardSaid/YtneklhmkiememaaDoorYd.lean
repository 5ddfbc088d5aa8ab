/- Plain, and the contract of the exhaustive search. -/
import Derived.Test.YtneklhmkiememaaDoorYc
namespace Go.Proofs.YtneklhmkiememaaDoor
open Go Go.Nf

def one (x : Int) : Int := if x = -1 then 0 else 1
def val (rows : List (List Int)) (i : Nat) (x : Int) : Int := if x = -1 then 0 else at2 rows i x
theorem cnt_put {m : List Int} {i : Nat} {x : Int} (h : i < m.length) : ∀ n, cnt (m.set i x) n = cnt m n + if i < n then one x - one (gm m i) else 0
  | 0 => by simp [cnt]
  | n + 1 => by
    rw [cnt, cnt, cnt_put h n, gm_set h]
    by_cases e : n = i
    · subst e
      rw [if_neg (Nat.lt_irrefl n), if_pos rfl, if_pos (Nat.lt_succ_self n)]
      show cnt m n + 0 + one x = cnt m n + one (gm m n) + (one x - one (gm m n))
      omega
    · rw [if_neg e]
      generalize (if gm m n = -1 then (0 : Int) else 1) = z
      by_cases e2 : i < n
      · rw [if_pos e2, if_pos (by omega)]; omega
      · rw [if_neg e2, if_neg (by omega)]; omega
theorem tot_put {rows : List (List Int)} {m : List Int} {i : Nat} {x : Int} (h : i < m.length) : ∀ n, tot rows (m.set i x) n = tot rows m n + if i < n then val rows i x - val rows i (gm m i) else 0
  | 0 => by simp [tot]
  | n + 1 => by
    rw [tot, tot, tot_put h n, gm_set h]
    by_cases e : n = i
    · subst e
      rw [if_neg (Nat.lt_irrefl n), if_pos rfl, if_pos (Nat.lt_succ_self n)]
      show tot rows m n + 0 + val rows n x = tot rows m n + val rows n (gm m n) + (val rows n x - val rows n (gm m n))
      omega
    · rw [if_neg e]
      generalize (if gm m n = -1 then 0 else at2 rows n (gm m n)) = z
      by_cases e2 : i < n
      · rw [if_pos e2, if_pos (by omega)]; omega
      · rw [if_neg e2, if_neg (by omega)]; omega
theorem gm_out {m : List Int} {i : Nat} (h : m.length ≤ i) : gm m i = -1 := by unfold gm; rw [List.getElem?_eq_none h]; rfl
/-- one row takes a free column -/
theorem Best.free {rows : List (List Int)} {C : Nat} {m : List Int} (h : Best rows C m) {i d : Nat} (hi : i < rows.length) (hd : d < C) (hfree : ∀ k, k < rows.length → gm m k ≠ (d : Int)) (hfin : at2 rows i (d : Int) ≠ Inf) :
    gm m i ≠ -1 ∧ at2 rows i (gm m i) ≤ at2 rows i (d : Int) ∧ ¬ (at2 rows i (d : Int) = at2 rows i (gm m i) ∧ (d : Int) < gm m i) := by
  have hv := h.valid
  have hl := hv.len
  have hil : i < m.length := by omega
  have v' : Valid rows C (m.set i (d : Int)) := by
    refine ⟨by simpa using hl, fun k hk => ?_, fun k k' hk hk' => ?_⟩
    · rw [gm_set hil]
      by_cases e : k = i
      · subst e; rw [if_pos rfl]; exact .inr ⟨by omega, by omega, hfin⟩
      · rw [if_neg e]; exact hv.ok k hk
    · rw [gm_set hil, gm_set hil]
      by_cases e : k = i <;> by_cases e' : k' = i
      · intros; omega
      · rw [if_pos e, if_neg e']; intro _ h2; exact absurd h2 (hfree k' hk')
      · rw [if_neg e, if_pos e']; intro _ h2; exact absurd h2.symm (hfree k hk)
      · rw [if_neg e, if_neg e']; exact hv.ne k k' hk hk'
  have h1 := h.most _ v'
  rw [cnt_put hil, if_pos hi] at h1
  have hone : one (d : Int) = 1 := if_neg (by omega)
  have hval : val rows i (d : Int) = at2 rows i (d : Int) := if_neg (by omega)
  rw [hone] at h1
  have hne : gm m i ≠ -1 := fun e => by
    have : one (gm m i) = 0 := if_pos e
    omega
  have hone' : one (gm m i) = 1 := if_neg hne
  have hval' : val rows i (gm m i) = at2 rows i (gm m i) := if_neg hne
  have hc : cnt (m.set i (d : Int)) rows.length = cnt m rows.length := by rw [cnt_put hil, if_pos hi]; omega
  have h2 := h.least _ v' hc
  have ht := tot_put (rows := rows) (x := (d : Int)) hil rows.length
  rw [if_pos hi, hval, hval'] at ht
  refine ⟨hne, by omega, fun ⟨e, hlt⟩ => ?_⟩
  rcases h.first _ v' hc (by omega) with e' | ⟨a, ha, hb, hx, hy, hz⟩
  · have : gm (m.set i (d : Int)) i = gm m i := by rw [e']
    rw [gm_set hil, if_pos rfl] at this; omega
  · rw [gm_set hil] at hx hz
    by_cases e1 : a = i
    · subst e1; rw [if_pos rfl] at hz; omega
    · rw [if_neg e1] at hx; exact hx rfl
/-- two rows change their columns -/
theorem Best.swap {rows : List (List Int)} {C : Nat} {m : List Int} (h : Best rows C m) {i k : Nat} (hi : i < rows.length) (hk : k < i) (h1 : gm m i ≠ -1) (h2 : gm m k ≠ -1) (f1 : at2 rows i (gm m k) ≠ Inf) (f2 : at2 rows k (gm m i) ≠ Inf) :
    at2 rows i (gm m i) + at2 rows k (gm m k) ≤ at2 rows i (gm m k) + at2 rows k (gm m i) := by
  have hv := h.valid
  have hl := hv.len
  have hil : i < m.length := by omega
  have hkl : k < (m.set i (gm m k)).length := by simp; omega
  have ok1 := (hv.ok i hi).resolve_left h1
  have ok2 := (hv.ok k (by omega)).resolve_left h2
  have es : ∀ a, gm ((m.set i (gm m k)).set k (gm m i)) a = if a = k then gm m i else if a = i then gm m k else gm m a := fun a => by rw [gm_set hkl, gm_set hil]
  have v' : Valid rows C ((m.set i (gm m k)).set k (gm m i)) := by
    refine ⟨by simpa using hl, fun a ha => ?_, fun a b ha hb => ?_⟩
    · rw [es]
      by_cases e : a = k
      · subst e; rw [if_pos rfl]; exact .inr ⟨ok1.1, ok1.2.1, f2⟩
      · rw [if_neg e]
        by_cases e2 : a = i
        · subst e2; rw [if_pos rfl]; exact .inr ⟨ok2.1, ok2.2.1, f1⟩
        · rw [if_neg e2]; exact hv.ok a ha
    · rw [es, es]
      have key : ∀ a b, a < rows.length → b < rows.length → gm m a ≠ -1 → gm m b = gm m a → b = a := hv.ne
      intro g1 g2
      have nk : ∀ z, z < rows.length → gm m z = gm m i → z = i := fun z hz e => key i z hi hz h1 e
      have nk2 : ∀ z, z < rows.length → gm m z = gm m k → z = k := fun z hz e => key k z (by omega) hz h2 e
      by_cases e1 : a = k <;> by_cases e2 : b = k
      · omega
      · rw [if_pos e1, if_neg e2] at g2
        by_cases e3 : b = i
        · rw [if_pos e3] at g2; exact absurd (nk k (by omega) g2) (by omega)
        · rw [if_neg e3] at g2; exact absurd (nk b hb g2) e3
      · rw [if_neg e1, if_pos e2] at g2
        by_cases e3 : a = i
        · rw [if_pos e3] at g2; exact absurd (nk k (by omega) g2.symm) (by omega)
        · rw [if_neg e3] at g2; exact absurd (nk a ha g2.symm) e3
      · rw [if_neg e1, if_neg e2] at g2
        rw [if_neg e1] at g1
        by_cases e3 : a = i <;> by_cases e4 : b = i
        · omega
        · rw [if_pos e3, if_neg e4] at g2; exact absurd (nk2 b hb g2) e2
        · rw [if_neg e3, if_pos e4] at g2; exact absurd (nk2 a ha g2.symm) e1
        · rw [if_neg e3, if_neg e4] at g2
          rw [if_neg e3] at g1
          exact key a b ha hb g1 g2
  have o1 : one (gm m i) = 1 := if_neg h1
  have o2 : one (gm m k) = 1 := if_neg h2
  have gk : gm (m.set i (gm m k)) k = gm m k := by rw [gm_set hil, if_neg (by omega)]
  have hc : cnt ((m.set i (gm m k)).set k (gm m i)) rows.length = cnt m rows.length := by
    rw [cnt_put hkl, cnt_put hil, if_pos hi, if_pos (by omega), gk]; omega
  have ht := h.least _ v' hc
  rw [tot_put hkl, tot_put hil, if_pos hi, if_pos (by omega), gk] at ht
  have a1 : val rows i (gm m i) = at2 rows i (gm m i) := if_neg h1
  have a2 : val rows k (gm m k) = at2 rows k (gm m k) := if_neg h2
  have a3 : val rows i (gm m k) = at2 rows i (gm m k) := if_neg h2
  have a4 : val rows k (gm m i) = at2 rows k (gm m i) := if_neg h1
  omega
/-- the reference's words -/
theorem Valid.costs {rows : List (List Int)} {m : List Int} (h : Valid rows (first rows) m) (he : errOf rows = 0) : costE rows m = 0 ∧ costN rows m = cnt m rows.length ∧ costS rows m = tot rows m rows.length := by
  have hl := h.len
  obtain ⟨_, _, h3⟩ := err0 he
  have hE : costE rows m = 0 := by
    unfold costE
    rw [if_pos he, if_pos hl, if_pos]
    unfold okAll
    rw [List.all_eq_true]
    intro i hi
    have hi : i < rows.length := by simp at hi; omega
    rcases h.ok i hi with e | ⟨h1, h2, h4⟩
    · unfold okA; rw [e]; rfl
    · refine okA_mk h1 ?_ h4 fun k hk e => ?_
      · rw [List.getElem?_eq_getElem hi]
        have := (h3 _ (List.getElem_mem hi)).1
        simp only [Option.getD_some]; omega
      · have := h.ne i k hi (by omega) (by omega) e; omega
  refine ⟨hE, ?_, ?_⟩
  · unfold costN; rw [if_pos hE, hl]
  · unfold costS; rw [if_pos hE, hl]
theorem mat_cell {w : World} {A : Nat → Prop} {o : Option Addr} {rows : List (List Int)} {C i j : Nat} (h : Mat w A o rows) (hrow : ∀ r ∈ rows, r.length = C) (hi : i < rows.length) (hj : j < C) :
    ∃ a oi ci, o = some a ∧ w.cell? (a.add ((i : Int).toNat * 1)) = some (.slice oi C ci) ∧ ∃ a', oi = some a' ∧ w.cell? (a'.add ((j : Int).toNat * 1)) = some (.int .i64 (at2 rows i (j : Int))) := by
  obtain ⟨a, oi, ci, ha, hc, hn⟩ := h.get hi
  have hl : rows[i].length = C := hrow _ (List.getElem_mem hi)
  obtain ⟨a', ha', hc'⟩ := hn.get (j := j) (by omega)
  rw [hl] at hc
  rw [← at2_get hi (by omega)] at hc'
  exact ⟨a, oi, ci, ha, hc, a', ha', hc'⟩

theorem cnt_sum (m : List Int) : ∀ n, cnt m n = sumN n (fun i => one (gm m i))
  | 0 => rfl
  | n + 1 => by rw [cnt, sumN, cnt_sum m n]; rfl
theorem tot_sum (rows : List (List Int)) (m : List Int) : ∀ n, tot rows m n = sumN n (fun i => val rows i (gm m i))
  | 0 => rfl
  | n + 1 => by rw [tot, sumN, tot_sum rows m n]; rfl
theorem sumN_rev (f : Nat → Int) (n : Nat) : sumN n (fun i => f (n - 1 - i)) = sumN n f :=
  sumN_perm f n (fun i => n - 1 - i) (fun i hi => by omega) fun i j hi hj e => by omega

def turn (rows : List (List Int)) : List (List Int) := (rows.map List.reverse).reverse
theorem turn_len (rows : List (List Int)) : (turn rows).length = rows.length := by simp [turn]
theorem turn_get {rows : List (List Int)} {i : Nat} (h : i < rows.length) : (turn rows)[i]? = some (rows[rows.length - 1 - i]'(by omega)).reverse := by
  unfold turn
  rw [List.getElem?_reverse (by simpa using h), List.length_map, List.getElem?_map, List.getElem?_eq_getElem (by omega)]; rfl
theorem turn_turn (rows : List (List Int)) : turn (turn rows) = rows := by
  unfold turn
  rw [List.map_reverse, List.reverse_reverse, List.map_map]
  have : (List.reverse ∘ List.reverse : List Int → List Int) = id := by funext l; simp
  rw [this, List.map_id]
theorem turn_rows {rows : List (List Int)} {C : Nat} (h : ∀ r ∈ rows, r.length = C) : ∀ r ∈ turn rows, r.length = C := by
  intro r hr
  simp only [turn, List.mem_reverse, List.mem_map] at hr
  obtain ⟨r', h1, rfl⟩ := hr
  simpa using h r' h1
theorem turn_at {rows : List (List Int)} {C i : Nat} {x : Int} (h : ∀ r ∈ rows, r.length = C) (hi : i < rows.length) (h0 : 0 ≤ x) (hx : x < C) : at2 (turn rows) i x = at2 rows (rows.length - 1 - i) ((C : Int) - 1 - x) := by
  obtain ⟨j, rfl⟩ : ∃ j : Nat, x = (j : Int) := ⟨x.toNat, by omega⟩
  have e : ((C : Int) - 1 - (j : Int)) = ((C - 1 - j : Nat) : Int) := by omega
  have hl : (rows[rows.length - 1 - i]'(by omega)).length = C := h _ (List.getElem_mem _)
  rw [e, at2_get (i := rows.length - 1 - i) (by omega) (by omega)]
  unfold at2
  rw [turn_get hi]
  simp only [Option.getD_some, Int.toNat_natCast]
  rw [List.getElem?_reverse (by omega), List.getElem?_eq_getElem (by omega)]
  simp only [Option.getD_some, hl]
def flip (R C : Nat) (m : List Int) : List Int := (List.range R).map fun i => if gm m (R - 1 - i) = -1 then -1 else (C : Int) - 1 - gm m (R - 1 - i)
theorem flip_gm {R C i : Nat} {m : List Int} (h : i < R) : gm (flip R C m) i = if gm m (R - 1 - i) = -1 then -1 else (C : Int) - 1 - gm m (R - 1 - i) := by
  rw [flip, gm, List.getElem?_map, List.getElem?_range h]; rfl
theorem Valid.flip {rows : List (List Int)} {C : Nat} {m : List Int} (h : Valid rows C m) (hr : ∀ r ∈ rows, r.length = C) : Valid (turn rows) C (flip rows.length C m) := by
  refine ⟨by simp [YtneklhmkiememaaDoor.flip, turn_len], fun i hi => ?_, fun i k hi hk => ?_⟩
  · rw [turn_len] at hi
    rw [flip_gm hi]
    rcases h.ok (rows.length - 1 - i) (by omega) with e | ⟨h1, h2, h3⟩
    · rw [if_pos e]; exact .inl rfl
    · rw [if_neg (by omega)]
      refine .inr ⟨by omega, by omega, ?_⟩
      rw [turn_at hr hi (by omega) (by omega)]
      rw [show (C : Int) - 1 - ((C : Int) - 1 - gm m (rows.length - 1 - i)) = gm m (rows.length - 1 - i) by omega]
      exact h3
  · rw [turn_len] at hi hk
    rw [flip_gm hi, flip_gm hk]
    have h1 := h.ok (rows.length - 1 - i) (by omega)
    have h2 := h.ok (rows.length - 1 - k) (by omega)
    split <;> split
    · intros; omega
    · intros; omega
    · intros; omega
    · intro _ e
      have := h.ne (rows.length - 1 - i) (rows.length - 1 - k) (by omega) (by omega) ‹_› (by omega)
      omega
theorem Valid.flip_cnt {rows : List (List Int)} {C : Nat} {m : List Int} (h : Valid rows C m) : cnt (YtneklhmkiememaaDoor.flip rows.length C m) rows.length = cnt m rows.length := by
  rw [cnt_sum, cnt_sum, ← sumN_rev (fun i => one (gm m i))]
  refine sumN_congr fun i hi => ?_
  rw [flip_gm hi]
  rcases h.ok (rows.length - 1 - i) (by omega) with e | ⟨h1, h2, h3⟩
  · rw [if_pos e, e]
  · rw [if_neg (by omega)]; unfold one; rw [if_neg (by omega), if_neg (by omega)]
theorem Valid.flip_tot {rows : List (List Int)} {C : Nat} {m : List Int} (h : Valid rows C m) (hr : ∀ r ∈ rows, r.length = C) : tot (turn rows) (YtneklhmkiememaaDoor.flip rows.length C m) rows.length = tot rows m rows.length := by
  rw [tot_sum, tot_sum, ← sumN_rev (fun i => val rows i (gm m i))]
  refine sumN_congr fun i hi => ?_
  rw [flip_gm hi]
  rcases h.ok (rows.length - 1 - i) (by omega) with e | ⟨h1, h2, h3⟩
  · rw [if_pos e, e]; rfl
  · rw [if_neg (by omega)]
    unfold val
    rw [if_neg (by omega), if_neg (by omega), turn_at hr hi (by omega) (by omega)]
    rw [show (C : Int) - 1 - ((C : Int) - 1 - gm m (rows.length - 1 - i)) = gm m (rows.length - 1 - i) by omega]
theorem Best.turned {rows : List (List Int)} {C : Nat} {m m' : List Int} (h : Best rows C m) (h' : Best (turn rows) C m') (hr : ∀ r ∈ rows, r.length = C) :
    cnt m' rows.length = cnt m rows.length ∧ tot (turn rows) m' rows.length = tot rows m rows.length := by
  have v1 := h.valid.flip hr
  have v2 := h'.valid.flip (turn_rows hr)
  rw [turn_turn] at v2
  have c1 := h.valid.flip_cnt
  have c2 := h'.valid.flip_cnt
  have t1 := h.valid.flip_tot hr
  have t2 := h'.valid.flip_tot (turn_rows hr)
  rw [turn_turn] at t2
  have m1 := h'.most _ v1
  have m2 := h.most _ v2
  rw [turn_len] at *
  have e : cnt m' rows.length = cnt m rows.length := by omega
  have l1 := h'.least _ v1
  have l2 := h.least _ v2
  rw [turn_len] at *
  exact ⟨e, by have := l1 (by omega); have := l2 (by omega); omega⟩
theorem err_of {rows : List (List Int)} {C : Nat} (h1 : rows.length ≤ 64) (h2 : C ≤ 64) (h3 : ∀ r ∈ rows, r.length = C) (h4 : ∀ r ∈ rows, ∀ c ∈ r, isCost c = true) : errOf rows = 0 := by
  refine err_ok (by omega) (List.all_eq_true.2 fun r hr => by rw [decide_eq_true_eq, h3 r hr]; exact h2) (List.all_eq_true.2 fun r hr => ?_)
  unfold rowOk
  rw [Bool.and_eq_true, decide_eq_true_eq, List.all_eq_true]
  refine ⟨?_, h4 r hr⟩
  cases rows with
  | nil => cases hr
  | cons r0 rows => rw [h3 r hr]; exact (h3 r0 (by simp)).symm
theorem first_of {rows : List (List Int)} {C : Nat} (h3 : ∀ r ∈ rows, r.length = C) (hn : rows ≠ []) : first rows = C := by
  cases rows with
  | nil => exact absurd rfl hn
  | cons r0 rows => exact h3 r0 (by simp)
theorem turn_err {rows : List (List Int)} (h : errOf rows = 0) : errOf (turn rows) = 0 ∧ first (turn rows) = first rows := by
  obtain ⟨h1, h2, h3⟩ := err0 h
  have hr := turn_rows fun r hr => (h3 r hr).1
  refine ⟨err_of (by rw [turn_len]; exact h1) (first_le h) hr fun r hr c hc => ?_, ?_⟩
  · simp only [turn, List.mem_reverse, List.mem_map] at hr
    obtain ⟨r', h5, rfl⟩ := hr
    exact (h3 r' h5).2 c (by simpa using hc)
  · by_cases hn : rows = []
    · subst hn; rfl
    · exact first_of hr fun e => hn (by rw [← turn_turn rows, e]; rfl)

/-! ### one column more -/
def more (rows : List (List Int)) (col : List Int) : List (List Int) := List.zipWith (fun r x => r ++ [x]) rows col
theorem more_len {rows : List (List Int)} {col : List Int} (h : col.length = rows.length) : (more rows col).length = rows.length := by simp [more, h]
theorem more_get {rows : List (List Int)} {col : List Int} {i : Nat} (h : col.length = rows.length) (hi : i < rows.length) : (more rows col)[i]? = some (rows[i] ++ [col[i]'(by omega)]) := by
  unfold more; rw [List.getElem?_zipWith]; simp [hi, show i < col.length by omega]
theorem more_at {rows : List (List Int)} {col : List Int} {C i : Nat} {x : Int} (h : col.length = rows.length) (hr : ∀ r ∈ rows, r.length = C) (hi : i < rows.length) (h0 : 0 ≤ x) (hx : x < C) : at2 (more rows col) i x = at2 rows i x := by
  have hl : rows[i].length = C := hr _ (List.getElem_mem hi)
  unfold at2
  rw [more_get h hi, List.getElem?_eq_getElem hi]
  simp only [Option.getD_some]
  rw [List.getElem?_append_left (by omega)]
theorem more_rows {rows : List (List Int)} {col : List Int} {C : Nat} (h : col.length = rows.length) (hr : ∀ r ∈ rows, r.length = C) : ∀ r ∈ more rows col, r.length = C + 1 := by
  intro r hr'
  obtain ⟨i, hi, e⟩ := List.mem_iff_getElem.1 hr'
  have hi' : i < rows.length := by rw [more_len h] at hi; exact hi
  have := more_get h hi'
  rw [List.getElem?_eq_getElem hi, e] at this
  cases this
  have := hr _ (List.getElem_mem hi')
  simp [this]
theorem Best.wider {rows : List (List Int)} {col : List Int} {C : Nat} {m m' : List Int} (hb : Best rows C m) (hb' : Best (more rows col) (C + 1) m') (h : col.length = rows.length) (hr : ∀ r ∈ rows, r.length = C) :
    (cnt m' rows.length = cnt m rows.length ∧ tot (more rows col) m' rows.length ≤ tot rows m rows.length) ∨ cnt m' rows.length = cnt m rows.length + 1 := by
  have hml := more_len h
  have hv := hb.valid
  have hv' := hb'.valid
  have v1 : Valid (more rows col) (C + 1) m := by
    refine ⟨by rw [hml]; exact hv.len, fun i hi => ?_, fun i k hi hk => hv.ne i k (by omega) (by omega)⟩
    rcases hv.ok i (by omega) with e | ⟨h1, h2, h3⟩
    · exact .inl e
    · exact .inr ⟨h1, by omega, by rw [more_at h hr (by omega) h1 h2]; exact h3⟩
  have t1 : tot (more rows col) m rows.length = tot rows m rows.length := by
    rw [tot_sum, tot_sum]
    refine sumN_congr fun i hi => ?_
    rcases hv.ok i hi with e | ⟨h1, h2, h3⟩
    · unfold val; rw [if_pos e, if_pos e]
    · unfold val; rw [if_neg (by omega), if_neg (by omega), more_at h hr hi h1 h2]
  have m1 := hb'.most _ v1
  rw [hml] at m1
  have key : cnt m' rows.length ≤ cnt m rows.length + 1 := by
    by_cases hex : ∃ i, i < rows.length ∧ gm m' i = (C : Int)
    · obtain ⟨i, hi, e⟩ := hex
      have hl : i < m'.length := by have := hv'.len; omega
      have v2 : Valid rows C (m'.set i (-1)) := by
        refine ⟨by have := hv'.len; simp; omega, fun k hk => ?_, fun k k' hk hk' => ?_⟩
        · rw [gm_set hl]
          split
          · exact .inl rfl
          · rename_i hne
            rcases hv'.ok k (by omega) with e' | ⟨h1, h2, h3⟩
            · exact .inl e'
            · have : gm m' k ≠ (C : Int) := fun e2 => hne (hv'.ne i k (by omega) (by omega) (by omega) (by omega))
              have hlt : gm m' k < C := by omega
              exact .inr ⟨h1, hlt, by rw [more_at h hr hk h1 hlt] at h3; exact h3⟩
        · rw [gm_set hl, gm_set hl]
          split <;> split
          · intros; omega
          · intro h1; exact absurd rfl h1
          · intro h1 h2; omega
          · exact hv'.ne k k' (by omega) (by omega)
      have m2 := hb.most _ v2
      rw [cnt_put hl, if_pos hi] at m2
      have : one (gm m' i) = 1 := if_neg (by omega)
      have : one (-1) = 0 := rfl
      omega
    · have v2 : Valid rows C m' := by
        refine ⟨by have := hv'.len; omega, fun k hk => ?_, fun k k' hk hk' => hv'.ne k k' (by omega) (by omega)⟩
        rcases hv'.ok k (by omega) with e' | ⟨h1, h2, h3⟩
        · exact .inl e'
        · have : gm m' k ≠ (C : Int) := fun e2 => hex ⟨k, hk, e2⟩
          have hlt : gm m' k < C := by omega
          exact .inr ⟨h1, hlt, by rw [more_at h hr hk h1 hlt] at h3; exact h3⟩
      have := hb.most _ v2
      omega
  by_cases e : cnt m' rows.length = cnt m rows.length
  · refine .inl ⟨e, ?_⟩
    have := hb'.least _ v1 (by rw [hml]; omega)
    rw [hml, t1] at this
    exact this
  · exact .inr (by omega)

/-- m is at least as good as m' -/
def Good (rows : List (List Int)) (m m' : List Int) : Prop :=
  cnt m' rows.length < cnt m rows.length ∨ (cnt m' rows.length = cnt m rows.length ∧ (tot rows m rows.length < tot rows m' rows.length ∨ (tot rows m rows.length = tot rows m' rows.length ∧ (m' = m ∨ Ahead m m'))))
theorem Ahead.trans {x y z : List Int} (h1 : Ahead x y) (h2 : Ahead y z) (hl : x.length = y.length) : Ahead x z := by
  obtain ⟨a, a1, a2, a3, a4, a5⟩ := h1
  obtain ⟨b, b1, b2, b3, b4, b5⟩ := h2
  rcases Nat.lt_trichotomy a b with h | h | h
  · have := b2 a h
    exact ⟨a, a1, fun c hc => (a2 c hc).trans (b2 c (by omega)), by rw [← this]; exact a3, a4, by rw [← this]; exact a5⟩
  · subst h
    exact ⟨a, a1, fun c hc => (a2 c hc).trans (b2 c hc), by omega, a4, by omega⟩
  · have := a2 b h
    exact ⟨b, by omega, fun c hc => (a2 c (by omega)).trans (b2 c hc), by rw [this]; exact b3, by rw [this]; exact b4, by rw [this]; exact b5⟩
theorem Ahead.not {x y : List Int} (h1 : Ahead x y) (h2 : Ahead y x) : False := by
  obtain ⟨a, a1, a2, a3, a4, a5⟩ := h1
  obtain ⟨b, b1, b2, b3, b4, b5⟩ := h2
  rcases Nat.lt_trichotomy a b with h | h | h
  · exact a3 (b2 a h).symm
  · subst h; omega
  · exact b3 (a2 b h).symm
theorem Ahead.total {x y : List Int} (hl : x.length = y.length) : x = y ∨ Ahead x y ∨ Ahead y x := by
  rcases first_diff (fun i => gm x i = gm y i) x.length with h | ⟨a, h1, h2, h3⟩
  · exact .inl (gm_ext hl fun i hi => h i (by omega))
  · by_cases e : gm x a = -1
    · exact .inr (.inr ⟨a, by omega, fun b hb => (h3 b hb).symm, fun e' => h2 e'.symm, by omega, .inl e⟩)
    · by_cases e2 : gm y a = -1
      · exact .inr (.inl ⟨a, h1, h3, h2, e, .inl e2⟩)
      · by_cases e3 : gm x a < gm y a
        · exact .inr (.inl ⟨a, h1, h3, h2, e, .inr e3⟩)
        · exact .inr (.inr ⟨a, by omega, fun b hb => (h3 b hb).symm, fun e' => h2 e'.symm, e2, .inr (by omega)⟩)
theorem Good.refl (rows : List (List Int)) (m : List Int) : Good rows m m := .inr ⟨rfl, .inr ⟨rfl, .inl rfl⟩⟩
theorem Good.trans {rows : List (List Int)} {x y z : List Int} (h1 : Good rows x y) (h2 : Good rows y z) (hl : x.length = y.length) : Good rows x z := by
  rcases h1 with a | ⟨a, b | ⟨b, c⟩⟩ <;> rcases h2 with d | ⟨d, e | ⟨e, f⟩⟩
  · exact .inl (by omega)
  · exact .inl (by omega)
  · exact .inl (by omega)
  · exact .inl (by omega)
  · exact .inr ⟨by omega, .inl (by omega)⟩
  · exact .inr ⟨by omega, .inl (by omega)⟩
  · exact .inl (by omega)
  · exact .inr ⟨by omega, .inl (by omega)⟩
  · refine .inr ⟨by omega, .inr ⟨by omega, ?_⟩⟩
    rcases c with rfl | c
    · exact f
    · rcases f with rfl | f
      · exact .inr c
      · exact .inr (c.trans f hl)
theorem Good.anti {rows : List (List Int)} {x y : List Int} (h1 : Good rows x y) (h2 : Good rows y x) : x = y := by
  rcases h1 with a | ⟨a, b | ⟨b, c⟩⟩ <;> rcases h2 with d | ⟨d, e | ⟨e, f⟩⟩ <;> first
    | omega
    | skip
  rcases c with rfl | c
  · rfl
  · rcases f with rfl | f
    · rfl
    · exact (c.not f).elim
/-- the reference's comparison -/
def betterB (rows : List (List Int)) (x y : List Int) : Prop :=
  cnt y rows.length < cnt x rows.length ∨ (cnt y rows.length = cnt x rows.length ∧ (tot rows x rows.length < tot rows y rows.length ∨ (tot rows x rows.length = tot rows y rows.length ∧ Ahead x y)))
theorem good_of_better {rows : List (List Int)} {x y : List Int} (h : betterB rows x y) : Good rows x y := by
  rcases h with a | ⟨a, b | ⟨b, c⟩⟩
  · exact .inl a
  · exact .inr ⟨a, .inl b⟩
  · exact .inr ⟨a, .inr ⟨b, .inr c⟩⟩
theorem good_of_not {rows : List (List Int)} {x y : List Int} (h : ¬ betterB rows x y) (hl : x.length = y.length) : Good rows y x := by
  by_cases e : cnt y rows.length = cnt x rows.length
  · by_cases e2 : tot rows x rows.length = tot rows y rows.length
    · refine .inr ⟨e.symm, .inr ⟨e2.symm, ?_⟩⟩
      rcases Ahead.total hl with h1 | h1 | h1
      · exact .inl h1
      · exact absurd (.inr ⟨e, .inr ⟨e2, h1⟩⟩) h
      · exact .inr h1
    · refine .inr ⟨e.symm, .inl ?_⟩
      have : ¬ tot rows x rows.length < tot rows y rows.length := fun h' => h (.inr ⟨e, .inl h'⟩)
      omega
  · have : ¬ cnt y rows.length < cnt x rows.length := fun h' => h (.inl h')
    exact .inl (by omega)
theorem Best.good {rows : List (List Int)} {C : Nat} {m m' : List Int} (h : Best rows C m) (hv : Valid rows C m') : Good rows m m' := by
  have h1 := h.most _ hv
  by_cases e : cnt m' rows.length = cnt m rows.length
  · refine .inr ⟨e, ?_⟩
    have h2 := h.least _ hv e
    by_cases e2 : tot rows m rows.length = tot rows m' rows.length
    · exact .inr ⟨e2, h.first _ hv e e2⟩
    · exact .inl (by omega)
  · exact .inl (by omega)

/-- the beginning of an assignment -/
structure Pre (rows : List (List Int)) (C : Nat) (p : List Int) : Prop where
  len : p.length ≤ rows.length
  ok : ∀ i, i < p.length → gm p i = -1 ∨ (0 ≤ gm p i ∧ gm p i < C ∧ at2 rows i (gm p i) ≠ Inf)
  ne : ∀ i k, i < p.length → k < p.length → gm p i ≠ -1 → gm p k = gm p i → k = i
theorem Pre.valid {rows : List (List Int)} {C : Nat} {p : List Int} (h : Pre rows C p) (hl : p.length = rows.length) : Valid rows C p :=
  ⟨hl, fun i hi => h.ok i (by omega), fun i k hi hk => h.ne i k (by omega) (by omega)⟩
theorem gm_app {p : List Int} {x : Int} {i : Nat} : gm (p ++ [x]) i = if i < p.length then gm p i else if i = p.length then x else -1 := by
  unfold gm
  by_cases h : i < p.length
  · rw [if_pos h, List.getElem?_append_left h]
  · rw [if_neg h, List.getElem?_append_right (by omega)]
    by_cases e : i = p.length
    · subst e; rw [if_pos rfl, Nat.sub_self]; rfl
    · rw [if_neg e, List.getElem?_eq_none (by simp; omega)]; rfl
theorem Pre.none {rows : List (List Int)} {C : Nat} {p : List Int} (h : Pre rows C p) (hl : p.length < rows.length) : Pre rows C (p ++ [-1]) := by
  refine ⟨by simp; omega, fun i hi => ?_, fun i k hi hk => ?_⟩
  · rw [gm_app]
    split
    · exact h.ok i ‹_›
    · split <;> exact .inl rfl
  · rw [gm_app, gm_app]
    by_cases h1 : i < p.length
    · by_cases h2 : k < p.length
      · rw [if_pos h1, if_pos h2]; exact h.ne i k h1 h2
      · rw [if_pos h1, if_neg h2]; intro h3 h4; exfalso; split at h4 <;> omega
    · rw [if_neg h1]; intro h3; exfalso; split at h3 <;> exact h3 rfl
theorem Pre.col {rows : List (List Int)} {C : Nat} {p : List Int} {c : Nat} (h : Pre rows C p) (hl : p.length < rows.length) (hc : c < C) (hf : at2 rows p.length (c : Int) ≠ Inf) (hn : ∀ i, i < p.length → gm p i ≠ (c : Int)) : Pre rows C (p ++ [(c : Int)]) := by
  refine ⟨by simp; omega, fun i hi => ?_, fun i k hi hk => ?_⟩
  · rw [gm_app]
    simp only [List.length_append, List.length_cons, List.length_nil] at hi
    split
    · exact h.ok i ‹_›
    · obtain rfl : i = p.length := by omega
      rw [if_pos rfl]
      exact .inr ⟨by omega, by omega, hf⟩
  · simp only [List.length_append, List.length_cons, List.length_nil] at hi hk
    rw [gm_app, gm_app]
    by_cases h1 : i < p.length
    · by_cases h2 : k < p.length
      · rw [if_pos h1, if_pos h2]; exact h.ne i k h1 h2
      · obtain rfl : k = p.length := by omega
        rw [if_pos h1, if_neg h2, if_pos rfl]; intro h3 h4; exact absurd h4.symm (hn i h1)
    · obtain rfl : i = p.length := by omega
      rw [if_neg h1, if_pos rfl]
      by_cases h2 : k < p.length
      · rw [if_pos h2]; intro h3 h4; exact absurd h4 (hn k h2)
      · intros; omega
/-- m begins with p -/
def Begins (p m : List Int) : Prop := ∀ i, i < p.length → gm m i = gm p i
theorem begins_app {p m : List Int} {x : Int} : Begins (p ++ [x]) m ↔ Begins p m ∧ gm m p.length = x := by
  constructor
  · intro h
    refine ⟨fun i hi => ?_, ?_⟩
    · rw [h i (by simp; omega), gm_app, if_pos hi]
    · rw [h p.length (by simp), gm_app, if_neg (by omega), if_pos rfl]
  · rintro ⟨h1, h2⟩ i hi
    rw [gm_app]
    simp only [List.length_append, List.length_cons, List.length_nil] at hi
    split
    · exact h1 i ‹_›
    · obtain rfl : i = p.length := by omega
      rw [if_pos rfl, h2]
/-- the best with a given beginning, among those whose next column is -1 or below c -/
structure BestUp (rows : List (List Int)) (C : Nat) (p : List Int) (c : Nat) (m : List Int) : Prop where
  valid : Valid rows C m
  begins : Begins p m
  best : ∀ m', Valid rows C m' → Begins p m' → gm m' p.length < c → Good rows m m'
structure BestFrom (rows : List (List Int)) (C : Nat) (p m : List Int) : Prop where
  valid : Valid rows C m
  begins : Begins p m
  best : ∀ m', Valid rows C m' → Begins p m' → Good rows m m'
theorem BestFrom.up {rows : List (List Int)} {C : Nat} {p m : List Int} (h : BestFrom rows C (p ++ [-1]) m) (hl : p.length < rows.length) : BestUp rows C p 0 m := by
  refine ⟨h.valid, (begins_app.1 h.begins).1, fun m' hv hb hlt => h.best m' hv (begins_app.2 ⟨hb, ?_⟩)⟩
  rcases hv.ok p.length hl with e | e
  · exact e
  · omega
theorem BestUp.skip {rows : List (List Int)} {C : Nat} {p m : List Int} {c : Nat} (h : BestUp rows C p c m) (hl : p.length < rows.length) (hn : at2 rows p.length (c : Int) = Inf ∨ ∃ i, i < p.length ∧ gm p i = (c : Int)) : BestUp rows C p (c + 1) m := by
  refine ⟨h.valid, h.begins, fun m' hv hb hlt => ?_⟩
  by_cases e : gm m' p.length = (c : Int)
  · exfalso
    rcases hn with hn | ⟨i, hi, hn⟩
    · rcases hv.ok p.length hl with e' | ⟨_, _, e'⟩
      · omega
      · rw [e] at e'; exact e' hn
    · have h1 := hb i hi
      have := hv.ne p.length i hl (by omega) (by omega) (by omega)
      omega
  · exact h.best m' hv hb (by omega)
theorem BestUp.take {rows : List (List Int)} {C : Nat} {p m x : List Int} {c : Nat} (h : BestUp rows C p c m) (hx : BestFrom rows C (p ++ [(c : Int)]) x) : (betterB rows x m → BestUp rows C p (c + 1) x) ∧ (¬ betterB rows x m → BestUp rows C p (c + 1) m) := by
  have hlx : x.length = m.length := hx.valid.len.trans h.valid.len.symm
  have split : ∀ m', Valid rows C m' → Begins p m' → gm m' p.length < ((c + 1 : Nat) : Int) → Good rows m m' ∨ Good rows x m' := fun m' hv hb hlt => by
    by_cases e : gm m' p.length = (c : Int)
    · exact .inr (hx.best m' hv (begins_app.2 ⟨hb, e⟩))
    · exact .inl (h.best m' hv hb (by omega))
  refine ⟨fun hb => ⟨hx.valid, (begins_app.1 hx.begins).1, fun m' hv hbg hlt => ?_⟩, fun hb => ⟨h.valid, h.begins, fun m' hv hbg hlt => ?_⟩⟩
  · rcases split m' hv hbg hlt with g | g
    · exact (good_of_better hb).trans g hlx
    · exact g
  · rcases split m' hv hbg hlt with g | g
    · exact g
    · exact (good_of_not hb hlx).trans g hlx.symm
theorem BestUp.all {rows : List (List Int)} {C : Nat} {p m : List Int} (h : BestUp rows C p C m) (hl : p.length < rows.length) : BestFrom rows C p m :=
  ⟨h.valid, h.begins, fun m' hv hb => h.best m' hv hb (by rcases hv.ok p.length hl with e | e <;> omega)⟩
theorem Pre.done {rows : List (List Int)} {C : Nat} {p : List Int} (h : Pre rows C p) (hl : p.length = rows.length) : BestFrom rows C p p := by
  refine ⟨h.valid hl, fun _ _ => rfl, fun m' hv hb => ?_⟩
  rw [gm_ext (m' := m') (m := p) (by rw [hv.len, hl]) fun i hi => hb i hi]
  exact Good.refl _ _
theorem Best.unique {rows : List (List Int)} {C : Nat} {m m' : List Int} (h : Best rows C m) (h' : BestFrom rows C [] m') : m = m' :=
  (h.good h'.valid).anti (h'.best m h.valid fun i hi => by simp at hi)

theorem gm_getE {m : List Int} {i : Nat} (h : i < m.length) : gm m i = m[i] := by unfold gm; rw [List.getElem?_eq_getElem h]; rfl
theorem Nums.gm {w : World} {A : Nat → Prop} {o : Option Addr} {xs : List Int} (h : Nums w A o xs) {j : Nat} (hj : j < xs.length) : ∃ a, o = some a ∧ w.cell? (a.add ((j : Int).toNat * 1)) = some (.int .i64 (gm xs j)) := by
  rw [gm_getE hj]; exact h.get hj
theorem ahead_c (oa ob : Option Addr) (ca cb : Nat) (xs ys : List Int) (w : World) {A B : Nat → Prop} (ha : Nums w A oa xs) (hb : Nums w B ob ys) (hl : xs.length = ys.length) (hs : xs.length ≤ 1000) :
    Calls Tryd.prog 61 #[.slice oa xs.length ca, .slice ob ys.length cb] w fun e w' => ∃ b, e = .returned (.bool b) ∧ (b = true ↔ Ahead xs ys) ∧ Grow w w' := by
  refine nf61 oa xs.length ca ob ys.length cb w _ ⟨fun n x w' => ∃ i : Nat, x = (i : Int) ∧ i ≤ xs.length ∧ n = xs.length - i ∧ (∀ k, k < i → gm xs k = gm ys k) ∧ Grow w w', ⟨_, 0, rfl, Nat.zero_le _, rfl, fun k hk => by omega, Only.refl _ _⟩, ?_⟩
  rintro n _ w1 x ⟨i, rfl, hi, rfl, hI, g1⟩
  refine ⟨fun hlt w2 e2 => ?_, fun hge => ⟨false, rfl, ⟨fun h => Bool.noConfusion h, fun ⟨a, h1, h2, h3, _⟩ => ?_⟩, g1⟩⟩
  · have hlt : i < xs.length := by have := dT hlt; omega
    have g2 : Grow w w2 := g1.trans' (only_drew e2)
    obtain ⟨a, e1, c1⟩ := Nums.gm (ha.grow g2) hlt
    obtain ⟨b, e3, c2⟩ := Nums.gm (hb.grow g2) (j := i) (by omega)
    refine ⟨a, e1, ⟨by omega, by omega⟩, _, c1, b, e3, ⟨by omega, by omega⟩, _, c2, fun hne w3 e4 => ?_, fun heq => ⟨_, by omega, i + 1, by rw [wr (by omega)]; omega, hlt, rfl, fun k hk => ?_, g2⟩⟩
    · have hne := nT hne
      have g3 : Grow w w3 := g2.trans' (only_drew e4)
      obtain ⟨a, e1, c1⟩ := Nums.gm (ha.grow g3) hlt
      obtain ⟨b, e3, c2⟩ := Nums.gm (hb.grow g3) (j := i) (by omega)
      have key : ∀ z : Bool, (z = true ↔ gm xs i ≠ -1 ∧ (gm ys i = -1 ∨ gm xs i < gm ys i)) → ∃ b, Ending.returned (.bool z) = .returned (.bool b) ∧ (b = true ↔ Ahead xs ys) ∧ Grow w w3 := fun z hz => ⟨z, rfl, by
        rw [hz]
        constructor
        · rintro ⟨h1, h2⟩; exact ⟨i, hlt, hI, hne, h1, h2⟩
        · rintro ⟨a, h1, h2, h3, h4, h5⟩
          obtain rfl : a = i := by
            rcases Nat.lt_trichotomy a i with h | h | h
            · exact absurd (hI a h) h3
            · exact h
            · exact absurd (h2 i h) hne
          exact ⟨h4, h5⟩, g3⟩
      refine ⟨a, e1, ⟨by omega, by omega⟩, _, c1, fun h1 => ⟨b, e3, ⟨by omega, by omega⟩, _, c2, fun h2 => key true ⟨fun _ => ⟨nT h1, .inl (dT h2)⟩, fun _ => rfl⟩, fun h2 => ⟨a, e1, ⟨by omega, by omega⟩, _, c1, b, e3, ⟨by omega, by omega⟩, _, c2, fun h3 => key true ⟨fun _ => ⟨nT h1, .inr (dT h3)⟩, fun _ => rfl⟩, fun h3 => key false ⟨fun h => (by cases h), fun h => ?_⟩⟩⟩, fun h1 => key false ⟨fun h => (by cases h), fun h => absurd (nF h1) h.1⟩⟩
      have := dF h2
      have := dF h3
      omega
    · by_cases e : k = i
      · subst e; exact nF heq
      · exact hI k (by omega)
  · have := dF hge
    exact absurd (hI a (by omega)) h3
theorem better_c (o : Option Addr) (c : Nat) (rows : List (List Int)) (oa ob : Option Addr) (ca cb : Nat) (xs ys : List Int) (w : World) {A0 A B : Nat → Prop} (h : Mat w A0 o rows) (he : errOf rows = 0) (ha : Nums w A oa xs) (hb : Nums w B ob ys) (vx : Valid rows (first rows) xs) (vy : Valid rows (first rows) ys) :
    Calls Tryd.prog 55 #[.slice o rows.length c, .slice oa rows.length ca, .slice ob rows.length cb] w fun e w' => ∃ b, e = .returned (.bool b) ∧ (b = true ↔ betterB rows xs ys) ∧ Grow w w' := by
  have lx := vx.len
  have ly := vy.len
  obtain ⟨x1, x2, x3⟩ := vx.costs he
  obtain ⟨y1, y2, y3⟩ := vy.costs he
  have hR := (err0 he).1
  have cx := cost_c o oa c ca rows xs w h ha
  rw [x1, x2, x3, lx] at cx
  have cy := cost_c o ob c cb rows ys w h hb
  rw [y1, y2, y3, ly] at cy
  refine nf55 o rows.length c oa rows.length ca ob rows.length cb w _ (cx.mono ?_)
  rintro _ _ ⟨rfl, rfl⟩
  refine ⟨_, _, _, rfl, cy.mono ?_⟩
  rintro _ _ ⟨rfl, rfl⟩
  have key : ∀ (z : Bool) (w' : World), (z = true ↔ betterB rows xs ys) → Grow w w' → ∃ b, Ending.returned (.bool z) = .returned (.bool b) ∧ (b = true ↔ betterB rows xs ys) ∧ Grow w w' := fun z _ hz g => ⟨z, rfl, hz, g⟩
  have no : ∀ {p : Prop}, ¬ p → (false = true ↔ p) := fun hp => ⟨fun h => (by cases h), fun h => absurd h hp⟩
  refine ⟨_, _, _, rfl, fun h1 => ⟨fun h2 => key true w ⟨fun _ => .inl (dT h2), fun _ => rfl⟩ (Only.refl _ _), fun h2 => key false w (no ?_) (Only.refl _ _)⟩, fun h1 => ⟨fun h2 => ⟨fun h3 => key true w ⟨fun _ => .inr ⟨(nF h1).symm, .inl (dT h3)⟩, fun _ => rfl⟩ (Only.refl _ _), fun h3 => key false w (no ?_) (Only.refl _ _)⟩, fun h2 => ?_⟩⟩
  · have := nT h1; have := dF h2; unfold betterB; rintro (h | ⟨h, _⟩) <;> omega
  · have := nF h1; have := nT h2; have := dF h3; unfold betterB; rintro (h | ⟨h, h' | ⟨h', _⟩⟩) <;> omega
  · have ac := ahead_c oa ob ca cb xs ys w ha hb (by omega) (by omega)
    rw [lx, ly] at ac
    refine ac.mono ?_
    rintro _ w1 ⟨b, rfl, hb, g⟩
    have h1 := nF h1
    have h2 := nF h2
    have hiff : b = true ↔ betterB rows xs ys := by
      rw [hb]; unfold betterB
      exact ⟨fun h => .inr ⟨h1.symm, .inr ⟨h2, h⟩⟩, fun h => by rcases h with h | ⟨_, h | ⟨_, h⟩⟩ <;> first | omega | exact h⟩
    refine ⟨b, rfl, fun hb' => ?_, fun hb' => ?_⟩
    · subst hb'; exact ⟨true, rfl, hiff, g⟩
    · subst hb'; exact ⟨false, rfl, hiff, g⟩
theorem own_nilrow {w w1 : World} {T B : Nat} (e : w1 = w.alloc (.cells #[] T (0, 0))) (hB : B ≤ hs w) : Own w1 B T 1 (some ⟨hs w, 0, none⟩) 0 0 (intsV []) :=
  Row.own (l := []) (Row.new e) hB rfl (Nat.zero_le _)

set_option maxRecDepth 10000 in
set_option maxHeartbeats 4000000 in
theorem all_c (o : Option Addr) (c : Nat) (rows : List (List Int)) (he : errOf rows = 0) : ∀ (k : Nat) (mo : Option Addr) (mc : Nat) (p : List Int) (w : World) (A0 A : Nat → Prop), p.length + k = rows.length → Mat w A0 o rows → Nums w A mo p → Pre rows (first rows) p →
    Calls Tryd.prog 43 #[.slice o rows.length c, .slice mo p.length mc] w fun e w' => ∃ o' c' m, e = .returned (.slice o' rows.length c') ∧ Nums w' (fun _ => True) o' m ∧ BestFrom rows (first rows) p m ∧ Grow w w' := by
  intro k
  induction k with
  | zero =>
    intro mo mc p w A0 A hl h hn hp
    refine nf43 o rows.length c mo p.length mc w _ (yes (by omega) ⟨mo, mc, p, by rw [← hl]; rfl, hn.mono fun _ _ => trivial, hp.done (by omega), Only.refl _ _⟩)
  | succ k ih =>
    intro mo mc p w A0 A hl h hn hp
    have hR := (err0 he).1
    have hC := first_le he
    have hrow : ∀ r ∈ rows, r.length = first rows := fun r hr => ((err0 he).2.2 r hr).1
    have hlt : p.length < rows.length := by omega
    have hmx : ∀ k, k ≤ 100 → k ≤ maxLen := fun k hk => by unfold maxLen; omega
    -- a copy of the beginning with one column more
    have push : ∀ (w0 : World) (x : Int) (K : Option Addr → Nat → Nat → World → Prop), Grow w w0 → (∀ o' c' w', Nums w' (fun _ => True) o' (p ++ [x]) → Grow w0 w' → K o' (p ++ [x]).length c' w') →
        ∀ w3, w3 = w0.alloc (.cells #[] 3 (0, 0)) → RunOk Tryd.prog (Hold (Builtin.append_ #[23, 23] 23 #[.slice (some ⟨hs w0, 0, none⟩) 0 0, .slice mo p.length mc])) w3 fun v5 w6 => ∃ o7 n8 n9, v5 = .slice o7 n8 n9 ∧
          ∀ w10, w10 = w6.alloc (.cells #[.int .i64 x] 3 (0, 0)) → RunOk Tryd.prog (Hold (Builtin.append_ #[23, 23] 23 #[.slice o7 n8 n9, .slice (some ⟨hs w6, 0, none⟩) 1 1])) w10 fun v12 w13 => ∃ o14 n15 n16, v12 = .slice o14 n15 n16 ∧ K o14 n15 n16 w13 := by
      intro w0 x K g0 hK w3 e3
      have l3 := hs_alloc e3
      have o3 := own_nilrow e3 (Nat.le_refl _)
      refine append_nums elem23 o3 ((hn.grow g0).grow (only_alloc e3)) (hmx _ (by omega)) (by omega) (by omega) fun o' c' w6 h6 g6 => ⟨_, _, _, rfl, fun w10 e10 => ?_⟩
      have g36 : Grow w0 w6 := (only_alloc e3).trans g6 fun b hb hin => by have := (o3.base b hin).1; omega
      have l6 := g36.size
      rw [Nat.zero_add] at h6 ⊢
      refine run_append_row elem23 (h6.grow (only_alloc e10)) (Row.new e10) rfl (by simp [Value.oneCell']) (hmx _ (by omega)) (by omega) (by have := hs_alloc e10; omega) fun o'' c'' w13 h13 g13 _ => ⟨_, _, _, rfl, ?_⟩
      have e : p.length + 1 = (p ++ [x]).length := by simp
      rw [e] at h13 ⊢
      refine hK o'' c'' w13 ?_ ?_
      · exact (Own.nums (xs := p ++ [x]) (by simpa [intsV] using h13)).mono fun _ _ => trivial
      · exact (g36.trans' (only_alloc e10)).trans g13 fun b hb hin => by have := (h6.base b hin).1; omega
    refine nf43 o rows.length c mo p.length mc w _ (no (by omega) (push w (-1) _ (Only.refl _ _) fun o1 c1 w1 n1 g1 => ?_))
    refine (ih o1 c1 (p ++ [-1]) w1 A0 _ (by simp; omega) (h.grow g1) n1 (hp.none hlt)).mono ?_
    rintro _ w2 ⟨o2, c2, m2, rfl, n2, b2, g2⟩
    have G2 := g1.trans' g2
    obtain ⟨a, oi, ci, ha, hc, -⟩ := (h.grow G2).get hlt
    rw [hrow _ (List.getElem_mem hlt)] at hc
    refine ⟨_, _, _, rfl, a, ha, ⟨by omega, by omega⟩, _, _, _, hc, fun n o' l' c' x w' => ∃ (d : Nat) (m : List Int), x = (d : Int) ∧ d ≤ first rows ∧ n = first rows - d ∧ l' = rows.length ∧ Nums w' (fun _ => True) o' m ∧ BestUp rows (first rows) p d m ∧ Grow w w', ⟨_, 0, m2, rfl, Nat.zero_le _, rfl, rfl, n2, b2.up hlt, G2⟩, ?_⟩
    rintro n _ w3 o3 _ c3 x ⟨d, m, rfl, hd, rfl, rfl, n3, b3, g3⟩
    refine ⟨fun hlt2 => ?_, fun hge => ⟨o3, c3, m, rfl, n3, ?_, g3⟩⟩
    · have hd : d < first rows := by have := dT hlt2; omega
      obtain ⟨a, oi, ci, ha, hc, a', ha', hc'⟩ := mat_cell (h.grow g3) hrow hlt hd
      refine ⟨a, ha, ⟨by omega, by omega⟩, _, _, _, hc, a', ha', ⟨by omega, by omega⟩, _, hc', fun hfin => ?_, fun hinf => ?_⟩
      · have hfin := nT hfin
        refine ⟨fun n b x w' => ∃ t : Nat, x = (t : Int) ∧ t ≤ p.length ∧ n = p.length - t ∧ (b = true ↔ ∀ i, i < t → gm p i ≠ (d : Int)) ∧ w3 = w', ⟨_, 0, rfl, Nat.zero_le _, rfl, by simp, rfl⟩, ?_⟩
        rintro n _ _ b x ⟨t, rfl, ht, rfl, hb, rfl⟩
        refine ⟨fun hlt3 => ?_, fun hge3 => ?_⟩
        · have ht : t < p.length := by have := dT hlt3; omega
          obtain ⟨a2, e2, c2⟩ := Nums.gm (hn.grow g3) ht
          have next : ∀ b' : Bool, (b' = true ↔ (b = true ∧ gm p t ≠ (d : Int))) → ∃ n, n < p.length - t ∧ ∃ t' : Nat, IntKind.wrap .i64 ((t : Int) + 1) = (t' : Int) ∧ t' ≤ p.length ∧ n = p.length - t' ∧ (b' = true ↔ ∀ i, i < t' → gm p i ≠ (d : Int)) ∧ w3 = w3 := fun b' hb' => ⟨_, by omega, t + 1, by rw [wr (by omega)]; omega, ht, rfl, by
            rw [hb', hb]
            constructor
            · rintro ⟨h1, h2⟩ i hi
              by_cases e : i = t
              · subst e; exact h2
              · exact h1 i (by omega)
            · intro h1; exact ⟨fun i hi => h1 i (by omega), h1 t (by omega)⟩, rfl⟩
          refine ⟨a2, e2, ⟨by omega, by omega⟩, _, c2, fun h1 => ⟨fun h2 => next true ⟨fun _ => ⟨h1, nT h2⟩, fun _ => rfl⟩, fun h2 => next false ⟨fun h => (by cases h), fun h => absurd (nF h2) h.2⟩⟩, fun h1 => next false ⟨fun h => (by cases h), fun h => (by rw [h1] at h; cases h.1)⟩⟩
        · have hge3 := dF hge3
          obtain rfl : t = p.length := by omega
          refine ⟨fun hfree => ?_, fun hnf => ⟨_, by omega, d + 1, m, by rw [wr (by omega)]; omega, hd, rfl, rfl, n3, b3.skip hlt (.inr ?_), g3⟩⟩
          · have hfree := hb.1 hfree
            have pre := hp.col hlt hd hfin hfree
            refine push w3 (d : Int) _ g3 fun o4 c4 w4 n4 g4 => ?_
            refine (ih o4 c4 (p ++ [(d : Int)]) w4 A0 _ (by simp; omega) ((h.grow g3).grow g4) n4 pre).mono ?_
            rintro _ w5 ⟨o5, c5, m5, rfl, n5, b5, g5⟩
            have n35 := (n3.grow g4).grow g5
            refine ⟨_, _, _, rfl, (better_c o c rows o5 o3 c5 c3 m5 m w5 (((h.grow g3).grow g4).grow g5) he n5 n35 b5.valid b3.valid).mono ?_⟩
            rintro _ w6 ⟨b, rfl, hbb, g6⟩
            have tk := b3.take b5
            have G6 := ((g3.trans' g4).trans' g5).trans' g6
            refine ⟨b, rfl, fun h1 => ⟨_, by omega, d + 1, m5, by rw [wr (by omega)]; omega, hd, rfl, rfl, n5.grow g6, tk.1 (hbb.1 h1), G6⟩, fun h1 => ⟨_, by omega, d + 1, m, by rw [wr (by omega)]; omega, hd, rfl, rfl, n35.grow g6, tk.2 (fun h => by rw [hbb.2 h] at h1; cases h1), G6⟩⟩
          · refine Classical.byContradiction fun hno => ?_
            rw [hb.2 (fun i hi e => hno ⟨i, hi, e⟩)] at hnf
            cases hnf
      · have hinf := nF hinf
        refine ⟨fun n b x w' => ∃ t : Nat, x = (t : Int) ∧ t ≤ p.length ∧ n = p.length - t ∧ b = false ∧ w3 = w', ⟨_, 0, rfl, Nat.zero_le _, rfl, rfl, rfl⟩, ?_⟩
        rintro n _ _ b x ⟨t, rfl, ht, rfl, rfl, rfl⟩
        refine ⟨fun hlt3 => ?_, fun hge3 => bF ⟨_, by omega, d + 1, m, by rw [wr (by omega)]; omega, hd, rfl, rfl, n3, b3.skip hlt (.inl hinf), g3⟩⟩
        have ht : t < p.length := by have := dT hlt3; omega
        obtain ⟨a2, e2, c2⟩ := Nums.gm (hn.grow g3) ht
        exact ⟨a2, e2, ⟨by omega, by omega⟩, _, c2, bF ⟨_, by omega, t + 1, by rw [wr (by omega)]; omega, ht, rfl, rfl, rfl⟩⟩
    · have hge := dF hge
      obtain rfl : d = first rows := by omega
      exact b3.all hlt
theorem best_c (o : Option Addr) (c : Nat) (rows : List (List Int)) (w : World) {A0 : Nat → Prop} (h : Mat w A0 o rows) (he : errOf rows = 0) :
    Calls Tryd.prog 25 #[.slice o rows.length c] w fun e w' => ∃ o' c' m, e = .returned (.tuple #[.slice o' rows.length c', .int .i64 (tot rows m rows.length), .int .i64 0]) ∧ Nums w' (fun _ => True) o' m ∧ BestFrom rows (first rows) [] m ∧ Grow w w' := by
  refine nf25 o rows.length c w _ ((right_c o c rows w h).mono ?_)
  rintro _ _ ⟨rfl, rfl⟩
  refine ⟨_, rfl, nno he ?_⟩
  refine (all_c o c rows he rows.length none 0 [] w A0 (fun _ => True) (by simp) h (fun j v hj => by simp at hj) ⟨by simp, fun i hi => by simp at hi, fun i k hi => by simp at hi⟩).mono ?_
  rintro _ w1 ⟨o1, c1, m, rfl, n1, b1, g1⟩
  obtain ⟨k1, k2, k3⟩ := b1.valid.costs he
  have cc := cost_c o o1 c c1 rows m w1 (h.grow g1) n1
  rw [k1, k2, k3, b1.valid.len] at cc
  refine ⟨_, _, _, rfl, cc.mono ?_⟩
  rintro _ _ ⟨rfl, rfl⟩
  exact ⟨_, _, _, rfl, o1, c1, m, rfl, n1, b1, g1⟩
end Go.Proofs.YtneklhmkiememaaDoor
