/- Plain: what the best assignment bears no change of: one row, two rows. -/
import Derived.Test.YtalplekmbhemnaaGn
namespace Go.Proofs.Ytalplekmbhemnaa
open Go Go.Nf

def one (x : Int) : Int := if x = -1 then 0 else 1
def val (rows : List (List Int)) (i : Nat) (x : Int) : Int := if x = -1 then 0 else at2 rows i x
theorem cnt_put {m : List Int} {i : Nat} {x : Int} (h : i < m.length) : ∀ n, cnt (m.set i x) n = cnt m n + if i < n then one x - one (gm m i) else 0
  | 0 => by simp [cnt]
  | n + 1 => by
    rw [cnt, cnt, cnt_put h n, gm_set h]
    by_cases e : n = i
    · subst e
      rw [if_neg (Nat.lt_irrefl n), if_pos rfl, if_pos (Nat.lt_succ_self n)]
      show cnt m n + 0 + one x = cnt m n + one (gm m n) + (one x - one (gm m n))
      omega
    · rw [if_neg e]
      generalize (if gm m n = -1 then (0 : Int) else 1) = z
      by_cases e2 : i < n
      · rw [if_pos e2, if_pos (by omega)]; omega
      · rw [if_neg e2, if_neg (by omega)]; omega
theorem tot_put {rows : List (List Int)} {m : List Int} {i : Nat} {x : Int} (h : i < m.length) : ∀ n, tot rows (m.set i x) n = tot rows m n + if i < n then val rows i x - val rows i (gm m i) else 0
  | 0 => by simp [tot]
  | n + 1 => by
    rw [tot, tot, tot_put h n, gm_set h]
    by_cases e : n = i
    · subst e
      rw [if_neg (Nat.lt_irrefl n), if_pos rfl, if_pos (Nat.lt_succ_self n)]
      show tot rows m n + 0 + val rows n x = tot rows m n + val rows n (gm m n) + (val rows n x - val rows n (gm m n))
      omega
    · rw [if_neg e]
      generalize (if gm m n = -1 then 0 else at2 rows n (gm m n)) = z
      by_cases e2 : i < n
      · rw [if_pos e2, if_pos (by omega)]; omega
      · rw [if_neg e2, if_neg (by omega)]; omega
theorem gm_out {m : List Int} {i : Nat} (h : m.length ≤ i) : gm m i = -1 := by unfold gm; rw [List.getElem?_eq_none h]; rfl
/-- one row takes a free column -/
theorem Best.free {rows : List (List Int)} {C : Nat} {m : List Int} (h : Best rows C m) {i d : Nat} (hi : i < rows.length) (hd : d < C) (hfree : ∀ k, k < rows.length → gm m k ≠ (d : Int)) (hfin : at2 rows i (d : Int) ≠ Inf) :
    gm m i ≠ -1 ∧ at2 rows i (gm m i) ≤ at2 rows i (d : Int) ∧ ¬ (at2 rows i (d : Int) = at2 rows i (gm m i) ∧ (d : Int) < gm m i) := by
  have hv := h.valid
  have hl := hv.len
  have hil : i < m.length := by omega
  have v' : Valid rows C (m.set i (d : Int)) := by
    refine ⟨by simpa using hl, fun k hk => ?_, fun k k' hk hk' => ?_⟩
    · rw [gm_set hil]
      by_cases e : k = i
      · subst e; rw [if_pos rfl]; exact .inr ⟨by omega, by omega, hfin⟩
      · rw [if_neg e]; exact hv.ok k hk
    · rw [gm_set hil, gm_set hil]
      by_cases e : k = i <;> by_cases e' : k' = i
      · intros; omega
      · rw [if_pos e, if_neg e']; intro _ h2; exact absurd h2 (hfree k' hk')
      · rw [if_neg e, if_pos e']; intro _ h2; exact absurd h2.symm (hfree k hk)
      · rw [if_neg e, if_neg e']; exact hv.ne k k' hk hk'
  have h1 := h.most _ v'
  rw [cnt_put hil, if_pos hi] at h1
  have hone : one (d : Int) = 1 := if_neg (by omega)
  have hval : val rows i (d : Int) = at2 rows i (d : Int) := if_neg (by omega)
  rw [hone] at h1
  have hne : gm m i ≠ -1 := fun e => by
    have : one (gm m i) = 0 := if_pos e
    omega
  have hone' : one (gm m i) = 1 := if_neg hne
  have hval' : val rows i (gm m i) = at2 rows i (gm m i) := if_neg hne
  have hc : cnt (m.set i (d : Int)) rows.length = cnt m rows.length := by rw [cnt_put hil, if_pos hi]; omega
  have h2 := h.least _ v' hc
  have ht := tot_put (rows := rows) (x := (d : Int)) hil rows.length
  rw [if_pos hi, hval, hval'] at ht
  refine ⟨hne, by omega, fun ⟨e, hlt⟩ => ?_⟩
  rcases h.first _ v' hc (by omega) with e' | ⟨a, ha, hb, hx, hy, hz⟩
  · have : gm (m.set i (d : Int)) i = gm m i := by rw [e']
    rw [gm_set hil, if_pos rfl] at this; omega
  · rw [gm_set hil] at hx hz
    by_cases e1 : a = i
    · subst e1; rw [if_pos rfl] at hz; omega
    · rw [if_neg e1] at hx; exact hx rfl
/-- two rows change their columns -/
theorem Best.swap {rows : List (List Int)} {C : Nat} {m : List Int} (h : Best rows C m) {i k : Nat} (hi : i < rows.length) (hk : k < i) (h1 : gm m i ≠ -1) (h2 : gm m k ≠ -1) (f1 : at2 rows i (gm m k) ≠ Inf) (f2 : at2 rows k (gm m i) ≠ Inf) :
    at2 rows i (gm m i) + at2 rows k (gm m k) ≤ at2 rows i (gm m k) + at2 rows k (gm m i) := by
  have hv := h.valid
  have hl := hv.len
  have hil : i < m.length := by omega
  have hkl : k < (m.set i (gm m k)).length := by simp; omega
  have ok1 := (hv.ok i hi).resolve_left h1
  have ok2 := (hv.ok k (by omega)).resolve_left h2
  have es : ∀ a, gm ((m.set i (gm m k)).set k (gm m i)) a = if a = k then gm m i else if a = i then gm m k else gm m a := fun a => by rw [gm_set hkl, gm_set hil]
  have v' : Valid rows C ((m.set i (gm m k)).set k (gm m i)) := by
    refine ⟨by simpa using hl, fun a ha => ?_, fun a b ha hb => ?_⟩
    · rw [es]
      by_cases e : a = k
      · subst e; rw [if_pos rfl]; exact .inr ⟨ok1.1, ok1.2.1, f2⟩
      · rw [if_neg e]
        by_cases e2 : a = i
        · subst e2; rw [if_pos rfl]; exact .inr ⟨ok2.1, ok2.2.1, f1⟩
        · rw [if_neg e2]; exact hv.ok a ha
    · rw [es, es]
      have key : ∀ a b, a < rows.length → b < rows.length → gm m a ≠ -1 → gm m b = gm m a → b = a := hv.ne
      intro g1 g2
      have nk : ∀ z, z < rows.length → gm m z = gm m i → z = i := fun z hz e => key i z hi hz h1 e
      have nk2 : ∀ z, z < rows.length → gm m z = gm m k → z = k := fun z hz e => key k z (by omega) hz h2 e
      by_cases e1 : a = k <;> by_cases e2 : b = k
      · omega
      · rw [if_pos e1, if_neg e2] at g2
        by_cases e3 : b = i
        · rw [if_pos e3] at g2; exact absurd (nk k (by omega) g2) (by omega)
        · rw [if_neg e3] at g2; exact absurd (nk b hb g2) e3
      · rw [if_neg e1, if_pos e2] at g2
        by_cases e3 : a = i
        · rw [if_pos e3] at g2; exact absurd (nk k (by omega) g2.symm) (by omega)
        · rw [if_neg e3] at g2; exact absurd (nk a ha g2.symm) e3
      · rw [if_neg e1, if_neg e2] at g2
        rw [if_neg e1] at g1
        by_cases e3 : a = i <;> by_cases e4 : b = i
        · omega
        · rw [if_pos e3, if_neg e4] at g2; exact absurd (nk2 b hb g2) e2
        · rw [if_neg e3, if_pos e4] at g2; exact absurd (nk2 a ha g2.symm) e1
        · rw [if_neg e3, if_neg e4] at g2
          rw [if_neg e3] at g1
          exact key a b ha hb g1 g2
  have o1 : one (gm m i) = 1 := if_neg h1
  have o2 : one (gm m k) = 1 := if_neg h2
  have gk : gm (m.set i (gm m k)) k = gm m k := by rw [gm_set hil, if_neg (by omega)]
  have hc : cnt ((m.set i (gm m k)).set k (gm m i)) rows.length = cnt m rows.length := by
    rw [cnt_put hkl, cnt_put hil, if_pos hi, if_pos (by omega), gk]; omega
  have ht := h.least _ v' hc
  rw [tot_put hkl, tot_put hil, if_pos hi, if_pos (by omega), gk] at ht
  have a1 : val rows i (gm m i) = at2 rows i (gm m i) := if_neg h1
  have a2 : val rows k (gm m k) = at2 rows k (gm m k) := if_neg h2
  have a3 : val rows i (gm m k) = at2 rows i (gm m k) := if_neg h2
  have a4 : val rows k (gm m i) = at2 rows k (gm m i) := if_neg h1
  omega
/-- the reference's words -/
theorem Valid.costs {rows : List (List Int)} {m : List Int} (h : Valid rows (first rows) m) (he : errOf rows = 0) : costE rows m = 0 ∧ costN rows m = cnt m rows.length ∧ costS rows m = tot rows m rows.length := by
  have hl := h.len
  obtain ⟨_, _, h3⟩ := err0 he
  have hE : costE rows m = 0 := by
    unfold costE
    rw [if_pos he, if_pos hl, if_pos]
    unfold okAll
    rw [List.all_eq_true]
    intro i hi
    have hi : i < rows.length := by simp at hi; omega
    rcases h.ok i hi with e | ⟨h1, h2, h4⟩
    · unfold okA; rw [e]; rfl
    · refine okA_mk h1 ?_ h4 fun k hk e => ?_
      · rw [List.getElem?_eq_getElem hi]
        have := (h3 _ (List.getElem_mem hi)).1
        simp only [Option.getD_some]; omega
      · have := h.ne i k hi (by omega) (by omega) e; omega
  refine ⟨hE, ?_, ?_⟩
  · unfold costN; rw [if_pos hE, hl]
  · unfold costS; rw [if_pos hE, hl]
theorem mat_cell {w : World} {A : Nat → Prop} {o : Option Addr} {rows : List (List Int)} {C i j : Nat} (h : Mat w A o rows) (hrow : ∀ r ∈ rows, r.length = C) (hi : i < rows.length) (hj : j < C) :
    ∃ a oi ci, o = some a ∧ w.cell? (a.add ((i : Int).toNat * 1)) = some (.slice oi C ci) ∧ ∃ a', oi = some a' ∧ w.cell? (a'.add ((j : Int).toNat * 1)) = some (.int .i64 (at2 rows i (j : Int))) := by
  obtain ⟨a, oi, ci, ha, hc, hn⟩ := h.get hi
  have hl : rows[i].length = C := hrow _ (List.getElem_mem hi)
  obtain ⟨a', ha', hc'⟩ := hn.get (j := j) (by omega)
  rw [hl] at hc
  rw [← at2_get hi (by omega)] at hc'
  exact ⟨a, oi, ci, ha, hc, a', ha', hc'⟩
end Go.Proofs.Ytalplekmbhemnaa
