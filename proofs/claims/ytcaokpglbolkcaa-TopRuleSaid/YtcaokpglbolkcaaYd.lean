/- Plain: small facts on assignments. -/
import Derived.Test.YtcaokpglbolkcaaYc
namespace Go.Proofs.Ytcaokpglbolkcaa
open Go Go.Nf

def one (x : Int) : Int := if x = -1 then 0 else 1
def val (rows : List (List Int)) (i : Nat) (x : Int) : Int := if x = -1 then 0 else at2 rows i x
theorem gm_out {m : List Int} {i : Nat} (h : m.length ≤ i) : gm m i = -1 := by unfold gm; rw [List.getElem?_eq_none h]; rfl
theorem Valid.costs {rows : List (List Int)} {m : List Int} (h : Valid rows (first rows) m) (he : errOf rows = 0) : costE rows m = 0 ∧ costN rows m = cnt m rows.length ∧ costS rows m = tot rows m rows.length := by
  have hl := h.len
  obtain ⟨_, _, h3⟩ := err0 he
  have hE : costE rows m = 0 := by
    unfold costE
    rw [if_pos he, if_pos hl, if_pos]
    unfold okAll
    rw [List.all_eq_true]
    intro i hi
    have hi : i < rows.length := by simp at hi; omega
    rcases h.ok i hi with e | ⟨h1, h2, h4⟩
    · unfold okA; rw [e]; rfl
    · refine okA_mk h1 ?_ h4 fun k hk e => ?_
      · rw [List.getElem?_eq_getElem hi]
        have := (h3 _ (List.getElem_mem hi)).1
        simp only [Option.getD_some]; omega
      · have := h.ne i k hi (by omega) (by omega) e; omega
  refine ⟨hE, ?_, ?_⟩
  · unfold costN; rw [if_pos hE, hl]
  · unfold costS; rw [if_pos hE, hl]
theorem mat_cell {w : World} {A : Nat → Prop} {o : Option Addr} {rows : List (List Int)} {C i j : Nat} (h : Mat w A o rows) (hrow : ∀ r ∈ rows, r.length = C) (hi : i < rows.length) (hj : j < C) :
    ∃ a oi ci, o = some a ∧ w.cell? (a.add ((i : Int).toNat * 1)) = some (.slice oi C ci) ∧ ∃ a', oi = some a' ∧ w.cell? (a'.add ((j : Int).toNat * 1)) = some (.int .i64 (at2 rows i (j : Int))) := by
  obtain ⟨a, oi, ci, ha, hc, hn⟩ := h.get hi
  have hl : rows[i].length = C := hrow _ (List.getElem_mem hi)
  obtain ⟨a', ha', hc'⟩ := hn.get (j := j) (by omega)
  rw [hl] at hc
  rw [← at2_get hi (by omega)] at hc'
  exact ⟨a, oi, ci, ha, hc, a', ha', hc'⟩

theorem cnt_sum (m : List Int) : ∀ n, cnt m n = sumN n (fun i => one (gm m i))
  | 0 => rfl
  | n + 1 => by rw [cnt, sumN, cnt_sum m n]; rfl
theorem tot_sum (rows : List (List Int)) (m : List Int) : ∀ n, tot rows m n = sumN n (fun i => val rows i (gm m i))
  | 0 => rfl
  | n + 1 => by rw [tot, sumN, tot_sum rows m n]; rfl
theorem sumN_rev (f : Nat → Int) (n : Nat) : sumN n (fun i => f (n - 1 - i)) = sumN n f :=
  sumN_perm f n (fun i => n - 1 - i) (fun i hi => by omega) fun i j hi hj e => by omega

theorem err_of {rows : List (List Int)} {C : Nat} (h1 : rows.length ≤ 64) (h2 : C ≤ 64) (h3 : ∀ r ∈ rows, r.length = C) (h4 : ∀ r ∈ rows, ∀ c ∈ r, isCost c = true) : errOf rows = 0 := by
  refine err_ok (by omega) (List.all_eq_true.2 fun r hr => by rw [decide_eq_true_eq, h3 r hr]; exact h2) (List.all_eq_true.2 fun r hr => ?_)
  unfold rowOk
  rw [Bool.and_eq_true, decide_eq_true_eq, List.all_eq_true]
  refine ⟨?_, h4 r hr⟩
  cases rows with
  | nil => cases hr
  | cons r0 rows => rw [h3 r hr]; exact (h3 r0 (by simp)).symm
theorem first_of {rows : List (List Int)} {C : Nat} (h3 : ∀ r ∈ rows, r.length = C) (hn : rows ≠ []) : first rows = C := by
  cases rows with
  | nil => exact absurd rfl hn
  | cons r0 rows => exact h3 r0 (by simp)
theorem Ahead.not {x y : List Int} (h1 : Ahead x y) (h2 : Ahead y x) : False := by
  obtain ⟨a, a1, a2, a3, a4, a5⟩ := h1
  obtain ⟨b, b1, b2, b3, b4, b5⟩ := h2
  rcases Nat.lt_trichotomy a b with h | h | h
  · exact a3 (b2 a h).symm
  · subst h; omega
  · exact b3 (a2 b h).symm
theorem gm_getE {m : List Int} {i : Nat} (h : i < m.length) : gm m i = m[i] := by unfold gm; rw [List.getElem?_eq_getElem h]; rfl
theorem Nums.gm {w : World} {A : Nat → Prop} {o : Option Addr} {xs : List Int} (h : Nums w A o xs) {j : Nat} (hj : j < xs.length) : ∃ a, o = some a ∧ w.cell? (a.add ((j : Int).toNat * 1)) = some (.int .i64 (gm xs j)) := by
  rw [gm_getE hj]; exact h.get hj
theorem own_nilrow {w w1 : World} {T B : Nat} (e : w1 = w.alloc (.cells #[] T (0, 0))) (hB : B ≤ hs w) : Own w1 B T 1 (some ⟨hs w, 0, none⟩) 0 0 (intsV []) :=
  Row.own (l := []) (Row.new e) hB rfl (Nat.zero_le _)

end Go.Proofs.Ytcaokpglbolkcaa
