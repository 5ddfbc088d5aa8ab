/- Plain: how many required kinds a set of units leaves unmet; a unit more never hurts. -/
namespace Go.Proofs.YtolpmdmcbciccaaDoor

def dec1 (c : Int → Nat) (k : Int) : Int → Nat := fun x => if x = k then c x - 1 else c x
def pass1 : (Int → Nat) → List Int → (Int → Nat) × List Int
  | c, [] => (c, [])
  | c, k :: ks => if 0 < c k then pass1 (dec1 c k) ks else ((pass1 c ks).1, k :: (pass1 c ks).2)
def pass2 : Nat → List Int → List Int
  | _, [] => []
  | n, k :: ks => if k = 1 ∧ 0 < n then pass2 (n - 1) ks else k :: pass2 n ks
def unmetL (want : List Int) (c : Int → Nat) : List Int := pass2 ((pass1 c want).1 2) (pass1 c want).2
def cnt (l : List Int) (x : Int) : Nat := l.countP fun y => decide (y = x)
theorem pass2_len : ∀ (l : List Int) (n : Nat), (pass2 n l).length + min (cnt l 1) n = l.length
  | [], n => by simp [pass2, cnt]
  | k :: ks, n => by
    unfold pass2
    by_cases h : k = 1 ∧ 0 < n
    · rw [if_pos h]
      have ih := pass2_len ks (n - 1)
      have e : cnt (k :: ks) 1 = cnt ks 1 + 1 := by unfold cnt; rw [List.countP_cons, if_pos (by simp [h.1])]
      rw [e, List.length_cons]
      omega
    · rw [if_neg h]
      have ih := pass2_len ks n
      by_cases hk : k = 1
      · have hn : n = 0 := by
          rcases Nat.eq_zero_or_pos n with h0 | h0
          · exact h0
          · exact absurd ⟨hk, h0⟩ h
        subst hn
        rw [List.length_cons, List.length_cons]
        omega
      · have e : cnt (k :: ks) 1 = cnt ks 1 := by unfold cnt; rw [List.countP_cons, if_neg (by simp [hk])]; rfl
        rw [e, List.length_cons, List.length_cons]
        omega
theorem dec1_comm (c : Int → Nat) (j k : Int) : dec1 (dec1 c j) k = dec1 (dec1 c k) j := by
  funext x
  show (if x = k then (if x = j then c x - 1 else c x) - 1 else (if x = j then c x - 1 else c x)) = if x = j then (if x = k then c x - 1 else c x) - 1 else (if x = k then c x - 1 else c x)
  split <;> split <;> rfl
theorem dec1_other {c : Int → Nat} {j k : Int} (h : k ≠ j) : dec1 c j k = c k := by unfold dec1; rw [if_neg h]
theorem dec1_same (c : Int → Nat) (j : Int) : dec1 c j j = c j - 1 := by unfold dec1; rw [if_pos rfl]
/-- one unit less -/
theorem pass1_less : ∀ (want : List Int) (c : Int → Nat) (j : Int), 0 < c j →
    ((pass1 (dec1 c j) want).2 = (pass1 c want).2 ∧ (pass1 (dec1 c j) want).1 = dec1 (pass1 c want).1 j ∧ 0 < (pass1 c want).1 j) ∨
    ((pass1 (dec1 c j) want).1 = (pass1 c want).1 ∧ ∃ A B, (pass1 c want).2 = A ++ B ∧ (pass1 (dec1 c j) want).2 = A ++ j :: B)
  | [], c, j, h => .inl ⟨rfl, rfl, h⟩
  | k :: ks, c, j, h => by
    by_cases e : k = j
    · subst e
      by_cases h2 : 1 < c k
      · have e1 : pass1 (dec1 c k) (k :: ks) = pass1 (dec1 (dec1 c k) k) ks := by
          rw [pass1, if_pos (by rw [dec1_same]; omega)]
        have e2 : pass1 c (k :: ks) = pass1 (dec1 c k) ks := by rw [pass1, if_pos h]
        rw [e1, e2]
        exact pass1_less ks (dec1 c k) k (by rw [dec1_same]; omega)
      · have e1 : pass1 (dec1 c k) (k :: ks) = ((pass1 (dec1 c k) ks).1, k :: (pass1 (dec1 c k) ks).2) := by
          rw [pass1, if_neg (by rw [dec1_same]; omega)]
        have e2 : pass1 c (k :: ks) = pass1 (dec1 c k) ks := by rw [pass1, if_pos h]
        rw [e1, e2]
        exact .inr ⟨rfl, [], _, rfl, rfl⟩
    · by_cases h2 : 0 < c k
      · have e1 : pass1 (dec1 c j) (k :: ks) = pass1 (dec1 (dec1 c k) j) ks := by
          rw [pass1, if_pos (by rw [dec1_other e]; exact h2), dec1_comm]
        have e2 : pass1 c (k :: ks) = pass1 (dec1 c k) ks := by rw [pass1, if_pos h2]
        rw [e1, e2]
        exact pass1_less ks (dec1 c k) j (by rw [dec1_other fun h => e h.symm]; exact h)
      · have e1 : pass1 (dec1 c j) (k :: ks) = ((pass1 (dec1 c j) ks).1, k :: (pass1 (dec1 c j) ks).2) := by
          rw [pass1, if_neg (by rw [dec1_other e]; exact h2)]
        have e2 : pass1 c (k :: ks) = ((pass1 c ks).1, k :: (pass1 c ks).2) := by rw [pass1, if_neg h2]
        rw [e1, e2]
        rcases pass1_less ks c j h with ⟨h3, h4, h5⟩ | ⟨h3, A, B, h4, h5⟩
        · exact .inl ⟨by simp only [h3], h4, h5⟩
        · exact .inr ⟨h3, k :: A, B, by simp only [h4, List.cons_append], by simp only [h5, List.cons_append]⟩
theorem cnt_append (a b : List Int) (x : Int) : cnt (a ++ b) x = cnt a x + cnt b x := by unfold cnt; rw [List.countP_append]
theorem cnt_cons (a : Int) (b : List Int) (x : Int) : cnt (a :: b) x = cnt b x + if a = x then 1 else 0 := by
  unfold cnt
  rw [List.countP_cons]
  by_cases h : a = x <;> simp [h]
theorem unmet_less (want : List Int) (c : Int → Nat) (j : Int) (h : 0 < c j) : (unmetL want c).length ≤ (unmetL want (dec1 c j)).length := by
  unfold unmetL
  have l1 := pass2_len (pass1 c want).2 ((pass1 c want).1 2)
  have l2 := pass2_len (pass1 (dec1 c j) want).2 ((pass1 (dec1 c j) want).1 2)
  rcases pass1_less want c j h with ⟨h3, h4, h5⟩ | ⟨h3, A, B, h4, h5⟩
  · rw [h3, h4] at l2
    rw [h3, h4]
    have : dec1 (pass1 c want).1 j 2 ≤ (pass1 c want).1 2 := by
      unfold dec1
      split <;> omega
    omega
  · rw [h3, h5] at l2
    rw [h4] at l1
    rw [h3, h4, h5]
    rw [cnt_append, cnt_cons, List.length_append, List.length_cons] at l2
    rw [cnt_append, List.length_append] at l1
    have : (if j = 1 then 1 else 0) ≤ 1 := by split <;> omega
    omega
/-- from what is in a list -/
theorem cnt_dec (a : Int) (l : List Int) : dec1 (cnt (a :: l)) a = cnt l := by
  funext x
  unfold dec1
  rw [cnt_cons]
  by_cases h : x = a
  · rw [if_pos h, if_pos h.symm]; omega
  · rw [if_neg h, if_neg fun e => h e.symm]; rfl
theorem unmet_tail (want : List Int) (a : Int) (l : List Int) : (unmetL want (cnt (a :: l))).length ≤ (unmetL want (cnt l)).length := by
  have := unmet_less want (cnt (a :: l)) a (by rw [cnt_cons, if_pos rfl]; omega)
  rwa [cnt_dec] at this
theorem pass1_sub : ∀ (want : List Int) (c : Int → Nat), (pass1 c want).2.length ≤ want.length
  | [], _ => Nat.le_refl _
  | k :: ks, c => by
    rw [pass1]
    split
    · exact Nat.le_succ_of_le (pass1_sub ks _)
    · exact Nat.succ_le_succ (pass1_sub ks c)
theorem unmet_sub (want : List Int) (c : Int → Nat) : (unmetL want c).length ≤ want.length := by
  have := pass2_len (pass1 c want).2 ((pass1 c want).1 2)
  have := pass1_sub want c
  unfold unmetL
  omega
def levelOf (n : Int) : Int := if n ≤ 0 then 0 else if n ≤ 2 then 1 else if n ≤ 5 then 2 else if n ≤ 10 then 3 else if n ≤ 20 then 4 else 5
theorem level_mono {a b : Int} (h : a ≤ b) : levelOf a ≤ levelOf b := by
  unfold levelOf
  repeat' split
  all_goals omega
theorem level_range (a : Int) : 0 ≤ levelOf a ∧ levelOf a ≤ 5 := by
  unfold levelOf
  repeat' split
  all_goals omega
end Go.Proofs.YtolpmdmcbciccaaDoor
