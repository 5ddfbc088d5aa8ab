/- Plain: the reference's step of reading answers as the program's. -/
import Derived.Test.YtolpmdmcbciccaaDoorVc
namespace Go.Proofs.YtolpmdmcbciccaaDoor

def moreL (p : Pl) (l : Str) : Option Pl :=
  if p.steps.length < 5 ∧ l = opens p.steps.length then
    if p.steps.length = 0 ∨ 0 < (lastL p.steps).length then some ⟨p.name, p.steps ++ [[]]⟩ else none
  else if p.steps.length = 0 ∨ l.length < 2 ∨ l.take 2 ≠ dashW then none
  else if rightL ⟨p.name, addStep p.steps (l.drop 2)⟩ = -1 then some ⟨p.name, addStep p.steps (l.drop 2)⟩ else none
theorem dash_iff {l : Str} : dashW <+: l ↔ l.take 2 = dashW := ⟨fun h => by obtain ⟨t, rfl⟩ := h; rfl, fun h => ⟨l.drop 2, by rw [← h]; exact List.take_append_drop 2 l⟩⟩
theorem opens_take (n : Nat) : (opens n).take 2 ≠ dashW := by
  show levelW.take 2 ≠ dashW
  decide
theorem more_accept {n : Nat} {p : Pl} {l : Str} (hn : 0 < n) (hp : Soon p) : moreL p l = acceptL n p l := by
  unfold moreL acceptL
  rw [if_neg (show ¬ n = 0 by omega)]
  by_cases hl : l = opens p.steps.length
  · rw [if_pos hl]
    by_cases h5 : p.steps.length = 5
    · rw [if_neg (fun k => by omega), if_pos (.inr (.inr (by rw [hl]; exact opens_take _)) : p.steps.length = 0 ∨ l.length < 2 ∨ l.take 2 ≠ dashW), if_pos (.inl h5 : p.steps.length = 5 ∨ 0 < p.steps.length ∧ (lastL p.steps).length = 0)]
    · have := hp.few
      rw [if_pos ⟨by omega, hl⟩]
      by_cases h0 : p.steps.length = 0 ∨ 0 < (lastL p.steps).length
      · rw [if_pos h0, if_neg]
        rintro (k | ⟨k1, k2⟩) <;> omega
      · rw [if_neg h0, if_pos]
        exact .inr ⟨by omega, by omega⟩
  · rw [if_neg hl, if_neg fun k => hl k.2]
    by_cases hd : p.steps.length = 0 ∨ l.length < 2 ∨ l.take 2 ≠ dashW
    · rw [if_pos hd, if_neg]
      rintro ⟨k1, k2, -⟩
      rcases hd with h | h | h
      · omega
      · have := k1.length_le
        have e : dashW.length = 2 := rfl
        omega
      · exact h (dash_iff.1 k1)
    · rw [if_neg hd]
      have h0 : 0 < p.steps.length := by omega
      have hd2 : dashW <+: l := by
        rw [dash_iff]
        by_cases k : l.take 2 = dashW
        · exact k
        · exact absurd (.inr (.inr k)) hd
      have key : rightL ⟨p.name, addStep p.steps (l.drop 2)⟩ = -1 ↔ dashW <+: l ∧ 0 < p.steps.length ∧ (lastL p.steps).length ≠ 16 ∧ stepL (l.drop 2) = true ∧ l.drop 2 ∉ p.steps.flatten := by
        obtain ⟨a, y, e⟩ := steps_split h0
        constructor
        · intro h
          have h := right_iff.1 h
          have h1 := h.each; have h2 := h.step; have h3 := h.once
          simp only [e, addStep_append, List.flatten_append, List.flatten_cons, List.flatten_nil, List.append_nil] at h1 h2 h3
          refine ⟨hd2, h0, ?_, h2 _ (by simp), ?_⟩
          · have := (h1 (y ++ [l.drop 2]) (by simp)).2
            rw [List.length_append, List.length_singleton] at this
            rw [e, last_append]
            omega
          · rw [e]
            simp only [List.flatten_append, List.flatten_cons, List.flatten_nil, List.append_nil]
            intro k
            rw [← List.append_assoc] at h3
            exact (List.nodup_append.1 h3).2.2 _ k _ (List.mem_singleton.2 rfl) rfl
        · intro h
          have ha : acceptL n p l = some ⟨p.name, addStep p.steps (l.drop 2)⟩ := by
            unfold acceptL
            rw [if_neg (by omega), if_neg hl, if_pos h]
          refine right_iff.2 ((accept_soon ha fun _ => hp).right ?_)
          unfold doneL
          rw [e, addStep_append, last_append]
          simp
      by_cases hr : rightL ⟨p.name, addStep p.steps (l.drop 2)⟩ = -1
      · rw [if_pos hr, if_pos (key.1 hr)]
      · rw [if_neg hr, if_neg fun k => hr (key.2 k)]
theorem first_iff {l : Str} : (5 < l.length ∧ l.take 5 = planW ∧ nameL (l.drop 5) = true) ↔ (planW <+: l ∧ nameL (l.drop 5) = true) := by
  constructor
  · rintro ⟨-, h, h2⟩
    exact ⟨⟨l.drop 5, by rw [← h]; exact List.take_append_drop 5 l⟩, h2⟩
  · rintro ⟨h, h2⟩
    refine ⟨?_, by obtain ⟨t, rfl⟩ := h; rfl, h2⟩
    unfold nameL at h2
    simp only [Bool.and_eq_true, decide_eq_true_eq, List.length_drop] at h2
    omega
end Go.Proofs.YtolpmdmcbciccaaDoor
