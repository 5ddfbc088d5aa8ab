/- Plain: a right plan's text reads as that plan. -/
import Derived.Test.YtolpmdmcbciccaaDoorVb
namespace Go.Proofs.YtolpmdmcbciccaaDoor

theorem run_dash {nm : Str} {a : List (List Str)} {rest : List Str} : ∀ (l y : List Str) (n : Nat), 0 < n → y.length + l.length ≤ 16 → (∀ s ∈ l, stepL s = true) → (a.flatten ++ (y ++ l)).Nodup →
    runL n ⟨nm, a ++ [y]⟩ (l.map (dashW ++ ·) ++ rest) = runL (n + l.length) ⟨nm, a ++ [y ++ l]⟩ rest
  | [], y, n, _, _, _, _ => by simp
  | s :: l, y, n, hn, h16, hs, ho => by
    rw [List.length_cons] at h16
    have hd : (dashW ++ s).drop 2 = s := rfl
    have hno : s ∉ (a ++ [y]).flatten := by
      intro k
      have k : s ∈ a.flatten ++ y := by simpa using k
      have ho : (a.flatten ++ y ++ s :: l).Nodup := by rw [List.append_assoc]; exact ho
      exact (List.nodup_append.1 ho).2.2 s k s (.head _) rfl
    have ha : acceptL n ⟨nm, a ++ [y]⟩ (dashW ++ s) = some ⟨nm, a ++ [y ++ [s]]⟩ := by
      unfold acceptL
      rw [if_neg (by omega), if_neg (by intro k; cases k), hd]
      show (if _ ∧ 0 < (a ++ [y]).length ∧ (lastL (a ++ [y])).length ≠ 16 ∧ _ then _ else _) = _
      rw [if_pos ⟨⟨s, rfl⟩, by simp, by rw [last_append]; omega, hs s (.head _), hno⟩]
      rw [addStep_append]
    rw [List.map_cons, List.cons_append, runL, ha]
    show runL (n + 1) ⟨nm, a ++ [y ++ [s]]⟩ _ = _
    rw [run_dash l (y ++ [s]) (n + 1) (by omega) (by rw [List.length_append, List.length_singleton]; omega) (fun x hx => hs x (.tail _ hx)) (by simpa using ho)]
    rw [List.append_assoc, List.length_cons, show n + 1 + l.length = n + (l.length + 1) by omega]
    rfl
theorem run_steps {nm : Str} : ∀ (ls a : List (List Str)) (n : Nat), 0 < n → a.length + ls.length ≤ 5 → (0 < a.length → 0 < (lastL a).length) → (∀ l ∈ ls, 1 ≤ l.length ∧ l.length ≤ 16) → (∀ s ∈ ls.flatten, stepL s = true) → (a.flatten ++ ls.flatten).Nodup →
    runL n ⟨nm, a⟩ (stepLines a.length ls) = .plan ⟨nm, a ++ ls⟩
  | [], a, n, _, _, _, _, _, _ => by simp [stepLines, runL]
  | l :: ls, a, n, hn, h5, hl, he, hs, ho => by
    rw [List.length_cons] at h5
    have hl1 := he l (.head _)
    have ha : acceptL n ⟨nm, a⟩ (opens a.length) = some ⟨nm, a ++ [[]]⟩ := by
      unfold acceptL
      rw [if_neg (by omega)]
      show (if opens a.length = opens a.length then _ else _) = _
      rw [if_pos rfl]
      show (if a.length = 5 ∨ 0 < a.length ∧ (lastL a).length = 0 then _ else _) = _
      rw [if_neg (by rintro (k | ⟨k1, k2⟩); · omega
                     · have := hl k1; omega)]
    rw [stepLines, levelLines, List.cons_append, runL, ha]
    show runL (n + 1) ⟨nm, a ++ [[]]⟩ _ = _
    rw [List.flatten_cons] at hs ho
    rw [run_dash l [] (n + 1) (by omega) (by simpa using hl1.2) (fun s k => hs s (List.mem_append_left _ k)) (by rw [← List.append_assoc] at ho; exact (List.nodup_append.1 ho).1)]
    have ih := run_steps (nm := nm) ls (a ++ [[] ++ l]) (n + 1 + l.length) (by omega) (by rw [List.length_append, List.length_singleton]; omega) (fun _ => by rw [last_append]; exact hl1.1) (fun x k => he x (.tail _ k)) (fun s k => hs s (List.mem_append_right _ k)) (by simpa using ho)
    rw [List.length_append, List.length_singleton] at ih
    rw [ih]
    simp
theorem run_right {p : Pl} (h : Right p) : runL 0 ⟨[], []⟩ (linesOf p) = .plan p := by
  have ha : acceptL 0 ⟨[], []⟩ (planW ++ p.name) = some ⟨p.name, []⟩ := by
    unfold acceptL
    rw [if_pos rfl, if_pos ⟨⟨p.name, rfl⟩, h.name⟩]
    rfl
  unfold linesOf
  rw [runL, ha]
  show runL 1 ⟨p.name, []⟩ _ = _
  have := run_steps (nm := p.name) p.steps [] 1 (by decide) (by simpa using h.few.2) (fun k => absurd k (by decide)) h.each h.step (by simpa using h.once)
  simpa using this
/-! ### No line of a right plan's text holds a newline -/
theorem name_line {s : Str} (h : nameL s = true) : ∀ c ∈ s, c ≠ 10 := by
  unfold nameL at h
  simp only [Bool.and_eq_true, List.all_eq_true] at h
  rintro c hc rfl
  have := h.2 _ hc
  cases this
theorem step_line {s : Str} (h : stepL s = true) : ∀ c ∈ s, c ≠ 10 := by
  unfold stepL at h
  simp only [Bool.and_eq_true, List.all_eq_true] at h
  rintro c hc rfl
  have := h.2 _ hc
  cases this
theorem steps_line : ∀ (ls : List (List Str)) (i : Nat), i + ls.length ≤ 5 → (∀ s ∈ ls.flatten, stepL s = true) → ∀ l ∈ stepLines i ls, ∀ c ∈ l, c ≠ 10
  | [], _, _, _, l, hl => by cases hl
  | x :: ls, i, h5, hs, l, hl => by
    rw [List.length_cons] at h5
    rw [List.flatten_cons] at hs
    rw [stepLines, levelLines] at hl
    rcases List.mem_append.1 hl with hl | hl
    · rcases List.mem_cons.1 hl with rfl | hl
      · have hi : i < 5 := by omega
        clear hl hs h5
        intro c hc
        have : i = 0 ∨ i = 1 ∨ i = 2 ∨ i = 3 ∨ i = 4 := by omega
        rintro rfl
        revert hc
        rcases this with rfl | rfl | rfl | rfl | rfl <;> decide
      · obtain ⟨s, hm, rfl⟩ := List.mem_map.1 hl
        intro c hc
        rcases List.mem_append.1 hc with hc | hc
        · rintro rfl; revert hc; decide
        · exact step_line (hs s (List.mem_append_left _ hm)) c hc
    · exact steps_line ls (i + 1) (by omega) (fun s k => hs s (List.mem_append_right _ k)) l hl
theorem lines_right {p : Pl} (h : Right p) : linesL (textL p) = (linesOf p, []) := by
  refine lines_of _ fun l hl c hc => ?_
  unfold linesOf at hl
  rcases List.mem_cons.1 hl with rfl | hl
  · rcases List.mem_append.1 hc with hc | hc
    · rintro rfl; revert hc; decide
    · exact name_line h.name c hc
  · exact steps_line p.steps 0 (by have := h.few.2; omega) h.step l hl c hc
theorem done_right {p : Pl} (h : Right p) : doneL p = true := by
  obtain ⟨a, l, e⟩ := steps_split h.few.1
  have := h.each l (by rw [e]; simp)
  unfold doneL
  rw [e, last_append]
  simp only [Bool.and_eq_true, decide_eq_true_eq]
  exact ⟨by simp, this.1⟩
theorem read_of {p : Pl} (h : Right p) : readL (textL p) = .plan p := by
  unfold readL
  rw [lines_right h, run_right h]
  show (if _ then _ else _) = _
  rw [if_pos ⟨rfl, by unfold linesOf; simp, done_right h⟩]
/-- a text that is read is a right plan's text, and no other -/
theorem read_iff {s : Str} {p : Pl} : readL s = .plan p ↔ Right p ∧ textL p = s :=
  ⟨fun h => ⟨read_right h, read_text h⟩, fun h => by rw [← h.2]; exact read_of h.1⟩
end Go.Proofs.YtolpmdmcbciccaaDoor
