/- Contracts: Solve, and the examples that each law checks first. -/
import Derived.Test.YtalplekmbhemnaaGm
namespace Go.Proofs.Ytalplekmbhemnaa
open Go Go.Nf

theorem first_le {rows : List (List Int)} (h : errOf rows = 0) : first rows ≤ 64 := by
  cases rows with
  | nil => simp [first]
  | cons r rows => exact (err0 h).2.1 r (by simp)
theorem Solve_c (o : Option Addr) (c : Nat) (rows : List (List Int)) (w : World) {A0 : Nat → Prop} (h : Mat w A0 o rows) :
    Calls Try.prog 10 #[.slice o rows.length c] w fun e w' => Grow w w' ∧ ((errOf rows ≠ 0 ∧ e = .returned (.tuple #[.slice none 0 0, .int .i64 0, .int .i64 (errOf rows)])) ∨
      (errOf rows = 0 ∧ ∃ b m, e = .returned (.tuple #[.slice (some ⟨b, 0, none⟩) rows.length rows.length, .int .i64 (tot rows m rows.length), .int .i64 0]) ∧ Row w' b 3 (intsV m) ∧ hs w ≤ b ∧ Best rows (first rows) m)) := by
  refine nf10 o rows.length c w _ ((check_c o c rows w h).mono ?_)
  rintro _ _ ⟨rfl, rfl⟩
  refine ⟨_, _, rfl, fun he => ⟨Only.refl _ _, .inl ⟨nT he, rfl⟩⟩, fun he => ?_⟩
  have he := nF he
  rw [if_pos he]
  obtain ⟨h1, h2, h3⟩ := err0 he
  refine (solve_c o c rows (first rows) w h (fun r hr => (h3 r hr).1) (fun r hr => (h3 r hr).2) h1 (first_le he)).mono ?_
  rintro _ w1 ⟨b, m, rfl, r1, hb, hbest, g1⟩
  exact ⟨_, _, _, _, rfl, g1, .inr ⟨he, b, m, rfl, r1, hb, hbest⟩⟩

theorem mat_two {w : World} {b b1 b2 T : Nat} {x y : List Int} (h : Row w b T [.slice (some ⟨b1, 0, none⟩) x.length x.length, .slice (some ⟨b2, 0, none⟩) y.length y.length]) (h1 : Row w b1 2 (intsV x)) (h2 : Row w b2 2 (intsV y)) : Mat w (fun _ => True) (some ⟨b, 0, none⟩) [x, y] := by
  intro i row hi
  match i, hi with
  | 0, hi => cases hi; exact ⟨_, _, _, rfl, trivial, h.cellAdd rfl, h1.nums trivial⟩
  | 1, hi => cases hi; exact ⟨_, _, _, rfl, trivial, h.cellAdd rfl, h2.nums trivial⟩
theorem best_one {m : List Int} (h : Best [[4, 1], [2, 4611686018427387904]] 2 m) : m = [1, 0] ∧ tot [[4, 1], [2, 4611686018427387904]] m 2 = 3 := by
  have hv := h.valid
  have hl : m.length = 2 := hv.len
  match m, hl with
  | [a, b], _ =>
    have h0 := hv.ok 0 (by decide)
    have h1 := hv.ok 1 (by decide)
    have hm := h.most [1, 0] ⟨rfl, fun i hi => by
      have : i = 0 ∨ i = 1 := by simp at hi; omega
      rcases this with rfl | rfl <;> decide, fun i k hi hk => by
      have : i = 0 ∨ i = 1 := by simp at hi; omega
      have : k = 0 ∨ k = 1 := by simp at hk; omega
      rcases ‹i = 0 ∨ i = 1› with rfl | rfl <;> rcases ‹k = 0 ∨ k = 1› with rfl | rfl <;> decide⟩
    have hne := hv.ne 0 1 (by decide) (by decide)
    have e0 : gm [a, b] 0 = a := rfl
    have e1 : gm [a, b] 1 = b := rfl
    have hc : cnt [1, 0] 2 = 2 := by decide
    have hc2 : cnt [a, b] 2 = 0 + (if a = -1 then 0 else 1) + (if b = -1 then 0 else 1) := rfl
    change cnt [1, 0] 2 ≤ cnt [a, b] 2 at hm
    rw [hc, hc2] at hm
    rw [e0] at h0
    rw [e1] at h1
    rw [e0, e1] at hne
    have ha : a ≠ -1 := fun e => by rw [if_pos e] at hm; split at hm <;> omega
    have hb : b ≠ -1 := fun e => by rw [if_pos e] at hm; split at hm <;> omega
    obtain ⟨a1, a2, a3⟩ := h0.resolve_left ha
    obtain ⟨b1, b2, b3⟩ := h1.resolve_left hb
    have hb0 : b = 0 := by
      have : b = 0 ∨ b = 1 := by omega
      rcases this with rfl | rfl
      · rfl
      · exact absurd rfl b3
    subst hb0
    have ha1 : a = 1 := by
      have : a = 0 ∨ a = 1 := by omega
      rcases this with rfl | rfl
      · exact absurd (hne ha rfl) (by decide)
      · rfl
    subst ha1
    exact ⟨rfl, rfl⟩
theorem best_two {m : List Int} (h : Best [[1], [1]] 1 m) : m = [0, -1] ∧ tot [[1], [1]] m 2 = 1 := by
  have hv := h.valid
  have hl : m.length = 2 := hv.len
  match m, hl with
  | [a, b], _ =>
    have h0 := hv.ok 0 (by decide)
    have h1 := hv.ok 1 (by decide)
    have v0 : Valid [[1], [1]] 1 [0, -1] := ⟨rfl, fun i hi => by
      have : i = 0 ∨ i = 1 := by simp at hi; omega
      rcases this with rfl | rfl <;> decide, fun i k hi hk => by
      have : i = 0 ∨ i = 1 := by simp at hi; omega
      have : k = 0 ∨ k = 1 := by simp at hk; omega
      rcases ‹i = 0 ∨ i = 1› with rfl | rfl <;> rcases ‹k = 0 ∨ k = 1› with rfl | rfl <;> decide⟩
    have hm := h.most _ v0
    have hne := hv.ne 0 1 (by decide) (by decide)
    have e0 : gm [a, b] 0 = a := rfl
    have e1 : gm [a, b] 1 = b := rfl
    have hc : cnt [0, -1] 2 = 1 := by decide
    have hc2 : cnt [a, b] 2 = 0 + (if a = -1 then 0 else 1) + (if b = -1 then 0 else 1) := rfl
    change cnt [0, -1] 2 ≤ cnt [a, b] 2 at hm
    rw [hc, hc2] at hm
    rw [e0] at h0
    rw [e1] at h1
    rw [e0, e1] at hne
    have ha : a = -1 ∨ a = 0 := by rcases h0 with h | h <;> omega
    have hb : b = -1 ∨ b = 0 := by rcases h1 with h | h <;> omega
    rcases ha with rfl | rfl <;> rcases hb with rfl | rfl
    · simp at hm
    · have := h.first _ v0 (by decide) (by decide)
      rcases this with e | ⟨i, hi, hb, hd, hx, -⟩
      · cases e
      · have : i = 0 ∨ i = 1 := by simp at hi; omega
        rcases this with rfl | rfl
        · exact absurd rfl hx
        · exact absurd (hb 0 (by omega)) (by decide)
    · exact ⟨rfl, rfl⟩
    · exact absurd (hne (by omega) rfl) (by omega)

set_option maxRecDepth 10000 in
theorem alive_c (w : World) : Calls Try.prog 8 #[] w fun e w' => e = .returned (.bool true) ∧ Grow w w' := by
  refine nf8 w _ fun w1 e1 w2 e2 w3 e3 => ?_
  have l1 := hs_alloc e1
  have l2 := hs_alloc e2
  have l3 := hs_alloc e3
  have r1 : Row w3 (hs w) 2 (intsV [4, 1]) := ((Row.new e1).grow (only_alloc e2)).grow (only_alloc e3)
  have r2 : Row w3 (hs w1) 2 (intsV [2, 4611686018427387904]) := (Row.new e2).grow (only_alloc e3)
  have r3 := Row.new e3
  have g3 : Grow w w3 := ((only_alloc e1).trans' (only_alloc e2)).trans' (only_alloc e3)
  refine (Solve_c (some ⟨hs w2, 0, none⟩) 2 [[4, 1], [2, 4611686018427387904]] w3 (mat_two (x := [4, 1]) (y := [2, 4611686018427387904]) r3 r1 r2)).mono ?_
  rintro e w4 ⟨g4, h⟩
  rcases h with ⟨h, -⟩ | ⟨-, b, m, rfl, rm, hb, hbest⟩
  · exact absurd rfl h
  obtain ⟨rfl, htot⟩ := best_one hbest
  refine ⟨_, _, _, _, _, rfl, fun w5 e5 w6 e6 w7 e7 => ?_⟩
  have l5 := hs_alloc e5
  have l6 := hs_alloc e6
  have r5 : Row w7 (hs w4) 2 (intsV [1]) := ((Row.new e5).grow (only_alloc e6)).grow (only_alloc e7)
  have r6 : Row w7 (hs w5) 2 (intsV [1]) := (Row.new e6).grow (only_alloc e7)
  have r7 := Row.new e7
  have g7 : Grow w4 w7 := ((only_alloc e5).trans' (only_alloc e6)).trans' (only_alloc e7)
  refine (Solve_c (some ⟨hs w6, 0, none⟩) 2 [[1], [1]] w7 (mat_two (x := [1]) (y := [1]) r7 r5 r6)).mono ?_
  rintro e w8 ⟨g8, h⟩
  rcases h with ⟨h, -⟩ | ⟨-, b', m', rfl, rm', hb', hbest'⟩
  · exact absurd rfl h
  obtain ⟨rfl, htot'⟩ := best_two hbest'
  refine ⟨_, _, _, _, _, rfl, yes rfl (yes (by exact htot) fun w9 e9 => ?_)⟩
  have rm8 := ((rm.grow g7).grow g8).grow (only_alloc e9)
  have rn8 : Row w9 (hs w8) 3 (intsV [1, 0]) := Row.new e9
  refine (same_c (some ⟨b, 0, none⟩) (some ⟨hs w8, 0, none⟩) 2 2 [1, 0] [1, 0] w9 (A := fun _ => True) (A' := fun _ => True) (rm8.nums trivial) (rn8.nums trivial) (by decide)).mono ?_
  rintro e w10 ⟨rfl, g10⟩
  refine ⟨_, rfl, bT (yes rfl (yes (by exact htot') fun w11 e11 => ?_))⟩
  have rm10 := ((rm'.grow (only_alloc e9)).grow g10).grow (only_alloc e11)
  have rn10 : Row w11 (hs w10) 3 (intsV [0, -1]) := Row.new e11
  refine (same_c (some ⟨b', 0, none⟩) (some ⟨hs w10, 0, none⟩) 2 2 [0, -1] [0, -1] w11 (A := fun _ => True) (A' := fun _ => True) (rm10.nums trivial) (rn10.nums trivial) (by decide)).mono ?_
  rintro e w12 ⟨rfl, g12⟩
  exact ⟨_, rfl, bT ⟨rfl, ((((((g3.trans' g4).trans' g7).trans' g8).trans' (only_alloc e9)).trans' g10).trans' (only_alloc e11)).trans' g12⟩⟩
end Go.Proofs.Ytalplekmbhemnaa
