/- The document's example. -/
import Derived.Test.YtbaacpfjecbbgaaHq
namespace Go.Proofs.Ytbaacpfjecbbgaa
open Go Go.Nf

def endA (u : Int) : Ans := ⟨ByteArray.mk #[101], -1, u, ByteArray.mk #[99]⟩
def onA : Ans := ⟨ByteArray.mk #[111, 110], 1, 0, ByteArray.mk #[]⟩
def exQ0 : Qst := ⟨ByteArray.mk #[113], [endA 1, onA]⟩
def exQ1 : Qst := ⟨ByteArray.mk #[114], [endA 3, endA 5]⟩
def exP : Prot := ⟨ByteArray.mk #[109, 97, 105, 110], 3, [exQ0, exQ1]⟩
theorem exP_valid : validB exP = true := by kernel_rfl
theorem ex_nx0 : nxP exP.qs 0 = [1] := by kernel_rfl
theorem ex_nx1 : nxP exP.qs 1 = [] := by kernel_rfl
theorem ex_from1 {y : Nat} (h : Rch (nxP exP.qs) 1 y) : y = 1 := h.closed (m := fun x => x = 1) (fun i hi x hx => by subst hi; rw [ex_nx1] at hx; cases hx) rfl
theorem ex_two {j : Nat} (h : j < exP.qs.length) : j = 0 ∨ j = 1 := by
  have : exP.qs.length = 2 := rfl
  omega
theorem ex_cyc : ∀ j, j < exP.qs.length → ¬ Cyc (nxP exP.qs) j := by
  rintro j hj ⟨x, hx, hr⟩
  rcases ex_two hj with rfl | rfl
  · rw [ex_nx0, List.mem_singleton] at hx
    subst hx
    have := ex_from1 hr
    omega
  · rw [ex_nx1] at hx; cases hx
theorem ex_reach : ∀ j, j < exP.qs.length → Rch (nxP exP.qs) 0 j := by
  intro j hj
  rcases ex_two hj with rfl | rfl
  · exact .refl _
  · exact .step (by rw [ex_nx0]; simp) (.refl _)
theorem ex_ending : Ending' exP (-1) 0 := .inr (.inr (.inr ⟨exP_valid, ex_cyc, ex_reach, rfl, rfl⟩))
theorem ex_get0 : exP.qs[0]? = some exQ0 := rfl
theorem ex_get1 : exP.qs[1]? = some exQ1 := rfl
theorem ex_fin0 {u : Int} : Fin' exQ0.ans u ↔ u = 1 := by
  constructor
  · rintro ⟨a, ha, hn, rfl⟩
    simp only [exQ0, List.mem_cons, List.not_mem_nil, or_false] at ha
    rcases ha with rfl | rfl
    · rfl
    · exact absurd hn (by decide)
  · rintro rfl; exact ⟨endA 1, by simp [exQ0], by decide, rfl⟩
theorem ex_fin1 {u : Int} : Fin' exQ1.ans u ↔ u = 3 ∨ u = 5 := by
  constructor
  · rintro ⟨a, ha, hn, rfl⟩
    simp only [exQ1, List.mem_cons, List.not_mem_nil, or_false] at ha
    rcases ha with rfl | rfl
    · exact .inl rfl
    · exact .inr rfl
  · rintro (rfl | rfl)
    · exact ⟨endA 3, by simp [exQ1], by decide, rfl⟩
    · exact ⟨endA 5, by simp [exQ1], by decide, rfl⟩
theorem ex_lt {i : Nat} {s : Qst} (h : exP.qs[i]? = some s) : i = 0 ∨ i = 1 := by
  refine ex_two ?_
  rcases Nat.lt_or_ge i exP.qs.length with h' | h'
  · exact h'
  · rw [List.getElem?_eq_none h'] at h; cases h
theorem ex_range0 : IsRange exP 0 1 5 := by
  refine .inl ⟨⟨exP_valid, by decide, by decide⟩, .inr ⟨⟨0, exQ0, .refl _, ex_get0, ex_fin0.2 rfl⟩, ⟨1, exQ1, ex_reach 1 (by decide), ex_get1, ex_fin1.2 (.inr rfl)⟩, ?_⟩⟩
  rintro u ⟨i, s, -, hs, hu⟩
  rcases ex_lt hs with rfl | rfl
  · rw [ex_get0] at hs; cases hs
    have := ex_fin0.1 hu; omega
  · rw [ex_get1] at hs; cases hs
    have := ex_fin1.1 hu; omega
theorem ex_range1 : IsRange exP 1 3 5 := by
  refine .inl ⟨⟨exP_valid, by decide, by decide⟩, .inr ⟨⟨1, exQ1, .refl _, ex_get1, ex_fin1.2 (.inl rfl)⟩, ⟨1, exQ1, .refl _, ex_get1, ex_fin1.2 (.inr rfl)⟩, ?_⟩⟩
  rintro u ⟨i, s, hr, hs, hu⟩
  have := ex_from1 hr
  subst this
  rw [ex_get1] at hs; cases hs
  have := ex_fin1.1 hu; omega
theorem ex_talk1 : Talk exP.qs [1] [0] 1 onA := Talk.snoc (a := 1) (q := exQ0) (x := onA) .nil (by decide) ex_get0 (by decide) rfl
theorem ex_talk2 : Talk exP.qs [1, 1] [0, 1] (-1) (endA 5) := Talk.snoc (a := 1) (q := exQ1) (x := endA 5) ex_talk1 (by decide) ex_get1 (by decide) rfl
theorem end_c (u : Int) (w : World) : Calls Try.prog 71 #[.int .i64 u] w fun e w' => e = .returned (aggA (endA u)) ∧ Grow w w' := by
  refine nf71 u w _ fun w1 e1 => ⟨(Row.new e1).there (by simp), fun w2 e2 => ?_⟩
  obtain ⟨r2, g2⟩ := loc e1 e2 rfl
  exact ⟨_, r2.cell rfl, _, r2.cell rfl, _, r2.cell rfl, _, r2.cell rfl, rfl, g2⟩
set_option maxHeartbeats 2000000 in
theorem awake_c (w : World) : Calls Try.prog 24 #[] w fun e w' => e = .returned (.bool true) ∧ Grow w w' := by
  refine nf24 w _ ((end_c 1 w).mono ?_)
  rintro _ w1 ⟨rfl, g1⟩
  refine ⟨_, _, _, _, rfl, fun w2 e2 => (end_c 3 w2).mono ?_⟩
  have r2 : Row w2 (hs w1) 58 (exQ0.ans.flatMap encA) := Row.new e2
  have g2 : Grow w1 w2 := only_alloc e2
  rintro _ w3 ⟨rfl, g3⟩
  refine ⟨_, _, _, _, rfl, (end_c 5 w3).mono ?_⟩
  rintro _ w4 ⟨rfl, g4⟩
  refine ⟨_, _, _, _, rfl, fun w5 e5 w6 e6 => ?_⟩
  have r5 : Row w5 (hs w4) 58 (exQ1.ans.flatMap encA) := Row.new e5
  have g5 : Grow w4 w5 := only_alloc e5
  have r6 : Row w6 (hs w5) 38 [.string exQ0.text, .slice (some ⟨hs w1, 0, none⟩) 2 2, .string exQ1.text, .slice (some ⟨hs w4, 0, none⟩) 2 2] := Row.new e6
  have g6 : Grow w5 w6 := only_alloc e6
  have r2' := (((r2.grow g3).grow g4).grow g5).grow g6
  have r5' := r5.grow g6
  have G6 := ((((g1.trans' g2).trans' g3).trans' g4).trans' g5).trans' g6
  have rec0 : Recs w6 (fun _ => True) (some ⟨hs w1, 0, none⟩) 4 (exQ0.ans.map encA) := (own_recs (B := 0) (c := 2) (n := 2) (bs := exQ0.ans) (r2'.own (Nat.zero_le _) rfl (by simp [maxLen]))).mono fun _ _ => trivial
  have rec1 : Recs w6 (fun _ => True) (some ⟨hs w4, 0, none⟩) 4 (exQ1.ans.map encA) := (own_recs (B := 0) (c := 2) (n := 2) (bs := exQ1.ans) (r5'.own (Nat.zero_le _) rfl (by simp [maxLen]))).mono fun _ _ => trivial
  have hQ : Qs w6 (fun _ => True) (some ⟨hs w5, 0, none⟩) exP.qs := fun i q hi => by
    rcases ex_lt hi with rfl | rfl
    · rw [ex_get0] at hi; cases hi
      exact ⟨_, _, 2, rfl, trivial, r6.cellAdd rfl, r6.cellAdd2 rfl, rec0⟩
    · rw [ex_get1] at hi; cases hi
      exact ⟨_, _, 2, rfl, trivial, r6.cellAdd rfl, r6.cellAdd2 rfl, rec1⟩
  refine (new_c (some ⟨hs w5, 0, none⟩) 2 exP (by decide) w6 hQ).mono ?_
  rintro _ w7 ⟨x, y, hE, g7, ⟨hy, rfl⟩ | ⟨rfl, t, rfl, hI⟩⟩
  · exact absurd (ending_one hE ex_ending).2 hy
  have G7 := G6.trans' g7
  refine ⟨_, _, rfl, fun h1 => absurd rfl (nT h1), fun _ => ⟨fun h1 => (by cases h1), fun _ => (urg_c exP_valid hI .nil (by simp)).mono ?_⟩⟩
  rintro _ w8 ⟨lo, hi, rfl, hR, g8⟩
  obtain ⟨rfl, rfl⟩ := range_eq (last := zeroA) hR (.inl ⟨by decide, ex_range0⟩)
  have hsz : hs w6 ≤ hs w8 := by have := g7.size; have := g8.size; omega
  refine ⟨_, _, rfl, (answer_m exP_valid (hI.grow g8).m .nil (by simp) 1).mono ?_⟩
  rintro _ w9 ⟨rfl, g9, hr⟩
  have s1 : sayE exP.qs 0 1 = 0 := by decide
  have G9 : Grow w6 w9 := (g7.trans' g8).trans g9 fun b hb hm => by omega
  rcases hr with ⟨h, -⟩ | ⟨-, x1, hT1, hI1⟩
  · exact absurd s1 h
  obtain ⟨-, e1, e2⟩ := hT1.one ex_talk1
  have hI1 := hI1.iv
  rw [e1] at hI1
  refine ⟨_, rfl, (urg_c exP_valid hI1 ex_talk1 (by simp)).mono ?_⟩
  rintro _ w10 ⟨lo, hi, rfl, hR, g10⟩
  obtain ⟨rfl, rfl⟩ := range_eq hR (.inl ⟨by decide, ex_range1⟩)
  have G10 := G9.trans' g10
  refine ⟨_, _, rfl, (answer_m exP_valid (hI1.grow g10).m ex_talk1 (by simp) 1).mono ?_⟩
  rintro _ w11 ⟨rfl, g11, hr⟩
  have s2 : sayE exP.qs 1 1 = 0 := by decide
  have G11 : Grow w6 w11 := G10.trans g11 fun b hb hm => by omega
  rcases hr with ⟨h, -⟩ | ⟨-, x2, hT2, hI2⟩
  · exact absurd s2 h
  obtain ⟨-, e3, e4⟩ := hT2.one ex_talk2
  have hI2 := hI2.iv
  rw [e3] at hI2
  refine ⟨_, rfl, (result_c exP_valid hI2 ex_talk2 (by simp)).mono ?_⟩
  rintro _ w12 ⟨⟨h0, rfl⟩ | ⟨-, rfl⟩, g12⟩
  · exact absurd h0 (by decide)
  have G12 := G11.trans' g12
  refine ⟨_, _, _, rfl, fun _ => yes rfl (yes rfl (yes s1 (yes rfl (yes rfl (yes s2 (yes rfl ⟨fun _ => (answer_m exP_valid (hI2.grow g12).m ex_talk2 (by simp) 0).mono ?_, fun h1 => ?_⟩)))))), fun hb => (by cases hb)⟩
  · rintro _ w13 ⟨rfl, g13, -⟩
    refine ⟨_, rfl, yes (by decide) ⟨rfl, (G6.trans' G12).trans g13 fun b hb hm => ?_⟩⟩
    have := G6.size
    omega
  · rw [show strEq (endA 5).code (ByteArray.mk #[99]) = true from strEq_refl _] at h1; cases h1
end Go.Proofs.Ytbaacpfjecbbgaa
