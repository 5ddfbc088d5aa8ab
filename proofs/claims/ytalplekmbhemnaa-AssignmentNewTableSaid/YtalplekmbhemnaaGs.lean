/- The law AssignmentNewTable: it returns true and writes nothing old. -/
import Derived.Test.YtalplekmbhemnaaGr
namespace Go.Proofs.Ytalplekmbhemnaa
open Go Go.Nf

theorem at2_inf {R C i : Nat} {x : Int} (hi : i < R) (h0 : 0 ≤ x) (h : x < C) : at2 (List.replicate R (List.replicate C Inf)) i x = Inf := by
  unfold at2
  rw [List.getElem?_replicate, if_pos hi]
  simp only [Option.getD_some]
  rw [List.getElem?_replicate, if_pos (by omega)]; rfl
theorem Valid.empty {R C : Nat} {m : List Int} (h : Valid (List.replicate R (List.replicate C Inf)) C m) : (∀ i, i < R → gm m i = -1) ∧ ∀ n, n ≤ R → tot (List.replicate R (List.replicate C Inf)) m n = 0 := by
  have h1 : ∀ i, i < R → gm m i = -1 := fun i hi => by
    rcases h.ok i (by simpa using hi) with e | ⟨h1, h2, h3⟩
    · exact e
    · exact absurd (at2_inf hi h1 h2) h3
  refine ⟨h1, fun n => ?_⟩
  induction n with
  | zero => intro _; rfl
  | succ n ih => intro hn; rw [tot, ih (by omega), if_pos (h1 n (by omega))]; rfl

set_option maxRecDepth 10000 in
set_option maxHeartbeats 4000000 in
theorem new_law (R C : Int) (w : World) : Calls Try.prog 7 #[.int .i64 R, .int .i64 C] w (Tru w) := by
  refine nf7 R C w _ ((alive_c w).mono ?_)
  rintro _ w1 ⟨rfl, g1⟩
  refine ⟨_, rfl, bT ((new_c R C w1).mono ?_)⟩
  rintro e w2 ⟨g2, hn⟩
  have g2' := g1.trans' g2
  by_cases c1 : R < 0 ∨ C < 0
  · rw [if_pos c1] at hn
    subst hn
    refine ⟨_, _, rfl, fun k hk => ?_⟩
    have key : k 1 w2 := hk w2 1 fun _ => nno rfl ⟨fun _ => nyes (by decide) (bF (bT ⟨rfl, g2'⟩)), fun h => by cases h⟩
    rcases c1 with c1 | c1
    · exact yes c1 key
    · exact ⟨fun _ => key, fun _ => yes c1 key⟩
  rw [if_neg c1] at hn
  by_cases c2 : 64 < R ∨ 64 < C
  · rw [if_pos c2] at hn
    subst hn
    refine ⟨_, _, rfl, fun k hk => ?_⟩
    have key : k 3 w2 := hk w2 3 fun _ => nno rfl ⟨fun _ => nyes (by decide) (bF (bT ⟨rfl, g2'⟩)), fun h => by cases h⟩
    refine no (by omega) (no (by omega) ?_)
    rcases c2 with c2 | c2
    · exact yes c2 key
    · exact ⟨fun _ => key, fun _ => yes c2 key⟩
  rw [if_neg c2] at hn
  obtain ⟨rfl, ht⟩ := hn
  obtain ⟨r, rfl⟩ : ∃ r : Nat, R = (r : Int) := ⟨R.toNat, by omega⟩
  obtain ⟨c, rfl⟩ : ∃ c : Nat, C = (c : Int) := ⟨C.toNat, by omega⟩
  rw [Int.toNat_natCast, Int.toNat_natCast] at ht
  refine ⟨_, _, rfl, fun k hk => ?_⟩
  refine no (by omega) (no (by omega) (no (by omega) (no (by omega) (hk w2 0 fun _ => nno rfl ⟨fun h => Bool.noConfusion h, fun _ => nno rfl (bF ⟨fun h => Bool.noConfusion h, fun _ => ?_⟩)⟩))))
  have ts := tsolve_c (hs w1) c (List.replicate r (List.replicate c Inf)) w2 ht (fun x hx y hy => by
    rw [List.eq_of_mem_replicate hx] at hy; rw [List.eq_of_mem_replicate hy]; decide) (by simp; omega) (by omega)
  simp only [List.length_replicate] at ts
  refine ts.mono ?_
  rintro _ w3 ⟨b, m, rfl, r3, hb, best, g3⟩
  obtain ⟨e1, e2⟩ := best.valid.empty
  have hml := best.valid.len
  rw [List.length_replicate] at hml
  rw [e2 r (Nat.le_refl _)]
  refine ⟨_, _, _, _, rfl, fun n x w' => ∃ i : Nat, x = (i : Int) ∧ i ≤ r ∧ n = r - i ∧ w3 = w', ⟨_, 0, rfl, Nat.zero_le _, rfl, rfl⟩, ?_⟩
  rintro n _ _ x ⟨i, rfl, hi, rfl, rfl⟩
  refine ⟨fun hlt => ?_, fun hge => ?_⟩
  · have hlt : i < r := by have := dT hlt; omega
    have cm := Row.int r3 (j := i) (by omega)
    have egm : gI m i = gm m i := by unfold gI gm; rw [List.getElem?_eq_getElem (by omega)]; rfl
    rw [egm, e1 i hlt] at cm
    exact ⟨_, rfl, ⟨by omega, by omega⟩, _, cm, nno rfl ⟨_, by omega, i + 1, by rw [wr (by omega)]; omega, hlt, rfl, rfl⟩⟩
  · have ht3 := ht.grow g3
    refine yes rfl (yes rfl ((set_c (hs w1) c _ (r : Int) 0 1 w3 ht3).mono ?_))
    rintro _ w4 ⟨g4, h4⟩
    rw [if_pos (by unfold setErr; simp)] at h4
    obtain ⟨rfl, ht4⟩ := h4
    refine ⟨_, rfl, yes rfl ((set_c (hs w1) c _ 0 (c : Int) 1 w4 ht4).mono ?_)⟩
    rintro _ w5 ⟨g5, h5⟩
    rw [if_pos (by unfold setErr; simp)] at h5
    obtain ⟨rfl, ht5⟩ := h5
    have G3 : Grow w w3 := g2'.trans' g3
    have l1 := g1.size
    have fin : Grow w w5 := by
      refine G3.trans (g4.trans' g5) fun b hb e => ?_
      have : hs w1 < b := e
      omega
    exact ⟨_, rfl, yes rfl ⟨rfl, fin⟩⟩
end Go.Proofs.Ytalplekmbhemnaa
