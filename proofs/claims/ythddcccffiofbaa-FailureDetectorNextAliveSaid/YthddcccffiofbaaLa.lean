/- The law 'the detector matches the model', as a contract; and what the other laws share. -/
import Derived.Test.YthddcccffiofbaaR
namespace Go.Proofs.Ythddcccffiofbaa
open Go Go.Nf

abbrev Tr (w0 : World) : Ending → World → Prop := Tru w0
theorem awk {w0 w : World} (g : Grow w0 w) : Calls Try.prog 10 #[] w fun e w2 => ∃ b : Bool, e = .returned (.bool b) ∧ (b = true → Tru w0 (.returned (.bool true)) w2) ∧ (b = false → Tru w0 (.returned (.bool false)) w2) := by
  refine (awake_c w).mono ?_
  rintro _ w' ⟨rfl, g'⟩
  exact ⟨_, rfl, bT ⟨rfl, g.trans' g'⟩⟩

theorem listGet {α : Type} {l : List α} {j : Nat} (h : j < l.length) : l[j]? = some (l[j]) := List.getElem?_eq_getElem h
theorem rowGet {α : Type} {f : α → List Value} {l : List α} {j : Nat} (h : j < l.length) : (l.map f)[j]? = some (f (l[j])) := by simp [h]

theorem matches_law (s a pa m n : Int) (o : Option Addr) (c : Nat) (acts : List (Int × Int × Int)) (w : World) (hrd : Rd w o 3 (acts.map encA)) :
    Calls Try.prog 3 #[.agg #[.int .i64 s, .int .i64 a, .int .i64 pa, .int .i64 m, .int .i64 n], .slice o acts.length c] w (Tru w) := by
  refine nf3 s a pa m n o acts.length c w _ fun w1 e1 => ?_
  have r := Row.new e1
  have g1 : Grow w w1 := only_alloc e1
  have l1 := hs_alloc e1
  refine ⟨_, r.cell rfl, _, r.cell rfl, _, r.cell rfl, _, r.cell rfl, _, r.cell rfl, ?_⟩
  by_cases h : okMade s a pa m
  case neg =>
    refine (both_no s a pa m n w1 h).mono ?_
    rintro _ w2 ⟨rfl, g2⟩
    refine ⟨_, _, rfl, (awake_c w2).mono ?_⟩
    rintro _ w3 ⟨rfl, g3⟩
    have g := (g1.trans' g2).trans' g3
    exact ⟨_, rfl, bT ⟨fun _ => awk g, fun _ => bT (awk g)⟩⟩
  refine (both_yes s a pa m n w1 h).mono ?_
  rintro _ w2 ⟨p, mb, q, rfl, two, hp, hm, hq, g2⟩
  refine ⟨_, _, rfl, (awake_c w2).mono ?_⟩
  rintro _ w3 ⟨rfl, g3⟩
  have g := (g1.trans' g2).trans' g3
  have two := two.grow g3
  have r := r.grow (g2.trans' g3)
  refine ⟨_, rfl, bT ⟨fun _ => awk g, fun hl => bF (bF ⟨_, r.cell rfl, (same_both_c p mb q n _ w3 two).mono ?_⟩)⟩⟩
  rintro _ w4 ⟨rfl, g4⟩
  have hl := dF hl
  refine ⟨_, rfl, bT ?_⟩
  refine ⟨fun k x w' => ∃ j : Nat, ∃ d, x = (j : Int) ∧ j ≤ acts.length ∧ k = acts.length - j ∧ Two w' p mb q d ∧ Grow w w', ⟨_, 0, _, rfl, Nat.zero_le _, rfl, two.grow g4, g.trans' g4⟩, ?_⟩
  rintro k _ w5 x ⟨j, d, rfl, hj, rfl, two, g⟩
  refine ⟨fun hlt => ?_, fun _ => ⟨rfl, g⟩⟩
  have hlt : j < acts.length := by have := dT hlt; omega
  obtain ⟨ad, had, hcell⟩ := (hrd.grow g).at (rowGet hlt)
  have c0 := hcell 0 _ rfl
  rw [Nf.add_zero] at c0
  refine ⟨ad, had, ⟨by omega, by omega⟩, _, c0, _, hcell 1 _ rfl, _, hcell 2 _ rfl, fun w6 e6 => ?_⟩
  have r6 := Row.new e6
  refine ⟨r6.there (by simp), fun w7 e7 w8 e8 => ?_⟩
  have r8 := (r6.set e7).grow (only_drew e8)
  have g8 : Grow w5 w8 := ((only_alloc e6).trans (only_set e7) fun i hi hj => by omega).trans' (only_drew e8)
  have := g.size
  have l5 : hs w5 ≤ hs w8 := g8.size
  have hpb := two.det.hp.lt
  have hmb := two.det.hm.lt
  have hqb : q < hs w5 := by obtain ⟨_, _, h, -⟩ := two.wat.ex; exact h.lt
  have l8 := r8.lt
  have two := two.grow g8
  refine ⟨_, r8.cell rfl, _, r8.cell rfl, _, r8.cell rfl, _, r8.cell rfl, (heartbeat_c p mb _ _ d w8 two.det).mono ?_⟩
  rintro _ w9 ⟨rfl, hd, g9⟩
  have := g9.size
  have hw := two.wat.keep g9 (fun h => two.mq h.symm) (fun b hb => hb)
  refine ⟨_, rfl, kept_only g9 l8 (by omega), kept_only g9 l8 (by omega), (heard_c q _ _ d w9 hw (fun b hb => by omega)).mono ?_⟩
  rintro _ w10 ⟨rfl, hw, g10⟩
  have two : Two w10 p mb q _ := ⟨hd.keep g10 two.pq two.mq, hw, two.pq, two.mq⟩
  have r10 := (r8.keep g9 (by omega)).keep g10 (by omega)
  refine ⟨_, rfl, nno rfl ⟨_, r10.cell rfl, (same_both_c p mb q _ _ w10 two).mono ?_⟩⟩
  rintro _ w11 ⟨rfl, g11⟩
  refine ⟨_, rfl, bT ⟨_, by omega, j + 1, _, by rw [wr (by omega)]; omega, hlt, rfl, two.grow g11, ?_⟩⟩
  exact (((g.trans' g8).trans g9 fun i hi hj => by omega).trans g10 fun i hi hj => by omega).trans' g11
end Go.Proofs.Ythddcccffiofbaa
