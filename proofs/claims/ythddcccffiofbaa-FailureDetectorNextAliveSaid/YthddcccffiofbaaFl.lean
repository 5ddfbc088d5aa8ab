/- Both sides made at once, the concrete run of the awake check, and the comparison of the two states. -/
import Derived.Test.YthddcccffiofbaaNf2
import Derived.Test.YthddcccffiofbaaFs
import Derived.Test.YthddcccffiofbaaNfW
namespace Go.Proofs.Ythddcccffiofbaa
open Go Go.Nf

theorem yes {p A B : Prop} [Decidable p] (h : p) (a : A) : (decide p = true → A) ∧ (decide p = false → B) := ⟨fun _ => a, fun k => absurd h (dF k)⟩
theorem no {p A B : Prop} [Decidable p] (h : ¬ p) (b : B) : (decide p = true → A) ∧ (decide p = false → B) := ⟨fun k => absurd (dT k) h, fun _ => b⟩
theorem nyes {p A B : Prop} [Decidable p] (h : ¬ p) (a : A) : ((!decide p) = true → A) ∧ ((!decide p) = false → B) := ⟨fun _ => a, fun k => absurd (nF k) h⟩
theorem nno {p A B : Prop} [Decidable p] (h : p) (b : B) : ((!decide p) = true → A) ∧ ((!decide p) = false → B) := ⟨fun k => absurd h (nT k), fun _ => b⟩
theorem bT {A B : Prop} (a : A) : (true = true → A) ∧ (true = false → B) := ⟨fun _ => a, fun k => Bool.noConfusion k⟩
theorem bF {A B : Prop} (b : B) : (false = true → A) ∧ (false = false → B) := ⟨fun k => Bool.noConfusion k, fun _ => b⟩

def D0 : Det := Det.mk0 0 2 3 10 0
def D1 : Det := D0.beat 1 5
def D2 : Det := D1.beat 0 5
theorem awake_c (w : World) : Calls Try.prog 10 #[] w (Tru w) := by
  refine nf10 w _ ((new_yes 0 2 3 10 0 w (by decide)).mono ?_)
  rintro _ w1 ⟨rfl, hd, g1⟩
  refine ⟨_, _, rfl, (new_no 2 2 3 10 0 w1 (by decide)).mono ?_⟩
  rintro _ _ ⟨rfl, rfl⟩
  have hp : hs w + 1 < hs w1 := hd.hp.lt
  refine ⟨_, _, rfl, bF (nno rfl ((suspects_c _ _ 3 D0 w1 hd).mono ?_))⟩
  rintro _ w2 ⟨o1, c1, rfl, ow1, g2⟩
  have hd := hd.grow g2
  refine ⟨_, _, _, rfl, (suspects_c _ _ 4 D0 w2 hd).mono ?_⟩
  rintro _ w3 ⟨o2, c2, rfl, ow2, g3⟩
  have hd := hd.grow g3
  refine ⟨_, _, _, rfl, (heartbeat_c _ _ 1 5 D0 w3 hd).mono ?_⟩
  rintro _ w4 ⟨rfl, hd, g4⟩
  have ow2 := ow2.keep g4 fun b hb hbe => by have := (ow2.base b hb).1; have := g2.size; omega
  change DetAt w4 _ _ D1 at hd
  refine ⟨_, rfl, (suspects_c _ _ 11 D1 w4 hd).mono ?_⟩
  rintro _ w5 ⟨o5, c5, rfl, ow5, g5⟩
  have hd := hd.grow g5
  refine ⟨_, _, _, rfl, (suspects_c _ _ 12 D1 w5 hd).mono ?_⟩
  rintro _ w6 ⟨o6, c6, rfl, ow6, g6⟩
  have hd := hd.grow g6
  have ow2 := (ow2.grow g5).grow g6
  have f1 : D0.upto 3 D0.ms.length = [] := by kernel_rfl
  have f2 : D0.upto 4 D0.ms.length = [1] := by kernel_rfl
  have f3 : D1.upto 11 D1.ms.length = [] := by kernel_rfl
  have f4 : D1.upto 12 D1.ms.length = [1] := by kernel_rfl
  rw [f1, f3, f4]
  rw [f2] at ow2 ⊢
  obtain ⟨gg, _, rfl, -⟩ := ow2.head (by decide)
  refine ⟨_, _, _, rfl, yes rfl (yes rfl (yes rfl ⟨_, rfl, ⟨by omega, by decide⟩, _, ow2.cell (j := 0) (v := .int .i64 1) rfl |>.trans rfl, yes rfl (yes (if_pos (by decide)) ?_)⟩))⟩
  refine (wrong_c _ _ 1 D1 w6 hd).mono ?_
  rintro _ _ ⟨rfl, rfl⟩
  refine ⟨_, rfl, yes (by kernel_rfl) ((timeout_c _ _ 1 D1 w6 hd).mono ?_)⟩
  rintro _ _ ⟨rfl, rfl⟩
  refine ⟨_, rfl, yes (by kernel_rfl) ((timeout_c _ _ 0 D1 w6 hd).mono ?_)⟩
  rintro _ _ ⟨rfl, rfl⟩
  refine ⟨_, rfl, yes (by kernel_rfl) (yes rfl (yes rfl ((nextAlive_c _ _ 0 12 D1 w6 hd).mono ?_)))⟩
  rintro _ w7 ⟨rfl, g7⟩
  have hd := hd.grow g7
  refine ⟨_, rfl, yes (by kernel_rfl) ((nextAlive_c _ _ 0 11 D1 w7 hd).mono ?_)⟩
  rintro _ w8 ⟨rfl, g8⟩
  have hd := hd.grow g8
  refine ⟨_, rfl, yes (by kernel_rfl) ((nextAlive_c _ _ 9 0 D1 w8 hd).mono ?_)⟩
  rintro _ w9 ⟨rfl, g9⟩
  have hd := hd.grow g9
  refine ⟨_, rfl, yes (by kernel_rfl) ((heartbeat_c _ _ 0 5 D1 w9 hd).mono ?_)⟩
  rintro _ w10 ⟨rfl, hd, g10⟩
  refine ⟨_, rfl, yes (if_neg (by decide)) ⟨rfl, ?_⟩⟩
  have a1 := ((g1.trans' g2).trans' g3).trans g4 fun i hi hj => by omega
  exact (((((a1.trans' g5).trans' g6).trans' g7).trans' g8).trans' g9).trans g10 fun i hi hj => by omega

/-- the detector and the reference, side by side -/
structure Two (w : World) (p mb q : Nat) (d : Det) : Prop where
  det : DetAt w p mb d
  wat : WatAt w (fun b => b = mb) q d
  pq : p ≠ q
  mq : mb ≠ q
theorem Two.grow {w w' : World} {p mb q : Nat} {d : Det} (h : Two w p mb q d) (g : Grow w w') : Two w' p mb q d := ⟨h.det.grow g, h.wat.grow g, h.pq, h.mq⟩

theorem both_no (s a pa m n : Int) (w : World) (h : ¬ okMade s a pa m) :
    Calls Try.prog 9 #[.agg #[.int .i64 s, .int .i64 a, .int .i64 pa, .int .i64 m, .int .i64 n]] w fun e w' => e = .returned (.tuple #[.pointer none, .pointer none]) ∧ Grow w w' := by
  refine nf9 s a pa m n w _ fun w1 e1 => ?_
  have r := Row.new e1
  refine ⟨_, r.cell rfl, _, r.cell rfl, _, r.cell rfl, _, r.cell rfl, _, r.cell rfl, (new_no s a pa m n w1 h).mono ?_⟩
  rintro _ _ ⟨rfl, rfl⟩
  refine ⟨_, _, rfl, _, r.cell rfl, _, r.cell rfl, _, r.cell rfl, _, r.cell rfl, _, r.cell rfl, (rnew_no s a pa m n w1 h).mono ?_⟩
  rintro _ _ ⟨rfl, rfl⟩
  exact ⟨_, _, rfl, bF ⟨rfl, only_alloc e1⟩⟩
theorem both_yes (s a pa m n : Int) (w : World) (h : okMade s a pa m) :
    Calls Try.prog 9 #[.agg #[.int .i64 s, .int .i64 a, .int .i64 pa, .int .i64 m, .int .i64 n]] w fun e w' =>
      ∃ p mb q, e = .returned (.tuple #[.pointer (some ⟨p, 0, none⟩), .pointer (some ⟨q, 0, none⟩)]) ∧ Two w' p mb q (Det.mk0 s a pa m n) ∧ hs w ≤ p ∧ hs w ≤ mb ∧ hs w ≤ q ∧ Grow w w' := by
  refine nf9 s a pa m n w _ fun w1 e1 => ?_
  have r := Row.new e1
  have g1 : Grow w w1 := only_alloc e1
  have l1 := hs_alloc e1
  refine ⟨_, r.cell rfl, _, r.cell rfl, _, r.cell rfl, _, r.cell rfl, _, r.cell rfl, (new_yes s a pa m n w1 h).mono ?_⟩
  rintro _ w2 ⟨rfl, hd, g2⟩
  have r := r.grow g2
  refine ⟨_, _, rfl, _, r.cell rfl, _, r.cell rfl, _, r.cell rfl, _, r.cell rfl, _, r.cell rfl, (rnew_yes (A := fun b => b = hs w1) s a pa m n w2 h (fun b hb => by rw [hb]; exact hd.hm.lt)).mono ?_⟩
  rintro _ w3 ⟨rfl, hw, g3⟩
  have := hd.hp.lt; have := hd.hm.lt
  exact ⟨_, _, rfl, bT (nno rfl ⟨_, _, _, rfl, ⟨hd.grow g3, hw, by omega, by omega⟩, by omega, by omega, by omega, (g1.trans' g2).trans' g3⟩)⟩

theorem same_both_c (p mb q : Nat) (now : Int) (d : Det) (w : World) (h : Two w p mb q d) :
    Calls Try.prog 11 #[.pointer (some ⟨p, 0, none⟩), .pointer (some ⟨q, 0, none⟩), .int .i64 now] w (Tru w) := by
  refine nf11 _ _ now w _ ((suspects_c p mb now d w h.det).mono ?_)
  have hlen := h.det.fit.len
  rintro _ w1 ⟨o1, c1, rfl, ow1, g1⟩
  have h := h.grow g1
  refine ⟨_, _, _, rfl, (rsuspects_c q now d w1 h.wat).mono ?_⟩
  rintro _ w2 ⟨o2, c2, rfl, ow2, g2⟩
  have h := h.grow g2
  refine ⟨_, _, _, rfl, (same_c _ _ _ _ _ _ _ _ w2 (ow1.grow g2) ow2 (by have := upto_le d now d.ms.length; omega)).mono ?_⟩
  rintro _ w3 ⟨rfl, g3⟩
  have h := h.grow g3
  refine ⟨_, rfl, fun _ => ?_, fun k => absurd rfl (dF k)⟩
  refine ⟨fun n x w' => ∃ j : Nat, x = (j : Int) - 1 ∧ j ≤ d.ms.length + 2 ∧ n = d.ms.length + 2 - j ∧ Grow w3 w', ⟨_, 0, rfl, by omega, rfl, Only.refl _ _⟩, ?_⟩
  rintro n _ w4 x ⟨j, rfl, hj, rfl, g4⟩
  have gg := ((g1.trans' g2).trans' g3).trans' g4
  have h := h.grow g4
  obtain ⟨g, c, hp, -, -, -⟩ := h.wat.ex
  refine ⟨_, rfl, _, _, _, hp.cell rfl, fun hlt => ?_, fun _ => ⟨rfl, gg⟩⟩
  have hlt := dT hlt
  refine (of_c q _ d w4 h.wat).mono ?_
  rintro _ w5 ⟨rfl, g5⟩
  have h := h.grow g5
  refine ⟨_, _, _, rfl, fun w6 e6 => ?_⟩
  have r6 := Row.new e6
  have h := h.grow (only_alloc e6)
  refine ⟨r6.there (by simp), fun w7 e7 => ?_⟩
  have r7 := r6.set e7
  have g7 : Grow w5 w7 := (only_alloc e6).trans (only_set e7) fun i hi hj => by omega
  intro w8 e8
  have r8 := r7.grow (only_drew e8)
  have g8 : Grow w5 w8 := g7.trans' (only_drew e8)
  have h := (show Two w5 p mb q d by assumption).grow g8
  refine ⟨_, r8.cell rfl, (timeout_c p mb _ d w8 h.det).mono ?_⟩
  rintro _ _ ⟨rfl, rfl⟩
  refine ⟨_, rfl, kept_same rfl, nno (by rw [of_tmo]) ⟨_, r8.cell rfl, (wrong_c p mb _ d w8 h.det).mono ?_⟩⟩
  rintro _ _ ⟨rfl, rfl⟩
  refine ⟨_, rfl, kept_same rfl, nno (by rw [of_wrong]) ((nextAlive_c p mb _ now d w8 h.det).mono ?_)⟩
  rintro _ w9 ⟨rfl, g9⟩
  have h := h.grow g9
  refine ⟨_, rfl, (first_c q _ now d w9 h.wat).mono ?_⟩
  rintro _ w10 ⟨rfl, g10⟩
  refine ⟨_, rfl, nno rfl ⟨_, by omega, j + 1, by rw [wr (by omega)]; omega, by omega, rfl, (((g4.trans' g5).trans' g8).trans' g9).trans' g10⟩⟩

/-- New -/
theorem new_law (s a pa m n : Int) (w : World) :
    Calls Try.prog 4 #[.agg #[.int .i64 s, .int .i64 a, .int .i64 pa, .int .i64 m, .int .i64 n]] w (Tru w) := by
  refine nf4 s a pa m n w _ fun w1 e1 => ?_
  have r := Row.new e1
  have g1 : Grow w w1 := only_alloc e1
  refine ⟨_, r.cell rfl, _, r.cell rfl, _, r.cell rfl, _, r.cell rfl, _, r.cell rfl, ?_⟩
  by_cases h : okMade s a pa m
  · refine (new_yes s a pa m n w1 h).mono ?_
    rintro _ w2 ⟨rfl, hd, g2⟩
    have r := r.grow g2
    refine ⟨_, _, rfl, _, r.cell rfl, _, r.cell rfl, _, r.cell rfl, _, r.cell rfl, _, r.cell rfl, (rnew_yes (A := fun b => b = hs w1) s a pa m n w2 h (fun b hb => by rw [hb]; exact hd.hm.lt)).mono ?_⟩
    rintro _ w3 ⟨rfl, hw, g3⟩
    refine ⟨_, _, rfl, bT ((awake_c w3).mono ?_)⟩
    rintro _ w4 ⟨rfl, g4⟩
    exact ⟨_, rfl, bT (bT (bT (yes rfl (bT ⟨rfl, ((g1.trans' g2).trans' g3).trans' g4⟩))))⟩
  · refine (new_no s a pa m n w1 h).mono ?_
    rintro _ _ ⟨rfl, rfl⟩
    refine ⟨_, _, rfl, _, r.cell rfl, _, r.cell rfl, _, r.cell rfl, _, r.cell rfl, _, r.cell rfl, (rnew_no s a pa m n w1 h).mono ?_⟩
    rintro _ _ ⟨rfl, rfl⟩
    refine ⟨_, _, rfl, bF ((awake_c w1).mono ?_)⟩
    rintro _ w4 ⟨rfl, g4⟩
    exact ⟨_, rfl, bT (bF (bT (no (by decide) (bT (yes rfl ⟨rfl, g1.trans' g4⟩)))))⟩
end Go.Proofs.Ythddcccffiofbaa
