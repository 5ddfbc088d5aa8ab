/- The laws SurgeValidate, SurgeFormat and SurgeParse. -/
import Derived.Test.YtolpmdmcbciccaaDoorXa
namespace Go.Proofs.YtolpmdmcbciccaaDoor
open Go Go.Nf Go.RowKit

theorem Right.fit {p : Pl} (h : Right p) : p.Fit := by
  have h1 := name_len h.name
  have h2 := h.few
  refine ⟨by omega, by omega, fun l hl => ⟨by have := h.each l hl; omega, fun s hs => ?_⟩⟩
  have := step_len (h.step s (List.mem_flatten.2 ⟨l, hl, hs⟩))
  omega
theorem text_len {p : Pl} (h : Right p) : (textL p).length ≤ 10000 := by
  have h1 := acc_len h p.steps.length (Nat.le_refl _)
  rw [acc_done] at h1
  have := h.few.2
  omega
set_option maxHeartbeats 1000000 in
theorem law5_c (o : Option Addr) (c : Nat) (p : Pl) (hf : p.Fit) (w : World) {A : Nat → Prop} (h : Lol w A o p.steps) : Calls Tryd.prog 5 #[plV p.name o p.steps.length c] w (TrueG w) := by
  refine nf5 (BA p.name) o p.steps.length c w _ fun w1 e1 => (awake_c w1).mono ?_
  have r1 := Row.new e1
  have g1 : Grow w w1 := only_alloc e1
  rintro _ w4 ⟨rfl, g4⟩
  have G4 := g1.trans' g4
  have r4 := r1.grow g4
  refine ⟨_, rfl, fun _ => ⟨_, r4.cell rfl, _, _, _, r4.cell rfl, (small45_c o c p hf w4 (h.grow G4)).mono ?_⟩, fun k => by cases k⟩
  rintro _ w12 ⟨⟨b, rfl⟩, g12⟩
  have G12 := G4.trans' g12
  refine ⟨_, rfl, fun _ w15 e15 => ?_, fun _ => again G12⟩
  have g15 : Grow w12 w15 := only_drew e15
  have G15 := G12.trans' g15
  have r15 := (r4.grow g12).grow g15
  refine ⟨_, r15.cell rfl, _, _, _, r15.cell rfl, _, r15.cell rfl, _, _, _, r15.cell rfl, (own_c o c p hf w15 (h.grow G15)).mono ?_⟩
  rintro _ w26 ⟨o28, c30, rfl, hL26, g26⟩
  refine ⟨_, _, _, _, rfl, kept_only g26 r15.lt (fun h => h), (validate_c o28 c30 p hf w26 hL26).mono ?_⟩
  rintro _ w32 ⟨rfl, g32⟩
  refine ⟨_, rfl, kept_only (g26.trans' g32 : Grow w15 w32) r15.lt (fun h => h), (right_c o c p hf w32 (h.grow ((G15.trans' g26).trans' g32))).mono ?_⟩
  rintro _ w35 ⟨rfl, g35⟩
  exact ⟨_, rfl, fun _ => ⟨rfl, ((G15.trans' g26).trans' g32).trans' g35⟩, fun k => absurd rfl (dF k)⟩
theorem textE_yes {p : Pl} (h : rightL p = -1) : textE p = .tuple #[.string (BA (textL p)), .int .i64 0] := by unfold textE; rw [if_pos h, if_pos h]
theorem textE_no {p : Pl} (h : rightL p ≠ -1) : textE p = .tuple #[.string (BA []), .int .i64 1] := by unfold textE; rw [if_neg h, if_neg h]
set_option maxHeartbeats 4000000 in
theorem law9_c (o : Option Addr) (c : Nat) (p : Pl) (hf : p.Fit) (w : World) {A : Nat → Prop} (h : Lol w A o p.steps) : Calls Tryd.prog 9 #[plV p.name o p.steps.length c] w (TrueG w) := by
  have h := h.low
  refine nf9 (BA p.name) o p.steps.length c w _ fun w1 e1 => (awake_c w1).mono ?_
  have r1 := Row.new e1
  have g1 : Grow w w1 := only_alloc e1
  rintro _ w4 ⟨rfl, g4⟩
  have G4 := g1.trans' g4
  have r4 := r1.grow g4
  refine ⟨_, rfl, fun _ => ⟨_, r4.cell rfl, _, _, _, r4.cell rfl, (small45_c o c p hf w4 (h.grow G4)).mono ?_⟩, fun k => by cases k⟩
  rintro _ w12 ⟨⟨b, rfl⟩, g12⟩
  have G12 := G4.trans' g12
  refine ⟨_, rfl, fun _ => ?_, fun _ => again G12⟩
  have r12 := r4.grow g12
  refine ⟨_, r12.cell rfl, _, _, _, r12.cell rfl, (own_c o c p hf w12 (h.grow G12)).mono ?_⟩
  rintro _ w20 ⟨o22, c24, rfl, hL20, g20⟩
  refine ⟨_, _, _, _, rfl, (format_c o22 c24 p hf w20 hL20).mono ?_⟩
  rintro _ w26 ⟨rfl, g26⟩
  have G26 := (G12.trans' g20).trans' g26
  have r26 := (r12.grow g20).grow g26
  by_cases hv : rightL p = -1
  · have hR := right_iff.1 hv
    rw [textE_yes hv]
    refine ⟨_, _, rfl, _, r26.cell rfl, _, _, _, r26.cell rfl, (refText_c o c p hf w26 (h.grow G26)).mono ?_⟩
    rw [textE_yes hv]
    rintro _ w34 ⟨rfl, g34⟩
    have G34 := G26.trans' g34
    refine ⟨_, _, rfl, fun k => (by rw [strEq_BA] at k; exact absurd rfl (nT k)), fun _ => ⟨fun k => absurd rfl (nT k), fun _ => (parse_c (textL p) (by have := text_len hR; omega) w34).mono ?_⟩⟩
    rw [read_of hR]
    rintro _ w42 ⟨g42, o44, c46, rfl, hL42⟩
    refine ⟨_, _, _, _, _, _, rfl, fun w49 e49 => ⟨(Row.new e49).there (by simp), fun w51 e51 w53 e53 => ?_⟩⟩
    obtain ⟨r51, g51⟩ := loc e49 e51 rfl
    have g53 : Grow w51 w53 := only_drew e53
    have G53 := ((G34.trans' g42).trans' g51).trans' g53
    have r53 := r51.grow g53
    have q53 := (((r26.grow g34).grow g42).grow g51).grow g53
    refine ⟨fun k => absurd rfl (nT k), fun _ => ⟨_, r53.cell rfl, _, _, _, r53.cell rfl, _, q53.cell rfl, _, _, _, q53.cell rfl, (back_c p.name o44 p.steps.length c46 w53).mono ?_⟩⟩
    rintro _ w66 ⟨rfl, g66⟩
    refine ⟨_, _, _, _, rfl, kept_only g66 q53.lt (fun h => h), (same_c o44 o c46 c p p hf w66 ((hL42.grow (g51.trans' g53)).grow g66) (h.grow (G53.trans' g66))).mono ?_⟩
    rintro _ w72 ⟨rfl, g72⟩
    exact ⟨_, rfl, fun _ => ⟨fun _ => ⟨fun _ => ⟨rfl, (G53.trans' g66).trans' g72⟩, fun k => absurd rfl (dF k)⟩, fun k => absurd rfl (dF k)⟩, fun k => (by rw [decide_eq_true rfl] at k; cases k)⟩
  · rw [textE_no hv]
    refine ⟨_, _, rfl, _, r26.cell rfl, _, _, _, r26.cell rfl, (refText_c o c p hf w26 (h.grow G26)).mono ?_⟩
    rw [textE_no hv]
    rintro _ w34 ⟨rfl, g34⟩
    have G34 := G26.trans' g34
    refine ⟨_, _, rfl, fun k => (by rw [strEq_BA] at k; exact absurd rfl (nT k)), fun _ => ⟨fun k => absurd rfl (nT k), fun _ => (parse_c [] (by decide) w34).mono ?_⟩⟩
    rintro _ w42 ⟨g42, o44, c46, rfl, hL42⟩
    refine ⟨_, _, _, _, _, _, rfl, fun w49 e49 => ⟨(Row.new e49).there (by simp), fun w51 e51 w53 e53 => ?_⟩⟩
    obtain ⟨r51, g51⟩ := loc e49 e51 rfl
    have g53 : Grow w51 w53 := only_drew e53
    have G53 := ((G34.trans' g42).trans' g51).trans' g53
    exact ⟨fun _ => ⟨rfl, G53⟩, fun k => absurd (nF k) (by decide)⟩
theorem read_fit (s : Str) : (outP (readL s)).Fit := by
  cases h : readL s with
  | bad k => exact nil_fit
  | plan p => exact (read_right h).fit
set_option maxHeartbeats 4000000 in
theorem law10_c (s : Str) (w : World) : Calls Tryd.prog 10 #[.string (BA s)] w (TrueG w) := by
  refine nf10 (BA s) w _ ((awake_c w).mono ?_)
  rintro _ w2 ⟨rfl, g2⟩
  rw [BA_size]
  refine ⟨_, rfl, fun _ => ⟨fun _ => again g2, fun hs => (parse_c s (by have := dF hs; omega) w2).mono ?_⟩, fun k => by cases k⟩
  have hs := dF hs
  have hfit := read_fit s
  rintro _ w11 ⟨g11, o13, c15, rfl, hL11⟩
  refine ⟨_, _, _, _, _, _, rfl, fun w18 e18 => ⟨(Row.new e18).there (by simp), fun w20 e20 => (refParse_c s (by omega) w20).mono ?_⟩⟩
  obtain ⟨r20, g20⟩ := loc e18 e20 rfl
  rintro _ w23 ⟨g23, o25, c27, rfl, hL23⟩
  refine ⟨_, _, _, _, _, _, rfl, fun w30 e30 => ⟨(Row.new e30).there (by simp), fun w32 e32 w34 e34 => ?_⟩⟩
  obtain ⟨r32, g32⟩ := loc e30 e32 rfl
  have g34 : Grow w32 w34 := only_drew e34
  have r34 := r32.grow g34
  have q34 := ((r20.grow g23).grow g32).grow g34
  have gA := (g32.trans' g34)
  have G34 := ((g2.trans' g11).trans' (g20.trans' g23)).trans' gA
  refine ⟨_, q34.cell rfl, _, _, _, q34.cell rfl, _, r34.cell rfl, _, _, _, r34.cell rfl, (back_c _ o13 _ c15 w34).mono ?_⟩
  rintro _ w45 ⟨rfl, g45⟩
  refine ⟨_, _, _, _, rfl, kept_only g45 r34.lt (fun h => h), (same_c o13 o25 c15 c27 _ _ hfit w45 (hL11.grow (((g20.trans' g23).trans' gA).trans' g45)) (hL23.grow (gA.trans' g45))).mono ?_⟩
  rintro _ w51 ⟨rfl, g51⟩
  have q51 := (q34.grow g45).grow g51
  have G51 := (G34.trans' g45).trans' g51
  refine ⟨_, rfl, fun _ => ⟨fun k => absurd rfl (nT k), fun _ => ⟨fun k => absurd rfl (nT k), fun _ => ⟨_, q51.cell rfl, _, _, _, q51.cell rfl, (format_c o13 c15 _ hfit w51 (hL11.grow ((((g20.trans' g23).trans' gA).trans' g45).trans' g51))).mono ?_⟩⟩⟩, fun k => (by rw [decide_eq_true rfl] at k; cases k)⟩
  rintro _ w63 ⟨rfl, g63⟩
  cases h : readL s with
  | bad k =>
    rw [show textE (outP (Out.bad k)) = _ from textE_no (p := ⟨[], []⟩) (by decide)]
    exact ⟨_, _, rfl, fun _ => ⟨rfl, G51.trans' g63⟩, fun k => absurd (nF k) (show ¬ (2 : Int) = 0 by decide)⟩
  | plan p =>
    have hR := read_right h
    rw [show textE (outP (Out.plan p)) = _ from textE_yes (p := p) (right_iff.2 hR), read_text h]
    refine ⟨_, _, rfl, fun k => absurd rfl (nT k), fun _ => ⟨fun _ => ⟨fun _ => ⟨rfl, G51.trans' g63⟩, fun k => absurd rfl (dF k)⟩, fun k => ?_⟩⟩
    rw [strEq_BA] at k
    exact absurd rfl (dF k)
end Go.Proofs.YtolpmdmcbciccaaDoor
