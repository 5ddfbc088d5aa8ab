/- The statements Check and UrgencyRange. -/
import Derived.Test.YtbaacpfjecbbgaaKk
namespace Go.Proofs.Ytbaacpfjecbbgaa
open Go Go.Nf

theorem law13_c (o : Option Addr) (c : Nat) (p : Prot) (hf : FitP p) (w : World) {A : Nat → Prop} (h : Qs w A o p.qs) :
    Calls Try.prog 13 #[.agg #[.string p.name, .int .i64 p.version, .slice o p.qs.length c]] w fun e w' => e = .returned (.bool true) ∧ Grow w w' := by
  have hfl := hf.qs
  refine nf13 p.name p.version o p.qs.length c w _ fun w1 e1 => (awake13_c w1).mono ?_
  have r := Row.new e1
  have g : Grow w w1 := only_alloc e1
  rintro _ w4 ⟨rfl, g4⟩
  have r4 := r.grow g4
  have h4 := (h.grow g).grow g4
  refine ⟨_, rfl, fun _ => ⟨_, r4.cell rfl, _, r4.cell rfl, _, _, _, r4.cell rfl, (few_c o c p hf w4 h4).mono ?_⟩, fun hb => (by cases hb)⟩
  rintro _ w13 ⟨b, rfl, hb, g13⟩
  have r13 := r4.grow g13
  have h13 := h4.grow g13
  have G13 := (g.trans' g4).trans' g13
  refine ⟨_, rfl, fun hbt => ⟨_, r13.cell rfl, _, r13.cell rfl, _, _, _, r13.cell rfl, (check_c o c p hfl w13 h13).mono ?_⟩, fun _ => (awake13_c w13).mono ?_⟩
  · rintro _ w22 ⟨x, y, rfl, hE, g22⟩
    have r22 := r13.grow g22
    refine ⟨_, _, rfl, _, r22.cell rfl, _, r22.cell rfl, _, _, _, r22.cell rfl, (ends_c o c p hf w22 (h13.grow g22)).mono ?_⟩
    rintro _ w31 ⟨x', y', rfl, hE', g31⟩
    obtain ⟨rfl, rfl⟩ := ending_one hE hE'
    exact ⟨_, _, rfl, yes rfl (yes rfl ⟨rfl, (G13.trans' g22).trans' g31⟩)⟩
  · rintro _ w40 ⟨rfl, g40⟩
    exact ⟨_, rfl, fun _ => ⟨rfl, G13.trans' g40⟩, fun h => (by cases h)⟩
theorem law15_c (o : Option Addr) (c : Nat) (p : Prot) (q : Int) (hf : FitP p) (w : World) {A : Nat → Prop} (h : Qs w A o p.qs) :
    Calls Try.prog 15 #[.agg #[.string p.name, .int .i64 p.version, .slice o p.qs.length c], .int .i64 q] w fun e w' => e = .returned (.bool true) ∧ Grow w w' := by
  have hfl := hf.qs
  refine nf15 p.name p.version o p.qs.length c q w _ fun w1 e1 => (awake13_c w1).mono ?_
  have r := Row.new e1
  have g : Grow w w1 := only_alloc e1
  rintro _ w4 ⟨rfl, g4⟩
  have r4 := r.grow g4
  have h4 := (h.grow g).grow g4
  refine ⟨_, rfl, fun _ => ⟨_, r4.cell rfl, _, r4.cell rfl, _, _, _, r4.cell rfl, (few_c o c p hf w4 h4).mono ?_⟩, fun hb => (by cases hb)⟩
  rintro _ w13 ⟨b, rfl, hb, g13⟩
  have r13 := r4.grow g13
  have h13 := h4.grow g13
  have G13 := (g.trans' g4).trans' g13
  refine ⟨_, rfl, fun hbt => ⟨_, r13.cell rfl, _, r13.cell rfl, _, _, _, r13.cell rfl, (urgencyRange_c o c p q hfl w13 h13).mono ?_⟩, fun _ => (awake13_c w13).mono ?_⟩
  · rintro _ w22 ⟨x, y, rfl, hE, g22⟩
    have r22 := r13.grow g22
    refine ⟨_, _, rfl, _, r22.cell rfl, _, r22.cell rfl, _, _, _, r22.cell rfl, (range_c o c p q hf w22 (h13.grow g22)).mono ?_⟩
    rintro _ w31 ⟨x', y', rfl, hE', g31⟩
    obtain ⟨rfl, rfl⟩ := isRange_one hE hE'
    exact ⟨_, _, rfl, yes rfl (yes rfl ⟨rfl, (G13.trans' g22).trans' g31⟩)⟩
  · rintro _ w40 ⟨rfl, g40⟩
    exact ⟨_, rfl, fun _ => ⟨rfl, G13.trans' g40⟩, fun h => (by cases h)⟩
end Go.Proofs.Ytbaacpfjecbbgaa
