/- The statement CountPaths. -/
import Derived.Test.YtbaacpfjecbbgaaMb
namespace Go.Proofs.Ytbaacpfjecbbgaa
open Go Go.Nf

theorem law17_c (o : Option Addr) (c : Nat) (p : Prot) (hf : FitP p) (w : World) {A : Nat → Prop} (h : Qs w A o p.qs) :
    Calls Try.prog 17 #[.agg #[.string p.name, .int .i64 p.version, .slice o p.qs.length c]] w fun e w' => e = .returned (.bool true) ∧ Grow w w' := by
  have hfl := hf.qs
  refine nf17 p.name p.version o p.qs.length c w _ fun w1 e1 => (awake13_c w1).mono ?_
  have r := Row.new e1
  have g : Grow w w1 := only_alloc e1
  rintro _ w4 ⟨rfl, g4⟩
  have r4 := r.grow g4
  have h4 := (h.grow g).grow g4
  refine ⟨_, rfl, fun _ => ⟨_, r4.cell rfl, _, r4.cell rfl, _, _, _, r4.cell rfl, (few_c o c p hf w4 h4).mono ?_⟩, fun hb => (by cases hb)⟩
  rintro _ w13 ⟨b, rfl, hb, g13⟩
  have r13 := r4.grow g13
  have h13 := h4.grow g13
  have G13 := (g.trans' g4).trans' g13
  refine ⟨_, rfl, fun hbt => ⟨_, r13.cell rfl, _, r13.cell rfl, _, _, _, r13.cell rfl, (countPaths_c o c p hfl w13 h13).mono ?_⟩, fun _ => (awake13_c w13).mono ?_⟩
  · rintro _ w22 ⟨x, y, hE, rfl, g22⟩
    have r22 := r13.grow g22
    have h22 := h13.grow g22
    refine ⟨_, rfl, _, r22.cell rfl, _, r22.cell rfl, _, _, _, r22.cell rfl, (count_c o c p hf w22 h22).mono ?_⟩
    rintro _ w31 ⟨x', y', hE', rfl, g31⟩
    obtain ⟨rfl, rfl⟩ := ending_one hE hE'
    have r31 := r22.grow g31
    have G31 := (G13.trans' g22).trans' g31
    refine ⟨_, rfl, yes rfl ⟨fun _ => ⟨rfl, G31⟩, fun hle => ⟨_, r31.cell rfl, _, r31.cell rfl, _, _, _, r31.cell rfl, (taken_c o c p 101 (by omega) (by omega) hfl w31 (h22.grow g31)).mono ?_⟩⟩⟩
    rintro _ w41 ⟨x', y', o', c', hE', rfl, hM, g41⟩
    obtain ⟨rfl, rfl⟩ := ending_one hE hE'
    have hle := dF hle
    refine ⟨_, _, _, rfl, yes ?_ ⟨rfl, G31.trans' g41⟩⟩
    rw [List.length_take]
    have : sat (waysB p y).length = min (waysB p y).length inf := rfl
    have hinf : inf = 4611686018427387904 := rfl
    omega
  · rintro _ w40 ⟨rfl, g40⟩
    exact ⟨_, rfl, fun _ => ⟨rfl, G13.trans' g40⟩, fun h => (by cases h)⟩
end Go.Proofs.Ytbaacpfjecbbgaa
