/- Law: a store takes a protocol if and only if it is valid and ends. -/
import Derived.Test.YtbaacpfjecbbgaaQt
namespace Go.Proofs.Ytbaacpfjecbbgaa
open Go Go.Nf

theorem putE_nil (q v : Int) : putE q none none 0 v = q := by
  unfold putE
  by_cases h : q ≠ 0
  · rw [if_pos h]
  · rw [if_neg h, if_neg (by simp), if_neg (by simp [later]), if_neg (by decide)]
    simpa using (Classical.not_not.1 h).symm
set_option maxHeartbeats 4000000 in
theorem law11_c (o : Option Addr) (c : Nat) (p : Prot) (hf : FitP p) (w : World) {A : Nat → Prop} (h : Qs w A o p.qs) :
    Calls Try.prog 11 #[aggP p o c] w (Tru w) := by
  have h := Qs.low h
  refine nf11n p.name p.version o p.qs.length c w _ fun w1 e1 => (wakes_c w1).mono ?_
  have r1 := Row.new e1
  have g1 : Grow w w1 := only_alloc e1
  rintro _ w4 ⟨rfl, g4⟩
  have r4 := r1.grow g4
  have G4 := g1.trans' g4
  refine ⟨_, rfl, fun _ => ⟨_, r4.cell rfl, _, r4.cell rfl, _, _, _, r4.cell rfl, (small15_c o c p hf w4 (h.grow G4)).mono ?_⟩, fun h => (by cases h)⟩
  rintro _ w13 ⟨b, rfl, -, g13⟩
  have r13 := r4.grow g13
  have G13 := G4.trans' g13
  refine ⟨_, rfl, fun _ => (newB_c w13).mono ?_, fun _ => ⟨rfl, G13⟩⟩
  rintro _ w17 ⟨t, m, rfl, s17, g17⟩
  have r17 := r13.grow g17
  have G17 := G13.trans' g17
  have z13 := G13.size
  have zz : hs w < hs w13 := by have := r13.lt; exact this
  have q17 := h.grow G17
  have low : ∀ b, b < hs w → ¬ (b = t ∨ b = m) := fun b hb hm => by have := (s17.ms b hm).1; omega
  refine ⟨_, rfl, _, r17.cell rfl, _, r17.cell rfl, _, _, _, r17.cell rfl, (put_c (p := p) hf.qs q17 low .nil (Nat.zero_le _) s17).mono ?_⟩
  rintro _ w25 ⟨x, q, g, r, S1, M1, D1, hE, hg, hr, rfl, h1, h2, s25, o25, hM1, -⟩
  obtain rfl := isGet_one (l := []) (Sorted.uniq .nil) hg (get0 _ _)
  have hr0 : r = none := isNew_one (l := []) (Sorted.uniq .nil) hr (.inl ⟨rfl, fun u hu => by cases hu⟩)
  subst hr0
  have e26 : putE q none none ([] : List Prot).length p.version = q := putE_nil q p.version
  rw [e26] at h1 h2 ⊢
  have low1 : ∀ b, b < hs w → ¬ M1 b := fun b hb hm => by have := (s25.ms b hm).1; omega
  have O25 : Only (fun b => hs w ≤ b) w w25 := (Grow.only G17).trans' (o25.mono fun b _ hb => by have := (s17.ms b hb).1; omega)
  have r25 := r17.keep o25 fun hm => by have := (s17.ms _ hm).1; omega
  have q25 := q17.keep o25 low
  refine ⟨_, rfl, _, r25.cell rfl, _, r25.cell rfl, _, _, _, r25.cell rfl, (right_c o c p hf w25 q25).mono ?_⟩
  rintro _ w33 ⟨⟨y, rfl⟩, g33⟩
  refine ⟨_, _, rfl, fun k hk => ?_⟩
  have hk' : ∀ w38, Grow w33 w38 → k q w38 := fun w38 g38 => hk w38 q fun _ => by
    have r38 := (r25.grow g33).grow g38
    have q38 := (q25.grow g33).grow g38
    have s38 := (s25.grow g33).grow g38
    have O38 := (O25.grow g33).grow g38
    by_cases hq0 : q = 0
    · subst hq0
      obtain ⟨X, Y, hc, -, rfl⟩ := h1 rfl
      obtain ⟨rfl, rfl⟩ := cut_nil hc
      have hso : Sorted [p] := List.pairwise_singleton _ _
      have hok : Ok [p] := fun u hu => by rw [List.mem_singleton] at hu; rw [hu]; exact ⟨x, hE⟩
      have hget : ∀ r, IsGet [p] p.name p.version r → r = some p := fun r hr => isGet_one hso.uniq hr (.inr ⟨p, rfl, .head _, rfl, rfl⟩)
      have hnew : ∀ r, IsNew [p] p.name r → r = some p := fun r hr => isNew_one hso.uniq hr (.inr ⟨p, rfl, .head _, rfl, fun u hu _ => by rw [List.mem_singleton] at hu; rw [hu]; exact Int.le_refl _⟩)
      obtain ⟨so, sc, rt, hp⟩ := s38.read
      refine ⟨_, r38.cell rfl, _, r38.cell rfl, (getP_c p.name p.version hso (by show 1 ≤ 1000; decide) hok.fine rt hp).mono ?_⟩
      rintro _ w45 ⟨r, hr, ⟨o48, c48, rfl, hq48⟩, g45⟩
      obtain rfl := hget r hr
      refine ⟨_, _, _, _, _, _, rfl, fun _ w53 e53 => ⟨(Row.new e53).there (by simp), fun w55 e55 => ?_⟩, fun h => (by cases h)⟩
      obtain ⟨r55, g55⟩ := loc e53 e55 rfl
      have G55 := g45.trans' g55
      refine ⟨_, (r38.grow G55).cell rfl, (newestP_c p.name hso (by show 1 ≤ 1000; decide) hok.fine (rt.grow G55) (hp.grow G55)).mono ?_⟩
      rintro _ w59 ⟨r, hr, ⟨o62, c62, rfl, hq62⟩, g59⟩
      obtain rfl := hnew r hr
      refine ⟨_, _, _, _, _, _, rfl, fun _ w67 e67 => ⟨(Row.new e67).there (by simp), fun w69 e69 => ?_⟩, fun h => (by cases h)⟩
      obtain ⟨r69, g69⟩ := loc e67 e69 rfl
      have G59 := (G55.trans' g59).trans' g69
      have r45 := (r55.grow g59).grow g69
      have r38b := r38.grow G59
      refine ⟨fun hn => absurd rfl (nT hn), fun _ => ⟨fun _ => ⟨_, r45.cell rfl, _, r45.cell rfl, _, _, _, r45.cell rfl, _, r38b.cell rfl, _, r38b.cell rfl, _, _, _, r38b.cell rfl,
        (eqP_c o48 o c48 c p hf w69 (((hq48.grow g55).grow g59).grow g69) (q38.grow G59)).mono ?_⟩, fun h => absurd rfl (dF h)⟩⟩
      rintro _ w87 ⟨rfl, g87⟩
      have G87 := G59.trans' g87
      have r69b := r69.grow g87
      have r38c := r38.grow G87
      refine ⟨_, rfl, fun _ => ⟨_, r69b.cell rfl, _, r69b.cell rfl, _, _, _, r69b.cell rfl, _, r38c.cell rfl, _, r38c.cell rfl, _, _, _, r38c.cell rfl,
        (eqP_c o62 o c62 c p hf w87 ((hq62.grow g69).grow g87) (q38.grow G87)).mono ?_⟩, fun h => (by cases h)⟩
      rintro _ w101 ⟨rfl, g101⟩
      have G101 := G87.trans' g101
      have r38d := r38.grow G101
      refine ⟨_, rfl, fun _ => ⟨_, r38d.cell rfl, _, r38d.cell rfl, _, _, _, r38d.cell rfl,
        (put_c (p := p) hf.qs (q38.grow G101) low1 hso (by show 1 ≤ 1000; decide) (s38.grow G101)).mono ?_⟩, fun h => (by cases h)⟩
      rintro _ w110 ⟨x2, q2, g, r, S2, M2, D2, hE2, hg2, -, rfl, -, -, s110, o110, -, -⟩
      obtain ⟨-, rfl⟩ := ending_one hE hE2
      obtain rfl := hget g hg2
      refine ⟨_, rfl, yes rfl ⟨rfl, ?_⟩⟩
      exact ((O38.grow G101).trans' (o110.mono fun b _ hb => by have := (s38.ms b hb).1; omega)).toGrow fun b hb => hb
    · obtain rfl := h2 hq0
      obtain ⟨so, sc, rt, hp⟩ := s38.read
      have hok : Ok ([] : List Prot) := fun u hu => by cases hu
      refine ⟨_, r38.cell rfl, _, r38.cell rfl, (getP_c p.name p.version .nil (Nat.zero_le _) hok.fine rt hp).mono ?_⟩
      rintro _ w45 ⟨r, hr, ⟨o48, c48, rfl, hq48⟩, g45⟩
      obtain rfl := isGet_one (l := []) (Sorted.uniq .nil) hr (get0 _ _)
      refine ⟨_, _, _, _, _, _, rfl, fun h => (by cases h), fun _ w53 e53 => ⟨(Row.new e53).there (by simp), fun w55 e55 => ?_⟩⟩
      obtain ⟨r55, g55⟩ := loc e53 e55 rfl
      have G55 := g45.trans' g55
      refine ⟨_, (r38.grow G55).cell rfl, (newestP_c p.name .nil (Nat.zero_le _) hok.fine (rt.grow G55) (hp.grow G55)).mono ?_⟩
      rintro _ w59 ⟨r, hr, ⟨o62, c62, rfl, hq62⟩, g59⟩
      have hr0 : r = none := isNew_one (l := []) (Sorted.uniq .nil) hr (.inl ⟨rfl, fun u hu => by cases hu⟩)
      subst hr0
      refine ⟨_, _, _, _, _, _, rfl, fun h => (by cases h), fun _ w67 e67 => ⟨(Row.new e67).there (by simp), fun w69 e69 => ?_⟩⟩
      obtain ⟨r69, g69⟩ := loc e67 e69 rfl
      have G59 := (G55.trans' g59).trans' g69
      refine ⟨fun _ => ⟨fun _ => (names_c .nil (Nat.zero_le _) (rt.grow G59) (hp.grow G59)).mono ?_, fun h => absurd rfl (dF h)⟩, fun h => absurd (nF h) hq0⟩
      rintro _ w161 ⟨ns, o162, c164, rfl, hN, -, -, g161⟩
      have hns : ns = [] := by
        cases ns with
        | nil => rfl
        | cons a l => obtain ⟨u, hu, -⟩ := (hN.2 a).1 (.head _); cases hu
      subst hns
      refine ⟨_, _, _, rfl, yes rfl ⟨rfl, ?_⟩⟩
      exact ((O38.grow G59).grow g161).toGrow fun b hb => hb
  refine ⟨fun _ => ⟨_, (r25.grow g33).cell rfl, _, (r25.grow g33).cell rfl, _, _, _, (r25.grow g33).cell rfl, (ends_c o c p hf w33 (q25.grow g33)).mono ?_⟩, fun h0 => ?_⟩
  · rintro _ w178 ⟨x', y', rfl, hE', g178⟩
    obtain ⟨-, rfl⟩ := ending_one hE hE'
    exact ⟨_, _, rfl, hk' _ g178⟩
  · cases hv : validB p with
    | true => rw [hv] at h0; exact absurd rfl (dF h0)
    | false =>
      obtain ⟨-, rfl⟩ := ending_one hE (.inl ⟨hv, rfl, rfl⟩)
      exact hk' _ (Only.refl _ _)
end Go.Proofs.Ytbaacpfjecbbgaa
