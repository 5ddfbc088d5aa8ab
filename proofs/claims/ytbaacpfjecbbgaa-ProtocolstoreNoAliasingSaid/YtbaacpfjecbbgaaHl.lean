/- The reference's range of urgencies. -/
import Derived.Test.YtbaacpfjecbbgaaHk
namespace Go.Proofs.Ytbaacpfjecbbgaa
open Go Go.Nf

set_option maxHeartbeats 2000000 in
theorem range_c (o : Option Addr) (c : Nat) (p : Prot) (q : Int) (hf : FitP p) (w : World) {A : Nat → Prop} (h : Qs w A o p.qs) :
    Calls Try.prog 59 #[.agg #[.string p.name, .int .i64 p.version, .slice o p.qs.length c], .int .i64 q] w fun e w' => ∃ lo hi, e = .returned (.tuple #[.int .i64 lo, .int .i64 hi]) ∧ IsRange p q lo hi ∧ Grow w w' := by
  refine nf59 p.name p.version o p.qs.length c q w _ fun w1 e1 => ?_
  have r := Row.new e1
  have g : Grow w w1 := only_alloc e1
  refine ⟨_, r.cell rfl, _, r.cell rfl, _, _, _, r.cell rfl, (is_c o c p q hf w1 (h.grow g)).mono ?_⟩
  rintro _ w2 ⟨rfl, g2⟩
  have r2 := r.grow g2
  refine ⟨_, rfl, fun hv => ?_, fun hv => ⟨_, _, rfl, .inr ⟨fun hh => (by rw [hh.1, decide_eq_true hh.2.1, decide_eq_true hh.2.2] at hv; cases hv), rfl, rfl⟩, g.trans' g2⟩⟩
  simp only [Bool.and_eq_true, decide_eq_true_eq] at hv
  obtain ⟨hv, hq⟩ := hv
  have V := valid_of hv
  have htop := V.top
  refine ⟨_, r2.cell rfl, _, r2.cell rfl, _, _, _, r2.cell rfl, (comes_c o c p q (by omega) V.ans V.inside w2 ((h.grow g).grow g2)).mono ?_⟩
  obtain ⟨s, rfl⟩ : ∃ i : Nat, q = (i : Int) := ⟨q.toNat, by omega⟩
  rintro _ w6 ⟨b, d, rfl, r6, ⟨hd, hC⟩, g6⟩
  have hrc' : ∀ x, gB d x = true ↔ Rch (nxP p.qs) s x := fun x => by
    rw [hC, toNat_cast]
    exact ⟨fun h => h.2.2, fun h => ⟨hq.1, hq.2, h⟩⟩
  have G := g2.trans' g6
  have h6 := (h.grow g).grow G
  refine ⟨_, _, _, rfl, fun k x y z w' => ∃ j : Nat, z = (j : Int) ∧ j ≤ p.qs.length ∧ k = p.qs.length - j ∧ Rng (Urg p.qs fun i => i < j ∧ Rch (nxP p.qs) s i) x y ∧ Grow w6 w', ⟨_, 0, rfl, Nat.zero_le _, rfl, .inl ⟨rfl, rfl, urg_none _ _⟩, Only.refl _ _⟩, ?_⟩
  rintro k _ w7 lo hi z ⟨j, rfl, hj, rfl, hI, g7⟩
  refine ⟨fun hlt k48 hk48 => ?_, fun hge => ?_⟩
  · have hlt : j < p.qs.length := by have := dT hlt; omega
    have next : ∀ lo hi w', Rng (Urg p.qs fun i => i < j + 1 ∧ Rch (nxP p.qs) s i) lo hi → Grow w6 w' → k48 lo hi w' := fun lo hi w' q1 q2 => hk48 _ _ _ fun _ => ⟨_, by omega, j + 1, by rw [wr (by omega)]; omega, hlt, rfl, q1, q2⟩
    refine ⟨_, rfl, ⟨by omega, by omega⟩, _, (r6.grow g7).cellAdd (boolsV_get (by omega)), fun hb => ?_, fun hb => next _ _ _ (hI.congr fun u => ?_) g7⟩
    · obtain ⟨a, oi, ci, ha, c0, c1, hr⟩ := (h6.grow g7).get hlt
      have hmem : p.qs[j] ∈ p.qs := List.getElem_mem hlt
      have hans := V.ans _ hmem
      have hus := urg_succ (m := Rch (nxP p.qs) s) hlt
      have hokA : ∀ a, a ∈ p.qs[j].ans → OkAns p.qs a := fun a ha => ok_ans hv hmem ha
      have hrj := (hrc' j).1 hb
      have hpos : ∀ t u, Urg p.qs (fun i => i < j ∧ Rch (nxP p.qs) s i) u ∨ Fin' (p.qs[j].ans.take t) u → 1 ≤ u := fun t u hu => by
        rcases hu with hu | hu
        · exact hu.pos hv
        · exact hu.pos hv hmem fun a ha => List.mem_of_mem_take ha
      have hcells : ∀ w', Grow w7 w' → w'.cell? ((a.add ((j : Int).toNat * 2)).add 1) = some (.slice oi p.qs[j].ans.length ci) := fun w' g' => cell_keep g' (fun h => h) c1
      generalize p.qs[j] = sq at *
      refine ⟨fun k x y z w' => ∃ t : Nat, z = (t : Int) ∧ t ≤ sq.ans.length ∧ k = sq.ans.length - t ∧ Rng (fun u => Urg p.qs (fun i => i < j ∧ Rch (nxP p.qs) s i) u ∨ Fin' (sq.ans.take t) u) x y ∧ Grow w7 w', ⟨_, 0, rfl, Nat.zero_le _, rfl, hI.congr fun u => ⟨.inl, fun hu => hu.elim id fun hu => absurd hu (fin_nil u)⟩, Only.refl _ _⟩, ?_⟩
      rintro k _ w8 lo2 hi2 z ⟨t, rfl, ht, rfl, hI2, g8⟩
      have rp := ((r.grow G).grow g7).grow g8
      refine ⟨_, _, _, rp.cell rfl, a, ha, ⟨by omega, by omega⟩, _, _, _, hcells w8 g8, fun hlt2 k76 hk76 => ?_, fun hge2 => ?_⟩
      · have hlt2 : t < sq.ans.length := by have := dT hlt2; omega
        obtain ⟨a', ha', d0, d1, d2, d3⟩ := Recs.ans (hr.grow g8) hlt2
        have hA := hokA _ (List.getElem_mem hlt2)
        have hfs := fin_succ hlt2
        generalize sq.ans[t] = x at *
        have next2 : ∀ lo hi w', Rng (fun u => Urg p.qs (fun i => i < j ∧ Rch (nxP p.qs) s i) u ∨ Fin' (sq.ans.take (t + 1)) u) lo hi → Grow w7 w' → k76 lo hi w' := fun lo hi w' q1 q2 => hk76 _ _ _ fun _ => ⟨_, by omega, t + 1, by rw [wr (by omega)]; omega, hlt2, rfl, q1, q2⟩
        refine ⟨_, _, _, rp.cell rfl, a, ha, ⟨by omega, by omega⟩, _, _, _, hcells w8 g8, a', ha', ⟨by omega, by omega⟩, _, d0, _, d1, _, d2, _, d3, fun w9 e9 => ⟨(Row.new e9).there (by simp), fun w10 e10 => ?_⟩⟩
        obtain ⟨r10, g10⟩ := loc e9 e10 rfl
        have G10 := g8.trans' g10
        refine ⟨_, r10.cell rfl, fun h7 => next2 _ _ _ (hI2.congr fun u => ?_) G10, fun h7 k96 hk96 => ?_⟩
        · have := nT h7
          have := hA.low
          rw [hfs]
          exact ⟨fun hh => hh.elim .inl fun hh => .inr (.inl hh), fun hh => hh.elim .inl fun hh => hh.elim .inr fun hh => by omega⟩
        · have h7 : x.next < 0 := by have := nF h7; omega
          have hx1 := hA.fin h7
          have fin3 : ∀ lo, lo = (if lo2 = 0 then x.urg else if x.urg < lo2 then x.urg else lo2) → k96 lo w10 := fun lo hlo => hk96 _ _ fun _ => ⟨_, r10.cell rfl, fun h8 => ⟨_, r10.cell rfl, next2 _ _ _ ((hI2.add (hpos t) hx1 hlo (by rw [if_pos (show hi2 < x.urg from dT h8)])).congr fun u => ?_) G10⟩, fun h8 => next2 _ _ _ ((hI2.add (hpos t) hx1 hlo (by rw [if_neg (show ¬ hi2 < x.urg from dF h8)])).congr fun u => ?_) G10⟩
          · refine ⟨fun h8 => ⟨_, r10.cell rfl, fin3 _ ?_⟩, fun h8 => ⟨_, r10.cell rfl, fun h9 => ⟨_, r10.cell rfl, fin3 _ ?_⟩, fun h9 => fin3 _ ?_⟩⟩
            · rw [if_pos (dT h8)]
            · rw [if_neg (dF h8), if_pos (dT h9)]
            · rw [if_neg (dF h8), if_neg (dF h9)]
          all_goals
            rw [hfs]
            constructor
            · rintro ((h | h) | h)
              · exact .inl h
              · exact .inr (.inl h)
              · exact .inr (.inr ⟨h7, h⟩)
            · rintro (h | h | ⟨-, h⟩)
              · exact .inl (.inl h)
              · exact .inl (.inr h)
              · exact .inr h
      · have := dF hge2
        obtain rfl : t = sq.ans.length := by omega
        rw [List.take_length] at hI2
        refine next _ _ _ (hI2.congr fun u => ?_) (g7.trans' g8)
        rw [hus]
        exact ⟨fun hh => hh.elim .inl fun hh => .inr ⟨hrj, hh⟩, fun hh => hh.elim .inl fun hh => .inr hh.2⟩
    · rw [urg_succ (m := Rch (nxP p.qs) s) hlt]
      exact ⟨.inl, fun hh => hh.elim id fun hh => by rw [(hrc' j).2 hh.1] at hb; cases hb⟩
  · have := dF hge
    obtain rfl : j = p.qs.length := by omega
    refine ⟨_, _, rfl, .inl ⟨⟨hv, hq⟩, hI.congr fun u => ?_⟩, (g.trans' G).trans' g7⟩
    unfold Urg
    rw [toNat_cast]
    constructor
    · rintro ⟨i, s', ⟨-, h2⟩, h3, h4⟩; exact ⟨i, s', h2, h3, h4⟩
    · rintro ⟨i, s', h2, h3, h4⟩
      refine ⟨i, s', ⟨?_, h2⟩, h3, h4⟩
      rcases Nat.lt_or_ge i p.qs.length with h' | h'
      · exact h'
      · rw [List.getElem?_eq_none h'] at h3; cases h3
end Go.Proofs.Ytbaacpfjecbbgaa
