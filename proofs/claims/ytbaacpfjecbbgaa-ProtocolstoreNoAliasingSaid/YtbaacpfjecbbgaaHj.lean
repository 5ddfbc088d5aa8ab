/- The reference: Comes, Twice, is, Ends. -/
import Derived.Test.YtbaacpfjecbbgaaHi
namespace Go.Proofs.Ytbaacpfjecbbgaa
open Go Go.Nf

theorem round_conv {nx nx' : Nat → List Nat} {n q : Nat} {d0 d : List Bool} {i : Nat} (hs : ∀ q x, x ∈ nx q ↔ x ∈ nx' q) (h : Round nx n q d0 d i 0) : Round nx' n q d0 d i 0 :=
  ⟨h.len, fun x hx => (rch_same hs _ _).1 (h.sound x hx), h.more, fun j hj hd x hx => h.seen j hj hd x ((hs j x).2 hx), fun t x ht => by omega, h.grow, h.same⟩
/-- where question q comes to -/
def Comes (qs : List Qst) (q : Int) (d : List Bool) : Prop := d.length = qs.length ∧ ∀ x, gB d x = true ↔ (0 ≤ q ∧ q < qs.length ∧ Rch (nxP qs) q.toNat x)
set_option maxHeartbeats 1000000 in
theorem comes_c (o : Option Addr) (c : Nat) (p : Prot) (q : Int) (hn : p.qs.length ≤ 100) (hL : ∀ s, s ∈ p.qs → s.ans.length ≤ 20) (hi : Inside p.qs) (w : World) {A : Nat → Prop} (h : Qs w A o p.qs) :
    Calls Try.prog 68 #[.agg #[.string p.name, .int .i64 p.version, .slice o p.qs.length c], .int .i64 q] w fun e w' => ∃ b d, e = .returned (.slice (some ⟨b, 0, none⟩) p.qs.length p.qs.length) ∧ Row w' b 4 (boolsV d) ∧ Comes p.qs q d ∧ Grow w w' := by
  refine nf68 p.name p.version o p.qs.length c q w _ fun w1 e1 => ?_
  have r := Row.new e1
  have g : Grow w w1 := only_alloc e1
  refine ⟨_, _, _, r.cell rfl, make_bools (by omega) fun w2 r2 g2 hs2 => ⟨_, _, _, rfl, ?_⟩⟩
  have out : (q < 0 ∨ (p.qs.length : Int) ≤ q) → ∃ b d, Ending.returned (.slice (some ⟨hs w1, 0, none⟩) p.qs.length p.qs.length) = .returned (.slice (some ⟨b, 0, none⟩) p.qs.length p.qs.length) ∧ Row w2 b 4 (boolsV d) ∧ Comes p.qs q d ∧ Grow w w2 := fun hq =>
    ⟨_, _, rfl, r2, ⟨by simp, fun x => ⟨fun hx => (by rw [gB_rep] at hx; cases hx), fun hx => by omega⟩⟩, g.trans' g2⟩
  refine ⟨fun h1 => out (.inl (dT h1)), fun h1 => ⟨_, _, _, (r.grow g2).cell rfl, fun h2 => out (.inr (dT h2)), fun h2 => ⟨_, rfl, ⟨?_, ?_⟩, ?_⟩⟩⟩
  · have := dF h1; omega
  · have := dF h2; omega
  have h1 := dF h1
  have h2 := dF h2
  obtain ⟨s, rfl⟩ : ∃ i : Nat, q = (i : Int) := ⟨q.toNat, by omega⟩
  have hsn : s < p.qs.length := by omega
  refine ⟨r2.thereAdd (by rw [toNat_cast, boolsV_len]; simp; omega), fun w3 e3 => ?_⟩
  have r3 := r2.setAdd e3
  rw [boolsV_set] at r3
  have g3 : Grow w1 w3 := g2.trans (only_setAdd e3) fun b hb e => by omega
  refine ⟨fun k x w' => ∃ (t : Nat) (d : List Bool), x = (t : Int) ∧ t ≤ p.qs.length ∧ k = p.qs.length - t ∧ Rounds (nxP p.qs) p.qs.length s d t ∧ Row w' (hs w1) 4 (boolsV d) ∧ Grow w1 w', ⟨_, 0, _, rfl, Nat.zero_le _, rfl, Rounds.start hsn, r3, g3⟩, ?_⟩
  rintro k _ w4 x ⟨t, d0, rfl, ht, rfl, hRs, r4, g4⟩
  refine ⟨_, _, _, (r.grow g4).cell rfl, fun hlt => ?_, fun hge => ?_⟩
  · have hlt : t < p.qs.length := by have := dT hlt; omega
    refine ⟨fun k x w' => ∃ (i : Nat) (d : List Bool), x = (i : Int) ∧ i ≤ p.qs.length ∧ k = p.qs.length - i ∧ Round (nxP p.qs) p.qs.length s d0 d i 0 ∧ Row w' (hs w1) 4 (boolsV d) ∧ Grow w1 w', ⟨_, 0, d0, rfl, Nat.zero_le _, rfl, Round.start hRs.len hRs.sound, r4, g4⟩, ?_⟩
    rintro k _ w5 x ⟨i, d, rfl, hil, rfl, hR, r5, g5⟩
    refine ⟨_, _, _, (r.grow g5).cell rfl, fun hlt2 k43 hk43 => ?_, fun hge2 => ?_⟩
    · have hin : i < p.qs.length := by have := dT hlt2; omega
      have next : ∀ w' d', Round (nxP p.qs) p.qs.length s d0 d' (i + 1) 0 → Row w' (hs w1) 4 (boolsV d') → Grow w1 w' → k43 w' := fun w' d' q1 q2 q3 =>
        hk43 _ fun _ => ⟨_, by omega, i + 1, d', by rw [wr (by omega)]; omega, hin, rfl, q1, q2, q3⟩
      have hdl := hR.len
      have rp := r.grow g5
      refine ⟨_, rfl, ⟨by omega, by omega⟩, _, r5.cellAdd (boolsV_get (by omega)), fun hb => ⟨_, rp.cell rfl, _, rp.cell rfl, _, _, _, rp.cell rfl, (next_c o c p i hL w5 ((h.grow g).grow g5)).mono ?_⟩, fun hb => next _ _ (hR.skip hb) r5 g5⟩
      rintro _ w6 ⟨o6, c6, xs, rfl, own6, hmem, hxl, g6⟩
      obtain ⟨nx', hnx'⟩ : ∃ nx' : Nat → List Nat, nx' = fun j => if j = i then xs.map Int.toNat else nxP p.qs j := ⟨_, rfl⟩
      have hni : nx' i = xs.map Int.toNat := by rw [hnx']; exact if_pos rfl
      have hsame : ∀ j x, x ∈ nxP p.qs j ↔ x ∈ nx' j := fun j x => by
        by_cases e : j = i
        · subst e
          rw [hni, mem_nxP, List.mem_map]
          constructor
          · exact fun hx => ⟨_, (hmem _).2 hx, Int.toNat_natCast _⟩
          · rintro ⟨y, hy, rfl⟩
            have := (hmem y).1 hy
            rw [Int.toNat_of_nonneg this.1]; exact this
        · rw [hnx']
          show _ ↔ x ∈ (if j = i then _ else _)
          rw [if_neg e]
      have g16 : Grow w1 w6 := g5.trans' g6
      have hb6 : ∀ b, inBlock o6 b → hs w1 < b := fun b hb => by
        have := (own6.base b hb).1
        have := r5.lt
        omega
      refine ⟨_, _, _, rfl, fun k x w' => ∃ (t : Nat) (d' : List Bool), x = (t : Int) ∧ t ≤ xs.length ∧ k = xs.length - t ∧ Round nx' p.qs.length s d0 d' i t ∧ gB d' i = true ∧ Row w' (hs w1) 4 (boolsV d') ∧ Only (fun b => b = hs w1) w6 w', ⟨_, 0, d, rfl, Nat.zero_le _, rfl, round_conv hsame hR, hb, r5.grow g6, Only.refl _ _⟩, ?_⟩
      rintro k _ w7 x ⟨u, d', rfl, hu, rfl, hR', hbi, r7, g7⟩
      have own7 := own6.keep g7 fun b hb e => by have := hb6 b hb; omega
      have G7 : Grow w1 w7 := g16.trans g7 fun b hb e => by omega
      refine ⟨fun hlt3 k70 hk70 => ?_, fun hge3 => ?_⟩
      · have hux : u < xs.length := by have := dT hlt3; omega
        obtain ⟨a, ha, hc⟩ := (own7.nums).get hux
        have hS := (hmem xs[u]).1 (List.getElem_mem hux)
        have hin2 := hi _ _ hS
        have hnxu : (nx' i)[u]? = some xs[u].toNat := by rw [hni, List.getElem?_map, List.getElem?_eq_getElem hux]; rfl
        obtain ⟨y, hy⟩ : ∃ y : Nat, xs[u] = (y : Int) := ⟨xs[u].toNat, by have := hS.1; omega⟩
        rw [hy] at hc hin2 hnxu
        rw [toNat_cast] at hnxu
        refine ⟨a, ha, ⟨by omega, by omega⟩, _, hc, fun _ => ⟨a, ha, ⟨by omega, by omega⟩, _, hc, fun _ => ⟨a, ha, ⟨by omega, by omega⟩, _, hc, _, rfl, ⟨by omega, by omega⟩, r7.thereAdd (by rw [toNat_cast, boolsV_len]; have := hR'.len; simp; omega), fun w8 e8 => ?_⟩, fun h3 => absurd (show (y : Int) < (p.qs.length : Int) by omega) (dF h3)⟩, fun h3 => absurd (show (y : Int) ≥ 0 by omega) (dF h3)⟩
        have r8 := r7.setAdd e8
        rw [boolsV_set] at r8
        refine hk70 _ fun _ => ⟨_, by omega, u + 1, _, by rw [wr (by omega)]; omega, hux, rfl, hR'.mark hbi hnxu (by omega), ?_, r8, g7.trans' (only_setAdd e8)⟩
        rw [gB_set (by have := hR'.len; omega)]
        split <;> first | rfl | exact hbi
      · have := dF hge3
        obtain rfl : u = xs.length := by omega
        have hR2 : Round nx' p.qs.length s d0 d' i (nx' i).length := by rw [hni, List.length_map]; exact hR'
        exact next _ _ (round_conv (fun j x => (hsame j x).symm) hR2.next) r7 G7
    · have := dF hge2
      obtain rfl : i = p.qs.length := by omega
      exact ⟨_, by omega, t + 1, d, by rw [wr (by omega)]; omega, hlt, rfl, hRs.next hR, r5, g5⟩
  · have := dF hge
    obtain rfl : t = p.qs.length := by omega
    refine ⟨_, _, rfl, r4, ⟨hRs.len, fun x => ?_⟩, g.trans' g4⟩
    rw [hRs.end_, toNat_cast]
    exact ⟨fun hx => ⟨by omega, by omega, hx⟩, fun hx => hx.2.2⟩
set_option maxHeartbeats 1000000 in
theorem twice_c (o : Option Addr) (c : Nat) (p : Prot) (q : Nat) (hq : q < p.qs.length) (hn : p.qs.length ≤ 100) (hL : ∀ s, s ∈ p.qs → s.ans.length ≤ 20) (hi : Inside p.qs) (w : World) {A : Nat → Prop} (h : Qs w A o p.qs) :
    Calls Try.prog 74 #[.agg #[.string p.name, .int .i64 p.version, .slice o p.qs.length c], .int .i64 q] w fun e w' => ∃ b, e = .returned (.bool b) ∧ (b = true ↔ Cyc (nxP p.qs) q) ∧ Grow w w' := by
  refine nf74 p.name p.version o p.qs.length c q w _ fun w1 e1 => ?_
  have r := Row.new e1
  have g : Grow w w1 := only_alloc e1
  refine ⟨_, r.cell rfl, _, r.cell rfl, _, _, _, r.cell rfl, (next_c o c p q hL w1 (h.grow g)).mono ?_⟩
  rintro _ w2 ⟨o2, c2, xs, rfl, own2, hmem, hxl, g2⟩
  refine ⟨_, _, _, rfl, fun k x w' => ∃ t : Nat, x = (t : Int) ∧ t ≤ xs.length ∧ k = xs.length - t ∧ (∀ j (hj : j < xs.length), j < t → ¬ Rch (nxP p.qs) xs[j].toNat q) ∧ Grow w2 w', ⟨_, 0, rfl, Nat.zero_le _, rfl, fun j _ hj => by omega, Only.refl _ _⟩, ?_⟩
  rintro k _ w3 x ⟨t, rfl, ht, rfl, hI, g3⟩
  refine ⟨fun hlt w4 e4 => ?_, fun hge => ⟨_, rfl, ⟨(fun h => by cases h), fun hc => ?_⟩, (g.trans' g2).trans' g3⟩⟩
  · have hlt : t < xs.length := by have := dT hlt; omega
    have g4 : Grow w2 w4 := g3.trans' (only_drew e4)
    have r4 := (r.grow g2).grow g4
    obtain ⟨a, ha, hc⟩ := ((own2.grow g4).nums).get hlt
    have hS := (hmem xs[t]).1 (List.getElem_mem hlt)
    refine ⟨_, r4.cell rfl, _, r4.cell rfl, _, _, _, r4.cell rfl, a, ha, ⟨by omega, by omega⟩, _, hc, (comes_c o c p xs[t] hn hL hi w4 (((h.grow g).grow g2).grow g4)).mono ?_⟩
    rintro _ w5 ⟨b, d, rfl, r5, hC, g5⟩
    have hdl := hC.1
    refine ⟨_, _, _, rfl, _, rfl, ⟨by omega, by omega⟩, _, r5.cellAdd (boolsV_get (by omega)), fun hb => ⟨_, rfl, ⟨fun _ => ?_, fun _ => rfl⟩, ((g.trans' g2).trans' g4).trans' g5⟩, fun hb => ⟨_, by omega, t + 1, by rw [wr (by omega)]; omega, hlt, rfl, fun j hj hjt => ?_, g4.trans' g5⟩⟩
    · refine ⟨xs[t].toNat, mem_nxP.2 ?_, ((hC.2 q).1 hb).2.2⟩
      rw [Int.toNat_of_nonneg hS.1]; exact hS
    · by_cases e : j = t
      · subst e
        intro hr
        rw [(hC.2 q).2 ⟨hS.1, hi _ _ hS, hr⟩] at hb
        cases hb
      · exact hI j hj (by omega)
  · have := dF hge
    obtain ⟨x, hx, hr⟩ := hc
    rw [mem_nxP] at hx
    obtain ⟨j, hj, e⟩ := List.getElem_of_mem ((hmem _).2 hx)
    exact absurd (by rw [e, Int.toNat_natCast]; exact hr) (hI j hj (by omega))
theorem is_c (o : Option Addr) (c : Nat) (p : Prot) (q : Int) (hf : FitP p) (w : World) {A : Nat → Prop} (h : Qs w A o p.qs) :
    Calls Try.prog 73 #[.agg #[.string p.name, .int .i64 p.version, .slice o p.qs.length c], .int .i64 q] w fun e w' => e = .returned (.bool (validB p && (decide (0 ≤ q) && decide (q < p.qs.length)))) ∧ Grow w w' := by
  refine nf73 p.name p.version o p.qs.length c q w _ fun w1 e1 => ?_
  have r := Row.new e1
  have g : Grow w w1 := only_alloc e1
  refine ⟨_, r.cell rfl, _, r.cell rfl, _, _, _, r.cell rfl, (right_c o c p hf w1 (h.grow g)).mono ?_⟩
  rintro _ w2 ⟨⟨x, rfl⟩, g2⟩
  have G := g.trans' g2
  refine ⟨_, _, rfl, fun hb => ⟨fun h0 => ⟨_, _, _, (r.grow g2).cell rfl, fun h1 => ⟨ret_bool ?_, G⟩, fun h1 => ⟨ret_bool ?_, G⟩⟩, fun h0 => ⟨ret_bool ?_, G⟩⟩, fun hb => ⟨ret_bool ?_, G⟩⟩
  · cases hv : validB p
    · rw [hv] at hb; exact absurd (dT hb) (by decide)
    · rw [show decide (0 ≤ q) = true from h0, h1]; rfl
  · rw [h1]; simp
  · rw [show decide (0 ≤ q) = false from h0]; simp
  · cases hv : validB p
    · rfl
    · rw [hv] at hb; exact absurd rfl (dF hb)
set_option maxHeartbeats 1000000 in
theorem ends_c (o : Option Addr) (c : Nat) (p : Prot) (hf : FitP p) (w : World) {A : Nat → Prop} (h : Qs w A o p.qs) :
    Calls Try.prog 31 #[.agg #[.string p.name, .int .i64 p.version, .slice o p.qs.length c]] w fun e w' => ∃ x y, e = .returned (.tuple #[.int .i64 x, .int .i64 y]) ∧ Ending' p x y ∧ Grow w w' := by
  refine nf31 p.name p.version o p.qs.length c w _ fun w1 e1 => ?_
  have r := Row.new e1
  have g : Grow w w1 := only_alloc e1
  refine ⟨_, r.cell rfl, _, r.cell rfl, _, _, _, r.cell rfl, (is_c o c p 0 hf w1 (h.grow g)).mono ?_⟩
  rintro _ w2 ⟨rfl, g2⟩
  refine ⟨_, rfl, fun hb => ?_, fun hb => ⟨_, _, rfl, .inl ⟨?_, rfl, rfl⟩, g.trans' g2⟩⟩
  · rw [Bool.and_eq_true] at hb
    have hv := hb.1
    have V := valid_of hv
    have htop := V.top
    have hpos := V.pos
    refine ⟨fun k x w' => ∃ j : Nat, x = (j : Int) ∧ j ≤ p.qs.length ∧ k = p.qs.length - j ∧ (∀ i, i < j → ¬ Cyc (nxP p.qs) i) ∧ Grow w1 w', ⟨_, 0, rfl, Nat.zero_le _, rfl, fun i hi => by omega, g2⟩, ?_⟩
    rintro k _ w4 x ⟨j, rfl, hj, rfl, hI, g4⟩
    have r4 := r.grow g4
    refine ⟨_, _, _, r4.cell rfl, fun hlt => ?_, fun hge => ⟨_, r4.cell rfl, _, r4.cell rfl, _, _, _, r4.cell rfl, ?_⟩⟩
    · have hlt : j < p.qs.length := by have := dT hlt; omega
      refine ⟨_, r4.cell rfl, _, r4.cell rfl, _, _, _, r4.cell rfl, (twice_c o c p j hlt (by omega) V.ans V.inside w4 ((h.grow g).grow g4)).mono ?_⟩
      rintro _ w5 ⟨b, rfl, hb, g5⟩
      refine ⟨_, rfl, fun h1 => ⟨_, _, rfl, .inr (.inl ⟨hv, j, hlt, rfl, hb.1 h1, hI, rfl⟩), (g.trans' g4).trans' g5⟩, fun h1 => ⟨_, by omega, j + 1, by rw [wr (by omega)]; omega, hlt, rfl, fun i hi => ?_, g4.trans' g5⟩⟩
      by_cases e : i = j
      · subst e; intro hc; rw [hb.2 hc] at h1; cases h1
      · exact hI i (by omega)
    · have := dF hge
      obtain rfl : j = p.qs.length := by omega
      refine (comes_c o c p 0 (by omega) V.ans V.inside w4 ((h.grow g).grow g4)).mono ?_
      rintro _ w6 ⟨b, d, rfl, r6, ⟨hd, hC⟩, g6⟩
      have hrc' : ∀ q, gB d q = true ↔ Rch (nxP p.qs) 0 q := fun q => by
        rw [hC]
        exact ⟨fun h => h.2.2, fun h => ⟨by omega, by omega, h⟩⟩
      have G6 := (g.trans' g4).trans' g6
      refine ⟨_, _, _, rfl, fun k x w' => ∃ j : Nat, x = (j : Int) ∧ j ≤ p.qs.length ∧ k = p.qs.length - j ∧ (∀ i, i < j → Rch (nxP p.qs) 0 i) ∧ w' = w6, ⟨_, 0, rfl, Nat.zero_le _, rfl, fun i hi => by omega, rfl⟩, ?_⟩
      rintro k _ _ x ⟨j, rfl, hj, rfl, hI2, rfl⟩
      refine ⟨fun hlt => ?_, fun hge => ⟨_, _, rfl, .inr (.inr (.inr ⟨hv, hI, fun i hi => hI2 i ?_, rfl, rfl⟩)), G6⟩⟩
      · have hlt : j < p.qs.length := by have := dT hlt; omega
        refine ⟨_, rfl, ⟨by omega, by omega⟩, _, r6.cellAdd (boolsV_get (by omega)), fun hb => ⟨_, by omega, j + 1, by rw [wr (by omega)]; omega, hlt, rfl, fun i hi => ?_, rfl⟩, fun hb => ⟨_, _, rfl, .inr (.inr (.inl ⟨hv, hI, j, hlt, rfl, fun hr => ?_, hI2, rfl⟩)), G6⟩⟩
        · by_cases e : i = j
          · subst e; exact (hrc' _).1 hb
          · exact hI2 i (by omega)
        · rw [(hrc' _).2 hr] at hb; cases hb
      · have := dF hge; omega
  · cases hv : validB p
    · rfl
    · have hpos := (valid_of hv).pos
      rw [hv, decide_eq_true (by omega : (0 : Int) ≤ 0), decide_eq_true (by omega : (0 : Int) < (p.qs.length : Int))] at hb
      cases hb
end Go.Proofs.Ytbaacpfjecbbgaa
