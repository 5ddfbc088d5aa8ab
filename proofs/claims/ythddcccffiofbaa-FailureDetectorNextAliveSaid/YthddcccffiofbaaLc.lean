/- After enough doublings a member that is heard from within a bound is no more suspected: the law as a contract. -/
import Derived.Test.YthddcccffiofbaaLb
namespace Go.Proofs.Ythddcccffiofbaa
open Go Go.Nf

/-- the patience after k false suspicions -/
def dbl (p most : Int) : Nat → Int
  | 0 => p
  | k + 1 => min (2 * dbl p most k) most
theorem dbl_bd {p m : Int} (h1 : 1 ≤ p) (h2 : p ≤ m) : ∀ k, 1 ≤ dbl p m k ∧ dbl p m k ≤ m
  | 0 => ⟨h1, h2⟩
  | k + 1 => by have := dbl_bd h1 h2 k; simp only [dbl]; omega
theorem dbl_lt {p m : Int} (h1 : 1 ≤ p) (h2 : p ≤ m) : ∀ k, dbl p m k < m → dbl p m k = p * 2 ^ k
  | 0, _ => by simp [dbl]
  | k + 1, h => by
    have hb := dbl_bd h1 h2 k
    simp only [dbl] at h ⊢
    have := dbl_lt h1 h2 k (by omega)
    rw [show min (2 * dbl p m k) m = 2 * dbl p m k by omega, this, Int.pow_succ]
    rw [Int.mul_comm 2, Int.mul_assoc]
theorem pow_mono {p : Int} (h1 : 1 ≤ p) : ∀ {a b : Nat}, a ≤ b → p * 2 ^ a ≤ p * 2 ^ b := fun {a b} h => by
  obtain ⟨c, rfl⟩ := Nat.exists_eq_add_of_le h
  induction c with
  | zero => exact Int.le_refl _
  | succ c ih =>
    have := ih (by omega)
    have h0 : 0 ≤ p * 2 ^ (a + c) := Int.mul_nonneg (by omega) (Int.pow_nonneg (by omega))
    rw [← Nat.add_assoc, Int.pow_succ, ← Int.mul_assoc]
    omega

theorem settles_law (s a pa m n within : Int) (o : Option Addr) (c : Nat) (gaps : List Int) (w : World) (hrd : Rd w o 1 (gaps.map encU)) (hg : ∀ x ∈ gaps, 0 ≤ x ∧ x ≤ 65535) :
    Calls Try.prog 7 #[.agg #[.int .i64 s, .int .i64 a, .int .i64 pa, .int .i64 m, .int .i64 n], .int .i64 within, .slice o gaps.length c] w (Tru w) := by
  refine nf7 s a pa m n within o gaps.length c w _ fun w1 e1 => ?_
  have r := Row.new e1
  have g1 : Grow w w1 := only_alloc e1
  have l1 := hs_alloc e1
  refine ⟨_, r.cell rfl, _, r.cell rfl, _, r.cell rfl, _, r.cell rfl, _, r.cell rfl, ?_⟩
  by_cases h : okMade s a pa m
  case neg =>
    refine (both_no s a pa m n w1 h).mono ?_
    rintro _ w2 ⟨rfl, g2⟩
    refine ⟨_, _, rfl, (awake_c w2).mono ?_⟩
    rintro _ w3 ⟨rfl, g3⟩
    have g := (g1.trans' g2).trans' g3
    exact ⟨_, rfl, bT (bT (awk g))⟩
  refine (both_yes s a pa m n w1 h).mono ?_
  rintro _ w2 ⟨p, mb, q, rfl, two, hp, hm, hq, g2⟩
  refine ⟨_, _, rfl, (awake_c w2).mono ?_⟩
  rintro _ w3 ⟨rfl, g3⟩
  have g := (g1.trans' g2).trans' g3
  have hd := (two.grow g3).det
  have r := r.grow (g2.trans' g3)
  refine ⟨_, rfl, bT (bF ⟨fun _ => awk g, fun hl => ⟨_, r.cell rfl, fun _ => awk g, fun ha => ⟨_, r.cell rfl, fun _ => awk g, fun hn0 => ⟨_, r.cell rfl, fun _ => awk g, fun hn1 => ⟨fun _ => awk g, fun hw1 => ⟨_, r.cell rfl, fun _ => awk g, fun hw2 => ⟨fun _ => awk g, fun hw3 => bF ⟨_, r.cell rfl, ?_⟩⟩⟩⟩⟩⟩⟩⟩)⟩
  have hl := dF hl
  have ha := dF ha
  have hn0 := dF hn0
  have hn1 := dF hn1
  have hw1 := dF hw1
  have hw2 := dF hw2
  have hw3 := dF hw3
  obtain ⟨⟨h1, h2⟩, ⟨h3, h4⟩, h5, h6, h7⟩ := h
  obtain ⟨S, rfl⟩ := Int.eq_ofNat_of_zero_le h3
  obtain ⟨N, rfl⟩ := Int.eq_ofNat_of_zero_le (show 0 ≤ a by omega)
  have hK : Int.tmod (IntKind.wrap .i64 ((S : Int) + 1)) (N : Int) = (((S + 1) % N : Nat) : Int) := by
    rw [wr (by omega), show ((S : Int) + 1) = ((S + 1 : Nat) : Int) by omega, tmod_cast]
  obtain ⟨K, hKe⟩ : ∃ K, K = (S + 1) % N := ⟨_, rfl⟩
  have hKN : K < N := by rw [hKe]; exact Nat.mod_lt _ (by omega)
  have hKS : K ≠ S := by
    rw [hKe]
    rcases Nat.lt_or_ge (S + 1) N with h | h
    · rw [Nat.mod_eq_of_lt h]; omega
    · rw [show S + 1 = N by omega, Nat.mod_self]; omega
  rw [← hKe] at hK
  have hlim : limI n = n := by unfold limI; omega
  refine ⟨fun k x y w' => ∃ t : Nat, x = (t : Int) ∧ y = pa * 2 ^ t ∧ k = (within - y).toNat ∧ 1 ≤ y ∧ (t : Int) ≤ y ∧ (t : Int) ≤ within ∧ Grow w3 w', ⟨_, 0, rfl, by simp, rfl, h5, by omega, by omega, Only.refl _ _⟩, ?_⟩
  rintro k _ w4 x y ⟨t, rfl, hy, rfl, hy1, hty, htw, g4⟩
  refine ⟨fun hlt => ?_, fun hge w5 e5 => ?_⟩
  · have hlt := dT hlt
    rw [wr (by omega), wr (by omega)]
    exact ⟨_, by omega, t + 1, by omega, by rw [hy, Int.pow_succ, ← Int.mul_assoc pa, Int.mul_comm 2], rfl, by omega, by omega, by omega, g4⟩
  have hge := dF hge
  have g5 : Grow w3 w5 := g4.trans' (only_drew e5)
  have r5 := r.grow g5
  refine ⟨_, r5.cell rfl, _, r5.cell rfl, by omega, _, r5.cell rfl, ?_⟩
  refine ⟨fun k T x w' => ∃ j : Nat, ∃ d v, x = (j : Int) ∧ j ≤ gaps.length ∧ k = gaps.length - j ∧ DetAt w' p mb d ∧ Grow w w' ∧ (0 ≤ T ∧ T ≤ n + 65535 * j) ∧ d.self = S ∧ d.most = m ∧ d.ms.length = N ∧ d.ms[K]? = some ⟨T, dbl pa m v, (v : Int)⟩ ∧ v ≤ t, ?_, ?_⟩
  · refine ⟨_, 0, _, 0, rfl, Nat.zero_le _, rfl, hd.grow g5, g.trans' g5, ⟨by omega, by omega⟩, rfl, rfl, by simp [Det.mk0], ?_, Nat.zero_le _⟩
    simp [Det.mk0, hKN, hlim, dbl]
  rintro k _ w6 T x ⟨j, d, v, rfl, hj, rfl, hd, g, hT, hself, hmost, hlen, hat, hv⟩
  refine ⟨fun hlt => ?_, fun _ => ⟨rfl, g⟩⟩
  have hlt : j < gaps.length := by have := dT hlt; omega
  obtain ⟨ad, had, hcell⟩ := (hrd.grow g).at (rowGet hlt)
  have c0 := hcell 0 _ rfl
  rw [Nf.add_zero] at c0
  obtain ⟨G, hG⟩ : ∃ G, G = gaps[j] := ⟨_, rfl⟩
  have hGb := hg G (by rw [hG]; exact List.getElem_mem hlt)
  rw [← hG] at c0
  obtain ⟨E, hE⟩ : ∃ E, E = Int.tmod (IntKind.wrap .i64 G) (IntKind.wrap .i64 (within + 1)) := ⟨_, rfl⟩
  have hE' : E = G % (within + 1) := by rw [hE, wr (by omega), wr (by omega), Int.tmod_eq_emod_of_nonneg hGb.1]
  have hE0 : 0 ≤ E := by rw [hE']; exact Int.emod_nonneg _ (by omega)
  have hE1 : E < within + 1 := by rw [hE']; exact Int.emod_lt_of_pos _ (by omega)
  have hE2 : E ≤ G := by rw [hE']; exact emod_le' hGb.1 (by omega)
  refine ⟨ad, had, ⟨by omega, by omega⟩, _, c0, by rw [wr (by omega)]; omega, ?_⟩
  rw [← hE, wr (show -9223372036854775808 ≤ T + E ∧ T + E ≤ 9223372036854775807 by omega), hK]
  have ho : d.other (K : Int) := other_of hat (by omega)
  have hlim2 : limI (T + E) = T + E := by unfold limI; omega
  have hsus : d.sus K (T + E) = decide (dbl pa m v < E) := by
    rw [sus_at ho hat]
    dsimp only
    rw [show elI (T + E) T = E by unfold elI clampI; omega]
  have hat' : ∃ v', (d.beat K (T + E)).ms[K]? = some ⟨T + E, dbl pa m v', (v' : Int)⟩ ∧ v' ≤ t := by
    rw [beat_at ho hat, hlim2, hsus, hmost]
    simp only [Mb.beat]
    rw [show max T (T + E) = T + E by omega]
    by_cases hb : dbl pa m v < E
    · refine ⟨v + 1, ?_, ?_⟩
      · rw [if_pos (by simpa using hb), if_pos (by simpa using hb), wr (by omega)]
        simp [dbl]
      · rcases Nat.lt_or_ge v t with h | h
        · exact h
        · exfalso
          have e1 := dbl_lt h5 h6 v (by omega)
          have e2 := pow_mono h5 h
          omega
    · refine ⟨v, ?_, hv⟩
      rw [if_neg (by simpa using hb), if_neg (by simpa using hb)]
  obtain ⟨v', hat', hv'⟩ := hat'
  have ho' : (d.beat K (T + E)).other (K : Int) := other_of hat' (by rw [beat_self]; omega)
  have := g.size
  refine (heartbeat_c p mb K (T + E) d w6 hd).mono ?_
  rintro _ w7 ⟨rfl, hd, g7⟩
  rw [if_pos ho]
  refine ⟨_, rfl, nno rfl ((wrong_c p mb K _ w7 hd).mono ?_)⟩
  rintro _ _ ⟨rfl, rfl⟩
  rw [wrong_at ho' hat']
  exact ⟨_, rfl, no (by dsimp only; omega) ⟨_, by omega, j + 1, _, v', by rw [wr (by omega)]; omega, hlt, rfl, hd, g.trans g7 fun i hi hj => by omega, ⟨by omega, by omega⟩, by rw [beat_self, hself], by rw [beat_most, hmost], by rw [beat_len, hlen], hat', hv'⟩⟩
end Go.Proofs.Ythddcccffiofbaa
