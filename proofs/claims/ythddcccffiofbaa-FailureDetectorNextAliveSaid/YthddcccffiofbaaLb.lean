/- Punctual heartbeats are never suspected: the law as a contract, and plain facts on a beat. -/
import Derived.Test.YthddcccffiofbaaLa
namespace Go.Proofs.Ythddcccffiofbaa
open Go Go.Nf

theorem emod_le' {x y : Int} (hx : 0 ≤ x) (hy : 0 ≤ y) : x % y ≤ x := by
  obtain ⟨a, rfl⟩ := Int.eq_ofNat_of_zero_le hx
  obtain ⟨b, rfl⟩ := Int.eq_ofNat_of_zero_le hy
  rw [← Int.natCast_emod]
  have := Nat.mod_le a b
  omega
theorem beat_self (d : Det) (who t : Int) : (d.beat who t).self = d.self := by unfold Det.beat; split <;> (try split) <;> rfl
theorem beat_most (d : Det) (who t : Int) : (d.beat who t).most = d.most := by unfold Det.beat; split <;> (try split) <;> rfl
theorem beat_len (d : Det) (who t : Int) : (d.beat who t).ms.length = d.ms.length := by unfold Det.beat; split <;> (try split) <;> simp
theorem beat_at {d : Det} {K : Nat} {t : Int} {x : Mb} (ho : d.other (K : Int)) (hk : d.ms[K]? = some x) : (d.beat K t).ms[K]? = some (x.beat d.most (limI t) (d.sus K (limI t))) := by
  have hlt : K < d.ms.length := by have := ho.2.1; omega
  unfold Det.beat
  rw [if_pos ho, toNat_cast, hk]
  simp [hlt]
theorem beat_other {d : Det} {who t : Int} {i : Nat} (h : (i : Int) ≠ who) : (d.beat who t).ms[i]? = d.ms[i]? := by
  unfold Det.beat
  split
  · rename_i ho
    obtain ⟨k, x, rfl, hk, hx⟩ := other_get ho
    rw [toNat_cast, hx]
    have : k ≠ i := fun e => h (by rw [e])
    simp [this]
  · rfl
theorem other_of {d : Det} {K : Nat} {x : Mb} (hk : d.ms[K]? = some x) (hs : (K : Int) ≠ d.self) : d.other (K : Int) := by
  have : K < d.ms.length := by
    rcases Nat.lt_or_ge K d.ms.length with h | h
    · exact h
    · rw [List.getElem?_eq_none h] at hk; cases hk
  exact ⟨by omega, by omega, hs⟩
theorem wrong_at {d : Det} {K : Nat} {x : Mb} (ho : d.other (K : Int)) (hk : d.ms[K]? = some x) : d.wrong (K : Int) = x.wrong := by
  unfold Det.wrong; rw [if_pos ho, toNat_cast, hk]; rfl
theorem tmo_at {d : Det} {K : Nat} {x : Mb} (ho : d.other (K : Int)) (hk : d.ms[K]? = some x) : d.tmo (K : Int) = x.tmo := by
  unfold Det.tmo; rw [if_pos ho, toNat_cast, hk]; rfl
theorem sus_at {d : Det} {K : Nat} {x : Mb} {t : Int} (ho : d.other (K : Int)) (hk : d.ms[K]? = some x) : d.sus K t = decide (x.tmo < elI t x.last) := by
  have := ho.2.2
  unfold Det.sus; rw [hk]; simp [this]
theorem upto_mem {d : Det} {t : Int} {j i : Nat} (h : i ∈ d.upto t j) : d.sus i t = true := by
  unfold Det.upto at h
  exact (List.mem_filter.1 h).2
theorem intsGet {l : List Nat} {j : Nat} (h : j < l.length) : (ints l)[(j : Int).toNat * 1]? = some (.int .i64 (l[j] : Int)) := by rw [toNat_cast, Nat.mul_one]; simp [ints, h]

theorem punctual_law (s a pa m n : Int) (o : Option Addr) (c : Nat) (gaps : List Int) (w : World) (hrd : Rd w o 1 (gaps.map encU)) (hg : ∀ x ∈ gaps, 0 ≤ x ∧ x ≤ 65535) :
    Calls Try.prog 5 #[.agg #[.int .i64 s, .int .i64 a, .int .i64 pa, .int .i64 m, .int .i64 n], .slice o gaps.length c] w (Tru w) := by
  refine nf5 s a pa m n o gaps.length c w _ fun w1 e1 => ?_
  have r := Row.new e1
  have g1 : Grow w w1 := only_alloc e1
  have l1 := hs_alloc e1
  refine ⟨_, r.cell rfl, _, r.cell rfl, _, r.cell rfl, _, r.cell rfl, _, r.cell rfl, ?_⟩
  by_cases h : okMade s a pa m
  case neg =>
    refine (both_no s a pa m n w1 h).mono ?_
    rintro _ w2 ⟨rfl, g2⟩
    refine ⟨_, _, rfl, (awake_c w2).mono ?_⟩
    rintro _ w3 ⟨rfl, g3⟩
    have g := (g1.trans' g2).trans' g3
    exact ⟨_, rfl, bT (bT (awk g))⟩
  refine (both_yes s a pa m n w1 h).mono ?_
  rintro _ w2 ⟨p, mb, q, rfl, two, hp, hm, hq, g2⟩
  refine ⟨_, _, rfl, (awake_c w2).mono ?_⟩
  rintro _ w3 ⟨rfl, g3⟩
  have g := (g1.trans' g2).trans' g3
  have hd := (two.grow g3).det
  have r := r.grow (g2.trans' g3)
  refine ⟨_, rfl, bT (bF ⟨fun _ => awk g, fun hl => ⟨_, r.cell rfl, fun _ => awk g, fun ha => ⟨_, r.cell rfl, fun _ => awk g, fun hn0 => ⟨_, r.cell rfl, fun _ => awk g, fun hn1 => bF fun w4 e4 => ?_⟩⟩⟩⟩)⟩
  have hl := dF hl
  have ha := dF ha
  have hn0 := dF hn0
  have hn1 := dF hn1
  obtain ⟨⟨h1, h2⟩, ⟨h3, h4⟩, h5, h6, h7⟩ := h
  obtain ⟨S, rfl⟩ := Int.eq_ofNat_of_zero_le h3
  obtain ⟨N, rfl⟩ := Int.eq_ofNat_of_zero_le (show 0 ≤ a by omega)
  have hK : Int.tmod (IntKind.wrap .i64 ((S : Int) + 1)) (N : Int) = (((S + 1) % N : Nat) : Int) := by
    rw [wr (by omega), show ((S : Int) + 1) = ((S + 1 : Nat) : Int) by omega, tmod_cast]
  obtain ⟨K, hKe⟩ : ∃ K, K = (S + 1) % N := ⟨_, rfl⟩
  have hKN : K < N := by rw [hKe]; exact Nat.mod_lt _ (by omega)
  have hKS : K ≠ S := by
    rw [hKe]
    rcases Nat.lt_or_ge (S + 1) N with h | h
    · rw [Nat.mod_eq_of_lt h]; omega
    · rw [show S + 1 = N by omega, Nat.mod_self]; omega
  rw [← hKe] at hK
  have r4 := r.grow (only_drew e4)
  have hlim : limI n = n := by unfold limI; omega
  refine ⟨_, r4.cell rfl, _, r4.cell rfl, by omega, _, r4.cell rfl, ?_⟩
  refine ⟨fun k T x w' => ∃ j : Nat, ∃ d, x = (j : Int) ∧ j ≤ gaps.length ∧ k = gaps.length - j ∧ DetAt w' p mb d ∧ Grow w w' ∧ Row w' (hs w) 23 [.int .i64 (S : Int), .int .i64 (N : Int), .int .i64 pa, .int .i64 m, .int .i64 n] ∧ (0 ≤ T ∧ T ≤ n + 65535 * j) ∧ d.self = S ∧ d.most = m ∧ d.ms.length = N ∧ d.ms[K]? = some ⟨T, pa, 0⟩, ?_, ?_⟩
  · refine ⟨_, 0, _, rfl, Nat.zero_le _, rfl, hd.grow (only_drew e4), g.trans' (only_drew e4), r4, ⟨by omega, by omega⟩, rfl, rfl, by simp [Det.mk0], ?_⟩
    simp [Det.mk0, hKN, hlim]
  rintro k _ w5 T x ⟨j, d, rfl, hj, rfl, hd, g, r5, hT, hself, hmost, hlen, hat⟩
  refine ⟨fun hlt => ?_, fun _ => ⟨rfl, g⟩⟩
  have hlt : j < gaps.length := by have := dT hlt; omega
  obtain ⟨ad, had, hcell⟩ := (hrd.grow g).at (rowGet hlt)
  have c0 := hcell 0 _ rfl
  rw [Nf.add_zero] at c0
  obtain ⟨G, hG⟩ : ∃ G, G = gaps[j] := ⟨_, rfl⟩
  have hGb := hg G (by rw [hG]; exact List.getElem_mem hlt)
  rw [← hG] at c0
  obtain ⟨E, hE⟩ : ∃ E, E = Int.tmod (IntKind.wrap .i64 G) (IntKind.wrap .i64 (pa + 1)) := ⟨_, rfl⟩
  have hE' : E = G % (pa + 1) := by rw [hE, wr (by omega), wr (by omega), Int.tmod_eq_emod_of_nonneg hGb.1]
  have hE0 : 0 ≤ E := by rw [hE']; exact Int.emod_nonneg _ (by omega)
  have hE1 : E < pa + 1 := by rw [hE']; exact Int.emod_lt_of_pos _ (by omega)
  have hE2 : E ≤ G := by rw [hE']; exact emod_le' hGb.1 (by omega)
  refine ⟨ad, had, ⟨by omega, by omega⟩, _, c0, _, r5.cell rfl, by rw [wr (by omega)]; omega, ?_⟩
  rw [← hE, wr (show -9223372036854775808 ≤ T + E ∧ T + E ≤ 9223372036854775807 by omega), hK]
  have ho : d.other (K : Int) := other_of hat (by omega)
  have hsus : d.sus K (T + E) = false := by
    rw [sus_at ho hat, decide_eq_false_iff_not]
    unfold elI clampI
    dsimp only
    omega
  refine (suspects_c p mb (T + E) d w5 hd).mono ?_
  rintro _ w6 ⟨o6, c6, rfl, ow, g6⟩
  refine ⟨_, _, _, rfl, fun k x w' => ∃ i : Nat, x = (i : Int) ∧ i ≤ (d.upto (T + E) d.ms.length).length ∧ k = (d.upto (T + E) d.ms.length).length - i ∧ Grow w6 w', ⟨_, 0, rfl, Nat.zero_le _, rfl, Only.refl _ _⟩, ?_⟩
  rintro k _ w7 x ⟨i, rfl, hi, rfl, g7⟩
  have hul := upto_le d (T + E) d.ms.length
  refine ⟨fun hlt' => ?_, fun _ w8 e8 => ?_⟩
  · have hlt' : i < (d.upto (T + E) d.ms.length).length := by have := dT hlt'; omega
    have ow7 := ow.grow g7
    obtain ⟨gg, _, rfl, -⟩ := ow7.head (by omega)
    refine ⟨_, rfl, ⟨by omega, by omega⟩, _, ow7.cell (intsGet hlt'), no ?_ ⟨_, by omega, i + 1, by rw [wr (by omega)]; omega, hlt', rfl, g7⟩⟩
    intro heq
    have hmem := upto_mem (List.getElem_mem hlt')
    have : (d.upto (T + E) d.ms.length)[i] = K := by omega
    rw [this, hsus] at hmem
    cases hmem
  · have g8 : Grow w5 w8 := (g6.trans' g7).trans' (only_drew e8)
    have hd := hd.grow g8
    have r8 := r5.grow g8
    have := g.size
    have := g8.size
    refine (heartbeat_c p mb K (T + E) d w8 hd).mono ?_
    rintro _ w9 ⟨rfl, hd, g9⟩
    rw [if_pos ho]
    have hlim2 : limI (T + E) = T + E := by unfold limI; omega
    have hat' : (d.beat K (T + E)).ms[K]? = some ⟨T + E, pa, 0⟩ := by
      rw [beat_at ho hat, hlim2, hsus]
      simp only [Mb.beat]
      rw [show max T (T + E) = T + E by omega]
      rfl
    have ho' : (d.beat K (T + E)).other (K : Int) := other_of hat' (by rw [beat_self]; omega)
    have r9 := r8.keep g9 (by omega)
    refine ⟨_, rfl, nno rfl ((wrong_c p mb K _ w9 hd).mono ?_)⟩
    rintro _ _ ⟨rfl, rfl⟩
    rw [wrong_at ho' hat']
    refine ⟨_, rfl, nno rfl ⟨_, r9.cell rfl, (timeout_c p mb K _ w9 hd).mono ?_⟩⟩
    rintro _ _ ⟨rfl, rfl⟩
    rw [tmo_at ho' hat']
    refine ⟨_, rfl, kept_same rfl, nno rfl ⟨_, by omega, j + 1, _, by rw [wr (by omega)]; omega, hlt, rfl, hd, (g.trans' g8).trans g9 fun i hi hj => by omega, r9, ⟨by omega, by omega⟩, by rw [beat_self, hself], by rw [beat_most, hmost], by rw [beat_len, hlen], hat'⟩⟩
end Go.Proofs.Ythddcccffiofbaa
