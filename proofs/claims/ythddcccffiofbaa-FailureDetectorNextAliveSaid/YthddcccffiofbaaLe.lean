/- The next member that is not suspected: the law as a contract. -/
import Derived.Test.YthddcccffiofbaaLd
import Derived.Test.YthddcccffiofbaaNfX
namespace Go.Proofs.Ythddcccffiofbaa
open Go Go.Nf

theorem nxt_spec {d : Det} {b : Nat} {t : Int} : ∀ (f i : Nat), (∃ i', i ≤ i' ∧ i' < i + f ∧ d.sus ((b + 1 + i') % d.ms.length) t = false) →
    ∃ i', i ≤ i' ∧ i' < i + f ∧ d.nxt b t f i = (((b + 1 + i') % d.ms.length : Nat) : Int) ∧ d.sus ((b + 1 + i') % d.ms.length) t = false ∧ ∀ u, i ≤ u → u < i' → d.sus ((b + 1 + u) % d.ms.length) t = true
  | 0, i, ⟨i', h1, h2, _⟩ => by omega
  | f + 1, i, ⟨i', h1, h2, h3⟩ => by
    by_cases hs : d.sus ((b + 1 + i) % d.ms.length) t = true
    · have hne : i' ≠ i := fun e => by rw [e, hs] at h3; cases h3
      obtain ⟨j, g1, g2, g3, g4, g5⟩ := nxt_spec f (i + 1) ⟨i', by omega, by omega, h3⟩
      refine ⟨j, by omega, by omega, by simp only [Det.nxt]; rw [if_pos hs]; exact g3, g4, fun u hu hu2 => ?_⟩
      by_cases e : u = i
      · rw [e]; exact hs
      · exact g5 u (by omega) hu2
    · refine ⟨i, Nat.le_refl _, by omega, by simp only [Det.nxt]; rw [if_neg hs], by simpa using hs, fun u hu hu2 => by omega⟩
theorem sus_self {d : Det} {S : Nat} {t : Int} (h : d.self = (S : Int)) : d.sus S t = false := by
  unfold Det.sus; split
  · simp [h]
  · rfl
theorem next_spec {d : Det} {b S : Nat} {t : Int} (hS : d.self = (S : Int)) (hSl : S < d.ms.length) (hb : b < d.ms.length) :
    ∃ i', i' < d.ms.length ∧ d.next (b : Int) t = (((b + 1 + i') % d.ms.length : Nat) : Int) ∧ d.sus ((b + 1 + i') % d.ms.length) t = false ∧ ∀ u, u < i' → d.sus ((b + 1 + u) % d.ms.length) t = true := by
  have hex : ∃ i', 0 ≤ i' ∧ i' < 0 + d.ms.length ∧ d.sus ((b + 1 + i') % d.ms.length) t = false := by
    rcases Nat.lt_or_ge b S with h | h
    · refine ⟨S - b - 1, Nat.zero_le _, by omega, ?_⟩
      rw [show b + 1 + (S - b - 1) = S by omega, Nat.mod_eq_of_lt hSl]; exact sus_self hS
    · refine ⟨S + d.ms.length - b - 1, Nat.zero_le _, by omega, ?_⟩
      rw [show b + 1 + (S + d.ms.length - b - 1) = S + d.ms.length by omega, Nat.add_mod_right, Nat.mod_eq_of_lt hSl]; exact sus_self hS
  obtain ⟨i', _, h2, h3, h4, h5⟩ := nxt_spec d.ms.length 0 hex
  refine ⟨i', by omega, ?_, h4, fun u hu => h5 u (Nat.zero_le _) hu⟩
  unfold Det.next
  rw [if_pos (by omega), toNat_cast]; exact h3
theorem mem_upto {d : Det} {t : Int} {j i : Nat} : i ∈ d.upto t j ↔ i < j ∧ d.sus i t = true := by
  unfold Det.upto; simp [List.mem_filter]
theorem und52 : Try.prog.underlying 52 = some (.map 3 4) := by kernel_rfl
theorem und3 : Try.prog.underlying 3 = some (.int .i64) := by kernel_rfl
theorem zero4 (w : World) : (zeroValue 4).run Try.prog w = .ok (.bool false) w := by kernel_rfl

theorem nextAlive_law (s a pa m n : Int) (o : Option Addr) (c : Nat) (acts : List (Int × Int × Int)) (y0 y1 : Int) (w : World) (hrd : Rd w o 3 (acts.map encA)) :
    Calls Try.prog 8 #[.agg #[.int .i64 s, .int .i64 a, .int .i64 pa, .int .i64 m, .int .i64 n], .slice o acts.length c, .agg #[.int .i64 y0, .int .i64 y1]] w (Tru w) := by
  refine nf8 s a pa m n o acts.length c y0 y1 w _ fun wa ea wb eb => ?_
  have r := (Row.new ea).grow (only_alloc eb)
  have ry := Row.new eb
  have la := hs_alloc ea
  have lb := hs_alloc eb
  have g1 : Grow w wb := (only_alloc ea).trans' (only_alloc eb)
  refine ⟨_, r.cell rfl, _, r.cell rfl, _, r.cell rfl, _, r.cell rfl, _, r.cell rfl, ?_⟩
  by_cases h : okMade s a pa m
  case neg =>
    refine (both_no s a pa m n wb h).mono ?_
    rintro _ w2 ⟨rfl, g2⟩
    refine ⟨_, _, rfl, (awake_c w2).mono ?_⟩
    rintro _ w3 ⟨rfl, g3⟩
    have g := (g1.trans' g2).trans' g3
    exact ⟨_, rfl, bT (bT (awk g))⟩
  refine (both_yes s a pa m n wb h).mono ?_
  rintro _ w2 ⟨p, mb, q, rfl, two, hp, hm, hq, g2⟩
  refine ⟨_, _, rfl, (awake_c w2).mono ?_⟩
  rintro _ w3 ⟨rfl, g3⟩
  have g := (g1.trans' g2).trans' g3
  have hd0 := (two.grow g3).det
  have r := r.grow (g2.trans' g3)
  have ry := ry.grow (g2.trans' g3)
  refine ⟨_, rfl, bT (bF ⟨fun _ => awk g, fun hl => bF ?_⟩)⟩
  have hl := dF hl
  obtain ⟨⟨h1, h2⟩, ⟨h3, h4⟩, h5, h6, h7⟩ := h
  obtain ⟨S, rfl⟩ := Int.eq_ofNat_of_zero_le h3
  obtain ⟨N, rfl⟩ := Int.eq_ofNat_of_zero_le (show 0 ≤ a by omega)
  refine ⟨fun k x w' => ∃ j : Nat, ∃ d, x = (j : Int) ∧ j ≤ acts.length ∧ k = acts.length - j ∧ DetAt w' p mb d ∧ Grow w w' ∧ Row w' (hs w) 23 [.int .i64 (S : Int), .int .i64 (N : Int), .int .i64 pa, .int .i64 m, .int .i64 n] ∧ Row w' (hs wa) 50 [.int .i64 y0, .int .i64 y1] ∧ d.self = S ∧ d.ms.length = N, ?_, ?_⟩
  · exact ⟨_, 0, _, rfl, Nat.zero_le _, rfl, hd0, g, r, ry, rfl, by simp [Det.mk0]⟩
  rintro k _ w4 x ⟨j, d, rfl, hj, rfl, hd, g, r, ry, hself, hlen⟩
  have l4 := g.size
  have hmb := hd.hm.lt
  have hpb := hd.hp.lt
  refine ⟨fun hlt => ?_, fun _ w5 e5 => ?_⟩
  · have hlt : j < acts.length := by have := dT hlt; omega
    obtain ⟨ad, had, hcell⟩ := (hrd.grow g).at (rowGet hlt)
    have c0 := hcell 0 _ rfl
    rw [Nf.add_zero] at c0
    refine ⟨ad, had, ⟨by omega, by omega⟩, _, c0, _, hcell 1 _ rfl, _, hcell 2 _ rfl, fun w5 e5 => ?_⟩
    have r5 := Row.new e5
    refine ⟨r5.there (by simp), fun w6 e6 => ?_⟩
    have r6 := r5.set e6
    have g6 : Grow w4 w6 := (only_alloc e5).trans (only_set e6) fun i hi hj => by omega
    refine ⟨_, r6.cell rfl, _, r6.cell rfl, (heartbeat_c p mb _ _ d w6 (hd.grow g6)).mono ?_⟩
    rintro _ w7 ⟨rfl, hd7, g7⟩
    exact ⟨_, rfl, _, by omega, j + 1, _, by rw [wr (by omega)]; omega, hlt, rfl, hd7, (g.trans' g6).trans g7 fun i hi hj => by omega, (r.grow g6).keep g7 (by omega), (ry.grow g6).keep g7 (by omega), by rw [beat_self, hself], by rw [beat_len, hlen]⟩
  have g5 : Grow w4 w5 := only_drew e5
  have hd5 := hd.grow g5
  have r5 := r.grow g5
  have ry5 := ry.grow g5
  refine ⟨⟨by omega, by omega⟩, _, ry5.cell rfl, ⟨by omega, by omega⟩, _, ry5.cell rfl, (nextAlive_c p mb y0 y1 d w5 hd5).mono ?_⟩
  rintro _ w6 ⟨rfl, g6⟩
  have r6 := r5.grow g6
  have gg := (g.trans' g5).trans' g6
  refine ⟨_, rfl, fun hneg => ?_, fun hnn => ⟨_, r6.cell rfl, fun hbig => ?_, fun hsm => ?_⟩⟩
  · have := dT hneg
    exact yes (by unfold Det.next; rw [if_neg (by omega)]) ⟨rfl, gg⟩
  · have := dT hbig
    exact yes (by unfold Det.next; rw [if_neg (by omega)]) ⟨rfl, gg⟩
  have hnn := dF hnn
  have hsm := dF hsm
  obtain ⟨b, rfl⟩ := Int.eq_ofNat_of_zero_le (show 0 ≤ y0 by omega)
  obtain ⟨i0, hi0, hnx, hns, hall⟩ := next_spec (t := y1) hself (show S < d.ms.length by omega) (show b < d.ms.length by omega)
  have hNpos : 0 < N := by omega
  rw [hlen] at hi0 hnx hns hall
  have hKl : (b + 1 + i0) % N < N := Nat.mod_lt _ hNpos
  rw [hnx]
  refine no (by omega) ⟨_, r6.cell rfl, no (by omega) fun w7 e7 => ?_⟩
  have g7 : Grow w6 w7 := only_alloc e7
  have set7 := set_new e7
  have l67 := hs_alloc e7
  refine (suspects_c p mb y1 d w7 ((hd5.grow g6).grow g7)).mono ?_
  rintro _ w8 ⟨o8, c8, rfl, own, g8⟩
  rw [hlen] at own ⊢
  have set8 := set7.keep g8 (fun h => h)
  have l8 := g8.size
  have hul := upto_le d y1 N
  obtain ⟨L, hL⟩ : ∃ L, L = d.upto y1 N := ⟨_, rfl⟩
  have hmem : ∀ i, i ∈ L ↔ i < N ∧ d.sus i y1 = true := fun i => by rw [hL]; exact mem_upto
  rw [← hL] at own hul ⊢
  refine ⟨_, _, _, rfl, fun k x w' => ∃ i : Nat, ∃ ks : List Int, x = (i : Int) ∧ i ≤ L.length ∧ k = L.length - i ∧ SetAt w' (hs w6) ks ∧ (∀ z, z ∈ ks ↔ ∃ u ∈ L.take i, (u : Int) = z) ∧ Only (fun b => b = hs w6) w8 w', ⟨_, 0, [], rfl, Nat.zero_le _, rfl, set8, by simp, Only.refl _ _⟩, ?_⟩
  rintro k _ w9 x ⟨i, ks, rfl, hi, rfl, set9, hks, g9⟩
  refine ⟨fun hlt => ?_, fun hge => ?_⟩
  · have hlt : i < L.length := by have := dT hlt; omega
    have own9 := own.keep g9 fun b' hb hbe => by have := (own.base b' hb).1; omega
    obtain ⟨gg', _, rfl, -⟩ := own9.head (by omega)
    refine ⟨_, rfl, ⟨by omega, by omega⟩, _, own9.cell (intsGet hlt), set_add und52 und3 set9 fun w10 set10 g10 => ⟨_, by omega, i + 1, _, by rw [wr (by omega)]; omega, hlt, rfl, set10, fun z => ?_, g9.trans' g10⟩⟩
    rw [List.mem_cons, hks z, List.take_succ_eq_append_getElem hlt]
    simp only [List.mem_append, List.mem_singleton]
    constructor
    · rintro (rfl | ⟨u, hu, rfl⟩)
      · exact ⟨_, .inr rfl, rfl⟩
      · exact ⟨u, .inl hu, rfl⟩
    · rintro ⟨u, hu | rfl, rfl⟩
      · exact .inr ⟨u, hu, rfl⟩
      · exact .inl rfl
  have hge := dF hge
  obtain rfl : i = L.length := by omega
  rw [List.take_length] at hks
  have hin : ∀ u : Nat, u < N → ((u : Int) ∈ ks ↔ d.sus u y1 = true) := fun u hu => by
    rw [hks]
    constructor
    · rintro ⟨v, hv, e⟩
      obtain rfl : v = u := by omega
      exact ((hmem v).1 hv).2
    · exact fun h => ⟨u, (hmem u).2 ⟨hu, h⟩, rfl⟩
  have r9 := ((r6.grow g7).grow g8).keep g9 (by have := r6.lt; omega)
  have gfin : Grow w w9 := ((gg.trans' g7).trans' g8).trans g9 fun i hi hj => by have := gg.size; omega
  have f1 : decide ((((b + 1 + i0) % N : Nat) : Int) ∈ ks) = false := by
    rw [decide_eq_false_iff_not, hin _ hKl, hns]; simp
  have f2 : decide (((S : Nat) : Int) ∈ ks) = false := by
    rw [decide_eq_false_iff_not, hin S (by omega), sus_self hself]; simp
  refine set_has und52 und3 (zero4 w9) set9 ⟨_, rfl, ?_⟩
  rw [f1]
  refine bF ⟨_, r9.cell rfl, set_has und52 und3 (zero4 w9) set9 ⟨_, rfl, ?_⟩⟩
  rw [f2]
  refine bF ⟨fun k x w' => ∃ i : Nat, x = ((i + 1 : Nat) : Int) ∧ i ≤ i0 ∧ k = i0 - i ∧ w' = w9, ⟨_, 0, rfl, Nat.zero_le _, rfl, rfl⟩, ?_⟩
  rintro k _ _ x ⟨i, rfl, hi', rfl, rfl⟩
  have hidx : Int.tmod (IntKind.wrap .i64 ((b : Int) + ((i + 1 : Nat) : Int))) (N : Int) = (((b + 1 + i) % N : Nat) : Int) := by
    rw [wr (by omega), ← tmod_cast]
    congr 1
    omega
  refine ⟨_, r9.cell rfl, yes (by omega) ⟨_, r9.cell rfl, by omega, ?_⟩⟩
  rw [hidx]
  refine ⟨fun _ => ⟨rfl, gfin⟩, fun hne => ?_⟩
  have hne := dF hne
  have hlt : i < i0 := by
    rcases Nat.lt_or_ge i i0 with h | h
    · exact h
    · obtain rfl : i = i0 := by omega
      exact absurd rfl hne
  have f3 : decide ((((b + 1 + i) % N : Nat) : Int) ∈ ks) = true := by
    rw [decide_eq_true_eq, hin _ (Nat.mod_lt _ hNpos)]; exact hall i hlt
  refine set_has und52 und3 (zero4 _) set9 ⟨_, rfl, ?_⟩
  rw [f3]
  exact bT ⟨_, by omega, i + 1, by rw [wr (by omega)]; omega, by omega, rfl, rfl⟩
end Go.Proofs.Ythddcccffiofbaa
