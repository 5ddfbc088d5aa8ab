/- A member's patience is what doubling once for each false suspicion makes of it, and never falls: the law as a contract. -/
import Derived.Test.YthddcccffiofbaaLc
namespace Go.Proofs.Ythddcccffiofbaa
open Go Go.Nf

/-- every member's patience is the doubled one; no more than B false suspicions each -/
def Dbl (pa m : Int) (B : Nat) (d : Det) : Prop := ∀ (i : Nat) x, d.ms[i]? = some x → ∃ v : Nat, v ≤ B ∧ x.wrong = (v : Int) ∧ x.tmo = dbl pa m v
theorem Dbl.beat {pa m : Int} {B : Nat} {d : Det} (h : Dbl pa m B d) (hm : d.most = m) (hB : B ≤ 100) (who t : Int) : Dbl pa m (B + 1) (d.beat who t) := by
  intro i x hx
  by_cases hw : (i : Int) = who ∧ d.other who
  · obtain ⟨rfl, ho⟩ := hw
    obtain ⟨k, y, hk, hk2, hy⟩ := other_get ho
    obtain rfl : i = k := by omega
    rw [beat_at ho hy] at hx
    cases hx
    obtain ⟨v, h1, h2, h3⟩ := h i y hy
    by_cases hs : d.sus i (limI t) = true
    · refine ⟨v + 1, by omega, ?_, ?_⟩
      · simp only [Mb.beat]; rw [if_pos hs, wr (by omega)]; omega
      · simp only [Mb.beat]; rw [if_pos hs, h3, hm]; rfl
    · refine ⟨v, by omega, ?_, ?_⟩
      · simp only [Mb.beat]; rw [if_neg hs]; exact h2
      · simp only [Mb.beat]; rw [if_neg hs]; exact h3
  · have : (d.beat who t).ms[i]? = d.ms[i]? := by
      by_cases he : (i : Int) = who
      · have hn : ¬ d.other who := fun ho => hw ⟨he, ho⟩
        unfold Det.beat; rw [if_neg hn]
      · exact beat_other he
    rw [this] at hx
    obtain ⟨v, h1, h2, h3⟩ := h i x hx
    exact ⟨v, by omega, h2, h3⟩
theorem other_beat {d : Det} {who t i : Int} : (d.beat who t).other i ↔ d.other i := by
  unfold Det.other; rw [beat_self, beat_len]
theorem tmo_beat_ne {d : Det} {who t : Int} {i : Nat} (h : (i : Int) ≠ who) : (d.beat who t).tmo (i : Int) = d.tmo (i : Int) := by
  unfold Det.tmo
  rw [toNat_cast, beat_other h]
  by_cases ho : d.other (i : Int)
  · rw [if_pos ho, if_pos (other_beat.2 ho)]
  · rw [if_neg ho, if_neg (fun h => ho (other_beat.1 h))]
theorem tmo_beat_le {d : Det} (hf : Fit d) (who t : Int) (i : Nat) : d.tmo (i : Int) ≤ (d.beat who t).tmo (i : Int) := by
  by_cases h : (i : Int) = who
  · subst h
    by_cases ho : d.other (i : Int)
    · obtain ⟨k, y, hk, hk2, hy⟩ := other_get ho
      obtain rfl : i = k := by omega
      rw [tmo_at ho hy, tmo_at (other_beat.2 ho) (beat_at ho hy)]
      have := hf.mem y (List.mem_of_getElem? hy)
      have := hf.most
      simp only [Mb.beat]
      split <;> omega
    · have : d.beat (i : Int) t = d := by unfold Det.beat; rw [if_neg ho]
      rw [this]; exact Int.le_refl _
  · rw [tmo_beat_ne h]; exact Int.le_refl _

def tl (d : Det) (t : Nat) : List Value := (List.range t).map fun (i : Nat) => .int .i64 (d.tmo (i : Int))
theorem tl_len (d : Det) (t : Nat) : (tl d t).length = t := by simp [tl]
theorem tl_succ (d : Det) (t : Nat) : tl d (t + 1) = tl d t ++ [.int .i64 (d.tmo (t : Int))] := by
  unfold tl; rw [List.range_succ, List.map_append]; rfl
theorem tl_get (d : Det) {t j : Nat} (h : j < t) : (tl d t)[(j : Int).toNat * 1]? = some (.int .i64 (d.tmo (j : Int))) := by
  rw [toNat_cast, Nat.mul_one]; simp [tl, h]
theorem elem48 : Elem Try.prog 48 2 1 8 := elem_of (by kernel_rfl)

/-- the tail of the inner loop: the wanted patience is the one found -/
theorem tail_c {w0 w' : World} {b p mb t : Nat} {d : Det} {pa m : Int} {S N n : Int} {B : Nat} (C : World → Prop) (hd : DetAt w' p mb d) (r : Row w' b 23 [.int .i64 S, .int .i64 N, .int .i64 pa, .int .i64 m, .int .i64 n])
    (h5 : 1 ≤ pa) (h6 : pa ≤ m) (h7 : m ≤ 1099511627776) (hdbl : Dbl pa m B d) (hB : B ≤ 60) (ho : d.other (t : Int)) (hC : C w') :
    ∃ x103, (w'.cell? ⟨b, 2, none⟩ = some (.int .i64 x103)) ∧
      Calls Try.prog 17 #[.pointer (some ⟨p, 0, none⟩), .int .i64 (t : Int)] w' (fun e104 w105 => ∃ x106, (e104 = .returned (.int .i64 x106)) ∧
        ∃ k107 : Nat → Int → Int → World → Prop, (∃ n108, k107 n108 x103 0 w105) ∧
          ∀ n109, (Nat → Value) → ∀ w111 : World, ∀ x112, ∀ x113, k107 n109 x112 x113 w111 →
            (((decide (x113 < (if ((64 : Int) < x106) then 64 else x106))) = true) →
              ∃ x116, (w111.cell? ⟨b, 3, none⟩ = some (.int .i64 x116)) ∧ ∃ n117, (n117 < n109) ∧ k107 n117 (if (x116 < (IntKind.wrap .i64 (2 * x112))) then x116 else (IntKind.wrap .i64 (2 * x112))) (IntKind.wrap .i64 (x113 + 1)) w111) ∧
            (((decide (x113 < (if ((64 : Int) < x106) then 64 else x106))) = false) →
              (((!(decide (d.tmo (t : Int) = x112))) = true) → Tru w0 (.returned (.bool false)) w111) ∧
              (((!(decide (d.tmo (t : Int) = x112))) = false) → C w111))) := by
  obtain ⟨k, y, hk, hk2, hy⟩ := other_get ho
  obtain rfl : t = k := by omega
  obtain ⟨v, hv, hwr, htm⟩ := hdbl t y hy
  refine ⟨_, r.cell rfl, (wrong_c p mb t d w' hd).mono ?_⟩
  rintro _ _ ⟨rfl, rfl⟩
  rw [wrong_at ho hy, tmo_at ho hy, hwr, htm]
  refine ⟨_, rfl, ?_⟩
  rw [if_neg (show ¬ (64 : Int) < (v : Int) by omega)]
  refine ⟨fun k x i w'' => ∃ u : Nat, i = (u : Int) ∧ u ≤ v ∧ k = v - u ∧ x = dbl pa m u ∧ w'' = w', ⟨_, 0, rfl, Nat.zero_le _, rfl, rfl, rfl⟩, ?_⟩
  rintro k _ _ _ _ ⟨u, rfl, hu, rfl, rfl, rfl⟩
  refine ⟨fun hlt => ?_, fun hge => nno ?_ hC⟩
  · have hlt := dT hlt
    have hb := dbl_bd h5 h6 u
    refine ⟨_, r.cell rfl, _, by omega, u + 1, by rw [wr (by omega)]; omega, by omega, rfl, ?_, rfl⟩
    rw [wr (by omega)]
    simp only [dbl]
    split <;> omega
  · have := dF hge
    obtain rfl : u = v := by omega
    rfl

theorem timeouts_law (s a pa m n : Int) (o : Option Addr) (c : Nat) (acts : List (Int × Int × Int)) (w : World) (hrd : Rd w o 3 (acts.map encA)) :
    Calls Try.prog 6 #[.agg #[.int .i64 s, .int .i64 a, .int .i64 pa, .int .i64 m, .int .i64 n], .slice o acts.length c] w (Tru w) := by
  refine nf6 s a pa m n o acts.length c w _ fun w1 e1 => ?_
  have r := Row.new e1
  have g1 : Grow w w1 := only_alloc e1
  have l1 := hs_alloc e1
  refine ⟨_, r.cell rfl, _, r.cell rfl, _, r.cell rfl, _, r.cell rfl, _, r.cell rfl, ?_⟩
  by_cases h : okMade s a pa m
  case neg =>
    refine (both_no s a pa m n w1 h).mono ?_
    rintro _ w2 ⟨rfl, g2⟩
    refine ⟨_, _, rfl, (awake_c w2).mono ?_⟩
    rintro _ w3 ⟨rfl, g3⟩
    have g := (g1.trans' g2).trans' g3
    exact ⟨_, rfl, bT (bT (awk g))⟩
  refine (both_yes s a pa m n w1 h).mono ?_
  rintro _ w2 ⟨p, mb, q, rfl, two, hp, hm, hq, g2⟩
  refine ⟨_, _, rfl, (awake_c w2).mono ?_⟩
  rintro _ w3 ⟨rfl, g3⟩
  have g := (g1.trans' g2).trans' g3
  have hd0 := (two.grow g3).det
  have r := r.grow (g2.trans' g3)
  refine ⟨_, rfl, bT (bF ⟨fun _ => awk g, fun hl => bF ?_⟩)⟩
  have hl := dF hl
  obtain ⟨⟨h1, h2⟩, ⟨h3, h4⟩, h5, h6, h7⟩ := h
  obtain ⟨S, rfl⟩ := Int.eq_ofNat_of_zero_le h3
  obtain ⟨N, rfl⟩ := Int.eq_ofNat_of_zero_le (show 0 ≤ a by omega)
  refine ⟨fun k x w' => ∃ j : Nat, ∃ d, x = (j : Int) ∧ j ≤ acts.length ∧ k = acts.length - j ∧ DetAt w' p mb d ∧ Grow w w' ∧ Row w' (hs w) 23 [.int .i64 (S : Int), .int .i64 (N : Int), .int .i64 pa, .int .i64 m, .int .i64 n] ∧ d.self = S ∧ d.most = m ∧ d.ms.length = N ∧ Dbl pa m j d, ?_, ?_⟩
  · refine ⟨_, 0, _, rfl, Nat.zero_le _, rfl, hd0, g, r, rfl, rfl, by simp [Det.mk0], fun i x hx => ?_⟩
    obtain rfl := List.eq_of_mem_replicate (List.mem_of_getElem? hx)
    exact ⟨0, Nat.zero_le _, rfl, rfl⟩
  rintro k _ w4 x ⟨j, d, rfl, hj, rfl, hd, g, r, hself, hmost, hlen, hdbl⟩
  refine ⟨fun hlt => ?_, fun _ => ⟨rfl, g⟩⟩
  have hlt : j < acts.length := by have := dT hlt; omega
  obtain ⟨ad, had, hcell⟩ := (hrd.grow g).at (rowGet hlt)
  have c0 := hcell 0 _ rfl
  rw [Nf.add_zero] at c0
  refine ⟨ad, had, ⟨by omega, by omega⟩, _, c0, _, hcell 1 _ rfl, _, hcell 2 _ rfl, fun w5 e5 => ?_⟩
  have r5 := Row.new e5
  refine ⟨r5.there (by simp), fun w6 e6 => ?_⟩
  have ra := r5.set e6
  have g6 : Grow w4 w6 := (only_alloc e5).trans (only_set e6) fun i hi hj => by omega
  have r6 := r.grow g6
  have hd6 := hd.grow g6
  have l4 := g.size
  have l6 := g6.size
  have la := ra.lt
  have hmb := hd.hm.lt
  have hpb := hd.hp.lt
  generalize hs w4 = A at *
  refine ⟨_, r6.cell rfl, fun k oo nn cc x w' => ∃ t : Nat, x = (t : Int) ∧ t ≤ N ∧ k = N - t ∧ nn = t ∧ Own w' (hs w6) 2 1 oo t cc (tl d t) ∧ Grow w6 w', ⟨_, 0, rfl, Nat.zero_le _, rfl, rfl, own_nil _ _ _ _, Only.refl _ _⟩, ?_⟩
  rintro k _ w7 oo nn cc x ⟨t, rfl, ht, rfl, rfl, own, g7⟩
  refine ⟨fun hlt' => ?_, fun hge => ?_⟩
  · have hlt' := dT hlt'
    refine (timeout_c p mb nn d w7 (hd6.grow g7)).mono ?_
    rintro _ _ ⟨rfl, rfl⟩
    refine ⟨_, rfl, fun w8 e8 => ?_⟩
    refine run_append_row elem48 (own.grow (only_alloc e8)) (Row.new e8) rfl (by simp [Value.oneCell']) (by unfold maxLen; omega) (by omega) ?_ ?_
    · have := g7.size; have := hs_alloc e8; omega
    intro o' c' w9 hown' ho' _
    refine ⟨_, _, _, rfl, _, by omega, nn + 1, by rw [wr (by omega)]; omega, by omega, rfl, rfl, ?_, ?_⟩
    · rw [tl_succ]; exact hown'
    · exact (g7.trans' (only_alloc e8)).trans ho' fun b hb hin => by
        have := (own.base b hin).1
        omega
  have hge := dF hge
  obtain rfl : nn = N := by omega
  have ra := ra.grow g7
  have r7 := r6.grow g7
  have hd7 := hd6.grow g7
  refine ⟨_, ra.cell rfl, _, ra.cell rfl, (heartbeat_c p mb _ _ d w7 hd7).mono ?_⟩
  rintro _ w8 ⟨rfl, hd8, g8⟩
  have l7 := g7.size
  have l8 := g8.size
  have r8 := r7.keep g8 (by omega)
  have ra := ra.keep g8 (by omega)
  have own := own.keep g8 fun b hb hbe => by have := (own.base b hb).1; omega
  have hdbl' := hdbl.beat hmost (by omega) acts[j].1 acts[j].2.1
  have hg : Grow w w8 := ((g.trans' g6).trans' g7).trans g8 fun i hi hj => by omega
  refine ⟨_, rfl, _, r8.cell rfl, fun k x w' => ∃ t : Nat, x = (t : Int) ∧ t ≤ nn ∧ k = nn - t ∧ w' = w8, ⟨_, 0, rfl, Nat.zero_le _, rfl, rfl⟩, ?_⟩
  rintro k _ w9 x ⟨t, rfl, ht, rfl, rfl⟩
  refine ⟨fun hlt' => ?_, fun hge => ?_⟩
  case refine_2 =>
    exact ⟨_, by omega, j + 1, _, by rw [wr (by omega)]; omega, hlt, rfl, hd8, hg, r8, by rw [beat_self, hself], by rw [beat_most, hmost], by rw [beat_len, hlen], hdbl'⟩
  have hlt' : t < nn := by have := dT hlt'; omega
  obtain ⟨gg, _, rfl, -⟩ := own.head (by omega)
  refine (timeout_c p mb t _ _ hd8).mono ?_
  rintro _ _ ⟨rfl, rfl⟩
  have hle := tmo_beat_le hd.fit acts[j].1 acts[j].2.1 t
  have hnext : ∀ w', w' = w9 → ∃ n101 : Nat, n101 < nn - t ∧ ∃ t' : Nat, IntKind.wrap .i64 ((t : Int) + 1) = (t' : Int) ∧ t' ≤ nn ∧ n101 = nn - t' ∧ w' = w9 := fun w' e => ⟨_, by omega, t + 1, by rw [wr (by omega)]; omega, by omega, rfl, e⟩
  have htail : ∀ (hne : ¬ (t : Int) = (S : Int)), _ := fun hne => tail_c (w0 := w) (t := t) (fun w' => ∃ n101 : Nat, n101 < nn - t ∧ ∃ t' : Nat, IntKind.wrap .i64 ((t : Int) + 1) = (t' : Int) ∧ t' ≤ nn ∧ n101 = nn - t' ∧ w' = w9) hd8 r8 h5 h6 h7 hdbl' (by omega) ⟨by omega, by rw [beat_len]; omega, by rw [beat_self, hself]; exact hne⟩ (hnext _ rfl)
  refine ⟨_, rfl, _, rfl, ⟨by omega, by omega⟩, _, own.cell (tl_get d hlt'), no (by omega) ⟨_, ra.cell rfl, fun hne => ?_, fun heq => ?_⟩⟩
  · have hne := nT hne
    refine ⟨_, rfl, ⟨by omega, by omega⟩, _, own.cell (tl_get d hlt'), nno (tmo_beat_ne hne) ⟨_, r8.cell rfl, fun _ => hnext _ rfl, fun hns => htail (dF hns)⟩⟩
  · exact ⟨_, r8.cell rfl, fun _ => hnext _ rfl, fun hns => htail (dF hns)⟩
end Go.Proofs.Ythddcccffiofbaa
