/- Contract: solve returns the best assignment of a valid matrix. -/
import Derived.Test.YtalplekmbhemnaaGl
import Derived.Test.YtalplekmbhemnaaPg
namespace Go.Proofs.Ytalplekmbhemnaa
open Go Go.Nf

theorem at2_get {rows : List (List Int)} {i j : Nat} (hi : i < rows.length) (hj : j < rows[i].length) : at2 rows i (j : Int) = rows[i][j] := by
  unfold at2; rw [List.getElem?_eq_getElem hi]; simp [hj]
theorem sq0_c {rows : List (List Int)} {C i j : Nat} (hi : i < rows.length + C) : (sq0 rows C).c i j = ((sqRow rows C i)[j]?).getD 0 := by
  unfold Sq.c sq0
  simp only [List.getElem?_map, List.getElem?_range hi, Option.map_some, Option.getD_some]
theorem sq0_ok {rows : List (List Int)} {C : Nat} (hrow : ∀ r ∈ rows, r.length = C) (hcost : ∀ r ∈ rows, ∀ c ∈ r, isCost c = true) (hR : rows.length ≤ 64) (hC : C ≤ 64) :
    CostOk (sq0 rows C) rows.length C ∧ ∀ i j, i < rows.length → j < C → (sq0 rows C).c i j = at2 rows i (j : Int) := by
  have hreal : ∀ i j, i < rows.length → j < C → (sq0 rows C).c i j = at2 rows i (j : Int) := fun i j hi hj => by
    have hl : rows[i].length = C := hrow _ (List.getElem_mem hi)
    rw [sq0_c (by omega), at2_get hi (by omega)]
    unfold sqRow
    rw [if_pos hi, List.getElem?_eq_getElem hi, List.getElem?_append_left (by simp; omega)]
    simp [hl, hj]
  refine ⟨⟨rfl, ⟨hR, hC⟩, fun i j hi hj => ?_, fun i hi => ?_, fun i j hi h1 h2 h3 => ?_, fun i j h1 h2 h3 => ?_⟩, hreal⟩
  · have hl : rows[i].length = C := hrow _ (List.getElem_mem hi)
    rw [hreal i j hi hj, at2_get hi (by omega)]
    have := hcost _ (List.getElem_mem hi) _ (List.getElem_mem (show j < rows[i].length by omega))
    by_cases e : rows[i][j]'(by omega) = Inf
    · exact .inl e
    · exact .inr (isCost_bd this e)
  · have hl : rows[i].length = C := hrow _ (List.getElem_mem hi)
    rw [sq0_c (by omega)]
    unfold sqRow
    rw [if_pos hi, List.getElem?_eq_getElem hi, List.getElem?_append_right (by simp; omega)]
    simp [hl, hi]
  · have hl : rows[i].length = C := hrow _ (List.getElem_mem hi)
    rw [sq0_c (by omega)]
    unfold sqRow
    rw [if_pos hi, List.getElem?_eq_getElem hi, List.getElem?_append_right (by simp; omega)]
    simp only [Option.getD_some, hl]
    rw [List.getElem?_set_ne (by omega), List.getElem?_replicate, if_pos (by omega)]; rfl
  · rw [sq0_c h2]
    unfold sqRow
    rw [if_neg (by omega), List.getElem?_replicate, if_pos (by omega)]; rfl
theorem gI_rep {n i : Nat} {x : Int} (h : i < n) : gI (List.replicate n x) i = x := by
  unfold gI; rw [List.getElem?_replicate, if_pos h]; rfl
theorem sq0_inv {rows : List (List Int)} {C : Nat} (h : CostOk (sq0 rows C) rows.length C) : Inv (sq0 rows C) rows.length C 0 := by
  refine ⟨h, Nat.zero_le _, by simp [sq0], fun j hj => .inl (gI_rep hj), fun j j' hj _ _ h0 => ?_, fun i j hi hj hf => ?_, fun i hi => by omega, fun i j hj e => ?_, fun j hj => ?_, fun i _ hi => gI_rep hi, fun i hi => ?_, fun j hj => ?_⟩
  · rw [show gI (sq0 rows C).rowOf j = -1 from gI_rep hj] at h0; omega
  · rw [show gI (sq0 rows C).rowD i = 0 from gI_rep hi, show gI (sq0 rows C).colD j = 0 from gI_rep hj]
    have := h.bd hi hj hf; omega
  · rw [show gI (sq0 rows C).rowOf j = -1 from gI_rep hj] at e; omega
  · rw [show gI (sq0 rows C).colD j = 0 from gI_rep hj]; omega
  · rw [show gI (sq0 rows C).rowD i = 0 from gI_rep hi]; omega
  · rw [show gI (sq0 rows C).colD j = 0 from gI_rep hj]; omega
theorem gm_set {m : List Int} {i k : Nat} {x : Int} (h : i < m.length) : gm (m.set i x) k = if k = i then x else gm m k := by
  unfold gm
  rw [List.getElem?_set]
  by_cases e : i = k
  · subst e; simp [h]
  · rw [if_neg e, if_neg (fun h => e h.symm)]
theorem tot_set {rows : List (List Int)} {m : List Int} {i : Nat} {x : Int} (h : i < m.length) (h1 : gm m i = -1) (h2 : x ≠ -1) : ∀ n, tot rows (m.set i x) n = tot rows m n + if i < n then at2 rows i x else 0
  | 0 => by simp [tot]
  | n + 1 => by
    rw [tot, tot, tot_set h h1 h2 n, gm_set h]
    by_cases e : n = i
    · subst e
      rw [if_neg (by omega), if_pos rfl, if_neg h2, h1, if_pos rfl, if_pos (by omega)]
    · rw [if_neg e]
      generalize (if gm m n = -1 then 0 else at2 rows n (gm m n)) = z
      by_cases e2 : i < n
      · rw [if_pos e2, if_pos (by omega)]; omega
      · rw [if_neg e2, if_neg (by omega)]; omega
theorem tot_bound {rows : List (List Int)} {m : List Int} {R : Nat} (h : ∀ i, i < R → gm m i = -1 ∨ (0 ≤ at2 rows i (gm m i) ∧ at2 rows i (gm m i) ≤ 1099511627776)) : ∀ n, n ≤ R → 0 ≤ tot rows m n ∧ tot rows m n ≤ 1099511627776 * n
  | 0, _ => by simp [tot]
  | n + 1, hn => by
    have := tot_bound h n (by omega)
    rw [tot]
    rcases h n (by omega) with e | e
    · rw [if_pos e]; omega
    · split <;> omega

set_option maxRecDepth 10000 in
set_option maxHeartbeats 4000000 in
theorem solve_c (o : Option Addr) (c : Nat) (rows : List (List Int)) (C : Nat) (w : World) {A0 : Nat → Prop} (h : Mat w A0 o rows) (hrow : ∀ r ∈ rows, r.length = C) (hcost : ∀ r ∈ rows, ∀ c ∈ r, isCost c = true) (hR : rows.length ≤ 64) (hC : C ≤ 64) :
    Calls Try.prog 19 #[.slice o rows.length c, .int .i64 (C : Int)] w fun e w' => ∃ b m, e = .returned (.tuple #[.slice (some ⟨b, 0, none⟩) rows.length rows.length, .int .i64 (tot rows m rows.length)]) ∧
      Row w' b 3 (intsV m) ∧ hs w ≤ b ∧ Best rows C m ∧ Grow w w' := by
  obtain ⟨ok, hreal⟩ := sq0_ok hrow hcost hR hC
  refine nf19 o rows.length c C w _ ((newSquare_c o c rows C w h hrow hR hC).mono ?_)
  rintro e w1 ⟨q, br, bu, bv, A, rfl, S1, hA, k1, k2, k3, k4, g1⟩
  refine ⟨_, rfl, _, rfl, _, by rw [Addr.add_lit]; exact S1.f1, ?_⟩
  have hsz : (sq0 rows C).size = rows.length + C := rfl
  rw [hsz]
  refine ⟨fun n x w' => ∃ (k : Nat) (r D V : List Int), x = (k : Int) ∧ k ≤ rows.length + C ∧ n = rows.length + C - k ∧ SqAt w' q br bu bv A { sq0 rows C with rowOf := r, rowD := D, colD := V } ∧ Inv { sq0 rows C with rowOf := r, rowD := D, colD := V } rows.length C k ∧ (∀ b, A b → b < hs w') ∧ Grow w w', ⟨_, 0, _, _, _, rfl, Nat.zero_le _, rfl, S1, sq0_inv ok, fun b hb => (hA b hb).2, g1⟩, ?_⟩
  clear S1 g1
  rintro n _ w2 x ⟨k, r, D, V, rfl, hk, rfl, S2, I2, hA2, g2⟩
  refine ⟨fun hlt => ?_, fun hge => ?_⟩
  · have hlt : k < rows.length + C := by have := dT hlt; omega
    refine (insert_c q br bu bv A _ rows.length C k w2 S2 hA2 I2 hlt).mono ?_
    rintro e w3 ⟨rfl, r', D', V', S3, I3, g3⟩
    refine ⟨rfl, _, ?_, k + 1, r', D', V', by rw [wr (by omega)]; omega, hlt, rfl, S3, I3, fun b hb => by have := hA2 b hb; have := g3.size; omega, g2.trans g3 fun i hi e => by unfold W3 at e; omega⟩
    omega
  have hge := dF hge
  obtain rfl : k = rows.length + C := by omega
  have P2 : Perf { sq0 rows C with rowOf := r, rowD := D, colD := V } rows.length C := Inv.perf I2
  clear I2
  refine ⟨fun n x w' => ∃ (i : Nat) (r : List Int), x = (i : Int) ∧ i ≤ rows.length ∧ n = rows.length - i ∧ SqAt w' q br bu bv A { sq0 rows C with rowOf := r, rowD := D, colD := V } ∧ Perf { sq0 rows C with rowOf := r, rowD := D, colD := V } rows.length C ∧ Lex { sq0 rows C with rowOf := r, rowD := D, colD := V } i ∧ (∀ b, A b → b < hs w') ∧ Grow w w', ⟨_, 0, r, rfl, Nat.zero_le _, rfl, S2, P2, fun g _ a ha => by omega, hA2, g2⟩, ?_⟩
  clear S2 P2 hA2 g2 r
  rintro n _ w3 x ⟨i, r, rfl, hi, rfl, S3, P3, L3, hA3, g3⟩
  refine ⟨fun hlt => ?_, fun hge => ?_⟩
  · have hlt : i < rows.length := by have := dT hlt; omega
    refine (advance_c q br bu bv A _ rows.length C i w3 S3 hA3 P3 (by show i < rows.length + C; omega) L3).mono ?_
    rintro e w4 ⟨rfl, r', S4, P4, L4, g4⟩
    exact ⟨rfl, _, by omega, i + 1, r', by rw [wr (by omega)]; omega, hlt, rfl, S4, P4, L4, fun b hb => by have := hA3 b hb; have := g4.size; omega, g3.trans g4 fun i hi e => by omega⟩
  have hge := dF hge
  obtain rfl : i = rows.length := by omega
  refine make_zeros elem25 zero3 (by omega) fun w4 r4 g4 l4 => ⟨_, _, _, rfl, fun n x w' => ∃ t : Nat, x = (t : Int) ∧ t ≤ rows.length ∧ n = rows.length - t ∧ Row w' (hs w3) 3 (intsV (mix (fun _ => -1) (List.replicate rows.length 0) t)) ∧ Only (fun b => b = hs w3) w3 w', ⟨_, 0, rfl, Nat.zero_le _, rfl, by rw [mix_zero]; exact r4, g4.only⟩, ?_⟩
  clear r4 g4 l4
  rintro n _ w5 x ⟨t, rfl, ht, rfl, r5, g5⟩
  refine ⟨fun hlt => ?_, fun hge => ?_⟩
  · have hlt : t < rows.length := by have := dT hlt; omega
    refine ⟨_, rfl, ⟨by omega, by omega⟩, Row.thereI r5 (by rw [mix_len]; simpa using hlt), fun w6 e6 => ⟨_, by omega, t + 1, by rw [wr (by omega)]; omega, hlt, rfl, ?_, g5.trans' (only_setAdd e6)⟩⟩
    rw [← mix_set (by simpa using hlt)]
    exact Row.setI r5 (by rw [mix_len]; simpa using hlt) e6
  have hge := dF hge
  obtain rfl : t = rows.length := by omega
  have e2 : mix (fun _ => -1) (List.replicate rows.length 0) rows.length = List.replicate rows.length (-1) := by
    apply List.ext_getElem
    · simp [mix]
    · intro i h1 h2; simp at h2; simp [mix, h2]
  rw [e2] at r5
  have htot0 : ∀ n, tot rows (List.replicate rows.length (-1)) n = 0 := fun n => by
    induction n with
    | zero => rfl
    | succ n ih =>
      rw [tot, ih]
      unfold gm
      rw [List.getElem?_replicate]
      split <;> rfl
  have hq3 : q < hs w3 ∧ br < hs w3 := by
    obtain ⟨_, _, hq, _⟩ := S3.hq
    exact ⟨hq.lt, S3.hr.lt⟩
  have g0 := g3.size
  refine ⟨fun n x y w' => ∃ (j : Nat) (m : List Int), y = (j : Int) ∧ j ≤ C ∧ n = C - j ∧ x = tot rows m rows.length ∧ m.length = rows.length ∧ (∀ i : Nat, i < rows.length → (gm m i = -1 ∧ ∀ j', j' < j → gI r j' ≠ (i : Int)) ∨ ∃ j', j' < j ∧ gI r j' = (i : Int) ∧ gm m i = (j' : Int)) ∧ Row w' (hs w3) 3 (intsV m) ∧ Only (fun b => b = hs w3) w3 w', ⟨_, 0, _, rfl, Nat.zero_le _, rfl, (htot0 _).symm, by simp, fun i hi => .inl ⟨by simp [gm, hi], fun j' hj => by omega⟩, r5, g5⟩, ?_⟩
  clear r5 g5 e2 ht hge
  rintro n _ w6 _ _ ⟨j, m, rfl, hj, rfl, rfl, lm, hm, r6, g6⟩
  have S6 := S3.keep g6 (by omega) (by have := S3.hr.lt; omega) (by have := S3.hu.lt; omega) (by have := S3.hv.lt; omega) fun b hb e => by have := hA3 b hb; omega
  have gw6 : Grow w w6 := g3.trans g6 fun i hi e => by omega
  have hin : ∀ i j : Nat, i < rows.length → j < C → gI r j = (i : Int) → 0 ≤ at2 rows i (j : Int) ∧ at2 rows i (j : Int) ≤ 1099511627776 := fun i j hi hj e => by
    have ht : at2 rows i (j : Int) ≠ Inf := by rw [← hreal i j hi hj]; exact (P3.tight i j (by show j < rows.length + C; omega) e).1
    have := (ok.real i j hi hj).resolve_left (by rw [hreal i j hi hj]; exact ht)
    rw [hreal i j hi hj] at this; exact this
  have hbd := tot_bound (rows := rows) (m := m) (R := rows.length) (fun i hi => by
    rcases hm i hi with h | ⟨j', h1, h2, h3⟩
    · exact .inl h.1
    · rw [h3]; exact .inr (hin i j' hi (by omega) h2)) rows.length (Nat.le_refl _)
  have hlr : r.length = rows.length + C := P3.len.1
  refine ⟨fun hlt => ?_, fun hge => ?_⟩
  · have hlt : j < C := by have := dT hlt; omega
    have hrj := P3.row j (by show j < rows.length + C; omega)
    have hrj : 0 ≤ gI r j ∧ gI r j < ((rows.length + C : Nat) : Int) := hrj
    obtain ⟨i, hri⟩ : ∃ i : Nat, gI r j = (i : Int) := ⟨(gI r j).toNat, by omega⟩
    have cr : w6.cell? ((⟨br, 0, none⟩ : Addr).add ((j : Int).toNat * 1)) = some (.int .i64 (i : Int)) := by rw [← hri]; exact Row.int S6.hr (by show j < r.length; omega)
    refine ⟨_, rfl, _, _, _, by rw [Addr.add_lit]; exact S6.f2, _, rfl, ⟨by omega, by show (j : Int) < ((rows.length + C : Nat) : Int); omega⟩, _, cr, fun h0 => ⟨fun hlt2 => ?_, fun hge2 => ?_⟩, fun h0 => absurd (by omega) (dF h0)⟩
    · have hiR : i < rows.length := by have := dT hlt2; omega
      have hgm : gm m i = -1 := by
        rcases hm i hiR with h | ⟨j', h1, h2, h3⟩
        · exact h.1
        · have := P3.inj j j' (by show j < rows.length + C; omega) (by show j' < rows.length + C; omega) (by show gI r j = gI r j'; omega)
          omega
      refine ⟨_, rfl, ⟨by omega, by omega⟩, Row.thereI r6 (by omega), fun w7 e7 => ?_⟩
      have r7 := Row.setI r6 (by omega) e7
      have g7 := g6.trans' (only_setAdd e7)
      have gw7 : Grow w w7 := g3.trans g7 fun i hi e => by omega
      obtain ⟨a, oi, ci, ha, hc, hn⟩ := (h.grow gw7).get hiR
      have hlC : rows[i].length = C := hrow _ (List.getElem_mem hiR)
      obtain ⟨a', ha', hc'⟩ := hn.get (j := j) (by omega)
      rw [← at2_get hiR (by omega)] at hc'
      have hb := hin i j hiR hlt hri
      have hts := tot_set (rows := rows) (m := m) (i := i) (x := (j : Int)) (by omega) hgm (by omega) rows.length
      rw [if_pos hiR] at hts
      refine ⟨a, ha, ⟨by omega, by omega⟩, _, _, _, hc, a', ha', ⟨by omega, by omega⟩, _, hc', _, ?_, j + 1, m.set i (j : Int), by rw [wr (by omega)]; omega, hlt, rfl, by rw [wr (by omega), hts], by simpa using lm, fun k hk => ?_, r7, g7⟩
      · omega
      · rw [gm_set (by omega)]
        by_cases e : k = i
        · subst e; rw [if_pos rfl]; exact .inr ⟨j, by omega, hri, rfl⟩
        · rw [if_neg e]
          rcases hm k hk with h | ⟨j', h1, h2, h3⟩
          · refine .inl ⟨h.1, fun j' hj' => ?_⟩
            by_cases e2 : j' = j
            · subst e2; omega
            · exact h.2 j' (by omega)
          · exact .inr ⟨j', by omega, h2, h3⟩
    · have hge2 := dF hge2
      refine ⟨_, ?_, j + 1, m, by rw [wr (by omega)]; omega, hlt, rfl, rfl, lm, fun k hk => ?_, r6, g6⟩
      · omega
      · rcases hm k hk with h | ⟨j', h1, h2, h3⟩
        · refine .inl ⟨h.1, fun j' hj' => ?_⟩
          by_cases e2 : j' = j
          · subst e2; omega
          · exact h.2 j' (by omega)
        · exact .inr ⟨j', by omega, h2, h3⟩
  · have hge := dF hge
    obtain rfl : j = C := by omega
    refine ⟨hs w3, m, rfl, r6, g3.size, P3.best L3 hreal ⟨lm, fun i hi => ?_⟩, gw6⟩
    obtain ⟨j', h1, h2⟩ := P3.all i (by show i < rows.length + j; omega)
    refine ⟨j', h1, h2, ?_⟩
    have h2 : gI r j' = (i : Int) := h2
    rcases hm i hi with h | ⟨j2, k1, k2, k3⟩
    · rw [if_neg (fun hh => h.2 j' hh h2)]; exact h.1
    · have := P3.inj j' j2 h1 (by show j2 < rows.length + j; omega) (by show gI r j' = gI r j2; omega)
      subst this
      rw [if_pos k1]; exact k3
end Go.Proofs.Ytalplekmbhemnaa
