/- Contract: newSquare. -/
import Derived.Test.YtalplekmbhemnaaGg
namespace Go.Proofs.Ytalplekmbhemnaa
open Go Go.Nf

theorem set_mid (xs : List Int) (k : Nat) (z v : Int) (n : Nat) (h : n = xs.length) : (xs ++ List.replicate (k + 1) z).set n v = xs ++ [v] ++ List.replicate k z := by
  subst h
  rw [List.set_append_right _ _ (Nat.le_refl _), Nat.sub_self, List.replicate_succ, List.set_cons_zero]
  simp
theorem newSquare_c (o : Option Addr) (c : Nat) (rows : List (List Int)) (C : Nat) (w : World) {A0 : Nat → Prop} (h : Mat w A0 o rows) (hrow : ∀ r ∈ rows, r.length = C) (hR : rows.length ≤ 64) (hCl : C ≤ 64) :
    Calls Try.prog 22 #[.slice o rows.length c, .int .i64 (C : Int)] w fun e w' =>
      ∃ q br bu bv, ∃ A : Nat → Prop, e = .returned (.pointer (some ⟨q, 0, none⟩)) ∧ SqAt w' q br bu bv A (sq0 rows C) ∧ (∀ b, A b → hs w ≤ b ∧ b < hs w') ∧ hs w ≤ q ∧ hs w ≤ br ∧ hs w ≤ bu ∧ hs w ≤ bv ∧ Grow w w' := by
  refine nf22 o rows.length c C w _ fun w1 e1 => ?_
  have l1 := hs_alloc e1
  have r1 := Row.new e1
  have hwS : IntKind.wrap .i64 (((rows.length : Nat) : Int) + (C : Int)) = ((rows.length + C : Nat) : Int) := by rw [wr (by omega)]; omega
  rw [hwS] at r1
  refine ⟨_, r1.cell rfl, fun k x w' => ∃ t oc cc gs, x = ((t : Nat) : Int) ∧ t ≤ rows.length + C ∧ k = rows.length + C - t ∧ Part w w' (hs w) (hs w1) rows C oc cc t gs [.slice none 0 0, .slice none 0 0, .slice none 0 0], ?_, ?_⟩
  · exact ⟨_, 0, none, 0, [], rfl, Nat.zero_le _, rfl, r1, own_nil _ _ _ _, rfl, fun i g hi => by simp at hi, only_alloc e1⟩
  rintro k _ w2 x ⟨t, oc, cc, gs, rfl, ht, rfl, hp⟩
  have l2 := hp.g.size
  have hq2 := hp.hq.lt
  refine ⟨fun hlt => ?_, fun hge => ?_⟩
  · have hlt : t < rows.length + C := by have := dT hlt; omega
    refine ⟨_, hp.hq.cell rfl, make_zeros elem32 zero2 (by omega) fun w3 r3 g3 l3 => ⟨_, _, _, rfl, fun k18 hk => ?_⟩⟩
    have hp3 : ∀ w', Only (fun b => b = hs w2) w2 w' → Part w w' (hs w) (hs w1) rows C oc cc t gs [.slice none 0 0, .slice none 0 0, .slice none 0 0] := fun w' g =>
      ⟨hp.hq.keep g (by omega), hp.own.keep g fun b hb hbe => by have := (hp.own.base b hb).2; omega, hp.len, fun i g' hi => by
        have := hp.row i g' hi
        exact ⟨this.1.keep g (by have := this.1.lt; omega), this.2⟩, hp.g.trans g fun i hi hj => by omega⟩
    have key : ∀ w', Row w' (hs w2) 2 (intsV (sqRow rows C t)) → Only (fun b => b = hs w2) w2 w' → k18 w' := fun w4 r4 g4 => hk w4 fun _ => by
      have hp4 := hp3 w4 g4
      have := g4.size
      refine ⟨_, _, _, hp4.hq.cell rfl, ?_⟩
      refine newSquare_rows (hs w) (hs w1) rows C oc cc t gs w w4 (hs w2) hp4 (Nat.le_refl _) (by omega) (by omega) (by omega) r4 (by omega) hlt (by omega) _ fun o' c' w' hp' => ⟨_, by omega, t + 1, o', c', gs ++ [hs w2], by rw [wr (by omega)]; omega, hlt, rfl, hp'⟩
    refine ⟨fun hin => ?_, fun hout => ?_⟩
    · have hin : t < rows.length := by have := dT hin; omega
      have hlen : rows[t].length = C := hrow _ (List.getElem_mem hin)
      refine ⟨fun k x w' => ∃ u : Nat, x = ((C + u : Nat) : Int) ∧ u ≤ rows.length ∧ k = rows.length - u ∧ Row w' (hs w2) 2 (intsV (List.replicate C 0 ++ List.replicate u 4611686018427387904 ++ List.replicate (rows.length - u) 0)) ∧ Only (fun b => b = hs w2) w2 w', ⟨_, 0, rfl, Nat.zero_le _, rfl, ?_, g3.only⟩, ?_⟩
      · rw [List.replicate_zero, List.append_nil, Nat.sub_zero, List.replicate_append_replicate, Nat.add_comm C]; exact r3
      rintro k _ w4 x ⟨u, rfl, hu, rfl, r4, g4⟩
      refine ⟨_, (hp3 w4 g4).hq.cell rfl, fun hlt' => ?_, fun hge => ?_⟩
      · have hlt' : u < rows.length := by have := dT hlt'; omega
        have hll : (List.replicate C (0 : Int) ++ List.replicate u 4611686018427387904 ++ List.replicate (rows.length - u) 0).length = rows.length + C := by simp; omega
        refine ⟨_, rfl, ⟨by omega, by omega⟩, r4.thereAdd (by rw [intsV_len, hll, toNat_cast]; simp; omega), fun w5 e5 => ⟨_, by omega, u + 1, by rw [wr (by omega)]; omega, hlt', rfl, ?_, g4.trans' (only_setAdd e5)⟩⟩
        have r5 := r4.setAdd e5
        rw [intsV_set _ _ _ (by rw [hll]; omega), show rows.length - u = (rows.length - (u + 1)) + 1 by omega, set_mid _ _ _ _ _ (by simp)] at r5
        rw [List.replicate_succ', ← List.append_assoc (List.replicate C 0)]
        exact r5
      · have hge := dF hge
        obtain rfl : u = rows.length := by omega
        obtain ⟨a, oi, ci, ha, hc, hn⟩ := h.get hin
        have gw : Grow w w4 := hp.g.trans g4 fun i hi hj => by omega
        rw [Nat.sub_self, List.replicate_zero, List.append_nil] at r4
        obtain ⟨a, oi, ci, ha, hc, hn⟩ := (h.grow gw).get hin
        refine ⟨a, ha, ⟨by omega, by omega⟩, _, _, _, hc, copy_nums und32 size2 r4 (by rw [intsV_len]; simp; omega) (by omega) hn fun w5 r5 g5 => ⟨_, rfl, _, rfl, ⟨by rw [wr (by omega)]; omega, by rw [wr (by omega)]; omega⟩, ?_⟩⟩
        have hw' : IntKind.wrap .i64 ((C : Int) + (t : Int)) = ((C + t : Nat) : Int) := by rw [wr (by omega)]; omega
        have ed : (intsV (List.replicate C 0 ++ List.replicate rows.length 4611686018427387904)).drop rows[t].length = intsV (List.replicate rows.length 4611686018427387904) := by
          unfold intsV; rw [hlen, List.map_append, List.drop_append]; simp
        rw [ed, show intsV rows[t] ++ intsV (List.replicate rows.length 4611686018427387904) = intsV (rows[t] ++ List.replicate rows.length 4611686018427387904) by simp [intsV]] at r5
        rw [hw']
        refine ⟨r5.thereAdd (by rw [intsV_len, toNat_cast]; simp; omega), fun w6 e6 => key w6 ?_ ((g4.trans' g5).trans' (only_setAdd e6))⟩
        have r6 := r5.setAdd e6
        rw [intsV_set _ _ _ (by simp; omega), List.set_append_right _ _ (by omega), hlen, show C + t - C = t by omega] at r6
        unfold sqRow; rw [if_pos hin, List.getElem?_eq_getElem hin]
        exact r6
    · have hout : ¬ t < rows.length := by have := dF hout; omega
      refine key w3 ?_ g3.only
      unfold sqRow; rw [if_neg hout]; exact r3
  · have hge := dF hge
    obtain rfl : t = rows.length + C := by omega
    refine ⟨_, hp.hq.cell rfl, make_zeros elem32 zero2 (by omega) fun w3 ru g3 l3 => ⟨_, _, _, rfl, (hp.hq.grow g3).there (by simp), fun w4 e4 => ?_⟩⟩
    have rq4 := (hp.hq.grow g3).set e4
    have g4 : Only (fun b => b = hs w) w3 w4 := only_set e4
    have l4 := g4.size
    refine ⟨_, rq4.cell rfl, make_zeros elem32 zero2 (by omega) fun w5 rv g5 l5 => ⟨_, _, _, rfl, (rq4.grow g5).there (by simp [setFrom]), fun w6 e6 => ?_⟩⟩
    have rq6 := (rq4.grow g5).set e6
    have g6 : Only (fun b => b = hs w) w5 w6 := only_set e6
    have l6 := g6.size
    refine ⟨_, rq6.cell rfl, make_zeros elem25 zero3 (by omega) fun w7 rr g7 l7 => ⟨_, _, _, rfl, (rq6.grow g7).there (by simp [setFrom]), fun w8 e8 => ?_⟩⟩
    have rq8 := (rq6.grow g7).set e8
    have g8 : Only (fun b => b = hs w) w7 w8 := only_set e8
    have ru8 := ((((ru.keep g4 (by omega)).grow g5).keep g6 (by omega)).grow g7).keep g8 (by omega)
    have rv8 := ((rv.keep g6 (by omega)).grow g7).keep g8 (by omega)
    have rr8 := rr.keep g8 (by omega)
    have F : Only (fun b => b = hs w) w2 w8 := ((((g3.only.trans' g4).trans' g5.only).trans' g6).trans' g7.only).trans' g8
    have l8 := g8.size
    refine ⟨_, _, _, rq8.cell rfl, fun k x w' => ∃ j : Nat, x = (j : Int) ∧ j ≤ rows.length + C ∧ k = rows.length + C - j ∧ Row w' (hs w6) 3 (intsV (List.replicate j (-1) ++ List.replicate (rows.length + C - j) 0)) ∧ Only (fun b => b = hs w6) w8 w', ⟨_, 0, rfl, Nat.zero_le _, rfl, rr8, Only.refl _ _⟩, ?_⟩
    rintro k _ w9 x ⟨j, rfl, hj, rfl, r9, g9⟩
    have rq9 := rq8.keep g9 (by omega)
    refine ⟨fun hlt => ?_, fun hge => ?_⟩
    · have hlt : j < rows.length + C := by have := dT hlt; omega
      refine ⟨_, _, _, rq9.cell rfl, _, rfl, ⟨by omega, by omega⟩, r9.thereAdd (by rw [intsV_len, toNat_cast]; simp; omega), fun w10 e10 => ⟨_, by omega, j + 1, by rw [wr (by omega)]; omega, hlt, rfl, ?_, g9.trans' (only_setAdd e10)⟩⟩
      have r10 := r9.setAdd e10
      rw [intsV_set _ _ _ (by simp; omega), show rows.length + C - j = (rows.length + C - (j + 1)) + 1 by omega, set_mid _ _ _ _ _ (by simp)] at r10
      rw [List.replicate_succ']
      exact r10
    · have hge := dF hge
      obtain rfl : j = rows.length + C := by omega
      have l9 := g9.size
      have F9 : Only (fun b => b = hs w ∨ b = hs w6) w2 w9 := (F.mono fun i _ h => .inl h).trans g9 fun i _ h => .inr h
      rw [Nat.sub_self, List.replicate_zero, List.append_nil] at r9
      refine ⟨hs w, hs w6, hs w2, hs w4, fun b => hs w1 ≤ b ∧ b < hs w2, rfl, ⟨⟨oc, cc, rq9, ?_⟩, r9, ru8.keep g9 (by omega), rv8.keep g9 (by omega), ⟨by omega, by omega, by omega, by omega, by omega, by omega⟩, ⟨by omega, by omega, by omega, by omega⟩, ⟨by simp [sq0], ?_, by simp [sq0], by simp [sq0], by simp [sq0]⟩, by simp [sq0]; omega⟩, fun b hb => ⟨by omega, by omega⟩, Nat.le_refl _, by omega, by omega, by omega, hp.g.trans F9 fun i hi hj => by omega⟩
      · intro i row hi
        simp only [sq0, List.getElem?_map, Option.map_eq_some_iff] at hi
        obtain ⟨i', hi', rfl⟩ := hi
        have hlt : i < rows.length + C := by
          rcases Nat.lt_or_ge i (rows.length + C) with h | h
          · exact h
          · rw [List.getElem?_eq_none (by simpa using h)] at hi'; cases hi'
        rw [List.getElem?_range hlt] at hi'
        cases hi'
        have hgl : i < gs.length := by rw [hp.len]; exact hlt
        obtain ⟨hr, hgq⟩ := hp.row i gs[i] (List.getElem?_eq_getElem hgl)
        obtain ⟨gg, _, rfl, -⟩ := hp.own.head (by omega)
        have hb := hp.own.base gg ⟨_, rfl, rfl⟩
        have own9 := hp.own.keep F9 fun b hb hbe => by have := hp.own.base b hb; omega
        have hc := own9.cell (j := (i : Int).toNat * 1) (v := sv (rows.length + C) gs[i]) (by rw [toNat_cast, Nat.mul_one]; simp [hgl])
        have hsl : (sqRow rows C i).length = rows.length + C := by
          unfold sqRow
          split
          · rename_i hin
            rw [List.getElem?_eq_getElem hin]
            have := hrow _ (List.getElem_mem hin)
            simp; omega
          · simp
        refine ⟨_, some ⟨gs[i], 0, none⟩, rows.length + C, rfl, hb, by rw [hsl]; exact hc, (hr.keep F9 (by have := hr.lt; omega)).nums ⟨by omega, hr.lt⟩⟩
      · intro r hr
        simp only [sq0, List.mem_map, List.mem_range] at hr
        obtain ⟨i, hi, rfl⟩ := hr
        unfold sqRow
        split
        · rename_i hin
          rw [List.getElem?_eq_getElem hin]
          have := hrow _ (List.getElem_mem hin)
          simp [sq0]; omega
        · simp [sq0]
end Go.Proofs.Ytalplekmbhemnaa
