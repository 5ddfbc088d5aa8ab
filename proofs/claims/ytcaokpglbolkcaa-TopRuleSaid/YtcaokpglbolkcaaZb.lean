/- Contract: prices, at an optimal assignment. -/
import Derived.Test.YtcaokpglbolkcaaZa
namespace Go.Proofs.Ytcaokpglbolkcaa
open Go Go.Nf

theorem It.bd {rows : List (List Int)} {C : Nat} {m : List Int} {us vs : Nat → Int} {U V : List Int} (h : It rows C m 1125899906842624 vs U V) (d : DualAt rows C m 1125899906842624 us vs) (hv : Valid rows C m) (hc : Costs rows C) :
    (∀ i, i < rows.length → 0 ≤ gI U i ∧ gI U i ≤ 1125899906842624) ∧ ∀ j, j < C → -1125899906842624 ≤ gI V j ∧ gI V j ≤ 0 := by
  have costs : ∀ i j, i < rows.length → gm m i = ((j : Nat) : Int) → 0 ≤ at2 rows i (j : Int) ∧ at2 rows i (j : Int) ≤ 1099511627776 := fun i j hi e => by
    obtain ⟨k1, k2, k3⟩ := (hv.ok i hi).resolve_left (by omega)
    exact hc.fin i j hi (by omega) (by rw [← e]; exact k3)
  refine ⟨fun i hi => ⟨?_, ?_⟩, fun j hj => ⟨?_, h.neg j hj⟩⟩
  · rcases hv.ok i hi with k | ⟨k1, k2, -⟩
    · rw [h.un i hi k]; decide
    · obtain ⟨j, hj⟩ : ∃ j : Nat, gm m i = (j : Int) := ⟨(gm m i).toNat, by omega⟩
      have := h.tight i j hi hj
      have := costs i j hi hj
      have := h.neg j (by omega)
      omega
  · have := h.hi d hv hi
    have := d.ule i hi
    omega
  · by_cases hk : ∃ k, k < rows.length ∧ gm m k = (j : Int)
    · obtain ⟨k, k1, k2⟩ := hk
      have := d.tight k j k1 k2
      have := d.ule k k1
      have := costs k j k1 k2
      have := h.lo j hj
      omega
    · have := d.free j hj fun i hi e => hk ⟨i, hi, e⟩
      have := h.lo j hj
      omega
theorem err_costs {rows : List (List Int)} (h : errOf rows = 0) : Costs rows (first rows) := ⟨(err0 h).1, fun _ _ _ _ hf => at2_bd h hf⟩
def PricePost (w : World) (rows : List (List Int)) (m : List Int) (vs : Nat → Int) (e : Ending) (w' : World) : Prop :=
  ∃ bu bv U V, e = .returned (.tuple #[.slice (some ⟨bu, 0, none⟩) rows.length rows.length, .slice (some ⟨bv, 0, none⟩) (first rows) (first rows), .bool true]) ∧ Row w' bu 2 (intsV U) ∧ Row w' bv 2 (intsV V) ∧ It rows (first rows) m 1125899906842624 vs U V ∧
    (∀ i j, i < rows.length → j < first rows → at2 rows i (j : Int) ≠ Inf → gI U i + gI V j ≤ at2 rows i (j : Int)) ∧ hs w ≤ bu ∧ hs w ≤ bv ∧ Grow w w'
set_option maxHeartbeats 16000000 in
theorem prices_c (o o' : Option Addr) (c c' : Nat) (rows : List (List Int)) (m : List Int) (he : errOf rows = 0) (hv : Valid rows (first rows) m) {us vs : Nat → Int} (d : Dearest rows (first rows) m 1125899906842624 us vs) (w : World) {A A' : Nat → Prop} (h : Mat w A o rows) (h' : Nums w A' o' m) :
    Calls Try.prog 34 #[.slice o rows.length c, .slice o' m.length c'] w (PricePost w rows m vs) := by
  have hE := err0 he
  have hfl := first_le he
  have hcs := err_costs he
  have hrow : ∀ r ∈ rows, r.length = first rows := fun r hr => (hE.2.2 r hr).1
  have hml := hv.len
  refine nf34 o rows.length c o' m.length c' w _ fun w1 e1 => ?_
  have g1 : Grow w w1 := only_drew e1
  have z1 := hs_drew e1
  obtain ⟨C, hC⟩ : ∃ C, C = first rows := ⟨_, rfl⟩
  refine ⟨?_, ?_⟩
  rotate_left
  · refine (width_c o c rows w1 (h.grow g1)).mono ?_
    rintro _ _ ⟨rfl, rfl⟩
    refine ⟨_, rfl, ?_, ?_⟩
    · refine make_zeros elem32 zero2 (by omega) fun w4 r4 g4 l4 => ⟨_, _, _, rfl, make_zeros elem32 zero2 (by omega) fun w12 r12 g12 l12 => ⟨_, _, _, rfl, ?_⟩⟩
      have rU := r4.grow g12
      have rV := r12
      have GM := (g1.trans' g4).trans' g12
      have nUV : hs w1 ≠ hs w4 := by omega
      have zU : hs w ≤ hs w1 := by omega
      have zV : hs w ≤ hs w4 := by omega
      generalize hbu : hs w1 = bu at *
      generalize hbv : hs w4 = bv at *
      refine (rowsOf_c o' c' (first rows) rows.length rows m rfl hml (by omega) (fun i hi => by
        rcases hv.ok i hi with k | k
        · omega
        · exact k.2.1) (by omega) w12 (h'.grow GM)).mono ?_
      rintro _ w17 ⟨W, rfl, r17, hW, g17⟩
      have G17 := GM.trans' g17
      have lU := rU.lt
      have lV := rV.lt
      have rU := rU.grow g17
      have rV := rV.grow g17
      generalize hs w12 = bw at *
      refine ⟨_, _, _, rfl, fun n x w' => ∃ t : Nat, x = (t : Int) ∧ t ≤ m.length ∧ n = m.length - t ∧ Row w' bu 2 (intsV (mix (fun i => if gm m i = -1 then 1125899906842624 else at2 rows i (gm m i)) (List.replicate rows.length 0) t)) ∧ Only (fun b => b = bu) w17 w', ⟨_, 0, rfl, Nat.zero_le _, rfl, by rw [mix_zero]; exact rU, Only.refl _ _⟩, ?_⟩
      rintro n _ w25 x ⟨t, rfl, ht, rfl, r25, o25⟩
      have G25 : Grow w w25 := G17.trans o25 fun b hb e => by omega
      refine ⟨fun hlt k29 hk29 => ?_, fun hge => ?_⟩
      · have hlt : t < m.length := by have := dT hlt; omega
        obtain ⟨a, ha, hc⟩ := (h'.grow G25).get hlt
        rw [← gm_at hlt] at hc
        refine ⟨a, ha, ⟨by omega, by omega⟩, _, hc, _, rfl, ⟨by omega, by omega⟩, Row.thereI r25 (by rw [mix_len, List.length_replicate]; omega), fun w38 e38 => ?_⟩
        have r38 := Row.setI r25 (by rw [mix_len, List.length_replicate]; omega) e38
        have o38 : Only (fun b => b = bu) w17 w38 := o25.trans' (only_setAdd e38)
        have G38 : Grow w w38 := G17.trans o38 fun b hb e => by omega
        refine ⟨fun h0 => ?_, fun h0 => hk29 _ fun _ => ⟨_, ?_, t + 1, by rw [wr (by omega)]; omega, hlt, rfl, ?_, o38⟩⟩
        · have h0 := dT h0
          obtain ⟨k1, k2, k3⟩ := (hv.ok t (by omega)).resolve_left (by omega)
          obtain ⟨j, hj⟩ := Int.eq_ofNat_of_zero_le k1
          obtain ⟨ar, oi, ci, har, hcr, ac, hac, hcc⟩ := mat_cell (h.grow G38) hrow (show t < rows.length by omega) (show j < first rows by omega)
          rw [hj]
          refine ⟨ar, har, ⟨by omega, by omega⟩, _, _, _, hcr, ac, hac, ⟨by omega, by omega⟩, _, hcc, _, rfl, ⟨by omega, by omega⟩, Row.thereI r38 (by rw [List.length_set, mix_len, List.length_replicate]; omega), fun w48 e48 => hk29 _ fun _ => ⟨_, ?_, t + 1, by rw [wr (by omega)]; omega, hlt, rfl, ?_, o38.trans' (only_setAdd e48)⟩⟩
          · omega
          · have r48 := Row.setI r38 (by rw [List.length_set, mix_len, List.length_replicate]; omega) e48
            rw [List.set_set] at r48
            rw [← mix_set (by rw [List.length_replicate]; omega)]
            have e : (if gm m t = -1 then 1125899906842624 else at2 rows t (gm m t)) = at2 rows t ((j : Nat) : Int) := by rw [if_neg (by omega), hj]
            rw [e]; exact r48
        · omega
        · have h0 := dF h0
          rw [← mix_set (by rw [List.length_replicate]; omega)]
          have e : (if gm m t = -1 then 1125899906842624 else at2 rows t (gm m t)) = 1125899906842624 := by
            rcases hv.ok t (by omega) with k | k
            · rw [if_pos k]
            · omega
          rw [e]; exact r38
      have hge := dF hge
      have htl : t = rows.length := by omega
      obtain ⟨U0, hU0⟩ : ∃ U, U = mix (fun i => if gm m i = -1 then 1125899906842624 else at2 rows i (gm m i)) (List.replicate rows.length 0) t := ⟨_, rfl⟩
      rw [← hU0] at r25
      have lU0 : U0.length = rows.length := by rw [hU0, mix_len, List.length_replicate]
      have gU0 : ∀ i, i < rows.length → gI U0 i = if gm m i = -1 then 1125899906842624 else at2 rows i (gm m i) := fun i hi => by rw [hU0, mix_get (by rw [List.length_replicate]; exact hi), if_pos (by omega)]
      have it0 : It rows (first rows) m 1125899906842624 vs U0 (List.replicate (first rows) 0) := by
        refine ⟨lU0, List.length_replicate, fun i j hi e => ?_, fun i hi e => ?_, fun j hj => ?_, fun j hj => ?_⟩
        · have hj : j < first rows := by
            rcases hv.ok i hi with k | k <;> omega
          rw [gU0 i hi, if_neg (by omega), gI_rep hj, e]; omega
        · rw [gU0 i hi, if_pos e]
        · rw [gI_rep hj]; exact Int.le_refl _
        · rw [gI_rep hj]; exact d.dual.vneg j hj
      have rV25 := rV.keep o25 fun e => nUV e.symm
      refine ⟨fun n x w' => ∃ (k : Nat) (U V : List Int), x = (k : Int) ∧ n = first rows + 1 - k ∧ k + apart vs V (first rows) ≤ first rows ∧ It rows (first rows) m 1125899906842624 vs U V ∧ Row w' bu 2 (intsV U) ∧ Row w' bv 2 (intsV V) ∧ Only (fun b => b = bu ∨ b = bv) w25 w', ⟨_, 0, U0, _, rfl, rfl, by have := cntN_le (fun j => !decide (gI (List.replicate (first rows) 0) j = vs j)) (first rows); unfold apart; omega, it0, r25, rV25, Only.refl _ _⟩, ?_⟩
      rintro n _ w56 x ⟨k, U, V, rfl, rfl, hk, hit, rU56, rV56, o56⟩
      refine ⟨fun hlt => ?_, fun hge => absurd (by rw [wr (x := ((rows.length : Nat) : Int) + ((first rows : Nat) : Int)) (by omega), wr (by omega)]; omega) (dF hge)⟩
      clear hlt
      refine ⟨fun n b x w' => ∃ (i : Nat) (U' V' : List Int), x = (i : Int) ∧ i ≤ rows.length ∧ n = rows.length - i ∧ Rnd rows (first rows) m 1125899906842624 vs U V (fun i' _ => i' < i) b U' V' ∧ Row w' bu 2 (intsV U') ∧ Row w' bv 2 (intsV V') ∧ Only (fun b => b = bu ∨ b = bv) w25 w', ⟨_, 0, U, V, rfl, Nat.zero_le _, rfl, (Rnd.start hit).skip fun i j _ _ q => by omega, rU56, rV56, o56⟩, ?_⟩
      rintro n _ w64 ch x ⟨i, U', V', rfl, hi, rfl, hrnd, rU64, rV64, o64⟩
      refine ⟨fun hlt => ?_, fun hge => ?_⟩
      · have hi : i < rows.length := by have := dT hlt; omega
        refine ⟨fun n b x w' => ∃ (j : Nat) (U' V' : List Int), x = (j : Int) ∧ j ≤ first rows ∧ n = first rows - j ∧ Rnd rows (first rows) m 1125899906842624 vs U V (fun i' j' => i' < i ∨ (i' = i ∧ j' < j)) b U' V' ∧ Row w' bu 2 (intsV U') ∧ Row w' bv 2 (intsV V') ∧ Only (fun b => b = bu ∨ b = bv) w25 w', ⟨_, 0, U', V', rfl, Nat.zero_le _, rfl, hrnd.skip fun i' j' _ _ q => .inl (by omega), rU64, rV64, o64⟩, ?_⟩
        clear hrnd rU64 rV64 o64 hlt U' V'
        rintro n _ w73 ch x ⟨j, U', V', rfl, hj, rfl, hrnd, rU73, rV73, o73⟩
        refine ⟨fun hlt k78 hk78 w85 e85 => ?_, fun hge => ⟨_, by omega, i + 1, U', V', by rw [wr (by omega)]; omega, hi, rfl, hrnd.skip fun i' j' _ hj' q => .inl (by have := dF hge; omega), rU73, rV73, o73⟩⟩
        have hj : j < first rows := by have := dT hlt; omega
        have g85 : Grow w73 w85 := only_drew e85
        have o85 := o73.grow g85
        have rU85 := rU73.grow g85
        have rV85 := rV73.grow g85
        have up : ∀ {w' : World}, Only (fun b => b = bu ∨ b = bv) w25 w' → Grow w w' := fun o => G25.trans o fun b hb e => by omega
        have rW : ∀ {w' : World}, Only (fun b => b = bu ∨ b = bv) w25 w' → Row w' bw 3 (intsV W) := fun o => (r17.keep o25 (by omega)).keep o (by omega)
        have hit' := hrnd.it
        have bd := hit'.bd d.dual hv hcs
        have bdU := bd.1 i hi
        have bdV := bd.2 j hj
        have lU' := hit'.lenU
        have lV' := hit'.lenV
        obtain ⟨ar, oi, ci, har, hcr, ac, hac, hcc⟩ := mat_cell (h.grow (up o85)) hrow hi hj
        refine ⟨ar, har, ⟨by omega, by omega⟩, _, _, _, hcr, ac, hac, ⟨by omega, by omega⟩, _, hcc, fun hinf => hk78 _ _ fun _ => ⟨_, by omega, j + 1, U', V', by rw [wr (by omega)]; omega, hj, rfl, hrnd.skip fun i' j' _ _ q => ?_, rU85, rV85, o85⟩, fun hfin => ?_⟩
        · have hinf := dT hinf
          by_cases q2 : i' < i ∨ (i' = i ∧ j' < j)
          · exact .inl q2
          · have e1 : i' = i := by omega
            have e2 : j' = j := by omega
            subst e1; subst e2
            exact .inr fun k => absurd hinf k
        have hfin := dF hfin
        have hcb := hcs.fin i j hi hj hfin
        refine ⟨_, rfl, ⟨by omega, by omega⟩, _, Row.int rU85 (by omega), _, rfl, ⟨by omega, by omega⟩, _, Row.int rV85 (by omega), ar, har, ⟨by omega, by omega⟩, _, _, _, hcr, ac, hac, ⟨by omega, by omega⟩, _, hcc, ?_⟩
        rw [wr (x := gI U' i + gI V' j) (by omega)]
        refine ⟨fun hle => hk78 _ _ fun _ => ⟨_, by omega, j + 1, U', V', by rw [wr (by omega)]; omega, hj, rfl, hrnd.skip fun i' j' _ _ q => ?_, rU85, rV85, o85⟩, fun hgt => ?_⟩
        · have hle := dT hle
          by_cases q2 : i' < i ∨ (i' = i ∧ j' < j)
          · exact .inl q2
          · have e1 : i' = i := by omega
            have e2 : j' = j := by omega
            subst e1; subst e2
            exact .inr fun _ => hle
        have hgt : at2 rows i (j : Int) < gI U' i + gI V' j := by have := dF hgt; omega
        obtain ⟨k0, hk0, hk0j, hk0i⟩ := hit'.taken d.dual hv hi hj hfin hgt
        obtain ⟨kk, kk1, kk2, kk3⟩ : ∃ k, k < rows.length ∧ gm m k = (j : Int) ∧ gI W j = (k : Int) := by
          rcases hW.at' j hj with q | q
          · exact absurd hk0j (q.2 k0 hk0)
          · exact q
        have lW := hW.len
        have cW : ∀ {w' : World}, Only (fun b => b = bu ∨ b = bv) w25 w' → w'.cell? ((⟨bw, 0, none⟩ : Addr).add ((j : Int).toNat * 1)) = some (.int .i64 (kk : Int)) := fun o => by
          rw [← kk3]; exact Row.int (rW o) (by omega)
        refine ⟨_, rfl, ⟨by omega, by omega⟩, _, cW o85, fun hneg => absurd (dT hneg) (by omega), fun _ w111 e111 => ?_⟩
        have g111 : Grow w85 w111 := only_drew e111
        have o111 := o85.grow g111
        have rU111 := rU85.grow g111
        have rV111 := rV85.grow g111
        obtain ⟨ar, oi, ci, har, hcr, ac, hac, hcc⟩ := mat_cell (h.grow (up o111)) hrow hi hj
        have hd := hrnd.down (Dn' := fun i' j' => i' < i ∨ (i' = i ∧ j' < j + 1)) d.dual hv hi hj hfin hgt kk1 kk2 fun i' j' q => by omega
        have bd2 := hd.it.bd d.dual hv hcs
        refine ⟨ar, har, ⟨by omega, by omega⟩, _, _, _, hcr, ac, hac, ⟨by omega, by omega⟩, _, hcc, _, rfl, ⟨by omega, by omega⟩, _, Row.int rU111 (by omega), _, rfl, ⟨by omega, by omega⟩, Row.thereI rV111 (by omega), fun w122 e122 w124 e124 => ?_⟩
        rw [wr (x := at2 rows i (j : Int) - gI U' i) (by omega)] at e122
        have rV122 := Row.setI rV111 (by omega) e122
        have o122' : Only (fun b => b = bv) w111 w122 := only_setAdd e122
        have o122 : Only (fun b => b = bu ∨ b = bv) w25 w122 := o111.trans o122' fun b _ e => .inr e
        have g124 : Grow w122 w124 := only_drew e124
        have o124 := o122.grow g124
        have rV124 := rV122.grow g124
        have rU124 := (rU111.keep o122' nUV).grow g124
        obtain ⟨ar, oi, ci, har, hcr, ac, hac, hcc⟩ := mat_cell (h.grow (up o124)) hrow kk1 hj
        have hVj := Row.int rV124 (j := j) (by rw [List.length_set]; omega)
        rw [gI_set (by omega), if_pos rfl] at hVj
        have hUk := (bd2.1 kk kk1)
        rw [gI_set (by omega), if_pos rfl] at hUk
        refine ⟨_, rfl, ⟨by omega, by omega⟩, _, cW o124, _, rfl, ⟨by omega, by omega⟩, _, cW o124, ar, har, ⟨by omega, by omega⟩, _, _, _, hcr, ac, hac, ⟨by omega, by omega⟩, _, hcc, _, rfl, ⟨by omega, by omega⟩, _, hVj, _, rfl, ⟨by omega, by omega⟩, Row.thereI rU124 (by omega), fun w139 e139 => hk78 _ _ fun _ => ⟨_, by omega, j + 1, _, _, by rw [wr (by omega)]; omega, hj, rfl, hd, ?_, ?_, ?_⟩⟩
        · rw [wr (by omega)] at e139
          exact Row.setI rU124 (by omega) e139
        · exact rV124.keep (only_setAdd e139 : Only (fun b => b = bu) w124 w139) fun e => nUV e.symm
        · exact o124.trans (only_setAdd e139 : Only (fun b => b = bu) w124 w139) fun b _ e => .inl e
      · have hil : i = rows.length := by have := dF hge; omega
        have hdone := hrnd.done hit d hv fun i' j' hi' _ => by omega
        refine ⟨fun hch => ?_, fun hch => ?_⟩
        · rcases hdone with ⟨q, -⟩ | ⟨-, q⟩
          · rw [hch] at q; cases q
          · exact ⟨_, by omega, k + 1, U', V', by rw [wr (by omega)]; omega, rfl, by omega, hrnd.it, rU64, rV64, o64⟩
        · rcases hdone with ⟨-, q⟩ | ⟨q, -⟩
          · exact ⟨bu, bv, U', V', rfl, rU64, rV64, hrnd.it, q, zU, zV, G25.trans o64 fun b hb e => by omega⟩
          · rw [hch] at q; cases q
    · refine make_zeros elem32 zero2 (by omega) fun w4 r4 g4 l4 => ⟨_, _, _, rfl, make_zeros elem32 zero2 (by omega) fun w12 r12 g12 l12 => ⟨_, _, _, rfl, ?_⟩⟩
      have rU := r12
      have rV := r4.grow g12
      have GM := (g1.trans' g4).trans' g12
      have nUV : hs w4 ≠ hs w1 := by omega
      have zU : hs w ≤ hs w4 := by omega
      have zV : hs w ≤ hs w1 := by omega
      generalize hbu : hs w4 = bu at *
      generalize hbv : hs w1 = bv at *
      refine (rowsOf_c o' c' (first rows) rows.length rows m rfl hml (by omega) (fun i hi => by
        rcases hv.ok i hi with k | k
        · omega
        · exact k.2.1) (by omega) w12 (h'.grow GM)).mono ?_
      rintro _ w17 ⟨W, rfl, r17, hW, g17⟩
      have G17 := GM.trans' g17
      have lU := rU.lt
      have lV := rV.lt
      have rU := rU.grow g17
      have rV := rV.grow g17
      generalize hs w12 = bw at *
      refine ⟨_, _, _, rfl, fun n x w' => ∃ t : Nat, x = (t : Int) ∧ t ≤ m.length ∧ n = m.length - t ∧ Row w' bu 2 (intsV (mix (fun i => if gm m i = -1 then 1125899906842624 else at2 rows i (gm m i)) (List.replicate rows.length 0) t)) ∧ Only (fun b => b = bu) w17 w', ⟨_, 0, rfl, Nat.zero_le _, rfl, by rw [mix_zero]; exact rU, Only.refl _ _⟩, ?_⟩
      rintro n _ w25 x ⟨t, rfl, ht, rfl, r25, o25⟩
      have G25 : Grow w w25 := G17.trans o25 fun b hb e => by omega
      refine ⟨fun hlt k29 hk29 => ?_, fun hge => ?_⟩
      · have hlt : t < m.length := by have := dT hlt; omega
        obtain ⟨a, ha, hc⟩ := (h'.grow G25).get hlt
        rw [← gm_at hlt] at hc
        refine ⟨a, ha, ⟨by omega, by omega⟩, _, hc, _, rfl, ⟨by omega, by omega⟩, Row.thereI r25 (by rw [mix_len, List.length_replicate]; omega), fun w38 e38 => ?_⟩
        have r38 := Row.setI r25 (by rw [mix_len, List.length_replicate]; omega) e38
        have o38 : Only (fun b => b = bu) w17 w38 := o25.trans' (only_setAdd e38)
        have G38 : Grow w w38 := G17.trans o38 fun b hb e => by omega
        refine ⟨fun h0 => ?_, fun h0 => hk29 _ fun _ => ⟨_, ?_, t + 1, by rw [wr (by omega)]; omega, hlt, rfl, ?_, o38⟩⟩
        · have h0 := dT h0
          obtain ⟨k1, k2, k3⟩ := (hv.ok t (by omega)).resolve_left (by omega)
          obtain ⟨j, hj⟩ := Int.eq_ofNat_of_zero_le k1
          obtain ⟨ar, oi, ci, har, hcr, ac, hac, hcc⟩ := mat_cell (h.grow G38) hrow (show t < rows.length by omega) (show j < first rows by omega)
          rw [hj]
          refine ⟨ar, har, ⟨by omega, by omega⟩, _, _, _, hcr, ac, hac, ⟨by omega, by omega⟩, _, hcc, _, rfl, ⟨by omega, by omega⟩, Row.thereI r38 (by rw [List.length_set, mix_len, List.length_replicate]; omega), fun w48 e48 => hk29 _ fun _ => ⟨_, ?_, t + 1, by rw [wr (by omega)]; omega, hlt, rfl, ?_, o38.trans' (only_setAdd e48)⟩⟩
          · omega
          · have r48 := Row.setI r38 (by rw [List.length_set, mix_len, List.length_replicate]; omega) e48
            rw [List.set_set] at r48
            rw [← mix_set (by rw [List.length_replicate]; omega)]
            have e : (if gm m t = -1 then 1125899906842624 else at2 rows t (gm m t)) = at2 rows t ((j : Nat) : Int) := by rw [if_neg (by omega), hj]
            rw [e]; exact r48
        · omega
        · have h0 := dF h0
          rw [← mix_set (by rw [List.length_replicate]; omega)]
          have e : (if gm m t = -1 then 1125899906842624 else at2 rows t (gm m t)) = 1125899906842624 := by
            rcases hv.ok t (by omega) with k | k
            · rw [if_pos k]
            · omega
          rw [e]; exact r38
      have hge := dF hge
      have htl : t = rows.length := by omega
      obtain ⟨U0, hU0⟩ : ∃ U, U = mix (fun i => if gm m i = -1 then 1125899906842624 else at2 rows i (gm m i)) (List.replicate rows.length 0) t := ⟨_, rfl⟩
      rw [← hU0] at r25
      have lU0 : U0.length = rows.length := by rw [hU0, mix_len, List.length_replicate]
      have gU0 : ∀ i, i < rows.length → gI U0 i = if gm m i = -1 then 1125899906842624 else at2 rows i (gm m i) := fun i hi => by rw [hU0, mix_get (by rw [List.length_replicate]; exact hi), if_pos (by omega)]
      have it0 : It rows (first rows) m 1125899906842624 vs U0 (List.replicate (first rows) 0) := by
        refine ⟨lU0, List.length_replicate, fun i j hi e => ?_, fun i hi e => ?_, fun j hj => ?_, fun j hj => ?_⟩
        · have hj : j < first rows := by
            rcases hv.ok i hi with k | k <;> omega
          rw [gU0 i hi, if_neg (by omega), gI_rep hj, e]; omega
        · rw [gU0 i hi, if_pos e]
        · rw [gI_rep hj]; exact Int.le_refl _
        · rw [gI_rep hj]; exact d.dual.vneg j hj
      have rV25 := rV.keep o25 fun e => nUV e.symm
      refine ⟨fun n x w' => ∃ (k : Nat) (U V : List Int), x = (k : Int) ∧ n = first rows + 1 - k ∧ k + apart vs V (first rows) ≤ first rows ∧ It rows (first rows) m 1125899906842624 vs U V ∧ Row w' bu 2 (intsV U) ∧ Row w' bv 2 (intsV V) ∧ Only (fun b => b = bu ∨ b = bv) w25 w', ⟨_, 0, U0, _, rfl, rfl, by have := cntN_le (fun j => !decide (gI (List.replicate (first rows) 0) j = vs j)) (first rows); unfold apart; omega, it0, r25, rV25, Only.refl _ _⟩, ?_⟩
      rintro n _ w56 x ⟨k, U, V, rfl, rfl, hk, hit, rU56, rV56, o56⟩
      refine ⟨fun hlt => ?_, fun hge => absurd (by rw [wr (x := ((rows.length : Nat) : Int) + ((first rows : Nat) : Int)) (by omega), wr (by omega)]; omega) (dF hge)⟩
      clear hlt
      refine ⟨fun n b x w' => ∃ (i : Nat) (U' V' : List Int), x = (i : Int) ∧ i ≤ rows.length ∧ n = rows.length - i ∧ Rnd rows (first rows) m 1125899906842624 vs U V (fun i' _ => i' < i) b U' V' ∧ Row w' bu 2 (intsV U') ∧ Row w' bv 2 (intsV V') ∧ Only (fun b => b = bu ∨ b = bv) w25 w', ⟨_, 0, U, V, rfl, Nat.zero_le _, rfl, (Rnd.start hit).skip fun i j _ _ q => by omega, rU56, rV56, o56⟩, ?_⟩
      rintro n _ w64 ch x ⟨i, U', V', rfl, hi, rfl, hrnd, rU64, rV64, o64⟩
      refine ⟨fun hlt => ?_, fun hge => ?_⟩
      · have hi : i < rows.length := by have := dT hlt; omega
        refine ⟨fun n b x w' => ∃ (j : Nat) (U' V' : List Int), x = (j : Int) ∧ j ≤ first rows ∧ n = first rows - j ∧ Rnd rows (first rows) m 1125899906842624 vs U V (fun i' j' => i' < i ∨ (i' = i ∧ j' < j)) b U' V' ∧ Row w' bu 2 (intsV U') ∧ Row w' bv 2 (intsV V') ∧ Only (fun b => b = bu ∨ b = bv) w25 w', ⟨_, 0, U', V', rfl, Nat.zero_le _, rfl, hrnd.skip fun i' j' _ _ q => .inl (by omega), rU64, rV64, o64⟩, ?_⟩
        clear hrnd rU64 rV64 o64 hlt U' V'
        rintro n _ w73 ch x ⟨j, U', V', rfl, hj, rfl, hrnd, rU73, rV73, o73⟩
        refine ⟨fun hlt k78 hk78 w85 e85 => ?_, fun hge => ⟨_, by omega, i + 1, U', V', by rw [wr (by omega)]; omega, hi, rfl, hrnd.skip fun i' j' _ hj' q => .inl (by have := dF hge; omega), rU73, rV73, o73⟩⟩
        have hj : j < first rows := by have := dT hlt; omega
        have g85 : Grow w73 w85 := only_drew e85
        have o85 := o73.grow g85
        have rU85 := rU73.grow g85
        have rV85 := rV73.grow g85
        have up : ∀ {w' : World}, Only (fun b => b = bu ∨ b = bv) w25 w' → Grow w w' := fun o => G25.trans o fun b hb e => by omega
        have rW : ∀ {w' : World}, Only (fun b => b = bu ∨ b = bv) w25 w' → Row w' bw 3 (intsV W) := fun o => (r17.keep o25 (by omega)).keep o (by omega)
        have hit' := hrnd.it
        have bd := hit'.bd d.dual hv hcs
        have bdU := bd.1 i hi
        have bdV := bd.2 j hj
        have lU' := hit'.lenU
        have lV' := hit'.lenV
        obtain ⟨ar, oi, ci, har, hcr, ac, hac, hcc⟩ := mat_cell (h.grow (up o85)) hrow hi hj
        refine ⟨ar, har, ⟨by omega, by omega⟩, _, _, _, hcr, ac, hac, ⟨by omega, by omega⟩, _, hcc, fun hinf => hk78 _ _ fun _ => ⟨_, by omega, j + 1, U', V', by rw [wr (by omega)]; omega, hj, rfl, hrnd.skip fun i' j' _ _ q => ?_, rU85, rV85, o85⟩, fun hfin => ?_⟩
        · have hinf := dT hinf
          by_cases q2 : i' < i ∨ (i' = i ∧ j' < j)
          · exact .inl q2
          · have e1 : i' = i := by omega
            have e2 : j' = j := by omega
            subst e1; subst e2
            exact .inr fun k => absurd hinf k
        have hfin := dF hfin
        have hcb := hcs.fin i j hi hj hfin
        refine ⟨_, rfl, ⟨by omega, by omega⟩, _, Row.int rU85 (by omega), _, rfl, ⟨by omega, by omega⟩, _, Row.int rV85 (by omega), ar, har, ⟨by omega, by omega⟩, _, _, _, hcr, ac, hac, ⟨by omega, by omega⟩, _, hcc, ?_⟩
        rw [wr (x := gI U' i + gI V' j) (by omega)]
        refine ⟨fun hle => hk78 _ _ fun _ => ⟨_, by omega, j + 1, U', V', by rw [wr (by omega)]; omega, hj, rfl, hrnd.skip fun i' j' _ _ q => ?_, rU85, rV85, o85⟩, fun hgt => ?_⟩
        · have hle := dT hle
          by_cases q2 : i' < i ∨ (i' = i ∧ j' < j)
          · exact .inl q2
          · have e1 : i' = i := by omega
            have e2 : j' = j := by omega
            subst e1; subst e2
            exact .inr fun _ => hle
        have hgt : at2 rows i (j : Int) < gI U' i + gI V' j := by have := dF hgt; omega
        obtain ⟨k0, hk0, hk0j, hk0i⟩ := hit'.taken d.dual hv hi hj hfin hgt
        obtain ⟨kk, kk1, kk2, kk3⟩ : ∃ k, k < rows.length ∧ gm m k = (j : Int) ∧ gI W j = (k : Int) := by
          rcases hW.at' j hj with q | q
          · exact absurd hk0j (q.2 k0 hk0)
          · exact q
        have lW := hW.len
        have cW : ∀ {w' : World}, Only (fun b => b = bu ∨ b = bv) w25 w' → w'.cell? ((⟨bw, 0, none⟩ : Addr).add ((j : Int).toNat * 1)) = some (.int .i64 (kk : Int)) := fun o => by
          rw [← kk3]; exact Row.int (rW o) (by omega)
        refine ⟨_, rfl, ⟨by omega, by omega⟩, _, cW o85, fun hneg => absurd (dT hneg) (by omega), fun _ w111 e111 => ?_⟩
        have g111 : Grow w85 w111 := only_drew e111
        have o111 := o85.grow g111
        have rU111 := rU85.grow g111
        have rV111 := rV85.grow g111
        obtain ⟨ar, oi, ci, har, hcr, ac, hac, hcc⟩ := mat_cell (h.grow (up o111)) hrow hi hj
        have hd := hrnd.down (Dn' := fun i' j' => i' < i ∨ (i' = i ∧ j' < j + 1)) d.dual hv hi hj hfin hgt kk1 kk2 fun i' j' q => by omega
        have bd2 := hd.it.bd d.dual hv hcs
        refine ⟨ar, har, ⟨by omega, by omega⟩, _, _, _, hcr, ac, hac, ⟨by omega, by omega⟩, _, hcc, _, rfl, ⟨by omega, by omega⟩, _, Row.int rU111 (by omega), _, rfl, ⟨by omega, by omega⟩, Row.thereI rV111 (by omega), fun w122 e122 w124 e124 => ?_⟩
        rw [wr (x := at2 rows i (j : Int) - gI U' i) (by omega)] at e122
        have rV122 := Row.setI rV111 (by omega) e122
        have o122' : Only (fun b => b = bv) w111 w122 := only_setAdd e122
        have o122 : Only (fun b => b = bu ∨ b = bv) w25 w122 := o111.trans o122' fun b _ e => .inr e
        have g124 : Grow w122 w124 := only_drew e124
        have o124 := o122.grow g124
        have rV124 := rV122.grow g124
        have rU124 := (rU111.keep o122' nUV).grow g124
        obtain ⟨ar, oi, ci, har, hcr, ac, hac, hcc⟩ := mat_cell (h.grow (up o124)) hrow kk1 hj
        have hVj := Row.int rV124 (j := j) (by rw [List.length_set]; omega)
        rw [gI_set (by omega), if_pos rfl] at hVj
        have hUk := (bd2.1 kk kk1)
        rw [gI_set (by omega), if_pos rfl] at hUk
        refine ⟨_, rfl, ⟨by omega, by omega⟩, _, cW o124, _, rfl, ⟨by omega, by omega⟩, _, cW o124, ar, har, ⟨by omega, by omega⟩, _, _, _, hcr, ac, hac, ⟨by omega, by omega⟩, _, hcc, _, rfl, ⟨by omega, by omega⟩, _, hVj, _, rfl, ⟨by omega, by omega⟩, Row.thereI rU124 (by omega), fun w139 e139 => hk78 _ _ fun _ => ⟨_, by omega, j + 1, _, _, by rw [wr (by omega)]; omega, hj, rfl, hd, ?_, ?_, ?_⟩⟩
        · rw [wr (by omega)] at e139
          exact Row.setI rU124 (by omega) e139
        · exact rV124.keep (only_setAdd e139 : Only (fun b => b = bu) w124 w139) fun e => nUV e.symm
        · exact o124.trans (only_setAdd e139 : Only (fun b => b = bu) w124 w139) fun b _ e => .inl e
      · have hil : i = rows.length := by have := dF hge; omega
        have hdone := hrnd.done hit d hv fun i' j' hi' _ => by omega
        refine ⟨fun hch => ?_, fun hch => ?_⟩
        · rcases hdone with ⟨q, -⟩ | ⟨-, q⟩
          · rw [hch] at q; cases q
          · exact ⟨_, by omega, k + 1, U', V', by rw [wr (by omega)]; omega, rfl, by omega, hrnd.it, rU64, rV64, o64⟩
        · rcases hdone with ⟨-, q⟩ | ⟨q, -⟩
          · exact ⟨bu, bv, U', V', rfl, rU64, rV64, hrnd.it, q, zU, zV, G25.trans o64 fun b hb e => by omega⟩
          · rw [hch] at q; cases q
  · refine make_zeros elem32 zero2 (by omega) fun w4 r4 g4 l4 => ⟨_, _, _, rfl, (width_c o c rows w4 (h.grow (g1.trans' g4))).mono ?_⟩
    rintro _ _ ⟨rfl, rfl⟩
    refine ⟨_, rfl, make_zeros elem32 zero2 (by omega) fun w12 r12 g12 l12 => ⟨_, _, _, rfl, ?_⟩⟩
    have rU := r4.grow g12
    have rV := r12
    have GM := (g1.trans' g4).trans' g12
    have nUV : hs w1 ≠ hs w4 := by omega
    have zU : hs w ≤ hs w1 := by omega
    have zV : hs w ≤ hs w4 := by omega
    generalize hbu : hs w1 = bu at *
    generalize hbv : hs w4 = bv at *
    refine (rowsOf_c o' c' (first rows) rows.length rows m rfl hml (by omega) (fun i hi => by
      rcases hv.ok i hi with k | k
      · omega
      · exact k.2.1) (by omega) w12 (h'.grow GM)).mono ?_
    rintro _ w17 ⟨W, rfl, r17, hW, g17⟩
    have G17 := GM.trans' g17
    have lU := rU.lt
    have lV := rV.lt
    have rU := rU.grow g17
    have rV := rV.grow g17
    generalize hs w12 = bw at *
    refine ⟨_, _, _, rfl, fun n x w' => ∃ t : Nat, x = (t : Int) ∧ t ≤ m.length ∧ n = m.length - t ∧ Row w' bu 2 (intsV (mix (fun i => if gm m i = -1 then 1125899906842624 else at2 rows i (gm m i)) (List.replicate rows.length 0) t)) ∧ Only (fun b => b = bu) w17 w', ⟨_, 0, rfl, Nat.zero_le _, rfl, by rw [mix_zero]; exact rU, Only.refl _ _⟩, ?_⟩
    rintro n _ w25 x ⟨t, rfl, ht, rfl, r25, o25⟩
    have G25 : Grow w w25 := G17.trans o25 fun b hb e => by omega
    refine ⟨fun hlt k29 hk29 => ?_, fun hge => ?_⟩
    · have hlt : t < m.length := by have := dT hlt; omega
      obtain ⟨a, ha, hc⟩ := (h'.grow G25).get hlt
      rw [← gm_at hlt] at hc
      refine ⟨a, ha, ⟨by omega, by omega⟩, _, hc, _, rfl, ⟨by omega, by omega⟩, Row.thereI r25 (by rw [mix_len, List.length_replicate]; omega), fun w38 e38 => ?_⟩
      have r38 := Row.setI r25 (by rw [mix_len, List.length_replicate]; omega) e38
      have o38 : Only (fun b => b = bu) w17 w38 := o25.trans' (only_setAdd e38)
      have G38 : Grow w w38 := G17.trans o38 fun b hb e => by omega
      refine ⟨fun h0 => ?_, fun h0 => hk29 _ fun _ => ⟨_, ?_, t + 1, by rw [wr (by omega)]; omega, hlt, rfl, ?_, o38⟩⟩
      · have h0 := dT h0
        obtain ⟨k1, k2, k3⟩ := (hv.ok t (by omega)).resolve_left (by omega)
        obtain ⟨j, hj⟩ := Int.eq_ofNat_of_zero_le k1
        obtain ⟨ar, oi, ci, har, hcr, ac, hac, hcc⟩ := mat_cell (h.grow G38) hrow (show t < rows.length by omega) (show j < first rows by omega)
        rw [hj]
        refine ⟨ar, har, ⟨by omega, by omega⟩, _, _, _, hcr, ac, hac, ⟨by omega, by omega⟩, _, hcc, _, rfl, ⟨by omega, by omega⟩, Row.thereI r38 (by rw [List.length_set, mix_len, List.length_replicate]; omega), fun w48 e48 => hk29 _ fun _ => ⟨_, ?_, t + 1, by rw [wr (by omega)]; omega, hlt, rfl, ?_, o38.trans' (only_setAdd e48)⟩⟩
        · omega
        · have r48 := Row.setI r38 (by rw [List.length_set, mix_len, List.length_replicate]; omega) e48
          rw [List.set_set] at r48
          rw [← mix_set (by rw [List.length_replicate]; omega)]
          have e : (if gm m t = -1 then 1125899906842624 else at2 rows t (gm m t)) = at2 rows t ((j : Nat) : Int) := by rw [if_neg (by omega), hj]
          rw [e]; exact r48
      · omega
      · have h0 := dF h0
        rw [← mix_set (by rw [List.length_replicate]; omega)]
        have e : (if gm m t = -1 then 1125899906842624 else at2 rows t (gm m t)) = 1125899906842624 := by
          rcases hv.ok t (by omega) with k | k
          · rw [if_pos k]
          · omega
        rw [e]; exact r38
    have hge := dF hge
    have htl : t = rows.length := by omega
    obtain ⟨U0, hU0⟩ : ∃ U, U = mix (fun i => if gm m i = -1 then 1125899906842624 else at2 rows i (gm m i)) (List.replicate rows.length 0) t := ⟨_, rfl⟩
    rw [← hU0] at r25
    have lU0 : U0.length = rows.length := by rw [hU0, mix_len, List.length_replicate]
    have gU0 : ∀ i, i < rows.length → gI U0 i = if gm m i = -1 then 1125899906842624 else at2 rows i (gm m i) := fun i hi => by rw [hU0, mix_get (by rw [List.length_replicate]; exact hi), if_pos (by omega)]
    have it0 : It rows (first rows) m 1125899906842624 vs U0 (List.replicate (first rows) 0) := by
      refine ⟨lU0, List.length_replicate, fun i j hi e => ?_, fun i hi e => ?_, fun j hj => ?_, fun j hj => ?_⟩
      · have hj : j < first rows := by
          rcases hv.ok i hi with k | k <;> omega
        rw [gU0 i hi, if_neg (by omega), gI_rep hj, e]; omega
      · rw [gU0 i hi, if_pos e]
      · rw [gI_rep hj]; exact Int.le_refl _
      · rw [gI_rep hj]; exact d.dual.vneg j hj
    have rV25 := rV.keep o25 fun e => nUV e.symm
    refine ⟨fun n x w' => ∃ (k : Nat) (U V : List Int), x = (k : Int) ∧ n = first rows + 1 - k ∧ k + apart vs V (first rows) ≤ first rows ∧ It rows (first rows) m 1125899906842624 vs U V ∧ Row w' bu 2 (intsV U) ∧ Row w' bv 2 (intsV V) ∧ Only (fun b => b = bu ∨ b = bv) w25 w', ⟨_, 0, U0, _, rfl, rfl, by have := cntN_le (fun j => !decide (gI (List.replicate (first rows) 0) j = vs j)) (first rows); unfold apart; omega, it0, r25, rV25, Only.refl _ _⟩, ?_⟩
    rintro n _ w56 x ⟨k, U, V, rfl, rfl, hk, hit, rU56, rV56, o56⟩
    refine ⟨fun hlt => ?_, fun hge => absurd (by rw [wr (x := ((rows.length : Nat) : Int) + ((first rows : Nat) : Int)) (by omega), wr (by omega)]; omega) (dF hge)⟩
    clear hlt
    refine ⟨fun n b x w' => ∃ (i : Nat) (U' V' : List Int), x = (i : Int) ∧ i ≤ rows.length ∧ n = rows.length - i ∧ Rnd rows (first rows) m 1125899906842624 vs U V (fun i' _ => i' < i) b U' V' ∧ Row w' bu 2 (intsV U') ∧ Row w' bv 2 (intsV V') ∧ Only (fun b => b = bu ∨ b = bv) w25 w', ⟨_, 0, U, V, rfl, Nat.zero_le _, rfl, (Rnd.start hit).skip fun i j _ _ q => by omega, rU56, rV56, o56⟩, ?_⟩
    rintro n _ w64 ch x ⟨i, U', V', rfl, hi, rfl, hrnd, rU64, rV64, o64⟩
    refine ⟨fun hlt => ?_, fun hge => ?_⟩
    · have hi : i < rows.length := by have := dT hlt; omega
      refine ⟨fun n b x w' => ∃ (j : Nat) (U' V' : List Int), x = (j : Int) ∧ j ≤ first rows ∧ n = first rows - j ∧ Rnd rows (first rows) m 1125899906842624 vs U V (fun i' j' => i' < i ∨ (i' = i ∧ j' < j)) b U' V' ∧ Row w' bu 2 (intsV U') ∧ Row w' bv 2 (intsV V') ∧ Only (fun b => b = bu ∨ b = bv) w25 w', ⟨_, 0, U', V', rfl, Nat.zero_le _, rfl, hrnd.skip fun i' j' _ _ q => .inl (by omega), rU64, rV64, o64⟩, ?_⟩
      clear hrnd rU64 rV64 o64 hlt U' V'
      rintro n _ w73 ch x ⟨j, U', V', rfl, hj, rfl, hrnd, rU73, rV73, o73⟩
      refine ⟨fun hlt k78 hk78 w85 e85 => ?_, fun hge => ⟨_, by omega, i + 1, U', V', by rw [wr (by omega)]; omega, hi, rfl, hrnd.skip fun i' j' _ hj' q => .inl (by have := dF hge; omega), rU73, rV73, o73⟩⟩
      have hj : j < first rows := by have := dT hlt; omega
      have g85 : Grow w73 w85 := only_drew e85
      have o85 := o73.grow g85
      have rU85 := rU73.grow g85
      have rV85 := rV73.grow g85
      have up : ∀ {w' : World}, Only (fun b => b = bu ∨ b = bv) w25 w' → Grow w w' := fun o => G25.trans o fun b hb e => by omega
      have rW : ∀ {w' : World}, Only (fun b => b = bu ∨ b = bv) w25 w' → Row w' bw 3 (intsV W) := fun o => (r17.keep o25 (by omega)).keep o (by omega)
      have hit' := hrnd.it
      have bd := hit'.bd d.dual hv hcs
      have bdU := bd.1 i hi
      have bdV := bd.2 j hj
      have lU' := hit'.lenU
      have lV' := hit'.lenV
      obtain ⟨ar, oi, ci, har, hcr, ac, hac, hcc⟩ := mat_cell (h.grow (up o85)) hrow hi hj
      refine ⟨ar, har, ⟨by omega, by omega⟩, _, _, _, hcr, ac, hac, ⟨by omega, by omega⟩, _, hcc, fun hinf => hk78 _ _ fun _ => ⟨_, by omega, j + 1, U', V', by rw [wr (by omega)]; omega, hj, rfl, hrnd.skip fun i' j' _ _ q => ?_, rU85, rV85, o85⟩, fun hfin => ?_⟩
      · have hinf := dT hinf
        by_cases q2 : i' < i ∨ (i' = i ∧ j' < j)
        · exact .inl q2
        · have e1 : i' = i := by omega
          have e2 : j' = j := by omega
          subst e1; subst e2
          exact .inr fun k => absurd hinf k
      have hfin := dF hfin
      have hcb := hcs.fin i j hi hj hfin
      refine ⟨_, rfl, ⟨by omega, by omega⟩, _, Row.int rU85 (by omega), _, rfl, ⟨by omega, by omega⟩, _, Row.int rV85 (by omega), ar, har, ⟨by omega, by omega⟩, _, _, _, hcr, ac, hac, ⟨by omega, by omega⟩, _, hcc, ?_⟩
      rw [wr (x := gI U' i + gI V' j) (by omega)]
      refine ⟨fun hle => hk78 _ _ fun _ => ⟨_, by omega, j + 1, U', V', by rw [wr (by omega)]; omega, hj, rfl, hrnd.skip fun i' j' _ _ q => ?_, rU85, rV85, o85⟩, fun hgt => ?_⟩
      · have hle := dT hle
        by_cases q2 : i' < i ∨ (i' = i ∧ j' < j)
        · exact .inl q2
        · have e1 : i' = i := by omega
          have e2 : j' = j := by omega
          subst e1; subst e2
          exact .inr fun _ => hle
      have hgt : at2 rows i (j : Int) < gI U' i + gI V' j := by have := dF hgt; omega
      obtain ⟨k0, hk0, hk0j, hk0i⟩ := hit'.taken d.dual hv hi hj hfin hgt
      obtain ⟨kk, kk1, kk2, kk3⟩ : ∃ k, k < rows.length ∧ gm m k = (j : Int) ∧ gI W j = (k : Int) := by
        rcases hW.at' j hj with q | q
        · exact absurd hk0j (q.2 k0 hk0)
        · exact q
      have lW := hW.len
      have cW : ∀ {w' : World}, Only (fun b => b = bu ∨ b = bv) w25 w' → w'.cell? ((⟨bw, 0, none⟩ : Addr).add ((j : Int).toNat * 1)) = some (.int .i64 (kk : Int)) := fun o => by
        rw [← kk3]; exact Row.int (rW o) (by omega)
      refine ⟨_, rfl, ⟨by omega, by omega⟩, _, cW o85, fun hneg => absurd (dT hneg) (by omega), fun _ w111 e111 => ?_⟩
      have g111 : Grow w85 w111 := only_drew e111
      have o111 := o85.grow g111
      have rU111 := rU85.grow g111
      have rV111 := rV85.grow g111
      obtain ⟨ar, oi, ci, har, hcr, ac, hac, hcc⟩ := mat_cell (h.grow (up o111)) hrow hi hj
      have hd := hrnd.down (Dn' := fun i' j' => i' < i ∨ (i' = i ∧ j' < j + 1)) d.dual hv hi hj hfin hgt kk1 kk2 fun i' j' q => by omega
      have bd2 := hd.it.bd d.dual hv hcs
      refine ⟨ar, har, ⟨by omega, by omega⟩, _, _, _, hcr, ac, hac, ⟨by omega, by omega⟩, _, hcc, _, rfl, ⟨by omega, by omega⟩, _, Row.int rU111 (by omega), _, rfl, ⟨by omega, by omega⟩, Row.thereI rV111 (by omega), fun w122 e122 w124 e124 => ?_⟩
      rw [wr (x := at2 rows i (j : Int) - gI U' i) (by omega)] at e122
      have rV122 := Row.setI rV111 (by omega) e122
      have o122' : Only (fun b => b = bv) w111 w122 := only_setAdd e122
      have o122 : Only (fun b => b = bu ∨ b = bv) w25 w122 := o111.trans o122' fun b _ e => .inr e
      have g124 : Grow w122 w124 := only_drew e124
      have o124 := o122.grow g124
      have rV124 := rV122.grow g124
      have rU124 := (rU111.keep o122' nUV).grow g124
      obtain ⟨ar, oi, ci, har, hcr, ac, hac, hcc⟩ := mat_cell (h.grow (up o124)) hrow kk1 hj
      have hVj := Row.int rV124 (j := j) (by rw [List.length_set]; omega)
      rw [gI_set (by omega), if_pos rfl] at hVj
      have hUk := (bd2.1 kk kk1)
      rw [gI_set (by omega), if_pos rfl] at hUk
      refine ⟨_, rfl, ⟨by omega, by omega⟩, _, cW o124, _, rfl, ⟨by omega, by omega⟩, _, cW o124, ar, har, ⟨by omega, by omega⟩, _, _, _, hcr, ac, hac, ⟨by omega, by omega⟩, _, hcc, _, rfl, ⟨by omega, by omega⟩, _, hVj, _, rfl, ⟨by omega, by omega⟩, Row.thereI rU124 (by omega), fun w139 e139 => hk78 _ _ fun _ => ⟨_, by omega, j + 1, _, _, by rw [wr (by omega)]; omega, hj, rfl, hd, ?_, ?_, ?_⟩⟩
      · rw [wr (by omega)] at e139
        exact Row.setI rU124 (by omega) e139
      · exact rV124.keep (only_setAdd e139 : Only (fun b => b = bu) w124 w139) fun e => nUV e.symm
      · exact o124.trans (only_setAdd e139 : Only (fun b => b = bu) w124 w139) fun b _ e => .inl e
    · have hil : i = rows.length := by have := dF hge; omega
      have hdone := hrnd.done hit d hv fun i' j' hi' _ => by omega
      refine ⟨fun hch => ?_, fun hch => ?_⟩
      · rcases hdone with ⟨q, -⟩ | ⟨-, q⟩
        · rw [hch] at q; cases q
        · exact ⟨_, by omega, k + 1, U', V', by rw [wr (by omega)]; omega, rfl, by omega, hrnd.it, rU64, rV64, o64⟩
      · rcases hdone with ⟨-, q⟩ | ⟨q, -⟩
        · exact ⟨bu, bv, U', V', rfl, rU64, rV64, hrnd.it, q, zU, zV, G25.trans o64 fun b hb e => by omega⟩
        · rw [hch] at q; cases q
end Go.Proofs.Ytcaokpglbolkcaa
