/- Contracts: the program's Cost; whose each column is; widths and copies. -/
import Derived.Test.YtcaokpglbolkcaaYp
import Derived.Test.YtcaokpglbolkcaaNf1
namespace Go.Proofs.Ytcaokpglbolkcaa
open Go Go.Nf

theorem gB_rep (n t : Nat) : gB (List.replicate n false) t = false := by
  unfold gB
  rw [List.getElem?_replicate]
  split <;> rfl
theorem gm_at {m : List Int} {j : Nat} (h : j < m.length) : gm m j = m[j] := by unfold gm; rw [List.getElem?_eq_getElem h]; rfl
set_option maxHeartbeats 2000000 in
theorem Cost_c (o o' : Option Addr) (c c' : Nat) (rows : List (List Int)) (m : List Int) (w : World) {A A' : Nat → Prop} (h : Mat w A o rows) (h' : Nums w A' o' m) :
    Calls Try.prog 13 #[.slice o rows.length c, .slice o' m.length c'] w fun e w' => e = .returned (.tuple #[.int .i64 (costN rows m), .int .i64 (costS rows m), .int .i64 (costE rows m)]) ∧ Grow w w' := by
  refine nf13 o rows.length c o' m.length c' w _ ((check_c o c rows w h).mono ?_)
  rintro _ _ ⟨rfl, rfl⟩
  have ret : ∀ {e : Int}, costE rows m = e → e ≠ 0 → Ending.returned (.tuple #[.int .i64 0, .int .i64 0, .int .i64 e]) = .returned (.tuple #[.int .i64 (costN rows m), .int .i64 (costS rows m), .int .i64 (costE rows m)]) := fun he hn => by
    unfold costN costS; rw [he, if_neg hn, if_neg hn]
  refine ⟨_, _, rfl, fun hne => ⟨ret (by unfold costE; rw [if_neg (nT hne)]) (nT hne), Only.refl _ _⟩, fun hz => ?_⟩
  have hz := nF hz
  have he := err0 hz
  have hfl := first_le hz
  rw [if_pos hz]
  refine ⟨fun hne => ⟨ret (by unfold costE; rw [if_pos hz, if_neg (by have := nT hne; omega)]) (by omega), Only.refl _ _⟩, fun heq => ?_⟩
  have heq : m.length = rows.length := by have := nF heq; omega
  have bad : ∀ {j}, j < m.length → okA rows m j = false → costE rows m = 1 := fun hj hb => by
    unfold costE; rw [if_pos hz, if_pos heq, okAll_bad hj hb]; rfl
  refine make_bools (by omega) fun w10 r10 g10 l10 => ⟨_, _, _, rfl, fun k n s x w' => ∃ (j : Nat) (T : List Bool), x = (j : Int) ∧ j ≤ m.length ∧ k = m.length - j ∧ n = cnt m j ∧ s = tot rows m j ∧ (∀ k, k < j → okA rows m k = true) ∧ T.length = first rows ∧ (∀ t : Nat, t < first rows → (gB T t = true ↔ ∃ k, k < j ∧ gm m k = (t : Int))) ∧ Row w' (hs w) 4 (boolsV T) ∧ Only (fun b => b = hs w) w10 w',
    ⟨_, 0, _, rfl, Nat.zero_le _, rfl, rfl, rfl, fun k hk => by omega, List.length_replicate, fun t _ => ⟨fun k => (by rw [gB_rep] at k; cases k), fun ⟨k, hk, _⟩ => (by omega)⟩, r10, Only.refl _ _⟩, ?_⟩
  rintro k _ w18 _ _ x ⟨j, T, rfl, hj, rfl, rfl, rfl, hI, hTl, hT, r18, o18⟩
  have G18 : Grow w w18 := g10.trans o18 fun b hb e => by omega
  have hcb := cnt_bd m j
  have htb := tot_bd hz j hI
  refine ⟨fun hlt k24 hk24 => ?_, fun hge => ⟨?_, G18⟩⟩
  case refine_2 =>
    have := dF hge
    obtain rfl : j = m.length := by omega
    have : costE rows m = 0 := by
      unfold costE; rw [if_pos hz, if_pos heq, if_pos]
      unfold okAll; rw [List.all_eq_true]; exact fun k hk => hI k (by simpa using hk)
    unfold costN costS; rw [this]; rfl
  have hlt : j < m.length := by have := dT hlt; omega
  have hlr : j < rows.length := by omega
  obtain ⟨a, ha, hc⟩ := (h'.grow G18).get hlt
  have hgm := gm_at hlt
  have hrow : (rows[j]?).getD [] = rows[j] := by rw [List.getElem?_eq_getElem hlr]; rfl
  have hrl : rows[j].length = first rows := (he.2.2 _ (List.getElem_mem hlr)).1
  rw [← hgm] at hc
  refine ⟨a, ha, ⟨by omega, by omega⟩, _, hc, fun hm1 => ?_, fun hm1 => ?_⟩
  · have hm1 := dT hm1
    refine hk24 _ _ _ fun _ => ⟨_, ?_, j + 1, T, by rw [wr (by omega)]; omega, hlt, rfl, ?_, ?_, fun k hk => ?_, hTl, fun t ht => ⟨fun q => ?_, fun ⟨k, hk, e⟩ => (hT t ht).2 ⟨k, ?_, e⟩⟩, r18, o18⟩
    · omega
    · simp only [cnt]; rw [if_pos hm1]; omega
    · simp only [tot]; rw [if_pos hm1]; omega
    · by_cases e : k = j
      · subst e; unfold okA; rw [decide_eq_true hm1, Bool.true_or]
      · exact hI k (by omega)
    · obtain ⟨k, hk, e⟩ := (hT t ht).1 q
      exact ⟨k, by omega, e⟩
    · by_cases e2 : k = j
      · subst e2; omega
      · omega
  have hm1 := dF hm1
  refine ⟨fun hneg => ⟨ret (bad hlt (okA_bad hm1 fun hx => by have := dT hneg; omega)) (by omega), G18⟩, fun hnn => ⟨fun hbig => ⟨ret (bad hlt (okA_bad hm1 fun hx => by have := dT hbig; have := hx.2.1; rw [hrow] at this; omega)) (by omega), G18⟩, fun hsm => ?_⟩⟩
  have hnn := dF hnn
  have hsm := dF hsm
  obtain ⟨C, hC⟩ := Int.eq_ofNat_of_zero_le (show 0 ≤ gm m j by omega)
  have hCl : C < first rows := by omega
  rw [hC]
  refine ⟨_, rfl, ⟨by omega, by omega⟩, _, Row.bool r18 (by omega), fun ht => ⟨ret (bad hlt (okA_bad hm1 fun hx => ?_)) (by omega), G18⟩, fun ht => ?_⟩
  · obtain ⟨k, hk, e⟩ := (hT C hCl).1 ht
    exact hx.2.2.2 k hk (by rw [e, hC])
  obtain ⟨ar, oi, ci, har, hcr, hn⟩ := (h.grow G18).get hlr
  obtain ⟨ac, hac, hcc⟩ := hn.get (show C < rows[j].length by omega)
  have hat : at2 rows j (gm m j) = rows[j][C] := by unfold at2; rw [hrow, hC]; show (rows[j][((C : Int)).toNat]?).getD 0 = _; rw [toNat_cast, List.getElem?_eq_getElem (by omega)]; rfl
  rw [← hat] at hcc
  refine ⟨ar, har, ⟨by omega, by omega⟩, _, _, _, hcr, ac, hac, ⟨by omega, by omega⟩, _, hcc, fun hinf => ⟨ret (bad hlt (okA_bad hm1 fun hx => hx.2.2.1 (dT hinf))) (by omega), G18⟩, fun hfin => ?_⟩
  have hfin := dF hfin
  refine ⟨_, rfl, ⟨by omega, by omega⟩, Row.thereB r18 (by omega), fun w53 e53 => ?_⟩
  have r53 := Row.setB r18 e53
  have o53 : Only (fun b => b = hs w) w10 w53 := o18.trans' (only_setAdd e53)
  have G53 : Grow w w53 := g10.trans o53 fun b hb e => by omega
  obtain ⟨ar, oi, ci, har, hcr, hn⟩ := (h.grow G53).get hlr
  obtain ⟨ac, hac, hcc⟩ := hn.get (show C < rows[j].length by omega)
  rw [← hat] at hcc
  have hb := at2_bd hz hfin
  refine ⟨ar, har, ⟨by omega, by omega⟩, _, _, _, hcr, ac, hac, ⟨by omega, by omega⟩, _, hcc, hk24 _ _ _ fun _ => ⟨_, ?_, j + 1, T.set C true, by rw [wr (by omega)]; omega, hlt, rfl, ?_, ?_, fun k hk => ?_, by rw [List.length_set]; exact hTl, fun t ht' => ?_, r53, o53⟩⟩
  · omega
  · rw [wr (by omega)]; simp only [cnt]; rw [if_neg hm1]
  · rw [wr (by omega)]; simp only [tot]; rw [if_neg hm1]
  · by_cases e : k = j
    · subst e
      refine okA_mk (by omega) (by rw [hrow]; omega) hfin fun k' hk' e => ?_
      rw [(hT C hCl).2 ⟨k', hk', by rw [e, hC]⟩] at ht; cases ht
    · exact hI k (by omega)
  · rw [gB_put (by omega)]
    by_cases e : t = C
    · subst e
      rw [if_pos rfl]
      exact ⟨fun _ => ⟨j, by omega, by rw [hC]⟩, fun _ => rfl⟩
    · rw [if_neg e, hT t ht']
      constructor
      · rintro ⟨k, hk, e2⟩; exact ⟨k, by omega, e2⟩
      · rintro ⟨k, hk, e2⟩
        by_cases e3 : k = j
        · subst e3; rw [hC] at e2; exact absurd (by omega) e
        · exact ⟨k, by omega, e2⟩
theorem rep_set {C : Nat} : mix (fun _ => -1) (List.replicate C 0) C = List.replicate C (-1) := by
  apply List.ext_getElem
  · simp [mix]
  · intro i h1 h2; simp at h2; simp [mix, h2]
set_option maxHeartbeats 1000000 in
theorem rowsOf_c (o : Option Addr) (c C R : Nat) (rows : List (List Int)) (m : List Int) (hR : rows.length = R) (hm : m.length = R) (hC : C ≤ 200) (hlt : ∀ i, i < R → gm m i < C) (hr : R ≤ 1000) (w : World) {A : Nat → Prop} (h : Nums w A o m) :
    Calls Try.prog 56 #[.int .i64 (C : Int), .slice o m.length c] w fun e w' => ∃ W, e = .returned (.slice (some ⟨hs w, 0, none⟩) C C) ∧ Row w' (hs w) 3 (intsV W) ∧ RowOf rows C m W ∧ Grow w w' := by
  refine nf56 C o m.length c w _ (make_zeros elem31 zero3 hC fun w2 r2 g2 l2 => ⟨_, _, _, rfl, fun n x w' => ∃ t : Nat, x = (t : Int) ∧ t ≤ C ∧ n = C - t ∧ Row w' (hs w) 3 (intsV (mix (fun _ => -1) (List.replicate C 0) t)) ∧ Only (fun b => b = hs w) w2 w', ⟨_, 0, rfl, Nat.zero_le _, rfl, by rw [mix_zero]; exact r2, Only.refl _ _⟩, ?_⟩)
  rintro n _ w10 x ⟨t, rfl, ht, rfl, r10, o10⟩
  refine ⟨fun hlt => ?_, fun hge => ?_⟩
  · have hlt : t < C := by have := dT hlt; omega
    refine ⟨_, rfl, ⟨by omega, by omega⟩, Row.thereI r10 (by rw [mix_len]; simpa using hlt), fun w15 e15 => ⟨_, by omega, t + 1, by rw [wr (by omega)]; omega, hlt, rfl, ?_, o10.trans' (only_setAdd e15)⟩⟩
    rw [← mix_set (by simpa using hlt)]
    exact Row.setI r10 (by rw [mix_len]; simpa using hlt) e15
  have hge := dF hge
  obtain rfl : t = C := by omega
  rw [rep_set] at r10
  refine ⟨fun n x w' => ∃ (i : Nat) (W : List Int), x = (i : Int) ∧ i ≤ m.length ∧ n = m.length - i ∧ W.length = t ∧ (∀ j, j < t → (gI W j = -1 ∧ ∀ k, k < i → gm m k ≠ (j : Int)) ∨ ∃ k, k < i ∧ gm m k = (j : Int) ∧ gI W j = (k : Int)) ∧ Row w' (hs w) 3 (intsV W) ∧ Only (fun b => b = hs w) w2 w',
    ⟨_, 0, _, rfl, Nat.zero_le _, rfl, List.length_replicate, fun j hj => .inl ⟨gI_rep hj, fun k hk => by omega⟩, r10, o10⟩, ?_⟩
  rintro n _ w23 x ⟨i, W, rfl, hi, rfl, hWl, hW, r23, o23⟩
  have G23 : Grow w w23 := g2.trans o23 fun b hb e => by omega
  refine ⟨fun hlt' k27 hk27 => ?_, fun hge => ⟨W, rfl, r23, ⟨hWl, fun j hj => ?_⟩, G23⟩⟩
  · have hil : i < m.length := by have := dT hlt'; omega
    obtain ⟨a, ha, hc⟩ := (h.grow G23).get hil
    rw [← gm_at hil] at hc
    have hgl := hlt i (by omega)
    refine ⟨a, ha, ⟨by omega, by omega⟩, _, hc, fun h0 => ?_, fun h0 => hk27 _ fun _ => ⟨_, ?_, i + 1, W, by rw [wr (by omega)]; omega, hil, rfl, hWl, fun j hj => ?_, r23, o23⟩⟩
    · have h0 := dT h0
      obtain ⟨j0, hj0⟩ := Int.eq_ofNat_of_zero_le h0
      rw [hj0]
      refine ⟨_, rfl, ⟨by omega, by omega⟩, Row.thereI r23 (by omega), fun w37 e37 => hk27 _ fun _ => ⟨_, ?_, i + 1, W.set j0 (i : Int), by rw [wr (by omega)]; omega, hil, rfl, by rw [List.length_set]; exact hWl, fun j hj => ?_, Row.setI r23 (by omega) e37, o23.trans' (only_setAdd e37)⟩⟩
      · omega
      · rw [gI_set (by omega)]
        by_cases e : j = j0
        · subst e
          rw [if_pos rfl]
          exact .inr ⟨i, by omega, by rw [hj0], rfl⟩
        · rw [if_neg e]
          rcases hW j hj with ⟨k1, k2⟩ | ⟨k, k1, k2, k3⟩
          · refine .inl ⟨k1, fun k hk => ?_⟩
            by_cases e2 : k = i
            · subst e2; rw [hj0]; intro e3; exact e (by omega)
            · exact k2 k (by omega)
          · exact .inr ⟨k, by omega, k2, k3⟩
    · omega
    · have h0 := dF h0
      rcases hW j hj with ⟨k1, k2⟩ | ⟨k, k1, k2, k3⟩
      · refine .inl ⟨k1, fun k hk => ?_⟩
        by_cases e2 : k = i
        · subst e2; omega
        · exact k2 k (by omega)
      · exact .inr ⟨k, by omega, k2, k3⟩
  · have hge := dF hge
    have hil : i = m.length := by omega
    subst hil
    rcases hW j hj with ⟨k1, k2⟩ | ⟨k, k1, k2, k3⟩
    · exact .inl ⟨k1, fun i hi => k2 i (by omega)⟩
    · exact .inr ⟨k, by omega, k2, k3⟩
theorem width_c (o : Option Addr) (c : Nat) (rows : List (List Int)) (w : World) {A : Nat → Prop} (h : Mat w A o rows) : Calls Try.prog 37 #[.slice o rows.length c] w fun e w' => e = .returned (.int .i64 (first rows : Int)) ∧ w = w' := by
  refine nf37 o rows.length c w _ ⟨fun h0 => ⟨?_, rfl⟩, fun h0 => ?_⟩
  · have h0 := dT h0
    have : rows = [] := List.eq_nil_of_length_eq_zero (by omega)
    rw [this]; rfl
  · have h0 := dF h0
    obtain ⟨a, oi, ci, ha, hc, -⟩ := h.get0 (by omega)
    exact ⟨a, ha, ⟨by omega, by omega⟩, _, _, _, hc, by rw [first_get (by omega)], rfl⟩
end Go.Proofs.Ytcaokpglbolkcaa
