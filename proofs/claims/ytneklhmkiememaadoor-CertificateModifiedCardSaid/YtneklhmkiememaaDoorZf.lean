/- Contracts: the reference's small functions, who and short. -/
import Derived.Test.YtneklhmkiememaaDoorZe
namespace Go.Proofs.YtneklhmkiememaaDoor
open Go Go.Nf

theorem never_c (w : World) : Calls Tryd.prog 33 #[] w fun e w' => e = .returned (.int .i64 4611686018427387904) ∧ w = w' := nf33 w _ ⟨rfl, rfl⟩
theorem top_c (w : World) : Calls Tryd.prog 31 #[] w fun e w' => e = .returned (.int .i64 1125899906842624) ∧ w = w' := nf31 w _ ⟨rfl, rfl⟩
set_option maxHeartbeats 1000000 in
theorem who_c (o o' : Option Addr) (c c' : Nat) (rows : List (List Int)) (m : List Int) (he : errOf rows = 0) (hv : Valid rows (first rows) m) (w : World) {A A' : Nat → Prop} (h0 : Mat w A' o rows) (h : Nums w A o' m) :
    Calls Tryd.prog 32 #[.slice o rows.length c, .slice o' m.length c'] w fun e w' => ∃ W, e = .returned (.slice (some ⟨hs w, 0, none⟩) (first rows) (first rows)) ∧ Row w' (hs w) 3 (intsV W) ∧ RowOf rows (first rows) m W ∧ Grow w w' := by
  have hfl := first_le he
  have hR := (err0 he).1
  have hm := hv.len
  refine nf32 o rows.length c o' m.length c' w _ ((rwidth_c o c rows w h0).mono ?_)
  rintro _ _ ⟨rfl, rfl⟩
  refine ⟨_, rfl, ?_⟩
  have hlt : ∀ i, i < rows.length → gm m i < first rows := fun i hi => by
    rcases hv.ok i hi with k | k
    · omega
    · exact k.2.1
  generalize first rows = C at *
  refine make_zeros elem23 zero3 (by omega) fun w2 r2 g2 l2 => ⟨_, _, _, rfl, fun n x w' => ∃ t : Nat, x = (t : Int) ∧ t ≤ C ∧ n = C - t ∧ Row w' (hs w) 3 (intsV (mix (fun _ => -1) (List.replicate C 0) t)) ∧ Only (fun b => b = hs w) w2 w', ⟨_, 0, rfl, Nat.zero_le _, rfl, by rw [mix_zero]; exact r2, Only.refl _ _⟩, ?_⟩
  rintro n _ w10 x ⟨t, rfl, ht, rfl, r10, o10⟩
  refine ⟨fun hlt => ?_, fun hge => ?_⟩
  · have hlt : t < C := by have := dT hlt; omega
    refine ⟨_, rfl, ⟨by omega, by omega⟩, Row.thereI r10 (by rw [mix_len]; simpa using hlt), fun w15 e15 => ⟨_, by omega, t + 1, by rw [wr (by omega)]; omega, hlt, rfl, ?_, o10.trans' (only_setAdd e15)⟩⟩
    rw [← mix_set (by simpa using hlt)]
    exact Row.setI r10 (by rw [mix_len]; simpa using hlt) e15
  have hge := dF hge
  obtain rfl : t = C := by omega
  rw [rep_set] at r10
  refine ⟨fun n x w' => ∃ (i : Nat) (W : List Int), x = (i : Int) ∧ i ≤ m.length ∧ n = m.length - i ∧ W.length = t ∧ (∀ j, j < t → (gI W j = -1 ∧ ∀ k, k < i → gm m k ≠ (j : Int)) ∨ ∃ k, k < i ∧ gm m k = (j : Int) ∧ gI W j = (k : Int)) ∧ Row w' (hs w) 3 (intsV W) ∧ Only (fun b => b = hs w) w2 w',
    ⟨_, 0, _, rfl, Nat.zero_le _, rfl, List.length_replicate, fun j hj => .inl ⟨gI_rep hj, fun k hk => by omega⟩, r10, o10⟩, ?_⟩
  rintro n _ w23 x ⟨i, W, rfl, hi, rfl, hWl, hW, r23, o23⟩
  have G23 : Grow w w23 := g2.trans o23 fun b hb e => by omega
  refine ⟨fun hlt' k27 hk27 => ?_, fun hge => ⟨W, rfl, r23, ⟨hWl, fun j hj => ?_⟩, G23⟩⟩
  · have hil : i < m.length := by have := dT hlt'; omega
    obtain ⟨a, ha, hc⟩ := (h.grow G23).get hil
    rw [← gm_at hil] at hc
    have hgl := hlt i (by omega)
    have skip : (gm m i < 0) → ∀ j, j < t → (gI W j = -1 ∧ ∀ k, k < i + 1 → gm m k ≠ (j : Int)) ∨ ∃ k, k < i + 1 ∧ gm m k = (j : Int) ∧ gI W j = (k : Int) := fun h0 j hj => by
      rcases hW j hj with ⟨k1, k2⟩ | ⟨k, k1, k2, k3⟩
      · refine .inl ⟨k1, fun k hk => ?_⟩
        by_cases e2 : k = i
        · subst e2; omega
        · exact k2 k (by omega)
      · exact .inr ⟨k, by omega, k2, k3⟩
    refine ⟨a, ha, ⟨by omega, by omega⟩, _, hc, fun h0 => ⟨a, ha, ⟨by omega, by omega⟩, _, hc, fun h2 => ⟨a, ha, ⟨by omega, by omega⟩, _, hc, ?_⟩, fun h2 => absurd hgl (dF h2)⟩, fun h0 => hk27 _ fun _ => ⟨_, ?_, i + 1, W, by rw [wr (by omega)]; omega, hil, rfl, hWl, skip (by have := dF h0; omega), r23, o23⟩⟩
    · have h0 := dT h0
      obtain ⟨j0, hj0⟩ := Int.eq_ofNat_of_zero_le h0
      rw [hj0]
      refine ⟨_, rfl, ⟨by omega, by omega⟩, Row.thereI r23 (by omega), fun w37 e37 => hk27 _ fun _ => ⟨_, ?_, i + 1, W.set j0 (i : Int), by rw [wr (by omega)]; omega, hil, rfl, by rw [List.length_set]; exact hWl, fun j hj => ?_, Row.setI r23 (by omega) e37, o23.trans' (only_setAdd e37)⟩⟩
      · omega
      · rw [gI_set (by omega)]
        by_cases e : j = j0
        · subst e
          rw [if_pos rfl]
          exact .inr ⟨i, by omega, by rw [hj0], rfl⟩
        · rw [if_neg e]
          rcases hW j hj with ⟨k1, k2⟩ | ⟨k, k1, k2, k3⟩
          · refine .inl ⟨k1, fun k hk => ?_⟩
            by_cases e2 : k = i
            · subst e2; rw [hj0]; intro e3; exact e (by omega)
            · exact k2 k (by omega)
          · exact .inr ⟨k, by omega, k2, k3⟩
    · omega
  · have hge := dF hge
    have hil : i = m.length := by omega
    subst hil
    rcases hW j hj with ⟨k1, k2⟩ | ⟨k, k1, k2, k3⟩
    · exact .inl ⟨k1, fun i hi => k2 i (by omega)⟩
    · exact .inr ⟨k, by omega, k2, k3⟩
set_option maxHeartbeats 8000000 in
theorem short_c (o oH : Option Addr) (c cH : Nat) (un : Int) (rows : List (List Int)) (H : List Int) (he : errOf rows = 0) (hH : H.length ≤ 1000000) (w : World) {A A' : Nat → Prop} (h : Mat w A o rows) (hHn : Nums w A' oH H) :
    Calls Tryd.prog 34 #[.slice o rows.length c, .slice oH H.length cH, .int .i64 un] w fun e w' => e = .returned (.bool (hallB rows (first rows) H un)) ∧ Grow w w' := by
  have hE := err0 he
  have hfl := first_le he
  have hrow : ∀ r ∈ rows, r.length = first rows := fun r hr => (hE.2.2 r hr).1
  refine nf34 o rows.length c oH H.length cH un w _ ((rwidth_c o c rows w h).mono ?_)
  rintro _ _ ⟨rfl, rfl⟩
  refine ⟨_, rfl, make_bools (by omega) fun w7 r7 g7 l7 => ⟨_, _, _, rfl, ?_⟩⟩
  have G7 := g7
  have lb := r7.lt
  have zb : hs w ≤ hs w := Nat.le_refl _
  generalize hbr : hs w = br at r7 lb l7 zb ⊢
  have no : hallB rows (first rows) H un ≠ true → Ending.returned (.bool false) = .returned (.bool (hallB rows (first rows) H un)) := fun hn => ret_bool (by cases hb : hallB rows (first rows) H un with | true => exact absurd hb hn | false => rfl)
  have yes : hallB rows (first rows) H un = true → (∀ k (hk : k < H.length), 0 ≤ H[k] ∧ H[k] < rows.length) ∧ upB H = true := fun hb => by
    unfold hallB at hb
    rw [Bool.and_eq_true, Bool.and_eq_true] at hb
    refine ⟨fun k hk => ?_, hb.1.2⟩
    have := List.all_eq_true.1 hb.1.1 _ (List.getElem_mem hk)
    simpa using this
  refine ⟨fun n x w' => ∃ (k : Nat) (P : List Bool), x = (k : Int) ∧ k ≤ H.length ∧ n = H.length - k ∧ P.length = first rows ∧ (∀ j, j < first rows → gB P j = reachB rows (H.take k) j) ∧ (∀ k' (hk' : k' < H.length), k' < k → 0 ≤ H[k'] ∧ H[k'] < rows.length) ∧ (∀ k' (hk' : k' + 1 < H.length), k' + 1 < k → H[k'] < H[k' + 1]) ∧ Row w' br 4 (boolsV P) ∧ Only (fun b => b = br) w7 w',
    ⟨_, 0, _, rfl, Nat.zero_le _, rfl, List.length_replicate, fun j _ => (by rw [gB_rep]; rfl), fun k' _ hk => (by omega), fun k' _ hk => (by omega), r7, Only.refl _ _⟩, ?_⟩
  rintro n _ w13 x ⟨k, P, rfl, hk, rfl, hPl, hP, hin, hup, rP, o18⟩
  refine ⟨fun hlt w18 e18 => ?_, fun hge => ?_⟩
  · have rP := rP.grow (only_drew e18)
    have o18 := o18.grow (only_drew e18)
    have G18 : Grow w w18 := G7.trans o18 fun b hb e => by omega
    have hlt : k < H.length := by have := dT hlt; omega
    obtain ⟨a, ha, hc⟩ := (hHn.grow G18).get hlt
    refine ⟨a, ha, ⟨by omega, by omega⟩, _, hc, fun h1 => ⟨no fun hb => by have := (yes hb).1 k hlt; have := dT h1; omega, G18⟩, fun h1 => ⟨a, ha, ⟨by omega, by omega⟩, _, hc, fun h2 => ⟨no fun hb => by have := (yes hb).1 k hlt; have := dT h2; omega, G18⟩, fun h2 => ?_⟩⟩
    have h1 := dF h1
    have h2 := dF h2
    obtain ⟨r, hr⟩ := Int.eq_ofNat_of_zero_le (show 0 ≤ H[k] by omega)
    have hrR : r < rows.length := by omega
    have hrl := hrow _ (List.getElem_mem hrR)
    obtain ⟨ar, oi, ci, har, hcr0, hn⟩ := h.get hrR
    refine ⟨fun hpos => ?_, fun hpos => ?_⟩
    · have hpos := dT hpos
      have e1 : IntKind.wrap .i64 ((k : Int) - 1) = ((k - 1 : Nat) : Int) := by rw [wr (by omega)]; omega
      rw [e1]
      obtain ⟨a2, ha2, hc2⟩ := (hHn.grow G18).get (show k - 1 < H.length by omega)
      refine ⟨a, ha, ⟨by omega, by omega⟩, _, hc, a2, ha2, ⟨by omega, by omega⟩, _, hc2, fun h3 => ⟨no fun hb => ?_, G18⟩, fun h3 => ?_⟩
      · have := upB_lt (yes hb).2 (list_get (show k - 1 < H.length by omega)) (list_get hlt) (by omega)
        have := dT h3; omega
      have h3 := dF h3
      have hup' : ∀ k' (hk' : k' + 1 < H.length), k' + 1 < k + 1 → H[k'] < H[k' + 1] := fun k' hk' hlt' => by
        by_cases e : k' + 1 = k
        · subst e
          simp only [Nat.add_sub_cancel] at h3
          omega
        · exact hup k' hk' (by omega)
      refine ⟨fun n x w' => ∃ (j : Nat) (P' : List Bool), x = (j : Int) ∧ j ≤ first rows ∧ n = first rows - j ∧ P'.length = first rows ∧ (∀ j', j' < first rows → gB P' j' = (reachB rows (H.take k) j' || (decide (j' < j) && !decide (at2 rows r (j' : Int) = Inf)))) ∧ Row w' br 4 (boolsV P') ∧ Only (fun b => b = br) w7 w', ⟨_, 0, P, rfl, Nat.zero_le _, rfl, hPl, fun j' hj' => (by rw [hP j' hj']; simp), rP, o18⟩, ?_⟩
      rintro n _ w44 x ⟨j, P', rfl, hj, rfl, hPl', hP', rP', o44⟩
      have G44 : Grow w w44 := G7.trans o44 fun b hb e => by omega
      refine ⟨fun hlt2 k48 hk48 w48 e48 => ?_, fun hge2 => ⟨_, by omega, k + 1, P', by rw [wr (by omega)]; omega, hlt, rfl, hPl', fun j' hj' => ?_, fun k' hk' hlt' => ?_, hup', rP', o44⟩⟩
      · have hlt2 : j < first rows := by have := dT hlt2; omega
        have hlt3 : j < rows[r].length := by omega
        have G48 := G44.trans' (only_drew e48)
        have o48 := o44.grow (only_drew e48)
        have r48 := rP'.grow (only_drew e48)
        obtain ⟨a50, ha50, hc50⟩ := (hHn.grow G48).get hlt
        have e50 : a50 = a := by rw [ha] at ha50; exact (Option.some.inj ha50).symm
        rw [hr] at hc50
        obtain ⟨ac, hac, hcc⟩ := (hn.grow G48).get hlt3
        rw [← at2_get hrR hlt3] at hcc
        refine ⟨a50, ha50, ⟨by omega, by omega⟩, _, hc50, ar, har, ⟨by omega, by omega⟩, _, _, _, cell_grow G48 hcr0, ac, hac, ⟨by omega, by omega⟩, _, hcc, (never_c w48).mono ?_⟩
        rintro _ _ ⟨rfl, rfl⟩
        refine ⟨_, rfl, kept_same rfl, kept_same rfl, kept_same rfl, fun hfin => ⟨_, rfl, ⟨by omega, by omega⟩, Row.thereB r48 (by omega), fun w58 e58 => hk48 _ fun _ => ⟨_, by omega, j + 1, P'.set j true, by rw [wr (by omega)]; omega, hlt2, rfl, by rw [List.length_set]; exact hPl', fun j' hj' => ?_, Row.setB r48 e58, o48.trans' (only_setAdd e58)⟩⟩, fun hinf => hk48 _ fun _ => ⟨_, by omega, j + 1, P', by rw [wr (by omega)]; omega, hlt2, rfl, hPl', fun j' hj' => ?_, r48, o48⟩⟩
        · rw [gB_put (by omega)]
          by_cases e : j' = j
          · subst e
            have q0 := dT hfin
            have : at2 rows r (j' : Int) ≠ Inf := by intro q; rw [q] at q0; exact absurd q0 (by decide)
            rw [if_pos rfl]
            simp [this]
          · rw [if_neg e, hP' j' hj']
            have : decide (j' < j + 1) = decide (j' < j) := decide_eq_decide.2 (by omega)
            rw [this]
        · rw [hP' j' hj']
          by_cases e : j' = j
          · subst e
            have hinf := dF hinf
            have : at2 rows r (j' : Int) = Inf := by
              by_cases q : at2 rows r (j' : Int) = 4611686018427387904
              · exact q
              · have := at2_bd he q; omega
            simp [this]
          · have : decide (j' < j + 1) = decide (j' < j) := decide_eq_decide.2 (by omega)
            rw [this]
      · have hge2 := dF hge2
        rw [hP' j' hj', reach_take hlt, hr]
        have : decide (j' < j) = true := decide_eq_true (by omega)
        rw [this, Bool.true_and]
        rfl
      · by_cases e : k' = k
        · subst e; omega
        · exact hin k' hk' (by omega)
    · have hpos := dF hpos
      have hup' : ∀ k' (hk' : k' + 1 < H.length), k' + 1 < k + 1 → H[k'] < H[k' + 1] := fun k' hk' hlt' => by omega
      refine ⟨fun n x w' => ∃ (j : Nat) (P' : List Bool), x = (j : Int) ∧ j ≤ first rows ∧ n = first rows - j ∧ P'.length = first rows ∧ (∀ j', j' < first rows → gB P' j' = (reachB rows (H.take k) j' || (decide (j' < j) && !decide (at2 rows r (j' : Int) = Inf)))) ∧ Row w' br 4 (boolsV P') ∧ Only (fun b => b = br) w7 w', ⟨_, 0, P, rfl, Nat.zero_le _, rfl, hPl, fun j' hj' => (by rw [hP j' hj']; simp), rP, o18⟩, ?_⟩
      rintro n _ w44 x ⟨j, P', rfl, hj, rfl, hPl', hP', rP', o44⟩
      have G44 : Grow w w44 := G7.trans o44 fun b hb e => by omega
      refine ⟨fun hlt2 k48 hk48 w48 e48 => ?_, fun hge2 => ⟨_, by omega, k + 1, P', by rw [wr (by omega)]; omega, hlt, rfl, hPl', fun j' hj' => ?_, fun k' hk' hlt' => ?_, hup', rP', o44⟩⟩
      · have hlt2 : j < first rows := by have := dT hlt2; omega
        have hlt3 : j < rows[r].length := by omega
        have G48 := G44.trans' (only_drew e48)
        have o48 := o44.grow (only_drew e48)
        have r48 := rP'.grow (only_drew e48)
        obtain ⟨a50, ha50, hc50⟩ := (hHn.grow G48).get hlt
        have e50 : a50 = a := by rw [ha] at ha50; exact (Option.some.inj ha50).symm
        rw [hr] at hc50
        obtain ⟨ac, hac, hcc⟩ := (hn.grow G48).get hlt3
        rw [← at2_get hrR hlt3] at hcc
        refine ⟨a50, ha50, ⟨by omega, by omega⟩, _, hc50, ar, har, ⟨by omega, by omega⟩, _, _, _, cell_grow G48 hcr0, ac, hac, ⟨by omega, by omega⟩, _, hcc, (never_c w48).mono ?_⟩
        rintro _ _ ⟨rfl, rfl⟩
        refine ⟨_, rfl, kept_same rfl, kept_same rfl, kept_same rfl, fun hfin => ⟨_, rfl, ⟨by omega, by omega⟩, Row.thereB r48 (by omega), fun w58 e58 => hk48 _ fun _ => ⟨_, by omega, j + 1, P'.set j true, by rw [wr (by omega)]; omega, hlt2, rfl, by rw [List.length_set]; exact hPl', fun j' hj' => ?_, Row.setB r48 e58, o48.trans' (only_setAdd e58)⟩⟩, fun hinf => hk48 _ fun _ => ⟨_, by omega, j + 1, P', by rw [wr (by omega)]; omega, hlt2, rfl, hPl', fun j' hj' => ?_, r48, o48⟩⟩
        · rw [gB_put (by omega)]
          by_cases e : j' = j
          · subst e
            have q0 := dT hfin
            have : at2 rows r (j' : Int) ≠ Inf := by intro q; rw [q] at q0; exact absurd q0 (by decide)
            rw [if_pos rfl]
            simp [this]
          · rw [if_neg e, hP' j' hj']
            have : decide (j' < j + 1) = decide (j' < j) := decide_eq_decide.2 (by omega)
            rw [this]
        · rw [hP' j' hj']
          by_cases e : j' = j
          · subst e
            have hinf := dF hinf
            have : at2 rows r (j' : Int) = Inf := by
              by_cases q : at2 rows r (j' : Int) = 4611686018427387904
              · exact q
              · have := at2_bd he q; omega
            simp [this]
          · have : decide (j' < j + 1) = decide (j' < j) := decide_eq_decide.2 (by omega)
            rw [this]
      · have hge2 := dF hge2
        rw [hP' j' hj', reach_take hlt, hr]
        have : decide (j' < j) = true := decide_eq_true (by omega)
        rw [this, Bool.true_and]
        rfl
      · by_cases e : k' = k
        · subst e; omega
        · exact hin k' hk' (by omega)
  have hge := dF hge
  have hkl : k = H.length := by omega
  subst hkl
  rw [List.take_length] at hP
  have G18 : Grow w w13 := G7.trans o18 fun b hb e => by omega
  refine ⟨fun n x y w' => ∃ t : Nat, y = (t : Int) ∧ t ≤ first rows ∧ n = first rows - t ∧ x = (H.length : Int) - (cntN (gB P) t : Int) ∧ w13 = w', ⟨_, 0, rfl, Nat.zero_le _, rfl, by simp [cntN], rfl⟩, ?_⟩
  rintro n _ _ _ y ⟨t, rfl, ht, rfl, rfl, rfl⟩
  have hct := cntN_le (gB P) t
  refine ⟨fun hlt k104 hk104 => ?_, fun hge => ?_⟩
  · have hlt : t < first rows := by have := dT hlt; omega
    refine ⟨_, rfl, ⟨by omega, by omega⟩, _, Row.bool rP (by omega), fun hb => hk104 _ _ fun _ => ⟨_, by omega, t + 1, by rw [wr (by omega)]; omega, hlt, rfl, ?_, rfl⟩, fun hb => hk104 _ _ fun _ => ⟨_, by omega, t + 1, by rw [wr (by omega)]; omega, hlt, rfl, ?_, rfl⟩⟩
    · rw [wr (by omega), cntN, if_pos hb]; push_cast; omega
    · rw [cntN, if_neg (by rw [hb]; exact Bool.false_ne_true)]; rfl
  · have htl : t = first rows := by have := dF hge; omega
    subst htl
    have hcnt : cntN (gB P) (first rows) = cntN (reachB rows H) (first rows) := Nat.le_antisymm (cntN_mono fun j hj q => by rw [← hP j hj]; exact q) (cntN_mono fun j hj q => by rw [hP j hj]; exact q)
    have hall : H.all (fun i => decide (0 ≤ i) && decide (i < rows.length)) = true := by
      rw [List.all_eq_true]
      intro x hx
      obtain ⟨k, hk, rfl⟩ := List.getElem_of_mem hx
      have := hin k hk hk
      simp; omega
    have hU : upB H = true := upB_step fun k hk => hup k hk (by omega)
    have hfin : hallB rows (first rows) H un = decide ((H.length : Int) - (cntN (gB P) (first rows) : Int) = un) := by
      unfold hallB
      rw [hall, hU, hcnt]; rfl
    rw [hfin]
    exact ⟨fun q => ⟨ret_bool q.symm, G18⟩, fun q => ⟨ret_bool q.symm, G18⟩⟩
end Go.Proofs.YtneklhmkiememaaDoor
