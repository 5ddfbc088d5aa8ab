/- Contract: the reference's Check. -/
import Derived.Test.YtneklhmkiememaaDoorZf
namespace Go.Proofs.YtneklhmkiememaaDoor
open Go Go.Nf

set_option maxHeartbeats 8000000 in
theorem Check_c (o o' oU oV oH : Option Addr) (c c' cU cV cH : Nat) (rows : List (List Int)) (m U V H : List Int) (hH : H.length ≤ 1000000) (w : World) {A A' : Nat → Prop} (h : Mat w A o rows) (h' : Nums w A' o' m) (hU : Nums w A' oU U) (hV : Nums w A' oV V) (hHn : Nums w A' oH H) :
    Calls Tryd.prog 16 #[.slice o rows.length c, .slice o' m.length c', certV oU U.length cU oV V.length cV oH H.length cH] w fun e w' => ∃ b, e = .returned (.bool b) ∧ (b = true ↔ costE rows m = 0 ∧ certP rows (first rows) m U V H) ∧ Grow w w' := by
  refine nf16 o rows.length c o' m.length c' oU U.length cU oV V.length cV oH H.length cH w _ fun w1 e1 => (cost_c o o' c c' rows m w1 (h.grow (only_alloc e1)) (h'.grow (only_alloc e1))).mono ?_
  have r1 := Row.new e1
  have g1 : Grow w w1 := only_alloc e1
  have lt1 := r1.lt
  rintro _ _ ⟨rfl, rfl⟩
  refine ⟨_, _, _, rfl, fun w8 e8 => ?_⟩
  have G8 : Grow w w8 := g1.trans' (only_drew e8)
  have r8 := r1.grow (only_drew e8)
  have no : ∀ {w' : World}, Grow w w' → ¬ (costE rows m = 0 ∧ certP rows (first rows) m U V H) → ∃ b, Ending.returned (.bool false) = .returned (.bool b) ∧ (b = true ↔ costE rows m = 0 ∧ certP rows (first rows) m U V H) ∧ Grow w w' := fun g hn => ⟨false, rfl, ⟨fun k => (by cases k), fun k => absurd k hn⟩, g⟩
  refine ⟨fun hne => no G8 fun q => nT hne q.1, fun hz => ?_⟩
  have hz := nF hz
  obtain ⟨he, hv⟩ := valid_of hz
  have hE := err0 he
  have hfl := first_le he
  have hml := hv.len
  have hrow : ∀ r ∈ rows, r.length = first rows := fun r hr => (hE.2.2 r hr).1
  refine ⟨_, _, _, r8.cell rfl, fun hl => no G8 fun q => absurd (range_of q.2.1).1 (by have := nT hl; omega), fun hl => ?_⟩
  have lU : U.length = rows.length := by have := nF hl; omega
  refine ⟨_, _, _, r8.cell rfl, (rwidth_c o c rows w8 (h.grow G8)).mono ?_⟩
  rintro _ _ ⟨rfl, rfl⟩
  refine ⟨_, rfl, kept_same rfl, fun hl => no G8 fun q => absurd (range_of q.2.1).2.1 (by have := nT hl; omega), fun hl => ?_⟩
  have lV : V.length = first rows := by have := nF hl; omega
  refine ⟨fun n x w' => ∃ i : Nat, x = (i : Int) ∧ i ≤ U.length ∧ n = U.length - i ∧ (∀ k, k < i → -72057594037927936 ≤ gI U k ∧ gI U k ≤ 1125899906842624 ∧ (gm m k < 0 → gI U k = 1125899906842624)) ∧ Grow w8 w', ⟨_, 0, rfl, Nat.zero_le _, rfl, fun k hk => (by omega), Only.refl _ _⟩, ?_⟩
  rintro n _ w29 x ⟨i, rfl, hi, rfl, hI, g29⟩
  have G29 := G8.trans' g29
  have r29 := r8.grow g29
  refine ⟨_, _, _, r29.cell rfl, fun hlt w36 e36 => ?_, fun hge => ?_⟩
  · have hlt : i < U.length := by have := dT hlt; omega
    have g36 := g29.trans' (only_drew e36)
    have G36 := G8.trans' g36
    have r36 := r8.grow g36
    obtain ⟨a, ha, hc⟩ := Nums.gI (hU.grow G36) hlt
    obtain ⟨a2, ha2, hc2⟩ := Nums.gm (h'.grow G36) (show i < m.length by omega)
    have bad : ∀ {P : Prop}, (costE rows m = 0 ∧ certP rows (first rows) m U V H → P) → ¬ P → ∀ {w' : World}, Grow w w' → ∃ b, Ending.returned (.bool false) = .returned (.bool b) ∧ (b = true ↔ costE rows m = 0 ∧ certP rows (first rows) m U V H) ∧ Grow w w' := fun f hn _ g => no g fun q => hn (f q)
    have rU : costE rows m = 0 ∧ certP rows (first rows) m U V H → -72057594037927936 ≤ gI U i ∧ gI U i ≤ 1125899906842624 := fun q => (range_of q.2.1).2.2.1 i (by omega)
    refine ⟨_, _, _, r36.cell rfl, a, ha, ⟨by omega, by omega⟩, _, hc, (top_c w36).mono ?_⟩
    rintro _ _ ⟨rfl, rfl⟩
    refine ⟨_, rfl, kept_same rfl, kept_same rfl, fun h1 => bad rU (by have := dT h1; omega) G36, fun h1 => ⟨_, _, _, r36.cell rfl, a, ha, ⟨by omega, by omega⟩, _, hc, fun h2 => bad rU (by have := dT h2; omega) G36, fun h2 => ⟨a2, ha2, ⟨by omega, by omega⟩, _, hc2, fun h3 => ?_, fun h3 => ?_⟩⟩⟩
    · have h1 := dF h1
      have h2 := dF h2
      have h3 := dT h3
      refine ⟨_, _, _, r36.cell rfl, a, ha, ⟨by omega, by omega⟩, _, hc, (top_c w36).mono ?_⟩
      rintro _ _ ⟨rfl, rfl⟩
      refine ⟨_, rfl, kept_same rfl, kept_same rfl, fun h4 => no G36 fun q => absurd (q.2.2.1.2.1 i (by omega) ?_) (nT h4), fun h4 => ⟨_, by omega, i + 1, by rw [wr (by omega)]; omega, hlt, rfl, fun k hk => ?_, g36⟩⟩
      · rcases hv.ok i (by omega) with k | k
        · exact k
        · omega
      · by_cases e : k = i
        · subst e; exact ⟨by omega, by omega, fun _ => nF h4⟩
        · exact hI k (by omega)
    · have h1 := dF h1
      have h2 := dF h2
      have h3 := dF h3
      refine ⟨_, by omega, i + 1, by rw [wr (by omega)]; omega, hlt, rfl, fun k hk => ?_, g36⟩
      by_cases e : k = i
      · subst e; exact ⟨by omega, by omega, fun q => absurd q h3⟩
      · exact hI k (by omega)
  have hge := dF hge
  have hiU : i = U.length := by omega
  subst hiU
  refine (who_c o o' c c' rows m he hv w29 (h.grow G29) (h'.grow G29)).mono ?_
  rintro _ w73 ⟨W, rfl, rW, hW, g73⟩
  have G73 := G29.trans' g73
  have r73 := r29.grow g73
  have lW := hW.len
  refine ⟨_, _, _, rfl, fun n x w' => ∃ j : Nat, x = (j : Int) ∧ j ≤ V.length ∧ n = V.length - j ∧ (∀ k, k < j → -72057594037927936 ≤ gI V k ∧ gI V k ≤ 0 ∧ (gI W k < 0 → gI V k = 0)) ∧ w73 = w', ⟨_, 0, rfl, Nat.zero_le _, rfl, fun k hk => (by omega), rfl⟩, ?_⟩
  rintro n _ _ x ⟨j, rfl, hj, rfl, hJ, rfl⟩
  refine ⟨_, _, _, r73.cell rfl, fun hlt => ?_, fun hge => ?_⟩
  · have hlt : j < V.length := by have := dT hlt; omega
    obtain ⟨a, ha, hc⟩ := Nums.gI (hV.grow G73) hlt
    have rV : costE rows m = 0 ∧ certP rows (first rows) m U V H → -72057594037927936 ≤ gI V j ∧ gI V j ≤ 0 := fun q => (range_of q.2.1).2.2.2 j (by omega)
    refine ⟨_, _, _, r73.cell rfl, a, ha, ⟨by omega, by omega⟩, _, hc, fun h1 => no G73 fun q => absurd (rV q) (by have := dT h1; omega), fun h1 => ⟨_, _, _, r73.cell rfl, a, ha, ⟨by omega, by omega⟩, _, hc, fun h2 => no G73 fun q => absurd (rV q) (by have := dT h2; omega), fun h2 => ⟨_, rfl, ⟨by omega, by omega⟩, _, Row.int rW (by omega), fun h3 => ?_, fun h3 => ?_⟩⟩⟩
    · have h1 := dF h1
      have h2 := dF h2
      have h3 := dT h3
      refine ⟨_, _, _, r73.cell rfl, a, ha, ⟨by omega, by omega⟩, _, hc, fun h4 => no G73 fun q => absurd (q.2.2.1.1 j (by omega) ?_) (nT h4), fun h4 => ⟨_, by omega, j + 1, by rw [wr (by omega)]; omega, hlt, rfl, fun k hk => ?_, rfl⟩⟩
      · rcases hW.at' j (by omega) with k | ⟨k, -, -, k3⟩
        · exact k.2
        · omega
      · by_cases e : k = j
        · subst e; exact ⟨by omega, by omega, fun _ => nF h4⟩
        · exact hJ k (by omega)
    · have h1 := dF h1
      have h2 := dF h2
      have h3 := dF h3
      refine ⟨_, by omega, j + 1, by rw [wr (by omega)]; omega, hlt, rfl, fun k hk => ?_, rfl⟩
      by_cases e : k = j
      · subst e; exact ⟨by omega, by omega, fun q => absurd q h3⟩
      · exact hJ k (by omega)
  have hge := dF hge
  have hjV : j = V.length := by omega
  subst hjV
  refine ⟨fun n x w' => ∃ i : Nat, x = (i : Int) ∧ i ≤ rows.length ∧ n = rows.length - i ∧ (∀ i' k, i' < i → k < first rows → at2 rows i' (k : Int) ≠ Inf → gI U i' + gI V k ≤ at2 rows i' (k : Int) ∧ (gm m i' = (k : Int) → gI U i' + gI V k = at2 rows i' (k : Int))) ∧ Grow w73 w', ⟨_, 0, rfl, Nat.zero_le _, rfl, fun i' k hk => (by omega), Only.refl _ _⟩, ?_⟩
  rintro n _ w120 x ⟨i, rfl, hi, rfl, hA, g120⟩
  refine ⟨fun hlt => ?_, fun hge => ?_⟩
  · have hlt : i < rows.length := by have := dT hlt; omega
    have hrl := hrow _ (List.getElem_mem hlt)
    obtain ⟨ar, oi, ci, har, hcr0, hn⟩ := h.get hlt
    refine ⟨fun n x w' => ∃ k : Nat, x = (k : Int) ∧ k ≤ first rows ∧ n = first rows - k ∧ (∀ k', k' < k → at2 rows i (k' : Int) ≠ Inf → gI U i + gI V k' ≤ at2 rows i (k' : Int) ∧ (gm m i = (k' : Int) → gI U i + gI V k' = at2 rows i (k' : Int))) ∧ Grow w73 w', ⟨_, 0, rfl, Nat.zero_le _, rfl, fun k hk => (by omega), g120⟩, ?_⟩
    rintro n _ w128 x ⟨k, rfl, hk, rfl, hB, g128⟩
    refine ⟨ar, har, ⟨by omega, by omega⟩, _, _, _, cell_grow (G73.trans' g128) hcr0, fun hlt2 k136 hk136 w142 e142 => ?_, fun hge2 => ⟨_, by omega, i + 1, by rw [wr (by omega)]; omega, hlt, rfl, fun i' k' hi' hk' hf => ?_, g128⟩⟩
    · have hlt2 : k < first rows := by have := dT hlt2; omega
      have hlt3 : k < rows[i].length := by omega
      have g142 := g128.trans' (only_drew e142)
      have G142 := G73.trans' g142
      obtain ⟨ac, hac, hcc⟩ := (hn.grow G142).get hlt3
      rw [← at2_get hlt hlt3] at hcc
      refine ⟨ar, har, ⟨by omega, by omega⟩, _, _, _, cell_grow G142 hcr0, ac, hac, ⟨by omega, by omega⟩, _, hcc, (never_c w142).mono ?_⟩
      rintro _ _ ⟨rfl, rfl⟩
      refine ⟨_, rfl, kept_same rfl, kept_same rfl, fun hinf => hk136 _ fun _ => ⟨_, by omega, k + 1, by rw [wr (by omega)]; omega, hlt2, rfl, fun k' hk' hf => ?_, g142⟩, fun hfin w155 e155 => ?_⟩
      · by_cases e : k' = k
        · subst e; exact absurd (dT hinf) hf
        · exact hB k' (by omega) hf
      have hfin := dF hfin
      have g155 := g142.trans' (only_drew e155)
      have G155 := G73.trans' g155
      have r155 := r73.grow g155
      obtain ⟨aU, haU, hcU⟩ := Nums.gI (hU.grow G155) (show i < U.length by omega)
      obtain ⟨aV, haV, hcV⟩ := Nums.gI (hV.grow G155) (show k < V.length by omega)
      obtain ⟨am, ham, hcm⟩ := Nums.gm (h'.grow G155) (show i < m.length by omega)
      obtain ⟨a2, ha2, hc2⟩ := (hn.grow G155).get hlt3
      rw [← at2_get hlt hlt3] at hc2
      have bU := hI i (by omega)
      have bV := hJ k (by omega)
      have hsum : IntKind.wrap .i64 (gI U i + gI V k) = gI U i + gI V k := wr (by omega)
      refine ⟨_, _, _, r155.cell rfl, aU, haU, ⟨by omega, by omega⟩, _, hcU, _, _, _, r155.cell rfl, aV, haV, ⟨by omega, by omega⟩, _, hcV, ar, har, ⟨by omega, by omega⟩, _, _, _, cell_grow G155 hcr0, a2, ha2, ⟨by omega, by omega⟩, _, hc2, ?_⟩
      rw [hsum]
      refine ⟨fun h1 => no G155 fun q => absurd (q.2.2.1.2.2 i k hlt hlt2 hfin).1 (by have := dT h1; omega), fun h1 => ⟨am, ham, ⟨by omega, by omega⟩, _, hcm, fun h2 => ⟨ar, har, ⟨by omega, by omega⟩, _, _, _, cell_grow G155 hcr0, a2, ha2, ⟨by omega, by omega⟩, _, hc2, fun h3 => no G155 fun q => absurd ((q.2.2.1.2.2 i k hlt hlt2 hfin).2 (dT h2)) (by have := nT h3; omega), fun h3 => hk136 _ fun _ => ⟨_, by omega, k + 1, by rw [wr (by omega)]; omega, hlt2, rfl, fun k' hk' hf => ?_, g155⟩⟩, fun h2 => hk136 _ fun _ => ⟨_, by omega, k + 1, by rw [wr (by omega)]; omega, hlt2, rfl, fun k' hk' hf => ?_, g155⟩⟩⟩
      · by_cases e : k' = k
        · subst e; have := dF h1; have := nF h3; exact ⟨by omega, fun _ => by omega⟩
        · exact hB k' (by omega) hf
      · by_cases e : k' = k
        · subst e; have := dF h1; exact ⟨by omega, fun q => absurd q (dF h2)⟩
        · exact hB k' (by omega) hf
    · have hge2 := dF hge2
      by_cases e : i' = i
      · subst e; exact hB k' (by omega) hf
      · exact hA i' k' (by omega) hk' hf
  have hge := dF hge
  have hiR : i = rows.length := by omega
  subst hiR
  have G120 := G73.trans' g120
  have r120 := r73.grow g120
  have hcb := cnt_bd m m.length
  have hN : costN rows m = cnt m rows.length := by unfold costN; rw [if_pos hz, hml]
  have e1 : IntKind.wrap .i64 (((rows.length : Nat) : Int) - costN rows m) = (rows.length : Int) - cnt m rows.length := by rw [hN, wr]; rw [hml] at hcb; omega
  have hp : priceB rows (first rows) U V = true := by
    unfold priceB
    simp only [Bool.and_eq_true, decide_eq_true_eq]
    refine ⟨⟨⟨lU, lV⟩, ?_⟩, ?_⟩
    · rw [List.all_eq_true]
      intro x hx
      obtain ⟨k, hk, rfl⟩ := List.getElem_of_mem hx
      have := hI k hk
      rw [gI_get hk] at this
      simp; omega
    · rw [List.all_eq_true]
      intro x hx
      obtain ⟨k, hk, rfl⟩ := List.getElem_of_mem hx
      have := hJ k hk
      rw [gI_get hk] at this
      simp; omega
  have hcB : costB rows (first rows) m U V := ⟨fun j hj hn => (hJ j (by omega)).2.2 (by
    rcases hW.at' j hj with k | ⟨k, k1, k2, -⟩
    · omega
    · exact absurd k2 (hn k k1)), fun i hi hneg => (hI i (by omega)).2.2 (by omega), hA⟩
  rw [e1]
  refine ⟨_, _, _, r120.cell rfl, (short_c o oH c cH _ rows H he hH w120 (h.grow G120) (hHn.grow G120)).mono ?_⟩
  rintro _ w194 ⟨rfl, g194⟩
  have G194 := G120.trans' g194
  exact ⟨_, rfl, fun q => ⟨true, rfl, ⟨fun _ => ⟨hz, hp, hcB, q⟩, fun _ => rfl⟩, G194⟩, fun q => no G194 fun k => by have := k.2.2.2; rw [q] at this; cases this⟩
end Go.Proofs.YtneklhmkiememaaDoor
