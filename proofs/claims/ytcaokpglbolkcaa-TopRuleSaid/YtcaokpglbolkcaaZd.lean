/- Contracts: what Verify looks at, and Verify. -/
import Derived.Test.YtcaokpglbolkcaaZc
namespace Go.Proofs.Ytcaokpglbolkcaa
open Go Go.Nf

abbrev certV (oU : Option Addr) (nU cU : Nat) (oV : Option Addr) (nV cV : Nat) (oH : Option Addr) (nH cH : Nat) : Value := .agg #[.slice oU nU cU, .slice oV nV cV, .slice oH nH cH]
theorem valid_of {rows : List (List Int)} {m : List Int} (h : costE rows m = 0) : errOf rows = 0 ∧ Valid rows (first rows) m := by
  unfold costE at h
  split at h
  · rename_i he
    split at h
    · rename_i hl
      split at h
      · rename_i ho
        have hE := err0 he
        unfold okAll at ho
        rw [List.all_eq_true] at ho
        have ok : ∀ i, i < rows.length → okA rows m i = true := fun i hi => ho i (by rw [List.mem_range]; omega)
        have fin : ∀ i, i < rows.length → gm m i ≠ -1 → 0 ≤ gm m i ∧ gm m i < first rows ∧ at2 rows i (gm m i) ≠ Inf ∧ ∀ k, k < i → gm m k ≠ gm m i := fun i hi hn => by
          obtain ⟨h1, h2, h3, h4⟩ := okA_split (ok i hi) hn
          rw [List.getElem?_eq_getElem hi] at h2
          have := (hE.2.2 _ (List.getElem_mem hi)).1
          exact ⟨h1, by simp at h2; omega, h3, h4⟩
        refine ⟨he, hl, fun i hi => ?_, fun i k hi hk hn e => ?_⟩
        · by_cases hn : gm m i = -1
          · exact .inl hn
          · have := fin i hi hn; exact .inr ⟨this.1, this.2.1, this.2.2.1⟩
        · rcases Nat.lt_trichotomy k i with q | q | q
          · exact absurd e ((fin i hi hn).2.2.2 k q)
          · exact q
          · exact absurd e.symm ((fin k hk (by rw [e]; exact hn)).2.2.2 i q)
      · cases h
    · cases h
  · rename_i he
    exact absurd h he
theorem all_step {p : Int → Bool} {l : List Int} {i : Nat} (h : i < l.length) (h1 : (l.take i).all p = true) (h2 : p l[i] = true) : (l.take (i + 1)).all p = true := all_take_succ h h1 h2
set_option maxHeartbeats 1000000 in
theorem inRange_c (oU oV oH : Option Addr) (cU cV nH cH : Nat) (U V : List Int) (rows : List (List Int)) (C : Nat) (hr : rows.length ≤ 1000) (hC : C ≤ 1000) (w : World) {A : Nat → Prop} (hU : Nums w A oU U) (hV : Nums w A oV V) :
    Calls Try.prog 36 #[certV oU U.length cU oV V.length cV oH nH cH, .int .i64 (rows.length : Int), .int .i64 (C : Int)] w fun e w' => e = .returned (.bool (priceB rows C U V)) ∧ Grow w w' := by
  refine nf36 oU U.length cU oV V.length cV oH nH cH rows.length C w _ fun w1 e1 => ?_
  have r1 := Row.new e1
  have g1 : Grow w w1 := only_alloc e1
  refine ⟨_, _, _, r1.cell rfl, fun h1 => ⟨ret_bool ?_, g1⟩, fun h1 => ⟨_, _, _, r1.cell rfl, fun h2 => ⟨ret_bool ?_, g1⟩, fun h2 => ⟨_, _, _, r1.cell rfl, ?_⟩⟩⟩
  · unfold priceB
    rw [decide_eq_false (by have := nT h1; omega : ¬ U.length = rows.length)]; rfl
  · unfold priceB
    rw [decide_eq_false (by have := nT h2; omega : ¬ V.length = C)]; simp
  have h1 : U.length = rows.length := by have := nF h1; omega
  have h2 : V.length = C := by have := nF h2; omega
  refine ⟨fun n x w' => ∃ i : Nat, x = (i : Int) ∧ i ≤ U.length ∧ n = U.length - i ∧ (U.take i).all (fun x => decide (-72057594037927936 ≤ x) && decide (x ≤ 1125899906842624)) = true ∧ w1 = w', ⟨_, 0, rfl, Nat.zero_le _, rfl, by simp, rfl⟩, ?_⟩
  rintro n _ _ x ⟨i, rfl, hi, rfl, hI, rfl⟩
  refine ⟨fun hlt => ?_, fun hge => ?_⟩
  · have hlt : i < U.length := by have := dT hlt; omega
    obtain ⟨a, ha, hc⟩ := (hU.grow g1).get hlt
    have bad : (decide (-72057594037927936 ≤ U[i]) && decide (U[i] ≤ 1125899906842624)) = false → Ending.returned (.bool false) = .returned (.bool (priceB rows C U V)) := fun hb => ret_bool (by
      unfold priceB
      rw [all_false (p := fun x => decide (-72057594037927936 ≤ x) && decide (x ≤ 1125899906842624)) hlt hb]; simp)
    refine ⟨a, ha, ⟨by omega, by omega⟩, _, hc, fun h3 => ⟨bad (by have := dT h3; rw [decide_eq_false (by omega)]; rfl), g1⟩, fun h3 => ⟨fun h4 => ⟨bad (by have := dT h4; rw [decide_eq_false (by omega : ¬ U[i] ≤ 1125899906842624)]; simp), g1⟩, fun h4 => ⟨_, by omega, i + 1, by rw [wr (by omega)]; omega, hlt, rfl, all_step hlt hI ?_, rfl⟩⟩⟩
    have := dF h3; have := dF h4
    rw [decide_eq_true (by omega), decide_eq_true (by omega)]; rfl
  have hge := dF hge
  have hiU : i = U.length := by omega
  rw [hiU, List.take_length] at hI
  refine ⟨_, _, _, r1.cell rfl, fun n x w' => ∃ i : Nat, x = (i : Int) ∧ i ≤ V.length ∧ n = V.length - i ∧ (V.take i).all (fun x => decide (-72057594037927936 ≤ x) && decide (x ≤ 0)) = true ∧ w1 = w', ⟨_, 0, rfl, Nat.zero_le _, rfl, by simp, rfl⟩, ?_⟩
  rintro n _ _ x ⟨j, rfl, hj, rfl, hJ, rfl⟩
  refine ⟨fun hlt => ?_, fun hge => ⟨ret_bool ?_, g1⟩⟩
  · have hlt : j < V.length := by have := dT hlt; omega
    obtain ⟨a, ha, hc⟩ := (hV.grow g1).get hlt
    have bad : (decide (-72057594037927936 ≤ V[j]) && decide (V[j] ≤ 0)) = false → Ending.returned (.bool false) = .returned (.bool (priceB rows C U V)) := fun hb => ret_bool (by
      unfold priceB
      rw [all_false (p := fun x => decide (-72057594037927936 ≤ x) && decide (x ≤ 0)) hlt hb]; simp)
    refine ⟨a, ha, ⟨by omega, by omega⟩, _, hc, fun h3 => ⟨bad (by have := dT h3; rw [decide_eq_false (by omega)]; rfl), g1⟩, fun h3 => ⟨fun h4 => ⟨bad (by have := dT h4; rw [decide_eq_false (by omega : ¬ V[j] ≤ 0)]; simp), g1⟩, fun h4 => ⟨_, by omega, j + 1, by rw [wr (by omega)]; omega, hlt, rfl, all_step hlt hJ ?_, rfl⟩⟩⟩
    have := dF h3; have := dF h4
    rw [decide_eq_true (by omega), decide_eq_true (by omega)]; rfl
  · have hge := dF hge
    have hjV : j = V.length := by omega
    rw [hjV, List.take_length] at hJ
    unfold priceB
    rw [hI, hJ, decide_eq_true h1, decide_eq_true h2]; rfl
/-- a pair that the prices allow -/
def pairP (rows : List (List Int)) (m U V : List Int) (i j : Nat) : Prop := at2 rows i (j : Int) ≠ Inf → gI U i + gI V j ≤ at2 rows i (j : Int) ∧ (gm m i = (j : Int) → gI U i + gI V j = at2 rows i (j : Int))
theorem Nums.gI {w : World} {A : Nat → Prop} {o : Option Addr} {xs : List Int} (h : Nums w A o xs) {j : Nat} (hj : j < xs.length) : ∃ a, o = some a ∧ w.cell? (a.add ((j : Int).toNat * 1)) = some (.int .i64 (Go.Proofs.Ytcaokpglbolkcaa.gI xs j)) := by
  rw [gI_get hj]; exact h.get hj
set_option maxHeartbeats 8000000 in
theorem provesCost_c (o o' oU oV oH : Option Addr) (c c' cU cV nH cH : Nat) (rows : List (List Int)) (m U V : List Int) (he : errOf rows = 0) (hv : Valid rows (first rows) m) (hp : priceB rows (first rows) U V = true) (w : World) {A : Nat → Prop} (h : Mat w A o rows) (h' : Nums w A o' m) (hU : Nums w A oU U) (hV : Nums w A oV V) :
    Calls Try.prog 38 #[.slice o rows.length c, .slice o' m.length c', certV oU U.length cU oV V.length cV oH nH cH] w fun e w' => ∃ b, e = .returned (.bool b) ∧ (b = true ↔ costB rows (first rows) m U V) ∧ Grow w w' := by
  have hE := err0 he
  have hfl := first_le he
  have hml := hv.len
  have hrow : ∀ r ∈ rows, r.length = first rows := fun r hr => (hE.2.2 r hr).1
  obtain ⟨lU, lV, bU, bV⟩ := range_of hp
  refine nf38 o rows.length c o' m.length c' oU U.length cU oV V.length cV oH nH cH w _ fun w1 e1 => (width_c o c rows w1 (h.grow (only_alloc e1))).mono ?_
  have r1 := Row.new e1
  have g1 : Grow w w1 := only_alloc e1
  rintro _ _ ⟨rfl, rfl⟩
  refine ⟨_, rfl, (rowsOf_c o' c' (first rows) rows.length rows m rfl hml (by omega) (fun i hi => by
    rcases hv.ok i hi with k | k
    · omega
    · exact k.2.1) (by omega) w1 (h'.grow g1)).mono ?_⟩
  rintro _ w7 ⟨W, rfl, rW7, hW, g7⟩
  have G7 := g1.trans' g7
  have r7 := r1.grow g7
  have lW := hW.len
  have no : ∀ {w' : World}, Grow w w' → ¬ costB rows (first rows) m U V → ∃ b, Ending.returned (.bool false) = .returned (.bool b) ∧ (b = true ↔ costB rows (first rows) m U V) ∧ Grow w w' := fun g hn => ⟨false, rfl, ⟨fun k => (by cases k), fun k => absurd k hn⟩, g⟩
  refine ⟨_, _, _, rfl, fun n x w' => ∃ j : Nat, x = (j : Int) ∧ j ≤ first rows ∧ n = first rows - j ∧ (∀ j', j' < j → gI W j' = -1 → gI V j' = 0) ∧ w7 = w', ⟨_, 0, rfl, Nat.zero_le _, rfl, fun j' hj => (by omega), rfl⟩, ?_⟩
  rintro n _ _ x ⟨j, rfl, hj, rfl, hJ, rfl⟩
  refine ⟨fun hlt => ?_, fun hge => ?_⟩
  · have hlt : j < first rows := by have := dT hlt; omega
    refine ⟨_, rfl, ⟨by omega, by omega⟩, _, Row.int rW7 (by omega), fun hneg => ?_, fun hnn => ⟨_, by omega, j + 1, by rw [wr (by omega)]; omega, hlt, rfl, fun j' hj' e => ?_, rfl⟩⟩
    · have hneg := dT hneg
      obtain ⟨a, ha, hc⟩ := Nums.gI (hV.grow G7) (show j < V.length by omega)
      have hfree : gI W j = -1 ∧ ∀ i, i < rows.length → gm m i ≠ (j : Int) := by
        rcases hW.at' j hlt with q | ⟨k, -, -, k3⟩
        · exact q
        · omega
      refine ⟨_, _, _, r7.cell rfl, a, ha, ⟨by omega, by omega⟩, _, hc, fun hz => no G7 fun q => absurd (q.1 j hlt hfree.2) (nT hz), fun hz => ⟨_, by omega, j + 1, by rw [wr (by omega)]; omega, hlt, rfl, fun j' hj' e => ?_, rfl⟩⟩
      by_cases e2 : j' = j
      · subst e2; exact nF hz
      · exact hJ j' (by omega) e
    · have hnn := dF hnn
      by_cases e2 : j' = j
      · subst e2; omega
      · exact hJ j' (by omega) e
  have hge := dF hge
  have hjC : j = first rows := by omega
  subst hjC
  have free : ∀ j, j < first rows → (∀ i, i < rows.length → gm m i ≠ (j : Int)) → gI V j = 0 := fun j hj hn => by
    refine hJ j hj ?_
    rcases hW.at' j hj with q | ⟨k, k1, k2, -⟩
    · exact q.1
    · exact absurd k2 (hn k k1)
  refine ⟨fun n x w' => ∃ i : Nat, x = (i : Int) ∧ i ≤ rows.length ∧ n = rows.length - i ∧ (∀ i', i' < i → (gm m i' = -1 → gI U i' = 1125899906842624) ∧ ∀ j, j < first rows → pairP rows m U V i' j) ∧ Grow w w' ∧ Row w' (hs w) 57 [.slice oU U.length cU, .slice oV V.length cV, .slice oH nH cH], ⟨_, 0, rfl, Nat.zero_le _, rfl, fun i' hi => (by omega), G7, r7⟩, ?_⟩
  rintro n _ w37 x ⟨i, rfl, hi, rfl, hI, G37, r37⟩
  refine ⟨fun hlt => ?_, fun hge => ?_⟩
  rotate_left
  · have hil : i = rows.length := by have := dF hge; omega
    subst hil
    exact ⟨true, rfl, ⟨fun _ => ⟨free, fun i hi e => (hI i hi).1 e, fun i j hi hj hf => (hI i hi).2 j hj hf⟩, fun _ => rfl⟩, G37⟩
  have hi : i < rows.length := by have := dT hlt; omega
  obtain ⟨ar, oi, ci, har, hcr0, hn⟩ := h.get hi
  have hcr := cell_grow G37 hcr0
  have hrl := hrow _ (List.getElem_mem hi)
  obtain ⟨am, ham, hcm0⟩ := Nums.gm h' (show i < m.length by omega)
  have hcm := cell_grow G37 hcm0
  refine ⟨ar, har, ⟨by omega, by omega⟩, _, _, _, hcr, am, ham, ⟨by omega, by omega⟩, _, hcm, fun hneg => ?_, fun hnn => ?_⟩
  · have hneg := dT hneg
    have hm1 : gm m i = -1 := by
      rcases hv.ok i hi with k | k <;> omega
    obtain ⟨aU, haU, hcU⟩ := Nums.gI (hU.grow G37) (show i < U.length by omega)
    refine ⟨_, _, _, r37.cell rfl, aU, haU, ⟨by omega, by omega⟩, _, hcU, fun hz => no G37 fun q => absurd (q.2.1 i hi hm1) (nT hz), fun hz => ?_⟩
    have hrow1 : gm m i = -1 → gI U i = 1125899906842624 := fun _ => nF hz
    refine ⟨fun n x w' => ∃ j : Nat, x = (j : Int) ∧ j ≤ rows[i].length ∧ n = rows[i].length - j ∧ (∀ j', j' < j → pairP rows m U V i j') ∧ Grow w w' ∧ Row w' (hs w) 57 [.slice oU U.length cU, .slice oV V.length cV, .slice oH nH cH], ⟨_, 0, rfl, Nat.zero_le _, rfl, fun j' hj => (by omega), G37, r37⟩, ?_⟩
    rintro n _ w59 x ⟨j, rfl, hj, rfl, hJ2, G59, r59⟩
    refine ⟨fun hlt2 => ?_, fun hge2 => ⟨_, by omega, i + 1, by rw [wr (by omega)]; omega, hi, rfl, fun i' hi' => ?_, G59, r59⟩⟩
    rotate_left
    · have hjl := dF hge2
      by_cases e : i' = i
      · subst e
        exact ⟨hrow1, fun j hj => hJ2 j (by omega)⟩
      · exact hI i' (by omega)
    have hlt2 : j < rows[i].length := by have := dT hlt2; omega
    obtain ⟨ac, hac, hcc⟩ := (hn.grow G59).get hlt2
    rw [← at2_get hi hlt2] at hcc
    refine ⟨ac, hac, ⟨by omega, by omega⟩, _, hcc, fun w65 e65 => ?_⟩
    have g65 : Grow w59 w65 := only_drew e65
    have G65 := G59.trans' g65
    have r65 := r59.grow g65
    obtain ⟨aU, haU, hcU⟩ := Nums.gI (hU.grow G65) (show i < U.length by omega)
    obtain ⟨aV, haV, hcV⟩ := Nums.gI (hV.grow G65) (show j < V.length by omega)
    have q1 := bU i hi
    have q2 := bV j (by omega)
    refine ⟨_, _, _, r65.cell rfl, aU, haU, ⟨by omega, by omega⟩, _, hcU, _, _, _, r65.cell rfl, aV, haV, ⟨by omega, by omega⟩, _, hcV, ?_⟩
    rw [wr (x := gI U i + gI V j) (by omega)]
    have go : pairP rows m U V i j → ∃ n', n' < rows[i].length - j ∧ ∃ j_1 : Nat, IntKind.wrap .i64 ((j : Int) + 1) = (j_1 : Int) ∧ j_1 ≤ rows[i].length ∧ n' = rows[i].length - j_1 ∧ (∀ j', j' < j_1 → pairP rows m U V i j') ∧ Grow w w65 ∧ Row w65 (hs w) 57 [.slice oU U.length cU, .slice oV V.length cV, .slice oH nH cH] := fun hp' =>
      ⟨_, by omega, j + 1, by rw [wr (by omega)]; omega, hlt2, rfl, fun j' hj' => by
        by_cases e : j' = j
        · subst e; exact hp'
        · exact hJ2 j' (by omega), G65, r65⟩
    refine ⟨fun hfin => ⟨fun hbig => no G65 fun q => ?_, fun hsm => ?_⟩, fun hinf => go fun k => absurd (nF hinf) k⟩
    · have := (q.2.2 i j hi (by omega) (nT hfin)).1
      have := dT hbig; omega
    have hsm := dF hsm
    obtain ⟨am2, ham2, hcm2⟩ := Nums.gm (h'.grow G65) (show i < m.length by omega)
    refine ⟨am2, ham2, ⟨by omega, by omega⟩, _, hcm2, fun heq => ⟨fun hne => no G65 fun q => ?_, fun he2 => go fun _ => ⟨by omega, fun _ => (nF he2).symm⟩⟩, fun hneq => go fun _ => ⟨by omega, fun e => absurd e (dF hneq)⟩⟩
    have := (q.2.2 i j hi (by omega) (nT hfin)).2 (dT heq)
    exact absurd this.symm (nT hne)
  · have hnn := dF hnn
    have hrow1 : gm m i = -1 → gI U i = 1125899906842624 := fun e => by omega
    refine ⟨fun n x w' => ∃ j : Nat, x = (j : Int) ∧ j ≤ rows[i].length ∧ n = rows[i].length - j ∧ (∀ j', j' < j → pairP rows m U V i j') ∧ Grow w w' ∧ Row w' (hs w) 57 [.slice oU U.length cU, .slice oV V.length cV, .slice oH nH cH], ⟨_, 0, rfl, Nat.zero_le _, rfl, fun j' hj => (by omega), G37, r37⟩, ?_⟩
    rintro n _ w59 x ⟨j, rfl, hj, rfl, hJ2, G59, r59⟩
    refine ⟨fun hlt2 => ?_, fun hge2 => ⟨_, by omega, i + 1, by rw [wr (by omega)]; omega, hi, rfl, fun i' hi' => ?_, G59, r59⟩⟩
    rotate_left
    · have hjl := dF hge2
      by_cases e : i' = i
      · subst e
        exact ⟨hrow1, fun j hj => hJ2 j (by omega)⟩
      · exact hI i' (by omega)
    have hlt2 : j < rows[i].length := by have := dT hlt2; omega
    obtain ⟨ac, hac, hcc⟩ := (hn.grow G59).get hlt2
    rw [← at2_get hi hlt2] at hcc
    refine ⟨ac, hac, ⟨by omega, by omega⟩, _, hcc, fun w65 e65 => ?_⟩
    have g65 : Grow w59 w65 := only_drew e65
    have G65 := G59.trans' g65
    have r65 := r59.grow g65
    obtain ⟨aU, haU, hcU⟩ := Nums.gI (hU.grow G65) (show i < U.length by omega)
    obtain ⟨aV, haV, hcV⟩ := Nums.gI (hV.grow G65) (show j < V.length by omega)
    have q1 := bU i hi
    have q2 := bV j (by omega)
    refine ⟨_, _, _, r65.cell rfl, aU, haU, ⟨by omega, by omega⟩, _, hcU, _, _, _, r65.cell rfl, aV, haV, ⟨by omega, by omega⟩, _, hcV, ?_⟩
    rw [wr (x := gI U i + gI V j) (by omega)]
    have go : pairP rows m U V i j → ∃ n', n' < rows[i].length - j ∧ ∃ j_1 : Nat, IntKind.wrap .i64 ((j : Int) + 1) = (j_1 : Int) ∧ j_1 ≤ rows[i].length ∧ n' = rows[i].length - j_1 ∧ (∀ j', j' < j_1 → pairP rows m U V i j') ∧ Grow w w65 ∧ Row w65 (hs w) 57 [.slice oU U.length cU, .slice oV V.length cV, .slice oH nH cH] := fun hp' =>
      ⟨_, by omega, j + 1, by rw [wr (by omega)]; omega, hlt2, rfl, fun j' hj' => by
        by_cases e : j' = j
        · subst e; exact hp'
        · exact hJ2 j' (by omega), G65, r65⟩
    refine ⟨fun hfin => ⟨fun hbig => no G65 fun q => ?_, fun hsm => ?_⟩, fun hinf => go fun k => absurd (nF hinf) k⟩
    · have := (q.2.2 i j hi (by omega) (nT hfin)).1
      have := dT hbig; omega
    have hsm := dF hsm
    obtain ⟨am2, ham2, hcm2⟩ := Nums.gm (h'.grow G65) (show i < m.length by omega)
    refine ⟨am2, ham2, ⟨by omega, by omega⟩, _, hcm2, fun heq => ⟨fun hne => no G65 fun q => ?_, fun he2 => go fun _ => ⟨by omega, fun _ => (nF he2).symm⟩⟩, fun hneq => go fun _ => ⟨by omega, fun e => absurd e (dF hneq)⟩⟩
    have := (q.2.2 i j hi (by omega) (nT hfin)).2 (dT heq)
    exact absurd this.symm (nT hne)
theorem upB_step : ∀ {l : List Int}, (∀ k (h : k + 1 < l.length), l[k] < l[k + 1]) → upB l = true
  | [], _ => rfl
  | [_], _ => rfl
  | a :: b :: l, h => by
    rw [upB, Bool.and_eq_true, decide_eq_true_eq]
    refine ⟨h 0 (by simp), upB_step fun k hk => ?_⟩
    have := h (k + 1) (by simp at hk ⊢; omega)
    simpa using this
theorem reach_take {rows : List (List Int)} {H : List Int} {k j : Nat} (hk : k < H.length) : reachB rows (H.take (k + 1)) j = (reachB rows (H.take k) j || !decide (at2 rows H[k].toNat (j : Int) = Inf)) := by
  unfold reachB
  rw [List.take_succ_eq_append_getElem hk, List.any_append]
  simp
set_option maxHeartbeats 8000000 in
theorem provesCount_c (o oU oV oH : Option Addr) (c nU cU nV cV cH : Nat) (un : Int) (rows : List (List Int)) (H : List Int) (he : errOf rows = 0) (hH : H.length ≤ 1000000) (w : World) {A : Nat → Prop} (h : Mat w A o rows) (hHn : Nums w A oH H) :
    Calls Try.prog 39 #[.slice o rows.length c, .int .i64 un, certV oU nU cU oV nV cV oH H.length cH] w fun e w' => e = .returned (.bool (hallB rows (first rows) H un)) ∧ Grow w w' := by
  have hE := err0 he
  have hfl := first_le he
  have hrow : ∀ r ∈ rows, r.length = first rows := fun r hr => (hE.2.2 r hr).1
  refine nf39 o rows.length c un oU nU cU oV nV cV oH H.length cH w _ fun w1 e1 => (width_c o c rows w1 (h.grow (only_alloc e1))).mono ?_
  have r1 := Row.new e1
  have g1 : Grow w w1 := only_alloc e1
  have z1 := hs_alloc e1
  rintro _ _ ⟨rfl, rfl⟩
  refine ⟨_, rfl, make_bools (by omega) fun w7 r7 g7 l7 => ⟨_, _, _, rfl, ?_⟩⟩
  have G7 := g1.trans' g7
  have p7 := r1.grow g7
  have lb := r7.lt
  generalize hbr : hs w1 = br at *
  have no : hallB rows (first rows) H un ≠ true → Ending.returned (.bool false) = .returned (.bool (hallB rows (first rows) H un)) := fun hn => ret_bool (by cases hb : hallB rows (first rows) H un with | true => exact absurd hb hn | false => rfl)
  have yes : hallB rows (first rows) H un = true → (∀ k (hk : k < H.length), 0 ≤ H[k] ∧ H[k] < rows.length) ∧ upB H = true := fun hb => by
    unfold hallB at hb
    rw [Bool.and_eq_true, Bool.and_eq_true] at hb
    refine ⟨fun k hk => ?_, hb.1.2⟩
    have := List.all_eq_true.1 hb.1.1 _ (List.getElem_mem hk)
    simpa using this
  refine ⟨_, _, _, p7.cell rfl, fun n x w' => ∃ (k : Nat) (P : List Bool), x = (k : Int) ∧ k ≤ H.length ∧ n = H.length - k ∧ P.length = first rows ∧ (∀ j, j < first rows → gB P j = reachB rows (H.take k) j) ∧ (∀ k' (hk' : k' < H.length), k' < k → 0 ≤ H[k'] ∧ H[k'] < rows.length) ∧ (∀ k' (hk' : k' + 1 < H.length), k' + 1 < k → H[k'] < H[k' + 1]) ∧ Row w' br 4 (boolsV P) ∧ Only (fun b => b = br) w7 w',
    ⟨_, 0, _, rfl, Nat.zero_le _, rfl, List.length_replicate, fun j _ => (by rw [gB_rep]; rfl), fun k' _ hk => (by omega), fun k' _ hk => (by omega), r7, Only.refl _ _⟩, ?_⟩
  rintro n _ w18 x ⟨k, P, rfl, hk, rfl, hPl, hP, hin, hup, rP, o18⟩
  have G18 : Grow w w18 := G7.trans o18 fun b hb e => by omega
  have p18 := p7.keep o18 (by omega)
  refine ⟨fun hlt => ?_, fun hge => ?_⟩
  · have hlt : k < H.length := by have := dT hlt; omega
    obtain ⟨a, ha, hc⟩ := (hHn.grow G18).get hlt
    refine ⟨a, ha, ⟨by omega, by omega⟩, _, hc, fun h1 => ⟨no fun hb => by have := (yes hb).1 k hlt; have := dT h1; omega, G18⟩, fun h1 => ⟨fun h2 => ⟨no fun hb => by have := (yes hb).1 k hlt; have := dT h2; omega, G18⟩, fun h2 => ?_⟩⟩
    have h1 := dF h1
    have h2 := dF h2
    obtain ⟨r, hr⟩ := Int.eq_ofNat_of_zero_le (show 0 ≤ H[k] by omega)
    have hrR : r < rows.length := by omega
    have hrl := hrow _ (List.getElem_mem hrR)
    obtain ⟨ar, oi, ci, har, hcr0, hn⟩ := h.get hrR
    have hcr := cell_grow G18 hcr0
    refine ⟨fun hpos => ?_, fun hpos => ?_⟩
    · have hpos := dT hpos
      have e1 : IntKind.wrap .i64 ((k : Int) - 1) = ((k - 1 : Nat) : Int) := by rw [wr (by omega)]; omega
      rw [e1]
      obtain ⟨a2, ha2, hc2⟩ := (hHn.grow G18).get (show k - 1 < H.length by omega)
      refine ⟨_, _, _, p18.cell rfl, a2, ha2, ⟨by omega, by omega⟩, _, hc2, fun h3 => ⟨no fun hb => ?_, G18⟩, fun h3 => ?_⟩
      · have := upB_lt (yes hb).2 (list_get (show k - 1 < H.length by omega)) (list_get hlt) (by omega)
        have := dT h3; omega
      have h3 := dF h3
      have hup' : ∀ k' (hk' : k' + 1 < H.length), k' + 1 < k + 1 → H[k'] < H[k' + 1] := fun k' hk' hlt' => by
        by_cases e : k' + 1 = k
        · subst e
          simp only [Nat.add_sub_cancel] at h3
          omega
        · exact hup k' hk' (by omega)
      rw [hr]
      refine ⟨ar, har, ⟨by omega, by omega⟩, _, _, _, hcr, fun n x w' => ∃ (j : Nat) (P' : List Bool), x = (j : Int) ∧ j ≤ rows[r].length ∧ n = rows[r].length - j ∧ P'.length = first rows ∧ (∀ j', j' < first rows → gB P' j' = (reachB rows (H.take k) j' || (decide (j' < j) && !decide (at2 rows r (j' : Int) = Inf)))) ∧ Row w' br 4 (boolsV P') ∧ Only (fun b => b = br) w7 w', ⟨_, 0, P, rfl, Nat.zero_le _, rfl, hPl, fun j' hj' => (by rw [hP j' hj']; simp), rP, o18⟩, ?_⟩
      rintro n _ w44 x ⟨j, P', rfl, hj, rfl, hPl', hP', rP', o44⟩
      have G44 : Grow w w44 := G7.trans o44 fun b hb e => by omega
      refine ⟨fun hlt2 k48 hk48 => ?_, fun hge2 => ⟨_, by omega, k + 1, P', by rw [wr (by omega)]; omega, hlt, rfl, hPl', fun j' hj' => ?_, fun k' hk' hlt' => ?_, hup', rP', o44⟩⟩
      · have hlt2 : j < rows[r].length := by have := dT hlt2; omega
        obtain ⟨ac, hac, hcc⟩ := (hn.grow G44).get hlt2
        rw [← at2_get hrR hlt2] at hcc
        refine ⟨ac, hac, ⟨by omega, by omega⟩, _, hcc, fun hfin => ⟨_, rfl, ⟨by omega, by omega⟩, Row.thereB rP' (by omega), fun w58 e58 => hk48 _ fun _ => ⟨_, by omega, j + 1, P'.set j true, by rw [wr (by omega)]; omega, hlt2, rfl, by rw [List.length_set]; exact hPl', fun j' hj' => ?_, Row.setB rP' e58, o44.trans' (only_setAdd e58)⟩⟩, fun hinf => hk48 _ fun _ => ⟨_, by omega, j + 1, P', by rw [wr (by omega)]; omega, hlt2, rfl, hPl', fun j' hj' => ?_, rP', o44⟩⟩
        · rw [gB_put (by omega)]
          by_cases e : j' = j
          · subst e
            have := nT hfin
            rw [if_pos rfl]
            simp [this]
          · rw [if_neg e, hP' j' hj']
            have : decide (j' < j + 1) = decide (j' < j) := decide_eq_decide.2 (by omega)
            rw [this]
        · rw [hP' j' hj']
          by_cases e : j' = j
          · subst e
            have := nF hinf
            simp [this]
          · have : decide (j' < j + 1) = decide (j' < j) := decide_eq_decide.2 (by omega)
            rw [this]
      · have hge2 := dF hge2
        rw [hP' j' hj', reach_take hlt, hr]
        have : decide (j' < j) = true := decide_eq_true (by omega)
        rw [this, Bool.true_and]
        rfl
      · by_cases e : k' = k
        · subst e; omega
        · exact hin k' hk' (by omega)
    · have hpos := dF hpos
      have hup' : ∀ k' (hk' : k' + 1 < H.length), k' + 1 < k + 1 → H[k'] < H[k' + 1] := fun k' hk' hlt' => by omega
      rw [hr]
      refine ⟨ar, har, ⟨by omega, by omega⟩, _, _, _, hcr, fun n x w' => ∃ (j : Nat) (P' : List Bool), x = (j : Int) ∧ j ≤ rows[r].length ∧ n = rows[r].length - j ∧ P'.length = first rows ∧ (∀ j', j' < first rows → gB P' j' = (reachB rows (H.take k) j' || (decide (j' < j) && !decide (at2 rows r (j' : Int) = Inf)))) ∧ Row w' br 4 (boolsV P') ∧ Only (fun b => b = br) w7 w', ⟨_, 0, P, rfl, Nat.zero_le _, rfl, hPl, fun j' hj' => (by rw [hP j' hj']; simp), rP, o18⟩, ?_⟩
      rintro n _ w44 x ⟨j, P', rfl, hj, rfl, hPl', hP', rP', o44⟩
      have G44 : Grow w w44 := G7.trans o44 fun b hb e => by omega
      refine ⟨fun hlt2 k48 hk48 => ?_, fun hge2 => ⟨_, by omega, k + 1, P', by rw [wr (by omega)]; omega, hlt, rfl, hPl', fun j' hj' => ?_, fun k' hk' hlt' => ?_, hup', rP', o44⟩⟩
      · have hlt2 : j < rows[r].length := by have := dT hlt2; omega
        obtain ⟨ac, hac, hcc⟩ := (hn.grow G44).get hlt2
        rw [← at2_get hrR hlt2] at hcc
        refine ⟨ac, hac, ⟨by omega, by omega⟩, _, hcc, fun hfin => ⟨_, rfl, ⟨by omega, by omega⟩, Row.thereB rP' (by omega), fun w58 e58 => hk48 _ fun _ => ⟨_, by omega, j + 1, P'.set j true, by rw [wr (by omega)]; omega, hlt2, rfl, by rw [List.length_set]; exact hPl', fun j' hj' => ?_, Row.setB rP' e58, o44.trans' (only_setAdd e58)⟩⟩, fun hinf => hk48 _ fun _ => ⟨_, by omega, j + 1, P', by rw [wr (by omega)]; omega, hlt2, rfl, hPl', fun j' hj' => ?_, rP', o44⟩⟩
        · rw [gB_put (by omega)]
          by_cases e : j' = j
          · subst e
            have := nT hfin
            rw [if_pos rfl]
            simp [this]
          · rw [if_neg e, hP' j' hj']
            have : decide (j' < j + 1) = decide (j' < j) := decide_eq_decide.2 (by omega)
            rw [this]
        · rw [hP' j' hj']
          by_cases e : j' = j
          · subst e
            have := nF hinf
            simp [this]
          · have : decide (j' < j + 1) = decide (j' < j) := decide_eq_decide.2 (by omega)
            rw [this]
      · have hge2 := dF hge2
        rw [hP' j' hj', reach_take hlt, hr]
        have : decide (j' < j) = true := decide_eq_true (by omega)
        rw [this, Bool.true_and]
        rfl
      · by_cases e : k' = k
        · subst e; omega
        · exact hin k' hk' (by omega)
  have hge := dF hge
  have hkl : k = H.length := by omega
  subst hkl
  rw [List.take_length] at hP
  refine ⟨_, _, _, p18.cell rfl, fun n x y w' => ∃ t : Nat, y = (t : Int) ∧ t ≤ first rows ∧ n = first rows - t ∧ x = (H.length : Int) - (cntN (gB P) t : Int) ∧ w18 = w', ⟨_, 0, rfl, Nat.zero_le _, rfl, by simp [cntN], rfl⟩, ?_⟩
  rintro n _ _ _ y ⟨t, rfl, ht, rfl, rfl, rfl⟩
  have hct := cntN_le (gB P) t
  refine ⟨fun hlt k104 hk104 => ?_, fun hge => ?_⟩
  · have hlt : t < first rows := by have := dT hlt; omega
    refine ⟨_, rfl, ⟨by omega, by omega⟩, _, Row.bool rP (by omega), fun hb => hk104 _ _ fun _ => ⟨_, by omega, t + 1, by rw [wr (by omega)]; omega, hlt, rfl, ?_, rfl⟩, fun hb => hk104 _ _ fun _ => ⟨_, by omega, t + 1, by rw [wr (by omega)]; omega, hlt, rfl, ?_, rfl⟩⟩
    · rw [wr (by omega), cntN, if_pos hb]; push_cast; omega
    · rw [cntN, if_neg (by rw [hb]; exact Bool.false_ne_true)]; rfl
  · have htl : t = first rows := by have := dF hge; omega
    subst htl
    have hcnt : cntN (gB P) (first rows) = cntN (reachB rows H) (first rows) := Nat.le_antisymm (cntN_mono fun j hj q => by rw [← hP j hj]; exact q) (cntN_mono fun j hj q => by rw [hP j hj]; exact q)
    have hall : H.all (fun i => decide (0 ≤ i) && decide (i < rows.length)) = true := by
      rw [List.all_eq_true]
      intro x hx
      obtain ⟨k, hk, rfl⟩ := List.getElem_of_mem hx
      have := hin k hk hk
      simp; omega
    have hU : upB H = true := upB_step fun k hk => hup k hk (by omega)
    have hfin : hallB rows (first rows) H un = decide ((H.length : Int) - (cntN (gB P) (first rows) : Int) = un) := by
      unfold hallB
      rw [hall, hU, hcnt]; rfl
    rw [hfin]
    exact ⟨fun q => ⟨ret_bool q.symm, G18⟩, fun q => ⟨ret_bool q.symm, G18⟩⟩
set_option maxHeartbeats 2000000 in
theorem Verify_c (o o' oU oV oH : Option Addr) (c c' cU cV cH : Nat) (rows : List (List Int)) (m U V H : List Int) (hH : H.length ≤ 1000000) (w : World) {A : Nat → Prop} (h : Mat w A o rows) (h' : Nums w A o' m) (hU : Nums w A oU U) (hV : Nums w A oV V) (hHn : Nums w A oH H) :
    Calls Try.prog 16 #[.slice o rows.length c, .slice o' m.length c', certV oU U.length cU oV V.length cV oH H.length cH] w fun e w' => ∃ b, e = .returned (.bool b) ∧ (b = true ↔ costE rows m = 0 ∧ certP rows (first rows) m U V H) ∧ Grow w w' := by
  refine nf16 o rows.length c o' m.length c' oU U.length cU oV V.length cV oH H.length cH w _ fun w1 e1 => (Cost_c o o' c c' rows m w1 (h.grow (only_alloc e1)) (h'.grow (only_alloc e1))).mono ?_
  have r1 := Row.new e1
  have g1 : Grow w w1 := only_alloc e1
  rintro _ w4 ⟨rfl, g4⟩
  refine ⟨_, _, _, rfl, fun w8 e8 => ?_⟩
  have g8 : Grow w4 w8 := only_drew e8
  have G8 := (g1.trans' g4).trans' g8
  have r8 := (r1.grow g4).grow g8
  refine ⟨fun hne => ⟨false, rfl, ⟨fun k => (by cases k), fun k => absurd k.1 (nT hne)⟩, G8⟩, fun hz => ?_⟩
  have hz := nF hz
  obtain ⟨he, hv⟩ := valid_of hz
  have hfl := first_le he
  have hR := (err0 he).1
  have hml := hv.len
  refine ⟨_, _, _, r8.cell rfl, _, _, _, r8.cell rfl, _, _, _, r8.cell rfl, (width_c o c rows w8 (h.grow G8)).mono ?_⟩
  rintro _ _ ⟨rfl, rfl⟩
  refine ⟨_, rfl, kept_same rfl, (inRange_c oU oV oH cU cV H.length cH U V rows (first rows) (by omega) (by omega) w8 (hU.grow G8) (hV.grow G8)).mono ?_⟩
  rintro _ w25 ⟨rfl, g25⟩
  have G25 := G8.trans' g25
  have r25 := r8.grow g25
  refine ⟨_, rfl, fun hp => ?_, fun hp => ⟨false, rfl, ⟨fun k => (by cases k), fun k => (by have := k.2.1; rw [hp] at this; cases this)⟩, G25⟩⟩
  refine ⟨_, _, _, r25.cell rfl, _, _, _, r25.cell rfl, _, _, _, r25.cell rfl, (provesCost_c o o' oU oV oH c c' cU cV H.length cH rows m U V he hv hp w25 (h.grow G25) (h'.grow G25) (hU.grow G25) (hV.grow G25)).mono ?_⟩
  rintro _ w38 ⟨b39, rfl, hb39, g38⟩
  have G38 := G25.trans' g38
  have r38 := r25.grow g38
  refine ⟨_, rfl, fun hc => ?_, fun hc => ⟨false, rfl, ⟨fun k => (by cases k), fun k => (by have := hb39.2 k.2.2.1; rw [hc] at this; cases this)⟩, G38⟩⟩
  have hcb := cnt_bd m m.length
  have hN : costN rows m = cnt m rows.length := by unfold costN; rw [if_pos hz, hml]
  have e1 : IntKind.wrap .i64 (((rows.length : Nat) : Int) - costN rows m) = (rows.length : Int) - cnt m rows.length := by rw [hN, wr]; rw [hml] at hcb; omega
  rw [e1]
  refine ⟨_, _, _, r38.cell rfl, _, _, _, r38.cell rfl, _, _, _, r38.cell rfl, (provesCount_c o oU oV oH c U.length cU V.length cV cH _ rows H he hH w38 (h.grow G38) (hHn.grow G38)).mono ?_⟩
  rintro _ w51 ⟨rfl, g51⟩
  have G51 := G38.trans' g51
  exact ⟨_, rfl, fun q => ⟨true, rfl, ⟨fun _ => ⟨hz, hp, hb39.1 hc, q⟩, fun _ => rfl⟩, G51⟩, fun q => ⟨false, rfl, ⟨fun k => (by cases k), fun k => (by have := k.2.2.2; rw [q] at this; cases this)⟩, G51⟩⟩
end Go.Proofs.Ytcaokpglbolkcaa
