/- Contract: the reference's cost of an assignment. -/
import Derived.Test.YtalplekmbhemnaaGc
namespace Go.Proofs.Ytalplekmbhemnaa
open Go Go.Nf

/-- the column of row i -/
def gm (m : List Int) (i : Nat) : Int := (m[i]?).getD (-1)
/-- the cost at row i, column c -/
def at2 (rows : List (List Int)) (i : Nat) (c : Int) : Int := ((((rows[i]?).getD [])[c.toNat]?).getD 0)
/-- row i's column is a column, has an edge, and no row before has it -/
def okA (rows : List (List Int)) (m : List Int) (i : Nat) : Bool :=
  decide (gm m i = -1) || (decide (0 ≤ gm m i) && decide (gm m i < ((rows[i]?).getD []).length) && !decide (at2 rows i (gm m i) = 4611686018427387904) && (List.range i).all (fun k => !decide (gm m k = gm m i)))
def cnt (m : List Int) : Nat → Int
  | 0 => 0
  | i + 1 => cnt m i + (if gm m i = -1 then 0 else 1)
def tot (rows : List (List Int)) (m : List Int) : Nat → Int
  | 0 => 0
  | i + 1 => tot rows m i + (if gm m i = -1 then 0 else at2 rows i (gm m i))
def okAll (rows : List (List Int)) (m : List Int) : Bool := (List.range m.length).all (okA rows m)
def costE (rows : List (List Int)) (m : List Int) : Int := if errOf rows = 0 then (if m.length = rows.length then (if okAll rows m then 0 else 1) else 1) else errOf rows
def costN (rows : List (List Int)) (m : List Int) : Int := if costE rows m = 0 then cnt m m.length else 0
def costS (rows : List (List Int)) (m : List Int) : Int := if costE rows m = 0 then tot rows m m.length else 0

theorem cnt_bd (m : List Int) : ∀ i, 0 ≤ cnt m i ∧ cnt m i ≤ i
  | 0 => by simp [cnt]
  | i + 1 => by have := cnt_bd m i; simp only [cnt]; split <;> omega
theorem okAll_bad {rows : List (List Int)} {m : List Int} {j : Nat} (h : j < m.length) (h2 : okA rows m j = false) : okAll rows m = false := by
  unfold okAll; rw [List.all_eq_false]; exact ⟨j, by simpa using h, by rw [h2]; simp⟩
theorem isCost_bd {c : Int} (h : isCost c = true) (hi : c ≠ 4611686018427387904) : 0 ≤ c ∧ c ≤ 1099511627776 := by
  unfold isCost at h; rw [Bool.or_eq_true, Bool.and_eq_true, decide_eq_true_eq, decide_eq_true_eq, decide_eq_true_eq] at h
  rcases h with h | h
  · exact h
  · exact absurd h hi
theorem err0 {rows : List (List Int)} (h : errOf rows = 0) : rows.length ≤ 64 ∧ (∀ r ∈ rows, r.length ≤ 64) ∧ ∀ r ∈ rows, r.length = first rows ∧ ∀ c ∈ r, isCost c = true := by
  unfold errOf at h
  split at h
  · cases h
  · split at h
    · rename_i h1 h2
      split at h
      · rename_i h3
        refine ⟨by omega, fun r hr => by simpa using List.all_eq_true.1 h2 r hr, fun r hr => ?_⟩
        have := List.all_eq_true.1 h3 r hr
        unfold rowOk at this
        rw [Bool.and_eq_true, decide_eq_true_eq] at this
        exact ⟨this.1, fun c hc => List.all_eq_true.1 this.2 c hc⟩
      · cases h
    · cases h
theorem at2_bd {rows : List (List Int)} (h : errOf rows = 0) {i : Nat} {c : Int} (hi : at2 rows i c ≠ 4611686018427387904) : 0 ≤ at2 rows i c ∧ at2 rows i c ≤ 1099511627776 := by
  unfold at2 at *
  cases hr : rows[i]? with
  | none => simp
  | some r =>
    rw [hr] at hi
    simp only [Option.getD_some] at hi ⊢
    cases hc : r[c.toNat]? with
    | none => simp
    | some x =>
      rw [hc] at hi
      simp only [Option.getD_some] at hi ⊢
      exact isCost_bd ((err0 h).2.2 r (List.mem_of_getElem? hr) |>.2 x (List.mem_of_getElem? hc)) hi
theorem okA_split {rows : List (List Int)} {m : List Int} {i : Nat} (h : okA rows m i = true) (hn : gm m i ≠ -1) : 0 ≤ gm m i ∧ gm m i < ((rows[i]?).getD []).length ∧ at2 rows i (gm m i) ≠ 4611686018427387904 ∧ ∀ k, k < i → gm m k ≠ gm m i := by
  unfold okA at h
  simp only [Bool.or_eq_true, Bool.and_eq_true, decide_eq_true_eq, Bool.not_eq_true', decide_eq_false_iff_not, List.all_eq_true, List.mem_range] at h
  rcases h with h | ⟨⟨⟨h1, h2⟩, h3⟩, h4⟩
  · exact absurd h hn
  · exact ⟨h1, h2, h3, fun k hk => h4 k hk⟩
theorem okA_mk {rows : List (List Int)} {m : List Int} {i : Nat} (h1 : 0 ≤ gm m i) (h2 : gm m i < ((rows[i]?).getD []).length) (h3 : at2 rows i (gm m i) ≠ 4611686018427387904) (h4 : ∀ k, k < i → gm m k ≠ gm m i) : okA rows m i = true := by
  unfold okA
  simp only [Bool.or_eq_true, Bool.and_eq_true, decide_eq_true_eq, Bool.not_eq_true', decide_eq_false_iff_not, List.all_eq_true, List.mem_range]
  exact .inr ⟨⟨⟨h1, h2⟩, h3⟩, h4⟩
theorem okA_bad {rows : List (List Int)} {m : List Int} {i : Nat} (hn : gm m i ≠ -1) (h : ¬ (0 ≤ gm m i ∧ gm m i < ((rows[i]?).getD []).length ∧ at2 rows i (gm m i) ≠ 4611686018427387904 ∧ ∀ k, k < i → gm m k ≠ gm m i)) : okA rows m i = false := by
  cases hk : okA rows m i with
  | false => rfl
  | true => exact absurd (okA_split hk hn) h
theorem tot_bd {rows : List (List Int)} {m : List Int} (h : errOf rows = 0) : ∀ i, (∀ k, k < i → okA rows m k = true) → 0 ≤ tot rows m i ∧ tot rows m i ≤ 1099511627776 * i
  | 0, _ => by simp [tot]
  | i + 1, hk => by
    have := tot_bd h i fun k hk' => hk k (by omega)
    simp only [tot]
    split
    · omega
    · rename_i hn
      have := at2_bd h (okA_split (hk i (by omega)) hn).2.2.1
      omega

theorem cost_c (o o' : Option Addr) (c c' : Nat) (rows : List (List Int)) (m : List Int) (w : World) {A A' : Nat → Prop} (h : Mat w A o rows) (h' : Nums w A' o' m) :
    Calls Try.prog 12 #[.slice o rows.length c, .slice o' m.length c'] w fun e w' => e = .returned (.tuple #[.int .i64 (costN rows m), .int .i64 (costS rows m), .int .i64 (costE rows m)]) ∧ w = w' := by
  refine nf12 o rows.length c o' m.length c' w _ ((right_c o c rows w h).mono ?_)
  rintro _ _ ⟨rfl, rfl⟩
  have ret : ∀ {e : Int}, costE rows m = e → e ≠ 0 → Ending.returned (.tuple #[.int .i64 0, .int .i64 0, .int .i64 e]) = .returned (.tuple #[.int .i64 (costN rows m), .int .i64 (costS rows m), .int .i64 (costE rows m)]) := fun he hn => by
    unfold costN costS; rw [he, if_neg hn, if_neg hn]
  refine ⟨_, rfl, fun hne => ⟨ret (by unfold costE; rw [if_neg (nT hne)]) (nT hne), rfl⟩, fun hz => ?_⟩
  have hz := nF hz
  have he := err0 hz
  refine ⟨fun hne => ⟨ret (by unfold costE; rw [if_pos hz, if_neg (by have := nT hne; omega)]) (by omega), rfl⟩, fun heq => ?_⟩
  have heq : m.length = rows.length := by have := nF heq; omega
  have bad : ∀ {j}, j < m.length → okA rows m j = false → costE rows m = 1 := fun hj hb => by
    unfold costE; rw [if_pos hz, if_pos heq, okAll_bad hj hb]; rfl
  refine ⟨fun k n s x w' => ∃ j : Nat, x = (j : Int) ∧ j ≤ m.length ∧ k = m.length - j ∧ n = cnt m j ∧ s = tot rows m j ∧ (∀ k, k < j → okA rows m k = true) ∧ w = w', ⟨_, 0, rfl, Nat.zero_le _, rfl, rfl, rfl, fun k hk => by omega, rfl⟩, ?_⟩
  rintro k _ _ _ _ x ⟨j, rfl, hj, rfl, rfl, rfl, hI, rfl⟩
  have hcb := cnt_bd m j
  have htb := tot_bd hz j hI
  refine ⟨fun hlt => ?_, fun hge => ⟨?_, rfl⟩⟩
  case refine_2 =>
    have := dF hge
    obtain rfl : j = m.length := by omega
    have : costE rows m = 0 := by
      unfold costE; rw [if_pos hz, if_pos heq, if_pos]
      unfold okAll; rw [List.all_eq_true]; exact fun k hk => hI k (by simpa using hk)
    unfold costN costS; rw [this]; rfl
  have hlt : j < m.length := by have := dT hlt; omega
  have hlr : j < rows.length := by omega
  obtain ⟨a, ha, hc⟩ := h'.get hlt
  have hgm : gm m j = m[j] := by unfold gm; rw [List.getElem?_eq_getElem hlt]; rfl
  have hrow : (rows[j]?).getD [] = rows[j] := by rw [List.getElem?_eq_getElem hlr]; rfl
  obtain ⟨ar, oi, ci, har, hcr, hn⟩ := h.get hlr
  rw [← hgm] at hc
  refine ⟨a, ha, ⟨by omega, by omega⟩, _, hc, fun hm1 => ?_, fun hm1 => ?_⟩
  · have hm1 := dT hm1
    refine ⟨_, by omega, j + 1, by rw [wr (by omega)]; omega, hlt, rfl, ?_, ?_, fun k hk => ?_, rfl⟩
    · simp only [cnt]; rw [if_pos hm1]; omega
    · simp only [tot]; rw [if_pos hm1]; omega
    · by_cases e : k = j
      · subst e; unfold okA; rw [decide_eq_true hm1, Bool.true_or]
      · exact hI k (by omega)
  have hm1 := dF hm1
  refine ⟨fun hneg => ⟨ret (bad hlt (okA_bad hm1 fun hx => by have := dT hneg; omega)) (by omega), rfl⟩, fun hnn => ?_⟩
  have hnn := dF hnn
  refine ⟨ar, har, ⟨by omega, by omega⟩, _, _, _, hcr, fun hbig => ⟨ret (bad hlt (okA_bad hm1 fun hx => by have := dT hbig; have := hx.2.1; rw [hrow] at this; omega)) (by omega), rfl⟩, fun hsm => ?_⟩
  have hsm := dF hsm
  obtain ⟨C, hC⟩ := Int.eq_ofNat_of_zero_le (show 0 ≤ gm m j by omega)
  have hCl : C < rows[j].length := by omega
  obtain ⟨ac, hac, hcc⟩ := hn.get hCl
  have hat : at2 rows j (gm m j) = rows[j][C] := by unfold at2; rw [hrow, hC, toNat_cast, List.getElem?_eq_getElem hCl]; rfl
  rw [← hat, ← hC] at hcc
  refine ⟨ar, har, ⟨by omega, by omega⟩, _, _, _, hcr, ac, hac, ⟨by omega, by omega⟩, _, hcc, fun hinf => ⟨ret (bad hlt (okA_bad hm1 fun hx => hx.2.2.1 (dT hinf))) (by omega), rfl⟩, fun hfin => ?_⟩
  have hfin := dF hfin
  refine ⟨fun k x w' => ∃ i : Nat, x = (i : Int) ∧ i ≤ j ∧ k = j - i ∧ (∀ k, k < i → gm m k ≠ gm m j) ∧ w = w', ⟨_, 0, rfl, Nat.zero_le _, rfl, fun k hk => by omega, rfl⟩, ?_⟩
  rintro k _ _ x ⟨i, rfl, hi, rfl, hI2, rfl⟩
  refine ⟨fun hlt' => ?_, fun hge => ?_⟩
  · have hlt' : i < j := by have := dT hlt'; omega
    obtain ⟨ai, hai, hci⟩ := h'.get (show i < m.length by omega)
    have hgi : gm m i = m[i] := by unfold gm; rw [List.getElem?_eq_getElem (by omega)]; rfl
    rw [← hgi] at hci
    refine ⟨ai, hai, ⟨by omega, by omega⟩, _, hci, fun hs => ⟨ret (bad hlt (okA_bad hm1 fun hx => hx.2.2.2 i hlt' (dT hs))) (by omega), rfl⟩, fun hs => ⟨_, by omega, i + 1, by rw [wr (by omega)]; omega, hlt', rfl, fun k hk => ?_, rfl⟩⟩
    by_cases e : k = i
    · subst e; exact dF hs
    · exact hI2 k (by omega)
  have := dF hge
  obtain rfl : i = j := by omega
  have hb := at2_bd hz hfin
  refine ⟨ar, har, ⟨by omega, by omega⟩, _, _, _, hcr, ac, hac, ⟨by omega, by omega⟩, _, hcc, _, by omega, i + 1, by rw [wr (by omega)]; omega, hlt, rfl, ?_, ?_, fun k hk => ?_, rfl⟩
  · rw [wr (by omega)]; simp only [cnt]; rw [if_neg hm1]
  · rw [wr (by omega)]; simp only [tot]; rw [if_neg hm1]
  · by_cases e : k = i
    · subst e; exact okA_mk (by omega) (by rw [hrow]; omega) hfin hI2
    · exact hI k (by omega)
end Go.Proofs.Ytalplekmbhemnaa
