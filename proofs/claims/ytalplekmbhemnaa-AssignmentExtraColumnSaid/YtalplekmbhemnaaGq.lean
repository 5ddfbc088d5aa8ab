/- The law AssignmentExtraColumn: it returns true and writes nothing old. -/
import Derived.Test.YtalplekmbhemnaaGp
import Derived.Test.YtalplekmbhemnaaNf3
namespace Go.Proofs.Ytalplekmbhemnaa
open Go Go.Nf

theorem kept_grow {w w' : World} {a : Addr} {v : Value} (h : w.cell? a = some v) (g : Grow w w') : Kept w w' a 1 := fun i hi => by
  obtain rfl : i = 0 := by omega
  rw [add_zero, h]; exact cell_keep g (fun h => h) h
theorem own_empty {w w1 : World} {T B : Nat} (e : w1 = w.alloc (.cells #[] T (0, 0))) (hB : B ≤ hs w) : Own w1 B T 1 (some ⟨hs w, 0, none⟩) 0 0 (intsV []) :=
  Row.own (l := []) (Row.new e) hB rfl (Nat.zero_le _)
/-- rows built so far -/
def WInv (R : Nat) (tgt : List (List Int)) (w1 : World) (n : Nat) (o : Option Addr) (m c : Nat) (x : Int) (w' : World) : Prop :=
  ∃ i : Nat, x = (i : Int) ∧ i ≤ R ∧ n = R - i ∧ Built w' (hs w1) 32 2 o m c (tgt.take i) ∧ Grow w1 w'

set_option maxRecDepth 10000 in
set_option maxHeartbeats 4000000 in
theorem wide_law (o : Option Addr) (c : Nat) (rows : List (List Int)) (oc : Option Addr) (cc : Nat) (col : List Int) (w : World) {A0 A1 : Nat → Prop} (h : Mat w A0 o rows) (hlong : rows.length ≤ 9223372036854775807) (hcol : Nums w A1 oc col) :
    Calls Try.prog 5 #[.slice o rows.length c, .slice oc col.length cc] w (Tru w) := by
  refine nf5 o rows.length c oc col.length cc w _ ((alive_c w).mono ?_)
  rintro _ w1 ⟨rfl, g1⟩
  refine ⟨_, rfl, bT ((few_c o c rows 30 w1 (h.grow g1) hlong).mono ?_)⟩
  rintro _ _ ⟨rfl, rfl⟩
  refine ⟨_, rfl, fun hf => ?_, fun _ => ⟨rfl, g1⟩⟩
  have hlen := few_lt' hf
  refine ⟨fun _ => ⟨rfl, g1⟩, fun hcl => ?_⟩
  have hcl : col.length = rows.length := by have := nF hcl; omega
  refine (right_c o c rows w1 (h.grow g1)).mono ?_
  rintro _ _ ⟨rfl, rfl⟩
  refine ⟨_, rfl, fun _ => ⟨rfl, g1⟩, fun he => ?_⟩
  have he := nF he
  obtain ⟨_, hC, hr⟩ := err0 he
  have hrow : ∀ r ∈ rows, r.length = first rows := fun r hr' => (hr r hr').1
  have hfl := first_le he
  have hml := more_len hcl
  refine ⟨WInv rows.length (more rows col) w1, ⟨_, 0, rfl, Nat.zero_le _, rfl, Built.nil _ _ _ _, Only.refl _ _⟩, ?_⟩
  rintro n _ w2 o2 m2 c2 x ⟨i, rfl, hi, rfl, hB, g2⟩
  have hm2 := hB.len
  rw [List.length_take, hml] at hm2
  refine ⟨fun hlt => ?_, fun hge => ?_⟩
  · have hlt : i < rows.length := by have := dT hlt; omega
    obtain ⟨a, oi, ci, ha, hc, hn⟩ := ((h.grow g1).grow g2).get hlt
    have hll : rows[i].length = first rows := hrow _ (List.getElem_mem hlt)
    have htg := more_get hcl hlt
    have hs2 := g2.size
    refine ⟨a, ha, ⟨by omega, by omega⟩, _, _, _, hc, fun w3 e3 => ?_⟩
    have g3 : Grow w2 w3 := only_drew e3
    have hs3 := g3.size
    obtain ⟨a', ha', hx⟩ := ((hcol.grow g1).grow (g2.trans' g3)).get (j := i) (by omega)
    generalize rows[i] = l at *
    generalize (col[i]'(by omega)) = x at *
    have fin : ∀ (w' : World) (o' : Option Addr) (n' c' : Nat), n' = (l ++ [x]).length → Own w' (hs w3) 2 1 o' n' c' (intsV (l ++ [x])) → Grow w3 w' → ∀ w49, w49 = w'.alloc (.cells #[.slice o' n' c'] 32 (0, 0)) →
        RunOk Try.prog (Hold (Builtin.append_ #[22, 22] 22 #[.slice o2 m2 c2, .slice (some ⟨hs w', 0, none⟩) 1 1])) w49 (fun v51 w52 => ∃ o53 n54 n55, v51 = .slice o53 n54 n55 ∧ ∃ n56, n56 < rows.length - i ∧ WInv rows.length (more rows col) w1 n56 o53 n54 n55 (IntKind.wrap .i64 ((i : Int) + 1)) w52) := by
      rintro w4 o' _ c' rfl hO g4 w5 e5
      have hs4 := g4.size
      have gg := (g3.trans' g4).trans' (only_alloc e5)
      refine Built.push elem22 (hB.grow gg) ((hO.grow (only_alloc e5)).mono (by omega)) (Row.new e5) (by decide) (by unfold maxLen; omega) (by omega) (by have := hs_alloc e5; omega) fun o' c' w6 h6 g6 => ⟨_, _, _, rfl, _, ?_, i + 1, by rw [wr (by omega)]; omega, hlt, rfl, ?_, ?_⟩
      · omega
      · rw [take_one htg]; exact h6
      · refine (g2.trans' gg).trans g6 fun b hb hin => ?_
        obtain ⟨svs, k1, -⟩ := hB
        have := (k1.base b hin).1; omega
    have hmx : ∀ k, k ≤ 100 → k ≤ maxLen := fun k hk => by unfold maxLen; omega
    refine ⟨a', ha', ⟨by omega, by omega⟩, _, hx, ⟨fun w4 e4 => ⟨kept_grow hx (only_alloc e4), ?_, ?_⟩, fun w4 e4 w5 e5 => ?_⟩⟩
    · have l4 := hs_alloc e4
      refine append_nums elem32 ((own_empty e4 (Nat.le_refl _)).mono (Nat.le_refl _)) ((hn.grow g3).grow (only_alloc e4)) (hmx _ (by omega)) (by omega) (by omega) fun o' c' w5 h5 g5 => ⟨_, _, _, rfl, ?_⟩
      have gg : Grow w3 w5 := (only_alloc e4).trans g5 fun b hb hin => by have := ((own_empty e4 (Nat.le_refl _)).base b hin).1; omega
      have l5 := gg.size
      refine ⟨kept_grow hx gg, fun w6 e6 => ?_⟩
      rw [Nat.zero_add] at h5 ⊢
      refine run_append_row elem32 (h5.grow (only_alloc e6)) (Row.new e6) rfl (by simp [Value.oneCell']) (hmx _ (by omega)) (by omega) (by have := hs_alloc e6; omega) fun o'' c'' w7 h7 g7 _ => ⟨_, _, _, rfl, fin w7 o'' _ c'' (by simp) (by simpa [intsV] using h7) ?_⟩
      exact (gg.trans' (only_alloc e6)).trans g7 fun b hb hin => by have := (h5.base b hin).1; omega
    · intro w5 e5
      have l4 := hs_alloc e4
      have l5 := hs_alloc e5
      have o5 := (own_empty e4 (Nat.le_refl _)).grow (only_alloc e5)
      have gg : Grow w3 w5 := (only_alloc e4).trans' (only_alloc e5)
      refine append_nums elem32 o5 ((hn.grow g3).grow gg) (hmx _ (by omega)) (by omega) (by omega) fun o' c' w6 h6 g6 => ⟨_, _, _, rfl, ?_⟩
      have g36 : Grow w3 w6 := gg.trans g6 fun b hb hin => by have := (o5.base b hin).1; omega
      have r6 := (Row.new e5).keep g6 fun hin => by obtain ⟨a, e, eb⟩ := hin; cases e; simp at eb; omega
      have l6 := g6.size
      rw [Nat.zero_add] at h6 ⊢
      refine run_append_row elem32 h6 r6 rfl (by simp [Value.oneCell']) (hmx _ (by omega)) (by omega) (by omega) fun o'' c'' w7 h7 g7 _ => ⟨_, _, _, rfl, fin w7 o'' _ c'' (by simp) (by simpa [intsV] using h7) ?_⟩
      exact g36.trans g7 fun b hb hin => by have := (h6.base b hin).1; omega
    · have l4 := hs_alloc e4
      have l5 := hs_alloc e5
      have o5 := own_empty e5 (B := hs w3) (by omega)
      have gg : Grow w3 w5 := (only_alloc e4).trans' (only_alloc e5)
      refine append_nums elem32 o5 ((hn.grow g3).grow gg) (hmx _ (by omega)) (by omega) (by omega) fun o' c' w6 h6 g6 => ⟨_, _, _, rfl, ?_⟩
      have g36 : Grow w3 w6 := gg.trans g6 fun b hb hin => by have := (o5.base b hin).1; omega
      have r6 := ((Row.new e4).grow (only_alloc e5)).keep g6 fun hin => by obtain ⟨a, e, eb⟩ := hin; cases e; simp at eb; omega
      have l6 := g6.size
      rw [Nat.zero_add] at h6 ⊢
      refine run_append_row elem32 h6 r6 rfl (by simp [Value.oneCell']) (hmx _ (by omega)) (by omega) (by omega) fun o'' c'' w7 h7 g7 _ => ⟨_, _, _, rfl, fin w7 o'' _ c'' (by simp) (by simpa [intsV] using h7) ?_⟩
      exact g36.trans g7 fun b hb hin => by have := (h6.base b hin).1; omega
  · have hge := dF hge
    obtain rfl : i = rows.length := by omega
    rw [List.take_of_length_le (by rw [hml]; exact Nat.le_refl _)] at hB
    have hm : m2 = (more rows col).length := by rw [hml]; omega
    subst hm
    refine (right_c o2 c2 (more rows col) w2 hB.mat).mono ?_
    rintro _ _ ⟨rfl, rfl⟩
    refine ⟨_, rfl, fun _ => ⟨rfl, g1.trans' g2⟩, fun he' => ?_⟩
    have he' := nF he'
    refine (Solve_of ((h.grow g1).grow g2) he).mono ?_
    rintro _ w3 ⟨g3, b, m, rfl, r3, hb, best⟩
    refine ⟨_, _, _, _, _, rfl, (Solve_of (hB.grow g3).mat he').mono ?_⟩
    rintro _ w4 ⟨g4, b', m', rfl, r4, hb', best'⟩
    have best2 : Best (more rows col) (first rows + 1) m' := by
      by_cases hn : rows = []
      · subst hn
        have e0 : more [] col = [] := by cases col <;> rfl
        rw [e0] at best' ⊢
        have v0 : ∀ C C' m, Valid [] C m → Valid [] C' m := fun C C' m h => ⟨h.len, fun i hi => absurd hi (by simp), fun i k hi => absurd hi (by simp)⟩
        exact ⟨v0 _ _ _ best'.valid, fun x hx => best'.most x (v0 _ _ _ hx), fun x hx => best'.least x (v0 _ _ _ hx), fun x hx => best'.first x (v0 _ _ _ hx)⟩
      · have hne : more rows col ≠ [] := fun e => hn (List.eq_nil_of_length_eq_zero (by rw [← hml, e]; rfl))
        rw [first_of (more_rows hcl hrow) hne] at best'
        exact best'
    have hw := best.wider best2 hcl hrow
    have hcb := cnt_bd m rows.length
    refine ⟨_, _, _, _, _, rfl, nno rfl (nno rfl ((Cost_of ((((h.grow g1).grow g2).grow g3).grow g4) he (r3.grow g4) best.valid).mono ?_))⟩
    rintro _ _ ⟨rfl, rfl⟩
    refine ⟨_, _, _, rfl, (Cost_of (c := c2) ((hB.grow g3).grow g4).mat he' r4 best'.valid).mono ?_⟩
    rintro _ _ ⟨rfl, rfl⟩
    rw [hml]
    have G := ((g1.trans' g2).trans' g3).trans' g4
    have e1 : IntKind.wrap .i64 (cnt m rows.length + 1) = cnt m rows.length + 1 := wr (by omega)
    rw [e1]
    refine ⟨_, _, _, rfl, yes rfl (yes rfl ⟨fun hd => ⟨fun _ => ⟨rfl, G⟩, fun hd2 => yes ?_ ⟨rfl, G⟩⟩, fun hd => yes ?_ ⟨rfl, G⟩⟩)⟩
    · have := dT hd; have := dF hd2; omega
    · have := dF hd; omega
end Go.Proofs.Ytalplekmbhemnaa
