/- Contracts: best, without, ExtraCost. -/
import Derived.Test.YtneklhmkiememaaDoorZo
namespace Go.Proofs.YtneklhmkiememaaDoor
open Go Go.Nf Go.RowKit

theorem mbest_c (o : Option Addr) (c : Nat) (rows : List (List Int)) (w : World) {A0 : Nat → Prop} (h : Mat w A0 o rows) (he : errOf rows = 0) :
    Calls Tryd.prog 44 #[.slice o rows.length c] w fun e w' => ∃ m, Valid rows (first rows) m ∧ TopM rows m ∧ e = .returned (.tuple #[.int .i64 (cnt m rows.length), .int .i64 (tot rows m rows.length), .bool true]) ∧ Grow w w' := by
  refine nf44 o rows.length c w _ ((Solve_c o c rows w h).mono ?_)
  rintro _ w2 ⟨g2, ⟨k, -⟩ | ⟨-, b, m, rfl, rm, hb, hbest, -⟩⟩
  · exact absurd he k
  have hv := hbest.valid
  have hml := hv.len
  obtain ⟨y1, y2, y3⟩ := hv.costs he
  refine ⟨_, _, _, _, _, rfl, fun k => absurd rfl (nT k), fun _ => ?_⟩
  have cc := Cost_c o (some ⟨b, 0, none⟩) c rows.length rows m w2 (h.grow g2) (Row.nums (A := fun _ => True) rm trivial)
  rw [hml] at cc
  refine cc.mono ?_
  rintro _ w11 ⟨rfl, g11⟩
  exact ⟨_, _, _, rfl, yes y1 ⟨m, hv, best_top hbest, by rw [y2], g2.trans' g11⟩⟩

/-! ### a matrix without a row and a column -/
def woR (j : Nat) (r : List Int) : List Int := r.take j ++ r.drop (j + 1)
def wo (rows : List (List Int)) (k j : Nat) : List (List Int) := (rows.eraseIdx k).map (woR j)
theorem wo_step {rows : List (List Int)} {k i : Nat} (h : i < rows.length) : (rows.take (i + 1)).eraseIdx k = if i = k then (rows.take i).eraseIdx k else (rows.take i).eraseIdx k ++ [rows[i]] := by
  have hl : (rows.take i).length = i := by rw [List.length_take]; omega
  have ht := List.take_succ_eq_append_getElem h
  generalize rows.take i = p at *
  generalize rows[i] = r at *
  rw [ht]
  by_cases e : i = k
  · have h0 : k - p.length = 0 := by omega
    rw [if_pos e, List.eraseIdx_append_of_length_le (by omega), h0, List.eraseIdx_of_length_le (l := p) (by omega)]
    simp
  · rw [if_neg e]
    rcases Nat.lt_or_ge k i with hk | hk
    · rw [List.eraseIdx_append_of_lt_length (by omega)]
    · rw [List.eraseIdx_of_length_le (by rw [List.length_append, hl, List.length_singleton]; omega), List.eraseIdx_of_length_le (by omega)]
theorem part_take {w : World} {T : Nat} {o : Option Addr} {n c : Nat} {xs : List Int} (own : Own w T 2 1 o n c (intsV xs)) (j : Nat) : Nums w (fun _ => True) (if c = 0 then o else Option.map (fun x : Addr => x) o) (xs.take j) := by
  have e : (if c = 0 then o else Option.map (fun x : Addr => x) o) = o := by rw [map_id, ite_self]
  rw [e]
  intro i v hi
  rw [List.getElem?_take] at hi
  split at hi
  · obtain ⟨a, h1, -, h3⟩ := own.nums i v hi
    exact ⟨a, h1, trivial, h3⟩
  · cases hi
theorem part_drop {w : World} {T : Nat} {o : Option Addr} {n c : Nat} {xs : List Int} (own : Own w T 2 1 o n c (intsV xs)) (j : Nat) :
    Nums w (fun _ => True) (if c = (((j + 1 : Nat) : Int)).toNat then o else Option.map (fun x : Addr => Addr.add x ((((j + 1 : Nat) : Int)).toNat * 1)) o) (xs.drop (j + 1)) := by
  have hlen := own.length
  simp only [intsV, List.length_map] at hlen
  have hnc := own.le
  intro i v hi
  rw [List.getElem?_drop] at hi
  have hjl : j + 1 + i < xs.length := by
    rcases Nat.lt_or_ge (j + 1 + i) xs.length with q | q
    · exact q
    · rw [List.getElem?_eq_none q] at hi; cases hi
  obtain ⟨g, l, ho, hr, ht, hl, -⟩ := own.head (show 0 < n by omega)
  rw [if_neg (by omega)]
  obtain ⟨a, h1, -, h3⟩ := own.nums _ v hi
  subst ho
  cases h1
  refine ⟨_, rfl, trivial, ?_⟩
  rw [Addr.add_lit] at h3
  show w.cell? (((⟨g, 0, none⟩ : Addr).add ((((j + 1 : Nat) : Int)).toNat * 1)).add (((i : Nat) : Int).toNat * 1)) = _
  rw [Addr.add_lit, Addr.add_lit]
  have : 0 + (((j + 1 : Nat) : Int)).toNat * 1 + ((i : Int)).toNat * 1 = 0 + (((j + 1 + i : Nat) : Int)).toNat * 1 := by omega
  rw [this]; exact h3
theorem built_get {w : World} {B TT T : Nat} {o : Option Addr} {n c : Nat} {rows : List (List Int)} (h : Built w B TT T o n c rows) {i : Nat} (hi : i < rows.length) :
    ∃ a oi ci, o = some a ∧ w.cell? (a.add ((i : Int).toNat * 1)) = some (.slice oi rows[i].length ci) ∧ Own w B T 1 oi rows[i].length ci (intsV rows[i]) := by
  obtain ⟨svs, h1, h2, h3⟩ := h
  obtain ⟨oi, ci, h4, h5⟩ := h3 i _ (List.getElem?_eq_getElem hi)
  have hl := h1.length
  obtain ⟨g, l, rfl, hr, ht, _⟩ := h1.head (by omega)
  refine ⟨_, oi, ci, rfl, h1.cell ?_, h5⟩
  rw [toNat_cast, Nat.mul_one]; exact h4
set_option maxHeartbeats 2000000 in
theorem without_c (o : Option Addr) (c : Nat) (rows : List (List Int)) (k j : Nat) (hr : rows.length ≤ 1000) (hc : ∀ r ∈ rows, j < r.length ∧ r.length ≤ 1000) (w : World) {B : Nat} (h : Built w B 26 2 o rows.length c rows) :
    Calls Tryd.prog 45 #[.slice o rows.length c, .int .i64 (k : Int), .int .i64 (j : Int)] w fun e w' => ∃ o' c', e = .returned (.slice o' (wo rows k j).length c') ∧ Built w' (hs w) 26 2 o' (wo rows k j).length c' (wo rows k j) ∧ Grow w w' := by
  refine nf45 o rows.length c k j w _ ⟨fun n o' n' c' x w' => ∃ i : Nat, x = (i : Int) ∧ i ≤ rows.length ∧ n = rows.length - i ∧ n' = (((rows.take i).eraseIdx k).map (woR j)).length ∧ Built w' (hs w) 26 2 o' n' c' (((rows.take i).eraseIdx k).map (woR j)) ∧ Grow w w', ⟨_, 0, rfl, Nat.zero_le _, rfl, by simp, by simpa using Built.nil _ _ _ _, Only.refl _ _⟩, ?_⟩
  rintro n _ w5 o6 n7 n8 x ⟨i, rfl, hi, rfl, rfl, hB, g5⟩
  refine ⟨fun hlt k12 hk12 => ?_, fun hge => ?_⟩
  · have hlt : i < rows.length := by have := dT hlt; omega
    have hst := wo_step (k := k) hlt
    obtain ⟨a, oi, ci, ha, hcell, hown⟩ := built_get (h.grow g5) hlt
    have hlen := hc _ (List.getElem_mem hlt)
    have hil : ((rows.take i).eraseIdx k).length ≤ 1000 := by
      have := List.length_eraseIdx_le (rows.take i) k
      have : (rows.take i).length ≤ rows.length := by rw [List.length_take]; omega
      omega
    generalize rows[i] = r at *
    refine ⟨a, ha, ⟨by omega, by omega⟩, _, _, _, hcell, fun hik => ?_, fun hik => ?_⟩
    · have hik : i = k := by have := dT hik; omega
      rw [if_pos hik] at hst
      exact hk12 _ _ _ _ fun _ => ⟨_, by omega, i + 1, by rw [wr (by omega)]; omega, hlt, rfl, by rw [hst], by rw [hst]; exact hB, g5⟩
    · have hik : i ≠ k := by have := dF hik; omega
      rw [if_neg hik] at hst
      have hnc := hown.le
      have e1 : (((j : Nat) : Int)).toNat - 0 = (r.take j).length := by rw [List.length_take]; omega
      have e2 : IntKind.wrap .i64 ((j : Int) + 1) = ((j + 1 : Nat) : Int) := by rw [wr (by omega)]; omega
      rw [e1, e2]
      have e3 : r.length - (((j + 1 : Nat) : Int)).toNat = (r.drop (j + 1)).length := by rw [List.length_drop]; omega
      rw [e3]
      refine ⟨⟨by omega, by omega⟩, append_nums elem26 (xs := []) (own_nil w5 (hs w5) 2 1) (part_take hown j) (by rw [List.length_take]; unfold maxLen; omega) (by rw [List.length_take]; omega) (Nat.le_refl _) fun o29 c31 w28 p1 p2 => ⟨_, _, _, rfl, ⟨by omega, by omega⟩, ?_⟩⟩
      have g28 : Grow w5 w28 := p2.mono fun b _ hb => by obtain ⟨_, e, _⟩ := hb; cases e
      rw [Nat.zero_add, List.nil_append] at p1
      have z28 := g28.size
      refine append_nums elem26 (n := 0 + (r.take j).length) (by rw [Nat.zero_add]; exact p1) (part_drop (hown.grow g28) j) (by rw [List.length_take, List.length_drop]; unfold maxLen; omega) (by rw [List.length_take, List.length_drop]; omega) (by omega) fun o34 c36 w33 q1 q2 => ⟨_, _, _, rfl, fun w37 e37 => ?_⟩
      have g33 : Grow w5 w33 := g28.trans q2 fun b hb hin => by have := (p1.base b hin).1; omega
      have g37 : Grow w33 w37 := only_alloc e37
      have z5 := g5.size
      have z33 := g33.size
      have z37 := hs_alloc e37
      have el : 0 + (r.take j).length + (r.drop (j + 1)).length = (woR j r).length := by unfold woR; rw [List.length_append]; omega
      rw [el] at q1 e37
      refine Built.push elem22 ((hB.grow g33).grow g37) (r := woR j r) ((q1.mono (by omega)).grow g37) (Row.new e37) (by decide) (by rw [List.length_map]; unfold maxLen; omega) (by rw [List.length_map]; omega) (by omega) fun o41 c43 w40 s1 s2 => ⟨_, _, _, rfl, hk12 _ _ _ _ fun _ => ⟨_, by omega, i + 1, by rw [wr (by omega)]; omega, hlt, rfl, by rw [hst, List.map_append, List.length_append]; rfl, by rw [hst, List.map_append]; exact s1, ?_⟩⟩
      obtain ⟨svs, k1, -⟩ := hB
      exact ((g5.trans' g33).trans' g37).trans s2 fun b hb hin => by have := (k1.base b hin).1; omega
  · have hge := dF hge
    obtain rfl : i = rows.length := by omega
    rw [List.take_length] at hB ⊢
    exact ⟨o6, n8, rfl, hB, g5⟩
def ExtraPost (rows : List (List Int)) (k j : Nat) (x : Int) : Prop :=
  (at2 rows k (j : Int) = Inf → x = Inf) ∧ (at2 rows k (j : Int) ≠ Inf → ∃ m m', Valid rows (first rows) m ∧ TopM rows m ∧ Valid (wo rows k j) (first (wo rows k j)) m' ∧ TopM (wo rows k j) m' ∧
    x = if IntKind.wrap .i64 (cnt m' (wo rows k j).length + 1) = cnt m rows.length then IntKind.wrap .i64 (IntKind.wrap .i64 (at2 rows k (j : Int) + tot (wo rows k j) m' (wo rows k j).length) - tot rows m rows.length) else Inf)
set_option maxHeartbeats 2000000 in
theorem ExtraCost_c (o : Option Addr) (c : Nat) (rows : List (List Int)) (k j : Nat) (hr : rows.length ≤ 1000) (hc : ∀ r ∈ rows, j < r.length ∧ r.length ≤ 1000) (he : errOf rows = 0) (he' : errOf (wo rows k j) = 0) (hk : k < rows.length) (hj : j < first rows) (w : World) {B : Nat} (h : Built w B 26 2 o rows.length c rows) :
    Calls Tryd.prog 26 #[.slice o rows.length c, .int .i64 (k : Int), .int .i64 (j : Int)] w fun e w' => ∃ x, e = .returned (.int .i64 x) ∧ ExtraPost rows k j x ∧ Grow w w' := by
  refine nf26 o rows.length c k j w _ ((mbest_c o c rows w h.mat he).mono ?_)
  rintro _ w2 ⟨m, hv, ht, rfl, g2⟩
  refine ⟨_, _, _, rfl, fun _ => ⟨fun q => absurd (dT q) (by omega), fun _ => ⟨fun q => absurd (dT q) (by omega), fun _ => ⟨fun q => absurd (dT q) (by omega), fun _ => (width_c o c rows w2 (h.grow g2).mat).mono ?_⟩⟩⟩, fun q => by cases q⟩
  rintro _ _ ⟨rfl, rfl⟩
  have h2 := h.grow g2
  obtain ⟨a, oi, ci, ha, hcell, hown⟩ := built_get h2 hk
  have hlen := hc _ (List.getElem_mem hk)
  obtain ⟨a', ha', hc'⟩ := Nums.get hown.nums hlen.1
  have hat : at2 rows k (j : Int) = rows[k][j]'hlen.1 := by
    unfold at2
    rw [List.getElem?_eq_getElem hk, Option.getD_some, toNat_cast, List.getElem?_eq_getElem hlen.1, Option.getD_some]
  rw [← hat] at hc'
  refine ⟨_, rfl, fun q => absurd (dT q) (by omega), fun _ => ⟨a, ha, ⟨by omega, by omega⟩, _, _, _, hcell, a', ha', ⟨by omega, by omega⟩, _, hc', fun q => ⟨_, rfl, ⟨fun _ => rfl, fun q' => absurd (dT q) q'⟩, g2⟩, fun q => ?_⟩⟩
  have hne : at2 rows k (j : Int) ≠ Inf := dF q
  refine (without_c o c rows k j hr hc w2 h2).mono ?_
  rintro _ w27 ⟨o28, c30, rfl, hb, g27⟩
  refine ⟨_, _, _, rfl, (mbest_c o28 c30 (wo rows k j) w27 hb.mat he').mono ?_⟩
  rintro _ w32 ⟨m', hv', ht', rfl, g32⟩
  have G := (g2.trans' g27).trans' g32
  refine ⟨_, _, _, rfl, fun _ => ⟨fun q => ⟨_, rfl, ⟨fun q' => absurd q' hne, fun _ => ⟨m, m', hv, ht, hv', ht', by rw [if_neg (nT q)]⟩⟩, G⟩, fun q => ⟨_, rfl, ⟨fun q' => absurd q' hne, fun _ => ⟨m, m', hv, ht, hv', ht', by rw [if_pos (nF q)]⟩⟩, G⟩⟩, fun q => by cases q⟩
end Go.Proofs.YtneklhmkiememaaDoor
