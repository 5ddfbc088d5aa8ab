/- Contracts: the level, in the program and in the reference (the walks). -/
import Derived.Test.YtolpmdmcbciccaaDoorWl
namespace Go.Proofs.YtolpmdmcbciccaaDoor
open Go Go.Nf Go.RowKit

set_option maxHeartbeats 4000000 in
theorem surgeLevel_c (o o2 o3 : Option Addr) (c c2 c3 : Nat) (l : List Inc) (units : List Un) (plans : List Pln) (hl : l.length ≤ 1000) (hu : units.length ≤ 1000) (hp : Fews plans) (w : World) {A : Nat → Prop} (h : Incs w A o l) (h2 : Uns w A o2 units) (h3 : Plns w A o3 plans) :
    Calls Tryd.prog 13 #[.slice o l.length c, .slice o2 units.length c2, .slice o3 plans.length c3] w fun e w' => e = .returned (.int .i64 (levelOf (missing l units plans))) ∧ Grow w w' := by
  refine nf13 o l.length c o2 units.length c2 o3 plans.length c3 w _ ⟨fun n m x w' => ∃ i : Nat, x = (i : Int) ∧ i ≤ l.length ∧ n = l.length - i ∧ m = (needs (l.take i) units plans : Int) ∧ Grow w w', ⟨_, 0, rfl, Nat.zero_le _, rfl, by simp [needs], Only.refl _ _⟩, ?_⟩
  rintro n _ w5 _ x ⟨i, rfl, hi, rfl, rfl, g5⟩
  refine ⟨fun hlt k10 hk => ?_, fun hge => ?_⟩
  · have hlt : i < l.length := by have := dT hlt; omega
    have hat := List.getElem?_eq_getElem hlt
    obtain ⟨a, ha, hc⟩ := Recs.atE (Recs.grow h g5) hat
    have htk := needs_take (units := units) (plans := plans) hat
    have hnl := need_le (units := units) hp l[i]
    have hnt := needs_le (units := units) hp (l.take i)
    rw [List.length_take] at hnt
    generalize l[i] = y at *
    have c0 := hc 0 _ rfl
    rw [add_zero] at c0
    refine ⟨a, ha, ⟨by omega, by omega⟩, _, c0, _, hc 1 _ rfl, _, hc 2 _ rfl, _, _, _, hc 3 _ rfl, _, hc 4 _ rfl, _, hc 5 _ rfl, _, _, _, hc 6 _ rfl, _, _, _, hc 7 _ rfl, _, hc 8 _ rfl, _, hc 9 _ rfl, fun w34 e34 => ⟨(Row.new e34).there (by simp), fun w36 e36 => ?_⟩⟩
    obtain ⟨r36, g36⟩ := loc e34 e36 rfl
    have G36 := g5.trans' g36
    have fin : ∀ (v : Int) (w' : World), v = (needs (l.take i) units plans : Int) + (need units plans y : Int) → Grow w w' → k10 v w' := fun v w' hv g => hk _ _ fun _ => ⟨_, by omega, i + 1, by rw [wr (by omega)]; omega, hlt, rfl, by rw [hv, htk]; omega, g⟩
    have skip : act y = false → k10 (needs (l.take i) units plans : Int) w36 := fun ha => by
      have h0 : need units plans y = 0 := by unfold need; rw [if_neg (by rw [ha]; exact Bool.false_ne_true)]
      exact fin _ _ (by rw [h0]; omega) G36
    refine ⟨_, r36.cell rfl, fun h1 => ⟨_, r36.cell rfl, fun h2' => skip ?_, fun h2' => ?_⟩, fun h1 => ?_⟩
    · have e1 : ¬ y.urg = 1 := nT h1
      have e2 : ¬ y.urg = 2 := nT h2'
      unfold act; rw [decide_eq_false e1, decide_eq_false e2]; rfl
    all_goals
      have hurg : (decide (y.urg = 1) || decide (y.urg = 2)) = true := by
        first
          | (have e1 : y.urg = 1 := nF h1; rw [decide_eq_true e1]; rfl)
          | (have e1 : y.urg = 2 := nF h2'; rw [decide_eq_true e1, Bool.or_true])
      refine ⟨_, r36.cell rfl, fun hb => skip ?_, fun hb => ⟨_, r36.cell rfl, fun hm => skip ?_, fun hm => ?_⟩⟩
      · have hb : y.closed = true := hb
        unfold act; rw [hb]; simp
      · have hm : ¬ y.merged = 0 := nT hm
        unfold act; rw [decide_eq_false hm]; simp
      have hact : act y = true := by
        have hb : y.closed = false := hb
        have hm : y.merged = 0 := nF hm
        unfold act; rw [hurg, hb, decide_eq_true hm]; rfl
      have z36 := r36.lt
      refine ⟨fun n o' n' c' x w' => ∃ j : Nat, x = (j : Int) ∧ j ≤ units.length ∧ n = units.length - j ∧ n' = (haveL (units.take j) y.id).length ∧ Own w' (hs w36) 3 1 o' n' c' (intsV (haveL (units.take j) y.id)) ∧ Grow w36 w',
        ⟨_, 0, rfl, Nat.zero_le _, rfl, rfl, own_nil _ _ _ _, Only.refl _ _⟩, ?_⟩
      rintro n2 _ w53 o54 n55 c56 x ⟨j, rfl, hj, rfl, rfl, own53, g53⟩
      have G53 := G36.trans' g53
      refine ⟨fun hlt2 k60 hk60 => ?_, fun hge2 => ⟨_, (r36.grow g53).cell rfl, _, (r36.grow g53).cell rfl, (required_c o3 c3 plans y.code y.urg hp w53 (h3.grow G53)).mono ?_⟩⟩
      · have hlt2 : j < units.length := by have := dT hlt2; omega
        have hatu := List.getElem?_eq_getElem hlt2
        obtain ⟨a2, ha2, hc2⟩ := Recs.atE (Recs.grow h2 G53) hatu
        have hvt := have_take (id := y.id) hatu
        have hvl := have_le (units.take j) y.id
        rw [List.length_take] at hvl
        generalize units[j] = u at *
        have d0 := hc2 0 _ rfl
        rw [add_zero] at d0
        refine ⟨a2, ha2, ⟨by omega, by omega⟩, _, d0, _, hc2 1 _ rfl, _, hc2 2 _ rfl, _, hc2 3 _ rfl, _, hc2 4 _ rfl, _, hc2 5 _ rfl, _, hc2 6 _ rfl, _, hc2 7 _ rfl, _, hc2 8 _ rfl, _, hc2 9 _ rfl, fun w80 e80 => ⟨(Row.new e80).there (by simp), fun w82 e82 => ?_⟩⟩
        obtain ⟨r82, g82⟩ := loc e80 e82 rfl
        have own82 := own53.grow g82
        have z53 := g53.size
        have z82 := g82.size
        refine ⟨_, r82.cell rfl, _, ((r36.grow g53).grow g82).cell rfl, fun he => ⟨_, r82.cell rfl, fun w88 e88 => ?_⟩, fun he => hk60 _ _ _ _ fun _ => ?_⟩
        · have he : u.inc = y.id := dT he
          rw [if_pos he] at hvt
          have g88 : Grow w82 w88 := only_alloc e88
          have r88 : Row w88 (hs w82) 3 [.int .i64 u.kind] := Row.new e88
          have z88 := g88.size
          refine push_int (own82.grow g88) r88 (by omega) (by omega) fun o92 c94 w91 p1 p2 => ⟨_, _, _, rfl, hk60 _ _ _ _ fun _ => ?_⟩
          exact ⟨_, by omega, j + 1, by rw [wr (by omega)]; omega, hlt2, rfl, by rw [hvt]; simp, by rw [hvt]; exact p1, ((g53.trans' g82).trans' g88).trans p2 fun b hb k => by have := (own53.base b k).1; omega⟩
        · have he : ¬ u.inc = y.id := dF he
          rw [if_neg he, List.append_nil] at hvt
          exact ⟨_, by omega, j + 1, by rw [wr (by omega)]; omega, hlt2, rfl, by rw [hvt], by rw [hvt]; exact own82, g53.trans' g82⟩
      · have hjf : units.take j = units := List.take_of_length_le (by have := dF hge2; omega)
        rw [hjf] at own53 ⊢
        rintro _ w100 ⟨o101, c103, rfl, hK, g100⟩
        have hvl := have_le units y.id
        refine ⟨_, _, _, rfl, (unmet_c o101 o54 c103 c56 _ _ (kinds_len hp _ _) (by omega) w100 hK (own53.nums.grow g100)).mono ?_⟩
        rintro _ w105 ⟨o106, c108, rfl, g105⟩
        have hnd : need units plans y = (unmetL (kindsOf plans y.code y.urg) (cnt (haveL units y.id))).length := by unfold need; rw [if_pos hact]
        refine ⟨_, _, _, rfl, fin _ _ ?_ ((G53.trans' g100).trans' g105)⟩
        rw [← hnd, wr (by omega)]
  · have hif : l.take i = l := List.take_of_length_le (by have := dF hge; omega)
    rw [hif]
    have hnl := needs_le (units := units) hp l
    refine ⟨fun n m x w' => ∃ j : Nat, x = (j : Int) ∧ j ≤ units.length ∧ n = units.length - j ∧ m = (needs l units plans : Int) - (freeN (units.take j) : Int) ∧ Grow w w', ⟨_, 0, rfl, Nat.zero_le _, rfl, by simp [freeN], g5⟩, ?_⟩
    rintro n _ w181 _ x ⟨j, rfl, hj, rfl, rfl, g181⟩
    have hfl := free_le (units.take j)
    rw [List.length_take] at hfl
    refine ⟨fun hlt k186 hk => ?_, fun hge2 => ?_⟩
    · have hlt : j < units.length := by have := dT hlt; omega
      have hatu := List.getElem?_eq_getElem hlt
      obtain ⟨a2, ha2, hc2⟩ := Recs.atE (Recs.grow h2 g181) hatu
      have hft := free_take hatu
      generalize units[j] = u at *
      have d0 := hc2 0 _ rfl
      rw [add_zero] at d0
      refine ⟨a2, ha2, ⟨by omega, by omega⟩, _, d0, _, hc2 1 _ rfl, _, hc2 2 _ rfl, _, hc2 3 _ rfl, _, hc2 4 _ rfl, _, hc2 5 _ rfl, _, hc2 6 _ rfl, _, hc2 7 _ rfl, _, hc2 8 _ rfl, _, hc2 9 _ rfl, fun w204 e204 => ⟨(Row.new e204).there (by simp), fun w206 e206 => ?_⟩⟩
      obtain ⟨r206, g206⟩ := loc e204 e206 rfl
      refine ⟨_, r206.cell rfl, fun he => hk _ _ fun _ => ?_, fun he => hk _ _ fun _ => ?_⟩
      · have he : u.state = 1 := dT he
        rw [if_pos he] at hft
        exact ⟨_, by omega, j + 1, by rw [wr (by omega)]; omega, hlt, rfl, by rw [hft, wr (by omega)]; omega, g181.trans' g206⟩
      · have he : ¬ u.state = 1 := dF he
        rw [if_neg he] at hft
        exact ⟨_, by omega, j + 1, by rw [wr (by omega)]; omega, hlt, rfl, by rw [hft]; omega, g181.trans' g206⟩
    · have hjf : units.take j = units := List.take_of_length_le (by have := dF hge2; omega)
      rw [hjf]
      show ∃ k212 : Nat → Int → World → Prop, _
      refine ⟨fun n x w' => ∃ q : Nat, x = (q : Int) ∧ q ≤ 5 ∧ n = 5 - q ∧ (∀ (j : Nat) v, j < q → upN[j]? = some v → ¬ missing l units plans ≤ v) ∧ w181 = w', ⟨_, 0, rfl, Nat.zero_le _, rfl, fun j v hj => by omega, rfl⟩, ?_⟩
      rintro n _ _ x ⟨q, rfl, hq, rfl, hno, rfl⟩
      refine ⟨fun hlt => ?_, fun hge3 => ⟨ret_int ?_, g181⟩⟩
      · have hlt : q < 5 := by have := dT hlt; omega
        obtain ⟨v, hv⟩ : ∃ v, upN[q]? = some v := ⟨_, List.getElem?_eq_getElem (show q < upN.length from hlt)⟩
        refine run_idx hv ⟨_, rfl, fun hle => ⟨ret_int (step_level hv (dT hle) hno).symm, g181⟩, fun hgt => ⟨_, by omega, q + 1, by rw [wr (by omega)]; omega, hlt, rfl, fun j v' hj' hv' => ?_, rfl⟩⟩
        by_cases e : j = q
        · subst e
          rw [hv] at hv'
          cases hv'
          exact dF hgt
        · exact hno j v' (by omega) hv'
      · obtain rfl : q = 5 := by have := dF hge3; omega
        exact (level_all hno).symm
end Go.Proofs.YtolpmdmcbciccaaDoor
