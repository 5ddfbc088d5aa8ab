/- Contracts: the reference's level; few. -/
import Derived.Test.YtolpmdmcbciccaaDoorWm
import Derived.Test.YtolpmdmcbciccaaDoorNf2
namespace Go.Proofs.YtolpmdmcbciccaaDoor
open Go Go.Nf Go.RowKit

set_option maxHeartbeats 4000000 in
theorem lacking_c (o o2 o3 : Option Addr) (c c2 c3 : Nat) (l : List Inc) (units : List Un) (plans : List Pln) (hl : l.length ≤ 1000) (hu : units.length ≤ 1000) (hp : Fews plans) (w : World) {A : Nat → Prop} (h : Incs w A o l) (h2 : Uns w A o2 units) (h3 : Plns w A o3 plans) :
    Calls Tryd.prog 39 #[.slice o l.length c, .slice o2 units.length c2, .slice o3 plans.length c3] w fun e w' => e = .returned (.int .i64 (missing l units plans)) ∧ Grow w w' := by
  refine nf39 o l.length c o2 units.length c2 o3 plans.length c3 w _ ⟨fun n m x w' => ∃ i : Nat, x = (i : Int) ∧ i ≤ l.length ∧ n = l.length - i ∧ m = (needs (l.take i) units plans : Int) ∧ Grow w w', ⟨_, 0, rfl, Nat.zero_le _, rfl, by simp [needs], Only.refl _ _⟩, ?_⟩
  rintro n _ w5 _ x ⟨i, rfl, hi, rfl, rfl, g5⟩
  refine ⟨fun hlt k10 hk => ?_, fun hge => ?_⟩
  · have hlt : i < l.length := by have := dT hlt; omega
    have hat := List.getElem?_eq_getElem hlt
    obtain ⟨a, ha, hc⟩ := Recs.atE (Recs.grow h g5) hat
    have htk := needs_take (units := units) (plans := plans) hat
    have hnl := need_le (units := units) hp l[i]
    have hnt := needs_le (units := units) hp (l.take i)
    rw [List.length_take] at hnt
    generalize l[i] = y at *
    have c0 := hc 0 _ rfl
    rw [add_zero] at c0
    refine ⟨a, ha, ⟨by omega, by omega⟩, _, c0, _, hc 1 _ rfl, _, hc 2 _ rfl, _, _, _, hc 3 _ rfl, _, hc 4 _ rfl, _, hc 5 _ rfl, _, _, _, hc 6 _ rfl, _, _, _, hc 7 _ rfl, _, hc 8 _ rfl, _, hc 9 _ rfl, fun w34 e34 => ⟨(Row.new e34).there (by simp), fun w36 e36 => ?_⟩⟩
    obtain ⟨r36, g36⟩ := loc e34 e36 rfl
    have G36 := g5.trans' g36
    have fin : ∀ (v : Int) (w' : World), v = (needs (l.take i) units plans : Int) + (need units plans y : Int) → Grow w w' → k10 v w' := fun v w' hv g => hk _ _ fun _ => ⟨_, by omega, i + 1, by rw [wr (by omega)]; omega, hlt, rfl, by rw [hv, htk]; omega, g⟩
    have skip : act y = false → k10 (needs (l.take i) units plans : Int) w36 := fun ha => by
      have h0 : need units plans y = 0 := by unfold need; rw [if_neg (by rw [ha]; exact Bool.false_ne_true)]
      exact fin _ _ (by rw [h0]; omega) G36
    have low : y.urg < 1 ∨ 2 < y.urg → act y = false := fun k => by unfold act; rw [decide_eq_false (by omega : ¬ y.urg = 1), decide_eq_false (by omega : ¬ y.urg = 2)]; rfl
    refine ⟨_, r36.cell rfl, fun h1 => skip (low (.inl (dT h1))), fun h1 => ⟨_, r36.cell rfl, fun h2' => skip (low (.inr (dT h2'))), fun h2' => ⟨_, r36.cell rfl, fun hb => skip ?_, fun hb => ⟨_, r36.cell rfl, fun hm => skip ?_, fun hm w50 e50 => ?_⟩⟩⟩⟩
    · have hb : y.closed = true := hb
      unfold act; rw [hb]; simp
    · have hm : ¬ y.merged = 0 := nT hm
      unfold act; rw [decide_eq_false hm]; simp
    have hact : act y = true := by
      have hb : y.closed = false := hb
      have hm : y.merged = 0 := nF hm
      have e1 : ¬ y.urg < 1 := dF h1
      have e2 : ¬ y.urg > 2 := dF h2'
      have hurg : (decide (y.urg = 1) || decide (y.urg = 2)) = true := by
        rcases (show y.urg = 1 ∨ y.urg = 2 by omega) with e | e
        · rw [decide_eq_true e]; rfl
        · rw [decide_eq_true e, Bool.or_true]
      unfold act; rw [hurg, hb, decide_eq_true hm]; rfl
    have g50 : Grow w36 w50 := only_alloc e50
    have own50 : Own w50 (hs w36) 3 1 (some ⟨hs w36, 0, none⟩) 0 0 (intsV []) := (show Row w50 (hs w36) 3 [] from Row.new e50).own (n := 0) (Nat.le_refl _) rfl (by simp [maxLen])
    refine ⟨fun n o' n' c' x w' => ∃ j : Nat, x = (j : Int) ∧ j ≤ units.length ∧ n = units.length - j ∧ n' = (haveL (units.take j) y.id).length ∧ Own w' (hs w36) 3 1 o' n' c' (intsV (haveL (units.take j) y.id)) ∧ Grow w36 w',
      ⟨_, 0, rfl, Nat.zero_le _, rfl, rfl, own50, g50⟩, ?_⟩
    rintro n2 _ w56 o57 n58 c59 x ⟨j, rfl, hj, rfl, rfl, own56, g56⟩
    have G56 := G36.trans' g56
    refine ⟨fun hlt2 k63 hk63 w72 e72 => ?_, fun hge2 => ⟨_, (r36.grow g56).cell rfl, _, (r36.grow g56).cell rfl, (kinds_c o3 c3 plans y.code y.urg hp w56 (h3.grow G56)).mono ?_⟩⟩
    · have hlt2 : j < units.length := by have := dT hlt2; omega
      have g72 : Grow w56 w72 := only_drew e72
      have hatu := List.getElem?_eq_getElem hlt2
      obtain ⟨a2, ha2, hc2⟩ := Recs.atE (Recs.grow h2 (G56.trans' g72)) hatu
      have hvt := have_take (id := y.id) hatu
      have hvl := have_le (units.take j) y.id
      rw [List.length_take] at hvl
      generalize units[j] = u at *
      have own72 := own56.grow g72
      have z56 := g56.size
      have z72 := g72.size
      refine ⟨a2, ha2, ⟨by omega, by omega⟩, _, hc2 7 _ rfl, _, ((r36.grow g56).grow g72).cell rfl, fun he => ⟨a2, ha2, ⟨by omega, by omega⟩, _, hc2 1 _ rfl, fun w80 e80 => ?_⟩, fun he => hk63 _ _ _ _ fun _ => ?_⟩
      · have he : u.inc = y.id := dT he
        rw [if_pos he] at hvt
        have g80 : Grow w72 w80 := only_alloc e80
        have r80 : Row w80 (hs w72) 3 [.int .i64 u.kind] := Row.new e80
        have z80 := g80.size
        refine push_int (own72.grow g80) r80 (by omega) (by omega) fun o84 c86 w83 p1 p2 => ⟨_, _, _, rfl, hk63 _ _ _ _ fun _ => ?_⟩
        exact ⟨_, by omega, j + 1, by rw [wr (by omega)]; omega, hlt2, rfl, by rw [hvt]; simp, by rw [hvt]; exact p1, ((g56.trans' g72).trans' g80).trans p2 fun b hb k => by have := (own56.base b k).1; omega⟩
      · have he : ¬ u.inc = y.id := dF he
        rw [if_neg he, List.append_nil] at hvt
        exact ⟨_, by omega, j + 1, by rw [wr (by omega)]; omega, hlt2, rfl, by rw [hvt], by rw [hvt]; exact own72, g56.trans' g72⟩
    · have hjf : units.take j = units := List.take_of_length_le (by have := dF hge2; omega)
      rw [hjf] at own56 ⊢
      rintro _ w92 ⟨o93, c95, rfl, hK, g92⟩
      have hvl := have_le units y.id
      refine ⟨_, _, _, rfl, (left_c o93 o57 c95 c59 _ _ (kinds_len hp _ _) (by omega) w92 hK (own56.nums.grow g92)).mono ?_⟩
      rintro _ w97 ⟨o98, c100, rfl, g97⟩
      have hnd : need units plans y = (unmetL (kindsOf plans y.code y.urg) (cnt (haveL units y.id))).length := by unfold need; rw [if_pos hact]
      refine ⟨_, _, _, rfl, fin _ _ ?_ ((G56.trans' g92).trans' g97)⟩
      rw [← hnd, wr (by omega)]
  · have hif : l.take i = l := List.take_of_length_le (by have := dF hge; omega)
    rw [hif]
    have hnl := needs_le (units := units) hp l
    refine ⟨fun n m x w' => ∃ j : Nat, x = (j : Int) ∧ j ≤ units.length ∧ n = units.length - j ∧ m = (needs l units plans : Int) - (freeN (units.take j) : Int) ∧ Grow w w', ⟨_, 0, rfl, Nat.zero_le _, rfl, by simp [freeN], g5⟩, ?_⟩
    rintro n _ w106 _ x ⟨j, rfl, hj, rfl, rfl, g106⟩
    have hfl := free_le (units.take j)
    rw [List.length_take] at hfl
    refine ⟨fun hlt k111 hk => ?_, fun hge2 => ⟨ret_int ?_, g106⟩⟩
    · have hlt : j < units.length := by have := dT hlt; omega
      have hatu := List.getElem?_eq_getElem hlt
      obtain ⟨a2, ha2, hc2⟩ := Recs.atE (Recs.grow h2 g106) hatu
      have hft := free_take hatu
      generalize units[j] = u at *
      refine ⟨a2, ha2, ⟨by omega, by omega⟩, _, hc2 3 _ rfl, fun he => hk _ _ fun _ => ?_, fun he => hk _ _ fun _ => ?_⟩
      · have he : u.state = 1 := dT he
        rw [if_pos he] at hft
        exact ⟨_, by omega, j + 1, by rw [wr (by omega)]; omega, hlt, rfl, by rw [hft, wr (by omega)]; omega, g106⟩
      · have he : ¬ u.state = 1 := dF he
        rw [if_neg he] at hft
        exact ⟨_, by omega, j + 1, by rw [wr (by omega)]; omega, hlt, rfl, by rw [hft]; omega, g106⟩
    · rw [List.take_of_length_le (by have := dF hge2; omega)]; rfl
theorem refLevel_c (o o2 o3 : Option Addr) (c c2 c3 : Nat) (l : List Inc) (units : List Un) (plans : List Pln) (hl : l.length ≤ 1000) (hu : units.length ≤ 1000) (hp : Fews plans) (w : World) {A : Nat → Prop} (h : Incs w A o l) (h2 : Uns w A o2 units) (h3 : Plns w A o3 plans) :
    Calls Tryd.prog 14 #[.slice o l.length c, .slice o2 units.length c2, .slice o3 plans.length c3] w fun e w' => e = .returned (.int .i64 (levelOf (missing l units plans))) ∧ Grow w w' := by
  refine nf14 o l.length c o2 units.length c2 o3 plans.length c3 w _ ((lacking_c o o2 o3 c c2 c3 l units plans hl hu hp w h h2 h3).mono ?_)
  rintro _ w2 ⟨rfl, g2⟩
  refine ⟨_, rfl, fun w4 e4 => ?_⟩
  have g4 : Grow w2 w4 := only_alloc e4
  have r4 : Row w4 (hs w2) 3 (intsV upN) := Row.new e4
  have G4 := g2.trans' g4
  refine ⟨fun n x w' => ∃ q : Nat, x = (q : Int) ∧ q ≤ 5 ∧ n = 5 - q ∧ (∀ (j : Nat) v, j < q → upN[j]? = some v → ¬ missing l units plans ≤ v) ∧ w4 = w', ⟨_, 0, rfl, Nat.zero_le _, rfl, fun j v hj => by omega, rfl⟩, ?_⟩
  rintro n _ _ x ⟨q, rfl, hq, rfl, hno, rfl⟩
  refine ⟨fun hlt => ?_, fun hge3 => ⟨ret_int ?_, G4⟩⟩
  · have hlt : q < 5 := by have := dT hlt; omega
    obtain ⟨v, hv⟩ : ∃ v, upN[q]? = some v := ⟨_, List.getElem?_eq_getElem (show q < upN.length from hlt)⟩
    obtain ⟨a, ha, -, hc⟩ := (r4.nums (A := fun _ => True) trivial) q v hv
    cases ha
    refine ⟨_, rfl, ⟨by omega, by omega⟩, _, hc, fun hle => ⟨ret_int (step_level hv (dT hle) hno).symm, G4⟩, fun hgt => ⟨_, by omega, q + 1, by rw [wr (by omega)]; omega, hlt, rfl, fun j v' hj' hv' => ?_, rfl⟩⟩
    by_cases e : j = q
    · subst e
      rw [hv] at hv'
      cases hv'
      exact dF hgt
    · exact hno j v' (by omega) hv'
  · obtain rfl : q = 5 := by have := dF hge3; omega
    exact (level_all hno).symm

/-! ### few -/
theorem one_c (p : Pln) (o : Option Addr) (c : Nat) (hc : p.code.length ≤ 9223372036854775807) (hk : p.kinds.length ≤ 9223372036854775806) (w : World) {A : Nat → Prop} (h : Nums w A o p.kinds) :
    Calls Tryd.prog 56 #[.agg #[.string (BA p.code), .int .i64 p.urg, .slice o p.kinds.length c]] w fun e w' => ∃ b, e = .returned (.bool b) ∧ Grow w w' := by
  refine nf56 (BA p.code) p.urg o p.kinds.length c w _ fun w1 e1 => ?_
  have g1 : Grow w w1 := only_alloc e1
  have r := Row.new e1
  have no : ∃ b, Ending.returned (.bool false) = .returned (.bool b) ∧ Grow w w1 := ⟨_, rfl, g1⟩
  refine ⟨_, r.cell rfl, fun _ => no, fun _ => ⟨_, r.cell rfl, fun _ => no, fun _ => ⟨_, r.cell rfl, fun _ => no, fun _ => ⟨_, r.cell rfl, fun _ => no, fun _ => ⟨_, _, _, r.cell rfl, fun _ => no, fun _ => ⟨_, _, _, r.cell rfl, fun _ => no, fun _ => ?_⟩⟩⟩⟩⟩⟩
  refine ⟨fun n x w' => ∃ i : Nat, x = (i : Int) ∧ i ≤ p.code.length ∧ n = p.code.length - i ∧ w1 = w', ⟨_, 0, rfl, Nat.zero_le _, rfl, rfl⟩, ?_⟩
  rintro n _ _ x ⟨i, rfl, hi, rfl, rfl⟩
  refine ⟨_, r.cell rfl, ?_⟩
  rw [BA_size]
  refine ⟨fun hlt => ?_, fun _ => ?_⟩
  · have hlt : i < p.code.length := by have := dT hlt; omega
    have hb : byteAt (BA p.code) ((i : Int)).toNat = some p.code[i] := by rw [toNat_cast, BA_at]; exact List.getElem?_eq_getElem hlt
    exact ⟨_, r.cell rfl, _, ⟨by omega, hb⟩, fun _ => no, fun _ => ⟨_, r.cell rfl, _, ⟨by omega, hb⟩, fun _ => no, fun _ => ⟨_, by omega, i + 1, by rw [wr (by omega)]; omega, hlt, rfl, rfl⟩⟩⟩
  · refine ⟨fun n x w' => ∃ i : Nat, x = (i : Int) ∧ i ≤ p.kinds.length ∧ n = p.kinds.length - i ∧ w1 = w', ⟨_, 0, rfl, Nat.zero_le _, rfl, rfl⟩, ?_⟩
    rintro n _ _ x ⟨i, rfl, hi, rfl, rfl⟩
    refine ⟨_, _, _, r.cell rfl, fun hlt => ?_, fun _ => ⟨_, rfl, g1⟩⟩
    have hlt : i < p.kinds.length := by have := dT hlt; omega
    obtain ⟨a, ha, hc⟩ := (h.grow g1).get hlt
    exact ⟨_, _, _, r.cell rfl, a, ha, ⟨by omega, by omega⟩, _, hc, fun _ => no, fun _ => ⟨_, _, _, r.cell rfl, a, ha, ⟨by omega, by omega⟩, _, hc, fun _ => no, fun _ => ⟨_, by omega, i + 1, by rw [wr (by omega)]; omega, hlt, rfl, rfl⟩⟩⟩
def FitPl (l : List Pln) : Prop := l.length ≤ 9223372036854775806 ∧ ∀ p ∈ l, p.code.length ≤ 9223372036854775807 ∧ p.kinds.length ≤ 9223372036854775806
theorem small_c (o : Option Addr) (c : Nat) (l : List Pln) (hf : FitPl l) (w : World) {A : Nat → Prop} (h : Plns w A o l) :
    Calls Tryd.prog 35 #[.slice o l.length c] w fun e w' => ∃ b, e = .returned (.bool b) ∧ (b = true → Fews l) ∧ w = w' := by
  have hl := hf.1
  have no : ∃ b, Ending.returned (.bool false) = .returned (.bool b) ∧ (b = true → Fews l) ∧ w = w := ⟨_, rfl, (fun k => by cases k), rfl⟩
  refine nf35 o l.length c w _ ⟨fun n x w' => ∃ i : Nat, x = (i : Int) ∧ i ≤ l.length ∧ n = l.length - i ∧ (∀ (j : Nat) p, j < i → l[j]? = some p → p.kinds.length ≤ 20) ∧ w = w', ⟨_, 0, rfl, Nat.zero_le _, rfl, fun j p hj => by omega, rfl⟩, ?_⟩
  rintro n _ _ x ⟨i, rfl, hi, rfl, hno, rfl⟩
  refine ⟨fun hlt => ?_, fun hge => ⟨fun h40 => ⟨_, rfl, fun _ => ⟨by have := dT h40; omega, fun p hp => ?_⟩, rfl⟩, fun _ => no⟩⟩
  · have hlt : i < l.length := by have := dT hlt; omega
    have hat := List.getElem?_eq_getElem hlt
    obtain ⟨a, oi, ci, ha, h0, h1, h2, -⟩ := h.at hat
    generalize l[i] = p at *
    refine ⟨a, ha, ⟨by omega, by omega⟩, _, h0, fun _ => no, fun _ => ⟨a, ha, ⟨by omega, by omega⟩, _, _, _, h2, fun _ => no, fun hk => ⟨_, by omega, i + 1, by rw [wr (by omega)]; omega, hlt, rfl, fun j q hj hq => ?_, rfl⟩⟩⟩
    by_cases e : j = i
    · subst e
      rw [hat] at hq
      cases hq
      have := dF hk
      omega
    · exact hno j q (by omega) hq
  · obtain ⟨j, hj, e⟩ := List.getElem_of_mem hp
    have := hno j p (by have := dF hge; omega) (by rw [List.getElem?_eq_getElem hj]; exact congrArg some e)
    omega
theorem rightP_c (o : Option Addr) (c : Nat) (l : List Pln) (hf : FitPl l) (w : World) {A : Nat → Prop} (h : Plns w A o l) :
    Calls Tryd.prog 36 #[.slice o l.length c] w fun e w' => ∃ x, e = .returned (.int .i64 x) ∧ Grow w w' := by
  have hl := hf.1
  refine nf36 o l.length c w _ ⟨fun n x w' => ∃ i : Nat, x = (i : Int) ∧ i ≤ l.length ∧ n = l.length - i ∧ Grow w w', ⟨_, 0, rfl, Nat.zero_le _, rfl, Only.refl _ _⟩, ?_⟩
  rintro n _ w5 x ⟨i, rfl, hi, rfl, g5⟩
  refine ⟨fun hlt => ?_, fun hge => ⟨_, rfl, g5⟩⟩
  have hlt : i < l.length := by have := dT hlt; omega
  have hat := List.getElem?_eq_getElem hlt
  obtain ⟨a, oi, ci, ha, h0, h1, h2, hN⟩ := (h.grow g5).at hat
  have hfp := hf.2 _ (List.getElem_mem hlt)
  generalize l[i] = p at *
  refine ⟨a, ha, ⟨by omega, by omega⟩, _, h0, _, h1, _, _, _, h2, (one_c p oi ci hfp.1 hfp.2 w5 hN).mono ?_⟩
  rintro _ w16 ⟨b, rfl, g16⟩
  have G16 := g5.trans' g16
  refine ⟨_, rfl, fun _ => ⟨fun n x w' => ∃ k : Nat, x = (k : Int) ∧ k ≤ i ∧ n = i - k ∧ Grow w w', ⟨_, 0, rfl, Nat.zero_le _, rfl, G16⟩, ?_⟩, fun _ => ⟨_, rfl, G16⟩⟩
  rintro n2 _ w23 x ⟨k, rfl, hk, rfl, g23⟩
  refine ⟨fun hlt2 w27 e27 => ?_, fun _ => ⟨_, by omega, i + 1, by rw [wr (by omega)]; omega, hlt, rfl, g23⟩⟩
  have hlt2 : k < i := by have := dT hlt2; omega
  have g27 := g23.trans' (only_drew e27)
  obtain ⟨b1, o1, c1, hb1, m0, m1, -, -⟩ := (h.grow g27).at (List.getElem?_eq_getElem (show k < l.length by omega))
  obtain ⟨b2, o2, c2, hb2, n0, n1, -, -⟩ := (h.grow g27).at hat
  have next : ∃ n, n < i - k ∧ ∃ k' : Nat, IntKind.wrap .i64 ((k : Int) + 1) = (k' : Int) ∧ k' ≤ i ∧ n = i - k' ∧ Grow w w27 := ⟨_, by omega, k + 1, by rw [wr (by omega)]; omega, hlt2, rfl, g27⟩
  exact ⟨b1, hb1, ⟨by omega, by omega⟩, _, m0, b2, hb2, ⟨by omega, by omega⟩, _, n0, fun _ => ⟨b1, hb1, ⟨by omega, by omega⟩, _, m1, b2, hb2, ⟨by omega, by omega⟩, _, n1, fun _ => ⟨_, rfl, g27⟩, fun _ => next⟩, fun _ => next⟩
theorem few_c (o o2 o3 : Option Addr) (n1 n2 c c2 c3 : Nat) (plans : List Pln) (hf : FitPl plans) (w : World) {A : Nat → Prop} (h3 : Plns w A o3 plans) :
    Calls Tryd.prog 12 #[.slice o n1 c, .slice o2 n2 c2, .slice o3 plans.length c3] w fun e w' => ∃ b, e = .returned (.bool b) ∧ (b = true → n1 ≤ 30 ∧ n2 ≤ 40 ∧ Fews plans) ∧ Grow w w' := by
  have no : ∀ {w' : World}, Grow w w' → ∃ b, Ending.returned (.bool false) = .returned (.bool b) ∧ (b = true → n1 ≤ 30 ∧ n2 ≤ 40 ∧ Fews plans) ∧ Grow w w' := fun g => ⟨_, rfl, (fun k => by cases k), g⟩
  refine nf12 o n1 c o2 n2 c2 o3 plans.length c3 w _ ⟨fun h1 => ⟨fun h2 => (small_c o3 c3 plans hf w h3).mono ?_, fun _ => no (Only.refl _ _)⟩, fun _ => no (Only.refl _ _)⟩
  rintro _ _ ⟨b, rfl, hb, rfl⟩
  refine ⟨_, rfl, fun hb' => (rightP_c o3 c3 plans hf w h3).mono ?_, fun _ => no (Only.refl _ _)⟩
  rintro _ w8 ⟨x, rfl, g8⟩
  exact ⟨_, rfl, fun _ => ⟨_, rfl, fun _ => ⟨by have := dT h1; omega, by have := dT h2; omega, hb hb'⟩, g8⟩, fun _ => no g8⟩
end Go.Proofs.YtolpmdmcbciccaaDoor
