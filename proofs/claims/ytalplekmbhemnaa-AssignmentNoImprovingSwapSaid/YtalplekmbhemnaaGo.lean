/- The law AssignmentNoImprovingSwap: it returns true and writes nothing old. -/
import Derived.Test.YtalplekmbhemnaaPh
namespace Go.Proofs.Ytalplekmbhemnaa
open Go Go.Nf

theorem few_lt {rows : List (List Int)} {k : Int} (h : (rows.all (fun r => decide (r.length ≤ 70)) && decide ((rows.length : Int) ≤ k)) = true) : (rows.length : Int) ≤ k := by
  rw [Bool.and_eq_true] at h; exact dT h.2

set_option maxRecDepth 10000 in
set_option maxHeartbeats 4000000 in
theorem swap_law (o : Option Addr) (c : Nat) (rows : List (List Int)) (w : World) {A0 : Nat → Prop} (h : Mat w A0 o rows) (hlong : rows.length ≤ 9223372036854775807) :
    Calls Try.prog 3 #[.slice o rows.length c] w (Tru w) := by
  refine nf3 o rows.length c w _ ((alive_c w).mono ?_)
  rintro _ w1 ⟨rfl, g1⟩
  refine ⟨_, rfl, bT ((few_c o c rows 40 w1 (h.grow g1) hlong).mono ?_)⟩
  rintro _ _ ⟨rfl, rfl⟩
  refine ⟨_, rfl, fun hf => ?_, fun _ => ⟨rfl, g1⟩⟩
  have hlen := few_lt hf
  refine (Solve_c o c rows w1 (h.grow g1)).mono ?_
  rintro _ w2 ⟨g2, hs2⟩
  have g2 := g1.trans' g2
  rcases hs2 with ⟨he, rfl⟩ | ⟨he, b, m, rfl, rm, hb, hbest⟩
  · refine ⟨_, _, _, _, _, rfl, (right_c o c rows w2 (h.grow g2)).mono ?_⟩
    rintro _ _ ⟨rfl, rfl⟩
    exact ⟨_, rfl, nyes he (yes rfl (yes rfl (yes rfl ⟨rfl, g2⟩)))⟩
  refine ⟨_, _, _, _, _, rfl, (right_c o c rows w2 (h.grow g2)).mono ?_⟩
  rintro _ _ ⟨rfl, rfl⟩
  have hv := hbest.valid
  have hml := hv.len
  have he0 := he
  obtain ⟨k1, k2, k3⟩ := hv.costs he
  obtain ⟨_, _, hr⟩ := err0 he
  have hrow : ∀ r ∈ rows, r.length = first rows := fun r hr' => (hr r hr').1
  have hC := first_le he
  have cc := cost_c o (some ⟨b, 0, none⟩) c rows.length rows m w2 (A' := fun _ => True) (h.grow g2) (rm.nums trivial)
  rw [hml] at cc
  refine ⟨_, rfl, nno he (nno rfl (cc.mono ?_))⟩
  rintro _ _ ⟨rfl, rfl⟩
  refine ⟨_, _, _, rfl, nno k1 (nno k3 fun k44 hk44 => ?_)⟩
  have key : ∀ w', w2 = w' → k44 ((first rows : Nat) : Int) w' := by
    rintro _ rfl
    refine hk44 w2 _ fun _ => make_bools (by omega) fun w3 r3 g3 l3 => ⟨_, _, _, rfl, ?_⟩
    refine ⟨fun n x w' => ∃ (t : Nat) (had : List Bool), x = (t : Int) ∧ t ≤ rows.length ∧ n = rows.length - t ∧ had.length = first rows ∧ (∀ d, d < first rows → (gB had d = true ↔ ∃ i, i < t ∧ gm m i = (d : Int))) ∧ Row w' (hs w2) 4 (boolsV had) ∧ Only (fun b => b = hs w2) w2 w', ⟨_, 0, _, rfl, Nat.zero_le _, rfl, by simp, fun d hd => by simp [gB, hd], r3, g3.only⟩, ?_⟩
    clear r3 g3 l3
    rintro n _ w3 x ⟨t, had, rfl, ht, rfl, lh, hh, r3, g3⟩
    have rm3 := rm.keep g3 (by have := rm.lt; omega)
    refine ⟨fun hlt => ?_, fun hge => ?_⟩
    · have hlt : t < rows.length := by have := dT hlt; omega
      have egm : gI m t = gm m t := by unfold gI gm; rw [List.getElem?_eq_getElem (by omega)]; rfl
      have cm := Row.int rm3 (j := t) (by omega)
      rw [egm] at cm
      refine ⟨_, rfl, ⟨by omega, by omega⟩, _, cm, fun h0 => ?_, fun h0 => ?_⟩
      · have h0 := dT h0
        obtain ⟨h1, h2, h4⟩ := (hv.ok t hlt).resolve_left (by omega)
        obtain ⟨d, hd⟩ : ∃ d : Nat, gm m t = (d : Int) := ⟨(gm m t).toNat, by omega⟩
        rw [hd]
        refine ⟨_, rfl, ⟨by omega, by omega⟩, Row.thereB r3 (by omega), fun w4 e4 => ⟨_, by omega, t + 1, had.set d true, by rw [wr (by omega)]; omega, hlt, rfl, by simpa using lh, fun d' hd' => ?_, Row.setB r3 e4, g3.trans' (only_setAdd e4)⟩⟩
        rw [gB_set (by omega)]
        by_cases e : d' = d
        · subst e; rw [if_pos rfl]; exact ⟨fun _ => ⟨t, by omega, hd⟩, fun _ => rfl⟩
        · rw [if_neg e, hh d' hd']
          refine ⟨fun ⟨i, h1, h2⟩ => ⟨i, by omega, h2⟩, fun ⟨i, h1, h2⟩ => ⟨i, ?_, h2⟩⟩
          have : i ≠ t := fun e' => by subst e'; omega
          omega
      · have h0 := dF h0
        refine ⟨_, by omega, t + 1, had, by rw [wr (by omega)]; omega, hlt, rfl, lh, fun d' hd' => ?_, r3, g3⟩
        rw [hh d' hd']
        refine ⟨fun ⟨i, h1, h2⟩ => ⟨i, by omega, h2⟩, fun ⟨i, h1, h2⟩ => ⟨i, ?_, h2⟩⟩
        have : i ≠ t := fun e' => by subst e'; omega
        omega
    have hge := dF hge
    obtain rfl : t = rows.length := by omega
    refine ⟨fun n x w' => ∃ i : Nat, x = (i : Int) ∧ i ≤ rows.length ∧ n = rows.length - i ∧ Grow w3 w', ⟨_, 0, rfl, Nat.zero_le _, rfl, Only.refl _ _⟩, ?_⟩
    rintro n _ w4 x ⟨i, rfl, hi, rfl, g4⟩
    have G3 : Grow w w3 := g2.trans g3 fun i hi e => by have := g2.size; omega
    refine ⟨fun hlt => ?_, fun hge => ⟨rfl, G3.trans' g4⟩⟩
    have hlt : i < rows.length := by have := dT hlt; omega
    have rm4 := rm3.grow g4
    have egm : gI m i = gm m i := by unfold gI gm; rw [List.getElem?_eq_getElem (by omega)]; rfl
    have cm := Row.int rm4 (j := i) (by omega)
    rw [egm] at cm
    refine ⟨_, rfl, ⟨by omega, by omega⟩, _, cm, fun n x w' => ∃ d : Nat, x = (d : Int) ∧ d ≤ first rows ∧ n = first rows - d ∧ Grow w4 w', ⟨_, 0, rfl, Nat.zero_le _, rfl, Only.refl _ _⟩, ?_⟩
    rintro n _ w5 x ⟨d, rfl, hd, rfl, g5⟩
    refine ⟨fun hlt2 => ?_, fun hge2 => ?_⟩
    · have hd : d < first rows := by have := dT hlt2; omega
      have r5 := (r3.grow g4).grow g5
      have skip : ∀ w', Grow w5 w' → ∃ n, n < first rows - d ∧ ∃ d' : Nat, IntKind.wrap .i64 ((d : Int) + 1) = (d' : Int) ∧ d' ≤ first rows ∧ n = first rows - d' ∧ Grow w4 w' := fun w' g => ⟨_, by omega, d + 1, by rw [wr (by omega)]; omega, hd, rfl, g5.trans' g⟩
      obtain ⟨a, oi, ci, ha, c1, a', ha', c2⟩ := mat_cell (((h.grow G3).grow g4).grow g5) hrow hlt hd
      refine ⟨_, rfl, ⟨by omega, by omega⟩, _, Row.bool r5 (by omega), fun _ => skip w5 (Only.refl _ _), fun hno => ⟨a, ha, ⟨by omega, by omega⟩, _, _, _, c1, a', ha', ⟨by omega, by omega⟩, _, c2, fun _ => skip w5 (Only.refl _ _), fun hfin w6 e6 => ?_⟩⟩
      have hfin := dF hfin
      have hfree : ∀ k, k < rows.length → gm m k ≠ (d : Int) := fun k hk e => by
        rw [(hh d hd).2 ⟨k, hk, e⟩] at hno; cases hno
      obtain ⟨f1, f2, f3⟩ := hbest.free hlt hd hfree hfin
      obtain ⟨o1, o2, o3⟩ := (hv.ok i hlt).resolve_left f1
      obtain ⟨e, he'⟩ : ∃ e : Nat, gm m i = (e : Int) := ⟨(gm m i).toNat, by omega⟩
      have gd : Grow w5 w6 := only_drew e6
      have H6 := (((h.grow G3).grow g4).grow g5).grow gd
      obtain ⟨a, oi, ci, ha, c1, a', ha', c2⟩ := mat_cell H6 hrow hlt hd
      obtain ⟨a2, oi2, ci2, ha2, c3, a2', ha2', c4⟩ := mat_cell H6 hrow (i := i) (j := e) hlt (by omega)
      rw [he'] at f2 f3 ⊢
      refine no (by omega) ⟨a, ha, ⟨by omega, by omega⟩, _, _, _, c1, a', ha', ⟨by omega, by omega⟩, _, c2, a2, ha2, ⟨by omega, by omega⟩, _, _, _, c3, a2', ha2', ⟨by omega, by omega⟩, _, c4, no (by omega) ⟨a, ha, ⟨by omega, by omega⟩, _, _, _, c1, a', ha', ⟨by omega, by omega⟩, _, c2, a2, ha2, ⟨by omega, by omega⟩, _, _, _, c3, a2', ha2', ⟨by omega, by omega⟩, _, c4, fun heq => no (fun hlt => f3 ⟨dT heq, hlt⟩) (skip w6 gd), fun _ => skip w6 gd⟩⟩
    · have rm5 := rm4.grow g5
      have esl : (if rows.length = 0 then (some ⟨b, 0, none⟩ : Option Addr) else Option.map (fun x => x) (some ⟨b, 0, none⟩)) = some ⟨b, 0, none⟩ := by split <;> rfl
      rw [esl]
      refine ⟨⟨by omega, by omega⟩, fun n x w' => ∃ k : Nat, x = (k : Int) ∧ k ≤ i ∧ n = i - k ∧ Grow w5 w', ⟨_, 0, rfl, Nat.zero_le _, rfl, Only.refl _ _⟩, ?_⟩
      rintro n _ w6 x ⟨k, rfl, hk, rfl, g6⟩
      refine ⟨fun hlt3 => ?_, fun hge3 => ⟨_, ?_, i + 1, by rw [wr (by omega)]; omega, hlt, rfl, (g4.trans' g5).trans' g6⟩⟩
      · have hk : k < i := by have := dT hlt3; rw [toNat_cast] at this; omega
        have skip : ∀ w', Grow w6 w' → ∃ n, n < i - k ∧ ∃ k' : Nat, IntKind.wrap .i64 ((k : Int) + 1) = (k' : Int) ∧ k' ≤ i ∧ n = i - k' ∧ Grow w5 w' := fun w' g => ⟨_, by omega, k + 1, by rw [wr (by omega)]; omega, hk, rfl, g6.trans' g⟩
        have egk : gI m k = gm m k := by unfold gI gm; rw [List.getElem?_eq_getElem (by omega)]; rfl
        have ck := Row.int (rm5.grow g6) (j := k) (by omega)
        rw [egk] at ck
        refine ⟨_, rfl, ⟨by omega, by rw [toNat_cast]; omega⟩, _, ck, fun _ => skip w6 (Only.refl _ _), fun h1 => ⟨fun _ => skip w6 (Only.refl _ _), fun h2 => ?_⟩⟩
        have h1 := dF h1
        have h2 := dF h2
        obtain ⟨p1, p2, p3⟩ := (hv.ok i hlt).resolve_left (by omega)
        obtain ⟨q1, q2, q3⟩ := (hv.ok k (by omega)).resolve_left (by omega)
        obtain ⟨e, he⟩ : ∃ e : Nat, gm m i = (e : Int) := ⟨(gm m i).toNat, by omega⟩
        obtain ⟨f, hf⟩ : ∃ f : Nat, gm m k = (f : Int) := ⟨(gm m k).toNat, by omega⟩
        have H6 := (((h.grow G3).grow g4).grow g5).grow g6
        obtain ⟨a, oi, ci, ha, c1, a', ha', c2⟩ := mat_cell H6 hrow (i := i) (j := f) hlt (by omega)
        obtain ⟨a2, oi2, ci2, ha2, c3, a2', ha2', c4⟩ := mat_cell H6 hrow (i := k) (j := e) (by omega) (by omega)
        have sw := hbest.swap hlt hk (by omega) (by omega)
        rw [he, hf] at sw ⊢
        rw [he] at p3
        rw [hf] at q3
        refine ⟨a, ha, ⟨by omega, by omega⟩, _, _, _, c1, a', ha', ⟨by omega, by omega⟩, _, c2, fun _ => skip w6 (Only.refl _ _), fun h3 => ⟨a2, ha2, ⟨by omega, by omega⟩, _, _, _, c3, a2', ha2', ⟨by omega, by omega⟩, _, c4, fun _ => skip w6 (Only.refl _ _), fun h4 w7 e7 => ?_⟩⟩
        have sw := sw (dF h3) (dF h4)
        have gd : Grow w6 w7 := only_drew e7
        have H7 := H6.grow gd
        obtain ⟨a, oi, ci, ha, c1, a', ha', c2⟩ := mat_cell H7 hrow (i := i) (j := f) hlt (by omega)
        obtain ⟨a2, oi2, ci2, ha2, c3, a2', ha2', c4⟩ := mat_cell H7 hrow (i := k) (j := e) (by omega) (by omega)
        obtain ⟨a3, oi3, ci3, ha3, c5, a3', ha3', c6⟩ := mat_cell H7 hrow (i := i) (j := e) hlt (by omega)
        obtain ⟨a4, oi4, ci4, ha4, c7, a4', ha4', c8⟩ := mat_cell H7 hrow (i := k) (j := f) (by omega) (by omega)
        have b1 := at2_bd he0 (dF h3)
        have b2 := at2_bd he0 (dF h4)
        have b3 := at2_bd he0 p3
        have b4 := at2_bd he0 q3
        refine ⟨a, ha, ⟨by omega, by omega⟩, _, _, _, c1, a', ha', ⟨by omega, by omega⟩, _, c2, a2, ha2, ⟨by omega, by omega⟩, _, _, _, c3, a2', ha2', ⟨by omega, by omega⟩, _, c4, a3, ha3, ⟨by omega, by omega⟩, _, _, _, c5, a3', ha3', ⟨by omega, by omega⟩, _, c6, a4, ha4, ⟨by omega, by omega⟩, _, _, _, c7, a4', ha4', ⟨by omega, by omega⟩, _, c8, no ?_ (skip w7 gd)⟩
        rw [wr (by omega), wr (by omega)]; omega
      · omega
  refine ⟨fun hpos => ?_, fun hnp => ?_⟩
  · have hpos : 0 < rows.length := by have := dT hpos; omega
    obtain ⟨a, oi, ci, ha, hc, hn⟩ := (h.grow g2).get0 hpos
    rw [hrow _ (List.getElem_mem hpos)] at hc
    exact ⟨a, ha, ⟨by omega, by omega⟩, _, _, _, hc, key w2 rfl⟩
  · have hnp := dF hnp
    have e0 : rows = [] := List.eq_nil_of_length_eq_zero (by omega)
    have : first rows = 0 := by rw [e0]; rfl
    have k := key w2 rfl
    rw [this] at k; exact k
end Go.Proofs.Ytalplekmbhemnaa
