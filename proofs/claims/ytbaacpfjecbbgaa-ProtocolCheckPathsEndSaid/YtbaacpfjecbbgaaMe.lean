/- The reference's End. -/
import Derived.Test.YtbaacpfjecbbgaaKk
namespace Go.Proofs.Ytbaacpfjecbbgaa
open Go Go.Nf

theorem cell_lt {w : World} {a : Addr} {v : Value} (h : w.cell? a = some v) : a.block < hs w := by
  rcases Nat.lt_or_ge a.block w.heap.size with hb | hb
  · exact hb
  · unfold World.cell? at h
    rw [Array.getElem?_eq_none hb] at h
    cases h
theorem kept_cell {w w' : World} {a : Addr} {v : Value} {n : Nat} (h : w.cell? a = some v) (g : Grow w w') : Kept w w' a n := kept_addr g (cell_lt h) fun h => h
theorem drop_cons {l : List Int} {j : Nat} (h : j < l.length) : l.drop j = l[j] :: l.drop (j + 1) := List.drop_eq_getElem_cons h
set_option maxHeartbeats 2000000 in
theorem endRef_c (o ow : Option Addr) (c cw : Nat) (p : Prot) (way : List Int) (hv : validB p = true) (hl : way.length ≤ 1000000) (h0w : ∀ k, k ∈ way → 0 ≤ k) (w : World) {A A' : Nat → Prop} (h : Qs w A o p.qs) (hs' : Nums w A' ow way) :
    Calls Try.prog 67 #[.agg #[.string p.name, .int .i64 p.version, .slice o p.qs.length c], .slice ow way.length cw] w fun e w' => e = .returned (.int .i64 (endW p.qs 0 way)) ∧ Grow w w' := by
  refine nf67 p.name p.version o p.qs.length c ow way.length cw w _ fun w1 e1 => ?_
  have r := Row.new e1
  have g : Grow w w1 := only_alloc e1
  refine ⟨fun k x y w' => ∃ (j q : Nat), x = (q : Int) ∧ y = (j : Int) ∧ j ≤ way.length ∧ k = way.length - j ∧ endW p.qs 0 way = endW p.qs q (way.drop j) ∧ Grow w1 w', ⟨_, 0, 0, rfl, rfl, Nat.zero_le _, rfl, rfl, Only.refl _ _⟩, ?_⟩
  rintro k _ w7 _ _ ⟨j, q, rfl, rfl, hj, rfl, hE, g7⟩
  refine ⟨fun hlt w12 e12 => ?_, fun hge => ⟨ret_int ?_, g.trans' g7⟩⟩
  · have hlt : j < way.length := by have := dT hlt; omega
    have g12 : Grow w1 w12 := g7.trans' (only_drew e12)
    have G12 := g.trans' g12
    have r12 := r.grow g12
    rw [drop_cons hlt] at hE
    have hk0 := h0w _ (List.getElem_mem hlt)
    obtain ⟨aw, haw, hcw⟩ := (hs'.grow G12).get hlt
    generalize way[j] = kk at *
    obtain ⟨m, rfl⟩ : ∃ m : Nat, kk = (m : Int) := ⟨kk.toNat, by omega⟩
    refine ⟨fun hneg => absurd (dT hneg) (by omega), fun _ => ⟨_, _, _, r12.cell rfl, fun hq => ⟨ret_int ?_, G12⟩, fun hq => ?_⟩⟩
    · have hq := dT hq
      rw [hE, endW, List.getElem?_eq_none (by omega)]
    have hq : q < p.qs.length := by have := dF hq; omega
    have hqs : p.qs[q]? = some p.qs[q] := List.getElem?_eq_getElem hq
    have hqm := List.getElem_mem hq
    obtain ⟨a3, oi, ci, ha3, hc0, hc1, hr3⟩ := (h.grow G12).get hq
    have hans := (valid_of hv).ans _ hqm
    have hok : ∀ a, a ∈ p.qs[q].ans → OkAns p.qs a := fun a ha => ok_ans hv hqm ha
    generalize p.qs[q] = s at *
    refine ⟨aw, haw, ⟨by omega, by omega⟩, _, hcw, fun hneg => absurd (dT hneg) (by omega), fun _ => ⟨aw, haw, ⟨by omega, by omega⟩, _, hcw, _, _, _, r12.cell rfl, a3, ha3, ⟨by omega, by omega⟩, _, _, _, hc1, fun hk => ⟨ret_int ?_, G12⟩, fun hk w36 e36 => ?_⟩⟩
    · have hk := dT hk
      rw [hE, endW, hqs]
      simp only [toNat_cast]
      rw [List.getElem?_eq_none (by omega)]
    have hk : m < s.ans.length := by have := dF hk; omega
    have g36 : Grow w12 w36 := only_drew e36
    have r36 := r12.grow g36
    have hcw' := cell_keep g36 (fun h => h) hcw
    have hc1' := cell_keep g36 (fun h => h) hc1
    obtain ⟨a4, ha4, d0, d1, d2, d3⟩ := Recs.ans (hr3.grow g36) hk
    have ha : s.ans[m]? = some s.ans[m] := List.getElem?_eq_getElem hk
    have hok' := hok _ (List.getElem_mem hk)
    generalize s.ans[m] = x at *
    refine ⟨_, _, _, r36.cell rfl, a3, ha3, ⟨by omega, by omega⟩, _, _, _, hc1', aw, haw, ⟨by omega, by omega⟩, _, hcw', a4, ha4, ⟨by omega, by omega⟩, _, d0, _, d1, _, d2, _, d3, fun w52 e52 => ?_⟩
    have g52 : Grow w36 w52 := only_alloc e52
    refine ⟨kept_cell d0 g52, kept_cell hcw' g52, kept_cell hc1' g52, kept_only g52 r36.lt (fun h => h), (Row.new e52).there (by simp), fun w54 e54 => ?_⟩
    obtain ⟨r54, g54⟩ := loc e52 e54 rfl
    have G54 := (G12.trans' g36).trans' g54
    refine ⟨_, r54.cell rfl, fun hn => ⟨fun hm => ⟨ret_int ?_, G54⟩, fun hm => ⟨_, r54.cell rfl, ret_int ?_, G54⟩⟩, fun hn => ⟨_, r54.cell rfl, _, ?_, j + 1, x.next.toNat, ?_, by rw [wr (by omega)]; omega, hlt, rfl, ?_, (g12.trans' g36).trans' g54⟩⟩
    · have hn := dT hn
      have hm := dT hm
      rw [wr (by omega)] at hm
      rw [hE, endW, hqs]
      simp only [toNat_cast, ha]
      rw [if_pos (by omega), if_neg]
      intro e
      have := congrArg List.length e
      simp at this
      omega
    · have hn := dT hn
      have hm := dF hm
      rw [wr (by omega)] at hm
      rw [hE, endW, hqs]
      simp only [toNat_cast, ha]
      rw [if_pos (by omega), if_pos]
      exact List.drop_eq_nil_of_le (by omega)
    · omega
    · have hn := dF hn
      have := hok'.low
      omega
    · have hn := dF hn
      have := hok'.low
      rw [hE, endW, hqs]
      simp only [toNat_cast, ha]
      rw [if_neg (by omega)]
  · have := dF hge
    rw [hE, List.drop_eq_nil_of_le (by omega), endW]
end Go.Proofs.Ytbaacpfjecbbgaa
