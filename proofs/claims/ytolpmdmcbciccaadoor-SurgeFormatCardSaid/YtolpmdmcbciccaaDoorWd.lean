/- Contracts: SetLevel, Complete, OpenSteps, Level, New. -/
import Derived.Test.YtolpmdmcbciccaaDoorWc
namespace Go.Proofs.YtolpmdmcbciccaaDoor
open Go Go.Nf Go.RowKit

theorem elem85 : Elem Tryd.prog 85 4 1 1 := elem_of (by kernel_rfl)
theorem elem82 : Elem Tryd.prog 82 85 1 24 := elem_of (by kernel_rfl)
theorem und85 : Tryd.prog.underlying 85 = some (.slice 4) := of_slice (by kernel_rfl)
theorem zeroL4 : zeroL Tryd.prog 4 = some [.bool false] := by kernel_rfl
/-! ### plain -/
theorem flat_at {steps : List (List Str)} {i j : Nat} {l l' : List Str} {s : Str} (hn : steps.flatten.Nodup) (hi : steps[i]? = some l) (hj : steps[j]? = some l') (h : s ∈ l) (h' : s ∈ l') : i = j := by
  have hp := (List.pairwise_flatten.1 hn).2
  obtain ⟨q1, q2⟩ := List.getElem?_eq_some_iff.1 hi
  obtain ⟨q3, q4⟩ := List.getElem?_eq_some_iff.1 hj
  have hp := List.pairwise_iff_getElem.1 hp
  rcases Nat.lt_trichotomy i j with k | k | k
  · exact absurd rfl (hp i j q1 q3 k s (by rw [q2]; exact h) s (by rw [q4]; exact h'))
  · exact k
  · exact absurd rfl (hp j i q3 q1 k s (by rw [q4]; exact h') s (by rw [q2]; exact h))
theorem flat_row {steps : List (List Str)} {i : Nat} {l : List Str} (hn : steps.flatten.Nodup) (hi : steps[i]? = some l) : l.Nodup := (List.pairwise_flatten.1 hn).1 l (List.mem_of_getElem? hi)
theorem row_at {l : List Str} {j k : Nat} {s : Str} (hn : l.Nodup) (hj : l[j]? = some s) (hk : l[k]? = some s) : j = k := by
  obtain ⟨q1, q2⟩ := List.getElem?_eq_some_iff.1 hj
  obtain ⟨q3, q4⟩ := List.getElem?_eq_some_iff.1 hk
  have hp := List.pairwise_iff_getElem.1 hn
  rcases Nat.lt_trichotomy j k with h | h | h
  · exact absurd (q2.trans q4.symm) (hp j k q1 q3 h)
  · exact h
  · exact absurd (q4.trans q2.symm) (hp k j q3 q1 h)
theorem mem_flat {steps : List (List Str)} {i : Nat} {l : List Str} {s : Str} (hi : steps[i]? = some l) (h : s ∈ l) : s ∈ steps.flatten := List.mem_flatten.2 ⟨l, List.mem_of_getElem? hi, h⟩
def upd (f : Str → Bool) (x : Str) (v : Bool) : Str → Bool := fun s => if s = x then v else f s
theorem rowV_upd {f : Str → Bool} {l : List Str} {j : Nat} {x : Str} {v : Bool} (hn : l.Nodup) (hj : l[j]? = some x) : setFrom (rowV f l) j [.bool v] = rowV (upd f x v) l := by
  have hjl := (List.getElem?_eq_some_iff.1 hj).1
  show (rowV f l).set j (.bool v) = _
  apply List.ext_getElem?
  intro k
  unfold rowV
  rw [List.getElem?_set, List.getElem?_map, List.getElem?_map, List.length_map]
  by_cases e : j = k
  · subst e
    rw [if_pos rfl, if_pos hjl, hj]
    show _ = some (Value.bool (upd f x v x))
    unfold upd; rw [if_pos rfl]
  · rw [if_neg e]
    cases hk : l[k]? with
    | none => rfl
    | some s =>
      show some (Value.bool (f s)) = some (Value.bool (upd f x v s))
      unfold upd
      rw [if_neg]
      rintro rfl
      exact e (row_at hn hj hk)
section
variable {w : World} {B t : Nat} {gs : List Nat} {D : Nat → Prop} {r : Rn}
theorem RunAt.row (h : RunAt w B t gs D r) : ∃ os cs oo co, Row w t 84 (runV os r.steps.length cs oo co r) ∧ Lol w D os r.steps ∧
    ∀ (i : Nat) l, r.steps[i]? = some l → ∃ a g, oo = some a ∧ D a.block ∧ gs[i]? = some g ∧ w.cell? (a.add ((i : Int).toNat * 1)) = some (.slice (some ⟨g, 0, none⟩) l.length l.length) ∧ Row w g 4 (rowV r.f l) := h.ex
/-- one flag is turned -/
theorem RunAt.put {w' : World} {i j g : Nat} {l : List Str} {x : Str} {v : Bool} (h : RunAt w B t gs D r) (hn : r.steps.flatten.Nodup) (hi : r.steps[i]? = some l) (hg : gs[i]? = some g) (hj : l[j]? = some x) (hr : Row w g 4 (rowV r.f l))
    (e : w' = setCells w ((⟨g, 0, none⟩ : Addr).add ((j : Int).toNat * 1)) [.bool v] 0) : RunAt w' B t gs D { r with f := upd r.f x v } ∧ Only (fun b => b = g) w w' := by
  have o : Only (fun b => b = g) w w' := only_setAdd e
  have hr' := hr.setAdd e
  rw [toNat_cast, Nat.mul_one, rowV_upd (flat_row hn hi) hj] at hr'
  refine ⟨h.turn hi hg o hr' fun k l' hk hl' s hs => ?_, o⟩
  unfold upd
  rw [if_neg]
  rintro rfl
  exact hk (flat_at hn hl' hi hs (List.mem_of_getElem? hj))
theorem RunAt.eqf {f' : Str → Bool} (h : RunAt w B t gs D r) (e : ∀ s, s ∈ r.steps.flatten → f' s = r.f s) : RunAt w B t gs D { r with f := f' } := by
  obtain ⟨os, cs, oo, co, k1, k2, k3⟩ := h.ex
  refine ⟨⟨os, cs, oo, co, k1, k2, fun i l hi => ?_⟩, h.nd, h.lo, h.dm⟩
  obtain ⟨a, g, q1, q2, q3, q4, q5⟩ := k3 i l hi
  have : rowV f' l = rowV r.f l := List.map_congr_left fun s hs => by rw [e s (mem_flat hi hs)]
  exact ⟨a, g, q1, q2, q3, q4, by show Row w g 4 (rowV f' l); rw [this]; exact q5⟩
theorem level_c (h : RunAt w B t gs D r) : Calls Tryd.prog 26 #[.pointer (some ⟨t, 0, none⟩)] w fun e w' => e = .returned (.int .i64 (r.level : Int)) ∧ w = w' := by
  obtain ⟨os, cs, oo, co, k1, -⟩ := h.ex
  exact nf26 _ w _ ⟨_, rfl, _, k1.cellAdd rfl, rfl, rfl⟩
/-- what Complete does -/
def doneR (r : Rn) (x : Str) : Rn × Int := if x ∈ r.steps.flatten ∧ r.f x = true then ({ r with f := upd r.f x false }, 0) else (r, 4)
structure Fine (steps : List (List Str)) : Prop where
  few : steps.length ≤ 5
  each : ∀ l ∈ steps, 1 ≤ l.length ∧ l.length ≤ 16
  once : steps.flatten.Nodup
theorem Right.fine {p : Pl} (h : Right p) : Fine p.steps := ⟨h.few.2, h.each, h.once⟩
theorem flat_len {steps : List (List Str)} (h : Fine steps) : steps.flatten.length ≤ 80 := by
  have : ∀ (l : List (List Str)), (∀ x ∈ l, x.length ≤ 16) → l.flatten.length ≤ 16 * l.length := by
    intro l
    induction l with
    | nil => simp
    | cons x l ih =>
      intro h
      have := ih fun y hy => h y (.tail _ hy)
      have := h x (.head _)
      rw [List.flatten_cons, List.length_append, List.length_cons]
      omega
  have := this steps fun x hx => (h.each x hx).2
  have := h.few
  omega
set_option maxHeartbeats 2000000 in
theorem complete_c (x : Str) (hF : Fine r.steps) (h : RunAt w B t gs D r) :
    Calls Tryd.prog 21 #[.pointer (some ⟨t, 0, none⟩), .string (BA x)] w fun e w' => e = .returned (.int .i64 (doneR r x).2) ∧ RunAt w' B t gs D (doneR r x).1 ∧ Only (InRun t gs) w w' := by
  obtain ⟨os, cs, oo, co, k1, k2, k3⟩ := h.ex
  have hfew := hF.few
  refine nf21 _ (BA x) w _ ⟨_, rfl, _, _, _, k1.cell rfl, fun n y w' => ∃ i : Nat, y = (i : Int) ∧ i ≤ r.steps.length ∧ n = r.steps.length - i ∧ (∀ k l, k < i → r.steps[k]? = some l → x ∈ l → r.f x = false) ∧ w = w', ⟨_, 0, rfl, Nat.zero_le _, rfl, fun k l hk => by omega, rfl⟩, ?_⟩
  rintro n _ _ y ⟨i, rfl, hi, rfl, hno, rfl⟩
  refine ⟨fun hlt => ?_, fun hge => ?_⟩
  · have hlt : i < r.steps.length := by have := dT hlt; omega
    have hat := List.getElem?_eq_getElem hlt
    obtain ⟨a, oi, ci, ha, -, hc, hS⟩ := k2.at hat
    obtain ⟨b, g, hb, -, hg, hcb, hrow⟩ := k3 i _ hat
    have hle := hF.each _ (List.getElem_mem hlt)
    have hrn := flat_row hF.once hat
    generalize r.steps[i] = l at *
    refine ⟨a, ha, ⟨by omega, by omega⟩, _, _, _, hc, fun n y w' => ∃ j : Nat, y = (j : Int) ∧ j ≤ l.length ∧ n = l.length - j ∧ (∀ k, k < j → l[k]? = some x → r.f x = false) ∧ w = w', ⟨_, 0, rfl, Nat.zero_le _, rfl, fun k hk => by omega, rfl⟩, ?_⟩
    rintro n2 _ _ y ⟨j, rfl, hj, rfl, hno2, rfl⟩
    refine ⟨fun hlt2 => ?_, fun hge2 => ⟨_, by omega, i + 1, by rw [wr (by omega)]; omega, hlt, rfl, fun k l' hk hl' hx => ?_, rfl⟩⟩
    · have hlt2 : j < l.length := by have := dT hlt2; omega
      have hsj := List.getElem?_eq_getElem hlt2
      obtain ⟨a2, ha2, -, hc2⟩ := Strs.at hS hsj
      generalize l[j] = s at *
      have next : (s = x → r.f x = false) → ∃ n, n < l.length - j ∧ ∃ j' : Nat, IntKind.wrap .i64 ((j : Int) + 1) = (j' : Int) ∧ j' ≤ l.length ∧ n = l.length - j' ∧ (∀ k, k < j' → l[k]? = some x → r.f x = false) ∧ w = w := fun k0 => ⟨_, by omega, j + 1, by rw [wr (by omega)]; omega, hlt2, rfl, fun k hk hx => by
        by_cases e : k = j
        · subst e
          rw [hsj] at hx
          cases hx
          exact k0 rfl
        · exact hno2 k (by omega) hx, rfl⟩
      have hcf : w.cell? ((⟨g, 0, none⟩ : Addr).add ((j : Int).toNat * 1)) = some (.bool (r.f s)) := hrow.cellAdd (by rw [toNat_cast, Nat.mul_one]; unfold rowV; rw [List.getElem?_map, hsj]; rfl)
      refine ⟨a2, ha2, ⟨by omega, by omega⟩, _, hc2, fun he => ⟨_, rfl, _, _, _, k1.cellAdd rfl, b, hb, ⟨by omega, by omega⟩, _, _, _, hcb, _, rfl, ⟨by omega, by omega⟩, _, hcf, fun ht => ?_, fun ht => next fun e => by rw [← e]; exact ht⟩, fun he => next fun e => ?_⟩
      · rw [strEq_BA] at he
        have he : s = x := dT he
        subst he
        have hd : doneR r s = ({ r with f := upd r.f s false }, 0) := by unfold doneR; rw [if_pos ⟨mem_flat hat (List.mem_of_getElem? hsj), ht⟩]
        rw [hd]
        refine ⟨_, rfl, _, _, _, k1.cellAdd rfl, b, hb, ⟨by omega, by omega⟩, _, _, _, hcb, _, rfl, ⟨by omega, by omega⟩, hrow.thereAdd (by rw [rowV_len, toNat_cast]; omega), fun w48 e48 => ?_⟩
        obtain ⟨q1, q2⟩ := h.put hF.once hat hg hsj hrow e48
        exact ⟨rfl, q1, q2.mono fun b _ hb => .inr (by rw [hb]; exact List.mem_of_getElem? hg)⟩
      · rw [strEq_BA] at he
        exact absurd e (dF he)
    · have := dF hge2
      by_cases e : k = i
      · subst e
        rw [hat] at hl'
        cases hl'
        obtain ⟨m, hm, em⟩ := List.getElem_of_mem hx
        exact hno2 m (by omega) (by rw [List.getElem?_eq_getElem hm]; exact congrArg some em)
      · exact hno k l' (by omega) hl' hx
  · have := dF hge
    have hd : doneR r x = (r, 4) := by
      unfold doneR
      rw [if_neg]
      rintro ⟨h1, h2⟩
      obtain ⟨l, hl, hx⟩ := List.mem_flatten.1 h1
      obtain ⟨k, hk, e⟩ := List.getElem_of_mem hl
      rw [hno k l (by omega) (by rw [List.getElem?_eq_getElem hk]; exact congrArg some e) hx] at h2
      cases h2
    rw [hd]
    exact ⟨rfl, h, Only.refl _ _⟩
def openL (r : Rn) : List Str := r.steps.flatten.filter r.f
theorem flat_take_succ {l : List (List Str)} {i : Nat} {x : List Str} (h : l[i]? = some x) : (l.take (i + 1)).flatten = (l.take i).flatten ++ x := by
  obtain ⟨q1, q2⟩ := List.getElem?_eq_some_iff.1 h
  rw [List.take_succ_eq_append_getElem q1, q2]; simp
theorem filter_len {r : Rn} {l : List Str} (h : l.length ≤ 80) : (l.filter r.f).length ≤ 80 := Nat.le_trans (List.length_filter_le _ _) h
set_option maxHeartbeats 2000000 in
theorem openSteps_c (hF : Fine r.steps) (h : RunAt w B t gs D r) :
    Calls Tryd.prog 27 #[.pointer (some ⟨t, 0, none⟩)] w fun e w' => ∃ o c, e = .returned (.slice o (openL r).length c) ∧ Strs w' (fun b => hs w ≤ b ∧ b < hs w') o (openL r) ∧ Grow w w' := by
  obtain ⟨os, cs, oo, co, k1, k2, k3⟩ := h.ex
  have hfew := hF.few
  have hfl := flat_len hF
  refine nf27 _ w _ ⟨_, rfl, _, _, _, k1.cell rfl, fun n o n' c y w' => ∃ i : Nat, y = (i : Int) ∧ i ≤ r.steps.length ∧ n = r.steps.length - i ∧ n' = ((r.steps.take i).flatten.filter r.f).length ∧ Own w' (hs w) 9 1 o n' c (((r.steps.take i).flatten.filter r.f).flatMap encS) ∧ Grow w w',
    ⟨_, 0, rfl, Nat.zero_le _, rfl, by simp, by simpa using own_nil w (hs w) 9 1, Only.refl _ _⟩, ?_⟩
  rintro n _ w9 o10 n11 c12 y ⟨i, rfl, hi, rfl, rfl, own9, g9⟩
  refine ⟨fun hlt => ?_, fun hge => ?_⟩
  · have hlt : i < r.steps.length := by have := dT hlt; omega
    have hat := List.getElem?_eq_getElem hlt
    have hle := hF.each _ (List.getElem_mem hlt)
    have hts := flat_take_succ hat
    have hsub : ((r.steps.take (i + 1)).flatten).length ≤ 80 := by
      have : (r.steps.take (i + 1)).flatten.length ≤ r.steps.flatten.length := by
        conv => rhs; rw [← List.take_append_drop (i + 1) r.steps, List.flatten_append, List.length_append]
        omega
      omega
    obtain ⟨a, oi, ci, ha, -, hc, hS⟩ := k2.at hat
    obtain ⟨b, g, hb, -, hg, hcb, hrow⟩ := k3 i _ hat
    generalize r.steps[i] = l at *
    rw [hts, List.length_append] at hsub
    refine ⟨a, ha, ⟨by omega, by omega⟩, _, _, _, cell_grow g9 hc, fun n o n' c y w' => ∃ j : Nat, y = (j : Int) ∧ j ≤ l.length ∧ n = l.length - j ∧ n' = (((r.steps.take i).flatten ++ l.take j).filter r.f).length ∧ Own w' (hs w) 9 1 o n' c ((((r.steps.take i).flatten ++ l.take j).filter r.f).flatMap encS) ∧ Grow w w',
      ⟨_, 0, rfl, Nat.zero_le _, rfl, by simp, by simpa using own9, g9⟩, ?_⟩
    rintro n2 _ w24 o25 n26 c27 y ⟨j, rfl, hj, rfl, rfl, own24, g24⟩
    refine ⟨fun hlt2 k31 hk => ?_, fun hge2 => ?_⟩
    · have hlt2 : j < l.length := by have := dT hlt2; omega
      have hsj := List.getElem?_eq_getElem hlt2
      have htj := List.take_succ_eq_append_getElem hlt2
      obtain ⟨a2, ha2, -, hc2⟩ := Strs.at (Recs.grow hS g24) hsj
      have hlj : (((r.steps.take i).flatten ++ l.take j).filter r.f).length ≤ 80 := filter_len (by rw [List.length_append, List.length_take]; omega)
      generalize l[j] = s at *
      have hcf : w.cell? ((⟨g, 0, none⟩ : Addr).add ((j : Int).toNat * 1)) = some (.bool (r.f s)) := hrow.cellAdd (by rw [toNat_cast, Nat.mul_one]; unfold rowV; rw [List.getElem?_map, hsj]; rfl)
      have g1 := k1.grow g24
      refine ⟨a2, ha2, ⟨by omega, by omega⟩, _, hc2, _, rfl, _, _, _, g1.cellAdd rfl, b, hb, ⟨by omega, by omega⟩, _, _, _, cell_grow g24 hcb, _, rfl, ⟨by omega, by omega⟩, _, cell_grow g24 hcf, fun ht w53 e53 => ?_, fun ht => hk _ _ _ _ fun _ => ?_⟩
      · have g53 : Grow w24 w53 := only_alloc e53
        have r53 : Row w53 (hs w24) 9 (encS s) := Row.new e53
        have z24 := g24.size
        have z53 := g53.size
        refine run_append_row elem52 (own24.grow g53) r53 rfl (by simp [encS, Value.oneCell']) (by simp only [maxLen]; omega) (by omega) (by omega) fun o57 c59 w56 p1 p2 _ => ⟨_, _, _, rfl, hk _ _ _ _ fun _ => ?_⟩
        have e0 : ((r.steps.take i).flatten ++ l.take (j + 1)).filter r.f = ((r.steps.take i).flatten ++ l.take j).filter r.f ++ [s] := by
          rw [htj, ← List.append_assoc, List.filter_append, List.filter_cons, if_pos ht]; rfl
        have e1 : (((r.steps.take i).flatten ++ l.take j).filter r.f).flatMap encS ++ encS s = (((r.steps.take i).flatten ++ l.take (j + 1)).filter r.f).flatMap encS := by rw [e0, List.flatMap_append]; simp
        have e2 : (((r.steps.take i).flatten ++ l.take j).filter r.f).length + 1 = (((r.steps.take i).flatten ++ l.take (j + 1)).filter r.f).length := by rw [e0]; simp only [List.length_append, List.length_cons, List.length_nil]
        rw [e1, e2] at p1
        rw [e2]
        exact ⟨_, by omega, j + 1, by rw [wr (by omega)]; omega, hlt2, rfl, rfl, p1, (g24.trans' g53).trans p2 fun b hb k => by have := (own24.base b k).1; omega⟩
      · have e0 : ((r.steps.take i).flatten ++ l.take (j + 1)).filter r.f = ((r.steps.take i).flatten ++ l.take j).filter r.f := by
          rw [htj, ← List.append_assoc, List.filter_append, List.filter_cons, if_neg (by rw [ht]; exact Bool.false_ne_true), List.filter_nil, List.append_nil]
        exact ⟨_, by omega, j + 1, by rw [wr (by omega)]; omega, hlt2, rfl, by rw [e0], by rw [e0]; exact own24, g24⟩
    · have := dF hge2
      have e0 : (r.steps.take i).flatten ++ l.take j = (r.steps.take (i + 1)).flatten := by rw [hts]; congr 1; exact List.take_of_length_le (by omega)
      exact ⟨_, by omega, i + 1, by rw [wr (by omega)]; omega, hlt, rfl, by rw [e0], by rw [← e0]; exact own24, g24⟩
  · have := dF hge
    obtain rfl : i = r.steps.length := by omega
    rw [List.take_length] at own9 ⊢
    exact ⟨o10, c12, rfl, (own_recs' encS_len (by omega) own9).mono fun b hb => own9.base b hb, g9⟩
end
end Go.Proofs.YtolpmdmcbciccaaDoor
