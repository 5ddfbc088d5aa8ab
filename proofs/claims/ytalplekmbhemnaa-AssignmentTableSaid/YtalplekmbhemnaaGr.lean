/- Contracts of the table: New, Set, Solve. -/
import Derived.Test.YtalplekmbhemnaaGn
namespace Go.Proofs.Ytalplekmbhemnaa
open Go Go.Nf

/-- the table at block t: its rows lie in blocks of their own -/
structure Tab (w : World) (t T : Nat) (C : Nat) (rows : List (List Int)) : Prop where
  ex : ∃ (oc : Option Addr) (cc : Nat) (gs : List Nat), Row w t 53 [.slice oc rows.length cc, .int .i64 (C : Int)] ∧ Own w (t + 1) 32 1 oc rows.length cc (gs.map (sv C)) ∧ gs.length = rows.length ∧ (∀ (i : Nat) g, gs[i]? = some g → (t < g ∧ g < T) ∧ ∃ r, rows[i]? = some r ∧ Row w g 2 (intsV r)) ∧ gs.Nodup ∧ ∀ b, inBlock oc b → b < T
  top : t < T
  len : ∀ r ∈ rows, r.length = C
theorem Tab.lt {w : World} {t T C : Nat} {rows : List (List Int)} (h : Tab w t T C rows) : t < hs w := by
  obtain ⟨_, _, _, h1, -⟩ := h.ex; exact h1.lt
theorem Tab.keep {S : Nat → Prop} {w w' : World} {t T C : Nat} {rows : List (List Int)} (h : Tab w t T C rows) (g : Only S w w') (hS : ∀ b, t ≤ b → b < T → ¬ S b) : Tab w' t T C rows := by
  obtain ⟨oc, cc, gs, h1, h2, h3, h4, h5, h6⟩ := h.ex
  refine ⟨⟨oc, cc, gs, h1.keep g (hS _ (Nat.le_refl _) h.top), h2.keep g fun b hb => by have := h2.base b hb; exact hS b (by omega) (h6 b hb), h3, fun i g' hi => ?_, h5, h6⟩, h.top, h.len⟩
  obtain ⟨k1, r, k2, k3⟩ := h4 i g' hi
  exact ⟨k1, r, k2, k3.keep g (hS _ (by omega) k1.2)⟩
theorem Tab.grow {w w' : World} {t T C : Nat} {rows : List (List Int)} (h : Tab w t T C rows) (g : Grow w w') : Tab w' t T C rows := h.keep g fun _ _ _ h => h
theorem Tab.mat {w : World} {t T C : Nat} {rows : List (List Int)} (h : Tab w t T C rows) : ∃ oc cc, w.cell? ⟨t, 0, none⟩ = some (.slice oc rows.length cc) ∧ w.cell? ⟨t, 1, none⟩ = some (.int .i64 (C : Int)) ∧ Mat w (fun b => t < b ∧ b < hs w) oc rows := by
  obtain ⟨oc, cc, gs, h1, h2, h3, h4, h5, h6⟩ := h.ex
  refine ⟨oc, cc, h1.cell rfl, h1.cell rfl, fun i row hi => ?_⟩
  have hlt : i < rows.length := by
    rcases Nat.lt_or_ge i rows.length with h | h
    · exact h
    · rw [List.getElem?_eq_none h] at hi; cases hi
  obtain ⟨k1, r, k2, k3⟩ := h4 i (gs[i]'(by omega)) (List.getElem?_eq_getElem (by omega))
  rw [hi] at k2
  cases k2
  obtain ⟨gg, _, rfl, -⟩ := h2.head (by omega)
  have hl := h.len row (List.mem_of_getElem? hi)
  have hb := h2.base gg ⟨_, rfl, rfl⟩
  refine ⟨_, some ⟨gs[i]'(by omega), 0, none⟩, C, rfl, ⟨by show t < gg; omega, hb.2⟩, ?_, k3.nums ⟨k1.1, k3.lt⟩⟩
  rw [hl]
  refine h2.cell ?_
  rw [toNat_cast, Nat.mul_one, List.getElem?_map, List.getElem?_eq_getElem (by omega)]; rfl

set_option maxHeartbeats 1000000 in
theorem new_c (R C : Int) (w : World) :
    Calls Try.prog 13 #[.int .i64 R, .int .i64 C] w fun e w' => Grow w w' ∧
      (if R < 0 ∨ C < 0 then e = .returned (.tuple #[.pointer none, .int .i64 1]) else if 64 < R ∨ 64 < C then e = .returned (.tuple #[.pointer none, .int .i64 3])
       else e = .returned (.tuple #[.pointer (some ⟨hs w, 0, none⟩), .int .i64 0]) ∧ Tab w' (hs w) (hs w') C.toNat (List.replicate R.toNat (List.replicate C.toNat Inf))) := by
  refine nf13 R C w _ ⟨fun h => ⟨Only.refl _ _, ?_⟩, fun h1 => ⟨fun h => ⟨Only.refl _ _, ?_⟩, fun h2 => ⟨fun h => ⟨Only.refl _ _, ?_⟩, fun h3 => ⟨fun h => ⟨Only.refl _ _, ?_⟩, fun h4 w1 e1 => ?_⟩⟩⟩⟩
  · rw [if_pos (.inl (dT h))]
  · rw [if_pos (.inr (dT h))]
  · have := dF h1; have := dF h2; have := dT h
    rw [if_neg (by omega), if_pos (.inl (by omega))]
  · have := dF h1; have := dF h2; have := dT h
    rw [if_neg (by omega), if_pos (.inr (by omega))]
  have h1 := dF h1
  have h2 := dF h2
  have h3 := dF h3
  have h4 := dF h4
  obtain ⟨r, rfl⟩ : ∃ r : Nat, R = (r : Int) := ⟨R.toNat, by omega⟩
  obtain ⟨c, rfl⟩ : ∃ c : Nat, C = (c : Int) := ⟨C.toNat, by omega⟩
  have l1 := hs_alloc e1
  refine ⟨fun n x w' => ∃ (i : Nat) (oc : Option Addr) (cc : Nat) (gs : List Nat), x = (i : Int) ∧ i ≤ r ∧ n = r - i ∧ Row w' (hs w) 53 [.slice oc i cc, .int .i64 (c : Int)] ∧ Own w' (hs w + 1) 32 1 oc i cc (gs.map (sv c)) ∧ gs.length = i ∧ (∀ (k : Nat) g, gs[k]? = some g → hs w < g ∧ Row w' g 2 (intsV (List.replicate c Inf))) ∧ gs.Nodup ∧ Grow w w', ⟨_, 0, none, 0, [], rfl, Nat.zero_le _, rfl, Row.new e1, own_nil _ _ _ _, rfl, fun k g h => by simp at h, List.nodup_nil, only_alloc e1⟩, ?_⟩
  rintro n _ w2 x ⟨i, oc, cc, gs, rfl, hi, rfl, rt, ho, hl, hg, hnd, g2⟩
  have hs2 := rt.lt
  refine ⟨fun hlt => ?_, fun hge => ⟨g2, ?_⟩⟩
  · have hlt : i < r := by have := dT hlt; omega
    refine make_zeros elem32 zero2 (by omega) fun w3 r3 g3 l3 => ⟨_, _, _, rfl, fun n x w' => ∃ k : Nat, x = (k : Int) ∧ k ≤ c ∧ n = c - k ∧ Row w' (hs w2) 2 (intsV (mix (fun _ => Inf) (List.replicate c 0) k)) ∧ Only (fun b => b = hs w2) w2 w', ⟨_, 0, rfl, Nat.zero_le _, rfl, by rw [mix_zero]; exact r3, g3.only⟩, ?_⟩
    rintro n _ w4 x ⟨k, rfl, hk, rfl, r4, g4⟩
    refine ⟨fun hlt2 => ?_, fun hge2 => ?_⟩
    · have hlt2 : k < c := by have := dT hlt2; omega
      refine ⟨_, rfl, ⟨by omega, by omega⟩, Row.thereI r4 (by rw [mix_len]; simpa using hlt2), fun w5 e5 => ⟨_, by omega, k + 1, by rw [wr (by omega)]; omega, hlt2, rfl, ?_, g4.trans' (only_setAdd e5)⟩⟩
      rw [← mix_set (by simpa using hlt2)]
      exact Row.setI r4 (by rw [mix_len]; simpa using hlt2) e5
    · have hge2 := dF hge2
      obtain rfl : k = c := by omega
      have e1 : mix (fun _ => Inf) (List.replicate k 0) k = List.replicate k Inf := by
        apply List.ext_getElem
        · simp [mix]
        · intro i h1 h2; simp at h2; simp [mix, h2]
      rw [e1] at r4
      have rt4 := rt.keep g4 (by omega)
      have ho4 := ho.keep g4 fun b hb e => by have := (ho.base b hb).2; omega
      refine ⟨_, _, _, rt4.cell rfl, fun w5 e5 => ?_⟩
      have l5 := hs_alloc e5
      have l4 := g4.size
      refine run_append_row elem22 (ho4.grow (only_alloc e5)) (Row.new e5) rfl (by simp [Value.oneCell']) (by unfold maxLen; omega) (by omega) (by omega) fun o' c' w6 h6 g6 _ => ⟨_, _, _, rfl, ?_⟩
      have r5 := rt4.grow (only_alloc e5)
      have nt : ¬ inBlock oc (hs w) := fun hb => by have := (ho.base _ hb).1; omega
      have r6 := r5.keep g6 nt
      refine ⟨r6.there (by simp), fun w7 e7 => ⟨_, ?_, i + 1, o', c', gs ++ [hs w2], by rw [wr (by omega)]; omega, hlt, rfl, r6.set e7, ?_, by simp [hl], fun k' g hk' => ?_, ?_, ?_⟩⟩
      · omega
      · rw [List.map_append]
        exact h6.keep (only_set e7) fun b hb e => by have := (h6.base b hb).1; omega
      · have hr : hs w < g ∧ Row w5 g 2 (intsV (List.replicate k Inf)) := by
          rcases Nat.lt_or_ge k' gs.length with h | h
          · rw [List.getElem?_append_left h] at hk'
            obtain ⟨q1, q2⟩ := hg k' g hk'
            exact ⟨q1, (q2.keep g4 (by have := q2.lt; omega)).grow (only_alloc e5)⟩
          · rw [List.getElem?_append_right h] at hk'
            have : k' - gs.length = 0 := by
              rcases Nat.eq_zero_or_pos (k' - gs.length) with h' | h'
              · exact h'
              · rw [List.getElem?_eq_none (by simp; omega)] at hk'; cases hk'
            rw [this] at hk'
            cases hk'
            exact ⟨by omega, r4.grow (only_alloc e5)⟩
        exact ⟨hr.1, (hr.2.keep g6 (own_ne (ho4.grow (only_alloc e5)) hr.2 (by decide))).keep (only_set e7) (by omega)⟩
      · rw [List.nodup_append]
        refine ⟨hnd, by simp, fun a ha b hb => ?_⟩
        simp at hb
        subst hb
        obtain ⟨k', hk', e⟩ := List.mem_iff_getElem.1 ha
        have := (hg k' a (by rw [List.getElem?_eq_getElem hk', e])).2.lt
        omega
      · exact (((g2.trans g4 fun i hi e => by omega).trans' (only_alloc e5)).trans g6 fun b hb hin => by have := (ho.base b hin).1; omega).trans (only_set e7) fun b hb e => by omega
  · have hge := dF hge
    obtain rfl : i = r := by omega
    rw [if_neg (by omega), if_neg (by omega), Int.toNat_natCast, Int.toNat_natCast]
    refine ⟨rfl, ⟨oc, cc, gs, by simpa using rt, by simpa using ho, by simpa using hl, fun k g hk => ?_, hnd, fun b hb => (ho.base b hb).2⟩, rt.lt, fun r hr => by rw [List.eq_of_mem_replicate hr]; simp⟩
    obtain ⟨q1, q2⟩ := hg k g hk
    refine ⟨⟨q1, q2.lt⟩, _, ?_, q2⟩
    have : k < gs.length := by
      rcases Nat.lt_or_ge k gs.length with h | h
      · exact h
      · rw [List.getElem?_eq_none h] at hk; cases hk
    rw [List.getElem?_replicate, if_pos (by omega)]

/-- what Set answers -/
def setErr (rows : List (List Int)) (C : Nat) (i j c : Int) : Bool := decide (i < 0) || decide ((rows.length : Int) ≤ i) || decide (j < 0) || decide ((C : Int) ≤ j) || !isCost c
def setTab (rows : List (List Int)) (i j c : Int) : List (List Int) := rows.set i.toNat (((rows[i.toNat]?).getD []).set j.toNat c)
theorem set_c (t T C : Nat) (rows : List (List Int)) (i j c : Int) (w : World) (h : Tab w t T C rows) :
    Calls Try.prog 14 #[.pointer (some ⟨t, 0, none⟩), .int .i64 i, .int .i64 j, .int .i64 c] w fun e w' => Only (fun b => t < b ∧ b < T) w w' ∧
      (if setErr rows C i j c then e = .returned (.int .i64 1) ∧ Tab w' t T C rows else e = .returned (.int .i64 0) ∧ Tab w' t T C (setTab rows i j c)) := by
  obtain ⟨oc, cc, c0, c1, -⟩ := h.mat
  have bad : ∀ w', w = w' → setErr rows C i j c = true → Only (fun b => t < b ∧ b < T) w w' ∧ (if setErr rows C i j c then Ending.returned (.int .i64 1) = .returned (.int .i64 1) ∧ Tab w' t T C rows else Ending.returned (.int .i64 1) = .returned (.int .i64 0) ∧ Tab w' t T C (setTab rows i j c)) := by
    rintro _ rfl hb; rw [if_pos hb]; exact ⟨Only.refl _ _, rfl, h⟩
  refine nf14 t i j c w _ ⟨fun h1 => bad w rfl (by unfold setErr; rw [h1]; rfl), fun h1 => ⟨_, _, _, c0, fun h2 => bad w rfl (by unfold setErr; rw [show decide ((rows.length : Int) ≤ i) = true from h2]; simp), fun h2 => ⟨fun h3 => bad w rfl (by unfold setErr; rw [h3]; simp), fun h3 => ⟨_, c1, fun h4 => bad w rfl (by unfold setErr; rw [show decide ((C : Int) ≤ j) = true from h4]; simp), fun h4 => (isCost_c c w).mono ?_⟩⟩⟩⟩
  rintro _ _ ⟨rfl, rfl⟩
  refine ⟨_, rfl, fun h5 => ?_, fun h5 => bad w rfl (by unfold setErr; rw [h5]; simp)⟩
  have hno : setErr rows C i j c = false := by unfold setErr; rw [h1, h3, h5, show decide ((rows.length : Int) ≤ i) = false from h2, show decide ((C : Int) ≤ j) = false from h4]; rfl
  rw [hno]
  have h1 := dF h1
  have h2 := dF h2
  have h3 := dF h3
  have h4 := dF h4
  obtain ⟨i, rfl⟩ : ∃ k : Nat, i = (k : Int) := ⟨i.toNat, by omega⟩
  obtain ⟨j, rfl⟩ : ∃ k : Nat, j = (k : Int) := ⟨j.toNat, by omega⟩
  obtain ⟨oc, cc, gs, k1, k2, k3, k4, k5, k6⟩ := h.ex
  have hig : i < gs.length := by omega
  have hir : i < rows.length := by omega
  obtain ⟨q1, r, q2, q3⟩ := k4 i gs[i] (List.getElem?_eq_getElem hig)
  rw [List.getElem?_eq_getElem hir] at q2
  cases q2
  have hrl : rows[i].length = C := h.len _ (List.getElem_mem hir)
  obtain ⟨gg, _, rfl, -⟩ := k2.head (by omega)
  have hb := k2.base gg ⟨_, rfl, rfl⟩
  have cg := k2.cell (j := (i : Int).toNat * 1) (v := sv C gs[i]) (by rw [toNat_cast, Nat.mul_one, List.getElem?_map, List.getElem?_eq_getElem hig]; rfl)
  refine ⟨_, _, _, k1.cell rfl, _, rfl, ⟨by omega, by omega⟩, _, _, _, cg, _, rfl, ⟨by omega, by omega⟩, Row.thereI q3 (by omega), fun w1 e1 => ?_⟩
  have g := only_setAdd e1
  refine ⟨g.mono fun b hb e => by omega, ?_⟩
  have ngg : gg ≠ gs[i] := fun e => by
    have := own_ne k2 q3 (by decide) ⟨_, rfl, e⟩
    exact this
  have hst : setTab rows (i : Int) (j : Int) c = rows.set i (rows[i].set j c) := by unfold setTab; rw [Int.toNat_natCast, Int.toNat_natCast, List.getElem?_eq_getElem hir]; rfl
  simp only [Bool.false_eq_true, if_false, true_and]
  rw [hst]
  refine ⟨⟨_, cc, gs, by rw [List.length_set]; exact k1.keep g (by omega), by rw [List.length_set]; exact k2.keep g fun b ⟨a, e, eb⟩ e2 => by cases e; exact ngg (eb.trans e2), by rw [List.length_set]; exact k3, fun k g' hk => ?_, k5, k6⟩, h.top, fun r hr => ?_⟩
  · obtain ⟨p1, r, p2, p3⟩ := k4 k g' hk
    refine ⟨p1, ?_⟩
    by_cases e : k = i
    · subst e
      rw [List.getElem?_eq_getElem hig] at hk
      cases hk
      exact ⟨_, by rw [List.getElem?_set]; simp [hir], Row.setI q3 (by omega) e1⟩
    · refine ⟨r, by rw [List.getElem?_set, if_neg (fun h => e h.symm)]; exact p2, p3.keep g fun e2 => ?_⟩
      have hkl : k < gs.length := by
        rcases Nat.lt_or_ge k gs.length with h | h
        · exact h
        · rw [List.getElem?_eq_none h] at hk; cases hk
      rw [List.getElem?_eq_getElem hkl] at hk
      cases hk
      exact e ((List.getElem_inj k5).1 e2)
  · rcases List.mem_or_eq_of_mem_set hr with hr | rfl
    · exact h.len r hr
    · simp [hrl]
theorem tsolve_c (t T C : Nat) (rows : List (List Int)) (w : World) (h : Tab w t T C rows) (hcost : ∀ r ∈ rows, ∀ c ∈ r, isCost c = true) (hR : rows.length ≤ 64) (hC : C ≤ 64) :
    Calls Try.prog 15 #[.pointer (some ⟨t, 0, none⟩)] w fun e w' => ∃ b m, e = .returned (.tuple #[.slice (some ⟨b, 0, none⟩) rows.length rows.length, .int .i64 (tot rows m rows.length)]) ∧
      Row w' b 3 (intsV m) ∧ hs w ≤ b ∧ Best rows C m ∧ Grow w w' := by
  refine nf15 t w _ fun w1 e1 => ?_
  have g1 : Grow w w1 := only_drew e1
  have h := h.grow g1
  obtain ⟨oc, cc, c0, c1, hm⟩ := h.mat
  refine ⟨_, _, _, c0, _, c1, (solve_c oc cc rows C w1 hm h.len hcost hR hC).mono ?_⟩
  rintro _ w2 ⟨b, m, rfl, r2, hb, best, g2⟩
  have := g1.size
  exact ⟨_, _, _, _, rfl, b, m, rfl, r2, by omega, best, g1.trans' g2⟩
end Go.Proofs.Ytalplekmbhemnaa
