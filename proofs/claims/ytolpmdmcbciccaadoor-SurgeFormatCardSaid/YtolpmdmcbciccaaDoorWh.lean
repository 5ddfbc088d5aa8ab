/- Contract: the reference's Done; and: both run alike. -/
import Derived.Test.YtolpmdmcbciccaaDoorWg
namespace Go.Proofs.YtolpmdmcbciccaaDoor
open Go Go.Nf Go.RowKit

def doneS (s : Sn) (x : Str) : Sn × Int := if x ∈ s.does then ({ s with does := s.does.erase x }, 0) else (s, 4)
theorem erase_at : ∀ {l : List Str} {i : Nat} {x : Str}, l[i]? = some x → x ∉ l.take i → l.erase x = l.take i ++ l.drop (i + 1)
  | y :: l, 0, x, h, _ => by
    cases h
    simp
  | y :: l, i + 1, x, h, hn => by
    have hne : y ≠ x := fun e => hn (by simp [e])
    have ih := erase_at (l := l) (i := i) (x := x) (by simpa using h) fun k => hn (by simp [k])
    rw [List.erase_cons_tail (by simpa using hne), ih]
    simp
section
variable {w : World} {t : Nat} {D : Nat → Prop} {s : Sn}
set_option maxHeartbeats 2000000 in
theorem doneS_c (x : Str) (hd : s.does.length ≤ 100) (ht : t < hs w) (h : SnAt w t D s) :
    Calls Tryd.prog 22 #[.pointer (some ⟨t, 0, none⟩), .string (BA x)] w fun e w' => e = .returned (.int .i64 (doneS s x).2) ∧ SnAt w' t (fun b => D b ∨ (hs w ≤ b ∧ b < hs w')) (doneS s x).1 ∧ Only (fun b => b = t) w w' := by
  obtain ⟨os, cs, od, cd, k1, k2, k3, k4⟩ := h.ex
  have wide : SnAt w t (fun b => D b ∨ (hs w ≤ b ∧ b < hs w)) s := h.mono (fun b hb => .inl hb) fun k => k.elim h.nt fun k => by omega
  refine nf22 _ (BA x) w _ ⟨fun n y w' => ∃ i : Nat, y = (i : Int) ∧ i ≤ s.does.length ∧ n = s.does.length - i ∧ x ∉ s.does.take i ∧ w = w', ⟨_, 0, rfl, Nat.zero_le _, rfl, by simp, rfl⟩, ?_⟩
  rintro n _ _ y ⟨i, rfl, hi, rfl, hno, rfl⟩
  refine ⟨_, rfl, _, _, _, k1.cellAdd rfl, fun hlt => ?_, fun hge => ?_⟩
  · have hlt : i < s.does.length := by have := dT hlt; omega
    have hat := List.getElem?_eq_getElem hlt
    have htk := List.take_succ_eq_append_getElem hlt
    obtain ⟨a, ha, -, hc⟩ := Strs.at k3 hat
    generalize s.does[i] = z at *
    refine ⟨_, rfl, _, _, _, k1.cellAdd rfl, a, ha, ⟨by omega, by omega⟩, _, hc, fun he => ?_, fun he => ⟨_, by omega, i + 1, by rw [wr (by omega)]; omega, hlt, rfl, ?_, rfl⟩⟩
    · rw [strEq_BA] at he
      have he : z = x := dT he
      subst he
      have hds : doneS s z = ({ s with does := s.does.erase z }, 0) := by unfold doneS; rw [if_pos (List.mem_of_getElem? hat)]
      rw [hds, erase_at hat hno]
      intro w20 e20
      have g20 : Grow w w20 := only_drew e20
      have k20 := k1.grow g20
      have e1 : IntKind.wrap .i64 ((i : Int) + 1) = ((i + 1 : Nat) : Int) := by rw [wr (by omega)]; omega
      rw [e1]
      refine ⟨_, rfl, _, _, _, k20.cellAdd rfl, ⟨by omega, by omega⟩, _, rfl, _, _, _, k20.cellAdd rfl, ⟨by omega, by omega⟩, fun w30 e30 => ?_⟩
      have g30 : Grow w20 w30 := only_alloc e30
      have z20 := g20.size
      have z30 := g30.size
      have own30 : Own w30 (hs w20) 9 1 (some ⟨hs w20, 0, none⟩) 0 0 (([] : List Str).flatMap encS) := (show Row w30 (hs w20) 9 [] from Row.new e30).own (n := 0) (Nat.le_refl _) rfl (by simp [maxLen])
      have l20 := k20.lt
      rw [toNat_cast, toNat_cast, Nat.sub_zero, Nat.sub_zero]
      have hS1 : Recs w30 D (if cd = 0 then od else Option.map (fun x => x) od) 1 ((s.does.take i).map encS) := by
        have hb : Recs w30 D od 1 ((s.does.take i).map encS) := by
          have := (Recs.grow (Recs.grow k3 g20) g30)
          intro j row hj
          rw [List.getElem?_map, List.getElem?_take] at hj
          split at hj
          · exact this j row (by rw [List.getElem?_map]; exact hj)
          · cases hj
        split
        · exact hb
        · rw [Option.map_id']; exact hb
      have hl1 : (s.does.take i).length = i := by rw [List.length_take]; omega
      refine ⟨kept_onlyAdd g30 l20 (fun h => h), kept_onlyAdd g30 l20 (fun h => h), append_recs' (B := hs w20) (xs := []) encS_len hl1 elem52 (by omega) own30 hS1 encS_one (by simp only [maxLen]; omega) (by omega) z30 fun o34 c36 w33 p1 p2 => ⟨_, _, _, rfl, ?_⟩⟩
      rw [List.nil_append, Nat.zero_add] at p1
      rw [Nat.zero_add]
      have g33 : Grow w20 w33 := g30.trans p2 fun b hb k => by
        obtain ⟨a', ha', rfl⟩ := k
        cases ha'
        exact absurd hb (by simp)
      have z33 := g33.size
      have hl2 : (s.does.drop (i + 1)).length = s.does.length - (i + 1) := List.length_drop
      have hS2 : Recs w33 D (if cd = i + 1 then od else Option.map (fun x => Addr.add x ((i + 1) * 1)) od) 1 ((s.does.drop (i + 1)).map encS) := by
        have hb := Recs.grow (Recs.grow k3 g20) g33
        split
        · rename_i hcd
          rw [List.drop_eq_nil_of_le (by omega)]
          exact Recs.nil _ _ _ _
        · rw [ha] at hb ⊢
          intro j row hj
          rw [List.getElem?_map, List.getElem?_drop] at hj
          obtain ⟨a', ha', hA, hc'⟩ := hb (i + 1 + j) row (by rw [List.getElem?_map]; exact hj)
          cases ha'
          refine ⟨_, rfl, by rw [block_add1]; exact hA, fun m v hv => ?_⟩
          have := hc' m v hv
          rw [toNat_cast] at this ⊢
          rw [add_add, add_add]
          rw [add_add] at this
          have e : (i + 1) * 1 + (j * 1 + m) = (i + 1 + j) * 1 + m := by omega
          first
            | (rw [show (i + 1) * 1 + j * 1 + m = (i + 1 + j) * 1 + m by omega]; exact this)
            | (rw [e]; exact this)
      refine ⟨kept_onlyAdd g33 l20 (fun h => h), append_recs' (B := hs w20) (xs := s.does.take i) encS_len hl2 elem52 (by omega) p1 hS2 encS_one (by simp only [maxLen]; omega) (by omega) z33 fun o39 c41 w38 q1 q2 => ⟨_, _, _, rfl, ?_⟩⟩
      have g38 : Grow w20 w38 := g33.trans q2 fun b hb k => by have := (p1.base b k).1; omega
      have z38 := g38.size
      have k38 := k20.grow g38
      refine ⟨_, rfl, k38.thereAdd (by simp [stateV]), fun w43 e43 => ⟨rfl, ?_, ?_⟩⟩
      · have o43 : Only (fun b => b = t) w38 w43 := only_setAdd e43
        have z43 := o43.size
        have m := k38.setAdd e43
        have e9 : i + (s.does.length - (i + 1)) = (s.does.take i ++ s.does.drop (i + 1)).length := by rw [List.length_append, hl1, hl2]
        rw [e9] at m q1
        have q1' := q1.keep o43 fun b hb e => by have := (q1.base b hb).1; omega
        have hno' : ∀ b, D b → ¬ b = t := fun b hb e => h.nt (by rw [← e]; exact hb)
        refine ⟨⟨os, cs, o39, c41, m, ((k2.grow (g20.trans' g38)).keep o43 hno').mono fun b hb => .inl hb, (own_recs' encS_len (by omega) q1').mono fun b hb => .inr ?_, q1.le⟩, fun k => k.elim h.nt fun k => by omega⟩
        have := q1'.base b hb
        omega
      · exact (Grow.only (g20.trans' g38)).trans' (only_setAdd e43)
    · rw [strEq_BA] at he
      rw [htk, List.mem_append, List.mem_singleton]
      rintro (k | k)
      · exact hno k
      · exact dF he k.symm
  · have := dF hge
    rw [List.take_of_length_le (by omega)] at hno
    have hds : doneS s x = (s, 4) := by unfold doneS; rw [if_neg hno]
    rw [hds]
    exact ⟨rfl, wide, Only.refl _ _⟩
end

/-! ### both run alike -/
structure Like (r : Rn) (s : Sn) : Prop where
  steps : s.steps = r.steps
  calm : s.calm = r.calm
  drill : s.drill = r.drill
  level : s.level = r.level
  does : s.does = openL r
  low : (r.falling = false ∧ s.low = -1) ∨ (r.falling = true ∧ s.low = clampI r.since)
  above : ∀ x, x ∈ r.steps.flatten → x ∉ between r.steps 0 r.level → r.f x = false
theorem flat_parts (steps : List (List Str)) {a b : Nat} (h : a ≤ b) : steps.flatten = between steps 0 a ++ between steps a b ++ (steps.drop b).flatten := by
  unfold between
  rw [List.drop_zero, ← List.flatten_append, ← List.flatten_append]
  congr 1
  have h1 : steps.take a = (steps.take b).take a := by rw [List.take_take, Nat.min_eq_left h]
  rw [h1, List.take_append_drop, List.take_append_drop]
theorem openL_nodup {r : Rn} (h : r.steps.flatten.Nodup) : (openL r).Nodup := List.Nodup.sublist List.filter_sublist h
theorem Like.start (p : Pl) (calm : Int) (drill : Bool) : Like (startR p calm drill) (startS p calm drill) where
  steps := rfl
  calm := rfl
  drill := rfl
  level := rfl
  does := by unfold openL startR startS; simp
  low := .inl ⟨rfl, rfl⟩
  above := fun _ _ _ => rfl
theorem Like.done {r : Rn} {s : Sn} (h : Like r s) (hn : r.steps.flatten.Nodup) (x : Str) : Like (doneR r x).1 (doneS s x).1 ∧ (doneR r x).2 = (doneS s x).2 := by
  have hm : x ∈ s.does ↔ x ∈ r.steps.flatten ∧ r.f x = true := by rw [h.does]; unfold openL; rw [List.mem_filter]
  unfold doneR doneS
  by_cases hx : x ∈ r.steps.flatten ∧ r.f x = true
  · rw [if_pos hx, if_pos (hm.2 hx)]
    refine ⟨⟨h.steps, h.calm, h.drill, h.level, ?_, h.low, fun y h1 h2 => ?_⟩, rfl⟩
    · show s.does.erase x = _
      rw [h.does, List.Nodup.erase_eq_filter (openL_nodup hn)]
      unfold openL
      rw [List.filter_filter]
      refine List.filter_congr fun y _ => ?_
      show _ = upd r.f x false y
      unfold upd
      by_cases e : y = x
      · rw [if_pos e, e]; simp
      · rw [if_neg e]; simp [e]
    · show upd r.f x false y = false
      unfold upd
      split
      · rfl
      · exact h.above y h1 h2
  · rw [if_neg hx, if_neg fun k => hx (hm.1 k)]
    exact ⟨h, rfl⟩
theorem between_sub {steps : List (List Str)} {a b : Nat} {x : Str} (h : x ∈ between steps a b) : x ∈ steps.flatten := by
  obtain ⟨i, l, -, -, hi, hx⟩ := between_mem h
  exact mem_flat hi hx
theorem between_apart {steps : List (List Str)} (hn : steps.flatten.Nodup) {a b c d : Nat} (h : b ≤ c) {x : Str} (h1 : x ∈ between steps a b) (h2 : x ∈ between steps c d) : False := by
  obtain ⟨i, l, -, hi, hl, hx⟩ := between_mem h1
  obtain ⟨j, l', hj, -, hl', hx'⟩ := between_mem h2
  have := flat_at hn hl hl' hx hx'
  omega
theorem Like.set {r : Rn} {s : Sn} (h : Like r s) (hF : Fine r.steps) (hl : r.level ≤ r.steps.length) (level now : Int) : Like (setR r level now).1 (riseS s level now).1 ∧ (setR r level now).2 = (riseS s level now).2 ∧ (setR r level now).1.level ≤ (setR r level now).1.steps.length := by
  have hn := hF.once
  have hlv := lvN_le r.steps.length level
  unfold setR riseS
  rw [h.steps, h.level, h.drill, h.calm]
  generalize lvN r.steps.length level = lv at *
  by_cases hc : lv < r.level
  · rw [if_pos hc, if_neg (by omega)]
    have hlow : lowS s now = clampI (sinceR r now) := by
      unfold lowS sinceR
      rcases h.low with ⟨h1, h2⟩ | ⟨h1, h2⟩
      · rw [h2, h1, if_pos (by decide), if_neg (by decide)]
      · rw [h2, h1, if_neg (by have := clamp_range r.since; omega), if_pos rfl]
    have hago : agoI (clampI now) (lowS s now) = agoI now (sinceR r now) := by
      rw [hlow]
      unfold agoI
      rw [clamp_id (clamp_range now), clamp_id (clamp_range (sinceR r now))]
    unfold fallR
    rw [hago]
    by_cases ha : agoI now (sinceR r now) < r.calm
    · rw [if_pos ha, if_pos ha]
      exact ⟨⟨rfl, rfl, rfl, rfl, h.does, .inr ⟨rfl, hlow⟩, h.above⟩, rfl, hl⟩
    · rw [if_neg ha, if_neg ha]
      refine ⟨⟨rfl, rfl, rfl, rfl, ?_, .inl ⟨rfl, rfl⟩, fun x h1 h2 => ?_⟩, rfl, by show lv ≤ r.steps.length; omega⟩
      · show s.does.filter _ = _
        rw [h.does]
        unfold openL
        rw [List.filter_filter]
        refine List.filter_congr fun y _ => ?_
        simp only [decide_not]
        rw [Bool.and_comm]
      · show (r.f x && decide (x ∉ between r.steps lv r.level)) = false
        by_cases hb : x ∈ between r.steps lv r.level
        · rw [decide_eq_false (by simpa using hb), Bool.and_false]
        · rw [h.above x h1, Bool.false_and]
          intro k
          rw [show between r.steps 0 r.level = between r.steps 0 lv ++ between r.steps lv r.level from ?_] at k
          · exact (List.mem_append.1 k).elim h2 hb
          · unfold between
            rw [List.drop_zero, List.drop_zero, ← List.flatten_append]
            congr 1
            have h1 : r.steps.take lv = (r.steps.take r.level).take lv := by rw [List.take_take, Nat.min_eq_left (by omega)]
            rw [h1, List.take_append_drop]
  · have hc' : r.level ≤ lv := by omega
    rw [if_neg hc, if_pos hc']
    refine ⟨⟨rfl, rfl, rfl, rfl, ?_, .inl ⟨rfl, rfl⟩, fun x h1 h2 => ?_⟩, rfl, hlv⟩
    · show s.does ++ between r.steps r.level lv = (r.steps.flatten).filter fun y => r.f y || decide (y ∈ between r.steps r.level lv)
      rw [h.does]
      unfold openL
      rw [flat_parts r.steps hc']
      have hf := flat_parts r.steps hc'
      have hin : ∀ y, y ∈ between r.steps 0 r.level ++ between r.steps r.level lv ++ (r.steps.drop lv).flatten → y ∈ r.steps.flatten := fun y hy => by rw [hf]; exact hy
      have apost : ∀ y, y ∈ (r.steps.drop lv).flatten → y ∉ between r.steps 0 r.level ∧ y ∉ between r.steps r.level lv := fun y hy => by
        rw [hf] at hn
        have := (List.nodup_append.1 hn).2.2
        exact ⟨fun k => this y (List.mem_append_left _ k) y hy rfl, fun k => this y (List.mem_append_right _ k) y hy rfl⟩
      simp only [List.filter_append]
      have f1 : (between r.steps 0 r.level).filter (fun y => r.f y || decide (y ∈ between r.steps r.level lv)) = (between r.steps 0 r.level).filter r.f := List.filter_congr fun y hy => by
        rw [decide_eq_false fun k => between_apart hn (Nat.le_refl _) hy k, Bool.or_false]
      have f2 : (between r.steps r.level lv).filter (fun y => r.f y || decide (y ∈ between r.steps r.level lv)) = between r.steps r.level lv := List.filter_eq_self.2 fun y hy => by rw [decide_eq_true hy, Bool.or_true]
      have f3 : ((r.steps.drop lv).flatten).filter (fun y => r.f y || decide (y ∈ between r.steps r.level lv)) = [] := List.filter_eq_nil_iff.2 fun y hy => by
        rw [decide_eq_false (apost y hy).2, h.above y (hin y (List.mem_append_right _ hy)) (apost y hy).1]; decide
      have f4 : (between r.steps r.level lv).filter r.f = [] := List.filter_eq_nil_iff.2 fun y hy => by
        rw [h.above y (between_sub hy) fun k => between_apart hn (Nat.le_refl _) k hy]; decide
      have f5 : ((r.steps.drop lv).flatten).filter r.f = [] := List.filter_eq_nil_iff.2 fun y hy => by
        rw [h.above y (hin y (List.mem_append_right _ hy)) (apost y hy).1]; decide
      rw [f1, f2, f3, f4, f5]
      simp
    · show (r.f x || decide (x ∈ between r.steps r.level lv)) = false
      have hsplit : between r.steps 0 lv = between r.steps 0 r.level ++ between r.steps r.level lv := by
        unfold between
        rw [List.drop_zero, List.drop_zero, ← List.flatten_append]
        congr 1
        have h1 : r.steps.take r.level = (r.steps.take lv).take r.level := by rw [List.take_take, Nat.min_eq_left hc']
        rw [h1, List.take_append_drop]
      have h2 : x ∉ between r.steps 0 lv := h2
      rw [hsplit, List.mem_append] at h2
      rw [h.above x h1 fun k => h2 (.inl k), decide_eq_false fun k => h2 (.inr k)]
      rfl
end Go.Proofs.YtolpmdmcbciccaaDoor
