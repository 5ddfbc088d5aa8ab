/- Contracts: SetLevel. -/
import Derived.Test.YtolpmdmcbciccaaDoorWd
namespace Go.Proofs.YtolpmdmcbciccaaDoor
open Go Go.Nf Go.RowKit

/-- the steps of the levels from a on, below b -/
def between (steps : List (List Str)) (a b : Nat) : List Str := ((steps.take b).drop a).flatten
theorem between_same (steps : List (List Str)) (a : Nat) : between steps a a = [] := by
  unfold between
  rw [List.drop_eq_nil_of_le (by rw [List.length_take]; omega)]; rfl
theorem between_succ {steps : List (List Str)} {a b : Nat} {l : List Str} (h : a ≤ b) (hb : steps[b]? = some l) : between steps a (b + 1) = between steps a b ++ l := by
  obtain ⟨q1, q2⟩ := List.getElem?_eq_some_iff.1 hb
  unfold between
  rw [List.take_succ_eq_append_getElem q1, q2, List.drop_append_of_le_length (by rw [List.length_take]; omega)]
  simp
theorem between_mem {steps : List (List Str)} {a b : Nat} {s : Str} (h : s ∈ between steps a b) : ∃ (i : Nat) (l : List Str), a ≤ i ∧ i < b ∧ steps[i]? = some l ∧ s ∈ l := by
  unfold between at h
  obtain ⟨l, hl, hs⟩ := List.mem_flatten.1 h
  obtain ⟨k, hk, e⟩ := List.getElem_of_mem hl
  have e2 : ((steps.take b).drop a)[k]? = some l := by rw [List.getElem?_eq_getElem hk]; exact congrArg some e
  rw [List.getElem?_drop, List.getElem?_take] at e2
  split at e2
  · exact ⟨a + k, l, by omega, by assumption, e2, hs⟩
  · cases e2
theorem between_in {steps : List (List Str)} {a b i : Nat} {l : List Str} {s : Str} (ha : a ≤ i) (hb : i < b) (hi : steps[i]? = some l) (hs : s ∈ l) : s ∈ between steps a b := by
  refine List.mem_flatten.2 ⟨l, ?_, hs⟩
  have : ((steps.take b).drop a)[i - a]? = some l := by rw [List.getElem?_drop, List.getElem?_take, if_pos (by omega), show a + (i - a) = i by omega]; exact hi
  exact List.mem_of_getElem? this
theorem between_len {steps : List (List Str)} (h : Fine steps) (a b : Nat) : (between steps a b).length ≤ 80 := by
  have h1 : (steps.take b).flatten.length ≤ steps.flatten.length := by
    conv => rhs; rw [← List.take_append_drop b steps, List.flatten_append, List.length_append]
    omega
  have h2 : ((steps.take b).drop a).flatten.length ≤ (steps.take b).flatten.length := by
    conv => rhs; rw [← List.take_append_drop a (steps.take b), List.flatten_append, List.length_append]
    omega
  have := flat_len h
  unfold between
  omega
def sinceR (r : Rn) (now : Int) : Int := if r.falling = true then r.since else now
def fallR (r : Rn) (lv : Nat) (now : Int) : Rn :=
  if agoI now (sinceR r now) < r.calm then { r with falling := true, since := sinceR r now }
  else { r with falling := false, since := sinceR r now, f := fun s => r.f s && decide (s ∉ between r.steps lv r.level), level := lv }
def lvN (n : Nat) (level : Int) : Nat := (if (n : Int) < (if level < 0 then 0 else level) then (n : Int) else (if level < 0 then 0 else level)).toNat
theorem lvN_eq (n : Nat) (level : Int) : (if (n : Int) < (if level < 0 then 0 else level) then (n : Int) else (if level < 0 then 0 else level)) = ((lvN n level : Nat) : Int) := by
  unfold lvN
  repeat' split
  all_goals omega
theorem lvN_le (n : Nat) (level : Int) : lvN n level ≤ n := by
  unfold lvN
  repeat' split
  all_goals omega
def raiseR (r : Rn) (lv : Nat) : Rn := { r with falling := false, level := lv, f := fun s => r.f s || decide (s ∈ between r.steps r.level lv) }
def setR (r : Rn) (level now : Int) : Rn × List Str :=
  if lvN r.steps.length level < r.level then (fallR r (lvN r.steps.length level) now, [])
  else (raiseR r (lvN r.steps.length level), if r.drill = true then [] else between r.steps r.level (lvN r.steps.length level))
section
variable {w : World} {B t : Nat} {gs : List Nat} {D : Nat → Prop} {r : Rn}
set_option maxHeartbeats 4000000 in
theorem fall_c (lv : Nat) (now : Int) (hF : Fine r.steps) (hlv : lv < r.level) (hl : r.level ≤ r.steps.length) (h : RunAt w B t gs D r) :
    Calls Tryd.prog 45 #[.pointer (some ⟨t, 0, none⟩), .int .i64 (lv : Int), .int .i64 now] w fun e w' => e = .returned (.tuple #[]) ∧ RunAt w' B t gs D (fallR r lv now) ∧ Only (InRun t gs) w w' := by
  have hfew := hF.few
  have tIn : ∀ {w1 w2 : World}, Only (fun b => b = t) w1 w2 → Only (InRun t gs) w1 w2 := fun o => o.mono fun b _ e => .inl e
  refine nf45 _ (lv : Int) now w _ fun k1 hk => ?_
  have core : ∀ w3, RunAt w3 B t gs D { r with falling := true, since := sinceR r now } → Only (InRun t gs) w w3 → k1 w3 := fun w3 h3 o3 => hk w3 fun _ w6 e6 => by
    have g6 : Grow w3 w6 := only_drew e6
    have h6 := h3.grow g6
    obtain ⟨os, cs, oo, co, k6, -⟩ := h6.ex
    refine ⟨_, rfl, _, k6.cellAdd rfl, _, rfl, _, k6.cellAdd rfl, (elapsed_c now (sinceR r now) w6).mono ?_⟩
    rintro _ _ ⟨rfl, rfl⟩
    have o6 := o3.grow g6
    refine ⟨_, rfl, fun _ _ => rfl, fun hlt => ⟨rfl, ?_, o6⟩, fun hge => ⟨_, rfl, k6.thereAdd (by simp [runV]), fun w18 e18 => ?_⟩⟩
    · unfold fallR
      rw [if_pos (dT hlt)]
      exact h6
    have hge := dF hge
    have o18 : Only (fun b => b = t) w6 w18 := only_setAdd e18
    have h18 : RunAt w18 B t gs D { r with falling := false, since := sinceR r now } := h6.head o18 (fun os cs oo co k => k.setAdd e18) rfl rfl
    refine ⟨fun n x w' => ∃ i : Nat, x = (i : Int) ∧ lv ≤ i ∧ i ≤ r.level ∧ n = r.level - i ∧ RunAt w' B t gs D { r with falling := false, since := sinceR r now, f := fun s => r.f s && decide (s ∉ between r.steps lv i) } ∧ Only (InRun t gs) w w',
      ⟨_, lv, rfl, Nat.le_refl _, by omega, rfl, h18.eqf fun s _ => by rw [between_same, decide_eq_true (by simp), Bool.and_true], o6.trans' (tIn o18)⟩, ?_⟩
    rintro n _ w24 x ⟨i, rfl, hi1, hi2, rfl, h24, o24⟩
    obtain ⟨os2, cs2, oo2, co2, k24, -, q24⟩ := h24.ex
    refine ⟨_, rfl, _, k24.cellAdd rfl, fun hlt => ?_, fun hge2 => ⟨_, rfl, k24.thereAdd (by simp [runV]), fun w44 e44 => ⟨rfl, ?_, ?_⟩⟩⟩
    · have hlt : i < r.level := by have := dT hlt; simp only at this; omega
      have hil : i < r.steps.length := by omega
      have hat : r.steps[i]? = some r.steps[i] := List.getElem?_eq_getElem hil
      have hle := hF.each _ (List.getElem_mem hil)
      obtain ⟨a, g, ha, -, hg, hc, hrow⟩ := q24 i _ hat
      generalize r.steps[i] = l at *
      refine ⟨_, rfl, _, _, _, k24.cellAdd rfl, a, ha, ⟨by omega, by show (i : Int) < ((r.steps.length : Nat) : Int); omega⟩, _, _, _, hc, run_clear_row und85 zero4 rfl rfl hrow (rowV_len _ _) (by omega) fun w39 hr' o39 => ⟨_, rfl, _, by omega, i + 1, by rw [wr (by omega)]; omega, by omega, by omega, rfl, ?_, o24.trans' (o39.mono fun b _ e => .inr (by rw [e]; exact List.mem_of_getElem? hg))⟩⟩
      have hb := between_succ (steps := r.steps) (a := lv) hi1 hat
      refine h24.turn (f' := fun s => r.f s && decide (s ∉ between r.steps lv (i + 1))) hat hg o39 ?_ fun k l' hk' hl' s hs => ?_
      · have : rowV (fun s => r.f s && decide (s ∉ between r.steps lv (i + 1))) l = List.replicate l.length (.bool false) := by
          unfold rowV
          rw [List.map_congr_left (g := fun _ => Value.bool false) fun s hs => by show Value.bool (r.f s && decide (s ∉ between r.steps lv (i + 1))) = Value.bool false; rw [decide_eq_false (by rw [hb]; simp [hs]), Bool.and_false], List.map_const']
        rw [this]; exact hr'
      · show (r.f s && decide (s ∉ between r.steps lv (i + 1))) = (r.f s && decide (s ∉ between r.steps lv i))
        congr 1
        rw [decide_eq_decide, hb, List.mem_append]
        have : s ∉ l := fun k => hk' (flat_at hF.once hl' hat hs k)
        exact ⟨fun k1 k2 => k1 (.inl k2), fun k1 k2 => k2.elim k1 this⟩
    · have : ¬ (i : Int) < (r.level : Int) := dF hge2
      obtain rfl : i = r.level := by omega
      unfold fallR
      rw [if_neg hge]
      exact h24.head (only_setAdd e44) (fun os cs oo co k => k.setAdd e44) rfl rfl
    · exact o24.trans' (tIn (only_setAdd e44))
  obtain ⟨os, cs, oo, co, k0, -⟩ := h.ex
  refine ⟨_, rfl, _, k0.cellAdd rfl, fun hf => core w ?_ (Only.refl _ _), fun hf => ⟨_, rfl, k0.thereAdd (by simp [runV]), fun w51 e51 => ?_⟩⟩
  · have : ({ r with falling := true, since := sinceR r now } : Rn) = r := by
      unfold sinceR
      rw [if_pos hf]
      cases r
      simp only at hf
      rw [hf]
    rw [this]; exact h
  · have o51 : Only (fun b => b = t) w w51 := only_setAdd e51
    have h51 : RunAt w51 B t gs D { r with falling := true } := h.head o51 (fun os cs oo co k => k.setAdd e51) rfl rfl
    obtain ⟨os2, cs2, oo2, co2, k51, -⟩ := h51.ex
    refine ⟨_, rfl, k51.thereAdd (by simp [runV]), fun w54 e54 => core w54 ?_ ((tIn o51).trans' (tIn (only_setAdd e54)))⟩
    have : sinceR r now = now := by unfold sinceR; rw [if_neg (by rw [hf]; exact Bool.false_ne_true)]
    rw [this]
    exact h51.head (only_setAdd e54) (fun os cs oo co k => k.setAdd e54) rfl rfl
set_option maxHeartbeats 4000000 in
theorem setLevel_c (level now : Int) (hF : Fine r.steps) (hl : r.level ≤ r.steps.length) (h : RunAt w B t gs D r) :
    Calls Tryd.prog 24 #[.pointer (some ⟨t, 0, none⟩), .int .i64 level, .int .i64 now] w fun e w' => ∃ o c, e = .returned (.slice o (setR r level now).2.length c) ∧ Strs w' (fun b => hs w ≤ b ∧ b < hs w') o (setR r level now).2 ∧ RunAt w' B t gs D (setR r level now).1 ∧ Only (InRun t gs) w w' := by
  have hfew := hF.few
  have tIn : ∀ {w1 w2 : World}, Only (fun b => b = t) w1 w2 → Only (InRun t gs) w1 w2 := fun o => o.mono fun b _ e => .inl e
  obtain ⟨os, cs, oo, co, k0, -⟩ := h.ex
  refine nf24 _ level now w _ ⟨_, rfl, _, _, _, k0.cell rfl, _, rfl, _, k0.cellAdd rfl, ?_⟩
  rw [lvN_eq]
  have hle := lvN_le r.steps.length level
  unfold setR
  generalize lvN r.steps.length level = lv at *
  refine ⟨fun hlt => ?_, fun hge => ?_⟩
  · have hlt : lv < r.level := by have : (lv : Int) < (r.level : Int) := dT hlt; omega
    rw [if_pos hlt]
    refine (fall_c lv now hF hlt hl h).mono ?_
    rintro _ w9 ⟨rfl, h9, o9⟩
    exact ⟨rfl, none, 0, rfl, Recs.nil _ _ _ _, h9, o9⟩
  have hge : r.level ≤ lv := by have : ¬ (lv : Int) < (r.level : Int) := dF hge; omega
  rw [if_neg (by omega)]
  refine ⟨_, rfl, k0.thereAdd (by simp [runV]), fun w12 e12 => ?_⟩
  have o12 : Only (fun b => b = t) w w12 := only_setAdd e12
  have h12 : RunAt w12 B t gs D { r with falling := false } := h.head o12 (fun os cs oo co k => k.setAdd e12) rfl rfl
  obtain ⟨os2, cs2, oo2, co2, k12, -⟩ := h12.ex
  have lows : ∀ b, InRun t gs b → b < hs w := fun b hb => (h.lo b hb).2
  have lowd : ∀ b, D b → b < hs w := fun b hb => (h.dm b hb).1
  have z12 := o12.size
  refine ⟨_, rfl, _, k12.cellAdd rfl, fun n o n' c x w' => ∃ i : Nat, x = (i : Int) ∧ r.level ≤ i ∧ i ≤ lv ∧ n = lv - i ∧ n' = (between r.steps r.level i).length ∧ Own w' (hs w) 9 1 o n' c ((between r.steps r.level i).flatMap encS) ∧ RunAt w' B t gs D { r with falling := false, f := fun s => r.f s || decide (s ∈ between r.steps r.level i) } ∧ Only (InRun t gs) w w',
    ⟨_, r.level, rfl, Nat.le_refl _, hge, rfl, by rw [between_same]; rfl, by rw [between_same]; exact own_nil _ _ _ _, h12.eqf fun s _ => by rw [between_same, decide_eq_false (by simp), Bool.or_false], tIn o12⟩, ?_⟩
  rintro n _ w20 o21 n22 c23 x ⟨i, rfl, hi1, hi2, rfl, rfl, own20, h20, o20⟩
  obtain ⟨os3, cs3, oo3, co3, k20, l20, q20⟩ := h20.ex
  refine ⟨fun hlt => ?_, fun hge2 => ⟨_, rfl, k20.thereAdd (by simp [runV]), fun w71 e71 => ?_⟩⟩
  · have hlt : i < lv := by have := dT hlt; omega
    have hil : i < r.steps.length := by omega
    have hat : r.steps[i]? = some r.steps[i] := List.getElem?_eq_getElem hil
    have hlen := hF.each _ (List.getElem_mem hil)
    obtain ⟨a, oi, ci, ha, -, hc, hS⟩ := l20.at hat
    generalize r.steps[i] = l at *
    have hbs := between_succ (steps := r.steps) hi1 hat
    have hbl := between_len hF r.level (i + 1)
    rw [hbs, List.length_append] at hbl
    refine ⟨_, rfl, _, _, _, k20.cell rfl, a, ha, ⟨by omega, by show (i : Int) < ((r.steps.length : Nat) : Int); omega⟩, _, _, _, hc,
      fun n o n' c y w' => ∃ j : Nat, y = (j : Int) ∧ j ≤ l.length ∧ n = l.length - j ∧ n' = (between r.steps r.level i ++ l.take j).length ∧ Own w' (hs w) 9 1 o n' c ((between r.steps r.level i ++ l.take j).flatMap encS) ∧ RunAt w' B t gs D { r with falling := false, f := fun s => r.f s || decide (s ∈ between r.steps r.level i ++ l.take j) } ∧ Only (fun b => InRun t gs b ∨ hs w ≤ b) w20 w' ∧ Only (InRun t gs) w w',
      ⟨_, 0, rfl, Nat.zero_le _, rfl, by simp, by simpa using own20, by simpa using h20, Only.refl _ _, o20⟩, ?_⟩
    rintro n2 _ w39 o40 n41 c42 y ⟨j, rfl, hj, rfl, rfl, own39, h39, oo39, o39⟩
    refine ⟨fun hlt2 => ?_, fun hge2 => ?_⟩
    · have hlt2 : j < l.length := by have := dT hlt2; omega
      have hsj := List.getElem?_eq_getElem hlt2
      have htj := List.take_succ_eq_append_getElem hlt2
      obtain ⟨a2, ha2, -, hc2⟩ := Strs.at (Recs.keep hS oo39 fun b hb k => k.elim (h.dm b hb).2 fun k => by have := lowd b hb; omega) hsj
      obtain ⟨os4, cs4, oo4, co4, k39, -, q39⟩ := h39.ex
      obtain ⟨b, g, hb, -, hg, hcb, hrow⟩ := q39 i _ hat
      have hlj : (between r.steps r.level i ++ l.take j).length ≤ 80 := by rw [List.length_append, List.length_take]; omega
      generalize l[j] = s at *
      refine ⟨a2, ha2, ⟨by omega, by omega⟩, _, hc2, _, rfl, _, _, _, k39.cellAdd rfl, b, hb, ⟨by omega, by show (i : Int) < ((r.steps.length : Nat) : Int); omega⟩, _, _, _, hcb, _, rfl, ⟨by omega, by omega⟩, hrow.thereAdd (by rw [rowV_len, toNat_cast]; omega), fun w57 e57 w59 e59 => ?_⟩
      obtain ⟨h57, o57⟩ := h39.put hF.once hat hg hsj hrow e57
      have g59 : Grow w57 w59 := only_alloc e59
      have r59 : Row w59 (hs w57) 9 (encS s) := Row.new e59
      have z39 := o39.size
      have z57 := o57.size
      have z59 := g59.size
      have hgm : InRun t gs g := .inr (List.mem_of_getElem? hg)
      have own59 := (own39.keep o57 fun b hb e => by have := (own39.base b hb).1; have := lows g hgm; omega).grow g59
      refine run_append_row elem52 own59 r59 rfl (by simp [encS, Value.oneCell']) (by simp only [maxLen]; omega) (by omega) (by omega) fun o63 c65 w62 p1 p2 _ => ⟨_, _, _, rfl, ?_⟩
      have e1 : (between r.steps r.level i ++ l.take j).flatMap encS ++ encS s = (between r.steps r.level i ++ l.take (j + 1)).flatMap encS := by rw [htj, ← List.append_assoc, List.flatMap_append]; simp
      have e2 : (between r.steps r.level i ++ l.take j).length + 1 = (between r.steps r.level i ++ l.take (j + 1)).length := by rw [htj, ← List.append_assoc]; simp only [List.length_append, List.length_cons, List.length_nil]
      rw [e1, e2] at p1
      rw [e2]
      have ob : ∀ b, inBlock o40 b → hs w ≤ b := fun b hb => (own39.base b hb).1
      have oG : Only (InRun t gs) w39 w57 := o57.mono fun b _ e => by rw [e]; exact hgm
      refine ⟨_, by omega, j + 1, by rw [wr (by omega)]; omega, hlt2, rfl, rfl, p1, ?_, ?_, ?_⟩
      · refine (((h57.grow g59).keep p2 (fun b hb k => by have := lows b hb; have := ob b k; omega) fun b hb k => by have := lowd b hb; have := ob b k; omega)).eqf fun s' _ => ?_
        show (r.f s' || decide (s' ∈ between r.steps r.level i ++ l.take (j + 1))) = upd (fun s => r.f s || decide (s ∈ between r.steps r.level i ++ l.take j)) s true s'
        unfold upd
        rw [htj, ← List.append_assoc]
        by_cases e : s' = s
        · rw [if_pos e, e, decide_eq_true (by simp), Bool.or_true]
        · rw [if_neg e]
          congr 1
          rw [decide_eq_decide, List.mem_append (s := between r.steps r.level i ++ l.take j), List.mem_singleton]
          exact ⟨fun k => k.elim id fun k => absurd k e, .inl⟩
      · exact ((oo39.trans' (oG.mono fun b _ k => .inl k)).grow g59).trans' (p2.mono fun b _ k => .inr (ob b k))
      · exact ((o39.trans' oG).grow g59).trans p2 fun b hb k => by have := ob b k; omega
    · have := dF hge2
      have e0 : between r.steps r.level i ++ l.take j = between r.steps r.level (i + 1) := by rw [hbs]; congr 1; exact List.take_of_length_le (by omega)
      rw [e0] at own39 h39
      exact ⟨_, by omega, i + 1, by rw [wr (by omega)]; omega, by omega, by omega, rfl, by rw [e0], by rw [e0]; exact own39, h39, o39⟩
  · have := dF hge2
    obtain rfl : i = lv := by omega
    have h71 : RunAt w71 B t gs D (raiseR r i) := h20.head (only_setAdd e71) (fun os cs oo co k => k.setAdd e71) rfl rfl
    have o71 : Only (fun b => b = t) w20 w71 := only_setAdd e71
    obtain ⟨os5, cs5, oo5, co5, k71, -⟩ := h71.ex
    have O71 := o20.trans' (tIn o71)
    have own71 := own20.keep o71 fun b hb e => by have := (own20.base b hb).1; have := lows t (.inl rfl); omega
    refine ⟨_, rfl, _, k71.cellAdd rfl, fun hd => ?_, fun hd => ?_⟩
    · have hd : r.drill = true := hd
      rw [hd]
      exact ⟨none, 0, rfl, Recs.nil _ _ _ _, h71, O71⟩
    · have hd : r.drill = false := hd
      rw [hd]
      exact ⟨o21, c23, rfl, (own_recs' encS_len (by omega) own71).mono fun b hb => own71.base b hb, h71, O71⟩
end
end Go.Proofs.YtolpmdmcbciccaaDoor
