/- Contracts: Validate and the reference's Right; own, back, hall. -/
import Derived.Test.YtolpmdmcbciccaaDoorWa
namespace Go.Proofs.YtolpmdmcbciccaaDoor
open Go Go.Nf Go.RowKit

/-! ### a set of texts -/
theorem und80 : Tryd.prog.underlying 80 = some (.map 9 4) := of_map (by kernel_rfl)
theorem und9 : Tryd.prog.underlying 9 = some .string := by kernel_rfl
theorem zero4 (w : World) : (zeroValue 4).run Tryd.prog w = .ok (.bool false) w := run_zeroV (by kernel_rfl) w
theorem zero3 (w : World) : (zeroValue 3).run Tryd.prog w = .ok (.int .i64 0) w := run_zeroV (by kernel_rfl) w
def seenF (l : List Str) (s : ByteArray) : Value := .bool (decide (sb s ∈ l))
abbrev SeenAt (w : World) (m : Nat) (l : List Str) : Prop := FnAt Value.string (.bool false) w m (seenF l)
theorem seen_new {w w1 : World} {c : Nat} (e : w1 = w.alloc (.map #[] c)) : SeenAt w1 (hs w) [] := (fn_new e).eq fun k => by unfold seenF; rw [decide_eq_false (by simp)]
theorem seen_get {w : World} {m : Nat} {l : List Str} {x : Str} {K : Value → World → Prop} (h : SeenAt w m l) (hK : K (.bool (decide (x ∈ l))) w) : RunOk Tryd.prog (Hold (Instr.lookup 80 (.map (some m)) (.string (BA x)) false)) w K :=
  fn_get und80 (keys_str und9) (zero4 w) h (by unfold seenF; rw [sb_BA]; exact hK)
theorem seen_put {w : World} {m : Nat} {l : List Str} {x : Str} {K : Unit → World → Prop} (h : SeenAt w m l) (hK : ∀ w', SeenAt w' m (l ++ [x]) → Only (fun b => b = m) w w' → K () w') : RunOk Tryd.prog (Hold (Instr.mapUpdate 80 (.map (some m)) (.string (BA x)) (.bool true))) w K :=
  fn_put und80 (keys_str und9) h fun w' h' o => hK w' (h'.eq fun k => by
    unfold seenF
    by_cases e : k = BA x
    · rw [if_pos e, e, sb_BA, decide_eq_true (by simp)]
    · rw [if_neg e]
      have : sb k ≠ x := fun e' => e (by rw [← e', BA_sb])
      congr 1
      rw [decide_eq_decide, List.mem_append, List.mem_singleton]
      exact ⟨.inl, fun k => k.elim id fun k => absurd k this⟩) o

theorem levels_bad {seen : List Str} {i : Nat} {l : List Str} {ls : List (List Str)} (h : l.length < 1 ∨ 16 < l.length) : levelsR seen i (l :: ls) = (i : Int) + 1 := by rw [levelsR, if_pos h]
theorem levels_none {seen : List Str} {i : Nat} {l : List Str} {ls : List (List Str)} (h : levelR seen l = none) : levelsR seen i (l :: ls) = (i : Int) + 1 := by
  rw [levelsR]
  split
  · rfl
  · rw [h]
theorem levels_some {seen seen' : List Str} {i : Nat} {l : List Str} {ls : List (List Str)} (hl : ¬ (l.length < 1 ∨ 16 < l.length)) (h : levelR seen l = some seen') : levelsR seen i (l :: ls) = levelsR seen' (i + 1) ls := by
  rw [levelsR, if_neg hl, h]
theorem level_next {seen : List Str} {s : Str} {l : List Str} (h : stepL s = true) (hn : s ∉ seen) : levelR seen (s :: l) = levelR (seen ++ [s]) l := by rw [levelR, if_pos ⟨h, hn⟩]
theorem level_stop {seen : List Str} {s : Str} {l : List Str} (h : stepL s = false ∨ s ∈ seen) : levelR seen (s :: l) = none := by
  rw [levelR, if_neg]
  rintro ⟨h1, h2⟩
  rcases h with h | h
  · rw [h] at h1; cases h1
  · exact h2 h
theorem right_0 {p : Pl} (h : nameL p.name = false ∨ p.steps.length < 1 ∨ 5 < p.steps.length) : rightL p = 0 := by unfold rightL; rw [if_pos h]
theorem right_1 {p : Pl} (h : nameL p.name = true) (h1 : ¬ p.steps.length < 1) (h2 : ¬ 5 < p.steps.length) : rightL p = levelsR [] 0 p.steps := by
  unfold rightL
  rw [if_neg]
  rintro (k | k | k)
  · rw [h] at k; cases k
  · exact h1 k
  · exact h2 k
theorem ret_int {a b : Int} (h : a = b) : Ending.returned (.int .i64 a) = .returned (.int .i64 b) := by rw [h]
set_option maxHeartbeats 2000000 in
theorem validate_c (o : Option Addr) (c : Nat) (p : Pl) (hf : p.Fit) (w : World) {A : Nat → Prop} (h : Lol w A o p.steps) :
    Calls Tryd.prog 16 #[plV p.name o p.steps.length c] w fun e w' => e = .returned (.int .i64 (rightL p)) ∧ Grow w w' := by
  have h := h.low
  have hfs := hf.steps
  refine nf16 (BA p.name) o p.steps.length c w _ fun w1 e1 => ?_
  have r1 := Row.new e1
  have g1 : Grow w w1 := only_alloc e1
  refine ⟨_, r1.cell rfl, (validName_c p.name w1).mono ?_⟩
  rintro _ _ ⟨rfl, rfl⟩
  refine ⟨_, rfl, fun hn => ⟨_, _, _, r1.cell rfl, fun h1 => ⟨ret_int ?_, g1⟩, fun h1 => ⟨_, _, _, r1.cell rfl, fun h2 => ⟨ret_int ?_, g1⟩, fun h2 w18 e18 => ?_⟩⟩, fun hn => ⟨ret_int (right_0 (.inl hn)).symm, g1⟩⟩
  · exact (right_0 (.inr (.inl (by have := dT h1; omega)))).symm
  · exact (right_0 (.inr (.inr (by have := dT h2; omega)))).symm
  have h1 := dF h1
  have h2 := dF h2
  have hR := right_1 hn (by omega) (by omega)
  have g18 : Grow w1 w18 := only_alloc e18
  have G18 := g1.trans' g18
  have z1 := hs_alloc e1
  have z18 := hs_alloc e18
  have h18 := h.grow G18
  have low : ∀ b, b < hs w → ¬ b = hs w1 := fun b hb e => by omega
  refine ⟨_, _, _, (r1.grow g18).cell rfl, fun n x w' => ∃ (i : Nat) (seen : List Str), x = (i : Int) ∧ i ≤ p.steps.length ∧ n = p.steps.length - i ∧ SeenAt w' (hs w1) seen ∧ levelsR seen i (p.steps.drop i) = rightL p ∧ Only (fun b => b = hs w1) w18 w',
    ⟨_, 0, [], rfl, Nat.zero_le _, rfl, seen_new e18, by rw [List.drop_zero, hR], Only.refl _ _⟩, ?_⟩
  rintro n _ w27 x ⟨i, seen, rfl, hi, rfl, hs27, hL, o27⟩
  have up : ∀ {w' : World}, Only (fun b => b = hs w1) w18 w' → Grow w w' := fun o => G18.trans o fun b hb e => by omega
  refine ⟨fun hlt => ?_, fun hge => ⟨ret_int ?_, up o27⟩⟩
  · have hlt : i < p.steps.length := by have := dT hlt; omega
    obtain ⟨a, oi, ci, ha, -, hc, hS⟩ := (h18.keep o27 low).at (List.getElem?_eq_getElem hlt)
    have hfl := (hf.each _ (List.getElem_mem hlt)).1
    rw [List.drop_eq_getElem_cons hlt] at hL
    generalize p.steps[i] = l at *
    refine ⟨a, ha, ⟨by omega, by omega⟩, _, _, _, hc, fun h3 => ⟨ret_int ?_, up o27⟩, fun h3 => ⟨fun h4 => ⟨ret_int ?_, up o27⟩, fun h4 => ?_⟩⟩
    · rw [← hL, levels_bad (.inl (by have := dT h3; omega)), wr (by omega)]
    · rw [← hL, levels_bad (.inr (by have := dT h4; omega)), wr (by omega)]
    have h3 := dF h3
    have h4 := dF h4
    have hlen : ¬ (l.length < 1 ∨ 16 < l.length) := by omega
    refine ⟨fun n x w' => ∃ j : Nat, x = (j : Int) ∧ j ≤ l.length ∧ n = l.length - j ∧ SeenAt w' (hs w1) (seen ++ l.take j) ∧ levelR (seen ++ l.take j) (l.drop j) = levelR seen l ∧ Only (fun b => b = hs w1) w27 w',
      ⟨_, 0, rfl, Nat.zero_le _, rfl, by simpa using hs27, by simp, Only.refl _ _⟩, ?_⟩
    rintro n2 _ w43 x ⟨j, rfl, hj, rfl, hs43, hL2, o43⟩
    have U43 := up (o27.trans' o43)
    refine ⟨fun hlt2 => ?_, fun hge2 => ⟨_, by omega, i + 1, seen ++ l, by rw [wr (by omega)]; omega, hlt, rfl, ?_, ?_, o27.trans' o43⟩⟩
    · have hlt2 : j < l.length := by have := dT hlt2; omega
      obtain ⟨a2, ha2, -, hc2⟩ := Strs.at (Recs.keep hS o43 low) (List.getElem?_eq_getElem hlt2)
      rw [List.drop_eq_getElem_cons hlt2] at hL2
      have ht := List.take_succ_eq_append_getElem hlt2
      generalize l[j] = s at *
      have stop : (stepL s = false ∨ s ∈ seen ++ l.take j) → Ending.returned (.int .i64 (IntKind.wrap .i64 ((i : Int) + 1))) = .returned (.int .i64 (rightL p)) := fun k => ret_int (by
        rw [level_stop k] at hL2
        rw [← hL, levels_none hL2.symm, wr (by omega)])
      refine ⟨a2, ha2, ⟨by omega, by omega⟩, _, hc2, (validStep_c s w43).mono ?_⟩
      rintro _ _ ⟨rfl, rfl⟩
      refine ⟨_, rfl, fun hst => seen_get hs43 ⟨_, rfl, fun hin => ⟨stop (.inr (dT hin)), U43⟩, fun hin => seen_put hs43 fun w59 hs59 o59 => ?_⟩, fun hst => ⟨stop (.inl hst), U43⟩⟩
      rw [List.append_assoc, ← ht] at hs59
      refine ⟨_, by omega, j + 1, by rw [wr (by omega)]; omega, hlt2, rfl, hs59, ?_, o43.trans' o59⟩
      rw [level_next hst (dF hin), List.append_assoc, ← ht] at hL2
      exact hL2
    · have := dF hge2
      rw [List.take_of_length_le (by omega)] at hs43
      exact hs43
    · have := dF hge2
      rw [List.take_of_length_le (by omega), List.drop_eq_nil_of_le (by omega), levelR] at hL2
      rw [← hL, levels_some hlen hL2.symm]
  · have := dF hge
    obtain rfl : i = p.steps.length := by omega
    rw [List.drop_length, levelsR] at hL
    exact hL
theorem elem52 : Elem Tryd.prog 52 9 1 16 := elem_of (by kernel_rfl)
theorem elem30 : Elem Tryd.prog 30 52 1 24 := elem_of (by kernel_rfl)
theorem levelR_len {seen l seen' : List Str} (h : levelR seen l = some seen') : seen' = seen ++ l := (levelR_some.1 h).2.2.2
set_option maxHeartbeats 4000000 in
theorem right_c (o : Option Addr) (c : Nat) (p : Pl) (hf : p.Fit) (w : World) {A : Nat → Prop} (h : Lol w A o p.steps) :
    Calls Tryd.prog 18 #[plV p.name o p.steps.length c] w fun e w' => e = .returned (.int .i64 (rightL p)) ∧ Grow w w' := by
  have h := h.low
  have hfs := hf.steps
  have hfn := hf.name
  refine nf18 (BA p.name) o p.steps.length c w _ fun w1 e1 => ?_
  have r1 := Row.new e1
  have g1 : Grow w w1 := only_alloc e1
  refine ⟨_, r1.cell rfl, (name_c p.name (by omega) w1).mono ?_⟩
  rintro _ _ ⟨rfl, rfl⟩
  refine ⟨_, rfl, fun hn => ⟨_, _, _, r1.cell rfl, fun h1 => ⟨ret_int ?_, g1⟩, fun h1 => ⟨_, _, _, r1.cell rfl, fun h2 => ⟨ret_int ?_, g1⟩, fun h2 w18 e18 => ?_⟩⟩, fun hn => ⟨ret_int (right_0 (.inl hn)).symm, g1⟩⟩
  · exact (right_0 (.inr (.inl (by have := dT h1; omega)))).symm
  · exact (right_0 (.inr (.inr (by have := dT h2; omega)))).symm
  have h1 := dF h1
  have h2 := dF h2
  have hR := right_1 hn (by omega) (by omega)
  have g18 : Grow w1 w18 := only_alloc e18
  have G18 := g1.trans' g18
  have z1 := hs_alloc e1
  have z18 := hs_alloc e18
  have own18 : Own w18 (hs w1) 9 1 (some ⟨hs w1, 0, none⟩) 0 0 (([] : List Str).flatMap encS) := (show Row w18 (hs w1) 9 [] from Row.new e18).own (n := 0) (Nat.le_refl _) rfl (by simp [maxLen])
  refine ⟨fun n o' n' c' x w' => ∃ (i : Nat) (seen : List Str), x = (i : Int) ∧ i ≤ p.steps.length ∧ n = p.steps.length - i ∧ n' = seen.length ∧ seen.length ≤ 16 * i ∧ Own w' (hs w1) 9 1 o' n' c' (seen.flatMap encS) ∧ levelsR seen i (p.steps.drop i) = rightL p ∧ Grow w1 w',
    ⟨_, 0, [], rfl, Nat.zero_le _, rfl, rfl, by simp, own18, by rw [List.drop_zero, hR], g18⟩, ?_⟩
  rintro n _ w24 o25 n26 c27 x ⟨i, seen, rfl, hi, rfl, rfl, hsl, own24, hL, g24⟩
  have G24 := g1.trans' g24
  have r24 := r1.grow g24
  refine ⟨_, _, _, r24.cell rfl, fun hlt => ?_, fun hge => ⟨ret_int ?_, G24⟩⟩
  · have hlt : i < p.steps.length := by have := dT hlt; omega
    obtain ⟨a, oi, ci, ha, -, hc, hS⟩ := (h.grow G24).at (List.getElem?_eq_getElem hlt)
    have hfl := (hf.each _ (List.getElem_mem hlt)).1
    rw [List.drop_eq_getElem_cons hlt] at hL
    have hat := List.getElem?_eq_getElem hlt
    generalize p.steps[i] = l at *
    refine ⟨_, _, _, r24.cell rfl, a, ha, ⟨by omega, by omega⟩, _, _, _, hc, fun h3 => ⟨ret_int ?_, G24⟩, fun h3 => ⟨_, _, _, r24.cell rfl, a, ha, ⟨by omega, by omega⟩, _, _, _, hc, fun h4 => ⟨ret_int ?_, G24⟩, fun h4 => ?_⟩⟩
    · rw [← hL, levels_bad (.inl (by have := dT h3; omega)), wr (by omega)]
    · rw [← hL, levels_bad (.inr (by have := dT h4; omega)), wr (by omega)]
    have h3 := dF h3
    have h4 := dF h4
    have hlen : ¬ (l.length < 1 ∨ 16 < l.length) := by omega
    refine ⟨fun n o' n' c' x w' => ∃ j : Nat, x = (j : Int) ∧ j ≤ l.length ∧ n = l.length - j ∧ n' = (seen ++ l.take j).length ∧ Own w' (hs w1) 9 1 o' n' c' ((seen ++ l.take j).flatMap encS) ∧ levelR (seen ++ l.take j) (l.drop j) = levelR seen l ∧ Grow w1 w',
      ⟨_, 0, rfl, Nat.zero_le _, rfl, by simp, by simpa using own24, by simp, g24⟩, ?_⟩
    rintro n2 _ w56 o57 n58 c59 x ⟨j, rfl, hj, rfl, rfl, own56, hL2, g56⟩
    have G56 := g1.trans' g56
    have r56 := r1.grow g56
    obtain ⟨a', oi', ci', ha', -, hc', hS'⟩ := (h.grow G56).at hat
    refine ⟨_, _, _, r56.cell rfl, a', ha', ⟨by omega, by omega⟩, _, _, _, hc', fun hlt2 => ?_, fun hge2 => ?_⟩
    · have hlt2 : j < l.length := by have := dT hlt2; omega
      obtain ⟨a2, ha2, -, hc2⟩ := Strs.at hS' (List.getElem?_eq_getElem hlt2)
      rw [List.drop_eq_getElem_cons hlt2] at hL2
      have ht := List.take_succ_eq_append_getElem hlt2
      generalize l[j] = s at *
      have stop : (stepL s = false ∨ s ∈ seen ++ l.take j) → Ending.returned (.int .i64 (IntKind.wrap .i64 ((i : Int) + 1))) = .returned (.int .i64 (rightL p)) := fun k => ret_int (by
        rw [level_stop k] at hL2
        rw [← hL, levels_none hL2.symm, wr (by omega)])
      refine ⟨_, _, _, r56.cell rfl, a', ha', ⟨by omega, by omega⟩, _, _, _, hc', a2, ha2, ⟨by omega, by omega⟩, _, hc2, (phrase_c s w56).mono ?_⟩
      rintro _ _ ⟨rfl, rfl⟩
      have hsl2 : (seen ++ l.take j).length ≤ 1000 := by rw [List.length_append, List.length_take]; omega
      refine ⟨_, rfl, fun hst => (has_c o57 c59 (seen ++ l.take j) s (by omega) w56 (own_recs' encS_len (by omega) own56)).mono ?_, fun hst => ⟨stop (.inl hst), G56⟩⟩
      rintro _ _ ⟨rfl, rfl⟩
      refine ⟨_, rfl, fun hin => ⟨stop (.inr (dT hin)), G56⟩, fun hin w88 e88 => ?_⟩
      have g88 : Grow w56 w88 := only_alloc e88
      have r88 : Row w88 (hs w56) 9 (encS s) := Row.new e88
      have z56 := g56.size
      have z88 := g88.size
      refine run_append_row elem52 (own56.grow g88) r88 rfl (by simp [encS, Value.oneCell']) (by simp only [maxLen]; omega) (by omega) (by omega) fun o92 c94 w91 p1 p2 _ => ⟨_, _, _, rfl, ?_⟩
      have e1 : (seen ++ l.take j).flatMap encS ++ encS s = (seen ++ l.take (j + 1)).flatMap encS := by rw [ht, ← List.append_assoc, List.flatMap_append]; simp
      have e2 : (seen ++ l.take j).length + 1 = (seen ++ l.take (j + 1)).length := by rw [ht, ← List.append_assoc]; simp only [List.length_append, List.length_cons, List.length_nil]
      rw [e1, e2] at p1
      rw [e2]
      refine ⟨_, by omega, j + 1, by rw [wr (by omega)]; omega, hlt2, rfl, rfl, p1, ?_, (g56.trans' g88).trans p2 fun b hb k => by have := (own56.base b k).1; omega⟩
      rw [level_next hst (dF hin), List.append_assoc, ← ht] at hL2
      exact hL2
    · have := dF hge2
      rw [List.take_of_length_le (by omega)] at own56 ⊢
      rw [List.take_of_length_le (by omega), List.drop_eq_nil_of_le (by omega), levelR] at hL2
      refine ⟨_, by omega, i + 1, seen ++ l, by rw [wr (by omega)]; omega, hlt, rfl, rfl, by rw [List.length_append]; omega, own56, by rw [← hL, levels_some hlen hL2.symm], g56⟩
  · have := dF hge
    obtain rfl : i = p.steps.length := by omega
    rw [List.drop_length, levelsR] at hL
    exact hL

/-! ### lists that a call builds -/
def Built (w : World) (B : Nat) (o : Option Addr) (n c : Nat) (l : List (List Str)) : Prop :=
  ∃ rows : List LR, rows.map (·.1) = l ∧ Own w B 52 1 o n c (rows.flatMap encL) ∧ ∀ x ∈ rows, Own w B 9 1 x.2.1 x.1.length x.2.2 (x.1.flatMap encS)
theorem Built.keep {S : Nat → Prop} {w w' : World} {B : Nat} {o : Option Addr} {n c : Nat} {l : List (List Str)} (h : Built w B o n c l) (g : Only S w w') (hS : ∀ b, B ≤ b → ¬ S b) : Built w' B o n c l := by
  obtain ⟨rows, h1, h2, h3⟩ := h
  exact ⟨rows, h1, h2.keep g fun b hb => hS b (h2.base b hb).1, fun x hx => (h3 x hx).keep g fun b hb => hS b ((h3 x hx).base b hb).1⟩
theorem Built.grow {w w' : World} {B : Nat} {o : Option Addr} {n c : Nat} {l : List (List Str)} (h : Built w B o n c l) (g : Grow w w') : Built w' B o n c l := h.keep g fun _ _ h => h
theorem Built.len {w : World} {B : Nat} {o : Option Addr} {n c : Nat} {l : List (List Str)} (h : Built w B o n c l) : n = l.length := by
  obtain ⟨rows, rfl, h2, -⟩ := h
  have := h2.length
  rw [flat_length encL_len] at this
  rw [List.length_map]; omega
theorem Built.lol {w : World} {B : Nat} {o : Option Addr} {n c : Nat} {l : List (List Str)} (h : Built w B o n c l) : Lol w (fun b => B ≤ b ∧ b < hs w) o l := by
  obtain ⟨rows, h1, h2, h3⟩ := h
  exact ⟨rows, h1, (own_recs' encL_len (by omega) h2).mono fun b hb => h2.base b hb, fun x hx => (own_recs' encS_len (by omega) (h3 x hx)).mono fun b hb => (h3 x hx).base b hb⟩
theorem Built.nil (w : World) (B : Nat) : Built w B none 0 0 [] := ⟨[], rfl, own_nil _ _ _ _, fun _ h => by cases h⟩
theorem built_push {w : World} {B n c cx b m c1 : Nat} {o o1 : Option Addr} {l : List (List Str)} {x : List Str} {K : Value → World → Prop} (h : Built w B o n c l) (hrow : Row w b 52 [.slice o1 m c1]) (hx : Own w B 9 1 o1 m c1 (x.flatMap encS)) (hm : m = x.length)
    (hb : (n + 1) * 24 ≤ 140737488355328) (hbase : B ≤ hs w) (hK : ∀ o' c' w', Built w' B o' (n + 1) c' (l ++ [x]) → Only (inBlock o) w w' → (∀ b, inBlock o b → B ≤ b) → K (.slice o' (n + 1) c') w') :
    RunOk Tryd.prog (Hold (Builtin.append_ #[30, 30] 30 #[.slice o n c, .slice (some ⟨b, 0, none⟩) 1 cx])) w K := by
  subst hm
  obtain ⟨rows, h1, h2, h3⟩ := h
  refine run_append_row elem30 h2 hrow rfl (by simp [Value.oneCell']) (by simp only [maxLen]; omega) hb hbase fun o' c' w' p1 p2 _ => hK o' c' w' ⟨rows ++ [(x, o1, c1)], by rw [List.map_append, h1]; rfl, ?_, fun y hy => ?_⟩ p2 fun b hb => (h2.base b hb).1
  · rw [List.flatMap_append]
    simpa [encL] using p1
  · rcases List.mem_append.1 hy with hy | hy
    · exact (h3 y hy).keep p2 fun b hb => (h3 y hy).apart h2 (by decide) b hb
    · rw [List.mem_singleton] at hy
      subst hy
      exact hx.keep p2 fun b hb => hx.apart h2 (by decide) b hb
set_option maxHeartbeats 2000000 in
theorem own_c (o : Option Addr) (c : Nat) (p : Pl) (hf : p.Fit) (w : World) {A : Nat → Prop} (h : Lol w A o p.steps) :
    Calls Tryd.prog 17 #[plV p.name o p.steps.length c] w fun e w' => ∃ o' c', e = .returned (plV p.name o' p.steps.length c') ∧ Lol w' (fun b => hs w ≤ b ∧ b < hs w') o' p.steps ∧ Grow w w' := by
  have h := h.low
  have hfs := hf.steps
  refine nf17 (BA p.name) o p.steps.length c w _ fun w1 e1 w3 e3 => ?_
  have r1 := Row.new e1
  have r3 := Row.new e3
  have g1 : Grow w w1 := only_alloc e1
  have g3 : Grow w1 w3 := only_alloc e3
  have z1 := hs_alloc e1
  have z3 := hs_alloc e3
  refine ⟨_, (r1.grow g3).cell rfl, fun w6 e6 => ⟨(Row.new e6).there (by simp), fun w8 e8 => ?_⟩⟩
  obtain ⟨r8, g8⟩ := loc e6 e8 rfl
  have g38 := g3.trans' g8
  have z6 := hs_alloc e6
  have l8 := r8.lt
  have G8 := g1.trans' g38
  refine ⟨_, _, _, (r1.grow g38).cell rfl, fun n x w' => ∃ (i : Nat) (o' : Option Addr) (c' : Nat), x = (i : Int) ∧ i ≤ p.steps.length ∧ n = p.steps.length - i ∧ Row w' (hs w3) 35 [.string (BA p.name), .slice o' i c'] ∧ Built w' (hs w8) o' i c' (p.steps.take i) ∧ Only (fun b => b = hs w3) w8 w',
    ⟨_, 0, none, 0, rfl, Nat.zero_le _, rfl, r8, Built.nil _ _, Only.refl _ _⟩, ?_⟩
  rintro n _ w17 x ⟨i, o', c', rfl, hi, rfl, r17, hB, o17⟩
  have up : ∀ {w' : World}, Only (fun b => b = hs w3) w8 w' → Grow w w' := fun o => G8.trans o fun b hb e => by omega
  have z17 := o17.size
  refine ⟨fun hlt => ?_, fun hge => ?_⟩
  · have hlt : i < p.steps.length := by have := dT hlt; omega
    obtain ⟨a, oi, ci, ha, -, hc, hS⟩ := (h.grow (up o17)).at (List.getElem?_eq_getElem hlt)
    have hfl := (hf.each _ (List.getElem_mem hlt)).1
    have ht := List.take_succ_eq_append_getElem hlt
    generalize p.steps[i] = l at *
    refine ⟨a, ha, ⟨by omega, by omega⟩, _, _, _, hc, fun w25 e25 => ⟨_, _, _, (r17.grow (only_drew e25)).cell rfl, fun w30 e30 => ?_⟩⟩
    have g25 : Grow w17 w25 := only_drew e25
    have g30 : Grow w25 w30 := only_alloc e30
    have r25 := r17.grow g25
    have own30 : Own w30 (hs w8) 9 1 (some ⟨hs w25, 0, none⟩) 0 0 (([] : List Str).flatMap encS) := (show Row w30 (hs w25) 9 [] from Row.new e30).own (n := 0) (by have := g25.size; omega) rfl (by simp [maxLen])
    have z25 := g25.size
    have z30 := hs_alloc e30
    refine ⟨kept_only g30 r25.lt (fun h => h), append_recs encS_len elem52 (by omega) own30 ((Recs.grow hS g25).grow g30) encS_one (by simp only [maxLen]; omega) (by omega) (by omega) fun o34 c36 w33 p1 p2 => ⟨_, _, _, rfl, ?_⟩⟩
    have g33 : Grow w25 w33 := g30.trans p2 fun b hb k => by
      obtain ⟨a', ha', rfl⟩ := k
      cases ha'
      exact absurd hb (by simp)
    rw [List.nil_append, Nat.zero_add] at p1
    rw [Nat.zero_add]
    have z33 := g33.size
    refine ⟨kept_only g33 r25.lt (fun h => h), fun w37 e37 => ?_⟩
    have g37 : Grow w33 w37 := only_alloc e37
    have r37 : Row w37 (hs w33) 52 [.slice o34 l.length c36] := Row.new e37
    have z37 := hs_alloc e37
    refine ⟨kept_only (g33.trans' g37 : Grow w25 w37) r25.lt (fun h => h), built_push (((hB.grow g25).grow g33).grow g37) r37 (p1.grow g37) rfl (by omega) (by omega) fun o41 c43 w40 q1 q2 q3 => ⟨_, _, _, rfl, ?_⟩⟩
    have r40 := ((r25.grow g33).grow g37).keep q2 fun k => by have := q3 _ k; omega
    refine ⟨r40.there (by simp), fun w44 e44 => ?_⟩
    have r44 := r40.set e44
    have g44 : Only (fun b => b = hs w3) w40 w44 := only_set e44
    rw [← ht] at q1
    refine ⟨_, by omega, i + 1, o41, c43, by rw [wr (by omega)]; omega, hlt, rfl, r44, q1.keep g44 fun b hb e => by omega, ?_⟩
    exact ((o17.grow ((g25.trans' g33).trans' g37)).trans q2 fun b hb k => by have := q3 b k; omega).trans' g44
  · have := dF hge
    obtain rfl : i = p.steps.length := by omega
    rw [List.take_length] at hB
    have rr := ((Row.new e3).grow g8).keep o17 (by omega)
    refine ⟨_, r17.cell rfl, _, _, _, r17.cell rfl, rr.there (by simp), fun w52 e52 => ?_⟩
    have r52 := rr.set e52
    have g52 : Only (fun b => b = hs w1) w17 w52 := only_set e52
    refine ⟨_, r52.cell rfl, _, _, _, r52.cell rfl, o', c', rfl, (hB.keep g52 fun b hb e => by omega).lol.mono fun b hb => ⟨by omega, hb.2⟩, (up o17).trans g52 fun b hb e => by omega⟩
end Go.Proofs.YtolpmdmcbciccaaDoor
