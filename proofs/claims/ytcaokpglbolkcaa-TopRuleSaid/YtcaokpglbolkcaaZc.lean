/- Contract: hallRows. -/
import Derived.Test.YtcaokpglbolkcaaZb
namespace Go.Proofs.Ytcaokpglbolkcaa
open Go Go.Nf

/-- a queue that may still be nil -/
def NQ (w : World) (B T : Nat) (o : Option Addr) (n c : Nat) (xs : List Value) : Prop := (o = none ∧ n = 0 ∧ c = 0 ∧ xs = []) ∨ Que w B T o n c xs
theorem NQ.keep {S : Nat → Prop} {w w' : World} {B T : Nat} {o : Option Addr} {n c : Nat} {xs : List Value} (h : NQ w B T o n c xs) (k : Only S w w') (hS : ∀ b, B ≤ b → b < hs w → ¬ S b) : NQ w' B T o n c xs :=
  h.imp id fun h => h.keep k fun b hb => hS b (h.base b hb).1 (h.base b hb).2
theorem NQ.grow {w w' : World} {B T : Nat} {o : Option Addr} {n c : Nat} {xs : List Value} (h : NQ w B T o n c xs) (k : Grow w w') : NQ w' B T o n c xs := h.imp id fun h => h.grow k
theorem own_nq {w : World} {B T : Nat} {o : Option Addr} {n c : Nat} {xs : List Value} (h : Own w B T 1 o n c xs) : NQ w B T o n c xs := by
  have hl := h.1
  rcases h.2 with ⟨e, e2⟩ | ⟨g, cap, cur, e, hB, hg, h1, h2, h3, h4⟩
  · simp only [Value.slice.injEq] at e
    exact .inl ⟨e.1, e2, e.2.2, List.eq_nil_of_length_eq_zero (by omega)⟩
  · simp only [Value.slice.injEq] at e
    obtain ⟨rfl, -, rfl⟩ := e
    refine .inr ⟨g, 0, cur.toList, rfl, hB, by unfold Row; rw [Array.toArray_toList]; exact hg, by simp; omega, h1, h2, ?_, by omega⟩
    rw [List.drop_zero]
    rw [Nat.mul_one] at h4
    exact h4
theorem NQ.push {w : World} {B : Nat} {o : Option Addr} {n c : Nat} {xs : List Value} {b cx : Nat} {v : Value} {K : Value → World → Prop} (h : NQ w B 3 o n c xs) (hrow : Row w b 3 [v]) (h1 : v.oneCell' = true) (hn : n ≤ 1000) (hbase : B ≤ hs w)
    (hK : ∀ o' c' w', NQ w' B 3 o' (n + 1) c' (xs ++ [v]) → Only (fun b => B ≤ b) w w' → K (.slice o' (n + 1) c') w') : RunOk Try.prog (Hold (Builtin.append_ #[31, 31] 31 #[.slice o n c, .slice (some ⟨b, 0, none⟩) 1 cx])) w K := by
  rcases h with ⟨rfl, rfl, rfl, rfl⟩ | h
  · exact run_append_row elem31 (own_nil w B 3 1) hrow rfl (by simpa using h1) (by simp [maxLen]) (by omega) hbase fun o' c' w' p1 p2 _ => hK o' c' w' (own_nq p1) (p2.mono fun b _ hb => by obtain ⟨_, e, _⟩ := hb; cases e)
  · exact Que.push elem31 h hrow h1 (by simp only [maxLen]; omega) (by omega) hbase fun o' c' w' p1 p2 => hK o' c' w' (.inr p1) (p2.mono fun b _ hb => (h.base b hb).1)
theorem rowsUp_succ (B : List Bool) (t : Nat) : rowsUp B (t + 1) = rowsUp B t ++ if gB B t = true then [(t : Int)] else [] := by
  unfold rowsUp
  rw [List.range_succ, List.filter_append, List.map_append]
  congr 1
  by_cases h : gB B t = true
  · rw [if_pos h]; simp [h]
  · rw [if_neg h]; simp [h]
def natQ (q : List Nat) : List Value := q.map fun i : Nat => .int .i64 (i : Int)
theorem natQ_app (q : List Nat) (i : Nat) : natQ q ++ [.int .i64 (i : Int)] = natQ (q ++ [i]) := by unfold natQ; rw [List.map_append]; rfl
theorem NQ.len {w : World} {B T : Nat} {o : Option Addr} {n c : Nat} {xs : List Value} (h : NQ w B T o n c xs) : xs.length = n := by
  rcases h with ⟨-, rfl, -, rfl⟩ | h
  · rfl
  · obtain ⟨g, off, l, -, -, -, -, -, -, -, h5⟩ := h
    exact h5
def HallPost (w : World) (rows : List (List Int)) (m : List Int) (e : Ending) (w' : World) : Prop :=
  ∃ B o c, e = .returned (.slice o (rowsUp B rows.length).length c) ∧ Own w' (hs w) 3 1 o (rowsUp B rows.length).length c (intsV (rowsUp B rows.length)) ∧ (∀ i, i < rows.length → (gB B i = true ↔ Short rows (first rows) m i)) ∧ Grow w w'
set_option maxHeartbeats 8000000 in
theorem hallRows_c (o o' : Option Addr) (c c' : Nat) (rows : List (List Int)) (m : List Int) (he : errOf rows = 0) (hv : Valid rows (first rows) m) (w : World) {A A' : Nat → Prop} (h : Mat w A o rows) (h' : Nums w A' o' m) :
    Calls Try.prog 35 #[.slice o rows.length c, .slice o' m.length c'] w (HallPost w rows m) := by
  have hE := err0 he
  have hfl := first_le he
  have hrow : ∀ r ∈ rows, r.length = first rows := fun r hr => (hE.2.2 r hr).1
  have hml := hv.len
  refine nf35 o rows.length c o' m.length c' w _ ((width_c o c rows w h).mono ?_)
  rintro _ _ ⟨rfl, rfl⟩
  refine ⟨_, rfl, (rowsOf_c o' c' (first rows) rows.length rows m rfl hml (by omega) (fun i hi => by
    rcases hv.ok i hi with k | k
    · omega
    · exact k.2.1) (by omega) w h').mono ?_⟩
  rintro _ w5 ⟨W, rfl, rW5, hW, g5⟩
  refine ⟨_, _, _, rfl, make_bools (by omega) fun w10 r10 g10 l10 => ⟨_, _, _, rfl, ?_⟩⟩
  have G10 := g5.trans' g10
  have rW := rW5.grow g10
  have lW := rW5.lt
  have l5 := rW5.lt
  have z10 := g10.size
  have lW' := hW.len
  generalize hbw : hs w = bw at *
  generalize hbr : hs w5 = br at *
  generalize hB10 : hs w10 = B10 at *
  -- the rows without a column
  refine ⟨fun n o' n' c' x w' => ∃ (t : Nat) (B : List Bool) (q : List Nat), x = (t : Int) ∧ t ≤ m.length ∧ n = m.length - t ∧ B.length = rows.length ∧ (∀ i, i < rows.length → (gB B i = true ↔ i < t ∧ gm m i = -1)) ∧ (∀ i, i ∈ q ↔ i < t ∧ gm m i = -1) ∧ q.length = cntN (gB B) rows.length ∧ NQ w' B10 3 o' n' c' (natQ q) ∧ Row w' br 4 (boolsV B) ∧ Only (fun b => b = br ∨ B10 ≤ b) w10 w',
    ⟨_, 0, _, [], rfl, Nat.zero_le _, rfl, List.length_replicate, fun i hi => ⟨fun k => (by rw [gB_rep] at k; cases k), fun k => (by omega)⟩, fun i => ⟨fun k => (by cases k), fun k => (by omega)⟩, ?_, .inl ⟨rfl, rfl, rfl, rfl⟩, r10, Only.refl _ _⟩, ?_⟩
  · have : ∀ n, cntN (gB (List.replicate rows.length false)) n = 0 := by
      intro n
      induction n with
      | zero => rfl
      | succ n ih => rw [cntN, ih, gB_rep]; rfl
    rw [this]; rfl
  rintro n _ w18 o19 n20 c21 x ⟨t, B, q, rfl, ht, rfl, hBl, hB, hq, hql, hNQ, rB18, o18⟩
  have G18 : Grow w w18 := G10.trans o18 fun b hb e => by omega
  have hN := hNQ.len
  unfold natQ at hN
  rw [List.length_map] at hN
  have hcl := cntN_le (gB B) rows.length
  refine ⟨fun hlt k25 hk25 => ?_, fun hge => ?_⟩
  · have hlt : t < m.length := by have := dT hlt; omega
    obtain ⟨a, ha, hc⟩ := (h'.grow G18).get hlt
    rw [← gm_at hlt] at hc
    refine ⟨a, ha, ⟨by omega, by omega⟩, _, hc, fun hneg => ?_, fun hnn => hk25 _ _ _ _ fun _ => ⟨_, ?_, t + 1, B, q, by rw [wr (by omega)]; omega, hlt, rfl, hBl, fun i hi => ?_, fun i => ?_, hql, hNQ, rB18, o18⟩⟩
    · have hneg := dT hneg
      have hm1 : gm m t = -1 := by
        rcases hv.ok t (by omega) with k | k <;> omega
      have hbt : gB B t = false := by
        cases hb : gB B t with
        | false => rfl
        | true => have := (hB t (by omega)).1 hb; omega
      refine ⟨_, rfl, ⟨by omega, by omega⟩, Row.thereB rB18 (by omega), fun w38 e38 w40 e40 => ?_⟩
      have rB38 := Row.setB rB18 e38
      have o38' : Only (fun b => b = br) w18 w38 := only_setAdd e38
      have g40 : Grow w38 w40 := only_alloc e40
      have z18 := o18.size
      have z38 := o38'.size
      have z40 := hs_alloc e40
      have r40 : Row w40 (hs w38) 3 [.int .i64 (t : Int)] := Row.new e40
      refine NQ.push ((hNQ.keep o38' fun b hb _ e => by omega).grow g40) r40 rfl (by omega) (by omega) fun o44 c46 w43 p1 p2 => ⟨_, _, _, rfl, hk25 _ _ _ _ fun _ => ⟨_, ?_, t + 1, B.set t true, q ++ [t], by rw [wr (by omega)]; omega, hlt, rfl, by rw [List.length_set]; exact hBl, fun i hi => ?_, fun i => ?_, ?_, ?_, ?_, ?_⟩⟩
      · omega
      · rw [gB_put (by omega)]
        by_cases e : i = t
        · subst e; rw [if_pos rfl]; exact ⟨fun _ => ⟨by omega, hm1⟩, fun _ => rfl⟩
        · rw [if_neg e, hB i hi]
          exact ⟨fun k => ⟨by omega, k.2⟩, fun k => ⟨by omega, k.2⟩⟩
      · rw [List.mem_append, List.mem_singleton, hq i]
        constructor
        · rintro (k | rfl)
          · exact ⟨by omega, k.2⟩
          · exact ⟨by omega, hm1⟩
        · rintro ⟨k1, k2⟩
          by_cases e : i = t
          · exact .inr e
          · exact .inl ⟨by omega, k2⟩
      · rw [List.length_append, List.length_singleton, cntN_put (by omega) (by omega) hbt, hql]
      · rw [natQ_app] at p1; exact p1
      · exact (rB38.grow g40).keep p2 (by omega)
      · exact ((o18.trans o38' fun b _ e => .inl e).grow g40).trans p2 fun b _ hb => .inr hb
    · omega
    · have hnn := dF hnn
      rw [hB i hi]
      refine ⟨fun k => ⟨by omega, k.2⟩, fun k => ⟨?_, k.2⟩⟩
      by_cases e : i = t
      · subst e; omega
      · omega
    · have hnn := dF hnn
      rw [hq i]
      refine ⟨fun k => ⟨by omega, k.2⟩, fun k => ⟨?_, k.2⟩⟩
      by_cases e : i = t
      · subst e; omega
      · omega
  have hge := dF hge
  have htl : t = rows.length := by omega
  have srch0 : Srch rows (first rows) m B q fun _ _ => False := by
    refine ⟨hBl, fun i hi hb => .un i hi ((hB i hi).1 hb).2, fun i hi e => (hB i hi).2 ⟨by omega, e⟩, fun i hi => ?_, fun i j k hi hb hnq _ _ _ _ _ => ?_⟩
    · have := (hq i).1 hi
      exact ⟨by omega, (hB i (by omega)).2 this⟩
    · exact absurd ((hq i).2 ((hB i hi).1 hb)) hnq
  refine ⟨fun n o' n' c' w' => ∃ (B : List Bool) (q : List Nat), n = 2 * (rows.length - cntN (gB B) rows.length) + q.length ∧ Srch rows (first rows) m B q (fun _ _ => False) ∧ q.length ≤ cntN (gB B) rows.length ∧ NQ w' B10 3 o' n' c' (natQ q) ∧ Row w' br 4 (boolsV B) ∧ Only (fun b => b = br ∨ B10 ≤ b) w10 w', ⟨_, B, q, rfl, srch0, by omega, hNQ, rB18, o18⟩, ?_⟩
  clear srch0 hNQ rB18 o18 hq hB hBl hql hN hcl G18 B q
  rintro n _ w53 o54 n55 c56 ⟨B, q, rfl, hS, hql, hNQ, rB53, o53⟩
  have G53 : Grow w w53 := G10.trans o53 fun b hb e => by omega
  have hN := hNQ.len
  unfold natQ at hN
  rw [List.length_map] at hN
  have hcl := cntN_le (gB B) rows.length
  have hBl := hS.len
  refine ⟨fun hpos => ?_, fun hz => ?_⟩
  · cases q with
    | nil => have := dT hpos; simp at hN; omega
    | cons x q =>
    have hQ : Que w53 B10 3 o54 n55 c56 (.int .i64 (x : Int) :: natQ q) := by
      rcases hNQ with ⟨-, -, -, e⟩ | k
      · cases e
      · exact k
    obtain ⟨a, ha, hca, hn55⟩ := hQ.head
    have hQt := hQ.tail
    have hxr := hS.inq x (.head _)
    obtain ⟨ac, oi, ci, hac, hcc0, hnums⟩ := h.get hxr.1
    have hcc := cell_grow G53 hcc0
    have hrl := hrow _ (List.getElem_mem hxr.1)
    rw [List.length_cons] at hql hN
    refine ⟨a, ha, ⟨by omega, by omega⟩, _, hca, ⟨by omega, by omega⟩, ac, hac, ⟨by omega, by omega⟩, _, _, _, hcc, fun n o' n' c' y w' => ∃ (j : Nat) (B' : List Bool) (q' : List Nat), y = (j : Int) ∧ j ≤ first rows ∧ n = first rows - j ∧ Srch rows (first rows) m B' q' (fun i j' => i = x ∧ j ≤ j') ∧ gB B' x = true ∧ q'.length ≤ cntN (gB B') rows.length ∧ 2 * (rows.length - cntN (gB B') rows.length) + q'.length < 2 * (rows.length - cntN (gB B) rows.length) + (x :: q).length ∧ NQ w' B10 3 o' n' c' (natQ q') ∧ Row w' br 4 (boolsV B') ∧ Only (fun b => b = br ∨ B10 ≤ b) w10 w',
      ⟨_, 0, B, q, rfl, Nat.zero_le _, rfl, hS.pop, hxr.2, by omega, by simp, .inr hQt, rB53, o53⟩, ?_⟩
    rintro n _ w69 o70 n71 c72 y ⟨j, B', q', rfl, hj, rfl, hS', hxb, hql', hmeas, hNQ', rB69, o69⟩
    have G69 : Grow w w69 := G10.trans o69 fun b hb e => by omega
    have hN' := hNQ'.len
    unfold natQ at hN'
    rw [List.length_map] at hN'
    have hcl' := cntN_le (gB B') rows.length
    have hBl' := hS'.len
    refine ⟨fun hlt k76 hk76 => ?_, fun hge2 => ⟨_, hmeas, B', q', rfl, ?_, hql', hNQ', rB69, o69⟩⟩
    rotate_left
    · have hjl : j = first rows := by have := dF hge2; omega
      subst hjl
      exact hS'.scanned
    have hj : j < first rows := by have := dT hlt; omega
    obtain ⟨a', hoi, hcell⟩ := (hnums.grow G69).get (show j < rows[x].length by omega)
    have hat : at2 rows x (j : Int) = rows[x][j]'(by omega) := at2_get hxr.1 (by omega)
    rw [← hat] at hcell
    have rW69 : Row w69 bw 3 (intsV W) := rW.keep o69 (by omega)
    have cW := Row.int rW69 (j := j) (by omega)
    refine ⟨a', hoi, ⟨by omega, by omega⟩, _, hcell, fun hinf => hk76 _ _ _ _ fun _ => ⟨_, by omega, j + 1, B', q', by rw [wr (by omega)]; omega, hj, rfl, hS'.skip (.inl (dT hinf)), hxb, hql', hmeas, hNQ', rB69, o69⟩, fun hfin => ⟨_, rfl, ⟨by omega, by omega⟩, _, cW, fun hneg => hk76 _ _ _ _ fun _ => ⟨_, by omega, j + 1, B', q', by rw [wr (by omega)]; omega, hj, rfl, hS'.skip (.inr fun k hk hkj => ?_), hxb, hql', hmeas, hNQ', rB69, o69⟩, fun hnn => ?_⟩⟩
    · have hneg := dT hneg
      rcases hW.at' j hj with k1 | ⟨k2, -, -, k3⟩
      · exact absurd hkj (k1.2 k hk)
      · omega
    have hfin := dF hfin
    have hnn := dF hnn
    obtain ⟨k, hk, hkj, hkW⟩ : ∃ k, k < rows.length ∧ gm m k = (j : Int) ∧ gI W j = (k : Int) := by
      rcases hW.at' j hj with k1 | k2
      · omega
      · exact k2
    rw [hkW] at cW
    refine ⟨_, rfl, ⟨by omega, by omega⟩, _, cW, _, rfl, ⟨by omega, by omega⟩, _, Row.bool rB69 (by omega), fun hr => hk76 _ _ _ _ fun _ => ⟨_, by omega, j + 1, B', q', by rw [wr (by omega)]; omega, hj, rfl, hS'.skip (.inr fun k' hk' hkj' => ?_), hxb, hql', hmeas, hNQ', rB69, o69⟩, fun hr => ?_⟩
    · have := hv.ne k k' hk hk' (by omega) (by omega)
      rw [this]; exact hr
    refine ⟨_, rfl, ⟨by omega, by omega⟩, _, cW, _, rfl, ⟨by omega, by omega⟩, Row.thereB rB69 (by omega), fun w102 e102 => ?_⟩
    have rB102 := Row.setB rB69 e102
    have o102' : Only (fun b => b = br) w69 w102 := only_setAdd e102
    have o102 : Only (fun b => b = br ∨ B10 ≤ b) w10 w102 := o69.trans o102' fun b _ e => .inl e
    have rW102 : Row w102 bw 3 (intsV W) := rW.keep o102 (by omega)
    have cW2 := Row.int rW102 (j := j) (by omega)
    rw [hkW] at cW2
    refine ⟨_, rfl, ⟨by omega, by omega⟩, _, cW2, fun w106 e106 => ?_⟩
    have g106 : Grow w102 w106 := only_alloc e106
    have z102 := o102.size
    have z106 := hs_alloc e106
    have r106 : Row w106 (hs w102) 3 [.int .i64 (k : Int)] := Row.new e106
    have hput := cntN_put (B := B') (k := k) (n := rows.length) (by omega) hk hr
    have hlt2 := cntN_le (gB (B'.set k true)) rows.length
    refine NQ.push ((hNQ'.keep o102' fun b hb _ e => by omega).grow g106) r106 rfl (by omega) (by omega) fun o110 c112 w109 p1 p2 => ⟨_, _, _, rfl, hk76 _ _ _ _ fun _ => ⟨_, by omega, j + 1, B'.set k true, q' ++ [k], by rw [wr (by omega)]; omega, hj, rfl, hS'.push hv hxr.1 hxb hj hfin hk hkj, ?_, ?_, ?_, ?_, ?_, ?_⟩⟩
    · rw [gB_put (by omega)]
      split
      · rfl
      · exact hxb
    · rw [List.length_append, List.length_singleton, hput]; omega
    · rw [List.length_append, List.length_singleton, hput]; omega
    · rw [natQ_app] at p1; exact p1
    · exact (rB102.grow g106).keep p2 (by omega)
    · exact (o102.grow g106).trans p2 fun b _ hb => .inr hb
  -- the list
  have hz := dF hz
  have hqn : q = [] := List.eq_nil_of_length_eq_zero (by omega)
  subst hqn
  have hdone := hS.done
  refine ⟨fun n o' n' c' x w' => ∃ t : Nat, x = (t : Int) ∧ t ≤ rows.length ∧ n = rows.length - t ∧ n' = (rowsUp B t).length ∧ Own w' B10 3 1 o' n' c' (intsV (rowsUp B t)) ∧ Row w' br 4 (boolsV B) ∧ Only (fun b => b = br ∨ B10 ≤ b) w10 w', ⟨_, 0, rfl, Nat.zero_le _, rfl, rfl, own_nil _ _ _ _, rB53, o53⟩, ?_⟩
  rintro n _ w120 o121 n122 c123 x ⟨t, rfl, ht, rfl, rfl, hO, rB120, o120⟩
  have G120 : Grow w w120 := G10.trans o120 fun b hb e => by omega
  have hup := rowsUp_succ B t
  have hlen := rowsUp_len B t
  have hcl2 := cntN_le (gB B) t
  refine ⟨fun hlt k127 hk127 => ?_, fun hge => ?_⟩
  · have hlt : t < rows.length := by have := dT hlt; omega
    refine ⟨_, rfl, ⟨by omega, by omega⟩, _, Row.bool rB120 (by omega), fun hb w139 e139 => ?_, fun hb => hk127 _ _ _ _ fun _ => ⟨_, by omega, t + 1, by rw [wr (by omega)]; omega, hlt, rfl, ?_, ?_, rB120, o120⟩⟩
    · have g139 : Grow w120 w139 := only_alloc e139
      have z120 := o120.size
      have z139 := hs_alloc e139
      have r139 : Row w139 (hs w120) 3 [.int .i64 (t : Int)] := Row.new e139
      rw [if_pos hb] at hup
      refine run_append_row elem31 (hO.grow g139) r139 rfl (by simp [Value.oneCell']) (by simp only [maxLen]; omega) (by omega) (by omega) fun o143 c145 w142 p1 p2 _ => ⟨_, _, _, rfl, hk127 _ _ _ _ fun _ => ⟨_, by omega, t + 1, by rw [wr (by omega)]; omega, hlt, rfl, by rw [hup]; simp, ?_, ?_, ?_⟩⟩
      · rw [hup]
        have : intsV (rowsUp B t ++ [(t : Int)]) = intsV (rowsUp B t) ++ [.int .i64 (t : Int)] := by unfold intsV; rw [List.map_append]; rfl
        rw [this]
        exact p1
      · exact (rB120.grow g139).keep p2 fun k => by have := (hO.base _ k).1; omega
      · exact (o120.grow g139).trans p2 fun b _ hb => .inr (hO.base b hb).1
    · rw [if_neg (by rw [hb]; exact Bool.false_ne_true), List.append_nil] at hup
      rw [hup]
    · rw [if_neg (by rw [hb]; exact Bool.false_ne_true), List.append_nil] at hup
      rw [hup]; exact hO
  · have htl2 : t = rows.length := by have := dF hge; omega
    subst htl2
    exact ⟨B, o121, c123, rfl, hO.mono (by have := G10.size; omega), hdone, G120⟩
end Go.Proofs.Ytcaokpglbolkcaa
