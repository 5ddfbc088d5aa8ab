/- What Assign computes; Assign. -/
import Derived.Test.YtcaokpglbolkcaaTq
namespace Go.Proofs.Ytcaokpglbolkcaa
open Go Go.Nf Go.RowKit

theorem best_unique {rows : List (List Int)} {C : Nat} {m m' : List Int} (h : Best rows C m) (h' : Best rows C m') : m = m' := by
  have hc : cnt m' rows.length = cnt m rows.length := Int.le_antisymm (h.most m' h'.valid) (h'.most m h.valid)
  have ht : tot rows m rows.length = tot rows m' rows.length := Int.le_antisymm (h.least m' h'.valid hc) (h'.least m h.valid hc.symm)
  rcases h.first m' h'.valid hc ht with e | a
  · exact e.symm
  · rcases h'.first m h.valid hc.symm ht.symm with e | a'
    · exact e
    · exact (a.not a').elim
noncomputable def solveP (rows : List (List Int)) : List Int := by
  classical
  exact if h : ∃ m, Best rows (first rows) m then Classical.choose h else []
theorem solveP_eq {rows : List (List Int)} {m : List Int} (h : Best rows (first rows) m) : m = solveP rows := by
  unfold solveP
  have he : ∃ m, Best rows (first rows) m := ⟨m, h⟩
  rw [dif_pos he]
  exact best_unique h (Classical.choose_spec he)

/-! ### the costs are costs -/
def okD (x : Int) : Prop := x = FarT ∨ (0 ≤ x ∧ x ≤ 9437184)
theorem distOf_ok (E : List Edg) (wt : Nat → Int) (n : Nat) (s : Int) : ∀ v, v < (distOf E wt n s).length → okD (gD (distOf E wt n s) v) := by
  intro v hv
  by_cases he : ∃ D, IsDist E wt n s D
  · obtain ⟨D, hD⟩ := he
    have e := distOf_eq hD
    rw [← e] at hv ⊢
    by_cases hf : gD D v = FarT
    · exact .inl hf
    · exact .inr (hD.bd v (by rw [← hD.len]; exact hv) hf)
  · unfold distOf at hv
    rw [dif_neg he] at hv
    simp at hv
theorem farD_ok {D : List Int} (hD : ∀ v, v < D.length → okD (gD D v)) : ∀ (nodes : List Int) (m : Int), okD m → okD (farD D nodes m)
  | [], m, h => h
  | x :: l, m, h => by
    show okD (if x < 0 ∨ (D.length : Int) ≤ x then FarT else farD D l (if m < gD D x.toNat then gD D x.toNat else m))
    by_cases hx : x < 0 ∨ (D.length : Int) ≤ x
    · rw [if_pos hx]; exact .inl rfl
    · rw [if_neg hx]
      refine farD_ok hD l _ ?_
      split
      · exact hD _ (by omega)
      · exact h
theorem costOf_ok (E : List Edg) (wt : Nat → Int) (n : Nat) (s : PSl) (u : Un) : okD (costOf E wt n s u) := by
  unfold costOf
  split
  · unfold farthest
    split
    · exact .inl rfl
    · exact farD_ok (distOf_ok E wt n u.node) _ _ (.inr (by omega))
  · exact .inl rfl
theorem okD_cost {x : Int} (h : okD x) : isCost x = true := by
  unfold isCost
  rcases h with h | h
  · rw [h]; rfl
  · rw [decide_eq_true h.1, decide_eq_true (by omega : x ≤ 1099511627776)]; rfl
/-- rows of one width whose entries are costs -/
theorem errOf_ok {rows : List (List Int)} {C : Nat} (h1 : rows.length ≤ 64) (hC : C ≤ 64) (h2 : ∀ r ∈ rows, r.length = C) (h3 : ∀ r ∈ rows, ∀ x ∈ r, okD x) : errOf rows = 0 ∧ (rows ≠ [] → first rows = C) := by
  have hf : rows ≠ [] → first rows = C := fun hne => by
    cases rows with
    | nil => exact absurd rfl hne
    | cons r0 l => exact h2 r0 (.head _)
  refine ⟨?_, hf⟩
  unfold errOf
  rw [if_neg (by omega), if_pos (List.all_eq_true.2 fun r hr => decide_eq_true (by rw [h2 r hr]; exact hC)), if_pos (List.all_eq_true.2 fun r hr => ?_)]
  unfold rowOk
  rw [hf (fun e => by subst e; cases hr), decide_eq_true (h2 r hr), List.all_eq_true.2 fun x hx => okD_cost (h3 r hr x hx)]
  rfl

/-! ### the rule -/
def zS : PSl := ⟨0, 0, 0, 0, []⟩
def slAt (sl : List PSl) (i : Nat) : PSl := (sl[i]?).getD zS
def choAt (sl : List PSl) (ch : List Un) (cost : List (List Int)) (m : List Int) (i : Nat) : Option Cho :=
  if gm m i < 0 then none else some ⟨(slAt sl i).inc, (slAt sl i).kind, (uAt ch (gm m i).toNat).id, at2 cost i (gm m i)⟩
def chosN (sl : List PSl) (ch : List Un) (cost : List (List Int)) (m : List Int) (k : Nat) : List Cho := (List.range k).filterMap (choAt sl ch cost m)
theorem chosN_succ (sl : List PSl) (ch : List Un) (cost : List (List Int)) (m : List Int) (k : Nat) : chosN sl ch cost m (k + 1) = chosN sl ch cost m k ++ (match choAt sl ch cost m k with | some c => [c] | none => []) := by
  unfold chosN
  rw [List.range_succ, List.filterMap_append]
  congr 1
  rw [List.filterMap_cons, List.filterMap_nil]
  cases choAt sl ch cost m k <;> rfl
theorem chosN_len (sl : List PSl) (ch : List Un) (cost : List (List Int)) (m : List Int) (k : Nat) : (chosN sl ch cost m k).length ≤ k := by
  unfold chosN
  refine Nat.le_trans (List.length_filterMap_le _ _) ?_
  simp
section
variable (E : List Edg) (wt : Nat → Int) (n : Nat) (l : List Inc)
noncomputable def urgStep (u : Int) (st : List Un) : List Cho :=
  let sl := urgP (slotsP l st) u
  let fr := st.filter freeB
  let all := costP E wt n sl fr
  let cols := colsN all fr.length
  chosN sl (cols.map (uAt fr)) (subP all cols) (solveP (subP all cols)) sl.length
noncomputable def asgP (us : List Un) : Nat → List Un × List Cho
  | 0 => (us, [])
  | k + 1 => ((urgStep E wt n l ((k + 1 : Nat) : Int) (asgP us k).1).foldl sendP (asgP us k).1, (asgP us k).2 ++ urgStep E wt n l ((k + 1 : Nat) : Int) (asgP us k).1)
theorem sends_len (cs : List Cho) : ∀ us : List Un, (cs.foldl sendP us).length = us.length := by
  induction cs with
  | nil => intro us; rfl
  | cons c cs ih => intro us; rw [List.foldl_cons, ih]; simp [sendP]
theorem asgP_len (us : List Un) : ∀ k, (asgP E wt n l us k).1.length = us.length
  | 0 => rfl
  | k + 1 => by rw [asgP, sends_len, asgP_len us k]
theorem urgStep_len (u : Int) (st : List Un) : (urgStep E wt n l u st).length ≤ l.length := by
  unfold urgStep
  refine Nat.le_trans (chosN_len _ _ _ _ _) (Nat.le_trans ?_ (slotsP_len l st))
  exact List.length_filter_le _ _
theorem asgP_cho (us : List Un) : ∀ k, (asgP E wt n l us k).2.length ≤ k * l.length
  | 0 => by simp [asgP]
  | k + 1 => by
    have := asgP_cho us k
    have := urgStep_len E wt n l ((k + 1 : Nat) : Int) (asgP E wt n l us k).1
    rw [asgP, List.length_append, Nat.succ_mul]
    omega
variable {E wt n l}
theorem sub_ok (sl : List PSl) (fr : List Un) (h1 : sl.length ≤ 64) (h2 : fr.length ≤ 64) : errOf (subP (costP E wt n sl fr) (colsN (costP E wt n sl fr) fr.length)) = 0 ∧
    (sl ≠ [] → first (subP (costP E wt n sl fr) (colsN (costP E wt n sl fr) fr.length)) = (colsN (costP E wt n sl fr) fr.length).length) := by
  have hc := colsN_len (costP E wt n sl fr) fr.length
  have hlt : ∀ j ∈ colsN (costP E wt n sl fr) fr.length, j < fr.length := fun j hj => colsN_lt hj
  generalize colsN (costP E wt n sl fr) fr.length = cols at *
  have := errOf_ok (rows := subP (costP E wt n sl fr) cols) (C := cols.length) (by unfold subP costP; simpa using h1) (by omega) (fun r hr => by
    unfold subP at hr
    obtain ⟨r', -, rfl⟩ := List.mem_map.1 hr
    simp) fun r hr x hx => by
    unfold subP costP at hr
    obtain ⟨r', hr', rfl⟩ := List.mem_map.1 hr
    obtain ⟨s, -, rfl⟩ := List.mem_map.1 hr'
    obtain ⟨j, hj, rfl⟩ := List.mem_map.1 hx
    unfold at1
    rw [List.getElem?_map, List.getElem?_eq_getElem (hlt j hj)]
    exact costOf_ok _ _ _ _ _
  refine ⟨this.1, fun hne => this.2 fun e => hne ?_⟩
  unfold subP costP at e
  simpa using e
theorem cost_all_ok (sl : List PSl) (fr : List Un) (h1 : sl.length ≤ 64) (h2 : fr.length ≤ 64) : errOf (costP E wt n sl fr) = 0 ∧ (sl ≠ [] → first (costP E wt n sl fr) = fr.length) := by
  have := errOf_ok (rows := costP E wt n sl fr) (C := fr.length) (by unfold costP; simpa using h1) h2 (fun r hr => by
    unfold costP at hr
    obtain ⟨s, -, rfl⟩ := List.mem_map.1 hr
    simp) fun r hr x hx => by
    unfold costP at hr
    obtain ⟨s, -, rfl⟩ := List.mem_map.1 hr
    obtain ⟨u, -, rfl⟩ := List.mem_map.1 hx
    exact costOf_ok _ _ _ _ _
  refine ⟨this.1, fun hne => this.2 fun e => hne ?_⟩
  unfold costP at e
  simpa using e
end

theorem elem40 : Elem Try.prog 40 51 4 32 := elem_of (by kernel_rfl)
theorem encC_len (x : Cho) : (encC x).length = 4 := rfl
theorem Recs.mono' {w : World} {A A' : Nat → Prop} {o : Option Addr} {k : Nat} {rows : List (List Value)} (h : Recs w A o k rows) (hA : ∀ b, A b → A' b) : Recs w A' o k rows := fun i row hi => by
  obtain ⟨a, h1, h2, h3⟩ := h i row hi
  exact ⟨a, h1, hA _ h2, h3⟩
theorem Mat.mono' {w : World} {A A' : Nat → Prop} {o : Option Addr} {rows : List (List Int)} (h : Mat w A o rows) (hA : ∀ b, A b → A' b) : Mat w A' o rows := fun i row hi => by
  obtain ⟨a, oi, ci, h1, h2, h3, h4⟩ := h i row hi
  exact ⟨a, oi, ci, h1, hA _ h2, h3, Nums.mono h4 hA⟩
theorem slotsP_from {l : List Inc} {us : List Un} {p : PSl} (h : p ∈ slotsP l us) : ∃ x ∈ l, p.nodes = x.nodes ∧ p.inc = x.id ∧ p.urg = x.urg := by
  unfold slotsP at h
  obtain ⟨x, hx, hp⟩ := List.mem_flatMap.1 h
  unfold slotsOne at hp
  obtain ⟨k, -, rfl⟩ := List.mem_map.1 hp
  exact ⟨x, (List.mem_filter.1 (sortI_mem hx)).1, rfl, rfl, rfl⟩
/-- the costs of the units that are considered for an urgency -/
noncomputable def subU (E : List Edg) (wt : Nat → Int) (n : Nat) (l : List Inc) (u : Int) (st : List Un) : List (List Int) :=
  subP (costP E wt n (urgP (slotsP l st) u) (st.filter freeB)) (colsN (costP E wt n (urgP (slotsP l st) u) (st.filter freeB)) (st.filter freeB).length)
def HasBest (E : List Edg) (wt : Nat → Int) (n : Nat) (l : List Inc) (u : Int) (st : List Un) : Prop := urgP (slotsP l st) u ≠ [] → ∃ m, Best (subU E wt n l u st) (first (subU E wt n l u st)) m
set_option maxHeartbeats 8000000 in
theorem assign_c {w : World} {q : Nat} {E : List Edg} {n : Nat} {A B C D : Nat → Prop} (hG : GraphAt w A q E (insL E n) (outsL E n)) (hn : n ≤ 10) (hE : ∀ e ∈ E, okEdge n e) (hl : E.length ≤ 1000000) (o : Option Addr) (c : Nat) (ts : List Int) (ht : Nums w B o ts)
    (oL : Option Addr) (cL : Nat) (l : List Inc) (hL : Incs w C oL l) (hl20 : l.length < 20) (hN : ∀ x ∈ l, x.nodes.length ≤ 1000) (oU : Option Addr) (cU : Nat) (us : List Un) (hU : Uns w D oU us) (hul : us.length ≤ 64) :
    Calls Try.prog 8 #[.pointer (some ⟨q, 0, none⟩), .slice o ts.length c, .slice oL l.length cL, .slice oU us.length cU, .slice none 0 0, .int .i64 0] w fun e w' => ∃ o' c', e = .returned (.slice o' (asgP E (wOf ts) n l us 5).2.length c') ∧
      Own w' (hs w) 51 4 o' (asgP E (wOf ts) n l us 5).2.length c' ((asgP E (wOf ts) n l us 5).2.flatMap encC) ∧ HasBest E (wOf ts) n l 1 us ∧ Grow w w' := by
  refine nf8 (some ⟨q, 0, none⟩) o ts.length c oL l.length cL oU us.length cU none 0 0 0 w _ ((cloneU_c oU cU us (by omega) w hU).mono ?_)
  rintro _ w2 ⟨o3, c5, rfl, own2, g2⟩
  refine ⟨_, _, _, rfl, fun m o11 n12 c13 x w' => ∃ k : Nat, x = ((k + 1 : Nat) : Int) ∧ k ≤ 5 ∧ m = 5 - k ∧ n12 = (asgP E (wOf ts) n l us k).2.length ∧ Own w' (hs w) 51 4 o11 n12 c13 ((asgP E (wOf ts) n l us k).2.flatMap encC) ∧ Own w' (hs w) 29 10 o3 us.length c5 ((asgP E (wOf ts) n l us k).1.flatMap encUn) ∧ (0 < k → HasBest E (wOf ts) n l 1 us) ∧ Grow w w',
    ⟨_, 0, rfl, by omega, rfl, rfl, own_nil _ _ _ _, own2, fun h => absurd h (by omega), g2⟩, ?_⟩
  rintro m _ w10 o11 n12 c13 _ ⟨k, rfl, hk, rfl, rfl, ownC, ownU, hb1, g10⟩
  refine ⟨fun hle k17 hk17 => ?_, fun hgt => ?_⟩
  rotate_left
  · have : k = 5 := by have := dF hgt; omega
    subst this
    exact ⟨_, _, rfl, ownC, hb1 (by decide), g10⟩
  have hk5 : k < 5 := by have := dT hle; omega
  have lst := asgP_len E (wOf ts) n l us k
  have lcs := asgP_cho E (wOf ts) n l us k
  have hs1 : asgP E (wOf ts) n l us (k + 1) = ((urgStep E (wOf ts) n l ((k + 1 : Nat) : Int) (asgP E (wOf ts) n l us k).1).foldl sendP (asgP E (wOf ts) n l us k).1, (asgP E (wOf ts) n l us k).2 ++ urgStep E (wOf ts) n l ((k + 1 : Nat) : Int) (asgP E (wOf ts) n l us k).1) := rfl
  have next : ∀ w19 o20 n21 c22, n21 = (asgP E (wOf ts) n l us (k + 1)).2.length → Own w19 (hs w) 51 4 o20 n21 c22 ((asgP E (wOf ts) n l us (k + 1)).2.flatMap encC) → Own w19 (hs w) 29 10 o3 us.length c5 ((asgP E (wOf ts) n l us (k + 1)).1.flatMap encUn) → (k = 0 → HasBest E (wOf ts) n l 1 us) → Grow w w19 → k17 o20 n21 c22 w19 := fun w19 o20 n21 c22 h1 h2 h3 hB h4 => hk17 _ _ _ _ fun _ =>
    ⟨_, by omega, k + 1, by rw [wr (by omega)]; omega, by omega, rfl, h1, h2, h3, fun _ => (by
      rcases Nat.eq_zero_or_pos k with e | e
      · exact hB e
      · exact hb1 e), h4⟩
  rw [hs1] at next
  have hk0 : k = 0 → (asgP E (wOf ts) n l us k).1 = us := fun e => by subst e; rfl
  clear hs1 hk17
  generalize asgP E (wOf ts) n l us k = sc at *
  obtain ⟨st, cs⟩ := sc
  simp only at *
  have lcs' : cs.length ≤ 100 := Nat.le_trans lcs (Nat.le_trans (Nat.mul_le_mul (Nat.le_of_lt hk5) (Nat.le_of_lt_succ hl20)) (by decide))
  have hlen : us.length = st.length := lst.symm
  rw [hlen] at ownU next ⊢
  have hz10 := g10.size
  refine (slotsOf_c oL o3 cL c5 l st hl20 (by omega) hN ((k + 1 : Nat) : Int) w10 (hL.grow g10) (own_recs' encUn_len (by decide) ownU)).mono ?_
  rintro _ w27 ⟨o28, c30, sl, rfl, hS, hsl, g27⟩
  have z27 := g27.size
  have lsl : sl.length < 20 := by
    have := congrArg List.length hsl
    rw [List.length_map] at this
    have h2 : (urgP (slotsP l st) ((k + 1 : Nat) : Int)).length ≤ (slotsP l st).length := List.length_filter_le _ _
    have := slotsP_len l st
    omega
  have hUd : urgStep E (wOf ts) n l ((k + 1 : Nat) : Int) st = chosN (sl.map Slt.pure) ((colsN (costP E (wOf ts) n (sl.map Slt.pure) (st.filter freeB)) (st.filter freeB).length).map (uAt (st.filter freeB)))
      (subP (costP E (wOf ts) n (sl.map Slt.pure) (st.filter freeB)) (colsN (costP E (wOf ts) n (sl.map Slt.pure) (st.filter freeB)) (st.filter freeB).length)) (solveP (subP (costP E (wOf ts) n (sl.map Slt.pure) (st.filter freeB)) (colsN (costP E (wOf ts) n (sl.map Slt.pure) (st.filter freeB)) (st.filter freeB).length))) sl.length := by
    unfold urgStep
    rw [← hsl]
    dsimp only
    rw [List.length_map]
  refine ⟨_, _, _, rfl, fun h0 => ?_, fun h0 => ?_⟩
  · have h0 : sl.length = 0 := by have := dT h0; omega
    have hz : urgStep E (wOf ts) n l ((k + 1 : Nat) : Int) st = [] := by rw [hUd, h0]; rfl
    rw [hz, List.append_nil] at next
    exact next w27 o11 cs.length c13 rfl (ownC.grow g27) (ownU.grow g27) (fun e hne => by
      have := hk0 e
      subst e
      rw [this, List.eq_nil_of_length_eq_zero h0] at hsl
      exact absurd hsl.symm hne) (g10.trans' g27)
  have hsub : k = 0 → subU E (wOf ts) n l 1 us = subP (costP E (wOf ts) n (sl.map Slt.pure) (st.filter freeB)) (colsN (costP E (wOf ts) n (sl.map Slt.pure) (st.filter freeB)) (st.filter freeB).length) := fun e => by
    have := hk0 e
    subst e
    rw [this] at hsl ⊢
    rw [hsl]
    rfl
  have h0 : sl ≠ [] := fun e => by subst e; exact dF h0 rfl
  have hlf : (st.filter freeB).length ≤ 64 := Nat.le_trans (List.length_filter_le _ _) (by omega)
  refine (free_c o3 c5 st (by omega) ((k + 1 : Nat) : Int) w27 (own_recs' encUn_len (by decide) (ownU.grow g27))).mono ?_
  rintro _ w34 ⟨o35, c37, rfl, ownF, g34⟩
  generalize st.filter freeB = fr at *
  have z34 := g34.size
  have G34 := (g10.trans' g27).trans' g34
  have hSI : SlIn w34 (fun b => b < hs w34) o28 sl := ⟨Recs.low (own_recs' encS_len (by decide) (hS.grow g34).own) (encs_ne encS_len sl), fun s hs => Nums.low ((hS.grow g34).nod s hs).nums⟩
  have hNs : ∀ s ∈ sl, s.nodes.length ≤ 1000 := fun s hs => by
    have : s.pure ∈ urgP (slotsP l st) ((k + 1 : Nat) : Int) := hsl ▸ List.mem_map_of_mem hs
    obtain ⟨x, hx, e, -⟩ := slotsP_from (List.mem_filter.1 this).1
    rw [show s.nodes = x.nodes from e]
    exact hN x hx
  obtain ⟨so1, so2⟩ := sub_ok (E := E) (wt := wOf ts) (n := n) (sl.map Slt.pure) fr (by simp; omega) hlf
  have so2 := so2 (by simpa using h0)
  refine ⟨_, _, _, rfl, (cand_c (hG.grow G34) hn hE hl o c ts (ht.grow G34) o28 c30 sl hSI (by omega) hNs o35 c37 fr (own_recs' encUn_len (by decide) ownF) hlf (costP E (wOf ts) n (sl.map Slt.pure) fr) rfl).mono ?_⟩
  have lal : (costP E (wOf ts) n (sl.map Slt.pure) fr).length = sl.length := by unfold costP; simp
  have hcl := colsN_len (costP E (wOf ts) n (sl.map Slt.pure) fr) fr.length
  generalize costP E (wOf ts) n (sl.map Slt.pure) fr = all at *
  generalize colsN all fr.length = cols at *
  have lsub : (subP all cols).length = sl.length := by unfold subP; rw [List.length_map, lal]
  have lrow : ∀ r ∈ subP all cols, r.length = cols.length := fun r hr => by
    unfold subP at hr
    obtain ⟨r', -, rfl⟩ := List.mem_map.1 hr
    simp
  rintro _ w39 ⟨o40, c42, g43, rfl, ownCh, hM, g39⟩
  have z39 := g39.size
  refine ⟨_, _, _, _, _, _, rfl, ?_⟩
  have hsv := Solve_c (some ⟨g43, 0, none⟩) sl.length (subP all cols) w39 hM
  generalize subP all cols = sub at *
  rw [lsub] at hsv
  refine hsv.mono ?_
  rintro _ w47 ⟨g47, ⟨hbad, -⟩ | ⟨-, b, mm, rfl, rm, hb, best, -⟩⟩
  · exact absurd so1 hbad
  have hmm := solveP_eq best
  rw [← hmm] at hUd
  have lmm : mm.length = sl.length := by rw [best.valid.len, lsub]
  have z47 := g47.size
  refine ⟨_, _, _, _, _, rfl, fun h => absurd rfl (nT h), fun _ => ?_⟩
  rw [hUd] at next
  -- what is read lies between
  obtain ⟨Z, hZ⟩ : ∃ Z : Nat → Prop, Z = fun b => hs w10 ≤ b ∧ b < hs w47 := ⟨_, rfl⟩
  have hSZ : Recs w47 Z o28 5 (sl.map encS) := Recs.mono' ((own_recs' encS_len (by decide) (((hS.own.grow g34).grow g39).grow g47))) fun b hb => by
    have := ((((hS.own.grow g34).grow g39).grow g47).base b hb)
    rw [hZ]; omega
  have hCZ : Recs w47 Z o40 10 ((cols.map (uAt fr)).map encUn) := Recs.mono' (own_recs' encUn_len (by decide) (ownCh.grow g47)) fun b hb => by
    have := (ownCh.grow g47).base b hb
    rw [hZ]; omega
  have hMZ : Mat w47 Z (some ⟨g43, 0, none⟩) sub := by
    intro i row hi
    obtain ⟨a, oi, ci, h1, h2, h3, h4⟩ := (hM.grow g47) i row hi
    have hbl := cell_block h3
    rw [block_add1] at hbl
    exact ⟨a, oi, ci, h1, by rw [hZ]; omega, h3, fun j v hj => by
      obtain ⟨a', k1, k2, k3⟩ := h4 j v hj
      have hbl' := cell_block k3
      rw [block_add1] at hbl'
      exact ⟨a', k1, by rw [hZ]; omega, k3⟩⟩
  have hmZ : Nums w47 Z (some ⟨b, 0, none⟩) mm := rm.nums (by rw [hZ]; have := rm.lt; omega)
  have oU10 : ∀ b', inBlock o3 b' → b' < hs w10 := fun b' h => (ownU.base b' h).2
  have G47 := (G34.trans' g39).trans' g47
  have g1047 := ((g27.trans' g34).trans' g39).trans' g47
  refine ⟨fun m o60 n61 c62 x w' => ∃ i : Nat, x = (i : Int) ∧ i ≤ sl.length ∧ m = sl.length - i ∧ n61 = (cs ++ chosN (sl.map Slt.pure) (cols.map (uAt fr)) sub mm i).length ∧ Own w' (hs w) 51 4 o60 n61 c62 ((cs ++ chosN (sl.map Slt.pure) (cols.map (uAt fr)) sub mm i).flatMap encC) ∧ (∀ b, inBlock o60 b → ¬ Z b) ∧
      Own w' (hs w) 29 10 o3 st.length c5 (((chosN (sl.map Slt.pure) (cols.map (uAt fr)) sub mm i).foldl sendP st).flatMap encUn) ∧ Only (fun b => ¬ Z b ∧ hs w ≤ b) w47 w',
    ⟨_, 0, rfl, Nat.zero_le _, rfl, by simp [chosN], by simpa [chosN] using ownC.grow g1047, fun b hb hz => by have := (ownC.base b hb).2; rw [hZ] at hz; omega, by simpa [chosN] using ownU.grow g1047, Only.refl _ _⟩, ?_⟩
  rintro m _ w59 o60 n61 c62 _ ⟨i, rfl, hi, rfl, rfl, own60, hZ60, ownU59, o59⟩
  have z59 := o59.size
  have lch := chosN_len (sl.map Slt.pure) (cols.map (uAt fr)) sub mm i
  have hsucc := chosN_succ (sl.map Slt.pure) (cols.map (uAt fr)) sub mm i
  refine ⟨fun hlt k66 hk66 => ?_, fun hge => ?_⟩
  rotate_left
  · have : i = sl.length := by have := dF hge; omega
    subst this
    exact next w59 o60 _ c62 rfl own60 ownU59 (fun e _ => ⟨mm, by rw [hsub e]; exact best⟩) (G47.trans o59 fun b _ h => by have := h.2; omega)
  have hlt : i < sl.length := by have := dT hlt; omega
  obtain ⟨a48, ha48, hc48⟩ := Nums.gm (Nums.keep hmZ o59 fun b hb h => h.1 hb) (j := i) (by omega)
  cases ha48
  refine ⟨_, rfl, ⟨by omega, by omega⟩, _, hc48, fun hneg => hk66 _ _ _ _ fun _ => ?_, fun hpos w79 e79 => ?_⟩
  · have hno : choAt (sl.map Slt.pure) (cols.map (uAt fr)) sub mm i = none := by unfold choAt; rw [if_pos (dT hneg)]
    rw [hno] at hsucc
    simp only [List.append_nil] at hsucc
    exact ⟨_, by omega, i + 1, by rw [wr (by omega)]; omega, hlt, rfl, by rw [hsucc], by rw [hsucc]; exact own60, hZ60, by rw [hsucc]; exact ownU59, o59⟩
  have hpos := dF hpos
  have hyes : choAt (sl.map Slt.pure) (cols.map (uAt fr)) sub mm i = some ⟨(slAt (sl.map Slt.pure) i).inc, (slAt (sl.map Slt.pure) i).kind, (uAt (cols.map (uAt fr)) (gm mm i).toNat).id, at2 sub i (gm mm i)⟩ := by unfold choAt; rw [if_neg hpos]
  have hC : gm mm i < (cols.length : Int) := by
    rcases best.valid.ok i (by omega) with h | h
    · omega
    · rw [so2] at h; exact h.2.1
  obtain ⟨j, hj⟩ : ∃ j : Nat, gm mm i = (j : Int) := ⟨(gm mm i).toNat, by omega⟩
  have hjc : j < cols.length := by omega
  have g79 : Grow w59 w79 := only_drew e79
  have o79 := o59.trans' (g79.only (S := fun b => ¬ Z b ∧ hs w ≤ b))
  have z79 := o79.size
  have hsi := List.getElem?_eq_getElem hlt
  have esl : slAt (sl.map Slt.pure) i = sl[i].pure := by unfold slAt; rw [List.getElem?_map, hsi]; rfl
  obtain ⟨a81, ha81, hA81, hd, hd0⟩ := Recs.atE (hSZ.keep o79 fun b hb h => h.1 hb) hsi
  have hjl : j < (cols.map (uAt fr)).length := by rw [List.length_map]; exact hjc
  have hci := List.getElem?_eq_getElem hjl
  have ech : uAt (cols.map (uAt fr)) (gm mm i).toNat = (cols.map (uAt fr))[j] := by
    rw [hj, Int.toNat_natCast]
    show ((cols.map (uAt fr))[j]?).getD zU = _
    rw [hci]; rfl
  obtain ⟨a85, ha85, hA85, he, he0⟩ := Recs.atE (hCZ.keep o79 fun b hb h => h.1 hb) hci
  have hri : i < sub.length := by omega
  obtain ⟨a87, oi, ci, ha87, hA87, hc87, hn87⟩ := (hMZ.keep o79 fun b hb h => h.1 hb) i _ (List.getElem?_eq_getElem hri)
  have lri := lrow _ (List.getElem_mem hri)
  obtain ⟨a91, ha91, hA91, hc91⟩ := hn87 j _ (List.getElem?_eq_getElem (by omega))
  have eat : at2 sub i (gm mm i) = sub[i][j]'(by omega) := by
    unfold at2
    rw [hj, Int.toNat_natCast, List.getElem?_eq_getElem hri]
    simp only [Option.getD_some]
    rw [List.getElem?_eq_getElem (by omega)]
    rfl
  rw [esl, ech, eat] at hyes
  generalize sl[i] = s at *
  generalize (cols.map (uAt fr))[j] = u at *
  generalize sub[i][j]'(by omega) = tm at *
  rw [hj]
  refine ⟨a81, ha81, ⟨by omega, by omega⟩, _, hd0 _ rfl, a81, ha81, ⟨by omega, by omega⟩, _, hd 3 _ rfl, a85, ha85, ⟨by omega, by omega⟩, _, he0 _ rfl, a87, ha87, ⟨by omega, by omega⟩, _, _, _, hc87, a91, ha91, ⟨by omega, by omega⟩, _, hc91, fun w93 e93 => ?_⟩
  have g93 : Grow w79 w93 := only_alloc e93
  have low : ∀ a : Addr, Z a.block → a.block < hs w79 := fun a h => by rw [hZ] at h; omega
  refine ⟨kept_addr g93 (by rw [block_add1]; exact low _ hA91) (fun h => h), kept_addr g93 (by rw [block_add1]; exact low _ hA87) (fun h => h), kept_addr g93 (by rw [block_add1]; exact low _ hA85) (fun h => h), kept_addr g93 (by rw [block_add1, block_add1]; exact low _ hA81) (fun h => h), kept_addr g93 (by rw [block_add1]; exact low _ hA81) (fun h => h), (Row.new e93).there (by simp), fun w95 e95 => ?_⟩
  obtain ⟨ch, hch⟩ : ∃ ch : Cho, ch = ⟨s.inc, s.kind, u.id, tm⟩ := ⟨_, rfl⟩
  have hyes' : choAt (sl.map Slt.pure) (cols.map (uAt fr)) sub mm i = some ch := by rw [hch]; exact hyes
  rw [hyes'] at hsucc
  obtain ⟨r95, g95⟩ := loc (w2 := w95) (vs := encC ⟨s.inc, s.kind, u.id, tm⟩) e93 e95 rfl
  rw [← hch] at r95
  have r95' : Row w95 (hs w79) 51 [.int .i64 ch.inc, .int .i64 ch.kind, .int .i64 ch.unit, .int .i64 ch.time] := r95
  have ec1 : s.inc = ch.inc := by rw [hch]
  refine ⟨_, r95'.cell rfl, _, r95'.cell rfl, _, r95'.cell rfl, _, r95'.cell rfl, fun w101 e101 => ?_⟩
  have g101 : Grow w95 w101 := only_alloc e101
  have z95 := g95.size
  have z101 := g101.size
  have G101 := (g79.trans' g95).trans' g101
  have r101 : Row w101 (hs w95) 51 (encC ch) := Row.new e101
  refine run_append_at elem40 (own60.grow G101) (news := encC ch) rfl (fun jj u hu => r101.cellAdd hu) (by simp [encC, Value.oneCell']) (by simp only [maxLen]; rw [List.length_append]; omega) (by rw [List.length_append]; omega) (by have := G47.size; omega) fun o105 c107 w104 p1 p2 p3 => ⟨_, _, _, rfl, ?_⟩
  have hb60 : ∀ b, inBlock o60 b → b < hs w59 := fun b h => (own60.base b h).2
  have r104 : Row w104 (hs w79) 51 [.int .i64 ch.inc, .int .i64 ch.kind, .int .i64 ch.unit, .int .i64 ch.time] := (r95'.grow g101).keep p2 fun h => by have := hb60 _ h; have := g79.size; omega
  have ownU104 := (ownU59.grow G101).keep p2 fun b hb hb' => (ownU59.apart own60 (by decide)) b hb hb'
  refine ⟨_, r104.cell rfl, _, r104.cell rfl, _, r104.cell rfl, _, r104.cell rfl, ?_⟩
  have lsd : st.length = ((chosN (sl.map Slt.pure) (cols.map (uAt fr)) sub mm i).foldl sendP st).length := (sends_len _ st).symm
  refine (send_c lsd (by omega) ownU104 ch).mono ?_
  rintro _ w113 ⟨rfl, ownU113, o113⟩
  refine ⟨rfl, hk66 _ _ _ _ fun _ => ?_⟩
  have hap : ∀ b, inBlock o3 b → ¬ inBlock o105 b := fun b hb hb' => ownU104.apart p1 (by decide) b hb hb'
  refine ⟨_, by omega, i + 1, by rw [wr (by omega)]; omega, hlt, rfl, by rw [hsucc]; simp; omega, ?_, fun b hb => ?_, ?_, ?_⟩
  · have : (cs ++ chosN (sl.map Slt.pure) (cols.map (uAt fr)) sub mm (i + 1)).flatMap encC = (cs ++ chosN (sl.map Slt.pure) (cols.map (uAt fr)) sub mm i).flatMap encC ++ encC ch := by
      rw [hsucc, ← List.append_assoc, List.flatMap_append (ys := [ch])]
      simp
    rw [this]
    exact p1.keep o113 fun b hb hb' => hap b hb' hb
  · rcases p3 b hb with h | h
    · exact hZ60 b h
    · intro hz; rw [hZ] at hz; omega
  · rw [hsucc, List.foldl_append]
    exact ownU113
  · have G101' : Only (fun b => ¬ Z b ∧ hs w ≤ b) w59 w101 := Grow.only G101
    refine ((o59.trans' G101').trans' (p2.mono fun b _ hb => ⟨hZ60 b hb, (own60.base b hb).1⟩)).trans' (o113.mono fun b _ hb => ⟨fun hz => ?_, (ownU59.base b hb).1⟩)
    have := oU10 b hb
    rw [hZ] at hz
    omega
end Go.Proofs.Ytcaokpglbolkcaa
