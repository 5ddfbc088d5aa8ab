/- The law in plain terms; Verify; reading off the choices. -/
import Derived.Test.YtcaokpglbolkcaaTt
namespace Go.Proofs.Ytcaokpglbolkcaa
open Go Go.Nf Go.RowKit

theorem nodup_idx {α β : Type} (f : α → β) : ∀ {l : List α}, (l.map f).Nodup → ∀ (i j : Nat) (x y : α), l[i]? = some x → l[j]? = some y → f x = f y → i = j
  | [], _, i, _, _, _, hi, _, _ => by simp at hi
  | a :: l, h, 0, 0, _, _, _, _, _ => rfl
  | a :: l, h, 0, j + 1, x, y, hi, hj, e => by
    rw [List.map_cons, List.nodup_cons] at h
    simp only [List.getElem?_cons_zero, Option.some.injEq] at hi
    rw [List.getElem?_cons_succ] at hj
    exact absurd (by rw [hi, e]; exact List.mem_map_of_mem (List.mem_of_getElem? hj)) h.1
  | a :: l, h, i + 1, 0, x, y, hi, hj, e => by
    rw [List.map_cons, List.nodup_cons] at h
    simp only [List.getElem?_cons_zero, Option.some.injEq] at hj
    rw [List.getElem?_cons_succ] at hi
    exact absurd (by rw [hj, ← e]; exact List.mem_map_of_mem (List.mem_of_getElem? hi)) h.1
  | a :: l, h, i + 1, j + 1, x, y, hi, hj, e => by
    rw [List.map_cons, List.nodup_cons] at h
    rw [List.getElem?_cons_succ] at hi hj
    rw [nodup_idx f h.2 i j x y hi hj e]
theorem nodup_inj {α β : Type} (f : α → β) {l : List α} (h : (l.map f).Nodup) {x y : α} (hx : x ∈ l) (hy : y ∈ l) (e : f x = f y) : x = y := by
  obtain ⟨i, hi⟩ := List.mem_iff_getElem?.1 hx
  obtain ⟨j, hj⟩ := List.mem_iff_getElem?.1 hy
  have := nodup_idx f h i j x y hi hj e
  subst this
  rw [hi] at hj
  cases hj
  rfl
theorem nodup_flat (us : List Un) : ∀ {l : List Inc}, (l.map (·.id)).Nodup → ((l.flatMap (slotsOne us)).map (·.inc)).Nodup
  | [], _ => List.nodup_nil
  | x :: l, h => by
    rw [List.map_cons, List.nodup_cons] at h
    have ih := nodup_flat us h.2
    rw [List.flatMap_cons, List.map_append]
    have hone : (slotsOne us x).map (·.inc) = [] ∨ (slotsOne us x).map (·.inc) = [x.id] := by
      unfold slotsOne
      rw [List.map_map]
      have := (unmet_one (kindsAt us x.id)).1
      generalize unmetL [1] (cntK (kindsAt us x.id)) = um at *
      match um, this with
      | [], _ => exact .inl rfl
      | [k], _ => exact .inr rfl
      | _ :: _ :: _, h => simp at h
    rcases hone with e | e
    · rw [e]; exact ih
    · rw [e, List.singleton_append, List.nodup_cons]
      refine ⟨fun hm => h.1 ?_, ih⟩
      obtain ⟨p, hp, e'⟩ := List.mem_map.1 hm
      obtain ⟨y, hy, hp⟩ := List.mem_flatMap.1 hp
      unfold slotsOne at hp
      obtain ⟨k, -, rfl⟩ := List.mem_map.1 hp
      rw [← e']
      exact List.mem_map_of_mem hy
theorem slots_nodup {l : List Inc} (us : List Un) (h : (l.map (·.id)).Nodup) (u : Int) : ((urgP (slotsP l us) u).map (·.inc)).Nodup := by
  have h1 : ((l.filter openB).map (·.id)).Nodup := List.Nodup.sublist (List.Sublist.map _ List.filter_sublist) h
  have h2 : ((sortI (l.filter openB)).map (·.id)).Nodup := (sortI_ids _).nodup_iff.2 h1
  exact List.Nodup.sublist (List.Sublist.map _ List.filter_sublist) (nodup_flat us h2)
theorem chosN_from {sl : List PSl} {ch : List Un} {cost : List (List Int)} {m : List Int} {k : Nat} {c : Cho} (h : c ∈ chosN sl ch cost m k) : ∃ i, i < k ∧ c.inc = (slAt sl i).inc := by
  unfold chosN at h
  obtain ⟨i, hi, e⟩ := List.mem_filterMap.1 h
  refine ⟨i, List.mem_range.1 hi, ?_⟩
  unfold choAt at e
  split at e
  · cases e
  · cases e; rfl
theorem slAt_mem {sl : List PSl} {i : Nat} (h : i < sl.length) : slAt sl i = sl[i] ∧ slAt sl i ∈ sl := by
  have e : slAt sl i = sl[i] := by unfold slAt; rw [List.getElem?_eq_getElem h]; rfl
  exact ⟨e, by rw [e]; exact List.getElem_mem h⟩
section
variable {E : List Edg} {wt : Nat → Int} {n : Nat} {l : List Inc} {us : List Un}
theorem urgStep_from {u : Int} {st : List Un} {c : Cho} (h : c ∈ urgStep E wt n l u st) : ∃ x ∈ l, x.urg = u ∧ c.inc = x.id := by
  unfold urgStep at h
  obtain ⟨i, hi, e⟩ := chosN_from h
  have hm := (slAt_mem hi).2
  obtain ⟨h1, h2⟩ := List.mem_filter.1 hm
  obtain ⟨x, hx, -, e1, e2⟩ := slotsP_from h1
  exact ⟨x, hx, by rw [← e2]; exact of_decide_eq_true h2, by rw [e, e1]⟩
theorem asg_rest : ∀ k, ∃ rest, (asgP E wt n l us (k + 1)).2 = urgStep E wt n l 1 us ++ rest ∧ ∀ c ∈ rest, ∃ x ∈ l, x.urg ≠ 1 ∧ c.inc = x.id
  | 0 => ⟨[], by rw [asgP]; show [] ++ urgStep E wt n l 1 us = _; rw [List.nil_append, List.append_nil], fun c hc => by cases hc⟩
  | k + 1 => by
    obtain ⟨rest, h1, h2⟩ := asg_rest k
    refine ⟨rest ++ urgStep E wt n l ((k + 1 + 1 : Nat) : Int) (asgP E wt n l us (k + 1)).1, by rw [asgP, h1, List.append_assoc], fun c hc => ?_⟩
    rcases List.mem_append.1 hc with hc | hc
    · exact h2 c hc
    · obtain ⟨x, hx, e1, e2⟩ := urgStep_from hc
      exact ⟨x, hx, by omega, e2⟩
end

/-! ### the assignment, seen in all columns -/
def chosF (sl : List PSl) (ch : List Un) (cost : List (List Int)) (m : List Int) (i : Nat) : List Cho := (List.range' i (sl.length - i)).filterMap (choAt sl ch cost m)
theorem chosF_step {sl : List PSl} {ch : List Un} {cost : List (List Int)} {m : List Int} {i : Nat} (h : i < sl.length) : chosF sl ch cost m i = (match choAt sl ch cost m i with | some c => [c] | none => []) ++ chosF sl ch cost m (i + 1) := by
  unfold chosF
  rw [show sl.length - i = (sl.length - (i + 1)) + 1 from by omega, List.range'_succ, List.filterMap_cons]
  cases choAt sl ch cost m i <;> rfl
theorem chosF_zero (sl : List PSl) (ch : List Un) (cost : List (List Int)) (m : List Int) : chosF sl ch cost m 0 = chosN sl ch cost m sl.length := by
  unfold chosF chosN
  rw [Nat.sub_zero, List.range_eq_range']
theorem chosF_from {sl : List PSl} {ch : List Un} {cost : List (List Int)} {m : List Int} {i : Nat} {c : Cho} (h : c ∈ chosF sl ch cost m i) : ∃ j, i ≤ j ∧ j < sl.length ∧ c.inc = (slAt sl j).inc := by
  unfold chosF at h
  obtain ⟨j, hj, e⟩ := List.mem_filterMap.1 h
  rw [List.mem_range'_1] at hj
  refine ⟨j, hj.1, by omega, ?_⟩
  unfold choAt at e
  split at e
  · cases e
  · cases e; rfl
def colAt (cols : List Nat) (M : List Int) (i : Nat) : Int := if gm M i < 0 then -1 else (((cols[(gm M i).toNat]?).getD 0 : Nat) : Int)
def muL (cols : List Nat) (M : List Int) (N : Nat) : List Int := (List.range N).map (colAt cols M)
theorem muL_len (cols : List Nat) (M : List Int) (N : Nat) : (muL cols M N).length = N := by simp [muL]
theorem gm_mu {cols : List Nat} {M : List Int} {N i : Nat} (h : i < N) : gm (muL cols M N) i = colAt cols M i := by
  unfold gm muL
  rw [List.getElem?_map, List.getElem?_range h]
  rfl
theorem at2_at1 {rows : List (List Int)} {i : Nat} (h : i < rows.length) (c : Int) : at2 rows i c = at1 rows[i] c.toNat := by
  unfold at2 at1
  rw [List.getElem?_eq_getElem h]
  rfl
theorem sub_at {all : List (List Int)} {cols : List Nat} {i j : Nat} (h : i < all.length) (hj : j < cols.length) : at2 (subP all cols) i (j : Int) = at2 all i ((cols[j] : Nat) : Int) := by
  rw [at2_at1 (by unfold subP; simpa using h), at2_at1 h, Int.toNat_natCast, Int.toNat_natCast]
  unfold subP at1
  simp only [List.getElem_map]
  rw [List.getElem?_map, List.getElem?_eq_getElem hj]
  rfl
theorem cnt_congr {m m' : List Int} : ∀ N, (∀ i, i < N → (gm m i = -1 ↔ gm m' i = -1)) → cnt m N = cnt m' N
  | 0, _ => rfl
  | N + 1, h => by
    simp only [cnt]
    rw [cnt_congr N fun i hi => h i (by omega)]
    have := h N (by omega)
    by_cases e : gm m N = -1
    · rw [if_pos e, if_pos (this.1 e)]
    · rw [if_neg e, if_neg fun k => e (this.2 k)]
theorem tot_congr {rows rows' : List (List Int)} {m m' : List Int} : ∀ N, (∀ i, i < N → (gm m i = -1 ↔ gm m' i = -1) ∧ (gm m i ≠ -1 → at2 rows i (gm m i) = at2 rows' i (gm m' i))) → tot rows m N = tot rows' m' N
  | 0, _ => rfl
  | N + 1, h => by
    simp only [tot]
    rw [tot_congr N fun i hi => h i (by omega)]
    obtain ⟨h1, h2⟩ := h N (by omega)
    by_cases e : gm m N = -1
    · rw [if_pos e, if_pos (h1.1 e)]
    · rw [if_neg e, if_neg fun k => e (h1.2 k), h2 e]
/-- an assignment in the columns that are of use is one in all columns, and the other way -/
theorem mu_top {all : List (List Int)} {F : Nat} {M : List Int} (hF : all ≠ [] → first all = F) (hS : all ≠ [] → first (subP all (colsN all F)) = (colsN all F).length) (hr : ∀ r ∈ all, r.length = F) (hb : all ≠ [] → Best (subP all (colsN all F)) (first (subP all (colsN all F))) M) :
    Valid all (first all) (muL (colsN all F) M all.length) ∧ TopM all (muL (colsN all F) M all.length) ∧ tot all (muL (colsN all F) M all.length) all.length = tot (subP all (colsN all F)) M all.length := by
  by_cases hne : all = []
  · subst hne
    exact ⟨⟨rfl, fun i hi => absurd hi (by simp), fun i k hi => absurd hi (by simp)⟩, fun m' _ => ⟨by simp [cnt], fun _ => by simp [tot]⟩, rfl⟩
  have hF := hF hne
  have hS := hS hne
  have hb := hb hne
  have hclt : ∀ j ∈ colsN all F, j < F := fun j hj => colsN_lt hj
  have hcuse : ∀ j, j < F → (∃ i, i < all.length ∧ at2 all i (j : Int) ≠ FarT) → j ∈ colsN all F := fun j hj ⟨i, hi, hne⟩ => by
    refine List.mem_filter.2 ⟨List.mem_range.2 hj, List.any_eq_true.2 ⟨all[i], List.getElem_mem hi, decide_eq_true ?_⟩⟩
    rw [at2_at1 hi, Int.toNat_natCast] at hne
    exact hne
  have hcn : (colsN all F).Nodup := List.Nodup.sublist List.filter_sublist List.nodup_range
  have lsub : (subP all (colsN all F)).length = all.length := by simp [subP]
  generalize colsN all F = cols at *
  have val := hb.valid
  rw [hS] at val hb
  -- what M says of each row
  have hM : ∀ i, i < all.length → (gm M i = -1 ∧ colAt cols M i = -1) ∨ ∃ (j : Nat) (hj : j < cols.length), gm M i = (j : Int) ∧ colAt cols M i = ((cols[j] : Nat) : Int) := fun i hi => by
    rcases val.ok i (by omega) with h | ⟨h1, h2, -⟩
    · exact .inl ⟨h, by unfold colAt; rw [if_pos (by omega)]⟩
    · refine .inr ⟨(gm M i).toNat, by omega, by omega, ?_⟩
      unfold colAt
      rw [if_neg (by omega), List.getElem?_eq_getElem (by omega)]
      rfl
  have htot : tot all (muL cols M all.length) all.length = tot (subP all cols) M all.length := by
    refine tot_congr _ fun i hi => ?_
    rw [gm_mu hi]
    rcases hM i hi with ⟨h1, h2⟩ | ⟨j, hj, h1, h2⟩
    · rw [h1, h2]; exact ⟨Iff.rfl, fun h => absurd rfl h⟩
    · rw [h1, h2]; exact ⟨⟨fun h => by omega, fun h => by omega⟩, fun _ => (sub_at hi hj).symm⟩
  have hcnt : cnt (muL cols M all.length) all.length = cnt M all.length := by
    refine cnt_congr _ fun i hi => ?_
    rw [gm_mu hi]
    rcases hM i hi with ⟨h1, h2⟩ | ⟨j, hj, h1, h2⟩
    · rw [h1, h2]
    · rw [h1, h2]; exact ⟨fun h => by omega, fun h => by omega⟩
  refine ⟨⟨muL_len _ _ _, fun i hi => ?_, fun i k hi hk hne1 he => ?_⟩, fun m' hv => ?_, htot⟩
  · rw [gm_mu hi]
    rcases hM i hi with ⟨h1, h2⟩ | ⟨j, hj, h1, h2⟩
    · exact .inl h2
    · refine .inr ?_
      rw [h2]
      have := hclt _ (List.getElem_mem hj)
      refine ⟨by omega, by rw [hF]; omega, ?_⟩
      rw [← sub_at hi hj, ← h1]
      rcases val.ok i (by omega) with h | ⟨-, -, h⟩
      · omega
      · exact h
  · rw [gm_mu hi] at hne1 he
    rw [gm_mu hk] at he
    rcases hM i hi with ⟨h1, h2⟩ | ⟨j, hj, h1, h2⟩
    · exact absurd h2 hne1
    · rcases hM k hk with ⟨h3, h4⟩ | ⟨j', hj', h3, h4⟩
      · rw [h2, h4] at he; omega
      · rw [h2, h4] at he
        have e : cols[j'] = cols[j] := by omega
        have e2 := nodup_idx id (l := cols) (by simpa using hcn) j' j _ _ (List.getElem?_eq_getElem hj') (List.getElem?_eq_getElem hj) e
        subst e2
        exact val.ne i k (by omega) (by omega) (by omega) (by omega)
  · -- an assignment in all columns, seen in those of use
    have hm' : ∀ i, i < all.length → gm m' i = -1 ∨ ∃ (j : Nat) (hj : j < cols.length), gm m' i = ((cols[j] : Nat) : Int) ∧ at2 all i (gm m' i) ≠ FarT := fun i hi => by
      rcases hv.ok i hi with h | ⟨h1, h2, h3⟩
      · exact .inl h
      · refine .inr ?_
        have hin := hcuse (gm m' i).toNat (by omega) ⟨i, hi, by rw [Int.toNat_of_nonneg h1]; exact h3⟩
        obtain ⟨j, hj, e⟩ := List.getElem_of_mem hin
        exact ⟨j, hj, by omega, h3⟩
    let back : Nat → Int := fun i => if gm m' i = -1 then -1 else ((cols.findIdx fun c : Nat => decide ((c : Int) = gm m' i) : Nat) : Int)
    have hback : ∀ i, i < all.length → (gm m' i = -1 ∧ back i = -1) ∨ ∃ (j : Nat) (hj : j < cols.length), gm m' i = ((cols[j] : Nat) : Int) ∧ back i = (j : Int) ∧ at2 all i (gm m' i) ≠ FarT := fun i hi => by
      rcases hm' i hi with h | ⟨j, hj, h1, h2⟩
      · exact .inl ⟨h, if_pos h⟩
      · refine .inr ⟨j, hj, h1, ?_, h2⟩
        have hfi : cols.findIdx (fun c : Nat => decide ((c : Int) = gm m' i)) < cols.length := List.findIdx_lt_length_of_exists ⟨_, List.getElem_mem hj, decide_eq_true h1.symm⟩
        have hp := List.findIdx_getElem (w := hfi)
        have e : cols[cols.findIdx (fun c : Nat => decide ((c : Int) = gm m' i))] = cols[j] := by
          have := of_decide_eq_true hp
          omega
        have e2 := nodup_idx id (l := cols) (by simpa using hcn) _ j _ _ (List.getElem?_eq_getElem hfi) (List.getElem?_eq_getElem hj) e
        show (if gm m' i = -1 then (-1 : Int) else _) = _
        rw [if_neg (by omega), e2]
    let mb : List Int := (List.range all.length).map back
    have gmb : ∀ i, i < all.length → gm mb i = back i := fun i hi => by
      show (((List.range all.length).map back)[i]?).getD (-1) = _
      rw [List.getElem?_map, List.getElem?_range hi]; rfl
    have hvb : Valid (subP all cols) cols.length mb := by
      refine ⟨by simp [mb, lsub], fun i hi => ?_, fun i k hi hk hne1 he => ?_⟩
      · rw [gmb i (by omega)]
        rcases hback i (by omega) with ⟨-, h⟩ | ⟨j, hj, h1, h2, h3⟩
        · exact .inl h
        · refine .inr ?_
          rw [h2]
          refine ⟨by omega, by omega, ?_⟩
          rw [sub_at (by omega) hj, ← h1]
          exact h3
      · rw [gmb i (by omega)] at hne1 he
        rw [gmb k (by omega)] at he
        rcases hback i (by omega) with ⟨-, h⟩ | ⟨j, hj, h1, h2, -⟩
        · exact absurd h hne1
        · rcases hback k (by omega) with ⟨-, h⟩ | ⟨j', hj', h3, h4, -⟩
          · rw [h2, h] at he; omega
          · rw [h2, h4] at he
            have : j' = j := by omega
            subst this
            exact hv.ne i k (by omega) (by omega) (by omega) (by omega)
    have c1 : cnt mb all.length = cnt m' all.length := cnt_congr _ fun i hi => by
      rw [gmb i hi]
      rcases hback i hi with ⟨h1, h2⟩ | ⟨j, hj, h1, h2, -⟩
      · rw [h1, h2]
      · rw [h1, h2]; exact ⟨fun h => by omega, fun h => by omega⟩
    have t1 : tot (subP all cols) mb all.length = tot all m' all.length := tot_congr _ fun i hi => by
      rw [gmb i hi]
      rcases hback i hi with ⟨h1, h2⟩ | ⟨j, hj, h1, h2, -⟩
      · rw [h1, h2]; exact ⟨Iff.rfl, fun h => absurd rfl h⟩
      · rw [h1, h2]; exact ⟨⟨fun h => by omega, fun h => by omega⟩, fun _ => sub_at hi hj⟩
    have a := hb.most mb hvb
    have b := hb.least mb hvb
    rw [lsub] at a b
    rw [hcnt, htot, ← c1, ← t1]
    exact ⟨a, b⟩

set_option maxHeartbeats 2000000 in
theorem check_all {w : World} {q : Nat} {E : List Edg} {n : Nat} {A B C D F : Nat → Prop} (hG : GraphAt w A q E (insL E n) (outsL E n)) (hn : n ≤ 10) (hE : ∀ e ∈ E, okEdge n e) (hl : E.length ≤ 1000000) (o : Option Addr) (c : Nat) (ts : List Int) (ht : Nums w B o ts)
    (oL : Option Addr) (cL : Nat) (l : List Inc) (hL : Incs w C oL l) (hl20 : l.length < 20) (hN : ∀ x ∈ l, x.nodes.length ≤ 1000) (oU : Option Addr) (cU : Nat) (us : List Un) (hU : Uns w D oU us) (hul : us.length ≤ 64) (oC : Option Addr) (cC : Nat) (cs : List Cho) (hcs : cs = (asgP E (wOf ts) n l us 5).2) (hC : Recs w F oC 4 (cs.map encC)) :
    Calls Try.prog 9 #[.pointer (some ⟨q, 0, none⟩), .slice o ts.length c, .slice oL l.length cL, .slice oU us.length cU, .slice none 0 0, .int .i64 0, .slice oC cs.length cC] w fun e w' => e = .returned (.int .i64 (-1)) ∧ Grow w w' := by
  refine nf9 (some ⟨q, 0, none⟩) o ts.length c oL l.length cL oU us.length cU none 0 0 0 oC cs.length cC w _ ((assign_c hG hn hE hl o c ts ht oL cL l hL hl20 hN oU cU us hU hul).mono ?_)
  rintro _ w2 ⟨o', c', rfl, own, -, g2⟩
  rw [← hcs] at own ⊢
  have lb : cs.length ≤ 100 := by
    have := asgP_cho E (wOf ts) n l us 5
    rw [← hcs] at this
    omega
  have eif : (if (((cs.length : Nat) : Int) < ((cs.length : Nat) : Int)) then ((cs.length : Nat) : Int) else ((cs.length : Nat) : Int)) = (cs.length : Int) := if_neg (by omega)
  refine ⟨_, _, _, rfl, fun m x w' => ∃ i : Nat, x = (i : Int) ∧ i ≤ cs.length ∧ m = cs.length - i ∧ Grow w2 w', ⟨_, 0, rfl, Nat.zero_le _, rfl, Only.refl _ _⟩, ?_⟩
  rintro m _ w10 _ ⟨i, rfl, hi, rfl, g10⟩
  rw [eif]
  refine ⟨fun hlt w14 e14 => ?_, fun hge => ⟨fun h => absurd rfl (nT h), fun _ => ⟨rfl, g2.trans' g10⟩⟩⟩
  have hlt : i < cs.length := by have := dT hlt; omega
  have g14 : Grow w10 w14 := only_drew e14
  have G14 := g10.trans' g14
  have hat := List.getElem?_eq_getElem hlt
  obtain ⟨a, ha, -, hc, hc0⟩ := Recs.atE (hC.grow (g2.trans' G14)) hat
  obtain ⟨a', ha', -, hd, hd0⟩ := Recs.atE (own_recs' encC_len (by decide) (own.grow G14)) hat
  generalize cs[i] = x at *
  refine ⟨a, ha, ⟨by omega, by omega⟩, _, hc0 _ rfl, _, hc 1 _ rfl, _, hc 2 _ rfl, _, hc 3 _ rfl, a', ha', ⟨by omega, by omega⟩, _, hd0 _ rfl, _, hd 1 _ rfl, _, hd 2 _ rfl, _, hd 3 _ rfl, fun h => ?_, fun _ => ⟨_, by omega, i + 1, by rw [wr (by omega)]; omega, hlt, rfl, G14⟩⟩
  simp [Nf.andB] at h
/-- the first choice that is left -/
structure LeftAt (w : World) (B : Nat) (oc : Option Addr) (nc cc : Nat) (cs : List Cho) (o : Option Addr) (n c : Nat) (left : List Cho) : Prop where
  own : Own w B 51 4 oc nc cc (cs.flatMap encC)
  ex : ∃ j, j ≤ cs.length ∧ left = cs.drop j ∧ n = cs.length - j ∧ c = cc - j ∧ (left = [] ∨ ∃ g, oc = some ⟨g, 0, none⟩ ∧ o = some ((⟨g, 0, none⟩ : Addr).add ((j : Int).toNat * 4)))
theorem LeftAt.keep {S : Nat → Prop} {w w' : World} {B nc cc n c : Nat} {oc o : Option Addr} {cs left : List Cho} (h : LeftAt w B oc nc cc cs o n c left) (k : Only S w w') (hS : ∀ b, inBlock oc b → ¬ S b) : LeftAt w' B oc nc cc cs o n c left := ⟨h.own.keep k hS, h.ex⟩
theorem LeftAt.len {w : World} {B nc cc n c : Nat} {oc o : Option Addr} {cs left : List Cho} (h : LeftAt w B oc nc cc cs o n c left) : n = left.length := by
  obtain ⟨j, h1, h2, h3, -⟩ := h.ex
  rw [h2, List.length_drop]
  exact h3
theorem LeftAt.start {w : World} {B cc : Nat} {oc : Option Addr} {cs : List Cho} (h : Own w B 51 4 oc cs.length cc (cs.flatMap encC)) : LeftAt w B oc cs.length cc cs oc cs.length cc cs := by
  refine ⟨h, 0, Nat.zero_le _, rfl, rfl, rfl, ?_⟩
  by_cases e : cs = []
  · exact .inl e
  · obtain ⟨g, lg, rfl, -⟩ := h.head (List.length_pos_iff.2 e)
    exact .inr ⟨g, rfl, by simp [Go.Nf.add_zero]⟩
theorem LeftAt.get {w : World} {B nc cc n c : Nat} {oc o : Option Addr} {cs left : List Cho} {x : Cho} {l' : List Cho} (h : LeftAt w B oc nc cc cs o n c left) (hx : left = x :: l') : ∃ a, o = some a ∧ (∀ d v, (encC x)[d]? = some v → w.cell? (a.add d) = some v) ∧ ∀ v, (encC x)[0]? = some v → w.cell? a = some v := by
  obtain ⟨j, h1, h2, h3, h4, h5⟩ := h.ex
  rcases h5 with h5 | ⟨g, rfl, rfl⟩
  · rw [h5] at hx; cases hx
  · have hat : cs[j]? = some x := by
      have : (cs.drop j)[0]? = some x := by rw [← h2, hx]; rfl
      rwa [List.getElem?_drop] at this
    obtain ⟨a, ha, -, hc, hc0⟩ := Recs.atE (own_recs' encC_len (by decide) h.own) hat
    cases ha
    exact ⟨_, rfl, hc, hc0⟩
theorem LeftAt.next {w : World} {B nc cc n c : Nat} {oc o : Option Addr} {cs left : List Cho} {x : Cho} {l' : List Cho} (h : LeftAt w B oc nc cc cs o n c left) (hx : left = x :: l') : LeftAt w B oc nc cc cs (if (c = ((1 : Int)).toNat) then o else (Option.map (fun (x : Addr) => (Addr.add x 4)) o)) (n - 1) (c - 1) l' := by
  refine ⟨h.own, ?_⟩
  obtain ⟨j, h1, h2, h3, h4, h5⟩ := h.ex
  have hl : cs.length - j = l'.length + 1 := by
    have := congrArg List.length (h2.symm.trans hx)
    rwa [List.length_drop, List.length_cons] at this
  have hd : cs.drop (j + 1) = l' := by
    have := congrArg (List.drop 1) (h2.symm.trans hx)
    rwa [List.drop_drop, List.drop_one, List.tail_cons] at this
  have hcl := h.own.length
  rw [flat_length encC_len] at hcl
  have hle := h.own.le
  refine ⟨j + 1, by omega, hd.symm, by omega, by omega, ?_⟩
  rcases h5 with h5 | ⟨g, rfl, rfl⟩
  · rw [h5] at hx; cases hx
  · by_cases e : c = ((1 : Int)).toNat
    · refine .inl (List.eq_nil_of_length_eq_zero ?_)
      have : c = 1 := e
      omega
    · rw [if_neg e]
      refine .inr ⟨g, rfl, ?_⟩
      simp only [Option.map_some, Option.some.injEq]
      rw [Addr.add_lit, Addr.add_lit, Addr.add_lit, toNat_cast, toNat_cast]
      congr 1
      omega

theorem read_step {sl : List PSl} {fr : List Un} {cols : List Nat} {sub : List (List Int)} {M : List Int} {rest : List Cho} (hnd : (sl.map (·.inc)).Nodup) (hrest : ∀ c ∈ rest, ∀ s ∈ sl, c.inc ≠ s.inc) (hv : Valid sub cols.length M) (lsub : sub.length = sl.length) (hclt : ∀ j ∈ cols, j < fr.length)
    (hok : ∀ (i j : Nat), i < sl.length → j < cols.length → okD (at2 sub i (j : Int))) {i : Nat} (hi : i < sl.length) :
    (choAt sl (cols.map (uAt fr)) sub M i = none ∧ colAt cols M i = -1 ∧ chosF sl (cols.map (uAt fr)) sub M i = chosF sl (cols.map (uAt fr)) sub M (i + 1) ∧ tot sub M (i + 1) = tot sub M i ∧ ∀ c l', chosF sl (cols.map (uAt fr)) sub M i ++ rest = c :: l' → c.inc ≠ (slAt sl i).inc) ∨
    ∃ (c : Cho) (k0 : Nat) (u0 : Un), chosF sl (cols.map (uAt fr)) sub M i = c :: chosF sl (cols.map (uAt fr)) sub M (i + 1) ∧ c.inc = (slAt sl i).inc ∧ tot sub M (i + 1) = tot sub M i + c.time ∧ 0 ≤ c.time ∧ c.time ≤ 9437184 ∧ fr[k0]? = some u0 ∧ colAt cols M i = (k0 : Int) ∧ c.unit = u0.id := by
  have hst := chosF_step (ch := cols.map (uAt fr)) (cost := sub) (m := M) hi
  rcases hv.ok i (by omega) with h | ⟨h1, h2, h3⟩
  · have hno : choAt sl (cols.map (uAt fr)) sub M i = none := by unfold choAt; rw [if_pos (by omega)]
    rw [hno] at hst
    refine .inl ⟨hno, by unfold colAt; rw [if_pos (by omega)], hst, by simp only [tot]; rw [if_pos h]; omega, fun c l' e => ?_⟩
    have hc : c ∈ chosF sl (cols.map (uAt fr)) sub M i ++ rest := by rw [e]; exact .head _
    rw [hst] at hc
    rcases List.mem_append.1 hc with hc | hc
    · obtain ⟨j, hj1, hj2, hj3⟩ := chosF_from hc
      rw [hj3]
      intro he
      have := nodup_idx (fun s : PSl => s.inc) hnd j i _ _ (List.getElem?_eq_getElem hj2) (List.getElem?_eq_getElem hi) (by rw [← (slAt_mem hj2).1, ← (slAt_mem hi).1]; exact he)
      omega
    · exact hrest c hc _ (slAt_mem hi).2
  · obtain ⟨j, hj⟩ : ∃ j : Nat, gm M i = (j : Int) := ⟨(gm M i).toNat, by omega⟩
    have hjc : j < cols.length := by omega
    have hyes : choAt sl (cols.map (uAt fr)) sub M i = some ⟨(slAt sl i).inc, (slAt sl i).kind, (uAt (cols.map (uAt fr)) (gm M i).toNat).id, at2 sub i (gm M i)⟩ := by unfold choAt; rw [if_neg (by omega)]
    rw [hyes] at hst
    have hcj := hclt _ (List.getElem_mem hjc)
    have hbd := (hok i j hi hjc).resolve_left (by rw [← hj]; exact h3)
    refine .inr ⟨_, cols[j], fr[cols[j]], hst, rfl, by simp only [tot]; rw [if_neg (by omega)], ?_, ?_, List.getElem?_eq_getElem hcj, ?_, ?_⟩
    · rw [hj]; exact hbd.1
    · rw [hj]; exact hbd.2
    · unfold colAt
      rw [if_neg (by omega), hj, Int.toNat_natCast, List.getElem?_eq_getElem hjc]
      rfl
    · show (uAt (cols.map (uAt fr)) (gm M i).toNat).id = _
      have e1 : uAt (cols.map (uAt fr)) (gm M i).toNat = uAt fr cols[j] := by
        rw [hj, Int.toNat_natCast]
        show ((cols.map (uAt fr))[j]?).getD zU = _
        rw [List.getElem?_map, List.getElem?_eq_getElem hjc]
        rfl
      have e2 : uAt fr cols[j] = fr[cols[j]] := by unfold uAt; rw [List.getElem?_eq_getElem hcj]; rfl
      rw [e1, e2]
/-- how many are served -/
theorem cnt_more (m : List Int) (hm : ∀ i, i < m.length → gm m i = -1 ∨ 0 ≤ gm m i) {i : Nat} (h : i < m.length) : cnt m (i + 1) = cnt m i + if 0 ≤ m[i] then 1 else 0 := by
  simp only [cnt]
  have := hm i h
  rw [gm_getE h] at this ⊢
  rcases this with h | h
  · rw [if_pos h, if_neg (by omega)]
  · rw [if_neg (by omega), if_pos h]
end Go.Proofs.Ytcaokpglbolkcaa
