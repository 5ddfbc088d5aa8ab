/- All the ways through a protocol, in their order; and the iterator that gives them. -/
import Derived.Test.YtbaacpfjecbbgaaKa
import Derived.Test.YtbaacpfjecbbgaaNfI
namespace Go.Proofs.Ytbaacpfjecbbgaa
open Go Go.Nf

/-! ### Plain -/
def oneF (g : Nat → List (List Int)) (a : Ans) (k : Nat) : List (List Int) := if a.next < 0 then [[(k : Int)]] else (g a.next.toNat).map ((k : Int) :: ·)
def ansF (g : Nat → List (List Int)) : List Ans → Nat → List (List Int)
  | [], _ => []
  | a :: l, k => oneF g a k ++ ansF g l (k + 1)
def pathsF (qs : List Qst) : Nat → Nat → List (List Int)
  | 0, _ => []
  | f + 1, q => match qs[q]? with
    | some s => ansF (pathsF qs f) s.ans 0
    | none => []
/-- all the ways from a question to an end -/
def paths (qs : List Qst) (q : Nat) : List (List Int) := pathsF qs qs.length q
theorem ansF_split (g : Nat → List (List Int)) : ∀ (l : List Ans) (u k : Nat), ansF g l k = ansF g (l.take u) k ++ ansF g (l.drop u) (k + u)
  | _, 0, k => by simp [show ∀ g k, ansF g [] k = [] from fun _ _ => rfl]
  | [], u + 1, k => by simp [ansF]
  | a :: l, u + 1, k => by
    have := ansF_split g l u (k + 1)
    simp only [List.take_succ_cons, List.drop_succ_cons, ansF, List.append_assoc]
    rw [this, show k + 1 + u = k + (u + 1) by omega]
theorem ansF_take (g : Nat → List (List Int)) (l : List Ans) {u : Nat} (h : u < l.length) : ansF g (l.take (u + 1)) 0 = ansF g (l.take u) 0 ++ oneF g l[u] u := by
  have e := ansF_split g (l.take (u + 1)) u 0
  rw [List.take_take, Nat.min_eq_left (by omega), List.drop_take, show u + 1 - u = 1 by omega] at e
  have d : List.take 1 (List.drop u l) = [l[u]] := by rw [List.drop_eq_getElem_cons h]; rfl
  rw [e, d, Nat.zero_add]
  simp [ansF]
theorem ansF_prefix (g : Nat → List (List Int)) (l : List Ans) {u : Nat} (h : u < l.length) : ∃ r, ansF g l 0 = (ansF g (l.take u) 0 ++ oneF g l[u] u) ++ r := by
  refine ⟨ansF g (l.drop (u + 1)) (0 + (u + 1)), ?_⟩
  rw [← ansF_take g l h]
  exact ansF_split g l (u + 1) 0
theorem oneF_congr {g g' : Nat → List (List Int)} {a : Ans} (h : 0 ≤ a.next → g a.next.toNat = g' a.next.toNat) (k : Nat) : oneF g a k = oneF g' a k := by
  unfold oneF
  split
  · rfl
  · rw [h (by omega)]
theorem ansF_congr {g g' : Nat → List (List Int)} : ∀ (l : List Ans) (k : Nat), (∀ a, a ∈ l → 0 ≤ a.next → g a.next.toNat = g' a.next.toNat) → ansF g l k = ansF g' l k
  | [], _, _ => rfl
  | a :: l, k, h => by
    rw [ansF, ansF, oneF_congr (h a (by simp)), ansF_congr l (k + 1) fun b hb => h b (List.mem_cons_of_mem _ hb)]
theorem nx_of_ans {qs : List Qst} {q : Nat} {s : Qst} (hq : qs[q]? = some s) {a : Ans} (ha : a ∈ s.ans) (h0 : 0 ≤ a.next) : a.next.toNat ∈ nxP qs q := mem_nxP.2 (by
  rw [Int.toNat_of_nonneg h0]
  exact ⟨h0, by omega, s, by rw [toNat_cast]; exact hq, a, ha, rfl⟩)
theorem pathsF_stable {qs : List Qst} : ∀ (f q : Nat), (∀ d, Walk (nxP qs) q d → d ≤ f) → pathsF qs (f + 1) q = pathsF qs f q
  | 0, q, h => by have := h 1 (.one q); omega
  | f + 1, q, h => by
    rw [pathsF, pathsF]
    cases hq : qs[q]? with
    | none => rfl
    | some s => exact ansF_congr _ _ fun a ha h0 => pathsF_stable f _ fun d hd => by have := h _ (.more (nx_of_ans hq ha h0) hd); omega
theorem pathsF_more {qs : List Qst} : ∀ (k f q : Nat), (∀ d, Walk (nxP qs) q d → d ≤ f) → pathsF qs (f + k) q = pathsF qs f q
  | 0, _, _, _ => rfl
  | k + 1, f, q, h => by rw [← Nat.add_assoc, pathsF_stable (f + k) q fun d hd => by have := h d hd; omega, pathsF_more k f q h]
theorem paths_eq {qs : List Qst} {q : Nat} {s : Qst} (hin : ∀ q x, x ∈ nxP qs q → x < qs.length) (hac : ∀ j, j < qs.length → ¬ Cyc (nxP qs) j) (hq : qs[q]? = some s) : paths qs q = ansF (paths qs) s.ans 0 := by
  have hlt : q < qs.length := by
    rcases Nat.lt_or_ge q qs.length with h | h
    · exact h
    · rw [List.getElem?_eq_none h] at hq; cases hq
  unfold paths
  rw [← pathsF_stable qs.length q fun d hd => walk_le hin hac hd hlt, pathsF, hq]

/-! ### The questions behind the answers -/
def nextsOf (qs : List Qst) : List (List Int) := qs.map fun s => s.ans.map (·.next)
set_option maxHeartbeats 2000000 in
theorem nextQ_c (o : Option Addr) (c : Nat) (p : Prot) (hn : p.qs.length ≤ 100) (hL : ∀ s, s ∈ p.qs → s.ans.length ≤ 20) (w : World) {A : Nat → Prop} (h : Qs w A o p.qs) :
    Calls Try.prog 122 #[.agg #[.string p.name, .int .i64 p.version, .slice o p.qs.length c]] w fun e w' => ∃ o' c', e = .returned (.slice o' p.qs.length c') ∧ Mat w' (fun b => hs w ≤ b ∧ b < hs w') o' (nextsOf p.qs) ∧ Grow w w' ∧ (o' = none → p.qs.length = 0 ∧ False) := by
  refine nf122 p.name p.version o p.qs.length c w _ fun w1 e1 => ?_
  have r := Row.new e1
  have g : Grow w w1 := only_alloc e1
  refine ⟨_, _, _, r.cell rfl, make_rows (by omega) fun w2 r2 g2 hs2 => ⟨_, _, _, rfl, _, _, _, (r.grow g2).cell rfl, fun k x w' => ∃ (j : Nat) (svs : List Value), x = (j : Int) ∧ j ≤ p.qs.length ∧ k = p.qs.length - j ∧ svs.length = p.qs.length ∧ Row w' (hs w1) 48 svs ∧ Only (fun b => b = hs w1) w2 w' ∧
      (∀ (i : Nat), j ≤ i → i < p.qs.length → svs[i]? = some (.slice none 0 0)) ∧
      (∀ (i : Nat) s, i < j → p.qs[i]? = some s → ∃ oi ci, svs[i]? = some (.slice oi s.ans.length ci) ∧ Own w' (hs w2) 3 1 oi s.ans.length ci (intsV (s.ans.map (·.next)))), ⟨_, 0, _, rfl, Nat.zero_le _, rfl, by simp, r2, Only.refl _ _, fun i _ hi => by simp [hi], fun i s h => by omega⟩, ?_⟩⟩
  rintro k _ w3 x ⟨j, svs, rfl, hj, rfl, hsv, r3, g3, hI0, hI⟩
  have G3 : Grow w1 w3 := g2.trans g3 fun b hb hh => by omega
  have s12 : hs w1 < hs w2 := r2.lt
  have s23 := g3.size
  refine ⟨fun hlt => ?_, fun hge => ?_⟩
  · have hlt : j < p.qs.length := by have := dT hlt; omega
    obtain ⟨a, oi, ci, ha, c0, c1, hr⟩ := (h.grow g).get hlt
    have c0 := cell_keep G3 (fun h => h) c0
    have c1 := cell_keep G3 (fun h => h) c1
    have hans := hL _ (List.getElem_mem hlt)
    have hqj : p.qs[j]? = some p.qs[j] := List.getElem?_eq_getElem hlt
    generalize p.qs[j] = q at *
    refine ⟨a, ha, ⟨by omega, by omega⟩, _, c0, _, _, _, c1, fun w4 e4 => ⟨(Row.new e4).there (by simp), fun w5 e5 => ?_⟩⟩
    obtain ⟨r5, g5⟩ := loc e4 e5 rfl
    have s5 := r5.lt
    refine ⟨_, _, _, r5.cell rfl, fun k x w' => ∃ (u : Nat) (sv' : List Value) (ou : Option Addr) (cu : Nat), x = (u : Int) ∧ u ≤ q.ans.length ∧ k = q.ans.length - u ∧ sv'.length = p.qs.length ∧ Row w' (hs w1) 48 sv' ∧ (∀ t, t ≠ j → sv'[t]? = svs[t]?) ∧ sv'[j]? = some (.slice ou u cu) ∧
      Own w' (hs w5) 3 1 ou u cu (intsV ((q.ans.take u).map (·.next))) ∧ Only (fun b => b = hs w1) w5 w', ⟨_, 0, svs, none, 0, rfl, Nat.zero_le _, rfl, hsv, r3.grow g5, fun _ _ => rfl, hI0 j (Nat.le_refl _) hlt, own_nil _ _ _ _, Only.refl _ _⟩, ?_⟩
    rintro k _ w6 x ⟨u, sv', ou, cu, rfl, hu, rfl, hsl, r6, hoff, hat, hown, g6⟩
    have G56 : Only (fun b => b = hs w1) w3 w6 := g5.only.trans' g6
    have G16 : Grow w1 w6 := G3.trans G56 fun b hb e => by omega
    have s56 := g6.size
    refine ⟨fun hlt2 => ?_, fun hge2 => ?_⟩
    · have hlt2 : u < q.ans.length := by have := dT hlt2; omega
      obtain ⟨a', ha', d0, d1, d2, d3⟩ := Recs.ans (hr.grow G16) hlt2
      refine ⟨a', ha', ⟨by omega, by omega⟩, _, d0, _, d1, _, d2, _, d3, fun w7 e7 => ⟨(Row.new e7).there (by simp), fun w8 e8 w9 e9 => ?_⟩⟩
      obtain ⟨r8, g8⟩ := loc e7 e8 rfl
      have g9 : Grow w8 w9 := only_drew e9
      have g69 := g8.trans' g9
      have r69 := r6.grow g69
      have hown9 := hown.grow g69
      have s9 := g69.size
      refine ⟨_, rfl, ⟨by omega, by omega⟩, _, _, _, r69.cellAdd (by rw [toNat_cast, Nat.mul_one]; exact hat), _, (r8.grow g9).cell rfl, fun w10 e10 => ⟨kept_onlyAdd (only_alloc e10 : Grow w9 w10) r69.lt (fun h => h), push_int hown9 e10 (by omega) (by omega) fun o11 c11 w11 p1 p2 => ⟨_, _, _, rfl, ?_⟩⟩⟩
      have r11 := r69.keep p2 (hown9.apartR r69 (by decide))
      refine ⟨_, rfl, ⟨by omega, by omega⟩, r11.thereAdd (by rw [toNat_cast, hsl]; simp; omega), fun w12 e12 => ⟨_, by omega, u + 1, _, o11, c11, by rw [wr (by omega)]; omega, hlt2, rfl, by rw [setFrom_length, hsl], r11.setAdd e12, fun t ht => ?_, ?_, ?_, ?_⟩⟩
      · rw [toNat_cast, Nat.mul_one]
        simp only [setFrom]
        rw [List.getElem?_set_ne (fun h => ht h.symm)]
        exact hoff t ht
      · rw [toNat_cast, Nat.mul_one]
        simp only [setFrom]
        rw [List.getElem?_set_self (by omega)]
      · have g12 : Only (fun b => b = hs w1) w11 w12 := only_setAdd e12
        have := p1.keep g12 fun b hx e => by rw [e] at hx; exact p1.apartR r11 (by decide) hx
        rw [List.take_succ_eq_append_getElem hlt2, List.map_append]
        exact this
      · have g12 : Only (fun b => b = hs w1) w11 w12 := only_setAdd e12
        refine ((g6.grow g69).trans p2 fun b hb hx => ?_).trans' g12
        have := (hown9.base b hx).1
        have := g5.size
        omega
    · have := dF hge2
      obtain rfl : u = q.ans.length := by omega
      rw [List.take_length] at hown
      refine ⟨_, by omega, j + 1, sv', by rw [wr (by omega)]; omega, hlt, rfl, hsl, r6, (g3.grow g5).trans' g6, fun i hi hi2 => ?_, fun i s hi hs' => ?_⟩
      · rw [hoff i (by omega)]; exact hI0 i (by omega) hi2
      · by_cases e : i = j
        · subst e
          rw [hqj] at hs'
          cases hs'
          exact ⟨ou, cu, hat, hown.mono (by omega)⟩
        · obtain ⟨oi', ci', q1, q2⟩ := hI i s (by omega) hs'
          refine ⟨oi', ci', by rw [hoff i e]; exact q1, (q2.grow g5).keep g6 fun b hb e => ?_⟩
          have := (q2.base b hb).1
          omega
  · have := dF hge
    obtain rfl : j = p.qs.length := by omega
    refine ⟨_, _, rfl, fun i row hi => ?_, g.trans' G3, fun h => by cases h⟩
    unfold nextsOf at hi
    rw [List.getElem?_map] at hi
    cases hq : p.qs[i]? with
    | none => rw [hq] at hi; cases hi
    | some s =>
      rw [hq] at hi
      cases hi
      have hil : i < p.qs.length := by
        rcases Nat.lt_or_ge i p.qs.length with h | h
        · exact h
        · rw [List.getElem?_eq_none h] at hq; cases hq
      obtain ⟨oi, ci, q1, q2⟩ := hI i s hil hq
      have b1 := g.size
      have b3 := r3.lt
      refine ⟨_, oi, ci, rfl, ⟨by show hs w ≤ hs w1; omega, b3⟩, by rw [List.length_map]; exact r3.cellAdd (by rw [toNat_cast, Nat.mul_one]; exact q1), q2.nums.mono fun b hb => ⟨by omega, hb.2⟩⟩
end Go.Proofs.Ytbaacpfjecbbgaa
