/- The statements' own example. -/
import Derived.Test.YtbaacpfjecbbgaaNf4
import Derived.Test.YtbaacpfjecbbgaaKj
namespace Go.Proofs.Ytbaacpfjecbbgaa
open Go Go.Nf

theorem sameW_c (o o' : Option Addr) (c c' : Nat) (xs ys : List Int) (hl : xs.length ≤ 1000000) (w : World) {A A' : Nat → Prop} (h : Nums w A o xs) (h' : Nums w A' o' ys) :
    Calls Try.prog 62 #[.slice o xs.length c, .slice o' ys.length c'] w fun e w' => e = .returned (.bool (decide (xs = ys))) ∧ Grow w w' := by
  refine nf62 o xs.length c o' ys.length c' w _ ⟨fun h1 => ⟨ret_bool ?_, Only.refl _ _⟩, fun h1 => ⟨fun k x w' => ∃ j : Nat, x = (j : Int) ∧ j ≤ xs.length ∧ k = xs.length - j ∧ (∀ i, i < j → xs[i]? = ys[i]?) ∧ Grow w w', ⟨_, 0, rfl, Nat.zero_le _, rfl, fun i hi => by omega, Only.refl _ _⟩, ?_⟩⟩
  · rw [decide_eq_false]
    intro e
    exact nT h1 (by rw [e])
  have hle : xs.length = ys.length := by have := nF h1; omega
  rintro k _ w1 x ⟨j, rfl, hj, rfl, hI, g1⟩
  refine ⟨fun hlt w2 e2 => ?_, fun hge => ⟨ret_bool ?_, g1⟩⟩
  · have hlt : j < xs.length := by have := dT hlt; omega
    have g2 : Grow w w2 := g1.trans' (only_drew e2)
    obtain ⟨a, ha, hc⟩ := (h.grow g2).get hlt
    obtain ⟨a', ha', hc'⟩ := (h'.grow g2).get (j := j) (by omega)
    refine ⟨a, ha, ⟨by omega, by omega⟩, _, hc, a', ha', ⟨by omega, by omega⟩, _, hc', fun hne => ⟨ret_bool ?_, g2⟩, fun he => ⟨_, by omega, j + 1, by rw [wr (by omega)]; omega, hlt, rfl, fun i hi => ?_, g2⟩⟩
    · rw [decide_eq_false]
      intro e
      subst e
      exact nT hne rfl
    · by_cases e : i = j
      · subst e
        rw [List.getElem?_eq_getElem hlt, List.getElem?_eq_getElem (by omega), nF he]
      · exact hI i (by omega)
  · have := dF hge
    obtain rfl : j = xs.length := by omega
    rw [decide_eq_true]
    refine List.ext_getElem? fun i => ?_
    rcases Nat.lt_or_ge i xs.length with h | h
    · exact hI i h
    · rw [List.getElem?_eq_none h, List.getElem?_eq_none (by omega)]

/-! ### Plain -/
def twQ0 : Qst := ⟨ByteArray.mk #[68, 111, 101, 115, 32, 97, 110, 121, 98, 111, 100, 121, 32, 98, 114, 101, 97, 116, 104, 101, 63], [⟨ByteArray.mk #[110, 111], -1, 1, ByteArray.mk #[97, 114, 114, 101, 115, 116]⟩, ⟨ByteArray.mk #[121, 101, 115], 1, 0, ByteArray.mk #[]⟩]⟩
def twQ1 : Qst := ⟨ByteArray.mk #[87, 104, 101, 114, 101, 63], [⟨ByteArray.mk #[104, 111, 109, 101], -1, 3, ByteArray.mk #[102, 97, 108, 108]⟩]⟩
def twR1 : Qst := ⟨ByteArray.mk #[87, 104, 101, 114, 101, 63], [⟨ByteArray.mk #[97, 103, 97, 105, 110], 0, 0, ByteArray.mk #[]⟩]⟩
def twP : Prot := ⟨ByteArray.mk #[109, 97, 105, 110], 1, [twQ0, twQ1]⟩
def twR : Prot := ⟨ByteArray.mk #[109, 97, 105, 110], 1, [twQ0, twR1]⟩
theorem tw_valid : validB twP = true := by kernel_rfl
theorem tw_nx0 : nxP twP.qs 0 = [1] := by kernel_rfl
theorem tw_nx1 : nxP twP.qs 1 = [] := by kernel_rfl
theorem tw_from1 {y : Nat} (h : Rch (nxP twP.qs) 1 y) : y = 1 := h.closed (m := fun x => x = 1) (fun i hi x hx => by subst hi; rw [tw_nx1] at hx; cases hx) rfl
theorem tw_two {j : Nat} (h : j < twP.qs.length) : j = 0 ∨ j = 1 := by
  have : twP.qs.length = 2 := rfl
  omega
theorem tw_cyc : ∀ j, j < twP.qs.length → ¬ Cyc (nxP twP.qs) j := by
  rintro j hj ⟨x, hx, hr⟩
  rcases tw_two hj with rfl | rfl
  · rw [tw_nx0, List.mem_singleton] at hx
    subst hx
    have := tw_from1 hr
    omega
  · rw [tw_nx1] at hx; cases hx
theorem tw_reach : ∀ j, j < twP.qs.length → Rch (nxP twP.qs) 0 j := by
  intro j hj
  rcases tw_two hj with rfl | rfl
  · exact .refl _
  · exact .step (by rw [tw_nx0]; simp) (.refl _)
theorem tw_ending : Ending' twP (-1) 0 := .inr (.inr (.inr ⟨tw_valid, tw_cyc, tw_reach, rfl, rfl⟩))
theorem twR_ending : Ending' twR 0 12 := .inr (.inl ⟨by kernel_rfl, 0, by decide, rfl, ⟨1, by rw [show nxP twR.qs 0 = [1] by kernel_rfl]; simp, .step (by rw [show nxP twR.qs 1 = [0] by kernel_rfl]; simp) (.refl _)⟩, fun j hj => by omega, rfl⟩)
theorem tw_most : IsMost twP 0 2 0 := .inr (.inr (.inr ⟨tw_valid, by decide, fun j hj => tw_cyc j (hj.closed (m := fun y => y < twP.qs.length) (fun i _ y hy => valid_in tw_valid i y hy) (by decide)), ⟨2, rfl, fun d hd => walk_le (valid_in tw_valid) tw_cyc hd (by decide), .more (by rw [show nxP twP.qs (Int.toNat 0) = [1] by kernel_rfl]; simp) (.one 1)⟩, rfl⟩))
theorem tw_fin0 {u : Int} : Fin' twQ0.ans u ↔ u = 1 := by
  constructor
  · rintro ⟨a, ha, hn, rfl⟩
    simp only [twQ0, List.mem_cons, List.not_mem_nil, or_false] at ha
    rcases ha with rfl | rfl
    · rfl
    · exact absurd hn (by decide)
  · rintro rfl; exact ⟨_, List.mem_cons_self, by decide, rfl⟩
theorem tw_fin1 {u : Int} : Fin' twQ1.ans u ↔ u = 3 := by
  constructor
  · rintro ⟨a, ha, hn, rfl⟩
    simp only [twQ1, List.mem_cons, List.not_mem_nil, or_false] at ha
    subst ha
    rfl
  · rintro rfl; exact ⟨_, List.mem_cons_self, by decide, rfl⟩
theorem tw_get0 : twP.qs[0]? = some twQ0 := rfl
theorem tw_get1 : twP.qs[1]? = some twQ1 := rfl
theorem tw_lt {i : Nat} {s : Qst} (h : twP.qs[i]? = some s) : i = 0 ∨ i = 1 := by
  refine tw_two ?_
  rcases Nat.lt_or_ge i twP.qs.length with h' | h'
  · exact h'
  · rw [List.getElem?_eq_none h'] at h; cases h
theorem tw_range : IsRange twP 0 1 3 := by
  refine .inl ⟨⟨tw_valid, by decide, by decide⟩, .inr ⟨⟨0, twQ0, .refl _, tw_get0, tw_fin0.2 rfl⟩, ⟨1, twQ1, tw_reach 1 (by decide), tw_get1, tw_fin1.2 rfl⟩, ?_⟩⟩
  rintro u ⟨i, s, -, hs, hu⟩
  rcases tw_lt hs with rfl | rfl
  · rw [tw_get0] at hs; cases hs
    have := tw_fin0.1 hu; omega
  · rw [tw_get1] at hs; cases hs
    have := tw_fin1.1 hu; omega
theorem tw_ways : (waysB twP 0).take 9 = [[0], [1, 0]] := by kernel_rfl
theorem tw_short3 : shortW twP 0 3 = some [1, 0] := by kernel_rfl
theorem tw_short2 : shortW twP 0 2 = none := by kernel_rfl
theorem tw_count : sat (waysB twP 0).length = 2 := by kernel_rfl
theorem qs_two {w : World} {b1 b3 b5 : Nat} {q0 q1 : Qst} (r1 : Row w b1 58 (q0.ans.flatMap encA)) (r3 : Row w b3 58 (q1.ans.flatMap encA)) (hl0 : (q0.ans.flatMap encA).length = q0.ans.length * 4) (hl1 : (q1.ans.flatMap encA).length = q1.ans.length * 4) (h0 : q0.ans.length ≤ 1000) (h1 : q1.ans.length ≤ 1000)
    (r5 : Row w b5 38 [.string q0.text, .slice (some ⟨b1, 0, none⟩) q0.ans.length q0.ans.length, .string q1.text, .slice (some ⟨b3, 0, none⟩) q1.ans.length q1.ans.length]) : Qs w (fun _ => True) (some ⟨b5, 0, none⟩) [q0, q1] := fun i q hi => by
  have rec0 : Recs w (fun _ => True) (some ⟨b1, 0, none⟩) 4 (q0.ans.map encA) := (own_recs (B := 0) (r1.own (Nat.zero_le _) hl0 (by simp [maxLen]; omega))).mono fun _ _ => trivial
  have rec1 : Recs w (fun _ => True) (some ⟨b3, 0, none⟩) 4 (q1.ans.map encA) := (own_recs (B := 0) (r3.own (Nat.zero_le _) hl1 (by simp [maxLen]; omega))).mono fun _ _ => trivial
  match i, hi with
  | 0, hi => cases hi; exact ⟨_, _, _, rfl, trivial, r5.cellAdd rfl, r5.cellAdd2 rfl, rec0⟩
  | 1, hi => cases hi; exact ⟨_, _, _, rfl, trivial, r5.cellAdd rfl, r5.cellAdd2 rfl, rec1⟩
  | i + 2, hi => simp at hi
theorem small13_c (w : World) :
    Calls Try.prog 92 #[] w fun e w' => ∃ b1 b3 b5, e = .returned (.agg #[.string twP.name, .int .i64 twP.version, .slice (some ⟨b5, 0, none⟩) 2 2]) ∧ Row w' b1 58 (twQ0.ans.flatMap encA) ∧ Row w' b3 58 (twQ1.ans.flatMap encA) ∧
      Row w' b5 38 [.string twQ0.text, .slice (some ⟨b1, 0, none⟩) 2 2, .string twQ1.text, .slice (some ⟨b3, 0, none⟩) 1 1] ∧ hs w ≤ b3 ∧ b1 < b3 ∧ Grow w w' := by
  refine nf92 w _ fun w1 e1 w3 e3 w5 e5 w7 e7 => ?_
  have r1 := Row.new e1
  have g1 : Grow w w1 := only_alloc e1
  have r3 : Row w3 (hs w1) 58 (twQ0.ans.flatMap encA) := Row.new e3
  have g3 : Grow w1 w3 := only_alloc e3
  have r5 : Row w5 (hs w3) 58 (twQ1.ans.flatMap encA) := Row.new e5
  have g5 : Grow w3 w5 := only_alloc e5
  have r7 := Row.new e7
  have g7 : Grow w5 w7 := only_alloc e7
  have s1 := r1.lt
  have s3 := r3.lt
  have s5 := r5.lt
  have s7 := r7.lt
  have s13 := g3.size
  have s35 := g5.size
  have rw7 := ((r1.grow g3).grow g5).grow g7
  refine ⟨rw7.there (by simp), fun w9 e9 => ?_⟩
  have r9 := rw7.set e9
  have g9 : Only (fun b => b = hs w) w7 w9 := only_set e9
  exact ⟨_, r9.cell rfl, _, r9.cell rfl, _, _, _, r9.cell rfl, _, _, _, rfl, ((r3.grow g5).grow g7).keep g9 (by omega), (r5.grow g7).keep g9 (by omega), r7.keep g9 (by omega), by omega, by omega, (((g1.trans' g3).trans' g5).trans' g7).trans g9 fun b hb e => by omega⟩
set_option maxHeartbeats 4000000 in
theorem awake13_c (w : World) : Calls Try.prog 55 #[] w fun e w' => e = .returned (.bool true) ∧ Grow w w' := by
  refine nf55 w _ ((small13_c w).mono ?_)
  rintro _ w2 ⟨b1, b3, b5, rfl, k1, k3, k5, hb3, hb13, g2⟩
  refine ⟨_, _, _, _, _, rfl, fun w8 e8 => ⟨(Row.new e8).there (by simp), fun w10 e10 => ?_⟩⟩
  obtain ⟨r10, g10⟩ := loc e8 e10 rfl
  have hf : twP.qs.length ≤ 9223372036854775807 := by decide
  have hQ : Qs w10 (fun _ => True) (some ⟨b5, 0, none⟩) twP.qs := (qs_two k1 k3 rfl rfl (by decide) (by decide) k5).grow g10
  refine ⟨_, r10.cell rfl, _, r10.cell rfl, _, _, _, r10.cell rfl, (check_c _ 2 twP hf w10 hQ).mono ?_⟩
  rintro _ w18 ⟨x19, x20, rfl, hE, g18⟩
  obtain ⟨rfl, rfl⟩ := ending_one hE tw_ending
  have r18 := r10.grow g18
  have hQ18 := hQ.grow g18
  refine ⟨_, _, rfl, _, r18.cell rfl, _, r18.cell rfl, _, _, _, r18.cell rfl, (maxQuestions_c _ 2 twP 0 hf w18 hQ18).mono ?_⟩
  rintro _ w27 ⟨x28, x29, rfl, hm, g27⟩
  obtain ⟨rfl, rfl⟩ := most_one hm tw_most
  have r27 := r18.grow g27
  have hQ27 := hQ18.grow g27
  refine ⟨_, _, rfl, _, r27.cell rfl, _, r27.cell rfl, _, _, _, r27.cell rfl, (urgencyRange_c _ 2 twP 0 hf w27 hQ27).mono ?_⟩
  rintro _ w36 ⟨x37, x38, rfl, hr, g36⟩
  obtain ⟨rfl, rfl⟩ := isRange_one hr tw_range
  have r36 := r27.grow g36
  have hQ36 := hQ27.grow g36
  refine ⟨_, _, rfl, _, r36.cell rfl, _, r36.cell rfl, _, _, _, r36.cell rfl, (taken_c _ 2 twP 9 (by omega) (by omega) hf w36 hQ36).mono ?_⟩
  rintro _ w45 ⟨x', y', o46, c46, hE', rfl, hM, g45⟩
  obtain ⟨rfl, rfl⟩ := ending_one hE' tw_ending
  rw [tw_ways] at hM ⊢
  have r45 := r36.grow g45
  have hQ45 := hQ36.grow g45
  refine ⟨_, _, _, rfl, _, r45.cell rfl, _, r45.cell rfl, _, _, _, r45.cell rfl, (shortestPath_c _ 2 twP 3 hf w45 hQ45).mono ?_⟩
  rintro _ w55 ⟨x', y', hE', ⟨o56, n56, c56, rfl, hW⟩, g55⟩
  obtain ⟨rfl, rfl⟩ := ending_one hE' tw_ending
  rw [tw_short3] at hW ⊢
  obtain ⟨h, -⟩ | ⟨l56, hl56, rfl, hN⟩ := hW
  · cases h
  cases hl56
  have r55 := r45.grow g55
  have hQ55 := hQ45.grow g55
  refine ⟨_, _, _, _, rfl, fun _ => ⟨_, r55.cell rfl, _, r55.cell rfl, _, _, _, r55.cell rfl, (shortestPath_c _ 2 twP 2 hf w55 hQ55).mono ?_⟩, fun h => (by cases h)⟩
  rintro _ w67 ⟨x', y', hE', ⟨o68, n68, c68, rfl, -⟩, g67⟩
  obtain ⟨rfl, rfl⟩ := ending_one hE' tw_ending
  rw [tw_short2]
  have r67 := r55.grow g67
  have hQ67 := hQ55.grow g67
  refine ⟨_, _, _, _, rfl, fun h => (by cases h), fun _ => ⟨_, r67.cell rfl, _, r67.cell rfl, _, _, _, r67.cell rfl, (countPaths_c _ 2 twP hf w67 hQ67).mono ?_⟩⟩
  rintro _ w150 ⟨x', y', hE', rfl, g150⟩
  obtain ⟨rfl, rfl⟩ := ending_one hE' tw_ending
  rw [tw_count]
  have r150 := r67.grow g150
  have G2 : Grow w2 w150 := (((((((g10.trans' g18).trans' g27).trans' g36).trans' g45).trans' g55).trans' g67).trans' g150)
  have k1' := k1.grow G2
  have k3' := k3.grow G2
  have k5' := k5.grow G2
  refine ⟨_, rfl, _, _, _, r150.cell rfl, _, rfl, ⟨by decide, by decide⟩, _, _, _, k5'.cellAdd2 (k := 1) (o := 2) rfl, _, rfl, ⟨by decide, by decide⟩, k3'.there (by decide), fun w160 e160 => ?_⟩
  have k3n : Row w160 b3 58 (twR1.ans.flatMap encA) := k3'.set e160
  have g160 : Only (fun b => b = b3) w150 w160 := only_set e160
  have l2 := r10.lt
  have ek3 := k3.lt
  have n1 : b1 ≠ b3 := by omega
  have r160 := r150.keep g160 (by omega)
  have hQ160 : Qs w160 (fun _ => True) (some ⟨b5, 0, none⟩) twR.qs := qs_two (k1'.keep g160 (by omega)) k3n rfl rfl (by decide) (by decide) (k5'.keep g160 (Row.ne k5' k3' (by decide)))
  refine ⟨_, r160.cell rfl, _, r160.cell rfl, _, _, _, r160.cell rfl, (check_c _ 2 twR (by decide) w160 hQ160).mono ?_⟩
  rintro _ w168 ⟨x169, x170, rfl, hE2, g168⟩
  obtain ⟨rfl, rfl⟩ := ending_one hE2 twR_ending
  have s45 := (((((g10.trans' g18).trans' g27).trans' g36).trans' g45)).size
  have gA : Grow w45 w150 := (g55.trans' g67).trans' g150
  have G168 : Only (fun b => b = b3) w45 w168 := ((Grow.only gA).trans' g160).grow g168
  have k345 := k3.grow (((((g10.trans' g18).trans' g27).trans' g36).trans' g45))
  have hM168 : Mat w168 (WayRow w45) o46 [[0], [1, 0]] := hM.keep G168 fun b hb e => by
    obtain ⟨l, h | h⟩ := hb
    · exact Row.ne h k345 (by decide) e
    · exact Row.ne h k345 (by decide) e
  have hN168 := hN.keep ((Grow.only ((g67.trans' g150))).trans' g160 |>.grow g168) fun b hb e => by
    have := k345.lt
    omega
  obtain ⟨a0, o0, c0, ha0, hc0, hN0⟩ := hM168.get (j := 0) (by decide)
  obtain ⟨a1, o1, c1, ha1, hc1, hN1⟩ := hM168.get (j := 1) (by decide)
  have hc0 : w168.cell? (a0.add 0) = some (.slice o0 1 c0) := hc0
  rw [add_zero] at hc0
  have hG : Grow w w168 := ((g2.trans' G2).trans g160 fun b hb e => by omega).trans' g168
  refine ⟨_, _, rfl, yes rfl (yes rfl (yes rfl (yes rfl (yes rfl (yes rfl (yes rfl ⟨a0, ha0, ⟨by decide, by decide⟩, _, _, _, hc0, fun w182 e182 => ?_⟩))))))⟩
  have r182 : Row w182 (hs w168) 3 (intsV [0]) := Row.new e182
  have g182 : Grow w168 w182 := only_alloc e182
  refine (sameW_c o0 (some ⟨hs w168, 0, none⟩) c0 1 [0] [0] (by decide) w182 (hN0.grow g182) (r182.nums (A := fun _ => True) trivial)).mono ?_
  rintro _ w185 ⟨rfl, g185⟩
  have G185 := g182.trans' g185
  refine ⟨_, rfl, fun _ => ⟨a1, ha1, ⟨by decide, by decide⟩, _, _, _, cell_keep G185 (fun h => h) hc1, fun w192 e192 => ?_⟩, fun h => absurd h (by decide)⟩
  have r192 : Row w192 (hs w185) 3 (intsV [1, 0]) := Row.new e192
  have g192 : Grow w185 w192 := only_alloc e192
  refine (sameW_c o1 (some ⟨hs w185, 0, none⟩) c1 2 [1, 0] [1, 0] (by decide) w192 ((hN1.grow G185).grow g192) (r192.nums (A := fun _ => True) trivial)).mono ?_
  rintro _ w195 ⟨rfl, g195⟩
  have G195 := (G185.trans' g192).trans' g195
  refine ⟨_, rfl, fun _ w198 e198 => ?_, fun h => absurd h (by decide)⟩
  have r198 : Row w198 (hs w195) 3 (intsV [1, 0]) := Row.new e198
  have g198 : Grow w195 w198 := only_alloc e198
  refine (sameW_c o56 (some ⟨hs w195, 0, none⟩) c56 2 [1, 0] [1, 0] (by decide) w198 ((hN168.grow G195).grow g198) (r198.nums (A := fun _ => True) trivial)).mono ?_
  rintro _ w201 ⟨rfl, g201⟩
  exact ⟨_, rfl, fun _ => yes rfl (yes rfl (yes rfl ⟨rfl, hG.trans' ((G195.trans' g198).trans' g201)⟩)), fun h => absurd h (by decide)⟩
end Go.Proofs.Ytbaacpfjecbbgaa
