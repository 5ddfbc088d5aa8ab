/- Contracts: Validate, the reference's Right, and what is small. -/
import Derived.Test.YtbaacpfjecbbgaaHb
namespace Go.Proofs.Ytbaacpfjecbbgaa
open Go Go.Nf

theorem word_c (s : ByteArray) (hs : s.size ≤ 9223372036854775807) (w : World) : Calls Try.prog 91 #[.string s, .int .i64 40] w fun e w' => e = .returned (.bool (nameB s)) ∧ w = w' := by
  refine nf91 s 40 w _ ⟨Scan okN s w, Scan.start _ _ _, ?_⟩
  rintro n _ _ x ⟨i, rfl, hi, rfl, hI, rfl⟩
  refine ⟨fun hlt => ?_, fun hge => ?_⟩
  · have hlt : i < s.size := by have := dT hlt; omega
    have hb := byteAt_get hlt
    have good : okN ((sb s)[i]'hlt) = true → _ := fun hp => Scan.next (w := w) hs hlt hI hb hp
    have bad : okN ((sb s)[i]'hlt) = false → Ending.returned (.bool false) = .returned (.bool (nameB s)) ∧ w = w := fun hp => ⟨ret_bool (by unfold nameB; rw [not_all hb hp]; simp), rfl⟩
    have e0 := hb
    generalize (sb s)[i]'hlt = c at *
    have h0 : (0 : Int) ≤ (i : Int) := by omega
    repeat' (first | (apply And.intro <;> intro h) | apply good | apply bad | (apply Exists.intro; apply And.intro; exact And.intro h0 e0))
    all_goals
      simp only [decide_eq_true_eq, decide_eq_false_iff_not, Bool.not_eq_true', Bool.not_eq_false'] at *
      unfold okN rangeB
      first
        | (simp only [Bool.or_eq_true, Bool.and_eq_true, decide_eq_true_eq]; omega)
        | (simp only [Bool.or_eq_false_iff, Bool.and_eq_false_iff, decide_eq_false_iff_not]; omega)
  · have := dF hge
    have hall : allB okN s = true := all_of fun j hj => hI j (by omega)
    refine ⟨fun h1 => ⟨fun h2 => ⟨ret_bool ?_, rfl⟩, fun h2 => ⟨ret_bool ?_, rfl⟩⟩, fun h1 => ⟨ret_bool ?_, rfl⟩⟩
    · have := dT h1; have := dT h2; unfold nameB; rw [hall, decide_eq_true (by omega), decide_eq_true (by omega)]; rfl
    · have := dF h2; unfold nameB; rw [decide_eq_false (by omega : ¬ s.size ≤ 40)]; simp
    · have := dF h1; unfold nameB; rw [decide_eq_false (by omega : ¬ 1 ≤ s.size)]; simp

set_option maxHeartbeats 1000000 in
theorem validate_c (o : Option Addr) (c : Nat) (p : Prot) (hf : p.qs.length ≤ 9223372036854775807) (w : World) {A : Nat → Prop} (h : Qs w A o p.qs) :
    Calls Try.prog 82 #[.agg #[.string p.name, .int .i64 p.version, .slice o p.qs.length c]] w fun e w' => (∃ x : Int, e = .returned (.tuple #[.int .i64 x, .int .i64 (if validB p then 0 else 1)])) ∧ Grow w w' := by
  refine nf82 p.name p.version o p.qs.length c w _ fun w1 e1 => ?_
  have r := Row.new e1
  have g : Grow w w1 := only_alloc e1
  have no : ∀ x : Int, validB p = false → (∃ y : Int, Ending.returned (.tuple #[.int .i64 x, .int .i64 1]) = .returned (.tuple #[.int .i64 y, .int .i64 (if validB p then 0 else 1)])) := fun x hv => ⟨x, by rw [hv]; rfl⟩
  refine ⟨_, _, _, r.cell rfl, _, _, _, r.cell rfl, fun k x w' => ∃ j : Nat, x = (j : Int) ∧ j ≤ p.qs.length ∧ k = p.qs.length - j ∧ (p.qs.take j).all (qstB p.qs.length) = true ∧ Grow w1 w', ⟨_, 0, rfl, Nat.zero_le _, rfl, rfl, Only.refl _ _⟩, ?_⟩
  rintro k _ w2 x ⟨j, rfl, hj, rfl, hI, g2⟩
  refine ⟨fun hlt => ?_, fun hge => ?_⟩
  · have hlt : j < p.qs.length := by have := dT hlt; omega
    obtain ⟨a, oi, ci, ha, c0, c1, hr⟩ := ((h.grow g).grow g2).get hlt
    refine ⟨a, ha, ⟨by omega, by omega⟩, _, c0, _, _, _, c1, fun w3 e3 => ⟨(Row.new e3).there (by simp), fun w4 e4 => ?_⟩⟩
    obtain ⟨r4, g4⟩ := loc e3 e4 rfl
    refine ⟨_, r4.cell rfl, _, _, _, r4.cell rfl, (validQuestion_c oi ci p.qs[j] p.qs.length w4 (hr.grow g4)).mono ?_⟩
    rintro _ w5 ⟨rfl, g5⟩
    have G := (g2.trans' g4).trans' g5
    refine ⟨_, rfl, fun hb => ⟨_, by omega, j + 1, by rw [wr (by omega)]; omega, hlt, rfl, all_take hlt hI hb, G⟩, fun hb => ⟨no _ ?_, g.trans' G⟩⟩
    unfold validB; rw [all_no hlt hb]; simp
  · have := dF hge
    obtain rfl : j = p.qs.length := by omega
    rw [List.take_length] at hI
    have r2 := r.grow g2
    have G := g.trans' g2
    refine ⟨_, r2.cell rfl, (isName_c p.name w2).mono ?_⟩
    rintro _ _ ⟨rfl, rfl⟩
    refine ⟨_, rfl, fun hn => ⟨_, r2.cell rfl, (isVersion_c p.version w2).mono ?_⟩, fun hn => ⟨no _ ?_, G⟩⟩
    · rintro _ _ ⟨rfl, rfl⟩
      refine ⟨_, rfl, fun hv => ⟨fun h1 => ⟨no _ ?_, G⟩, fun h1 => ⟨fun h2 => ⟨no _ ?_, G⟩, fun h2 => ⟨⟨-1, ?_⟩, G⟩⟩⟩, fun hv => ⟨no _ ?_, G⟩⟩
      · have := dT h1; unfold validB; rw [decide_eq_false (by omega : ¬ 1 ≤ p.qs.length)]; simp
      · have := dT h2; unfold validB; rw [decide_eq_false (by omega : ¬ p.qs.length ≤ 64)]; simp
      · have := dF h1; have := dF h2
        rw [Bool.and_eq_true] at hv
        have : validB p = true := by unfold validB; rw [hI, hn, hv.1, hv.2, decide_eq_true (by omega : 1 ≤ p.qs.length), decide_eq_true (by omega : p.qs.length ≤ 64)]; rfl
        rw [this]; rfl
      · rw [Bool.and_eq_false_iff] at hv
        unfold validB
        rcases hv with hv | hv <;> rw [hv] <;> simp
    · unfold validB; rw [hn]; simp
set_option maxHeartbeats 1000000 in
theorem right_c (o : Option Addr) (c : Nat) (p : Prot) (hf : FitP p) (w : World) {A : Nat → Prop} (h : Qs w A o p.qs) :
    Calls Try.prog 51 #[.agg #[.string p.name, .int .i64 p.version, .slice o p.qs.length c]] w fun e w' => (∃ x : Int, e = .returned (.tuple #[.int .i64 x, .int .i64 (if validB p then 0 else 1)])) ∧ Grow w w' := by
  have hfl := hf.qs
  refine nf51 p.name p.version o p.qs.length c w _ fun w1 e1 => ?_
  have r := Row.new e1
  have g : Grow w w1 := only_alloc e1
  have no : ∀ x : Int, validB p = false → (∃ y : Int, Ending.returned (.tuple #[.int .i64 x, .int .i64 1]) = .returned (.tuple #[.int .i64 y, .int .i64 (if validB p then 0 else 1)])) := fun x hv => ⟨x, by rw [hv]; rfl⟩
  refine ⟨_, _, _, r.cell rfl, fun k x w' => ∃ j : Nat, x = (j : Int) ∧ j ≤ p.qs.length ∧ k = p.qs.length - j ∧ (p.qs.take j).all (qstB p.qs.length) = true ∧ Grow w1 w', ⟨_, 0, rfl, Nat.zero_le _, rfl, rfl, Only.refl _ _⟩, ?_⟩
  rintro k _ w2 x ⟨j, rfl, hj, rfl, hI, g2⟩
  refine ⟨fun hlt => ?_, fun hge => ?_⟩
  · have hlt : j < p.qs.length := by have := dT hlt; omega
    obtain ⟨a, oi, ci, ha, c0, c1, hr⟩ := ((h.grow g).grow g2).get hlt
    refine ⟨a, ha, ⟨by omega, by omega⟩, _, c0, _, _, _, c1, fun w3 e3 => ⟨(Row.new e3).there (by simp), fun w4 e4 => ?_⟩⟩
    obtain ⟨r4, g4⟩ := loc e3 e4 rfl
    refine ⟨_, r4.cell rfl, _, _, _, r4.cell rfl, _, _, _, ((r.grow g2).grow g4).cell rfl, (question_c oi ci p.qs[j] p.qs.length (hf.each _ (List.getElem_mem hlt)) w4 (hr.grow g4)).mono ?_⟩
    rintro _ w5 ⟨rfl, g5⟩
    have G := (g2.trans' g4).trans' g5
    refine ⟨_, rfl, fun hb => ⟨_, by omega, j + 1, by rw [wr (by omega)]; omega, hlt, rfl, all_take hlt hI hb, G⟩, fun hb => ⟨no _ ?_, g.trans' G⟩⟩
    unfold validB; rw [all_no hlt hb]; simp
  · have := dF hge
    obtain rfl : j = p.qs.length := by omega
    rw [List.take_length] at hI
    have r2 := r.grow g2
    have G := g.trans' g2
    refine ⟨_, r2.cell rfl, (word_c p.name hf.name w2).mono ?_⟩
    rintro _ _ ⟨rfl, rfl⟩
    refine ⟨_, rfl, fun hn => ⟨_, r2.cell rfl, fun h1 => ⟨no _ ?_, G⟩, fun h1 => ⟨_, r2.cell rfl, fun h2 => ⟨no _ ?_, G⟩, fun h2 => ⟨_, _, _, r2.cell rfl, fun h3 => ⟨no _ ?_, G⟩, fun h3 => ⟨_, _, _, r2.cell rfl, fun h4 => ⟨no _ ?_, G⟩, fun h4 => ⟨⟨-1, ?_⟩, G⟩⟩⟩⟩⟩, fun hn => ⟨no _ ?_, G⟩⟩
    · have := dT h1; unfold validB; rw [decide_eq_false (by omega : ¬ 1 ≤ p.version)]; simp
    · have := dT h2; unfold validB; rw [decide_eq_false (by omega : ¬ p.version ≤ 1048576)]; simp
    · have := dT h3; unfold validB; rw [decide_eq_false (by omega : ¬ 1 ≤ p.qs.length)]; simp
    · have := dT h4; unfold validB; rw [decide_eq_false (by omega : ¬ p.qs.length ≤ 64)]; simp
    · have := dF h1; have := dF h2; have := dF h3; have := dF h4
      have : validB p = true := by unfold validB; rw [hI, hn, decide_eq_true (by omega : 1 ≤ p.version), decide_eq_true (by omega : p.version ≤ 1048576), decide_eq_true (by omega : 1 ≤ p.qs.length), decide_eq_true (by omega : p.qs.length ≤ 64)]; rfl
      rw [this]; rfl
    · unfold validB; rw [hn]; simp

/-- few questions, few answers each -/
def Little (p : Prot) (n : Nat) : Prop := p.qs.length ≤ n ∧ ∀ q, q ∈ p.qs → q.ans.length ≤ 20
theorem small_c (o : Option Addr) (c : Nat) (p : Prot) (hf : FitP p) (w : World) {A : Nat → Prop} (h : Qs w A o p.qs) :
    Calls Try.prog 70 #[.agg #[.string p.name, .int .i64 p.version, .slice o p.qs.length c]] w fun e w' => ∃ b, e = .returned (.bool b) ∧ (b = true → Little p 70) ∧ Grow w w' := by
  have hfl := hf.qs
  refine nf70 p.name p.version o p.qs.length c w _ fun w1 e1 => ?_
  have r := Row.new e1
  have g : Grow w w1 := only_alloc e1
  refine ⟨_, r.cell rfl, _, _, _, r.cell rfl, fun k y x w' => ∃ j : Nat, x = (j : Int) ∧ j ≤ p.qs.length ∧ k = p.qs.length - j ∧ (∀ i q, i < j → p.qs[i]? = some q → q.ans.length ≤ 20) ∧ Grow w1 w', ⟨_, 0, rfl, Nat.zero_le _, rfl, fun i q hi => by omega, Only.refl _ _⟩, ?_⟩
  rintro k _ w2 y x ⟨j, rfl, hj, rfl, hI, g2⟩
  have G2 := g.trans' g2
  refine ⟨fun hlt => ?_, fun hge => ?_⟩
  · have hlt : j < p.qs.length := by have := dT hlt; omega
    obtain ⟨a, oi, ci, ha, c0, c1, hr⟩ := (h.grow G2).get hlt
    have hfq := hf.each _ (List.getElem_mem hlt)
    have hjq : p.qs[j]? = some p.qs[j] := List.getElem?_eq_getElem hlt
    generalize p.qs[j] = q at *
    refine ⟨a, ha, ⟨by omega, by omega⟩, _, c0, _, _, _, c1, fun w3 e3 => ⟨(Row.new e3).there (by simp), fun w4 e4 => ?_⟩⟩
    obtain ⟨r4, g4⟩ := loc e3 e4 rfl
    have G4 := g2.trans' g4
    have hal := hfq.2.1
    refine ⟨_, r4.cell rfl, _, _, _, r4.cell rfl, fun h1 => ⟨false, rfl, fun h => (by cases h), g.trans' G4⟩, fun h1 => ⟨_, _, _, r4.cell rfl, fun k y x w' => ∃ t : Nat, x = (t : Int) ∧ t ≤ q.ans.length ∧ k = q.ans.length - t ∧ Grow w4 w', ⟨_, 0, rfl, Nat.zero_le _, rfl, Only.refl _ _⟩, ?_⟩⟩
    have h1 := dF h1
    rintro k _ w5 y2 x ⟨t, rfl, ht, rfl, g5⟩
    refine ⟨fun hlt2 => ?_, fun hge2 => ⟨_, by omega, j + 1, by rw [wr (by omega)]; omega, hlt, rfl, fun i q' hi hq => ?_, G4.trans' g5⟩⟩
    · have hlt2 : t < q.ans.length := by have := dT hlt2; omega
      obtain ⟨a, ha, c0, c1, c2, c3⟩ := Recs.ans ((hr.grow g4).grow g5) hlt2
      refine ⟨a, ha, ⟨by omega, by omega⟩, _, c0, _, c1, _, c2, _, c3, fun w6 e6 => ⟨(Row.new e6).there (by simp), fun w7 e7 => ?_⟩⟩
      obtain ⟨r7, g7⟩ := loc e6 e7 rfl
      exact ⟨_, r7.cell rfl, _, r7.cell rfl, _, by omega, t + 1, by rw [wr (by omega)]; omega, hlt2, rfl, g5.trans' g7⟩
    · by_cases e : i = j
      · subst e; rw [hjq] at hq; cases hq; omega
      · exact hI i q' (by omega) hq
  · have := dF hge
    obtain rfl : j = p.qs.length := by omega
    refine ⟨_, _, _, (r.grow g2).cell rfl, fun h1 => ⟨fun h2 => ⟨true, rfl, fun _ => ⟨by have := dT h1; omega, fun q hq => ?_⟩, G2⟩, fun h2 => ⟨false, rfl, fun h => (by cases h), G2⟩⟩, fun h1 => ⟨false, rfl, fun h => (by cases h), G2⟩⟩
    obtain ⟨i, hi, e⟩ := List.mem_iff_getElem.1 hq
    exact hI i q hi (by rw [List.getElem?_eq_getElem hi, e])
theorem few_c (o : Option Addr) (c : Nat) (p : Prot) (hf : FitP p) (w : World) {A : Nat → Prop} (h : Qs w A o p.qs) :
    Calls Try.prog 23 #[.agg #[.string p.name, .int .i64 p.version, .slice o p.qs.length c]] w fun e w' => ∃ b, e = .returned (.bool b) ∧ (b = true → Little p 24) ∧ Grow w w' := by
  refine nf23 p.name p.version o p.qs.length c w _ fun w1 e1 => ?_
  have r := Row.new e1
  have g : Grow w w1 := only_alloc e1
  refine ⟨_, r.cell rfl, _, r.cell rfl, _, _, _, r.cell rfl, (small_c o c p hf w1 (h.grow g)).mono ?_⟩
  rintro _ w2 ⟨b, rfl, hb, g2⟩
  have G := g.trans' g2
  refine ⟨b, rfl, fun h1 => ⟨_, _, _, (r.grow g2).cell rfl, fun h2 => ⟨true, rfl, fun _ => ⟨by have := dT h2; omega, (hb h1).2⟩, G⟩, fun h2 => ⟨false, rfl, fun h => (by cases h), G⟩⟩, fun h1 => ⟨false, rfl, fun h => (by cases h), G⟩⟩
end Go.Proofs.Ytbaacpfjecbbgaa
