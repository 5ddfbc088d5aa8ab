/- The laws New, Replay and Undo. -/
import Derived.Test.YtbaacpfjecbbgaaHr
namespace Go.Proofs.Ytbaacpfjecbbgaa
open Go Go.Nf

theorem tail {w0 w : World} (g : Grow w0 w) : Calls Try.prog 24 #[] w fun e w' => ∃ b : Bool, e = .returned (.bool b) ∧ (b = true → Ending.returned (.bool true) = .returned (.bool true) ∧ Grow w0 w') ∧ (b = false → Ending.returned (.bool false) = .returned (.bool true) ∧ Grow w0 w') := by
  refine (awake_c w).mono ?_
  rintro _ w' ⟨rfl, g'⟩
  exact ⟨_, rfl, fun _ => ⟨rfl, g.trans' g'⟩, fun h => (by cases h)⟩
theorem wrap_small {x : Int} (h : -9223372036854775808 ≤ x ∧ x ≤ 9223372036854775807) : IntKind.wrap .i64 x = x := wr h
set_option maxHeartbeats 2000000 in
theorem law4_c (o : Option Addr) (c : Nat) (p : Prot) (hf : FitP p) (w : World) {A : Nat → Prop} (h : Qs w A o p.qs) :
    Calls Try.prog 4 #[.agg #[.string p.name, .int .i64 p.version, .slice o p.qs.length c]] w fun e w' => e = .returned (.bool true) ∧ Grow w w' := by
  have hfl := hf.qs
  refine nf4 p.name p.version o p.qs.length c w _ fun w1 e1 => ?_
  have r := Row.new e1
  have g : Grow w w1 := only_alloc e1
  refine ⟨_, r.cell rfl, _, r.cell rfl, _, _, _, r.cell rfl, (few_c o c p hf w1 (h.grow g)).mono ?_⟩
  rintro _ w2 ⟨b, rfl, hb, g2⟩
  have G2 := g.trans' g2
  have r2 := r.grow g2
  refine ⟨_, rfl, fun hbt => ?_, fun _ => tail G2⟩
  refine ⟨_, r2.cell rfl, _, r2.cell rfl, _, _, _, r2.cell rfl, (new_c o c p hfl w2 (h.grow G2)).mono ?_⟩
  rintro _ w3 ⟨x, y, hE, g3, hr⟩
  have G3 := G2.trans' g3
  have r3 := r2.grow g3
  rcases hr with ⟨hy, rfl⟩ | ⟨rfl, t, rfl, hI⟩
  · refine ⟨_, _, rfl, _, r3.cell rfl, _, r3.cell rfl, _, _, _, r3.cell rfl, (ends_c o c p hf w3 (h.grow G3)).mono ?_⟩
    rintro _ w4 ⟨x', y', rfl, hE', g4⟩
    obtain ⟨rfl, rfl⟩ := ending_one hE hE'
    exact ⟨_, _, rfl, fun _ => ⟨fun _ => ⟨fun _ => tail (G3.trans' g4), fun h => absurd rfl (dF h)⟩, fun h => (by cases h)⟩, fun h => absurd (nF h) hy⟩
  · refine ⟨_, _, rfl, _, r3.cell rfl, _, r3.cell rfl, _, _, _, r3.cell rfl, (ends_c o c p hf w3 (h.grow G3)).mono ?_⟩
    rintro _ w4 ⟨x', y', rfl, hE', g4⟩
    obtain ⟨rfl, rfl⟩ := ending_one hE hE'
    have hv := ending_valid hE
    have G4 := G3.trans' g4
    have r4 := r3.grow g4
    refine ⟨_, _, rfl, fun h => absurd rfl (nT h), fun _ => ⟨fun _ => ⟨fun _ => ⟨_, r4.cell rfl, _, r4.cell rfl, _, _, _, r4.cell rfl, (same_c (said := []) hf hv .nil (by simp) (hI.grow g4) (h.grow G4) (A' := fun _ => True) (fun j v hj => by simp at hj)).mono ?_⟩, fun h => absurd rfl (dF h)⟩, fun h => (by cases h)⟩⟩
    rintro _ w5 ⟨rfl, g5⟩
    exact ⟨_, rfl, fun _ => tail (G4.trans' g5), fun h => (by cases h)⟩
set_option maxHeartbeats 2000000 in
theorem law6_c (o so : Option Addr) (c sc : Nat) (p : Prot) (said : List Int) (hf : FitP p) (hsc : said.length ≤ sc) (hsl : said.length ≤ 9223372036854775807) (w : World) {A A' : Nat → Prop} (h : Qs w A o p.qs) (hs' : Nums w A' so said) :
    Calls Try.prog 6 #[.agg #[.string p.name, .int .i64 p.version, .slice o p.qs.length c], .slice so said.length sc] w fun e w' => e = .returned (.bool true) ∧ Grow w w' := by
  have hfl := hf.qs
  refine nf6 p.name p.version o p.qs.length c so said.length sc w _ fun w1 e1 => ?_
  have r := Row.new e1
  have g : Grow w w1 := only_alloc e1
  refine ⟨_, r.cell rfl, _, r.cell rfl, _, _, _, r.cell rfl, (few_c o c p hf w1 (h.grow g)).mono ?_⟩
  rintro _ w2 ⟨b, rfl, hb, g2⟩
  have G2 := g.trans' g2
  have r2 := r.grow g2
  refine ⟨_, rfl, fun hbt => ⟨fun _ => tail G2, fun h60 w3 e3 => ?_⟩, fun _ => tail G2⟩
  have h60 : said.length ≤ 60 := by have := dF h60; omega
  have g3 : Grow w2 w3 := only_drew e3
  have r3 := r2.grow g3
  have G3 := G2.trans' g3
  refine ⟨_, r3.cell rfl, _, r3.cell rfl, _, _, _, r3.cell rfl, fun w4 e4 => ?_⟩
  have g4 : Grow w3 w4 := only_alloc e4
  have r4n : Row w4 (hs w3) 3 [] := Row.new e4
  have o4 : Own w4 (hs w3) 3 1 (some ⟨hs w3, 0, none⟩) 0 0 (intsV []) := r4n.own (n := 0) (Nat.le_refl _) rfl (by simp [maxLen])
  refine ⟨kept_only g4 r3.lt (fun h => h), append_nums elem48 o4 (((hs'.grow G3)).grow g4) (by simp [maxLen]; omega) (by omega) g4.size fun o' c' w5 p1 p2 => ⟨_, _, _, rfl, ?_⟩⟩
  have g5 : Grow w3 w5 := g4.trans p2 fun b hb hh => by
    obtain ⟨a, ha, rfl⟩ := hh
    cases ha
    exact absurd hb (by simp)
  have G5 := G3.trans' g5
  have r5 := r3.grow g5
  rw [Nat.zero_add] at p1 ⊢
  rw [List.nil_append] at p1
  refine ⟨kept_only g5 r3.lt (fun h => h), (replay_c o o' c c' p said hfl (by omega) w5 (h.grow G5) p1.nums).mono ?_⟩
  rintro _ w6 ⟨y, hS, g6, hr⟩
  have G6 := G5.trans' g6
  have r6 := r5.grow g6
  rcases hr with ⟨hy, rfl⟩ | ⟨rfl, t, path, cur, last, rfl, hT, hI⟩
  · refine ⟨_, _, rfl, _, r6.cell rfl, _, r6.cell rfl, _, _, _, r6.cell rfl, (refReplay_c o so c sc p said hf (by omega) hsc w6 (h.grow G6) (hs'.grow G6)).mono ?_⟩
    rintro _ w7 ⟨y', rfl, hS', g7⟩
    obtain rfl := repSpec_one hS hS'
    exact ⟨_, rfl, fun _ => ⟨fun _ => ⟨fun _ => tail (G6.trans' g7), fun h => absurd rfl (dF h)⟩, fun h => (by cases h)⟩, fun h => absurd (nF h) hy⟩
  · refine ⟨_, _, rfl, _, r6.cell rfl, _, r6.cell rfl, _, _, _, r6.cell rfl, (refReplay_c o so c sc p said hf (by omega) hsc w6 (h.grow G6) (hs'.grow G6)).mono ?_⟩
    rintro _ w7 ⟨y', rfl, hS', g7⟩
    obtain rfl := repSpec_one hS hS'
    have hv : validB p = true := by
      rcases hS with ⟨x, hE, hy⟩ | ⟨⟨x, hE⟩, -⟩ | ⟨⟨x, hE⟩, -⟩
      · exact absurd rfl hy
      · exact ending_valid hE
      · exact ending_valid hE
    have G7 := G6.trans' g7
    have r7 := r6.grow g7
    refine ⟨_, rfl, fun h => absurd rfl (nT h), fun _ => ⟨fun _ => ⟨fun _ => ⟨_, r7.cell rfl, _, r7.cell rfl, _, _, _, r7.cell rfl, (same_c hf hv hT (by omega) (hI.grow g7) (h.grow G7) (hs'.grow G7)).mono ?_⟩, fun h => absurd rfl (dF h)⟩, fun h => (by cases h)⟩⟩
    rintro _ w8 ⟨rfl, g8⟩
    exact ⟨_, rfl, fun _ => tail (G7.trans' g8), fun h => (by cases h)⟩
set_option maxHeartbeats 2000000 in
theorem law8_c (o so : Option Addr) (c sc : Nat) (p : Prot) (said : List Int) (back : Int) (hf : FitP p) (hsc : said.length ≤ sc) (hsl : said.length ≤ 9223372036854775807) (hbk : 0 ≤ back ∧ back ≤ 255) (w : World) {A A' : Nat → Prop} (h : Qs w A o p.qs) (hs' : Nums w A' so said) :
    Calls Try.prog 8 #[.agg #[.string p.name, .int .i64 p.version, .slice o p.qs.length c], .slice so said.length sc, .int .u8 back] w fun e w' => e = .returned (.bool true) ∧ Grow w w' := by
  have hfl := hf.qs
  refine nf8 p.name p.version o p.qs.length c so said.length sc back w _ fun w1 e1 => ?_
  have r := Row.new e1
  have g : Grow w w1 := only_alloc e1
  refine ⟨_, r.cell rfl, _, r.cell rfl, _, _, _, r.cell rfl, (few_c o c p hf w1 (h.grow g)).mono ?_⟩
  rintro _ w2 ⟨b, rfl, hb, g2⟩
  have G2 := g.trans' g2
  have r2 := r.grow g2
  refine ⟨_, rfl, fun hbt => ⟨fun _ => tail G2, fun h60 => ?_⟩, fun _ => tail G2⟩
  have h60 : said.length ≤ 60 := by have := dF h60; omega
  refine ⟨_, r2.cell rfl, _, r2.cell rfl, _, _, _, r2.cell rfl, (replay_c o so c sc p said hfl (by omega) w2 (h.grow G2) (hs'.grow G2)).mono ?_⟩
  rintro _ w3 ⟨y, hS, g3, hr⟩
  have G3 := G2.trans' g3
  have r3 := r2.grow g3
  rcases hr with ⟨hy, rfl⟩ | ⟨rfl, t, path, cur, last, rfl, hT, hI⟩
  · exact ⟨_, _, rfl, fun _ => tail G3, fun h => absurd (nF h) hy⟩
  · have hv : validB p = true := by
      rcases hS with ⟨x, hE, hy⟩ | ⟨⟨x, hE⟩, -⟩ | ⟨⟨x, hE⟩, -⟩
      · exact absurd rfl hy
      · exact ending_valid hE
      · exact ending_valid hE
    obtain ⟨bk, rfl⟩ : ∃ bk : Nat, back = (bk : Int) := ⟨back.toNat, by omega⟩
    have e1 : IntKind.wrap .i64 ((said.length : Int) + 1) = ((said.length + 1 : Nat) : Int) := by rw [wr (by omega)]; omega
    have e2 : IntKind.wrap .i64 (bk : Int) = (bk : Int) := wr (by omega)
    obtain ⟨m, hm⟩ : ∃ m, m = bk % (said.length + 1) := ⟨_, rfl⟩
    have hml : m ≤ said.length := by have := Nat.mod_lt bk (show 0 < said.length + 1 by omega); omega
    have e3 : Int.tmod (IntKind.wrap .i64 (bk : Int)) (IntKind.wrap .i64 ((said.length : Int) + 1)) = (m : Int) := by rw [e1, e2, tmod_cast, hm]
    refine ⟨_, _, rfl, fun h => absurd rfl (nT h), fun _ => ⟨by rw [e1]; omega, ?_⟩⟩
    rw [e3]
    refine ⟨fun k x w' => ∃ (j : Nat) (path : List Int) (cur : Int) (last : Ans), x = (j : Int) ∧ j ≤ m ∧ k = m - j ∧ Talk p.qs (said.take (said.length - j)) path cur last ∧ Iv w' (hs w2) t p (said.take (said.length - j)) path cur ∧ Grow w2 w', ⟨_, 0, path, cur, last, rfl, Nat.zero_le _, rfl, by simpa using hT, by simpa using hI, g3⟩, ?_⟩
    rintro k _ w4 x ⟨j, path, cur, last, rfl, hj, rfl, hT, hI, g4⟩
    refine ⟨fun hlt => ?_, fun hge w5 e5 => ?_⟩
    · have hlt : j < m := by have := dT hlt; omega
      refine (undo_m hI.m hT (by simp; omega)).mono ?_
      rintro _ w5 ⟨g5, ⟨hn, -, -⟩ | ⟨-, rfl, path', cur', last', hT', hI'⟩⟩
      · have : (said.take (said.length - j)).length = 0 := by rw [hn]; rfl
        simp at this
        omega
      · have et : (said.take (said.length - j)).take ((said.take (said.length - j)).length - 1) = said.take (said.length - (j + 1)) := by
          rw [List.take_take]; congr 1; simp; omega
        rw [et] at hT' hI'
        refine ⟨_, rfl, fun h => absurd rfl (nT h), fun _ => ⟨_, by omega, j + 1, path', cur', last', by rw [wr (by omega)]; omega, hlt, rfl, hT', hI'.iv, g4.trans g5 fun b hb hm => by omega⟩⟩
    · have := dF hge
      obtain rfl : j = m := by omega
      have g5 : Grow w4 w5 := only_drew e5
      have G5 := (G2.trans' g4).trans' g5
      have r5 := (r2.grow g4).grow g5
      have e4 : IntKind.wrap .i64 ((said.length : Int) - (j : Int)) = ((said.length - j : Nat) : Int) := by rw [wr (by omega)]; omega
      have eo : (if sc = 0 then so else Option.map (fun x => x) so) = so := by split <;> cases so <;> rfl
      have el : ((said.length - j : Nat) : Int).toNat - 0 = (said.take (said.length - j)).length := by simp
      rw [e4, eo, el]
      refine ⟨_, r5.cell rfl, _, r5.cell rfl, _, _, _, r5.cell rfl, ⟨by omega, by omega⟩, (same_c hf hv hT (by simp; omega) (hI.grow g5) (h.grow G5) ((hs'.grow G5).take _)).mono ?_⟩
      rintro _ w6 ⟨rfl, g6⟩
      exact ⟨_, rfl, fun _ => tail (G5.trans' g6), fun h => (by cases h)⟩
end Go.Proofs.Ytbaacpfjecbbgaa
