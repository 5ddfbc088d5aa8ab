/- The law Matches. -/
import Derived.Test.YtbaacpfjecbbgaaLa
namespace Go.Proofs.Ytbaacpfjecbbgaa
open Go Go.Nf

def encT (x : Bool × Int) : List Value := [.bool x.1, .int .i64 x.2]
/-- [..s, x] built anew, in whatever order the two slices come up -/
theorem fresh_then {w w1 w2 : World} {so : Option Addr} {sc : Nat} {said : List Int} {x : Int} {A : Nat → Prop} {K : Value → World → Prop} {b1 b2 : Nat}
    (r1 : Row w2 b1 3 []) (r2 : Row w2 b2 3 [.int .i64 x]) (hb1 : hs w ≤ b1) (g : Grow w w2) (hne : b1 ≠ b2) (hn : Nums w A so said) (hl : said.length ≤ 1000) (h1 : w1 = w2)
    (hK : ∀ o' c' w', Own w' (hs w) 3 1 o' (said.length + 1) c' (intsV (said ++ [x])) → Grow w w' → K (.slice o' (said.length + 1) c') w') :
    RunOk Try.prog (Hold (Builtin.append_ #[48, 48] 48 #[.slice (some ⟨b1, 0, none⟩) 0 0, .slice so said.length sc])) w1 (fun v w3 => ∃ o3 n3 c3, v = .slice o3 n3 c3 ∧ RunOk Try.prog (Hold (Builtin.append_ #[48, 48] 48 #[.slice o3 n3 c3, .slice (some ⟨b2, 0, none⟩) 1 1])) w3 K) := by
  subst h1
  have o1 : Own w1 (hs w) 3 1 (some ⟨b1, 0, none⟩) 0 0 (intsV []) := r1.own (n := 0) hb1 rfl (by simp [maxLen])
  have hsz := g.size
  refine append_nums elem48 o1 (hn.grow g) (by simp [maxLen]; omega) (by omega) hsz fun o3 c3 w3 p1 p2 => ⟨_, _, _, rfl, ?_⟩
  rw [Nat.zero_add, List.nil_append] at p1
  rw [Nat.zero_add]
  have g3 : Grow w w3 := g.trans p2 fun b hb hh => by
    obtain ⟨a, ha, rfl⟩ := hh
    cases ha
    exact absurd hb (by simp; omega)
  have r3 : Row w3 b2 3 [.int .i64 x] := r2.keep p2 fun hh => by
    obtain ⟨a, ha, he⟩ := hh
    cases ha
    exact hne he
  have hs3 := g3.size
  refine run_append_row elem48 p1 r3 rfl (by simp [Value.oneCell']) (by simp [maxLen]; omega) (by omega) hs3 fun o4 c4 w4 q1 q2 _ => hK o4 c4 w4 (by simpa [intsV] using q1) (g3.trans q2 fun b hb hh => ?_)
  have := (p1.base b hh).1
  omega
set_option maxHeartbeats 4000000 in
theorem law5_c (o lo : Option Addr) (c lc : Nat) (p : Prot) (l : List (Bool × Int)) (hf : FitP p) (hsl : l.length ≤ 9223372036854775807) (w : World) {A A' : Nat → Prop} (h : Qs w A o p.qs) (hl : Recs w A' lo 2 (l.map encT)) :
    Calls Try.prog 5 #[.agg #[.string p.name, .int .i64 p.version, .slice o p.qs.length c], .slice lo l.length lc] w fun e w' => e = .returned (.bool true) ∧ Grow w w' := by
  have hfl := hf.qs
  refine nf5 p.name p.version o p.qs.length c lo l.length lc w _ fun w1 e1 => ?_
  have r := Row.new e1
  have g : Grow w w1 := only_alloc e1
  refine ⟨_, r.cell rfl, _, r.cell rfl, _, _, _, r.cell rfl, (few_c o c p hf w1 (h.grow g)).mono ?_⟩
  rintro _ w2 ⟨b, rfl, hb, g2⟩
  have G2 := g.trans' g2
  have r2 := r.grow g2
  refine ⟨_, rfl, fun hbt => ⟨fun _ => tail G2, fun h60 => ?_⟩, fun _ => tail G2⟩
  have h60 : l.length ≤ 60 := by have := dF h60; omega
  refine ⟨_, r2.cell rfl, _, r2.cell rfl, _, _, _, r2.cell rfl, (ends_c o c p hf w2 (h.grow G2)).mono ?_⟩
  rintro _ w3 ⟨x, y, rfl, hE, g3⟩
  have G3 := G2.trans' g3
  have r3 := r2.grow g3
  refine ⟨_, _, rfl, fun _ => tail G3, fun hy => ?_⟩
  obtain rfl : y = 0 := nF hy
  have hv := ending_valid hE
  refine ⟨_, r3.cell rfl, _, r3.cell rfl, _, _, _, r3.cell rfl, (new_c o c p hfl w3 (h.grow G3)).mono ?_⟩
  rintro _ w4 ⟨x', y', hE', g4, ⟨hy', rfl⟩ | ⟨rfl, t, rfl, hI⟩⟩
  · exact absurd (ending_one hE' hE).2 hy'
  have G4 := G3.trans' g4
  have r4 := r3.grow g4
  refine ⟨_, _, rfl, fun h => absurd rfl (nT h), fun _ => ⟨fun h => (by cases h), fun _ => ?_⟩⟩
  refine ⟨fun k so n c x w' => ∃ (j : Nat) (said path : List Int) (cur : Int) (last : Ans) (M : Nat → Prop), x = (j : Int) ∧ j ≤ l.length ∧ k = l.length - j ∧ n = said.length ∧ said.length ≤ j ∧ said.length ≤ c ∧ Talk p.qs said path cur last ∧
    Ivm w' (hs w3) t p said path cur M ∧ (∀ b, M b → hs w3 ≤ b ∧ b < hs w') ∧ Nums w' (fun b => b < hs w' ∧ ¬ M b) so said ∧ Grow w3 w',
    ⟨_, 0, [], [], 0, zeroA, _, rfl, Nat.zero_le _, rfl, rfl, Nat.zero_le _, Nat.zero_le _, .nil, hI.m, fun b hb => hb, fun j v hj => by simp at hj, g4⟩, ?_⟩
  rintro k _ w5 so n sc x'' ⟨j, said, path, cur, last, M, rfl, hj, rfl, rfl, hsj, hsc, hT, hI, hM, hN, g5⟩
  have G5 := G3.trans' g5
  have r5 := r3.grow g5
  refine ⟨fun hlt => ?_, fun hge => tail G5⟩
  have hlt : j < l.length := by have := dT hlt; omega
  obtain ⟨a, ha, -, hc⟩ := (hl.grow G5).get (i := j) (by simpa using hlt)
  have hc0 := hc 0 (.bool l[j].1) (by simp [encT])
  have hc1 := hc 1 (.int .i64 l[j].2) (by simp [encT])
  rw [add_zero] at hc0
  refine ⟨a, ha, ⟨by omega, by omega⟩, _, hc0, _, hc1, fun w6 e6 => ⟨(Row.new e6).there (by simp), fun w7 e7 K hK => ?_⟩⟩
  obtain ⟨r7, g7⟩ := loc e6 e7 rfl
  have s7 := g7.size
  have key : ∀ w8 so' sc' said' path' cur' last' (M' : Nat → Prop), said'.length ≤ j + 1 → said'.length ≤ sc' → Talk p.qs said' path' cur' last' → Ivm w8 (hs w3) t p said' path' cur' M' → (∀ b, M' b → hs w3 ≤ b ∧ b < hs w8) →
      Nums w8 (fun b => b < hs w8 ∧ ¬ M' b) so' said' → Grow w3 w8 → K so' said'.length sc' w8 := by
    intro w8 so' sc' said' path' cur' last' M' k1 k1' k2 k3 k4 k5 k6
    have G8 := G3.trans' k6
    have r8 := r3.grow k6
    refine hK _ _ _ _ fun _ => ⟨_, r8.cell rfl, _, r8.cell rfl, _, _, _, r8.cell rfl, (same_c hf hv k2 (by omega) k3.iv (h.grow G8) k5).mono ?_⟩
    rintro _ w9 ⟨rfl, g9⟩
    have s9 := g9.size
    exact ⟨_, rfl, fun _ => ⟨_, by omega, j + 1, said', path', cur', last', M', by rw [wr (by omega)]; omega, hlt, rfl, rfl, k1, k1', k2, k3.grow g9, fun b hb => by have := k4 b hb; omega, (k5.grow g9).mono fun b hb => ⟨by omega, hb.2⟩, k6.trans' g9⟩, fun h => (by cases h)⟩
  have eo : (if sc = 0 then so else Option.map (fun x => x) so) = so := by split <;> cases so <;> rfl
  refine ⟨_, r7.cell rfl, fun hback => ?_, fun hback => ?_⟩
  · -- undo
    refine (undo_m (hI.grow g7) hT (by omega)).mono ?_
    have gN : ∀ {w8}, Only M w7 w8 → Nums w8 (fun b => b < hs w8 ∧ ¬ M b) so said := fun {w8} g8 => ((hN.grow g7).keep g8 fun b hb => hb.2).mono fun b hb => ⟨by have := g8.size; omega, hb.2⟩
    have gG : ∀ {w8}, Only M w7 w8 → Grow w3 w8 := fun {w8} g8 => (g5.trans' g7).trans g8 fun b hb hm => by have := hM b hm; omega
    rintro _ w8 ⟨g8, ⟨hn, rfl, hI8⟩ | ⟨hn, rfl, path8, cur8, last8, hT8, hI8⟩⟩
    · subst hn
      have ew : IntKind.wrap .i64 ((([] : List Int).length : Nat) - 1 : Int) = -1 := wr (by simp)
      have last' : K so ([] : List Int).length sc w8 := key w8 so sc [] path cur last M (Nat.zero_le _) (Nat.zero_le _) hT hI8 (fun b hb => by have := hM b hb; have := g8.size; omega) (gN g8) (gG g8)
      rw [ew]
      refine ⟨_, rfl, fun _ => ⟨fun h8 => absurd rfl (nT h8), fun _ => ⟨fun hp => absurd (dT hp) (by simp), fun _ => ⟨⟨by decide, by simp⟩, ?_⟩⟩⟩, fun h0 => absurd rfl (dF h0)⟩
      rw [eo]
      exact last'
    · have hpos : 0 < said.length := List.length_pos_iff.2 hn
      have ew : IntKind.wrap .i64 ((said.length : Nat) - 1 : Int) = ((said.length - 1 : Nat) : Int) := by rw [wr (by omega)]; omega
      have et : (said.take (said.length - 1)).length = said.length - 1 := by simp
      have last' : K so (said.take (said.length - 1)).length sc w8 := key w8 so sc _ path8 cur8 last8 M (by omega) (by omega) hT8 hI8 (fun b hb => by have := hM b hb; have := g8.size; omega) ((gN g8).take _) (gG g8)
      rw [et] at last'
      rw [ew, if_neg (show ¬ ((said.length - 1 : Nat) : Int) < 0 by omega), eo, toNat_cast]
      refine ⟨_, rfl, fun h0 => absurd (dT h0) (by omega), fun _ => ⟨fun _ => ⟨fun h8 => absurd rfl (nT h8), fun _ => ⟨⟨by omega, by omega⟩, last'⟩⟩, fun hp => absurd (show (said.length : Int) > 0 by omega) (dF hp)⟩⟩
  · -- answer
    have r7' := r5.grow g7
    refine ⟨_, r7'.cell rfl, _, r7'.cell rfl, _, _, _, r7'.cell rfl, _, r7.cell rfl, (say_c o so c sc p hv hT (by omega) l[j].2 w7 (h.grow (G5.trans' g7)) (hN.grow g7)).mono ?_⟩
    rintro _ w8 ⟨rfl, g8⟩
    have s8 := g8.size
    have r8 := r7.grow g8
    refine ⟨_, rfl, _, r8.cell rfl, (answer_m hv ((hI.grow g7).grow g8) hT (by omega) l[j].2).mono ?_⟩
    rintro _ w9 ⟨rfl, g9, hr⟩
    have s9 := g9.size
    have G9 : Grow w3 w9 := ((g5.trans' g7).trans' g8).trans g9 fun b hb hm => by have := hM b hm; omega
    have hN9 : Nums w9 (fun b => b < hs w5 ∧ ¬ M b) so said := (((hN.grow g7).grow g8).keep g9 fun b hb => hb.2)
    refine ⟨_, rfl, fun h => absurd rfl (nT h), fun _ => ⟨fun h0 w10 e10 => ?_, fun h0 => ?_⟩⟩
    · have h0 := dT h0
      rcases hr with ⟨hr, -⟩ | ⟨-, x', hT9, hI9⟩
      · exact absurd h0 hr
      have g10 : Grow w9 w10 := only_drew e10
      have r9 := r8.keep g9 fun hm => by have := hM _ hm; omega
      have r10 := r9.grow g10
      have hN10 := hN9.grow g10
      have el : said.length + 1 = (said ++ [l[j].2]).length := by simp
      have fin : ∀ o' c' w', Own w' (hs w10) 3 1 o' (said.length + 1) c' (intsV (said ++ [l[j].2])) → Grow w10 w' → K o' (said.length + 1) c' w' := by
        intro o' c' w' hown gw
        have sw := gw.size
        have s10 := g10.size
        have hle := hown.le
        have nums := hown.nums
        rw [el]
        refine key w' o' c' _ _ _ x' _ (by simp; omega) (by simp; omega) hT9 ((hI9.grow g10).grow gw) (fun b hb => ?_) (nums.mono fun b hb => ⟨hb.2, fun hm => ?_⟩) ((G9.trans' g10).trans' gw)
        · rcases hb with hb | hb
          · have := hM b hb; omega
          · have := G9.size; have := g5.size; omega
        · rcases hm with hm | hm
          · have := hM b hm; omega
          · omega
      refine ⟨_, r10.cell rfl, fun w11 e11 => ⟨kept_only (only_alloc e11 : Grow w10 w11) r10.lt (fun h => h), ?_, fun w12 e12 => ?_⟩, fun w11 e11 w12 e12 => ?_⟩
      · have rn : Row w11 (hs w10) 3 [] := Row.new e11
        have g11 : Grow w10 w11 := only_alloc e11
        have o1 : Own w11 (hs w10) 3 1 (some ⟨hs w10, 0, none⟩) 0 0 (intsV []) := rn.own (n := 0) (Nat.le_refl _) rfl (by simp [maxLen])
        refine append_nums elem48 o1 (hN10.grow g11) (by simp [maxLen]; omega) (by omega) g11.size fun o3 c3 w13 p1 p2 => ⟨_, _, _, rfl, ?_⟩
        have g13 : Grow w10 w13 := g11.trans p2 fun b hb hh => by
          obtain ⟨a, ha, rfl⟩ := hh
          cases ha
          exact absurd hb (by simp)
        rw [Nat.zero_add, List.nil_append] at p1
        rw [Nat.zero_add]
        refine ⟨kept_only g13 r10.lt (fun h => h), fun w14 e14 => push_int p1 e14 (by omega) g13.size fun o' c' w' q1 q2 => ⟨_, _, _, rfl, fin _ _ _ q1 (g13.trans q2 fun b hb hh => ?_)⟩⟩
        have := (p1.base b hh).1
        omega
      · have g11 : Grow w10 w11 := only_alloc e11
        have g12 : Grow w11 w12 := only_alloc e12
        have rn : Row w12 (hs w10) 3 [] := (Row.new e11 : Row w11 (hs w10) 3 []).grow g12
        have rx : Row w12 (hs w11) 3 [.int .i64 l[j].2] := Row.new e12
        have s11 : hs w10 < hs w11 := (Row.new e11 : Row w11 (hs w10) 3 []).lt
        refine (fresh_then rn rx (Nat.le_refl _) (g11.trans' g12) (by omega) hN10 (by omega) rfl fun o' c' w' q1 q2 => ?_ : RunOk _ _ _ _)
        exact ⟨_, _, _, rfl, fin _ _ _ q1 q2⟩
      · have g11 : Grow w10 w11 := only_alloc e11
        have g12 : Grow w11 w12 := only_alloc e12
        have rx : Row w12 (hs w10) 3 [.int .i64 l[j].2] := (Row.new e11 : Row w11 (hs w10) 3 [.int .i64 l[j].2]).grow g12
        have rn : Row w12 (hs w11) 3 [] := Row.new e12
        have s11 : hs w10 < hs w11 := (Row.new e11 : Row w11 (hs w10) 3 [.int .i64 l[j].2]).lt
        refine (fresh_then rn rx (by omega) (g11.trans' g12) (by omega) hN10 (by omega) rfl fun o' c' w' q1 q2 => ?_ : RunOk _ _ _ _)
        exact ⟨_, _, _, rfl, fin _ _ _ q1 q2⟩
    · have h0 := dF h0
      rcases hr with ⟨-, hI9⟩ | ⟨hr, -⟩
      · exact key w9 so sc said path cur last M (by omega) hsc hT hI9 (fun b hb => by have := hM b hb; omega) (hN9.mono fun b hb => ⟨by omega, hb.2⟩) G9
      · exact absurd hr h0
end Go.Proofs.Ytbaacpfjecbbgaa
