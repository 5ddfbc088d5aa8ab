/- The reference's Ways, and the statement Paths. -/
import Derived.Test.YtbaacpfjecbbgaaMo
namespace Go.Proofs.Ytbaacpfjecbbgaa
open Go Go.Nf

/-- ways behind a slice that may be appended to -/
def OutB (w : World) (T : Nat) (o : Option Addr) (c : Nat) (rows : List (List Int)) : Prop :=
  ∃ cs : List (Option Addr × Nat × Nat), Own w T 48 1 o rows.length c (cs.map slV) ∧ cs.length = rows.length ∧ ∀ (i : Nat) r, rows[i]? = some r → ∃ oi ci B, cs[i]? = some (oi, r.length, ci) ∧ Own w B 3 1 oi r.length ci (intsV r)
theorem OutB.grow {w w' : World} {T : Nat} {o : Option Addr} {c : Nat} {rows : List (List Int)} (h : OutB w T o c rows) (g : Grow w w') : OutB w' T o c rows := by
  obtain ⟨cs, h1, h2, h3⟩ := h
  exact ⟨cs, h1.grow g, h2, fun i r hi => by obtain ⟨oi, ci, B, k1, k2⟩ := h3 i r hi; exact ⟨oi, ci, B, k1, k2.grow g⟩⟩
theorem OutB.mat {w : World} {T : Nat} {o : Option Addr} {c : Nat} {rows : List (List Int)} (h : OutB w T o c rows) : Mat w (fun _ => True) o rows := by
  obtain ⟨cs, h2, h3, h4⟩ := h
  intro i r hi
  obtain ⟨oi, ci, B, k1, k2⟩ := h4 i r hi
  have hil : i < rows.length := by
    rcases Nat.lt_or_ge i rows.length with h | h
    · exact h
    · rw [List.getElem?_eq_none h] at hi; cases hi
  obtain ⟨g, l, rfl, hr, ht, _⟩ := h2.head (by omega)
  refine ⟨_, oi, ci, rfl, trivial, h2.cell ?_, k2.nums.mono fun _ _ => trivial⟩
  rw [toNat_cast, Nat.mul_one, List.getElem?_map, k1]
  rfl
theorem OutB.step {W W1 : World} {T : Nat} {o : Option Addr} {c : Nat} {pre : List (List Int)} {x : List Int} {ov : Option Addr} {cv B : Nat} {K : Value → World → Prop} (hO : OutB W T o c pre) (hx : Own W B 3 1 ov x.length cv (intsV x)) (hT : T ≤ hs W) (hl : pre.length ≤ 1000000)
    (e : W1 = W.alloc (.cells #[.slice ov x.length cv] 48 (0, 0)))
    (hK : ∀ o' c' w', OutB w' T o' c' (pre ++ [x]) → Own w' B 3 1 ov x.length cv (intsV x) → Only (fun b => T ≤ b) W w' → K (.slice o' (pre.length + 1) c') w') :
    RunOk Try.prog (Hold (Builtin.append_ #[91, 91] 91 #[.slice o pre.length c, .slice (some ⟨hs W, 0, none⟩) 1 1])) W1 K := by
  obtain ⟨cs, h2, h3, h4⟩ := hO
  refine way_where h2 e hl hT fun o' c' w' p1 p2 _ => hK o' c' w' ?_ (hx.keep p2 (hx.apart h2 (by decide))) (p2.mono fun b _ hb => (h2.base b hb).1)
  refine ⟨cs ++ [(ov, x.length, cv)], by simpa [slV] using p1, by simp [h3], fun i r hi => ?_⟩
  rcases Nat.lt_or_ge i pre.length with hl | hl
  · rw [List.getElem?_append_left hl] at hi
    obtain ⟨oi, ci, B', k1, k2⟩ := h4 i r hi
    exact ⟨oi, ci, B', by rw [List.getElem?_append_left (by omega)]; exact k1, k2.keep p2 (k2.apart h2 (by decide))⟩
  · rw [List.getElem?_append_right hl] at hi
    obtain rfl : i = pre.length := by
      rcases Nat.lt_or_ge i (pre.length + 1) with h | h
      · omega
      · rw [List.getElem?_eq_none (by simp; omega)] at hi; cases hi
    rw [Nat.sub_self] at hi
    simp at hi
    subst hi
    exact ⟨ov, cv, B, by rw [List.getElem?_append_right (by omega), h3, Nat.sub_self]; rfl, hx.keep p2 (hx.apart h2 (by decide))⟩
theorem ans_pos' {p : Prot} (h : validB p = true) {s : Qst} (hs : s ∈ p.qs) : 1 ≤ s.ans.length := by
  unfold validB at h
  simp only [Bool.and_eq_true, decide_eq_true_eq] at h
  have := List.all_eq_true.1 h.1.1.1.1.1 s hs
  unfold qstB at this
  simp only [Bool.and_eq_true, decide_eq_true_eq] at this
  omega
/-- the ways: each the next of the one before -/
theorem ways_step {p : Prot} {x : Int} (hE : Ending' p x 0) : Step p [] ((waysB p 0)[0]?) ∧ (∃ v, (waysB p 0)[0]? = some v) ∧ ∀ (m : Nat) v, (waysB p 0)[m]? = some v → Step p v ((waysB p 0)[m + 1]?) := by
  have hv := ending_valid hE
  have hpos := (valid_of hv).pos
  obtain ⟨a, b, h1, h2, h3⟩ := paths_seq hv (fun s hs => ans_pos' hv hs) p.qs.length 0 (by omega) fun d hw => walk_le (valid_in hv) (ending_acyclic hE) hw (by omega)
  have hL : waysB p 0 = pathsF p.qs p.qs.length 0 := rfl
  rw [hL]
  refine ⟨.inl ⟨rfl, a, h3.head, h1⟩, ⟨a, h3.head⟩, fun m v hm => .inr ?_⟩
  rcases h3.at m v hm with ⟨z, hz, hN⟩ | ⟨hlen, rfl⟩
  · obtain ⟨ql, j, k, qj, s, t, suf, n1, n2, n3, n4, n5, n6, n7, n8, n9⟩ := hN.place
    exact ⟨ql, n1, .inl ⟨j, k, qj, s, t, suf, n2, n3, n4, n5, n6, n7, n8, by rw [hz, n9]⟩⟩
  · obtain ⟨ql, n1, n2⟩ := h2.full
    exact ⟨ql, n1, .inr ⟨n2, List.getElem?_eq_none (by omega)⟩⟩
set_option maxHeartbeats 4000000 in
theorem ways_c (o : Option Addr) (c : Nat) (p : Prot) (most : Nat) (h1000 : most ≤ 1000) (hf : FitP p) (w : World) {A : Nat → Prop} (h : Qs w A o p.qs) :
    Calls Try.prog 61 #[.agg #[.string p.name, .int .i64 p.version, .slice o p.qs.length c], .int .i64 most] w fun e w' => ∃ x y o' c', Ending' p x y ∧ e = .returned (.slice o' ((waysB p y).take most).length c') ∧ Mat w' (fun _ => True) o' ((waysB p y).take most) ∧ Grow w w' := by
  refine nf61 p.name p.version o p.qs.length c most w _ fun w1 e1 w3 e3 => ?_
  have r1 := Row.new e1
  have g1 : Grow w w1 := only_alloc e1
  have g3 : Grow w1 w3 := only_alloc e3
  have re : Row w3 (hs w1) 48 [] := Row.new e3
  have r3 := r1.grow g3
  have G3 := g1.trans' g3
  have sl1 := r1.lt
  refine ⟨_, r3.cell rfl, _, r3.cell rfl, _, _, _, r3.cell rfl, (ends_c o c p hf w3 (h.grow G3)).mono ?_⟩
  rintro _ w11 ⟨x, y, rfl, hE, g11⟩
  have G11 := G3.trans' g11
  have r11 := r3.grow g11
  have own0 : Own w11 (hs w1) 48 1 (some ⟨hs w1, 0, none⟩) 0 0 (([] : List (Option Addr × Nat × Nat)).map slV) := (re.grow g11).own (n := 0) (Nat.le_refl _) rfl (by simp [maxLen])
  refine ⟨_, _, rfl, fun hy => ?_, fun hy => ?_⟩
  · have hn : waysB p y = [] := if_neg (nT hy)
    refine ⟨x, y, some ⟨hs w1, 0, none⟩, 0, hE, ?_, ?_, G11⟩
    · rw [hn, List.take_nil]; rfl
    · rw [hn, List.take_nil]; exact fun i r hi => by simp at hi
  have hy := nF hy
  subst hy
  have hv := ending_valid hE
  have htop := (valid_of hv).top
  obtain ⟨hS0, ⟨v0, hv0⟩, hS⟩ := ways_step hE
  have hshort : ∀ (m : Nat) v, (waysB p 0)[m]? = some v → v.length ≤ 64 := fun m v hm => by
    have := paths_short _ _ _ (show v ∈ pathsF p.qs p.qs.length 0 from List.mem_of_getElem? hm)
    omega
  generalize hL : waysB p 0 = L at *
  have s11 := (g3.trans' g11).size
  refine ⟨_, r11.cell rfl, _, r11.cell rfl, _, _, _, r11.cell rfl, (next100_c o none c 0 p hv [] _ hS0 (by simp) (fun v hv => by have := hshort 0 v hv; omega) (Nat.le_refl _) w11 (h.grow G11) (A' := fun _ => True) (fun j v hj => by simp at hj)).mono ?_⟩
  rw [hv0]
  rintro _ w22 ⟨⟨o23, c25, rfl, own23⟩, g22⟩
  refine ⟨_, _, _, _, rfl, fun _ => ?_, fun hh => (by cases hh)⟩
  have sw := G11.size
  refine ⟨fun n o' n' c' ow nw cw b w' => ∃ m : Nat, m ≤ most ∧ m ≤ L.length ∧ n = L.length - m ∧ n' = m ∧ OutB w' (hs w1) o' c' (L.take m) ∧ ((b = true ∧ ∃ v B, L[m]? = some v ∧ nw = v.length ∧ Own w' B 3 1 ow v.length cw (intsV v)) ∨ (b = false ∧ m = L.length)) ∧ Only (fun b => hs w1 ≤ b) w11 w',
    ⟨_, 0, Nat.zero_le _, Nat.zero_le _, rfl, rfl, ⟨[], own0.grow g22, rfl, fun i r hi => by simp at hi⟩, .inl ⟨rfl, v0, _, hv0, rfl, own23⟩, Grow.only g22⟩, ?_⟩
  rintro n _ w32 o33 m c35 o36 n37 c38 b ⟨m0, hm, hmL, rfl, rfl, hO, hb, g32⟩
  have G32 : Grow w w32 := G11.trans g32 fun b hb hh => by omega
  have s32 := g32.size
  have r32 : Row w32 (hs w) 24 [.string p.name, .int .i64 p.version, .slice o p.qs.length c] := r11.keep g32 (by omega)
  have htl : (L.take m).length = m := by rw [List.length_take]; omega
  have done : (L.take m = L.take most) → ∃ x y o' c', Ending' p x y ∧ Ending.returned (.slice o33 m c35) = .returned (.slice o' ((waysB p y).take most).length c') ∧ Mat w32 (fun _ => True) o' ((waysB p y).take most) ∧ Grow w w32 := fun he =>
    ⟨x, 0, o33, c35, hE, by rw [hL, ← he, htl], by rw [hL, ← he]; exact hO.mat, G32⟩
  rcases hb with ⟨rfl, v, B, hvm, rfl, ownv⟩ | ⟨rfl, hmlen⟩
  · refine ⟨fun _ => ⟨fun hlt w43 e43 => ?_, fun hge => done ?_⟩, fun hh => (by cases hh)⟩
    · have hlt : m < most := by have := dT hlt; omega
      have hmlt : m < L.length := by
        rcases Nat.lt_or_ge m L.length with h | h
        · exact h
        · rw [List.getElem?_eq_none h] at hvm; cases hvm
      have hvl := hshort m v hvm
      have ht1 : L.take m ++ [v] = L.take (m + 1) := by
        have e2 : L.take (m + 1) = L.take m ++ (L[m]?).toList := List.take_add_one
        rw [e2, hvm]; rfl
      have hst := hO.step (K := fun v' w46 => ∃ o47 n48 n49, v' = .slice o47 n48 n49 ∧ n48 = m + 1 ∧ OutB w46 (hs w1) o47 n49 (L.take (m + 1)) ∧ Own w46 B 3 1 o36 v.length c38 (intsV v) ∧ Only (fun b => hs w1 ≤ b) w32 w46) ownv (by omega) (by omega) e43 fun o' c' w' q1 q2 q3 => ⟨_, _, _, rfl, by rw [htl], by rw [← ht1]; exact q1, q2, q3⟩
      rw [htl] at hst
      obtain ⟨v', w46, hrun, o47, n48, c49, rfl, rfl, hO46, own46, g46⟩ := hst
      refine ⟨_, w46, hrun, _, _, _, rfl, ?_⟩
      have g1146 := g32.trans' g46
      have G46 : Grow w w46 := G11.trans g1146 fun b hb hh => by omega
      have r46 : Row w46 (hs w) 24 [.string p.name, .int .i64 p.version, .slice o p.qs.length c] := r11.keep g1146 (by omega)
      refine ⟨_, r46.cell rfl, _, r46.cell rfl, _, _, _, r46.cell rfl, (next100_c o o36 c c38 p hv v _ (hS m v hvm) (by omega) (fun v' hv' => by have := hshort _ v' hv'; omega) own46.le w46 (h.grow G46) own46.nums).mono ?_⟩
      rintro e w56 ⟨hN, g56⟩
      have g56' : Only (fun b => hs w1 ≤ b) w11 w56 := g1146.grow g56
      cases hz : L[m + 1]? with
      | some z =>
        rw [hz] at hN
        obtain ⟨o57, c59, rfl, own57⟩ := hN
        exact ⟨_, _, _, _, rfl, fun _ => ⟨L.length - (m + 1), by omega, m + 1, by omega, by omega, rfl, rfl, hO46.grow g56, .inl ⟨rfl, z, _, hz, rfl, own57⟩, g56'⟩, fun hh => (by cases hh)⟩
      | none =>
        rw [hz] at hN
        have hN : e = .returned (.tuple #[.slice none 0 0, .bool false]) := hN
        subst hN
        have hml : L.length ≤ m + 1 := List.getElem?_eq_none_iff.1 hz
        exact ⟨_, _, _, _, rfl, fun hh => (by cases hh), fun _ => ⟨L.length - (m + 1), by omega, m + 1, by omega, by omega, rfl, rfl, hO46.grow g56, .inr ⟨rfl, by omega⟩, g56'⟩⟩
    · have := dF hge
      have : m = most := by omega
      rw [this]
  · refine ⟨fun hh => (by cases hh), fun _ => done ?_⟩
    rw [List.take_of_length_le (by omega), List.take_of_length_le (by omega)]
theorem law16_c (o : Option Addr) (c : Nat) (p : Prot) (u : Int) (hu : 0 ≤ u ∧ u ≤ 255) (hf : FitP p) (w : World) {A : Nat → Prop} (h : Qs w A o p.qs) :
    Calls Try.prog 16 #[.agg #[.string p.name, .int .i64 p.version, .slice o p.qs.length c], .int .u8 u] w fun e w' => e = .returned (.bool true) ∧ Grow w w' := by
  have hfl := hf.qs
  refine nf16 p.name p.version o p.qs.length c u w _ fun w1 e1 => (awake13_c w1).mono ?_
  have r := Row.new e1
  have g : Grow w w1 := only_alloc e1
  rintro _ w4 ⟨rfl, g4⟩
  have r4 := r.grow g4
  have h4 := (h.grow g).grow g4
  refine ⟨_, rfl, fun _ => ⟨_, r4.cell rfl, _, r4.cell rfl, _, _, _, r4.cell rfl, (few_c o c p hf w4 h4).mono ?_⟩, fun hb => (by cases hb)⟩
  rintro _ w13 ⟨b, rfl, hb, g13⟩
  have r13 := r4.grow g13
  have h13 := h4.grow g13
  have G13 := (g.trans' g4).trans' g13
  refine ⟨_, rfl, fun hbt w16 e16 => ?_, fun _ => (awake13_c w13).mono ?_⟩
  · have g16 : Grow w13 w16 := only_drew e16
    have r16 := r13.grow g16
    have h16 := h13.grow g16
    have G16 := G13.trans' g16
    obtain ⟨n, hn, hn1, hn60⟩ : ∃ n : Nat, IntKind.wrap .i64 (Int.tmod (IntKind.wrap .i64 u) 60 + 1) = (n : Int) ∧ 1 ≤ n ∧ n ≤ 1000 := by
      have e : IntKind.wrap .i64 u = u := wr (by omega)
      have e2 : Int.tmod u 60 = u % 60 := Int.tmod_eq_emod_of_nonneg hu.1
      rw [e, e2]
      have := Int.emod_nonneg u (show (60 : Int) ≠ 0 by decide)
      have := Int.emod_lt_of_pos u (show (0 : Int) < 60 by decide)
      refine ⟨(u % 60 + 1).toNat, ?_, by omega, by omega⟩
      rw [wr (by omega)]
      omega
    rw [hn]
    refine ⟨_, r16.cell rfl, _, r16.cell rfl, _, _, _, r16.cell rfl, _, r16.cell rfl, _, r16.cell rfl, _, _, _, r16.cell rfl, (taken_c o c p n hn1 hn60 hfl w16 h16).mono ?_⟩
    rintro _ w29 ⟨x, y, o30, c30, hE, rfl, hM, g29⟩
    refine ⟨_, _, _, rfl, kept_only g29 r16.lt (fun h => h), (ways_c o c p n hn60 hf w29 (h16.grow g29)).mono ?_⟩
    rintro _ w34 ⟨x', y', o35, c35, hE', rfl, hM', g34⟩
    obtain ⟨rfl, rfl⟩ := ending_one hE hE'
    have hM34 := hM.grow g34
    have G34 := (G16.trans' g29).trans' g34
    have hlen := List.length_take_le n (waysB p y)
    have hshort : ∀ v, v ∈ (waysB p y).take n → v.length ≤ 1000000 := fun v hv => by
      have hv' := List.mem_of_mem_take hv
      by_cases hy : y = 0
      · subst hy
        have := paths_short _ _ _ (show v ∈ pathsF p.qs p.qs.length 0 from hv')
        have := (valid_of (ending_valid hE)).top
        omega
      · rw [show waysB p y = [] from if_neg hy] at hv'
        simp at hv'
    generalize (waysB p y).take n = L at *
    refine ⟨_, _, _, rfl, nno rfl ⟨fun k x w' => ∃ j : Nat, x = (j : Int) ∧ j ≤ L.length ∧ k = L.length - j ∧ Grow w34 w', ⟨_, 0, rfl, Nat.zero_le _, rfl, Only.refl _ _⟩, ?_⟩⟩
    rintro k _ w44 x ⟨j, rfl, hj, rfl, g44⟩
    refine ⟨fun hlt w48 e48 => ?_, fun _ => ⟨rfl, G34.trans' g44⟩⟩
    have hlt : j < L.length := by have := dT hlt; omega
    have g48 : Grow w34 w48 := g44.trans' (only_drew e48)
    obtain ⟨a, oi, ci, ha, hc, hN⟩ := (hM34.grow g48).get hlt
    obtain ⟨a', oi', ci', ha', hc', hN'⟩ := (hM'.grow g48).get hlt
    refine ⟨a, ha, ⟨by omega, by omega⟩, _, _, _, hc, a', ha', ⟨by omega, by omega⟩, _, _, _, hc', (sameW_c oi oi' ci ci' _ _ (hshort _ (List.getElem_mem hlt)) w48 hN hN').mono ?_⟩
    rintro _ w59 ⟨rfl, g59⟩
    exact ⟨_, rfl, fun _ => ⟨_, by omega, j + 1, by rw [wr (by omega)]; omega, hlt, rfl, g48.trans' g59⟩, fun hh => absurd hh (by simp)⟩
  · rintro _ w40 ⟨rfl, g40⟩
    exact ⟨_, rfl, fun _ => ⟨rfl, G13.trans' g40⟩, fun h => (by cases h)⟩
end Go.Proofs.Ytbaacpfjecbbgaa
