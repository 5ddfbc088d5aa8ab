/- The reference's Most, and the statement MaxQuestions. -/
import Derived.Test.YtbaacpfjecbbgaaMc
namespace Go.Proofs.Ytbaacpfjecbbgaa
open Go Go.Nf

/-! ### Plain -/
theorem walk_le' {nx : Nat → List Nat} {n q : Nat} (hin : ∀ q x, x ∈ nx q → x < n) (hac : ∀ j, Rch nx q j → ¬ Cyc nx j) {d : Nat} (h : Walk nx q d) (hq : q < n) : d ≤ n := by
  classical
  obtain ⟨nx', hnx⟩ : ∃ nx' : Nat → List Nat, nx' = fun x => if Rch nx q x then nx x else [] := ⟨_, rfl⟩
  have hmem : ∀ x y, y ∈ nx' x → Rch nx q x ∧ y ∈ nx x := fun x y hy => by
    rw [hnx] at hy
    simp only at hy
    split at hy
    · rename_i hr; exact ⟨hr, hy⟩
    · simp at hy
  have hw : ∀ i d, Walk nx i d → Rch nx q i → Walk nx' i d := by
    intro i d h
    induction h with
    | one i => exact fun _ => .one i
    | @more i x d hx _ ih => exact fun hr => .more (by rw [hnx]; simp only [if_pos hr]; exact hx) (ih (hr.snoc hx))
  refine walk_le (nx := nx') (fun i x hx => hin i x (hmem i x hx).2) (fun j _ hc => ?_) (hw q d h (.refl q)) hq
  obtain ⟨x, hx, hr⟩ := hc
  exact hac j (hmem j x hx).1 ⟨x, (hmem j x hx).2, hr.mono fun i y hy => (hmem i y hy).2⟩
/-- what stands is as far as a walk goes -/
def Real (nx : Nat → List Nat) (C : Nat → Prop) (l : List Int) : Prop := ∀ y, C y → gI l y = 0 ∨ ∃ d : Nat, gI l y = d ∧ Walk nx y d
theorem real_rep {nx : Nat → List Nat} {C : Nat → Prop} {n : Nat} : Real nx C (List.replicate n 0) := fun y _ => .inl (gI_rep n y)
theorem Real.set {nx : Nat → List Nat} {C : Nat → Prop} {l l' : List Int} {i d : Nat} (h : Real nx C l) (hs : ∀ y, y ≠ i → gI l' y = gI l y) (hi : gI l' i = d) (hw : Walk nx i d) : Real nx C l' := fun y hy => by
  by_cases e : y = i
  · subst e; exact .inr ⟨d, hi, hw⟩
  · rw [hs y e]; exact h y hy
theorem Real.next {nx : Nat → List Nat} {C : Nat → Prop} {l : List Int} {i y : Nat} (h : Real nx C l) (hy : C y) (hx : y ∈ nx i) : ∃ d : Nat, gI l y + 1 = d ∧ Walk nx i d := by
  rcases h y hy with h0 | ⟨d, hd, hw⟩
  · exact ⟨1, by rw [h0]; rfl, .one i⟩
  · exact ⟨d + 1, by rw [hd]; rfl, .more hx hw⟩
set_option maxHeartbeats 4000000 in
theorem refMost_c (o : Option Addr) (c : Nat) (p : Prot) (q : Int) (hf : FitP p) (w : World) {A : Nat → Prop} (h : Qs w A o p.qs) :
    Calls Try.prog 26 #[.agg #[.string p.name, .int .i64 p.version, .slice o p.qs.length c], .int .i64 q] w fun e w' => ∃ m y, e = .returned (.tuple #[.int .i64 m, .int .i64 y]) ∧ IsMost p q m y ∧ Grow w w' := by
  refine nf26 p.name p.version o p.qs.length c q w _ fun w1 e1 => ?_
  have r := Row.new e1
  have g : Grow w w1 := only_alloc e1
  refine ⟨_, r.cell rfl, _, r.cell rfl, _, _, _, r.cell rfl, (is_c o c p 0 hf w1 (h.grow g)).mono ?_⟩
  rintro _ w2 ⟨rfl, g2⟩
  have r2 := r.grow g2
  refine ⟨_, rfl, fun hb => ?_, fun hb => ?_⟩
  rotate_left
  · refine ⟨_, _, rfl, .inl ⟨?_, rfl, rfl⟩, g.trans' g2⟩
    cases hv : validB p with
    | false => rfl
    | true =>
      have := (valid_of hv).pos
      rw [hv, decide_eq_true (by omega : (0 : Int) ≤ 0), decide_eq_true (by omega : (0 : Int) < (p.qs.length : Int))] at hb
      cases hb
  have hv : validB p = true := by
    cases hv : validB p with
    | true => rfl
    | false => rw [hv] at hb; cases hb
  have V := valid_of hv
  have htop := V.top
  have hpos := V.pos
  have hin := valid_in hv
  refine ⟨_, r2.cell rfl, _, r2.cell rfl, _, _, _, r2.cell rfl, (is_c o c p q hf w2 ((h.grow g).grow g2)).mono ?_⟩
  rintro _ w3 ⟨rfl, g3⟩
  have r3 := r2.grow g3
  refine ⟨_, rfl, fun hb => ?_, fun hb => ?_⟩
  rotate_left
  · refine ⟨_, _, rfl, .inr (.inl ⟨hv, fun hq => ?_, rfl, rfl⟩), (g.trans' g2).trans' g3⟩
    rw [hv, decide_eq_true hq.1, decide_eq_true hq.2] at hb
    cases hb
  rw [hv, Bool.true_and] at hb
  simp only [Bool.and_eq_true, decide_eq_true_eq] at hb
  have hqi := hb
  obtain ⟨q, rfl⟩ : ∃ i : Nat, q = (i : Int) := ⟨q.toNat, by omega⟩
  have hq : q < p.qs.length := by omega
  have h3 := ((h.grow g).grow g2).grow g3
  refine ⟨_, r3.cell rfl, _, r3.cell rfl, _, _, _, r3.cell rfl, (comes_c o c p q (by omega) V.ans V.inside w3 h3).mono ?_⟩
  rintro _ w4 ⟨bc, d, rfl, rc, ⟨hd, hC⟩, g4⟩
  have r4 := r3.grow g4
  have h4 := h3.grow g4
  have G4 := ((g.trans' g2).trans' g3).trans' g4
  have hrc : ∀ x, gB d x = true ↔ Rch (nxP p.qs) q x := fun x => by
    rw [hC, toNat_cast]
    exact ⟨fun h => h.2.2, fun h => ⟨by omega, by omega, h⟩⟩
  refine ⟨_, _, _, rfl, fun k x w' => ∃ j : Nat, x = (j : Int) ∧ j ≤ p.qs.length ∧ k = p.qs.length - j ∧ (∀ i, i < j → Rch (nxP p.qs) q i → ¬ Cyc (nxP p.qs) i) ∧ Grow w4 w', ⟨_, 0, rfl, Nat.zero_le _, rfl, fun i hi => by omega, Only.refl _ _⟩, ?_⟩
  rintro k _ w5 x ⟨j, rfl, hj, rfl, hno, g5⟩
  refine ⟨fun hlt => ?_, fun hge => ?_⟩
  · have hlt : j < p.qs.length := by have := dT hlt; omega
    have r5 := r4.grow g5
    have go : ∀ w', (Rch (nxP p.qs) q j → ¬ Cyc (nxP p.qs) j) → Grow w4 w' → ∃ n, n < p.qs.length - j ∧ ∃ j' : Nat, IntKind.wrap .i64 ((j : Int) + 1) = (j' : Int) ∧ j' ≤ p.qs.length ∧ n = p.qs.length - j' ∧ (∀ i, i < j' → Rch (nxP p.qs) q i → ¬ Cyc (nxP p.qs) i) ∧ Grow w4 w' := fun w' h1 h2 =>
      ⟨_, by omega, j + 1, by rw [wr (by omega)]; omega, hlt, rfl, fun i hi => by
        by_cases e : i = j
        · subst e; exact h1
        · exact hno i (by omega), h2⟩
    refine ⟨_, rfl, ⟨by omega, by omega⟩, _, (rc.grow g5).cellAdd (boolsV_get (by omega)), fun hb => ⟨_, r5.cell rfl, _, r5.cell rfl, _, _, _, r5.cell rfl, (twice_c o c p j hlt (by omega) V.ans V.inside w5 (h4.grow g5)).mono ?_⟩, fun hb => go _ (fun hr => by rw [(hrc j).2 hr] at hb; cases hb) g5⟩
    rintro _ w6 ⟨b, rfl, hb2, g6⟩
    exact ⟨_, rfl, fun h1 => ⟨_, _, rfl, .inr (.inr (.inl ⟨hv, hqi, ⟨j, by rw [toNat_cast]; exact (hrc j).1 hb, hb2.1 h1⟩, rfl, rfl⟩)), (G4.trans' g5).trans' g6⟩, fun h1 => go _ (fun _ hc => by rw [hb2.2 hc] at h1; cases h1) (g5.trans' g6)⟩
  · have := dF hge
    obtain rfl : j = p.qs.length := by omega
    have hac : ∀ j, Rch (nxP p.qs) q j → ¬ Cyc (nxP p.qs) j := fun j hj => hno j (hj.closed (m := fun y => y < p.qs.length) (fun i _ y hy => hin i y hy) hq) hj
    refine make_ints (by omega) fun w6 rn g6 hs6 => ⟨_, _, _, rfl, ?_⟩
    have G6 : Grow w4 w6 := g5.trans' g6
    have hbn : hs w4 ≤ hs w5 := g5.size
    have nx_lt : ∀ x, Rch (nxP p.qs) q x → x < p.qs.length := fun x hx => by
      exact hx.closed (m := fun y => y < p.qs.length) (fun i _ y hy => hin i y hy) hq
    have bound : ∀ {t i : Nat}, t ≤ p.qs.length → i ≤ p.qs.length → ((t : Int) * p.qs.length + i : Int) ≤ 64 * 64 + 64 := fun {t i} ht hi => by
      have : t * p.qs.length ≤ 64 * 64 := Nat.mul_le_mul (by omega) htop
      have e : ((t * p.qs.length : Nat) : Int) = (t : Int) * p.qs.length := by simp
      omega
    refine ⟨fun k x w' => ∃ (t : Nat) (l : List Int), x = (t : Int) ∧ t ≤ p.qs.length ∧ k = p.qs.length - t ∧ Deep (nxP p.qs) (Rch (nxP p.qs) q) p.qs.length l t 0 ∧ Real (nxP p.qs) (Rch (nxP p.qs) q) l ∧ Row w' (hs w5) 3 (intsV l) ∧ Only (fun b => b = hs w5) w6 w', ⟨_, 0, _, rfl, Nat.zero_le _, rfl, Deep.start, real_rep, rn, Only.refl _ _⟩, ?_⟩
    rintro k _ w7 x ⟨t, l, rfl, ht, rfl, hD, hRe, r7, g7⟩
    refine ⟨fun hlt => ?_, fun hge => ?_⟩
    · have hlt : t < p.qs.length := by have := dT hlt; omega
      refine ⟨fun k x w' => ∃ (i : Nat) (l : List Int), x = (i : Int) ∧ i ≤ p.qs.length ∧ k = p.qs.length - i ∧ Deep (nxP p.qs) (Rch (nxP p.qs) q) p.qs.length l t i ∧ Real (nxP p.qs) (Rch (nxP p.qs) q) l ∧ Row w' (hs w5) 3 (intsV l) ∧ Only (fun b => b = hs w5) w6 w', ⟨_, 0, l, rfl, Nat.zero_le _, rfl, hD, hRe, r7, g7⟩, ?_⟩
      rintro k _ w8 x ⟨i, l, rfl, hi, rfl, hD, hRe, r8, g8⟩
      have G8 : Grow w4 w8 := G6.trans g8 fun b hb e => by omega
      refine ⟨fun hlt2 K77 hK => ?_, fun hge2 => ?_⟩
      · have hlt2 : i < p.qs.length := by have := dT hlt2; omega
        have next : ∀ w' l', Deep (nxP p.qs) (Rch (nxP p.qs) q) p.qs.length l' t (i + 1) → Real (nxP p.qs) (Rch (nxP p.qs) q) l' → Row w' (hs w5) 3 (intsV l') → Only (fun b => b = hs w5) w6 w' → K77 w' := fun w' l' q1 q0 q2 q3 =>
          hK _ fun _ => ⟨_, by omega, i + 1, l', by rw [wr (by omega)]; omega, hlt2, rfl, q1, q0, q2, q3⟩
        have hll := hD.len
        refine ⟨_, rfl, ⟨by omega, by omega⟩, _, (rc.grow G8).cellAdd (boolsV_get (by omega)), fun hb => ?_, fun hb => next _ _ (hD.skip fun hr => by rw [(hrc i).2 hr] at hb; cases hb) hRe r8 g8⟩
        have hCi := (hrc i).1 hb
        refine ⟨_, rfl, ⟨by omega, by omega⟩, r8.thereAdd (by rw [toNat_cast, intsV_len]; simp; omega), fun w9 e9 => ?_⟩
        have r9 := r8.setAdd e9
        rw [intsV_set] at r9
        have g9 : Only (fun b => b = hs w5) w8 w9 := only_setAdd e9
        have G9 : Grow w4 w9 := G8.trans g9 fun b hb e => by omega
        have rp9 := r4.grow G9
        refine ⟨_, rp9.cell rfl, _, rp9.cell rfl, _, _, _, rp9.cell rfl, (next_c o c p i V.ans w9 (h4.grow G9)).mono ?_⟩
        rintro _ w10 ⟨o10, c10, xs, rfl, own10, hmem, hxl, g10⟩
        have hb10 : ∀ b, inBlock o10 b → hs w5 < b := fun b hb => by
          have := (own10.base b hb).1
          have := r9.lt
          omega
        have bnd := bound (t := t) (i := i) ht hi
        have eB : ((t * p.qs.length + i : Nat) : Int) = (t : Int) * p.qs.length + i := by simp
        refine ⟨_, _, _, rfl, fun k x w' => ∃ (u : Nat) (l' : List Int), x = (u : Int) ∧ u ≤ xs.length ∧ k = xs.length - u ∧ Deeper xs l l' i u (t * p.qs.length + i) ∧ (∃ d : Nat, gI l' i = d ∧ Walk (nxP p.qs) i d) ∧ Row w' (hs w5) 3 (intsV l') ∧ Only (fun b => b = hs w5) w10 w', ⟨_, 0, _, rfl, Nat.zero_le _, rfl, ?_, ⟨1, by rw [gI_set (by omega), if_pos rfl]; rfl, .one i⟩, r9.grow g10, Only.refl _ _⟩, ?_⟩
        · refine ⟨by simp, fun y hy => by rw [gI_set (by omega), if_neg hy], by rw [gI_set (by omega), if_pos rfl]; omega, fun v _ hv => by omega, by rw [gI_set (by omega), if_pos rfl]; omega⟩
        rintro k _ w11 x ⟨u, l', rfl, hu, rfl, hDr, hWd, r11, g11⟩
        have own11 := own10.keep g11 fun b hb e => by have := hb10 b hb; omega
        have g61 : Only (fun b => b = hs w5) w6 w11 := ((g8.trans' g9).grow g10).trans' g11
        refine ⟨fun hlt3 K107 hK3 w12 e12 => ?_, fun hge3 => ?_⟩
        · have hux : u < xs.length := by have := dT hlt3; omega
          have next3 : ∀ w' l'', Deeper xs l l'' i (u + 1) (t * p.qs.length + i) → (∃ d : Nat, gI l'' i = d ∧ Walk (nxP p.qs) i d) → Row w' (hs w5) 3 (intsV l'') → Only (fun b => b = hs w5) w10 w' → K107 w' := fun w' l'' q1 q0 q2 q3 =>
            hK3 _ fun _ => ⟨_, by omega, u + 1, l'', by rw [wr (by omega)]; omega, hux, rfl, q1, q0, q2, q3⟩
          have g12 : Grow w11 w12 := only_drew e12
          have r12 := r11.grow g12
          obtain ⟨a, ha, hc⟩ := ((own11.grow g12).nums).get hux
          have hS := (hmem xs[u]).1 (List.getElem_mem hux)
          have hin2 := V.inside _ _ hS
          obtain ⟨y, hy⟩ : ∃ y : Nat, xs[u] = (y : Int) := ⟨xs[u].toNat, by have := hS.1; omega⟩
          have hynx : y ∈ nxP p.qs i := mem_nxP.2 (by rw [← hy]; exact hS)
          have hyi : y ≠ i := fun e => hac i hCi ⟨y, hynx, by rw [e]; exact .refl _⟩
          have hrn := hRe.next (hCi.snoc hynx) hynx
          have done : ∀ l'', (gI l y + 1 ≤ gI l'' i) → gI l' i ≤ gI l'' i → ∀ v (hv : v < xs.length), v < u + 1 → gI l xs[v].toNat + 1 ≤ gI l'' i := fun l'' h1 h2 v hv hvu => by
            by_cases e : v = u
            · subst e; rw [hy, toNat_cast]; exact h1
            · have := hDr.done v hv (by omega); omega
          rw [hy] at hc hin2
          have hl' : l'.length = p.qs.length := by have := hDr.len; omega
          have hcy : gI l' y = gI l y := hDr.same y hyi
          have hty := hD.top y
          have hti := hDr.top
          have hi1 := hDr.one
          have ew : IntKind.wrap .i64 (gI l' y + 1) = gI l y + 1 := by rw [hcy, wr (by omega)]
          have cy := r12.cellAdd (intsV_get (xs := l') (j := y) (by omega))
          have ci := r12.cellAdd (intsV_get (xs := l') (j := i) (by omega))
          rw [← ew]  at done
          refine ⟨a, ha, ⟨by omega, by omega⟩, _, hc, _, rfl, ⟨by omega, by omega⟩, _, cy, _, rfl, ⟨by omega, by omega⟩, _, ci, fun hgt => ?_, fun hle => ?_⟩
          · refine ⟨a, ha, ⟨by omega, by omega⟩, _, hc, _, rfl, ⟨by omega, by omega⟩, _, cy, _, rfl, ⟨by omega, by omega⟩, r12.thereAdd (by rw [toNat_cast, intsV_len]; simp; omega), fun w13 e13 => ?_⟩
            have r13 := r12.setAdd e13
            rw [intsV_set] at r13
            have hgt := dT hgt
            refine next3 _ _ ⟨by simpa using hDr.len, fun z hz => by rw [gI_set (by omega), if_neg hz]; exact hDr.same z hz, ?_, done _ ?_ ?_, ?_⟩ (by rw [gI_set (by omega), if_pos rfl, ew]; exact hrn) r13 ((g11.grow g12).trans' (only_setAdd e13))
            all_goals
              rw [gI_set (by omega), if_pos rfl]
              omega
          · have hle := dF hle
            exact next3 _ _ ⟨hDr.len, hDr.same, hDr.one, done _ (by omega) (Int.le_refl _), hDr.top⟩ hWd r12 (g11.grow g12)
        · have := dF hge3
          obtain rfl : u = xs.length := by omega
          refine next _ _ (hD.node hDr (fun x hx => (hmem _).2 (mem_nxP.1 hx)) hCi (fun x hx => hCi.snoc hx) fun x hx e => hac i hCi ⟨x, hx, by rw [e]; exact .refl _⟩) (by
          obtain ⟨d, hd1, hd2⟩ := hWd
          exact hRe.set hDr.same hd1 hd2) r11 g61
      · have := dF hge2
        obtain rfl : i = p.qs.length := by omega
        exact ⟨_, by omega, t + 1, l, by rw [wr (by omega)]; omega, hlt, rfl, hD.round nx_lt, hRe, r8, g8⟩
    · have := dF hge
      obtain rfl : t = p.qs.length := by omega
      have hll := hD.len
      have hm := hD.top q
      have bnd := bound (t := p.qs.length) (i := 0) (Nat.le_refl _) (Nat.zero_le _)
      have cq := r7.cellAdd (intsV_get (xs := l) (j := q) (by omega))
      have h1 := hD.all q (.refl _) 1 (.one q) (by omega)
      rcases hRe q (.refl _) with h0 | ⟨d, hd, hwd⟩
      · omega
      refine ⟨_, rfl, ⟨by omega, by omega⟩, _, cq, _, _, rfl, .inr (.inr (.inr ⟨hv, hqi, fun j hj => hac j (by rwa [toNat_cast] at hj), ⟨d, hd, ?_, ?_⟩, rfl⟩)), (G4.trans' G6).trans g7 fun b hb e => by have := G4.size; omega⟩
      · rw [toNat_cast]
        intro d' hw
        have := hD.all q (.refl _) d' hw (walk_le' hin hac hw hq)
        omega
      · rw [toNat_cast]; exact hwd
theorem law14_c (o : Option Addr) (c : Nat) (p : Prot) (q : Int) (hf : FitP p) (w : World) {A : Nat → Prop} (h : Qs w A o p.qs) :
    Calls Try.prog 14 #[.agg #[.string p.name, .int .i64 p.version, .slice o p.qs.length c], .int .i64 q] w fun e w' => e = .returned (.bool true) ∧ Grow w w' := by
  have hfl := hf.qs
  refine nf14 p.name p.version o p.qs.length c q w _ fun w1 e1 => (awake13_c w1).mono ?_
  have r := Row.new e1
  have g : Grow w w1 := only_alloc e1
  rintro _ w4 ⟨rfl, g4⟩
  have r4 := r.grow g4
  have h4 := (h.grow g).grow g4
  refine ⟨_, rfl, fun _ => ⟨_, r4.cell rfl, _, r4.cell rfl, _, _, _, r4.cell rfl, (few_c o c p hf w4 h4).mono ?_⟩, fun hb => (by cases hb)⟩
  rintro _ w13 ⟨b, rfl, hb, g13⟩
  have r13 := r4.grow g13
  have h13 := h4.grow g13
  have G13 := (g.trans' g4).trans' g13
  refine ⟨_, rfl, fun hbt => ⟨_, r13.cell rfl, _, r13.cell rfl, _, _, _, r13.cell rfl, (maxQuestions_c o c p q hfl w13 h13).mono ?_⟩, fun _ => (awake13_c w13).mono ?_⟩
  · rintro _ w22 ⟨x, y, rfl, hE, g22⟩
    have r22 := r13.grow g22
    refine ⟨_, _, rfl, _, r22.cell rfl, _, r22.cell rfl, _, _, _, r22.cell rfl, (refMost_c o c p q hf w22 (h13.grow g22)).mono ?_⟩
    rintro _ w31 ⟨x', y', rfl, hE', g31⟩
    obtain ⟨rfl, rfl⟩ := most_one hE hE'
    exact ⟨_, _, rfl, yes rfl (yes rfl ⟨rfl, (G13.trans' g22).trans' g31⟩)⟩
  · rintro _ w40 ⟨rfl, g40⟩
    exact ⟨_, rfl, fun _ => ⟨rfl, G13.trans' g40⟩, fun h => (by cases h)⟩
end Go.Proofs.Ytbaacpfjecbbgaa
