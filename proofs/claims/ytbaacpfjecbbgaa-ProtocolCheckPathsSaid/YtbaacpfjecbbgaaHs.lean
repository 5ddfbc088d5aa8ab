/- The reference's Most: on no path are more questions asked. -/
import Derived.Test.YtbaacpfjecbbgaaHr
namespace Go.Proofs.Ytbaacpfjecbbgaa
open Go Go.Nf

/-! ### Paths -/
/-- a path of d questions leads away from i -/
inductive Walk (nx : Nat → List Nat) : Nat → Nat → Prop
  | one (i : Nat) : Walk nx i 1
  | more {i x d : Nat} (hx : x ∈ nx i) (h : Walk nx x d) : Walk nx i (d + 1)
/-- S holds of just k numbers below n -/
inductive Card (S : Nat → Prop) : Nat → Nat → Prop
  | zero : Card S 0 0
  | yes {n k : Nat} (h : S n) (c : Card S n k) : Card S (n + 1) (k + 1)
  | no {n k : Nat} (h : ¬ S n) (c : Card S n k) : Card S (n + 1) k
theorem card_ex (S : Nat → Prop) : ∀ n, ∃ k, Card S n k
  | 0 => ⟨0, .zero⟩
  | n + 1 => by
    obtain ⟨k, h⟩ := card_ex S n
    by_cases hn : S n
    · exact ⟨_, .yes hn h⟩
    · exact ⟨_, .no hn h⟩
theorem Card.le_n {S : Nat → Prop} {n k : Nat} (h : Card S n k) : k ≤ n := by
  induction h with
  | zero => exact Nat.le_refl _
  | yes _ _ ih => omega
  | no _ _ ih => omega
theorem Card.le {S S' : Nat → Prop} (hs : ∀ i, S' i → S i) {n k : Nat} (h : Card S n k) : ∀ {k'}, Card S' n k' → k' ≤ k := by
  induction h with
  | zero => intro k' h'; cases h'; exact Nat.le_refl _
  | yes hn _ ih =>
    intro k' h'
    cases h' with
    | yes _ c => have := ih c; omega
    | no _ c => have := ih c; omega
  | no hn _ ih =>
    intro k' h'
    cases h' with
    | yes h c => exact absurd (hs _ h) hn
    | no _ c => exact ih c
theorem Card.lt {S S' : Nat → Prop} (hs : ∀ i, S' i → S i) {z : Nat} (hz : S z) (hz' : ¬ S' z) {n k : Nat} (h : Card S n k) : ∀ {k'}, Card S' n k' → z < n → k' < k := by
  induction h with
  | zero => intro k' _ h; omega
  | @yes n k hn c ih =>
    intro k' h' hlt
    cases h' with
    | yes h1 c' =>
      have : z ≠ n := fun e => hz' (e ▸ h1)
      have := ih c' (by omega)
      omega
    | no _ c' => have := c.le hs c'; omega
  | @no n k hn c ih =>
    intro k' h' hlt
    have : z ≠ n := fun e => hn (e ▸ hz)
    cases h' with
    | yes h c' => exact absurd (hs _ h) hn
    | no _ c' => exact ih c' (by omega)
theorem walk_card {nx : Nat → List Nat} {n : Nat} (hin : ∀ q x, x ∈ nx q → x < n) (hac : ∀ j, j < n → ¬ Cyc nx j) {i d : Nat} (h : Walk nx i d) : i < n → ∀ {k}, Card (Rch nx i) n k → d ≤ k := by
  induction h with
  | one i =>
    intro hi k hk
    obtain ⟨k', hk'⟩ := card_ex (fun _ => False) n
    have := hk.lt (S' := fun _ => False) (fun _ h => h.elim) (.refl i) (fun h => h) hk' hi
    omega
  | @more i x d hx h ih =>
    intro hi k hk
    obtain ⟨k', hk'⟩ := card_ex (Rch nx x) n
    have h1 := ih (hin _ _ hx) hk'
    have := hk.lt (S' := Rch nx x) (fun y hy => .step hx hy) (.refl i) (fun hr => hac i hi ⟨x, hx, hr⟩) hk' hi
    omega
theorem walk_le {nx : Nat → List Nat} {n : Nat} (hin : ∀ q x, x ∈ nx q → x < n) (hac : ∀ j, j < n → ¬ Cyc nx j) {i d : Nat} (h : Walk nx i d) (hi : i < n) : d ≤ n := by
  obtain ⟨k, hk⟩ := card_ex (Rch nx i) n
  have := walk_card hin hac h hi hk
  have := hk.le_n
  omega

/-! ### Numbers in a row -/
def gI (l : List Int) (i : Nat) : Int := (l[i]?).getD 0
theorem gI_set {l : List Int} {i j : Nat} {x : Int} (h : j < l.length) : gI (l.set j x) i = if i = j then x else gI l i := by
  unfold gI
  by_cases e : i = j
  · subst e; rw [if_pos rfl, List.getElem?_set_self h]; rfl
  · rw [if_neg e, List.getElem?_set_ne (fun h => e h.symm)]
theorem intsV_get {xs : List Int} {j : Nat} (h : j < xs.length) : (intsV xs)[(j : Int).toNat * 1]? = some (.int .i64 (gI xs j)) := by
  rw [toNat_cast, Nat.mul_one]
  simp [intsV, gI, h]
theorem intsV_len (xs : List Int) : (intsV xs).length = xs.length := by simp [intsV]
theorem intsV_set (xs : List Int) (j : Nat) (x : Int) : setFrom (intsV xs) ((j : Int).toNat * 1) [.int .i64 x] = intsV (xs.set j x) := by
  rw [toNat_cast, Nat.mul_one]
  simp [setFrom, intsV, List.map_set]
theorem rep_ints (n : Nat) : (List.replicate n [Value.int .i64 0]).flatten = intsV (List.replicate n 0) := by rw [flat_one]; simp [intsV]
theorem make_ints {w : World} {n : Nat} {K : Value → World → Prop} (hn : n ≤ 200)
    (h : ∀ w', Row w' (hs w) 3 (intsV (List.replicate n 0)) → Grow w w' → hs w' = hs w + 1 → K (.slice (some ⟨hs w, 0, none⟩) n n) w') : RunOk Try.prog (Hold (Instr.makeSlice 48 (.int .i64 (n : Int)) (.int .i64 (n : Int)))) w K :=
  run_make_row elem48 zero3 (by omega) (Int.le_refl _) (by omega) (by omega) fun w1 e1 => by
    rw [toNat_cast] at e1 ⊢
    rw [rep_ints] at e1
    exact h w1 (Row.new e1) (only_alloc e1) (hs_alloc e1)

/-! ### The rounds -/
/-- behind r rounds and i questions of the next -/
structure Deep (nx : Nat → List Nat) (C : Nat → Prop) (n : Nat) (l : List Int) (r i : Nat) : Prop where
  len : l.length = n
  all : ∀ y, C y → ∀ d, Walk nx y d → d ≤ r → (d : Int) ≤ gI l y
  more : ∀ y, C y → y < i → ∀ d, Walk nx y d → d ≤ r + 1 → (d : Int) ≤ gI l y
  top : ∀ y, 0 ≤ gI l y ∧ gI l y ≤ r * n + i
/-- within a question: so many of its successors xs are done -/
structure Deeper (xs : List Int) (l0 l : List Int) (i u B : Nat) : Prop where
  len : l.length = l0.length
  same : ∀ y, y ≠ i → gI l y = gI l0 y
  one : 1 ≤ gI l i
  done : ∀ v (h : v < xs.length), v < u → gI l0 xs[v].toNat + 1 ≤ gI l i
  top : gI l i ≤ B + 1
theorem gI_rep (n y : Nat) : gI (List.replicate n 0) y = 0 := by
  unfold gI
  rcases Nat.lt_or_ge y n with h | h
  · simp [h]
  · rw [List.getElem?_eq_none (by simpa using h)]; rfl
theorem Deep.start {nx : Nat → List Nat} {C : Nat → Prop} {n : Nat} : Deep nx C n (List.replicate n 0) 0 0 :=
  ⟨by simp, fun y _ d hw hd => by rw [gI_rep]; omega, fun y _ hy => by omega, fun y => by rw [gI_rep]; omega⟩
theorem Deep.skip {nx : Nat → List Nat} {C : Nat → Prop} {n r i : Nat} {l : List Int} (h : Deep nx C n l r i) (hi : ¬ C i) : Deep nx C n l r (i + 1) :=
  ⟨h.len, h.all, fun y hy hyi => by
    by_cases e : y = i
    · subst e; exact absurd hy hi
    · exact h.more y hy (by omega), fun y => by have := h.top y; omega⟩
theorem Deep.round {nx : Nat → List Nat} {C : Nat → Prop} {n r : Nat} {l : List Int} (h : Deep nx C n l r n) (hC : ∀ y, C y → y < n) : Deep nx C n l (r + 1) 0 :=
  ⟨h.len, fun y hy => h.more y hy (hC y hy), fun y _ hy => by omega, fun y => by
    have := h.top y
    have e : ((r + 1 : Nat) : Int) * n = r * n + n := by rw [Int.natCast_succ, Int.add_mul, Int.one_mul]
    rw [e]; omega⟩
theorem Deep.node {nx : Nat → List Nat} {C : Nat → Prop} {n r i : Nat} {l l' : List Int} {xs : List Int} (h : Deep nx C n l r i) (k : Deeper xs l l' i xs.length (r * n + i)) (hxs : ∀ x, x ∈ nx i → ((x : Int)) ∈ xs) (hi : C i) (hC : ∀ x, x ∈ nx i → C x) (hne : ∀ x, x ∈ nx i → x ≠ i) :
    Deep nx C n l' r (i + 1) := by
  have low : ∀ d, Walk nx i d → d ≤ r + 1 → (d : Int) ≤ gI l' i := fun d hw hd => by
    cases hw with
    | one => exact k.one
    | @more _ x d hx hw =>
      obtain ⟨v, hv, e⟩ := List.getElem_of_mem (hxs x hx)
      have h1 := k.done v hv hv
      rw [e, toNat_cast] at h1
      have h2 := h.all x (hC x hx) d hw (by omega)
      omega
  refine ⟨k.len.trans h.len, fun y hy d hw hd => ?_, fun y hy hyi d hw hd => ?_, fun y => ?_⟩
  · by_cases e : y = i
    · subst e; exact low d hw (by omega)
    · rw [k.same y e]; exact h.all y hy d hw hd
  · by_cases e : y = i
    · subst e; exact low d hw hd
    · rw [k.same y e]; exact h.more y hy (by omega) d hw hd
  · by_cases e : y = i
    · subst e
      have := k.top
      have := k.one
      have e2 : ((r * n + y : Nat) : Int) = (r : Int) * n + y := by simp
      rw [e2] at *
      omega
    · rw [k.same y e]; have := h.top y; omega

set_option maxHeartbeats 4000000 in
theorem most_c (o : Option Addr) (c : Nat) (p : Prot) (q : Nat) (hf : FitP p) (hv : validB p = true) (hac : ∀ j, j < p.qs.length → ¬ Cyc (nxP p.qs) j) (hq : q < p.qs.length) (w : World) {A : Nat → Prop} (h : Qs w A o p.qs) :
    Calls Try.prog 26 #[.agg #[.string p.name, .int .i64 p.version, .slice o p.qs.length c], .int .i64 q] w fun e w' => ∃ m : Nat, e = .returned (.tuple #[.int .i64 m, .int .i64 0]) ∧ (∀ d, Walk (nxP p.qs) q d → d ≤ m) ∧ m ≤ 10000 ∧ Grow w w' := by
  have V := valid_of hv
  have htop := V.top
  have hpos := V.pos
  have hin : ∀ q x, x ∈ nxP p.qs q → x < p.qs.length := fun q x hx => by
    have := V.inside _ _ (mem_nxP.1 hx)
    omega
  refine nf26 p.name p.version o p.qs.length c q w _ fun w1 e1 => ?_
  have r := Row.new e1
  have g : Grow w w1 := only_alloc e1
  refine ⟨_, r.cell rfl, _, r.cell rfl, _, _, _, r.cell rfl, (is_c o c p 0 hf w1 (h.grow g)).mono ?_⟩
  rintro _ w2 ⟨rfl, g2⟩
  have r2 := r.grow g2
  refine ⟨_, rfl, fun _ => ?_, fun hb => ?_⟩
  rotate_left
  · rw [hv, decide_eq_true (by omega : (0 : Int) ≤ 0), decide_eq_true (by omega : (0 : Int) < (p.qs.length : Int))] at hb
    cases hb
  refine ⟨_, r2.cell rfl, _, r2.cell rfl, _, _, _, r2.cell rfl, (is_c o c p q hf w2 ((h.grow g).grow g2)).mono ?_⟩
  rintro _ w3 ⟨rfl, g3⟩
  have r3 := r2.grow g3
  refine ⟨_, rfl, fun _ => ?_, fun hb => ?_⟩
  rotate_left
  · rw [hv, decide_eq_true (by omega : (0 : Int) ≤ (q : Int)), decide_eq_true (by omega : (q : Int) < (p.qs.length : Int))] at hb
    cases hb
  have h3 := ((h.grow g).grow g2).grow g3
  refine ⟨_, r3.cell rfl, _, r3.cell rfl, _, _, _, r3.cell rfl, (comes_c o c p q (by omega) V.ans V.inside w3 h3).mono ?_⟩
  rintro _ w4 ⟨bc, d, rfl, rc, ⟨hd, hC⟩, g4⟩
  have r4 := r3.grow g4
  have h4 := h3.grow g4
  have G4 := ((g.trans' g2).trans' g3).trans' g4
  have hrc : ∀ x, gB d x = true ↔ Rch (nxP p.qs) q x := fun x => by
    rw [hC, toNat_cast]
    exact ⟨fun h => h.2.2, fun h => ⟨by omega, by omega, h⟩⟩
  refine ⟨_, _, _, rfl, fun k x w' => ∃ j : Nat, x = (j : Int) ∧ j ≤ p.qs.length ∧ k = p.qs.length - j ∧ Grow w4 w', ⟨_, 0, rfl, Nat.zero_le _, rfl, Only.refl _ _⟩, ?_⟩
  rintro k _ w5 x ⟨j, rfl, hj, rfl, g5⟩
  refine ⟨fun hlt => ?_, fun hge => ?_⟩
  · have hlt : j < p.qs.length := by have := dT hlt; omega
    have r5 := r4.grow g5
    refine ⟨_, rfl, ⟨by omega, by omega⟩, _, (rc.grow g5).cellAdd (boolsV_get (by omega)), fun hb => ⟨_, r5.cell rfl, _, r5.cell rfl, _, _, _, r5.cell rfl, (twice_c o c p j hlt (by omega) V.ans V.inside w5 (h4.grow g5)).mono ?_⟩, fun hb => ⟨_, by omega, j + 1, by rw [wr (by omega)]; omega, hlt, rfl, g5⟩⟩
    rintro _ w6 ⟨b, rfl, hb, g6⟩
    exact ⟨_, rfl, fun h1 => absurd (hb.1 h1) (hac j hlt), fun h1 => ⟨_, by omega, j + 1, by rw [wr (by omega)]; omega, hlt, rfl, g5.trans' g6⟩⟩
  · refine make_ints (by omega) fun w6 rn g6 hs6 => ⟨_, _, _, rfl, ?_⟩
    have G6 : Grow w4 w6 := g5.trans' g6
    have hbn : hs w4 ≤ hs w5 := g5.size
    have nx_lt : ∀ x, Rch (nxP p.qs) q x → x < p.qs.length := fun x hx => by
      exact hx.closed (m := fun y => y < p.qs.length) (fun i _ y hy => hin i y hy) hq
    have bound : ∀ {t i : Nat}, t ≤ p.qs.length → i ≤ p.qs.length → ((t : Int) * p.qs.length + i : Int) ≤ 64 * 64 + 64 := fun {t i} ht hi => by
      have : t * p.qs.length ≤ 64 * 64 := Nat.mul_le_mul (by omega) htop
      have e : ((t * p.qs.length : Nat) : Int) = (t : Int) * p.qs.length := by simp
      omega
    refine ⟨fun k x w' => ∃ (t : Nat) (l : List Int), x = (t : Int) ∧ t ≤ p.qs.length ∧ k = p.qs.length - t ∧ Deep (nxP p.qs) (Rch (nxP p.qs) q) p.qs.length l t 0 ∧ Row w' (hs w5) 3 (intsV l) ∧ Only (fun b => b = hs w5) w6 w', ⟨_, 0, _, rfl, Nat.zero_le _, rfl, Deep.start, rn, Only.refl _ _⟩, ?_⟩
    rintro k _ w7 x ⟨t, l, rfl, ht, rfl, hD, r7, g7⟩
    refine ⟨fun hlt => ?_, fun hge => ?_⟩
    · have hlt : t < p.qs.length := by have := dT hlt; omega
      refine ⟨fun k x w' => ∃ (i : Nat) (l : List Int), x = (i : Int) ∧ i ≤ p.qs.length ∧ k = p.qs.length - i ∧ Deep (nxP p.qs) (Rch (nxP p.qs) q) p.qs.length l t i ∧ Row w' (hs w5) 3 (intsV l) ∧ Only (fun b => b = hs w5) w6 w', ⟨_, 0, l, rfl, Nat.zero_le _, rfl, hD, r7, g7⟩, ?_⟩
      rintro k _ w8 x ⟨i, l, rfl, hi, rfl, hD, r8, g8⟩
      have G8 : Grow w4 w8 := G6.trans g8 fun b hb e => by omega
      refine ⟨fun hlt2 K77 hK => ?_, fun hge2 => ?_⟩
      · have hlt2 : i < p.qs.length := by have := dT hlt2; omega
        have next : ∀ w' l', Deep (nxP p.qs) (Rch (nxP p.qs) q) p.qs.length l' t (i + 1) → Row w' (hs w5) 3 (intsV l') → Only (fun b => b = hs w5) w6 w' → K77 w' := fun w' l' q1 q2 q3 =>
          hK _ fun _ => ⟨_, by omega, i + 1, l', by rw [wr (by omega)]; omega, hlt2, rfl, q1, q2, q3⟩
        have hll := hD.len
        refine ⟨_, rfl, ⟨by omega, by omega⟩, _, (rc.grow G8).cellAdd (boolsV_get (by omega)), fun hb => ?_, fun hb => next _ _ (hD.skip fun hr => by rw [(hrc i).2 hr] at hb; cases hb) r8 g8⟩
        have hCi := (hrc i).1 hb
        refine ⟨_, rfl, ⟨by omega, by omega⟩, r8.thereAdd (by rw [toNat_cast, intsV_len]; simp; omega), fun w9 e9 => ?_⟩
        have r9 := r8.setAdd e9
        rw [intsV_set] at r9
        have g9 : Only (fun b => b = hs w5) w8 w9 := only_setAdd e9
        have G9 : Grow w4 w9 := G8.trans g9 fun b hb e => by omega
        have rp9 := r4.grow G9
        refine ⟨_, rp9.cell rfl, _, rp9.cell rfl, _, _, _, rp9.cell rfl, (next_c o c p i V.ans w9 (h4.grow G9)).mono ?_⟩
        rintro _ w10 ⟨o10, c10, xs, rfl, own10, hmem, hxl, g10⟩
        have hb10 : ∀ b, inBlock o10 b → hs w5 < b := fun b hb => by
          have := (own10.base b hb).1
          have := r9.lt
          omega
        have bnd := bound (t := t) (i := i) ht hi
        have eB : ((t * p.qs.length + i : Nat) : Int) = (t : Int) * p.qs.length + i := by simp
        refine ⟨_, _, _, rfl, fun k x w' => ∃ (u : Nat) (l' : List Int), x = (u : Int) ∧ u ≤ xs.length ∧ k = xs.length - u ∧ Deeper xs l l' i u (t * p.qs.length + i) ∧ Row w' (hs w5) 3 (intsV l') ∧ Only (fun b => b = hs w5) w10 w', ⟨_, 0, _, rfl, Nat.zero_le _, rfl, ?_, r9.grow g10, Only.refl _ _⟩, ?_⟩
        · refine ⟨by simp, fun y hy => by rw [gI_set (by omega), if_neg hy], by rw [gI_set (by omega), if_pos rfl]; omega, fun v _ hv => by omega, by rw [gI_set (by omega), if_pos rfl]; omega⟩
        rintro k _ w11 x ⟨u, l', rfl, hu, rfl, hDr, r11, g11⟩
        have own11 := own10.keep g11 fun b hb e => by have := hb10 b hb; omega
        have g61 : Only (fun b => b = hs w5) w6 w11 := ((g8.trans' g9).grow g10).trans' g11
        refine ⟨fun hlt3 K107 hK3 w12 e12 => ?_, fun hge3 => ?_⟩
        · have hux : u < xs.length := by have := dT hlt3; omega
          have next3 : ∀ w' l'', Deeper xs l l'' i (u + 1) (t * p.qs.length + i) → Row w' (hs w5) 3 (intsV l'') → Only (fun b => b = hs w5) w10 w' → K107 w' := fun w' l'' q1 q2 q3 =>
            hK3 _ fun _ => ⟨_, by omega, u + 1, l'', by rw [wr (by omega)]; omega, hux, rfl, q1, q2, q3⟩
          have g12 : Grow w11 w12 := only_drew e12
          have r12 := r11.grow g12
          obtain ⟨a, ha, hc⟩ := ((own11.grow g12).nums).get hux
          have hS := (hmem xs[u]).1 (List.getElem_mem hux)
          have hin2 := V.inside _ _ hS
          obtain ⟨y, hy⟩ : ∃ y : Nat, xs[u] = (y : Int) := ⟨xs[u].toNat, by have := hS.1; omega⟩
          have hyi : y ≠ i := fun e => hac i hlt2 ⟨y, mem_nxP.2 (by rw [← hy]; exact hS), by rw [e]; exact .refl _⟩
          have done : ∀ l'', (gI l y + 1 ≤ gI l'' i) → gI l' i ≤ gI l'' i → ∀ v (hv : v < xs.length), v < u + 1 → gI l xs[v].toNat + 1 ≤ gI l'' i := fun l'' h1 h2 v hv hvu => by
            by_cases e : v = u
            · subst e; rw [hy, toNat_cast]; exact h1
            · have := hDr.done v hv (by omega); omega
          rw [hy] at hc hin2
          have hl' : l'.length = p.qs.length := by have := hDr.len; omega
          have hcy : gI l' y = gI l y := hDr.same y hyi
          have hty := hD.top y
          have hti := hDr.top
          have hi1 := hDr.one
          have ew : IntKind.wrap .i64 (gI l' y + 1) = gI l y + 1 := by rw [hcy, wr (by omega)]
          have cy := r12.cellAdd (intsV_get (xs := l') (j := y) (by omega))
          have ci := r12.cellAdd (intsV_get (xs := l') (j := i) (by omega))
          rw [← ew]  at done
          refine ⟨a, ha, ⟨by omega, by omega⟩, _, hc, _, rfl, ⟨by omega, by omega⟩, _, cy, _, rfl, ⟨by omega, by omega⟩, _, ci, fun hgt => ?_, fun hle => ?_⟩
          · refine ⟨a, ha, ⟨by omega, by omega⟩, _, hc, _, rfl, ⟨by omega, by omega⟩, _, cy, _, rfl, ⟨by omega, by omega⟩, r12.thereAdd (by rw [toNat_cast, intsV_len]; simp; omega), fun w13 e13 => ?_⟩
            have r13 := r12.setAdd e13
            rw [intsV_set] at r13
            have hgt := dT hgt
            refine next3 _ _ ⟨by simpa using hDr.len, fun z hz => by rw [gI_set (by omega), if_neg hz]; exact hDr.same z hz, ?_, done _ ?_ ?_, ?_⟩ r13 ((g11.grow g12).trans' (only_setAdd e13))
            all_goals
              rw [gI_set (by omega), if_pos rfl]
              omega
          · have hle := dF hle
            exact next3 _ _ ⟨hDr.len, hDr.same, hDr.one, done _ (by omega) (Int.le_refl _), hDr.top⟩ r12 (g11.grow g12)
        · have := dF hge3
          obtain rfl : u = xs.length := by omega
          refine next _ _ (hD.node hDr (fun x hx => (hmem _).2 (mem_nxP.1 hx)) hCi (fun x hx => hCi.snoc hx) fun x hx e => hac i hlt2 ⟨x, hx, by rw [e]; exact .refl _⟩) r11 g61
      · have := dF hge2
        obtain rfl : i = p.qs.length := by omega
        exact ⟨_, by omega, t + 1, l, by rw [wr (by omega)]; omega, hlt, rfl, hD.round nx_lt, r8, g8⟩
    · have := dF hge
      obtain rfl : t = p.qs.length := by omega
      have hll := hD.len
      have hm := hD.top q
      have bnd := bound (t := p.qs.length) (i := 0) (Nat.le_refl _) (Nat.zero_le _)
      obtain ⟨m, hm'⟩ : ∃ m : Nat, gI l q = (m : Int) := ⟨(gI l q).toNat, by omega⟩
      have cq := r7.cellAdd (intsV_get (xs := l) (j := q) (by omega))
      rw [hm'] at cq
      refine ⟨_, rfl, ⟨by omega, by omega⟩, _, cq, m, rfl, fun d hw => ?_, by omega, (G4.trans' G6).trans g7 fun b hb e => by have := G4.size; omega⟩
      have := hD.all q (.refl _) d hw (walk_le hin hac hw hq)
      omega
end Go.Proofs.Ytbaacpfjecbbgaa
