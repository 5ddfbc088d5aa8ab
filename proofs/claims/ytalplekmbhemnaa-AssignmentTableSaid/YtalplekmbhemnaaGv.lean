/- The law AssignmentTable: it returns true and writes nothing old. -/
import Derived.Test.YtalplekmbhemnaaGu
namespace Go.Proofs.Ytalplekmbhemnaa
open Go Go.Nf

theorem rep_nils (n : Nat) : (List.replicate n [Value.slice none 0 0]).flatten = List.replicate n (.slice none 0 0) := by
  induction n with
  | zero => rfl
  | succ n ih => rw [List.replicate_succ, List.flatten_cons, ih, List.replicate_succ]; rfl
theorem zero32 : zeroL Try.prog 32 = some [.slice none 0 0] := by kernel_rfl
/-- i rows done, j columns of row i -/
def gridRows (R C i j : Nat) : List (List Int) := (List.range R).map fun k => List.replicate (if k < i then C else if k = i then j else 0) Inf
theorem grid_get {R C i j k : Nat} (h : k < R) : (gridRows R C i j)[k]? = some (List.replicate (if k < i then C else if k = i then j else 0) Inf) := by
  unfold gridRows; rw [List.getElem?_map, List.getElem?_range h]; rfl
theorem grid_len (R C i j : Nat) : (gridRows R C i j).length = R := by simp [gridRows]
theorem grid_set {R C i j : Nat} (h : i < R) : (gridRows R C i j).set i (List.replicate j Inf ++ [Inf]) = gridRows R C i (j + 1) := by
  apply List.ext_getElem?
  intro k
  rw [List.getElem?_set]
  by_cases hk : k < R
  · by_cases e : i = k
    · subst e
      rw [grid_get (j := j + 1) hk]
      simp only [grid_len, h, if_true, if_neg (Nat.lt_irrefl i), ← List.replicate_succ']
    · rw [if_neg e, grid_get hk, grid_get hk]
      simp only [if_neg (fun h => e (Eq.symm h))]
  · rw [List.getElem?_eq_none (by rw [grid_len]; omega : (gridRows R C i (j + 1)).length ≤ k), if_neg (by omega), List.getElem?_eq_none (by rw [grid_len]; omega)]
theorem grid_next {R C i : Nat} : gridRows R C i C = gridRows R C (i + 1) 0 := by
  unfold gridRows
  refine List.map_congr_left fun k _ => ?_
  congr 1
  by_cases h : k < i
  · rw [if_pos h, if_pos (by omega)]
  · by_cases h2 : k = i
    · rw [if_neg h, if_pos h2, if_pos (by omega)]
    · rw [if_neg h, if_neg h2, if_neg (by omega)]; split <;> rfl
theorem grid_zero (R C : Nat) : gridRows R C 0 0 = List.replicate R [] := by
  apply List.ext_getElem
  · simp [gridRows]
  · intro k h1 h2; simp [gridRows]
theorem grid_full (R C : Nat) : gridRows R C R 0 = List.replicate R (List.replicate C Inf) := by
  apply List.ext_getElem
  · simp [gridRows]
  · intro k h1 h2; simp at h2; simp [gridRows, h2]
def encS (s : Int × Int × Int) : List Value := [.int .i64 s.1, .int .i64 s.2.1, .int .i64 s.2.2]
theorem Rd.step {w : World} {o : Option Addr} {l : List (Int × Int × Int)} (h : Rd w o 3 (l.map encS)) {i : Nat} (hi : i < l.length) :
    ∃ a, o = some a ∧ w.cell? (a.add ((i : Int).toNat * 3)) = some (.int .i64 l[i].1) ∧ w.cell? ((a.add ((i : Int).toNat * 3)).add 1) = some (.int .i64 l[i].2.1) ∧ w.cell? ((a.add ((i : Int).toNat * 3)).add 2) = some (.int .i64 l[i].2.2) := by
  obtain ⟨a, ha, hc⟩ := h.at (i := i) (row := encS l[i]) (by rw [List.getElem?_map, List.getElem?_eq_getElem hi]; rfl)
  refine ⟨a, ha, ?_, hc 1 _ rfl, hc 2 _ rfl⟩
  have := hc 0 _ rfl
  rwa [add_zero] at this
/-- what the table and the matrix share -/
structure Both (w : World) (t b T R C : Nat) (rows : List (List Int)) : Prop where
  tab : Tab w t b C rows
  grid : Grid w b (b + 1) T rows
  top : b + 1 ≤ T ∧ T ≤ hs w
  len : rows.length = R
  cost : ∀ r ∈ rows, ∀ c ∈ r, isCost c = true
theorem Both.grow {w w' : World} {t b T R C : Nat} {rows : List (List Int)} (h : Both w t b T R C rows) (g : Grow w w') : Both w' t b T R C rows :=
  ⟨h.tab.grow g, h.grid.grow g, ⟨h.top.1, Nat.le_trans h.top.2 g.size⟩, h.len, h.cost⟩

set_option maxHeartbeats 1000000 in
/-- the table's answer and the reference's are one -/
theorem compare_c {w : World} {t b T R C : Nat} {rows : List (List Int)} (h : Both w t b T R C rows) (hR : R ≤ 5) (hC : C ≤ 5) (K : World → Prop) (hK : ∀ w', Grow w w' → K w') (Z : Ending → World → Prop) :
    Calls Try.prog 15 #[.pointer (some ⟨t, 0, none⟩)] w fun e95 w96 => ∃ o97 n98 n99 x100, e95 = .returned (.tuple #[.slice o97 n98 n99, .int .i64 x100]) ∧
      Calls Try.prog 16 #[.slice (some ⟨b, 0, none⟩) R R] w96 fun e101 w102 => ∃ o103 n104 n105 x106 x107, e101 = .returned (.tuple #[.slice o103 n104 n105, .int .i64 x106, .int .i64 x107]) ∧
        (((!(decide (x100 = x106))) = true → Z (.returned (.bool false)) w102) ∧ ((!(decide (x100 = x106))) = false →
          Calls Try.prog 17 #[.slice o97 n98 n99, .slice o103 n104 n105] w102 fun e110 w111 => ∃ b112, e110 = .returned (.bool b112) ∧ ((b112 = true → K w111) ∧ (b112 = false → Z (.returned (.bool false)) w111)))) := by
  have hl := h.len
  have herr : errOf rows = 0 := err_of (C := C) (by omega) (by omega) h.tab.len h.cost
  refine (tsolve_c t b C rows w h.tab h.cost (by omega) (by omega)).mono ?_
  rintro _ w1 ⟨bm, m, rfl, rm, hb, best, g1⟩
  refine ⟨_, _, _, _, rfl, ?_⟩
  have bc := best_c (some ⟨b, 0, none⟩) R rows w1 (h.grow g1).grid.mat herr
  rw [hl] at bc
  refine bc.mono ?_
  rintro _ w2 ⟨o2, c2, m2, rfl, n2, b2, g2⟩
  have em : m = m2 := by
    by_cases hn : rows = []
    · have h1 := best.valid.len
      have h2 := b2.valid.len
      rw [hn] at h1 h2
      rw [List.eq_nil_of_length_eq_zero h1, List.eq_nil_of_length_eq_zero h2]
    · rw [first_of h.tab.len hn] at b2
      exact best.unique b2
  subst em
  have hml := best.valid.len
  refine ⟨_, _, _, _, _, rfl, nno (by rw [hl]) ?_⟩
  have sc := same_c (some ⟨bm, 0, none⟩) o2 rows.length c2 m m w2 (A := fun _ => True) ((rm.grow g2).nums trivial) n2 (by omega)
  rw [hml, hl] at sc
  rw [hl]
  refine sc.mono ?_
  rintro _ w3 ⟨rfl, g3⟩
  exact ⟨_, rfl, yes rfl (hK w3 ((g1.trans' g2).trans' g3))⟩
theorem setErr_get {rows : List (List Int)} {C : Nat} {i j c : Int} (h : setErr rows C i j c = false) : (0 ≤ i ∧ i < rows.length) ∧ (0 ≤ j ∧ j < C) ∧ isCost c = true := by
  unfold setErr at h
  simp only [Bool.or_eq_false_iff, decide_eq_false_iff_not, Bool.not_eq_false'] at h
  obtain ⟨⟨⟨⟨h1, h2⟩, h3⟩, h4⟩, h5⟩ := h
  exact ⟨⟨by omega, by omega⟩, ⟨by omega, by omega⟩, h5⟩
theorem Both.set {w : World} {t b T R C : Nat} {rows : List (List Int)} {i j c : Int} (h : Both w t b T R C rows) (he : setErr rows C i j c = false) {w' : World} (ht : Tab w' t b C (setTab rows i j c)) (g : Only (fun x => t < x ∧ x < b) w w') :
    ∃ a ci, w'.cell? ((⟨b, 0, none⟩ : Addr).add (i.toNat * 1)) = some (.slice (some a) C ci) ∧ There w' (a.add (j.toNat * 1)) 1 ∧
      ∀ w'', w'' = setCells w' (a.add (j.toNat * 1)) [.int .i64 c] 0 → Both w'' t b T R C (setTab rows i j c) ∧ Only (fun x => b < x) w' w'' := by
  obtain ⟨⟨i0, i1⟩, ⟨j0, j1⟩, hc⟩ := setErr_get he
  obtain ⟨i, rfl⟩ : ∃ k : Nat, i = (k : Int) := ⟨i.toNat, by omega⟩
  obtain ⟨j, rfl⟩ : ∃ k : Nat, j = (k : Int) := ⟨j.toNat, by omega⟩
  have hir : i < rows.length := by omega
  have hrl : rows[i].length = C := h.tab.len _ (List.getElem_mem hir)
  have hst : setTab rows (i : Int) (j : Int) c = rows.set i (rows[i].set j c) := by unfold setTab; rw [Int.toNat_natCast, Int.toNat_natCast, List.getElem?_eq_getElem hir]; rfl
  have g' : Grid w' b (b + 1) T rows := h.grid.keep g (by omega) fun x h1 h2 h3 => by omega
  obtain ⟨a, ci, k1, k2, k3⟩ := g'.set (x := c) (List.getElem?_eq_getElem hir) (j := j) (by omega)
  rw [hrl] at k1
  rw [hst] at ht ⊢
  refine ⟨a, ci, k1, k2, fun w'' e => ?_⟩
  obtain ⟨g2, o2⟩ := k3 w'' e
  refine ⟨⟨ht.keep o2 fun x h1 h2 h3 => by omega, g2, ⟨h.top.1, by have := h.top.2; have := g.size; have := o2.size; omega⟩, by rw [List.length_set]; exact h.len, fun r hr x hx => ?_⟩, o2.mono fun x hx hh => by omega⟩
  rcases List.mem_or_eq_of_mem_set hr with hr | rfl
  · exact h.cost r hr x hx
  · rcases List.mem_or_eq_of_mem_set hx with hx | rfl
    · exact h.cost _ (List.getElem_mem hir) x hx
    · exact hc

set_option maxRecDepth 10000 in
set_option maxHeartbeats 8000000 in
theorem table_law (s0 s1 : Int) (o : Option Addr) (c : Nat) (steps : List (Int × Int × Int)) (w : World) (h0 : 0 ≤ s0 ∧ s0 ≤ 255) (h1 : 0 ≤ s1 ∧ s1 ≤ 255) (hrd : Rd w o 3 (steps.map encS)) :
    Calls Try.prog 6 #[.agg #[.int .u8 s0, .int .u8 s1], .slice o steps.length c] w (Tru w) := by
  refine nf6 s0 s1 o steps.length c w _ fun w1 e1 => (alive_c w1).mono ?_
  rintro _ w2 ⟨rfl, g2⟩
  have r1 := Row.new e1
  have g02 : Grow w w2 := (only_alloc e1).trans' g2
  refine ⟨_, rfl, bT ⟨fun _ => ⟨rfl, g02⟩, fun hlen w3 e3 => ?_⟩⟩
  have hlen : steps.length ≤ 25 := by have := dF hlen; omega
  have r3 := (r1.grow g2).grow (only_drew e3)
  have g03 : Grow w w3 := g02.trans' (only_drew e3)
  refine ⟨⟨by omega, by omega⟩, _, r3.cell rfl, ⟨by omega, by omega⟩, _, r3.cell rfl, ?_⟩
  obtain ⟨n0, rfl⟩ : ∃ k : Nat, s0 = (k : Int) := ⟨s0.toNat, by omega⟩
  obtain ⟨n1, rfl⟩ : ∃ k : Nat, s1 = (k : Int) := ⟨s1.toNat, by omega⟩
  have eR : Int.tmod (IntKind.wrap .i64 (n0 : Int)) 6 = ((n0 % 6 : Nat) : Int) := by rw [wr (by omega)]; exact tmod_cast n0 6
  have eC : Int.tmod (IntKind.wrap .i64 (n1 : Int)) 6 = ((n1 % 6 : Nat) : Int) := by rw [wr (by omega)]; exact tmod_cast n1 6
  rw [eR, eC]
  have hR : n0 % 6 ≤ 5 := by omega
  have hC : n1 % 6 ≤ 5 := by omega
  generalize n0 % 6 = R at *
  generalize n1 % 6 = C at *
  clear eR eC r3 r1 h0 h1
  refine (new_c (R : Int) (C : Int) w3).mono ?_
  rintro e w4 ⟨g4, hn⟩
  rw [if_neg (by omega), if_neg (by omega), Int.toNat_natCast, Int.toNat_natCast] at hn
  obtain ⟨rfl, ht⟩ := hn
  have g04 := g03.trans' g4
  refine ⟨_, _, rfl, nno rfl (run_make_row elem22 zero32 (by omega) (by omega) (by omega) (by omega) fun w5 e5 => ⟨_, _, _, rfl, ?_⟩)⟩
  rw [Int.toNat_natCast] at *
  have r5 : Row w5 (hs w4) 32 (List.replicate R (.slice none 0 0)) := by
    have := Row.new e5
    rw [rep_nils] at this; exact this
  have l5 := hs_alloc e5
  have hs4 := g4.size
  have G5 := Grid.start (T := hs w5) r5
  rw [← grid_zero R C] at G5
  have hl0 := ht.lt
  generalize hb : hs w4 = b at *
  generalize ht0 : hs w3 = t at *
  refine ⟨fun n x w' => ∃ i : Nat, x = (i : Int) ∧ i ≤ R ∧ n = R - i ∧ Grid w' b (b + 1) (hs w') (gridRows R C i 0) ∧ Tab w' t b C (List.replicate R (List.replicate C Inf)) ∧ b + 1 ≤ hs w' ∧ Grow w4 w', ⟨_, 0, rfl, Nat.zero_le _, rfl, G5, ht.grow (only_alloc e5), by omega, only_alloc e5⟩, ?_⟩
  clear G5 r5 ht
  rintro n _ w6 x ⟨i, rfl, hi, rfl, G6, T6, l6, g6⟩
  refine ⟨fun hlt => ?_, fun hge => ?_⟩
  · have hlt : i < R := by have := dT hlt; omega
    refine ⟨fun n x w' => ∃ j : Nat, x = (j : Int) ∧ j ≤ C ∧ n = C - j ∧ Grid w' b (b + 1) (hs w') (gridRows R C i j) ∧ Tab w' t b C (List.replicate R (List.replicate C Inf)) ∧ b + 1 ≤ hs w' ∧ Grow w4 w', ⟨_, 0, rfl, Nat.zero_le _, rfl, G6, T6, l6, g6⟩, ?_⟩
    clear G6 T6 l6 g6
    rintro n _ w7 x ⟨j, rfl, hj, rfl, G7, T7, l7, g7⟩
    refine ⟨fun hlt2 => ?_, fun hge2 => ?_⟩
    · have hlt2 : j < C := by have := dT hlt2; omega
      have hg := grid_get (C := C) (i := i) (j := j) hlt
      rw [if_neg (Nat.lt_irrefl i), if_pos rfl] at hg
      obtain ⟨oi, ci, c7, psh⟩ := G7.push hg l7 (by simp; omega)
      simp only [List.length_replicate] at c7 psh
      refine ⟨_, rfl, ⟨by omega, by omega⟩, _, _, _, c7, fun w8 e8 => psh w8 Inf _ e8 fun o' c' w9 th nx => ⟨_, _, _, rfl, _, rfl, ⟨by omega, by omega⟩, th, fun w10 e10 => ?_⟩⟩
      obtain ⟨G10, o10⟩ := nx w10 e10
      rw [grid_set hlt] at G10
      have l10 := o10.size
      refine ⟨_, ?_, j + 1, by rw [wr (by omega)]; omega, hlt2, rfl, G10, T7.keep o10 fun x h1 h2 h3 => by omega, by omega, g7.trans o10 fun x hx h => by omega⟩
      omega
    · have hge2 := dF hge2
      obtain rfl : j = C := by omega
      rw [grid_next] at G7
      exact ⟨_, by omega, i + 1, by rw [wr (by omega)]; omega, hlt, rfl, G7, T7, l7, g7⟩
  have hge := dF hge
  obtain rfl : i = R := by omega
  rw [grid_full] at G6
  have B6 : Both w6 t b (hs w6) i C (List.replicate i (List.replicate C Inf)) := ⟨T6, G6, ⟨l6, Nat.le_refl _⟩, by simp, fun r hr x hx => by
    rw [List.eq_of_mem_replicate hr] at hx; rw [List.eq_of_mem_replicate hx]; decide⟩
  clear G6 T6 l6 hge hi
  generalize hs w6 = T at B6
  refine ⟨fun n x w' => ∃ (s : Nat) (rows : List (List Int)), x = (s : Int) ∧ s ≤ steps.length ∧ n = steps.length - s ∧ Both w' t b T i C rows ∧ Grow w3 w', ⟨_, 0, _, rfl, Nat.zero_le _, rfl, B6, g4.trans' g6⟩, ?_⟩
  clear B6 g6 w6
  rintro n _ w6 x ⟨s, rows, rfl, hs', rfl, B6, g6⟩
  refine ⟨fun hlt => ?_, fun hge => ⟨rfl, g03.trans' g6⟩⟩
  have hlt : s < steps.length := by have := dT hlt; omega
  obtain ⟨a, ha, q1, q2, q3⟩ := Rd.step (hrd.grow (g03.trans' g6)) hlt
  generalize steps[s] = st at *
  obtain ⟨si, sj, sc⟩ := st
  simp only at q1 q2 q3
  refine ⟨a, ha, ⟨by omega, by omega⟩, _, q1, _, q2, _, q3, fun w7 e7 => ?_⟩
  have r7 := Row.new e7
  refine ⟨r7.there (by simp), fun w8 e8 => ?_⟩
  have r8 := r7.set e8
  have r8 : Row w8 (hs w6) 42 [.int .i64 si, .int .i64 sj, .int .i64 sc] := r8
  have g68 : Grow w6 w8 := (only_alloc e7).trans (only_set e8) fun x hx e => by omega
  have B8 := B6.grow g68
  have hk6 := B6.top
  clear r7 e7 e8
  intro k74 hk74
  have hlr := B6.len
  -- the step's result leads on
  have next : ∀ rows' w', Both w' t b T i C rows' → Grow w3 w' → ∃ n114, n114 < steps.length - s ∧ ∃ (s' : Nat) (rows : List (List Int)), IntKind.wrap .i64 ((s : Int) + 1) = (s' : Int) ∧ s' ≤ steps.length ∧ n114 = steps.length - s' ∧ Both w' t b T i C rows ∧ Grow w3 w' := fun rows' w' hB hg =>
    ⟨_, by omega, s + 1, rows', by rw [wr (by omega)]; omega, hlt, rfl, hB, hg⟩
  have key : k74 (setErr rows C si sj sc) w8 := by
    refine hk74 w8 _ fun _ => ⟨_, r8.cell rfl, _, r8.cell rfl, _, r8.cell rfl, (set_c t b C rows si sj sc w8 B8.tab).mono ?_⟩
    rintro e w9 ⟨g9, h9⟩
    have g49 : Grow w3 w9 := (g6.trans' g68).trans g9 fun x hx h => by omega
    by_cases he : setErr rows C si sj sc = true
    · rw [if_pos he] at h9
      obtain ⟨rfl, t9⟩ := h9
      have B9 : Both w9 t b T i C rows := ⟨t9, B8.grid.keep g9 (by omega) fun x h1 h2 h3 => by omega, ⟨B8.top.1, by have := B8.top.2; have := g9.size; omega⟩, hlr, B8.cost⟩
      rw [he]
      refine ⟨_, rfl, yes rfl (bT (bF fun k90 hk90 => bT (hk90 w9 fun _ => ?_)))⟩
      exact compare_c B9 (by omega) hC _ (fun w10 g10 => next rows w10 (B9.grow g10) (g49.trans' g10)) _
    · have he : setErr rows C si sj sc = false := by cases h : setErr rows C si sj sc <;> simp_all
      rw [if_neg (by rw [he]; exact Bool.noConfusion)] at h9
      obtain ⟨rfl, t9⟩ := h9
      rw [he]
      have r9 := r8.keep g9 (by omega)
      refine ⟨_, rfl, no (by decide) (bF (bF fun k90 hk90 => bF fun w10 e10 => ?_))⟩
      have g10 : Grow w9 w10 := only_drew e10
      obtain ⟨a, ci, p1, p2, p3⟩ := B8.set he (t9.grow g10) (Only.grow g9 g10)
      obtain ⟨⟨i0, i1⟩, ⟨j0, j1⟩, hc⟩ := setErr_get he
      have r10 := r9.grow g10
      refine ⟨_, r10.cell rfl, _, rfl, ⟨by omega, by omega⟩, _, _, _, p1, _, r10.cell rfl, _, r10.cell rfl, _, rfl, ⟨by omega, by omega⟩, p2, fun w11 e11 => ?_⟩
      obtain ⟨B11, o11⟩ := p3 w11 e11
      have g3b : Grow w3 w11 := (g49.trans' g10).trans o11 fun x hx h => by omega
      exact hk90 w11 fun _ => compare_c B11 (by omega) hC _ (fun w12 g12 => next _ w12 (B11.grow g12) (g3b.trans' g12)) _
  have kt : setErr rows C si sj sc = true → k74 true w8 := fun h => h ▸ key
  have kf : setErr rows C si sj sc = false → k74 false w8 := fun h => h ▸ key
  have isT : ∀ {p : Prop}, p → (si < 0 ∨ (rows.length : Int) ≤ si ∨ sj < 0 ∨ (C : Int) ≤ sj ∨ isCost sc = false) → setErr rows C si sj sc = true := fun _ h => by
    unfold setErr
    rcases h with h | h | h | h | h <;> simp [h]
  have isF : 0 ≤ si → si < (rows.length : Int) → 0 ≤ sj → sj < (C : Int) → isCost sc = true → setErr rows C si sj sc = false := fun h1 h2 h3 h4 h5 => by
    unfold setErr
    rw [h5]
    simp; omega
  refine ⟨_, r8.cell rfl, fun a1 => kt (isT trivial (.inl (dT a1))), fun a1 => ⟨_, r8.cell rfl, fun a2 => kt (isT trivial (.inr (.inl (by have := dT a2; omega)))), fun a2 => ⟨_, r8.cell rfl, fun a3 => kt (isT trivial (.inr (.inr (.inl (dT a3))))), fun a3 => ⟨_, r8.cell rfl, fun a4 => kt (isT trivial (.inr (.inr (.inr (.inl (by have := dT a4; omega)))))), fun a4 => ?_⟩⟩⟩⟩
  have b1 := dF a1
  have b2 := dF a2
  have b3 := dF a3
  have b4 := dF a4
  refine ⟨_, r8.cell rfl, fun a5 => ⟨_, r8.cell rfl, fun a6 => kt (isT trivial (.inr (.inr (.inr (.inr (isCost_not (by have := dT a5; have := nT a6; omega))))))), fun a6 => kf (isF (by omega) (by omega) (by omega) (by omega) (isCost_of (.inr (nF a6))))⟩, fun a5 => ⟨_, r8.cell rfl, fun a6 => ⟨_, r8.cell rfl, fun a7 => kt (isT trivial (.inr (.inr (.inr (.inr (isCost_not (by have := dT a6; have := nT a7; omega))))))), fun a7 => kf (isF (by omega) (by omega) (by omega) (by omega) (isCost_of (.inr (nF a7))))⟩, fun a6 => kf (isF (by omega) (by omega) (by omega) (by omega) (isCost_of (.inl (by have := dF a5; have := dF a6; omega))))⟩⟩
end Go.Proofs.Ytalplekmbhemnaa
