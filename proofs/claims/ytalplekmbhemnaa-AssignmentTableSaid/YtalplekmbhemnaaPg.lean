/- Plain: a perfect tight matching is the best assignment. -/
import Derived.Test.YtalplekmbhemnaaPf
namespace Go.Proofs.Ytalplekmbhemnaa
open Go Go.Nf

/-! ### sums, and one-to-one maps that are made whole -/
def sumN (n : Nat) (f : Nat → Int) : Int := match n with
  | 0 => 0
  | n + 1 => sumN n f + f n
theorem sumN_congr {f g : Nat → Int} : ∀ {n : Nat}, (∀ i, i < n → f i = g i) → sumN n f = sumN n g
  | 0, _ => rfl
  | n + 1, h => by rw [sumN, sumN, sumN_congr fun i hi => h i (by omega), h n (by omega)]
theorem sumN_le {f g : Nat → Int} : ∀ {n : Nat}, (∀ i, i < n → f i ≤ g i) → sumN n f ≤ sumN n g
  | 0, _ => Int.le_refl _
  | n + 1, h => by have := sumN_le (n := n) fun i hi => h i (by omega); have := h n (by omega); rw [sumN, sumN]; omega
theorem sumN_eq {f g : Nat → Int} : ∀ {n : Nat}, (∀ i, i < n → f i ≤ g i) → sumN n f = sumN n g → ∀ i, i < n → f i = g i
  | 0, _, _, i, hi => by omega
  | n + 1, h, e, i, hi => by
    have h1 := sumN_le (n := n) fun i hi => h i (by omega)
    have h2 := h n (by omega)
    rw [sumN, sumN] at e
    by_cases hn : i = n
    · subst hn; omega
    · exact sumN_eq (n := n) (fun i hi => h i (by omega)) (by omega) i (by omega)
theorem sumN_add (f g : Nat → Int) : ∀ n : Nat, sumN n (fun i => f i + g i) = sumN n f + sumN n g
  | 0 => rfl
  | n + 1 => by rw [sumN, sumN, sumN, sumN_add f g n]; omega
theorem sumN_put (f : Nat → Int) (p : Nat) (x : Int) : ∀ n : Nat, sumN n (fun i => if i = p then x else f i) = if p < n then sumN n f - f p + x else sumN n f
  | 0 => rfl
  | n + 1 => by
    rw [sumN, sumN_put f p x n, sumN]
    by_cases h1 : n = p
    · subst h1; rw [if_neg (by omega), if_pos rfl, if_pos (by omega)]; omega
    · rw [if_neg h1]
      by_cases h2 : p < n
      · rw [if_pos h2, if_pos (by omega)]; omega
      · rw [if_neg h2, if_neg (by omega)]
theorem sumN_perm (f : Nat → Int) : ∀ (n : Nat) (g : Nat → Nat), (∀ i, i < n → g i < n) → (∀ i j, i < n → j < n → g i = g j → i = j) → sumN n (fun i => f (g i)) = sumN n f
  | 0, _, _, _ => rfl
  | n + 1, g, h, hi => by
    by_cases e : g n = n
    · rw [sumN, sumN, e, sumN_perm f n g (fun i hin => by
        have := h i (by omega)
        have : g i ≠ n := fun e' => by have := hi i n (by omega) (by omega) (by omega); omega
        omega) fun i j h1 h2 e => hi i j (by omega) (by omega) e]
    · obtain ⟨p, hp, hpe⟩ := onto h hi n (by omega)
      have hpn : p ≠ n := fun e' => e (e' ▸ hpe)
      have hgn := h n (by omega)
      have key := sumN_perm f n (fun i => if i = p then g n else g i) (fun i hin => by
        show (if i = p then g n else g i) < n
        split
        · omega
        · have := h i (by omega)
          have : g i ≠ n := fun e' => by have := hi i p (by omega) (by omega) (by omega); omega
          omega) (fun i j h1 h2 e => by
        split at e <;> split at e
        · omega
        · exact absurd (hi n j (by omega) (by omega) e) (by omega)
        · exact absurd (hi i n (by omega) (by omega) e) (by omega)
        · exact hi i j (by omega) (by omega) e)
      have e2 : sumN n (fun i => f (if i = p then g n else g i)) = sumN n (fun i => if i = p then f (g n) else f (g i)) := sumN_congr fun i _ => by split <;> rfl
      rw [e2, sumN_put (fun i => f (g i)) p (f (g n)) n, if_pos (by omega)] at key
      rw [hpe] at key
      rw [sumN, sumN]
      omega
theorem missed {n m : Nat} {f : Nat → Nat} (hnm : n < m) : ∃ y, y < m ∧ ∀ i, i < n → f i ≠ y := by
  refine Classical.byContradiction fun hn => ?_
  have hall : ∀ y, y < m → ∃ i, i < n ∧ f i = y := fun y hy => Classical.byContradiction fun hh => hn ⟨y, hy, fun i hi e => hh ⟨i, hi, e⟩⟩
  let k : Nat → Nat := fun y => if h : y < m then Classical.choose (hall y h) else 0
  have hk : ∀ y, y < m → k y < n ∧ f (k y) = y := fun y hy => by
    have := Classical.choose_spec (hall y hy)
    show (dite _ _ _ : Nat) < _ ∧ f (dite _ _ _) = _
    rw [dif_pos hy]; exact this
  have := pigeon m n k (fun y hy => (hk y hy).1) (fun y z hy hz e => by
    have h1 := (hk y hy).2
    have h2 := (hk z hz).2
    rw [e] at h1
    omega)
  omega
theorem extend : ∀ (d n m : Nat) (f : Nat → Nat), m = n + d → (∀ i, i < n → f i < m) → (∀ i j, i < n → j < n → f i = f j → i = j) →
    ∃ g : Nat → Nat, (∀ i, i < n → g i = f i) ∧ (∀ i, i < m → g i < m) ∧ ∀ i j, i < m → j < m → g i = g j → i = j
  | 0, n, m, f, e, h, hi => ⟨f, fun _ _ => rfl, fun i him => h i (by omega), fun i j h1 h2 => hi i j (by omega) (by omega)⟩
  | d + 1, n, m, f, e, h, hi => by
    obtain ⟨y, hy, hne⟩ := missed (n := n) (m := m) (f := f) (by omega)
    obtain ⟨g, g1, g2, g3⟩ := extend d (n + 1) m (fun i => if i = n then y else f i) (by omega) (fun i hin => by
      show (if i = n then y else f i) < m
      split
      · exact hy
      · exact h i (by omega)) (fun i j h1 h2 e => by
      split at e <;> split at e
      · omega
      · exact absurd e.symm (hne j (by omega))
      · exact absurd e (hne i (by omega))
      · exact hi i j (by omega) (by omega) e)
    refine ⟨g, fun i hin => ?_, g2, g3⟩
    rw [g1 i (by omega), if_neg (by omega)]

/-! ### assignments -/
/-- an assignment of a matrix -/
structure Valid (rows : List (List Int)) (C : Nat) (m : List Int) : Prop where
  len : m.length = rows.length
  ok : ∀ i, i < rows.length → gm m i = -1 ∨ (0 ≤ gm m i ∧ gm m i < C ∧ at2 rows i (gm m i) ≠ Inf)
  ne : ∀ i k, i < rows.length → k < rows.length → gm m i ≠ -1 → gm m k = gm m i → k = i
/-- m is before m' -/
def Ahead (m m' : List Int) : Prop := ∃ a, a < m.length ∧ (∀ b, b < a → gm m b = gm m' b) ∧ gm m a ≠ gm m' a ∧ gm m a ≠ -1 ∧ (gm m' a = -1 ∨ gm m a < gm m' a)
structure Best (rows : List (List Int)) (C : Nat) (m : List Int) : Prop where
  valid : Valid rows C m
  most : ∀ m', Valid rows C m' → cnt m' rows.length ≤ cnt m rows.length
  least : ∀ m', Valid rows C m' → cnt m' rows.length = cnt m rows.length → tot rows m rows.length ≤ tot rows m' rows.length
  first : ∀ m', Valid rows C m' → cnt m' rows.length = cnt m rows.length → tot rows m rows.length = tot rows m' rows.length → m' = m ∨ Ahead m m'

/-- the column of a row in the square -/
def sig (m : List Int) (C i : Nat) : Nat := if gm m i = -1 then C + i else (gm m i).toNat
theorem Valid.sig_inj {rows : List (List Int)} {C : Nat} {m : List Int} (h : Valid rows C m) : ∀ i j, i < rows.length → j < rows.length → sig m C i = sig m C j → i = j := fun i j hi hj e => by
  have h1 := h.ok i hi
  have h2 := h.ok j hj
  unfold sig at e
  split at e <;> split at e
  · omega
  · omega
  · omega
  · rename_i h3 h4
    exact h.ne j i hj hi h4 (by omega)
theorem Valid.sum {rows : List (List Int)} {C : Nat} {m : List Int} {Q : Sq} (h : Valid rows C m) (ho : CostOk Q rows.length C) (hc : ∀ i j, i < rows.length → j < C → Q.c i j = at2 rows i (j : Int)) :
    ∀ n, n ≤ rows.length → sumN n (fun i => Q.c i (sig m C i)) = tot rows m n + 140737488355328 * ((n : Int) - cnt m n)
  | 0, _ => by simp [sumN, tot, cnt]
  | n + 1, hn => by
    rw [sumN, Valid.sum h ho hc n (by omega), tot, cnt]
    unfold sig
    rcases h.ok n (by omega) with e | ⟨h1, h2, h3⟩
    · rw [if_pos e, if_pos e, if_pos e, ho.own n (by omega)]; omega
    · rw [if_neg (by omega), if_neg (by omega), if_neg (by omega), hc n _ (by omega) (by omega), Int.toNat_of_nonneg h1]; omega
theorem Valid.fin {rows : List (List Int)} {C : Nat} {m : List Int} {Q : Sq} (h : Valid rows C m) (ho : CostOk Q rows.length C) (hc : ∀ i j, i < rows.length → j < C → Q.c i j = at2 rows i (j : Int)) {i : Nat} (hi : i < rows.length) :
    sig m C i < Q.size ∧ Q.c i (sig m C i) ≠ Inf := by
  have hs := ho.size
  unfold sig
  rcases h.ok i hi with e | ⟨h1, h2, h3⟩
  · rw [if_pos e, ho.own i hi]; exact ⟨by omega, by unfold Inf; omega⟩
  · rw [if_neg (by omega), hc i _ hi (by omega), Int.toNat_of_nonneg h1]; exact ⟨by omega, h3⟩
theorem Valid.tot_bd {rows : List (List Int)} {C : Nat} {m : List Int} {Q : Sq} (h : Valid rows C m) (ho : CostOk Q rows.length C) (hc : ∀ i j, i < rows.length → j < C → Q.c i j = at2 rows i (j : Int)) :
    ∀ n, n ≤ rows.length → 0 ≤ tot rows m n ∧ tot rows m n ≤ 1099511627776 * n
  | 0, _ => by simp [tot]
  | n + 1, hn => by
    have := Valid.tot_bd h ho hc n (by omega)
    rw [tot]
    rcases h.ok n (by omega) with e | ⟨h1, h2, h3⟩
    · rw [if_pos e]; omega
    · rw [if_neg (by omega)]
      have h4 := hc n (gm m n).toNat (by omega) (by omega)
      rw [Int.toNat_of_nonneg h1] at h4
      have := ho.real n (gm m n).toNat (by omega) (by omega)
      omega
theorem sumN_extra {f : Nat → Int} {R : Nat} : ∀ d, (∀ i, R ≤ i → i < R + d → f i = 0) → sumN (R + d) f = sumN R f
  | 0, _ => rfl
  | d + 1, h => by rw [← Nat.add_assoc, sumN, sumN_extra d fun i h1 h2 => h i h1 (by omega), h (R + d) (by omega) (by omega)]; omega
/-- made whole: a matching of all rows of the square, of the same cost -/
theorem Valid.whole {rows : List (List Int)} {C : Nat} {m : List Int} {Q : Sq} (h : Valid rows C m) (ho : CostOk Q rows.length C) (hc : ∀ i j, i < rows.length → j < C → Q.c i j = at2 rows i (j : Int)) :
    ∃ g : Nat → Nat, (∀ i, i < rows.length → g i = sig m C i) ∧ (∀ i, i < Q.size → g i < Q.size ∧ Q.c i (g i) ≠ Inf) ∧ (∀ i j, i < Q.size → j < Q.size → g i = g j → i = j) ∧
      sumN Q.size (fun i => Q.c i (g i)) = tot rows m rows.length + 140737488355328 * ((rows.length : Int) - cnt m rows.length) := by
  have hs := ho.size
  obtain ⟨g, g1, g2, g3⟩ := extend C rows.length Q.size (sig m C) hs (fun i hi => (h.fin ho hc hi).1) h.sig_inj
  refine ⟨g, g1, fun i hi => ⟨g2 i hi, ?_⟩, g3, ?_⟩
  · by_cases hr : i < rows.length
    · rw [g1 i hr]; exact (h.fin ho hc hr).2
    · have := g2 i hi
      rw [ho.extra i _ (by omega) (by omega) (by omega)]; unfold Inf; omega
  · rw [hs, sumN_extra C fun i h1 h2 => ho.extra i _ h1 h2 (by have := g2 i (by omega); omega), ← h.sum ho hc rows.length (Nat.le_refl _)]
    exact sumN_congr fun i hi => by rw [g1 i hi]
theorem gm_ext {m m' : List Int} (hl : m'.length = m.length) (h : ∀ i, i < m.length → gm m' i = gm m i) : m' = m := by
  refine List.ext_getElem hl fun i h1 h2 => ?_
  have := h i h2
  unfold gm at this
  rw [List.getElem?_eq_getElem h1, List.getElem?_eq_getElem h2] at this
  exact this
theorem first_diff (p : Nat → Prop) : ∀ n, (∀ i, i < n → p i) ∨ ∃ a, a < n ∧ ¬ p a ∧ ∀ b, b < a → p b
  | 0 => .inl fun i hi => by omega
  | n + 1 => by
    rcases first_diff p n with h | ⟨a, h1, h2, h3⟩
    · by_cases hn : p n
      · refine .inl fun i hi => ?_
        by_cases e : i = n
        · subst e; exact hn
        · exact h i (by omega)
      · exact .inr ⟨n, by omega, hn, h⟩
    · exact .inr ⟨a, by omega, h2, h3⟩
/-- what solve reads off the square -/
def Reads (Q : Sq) (R C : Nat) (m : List Int) : Prop := m.length = R ∧ ∀ i : Nat, i < R → ∃ j, j < Q.size ∧ gI Q.rowOf j = (i : Int) ∧ gm m i = if j < C then (j : Int) else -1
theorem Perf.best {rows : List (List Int)} {C : Nat} {m : List Int} {Q : Sq} (hp : Perf Q rows.length C) (hl : Lex Q rows.length) (hc : ∀ i j, i < rows.length → j < C → Q.c i j = at2 rows i (j : Int)) (hm : Reads Q rows.length C m) : Best rows C m := by
  have hs := hp.cost.size
  have hsm := hp.cost.small
  have ho := hp.cost
  have hcol : ∀ i : Nat, i < rows.length → ∀ j, j < Q.size → gI Q.rowOf j = (i : Int) → sig m C i = j := fun i hi j hj e => by
    obtain ⟨j', h1, h2, h3⟩ := hm.2 i hi
    obtain rfl := hp.inj j j' hj h1 (by omega)
    have ht := hp.tight i j hj e
    unfold sig
    rw [h3]
    by_cases hjc : j < C
    · rw [if_pos hjc, if_neg (by omega)]; omega
    · rw [if_neg hjc, if_pos rfl]
      refine Classical.byContradiction fun hne => ht.1 (ho.none i j hi (by omega) (by omega) fun e => hne e.symm)
  have hv : Valid rows C m := by
    refine ⟨hm.1, fun i hi => ?_, fun i k hi hk h1 h2 => ?_⟩
    · obtain ⟨j, h1, h2, h3⟩ := hm.2 i hi
      have ht := hp.tight i j h1 h2
      by_cases hjc : j < C
      · rw [if_pos hjc] at h3
        rw [h3, ← hc i j hi hjc]
        exact .inr ⟨by omega, by omega, ht.1⟩
      · rw [if_neg hjc] at h3; exact .inl h3
    · obtain ⟨j, g1, g2, g3⟩ := hm.2 i hi
      obtain ⟨j', k1, k2, k3⟩ := hm.2 k hk
      have : j = j' := by
        by_cases h4 : j < C <;> by_cases h5 : j' < C
        · rw [if_pos h4] at g3; rw [if_pos h5] at k3; omega
        · rw [if_pos h4] at g3; rw [if_neg h5] at k3; omega
        · rw [if_neg h4] at g3; omega
        · rw [if_neg h4] at g3; omega
      subst this
      omega
  -- our own sum
  have hmine : tot rows m rows.length + 140737488355328 * ((rows.length : Int) - cnt m rows.length) = sumN Q.size (fun i => gI Q.rowD i) + sumN Q.size (fun i => gI Q.colD i) := by
    let g0 : Nat → Nat := fun i => if h : i < Q.size then Classical.choose (hp.all i h) else 0
    have hg : ∀ i, i < Q.size → g0 i < Q.size ∧ gI Q.rowOf (g0 i) = (i : Int) := fun i hi => by
      have := Classical.choose_spec (hp.all i hi)
      show (dite _ _ _ : Nat) < _ ∧ gI Q.rowOf (dite _ _ _) = _
      rw [dif_pos hi]; exact this
    have hinj : ∀ i j, i < Q.size → j < Q.size → g0 i = g0 j → i = j := fun i j hi hj e => by
      have h1 := (hg i hi).2
      have h2 := (hg j hj).2
      rw [e] at h1
      omega
    rw [← hv.sum ho hc rows.length (Nat.le_refl _), ← sumN_perm (fun i => gI Q.colD i) Q.size g0 (fun i hi => (hg i hi).1) hinj, ← sumN_add]
    have e1 : sumN Q.size (fun i => gI Q.rowD i + gI Q.colD (g0 i)) = sumN Q.size (fun i => Q.c i (g0 i)) := sumN_congr fun i hi => (hp.tight i _ (hg i hi).1 (hg i hi).2).2.symm
    rw [e1]
    rw [show sumN Q.size (fun i => Q.c i (g0 i)) = sumN rows.length (fun i => Q.c i (g0 i)) by rw [hs]; exact sumN_extra C fun i h1 h2 => ho.extra i _ h1 h2 (by have := (hg i (by omega)).1; omega)]
    exact sumN_congr fun i hi => by rw [hcol i hi _ (hg i (by omega)).1 (hg i (by omega)).2]
  have key : ∀ m', Valid rows C m' → tot rows m rows.length + 140737488355328 * ((rows.length : Int) - cnt m rows.length) ≤ tot rows m' rows.length + 140737488355328 * ((rows.length : Int) - cnt m' rows.length) ∧
      (tot rows m rows.length + 140737488355328 * ((rows.length : Int) - cnt m rows.length) = tot rows m' rows.length + 140737488355328 * ((rows.length : Int) - cnt m' rows.length) → ∃ g, Mate Q g ∧ ∀ i, i < rows.length → g i = sig m' C i) := fun m' hv' => by
    obtain ⟨g, g1, g2, g3, g4⟩ := hv'.whole ho hc
    have hle : ∀ i, i < Q.size → gI Q.rowD i + gI Q.colD (g i) ≤ Q.c i (g i) := fun i hi => hp.feas i _ hi (g2 i hi).1 (g2 i hi).2
    have e1 : sumN Q.size (fun i => gI Q.rowD i + gI Q.colD (g i)) = sumN Q.size (fun i => gI Q.rowD i) + sumN Q.size (fun i => gI Q.colD i) := by
      rw [sumN_add, sumN_perm (fun i => gI Q.colD i) Q.size g (fun i hi => (g2 i hi).1) g3]
    rw [hmine, ← g4, ← e1]
    exact ⟨sumN_le hle, fun e => ⟨g, ⟨fun i hi => (g2 i hi).1, g3, fun i hi => ⟨(g2 i hi).2, (sumN_eq hle e i hi).symm⟩⟩, g1⟩⟩
  have bd := hv.tot_bd ho hc rows.length (Nat.le_refl _)
  refine ⟨hv, fun m' hv' => ?_, fun m' hv' e => ?_, fun m' hv' e1 e2 => ?_⟩
  · have := (key m' hv').1
    have := hv'.tot_bd ho hc rows.length (Nat.le_refl _)
    omega
  · have := (key m' hv').1
    omega
  · obtain ⟨g, hg, hgs⟩ := (key m' hv').2 (by omega)
    rcases first_diff (fun i => gm m' i = gm m i) rows.length with h | ⟨a, h1, h2, h3⟩
    · refine .inl (gm_ext (hv'.len.trans hv.len.symm) fun i hi => h i (by have := hv.len; omega))
    · refine .inr ⟨a, by have := hv.len; omega, fun b hb => (h3 b hb).symm, fun e => h2 e.symm, ?_⟩
      have hsame : ∀ b : Nat, b < a → gI Q.rowOf (g b) = (b : Int) := fun b hb => by
        obtain ⟨j, k1, k2⟩ := hp.all b (by omega)
        have := hcol b (by omega) j k1 k2
        rw [hgs b (by omega)]
        have e : sig m' C b = sig m C b := by unfold sig; rw [h3 b hb]
        rw [e, this]; exact k2
      obtain ⟨j, k1, k2, k3⟩ := hl g hg a h1 hsame
      have hj := hcol a h1 j k1 k2
      rw [hgs a h1] at k3
      have ok1 := hv.ok a h1
      have ok2 := hv'.ok a h1
      unfold sig at hj k3
      split at hj <;> split at k3 <;> omega
end Go.Proofs.Ytalplekmbhemnaa
