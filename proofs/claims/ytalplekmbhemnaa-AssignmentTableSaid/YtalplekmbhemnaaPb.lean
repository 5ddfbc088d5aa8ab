/- Plain: the state of the assignment between two insertions, and within one. -/
import Derived.Test.YtalplekmbhemnaaPa
namespace Go.Proofs.Ytalplekmbhemnaa
open Go Go.Nf

/-- the costs of a square with R real rows and C real columns -/
structure CostOk (Q : Sq) (R C : Nat) : Prop where
  size : Q.size = R + C
  small : R ≤ 64 ∧ C ≤ 64
  real : ∀ i j, i < R → j < C → Q.c i j = Inf ∨ (0 ≤ Q.c i j ∧ Q.c i j ≤ 1099511627776)
  own : ∀ i, i < R → Q.c i (C + i) = 140737488355328
  none : ∀ i j, i < R → C ≤ j → j < R + C → j ≠ C + i → Q.c i j = Inf
  extra : ∀ i j, R ≤ i → i < R + C → j < R + C → Q.c i j = 0
theorem CostOk.bd {Q : Sq} {R C : Nat} (h : CostOk Q R C) {i j : Nat} (hi : i < Q.size) (hj : j < Q.size) (hf : Q.c i j ≠ Inf) : 0 ≤ Q.c i j ∧ Q.c i j ≤ 140737488355328 := by
  have hs := h.size
  by_cases h1 : i < R
  · by_cases h2 : j < C
    · rcases h.real i j h1 h2 with e | e
      · exact absurd e hf
      · omega
    · by_cases h3 : j = C + i
      · subst h3; rw [h.own i h1]; omega
      · exact absurd (h.none i j h1 (by omega) (by omega) h3) hf
  · rw [h.extra i j (by omega) (by omega) (by omega)]; omega

/-- rows below k have a column each; the prices fit -/
structure Inv (Q : Sq) (R C k : Nat) : Prop where
  cost : CostOk Q R C
  kS : k ≤ Q.size
  len : Q.rowOf.length = Q.size ∧ Q.rowD.length = Q.size ∧ Q.colD.length = Q.size
  row : ∀ j, j < Q.size → gI Q.rowOf j = -1 ∨ (0 ≤ gI Q.rowOf j ∧ gI Q.rowOf j < k)
  inj : ∀ j j', j < Q.size → j' < Q.size → gI Q.rowOf j = gI Q.rowOf j' → 0 ≤ gI Q.rowOf j → j = j'
  feas : ∀ i j, i < Q.size → j < Q.size → Q.c i j ≠ Inf → gI Q.rowD i + gI Q.colD j ≤ Q.c i j
  all : ∀ i : Nat, i < k → ∃ j, j < Q.size ∧ gI Q.rowOf j = (i : Int)
  tight : ∀ (i : Nat) j, j < Q.size → gI Q.rowOf j = (i : Int) → Q.c i j ≠ Inf ∧ Q.c i j = gI Q.rowD i + gI Q.colD j
  free : ∀ j, j < Q.size → gI Q.colD j ≤ 0 ∧ (gI Q.rowOf j = -1 → gI Q.colD j = 0)
  late : ∀ i, k ≤ i → i < Q.size → gI Q.rowD i = 0
  bu : ∀ i, i < Q.size → 0 ≤ gI Q.rowD i ∧ gI Q.rowD i ≤ 140737488355328 * k
  bv : ∀ j, j < Q.size → -(140737488355328 * k) ≤ gI Q.colD j
end Go.Proofs.Ytalplekmbhemnaa
