/- The engine, part Y: lists and matrices of numbers that are read; small facts on tests. -/
import Derived.Test.YtcaokpglbolkcaaGreatNfW
namespace Go.Nf
open Go

theorem dT {p : Prop} [Decidable p] (h : decide p = true) : p := of_decide_eq_true h
theorem dF {p : Prop} [Decidable p] (h : decide p = false) : ¬ p := of_decide_eq_false h
theorem nT {p : Prop} [Decidable p] (h : (!decide p) = true) : ¬ p := by simpa using h
theorem nF {p : Prop} [Decidable p] (h : (!decide p) = false) : p := by simpa using h
theorem ret_int {k : IntKind} {a b : Int} (h : a = b) : Ending.returned (.int k a) = .returned (.int k b) := by rw [h]
theorem ret_bool {a b : Bool} (h : a = b) : Ending.returned (.bool a) = .returned (.bool b) := by rw [h]
theorem wr {x : Int} (h : -9223372036854775808 ≤ x ∧ x ≤ 9223372036854775807) : IntKind.wrap .i64 x = x := by rw [IntKind.wrap_i64]; omega
theorem yes {p A B : Prop} [Decidable p] (h : p) (a : A) : (decide p = true → A) ∧ (decide p = false → B) := ⟨fun _ => a, fun k => absurd h (dF k)⟩
theorem no {p A B : Prop} [Decidable p] (h : ¬ p) (b : B) : (decide p = true → A) ∧ (decide p = false → B) := ⟨fun k => absurd (dT k) h, fun _ => b⟩
theorem nyes {p A B : Prop} [Decidable p] (h : ¬ p) (a : A) : ((!decide p) = true → A) ∧ ((!decide p) = false → B) := ⟨fun _ => a, fun k => absurd (nF k) h⟩
theorem nno {p A B : Prop} [Decidable p] (h : p) (b : B) : ((!decide p) = true → A) ∧ ((!decide p) = false → B) := ⟨fun k => absurd h (nT k), fun _ => b⟩
theorem bT {A B : Prop} (a : A) : (true = true → A) ∧ (true = false → B) := ⟨fun _ => a, fun k => Bool.noConfusion k⟩
theorem bF {A B : Prop} (b : B) : (false = true → A) ∧ (false = false → B) := ⟨fun k => Bool.noConfusion k, fun _ => b⟩
theorem toNat_cast (k : Nat) : ((k : Int)).toNat = k := Int.toNat_natCast k
theorem tmod_cast (a b : Nat) : Int.tmod (a : Int) (b : Int) = ((a % b : Nat) : Int) := by
  rw [Int.tmod_eq_emod_of_nonneg (by omega), Int.natCast_emod]

theorem cell_keep {S : Nat → Prop} {w w' : World} {a : Addr} {v : Value} (g : Only S w w') (hs : ¬ S a.block) (h : w.cell? a = some v) : w'.cell? a = some v := by
  have e := g.block a.block (cell_block h) hs
  rw [← h]
  simp only [World.cell?, e]

/-- the numbers behind a slice that is read; its cells lie in blocks that A names -/
def Nums (w : World) (A : Nat → Prop) (o : Option Addr) (xs : List Int) : Prop :=
  ∀ (j : Nat) v, xs[j]? = some v → ∃ a, o = some a ∧ A a.block ∧ w.cell? (a.add ((j : Int).toNat * 1)) = some (.int .i64 v)
theorem Nums.keep {w w' : World} {A S : Nat → Prop} {o : Option Addr} {xs : List Int} (h : Nums w A o xs) (g : Only S w w') (hS : ∀ b, A b → ¬ S b) : Nums w' A o xs := fun j v hj => by
  obtain ⟨a, ha, hA, hc⟩ := h j v hj
  refine ⟨a, ha, hA, cell_keep g ?_ hc⟩
  have : (a.add ((j : Int).toNat * 1)).block = a.block := ChangeShapes.block_add _ _
  rw [this]; exact hS _ hA
theorem Nums.grow {w w' : World} {A : Nat → Prop} {o : Option Addr} {xs : List Int} (h : Nums w A o xs) (g : Grow w w') : Nums w' A o xs := h.keep g fun _ _ h => h
theorem Nums.get {w : World} {A : Nat → Prop} {o : Option Addr} {xs : List Int} (h : Nums w A o xs) {j : Nat} (hj : j < xs.length) :
    ∃ a, o = some a ∧ w.cell? (a.add ((j : Int).toNat * 1)) = some (.int .i64 xs[j]) := by
  obtain ⟨a, ha, -, hc⟩ := h j _ (List.getElem?_eq_getElem hj)
  exact ⟨a, ha, hc⟩
/-- the rows behind a slice of slices -/
def Mat (w : World) (A : Nat → Prop) (o : Option Addr) (rows : List (List Int)) : Prop :=
  ∀ (i : Nat) row, rows[i]? = some row → ∃ a oi ci, o = some a ∧ A a.block ∧ w.cell? (a.add ((i : Int).toNat * 1)) = some (.slice oi row.length ci) ∧ Nums w A oi row
theorem Mat.keep {w w' : World} {A S : Nat → Prop} {o : Option Addr} {xs : List (List Int)} (h : Mat w A o xs) (g : Only S w w') (hS : ∀ b, A b → ¬ S b) : Mat w' A o xs := fun j v hj => by
  obtain ⟨a, oi, ci, ha, hA, hc, hn⟩ := h j v hj
  refine ⟨a, oi, ci, ha, hA, cell_keep g ?_ hc, hn.keep g hS⟩
  have : (a.add ((j : Int).toNat * 1)).block = a.block := ChangeShapes.block_add _ _
  rw [this]; exact hS _ hA
theorem Mat.grow {w w' : World} {A : Nat → Prop} {o : Option Addr} {xs : List (List Int)} (h : Mat w A o xs) (g : Grow w w') : Mat w' A o xs := h.keep g fun _ _ h => h
theorem Mat.get {w : World} {A : Nat → Prop} {o : Option Addr} {xs : List (List Int)} (h : Mat w A o xs) {j : Nat} (hj : j < xs.length) :
    ∃ a oi ci, o = some a ∧ w.cell? (a.add ((j : Int).toNat * 1)) = some (.slice oi xs[j].length ci) ∧ Nums w A oi xs[j] := by
  obtain ⟨a, oi, ci, ha, -, hc, hn⟩ := h j _ (List.getElem?_eq_getElem hj)
  exact ⟨a, oi, ci, ha, hc, hn⟩
theorem Mat.get0 {w : World} {A : Nat → Prop} {o : Option Addr} {xs : List (List Int)} (h : Mat w A o xs) (hj : 0 < xs.length) :
    ∃ a oi ci, o = some a ∧ w.cell? a = some (.slice oi xs[0].length ci) ∧ Nums w A oi xs[0] := by
  obtain ⟨a, oi, ci, ha, hc, hn⟩ := h.get hj
  refine ⟨a, oi, ci, ha, ?_, hn⟩
  rw [show ((0 : Nat) : Int).toNat * 1 = 0 from rfl, add_zero] at hc
  exact hc
end Go.Nf
