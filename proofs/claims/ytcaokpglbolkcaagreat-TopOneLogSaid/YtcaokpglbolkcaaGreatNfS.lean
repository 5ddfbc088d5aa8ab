/- The engine, part S: records behind a slice that is read; strings as lists of bytes. -/
import Derived.Test.YtcaokpglbolkcaaGreatNfU
namespace Go.Nf
open Go Go.RowKit

/-- the records behind a slice that is read, k cells each; their cells lie in blocks that A names -/
def Recs (w : World) (A : Nat → Prop) (o : Option Addr) (k : Nat) (rows : List (List Value)) : Prop :=
  ∀ (i : Nat) row, rows[i]? = some row → ∃ a, o = some a ∧ A a.block ∧ ∀ j v, row[j]? = some v → w.cell? ((a.add ((i : Int).toNat * k)).add j) = some v
theorem block_add2 (a : Addr) (i j : Nat) : ((a.add i).add j).block = a.block := by
  have h1 : ∀ (a : Addr) (n : Nat), (a.add n).block = a.block := fun a n => ChangeShapes.block_add a n
  rw [h1, h1]
theorem Recs.keep {w w' : World} {A S : Nat → Prop} {o : Option Addr} {k : Nat} {rows : List (List Value)} (h : Recs w A o k rows) (g : Only S w w') (hS : ∀ b, A b → ¬ S b) : Recs w' A o k rows := fun i row hi => by
  obtain ⟨a, ha, hA, hc⟩ := h i row hi
  exact ⟨a, ha, hA, fun j v hj => cell_keep g (by rw [block_add2]; exact hS _ hA) (hc j v hj)⟩
theorem Recs.grow {w w' : World} {A : Nat → Prop} {o : Option Addr} {k : Nat} {rows : List (List Value)} (h : Recs w A o k rows) (g : Grow w w') : Recs w' A o k rows := h.keep g fun _ _ h => h
theorem Recs.mono {w : World} {A A' : Nat → Prop} {o : Option Addr} {k : Nat} {rows : List (List Value)} (h : Recs w A o k rows) (hA : ∀ b, A b → A' b) : Recs w A' o k rows := fun i row hi => by
  obtain ⟨a, h1, h2, h3⟩ := h i row hi
  exact ⟨a, h1, hA _ h2, h3⟩
theorem Recs.nil (w : World) (A : Nat → Prop) (o : Option Addr) (k : Nat) : Recs w A o k [] := fun i row h => by simp at h
theorem Recs.get {w : World} {A : Nat → Prop} {o : Option Addr} {k : Nat} {rows : List (List Value)} (h : Recs w A o k rows) {i : Nat} (hi : i < rows.length) :
    ∃ a, o = some a ∧ A a.block ∧ ∀ j v, rows[i][j]? = some v → w.cell? ((a.add ((i : Int).toNat * k)).add j) = some v := h i _ (List.getElem?_eq_getElem hi)

/-! ### strings -/
def sb (s : ByteArray) : List UInt8 := s.data.toList
theorem sb_len (s : ByteArray) : (sb s).length = s.size := rfl
theorem byteAt_sb (s : ByteArray) (i : Nat) : byteAt s i = (sb s)[i]? := by
  unfold byteAt sb
  by_cases h : i < s.size
  · rw [getElem?_pos s i h, List.getElem?_eq_getElem (by exact h)]; rfl
  · rw [getElem?_neg s i h, List.getElem?_eq_none (by rw [show s.data.toList.length = s.size from rfl]; omega)]
theorem sb_inj {s t : ByteArray} (h : sb s = sb t) : s = t := by
  cases s with | mk a => cases t with | mk b => exact congrArg ByteArray.mk (Array.ext' h)
theorem byteAt_get {s : ByteArray} {i : Nat} (h : i < s.size) : byteAt s i = some ((sb s)[i]'h) := by
  rw [byteAt_sb]; exact List.getElem?_eq_getElem h
end Go.Nf
