/- The engine, part Z: copy between a row and numbers that are read; a row read as numbers. -/
import Derived.Test.YtcaokpglbolkcaaGreatNfY
import Derived.Laws.CopyRow
import Derived.Laws.IdiomCopy
namespace Go.Nf
open Go

def intsV (xs : List Int) : List Value := xs.map fun x => .int .i64 x
theorem Row.nums {w : World} {b : Nat} {T : TypeId} {xs : List Int} {A : Nat → Prop} (h : Row w b T (intsV xs)) (hA : A b) : Nums w A (some ⟨b, 0, none⟩) xs := fun j v hj =>
  ⟨_, rfl, hA, h.cellAdd (by rw [toNat_cast, Nat.mul_one]; simp [intsV, hj])⟩
theorem copy_nums {P : Program} {w : World} {dT sT ty elem : TypeId} {g : Nat} {T : TypeId} {l : List Value} {n c c' : Nat} {o : Option Addr} {xs : List Int} {A : Nat → Prop} {K : Value → World → Prop}
    (hu : P.underlying dT = some (.slice elem)) (hsz : (P.info? elem).map (·.size) = some 1) (h : Row w g T l) (hl : l.length = n) (hx : xs.length ≤ n) (hn : Nums w A o xs)
    (hK : ∀ w', Row w' g T (intsV xs ++ l.drop xs.length) → Only (fun b => b = g) w w' → K (goInt xs.length) w') :
    RunOk P (Hold (Builtin.copy_ #[dT, sT] ty #[.slice (some ⟨g, 0, none⟩) n c, .slice o xs.length c'])) w K := by
  by_cases h0 : xs.length = 0
  · refine ⟨_, _, run_copy_none w dT sT ty elem (some ⟨g, 0, none⟩) o n c xs.length c' hu hsz (by rw [h0]; simp), ?_⟩
    have e : xs = [] := List.length_eq_zero_iff.1 h0
    subst e
    exact hK w (by simpa [intsV] using h) (Only.refl _ _)
  · obtain ⟨a, rfl, -⟩ := hn.get (show 0 < xs.length by omega)
    have hg : w.heap[g]? = some (.cells l.toArray T (0, 0)) := h
    have hlt := h.lt
    have run := run_copy_row (P := P) w dT sT ty elem g 0 n c a xs.length c' l.toArray T (intsV xs) hu hsz hg (by simp only [intsV, List.length_map]; exact (Nat.min_eq_left hx).symm) (fun j v hj => by
      simp only [intsV, List.getElem?_map, Option.map_eq_some_iff] at hj
      obtain ⟨x, hx', rfl⟩ := hj
      obtain ⟨a', ha', -, hc⟩ := hn j x hx'
      cases ha'
      rw [toNat_cast, Nat.mul_one] at hc
      exact hc) (by simp [intsV]; omega) (by intro v hv; simp only [intsV, List.mem_map] at hv; obtain ⟨x, -, rfl⟩ := hv; rfl)
    refine ⟨_, _, run, ?_⟩
    have e : (intsV xs).length = xs.length := by simp [intsV]
    rw [e]
    refine hK _ ?_ ?_
    · unfold Row
      simp only [World.setRow, Array.getElem?_modify, hg]
      simp [List.take_zero, Nat.zero_add]
    · refine ⟨rfl, rfl, rfl, by simp [hs, World.setRow], fun i _ hi => ?_⟩
      simp only [World.setRow, Array.getElem?_modify]
      rw [if_neg (fun hgi => hi hgi.symm)]
end Go.Nf
