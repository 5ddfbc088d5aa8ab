/- Contract: the square problem of a cost matrix. -/
import Derived.Test.YtalplekmbhemnaaGe
namespace Go.Proofs.Ytalplekmbhemnaa
open Go Go.Nf

/-- row i of the square of a matrix with R rows and C columns -/
def sqRow (rows : List (List Int)) (C i : Nat) : List Int :=
  if i < rows.length then (rows[i]?).getD [] ++ (List.replicate rows.length 4611686018427387904).set i 140737488355328 else List.replicate (rows.length + C) 0
def sq0 (rows : List (List Int)) (C : Nat) : Sq :=
  { size := rows.length + C, cost := (List.range (rows.length + C)).map (sqRow rows C), rowOf := List.replicate (rows.length + C) (-1), rowD := List.replicate (rows.length + C) 0, colD := List.replicate (rows.length + C) 0 }
theorem elem32 : Elem Try.prog 32 2 1 8 := elem_of (by kernel_rfl)
theorem elem25 : Elem Try.prog 25 3 1 8 := elem_of (by kernel_rfl)
theorem elem22 : Elem Try.prog 22 32 1 24 := elem_of (by kernel_rfl)
theorem zero2 : zeroL Try.prog 2 = some [.int .i64 0] := by kernel_rfl
theorem zero3 : zeroL Try.prog 3 = some [.int .i64 0] := by kernel_rfl
theorem und32 : Try.prog.underlying 32 = some (.slice 2) := by kernel_rfl
theorem size2 : (Try.prog.info? 2).map (·.size) = some 1 := by kernel_rfl
theorem rep_ints (n : Nat) : (List.replicate n [Value.int .i64 0]).flatten = intsV (List.replicate n 0) := by
  induction n with
  | zero => rfl
  | succ n ih => rw [List.replicate_succ, List.flatten_cons, ih, List.replicate_succ]; rfl
theorem intsV_len (xs : List Int) : (intsV xs).length = xs.length := by simp [intsV]
theorem intsV_set (xs : List Int) (j : Nat) (x : Int) (h : j < xs.length) : setFrom (intsV xs) ((j : Int).toNat * 1) [.int .i64 x] = intsV (xs.set j x) := by
  rw [toNat_cast, Nat.mul_one]
  simp [setFrom, intsV, List.map_set]
/-- a new row of zeros -/
theorem make_zeros {w : World} {t T : TypeId} {n : Nat} {K : Value → World → Prop} (he : Elem Try.prog t T 1 8) (hz : zeroL Try.prog T = some [.int .i64 0]) (hn : n ≤ 200)
    (h : ∀ w', Row w' (hs w) T (intsV (List.replicate n 0)) → Grow w w' → hs w' = hs w + 1 → K (.slice (some ⟨hs w, 0, none⟩) n n) w') : RunOk Try.prog (Hold (Instr.makeSlice t (.int .i64 (n : Int)) (.int .i64 (n : Int)))) w K := by
  refine run_make_row he hz (by omega) (by omega) (by omega) (by omega) fun w1 e1 => ?_
  rw [toNat_cast] at *
  refine h w1 ?_ (only_alloc e1) (hs_alloc e1)
  rw [← rep_ints]; exact Row.new e1
/-- fill a row from a column on -/
theorem fill_step (v : Int) (xs : List Int) (n j : Nat) (h : j < n) (hx : xs.length = j) (z : Int) : (xs ++ List.replicate (n - j) z).set j v = xs ++ [v] ++ List.replicate (n - (j + 1)) z := by
  rw [List.set_append_right _ _ (by omega), hx, Nat.sub_self, show n - j = (n - (j + 1)) + 1 from by omega, List.replicate_succ, List.set_cons_zero]
  simp
end Go.Proofs.Ytalplekmbhemnaa
