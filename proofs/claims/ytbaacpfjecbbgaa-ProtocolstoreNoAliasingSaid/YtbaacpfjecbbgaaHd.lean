/- Contracts: sorting and compacting numbers that a call owns; the successors of a question. -/
import Derived.Test.YtbaacpfjecbbgaaHc
import Derived.Test.YtbaacpfjecbbgaaSh
namespace Go.Proofs.Ytbaacpfjecbbgaa
open Go Go.Nf

/-! ### the shelf's words in the engine's -/
theorem row_put {w : World} {g : Nat} {T : TypeId} {l : List Value} {d : List Int} (h : Row w g T l) (hd : d.length ≤ l.length) :
    Row (Go.Sort.putRow (Value.int .i64) w g 0 d.toArray) g T (intsV d ++ l.drop d.length) := by
  unfold Row at *
  unfold Go.Sort.putRow Go.Sort.mapBlock
  simp only [Array.getElem?_modify, if_true, h, Option.map_some, Go.Sort.onCells, Option.some.injEq, Obj.cells.injEq, and_true]
  apply Array.ext_getElem?
  intro k
  simp only [Go.Sort.putCells, Array.getElem?_mapIdx, List.getElem?_toArray, Nat.zero_le, true_and, Nat.zero_add, Nat.sub_zero, List.size_toArray]
  rcases Nat.lt_or_ge k d.length with hk | hk
  · have hl : k < l.length := by omega
    rw [List.getElem?_eq_getElem hl, Option.map_some, if_pos hk, List.getElem?_append_left (by simp [intsV]; omega)]
    simp [intsV, hk]
  · rw [List.getElem?_append_right (by simp [intsV]; omega)]
    simp only [intsV, List.length_map, List.getElem?_drop]
    rw [show d.length + (k - d.length) = k by omega]
    cases l[k]? with
    | none => rfl
    | some v => rw [Option.map_some, if_neg (by omega)]
theorem only_put {w : World} {g : Nat} {d : Array Int} : Only (fun k => k = g) w (Go.Sort.putRow (Value.int .i64) w g 0 d) := by
  refine ⟨rfl, rfl, rfl, by simp [hs], fun k hk hn => ?_⟩
  unfold Go.Sort.putRow Go.Sort.mapBlock
  simp only [Array.getElem?_modify]
  rw [if_neg fun e => hn e.symm]
theorem only_ahead {S : Nat → Prop} (w : World) (n : Nat) : Only S w (Go.Sort.ahead w n) := ⟨rfl, rfl, rfl, Nat.le_refl _, fun _ _ _ => rfl⟩
theorem only_growS {S : Nat → Prop} (w : World) (os : Array Obj) : Only S w (Go.Sort.grow w os) := by
  refine ⟨rfl, rfl, rfl, by simp [hs, Go.Sort.grow], fun k hk _ => ?_⟩
  have hk : k < w.heap.size := hk
  simp [Go.Sort.grow, Array.getElem?_append, hk]
theorem Own.split {w : World} {B T : Nat} {o : Option Addr} {n c : Nat} {xs : List Value} (h : Own w B T 1 o n c xs) (hn : 0 < n) :
    ∃ g l, o = some ⟨g, 0, none⟩ ∧ B ≤ g ∧ Row w g T l ∧ n ≤ c ∧ c ≤ maxLen ∧ l.length = c ∧ l.take n = xs := by
  obtain ⟨h1, ⟨_, h2⟩ | ⟨g, cap, cur, hv, hb, hg, hnc, hm, hcs, ht⟩⟩ := h
  · omega
  · simp only [Value.slice.injEq] at hv
    obtain ⟨ho, -, rfl⟩ := hv
    refine ⟨g, cur.toList, ho, hb, ?_, hnc, hm, by simpa using hcs, by simpa using ht⟩
    unfold Row; rw [Array.toArray_toList]; exact hg
theorem Own.holds {w : World} {g n : Nat} {T : TypeId} {l : List Value} {xs : List Int} (hr : Row w g T l) (ht : l.take n = intsV xs) : Go.Sort.Holds (Value.int .i64) w g 0 xs.toArray := fun j hj => by
  have hj : j < xs.length := by simpa using hj
  have e : l[j]? = some (Value.int .i64 (xs.toArray[j]!)) := get_of_take ht (by simp [intsV, hj])
  refine ⟨by rw [Nat.zero_add]; exact hr.cell e, ?_⟩
  unfold Row at hr
  simp [World.frozen?, hr]
theorem sort_c {w : World} {B : Nat} {o : Option Addr} {n c : Nat} {xs : List Int} (h : Own w B 3 1 o n c (intsV xs)) (hn : n ≤ 1000) :
    Calls Try.prog 129 #[.slice o n c] w fun e w' => e = .returned (.tuple #[]) ∧ Only (inBlock o) w w' ∧ Own w' B 3 1 o n c (intsV (xs.mergeSort fun x y => decide (x ≤ y))) := by
  have hl : xs.length = n := by have := h.length; simpa [intsV] using this
  rcases Nat.eq_zero_or_pos n with h0 | h0
  · subst h0
    refine (Try.slices_Sort_int_none o c w).mono ?_
    rintro _ _ ⟨rfl, rfl⟩
    have : xs = [] := List.length_eq_zero_iff.1 hl
    subst this
    exact ⟨rfl, Only.refl _ _, by simpa using h⟩
  · obtain ⟨g, l, rfl, hB, hr, hnc, hm, hlc, ht⟩ := Own.split h h0
    have := Try.slices_Sort_int g 0 c xs w (Own.holds hr ht) hr.lt (by omega)
    rw [hl] at this
    refine this.mono ?_
    rintro _ _ ⟨rfl, q, os, rfl⟩
    have hlen : (xs.mergeSort fun x y => decide (x ≤ y)).length = n := by rw [List.length_mergeSort]; exact hl
    have hr1 := hr.keep (only_ahead (S := none') w q) fun h => h
    have r2 := row_put hr1 (d := xs.mergeSort fun x y => decide (x ≤ y)) (by omega)
    have r3 := r2.keep (only_growS (S := none') _ os) fun h => h
    have g3 : Only (fun k => k = g) w (Go.Sort.grow (Go.Sort.putRow (Value.int .i64) (Go.Sort.ahead w q) g 0 (xs.mergeSort fun x y => decide (x ≤ y)).toArray) os) := ((only_ahead w q).trans' only_put).trans' (only_growS _ _)
    refine ⟨rfl, g3.mono fun k _ hk => ⟨_, rfl, hk.symm⟩, ⟨by simp [intsV, hl], .inr ⟨g, c, _, rfl, hB, r3, hnc, hm, ?_, ?_⟩⟩⟩
    · simp [intsV, hl]; omega
    · simp only [Nat.mul_one]
      rw [List.take_left']
      simp [intsV, hl]
theorem compact_len (xs : List Int) : (Lib.compact xs).length ≤ xs.length := by
  unfold Lib.compact Lib.compactUpTo
  rw [List.length_map]
  exact Nat.le_trans (List.length_filter_le _ _) (by simp)
theorem mem_compactUpTo (d : Array Int) (x : Int) : ∀ m, x ∈ Lib.compactUpTo d m ↔ ∃ j, j < m ∧ d[j]! = x := by
  intro m
  induction m with
  | zero => simp [Lib.compactUpTo]
  | succ m ih =>
    rw [Lib.compactUpTo_succ, List.mem_append, ih]
    constructor
    · rintro (⟨j, hj, e⟩ | h)
      · exact ⟨j, by omega, e⟩
      · split at h
        · simp only [List.mem_singleton] at h; exact ⟨m, by omega, h.symm⟩
        · simp at h
    · rintro ⟨j, hj, e⟩
      rcases Nat.lt_or_ge j m with h | h
      · exact .inl ⟨j, h, e⟩
      · obtain rfl : j = m := by omega
        by_cases hk : Lib.keeps d j = true
        · right; rw [if_pos hk, e]; simp
        · left
          have hk1 : ¬ (j = 0 ∨ d[j]! ≠ d[j - 1]!) := fun h => hk (by unfold Lib.keeps; exact decide_eq_true h)
          have h0 : j ≠ 0 := fun h => hk1 (.inl h)
          exact ⟨j - 1, by omega, (Decidable.byContradiction fun h => hk1 (.inr fun e' => h (e'.symm.trans e)))⟩
theorem mem_compact (xs : List Int) (x : Int) : x ∈ Lib.compact xs ↔ x ∈ xs := by
  unfold Lib.compact
  rw [mem_compactUpTo]
  constructor
  · rintro ⟨j, hj, e⟩
    simp [hj] at e
    rw [← e]; exact List.getElem_mem hj
  · intro h
    obtain ⟨j, hj, e⟩ := List.getElem_of_mem h
    exact ⟨j, hj, by simp [hj, e]⟩
theorem compact_c {w : World} {B : Nat} {o : Option Addr} {n c : Nat} {xs : List Int} (h : Own w B 3 1 o n c (intsV xs)) (hn : n ≤ 1000) :
    Calls Try.prog 130 #[.slice o n c] w fun e w' => e = .returned (.slice o (Lib.compact xs).length c) ∧ Only (inBlock o) w w' ∧ Own w' B 3 1 o (Lib.compact xs).length c (intsV (Lib.compact xs)) := by
  have hl : xs.length = n := by have := h.length; simpa [intsV] using this
  rcases Nat.eq_zero_or_pos n with h0 | h0
  · subst h0
    refine (Try.slices_Compact_int_empty o c w).mono ?_
    rintro _ _ ⟨rfl, rfl⟩
    have : xs = [] := List.length_eq_zero_iff.1 hl
    subst this
    exact ⟨rfl, Only.refl _ _, h⟩
  · obtain ⟨g, l, rfl, hB, hr, hnc, hm, hlc, ht⟩ := Own.split h h0
    have := Try.slices_Compact_int g 0 c xs w (Own.holds hr ht) (by omega) (by omega)
    rw [hl] at this
    refine this.mono ?_
    rintro _ _ ⟨rfl, q, rfl⟩
    have hc := compact_len xs
    have hr1 := hr.keep (only_ahead (S := none') w q) fun h => h
    have r2 := row_put hr1 (d := Lib.compact xs ++ List.replicate (n - (Lib.compact xs).length) 0) (by simp; omega)
    have g3 : Only (fun k => k = g) w (Go.Sort.putRow (Value.int .i64) (Go.Sort.ahead w q) g 0 (Lib.compact xs ++ List.replicate (n - (Lib.compact xs).length) 0).toArray) := (only_ahead w q).trans' only_put
    refine ⟨rfl, g3.mono fun k _ hk => ⟨_, rfl, hk.symm⟩, ⟨by simp [intsV], .inr ⟨g, c, _, rfl, hB, r2, by omega, hm, ?_, ?_⟩⟩⟩
    · simp [intsV]; omega
    · simp only [Nat.mul_one, intsV, List.map_append, List.append_assoc]
      rw [List.take_left' (by simp)]
end Go.Proofs.Ytbaacpfjecbbgaa
