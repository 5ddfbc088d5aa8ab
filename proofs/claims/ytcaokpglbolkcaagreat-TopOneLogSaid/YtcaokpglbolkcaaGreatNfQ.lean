/- The engine, part Q: a slice that a call owns and takes from at its head: a queue of one-cell elements. -/
import Derived.Test.YtcaokpglbolkcaaGreatNfM
import Derived.ArgAppend
namespace Go.Nf
open Go Go.RowKit

/-- the block lies from B on; the slice may start within it -/
def Que (w : World) (B T : Nat) (o : Option Addr) (n c : Nat) (xs : List Value) : Prop :=
  ∃ g off l, o = some ⟨g, off, none⟩ ∧ B ≤ g ∧ Row w g T l ∧ off + c ≤ l.length ∧ n ≤ c ∧ c ≤ maxLen ∧ (l.drop off).take n = xs ∧ xs.length = n
theorem Que.base {w : World} {B T : Nat} {o : Option Addr} {n c : Nat} {xs : List Value} (h : Que w B T o n c xs) : ∀ b, inBlock o b → B ≤ b ∧ b < hs w := by
  obtain ⟨g, off, l, rfl, hB, hr, -⟩ := h
  rintro b ⟨a, e, rfl⟩
  cases e
  exact ⟨hB, hr.lt⟩
theorem Que.keep {S : Nat → Prop} {w w' : World} {B T : Nat} {o : Option Addr} {n c : Nat} {xs : List Value} (h : Que w B T o n c xs) (k : Only S w w') (hS : ∀ b, inBlock o b → ¬ S b) : Que w' B T o n c xs := by
  obtain ⟨g, off, l, rfl, hB, hr, r⟩ := h
  exact ⟨g, off, l, rfl, hB, hr.keep k (hS g ⟨_, rfl, rfl⟩), r⟩
theorem Que.grow {w w' : World} {B T : Nat} {o : Option Addr} {n c : Nat} {xs : List Value} (h : Que w B T o n c xs) (k : Grow w w') : Que w' B T o n c xs := h.keep k fun _ _ h => h
theorem Row.que {w : World} {b B T : Nat} {v : Value} (h : Row w b T [v]) (hB : B ≤ b) : Que w B T (some ⟨b, 0, none⟩) 1 1 [v] :=
  ⟨b, 0, [v], rfl, hB, h, by simp, by simp, by simp [maxLen], rfl, rfl⟩
theorem Que.head {w : World} {B T : Nat} {o : Option Addr} {n c : Nat} {v : Value} {xs : List Value} (h : Que w B T o n c (v :: xs)) : ∃ a, o = some a ∧ w.cell? a = some v ∧ n = xs.length + 1 := by
  obtain ⟨g, off, l, rfl, hB, hr, h1, h2, h3, h4, h5⟩ := h
  refine ⟨_, rfl, hr.cell ?_, by simpa using h5.symm⟩
  have : ((l.drop off).take n)[0]? = some v := by rw [h4]; rfl
  simp only [List.length_cons] at h5
  rw [List.getElem?_take, if_pos (by omega), List.getElem?_drop] at this
  simpa using this
theorem Que.tail {w : World} {B T : Nat} {o : Option Addr} {n c : Nat} {v : Value} {xs : List Value} (h : Que w B T o n c (v :: xs)) :
    Que w B T (if c = ((1 : Int)).toNat then o else Option.map (fun x => Addr.add x 1) o) (n - 1) (c - 1) xs := by
  obtain ⟨g, off, l, rfl, hB, hr, h1, h2, h3, h4, h5⟩ := h
  simp only [List.length_cons] at h5
  have e1 : ((1 : Int)).toNat = 1 := rfl
  rw [e1]
  by_cases hc : c = 1
  · rw [if_pos hc]
    have : xs = [] := List.eq_nil_of_length_eq_zero (by omega)
    subst this
    refine ⟨g, off, l, rfl, hB, hr, by omega, by omega, by omega, ?_, by simp only [List.length_nil]; omega⟩
    rw [show n - 1 = 0 by omega]; rfl
  · rw [if_neg hc]
    refine ⟨g, off + 1, l, by simp [Addr.add_lit], hB, hr, by omega, by omega, by omega, ?_, by omega⟩
    have : (l.drop off).take n = v :: xs := h4
    have h6 : ((l.drop off).take n).drop 1 = xs := by rw [this]; rfl
    rw [List.drop_take, List.drop_drop] at h6
    exact h6
theorem Que.push {P : Program} {w : World} {B t ty T bytes : Nat} {o : Option Addr} {n c : Nat} {xs : List Value} {b cx : Nat} {v : Value} {K : Value → World → Prop}
    (he : Elem P t T 1 bytes) (h : Que w B T o n c xs) (hrow : Row w b T [v]) (h1 : v.oneCell' = true) (h63 : n + 1 ≤ maxLen) (hbytes : (n + 1) * bytes ≤ 140737488355328) (hbase : B ≤ hs w)
    (hK : ∀ o' c' w', Que w' B T o' (n + 1) c' (xs ++ [v]) → Only (inBlock o) w w' → K (.slice o' (n + 1) c') w') :
    RunOk P (Hold (Builtin.append_ #[t, t] ty #[.slice o n c, .slice (some ⟨b, 0, none⟩) 1 cx])) w K := by
  obtain ⟨i, z, ht, hi, hz, hsize, hby, hzs, hsz⟩ := he.ex
  obtain ⟨g, off, l, rfl, hB, hr, k1, k2, k3, k4, k5⟩ := h
  have hnews : ∀ j u, [v][j]? = some u → w.cell? ((⟨b, 0, none⟩ : Addr).add j) = some u := fun j u hj => hrow.cellAdd hj
  by_cases hroom : n + 1 ≤ c
  · have run := run_append_room_cells (P := P) w t ty T i ht hi g off n c ⟨b, 0, none⟩ 1 cx [v] (by rw [hsize]; rfl) hnews (by simpa using h1) hroom
      (fun j hj => by
        have hj : j = 0 := by simpa using hj
        subst hj
        have hlt : off + n * i.size + 0 < l.length := by rw [hsize]; omega
        rw [hr.cell (List.getElem?_eq_getElem hlt)]; rfl)
      (fun j hj => by
        have := (hr.there (o := off + n * i.size + j) (n := 1) (by have hj : j = 0 := by simpa using hj
                                                                   rw [hsize]; omega) 0 (by omega)).2
        simpa [Addr.add_lit] using this)
    refine ⟨_, _, run, hK _ _ _ ?_ ?_⟩
    · rw [hsize, Nat.mul_one]
      refine ⟨g, off, l.set (off + n) v, rfl, hB, set_toArray_step hr _ _, by simpa using k1, hroom, k3, ?_, by simp [k5]⟩
      have hlt : off + n < l.length := by omega
      rw [List.drop_set, if_neg (by omega), show off + n - off = n by omega, List.take_succ_eq_append_getElem (by simp; omega), List.take_set_of_le (Nat.le_refl n), k4]
      simp
    · have := only_set (w := w) (w1 := setCells w ⟨g, off + n * i.size, none⟩ [v] 0) (b := g) (o := off + n * i.size) rfl
      refine Only.mono (S := fun k => k = g) ?_ fun i _ hi => ⟨_, rfl, hi.symm⟩
      simpa [setCells, World.setCells, Addr.add_lit] using this
  · have holds : ∀ j u, xs[j]? = some u → w.cell? ((⟨g, off, none⟩ : Addr).add j) = some u := fun j u hj => by
      rw [Addr.add_lit]
      refine hr.cell ?_
      rw [← k4, List.getElem?_take] at hj
      split at hj
      · rw [List.getElem?_drop] at hj; exact hj
      · cases hj
    have run := run_append_grow (P := P) w t ty T i z ht hi hz ⟨g, off, none⟩ n c xs (by rw [hsize]; omega) holds ⟨b, 0, none⟩ 1 cx [v] (by rw [hsize]; rfl) hnews (by omega) (by simp only [maxLen] at h63; omega) (by rw [hby]; exact growslice_fits (by omega) hbytes)
    refine ⟨_, _, run, hK _ _ _ ?_ ?_⟩
    · have hge := grownCap_ge w (n + 1) c T
      have hcm : grownCap w (n + 1) c T ≤ maxLen := grownCap_le_maxLen w (n + 1) c T h63
      refine ⟨w.heap.size, 0, (xs ++ [v]) ++ (Builtin.zeroCells z.cells (grownCap w (n + 1) c T - (n + 1))).toList, rfl, hbase, ?_, ?_, hge, hcm, ?_, by simp [k5]⟩
      · have := Row.new (w := w.drew) (T := T) (l := (xs ++ [v]) ++ (Builtin.zeroCells z.cells (grownCap w (n + 1) c T - (n + 1))).toList) rfl
        have e : (xs.toArray ++ [v].toArray ++ Builtin.zeroCells z.cells (grownCap w (n + 1) c T - (n + 1))) = ((xs ++ [v]) ++ (Builtin.zeroCells z.cells (grownCap w (n + 1) c T - (n + 1))).toList).toArray := by
          apply Array.ext'; simp
        rw [e]; exact this
      · have : (Builtin.zeroCells z.cells (grownCap w (n + 1) c T - (n + 1))).size = grownCap w (n + 1) c T - (n + 1) := by rw [size_zeroCells, hzs, Nat.mul_one]
        simp only [List.length_append, Array.length_toList, this, k5, List.length_cons, List.length_nil]
        omega
      · rw [List.drop_zero, List.take_append_of_le_length (by simp [k5]), List.take_of_length_le (by simp [k5])]
    · exact (only_drew rfl).trans' (only_alloc rfl)
end Go.Nf
