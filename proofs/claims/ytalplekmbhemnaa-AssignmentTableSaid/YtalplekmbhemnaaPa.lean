/- Plain: lists that a loop turns place by place. -/
import Derived.Test.YtalplekmbhemnaaGi
namespace Go.Proofs.Ytalplekmbhemnaa
open Go Go.Nf

/-- the value at a place -/
def gI (l : List Int) (i : Nat) : Int := (l[i]?).getD 0
def gB (l : List Bool) (i : Nat) : Bool := (l[i]?).getD false
/-- the first j places are turned by F -/
def mix (F : Nat → Int) (P : List Int) (j : Nat) : List Int := (List.range P.length).map fun i => if i < j then F i else gI P i
theorem mix_len (F : Nat → Int) (P : List Int) (j : Nat) : (mix F P j).length = P.length := by simp [mix]
theorem mix_get {F : Nat → Int} {P : List Int} {j i : Nat} (h : i < P.length) : gI (mix F P j) i = if i < j then F i else gI P i := by
  unfold gI mix; simp [h, gI]
theorem mix_zero (F : Nat → Int) (P : List Int) : mix F P 0 = P := by
  apply List.ext_getElem?
  intro i
  rcases Nat.lt_or_ge i P.length with h | h
  · simp [mix, gI, h]
  · rw [List.getElem?_eq_none (by rw [mix_len]; exact h), List.getElem?_eq_none h]
theorem mix_set {F : Nat → Int} {P : List Int} {j : Nat} (h : j < P.length) : (mix F P j).set j (F j) = mix F P (j + 1) := by
  apply List.ext_getElem?
  intro i
  rcases Nat.lt_or_ge i P.length with hi | hi
  · rw [List.getElem?_set]
    by_cases e : j = i
    · subst e; simp [mix, hi]
    · rw [if_neg e]
      simp only [mix, List.getElem?_map, List.getElem?_range hi, Option.map_some, Option.some.injEq]
      by_cases h1 : i < j
      · rw [if_pos h1, if_pos (by omega)]
      · rw [if_neg h1, if_neg (by omega)]
  · rw [List.getElem?_eq_none (by simp [mix_len]; exact hi), List.getElem?_eq_none (by simp [mix_len]; exact hi)]
theorem mix_same {F : Nat → Int} {P : List Int} {j : Nat} (h : j < P.length) (e : F j = gI P j) : mix F P j = mix F P (j + 1) := by
  unfold mix
  apply List.map_congr_left
  intro i hi
  by_cases h1 : i = j
  · subst h1; rw [if_neg (by omega), if_pos (by omega), e]
  · by_cases h2 : i < j
    · rw [if_pos h2, if_pos (by omega)]
    · rw [if_neg h2, if_neg (by omega)]
theorem gI_get {l : List Int} {i : Nat} (h : i < l.length) : gI l i = l[i] := by unfold gI; rw [List.getElem?_eq_getElem h]; rfl
theorem gI_set {l : List Int} {i j : Nat} {x : Int} (h : j < l.length) : gI (l.set j x) i = if i = j then x else gI l i := by
  unfold gI
  rw [List.getElem?_set]
  by_cases e : j = i
  · subst e; simp [h]
  · rw [if_neg e, if_neg (fun h => e h.symm)]
end Go.Proofs.Ytalplekmbhemnaa
