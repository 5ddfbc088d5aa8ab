/- Grids: rows of numbers behind a row of slices, all in memory that a call owns. -/
import Derived.Test.YtcaokpglbolkcaaZe
import Derived.Test.YtcaokpglbolkcaaNf2
import Derived.Test.YtcaokpglbolkcaaNfR
import Derived.Test.YtcaokpglbolkcaaNfK
import Derived.Test.YtcaokpglbolkcaaNfP
namespace Go.Proofs.Ytcaokpglbolkcaa
open Go Go.Nf Go.RowKit

abbrev SlR := Option Addr × Nat × Nat
def slV (c : SlR) : Value := .slice c.1 c.2.1 c.2.2
/-- rows of numbers (of type T) behind the slices in block g (of type TT); M names the blocks -/
structure Grid (w : World) (M : Nat → Prop) (TT T g : Nat) (rows : List (List Int)) : Prop where
  ex : ∃ cs : List SlR, Row w g TT (cs.map slV) ∧ cs.length = rows.length ∧ (∀ (i : Nat) r, rows[i]? = some r → ∃ o c, cs[i]? = some (o, r.length, c) ∧ Own w 0 T 1 o r.length c (intsV r) ∧ ∀ b, inBlock o b → M b) ∧
    (∀ (i j : Nat) (x y : SlR), i ≠ j → cs[i]? = some x → cs[j]? = some y → ∀ b, inBlock x.1 b → ¬ inBlock y.1 b)
  memg : M g
  lt : ∀ b, M b → b < hs w
  ne : TT ≠ T
variable {w w' : World} {M : Nat → Prop} {TT T g : Nat} {rows : List (List Int)}
theorem Grid.keep {S : Nat → Prop} (h : Grid w M TT T g rows) (o : Only S w w') (hS : ∀ b, M b → ¬ S b) : Grid w' M TT T g rows := by
  obtain ⟨cs, h1, h2, h3, h4⟩ := h.ex
  refine ⟨⟨cs, h1.keep o (hS _ h.memg), h2, fun i r hr => ?_, h4⟩, h.memg, fun b hb => Nat.lt_of_lt_of_le (h.lt b hb) o.size, h.ne⟩
  obtain ⟨oi, c, k1, k2, k3⟩ := h3 i r hr
  exact ⟨oi, c, k1, k2.keep o fun b hb => hS b (k3 b hb), k3⟩
theorem Grid.grow (h : Grid w M TT T g rows) (o : Grow w w') : Grid w' M TT T g rows := h.keep o fun _ _ h => h
theorem Grid.more {M' : Nat → Prop} (h : Grid w M TT T g rows) (hM : ∀ b, M b → M' b) (hlt : ∀ b, M' b → b < hs w) : Grid w M' TT T g rows := by
  obtain ⟨cs, h1, h2, h3, h4⟩ := h.ex
  refine ⟨⟨cs, h1, h2, fun i r hr => ?_, h4⟩, hM _ h.memg, hlt, h.ne⟩
  obtain ⟨oi, c, k1, k2, k3⟩ := h3 i r hr
  exact ⟨oi, c, k1, k2, fun b hb => hM b (k3 b hb)⟩
theorem grid_new {n : Nat} (r : Row w g TT (List.replicate n (.slice none 0 0))) (hne : TT ≠ T) : Grid w (fun b => b = g) TT T g (List.replicate n []) := by
  refine ⟨⟨List.replicate n (none, 0, 0), by rw [List.map_replicate]; exact r, by simp, fun i x hx => ?_, fun i j x y _ hx hy b hb => ?_⟩, rfl, fun b hb => by rw [hb]; exact r.lt, hne⟩
  · rw [List.getElem?_replicate] at hx
    split at hx
    · rename_i hi
      cases hx
      exact ⟨none, 0, by rw [List.getElem?_replicate, if_pos hi]; rfl, own_nil w 0 T 1, fun b hb => by obtain ⟨a, ha, _⟩ := hb; cases ha⟩
    · cases hx
  · rw [List.getElem?_replicate] at hx
    split at hx
    · cases hx
      obtain ⟨a, ha, _⟩ := hb
      cases ha
    · cases hx
theorem grid_mat (h : Grid w M TT T g rows) : Mat w M (some ⟨g, 0, none⟩) rows := fun i r hr => by
  obtain ⟨cs, h1, h2, h3, h4⟩ := h.ex
  obtain ⟨o, c, k1, k2, k3⟩ := h3 i r hr
  refine ⟨_, o, c, rfl, h.memg, h1.cellAdd ?_, fun j v hj => ?_⟩
  · rw [toNat_cast, Nat.mul_one, List.getElem?_map, k1]; rfl
  · obtain ⟨a, ha, -, hc⟩ := k2.nums j v hj
    exact ⟨a, ha, k3 _ ⟨a, ha, rfl⟩, hc⟩
theorem grid_get (h : Grid w M TT T g rows) {i : Nat} (hi : i < rows.length) : ∃ o c, w.cell? ((⟨g, 0, none⟩ : Addr).add ((i : Int).toNat * 1)) = some (.slice o rows[i].length c) ∧ Own w 0 T 1 o rows[i].length c (intsV rows[i]) ∧ ∀ b, inBlock o b → M b := by
  obtain ⟨cs, h1, h2, h3, h4⟩ := h.ex
  obtain ⟨o, c, k1, k2, k3⟩ := h3 i _ (List.getElem?_eq_getElem hi)
  exact ⟨o, c, h1.cellAdd (by rw [toNat_cast, Nat.mul_one, List.getElem?_map, k1]; rfl), k2, k3⟩
theorem grid_there (h : Grid w M TT T g rows) {i : Nat} (hi : i < rows.length) : There w ((⟨g, 0, none⟩ : Addr).add ((i : Int).toNat * 1)) 1 := by
  obtain ⟨cs, h1, h2, h3, h4⟩ := h.ex
  refine h1.thereAdd ?_
  rw [toNat_cast, Nat.mul_one, List.length_map]
  omega
theorem own_empty {B : Nat} {o : Option Addr} {n c : Nat} {xs : List Value} (h : Own w B T 1 o n c xs) : o = none ∨ ∃ gi, o = some ⟨gi, 0, none⟩ := by
  rcases h.2 with ⟨e, -⟩ | ⟨gi, cap, cur, e, -⟩
  · simp only [Value.slice.injEq] at e; exact .inl e.1
  · simp only [Value.slice.injEq] at e; exact .inr ⟨gi, e.1⟩
theorem row_ne {S : Nat} {B : Nat} {o : Option Addr} {n c : Nat} {xs : List Value} {l : List Value} (hg : Row w g TT l) (hne : TT ≠ T) (k : Own w B T S o n c xs) : ∀ b, inBlock o b → ¬ b = g := fun b hb eb => by
  obtain ⟨l', hl'⟩ := k.row hb
  rw [eb] at hl'
  exact hne (hg.inj hl').2
/-- one row's slice is another -/
theorem grid_core {w2 : World} {cs : List SlR} (h : Grid w M TT T g rows) (h1 : Row w g TT (cs.map slV)) (h2 : cs.length = rows.length) (h3 : ∀ (i : Nat) r, rows[i]? = some r → ∃ o c, cs[i]? = some (o, r.length, c) ∧ Own w 0 T 1 o r.length c (intsV r) ∧ ∀ b, inBlock o b → M b)
    (h4 : ∀ (i j : Nat) (x y : SlR), i ≠ j → cs[i]? = some x → cs[j]? = some y → ∀ b, inBlock x.1 b → ¬ inBlock y.1 b) {i : Nat} (hi : i < rows.length) {o o' : Option Addr} {n c c' : Nat} {r' : List Int} (hc : cs[i]? = some (o, n, c))
    (hr : Row w2 g TT ((cs.set i (o', r'.length, c')).map slV)) (g2 : Only (fun b => inBlock o b ∨ b = g) w w2) (own : Own w2 0 T 1 o' r'.length c' (intsV r')) (hin : ∀ b, inBlock o' b → inBlock o b ∨ ¬ M b) :
    Grid w2 (fun b => M b ∨ inBlock o' b) TT T g (rows.set i r') := by
  have z2 := g2.size
  have inM : ∀ (j : Nat) (x : SlR), cs[j]? = some x → ∀ b, inBlock x.1 b → M b := fun j x hj b hb => by
    have hjl : j < rows.length := by
      rcases Nat.lt_or_ge j cs.length with q | q
      · omega
      · rw [List.getElem?_eq_none q] at hj; cases hj
    obtain ⟨oj, cj, k1, k2, k3⟩ := h3 j _ (List.getElem?_eq_getElem hjl)
    rw [hj] at k1
    cases k1
    exact k3 b hb
  have ap : ∀ (j : Nat) (x : SlR), j ≠ i → cs[j]? = some x → ∀ b, inBlock x.1 b → ¬ inBlock o' b := fun j x hji hj b hb hb' => by
    rcases hin b hb' with q | q
    · exact h4 j i x _ hji hj hc b hb q
    · exact q (inM j x hj b hb)
  refine ⟨⟨cs.set i (o', r'.length, c'), hr, by rw [List.length_set, List.length_set]; exact h2, fun j x hj => ?_, fun j k x y hjk hx hy b hb => ?_⟩, .inl h.memg, fun b hb => ?_, h.ne⟩
  · by_cases ej : i = j
    · subst ej
      rw [List.getElem?_set_self (by omega)] at hj
      cases hj
      exact ⟨o', c', by rw [List.getElem?_set_self (by omega)], own, fun b hb => .inr hb⟩
    · rw [List.getElem?_set_ne ej] at hj
      obtain ⟨oj, cj, k1, k2, k3⟩ := h3 j x hj
      refine ⟨oj, cj, by rw [List.getElem?_set_ne ej]; exact k1, k2.keep g2 fun b hb hS => ?_, fun b hb => .inl (k3 b hb)⟩
      rcases hS with q | q
      · exact h4 j i _ _ (Ne.symm ej) k1 hc b hb q
      · exact row_ne h1 h.ne k2 b hb q
  · by_cases ej : i = j
    · subst ej
      rw [List.getElem?_set_self (by omega)] at hx
      cases hx
      rw [List.getElem?_set_ne hjk] at hy
      exact fun hb' => ap k y (Ne.symm hjk) hy b hb' hb
    · rw [List.getElem?_set_ne ej] at hx
      by_cases ek : i = k
      · subst ek
        rw [List.getElem?_set_self (by omega)] at hy
        cases hy
        exact ap j x hjk hx b hb
      · rw [List.getElem?_set_ne ek] at hy
        exact h4 j k x y hjk hx hy b hb
  · rcases hb with hb | hb
    · have := h.lt b hb; omega
    · exact (own.base b hb).2
/-- a row is written behind its slice, and the slice stored anew -/
theorem grid_swap (h : Grid w M TT T g rows) {i : Nat} (hi : i < rows.length) {o o' : Option Addr} {c c' : Nat} {r' : List Int} {w1 : World} (hc : w.cell? ((⟨g, 0, none⟩ : Addr).add ((i : Int).toNat * 1)) = some (.slice o rows[i].length c))
    (p2 : Only (inBlock o) w w1) (own : Own w1 0 T 1 o' r'.length c' (intsV r')) (hin : ∀ b, inBlock o' b → inBlock o b ∨ ¬ M b) :
    There w1 ((⟨g, 0, none⟩ : Addr).add ((i : Int).toNat * 1)) 1 ∧ Only M w w1 ∧ ∀ w2, w2 = setCells w1 ((⟨g, 0, none⟩ : Addr).add ((i : Int).toNat * 1)) [.slice o' r'.length c'] 0 → Grid w2 (fun b => M b ∨ inBlock o' b) TT T g (rows.set i r') ∧ Only M w w2 := by
  obtain ⟨cs, h1, h2, h3, h4⟩ := h.ex
  obtain ⟨oi, ci, k1, k2, k3⟩ := h3 i _ (List.getElem?_eq_getElem hi)
  have hc' := h1.cellAdd (o := (i : Int).toNat * 1) (v := .slice oi rows[i].length ci) (by rw [toNat_cast, Nat.mul_one, List.getElem?_map, k1]; rfl)
  rw [hc] at hc'
  simp only [Option.some.injEq, Value.slice.injEq, true_and] at hc'
  obtain ⟨rfl, rfl⟩ := hc'
  have r1 := h1.keep p2 fun hb => row_ne h1 h.ne k2 g hb rfl
  have g1 : Only M w w1 := p2.mono fun b _ hb => k3 b hb
  refine ⟨r1.thereAdd (by rw [toNat_cast, Nat.mul_one, List.length_map]; omega), g1, fun w2 e2 => ?_⟩
  have g2 : Only (fun b => b = g) w1 w2 := only_setAdd e2
  have r2 := r1.setAdd e2
  have key : setFrom (cs.map slV) ((i : Int).toNat * 1) [.slice o' r'.length c'] = (cs.set i (o', r'.length, c')).map slV := by
    rw [toNat_cast, Nat.mul_one, List.map_set]; rfl
  rw [key] at r2
  refine ⟨grid_core h h1 h2 h3 h4 hi k1 r2 ((p2.mono fun b _ hb => .inl hb).trans (g2.mono fun b _ hb => .inr hb) fun b _ hb => hb) (own.keep g2 (row_ne r1 h.ne own)) hin, g1.trans (g2.mono fun b _ hb => by rw [hb]; exact h.memg) fun b _ hb => hb⟩
/-- a new row in the place of one -/
theorem grid_row (h : Grid w M TT T g rows) {i : Nat} (hi : i < rows.length) {o : Option Addr} {c : Nat} {r : List Int} (own : Own w 0 T 1 o r.length c (intsV r)) (hfresh : ∀ b, inBlock o b → ¬ M b) :
    There w ((⟨g, 0, none⟩ : Addr).add ((i : Int).toNat * 1)) 1 ∧ ∀ w2, w2 = setCells w ((⟨g, 0, none⟩ : Addr).add ((i : Int).toNat * 1)) [.slice o r.length c] 0 → Grid w2 (fun b => M b ∨ inBlock o b) TT T g (rows.set i r) ∧ Only M w w2 := by
  obtain ⟨oi, ci, hc, -, -⟩ := grid_get h hi
  obtain ⟨k1, -, k2⟩ := grid_swap h hi hc (Only.refl _ w) own fun b hb => .inr (hfresh b hb)
  exact ⟨k1, k2⟩
/-- one number more in a row -/
theorem grid_push {P : Program} {t ty bytes : Nat} {b cx : Nat} {x : Int} {K : Value → World → Prop} (he : Elem P t T 1 bytes) (h : Grid w M TT T g rows) {i : Nat} (hi : i < rows.length) {o : Option Addr} {c : Nat}
    (hc : w.cell? ((⟨g, 0, none⟩ : Addr).add ((i : Int).toNat * 1)) = some (.slice o rows[i].length c)) (hrow : Row w b T [.int .i64 x]) (h63 : rows[i].length + 1 ≤ maxLen) (hbytes : (rows[i].length + 1) * bytes ≤ 140737488355328)
    (hK : ∀ o' c' w', There w' ((⟨g, 0, none⟩ : Addr).add ((i : Int).toNat * 1)) 1 → Only M w w' → (∀ w'', w'' = setCells w' ((⟨g, 0, none⟩ : Addr).add ((i : Int).toNat * 1)) [.slice o' (rows[i].length + 1) c'] 0 → Grid w'' (fun b => M b ∨ (hs w ≤ b ∧ b < hs w'')) TT T g (rows.set i (rows[i] ++ [x])) ∧ Only M w w'') → K (.slice o' (rows[i].length + 1) c') w') :
    RunOk P (Hold (Builtin.append_ #[t, t] ty #[.slice o rows[i].length c, .slice (some ⟨b, 0, none⟩) 1 cx])) w K := by
  obtain ⟨oi, ci, hc2, k2, k3⟩ := grid_get h hi
  rw [hc] at hc2
  simp only [Option.some.injEq, Value.slice.injEq, true_and] at hc2
  obtain ⟨rfl, rfl⟩ := hc2
  refine run_append_at he k2 (news := [.int .i64 x]) rfl (fun j u hu => hrow.cellAdd hu) (by simp [Value.oneCell']) h63 hbytes (Nat.zero_le _) fun o' c' w1 p1 p2 p3 => ?_
  have p1' : Own w1 0 T 1 o' (rows[i] ++ [x]).length c' (intsV (rows[i] ++ [x])) := by simpa [intsV] using p1
  obtain ⟨q1, q2, q3⟩ := grid_swap h hi hc p2 p1' fun b hb => (p3 b hb).imp id fun e => by rw [e]; exact fun hM => by have := h.lt _ hM; omega
  refine hK o' c' w1 q1 q2 fun w2 e2 => ?_
  obtain ⟨s1, s2⟩ := q3 w2 (by simpa using e2)
  refine ⟨s1.more (fun b hb => ?_) (fun b hb => ?_), s2⟩
  · have hlt := s1.lt b hb
    rcases hb with hb | hb
    · exact .inl hb
    · rcases p3 b hb with q | q
      · exact .inl (k3 b q)
      · exact .inr ⟨by omega, hlt⟩
  · have := s2.size
    rcases hb with hb | hb
    · have := h.lt b hb; omega
    · exact hb.2
/-- a number in a row is written over -/
theorem grid_put (h : Grid w M TT T g rows) {i j : Nat} (hi : i < rows.length) (hj : j < rows[i].length) {o : Option Addr} {c : Nat} (hc : w.cell? ((⟨g, 0, none⟩ : Addr).add ((i : Int).toNat * 1)) = some (.slice o rows[i].length c)) :
    ∃ a, o = some a ∧ There w (a.add ((j : Int).toNat * 1)) 1 ∧ ∀ x w2, w2 = setCells w (a.add ((j : Int).toNat * 1)) [.int .i64 x] 0 → Grid w2 M TT T g (rows.set i (rows[i].set j x)) ∧ Only M w w2 := by
  obtain ⟨cs, h1, h2, h3, h4⟩ := h.ex
  obtain ⟨oi, ci, k1, k2, k3⟩ := h3 i _ (List.getElem?_eq_getElem hi)
  have hc' := h1.cellAdd (o := (i : Int).toNat * 1) (v := .slice oi rows[i].length ci) (by rw [toNat_cast, Nat.mul_one, List.getElem?_map, k1]; rfl)
  rw [hc] at hc'
  simp only [Option.some.injEq, Value.slice.injEq, true_and] at hc'
  obtain ⟨rfl, rfl⟩ := hc'
  obtain ⟨gi, l, rfl, -⟩ := k2.head (show 0 < rows[i].length by omega)
  refine ⟨_, rfl, k2.there (by rw [toNat_cast]; omega), fun x w2 e2 => ?_⟩
  have g2 : Only (fun b => b = gi) w w2 := only_setAdd e2
  have k4 := k2.set e2 (by rw [toNat_cast]; simp; omega)
  rw [intsV_set _ _ _ hj] at k4
  have hgi : M gi := k3 gi ⟨_, rfl, rfl⟩
  have hgg : gi ≠ g := row_ne h1 h.ne k2 gi ⟨_, rfl, rfl⟩
  have r2 := h1.keep g2 (fun e => hgg e.symm)
  have cs0 : cs.set i (some ⟨gi, 0, none⟩, rows[i].length, c) = cs := by
    apply List.ext_getElem?
    intro k
    by_cases e : i = k
    · subst e; rw [List.getElem?_set_self (by omega), k1]
    · rw [List.getElem?_set_ne e]
  have hl : (rows[i].set j x).length = rows[i].length := List.length_set ..
  have G := grid_core h h1 h2 h3 h4 hi k1 (r' := rows[i].set j x) (o' := some ⟨gi, 0, none⟩) (c' := c) (w2 := w2) (by rw [hl, cs0]; exact r2) (g2.mono fun b _ hb => .inl ⟨_, rfl, hb.symm⟩) (by rw [hl]; exact k4) fun b hb => .inl hb
  refine ⟨G.more (fun b hb => hb.elim id (k3 b)) fun b hb => ?_, g2.mono fun b _ hb => by rw [hb]; exact hgi⟩
  have := h.lt b hb
  have := g2.size
  omega
end Go.Proofs.Ytcaokpglbolkcaa
