/- A matrix in memory that grows by append, row by row, and is written. -/
import Derived.Test.YtalplekmbhemnaaGr
import Derived.Test.YtalplekmbhemnaaGt
import Derived.Maps.AppendAt
namespace Go.Proofs.Ytalplekmbhemnaa
open Go Go.Nf

/-- rows in blocks of their own, from B on, below T; the slice of them at block b -/
structure Grid (w : World) (b B T : Nat) (rows : List (List Int)) : Prop where
  ex : ∃ (os : Nat → Option Addr) (cs : Nat → Nat), Row w b 32 ((List.range rows.length).map fun i => .slice (os i) ((rows[i]?).getD []).length (cs i)) ∧
    (∀ (i : Nat) r, rows[i]? = some r → Own w B 2 1 (os i) r.length (cs i) (intsV r)) ∧ (∀ i k, i ≠ k → ∀ x, inBlock (os i) x → ¬ inBlock (os k) x) ∧ (∀ i x, inBlock (os i) x → B ≤ x ∧ x < T)
  lt : b < B
theorem Grid.keep {S : Nat → Prop} {w w' : World} {b B T : Nat} {rows : List (List Int)} (h : Grid w b B T rows) (g : Only S w w') (h1 : ¬ S b) (h2 : ∀ x, B ≤ x → x < T → ¬ S x) : Grid w' b B T rows := by
  obtain ⟨os, cs, k1, k2, k3, k4⟩ := h.ex
  exact ⟨⟨os, cs, k1.keep g h1, fun i r hr => (k2 i r hr).keep g fun x hx => h2 x (k4 i x hx).1 (k4 i x hx).2, k3, k4⟩, h.lt⟩
theorem Grid.grow {w w' : World} {b B T : Nat} {rows : List (List Int)} (h : Grid w b B T rows) (g : Grow w w') : Grid w' b B T rows := h.keep g (fun h => h) fun _ _ _ h => h
theorem Grid.wide {w : World} {b B T T' : Nat} {rows : List (List Int)} (h : Grid w b B T rows) (hT : T ≤ T') : Grid w b B T' rows := by
  obtain ⟨os, cs, k1, k2, k3, k4⟩ := h.ex
  exact ⟨⟨os, cs, k1, k2, k3, fun i x hx => ⟨(k4 i x hx).1, by have := (k4 i x hx).2; omega⟩⟩, h.lt⟩
theorem lt_of_get {α : Type} {l : List α} {i : Nat} {x : α} (h : l[i]? = some x) : i < l.length := by
  rcases Nat.lt_or_ge i l.length with h' | h'
  · exact h'
  · rw [List.getElem?_eq_none h'] at h; cases h
theorem Grid.mat {w : World} {b B T : Nat} {rows : List (List Int)} (h : Grid w b B T rows) : Mat w (fun _ => True) (some ⟨b, 0, none⟩) rows := fun i row hi => by
  obtain ⟨os, cs, k1, k2, k3, k4⟩ := h.ex
  have hlt := lt_of_get hi
  refine ⟨_, os i, cs i, rfl, trivial, k1.cellAdd ?_, (k2 i row hi).nums.mono fun _ _ => trivial⟩
  rw [toNat_cast, Nat.mul_one, List.getElem?_map, List.getElem?_range hlt, Option.map_some, hi]; rfl
theorem Grid.start {w : World} {b R T : Nat} (h : Row w b 32 (List.replicate R (.slice none 0 0))) : Grid w b (b + 1) T (List.replicate R []) := by
  refine ⟨⟨fun _ => none, fun _ => 0, ?_, fun i r hr => ?_, fun i k _ x hx => ?_, fun i x hx => ?_⟩, by omega⟩
  · have : (List.range (List.replicate R ([] : List Int)).length).map (fun i => Value.slice none (((List.replicate R ([] : List Int))[i]?).getD []).length 0) = List.replicate R (.slice none 0 0) := by
      apply List.ext_getElem
      · simp
      · intro i h1 h2; simp at h2; simp [h2]
    rw [this]; exact h
  · rw [List.getElem?_replicate] at hr
    split at hr
    · cases hr; exact own_nil _ _ _ _
    · cases hr
  · obtain ⟨a, e, _⟩ := hx; cases e
  · obtain ⟨a, e, _⟩ := hx; cases e
/-- a cell is written -/
theorem Grid.set {w : World} {b B T i j : Nat} {rows : List (List Int)} {r : List Int} {x : Int} (h : Grid w b B T rows) (hr : rows[i]? = some r) (hj : j < r.length) :
    ∃ a ci, w.cell? ((⟨b, 0, none⟩ : Addr).add ((i : Int).toNat * 1)) = some (.slice (some a) r.length ci) ∧ There w (a.add ((j : Int).toNat * 1)) 1 ∧
      ∀ w', w' = setCells w (a.add ((j : Int).toNat * 1)) [.int .i64 x] 0 → Grid w' b B T (rows.set i (r.set j x)) ∧ Only (fun k => B ≤ k ∧ k < T) w w' := by
  obtain ⟨os, cs, k1, k2, k3, k4⟩ := h.ex
  have hlt := lt_of_get hr
  have ho := k2 i r hr
  obtain ⟨g, l, hg, hrow, -, -⟩ := ho.head (by omega)
  have hb := k4 i g ⟨_, hg, rfl⟩
  have hbB := h.lt
  refine ⟨⟨g, 0, none⟩, cs i, ?_, ?_, fun w' e => ?_⟩
  · rw [← hg]; refine k1.cellAdd ?_
    rw [toNat_cast, Nat.mul_one, List.getElem?_map, List.getElem?_range hlt, Option.map_some, hr]; rfl
  · rw [hg] at ho; exact ho.there (by rw [toNat_cast]; omega)
  have gg := only_setAdd e
  refine ⟨⟨⟨os, cs, ?_, fun k s hk => ?_, k3, k4⟩, hbB⟩, gg.mono fun k hk e => by omega⟩
  · have e2 : (List.range (rows.set i (r.set j x)).length).map (fun k => Value.slice (os k) (((rows.set i (r.set j x))[k]?).getD []).length (cs k)) = (List.range rows.length).map fun k => .slice (os k) ((rows[k]?).getD []).length (cs k) := by
      rw [List.length_set]
      refine List.map_congr_left fun k _ => ?_
      rw [List.getElem?_set]
      by_cases e3 : i = k
      · subst e3; rw [if_pos rfl, hr]; simp [hlt]
      · rw [if_neg e3]
    rw [e2]; exact k1.keep gg (by omega)
  · rw [List.getElem?_set] at hk
    by_cases e3 : i = k
    · subst e3
      rw [if_pos rfl] at hk
      simp only [hlt, if_true, Option.some.injEq] at hk
      subst hk
      rw [hg] at ho ⊢
      have := ho.set e (by rw [toNat_cast]; simp; omega)
      rw [intsV_set _ _ _ hj] at this
      rw [List.length_set]; exact this
    · rw [if_neg e3] at hk
      refine (k2 k s hk).keep gg fun y hy e4 => ?_
      exact k3 k i (fun h => e3 h.symm) y hy ⟨_, hg, e4.symm⟩
/-- a row grows -/
theorem Grid.push {w : World} {b B i : Nat} {rows : List (List Int)} {r : List Int} (h : Grid w b B (hs w) rows) (hr : rows[i]? = some r) (hB : B ≤ hs w) (hl : r.length ≤ 100) :
    ∃ oi ci, w.cell? ((⟨b, 0, none⟩ : Addr).add ((i : Int).toNat * 1)) = some (.slice oi r.length ci) ∧
      ∀ (w1 : World) (x : Int) (K : Value → World → Prop), w1 = w.alloc (.cells #[.int .i64 x] 2 (0, 0)) →
        (∀ o' c' w2, There w2 ((⟨b, 0, none⟩ : Addr).add ((i : Int).toNat * 1)) 1 → (∀ w3, w3 = setCells w2 ((⟨b, 0, none⟩ : Addr).add ((i : Int).toNat * 1)) [.slice o' (r.length + 1) c'] 0 → Grid w3 b B (hs w3) (rows.set i (r ++ [x])) ∧ Only (fun k => b ≤ k) w w3) → K (.slice o' (r.length + 1) c') w2) →
        RunOk Try.prog (Hold (Builtin.append_ #[32, 32] 32 #[.slice oi r.length ci, .slice (some ⟨hs w, 0, none⟩) 1 1])) w1 K := by
  obtain ⟨os, cs, k1, k2, k3, k4⟩ := h.ex
  have hlt := lt_of_get hr
  have hbB := h.lt
  refine ⟨os i, cs i, ?_, fun w1 x K e1 hK => ?_⟩
  · refine k1.cellAdd ?_
    rw [toNat_cast, Nat.mul_one, List.getElem?_map, List.getElem?_range hlt, Option.map_some, hr]; rfl
  have l1 := hs_alloc e1
  have ho := (k2 i r hr).grow (only_alloc e1)
  have hx := Row.new e1
  obtain ⟨ti, z, ht, hi, hz, hsize, hby, hzs, hsz⟩ := elem32.ex
  obtain ⟨v', w2, run, ow, gr, -, hat⟩ := run_append_own_at (P := Try.prog) w1 B 32 32 2 ti z 1 8 ht hi hz hsize hby hzs hsz _ r.length (intsV r) ho ⟨hs w, 0, none⟩ 1 1 [.int .i64 x] rfl (fun j u hj => hx.cellAdd hj) (by simp [Value.oneCell']) (by unfold maxLen; omega) (by omega) (show B ≤ hs w1 by omega)
  have g12 : Only (inBlock (os i)) w1 w2 := grownBy_only gr
  have hv : ∃ g c', v' = .slice (some ⟨g, 0, none⟩) (r.length + 1) c' := by
    rcases ow.2 with ⟨e, e2⟩ | ⟨g, cap, cur, e, _⟩
    · omega
    · exact ⟨g, cap, e⟩
  obtain ⟨g, c', rfl⟩ := hv
  have ow : Own w2 B 2 1 (some ⟨g, 0, none⟩) (r.length + 1) c' (intsV (r ++ [x])) := by simpa [intsV] using ow
  have hgb : inBlock (os i) g ∨ g = hs w1 := by
    rcases hat with e | e
    · left
      cases ho2 : os i with
      | none => rw [ho2] at e; cases e
      | some a =>
        rw [ho2] at e
        simp only [Value.ownBlock, Option.some.injEq] at e
        exact ⟨a, rfl, e.symm⟩
    · right
      simp only [Value.ownBlock, Option.some.injEq] at e
      exact e
  have l2 := g12.size
  have hgB := ow.base g ⟨_, rfl, rfl⟩
  have k1' := (k1.grow (only_alloc e1)).keep g12 fun hin => by have := (k4 i b hin).1; omega
  refine ⟨_, w2, run, hK _ _ _ (k1'.thereAdd (by rw [toNat_cast]; simp; omega)) fun w3 e3 => ?_⟩
  have g23 := only_setAdd e3
  have l3 := g23.size
  have g02 : Only (inBlock (os i)) w w2 := (only_alloc e1).trans' g12
  refine ⟨⟨⟨fun k => if k = i then some ⟨g, 0, none⟩ else os k, fun k => if k = i then c' else cs k, ?_, fun k s hk => ?_, fun k k' hkk y hy hy' => ?_, fun k y hy => ?_⟩, hbB⟩, (g02.mono fun k hk e => by have := (k4 i k e).1; omega).trans g23 fun k hk e => by omega⟩
  · have := k1'.setAdd e3
    have e2 : setFrom ((List.range rows.length).map fun k => Value.slice (os k) ((rows[k]?).getD []).length (cs k)) ((i : Int).toNat * 1) [.slice (some ⟨g, 0, none⟩) (r.length + 1) c'] = (List.range (rows.set i (r ++ [x])).length).map fun k => .slice (if k = i then some ⟨g, 0, none⟩ else os k) (((rows.set i (r ++ [x]))[k]?).getD []).length (if k = i then c' else cs k) := by
      rw [toNat_cast, Nat.mul_one, List.length_set]
      simp only [setFrom]
      apply List.ext_getElem
      · simp
      · intro k h1 h2
        simp only [List.length_set, List.length_map, List.length_range] at h1
        rw [List.getElem_set]
        by_cases e4 : i = k
        · subst e4; simp [hlt]
        · simp only [if_neg e4, if_neg (fun h => e4 (Eq.symm h)), List.getElem_map, List.getElem_range, List.getElem?_set]
    rw [← e2]; exact this
  · rw [List.getElem?_set] at hk
    by_cases e4 : i = k
    · subst e4
      simp only [if_pos, hlt, Option.some.injEq] at hk ⊢
      subst hk
      simp only [List.length_append, List.length_cons, List.length_nil]
      exact ow.keep g23 fun y hy e => by have := (ow.base y hy).1; omega
    · rw [if_neg e4] at hk
      simp only [if_neg (fun h => e4 (Eq.symm h))]
      have hne : k ≠ i := fun h => e4 h.symm
      exact ((k2 k s hk).keep g02 fun y hy => k3 k i hne y hy).keep g23 fun y hy e => by have := (k4 k y hy).1; omega
  · have gout : ∀ k', k' ≠ i → ∀ y, inBlock (os k') y → y ≠ g := fun z hz u hu e => by
      rcases hgb with h | h
      · exact k3 z i hz u hu (e ▸ h)
      · have := (k4 z u hu).2; omega
    by_cases e4 : k = i <;> by_cases e5 : k' = i
    · omega
    · simp only [if_pos e4] at hy
      simp only [if_neg e5] at hy'
      obtain ⟨a, ea, eb⟩ := hy
      cases ea
      exact gout k' e5 y hy' eb.symm
    · simp only [if_neg e4] at hy
      simp only [if_pos e5] at hy'
      obtain ⟨a, ea, eb⟩ := hy'
      cases ea
      exact gout k e4 y hy eb.symm
    · simp only [if_neg e4] at hy
      simp only [if_neg e5] at hy'
      exact k3 k k' hkk y hy hy'
  · by_cases e4 : k = i
    · simp only [if_pos e4] at hy
      obtain ⟨a, ea, eb⟩ := hy
      cases ea
      have eb : g = y := eb
      omega
    · simp only [if_neg e4] at hy
      have := k4 k y hy
      omega
end Go.Proofs.Ytalplekmbhemnaa
