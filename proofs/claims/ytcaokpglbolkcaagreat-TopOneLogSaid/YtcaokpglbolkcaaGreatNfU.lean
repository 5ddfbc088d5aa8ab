/- The engine, part U: matrices that a call builds by append. -/
import Derived.Test.YtcaokpglbolkcaaGreatNfZ
import Derived.Test.YtcaokpglbolkcaaGreatNfQ
namespace Go.Nf
open Go Go.RowKit

/-- append of nothing -/
theorem run_append_nothing' {P : Program} {w : World} {t ty T size bytes : Nat} {o o2 : Option Addr} {n c c2 : Nat} {K : Value → World → Prop} (he : Elem P t T size bytes) (hnc : n ≤ c) (h : K (.slice o n c) w) :
    RunOk P (Hold (Builtin.append_ #[t, t] ty #[.slice o n c, .slice o2 0 c2])) w K := by
  obtain ⟨i, z, ht, hi, hz, hsize, hby, hzs, hsz⟩ := he.ex
  refine ⟨_, w, ?_, h⟩
  unfold Hold
  cases o <;> cases o2 <;> simp [Builtin.append_, run_underlying ht, sizeOf, typeInfo, hi, Builtin.lenOf, Builtin.firstCells, loadCells, loadCellsFrom, hnc, storeCells]
theorem Own.le {w : World} {B T size : Nat} {o : Option Addr} {n c : Nat} {xs : List Value} (h : Own w B T size o n c xs) : n ≤ c := by
  rcases h.2 with ⟨e, e2⟩ | ⟨g, cap, cur, e, _, _, h, _⟩
  · omega
  · simp only [Value.slice.injEq] at e; omega
theorem Own.row {w : World} {B T size : Nat} {o : Option Addr} {n c : Nat} {xs : List Value} (h : Own w B T size o n c xs) {b : Nat} (hb : inBlock o b) : ∃ l, Row w b T l := by
  obtain ⟨a, rfl, rfl⟩ := hb
  rcases h.2 with ⟨e, _⟩ | ⟨g, cap, cur, e, _, hg, _⟩
  · cases e
  · cases e
    exact ⟨cur.toList, by unfold Row; rw [Array.toArray_toList]; exact hg⟩
theorem Own.apart {w : World} {B B' T T' size size' : Nat} {o o' : Option Addr} {n c n' c' : Nat} {xs xs' : List Value} (h : Own w B T size o n c xs) (h' : Own w B' T' size' o' n' c' xs') (ht : T ≠ T') : ∀ b, inBlock o b → ¬ inBlock o' b := fun b hb hb' => by
  obtain ⟨l, hl⟩ := h.row hb
  obtain ⟨l', hl'⟩ := h'.row hb'
  exact ht (hl.inj hl').2
theorem Own.apartR {w : World} {B T T' size : Nat} {o : Option Addr} {n c : Nat} {xs : List Value} {b : Nat} {l : List Value} (h : Own w B T size o n c xs) (hr : Row w b T' l) (ht : T ≠ T') : ¬ inBlock o b := fun hb => by
  obtain ⟨l', hl'⟩ := h.row hb
  exact ht (hl'.inj hr).2
theorem Own.nums {w : World} {B T : Nat} {o : Option Addr} {n c : Nat} {xs : List Int} (h : Own w B T 1 o n c (intsV xs)) : Nums w (fun b => B ≤ b ∧ b < hs w) o xs := fun j v hj => by
  have hl := h.length
  have hjl : j < xs.length := by
    rcases Nat.lt_or_ge j xs.length with h | h
    · exact h
    · rw [List.getElem?_eq_none h] at hj; cases hj
  simp only [intsV, List.length_map] at hl
  obtain ⟨g, l, rfl, hr, ht, _⟩ := h.head (by omega)
  refine ⟨_, rfl, h.base g ⟨_, rfl, rfl⟩, h.cell ?_⟩
  rw [toNat_cast, Nat.mul_one]; simp [intsV, hj]
theorem Nums.mono {w : World} {A A' : Nat → Prop} {o : Option Addr} {xs : List Int} (h : Nums w A o xs) (hA : ∀ b, A b → A' b) : Nums w A' o xs := fun j v hj => by
  obtain ⟨a, h1, h2, h3⟩ := h j v hj
  exact ⟨a, h1, hA _ h2, h3⟩
theorem intsV_one (xs : List Int) : ∀ u ∈ intsV xs, u.oneCell' = true := by
  intro u hu; simp only [intsV, List.mem_map] at hu; obtain ⟨x, -, rfl⟩ := hu; rfl
theorem append_nums {P : Program} {w : World} {B t ty T bytes : Nat} {o o2 : Option Addr} {n c c2 : Nat} {xs ys : List Int} {A : Nat → Prop} {K : Value → World → Prop} (he : Elem P t T 1 bytes) (hown : Own w B T 1 o n c (intsV xs)) (hn : Nums w A o2 ys)
    (h63 : n + ys.length ≤ maxLen) (hbytes : (n + ys.length) * bytes ≤ 140737488355328) (hbase : B ≤ hs w)
    (h : ∀ o' c' w', Own w' B T 1 o' (n + ys.length) c' (intsV (xs ++ ys)) → Only (inBlock o) w w' → K (.slice o' (n + ys.length) c') w') :
    RunOk P (Hold (Builtin.append_ #[t, t] ty #[.slice o n c, .slice o2 ys.length c2])) w K := by
  cases ys with
  | nil =>
    refine run_append_nothing' he hown.le ?_
    have := h o c w (by simpa using hown) (Only.refl _ _)
    simpa using this
  | cons y ys =>
    obtain ⟨a, rfl, -⟩ := hn.get (show 0 < (y :: ys).length by simp)
    refine run_append he hown (news := intsV (y :: ys)) (by simp [intsV]) (fun j u hj => ?_) (intsV_one _) h63 hbytes hbase fun o' c' w' h1 h2 _ => h o' c' w' (by simpa [intsV] using h1) h2
    simp only [intsV, List.getElem?_map, Option.map_eq_some_iff] at hj
    obtain ⟨x, hx, rfl⟩ := hj
    obtain ⟨a', ha', -, hc⟩ := hn j x hx
    cases ha'
    rw [toNat_cast, Nat.mul_one] at hc
    exact hc

/-- rows of numbers, all in blocks of the call's own -/
def Built (w : World) (B TT T : Nat) (o : Option Addr) (n c : Nat) (rows : List (List Int)) : Prop :=
  ∃ svs : List Value, Own w B TT 1 o n c svs ∧ svs.length = rows.length ∧ ∀ (i : Nat) r, rows[i]? = some r → ∃ oi ci, svs[i]? = some (.slice oi r.length ci) ∧ Own w B T 1 oi r.length ci (intsV r)
theorem Built.len {w : World} {B TT T : Nat} {o : Option Addr} {n c : Nat} {rows : List (List Int)} (h : Built w B TT T o n c rows) : n = rows.length := by
  obtain ⟨svs, h1, h2, -⟩ := h
  have := h1.length
  omega
theorem Built.nil (w : World) (B TT T : Nat) : Built w B TT T none 0 0 [] := ⟨[], own_nil w B TT 1, rfl, fun i r h => by simp at h⟩
theorem Built.keep {S : Nat → Prop} {w w' : World} {B TT T : Nat} {o : Option Addr} {n c : Nat} {rows : List (List Int)} (h : Built w B TT T o n c rows) (g : Only S w w') (hS : ∀ b, B ≤ b → b < hs w → ¬ S b) : Built w' B TT T o n c rows := by
  obtain ⟨svs, h1, h2, h3⟩ := h
  refine ⟨svs, h1.keep g fun b hb => hS b (h1.base b hb).1 (h1.base b hb).2, h2, fun i r hr => ?_⟩
  obtain ⟨oi, ci, h4, h5⟩ := h3 i r hr
  exact ⟨oi, ci, h4, h5.keep g fun b hb => hS b (h5.base b hb).1 (h5.base b hb).2⟩
theorem Built.grow {w w' : World} {B TT T : Nat} {o : Option Addr} {n c : Nat} {rows : List (List Int)} (h : Built w B TT T o n c rows) (g : Grow w w') : Built w' B TT T o n c rows := h.keep g fun _ _ _ h => h
theorem Built.mono {w : World} {B B' TT T : Nat} {o : Option Addr} {n c : Nat} {rows : List (List Int)} (h : Built w B TT T o n c rows) (hB : B' ≤ B) : Built w B' TT T o n c rows := by
  obtain ⟨svs, h1, h2, h3⟩ := h
  refine ⟨svs, h1.mono hB, h2, fun i r hr => ?_⟩
  obtain ⟨oi, ci, h4, h5⟩ := h3 i r hr
  exact ⟨oi, ci, h4, h5.mono hB⟩
theorem Built.mat {w : World} {B TT T : Nat} {o : Option Addr} {n c : Nat} {rows : List (List Int)} (h : Built w B TT T o n c rows) : Mat w (fun b => B ≤ b ∧ b < hs w) o rows := fun i row hi => by
  obtain ⟨svs, h1, h2, h3⟩ := h
  obtain ⟨oi, ci, h4, h5⟩ := h3 i row hi
  have hjl : i < rows.length := by
    rcases Nat.lt_or_ge i rows.length with h | h
    · exact h
    · rw [List.getElem?_eq_none h] at hi; cases hi
  have hl := h1.length
  obtain ⟨g, l, rfl, hr, ht, _⟩ := h1.head (by omega)
  refine ⟨_, oi, ci, rfl, h1.base g ⟨_, rfl, rfl⟩, h1.cell ?_, h5.nums⟩
  rw [toNat_cast, Nat.mul_one]; exact h4
theorem Built.push {P : Program} {w : World} {B t ty TT T bytes : Nat} {o oi : Option Addr} {n c ci b cx : Nat} {rows : List (List Int)} {r : List Int} {K : Value → World → Prop} (he : Elem P t TT 1 bytes) (h : Built w B TT T o n c rows) (hi : Own w B T 1 oi r.length ci (intsV r))
    (hrow : Row w b TT [.slice oi r.length ci]) (hT : TT ≠ T) (h63 : n + 1 ≤ maxLen) (hbytes : (n + 1) * bytes ≤ 140737488355328) (hbase : B ≤ hs w)
    (hK : ∀ o' c' w', Built w' B TT T o' (n + 1) c' (rows ++ [r]) → Only (inBlock o) w w' → K (.slice o' (n + 1) c') w') :
    RunOk P (Hold (Builtin.append_ #[t, t] ty #[.slice o n c, .slice (some ⟨b, 0, none⟩) 1 cx])) w K := by
  obtain ⟨svs, h1, h2, h3⟩ := h
  refine run_append_row he h1 hrow rfl (by simp [Value.oneCell']) h63 hbytes hbase fun o' c' w' g1 g2 _ => hK o' c' w' ⟨_, g1, by simp [h2], fun i x hx => ?_⟩ g2
  rcases Nat.lt_or_ge i rows.length with h | h
  · rw [List.getElem?_append_left h] at hx
    obtain ⟨oi, ci, h4, h5⟩ := h3 i x hx
    exact ⟨oi, ci, by rw [List.getElem?_append_left (by omega)]; exact h4, h5.keep g2 (h5.apart h1 fun e => hT e.symm)⟩
  · rw [List.getElem?_append_right h] at hx
    have e : i - rows.length = 0 := by
      rcases Nat.eq_zero_or_pos (i - rows.length) with h' | h'
      · exact h'
      · rw [List.getElem?_eq_none (by simp; omega)] at hx; cases hx
    rw [e] at hx
    cases hx
    exact ⟨oi, ci, by rw [List.getElem?_append_right (by omega), h2, e]; rfl, hi.keep g2 (hi.apart h1 fun e => hT e.symm)⟩
end Go.Nf
