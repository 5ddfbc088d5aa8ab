/- Contract: newSquare. -/
import Derived.Test.YtalplekmbhemnaaGf
namespace Go.Proofs.Ytalplekmbhemnaa
open Go Go.Nf

theorem own_row {w : World} {B T size : Nat} {o : Option Addr} {n c : Nat} {xs : List Value} (h : Own w B T size o n c xs) {b : Nat} (hb : inBlock o b) : ∃ l, Row w b T l := by
  obtain ⟨a, rfl, rfl⟩ := hb
  rcases h.2 with ⟨e, _⟩ | ⟨g, cap, cur, e, _, hg, _⟩
  · cases e
  · cases e
    exact ⟨cur.toList, by unfold Row; rw [Array.toArray_toList]; exact hg⟩
theorem own_ne {w : World} {B T T' size : Nat} {o : Option Addr} {n c : Nat} {xs : List Value} (h : Own w B T size o n c xs) {b : Nat} {l : List Value} (hr : Row w b T' l) (ht : T ≠ T') : ¬ inBlock o b := fun hb => by
  obtain ⟨l', hl'⟩ := own_row h hb
  exact ht (hl'.inj hr).2

def sv (S g : Nat) : Value := .slice (some ⟨g, 0, none⟩) S S
/-- the first t rows of the square lie in the blocks gs -/
structure Part (w0 w : World) (q B : Nat) (rows : List (List Int)) (C : Nat) (oc : Option Addr) (cc t : Nat) (gs : List Nat) (rest : List Value) : Prop where
  hq : Row w q 59 ([.slice oc t cc, .int .i64 ((rows.length + C : Nat) : Int)] ++ rest)
  own : Own w B 32 1 oc t cc (gs.map (sv (rows.length + C)))
  len : gs.length = t
  row : ∀ (i : Nat) g, gs[i]? = some g → Row w g 2 (intsV (sqRow rows C i)) ∧ q < g
  g : Grow w0 w
theorem newSquare_rows (q B : Nat) (rows : List (List Int)) (C : Nat) (oc : Option Addr) (cc t : Nat) (gs : List Nat) (w0 w : World) (g : Nat) (hp : Part w0 w q B rows C oc cc t gs [.slice none 0 0, .slice none 0 0, .slice none 0 0]) (hq0 : hs w0 ≤ q) (hqB : q < B) (hB : hs w0 ≤ B) (hBw : B ≤ hs w)
    (hg : Row w g 2 (intsV (sqRow rows C t))) (hgq : q < g) (hS : t < rows.length + C) (hS' : rows.length + C ≤ 128) (K : Option Addr → Nat → Nat → World → Prop)
    (hK : ∀ o' c' w', Part w0 w' q B rows C o' c' (t + 1) (gs ++ [g]) [.slice none 0 0, .slice none 0 0, .slice none 0 0] → K o' (t + 1) c' w') :
    ∀ w26, w26 = w.alloc (.cells #[sv (rows.length + C) g] 32 (0, 0)) →
      RunOk Try.prog (Hold (Builtin.append_ #[22, 22] 22 #[.slice oc t cc, .slice (some ⟨hs w, 0, none⟩) 1 1])) w26 fun v28 w29 => ∃ o30 n31 n32, v28 = .slice o30 n31 n32 ∧ There w29 ⟨q, 0, none⟩ 1 ∧ ∀ w33, w33 = setCells w29 ⟨q, 0, none⟩ [.slice o30 n31 n32] 0 → K o30 n31 n32 w33 := by
  intro w26 e26
  have l26 := hs_alloc e26
  have g26 : Grow w w26 := only_alloc e26
  refine run_append_row elem22 (hp.own.grow g26) (Row.new e26) rfl (by simp [sv, Value.oneCell']) (by unfold maxLen; omega) (by omega) (by omega) ?_
  intro o' c' w29 hown' ho' _
  have nq : ¬ inBlock oc q := own_ne hp.own hp.hq (by decide)
  have rq := (hp.hq.grow g26).keep ho' nq
  refine ⟨_, _, _, rfl, rq.there (by simp), fun w33 e33 => hK _ _ _ ⟨?_, ?_, by simp [hp.len], fun i g' hi => ?_, ?_⟩⟩
  · exact rq.set e33
  · have := hown'.keep (only_set e33) fun b hb hbe => by have := (hown'.base b hb).1; omega
    rw [List.map_append]; exact this
  · have hrow : Row w g' 2 (intsV (sqRow rows C i)) ∧ q < g' := by
      rcases Nat.lt_or_ge i gs.length with h | h
      · rw [List.getElem?_append_left h] at hi; exact hp.row i g' hi
      · have hlen := hp.len
        rw [List.getElem?_append_right h] at hi
        have : i - gs.length = 0 := by
          rcases Nat.eq_zero_or_pos (i - gs.length) with h' | h'
          · exact h'
          · rw [List.getElem?_eq_none (by simp; omega)] at hi; cases hi
        rw [this] at hi
        cases hi
        obtain rfl : i = t := by omega
        exact ⟨hg, hgq⟩
    exact ⟨((hrow.1.grow g26).keep ho' (own_ne hp.own hrow.1 (by decide))).keep (only_set e33) (by omega), hrow.2⟩
  · exact ((hp.g.trans' g26).trans ho' fun b hb hin => by have := (hp.own.base b hin).1; omega).trans (only_set e33) fun b hb hbe => by omega
end Go.Proofs.Ytalplekmbhemnaa
