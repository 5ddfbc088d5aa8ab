/- Plain: the order of assignments, and the best one with a given beginning. -/
import Derived.Test.YtalplekmbhemnaaPi
namespace Go.Proofs.Ytalplekmbhemnaa
open Go Go.Nf

/-- m is at least as good as m' -/
def Good (rows : List (List Int)) (m m' : List Int) : Prop :=
  cnt m' rows.length < cnt m rows.length ∨ (cnt m' rows.length = cnt m rows.length ∧ (tot rows m rows.length < tot rows m' rows.length ∨ (tot rows m rows.length = tot rows m' rows.length ∧ (m' = m ∨ Ahead m m'))))
theorem Ahead.trans {x y z : List Int} (h1 : Ahead x y) (h2 : Ahead y z) (hl : x.length = y.length) : Ahead x z := by
  obtain ⟨a, a1, a2, a3, a4, a5⟩ := h1
  obtain ⟨b, b1, b2, b3, b4, b5⟩ := h2
  rcases Nat.lt_trichotomy a b with h | h | h
  · have := b2 a h
    exact ⟨a, a1, fun c hc => (a2 c hc).trans (b2 c (by omega)), by rw [← this]; exact a3, a4, by rw [← this]; exact a5⟩
  · subst h
    exact ⟨a, a1, fun c hc => (a2 c hc).trans (b2 c hc), by omega, a4, by omega⟩
  · have := a2 b h
    exact ⟨b, by omega, fun c hc => (a2 c (by omega)).trans (b2 c hc), by rw [this]; exact b3, by rw [this]; exact b4, by rw [this]; exact b5⟩
theorem Ahead.not {x y : List Int} (h1 : Ahead x y) (h2 : Ahead y x) : False := by
  obtain ⟨a, a1, a2, a3, a4, a5⟩ := h1
  obtain ⟨b, b1, b2, b3, b4, b5⟩ := h2
  rcases Nat.lt_trichotomy a b with h | h | h
  · exact a3 (b2 a h).symm
  · subst h; omega
  · exact b3 (a2 b h).symm
theorem Ahead.total {x y : List Int} (hl : x.length = y.length) : x = y ∨ Ahead x y ∨ Ahead y x := by
  rcases first_diff (fun i => gm x i = gm y i) x.length with h | ⟨a, h1, h2, h3⟩
  · exact .inl (gm_ext hl fun i hi => h i (by omega))
  · by_cases e : gm x a = -1
    · exact .inr (.inr ⟨a, by omega, fun b hb => (h3 b hb).symm, fun e' => h2 e'.symm, by omega, .inl e⟩)
    · by_cases e2 : gm y a = -1
      · exact .inr (.inl ⟨a, h1, h3, h2, e, .inl e2⟩)
      · by_cases e3 : gm x a < gm y a
        · exact .inr (.inl ⟨a, h1, h3, h2, e, .inr e3⟩)
        · exact .inr (.inr ⟨a, by omega, fun b hb => (h3 b hb).symm, fun e' => h2 e'.symm, e2, .inr (by omega)⟩)
theorem Good.refl (rows : List (List Int)) (m : List Int) : Good rows m m := .inr ⟨rfl, .inr ⟨rfl, .inl rfl⟩⟩
theorem Good.trans {rows : List (List Int)} {x y z : List Int} (h1 : Good rows x y) (h2 : Good rows y z) (hl : x.length = y.length) : Good rows x z := by
  rcases h1 with a | ⟨a, b | ⟨b, c⟩⟩ <;> rcases h2 with d | ⟨d, e | ⟨e, f⟩⟩
  · exact .inl (by omega)
  · exact .inl (by omega)
  · exact .inl (by omega)
  · exact .inl (by omega)
  · exact .inr ⟨by omega, .inl (by omega)⟩
  · exact .inr ⟨by omega, .inl (by omega)⟩
  · exact .inl (by omega)
  · exact .inr ⟨by omega, .inl (by omega)⟩
  · refine .inr ⟨by omega, .inr ⟨by omega, ?_⟩⟩
    rcases c with rfl | c
    · exact f
    · rcases f with rfl | f
      · exact .inr c
      · exact .inr (c.trans f hl)
theorem Good.anti {rows : List (List Int)} {x y : List Int} (h1 : Good rows x y) (h2 : Good rows y x) : x = y := by
  rcases h1 with a | ⟨a, b | ⟨b, c⟩⟩ <;> rcases h2 with d | ⟨d, e | ⟨e, f⟩⟩ <;> first
    | omega
    | skip
  rcases c with rfl | c
  · rfl
  · rcases f with rfl | f
    · rfl
    · exact (c.not f).elim
/-- the reference's comparison -/
def betterB (rows : List (List Int)) (x y : List Int) : Prop :=
  cnt y rows.length < cnt x rows.length ∨ (cnt y rows.length = cnt x rows.length ∧ (tot rows x rows.length < tot rows y rows.length ∨ (tot rows x rows.length = tot rows y rows.length ∧ Ahead x y)))
theorem good_of_better {rows : List (List Int)} {x y : List Int} (h : betterB rows x y) : Good rows x y := by
  rcases h with a | ⟨a, b | ⟨b, c⟩⟩
  · exact .inl a
  · exact .inr ⟨a, .inl b⟩
  · exact .inr ⟨a, .inr ⟨b, .inr c⟩⟩
theorem good_of_not {rows : List (List Int)} {x y : List Int} (h : ¬ betterB rows x y) (hl : x.length = y.length) : Good rows y x := by
  by_cases e : cnt y rows.length = cnt x rows.length
  · by_cases e2 : tot rows x rows.length = tot rows y rows.length
    · refine .inr ⟨e.symm, .inr ⟨e2.symm, ?_⟩⟩
      rcases Ahead.total hl with h1 | h1 | h1
      · exact .inl h1
      · exact absurd (.inr ⟨e, .inr ⟨e2, h1⟩⟩) h
      · exact .inr h1
    · refine .inr ⟨e.symm, .inl ?_⟩
      have : ¬ tot rows x rows.length < tot rows y rows.length := fun h' => h (.inr ⟨e, .inl h'⟩)
      omega
  · have : ¬ cnt y rows.length < cnt x rows.length := fun h' => h (.inl h')
    exact .inl (by omega)
theorem Best.good {rows : List (List Int)} {C : Nat} {m m' : List Int} (h : Best rows C m) (hv : Valid rows C m') : Good rows m m' := by
  have h1 := h.most _ hv
  by_cases e : cnt m' rows.length = cnt m rows.length
  · refine .inr ⟨e, ?_⟩
    have h2 := h.least _ hv e
    by_cases e2 : tot rows m rows.length = tot rows m' rows.length
    · exact .inr ⟨e2, h.first _ hv e e2⟩
    · exact .inl (by omega)
  · exact .inl (by omega)

/-- the beginning of an assignment -/
structure Pre (rows : List (List Int)) (C : Nat) (p : List Int) : Prop where
  len : p.length ≤ rows.length
  ok : ∀ i, i < p.length → gm p i = -1 ∨ (0 ≤ gm p i ∧ gm p i < C ∧ at2 rows i (gm p i) ≠ Inf)
  ne : ∀ i k, i < p.length → k < p.length → gm p i ≠ -1 → gm p k = gm p i → k = i
theorem Pre.valid {rows : List (List Int)} {C : Nat} {p : List Int} (h : Pre rows C p) (hl : p.length = rows.length) : Valid rows C p :=
  ⟨hl, fun i hi => h.ok i (by omega), fun i k hi hk => h.ne i k (by omega) (by omega)⟩
theorem gm_app {p : List Int} {x : Int} {i : Nat} : gm (p ++ [x]) i = if i < p.length then gm p i else if i = p.length then x else -1 := by
  unfold gm
  by_cases h : i < p.length
  · rw [if_pos h, List.getElem?_append_left h]
  · rw [if_neg h, List.getElem?_append_right (by omega)]
    by_cases e : i = p.length
    · subst e; rw [if_pos rfl, Nat.sub_self]; rfl
    · rw [if_neg e, List.getElem?_eq_none (by simp; omega)]; rfl
theorem Pre.none {rows : List (List Int)} {C : Nat} {p : List Int} (h : Pre rows C p) (hl : p.length < rows.length) : Pre rows C (p ++ [-1]) := by
  refine ⟨by simp; omega, fun i hi => ?_, fun i k hi hk => ?_⟩
  · rw [gm_app]
    split
    · exact h.ok i ‹_›
    · split <;> exact .inl rfl
  · rw [gm_app, gm_app]
    by_cases h1 : i < p.length
    · by_cases h2 : k < p.length
      · rw [if_pos h1, if_pos h2]; exact h.ne i k h1 h2
      · rw [if_pos h1, if_neg h2]; intro h3 h4; exfalso; split at h4 <;> omega
    · rw [if_neg h1]; intro h3; exfalso; split at h3 <;> exact h3 rfl
theorem Pre.col {rows : List (List Int)} {C : Nat} {p : List Int} {c : Nat} (h : Pre rows C p) (hl : p.length < rows.length) (hc : c < C) (hf : at2 rows p.length (c : Int) ≠ Inf) (hn : ∀ i, i < p.length → gm p i ≠ (c : Int)) : Pre rows C (p ++ [(c : Int)]) := by
  refine ⟨by simp; omega, fun i hi => ?_, fun i k hi hk => ?_⟩
  · rw [gm_app]
    simp only [List.length_append, List.length_cons, List.length_nil] at hi
    split
    · exact h.ok i ‹_›
    · obtain rfl : i = p.length := by omega
      rw [if_pos rfl]
      exact .inr ⟨by omega, by omega, hf⟩
  · simp only [List.length_append, List.length_cons, List.length_nil] at hi hk
    rw [gm_app, gm_app]
    by_cases h1 : i < p.length
    · by_cases h2 : k < p.length
      · rw [if_pos h1, if_pos h2]; exact h.ne i k h1 h2
      · obtain rfl : k = p.length := by omega
        rw [if_pos h1, if_neg h2, if_pos rfl]; intro h3 h4; exact absurd h4.symm (hn i h1)
    · obtain rfl : i = p.length := by omega
      rw [if_neg h1, if_pos rfl]
      by_cases h2 : k < p.length
      · rw [if_pos h2]; intro h3 h4; exact absurd h4 (hn k h2)
      · intros; omega
/-- m begins with p -/
def Begins (p m : List Int) : Prop := ∀ i, i < p.length → gm m i = gm p i
theorem begins_app {p m : List Int} {x : Int} : Begins (p ++ [x]) m ↔ Begins p m ∧ gm m p.length = x := by
  constructor
  · intro h
    refine ⟨fun i hi => ?_, ?_⟩
    · rw [h i (by simp; omega), gm_app, if_pos hi]
    · rw [h p.length (by simp), gm_app, if_neg (by omega), if_pos rfl]
  · rintro ⟨h1, h2⟩ i hi
    rw [gm_app]
    simp only [List.length_append, List.length_cons, List.length_nil] at hi
    split
    · exact h1 i ‹_›
    · obtain rfl : i = p.length := by omega
      rw [if_pos rfl, h2]
/-- the best with a given beginning, among those whose next column is -1 or below c -/
structure BestUp (rows : List (List Int)) (C : Nat) (p : List Int) (c : Nat) (m : List Int) : Prop where
  valid : Valid rows C m
  begins : Begins p m
  best : ∀ m', Valid rows C m' → Begins p m' → gm m' p.length < c → Good rows m m'
structure BestFrom (rows : List (List Int)) (C : Nat) (p m : List Int) : Prop where
  valid : Valid rows C m
  begins : Begins p m
  best : ∀ m', Valid rows C m' → Begins p m' → Good rows m m'
theorem BestFrom.up {rows : List (List Int)} {C : Nat} {p m : List Int} (h : BestFrom rows C (p ++ [-1]) m) (hl : p.length < rows.length) : BestUp rows C p 0 m := by
  refine ⟨h.valid, (begins_app.1 h.begins).1, fun m' hv hb hlt => h.best m' hv (begins_app.2 ⟨hb, ?_⟩)⟩
  rcases hv.ok p.length hl with e | e
  · exact e
  · omega
theorem BestUp.skip {rows : List (List Int)} {C : Nat} {p m : List Int} {c : Nat} (h : BestUp rows C p c m) (hl : p.length < rows.length) (hn : at2 rows p.length (c : Int) = Inf ∨ ∃ i, i < p.length ∧ gm p i = (c : Int)) : BestUp rows C p (c + 1) m := by
  refine ⟨h.valid, h.begins, fun m' hv hb hlt => ?_⟩
  by_cases e : gm m' p.length = (c : Int)
  · exfalso
    rcases hn with hn | ⟨i, hi, hn⟩
    · rcases hv.ok p.length hl with e' | ⟨_, _, e'⟩
      · omega
      · rw [e] at e'; exact e' hn
    · have h1 := hb i hi
      have := hv.ne p.length i hl (by omega) (by omega) (by omega)
      omega
  · exact h.best m' hv hb (by omega)
theorem BestUp.take {rows : List (List Int)} {C : Nat} {p m x : List Int} {c : Nat} (h : BestUp rows C p c m) (hx : BestFrom rows C (p ++ [(c : Int)]) x) : (betterB rows x m → BestUp rows C p (c + 1) x) ∧ (¬ betterB rows x m → BestUp rows C p (c + 1) m) := by
  have hlx : x.length = m.length := hx.valid.len.trans h.valid.len.symm
  have split : ∀ m', Valid rows C m' → Begins p m' → gm m' p.length < ((c + 1 : Nat) : Int) → Good rows m m' ∨ Good rows x m' := fun m' hv hb hlt => by
    by_cases e : gm m' p.length = (c : Int)
    · exact .inr (hx.best m' hv (begins_app.2 ⟨hb, e⟩))
    · exact .inl (h.best m' hv hb (by omega))
  refine ⟨fun hb => ⟨hx.valid, (begins_app.1 hx.begins).1, fun m' hv hbg hlt => ?_⟩, fun hb => ⟨h.valid, h.begins, fun m' hv hbg hlt => ?_⟩⟩
  · rcases split m' hv hbg hlt with g | g
    · exact (good_of_better hb).trans g hlx
    · exact g
  · rcases split m' hv hbg hlt with g | g
    · exact g
    · exact (good_of_not hb hlx).trans g hlx.symm
theorem BestUp.all {rows : List (List Int)} {C : Nat} {p m : List Int} (h : BestUp rows C p C m) (hl : p.length < rows.length) : BestFrom rows C p m :=
  ⟨h.valid, h.begins, fun m' hv hb => h.best m' hv hb (by rcases hv.ok p.length hl with e | e <;> omega)⟩
theorem Pre.done {rows : List (List Int)} {C : Nat} {p : List Int} (h : Pre rows C p) (hl : p.length = rows.length) : BestFrom rows C p p := by
  refine ⟨h.valid hl, fun _ _ => rfl, fun m' hv hb => ?_⟩
  rw [gm_ext (m' := m') (m := p) (by rw [hv.len, hl]) fun i hi => hb i hi]
  exact Good.refl _ _
theorem Best.unique {rows : List (List Int)} {C : Nat} {m m' : List Int} (h : Best rows C m) (h' : BestFrom rows C [] m') : m = m' :=
  (h.good h'.valid).anti (h'.best m h.valid fun i hi => by simp at hi)
end Go.Proofs.Ytalplekmbhemnaa
