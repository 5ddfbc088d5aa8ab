/- Contracts: Successors and the reference's Next. -/
import Derived.Test.YtbaacpfjecbbgaaHe
namespace Go.Proofs.Ytbaacpfjecbbgaa
open Go Go.Nf

/-- q's answers lead to y -/
def Sx (qs : List Qst) (q y : Int) : Prop := 0 ≤ y ∧ 0 ≤ q ∧ ∃ s, qs[q.toNat]? = some s ∧ ∃ a, a ∈ s.ans ∧ a.next = y
def upTo (l : List Ans) (y : Int) : Prop := 0 ≤ y ∧ ∃ a, a ∈ l ∧ a.next = y
theorem upTo_nil (y : Int) : ¬ upTo [] y := by rintro ⟨_, a, h, _⟩; cases h
theorem upTo_succ {l : List Ans} {j : Nat} (h : j < l.length) (y : Int) : upTo (l.take (j + 1)) y ↔ upTo (l.take j) y ∨ (0 ≤ y ∧ l[j].next = y) := by
  unfold upTo
  rw [List.take_succ_eq_append_getElem h]
  simp only [List.mem_append, List.mem_singleton]
  constructor
  · rintro ⟨h0, a, h | rfl, e⟩
    · exact .inl ⟨h0, a, h, e⟩
    · exact .inr ⟨h0, e⟩
  · rintro (⟨h0, a, h, e⟩ | ⟨h0, e⟩)
    · exact ⟨h0, a, .inl h, e⟩
    · exact ⟨h0, _, .inr rfl, e⟩
theorem Sx_upTo {qs : List Qst} {q : Int} {s : Qst} (h0 : 0 ≤ q) (h : qs[q.toNat]? = some s) (y : Int) : Sx qs q y ↔ upTo s.ans y := by
  unfold Sx upTo
  constructor
  · rintro ⟨hy, -, s', hs, r⟩
    rw [h] at hs; cases hs
    exact ⟨hy, r⟩
  · rintro ⟨hy, r⟩
    exact ⟨hy, h0, s, h, r⟩
theorem Sx_out {qs : List Qst} {q : Int} (h : q < 0 ∨ (qs.length : Int) ≤ q) (y : Int) : ¬ Sx qs q y := by
  rintro ⟨-, h0, s, hs, -⟩
  have : q.toNat < qs.length := by
    rcases Nat.lt_or_ge q.toNat qs.length with h | h
    · exact h
    · rw [List.getElem?_eq_none h] at hs; cases hs
  omega
/-- what both functions return: the numbers to which a question's answers lead -/
def IsSucs (qs : List Qst) (q : Int) (w : World) (e : Ending) (w' : World) : Prop :=
  ∃ o c xs, e = .returned (.slice o xs.length c) ∧ Own w' (hs w) 3 1 o xs.length c (intsV xs) ∧ (∀ y, y ∈ xs ↔ Sx qs q y) ∧ xs.length ≤ 20 ∧ Grow w w'
theorem own_len {w : World} {B T : Nat} {o : Option Addr} {n c : Nat} {xs : List Int} (h : Own w B T 1 o n c (intsV xs)) : n = xs.length := by have := h.length; simp [intsV] at this; exact this.symm

theorem successors_c (o : Option Addr) (c : Nat) (p : Prot) (q : Int) (hL : ∀ s, s ∈ p.qs → s.ans.length ≤ 20) (w : World) {A : Nat → Prop} (h : Qs w A o p.qs) :
    Calls Try.prog 120 #[.agg #[.string p.name, .int .i64 p.version, .slice o p.qs.length c], .int .i64 q] w (IsSucs p.qs q w) := by
  refine nf120 p.name p.version o p.qs.length c q w _ fun w1 e1 => ?_
  have r := Row.new e1
  have g : Grow w w1 := only_alloc e1
  have out : (∀ y, ¬ Sx p.qs q y) → IsSucs p.qs q w (.returned (.slice none 0 0)) w1 := fun hy => ⟨none, 0, [], rfl, own_nil _ _ _ _, fun y => by simp [hy y], by simp, g⟩
  refine ⟨fun h1 => out (Sx_out (.inl (dT h1))), fun h1 => ⟨_, _, _, r.cell rfl, fun h2 => out (Sx_out (.inr (dT h2))), fun h2 => ⟨_, _, _, r.cell rfl, ?_⟩⟩⟩
  have h1 := dF h1
  have h2 := dF h2
  obtain ⟨i, rfl⟩ : ∃ i : Nat, q = (i : Int) := ⟨q.toNat, by omega⟩
  have hi : i < p.qs.length := by omega
  obtain ⟨a, oi, ci, ha, c0, c1, hr⟩ := (h.grow g).get hi
  have hmem : p.qs[i] ∈ p.qs := List.getElem_mem hi
  have hLi := hL _ hmem
  have hSx := Sx_upTo (q := (i : Int)) (by omega) (by rw [toNat_cast]; exact List.getElem?_eq_getElem hi : p.qs[((i : Int)).toNat]? = some p.qs[i])
  generalize p.qs[i] = s at *
  refine ⟨a, ha, ⟨by omega, by omega⟩, _, _, _, c1, fun k o' n' c' x w' => ∃ (j : Nat) (xs : List Int), x = (j : Int) ∧ j ≤ s.ans.length ∧ k = s.ans.length - j ∧ n' = xs.length ∧ Own w' (hs w1) 3 1 o' xs.length c' (intsV xs) ∧ xs.length ≤ j ∧ (∀ y, y ∈ xs ↔ upTo (s.ans.take j) y) ∧ Grow w1 w',
    ⟨_, 0, [], rfl, Nat.zero_le _, rfl, rfl, own_nil _ _ _ _, Nat.le_refl _, fun y => by simp [upTo_nil y], Only.refl _ _⟩, ?_⟩
  rintro k _ w2 o2 n2 c2 x ⟨j, xs, rfl, hj, rfl, rfl, hown, hxj, hI, g2⟩
  refine ⟨fun hlt k28 hk28 => ?_, fun hge => ?_⟩
  · have hlt : j < s.ans.length := by have := dT hlt; omega
    have next : ∀ o' c' w' xs', Own w' (hs w1) 3 1 o' xs'.length c' (intsV xs') → xs'.length ≤ j + 1 → (∀ y, y ∈ xs' ↔ upTo (s.ans.take (j + 1)) y) → Grow w1 w' → k28 o' xs'.length c' w' := fun o' c' w' xs' h1 h2 h3 h4 =>
      hk28 _ _ _ _ fun _ => ⟨_, by omega, j + 1, xs', by rw [wr (by omega)]; omega, hlt, rfl, rfl, h1, h2, h3, h4⟩
    obtain ⟨a', ha', d0, d1, d2, d3⟩ := Recs.ans (hr.grow g2) hlt
    refine ⟨a', ha', ⟨by omega, by omega⟩, _, d0, _, d1, _, d2, _, d3, fun w3 e3 => ⟨(Row.new e3).there (by simp), fun w4 e4 => ?_⟩⟩
    obtain ⟨r4, g4⟩ := loc e3 e4 rfl
    have hown4 := hown.grow g4
    have G := g2.trans' g4
    refine ⟨_, r4.cell rfl, fun h5 => ⟨_, r4.cell rfl, fun w5 e5 => push_int hown4 e5 (by omega) G.size fun o' c' w6 p1 p2 => ⟨_, _, _, rfl, ?_⟩⟩, fun h5 => next _ _ _ xs hown4 (by omega) (fun y => ?_) G⟩
    · have el : xs.length + 1 = (xs ++ [s.ans[j].next]).length := by simp
      rw [el] at p1 ⊢
      refine next _ _ _ _ p1 (by simp; omega) (fun y => ?_) (G.trans p2 fun b hb hh => by
        have := (hown4.base b hh).1
        omega)
      rw [upTo_succ hlt, List.mem_append, hI, List.mem_singleton]
      have := dT h5
      constructor
      · rintro (h | rfl)
        · exact .inl h
        · exact .inr ⟨this, rfl⟩
      · rintro (h | ⟨-, h⟩)
        · exact .inl h
        · exact .inr h.symm
    · have := dF h5
      rw [upTo_succ hlt, hI]
      constructor
      · exact .inl
      · rintro (h | ⟨h0, h⟩)
        · exact h
        · omega
  · have := dF hge
    obtain rfl : j = s.ans.length := by omega
    rw [List.take_length] at hI
    refine (sort_c hown (by omega)).mono ?_
    rintro _ w3 ⟨rfl, g3, own3⟩
    refine ⟨rfl, (compact_c own3 (by omega)).mono ?_⟩
    rintro _ w4 ⟨rfl, g4, own4⟩
    have hbb : ∀ b, inBlock o2 b → hs w1 ≤ b := fun b hb => (hown.base b hb).1
    refine ⟨_, _, _, rfl, _, _, _, rfl, own4.mono g.size, fun y => ?_, ?_, g.trans' ((g2.trans g3 fun b hb hh => ?_).trans g4 fun b hb hh => ?_)⟩
    · rw [mem_compact, List.mem_mergeSort, hI, hSx]
    · have := compact_len (xs.mergeSort fun x y => decide (x ≤ y))
      rw [List.length_mergeSort] at this
      omega
    · have := hbb b hh; omega
    · have := hbb b hh; omega
theorem mem_insert (xs : List Int) (i : Nat) (x y : Int) : y ∈ xs.take i ++ [x] ++ xs.drop i ↔ y ∈ xs ∨ y = x := by
  conv => rhs; rw [← List.take_append_drop i xs]
  simp only [List.mem_append, List.mem_singleton]
  constructor
  · rintro ((h | h) | h)
    · exact .inl (.inl h)
    · exact .inr h
    · exact .inl (.inr h)
  · rintro ((h | h) | h)
    · exact .inl (.inl h)
    · exact .inr h
    · exact .inl (.inr h)
set_option maxHeartbeats 1000000 in
theorem next_c (o : Option Addr) (c : Nat) (p : Prot) (q : Int) (hL : ∀ s, s ∈ p.qs → s.ans.length ≤ 20) (w : World) {A : Nat → Prop} (h : Qs w A o p.qs) :
    Calls Try.prog 75 #[.agg #[.string p.name, .int .i64 p.version, .slice o p.qs.length c], .int .i64 q] w (IsSucs p.qs q w) := by
  refine nf75 p.name p.version o p.qs.length c q w _ fun w1 e1 => ?_
  have r := Row.new e1
  have g : Grow w w1 := only_alloc e1
  have out : (∀ y, ¬ Sx p.qs q y) → IsSucs p.qs q w (.returned (.slice none 0 0)) w1 := fun hy => ⟨none, 0, [], rfl, own_nil _ _ _ _, fun y => by simp [hy y], by simp, g⟩
  refine ⟨fun h1 => out (Sx_out (.inl (dT h1))), fun h1 => ⟨_, _, _, r.cell rfl, fun h2 => out (Sx_out (.inr (dT h2))), fun h2 => ⟨_, _, _, r.cell rfl, ?_⟩⟩⟩
  have h1 := dF h1
  have h2 := dF h2
  obtain ⟨i, rfl⟩ : ∃ i : Nat, q = (i : Int) := ⟨q.toNat, by omega⟩
  have hi : i < p.qs.length := by omega
  obtain ⟨a, oi, ci, ha, c0, c1, hr⟩ := (h.grow g).get hi
  have hmem : p.qs[i] ∈ p.qs := List.getElem_mem hi
  have hLi := hL _ hmem
  have hSx := Sx_upTo (q := (i : Int)) (by omega) (by rw [toNat_cast]; exact List.getElem?_eq_getElem hi : p.qs[((i : Int)).toNat]? = some p.qs[i])
  generalize p.qs[i] = s at *
  refine ⟨a, ha, ⟨by omega, by omega⟩, _, _, _, c1, fun k o' n' c' x w' => ∃ (j : Nat) (xs : List Int), x = (j : Int) ∧ j ≤ s.ans.length ∧ k = s.ans.length - j ∧ n' = xs.length ∧ Own w' (hs w1) 3 1 o' xs.length c' (intsV xs) ∧ xs.length ≤ j ∧ (∀ y, y ∈ xs ↔ upTo (s.ans.take j) y) ∧ Grow w1 w',
    ⟨_, 0, [], rfl, Nat.zero_le _, rfl, rfl, own_nil _ _ _ _, Nat.le_refl _, fun y => by simp [upTo_nil y], Only.refl _ _⟩, ?_⟩
  rintro k _ w2 o2 n2 c2 x ⟨j, xs, rfl, hj, rfl, rfl, hown, hxj, hI, g2⟩
  refine ⟨fun hlt k28 hk28 => ?_, fun hge => ?_⟩
  · have hlt : j < s.ans.length := by have := dT hlt; omega
    have next : ∀ o' c' w' xs', Own w' (hs w1) 3 1 o' xs'.length c' (intsV xs') → xs'.length ≤ j + 1 → (∀ y, y ∈ xs' ↔ upTo (s.ans.take (j + 1)) y) → Grow w1 w' → k28 o' xs'.length c' w' := fun o' c' w' xs' h1 h2 h3 h4 =>
      hk28 _ _ _ _ fun _ => ⟨_, by omega, j + 1, xs', by rw [wr (by omega)]; omega, hlt, rfl, rfl, h1, h2, h3, h4⟩
    obtain ⟨a', ha', d0, d1, d2, d3⟩ := Recs.ans (hr.grow g2) hlt
    refine ⟨a', ha', ⟨by omega, by omega⟩, _, d0, _, d1, _, d2, _, d3, fun w3 e3 => ⟨(Row.new e3).there (by simp), fun w4 e4 => ?_⟩⟩
    obtain ⟨r4, g4⟩ := loc e3 e4 rfl
    have hown4 := hown.grow g4
    have G := g2.trans' g4
    refine ⟨_, r4.cell rfl, fun h5 => next _ _ _ xs hown4 (by omega) (fun y => ?_) G, fun h5 => ?_⟩
    · have := dT h5
      rw [upTo_succ hlt, hI]
      constructor
      · exact .inl
      · rintro (h | ⟨h0, h⟩)
        · exact h
        · omega
    have h5 : 0 ≤ s.ans[j].next := by have := dF h5; omega
    refine ⟨fun k x w' => ∃ m : Nat, x = (m : Int) ∧ m ≤ xs.length ∧ k = xs.length - m ∧ Grow w4 w', ⟨_, 0, rfl, Nat.zero_le _, rfl, Only.refl _ _⟩, ?_⟩
    rintro k _ w5 x ⟨m, rfl, hm, rfl, g5⟩ w6 e6
    have g6 : Grow w4 w6 := g5.trans' (only_drew e6)
    have r6 := r4.grow g6
    have own6 := hown4.grow g6
    have same : ∀ w', Grow w4 w' → s.ans[j].next ∈ xs → k28 o2 xs.length c2 w' := fun w' g' hin => next _ _ _ xs (hown4.grow g') (by omega) (fun y => by
      rw [upTo_succ hlt, hI]
      constructor
      · exact .inl
      · rintro (h | ⟨h0, h⟩)
        · exact h
        · rw [← hI, ← h]; exact hin) (G.trans' g')
    have ins : ∀ w0 w', Grow w4 w0 → w' = w0.alloc (.cells #[] 3 (0, 0)) → _ := fun w0 w' g' e' => insert_r (k := k28) (hown4.grow g') (r4.grow g') (x := s.ans[j].next) rfl e' m hm (by omega) fun o' c' w'' q1 q2 => by
      have el : xs.length + 1 = (xs.take m ++ [s.ans[j].next] ++ xs.drop m).length := by simp; omega
      rw [el] at q1 ⊢
      refine next _ _ _ _ (q1.mono ?_) (by rw [← el]; omega) (fun y => ?_) ((G.trans' g').trans' q2)
      · exact (G.trans' g').size
      · rw [mem_insert, upTo_succ hlt, hI]
        constructor
        · rintro (h | rfl)
          · exact .inl h
          · exact .inr ⟨h5, rfl⟩
        · rintro (h | ⟨-, h⟩)
          · exact .inl h
          · exact .inr h.symm
    refine ⟨fun hmx => ?_, fun hmx w7 e7 => ?_⟩
    · have hmx : m < xs.length := by have := dT hmx; omega
      obtain ⟨ax, hax, hcx⟩ := (own6.nums).get hmx
      refine ⟨ax, hax, ⟨by omega, by omega⟩, _, hcx, _, r6.cell rfl, fun h6 => ⟨_, by omega, m + 1, by rw [wr (by omega)]; omega, by omega, rfl, g6⟩, fun h6 w7 e7 => ?_⟩
      have g7 : Grow w4 w7 := g6.trans' (only_drew e7)
      obtain ⟨ay, hay, hcy⟩ := ((hown4.grow g7).nums).get hmx
      refine ⟨fun h7 => ⟨ay, hay, ⟨by omega, by omega⟩, _, hcy, _, (r4.grow g7).cell rfl, fun h8 => same _ g7 ?_, fun h8 w8 e8 => ins _ _ g7 e8⟩, fun h7 w8 e8 => ins _ _ g7 e8⟩
      rw [← dT h8]; exact List.getElem_mem hmx
    · have g7 : Grow w4 w7 := g6.trans' (only_drew e7)
      refine ⟨fun h7 => ?_, fun h7 w8 e8 => ins _ _ g7 e8⟩
      have := dT h7; have := dF hmx; omega
  · have := dF hge
    obtain rfl : j = s.ans.length := by omega
    rw [List.take_length] at hI
    exact ⟨_, _, _, rfl, hown.mono g.size, fun y => by rw [hI, hSx], by omega, g.trans' g2⟩
end Go.Proofs.Ytbaacpfjecbbgaa
