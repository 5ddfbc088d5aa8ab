/- Contracts: the successors of a question, in the program and in the reference. -/
import Derived.Test.YtbaacpfjecbbgaaHd
namespace Go.Proofs.Ytbaacpfjecbbgaa
open Go Go.Nf

theorem elem48 : Elem Try.prog 48 3 1 8 := elem_of (by kernel_rfl)
theorem push_int {w w1 : World} {B : Nat} {o : Option Addr} {n c : Nat} {xs : List Int} {x : Int} {K : Value → World → Prop} (h : Own w B 3 1 o n c (intsV xs)) (e : w1 = w.alloc (.cells #[.int .i64 x] 3 (0, 0))) (hn : n ≤ 1000000) (hB : B ≤ hs w)
    (hK : ∀ o' c' w', Own w' B 3 1 o' (n + 1) c' (intsV (xs ++ [x])) → Only (inBlock o) w w' → K (.slice o' (n + 1) c') w') :
    RunOk Try.prog (Hold (Builtin.append_ #[48, 48] 48 #[.slice o n c, .slice (some ⟨hs w, 0, none⟩) 1 1])) w1 K := by
  have hr : Row w1 (hs w) 3 [.int .i64 x] := Row.new e
  have h1 := h.grow (only_alloc (S := none') e)
  refine run_append_row elem48 h1 hr rfl (by simp [Value.oneCell']) (by simp [maxLen]; omega) (by omega) (by rw [hs_alloc e]; omega) fun o' c' w' g1 g2 _ => hK o' c' w' ?_ ((only_alloc e).trans' g2)
  simpa [intsV] using g1
end Go.Proofs.Ytbaacpfjecbbgaa
namespace Go.Nf
open Go Go.Proofs.Ytbaacpfjecbbgaa
theorem Nums.take {w : World} {A : Nat → Prop} {o : Option Addr} {xs : List Int} (h : Nums w A o xs) (i : Nat) : Nums w A o (xs.take i) := fun j v hj => h j v (by
  rcases Nat.lt_or_ge j i with hi | hi
  · rwa [List.getElem?_take, if_pos hi] at hj
  · rw [List.getElem?_eq_none (by simp; omega)] at hj; cases hj)
end Go.Nf
namespace Go.Proofs.Ytbaacpfjecbbgaa
open Go Go.Nf
end Go.Proofs.Ytbaacpfjecbbgaa
namespace Go.Nf
open Go Go.Proofs.Ytbaacpfjecbbgaa
theorem Nums.drop {w : World} {A : Nat → Prop} {o : Option Addr} {xs : List Int} {c : Nat} (h : Nums w A o xs) (i : Nat) (hc : xs.length ≤ c) : Nums w A (if c = i then o else Option.map (fun x => Addr.add x (i * 1)) o) (xs.drop i) := fun j v hj => by
  have hjl : i + j < xs.length := by
    rcases Nat.lt_or_ge (i + j) xs.length with h | h
    · exact h
    · rw [List.getElem?_eq_none (by simp; omega)] at hj; cases hj
  rw [if_neg (by omega)]
  rw [List.getElem?_drop] at hj
  obtain ⟨a, ha, hA, hc⟩ := h (i + j) v hj
  subst ha
  refine ⟨a.add (i * 1), rfl, by rw [block_add1]; exact hA, ?_⟩
  rw [toNat_cast] at *
  have : (a.add (i * 1)).add (j * 1) = a.add ((i + j) * 1) := by
    rcases a with ⟨b, off, s⟩
    cases s with
    | none => simp only [Addr.add_lit, Nat.mul_one, Nat.add_assoc]
    | some s => by_cases hi : i = 0 <;> by_cases hj : j = 0 <;> simp [Addr.add, hi, hj, Nat.add_assoc]
  rw [this]; exact hc
end Go.Nf
namespace Go.Proofs.Ytbaacpfjecbbgaa
open Go Go.Nf
theorem insert_r {w0 w1 : World} {B : Nat} {o : Option Addr} {n c : Nat} {xs : List Int} {b : Nat} {l : List Value} {x : Int} {k : Option Addr → Nat → Nat → World → Prop}
    (h : Own w0 B 3 1 o n c (intsV xs)) (hr : Row w0 b 58 l) (hl : l[1]? = some (.int .i64 x)) (e1 : w1 = w0.alloc (.cells #[] 3 (0, 0))) (i : Nat) (hi : i ≤ n) (hn : n ≤ 1000)
    (hk : ∀ o' c' w', Own w' (hs w0) 3 1 o' (n + 1) c' (intsV (xs.take i ++ [x] ++ xs.drop i)) → Grow w0 w' → k o' (n + 1) c' w') :
    ((0 : Int) ≤ (i : Int) ∧ (i : Int) ≤ (c : Int)) ∧
    RunOk Try.prog (Hold (Builtin.append_ #[48, 48] 48 #[.slice (some ⟨hs w0, 0, none⟩) 0 0, .slice (if c = 0 then o else Option.map (fun x => x) o) ((i : Int).toNat - 0) (c - 0)])) w1 fun v w2 => ∃ o3 n4 c5, v = .slice o3 n4 c5 ∧
      ∃ x6, w2.cell? ⟨b, 1, none⟩ = some (.int .i64 x6) ∧ ∀ w7, w7 = w2.alloc (.cells #[.int .i64 x6] 3 (0, 0)) →
      RunOk Try.prog (Hold (Builtin.append_ #[48, 48] 48 #[.slice o3 n4 c5, .slice (some ⟨hs w2, 0, none⟩) 1 1])) w7 fun v w8 => ∃ o9 n10 c11, v = .slice o9 n10 c11 ∧
      ((0 : Int) ≤ (i : Int) ∧ (i : Int) ≤ (n : Int)) ∧
      RunOk Try.prog (Hold (Builtin.append_ #[48, 48] 48 #[.slice o9 n10 c11, .slice (if c = (i : Int).toNat then o else Option.map (fun x => Addr.add x ((i : Int).toNat * 1)) o) (n - (i : Int).toNat) (c - (i : Int).toNat)])) w8 fun v w12 => ∃ o13 n14 c15, v = .slice o13 n14 c15 ∧ k o13 n14 c15 w12 := by
  have hxl : xs.length = n := by have := h.length; simpa [intsV] using this
  have hnc := h.le
  refine ⟨⟨by omega, by omega⟩, ?_⟩
  have r1 : Row w1 (hs w0) 3 [] := Row.new e1
  have g1 : Grow w0 w1 := only_alloc e1
  have hb := hr.lt
  have o1 : Own w1 (hs w0) 3 1 (some ⟨hs w0, 0, none⟩) 0 0 (intsV []) := r1.own (n := 0) (Nat.le_refl _) rfl (by simp [maxLen])
  have n0 : Nums w0 (fun b => b < hs w0) o xs := h.nums.mono fun b hb => hb.2
  have eo : (if c = 0 then o else Option.map (fun x => x) o) = o := by split <;> cases o <;> rfl
  rw [toNat_cast, eo, show i - 0 = (xs.take i).length by simp; omega]
  refine append_nums elem48 o1 ((n0.grow g1).take i) (by simp [maxLen]; omega) (by simp; omega) (by rw [hs_alloc e1]; omega) fun o' c' w2 p1 p2 => ⟨_, _, _, rfl, ?_⟩
  have g2 : Grow w0 w2 := g1.trans p2 fun j hj hh => by
    obtain ⟨a, ha, rfl⟩ := hh
    cases ha
    exact absurd hj (by simp)
  refine ⟨_, (hr.grow g2).cell hl, fun w7 e7 => push_int p1 e7 (by simp; omega) g2.size fun o'' c'' w8 q1 q2 => ⟨_, _, _, rfl, ⟨by omega, by omega⟩, ?_⟩⟩
  have g8 : Grow w0 w8 := g2.trans q2 fun j hj hh => by
    have := (p1.base j hh).1
    omega
  rw [show n - i = (xs.drop i).length by simp; omega]
  refine append_nums elem48 q1 ((n0.grow g8).drop i (by omega)) (by simp [maxLen]; omega) (by simp; omega) g8.size fun o3 c3 w9 s1 s2 => ⟨_, _, _, rfl, ?_⟩
  have g9 : Grow w0 w9 := g8.trans s2 fun j hj hh => by
    have := (q1.base j hh).1
    omega
  have en : 0 + (xs.take i).length + 1 + (xs.drop i).length = n + 1 := by simp; omega
  rw [en] at s1 ⊢
  exact hk _ _ _ (by simpa using s1) g9
end Go.Proofs.Ytbaacpfjecbbgaa
