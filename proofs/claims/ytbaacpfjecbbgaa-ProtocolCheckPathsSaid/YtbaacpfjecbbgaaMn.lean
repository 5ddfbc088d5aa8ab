/- The ways in their order, one from the other: plain. -/
import Derived.Test.YtbaacpfjecbbgaaKk
namespace Go.Proofs.Ytbaacpfjecbbgaa
open Go Go.Nf

/-- the first way on from a question -/
inductive Lf (qs : List Qst) : Nat → List Int → Prop
  | stop {q : Nat} {s : Qst} {a : Ans} (hq : qs[q]? = some s) (ha : s.ans[0]? = some a) (hn : a.next < 0) : Lf qs q [0]
  | go {q : Nat} {s : Qst} {a : Ans} {w : List Int} (hq : qs[q]? = some s) (ha : s.ans[0]? = some a) (hn : 0 ≤ a.next) (h : Lf qs a.next.toNat w) : Lf qs q (0 :: w)
/-- the last way on -/
inductive Rt (qs : List Qst) : Nat → List Int → Prop
  | stop {q k : Nat} {s : Qst} {a : Ans} (hq : qs[q]? = some s) (ha : s.ans[k]? = some a) (hk : k + 1 = s.ans.length) (hn : a.next < 0) : Rt qs q [(k : Int)]
  | go {q k : Nat} {s : Qst} {a : Ans} {w : List Int} (hq : qs[q]? = some s) (ha : s.ans[k]? = some a) (hk : k + 1 = s.ans.length) (hn : 0 ≤ a.next) (h : Rt qs a.next.toNat w) : Rt qs q ((k : Int) :: w)
/-- .. behind an answer -/
def After (P : Nat → List Int → Prop) (a : Ans) (w : List Int) : Prop := (a.next < 0 ∧ w = []) ∨ (0 ≤ a.next ∧ P a.next.toNat w)
/-- one way comes next behind another -/
inductive Nx (qs : List Qst) : Nat → List Int → List Int → Prop
  | here {q k : Nat} {s : Qst} {a b : Ans} {w w' : List Int} (hq : qs[q]? = some s) (ha : s.ans[k]? = some a) (hb : s.ans[k + 1]? = some b) (h : After (Rt qs) a w) (h' : After (Lf qs) b w') : Nx qs q ((k : Int) :: w) (((k + 1 : Nat) : Int) :: w')
  | there {q k : Nat} {s : Qst} {a : Ans} {w w' : List Int} (hq : qs[q]? = some s) (ha : s.ans[k]? = some a) (hn : 0 ≤ a.next) (h : Nx qs a.next.toNat w w') : Nx qs q ((k : Int) :: w) ((k : Int) :: w')
/-- a list that goes from x to y, each by R from the one before -/
inductive Seq' (R : List Int → List Int → Prop) : List Int → List Int → List (List Int) → Prop
  | one (x : List Int) : Seq' R x x [x]
  | more {x x' y : List Int} {l : List (List Int)} (h : R x x') (hs : Seq' R x' y l) : Seq' R x y (x :: l)
theorem Seq'.append {R : List Int → List Int → Prop} {x y x' y' : List Int} {l m : List (List Int)} (h : Seq' R x y l) (hr : R y x') (h' : Seq' R x' y' m) : Seq' R x y' (l ++ m) := by
  induction h with
  | one x => exact .more hr h'
  | more h _ ih => exact .more h (ih hr)
theorem Seq'.map {R R' : List Int → List Int → Prop} {f : List Int → List Int} (hf : ∀ x y, R x y → R' (f x) (f y)) {x y : List Int} {l : List (List Int)} (h : Seq' R x y l) : Seq' R' (f x) (f y) (l.map f) := by
  induction h with
  | one x => exact .one _
  | more h _ ih => exact .more (hf _ _ h) ih
theorem Seq'.head {R : List Int → List Int → Prop} {x y : List Int} {l : List (List Int)} (h : Seq' R x y l) : l[0]? = some x := by cases h <;> rfl
theorem Seq'.at {R : List Int → List Int → Prop} {x y : List Int} {l : List (List Int)} (h : Seq' R x y l) : ∀ (i : Nat) z, l[i]? = some z → (∃ z', l[i + 1]? = some z' ∧ R z z') ∨ (i + 1 = l.length ∧ z = y) := by
  induction h with
  | one x =>
    intro i z hz
    cases i with
    | zero => exact .inr ⟨rfl, by simpa using hz.symm⟩
    | succ i => simp at hz
  | @more x x' y l h hs ih =>
    intro i z hz
    cases i with
    | zero =>
      have : x = z := by simpa using hz
      subst this
      exact .inl ⟨x', by simpa using hs.head, h⟩
    | succ i =>
      rcases ih i z (by simpa using hz) with ⟨z', h1, h2⟩ | ⟨h1, h2⟩
      · exact .inl ⟨z', by simpa using h1, h2⟩
      · exact .inr ⟨by simp; omega, h2⟩
theorem oneF_seq {qs : List Qst} {q u : Nat} {s : Qst} {a : Ans} {G : Nat → List (List Int)} (hq : qs[q]? = some s) (ha : s.ans[u]? = some a) (hG : 0 ≤ a.next → ∃ x y, Lf qs a.next.toNat x ∧ Rt qs a.next.toNat y ∧ Seq' (Nx qs a.next.toNat) x y (G a.next.toNat)) :
    ∃ x y, After (Lf qs) a x ∧ After (Rt qs) a y ∧ Seq' (Nx qs q) ((u : Int) :: x) ((u : Int) :: y) (oneF G a u) := by
  unfold oneF
  by_cases hn : a.next < 0
  · rw [if_pos hn]
    exact ⟨[], [], .inl ⟨hn, rfl⟩, .inl ⟨hn, rfl⟩, .one _⟩
  · rw [if_neg hn]
    obtain ⟨x, y, h1, h2, h3⟩ := hG (by omega)
    exact ⟨x, y, .inr ⟨by omega, h1⟩, .inr ⟨by omega, h2⟩, h3.map fun x y h => .there hq ha (by omega) h⟩
theorem ansF_seq {qs : List Qst} {q : Nat} {s : Qst} {G : Nat → List (List Int)} (hq : qs[q]? = some s) (hG : ∀ a, a ∈ s.ans → 0 ≤ a.next → ∃ x y, Lf qs a.next.toNat x ∧ Rt qs a.next.toNat y ∧ Seq' (Nx qs a.next.toNat) x y (G a.next.toNat)) :
    ∀ (l : List Ans) (u : Nat), l = s.ans.drop u → l ≠ [] → ∃ a x y, s.ans[u]? = some a ∧ After (Lf qs) a x ∧ Rt qs q y ∧ Seq' (Nx qs q) ((u : Int) :: x) y (ansF G l u)
  | [], _, _, h => absurd rfl h
  | a :: l, u, hl, _ => by
    have hu : u < s.ans.length := by
      rcases Nat.lt_or_ge u s.ans.length with h | h
      · exact h
      · rw [List.drop_eq_nil_of_le h] at hl; cases hl
    rw [List.drop_eq_getElem_cons hu] at hl
    have ha : s.ans[u]? = some a := by rw [List.getElem?_eq_getElem hu]; exact congrArg some (List.cons.inj hl).1.symm
    have hl2 := (List.cons.inj hl).2
    have ham : a ∈ s.ans := List.mem_of_getElem? ha
    obtain ⟨x, y, h1, h2, h3⟩ := oneF_seq (G := G) hq ha (hG a ham)
    rw [ansF]
    cases hl' : l with
    | nil =>
      rw [hl'] at hl2
      have hlen : u + 1 = s.ans.length := by
        have := congrArg List.length hl2
        simp at this
        omega
      refine ⟨a, x, (u : Int) :: y, ha, h1, ?_, by simpa [ansF] using h3⟩
      rcases h2 with ⟨hn, rfl⟩ | ⟨hn, hR⟩
      · exact .stop hq ha hlen hn
      · exact .go hq ha hlen hn hR
    | cons b l' =>
      obtain ⟨b', x', y', hb, h1', h2', h3'⟩ := ansF_seq hq hG l (u + 1) hl2 (by rw [hl']; simp)
      rw [← hl']
      exact ⟨a, x, y', ha, h1, h2', h3.append (.here hq ha hb h2 h1') h3'⟩
theorem paths_seq {p : Prot} (hv : validB p = true) (hpos : ∀ s, s ∈ p.qs → 1 ≤ s.ans.length) : ∀ (f q : Nat), q < p.qs.length → (∀ d, Walk (nxP p.qs) q d → d ≤ f) → ∃ x y, Lf p.qs q x ∧ Rt p.qs q y ∧ Seq' (Nx p.qs q) x y (pathsF p.qs f q) := by
  intro f
  induction f with
  | zero => intro q _ hd; have := hd 1 (.one q); omega
  | succ f ih =>
    intro q hq hd
    have hqs : p.qs[q]? = some p.qs[q] := List.getElem?_eq_getElem hq
    have hp := hpos _ (List.getElem_mem hq)
    rw [pathsF, hqs]
    generalize p.qs[q] = s at *
    obtain ⟨a, x, y, ha, h1, h2, h3⟩ := ansF_seq (G := pathsF p.qs f) hqs (fun a ha h0 => by
      have hx := nx_of_ans hqs ha h0
      exact ih _ (valid_in hv _ _ hx) fun d hw => by have := hd _ (.more hx hw); omega) s.ans 0 rfl (fun e => by rw [e] at hp; simp at hp)
    refine ⟨_, y, ?_, h2, h3⟩
    rcases h1 with ⟨hn, rfl⟩ | ⟨hn, hL⟩
    · exact .stop hqs ha hn
    · exact .go hqs ha hn hL
/-! ### By places -/
/-- the questions on a way -/
inductive Pth (qs : List Qst) : Nat → List Int → List Nat → Prop
  | stop {q k : Nat} {s : Qst} {a : Ans} (hq : qs[q]? = some s) (ha : s.ans[k]? = some a) (hn : a.next < 0) : Pth qs q [(k : Int)] [q]
  | go {q k : Nat} {s : Qst} {a : Ans} {w : List Int} {ql : List Nat} (hq : qs[q]? = some s) (ha : s.ans[k]? = some a) (hn : 0 ≤ a.next) (h : Pth qs a.next.toNat w ql) : Pth qs q ((k : Int) :: w) (q :: ql)
/-- nowhere from j on is there a greater answer -/
def Full (qs : List Qst) (w : List Int) (ql : List Nat) (j : Nat) : Prop := ∀ (i : Nat) (k : Int) (q : Nat) (s : Qst), j ≤ i → w[i]? = some k → ql[i]? = some q → qs[q]? = some s → (s.ans.length : Int) ≤ k + 1
theorem Full.cons {qs : List Qst} {w : List Int} {ql : List Nat} {q k : Nat} {s : Qst} (hq : qs[q]? = some s) (h : Full qs w ql 0) (hk : s.ans.length ≤ k + 1) : Full qs ((k : Int) :: w) (q :: ql) 0 := fun i k' q' s' _ h1 h2 h3 => by
  cases i with
  | zero =>
    have e1 : (k : Int) = k' := by simpa using h1
    have e2 : q = q' := by simpa using h2
    subst e1; subst e2
    rw [hq] at h3
    cases h3
    omega
  | succ i => exact h i k' q' s' (Nat.zero_le _) (by simpa using h1) (by simpa using h2) h3
theorem Full.shift {qs : List Qst} {w : List Int} {ql : List Nat} {q : Nat} {k : Int} {j : Nat} (h : Full qs w ql j) : Full qs (k :: w) (q :: ql) (j + 1) := fun i k' q' s' hi h1 h2 h3 => by
  cases i with
  | zero => omega
  | succ i => exact h i k' q' s' (by omega) (by simpa using h1) (by simpa using h2) h3
theorem Rt.full {qs : List Qst} {q : Nat} {w : List Int} (h : Rt qs q w) : ∃ ql, Pth qs q w ql ∧ Full qs w ql 0 := by
  induction h with
  | stop hq ha hk hn => exact ⟨_, .stop hq ha hn, Full.cons hq (fun i k q s _ h => by simp at h) (by omega)⟩
  | go hq ha hk hn _ ih =>
    obtain ⟨ql, h1, h2⟩ := ih
    exact ⟨_, .go hq ha hn h1, Full.cons hq h2 (by omega)⟩
/-- by the answers w one comes from q to the question t, -1 if they end -/
inductive Leads (qs : List Qst) : Nat → List Int → Int → Prop
  | nil (q : Nat) : Leads qs q [] q
  | stop {q k : Nat} {s : Qst} {a : Ans} (hq : qs[q]? = some s) (ha : s.ans[k]? = some a) (hn : a.next < 0) : Leads qs q [(k : Int)] (-1)
  | go {q k : Nat} {s : Qst} {a : Ans} {w : List Int} {t : Int} (hq : qs[q]? = some s) (ha : s.ans[k]? = some a) (hn : 0 ≤ a.next) (h : Leads qs a.next.toNat w t) : Leads qs q ((k : Int) :: w) t
/-- what comes behind, from the question t on -/
def Tail (qs : List Qst) (t : Int) (w : List Int) : Prop := (t = -1 ∧ w = []) ∨ ∃ q : Nat, t = q ∧ Lf qs q w
theorem Nx.place {qs : List Qst} {q : Nat} {w w' : List Int} (h : Nx qs q w w') : ∃ (ql : List Nat) (j : Nat) (k : Int) (qj : Nat) (s : Qst) (t : Int) (suf : List Int), Pth qs q w ql ∧ w[j]? = some k ∧ ql[j]? = some qj ∧ qs[qj]? = some s ∧ k + 1 < s.ans.length ∧ Full qs w ql (j + 1) ∧ Leads qs q (w.take j ++ [k + 1]) t ∧ Tail qs t suf ∧ w' = w.take j ++ [k + 1] ++ suf := by
  induction h with
  | @here q k s a b w w' hq ha hb h h' =>
    have hlen : k + 1 < s.ans.length := by
      rcases Nat.lt_or_ge (k + 1) s.ans.length with h | h
      · exact h
      · rw [List.getElem?_eq_none h] at hb; cases hb
    have hP : ∃ ql, Pth qs q ((k : Int) :: w) (q :: ql) ∧ Full qs ((k : Int) :: w) (q :: ql) 1 := by
      rcases h with ⟨hn, rfl⟩ | ⟨hn, hR⟩
      · exact ⟨[], .stop hq ha hn, Full.shift (fun i k q s _ h => by simp at h)⟩
      · obtain ⟨ql, h1, h2⟩ := hR.full
        exact ⟨ql, .go hq ha hn h1, h2.shift⟩
    obtain ⟨ql, h1, h2⟩ := hP
    have e : ((k + 1 : Nat) : Int) = (k : Int) + 1 := by omega
    have hL : ∃ t, Leads qs q [(k : Int) + 1] t ∧ Tail qs t w' := by
      rw [← e]
      rcases h' with ⟨hn, rfl⟩ | ⟨hn, hL⟩
      · exact ⟨-1, .stop hq hb hn, .inl ⟨rfl, rfl⟩⟩
      · exact ⟨_, .go hq hb hn (.nil _), .inr ⟨_, rfl, hL⟩⟩
    obtain ⟨t, h3, h4⟩ := hL
    exact ⟨q :: ql, 0, k, q, s, t, w', h1, rfl, rfl, hq, by omega, h2, h3, h4, by rw [e]; rfl⟩
  | @there q k s a w w' hq ha hn _ ih =>
    obtain ⟨ql, j, k', qj, s', t, suf, h1, h2, h3, h4, h5, h6, h7, h8, h9⟩ := ih
    exact ⟨q :: ql, j + 1, k', qj, s', t, suf, .go hq ha hn h1, by simpa using h2, by simpa using h3, h4, h5, h6.shift, .go hq ha hn h7, h8, by rw [h9]; simp⟩
theorem Pth.len {qs : List Qst} {q : Nat} {w : List Int} {ql : List Nat} (h : Pth qs q w ql) : ql.length = w.length := by
  induction h with
  | stop => rfl
  | go _ _ _ _ ih => simp [ih]
end Go.Proofs.Ytbaacpfjecbbgaa
