/- Plain: reachability in a graph of numbered nodes; no program in sight. -/
import Derived.Test.YtbaacpfjecbbgaaNfS
namespace Go.Nf

def gB (l : List Bool) (i : Nat) : Bool := (l[i]?).getD false
theorem gB_set {l : List Bool} {i j : Nat} {x : Bool} (h : j < l.length) : gB (l.set j x) i = if i = j then x else gB l i := by
  unfold gB
  rw [List.getElem?_set]
  by_cases e : j = i
  · subst e; simp [h]
  · rw [if_neg e, if_neg (fun h => e h.symm)]
theorem gB_out {l : List Bool} {i : Nat} (h : l.length ≤ i) : gB l i = false := by unfold gB; rw [List.getElem?_eq_none h]; rfl
theorem gB_rep {n i : Nat} : gB (List.replicate n false) i = false := by
  unfold gB; rw [List.getElem?_replicate]; split <;> rfl
theorem count_set_true : ∀ (d : List Bool) (p : Nat), p < d.length → gB d p = false → (d.set p true).count true = d.count true + 1
  | [], p, h, _ => by simp at h
  | x :: d, 0, _, h => by
    simp only [gB, List.getElem?_cons_zero, Option.getD_some] at h
    subst h
    simp
  | x :: d, p + 1, h, h' => by
    have := count_set_true d p (by simpa using h) (by simpa [gB] using h')
    simp only [List.set_cons_succ, List.count_cons, this]
    omega
theorem count_le (d : List Bool) : d.count true ≤ d.length := List.count_le_length

/-- y can be reached from x -/
inductive Rch (nx : Nat → List Nat) : Nat → Nat → Prop where
  | refl (x : Nat) : Rch nx x x
  | step {x y z : Nat} (h : y ∈ nx x) (r : Rch nx y z) : Rch nx x z
theorem Rch.trans {nx : Nat → List Nat} {x y z : Nat} (h : Rch nx x y) (k : Rch nx y z) : Rch nx x z := by
  induction h with
  | refl => exact k
  | step h _ ih => exact .step h (ih k)
theorem Rch.snoc {nx : Nat → List Nat} {x y z : Nat} (h : Rch nx x y) (k : z ∈ nx y) : Rch nx x z := h.trans (.step k (.refl _))
theorem Rch.mono {nx nx' : Nat → List Nat} (hs : ∀ q x, x ∈ nx q → x ∈ nx' q) {x y : Nat} (h : Rch nx x y) : Rch nx' x y := by
  induction h with
  | refl => exact .refl _
  | step h _ ih => exact .step (hs _ _ h) ih
theorem Rch.closed {nx : Nat → List Nat} {m : Nat → Prop} (hc : ∀ i, m i → ∀ x, x ∈ nx i → m x) {x y : Nat} (h : Rch nx x y) (hx : m x) : m y := by
  induction h with
  | refl => exact hx
  | step h _ ih => exact ih (hc _ hx _ h)
def Cyc (nx : Nat → List Nat) (q : Nat) : Prop := ∃ x, x ∈ nx q ∧ Rch nx x q

/-! ### the work list -/
/-- marks d, the list l, its first k done -/
structure Work (nx : Nat → List Nat) (n : Nat) (start : List Nat) (d : List Bool) (l : List Nat) (k : Nat) : Prop where
  len : d.length = n
  kl : k ≤ l.length
  lt : ∀ x, x ∈ l → x < n
  from_ : ∀ x, x ∈ start → x ∈ l
  sound : ∀ x, x ∈ l → ∃ f, f ∈ start ∧ Rch nx f x
  mark : ∀ q, gB d q = true → q ∈ l ∧ ∀ x, x ∈ nx q → x ∈ l
  done : ∀ (i : Nat) x, i < k → l[i]? = some x → gB d x = true
def sumL (f : Nat → Nat) : Nat → Nat
  | 0 => 0
  | n + 1 => sumL f n + f n
/-- what is still to come: a bound on the rounds -/
def left (nx : Nat → List Nat) (n : Nat) (d : List Bool) : Nat := sumL (fun q => if gB d q = true then 0 else (nx q).length) n
theorem sumL_set (nx : Nat → List Nat) (d : List Bool) (p : Nat) (hp : p < d.length) (h : gB d p = false) : ∀ n, sumL (fun q => if gB (d.set p true) q = true then 0 else (nx q).length) n + (if p < n then (nx p).length else 0) = sumL (fun q => if gB d q = true then 0 else (nx q).length) n
  | 0 => by simp [sumL]
  | n + 1 => by
    have ih := sumL_set nx d p hp h n
    rw [sumL, sumL]
    by_cases e : p = n
    · subst e
      rw [if_neg (Nat.lt_irrefl p)] at ih
      rw [gB_set hp, if_pos rfl, if_pos rfl, if_pos (Nat.lt_succ_self p), h, if_neg Bool.false_ne_true]
      omega
    · rw [gB_set hp, if_neg (fun h => e (Eq.symm h))]
      generalize (if gB d n = true then 0 else (nx n).length) = z
      by_cases e2 : p < n
      · rw [if_pos e2] at ih; rw [if_pos (by omega)]; omega
      · rw [if_neg e2] at ih; rw [if_neg (by omega)]; omega
theorem left_set {nx : Nat → List Nat} {n : Nat} {d : List Bool} {p : Nat} (hl : d.length = n) (hp : p < n) (h : gB d p = false) : left nx n (d.set p true) + (nx p).length = left nx n d := by
  have := sumL_set nx d p (by omega) h n
  rw [if_pos hp] at this
  exact this
theorem Work.start {nx : Nat → List Nat} {n : Nat} {start : List Nat} (h : ∀ x, x ∈ start → x < n) : Work nx n start (List.replicate n false) start 0 :=
  ⟨by simp, Nat.zero_le _, h, fun _ h => h, fun x hx => ⟨x, hx, .refl _⟩, fun q hq => (by rw [gB_rep] at hq; cases hq), fun i x hi => by omega⟩
theorem Work.skip {nx : Nat → List Nat} {n : Nat} {start : List Nat} {d : List Bool} {l : List Nat} {k q : Nat} (h : Work nx n start d l k) (hk : l[k]? = some q) (hq : gB d q = true) : Work nx n start d l (k + 1) := by
  have hlt : k < l.length := by
    rcases Nat.lt_or_ge k l.length with h' | h'
    · exact h'
    · rw [List.getElem?_eq_none h'] at hk; cases hk
  refine { h with kl := hlt, done := fun i x hi hx => ?_ }
  by_cases e : i = k
  · subst e; rw [hk] at hx; cases hx; exact hq
  · exact h.done i x (by omega) hx
theorem Work.take {nx : Nat → List Nat} {n : Nat} {start : List Nat} {d : List Bool} {l : List Nat} {k q : Nat} (h : Work nx n start d l k) (hk : l[k]? = some q) (hn : ∀ x, x ∈ nx q → x < n) : Work nx n start (d.set q true) (l ++ nx q) (k + 1) := by
  have hlt : k < l.length := by
    rcases Nat.lt_or_ge k l.length with h' | h'
    · exact h'
    · rw [List.getElem?_eq_none h'] at hk; cases hk
  have hql : q ∈ l := List.mem_of_getElem? hk
  have hqd : q < d.length := by rw [h.len]; exact h.lt q hql
  refine ⟨by simpa using h.len, by simp; omega, fun x hx => ?_, fun x hx => List.mem_append.2 (.inl (h.from_ x hx)), fun x hx => ?_, fun p hp => ?_, fun i x hi hx => ?_⟩
  · rcases List.mem_append.1 hx with hx | hx
    · exact h.lt x hx
    · exact hn x hx
  · rcases List.mem_append.1 hx with hx | hx
    · exact h.sound x hx
    · obtain ⟨f, h1, h2⟩ := h.sound q hql
      exact ⟨f, h1, h2.snoc hx⟩
  · rw [gB_set hqd] at hp
    by_cases e : p = q
    · subst e; exact ⟨List.mem_append.2 (.inl hql), fun x hx => List.mem_append.2 (.inr hx)⟩
    · rw [if_neg e] at hp
      obtain ⟨h1, h2⟩ := h.mark p hp
      exact ⟨List.mem_append.2 (.inl h1), fun x hx => List.mem_append.2 (.inl (h2 x hx))⟩
  · rw [gB_set hqd]
    by_cases e : i = k
    · subst e
      rw [List.getElem?_append_left hlt, hk] at hx
      cases hx
      rw [if_pos rfl]
    · rw [List.getElem?_append_left (by omega)] at hx
      split
      · rfl
      · exact h.done i x (by omega) hx
theorem Work.end_ {nx : Nat → List Nat} {n : Nat} {start : List Nat} {d : List Bool} {l : List Nat} (h : Work nx n start d l l.length) (q : Nat) : gB d q = true ↔ ∃ f, f ∈ start ∧ Rch nx f q := by
  have hall : ∀ x, x ∈ l → gB d x = true := fun x hx => by
    obtain ⟨i, hi, e⟩ := List.mem_iff_getElem.1 hx
    exact h.done i x hi (by rw [List.getElem?_eq_getElem hi, e])
  refine ⟨fun hq => h.sound q (h.mark q hq).1, fun ⟨f, hf, hr⟩ => ?_⟩
  exact hr.closed (m := fun x => gB d x = true) (fun i hi x hx => hall x ((h.mark i hi).2 x hx)) (hall f (h.from_ f hf))

/-! ### rounds: mark the followers of what is marked, n times -/
/-- within a round: nodes below i have been looked at, of node i the first k followers -/
structure Round (nx : Nat → List Nat) (n q : Nat) (d0 d : List Bool) (i k : Nat) : Prop where
  len : d.length = n
  sound : ∀ x, gB d x = true → Rch nx q x
  more : ∀ x, gB d0 x = true → gB d x = true
  seen : ∀ j, j < i → gB d0 j = true → ∀ x, x ∈ nx j → gB d x = true
  part : ∀ (t : Nat) x, t < k → (nx i)[t]? = some x → gB d x = true
  grow : d0.count true ≤ d.count true
  same : d.count true = d0.count true → d = d0
theorem Round.start {nx : Nat → List Nat} {n q : Nat} {d : List Bool} (hl : d.length = n) (hs : ∀ x, gB d x = true → Rch nx q x) : Round nx n q d d 0 0 :=
  ⟨hl, hs, fun _ h => h, fun j hj => by omega, fun t x ht => by omega, Nat.le_refl _, fun _ => rfl⟩
theorem Round.skip {nx : Nat → List Nat} {n q : Nat} {d0 d : List Bool} {i : Nat} (h : Round nx n q d0 d i 0) (hn : gB d i = false) : Round nx n q d0 d (i + 1) 0 := by
  refine { h with seen := fun j hj hd => ?_, part := fun t x ht => by omega }
  by_cases e : j = i
  · subst e; rw [h.more j hd] at hn; cases hn
  · exact h.seen j (by omega) hd
theorem Round.mark {nx : Nat → List Nat} {n q : Nat} {d0 d : List Bool} {i k x : Nat} (h : Round nx n q d0 d i k) (hi : gB d i = true) (hk : (nx i)[k]? = some x) (hx : x < n) : Round nx n q d0 (d.set x true) i (k + 1) := by
  have hxl : x < d.length := by rw [h.len]; exact hx
  have hmono : ∀ y, gB d y = true → gB (d.set x true) y = true := fun y hy => by rw [gB_set hxl]; split <;> first | rfl | exact hy
  refine ⟨by simpa using h.len, fun y hy => ?_, fun y hy => hmono y (h.more y hy), fun j hj hd y hy => hmono y (h.seen j hj hd y hy), fun t y ht hy => ?_, ?_, fun hc => ?_⟩
  · rw [gB_set hxl] at hy
    by_cases e : y = x
    · subst e; exact (h.sound i hi).snoc (List.mem_of_getElem? hk)
    · rw [if_neg e] at hy; exact h.sound y hy
  · by_cases e : t = k
    · subst e; rw [hk] at hy; cases hy; rw [gB_set hxl, if_pos rfl]
    · exact hmono y (h.part t y (by omega) hy)
  · cases hdx : gB d x
    · rw [count_set_true d x hxl hdx]; have := h.grow; omega
    · have : d.set x true = d := by
        apply List.ext_getElem?
        intro j
        rw [List.getElem?_set]
        by_cases e : x = j
        · subst e
          unfold gB at hdx
          rw [List.getElem?_eq_getElem hxl] at hdx ⊢
          simp only [Option.getD_some] at hdx
          simp [hxl, hdx]
        · rw [if_neg e]
      rw [this]; exact h.grow
  · cases hdx : gB d x
    · rw [count_set_true d x hxl hdx] at hc; have := h.grow; omega
    · have : d.set x true = d := by
        apply List.ext_getElem?
        intro j
        rw [List.getElem?_set]
        by_cases e : x = j
        · subst e
          unfold gB at hdx
          rw [List.getElem?_eq_getElem hxl] at hdx ⊢
          simp only [Option.getD_some] at hdx
          simp [hxl, hdx]
        · rw [if_neg e]
      rw [this] at hc ⊢
      exact h.same hc
theorem Round.next {nx : Nat → List Nat} {n q : Nat} {d0 d : List Bool} {i : Nat} (h : Round nx n q d0 d i (nx i).length) : Round nx n q d0 d (i + 1) 0 := by
  refine { h with seen := fun j hj hd x hx => ?_, part := fun t x ht => by omega }
  by_cases e : j = i
  · subst e
    obtain ⟨t, ht, e⟩ := List.mem_iff_getElem.1 hx
    exact h.part t x ht (by rw [List.getElem?_eq_getElem ht, e])
  · exact h.seen j (by omega) hd x hx
/-- after r rounds -/
structure Rounds (nx : Nat → List Nat) (n q : Nat) (d : List Bool) (r : Nat) : Prop where
  len : d.length = n
  sound : ∀ x, gB d x = true → Rch nx q x
  self : gB d q = true
  full : r + 1 ≤ d.count true ∨ ∀ i, i < n → gB d i = true → ∀ x, x ∈ nx i → gB d x = true
theorem Rounds.start {nx : Nat → List Nat} {n q : Nat} (hq : q < n) : Rounds nx n q ((List.replicate n false).set q true) 0 := by
  have hl : q < (List.replicate n false).length := by simpa using hq
  refine ⟨by simp, fun x hx => ?_, by rw [gB_set hl, if_pos rfl], .inl ?_⟩
  · rw [gB_set hl, gB_rep] at hx
    by_cases e : x = q
    · subst e; exact .refl _
    · rw [if_neg e] at hx; cases hx
  · rw [count_set_true _ _ hl gB_rep]; omega
theorem Rounds.next {nx : Nat → List Nat} {n q r : Nat} {d0 d : List Bool} (h : Rounds nx n q d0 r) (hr : Round nx n q d0 d n 0) : Rounds nx n q d (r + 1) := by
  refine ⟨hr.len, hr.sound, hr.more q h.self, ?_⟩
  by_cases e : d.count true = d0.count true
  · have := hr.same e
    subst this
    exact .inr fun i hi hd x hx => hr.seen i hi hd x hx
  · rcases h.full with hf | hf
    · left; have := hr.grow; omega
    · right
      have hsub : ∀ x, gB d x = true → gB d0 x = true := fun x hx => by
        refine (hr.sound x hx).closed (m := fun y => gB d0 y = true) (fun i hi y hy => ?_) h.self
        have hin : i < n := by
          rcases Nat.lt_or_ge i n with h' | h'
          · exact h'
          · rw [gB_out (by rw [h.len]; exact h')] at hi; cases hi
        exact hf i hin hi y hy
      exact fun i hi hd x hx => hr.more x (hf i hi (hsub i hd) x hx)
theorem Rounds.end_ {nx : Nat → List Nat} {n q : Nat} {d : List Bool} (h : Rounds nx n q d n) (x : Nat) : gB d x = true ↔ Rch nx q x := by
  refine ⟨h.sound x, fun hr => ?_⟩
  rcases h.full with hf | hf
  · have := count_le d; have := h.len; omega
  · refine hr.closed (m := fun y => gB d y = true) (fun i hi y hy => ?_) h.self
    have hin : i < n := by
      rcases Nat.lt_or_ge i n with h' | h'
      · exact h'
      · rw [gB_out (by rw [h.len]; exact h')] at hi; cases hi
    exact hf i hin hi y hy
end Go.Nf
