/- Plain: labels of nodes, improved along edges till none can be. -/
import Derived.Test.YtcaokpglbolkcaaTd
namespace Go.Proofs.Ytcaokpglbolkcaa
open Go Go.Nf

def gD (D : List Int) (v : Nat) : Int := (D[v]?).getD FarT
theorem gD_at {D : List Int} {v : Nat} (h : v < D.length) : gD D v = D[v] := by unfold gD; rw [List.getElem?_eq_getElem h]; rfl
theorem gD_set {D : List Int} {v u : Nat} {x : Int} (h : v < D.length) : gD (D.set v x) u = if u = v then x else gD D u := by
  unfold gD
  rw [List.getElem?_set]
  by_cases e : v = u
  · subst e; rw [if_pos rfl, if_pos h, if_pos rfl]; rfl
  · rw [if_neg e, if_neg fun h => e h.symm]
section
variable (E : List Edg) (wt : Nat → Int) (n : Nat) (s : Int)
/-- how long one may go from the source to a node -/
inductive Way : Nat → Int → Prop where
  | start (v : Nat) : v < n → s = (v : Int) → Way v 0
  | step (u v : Nat) (d : Int) (i : Nat) (e : Edg) : Way u d → E[i]? = some e → e.src = (u : Int) → e.dst = (v : Int) → v < n → wt i ≠ FarT → Way v (d + wt i)
/-- the shortest distances -/
structure IsDist (D : List Int) : Prop where
  len : D.length = n
  way : ∀ v, v < n → gD D v ≠ FarT → Way E wt n s v (gD D v)
  least : ∀ v d, Way E wt n s v d → gD D v ≠ FarT ∧ gD D v ≤ d
  bd : ∀ v, v < n → gD D v ≠ FarT → 0 ≤ gD D v ∧ gD D v ≤ 9437184
variable {E wt n s}
theorem IsDist.unique {D D' : List Int} (h : IsDist E wt n s D) (h' : IsDist E wt n s D') : D = D' := by
  apply List.ext_getElem (h.len.trans h'.len.symm)
  intro v h1 h2
  rw [← gD_at h1, ← gD_at h2]
  have hv : v < n := by rw [← h.len]; exact h1
  by_cases a : gD D v = FarT
  · by_cases b : gD D' v = FarT
    · rw [a, b]
    · exact absurd a (h.least v _ (h'.way v hv b)).1
  · have w := h.way v hv a
    have b := h'.least v _ w
    have := (h.least v _ (h'.way v hv b.1)).2
    omega
/-- a way without a node twice; with what each node's label is at most -/
inductive Trail (E : List Edg) (wt : Nat → Int) (n : Nat) (s : Int) : Nat → Int → List (Nat × Int) → Prop where
  | start (v : Nat) : v < n → s = (v : Int) → Trail E wt n s v 0 [(v, 0)]
  | step (u v : Nat) (d : Int) (i : Nat) (e : Edg) (l : List (Nat × Int)) : Trail E wt n s u d l → E[i]? = some e → e.src = (u : Int) → e.dst = (v : Int) → v < n → wt i ≠ FarT → (∀ p ∈ l, p.1 ≠ v) → Trail E wt n s v (d + wt i) ((v, d + wt i) :: l)
theorem Trail.way {v : Nat} {d : Int} {l : List (Nat × Int)} (h : Trail E wt n s v d l) : Way E wt n s v d := by
  induction h with
  | start v h1 h2 => exact .start v h1 h2
  | step u v d i e l _ h1 h2 h3 h4 h5 _ ih => exact .step u v d i e ih h1 h2 h3 h4 h5
def OkW (wt : Nat → Int) : Prop := ∀ i, wt i = FarT ∨ (1 ≤ wt i ∧ wt i ≤ 1048576)
theorem Trail.bd (hw : OkW wt) {v : Nat} {d : Int} {l : List (Nat × Int)} (h : Trail E wt n s v d l) : 0 ≤ d ∧ d + 1048576 ≤ (l.length : Int) * 1048576 ∧ (∀ p ∈ l, p.2 ≤ d ∧ p.1 < n) ∧ (l.map (·.1)).Nodup ∧ v < n := by
  induction h with
  | start v h1 h2 => simp [h1]
  | step u v d i e l _ h1 h2 h3 h4 h5 h6 ih =>
    obtain ⟨a, b, c, f, g⟩ := ih
    rcases hw i with k | k
    · exact absurd k h5
    refine ⟨by omega, by simp only [List.length_cons]; omega, fun p hp => ?_, ?_, h4⟩
    · rcases List.mem_cons.1 hp with rfl | hp
      · exact ⟨Int.le_refl _, h4⟩
      · exact ⟨by have := (c p hp).1; omega, (c p hp).2⟩
    · rw [List.map_cons, List.nodup_cons]
      refine ⟨fun hm => ?_, f⟩
      obtain ⟨p, hp, e⟩ := List.mem_map.1 hm
      exact h6 p hp e
theorem nodup_le : ∀ {n : Nat} {l : List Nat}, l.Nodup → (∀ x ∈ l, x < n) → l.length ≤ n
  | 0, l, _, hl => by
    cases l with
    | nil => simp
    | cons x l => exact absurd (hl x (.head _)) (by omega)
  | n + 1, l, h, hl => by
    by_cases hm : n ∈ l
    · have := nodup_le (n := n) (h.erase n) fun x hx => by
        have h1 := (h.mem_erase_iff.1 hx)
        have := hl x h1.2
        have := h1.1
        omega
      rw [List.length_erase_of_mem hm] at this
      omega
    · have := nodup_le (n := n) h fun x hx => by
        have := hl x hx
        have : x ≠ n := fun e => hm (e ▸ hx)
        omega
      omega
theorem Trail.le (hw : OkW wt) (hn : n ≤ 10) {v : Nat} {d : Int} {l : List (Nat × Int)} (h : Trail E wt n s v d l) : 0 ≤ d ∧ d ≤ 9437184 := by
  obtain ⟨a, b, c, f, -⟩ := h.bd hw
  have := nodup_le (n := n) f fun x hx => by
    obtain ⟨p, hp, rfl⟩ := List.mem_map.1 hx
    exact (c p hp).2
  rw [List.length_map] at this
  omega

/-! ### how much the labels may still fall -/
def cap (x : Int) : Nat := if x = FarT then 9437185 else x.toNat
def capS (D : List Int) : Nat := (D.map cap).sum
theorem capS_set : ∀ {D : List Int} {v : Nat} {x : Int}, (h : v < D.length) → capS (D.set v x) + cap (gD D v) = capS D + cap x
  | y :: D, 0, x, _ => by simp [capS, gD]; omega
  | y :: D, v + 1, x, h => by
    have ih := capS_set (D := D) (v := v) (x := x) (by simpa using h)
    have e : gD (y :: D) (v + 1) = gD D v := by simp [gD]
    rw [e]
    simp only [List.set_cons_succ, capS, List.map_cons, List.sum_cons] at *
    omega
theorem capS_rep (n : Nat) : capS (List.replicate n FarT) = n * 9437185 := by
  unfold capS
  rw [List.map_replicate, List.sum_replicate_nat]
  rfl

/-! ### the labels while the queue is worked off -/
def key (d : Int) (u : Nat) : Int := d * 4096 + (u : Int)
/-- all edges from a node, but those that X names, are of no use any more -/
def Relax (E : List Edg) (wt : Nat → Int) (D : List Int) (u : Nat) (X : Nat → Prop) : Prop := ∀ i e, E[i]? = some e → e.src = (u : Int) → ¬ X i → wt i ≠ FarT → ∀ v : Nat, e.dst = (v : Int) → gD D v ≤ gD D u + wt i
structure Lab (E : List Edg) (wt : Nat → Int) (n : Nat) (s : Int) (D : List Int) (xs : List Int) (u0 : Nat) (X : Nat → Prop) : Prop where
  len : D.length = n
  lab : ∀ v, v < n → gD D v = FarT ∨ ∃ l, Trail E wt n s v (gD D v) l ∧ ∀ p ∈ l, gD D p.1 ≤ p.2
  src : ∀ v : Nat, v < n → s = (v : Int) → gD D v = 0
  opn : ∀ u, u < n → gD D u ≠ FarT → (Relax E wt D u (fun i => u = u0 ∧ X i)) ∨ key (gD D u) u ∈ xs
  keys : ∀ x ∈ xs, ∃ u d, u < n ∧ x = key d u ∧ gD D u ≤ d ∧ 0 ≤ d ∧ d ≤ 9437184
  few : xs.length + capS D ≤ n * 9437185 + 1
variable {D xs : List Int} {u0 : Nat} {X : Nat → Prop}
theorem Lab.fin (h : Lab E wt n s D xs u0 X) (hw : OkW wt) (hn : n ≤ 10) {v : Nat} (hv : v < n) : gD D v = FarT ∨ (0 ≤ gD D v ∧ gD D v ≤ 9437184) := by
  rcases h.lab v hv with e | ⟨l, t, -⟩
  · exact .inl e
  · exact .inr (t.le hw hn)
theorem Lab.done (h : Lab E wt n s D [] u0 X) (hX : ∀ i, ¬ X i) (hw : OkW wt) (hn : n ≤ 10) : IsDist E wt n s D := by
  refine ⟨h.len, fun v hv hf => ?_, fun v d hW => ?_, fun v hv hf => (h.fin hw hn hv).resolve_left hf⟩
  · rcases h.lab v hv with e | ⟨l, t, -⟩
    · exact absurd e hf
    · exact t.way
  · have key : ∀ v d, Way E wt n s v d → v < n ∧ gD D v ≠ FarT ∧ gD D v ≤ d := by
      intro v d hW
      induction hW with
      | start v h1 h2 => exact ⟨h1, by rw [h.src v h1 h2]; decide, by rw [h.src v h1 h2]; exact Int.le_refl _⟩
      | step u v d i e _ h1 h2 h3 h4 h5 ih =>
        obtain ⟨a, b, c⟩ := ih
        rcases h.opn u a b with k | k
        · have := k i e h1 h2 (fun q => hX i q.2) h5 v h3
          have fu := h.fin hw hn a
          rcases hw i with q | q
          · exact absurd q h5
          refine ⟨h4, fun q' => ?_, by omega⟩
          rw [q'] at this
          rcases fu with fu | fu
          · exact b fu
          · simp only [FarT] at this; omega
        · cases k
    exact (key v d hW).2
theorem key_inj {d d' : Int} {u u' : Nat} (hu : u < 4096) (hu' : u' < 4096) (h : key d u = key d' u') : d = d' ∧ u = u' := by
  unfold key at h
  omega
theorem key_div {d : Int} {u : Nat} (hd : 0 ≤ d) (hu : u < 4096) : Int.tdiv (key d u) 4096 = d ∧ Int.tmod (key d u) 4096 = (u : Int) := by
  unfold key
  rw [Int.tdiv_eq_ediv_of_nonneg (by omega), Int.tmod_eq_emod_of_nonneg (by omega)]
  omega
/-- at first -/
theorem Lab.none (hs : ¬ ∃ v : Nat, v < n ∧ s = (v : Int)) : Lab E wt n s (List.replicate n FarT) [] u0 X := by
  have hr : ∀ v, gD (List.replicate n FarT) v = FarT := fun v => by
    unfold gD; rw [List.getElem?_replicate]; split <;> rfl
  exact ⟨by simp, fun v _ => .inl (hr v), fun v h1 h2 => absurd ⟨v, h1, h2⟩ hs, fun u _ h => absurd (hr u) h, fun x hx => (by cases hx), by rw [capS_rep]; simp⟩
theorem Lab.first {v : Nat} (hv : v < n) (hs : s = (v : Int)) {ys : List Int} (hy : ys.Perm [key 0 v]) : Lab E wt n s ((List.replicate n FarT).set v 0) ys u0 X := by
  have hr : ∀ u, gD ((List.replicate n FarT).set v 0) u = if u = v then 0 else FarT := fun u => by
    rw [gD_set (by simpa using hv)]
    have : gD (List.replicate n FarT) u = FarT := by unfold gD; rw [List.getElem?_replicate]; split <;> rfl
    rw [this]
  refine ⟨by simp, fun u hu => ?_, fun u h1 h2 => ?_, fun u hu h => ?_, fun x hx => ?_, ?_⟩
  · rw [hr]
    by_cases e : u = v
    · rw [if_pos e]
      exact .inr ⟨_, .start u hu (by rw [e]; exact hs), fun p hp => by
        rw [List.mem_singleton] at hp
        rw [hp, hr, if_pos e]; exact Int.le_refl _⟩
    · rw [if_neg e]; exact .inl rfl
  · rw [hr, if_pos (by omega)]
  · rw [hr] at h ⊢
    by_cases e : u = v
    · rw [if_pos e, e]; exact .inr (hy.mem_iff.2 (by simp))
    · rw [if_neg e] at h; exact absurd rfl h
  · have := hy.mem_iff.1 hx
    rw [List.mem_singleton] at this
    exact ⟨v, 0, hv, this, by rw [hr, if_pos rfl]; exact Int.le_refl _, Int.le_refl _, by decide⟩
  · have h1 := capS_set (D := List.replicate n FarT) (v := v) (x := 0) (by simpa using hv)
    have h2 : gD (List.replicate n FarT) v = FarT := by unfold gD; rw [List.getElem?_replicate]; split <;> rfl
    rw [h2, capS_rep] at h1
    have h3 : cap FarT = 9437185 := rfl
    have h4 : cap 0 = 0 := rfl
    rw [hy.length_eq, List.length_singleton]
    omega
/-- an old key comes up -/
theorem Lab.stale {x : Int} {rest ys : List Int} (h : Lab E wt n s D (x :: rest) u0 X) (hn : n ≤ 10) {d : Int} {u : Nat} (hx : x = key d u) (hu : u < n) (hd : gD D u < d) (hy : ys.Perm rest) : Lab E wt n s D ys u0 X := by
  refine ⟨h.len, h.lab, h.src, fun v hv hf => ?_, fun z hz => h.keys z (.tail _ (hy.mem_iff.1 hz)), ?_⟩
  · rcases h.opn v hv hf with k | k
    · exact .inl k
    · refine .inr (hy.mem_iff.2 ?_)
      rcases List.mem_cons.1 k with e | e
      · rw [hx] at e
        obtain ⟨e1, rfl⟩ := key_inj (by omega) (by omega) e
        omega
      · exact e
  · have := h.few
    have e := hy.length_eq
    simp only [List.length_cons] at this
    omega
/-- the key of a label comes up: the node's edges are to be looked at -/
theorem Lab.open' {x : Int} {rest ys : List Int} {d : Int} {u : Nat} (h : Lab E wt n s D (x :: rest) u0 X) (hX : ∀ i, ¬ X i) (hn : n ≤ 10) (hx : x = key d u) (hu : u < n) (hy : ys.Perm rest) :
    Lab E wt n s D ys u fun i => (i : Int) ∈ idxs (fun e => decide (e.src = (u : Int))) E 0 := by
  refine ⟨h.len, h.lab, h.src, fun v hv hf => ?_, fun z hz => h.keys z (.tail _ (hy.mem_iff.1 hz)), ?_⟩
  · by_cases e : v = u
    · exact .inl fun i e' h1 h2 hn' => absurd ⟨e, (idxs_mem _ E 0 _).2 ⟨i, e', h1, by rw [← e]; exact decide_eq_true h2, by rw [Nat.zero_add]⟩⟩ hn'
    · rcases h.opn v hv hf with k | k
      · exact .inl fun i e' h1 h2 _ h4 => k i e' h1 h2 (fun q => hX i q.2) h4
      · refine .inr (hy.mem_iff.2 ?_)
        rcases List.mem_cons.1 k with q | q
        · rw [hx] at q
          exact absurd (key_inj (by omega) (by omega) q).2 e
        · exact q
  · have := h.few
    have e := hy.length_eq
    simp only [List.length_cons] at this
    omega
/-- an edge is of no use -/
theorem Lab.pass {i0 : Nat} {e0 : Edg} {v0 u : Nat} {rem : List Int} (h : Lab E wt n s D xs u fun i => (i : Int) ∈ (i0 : Int) :: rem) (he : E[i0]? = some e0) (hv : e0.dst = (v0 : Int)) (hno : wt i0 ≠ FarT → gD D v0 ≤ gD D u + wt i0) :
    Lab E wt n s D xs u fun i => (i : Int) ∈ rem := by
  refine ⟨h.len, h.lab, h.src, fun v hvn hf => (h.opn v hvn hf).imp (fun k i e h1 h2 h3 h4 v' h5 => ?_) id, h.keys, h.few⟩
  by_cases q : v = u ∧ i = i0
  · obtain ⟨rfl, rfl⟩ := q
    rw [he] at h1
    cases h1
    have : v' = v0 := by omega
    subst this
    exact hno h4
  · refine k i e h1 h2 (fun hh => ?_) h4 v' h5
    rcases List.mem_cons.1 hh.2 with e' | e'
    · exact q ⟨hh.1, by omega⟩
    · exact h3 ⟨hh.1, e'⟩
/-- an edge gives a node a lower label -/
theorem Lab.better {i0 : Nat} {e0 : Edg} {v0 u : Nat} {rem ys : List Int} (h : Lab E wt n s D xs u fun i => (i : Int) ∈ (i0 : Int) :: rem) (hw : OkW wt) (hn : n ≤ 10) (he : E[i0]? = some e0) (hu : u < n) (hsrc : e0.src = (u : Int)) (hv : e0.dst = (v0 : Int)) (hv0 : v0 < n) (hf0 : wt i0 ≠ FarT) (huf : gD D u ≠ FarT)
    (hlt : gD D u + wt i0 < gD D v0) (hy : ys.Perm (xs ++ [key (gD D u + wt i0) v0])) : Lab E wt n s (D.set v0 (gD D u + wt i0)) ys u fun i => (i : Int) ∈ rem := by
  have hv0l : v0 < D.length := by rw [h.len]; exact hv0
  have hset : ∀ x, gD (D.set v0 (gD D u + wt i0)) x = if x = v0 then gD D u + wt i0 else gD D x := fun x => gD_set hv0l
  have hle : ∀ x, gD (D.set v0 (gD D u + wt i0)) x ≤ gD D x := fun x => by
    rw [hset]; split
    · rename_i e; subst e; omega
    · exact Int.le_refl _
  rcases h.lab u hu with k | ⟨l, tr, hl⟩
  · exact absurd k huf
  rcases hw i0 with q | wq
  · exact absurd q hf0
  have hnot : ∀ p ∈ l, p.1 ≠ v0 := fun p hp e => by
    have h1 := hl p hp
    have h2 := ((tr.bd hw).2.2.1 p hp).1
    rw [e] at h1
    omega
  have tr' := Trail.step u v0 _ i0 e0 l tr he hsrc hv hv0 hf0 hnot
  have bd' := tr'.le hw hn
  have huv : u ≠ v0 := fun e => by subst e; omega
  have hbd := (tr.le hw hn)
  refine ⟨by rw [List.length_set]; exact h.len, fun v hvn => ?_, fun v h1 h2 => ?_, fun v hvn hf => ?_, fun z hz => ?_, ?_⟩
  · by_cases e : v = v0
    · subst e
      refine .inr ⟨_, by rw [hset, if_pos rfl]; exact tr', fun p hp => ?_⟩
      rcases List.mem_cons.1 hp with rfl | hp
      · rw [hset, if_pos rfl]; exact Int.le_refl _
      · exact Int.le_trans (hle _) (hl p hp)
    · rw [hset, if_neg e]
      rcases h.lab v hvn with k | ⟨l', t', hl'⟩
      · exact .inl k
      · exact .inr ⟨l', t', fun p hp => Int.le_trans (hle _) (hl' p hp)⟩
  · by_cases e : v = v0
    · subst e
      have := h.src v h1 h2
      omega
    · rw [hset, if_neg e]; exact h.src v h1 h2
  · by_cases e : v = v0
    · subst e
      rw [hset, if_pos rfl]
      exact .inr (hy.mem_iff.2 (by simp))
    · rw [hset, if_neg e] at hf ⊢
      rcases h.opn v hvn hf with k | k
      · refine .inl fun i e' h1 h2 h3 h4 v' h5 => ?_
        rw [hset v, if_neg e]
        by_cases q : v = u ∧ i = i0
        · obtain ⟨rfl, rfl⟩ := q
          rw [he] at h1
          cases h1
          have : v' = v0 := by omega
          subst this
          rw [hset, if_pos rfl]
          exact Int.le_refl _
        · refine Int.le_trans (hle v') (k i e' h1 h2 (fun hh => ?_) h4 v' h5)
          rcases List.mem_cons.1 hh.2 with e' | e'
          · exact q ⟨hh.1, by omega⟩
          · exact h3 ⟨hh.1, e'⟩
      · exact .inr (hy.mem_iff.2 (by simp [k]))
  · rcases List.mem_append.1 (hy.mem_iff.1 hz) with q | q
    · obtain ⟨u', d', h1, h2, h3, h4⟩ := h.keys z q
      exact ⟨u', d', h1, h2, Int.le_trans (hle _) h3, h4⟩
    · rw [List.mem_singleton] at q
      exact ⟨v0, _, hv0, q, by rw [hset, if_pos rfl]; exact Int.le_refl _, bd'.1, bd'.2⟩
  · have h1 := capS_set (D := D) (v := v0) (x := gD D u + wt i0) hv0l
    have h2 := h.few
    have h3 := hy.length_eq
    rw [List.length_append, List.length_singleton] at h3
    have c1 : cap (gD D u + wt i0) = (gD D u + wt i0).toNat := by
      unfold cap; rw [if_neg (by simp only [FarT]; omega)]
    have c2 : (gD D u + wt i0).toNat + 1 ≤ cap (gD D v0) := by
      unfold cap
      split
      · omega
      · omega
    omega
end
end Go.Proofs.Ytcaokpglbolkcaa
