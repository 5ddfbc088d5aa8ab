/- Plain: perfect tight matchings; the search that gives a row its first column; the shift along the chain. -/
import Derived.Test.YtalplekmbhemnaaPd
namespace Go.Proofs.Ytalplekmbhemnaa
open Go Go.Nf

theorem onto {n : Nat} {f : Nat → Nat} (h : ∀ i, i < n → f i < n) (hi : ∀ i j, i < n → j < n → f i = f j → i = j) : ∀ y, y < n → ∃ i, i < n ∧ f i = y := fun y hy => by
  refine Classical.byContradiction fun hn => ?_
  have hne : ∀ i, i < n → f i ≠ y := fun i hi e => hn ⟨i, hi, e⟩
  have := pigeon n (n - 1) (fun i => if f i = n - 1 then y else f i) (fun i hi' => by
    have h1 := h i hi'
    have h2 := hne i hi'
    show (if f i = n - 1 then y else f i) < n - 1
    split <;> omega) (fun i j h1 h2 e => by
    have h3 := hne i h1
    have h4 := hne j h2
    have h5 := h i h1
    have h6 := h j h2
    refine hi i j h1 h2 ?_
    split at e <;> split at e <;> omega)
  omega

/-- an edge that the prices allow -/
def Edge (Q : Sq) (i j : Nat) : Prop := Q.c i j ≠ Inf ∧ Q.c i j = gI Q.rowD i + gI Q.colD j
/-- every row has a column, all edges allowed -/
structure Perf (Q : Sq) (R C : Nat) : Prop where
  cost : CostOk Q R C
  len : Q.rowOf.length = Q.size ∧ Q.rowD.length = Q.size ∧ Q.colD.length = Q.size
  row : ∀ j, j < Q.size → 0 ≤ gI Q.rowOf j ∧ gI Q.rowOf j < Q.size
  inj : ∀ j j', j < Q.size → j' < Q.size → gI Q.rowOf j = gI Q.rowOf j' → j = j'
  all : ∀ i : Nat, i < Q.size → ∃ j, j < Q.size ∧ gI Q.rowOf j = (i : Int)
  tight : ∀ (i : Nat) j, j < Q.size → gI Q.rowOf j = (i : Int) → Edge Q i j
  feas : ∀ i j, i < Q.size → j < Q.size → Q.c i j ≠ Inf → gI Q.rowD i + gI Q.colD j ≤ Q.c i j
  bu : ∀ i, i < Q.size → 0 ≤ gI Q.rowD i ∧ gI Q.rowD i ≤ 18014398509481984
  bv : ∀ j, j < Q.size → -18014398509481984 ≤ gI Q.colD j ∧ gI Q.colD j ≤ 0
theorem Inv.perf {Q : Sq} {R C : Nat} (h : Inv Q R C Q.size) : Perf Q R C := by
  have hs := h.cost.size
  have hc := h.cost.small
  have hall : ∀ j, j < Q.size → 0 ≤ gI Q.rowOf j := fun j hj => by
    let f : Nat → Nat := fun i => if hi : i < Q.size then Classical.choose (h.all i hi) else 0
    have hf : ∀ i, i < Q.size → f i < Q.size ∧ gI Q.rowOf (f i) = (i : Int) := fun i hi => by
      have := Classical.choose_spec (h.all i hi)
      show (dite _ _ _ : Nat) < _ ∧ gI Q.rowOf (dite _ _ _) = _
      rw [dif_pos hi]; exact this
    obtain ⟨i, hi, e⟩ := onto (fun i hi => (hf i hi).1) (fun i i' hi hi' e => by
      have h1 := (hf i hi).2
      have h2 := (hf i' hi').2
      rw [e] at h1
      omega) j hj
    have := (hf i hi).2
    rw [e] at this
    omega
  refine ⟨h.cost, h.len, fun j hj => ?_, fun j j' hj hj' e => h.inj j j' hj hj' e (hall j hj), h.all, fun i j hj e => h.tight i j hj e, h.feas, fun i hi => ?_, fun j hj => ?_⟩
  · have := hall j hj
    rcases h.row j hj with h1 | h1 <;> omega
  · have := h.bu i hi; omega
  · have := h.bv j hj; have := (h.free j hj).1; omega
theorem Perf.tight_iff {Q : Sq} {R C i j : Nat} (h : Perf Q R C) (hi : i < Q.size) (hj : j < Q.size) : Q.tight i j = true ↔ Edge Q i j := by
  have h1 := h.bu i hi
  have h2 := h.bv j hj
  have eu : Q.u i = gI Q.rowD i := rfl
  have ev : Q.v j = gI Q.colD j := rfl
  unfold Sq.tight Edge
  rw [eu, ev, wr (by omega)]
  simp

/-- a perfect tight matching of rows to columns -/
structure Mate (Q : Sq) (g : Nat → Nat) : Prop where
  lt : ∀ a, a < Q.size → g a < Q.size
  inj : ∀ a b, a < Q.size → b < Q.size → g a = g b → a = b
  edge : ∀ a, a < Q.size → Edge Q a (g a)

/-- columns reached from 'home', the newest first -/
def Rp (Q : Sq) (i home : Nat) (t : List Int) : List Nat → Prop
  | [] => False
  | x :: L => (L = [] ∧ x = home) ∨ (x ∉ L ∧ x < Q.size ∧ x ≠ home ∧ (i : Int) < gI Q.rowOf x ∧ (∃ y, y ∈ L ∧ gI t x = (y : Int) ∧ Edge Q (gI Q.rowOf x).toNat y) ∧ Rp Q i home t L)
theorem Rp.lt {Q : Sq} {i home : Nat} {t : List Int} (hh : home < Q.size) : ∀ {L : List Nat}, Rp Q i home t L → ∀ x, x ∈ L → x < Q.size
  | [], h, _, _ => h.elim
  | x :: L, h, y, hy => by
    rcases h with ⟨rfl, rfl⟩ | ⟨h1, h2, h3, h4, h5, h6⟩
    · simp at hy; omega
    · rcases List.mem_cons.1 hy with rfl | hy
      · exact h2
      · exact Rp.lt hh h6 y hy
theorem Rp.cut {Q : Sq} {i home : Nat} {t : List Int} : ∀ {L : List Nat}, Rp Q i home t L → ∀ x, x ∈ L → ∃ L', Rp Q i home t (x :: L') ∧ L'.length < L.length ∧ ∀ y, y ∈ L' → y ∈ L
  | [], h, _, _ => h.elim
  | x :: L, h, y, hy => by
    rcases List.mem_cons.1 hy with rfl | hy
    · exact ⟨L, h, by simp, fun z hz => List.mem_cons_of_mem _ hz⟩
    · rcases h with ⟨rfl, rfl⟩ | ⟨h1, h2, h3, h4, h5, h6⟩
      · cases hy
      · obtain ⟨L', k1, k2, k3⟩ := Rp.cut h6 y hy
        exact ⟨L', k1, by simp; omega, fun z hz => List.mem_cons_of_mem _ (k3 z hz)⟩
theorem Rp.turn {Q : Sq} {i home : Nat} {t t' : List Int} : ∀ {L : List Nat}, Rp Q i home t L → (∀ x, x ∈ L → gI t' x = gI t x) → Rp Q i home t' L
  | [], h, _ => h.elim
  | x :: L, h, k => by
    rcases h with h | ⟨h1, h2, h3, h4, h5, h6⟩
    · exact .inl h
    · exact .inr ⟨h1, h2, h3, h4, by rw [k x (by simp)]; exact h5, Rp.turn h6 fun y hy => k y (List.mem_cons_of_mem _ hy)⟩

structure Bfs (Q : Sq) (i home : Nat) (t : List Int) (L qs : List Nat) (except : Nat → Nat → Prop) : Prop where
  len : t.length = Q.size
  rp : Rp Q i home t L
  mem : ∀ j, j < Q.size → (j ∈ L ↔ j = home ∨ 0 ≤ gI t j)
  base : gI t home = -1
  neg : ∀ j, j < Q.size → gI t j = -1 ∨ 0 ≤ gI t j
  sub : ∀ x, x ∈ qs → x ∈ L
  closed : ∀ x, x ∈ L → x ∉ qs → ∀ j, j < Q.size → ¬ except x j → j ≠ home → (i : Int) < gI Q.rowOf j → Edge Q (gI Q.rowOf j).toNat x → 0 ≤ gI t j
theorem Bfs.start {Q : Sq} {i home : Nat} (hh : home < Q.size) : Bfs Q i home (List.replicate Q.size (-1)) [home] [home] fun _ _ => False where
  len := by simp
  rp := .inl ⟨rfl, rfl⟩
  mem j hj := by simp [gI, hj]
  base := by simp [gI, hh]
  neg j hj := by simp [gI, hj]
  sub _ h := h
  closed x h h' := absurd h h'
/-- the head of the queue is taken -/
theorem Bfs.pop {Q : Sq} {i home : Nat} {t : List Int} {L qs : List Nat} {x : Nat} (h : Bfs Q i home t L (x :: qs) fun _ _ => False) : Bfs Q i home t L qs (fun y _ => y = x) where
  len := h.len
  rp := h.rp
  mem := h.mem
  base := h.base
  neg := h.neg
  sub y hy := h.sub y (List.mem_cons_of_mem _ hy)
  closed y hy hq j hj he := h.closed y hy (fun hh => by
    rcases List.mem_cons.1 hh with e | hh
    · exact he e
    · exact hq hh) j hj (fun h => h)
/-- column j is looked at and not reached, or was -/
theorem Bfs.skip {Q : Sq} {i home : Nat} {t : List Int} {L qs : List Nat} {x j : Nat} (h : Bfs Q i home t L qs (fun y k => y = x ∧ j ≤ k)) (hn : j = home ∨ 0 ≤ gI t j ∨ gI Q.rowOf j ≤ (i : Int) ∨ ¬ Edge Q (gI Q.rowOf j).toNat x) :
    Bfs Q i home t L qs (fun y k => y = x ∧ j + 1 ≤ k) := by
  refine { h with closed := fun y hy hq k hk he h1 h2 h3 => ?_ }
  by_cases e : k = j ∧ y = x
  · obtain ⟨rfl, rfl⟩ := e
    rcases hn with hn | hn | hn | hn
    · exact absurd hn h1
    · exact hn
    · omega
    · exact absurd h3 hn
  · refine h.closed y hy hq k hk (fun hh => he ⟨hh.1, ?_⟩) h1 h2 h3
    have : k ≠ j := fun e' => e ⟨e', hh.1⟩
    omega
theorem Bfs.push {Q : Sq} {i home : Nat} {t : List Int} {L qs : List Nat} {x j : Nat} (h : Bfs Q i home t L qs (fun y k => y = x ∧ j ≤ k)) (hx : x ∈ L) (hj : j < Q.size) (h1 : j ≠ home) (h2 : ¬ 0 ≤ gI t j) (h3 : (i : Int) < gI Q.rowOf j) (h4 : Edge Q (gI Q.rowOf j).toNat x) :
    Bfs Q i home (t.set j (x : Int)) (j :: L) (qs ++ [j]) (fun y k => y = x ∧ j + 1 ≤ k) := by
  have hlen := h.len
  have hjL : j ∉ L := fun hh => by
    rcases (h.mem j hj).1 hh with e | e
    · exact h1 e
    · exact h2 e
  have es : ∀ k, gI (t.set j (x : Int)) k = if k = j then (x : Int) else gI t k := fun k => gI_set (by omega)
  constructor
  case len => simpa using hlen
  case rp =>
    refine .inr ⟨hjL, hj, h1, h3, ⟨x, hx, by rw [es, if_pos rfl], h4⟩, h.rp.turn fun y hy => ?_⟩
    rw [es, if_neg (show y ≠ j from fun e => hjL (e ▸ hy))]
  case mem =>
    intro k hk
    rw [es, List.mem_cons, h.mem k hk]
    by_cases e : k = j
    · rw [if_pos e]; exact ⟨fun _ => .inr (by omega), fun _ => .inl e⟩
    · rw [if_neg e]; exact ⟨fun hh => hh.resolve_left e, fun hh => .inr hh⟩
  case base => rw [es, if_neg (fun e => h1 e.symm)]; exact h.base
  case neg => intro k hk; rw [es]; split
              · exact .inr (by omega)
              · exact h.neg k hk
  case sub =>
    intro y hy
    rcases List.mem_append.1 hy with hy | hy
    · exact List.mem_cons_of_mem _ (h.sub y hy)
    · simp at hy; subst hy; simp
  case closed =>
    intro y hy hq k hk he g1 g2 g3
    rw [es]
    split
    · omega
    · rename_i hkj
      rcases List.mem_cons.1 hy with rfl | hy
      · exact absurd (List.mem_append.2 (.inr (by simp))) hq
      · exact h.closed y hy (fun hh => hq (List.mem_append.2 (.inl hh))) k hk (fun hh => he ⟨hh.1, by omega⟩) g1 g2 g3

/-- where a perfect tight matching that agrees below i has row i, the search has been -/
theorem Bfs.reach {Q : Sq} {R C i home : Nat} {t : List Int} {L : List Nat} (h : Bfs Q i home t L [] fun _ _ => False) (hp : Perf Q R C) (hi : i < Q.size) (hh : home < Q.size) (hhi : gI Q.rowOf home = (i : Int)) {g : Nat → Nat} (m : Mate Q g) (ha : ∀ a : Nat, a < i → gI Q.rowOf (g a) = (a : Int)) :
    g i ∈ L := by
  refine Classical.byContradiction fun hn => ?_
  let Y : Nat → Prop := fun j => j ∉ L ∧ (i : Int) < gI Q.rowOf j
  have hsub : ∀ j, j < Q.size → j ∉ L → gI Q.rowOf j ≠ (i : Int) := fun j hj hjL e => hjL ((h.mem j hj).2 (.inl (hp.inj j home hj hh (by omega))))
  have step : ∀ j, j < Q.size → Y j → g (gI Q.rowOf j).toNat < Q.size ∧ Y (g (gI Q.rowOf j).toNat) := fun j hj hY => by
    have hr := hp.row j hj
    have hlt := m.lt (gI Q.rowOf j).toNat (by omega)
    have hed := m.edge (gI Q.rowOf j).toNat (by omega)
    have hnL : g (gI Q.rowOf j).toNat ∉ L := fun hin => by
      have := h.closed _ hin (by simp) j hj (fun hh => hh) (fun e => hY.1 ((h.mem j hj).2 (.inl e))) hY.2 hed
      exact hY.1 ((h.mem j hj).2 (.inr this))
    refine ⟨hlt, hnL, ?_⟩
    have h1 := hsub _ hlt hnL
    refine Int.not_le.1 fun hle => ?_
    have hr2 := hp.row _ hlt
    have e := ha (gI Q.rowOf (g (gI Q.rowOf j).toNat)).toNat (by omega)
    have e2 := hp.inj _ _ (m.lt (gI Q.rowOf (g (gI Q.rowOf j).toNat)).toNat (by omega)) hlt (by omega)
    have e3 := m.inj _ _ (by omega) (by omega) e2
    have := hY.2
    omega
  have hg : g i < Q.size := m.lt i hi
  have hYg : Y (g i) := by
    refine ⟨hn, ?_⟩
    have h1 := hsub _ hg hn
    refine Int.not_le.1 fun hle => ?_
    have hr2 := hp.row _ hg
    have e := ha (gI Q.rowOf (g i)).toNat (by omega)
    have e2 := hp.inj _ _ (m.lt (gI Q.rowOf (g i)).toNat (by omega)) hg (by omega)
    have e3 := m.inj _ _ (by omega) (by omega) e2
    omega
  classical
  obtain ⟨j, hj, e⟩ := onto (n := Q.size) (f := fun j => if Y j then g (gI Q.rowOf j).toNat else j) (fun j hj => by
    show (if Y j then g (gI Q.rowOf j).toNat else j) < Q.size
    split
    · exact (step j hj ‹_›).1
    · exact hj) (fun j j' hj hj' e => by
    have hr := hp.row j hj
    have hr' := hp.row j' hj'
    by_cases h1 : Y j <;> by_cases h2 : Y j'
    · rw [if_pos h1, if_pos h2] at e
      exact hp.inj j j' hj hj' (by have := m.inj _ _ (by omega) (by omega) e; omega)
    · rw [if_pos h1, if_neg h2] at e
      exact absurd (e ▸ (step j hj h1).2) h2
    · rw [if_neg h1, if_pos h2] at e
      exact absurd (e ▸ (step j' hj' h2).2) h1
    · rw [if_neg h1, if_neg h2] at e
      exact e) (g i) hg
  have hr := hp.row j hj
  by_cases h1 : Y j
  · simp only [if_pos h1] at e
    have := m.inj _ _ (by omega) hi e
    have := h1.2
    omega
  · simp only [if_neg h1] at e
    exact h1 (e ▸ hYg)
end Go.Proofs.Ytalplekmbhemnaa
