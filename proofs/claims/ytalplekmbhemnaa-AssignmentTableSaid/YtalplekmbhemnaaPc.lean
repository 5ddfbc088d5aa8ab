/- Plain: the tree of an insertion: scan, prices, augmentation. -/
import Derived.Test.YtalplekmbhemnaaPb
namespace Go.Proofs.Ytalplekmbhemnaa
open Go Go.Nf

theorem pigeon : ∀ (n m : Nat) (f : Nat → Nat), (∀ i, i < n → f i < m) → (∀ i j, i < n → j < n → f i = f j → i = j) → n ≤ m
  | 0, _, _, _, _ => Nat.zero_le _
  | n + 1, 0, f, h, _ => by have := h 0 (by omega); omega
  | n + 1, m + 1, f, h, hi => by
    have := pigeon n m (fun i => if f i = m then f n else f i) (fun i hin => by
      show (if f i = m then f n else f i) < m
      have h1 := h i (by omega)
      have h2 := h n (by omega)
      split
      · rename_i e
        have : f n ≠ m := fun e' => by have := hi i n (by omega) (by omega) (by omega); omega
        omega
      · omega) (fun i j h1 h2 e => by
      split at e <;> split at e
      · exact hi i j (by omega) (by omega) (by omega)
      · exact absurd (hi n j (by omega) (by omega) e) (by omega)
      · exact absurd (hi n i (by omega) (by omega) e.symm) (by omega)
      · exact hi i j (by omega) (by omega) e)
    omega

def rowAt (Q : Sq) (k : Nat) (p : Int) : Nat := if p < 0 then k else (gI Q.rowOf p.toNat).toNat
theorem rowAt_neg (Q : Sq) (k : Nat) : rowAt Q k (-1) = k := rfl
theorem rowAt_nat (Q : Sq) (k p : Nat) : rowAt Q k (p : Int) = (gI Q.rowOf p).toNat := by
  unfold rowAt; rw [if_neg (by omega), Int.toNat_natCast]
def InT (ord : List Nat) (p : Int) : Prop := p = -1 ∨ ∃ x, x ∈ ord ∧ p = ((x : Nat) : Int)
def Path (Q : Sq) (k : Nat) (D V b : List Int) : List Nat → Prop
  | [] => True
  | p :: l => p ∉ l ∧ p < Q.size ∧ InT l (gI b p) ∧ (Q.c (rowAt Q k (gI b p)) p ≠ Inf ∧ Q.c (rowAt Q k (gI b p)) p = gI D (rowAt Q k (gI b p)) + gI V p) ∧ Path Q k D V b l
theorem Path.lt {Q : Sq} {k : Nat} {D V b : List Int} : ∀ {l : List Nat}, Path Q k D V b l → ∀ p, p ∈ l → p < Q.size
  | [], _, p, h => by cases h
  | q :: l, ⟨_, h2, _, _, h5⟩, p, h => by
    rcases List.mem_cons.1 h with rfl | h
    · exact h2
    · exact Path.lt h5 p h
theorem Path.cut {Q : Sq} {k : Nat} {D V b : List Int} : ∀ {l : List Nat}, Path Q k D V b l → ∀ p, p ∈ l → ∃ l', Path Q k D V b (p :: l') ∧ l'.length < l.length ∧ ∀ x, x ∈ l' → x ∈ l
  | [], _, p, h => by cases h
  | q :: l, hp, p, h => by
    rcases List.mem_cons.1 h with rfl | h
    · exact ⟨l, hp, by simp, fun x hx => List.mem_cons_of_mem _ hx⟩
    · obtain ⟨l', h1, h2, h3⟩ := Path.cut hp.2.2.2.2 p h
      exact ⟨l', h1, by simp; omega, fun x hx => List.mem_cons_of_mem _ (h3 x hx)⟩
theorem Path.turn {Q : Sq} {k : Nat} {D V b D' V' b' : List Int} : ∀ {l : List Nat}, Path Q k D V b l → (∀ p, p ∈ l → gI b' p = gI b p) →
    (∀ p q, p ∈ l → InT l q → gI D' (rowAt Q k q) + gI V' p = gI D (rowAt Q k q) + gI V p) → Path Q k D' V' b' l
  | [], _, _, _ => trivial
  | p :: l, ⟨h1, h2, h3, h4, h5⟩, hb, hd => by
    have e := hb p (by simp)
    refine ⟨h1, h2, by rw [e]; exact h3, ?_, Path.turn h5 (fun x hx => hb x (List.mem_cons_of_mem _ hx)) fun x y hx hy => hd x y (List.mem_cons_of_mem _ hx) ?_⟩
    · rw [e, hd p (gI b p) (by simp)]
      · exact h4
      · rcases h3 with h | ⟨x, hx, h⟩
        · exact .inl h
        · exact .inr ⟨x, List.mem_cons_of_mem _ hx, h⟩
    · rcases hy with h | ⟨x, hx, h⟩
      · exact .inl h
      · exact .inr ⟨x, List.mem_cons_of_mem _ hx, h⟩

/-- the tree of an insertion of row k -/
structure Tree (Q : Sq) (R C k : Nat) (D V s b : List Int) (used : List Bool) (ord : List Nat) (T : Int → Prop) : Prop where
  inv : Inv Q R C k
  hk : k < Q.size
  len : D.length = Q.size ∧ V.length = Q.size ∧ s.length = Q.size ∧ b.length = Q.size ∧ used.length = Q.size
  use : ∀ j, j < Q.size → (gB used j = true ↔ j ∈ ord)
  path : Path Q k D V b ord
  feas : ∀ i j, i < Q.size → j < Q.size → Q.c i j ≠ Inf → gI D i + gI V j ≤ Q.c i j
  tight : ∀ (i : Nat) j, j < Q.size → gI Q.rowOf j = (i : Int) → Q.c i j ≠ Inf ∧ Q.c i j = gI D i + gI V j
  vneg : ∀ j, j < Q.size → gI V j ≤ gI Q.colD j
  vun : ∀ j, j < Q.size → j ∉ ord → gI V j = gI Q.colD j
  late : ∀ i, k < i → i < Q.size → gI D i = 0
  dlo : ∀ i, i < Q.size → gI Q.rowD i ≤ gI D i ∧ gI D i ≤ gI Q.rowD i + gI D k
  vlo : ∀ j, j < Q.size → gI Q.colD j - gI D k ≤ gI V j
  low : ∀ j, j < Q.size → j ∉ ord → ∀ p, T p → Q.c (rowAt Q k p) j ≠ Inf → gI s j ≤ Q.c (rowAt Q k p) j - gI D (rowAt Q k p) - gI V j
  att : ∀ j, j < Q.size → j ∉ ord → gI s j = Inf ∨ (T (gI b j) ∧ Q.c (rowAt Q k (gI b j)) j ≠ Inf ∧ gI s j = Q.c (rowAt Q k (gI b j)) j - gI D (rowAt Q k (gI b j)) - gI V j)

/-- a free column that row k may have -/
theorem Inv.spare {Q : Sq} {R C k : Nat} (h : Inv Q R C k) (hk : k < Q.size) : ∃ f, f < Q.size ∧ gI Q.rowOf f = -1 ∧ Q.c k f ≠ Inf ∧ Q.c k f ≤ 140737488355328 := by
  have hs := h.cost.size
  by_cases hr : k < R
  · have e := h.cost.own k hr
    refine ⟨C + k, by omega, ?_, by rw [e]; unfold Inf; omega, by omega⟩
    rcases h.row (C + k) (by omega) with h1 | ⟨h1, h2⟩
    · exact h1
    · obtain ⟨h3, -⟩ := h.tight (gI Q.rowOf (C + k)).toNat (C + k) (by omega) (by omega)
      exact absurd (h.cost.none _ (C + k) (by omega) (by omega) (by omega) (by omega)) h3
  · refine Classical.byContradiction fun hn => ?_
    have hall : ∀ j, j < Q.size → 0 ≤ gI Q.rowOf j ∧ gI Q.rowOf j < k := fun j hj => by
      rcases h.row j hj with h1 | h1
      · refine absurd ⟨j, hj, h1, ?_⟩ hn
        rw [h.cost.extra k j (by omega) (by omega) (by omega)]
        unfold Inf; omega
      · exact h1
    have := pigeon Q.size k (fun j => (gI Q.rowOf j).toNat) (fun j hj => by have := hall j hj; omega) (fun i j hi hj e => by
      have h1 := hall i hi
      have h2 := hall j hj
      exact h.inj i j hi hj (by omega) h1.1)
    omega

theorem Tree.start {Q : Sq} {R C k : Nat} (h : Inv Q R C k) (hk : k < Q.size) : Tree Q R C k Q.rowD Q.colD (List.replicate Q.size Inf) (List.replicate Q.size (-1)) (List.replicate Q.size false) [] (fun _ => False) where
  inv := h
  hk := hk
  len := ⟨h.len.2.1, h.len.2.2, by simp, by simp, by simp⟩
  use j hj := by simp [gB, hj]
  path := trivial
  feas := h.feas
  tight := h.tight
  vneg _ _ := Int.le_refl _
  vun _ _ _ := rfl
  late i h1 h2 := h.late i (by omega) h2
  dlo i hi := by have := h.late k (by omega) hk; omega
  vlo i hi := by have := h.late k (by omega) hk; omega
  low _ _ _ _ hp := hp.elim
  att j hj _ := .inl (by simp [gI, hj])

/-- row and columns after a scan of the row at 'last' -/
def hit (Q : Sq) (k : Nat) (D V s : List Int) (used : List Bool) (last : Int) (j : Nat) : Bool :=
  !gB used j && !decide (Q.c (rowAt Q k last) j = Inf) && decide (Q.c (rowAt Q k last) j - gI D (rowAt Q k last) - gI V j < gI s j)
def scanS (Q : Sq) (k : Nat) (D V s : List Int) (used : List Bool) (last : Int) (j : Nat) : Int :=
  if hit Q k D V s used last j then Q.c (rowAt Q k last) j - gI D (rowAt Q k last) - gI V j else gI s j
def scanB (Q : Sq) (k : Nat) (D V s b : List Int) (used : List Bool) (last : Int) (j : Nat) : Int :=
  if hit Q k D V s used last j then last else gI b j
theorem hit_of {Q : Sq} {k : Nat} {D V s : List Int} {used : List Bool} {last : Int} {j : Nat} : hit Q k D V s used last j = true ↔ gB used j = false ∧ Q.c (rowAt Q k last) j ≠ Inf ∧ Q.c (rowAt Q k last) j - gI D (rowAt Q k last) - gI V j < gI s j := by
  unfold hit; simp [and_assoc]
theorem Tree.scan {Q : Sq} {R C k : Nat} {D V s b : List Int} {used : List Bool} {ord : List Nat} {T : Int → Prop} (h : Tree Q R C k D V s b used ord T) (last : Int) :
    Tree Q R C k D V (mix (scanS Q k D V s used last) s Q.size) (mix (scanB Q k D V s b used last) b Q.size) used ord (fun p => T p ∨ p = last) := by
  obtain ⟨l1, l2, l3, l4, l5⟩ := h.len
  have es : ∀ j, j < Q.size → gI (mix (scanS Q k D V s used last) s Q.size) j = scanS Q k D V s used last j := fun j hj => by rw [mix_get (by omega), if_pos hj]
  have eb : ∀ j, j < Q.size → gI (mix (scanB Q k D V s b used last) b Q.size) j = scanB Q k D V s b used last j := fun j hj => by rw [mix_get (by omega), if_pos hj]
  refine { h with len := ⟨l1, l2, by rw [mix_len]; exact l3, by rw [mix_len]; exact l4, l5⟩, path := ?_, low := ?_, att := ?_ }
  · refine h.path.turn (fun p hp => ?_) fun _ _ _ _ => rfl
    have hlt := h.path.lt p hp
    rw [eb p hlt]
    unfold scanB
    rw [if_neg (fun hh => by have := (hit_of.1 hh).1; rw [(h.use p hlt).2 hp] at this; cases this)]
  · intro j hj hjo p hp hc
    rw [es j hj]
    unfold scanS
    by_cases hh : hit Q k D V s used last j = true
    · rw [if_pos hh]
      have h1 := hit_of.1 hh
      rcases hp with hp | rfl
      · have := h.low j hj hjo p hp hc; omega
      · omega
    · rw [if_neg hh]
      rcases hp with hp | rfl
      · exact h.low j hj hjo p hp hc
      · have hu : gB used j = false := by
          cases e : gB used j
          · rfl
          · exact absurd ((h.use j hj).1 e) hjo
        refine Int.not_lt.1 fun hlt => hh (hit_of.2 ⟨hu, hc, hlt⟩)
  · intro j hj hjo
    rw [es j hj, eb j hj]
    unfold scanS scanB
    by_cases hh : hit Q k D V s used last j = true
    · rw [if_pos hh, if_pos hh]
      exact .inr ⟨.inr rfl, (hit_of.1 hh).2.1, rfl⟩
    · rw [if_neg hh, if_neg hh]
      rcases h.att j hj hjo with h1 | ⟨h1, h2⟩
      · exact .inl h1
      · exact .inr ⟨.inl h1, h2⟩

/-- slacks of columns outside the tree are small or infinite, and not negative -/
theorem Tree.bounds {Q : Sq} {R C k : Nat} {D V s b : List Int} {used : List Bool} {ord : List Nat} {T : Int → Prop} (h : Tree Q R C k D V s b used ord T) (hm : ∀ p, p ∈ ord → 0 ≤ gI Q.rowOf p) :
    ∀ p, InT ord p → rowAt Q k p < Q.size ∧ (rowAt Q k p = k ∨ ∃ x, x ∈ ord ∧ gI Q.rowOf x = (rowAt Q k p : Int)) := by
  rintro p (rfl | ⟨x, hx, rfl⟩)
  · rw [rowAt_neg]; exact ⟨h.hk, .inl rfl⟩
  · rw [rowAt_nat]
    have h1 := hm x hx
    have h2 := h.path.lt x hx
    have hk := h.hk
    rcases h.inv.row x h2 with h3 | h3
    · omega
    · exact ⟨by omega, .inr ⟨x, hx, by omega⟩⟩
theorem Tree.dk {Q : Sq} {R C k : Nat} {D V s b : List Int} {used : List Bool} {ord : List Nat} {T : Int → Prop} (h : Tree Q R C k D V s b used ord T) (hm : ∀ p, p ∈ ord → 0 ≤ gI Q.rowOf p) : 0 ≤ gI D k ∧ gI D k ≤ 140737488355328 := by
  obtain ⟨f, h1, h2, h3, h4⟩ := h.inv.spare h.hk
  have h5 := h.feas k f h.hk h1 h3
  have h6 := h.vun f h1 (fun hf => by have := hm f hf; omega)
  have h7 := (h.inv.free f h1).2 h2
  have h8 := h.dlo k h.hk
  have h9 := h.inv.late k (Nat.le_refl _) h.hk
  omega
theorem Tree.slack {Q : Sq} {R C k : Nat} {D V s b : List Int} {used : List Bool} {ord : List Nat} {T : Int → Prop} (h : Tree Q R C k D V s b used ord T) (hT : ∀ p, T p → InT ord p) (hm : ∀ p, p ∈ ord → 0 ≤ gI Q.rowOf p) {j : Nat} (hj : j < Q.size) (hjo : j ∉ ord) :
    0 ≤ gI s j ∧ (gI s j = Inf ∨ gI s j ≤ 140737488355328 * (k + 1)) := by
  rcases h.att j hj hjo with h1 | ⟨h1, h2, h3⟩
  · exact ⟨by rw [h1]; unfold Inf; omega, .inl h1⟩
  · obtain ⟨h4, -⟩ := h.bounds hm _ (hT _ h1)
    have h5 := h.feas _ j h4 hj h2
    have h6 := h.dlo _ h4
    have h7 := h.inv.bu _ h4
    have h8 := h.vun j hj hjo
    have h9 := h.inv.bv j hj
    have h10 := (h.inv.cost.bd h4 hj h2)
    exact ⟨by omega, .inr (by omega)⟩
/-- the column of least slack has a finite slack, and the price of row k stays small -/
theorem Tree.next {Q : Sq} {R C k : Nat} {D V s b : List Int} {used : List Bool} {ord : List Nat} (h : Tree Q R C k D V s b used ord (InT ord)) (hm : ∀ p, p ∈ ord → 0 ≤ gI Q.rowOf p) :
    ∃ f, f < Q.size ∧ f ∉ ord ∧ gI s f + gI D k ≤ 140737488355328 := by
  obtain ⟨f, h1, h2, h3, h4⟩ := h.inv.spare h.hk
  have hf : f ∉ ord := fun hf => by have := hm f hf; omega
  have h5 := h.low f h1 hf (-1) (.inl rfl)
  rw [rowAt_neg] at h5
  have h5 := h5 h3
  have h6 := h.vun f h1 hf
  have h7 := (h.inv.free f h1).2 h2
  exact ⟨f, h1, hf, by omega⟩
end Go.Proofs.Ytalplekmbhemnaa
