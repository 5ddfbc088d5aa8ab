/- Plain: the assignment problem. -/
import Derived.Test.YtcaokpglbolkcaaYa
namespace Go.Proofs.Ytcaokpglbolkcaa
open Go Go.Nf

/-- the value at a place -/
def gI (l : List Int) (i : Nat) : Int := (l[i]?).getD 0
def gB (l : List Bool) (i : Nat) : Bool := (l[i]?).getD false
/-- the first j places are turned by F -/
def mix (F : Nat → Int) (P : List Int) (j : Nat) : List Int := (List.range P.length).map fun i => if i < j then F i else gI P i
theorem mix_len (F : Nat → Int) (P : List Int) (j : Nat) : (mix F P j).length = P.length := by simp [mix]
theorem mix_get {F : Nat → Int} {P : List Int} {j i : Nat} (h : i < P.length) : gI (mix F P j) i = if i < j then F i else gI P i := by
  unfold gI mix; simp [h, gI]
theorem mix_zero (F : Nat → Int) (P : List Int) : mix F P 0 = P := by
  apply List.ext_getElem?
  intro i
  rcases Nat.lt_or_ge i P.length with h | h
  · simp [mix, gI, h]
  · rw [List.getElem?_eq_none (by rw [mix_len]; exact h), List.getElem?_eq_none h]
theorem mix_set {F : Nat → Int} {P : List Int} {j : Nat} (h : j < P.length) : (mix F P j).set j (F j) = mix F P (j + 1) := by
  apply List.ext_getElem?
  intro i
  rcases Nat.lt_or_ge i P.length with hi | hi
  · rw [List.getElem?_set]
    by_cases e : j = i
    · subst e; simp [mix, hi]
    · rw [if_neg e]
      simp only [mix, List.getElem?_map, List.getElem?_range hi, Option.map_some, Option.some.injEq]
      by_cases h1 : i < j
      · rw [if_pos h1, if_pos (by omega)]
      · rw [if_neg h1, if_neg (by omega)]
  · rw [List.getElem?_eq_none (by simp [mix_len]; exact hi), List.getElem?_eq_none (by simp [mix_len]; exact hi)]
theorem mix_same {F : Nat → Int} {P : List Int} {j : Nat} (h : j < P.length) (e : F j = gI P j) : mix F P j = mix F P (j + 1) := by
  unfold mix
  apply List.map_congr_left
  intro i hi
  by_cases h1 : i = j
  · subst h1; rw [if_neg (by omega), if_pos (by omega), e]
  · by_cases h2 : i < j
    · rw [if_pos h2, if_pos (by omega)]
    · rw [if_neg h2, if_neg (by omega)]
theorem gI_get {l : List Int} {i : Nat} (h : i < l.length) : gI l i = l[i] := by unfold gI; rw [List.getElem?_eq_getElem h]; rfl
theorem gI_set {l : List Int} {i j : Nat} {x : Int} (h : j < l.length) : gI (l.set j x) i = if i = j then x else gI l i := by
  unfold gI
  rw [List.getElem?_set]
  by_cases e : j = i
  · subst e; simp [h]
  · rw [if_neg e, if_neg (fun h => e h.symm)]

/-- the costs of a square with R real rows and C real columns -/
structure CostOk (Q : Sq) (R C : Nat) : Prop where
  size : Q.size = R + C
  small : R ≤ 64 ∧ C ≤ 64
  real : ∀ i j, i < R → j < C → Q.c i j = Inf ∨ (0 ≤ Q.c i j ∧ Q.c i j ≤ 1099511627776)
  own : ∀ i, i < R → Q.c i (C + i) = 140737488355328
  none : ∀ i j, i < R → C ≤ j → j < R + C → j ≠ C + i → Q.c i j = Inf
  extra : ∀ i j, R ≤ i → i < R + C → j < R + C → Q.c i j = 0
theorem CostOk.bd {Q : Sq} {R C : Nat} (h : CostOk Q R C) {i j : Nat} (hi : i < Q.size) (hj : j < Q.size) (hf : Q.c i j ≠ Inf) : 0 ≤ Q.c i j ∧ Q.c i j ≤ 140737488355328 := by
  have hs := h.size
  by_cases h1 : i < R
  · by_cases h2 : j < C
    · rcases h.real i j h1 h2 with e | e
      · exact absurd e hf
      · omega
    · by_cases h3 : j = C + i
      · subst h3; rw [h.own i h1]; omega
      · exact absurd (h.none i j h1 (by omega) (by omega) h3) hf
  · rw [h.extra i j (by omega) (by omega) (by omega)]; omega

/-- rows below k have a column each; the prices fit -/
structure Inv (Q : Sq) (R C k : Nat) : Prop where
  cost : CostOk Q R C
  kS : k ≤ Q.size
  len : Q.rowOf.length = Q.size ∧ Q.rowD.length = Q.size ∧ Q.colD.length = Q.size
  row : ∀ j, j < Q.size → gI Q.rowOf j = -1 ∨ (0 ≤ gI Q.rowOf j ∧ gI Q.rowOf j < k)
  inj : ∀ j j', j < Q.size → j' < Q.size → gI Q.rowOf j = gI Q.rowOf j' → 0 ≤ gI Q.rowOf j → j = j'
  feas : ∀ i j, i < Q.size → j < Q.size → Q.c i j ≠ Inf → gI Q.rowD i + gI Q.colD j ≤ Q.c i j
  all : ∀ i : Nat, i < k → ∃ j, j < Q.size ∧ gI Q.rowOf j = (i : Int)
  tight : ∀ (i : Nat) j, j < Q.size → gI Q.rowOf j = (i : Int) → Q.c i j ≠ Inf ∧ Q.c i j = gI Q.rowD i + gI Q.colD j
  free : ∀ j, j < Q.size → gI Q.colD j ≤ 0 ∧ (gI Q.rowOf j = -1 → gI Q.colD j = 0)
  late : ∀ i, k ≤ i → i < Q.size → gI Q.rowD i = 0
  bu : ∀ i, i < Q.size → 0 ≤ gI Q.rowD i ∧ gI Q.rowD i ≤ 140737488355328 * k
  bv : ∀ j, j < Q.size → -(140737488355328 * k) ≤ gI Q.colD j

theorem pigeon : ∀ (n m : Nat) (f : Nat → Nat), (∀ i, i < n → f i < m) → (∀ i j, i < n → j < n → f i = f j → i = j) → n ≤ m
  | 0, _, _, _, _ => Nat.zero_le _
  | n + 1, 0, f, h, _ => by have := h 0 (by omega); omega
  | n + 1, m + 1, f, h, hi => by
    have := pigeon n m (fun i => if f i = m then f n else f i) (fun i hin => by
      show (if f i = m then f n else f i) < m
      have h1 := h i (by omega)
      have h2 := h n (by omega)
      split
      · rename_i e
        have : f n ≠ m := fun e' => by have := hi i n (by omega) (by omega) (by omega); omega
        omega
      · omega) (fun i j h1 h2 e => by
      split at e <;> split at e
      · exact hi i j (by omega) (by omega) (by omega)
      · exact absurd (hi n j (by omega) (by omega) e) (by omega)
      · exact absurd (hi n i (by omega) (by omega) e.symm) (by omega)
      · exact hi i j (by omega) (by omega) e)
    omega

def rowAt (Q : Sq) (k : Nat) (p : Int) : Nat := if p < 0 then k else (gI Q.rowOf p.toNat).toNat
theorem rowAt_neg (Q : Sq) (k : Nat) : rowAt Q k (-1) = k := rfl
theorem rowAt_nat (Q : Sq) (k p : Nat) : rowAt Q k (p : Int) = (gI Q.rowOf p).toNat := by
  unfold rowAt; rw [if_neg (by omega), Int.toNat_natCast]
def InT (ord : List Nat) (p : Int) : Prop := p = -1 ∨ ∃ x, x ∈ ord ∧ p = ((x : Nat) : Int)
def Path (Q : Sq) (k : Nat) (D V b : List Int) : List Nat → Prop
  | [] => True
  | p :: l => p ∉ l ∧ p < Q.size ∧ InT l (gI b p) ∧ (Q.c (rowAt Q k (gI b p)) p ≠ Inf ∧ Q.c (rowAt Q k (gI b p)) p = gI D (rowAt Q k (gI b p)) + gI V p) ∧ Path Q k D V b l
theorem Path.lt {Q : Sq} {k : Nat} {D V b : List Int} : ∀ {l : List Nat}, Path Q k D V b l → ∀ p, p ∈ l → p < Q.size
  | [], _, p, h => by cases h
  | q :: l, ⟨_, h2, _, _, h5⟩, p, h => by
    rcases List.mem_cons.1 h with rfl | h
    · exact h2
    · exact Path.lt h5 p h
theorem Path.cut {Q : Sq} {k : Nat} {D V b : List Int} : ∀ {l : List Nat}, Path Q k D V b l → ∀ p, p ∈ l → ∃ l', Path Q k D V b (p :: l') ∧ l'.length < l.length ∧ ∀ x, x ∈ l' → x ∈ l
  | [], _, p, h => by cases h
  | q :: l, hp, p, h => by
    rcases List.mem_cons.1 h with rfl | h
    · exact ⟨l, hp, by simp, fun x hx => List.mem_cons_of_mem _ hx⟩
    · obtain ⟨l', h1, h2, h3⟩ := Path.cut hp.2.2.2.2 p h
      exact ⟨l', h1, by simp; omega, fun x hx => List.mem_cons_of_mem _ (h3 x hx)⟩
theorem Path.turn {Q : Sq} {k : Nat} {D V b D' V' b' : List Int} : ∀ {l : List Nat}, Path Q k D V b l → (∀ p, p ∈ l → gI b' p = gI b p) →
    (∀ p q, p ∈ l → InT l q → gI D' (rowAt Q k q) + gI V' p = gI D (rowAt Q k q) + gI V p) → Path Q k D' V' b' l
  | [], _, _, _ => trivial
  | p :: l, ⟨h1, h2, h3, h4, h5⟩, hb, hd => by
    have e := hb p (by simp)
    refine ⟨h1, h2, by rw [e]; exact h3, ?_, Path.turn h5 (fun x hx => hb x (List.mem_cons_of_mem _ hx)) fun x y hx hy => hd x y (List.mem_cons_of_mem _ hx) ?_⟩
    · rw [e, hd p (gI b p) (by simp)]
      · exact h4
      · rcases h3 with h | ⟨x, hx, h⟩
        · exact .inl h
        · exact .inr ⟨x, List.mem_cons_of_mem _ hx, h⟩
    · rcases hy with h | ⟨x, hx, h⟩
      · exact .inl h
      · exact .inr ⟨x, List.mem_cons_of_mem _ hx, h⟩

/-- the tree of an insertion of row k -/
structure Tree (Q : Sq) (R C k : Nat) (D V s b : List Int) (used : List Bool) (ord : List Nat) (T : Int → Prop) : Prop where
  inv : Inv Q R C k
  hk : k < Q.size
  len : D.length = Q.size ∧ V.length = Q.size ∧ s.length = Q.size ∧ b.length = Q.size ∧ used.length = Q.size
  use : ∀ j, j < Q.size → (gB used j = true ↔ j ∈ ord)
  path : Path Q k D V b ord
  feas : ∀ i j, i < Q.size → j < Q.size → Q.c i j ≠ Inf → gI D i + gI V j ≤ Q.c i j
  tight : ∀ (i : Nat) j, j < Q.size → gI Q.rowOf j = (i : Int) → Q.c i j ≠ Inf ∧ Q.c i j = gI D i + gI V j
  vneg : ∀ j, j < Q.size → gI V j ≤ gI Q.colD j
  vun : ∀ j, j < Q.size → j ∉ ord → gI V j = gI Q.colD j
  late : ∀ i, k < i → i < Q.size → gI D i = 0
  dlo : ∀ i, i < Q.size → gI Q.rowD i ≤ gI D i ∧ gI D i ≤ gI Q.rowD i + gI D k
  vlo : ∀ j, j < Q.size → gI Q.colD j - gI D k ≤ gI V j
  low : ∀ j, j < Q.size → j ∉ ord → ∀ p, T p → Q.c (rowAt Q k p) j ≠ Inf → gI s j ≤ Q.c (rowAt Q k p) j - gI D (rowAt Q k p) - gI V j
  att : ∀ j, j < Q.size → j ∉ ord → gI s j = Inf ∨ (T (gI b j) ∧ Q.c (rowAt Q k (gI b j)) j ≠ Inf ∧ gI s j = Q.c (rowAt Q k (gI b j)) j - gI D (rowAt Q k (gI b j)) - gI V j)

/-- a free column that row k may have -/
theorem Inv.spare {Q : Sq} {R C k : Nat} (h : Inv Q R C k) (hk : k < Q.size) : ∃ f, f < Q.size ∧ gI Q.rowOf f = -1 ∧ Q.c k f ≠ Inf ∧ Q.c k f ≤ 140737488355328 := by
  have hs := h.cost.size
  by_cases hr : k < R
  · have e := h.cost.own k hr
    refine ⟨C + k, by omega, ?_, by rw [e]; unfold Inf; omega, by omega⟩
    rcases h.row (C + k) (by omega) with h1 | ⟨h1, h2⟩
    · exact h1
    · obtain ⟨h3, -⟩ := h.tight (gI Q.rowOf (C + k)).toNat (C + k) (by omega) (by omega)
      exact absurd (h.cost.none _ (C + k) (by omega) (by omega) (by omega) (by omega)) h3
  · refine Classical.byContradiction fun hn => ?_
    have hall : ∀ j, j < Q.size → 0 ≤ gI Q.rowOf j ∧ gI Q.rowOf j < k := fun j hj => by
      rcases h.row j hj with h1 | h1
      · refine absurd ⟨j, hj, h1, ?_⟩ hn
        rw [h.cost.extra k j (by omega) (by omega) (by omega)]
        unfold Inf; omega
      · exact h1
    have := pigeon Q.size k (fun j => (gI Q.rowOf j).toNat) (fun j hj => by have := hall j hj; omega) (fun i j hi hj e => by
      have h1 := hall i hi
      have h2 := hall j hj
      exact h.inj i j hi hj (by omega) h1.1)
    omega

theorem Tree.start {Q : Sq} {R C k : Nat} (h : Inv Q R C k) (hk : k < Q.size) : Tree Q R C k Q.rowD Q.colD (List.replicate Q.size Inf) (List.replicate Q.size (-1)) (List.replicate Q.size false) [] (fun _ => False) where
  inv := h
  hk := hk
  len := ⟨h.len.2.1, h.len.2.2, by simp, by simp, by simp⟩
  use j hj := by simp [gB, hj]
  path := trivial
  feas := h.feas
  tight := h.tight
  vneg _ _ := Int.le_refl _
  vun _ _ _ := rfl
  late i h1 h2 := h.late i (by omega) h2
  dlo i hi := by have := h.late k (by omega) hk; omega
  vlo i hi := by have := h.late k (by omega) hk; omega
  low _ _ _ _ hp := hp.elim
  att j hj _ := .inl (by simp [gI, hj])

/-- row and columns after a scan of the row at 'last' -/
def hit (Q : Sq) (k : Nat) (D V s : List Int) (used : List Bool) (last : Int) (j : Nat) : Bool :=
  !gB used j && !decide (Q.c (rowAt Q k last) j = Inf) && decide (Q.c (rowAt Q k last) j - gI D (rowAt Q k last) - gI V j < gI s j)
def scanS (Q : Sq) (k : Nat) (D V s : List Int) (used : List Bool) (last : Int) (j : Nat) : Int :=
  if hit Q k D V s used last j then Q.c (rowAt Q k last) j - gI D (rowAt Q k last) - gI V j else gI s j
def scanB (Q : Sq) (k : Nat) (D V s b : List Int) (used : List Bool) (last : Int) (j : Nat) : Int :=
  if hit Q k D V s used last j then last else gI b j
theorem hit_of {Q : Sq} {k : Nat} {D V s : List Int} {used : List Bool} {last : Int} {j : Nat} : hit Q k D V s used last j = true ↔ gB used j = false ∧ Q.c (rowAt Q k last) j ≠ Inf ∧ Q.c (rowAt Q k last) j - gI D (rowAt Q k last) - gI V j < gI s j := by
  unfold hit; simp [and_assoc]
theorem Tree.scan {Q : Sq} {R C k : Nat} {D V s b : List Int} {used : List Bool} {ord : List Nat} {T : Int → Prop} (h : Tree Q R C k D V s b used ord T) (last : Int) :
    Tree Q R C k D V (mix (scanS Q k D V s used last) s Q.size) (mix (scanB Q k D V s b used last) b Q.size) used ord (fun p => T p ∨ p = last) := by
  obtain ⟨l1, l2, l3, l4, l5⟩ := h.len
  have es : ∀ j, j < Q.size → gI (mix (scanS Q k D V s used last) s Q.size) j = scanS Q k D V s used last j := fun j hj => by rw [mix_get (by omega), if_pos hj]
  have eb : ∀ j, j < Q.size → gI (mix (scanB Q k D V s b used last) b Q.size) j = scanB Q k D V s b used last j := fun j hj => by rw [mix_get (by omega), if_pos hj]
  refine { h with len := ⟨l1, l2, by rw [mix_len]; exact l3, by rw [mix_len]; exact l4, l5⟩, path := ?_, low := ?_, att := ?_ }
  · refine h.path.turn (fun p hp => ?_) fun _ _ _ _ => rfl
    have hlt := h.path.lt p hp
    rw [eb p hlt]
    unfold scanB
    rw [if_neg (fun hh => by have := (hit_of.1 hh).1; rw [(h.use p hlt).2 hp] at this; cases this)]
  · intro j hj hjo p hp hc
    rw [es j hj]
    unfold scanS
    by_cases hh : hit Q k D V s used last j = true
    · rw [if_pos hh]
      have h1 := hit_of.1 hh
      rcases hp with hp | rfl
      · have := h.low j hj hjo p hp hc; omega
      · omega
    · rw [if_neg hh]
      rcases hp with hp | rfl
      · exact h.low j hj hjo p hp hc
      · have hu : gB used j = false := by
          cases e : gB used j
          · rfl
          · exact absurd ((h.use j hj).1 e) hjo
        refine Int.not_lt.1 fun hlt => hh (hit_of.2 ⟨hu, hc, hlt⟩)
  · intro j hj hjo
    rw [es j hj, eb j hj]
    unfold scanS scanB
    by_cases hh : hit Q k D V s used last j = true
    · rw [if_pos hh, if_pos hh]
      exact .inr ⟨.inr rfl, (hit_of.1 hh).2.1, rfl⟩
    · rw [if_neg hh, if_neg hh]
      rcases h.att j hj hjo with h1 | ⟨h1, h2⟩
      · exact .inl h1
      · exact .inr ⟨.inl h1, h2⟩

/-- slacks of columns outside the tree are small or infinite, and not negative -/
theorem Tree.bounds {Q : Sq} {R C k : Nat} {D V s b : List Int} {used : List Bool} {ord : List Nat} {T : Int → Prop} (h : Tree Q R C k D V s b used ord T) (hm : ∀ p, p ∈ ord → 0 ≤ gI Q.rowOf p) :
    ∀ p, InT ord p → rowAt Q k p < Q.size ∧ (rowAt Q k p = k ∨ ∃ x, x ∈ ord ∧ gI Q.rowOf x = (rowAt Q k p : Int)) := by
  rintro p (rfl | ⟨x, hx, rfl⟩)
  · rw [rowAt_neg]; exact ⟨h.hk, .inl rfl⟩
  · rw [rowAt_nat]
    have h1 := hm x hx
    have h2 := h.path.lt x hx
    have hk := h.hk
    rcases h.inv.row x h2 with h3 | h3
    · omega
    · exact ⟨by omega, .inr ⟨x, hx, by omega⟩⟩
theorem Tree.dk {Q : Sq} {R C k : Nat} {D V s b : List Int} {used : List Bool} {ord : List Nat} {T : Int → Prop} (h : Tree Q R C k D V s b used ord T) (hm : ∀ p, p ∈ ord → 0 ≤ gI Q.rowOf p) : 0 ≤ gI D k ∧ gI D k ≤ 140737488355328 := by
  obtain ⟨f, h1, h2, h3, h4⟩ := h.inv.spare h.hk
  have h5 := h.feas k f h.hk h1 h3
  have h6 := h.vun f h1 (fun hf => by have := hm f hf; omega)
  have h7 := (h.inv.free f h1).2 h2
  have h8 := h.dlo k h.hk
  have h9 := h.inv.late k (Nat.le_refl _) h.hk
  omega
theorem Tree.slack {Q : Sq} {R C k : Nat} {D V s b : List Int} {used : List Bool} {ord : List Nat} {T : Int → Prop} (h : Tree Q R C k D V s b used ord T) (hT : ∀ p, T p → InT ord p) (hm : ∀ p, p ∈ ord → 0 ≤ gI Q.rowOf p) {j : Nat} (hj : j < Q.size) (hjo : j ∉ ord) :
    0 ≤ gI s j ∧ (gI s j = Inf ∨ gI s j ≤ 140737488355328 * (k + 1)) := by
  rcases h.att j hj hjo with h1 | ⟨h1, h2, h3⟩
  · exact ⟨by rw [h1]; unfold Inf; omega, .inl h1⟩
  · obtain ⟨h4, -⟩ := h.bounds hm _ (hT _ h1)
    have h5 := h.feas _ j h4 hj h2
    have h6 := h.dlo _ h4
    have h7 := h.inv.bu _ h4
    have h8 := h.vun j hj hjo
    have h9 := h.inv.bv j hj
    have h10 := (h.inv.cost.bd h4 hj h2)
    exact ⟨by omega, .inr (by omega)⟩
/-- the column of least slack has a finite slack, and the price of row k stays small -/
theorem Tree.next {Q : Sq} {R C k : Nat} {D V s b : List Int} {used : List Bool} {ord : List Nat} (h : Tree Q R C k D V s b used ord (InT ord)) (hm : ∀ p, p ∈ ord → 0 ≤ gI Q.rowOf p) :
    ∃ f, f < Q.size ∧ f ∉ ord ∧ gI s f + gI D k ≤ 140737488355328 := by
  obtain ⟨f, h1, h2, h3, h4⟩ := h.inv.spare h.hk
  have hf : f ∉ ord := fun hf => by have := hm f hf; omega
  have h5 := h.low f h1 hf (-1) (.inl rfl)
  rw [rowAt_neg] at h5
  have h5 := h5 h3
  have h6 := h.vun f h1 hf
  have h7 := (h.inv.free f h1).2 h2
  exact ⟨f, h1, hf, by omega⟩

/-- row i is in the tree -/
def InTree (Q : Sq) (k : Nat) (ord : List Nat) (i : Nat) : Prop := i = k ∨ ∃ x, x ∈ ord ∧ gI Q.rowOf x = (i : Int)
theorem gB_set {l : List Bool} {i j : Nat} {x : Bool} (h : j < l.length) : gB (l.set j x) i = if i = j then x else gB l i := by
  unfold gB
  rw [List.getElem?_set]
  by_cases e : j = i
  · subst e; simp [h]
  · rw [if_neg e, if_neg (fun h => e h.symm)]
theorem Tree.raise {Q : Sq} {R C k : Nat} {D V s b D' V' s' : List Int} {used : List Bool} {ord : List Nat} (h : Tree Q R C k D V s b used ord (InT ord)) (hm : ∀ p, p ∈ ord → 0 ≤ gI Q.rowOf p)
    {p : Nat} (hp : p < Q.size) (hpo : p ∉ ord) (hmin : ∀ j, j < Q.size → j ∉ ord → gI s p ≤ gI s j) (hl : D'.length = Q.size ∧ V'.length = Q.size ∧ s'.length = Q.size)
    (hD : ∀ i, i < Q.size → (InTree Q k ord i → gI D' i = gI D i + gI s p) ∧ (¬ InTree Q k ord i → gI D' i = gI D i))
    (hV : ∀ j, j < Q.size → (j ∈ ord → gI V' j = gI V j - gI s p) ∧ (j ∉ ord → gI V' j = gI V j))
    (hS : ∀ j, j < Q.size → j ∉ ord → (gI s j ≠ Inf → gI s' j = gI s j - gI s p) ∧ (gI s j = Inf → gI s' j = Inf)) :
    Tree Q R C k D' V' s' b (used.set p true) (p :: ord) (InT ord) := by
  obtain ⟨f, hf1, hf2, hf3⟩ := h.next hm
  have hsf := hmin f hf1 hf2
  have hdk := h.dk hm
  have hsp := h.slack (fun _ h => h) hm hp hpo
  have hks := h.hk
  have hcs := h.inv.cost.size
  have hcb := h.inv.cost.small
  have hfin : gI s p ≠ Inf := by unfold Inf; omega
  have key : ∀ q, InT ord q → rowAt Q k q < Q.size ∧ gI D' (rowAt Q k q) = gI D (rowAt Q k q) + gI s p := fun q hq => by
    obtain ⟨h1, h2⟩ := h.bounds hm q hq
    exact ⟨h1, (hD _ h1).1 h2⟩
  have hDp : ∀ i, i < Q.size → gI D i ≤ gI D' i ∧ gI D' i ≤ gI D i + gI s p := fun i hi => by
    by_cases ht : InTree Q k ord i
    · have := (hD i hi).1 ht; omega
    · have := (hD i hi).2 ht; omega
  have hVp : ∀ j, j < Q.size → gI V' j ≤ gI V j ∧ gI V j - gI s p ≤ gI V' j := fun i hi => by
    by_cases ht : i ∈ ord
    · have := (hV i hi).1 ht; omega
    · have := (hV i hi).2 ht; omega
  have hDk := (hD k hks).1 (.inl rfl)
  constructor
  case inv => exact h.inv
  case hk => exact hks
  case len => exact ⟨hl.1, hl.2.1, hl.2.2, h.len.2.2.2.1, by simpa using h.len.2.2.2.2⟩
  case use =>
    intro j hj
    rw [gB_set (by rw [h.len.2.2.2.2]; exact hp), List.mem_cons]
    by_cases e : j = p
    · rw [if_pos e]; exact ⟨fun _ => .inl e, fun _ => rfl⟩
    · rw [if_neg e, h.use j hj]; exact ⟨fun h => .inr h, fun h => h.resolve_left e⟩
  case path =>
    rcases h.att p hp hpo with h1 | ⟨h1, h2, h3⟩
    · exact absurd h1 hfin
    · refine ⟨hpo, hp, h1, ⟨h2, ?_⟩, h.path.turn (fun _ _ => rfl) fun x q hx hq => ?_⟩
      · have := (key _ h1).2
        have := (hV p hp).2 hpo
        omega
      · have := (key q hq).2
        have := (hV x (h.path.lt x hx)).1 hx
        omega
  case feas =>
    intro i j hi hj hc
    have h1 := h.feas i j hi hj hc
    by_cases hu : j ∈ ord
    · have := (hV j hj).1 hu
      have := hDp i hi
      omega
    · have h2 := (hV j hj).2 hu
      by_cases ht : InTree Q k ord i
      · have h3 := (hD i hi).1 ht
        have h4 := hmin j hj hu
        rcases ht with rfl | ⟨x, hx, hxi⟩
        · have h5 := h.low j hj hu (-1) (.inl rfl)
          rw [rowAt_neg] at h5
          have h5 := h5 hc
          omega
        · have h5 := h.low j hj hu (x : Int) (.inr ⟨x, hx, rfl⟩)
          rw [rowAt_nat, hxi, Int.toNat_natCast] at h5
          have h5 := h5 hc
          omega
      · have h3 := (hD i hi).2 ht
        omega
  case tight =>
    intro i j hj hr
    obtain ⟨h1, h2⟩ := h.tight i j hj hr
    refine ⟨h1, ?_⟩
    have hik : i < k := by
      rcases h.inv.row j hj with h3 | h3 <;> omega
    by_cases hu : j ∈ ord
    · have h3 := (hV j hj).1 hu
      have h4 := (hD i (by omega)).1 (.inr ⟨j, hu, hr⟩)
      omega
    · have h3 := (hV j hj).2 hu
      have h4 := (hD i (by omega)).2 (by
        rintro (e | ⟨x, hx, hxi⟩)
        · omega
        · have := h.inv.inj x j (h.path.lt x hx) hj (by omega) (by omega)
          subst this
          exact hu hx)
      omega
  case vneg => intro j hj; have := hVp j hj; have := h.vneg j hj; omega
  case vun =>
    intro j hj hjo
    have hju : j ∉ ord := fun hh => hjo (List.mem_cons_of_mem _ hh)
    rw [(hV j hj).2 hju]; exact h.vun j hj hju
  case late =>
    intro i hi hiS
    rw [(hD i hiS).2 (by
      rintro (e | ⟨x, hx, hxi⟩)
      · omega
      · rcases h.inv.row x (h.path.lt x hx) with h3 | h3 <;> omega)]
    exact h.late i hi hiS
  case dlo =>
    intro i hi
    have := hDp i hi
    have := h.dlo i hi
    omega
  case vlo =>
    intro j hj
    have := hVp j hj
    have := h.vlo j hj
    omega
  case low =>
    intro j hj hjo q hq hc
    have hju : j ∉ ord := fun hh => hjo (List.mem_cons_of_mem _ hh)
    have h1 := h.low j hj hju q hq hc
    obtain ⟨h2, h3⟩ := key q hq
    have h4 := (hV j hj).2 hju
    have hne : gI s j ≠ Inf := fun e => by
      have h6 := h.dlo _ h2
      have h7 := h.inv.bu _ h2
      have h8 := h.vun j hj hju
      have h9 := h.inv.bv j hj
      have h10 := (h.inv.cost.bd h2 hj hc)
      unfold Inf at e
      omega
    have h5 := (hS j hj hju).1 hne
    omega
  case att =>
    intro j hj hjo
    have hju : j ∉ ord := fun hh => hjo (List.mem_cons_of_mem _ hh)
    rcases h.att j hj hju with h1 | ⟨h1, h2, h3⟩
    · exact .inl ((hS j hj hju).2 h1)
    · by_cases hne : gI s j = Inf
      · exact .inl ((hS j hj hju).2 hne)
      · refine .inr ⟨h1, h2, ?_⟩
        have := (hS j hj hju).1 hne
        have := (key _ h1).2
        have := (hV j hj).2 hju
        omega

/-- a matching with a hole at column p -/
structure Hole (Q : Sq) (k : Nat) (D V b r : List Int) (p : Nat) (l : List Nat) : Prop where
  len : r.length = Q.size
  path : Path Q k D V b (p :: l)
  mat : ∀ x, x ∈ l → 0 ≤ gI Q.rowOf x
  same : ∀ x, x ∈ l → gI r x = gI Q.rowOf x
  row : ∀ j, j < Q.size → j ≠ p → gI r j = -1 ∨ (0 ≤ gI r j ∧ gI r j < k)
  inj : ∀ j j', j < Q.size → j' < Q.size → j ≠ p → j' ≠ p → gI r j = gI r j' → 0 ≤ gI r j → j = j'
  all : ∀ i : Nat, i < k → ∃ j, j < Q.size ∧ j ≠ p ∧ gI r j = (i : Int)
  tight : ∀ (i : Nat) j, j < Q.size → j ≠ p → gI r j = (i : Int) → Q.c i j ≠ Inf ∧ Q.c i j = gI D i + gI V j
  free : ∀ j, j < Q.size → j ≠ p → gI r j = -1 → gI V j = 0
theorem Tree.hole {Q : Sq} {R C k : Nat} {D V s b : List Int} {used : List Bool} {ord : List Nat} {T : Int → Prop} {p : Nat} (h : Tree Q R C k D V s b used (p :: ord) T) (hm : ∀ p, p ∈ ord → 0 ≤ gI Q.rowOf p) (hp : gI Q.rowOf p < 0) :
    Hole Q k D V b Q.rowOf p ord where
  len := h.inv.len.1
  path := h.path
  mat := hm
  same _ _ := rfl
  row j hj _ := h.inv.row j hj
  inj j j' h1 h2 _ _ h3 h4 := h.inv.inj j j' h1 h2 h3 h4
  all i hi := by
    obtain ⟨j, h1, h2⟩ := h.inv.all i hi
    exact ⟨j, h1, fun e => by subst e; omega, h2⟩
  tight i j hj _ hr := h.tight i j hj hr
  free j hj hne hr := by
    rw [h.vun j hj (fun hh => by
      rcases List.mem_cons.1 hh with e | hh
      · exact hne e
      · have := hm j hh; omega)]
    exact (h.inv.free j hj).2 hr
theorem Hole.step {Q : Sq} {k : Nat} {D V b r : List Int} {p : Nat} {l : List Nat} (h : Hole Q k D V b r p l) (hb : 0 ≤ gI b p) :
    ∃ p' : Nat, gI b p = (p' : Int) ∧ p' < Q.size ∧ ∃ l', l'.length < l.length ∧ Hole Q k D V b (r.set p (gI r p')) p' l' := by
  obtain ⟨h1, h2, h3, h4, h5⟩ := h.path
  rcases h3 with h3 | ⟨p', hp', e⟩
  · omega
  have hlt := h5.lt p' hp'
  obtain ⟨l', g1, g2, g3⟩ := h5.cut p' hp'
  have hne : p' ≠ p := fun e => h1 (e ▸ hp')
  have hlen := h.len
  have es : ∀ j, gI (r.set p (gI r p')) j = if j = p then gI r p' else gI r j := fun j => gI_set (by omega)
  have hs := h.same p' hp'
  have hm := h.mat p' hp'
  refine ⟨p', e, hlt, l', g2, ⟨by simpa using hlen, g1, fun x hx => h.mat x (g3 x hx), fun x hx => ?_, fun j hj hn => ?_, fun j j' hj hj' hn hn' => ?_, fun i hi => ?_, fun i j hj hn => ?_, fun j hj hn => ?_⟩⟩
  · rw [es, if_neg (show x ≠ p from fun e => h1 (e ▸ g3 x hx))]; exact h.same x (g3 x hx)
  · rw [es]
    split
    · exact h.row p' hlt hne
    · exact h.row j hj ‹_›
  · rw [es, es]
    by_cases e1 : j = p <;> by_cases e2 : j' = p
    · intros; omega
    · rw [if_pos e1, if_neg e2]
      intro h6 h7
      exact absurd (h.inj p' j' hlt hj' hne e2 h6 h7) (fun e => hn' e.symm)
    · rw [if_neg e1, if_pos e2]
      intro h6 h7
      exact absurd (h.inj j p' hj hlt e1 hne h6 h7) hn
    · rw [if_neg e1, if_neg e2]
      exact h.inj j j' hj hj' e1 e2
  · obtain ⟨j, h6, h7, h8⟩ := h.all i hi
    by_cases e1 : j = p'
    · subst e1
      exact ⟨p, h2, hne.symm, by rw [es, if_pos rfl]; exact h8⟩
    · exact ⟨j, h6, e1, by rw [es, if_neg h7]; exact h8⟩
  · rw [es]
    split
    · rename_i e1
      subst e1
      intro h6
      rw [e, rowAt_nat] at h4
      rw [hs] at h6
      rw [h6, Int.toNat_natCast] at h4
      exact h4
    · exact h.tight i j hj ‹_›
  · rw [es]
    split
    · intro h6; omega
    · exact h.free j hj ‹_›
theorem Hole.last {Q : Sq} {k : Nat} {D V b r : List Int} {p : Nat} {l : List Nat} (h : Hole Q k D V b r p l) (hb : gI b p < 0) {R C : Nat} {s : List Int} {used : List Bool} {ord : List Nat} {T : Int → Prop} {q : Nat} (t : Tree Q R C k D V s b used (q :: ord) T) (hdk : gI D k ≤ 140737488355328) :
    Inv { Q with rowOf := r.set p (k : Int), rowD := D, colD := V } R C (k + 1) := by
  obtain ⟨h1, h2, h3, h4, h5⟩ := h.path
  have hlen := h.len
  have e : gI b p = -1 := by
    rcases h3 with h3 | ⟨p', hp', e⟩
    · exact h3
    · omega
  rw [e, rowAt_neg] at h4
  have es : ∀ j, gI (r.set p (k : Int)) j = if j = p then (k : Int) else gI r j := fun j => gI_set (by omega)
  have hk := t.hk
  have hd0 : 0 ≤ gI D k := by have := t.dlo k hk; have := t.inv.late k (Nat.le_refl _) hk; omega
  constructor
  case cost => exact ⟨t.inv.cost.size, t.inv.cost.small, t.inv.cost.real, t.inv.cost.own, t.inv.cost.none, t.inv.cost.extra⟩
  case kS => exact hk
  case len => exact ⟨by simpa using hlen, t.len.1, t.len.2.1⟩
  case row =>
    intro j hj
    show gI (r.set p (k : Int)) j = -1 ∨ (0 ≤ gI (r.set p (k : Int)) j ∧ gI (r.set p (k : Int)) j < ((k + 1 : Nat) : Int))
    rw [es]
    split
    · omega
    · have := h.row j hj ‹_›; omega
  case inj =>
    intro j j' hj hj'
    show gI (r.set p (k : Int)) j = gI (r.set p (k : Int)) j' → 0 ≤ gI (r.set p (k : Int)) j → j = j'
    rw [es, es]
    by_cases e1 : j = p <;> by_cases e2 : j' = p
    · intros; omega
    · rw [if_pos e1, if_neg e2]; intro h6 h7; have := h.row j' hj' e2; omega
    · rw [if_neg e1, if_pos e2]; intro h6 h7; have := h.row j hj e1; omega
    · rw [if_neg e1, if_neg e2]; exact h.inj j j' hj hj' e1 e2
  case feas => exact fun i j hi hj hc => t.feas i j hi hj hc
  case all =>
    intro i hi
    by_cases e1 : i = k
    · subst e1
      exact ⟨p, h2, by show gI (r.set p (i : Int)) p = _; rw [es, if_pos rfl]⟩
    · obtain ⟨j, h6, h7, h8⟩ := h.all i (by omega)
      exact ⟨j, h6, by show gI (r.set p (k : Int)) j = _; rw [es, if_neg h7]; exact h8⟩
  case tight =>
    intro i j hj
    show gI (r.set p (k : Int)) j = _ → _
    rw [es]
    split
    · intro h6
      obtain rfl : k = i := by omega
      rename_i e1
      subst e1
      exact h4
    · exact h.tight i j hj ‹_›
  case free =>
    intro j hj
    refine ⟨by have := t.vneg j hj; have := (t.inv.free j hj).1; show gI V j ≤ 0; omega, ?_⟩
    show gI (r.set p (k : Int)) j = -1 → gI V j = 0
    rw [es]
    split
    · intro h6; omega
    · exact h.free j hj ‹_›
  case late => intro i hi hiS; exact t.late i (by omega) hiS
  case bu =>
    intro i hi
    have := t.dlo i hi
    have := t.inv.bu i hi
    show 0 ≤ gI D i ∧ gI D i ≤ 140737488355328 * ((k + 1 : Nat) : Int)
    omega
  case bv =>
    intro j hj
    have := t.vlo j hj
    have := t.inv.bv j hj
    show -(140737488355328 * ((k + 1 : Nat) : Int)) ≤ gI V j
    omega

theorem onto {n : Nat} {f : Nat → Nat} (h : ∀ i, i < n → f i < n) (hi : ∀ i j, i < n → j < n → f i = f j → i = j) : ∀ y, y < n → ∃ i, i < n ∧ f i = y := fun y hy => by
  refine Classical.byContradiction fun hn => ?_
  have hne : ∀ i, i < n → f i ≠ y := fun i hi e => hn ⟨i, hi, e⟩
  have := pigeon n (n - 1) (fun i => if f i = n - 1 then y else f i) (fun i hi' => by
    have h1 := h i hi'
    have h2 := hne i hi'
    show (if f i = n - 1 then y else f i) < n - 1
    split <;> omega) (fun i j h1 h2 e => by
    have h3 := hne i h1
    have h4 := hne j h2
    have h5 := h i h1
    have h6 := h j h2
    refine hi i j h1 h2 ?_
    split at e <;> split at e <;> omega)
  omega

/-- an edge that the prices allow -/
def Edge (Q : Sq) (i j : Nat) : Prop := Q.c i j ≠ Inf ∧ Q.c i j = gI Q.rowD i + gI Q.colD j
/-- every row has a column, all edges allowed -/
structure Perf (Q : Sq) (R C : Nat) : Prop where
  cost : CostOk Q R C
  len : Q.rowOf.length = Q.size ∧ Q.rowD.length = Q.size ∧ Q.colD.length = Q.size
  row : ∀ j, j < Q.size → 0 ≤ gI Q.rowOf j ∧ gI Q.rowOf j < Q.size
  inj : ∀ j j', j < Q.size → j' < Q.size → gI Q.rowOf j = gI Q.rowOf j' → j = j'
  all : ∀ i : Nat, i < Q.size → ∃ j, j < Q.size ∧ gI Q.rowOf j = (i : Int)
  tight : ∀ (i : Nat) j, j < Q.size → gI Q.rowOf j = (i : Int) → Edge Q i j
  feas : ∀ i j, i < Q.size → j < Q.size → Q.c i j ≠ Inf → gI Q.rowD i + gI Q.colD j ≤ Q.c i j
  bu : ∀ i, i < Q.size → 0 ≤ gI Q.rowD i ∧ gI Q.rowD i ≤ 18014398509481984
  bv : ∀ j, j < Q.size → -18014398509481984 ≤ gI Q.colD j ∧ gI Q.colD j ≤ 0
theorem Inv.perf {Q : Sq} {R C : Nat} (h : Inv Q R C Q.size) : Perf Q R C := by
  have hs := h.cost.size
  have hc := h.cost.small
  have hall : ∀ j, j < Q.size → 0 ≤ gI Q.rowOf j := fun j hj => by
    let f : Nat → Nat := fun i => if hi : i < Q.size then Classical.choose (h.all i hi) else 0
    have hf : ∀ i, i < Q.size → f i < Q.size ∧ gI Q.rowOf (f i) = (i : Int) := fun i hi => by
      have := Classical.choose_spec (h.all i hi)
      show (dite _ _ _ : Nat) < _ ∧ gI Q.rowOf (dite _ _ _) = _
      rw [dif_pos hi]; exact this
    obtain ⟨i, hi, e⟩ := onto (fun i hi => (hf i hi).1) (fun i i' hi hi' e => by
      have h1 := (hf i hi).2
      have h2 := (hf i' hi').2
      rw [e] at h1
      omega) j hj
    have := (hf i hi).2
    rw [e] at this
    omega
  refine ⟨h.cost, h.len, fun j hj => ?_, fun j j' hj hj' e => h.inj j j' hj hj' e (hall j hj), h.all, fun i j hj e => h.tight i j hj e, h.feas, fun i hi => ?_, fun j hj => ?_⟩
  · have := hall j hj
    rcases h.row j hj with h1 | h1 <;> omega
  · have := h.bu i hi; omega
  · have := h.bv j hj; have := (h.free j hj).1; omega
theorem Perf.tight_iff {Q : Sq} {R C i j : Nat} (h : Perf Q R C) (hi : i < Q.size) (hj : j < Q.size) : Q.tight i j = true ↔ Edge Q i j := by
  have h1 := h.bu i hi
  have h2 := h.bv j hj
  have eu : Q.u i = gI Q.rowD i := rfl
  have ev : Q.v j = gI Q.colD j := rfl
  unfold Sq.tight Edge
  rw [eu, ev, wr (by omega)]
  simp

/-- a perfect tight matching of rows to columns -/
structure Mate (Q : Sq) (g : Nat → Nat) : Prop where
  lt : ∀ a, a < Q.size → g a < Q.size
  inj : ∀ a b, a < Q.size → b < Q.size → g a = g b → a = b
  edge : ∀ a, a < Q.size → Edge Q a (g a)

/-- columns reached from 'home', the newest first -/
def Rp (Q : Sq) (i home : Nat) (t : List Int) : List Nat → Prop
  | [] => False
  | x :: L => (L = [] ∧ x = home) ∨ (x ∉ L ∧ x < Q.size ∧ x ≠ home ∧ (i : Int) < gI Q.rowOf x ∧ (∃ y, y ∈ L ∧ gI t x = (y : Int) ∧ Edge Q (gI Q.rowOf x).toNat y) ∧ Rp Q i home t L)
theorem Rp.lt {Q : Sq} {i home : Nat} {t : List Int} (hh : home < Q.size) : ∀ {L : List Nat}, Rp Q i home t L → ∀ x, x ∈ L → x < Q.size
  | [], h, _, _ => h.elim
  | x :: L, h, y, hy => by
    rcases h with ⟨rfl, rfl⟩ | ⟨h1, h2, h3, h4, h5, h6⟩
    · simp at hy; omega
    · rcases List.mem_cons.1 hy with rfl | hy
      · exact h2
      · exact Rp.lt hh h6 y hy
theorem Rp.cut {Q : Sq} {i home : Nat} {t : List Int} : ∀ {L : List Nat}, Rp Q i home t L → ∀ x, x ∈ L → ∃ L', Rp Q i home t (x :: L') ∧ L'.length < L.length ∧ ∀ y, y ∈ L' → y ∈ L
  | [], h, _, _ => h.elim
  | x :: L, h, y, hy => by
    rcases List.mem_cons.1 hy with rfl | hy
    · exact ⟨L, h, by simp, fun z hz => List.mem_cons_of_mem _ hz⟩
    · rcases h with ⟨rfl, rfl⟩ | ⟨h1, h2, h3, h4, h5, h6⟩
      · cases hy
      · obtain ⟨L', k1, k2, k3⟩ := Rp.cut h6 y hy
        exact ⟨L', k1, by simp; omega, fun z hz => List.mem_cons_of_mem _ (k3 z hz)⟩
theorem Rp.turn {Q : Sq} {i home : Nat} {t t' : List Int} : ∀ {L : List Nat}, Rp Q i home t L → (∀ x, x ∈ L → gI t' x = gI t x) → Rp Q i home t' L
  | [], h, _ => h.elim
  | x :: L, h, k => by
    rcases h with h | ⟨h1, h2, h3, h4, h5, h6⟩
    · exact .inl h
    · exact .inr ⟨h1, h2, h3, h4, by rw [k x (by simp)]; exact h5, Rp.turn h6 fun y hy => k y (List.mem_cons_of_mem _ hy)⟩

structure Bfs (Q : Sq) (i home : Nat) (t : List Int) (L qs : List Nat) (except : Nat → Nat → Prop) : Prop where
  len : t.length = Q.size
  rp : Rp Q i home t L
  mem : ∀ j, j < Q.size → (j ∈ L ↔ j = home ∨ 0 ≤ gI t j)
  base : gI t home = -1
  neg : ∀ j, j < Q.size → gI t j = -1 ∨ 0 ≤ gI t j
  sub : ∀ x, x ∈ qs → x ∈ L
  closed : ∀ x, x ∈ L → x ∉ qs → ∀ j, j < Q.size → ¬ except x j → j ≠ home → (i : Int) < gI Q.rowOf j → Edge Q (gI Q.rowOf j).toNat x → 0 ≤ gI t j
theorem Bfs.start {Q : Sq} {i home : Nat} (hh : home < Q.size) : Bfs Q i home (List.replicate Q.size (-1)) [home] [home] fun _ _ => False where
  len := by simp
  rp := .inl ⟨rfl, rfl⟩
  mem j hj := by simp [gI, hj]
  base := by simp [gI, hh]
  neg j hj := by simp [gI, hj]
  sub _ h := h
  closed x h h' := absurd h h'
/-- the head of the queue is taken -/
theorem Bfs.pop {Q : Sq} {i home : Nat} {t : List Int} {L qs : List Nat} {x : Nat} (h : Bfs Q i home t L (x :: qs) fun _ _ => False) : Bfs Q i home t L qs (fun y _ => y = x) where
  len := h.len
  rp := h.rp
  mem := h.mem
  base := h.base
  neg := h.neg
  sub y hy := h.sub y (List.mem_cons_of_mem _ hy)
  closed y hy hq j hj he := h.closed y hy (fun hh => by
    rcases List.mem_cons.1 hh with e | hh
    · exact he e
    · exact hq hh) j hj (fun h => h)
/-- column j is looked at and not reached, or was -/
theorem Bfs.skip {Q : Sq} {i home : Nat} {t : List Int} {L qs : List Nat} {x j : Nat} (h : Bfs Q i home t L qs (fun y k => y = x ∧ j ≤ k)) (hn : j = home ∨ 0 ≤ gI t j ∨ gI Q.rowOf j ≤ (i : Int) ∨ ¬ Edge Q (gI Q.rowOf j).toNat x) :
    Bfs Q i home t L qs (fun y k => y = x ∧ j + 1 ≤ k) := by
  refine { h with closed := fun y hy hq k hk he h1 h2 h3 => ?_ }
  by_cases e : k = j ∧ y = x
  · obtain ⟨rfl, rfl⟩ := e
    rcases hn with hn | hn | hn | hn
    · exact absurd hn h1
    · exact hn
    · omega
    · exact absurd h3 hn
  · refine h.closed y hy hq k hk (fun hh => he ⟨hh.1, ?_⟩) h1 h2 h3
    have : k ≠ j := fun e' => e ⟨e', hh.1⟩
    omega
theorem Bfs.push {Q : Sq} {i home : Nat} {t : List Int} {L qs : List Nat} {x j : Nat} (h : Bfs Q i home t L qs (fun y k => y = x ∧ j ≤ k)) (hx : x ∈ L) (hj : j < Q.size) (h1 : j ≠ home) (h2 : ¬ 0 ≤ gI t j) (h3 : (i : Int) < gI Q.rowOf j) (h4 : Edge Q (gI Q.rowOf j).toNat x) :
    Bfs Q i home (t.set j (x : Int)) (j :: L) (qs ++ [j]) (fun y k => y = x ∧ j + 1 ≤ k) := by
  have hlen := h.len
  have hjL : j ∉ L := fun hh => by
    rcases (h.mem j hj).1 hh with e | e
    · exact h1 e
    · exact h2 e
  have es : ∀ k, gI (t.set j (x : Int)) k = if k = j then (x : Int) else gI t k := fun k => gI_set (by omega)
  constructor
  case len => simpa using hlen
  case rp =>
    refine .inr ⟨hjL, hj, h1, h3, ⟨x, hx, by rw [es, if_pos rfl], h4⟩, h.rp.turn fun y hy => ?_⟩
    rw [es, if_neg (show y ≠ j from fun e => hjL (e ▸ hy))]
  case mem =>
    intro k hk
    rw [es, List.mem_cons, h.mem k hk]
    by_cases e : k = j
    · rw [if_pos e]; exact ⟨fun _ => .inr (by omega), fun _ => .inl e⟩
    · rw [if_neg e]; exact ⟨fun hh => hh.resolve_left e, fun hh => .inr hh⟩
  case base => rw [es, if_neg (fun e => h1 e.symm)]; exact h.base
  case neg => intro k hk; rw [es]; split
              · exact .inr (by omega)
              · exact h.neg k hk
  case sub =>
    intro y hy
    rcases List.mem_append.1 hy with hy | hy
    · exact List.mem_cons_of_mem _ (h.sub y hy)
    · simp at hy; subst hy; simp
  case closed =>
    intro y hy hq k hk he g1 g2 g3
    rw [es]
    split
    · omega
    · rename_i hkj
      rcases List.mem_cons.1 hy with rfl | hy
      · exact absurd (List.mem_append.2 (.inr (by simp))) hq
      · exact h.closed y hy (fun hh => hq (List.mem_append.2 (.inl hh))) k hk (fun hh => he ⟨hh.1, by omega⟩) g1 g2 g3

/-- where a perfect tight matching that agrees below i has row i, the search has been -/
theorem Bfs.reach {Q : Sq} {R C i home : Nat} {t : List Int} {L : List Nat} (h : Bfs Q i home t L [] fun _ _ => False) (hp : Perf Q R C) (hi : i < Q.size) (hh : home < Q.size) (hhi : gI Q.rowOf home = (i : Int)) {g : Nat → Nat} (m : Mate Q g) (ha : ∀ a : Nat, a < i → gI Q.rowOf (g a) = (a : Int)) :
    g i ∈ L := by
  refine Classical.byContradiction fun hn => ?_
  let Y : Nat → Prop := fun j => j ∉ L ∧ (i : Int) < gI Q.rowOf j
  have hsub : ∀ j, j < Q.size → j ∉ L → gI Q.rowOf j ≠ (i : Int) := fun j hj hjL e => hjL ((h.mem j hj).2 (.inl (hp.inj j home hj hh (by omega))))
  have step : ∀ j, j < Q.size → Y j → g (gI Q.rowOf j).toNat < Q.size ∧ Y (g (gI Q.rowOf j).toNat) := fun j hj hY => by
    have hr := hp.row j hj
    have hlt := m.lt (gI Q.rowOf j).toNat (by omega)
    have hed := m.edge (gI Q.rowOf j).toNat (by omega)
    have hnL : g (gI Q.rowOf j).toNat ∉ L := fun hin => by
      have := h.closed _ hin (by simp) j hj (fun hh => hh) (fun e => hY.1 ((h.mem j hj).2 (.inl e))) hY.2 hed
      exact hY.1 ((h.mem j hj).2 (.inr this))
    refine ⟨hlt, hnL, ?_⟩
    have h1 := hsub _ hlt hnL
    refine Int.not_le.1 fun hle => ?_
    have hr2 := hp.row _ hlt
    have e := ha (gI Q.rowOf (g (gI Q.rowOf j).toNat)).toNat (by omega)
    have e2 := hp.inj _ _ (m.lt (gI Q.rowOf (g (gI Q.rowOf j).toNat)).toNat (by omega)) hlt (by omega)
    have e3 := m.inj _ _ (by omega) (by omega) e2
    have := hY.2
    omega
  have hg : g i < Q.size := m.lt i hi
  have hYg : Y (g i) := by
    refine ⟨hn, ?_⟩
    have h1 := hsub _ hg hn
    refine Int.not_le.1 fun hle => ?_
    have hr2 := hp.row _ hg
    have e := ha (gI Q.rowOf (g i)).toNat (by omega)
    have e2 := hp.inj _ _ (m.lt (gI Q.rowOf (g i)).toNat (by omega)) hg (by omega)
    have e3 := m.inj _ _ (by omega) (by omega) e2
    omega
  classical
  obtain ⟨j, hj, e⟩ := onto (n := Q.size) (f := fun j => if Y j then g (gI Q.rowOf j).toNat else j) (fun j hj => by
    show (if Y j then g (gI Q.rowOf j).toNat else j) < Q.size
    split
    · exact (step j hj ‹_›).1
    · exact hj) (fun j j' hj hj' e => by
    have hr := hp.row j hj
    have hr' := hp.row j' hj'
    by_cases h1 : Y j <;> by_cases h2 : Y j'
    · rw [if_pos h1, if_pos h2] at e
      exact hp.inj j j' hj hj' (by have := m.inj _ _ (by omega) (by omega) e; omega)
    · rw [if_pos h1, if_neg h2] at e
      exact absurd (e ▸ (step j hj h1).2) h2
    · rw [if_neg h1, if_pos h2] at e
      exact absurd (e ▸ (step j' hj' h2).2) h1
    · rw [if_neg h1, if_neg h2] at e
      exact e) (g i) hg
  have hr := hp.row j hj
  by_cases h1 : Y j
  · simp only [if_pos h1] at e
    have := m.inj _ _ (by omega) hi e
    have := h1.2
    omega
  · simp only [if_neg h1] at e
    exact h1 (e ▸ hYg)

structure Disp (Q : Sq) (i home : Nat) (t r : List Int) (row : Int) (x : Nat) (L : List Nat) : Prop where
  len : r.length = Q.size
  rp : Rp Q i home t (x :: L)
  same : ∀ y, y ∈ x :: L → gI r y = gI Q.rowOf y
  row0 : 0 ≤ row ∧ row < Q.size
  edge : Edge Q row.toNat x
  rows : ∀ j, j < Q.size → j ≠ home → 0 ≤ gI r j ∧ gI r j < Q.size ∧ gI r j ≠ row
  inj : ∀ j j', j < Q.size → j' < Q.size → j ≠ home → j' ≠ home → gI r j = gI r j' → j = j'
  tight : ∀ (a : Nat) j, j < Q.size → j ≠ home → gI r j = (a : Int) → Edge Q a j
structure Moved (Q : Sq) (r r' : List Int) (x : Nat) (L : List Nat) (row : Int) : Prop where
  len : r'.length = Q.size
  rows : ∀ j, j < Q.size → 0 ≤ gI r' j ∧ gI r' j < Q.size
  inj : ∀ j j', j < Q.size → j' < Q.size → gI r' j = gI r' j' → j = j'
  tight : ∀ (a : Nat) j, j < Q.size → gI r' j = (a : Int) → Edge Q a j
  keep : ∀ j, j < Q.size → j ∉ x :: L → gI r' j = gI r j
  at_ : gI r' x = row
theorem Disp.go {Q : Sq} {R C i home : Nat} {t : List Int} (hp : Perf Q R C) (hh : home < Q.size) (htl : t.length = Q.size) (ht : gI t home = -1) :
    ∀ (n : Nat) (L : List Nat) (r : List Int) (row : Int) (x : Nat), L.length = n → Disp Q i home t r row x L → ∃ cs, Chain t (x : Int) cs ∧ Moved Q r (shiftF r row cs) x L row := by
  intro n
  induction n using Nat.strongRecOn with
  | _ n ih =>
  intro L r row x hn h
  have hlen := h.len
  have es : ∀ j, x < Q.size → gI (r.set x row) j = if j = x then row else gI r j := fun j hx => gI_set (by omega)
  rcases h.rp with ⟨rfl, rfl⟩ | ⟨h1, h2, h3, h4, ⟨y, hy, hty, he⟩, h6⟩
  · refine ⟨[x], ⟨rfl, by omega, ?_⟩, ?_⟩
    · have : (t[x]?).getD 0 = gI t x := rfl
      rw [this, ht]; show (-1 : Int) < 0; omega
    · have es := fun j => es j hh
      show Moved Q r (r.set x row) x [] row
      have hr0 := h.row0
      refine ⟨by simpa using hlen, fun j hj => ?_, fun j j' hj hj' => ?_, fun a j hj => ?_, fun j hj hn => ?_, by rw [es, if_pos rfl]⟩
      · rw [es]; split
        · exact hr0
        · have := h.rows j hj ‹_›; exact ⟨this.1, this.2.1⟩
      · rw [es, es]
        by_cases e1 : j = x <;> by_cases e2 : j' = x
        · intros; omega
        · rw [if_pos e1, if_neg e2]; intro e; exact absurd e.symm (h.rows j' hj' e2).2.2
        · rw [if_neg e1, if_pos e2]; intro e; exact absurd e (h.rows j hj e1).2.2
        · rw [if_neg e1, if_neg e2]; exact h.inj j j' hj hj' e1 e2
      · rw [es]; split
        · intro e; rename_i e1; subst e1; have := h.edge; rw [e, Int.toNat_natCast] at this; exact this
        · exact h.tight a j hj ‹_›
      · rw [es, if_neg (fun e => hn (by simp [e]))]
  · have es := fun j => es j h2
    obtain ⟨L', k1, k2, k3⟩ := h6.cut y hy
    have hrx := h.same x (by simp)
    have hrows := h.rows x h2 h3
    have hd : Disp Q i home t (r.set x row) (gI r x) y L' := by
      refine ⟨by simpa using hlen, k1, fun z hz => ?_, ⟨hrows.1, hrows.2.1⟩, by rw [hrx]; exact he, fun j hj hjh => ?_, fun j j' hj hj' e1 e2 => ?_, fun a j hj hjh => ?_⟩
      · have hzL : z ∈ L := by
          rcases List.mem_cons.1 hz with rfl | hz
          · exact hy
          · exact k3 z hz
        rw [es, if_neg (show z ≠ x from fun e => h1 (e ▸ hzL))]
        exact h.same z (List.mem_cons_of_mem _ hzL)
      · rw [es]; split
        · exact ⟨h.row0.1, h.row0.2, fun e => hrows.2.2 e.symm⟩
        · have := h.rows j hj hjh
          exact ⟨this.1, this.2.1, fun e => absurd (h.inj j x hj h2 hjh h3 e) ‹_›⟩
      · rw [es, es]
        by_cases f1 : j = x <;> by_cases f2 : j' = x
        · intros; omega
        · rw [if_pos f1, if_neg f2]; intro e; exact absurd e.symm (h.rows j' hj' e2).2.2
        · rw [if_neg f1, if_pos f2]; intro e; exact absurd e (h.rows j hj e1).2.2
        · rw [if_neg f1, if_neg f2]; exact h.inj j j' hj hj' e1 e2
      · rw [es]; split
        · intro e; rename_i e1; subst e1; have := h.edge; rw [e, Int.toNat_natCast] at this; exact this
        · exact h.tight a j hj hjh
    obtain ⟨cs, c1, c2⟩ := ih L'.length (by omega) L' _ _ y rfl hd
    refine ⟨x :: cs, ⟨rfl, by omega, ?_⟩, ?_⟩
    · have : (t[x]?).getD 0 = gI t x := rfl
      rw [this, hty]; exact c1
    · show Moved Q r (shiftF (r.set x row) (gI r x) cs) x L row
      have sub : ∀ z, z ∈ y :: L' → z ∈ L := fun z hz => by
        rcases List.mem_cons.1 hz with rfl | hz
        · exact hy
        · exact k3 z hz
      refine ⟨c2.len, c2.rows, c2.inj, c2.tight, fun j hj hn => ?_, ?_⟩
      · rw [c2.keep j hj (fun hh => hn (List.mem_cons_of_mem _ (sub j hh))), es, if_neg (fun e => hn (by simp [e]))]
      · rw [c2.keep x h2 (fun hh => h1 (sub x hh)), es, if_pos rfl]
theorem Rp.rows {Q : Sq} {i home : Nat} {t : List Int} : ∀ {L : List Nat}, Rp Q i home t L → ∀ x, x ∈ L → x = home ∨ (i : Int) < gI Q.rowOf x
  | [], h, _, _ => h.elim
  | x :: L, h, y, hy => by
    rcases h with ⟨rfl, rfl⟩ | ⟨h1, h2, h3, h4, h5, h6⟩
    · simp at hy; exact .inl hy
    · rcases List.mem_cons.1 hy with rfl | hy
      · exact .inr h4
      · exact Rp.rows h6 y hy

/-- rows below i have the first columns that they can have, in their order -/
def Lex (Q : Sq) (i : Nat) : Prop := ∀ g, Mate Q g → ∀ a : Nat, a < i → (∀ b : Nat, b < a → gI Q.rowOf (g b) = (b : Int)) → ∃ j, j < Q.size ∧ gI Q.rowOf j = (a : Int) ∧ j ≤ g a
theorem Lex.step {Q : Sq} {R C i : Nat} {r : List Int} (hi : i < Q.size) (hp : Perf Q R C) (hp' : Perf { Q with rowOf := r } R C) (keep : ∀ j, j < Q.size → gI Q.rowOf j < (i : Int) → gI r j = gI Q.rowOf j) (hl : Lex Q i)
    (new : ∀ g, Mate Q g → (∀ a : Nat, a < i → gI Q.rowOf (g a) = (a : Int)) → ∃ j, j < Q.size ∧ gI r j = (i : Int) ∧ j ≤ g i) : Lex { Q with rowOf := r } (i + 1) := by
  intro g hm a ha hb
  have m : Mate Q g := ⟨hm.lt, hm.inj, hm.edge⟩
  have hb' : ∀ b : Nat, b < a → gI Q.rowOf (g b) = (b : Int) := fun b hba => by
    obtain ⟨j, h1, h2⟩ := hp.all b (by omega)
    have h3 := keep j h1 (by omega)
    have h4 : gI r (g b) = (b : Int) := hb b hba
    have h5 := hp'.inj (g b) j (m.lt b (by omega)) h1 (by show gI r (g b) = gI r j; omega)
    rw [h5]; exact h2
  by_cases e : a = i
  · subst e; exact new g m hb'
  · obtain ⟨j, h1, h2, h3⟩ := hl g m a (by omega) hb'
    exact ⟨j, h1, by show gI r j = _; rw [keep j h1 (by omega)]; exact h2, h3⟩
/-- no column before home will do -/
theorem Bfs.stay {Q : Sq} {R C i home : Nat} {t : List Int} {L : List Nat} (h : Bfs Q i home t L [] fun _ _ => False) (hp : Perf Q R C) (hi : i < Q.size) (hh : home < Q.size) (hhi : gI Q.rowOf home = (i : Int)) (hl : Lex Q i)
    (hno : ∀ j, j < home → gI t j < 0 ∨ ¬ Edge Q i j) : Lex Q (i + 1) := by
  have := Lex.step (r := Q.rowOf) hi hp hp (fun _ _ _ => rfl) hl fun g m ha => ⟨home, hh, hhi, ?_⟩
  · exact this
  · refine Nat.le_of_not_lt fun hlt => ?_
    have h1 := h.reach hp hi hh hhi m ha
    rcases (h.mem _ (m.lt i hi)).1 h1 with e | e
    · omega
    · rcases hno _ hlt with h2 | h2
      · omega
      · exact h2 (m.edge i hi)
theorem Bfs.move {Q : Sq} {R C i home : Nat} {t : List Int} {L : List Nat} (h : Bfs Q i home t L [] fun _ _ => False) (hp : Perf Q R C) (hi : i < Q.size) (hh : home < Q.size) (hhi : gI Q.rowOf home = (i : Int)) (hl : Lex Q i)
    {j : Nat} (hj : j < home) (hjt : 0 ≤ gI t j) (hje : Edge Q i j) (hno : ∀ k, k < j → gI t k < 0 ∨ ¬ Edge Q i k) :
    ∃ cs, Chain t (j : Int) cs ∧ Perf { Q with rowOf := shiftF Q.rowOf i cs } R C ∧ Lex { Q with rowOf := shiftF Q.rowOf i cs } (i + 1) := by
  have hjS : j < Q.size := by omega
  obtain ⟨L', k1, k2, k3⟩ := h.rp.cut j ((h.mem j hjS).2 (.inr hjt))
  obtain ⟨cs, c1, c2⟩ := Disp.go hp hh h.len h.base L'.length L' Q.rowOf i j rfl ⟨hp.len.1, k1, fun _ _ => rfl, by omega, by rw [Int.toNat_natCast]; exact hje, fun k hk hkh => ⟨(hp.row k hk).1, (hp.row k hk).2, fun e => hkh (hp.inj k home hk hh (by omega))⟩, fun a b ha hb _ _ e => hp.inj a b ha hb e, fun a k hk _ e => hp.tight a k hk e⟩
  have hp' : Perf { Q with rowOf := shiftF Q.rowOf i cs } R C := by
    refine ⟨⟨hp.cost.size, hp.cost.small, hp.cost.real, hp.cost.own, hp.cost.none, hp.cost.extra⟩, ⟨c2.len, hp.len.2⟩, c2.rows, c2.inj, fun a ha => ?_, c2.tight, hp.feas, hp.bu, hp.bv⟩
    obtain ⟨k, hk, e⟩ := onto (n := Q.size) (f := fun k => (gI (shiftF Q.rowOf i cs) k).toNat) (fun k hk => by have := c2.rows k hk; show (gI _ k).toNat < _; omega) (fun k k' hk hk' e => c2.inj k k' hk hk' (by
      have h1 := c2.rows k hk
      have h2 := c2.rows k' hk'
      have e : (gI (shiftF Q.rowOf i cs) k).toNat = (gI (shiftF Q.rowOf i cs) k').toNat := e
      omega)) a ha
    have h1 := c2.rows k hk
    have e : (gI (shiftF Q.rowOf i cs) k).toNat = a := e
    exact ⟨k, hk, by show gI (shiftF Q.rowOf i cs) k = _; omega⟩
  refine ⟨cs, c1, hp', Lex.step hi hp hp' (fun k hk hki => c2.keep k hk fun hin => ?_) hl fun g m ha => ⟨j, hjS, c2.at_, ?_⟩⟩
  · rcases k1.rows k hin with e | e
    · subst e; omega
    · omega
  · refine Nat.le_of_not_lt fun hlt => ?_
    have h1 := h.reach hp hi hh hhi m ha
    rcases (h.mem _ (m.lt i hi)).1 h1 with e | e
    · omega
    · rcases hno _ hlt with h2 | h2
      · omega
      · exact h2 (m.edge i hi)

/-! ### sums, and one-to-one maps that are made whole -/
def sumN (n : Nat) (f : Nat → Int) : Int := match n with
  | 0 => 0
  | n + 1 => sumN n f + f n
theorem sumN_congr {f g : Nat → Int} : ∀ {n : Nat}, (∀ i, i < n → f i = g i) → sumN n f = sumN n g
  | 0, _ => rfl
  | n + 1, h => by rw [sumN, sumN, sumN_congr fun i hi => h i (by omega), h n (by omega)]
theorem sumN_le {f g : Nat → Int} : ∀ {n : Nat}, (∀ i, i < n → f i ≤ g i) → sumN n f ≤ sumN n g
  | 0, _ => Int.le_refl _
  | n + 1, h => by have := sumN_le (n := n) fun i hi => h i (by omega); have := h n (by omega); rw [sumN, sumN]; omega
theorem sumN_eq {f g : Nat → Int} : ∀ {n : Nat}, (∀ i, i < n → f i ≤ g i) → sumN n f = sumN n g → ∀ i, i < n → f i = g i
  | 0, _, _, i, hi => by omega
  | n + 1, h, e, i, hi => by
    have h1 := sumN_le (n := n) fun i hi => h i (by omega)
    have h2 := h n (by omega)
    rw [sumN, sumN] at e
    by_cases hn : i = n
    · subst hn; omega
    · exact sumN_eq (n := n) (fun i hi => h i (by omega)) (by omega) i (by omega)
theorem sumN_add (f g : Nat → Int) : ∀ n : Nat, sumN n (fun i => f i + g i) = sumN n f + sumN n g
  | 0 => rfl
  | n + 1 => by rw [sumN, sumN, sumN, sumN_add f g n]; omega
theorem sumN_put (f : Nat → Int) (p : Nat) (x : Int) : ∀ n : Nat, sumN n (fun i => if i = p then x else f i) = if p < n then sumN n f - f p + x else sumN n f
  | 0 => rfl
  | n + 1 => by
    rw [sumN, sumN_put f p x n, sumN]
    by_cases h1 : n = p
    · subst h1; rw [if_neg (by omega), if_pos rfl, if_pos (by omega)]; omega
    · rw [if_neg h1]
      by_cases h2 : p < n
      · rw [if_pos h2, if_pos (by omega)]; omega
      · rw [if_neg h2, if_neg (by omega)]
theorem sumN_perm (f : Nat → Int) : ∀ (n : Nat) (g : Nat → Nat), (∀ i, i < n → g i < n) → (∀ i j, i < n → j < n → g i = g j → i = j) → sumN n (fun i => f (g i)) = sumN n f
  | 0, _, _, _ => rfl
  | n + 1, g, h, hi => by
    by_cases e : g n = n
    · rw [sumN, sumN, e, sumN_perm f n g (fun i hin => by
        have := h i (by omega)
        have : g i ≠ n := fun e' => by have := hi i n (by omega) (by omega) (by omega); omega
        omega) fun i j h1 h2 e => hi i j (by omega) (by omega) e]
    · obtain ⟨p, hp, hpe⟩ := onto h hi n (by omega)
      have hpn : p ≠ n := fun e' => e (e' ▸ hpe)
      have hgn := h n (by omega)
      have key := sumN_perm f n (fun i => if i = p then g n else g i) (fun i hin => by
        show (if i = p then g n else g i) < n
        split
        · omega
        · have := h i (by omega)
          have : g i ≠ n := fun e' => by have := hi i p (by omega) (by omega) (by omega); omega
          omega) (fun i j h1 h2 e => by
        split at e <;> split at e
        · omega
        · exact absurd (hi n j (by omega) (by omega) e) (by omega)
        · exact absurd (hi i n (by omega) (by omega) e) (by omega)
        · exact hi i j (by omega) (by omega) e)
      have e2 : sumN n (fun i => f (if i = p then g n else g i)) = sumN n (fun i => if i = p then f (g n) else f (g i)) := sumN_congr fun i _ => by split <;> rfl
      rw [e2, sumN_put (fun i => f (g i)) p (f (g n)) n, if_pos (by omega)] at key
      rw [hpe] at key
      rw [sumN, sumN]
      omega
theorem missed {n m : Nat} {f : Nat → Nat} (hnm : n < m) : ∃ y, y < m ∧ ∀ i, i < n → f i ≠ y := by
  refine Classical.byContradiction fun hn => ?_
  have hall : ∀ y, y < m → ∃ i, i < n ∧ f i = y := fun y hy => Classical.byContradiction fun hh => hn ⟨y, hy, fun i hi e => hh ⟨i, hi, e⟩⟩
  let k : Nat → Nat := fun y => if h : y < m then Classical.choose (hall y h) else 0
  have hk : ∀ y, y < m → k y < n ∧ f (k y) = y := fun y hy => by
    have := Classical.choose_spec (hall y hy)
    show (dite _ _ _ : Nat) < _ ∧ f (dite _ _ _) = _
    rw [dif_pos hy]; exact this
  have := pigeon m n k (fun y hy => (hk y hy).1) (fun y z hy hz e => by
    have h1 := (hk y hy).2
    have h2 := (hk z hz).2
    rw [e] at h1
    omega)
  omega
theorem extend : ∀ (d n m : Nat) (f : Nat → Nat), m = n + d → (∀ i, i < n → f i < m) → (∀ i j, i < n → j < n → f i = f j → i = j) →
    ∃ g : Nat → Nat, (∀ i, i < n → g i = f i) ∧ (∀ i, i < m → g i < m) ∧ ∀ i j, i < m → j < m → g i = g j → i = j
  | 0, n, m, f, e, h, hi => ⟨f, fun _ _ => rfl, fun i him => h i (by omega), fun i j h1 h2 => hi i j (by omega) (by omega)⟩
  | d + 1, n, m, f, e, h, hi => by
    obtain ⟨y, hy, hne⟩ := missed (n := n) (m := m) (f := f) (by omega)
    obtain ⟨g, g1, g2, g3⟩ := extend d (n + 1) m (fun i => if i = n then y else f i) (by omega) (fun i hin => by
      show (if i = n then y else f i) < m
      split
      · exact hy
      · exact h i (by omega)) (fun i j h1 h2 e => by
      split at e <;> split at e
      · omega
      · exact absurd e.symm (hne j (by omega))
      · exact absurd e (hne i (by omega))
      · exact hi i j (by omega) (by omega) e)
    refine ⟨g, fun i hin => ?_, g2, g3⟩
    rw [g1 i (by omega), if_neg (by omega)]

/-! ### assignments -/
/-- an assignment of a matrix -/
structure Valid (rows : List (List Int)) (C : Nat) (m : List Int) : Prop where
  len : m.length = rows.length
  ok : ∀ i, i < rows.length → gm m i = -1 ∨ (0 ≤ gm m i ∧ gm m i < C ∧ at2 rows i (gm m i) ≠ Inf)
  ne : ∀ i k, i < rows.length → k < rows.length → gm m i ≠ -1 → gm m k = gm m i → k = i
/-- m is before m' -/
def Ahead (m m' : List Int) : Prop := ∃ a, a < m.length ∧ (∀ b, b < a → gm m b = gm m' b) ∧ gm m a ≠ gm m' a ∧ gm m a ≠ -1 ∧ (gm m' a = -1 ∨ gm m a < gm m' a)
structure Best (rows : List (List Int)) (C : Nat) (m : List Int) : Prop where
  valid : Valid rows C m
  most : ∀ m', Valid rows C m' → cnt m' rows.length ≤ cnt m rows.length
  least : ∀ m', Valid rows C m' → cnt m' rows.length = cnt m rows.length → tot rows m rows.length ≤ tot rows m' rows.length
  first : ∀ m', Valid rows C m' → cnt m' rows.length = cnt m rows.length → tot rows m rows.length = tot rows m' rows.length → m' = m ∨ Ahead m m'

/-- the column of a row in the square -/
def sig (m : List Int) (C i : Nat) : Nat := if gm m i = -1 then C + i else (gm m i).toNat
theorem Valid.sig_inj {rows : List (List Int)} {C : Nat} {m : List Int} (h : Valid rows C m) : ∀ i j, i < rows.length → j < rows.length → sig m C i = sig m C j → i = j := fun i j hi hj e => by
  have h1 := h.ok i hi
  have h2 := h.ok j hj
  unfold sig at e
  split at e <;> split at e
  · omega
  · omega
  · omega
  · rename_i h3 h4
    exact h.ne j i hj hi h4 (by omega)
theorem Valid.sum {rows : List (List Int)} {C : Nat} {m : List Int} {Q : Sq} (h : Valid rows C m) (ho : CostOk Q rows.length C) (hc : ∀ i j, i < rows.length → j < C → Q.c i j = at2 rows i (j : Int)) :
    ∀ n, n ≤ rows.length → sumN n (fun i => Q.c i (sig m C i)) = tot rows m n + 140737488355328 * ((n : Int) - cnt m n)
  | 0, _ => by simp [sumN, tot, cnt]
  | n + 1, hn => by
    rw [sumN, Valid.sum h ho hc n (by omega), tot, cnt]
    unfold sig
    rcases h.ok n (by omega) with e | ⟨h1, h2, h3⟩
    · rw [if_pos e, if_pos e, if_pos e, ho.own n (by omega)]; omega
    · rw [if_neg (by omega), if_neg (by omega), if_neg (by omega), hc n _ (by omega) (by omega), Int.toNat_of_nonneg h1]; omega
theorem Valid.fin {rows : List (List Int)} {C : Nat} {m : List Int} {Q : Sq} (h : Valid rows C m) (ho : CostOk Q rows.length C) (hc : ∀ i j, i < rows.length → j < C → Q.c i j = at2 rows i (j : Int)) {i : Nat} (hi : i < rows.length) :
    sig m C i < Q.size ∧ Q.c i (sig m C i) ≠ Inf := by
  have hs := ho.size
  unfold sig
  rcases h.ok i hi with e | ⟨h1, h2, h3⟩
  · rw [if_pos e, ho.own i hi]; exact ⟨by omega, by unfold Inf; omega⟩
  · rw [if_neg (by omega), hc i _ hi (by omega), Int.toNat_of_nonneg h1]; exact ⟨by omega, h3⟩
theorem Valid.tot_bd {rows : List (List Int)} {C : Nat} {m : List Int} {Q : Sq} (h : Valid rows C m) (ho : CostOk Q rows.length C) (hc : ∀ i j, i < rows.length → j < C → Q.c i j = at2 rows i (j : Int)) :
    ∀ n, n ≤ rows.length → 0 ≤ tot rows m n ∧ tot rows m n ≤ 1099511627776 * n
  | 0, _ => by simp [tot]
  | n + 1, hn => by
    have := Valid.tot_bd h ho hc n (by omega)
    rw [tot]
    rcases h.ok n (by omega) with e | ⟨h1, h2, h3⟩
    · rw [if_pos e]; omega
    · rw [if_neg (by omega)]
      have h4 := hc n (gm m n).toNat (by omega) (by omega)
      rw [Int.toNat_of_nonneg h1] at h4
      have := ho.real n (gm m n).toNat (by omega) (by omega)
      omega
theorem sumN_extra {f : Nat → Int} {R : Nat} : ∀ d, (∀ i, R ≤ i → i < R + d → f i = 0) → sumN (R + d) f = sumN R f
  | 0, _ => rfl
  | d + 1, h => by rw [← Nat.add_assoc, sumN, sumN_extra d fun i h1 h2 => h i h1 (by omega), h (R + d) (by omega) (by omega)]; omega
/-- made whole: a matching of all rows of the square, of the same cost -/
theorem Valid.whole {rows : List (List Int)} {C : Nat} {m : List Int} {Q : Sq} (h : Valid rows C m) (ho : CostOk Q rows.length C) (hc : ∀ i j, i < rows.length → j < C → Q.c i j = at2 rows i (j : Int)) :
    ∃ g : Nat → Nat, (∀ i, i < rows.length → g i = sig m C i) ∧ (∀ i, i < Q.size → g i < Q.size ∧ Q.c i (g i) ≠ Inf) ∧ (∀ i j, i < Q.size → j < Q.size → g i = g j → i = j) ∧
      sumN Q.size (fun i => Q.c i (g i)) = tot rows m rows.length + 140737488355328 * ((rows.length : Int) - cnt m rows.length) := by
  have hs := ho.size
  obtain ⟨g, g1, g2, g3⟩ := extend C rows.length Q.size (sig m C) hs (fun i hi => (h.fin ho hc hi).1) h.sig_inj
  refine ⟨g, g1, fun i hi => ⟨g2 i hi, ?_⟩, g3, ?_⟩
  · by_cases hr : i < rows.length
    · rw [g1 i hr]; exact (h.fin ho hc hr).2
    · have := g2 i hi
      rw [ho.extra i _ (by omega) (by omega) (by omega)]; unfold Inf; omega
  · rw [hs, sumN_extra C fun i h1 h2 => ho.extra i _ h1 h2 (by have := g2 i (by omega); omega), ← h.sum ho hc rows.length (Nat.le_refl _)]
    exact sumN_congr fun i hi => by rw [g1 i hi]
theorem gm_ext {m m' : List Int} (hl : m'.length = m.length) (h : ∀ i, i < m.length → gm m' i = gm m i) : m' = m := by
  refine List.ext_getElem hl fun i h1 h2 => ?_
  have := h i h2
  unfold gm at this
  rw [List.getElem?_eq_getElem h1, List.getElem?_eq_getElem h2] at this
  exact this
theorem first_diff (p : Nat → Prop) : ∀ n, (∀ i, i < n → p i) ∨ ∃ a, a < n ∧ ¬ p a ∧ ∀ b, b < a → p b
  | 0 => .inl fun i hi => by omega
  | n + 1 => by
    rcases first_diff p n with h | ⟨a, h1, h2, h3⟩
    · by_cases hn : p n
      · refine .inl fun i hi => ?_
        by_cases e : i = n
        · subst e; exact hn
        · exact h i (by omega)
      · exact .inr ⟨n, by omega, hn, h⟩
    · exact .inr ⟨a, by omega, h2, h3⟩
/-- what solve reads off the square -/
def Reads (Q : Sq) (R C : Nat) (m : List Int) : Prop := m.length = R ∧ ∀ i : Nat, i < R → ∃ j, j < Q.size ∧ gI Q.rowOf j = (i : Int) ∧ gm m i = if j < C then (j : Int) else -1
theorem Perf.best {rows : List (List Int)} {C : Nat} {m : List Int} {Q : Sq} (hp : Perf Q rows.length C) (hl : Lex Q rows.length) (hc : ∀ i j, i < rows.length → j < C → Q.c i j = at2 rows i (j : Int)) (hm : Reads Q rows.length C m) : Best rows C m := by
  have hs := hp.cost.size
  have hsm := hp.cost.small
  have ho := hp.cost
  have hcol : ∀ i : Nat, i < rows.length → ∀ j, j < Q.size → gI Q.rowOf j = (i : Int) → sig m C i = j := fun i hi j hj e => by
    obtain ⟨j', h1, h2, h3⟩ := hm.2 i hi
    obtain rfl := hp.inj j j' hj h1 (by omega)
    have ht := hp.tight i j hj e
    unfold sig
    rw [h3]
    by_cases hjc : j < C
    · rw [if_pos hjc, if_neg (by omega)]; omega
    · rw [if_neg hjc, if_pos rfl]
      refine Classical.byContradiction fun hne => ht.1 (ho.none i j hi (by omega) (by omega) fun e => hne e.symm)
  have hv : Valid rows C m := by
    refine ⟨hm.1, fun i hi => ?_, fun i k hi hk h1 h2 => ?_⟩
    · obtain ⟨j, h1, h2, h3⟩ := hm.2 i hi
      have ht := hp.tight i j h1 h2
      by_cases hjc : j < C
      · rw [if_pos hjc] at h3
        rw [h3, ← hc i j hi hjc]
        exact .inr ⟨by omega, by omega, ht.1⟩
      · rw [if_neg hjc] at h3; exact .inl h3
    · obtain ⟨j, g1, g2, g3⟩ := hm.2 i hi
      obtain ⟨j', k1, k2, k3⟩ := hm.2 k hk
      have : j = j' := by
        by_cases h4 : j < C <;> by_cases h5 : j' < C
        · rw [if_pos h4] at g3; rw [if_pos h5] at k3; omega
        · rw [if_pos h4] at g3; rw [if_neg h5] at k3; omega
        · rw [if_neg h4] at g3; omega
        · rw [if_neg h4] at g3; omega
      subst this
      omega
  -- our own sum
  have hmine : tot rows m rows.length + 140737488355328 * ((rows.length : Int) - cnt m rows.length) = sumN Q.size (fun i => gI Q.rowD i) + sumN Q.size (fun i => gI Q.colD i) := by
    let g0 : Nat → Nat := fun i => if h : i < Q.size then Classical.choose (hp.all i h) else 0
    have hg : ∀ i, i < Q.size → g0 i < Q.size ∧ gI Q.rowOf (g0 i) = (i : Int) := fun i hi => by
      have := Classical.choose_spec (hp.all i hi)
      show (dite _ _ _ : Nat) < _ ∧ gI Q.rowOf (dite _ _ _) = _
      rw [dif_pos hi]; exact this
    have hinj : ∀ i j, i < Q.size → j < Q.size → g0 i = g0 j → i = j := fun i j hi hj e => by
      have h1 := (hg i hi).2
      have h2 := (hg j hj).2
      rw [e] at h1
      omega
    rw [← hv.sum ho hc rows.length (Nat.le_refl _), ← sumN_perm (fun i => gI Q.colD i) Q.size g0 (fun i hi => (hg i hi).1) hinj, ← sumN_add]
    have e1 : sumN Q.size (fun i => gI Q.rowD i + gI Q.colD (g0 i)) = sumN Q.size (fun i => Q.c i (g0 i)) := sumN_congr fun i hi => (hp.tight i _ (hg i hi).1 (hg i hi).2).2.symm
    rw [e1]
    rw [show sumN Q.size (fun i => Q.c i (g0 i)) = sumN rows.length (fun i => Q.c i (g0 i)) by rw [hs]; exact sumN_extra C fun i h1 h2 => ho.extra i _ h1 h2 (by have := (hg i (by omega)).1; omega)]
    exact sumN_congr fun i hi => by rw [hcol i hi _ (hg i (by omega)).1 (hg i (by omega)).2]
  have key : ∀ m', Valid rows C m' → tot rows m rows.length + 140737488355328 * ((rows.length : Int) - cnt m rows.length) ≤ tot rows m' rows.length + 140737488355328 * ((rows.length : Int) - cnt m' rows.length) ∧
      (tot rows m rows.length + 140737488355328 * ((rows.length : Int) - cnt m rows.length) = tot rows m' rows.length + 140737488355328 * ((rows.length : Int) - cnt m' rows.length) → ∃ g, Mate Q g ∧ ∀ i, i < rows.length → g i = sig m' C i) := fun m' hv' => by
    obtain ⟨g, g1, g2, g3, g4⟩ := hv'.whole ho hc
    have hle : ∀ i, i < Q.size → gI Q.rowD i + gI Q.colD (g i) ≤ Q.c i (g i) := fun i hi => hp.feas i _ hi (g2 i hi).1 (g2 i hi).2
    have e1 : sumN Q.size (fun i => gI Q.rowD i + gI Q.colD (g i)) = sumN Q.size (fun i => gI Q.rowD i) + sumN Q.size (fun i => gI Q.colD i) := by
      rw [sumN_add, sumN_perm (fun i => gI Q.colD i) Q.size g (fun i hi => (g2 i hi).1) g3]
    rw [hmine, ← g4, ← e1]
    exact ⟨sumN_le hle, fun e => ⟨g, ⟨fun i hi => (g2 i hi).1, g3, fun i hi => ⟨(g2 i hi).2, (sumN_eq hle e i hi).symm⟩⟩, g1⟩⟩
  have bd := hv.tot_bd ho hc rows.length (Nat.le_refl _)
  refine ⟨hv, fun m' hv' => ?_, fun m' hv' e => ?_, fun m' hv' e1 e2 => ?_⟩
  · have := (key m' hv').1
    have := hv'.tot_bd ho hc rows.length (Nat.le_refl _)
    omega
  · have := (key m' hv').1
    omega
  · obtain ⟨g, hg, hgs⟩ := (key m' hv').2 (by omega)
    rcases first_diff (fun i => gm m' i = gm m i) rows.length with h | ⟨a, h1, h2, h3⟩
    · refine .inl (gm_ext (hv'.len.trans hv.len.symm) fun i hi => h i (by have := hv.len; omega))
    · refine .inr ⟨a, by have := hv.len; omega, fun b hb => (h3 b hb).symm, fun e => h2 e.symm, ?_⟩
      have hsame : ∀ b : Nat, b < a → gI Q.rowOf (g b) = (b : Int) := fun b hb => by
        obtain ⟨j, k1, k2⟩ := hp.all b (by omega)
        have := hcol b (by omega) j k1 k2
        rw [hgs b (by omega)]
        have e : sig m' C b = sig m C b := by unfold sig; rw [h3 b hb]
        rw [e, this]; exact k2
      obtain ⟨j, k1, k2, k3⟩ := hl g hg a h1 hsame
      have hj := hcol a h1 j k1 k2
      rw [hgs a h1] at k3
      have ok1 := hv.ok a h1
      have ok2 := hv'.ok a h1
      unfold sig at hj k3
      split at hj <;> split at k3 <;> omega

/-- what an assignment costs, each row without a column at its price -/
def big (rows : List (List Int)) (m : List Int) : Int := tot rows m rows.length + 140737488355328 * ((rows.length : Int) - cnt m rows.length)
/-- a square with prices that come to K -/
def Opt (rows : List (List Int)) (C : Nat) (K : Int) : Prop :=
  ∃ Q, Perf Q rows.length C ∧ (∀ i j, i < rows.length → j < C → Q.c i j = at2 rows i (j : Int)) ∧ sumN Q.size (fun i => gI Q.rowD i) + sumN Q.size (fun i => gI Q.colD i) = K
theorem Perf.total {rows : List (List Int)} {C : Nat} {m : List Int} {Q : Sq} (hp : Perf Q rows.length C) (hv : Valid rows C m) (hc : ∀ i j, i < rows.length → j < C → Q.c i j = at2 rows i (j : Int)) (hm : Reads Q rows.length C m) : Opt rows C (big rows m) := by
  refine ⟨Q, hp, hc, ?_⟩
  have hs := hp.cost.size
  have ho := hp.cost
  have hcol : ∀ i : Nat, i < rows.length → ∀ j, j < Q.size → gI Q.rowOf j = (i : Int) → sig m C i = j := fun i hi j hj e => by
    obtain ⟨j', h1, h2, h3⟩ := hm.2 i hi
    obtain rfl := hp.inj j j' hj h1 (by omega)
    have ht := hp.tight i j hj e
    unfold sig
    rw [h3]
    by_cases hjc : j < C
    · rw [if_pos hjc, if_neg (by omega)]; omega
    · rw [if_neg hjc, if_pos rfl]
      refine Classical.byContradiction fun hne => ht.1 (ho.none i j hi (by omega) (by omega) fun e => hne e.symm)
  let g0 : Nat → Nat := fun i => if h : i < Q.size then Classical.choose (hp.all i h) else 0
  have hg : ∀ i, i < Q.size → g0 i < Q.size ∧ gI Q.rowOf (g0 i) = (i : Int) := fun i hi => by
    have := Classical.choose_spec (hp.all i hi)
    show (dite _ _ _ : Nat) < _ ∧ gI Q.rowOf (dite _ _ _) = _
    rw [dif_pos hi]; exact this
  have hinj : ∀ i j, i < Q.size → j < Q.size → g0 i = g0 j → i = j := fun i j hi hj e => by
    have h1 := (hg i hi).2
    have h2 := (hg j hj).2
    rw [e] at h1
    omega
  unfold big
  rw [← hv.sum ho hc rows.length (Nat.le_refl _), ← sumN_perm (fun i => gI Q.colD i) Q.size g0 (fun i hi => (hg i hi).1) hinj, ← sumN_add]
  have e1 : sumN Q.size (fun i => gI Q.rowD i + gI Q.colD (g0 i)) = sumN Q.size (fun i => Q.c i (g0 i)) := sumN_congr fun i hi => (hp.tight i _ (hg i hi).1 (hg i hi).2).2.symm
  rw [e1]
  rw [show sumN Q.size (fun i => Q.c i (g0 i)) = sumN rows.length (fun i => Q.c i (g0 i)) by rw [hs]; exact sumN_extra C fun i h1 h2 => ho.extra i _ h1 h2 (by have := (hg i (by omega)).1; omega)]
  exact sumN_congr fun i hi => by rw [hcol i hi _ (hg i (by omega)).1 (hg i (by omega)).2]
theorem Opt.mate {rows : List (List Int)} {C : Nat} {m : List Int} (h : Opt rows C (big rows m)) (hv : Valid rows C m) :
    ∃ Q g, Perf Q rows.length C ∧ (∀ i j, i < rows.length → j < C → Q.c i j = at2 rows i (j : Int)) ∧ Mate Q g ∧ ∀ i, i < rows.length → g i = sig m C i := by
  obtain ⟨Q, hp, hc, hK⟩ := h
  obtain ⟨g, g1, g2, g3, g4⟩ := hv.whole hp.cost hc
  have hle : ∀ i, i < Q.size → gI Q.rowD i + gI Q.colD (g i) ≤ Q.c i (g i) := fun i hi => hp.feas i _ hi (g2 i hi).1 (g2 i hi).2
  have e1 : sumN Q.size (fun i => gI Q.rowD i + gI Q.colD (g i)) = sumN Q.size (fun i => gI Q.rowD i) + sumN Q.size (fun i => gI Q.colD i) := by
    rw [sumN_add, sumN_perm (fun i => gI Q.colD i) Q.size g (fun i hi => (g2 i hi).1) g3]
  have e2 : sumN Q.size (fun i => gI Q.rowD i + gI Q.colD (g i)) = sumN Q.size (fun i => Q.c i (g i)) := by
    rw [e1, hK, g4]; rfl
  exact ⟨Q, g, hp, hc, ⟨fun i hi => (g2 i hi).1, g3, fun i hi => ⟨(g2 i hi).2, (sumN_eq hle e2 i hi).symm⟩⟩, g1⟩

structure DualAt (rows : List (List Int)) (C : Nat) (m : List Int) (M : Int) (u v : Nat → Int) : Prop where
  feas : ∀ i j, i < rows.length → j < C → at2 rows i (j : Int) ≠ Inf → u i + v j ≤ at2 rows i (j : Int)
  tight : ∀ i j, i < rows.length → gm m i = ((j : Nat) : Int) → u i + v j = at2 rows i (j : Int)
  un : ∀ i, i < rows.length → gm m i = -1 → u i = M
  ule : ∀ i, i < rows.length → u i ≤ M
  vneg : ∀ j, j < C → v j ≤ 0
  free : ∀ j, j < C → (∀ i, i < rows.length → gm m i ≠ (j : Int)) → v j = 0
theorem Opt.dual0 {rows : List (List Int)} {C : Nat} {m : List Int} (h : Opt rows C (big rows m)) (hv : Valid rows C m) : ∃ u v, DualAt rows C m 140737488355328 u v := by
  obtain ⟨Q, g, hp, hc, hM, hg⟩ := h.mate hv
  have ho := hp.cost
  have hs := ho.size
  rcases Nat.eq_zero_or_pos C with h0 | h0
  · subst h0
    have all : ∀ i, i < rows.length → gm m i = -1 := fun i hi => by
      rcases hv.ok i hi with h | h
      · exact h
      · omega
    exact ⟨fun _ => 140737488355328, fun _ => 0, fun i j hi hj => by omega, fun i j hi e => by rw [all i hi] at e; omega, fun i _ _ => rfl, fun i _ => Int.le_refl _, fun j hj => by omega, fun j hj => by omega⟩
  · have hsurj := onto hM.lt hM.inj
    -- the extra rows' columns are the dearest
    have ex : ∀ r, rows.length ≤ r → r < Q.size → gI Q.rowD r + gI Q.colD (g r) = 0 ∧ ∀ j, j < Q.size → gI Q.rowD r + gI Q.colD j ≤ 0 := fun r h1 h2 => by
      have e := (hM.edge r h2).2
      have hz := ho.extra r (g r) h1 (by omega) (by have := hM.lt r h2; omega)
      refine ⟨by omega, fun j hj => ?_⟩
      have hz2 := ho.extra r j h1 (by omega) (by omega)
      have := hp.feas r j h2 hj (by rw [hz2]; unfold Inf; omega)
      omega
    obtain ⟨Vm, hVm⟩ : ∃ x, x = gI Q.colD (g rows.length) := ⟨_, rfl⟩
    have hR : rows.length < Q.size := by omega
    have top : ∀ j, j < Q.size → gI Q.colD j ≤ Vm := fun j hj => by
      have := ex rows.length (Nat.le_refl _) hR
      have := this.2 j hj
      omega
    have same : ∀ r, rows.length ≤ r → r < Q.size → gI Q.colD (g r) = Vm := fun r h1 h2 => by
      have k1 := ex r h1 h2
      have k2 := k1.2 (g rows.length) (hM.lt _ hR)
      have k3 := top (g r) (hM.lt r h2)
      omega
    have sigE : ∀ i j, i < rows.length → gm m i = ((j : Nat) : Int) → g i = j ∧ j < C := fun i j hi e => by
      rw [hg i hi]
      unfold sig
      have := hv.ok i hi
      rw [if_neg (by omega)]
      omega
    have sigN : ∀ i, i < rows.length → gm m i = -1 → g i = C + i := fun i hi e => by
      rw [hg i hi]
      unfold sig
      rw [if_pos e]
    refine ⟨fun i => if gm m i = -1 then 140737488355328 else gI Q.rowD i + Vm, fun j => gI Q.colD j - Vm, fun i j hi hj hf => ?_, fun i j hi e => ?_, fun i hi e => by rw [if_pos e], fun i hi => ?_, fun j hj => by have := top j (by omega); omega, fun j hj hn => ?_⟩
    · have hf' := hp.feas i j (by omega) (by omega) (by rw [hc i j hi hj]; exact hf)
      rw [hc i j hi hj] at hf'
      by_cases e : gm m i = -1
      · rw [if_pos e]
        have he := (hM.edge i (by omega)).2
        rw [sigN i hi e, ho.own i hi] at he
        have := top (C + i) (by omega)
        omega
      · rw [if_neg e]; omega
    · have ⟨e1, e2⟩ := sigE i j hi e
      rw [if_neg (by omega)]
      have he := (hM.edge i (by omega)).2
      rw [e1, hc i j hi e2] at he
      omega
    · by_cases e : gm m i = -1
      · rw [if_pos e]; exact Int.le_refl _
      · rw [if_neg e]
        obtain ⟨r, hr, er⟩ := hsurj (C + i) (by omega)
        have hrx : rows.length ≤ r := by
          refine Nat.le_of_not_lt fun hlt => ?_
          rcases hv.ok r hlt with k | ⟨k1, k2, -⟩
          · have := sigN r hlt k
            have : r = i := by omega
            subst this
            exact e k
          · obtain ⟨j, hj⟩ : ∃ j : Nat, gm m r = (j : Int) := ⟨(gm m r).toNat, by omega⟩
            have := (sigE r j hlt hj)
            omega
        have hV := same r hrx hr
        rw [er] at hV
        have hf := hp.feas i (C + i) (by omega) (by omega) (by rw [ho.own i hi]; unfold Inf; omega)
        rw [ho.own i hi] at hf
        omega
    · obtain ⟨r, hr, er⟩ := hsurj j (by omega)
      have hrx : rows.length ≤ r := by
        refine Nat.le_of_not_lt fun hlt => ?_
        rcases hv.ok r hlt with k | ⟨k1, k2, -⟩
        · have := sigN r hlt k; omega
        · obtain ⟨j', hj⟩ : ∃ j' : Nat, gm m r = (j' : Int) := ⟨(gm m r).toNat, by omega⟩
          have := (sigE r j' hlt hj)
          exact hn r hlt (by rw [hj]; omega)
      have hV := same r hrx hr
      rw [er] at hV
      omega

/-! ### rows that could be without a column as well -/
inductive Short (rows : List (List Int)) (C : Nat) (m : List Int) : Nat → Prop
  | un (i : Nat) : i < rows.length → gm m i = -1 → Short rows C m i
  | step (i j k : Nat) : Short rows C m i → j < C → at2 rows i (j : Int) ≠ Inf → k < rows.length → gm m k = (j : Int) → Short rows C m k
theorem Short.lt {rows : List (List Int)} {C : Nat} {m : List Int} {i : Nat} (h : Short rows C m i) : i < rows.length := by
  cases h with
  | un => assumption
  | step => assumption
def cntN (p : Nat → Bool) : Nat → Nat
  | 0 => 0
  | n + 1 => cntN p n + if p n = true then 1 else 0
theorem cntN_le (p : Nat → Bool) : ∀ n, cntN p n ≤ n
  | 0 => Nat.le_refl _
  | n + 1 => by
    have := cntN_le p n
    rw [cntN]
    split <;> omega
theorem cntN_mono {p q : Nat → Bool} : ∀ {n : Nat}, (∀ i, i < n → p i = true → q i = true) → cntN p n ≤ cntN q n
  | 0, _ => Nat.le_refl _
  | n + 1, h => by
    have ih := cntN_mono (n := n) fun i hi => h i (by omega)
    rw [cntN, cntN]
    by_cases hp : p n = true
    · rw [if_pos hp, if_pos (h n (by omega) hp)]; omega
    · rw [if_neg hp]
      split <;> omega
theorem cntN_eq {p q : Nat → Bool} : ∀ {n : Nat}, (∀ i, i < n → p i = true → q i = true) → cntN p n = cntN q n → ∀ i, i < n → q i = true → p i = true
  | 0, _, _, i, hi, _ => by omega
  | n + 1, h, e, i, hi, hq => by
    have ih := cntN_mono (n := n) fun i hi => h i (by omega)
    rw [cntN, cntN] at e
    have hn := h n (by omega)
    by_cases hp : p n = true
    · rw [if_pos hp, if_pos (hn hp)] at e
      by_cases hin : i = n
      · subst hin; exact hp
      · exact cntN_eq (n := n) (fun i hi => h i (by omega)) (by omega) i (by omega) hq
    · rw [if_neg hp] at e
      by_cases hqn : q n = true
      · rw [if_pos hqn] at e; omega
      · rw [if_neg hqn] at e
        by_cases hin : i = n
        · subst hin; exact absurd hq hqn
        · exact cntN_eq (n := n) (fun i hi => h i (by omega)) (by omega) i (by omega) hq
/-- a chain that grows must stop growing -/
theorem stall {f : Nat → Nat} {R : Nat} (hm : ∀ k, f k ≤ f (k + 1)) (hb : ∀ k, f k ≤ R) : ∃ k, k ≤ R ∧ f k = f (k + 1) := by
  refine Classical.byContradiction fun h => ?_
  have hlt : ∀ k, k ≤ R → f k < f (k + 1) := fun k hk => by
    have := hm k
    rcases Nat.lt_or_ge (f k) (f (k + 1)) with h1 | h1
    · exact h1
    · exact absurd ⟨k, hk, by omega⟩ h
  have : ∀ k, k ≤ R + 1 → k ≤ f k := by
    intro k
    induction k with
    | zero => intro _; omega
    | succ k ih =>
      intro hk
      have := ih (by omega)
      have := hlt k (by omega)
      omega
  have := this (R + 1) (Nat.le_refl _)
  have := hb (R + 1)
  omega
structure Costs (rows : List (List Int)) (C : Nat) : Prop where
  few : rows.length ≤ 64
  fin : ∀ i j, i < rows.length → j < C → at2 rows i (j : Int) ≠ Inf → 0 ≤ at2 rows i (j : Int) ∧ at2 rows i (j : Int) ≤ 1099511627776
theorem DualAt.high {rows : List (List Int)} {C : Nat} {m : List Int} {M : Int} {u v : Nat → Int} (h : DualAt rows C m M u v) (hv : Valid rows C m) (hc : Costs rows C) {i : Nat} (hi : Short rows C m i) : M - 70368744177664 ≤ u i := by
  obtain ⟨k, hk, e⟩ := stall (f := fun k => cntN (fun i => decide (M - 1099511627776 * (k : Int) ≤ u i)) rows.length) (R := rows.length) (fun k => cntN_mono fun i _ hp => decide_eq_true (by have := of_decide_eq_true hp; push_cast; omega)) fun k => cntN_le _ _
  have eq := cntN_eq (p := fun i => decide (M - 1099511627776 * (k : Int) ≤ u i)) (q := fun i => decide (M - 1099511627776 * ((k + 1 : Nat) : Int) ≤ u i)) (fun i _ hp => decide_eq_true (by have := of_decide_eq_true hp; push_cast; omega)) e
  have key : ∀ i, Short rows C m i → M - 1099511627776 * (k : Int) ≤ u i := by
    intro i hi
    induction hi with
    | un i hi e => rw [h.un i hi e]; omega
    | step i j i' hi hj hf hi' e ih =>
      have h1 := h.feas i j hi.lt hj hf
      have h2 := h.tight i' j hi' e
      have hb := hc.fin i j hi.lt hj hf
      have hf' : at2 rows i' (j : Int) ≠ Inf := by
        rcases hv.ok i' hi' with k | ⟨-, -, k⟩
        · omega
        · rwa [e] at k
      have hb' := hc.fin i' j hi' hj hf'
      exact of_decide_eq_true (eq i' hi' (decide_eq_true (by push_cast; omega)))
  have := key i hi
  have := hc.few
  omega
/-- no such row could take a free column -/
theorem DualAt.closed {rows : List (List Int)} {C : Nat} {m : List Int} {M : Int} {u v : Nat → Int} (h : DualAt rows C m M u v) (hM : 140737488355328 ≤ M) (hv : Valid rows C m) (hc : Costs rows C) {i j : Nat} (hi : Short rows C m i) (hj : j < C) (hf : at2 rows i (j : Int) ≠ Inf) : ∃ k, k < rows.length ∧ gm m k = (j : Int) := by
  refine Classical.byContradiction fun hn => ?_
  have hz := h.free j hj fun k hk e => hn ⟨k, hk, e⟩
  have h1 := h.feas i j hi.lt hj hf
  have h2 := h.high hv hc hi
  have hb := hc.fin i j hi.lt hj hf
  omega
open Classical in
theorem DualAt.lift {rows : List (List Int)} {C : Nat} {m : List Int} {u v : Nat → Int} (h : DualAt rows C m 140737488355328 u v) (hv : Valid rows C m) (hc : Costs rows C) (d : Int) (hd : 0 ≤ d) : ∃ u' v', DualAt rows C m (140737488355328 + d) u' v' := by
  have cl := fun {i j : Nat} hi hj hf => h.closed (i := i) (j := j) (Int.le_refl _) hv hc hi hj hf
  refine ⟨fun i => if Short rows C m i then u i + d else u i, fun j => if ∃ i, Short rows C m i ∧ at2 rows i (j : Int) ≠ Inf then v j - d else v j, fun i j hi hj hf => ?_, fun i j hi e => ?_, fun i hi e => ?_, fun i hi => ?_, fun j hj => ?_, fun j hj hn => ?_⟩
  · have hf' := h.feas i j hi hj hf
    by_cases hs : Short rows C m i
    · rw [if_pos hs, if_pos ⟨i, hs, hf⟩]; omega
    · rw [if_neg hs]
      split <;> omega
  · have ht := h.tight i j hi e
    have hok := hv.ok i hi
    have hf : at2 rows i (j : Int) ≠ Inf := by
      rcases hok with k | ⟨-, -, k⟩
      · omega
      · rwa [e] at k
    by_cases hs : Short rows C m i
    · rw [if_pos hs, if_pos ⟨i, hs, hf⟩]; omega
    · rw [if_neg hs, if_neg]
      · exact ht
      · rintro ⟨k, hk, hkf⟩
        exact hs (.step k j i hk (by omega) hkf hi e)
  · rw [if_pos (.un i hi e), h.un i hi e]
  · have := h.ule i hi
    split <;> omega
  · have := h.vneg j hj
    split <;> omega
  · rw [if_neg]
    · exact h.free j hj hn
    · rintro ⟨k, hk, hkf⟩
      obtain ⟨k', h1, h2⟩ := cl hk hj hkf
      exact hn k' h1 h2
theorem Opt.dual {rows : List (List Int)} {C : Nat} {m : List Int} (h : Opt rows C (big rows m)) (hv : Valid rows C m) (hc : Costs rows C) : ∃ u v, DualAt rows C m 1125899906842624 u v := by
  obtain ⟨u, v, hd⟩ := h.dual0 hv
  exact hd.lift hv hc 985162418487296 (by decide)
end Go.Proofs.Ytcaokpglbolkcaa
