/- Plain: the tree of an insertion: prices are raised; the matching is moved along the path. -/
import Derived.Test.YtalplekmbhemnaaPc
namespace Go.Proofs.Ytalplekmbhemnaa
open Go Go.Nf

/-- row i is in the tree -/
def InTree (Q : Sq) (k : Nat) (ord : List Nat) (i : Nat) : Prop := i = k ∨ ∃ x, x ∈ ord ∧ gI Q.rowOf x = (i : Int)
theorem gB_set {l : List Bool} {i j : Nat} {x : Bool} (h : j < l.length) : gB (l.set j x) i = if i = j then x else gB l i := by
  unfold gB
  rw [List.getElem?_set]
  by_cases e : j = i
  · subst e; simp [h]
  · rw [if_neg e, if_neg (fun h => e h.symm)]
theorem Tree.raise {Q : Sq} {R C k : Nat} {D V s b D' V' s' : List Int} {used : List Bool} {ord : List Nat} (h : Tree Q R C k D V s b used ord (InT ord)) (hm : ∀ p, p ∈ ord → 0 ≤ gI Q.rowOf p)
    {p : Nat} (hp : p < Q.size) (hpo : p ∉ ord) (hmin : ∀ j, j < Q.size → j ∉ ord → gI s p ≤ gI s j) (hl : D'.length = Q.size ∧ V'.length = Q.size ∧ s'.length = Q.size)
    (hD : ∀ i, i < Q.size → (InTree Q k ord i → gI D' i = gI D i + gI s p) ∧ (¬ InTree Q k ord i → gI D' i = gI D i))
    (hV : ∀ j, j < Q.size → (j ∈ ord → gI V' j = gI V j - gI s p) ∧ (j ∉ ord → gI V' j = gI V j))
    (hS : ∀ j, j < Q.size → j ∉ ord → (gI s j ≠ Inf → gI s' j = gI s j - gI s p) ∧ (gI s j = Inf → gI s' j = Inf)) :
    Tree Q R C k D' V' s' b (used.set p true) (p :: ord) (InT ord) := by
  obtain ⟨f, hf1, hf2, hf3⟩ := h.next hm
  have hsf := hmin f hf1 hf2
  have hdk := h.dk hm
  have hsp := h.slack (fun _ h => h) hm hp hpo
  have hks := h.hk
  have hcs := h.inv.cost.size
  have hcb := h.inv.cost.small
  have hfin : gI s p ≠ Inf := by unfold Inf; omega
  have key : ∀ q, InT ord q → rowAt Q k q < Q.size ∧ gI D' (rowAt Q k q) = gI D (rowAt Q k q) + gI s p := fun q hq => by
    obtain ⟨h1, h2⟩ := h.bounds hm q hq
    exact ⟨h1, (hD _ h1).1 h2⟩
  have hDp : ∀ i, i < Q.size → gI D i ≤ gI D' i ∧ gI D' i ≤ gI D i + gI s p := fun i hi => by
    by_cases ht : InTree Q k ord i
    · have := (hD i hi).1 ht; omega
    · have := (hD i hi).2 ht; omega
  have hVp : ∀ j, j < Q.size → gI V' j ≤ gI V j ∧ gI V j - gI s p ≤ gI V' j := fun i hi => by
    by_cases ht : i ∈ ord
    · have := (hV i hi).1 ht; omega
    · have := (hV i hi).2 ht; omega
  have hDk := (hD k hks).1 (.inl rfl)
  constructor
  case inv => exact h.inv
  case hk => exact hks
  case len => exact ⟨hl.1, hl.2.1, hl.2.2, h.len.2.2.2.1, by simpa using h.len.2.2.2.2⟩
  case use =>
    intro j hj
    rw [gB_set (by rw [h.len.2.2.2.2]; exact hp), List.mem_cons]
    by_cases e : j = p
    · rw [if_pos e]; exact ⟨fun _ => .inl e, fun _ => rfl⟩
    · rw [if_neg e, h.use j hj]; exact ⟨fun h => .inr h, fun h => h.resolve_left e⟩
  case path =>
    rcases h.att p hp hpo with h1 | ⟨h1, h2, h3⟩
    · exact absurd h1 hfin
    · refine ⟨hpo, hp, h1, ⟨h2, ?_⟩, h.path.turn (fun _ _ => rfl) fun x q hx hq => ?_⟩
      · have := (key _ h1).2
        have := (hV p hp).2 hpo
        omega
      · have := (key q hq).2
        have := (hV x (h.path.lt x hx)).1 hx
        omega
  case feas =>
    intro i j hi hj hc
    have h1 := h.feas i j hi hj hc
    by_cases hu : j ∈ ord
    · have := (hV j hj).1 hu
      have := hDp i hi
      omega
    · have h2 := (hV j hj).2 hu
      by_cases ht : InTree Q k ord i
      · have h3 := (hD i hi).1 ht
        have h4 := hmin j hj hu
        rcases ht with rfl | ⟨x, hx, hxi⟩
        · have h5 := h.low j hj hu (-1) (.inl rfl)
          rw [rowAt_neg] at h5
          have h5 := h5 hc
          omega
        · have h5 := h.low j hj hu (x : Int) (.inr ⟨x, hx, rfl⟩)
          rw [rowAt_nat, hxi, Int.toNat_natCast] at h5
          have h5 := h5 hc
          omega
      · have h3 := (hD i hi).2 ht
        omega
  case tight =>
    intro i j hj hr
    obtain ⟨h1, h2⟩ := h.tight i j hj hr
    refine ⟨h1, ?_⟩
    have hik : i < k := by
      rcases h.inv.row j hj with h3 | h3 <;> omega
    by_cases hu : j ∈ ord
    · have h3 := (hV j hj).1 hu
      have h4 := (hD i (by omega)).1 (.inr ⟨j, hu, hr⟩)
      omega
    · have h3 := (hV j hj).2 hu
      have h4 := (hD i (by omega)).2 (by
        rintro (e | ⟨x, hx, hxi⟩)
        · omega
        · have := h.inv.inj x j (h.path.lt x hx) hj (by omega) (by omega)
          subst this
          exact hu hx)
      omega
  case vneg => intro j hj; have := hVp j hj; have := h.vneg j hj; omega
  case vun =>
    intro j hj hjo
    have hju : j ∉ ord := fun hh => hjo (List.mem_cons_of_mem _ hh)
    rw [(hV j hj).2 hju]; exact h.vun j hj hju
  case late =>
    intro i hi hiS
    rw [(hD i hiS).2 (by
      rintro (e | ⟨x, hx, hxi⟩)
      · omega
      · rcases h.inv.row x (h.path.lt x hx) with h3 | h3 <;> omega)]
    exact h.late i hi hiS
  case dlo =>
    intro i hi
    have := hDp i hi
    have := h.dlo i hi
    omega
  case vlo =>
    intro j hj
    have := hVp j hj
    have := h.vlo j hj
    omega
  case low =>
    intro j hj hjo q hq hc
    have hju : j ∉ ord := fun hh => hjo (List.mem_cons_of_mem _ hh)
    have h1 := h.low j hj hju q hq hc
    obtain ⟨h2, h3⟩ := key q hq
    have h4 := (hV j hj).2 hju
    have hne : gI s j ≠ Inf := fun e => by
      have h6 := h.dlo _ h2
      have h7 := h.inv.bu _ h2
      have h8 := h.vun j hj hju
      have h9 := h.inv.bv j hj
      have h10 := (h.inv.cost.bd h2 hj hc)
      unfold Inf at e
      omega
    have h5 := (hS j hj hju).1 hne
    omega
  case att =>
    intro j hj hjo
    have hju : j ∉ ord := fun hh => hjo (List.mem_cons_of_mem _ hh)
    rcases h.att j hj hju with h1 | ⟨h1, h2, h3⟩
    · exact .inl ((hS j hj hju).2 h1)
    · by_cases hne : gI s j = Inf
      · exact .inl ((hS j hj hju).2 hne)
      · refine .inr ⟨h1, h2, ?_⟩
        have := (hS j hj hju).1 hne
        have := (key _ h1).2
        have := (hV j hj).2 hju
        omega

/-- a matching with a hole at column p -/
structure Hole (Q : Sq) (k : Nat) (D V b r : List Int) (p : Nat) (l : List Nat) : Prop where
  len : r.length = Q.size
  path : Path Q k D V b (p :: l)
  mat : ∀ x, x ∈ l → 0 ≤ gI Q.rowOf x
  same : ∀ x, x ∈ l → gI r x = gI Q.rowOf x
  row : ∀ j, j < Q.size → j ≠ p → gI r j = -1 ∨ (0 ≤ gI r j ∧ gI r j < k)
  inj : ∀ j j', j < Q.size → j' < Q.size → j ≠ p → j' ≠ p → gI r j = gI r j' → 0 ≤ gI r j → j = j'
  all : ∀ i : Nat, i < k → ∃ j, j < Q.size ∧ j ≠ p ∧ gI r j = (i : Int)
  tight : ∀ (i : Nat) j, j < Q.size → j ≠ p → gI r j = (i : Int) → Q.c i j ≠ Inf ∧ Q.c i j = gI D i + gI V j
  free : ∀ j, j < Q.size → j ≠ p → gI r j = -1 → gI V j = 0
theorem Tree.hole {Q : Sq} {R C k : Nat} {D V s b : List Int} {used : List Bool} {ord : List Nat} {T : Int → Prop} {p : Nat} (h : Tree Q R C k D V s b used (p :: ord) T) (hm : ∀ p, p ∈ ord → 0 ≤ gI Q.rowOf p) (hp : gI Q.rowOf p < 0) :
    Hole Q k D V b Q.rowOf p ord where
  len := h.inv.len.1
  path := h.path
  mat := hm
  same _ _ := rfl
  row j hj _ := h.inv.row j hj
  inj j j' h1 h2 _ _ h3 h4 := h.inv.inj j j' h1 h2 h3 h4
  all i hi := by
    obtain ⟨j, h1, h2⟩ := h.inv.all i hi
    exact ⟨j, h1, fun e => by subst e; omega, h2⟩
  tight i j hj _ hr := h.tight i j hj hr
  free j hj hne hr := by
    rw [h.vun j hj (fun hh => by
      rcases List.mem_cons.1 hh with e | hh
      · exact hne e
      · have := hm j hh; omega)]
    exact (h.inv.free j hj).2 hr
theorem Hole.step {Q : Sq} {k : Nat} {D V b r : List Int} {p : Nat} {l : List Nat} (h : Hole Q k D V b r p l) (hb : 0 ≤ gI b p) :
    ∃ p' : Nat, gI b p = (p' : Int) ∧ p' < Q.size ∧ ∃ l', l'.length < l.length ∧ Hole Q k D V b (r.set p (gI r p')) p' l' := by
  obtain ⟨h1, h2, h3, h4, h5⟩ := h.path
  rcases h3 with h3 | ⟨p', hp', e⟩
  · omega
  have hlt := h5.lt p' hp'
  obtain ⟨l', g1, g2, g3⟩ := h5.cut p' hp'
  have hne : p' ≠ p := fun e => h1 (e ▸ hp')
  have hlen := h.len
  have es : ∀ j, gI (r.set p (gI r p')) j = if j = p then gI r p' else gI r j := fun j => gI_set (by omega)
  have hs := h.same p' hp'
  have hm := h.mat p' hp'
  refine ⟨p', e, hlt, l', g2, ⟨by simpa using hlen, g1, fun x hx => h.mat x (g3 x hx), fun x hx => ?_, fun j hj hn => ?_, fun j j' hj hj' hn hn' => ?_, fun i hi => ?_, fun i j hj hn => ?_, fun j hj hn => ?_⟩⟩
  · rw [es, if_neg (show x ≠ p from fun e => h1 (e ▸ g3 x hx))]; exact h.same x (g3 x hx)
  · rw [es]
    split
    · exact h.row p' hlt hne
    · exact h.row j hj ‹_›
  · rw [es, es]
    by_cases e1 : j = p <;> by_cases e2 : j' = p
    · intros; omega
    · rw [if_pos e1, if_neg e2]
      intro h6 h7
      exact absurd (h.inj p' j' hlt hj' hne e2 h6 h7) (fun e => hn' e.symm)
    · rw [if_neg e1, if_pos e2]
      intro h6 h7
      exact absurd (h.inj j p' hj hlt e1 hne h6 h7) hn
    · rw [if_neg e1, if_neg e2]
      exact h.inj j j' hj hj' e1 e2
  · obtain ⟨j, h6, h7, h8⟩ := h.all i hi
    by_cases e1 : j = p'
    · subst e1
      exact ⟨p, h2, hne.symm, by rw [es, if_pos rfl]; exact h8⟩
    · exact ⟨j, h6, e1, by rw [es, if_neg h7]; exact h8⟩
  · rw [es]
    split
    · rename_i e1
      subst e1
      intro h6
      rw [e, rowAt_nat] at h4
      rw [hs] at h6
      rw [h6, Int.toNat_natCast] at h4
      exact h4
    · exact h.tight i j hj ‹_›
  · rw [es]
    split
    · intro h6; omega
    · exact h.free j hj ‹_›
theorem Hole.last {Q : Sq} {k : Nat} {D V b r : List Int} {p : Nat} {l : List Nat} (h : Hole Q k D V b r p l) (hb : gI b p < 0) {R C : Nat} {s : List Int} {used : List Bool} {ord : List Nat} {T : Int → Prop} {q : Nat} (t : Tree Q R C k D V s b used (q :: ord) T) (hdk : gI D k ≤ 140737488355328) :
    Inv { Q with rowOf := r.set p (k : Int), rowD := D, colD := V } R C (k + 1) := by
  obtain ⟨h1, h2, h3, h4, h5⟩ := h.path
  have hlen := h.len
  have e : gI b p = -1 := by
    rcases h3 with h3 | ⟨p', hp', e⟩
    · exact h3
    · omega
  rw [e, rowAt_neg] at h4
  have es : ∀ j, gI (r.set p (k : Int)) j = if j = p then (k : Int) else gI r j := fun j => gI_set (by omega)
  have hk := t.hk
  have hd0 : 0 ≤ gI D k := by have := t.dlo k hk; have := t.inv.late k (Nat.le_refl _) hk; omega
  constructor
  case cost => exact ⟨t.inv.cost.size, t.inv.cost.small, t.inv.cost.real, t.inv.cost.own, t.inv.cost.none, t.inv.cost.extra⟩
  case kS => exact hk
  case len => exact ⟨by simpa using hlen, t.len.1, t.len.2.1⟩
  case row =>
    intro j hj
    show gI (r.set p (k : Int)) j = -1 ∨ (0 ≤ gI (r.set p (k : Int)) j ∧ gI (r.set p (k : Int)) j < ((k + 1 : Nat) : Int))
    rw [es]
    split
    · omega
    · have := h.row j hj ‹_›; omega
  case inj =>
    intro j j' hj hj'
    show gI (r.set p (k : Int)) j = gI (r.set p (k : Int)) j' → 0 ≤ gI (r.set p (k : Int)) j → j = j'
    rw [es, es]
    by_cases e1 : j = p <;> by_cases e2 : j' = p
    · intros; omega
    · rw [if_pos e1, if_neg e2]; intro h6 h7; have := h.row j' hj' e2; omega
    · rw [if_neg e1, if_pos e2]; intro h6 h7; have := h.row j hj e1; omega
    · rw [if_neg e1, if_neg e2]; exact h.inj j j' hj hj' e1 e2
  case feas => exact fun i j hi hj hc => t.feas i j hi hj hc
  case all =>
    intro i hi
    by_cases e1 : i = k
    · subst e1
      exact ⟨p, h2, by show gI (r.set p (i : Int)) p = _; rw [es, if_pos rfl]⟩
    · obtain ⟨j, h6, h7, h8⟩ := h.all i (by omega)
      exact ⟨j, h6, by show gI (r.set p (k : Int)) j = _; rw [es, if_neg h7]; exact h8⟩
  case tight =>
    intro i j hj
    show gI (r.set p (k : Int)) j = _ → _
    rw [es]
    split
    · intro h6
      obtain rfl : k = i := by omega
      rename_i e1
      subst e1
      exact h4
    · exact h.tight i j hj ‹_›
  case free =>
    intro j hj
    refine ⟨by have := t.vneg j hj; have := (t.inv.free j hj).1; show gI V j ≤ 0; omega, ?_⟩
    show gI (r.set p (k : Int)) j = -1 → gI V j = 0
    rw [es]
    split
    · intro h6; omega
    · exact h.free j hj ‹_›
  case late => intro i hi hiS; exact t.late i (by omega) hiS
  case bu =>
    intro i hi
    have := t.dlo i hi
    have := t.inv.bu i hi
    show 0 ≤ gI D i ∧ gI D i ≤ 140737488355328 * ((k + 1 : Nat) : Int)
    omega
  case bv =>
    intro j hj
    have := t.vlo j hj
    have := t.inv.bv j hj
    show -(140737488355328 * ((k + 1 : Nat) : Int)) ≤ gI V j
    omega
end Go.Proofs.Ytalplekmbhemnaa
