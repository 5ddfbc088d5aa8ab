/- Plain: the shift along the chain keeps the matching perfect; the order of columns. -/
import Derived.Test.YtalplekmbhemnaaPe
namespace Go.Proofs.Ytalplekmbhemnaa
open Go Go.Nf

structure Disp (Q : Sq) (i home : Nat) (t r : List Int) (row : Int) (x : Nat) (L : List Nat) : Prop where
  len : r.length = Q.size
  rp : Rp Q i home t (x :: L)
  same : ∀ y, y ∈ x :: L → gI r y = gI Q.rowOf y
  row0 : 0 ≤ row ∧ row < Q.size
  edge : Edge Q row.toNat x
  rows : ∀ j, j < Q.size → j ≠ home → 0 ≤ gI r j ∧ gI r j < Q.size ∧ gI r j ≠ row
  inj : ∀ j j', j < Q.size → j' < Q.size → j ≠ home → j' ≠ home → gI r j = gI r j' → j = j'
  tight : ∀ (a : Nat) j, j < Q.size → j ≠ home → gI r j = (a : Int) → Edge Q a j
structure Moved (Q : Sq) (r r' : List Int) (x : Nat) (L : List Nat) (row : Int) : Prop where
  len : r'.length = Q.size
  rows : ∀ j, j < Q.size → 0 ≤ gI r' j ∧ gI r' j < Q.size
  inj : ∀ j j', j < Q.size → j' < Q.size → gI r' j = gI r' j' → j = j'
  tight : ∀ (a : Nat) j, j < Q.size → gI r' j = (a : Int) → Edge Q a j
  keep : ∀ j, j < Q.size → j ∉ x :: L → gI r' j = gI r j
  at_ : gI r' x = row
theorem Disp.go {Q : Sq} {R C i home : Nat} {t : List Int} (hp : Perf Q R C) (hh : home < Q.size) (htl : t.length = Q.size) (ht : gI t home = -1) :
    ∀ (n : Nat) (L : List Nat) (r : List Int) (row : Int) (x : Nat), L.length = n → Disp Q i home t r row x L → ∃ cs, Chain t (x : Int) cs ∧ Moved Q r (shiftF r row cs) x L row := by
  intro n
  induction n using Nat.strongRecOn with
  | _ n ih =>
  intro L r row x hn h
  have hlen := h.len
  have es : ∀ j, x < Q.size → gI (r.set x row) j = if j = x then row else gI r j := fun j hx => gI_set (by omega)
  rcases h.rp with ⟨rfl, rfl⟩ | ⟨h1, h2, h3, h4, ⟨y, hy, hty, he⟩, h6⟩
  · refine ⟨[x], ⟨rfl, by omega, ?_⟩, ?_⟩
    · have : (t[x]?).getD 0 = gI t x := rfl
      rw [this, ht]; show (-1 : Int) < 0; omega
    · have es := fun j => es j hh
      show Moved Q r (r.set x row) x [] row
      have hr0 := h.row0
      refine ⟨by simpa using hlen, fun j hj => ?_, fun j j' hj hj' => ?_, fun a j hj => ?_, fun j hj hn => ?_, by rw [es, if_pos rfl]⟩
      · rw [es]; split
        · exact hr0
        · have := h.rows j hj ‹_›; exact ⟨this.1, this.2.1⟩
      · rw [es, es]
        by_cases e1 : j = x <;> by_cases e2 : j' = x
        · intros; omega
        · rw [if_pos e1, if_neg e2]; intro e; exact absurd e.symm (h.rows j' hj' e2).2.2
        · rw [if_neg e1, if_pos e2]; intro e; exact absurd e (h.rows j hj e1).2.2
        · rw [if_neg e1, if_neg e2]; exact h.inj j j' hj hj' e1 e2
      · rw [es]; split
        · intro e; rename_i e1; subst e1; have := h.edge; rw [e, Int.toNat_natCast] at this; exact this
        · exact h.tight a j hj ‹_›
      · rw [es, if_neg (fun e => hn (by simp [e]))]
  · have es := fun j => es j h2
    obtain ⟨L', k1, k2, k3⟩ := h6.cut y hy
    have hrx := h.same x (by simp)
    have hrows := h.rows x h2 h3
    have hd : Disp Q i home t (r.set x row) (gI r x) y L' := by
      refine ⟨by simpa using hlen, k1, fun z hz => ?_, ⟨hrows.1, hrows.2.1⟩, by rw [hrx]; exact he, fun j hj hjh => ?_, fun j j' hj hj' e1 e2 => ?_, fun a j hj hjh => ?_⟩
      · have hzL : z ∈ L := by
          rcases List.mem_cons.1 hz with rfl | hz
          · exact hy
          · exact k3 z hz
        rw [es, if_neg (show z ≠ x from fun e => h1 (e ▸ hzL))]
        exact h.same z (List.mem_cons_of_mem _ hzL)
      · rw [es]; split
        · exact ⟨h.row0.1, h.row0.2, fun e => hrows.2.2 e.symm⟩
        · have := h.rows j hj hjh
          exact ⟨this.1, this.2.1, fun e => absurd (h.inj j x hj h2 hjh h3 e) ‹_›⟩
      · rw [es, es]
        by_cases f1 : j = x <;> by_cases f2 : j' = x
        · intros; omega
        · rw [if_pos f1, if_neg f2]; intro e; exact absurd e.symm (h.rows j' hj' e2).2.2
        · rw [if_neg f1, if_pos f2]; intro e; exact absurd e (h.rows j hj e1).2.2
        · rw [if_neg f1, if_neg f2]; exact h.inj j j' hj hj' e1 e2
      · rw [es]; split
        · intro e; rename_i e1; subst e1; have := h.edge; rw [e, Int.toNat_natCast] at this; exact this
        · exact h.tight a j hj hjh
    obtain ⟨cs, c1, c2⟩ := ih L'.length (by omega) L' _ _ y rfl hd
    refine ⟨x :: cs, ⟨rfl, by omega, ?_⟩, ?_⟩
    · have : (t[x]?).getD 0 = gI t x := rfl
      rw [this, hty]; exact c1
    · show Moved Q r (shiftF (r.set x row) (gI r x) cs) x L row
      have sub : ∀ z, z ∈ y :: L' → z ∈ L := fun z hz => by
        rcases List.mem_cons.1 hz with rfl | hz
        · exact hy
        · exact k3 z hz
      refine ⟨c2.len, c2.rows, c2.inj, c2.tight, fun j hj hn => ?_, ?_⟩
      · rw [c2.keep j hj (fun hh => hn (List.mem_cons_of_mem _ (sub j hh))), es, if_neg (fun e => hn (by simp [e]))]
      · rw [c2.keep x h2 (fun hh => h1 (sub x hh)), es, if_pos rfl]
theorem Rp.rows {Q : Sq} {i home : Nat} {t : List Int} : ∀ {L : List Nat}, Rp Q i home t L → ∀ x, x ∈ L → x = home ∨ (i : Int) < gI Q.rowOf x
  | [], h, _, _ => h.elim
  | x :: L, h, y, hy => by
    rcases h with ⟨rfl, rfl⟩ | ⟨h1, h2, h3, h4, h5, h6⟩
    · simp at hy; exact .inl hy
    · rcases List.mem_cons.1 hy with rfl | hy
      · exact .inr h4
      · exact Rp.rows h6 y hy

/-- rows below i have the first columns that they can have, in their order -/
def Lex (Q : Sq) (i : Nat) : Prop := ∀ g, Mate Q g → ∀ a : Nat, a < i → (∀ b : Nat, b < a → gI Q.rowOf (g b) = (b : Int)) → ∃ j, j < Q.size ∧ gI Q.rowOf j = (a : Int) ∧ j ≤ g a
theorem Lex.step {Q : Sq} {R C i : Nat} {r : List Int} (hi : i < Q.size) (hp : Perf Q R C) (hp' : Perf { Q with rowOf := r } R C) (keep : ∀ j, j < Q.size → gI Q.rowOf j < (i : Int) → gI r j = gI Q.rowOf j) (hl : Lex Q i)
    (new : ∀ g, Mate Q g → (∀ a : Nat, a < i → gI Q.rowOf (g a) = (a : Int)) → ∃ j, j < Q.size ∧ gI r j = (i : Int) ∧ j ≤ g i) : Lex { Q with rowOf := r } (i + 1) := by
  intro g hm a ha hb
  have m : Mate Q g := ⟨hm.lt, hm.inj, hm.edge⟩
  have hb' : ∀ b : Nat, b < a → gI Q.rowOf (g b) = (b : Int) := fun b hba => by
    obtain ⟨j, h1, h2⟩ := hp.all b (by omega)
    have h3 := keep j h1 (by omega)
    have h4 : gI r (g b) = (b : Int) := hb b hba
    have h5 := hp'.inj (g b) j (m.lt b (by omega)) h1 (by show gI r (g b) = gI r j; omega)
    rw [h5]; exact h2
  by_cases e : a = i
  · subst e; exact new g m hb'
  · obtain ⟨j, h1, h2, h3⟩ := hl g m a (by omega) hb'
    exact ⟨j, h1, by show gI r j = _; rw [keep j h1 (by omega)]; exact h2, h3⟩
/-- no column before home will do -/
theorem Bfs.stay {Q : Sq} {R C i home : Nat} {t : List Int} {L : List Nat} (h : Bfs Q i home t L [] fun _ _ => False) (hp : Perf Q R C) (hi : i < Q.size) (hh : home < Q.size) (hhi : gI Q.rowOf home = (i : Int)) (hl : Lex Q i)
    (hno : ∀ j, j < home → gI t j < 0 ∨ ¬ Edge Q i j) : Lex Q (i + 1) := by
  have := Lex.step (r := Q.rowOf) hi hp hp (fun _ _ _ => rfl) hl fun g m ha => ⟨home, hh, hhi, ?_⟩
  · exact this
  · refine Nat.le_of_not_lt fun hlt => ?_
    have h1 := h.reach hp hi hh hhi m ha
    rcases (h.mem _ (m.lt i hi)).1 h1 with e | e
    · omega
    · rcases hno _ hlt with h2 | h2
      · omega
      · exact h2 (m.edge i hi)
theorem Bfs.move {Q : Sq} {R C i home : Nat} {t : List Int} {L : List Nat} (h : Bfs Q i home t L [] fun _ _ => False) (hp : Perf Q R C) (hi : i < Q.size) (hh : home < Q.size) (hhi : gI Q.rowOf home = (i : Int)) (hl : Lex Q i)
    {j : Nat} (hj : j < home) (hjt : 0 ≤ gI t j) (hje : Edge Q i j) (hno : ∀ k, k < j → gI t k < 0 ∨ ¬ Edge Q i k) :
    ∃ cs, Chain t (j : Int) cs ∧ Perf { Q with rowOf := shiftF Q.rowOf i cs } R C ∧ Lex { Q with rowOf := shiftF Q.rowOf i cs } (i + 1) := by
  have hjS : j < Q.size := by omega
  obtain ⟨L', k1, k2, k3⟩ := h.rp.cut j ((h.mem j hjS).2 (.inr hjt))
  obtain ⟨cs, c1, c2⟩ := Disp.go hp hh h.len h.base L'.length L' Q.rowOf i j rfl ⟨hp.len.1, k1, fun _ _ => rfl, by omega, by rw [Int.toNat_natCast]; exact hje, fun k hk hkh => ⟨(hp.row k hk).1, (hp.row k hk).2, fun e => hkh (hp.inj k home hk hh (by omega))⟩, fun a b ha hb _ _ e => hp.inj a b ha hb e, fun a k hk _ e => hp.tight a k hk e⟩
  have hp' : Perf { Q with rowOf := shiftF Q.rowOf i cs } R C := by
    refine ⟨⟨hp.cost.size, hp.cost.small, hp.cost.real, hp.cost.own, hp.cost.none, hp.cost.extra⟩, ⟨c2.len, hp.len.2⟩, c2.rows, c2.inj, fun a ha => ?_, c2.tight, hp.feas, hp.bu, hp.bv⟩
    obtain ⟨k, hk, e⟩ := onto (n := Q.size) (f := fun k => (gI (shiftF Q.rowOf i cs) k).toNat) (fun k hk => by have := c2.rows k hk; show (gI _ k).toNat < _; omega) (fun k k' hk hk' e => c2.inj k k' hk hk' (by
      have h1 := c2.rows k hk
      have h2 := c2.rows k' hk'
      have e : (gI (shiftF Q.rowOf i cs) k).toNat = (gI (shiftF Q.rowOf i cs) k').toNat := e
      omega)) a ha
    have h1 := c2.rows k hk
    have e : (gI (shiftF Q.rowOf i cs) k).toNat = a := e
    exact ⟨k, hk, by show gI (shiftF Q.rowOf i cs) k = _; omega⟩
  refine ⟨cs, c1, hp', Lex.step hi hp hp' (fun k hk hki => c2.keep k hk fun hin => ?_) hl fun g m ha => ⟨j, hjS, c2.at_, ?_⟩⟩
  · rcases k1.rows k hin with e | e
    · subst e; omega
    · omega
  · refine Nat.le_of_not_lt fun hlt => ?_
    have h1 := h.reach hp hi hh hhi m ha
    rcases (h.mem _ (m.lt i hi)).1 h1 with e | e
    · omega
    · rcases hno _ hlt with h2 | h2
      · omega
      · exact h2 (m.edge i hi)
end Go.Proofs.Ytalplekmbhemnaa
