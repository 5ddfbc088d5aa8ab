/- Plain: how prices are lowered until they prove the cost; what a certificate must satisfy; decimals. -/
import Derived.Test.YtcaokpglbolkcaaYd
import Derived.Lib.ItoaNum
namespace Go.Proofs.Ytcaokpglbolkcaa
open Go Go.Nf

structure Dearest (rows : List (List Int)) (C : Nat) (m : List Int) (M : Int) (u v : Nat → Int) : Prop where
  dual : DualAt rows C m M u v
  most : ∀ u' v', DualAt rows C m M u' v' → sumN C v' ≤ sumN C v
theorem least_of {α : Type} {P : α → Prop} (f : α → Nat) : ∀ n, (∃ x, P x ∧ f x = n) → ∃ x, P x ∧ ∀ y, P y → f x ≤ f y := by
  intro n
  induction n using Nat.strongRecOn with
  | _ n ih =>
    rintro ⟨x, hx, e⟩
    by_cases h : ∃ y, P y ∧ f y < f x
    · obtain ⟨y, hy, hl⟩ := h
      exact ih (f y) (by omega) ⟨y, hy, rfl⟩
    · exact ⟨x, hx, fun y hy => Nat.le_of_not_lt fun k => h ⟨y, hy, k⟩⟩
theorem sumN_neg {f : Nat → Int} : ∀ {n : Nat}, (∀ i, i < n → f i ≤ 0) → sumN n f ≤ 0
  | 0, _ => Int.le_refl _
  | n + 1, h => by
    have := sumN_neg (n := n) fun i hi => h i (by omega)
    have := h n (by omega)
    rw [sumN]; omega
theorem dearest {rows : List (List Int)} {C : Nat} {m : List Int} {M : Int} (h : ∃ u v, DualAt rows C m M u v) : ∃ u v, Dearest rows C m M u v := by
  obtain ⟨u, v, hd⟩ := h
  obtain ⟨⟨u', v'⟩, h1, h2⟩ := least_of (P := fun x : (Nat → Int) × (Nat → Int) => DualAt rows C m M x.1 x.2) (fun x => (- sumN C x.2).toNat) _ ⟨(u, v), hd, rfl⟩
  refine ⟨u', v', h1, fun u2 v2 h3 => ?_⟩
  have := h2 (u2, v2) h3
  have a1 := sumN_neg (f := v') (n := C) h1.vneg
  have a2 := sumN_neg (f := v2) (n := C) h3.vneg
  simp only at this
  omega
/-- prices on their way down to those of a dual -/
structure It (rows : List (List Int)) (C : Nat) (m : List Int) (M : Int) (vs : Nat → Int) (U V : List Int) : Prop where
  lenU : U.length = rows.length
  lenV : V.length = C
  tight : ∀ i j, i < rows.length → gm m i = ((j : Nat) : Int) → gI U i + gI V j = at2 rows i (j : Int)
  un : ∀ i, i < rows.length → gm m i = -1 → gI U i = M
  neg : ∀ j, j < C → gI V j ≤ 0
  lo : ∀ j, j < C → vs j ≤ gI V j
theorem It.hi {rows : List (List Int)} {C : Nat} {m : List Int} {M : Int} {us vs : Nat → Int} {U V : List Int} (h : It rows C m M vs U V) (d : DualAt rows C m M us vs) (hv : Valid rows C m) {i : Nat} (hi : i < rows.length) : gI U i ≤ us i := by
  rcases hv.ok i hi with k | ⟨k1, k2, -⟩
  · rw [h.un i hi k, d.un i hi k]; exact Int.le_refl _
  · obtain ⟨j, hj⟩ : ∃ j : Nat, gm m i = (j : Int) := ⟨(gm m i).toNat, by omega⟩
    have := h.tight i j hi hj
    have := d.tight i j hi hj
    have := h.lo j (by omega)
    omega
/-- a price that is too high belongs to a column that is taken -/
theorem It.taken {rows : List (List Int)} {C : Nat} {m : List Int} {M : Int} {us vs : Nat → Int} {U V : List Int} (h : It rows C m M vs U V) (d : DualAt rows C m M us vs) (hv : Valid rows C m) {i j : Nat} (hi : i < rows.length) (hj : j < C) (hf : at2 rows i (j : Int) ≠ Inf) (hgt : at2 rows i (j : Int) < gI U i + gI V j) :
    ∃ k, k < rows.length ∧ gm m k = (j : Int) ∧ k ≠ i := by
  have h1 := h.hi d hv hi
  have h2 := d.feas i j hi hj hf
  have h3 := h.neg j hj
  have h4 := h.lo j hj
  refine Classical.byContradiction fun hn => ?_
  by_cases hk : ∃ k, k < rows.length ∧ gm m k = (j : Int)
  · obtain ⟨k, k1, k2⟩ := hk
    by_cases e : k = i
    · subst e
      have := h.tight k j k1 k2
      omega
    · exact hn ⟨k, k1, k2, e⟩
  · have := d.free j hj fun k hk' e => hk ⟨k, hk', e⟩
    omega
theorem It.down {rows : List (List Int)} {C : Nat} {m : List Int} {M : Int} {us vs : Nat → Int} {U V : List Int} (h : It rows C m M vs U V) (d : DualAt rows C m M us vs) (hv : Valid rows C m) {i j k : Nat} (hi : i < rows.length) (hj : j < C) (hf : at2 rows i (j : Int) ≠ Inf) (hgt : at2 rows i (j : Int) < gI U i + gI V j)
    (hk : k < rows.length) (hkj : gm m k = (j : Int)) : It rows C m M vs (U.set k (at2 rows k (j : Int) - (at2 rows i (j : Int) - gI U i))) (V.set j (at2 rows i (j : Int) - gI U i)) := by
  have h1 := h.hi d hv hi
  have h2 := d.feas i j hi hj hf
  have h3 := h.neg j hj
  have lu := h.lenU
  have lv := h.lenV
  refine ⟨by rw [List.length_set]; exact lu, by rw [List.length_set]; exact lv, fun i' j' hi' e => ?_, fun i' hi' e => ?_, fun j' hj' => ?_, fun j' hj' => ?_⟩
  · rw [gI_set (by omega), gI_set (by omega)]
    by_cases e1 : i' = k
    · subst e1
      have : j' = j := by omega
      subst this
      rw [if_pos rfl, if_pos rfl]; omega
    · have e2 : j' ≠ j := fun e2 => by
        subst e2
        exact e1 (hv.ne k i' hk hi' (by omega) (by omega))
      rw [if_neg e1, if_neg e2]
      exact h.tight i' j' hi' e
  · rw [gI_set (by omega), if_neg (fun e1 => by subst e1; omega)]
    exact h.un i' hi' e
  · rw [gI_set (by omega)]
    split
    · omega
    · exact h.neg j' hj'
  · rw [gI_set (by omega)]
    split
    · rename_i e; subst e; omega
    · exact h.lo j' hj'
theorem cntN_lt {p q : Nat → Bool} {n j : Nat} (h : ∀ i, i < n → p i = true → q i = true) (hj : j < n) (hq : q j = true) (hp : p j = false) : cntN p n < cntN q n := by
  have h1 := cntN_mono h
  rcases Nat.lt_or_ge (cntN p n) (cntN q n) with h2 | h2
  · exact h2
  · have := cntN_eq h (by omega) j hj hq
    rw [hp] at this; cases this
/-- columns that are not there yet -/
def apart (vs : Nat → Int) (V : List Int) (C : Nat) : Nat := cntN (fun j => !decide (gI V j = vs j)) C
/-- while some column is not there, one is next -/
theorem It.next {rows : List (List Int)} {C : Nat} {m : List Int} {M : Int} {us vs : Nat → Int} {U V : List Int} (h : It rows C m M vs U V) (d : Dearest rows C m M us vs) (hv : Valid rows C m) {j0 : Nat} (hj0 : j0 < C) (hne : gI V j0 ≠ vs j0) :
    ∃ i j, i < rows.length ∧ j < C ∧ at2 rows i (j : Int) ≠ Inf ∧ us i + vs j = at2 rows i (j : Int) ∧ gI V j ≠ vs j ∧ gI U i = us i := by
  refine Classical.byContradiction fun hn => ?_
  have hd := d.dual
  -- rows whose column is not there
  have up : DualAt rows C m M (fun i => if gm m i ≠ -1 ∧ gI V (gm m i).toNat ≠ vs (gm m i).toNat then us i - 1 else us i) (fun j => if gI V j ≠ vs j then vs j + 1 else vs j) := by
    have row : ∀ {i : Nat}, i < rows.length → gI U i = us i ∨ (gm m i ≠ -1 ∧ gI V (gm m i).toNat ≠ vs (gm m i).toNat) := fun {i} hi => by
      rcases hv.ok i hi with k | ⟨k1, k2, -⟩
      · exact .inl (by rw [h.un i hi k, hd.un i hi k])
      · obtain ⟨j, hj⟩ : ∃ j : Nat, gm m i = (j : Int) := ⟨(gm m i).toNat, by omega⟩
        have t1 := h.tight i j hi hj
        have t2 := hd.tight i j hi hj
        have e : (gm m i).toNat = j := by omega
        by_cases hb : gI V j = vs j
        · exact .inl (by omega)
        · exact .inr ⟨by omega, by rw [e]; exact hb⟩
    refine ⟨fun i j hi hj hf => ?_, fun i j hi e => ?_, fun i hi e => ?_, fun i hi => ?_, fun j hj => ?_, fun j hj hfr => ?_⟩
    · have hfe := hd.feas i j hi hj hf
      by_cases hjb : gI V j ≠ vs j
      · rw [if_pos hjb]
        by_cases hib : gm m i ≠ -1 ∧ gI V (gm m i).toNat ≠ vs (gm m i).toNat
        · rw [if_pos hib]; omega
        · rw [if_neg hib]
          have hU : gI U i = us i := (row hi).resolve_right hib
          have : us i + vs j ≠ at2 rows i (j : Int) := fun e => hn ⟨i, j, hi, hj, hf, e, hjb, hU⟩
          omega
      · rw [if_neg hjb]
        split <;> omega
    · have ht := hd.tight i j hi e
      have e' : (gm m i).toNat = j := by omega
      by_cases hjb : gI V j ≠ vs j
      · rw [if_pos hjb, if_pos ⟨by omega, by rw [e']; exact hjb⟩]; omega
      · rw [if_neg hjb, if_neg (fun k => hjb (by rw [← e']; exact k.2))]; exact ht
    · rw [if_neg fun k => k.1 e, hd.un i hi e]
    · have := hd.ule i hi
      split <;> omega
    · have := hd.vneg j hj
      have := h.neg j hj
      have := h.lo j hj
      split <;> omega
    · have := hd.free j hj hfr
      have := h.neg j hj
      have := h.lo j hj
      rw [if_neg (by omega)]; assumption
  have hle := d.most _ _ up
  have hge : sumN C vs ≤ sumN C (fun j => if gI V j ≠ vs j then vs j + 1 else vs j) := sumN_le fun j _ => by split <;> omega
  have le1 : ∀ x : Nat, vs x ≤ if gI V x ≠ vs x then vs x + 1 else vs x := fun x => by split <;> omega
  have := sumN_eq (f := vs) (g := fun j => if gI V j ≠ vs j then vs j + 1 else vs j) (n := C) (fun j _ => le1 j) (Int.le_antisymm hge hle) j0 hj0
  rw [if_pos hne] at this
  omega
/-- within a round: begun at U0, V0; the pairs that Dn names have been looked at -/
structure Rnd (rows : List (List Int)) (C : Nat) (m : List Int) (M : Int) (vs : Nat → Int) (U0 V0 : List Int) (Dn : Nat → Nat → Prop) (ch : Bool) (U V : List Int) : Prop where
  it : It rows C m M vs U V
  low : ∀ j, j < C → gI V j ≤ gI V0 j
  rise : ∀ i, i < rows.length → gI U0 i ≤ gI U i
  seen : ∀ i j, i < rows.length → j < C → Dn i j → at2 rows i (j : Int) ≠ Inf → gI V j ≤ at2 rows i (j : Int) - gI U0 i
  still : ch = false → U = U0 ∧ V = V0
  moved : ch = true → ∃ j, j < C ∧ gI V j < gI V0 j
theorem Rnd.start {rows : List (List Int)} {C : Nat} {m : List Int} {M : Int} {vs : Nat → Int} {U V : List Int} (h : It rows C m M vs U V) : Rnd rows C m M vs U V (fun _ _ => False) false U V :=
  ⟨h, fun _ _ => Int.le_refl _, fun _ _ => Int.le_refl _, fun _ _ _ _ k => k.elim, fun _ => ⟨rfl, rfl⟩, fun k => by cases k⟩
theorem Rnd.skip {rows : List (List Int)} {C : Nat} {m : List Int} {M : Int} {vs : Nat → Int} {U0 V0 U V : List Int} {Dn Dn' : Nat → Nat → Prop} {ch : Bool} (h : Rnd rows C m M vs U0 V0 Dn ch U V) (hD : ∀ i j, i < rows.length → j < C → Dn' i j → Dn i j ∨ (at2 rows i (j : Int) ≠ Inf → gI U i + gI V j ≤ at2 rows i (j : Int))) :
    Rnd rows C m M vs U0 V0 Dn' ch U V :=
  ⟨h.it, h.low, h.rise, fun i j hi hj hd hf => by
    rcases hD i j hi hj hd with k | k
    · exact h.seen i j hi hj k hf
    · have := k hf
      have := h.rise i hi
      omega, h.still, h.moved⟩
theorem Rnd.down {rows : List (List Int)} {C : Nat} {m : List Int} {M : Int} {us vs : Nat → Int} {U0 V0 U V : List Int} {Dn Dn' : Nat → Nat → Prop} {ch : Bool} (h : Rnd rows C m M vs U0 V0 Dn ch U V) (d : DualAt rows C m M us vs) (hv : Valid rows C m) {i j k : Nat} (hi : i < rows.length) (hj : j < C) (hf : at2 rows i (j : Int) ≠ Inf) (hgt : at2 rows i (j : Int) < gI U i + gI V j)
    (hk : k < rows.length) (hkj : gm m k = (j : Int)) (hD : ∀ i' j', Dn' i' j' → Dn i' j' ∨ (i' = i ∧ j' = j)) :
    Rnd rows C m M vs U0 V0 Dn' true (U.set k (at2 rows k (j : Int) - (at2 rows i (j : Int) - gI U i))) (V.set j (at2 rows i (j : Int) - gI U i)) := by
  have lu := h.it.lenU
  have lv := h.it.lenV
  have tk := h.it.tight k j hk hkj
  refine ⟨h.it.down d hv hi hj hf hgt hk hkj, fun j' hj' => ?_, fun i' hi' => ?_, fun i' j' hi' hj' hd hf' => ?_, (fun e => by cases e), fun _ => ⟨j, hj, ?_⟩⟩
  · have := h.low j' hj'
    rw [gI_set (by omega)]
    split
    · rename_i e; subst e; omega
    · exact this
  · have := h.rise i' hi'
    rw [gI_set (by omega)]
    split
    · rename_i e; subst e; omega
    · exact this
  · rw [gI_set (by omega)]
    rcases hD i' j' hd with q | ⟨rfl, rfl⟩
    · have := h.seen i' j' hi' hj' q hf'
      split
      · rename_i e; subst e; omega
      · exact this
    · rw [if_pos rfl]
      have := h.rise i' hi'
      omega
  · have := h.low j hj
    rw [gI_set (by omega), if_pos rfl]
    omega
/-- the round's end: the prices prove the cost, or a column more is there -/
theorem Rnd.done {rows : List (List Int)} {C : Nat} {m : List Int} {M : Int} {us vs : Nat → Int} {U0 V0 U V : List Int} {Dn : Nat → Nat → Prop} {ch : Bool} (h : Rnd rows C m M vs U0 V0 Dn ch U V) (h0 : It rows C m M vs U0 V0) (d : Dearest rows C m M us vs) (hv : Valid rows C m) (hD : ∀ i j, i < rows.length → j < C → Dn i j) :
    (ch = false ∧ ∀ i j, i < rows.length → j < C → at2 rows i (j : Int) ≠ Inf → gI U i + gI V j ≤ at2 rows i (j : Int)) ∨ (ch = true ∧ apart vs V C < apart vs V0 C) := by
  cases hch : ch with
  | false =>
    obtain ⟨rfl, rfl⟩ := h.still hch
    refine .inl ⟨rfl, fun i j hi hj hf => ?_⟩
    have := h.seen i j hi hj (hD i j hi hj) hf
    omega
  | true =>
    obtain ⟨j0, hj0, hl⟩ := h.moved hch
    have hlo := h.it.lo j0 hj0
    obtain ⟨i, j, hi, hj, hf, ht, hne, hU⟩ := h0.next d hv hj0 (by omega)
    have h1 := h.seen i j hi hj (hD i j hi hj) hf
    have h2 := h.it.lo j hj
    refine .inr ⟨rfl, cntN_lt (j := j) (fun j' hj' hp => ?_) hj (by simpa using hne) (by simp; omega)⟩
    have a1 := h.low j' hj'
    have a2 := h.it.lo j' hj'
    have a3 := h0.lo j' hj'
    simp at hp ⊢
    omega

/-! ### the rows that exceed their columns -/
def upB : List Int → Bool
  | [] => true
  | [_] => true
  | a :: b :: l => decide (a < b) && upB (b :: l)
/-- a column that one of the rows may take -/
def reachB (rows : List (List Int)) (H : List Int) (j : Nat) : Bool := H.any fun i => !decide (at2 rows i.toNat (j : Int) = Inf)
def hallB (rows : List (List Int)) (C : Nat) (H : List Int) (many : Int) : Bool :=
  H.all (fun i => decide (0 ≤ i) && decide (i < rows.length)) && upB H && decide ((H.length : Int) - (cntN (reachB rows H) C : Int) = many)
def priceB (rows : List (List Int)) (C : Nat) (U V : List Int) : Bool :=
  decide (U.length = rows.length) && decide (V.length = C) && U.all (fun x => decide (-72057594037927936 ≤ x) && decide (x ≤ 1125899906842624)) && V.all (fun x => decide (-72057594037927936 ≤ x) && decide (x ≤ 0))
def costB (rows : List (List Int)) (C : Nat) (m U V : List Int) : Prop :=
  (∀ j, j < C → (∀ i, i < rows.length → gm m i ≠ (j : Int)) → gI V j = 0) ∧ (∀ i, i < rows.length → gm m i = -1 → gI U i = 1125899906842624) ∧
  ∀ i j, i < rows.length → j < C → at2 rows i (j : Int) ≠ Inf → gI U i + gI V j ≤ at2 rows i (j : Int) ∧ (gm m i = (j : Int) → gI U i + gI V j = at2 rows i (j : Int))
/-- the certificate is accepted -/
def certP (rows : List (List Int)) (C : Nat) (m U V H : List Int) : Prop := priceB rows C U V = true ∧ costB rows C m U V ∧ hallB rows C H ((rows.length : Int) - cnt m rows.length) = true

theorem upB_lt : ∀ {l : List Int} {i j : Nat} {a b : Int}, upB l = true → l[i]? = some a → l[j]? = some b → i < j → a < b
  | [], i, _, _, _, _, h, _, _ => by simp at h
  | [x], i, j, _, _, _, h1, h2, hij => by
    have : j < 1 := by
      rcases Nat.lt_or_ge j 1 with h | h
      · exact h
      · rw [List.getElem?_eq_none (by simpa using h)] at h2; cases h2
    omega
  | x :: y :: l, i, j, a, b, h, h1, h2, hij => by
    rw [upB, Bool.and_eq_true, decide_eq_true_eq] at h
    cases j with
    | zero => omega
    | succ j =>
      cases i with
      | zero =>
        simp at h1
        subst h1
        cases j with
        | zero => simp at h2; subst h2; exact h.1
        | succ j =>
          have := upB_lt (l := y :: l) (i := 0) (j := j + 1) (a := y) (b := b) h.2 rfl (by simpa using h2) (by omega)
          omega
      | succ i => exact upB_lt (l := y :: l) h.2 (by simpa using h1) (by simpa using h2) (by omega)
/-- n different things below m -/
theorem cntN_of_inj {p : Nat → Bool} {C n : Nat} {f : Nat → Nat} (h1 : ∀ k, k < n → f k < C ∧ p (f k) = true) (h2 : ∀ k k', k < n → k' < n → f k = f k' → k = k') : n ≤ cntN p C := by
  -- number the columns that p holds
  have num : ∀ a b, a < b → p a = true → cntN p a < cntN p b := fun a b hab ha => by
    have mono : ∀ d, cntN p (a + 1) ≤ cntN p (a + 1 + d) := by
      intro d
      induction d with
      | zero => exact Nat.le_refl _
      | succ d ih =>
        have e : cntN p (a + 1 + (d + 1)) = cntN p (a + 1 + d) + (if p (a + 1 + d) = true then 1 else 0) := rfl
        rw [e]
        split <;> omega
    have h3 := mono (b - (a + 1))
    rw [show a + 1 + (b - (a + 1)) = b by omega] at h3
    have : cntN p (a + 1) = cntN p a + 1 := by rw [cntN, if_pos ha]
    omega
  refine pigeon n (cntN p C) (fun k => cntN p (f k)) (fun k hk => num _ _ (h1 k hk).1 (h1 k hk).2) fun k k' hk hk' e => ?_
  refine h2 k k' hk hk' ?_
  have e : cntN p (f k) = cntN p (f k') := e
  have a := h1 k hk
  have b := h1 k' hk'
  rcases Nat.lt_trichotomy (f k) (f k') with h | h | h
  · have := num _ _ h a.2; omega
  · exact h
  · have := num _ _ h b.2; omega
/-- the things that p holds, one by one -/
theorem cntN_enum (p : Nat → Bool) : ∀ n, ∃ f : Nat → Nat, (∀ t, t < cntN p n → f t < n ∧ p (f t) = true) ∧ ∀ t t', t < cntN p n → t' < cntN p n → f t = f t' → t = t'
  | 0 => ⟨fun _ => 0, fun t ht => by simp [cntN] at ht, fun t t' ht => by simp [cntN] at ht⟩
  | n + 1 => by
    obtain ⟨f, f1, f2⟩ := cntN_enum p n
    by_cases ha : p n = true
    · refine ⟨fun t => if t < cntN p n then f t else n, fun t ht => ?_, fun t t' ht ht' e => ?_⟩
      · show (if _ then _ else _) < _ ∧ p (if _ then _ else _) = true
        split
        · rename_i q; have := f1 t q; exact ⟨by omega, this.2⟩
        · exact ⟨by omega, ha⟩
      · have e : (if t < cntN p n then f t else n) = (if t' < cntN p n then f t' else n) := e
        rw [cntN, if_pos ha] at ht ht'
        split at e <;> split at e
        · rename_i q q'; exact f2 t t' q q' e
        · rename_i q q'; have := (f1 t q).1; omega
        · rename_i q q'; have := (f1 t' q').1; omega
        · omega
    · have e : cntN p (n + 1) = cntN p n := by rw [cntN, if_neg ha]; rfl
      rw [e]
      exact ⟨f, fun t ht => by have := f1 t ht; exact ⟨by omega, this.2⟩, f2⟩
theorem cntN_inj {p q : Nat → Bool} {n k : Nat} (g : Nat → Nat) (h1 : ∀ x, x < n → p x = true → g x < k ∧ q (g x) = true) (h2 : ∀ x y, x < n → y < n → p x = true → p y = true → g x = g y → x = y) : cntN p n ≤ cntN q k := by
  obtain ⟨f, f1, f2⟩ := cntN_enum p n
  exact cntN_of_inj (f := fun t => g (f t)) (fun t ht => h1 _ (f1 t ht).1 (f1 t ht).2) fun t t' ht ht' e => f2 t t' ht ht' (h2 _ _ (f1 t ht).1 (f1 t' ht').1 (f1 t ht).2 (f1 t' ht').2 e)
theorem cnt_cntN (m : List Int) : ∀ n, cnt m n = (cntN (fun i => !decide (gm m i = -1)) n : Int)
  | 0 => rfl
  | n + 1 => by
    rw [cnt, cntN, cnt_cntN m n]
    by_cases h : gm m n = -1
    · rw [if_pos h, if_neg (by simp [h])]; simp
    · rw [if_neg h, if_pos (by simp [h])]; simp
theorem cntN_add (p : Nat → Bool) : ∀ n, cntN p n + cntN (fun i => !p i) n = n
  | 0 => rfl
  | n + 1 => by
    have := cntN_add p n
    rw [cntN, cntN]
    cases hp : p n <;> simp <;> omega
theorem list_get {H : List Int} {i : Nat} (h : i < H.length) : H[i]? = some H[i] := List.getElem?_eq_getElem h
/-- of the rows that exceed their columns, many are without one -/
theorem hall_bound {rows : List (List Int)} {C : Nat} {H m : List Int} {many : Int} (h : hallB rows C H many = true) (hv : Valid rows C m) : cnt m rows.length ≤ (rows.length : Int) - many := by
  unfold hallB at h
  rw [Bool.and_eq_true, Bool.and_eq_true, decide_eq_true_eq] at h
  obtain ⟨⟨h1, h2⟩, h3⟩ := h
  have hin : ∀ k (hk : k < H.length), 0 ≤ H[k] ∧ H[k] < rows.length := fun k hk => by
    have := List.all_eq_true.1 h1 _ (List.getElem_mem hk)
    simpa using this
  -- rows of H without a column, and those with one
  let a : Nat → Bool := fun k => !decide (gm m (gI H k).toNat = -1)
  have row : ∀ k, k < H.length → (gI H k).toNat < rows.length ∧ 0 ≤ gI H k := fun k hk => by
    have := hin k hk
    rw [gI_get hk]; omega
  have inj : ∀ k k', k < H.length → k' < H.length → (gI H k).toNat = (gI H k').toNat → k = k' := fun k k' hk hk' e => by
    have e1 := row k hk
    have e2 := row k' hk'
    have e3 : H[k] = H[k'] := by rw [← gI_get hk, ← gI_get hk']; omega
    rcases Nat.lt_trichotomy k k' with q | q | q
    · have := upB_lt h2 (list_get hk) (list_get hk') q; omega
    · exact q
    · have := upB_lt h2 (list_get hk') (list_get hk) q; omega
  have taken : cntN a H.length ≤ cntN (reachB rows H) C := by
    refine cntN_inj (fun k => (gm m (gI H k).toNat).toNat) (fun k k1 k2 => ?_) fun k k' k1 k1' k2 k2' e => ?_
    · have hr := row _ k1
      have hne : gm m (gI H k).toNat ≠ -1 := by simpa [a] using k2
      obtain ⟨q1, q2, q3⟩ := (hv.ok _ hr.1).resolve_left hne
      refine ⟨by show Int.toNat _ < C; omega, ?_⟩
      unfold reachB
      rw [List.any_eq_true]
      refine ⟨gI H k, by rw [gI_get k1]; exact List.getElem_mem k1, ?_⟩
      have : (((gm m (gI H k).toNat).toNat : Nat) : Int) = gm m (gI H k).toNat := by omega
      rw [this]
      simpa using q3
    · have hr := row _ k1
      have hr' := row _ k1'
      have hne : gm m (gI H k).toNat ≠ -1 := by simpa [a] using k2
      have hne' : gm m (gI H k').toNat ≠ -1 := by simpa [a] using k2'
      have q := (hv.ok _ hr.1).resolve_left hne
      have q' := (hv.ok _ hr'.1).resolve_left hne'
      have e : (gm m (gI H k).toNat).toNat = (gm m (gI H k').toNat).toNat := e
      have := hv.ne _ _ hr.1 hr'.1 hne (by omega)
      exact inj _ _ k1 k1' this.symm
  have without : cntN (fun k => !a k) H.length ≤ cntN (fun i => decide (gm m i = -1)) rows.length :=
    cntN_inj (fun k => (gI H k).toNat) (fun k k1 k2 => ⟨(row _ k1).1, by simpa [a] using k2⟩) fun k k' k1 k1' _ _ e => inj _ _ k1 k1' e
  have s1 := cntN_add a H.length
  have s2 := cntN_add (fun i => decide (gm m i = -1)) rows.length
  have s3 := cnt_cntN m rows.length
  omega
theorem sumN_zero {f : Nat → Int} : ∀ {n : Nat}, (∀ i, i < n → f i = 0) → sumN n f = 0
  | 0, _ => rfl
  | n + 1, h => by rw [sumN, sumN_zero fun i hi => h i (by omega), h n (by omega)]; rfl
/-- what each row pays in prices of columns is at most what all columns cost -/
theorem cols_le {C : Nat} {v : Nat → Int} (hneg : ∀ j, j < C → v j ≤ 0) {m : List Int} : ∀ {n : Nat}, (∀ i, i < n → gm m i = -1 ∨ (0 ≤ gm m i ∧ gm m i < C)) → (∀ i k, i < n → k < n → gm m i ≠ -1 → gm m k = gm m i → k = i) →
    sumN C v ≤ sumN n fun i => if gm m i = -1 then 0 else v (gm m i).toNat := by
  intro n
  induction n generalizing v with
  | zero => intro _ _; exact sumN_neg hneg
  | succ n ih =>
    intro h1 h2
    rw [sumN]
    by_cases e : gm m n = -1
    · rw [if_pos e]
      have := ih hneg (fun i hi => h1 i (by omega)) fun i k hi hk => h2 i k (by omega) (by omega)
      omega
    · rw [if_neg e]
      have hb := (h1 n (by omega)).resolve_left e
      -- strike the column
      have ih' := ih (v := fun j => if j = (gm m n).toNat then 0 else v j) (fun j hj => by have := hneg j hj; show (if j = (gm m n).toNat then (0 : Int) else v j) ≤ 0; split <;> omega) (fun i hi => h1 i (by omega)) fun i k hi hk => h2 i k (by omega) (by omega)
      rw [sumN_put, if_pos (by omega)] at ih'
      have e2 : (sumN n fun i => if gm m i = -1 then 0 else (fun j => if j = (gm m n).toNat then 0 else v j) (gm m i).toNat) = sumN n fun i => if gm m i = -1 then 0 else v (gm m i).toNat := sumN_congr fun i hi => by
        by_cases e3 : gm m i = -1
        · rw [if_pos e3, if_pos e3]
        · rw [if_neg e3, if_neg e3]
          show (if _ then _ else _) = _
          rw [if_neg]
          intro k
          have hb' := (h1 i (by omega)).resolve_left e3
          have := h2 n i (by omega) (by omega) e (by omega)
          omega
      rw [e2] at ih'
      omega
theorem cols_eq {C : Nat} {v : Nat → Int} {m : List Int} : ∀ {n : Nat}, (∀ j, j < C → (∀ i, i < n → gm m i ≠ (j : Int)) → v j = 0) → (∀ i, i < n → gm m i = -1 ∨ (0 ≤ gm m i ∧ gm m i < C)) → (∀ i k, i < n → k < n → gm m i ≠ -1 → gm m k = gm m i → k = i) →
    sumN C v = sumN n fun i => if gm m i = -1 then 0 else v (gm m i).toNat := by
  intro n
  induction n generalizing v with
  | zero => intro h _ _; exact sumN_zero fun j hj => h j hj fun i hi => by omega
  | succ n ih =>
    intro h h1 h2
    rw [sumN]
    by_cases e : gm m n = -1
    · rw [if_pos e]
      have := ih (v := v) (fun j hj hn => h j hj fun i hi => by
        rcases Nat.lt_or_ge i n with q | q
        · exact hn i q
        · have : i = n := by omega
          subst this; omega) (fun i hi => h1 i (by omega)) fun i k hi hk => h2 i k (by omega) (by omega)
      omega
    · rw [if_neg e]
      have hb := (h1 n (by omega)).resolve_left e
      have ih' := ih (v := fun j => if j = (gm m n).toNat then 0 else v j) (fun j hj hn => by
        show (if _ then _ else _) = (0 : Int)
        split
        · rfl
        · rename_i q
          exact h j hj fun i hi => by
            rcases Nat.lt_or_ge i n with q' | q'
            · exact hn i q'
            · have : i = n := by omega
              subst this; omega) (fun i hi => h1 i (by omega)) fun i k hi hk => h2 i k (by omega) (by omega)
      rw [sumN_put, if_pos (by omega)] at ih'
      have e2 : (sumN n fun i => if gm m i = -1 then 0 else (fun j => if j = (gm m n).toNat then 0 else v j) (gm m i).toNat) = sumN n fun i => if gm m i = -1 then 0 else v (gm m i).toNat := sumN_congr fun i hi => by
        by_cases e3 : gm m i = -1
        · rw [if_pos e3, if_pos e3]
        · rw [if_neg e3, if_neg e3]
          show (if _ then _ else _) = _
          rw [if_neg]
          intro k
          have hb' := (h1 i (by omega)).resolve_left e3
          have := h2 n i (by omega) (by omega) e (by omega)
          omega
      rw [e2] at ih'
      omega
theorem range_of {rows : List (List Int)} {C : Nat} {U V : List Int} (h : priceB rows C U V = true) : U.length = rows.length ∧ V.length = C ∧ (∀ i, i < rows.length → -72057594037927936 ≤ gI U i ∧ gI U i ≤ 1125899906842624) ∧ ∀ j, j < C → -72057594037927936 ≤ gI V j ∧ gI V j ≤ 0 := by
  unfold priceB at h
  simp only [Bool.and_eq_true, decide_eq_true_eq] at h
  obtain ⟨⟨⟨h1, h2⟩, h3⟩, h4⟩ := h
  refine ⟨h1, h2, fun i hi => ?_, fun j hj => ?_⟩
  · rw [gI_get (by omega)]
    have := List.all_eq_true.1 h3 _ (List.getElem_mem (show i < U.length by omega))
    simpa using this
  · rw [gI_get (by omega)]
    have := List.all_eq_true.1 h4 _ (List.getElem_mem (show j < V.length by omega))
    simpa using this
/-- a certificate that is accepted proves the assignment optimal -/
theorem certP.sound {rows : List (List Int)} {C : Nat} {m U V H : List Int} (h : certP rows C m U V H) (hv : Valid rows C m) {m' : List Int} (hv' : Valid rows C m') :
    cnt m' rows.length ≤ cnt m rows.length ∧ (cnt m' rows.length = cnt m rows.length → tot rows m rows.length ≤ tot rows m' rows.length) := by
  obtain ⟨hp, ⟨c1, c2, c3⟩, hh⟩ := h
  obtain ⟨-, -, r1, r2⟩ := range_of hp
  refine ⟨by have := hall_bound hh hv'; omega, fun he => ?_⟩
  have ok : ∀ {m : List Int}, Valid rows C m → ∀ i, i < rows.length → gm m i = -1 ∨ (0 ≤ gm m i ∧ gm m i < C) := fun hv i hi => (hv.ok i hi).imp id fun k => ⟨k.1, k.2.1⟩
  have le := cols_le (v := gI V) (fun j hj => (r2 j hj).2) (ok hv') hv'.ne
  have eq := cols_eq (v := gI V) c1 (ok hv) hv.ne
  -- row by row
  have e1 : (sumN rows.length fun i => gI U i + if gm m i = -1 then 0 else gI V (gm m i).toNat) = sumN rows.length fun i => val rows i (gm m i) + 1125899906842624 * (1 - one (gm m i)) := sumN_congr fun i hi => by
    unfold val one
    by_cases e : gm m i = -1
    · simp only [if_pos e]
      rw [c2 i hi e]; omega
    · simp only [if_neg e]
      obtain ⟨k1, k2, k3⟩ := (hv.ok i hi).resolve_left e
      have e5 : (((gm m i).toNat : Nat) : Int) = gm m i := by omega
      have := (c3 i (gm m i).toNat hi (by omega) (by rw [e5]; exact k3)).2 e5.symm
      rw [e5] at this
      omega
  have e2 : (sumN rows.length fun i => gI U i + if gm m' i = -1 then 0 else gI V (gm m' i).toNat) ≤ sumN rows.length fun i => val rows i (gm m' i) + 1125899906842624 * (1 - one (gm m' i)) := sumN_le fun i hi => by
    unfold val one
    by_cases e : gm m' i = -1
    · simp only [if_pos e]
      have := (r1 i hi).2; omega
    · simp only [if_neg e]
      obtain ⟨k1, k2, k3⟩ := (hv'.ok i hi).resolve_left e
      have e5 : (((gm m' i).toNat : Nat) : Int) = gm m' i := by omega
      have := (c3 i (gm m' i).toNat hi (by omega) (by rw [e5]; exact k3)).1
      rw [e5] at this
      omega
  rw [sumN_add, sumN_add] at e1 e2
  have mul : ∀ (f : Nat → Int) n, sumN n (fun i => 1125899906842624 * (1 - f i)) = 1125899906842624 * ((n : Int) - sumN n f) := by
    intro f n
    induction n with
    | zero => rfl
    | succ n ih => rw [sumN, sumN, ih]; push_cast; omega
  rw [mul] at e1 e2
  rw [← tot_sum, ← cnt_sum] at e1 e2
  omega

/-- the rows that a list of flags names, ascending -/
def rowsUp (B : List Bool) (R : Nat) : List Int := ((List.range R).filter (gB B)).map fun i : Nat => (i : Int)
theorem rowsUp_len (B : List Bool) : ∀ R, (rowsUp B R).length = cntN (gB B) R
  | 0 => rfl
  | R + 1 => by
    have ih := rowsUp_len B R
    unfold rowsUp at ih ⊢
    rw [List.length_map] at ih ⊢
    rw [List.range_succ, List.filter_append, List.length_append, ih, cntN]
    by_cases h : gB B R = true
    · rw [if_pos h]; simp [h]
    · rw [if_neg h]; simp [h]
theorem rowsUp_mem {B : List Bool} {R : Nat} {x : Int} : x ∈ rowsUp B R ↔ ∃ i : Nat, i < R ∧ gB B i = true ∧ x = (i : Int) := by
  unfold rowsUp
  rw [List.mem_map]
  constructor
  · rintro ⟨i, hi, rfl⟩
    rw [List.mem_filter, List.mem_range] at hi
    exact ⟨i, hi.1, hi.2, rfl⟩
  · rintro ⟨i, h1, h2, rfl⟩
    exact ⟨i, by rw [List.mem_filter, List.mem_range]; exact ⟨h1, h2⟩, rfl⟩
theorem upB_of : ∀ {l : List Int}, l.Pairwise (· < ·) → upB l = true
  | [], _ => rfl
  | [_], _ => rfl
  | a :: b :: l, h => by
    rw [List.pairwise_cons] at h
    rw [upB, Bool.and_eq_true, decide_eq_true_eq]
    exact ⟨h.1 b (.head _), upB_of h.2⟩
theorem rowsUp_up (B : List Bool) (R : Nat) : upB (rowsUp B R) = true := by
  refine upB_of ?_
  unfold rowsUp
  rw [List.pairwise_map]
  refine List.Pairwise.filter _ (List.Pairwise.imp (fun h => ?_) List.pairwise_lt_range)
  omega
theorem cntN_split (p q : Nat → Bool) : ∀ n, cntN p n = cntN (fun i => p i && q i) n + cntN (fun i => p i && !q i) n
  | 0 => rfl
  | n + 1 => by
    have := cntN_split p q n
    rw [cntN, cntN, cntN]
    cases p n <;> cases q n <;> simp <;> omega
theorem hall_of {rows : List (List Int)} {C : Nat} {m : List Int} {M : Int} {us vs : Nat → Int} {B : List Bool} (d : DualAt rows C m M us vs) (hM : 140737488355328 ≤ M) (hv : Valid rows C m) (hc : Costs rows C) (hB : ∀ i, i < rows.length → (gB B i = true ↔ Short rows C m i)) :
    hallB rows C (rowsUp B rows.length) ((rows.length : Int) - cnt m rows.length) = true := by
  have reach : ∀ j, reachB rows (rowsUp B rows.length) j = true ↔ ∃ i, Short rows C m i ∧ at2 rows i (j : Int) ≠ Inf := by
    intro j
    unfold reachB
    rw [List.any_eq_true]
    constructor
    · rintro ⟨x, hx, hf⟩
      obtain ⟨i, h1, h2, rfl⟩ := rowsUp_mem.1 hx
      exact ⟨i, (hB i h1).1 h2, by simpa using hf⟩
    · rintro ⟨i, h1, h2⟩
      exact ⟨(i : Int), rowsUp_mem.2 ⟨i, h1.lt, (hB i h1.lt).2 h1, rfl⟩, by simpa using h2⟩
  have k1 : cntN (reachB rows (rowsUp B rows.length)) C ≤ cntN (fun i => gB B i && !decide (gm m i = -1)) rows.length := by
    have ex : ∀ j, j < C → reachB rows (rowsUp B rows.length) j = true → ∃ k, k < rows.length ∧ gm m k = (j : Int) ∧ gB B k = true := fun j hj h => by
      obtain ⟨i, h1, h2⟩ := (reach j).1 h
      obtain ⟨k, h3, h4⟩ := d.closed hM hv hc h1 hj h2
      exact ⟨k, h3, h4, (hB k h3).2 (.step i j k h1 hj h2 h3 h4)⟩
    let g : Nat → Nat := fun j => if h : j < C ∧ reachB rows (rowsUp B rows.length) j = true then Classical.choose (ex j h.1 h.2) else 0
    have hg : ∀ j, j < C → reachB rows (rowsUp B rows.length) j = true → g j < rows.length ∧ gm m (g j) = (j : Int) ∧ gB B (g j) = true := fun j h1 h2 => by
      have := Classical.choose_spec (ex j h1 h2)
      show (dite _ _ _ : Nat) < _ ∧ gm m (dite _ _ _) = _ ∧ gB B (dite _ _ _) = true
      rw [dif_pos ⟨h1, h2⟩]; exact this
    refine cntN_inj g (fun j h1 h2 => ⟨(hg j h1 h2).1, ?_⟩) fun j j' h1 h1' h2 h2' e => ?_
    · have := hg j h1 h2
      rw [this.2.2]
      simp; omega
    · have a := (hg j h1 h2).2.1
      have b := (hg j' h1' h2').2.1
      rw [e] at a
      omega
  have k2 : cntN (fun i => gB B i && !decide (gm m i = -1)) rows.length ≤ cntN (reachB rows (rowsUp B rows.length)) C := by
    refine cntN_inj (fun i => (gm m i).toNat) (fun i h1 h2 => ?_) fun i i' h1 h1' h2 h2' e => ?_
    · simp at h2
      obtain ⟨q1, q2, q3⟩ := (hv.ok i h1).resolve_left h2.2
      refine ⟨by show Int.toNat _ < C; omega, (reach _).2 ⟨i, (hB i h1).1 h2.1, ?_⟩⟩
      rw [show (((gm m i).toNat : Nat) : Int) = gm m i by omega]
      exact q3
    · simp at h2 h2'
      have q := (hv.ok i h1).resolve_left h2.2
      have q' := (hv.ok i' h1').resolve_left h2'.2
      have e : (gm m i).toNat = (gm m i').toNat := e
      exact (hv.ne i i' h1 h1' h2.2 (by omega)).symm
  have k3 : cntN (fun i => gB B i && !!decide (gm m i = -1)) rows.length = cntN (fun i => decide (gm m i = -1)) rows.length := by
    refine Nat.le_antisymm (cntN_mono fun i _ h => ?_) (cntN_mono fun i hi h => ?_)
    · simp at h ⊢; exact h.2
    · simp at h ⊢; exact ⟨(hB i hi).2 (.un i hi h), h⟩
  have s1 := cntN_split (gB B) (fun i => !decide (gm m i = -1)) rows.length
  have s2 := cntN_add (fun i => decide (gm m i = -1)) rows.length
  have s3 := cnt_cntN m rows.length
  have s4 := rowsUp_len B rows.length
  unfold hallB
  rw [Bool.and_eq_true, Bool.and_eq_true, decide_eq_true_eq]
  refine ⟨⟨?_, rowsUp_up _ _⟩, ?_⟩
  · rw [List.all_eq_true]
    intro x hx
    obtain ⟨i, h1, -, rfl⟩ := rowsUp_mem.1 hx
    simp; omega
  · omega
theorem cert_of {rows : List (List Int)} {C : Nat} {m : List Int} {us vs : Nat → Int} {U V : List Int} {B : List Bool} (h : It rows C m 1125899906842624 vs U V) (d : DualAt rows C m 1125899906842624 us vs) (hv : Valid rows C m) (hc : Costs rows C)
    (hf : ∀ i j, i < rows.length → j < C → at2 rows i (j : Int) ≠ Inf → gI U i + gI V j ≤ at2 rows i (j : Int)) (hB : ∀ i, i < rows.length → (gB B i = true ↔ Short rows C m i)) : certP rows C m U V (rowsUp B rows.length) := by
  have free : ∀ j, j < C → (∀ i, i < rows.length → gm m i ≠ (j : Int)) → gI V j = 0 := fun j hj hn => by
    have := d.free j hj hn
    have := h.lo j hj
    have := h.neg j hj
    omega
  have costs : ∀ i j, i < rows.length → gm m i = ((j : Nat) : Int) → 0 ≤ at2 rows i (j : Int) ∧ at2 rows i (j : Int) ≤ 1099511627776 := fun i j hi e => by
    obtain ⟨k1, k2, k3⟩ := (hv.ok i hi).resolve_left (by omega)
    exact hc.fin i j hi (by omega) (by rw [← e]; exact k3)
  have lowV : ∀ j, j < C → -1125899906842624 ≤ gI V j := fun j hj => by
    by_cases hk : ∃ k, k < rows.length ∧ gm m k = (j : Int)
    · obtain ⟨k, k1, k2⟩ := hk
      have := d.tight k j k1 k2
      have := d.ule k k1
      have := costs k j k1 k2
      have := h.lo j hj
      omega
    · have := free j hj fun i hi e => hk ⟨i, hi, e⟩
      omega
  have lowU : ∀ i, i < rows.length → 0 ≤ gI U i := fun i hi => by
    rcases hv.ok i hi with k | ⟨k1, k2, -⟩
    · rw [h.un i hi k]; decide
    · obtain ⟨j, hj⟩ : ∃ j : Nat, gm m i = (j : Int) := ⟨(gm m i).toNat, by omega⟩
      have := h.tight i j hi hj
      have := costs i j hi hj
      have := h.neg j (by omega)
      omega
  refine ⟨?_, ⟨free, h.un, fun i j hi hj hfin => ⟨hf i j hi hj hfin, fun e => h.tight i j hi e⟩⟩, hall_of d (by decide) hv hc hB⟩
  unfold priceB
  simp only [Bool.and_eq_true, decide_eq_true_eq]
  refine ⟨⟨⟨h.lenU, h.lenV⟩, ?_⟩, ?_⟩
  · rw [List.all_eq_true]
    intro x hx
    obtain ⟨i, hi, rfl⟩ := List.getElem_of_mem hx
    rw [← gI_get hi]
    have hi' : i < rows.length := by have := h.lenU; omega
    have := lowU i hi'
    have := h.hi d hv hi'
    have := d.ule i hi'
    simp; omega
  · rw [List.all_eq_true]
    intro x hx
    obtain ⟨j, hj, rfl⟩ := List.getElem_of_mem hx
    rw [← gI_get hj]
    have hj' : j < C := by have := h.lenV; omega
    have := lowV j hj'
    have := h.neg j hj'
    simp; omega

/-- the digits, most significant first -/
def numL (n : Int) : List UInt8 := Lib.itoa n
theorem dec_lt {u : Nat} (h : u < 10) : Lib.decDigits u = [UInt8.ofNat (48 + u)] := by rw [Lib.decDigits, dif_pos h]
theorem dec_ge {u : Nat} (h : ¬ u < 10) : Lib.decDigits u = Lib.decDigits (u / 10) ++ [UInt8.ofNat (48 + u % 10)] := by rw [Lib.decDigits, dif_neg h]
theorem num_small {n : Int} (h0 : 0 ≤ n) (h : n < 10) : numL n = [UInt8.ofNat (48 + n.toNat)] := by
  unfold numL Lib.itoa
  rw [if_neg (by omega), dec_lt (by omega)]
theorem num_pos {n : Int} (h : 10 ≤ n) : numL n = numL (n.tdiv 10) ++ numL (n.tmod 10) := by
  obtain ⟨u, rfl⟩ : ∃ u : Nat, n = (u : Int) := ⟨n.toNat, by omega⟩
  have e1 : ((u : Int)).tdiv 10 = ((u / 10 : Nat) : Int) := by rw [Int.tdiv_eq_ediv_of_nonneg (by omega)]; omega
  have e2 : ((u : Int)).tmod 10 = ((u % 10 : Nat) : Int) := by rw [Int.tmod_eq_emod_of_nonneg (by omega)]; omega
  rw [e1, e2]
  unfold numL Lib.itoa
  rw [if_neg (by omega), if_neg (by omega), if_neg (by omega), Int.toNat_natCast, Int.toNat_natCast, Int.toNat_natCast, dec_ge (by omega), dec_lt (show u % 10 < 10 by omega)]
theorem num_neg1 {n : Int} (h : n < 0) (h2 : -10 < n) : numL n = 45 :: numL (-n) := by
  unfold numL Lib.itoa
  rw [if_pos h, if_neg (by omega)]
  congr 2
  omega
theorem num_neg2 {n : Int} (h : n ≤ -10) : numL n = numL (n.tdiv 10) ++ numL (-(n.tmod 10)) := by
  obtain ⟨u, rfl⟩ : ∃ u : Nat, n = -(u : Int) := ⟨n.natAbs, by omega⟩
  have e1 : (-(u : Int)).tdiv 10 = -((u / 10 : Nat) : Int) := by rw [Int.neg_tdiv, Int.tdiv_eq_ediv_of_nonneg (by omega)]; omega
  have e2 : -((-(u : Int)).tmod 10) = ((u % 10 : Nat) : Int) := by rw [Int.neg_tmod, Int.tmod_eq_emod_of_nonneg (by omega)]; omega
  rw [e1, e2]
  unfold numL Lib.itoa
  rw [if_pos (by omega), if_pos (by omega), if_neg (by omega), Int.toNat_natCast, dec_lt (show u % 10 < 10 by omega)]
  have a1 : (-(u : Int)).natAbs = u := by omega
  have a2 : (-((u / 10 : Nat) : Int)).natAbs = u / 10 := by omega
  rw [a1, a2, dec_ge (by omega)]
  rfl

/-- whose each column is -/
structure RowOf (rows : List (List Int)) (C : Nat) (m W : List Int) : Prop where
  len : W.length = C
  at' : ∀ j, j < C → (gI W j = -1 ∧ ∀ i, i < rows.length → gm m i ≠ (j : Int)) ∨ ∃ k, k < rows.length ∧ gm m k = (j : Int) ∧ gI W j = (k : Int)
structure Srch (rows : List (List Int)) (C : Nat) (m : List Int) (B : List Bool) (q : List Nat) (ex : Nat → Nat → Prop) : Prop where
  len : B.length = rows.length
  sound : ∀ i, i < rows.length → gB B i = true → Short rows C m i
  un : ∀ i, i < rows.length → gm m i = -1 → gB B i = true
  inq : ∀ i, i ∈ q → i < rows.length ∧ gB B i = true
  closed : ∀ i j k, i < rows.length → gB B i = true → i ∉ q → ¬ ex i j → j < C → at2 rows i (j : Int) ≠ Inf → k < rows.length → gm m k = (j : Int) → gB B k = true
theorem gB_put {B : List Bool} {i k : Nat} (h : k < B.length) : gB (B.set k true) i = if i = k then true else gB B i := by
  unfold gB
  rw [List.getElem?_set]
  by_cases e : k = i
  · subst e; simp [h]
  · rw [if_neg e, if_neg fun h => e h.symm]
theorem Srch.pop {rows : List (List Int)} {C : Nat} {m : List Int} {B : List Bool} {x : Nat} {q : List Nat} (h : Srch rows C m B (x :: q) fun _ _ => False) : Srch rows C m B q fun i j => i = x ∧ 0 ≤ j :=
  ⟨h.len, h.sound, h.un, fun i hi => h.inq i (.tail _ hi), fun i j k hi hb hq hx hj hf hk hm => h.closed i j k hi hb (fun e => by
    rcases List.mem_cons.1 e with e | e
    · exact hx ⟨e, Nat.zero_le _⟩
    · exact hq e) (fun h => h) hj hf hk hm⟩
theorem Srch.skip {rows : List (List Int)} {C : Nat} {m : List Int} {B : List Bool} {x j : Nat} {q : List Nat} (h : Srch rows C m B q fun i j' => i = x ∧ j ≤ j') (hs : at2 rows x (j : Int) = Inf ∨ (∀ k, k < rows.length → gm m k = (j : Int) → gB B k = true)) : Srch rows C m B q fun i j' => i = x ∧ j + 1 ≤ j' :=
  ⟨h.len, h.sound, h.un, h.inq, fun i j' k hi hb hq hx hj hf hk hm => by
    by_cases e : i = x ∧ j ≤ j'
    · have e2 : j' = j := by
        have : ¬ (j + 1 ≤ j') := fun k => hx ⟨e.1, k⟩
        omega
      subst e2
      rcases hs with k' | k'
      · rw [e.1] at hf; exact absurd k' hf
      · exact k' k hk hm
    · exact h.closed i j' k hi hb hq e hj hf hk hm⟩
theorem Srch.push {rows : List (List Int)} {C : Nat} {m : List Int} {B : List Bool} {x j k : Nat} {q : List Nat} (h : Srch rows C m B q fun i j' => i = x ∧ j ≤ j') (hv : Valid rows C m) (hx : x < rows.length) (hxb : gB B x = true) (hj : j < C) (hf : at2 rows x (j : Int) ≠ Inf) (hk : k < rows.length) (hkj : gm m k = (j : Int)) :
    Srch rows C m (B.set k true) (q ++ [k]) fun i j' => i = x ∧ j + 1 ≤ j' := by
  have hl := h.len
  have hkS : Short rows C m k := .step x j k (h.sound x hx hxb) hj hf hk hkj
  refine ⟨by rw [List.length_set]; exact hl, fun i hi hb => ?_, fun i hi e => ?_, fun i hi => ?_, fun i j' k' hi hb hq hxx hj' hf' hk' hm => ?_⟩
  · rw [gB_put (by omega)] at hb
    split at hb
    · rename_i e; subst e; exact hkS
    · exact h.sound i hi hb
  · rw [gB_put (by omega)]
    split
    · rfl
    · exact h.un i hi e
  · rcases List.mem_append.1 hi with hi | hi
    · have := h.inq i hi
      refine ⟨this.1, ?_⟩
      rw [gB_put (by omega)]
      split
      · rfl
      · exact this.2
    · rw [List.mem_singleton] at hi
      subst hi
      exact ⟨hk, by rw [gB_put (by omega), if_pos rfl]⟩
  · rw [gB_put (by omega)]
    by_cases ek : k' = k
    · rw [if_pos ek]
    · rw [if_neg ek]
      have hik : i ≠ k := fun e => hq (List.mem_append_right _ (by rw [e]; exact List.mem_singleton.2 rfl))
      rw [gB_put (by omega), if_neg hik] at hb
      by_cases e : i = x ∧ j ≤ j'
      · have e2 : j' = j := by
          have : ¬ (j + 1 ≤ j') := fun k => hxx ⟨e.1, k⟩
          omega
        subst e2
        exact absurd (hv.ne k k' hk hk' (by omega) (by omega)) ek
      · exact h.closed i j' k' hi hb (fun hq' => hq (List.mem_append_left _ hq')) e hj' hf' hk' hm
theorem Srch.scanned {rows : List (List Int)} {C : Nat} {m : List Int} {B : List Bool} {x : Nat} {q : List Nat} (h : Srch rows C m B q fun i j' => i = x ∧ C ≤ j') : Srch rows C m B q fun _ _ => False :=
  ⟨h.len, h.sound, h.un, h.inq, fun i j k hi hb hq _ hj hf hk hm => h.closed i j k hi hb hq (fun e => by omega) hj hf hk hm⟩
theorem Srch.done {rows : List (List Int)} {C : Nat} {m : List Int} {B : List Bool} (h : Srch rows C m B [] fun _ _ => False) : ∀ i, i < rows.length → (gB B i = true ↔ Short rows C m i) := fun i hi => by
  refine ⟨h.sound i hi, fun hs => ?_⟩
  induction hs with
  | un i hi e => exact h.un i hi e
  | step i j k h1 h2 h3 h4 h5 ih => exact h.closed i j k h1.lt (ih h1.lt) (by simp) (fun h => h) h2 h3 h4 h5
theorem cntN_put {B : List Bool} {k n : Nat} (h : k < B.length) (hk : k < n) (hb : gB B k = false) : cntN (gB (B.set k true)) n = cntN (gB B) n + 1 := by
  induction n with
  | zero => omega
  | succ n ih =>
    rw [cntN, cntN, gB_put h]
    by_cases e : n = k
    · subst e
      rw [if_pos rfl, if_pos rfl, if_neg (by rw [hb]; exact Bool.false_ne_true)]
      have same : ∀ d, d ≤ n → cntN (gB (B.set n true)) d = cntN (gB B) d := by
        intro d
        induction d with
        | zero => intro _; rfl
        | succ d ihd =>
          intro hd
          have e : gB (B.set n true) d = gB B d := by rw [gB_put h, if_neg (by omega)]
          rw [cntN, cntN, ihd (by omega), e]
      rw [same n (Nat.le_refl _)]
    · rw [if_neg e, ih (by omega)]; omega
end Go.Proofs.Ytcaokpglbolkcaa
