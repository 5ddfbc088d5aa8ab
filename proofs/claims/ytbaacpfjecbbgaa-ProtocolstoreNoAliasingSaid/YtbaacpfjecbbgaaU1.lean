/- Chapter 15: plain order; a store and a book in memory; clone, find, newest; the store's reading methods. -/
import Derived.Test.YtbaacpfjecbbgaaHj
import Derived.Test.YtbaacpfjecbbgaaHm
import Derived.Test.YtbaacpfjecbbgaaNfP
import Derived.Test.YtbaacpfjecbbgaaNf5
import Derived.Test.YtbaacpfjecbbgaaNf7
namespace Go.Proofs.Ytbaacpfjecbbgaa
open Go Go.Nf

/-! ### the order of texts -/
def ltB (a b : ByteArray) : Bool := Op.bytesLess a.toList b.toList
theorem less_irrefl : ∀ x : List UInt8, Op.bytesLess x x = false
  | [] => rfl
  | a :: x => by
    rw [Op.bytesLess, less_irrefl x]
    simp
theorem less_trans : ∀ x y z : List UInt8, Op.bytesLess x y = true → Op.bytesLess y z = true → Op.bytesLess x z = true
  | _, _, [], _, h => by cases ‹List UInt8› <;> simp [Op.bytesLess] at h
  | _, [], _ :: _, h, _ => by cases ‹List UInt8› <;> simp [Op.bytesLess] at h
  | [], _ :: _, _ :: _, _, _ => rfl
  | a :: x, b :: y, c :: z, h, k => by
    simp only [Op.bytesLess, Bool.or_eq_true, decide_eq_true_eq, Bool.and_eq_true, beq_iff_eq, UInt8.lt_iff_toNat_lt] at h k ⊢
    rcases h with h | ⟨rfl, h⟩
    · rcases k with k | ⟨rfl, k⟩
      · exact .inl (by omega)
      · exact .inl h
    · rcases k with k | ⟨rfl, k⟩
      · exact .inl k
      · exact .inr ⟨rfl, less_trans x y z h k⟩
theorem less_tri : ∀ x y : List UInt8, Op.bytesLess x y = true ∨ x = y ∨ Op.bytesLess y x = true
  | [], [] => .inr (.inl rfl)
  | [], _ :: _ => .inl rfl
  | _ :: _, [] => .inr (.inr rfl)
  | a :: x, b :: y => by
    simp only [Op.bytesLess, Bool.or_eq_true, decide_eq_true_eq, Bool.and_eq_true, beq_iff_eq, UInt8.lt_iff_toNat_lt, List.cons.injEq]
    rcases Nat.lt_trichotomy a.toNat b.toNat with h | h | h
    · exact .inl (.inl h)
    · have e : a = b := UInt8.toNat_inj.1 h
      subst e
      rcases less_tri x y with h | h | h
      · exact .inl (.inr ⟨rfl, h⟩)
      · exact .inr (.inl ⟨rfl, h⟩)
      · exact .inr (.inr (.inr ⟨rfl, h⟩))
    · exact .inr (.inr (.inl h))
theorem ltB_irrefl (a : ByteArray) : ltB a a = false := less_irrefl _
theorem ltB_trans {a b c : ByteArray} (h : ltB a b = true) (k : ltB b c = true) : ltB a c = true := less_trans _ _ _ h k
theorem ltB_tri (a b : ByteArray) : ltB a b = true ∨ a = b ∨ ltB b a = true := by
  rcases less_tri a.toList b.toList with h | h | h
  · exact .inl h
  · refine .inr (.inl (sb_inj ?_))
    rw [ByteArray.toList_eq, ByteArray.toList_eq] at h
    exact h
  · exact .inr (.inr h)
theorem ltB_ne {a b : ByteArray} (h : ltB a b = true) : a ≠ b := fun e => by rw [e, ltB_irrefl] at h; cases h
theorem ltB_asymm {a b : ByteArray} (h : ltB a b = true) : ltB b a = false := by
  cases k : ltB b a
  · rfl
  · have := ltB_trans h k
    rw [ltB_irrefl] at this; cases this

/-! ### keys -/
/-- key n v lies before key n' v' -/
def Lt (n : ByteArray) (v : Int) (n' : ByteArray) (v' : Int) : Prop := ltB n n' = true ∨ (n = n' ∧ v < v')
theorem Lt.irrefl {n : ByteArray} {v : Int} : ¬ Lt n v n v := fun h => by
  rcases h with h | ⟨-, h⟩
  · rw [ltB_irrefl] at h; cases h
  · omega
theorem Lt.trans {n n' n'' : ByteArray} {v v' v'' : Int} (h : Lt n v n' v') (k : Lt n' v' n'' v'') : Lt n v n'' v'' := by
  rcases h with h | ⟨rfl, h⟩
  · rcases k with k | ⟨rfl, k⟩
    · exact .inl (ltB_trans h k)
    · exact .inl h
  · rcases k with k | ⟨rfl, k⟩
    · exact .inl k
    · exact .inr ⟨rfl, by omega⟩
theorem Lt.tri (n : ByteArray) (v : Int) (n' : ByteArray) (v' : Int) : Lt n v n' v' ∨ (n = n' ∧ v = v') ∨ Lt n' v' n v := by
  rcases ltB_tri n n' with h | h | h
  · exact .inl (.inl h)
  · rcases Int.lt_trichotomy v v' with k | k | k
    · exact .inl (.inr ⟨h, k⟩)
    · exact .inr (.inl ⟨h, k⟩)
    · exact .inr (.inr (.inr ⟨h.symm, k⟩))
  · exact .inr (.inr (.inl h))
abbrev Before (a b : Prot) : Prop := Lt a.name a.version b.name b.version
def Sorted (S : List Prot) : Prop := S.Pairwise Before
/-- the search's question at a protocol: does it lie at the key or behind it -/
def geB (n : ByteArray) (v : Int) (t : Prot) : Bool := if strEq t.name n then decide (v ≤ t.version) else ltB n t.name
theorem geB_iff {n : ByteArray} {v : Int} {t : Prot} : geB n v t = true ↔ ¬ Lt t.name t.version n v := by
  unfold geB
  constructor
  · intro h k
    cases e : strEq t.name n
    · rw [e] at h
      rcases k with k | ⟨k, -⟩
      · simp only [Bool.false_eq_true, if_false] at h
        rw [ltB_asymm h] at k; cases k
      · rw [strEq_iff.2 k] at e; cases e
    · rw [e] at h
      have e := strEq_iff.1 e
      simp only [if_true, decide_eq_true_eq] at h
      rcases k with k | ⟨-, k⟩
      · exact ltB_ne k e
      · omega
  · intro k
    cases e : strEq t.name n
    · simp only [Bool.false_eq_true, if_false]
      rcases ltB_tri t.name n with h | h | h
      · exact absurd (.inl h) k
      · rw [strEq_iff.2 h] at e; cases e
      · exact h
    · have e := strEq_iff.1 e
      simp only [if_true, decide_eq_true_eq]
      refine Decidable.byContradiction fun h => k (.inr ⟨e, by omega⟩)
theorem geB_mono {n : ByteArray} {v : Int} {a b : Prot} (hb : Before a b) (h : geB n v a = true) : geB n v b = true := by
  rw [geB_iff] at h ⊢
  exact fun k => h (hb.trans k)
theorem gt_mono {n : ByteArray} {a b : Prot} (hb : Before a b) (h : ltB n a.name = true) : ltB n b.name = true := by
  rcases hb with k | ⟨k, -⟩
  · exact ltB_trans h k
  · rw [← k]; exact h

/-- no two of one key -/
def Uniq (l : List Prot) : Prop := l.Pairwise fun a b => ¬ (a.name = b.name ∧ a.version = b.version)
theorem Sorted.uniq {S : List Prot} (h : Sorted S) : Uniq S := List.Pairwise.imp (fun {a b} k ⟨e1, e2⟩ => by unfold Before at k; rw [e1, e2] at k; exact Lt.irrefl k) h
theorem uniq_perm {l l' : List Prot} (h : l.Perm l') (u : Uniq l) : Uniq l' := h.pairwise u fun k ⟨e1, e2⟩ => k ⟨e1.symm, e2.symm⟩
theorem Uniq.eq {l : List Prot} (h : Uniq l) {a b : Prot} (ha : a ∈ l) (hb : b ∈ l) (e1 : a.name = b.name) (e2 : a.version = b.version) : a = b := by
  induction l with
  | nil => cases ha
  | cons x l ih =>
    have h := List.pairwise_cons.1 h
    rcases List.mem_cons.1 ha with rfl | ha' <;> rcases List.mem_cons.1 hb with rfl | hb'
    · rfl
    · exact absurd ⟨e1, e2⟩ (h.1 _ hb')
    · exact absurd ⟨e1.symm, e2.symm⟩ (h.1 _ ha')
    · exact ih h.2 ha' hb'

/-! ### what the two answer -/
/-- the protocol of a key, if there is one -/
def IsGet (l : List Prot) (n : ByteArray) (v : Int) (r : Option Prot) : Prop := (r = none ∧ ∀ u, u ∈ l → ¬ (u.name = n ∧ u.version = v)) ∨ ∃ t, r = some t ∧ t ∈ l ∧ t.name = n ∧ t.version = v
/-- the newest of a name, if there is one -/
def IsNew (l : List Prot) (n : ByteArray) (r : Option Prot) : Prop := (r = none ∧ ∀ u, u ∈ l → u.name ≠ n) ∨ ∃ t, r = some t ∧ t ∈ l ∧ t.name = n ∧ ∀ u, u ∈ l → u.name = n → u.version ≤ t.version
theorem isGet_one {l : List Prot} (h : Uniq l) {n : ByteArray} {v : Int} {r r' : Option Prot} (a : IsGet l n v r) (b : IsGet l n v r') : r = r' := by
  rcases a with ⟨rfl, a⟩ | ⟨t, rfl, h1, h2, h3⟩ <;> rcases b with ⟨rfl, b⟩ | ⟨t', rfl, k1, k2, k3⟩
  · rfl
  · exact absurd ⟨k2, k3⟩ (a _ k1)
  · exact absurd ⟨h2, h3⟩ (b _ h1)
  · rw [h.eq h1 k1 (h2.trans k2.symm) (h3.trans k3.symm)]
theorem isNew_one {l : List Prot} (h : Uniq l) {n : ByteArray} {r r' : Option Prot} (a : IsNew l n r) (b : IsNew l n r') : r = r' := by
  rcases a with ⟨rfl, a⟩ | ⟨t, rfl, h1, h2, h3⟩ <;> rcases b with ⟨rfl, b⟩ | ⟨t', rfl, k1, k2, k3⟩
  · rfl
  · exact absurd k2 (a _ k1)
  · exact absurd h2 (b _ h1)
  · have := h3 _ k1 k2
    have := k3 _ h1 h2
    rw [h.eq h1 k1 (h2.trans k2.symm) (by omega)]
theorem isGet_perm {l l' : List Prot} (p : l.Perm l') {n : ByteArray} {v : Int} {r : Option Prot} (a : IsGet l n v r) : IsGet l' n v r := by
  rcases a with ⟨rfl, a⟩ | ⟨t, rfl, h1, h2⟩
  · exact .inl ⟨rfl, fun u hu => a u (p.mem_iff.2 hu)⟩
  · exact .inr ⟨t, rfl, p.mem_iff.1 h1, h2⟩
theorem isNew_perm {l l' : List Prot} (p : l.Perm l') {n : ByteArray} {r : Option Prot} (a : IsNew l n r) : IsNew l' n r := by
  rcases a with ⟨rfl, a⟩ | ⟨t, rfl, h1, h2, h3⟩
  · exact .inl ⟨rfl, fun u hu => a u (p.mem_iff.2 hu)⟩
  · exact .inr ⟨t, rfl, p.mem_iff.1 h1, h2, fun u hu => h3 u (p.mem_iff.2 hu)⟩

/-- the store's list and the book's -/
structure Sim (S L : List Prot) : Prop where
  sorted : Sorted S
  perm : L.Perm S
  each : ∀ n, L.filter (fun t => strEq t.name n) = S.filter fun t => strEq t.name n
theorem Sim.nil : Sim [] [] := ⟨.nil, .refl _, fun _ => rfl⟩
theorem Sim.uniqL {S L : List Prot} (h : Sim S L) : Uniq L := uniq_perm h.perm.symm h.sorted.uniq
theorem Sim.get {S L : List Prot} (h : Sim S L) {n : ByteArray} {v : Int} {r r' : Option Prot} (a : IsGet S n v r) (b : IsGet L n v r') : r = r' := isGet_one h.sorted.uniq a (isGet_perm h.perm b)
theorem Sim.new {S L : List Prot} (h : Sim S L) {n : ByteArray} {r r' : Option Prot} (a : IsNew S n r) (b : IsNew L n r') : r = r' := isNew_one h.sorted.uniq a (isNew_perm h.perm b)
/-- a cut of the sorted list at a key -/
structure Cut (S A B : List Prot) (n : ByteArray) (v : Int) : Prop where
  eq : S = A ++ B
  below : ∀ t, t ∈ A → Lt t.name t.version n v
  above : ∀ t, t ∈ B → ¬ Lt t.name t.version n v
def hit (B : List Prot) (n : ByteArray) (v : Int) : Bool := match B with
  | t :: _ => strEq t.name n && decide (t.version = v)
  | [] => false
theorem Cut.none {S A B : List Prot} {n : ByteArray} {v : Int} (hs : Sorted S) (h : Cut S A B n v) (hh : hit B n v = false) : ∀ u, u ∈ S → ¬ (u.name = n ∧ u.version = v) := by
  obtain ⟨rfl, h1, h2⟩ := h
  rintro u hu ⟨rfl, rfl⟩
  rcases List.mem_append.1 hu with hu | hu
  · exact Lt.irrefl (h1 _ hu)
  · cases B with
    | nil => cases hu
    | cons t B =>
      rcases List.mem_cons.1 hu with rfl | hu
      · have e : (strEq u.name u.name && decide (u.version = u.version)) = false := hh
        rw [strEq_iff.2 rfl] at e; simp at e
      · have hs := (List.pairwise_cons.1 (List.pairwise_append.1 hs).2.1).1 u hu
        exact h2 t (.head _) hs
theorem Cut.some {S A B : List Prot} {n : ByteArray} {v : Int} (h : Cut S A B n v) (hh : hit B n v = true) : ∃ t B', B = t :: B' ∧ t ∈ S ∧ t.name = n ∧ t.version = v := by
  cases B with
  | nil => cases hh
  | cons t B =>
    unfold hit at hh
    simp only [Bool.and_eq_true, decide_eq_true_eq] at hh
    exact ⟨t, B, rfl, by rw [h.eq]; simp, strEq_iff.1 hh.1, hh.2⟩
theorem Sim.put {S L A B : List Prot} {t : Prot} (h : Sim S L) (c : Cut S A B t.name t.version) (hh : hit B t.name t.version = false) (hn : ∀ u, u ∈ S → u.name = t.name → u.version ≤ t.version) : Sim (A ++ t :: B) (L ++ [t]) := by
  have hno := c.none h.sorted hh
  obtain ⟨rfl, h1, h2⟩ := c
  have hB : ∀ u, u ∈ B → Before t u ∧ u.name ≠ t.name := fun u hu => by
    rcases Lt.tri t.name t.version u.name u.version with k | ⟨k1, k2⟩ | k
    · refine ⟨k, fun e => ?_⟩
      have := hn u (List.mem_append_right _ hu) e
      rcases k with k | ⟨-, k⟩
      · exact ltB_ne k e.symm
      · omega
    · exact absurd ⟨k1.symm, k2.symm⟩ (hno u (List.mem_append_right _ hu))
    · exact absurd k (h2 u hu)
  have hs := List.pairwise_append.1 h.sorted
  refine ⟨List.pairwise_append.2 ⟨hs.1, List.pairwise_cons.2 ⟨fun u hu => (hB u hu).1, hs.2.1⟩, fun a ha b hb => ?_⟩, ?_, fun n => ?_⟩
  · rcases List.mem_cons.1 hb with rfl | hb
    · exact h1 _ ha
    · exact hs.2.2 _ ha _ hb
  · have : (L ++ [t]).Perm (t :: L) := List.perm_append_comm (l₁ := L) (l₂ := [t])
    exact this.trans ((h.perm.cons t).trans List.perm_middle.symm)
  · rw [List.filter_append, h.each n, List.filter_append, List.filter_append, List.filter_cons, List.append_assoc]
    congr 1
    cases e : strEq t.name n
    · simp [e]
    · have e' := strEq_iff.1 e
      have : B.filter (fun u => strEq u.name n) = [] := by
        rw [List.filter_eq_nil_iff]
        intro u hu k
        exact (hB u hu).2 ((strEq_iff.1 k).trans e'.symm)
      simp [e, this]
/-- is it not the one of the key -/
def offB (n : ByteArray) (v : Int) (t : Prot) : Bool := !(strEq t.name n && decide (t.version = v))
theorem offB_iff {n : ByteArray} {v : Int} {t : Prot} : offB n v t = true ↔ ¬ (t.name = n ∧ t.version = v) := by
  unfold offB
  rw [Bool.not_eq_true', Bool.and_eq_false_iff, decide_eq_false_iff_not]
  constructor
  · rintro (h | h) ⟨k1, k2⟩
    · rw [strEq_iff.2 k1] at h; cases h
    · exact h k2
  · intro h
    by_cases k : t.version = v
    · refine .inl ?_
      cases e : strEq t.name n
      · rfl
      · exact absurd ⟨strEq_iff.1 e, k⟩ h
    · exact .inr k
theorem Sim.drop {S L : List Prot} (h : Sim S L) (n : ByteArray) (v : Int) : Sim (S.filter (offB n v)) (L.filter (offB n v)) := by
  refine ⟨h.sorted.sublist List.filter_sublist, h.perm.filter _, fun m => ?_⟩
  rw [List.filter_filter, List.filter_filter]
  have := congrArg (List.filter (offB n v)) (h.each m)
  rw [List.filter_filter, List.filter_filter] at this
  simpa only [Bool.and_comm] using this
theorem Cut.erase {S A B : List Prot} {t : Prot} (hs : Sorted S) (c : Cut S A (t :: B) t.name t.version) : S.filter (offB t.name t.version) = A ++ B := by
  obtain ⟨rfl, h1, -⟩ := c
  rw [List.filter_append, List.filter_cons]
  have ht : offB t.name t.version t = false := by
    cases e : offB t.name t.version t
    · rfl
    · exact absurd ⟨rfl, rfl⟩ (offB_iff.1 e)
  rw [if_neg (by rw [ht]; exact Bool.false_ne_true)]
  congr 1
  · rw [List.filter_eq_self]
    intro u hu
    rw [offB_iff]
    rintro ⟨e1, e2⟩
    have := h1 u hu
    rw [e1, e2] at this
    exact Lt.irrefl this
  · rw [List.filter_eq_self]
    intro u hu
    rw [offB_iff]
    rintro ⟨e1, e2⟩
    have := (List.pairwise_cons.1 (List.pairwise_append.1 hs).2.1).1 u hu
    rw [Before, e1, e2] at this
    exact Lt.irrefl this

/-! ### names -/
/-- all the names, ascending -/
def Names (l : List Prot) (ns : List ByteArray) : Prop := ns.Pairwise (fun a b => ltB a b = true) ∧ ∀ n, n ∈ ns ↔ ∃ t, t ∈ l ∧ t.name = n
theorem asc_one : ∀ {a b : List ByteArray}, a.Pairwise (fun a b => ltB a b = true) → b.Pairwise (fun a b => ltB a b = true) → (∀ n, n ∈ a ↔ n ∈ b) → a = b
  | [], [], _, _, _ => rfl
  | [], y :: b, _, _, h => absurd ((h y).2 (.head _)) (by simp)
  | x :: a, [], _, _, h => absurd ((h x).1 (.head _)) (by simp)
  | x :: a, y :: b, ha, hb, h => by
    have ha := List.pairwise_cons.1 ha
    have hb := List.pairwise_cons.1 hb
    have e : x = y := by
      rcases List.mem_cons.1 ((h x).1 (.head _)) with e | h1
      · exact e
      · rcases List.mem_cons.1 ((h y).2 (.head _)) with e | h2
        · exact e.symm
        · have k1 := hb.1 _ h1
          have k2 := ha.1 _ h2
          rw [ltB_asymm k1] at k2; cases k2
    subst e
    refine congrArg _ (asc_one ha.2 hb.2 fun n => ⟨fun hn => ?_, fun hn => ?_⟩)
    · rcases List.mem_cons.1 ((h n).1 (.tail _ hn)) with rfl | k
      · have := ha.1 _ hn; rw [ltB_irrefl] at this; cases this
      · exact k
    · rcases List.mem_cons.1 ((h n).2 (.tail _ hn)) with rfl | k
      · have := hb.1 _ hn; rw [ltB_irrefl] at this; cases this
      · exact k
theorem Sim.names {S L : List Prot} (h : Sim S L) {a b : List ByteArray} (ha : Names S a) (hb : Names L b) : a = b :=
  asc_one ha.1 hb.1 fun n => by
    rw [ha.2, hb.2]
    exact ⟨fun ⟨t, h1, h2⟩ => ⟨t, h.perm.mem_iff.2 h1, h2⟩, fun ⟨t, h1, h2⟩ => ⟨t, h.perm.mem_iff.1 h1, h2⟩⟩
/-- the versions of a name -/
def versionsOf (l : List Prot) (n : ByteArray) : List Int := (l.filter fun t => strEq t.name n).map (·.version)
theorem Sim.versions {S L : List Prot} (h : Sim S L) (n : ByteArray) : versionsOf S n = versionsOf L n := by unfold versionsOf; rw [h.each]

/-! ### records of one width -/
section
variable {α : Type} {f : α → List Value} {k : Nat} (hk : ∀ m, (f m).length = k)
include hk
theorem recs_flat' (h0 : 0 < k) {w : World} {A : Nat → Prop} {a : Addr} {bs : List α} (h : Recs w A (some a) k (bs.map f)) : ∀ j u, (bs.flatMap f)[j]? = some u → w.cell? (a.add j) = some u := fun j u hj => by
  have e : j = j / k * k + j % k := by rw [Nat.mul_comm]; exact (Nat.div_add_mod j k).symm
  rw [e, flat_get hk bs _ _ (Nat.mod_lt _ h0)] at hj
  cases hb : bs[j / k]? with
  | none => rw [hb] at hj; cases hj
  | some b =>
    rw [hb] at hj
    obtain ⟨a', ha', -, hc⟩ := h (j / k) (f b) (by rw [List.getElem?_map, hb]; rfl)
    cases ha'
    have := hc _ _ hj
    rw [toNat_cast, add_add] at this
    rw [e]; exact this
theorem own_recs' {w : World} {B T : Nat} {o : Option Addr} {n c : Nat} {bs : List α} (h0 : 0 < k) (h : Own w B T k o n c (bs.flatMap f)) : Recs w (inBlock o) o k (bs.map f) := fun i row hi => by
  have hl := h.length
  rw [flat_length hk] at hl
  have hl := Nat.eq_of_mul_eq_mul_right h0 hl
  rw [List.getElem?_map] at hi
  cases hb : bs[i]? with
  | none => rw [hb] at hi; cases hi
  | some b =>
    rw [hb] at hi
    cases hi
    have hil : i < bs.length := by
      rcases Nat.lt_or_ge i bs.length with h | h
      · exact h
      · rw [List.getElem?_eq_none h] at hb; cases hb
    obtain ⟨g, l, rfl, hr, ht, _⟩ := h.head (by omega)
    refine ⟨_, rfl, ⟨_, rfl, rfl⟩, fun j v hj => h.cell2 ?_⟩
    have hjk : j < k := by
      rcases Nat.lt_or_ge j k with h | h
      · exact h
      · rw [List.getElem?_eq_none (by rw [hk]; exact h)] at hj; cases hj
    rw [toNat_cast, flat_get hk bs i j hjk, hb]
    exact hj
end

/-! ### protocols behind a slice -/
abbrev PR := Prot × Option Addr × Nat
def encP (x : PR) : List Value := [.string x.1.name, .int .i64 x.1.version, .slice x.2.1 x.1.qs.length x.2.2]
theorem encP_len (x : PR) : (encP x).length = 3 := rfl
theorem encP_one {l : List PR} : ∀ u ∈ l.flatMap encP, u.oneCell' = true := by
  intro u hu
  obtain ⟨a, -, ha⟩ := List.mem_flatMap.1 hu
  simp only [encP, List.mem_cons, List.not_mem_nil, or_false] at ha
  rcases ha with rfl | rfl | rfl <;> rfl
def Ps (w : World) (A : Nat → Prop) (o : Option Addr) (l : List Prot) : Prop :=
  ∃ rows : List PR, rows.map (·.1) = l ∧ Recs w A o 3 (rows.map encP) ∧ ∀ x, x ∈ rows → Qs w A x.2.1 x.1.qs
theorem Ps.keep {w w' : World} {A S : Nat → Prop} {o : Option Addr} {l : List Prot} (h : Ps w A o l) (g : Only S w w') (hS : ∀ b, A b → ¬ S b) : Ps w' A o l := by
  obtain ⟨rows, h1, h2, h3⟩ := h
  exact ⟨rows, h1, h2.keep g hS, fun x hx => (h3 x hx).keep g hS⟩
theorem Ps.grow {w w' : World} {A : Nat → Prop} {o : Option Addr} {l : List Prot} (h : Ps w A o l) (g : Grow w w') : Ps w' A o l := h.keep g fun _ _ h => h
theorem Ps.mono {w : World} {A A' : Nat → Prop} {o : Option Addr} {l : List Prot} (h : Ps w A o l) (hA : ∀ b, A b → A' b) : Ps w A' o l := by
  obtain ⟨rows, h1, h2, h3⟩ := h
  exact ⟨rows, h1, h2.mono hA, fun x hx => (h3 x hx).mono hA⟩
theorem Ps.nil (w : World) (A : Nat → Prop) (o : Option Addr) : Ps w A o [] := ⟨[], rfl, Recs.nil _ _ _ _, fun _ h => by cases h⟩
theorem Ps.get {w : World} {A : Nat → Prop} {o : Option Addr} {l : List Prot} (h : Ps w A o l) {i : Nat} (hi : i < l.length) :
    ∃ a qo qc, o = some a ∧ A a.block ∧ w.cell? (a.add ((i : Int).toNat * 3)) = some (.string l[i].name) ∧ w.cell? ((a.add ((i : Int).toNat * 3)).add 1) = some (.int .i64 l[i].version) ∧
      w.cell? ((a.add ((i : Int).toNat * 3)).add 2) = some (.slice qo l[i].qs.length qc) ∧ Qs w A qo l[i].qs := by
  obtain ⟨rows, rfl, h2, h3⟩ := h
  have hi' : i < rows.length := by simpa using hi
  obtain ⟨a, ha, hA, hc⟩ := h2 i (encP rows[i]) (by rw [List.getElem?_map, List.getElem?_eq_getElem hi']; rfl)
  have e : (rows.map (·.1))[i] = rows[i].1 := by simp
  rw [e]
  have h0 := hc 0 _ rfl
  rw [add_zero] at h0
  exact ⟨a, _, _, ha, hA, h0, hc 1 _ rfl, hc 2 _ rfl, h3 _ (List.getElem_mem hi')⟩

/-! ### pins -/
structure Pn where
  call : Int
  name : ByteArray
  version : Int
def encPn (p : Pn) : List Value := [.int .i64 p.call, .string p.name, .int .i64 p.version]
theorem encPn_len (p : Pn) : (encPn p).length = 3 := rfl
theorem encPn_one {l : List Pn} : ∀ u ∈ l.flatMap encPn, u.oneCell' = true := by
  intro u hu
  obtain ⟨a, -, ha⟩ := List.mem_flatMap.1 hu
  simp only [encPn, List.mem_cons, List.not_mem_nil, or_false] at ha
  rcases ha with rfl | rfl | rfl <;> rfl
def pinV (p : Pn) : Int × Value := (p.call, .agg #[.string p.name, .int .i64 p.version])

/-- a store at block t, its pins at block m; it may write the blocks that M names, the questions lie in blocks that D names -/
structure St (w : World) (B t m : Nat) (M D : Nat → Prop) (S : List Prot) (P : List Pn) : Prop where
  ex : ∃ (o : Option Addr) (c : Nat) (rows : List PR), Row w t 117 [.slice o S.length c, .map (some m)] ∧ Own w B 24 3 o S.length c (rows.flatMap encP) ∧ rows.map (·.1) = S ∧ (∀ x, x ∈ rows → Qs w D x.2.1 x.1.qs) ∧ ∀ b, inBlock o b → M b
  pins : MapAt w m (P.map pinV)
  mt : M t
  mm : M m
  ms : ∀ b, M b → B ≤ b ∧ b < hs w
  ds : ∀ b, D b → b < hs w ∧ ¬ M b
  one : (P.map (·.call)).Nodup
theorem St.keep {X : Nat → Prop} {w w' : World} {B t m : Nat} {M D : Nat → Prop} {S : List Prot} {P : List Pn} (h : St w B t m M D S P) (g : Only X w w') (h1 : ∀ b, M b → ¬ X b) (h2 : ∀ b, D b → ¬ X b) : St w' B t m M D S P := by
  obtain ⟨o, c, rows, a1, a2, a3, a4, a5⟩ := h.ex
  have hsz := g.size
  exact ⟨⟨o, c, rows, a1.keep g (h1 _ h.mt), a2.keep g fun b hb => h1 b (a5 b hb), a3, fun x hx => (a4 x hx).keep g h2, a5⟩, h.pins.keep g (h1 _ h.mm), h.mt, h.mm,
    fun b hb => ⟨(h.ms b hb).1, by have := (h.ms b hb).2; omega⟩, fun b hb => ⟨by have := (h.ds b hb).1; omega, (h.ds b hb).2⟩, h.one⟩
theorem St.grow {w w' : World} {B t m : Nat} {M D : Nat → Prop} {S : List Prot} {P : List Pn} (h : St w B t m M D S P) (g : Grow w w') : St w' B t m M D S P := h.keep g (fun _ _ h => h) fun _ _ h => h
theorem St.read {w : World} {B t m : Nat} {M D : Nat → Prop} {S : List Prot} {P : List Pn} (h : St w B t m M D S P) : ∃ o c, Row w t 117 [.slice o S.length c, .map (some m)] ∧ Ps w (fun _ => True) o S := by
  obtain ⟨o, c, rows, a1, a2, a3, a4, a5⟩ := h.ex
  exact ⟨o, c, a1, rows, a3, (own_recs' encP_len (by omega) a2).mono fun _ _ => trivial, fun x hx => (a4 x hx).mono fun _ _ => trivial⟩
/-- a book -/
structure Bk (w : World) (E : Nat → Prop) (oL oP : Option Addr) (L : List Prot) (P : List Pn) : Prop where
  l : Ps w E oL L
  p : Recs w E oP 3 (P.map encPn)
  es : ∀ b, E b → b < hs w
theorem Bk.keep {X : Nat → Prop} {w w' : World} {E : Nat → Prop} {oL oP : Option Addr} {L : List Prot} {P : List Pn} (h : Bk w E oL oP L P) (g : Only X w w') (hX : ∀ b, E b → ¬ X b) : Bk w' E oL oP L P :=
  ⟨h.l.keep g hX, h.p.keep g hX, fun b hb => by have := h.es b hb; have := g.size; omega⟩
theorem Bk.grow {w w' : World} {E : Nat → Prop} {oL oP : Option Addr} {L : List Prot} {P : List Pn} (h : Bk w E oL oP L P) (g : Grow w w') : Bk w' E oL oP L P := h.keep g fun _ _ h => h

abbrev CQ := ByteArray × Option Addr × Nat × Nat
def zeroQ : CQ := (ByteArray.mk #[], none, 0, 0)
/-- a row of n questions, of which the first j are copies -/
def Part (w : World) (B : Nat) (o : Option Addr) (n c : Nat) (qs : List Qst) (j : Nat) : Prop :=
  ∃ cs : List CQ, cs.length = n ∧ Own w B 38 2 o n c (cs.flatMap encQ) ∧ ∀ (i : Nat) q, i < j → qs[i]? = some q → ∃ oi ci, cs[i]? = some (q.text, oi, q.ans.length, ci) ∧ Own w B 58 4 oi q.ans.length ci (q.ans.flatMap encA)
theorem Part.keep {S : Nat → Prop} {w w' : World} {B : Nat} {o : Option Addr} {n c : Nat} {qs : List Qst} {j : Nat} (h : Part w B o n c qs j) (g : Only S w w') (hS : ∀ b, B ≤ b → ¬ S b) : Part w' B o n c qs j := by
  obtain ⟨cs, h1, h2, h3⟩ := h
  refine ⟨cs, h1, h2.keep g fun b hb => hS b (h2.base b hb).1, fun i q hi hq => ?_⟩
  obtain ⟨oi, ci, h4, h5⟩ := h3 i q hi hq
  exact ⟨oi, ci, h4, h5.keep g fun b hb => hS b (h5.base b hb).1⟩
theorem Part.grow {w w' : World} {B : Nat} {o : Option Addr} {n c : Nat} {qs : List Qst} {j : Nat} (h : Part w B o n c qs j) (g : Grow w w') : Part w' B o n c qs j := h.keep g fun _ _ h => h
theorem Part.done {w : World} {B : Nat} {o : Option Addr} {c : Nat} {qs : List Qst} (h : Part w B o qs.length c qs qs.length) : Qs w (fun b => B ≤ b ∧ b < hs w) o qs := by
  obtain ⟨cs, h1, h2, h3⟩ := h
  exact Copied.qs (c := c) ⟨cs, h1, h2, h3⟩
theorem Part.low {w : World} {B B' : Nat} {o : Option Addr} {n c : Nat} {qs : List Qst} {j : Nat} (h : Part w B o n c qs j) (hB : B' ≤ B) : Part w B' o n c qs j := by
  obtain ⟨cs, h1, h2, h3⟩ := h
  refine ⟨cs, h1, h2.mono hB, fun i q hi hq => ?_⟩
  obtain ⟨oi, ci, h4, h5⟩ := h3 i q hi hq
  exact ⟨oi, ci, h4, h5.mono hB⟩
theorem zeroL38 : zeroL Try.prog 38 = some [.string (ByteArray.mk #[]), .slice none 0 0] := by kernel_rfl
theorem Part.made {w w1 : World} {n : Nat} {qs : List Qst} {B : Nat} (hB : B ≤ hs w) (hn : n ≤ 1000) (e : w1 = w.alloc (.cells ((List.replicate (n : Int).toNat [Value.string (ByteArray.mk #[]), .slice none 0 0]).flatten).toArray 38 (0, 0))) : Part w1 B (some ⟨hs w, 0, none⟩) n n qs 0 := by
  have r := Row.new e
  rw [toNat_cast] at r
  have hf : (List.replicate n [Value.string (ByteArray.mk #[]), .slice none 0 0]).flatten = (List.replicate n zeroQ).flatMap encQ := by
    rw [List.flatMap_def, List.map_replicate]; rfl
  rw [hf] at r
  exact ⟨List.replicate n zeroQ, by simp, r.own hB (by rw [flat_length encQ_len]; simp) (by simp [maxLen]; omega), fun i q hi => by omega⟩
set_option maxHeartbeats 2000000 in
theorem cloneP_o (o : Option Addr) (c : Nat) (p : Prot) (hq : p.qs.length ≤ 1000) (hans : ∀ q, q ∈ p.qs → q.ans.length ≤ 1000) (w : World) {A : Nat → Prop} (h : Qs w A o p.qs) :
    Calls Try.prog 85 #[.agg #[.string p.name, .int .i64 p.version, .slice o p.qs.length c]] w fun e w' => ∃ o' c', e = .returned (.agg #[.string p.name, .int .i64 p.version, .slice o' p.qs.length c']) ∧ Part w' (hs w) o' p.qs.length c' p.qs p.qs.length ∧ Grow w w' := by
  refine nf85 p.name p.version o p.qs.length c w _ fun w1 e1 w3 e3 w5 e5 => ?_
  have r1 := Row.new e1
  have r3 := Row.new e3
  have g1 : Grow w w1 := only_alloc e1
  have g3 : Grow w1 w3 := only_alloc e3
  have g5 : Grow w3 w5 := only_drew e5
  have r15 := (r1.grow g3).grow g5
  have r35 := r3.grow g5
  have G5 := (g1.trans' g3).trans' g5
  have s1 := g1.size
  have s3 := g3.size
  have s5 := g5.size
  have l15 := r15.lt
  have l35 := r35.lt
  refine ⟨_, r15.cell rfl, _, r15.cell rfl, _, _, _, r15.cell rfl, ?a, fun w13 e13 => ?b⟩
  case' a =>
    refine run_make_row elem22 zeroL38 (by omega) (by omega) (by omega) (by omega) fun w13 e13 => ?_
    rw [toNat_cast]
    have g13 : Grow w5 w13 := only_alloc e13
    refine ⟨_, _, _, rfl, kept_only g13 l15 (fun h => h), kept_only g13 l15 (fun h => h), fun w17 e17 => ?_⟩
    have g17 : Grow w13 w17 := only_alloc e17
    have P13 : Part w13 (hs w5) (some ⟨hs w5, 0, none⟩) p.qs.length p.qs.length p.qs 0 := Part.made (Nat.le_refl _) hq (by rw [e13])
    refine ⟨kept_only (g13.trans' g17 : Grow w5 w17) l15 (fun h => h), kept_only (g13.trans' g17 : Grow w5 w17) l15 (fun h => h), (Row.new e17).there (by simp), fun w19 e19 => ?_⟩
    obtain ⟨r19, g19⟩ := loc e17 e19 rfl
    have gg := g13.trans' g19
    have hds := r19.lt
    obtain ⟨g, P19, r19, hdg, hgw⟩ : ∃ g, Part w19 (hs w5) (some ⟨g, 0, none⟩) p.qs.length p.qs.length p.qs 0 ∧ Row w19 (hs w13) 24 [.string p.name, .int .i64 p.version, .slice (some ⟨g, 0, none⟩) p.qs.length p.qs.length] ∧ hs w13 ≠ g ∧ hs w5 ≤ g :=
      ⟨_, P13.grow g19, r19, by have := hs_alloc e13; omega, by omega⟩
  case' b =>
    have g13 : Grow w5 w13 := only_alloc e13
    refine ⟨kept_only g13 l15 (fun h => h), kept_only g13 l15 (fun h => h), kept_only g13 l15 (fun h => h), ?_⟩
    refine run_make_row elem22 zeroL38 (by omega) (by omega) (by omega) (by omega) fun w17 e17 => ?_
    rw [toNat_cast]
    have g17 : Grow w13 w17 := only_alloc e17
    have P13 : Part w17 (hs w5) (some ⟨hs w13, 0, none⟩) p.qs.length p.qs.length p.qs 0 := Part.made g13.size hq (by rw [e17])
    have rd := (Row.new e13).grow g17
    refine ⟨_, _, _, rfl, kept_only (g13.trans' g17 : Grow w5 w17) l15 (fun h => h), kept_only (g13.trans' g17 : Grow w5 w17) l15 (fun h => h), rd.there (by simp), fun w19 e19 => ?_⟩
    have r19 := rd.set e19
    have o19 : Only (fun b => b = hs w5) w17 w19 := only_set e19
    have gg : Grow w5 w19 := (g13.trans' g17).trans o19 fun b hb e => by omega
    have P19 : Part w19 (hs w5) (some ⟨hs w13, 0, none⟩) p.qs.length p.qs.length p.qs 0 := by
      obtain ⟨cs, h1, h2, h3⟩ := P13
      refine ⟨cs, h1, h2.keep o19 fun b hb e => ?_, fun i q hi => by omega⟩
      obtain ⟨a, ha, rfl⟩ := hb
      cases ha
      have := hs_alloc e13
      simp only at e
      omega
    have hds := r19.lt
    obtain ⟨g, P19, r19, hdg, hgw⟩ : ∃ g, Part w19 (hs w5) (some ⟨g, 0, none⟩) p.qs.length p.qs.length p.qs 0 ∧ Row w19 (hs w5) 24 [.string p.name, .int .i64 p.version, .slice (some ⟨g, 0, none⟩) p.qs.length p.qs.length] ∧ hs w5 ≠ g ∧ hs w5 ≤ g :=
      ⟨_, P19, r19, by have := hs_alloc e13; omega, by have := hs_alloc e13; omega⟩
  all_goals
    have q15 := r15.grow gg
    have q35 := r35.grow gg
    have G19 := G5.trans' gg
    have z19 := gg.size
    refine ⟨_, _, _, q15.cell rfl, fun k x w' => ∃ j : Nat, x = (j : Int) ∧ j ≤ p.qs.length ∧ k = p.qs.length - j ∧ Part w' (hs w5) (some ⟨g, 0, none⟩) p.qs.length p.qs.length p.qs j ∧ Only (fun b => b = g) w19 w',
      ⟨_, 0, rfl, Nat.zero_le _, rfl, P19, Only.refl _ _⟩, ?_⟩
    rintro k _ w28 x ⟨j, rfl, hj, rfl, P28, g28⟩
    have G28 : Grow w w28 := G19.trans g28 fun b hb e => by omega
    have z28 := g28.size
    have d28 := r19.keep g28 hdg
    refine ⟨fun hlt => ?_, fun hge => ?_⟩
    · have hlt : j < p.qs.length := by have := dT hlt; omega
      obtain ⟨a, oi, ci, ha, c0, c1, hr⟩ := (h.grow G28).get hlt
      have hal := hans _ (List.getElem_mem hlt)
      refine ⟨a, ha, ⟨by omega, by omega⟩, _, c0, _, _, _, c1, fun w37 e37 => ⟨(Row.new e37).there (by simp), fun w39 e39 w41 e41 => ?_⟩⟩
      obtain ⟨r39, g39⟩ := loc e37 e39 rfl
      have g41 : Grow w39 w41 := only_drew e41
      have GG := g39.trans' g41
      have r41 := r39.grow g41
      have d41 := d28.grow GG
      have z41 := GG.size
      refine ⟨_, _, _, d41.cell rfl, _, r41.cell rfl, _, _, _, r41.cell rfl, ?_⟩
      refine append_ans (xs := []) (own_nil w41 (hs w5) 58 4) (hr.grow GG) (by omega) (by omega) fun o52 c52 w51 p1 p2 => ?_
      have g51 : Grow w41 w51 := p2.mono fun b _ hb => by obtain ⟨a, ha, -⟩ := hb; cases ha
      rw [Nat.zero_add, List.nil_append] at p1
      rw [Nat.zero_add]
      obtain ⟨cs, hcl, hown, hcs⟩ := (P28.grow GG).grow g51
      refine ⟨_, _, _, rfl, kept_only g51 r41.lt (fun h => h), kept_only g51 d41.lt (fun h => h), _, rfl, ⟨by omega, by omega⟩, hown.there (by rw [toNat_cast]; omega), fun w56 e56 => ?_⟩
      have g56 : Only (fun b => b = g) w51 w56 := only_setAdd e56
      have o56 := hown.set e56 (by rw [toNat_cast]; simp only [List.length_cons, List.length_nil]; omega)
      have hset : setFrom (cs.flatMap encQ) ((j : Int).toNat * 2) [.string p.qs[j].text, .slice o52 p.qs[j].ans.length c52] = (cs.set j (p.qs[j].text, o52, p.qs[j].ans.length, c52)).flatMap encQ := by
        have := flat_set encQ_len cs j 0 [.string p.qs[j].text, .slice o52 p.qs[j].ans.length c52] (p.qs[j].text, o52, p.qs[j].ans.length, c52) (by omega) (by simp) rfl
        rw [Nat.add_zero] at this
        rw [toNat_cast]; exact this
      rw [hset] at o56
      have hno : ∀ {ox n cx} {xs : List Value}, Own w51 (hs w5) 58 4 ox n cx xs → ∀ b, inBlock ox b → ¬ b = g := fun hx b hb e => hx.apart hown (by decide) b hb (by rw [e]; exact ⟨_, rfl, rfl⟩)
      refine ⟨_, by omega, j + 1, by rw [wr (by omega)]; omega, hlt, rfl, ⟨_, by rw [List.length_set]; exact hcl, o56, fun i q hi hq' => ?_⟩, ((g28.grow GG).grow g51).trans' g56⟩
      by_cases e : i = j
      · subst e
        rw [List.getElem?_eq_getElem hlt] at hq'
        cases hq'
        exact ⟨o52, c52, by rw [List.getElem?_set_self (by omega)], p1.keep g56 (hno p1)⟩
      · obtain ⟨oi', ci', q1, q2⟩ := hcs i q (by omega) hq'
        exact ⟨oi', ci', by rw [List.getElem?_set_ne (fun h => e h.symm)]; exact q1, q2.keep g56 (hno q2)⟩
    · have := dF hge
      obtain rfl : j = p.qs.length := by omega
      have f28 := q35.keep g28 (by omega)
      refine ⟨_, d28.cell rfl, _, d28.cell rfl, _, _, _, d28.cell rfl, f28.there (by simp), fun w65 e65 => ?_⟩
      have r65 := f28.set e65
      have g65 : Only (fun b => b = hs w1) w28 w65 := only_set e65
      have z65 := g65.size
      have l3 := r3.lt
      have z1 := hs_alloc e3
      refine ⟨_, r65.cell rfl, _, r65.cell rfl, _, _, _, r65.cell rfl, _, _, rfl, (P28.keep g65 fun b hb e => by omega).low (by omega), G28.trans g65 fun b hb e => by omega⟩
theorem cloneP_c (o : Option Addr) (c : Nat) (p : Prot) (hq : p.qs.length ≤ 1000) (hans : ∀ q, q ∈ p.qs → q.ans.length ≤ 1000) (w : World) {A : Nat → Prop} (h : Qs w A o p.qs) :
    Calls Try.prog 85 #[.agg #[.string p.name, .int .i64 p.version, .slice o p.qs.length c]] w fun e w' => ∃ o' c', e = .returned (.agg #[.string p.name, .int .i64 p.version, .slice o' p.qs.length c']) ∧ Qs w' (fun b => hs w ≤ b ∧ b < hs w') o' p.qs ∧ Grow w w' := by
  refine (cloneP_o o c p hq hans w h).mono ?_
  rintro _ w' ⟨o', c', rfl, hP, g⟩
  exact ⟨o', c', rfl, hP.done, g⟩

theorem half {i j : Nat} (h : i < j) (hj : j ≤ 1000000) : IntKind.wrap .i64 (Int.fdiv (IntKind.wrap .u64 (IntKind.wrap .i64 ((i : Int) + (j : Int)))) 2) = (((i + j) / 2 : Nat) : Int) := by
  have e0 : IntKind.wrap .i64 ((i : Int) + (j : Int)) = (i : Int) + (j : Int) := wr (by omega)
  have e : IntKind.wrap .u64 ((i : Int) + (j : Int)) = ((i + j : Nat) : Int) := by
    rw [IntKind.wrap_u64]; omega
  rw [e0, e, Int.fdiv_eq_ediv_of_nonneg _ (by omega), wr (by omega)]
  omega
theorem search_c {n : Nat} (hn : n ≤ 1000000) {f : Fn} {a c : Array Value} (p : Nat → Bool) (hp : ∀ i j, i ≤ j → j < n → p i = true → p j = true) (w : World)
    (hf : ∀ w', Grow w w' → ∀ k, k < n → CallsV Try.prog (.func f a c) [.int .i64 (k : Int)] w' fun e w'' => e = .returned (.bool (p k)) ∧ Grow w' w'') :
    Calls Try.prog 114 #[.int .i64 (n : Int), .func f a c] w fun e w' => ∃ i : Nat, e = .returned (.int .i64 (i : Int)) ∧ i ≤ n ∧ (∀ j, j < i → p j = false) ∧ (∀ j, i ≤ j → j < n → p j = true) ∧ Grow w w' := by
  refine nf114 n f a c w _ ⟨fun k x y w' => ∃ i j : Nat, x = (i : Int) ∧ y = (j : Int) ∧ i ≤ j ∧ j ≤ n ∧ k = j - i ∧ (∀ t, t < i → p t = false) ∧ (∀ t, j ≤ t → t < n → p t = true) ∧ Grow w w',
    ⟨_, 0, n, rfl, rfl, Nat.zero_le _, Nat.le_refl _, rfl, fun t ht => by omega, fun t h1 h2 => by omega, Only.refl _ _⟩, ?_⟩
  rintro k _ w1 x y ⟨i, j, rfl, rfl, hij, hjn, rfl, h1, h2, g1⟩
  refine ⟨fun hlt => ?_, fun hge => ⟨i, rfl, by omega, h1, fun t ht htn => h2 t ?_ htn, g1⟩⟩
  · have hlt : i < j := by have := dT hlt; omega
    rw [half hlt (by omega)]
    refine (hf w1 g1 ((i + j) / 2) (by omega)).mono ?_
    rintro _ w2 ⟨rfl, g2⟩
    refine ⟨_, rfl, fun hb => ⟨_, ?_, i, (i + j) / 2, rfl, rfl, by omega, by omega, rfl, h1, fun t ht htn => hp _ _ ht htn hb, g1.trans' g2⟩, fun hb => ⟨_, ?_, (i + j) / 2 + 1, j, by rw [wr (by omega)]; omega, rfl, by omega, hjn, rfl, fun t ht => ?_, h2, g1.trans' g2⟩⟩
    · omega
    · omega
    · cases ht' : p t
      · rfl
      · have := hp t ((i + j) / 2) (by omega) (by omega) ht'
        rw [this] at hb; cases hb
  · have := dF hge; omega

theorem run_gtr {w : World} {a b : ByteArray} {x y : Operand} {K : Value → World → Prop} (h : K (.bool (ltB b a)) w) : RunOk Try.prog (Hold (binOpSem .gtr 9 x y (.string a) (.string b))) w K := by
  refine ⟨_, w, ?_, h⟩
  have e : (!(Op.bytesLess a.toList b.toList || a.toList == b.toList)) = ltB b a := by
    rcases less_tri a.toList b.toList with h | h | h
    · have k : ltB b a = false := ltB_asymm (a := a) (b := b) h
      rw [h, k]; rfl
    · unfold ltB
      rw [h, less_irrefl]; simp
    · have k : Op.bytesLess a.toList b.toList = false := ltB_asymm (a := b) (b := a) h
      have n : a.toList ≠ b.toList := fun e => by rw [e, less_irrefl] at h; cases h
      unfold ltB
      rw [h, k]; simp [n]
  rw [← e]
  unfold Hold binOpSem
  simp [eqGuard, binOp, Op.stringOp]

section
variable {w : World} {t m : Nat} {o : Option Addr} {c : Nat} {S : List Prot} {A : Nat → Prop}
theorem find1_c (n : ByteArray) (v : Int) {c0 c1 c2 T0 T1 T2 : Nat} (r0 : Row w c0 T0 [.pointer (some ⟨t, 0, none⟩)]) (r1 : Row w c1 T1 [.string n]) (r2 : Row w c2 T2 [.int .i64 v]) (rt : Row w t 117 [.slice o S.length c, .map (some m)])
    (hp : Ps w A o S) {k : Nat} (hk : k < S.length) :
    Calls Try.prog 115 #[.int .i64 (k : Int), .pointer (some ⟨c0, 0, none⟩), .pointer (some ⟨c1, 0, none⟩), .pointer (some ⟨c2, 0, none⟩)] w fun e w' => e = .returned (.bool (geB n v S[k])) ∧ Grow w w' := by
  obtain ⟨a, qo, qc, ha, -, h0, h1, h2, -⟩ := hp.get hk
  refine nf115 k c0 c1 c2 w _ ⟨_, r0.cell rfl, _, rfl, _, _, _, rt.cell rfl, a, ha, ⟨by omega, by omega⟩, fun w1 e1 => ?_⟩
  have g1 : Grow w w1 := only_drew e1
  refine ⟨_, cell_grow g1 h0, _, (r1.grow g1).cell rfl, fun hne w2 e2 => ?_, fun he w2 e2 => ?_⟩
  · have g2 : Grow w1 w2 := only_drew e2
    have G := g1.trans' g2
    have hb : geB n v S[k] = ltB n S[k].name := by
      unfold geB
      rw [Bool.not_eq_true'] at hne
      rw [hne]; rfl
    refine ⟨_, cell_grow G h0, _, (r1.grow G).cell rfl, run_gtr ⟨_, rfl, fun hb' => ⟨?_, G⟩, fun hb' => ⟨?_, G⟩⟩⟩
    · rw [hb, hb']
    · rw [hb, hb']
  · have g2 : Grow w1 w2 := only_drew e2
    have G := g1.trans' g2
    have hb : geB n v S[k] = decide (v ≤ S[k].version) := by
      unfold geB
      rw [Bool.not_eq_false'] at he
      rw [he]; rfl
    refine ⟨_, cell_grow G h1, _, (r2.grow G).cell rfl, fun h => ⟨?_, G⟩, fun h => ⟨?_, G⟩⟩
    · rw [hb]; exact ret_bool h.symm
    · rw [hb]; exact ret_bool h.symm
theorem newest1_c (n : ByteArray) {c0 c1 T0 T1 : Nat} (r0 : Row w c0 T0 [.pointer (some ⟨t, 0, none⟩)]) (r1 : Row w c1 T1 [.string n]) (rt : Row w t 117 [.slice o S.length c, .map (some m)])
    (hp : Ps w A o S) {k : Nat} (hk : k < S.length) :
    Calls Try.prog 116 #[.int .i64 (k : Int), .pointer (some ⟨c0, 0, none⟩), .pointer (some ⟨c1, 0, none⟩)] w fun e w' => e = .returned (.bool (ltB n S[k].name)) ∧ Grow w w' := by
  obtain ⟨a, qo, qc, ha, -, h0, h1, h2, -⟩ := hp.get hk
  refine nf116 k c0 c1 w _ fun w1 e1 => ?_
  have g1 : Grow w w1 := only_drew e1
  refine ⟨_, (r0.grow g1).cell rfl, _, rfl, _, _, _, (rt.grow g1).cell rfl, a, ha, ⟨by omega, by omega⟩, _, cell_grow g1 h0, _, (r1.grow g1).cell rfl, run_gtr ⟨_, rfl, fun hb => ⟨?_, g1⟩, fun hb => ⟨?_, g1⟩⟩⟩
  · rw [hb]
  · rw [hb]
theorem sorted_get (hs : Sorted S) {i j : Nat} (hij : i < j) (hj : j < S.length) : Before (S[i]'(by omega)) S[j] := by
  have := List.pairwise_iff_getElem.1 hs
  exact this i j (by omega) hj hij
theorem find_c (n : ByteArray) (v : Int) (hs : Sorted S) (hl : S.length ≤ 1000) (rt : Row w t 117 [.slice o S.length c, .map (some m)]) (hp : Ps w A o S) :
    Calls Try.prog 83 #[.pointer (some ⟨t, 0, none⟩), .string n, .int .i64 v] w fun e w' => ∃ X Y, Cut S X Y n v ∧ e = .returned (.tuple #[.int .i64 (X.length : Int), .bool (hit Y n v)]) ∧ Grow w w' := by
  refine nf83 _ n v w _ fun w1 e1 w3 e3 w5 e5 => ?_
  have g1 : Grow w w1 := only_alloc e1
  have g3 : Grow w1 w3 := only_alloc e3
  have g5 : Grow w3 w5 := only_alloc e5
  have r0 := ((Row.new e1).grow g3).grow g5
  have r1 := (Row.new e3).grow g5
  have r2 := Row.new e5
  have G5 := (g1.trans' g3).trans' g5
  refine ⟨_, r0.cell rfl, _, rfl, _, _, _, (rt.grow G5).cell rfl, (search_c (by omega) (fun k => if h : k < S.length then geB n v S[k] else true) ?_ w5 ?_).mono ?_⟩
  · intro i j hij hj hi
    have hi' : i < S.length := by omega
    simp only [hi', hj, dif_pos] at hi ⊢
    rcases Nat.lt_or_ge i j with h | h
    · exact geB_mono (sorted_get hs h hj) hi
    · obtain rfl : i = j := by omega
      exact hi
  · intro w' g k hk
    refine .inl ⟨115, _, _, rfl, by kernel_rfl, ?_⟩
    simp only [hk, dif_pos]
    exact find1_c n v (r0.grow g) (r1.grow g) (r2.grow g) ((rt.grow G5).grow g) ((hp.grow G5).grow g) hk
  · rintro _ w6 ⟨i, rfl, hi, hlo, hhi, g6⟩
    have G6 := G5.trans' g6
    have hcut : Cut S (S.take i) (S.drop i) n v := ⟨(List.take_append_drop i S).symm, fun u hu => ?_, fun u hu => ?_⟩
    · have hlen : (S.take i).length = i := by rw [List.length_take]; omega
      refine ⟨_, rfl, fun k hk w7 e7 => ?_⟩
      have g7 : Grow w6 w7 := only_drew e7
      have G7 := G6.trans' g7
      have q0 := (r0.grow g6).grow g7
      have q1 := (r1.grow g6).grow g7
      have q2 := (r2.grow g6).grow g7
      have fin : ∀ b : Bool, b = hit (S.drop i) n v → k b w7 := fun b hb => hk _ _ fun _ => ⟨fun h => ⟨_, _, hcut, by rw [hlen, ← hb, h], G7⟩, fun h => ⟨_, _, hcut, by rw [hlen, ← hb, h], G7⟩⟩
      refine ⟨_, q0.cell rfl, _, rfl, _, _, _, (rt.grow G7).cell rfl, fun h => ?_, fun h => fin _ ?_⟩
      · have hlt : i < S.length := by have := dT h; omega
        obtain ⟨a, qo, qc, ha, -, h0, h1, h2, -⟩ := (hp.grow G7).get hlt
        have hd : S.drop i = S[i] :: S.drop (i + 1) := List.drop_eq_getElem_cons hlt
        refine ⟨_, q0.cell rfl, _, rfl, _, _, _, (rt.grow G7).cell rfl, a, ha, ⟨by omega, by omega⟩, _, h0, _, q1.cell rfl, fun h3 => ⟨_, q0.cell rfl, _, rfl, _, _, _, (rt.grow G7).cell rfl, a, ha, ⟨by omega, by omega⟩, _, h1, _, q2.cell rfl, fun h4 => fin _ ?_, fun h4 => fin _ ?_⟩, fun h3 => fin _ ?_⟩
        · rw [hd]; unfold hit; simp only [h3, h4]; rfl
        · rw [hd]; unfold hit; simp only [h3, h4]; rfl
        · rw [hd]; unfold hit; simp only [h3]; rfl
      · have : S.drop i = [] := List.drop_eq_nil_of_le (by have := dF h; omega)
        rw [this]; rfl
    · obtain ⟨j, hj, rfl⟩ := List.mem_iff_getElem.1 hu
      have hj' : j < i := by rw [List.length_take] at hj; omega
      have := hlo j hj'
      simp only [show j < S.length by omega, dif_pos] at this
      rw [List.getElem_take]
      refine Classical.byContradiction fun h => ?_
      rw [geB_iff.2 h] at this; cases this
    · obtain ⟨j, hj, rfl⟩ := List.mem_iff_getElem.1 hu
      rw [List.length_drop] at hj
      have := hhi (i + j) (by omega) (by omega)
      simp only [show i + j < S.length by omega, dif_pos] at this
      rw [List.getElem_drop]
      exact geB_iff.1 this
/-- the newest of a name, by its place -/
inductive Last (S : List Prot) (n : ByteArray) : Int → Prop
  | none (h : ∀ u, u ∈ S → u.name ≠ n) : Last S n (-1)
  | some {X Y : List Prot} {u : Prot} (e : S = X ++ u :: Y) (h : u.name = n) (hY : ∀ y, y ∈ Y → ltB n y.name = true) : Last S n (X.length : Int)
theorem newest_c (n : ByteArray) (hs : Sorted S) (hl : S.length ≤ 1000) (rt : Row w t 117 [.slice o S.length c, .map (some m)]) (hp : Ps w A o S) :
    Calls Try.prog 84 #[.pointer (some ⟨t, 0, none⟩), .string n] w fun e w' => ∃ x, Last S n x ∧ e = .returned (.int .i64 x) ∧ Grow w w' := by
  refine nf84 _ n w _ fun w1 e1 w3 e3 => ?_
  have g1 : Grow w w1 := only_alloc e1
  have g3 : Grow w1 w3 := only_alloc e3
  have r0 := (Row.new e1).grow g3
  have r1 := Row.new e3
  have G3 := g1.trans' g3
  refine ⟨_, r0.cell rfl, _, rfl, _, _, _, (rt.grow G3).cell rfl, (search_c (by omega) (fun k => if h : k < S.length then ltB n S[k].name else true) ?_ w3 ?_).mono ?_⟩
  · intro i j hij hj hi
    have hi' : i < S.length := by omega
    simp only [hi', hj, dif_pos] at hi ⊢
    rcases Nat.lt_or_ge i j with h | h
    · exact gt_mono (sorted_get hs h hj) hi
    · obtain rfl : i = j := by omega
      exact hi
  · intro w' g k hk
    refine .inl ⟨116, _, _, rfl, by kernel_rfl, ?_⟩
    simp only [hk, dif_pos]
    exact newest1_c n (r0.grow g) (r1.grow g) ((rt.grow G3).grow g) ((hp.grow G3).grow g) hk
  · rintro _ w4 ⟨i, rfl, hi, hlo, hhi, g4⟩
    refine ⟨_, rfl, fun w5 e5 => ?_⟩
    have g5 : Grow w4 w5 := only_drew e5
    have G5 := (G3.trans' g4).trans' g5
    have q0 := (r0.grow g4).grow g5
    have q1 := (r1.grow g4).grow g5
    have above : ∀ j (hj : j < S.length), i ≤ j → ltB n S[j].name = true := fun j hj h => by
      have := hhi j h hj
      simpa only [hj, dif_pos] using this
    have below : ∀ j (hj : j < S.length), j < i → ltB n S[j].name = false := fun j hj h => by
      have := hlo j h
      simpa only [hj, dif_pos] using this
    rw [wr (by omega)]
    refine ⟨fun h => ⟨-1, .none fun u hu e => ?_, rfl, G5⟩, fun h => ?_⟩
    · obtain ⟨j, hj, rfl⟩ := List.mem_iff_getElem.1 hu
      have := above j hj (by have := dT h; omega)
      rw [e, ltB_irrefl] at this; cases this
    · have hpos : 0 < i := by have := dF h; omega
      obtain ⟨i, rfl⟩ : ∃ i', i = i' + 1 := ⟨i - 1, by omega⟩
      have hlt : i < S.length := by omega
      have e1 : (((i + 1 : Nat) : Int) - 1) = (i : Int) := by omega
      rw [e1]
      obtain ⟨a, qo, qc, ha, -, h0, h1, h2, -⟩ := (hp.grow G5).get hlt
      refine ⟨_, q0.cell rfl, _, rfl, _, _, _, (rt.grow G5).cell rfl, a, ha, ⟨by omega, by omega⟩, _, h0, _, q1.cell rfl, fun h3 => ⟨-1, .none fun u hu e => ?_, rfl, G5⟩, fun h3 => ⟨_, ?_, rfl, G5⟩⟩
      · obtain ⟨j, hj, rfl⟩ := List.mem_iff_getElem.1 hu
        rw [Bool.not_eq_true'] at h3
        rcases Nat.lt_trichotomy j i with k | k | k
        · have hb := sorted_get hs k hlt
          have hi' := below i hlt (by omega)
          rcases hb with hb | ⟨hb, -⟩
          · rw [e] at hb; rw [hb] at hi'; cases hi'
          · rw [e] at hb; rw [strEq_iff.2 hb.symm] at h3; cases h3
        · subst k; rw [strEq_iff.2 e] at h3; cases h3
        · have := above j hj (by omega)
          rw [e, ltB_irrefl] at this; cases this
      · rw [Bool.not_eq_false'] at h3
        have hS : S = S.take i ++ S[i] :: S.drop (i + 1) := by rw [← List.drop_eq_getElem_cons hlt, List.take_append_drop]
        have hlen : ((S.take i).length : Int) = i := by rw [List.length_take]; omega
        rw [← hlen]
        refine .some hS (strEq_iff.1 h3) fun y hy => ?_
        obtain ⟨j, hj, rfl⟩ := List.mem_iff_getElem.1 hy
        rw [List.length_drop] at hj
        rw [List.getElem_drop]
        exact above (i + 1 + j) (by omega) (by omega)
end

def zeroP : Prot := ⟨ByteArray.mk #[], 0, []⟩
abbrev aggP (t : Prot) (o : Option Addr) (c : Nat) : Value := .agg #[.string t.name, .int .i64 t.version, .slice o t.qs.length c]
def Fine (S : List Prot) : Prop := ∀ p, p ∈ S → p.qs.length ≤ 1000 ∧ ∀ q, q ∈ p.qs → q.ans.length ≤ 1000
/-- what a function that may find a protocol returns -/
def Found (A : Nat → Prop) (r : Option Prot) (e : Ending) (w' : World) : Prop :=
  ∃ o c, e = .returned (.tuple #[aggP (r.getD zeroP) o c, .bool r.isSome]) ∧ Qs w' A o (r.getD zeroP).qs
theorem Found.mono {A A' : Nat → Prop} {r : Option Prot} {e : Ending} {w' : World} (h : Found A r e w') (hA : ∀ b, A b → A' b) : Found A' r e w' := by
  obtain ⟨o, c, h1, h2⟩ := h
  exact ⟨o, c, h1, h2.mono hA⟩
theorem Found.none {A : Nat → Prop} {w' : World} : Found A none (.returned (.tuple #[.agg #[.string (ByteArray.mk #[]), .int .i64 0, .slice none 0 0], .bool false])) w' := ⟨Option.none, 0, rfl, fun i q h => by simp [zeroP] at h⟩
/-- as Found; what is found is a clone of its own -/
def FoundP (B : Nat) (r : Option Prot) (e : Ending) (w' : World) : Prop :=
  ∃ o c, e = .returned (.tuple #[aggP (r.getD zeroP) o c, .bool r.isSome]) ∧ ∀ p, r = some p → Part w' B o p.qs.length c p.qs p.qs.length
theorem FoundP.none (B : Nat) {w' : World} : FoundP B none (.returned (.tuple #[.agg #[.string (ByteArray.mk #[]), .int .i64 0, .slice none 0 0], .bool false])) w' := ⟨Option.none, 0, rfl, fun p h => by cases h⟩
theorem FoundP.found {B : Nat} {r : Option Prot} {e : Ending} {w' : World} (h : FoundP B r e w') : Found (fun b => B ≤ b ∧ b < hs w') r e w' := by
  obtain ⟨o, c, rfl, h⟩ := h
  refine ⟨o, c, rfl, ?_⟩
  cases r with
  | none => exact fun i q h => by simp [zeroP] at h
  | some p => exact (h p rfl).done
theorem Last.new {S : List Prot} {n : ByteArray} {x : Int} (hso : Sorted S) (h : Last S n x) : (x = -1 ∧ IsNew S n Option.none) ∨ ∃ (i : Nat) (hi : i < S.length), x = (i : Int) ∧ S[i].name = n ∧ IsNew S n (Option.some S[i]) := by
  cases h with
  | none h => exact .inl ⟨rfl, .inl ⟨rfl, h⟩⟩
  | @some X Y u e h hY =>
    subst e
    refine .inr ⟨X.length, by simp, rfl, by simpa using h, .inr ⟨_, rfl, List.getElem_mem _, by simpa using h, fun y hy hn => ?_⟩⟩
    have eu : (X ++ u :: Y)[X.length]'(by simp) = u := by simp
    rw [eu]
    have hs := List.pairwise_append.1 hso
    rcases List.mem_append.1 hy with hy | hy
    · rcases hs.2.2 y hy u (.head _) with k | ⟨-, k⟩
      · exact absurd (hn.trans h.symm) (ltB_ne k)
      · omega
    · rcases List.mem_cons.1 hy with rfl | hy
      · exact Int.le_refl _
      · exact absurd hn.symm (ltB_ne (hY y hy))

section
variable {w : World} {t m : Nat} {o : Option Addr} {c : Nat} {S : List Prot} {A : Nat → Prop}
theorem getP_o (n : ByteArray) (v : Int) (hso : Sorted S) (hl : S.length ≤ 1000) (hf : Fine S) (rt : Row w t 117 [.slice o S.length c, .map (some m)]) (hp : Ps w A o S) :
    Calls Try.prog 49 #[.pointer (some ⟨t, 0, none⟩), .string n, .int .i64 v] w fun e w' => ∃ r, IsGet S n v r ∧ FoundP (hs w) r e w' ∧ Grow w w' := by
  refine nf49 _ n v w _ fun w1 e1 => ?_
  have r1 := Row.new e1
  have g1 : Grow w w1 := only_alloc e1
  refine (find_c n v hso hl (rt.grow g1) (hp.grow g1)).mono ?_
  rintro _ w2 ⟨X, Y, hc, rfl, g2⟩
  have r2 := r1.grow g2
  have G2 := g1.trans' g2
  refine ⟨_, _, rfl, fun hh => ?_, fun hh => ⟨r2.there (by simp), fun w3 e3 => ?_⟩⟩
  · obtain ⟨u, Y', rfl, -, hn, hv⟩ := hc.some hh
    have hXl : X.length < S.length := by rw [hc.eq]; simp
    have hu : S[X.length] = u := by simp [hc.eq]
    obtain ⟨a, qo, qc, ha, -, h0, h1, h2, hq⟩ := (hp.grow G2).get hXl
    rw [hu] at h0 h1 h2 hq
    have hmem : u ∈ S := by rw [hc.eq]; simp
    have hfu := hf u hmem
    refine ⟨_, rfl, _, _, _, (rt.grow G2).cell rfl, a, ha, ⟨by omega, by omega⟩, _, h0, _, h1, _, _, _, h2, (cloneP_o qo qc u hfu.1 hfu.2 w2 hq).mono ?_⟩
    rintro _ w3 ⟨o3, c3, rfl, hq3, g3⟩
    have r3 := r2.grow g3
    refine ⟨_, _, _, _, _, rfl, r3.there (by simp), fun w4 e4 => ?_⟩
    have r4 := r3.set e4
    have g4 : Only (fun b => b = hs w) w3 w4 := only_set e4
    have z2 := G2.size
    have z4 := g4.size
    have l2 := r1.lt
    have z1 := g2.size
    refine ⟨_, r4.cell rfl, _, r4.cell rfl, _, _, _, r4.cell rfl, some u, .inr ⟨u, rfl, hmem, hn, hv⟩, ⟨_, _, rfl, fun p' e' => by cases e'; exact (hq3.keep g4 fun b hb e => by omega).low (by omega)⟩, (G2.trans' g3).trans g4 fun b hb e => by omega⟩
  · have r3 := r2.set e3
    have g3 : Only (fun b => b = hs w) w2 w3 := only_set e3
    exact ⟨_, r3.cell rfl, _, r3.cell rfl, _, _, _, r3.cell rfl, none, .inl ⟨rfl, hc.none hso hh⟩, .none _, G2.trans g3 fun b hb e => by omega⟩
theorem getP_c (n : ByteArray) (v : Int) (hso : Sorted S) (hl : S.length ≤ 1000) (hf : Fine S) (rt : Row w t 117 [.slice o S.length c, .map (some m)]) (hp : Ps w A o S) :
    Calls Try.prog 49 #[.pointer (some ⟨t, 0, none⟩), .string n, .int .i64 v] w fun e w' => ∃ r, IsGet S n v r ∧ Found (fun b => hs w ≤ b ∧ b < hs w') r e w' ∧ Grow w w' := by
  refine (getP_o n v hso hl hf rt hp).mono ?_
  rintro _ w' ⟨r, hr, hF, g⟩
  exact ⟨r, hr, hF.found, g⟩
theorem newestP_c (n : ByteArray) (hso : Sorted S) (hl : S.length ≤ 1000) (hf : Fine S) (rt : Row w t 117 [.slice o S.length c, .map (some m)]) (hp : Ps w A o S) :
    Calls Try.prog 50 #[.pointer (some ⟨t, 0, none⟩), .string n] w fun e w' => ∃ r, IsNew S n r ∧ Found (fun b => hs w ≤ b ∧ b < hs w') r e w' ∧ Grow w w' := by
  refine nf50 _ n w _ fun w1 e1 => ?_
  have r1 := Row.new e1
  have g1 : Grow w w1 := only_alloc e1
  refine (newest_c n hso hl (rt.grow g1) (hp.grow g1)).mono ?_
  rintro _ w2 ⟨x, hx, rfl, g2⟩
  have r2 := r1.grow g2
  have G2 := g1.trans' g2
  refine ⟨_, rfl, fun hh => ⟨r2.there (by simp), fun w3 e3 => ?_⟩, fun hh => ?_⟩
  · have r3 := r2.set e3
    have g3 : Only (fun b => b = hs w) w2 w3 := only_set e3
    rcases hx.new hso with ⟨-, h⟩ | ⟨i, hi, rfl, -, -⟩
    · exact ⟨_, r3.cell rfl, _, r3.cell rfl, _, _, _, r3.cell rfl, none, h, .none, G2.trans g3 fun b hb e => by omega⟩
    · have := dT hh; omega
  · rcases hx.new hso with ⟨rfl, -⟩ | ⟨i, hi, rfl, hn, h⟩
    · have := dF hh; omega
    · obtain ⟨a, qo, qc, ha, -, h0, h1, h2, hq⟩ := (hp.grow G2).get hi
      have hfu := hf _ (List.getElem_mem hi)
      refine ⟨_, rfl, _, _, _, (rt.grow G2).cell rfl, a, ha, ⟨by omega, by omega⟩, _, h0, _, h1, _, _, _, h2, (cloneP_c qo qc _ hfu.1 hfu.2 w2 hq).mono ?_⟩
      rintro _ w3 ⟨o3, c3, rfl, hq3, g3⟩
      have r3 := r2.grow g3
      refine ⟨_, _, _, _, _, rfl, r3.there (by simp), fun w4 e4 => ?_⟩
      have r4 := r3.set e4
      have g4 : Only (fun b => b = hs w) w3 w4 := only_set e4
      have z2 := G2.size
      have z4 := g4.size
      have l2 := r1.lt
      have z1 := g2.size
      refine ⟨_, r4.cell rfl, _, r4.cell rfl, _, _, _, r4.cell rfl, some S[i], h, ⟨_, _, rfl, (hq3.keep g4 fun b hb e => by omega).mono fun b hb => ⟨by omega, by omega⟩⟩, (G2.trans' g3).trans g4 fun b hb e => by omega⟩
end

/-! ### texts behind a slice -/
def encS (s : ByteArray) : List Value := [.string s]
theorem encS_len (s : ByteArray) : (encS s).length = 1 := rfl
theorem elem83 : Elem Try.prog 83 9 1 16 := elem_of (by kernel_rfl)
theorem append_text {w : World} {B b n c cx : Nat} {o : Option Addr} {xs : List ByteArray} {s : ByteArray} {K : Value → World → Prop} (hown : Own w B 9 1 o n c (xs.flatMap encS)) (hrow : Row w b 9 [.string s]) (hn : n ≤ 1000000) (hbase : B ≤ hs w)
    (h : ∀ o' c' w', Own w' B 9 1 o' (n + 1) c' ((xs ++ [s]).flatMap encS) → Only (inBlock o) w w' → K (.slice o' (n + 1) c') w') :
    RunOk Try.prog (Hold (Builtin.append_ #[83, 83] 83 #[.slice o n c, .slice (some ⟨b, 0, none⟩) 1 cx])) w K :=
  run_append_row elem83 hown hrow rfl (by simp [Value.oneCell']) (by simp [maxLen]; omega) (by omega) hbase fun o' c' w' h1 h2 _ => h o' c' w' (by rw [List.flatMap_append]; exact h1) h2
theorem append_int {w : World} {B b n c cx : Nat} {o : Option Addr} {xs : List Int} {x : Int} {K : Value → World → Prop} (hown : Own w B 3 1 o n c (intsV xs)) (hrow : Row w b 3 [.int .i64 x]) (hn : n ≤ 1000000) (hbase : B ≤ hs w)
    (h : ∀ o' c' w', Own w' B 3 1 o' (n + 1) c' (intsV (xs ++ [x])) → Only (inBlock o) w w' → K (.slice o' (n + 1) c') w') :
    RunOk Try.prog (Hold (Builtin.append_ #[48, 48] 48 #[.slice o n c, .slice (some ⟨b, 0, none⟩) 1 cx])) w K :=
  run_append_row elem48 hown hrow rfl (by simp [Value.oneCell']) (by simp [maxLen]; omega) (by omega) hbase fun o' c' w' h1 h2 _ => h o' c' w' (by simpa [intsV] using h1) h2
theorem text_get {w : World} {A : Nat → Prop} {o : Option Addr} {xs : List ByteArray} (h : Recs w A o 1 (xs.map encS)) {j : Nat} (hj : j < xs.length) : ∃ a, o = some a ∧ w.cell? (a.add ((j : Int).toNat * 1)) = some (.string xs[j]) := by
  obtain ⟨a, ha, -, hc⟩ := h j (encS xs[j]) (by rw [List.getElem?_map, List.getElem?_eq_getElem hj]; rfl)
  have := hc 0 _ rfl
  rw [add_zero] at this
  exact ⟨a, ha, this⟩
theorem texts_c (o o' : Option Addr) (c c' : Nat) (xs ys : List ByteArray) (hl : xs.length ≤ 1000000) (w : World) {A A' : Nat → Prop} (h : Recs w A o 1 (xs.map encS)) (h' : Recs w A' o' 1 (ys.map encS)) :
    Calls Try.prog 103 #[.slice o xs.length c, .slice o' ys.length c'] w fun e w' => ∃ b : Bool, e = .returned (.bool b) ∧ (xs = ys → b = true) ∧ Grow w w' := by
  refine nf103 o xs.length c o' ys.length c' w _ ⟨fun h1 => ⟨false, rfl, fun e => absurd (by rw [e]) (nT h1), Only.refl _ _⟩, fun h1 => ⟨fun k x w' => ∃ j : Nat, x = (j : Int) ∧ j ≤ xs.length ∧ k = xs.length - j ∧ Grow w w', ⟨_, 0, rfl, Nat.zero_le _, rfl, Only.refl _ _⟩, ?_⟩⟩
  have hle : xs.length = ys.length := by have := nF h1; omega
  rintro k _ w1 x ⟨j, rfl, hj, rfl, g1⟩
  refine ⟨fun hlt w2 e2 => ?_, fun hge => ⟨true, rfl, fun _ => rfl, g1⟩⟩
  have hlt : j < xs.length := by have := dT hlt; omega
  have g2 : Grow w w2 := g1.trans' (only_drew e2)
  obtain ⟨a, ha, hc⟩ := text_get (h.grow g2) hlt
  obtain ⟨a', ha', hc'⟩ := text_get (h'.grow g2) (j := j) (by omega)
  refine ⟨a, ha, ⟨by omega, by omega⟩, _, hc, a', ha', ⟨by omega, by omega⟩, _, hc', fun hne => ⟨false, rfl, fun e => ?_, g2⟩, fun he => ⟨_, by omega, j + 1, by rw [wr (by omega)]; omega, hlt, rfl, g2⟩⟩
  subst e
  rw [strEq_iff.2 rfl] at hne
  cases hne

section
variable {w : World} {t m : Nat} {o : Option Addr} {c : Nat} {S : List Prot} {A : Nat → Prop}
theorem take_succ' {α : Type} {l : List α} {j : Nat} (h : j < l.length) : l.take (j + 1) = l.take j ++ [l[j]] := List.take_succ_eq_append_getElem h
theorem names_c (hso : Sorted S) (hl : S.length ≤ 1000) (rt : Row w t 117 [.slice o S.length c, .map (some m)]) (hp : Ps w A o S) :
    Calls Try.prog 52 #[.pointer (some ⟨t, 0, none⟩)] w fun e w' => ∃ ns o' c', e = .returned (.slice o' ns.length c') ∧ Names S ns ∧ ns.length ≤ 1000 ∧ Own w' (hs w) 9 1 o' ns.length c' (ns.flatMap encS) ∧ Grow w w' := by
  refine nf52 _ w _ ⟨_, rfl, _, _, _, rt.cell rfl, fun k o5 n5 c5 x w' => ∃ (j : Nat) (ns : List ByteArray), x = (j : Int) ∧ j ≤ S.length ∧ k = S.length - j ∧ n5 = ns.length ∧ ns.length ≤ j ∧ Names (S.take j) ns ∧ Own w' (hs w) 9 1 o5 n5 c5 (ns.flatMap encS) ∧ Grow w w',
    ⟨_, 0, [], rfl, Nat.zero_le _, rfl, rfl, Nat.zero_le _, ⟨.nil, by simp⟩, own_nil _ _ _ _, Only.refl _ _⟩, ?_⟩
  rintro k _ w1 o5 n5 c5 x ⟨j, ns, rfl, hj, rfl, rfl, hnl, hN, hown, g1⟩
  refine ⟨fun hlt k16 hk w2 e2 => ?_, fun hge => ?_⟩
  · have hlt : j < S.length := by have := dT hlt; omega
    have g2 : Grow w1 w2 := only_drew e2
    have G2 := g1.trans' g2
    have own2 := hown.grow g2
    have fin : ∀ o' n' c' w' (ns' : List ByteArray), n' = ns'.length → ns'.length ≤ j + 1 → Names (S.take (j + 1)) ns' → Own w' (hs w) 9 1 o' n' c' (ns'.flatMap encS) → Grow w w' → k16 o' n' c' w' := fun o' n' c' w' ns' h1 h2 h3 h4 h5 =>
      hk _ _ _ _ fun _ => ⟨_, by omega, j + 1, ns', by rw [wr (by omega)]; omega, hlt, rfl, h1, h2, h3, h4, h5⟩
    obtain ⟨a, qo, qc, ha, -, h0, -⟩ := (hp.grow G2).get hlt
    have push : (∀ s, s ∈ ns → ltB s S[j].name = true) → Names (S.take (j + 1)) (ns ++ [S[j].name]) := fun h => by
      refine ⟨List.pairwise_append.2 ⟨hN.1, by simp, fun s hs' u hu => ?_⟩, fun n => ?_⟩
      · rw [List.mem_singleton] at hu; rw [hu]; exact h s hs'
      · rw [take_succ' hlt, List.mem_append, List.mem_singleton, hN.2]
        constructor
        · rintro (⟨u, h1, h2⟩ | rfl)
          · exact ⟨u, List.mem_append_left _ h1, h2⟩
          · exact ⟨_, List.mem_append_right _ (List.mem_singleton.2 rfl), rfl⟩
        · rintro ⟨u, h1, h2⟩
          rcases List.mem_append.1 h1 with h1 | h1
          · exact .inl ⟨u, h1, h2⟩
          · rw [List.mem_singleton] at h1; subst h1; exact .inr h2.symm
    have app : (∀ s, s ∈ ns → ltB s S[j].name = true) → ∀ w3, w3 = w2.alloc (Obj.cells #[Value.string S[j].name] 9 (0, 0)) → RunOk Try.prog (Hold (Builtin.append_ #[83, 83] 83 #[.slice o5 ns.length c5, .slice (some ⟨hs w2, 0, none⟩) 1 1])) w3 fun v w' => ∃ o' n' c', v = .slice o' n' c' ∧ k16 o' n' c' w' := fun h w3 e3 => by
      have g3 : Grow w2 w3 := only_alloc e3
      have z3 := (G2.trans' g3).size
      have r3 : Row w3 (hs w2) 9 [.string S[j].name] := Row.new e3
      refine append_text (own2.grow g3) r3 (by omega) z3 fun o' c' w' h1 h2 => ⟨_, _, _, rfl, fin _ _ _ _ (ns ++ [S[j].name]) (by simp) (by simp; omega) (push h) (by simpa using h1) ((G2.trans' g3).trans h2 fun b hb hb' => ?_)⟩
      have := ((own2.grow g3).base b hb').1
      omega
    refine ⟨fun hz => ?_, fun hz => ?_⟩
    · have hz := dT hz
      obtain rfl : j = 0 := by omega
      refine ⟨_, rfl, _, _, _, (rt.grow G2).cell rfl, a, ha, ⟨by omega, by omega⟩, _, h0, fun w3 e3 => app (fun s hs' => ?_) w3 e3⟩
      obtain ⟨u, hu, -⟩ := (hN.2 s).1 hs'
      simp at hu
    · have hz := dF hz
      obtain ⟨i, rfl⟩ : ∃ i, j = i + 1 := ⟨j - 1, by omega⟩
      obtain ⟨a', qo', qc', ha', -, h0', -⟩ := (hp.grow G2).get (i := i) (by omega)
      rw [ha] at ha'
      cases ha'
      have e1 : IntKind.wrap .i64 (((i + 1 : Nat) : Int) - 1) = (i : Int) := by rw [wr (by omega)]; omega
      rw [e1]
      refine ⟨_, rfl, _, _, _, (rt.grow G2).cell rfl, a, ha, ⟨by omega, by omega⟩, _, h0, _, rfl, _, _, _, (rt.grow G2).cell rfl, a, ha, ⟨by omega, by omega⟩, _, h0', fun hne => ⟨_, rfl, _, _, _, (rt.grow G2).cell rfl, a, ha, ⟨by omega, by omega⟩, _, h0, fun w3 e3 => app (fun s hs' => ?_) w3 e3⟩, fun he => ?_⟩
      · rw [Bool.not_eq_true'] at hne
        have hb := sorted_get hso (show i < i + 1 by omega) hlt
        have hlt' : ltB S[i].name S[i + 1].name = true := by
          rcases hb with k | ⟨k, -⟩
          · exact k
          · rw [strEq_iff.2 k.symm] at hne; cases hne
        obtain ⟨u, hu, rfl⟩ := (hN.2 s).1 hs'
        obtain ⟨k, hk', rfl⟩ := List.mem_iff_getElem.1 hu
        rw [List.length_take] at hk'
        rw [List.getElem_take]
        rcases Nat.lt_or_ge k i with k' | k'
        · rcases sorted_get hso k' (by omega) with q | ⟨q, -⟩
          · exact ltB_trans q hlt'
          · rw [q]; exact hlt'
        · obtain rfl : k = i := by omega
          exact hlt'
      · rw [Bool.not_eq_false'] at he
        have he := strEq_iff.1 he
        refine fin _ _ _ _ ns rfl (by omega) ⟨hN.1, fun n => ?_⟩ own2 G2
        rw [hN.2, take_succ' hlt]
        constructor
        · rintro ⟨u, h1, h2⟩; exact ⟨u, List.mem_append_left _ h1, h2⟩
        · rintro ⟨u, h1, h2⟩
          rcases List.mem_append.1 h1 with h1 | h1
          · exact ⟨u, h1, h2⟩
          · rw [List.mem_singleton] at h1; subst h1
            refine ⟨S[i], ?_, he.symm.trans h2⟩
            rw [List.mem_take_iff_getElem]
            exact ⟨i, by omega, rfl⟩
  · obtain rfl : j = S.length := by have := dF hge; omega
    rw [List.take_length] at hN
    exact ⟨ns, o5, c5, rfl, hN, by omega, hown, g1⟩
theorem versions_c (n : ByteArray) (hl : S.length ≤ 1000) (rt : Row w t 117 [.slice o S.length c, .map (some m)]) (hp : Ps w A o S) :
    Calls Try.prog 54 #[.pointer (some ⟨t, 0, none⟩), .string n] w fun e w' => ∃ o' c', e = .returned (.slice o' (versionsOf S n).length c') ∧ Own w' (hs w) 3 1 o' (versionsOf S n).length c' (intsV (versionsOf S n)) ∧ Grow w w' := by
  refine nf54 _ n w _ ⟨_, rfl, _, _, _, rt.cell rfl, fun k o5 n5 c5 x w' => ∃ j : Nat, x = (j : Int) ∧ j ≤ S.length ∧ k = S.length - j ∧ n5 = (versionsOf (S.take j) n).length ∧ n5 ≤ j ∧ Own w' (hs w) 3 1 o5 n5 c5 (intsV (versionsOf (S.take j) n)) ∧ Grow w w',
    ⟨_, 0, rfl, Nat.zero_le _, rfl, rfl, Nat.zero_le _, own_nil _ _ _ _, Only.refl _ _⟩, ?_⟩
  rintro k _ w1 o5 n5 c5 x ⟨j, rfl, hj, rfl, en, hnl, hown, g1⟩
  refine ⟨fun hlt k16 hk => ?_, fun hge => ?_⟩
  · have hlt : j < S.length := by have := dT hlt; omega
    obtain ⟨a, qo, qc, ha, -, h0, h1, -⟩ := (hp.grow g1).get hlt
    have ev : versionsOf (S.take (j + 1)) n = versionsOf (S.take j) n ++ (if strEq S[j].name n = true then [S[j].version] else []) := by
      unfold versionsOf
      rw [take_succ' hlt, List.filter_append, List.map_append, List.filter_cons]
      split <;> simp
    refine ⟨_, rfl, _, _, _, (rt.grow g1).cell rfl, a, ha, ⟨by omega, by omega⟩, _, h0, fun he => ⟨_, rfl, _, _, _, (rt.grow g1).cell rfl, a, ha, ⟨by omega, by omega⟩, _, h1, fun w2 e2 => ?_⟩, fun he => ?_⟩
    · have g2 : Grow w1 w2 := only_alloc e2
      have r2 : Row w2 (hs w1) 3 [.int .i64 S[j].version] := Row.new e2
      have z2 := (g1.trans' g2).size
      rw [he, if_pos rfl] at ev
      refine append_int (hown.grow g2) r2 (by omega) z2 fun o' c' w' h1 h2 => ⟨_, _, _, rfl, hk _ _ _ _ fun _ => ⟨_, by omega, j + 1, by rw [wr (by omega)]; omega, hlt, rfl, by rw [ev]; simp [en], by omega, by rw [ev]; exact h1, (g1.trans' g2).trans h2 fun b hb hb' => ?_⟩⟩
      have := ((hown.grow g2).base b hb').1
      omega
    · rw [he, if_neg Bool.false_ne_true, List.append_nil] at ev
      exact hk _ _ _ _ fun _ => ⟨_, by omega, j + 1, by rw [wr (by omega)]; omega, hlt, rfl, by rw [ev]; exact en, by omega, by rw [ev]; exact hown, g1⟩
  · obtain rfl : j = S.length := by have := dF hge; omega
    rw [List.take_length] at hown en
    subst en
    exact ⟨o5, c5, rfl, hown, g1⟩
end
end Go.Proofs.Ytbaacpfjecbbgaa
