/- The data of the law, and the contracts of the small functions. -/
import Derived.Test.YtcaokpglbolkcaaTa
import Derived.Test.YtcaokpglbolkcaaNfI
namespace Go.Proofs.Ytcaokpglbolkcaa
open Go Go.Nf Go.RowKit

/-! ### edges, units, incidents -/
structure Edg where
  src : Int
  dst : Int
  time : Int
def encE (x : Edg) : List Value := [.int .i64 x.src, .int .i64 x.dst, .int .i64 x.time]
abbrev Edgs (w : World) (A : Nat → Prop) (o : Option Addr) (l : List Edg) : Prop := Recs w A o 3 (l.map encE)
structure Un where
  id : Int
  kind : Int
  home : Int
  state : Int
  node : Int
  seq : Int
  last : Int
  inc : Int
  epoch : Int
  acked : Int
def encUn (x : Un) : List Value := [.int .i64 x.id, .int .i64 x.kind, .int .i64 x.home, .int .i64 x.state, .int .i64 x.node, .int .i64 x.seq, .int .i64 x.last, .int .i64 x.inc, .int .i64 x.epoch, .int .i64 x.acked]
abbrev Uns (w : World) (A : Nat → Prop) (o : Option Addr) (l : List Un) : Prop := Recs w A o 10 (l.map encUn)
structure Inc where
  id : Int
  urg : Int
  code : ByteArray
  oN : Option Addr
  nodes : List Int
  cN : Nat
  district : Int
  since : Int
  oC : Option Addr
  nC : Nat
  cC : Nat
  oU : Option Addr
  nU : Nat
  cU : Nat
  merged : Int
  closed : Bool
def encInc (x : Inc) : List Value := [.int .i64 x.id, .int .i64 x.urg, .string x.code, .slice x.oN x.nodes.length x.cN, .int .i64 x.district, .int .i64 x.since, .slice x.oC x.nC x.cC, .slice x.oU x.nU x.cU, .int .i64 x.merged, .bool x.closed]
/-- incidents behind a slice, with the nodes that each names -/
def Incs (w : World) (A : Nat → Prop) (o : Option Addr) (l : List Inc) : Prop := Recs w A o 10 (l.map encInc) ∧ ∀ x ∈ l, Nums w A x.oN x.nodes
theorem Incs.keep {w w' : World} {A S : Nat → Prop} {o : Option Addr} {l : List Inc} (h : Incs w A o l) (g : Only S w w') (hS : ∀ b, A b → ¬ S b) : Incs w' A o l := ⟨h.1.keep g hS, fun x hx => (h.2 x hx).keep g hS⟩
theorem Incs.grow {w w' : World} {A : Nat → Prop} {o : Option Addr} {l : List Inc} (h : Incs w A o l) (g : Grow w w') : Incs w' A o l := h.keep g fun _ _ h => h
theorem encE_len (x : Edg) : (encE x).length = 3 := rfl
theorem encUn_len (x : Un) : (encUn x).length = 10 := rfl
theorem encInc_len (x : Inc) : (encInc x).length = 10 := rfl
theorem Recs.atE {α : Type} {f : α → List Value} {w : World} {A : Nat → Prop} {o : Option Addr} {k : Nat} {l : List α} (h : Recs w A o k (l.map f)) {i : Nat} {x : α} (hi : l[i]? = some x) :
    ∃ a, o = some a ∧ A a.block ∧ (∀ j v, (f x)[j]? = some v → w.cell? ((a.add ((i : Int).toNat * k)).add j) = some v) ∧ ∀ v, (f x)[0]? = some v → w.cell? (a.add ((i : Int).toNat * k)) = some v := by
  obtain ⟨a, ha, hA, hc⟩ := h i (f x) (by rw [List.getElem?_map, hi]; rfl)
  refine ⟨a, ha, hA, hc, fun v hv => ?_⟩
  have := hc 0 v hv
  rwa [Go.Nf.add_zero] at this
theorem und3 : Try.prog.underlying 3 = some (.int .i64) := by kernel_rfl
theorem und2 : Try.prog.underlying 2 = some (.int .i64) := by kernel_rfl

/-! ### small functions -/
theorem awake_c (w : World) : Calls Try.prog 4 #[] w fun e w' => e = .returned (.bool true) ∧ w = w' := by
  refine nf4 w _ (nf17 none 0 0 w _ (nf40 _ none 0 0 w _ ⟨fun n s x w' => s = 14695981039346656037 ∧ x = 0 ∧ w = w', ⟨0, rfl, rfl, rfl⟩, ?_⟩))
  rintro n _ _ s x ⟨rfl, rfl, rfl⟩
  refine ⟨fun h => absurd (dT h) (by decide), fun _ => ⟨_, rfl, _, rfl, fun _ => ⟨rfl, rfl⟩, fun k => absurd (nF k) (by decide)⟩⟩
theorem few_c (o : Option Addr) (n c : Nat) (w : World) : Calls Try.prog 5 #[.slice o n c] w fun e w' => e = .returned (.bool (decide (n ≤ 24))) ∧ w = w' :=
  nf5 o n c w _ ⟨fun h => ⟨ret_bool (by have := dT h; rw [decide_eq_true (by omega)]), rfl⟩, fun h => ⟨ret_bool (by have := dF h; rw [decide_eq_false (by omega)]), rfl⟩⟩
def isKindB (k : Int) : Bool := decide (1 ≤ k) && decide (k ≤ 4)
def satB (k want : Int) : Bool := isKindB k && isKindB want && (decide (k = want) || (decide (k = 2) && decide (want = 1)))
theorem isKind_c (k : Int) (w : World) : Calls Try.prog 49 #[.int .i64 k] w fun e w' => e = .returned (.bool (isKindB k)) ∧ w = w' := by
  refine nf49 k w _ ⟨fun h1 => ⟨fun h2 => ⟨ret_bool ?_, rfl⟩, fun h2 => ⟨ret_bool ?_, rfl⟩⟩, fun h1 => ⟨ret_bool ?_, rfl⟩⟩ <;> unfold isKindB
  · rw [decide_eq_true (dT h1), h2]; rfl
  · rw [h2, Bool.and_false]
  · rw [decide_eq_false (dF h1)]; rfl
theorem sat_c (k want : Int) (w : World) : Calls Try.prog 29 #[.int .i64 k, .int .i64 want] w fun e w' => e = .returned (.bool (satB k want)) ∧ w = w' := by
  refine nf29 k want w _ ((isKind_c k w).mono ?_)
  rintro _ _ ⟨rfl, rfl⟩
  refine ⟨_, rfl, fun h1 => (isKind_c want w).mono ?_, fun h1 => ⟨ret_bool (by unfold satB; rw [h1]; rfl), rfl⟩⟩
  rintro _ _ ⟨rfl, rfl⟩
  refine ⟨_, rfl, fun h2 => ⟨fun h3 => ⟨ret_bool ?_, rfl⟩, fun h3 => ⟨fun h4 => ⟨fun h5 => ⟨ret_bool ?_, rfl⟩, fun h5 => ⟨ret_bool ?_, rfl⟩⟩, fun h4 => ⟨ret_bool ?_, rfl⟩⟩⟩, fun h2 => ⟨ret_bool ?_, rfl⟩⟩ <;> unfold satB
  · rw [h1, h2, h3]; rfl
  · rw [h1, h2, h4, h5]; simp
  · rw [h1, h2, h3, h4, h5]; rfl
  · rw [h1, h2, h3, h4]; rfl
  · rw [h1, h2]; rfl
/-- how two numbers compare -/
def cmpI (x y : Int) : Int := if x < y then -1 else if x > y then 1 else 0
theorem nan59 (x : Int) (w : World) : Calls Try.prog 59 #[.int .i64 x] w fun e w' => e = .returned (.bool false) ∧ w = w' := nf59 x w _ ⟨fun h => absurd rfl (nT h), fun _ => ⟨rfl, rfl⟩⟩
theorem nan60 (x : Int) (w : World) : Calls Try.prog 60 #[.int .i64 x] w fun e w' => e = .returned (.bool false) ∧ w = w' := nf60 x w _ ⟨fun h => absurd rfl (nT h), fun _ => ⟨rfl, rfl⟩⟩
theorem cmp46 (x y : Int) (w : World) : Calls Try.prog 46 #[.int .i64 x, .int .i64 y] w fun e w' => e = .returned (.int .i64 (cmpI x y)) ∧ w = w' := by
  refine nf46 x y w _ ((nan59 x w).mono ?_)
  rintro _ _ ⟨rfl, rfl⟩
  refine ⟨_, rfl, (fun k => by cases k), fun _ => (nan59 y w).mono ?_⟩
  rintro _ _ ⟨rfl, rfl⟩
  refine ⟨_, rfl, (fun k => by cases k), fun _ => ⟨fun h => ⟨ret_int ?_, rfl⟩, fun h => ⟨fun h2 => ⟨ret_int ?_, rfl⟩, fun h2 => ⟨ret_int ?_, rfl⟩⟩⟩⟩ <;> unfold cmpI
  · rw [if_pos (dT h)]
  · rw [if_neg (dF h), if_pos (dT h2)]
  · rw [if_neg (dF h), if_neg (dF h2)]
theorem cmp47 (x y : Int) (w : World) : Calls Try.prog 47 #[.int .i64 x, .int .i64 y] w fun e w' => e = .returned (.int .i64 (cmpI x y)) ∧ w = w' := by
  refine nf47 x y w _ ((nan60 x w).mono ?_)
  rintro _ _ ⟨rfl, rfl⟩
  refine ⟨_, rfl, (fun k => by cases k), fun _ => (nan60 y w).mono ?_⟩
  rintro _ _ ⟨rfl, rfl⟩
  refine ⟨_, rfl, (fun k => by cases k), fun _ => ⟨fun h => ⟨ret_int ?_, rfl⟩, fun h => ⟨fun h2 => ⟨ret_int ?_, rfl⟩, fun h2 => ⟨ret_int ?_, rfl⟩⟩⟩⟩ <;> unfold cmpI
  · rw [if_pos (dT h)]
  · rw [if_neg (dF h), if_pos (dT h2)]
  · rw [if_neg (dF h), if_neg (dF h2)]
/-- the first that is not zero -/
def orL : List Int → Int
  | [] => 0
  | x :: l => if x = 0 then orL l else x
theorem or_c (o : Option Addr) (c : Nat) (xs : List Int) (hl : xs.length ≤ 1000) (w : World) {A : Nat → Prop} (h : Nums w A o xs) : Calls Try.prog 45 #[.slice o xs.length c] w fun e w' => e = .returned (.int .i64 (orL xs)) ∧ w = w' := by
  refine nf45 o xs.length c w _ ⟨fun n x w' => ∃ i : Nat, x = (i : Int) ∧ i ≤ xs.length ∧ n = xs.length - i ∧ orL xs = orL (xs.drop i) ∧ w = w', ⟨_, 0, rfl, Nat.zero_le _, rfl, rfl, rfl⟩, ?_⟩
  rintro n _ _ x ⟨i, rfl, hi, rfl, hO, rfl⟩
  refine ⟨fun hlt => ?_, fun hge => ⟨ret_int ?_, rfl⟩⟩
  · have hlt : i < xs.length := by have := dT hlt; omega
    obtain ⟨a, ha, hc⟩ := h.get hlt
    rw [List.drop_eq_getElem_cons hlt, orL] at hO
    refine ⟨a, ha, ⟨by omega, by omega⟩, _, hc, fun hn => ⟨ret_int ?_, rfl⟩, fun hz => ⟨_, by omega, i + 1, by rw [wr (by omega)]; omega, hlt, rfl, ?_, rfl⟩⟩
    · rw [hO, if_neg (nT hn)]
    · rw [hO, if_pos (nF hz)]
  · have := dF hge
    rw [hO, List.drop_eq_nil_of_le (by omega)]; rfl
theorem lim_aux {o : Option Addr} {n c : Nat} (hn : n ≤ 64) (hc : n ≤ c) : (if (64 : Int) < ((n : Nat) : Int) then (64 : Int) else ((n : Nat) : Int)) = (n : Int) ∧ (if c = 0 then o else Option.map (fun x : Addr => x) o) = o := by
  refine ⟨if_neg (by omega), ?_⟩
  rw [show Option.map (fun x : Addr => x) o = o by cases o <;> rfl, ite_self]
theorem lim41 (o : Option Addr) (n c : Nat) (hn : n ≤ 64) (hc : n ≤ c) (w : World) : Calls Try.prog 41 #[.slice o n c] w fun e w' => e = .returned (.slice o n c) ∧ w = w' := by
  obtain ⟨e1, e2⟩ := lim_aux (o := o) hn hc
  refine nf41 o n c w _ ?_
  rw [e1, e2]
  exact ⟨⟨by omega, by omega⟩, by rw [toNat_cast, Nat.sub_zero, Nat.sub_zero], rfl⟩
theorem lim42 (o : Option Addr) (n c : Nat) (hn : n ≤ 64) (hc : n ≤ c) (w : World) : Calls Try.prog 42 #[.slice o n c] w fun e w' => e = .returned (.slice o n c) ∧ w = w' := by
  obtain ⟨e1, e2⟩ := lim_aux (o := o) hn hc
  refine nf42 o n c w _ ?_
  rw [e1, e2]
  exact ⟨⟨by omega, by omega⟩, by rw [toNat_cast, Nat.sub_zero, Nat.sub_zero], rfl⟩
theorem own_nilB {w w1 : World} {T k : Nat} (e : w1 = w.alloc (.cells #[] T (0, 0))) : Own w1 (hs w) T k (some ⟨hs w, 0, none⟩) 0 0 [] :=
  (show Row w1 (hs w) T [] from Row.new e).own (n := 0) (Nat.le_refl _) (by simp) (by simp [maxLen])
theorem in_new {w w1 w2 : World} {T : Nat} (e : w1 = w.alloc (.cells #[] T (0, 0))) (p : Only (inBlock (some (⟨hs w, 0, none⟩ : Addr))) w1 w2) : Grow w w2 :=
  (only_alloc e).trans p fun b hb k => by obtain ⟨a, ha, rfl⟩ := k; cases ha; exact absurd hb (by simp)
theorem elem22 : Elem Try.prog 22 65 3 24 := elem_of (by kernel_rfl)
theorem elem24 : Elem Try.prog 24 29 10 80 := elem_of (by kernel_rfl)
theorem one_encE (l : List Edg) : ∀ u ∈ l.flatMap encE, u.oneCell' = true := fun u hu => by
  obtain ⟨x, -, hx⟩ := List.mem_flatMap.1 hu
  simp only [encE, List.mem_cons, List.not_mem_nil, or_false] at hx
  rcases hx with rfl | rfl | rfl <;> rfl
theorem one_encUn (l : List Un) : ∀ u ∈ l.flatMap encUn, u.oneCell' = true := fun u hu => by
  obtain ⟨x, -, hx⟩ := List.mem_flatMap.1 hu
  simp only [encUn, List.mem_cons, List.not_mem_nil, or_false] at hx
  rcases hx with rfl | rfl | rfl | rfl | rfl | rfl | rfl | rfl | rfl | rfl <;> rfl
theorem recs_none {α : Type} {f : α → List Value} {w : World} {A : Nat → Prop} {k : Nat} {l : List α} (h : Recs w A none k (l.map f)) : l = [] := by
  cases l with
  | nil => rfl
  | cons x l => obtain ⟨a, ha, -⟩ := h 0 (f x) rfl; cases ha
theorem cloneI_c (o : Option Addr) (c : Nat) (xs : List Int) (hl : xs.length ≤ 1000000) (w : World) {A : Nat → Prop} (h : Nums w A o xs) :
    Calls Try.prog 27 #[.slice o xs.length c] w fun e w' => ∃ o' c', e = .returned (.slice o' xs.length c') ∧ Own w' (hs w) 3 1 o' xs.length c' (intsV xs) ∧ Grow w w' := by
  refine nf27 o xs.length c w _ ⟨fun hn => ?_, fun _ w3 e3 => ?_⟩
  · have : xs = [] := by
      cases xs with
      | nil => rfl
      | cons x xs => obtain ⟨a, ha, -⟩ := h 0 x rfl; rw [ha] at hn; cases hn
    subst this
    exact ⟨none, 0, rfl, own_nil _ _ _ _, Only.refl _ _⟩
  · have g3 : Grow w w3 := only_alloc e3
    refine append_nums elem31 (own_nilrow e3 (Nat.le_refl _)) (h.grow g3) (by simp only [maxLen]; omega) (by omega) g3.size fun o' c' w' p1 p2 => ⟨_, _, _, rfl, o', c', by rw [Nat.zero_add], by rw [Nat.zero_add] at p1; exact p1, in_new e3 p2⟩
theorem cloneE_c (o : Option Addr) (c : Nat) (xs : List Edg) (hl : xs.length ≤ 1000000) (w : World) {A : Nat → Prop} (h : Edgs w A o xs) :
    Calls Try.prog 19 #[.slice o xs.length c] w fun e w' => ∃ o' c', e = .returned (.slice o' xs.length c') ∧ Own w' (hs w) 65 3 o' xs.length c' (xs.flatMap encE) ∧ Grow w w' := by
  refine nf19 o xs.length c w _ ⟨fun hn => ?_, fun _ w3 e3 => ?_⟩
  · have ho : o = none := by cases o with | none => rfl | some a => cases hn
    subst ho
    obtain rfl := recs_none h
    exact ⟨none, 0, rfl, own_nil _ _ _ _, Only.refl _ _⟩
  · have g3 : Grow w w3 := only_alloc e3
    refine append_recs (xs := []) encE_len elem22 (by decide) (own_nilB e3) (h.grow g3) (one_encE _) (by simp only [maxLen]; omega) (by omega) g3.size fun o' c' w' p1 p2 => ⟨_, _, _, rfl, o', c', by rw [Nat.zero_add], by rw [Nat.zero_add, List.nil_append] at p1; exact p1, in_new e3 p2⟩
theorem cloneU_c (o : Option Addr) (c : Nat) (xs : List Un) (hl : xs.length ≤ 1000000) (w : World) {A : Nat → Prop} (h : Uns w A o xs) :
    Calls Try.prog 20 #[.slice o xs.length c] w fun e w' => ∃ o' c', e = .returned (.slice o' xs.length c') ∧ Own w' (hs w) 29 10 o' xs.length c' (xs.flatMap encUn) ∧ Grow w w' := by
  refine nf20 o xs.length c w _ ⟨fun hn => ?_, fun _ w3 e3 => ?_⟩
  · have ho : o = none := by cases o with | none => rfl | some a => cases hn
    subst ho
    obtain rfl := recs_none h
    exact ⟨none, 0, rfl, own_nil _ _ _ _, Only.refl _ _⟩
  · have g3 : Grow w w3 := only_alloc e3
    refine append_recs (xs := []) encUn_len elem24 (by decide) (own_nilB e3) (h.grow g3) (one_encUn _) (by simp only [maxLen]; omega) (by omega) g3.size fun o' c' w' p1 p2 => ⟨_, _, _, rfl, o', c', by rw [Nat.zero_add], by rw [Nat.zero_add, List.nil_append] at p1; exact p1, in_new e3 p2⟩
theorem equal_c (o o' : Option Addr) (c c' : Nat) (xs ys : List Int) (hl : xs.length ≤ 1000000) (w : World) {A B : Nat → Prop} (h : Nums w A o xs) (h' : Nums w B o' ys) :
    Calls Try.prog 28 #[.slice o xs.length c, .slice o' ys.length c'] w fun e w' => e = .returned (.bool (decide (xs = ys))) ∧ Grow w w' := by
  refine nf28 o xs.length c o' ys.length c' w _ ⟨fun hn => ⟨ret_bool ?_, Only.refl _ _⟩, fun he => ?_⟩
  · have := nT hn
    exact (decide_eq_false fun e => this (by rw [e])).symm
  have he : xs.length = ys.length := by have := nF he; omega
  refine ⟨fun n x w' => ∃ i : Nat, x = (i : Int) ∧ i ≤ xs.length ∧ n = xs.length - i ∧ xs.take i = ys.take i ∧ Grow w w', ⟨_, 0, rfl, Nat.zero_le _, rfl, rfl, Only.refl _ _⟩, ?_⟩
  rintro n _ w7 x ⟨i, rfl, hi, rfl, hT, g7⟩
  refine ⟨fun hlt w11 e11 => ?_, fun hge => ⟨ret_bool ?_, g7⟩⟩
  · have hlt : i < xs.length := by have := dT hlt; omega
    have G := g7.trans' (only_drew (S := none') e11)
    obtain ⟨a, ha, hc⟩ := (h.grow G).get hlt
    obtain ⟨a', ha', hc'⟩ := (h'.grow G).get (show i < ys.length by omega)
    refine ⟨a, ha, ⟨by omega, by omega⟩, _, hc, a', ha', ⟨by omega, by omega⟩, _, hc', fun hn => ⟨ret_bool (decide_eq_false fun e => nT hn (by subst e; rfl)).symm, G⟩, fun hz => ⟨_, by omega, i + 1, by rw [wr (by omega)]; omega, hlt, rfl, ?_, G⟩⟩
    rw [List.take_succ_eq_append_getElem hlt, List.take_succ_eq_append_getElem (show i < ys.length by omega), hT, nF hz]
  · have := dF hge
    rw [List.take_of_length_le (by omega), List.take_of_length_le (by omega)] at hT
    exact (decide_eq_true hT).symm

/-! ### the graph -/
structure GraphAt (w : World) (A : Nat → Prop) (q : Nat) (E : List Edg) (ins outs : List (List Int)) : Prop where
  ex : ∃ oe ce oo co oi ci, Row w q 70 [.slice oe E.length ce, .slice oo outs.length co, .slice oi ins.length ci] ∧ Edgs w A oe E ∧ Mat w A oo outs ∧ Mat w A oi ins ∧ A q
theorem GraphAt.keep {w w' : World} {A S : Nat → Prop} {q : Nat} {E : List Edg} {ins outs : List (List Int)} (h : GraphAt w A q E ins outs) (g : Only S w w') (hS : ∀ b, A b → ¬ S b) : GraphAt w' A q E ins outs := by
  obtain ⟨oe, ce, oo, co, oi, ci, h1, h2, h3, h4, h5⟩ := h.ex
  exact ⟨oe, ce, oo, co, oi, ci, h1.keep g (hS q h5), h2.keep g hS, h3.keep g hS, h4.keep g hS, h5⟩
theorem GraphAt.grow {w w' : World} {A : Nat → Prop} {q : Nat} {E : List Edg} {ins outs : List (List Int)} (h : GraphAt w A q E ins outs) (g : Grow w w') : GraphAt w' A q E ins outs := h.keep g fun _ _ h => h
theorem nodes_c {w : World} {A : Nat → Prop} {q : Nat} {E : List Edg} {ins outs : List (List Int)} (h : GraphAt w A q E ins outs) : Calls Try.prog 63 #[.pointer (some ⟨q, 0, none⟩)] w fun e w' => e = .returned (.int .i64 (outs.length : Int)) ∧ w = w' := by
  obtain ⟨oe, ce, oo, co, oi, ci, h1, -⟩ := h.ex
  exact nf63 q w _ ⟨_, _, _, h1.cell rfl, rfl, rfl⟩
theorem edges_c {w : World} {A : Nat → Prop} {q : Nat} {E : List Edg} {ins outs : List (List Int)} (h : GraphAt w A q E ins outs) : Calls Try.prog 70 #[.pointer (some ⟨q, 0, none⟩)] w fun e w' => e = .returned (.int .i64 (E.length : Int)) ∧ w = w' := by
  obtain ⟨oe, ce, oo, co, oi, ci, h1, -⟩ := h.ex
  exact nf70 q w _ ⟨_, _, _, h1.cell rfl, rfl, rfl⟩
theorem isNode_c {w : World} {A : Nat → Prop} {q : Nat} {E : List Edg} {ins outs : List (List Int)} (h : GraphAt w A q E ins outs) (x : Int) : Calls Try.prog 64 #[.pointer (some ⟨q, 0, none⟩), .int .i64 x] w fun e w' => e = .returned (.bool (decide (0 ≤ x) && decide (x < (outs.length : Int)))) ∧ w = w' := by
  refine nf64 q x w _ ⟨fun h1 => (nodes_c h).mono ?_, fun h1 => ⟨ret_bool ?_, rfl⟩⟩
  · rintro _ _ ⟨rfl, rfl⟩
    exact ⟨_, rfl, fun h2 => ⟨ret_bool (by rw [decide_eq_true (dT h1), h2]; rfl), rfl⟩, fun h2 => ⟨ret_bool (by rw [h2, Bool.and_false]), rfl⟩⟩
  · rw [decide_eq_false (fun k => dF h1 k)]; rfl
theorem edge_c {w : World} {A : Nat → Prop} {q : Nat} {E : List Edg} {ins outs : List (List Int)} (h : GraphAt w A q E ins outs) {i : Nat} {e : Edg} (hi : E[i]? = some e) :
    Calls Try.prog 69 #[.pointer (some ⟨q, 0, none⟩), .int .i64 (i : Int)] w fun en w' => en = .returned (.tuple #[.agg #[.int .i64 e.src, .int .i64 e.dst, .int .i64 e.time], .bool true]) ∧ Grow w w' := by
  refine nf69 q (i : Int) w _ fun w1 e1 => ⟨fun k => absurd (dT k) (by omega), fun _ => ?_⟩
  have r1 := Row.new e1
  have g1 : Grow w w1 := only_alloc e1
  obtain ⟨oe, ce, oo, co, oi, ci, h1, h2, -⟩ := (h.grow g1).ex
  have hil := (List.getElem?_eq_some_iff.1 hi).1
  obtain ⟨a, ha, -, hc, hc0⟩ := Recs.atE h2 hi
  refine ⟨_, _, _, h1.cell rfl, fun k => absurd (dT k) (by omega), fun _ => ⟨_, _, _, h1.cell rfl, a, ha, ⟨by omega, by omega⟩, _, hc0 _ rfl, _, hc 1 _ rfl, _, hc 2 _ rfl, r1.there (by simp), fun w27 e27 => ?_⟩⟩
  have r27 := r1.set e27
  exact ⟨_, r27.cell rfl, _, r27.cell rfl, _, r27.cell rfl, rfl, g1.trans (only_set e27) fun b hb e => by omega⟩
theorem travelTime_c (o : Option Addr) (c : Nat) (ts : List Int) (i : Nat) (w : World) {A : Nat → Prop} (h : Nums w A o ts) :
    Calls Try.prog 71 #[.slice o ts.length c, .int .i64 (i : Int)] w fun e w' => e = .returned (.int .i64 (match ts[i]? with | some t => if t < 1 ∨ t > 1048576 then 4611686018427387904 else t | none => 4611686018427387904)) ∧ w = w' := by
  refine nf71 o ts.length c (i : Int) w _ ⟨fun h1 => ⟨ret_int ?_, rfl⟩, fun h1 => ?_⟩
  · rw [List.getElem?_eq_none (by have := dT h1; omega)]
  · have hi : i < ts.length := by have := dF h1; omega
    obtain ⟨a, ha, hc⟩ := h.get hi
    rw [List.getElem?_eq_getElem hi]
    generalize ts[i] = t at *
    refine ⟨a, ha, ⟨by omega, by omega⟩, _, hc, fun h2 => ⟨ret_int ?_, rfl⟩, fun h2 => ⟨a, ha, ⟨by omega, by omega⟩, _, hc, fun h3 => ⟨ret_int ?_, rfl⟩, fun h3 => ⟨a, ha, ⟨by omega, by omega⟩, _, hc, ret_int ?_, rfl⟩⟩⟩
    · show _ = if _ then _ else _
      rw [if_pos (.inl (dT h2))]
    · show _ = if _ then _ else _
      rw [if_pos (.inr (dT h3))]
    · show _ = if _ then _ else _
      rw [if_neg (fun k => k.elim (dF h2) (dF h3))]
end Go.Proofs.Ytcaokpglbolkcaa
