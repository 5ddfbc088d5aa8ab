/- ShortestPath. -/
import Derived.Test.YtbaacpfjecbbgaaKh
namespace Go.Proofs.Ytbaacpfjecbbgaa
open Go Go.Nf

/-! ### Plain -/
/-- the urgency in which a way ends -/
def endW (qs : List Qst) : Nat → List Int → Int
  | _, [] => 0
  | q, k :: w => match qs[q]? with
    | none => 0
    | some s => match s.ans[k.toNat]? with
      | none => 0
      | some a => if a.next < 0 then (if w = [] then a.urg else 0) else endW qs a.next.toNat w
/-- the first of the shortest -/
def better : Option (List Int) → Option (List Int) → Option (List Int)
  | none, b => b
  | a, none => a
  | some a, some b => if b.length < a.length then some b else some a
def best : List (List Int) → Option (List Int)
  | [] => none
  | w :: l => better (some w) (best l)
theorem better_none (a : Option (List Int)) : better a none = a := by cases a <;> rfl
theorem better_assoc (a b c : Option (List Int)) : better (better a b) c = better a (better b c) := by
  cases a with
  | none => rfl
  | some a =>
    cases b with
    | none => rfl
    | some b =>
      cases c with
      | none => rw [better_none, better_none]
      | some c =>
        simp only [better]
        by_cases h1 : b.length < a.length
        · by_cases h2 : c.length < b.length
          · simp [h1, h2, better]; omega
          · simp [h1, h2, better]
        · by_cases h2 : c.length < b.length
          · simp [h1, h2, better]
          · have : ¬ c.length < a.length := by omega
            simp [h1, h2, better, this]
theorem best_append (l m : List (List Int)) : best (l ++ m) = better (best l) (best m) := by
  induction l with
  | nil => rfl
  | cons w l ih => rw [List.cons_append, best, best, ih, better_assoc]
theorem best_map (k : Int) (l : List (List Int)) : best (l.map (k :: ·)) = (best l).map (k :: ·) := by
  induction l with
  | nil => rfl
  | cons w l ih =>
    rw [List.map_cons, best, best, ih]
    cases best l with
    | none => rfl
    | some v =>
      simp only [Option.map_some, better, List.length_cons, Nat.add_lt_add_iff_right]
      split <;> rfl
/-- the ways from q on that end in an urgency -/
def wants (qs : List Qst) (u : Int) (q : Nat) : List (List Int) := (paths qs q).filter fun w => decide (endW qs q w = u)
/-- .. by a given answer -/
def oneU (qs : List Qst) (u : Int) (a : Ans) (k : Nat) : Option (List Int) := if a.next < 0 then (if a.urg = u then some [(k : Int)] else none) else (best (wants qs u a.next.toNat)).map ((k : Int) :: ·)
theorem endW_last {qs : List Qst} {q k : Nat} {s : Qst} {a : Ans} (hq : qs[q]? = some s) (ha : s.ans[k]? = some a) (hn : a.next < 0) : endW qs q [(k : Int)] = a.urg := by
  simp only [endW, hq, toNat_cast, ha, hn, if_true]
theorem endW_more {qs : List Qst} {q k : Nat} {s : Qst} {a : Ans} (hq : qs[q]? = some s) (ha : s.ans[k]? = some a) (hn : 0 ≤ a.next) (w : List Int) : endW qs q ((k : Int) :: w) = endW qs a.next.toNat w := by
  simp only [endW, hq, toNat_cast, ha, if_neg (show ¬ a.next < 0 by omega)]
theorem best_one {qs : List Qst} {u : Int} {q k : Nat} {s : Qst} {a : Ans} (hq : qs[q]? = some s) (ha : s.ans[k]? = some a) :
    best ((oneF (paths qs) a k).filter fun w => decide (endW qs q w = u)) = oneU qs u a k := by
  unfold oneF oneU
  by_cases hn : a.next < 0
  · rw [if_pos hn, if_pos hn]
    by_cases hu : a.urg = u
    · rw [if_pos hu, List.filter_cons_of_pos (by rw [endW_last hq ha hn]; exact decide_eq_true hu)]
      rfl
    · rw [if_neg hu, List.filter_cons_of_neg (by rw [endW_last hq ha hn]; simpa using hu)]
      rfl
  · rw [if_neg hn, if_neg hn, List.filter_map, best_map]
    unfold wants
    congr 3
    funext w
    simp only [Function.comp, endW_more hq ha (show 0 ≤ a.next by omega)]
theorem best_step {qs : List Qst} {u : Int} {q k : Nat} {s : Qst} (hq : qs[q]? = some s) (hk : k < s.ans.length) :
    best ((ansF (paths qs) (s.ans.take (k + 1)) 0).filter fun w => decide (endW qs q w = u)) = better (best ((ansF (paths qs) (s.ans.take k) 0).filter fun w => decide (endW qs q w = u))) (oneU qs u s.ans[k] k) := by
  rw [ansF_take _ _ hk, List.filter_append, best_append, best_one hq (List.getElem?_eq_getElem hk)]
/-- the way that is wanted -/
def shortW (p : Prot) (y u : Int) : Option (List Int) := if y = 0 then best (wants p.qs u 0) else none

/-! ### The slots -/
def SlotAt (w : World) (T : Nat) (v : Value) : Option (List Int) → Prop
  | none => v = .slice none 0 0
  | some l => ∃ a c, v = .slice (some a) l.length c ∧ Nums w (fun b => T ≤ b) (some a) l
theorem SlotAt.keep {S : Nat → Prop} {w w' : World} {T : Nat} {v : Value} {b : Option (List Int)} (h : SlotAt w T v b) (g : Only S w w') (hS : ∀ b, S b → b < T) : SlotAt w' T v b := by
  cases b with
  | none => exact h
  | some l =>
    obtain ⟨a, c, h1, h2⟩ := h
    exact ⟨a, c, h1, h2.keep g fun b hb hs => by have := hS b hs; omega⟩
theorem SlotAt.shape {w : World} {T : Nat} {v : Value} {b : Option (List Int)} (h : SlotAt w T v b) : ∃ o c, v = .slice o (b.getD []).length c ∧ (Option.isNone o = true ↔ b = none) := by
  cases b with
  | none => exact ⟨none, 0, h, by simp⟩
  | some l =>
    obtain ⟨a, c, h1, -⟩ := h
    exact ⟨some a, c, h1, by simp⟩
structure SDone (w : World) (T : Nat) (l : List Nat) (j n : Nat) (B : Nat → Option (List Int)) (sv : List Value) : Prop where
  len : sv.length = n
  done : ∀ (i x : Nat), i < j → l[i]? = some x → ∃ v, sv[x]? = some v ∧ SlotAt w T v (B x)
  rest : ∀ x, x < n → (∀ i : Nat, i < j → l[i]? ≠ some x) → sv[x]? = some (.slice none 0 0)
theorem SDone.keep {S : Nat → Prop} {w w' : World} {T : Nat} {l : List Nat} {j n : Nat} {B : Nat → Option (List Int)} {sv : List Value} (h : SDone w T l j n B sv) (g : Only S w w') (hS : ∀ b, S b → b < T) : SDone w' T l j n B sv :=
  ⟨h.len, fun i x hi hx => by obtain ⟨v, h1, h2⟩ := h.done i x hi hx; exact ⟨v, h1, h2.keep g hS⟩, h.rest⟩
theorem SDone.more {w : World} {T : Nat} {nx : Nat → List Nat} {l : List Nat} {j n q : Nat} {B : Nat → Option (List Int)} {sv sv' : List Value} {v : Value} (h : SDone w T l j n B sv) (ht : Topo nx l) (hq : l[j]? = some q) (hl : sv'.length = sv.length) (hs : ∀ x, x ≠ q → sv'[x]? = sv[x]?) (hv : sv'[q]? = some v) (hb : SlotAt w T v (B q)) : SDone w T l (j + 1) n B sv' := by
  refine ⟨hl.trans h.len, fun i x hi hx => ?_, fun x hxn hx => ?_⟩
  · by_cases e : i = j
    · subst e
      rw [hq] at hx
      cases hx
      exact ⟨v, hv, hb⟩
    · obtain ⟨v', h1, h2⟩ := h.done i x (by omega) hx
      refine ⟨v', ?_, h2⟩
      rw [hs x fun e2 => e (ht.nodup i j q (by rw [hx, e2]) hq)]
      exact h1
  · rw [hs x fun e => hx j (by omega) (by rw [hq, e])]
    exact h.rest x hxn fun i hi => hx i (by omega)
theorem slot_get {sv : List Value} {q : Nat} {v : Value} (h : sv[q]? = some v) : sv[(q : Int).toNat * 1]? = some v := by rw [toNat_cast, Nat.mul_one]; exact h
theorem slot_set (sv : List Value) (q : Nat) (v : Value) : setFrom sv ((q : Int).toNat * 1) [v] = sv.set q v := by rw [toNat_cast, Nat.mul_one]; rfl
/-- a number ahead of a way -/
theorem cons_way {w w1 : World} {k : Int} {a : Addr} {c T : Nat} {l : List Int} {K : Value → World → Prop} (h : Nums w (fun b => T ≤ b) (some a) l) (hl : l.length ≤ 100000) (e : w1 = w.alloc (.cells #[.int .i64 k] 3 (0, 0))) (hT : T ≤ hs w)
    (hK : ∀ a' c' w', Nums w' (fun b => T ≤ b) (some a') (k :: l) → Grow w w' → K (.slice (some a') (k :: l).length c') w') :
    RunOk Try.prog (Hold (Builtin.append_ #[48, 48] 48 #[.slice (some ⟨hs w, 0, none⟩) 1 1, .slice (some a) l.length c])) w1 K := by
  have r : Row w1 (hs w) 3 [.int .i64 k] := Row.new e
  have g : Grow w w1 := only_alloc e
  have own : Own w1 (hs w) 3 1 (some ⟨hs w, 0, none⟩) 1 1 [.int .i64 k] := r.own (Nat.le_refl _) rfl (by simp [maxLen])
  have s := g.size
  refine run_append (news := intsV l) elem48 own (by simp [intsV]) (fun j u hu => ?_) (intsV_one l) (by simp [maxLen]; omega) (by omega) s fun o' c' w' p1 p2 p3 => ?_
  · have hlt : j < l.length := by
      rcases Nat.lt_or_ge j l.length with h | h
      · exact h
      · rw [List.getElem?_eq_none (by simp [intsV]; omega)] at hu; cases hu
    obtain ⟨a', ha', hc⟩ := (h.grow g).get hlt
    cases ha'
    rw [toNat_cast, Nat.mul_one] at hc
    have : u = .int .i64 l[j] := by
      have e2 : (intsV l)[j]? = some (.int .i64 l[j]) := by simp [intsV, hlt]
      rw [hu] at e2
      exact Option.some.inj e2
    rw [this]
    exact hc
  · cases o' with
    | none => have := (p3.1 rfl).1; cases this
    | some a' =>
      have e1 : [Value.int .i64 k] ++ intsV l = intsV (k :: l) := rfl
      rw [e1] at p1
      have e2 : (k :: l).length = 1 + l.length := by simp; omega
      have := hK a' c' w' (Nums.mono (Own.nums p1) fun b hb => by have := hb.1; omega) (g.trans p2 fun b hb hh => by
        obtain ⟨a, ha, rfl⟩ := hh
        cases ha
        exact Nat.lt_irrefl _ hb)
      rw [e2] at this
      exact this
theorem paths_short {qs : List Qst} : ∀ (f q : Nat) (w : List Int), w ∈ pathsF qs f q → w.length ≤ f := by
  intro f
  induction f with
  | zero => intro q w h; simp [pathsF] at h
  | succ f ih =>
    intro q w h
    rw [pathsF] at h
    cases hq : qs[q]? with
    | none => rw [hq] at h; simp at h
    | some s =>
      rw [hq] at h
      have key : ∀ (l : List Ans) (k : Nat), w ∈ ansF (pathsF qs f) l k → w.length ≤ f + 1 := by
        intro l
        induction l with
        | nil => intro k h; simp [ansF] at h
        | cons a l ih2 =>
          intro k h
          rw [ansF, List.mem_append] at h
          rcases h with h | h
          · unfold oneF at h
            split at h
            · rw [List.mem_singleton] at h; rw [h]; simp
            · obtain ⟨v, hv, rfl⟩ := List.mem_map.1 h
              have := ih _ _ hv
              simp; omega
          · exact ih2 _ h
      exact key _ _ h
theorem best_mem {l : List (List Int)} {w : List Int} (h : best l = some w) : w ∈ l := by
  induction l generalizing w with
  | nil => cases h
  | cons v l ih =>
    rw [best] at h
    cases hb : best l with
    | none => rw [hb] at h; cases h; simp
    | some x =>
      rw [hb] at h
      simp only [better] at h
      split at h
      · cases h; exact List.mem_cons_of_mem _ (ih hb)
      · cases h; simp
end Go.Proofs.Ytbaacpfjecbbgaa
