/- Contracts: the kinds that a plan asks for; the level. -/
import Derived.Test.YtolpmdmcbciccaaDoorWj
namespace Go.Proofs.YtolpmdmcbciccaaDoor
open Go Go.Nf Go.RowKit

structure Pln where
  code : Str
  urg : Int
  kinds : List Int
abbrev PlR := Pln × Option Addr × Nat
def encPl (x : PlR) : List Value := [.string (BA x.1.code), .int .i64 x.1.urg, .slice x.2.1 x.1.kinds.length x.2.2]
def Plns (w : World) (A : Nat → Prop) (o : Option Addr) (l : List Pln) : Prop :=
  ∃ rows : List PlR, rows.map (·.1) = l ∧ Recs w A o 3 (rows.map encPl) ∧ ∀ x ∈ rows, Nums w A x.2.1 x.1.kinds
theorem Plns.keep {w w' : World} {A S : Nat → Prop} {o : Option Addr} {l : List Pln} (h : Plns w A o l) (g : Only S w w') (hS : ∀ b, A b → ¬ S b) : Plns w' A o l := by
  obtain ⟨rows, h1, h2, h3⟩ := h
  exact ⟨rows, h1, h2.keep g hS, fun x hx => (h3 x hx).keep g hS⟩
theorem Plns.grow {w w' : World} {A : Nat → Prop} {o : Option Addr} {l : List Pln} (h : Plns w A o l) (g : Grow w w') : Plns w' A o l := h.keep g fun _ _ h => h
theorem Plns.at {w : World} {A : Nat → Prop} {o : Option Addr} {l : List Pln} (h : Plns w A o l) {i : Nat} {p : Pln} (hi : l[i]? = some p) :
    ∃ a oi ci, o = some a ∧ w.cell? (a.add ((i : Int).toNat * 3)) = some (.string (BA p.code)) ∧ w.cell? ((a.add ((i : Int).toNat * 3)).add 1) = some (.int .i64 p.urg) ∧ w.cell? ((a.add ((i : Int).toNat * 3)).add 2) = some (.slice oi p.kinds.length ci) ∧ Nums w A oi p.kinds := by
  obtain ⟨rows, rfl, h2, h3⟩ := h
  rw [List.getElem?_map] at hi
  cases hr : rows[i]? with
  | none => rw [hr] at hi; cases hi
  | some r =>
    rw [hr] at hi
    cases hi
    obtain ⟨a, ha, hA, hc⟩ := h2 i (encPl r) (by rw [List.getElem?_map, hr]; rfl)
    have := hc 0 _ rfl
    rw [add_zero] at this
    exact ⟨a, _, _, ha, this, hc 1 _ rfl, hc 2 _ rfl, h3 r (List.mem_of_getElem? hr)⟩
def fitsP (code : Str) (urg : Int) (p : Pln) : Bool := decide (p.code = code) && decide (p.urg = urg)
def anyW : Str := [42]
def kindsOf (l : List Pln) (code : Str) (urg : Int) : List Int := match l.find? (fitsP code urg) with
  | some p => p.kinds
  | none => match l.find? (fitsP anyW urg) with
    | some p => p.kinds
    | none => [1]
theorem find_first {α : Type} {f : α → Bool} : ∀ {l : List α} {i : Nat} {p : α}, l[i]? = some p → f p = true → (∀ j q, j < i → l[j]? = some q → f q = false) → l.find? f = some p
  | y :: l, 0, p, h, hf, _ => by
    cases h
    rw [List.find?_cons, hf]
  | y :: l, i + 1, p, h, hf, hn => by
    have hy := hn 0 y (Nat.succ_pos _) rfl
    rw [List.find?_cons, hy]
    exact find_first (l := l) (i := i) (by simpa using h) hf fun j q hj hq => hn (j + 1) q (by omega) (by simpa using hq)
theorem find_no {α : Type} {f : α → Bool} {l : List α} (h : ∀ (j : Nat) q, l[j]? = some q → f q = false) : l.find? f = none := by
  rw [List.find?_eq_none]
  intro x hx
  obtain ⟨j, hj, e⟩ := List.getElem_of_mem hx
  have := h j x (by rw [List.getElem?_eq_getElem hj]; exact congrArg some e)
  rw [this]; decide
/-- where the first plan stands that fits, or -1 -/
def FirstAt (l : List Pln) (code : Str) (urg x : Int) : Prop := (x = -1 ∧ l.find? (fitsP code urg) = none) ∨ ∃ (i : Nat) (p : Pln), x = (i : Int) ∧ l[i]? = some p ∧ l.find? (fitsP code urg) = some p
theorem fits_c (p : Pln) (o : Option Addr) (c : Nat) (code : Str) (urg : Int) (c0 c1 : Nat) (w : World) {T0 T1 : Nat} (r0 : Row w c0 T0 [.string (BA code)]) (r1 : Row w c1 T1 [.int .i64 urg]) :
    Calls Tryd.prog 68 #[.agg #[.string (BA p.code), .int .i64 p.urg, .slice o p.kinds.length c], .pointer (some ⟨c0, 0, none⟩), .pointer (some ⟨c1, 0, none⟩)] w fun e w' => e = .returned (.bool (fitsP code urg p)) ∧ Grow w w' := by
  refine nf68 (BA p.code) p.urg o p.kinds.length c c0 c1 w _ fun w1 e1 => ?_
  have g1 : Grow w w1 := only_alloc e1
  have r := Row.new e1
  refine ⟨_, r.cell rfl, _, (r0.grow g1).cell rfl, fun h1 => ⟨_, r.cell rfl, _, (r1.grow g1).cell rfl, fun h2 => ⟨ret_bool ?_, g1⟩, fun h2 => ⟨ret_bool ?_, g1⟩⟩, fun h1 => ⟨ret_bool ?_, g1⟩⟩
  · rw [strEq_BA] at h1
    unfold fitsP; rw [h1, h2]; rfl
  · unfold fitsP; rw [h2, Bool.and_false]
  · rw [strEq_BA] at h1
    unfold fitsP; rw [h1]; rfl
theorem callee68 : calleeOk Tryd.prog 68 = true := by kernel_rfl
theorem find_c (o : Option Addr) (c : Nat) (l : List Pln) (code : Str) (urg : Int) (hl : l.length ≤ 9223372036854775806) (w : World) {A : Nat → Prop} (h : Plns w A o l) :
    Calls Tryd.prog 57 #[.slice o l.length c, .string (BA code), .int .i64 urg] w fun e w' => ∃ x, e = .returned (.int .i64 x) ∧ FirstAt l code urg x ∧ Grow w w' := by
  refine nf57 o l.length c (BA code) urg w _ fun w1 e1 w3 e3 => ?_
  have g1 : Grow w w1 := only_alloc e1
  have g3 : Grow w1 w3 := only_alloc e3
  have r0 := (Row.new (l := [.string (BA code)]) e1).grow g3
  have r1 := Row.new (l := [.int .i64 urg]) e3
  have G3 := g1.trans' g3
  refine nf67 o l.length c (.func 68) #[] _ w3 _ ⟨fun n x w' => ∃ i : Nat, x = (i : Int) ∧ i ≤ l.length ∧ n = l.length - i ∧ (∀ (j : Nat) q, j < i → l[j]? = some q → fitsP code urg q = false) ∧ Grow w3 w', ⟨_, 0, rfl, Nat.zero_le _, rfl, fun j q hj => by omega, Only.refl _ _⟩, ?_⟩
  rintro n _ w5 x ⟨i, rfl, hi, rfl, hno, g5⟩
  have G5 := G3.trans' g5
  refine ⟨fun hlt => ?_, fun hge => ?_⟩
  · have hlt : i < l.length := by have := dT hlt; omega
    have hat := List.getElem?_eq_getElem hlt
    obtain ⟨a, oi, ci, ha, h0, h1, h2, -⟩ := (h.grow G5).at hat
    generalize l[i] = p at *
    refine ⟨a, ha, ⟨by omega, by omega⟩, _, h0, _, h1, _, _, _, h2, .inl ⟨68, _, _, rfl, callee68, (fits_c p oi ci code urg (hs w) (hs w1) w5 (r0.grow g5) (r1.grow g5)).mono ?_⟩⟩
    rintro _ w16 ⟨rfl, g16⟩
    refine ⟨_, rfl, fun hb => ⟨_, rfl, _, rfl, .inr ⟨i, p, rfl, hat, find_first hat hb hno⟩, G5.trans' g16⟩, fun hb => ⟨_, by omega, i + 1, by rw [wr (by omega)]; omega, hlt, rfl, fun j q hj hq => ?_, g5.trans' g16⟩⟩
    by_cases e : j = i
    · subst e
      rw [hat] at hq
      cases hq
      exact hb
    · exact hno j q (by omega) hq
  · have := dF hge
    refine ⟨_, rfl, _, rfl, .inl ⟨rfl, find_no fun j q hq => hno j q ?_ hq⟩, G5⟩
    have := (List.getElem?_eq_some_iff.1 hq).1
    omega
theorem clone_c (o : Option Addr) (c : Nat) (xs : List Int) (hl : xs.length ≤ 1000000) (w : World) {A : Nat → Prop} (h : Nums w A o xs) :
    Calls Tryd.prog 58 #[.slice o xs.length c] w fun e w' => ∃ o' c', e = .returned (.slice o' xs.length c') ∧ Nums w' (fun _ => True) o' xs ∧ Grow w w' := by
  refine nf58 o xs.length c w _ ⟨fun hn => ?_, fun _ w3 e3 => ?_⟩
  · have : xs = [] := by
      cases xs with
      | nil => rfl
      | cons x xs =>
        obtain ⟨a, ha, -⟩ := h 0 x rfl
        rw [ha] at hn
        cases hn
    subst this
    exact ⟨none, 0, rfl, fun j v hj => by simp at hj, Only.refl _ _⟩
  · have g3 : Grow w w3 := only_alloc e3
    have own3 : Own w3 (hs w) 3 1 (some ⟨hs w, 0, none⟩) 0 0 (intsV []) := (show Row w3 (hs w) 3 [] from Row.new e3).own (n := 0) (Nat.le_refl _) rfl (by simp [maxLen])
    refine append_nums elem71 own3 (h.grow g3) (by simp only [maxLen]; omega) (by omega) g3.size fun o' c' w' p1 p2 => ⟨_, _, _, rfl, o', c', ?_, p1.nums.mono fun _ _ => trivial, g3.trans p2 fun b hb k => ?_⟩
    · rw [Nat.zero_add]
    · obtain ⟨a', ha', rfl⟩ := k
      cases ha'
      exact absurd hb (by simp)
def Fews (l : List Pln) : Prop := l.length ≤ 1000 ∧ ∀ p ∈ l, p.kinds.length ≤ 1000
theorem kinds_len {l : List Pln} (h : Fews l) (code : Str) (urg : Int) : (kindsOf l code urg).length ≤ 1000 := by
  unfold kindsOf
  split
  · rename_i p hp
    exact h.2 p (List.mem_of_find?_eq_some hp)
  · split
    · rename_i p hp
      exact h.2 p (List.mem_of_find?_eq_some hp)
    · decide
set_option maxHeartbeats 1000000 in
theorem required_c (o : Option Addr) (c : Nat) (l : List Pln) (code : Str) (urg : Int) (hl : Fews l) (w : World) {A : Nat → Prop} (h : Plns w A o l) :
    Calls Tryd.prog 38 #[.slice o l.length c, .string (BA code), .int .i64 urg] w fun e w' => ∃ o' c', e = .returned (.slice o' (kindsOf l code urg).length c') ∧ Nums w' (fun _ => True) o' (kindsOf l code urg) ∧ Grow w w' := by
  have hl0 := hl.1
  refine nf38 o l.length c (BA code) urg w _ ((find_c o c l code urg (by omega) w h).mono ?_)
  rintro _ w2 ⟨x, rfl, hx, g2⟩
  refine ⟨_, rfl, fun k4 hk => ?_⟩
  have last : ∀ (w6 : World) (y : Int), Grow w w6 → ((y < 0 ∧ kindsOf l code urg = [1]) ∨ ∃ (i : Nat) (p : Pln), y = (i : Int) ∧ l[i]? = some p ∧ kindsOf l code urg = p.kinds) → k4 y w6 := fun w6 y g6 hy => hk _ _ fun _ => by
    rcases hy with ⟨h1, h2⟩ | ⟨i, p, rfl, hi, h2⟩
    · refine ⟨fun _ w11 e11 => ?_, fun k => absurd h1 (dF k)⟩
      rw [h2]
      have r11 : Row w11 (hs w6) 3 (intsV [1]) := Row.new e11
      exact ⟨_, _, rfl, r11.nums trivial, g6.trans' (only_alloc e11)⟩
    · have hil := (List.getElem?_eq_some_iff.1 hi).1
      obtain ⟨a, oi, ci, ha, -, -, hc2, hN⟩ := (h.grow g6).at hi
      have hpk := hl.2 p (List.mem_of_getElem? hi)
      refine ⟨fun k => absurd (dT k) (by omega), fun _ => ⟨a, ha, ⟨by omega, by omega⟩, _, _, _, hc2, (clone_c oi ci p.kinds (by omega) w6 hN).mono ?_⟩⟩
      rintro _ w19 ⟨o', c', rfl, hN', g19⟩
      rw [h2]
      exact ⟨_, _, _, rfl, o', c', rfl, hN', g6.trans' g19⟩
  rcases hx with ⟨rfl, hn⟩ | ⟨i, p, rfl, hi, hf⟩
  · refine ⟨fun _ => (find_c o c l anyW urg (by omega) w2 (h.grow g2)).mono ?_, fun k => absurd (by decide) (dF k)⟩
    rintro _ w25 ⟨y, rfl, hy, g25⟩
    refine ⟨_, rfl, last w25 y (g2.trans' g25) ?_⟩
    rcases hy with ⟨rfl, hn2⟩ | ⟨i, p, rfl, hi, hf⟩
    · exact .inl ⟨by decide, by unfold kindsOf; rw [hn]; simp only; rw [hn2]⟩
    · exact .inr ⟨i, p, rfl, hi, by unfold kindsOf; rw [hn]; simp only; rw [hf]⟩
  · exact ⟨fun k => absurd (dT k) (by omega), fun _ => last w2 _ g2 (.inr ⟨i, p, rfl, hi, by unfold kindsOf; rw [hf]⟩)⟩
set_option maxHeartbeats 1000000 in
theorem kinds_c (o : Option Addr) (c : Nat) (l : List Pln) (code : Str) (urg : Int) (hl : Fews l) (w : World) {A : Nat → Prop} (h : Plns w A o l) :
    Calls Tryd.prog 60 #[.slice o l.length c, .string (BA code), .int .i64 urg] w fun e w' => ∃ o' c', e = .returned (.slice o' (kindsOf l code urg).length c') ∧ Nums w' (fun _ => True) o' (kindsOf l code urg) ∧ Grow w w' := by
  have hl0 := hl.1
  refine nf60 o l.length c (BA code) urg w _ ⟨fun n x w' => ∃ i : Nat, x = (i : Int) ∧ i ≤ l.length ∧ n = l.length - i ∧ (∀ (j : Nat) q, j < i → l[j]? = some q → fitsP code urg q = false) ∧ w = w', ⟨_, 0, rfl, Nat.zero_le _, rfl, fun j q hj => by omega, rfl⟩, ?_⟩
  rintro n _ _ x ⟨i, rfl, hi, rfl, hno, rfl⟩
  refine ⟨fun hlt => ?_, fun hge => ?_⟩
  · have hlt : i < l.length := by have := dT hlt; omega
    have hat := List.getElem?_eq_getElem hlt
    obtain ⟨a, oi, ci, ha, h0, h1, h2, hN⟩ := h.at hat
    generalize l[i] = p at *
    have next : fitsP code urg p = false → ∃ n, n < l.length - i ∧ ∃ i' : Nat, IntKind.wrap .i64 ((i : Int) + 1) = (i' : Int) ∧ i' ≤ l.length ∧ n = l.length - i' ∧ (∀ (j : Nat) q, j < i' → l[j]? = some q → fitsP code urg q = false) ∧ w = w := fun hb => ⟨_, by omega, i + 1, by rw [wr (by omega)]; omega, hlt, rfl, fun j q hj hq => by
      by_cases e : j = i
      · subst e
        rw [hat] at hq
        cases hq
        exact hb
      · exact hno j q (by omega) hq, rfl⟩
    refine ⟨a, ha, ⟨by omega, by omega⟩, _, h0, fun k1 => ⟨a, ha, ⟨by omega, by omega⟩, _, h1, fun k2 => ⟨a, ha, ⟨by omega, by omega⟩, _, _, _, h2, oi, ci, ?_, ?_, Only.refl _ _⟩, fun k2 => next ?_⟩, fun k1 => next ?_⟩
    all_goals rw [strEq_BA] at k1
    · have : kindsOf l code urg = p.kinds := by unfold kindsOf; rw [find_first hat (by unfold fitsP; rw [k1, k2]; rfl) hno]
      rw [this]
    · have : kindsOf l code urg = p.kinds := by unfold kindsOf; rw [find_first hat (by unfold fitsP; rw [k1, k2]; rfl) hno]
      rw [this]
      exact hN.mono fun _ _ => trivial
    · unfold fitsP; rw [k2, Bool.and_false]
    · unfold fitsP; rw [k1]; rfl
  have hn1 : l.find? (fitsP code urg) = none := find_no fun j q hq => hno j q (by
    have := dF hge
    have := (List.getElem?_eq_some_iff.1 hq).1
    omega) hq
  refine ⟨fun n x w' => ∃ i : Nat, x = (i : Int) ∧ i ≤ l.length ∧ n = l.length - i ∧ (∀ (j : Nat) q, j < i → l[j]? = some q → fitsP anyW urg q = false) ∧ w = w', ⟨_, 0, rfl, Nat.zero_le _, rfl, fun j q hj => by omega, rfl⟩, ?_⟩
  rintro n _ _ x ⟨i, rfl, hi, rfl, hno, rfl⟩
  refine ⟨fun hlt => ?_, fun hge => ?_⟩
  · have hlt : i < l.length := by have := dT hlt; omega
    have hat := List.getElem?_eq_getElem hlt
    obtain ⟨a, oi, ci, ha, h0, h1, h2, hN⟩ := h.at hat
    generalize l[i] = p at *
    have next : fitsP anyW urg p = false → ∃ n, n < l.length - i ∧ ∃ i' : Nat, IntKind.wrap .i64 ((i : Int) + 1) = (i' : Int) ∧ i' ≤ l.length ∧ n = l.length - i' ∧ (∀ (j : Nat) q, j < i' → l[j]? = some q → fitsP anyW urg q = false) ∧ w = w := fun hb => ⟨_, by omega, i + 1, by rw [wr (by omega)]; omega, hlt, rfl, fun j q hj hq => by
      by_cases e : j = i
      · subst e
        rw [hat] at hq
        cases hq
        exact hb
      · exact hno j q (by omega) hq, rfl⟩
    refine ⟨a, ha, ⟨by omega, by omega⟩, _, h0, fun k1 => ⟨a, ha, ⟨by omega, by omega⟩, _, h1, fun k2 => ⟨a, ha, ⟨by omega, by omega⟩, _, _, _, h2, oi, ci, ?_, ?_, Only.refl _ _⟩, fun k2 => next ?_⟩, fun k1 => next ?_⟩
    all_goals
      have k1 := k1
      rw [show (ByteArray.mk #[(42 : UInt8)]) = BA anyW from rfl, strEq_BA] at k1
    · have : kindsOf l code urg = p.kinds := by unfold kindsOf; rw [hn1]; simp only; rw [find_first hat (by unfold fitsP; rw [k1, k2]; rfl) hno]
      rw [this]
    · have : kindsOf l code urg = p.kinds := by unfold kindsOf; rw [hn1]; simp only; rw [find_first hat (by unfold fitsP; rw [k1, k2]; rfl) hno]
      rw [this]
      exact hN.mono fun _ _ => trivial
    · unfold fitsP; rw [k2, Bool.and_false]
    · unfold fitsP; rw [k1]; rfl
  · have hn2 : l.find? (fitsP anyW urg) = none := find_no fun j q hq => hno j q (by
      have := dF hge
      have := (List.getElem?_eq_some_iff.1 hq).1
      omega) hq
    have : kindsOf l code urg = [1] := by unfold kindsOf; rw [hn1]; simp only; rw [hn2]
    rw [this]
    intro w47 e47
    have r47 : Row w47 (hs w) 3 (intsV [1]) := Row.new e47
    exact ⟨_, _, rfl, r47.nums trivial, only_alloc e47⟩
end Go.Proofs.YtolpmdmcbciccaaDoor
