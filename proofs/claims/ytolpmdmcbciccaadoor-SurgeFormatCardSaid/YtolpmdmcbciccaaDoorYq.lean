/- Contracts: reading a plan's text, in the program and in the reference; awake. -/
import Derived.Test.YtolpmdmcbciccaaDoorWp
import Derived.Test.YtolpmdmcbciccaaDoorNf3
import Derived.Lib.IndexLaws
import Derived.Test.YtolpmdmcbciccaaDoorVc
import Derived.Test.YtolpmdmcbciccaaDoorVd
namespace Go.Proofs.YtolpmdmcbciccaaDoor
open Go Go.Nf Go.RowKit

theorem BA_extract (l : Str) (a b : Nat) : (BA l).extract a b = BA ((l.drop a).take (b - a)) := sb_inj (by
  unfold sb
  simp [ByteArray.data_extract, List.extract_eq_take_drop])
theorem BA_from (l : Str) (a : Nat) : (BA l).extract a (BA l).size = BA (l.drop a) := by
  rw [BA_extract, BA_size]
  congr 2
  exact List.take_of_length_le (by rw [List.length_drop]; omega)
theorem BA_upto (l : Str) (b : Nat) : (BA l).extract 0 b = BA (l.take b) := by rw [BA_extract, List.drop_zero, Nat.sub_zero]
theorem cut_c (t : Str) (ht : t.length ≤ 1000000000) (w : World) : Calls Tryd.prog 53 #[.string (BA t), .string (BA [10])] w fun e w' => Grow w w' ∧ ∃ (a r : Str) (b : Bool), e = .returned (.tuple #[.string (BA a), .string (BA r), .bool b]) ∧ ((b = false ∧ ∀ c ∈ t, c ≠ 10) ∨ (b = true ∧ t = a ++ 10 :: r ∧ ∀ c ∈ a, c ≠ 10)) := by
  refine nf53 (BA t) (BA [10]) w _ ((nf65 (BA t) (BA [10]) w (fun e w' => Grow w w' ∧ ∃ (a r : Str) (b : Bool), e = .returned (.tuple #[.string (BA a), .string (BA r), .bool b]) ∧ ((b = false ∧ ∀ c ∈ t, c ≠ 10) ∨ (b = true ∧ t = a ++ 10 :: r ∧ ∀ c ∈ a, c ≠ 10))) ?_).mono ?_)
  · refine (Tryd.stringslite_Index_one (BA t) 10 w).mono ?_
    rintro _ _ ⟨rfl, rfl⟩
    have e0 : (BA t).data.toList = t := by simp
    rw [e0]
    refine ⟨_, rfl, fun h => ?_, fun h => ?_⟩
    · have h := dT h
      obtain ⟨i, hi⟩ : ∃ i : Nat, Lib.indexByte t 10 = i := ⟨(Lib.indexByte t 10).toNat, by omega⟩
      rw [hi]
      obtain ⟨h1, h2⟩ := Lib.indexByte_some hi
      obtain ⟨q1, q2⟩ := List.getElem?_eq_some_iff.1 h1
      intro w5 e5
      have s1 : (BA [10]).size = 1 := rfl
      have e1 : IntKind.wrap .i64 ((i : Int) + (((BA [10]).size : Nat) : Int)) = ((i + 1 : Nat) : Int) := by rw [s1, wr (by omega)]; omega
      rw [e1, BA_from]
      rw [BA_size]
      refine ⟨⟨by omega, by omega⟩, ⟨by omega, by omega⟩, only_drew e5, _, _, _, by rw [toNat_cast, toNat_cast, BA_upto], .inr ⟨rfl, ?_, fun c hc k => ?_⟩⟩
      · have := List.take_append_drop i t
        rw [List.drop_eq_getElem_cons q1, q2] at this
        exact this.symm
      · subst k
        obtain ⟨j, hj, e⟩ := List.mem_iff_getElem.1 hc
        rw [List.length_take] at hj
        rw [List.getElem_take] at e
        exact h2 j (by omega) (by rw [List.getElem?_eq_getElem (by omega), e])
    · have h := dF h
      have hge := Lib.indexByte_ge t 10
      have hn : Lib.indexByte t 10 = -1 := by omega
      refine ⟨Only.refl _ _, t, [], false, rfl, .inl ⟨rfl, fun c hc k => ?_⟩⟩
      subst k
      obtain ⟨j, hj, e⟩ := List.mem_iff_getElem.1 hc
      exact Lib.indexByte_none hn j (by rw [List.getElem?_eq_getElem hj, e])
  · rintro _ w' ⟨g, a, r, b, rfl, h⟩
    exact ⟨_, _, _, rfl, g, a, r, b, rfl, h⟩
theorem prefix_take {p s : Str} : s.take p.length = p ↔ p <+: s := ⟨fun h => ⟨s.drop p.length, by have := List.take_append_drop p.length s; rwa [h] at this⟩, fun h => by obtain ⟨t, rfl⟩ := h; simp⟩
theorem cutPrefix_c (s p : Str) (w : World) : Calls Tryd.prog 66 #[.string (BA s), .string (BA p)] w fun e w' => w = w' ∧ ((p <+: s ∧ e = .returned (.tuple #[.string (BA (s.drop p.length)), .bool true])) ∨ (¬ p <+: s ∧ ∃ x, e = .returned (.tuple #[.string (BA x), .bool false]))) := by
  refine nf66 (BA s) (BA p) w _ ((nf73 (BA s) (BA p) w (fun e w' => w = w' ∧ ((p <+: s ∧ e = .returned (.tuple #[.string (BA (s.drop p.length)), .bool true])) ∨ (¬ p <+: s ∧ ∃ x, e = .returned (.tuple #[.string (BA x), .bool false])))) ?_).mono ?_)
  · refine (nf82 (BA s) (BA p) w (fun e w' => w = w' ∧ e = .returned (.bool (decide (p <+: s)))) ?_).mono ?_
    · rw [BA_size, BA_size, toNat_cast, BA_upto, strEq_BA]
      have e : decide (s.take p.length = p) = decide (p <+: s) := decide_eq_decide.2 prefix_take
      rw [e]
      refine ⟨fun h => ⟨⟨by omega, by have := dT h; omega⟩, fun k => ⟨rfl, ret_bool k.symm⟩, fun k => ⟨rfl, ret_bool k.symm⟩⟩, fun h => ⟨rfl, ret_bool ?_⟩⟩
      have := dF h
      refine (decide_eq_false fun k => ?_).symm
      have := k.length_le
      omega
    · rintro _ _ ⟨rfl, rfl⟩
      refine ⟨_, rfl, fun h => ?_, fun h => ⟨rfl, .inr ⟨dF h, _, rfl⟩⟩⟩
      have h := dT h
      have hl := h.length_le
      rw [toNat_cast, BA_from, BA_size, BA_size]
      exact ⟨⟨by omega, by omega⟩, rfl, .inl ⟨h, rfl⟩⟩
  · rintro _ _ ⟨rfl, ⟨h, rfl⟩ | ⟨h, x, rfl⟩⟩
    · exact ⟨_, _, rfl, rfl, .inl ⟨h, rfl⟩⟩
    · exact ⟨_, _, rfl, rfl, .inr ⟨h, _, rfl⟩⟩
theorem ended_c (o : Option Addr) (c : Nat) (p : Pl) (hf : p.steps.length ≤ 1000) (w : World) {A : Nat → Prop} (h : Lol w A o p.steps) :
    Calls Tryd.prog 52 #[plV p.name o p.steps.length c] w fun e w' => e = .returned (.bool (doneL p)) ∧ Grow w w' := by
  have h := h.low
  refine nf52 (BA p.name) o p.steps.length c w _ fun w1 e1 => ?_
  have r1 := Row.new e1
  have g1 : Grow w w1 := only_alloc e1
  refine ⟨_, _, _, r1.cell rfl, fun h1 => ?_, fun h1 => ⟨ret_bool ?_, g1⟩⟩
  · have h1 := dT h1
    have h0 : 0 < p.steps.length := by omega
    obtain ⟨a, l, e⟩ := steps_split h0
    have hl : p.steps.length = a.length + 1 := by rw [e]; simp
    have hat : p.steps[a.length]? = some l := by rw [e]; simp
    obtain ⟨ad, oi, ci, ha, -, hc, -⟩ := (h.grow g1).at hat
    have e1 : IntKind.wrap .i64 ((p.steps.length : Int) - 1) = ((a.length : Nat) : Int) := by rw [wr (by omega)]; omega
    have hd : doneL p = decide (0 < l.length) := by
      unfold doneL
      rw [e, last_append, decide_eq_true (by simp)]; rfl
    rw [e1]
    refine ⟨_, _, _, r1.cell rfl, ad, ha, ⟨by omega, by omega⟩, _, _, _, hc, fun h2 => ⟨ret_bool ?_, g1⟩, fun h2 => ⟨ret_bool ?_, g1⟩⟩
    · rw [hd, decide_eq_true (by have := dT h2; omega)]
    · rw [hd, decide_eq_false (by have := dF h2; omega)]
  · have := dF h1
    unfold doneL
    rw [decide_eq_false (by omega : ¬ 0 < p.steps.length)]; rfl

/-- lists that a reading builds: the last one lies apart from the others -/
def Rd (w : World) (B : Nat) (o : Option Addr) (n c : Nat) (l : List (List Str)) : Prop :=
  ∃ rows : List LR, rows.map (·.1) = l ∧ Own w B 52 1 o n c (rows.flatMap encL) ∧ (∀ x ∈ rows, Own w B 9 1 x.2.1 x.1.length x.2.2 (x.1.flatMap encS)) ∧ ∀ a x, rows = a ++ [x] → ∀ y ∈ a, ∀ b, inBlock x.2.1 b → ¬ inBlock y.2.1 b
theorem Rd.built {w : World} {B : Nat} {o : Option Addr} {n c : Nat} {l : List (List Str)} (h : Rd w B o n c l) : Built w B o n c l := by
  obtain ⟨rows, h1, h2, h3, -⟩ := h
  exact ⟨rows, h1, h2, h3⟩
theorem Rd.keep {S : Nat → Prop} {w w' : World} {B : Nat} {o : Option Addr} {n c : Nat} {l : List (List Str)} (h : Rd w B o n c l) (g : Only S w w') (hS : ∀ b, B ≤ b → ¬ S b) : Rd w' B o n c l := by
  obtain ⟨rows, h1, h2, h3, h4⟩ := h
  exact ⟨rows, h1, h2.keep g fun b hb => hS b (h2.base b hb).1, fun x hx => (h3 x hx).keep g fun b hb => hS b ((h3 x hx).base b hb).1, h4⟩
theorem Rd.grow {w w' : World} {B : Nat} {o : Option Addr} {n c : Nat} {l : List (List Str)} (h : Rd w B o n c l) (g : Grow w w') : Rd w' B o n c l := h.keep g fun _ _ h => h
theorem Rd.nil (w : World) (B : Nat) : Rd w B none 0 0 [] := ⟨[], rfl, own_nil _ _ _ _, (fun _ h => by cases h), fun a x e => by simp at e⟩
theorem rd_open {w : World} {B n c b cx : Nat} {o : Option Addr} {l : List (List Str)} {K : Value → World → Prop} (h : Rd w B o n c l) (hrow : Row w b 52 [.slice none 0 0]) (hb : n ≤ 1000) (hbase : B ≤ hs w)
    (hK : ∀ o' c' w', Rd w' B o' (n + 1) c' (l ++ [[]]) → Only (inBlock o) w w' → (∀ b, inBlock o b → B ≤ b) → K (.slice o' (n + 1) c') w') :
    RunOk Tryd.prog (Hold (Builtin.append_ #[30, 30] 30 #[.slice o n c, .slice (some ⟨b, 0, none⟩) 1 cx])) w K := by
  obtain ⟨rows, h1, h2, h3, h4⟩ := h
  refine run_append_row elem30 h2 hrow rfl (by simp [Value.oneCell']) (by simp only [maxLen]; omega) (by omega) hbase fun o' c' w' p1 p2 _ => hK o' c' w' ⟨rows ++ [([], none, 0)], by rw [List.map_append, h1]; rfl, ?_, fun y hy => ?_, fun a x e y hy b hb => ?_⟩ p2 fun b hb => (h2.base b hb).1
  · rw [List.flatMap_append]
    simpa [encL] using p1
  · rcases List.mem_append.1 hy with hy | hy
    · exact (h3 y hy).keep p2 fun b hb => (h3 y hy).apart h2 (by decide) b hb
    · rw [List.mem_singleton] at hy
      subst hy
      exact own_nil _ _ _ _
  · obtain ⟨-, e2⟩ := List.append_inj' e rfl
    cases e2
    obtain ⟨_, k, _⟩ := hb
    cases k
structure PlAt (w : World) (b m B : Nat) (p : Pl) : Prop where
  ex : ∃ o c, Row w b 35 [.string (BA p.name), .slice o p.steps.length c] ∧ Rd w B o p.steps.length c p.steps
  seen : SeenAt w m p.steps.flatten
  lt : b < B ∧ m < B ∧ b ≠ m
  base : B ≤ hs w
theorem PlAt.grow {w w' : World} {b m B : Nat} {p : Pl} (h : PlAt w b m B p) (g : Grow w w') : PlAt w' b m B p := by
  obtain ⟨o, c, h1, h2⟩ := h.ex
  exact ⟨⟨o, c, h1.grow g, h2.grow g⟩, h.seen.grow g, h.lt, Nat.le_trans h.base g.size⟩
theorem itoa6_c (i : Nat) (hi : i < 6) (w : World) : Calls Tryd.prog 50 #[.int .i64 ((i + 1 : Nat) : Int)] w fun e w' => e = .returned (.string (BA [digit i])) ∧ w = w' := by
  refine (Tryd.strconv_Itoa_small (i + 1) (by omega) w).mono ?_
  rintro _ _ ⟨rfl, rfl⟩
  refine ⟨?_, rfl⟩
  rcases (show i = 0 ∨ i = 1 ∨ i = 2 ∨ i = 3 ∨ i = 4 ∨ i = 5 by omega) with rfl | rfl | rfl | rfl | rfl | rfl <;> kernel_rfl
set_option maxHeartbeats 4000000 in
theorem accept_c {b m B : Nat} (n : Nat) (p : Pl) (l : Str) (hn : n ≤ 1000000000) (h0 : n = 0 → p.steps = []) (h5 : p.steps.length ≤ 5) (h16 : ∀ x ∈ p.steps, x.length ≤ 16) (w : World) (h : PlAt w b m B p) :
    Calls Tryd.prog 54 #[.pointer (some ⟨b, 0, none⟩), .map (some m), .int .i64 ((n + 1 : Nat) : Int), .string (BA l)] w fun e w' => e = .returned (.bool (acceptL n p l).isSome) ∧ Only (fun k => k = b ∨ k = m ∨ B ≤ k) w w' ∧ ∀ p', acceptL n p l = some p' → PlAt w' b m B p' := by
  obtain ⟨o, c, r, hR⟩ := h.ex
  obtain ⟨hbB, hmB, hbm⟩ := h.lt
  have hB := h.base
  have bad : acceptL n p l = none → Ending.returned (.bool false) = .returned (.bool (acceptL n p l).isSome) ∧ Only (fun k => k = b ∨ k = m ∨ B ≤ k) w w ∧ ∀ p', acceptL n p l = some p' → PlAt w b m B p' := fun e => ⟨by rw [e]; rfl, Only.refl _ _, fun p' e' => by rw [e] at e'; cases e'⟩
  refine nf54 _ _ _ (BA l) w _ ⟨fun h1 => ?_, fun h1 => ?_⟩
  · have h1 : n = 0 := by have := dT h1; omega
    subst h1
    have hs0 := h0 rfl
    refine (cutPrefix_c l planW w).mono ?_
    rintro _ _ ⟨rfl, ⟨hp, rfl⟩ | ⟨hp, x, rfl⟩⟩
    · refine ⟨_, _, rfl, fun _ => (validName_c (l.drop 5) w).mono ?_, fun k => by cases k⟩
      rintro _ _ ⟨rfl, rfl⟩
      refine ⟨_, rfl, fun hv => ⟨_, rfl, r.there (by simp), fun w12 e12 => ?_⟩, fun hv => bad ?_⟩
      · have r12 := r.set e12
        have o12 : Only (fun k => k = b) w w12 := only_set e12
        have ea : acceptL 0 p l = some ⟨l.drop 5, []⟩ := by unfold acceptL; rw [if_pos rfl, if_pos ⟨hp, hv⟩]
        rw [ea]
        refine ⟨rfl, o12.mono fun k _ e => .inl e, fun p' e => ?_⟩
        cases e
        have hk := hR.keep o12 fun k hk e => by omega
        have hsn := h.seen.keep o12 fun e => hbm e.symm
        rw [hs0] at r12 hk hsn
        exact ⟨⟨o, c, r12, hk⟩, hsn, h.lt, Nat.le_trans hB o12.size⟩
      · unfold acceptL
        rw [if_pos rfl, if_neg]
        rintro ⟨-, k⟩
        have hv : nameL (l.drop 5) = false := hv
        rw [hv] at k; cases k
    · refine ⟨_, _, rfl, (fun k => by cases k), fun _ => bad ?_⟩
      unfold acceptL
      rw [if_pos rfl, if_neg fun k => hp k.1]
  have h1 : n ≠ 0 := by have := dF h1; omega
  have ei : IntKind.wrap .i64 ((p.steps.length : Int) + 1) = ((p.steps.length + 1 : Nat) : Int) := by rw [wr (by omega)]; omega
  refine ⟨_, rfl, _, _, _, r.cellAdd rfl, ?_⟩
  rw [ei]
  refine (itoa6_c p.steps.length (by omega) w).mono ?_
  rintro _ _ ⟨rfl, rfl⟩
  refine ⟨_, rfl, run_cat (a := levelW) (b := [digit p.steps.length]) (by show 6 + 1 ≤ _; decide) ⟨_, rfl, fun he => ?_, fun he => ?_⟩⟩
  · rw [strEq_BA] at he
    have he : l = opens p.steps.length := dT he
    have e0 : acceptL n p l = if p.steps.length = 5 ∨ 0 < p.steps.length ∧ (lastL p.steps).length = 0 then none else some ⟨p.name, p.steps ++ [[]]⟩ := by
      unfold acceptL
      rw [if_neg h1, if_pos he]
    refine ⟨fun k => bad (by rw [e0, if_pos (.inl (by have := dT k; omega))]), fun hl5 => ⟨fun hp => ?_, fun hp => ?_⟩⟩
    · have hp : 0 < p.steps.length := by have := dT hp; omega
      obtain ⟨a, x, e⟩ := steps_split hp
      have hla : lastL p.steps = x := by rw [e, last_append]
      have hl : p.steps.length = a.length + 1 := by rw [e]; simp
      have hat : p.steps[a.length]? = some x := by rw [e]; simp
      obtain ⟨ad, oi, ci, ha, -, hc, -⟩ := hR.built.lol.at hat
      have e1 : IntKind.wrap .i64 ((p.steps.length : Int) - 1) = ((a.length : Nat) : Int) := by rw [wr (by omega)]; omega
      rw [e1]
      refine ⟨_, rfl, _, _, _, r.cellAdd rfl, ad, ha, ⟨by omega, by omega⟩, _, _, _, hc, fun k => bad (by rw [e0, if_pos (.inr ⟨hp, by rw [hla]; have := dT k; omega⟩)]), fun hx => ?_⟩
      have e2 : acceptL n p l = some ⟨p.name, p.steps ++ [[]]⟩ := by
        rw [e0, if_neg]
        have h5' := dF hl5
        have hx' := dF hx
        rintro (k | ⟨-, k⟩)
        · omega
        · rw [hla] at k; omega
      refine ⟨_, rfl, _, _, _, r.cellAdd rfl, fun w45 e45 => ?_⟩
      have g45 : Grow w w45 := only_alloc e45
      refine rd_open (hR.grow g45) (Row.new e45) (by omega) (by have := g45.size; omega) fun o49 c51 w48 p1 p2 p3 => ⟨_, _, _, rfl, _, rfl, ((r.grow g45).keep p2 fun k => by have := p3 _ k; omega).thereAdd (by simp), fun w53 e53 => ?_⟩
      have r53 := ((r.grow g45).keep p2 fun k => by have := p3 _ k; omega).setAdd e53
      have o53 : Only (fun k => k = b) w48 w53 := only_setAdd e53
      have O53 : Only (fun k => k = b ∨ k = m ∨ B ≤ k) w w53 := ((g45.only : Only (fun k => k = b ∨ k = m ∨ B ≤ k) w w45).trans p2 fun k _ hk => .inr (.inr (p3 k hk))).trans o53 fun k _ e => .inl e
      rw [e2]
      refine ⟨rfl, O53, fun p' e => ?_⟩
      cases e
      refine ⟨⟨o49, c51, ?_, ?_⟩, ?_, h.lt, Nat.le_trans hB O53.size⟩
      · rw [List.length_append]; exact r53
      · rw [List.length_append]; exact p1.keep o53 fun k hk e => by omega
      · have := ((h.seen.grow g45).keep p2 fun k => by have := p3 _ k; omega).keep o53 fun e => hbm e.symm
        rw [List.flatten_append]
        simpa using this
    · have hp0 := dF hp
      have e2 : acceptL n p l = some ⟨p.name, p.steps ++ [[]]⟩ := by
        rw [e0, if_neg]
        have h5' := dF hl5
        rintro (k | ⟨k, -⟩)
        · omega
        · omega
      refine ⟨_, rfl, _, _, _, r.cellAdd rfl, fun w45 e45 => ?_⟩
      have g45 : Grow w w45 := only_alloc e45
      refine rd_open (hR.grow g45) (Row.new e45) (by omega) (by have := g45.size; omega) fun o49 c51 w48 p1 p2 p3 => ⟨_, _, _, rfl, _, rfl, ((r.grow g45).keep p2 fun k => by have := p3 _ k; omega).thereAdd (by simp), fun w53 e53 => ?_⟩
      have r53 := ((r.grow g45).keep p2 fun k => by have := p3 _ k; omega).setAdd e53
      have o53 : Only (fun k => k = b) w48 w53 := only_setAdd e53
      have O53 : Only (fun k => k = b ∨ k = m ∨ B ≤ k) w w53 := ((g45.only : Only (fun k => k = b ∨ k = m ∨ B ≤ k) w w45).trans p2 fun k _ hk => .inr (.inr (p3 k hk))).trans o53 fun k _ e => .inl e
      rw [e2]
      refine ⟨rfl, O53, fun p' e => ?_⟩
      cases e
      refine ⟨⟨o49, c51, ?_, ?_⟩, ?_, h.lt, Nat.le_trans hB O53.size⟩
      · rw [List.length_append]; exact r53
      · rw [List.length_append]; exact p1.keep o53 fun k hk e => by omega
      · have := ((h.seen.grow g45).keep p2 fun k => by have := p3 _ k; omega).keep o53 fun e => hbm e.symm
        rw [List.flatten_append]
        simpa using this
  · rw [strEq_BA] at he
    have he : l ≠ opens p.steps.length := dF he
    have e0 : acceptL n p l = if dashW <+: l ∧ 0 < p.steps.length ∧ (lastL p.steps).length ≠ 16 ∧ stepL (l.drop 2) = true ∧ l.drop 2 ∉ p.steps.flatten then some ⟨p.name, addStep p.steps (l.drop 2)⟩ else none := by
      unfold acceptL
      rw [if_neg h1, if_neg he]
    refine (cutPrefix_c l dashW w).mono ?_
    rintro _ _ ⟨rfl, ⟨hp, rfl⟩ | ⟨hp, x, rfl⟩⟩
    rotate_left
    · exact ⟨_, _, rfl, (fun k => by cases k), fun _ => bad (by rw [e0, if_neg fun k => hp k.1])⟩
    refine ⟨_, _, rfl, fun _ => ⟨fun hz => bad (by rw [e0, if_neg fun k => by have := dT hz; omega]), fun hz => ?_⟩, fun k => by cases k⟩
    have hz := dF hz
    obtain ⟨rows, k1, k2, k3, k4⟩ := hR
    rcases List.eq_nil_or_concat rows with rfl | ⟨ra, x, hco⟩
    · exfalso; rw [← k1] at hz; exact hz rfl
    rw [List.concat_eq_append] at hco
    subst hco
    have k1' : p.steps = ra.map (·.1) ++ [x.1] := by rw [← k1]; simp
    have hlen : p.steps.length = ra.length + 1 := by rw [k1']; simp
    have hla : lastL p.steps = x.1 := by rw [k1', last_append]
    have hx16 := h16 x.1 (by rw [k1']; simp)
    obtain ⟨g, gl, rfl, hg1, hg2, hg3, hgB⟩ := k2.head (by omega)
    have hidx : ((ra ++ [x]).flatMap encL)[((ra.length : Int)).toNat * 1]? = some (.slice x.2.1 x.1.length x.2.2) := by
      rw [toNat_cast, flat_get0 encL_len (ra ++ [x]) ra.length (by decide), List.getElem?_append_right (Nat.le_refl _), Nat.sub_self]; rfl
    have e1 : IntKind.wrap .i64 ((p.steps.length : Int) - 1) = ((ra.length : Nat) : Int) := by rw [wr (by omega)]; omega
    rw [e1]
    refine ⟨_, rfl, _, _, _, r.cellAdd rfl, _, rfl, ⟨by omega, by omega⟩, _, _, _, k2.cell hidx, fun k => bad (by rw [e0, if_neg fun q => by have := dT k; have := q.2.2.1; rw [hla] at this; omega]), fun hx => (validStep_c (l.drop 2) w).mono ?_⟩
    rintro _ _ ⟨rfl, rfl⟩
    refine ⟨_, rfl, fun hv => seen_get h.seen ⟨_, rfl, fun hin => bad (by rw [e0, if_neg fun q => q.2.2.2.2 (dT hin)]), fun hin => seen_put h.seen fun w98 hs98 o98 w99 e99 => ?_⟩, fun hv => bad (by rw [e0, if_neg fun q => by
      have q := q.2.2.2.1
      have hv : stepL (l.drop 2) = false := hv
      rw [hv] at q; cases q])⟩
    have hin := dF hin
    have hx := dF hx
    have e2 : acceptL n p l = some ⟨p.name, addStep p.steps (l.drop 2)⟩ := by rw [e0, if_pos ⟨hp, by omega, by rw [hla]; omega, hv, hin⟩]
    rw [k1', addStep_append] at e2
    have g99 : Grow w98 w99 := only_drew e99
    have o99 : Only (fun k => k = m) w w99 := o98.grow g99
    have r99 := r.keep o99 hbm
    have own99 := k2.keep o99 fun k hk e => by have := (k2.base k hk).1; omega
    have z99 := o99.size
    refine ⟨_, rfl, _, _, _, r99.cellAdd rfl, _, rfl, _, _, _, r99.cellAdd rfl, _, rfl, ⟨by omega, by omega⟩, _, _, _, own99.cell hidx, fun w113 e113 => ?_⟩
    have g113 : Grow w99 w113 := only_alloc e113
    have z113 := g113.size
    have r113 : Row w113 (hs w99) 9 (encS (l.drop 2)) := Row.new e113
    have k3' : ∀ y ∈ ra ++ [x], Own w113 B 9 1 y.2.1 y.1.length y.2.2 (y.1.flatMap encS) := fun y hy => ((k3 y hy).keep o99 fun k hk e => by have := ((k3 y hy).base k hk).1; omega).grow g113
    have hx3 := k3' x (by simp)
    have own113 := own99.grow g113
    have r113b := r99.grow g113
    have nob : ¬ inBlock x.2.1 b := fun k => by have := (hx3.base b k).1; omega
    refine ⟨kept_own own99 g113 (fun h => h), kept_onlyAdd g113 r99.lt (fun h => h), kept_onlyAdd g113 r99.lt (fun h => h), run_append_at elem52 hx3 (m := 1) (news := encS (l.drop 2)) rfl (fun j u hj => r113.cellAdd hj) (by simp [encS, Value.oneCell']) (by simp only [maxLen]; omega) (by omega) (by omega) fun o117 c119 w116 p1 p2 p3 => ?_⟩
    have o116 : Only (fun k => inBlock x.2.1 k) w99 w116 := (g113.only : Only (fun k => inBlock x.2.1 k) w99 w113).trans' p2
    have own116 := own113.keep p2 fun k hk hk' => hx3.apart own113 (by decide) k hk' hk
    refine ⟨_, _, _, rfl, kept_onlyAdd o116 r99.lt nob, _, rfl, ⟨by omega, by omega⟩, own116.there (by rw [toNat_cast]; omega), fun w121 e121 => ?_⟩
    have own121 := own116.set e121 (by rw [toNat_cast]; simp only [List.length_cons, List.length_nil]; omega)
    have o121 : Only (fun k => k = g) w116 w121 := only_setAdd e121
    have hxB : ∀ k, inBlock x.2.1 k → B ≤ k := fun k hk => (hx3.base k hk).1
    have O121 : Only (fun k => k = b ∨ k = m ∨ B ≤ k) w w121 := ((o99.mono (S' := fun k => k = b ∨ k = m ∨ B ≤ k) fun k _ e => .inr (.inl e)).trans o116 fun k _ hk => .inr (.inr (hxB k hk))).trans o121 fun k _ e => .inr (.inr (by omega))
    have hset : setFrom ((ra ++ [x]).flatMap encL) (((ra.length : Int)).toNat * 1) [Value.slice o117 (x.1.length + 1) c119] = (ra ++ [((x.1 ++ [l.drop 2], o117, c119) : LR)]).flatMap encL := by
      rw [toNat_cast, List.flatMap_append, List.flatMap_append]
      have e5 : ra.length * 1 = (ra.flatMap encL).length + 0 := by rw [flat_length encL_len, Nat.add_zero]
      rw [e5, setFrom_right]
      simp [encL, setFrom]
    rw [hset] at own121
    have hrows : (ra.map (·.1) ++ [x.1]).length = (ra.map (·.1) ++ [x.1 ++ [l.drop 2]]).length := by simp
    rw [e2]
    refine ⟨rfl, O121, fun p' e => ?_⟩
    cases e
    have ap9 : ∀ {w' : World} {o' : Option Addr} {n' c' : Nat} {xs : List Value}, Own w' B 9 1 o' n' c' xs → Own w' B 52 1 (some ⟨g, 0, none⟩) p.steps.length c ((ra ++ [x]).flatMap encL) → ∀ k, inBlock o' k → ¬ k = g := fun h1 h2 k hk e => h1.apart h2 (by decide) k hk ⟨_, rfl, e.symm⟩
    refine ⟨⟨some ⟨g, 0, none⟩, c, ?_, ra ++ [((x.1 ++ [l.drop 2], o117, c119) : LR)], ?_, ?_, fun y hy => ?_, fun a z ez y hy k hk hk' => ?_⟩, ?_, h.lt, Nat.le_trans hB O121.size⟩
    · rw [← hrows, ← k1']
      exact ((r113b.keep p2 nob).keep o121 fun e => by omega)
    · rw [List.map_append]; rfl
    · rw [← hrows, ← k1']
      exact own121
    · rcases List.mem_append.1 hy with hy | hy
      · have h1 := (k3' y (List.mem_append_left _ hy)).keep p2 fun k hk hk' => k4 ra x rfl y hy k hk' hk
        exact h1.keep o121 (ap9 h1 own116)
      · rw [List.mem_singleton] at hy
        subst hy
        have : x.1.flatMap encS ++ encS (l.drop 2) = (x.1 ++ [l.drop 2]).flatMap encS := by rw [List.flatMap_append]; simp
        rw [this] at p1
        have h1 := p1.keep o121 (ap9 p1 own116)
        show Own w121 B 9 1 o117 (x.1 ++ [l.drop 2]).length c119 _
        rw [List.length_append]
        exact h1
    · obtain ⟨e3, e4⟩ := List.append_inj' ez rfl
      cases e4
      subst e3
      rcases p3 k hk with q | q
      · exact k4 ra x rfl y hy k q hk'
      · have := ((k3' y (List.mem_append_left _ hy)).grow (Only.refl _ _)).base k hk'
        omega
    · have hsn := (((hs98.grow g99).grow g113).keep p2 fun k => by have := hxB m k; omega).keep o121 fun e => by omega
      have e6 : (ra.map (·.1) ++ [x.1 ++ [l.drop 2]]).flatten = p.steps.flatten ++ [l.drop 2] := by rw [k1']; simp
      rw [e6]
      exact hsn

def finish (n : Nat) (p : Pl) (t : Str) : Out := match runL n p (linesL t).1 with
  | .bad k => .bad k
  | .plan p' => if (linesL t).2 = [] ∧ 0 < n + (linesL t).1.length ∧ doneL p' = true then .plan p' else .bad (n + (linesL t).1.length + 1)
theorem finish_read (s : Str) : finish 0 ⟨[], []⟩ s = readL s := by
  unfold finish readL
  cases runL 0 ⟨[], []⟩ (linesL s).1 with
  | bad k => rfl
  | plan p => simp only [Nat.zero_add]
theorem finish_none {n : Nat} {p : Pl} {t : Str} (h : ∀ c ∈ t, c ≠ 10) : finish n p t = if t = [] ∧ 0 < n ∧ doneL p = true then .plan p else .bad (n + 1) := by
  unfold finish
  rw [lines_none t h]
  simp [runL]
theorem finish_cut {n : Nat} {p : Pl} {a r : Str} (h : ∀ c ∈ a, c ≠ 10) : finish n p (a ++ 10 :: r) = match acceptL n p a with
    | none => .bad (n + 1)
    | some p' => finish (n + 1) p' r := by
  unfold finish
  rw [lines_cut a r h]
  show (match runL n p (a :: (linesL r).1) with | .bad k => _ | .plan p' => _) = _
  rw [runL]
  cases acceptL n p a with
  | none => rfl
  | some q =>
    simp only
    cases runL (n + 1) q (linesL r).1 with
    | bad k => rfl
    | plan p' =>
      simp only [List.length_cons]
      rw [show n + ((linesL r).1.length + 1) = n + 1 + (linesL r).1.length by omega]
def outP : Out → Pl
  | .bad _ => ⟨[], []⟩
  | .plan p => p
def outN : Out → Int
  | .bad k => k
  | .plan _ => 0
def outE : Out → Int
  | .bad _ => 2
  | .plan _ => 0
/-- what a reading returns -/
def Gave (w : World) (r : Out) (e : Ending) (w' : World) : Prop := Grow w w' ∧ ∃ o c, e = .returned (.tuple #[plV (outP r).name o (outP r).steps.length c, .int .i64 (outN r), .int .i64 (outE r)]) ∧ Lol w' (fun b => hs w ≤ b ∧ b < hs w') o (outP r).steps
set_option maxHeartbeats 4000000 in
theorem parse_c (s : Str) (hs' : s.length ≤ 1000000) (w : World) : Calls Tryd.prog 30 #[.string (BA s)] w (Gave w (readL s)) := by
  refine nf30 (BA s) w _ fun w1 e1 w3 e3 w5 e5 => ?_
  have g1 : Grow w w1 := only_alloc e1
  have g3 : Grow w1 w3 := only_alloc e3
  have g5 : Grow w3 w5 := only_alloc e5
  have z1 := hs_alloc e1
  have z3 := hs_alloc e3
  have z5 := hs_alloc e5
  have r5 : Row w5 (hs w) 35 [.string (BA []), .slice none 0 0] := ((Row.new e1).grow g3).grow g5
  have p5 : PlAt w5 (hs w1) (hs w3) (hs w5) ⟨[], []⟩ := ⟨⟨none, 0, (Row.new e3).grow g5, Rd.nil _ _⟩, seen_new e5, ⟨by omega, by omega, by omega⟩, Nat.le_refl _⟩
  refine ⟨fun n t x w' => ∃ (i : Nat) (p : Pl) (t' : Str), t = BA t' ∧ x = (i : Int) ∧ n = t'.length ∧ finish i p t' = readL s ∧ (i = 0 → p.steps = []) ∧ (0 < i → Soon p) ∧ i + t'.length ≤ s.length ∧ PlAt w' (hs w1) (hs w3) (hs w5) p ∧ Row w' (hs w) 35 [.string (BA []), .slice none 0 0] ∧ Grow w w',
    ⟨_, 0, ⟨[], []⟩, s, rfl, rfl, rfl, finish_read s, fun _ => rfl, fun k => by omega, by omega, p5, r5, (g1.trans' g3).trans' g5⟩, ?_⟩
  rintro n9 _ w11 _ _ ⟨i, p, t, rfl, rfl, rfl, hF, h0, hSoon, hlen, hP, hrow, hG⟩
  have h5 : p.steps.length ≤ 5 := by
    rcases Nat.eq_zero_or_pos i with h | h
    · rw [h0 h]; decide
    · exact (hSoon h).few
  have h16 : ∀ x ∈ p.steps, x.length ≤ 16 := by
    rcases Nat.eq_zero_or_pos i with h | h
    · rw [h0 h]; intro x hx; cases hx
    · exact (hSoon h).each
  have e1' : IntKind.wrap .i64 ((i : Int) + 1) = ((i + 1 : Nat) : Int) := by rw [wr (by omega)]; omega
  rw [e1']
  have bad : ∀ {w' : World} {K : World → Prop}, readL s = .bad (i + 1) → Grow w w' → Row w' (hs w) 35 [.string (BA []), .slice none 0 0] → 
      (There w' ⟨hs w, 0, none⟩ 2) ∧ ∀ w28, w28 = setCells w' ⟨hs w, 0, none⟩ [(Value.string (ByteArray.mk #[])), (Value.slice none 0 0)] 0 →
      (∃ s30 : ByteArray, (((w28.cell? (⟨(hs w), 0, none⟩ : Addr)) = (some (Value.string s30))) ∧
        (∃ o31 : Option Addr, (∃ n32 : Nat, (∃ n33 : Nat, (((w28.cell? (⟨(hs w), 1, none⟩ : Addr)) = (some (Value.slice o31 n32 n33))) ∧
          Gave w (readL s) (Ending.returned (Value.tuple #[(Value.agg #[(Value.string s30), (Value.slice o31 n32 n33)]), (Value.int IntKind.i64 ((i + 1 : Nat) : Int)), (Value.int IntKind.i64 2)])) w28)))))) := by
    intro w' _ e g r
    refine ⟨r.there (by simp), fun w28 e28 => ?_⟩
    have r28 := r.set e28
    have o28 : Only (fun k => k = hs w) w' w28 := only_set e28
    refine ⟨_, r28.cell rfl, _, _, _, r28.cell rfl, g.trans o28 fun k hk e => by omega, none, 0, ?_, ?_⟩
    · rw [e]; rfl
    · rw [e]; exact Lol.nil _ _ _
  have main : ∀ w', Grow w11 w' → ¬ (t = [] ∧ 0 < i ∧ doneL p = true) →
      (Calls Tryd.prog 53 #[(Value.string (BA t)), (Value.string (ByteArray.mk #[(10 : UInt8)]))] w' (fun (e16 : Ending) => (fun (w17 : World) => (∃ s18 : ByteArray, (∃ s19 : ByteArray, (∃ b20 : Bool, ((e16 = (Ending.returned (Value.tuple #[(Value.string s18), (Value.string s19), (Value.bool b20)]))) ∧
        (((b20 = true) →
        (Calls Tryd.prog 54 #[(Value.pointer (some (⟨(hs w1), 0, none⟩ : Addr))), (Value.map (some (hs w3))), (Value.int IntKind.i64 ((i + 1 : Nat) : Int)), (Value.string s18)] w17 (fun (e22 : Ending) => (fun (w23 : World) => (∃ b24 : Bool, ((e22 = (Ending.returned (Value.bool b24))) ∧
        (((b24 = true) →
        (∃ n26 : Nat, ((n26 < t.length) ∧
        (∃ (i' : Nat) (p : Pl) (t' : Str), s19 = BA t' ∧ ((i + 1 : Nat) : Int) = (i' : Int) ∧ n26 = t'.length ∧ finish i' p t' = readL s ∧ (i' = 0 → p.steps = []) ∧ (0 < i' → Soon p) ∧ i' + t'.length ≤ s.length ∧ PlAt w23 (hs w1) (hs w3) (hs w5) p ∧ Row w23 (hs w) 35 [.string (BA []), .slice none 0 0] ∧ Grow w w23)))) ∧
        ((b24 = false) →
        ((Nf.There w23 (⟨(hs w), 0, none⟩ : Addr) 2) ∧
        (∀ w28 : World, ((w28 = (Nf.setCells w23 (⟨(hs w), 0, none⟩ : Addr) [(Value.string (ByteArray.mk #[])), (Value.slice none 0 0)] 0)) →
        (∃ s30 : ByteArray, (((w28.cell? (⟨(hs w), 0, none⟩ : Addr)) = (some (Value.string s30))) ∧
        (∃ o31 : Option Addr, (∃ n32 : Nat, (∃ n33 : Nat, (((w28.cell? (⟨(hs w), 1, none⟩ : Addr)) = (some (Value.slice o31 n32 n33))) ∧
        (Gave w (readL s) (Ending.returned (Value.tuple #[(Value.agg #[(Value.string s30), (Value.slice o31 n32 n33)]), (Value.int IntKind.i64 ((i + 1 : Nat) : Int)), (Value.int IntKind.i64 2)])) w28)))))))))))))))))) ∧
        ((b20 = false) →
        ((Nf.There w17 (⟨(hs w), 0, none⟩ : Addr) 2) ∧
        (∀ w35 : World, ((w35 = (Nf.setCells w17 (⟨(hs w), 0, none⟩ : Addr) [(Value.string (ByteArray.mk #[])), (Value.slice none 0 0)] 0)) →
        (∃ s37 : ByteArray, (((w35.cell? (⟨(hs w), 0, none⟩ : Addr)) = (some (Value.string s37))) ∧
        (∃ o38 : Option Addr, (∃ n39 : Nat, (∃ n40 : Nat, (((w35.cell? (⟨(hs w), 1, none⟩ : Addr)) = (some (Value.slice o38 n39 n40))) ∧
        (Gave w (readL s) (Ending.returned (Value.tuple #[(Value.agg #[(Value.string s37), (Value.slice o38 n39 n40)]), (Value.int IntKind.i64 ((i + 1 : Nat) : Int)), (Value.int IntKind.i64 2)])) w35))))))))))))))))))) := by
    intro w' g' hno
    refine (cut_c t (by omega) w').mono ?_
    rintro _ w17 ⟨g17, a, r, b, rfl, hb⟩
    have G17 := g'.trans' g17
    refine ⟨_, _, _, rfl, fun hbt => ?_, fun hbf => ?_⟩
    · rcases hb with ⟨hb, -⟩ | ⟨-, rfl, ha⟩
      · rw [hb] at hbt; cases hbt
      rw [finish_cut ha] at hF
      rw [List.length_append, List.length_cons] at hlen
      refine (accept_c i p a (by omega) h0 h5 h16 w17 (hP.grow G17)).mono ?_
      rintro _ w23 ⟨rfl, o23, hP23⟩
      have r23 := (hrow.grow G17).keep o23 (by omega)
      have g23 : Grow w w23 := (hG.trans' G17).trans o23 fun k hk e => by omega
      refine ⟨_, rfl, fun hs => ?_, fun hs => ?_⟩
      · cases ha' : acceptL i p a with
        | none => rw [ha'] at hs; cases hs
        | some p' =>
          rw [ha'] at hF
          refine ⟨_, ?_, i + 1, p', r, rfl, rfl, rfl, hF, fun k => by omega, fun _ => accept_soon ha' hSoon, by omega, hP23 p' ha', r23, g23⟩
          rw [List.length_append, List.length_cons]; omega
      · cases ha' : acceptL i p a with
        | some p' => rw [ha'] at hs; cases hs
        | none =>
          rw [ha'] at hF
          exact bad (K := fun _ => True) hF.symm g23 r23
    · rcases hb with ⟨-, hb⟩ | ⟨hb, -⟩
      · rw [finish_none hb, if_neg hno] at hF
        exact bad (K := fun _ => True) hF.symm (hG.trans' G17) (hrow.grow G17)
      · rw [hb] at hbf; cases hbf
  refine ⟨fun hx => main w11 (Only.refl _ _) fun k => by have := dT hx; omega, fun hx => ⟨fun ht => main w11 (Only.refl _ _) fun k => ?_, fun ht => ?_⟩⟩
  · have ht : (!strEq (BA t) (BA [])) = true := ht
    rw [strEq_BA] at ht
    exact nT ht k.1
  · have ht : (!strEq (BA t) (BA [])) = false := ht
    rw [strEq_BA] at ht
    have ht := nF ht
    have hi : 0 < i := by have := dF hx; omega
    obtain ⟨o, c, hr, hRd⟩ := hP.ex
    refine ⟨_, hr.cell rfl, _, _, _, hr.cell rfl, (ended_c o c p (by omega) w11 hRd.built.lol).mono ?_⟩
    rintro _ w74 ⟨rfl, g74⟩
    refine ⟨_, rfl, fun hd => ?_, fun hd => main w74 g74 fun k => by rw [hd] at k; cases k.2.2⟩
    have r74 := hr.grow g74
    refine ⟨_, r74.cell rfl, _, _, _, r74.cell rfl, (hrow.grow g74).there (by simp), fun w81 e81 => ?_⟩
    have r81 := (hrow.grow g74).set e81
    have o81 : Only (fun k => k = hs w) w74 w81 := only_set e81
    subst ht
    rw [finish_none (by simp), if_pos ⟨rfl, hi, hd⟩] at hF
    have gg := hG.trans' g74
    refine ⟨_, r81.cell rfl, _, _, _, r81.cell rfl, gg.trans o81 fun k hk e => by omega, o, c, ?_, ?_⟩
    · rw [← hF]; rfl
    · rw [← hF]
      have l1 := (hRd.grow g74).keep o81 (fun k hk e => by omega)
      exact l1.built.lol.mono fun k hk => ⟨by omega, hk.2⟩

theorem ret_var {wX : World} {b T : Nat} {v1 v2 : Value} {s : ByteArray} {o : Option Addr} {n c : Nat} {R : ByteArray → Option Addr → Nat → Nat → World → Prop} (r : Row wX b T [v1, v2]) (k : ∀ w', Only (fun k => k = b) wX w' → R s o n c w') :
    (There wX ⟨b, 0, none⟩ 2) ∧ ∀ w78, w78 = setCells wX ⟨b, 0, none⟩ [.string s, .slice o n c] 0 → ∃ s80, w78.cell? ⟨b, 0, none⟩ = some (.string s80) ∧ ∃ o81 n82 n83, w78.cell? ⟨b, 1, none⟩ = some (.slice o81 n82 n83) ∧ R s80 o81 n82 n83 w78 := by
  refine ⟨r.there (by simp), fun w78 e78 => ?_⟩
  have r78 := r.set e78
  exact ⟨_, r78.cell rfl, _, _, _, r78.cell rfl, k w78 (only_set e78)⟩
/-- what more returns -/
def More (w : World) (A : Nat → Prop) (p : Pl) (l : Str) (e : Ending) (w' : World) : Prop := Grow w w' ∧ ∃ (s : ByteArray) (o : Option Addr) (n c : Nat), e = .returned (.tuple #[.agg #[.string s, .slice o n c], .bool (moreL p l).isSome]) ∧
  ∀ p', moreL p l = some p' → s = BA p'.name ∧ n = p'.steps.length ∧ Lol w' (fun b => A b ∨ (hs w ≤ b ∧ b < hs w')) o p'.steps
theorem More.no {w w' : World} {A : Nat → Prop} {p : Pl} {l : Str} {s : ByteArray} {o : Option Addr} {n c : Nat} (h : moreL p l = none) (g : Grow w w') : More w A p l (.returned (.tuple #[.agg #[.string s, .slice o n c], .bool false])) w' :=
  ⟨g, s, o, n, c, by rw [h]; rfl, fun p' e => by rw [h] at e; cases e⟩
theorem More.yes {w w' : World} {A : Nat → Prop} {p p' : Pl} {l : Str} {o : Option Addr} {c : Nat} (h : moreL p l = some p') (g : Grow w w') (hL : Lol w' (fun b => A b ∨ (hs w ≤ b ∧ b < hs w')) o p'.steps) : More w A p l (.returned (.tuple #[.agg #[.string (BA p'.name), .slice o p'.steps.length c], .bool true])) w' :=
  ⟨g, _, o, _, c, by rw [h]; rfl, fun p'' e => by rw [h] at e; cases e; exact ⟨rfl, rfl, hL⟩⟩
theorem Soon.fit {p : Pl} (hp : Soon p) : p.Fit := by
  have h1 := name_len hp.name
  have h2 := hp.few
  refine ⟨by omega, by omega, fun l hl => ⟨by have := hp.each l hl; omega, fun s hs => ?_⟩⟩
  have := step_len (hp.step s (List.mem_flatten.2 ⟨l, hl, hs⟩))
  omega
theorem mem_add {ls : List (List Str)} {x : List Str} {s : Str} (hx : x ∈ addStep ls s) : x ∈ ls ∨ ∃ y ∈ ls, x = y ++ [s] := by
  rcases Nat.eq_zero_or_pos ls.length with h | h
  · rw [List.eq_nil_of_length_eq_zero h] at hx; cases hx
  · obtain ⟨a, y, rfl⟩ := steps_split h
    rw [addStep_append] at hx
    rcases List.mem_append.1 hx with hx | hx
    · exact .inl (List.mem_append_left _ hx)
    · rw [List.mem_singleton] at hx
      exact .inr ⟨y, by simp, hx⟩
theorem Soon.fit_add {p : Pl} {s : Str} (hp : Soon p) (hs : s.length ≤ 1000000) : (Pl.mk p.name (addStep p.steps s)).Fit := by
  have h1 := name_len hp.name
  have h2 := hp.few
  have hl : (addStep p.steps s).length = p.steps.length := by
    rcases Nat.eq_zero_or_pos p.steps.length with h | h
    · rw [List.eq_nil_of_length_eq_zero h]; rfl
    · obtain ⟨a, y, e⟩ := steps_split h
      rw [e, addStep_append]; simp
  refine ⟨by show p.name.length ≤ _; omega, by show (addStep p.steps s).length * 24 ≤ _; omega, fun l hl => ?_⟩
  have ok : ∀ y ∈ p.steps, ∀ t ∈ y, t.length ≤ 60 := fun y hy t ht => step_len (hp.step t (List.mem_flatten.2 ⟨y, hy, ht⟩))
  rcases mem_add hl with hm | ⟨y, hy, rfl⟩
  · exact ⟨by have := hp.each l hm; omega, fun t ht => by have := ok l hm t ht; omega⟩
  · refine ⟨by have := hp.each y hy; rw [List.length_append, List.length_singleton]; omega, fun t ht => ?_⟩
    rcases List.mem_append.1 ht with ht | ht
    · have := ok y hy t ht; omega
    · rw [List.mem_singleton] at ht
      rw [ht]; omega
theorem Strs.both {w : World} {A : Nat → Prop} {o : Option Addr} {xs : List Str} (h : Strs w A o xs) : Strs w (fun b => A b ∧ b < hs w) o xs := fun i row hi => by
  obtain ⟨a, h1, h2, h3⟩ := h i row hi
  obtain ⟨a', k1, k2, -⟩ := Strs.low h i row hi
  rw [h1] at k1
  cases k1
  exact ⟨a, h1, ⟨h2, k2⟩, h3⟩
theorem Lol.both {w : World} {A : Nat → Prop} {o : Option Addr} {l : List (List Str)} (h : Lol w A o l) : Lol w (fun b => A b ∧ b < hs w) o l := by
  obtain ⟨rows, h1, h2, h3⟩ := h
  refine ⟨rows, h1, fun i row hi => ?_, fun x hx => Strs.both (h3 x hx)⟩
  obtain ⟨a, k1, k2, k3⟩ := h2 i row hi
  rw [List.getElem?_map] at hi
  cases hx : rows[i]? with
  | none => rw [hx] at hi; cases hi
  | some x =>
    rw [hx] at hi
    cases hi
    have := cell_block (k3 0 _ rfl)
    rw [block_add2] at this
    exact ⟨a, k1, ⟨k2, this⟩, k3⟩
set_option maxHeartbeats 16000000 in
theorem more_c (o : Option Addr) (c : Nat) (p : Pl) (l : Str) (hp : Soon p) (hl : l.length ≤ 1000000) (w : World) {A : Nat → Prop} (h : Lol w A o p.steps) :
    Calls Tryd.prog 55 #[plV p.name o p.steps.length c, .string (BA l)] w (More w A p l) := by
  have hfew := hp.few
  have hfit := hp.fit_add (s := l.drop 2) (by rw [List.length_drop]; omega)
  have h16 := hp.each
  refine nf55 (BA p.name) o p.steps.length c (BA l) w _ fun w1 e1 w3 e3 => ?_
  have g1 : Grow w w1 := only_alloc e1
  have g3 : Grow w1 w3 := only_alloc e3
  have z1 := hs_alloc e1
  have z3 := hs_alloc e3
  have r3 : Row w3 (hs w) 32 [.string (BA p.name), .slice o p.steps.length c] := (Row.new e1).grow g3
  have q3 : Row w3 (hs w1) 32 [.string (BA []), .slice none 0 0] := Row.new e3
  have G3 := g1.trans' g3
  obtain ⟨rows, k1, k2, k3⟩ := h.both
  have hrl : rows.length = p.steps.length := by rw [← k1]; simp
  have out : ∀ {w' w'' : World} {o : Option Addr} {l : List (List Str)}, Lol w' (fun b => (A b ∧ b < hs w) ∨ (hs w3 ≤ b ∧ b < hs w')) o l → Only (fun k => k = hs w1) w' w'' → Lol w'' (fun b => A b ∨ (hs w ≤ b ∧ b < hs w'')) o l := by
    intro w' w'' o l hL o'
    have := o'.size
    refine (hL.keep o' fun b hb e => ?_).mono fun b hb => ?_
    · rcases hb with hb | hb <;> omega
    · rcases hb with hb | hb
      · exact .inl hb.1
      · exact .inr ⟨by omega, by omega⟩
  refine ⟨_, _, _, r3.cell rfl, fun h5 => ?_, fun h5 => ?_⟩
  · intro w9 e9
    have h5 := dT h5
    have hd : IntKind.wrap .u8 (IntKind.wrap .i64 (49 + (p.steps.length : Int))) = ((digit p.steps.length).toNat : Int) := by
      rw [wr (by omega)]
      rcases (show p.steps.length = 0 ∨ p.steps.length = 1 ∨ p.steps.length = 2 ∨ p.steps.length = 3 ∨ p.steps.length = 4 by omega) with h | h | h | h | h <;> rw [h] <;> decide
    rw [hd] at e9
    have g3X : Grow w3 w9 := only_alloc e9
    have z9 := hs_alloc e9
    have r9 : Row w9 (hs w3) 5 [.int .u8 ((digit p.steps.length).toNat : Int)] := Row.new e9
    have rX := r3.grow g3X
    have qX := q3.grow g3X
    have GX := G3.trans' g3X
    refine run_char r9 ⟨_, rfl, run_cat (a := levelW) (b := [digit p.steps.length]) (by show 6 + 1 ≤ _; decide) ⟨_, rfl, fun he => ?_, fun he => ?_⟩⟩
    · rw [strEq_BA] at he
      have he : l = opens p.steps.length := dT he
      have em : moreL p l = if p.steps.length = 0 ∨ 0 < (lastL p.steps).length then some ⟨p.name, p.steps ++ [[]]⟩ else none := by
        unfold moreL
        rw [if_pos ⟨by omega, he⟩]
      intro w18 e18
      have g18 : Grow w9 w18 := only_alloc e18
      have z18 := hs_alloc e18
      have own18 : Own w18 (hs w9) 52 1 (some ⟨hs w9, 0, none⟩) 0 0 (([] : List LR).flatMap encL) := (show Row w18 (hs w9) 52 [] from Row.new e18).own (n := 0) (Nat.le_refl _) rfl (by simp [maxLen])
      refine ⟨_, _, _, (rX.grow g18).cell rfl, append_recs' encL_len hrl elem30 (by omega) own18 (Recs.grow k2 (GX.trans' g18)) encL_one (by simp only [maxLen]; omega) (by omega) (by omega) fun o25 c27 w24 p1 p2 => ⟨_, _, _, rfl, fun w28 e28 => ?_⟩⟩
      have g24 : Grow w9 w24 := g18.trans p2 fun k hk hk' => by obtain ⟨_, e, rfl⟩ := hk'; cases e; exact absurd hk (by simp)
      have g28 : Grow w24 w28 := only_alloc e28
      have r28 : Row w28 (hs w24) 52 [.slice none 0 0] := Row.new e28
      have z24 := g24.size
      have z28 := hs_alloc e28
      refine run_append_row elem30 (p1.grow g28) r28 rfl (by simp [Value.oneCell']) (by simp only [maxLen]; omega) (by omega) (by omega) fun o32 c34 w31 q1 q2 _ => ⟨_, _, _, rfl, ?_⟩
      have hb1 : ∀ k, inBlock o25 k → hs w9 ≤ k := fun k hk => ((p1.base k hk).1)
      have g31 : Grow w9 w31 := (g24.trans' g28).trans q2 fun k hk hk' => by have := hb1 k hk'; omega
      have G31 := GX.trans' g31
      have R31 := rX.grow g31
      have Q31 := qX.grow g31
      have z31 := g31.size
      refine ⟨R31.there (by simp), fun w35 e35 w37 e37 => ?_⟩
      have r35 := R31.set e35
      have o35 : Only (fun k => k = hs w) w31 w35 := only_set e35
      have g37 : Grow w35 w37 := only_drew e37
      have r37 := r35.grow g37
      have o37 := o35.grow g37
      have Q37 := Q31.keep o37 (by omega)
      have G37 : Grow w w37 := G31.trans o37 fun k hk e => by omega
      have z37 := o37.size
      have en : 0 + p.steps.length + 1 = (p.steps ++ [[]]).length := by simp
      rw [List.nil_append] at q1
      have hx : rows.flatMap encL ++ [Value.slice none 0 0] = (rows ++ [(([], none, 0) : LR)]).flatMap encL := by rw [List.flatMap_append]; rfl
      rw [hx] at q1
      have hL : Lol w37 (fun b => (A b ∧ b < hs w) ∨ (hs w3 ≤ b ∧ b < hs w37)) o32 (p.steps ++ [[]]) := by
        refine ⟨rows ++ [([], none, 0)], by rw [List.map_append, k1]; rfl, (own_recs' encL_len (by omega) (q1.keep o37 fun k hk e => by have := (q1.base k hk).1; omega)).mono fun k hk => .inr ?_, fun x hx => ?_⟩
        · have h1 := q1.base k hk
          exact ⟨by omega, by omega⟩
        · rcases List.mem_append.1 hx with hx | hx
          · exact Recs.mono (Recs.grow (k3 x hx) G37) fun k hk => .inl hk
          · rw [List.mem_singleton] at hx
            subst hx
            exact Recs.nil _ _ _ _
      refine ⟨_, r37.cell rfl, _, _, _, r37.cell rfl, fun hz => ?_, fun hz => ?_⟩
      · have hz := dT hz
        refine ret_var Q37 fun w' o' => ?_
        rw [en]
        exact More.yes (p' := ⟨p.name, p.steps ++ [[]]⟩) (by rw [em, if_pos (.inl (by omega))]) (G37.trans o' fun k hk e => by omega) (out hL o')
      · have hz := dF hz
        obtain ⟨a, x, e⟩ := steps_split (ls := p.steps) (by omega)
        have hla : lastL p.steps = x := by rw [e, last_append]
        have hll : p.steps.length = a.length + 1 := by rw [e]; simp
        have hat : (p.steps ++ [[]])[a.length]? = some x := by rw [e, List.append_assoc, List.getElem?_append_right (Nat.le_refl _), Nat.sub_self]; rfl
        obtain ⟨ad, oi, ci, ha, hAb, hc, -⟩ := hL.at hat
        have e1 : IntKind.wrap .i64 ((p.steps.length : Int) - 1) = ((a.length : Nat) : Int) := by rw [wr (by omega)]; omega
        rw [e1]
        have nA : ¬ ad.block = hs w1 := fun k => by rw [k] at hAb; rcases hAb with h | h <;> omega
        have lA : ad.block < hs w37 := by rcases hAb with h | h <;> omega
        have kA : ∀ {w' : World} {j : Nat}, Only (fun k => k = hs w1) w37 w' → Kept w37 w' (ad.add j) 1 := fun o' => kept_addr o' (by rw [block_add1]; exact lA) (by rw [block_add1]; exact nA)
        refine ⟨_, _, _, r37.cell rfl, ad, ha, ⟨by omega, by rw [en]; omega⟩, _, _, _, hc, fun hx => ?_, fun hx => ?_⟩
        · have hx := dT hx
          refine ⟨Q37.there (by simp), fun w59 e59 => ?_⟩
          have Q59 := Q37.set e59
          have o59 : Only (fun k => k = hs w1) w37 w59 := only_set e59
          refine ⟨kA o59, kept_only o59 r37.lt (by omega), _, Q59.cell rfl, _, _, _, Q59.cell rfl, ?_⟩
          rw [en]
          exact More.yes (p' := ⟨p.name, p.steps ++ [[]]⟩) (by rw [em, if_pos (.inr (by rw [hla]; omega))]) (G37.trans o59 fun k hk e => by omega) (out hL o59)
        · have hx := dF hx
          refine ⟨Q37.there (by simp), fun w59 e59 => ?_⟩
          have Q59 := Q37.set e59
          have o59 : Only (fun k => k = hs w1) w37 w59 := only_set e59
          exact ⟨kA o59, kept_only o59 r37.lt (by omega), _, Q59.cell rfl, _, _, _, Q59.cell rfl, More.no (by
            rw [em, if_neg]
            rintro (k | k)
            · omega
            · rw [hla] at k; omega) (G37.trans o59 fun k hk e => by omega)⟩
    · rw [strEq_BA] at he
      have hno : ¬ (p.steps.length < 5 ∧ l = opens p.steps.length) := fun k => dF he k.2
      clear e9 r9 z9 hd he h5
      rename World => wX
      have em : moreL p l = if p.steps.length = 0 ∨ l.length < 2 ∨ l.take 2 ≠ dashW then none else if rightL ⟨p.name, addStep p.steps (l.drop 2)⟩ = -1 then some ⟨p.name, addStep p.steps (l.drop 2)⟩ else none := by
        unfold moreL
        rw [if_neg hno]
      have zX := g3X.size
      rw [BA_from, BA_upto, BA_size]
      refine ⟨fun hz => ⟨_, rX.cell rfl, _, _, _, rX.cell rfl, ret_var qX fun w' o' => More.no (by rw [em, if_pos (.inl (by have := dT hz; omega))]) (GX.trans o' fun k hk e => by omega)⟩, fun hz => ?_⟩
      refine ⟨fun h2 => ⟨_, rX.cell rfl, _, _, _, rX.cell rfl, ret_var qX fun w' o' => More.no (by rw [em, if_pos (.inr (.inl (by have := dT h2; omega)))]) (GX.trans o' fun k hk e => by omega)⟩, fun h2 => ⟨⟨by omega, by have := dF h2; omega⟩, fun hd => ?_, fun hd w109 e109 => ?_⟩⟩
      · have hd : (!strEq (BA (l.take 2)) (BA dashW)) = true := hd
        rw [strEq_BA] at hd
        exact ⟨_, rX.cell rfl, _, _, _, rX.cell rfl, ret_var qX fun w' o' => More.no (by rw [em, if_pos (.inr (.inr (nT hd)))]) (GX.trans o' fun k hk e => by omega)⟩
      have hd : (!strEq (BA (l.take 2)) (BA dashW)) = false := hd
      rw [strEq_BA] at hd
      have hd := nF hd
      have hz := dF hz
      have h2 := dF h2
      have em2 : moreL p l = if rightL ⟨p.name, addStep p.steps (l.drop 2)⟩ = -1 then some ⟨p.name, addStep p.steps (l.drop 2)⟩ else none := by
        rw [em, if_neg]
        rintro (k | k | k)
        · omega
        · omega
        · exact k hd
      have g109 : Grow wX w109 := only_alloc e109
      have z109 := hs_alloc e109
      have own109 : Own w109 (hs wX) 52 1 (some ⟨hs wX, 0, none⟩) 0 0 (([] : List LR).flatMap encL) := (show Row w109 (hs wX) 52 [] from Row.new e109).own (n := 0) (Nat.le_refl _) rfl (by simp [maxLen])
      refine ⟨_, _, _, (rX.grow g109).cell rfl, append_recs' encL_len hrl elem30 (by omega) own109 (Recs.grow k2 (GX.trans' g109)) encL_one (by simp only [maxLen]; omega) (by omega) (by omega) fun o116 c118 w115 p1 p2 => ⟨_, _, _, rfl, fun w119 e119 => ?_⟩⟩
      have gX5 : Grow wX w115 := g109.trans p2 fun k hk hk' => by obtain ⟨_, e, rfl⟩ := hk'; cases e; exact absurd hk (by simp)
      have g119 : Grow w115 w119 := only_drew e119
      have gX9 : Grow wX w119 := gX5.trans' g119
      have G119 := GX.trans' gX9
      have z119 := gX9.size
      rw [List.nil_append, Nat.zero_add] at p1
      rw [Nat.zero_add]
      have own119 := p1.grow g119
      rcases List.eq_nil_or_concat rows with rfl | ⟨ra, x, hco⟩
      · exfalso; exact hz (by rw [← hrl]; rfl)
      rw [List.concat_eq_append] at hco
      subst hco
      have k1' : p.steps = ra.map (·.1) ++ [x.1] := by rw [← k1]; simp
      have hlen : p.steps.length = ra.length + 1 := by rw [k1']; simp
      have hx16 := h16 x.1 (by rw [k1']; simp)
      obtain ⟨g, gl, rfl, hg1, hg2, hg3, hgB⟩ := own119.head (by omega)
      have hidx : ((ra ++ [x]).flatMap encL)[((ra.length : Int)).toNat * 1]? = some (.slice x.2.1 x.1.length x.2.2) := by
        rw [toNat_cast, flat_get0 encL_len (ra ++ [x]) ra.length (by decide), List.getElem?_append_right (Nat.le_refl _), Nat.sub_self]; rfl
      have e1 : IntKind.wrap .i64 ((p.steps.length : Int) - 1) = ((ra.length : Nat) : Int) := by rw [wr (by omega)]; omega
      have hal : (addStep p.steps (l.drop 2)).length = p.steps.length := by rw [k1', addStep_append]; simp
      have hset : ∀ (o' : Option Addr) (n' c' : Nat), n' = x.1.length + 1 → setFrom ((ra ++ [x]).flatMap encL) (((ra.length : Int)).toNat * 1) [Value.slice o' n' c'] = (ra ++ [((x.1 ++ [l.drop 2], o', c') : LR)]).flatMap encL := by
        rintro o' _ c' rfl
        rw [toNat_cast, List.flatMap_append, List.flatMap_append]
        have e5 : ra.length * 1 = (ra.flatMap encL).length + 0 := by rw [flat_length encL_len, Nat.add_zero]
        rw [e5, setFrom_right]
        simp [encL, setFrom]
      have hxs := k3 x (by simp)
      have enc1 : ([] ++ x.1).flatMap encS ++ encS (l.drop 2) = (x.1 ++ [l.drop 2]).flatMap encS := by rw [List.nil_append, List.flatMap_append]; simp
      rw [e1]
      refine ⟨_, rfl, ⟨by omega, by omega⟩, _, _, _, own119.cell hidx, ⟨by omega, by omega⟩, fun w125 e125 => ?_, fun w215 e215 => ?_⟩
      · have g125 : Grow w119 w125 := only_alloc e125
        have z125 := hs_alloc e125
        have own125 : Own w125 (hs w119) 9 1 (some ⟨hs w119, 0, none⟩) 0 0 (([] : List Str).flatMap encS) := (show Row w125 (hs w119) 9 [] from Row.new e125).own (n := 0) (Nat.le_refl _) rfl (by simp [maxLen])
        refine ⟨kept_own own119 g125 (fun h => h), append_recs encS_len elem52 (by omega) own125 (Recs.grow hxs (G119.trans' g125)) encS_one (by simp only [maxLen]; omega) (by omega) (by omega) fun oa ca wa pa1 pa2 => ⟨_, _, _, rfl, fun wb eb => ?_⟩, fun w171 e171 => ?_⟩
        · have ga : Grow w119 wa := g125.trans pa2 fun k hk hk' => by obtain ⟨_, e, rfl⟩ := hk'; cases e; exact absurd hk (by simp)
          have gb : Grow wa wb := only_alloc eb
          have za := ga.size
          have zb := hs_alloc eb
          have rb : Row wb (hs wa) 9 (encS (l.drop 2)) := Row.new eb
          refine run_append_row elem52 (pa1.grow gb) rb rfl (by simp [encS, Value.oneCell']) (by simp only [maxLen]; omega) (by omega) (by omega) fun oE cE wE pE qE _ => ⟨_, _, _, rfl, ?_⟩
          rw [enc1] at pE
          have GE : Grow w119 wE := (ga.trans' gb).trans qE fun k hk hk' => by have := (pa1.base k hk').1; omega
          have ownE := own119.grow GE
          have zE := GE.size
          have RE := rX.grow (gX9.trans' GE)
          have QE := qX.grow (gX9.trans' GE)
          refine ⟨_, rfl, ⟨by omega, by omega⟩, ownE.there (by rw [toNat_cast]; omega), fun w140 e140 => ?_⟩
          have own140 := ownE.set e140 (by rw [toNat_cast]; simp only [List.length_cons, List.length_nil]; omega)
          rw [hset _ _ _ (by omega)] at own140
          have o140 : Only (fun k => k = g) wE w140 := only_setAdd e140
          have pE140 := pE.keep o140 fun k hk e => pE.apart ownE (by decide) k hk ⟨_, rfl, e.symm⟩
          have R140 := RE.keep o140 (by omega)
          have Q140 := QE.keep o140 (by omega)
          have G140 : Grow w w140 := (G119.trans' GE).trans o140 fun k hk e => by omega
          have z140 := o140.size
          refine ⟨R140.there (by simp), fun w142 e142 w144 e144 => ?_⟩
          have R142 := R140.set e142
          have o142 : Only (fun k => k = hs w) w140 w142 := only_set e142
          have g144 : Grow w142 w144 := only_drew e144
          have o144 : Only (fun k => k = hs w) w140 w144 := o142.grow g144
          have R144 := R142.grow g144
          have Q144 := Q140.keep o144 (by omega)
          have G144 : Grow w w144 := G140.trans o144 fun k hk e => by omega
          have z144 := o144.size
          have hL : Lol w144 (fun b => (A b ∧ b < hs w) ∨ (hs w3 ≤ b ∧ b < hs w144)) (some ⟨g, 0, none⟩) (addStep p.steps (l.drop 2)) := by
            refine ⟨ra ++ [((x.1 ++ [l.drop 2], oE, cE) : LR)], by rw [k1', addStep_append, List.map_append]; rfl, (own_recs' encL_len (by omega) (own140.keep o144 fun k hk e => by have := (own140.base k hk).1; omega)).mono fun k hk => .inr ?_, fun y hy => ?_⟩
            · have h1 := own140.base k hk
              exact ⟨by omega, by omega⟩
            · rcases List.mem_append.1 hy with hy | hy
              · exact Recs.mono (Recs.grow (k3 y (List.mem_append_left _ hy)) G144) fun k hk => .inl hk
              · rw [List.mem_singleton] at hy
                subst hy
                refine (own_recs' encS_len (by omega) (pE140.keep o144 fun k hk e => by have := (pE140.base k hk).1; omega)).mono fun k hk => .inr ?_
                have h1 := pE140.base k hk
                exact ⟨by omega, by omega⟩
          have rc : Calls Tryd.prog 18 #[plV p.name (some ⟨g, 0, none⟩) (addStep p.steps (l.drop 2)).length c118] w144 fun e w' => e = .returned (.int .i64 (rightL ⟨p.name, addStep p.steps (l.drop 2)⟩)) ∧ Grow w144 w' := right_c (some ⟨g, 0, none⟩) c118 ⟨p.name, addStep p.steps (l.drop 2)⟩ hfit w144 hL
          rw [hal] at rc
          refine ⟨_, R144.cell rfl, _, _, _, R144.cell rfl, _, R144.cell rfl, _, _, _, R144.cell rfl, rc.mono ?_⟩
          rintro _ w155 ⟨rfl, g155⟩
          have z155 := g155.size
          have hL' : Lol w155 (fun b => (A b ∧ b < hs w) ∨ (hs w3 ≤ b ∧ b < hs w155)) (some ⟨g, 0, none⟩) (addStep p.steps (l.drop 2)) := (hL.grow g155).mono fun b hb => hb.elim .inl fun h => .inr ⟨h.1, by omega⟩
          refine ⟨_, rfl, kept_only g155 R144.lt (fun h => h), fun hr => ret_var (Q144.grow g155) fun w' o' => ?_, fun hr => ret_var (Q144.grow g155) fun w' o' => More.no (by rw [em2, if_neg (dF hr)]) ((G144.trans' g155).trans o' fun k hk e => by omega)⟩
          have hy := More.yes (p' := ⟨p.name, addStep p.steps (l.drop 2)⟩) (o := some ⟨g, 0, none⟩) (c := c118) (A := A) (w := w) (by rw [em2, if_pos (dT hr)]) ((G144.trans' g155).trans o' fun k hk e => by omega) (out hL' o')
          have hal' : (Pl.mk p.name (addStep p.steps (l.drop 2))).steps.length = p.steps.length := hal
          rw [hal'] at hy
          exact hy
        · have g171 : Grow w125 w171 := only_alloc e171
          have z171 := hs_alloc e171
          have r171 : Row w171 (hs w125) 9 (encS (l.drop 2)) := Row.new e171
          refine ⟨kept_own own119 (g125.trans' g171 : Grow w119 w171) (fun h => h), append_recs encS_len elem52 (by omega) (own125.grow g171) (Recs.grow hxs ((G119.trans' g125).trans' g171)) encS_one (by simp only [maxLen]; omega) (by omega) (by omega) fun oa ca wa pa1 pa2 => ⟨_, _, _, rfl, ?_⟩⟩
          have ga : Grow w119 wa := (g125.trans' g171).trans pa2 fun k hk hk' => by obtain ⟨_, e, rfl⟩ := hk'; cases e; exact absurd hk (by simp)
          have ra' := r171.keep pa2 (fun k => by obtain ⟨_, e, k⟩ := k; cases e; simp at k; omega)
          have za := pa2.size
          refine run_append_row elem52 pa1 ra' rfl (by simp [encS, Value.oneCell']) (by simp only [maxLen]; omega) (by omega) (by omega) fun oE cE wE pE qE _ => ⟨_, _, _, rfl, ?_⟩
          rw [enc1] at pE
          have GE : Grow w119 wE := ga.trans qE fun k hk hk' => by have := (pa1.base k hk').1; omega
          have ownE := own119.grow GE
          have zE := GE.size
          have RE := rX.grow (gX9.trans' GE)
          have QE := qX.grow (gX9.trans' GE)
          refine ⟨_, rfl, ⟨by omega, by omega⟩, ownE.there (by rw [toNat_cast]; omega), fun w140 e140 => ?_⟩
          have own140 := ownE.set e140 (by rw [toNat_cast]; simp only [List.length_cons, List.length_nil]; omega)
          rw [hset _ _ _ (by omega)] at own140
          have o140 : Only (fun k => k = g) wE w140 := only_setAdd e140
          have pE140 := pE.keep o140 fun k hk e => pE.apart ownE (by decide) k hk ⟨_, rfl, e.symm⟩
          have R140 := RE.keep o140 (by omega)
          have Q140 := QE.keep o140 (by omega)
          have G140 : Grow w w140 := (G119.trans' GE).trans o140 fun k hk e => by omega
          have z140 := o140.size
          refine ⟨R140.there (by simp), fun w142 e142 w144 e144 => ?_⟩
          have R142 := R140.set e142
          have o142 : Only (fun k => k = hs w) w140 w142 := only_set e142
          have g144 : Grow w142 w144 := only_drew e144
          have o144 : Only (fun k => k = hs w) w140 w144 := o142.grow g144
          have R144 := R142.grow g144
          have Q144 := Q140.keep o144 (by omega)
          have G144 : Grow w w144 := G140.trans o144 fun k hk e => by omega
          have z144 := o144.size
          have hL : Lol w144 (fun b => (A b ∧ b < hs w) ∨ (hs w3 ≤ b ∧ b < hs w144)) (some ⟨g, 0, none⟩) (addStep p.steps (l.drop 2)) := by
            refine ⟨ra ++ [((x.1 ++ [l.drop 2], oE, cE) : LR)], by rw [k1', addStep_append, List.map_append]; rfl, (own_recs' encL_len (by omega) (own140.keep o144 fun k hk e => by have := (own140.base k hk).1; omega)).mono fun k hk => .inr ?_, fun y hy => ?_⟩
            · have h1 := own140.base k hk
              exact ⟨by omega, by omega⟩
            · rcases List.mem_append.1 hy with hy | hy
              · exact Recs.mono (Recs.grow (k3 y (List.mem_append_left _ hy)) G144) fun k hk => .inl hk
              · rw [List.mem_singleton] at hy
                subst hy
                refine (own_recs' encS_len (by omega) (pE140.keep o144 fun k hk e => by have := (pE140.base k hk).1; omega)).mono fun k hk => .inr ?_
                have h1 := pE140.base k hk
                exact ⟨by omega, by omega⟩
          have rc : Calls Tryd.prog 18 #[plV p.name (some ⟨g, 0, none⟩) (addStep p.steps (l.drop 2)).length c118] w144 fun e w' => e = .returned (.int .i64 (rightL ⟨p.name, addStep p.steps (l.drop 2)⟩)) ∧ Grow w144 w' := right_c (some ⟨g, 0, none⟩) c118 ⟨p.name, addStep p.steps (l.drop 2)⟩ hfit w144 hL
          rw [hal] at rc
          refine ⟨_, R144.cell rfl, _, _, _, R144.cell rfl, _, R144.cell rfl, _, _, _, R144.cell rfl, rc.mono ?_⟩
          rintro _ w155 ⟨rfl, g155⟩
          have z155 := g155.size
          have hL' : Lol w155 (fun b => (A b ∧ b < hs w) ∨ (hs w3 ≤ b ∧ b < hs w155)) (some ⟨g, 0, none⟩) (addStep p.steps (l.drop 2)) := (hL.grow g155).mono fun b hb => hb.elim .inl fun h => .inr ⟨h.1, by omega⟩
          refine ⟨_, rfl, kept_only g155 R144.lt (fun h => h), fun hr => ret_var (Q144.grow g155) fun w' o' => ?_, fun hr => ret_var (Q144.grow g155) fun w' o' => More.no (by rw [em2, if_neg (dF hr)]) ((G144.trans' g155).trans o' fun k hk e => by omega)⟩
          have hy := More.yes (p' := ⟨p.name, addStep p.steps (l.drop 2)⟩) (o := some ⟨g, 0, none⟩) (c := c118) (A := A) (w := w) (by rw [em2, if_pos (dT hr)]) ((G144.trans' g155).trans o' fun k hk e => by omega) (out hL' o')
          have hal' : (Pl.mk p.name (addStep p.steps (l.drop 2))).steps.length = p.steps.length := hal
          rw [hal'] at hy
          exact hy
      · have g215 : Grow w119 w215 := only_alloc e215
        have z215 := hs_alloc e215
        have r215 : Row w215 (hs w119) 9 (encS (l.drop 2)) := Row.new e215
        refine ⟨kept_own own119 g215 (fun h => h), fun w217 e217 => ?_⟩
        have g217 : Grow w215 w217 := only_alloc e217
        have z217 := hs_alloc e217
        have own217 : Own w217 (hs w119) 9 1 (some ⟨hs w215, 0, none⟩) 0 0 (([] : List Str).flatMap encS) := (show Row w217 (hs w215) 9 [] from Row.new e217).own (n := 0) (by omega) rfl (by simp [maxLen])
        refine ⟨kept_own own119 (g215.trans' g217 : Grow w119 w217) (fun h => h), append_recs encS_len elem52 (by omega) own217 (Recs.grow hxs ((G119.trans' g215).trans' g217)) encS_one (by simp only [maxLen]; omega) (by omega) (by omega) fun oa ca wa pa1 pa2 => ⟨_, _, _, rfl, ?_⟩⟩
        have ga : Grow w119 wa := (g215.trans' g217).trans pa2 fun k hk hk' => by obtain ⟨_, e, rfl⟩ := hk'; cases e; simp at hk; omega
        have ra' := (r215.grow g217).keep pa2 (fun k => by obtain ⟨_, e, k⟩ := k; cases e; simp at k; omega)
        have za := pa2.size
        refine run_append_row elem52 pa1 ra' rfl (by simp [encS, Value.oneCell']) (by simp only [maxLen]; omega) (by omega) (by omega) fun oE cE wE pE qE _ => ⟨_, _, _, rfl, ?_⟩
        rw [enc1] at pE
        have GE : Grow w119 wE := ga.trans qE fun k hk hk' => by have := (pa1.base k hk').1; omega
        have ownE := own119.grow GE
        have zE := GE.size
        have RE := rX.grow (gX9.trans' GE)
        have QE := qX.grow (gX9.trans' GE)
        refine ⟨_, rfl, ⟨by omega, by omega⟩, ownE.there (by rw [toNat_cast]; omega), fun w140 e140 => ?_⟩
        have own140 := ownE.set e140 (by rw [toNat_cast]; simp only [List.length_cons, List.length_nil]; omega)
        rw [hset _ _ _ (by omega)] at own140
        have o140 : Only (fun k => k = g) wE w140 := only_setAdd e140
        have pE140 := pE.keep o140 fun k hk e => pE.apart ownE (by decide) k hk ⟨_, rfl, e.symm⟩
        have R140 := RE.keep o140 (by omega)
        have Q140 := QE.keep o140 (by omega)
        have G140 : Grow w w140 := (G119.trans' GE).trans o140 fun k hk e => by omega
        have z140 := o140.size
        refine ⟨R140.there (by simp), fun w142 e142 w144 e144 => ?_⟩
        have R142 := R140.set e142
        have o142 : Only (fun k => k = hs w) w140 w142 := only_set e142
        have g144 : Grow w142 w144 := only_drew e144
        have o144 : Only (fun k => k = hs w) w140 w144 := o142.grow g144
        have R144 := R142.grow g144
        have Q144 := Q140.keep o144 (by omega)
        have G144 : Grow w w144 := G140.trans o144 fun k hk e => by omega
        have z144 := o144.size
        have hL : Lol w144 (fun b => (A b ∧ b < hs w) ∨ (hs w3 ≤ b ∧ b < hs w144)) (some ⟨g, 0, none⟩) (addStep p.steps (l.drop 2)) := by
          refine ⟨ra ++ [((x.1 ++ [l.drop 2], oE, cE) : LR)], by rw [k1', addStep_append, List.map_append]; rfl, (own_recs' encL_len (by omega) (own140.keep o144 fun k hk e => by have := (own140.base k hk).1; omega)).mono fun k hk => .inr ?_, fun y hy => ?_⟩
          · have h1 := own140.base k hk
            exact ⟨by omega, by omega⟩
          · rcases List.mem_append.1 hy with hy | hy
            · exact Recs.mono (Recs.grow (k3 y (List.mem_append_left _ hy)) G144) fun k hk => .inl hk
            · rw [List.mem_singleton] at hy
              subst hy
              refine (own_recs' encS_len (by omega) (pE140.keep o144 fun k hk e => by have := (pE140.base k hk).1; omega)).mono fun k hk => .inr ?_
              have h1 := pE140.base k hk
              exact ⟨by omega, by omega⟩
        have rc : Calls Tryd.prog 18 #[plV p.name (some ⟨g, 0, none⟩) (addStep p.steps (l.drop 2)).length c118] w144 fun e w' => e = .returned (.int .i64 (rightL ⟨p.name, addStep p.steps (l.drop 2)⟩)) ∧ Grow w144 w' := right_c (some ⟨g, 0, none⟩) c118 ⟨p.name, addStep p.steps (l.drop 2)⟩ hfit w144 hL
        rw [hal] at rc
        refine ⟨_, R144.cell rfl, _, _, _, R144.cell rfl, _, R144.cell rfl, _, _, _, R144.cell rfl, rc.mono ?_⟩
        rintro _ w155 ⟨rfl, g155⟩
        have z155 := g155.size
        have hL' : Lol w155 (fun b => (A b ∧ b < hs w) ∨ (hs w3 ≤ b ∧ b < hs w155)) (some ⟨g, 0, none⟩) (addStep p.steps (l.drop 2)) := (hL.grow g155).mono fun b hb => hb.elim .inl fun h => .inr ⟨h.1, by omega⟩
        refine ⟨_, rfl, kept_only g155 R144.lt (fun h => h), fun hr => ret_var (Q144.grow g155) fun w' o' => ?_, fun hr => ret_var (Q144.grow g155) fun w' o' => More.no (by rw [em2, if_neg (dF hr)]) ((G144.trans' g155).trans o' fun k hk e => by omega)⟩
        have hy := More.yes (p' := ⟨p.name, addStep p.steps (l.drop 2)⟩) (o := some ⟨g, 0, none⟩) (c := c118) (A := A) (w := w) (by rw [em2, if_pos (dT hr)]) ((G144.trans' g155).trans o' fun k hk e => by omega) (out hL' o')
        have hal' : (Pl.mk p.name (addStep p.steps (l.drop 2))).steps.length = p.steps.length := hal
        rw [hal'] at hy
        exact hy
  · have h5 := dF h5
    have hno : ¬ (p.steps.length < 5 ∧ l = opens p.steps.length) := fun k => by omega
    have g3X : Grow w3 w3 := Only.refl _ _
    have rX := r3
    have qX := q3
    have GX := G3
    obtain ⟨wX, eX⟩ : ∃ x, x = w3 := ⟨_, rfl⟩
    rw [← eX] at rX qX GX ⊢
    have g3X : Grow w3 wX := by rw [eX]; exact g3X
    clear eX
    have em : moreL p l = if p.steps.length = 0 ∨ l.length < 2 ∨ l.take 2 ≠ dashW then none else if rightL ⟨p.name, addStep p.steps (l.drop 2)⟩ = -1 then some ⟨p.name, addStep p.steps (l.drop 2)⟩ else none := by
      unfold moreL
      rw [if_neg hno]
    have zX := g3X.size
    rw [BA_from, BA_upto, BA_size]
    refine ⟨fun hz => ⟨_, rX.cell rfl, _, _, _, rX.cell rfl, ret_var qX fun w' o' => More.no (by rw [em, if_pos (.inl (by have := dT hz; omega))]) (GX.trans o' fun k hk e => by omega)⟩, fun hz => ?_⟩
    refine ⟨fun h2 => ⟨_, rX.cell rfl, _, _, _, rX.cell rfl, ret_var qX fun w' o' => More.no (by rw [em, if_pos (.inr (.inl (by have := dT h2; omega)))]) (GX.trans o' fun k hk e => by omega)⟩, fun h2 => ⟨⟨by omega, by have := dF h2; omega⟩, fun hd => ?_, fun hd w109 e109 => ?_⟩⟩
    · have hd : (!strEq (BA (l.take 2)) (BA dashW)) = true := hd
      rw [strEq_BA] at hd
      exact ⟨_, rX.cell rfl, _, _, _, rX.cell rfl, ret_var qX fun w' o' => More.no (by rw [em, if_pos (.inr (.inr (nT hd)))]) (GX.trans o' fun k hk e => by omega)⟩
    have hd : (!strEq (BA (l.take 2)) (BA dashW)) = false := hd
    rw [strEq_BA] at hd
    have hd := nF hd
    have hz := dF hz
    have h2 := dF h2
    have em2 : moreL p l = if rightL ⟨p.name, addStep p.steps (l.drop 2)⟩ = -1 then some ⟨p.name, addStep p.steps (l.drop 2)⟩ else none := by
      rw [em, if_neg]
      rintro (k | k | k)
      · omega
      · omega
      · exact k hd
    have g109 : Grow wX w109 := only_alloc e109
    have z109 := hs_alloc e109
    have own109 : Own w109 (hs wX) 52 1 (some ⟨hs wX, 0, none⟩) 0 0 (([] : List LR).flatMap encL) := (show Row w109 (hs wX) 52 [] from Row.new e109).own (n := 0) (Nat.le_refl _) rfl (by simp [maxLen])
    refine ⟨_, _, _, (rX.grow g109).cell rfl, append_recs' encL_len hrl elem30 (by omega) own109 (Recs.grow k2 (GX.trans' g109)) encL_one (by simp only [maxLen]; omega) (by omega) (by omega) fun o116 c118 w115 p1 p2 => ⟨_, _, _, rfl, fun w119 e119 => ?_⟩⟩
    have gX5 : Grow wX w115 := g109.trans p2 fun k hk hk' => by obtain ⟨_, e, rfl⟩ := hk'; cases e; exact absurd hk (by simp)
    have g119 : Grow w115 w119 := only_drew e119
    have gX9 : Grow wX w119 := gX5.trans' g119
    have G119 := GX.trans' gX9
    have z119 := gX9.size
    rw [List.nil_append, Nat.zero_add] at p1
    rw [Nat.zero_add]
    have own119 := p1.grow g119
    rcases List.eq_nil_or_concat rows with rfl | ⟨ra, x, hco⟩
    · exfalso; exact hz (by rw [← hrl]; rfl)
    rw [List.concat_eq_append] at hco
    subst hco
    have k1' : p.steps = ra.map (·.1) ++ [x.1] := by rw [← k1]; simp
    have hlen : p.steps.length = ra.length + 1 := by rw [k1']; simp
    have hx16 := h16 x.1 (by rw [k1']; simp)
    obtain ⟨g, gl, rfl, hg1, hg2, hg3, hgB⟩ := own119.head (by omega)
    have hidx : ((ra ++ [x]).flatMap encL)[((ra.length : Int)).toNat * 1]? = some (.slice x.2.1 x.1.length x.2.2) := by
      rw [toNat_cast, flat_get0 encL_len (ra ++ [x]) ra.length (by decide), List.getElem?_append_right (Nat.le_refl _), Nat.sub_self]; rfl
    have e1 : IntKind.wrap .i64 ((p.steps.length : Int) - 1) = ((ra.length : Nat) : Int) := by rw [wr (by omega)]; omega
    have hal : (addStep p.steps (l.drop 2)).length = p.steps.length := by rw [k1', addStep_append]; simp
    have hset : ∀ (o' : Option Addr) (n' c' : Nat), n' = x.1.length + 1 → setFrom ((ra ++ [x]).flatMap encL) (((ra.length : Int)).toNat * 1) [Value.slice o' n' c'] = (ra ++ [((x.1 ++ [l.drop 2], o', c') : LR)]).flatMap encL := by
      rintro o' _ c' rfl
      rw [toNat_cast, List.flatMap_append, List.flatMap_append]
      have e5 : ra.length * 1 = (ra.flatMap encL).length + 0 := by rw [flat_length encL_len, Nat.add_zero]
      rw [e5, setFrom_right]
      simp [encL, setFrom]
    have hxs := k3 x (by simp)
    have enc1 : ([] ++ x.1).flatMap encS ++ encS (l.drop 2) = (x.1 ++ [l.drop 2]).flatMap encS := by rw [List.nil_append, List.flatMap_append]; simp
    rw [e1]
    refine ⟨_, rfl, ⟨by omega, by omega⟩, _, _, _, own119.cell hidx, ⟨by omega, by omega⟩, fun w125 e125 => ?_, fun w215 e215 => ?_⟩
    · have g125 : Grow w119 w125 := only_alloc e125
      have z125 := hs_alloc e125
      have own125 : Own w125 (hs w119) 9 1 (some ⟨hs w119, 0, none⟩) 0 0 (([] : List Str).flatMap encS) := (show Row w125 (hs w119) 9 [] from Row.new e125).own (n := 0) (Nat.le_refl _) rfl (by simp [maxLen])
      refine ⟨kept_own own119 g125 (fun h => h), append_recs encS_len elem52 (by omega) own125 (Recs.grow hxs (G119.trans' g125)) encS_one (by simp only [maxLen]; omega) (by omega) (by omega) fun oa ca wa pa1 pa2 => ⟨_, _, _, rfl, fun wb eb => ?_⟩, fun w171 e171 => ?_⟩
      · have ga : Grow w119 wa := g125.trans pa2 fun k hk hk' => by obtain ⟨_, e, rfl⟩ := hk'; cases e; exact absurd hk (by simp)
        have gb : Grow wa wb := only_alloc eb
        have za := ga.size
        have zb := hs_alloc eb
        have rb : Row wb (hs wa) 9 (encS (l.drop 2)) := Row.new eb
        refine run_append_row elem52 (pa1.grow gb) rb rfl (by simp [encS, Value.oneCell']) (by simp only [maxLen]; omega) (by omega) (by omega) fun oE cE wE pE qE _ => ⟨_, _, _, rfl, ?_⟩
        rw [enc1] at pE
        have GE : Grow w119 wE := (ga.trans' gb).trans qE fun k hk hk' => by have := (pa1.base k hk').1; omega
        have ownE := own119.grow GE
        have zE := GE.size
        have RE := rX.grow (gX9.trans' GE)
        have QE := qX.grow (gX9.trans' GE)
        refine ⟨_, rfl, ⟨by omega, by omega⟩, ownE.there (by rw [toNat_cast]; omega), fun w140 e140 => ?_⟩
        have own140 := ownE.set e140 (by rw [toNat_cast]; simp only [List.length_cons, List.length_nil]; omega)
        rw [hset _ _ _ (by omega)] at own140
        have o140 : Only (fun k => k = g) wE w140 := only_setAdd e140
        have pE140 := pE.keep o140 fun k hk e => pE.apart ownE (by decide) k hk ⟨_, rfl, e.symm⟩
        have R140 := RE.keep o140 (by omega)
        have Q140 := QE.keep o140 (by omega)
        have G140 : Grow w w140 := (G119.trans' GE).trans o140 fun k hk e => by omega
        have z140 := o140.size
        refine ⟨R140.there (by simp), fun w142 e142 w144 e144 => ?_⟩
        have R142 := R140.set e142
        have o142 : Only (fun k => k = hs w) w140 w142 := only_set e142
        have g144 : Grow w142 w144 := only_drew e144
        have o144 : Only (fun k => k = hs w) w140 w144 := o142.grow g144
        have R144 := R142.grow g144
        have Q144 := Q140.keep o144 (by omega)
        have G144 : Grow w w144 := G140.trans o144 fun k hk e => by omega
        have z144 := o144.size
        have hL : Lol w144 (fun b => (A b ∧ b < hs w) ∨ (hs w3 ≤ b ∧ b < hs w144)) (some ⟨g, 0, none⟩) (addStep p.steps (l.drop 2)) := by
          refine ⟨ra ++ [((x.1 ++ [l.drop 2], oE, cE) : LR)], by rw [k1', addStep_append, List.map_append]; rfl, (own_recs' encL_len (by omega) (own140.keep o144 fun k hk e => by have := (own140.base k hk).1; omega)).mono fun k hk => .inr ?_, fun y hy => ?_⟩
          · have h1 := own140.base k hk
            exact ⟨by omega, by omega⟩
          · rcases List.mem_append.1 hy with hy | hy
            · exact Recs.mono (Recs.grow (k3 y (List.mem_append_left _ hy)) G144) fun k hk => .inl hk
            · rw [List.mem_singleton] at hy
              subst hy
              refine (own_recs' encS_len (by omega) (pE140.keep o144 fun k hk e => by have := (pE140.base k hk).1; omega)).mono fun k hk => .inr ?_
              have h1 := pE140.base k hk
              exact ⟨by omega, by omega⟩
        have rc : Calls Tryd.prog 18 #[plV p.name (some ⟨g, 0, none⟩) (addStep p.steps (l.drop 2)).length c118] w144 fun e w' => e = .returned (.int .i64 (rightL ⟨p.name, addStep p.steps (l.drop 2)⟩)) ∧ Grow w144 w' := right_c (some ⟨g, 0, none⟩) c118 ⟨p.name, addStep p.steps (l.drop 2)⟩ hfit w144 hL
        rw [hal] at rc
        refine ⟨_, R144.cell rfl, _, _, _, R144.cell rfl, _, R144.cell rfl, _, _, _, R144.cell rfl, rc.mono ?_⟩
        rintro _ w155 ⟨rfl, g155⟩
        have z155 := g155.size
        have hL' : Lol w155 (fun b => (A b ∧ b < hs w) ∨ (hs w3 ≤ b ∧ b < hs w155)) (some ⟨g, 0, none⟩) (addStep p.steps (l.drop 2)) := (hL.grow g155).mono fun b hb => hb.elim .inl fun h => .inr ⟨h.1, by omega⟩
        refine ⟨_, rfl, kept_only g155 R144.lt (fun h => h), fun hr => ret_var (Q144.grow g155) fun w' o' => ?_, fun hr => ret_var (Q144.grow g155) fun w' o' => More.no (by rw [em2, if_neg (dF hr)]) ((G144.trans' g155).trans o' fun k hk e => by omega)⟩
        have hy := More.yes (p' := ⟨p.name, addStep p.steps (l.drop 2)⟩) (o := some ⟨g, 0, none⟩) (c := c118) (A := A) (w := w) (by rw [em2, if_pos (dT hr)]) ((G144.trans' g155).trans o' fun k hk e => by omega) (out hL' o')
        have hal' : (Pl.mk p.name (addStep p.steps (l.drop 2))).steps.length = p.steps.length := hal
        rw [hal'] at hy
        exact hy
      · have g171 : Grow w125 w171 := only_alloc e171
        have z171 := hs_alloc e171
        have r171 : Row w171 (hs w125) 9 (encS (l.drop 2)) := Row.new e171
        refine ⟨kept_own own119 (g125.trans' g171 : Grow w119 w171) (fun h => h), append_recs encS_len elem52 (by omega) (own125.grow g171) (Recs.grow hxs ((G119.trans' g125).trans' g171)) encS_one (by simp only [maxLen]; omega) (by omega) (by omega) fun oa ca wa pa1 pa2 => ⟨_, _, _, rfl, ?_⟩⟩
        have ga : Grow w119 wa := (g125.trans' g171).trans pa2 fun k hk hk' => by obtain ⟨_, e, rfl⟩ := hk'; cases e; exact absurd hk (by simp)
        have ra' := r171.keep pa2 (fun k => by obtain ⟨_, e, k⟩ := k; cases e; simp at k; omega)
        have za := pa2.size
        refine run_append_row elem52 pa1 ra' rfl (by simp [encS, Value.oneCell']) (by simp only [maxLen]; omega) (by omega) (by omega) fun oE cE wE pE qE _ => ⟨_, _, _, rfl, ?_⟩
        rw [enc1] at pE
        have GE : Grow w119 wE := ga.trans qE fun k hk hk' => by have := (pa1.base k hk').1; omega
        have ownE := own119.grow GE
        have zE := GE.size
        have RE := rX.grow (gX9.trans' GE)
        have QE := qX.grow (gX9.trans' GE)
        refine ⟨_, rfl, ⟨by omega, by omega⟩, ownE.there (by rw [toNat_cast]; omega), fun w140 e140 => ?_⟩
        have own140 := ownE.set e140 (by rw [toNat_cast]; simp only [List.length_cons, List.length_nil]; omega)
        rw [hset _ _ _ (by omega)] at own140
        have o140 : Only (fun k => k = g) wE w140 := only_setAdd e140
        have pE140 := pE.keep o140 fun k hk e => pE.apart ownE (by decide) k hk ⟨_, rfl, e.symm⟩
        have R140 := RE.keep o140 (by omega)
        have Q140 := QE.keep o140 (by omega)
        have G140 : Grow w w140 := (G119.trans' GE).trans o140 fun k hk e => by omega
        have z140 := o140.size
        refine ⟨R140.there (by simp), fun w142 e142 w144 e144 => ?_⟩
        have R142 := R140.set e142
        have o142 : Only (fun k => k = hs w) w140 w142 := only_set e142
        have g144 : Grow w142 w144 := only_drew e144
        have o144 : Only (fun k => k = hs w) w140 w144 := o142.grow g144
        have R144 := R142.grow g144
        have Q144 := Q140.keep o144 (by omega)
        have G144 : Grow w w144 := G140.trans o144 fun k hk e => by omega
        have z144 := o144.size
        have hL : Lol w144 (fun b => (A b ∧ b < hs w) ∨ (hs w3 ≤ b ∧ b < hs w144)) (some ⟨g, 0, none⟩) (addStep p.steps (l.drop 2)) := by
          refine ⟨ra ++ [((x.1 ++ [l.drop 2], oE, cE) : LR)], by rw [k1', addStep_append, List.map_append]; rfl, (own_recs' encL_len (by omega) (own140.keep o144 fun k hk e => by have := (own140.base k hk).1; omega)).mono fun k hk => .inr ?_, fun y hy => ?_⟩
          · have h1 := own140.base k hk
            exact ⟨by omega, by omega⟩
          · rcases List.mem_append.1 hy with hy | hy
            · exact Recs.mono (Recs.grow (k3 y (List.mem_append_left _ hy)) G144) fun k hk => .inl hk
            · rw [List.mem_singleton] at hy
              subst hy
              refine (own_recs' encS_len (by omega) (pE140.keep o144 fun k hk e => by have := (pE140.base k hk).1; omega)).mono fun k hk => .inr ?_
              have h1 := pE140.base k hk
              exact ⟨by omega, by omega⟩
        have rc : Calls Tryd.prog 18 #[plV p.name (some ⟨g, 0, none⟩) (addStep p.steps (l.drop 2)).length c118] w144 fun e w' => e = .returned (.int .i64 (rightL ⟨p.name, addStep p.steps (l.drop 2)⟩)) ∧ Grow w144 w' := right_c (some ⟨g, 0, none⟩) c118 ⟨p.name, addStep p.steps (l.drop 2)⟩ hfit w144 hL
        rw [hal] at rc
        refine ⟨_, R144.cell rfl, _, _, _, R144.cell rfl, _, R144.cell rfl, _, _, _, R144.cell rfl, rc.mono ?_⟩
        rintro _ w155 ⟨rfl, g155⟩
        have z155 := g155.size
        have hL' : Lol w155 (fun b => (A b ∧ b < hs w) ∨ (hs w3 ≤ b ∧ b < hs w155)) (some ⟨g, 0, none⟩) (addStep p.steps (l.drop 2)) := (hL.grow g155).mono fun b hb => hb.elim .inl fun h => .inr ⟨h.1, by omega⟩
        refine ⟨_, rfl, kept_only g155 R144.lt (fun h => h), fun hr => ret_var (Q144.grow g155) fun w' o' => ?_, fun hr => ret_var (Q144.grow g155) fun w' o' => More.no (by rw [em2, if_neg (dF hr)]) ((G144.trans' g155).trans o' fun k hk e => by omega)⟩
        have hy := More.yes (p' := ⟨p.name, addStep p.steps (l.drop 2)⟩) (o := some ⟨g, 0, none⟩) (c := c118) (A := A) (w := w) (by rw [em2, if_pos (dT hr)]) ((G144.trans' g155).trans o' fun k hk e => by omega) (out hL' o')
        have hal' : (Pl.mk p.name (addStep p.steps (l.drop 2))).steps.length = p.steps.length := hal
        rw [hal'] at hy
        exact hy
    · have g215 : Grow w119 w215 := only_alloc e215
      have z215 := hs_alloc e215
      have r215 : Row w215 (hs w119) 9 (encS (l.drop 2)) := Row.new e215
      refine ⟨kept_own own119 g215 (fun h => h), fun w217 e217 => ?_⟩
      have g217 : Grow w215 w217 := only_alloc e217
      have z217 := hs_alloc e217
      have own217 : Own w217 (hs w119) 9 1 (some ⟨hs w215, 0, none⟩) 0 0 (([] : List Str).flatMap encS) := (show Row w217 (hs w215) 9 [] from Row.new e217).own (n := 0) (by omega) rfl (by simp [maxLen])
      refine ⟨kept_own own119 (g215.trans' g217 : Grow w119 w217) (fun h => h), append_recs encS_len elem52 (by omega) own217 (Recs.grow hxs ((G119.trans' g215).trans' g217)) encS_one (by simp only [maxLen]; omega) (by omega) (by omega) fun oa ca wa pa1 pa2 => ⟨_, _, _, rfl, ?_⟩⟩
      have ga : Grow w119 wa := (g215.trans' g217).trans pa2 fun k hk hk' => by obtain ⟨_, e, rfl⟩ := hk'; cases e; simp at hk; omega
      have ra' := (r215.grow g217).keep pa2 (fun k => by obtain ⟨_, e, k⟩ := k; cases e; simp at k; omega)
      have za := pa2.size
      refine run_append_row elem52 pa1 ra' rfl (by simp [encS, Value.oneCell']) (by simp only [maxLen]; omega) (by omega) (by omega) fun oE cE wE pE qE _ => ⟨_, _, _, rfl, ?_⟩
      rw [enc1] at pE
      have GE : Grow w119 wE := ga.trans qE fun k hk hk' => by have := (pa1.base k hk').1; omega
      have ownE := own119.grow GE
      have zE := GE.size
      have RE := rX.grow (gX9.trans' GE)
      have QE := qX.grow (gX9.trans' GE)
      refine ⟨_, rfl, ⟨by omega, by omega⟩, ownE.there (by rw [toNat_cast]; omega), fun w140 e140 => ?_⟩
      have own140 := ownE.set e140 (by rw [toNat_cast]; simp only [List.length_cons, List.length_nil]; omega)
      rw [hset _ _ _ (by omega)] at own140
      have o140 : Only (fun k => k = g) wE w140 := only_setAdd e140
      have pE140 := pE.keep o140 fun k hk e => pE.apart ownE (by decide) k hk ⟨_, rfl, e.symm⟩
      have R140 := RE.keep o140 (by omega)
      have Q140 := QE.keep o140 (by omega)
      have G140 : Grow w w140 := (G119.trans' GE).trans o140 fun k hk e => by omega
      have z140 := o140.size
      refine ⟨R140.there (by simp), fun w142 e142 w144 e144 => ?_⟩
      have R142 := R140.set e142
      have o142 : Only (fun k => k = hs w) w140 w142 := only_set e142
      have g144 : Grow w142 w144 := only_drew e144
      have o144 : Only (fun k => k = hs w) w140 w144 := o142.grow g144
      have R144 := R142.grow g144
      have Q144 := Q140.keep o144 (by omega)
      have G144 : Grow w w144 := G140.trans o144 fun k hk e => by omega
      have z144 := o144.size
      have hL : Lol w144 (fun b => (A b ∧ b < hs w) ∨ (hs w3 ≤ b ∧ b < hs w144)) (some ⟨g, 0, none⟩) (addStep p.steps (l.drop 2)) := by
        refine ⟨ra ++ [((x.1 ++ [l.drop 2], oE, cE) : LR)], by rw [k1', addStep_append, List.map_append]; rfl, (own_recs' encL_len (by omega) (own140.keep o144 fun k hk e => by have := (own140.base k hk).1; omega)).mono fun k hk => .inr ?_, fun y hy => ?_⟩
        · have h1 := own140.base k hk
          exact ⟨by omega, by omega⟩
        · rcases List.mem_append.1 hy with hy | hy
          · exact Recs.mono (Recs.grow (k3 y (List.mem_append_left _ hy)) G144) fun k hk => .inl hk
          · rw [List.mem_singleton] at hy
            subst hy
            refine (own_recs' encS_len (by omega) (pE140.keep o144 fun k hk e => by have := (pE140.base k hk).1; omega)).mono fun k hk => .inr ?_
            have h1 := pE140.base k hk
            exact ⟨by omega, by omega⟩
      have rc : Calls Tryd.prog 18 #[plV p.name (some ⟨g, 0, none⟩) (addStep p.steps (l.drop 2)).length c118] w144 fun e w' => e = .returned (.int .i64 (rightL ⟨p.name, addStep p.steps (l.drop 2)⟩)) ∧ Grow w144 w' := right_c (some ⟨g, 0, none⟩) c118 ⟨p.name, addStep p.steps (l.drop 2)⟩ hfit w144 hL
      rw [hal] at rc
      refine ⟨_, R144.cell rfl, _, _, _, R144.cell rfl, _, R144.cell rfl, _, _, _, R144.cell rfl, rc.mono ?_⟩
      rintro _ w155 ⟨rfl, g155⟩
      have z155 := g155.size
      have hL' : Lol w155 (fun b => (A b ∧ b < hs w) ∨ (hs w3 ≤ b ∧ b < hs w155)) (some ⟨g, 0, none⟩) (addStep p.steps (l.drop 2)) := (hL.grow g155).mono fun b hb => hb.elim .inl fun h => .inr ⟨h.1, by omega⟩
      refine ⟨_, rfl, kept_only g155 R144.lt (fun h => h), fun hr => ret_var (Q144.grow g155) fun w' o' => ?_, fun hr => ret_var (Q144.grow g155) fun w' o' => More.no (by rw [em2, if_neg (dF hr)]) ((G144.trans' g155).trans o' fun k hk e => by omega)⟩
      have hy := More.yes (p' := ⟨p.name, addStep p.steps (l.drop 2)⟩) (o := some ⟨g, 0, none⟩) (c := c118) (A := A) (w := w) (by rw [em2, if_pos (dT hr)]) ((G144.trans' g155).trans o' fun k hk e => by omega) (out hL' o')
      have hal' : (Pl.mk p.name (addStep p.steps (l.drop 2))).steps.length = p.steps.length := hal
      rw [hal'] at hy
      exact hy

theorem right_end {n : Nat} {p : Pl} (h0 : n = 0 → p = ⟨[], []⟩) (hp : 0 < n → Soon p) : rightL p = -1 ↔ 0 < n ∧ doneL p = true := by
  rcases Nat.eq_zero_or_pos n with h | h
  · rw [h0 h]
    constructor
    · intro k; cases k
    · intro k; omega
  · exact ⟨fun k => ⟨h, done_right (right_iff.1 k)⟩, fun k => right_iff.2 ((hp h).right k.2)⟩
theorem Lol.of_nil {w : World} {A : Nat → Prop} {o : Option Addr} {l : List (List Str)} (h : l = []) : Lol w A o l := by rw [h]; exact Lol.nil _ _ _
set_option maxHeartbeats 4000000 in
theorem refParse_c (s : Str) (hs' : s.length ≤ 1000000) (w : World) : Calls Tryd.prog 33 #[.string (BA s)] w (Gave w (readL s)) := by
  refine nf33 (BA s) w _ fun w1 e1 w3 e3 => ?_
  have g1 : Grow w w1 := only_alloc e1
  have g3 : Grow w1 w3 := only_alloc e3
  have z1 := hs_alloc e1
  have z3 := hs_alloc e3
  have q3 : Row w3 (hs w) 32 [.string (BA []), .slice none 0 0] := (Row.new e1).grow g3
  refine ⟨(Row.new e3).there (by simp), fun w5 e5 => ?_⟩
  obtain ⟨p5, g35⟩ := loc e3 e5 rfl
  have o35 : Only (fun k => k = hs w1) w3 w5 := only_set e5
  have q5 := q3.keep o35 (by omega)
  have z5 := o35.size
  have hbad : ∀ {k : Nat} {w' : World}, readL s = .bad k → Grow w w' → Gave w (readL s) (.returned (.tuple #[.agg #[.string (BA []), .slice none 0 0], .int .i64 (k : Int), .int .i64 2])) w' := fun e g => ⟨g, none, 0, by rw [e]; rfl, by rw [e]; exact Lol.nil _ _ _⟩
  refine ⟨fun n x y z w' => ∃ (f j i : Nat) (p : Pl), x = (f : Int) ∧ y = ((j + 1 : Nat) : Int) ∧ z = (i : Int) ∧ n = s.length - i ∧ f ≤ i ∧ i ≤ s.length ∧ j ≤ i ∧ (∀ c ∈ (s.drop f).take (i - f), c ≠ 10) ∧ finish j p (s.drop f) = readL s ∧ (j = 0 → p = ⟨[], []⟩) ∧ (0 < j → Soon p) ∧
      (∃ o c, Row w' (hs w1) 32 [.string (BA p.name), .slice o p.steps.length c] ∧ Lol w' (fun b => hs w3 ≤ b ∧ b < hs w') o p.steps) ∧ Row w' (hs w) 32 [.string (BA []), .slice none 0 0] ∧ Grow w w',
    ⟨_, 0, 0, 0, ⟨[], []⟩, rfl, rfl, rfl, rfl, Nat.le_refl _, Nat.zero_le _, Nat.le_refl _, by simp, by rw [List.drop_zero]; exact finish_read s, fun _ => rfl, fun k => by omega, ⟨none, 0, p5, Lol.nil _ _ _⟩, q5, g1.trans' g35⟩, ?_⟩
  rintro n9 _ w11 _ _ _ ⟨f, j, i, p, rfl, rfl, rfl, rfl, hfi, hi, hji, hno, hF, h0, hSoon, ⟨o, c, hr, hL⟩, hq, hG⟩
  rw [BA_size]
  have z11 := hq.lt
  have l11 := hr.lt
  refine ⟨fun hlt k17 hk17 => ?_, fun hge => ?_⟩
  · have hlt : i < s.length := by have := dT hlt; omega
    obtain ⟨ch, hc⟩ := at_some hlt
    obtain ⟨q1, q2⟩ := List.getElem?_eq_some_iff.1 hc
    have hsplit : s.drop f = (s.drop f).take (i - f) ++ ch :: s.drop (i + 1) := by
      have := List.take_append_drop (i - f) (s.drop f)
      rw [List.drop_drop, show f + (i - f) = i by omega, List.drop_eq_getElem_cons q1, q2] at this
      exact this.symm
    have htake : (s.drop f).take (i + 1 - f) = (s.drop f).take (i - f) ++ [ch] := by
      rw [show i + 1 - f = (i - f) + 1 by omega]
      have hl : i - f < (s.drop f).length := by rw [List.length_drop]; omega
      rw [List.take_succ_eq_append_getElem hl, List.getElem_drop]
      have : s[f + (i - f)] = ch := by
        rw [← q2]; congr 1; omega
      rw [this]
    have ei : IntKind.wrap .i64 ((i : Int) + 1) = ((i + 1 : Nat) : Int) := by rw [wr (by omega)]; omega
    have ej : IntKind.wrap .i64 (((j + 1 : Nat) : Int) + 1) = ((j + 1 + 1 : Nat) : Int) := by rw [wr (by omega)]; omega
    rw [ei] at hk17
    refine ⟨ch, ⟨by omega, by rw [toNat_cast, BA_at]; exact hc⟩, fun hnl => hk17 _ _ _ fun _ => ⟨_, ?_, f, j, i + 1, p, rfl, rfl, rfl, rfl, by omega, by omega, by omega, ?_, hF, h0, hSoon, ⟨o, c, hr, hL⟩, hq, hG⟩, fun hnl => ?_⟩
    · omega
    · have hnl := nT hnl
      rw [htake]
      intro c hc
      rcases List.mem_append.1 hc with hc | hc
      · exact hno c hc
      · rw [List.mem_singleton] at hc
        rw [hc]; rintro rfl
        exact hnl rfl
    have hnl := nF hnl
    have hch : ch = 10 := by
      have : ch.toNat = 10 := by omega
      exact UInt8.toNat_inj.1 (show ch.toNat = (10 : UInt8).toNat from this)
    subst hch
    refine ⟨⟨by omega, by omega⟩, ⟨by omega, by rw [toNat_cast]; omega⟩, fun k28 hk28 => ?_⟩
    rw [toNat_cast, toNat_cast, BA_extract]
    rw [ei, ej] at hk28
    generalize ht : (s.drop f).take (i - f) = t at *
    have htl : t.length ≤ s.length := by rw [← ht, List.length_take, List.length_drop]; omega
    rw [hsplit, finish_cut hno] at hF
    have good : ∀ p' w' o' c', acceptL j p t = some p' → Row w' (hs w1) 32 [.string (BA p'.name), .slice o' p'.steps.length c'] → Lol w' (fun b => hs w3 ≤ b ∧ b < hs w') o' p'.steps → Only (fun k => k = hs w1) w11 w' → k28 true w' := by
      intro p' w' o' c' ha hr' hL' ho'
      rw [ha] at hF
      refine hk28 w' true fun _ => ⟨fun _ => hk17 w' _ _ fun _ => ⟨_, ?_, i + 1, j + 1, i + 1, p', rfl, rfl, rfl, rfl, Nat.le_refl _, by omega, by omega, by simp, hF, fun k => by omega, fun _ => accept_soon ha hSoon, ⟨o', c', hr', hL'⟩, hq.keep ho' (by omega), hG.trans ho' fun k hk e => by omega⟩, fun k => by cases k⟩
      omega
    have stop : ∀ w', acceptL j p t = none → Only (fun k => k = hs w1) w11 w' → k28 false w' := by
      intro w' ha ho'
      rw [ha] at hF
      refine hk28 w' false fun _ => ⟨(fun k => by cases k), fun _ => ret_var (hq.keep ho' (by omega)) fun w36 o36 => hbad hF.symm ((hG.trans ho' fun k hk e => by omega).trans o36 fun k hk e => by omega)⟩
    refine ⟨fun h1 => ?_, fun h1 => ?_⟩
    · have hj : j = 0 := by have := dT h1; omega
      subst hj
      have hp0 := h0 rfl
      subst hp0
      have ea : acceptL 0 ⟨[], []⟩ t = if planW <+: t ∧ nameL (t.drop 5) = true then some ⟨t.drop 5, []⟩ else none := by unfold acceptL; rw [if_pos rfl]
      rw [BA_upto, BA_from, BA_size]
      refine ⟨fun h6 => ⟨⟨by omega, by have := dT h6; omega⟩, fun hpl w45 e45 => ⟨⟨by omega, by have := dT h6; omega⟩, ⟨by omega, by have := dT h6; omega⟩, (name_c (t.drop 5) (by rw [List.length_drop]; omega) w45).mono ?_⟩, fun hpl => stop w11 ?_ (Only.refl _ _)⟩, fun h6 => stop w11 ?_ (Only.refl _ _)⟩
      · have hpl : strEq (BA (t.take 5)) (BA planW) = true := hpl
        rw [strEq_BA] at hpl
        have hpl := dT hpl
        have g45 : Grow w11 w45 := only_drew e45
        rintro _ _ ⟨rfl, rfl⟩
        have hr45 := hr.grow g45
        refine ⟨_, rfl, fun hv => ⟨hr45.there (by simp), fun w51 e51 => ?_⟩, fun hv => ⟨hr45.there (by simp), fun w51 e51 => ?_⟩⟩
        · have r51 := hr45.set e51
          have o51 : Only (fun k => k = hs w1) w45 w51 := only_set e51
          exact good ⟨t.drop 5, []⟩ w51 o c (by rw [ea, if_pos (first_iff.1 ⟨by have := dT h6; omega, hpl, hv⟩)]) r51 (Lol.nil _ _ _) ((g45.only : Only (fun k => k = hs w1) w11 w45).trans' o51)
        · have o51 : Only (fun k => k = hs w1) w45 w51 := only_set e51
          refine stop w51 ?_ ((g45.only : Only (fun k => k = hs w1) w11 w45).trans' o51)
          rw [ea, if_neg]
          rintro ⟨-, k⟩
          have hv : nameL (t.drop 5) = false := hv
          rw [hv] at k; cases k
      · have hpl : strEq (BA (t.take 5)) (BA planW) = false := hpl
        rw [strEq_BA] at hpl
        rw [ea, if_neg]
        intro k
        exact dF hpl (first_iff.2 k).2.1
      · have h6 := dF h6
        rw [ea, if_neg]
        intro k
        have := (first_iff.2 k).1
        omega
    · have hj : 0 < j := by have := dF h1; omega
      have hS := hSoon hj
      refine ⟨_, hr.cell rfl, _, _, _, hr.cell rfl, (more_c o c p t hS (by omega) w11 hL).mono ?_⟩
      rintro _ w64 ⟨g64, s65, o66, n67, n68, rfl, hm⟩
      rw [more_accept hj hS] at hm ⊢
      have hr64 := hr.grow g64
      refine ⟨_, _, _, _, _, rfl, fun hb => ⟨hr64.there (by simp), fun w71 e71 => ?_⟩, fun hb => ⟨hr64.there (by simp), fun w71 e71 => ?_⟩⟩
      · cases ha : acceptL j p t with
        | none => rw [ha] at hb; cases hb
        | some p' =>
          obtain ⟨rfl, rfl, hL'⟩ := hm p' ha
          have r71 := hr64.set e71
          have o71 : Only (fun k => k = hs w1) w64 w71 := only_set e71
          have z64 := g64.size
          have z71 := o71.size
          refine good p' w71 o66 n68 ha r71 ((hL'.keep o71 fun b hb e => ?_).mono fun b hb => ?_) ((g64.only : Only (fun k => k = hs w1) w11 w64).trans' o71)
          · rcases hb with h | h <;> omega
          · rcases hb with h | h
            · exact ⟨h.1, by omega⟩
            · exact ⟨by have := hr.lt; omega, by omega⟩
      · have o71 : Only (fun k => k = hs w1) w64 w71 := only_set e71
        refine stop w71 ?_ ((g64.only : Only (fun k => k = hs w1) w11 w64).trans' o71)
        cases ha : acceptL j p t with
        | none => rfl
        | some p' => rw [ha] at hb; cases hb
  · have hil : i = s.length := by have := dF hge; omega
    subst hil
    have hno' : ∀ c ∈ s.drop f, c ≠ 10 := by
      have : (s.drop f).take (s.length - f) = s.drop f := List.take_of_length_le (by rw [List.length_drop]; omega)
      rwa [this] at hno
    rw [finish_none hno'] at hF
    refine ⟨fun hf => ret_var hq fun w' o' => hbad ?_ (hG.trans o' fun k hk e => by omega), fun hf => ?_⟩
    · have hf := dT hf
      rw [if_neg] at hF
      · exact hF.symm
      · rintro ⟨k, -⟩
        have := congrArg List.length k
        rw [List.length_drop, List.length_nil] at this
        omega
    have hf := dF hf
    have hnil : s.drop f = [] := List.drop_eq_nil_of_le (by omega)
    have hfit : p.Fit := by
      rcases Nat.eq_zero_or_pos j with h | h
      · rw [h0 h]
        exact ⟨by decide, by decide, fun l hl => by cases hl⟩
      · exact (hSoon h).fit
    refine ⟨_, hr.cell rfl, _, _, _, hr.cell rfl, (right_c o c p hfit w11 hL).mono ?_⟩
    rintro _ w90 ⟨rfl, g90⟩
    have hr90 := hr.grow g90
    have hq90 := hq.grow g90
    refine ⟨_, rfl, fun h1 => ret_var hq90 fun w' o' => hbad ?_ ((hG.trans' g90).trans o' fun k hk e => by omega), fun h1 => ⟨_, hr90.cell rfl, _, _, _, hr90.cell rfl, ret_var hq90 fun w' o' => ?_⟩⟩
    · have h1 := nT h1
      rw [if_neg] at hF
      · exact hF.symm
      · rintro ⟨-, k⟩
        exact h1 ((right_end h0 hSoon).2 k)
    · have h1 := nF h1
      rw [if_pos ⟨hnil, (right_end h0 hSoon).1 h1⟩] at hF
      rw [← hF]
      have z90 := g90.size
      have z' := o'.size
      exact ⟨(hG.trans' g90).trans o' fun k hk e => by omega, o, c, rfl, ((hL.grow g90).keep o' fun k hk e => by omega).mono fun k hk => ⟨by omega, by omega⟩⟩

theorem Lol.at' {w : World} {A : Nat → Prop} {o : Option Addr} {l : List (List Str)} (h : Lol w A o l) {i : Nat} (hi : i < l.length) :
    ∃ a oi ci, o = some a ∧ A a.block ∧ w.cell? (a.add ((i : Int).toNat * 1)) = some (.slice oi l[i].length ci) ∧ Strs w A oi l[i] := h.at (List.getElem?_eq_getElem hi)
set_option maxHeartbeats 1000000 in
theorem small45_c (o : Option Addr) (c : Nat) (p : Pl) (hf : p.Fit) (w : World) {A : Nat → Prop} (h : Lol w A o p.steps) :
    Calls Tryd.prog 15 #[plV p.name o p.steps.length c] w fun e w' => (∃ b, e = .returned (.bool b)) ∧ Grow w w' := by
  have h := h.low
  have hfs := hf.steps
  refine nf15 (BA p.name) o p.steps.length c w _ fun w1 e1 => ?_
  have r1 := Row.new e1
  have g1 : Grow w w1 := only_alloc e1
  have h1 := h.grow g1
  refine ⟨_, r1.cell rfl, fun n x y w' => ∃ i : Nat, y = (i : Int) ∧ i ≤ p.steps.length ∧ n = p.steps.length - i ∧ w1 = w', ⟨_, 0, rfl, Nat.zero_le _, rfl, rfl⟩, ?_⟩
  rintro n _ _ x _ ⟨i, rfl, hi, rfl, rfl⟩
  refine ⟨_, _, _, r1.cell rfl, fun hlt => ⟨fun h3 => ?_, fun h3 => ⟨fun k => ⟨_, _, _, r1.cell rfl, fun _ => ⟨⟨_, rfl⟩, g1⟩, fun _ => ⟨⟨_, rfl⟩, g1⟩⟩, fun _ => ⟨⟨_, rfl⟩, g1⟩⟩⟩, fun hge => ⟨fun k => ⟨_, _, _, r1.cell rfl, fun _ => ⟨⟨_, rfl⟩, g1⟩, fun _ => ⟨⟨_, rfl⟩, g1⟩⟩, fun _ => ⟨⟨_, rfl⟩, g1⟩⟩⟩
  have hlt : i < p.steps.length := by have := dT hlt; omega
  have hfl := hf.each _ (List.getElem_mem hlt)
  obtain ⟨a, oi, ci, ha, -, hc, hS⟩ := h1.at' hlt
  generalize p.steps[i] = l at *
  refine ⟨fun n x y w' => ∃ j : Nat, y = (j : Int) ∧ j ≤ l.length ∧ n = l.length - j ∧ w1 = w', ⟨_, 0, rfl, Nat.zero_le _, rfl, rfl⟩, ?_⟩
  rintro n _ _ x _ ⟨j, rfl, hj, rfl, rfl⟩
  refine ⟨_, _, _, r1.cell rfl, a, ha, ⟨by omega, by omega⟩, _, _, _, hc, fun hlt2 => ⟨fun h4 => ?_, fun h4 => ⟨_, by omega, i + 1, by rw [wr (by omega)]; omega, hlt, rfl, rfl⟩⟩, fun hge2 => ⟨_, by omega, i + 1, by rw [wr (by omega)]; omega, hlt, rfl, rfl⟩⟩
  have hlt2 : j < l.length := by have := dT hlt2; omega
  have h4 := dT h4
  obtain ⟨a2, ha2, -, hc2⟩ := Strs.at hS (List.getElem?_eq_getElem hlt2)
  generalize l[j] = s at *
  refine ⟨_, _, _, r1.cell rfl, a, ha, ⟨by omega, by omega⟩, _, _, _, hc, a2, ha2, ⟨by omega, by omega⟩, _, hc2, _, by omega, j + 1, by rw [wr (by omega)]; omega, hlt2, rfl, rfl⟩
theorem back_c (name : Str) (o : Option Addr) (n c : Nat) (w : World) : Calls Tryd.prog 32 #[plV name o n c] w fun e w' => e = .returned (plV name o n c) ∧ Grow w w' := by
  refine nf32 (BA name) o n c w _ fun w1 e1 w3 e3 => ?_
  have r3 : Row w3 (hs w) 35 [.string (BA name), .slice o n c] := (Row.new e1).grow (only_alloc e3)
  have g1 : Grow w w1 := only_alloc e1
  refine ⟨_, r3.cell rfl, _, _, _, r3.cell rfl, (Row.new e3).there (by simp), fun w9 e9 => ?_⟩
  obtain ⟨r9, g9⟩ := loc e3 e9 rfl
  exact ⟨_, r9.cell rfl, _, _, _, r9.cell rfl, rfl, g1.trans' g9⟩
def callIn : Str := [99, 97, 108, 108, 32, 105, 110]
def openHall : Str := [111, 112, 101, 110, 32, 104, 97, 108, 108]
def hallP : Pl := ⟨[104, 97, 108, 108], [[callIn], [openHall]]⟩
theorem hall_c (w : World) : Calls Tryd.prog 34 #[] w fun e w' => ∃ o c, e = .returned (plV hallP.name o hallP.steps.length c) ∧ Lol w' (fun b => hs w ≤ b ∧ b < hs w') o hallP.steps ∧ Grow w w' := by
  refine nf34 w _ fun w1 e1 w3 e3 w5 e5 w7 e7 => ?_
  have g1 : Grow w w1 := only_alloc e1
  have g3 : Grow w1 w3 := only_alloc e3
  have g5 : Grow w3 w5 := only_alloc e5
  have g7 : Grow w5 w7 := only_alloc e7
  have z1 := hs_alloc e1
  have z3 := hs_alloc e3
  have z5 := hs_alloc e5
  have z7 := hs_alloc e7
  have r7 : Row w7 (hs w) 32 [.string (BA []), .slice none 0 0] := ((((Row.new e1).grow g3).grow g5).grow g7)
  refine ⟨r7.there (by simp), fun w9 e9 => ?_⟩
  have r9 := r7.set e9
  have o9 : Only (fun k => k = hs w) w7 w9 := only_set e9
  have z9 := o9.size
  have a1 : Row w9 (hs w1) 9 (([callIn] : List Str).flatMap encS) := ((((show Row w3 (hs w1) 9 (([callIn] : List Str).flatMap encS) from Row.new e3).grow g5).grow g7)).keep o9 (by omega)
  have a3 : Row w9 (hs w3) 9 (([openHall] : List Str).flatMap encS) := (((show Row w5 (hs w3) 9 (([openHall] : List Str).flatMap encS) from Row.new e5).grow g7)).keep o9 (by omega)
  have a5 : Row w9 (hs w5) 52 (([([callIn], some ⟨hs w1, 0, none⟩, 1), ([openHall], some ⟨hs w3, 0, none⟩, 1)] : List LR).flatMap encL) := (show Row w7 (hs w5) 52 (([([callIn], some ⟨hs w1, 0, none⟩, 1), ([openHall], some ⟨hs w3, 0, none⟩, 1)] : List LR).flatMap encL) from Row.new e7).keep o9 (by omega)
  refine ⟨_, r9.cell rfl, _, _, _, r9.cell rfl, _, _, rfl, ⟨[([callIn], some ⟨hs w1, 0, none⟩, 1), ([openHall], some ⟨hs w3, 0, none⟩, 1)], rfl, ?_, fun x hx => ?_⟩, (((g1.trans' g3).trans' g5).trans' g7).trans o9 fun k hk e => by omega⟩
  · refine (own_recs' encL_len (by omega) (a5.own (B := hs w5) (n := 2) (Nat.le_refl _) rfl (by simp [maxLen]))).mono fun b hb => ?_
    obtain ⟨_, e, rfl⟩ := hb
    cases e
    exact ⟨by show hs w ≤ hs w5; omega, by show hs w5 < _; omega⟩
  · simp only [List.mem_cons, List.not_mem_nil, or_false] at hx
    rcases hx with rfl | rfl
    · refine (own_recs' encS_len (by omega) (a1.own (B := hs w1) (n := 1) (Nat.le_refl _) rfl (by simp [maxLen]))).mono fun b hb => ?_
      obtain ⟨_, e, rfl⟩ := hb
      cases e
      exact ⟨by show hs w ≤ hs w1; omega, by show hs w1 < _; omega⟩
    · refine (own_recs' encS_len (by omega) (a3.own (B := hs w3) (n := 1) (Nat.le_refl _) rfl (by simp [maxLen]))).mono fun b hb => ?_
      obtain ⟨_, e, rfl⟩ := hb
      cases e
      exact ⟨by show hs w ≤ hs w3; omega, by show hs w3 < _; omega⟩

theorem hall_right : rightL hallP = -1 := by kernel_rfl
theorem hall_Right : Right hallP := right_iff.1 hall_right
theorem hall_fit : hallP.Fit := ⟨by decide, by decide, by decide⟩
theorem hall_fine : Fine hallP.steps := ⟨by decide, by decide, by decide⟩
theorem hall_ok : okR hallP 10 := ⟨hall_right, by decide, by decide⟩
def nilP : Pl := ⟨[], []⟩
theorem nil_not (c : Int) : ¬ okR nilP c := fun h => by have := h.1; cases this
theorem nil_fit : nilP.Fit := ⟨by decide, by decide, by decide⟩
def hallText : Str := [112, 108, 97, 110, 32, 104, 97, 108, 108, 10, 108, 101, 118, 101, 108, 32, 49, 10, 45, 32, 99, 97, 108, 108, 32, 105, 110, 10, 108, 101, 118, 101, 108, 32, 50, 10, 45, 32, 111, 112, 101, 110, 32, 104, 97, 108, 108, 10]
theorem hall_text : textL hallP = hallText := by kernel_rfl
def w0 : Rn := startR hallP 10 false
def w1' : Rn := (setR w0 2 0).1
def w2' : Rn := (setR w1' 0 5).1
def w3' : Rn := (setR w2' 1 14).1
def w4' : Rn := (setR w3' 1 15).1
theorem awA : (setR w0 2 0).2 = [callIn, openHall] := by kernel_rfl
theorem awB : (setR w1' 0 5).2 = [] := by kernel_rfl
theorem awC : w3'.level = 2 := by kernel_rfl
theorem awD : openL w4' = [callIn] := by kernel_rfl
theorem awE : w4'.level = 1 := by kernel_rfl
theorem awF : doneR w4' openHall = (w4', 4) := by
  have h : ¬ (openHall ∈ w4'.steps.flatten ∧ w4'.f openHall = true) := by
    rintro ⟨-, k⟩
    have : w4'.f openHall = false := by kernel_rfl
    rw [this] at k; cases k
  unfold doneR
  rw [if_neg h]
theorem awG : (doneR w4' callIn).2 = 0 := by kernel_rfl
theorem st0 : w0.steps = hallP.steps := rfl
theorem st1 : w1'.steps = hallP.steps := by kernel_rfl
theorem st2 : w2'.steps = hallP.steps := by kernel_rfl
theorem st3 : w3'.steps = hallP.steps := by kernel_rfl
theorem st4 : w4'.steps = hallP.steps := by kernel_rfl
theorem lv1 : w1'.level = 2 := by kernel_rfl
theorem lv2 : w2'.level = 2 := by kernel_rfl
def fireI : Inc := ⟨4, 1, [102, 105, 114, 101], none, 0, 0, 0, 0, none, 0, 0, none, 0, 0, 0, false⟩
def freeU : Un := ⟨0, 1, 0, 1, 0, 0, 0, 0, 0, 0⟩
theorem fire_1 : levelOf (missing [fireI] [] []) = 1 := by kernel_rfl
theorem fire_0 : levelOf (missing [fireI] [freeU] []) = 0 := by kernel_rfl
theorem encInc_len (x : Inc) : (encInc x).length = 10 := rfl
theorem encUn_len (x : Un) : (encUn x).length = 10 := rfl
theorem few_nil : Fews [] := ⟨by decide, fun _ h => by cases h⟩
theorem plns_nil (w : World) (A : Nat → Prop) (o : Option Addr) : Plns w A o [] := ⟨[], rfl, Recs.nil _ _ _ _, fun _ h => by cases h⟩
theorem row_recs {α : Type} {f : α → List Value} {k : Nat} (hk : ∀ m, (f m).length = k) (h0 : 0 < k) {w : World} {b T : Nat} {xs : List α} (hx : xs.length ≤ 1000) (r : Row w b T (xs.flatMap f)) : Recs w (fun x => x = b) (some ⟨b, 0, none⟩) k (xs.map f) :=
  (own_recs' hk h0 (r.own (B := b) (n := xs.length) (Nat.le_refl _) (flat_length hk _) (by simp only [maxLen]; omega))).mono fun x hx => by
    obtain ⟨_, e, rfl⟩ := hx
    cases e; rfl
set_option maxHeartbeats 8000000 in
theorem awake_c (w : World) : Calls Tryd.prog 11 #[] w fun e w' => e = .returned (.bool true) ∧ Grow w w' := by
  refine nf11 w _ ((hall_c w).mono ?_)
  rintro _ w2 ⟨o4, c4, rfl, hL2, g2⟩
  refine ⟨_, _, _, _, rfl, (own_c o4 c4 hallP hall_fit w2 hL2).mono ?_⟩
  rintro _ w8 ⟨o10, c10, rfl, hL8, g8⟩
  have G8 := g2.trans' g8
  refine ⟨_, _, _, _, rfl, (new_c o10 c10 hallP 10 false hall_fit w8 hL8).mono ?_⟩
  rintro _ w14 ⟨g14, hn⟩
  rcases hn with ⟨-, t, gs, D, rfl, hR, hD⟩ | ⟨hn, -⟩
  rotate_left
  · exact absurd hall_ok hn
  have G14 := G8.trans' g14
  refine ⟨_, _, rfl, (new_c none 0 nilP 10 false nil_fit w14 (Lol.nil w14 (fun _ => False) none)).mono ?_⟩
  rintro _ w18 ⟨g18, hn⟩
  rcases hn with ⟨hn, -⟩ | ⟨-, rfl⟩
  · exact absurd hn (nil_not 10)
  have G18 := G14.trans' g18
  have R18 : RunAt w18 (hs w8) t gs D w0 := hR.grow g18
  have z8 := G8.size
  have tin : ∀ b, InRun t gs b → hs w8 ≤ b := fun b hb => (hR.lo b hb).1
  have up : ∀ {a b : World}, Grow w a → Only (InRun t gs) a b → Grow w b := fun g o => g.trans o fun b hb e => by have := tin b e; omega
  have tlt : ∀ b, InRun t gs b → b < hs w18 := fun b hb => (R18.lo b hb).2
  refine ⟨_, _, rfl, fun k => (by cases k), fun _ => ⟨fun k => (by cases k), fun _ => (setLevel_c 2 0 (hall_fine : Fine w0.steps) (by decide) R18).mono ?_⟩⟩
  rintro _ w26 ⟨o27, c29, rfl, hS26, R26, o26⟩
  have R26 : RunAt w26 (hs w8) t gs D w1' := R26
  rw [awA] at hS26 ⊢
  have G26 := up G18 o26
  have z26 := o26.size
  refine ⟨_, _, _, rfl, (setLevel_c 0 5 (by rw [st1]; exact hall_fine) (by rw [lv1, st1]; decide) R26).mono ?_⟩
  rintro _ w31 ⟨o32, c34, rfl, hS31, R31, o31⟩
  have R31 : RunAt w31 (hs w8) t gs D w2' := R31
  rw [awB] at hS31 ⊢
  have G31 := up G26 o31
  have z31 := o31.size
  refine ⟨_, _, _, rfl, (setLevel_c 1 14 (by rw [st2]; exact hall_fine) (by rw [lv2, st2]; decide) R31).mono ?_⟩
  rintro _ w36 ⟨o37, c39, rfl, -, R36, o36⟩
  have R36 : RunAt w36 (hs w8) t gs D w3' := R36
  have G36 := up G31 o36
  have z36 := o36.size
  refine ⟨_, _, _, rfl, (level_c R36).mono ?_⟩
  rintro _ _ ⟨rfl, rfl⟩
  rw [awC]
  refine ⟨_, rfl, (setLevel_c 1 15 (by rw [st3]; exact hall_fine) (by rw [awC, st3]; decide) R36).mono ?_⟩
  rintro _ w44 ⟨o45, c47, rfl, -, R44, o44⟩
  have R44 : RunAt w44 (hs w8) t gs D w4' := R44
  have G44 := up G36 o44
  have z44 := o44.size
  refine ⟨_, _, _, rfl, (openSteps_c (by rw [st4]; exact hall_fine) R44).mono ?_⟩
  rintro _ w49 ⟨o50, c52, rfl, hS49, g49⟩
  rw [awD] at hS49 ⊢
  have R49 := R44.grow g49
  have G49 := G44.trans' g49
  have z49 := g49.size
  refine ⟨_, _, _, rfl, (hall_c w49).mono ?_⟩
  rintro _ w54 ⟨o56, c58, rfl, hL54, g54⟩
  refine ⟨_, _, _, _, rfl, (own_c o56 c58 hallP hall_fit w54 hL54).mono ?_⟩
  rintro _ w60 ⟨o62, c64, rfl, hL60, g60⟩
  refine ⟨_, _, _, _, rfl, (format_c o62 c64 hallP hall_fit w60 hL60).mono ?_⟩
  rintro _ w66 ⟨rfl, g66⟩
  have hte : textE hallP = .tuple #[.string (BA hallText), .int .i64 0] := by unfold textE; rw [if_pos hall_right, if_pos hall_right, hall_text]
  rw [hte]
  refine ⟨_, _, rfl, (parse_c hallText (by decide) w66).mono ?_⟩
  have hrd : readL hallText = .plan hallP := by rw [← hall_text]; exact read_of hall_Right
  rw [hrd]
  rintro _ w70 ⟨g70, o72, c74, rfl, hL70⟩
  have gA := ((g54.trans' g60).trans' g66).trans' g70
  refine ⟨_, _, _, _, _, _, rfl, fun w77 e77 => ⟨(Row.new e77).there (by simp), fun w79 e79 w81 e81 => ⟨fun _ w84 e84 => ?_, fun k => (by cases k)⟩⟩⟩
  obtain ⟨r79, g79⟩ := loc e77 e79 rfl
  have g81 : Grow w79 w81 := only_alloc e81
  have g84 : Grow w81 w84 := only_alloc e84
  have i81 : Row w81 (hs w79) 74 (([fireI] : List Inc).flatMap encInc) := Row.new e81
  have r84 : Row w84 (hs w81) 9 (([callIn, openHall] : List Str).flatMap encS) := Row.new e84
  have gB := ((gA.trans' g79).trans' g81).trans' g84
  have z70 := gA.size
  have z79 := g79.size
  have z81 := hs_alloc e81
  have z84 := hs_alloc e84
  have R84 := R49.grow gB
  have tW : ∀ {a b : World} {S : Nat → Prop}, (∀ x, S x → hs w18 ≤ x) → Only (InRun t gs) a b → ∀ x, S x → ¬ InRun t gs x := fun hS _ x hx k => by have := hS x hx; have := tlt x k; omega
  have sA : Strs w84 (fun b => hs w18 ≤ b ∧ b < hs w26) o27 [callIn, openHall] := by
    have no : ∀ b, hs w18 ≤ b ∧ b < hs w26 → ¬ InRun t gs b := fun b hb k => by have := tlt b k; omega
    exact Recs.grow (Recs.grow (Recs.keep (Recs.keep (Recs.keep hS26 o31 no) o36 no) o44 no) g49) gB
  refine (texts_c o27 _ c29 _ [callIn, openHall] [callIn, openHall] (by decide) w84 sA (row_recs encS_len (by omega) (by decide) r84)).mono ?_
  rintro _ w87 ⟨rfl, g87⟩
  refine ⟨_, rfl, fun _ => ⟨fun _ => ⟨fun _ => (level_c (R84.grow g87)).mono ?_, fun k => absurd rfl (dF k)⟩, fun k => absurd rfl (dF k)⟩, fun k => (by rw [decide_eq_true rfl] at k; cases k)⟩
  rintro _ _ ⟨rfl, rfl⟩
  rw [awE]
  refine ⟨_, rfl, fun _ w96 e96 => ?_, fun k => absurd rfl (dF k)⟩
  have g96 : Grow w87 w96 := only_alloc e96
  have r96 : Row w96 (hs w87) 9 (([callIn] : List Str).flatMap encS) := Row.new e96
  have gC := (gB.trans' g87).trans' g96
  refine (texts_c o50 _ c52 _ [callIn] [callIn] (by decide) w96 (Recs.grow hS49 gC) (row_recs encS_len (by omega) (by decide) r96)).mono ?_
  rintro _ w99 ⟨rfl, g99⟩
  have R99 := ((R84.grow g87).grow g96).grow g99
  have G99 := (G49.trans' gC).trans' g99
  have z99 := (gC.trans' g99).size
  refine ⟨_, rfl, fun _ => (complete_c openHall (by rw [st4]; exact hall_fine) R99).mono ?_, fun k => (by rw [decide_eq_true rfl] at k; cases k)⟩
  rw [awF]
  rintro _ w103 ⟨rfl, R103, o103⟩
  refine ⟨_, rfl, fun _ => (complete_c callIn (by rw [st4]; exact hall_fine) R103).mono ?_, fun k => absurd rfl (dF k)⟩
  rintro _ w107 ⟨rfl, R107, o107⟩
  rw [awG]
  have oA := o103.trans' o107
  have G107 := up G99 oA
  have z107 := oA.size
  have pn : ¬ InRun t gs (hs w70) := fun k => by have := tlt _ k; omega
  have p107 := ((((r79.grow g81).grow g84).grow ((g87.trans' g96).trans' g99))).keep oA pn
  have hL107 : Lol w107 (fun b => hs w66 ≤ b ∧ b < hs w70) o72 hallP.steps := (((hL70.grow g79).grow ((g81.trans' g84).trans' ((g87.trans' g96).trans' g99)))).keep oA fun b hb k => by have := tlt b k; have := (g54.trans' g60).trans' g66 |>.size; omega
  refine ⟨_, rfl, fun _ => ⟨fun _ => ⟨fun _ => ⟨_, p107.cell rfl, _, _, _, p107.cell rfl, (back_c hallP.name o72 hallP.steps.length c74 w107).mono ?_⟩, fun k => absurd rfl (dF k)⟩, fun k => ?_⟩, fun k => absurd rfl (dF k)⟩
  rotate_left
  · have k : strEq (BA hallText) (BA hallText) = false := k
    rw [strEq_BA] at k
    exact absurd rfl (dF k)
  rintro _ w117 ⟨rfl, g117⟩
  refine ⟨_, _, _, _, rfl, (hall_c w117).mono ?_⟩
  rintro _ w123 ⟨o125, c127, rfl, hL123, g123⟩
  refine ⟨_, _, _, _, rfl, (same_c o72 o125 c74 c127 hallP hallP hall_fit w123 (hL107.grow (g117.trans' g123)) hL123).mono ?_⟩
  rintro _ w129 ⟨rfl, g129⟩
  have gD := (g117.trans' g123).trans' g129
  have i129 : Row w129 (hs w79) 74 (([fireI] : List Inc).flatMap encInc) := ((((i81.grow g84).grow ((g87.trans' g96).trans' g99))).keep oA fun k => by have := tlt _ k; omega).grow gD
  refine ⟨_, rfl, fun _ => ⟨fun _ => ⟨fun _ => (surgeLevel_c (some ⟨hs w79, 0, none⟩) none none 1 0 0 [fireI] [] [] (by decide) (by decide) few_nil w129 (row_recs encInc_len (by omega) (by decide) i129) (Recs.nil _ _ _ _) (plns_nil _ _ _)).mono ?_, fun k => absurd rfl (dF k)⟩, fun k => absurd rfl (dF k)⟩, fun k => (by rw [decide_eq_true rfl] at k; cases k)⟩
  rintro _ w135 ⟨rfl, g135⟩
  rw [fire_1]
  refine ⟨_, rfl, fun _ w138 e138 => ?_, fun k => absurd rfl (dF k)⟩
  have g138 : Grow w135 w138 := only_alloc e138
  have u138 : Row w138 (hs w135) 29 (([freeU] : List Un).flatMap encUn) := Row.new e138
  have i138 := (i129.grow g135).grow g138
  refine (surgeLevel_c (some ⟨hs w79, 0, none⟩) (some ⟨hs w135, 0, none⟩) none 1 1 0 [fireI] [freeU] [] (by decide) (by decide) few_nil w138 (A := fun b => b = hs w79 ∨ b = hs w135) ((row_recs encInc_len (by omega) (by decide) i138).mono fun b hb => .inl hb) ((row_recs encUn_len (by omega) (by decide) u138).mono fun b hb => .inr hb) (plns_nil _ _ _)).mono ?_
  rintro _ w141 ⟨rfl, g141⟩
  rw [fire_0]
  refine ⟨_, rfl, fun _ => (hall_c w141).mono ?_, fun k => absurd rfl (dF k)⟩
  rintro _ w145 ⟨o147, c149, rfl, hL145, g145⟩
  refine ⟨_, _, _, _, rfl, (own_c o147 c149 hallP hall_fit w145 hL145).mono ?_⟩
  rintro _ w151 ⟨o153, c155, rfl, hL151, g151⟩
  refine ⟨_, _, _, _, rfl, (validate_c o153 c155 hallP hall_fit w151 hL151).mono ?_⟩
  rintro _ w157 ⟨rfl, g157⟩
  rw [hall_right]
  refine ⟨_, rfl, fun _ => ⟨rfl, (G107.trans' gD).trans' ((((g135.trans' g138).trans' g141).trans' g145).trans' (g151.trans' g157))⟩, fun k => absurd rfl (dF k)⟩
end Go.Proofs.YtolpmdmcbciccaaDoor
