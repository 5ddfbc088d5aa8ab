/- Contracts: names and steps of plans; lists of texts; equality. -/
import Derived.Test.YtolpmdmcbciccaaDoorNf1
import Derived.Test.YtolpmdmcbciccaaDoorNfR
import Derived.Test.YtolpmdmcbciccaaDoorVb
namespace Go.Proofs.YtolpmdmcbciccaaDoor
open Go Go.Nf

/-! ### texts -/
abbrev BA (l : Str) : ByteArray := ByteArray.mk l.toArray
theorem BA_size (l : Str) : (BA l).size = l.length := by show l.toArray.size = _; simp
theorem sb_BA (l : Str) : sb (BA l) = l := by unfold sb; simp
theorem BA_sb (s : ByteArray) : BA (sb s) = s := sb_inj (sb_BA _)
theorem BA_at (l : Str) (i : Nat) : byteAt (BA l) i = l[i]? := by rw [byteAt_sb, sb_BA]
theorem BA_inj {a b : Str} : BA a = BA b ↔ a = b := ⟨fun h => by rw [← sb_BA a, h, sb_BA], fun h => by rw [h]⟩
theorem strEq_iff {s t : ByteArray} : strEq s t = true ↔ s = t := by
  unfold strEq
  rw [beq_toListBytes, ByteArray.toList_eq, ByteArray.toList_eq, beq_iff_eq]
  exact ⟨fun h => sb_inj h, fun h => by rw [h]⟩
theorem strEq_BA (a b : Str) : strEq (BA a) (BA b) = decide (a = b) := by
  by_cases h : a = b
  · rw [h, strEq_iff.2 rfl, decide_eq_true rfl]
  · rw [decide_eq_false h]
    cases hs : strEq (BA a) (BA b) with
    | false => rfl
    | true => exact absurd (BA_inj.1 (strEq_iff.1 hs)) h
/-- a scan over a text, byte by byte -/
def Scan (p : UInt8 → Bool) (s : Str) (w : World) (n : Nat) (x : Int) (w' : World) : Prop := ∃ i : Nat, x = (i : Int) ∧ i ≤ s.length ∧ n = s.length - i ∧ (∀ j, j < i → ∀ c, s[j]? = some c → p c = true) ∧ w = w'
theorem Scan.start (p : UInt8 → Bool) (s : Str) (w : World) : ∃ n, Scan p s w n 0 w := ⟨_, 0, rfl, Nat.zero_le _, rfl, fun j hj => by omega, rfl⟩
theorem Scan.next {p : UInt8 → Bool} {s : Str} {w : World} {i : Nat} {c : UInt8} (hs : s.length ≤ 9223372036854775807) (hi : i < s.length) (h : ∀ j, j < i → ∀ c, s[j]? = some c → p c = true) (hc : s[i]? = some c) (hp : p c = true) :
    ∃ n, n < s.length - i ∧ Scan p s w n (IntKind.wrap .i64 ((i : Int) + 1)) w := by
  refine ⟨_, by omega, i + 1, by rw [wr (by omega)]; omega, hi, rfl, fun j hj d hd => ?_, rfl⟩
  by_cases e : j = i
  · subst e; rw [hc] at hd; cases hd; exact hp
  · exact h j (by omega) d hd
theorem all_of {p : UInt8 → Bool} {s : Str} (h : ∀ j, j < s.length → ∀ c, s[j]? = some c → p c = true) : s.all p = true := by
  rw [List.all_eq_true]
  intro c hc
  obtain ⟨j, hj, e⟩ := List.mem_iff_getElem.1 hc
  exact h j hj c (by rw [List.getElem?_eq_getElem hj, e])
theorem not_all {p : UInt8 → Bool} {s : Str} {j : Nat} {c : UInt8} (h : s[j]? = some c) (hp : p c = false) : s.all p = false := by
  rw [List.all_eq_false]
  exact ⟨c, List.mem_of_getElem? h, by rw [hp]; exact Bool.false_ne_true⟩
theorem at_some {s : Str} {i : Nat} (h : i < s.length) : ∃ c, s[i]? = some c := ⟨_, List.getElem?_eq_getElem h⟩

theorem validName_c (s : Str) (w : World) : Calls Tryd.prog 40 #[.string (BA s)] w fun e w' => e = .returned (.bool (nameL s)) ∧ w = w' := by
  refine nf40 (BA s) w _ ?_
  rw [BA_size]
  have no : ∀ {i : Nat} {c : UInt8}, s[i]? = some c → okN c = false → nameL s = false := fun h hp => by unfold nameL; rw [not_all h hp]; simp
  refine ⟨fun h1 => ⟨ret_bool ?_, rfl⟩, fun h1 => ⟨fun h2 => ⟨ret_bool ?_, rfl⟩, fun h2 => ⟨Scan okN s w, Scan.start _ _ _, ?_⟩⟩⟩
  · have := dT h1; unfold nameL; rw [decide_eq_false (by omega : ¬ 1 ≤ s.length)]; rfl
  · have := dT h2; unfold nameL; rw [decide_eq_false (by omega : ¬ s.length ≤ 40)]; simp
  rintro n _ _ x ⟨i, rfl, hi, rfl, hI, rfl⟩
  have h1 := dF h1
  have h2 := dF h2
  refine ⟨fun hlt => ?_, fun hge => ⟨ret_bool ?_, rfl⟩⟩
  · have hlt : i < s.length := by have := dT hlt; omega
    obtain ⟨c, hc⟩ := at_some hlt
    refine ⟨c, ⟨by omega, by rw [toNat_cast, BA_at]; exact hc⟩, fun h3 => ⟨fun h4 => ⟨fun h5 => ⟨ret_bool ?_, rfl⟩, fun h5 => ⟨fun h6 => ⟨ret_bool ?_, rfl⟩, fun h6 => Scan.next (by omega) hlt hI hc ?_⟩⟩, fun h4 => ⟨fun h7 => ⟨fun h5 => ⟨ret_bool ?_, rfl⟩, fun h5 => ⟨fun h6 => ⟨ret_bool ?_, rfl⟩, fun h6 => Scan.next (by omega) hlt hI hc ?_⟩⟩, fun h7 => Scan.next (by omega) hlt hI hc ?_⟩⟩, fun h3 => Scan.next (by omega) hlt hI hc ?_⟩
    · have := nT h3; have := dT h4; have := dT h5
      exact (no hc (by unfold okN; rw [decide_eq_false (by omega), decide_eq_false (by omega : ¬ 97 ≤ c.toNat), decide_eq_false (by omega : ¬ 48 ≤ c.toNat)]; rfl)).symm
    · have := nT h3; have := dT h4; have := dT h6
      exact (no hc (by unfold okN; rw [decide_eq_false (by omega), decide_eq_false (by omega : ¬ 97 ≤ c.toNat), decide_eq_false (by omega : ¬ c.toNat ≤ 57)]; simp)).symm
    · have := dF h5; have := dF h6
      unfold okN; rw [decide_eq_true (by omega : 48 ≤ c.toNat), decide_eq_true (by omega : c.toNat ≤ 57)]; simp
    · have := nT h3; have := dT h7; have := dT h5
      exact (no hc (by unfold okN; rw [decide_eq_false (by omega), decide_eq_false (by omega : ¬ c.toNat ≤ 122), decide_eq_false (by omega : ¬ 48 ≤ c.toNat)]; simp)).symm
    · have := nT h3; have := dT h7; have := dT h6
      exact (no hc (by unfold okN; rw [decide_eq_false (by omega), decide_eq_false (by omega : ¬ c.toNat ≤ 122), decide_eq_false (by omega : ¬ c.toNat ≤ 57)]; simp)).symm
    · have := dF h5; have := dF h6
      unfold okN; rw [decide_eq_true (by omega : 48 ≤ c.toNat), decide_eq_true (by omega : c.toNat ≤ 57)]; simp
    · have := dF h4; have := dF h7
      unfold okN; rw [decide_eq_true (by omega : 97 ≤ c.toNat), decide_eq_true (by omega : c.toNat ≤ 122)]; simp
    · have := nF h3
      unfold okN; rw [decide_eq_true (by omega)]; simp
  · have := dF hge
    unfold nameL
    rw [all_of fun j hj => hI j (by omega), decide_eq_true (by omega), decide_eq_true (by omega)]; rfl
theorem name_c (s : Str) (hs : s.length ≤ 9223372036854775807) (w : World) : Calls Tryd.prog 42 #[.string (BA s)] w fun e w' => e = .returned (.bool (nameL s)) ∧ w = w' := by
  refine nf42 (BA s) w _ ?_
  rw [BA_size]
  have no : ∀ {i : Nat} {c : UInt8}, s[i]? = some c → okN c = false → nameL s = false := fun h hp => by unfold nameL; rw [not_all h hp]; simp
  refine ⟨Scan okN s w, Scan.start _ _ _, ?_⟩
  rintro n _ _ x ⟨i, rfl, hi, rfl, hI, rfl⟩
  refine ⟨fun hlt => ?_, fun hge => ⟨fun h1 => ⟨fun h2 => ⟨ret_bool ?_, rfl⟩, fun h2 => ⟨ret_bool ?_, rfl⟩⟩, fun h1 => ⟨ret_bool ?_, rfl⟩⟩⟩
  · have hlt : i < s.length := by have := dT hlt; omega
    obtain ⟨c, hc⟩ := at_some hlt
    have ok : okN c = true → ∃ n, n < s.length - i ∧ Scan okN s w n (IntKind.wrap .i64 ((i : Int) + 1)) w := fun h => Scan.next hs hlt hI hc h
    refine ⟨c, ⟨by omega, by rw [toNat_cast, BA_at]; exact hc⟩, fun h3 => ⟨fun h4 => ok ?_, fun h4 => ⟨fun h5 => ⟨fun h6 => ok ?_, fun h6 => ⟨fun h7 => ⟨ret_bool ?_, rfl⟩, fun h7 => ok ?_⟩⟩, fun h5 => ⟨fun h7 => ⟨ret_bool ?_, rfl⟩, fun h7 => ok ?_⟩⟩⟩,
      fun h3 => ⟨fun h5 => ⟨fun h6 => ok ?_, fun h6 => ⟨fun h7 => ⟨ret_bool ?_, rfl⟩, fun h7 => ok ?_⟩⟩, fun h5 => ⟨fun h7 => ⟨ret_bool ?_, rfl⟩, fun h7 => ok ?_⟩⟩⟩
    · have := dT h3; have := dT h4
      unfold okN; rw [decide_eq_true (by omega : 97 ≤ c.toNat), decide_eq_true (by omega : c.toNat ≤ 122)]; simp
    · have := dT h5; have := dT h6
      unfold okN; rw [decide_eq_true (by omega : 48 ≤ c.toNat), decide_eq_true (by omega : c.toNat ≤ 57)]; simp
    · have := dF h4; have := dF h6; have := nT h7
      exact (no hc (by unfold okN; rw [decide_eq_false (by omega), decide_eq_false (by omega : ¬ c.toNat ≤ 122), decide_eq_false (by omega : ¬ c.toNat ≤ 57)]; simp)).symm
    · have := nF h7
      unfold okN; rw [decide_eq_true (by omega)]; simp
    · have := dF h4; have := dF h5; have := nT h7
      exact (no hc (by unfold okN; rw [decide_eq_false (by omega), decide_eq_false (by omega : ¬ c.toNat ≤ 122), decide_eq_false (by omega : ¬ 48 ≤ c.toNat)]; simp)).symm
    · have := nF h7
      unfold okN; rw [decide_eq_true (by omega)]; simp
    · have := dT h5; have := dT h6
      unfold okN; rw [decide_eq_true (by omega : 48 ≤ c.toNat), decide_eq_true (by omega : c.toNat ≤ 57)]; simp
    · have := dF h3; have := dF h6; have := nT h7
      exact (no hc (by unfold okN; rw [decide_eq_false (by omega), decide_eq_false (by omega : ¬ 97 ≤ c.toNat), decide_eq_false (by omega : ¬ c.toNat ≤ 57)]; simp)).symm
    · have := nF h7
      unfold okN; rw [decide_eq_true (by omega)]; simp
    · have := dF h3; have := dF h5; have := nT h7
      exact (no hc (by unfold okN; rw [decide_eq_false (by omega), decide_eq_false (by omega : ¬ 97 ≤ c.toNat), decide_eq_false (by omega : ¬ 48 ≤ c.toNat)]; simp)).symm
    · have := nF h7
      unfold okN; rw [decide_eq_true (by omega)]; simp
  · have := dF hge; have := dT h1; have := dT h2
    unfold nameL
    rw [all_of fun j hj => hI j (by omega), decide_eq_true (by omega), decide_eq_true (by omega)]; rfl
  · have := dF h2
    unfold nameL
    rw [decide_eq_false (by omega : ¬ s.length ≤ 40)]; simp
  · have := dF h1
    unfold nameL
    rw [decide_eq_false (by omega : ¬ 1 ≤ s.length)]; rfl
theorem blank_iff {s : Str} {i : Nat} {c : UInt8} (h : s[i]? = some c) : blankAt s i = decide (c.toNat = 32) := by unfold blankAt; rw [h]
/-- the two functions' common shape -/
theorem step_shape (s : Str) (w : World) {R : Ending → World → Prop} (hR : R = fun e w' => e = .returned (.bool (stepL s)) ∧ w = w') :
    ((decide (((s.length : Nat) : Int) < 1) = true → R (.returned (.bool false)) w) ∧ (decide (((s.length : Nat) : Int) < 1) = false →
      (decide (((s.length : Nat) : Int) > 60) = true → R (.returned (.bool false)) w) ∧ (decide (((s.length : Nat) : Int) > 60) = false →
        ∃ c5 : UInt8, ((0 : Int) ≤ 0 ∧ byteAt (BA s) 0 = some c5) ∧ (decide (((c5.toNat : Nat) : Int) = 32) = true → R (.returned (.bool false)) w) ∧ (decide (((c5.toNat : Nat) : Int) = 32) = false →
          ∃ c8 : UInt8, ((0 : Int) ≤ IntKind.wrap .i64 (((s.length : Nat) : Int) - 1) ∧ byteAt (BA s) (IntKind.wrap .i64 (((s.length : Nat) : Int) - 1)).toNat = some c8) ∧ (decide (((c8.toNat : Nat) : Int) = 32) = true → R (.returned (.bool false)) w) ∧ (decide (((c8.toNat : Nat) : Int) = 32) = false →
            ∃ k11 : Nat → Int → World → Prop, (∃ n, k11 n 0 w) ∧ ∀ n13, (Nat → Value) → ∀ w15 x16, k11 n13 x16 w15 → (decide (x16 < ((s.length : Nat) : Int)) = true →
              ∃ c19 : UInt8, ((0 : Int) ≤ x16 ∧ byteAt (BA s) x16.toNat = some c19) ∧ (decide (((c19.toNat : Nat) : Int) < 32) = true → R (.returned (.bool false)) w15) ∧ (decide (((c19.toNat : Nat) : Int) < 32) = false →
                ∃ c22 : UInt8, ((0 : Int) ≤ x16 ∧ byteAt (BA s) x16.toNat = some c22) ∧ (decide (((c22.toNat : Nat) : Int) > 126) = true → R (.returned (.bool false)) w15) ∧ (decide (((c22.toNat : Nat) : Int) > 126) = false →
                  ∃ n25, n25 < n13 ∧ k11 n25 (IntKind.wrap .i64 (x16 + 1)) w15))) ∧ (decide (x16 < ((s.length : Nat) : Int)) = false → R (.returned (.bool true)) w15)))))) := by
  subst hR
  have no : ∀ {i : Nat} {c : UInt8}, s[i]? = some c → okS c = false → stepL s = false := fun h hp => by unfold stepL; rw [not_all h hp]; simp
  refine ⟨fun h1 => ⟨ret_bool ?_, rfl⟩, fun h1 => ⟨fun h2 => ⟨ret_bool ?_, rfl⟩, fun h2 => ?_⟩⟩
  · have := dT h1; unfold stepL; rw [decide_eq_false (by omega : ¬ 1 ≤ s.length)]; rfl
  · have := dT h2; unfold stepL; rw [decide_eq_false (by omega : ¬ s.length ≤ 60)]; simp
  have h1 := dF h1
  have h2 := dF h2
  obtain ⟨c5, hc5⟩ := at_some (s := s) (i := 0) (by omega)
  obtain ⟨c8, hc8⟩ := at_some (s := s) (i := s.length - 1) (by omega)
  have e1 : IntKind.wrap .i64 (((s.length : Nat) : Int) - 1) = ((s.length - 1 : Nat) : Int) := by rw [wr (by omega)]; omega
  rw [e1]
  refine ⟨c5, ⟨by omega, by rw [BA_at]; exact hc5⟩, fun h3 => ⟨ret_bool ?_, rfl⟩, fun h3 => ⟨c8, ⟨by omega, by rw [toNat_cast, BA_at]; exact hc8⟩, fun h4 => ⟨ret_bool ?_, rfl⟩, fun h4 => ⟨Scan okS s w, Scan.start _ _ _, ?_⟩⟩⟩
  · have := dT h3; unfold stepL; rw [blank_iff hc5, decide_eq_true (by omega : c5.toNat = 32)]; simp
  · have := dT h4; unfold stepL; rw [blank_iff hc8, decide_eq_true (by omega : c8.toNat = 32)]; simp
  have h3 := dF h3
  have h4 := dF h4
  rintro n _ _ x ⟨i, rfl, hi, rfl, hI, rfl⟩
  refine ⟨fun hlt => ?_, fun hge => ⟨ret_bool ?_, rfl⟩⟩
  · have hlt : i < s.length := by have := dT hlt; omega
    obtain ⟨c, hc⟩ := at_some hlt
    have hb : byteAt (BA s) ((i : Int)).toNat = some c := by rw [toNat_cast, BA_at]; exact hc
    refine ⟨c, ⟨by omega, hb⟩, fun h5 => ⟨ret_bool ?_, rfl⟩, fun h5 => ⟨c, ⟨by omega, hb⟩, fun h6 => ⟨ret_bool ?_, rfl⟩, fun h6 => Scan.next (by omega) hlt hI hc ?_⟩⟩
    · have := dT h5
      exact (no hc (by unfold okS; rw [decide_eq_false (by omega)]; rfl)).symm
    · have := dT h6
      exact (no hc (by unfold okS; rw [decide_eq_false (by omega : ¬ c.toNat ≤ 126)]; simp)).symm
    · have := dF h5; have := dF h6
      unfold okS; rw [decide_eq_true (by omega), decide_eq_true (by omega)]; rfl
  · have := dF hge
    unfold stepL
    rw [all_of fun j hj => hI j (by omega), decide_eq_true (by omega), decide_eq_true (by omega), blank_iff hc5, blank_iff hc8, decide_eq_false (by omega), decide_eq_false (by omega)]; rfl
theorem validStep_c (s : Str) (w : World) : Calls Tryd.prog 41 #[.string (BA s)] w fun e w' => e = .returned (.bool (stepL s)) ∧ w = w' := by
  refine nf41 (BA s) w _ ?_
  rw [BA_size]
  exact step_shape s w rfl
theorem phrase_c (s : Str) (w : World) : Calls Tryd.prog 43 #[.string (BA s)] w fun e w' => e = .returned (.bool (stepL s)) ∧ w = w' := by
  refine nf43 (BA s) w _ ?_
  rw [BA_size]
  exact step_shape s w rfl

/-! ### lists of texts -/
def encS (s : Str) : List Value := [.string (BA s)]
theorem encS_len (s : Str) : (encS s).length = 1 := rfl
theorem encS_one {l : List Str} : ∀ u ∈ l.flatMap encS, u.oneCell' = true := by
  intro u hu
  obtain ⟨a, -, ha⟩ := List.mem_flatMap.1 hu
  simp only [encS, List.mem_cons, List.not_mem_nil, or_false] at ha
  subst ha; rfl
abbrev Strs (w : World) (A : Nat → Prop) (o : Option Addr) (xs : List Str) : Prop := Recs w A o 1 (xs.map encS)
theorem Strs.at {w : World} {A : Nat → Prop} {o : Option Addr} {xs : List Str} (h : Strs w A o xs) {i : Nat} {x : Str} (hi : xs[i]? = some x) :
    ∃ a, o = some a ∧ A a.block ∧ w.cell? (a.add ((i : Int).toNat * 1)) = some (.string (BA x)) := by
  obtain ⟨a, ha, hA, hc⟩ := h i (encS x) (by rw [List.getElem?_map, hi]; rfl)
  have := hc 0 _ rfl
  rw [add_zero] at this
  exact ⟨a, ha, hA, this⟩
abbrev LR := List Str × Option Addr × Nat
def encL (x : LR) : List Value := [.slice x.2.1 x.1.length x.2.2]
theorem encL_len (x : LR) : (encL x).length = 1 := rfl
theorem encL_one {l : List LR} : ∀ u ∈ l.flatMap encL, u.oneCell' = true := by
  intro u hu
  obtain ⟨a, -, ha⟩ := List.mem_flatMap.1 hu
  simp only [encL, List.mem_cons, List.not_mem_nil, or_false] at ha
  subst ha; rfl
/-- lists behind a slice -/
def Lol (w : World) (A : Nat → Prop) (o : Option Addr) (l : List (List Str)) : Prop :=
  ∃ rows : List LR, rows.map (·.1) = l ∧ Recs w A o 1 (rows.map encL) ∧ ∀ x ∈ rows, Strs w A x.2.1 x.1
theorem Lol.keep {w w' : World} {A S : Nat → Prop} {o : Option Addr} {l : List (List Str)} (h : Lol w A o l) (g : Only S w w') (hS : ∀ b, A b → ¬ S b) : Lol w' A o l := by
  obtain ⟨rows, h1, h2, h3⟩ := h
  exact ⟨rows, h1, h2.keep g hS, fun x hx => (h3 x hx).keep g hS⟩
theorem Lol.grow {w w' : World} {A : Nat → Prop} {o : Option Addr} {l : List (List Str)} (h : Lol w A o l) (g : Grow w w') : Lol w' A o l := h.keep g fun _ _ h => h
theorem Lol.mono {w : World} {A A' : Nat → Prop} {o : Option Addr} {l : List (List Str)} (h : Lol w A o l) (hA : ∀ b, A b → A' b) : Lol w A' o l := by
  obtain ⟨rows, h1, h2, h3⟩ := h
  exact ⟨rows, h1, h2.mono hA, fun x hx => (h3 x hx).mono hA⟩
theorem Lol.nil (w : World) (A : Nat → Prop) (o : Option Addr) : Lol w A o [] := ⟨[], rfl, Recs.nil _ _ _ _, fun _ h => by cases h⟩
theorem Lol.at {w : World} {A : Nat → Prop} {o : Option Addr} {l : List (List Str)} (h : Lol w A o l) {i : Nat} {xs : List Str} (hi : l[i]? = some xs) :
    ∃ a oi ci, o = some a ∧ A a.block ∧ w.cell? (a.add ((i : Int).toNat * 1)) = some (.slice oi xs.length ci) ∧ Strs w A oi xs := by
  obtain ⟨rows, rfl, h2, h3⟩ := h
  rw [List.getElem?_map] at hi
  cases hr : rows[i]? with
  | none => rw [hr] at hi; cases hi
  | some r =>
    rw [hr] at hi
    cases hi
    obtain ⟨a, ha, hA, hc⟩ := h2 i (encL r) (by rw [List.getElem?_map, hr]; rfl)
    have := hc 0 _ rfl
    rw [add_zero] at this
    exact ⟨a, _, _, ha, hA, this, h3 r (List.mem_of_getElem? hr)⟩
theorem has_c (o : Option Addr) (c : Nat) (l : List Str) (s : Str) (hl : l.length ≤ 9223372036854775806) (w : World) {A : Nat → Prop} (h : Strs w A o l) :
    Calls Tryd.prog 44 #[.slice o l.length c, .string (BA s)] w fun e w' => e = .returned (.bool (decide (s ∈ l))) ∧ w = w' := by
  refine nf44 o l.length c (BA s) w _ ⟨fun n x w' => ∃ i : Nat, x = (i : Int) ∧ i ≤ l.length ∧ n = l.length - i ∧ s ∉ l.take i ∧ w = w', ⟨_, 0, rfl, Nat.zero_le _, rfl, by simp, rfl⟩, ?_⟩
  rintro n _ _ x ⟨i, rfl, hi, rfl, hno, rfl⟩
  refine ⟨fun hlt => ?_, fun hge => ⟨ret_bool ?_, rfl⟩⟩
  · have hlt : i < l.length := by have := dT hlt; omega
    have hx := List.getElem?_eq_getElem hlt
    obtain ⟨a, ha, -, hc⟩ := Strs.at h hx
    refine ⟨a, ha, ⟨by omega, by omega⟩, _, hc, fun he => ⟨ret_bool ?_, rfl⟩, fun he => ⟨_, by omega, i + 1, by rw [wr (by omega)]; omega, hlt, rfl, ?_, rfl⟩⟩
    · rw [strEq_BA] at he
      have := dT he
      exact (decide_eq_true (by rw [← this]; exact List.getElem_mem hlt)).symm
    · rw [strEq_BA] at he
      rw [List.take_succ_eq_append_getElem hlt, List.mem_append, List.mem_singleton]
      rintro (k | k)
      · exact hno k
      · exact dF he k.symm
  · have := dF hge
    rw [List.take_of_length_le (by omega)] at hno
    exact (decide_eq_false hno).symm
theorem Strs.low {w : World} {A : Nat → Prop} {o : Option Addr} {xs : List Str} (h : Strs w A o xs) : Strs w (fun b => b < hs w) o xs := fun i row hi => by
  obtain ⟨a, h1, -, h3⟩ := h i row hi
  rw [List.getElem?_map] at hi
  cases hx : xs[i]? with
  | none => rw [hx] at hi; cases hi
  | some x =>
    rw [hx] at hi
    cases hi
    have := cell_block (h3 0 _ rfl)
    rw [block_add2] at this
    exact ⟨a, h1, this, h3⟩
theorem Lol.low {w : World} {A : Nat → Prop} {o : Option Addr} {l : List (List Str)} (h : Lol w A o l) : Lol w (fun b => b < hs w) o l := by
  obtain ⟨rows, h1, h2, h3⟩ := h
  refine ⟨rows, h1, fun i row hi => ?_, fun x hx => Strs.low (h3 x hx)⟩
  obtain ⟨a, k1, -, k3⟩ := h2 i row hi
  rw [List.getElem?_map] at hi
  cases hx : rows[i]? with
  | none => rw [hx] at hi; cases hi
  | some x =>
    rw [hx] at hi
    cases hi
    have := cell_block (k3 0 _ rfl)
    rw [block_add2] at this
    exact ⟨a, k1, this, k3⟩
/-- two lists, held side by side -/
theorem texts_c (o o' : Option Addr) (c c' : Nat) (a b : List Str) (hl : a.length ≤ 9223372036854775806) (w : World) {A A' : Nat → Prop} (h : Strs w A o a) (h' : Strs w A' o' b) :
    Calls Tryd.prog 23 #[.slice o a.length c, .slice o' b.length c'] w fun e w' => e = .returned (.bool (decide (a = b))) ∧ Grow w w' := by
  refine nf23 o a.length c o' b.length c' w _ ⟨fun h1 => ⟨ret_bool ?_, Only.refl _ _⟩, fun h1 => ?_⟩
  · have := nT h1
    exact (decide_eq_false fun e => this (by rw [e])).symm
  have h1 : a.length = b.length := by have := nF h1; omega
  refine ⟨fun n x w' => ∃ i : Nat, x = (i : Int) ∧ i ≤ a.length ∧ n = a.length - i ∧ a.take i = b.take i ∧ Grow w w', ⟨_, 0, rfl, Nat.zero_le _, rfl, by simp, Only.refl _ _⟩, ?_⟩
  rintro n _ w1 x ⟨i, rfl, hi, rfl, ht, g1⟩
  refine ⟨fun hlt => ?_, fun hge => ⟨ret_bool ?_, g1⟩⟩
  · intro w2 e2
    have hlt : i < a.length := by have := dT hlt; omega
    have g2 := g1.trans' (only_drew e2)
    have hlt' : i < b.length := by omega
    obtain ⟨a1, ha1, -, hc1⟩ := Strs.at (h.grow g2) (List.getElem?_eq_getElem hlt)
    obtain ⟨a2, ha2, -, hc2⟩ := Strs.at (h'.grow g2) (List.getElem?_eq_getElem hlt')
    refine ⟨a1, ha1, ⟨by omega, by omega⟩, _, hc1, a2, ha2, ⟨by omega, by omega⟩, _, hc2, fun he => ⟨ret_bool ?_, g2⟩, fun he => ⟨_, by omega, i + 1, by rw [wr (by omega)]; omega, hlt, rfl, ?_, g2⟩⟩
    · rw [strEq_BA] at he
      have := nT he
      refine (decide_eq_false fun e => this ?_).symm
      subst e; rfl
    · rw [strEq_BA] at he
      have := nF he
      rw [List.take_succ_eq_append_getElem hlt, List.take_succ_eq_append_getElem hlt', ht, this]
  · have := dF hge
    rw [List.take_of_length_le (by omega), List.take_of_length_le (by omega)] at ht
    exact (decide_eq_true ht).symm
abbrev plV (name : Str) (o : Option Addr) (n c : Nat) : Value := .agg #[.string (BA name), .slice o n c]
structure Pl.Fit (p : Pl) : Prop where
  name : p.name.length ≤ 9223372036854775807
  steps : p.steps.length * 24 ≤ 140737488355328
  each : ∀ l ∈ p.steps, l.length * 16 ≤ 140737488355328 ∧ ∀ s ∈ l, s.length ≤ 9223372036854775807
theorem same_c (o o' : Option Addr) (c c' : Nat) (p q : Pl) (hp : p.Fit) (w : World) {A A' : Nat → Prop} (h : Lol w A o p.steps) (h' : Lol w A' o' q.steps) :
    Calls Tryd.prog 31 #[plV p.name o p.steps.length c, plV q.name o' q.steps.length c'] w fun e w' => e = .returned (.bool (decide (p = q))) ∧ Grow w w' := by
  have hl := hp.steps
  have neq : ∀ {w' : World}, ¬ (p.name = q.name ∧ p.steps = q.steps) → Grow w w' → Ending.returned (.bool false) = .returned (.bool (decide (p = q))) ∧ Grow w w' := fun k g => ⟨ret_bool (decide_eq_false fun e => k (by rw [e]; exact ⟨rfl, rfl⟩)).symm, g⟩
  refine nf31 (BA p.name) o p.steps.length c (BA q.name) o' q.steps.length c' w _ fun w1 e1 w3 e3 => ?_
  have g1 : Grow w w1 := only_alloc e1
  have g3 : Grow w1 w3 := only_alloc e3
  have r1 := (Row.new e1).grow g3
  have r3 := Row.new e3
  have G3 := g1.trans' g3
  refine ⟨_, r1.cell rfl, _, r3.cell rfl, fun h1 => ?_, fun h1 => ⟨_, _, _, r1.cell rfl, _, _, _, r3.cell rfl, fun h2 => ?_, fun h2 => ?_⟩⟩
  · rw [strEq_BA] at h1
    exact neq (fun k => nT h1 k.1) G3
  · exact neq (fun k => nT h2 (by rw [k.2])) G3
  rw [strEq_BA] at h1
  have h1 := nF h1
  have h2 : p.steps.length = q.steps.length := by have := nF h2; omega
  refine ⟨fun n x w' => ∃ i : Nat, x = (i : Int) ∧ i ≤ p.steps.length ∧ n = p.steps.length - i ∧ p.steps.take i = q.steps.take i ∧ Grow w3 w', ⟨_, 0, rfl, Nat.zero_le _, rfl, by simp, Only.refl _ _⟩, ?_⟩
  rintro n _ w4 x ⟨i, rfl, hi, rfl, ht, g4⟩
  have G4 := G3.trans' g4
  refine ⟨_, _, _, (r1.grow g4).cell rfl, fun hlt w5 e5 => ?_, fun hge => ⟨ret_bool ?_, G4⟩⟩
  · have hlt : i < p.steps.length := by have := dT hlt; omega
    have hlt' : i < q.steps.length := by omega
    have g5 : Grow w4 w5 := only_drew e5
    have g35 := g4.trans' g5
    have G5 := G4.trans' g5
    obtain ⟨a1, o1, c1, ha1, -, hc1, hs1⟩ := (h.grow G5).at (List.getElem?_eq_getElem hlt)
    obtain ⟨a2, o2, c2, ha2, -, hc2, hs2⟩ := (h'.grow G5).at (List.getElem?_eq_getElem hlt')
    have hpl := (hp.each _ (List.getElem_mem hlt)).1
    refine ⟨_, _, _, (r1.grow g35).cell rfl, a1, ha1, ⟨by omega, by omega⟩, _, _, _, hc1, _, _, _, (r3.grow g35).cell rfl, a2, ha2, ⟨by omega, by omega⟩, _, _, _, hc2, (texts_c o1 o2 c1 c2 _ _ (by omega) w5 hs1 hs2).mono ?_⟩
    rintro _ w6 ⟨rfl, g6⟩
    refine ⟨_, rfl, fun he => ⟨_, by omega, i + 1, by rw [wr (by omega)]; omega, hlt, rfl, ?_, g35.trans' g6⟩, fun he => ?_⟩
    · have := dT he
      rw [List.take_succ_eq_append_getElem hlt, List.take_succ_eq_append_getElem hlt', ht, this]
    · refine neq (fun k => dF he ?_) (G5.trans' g6)
      have := k.2
      simp only [this]
  · have := dF hge
    rw [List.take_of_length_le (by omega), List.take_of_length_le (by omega)] at ht
    refine (decide_eq_true ?_).symm
    cases p; cases q
    simp only at h1 ht
    rw [h1, ht]
end Go.Proofs.YtolpmdmcbciccaaDoor
