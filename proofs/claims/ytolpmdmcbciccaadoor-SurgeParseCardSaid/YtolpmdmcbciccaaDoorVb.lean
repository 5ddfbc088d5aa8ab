/- Plain: plans, their text, and how a text is read. -/
import Derived.Test.YtolpmdmcbciccaaDoorVa
namespace Go.Proofs.YtolpmdmcbciccaaDoor

abbrev Str := List UInt8
structure Pl where
  name : Str
  steps : List (List Str)
theorem Pl.ext' {a b : Pl} : a = b ↔ a.name = b.name ∧ a.steps = b.steps := by
  cases a; cases b
  simp
instance : DecidableEq Pl := fun a b => decidable_of_iff (a.name = b.name ∧ a.steps = b.steps) Pl.ext'.symm
def okN (b : UInt8) : Bool := decide (b.toNat = 45) || (decide (97 ≤ b.toNat) && decide (b.toNat ≤ 122)) || (decide (48 ≤ b.toNat) && decide (b.toNat ≤ 57))
def okS (b : UInt8) : Bool := decide (32 ≤ b.toNat) && decide (b.toNat ≤ 126)
def blankAt (s : Str) (i : Nat) : Bool := match s[i]? with
  | some c => decide (c.toNat = 32)
  | none => false
def nameL (s : Str) : Bool := decide (1 ≤ s.length) && decide (s.length ≤ 40) && s.all okN
def stepL (s : Str) : Bool := decide (1 ≤ s.length) && decide (s.length ≤ 60) && !blankAt s 0 && !blankAt s (s.length - 1) && s.all okS
/-- the steps of one level: what has been seen behind them, or that one is not right -/
def levelR : List Str → List Str → Option (List Str)
  | seen, [] => some seen
  | seen, s :: ss => if stepL s = true ∧ s ∉ seen then levelR (seen ++ [s]) ss else none
def levelsR : List Str → Nat → List (List Str) → Int
  | _, _, [] => -1
  | seen, i, l :: ls => if l.length < 1 ∨ 16 < l.length then (i : Int) + 1 else match levelR seen l with
    | none => (i : Int) + 1
    | some seen' => levelsR seen' (i + 1) ls
/-- the first invalid part, or -1 -/
def rightL (p : Pl) : Int := if nameL p.name = false ∨ p.steps.length < 1 ∨ 5 < p.steps.length then 0 else levelsR [] 0 p.steps

theorem levelR_some : ∀ {l seen seen' : List Str}, levelR seen l = some seen' ↔ (∀ s ∈ l, stepL s = true) ∧ l.Nodup ∧ (∀ s ∈ l, s ∉ seen) ∧ seen' = seen ++ l
  | [], seen, seen' => by
    rw [levelR]
    constructor
    · intro h; cases h; exact ⟨(fun s hs => by cases hs), List.nodup_nil, (fun s hs => by cases hs), (List.append_nil _).symm⟩
    · rintro ⟨-, -, -, rfl⟩; rw [List.append_nil]
  | s :: l, seen, seen' => by
    rw [levelR]
    split
    · rename_i h
      rw [levelR_some (l := l)]
      constructor
      · rintro ⟨h1, h2, h3, rfl⟩
        refine ⟨fun x hx => ?_, List.nodup_cons.2 ⟨fun hs => h3 s hs (by simp), h2⟩, fun x hx => ?_, by simp⟩
        · rcases List.mem_cons.1 hx with rfl | hx
          · exact h.1
          · exact h1 x hx
        · rcases List.mem_cons.1 hx with rfl | hx
          · exact h.2
          · exact fun k => h3 x hx (List.mem_append_left _ k)
      · rintro ⟨h1, h2, h3, rfl⟩
        have h2 := List.nodup_cons.1 h2
        refine ⟨fun x hx => h1 x (.tail _ hx), h2.2, fun x hx k => ?_, by simp⟩
        rcases List.mem_append.1 k with k | k
        · exact h3 x (.tail _ hx) k
        · rw [List.mem_singleton] at k
          subst k
          exact h2.1 hx
    · rename_i h
      constructor
      · intro k; cases k
      · rintro ⟨h1, h2, h3, -⟩
        exact absurd ⟨h1 s (.head _), h3 s (.head _)⟩ h
theorem levelsR_ok : ∀ {ls : List (List Str)} {seen : List Str} {i : Nat}, levelsR seen i ls = -1 ↔ (∀ l ∈ ls, 1 ≤ l.length ∧ l.length ≤ 16) ∧ (∀ s ∈ ls.flatten, stepL s = true) ∧ ls.flatten.Nodup ∧ ∀ s ∈ ls.flatten, s ∉ seen
  | [], seen, i => by simp [levelsR]
  | l :: ls, seen, i => by
    rw [levelsR]
    split
    · rename_i h
      constructor
      · intro k; omega
      · rintro ⟨h1, -⟩
        have := h1 l (.head _)
        omega
    · rename_i h
      cases hl : levelR seen l with
      | none =>
        simp only
        constructor
        · intro k; omega
        · rintro ⟨h1, h2, h3, h4⟩
          rw [List.flatten_cons] at h2 h3 h4
          have := (levelR_some (l := l) (seen := seen) (seen' := seen ++ l)).2 ⟨fun s hs => h2 s (List.mem_append_left _ hs), (List.nodup_append.1 h3).1, fun s hs => h4 s (List.mem_append_left _ hs), rfl⟩
          rw [hl] at this
          cases this
      | some seen' =>
        simp only
        rw [levelsR_ok (ls := ls)]
        obtain ⟨k1, k2, k3, rfl⟩ := levelR_some.1 hl
        rw [List.flatten_cons]
        constructor
        · rintro ⟨h1, h2, h3, h4⟩
          refine ⟨fun x hx => ?_, fun s hs => ?_, List.nodup_append.2 ⟨k2, h3, fun a ha b hb e => ?_⟩, fun s hs => ?_⟩
          · rcases List.mem_cons.1 hx with rfl | hx
            · omega
            · exact h1 x hx
          · rcases List.mem_append.1 hs with hs | hs
            · exact k1 s hs
            · exact h2 s hs
          · subst e
            exact h4 a hb (List.mem_append_right _ ha)
          · rcases List.mem_append.1 hs with hs | hs
            · exact k3 s hs
            · exact fun k => h4 s hs (List.mem_append_left _ k)
        · rintro ⟨h1, h2, h3, h4⟩
          have h3 := List.nodup_append.1 h3
          refine ⟨fun x hx => h1 x (.tail _ hx), fun s hs => h2 s (List.mem_append_right _ hs), h3.2.1, fun s hs k => ?_⟩
          rcases List.mem_append.1 k with k | k
          · exact h4 s (List.mem_append_right _ hs) k
          · exact h3.2.2 s k s hs rfl
structure Right (p : Pl) : Prop where
  name : nameL p.name = true
  few : 1 ≤ p.steps.length ∧ p.steps.length ≤ 5
  each : ∀ l ∈ p.steps, 1 ≤ l.length ∧ l.length ≤ 16
  step : ∀ s ∈ p.steps.flatten, stepL s = true
  once : p.steps.flatten.Nodup
theorem right_iff {p : Pl} : rightL p = -1 ↔ Right p := by
  unfold rightL
  split
  · rename_i h
    constructor
    · intro k; cases k
    · intro k
      rcases h with h | h | h
      · rw [k.name] at h; cases h
      · have := k.few; omega
      · have := k.few; omega
  · rename_i h
    have hn : nameL p.name = true := by cases hb : nameL p.name with | true => rfl | false => exact absurd (.inl hb) h
    have h1 : 1 ≤ p.steps.length ∧ p.steps.length ≤ 5 := ⟨Nat.le_of_not_lt fun k => h (.inr (.inl k)), Nat.le_of_not_lt fun k => h (.inr (.inr k))⟩
    rw [levelsR_ok]
    constructor
    · rintro ⟨k1, k2, k3, -⟩
      exact ⟨hn, h1, k1, k2, k3⟩
    · intro k
      exact ⟨k.each, k.step, k.once, fun _ _ h => by cases h⟩

/-! ### Lines -/
def linesL : Str → List Str × Str
  | [] => ([], [])
  | c :: s => if c = 10 then ([] :: (linesL s).1, (linesL s).2) else match (linesL s).1 with
    | [] => ([], c :: (linesL s).2)
    | l :: ls => ((c :: l) :: ls, (linesL s).2)
def joinL (ls : List Str) : Str := ls.flatMap (· ++ [10])
theorem lines_join : ∀ s : Str, joinL (linesL s).1 ++ (linesL s).2 = s
  | [] => rfl
  | c :: s => by
    have ih := lines_join s
    rw [linesL]
    split
    · rename_i h
      subst h
      simp only [joinL, List.flatMap_cons, List.nil_append, List.cons_append]
      exact congrArg _ ih
    · cases hl : (linesL s).1 with
      | nil =>
        rw [hl] at ih
        simp only [joinL, List.flatMap_nil, List.nil_append] at ih ⊢
        rw [ih]
      | cons l ls =>
        rw [hl] at ih
        simp only [joinL, List.flatMap_cons, List.cons_append] at ih ⊢
        exact congrArg _ ih
theorem lines_none : ∀ (s : Str), (∀ c ∈ s, c ≠ 10) → linesL s = ([], s)
  | [], _ => rfl
  | c :: s, h => by
    have ih := lines_none s fun x hx => h x (.tail _ hx)
    rw [linesL, if_neg (h c (.head _)), ih]
theorem lines_cut : ∀ (a s : Str), (∀ c ∈ a, c ≠ 10) → linesL (a ++ 10 :: s) = (a :: (linesL s).1, (linesL s).2)
  | [], s, _ => by rw [List.nil_append, linesL, if_pos rfl]
  | c :: a, s, h => by
    have ih := lines_cut a s fun x hx => h x (.tail _ hx)
    rw [List.cons_append, linesL, if_neg (h c (.head _)), ih]
theorem lines_of : ∀ (ls : List Str), (∀ l ∈ ls, ∀ c ∈ l, c ≠ 10) → linesL (joinL ls) = (ls, [])
  | [], _ => rfl
  | l :: ls, h => by
    have ih := lines_of ls fun x hx => h x (.tail _ hx)
    have : joinL (l :: ls) = l ++ 10 :: joinL ls := by simp [joinL]
    rw [this, lines_cut l _ (h l (.head _)), ih]

/-! ### Reading -/
def planW : Str := [112, 108, 97, 110, 32]
def levelW : Str := [108, 101, 118, 101, 108, 32]
def dashW : Str := [45, 32]
def digit (n : Nat) : UInt8 := UInt8.ofNat (49 + n)
/-- the line that opens level n + 1 -/
def opens (n : Nat) : Str := levelW ++ [digit n]
def addStep : List (List Str) → Str → List (List Str)
  | [], _ => []
  | [l], s => [l ++ [s]]
  | l :: ls, s => l :: addStep ls s
def lastL (ls : List (List Str)) : List Str := ls.getLast?.getD []
def doneL (p : Pl) : Bool := decide (0 < p.steps.length) && decide (0 < (lastL p.steps).length)
/-- a line behind n lines -/
def acceptL (n : Nat) (p : Pl) (l : Str) : Option Pl :=
  if n = 0 then
    if planW <+: l ∧ nameL (l.drop 5) = true then some ⟨l.drop 5, []⟩ else none
  else if l = opens p.steps.length then
    if p.steps.length = 5 ∨ 0 < p.steps.length ∧ (lastL p.steps).length = 0 then none else some ⟨p.name, p.steps ++ [[]]⟩
  else if dashW <+: l ∧ 0 < p.steps.length ∧ (lastL p.steps).length ≠ 16 ∧ stepL (l.drop 2) = true ∧ l.drop 2 ∉ p.steps.flatten then some ⟨p.name, addStep p.steps (l.drop 2)⟩ else none
inductive Out where
  | bad (line : Nat)
  | plan (p : Pl)
def runL : Nat → Pl → List Str → Out
  | _, p, [] => .plan p
  | n, p, l :: ls => match acceptL n p l with
    | none => .bad (n + 1)
    | some p' => runL (n + 1) p' ls
def readL (s : Str) : Out :=
  match runL 0 ⟨[], []⟩ (linesL s).1 with
  | .bad k => .bad k
  | .plan p => if (linesL s).2 = [] ∧ 0 < (linesL s).1.length ∧ doneL p = true then .plan p else .bad ((linesL s).1.length + 1)

def levelLines (i : Nat) (l : List Str) : List Str := opens i :: l.map (dashW ++ ·)
def stepLines : Nat → List (List Str) → List Str
  | _, [] => []
  | i, l :: ls => levelLines i l ++ stepLines (i + 1) ls
def linesOf (p : Pl) : List Str := (planW ++ p.name) :: stepLines 0 p.steps
def textL (p : Pl) : Str := joinL (linesOf p)
theorem stepLines_append : ∀ (a b : List (List Str)) (i : Nat), stepLines i (a ++ b) = stepLines i a ++ stepLines (i + a.length) b
  | [], b, i => by simp [stepLines]
  | l :: a, b, i => by
    rw [List.cons_append, stepLines, stepLines, stepLines_append a b (i + 1), List.append_assoc, List.length_cons]
    congr 3
    omega
theorem addStep_append : ∀ (a : List (List Str)) (l : List Str) (s : Str), addStep (a ++ [l]) s = a ++ [l ++ [s]]
  | [], l, s => rfl
  | [x], l, s => rfl
  | x :: y :: a, l, s => by
    have := addStep_append (y :: a) l s
    rw [List.cons_append, List.cons_append]
    show x :: addStep ((y :: a) ++ [l]) s = _
    rw [this]; rfl
theorem last_append (a : List (List Str)) (l : List Str) : lastL (a ++ [l]) = l := by unfold lastL; simp
theorem steps_split {ls : List (List Str)} (h : 0 < ls.length) : ∃ a l, ls = a ++ [l] := by
  have hne : ls ≠ [] := fun e => by rw [e] at h; exact absurd h (by decide)
  exact ⟨_, _, (List.dropLast_concat_getLast hne).symm⟩
theorem stepLines_add {ls : List (List Str)} (h : 0 < ls.length) (s : Str) (i : Nat) : stepLines i (addStep ls s) = stepLines i ls ++ [dashW ++ s] := by
  obtain ⟨a, l, rfl⟩ := steps_split h
  rw [addStep_append, stepLines_append, stepLines_append]
  simp [stepLines, levelLines]
theorem prefix_drop {a l : Str} (h : a <+: l) : a ++ l.drop a.length = l := by
  obtain ⟨t, rfl⟩ := h
  simp
/-- what has been read is the plan's text -/
theorem accept_lines {n : Nat} {p p' : Pl} {l : Str} (hn : 0 < n) (h : acceptL n p l = some p') : linesOf p' = linesOf p ++ [l] := by
  unfold acceptL at h
  rw [if_neg (by omega)] at h
  split at h
  · rename_i hl
    split at h
    · cases h
    · cases h
      subst hl
      simp only [linesOf, stepLines_append]
      simp [stepLines, levelLines]
  · split at h
    · rename_i hc
      cases h
      have e := prefix_drop hc.1
      simp only [linesOf]
      rw [stepLines_add hc.2.1]
      show _ :: (_ ++ [dashW ++ l.drop 2]) = _
      rw [show dashW ++ l.drop 2 = l from e]
      rfl
    · cases h
theorem run_lines : ∀ (ls : List Str) (n : Nat) (p p' : Pl), 0 < n → runL n p ls = .plan p' → linesOf p' = linesOf p ++ ls
  | [], n, p, p', _, h => by cases h; simp
  | l :: ls, n, p, p', hn, h => by
    rw [runL] at h
    cases ha : acceptL n p l with
    | none => rw [ha] at h; cases h
    | some q =>
      rw [ha] at h
      have h1 := accept_lines hn ha
      have h2 := run_lines ls (n + 1) q p' (Nat.succ_pos _) h
      rw [h2, h1]; simp
theorem run_text {ls : List Str} {p : Pl} (h : runL 0 ⟨[], []⟩ ls = .plan p) (hl : 0 < ls.length) : linesOf p = ls := by
  cases ls with
  | nil => cases hl
  | cons l ls =>
    rw [runL] at h
    cases ha : acceptL 0 ⟨[], []⟩ l with
    | none => rw [ha] at h; cases h
    | some q =>
      rw [ha] at h
      rw [run_lines ls 1 q p (by decide) h]
      unfold acceptL at ha
      rw [if_pos rfl] at ha
      split at ha
      · rename_i hc
        cases ha
        have e := prefix_drop hc.1
        show [planW ++ l.drop 5] ++ ls = _
        rw [show planW ++ l.drop 5 = l from e]; rfl
      · cases ha
theorem read_text {s : Str} {p : Pl} (h : readL s = .plan p) : textL p = s := by
  unfold readL at h
  split at h
  · cases h
  · rename_i q hq
    split at h
    · rename_i hc
      cases h
      have e := lines_join s
      rw [hc.1, List.append_nil] at e
      unfold textL
      rw [run_text hq hc.2.1, e]
    · cases h

/-! ### What has been accepted is right, but for an empty last level -/
structure Soon (p : Pl) : Prop where
  name : nameL p.name = true
  few : p.steps.length ≤ 5
  each : ∀ l ∈ p.steps, l.length ≤ 16
  front : ∀ l ∈ p.steps.dropLast, 1 ≤ l.length
  step : ∀ s ∈ p.steps.flatten, stepL s = true
  once : p.steps.flatten.Nodup
theorem Soon.right {p : Pl} (h : Soon p) (hd : doneL p = true) : Right p := by
  unfold doneL at hd
  simp only [Bool.and_eq_true, decide_eq_true_eq] at hd
  obtain ⟨a, l, e⟩ := steps_split hd.1
  refine ⟨h.name, ⟨hd.1, h.few⟩, fun x hx => ⟨?_, h.each x hx⟩, h.step, h.once⟩
  have hf := h.front
  have hl := hd.2
  rw [e] at hx hf hl
  rw [last_append] at hl
  rw [List.dropLast_concat] at hf
  rcases List.mem_append.1 hx with hx | hx
  · exact hf x hx
  · rw [List.mem_singleton] at hx
    rw [hx]; exact hl
theorem accept_soon {n : Nat} {p p' : Pl} {l : Str} (h : acceptL n p l = some p') (hp : 0 < n → Soon p) : Soon p' := by
  unfold acceptL at h
  split at h
  · split at h
    · rename_i hc
      cases h
      exact ⟨hc.2, by simp, by simp, by simp, by simp, by simp⟩
    · cases h
  · rename_i hn
    have hp := hp (by omega)
    split at h
    · split at h
      · cases h
      · rename_i hc
        cases h
        refine ⟨hp.name, ?_, fun x hx => ?_, fun x hx => ?_, fun s hs => ?_, ?_⟩
        · have := hp.few
          rw [List.length_append]
          simp only [List.length_cons, List.length_nil]
          have : p.steps.length ≠ 5 := fun e => hc (.inl e)
          omega
        · rcases List.mem_append.1 hx with hx | hx
          · exact hp.each x hx
          · rw [List.mem_singleton] at hx; rw [hx]; decide
        · rw [List.dropLast_concat] at hx
          rcases Nat.eq_zero_or_pos p.steps.length with h0 | h0
          · rw [List.eq_nil_of_length_eq_zero h0] at hx; cases hx
          · obtain ⟨a, y, e⟩ := steps_split h0
            have hf := hp.front
            have hl : 0 < (lastL p.steps).length := by
              rcases Nat.eq_zero_or_pos (lastL p.steps).length with k | k
              · exact absurd (.inr ⟨h0, k⟩) hc
              · exact k
            rw [e] at hx hf hl
            rw [last_append] at hl
            rw [List.dropLast_concat] at hf
            rcases List.mem_append.1 hx with hx | hx
            · exact hf x hx
            · rw [List.mem_singleton] at hx; rw [hx]; exact hl
        · rw [List.flatten_append] at hs
          exact hp.step s (by simpa using hs)
        · rw [List.flatten_append]
          simpa using hp.once
    · split at h
      · rename_i hc
        cases h
        obtain ⟨-, h0, h16, hs, hno⟩ := hc
        obtain ⟨a, y, e⟩ := steps_split h0
        have hf := hp.front; have he := hp.each; have hst := hp.step; have ho := hp.once; have hfew := hp.few
        rw [e] at h16 hno hf he hst ho hfew
        rw [last_append] at h16
        rw [List.dropLast_concat] at hf
        have ea : addStep p.steps (l.drop 2) = a ++ [y ++ [l.drop 2]] := by rw [e, addStep_append]
        refine ⟨hp.name, ?_, fun x hx => ?_, fun x hx => ?_, fun s hs' => ?_, ?_⟩
        · rw [ea]
          rw [List.length_append] at hfew ⊢
          exact hfew
        · rw [ea] at hx
          rcases List.mem_append.1 hx with hx | hx
          · exact he x (List.mem_append_left _ hx)
          · rw [List.mem_singleton] at hx
            have := he y (by simp)
            rw [hx, List.length_append, List.length_singleton]
            omega
        · rw [ea, List.dropLast_concat] at hx
          exact hf x hx
        · rw [ea] at hs'
          simp only [List.flatten_append, List.flatten_cons, List.flatten_nil, List.append_nil, List.mem_append, List.mem_singleton] at hs' hst
          rcases hs' with k | k | k
          · exact hst s (.inl k)
          · exact hst s (.inr k)
          · rw [k]; exact hs
        · rw [ea]
          simp only [List.flatten_append, List.flatten_cons, List.flatten_nil, List.append_nil] at ho hno ⊢
          rw [← List.append_assoc]
          refine List.nodup_append.2 ⟨ho, by simp, fun x hx z hz k => ?_⟩
          rw [List.mem_singleton] at hz
          subst hz; subst k
          exact hno hx
      · cases h
theorem run_soon : ∀ (ls : List Str) (n : Nat) (p p' : Pl), (0 < n → Soon p) → 0 < n + ls.length → runL n p ls = .plan p' → Soon p'
  | [], n, p, p', hp, hn, h => by cases h; exact hp (by simpa using hn)
  | l :: ls, n, p, p', hp, _, h => by
    rw [runL] at h
    cases ha : acceptL n p l with
    | none => rw [ha] at h; cases h
    | some q =>
      rw [ha] at h
      exact run_soon ls (n + 1) q p' (fun _ => accept_soon ha hp) (by omega) h
theorem read_right {s : Str} {p : Pl} (h : readL s = .plan p) : Right p := by
  unfold readL at h
  split at h
  · cases h
  · rename_i q hq
    split at h
    · rename_i hc
      cases h
      exact (run_soon _ 0 _ _ (fun k => absurd k (by decide)) (by omega) hq).right hc.2.2
    · cases h
end Go.Proofs.YtolpmdmcbciccaaDoor
