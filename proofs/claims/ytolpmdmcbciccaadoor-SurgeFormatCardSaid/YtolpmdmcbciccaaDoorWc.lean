/- Contracts: the execution of a plan: New, SetLevel, Complete, OpenSteps, Level. -/
import Derived.Test.YtolpmdmcbciccaaDoorWb
import Derived.Test.YtolpmdmcbciccaaDoorNf2
import Derived.Lib.SliceRun
namespace Go.Proofs.YtolpmdmcbciccaaDoor
open Go Go.Nf Go.RowKit

/-! ### the clock -/
def clampI (n : Int) : Int := if 4611686018427387904 < (if n < 0 then 0 else n) then 4611686018427387904 else (if n < 0 then 0 else n)
theorem clamp_range (n : Int) : 0 ≤ clampI n ∧ clampI n ≤ 4611686018427387904 := by
  unfold clampI
  repeat' split
  all_goals omega
theorem clamp_id {n : Int} (h : 0 ≤ n ∧ n ≤ 4611686018427387904) : clampI n = n := by
  unfold clampI
  repeat' split
  all_goals omega
def agoI (now then' : Int) : Int := if clampI now - clampI then' < 0 then 0 else clampI now - clampI then'
theorem elapsed_c (now then' : Int) (w : World) : Calls Tryd.prog 61 #[.int .i64 now, .int .i64 then'] w fun e w' => e = .returned (.int .i64 (agoI now then')) ∧ w = w' := by
  refine nf61 now then' w _ ?_
  refine nf69 now w _ ⟨_, rfl, nf69 then' w _ ⟨_, rfl, ret_int ?_, rfl⟩⟩
  have h1 := clamp_range now
  have h2 := clamp_range then'
  show (if IntKind.wrap .i64 (clampI now - clampI then') < 0 then 0 else IntKind.wrap .i64 (clampI now - clampI then')) = agoI now then'
  rw [wr (by omega)]; rfl
theorem hold_c (t : Int) (w : World) : Calls Tryd.prog 46 #[.int .i64 t] w fun e w' => e = .returned (.int .i64 (clampI t)) ∧ w = w' := by
  refine nf46 t w _ ⟨fun h => ⟨ret_int ?_, rfl⟩, fun h => nf62 w _ ⟨_, rfl, fun h2 => nf62 w _ ⟨_, rfl, ret_int ?_, rfl⟩, fun h2 => ⟨ret_int ?_, rfl⟩⟩⟩
  · have := dT h; unfold clampI; repeat' split
    all_goals omega
  · have := dF h; have := dT h2; unfold clampI; repeat' split
    all_goals omega
  · have := dF h; have := dF h2; unfold clampI; repeat' split
    all_goals omega
theorem ago_c (now then' : Int) (w : World) : Calls Tryd.prog 48 #[.int .i64 now, .int .i64 then'] w fun e w' => e = .returned (.int .i64 (agoI now then')) ∧ w = w' := by
  refine nf48 now then' w _ ((hold_c now w).mono ?_)
  rintro _ _ ⟨rfl, rfl⟩
  refine ⟨_, rfl, (hold_c then' w).mono ?_⟩
  rintro _ _ ⟨rfl, rfl⟩
  refine ⟨_, rfl, (hold_c _ w).mono ?_⟩
  rintro _ _ ⟨rfl, rfl⟩
  have h1 := clamp_range now
  have h2 := clamp_range then'
  refine ⟨_, rfl, ret_int ?_, rfl⟩
  rw [wr (by omega)]
  unfold agoI
  split
  · rename_i h
    unfold clampI at *
    rw [if_pos h, if_neg (by omega)]
  · exact clamp_id (by omega)

/-! ### the state -/
structure Rn where
  steps : List (List Str)
  f : Str → Bool
  calm : Int
  drill : Bool
  level : Nat
  falling : Bool
  since : Int
def rowV (f : Str → Bool) (l : List Str) : List Value := l.map fun s => .bool (f s)
theorem rowV_len (f : Str → Bool) (l : List Str) : (rowV f l).length = l.length := List.length_map _
def runV (os : Option Addr) (n cs : Nat) (oo : Option Addr) (co : Nat) (r : Rn) : List Value :=
  [.slice os n cs, .slice oo n co, .int .i64 r.calm, .bool r.drill, .int .i64 (r.level : Int), .bool r.falling, .int .i64 r.since]
/-- the execution at block t, its rows of flags at the blocks gs; what is only read lies in blocks that D names -/
structure RunAt (w : World) (B t : Nat) (gs : List Nat) (D : Nat → Prop) (r : Rn) : Prop where
  ex : ∃ os cs oo co, Row w t 84 (runV os r.steps.length cs oo co r) ∧ Lol w D os r.steps ∧
    ∀ (i : Nat) l, r.steps[i]? = some l → ∃ a g, oo = some a ∧ D a.block ∧ gs[i]? = some g ∧ w.cell? (a.add ((i : Int).toNat * 1)) = some (.slice (some ⟨g, 0, none⟩) l.length l.length) ∧ Row w g 4 (rowV r.f l)
  nd : (t :: gs).Nodup
  lo : ∀ b, b = t ∨ b ∈ gs → B ≤ b ∧ b < hs w
  dm : ∀ b, D b → b < hs w ∧ ¬ (b = t ∨ b ∈ gs)
theorem RunAt.keep {S : Nat → Prop} {w w' : World} {B t : Nat} {gs : List Nat} {D : Nat → Prop} {r : Rn} (h : RunAt w B t gs D r) (g : Only S w w') (h1 : ∀ b, b = t ∨ b ∈ gs → ¬ S b) (h2 : ∀ b, D b → ¬ S b) : RunAt w' B t gs D r := by
  obtain ⟨os, cs, oo, co, k1, k2, k3⟩ := h.ex
  have hz := g.size
  refine ⟨⟨os, cs, oo, co, k1.keep g (h1 _ (.inl rfl)), k2.keep g h2, fun i l hi => ?_⟩, h.nd, fun b hb => ⟨(h.lo b hb).1, by have := (h.lo b hb).2; omega⟩, fun b hb => ⟨by have := (h.dm b hb).1; omega, (h.dm b hb).2⟩⟩
  obtain ⟨a, gb, q1, q2, q3, q4, q5⟩ := k3 i l hi
  exact ⟨a, gb, q1, q2, q3, cell_keep g (by rw [block_add1]; exact h2 _ q2) q4, q5.keep g (h1 _ (.inr (List.mem_of_getElem? q3)))⟩
theorem RunAt.grow {w w' : World} {B t : Nat} {gs : List Nat} {D : Nat → Prop} {r : Rn} (h : RunAt w B t gs D r) (g : Grow w w') : RunAt w' B t gs D r := h.keep g (fun _ _ h => h) fun _ _ h => h
abbrev InRun (t : Nat) (gs : List Nat) : Nat → Prop := fun b => b = t ∨ b ∈ gs
theorem getElem_once {gs : List Nat} (h : gs.Nodup) {i j : Nat} {g : Nat} (hi : gs[i]? = some g) (hj : gs[j]? = some g) : i = j := by
  obtain ⟨q1, q2⟩ := List.getElem?_eq_some_iff.1 hi
  obtain ⟨q3, q4⟩ := List.getElem?_eq_some_iff.1 hj
  have hp := List.pairwise_iff_getElem.1 h
  rcases Nat.lt_trichotomy i j with k | k | k
  · exact absurd (q2.trans q4.symm) (hp i j q1 q3 k)
  · exact k
  · exact absurd (q4.trans q2.symm) (hp j i q3 q1 k)
/-- a row of flags is turned -/
theorem RunAt.turn {w w' : World} {B t i g : Nat} {gs : List Nat} {D : Nat → Prop} {r : Rn} {l : List Str} {f' : Str → Bool} (h : RunAt w B t gs D r) (hi : r.steps[i]? = some l) (hg : gs[i]? = some g)
    (o : Only (fun b => b = g) w w') (hr : Row w' g 4 (rowV f' l)) (hf : ∀ (k : Nat) l', k ≠ i → r.steps[k]? = some l' → ∀ s ∈ l', f' s = r.f s) : RunAt w' B t gs D { r with f := f' } := by
  obtain ⟨os, cs, oo, co, k1, k2, k3⟩ := h.ex
  have hz := o.size
  have hgm : g ∈ gs := List.mem_of_getElem? hg
  have htg : t ≠ g := fun e => (List.nodup_cons.1 h.nd).1 (by rw [e]; exact hgm)
  have hd : ∀ b, D b → ¬ b = g := fun b hb e => (h.dm b hb).2 (.inr (by rw [e]; exact hgm))
  refine ⟨⟨os, cs, oo, co, k1.keep o htg, k2.keep o hd, fun k l' hk => ?_⟩, h.nd, fun b hb => ⟨(h.lo b hb).1, by have := (h.lo b hb).2; omega⟩, fun b hb => ⟨by have := (h.dm b hb).1; omega, (h.dm b hb).2⟩⟩
  obtain ⟨a, g', q1, q2, q3, q4, q5⟩ := k3 k l' hk
  refine ⟨a, g', q1, q2, q3, cell_keep o (by rw [block_add1]; exact hd _ q2) q4, ?_⟩
  by_cases e : k = i
  · subst e
    rw [hi] at hk
    cases hk
    rw [hg] at q3
    cases q3
    exact hr
  · have hne : g' ≠ g := fun e' => e (getElem_once (List.nodup_cons.1 h.nd).2 q3 (by rw [e']; exact hg))
    have : rowV f' l' = rowV r.f l' := List.map_congr_left fun s hs => by rw [hf k l' e hk s hs]
    show Row w' g' 4 (rowV f' l')
    rw [this]
    exact q5.keep o hne
/-- the head is turned -/
theorem RunAt.head {w w' : World} {B t : Nat} {gs : List Nat} {D : Nat → Prop} {r r' : Rn} (h : RunAt w B t gs D r) (o : Only (fun b => b = t) w w') (hr : ∀ os cs oo co, Row w t 84 (runV os r.steps.length cs oo co r) → Row w' t 84 (runV os r.steps.length cs oo co r'))
    (hs : r'.steps = r.steps) (hf : r'.f = r.f) : RunAt w' B t gs D r' := by
  obtain ⟨os, cs, oo, co, k1, k2, k3⟩ := h.ex
  have hz := o.size
  have hd : ∀ b, D b → ¬ b = t := fun b hb e => (h.dm b hb).2 (.inl e)
  refine ⟨⟨os, cs, oo, co, by rw [hs]; exact hr os cs oo co k1, by rw [hs]; exact k2.keep o hd, fun k l' hk => ?_⟩, h.nd, fun b hb => ⟨(h.lo b hb).1, by have := (h.lo b hb).2; omega⟩, fun b hb => ⟨by have := (h.dm b hb).1; omega, (h.dm b hb).2⟩⟩
  rw [hs] at hk
  obtain ⟨a, g', q1, q2, q3, q4, q5⟩ := k3 k l' hk
  have htg : g' ≠ t := fun e => (List.nodup_cons.1 h.nd).1 (by rw [← e]; exact List.mem_of_getElem? q3)
  exact ⟨a, g', q1, q2, q3, cell_keep o (by rw [block_add1]; exact hd _ q2) q4, by rw [hf]; exact q5.keep o htg⟩
theorem run_clear_row {P : Program} {w : World} {t e ty T g n c : Nat} {z : Value} {l : List Value} {K : Value → World → Prop} (ht : P.underlying t = some (.slice e)) (hv : ∀ w, (zeroValue e).run P w = .ok z w) (hz : z.cells = #[z]) (h1 : z.oneCell' = true)
    (h : Row w g T l) (hl : l.length = n) (hn : 0 < n) (hK : ∀ w', Row w' g T (List.replicate n z) → Only (fun b => b = g) w w' → K (.tuple #[]) w') : RunOk P (Hold (Builtin.clear_ #[t] ty #[.slice (some ⟨g, 0, none⟩) n c])) w K := by
  have hzc : (Builtin.zeroCells z.cells n).toList = List.replicate n z := by
    rw [hz]
    simp [Builtin.zeroCells]
    apply List.ext_getElem
    · simp
    · intro i h1 h2
      simp [Nat.mod_one]
  have hst := run_storeCells (P := P) (a := (⟨g, 0, none⟩ : Addr)) (List.replicate n z) 0 w (h.there (o := 0) (n := n) (by omega)) (by rw [List.length_replicate]; omega) (List.all_eq_true.2 fun u hu => by rw [List.eq_of_mem_replicate hu]; exact h1)
  have hs := h.set (o := 0) (vs := List.replicate n z) rfl
  rw [setFrom_all _ _ (by rw [List.length_replicate]; exact hl.symm)] at hs
  refine ⟨_, _, ?_, hK _ hs (only_set rfl)⟩
  unfold Hold
  obtain ⟨m, rfl⟩ : ∃ m, n = m + 1 := ⟨n - 1, by omega⟩
  simp [Builtin.clear_, run_underlying ht, hv, hzc, hst]
end Go.Proofs.YtolpmdmcbciccaaDoor
