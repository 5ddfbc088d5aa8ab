/- The engine, part I: a loop over a function. The iterator and the rounds own blocks of their own: M names those that the iterator may write, which no round touches. -/
import Derived.Test.YtcaokpglbolkcaaNfM
import Derived.Test.YtcaokpglbolkcaaNfD
import Derived.RangeFuncIn
import Derived.RangeFuncRecord
import Derived.RangeFuncLeaves
namespace Go.Nf
open Go Go.RowKit

def noCells : Obj → Bool
  | .cells .. => false
  | _ => true
theorem yieldAt_mono {P : Program} {l : Nat} {args : Array Value} {w : World} {R R' : Ending → World → Prop} (h : YieldAt Fence.wide 0 P l args w R) (hr : ∀ e w, R e w → R' e w) : YieldAt Fence.wide 0 P l args w R' := by
  obtain ⟨fn, tmps, asg, body, h1, h2⟩ := h
  exact ⟨fn, tmps, asg, body, h1, h2.mono hr⟩
/-- what a round promises to an iterator -/
structure Yielder {α : Type} (P : Program) (Val : α → Value → (Nat → Prop) → World → Prop) (R : List α → (Nat → Prop) → World → Prop) (Rx : List α → World → Prop) (l : Nat) : Prop where
  step : ∀ pre M M' W W', R pre M W → Only M W W' → (∀ b, M' b → M b ∨ (hs W ≤ b ∧ b < hs W')) → R pre M' W'
  yield : ∀ pre x v M W, R pre M W → Val x v M W → YieldAt Fence.wide 0 P l #[v] W fun e W' => Only (fun b => ¬ M b) W W' ∧ ((e = .returned (.bool true) ∧ R (pre ++ [x]) M W') ∨ (e = .returned (.bool false) ∧ Rx (pre ++ [x]) W'))
/-- what an iterator promises: all comes, in order, or so much of it till a round says no -/
def Gives {α : Type} (P : Program) (Val : α → Value → (Nat → Prop) → World → Prop) (gf : Nat) (lb : Array Value) (M0 : Nat → Prop) (w : World) (all : List α) : Prop :=
  ∀ l R Rx W, Yielder P Val R Rx l → Grow w W → R [] M0 W → Calls P gf (#[.func (.yield l) #[] #[]] ++ lb) W fun e W' => (∃ v, e = .returned v) ∧ ((∃ M, R all M W') ∨ (∃ m, m <+: all ∧ Rx m W'))
theorem only_putObj {W : World} {l : Nat} {o : Obj} : Only (fun b => b = l) W (W.putObj l o) :=
  ⟨rfl, rfl, rfl, by simp [hs, World.putObj], fun k _ hk => World.putObj_heap_other hk⟩
theorem enters_of_callee {P : Program} {g : Nat} (h : calleeOk P g = true) (args : Array Value) (w : World) : (callFunc g args).run P w = .ok (.enter g args) w := by
  unfold calleeOk at h
  cases hfn : P.funcs[g]? with
  | none => rw [hfn] at h; cases h
  | some fn =>
    rw [hfn] at h
    simp only [Bool.and_eq_true, Bool.not_eq_true'] at h
    have hn : fn.body.isNone = false := by cases hb : fn.body <;> simp_all
    simp only [callFunc, Sem.run_bind, run_program, Result.andThen_ok, hfn, h.2, hn, Bool.false_eq_true, if_false, Sem.run_pure]

section
variable {P : Program} {α : Type} {Val : α → Value → (Nat → Prop) → World → Prop}
/-- how a round's body may be left -/
def roundQ (J : List α → (Nat → Prop) → World → Prop) (Jx : Code → List α → (Nat → Prop) → World → Prop) (xs : List α) (M : Nat → Prop) (W : World) : Exit → Act → World → Prop
  | .normal, _, W' => Only (fun b => ¬ M b) W W' ∧ J xs M W'
  | .ret, _, W' => Only (fun b => ¬ M b) W W' ∧ Jx .ret xs M W'
  | .exit id, _, W' => Only (fun b => ¬ M b) W W' ∧ Jx (.exit id) xs M W'
  | _, _, _ => False
theorem fits_args {args : Array Value} {n : Nat} (h : args.size ≤ n) : Fits n [] { tmps := args ++ Array.replicate (n - args.size) undef, defers := [] } (argEnv args) := by
  refine ⟨?_, by simp; omega, rfl⟩
  funext i
  simp only [envOf, argEnv, Array.getD_eq_getD_getElem?, List.getD_eq_getElem?_getD]
  rw [Array.getElem?_append]
  split
  · simp
  · rename_i hi
    rw [Array.getElem?_replicate]
    have : args.toList[i]? = none := by simp; omega
    rw [this]
    split <;> rfl
theorem wpIn_reg0 {ops : Array Oper} {ms : Marks} {n : Nat} {d : List Deferred} {r : Option Nat} {id : Nat} {Q : Exit → Act → World → Prop} {a : Act} {ρ : Env} {w : World} (hf : Fits n d a ρ) (hd : dstsIn ops.toList n = true)
    (h : vcOps P ops ms ops.toList 0 ρ w fun ρ' w' => ∀ a', Fits n d a' ρ' → Q .normal a' w') : (Code.region id ops false).wpIn (FW r) 0 P Q a w :=
  wpIn_region_list (vcOps_sound (r := r) (ms := ms) _ 0 ρ w a hf hd h)
theorem wpIn_reg {ops : Array Oper} {ms : Marks} {n : Nat} {d : List Deferred} {r : Option Nat} {id : Nat} {Q : Exit → Act → World → Prop} {a : Act} {ρ : Env} {w : World} {K : Env → World → Prop} (hf : Fits n d a ρ) (hd : dstsIn ops.toList n = true)
    (h : vcOps P ops ms ops.toList 0 ρ w K) (hk : ∀ ρ' w' a', OffEq (dsts ops.toList) ρ ρ' → K ρ' w' → Fits n d a' ρ' → Q .normal a' w') : (Code.region id ops false).wpIn (FW r) 0 P Q a w :=
  wpIn_region_list (vcOps_sound (r := r) (ms := ms) _ 0 ρ w a hf hd (vcOps_mono _ _ _ _ _ _ (fun ρ' w' ho hq a' hf' => hk ρ' w' a' ho hq hf') h))
theorem wp_rangeFunc {g : Operand} {p : Tmp} {assign body : Code} {Q : Exit → Act → World → Prop} {a : Act} {w : World} {gf : Nat} {lb : Array Value} {M0 : Nat → Prop} {all : List α}
    (hg : a.eval g = .func (.func gf) #[] lb) (hc : calleeOk P gf = true) (hit : Gives P Val gf lb M0 w all)
    (hVal : ∀ x v M W k o, Val x v M W → W.heap[k]? = some o → noCells o = true → Val x v (fun b => M b ∨ b = k) W)
    (hValO : ∀ x v M W k o o', Val x v M W → W.heap[k]? = some o → noCells o = true → Val x v M (W.putObj k o'))
    (J : List α → (Nat → Prop) → World → Prop) (Jx : Code → List α → (Nat → Prop) → World → Prop)
    (hJ : ∀ pre M M' W W', J pre M W → Only M W W' → (∀ b, M' b → M b ∨ (hs W ≤ b ∧ b < hs W')) → J pre M' W')
    (hJx : ∀ c pre M W W', Jx c pre M W → Only M W W' → Jx c pre M W')
    (h0 : J [] M0 w) (hM0 : ∀ b, M0 b → b < hs w) (a₁ : Value → Act → Prop)
    (hassign : ∀ (l : Nat) (v : Value) (W : World) (K : Act → World → Prop), (∀ a', a₁ v a' → K a' W) → assign.wpIn (FW (some l)) 0 P (Exit.then K (fun _ _ _ => False)) { tmps := a.tmps.setIfInBounds p v, defers := [] } W)
    (hbody : ∀ (l : Nat) (pre : List α) (x : α) (v : Value) (M : Nat → Prop) (W : World) (a' : Act), a₁ v a' → J pre M W → Val x v M W → body.wpIn (FW (some l)) 0 P (roundQ J Jx (pre ++ [x]) M W) a' W)
    (hdone : ∀ (D : Nat) (M : Nat → Prop) (W : World), hs w ≤ D → M D → J all M W → W.heap[D]? = some (.deferred (some [])) → Q .normal { a with defers := { target := .collected D, args := #[] } :: a.defers } W)
    (hstop : ∀ (D : Nat) (c : Code) (m : List α) (M : Nat → Prop) (W : World), hs w ≤ D → M D → m <+: all → Jx c m M W → W.heap[D]? = some (.deferred (some [])) → c.wpIn Fence.wide 0 P Q { a with defers := { target := .collected D, args := #[] } :: a.defers } W) :
    (Code.rangeFunc g #[p] assign body).wp P Q a w := by
  refine (wpIn_wide (n := 0)).1 (wpIn_rangeFunc ?_)
  intro fn hfn
  obtain ⟨rec, hrec⟩ : ∃ rec : LoopState → Option Code → Loop, rec = fun st pe => { state := st, pending := pe, fn, tmps := a.tmps, params := #[p], assign, body, defers := w.heap.size } := ⟨_, rfl⟩
  obtain ⟨W1, hW1⟩ : ∃ W1, (w.alloc (.deferred (some []))).alloc (.loop (rec .ready none)) = W1 := ⟨_, rfl⟩
  obtain ⟨D, hD⟩ : ∃ D, w.heap.size = D := ⟨_, rfl⟩
  have hL1 : W1.heap[D + 1]? = some (.loop (rec .ready none)) := by
    rw [← hW1, ← hD]; have := World.alloc_heap_new (w.alloc (.deferred (some []))) (.loop (rec .ready none)); rwa [World.size_alloc] at this
  have hK1 : W1.heap[D]? = some (.deferred (some [])) := by
    rw [← hW1, ← hD]; exact (Below.heap_alloc _ _ _ (by simp)).trans (World.alloc_heap_new w _)
  have g1 : Grow w W1 := by rw [← hW1]; exact (only_alloc rfl).trans' (only_alloc rfl)
  have s1 : hs W1 = D + 2 := by rw [← hW1, ← hD]; simp [hs]
  have sD : hs w = D := hD
  refine ⟨D + 1, [{ target := .collected D, args := #[] }], W1, { target := .fn (.func gf) lb, args := #[.func (.yield (D + 1)) #[] #[]] }, W1, gf,
    #[.func (.yield (D + 1)) #[] #[]] ++ lb, W1, ?_, ?_, fun _ _ => trivial, ?_, fun h => (by simp [Fence.wide] at h), ?_⟩
  · rw [← hW1, hrec, ← hD]; exact run_enterLoop_outer _ _ _ _ _
  · simp only [resolve, hg]
    simp [go_sem]
  · simp [invoke, go_sem, enters_of_callee hc]
  · refine (callsIn_wide (n := 0)).2 ?_
    let ext : (Nat → Prop) → Nat → Prop := fun M b => (M b ∨ b = D) ∨ b = D + 1
    refine (hit (D + 1) (fun pre M W => (¬ M D ∧ ¬ M (D + 1)) ∧ J pre (ext M) W ∧ W.heap[D + 1]? = some (.loop (rec .ready none)) ∧ W.heap[D]? = some (.deferred (some [])))
      (fun pre W => ∃ c M, M D ∧ M (D + 1) ∧ Jx c pre M W ∧ W.heap[D + 1]? = some (.loop (rec .done (some c))) ∧ W.heap[D]? = some (.deferred (some []))) W1 ⟨?_, ?_⟩ g1 ⟨⟨fun h => ?_, fun h => ?_⟩, hJ [] M0 _ w W1 h0 g1.only fun b hb => ?_, hL1, hK1⟩).mono ?_
    · rintro pre M M' W W' ⟨⟨hn1, hn2⟩, hj, hl, hk⟩ g hM'
      have b1 : D + 1 < W.heap.size := (Array.getElem?_eq_some_iff.1 hl).1
      have key : ∀ k, k ≤ D + 1 → ¬ M k → ¬ M' k := fun k hk hn h => by
        rcases hM' k h with h | h
        · exact hn h
        · have : hs W = W.heap.size := rfl
          omega
      refine ⟨⟨key D (by omega) hn1, key (D + 1) (by omega) hn2⟩, hJ pre (ext M) (ext M') W W' hj (g.mono fun b _ hb => .inl (.inl hb)) fun b hb => ?_, (g.block _ b1 hn2).trans hl, (g.block _ (by omega : D < W.heap.size) hn1).trans hk⟩
      rcases hb with (hb | hb) | hb
      · rcases hM' b hb with h | h
        · exact .inl (.inl (.inl h))
        · exact .inr h
      · exact .inl (.inl (.inr hb))
      · exact .inl (.inr hb)
    · rintro pre x v M W ⟨⟨hn1, hn2⟩, hj, hl, hk⟩ hv
      have hlt : D + 1 < W.heap.size := (Array.getElem?_eq_some_iff.1 hl).1
      have hy := run_yield (P := P) (args := #[v]) hl (by rw [hrec]; rfl)
      rw [hrec] at hy
      have hy' : (Instr.yield (D + 1) #[v]).run P W = .ok (.round (D + 1) fn (a.tmps.setIfInBounds p v) assign body) W := by
        simpa using hy
      refine ⟨fn, _, assign, body, hy', roundIn_of_wpIn (F := Fence.wide) trivial (hassign (D + 1) v W _ fun a' ha' => ⟨_, run_beginRound hl (by rw [hrec]), ?_⟩)⟩
      obtain ⟨W2, hW2⟩ : ∃ W2, W.putObj (D + 1) (.loop { rec .ready none with state := .busy }) = W2 := ⟨_, rfl⟩
      have g2 : Only (fun b => b = D + 1) W W2 := by rw [← hW2]; exact only_putObj
      have hl2 : W2.heap[D + 1]? = some (.loop { rec .ready none with state := .busy }) := by rw [← hW2]; exact World.putObj_heap_same hlt
      have hk2 : W2.heap[D]? = some (.deferred (some [])) := by rw [← hW2]; exact (World.putObj_heap_other (by omega)).trans hk
      have hj2 : J pre (ext M) W2 := hJ pre (ext M) (ext M) W W2 hj (g2.mono fun b _ hb => .inr hb) fun b hb => .inl hb
      have hv2 : Val x v (ext M) W2 := by
        have h1 := hVal x v M W D _ hv hk rfl
        have h2 := hVal x v _ W (D + 1) _ h1 hl rfl
        rw [← hW2]
        exact hValO x v _ W (D + 1) _ _ h2 hl rfl
      rw [hW2]
      refine wpIn_mono (hbody (D + 1) pre x v (ext M) W2 a' ha' hj2 hv2) ?_
      have fin : ∀ (jump : Option Code) (W3 : World), Only (fun b => ¬ ext M b) W2 W3 →
          ∃ W4, (Instr.endRound (D + 1) jump).run P W3 = .ok (.bool jump.isNone) W4 ∧ Only (fun b => b = D + 1) W3 W4 ∧ Only (fun b => ¬ M b) W W4 ∧ W4.heap[D + 1]? = some (.loop (rec (if jump.isNone then .ready else .done) jump)) ∧ W4.heap[D]? = some (.deferred (some [])) := fun jump W3 g3 => by
        have b2 : D + 1 < W2.heap.size := (Array.getElem?_eq_some_iff.1 hl2).1
        have hl3 : W3.heap[D + 1]? = some (.loop { rec .ready none with state := .busy }) := (g3.block _ b2 (fun h => h (.inr rfl))).trans hl2
        have hk3 : W3.heap[D]? = some (.deferred (some [])) := (g3.block _ (by omega : D < W2.heap.size) (fun h => h (.inl (.inr rfl)))).trans hk2
        have := run_endRound (P := P) jump hl3
        refine ⟨_, by rw [this], only_putObj, ((g2.mono fun b _ hb => ?_).trans (g3.mono fun b _ hb h => hb (.inl (.inl h))) fun b _ h => h).trans (only_putObj.mono fun b _ hb => ?_) fun b _ h => h, ?_, (World.putObj_heap_other (by omega)).trans hk3⟩
        · rw [hb]; exact hn2
        · rw [hb]; exact hn2
        · rw [hrec] at hl3 ⊢
          exact World.putObj_heap_same (Array.getElem?_eq_some_iff.1 hl3).1
      rintro e a3 W3 hp
      cases e with
      | normal =>
        obtain ⟨g3, hj3⟩ := hp
        obtain ⟨W4, hr, g4, g5, hl4, hk4⟩ := fin none W3 g3
        exact ⟨_, _, hr, g5, .inl ⟨rfl, ⟨hn1, hn2⟩, hJ _ (ext M) (ext M) W3 W4 hj3 (g4.mono fun b _ hb => .inr hb) fun b hb => .inl hb, hl4, hk4⟩⟩
      | ret =>
        obtain ⟨g3, hj3⟩ := hp
        obtain ⟨W4, hr, g4, g5, hl4, hk4⟩ := fin (some .ret) W3 g3
        exact ⟨_, _, hr, g5, .inr ⟨rfl, .ret, ext M, .inl (.inr rfl), .inr rfl, hJx _ _ _ W3 W4 hj3 (g4.mono fun b _ hb => .inr hb), hl4, hk4⟩⟩
      | exit id =>
        obtain ⟨g3, hj3⟩ := hp
        obtain ⟨W4, hr, g4, g5, hl4, hk4⟩ := fin (some (.exit id)) W3 g3
        exact ⟨_, _, hr, g5, .inr ⟨rfl, .exit id, ext M, .inl (.inr rfl), .inr rfl, hJx _ _ _ W3 W4 hj3 (g4.mono fun b _ hb => .inr hb), hl4, hk4⟩⟩
      | goto t => exact hp.elim
      | panic ch => exact hp.elim
      | outgrown => exact hp.elim
    · have := hM0 D h; omega
    · have := hM0 (D + 1) h; omega
    · rcases hb with (hb | hb) | hb
      · exact .inl hb
      · exact .inr (by omega)
      · exact .inr (by omega)
    · rintro e W2 ⟨⟨v, rfl⟩, (⟨M, ⟨hn1, hn2⟩, hj, hl, hk⟩ | ⟨m, hm, c, M, hM1, hM2, hj, hl, hk⟩)⟩
      · refine ⟨none, _, by have := run_endLoop (P := P) hl (by rw [hrec]; simp); rw [hrec] at this; exact this, hdone D (ext M) _ (by omega) (.inl (.inr rfl)) (hJ _ (ext M) (ext M) W2 _ hj (only_putObj.mono fun b _ hb => .inr hb) fun b hb => .inl hb) ((World.putObj_heap_other (by omega)).trans hk)⟩
      · refine ⟨some c, _, by have := run_endLoop (P := P) hl (by rw [hrec]; simp); rw [hrec] at this; exact this, hstop D c m M _ (by omega) hM1 hm (hJx _ _ _ W2 _ hj (only_putObj.mono fun b _ hb => by rw [hb]; exact hM2)) ((World.putObj_heap_other (by omega)).trans hk)⟩
end
end Go.Nf
