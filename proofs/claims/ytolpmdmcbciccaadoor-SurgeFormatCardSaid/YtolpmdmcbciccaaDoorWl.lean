/- Contracts: the level, in the program and in the reference. -/
import Derived.Test.YtolpmdmcbciccaaDoorWk
namespace Go.Proofs.YtolpmdmcbciccaaDoor
open Go Go.Nf Go.RowKit

structure Inc where
  id : Int
  urg : Int
  code : Str
  oN : Option Addr
  nN : Nat
  cN : Nat
  district : Int
  since : Int
  oC : Option Addr
  nC : Nat
  cC : Nat
  oU : Option Addr
  nU : Nat
  cU : Nat
  merged : Int
  closed : Bool
def encInc (x : Inc) : List Value := [.int .i64 x.id, .int .i64 x.urg, .string (BA x.code), .slice x.oN x.nN x.cN, .int .i64 x.district, .int .i64 x.since, .slice x.oC x.nC x.cC, .slice x.oU x.nU x.cU, .int .i64 x.merged, .bool x.closed]
structure Un where
  id : Int
  kind : Int
  home : Int
  state : Int
  node : Int
  seq : Int
  last : Int
  inc : Int
  epoch : Int
  acked : Int
def encUn (x : Un) : List Value := [.int .i64 x.id, .int .i64 x.kind, .int .i64 x.home, .int .i64 x.state, .int .i64 x.node, .int .i64 x.seq, .int .i64 x.last, .int .i64 x.inc, .int .i64 x.epoch, .int .i64 x.acked]
abbrev Incs (w : World) (A : Nat → Prop) (o : Option Addr) (l : List Inc) : Prop := Recs w A o 10 (l.map encInc)
abbrev Uns (w : World) (A : Nat → Prop) (o : Option Addr) (l : List Un) : Prop := Recs w A o 10 (l.map encUn)
theorem Recs.atE {α : Type} {f : α → List Value} {w : World} {A : Nat → Prop} {o : Option Addr} {k : Nat} {l : List α} (h : Recs w A o k (l.map f)) {i : Nat} {x : α} (hi : l[i]? = some x) :
    ∃ a, o = some a ∧ ∀ j v, (f x)[j]? = some v → w.cell? ((a.add ((i : Int).toNat * k)).add j) = some v := by
  obtain ⟨a, ha, -, hc⟩ := h i (f x) (by rw [List.getElem?_map, hi]; rfl)
  exact ⟨a, ha, hc⟩
def haveL (units : List Un) (id : Int) : List Int := (units.filter fun u => decide (u.inc = id)).map (·.kind)
def act (x : Inc) : Bool := (decide (x.urg = 1) || decide (x.urg = 2)) && !x.closed && decide (x.merged = 0)
def need (units : List Un) (plans : List Pln) (x : Inc) : Nat := if act x = true then (unmetL (kindsOf plans x.code x.urg) (cnt (haveL units x.id))).length else 0
def freeN (units : List Un) : Nat := units.countP fun u => decide (u.state = 1)
def needs (l : List Inc) (units : List Un) (plans : List Pln) : Nat := (l.map (need units plans)).sum
def missing (l : List Inc) (units : List Un) (plans : List Pln) : Int := (needs l units plans : Int) - (freeN units : Int)
theorem need_le {units : List Un} {plans : List Pln} (h : Fews plans) (x : Inc) : need units plans x ≤ 1000 := by
  unfold need
  split
  · exact Nat.le_trans (unmet_sub _ _) (kinds_len h _ _)
  · omega
theorem needs_le {units : List Un} {plans : List Pln} (h : Fews plans) : ∀ (l : List Inc), needs l units plans ≤ 1000 * l.length
  | [] => by simp [needs]
  | x :: l => by
    have ih := needs_le (units := units) h l
    have := need_le (units := units) h x
    unfold needs at ih ⊢
    rw [List.map_cons, List.sum_cons, List.length_cons]
    omega
theorem needs_take {l : List Inc} {units : List Un} {plans : List Pln} {i : Nat} {x : Inc} (h : l[i]? = some x) : needs (l.take (i + 1)) units plans = needs (l.take i) units plans + need units plans x := by
  obtain ⟨q1, q2⟩ := List.getElem?_eq_some_iff.1 h
  unfold needs
  rw [List.take_succ_eq_append_getElem q1, q2, List.map_append, List.sum_append]
  simp
theorem free_take {l : List Un} {i : Nat} {x : Un} (h : l[i]? = some x) : freeN (l.take (i + 1)) = freeN (l.take i) + if x.state = 1 then 1 else 0 := by
  obtain ⟨q1, q2⟩ := List.getElem?_eq_some_iff.1 h
  unfold freeN
  rw [List.take_succ_eq_append_getElem q1, q2, List.countP_append]
  by_cases e : x.state = 1 <;> simp [e]
theorem have_take {l : List Un} {id : Int} {i : Nat} {x : Un} (h : l[i]? = some x) : haveL (l.take (i + 1)) id = haveL (l.take i) id ++ if x.inc = id then [x.kind] else [] := by
  obtain ⟨q1, q2⟩ := List.getElem?_eq_some_iff.1 h
  unfold haveL
  rw [List.take_succ_eq_append_getElem q1, q2, List.filter_append, List.map_append]
  by_cases e : x.inc = id <;> simp [e]
theorem have_le (l : List Un) (id : Int) : (haveL l id).length ≤ l.length := by
  unfold haveL
  rw [List.length_map]
  exact List.length_filter_le _ _
theorem free_le (l : List Un) : freeN l ≤ l.length := List.countP_le_length
def arrOf (P : Program) (t : TypeId) : Option (Nat × TypeId) := match P.underlying t with
  | some (.array n e) => some (n, e)
  | _ => none
theorem of_arr {P : Program} {t e : TypeId} {n : Nat} (h : arrOf P t = some (n, e)) : P.underlying t = some (.array n e) := by
  unfold arrOf at h
  split at h
  · rename_i n' e' he
    cases h
    exact he
  · cases h
theorem und79 : Tryd.prog.underlying 79 = some (.array 5 3) := of_arr (by kernel_rfl)
theorem info3 : ∃ i, Tryd.prog.info? 3 = some i ∧ i.size = 1 := by
  have h : (Tryd.prog.info? 3).map (·.size) = some 1 := by kernel_rfl
  cases hi : Tryd.prog.info? 3 with
  | none => rw [hi] at h; cases h
  | some i => rw [hi] at h; exact ⟨i, rfl, by simpa using h⟩
def upN : List Int := [0, 2, 5, 10, 20]
theorem step_level {n : Int} {i : Nat} {u : Int} (hu : upN[i]? = some u) : (n ≤ u → (∀ (j : Nat) v, j < i → upN[j]? = some v → ¬ n ≤ v) → levelOf n = (i : Int)) := by
  intro h hn
  have hi : i < 5 := by have := (List.getElem?_eq_some_iff.1 hu).1; exact this
  rcases (show i = 0 ∨ i = 1 ∨ i = 2 ∨ i = 3 ∨ i = 4 by omega) with rfl | rfl | rfl | rfl | rfl
  · cases hu
    unfold levelOf; rw [if_pos h]; rfl
  · cases hu
    have h0 := hn 0 0 (by omega) rfl
    unfold levelOf; rw [if_neg h0, if_pos h]; rfl
  · cases hu
    have h0 := hn 0 0 (by omega) rfl
    have h1 := hn 1 2 (by omega) rfl
    unfold levelOf; rw [if_neg h0, if_neg h1, if_pos h]; rfl
  · cases hu
    have h0 := hn 0 0 (by omega) rfl
    have h1 := hn 1 2 (by omega) rfl
    have h2 := hn 2 5 (by omega) rfl
    unfold levelOf; rw [if_neg h0, if_neg h1, if_neg h2, if_pos h]; rfl
  · cases hu
    have h0 := hn 0 0 (by omega) rfl
    have h1 := hn 1 2 (by omega) rfl
    have h2 := hn 2 5 (by omega) rfl
    have h3 := hn 3 10 (by omega) rfl
    unfold levelOf; rw [if_neg h0, if_neg h1, if_neg h2, if_neg h3, if_pos h]; rfl
theorem level_all {n : Int} (hn : ∀ (j : Nat) v, j < 5 → upN[j]? = some v → ¬ n ≤ v) : levelOf n = 5 := by
  unfold levelOf
  rw [if_neg (hn 0 0 (by omega) rfl), if_neg (hn 1 2 (by omega) rfl), if_neg (hn 2 5 (by omega) rfl), if_neg (hn 3 10 (by omega) rfl), if_neg (hn 4 20 (by omega) rfl)]
theorem run_idx {w : World} {i : Nat} {u : Int} {K : Value → World → Prop} (hu : upN[i]? = some u) (hK : K (.int .i64 u) w) : RunOk Tryd.prog (Hold (Instr.index 79 (.agg #[.int .i64 0, .int .i64 2, .int .i64 5, .int .i64 10, .int .i64 20]) (.int .i64 (i : Int)))) w K := by
  refine ⟨_, w, ?_, hK⟩
  have hi : i < 5 := by have := (List.getElem?_eq_some_iff.1 hu).1; exact this
  obtain ⟨inf, hinf, hsz⟩ := info3
  unfold Hold
  rcases (show i = 0 ∨ i = 1 ∨ i = 2 ∨ i = 3 ∨ i = 4 by omega) with rfl | rfl | rfl | rfl | rfl <;> cases hu <;> simp [Instr.index, run_underlying und79, asIntOf, part, sizeOf, typeInfo, hinf, hsz]
end Go.Proofs.YtolpmdmcbciccaaDoor
