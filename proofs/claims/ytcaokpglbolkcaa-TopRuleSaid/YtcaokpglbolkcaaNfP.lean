/- The engine, part P: a map from int to any values, as a list of pairs in the order in which they were put in; a loop over it. -/
import Derived.Test.YtcaokpglbolkcaaNfX
import Derived.Maps.RangeRun
namespace Go.Nf
open Go Go.MapKept Go.ChangeMaps

def entryV (p : Int × Value) : Value × Value := (.int .i64 p.1, p.2)
structure MapAt (w : World) (r : Nat) (l : List (Int × Value)) : Prop where
  ex : ∃ es clock, w.heap[r]? = some (.map es clock) ∧ Stamped es clock ∧ es.toList.map (fun x => (x.key, x.val)) = l.map entryV
theorem MapAt.lt {w : World} {r : Nat} {l : List (Int × Value)} (h : MapAt w r l) : r < hs w := by
  obtain ⟨es, clock, hb, -⟩ := h.ex
  rcases Nat.lt_or_ge r w.heap.size with h | h
  · exact h
  · rw [Array.getElem?_eq_none h] at hb; cases hb
theorem MapAt.keep {S : Nat → Prop} {w w' : World} {r : Nat} {l : List (Int × Value)} (h : MapAt w r l) (o : Only S w w') (hr : ¬ S r) : MapAt w' r l := by
  have hl := h.lt
  obtain ⟨es, clock, hb, h1, h2⟩ := h.ex
  exact ⟨es, clock, (o.block r hl hr).trans hb, h1, h2⟩
theorem MapAt.grow {w w' : World} {r : Nat} {l : List (Int × Value)} (h : MapAt w r l) (o : Grow w w') : MapAt w' r l := h.keep o fun h => h
theorem map_new {w w1 : World} {c : Nat} (e : w1 = w.alloc (.map #[] c)) : MapAt w1 (hs w) [] := by
  subst e
  exact ⟨#[], c, (heap_alloc w _).1, stamped_empty c, rfl⟩
theorem entries_at {es : Array MapEntry} {l : List (Int × Value)} (h : es.toList.map (fun x => (x.key, x.val)) = l.map entryV) {j : Nat} {e : MapEntry} (hj : es.toList[j]? = some e) : ∃ p, l[j]? = some p ∧ e.key = .int .i64 p.1 ∧ e.val = p.2 := by
  have := congrArg (fun x => x[j]?) h
  simp only [List.getElem?_map, hj, Option.map_some] at this
  cases hp : l[j]? with
  | none => rw [hp] at this; cases this
  | some p =>
    rw [hp] at this
    simp only [Option.map_some, Option.some.injEq, entryV, Prod.mk.injEq] at this
    exact ⟨p, rfl, this.1, this.2⟩
theorem entries_of {es : Array MapEntry} {l : List (Int × Value)} (h : es.toList.map (fun x => (x.key, x.val)) = l.map entryV) {j : Nat} {p : Int × Value} (hj : l[j]? = some p) : ∃ e, es.toList[j]? = some e ∧ e.key = .int .i64 p.1 ∧ e.val = p.2 := by
  have := congrArg (fun x => x[j]?) h
  simp only [List.getElem?_map, hj, Option.map_some] at this
  cases hp : es.toList[j]? with
  | none => rw [hp] at this; cases this
  | some e =>
    rw [hp] at this
    simp only [Option.map_some, Option.some.injEq, entryV, Prod.mk.injEq] at this
    exact ⟨e, rfl, this.1, this.2⟩
theorem entries_keys {es : Array MapEntry} {l : List (Int × Value)} (h : es.toList.map (fun x => (x.key, x.val)) = l.map entryV) : ∀ x ∈ es.toList, IsKey (.int .i64) x.key := fun x hx => by
  obtain ⟨j, hj, e⟩ := List.mem_iff_getElem.1 hx
  obtain ⟨p, -, hk, -⟩ := entries_at h (j := j) (e := x) (by rw [List.getElem?_eq_getElem hj, e])
  rw [hk]; exact isKey_int _
theorem only_block {w : World} {r : Nat} {o : Obj} : Only (fun b => b = r) w { w with heap := w.heap.setIfInBounds r o } :=
  ⟨rfl, rfl, rfl, by simp [hs], fun i _ hi => by simp [Ne.symm hi]⟩
theorem isKeyInt (k : Int) : IsKey (.int .i64) (.int .i64 k) := by simp [IsKey]
/-- a look with its second answer -/
theorem map_look {P : Program} {w : World} {r : Nat} {l : List (Int × Value)} {mty kt et : TypeId} {k : Int} {z : Value} {K : Value → World → Prop} (hm : P.underlying mty = some (.map kt et)) (hd : P.underlying kt = some (.int .i64))
    (hz : (zeroValue et).run P w = .ok z w) (h : MapAt w r l) (h0 : (∀ p : Int × Value, p ∈ l → p.1 ≠ k) → K (.tuple #[z, .bool false]) w) (h1 : ∀ (j : Nat) (p : Int × Value), l[j]? = some p → p.1 = k → K (.tuple #[p.2, .bool true]) w) :
    RunOk P (Hold (Instr.lookup mty (.map (some r)) (.int .i64 k) true)) w K := by
  obtain ⟨es, clock, hb, hst, hl⟩ := h.ex
  rcases findNow_spec (isKeyInt k) es.toList 0 (entries_keys hl) with ⟨f1, f2⟩ | ⟨j, e, f1, f2, f3⟩
  · refine ⟨_, w, ?_, h0 fun p hp e => ?_⟩
    · unfold Hold
      simp [Instr.lookup, run_underlying hm, MapKept.run_getObj_map hb, MapKept.run_checkKey hd (isKeyInt k), MapKept.run_findKey hd f1, hz, Result.andThen]
    · obtain ⟨j, hj, rfl⟩ := List.mem_iff_getElem.1 hp
      obtain ⟨x, hx, hk, -⟩ := entries_of hl (j := j) (List.getElem?_eq_getElem hj)
      exact f2 x (List.mem_of_getElem? hx) (by rw [hk, e])
  · obtain ⟨p, hp, hk, hv⟩ := entries_at hl f2
    rw [f3] at hk
    simp only [Value.int.injEq, true_and] at hk
    have := h1 j p hp hk.symm
    rw [← hv] at this
    refine ⟨_, w, ?_, this⟩
    unfold Hold
    simp [Instr.lookup, run_underlying hm, MapKept.run_getObj_map hb, MapKept.run_checkKey hd (isKeyInt k), MapKept.run_findKey hd f1, Result.andThen]
/-- a new key goes behind -/
theorem map_put {P : Program} {w : World} {r : Nat} {l : List (Int × Value)} {mty kt et : TypeId} {k : Int} {v : Value} {K : Unit → World → Prop} (hm : P.underlying mty = some (.map kt et)) (hd : P.underlying kt = some (.int .i64))
    (h : MapAt w r l) (hn : ∀ p : Int × Value, p ∈ l → p.1 ≠ k) (hK : ∀ w', MapAt w' r (l ++ [(k, v)]) → Only (fun b => b = r) w w' → K () w') : RunOk P (Hold (Instr.mapUpdate mty (.map (some r)) (.int .i64 k) v)) w K := by
  obtain ⟨es, clock, hb, hst, hl⟩ := h.ex
  have hno : ∀ x ∈ es.toList, x.key ≠ .int .i64 k := fun x hx e => by
    obtain ⟨j, hj, rfl⟩ := List.mem_iff_getElem.1 hx
    obtain ⟨p, hp, hk, -⟩ := entries_at hl (j := j) (List.getElem?_eq_getElem hj)
    rw [hk] at e
    simp only [Value.int.injEq, true_and] at e
    exact hn p (List.mem_of_getElem? hp) e
  rcases findNow_spec (isKeyInt k) es.toList 0 (entries_keys hl) with ⟨f1, f2⟩ | ⟨j, e, f1, f2, f3⟩
  · refine ⟨(), { w with heap := w.heap.setIfInBounds r (.map (es.push { key := .int .i64 k, val := v, born := clock }) (clock + 1)) }, ?_, hK _ ⟨_, _, (heap_set hb).1, stamped_push hst hno, ?_⟩ only_block⟩
    · unfold Hold
      simp [Instr.mapUpdate, run_underlying hm, MapKept.run_getObj_map hb, MapKept.run_checkKey hd (isKeyInt k), MapKept.run_findKey hd f1, MapKept.run_setObj_map _ hb, Result.andThen]
    · rw [Array.toList_push, List.map_append, List.map_append, hl]; rfl
  · exact absurd f3 (hno e (List.mem_of_getElem? f2))
/-- what is there goes out -/
theorem map_drop {P : Program} {w : World} {r j : Nat} {l : List (Int × Value)} {mty kt et ty : TypeId} {k : Int} {p : Int × Value} {K : Value → World → Prop} (hm : P.underlying mty = some (.map kt et)) (hd : P.underlying kt = some (.int .i64))
    (h : MapAt w r l) (hj : l[j]? = some p) (hk : p.1 = k) (hK : ∀ w', MapAt w' r (l.eraseIdx j) → Only (fun b => b = r) w w' → K (.tuple #[]) w') : RunOk P (Hold (Builtin.delete_ #[mty, kt] ty #[.map (some r), .int .i64 k])) w K := by
  obtain ⟨es, clock, hb, hst, hl⟩ := h.ex
  obtain ⟨x, hx, hxk, hxv⟩ := entries_of hl hj
  rw [hk] at hxk
  rcases findNow_spec (isKeyInt k) es.toList 0 (entries_keys hl) with ⟨f1, f2⟩ | ⟨j', e, f1, f2, f3⟩
  · exact absurd hxk (f2 x (List.mem_of_getElem? hx))
  · have ej : j' = j := by
      have hn : es.toList.Pairwise (fun x y => x.key ≠ y.key) := ((stamped_iff _ _).1 hst).2.2
      rw [List.pairwise_iff_getElem] at hn
      obtain ⟨q1, q2⟩ := List.getElem?_eq_some_iff.1 f2
      obtain ⟨q3, q4⟩ := List.getElem?_eq_some_iff.1 hx
      rcases Nat.lt_trichotomy j' j with h | h | h
      · exact absurd (by rw [q2, q4, f3, hxk]) (hn j' j q1 q3 h)
      · exact h
      · exact absurd (by rw [q2, q4, f3, hxk]) (hn j j' q3 q1 h)
    subst ej
    have hjl : j' < es.size := by
      obtain ⟨q1, -⟩ := List.getElem?_eq_some_iff.1 f2
      simpa using q1
    refine ⟨_, { w with heap := w.heap.setIfInBounds r (.map (es.eraseIdxIfInBounds j') clock) }, ?_, hK _ ⟨_, _, (heap_set hb).1, stamped_erase hst j', ?_⟩ only_block⟩
    · unfold Hold
      simp [Builtin.delete_, run_underlying hm, MapKept.run_getObj_map hb, MapKept.run_checkKey hd (isKeyInt k), MapKept.run_findKey hd f1, MapKept.run_setObj_map _ hb, Result.andThen]
    · unfold Array.eraseIdxIfInBounds
      rw [dif_pos hjl, Array.toList_eraseIdx, map_eraseIdx, hl, ← map_eraseIdx]

/-- a loop over a map that is not changed meanwhile: what has not come up yet -/
structure IterAt (w : World) (it r : Nat) (l todo : List (Int × Value)) : Prop where
  ex : ∃ es clock since seen c0, w.heap[r]? = some (.map es clock) ∧ Stamped es clock ∧ es.toList.map (fun x => (x.key, x.val)) = l.map entryV ∧ w.heap[it]? = some (.mapIter (some r) since seen c0) ∧
    (∀ x ∈ es.toList, x.born < since) ∧ since ≤ c0 ∧ since ≤ clock ∧ (leftOf es seen).toList.map (fun x => (x.key, x.val)) = todo.map entryV
theorem map_range {P : Program} {w : World} {r : Nat} {l : List (Int × Value)} {mty kt et : TypeId} {K : Value → World → Prop} (hm : P.underlying mty = some (.map kt et)) (h : MapAt w r l)
    (hK : ∀ w', IterAt w' (hs w) r l l → Grow w w' → hs w < hs w' → K (.pointer (some ⟨hs w, 0, none⟩)) w') : RunOk P (Hold (Instr.range mty (.map (some r)))) w K := by
  have hlt := h.lt
  obtain ⟨es, clock, hb, hst, hl⟩ := h.ex
  refine ⟨_, w.alloc (.mapIter (some r) clock #[] clock), ?_, hK _ ⟨es, clock, clock, #[], clock, ?_, hst, hl, (heap_alloc w _).1, hst.1, Nat.le_refl _, Nat.le_refl _, ?_⟩ (only_alloc rfl) ?_⟩
  · unfold Hold
    simp [Instr.range, run_underlying hm, MapKept.run_getObj_map hb, Result.andThen, newObj, Sem.run, hs]
  · rw [(heap_alloc w _).2 r hlt, hb]
  · have : leftOf es #[] = es := by unfold leftOf; simp
    rw [this, hl]
  · rw [hs_alloc rfl]; omega
theorem IterAt.mono {w : World} {it r : Nat} {l todo : List (Int × Value)} (h : IterAt w it r l todo) : MapAt w r l := by
  obtain ⟨es, clock, since, seen, c0, h1, h2, h3, -⟩ := h.ex
  exact ⟨es, clock, h1, h2, h3⟩
theorem IterAt.grow {w w' : World} {it r : Nat} {l todo : List (Int × Value)} (h : IterAt w it r l todo) (g : Grow w w') : IterAt w' it r l todo := by
  obtain ⟨es, clock, since, seen, c0, h1, h2, h3, h4, h5⟩ := h.ex
  have lt : ∀ {i : Nat} {o : Obj}, w.heap[i]? = some o → i < hs w := fun {i o} hi => (Array.getElem?_eq_some_iff.1 hi).1
  exact ⟨es, clock, since, seen, c0, (g.block r (lt h1) fun h => h).trans h1, h2, h3, (g.block it (lt h4) fun h => h).trans h4, h5⟩
theorem filter_one {l : List MapEntry} (hn : (l.map (·.born)).Nodup) {A B : List MapEntry} {e : MapEntry} (h : l = A ++ e :: B) : l.filter (fun x => !(x.born == e.born)) = A ++ B := by
  subst h
  rw [List.map_append, List.map_cons] at hn
  have h1 := List.nodup_append.1 hn
  have h2 := List.nodup_cons.1 h1.2.1
  rw [List.filter_append, List.filter_cons, if_neg (by simp)]
  congr 1
  · rw [List.filter_eq_self]
    intro x hx
    have := h1.2.2 _ (List.mem_map_of_mem hx) _ (.head _)
    simpa using this
  · rw [List.filter_eq_self]
    intro x hx
    have : x.born ≠ e.born := fun k => h2.1 (by rw [← k]; exact List.mem_map_of_mem hx)
    simpa using this
theorem map_next {P : Program} {w : World} {it r : Nat} {l todo : List (Int × Value)} {ty : TypeId} {K : Value → World → Prop} (h : IterAt w it r l todo) (h0 : todo = [] → K (.tuple #[.bool false]) w)
    (h1 : ∀ A p B w', todo = A ++ p :: B → IterAt w' it r l (A ++ B) → Only (fun b => b = it) w w' → (Instr.entry (.pointer (some ⟨it, 0, none⟩))).run P w' = .ok (.tuple #[.int .i64 p.1, p.2]) w' → K (.tuple #[.bool true, .int .i64 p.1, p.2]) w') : RunOk P (Hold (Instr.next (.pointer (some ⟨it, 0, none⟩)) false ty)) w K := by
  obtain ⟨es, clock, since, seen, c0, hb, hst, hl, hi, hold, hsc, hcl, ht⟩ := h.ex
  rcases run_next_at (P := P) w ty it r since c0 seen es clock hi hb hold hsc with ⟨hz, hr⟩ | ⟨e, he, w1, hw, hr⟩
  · refine ⟨_, w, hr, h0 ?_⟩
    have : (leftOf es seen).toList = [] := List.eq_nil_of_length_eq_zero (by simpa using hz)
    rw [this] at ht
    exact List.eq_nil_of_length_eq_zero (by simpa using (congrArg List.length ht).symm)
  · obtain ⟨A, B, hAB⟩ := List.append_of_mem he
    have hleft : (leftOf es (seen.push e.born)).toList = A ++ B := by
      rw [← filter_one (l := (leftOf es seen).toList) ?_ hAB]
      · unfold leftOf
        simp only [Array.toList_filter, List.filter_filter]
        refine List.filter_congr fun x _ => ?_
        rw [contains_push, Bool.not_or, Bool.and_comm]
      · refine List.Sublist.nodup ?_ hst.2.1
        unfold leftOf
        rw [Array.toList_filter]
        exact List.filter_sublist.map _
    rw [hAB, List.map_append, List.map_cons] at ht
    obtain ⟨A', X, rfl, hA, hX⟩ := List.map_eq_append_iff.1 ht.symm
    obtain ⟨p, B', rfl, hp, hB⟩ := List.map_eq_cons_iff.1 hX
    simp only [entryV, Prod.mk.injEq] at hp
    have hne : it ≠ r := fun e => by rw [e, hb] at hi; cases hi
    have h1' := h1 A' p B' (setBlock w1 it (.mapIter (some r) since (seen.push e.born) clock)) rfl ⟨es, clock, since, seen.push e.born, clock, ?_, hst, hl, ?_, hold, hcl, hcl, ?_⟩ ?_ ?_
    · rw [hp.1, hp.2] at h1'
      exact ⟨_, _, hr, h1'⟩
    · have hb1 : w1.heap[r]? = some (.map es clock) := by rcases hw with rfl | rfl <;> exact hb
      simp [setBlock, hne, hb1]
    · have hi1 : w1.heap[it]? = some (.mapIter (some r) since seen c0) := by rcases hw with rfl | rfl <;> exact hi
      have hlt : it < w1.heap.size := (Array.getElem?_eq_some_iff.1 hi1).1
      simp [setBlock, hlt]
    · rw [hleft, List.map_append, List.map_append, ← hA, ← hB]
    · have : Only (fun b => b = it) w1 (setBlock w1 it (.mapIter (some r) since (seen.push e.born) clock)) := only_block
      rcases hw with rfl | rfl
      · exact this
      · exact (only_drew rfl).trans' this
    · have hb1 : w1.heap[r]? = some (.map es clock) := by rcases hw with rfl | rfl <;> exact hb
      have hi1 : w1.heap[it]? = some (.mapIter (some r) since seen c0) := by rcases hw with rfl | rfl <;> exact hi
      have hlt : it < w1.heap.size := (Array.getElem?_eq_some_iff.1 hi1).1
      rw [hp.1, hp.2]
      exact run_entry_at _ it r since seen es clock e (by simp [setBlock, hlt]) (by simp [setBlock, hne, hb1]) (by rw [leftOf, Array.toList_filter] at he; exact (List.mem_filter.1 he).1) hst.2.1
end Go.Nf
