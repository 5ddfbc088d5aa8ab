/- The engine, part K: a map as a function of its keys: what is not in it reads as the element's zero. -/
import Derived.Test.YtcaokpglbolkcaaNfX
namespace Go.Nf
open Go Go.MapKept

section
variable {α : Type}
/-- how keys lie in a map -/
structure Keys (P : Program) (kt : TypeId) (d : TypeDesc) (kv : α → Value) : Prop where
  desc : P.underlying kt = some d
  key : ∀ k, IsKey d (kv k)
  inj : ∀ a b, kv a = kv b → a = b
structure FnAt (kv : α → Value) (z : Value) (w : World) (r : Nat) (f : α → Value) : Prop where
  ex : ∃ es clock, w.heap[r]? = some (.map es clock) ∧ (∀ x ∈ es.toList, ∃ k, x.key = kv k ∧ x.val = f k) ∧ (∀ k, (∀ x ∈ es.toList, x.key ≠ kv k) → f k = z) ∧ es.toList.Pairwise (fun x y => x.key ≠ y.key)
variable {kv : α → Value} {z : Value}
theorem FnAt.lt {w : World} {r : Nat} {f : α → Value} (h : FnAt kv z w r f) : r < hs w := by
  obtain ⟨es, clock, hb, -⟩ := h.ex
  rcases Nat.lt_or_ge r w.heap.size with h | h
  · exact h
  · rw [Array.getElem?_eq_none h] at hb; cases hb
theorem FnAt.keep {S : Nat → Prop} {w w' : World} {r : Nat} {f : α → Value} (h : FnAt kv z w r f) (o : Only S w w') (hr : ¬ S r) : FnAt kv z w' r f := by
  have hl := h.lt
  obtain ⟨es, clock, hb, h1⟩ := h.ex
  exact ⟨es, clock, (o.block r hl hr).trans hb, h1⟩
theorem FnAt.grow {w w' : World} {r : Nat} {f : α → Value} (h : FnAt kv z w r f) (o : Grow w w') : FnAt kv z w' r f := h.keep o fun h => h
theorem FnAt.eq {w : World} {r : Nat} {f g : α → Value} (h : FnAt kv z w r f) (e : ∀ k, f k = g k) : FnAt kv z w r g := by
  obtain rfl : f = g := funext e
  exact h
theorem fn_new {w w1 : World} {c : Nat} (e : w1 = w.alloc (.map #[] c)) : FnAt kv z w1 (hs w) fun _ => z := by
  subst e
  exact ⟨#[], c, (heap_alloc w _).1, by simp, fun _ _ => rfl, by simp⟩
theorem fn_get {P : Program} {w : World} {r : Nat} {f : α → Value} {mty kt et : TypeId} {d : TypeDesc} {k : α} {K : Value → World → Prop} (hm : P.underlying mty = some (.map kt et)) (hd : Keys P kt d kv)
    (hz : (zeroValue et).run P w = .ok z w) (h : FnAt kv z w r f) (hK : K (f k) w) : RunOk P (Hold (Instr.lookup mty (.map (some r)) (kv k) false)) w K := by
  obtain ⟨es, clock, hb, h1, h2, -⟩ := h.ex
  have hks : ∀ x ∈ es.toList, IsKey d x.key := fun x hx => by obtain ⟨z, hz, -⟩ := h1 x hx; rw [hz]; exact hd.key z
  rcases findNow_spec (hd.key k) es.toList 0 hks with ⟨f1, f2⟩ | ⟨j, e, f1, f2, f3⟩
  · rw [h2 k f2] at hK
    refine ⟨_, w, ?_, hK⟩
    unfold Hold
    simp [Instr.lookup, run_underlying hm, MapKept.run_getObj_map hb, MapKept.run_checkKey hd.desc (hd.key k), MapKept.run_findKey hd.desc f1, hz, Result.andThen]
  · have hem : e ∈ es.toList := List.mem_of_getElem? f2
    obtain ⟨k', e1, e2⟩ := h1 e hem
    have : k' = k := hd.inj _ _ (e1.symm.trans f3)
    subst this
    rw [← e2] at hK
    refine ⟨_, w, ?_, hK⟩
    unfold Hold
    simp [Instr.lookup, run_underlying hm, MapKept.run_getObj_map hb, MapKept.run_checkKey hd.desc (hd.key k'), MapKept.run_findKey hd.desc f1, Result.andThen]
theorem fn_put [DecidableEq α] {P : Program} {w : World} {r : Nat} {f : α → Value} {mty kt et : TypeId} {d : TypeDesc} {k : α} {v : Value} {K : Unit → World → Prop} (hm : P.underlying mty = some (.map kt et)) (hd : Keys P kt d kv) (h : FnAt kv z w r f)
    (hK : ∀ w', FnAt kv z w' r (fun k' => if k' = k then v else f k') → Only (fun b => b = r) w w' → K () w') : RunOk P (Hold (Instr.mapUpdate mty (.map (some r)) (kv k) v)) w K := by
  obtain ⟨es, clock, hb, h1, h2, h3⟩ := h.ex
  have hks : ∀ x ∈ es.toList, IsKey d x.key := fun x hx => by obtain ⟨z, hz, -⟩ := h1 x hx; rw [hz]; exact hd.key z
  have honly : ∀ o, Only (fun b => b = r) w { w with heap := w.heap.setIfInBounds r o } := fun o => ⟨rfl, rfl, rfl, by simp [hs], fun i _ hi => (heap_set (o' := o) hb).2 i hi⟩
  rcases findNow_spec (hd.key k) es.toList 0 hks with ⟨f1, f2⟩ | ⟨j, e, f1, f2, f3⟩
  · have hpush : (es.push { key := kv k, val := v, born := clock }).toList = es.toList ++ [{ key := kv k, val := v, born := clock }] := by simp
    refine ⟨(), { w with heap := w.heap.setIfInBounds r (.map (es.push { key := kv k, val := v, born := clock }) (clock + 1)) }, ?_, hK _ ⟨_, _, (heap_set hb).1, ?_, ?_, ?_⟩ (honly _)⟩
    · unfold Hold
      simp [Instr.mapUpdate, run_underlying hm, MapKept.run_getObj_map hb, MapKept.run_checkKey hd.desc (hd.key k), MapKept.run_findKey hd.desc f1, MapKept.run_setObj_map _ hb, Result.andThen]
    · intro x hx
      rw [hpush, List.mem_append, List.mem_singleton] at hx
      rcases hx with hx | rfl
      · obtain ⟨k', e1, e2⟩ := h1 x hx
        refine ⟨k', e1, ?_⟩
        rw [if_neg fun e => f2 x hx (by rw [e1, e])]
        exact e2
      · exact ⟨k, rfl, by rw [if_pos rfl]⟩
    · intro k' hk'
      rw [hpush] at hk'
      have hne : k' ≠ k := fun e => hk' _ (List.mem_append_right _ (.head _)) (by rw [e])
      show (if k' = k then v else f k') = z
      rw [if_neg hne]
      exact h2 k' fun x hx => hk' x (List.mem_append_left _ hx)
    · rw [hpush]
      refine List.pairwise_append.2 ⟨h3, List.pairwise_singleton _ _, fun x hx y hy => ?_⟩
      rw [List.mem_singleton] at hy
      subst hy
      exact f2 x hx
  · have hj : es[j]? = some e := by simpa using f2
    have hjl : j < es.size := (Array.getElem?_eq_some_iff.1 hj).1
    have hem : e ∈ es.toList := List.mem_of_getElem? f2
    have hmod : ∀ i, (es.modify j (fun e' => { e' with key := kv k, val := v })).toList[i]? = if i = j then some { e with key := kv k, val := v } else es.toList[i]? := fun i => by
      rw [Array.getElem?_toList, Array.getElem?_modify]
      by_cases hij : j = i
      · subst hij
        rw [if_pos rfl, if_pos rfl, hj]; rfl
      · rw [if_neg hij, if_neg (fun e => hij e.symm)]; simp
    have keys : (es.modify j (fun e' => { e' with key := kv k, val := v })).toList.map (·.key) = es.toList.map (·.key) := by
      apply List.ext_getElem?
      intro i
      rw [List.getElem?_map, List.getElem?_map, hmod]
      by_cases hij : i = j
      · subst hij
        rw [if_pos rfl, f2]
        simp [f3]
      · rw [if_neg hij]
    refine ⟨(), { w with heap := w.heap.setIfInBounds r (.map (es.modify j (fun e' => { e' with key := kv k, val := v })) clock) }, ?_, hK _ ⟨_, _, (heap_set hb).1, ?_, ?_, ?_⟩ (honly _)⟩
    · unfold Hold
      simp [Instr.mapUpdate, run_underlying hm, MapKept.run_getObj_map hb, MapKept.run_checkKey hd.desc (hd.key k), MapKept.run_findKey hd.desc f1, hj, f3, MapKept.run_keyThatStays (hd.key k), MapKept.run_setObj_map _ hb, Result.andThen]
    · intro x hx
      obtain ⟨i, hi, ex⟩ := List.mem_iff_getElem.1 hx
      have hx' := hmod i
      rw [List.getElem?_eq_getElem hi, ex] at hx'
      by_cases hij : i = j
      · rw [if_pos hij] at hx'
        cases hx'
        exact ⟨k, rfl, by rw [if_pos rfl]⟩
      · rw [if_neg hij] at hx'
        obtain ⟨k', e1, e2⟩ := h1 x (List.mem_of_getElem? hx'.symm)
        refine ⟨k', e1, ?_⟩
        rw [if_neg, e2]
        intro ek
        subst ek
        obtain ⟨q1, q2⟩ := List.getElem?_eq_some_iff.1 hx'.symm
        obtain ⟨q3, q4⟩ := List.getElem?_eq_some_iff.1 f2
        have hp := List.pairwise_iff_getElem.1 h3
        rcases Nat.lt_trichotomy i j with h | h | h
        · exact hp i j q1 q3 h (by rw [q2, q4, e1, f3])
        · exact hij h
        · exact hp j i q3 q1 h (by rw [q2, q4, e1, f3])
    · intro k' hk'
      have hne : k' ≠ k := fun ek => hk' { e with key := kv k, val := v } (List.mem_of_getElem? (i := j) (by rw [hmod, if_pos rfl])) (by rw [ek])
      show (if k' = k then v else f k') = z
      rw [if_neg hne]
      refine h2 k' fun x hx ex => ?_
      have : x.key ∈ (es.modify j (fun e' => { e' with key := kv k, val := v })).toList.map (·.key) := by rw [keys]; exact List.mem_map_of_mem hx
      obtain ⟨y, hy, hy'⟩ := List.mem_map.1 this
      exact hk' y hy (hy'.trans ex)
    · have : (es.toList.map (·.key)).Pairwise (· ≠ ·) := List.pairwise_map.2 h3
      rw [← keys] at this
      exact List.pairwise_map.1 this
end
theorem keys_int {P : Program} {kt : TypeId} (h : P.underlying kt = some (.int .i64)) : Keys P kt (.int .i64) (fun k : Int => Value.int .i64 k) :=
  ⟨h, fun k => by simp [IsKey], fun a b e => by simpa using e⟩
theorem keys_str {P : Program} {kt : TypeId} (h : P.underlying kt = some .string) : Keys P kt .string Value.string :=
  ⟨h, fun k => by simp [IsKey], fun a b e => by simpa using e⟩
end Go.Nf
