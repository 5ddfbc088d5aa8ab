/- The engine, part X: a map from int to bool that holds only trues, as a set. -/
import Derived.Test.YtcaokpglbolkcaaGreatNfM
import Derived.MapKept
namespace Go.Nf
open Go Go.MapKept

structure SetAt (w : World) (r : Nat) (ks : List Int) : Prop where
  ex : ∃ es clock, w.heap[r]? = some (.map es clock) ∧ (∀ x ∈ es.toList, (∃ k : Int, x.key = .int .i64 k) ∧ x.val = .bool true) ∧ ∀ k : Int, (∃ x ∈ es.toList, x.key = .int .i64 k) ↔ k ∈ ks
theorem SetAt.lt {w : World} {r : Nat} {ks : List Int} (h : SetAt w r ks) : r < hs w := by
  obtain ⟨es, clock, hb, -⟩ := h.ex
  rcases Nat.lt_or_ge r w.heap.size with h | h
  · exact h
  · rw [Array.getElem?_eq_none h] at hb; cases hb
theorem SetAt.keep {S : Nat → Prop} {w w' : World} {r : Nat} {ks : List Int} (h : SetAt w r ks) (o : Only S w w') (hr : ¬ S r) : SetAt w' r ks := by
  have hl := h.lt
  obtain ⟨es, clock, hb, h1, h2⟩ := h.ex
  exact ⟨es, clock, (o.block r hl hr).trans hb, h1, h2⟩
theorem set_new {w w1 : World} {c : Nat} (e : w1 = w.alloc (.map #[] c)) : SetAt w1 (hs w) [] := by
  subst e
  exact ⟨#[], c, (heap_alloc w _).1, by simp, by simp⟩
theorem isKey_int (k : Int) : IsKey (.int .i64) (.int .i64 k) := by simp [IsKey]
theorem set_add {P : Program} {w : World} {r : Nat} {ks : List Int} {mty kt et : TypeId} {k : Int} {K : Unit → World → Prop} (hm : P.underlying mty = some (.map kt et)) (hd : P.underlying kt = some (.int .i64)) (h : SetAt w r ks)
    (hK : ∀ w', SetAt w' r (k :: ks) → Only (fun b => b = r) w w' → K () w') : RunOk P (Hold (Instr.mapUpdate mty (.map (some r)) (.int .i64 k) (.bool true))) w K := by
  obtain ⟨es, clock, hb, h1, h2⟩ := h.ex
  have hks : ∀ x ∈ es.toList, IsKey (.int .i64) x.key := fun x hx => by obtain ⟨⟨z, hz⟩, -⟩ := h1 x hx; rw [hz]; exact isKey_int z
  have honly : ∀ o, Only (fun b => b = r) w { w with heap := w.heap.setIfInBounds r o } := fun o => ⟨rfl, rfl, rfl, by simp [hs], fun i _ hi => (heap_set (o' := o) hb).2 i hi⟩
  rcases findNow_spec (isKey_int k) es.toList 0 hks with ⟨f1, f2⟩ | ⟨j, e, f1, f2, f3⟩
  · have hpush : ∀ x, x ∈ (es.push { key := .int .i64 k, val := .bool true, born := clock }).toList ↔ x ∈ es.toList ∨ x = { key := .int .i64 k, val := .bool true, born := clock } := fun x => by simp
    refine ⟨(), { w with heap := w.heap.setIfInBounds r (.map (es.push { key := .int .i64 k, val := .bool true, born := clock }) (clock + 1)) }, ?_, hK _ ⟨_, _, (heap_set hb).1, ?_, ?_⟩ (honly _)⟩
    · unfold Hold
      simp [Instr.mapUpdate, run_underlying hm, MapKept.run_getObj_map hb, MapKept.run_checkKey hd (isKey_int k), MapKept.run_findKey hd f1, MapKept.run_setObj_map _ hb, Result.andThen]
    · intro x hx
      rw [hpush] at hx
      rcases hx with hx | rfl
      · exact h1 x hx
      · exact ⟨⟨k, rfl⟩, rfl⟩
    · intro z
      simp only [hpush, List.mem_cons, ← h2 z]
      constructor
      · rintro ⟨x, hx | rfl, hz⟩
        · exact .inr ⟨x, hx, hz⟩
        · cases hz; exact .inl rfl
      · rintro (rfl | ⟨x, hx, hz⟩)
        · exact ⟨_, .inr rfl, rfl⟩
        · exact ⟨x, .inl hx, hz⟩
  · have hj : es[j]? = some e := by simpa using f2
    have hem : e ∈ es.toList := List.mem_of_getElem? f2
    have hsame : es.modify j (fun e' => { e' with key := .int .i64 k, val := .bool true }) = es := by
      apply Array.ext_getElem?
      intro i
      rw [Array.getElem?_modify]
      by_cases hij : j = i
      · subst hij
        rw [if_pos rfl, hj]
        have hv := (h1 e hem).2
        obtain ⟨ek, ev, eb⟩ := e
        simp only at f3 hv
        subst f3; subst hv
        rfl
      · rw [if_neg hij]
    refine ⟨(), { w with heap := w.heap.setIfInBounds r (.map es clock) }, ?_, hK _ ⟨_, _, (heap_set hb).1, h1, ?_⟩ (honly _)⟩
    · unfold Hold
      simp [Instr.mapUpdate, run_underlying hm, MapKept.run_getObj_map hb, MapKept.run_checkKey hd (isKey_int k), MapKept.run_findKey hd f1, hj, f3, MapKept.run_keyThatStays (isKey_int k), MapKept.run_setObj_map _ hb, Result.andThen, hsame]
    · intro z
      rw [h2 z, List.mem_cons]
      constructor
      · exact .inr
      · rintro (rfl | h)
        · exact (h2 _).1 ⟨e, hem, f3⟩
        · exact h
theorem set_has {P : Program} {w : World} {r : Nat} {ks : List Int} {mty kt et : TypeId} {k : Int} {K : Value → World → Prop} (hm : P.underlying mty = some (.map kt et)) (hd : P.underlying kt = some (.int .i64))
    (hz : (zeroValue et).run P w = .ok (.bool false) w) (h : SetAt w r ks) (hK : K (.bool (decide (k ∈ ks))) w) : RunOk P (Hold (Instr.lookup mty (.map (some r)) (.int .i64 k) false)) w K := by
  obtain ⟨es, clock, hb, h1, h2⟩ := h.ex
  have hks : ∀ x ∈ es.toList, IsKey (.int .i64) x.key := fun x hx => by obtain ⟨⟨z, hz⟩, -⟩ := h1 x hx; rw [hz]; exact isKey_int z
  rcases findNow_spec (isKey_int k) es.toList 0 hks with ⟨f1, f2⟩ | ⟨j, e, f1, f2, f3⟩
  · have hn : k ∉ ks := fun hm => by obtain ⟨x, hx, hk⟩ := (h2 k).2 hm; exact f2 x hx hk
    refine ⟨.bool false, w, ?_, by rw [decide_eq_false hn] at hK; exact hK⟩
    unfold Hold
    simp [Instr.lookup, run_underlying hm, MapKept.run_getObj_map hb, MapKept.run_checkKey hd (isKey_int k), MapKept.run_findKey hd f1, hz, Result.andThen]
  · have hem : e ∈ es.toList := List.mem_of_getElem? f2
    have hy : k ∈ ks := (h2 k).1 ⟨e, hem, f3⟩
    refine ⟨.bool true, w, ?_, by rw [decide_eq_true hy] at hK; exact hK⟩
    unfold Hold
    simp [Instr.lookup, run_underlying hm, MapKept.run_getObj_map hb, MapKept.run_checkKey hd (isKey_int k), MapKept.run_findKey hd f1, Result.andThen, (h1 e hem).2]
end Go.Nf
