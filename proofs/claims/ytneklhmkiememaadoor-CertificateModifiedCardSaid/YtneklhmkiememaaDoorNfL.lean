/- The engine, part L: the lift for a row that lists package-level variables ('laid'): what they hold is told to the law, which need not use it. -/
import Derived.Test.YtneklhmkiememaaDoorNfV
import Derived.LaidMore
import Derived.LaidLaws
import Derived.Stop.Joined
set_option linter.unusedVariables false
namespace Go.Nf
open Go Go.ChangeShapes Go.WideShapes Go.RowKit

theorem lift_laid {C : Checked} {F : FuncId} {f : Func} {s : ChangeSpec} {os : Os} {H : Type} {enc : TypeId × Value → H} {ts : List TypeId} {tb : TypeId} {X : World → Array Value → Prop}
    (hX : ∀ (w w' : World) (a : Array Value), w.heap = w'.heap → X w a → X w' a)
    (own : ownKnob C.prog.godebug = none) (lo : laidOutB C.prog = true) (started : os.Started) (noInit : C.prog.inits.idxOf? F = none) (hfn : C.prog.funcs[F]? = some f)
    (hts : f.params.toList = ts) (hgood : (ts.all fun t => C.prog.readableRec t && decide (t < C.prog.types.size)) = true) (hres : f.resultTypes = #[tb]) (hbool : C.prog.underlying tb = some .bool)
    (hvars : s.vars = []) (hs : ∀ ds : List (DataW H), ds.length = ts.length → (s.fn H ds).results = [.lit (.bool true)] ∧ (s.fn H ds).args = ds ∧ (s.fn H ds).vars = [])
    (witness : ∃ (w : World) (tape : Tape) (i : Input), w.os = os ∧ (w.forCall tape i).Shaped C.prog ∧ i.vars = [] ∧ Input.okWide C.prog (w.forCall tape i) .any w.heap.size F i ∧
      ((s.pre enc C.prog f [] false (w.forCall tape i).memory i.args ∧ X (w.forCall tape i).memory i.args) ∧ sizedMet enc C.prog f (OpenSpec.ofChange s) false (w.forCall tape i).memory i.args) ∧ ({} : Assume).holds C.prog (lone (Frame.enter C.prog F i.args .normal) [] (w.forCall tape i)))
    (law : ∀ (W : World) (args : List Value) (ds : List (DataW H)) (ps : List MemPlace), (∀ (j : Nat) t v, ts[j]? = some t → args[j]? = some v → ∃ base, Value.okWide C.prog W .any base t v) →
      (∀ (j : Nat) t d, ts[j]? = some t → ds[j]? = some d → Reach C.prog t d) →
      DataW.TrodAll enc C.prog W 0 (fun _ => true) true ts args ds ps → Calls C.prog F args.toArray W (Tru W)) :
    ReturnsInHanded {} C os F .any (fun w args => (s.pre enc C.prog f [] false w args ∧ X w args) ∧ sizedMet enc C.prog f (OpenSpec.ofChange s) false w args) (s.post enc C.prog f false true false false) := by
  subst hts
  refine returnsInHanded_of_change_and (C := C) (X := X) hX own started noInit hfn witness ?_
  intro W base args ds gs before hval hW hcnd hsz _ _
  have hW' := hW
  obtain ⟨p, q, hA, hV, rfl, hfz, hnd⟩ := hW
  rw [hvars] at hV
  obtain ⟨rfl, rfl⟩ := trodVars_none hV
  have hlen := trodAll_len hA
  refine (law W args.toList ds p (fun j t v h1 h2 => ⟨base, hval j t v (by simpa using h1) (by simpa using h2)⟩) (fun j t d h1 h2 n hn => ?_) hA).mono fun e W' ⟨he, g⟩ => ?_
  · have hj : j < ds.length := by
      rcases Nat.lt_or_ge j ds.length with h | h
      · exact h
      · rw [List.getElem?_eq_none h] at h2; cases h2
    have := List.all_eq_true.1 hsz n (DataW.weights_mem_each (j := j) (t := t) (d := d) (by rw [List.getElem?_append_left (by omega)]; exact h1) (by rw [List.getElem?_append_left hj]; exact h2) n hn)
    simpa using this
  subst he
  have bel := grow_below g
  obtain ⟨k1, k2, k3⟩ := hs ds hlen
  refine ⟨_, rfl, ds, [], _, [], p, [], hW', ?_, ?_, ?_, bel.frame _, fun h => by cases h⟩
  · rw [List.append_nil, k1, hres]
    exact trodAll_mk1 (shut_bool hbool _)
  · rw [List.append_nil, k2]
    exact trodAll_below lo bel _ _ _ _ hgood hA
  · rw [List.append_nil, k3, hvars]; rfl
/-- the same, where the law uses what the variables hold -/
theorem lift_laidX {C : Checked} {F : FuncId} {f : Func} {s : ChangeSpec} {os : Os} {H : Type} {enc : TypeId × Value → H} {ts : List TypeId} {tb : TypeId} {X : World → Array Value → Prop}
    (hX : ∀ (w w' : World) (a : Array Value), w.heap = w'.heap → X w a → X w' a)
    (own : ownKnob C.prog.godebug = none) (lo : laidOutB C.prog = true) (started : os.Started) (noInit : C.prog.inits.idxOf? F = none) (hfn : C.prog.funcs[F]? = some f)
    (hts : f.params.toList = ts) (hgood : (ts.all fun t => C.prog.readableRec t && decide (t < C.prog.types.size)) = true) (hres : f.resultTypes = #[tb]) (hbool : C.prog.underlying tb = some .bool)
    (hvars : s.vars = []) (hs : ∀ ds : List (DataW H), ds.length = ts.length → (s.fn H ds).results = [.lit (.bool true)] ∧ (s.fn H ds).args = ds ∧ (s.fn H ds).vars = [])
    (witness : ∃ (w : World) (tape : Tape) (i : Input), w.os = os ∧ (w.forCall tape i).Shaped C.prog ∧ i.vars = [] ∧ Input.okWide C.prog (w.forCall tape i) .any w.heap.size F i ∧
      ((s.pre enc C.prog f [] false (w.forCall tape i).memory i.args ∧ X (w.forCall tape i).memory i.args) ∧ sizedMet enc C.prog f (OpenSpec.ofChange s) false (w.forCall tape i).memory i.args) ∧ ({} : Assume).holds C.prog (lone (Frame.enter C.prog F i.args .normal) [] (w.forCall tape i)))
    (law : ∀ (W : World) (args : List Value) (ds : List (DataW H)) (ps : List MemPlace), (∀ (j : Nat) t v, ts[j]? = some t → args[j]? = some v → ∃ base, Value.okWide C.prog W .any base t v) →
      (∀ (j : Nat) t d, ts[j]? = some t → ds[j]? = some d → Reach C.prog t d) →
      DataW.TrodAll enc C.prog W 0 (fun _ => true) true ts args ds ps → X W args.toArray → Calls C.prog F args.toArray W (Tru W)) :
    ReturnsInHanded {} C os F .any (fun w args => (s.pre enc C.prog f [] false w args ∧ X w args) ∧ sizedMet enc C.prog f (OpenSpec.ofChange s) false w args) (s.post enc C.prog f false true false false) := by
  subst hts
  refine returnsInHanded_of_change_and (C := C) (X := X) hX own started noInit hfn witness ?_
  intro W base args ds gs before hval hW hcnd hsz hXW _
  have hW' := hW
  obtain ⟨p, q, hA, hV, rfl, hfz, hnd⟩ := hW
  rw [hvars] at hV
  obtain ⟨rfl, rfl⟩ := trodVars_none hV
  have hlen := trodAll_len hA
  refine (law W args.toList ds p (fun j t v h1 h2 => ⟨base, hval j t v (by simpa using h1) (by simpa using h2)⟩) (fun j t d h1 h2 n hn => ?_) hA (by rwa [Array.toArray_toList])).mono fun e W' ⟨he, g⟩ => ?_
  · have hj : j < ds.length := by
      rcases Nat.lt_or_ge j ds.length with h | h
      · exact h
      · rw [List.getElem?_eq_none h] at h2; cases h2
    have := List.all_eq_true.1 hsz n (DataW.weights_mem_each (j := j) (t := t) (d := d) (by rw [List.getElem?_append_left (by omega)]; exact h1) (by rw [List.getElem?_append_left hj]; exact h2) n hn)
    simpa using this
  subst he
  have bel := grow_below g
  obtain ⟨k1, k2, k3⟩ := hs ds hlen
  refine ⟨_, rfl, ds, [], _, [], p, [], hW', ?_, ?_, ?_, bel.frame _, fun h => by cases h⟩
  · rw [List.append_nil, k1, hres]
    exact trodAll_mk1 (shut_bool hbool _)
  · rw [List.append_nil, k2]
    exact trodAll_below lo bel _ _ _ _ hgood hA
  · rw [List.append_nil, k3, hvars]; rfl
end Go.Nf
