/- The engine, part V: what came in is no larger than the form's own reach: the slices behind slices too. -/
import Derived.Test.YtcaokpglbolkcaaNfW
import Derived.SizedLaws
set_option linter.unusedVariables false
namespace Go.Nf
open Go Go.ChangeShapes Go.WideShapes Go.RowKit

/-- each slice and each string in the datum takes no more than the reach -/
def Reach {H : Type} (P : Program) (t : TypeId) (d : DataW H) : Prop := ∀ n, n ∈ d.weights P t → n ≤ reachBytes
section
variable {H : Type} (enc : TypeId × Value → H) (P : Program) (w : World)
def SlB (t : TypeId) (c : Value) : Prop := ∃ fuel x, DataW.trod enc P w 0 (fun _ => true) true fuel t [c] = some x ∧ Reach P t x.1
def Lf.OkB : Lf → Value → Prop
  | .slice t, c => SlB enc P w t c
  | l, c => Lf.Ok enc P w l c
def FitsB : List Lf → List Value → Prop
  | [], [] => True
  | l :: ls, c :: cs => Lf.OkB enc P w l c ∧ FitsB ls cs
  | _, _ => False
end
section
variable {H : Type} {enc : TypeId × Value → H} {P : Program} {w : World}
theorem SlB.slIn {t : TypeId} {c : Value} (h : SlB enc P w t c) : SlIn enc P w t c := by
  obtain ⟨f, x, h, -⟩ := h
  exact ⟨f, x, h⟩
theorem Lf.OkB.ok : ∀ {l : Lf} {c : Value}, Lf.OkB enc P w l c → Lf.Ok enc P w l c
  | .slice _, _, h => SlB.slIn h
  | .int _, _, h => h
  | .bool, _, h => h
  | .string, _, h => h
theorem FitsB.fits : ∀ {a : List Lf} {x : List Value}, FitsB enc P w a x → FitsL enc P w a x
  | [], [], _ => trivial
  | _ :: _, _ :: _, h => ⟨h.1.ok, FitsB.fits h.2⟩
  | [], _ :: _, h => h.elim
  | _ :: _, [], h => h.elim
theorem FitsB.append : ∀ {a b : List Lf} {x y : List Value}, FitsB enc P w a x → FitsB enc P w b y → FitsB enc P w (a ++ b) (x ++ y)
  | [], b, [], y, _, h => h
  | l :: a, b, c :: x, y, h, k => ⟨h.1, FitsB.append h.2 k⟩
  | [], _, _ :: _, _, h, _ => h.elim
  | _ :: _, _, [], _, h, _ => h.elim
theorem fields_fitsB {g : TypeId → Option (List Lf)} {cs : List Value} : ∀ (fs : List Field) (off : Nat) (L : List Lf), fieldsL P g off fs = some L →
    (∀ x ∈ fs, ∀ l, g x.type = some l → FitsB enc P w l ((cs.drop x.offset).take (P.cellsOf x.type))) → FitsB enc P w L ((cs.drop off).take L.length)
  | [], off, L, h, _ => by
    cases h
    simp [FitsB]
  | x :: xs, off, L, h, k => by
    simp only [fieldsL] at h
    split at h
    · rename_i l hl
      split at h
      · rename_i hc
        cases hr : fieldsL P g (off + l.length) xs with
        | none => rw [hr] at h; cases h
        | some L' =>
          rw [hr] at h
          simp only [Option.map_some, Option.some.injEq] at h
          subst h
          have h1 := k x (List.mem_cons_self ..) l hl
          have h2 := fields_fitsB xs _ L' hr fun y hy => k y (List.mem_cons_of_mem _ hy)
          rw [hc.1, ← hc.2] at h1
          rw [List.length_append, List.take_add, List.drop_drop]
          exact h1.append h2
      · cases h
    · cases h
theorem weights_mem_all : ∀ {l : List (DataW H)} {e : TypeId} {i : Nat} {d : DataW H}, l[i]? = some d → ∀ n ∈ d.weights P e, n ∈ DataW.weightsAll P e l
  | d0 :: l, e, 0, d, hd, n, hn => by
    simp only [List.getElem?_cons_zero, Option.some.injEq] at hd
    subst hd
    simp only [DataW.weightsAll, List.mem_append]
    exact .inl hn
  | d0 :: l, e, i + 1, d, hd, n, hn => by
    simp only [List.getElem?_cons_succ] at hd
    simp only [DataW.weightsAll, List.mem_append]
    exact .inr (weights_mem_all hd n hn)
  | [], _, _, _, hd, _, _ => by simp at hd
theorem mapM_at {α β : Type} {f : α → Option β} {l : List α} {r : List β} (h : l.mapM f = some r) {i : Nat} {a : α} (ha : l[i]? = some a) : ∃ y, f a = some y ∧ r[i]? = some y := by
  have e := mapM_some_get h i a ha
  have hl := mapM_some_length h
  have hil : i < l.length := by
    rcases Nat.lt_or_ge i l.length with h | h
    · exact h
    · rw [List.getElem?_eq_none h] at ha; cases ha
  exact ⟨_, e.trans (List.getElem?_eq_getElem (by omega)), List.getElem?_eq_getElem (by omega)⟩
theorem trod_fitsB : ∀ (f : Nat) (ls : List Lf) (t : TypeId) (fuel : Nat) (cs : List Value) (x : DataW H × List MemPlace),
    leafs P f t = some ls → DataW.trod enc P w 0 (fun _ => true) true fuel t cs = some x → Reach P t x.1 → FitsB enc P w ls cs
  | 0, _, _, _, _, _, h, _, _ => by cases h
  | f + 1, ls, t, 0, cs, x, _, h, _ => by cases h
  | f + 1, ls, t, fuel + 1, cs, x, hl, h, hr => by
    simp only [leafs] at hl
    split at hl
    · rename_i ht
      cases hl
      simp only [DataW.trod, ht] at h
      split at h <;> simp_all [FitsB, Lf.OkB, Lf.Ok]
    · rename_i k ht
      cases hl
      simp only [DataW.trod, ht] at h
      split at h <;> simp_all [FitsB, Lf.OkB, Lf.Ok]
    · rename_i ht
      cases hl
      simp only [DataW.trod, ht] at h
      split at h <;> simp_all [FitsB, Lf.OkB, Lf.Ok]
    · rename_i e ht
      cases hl
      have : ∃ c, cs = [c] := by
        simp only [DataW.trod, ht] at h
        split at h <;> simp_all
      obtain ⟨c, rfl⟩ := this
      exact ⟨⟨fuel + 1, x, h, hr⟩, trivial⟩
    · rename_i fs ht
      simp only [DataW.trod, ht] at h
      split at hl
      · rename_i l hf
        split at hl
        · rename_i hlen
          cases hl
          split at h
          · rename_i hcl
            cases hm : (fs.toList.mapM fun f => DataW.trod enc P w 0 (fun _ => true) true fuel f.type ((cs.drop f.offset).take (P.cellsOf f.type))) with
            | none => rw [hm] at h; cases h
            | some ys =>
              rw [hm] at h
              simp only [Option.map_some, Option.some.injEq] at h
              subst h
              have := fields_fitsB (enc := enc) (P := P) (w := w) (cs := cs) fs.toList 0 ls hf fun y hy l hl => by
                obtain ⟨i, hi, e⟩ := List.getElem_of_mem hy
                have hi' : fs.toList[i]? = some y := by rw [List.getElem?_eq_getElem hi]; exact congrArg some e
                obtain ⟨z, hz, hz'⟩ := mapM_at hm hi'
                refine trod_fitsB f l y.type fuel _ z hl hz fun n hn => hr n ?_
                simp only [DataW.weights, ht]
                exact DataW.weights_mem_each (j := i) (t := y.type) (d := z.1) (by rw [List.getElem?_map, hi']; rfl) (by rw [List.getElem?_map, hz']; rfl) n hn
              rwa [List.drop_zero, hlen, ← hcl, List.take_length] at this
          · cases h
        · cases hl
      · cases hl
    · rename_i n e ht
      simp only [DataW.trod, ht] at h
      split at hl
      · rename_i l hf
        split at hl
        · rename_i hlen
          cases hl
          split at h
          · rename_i hcl
            cases hm : ((List.range n).mapM fun i => DataW.trod enc P w 0 (fun _ => true) true fuel e ((cs.drop (i * P.cellsOf e)).take (P.cellsOf e))) with
            | none => rw [hm] at h; cases h
            | some ys =>
              rw [hm] at h
              simp only [Option.map_some, Option.some.injEq] at h
              subst h
              have key : ∀ k, k ≤ n → FitsB enc P w (List.replicate k l).flatten (cs.take (k * P.cellsOf e)) := by
                intro k
                induction k with
                | zero => intro _; simp [FitsB]
                | succ k ih =>
                  intro hk
                  obtain ⟨z, hz, hz'⟩ := mapM_at hm (i := k) (a := k) (List.getElem?_range (by omega))
                  have h2 := trod_fitsB f l e fuel _ z hf hz fun m hm => hr m (by
                    simp only [DataW.weights, ht]
                    exact weights_mem_all (i := k) (by rw [List.getElem?_map, hz']; rfl) m hm)
                  rw [List.replicate_succ', List.flatten_append, Nat.succ_mul, List.take_add]
                  refine (ih (by omega)).append ?_
                  simpa using h2
              have := key n (Nat.le_refl _)
              rwa [← hlen.1, hlen.2, ← hcl, List.take_length] at this
          · cases h
        · cases hl
      · cases hl
    · cases hl
theorem slice_inB {t e : TypeId} {v : Value} {d : DataW H} {p : List MemPlace} (ht : P.underlying t = some (.slice e)) (hv : ∃ base, Value.okWide P w .any base t v) (h : DataW.Trod enc P w 0 (fun _ => true) true t v d p) (hr : Reach P t d) : SlB enc P w t v := by
  obtain ⟨base, hv⟩ := hv
  obtain ⟨o, n, c, rfl⟩ := okWide_slice ht hv
  obtain ⟨fuel, h⟩ := h
  exact ⟨fuel, (d, p), by simpa [Value.cells] using h, hr⟩
theorem struct_inB {t : TypeId} {fs : Array Field} {v : Value} {d : DataW H} {p : List MemPlace} {f : Nat} {ls : List Lf} (ht : P.underlying t = some (.struct fs)) (hls : leafs P f t = some ls) (hv : ∃ base, Value.okWide P w .any base t v) (h : DataW.Trod enc P w 0 (fun _ => true) true t v d p) (hr : Reach P t d) :
    ∃ cs : List Value, v = .agg cs.toArray ∧ FitsB enc P w ls cs := by
  obtain ⟨base, hv⟩ := hv
  obtain ⟨cs, rfl, -⟩ := okWide_struct ht hv
  obtain ⟨fuel, h⟩ := h
  exact ⟨cs.toList, by simp, trod_fitsB _ _ _ _ _ _ hls h hr⟩
theorem slB_open {t e : TypeId} {c : Value} {f : Nat} {ls : List Lf} (ht : P.underlying t = some (.slice e)) (hls : leafs P f e = some ls) (h : SlB enc P w t c) :
    ∃ o n cc rows, c = .slice o n cc ∧ rows.length = n ∧ n ≤ maxLen ∧ n * P.bytesOf e ≤ reachBytes ∧ Rd w o (P.cellsOf e) rows ∧ ∀ row ∈ rows, FitsB enc P w ls row := by
  obtain ⟨fuel, x, h, hr⟩ := h
  cases fuel with
  | zero => cases h
  | succ fuel =>
    simp only [DataW.trod, ht] at h
    split at h <;> first | (simp_all; done) | skip
    · rename_i e1 e2
      cases e1
      simp only [List.cons.injEq, and_true] at e2
      exact ⟨none, 0, 0, [], e2, rfl, Nat.zero_le _, by simp, fun i row hr => by simp at hr, fun row hr => by simp at hr⟩
    · rename_i a len cap e1 e2
      cases e1
      simp only [List.cons.injEq, and_true] at e2
      split at h
      · rename_i hb
        cases hm : ((List.range len).mapM fun i => (w.cells? 0 (a.add (i * P.cellsOf e)) (P.cellsOf e)).bind (DataW.trod enc P w 0 (fun _ => true) true fuel e)) with
        | none => rw [hm] at h; cases h
        | some ys =>
          rw [hm] at h
          simp only [Option.bind_some, if_pos, Option.map_eq_some_iff] at h
          obtain ⟨rest, -, rfl⟩ := h
          have hyl := mapM_some_length hm
          rw [List.length_range] at hyl
          simp only [Reach, DataW.weights, ht] at hr
          have hsize : len * P.bytesOf e ≤ reachBytes := by
            have := hr _ (List.mem_cons_self ..)
            rw [List.length_map, hyl] at this
            exact Nat.le_trans (Nat.mul_le_mul_right _ (Nat.le_add_right _ _)) this
          have key : ∀ i, i < len → ∃ cs y, w.cells? 0 (a.add (i * P.cellsOf e)) (P.cellsOf e) = some cs ∧ DataW.trod enc P w 0 (fun _ => true) true fuel e cs = some y ∧ Reach P e y.1 := fun i hi => by
            obtain ⟨y, hy, hy'⟩ := mapM_at hm (i := i) (a := i) (List.getElem?_range hi)
            simp only [Option.bind_eq_some_iff] at hy
            obtain ⟨cs, h1, h2⟩ := hy
            exact ⟨cs, y, h1, h2, fun n hn => hr n (List.mem_cons_of_mem _ (List.mem_append_left _ (weights_mem_all (i := i) (by rw [List.getElem?_map, hy']; rfl) n hn)))⟩
          refine ⟨some a, len, cap, (List.range len).map fun i => (w.cells? 0 (a.add (i * P.cellsOf e)) (P.cellsOf e)).getD [], e2, by simp, by omega, hsize, fun i row hr => ?_, fun row hr => ?_⟩
          · simp only [List.getElem?_map, Option.map_eq_some_iff] at hr
            obtain ⟨i', hi', rfl⟩ := hr
            have hlt : i < len := by
              rcases Nat.lt_or_ge i len with h | h
              · exact h
              · rw [List.getElem?_eq_none (by simpa using h)] at hi'; cases hi'
            rw [List.getElem?_range hlt] at hi'
            cases hi'
            obtain ⟨cs, y, h1, h2, -⟩ := key i hlt
            rw [h1]
            refine ⟨a, rfl, fun j v hj => ?_⟩
            obtain ⟨_, h4, h5⟩ := World.cells?_some h1
            have hjl : j < cs.length := by
              rcases Nat.lt_or_ge j cs.length with h | h
              · exact h
              · rw [show (some cs).getD [] = cs from rfl, List.getElem?_eq_none h] at hj; cases hj
            rw [h5 j (by omega)]; exact hj
          · simp only [List.mem_map, List.mem_range] at hr
            obtain ⟨i, hi, rfl⟩ := hr
            obtain ⟨cs, y, h1, h2, h3⟩ := key i hi
            rw [h1]
            exact trod_fitsB f ls e fuel cs y hls h2 h3
      · cases h
end
theorem lift_trueB {C : Checked} {F : FuncId} {f : Func} {s : ChangeSpec} {os : Os} {H : Type} {enc : TypeId × Value → H} {ts : List TypeId} {tb : TypeId}
    (own : ownKnob C.prog.godebug = none) (lo : laidOutB C.prog = true) (started : os.Started) (noInit : C.prog.inits.idxOf? F = none) (hfn : C.prog.funcs[F]? = some f)
    (hts : f.params.toList = ts) (hgood : (ts.all fun t => C.prog.readableRec t && decide (t < C.prog.types.size)) = true) (hres : f.resultTypes = #[tb]) (hbool : C.prog.underlying tb = some .bool)
    (hvars : s.vars = []) (hs : ∀ ds : List (DataW H), ds.length = ts.length → (s.fn H ds).results = [.lit (.bool true)] ∧ (s.fn H ds).args = ds ∧ (s.fn H ds).vars = [])
    (witness : ∃ (w : World) (tape : Tape) (i : Input), w.os = os ∧ (w.forCall tape i).Shaped C.prog ∧ i.vars = [] ∧ Input.okWide C.prog (w.forCall tape i) .any w.heap.size F i ∧
      s.pre6 enc C.prog f [] false (w.forCall tape i).memory i.args ∧ ({} : Assume).holds C.prog (lone (Frame.enter C.prog F i.args .normal) [] (w.forCall tape i)))
    (law : ∀ (W : World) (args : List Value) (ds : List (DataW H)) (ps : List MemPlace), (∀ (j : Nat) t v, ts[j]? = some t → args[j]? = some v → ∃ base, Value.okWide C.prog W .any base t v) →
      (∀ (j : Nat) t d, ts[j]? = some t → ds[j]? = some d → Reach C.prog t d) →
      DataW.TrodAll enc C.prog W 0 (fun _ => true) true ts args ds ps → Calls C.prog F args.toArray W (Tru W)) :
    ReturnsInHanded {} C os F .any (s.pre6 enc C.prog f [] false) (s.post enc C.prog f false true false false) := by
  subst hts
  refine returnsInHanded_of_change_sized (C := C) own started noInit hfn witness ?_
  intro W base args ds gs before hval hW hcnd hsz _
  have hW' := hW
  obtain ⟨p, q, hA, hV, rfl, hfz, hnd⟩ := hW
  rw [hvars] at hV
  obtain ⟨rfl, rfl⟩ := trodVars_none hV
  have hlen := trodAll_len hA
  refine (law W args.toList ds p (fun j t v h1 h2 => ⟨base, hval j t v (by simpa using h1) (by simpa using h2)⟩) (fun j t d h1 h2 n hn => ?_) hA).mono fun e W' ⟨he, g⟩ => ?_
  · have hj : j < ds.length := by
      rcases Nat.lt_or_ge j ds.length with h | h
      · exact h
      · rw [List.getElem?_eq_none h] at h2; cases h2
    have := List.all_eq_true.1 hsz n (DataW.weights_mem_each (j := j) (t := t) (d := d) (by rw [List.getElem?_append_left (by omega)]; exact h1) (by rw [List.getElem?_append_left hj]; exact h2) n hn)
    simpa using this
  subst he
  have bel := grow_below g
  obtain ⟨k1, k2, k3⟩ := hs ds hlen
  refine ⟨_, rfl, ds, [], _, [], p, [], hW', ?_, ?_, ?_, bel.frame _, fun h => by cases h⟩
  · rw [List.append_nil, k1, hres]
    exact trodAll_mk1 (shut_bool hbool _)
  · rw [List.append_nil, k2]
    exact trodAll_below lo bel _ _ _ _ hgood hA
  · rw [List.append_nil, k3, hvars]; rfl
end Go.Nf
