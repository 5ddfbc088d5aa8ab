/- Contracts: unmet kinds, in the program and in the reference. -/
import Derived.Test.YtolpmdmcbciccaaDoorWb
import Derived.Test.YtolpmdmcbciccaaDoorNf3
namespace Go.Proofs.YtolpmdmcbciccaaDoor
open Go Go.Nf Go.RowKit

theorem und110 : Tryd.prog.underlying 110 = some (.map 3 3) := of_map (by kernel_rfl)
theorem und3 : Tryd.prog.underlying 3 = some (.int .i64) := by kernel_rfl
theorem elem71 : Elem Tryd.prog 71 3 1 8 := elem_of (by kernel_rfl)
abbrev CntAt (w : World) (m : Nat) (c : Int → Nat) : Prop := FnAt (fun k : Int => Value.int .i64 k) (.int .i64 0) w m (fun k => .int .i64 (c k : Int))
theorem cnt_new {w w1 : World} {k : Nat} (e : w1 = w.alloc (.map #[] k)) : CntAt w1 (hs w) fun _ => 0 := fn_new e
theorem cnt_get {w : World} {m : Nat} {c : Int → Nat} {k : Int} {K : Value → World → Prop} (h : CntAt w m c) (hK : K (.int .i64 (c k : Int)) w) : RunOk Tryd.prog (Hold (Instr.lookup 110 (.map (some m)) (.int .i64 k) false)) w K :=
  fn_get (kv := fun k : Int => Value.int .i64 k) und110 (keys_int und3) (zero3 w) h hK
theorem cnt_put {w : World} {m : Nat} {c c' : Int → Nat} {k v : Int} {K : Unit → World → Prop} (h : CntAt w m c) (hv : v = (c' k : Int)) (hc : ∀ x, x ≠ k → c' x = c x) (hK : ∀ w', CntAt w' m c' → Only (fun b => b = m) w w' → K () w') :
    RunOk Tryd.prog (Hold (Instr.mapUpdate 110 (.map (some m)) (.int .i64 k) (.int .i64 v))) w K :=
  fn_put (kv := fun k : Int => Value.int .i64 k) und110 (keys_int und3) h fun w' h' o => hK w' (h'.eq fun x => by
    by_cases e : x = k
    · rw [if_pos e, hv, e]
    · rw [if_neg e, hc x e]) o
theorem fn_ne {α : Type} {kv : α → Value} {z : Value} {f : α → Value} {w : World} {m b T : Nat} {l : List Value} (h : FnAt kv z w m f) (r : Row w b T l) : b ≠ m := fun e => by
  obtain ⟨es, clock, hb, -⟩ := h.ex
  unfold Row at r
  rw [e, hb] at r
  cases r
theorem fn_neOwn {α : Type} {kv : α → Value} {z : Value} {f : α → Value} {w : World} {m B T k n c : Nat} {o : Option Addr} {l : List Value} (h : FnAt kv z w m f) (r : Own w B T k o n c l) : ∀ b, inBlock o b → b ≠ m := fun b hb => by
  obtain ⟨y, hy⟩ := r.row hb
  exact fn_ne h hy
theorem push_int {w : World} {B n c cx b : Nat} {o : Option Addr} {xs : List Int} {x : Int} {K : Value → World → Prop} (h : Own w B 3 1 o n c (intsV xs)) (hrow : Row w b 3 [.int .i64 x]) (hl : n ≤ 1000000) (hbase : B ≤ hs w)
    (hK : ∀ o' c' w', Own w' B 3 1 o' (n + 1) c' (intsV (xs ++ [x])) → Only (inBlock o) w w' → K (.slice o' (n + 1) c') w') : RunOk Tryd.prog (Hold (Builtin.append_ #[71, 71] 71 #[.slice o n c, .slice (some ⟨b, 0, none⟩) 1 cx])) w K :=
  run_append_row elem71 h hrow rfl (by simp [Value.oneCell']) (by simp only [maxLen]; omega) (by omega) hbase fun o' c' w' p1 p2 _ => hK o' c' w' (by simpa [intsV] using p1) p2
theorem cnt_take {l : List Int} {i : Nat} {k : Int} (h : l[i]? = some k) : cnt (l.take (i + 1)) k = cnt (l.take i) k + 1 ∧ ∀ x, x ≠ k → cnt (l.take (i + 1)) x = cnt (l.take i) x := by
  obtain ⟨q1, q2⟩ := List.getElem?_eq_some_iff.1 h
  rw [List.take_succ_eq_append_getElem q1, q2]
  refine ⟨?_, fun x hx => ?_⟩
  · rw [cnt_append, cnt_cons, if_pos rfl]; simp [cnt]
  · rw [cnt_append, cnt_cons, if_neg fun e => hx e.symm]; simp [cnt]
theorem cnt_le (l : List Int) (x : Int) : cnt l x ≤ l.length := List.countP_le_length
theorem dec1_le (c : Int → Nat) (k x : Int) : dec1 c k x ≤ c x := by
  unfold dec1
  split <;> omega
set_option maxHeartbeats 4000000 in
theorem unmet_c (o o' : Option Addr) (c c' : Nat) (want have' : List Int) (hw : want.length ≤ 1000) (hh : have'.length ≤ 1000) (w : World) {A A' : Nat → Prop} (h : Nums w A o want) (h' : Nums w A' o' have') :
    Calls Tryd.prog 37 #[.slice o want.length c, .slice o' have'.length c'] w fun e w' => ∃ o2 c2, e = .returned (.slice o2 (unmetL want (cnt have')).length c2) ∧ Grow w w' := by
  refine nf37 o want.length c o' have'.length c' w _ fun w1 e1 => ?_
  have g1 : Grow w w1 := only_alloc e1
  have z1 := hs_alloc e1
  refine ⟨fun n x w' => ∃ i : Nat, x = (i : Int) ∧ i ≤ have'.length ∧ n = have'.length - i ∧ CntAt w' (hs w) (cnt (have'.take i)) ∧ Grow w w', ⟨_, 0, rfl, Nat.zero_le _, rfl, (cnt_new e1).eq fun k => by simp [cnt], g1⟩, ?_⟩
  rintro n _ w7 x ⟨i, rfl, hi, rfl, hC, g7⟩
  refine ⟨fun hlt => ?_, fun hge => ?_⟩
  · have hlt : i < have'.length := by have := dT hlt; omega
    have hat := List.getElem?_eq_getElem hlt
    obtain ⟨a, ha, hc⟩ := (h'.grow g7).get hlt
    generalize have'[i] = k at *
    obtain ⟨t1, t2⟩ := cnt_take hat
    have hle := cnt_le (have'.take i) k
    rw [List.length_take] at hle
    refine ⟨a, ha, ⟨by omega, by omega⟩, _, hc, cnt_get hC ⟨_, rfl, cnt_put hC (c' := cnt (have'.take (i + 1))) (by rw [wr (by omega), t1]; omega) t2 fun w17 hC17 o17 => ⟨_, by omega, i + 1, by rw [wr (by omega)]; omega, hlt, rfl, hC17, g7.trans o17 fun b hb e => by omega⟩⟩⟩
  have hC : CntAt w7 (hs w) (cnt have') := by
    have := dF hge
    rwa [List.take_of_length_le (by omega)] at hC
  refine ⟨fun n o n' c x w' => ∃ (i : Nat) (d : Int → Nat) (rest : List Int), x = (i : Int) ∧ i ≤ want.length ∧ n = want.length - i ∧ n' = rest.length ∧ rest.length ≤ i ∧ pass1 (cnt have') want = ((pass1 d (want.drop i)).1, rest ++ (pass1 d (want.drop i)).2) ∧ (∀ k, d k ≤ 1000) ∧ Own w' (hs w) 3 1 o n' c (intsV rest) ∧ CntAt w' (hs w) d ∧ Grow w w',
    ⟨_, 0, cnt have', [], rfl, Nat.zero_le _, rfl, rfl, Nat.le_refl _, by simp, fun k => Nat.le_trans (cnt_le _ _) hh, own_nil _ _ _ _, hC, g7⟩, ?_⟩
  rintro n _ w24 o25 n26 c27 x ⟨i, d, rest, rfl, hi, rfl, rfl, hr, hp, hd, own24, hC24, g24⟩
  have z24 := g24.size
  refine ⟨fun hlt k31 hk => ?_, fun hge2 => ?_⟩
  · have hlt : i < want.length := by have := dT hlt; omega
    obtain ⟨a, ha, hc⟩ := (h.grow g24).get hlt
    rw [List.drop_eq_getElem_cons hlt] at hp
    generalize want[i] = k at *
    have hdk := hd k
    refine ⟨a, ha, ⟨by omega, by omega⟩, _, hc, cnt_get hC24 ⟨_, rfl, fun hpos => cnt_get hC24 ⟨_, rfl, cnt_put hC24 (c' := dec1 d k) (by have := dT hpos; rw [wr (by omega), dec1_same]; omega) (fun x hx => dec1_other hx) fun w50 hC50 o50 => hk _ _ _ _ fun _ => ?_⟩, fun hpos w52 e52 => ?_⟩⟩
    · have hpos : 0 < d k := by have := dT hpos; omega
      rw [pass1, if_pos hpos] at hp
      exact ⟨_, by omega, i + 1, dec1 d k, rest, by rw [wr (by omega)]; omega, hlt, rfl, rfl, by omega, hp, fun x => Nat.le_trans (dec1_le _ _ _) (hd x), own24.keep o50 fun b hb e => fn_neOwn hC24 own24 b hb e, hC50, g24.trans o50 fun b hb e => by omega⟩
    · have hpos : ¬ 0 < d k := by have := dF hpos; omega
      rw [pass1, if_neg hpos] at hp
      have g52 : Grow w24 w52 := only_alloc e52
      have r52 : Row w52 (hs w24) 3 [.int .i64 k] := Row.new e52
      have z52 := g52.size
      refine push_int (own24.grow g52) r52 (by omega) (by omega) fun o56 c58 w55 p1 p2 => ⟨_, _, _, rfl, hk _ _ _ _ fun _ => ?_⟩
      exact ⟨_, by omega, i + 1, d, rest ++ [k], by rw [wr (by omega)]; omega, hlt, rfl, by simp, by simp; omega, by rw [hp]; simp, hd, p1, (hC24.grow g52).keep p2 fun e => fn_neOwn hC24 own24 _ e rfl, (g24.trans' g52).trans p2 fun b hb e => by have := (own24.base b e).1; omega⟩
  have hp : pass1 (cnt have') want = (d, rest) := by
    have := dF hge2
    rw [List.drop_eq_nil_of_le (by omega), pass1, List.append_nil] at hp
    exact hp
  have hlow : ∀ b, inBlock o25 b → b < hs w24 := fun b hb => (own24.base b hb).2
  have hun : unmetL want (cnt have') = pass2 (d 2) rest := by unfold unmetL; rw [hp]
  rw [hun]
  refine ⟨fun n o n' c x w' => ∃ (i q : Nat) (out : List Int) (d' : Int → Nat), x = (i : Int) ∧ i ≤ rest.length ∧ n = rest.length - i ∧ n' = out.length ∧ out.length ≤ i ∧ q = d' 2 ∧ q ≤ 1000 ∧ pass2 (d 2) rest = out ++ pass2 q (rest.drop i) ∧ Own w' (hs w24) 3 1 o n' c (intsV out) ∧ CntAt w' (hs w) d' ∧ Own w' (hs w) 3 1 o25 rest.length c27 (intsV rest) ∧ Only (fun b => b = hs w ∨ hs w24 ≤ b) w24 w' ∧ Grow w w',
    ⟨_, 0, d 2, [], d, rfl, Nat.zero_le _, rfl, rfl, Nat.le_refl _, rfl, hd 2, by simp, own_nil _ _ _ _, hC24, own24, Only.refl _ _, g24⟩, ?_⟩
  rintro n _ w64 o65 n66 c67 x ⟨j, q, out, d', rfl, hj, rfl, rfl, ho, rfl, hq, hp2, own64, hC64, hN64, o64, g64⟩
  have z64 := g64.size
  have y64 := o64.size
  refine ⟨fun hlt k71 hk => ?_, fun hge3 => ?_⟩
  · have hlt : j < rest.length := by have := dT hlt; omega
    obtain ⟨a, ha, hc⟩ := hN64.nums.get hlt
    rw [List.drop_eq_getElem_cons hlt] at hp2
    generalize rest[j] = k at *
    have pushed : ∀ w101, w101 = w64.alloc (.cells #[.int .i64 k] 3 (0, 0)) → pass2 (d 2) rest = (out ++ [k]) ++ pass2 (d' 2) (rest.drop (j + 1)) → RunOk Tryd.prog (Hold (Builtin.append_ #[71, 71] 71 #[.slice o65 out.length c67, .slice (some ⟨hs w64, 0, none⟩) 1 1])) w101 fun v w => ∃ o n c, v = .slice o n c ∧ k71 o n c w := fun w101 e101 hp3 => by
      have g101 : Grow w64 w101 := only_alloc e101
      have r101 : Row w101 (hs w64) 3 [.int .i64 k] := Row.new e101
      have z101 := g101.size
      refine push_int (own64.grow g101) r101 (by omega) (by omega) fun o105 c107 w104 p1 p2 => ⟨_, _, _, rfl, hk _ _ _ _ fun _ => ?_⟩
      exact ⟨_, by omega, j + 1, _, out ++ [k], d', by rw [wr (by omega)]; omega, hlt, rfl, by simp, by simp; omega, rfl, hq, hp3, p1, (hC64.grow g101).keep p2 fun e => fn_neOwn hC64 own64 _ e rfl, (hN64.grow g101).keep p2 fun b hb e => by have := (own64.base b e).1; have := hlow b hb; omega, (o64.grow g101).trans p2 fun b hb e => .inr (own64.base b e).1, (g64.trans' g101).trans p2 fun b hb e => by have := (own64.base b e).1; omega⟩
    refine ⟨a, ha, ⟨by omega, by omega⟩, _, hc, fun h1 => cnt_get hC64 ⟨_, rfl, fun hpos => cnt_get hC64 ⟨_, rfl, cnt_put hC64 (c' := dec1 d' 2) (by have := dT hpos; rw [wr (by omega), dec1_same]; omega) (fun x hx => dec1_other hx) fun w91 hC91 o91 => hk _ _ _ _ fun _ => ?_⟩, fun hpos w93 e93 => ?_⟩, fun h1 w101 e101 => ?_⟩
    · have hk1 : k = 1 := dT h1
      have hpos : 0 < d' 2 := by have := dT hpos; omega
      rw [pass2, if_pos ⟨hk1, hpos⟩] at hp2
      exact ⟨_, by omega, j + 1, _, out, dec1 d' 2, by rw [wr (by omega)]; omega, hlt, rfl, rfl, by omega, rfl, Nat.le_trans (dec1_le _ _ _) hq, by rw [dec1_same]; exact hp2, own64.keep o91 fun b hb e => fn_neOwn hC64 own64 b hb e, hC91, hN64.keep o91 fun b hb e => fn_neOwn hC64 hN64 b hb e, o64.trans o91 fun b hb e => .inl e, g64.trans o91 fun b hb e => by omega⟩
    · have hpos : ¬ 0 < d' 2 := by have := dF hpos; omega
      rw [pass2, if_neg fun k => hpos k.2] at hp2
      exact pushed w93 e93 (by rw [hp2]; simp)
    · rw [pass2, if_neg fun k => dF h1 k.1] at hp2
      exact pushed w101 e101 (by rw [hp2]; simp)
  · have := dF hge3
    rw [List.drop_eq_nil_of_le (by omega), pass2, List.append_nil] at hp2
    rw [hp2]
    exact ⟨o65, c67, rfl, g64⟩
end Go.Proofs.YtolpmdmcbciccaaDoor
