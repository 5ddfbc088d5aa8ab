/- Unmet kinds; the order of the incidents and its sort. -/
import Derived.Test.YtcaokpglbolkcaaTj
import Derived.Test.YtcaokpglbolkcaaNfK
namespace Go.Proofs.Ytcaokpglbolkcaa
open Go Go.Nf Go.RowKit

def dec1 (c : Int → Nat) (k : Int) : Int → Nat := fun x => if x = k then c x - 1 else c x
def pass1 : (Int → Nat) → List Int → (Int → Nat) × List Int
  | c, [] => (c, [])
  | c, k :: ks => if 0 < c k then pass1 (dec1 c k) ks else ((pass1 c ks).1, k :: (pass1 c ks).2)
def pass2 : Nat → List Int → List Int
  | _, [] => []
  | n, k :: ks => if k = 1 ∧ 0 < n then pass2 (n - 1) ks else k :: pass2 n ks
def unmetL (want : List Int) (c : Int → Nat) : List Int := pass2 ((pass1 c want).1 2) (pass1 c want).2
def cntK (l : List Int) (x : Int) : Nat := l.countP fun y => decide (y = x)
theorem dec1_other {c : Int → Nat} {j k : Int} (h : k ≠ j) : dec1 c j k = c k := by unfold dec1; rw [if_neg h]
theorem dec1_same (c : Int → Nat) (j : Int) : dec1 c j j = c j - 1 := by unfold dec1; rw [if_pos rfl]
theorem cnt_append (a b : List Int) (x : Int) : cntK (a ++ b) x = cntK a x + cntK b x := by unfold cntK; rw [List.countP_append]
theorem cnt_cons (a : Int) (b : List Int) (x : Int) : cntK (a :: b) x = cntK b x + if a = x then 1 else 0 := by
  unfold cntK
  rw [List.countP_cons]
  by_cases h : a = x <;> simp [h]
theorem und82 : Try.prog.underlying 82 = some (.map 3 3) := of_map (by kernel_rfl)
theorem zeroV3 (w : World) : (zeroValue 3).run Try.prog w = .ok (.int .i64 0) w := run_zeroV (by kernel_rfl) w
abbrev CntAt (w : World) (m : Nat) (c : Int → Nat) : Prop := FnAt (fun k : Int => Value.int .i64 k) (.int .i64 0) w m (fun k => .int .i64 (c k : Int))
theorem cnt_new {w w1 : World} {k : Nat} (e : w1 = w.alloc (.map #[] k)) : CntAt w1 (hs w) fun _ => 0 := fn_new e
theorem cnt_get {w : World} {m : Nat} {c : Int → Nat} {k : Int} {K : Value → World → Prop} (h : CntAt w m c) (hK : K (.int .i64 (c k : Int)) w) : RunOk Try.prog (Hold (Instr.lookup 82 (.map (some m)) (.int .i64 k) false)) w K :=
  fn_get (kv := fun k : Int => Value.int .i64 k) und82 (keys_int und3) (zeroV3 w) h hK
theorem cnt_put {w : World} {m : Nat} {c c' : Int → Nat} {k v : Int} {K : Unit → World → Prop} (h : CntAt w m c) (hv : v = (c' k : Int)) (hc : ∀ x, x ≠ k → c' x = c x) (hK : ∀ w', CntAt w' m c' → Only (fun b => b = m) w w' → K () w') :
    RunOk Try.prog (Hold (Instr.mapUpdate 82 (.map (some m)) (.int .i64 k) (.int .i64 v))) w K :=
  fn_put (kv := fun k : Int => Value.int .i64 k) und82 (keys_int und3) h fun w' h' o => hK w' (h'.eq fun x => by
    by_cases e : x = k
    · rw [if_pos e, hv, e]
    · rw [if_neg e, hc x e]) o
theorem fn_ne {α : Type} {kv : α → Value} {z : Value} {f : α → Value} {w : World} {m b T : Nat} {l : List Value} (h : FnAt kv z w m f) (r : Row w b T l) : b ≠ m := fun e => by
  obtain ⟨es, clock, hb, -⟩ := h.ex
  unfold Row at r
  rw [e, hb] at r
  cases r
theorem fn_neOwn {α : Type} {kv : α → Value} {z : Value} {f : α → Value} {w : World} {m B T k n c : Nat} {o : Option Addr} {l : List Value} (h : FnAt kv z w m f) (r : Own w B T k o n c l) : ∀ b, inBlock o b → b ≠ m := fun b hb => by
  obtain ⟨y, hy⟩ := r.row hb
  exact fn_ne h hy
theorem push_int {w : World} {B n c cx b : Nat} {o : Option Addr} {xs : List Int} {x : Int} {K : Value → World → Prop} (h : Own w B 3 1 o n c (intsV xs)) (hrow : Row w b 3 [.int .i64 x]) (hl : n ≤ 1000000) (hbase : B ≤ hs w)
    (hK : ∀ o' c' w', Own w' B 3 1 o' (n + 1) c' (intsV (xs ++ [x])) → Only (inBlock o) w w' → K (.slice o' (n + 1) c') w') : RunOk Try.prog (Hold (Builtin.append_ #[31, 31] 31 #[.slice o n c, .slice (some ⟨b, 0, none⟩) 1 cx])) w K :=
  run_append_row elem31 h hrow rfl (by simp [Value.oneCell']) (by simp only [maxLen]; omega) (by omega) hbase fun o' c' w' p1 p2 _ => hK o' c' w' (by simpa [intsV] using p1) p2
theorem cnt_take {l : List Int} {i : Nat} {k : Int} (h : l[i]? = some k) : cntK (l.take (i + 1)) k = cntK (l.take i) k + 1 ∧ ∀ x, x ≠ k → cntK (l.take (i + 1)) x = cntK (l.take i) x := by
  obtain ⟨q1, q2⟩ := List.getElem?_eq_some_iff.1 h
  rw [List.take_succ_eq_append_getElem q1, q2]
  refine ⟨?_, fun x hx => ?_⟩
  · rw [cnt_append, cnt_cons, if_pos rfl]; simp [cntK]
  · rw [cnt_append, cnt_cons, if_neg fun e => hx e.symm]; simp [cntK]
theorem cnt_le (l : List Int) (x : Int) : cntK l x ≤ l.length := List.countP_le_length
theorem dec1_le (c : Int → Nat) (k x : Int) : dec1 c k x ≤ c x := by
  unfold dec1
  split <;> omega
set_option maxHeartbeats 4000000 in
theorem unmet_c (o o' : Option Addr) (c c' : Nat) (want have' : List Int) (hw : want.length ≤ 1000) (hh : have'.length ≤ 1000) (w : World) {A A' : Nat → Prop} (h : Nums w A o want) (h' : Nums w A' o' have') :
    Calls Try.prog 26 #[.slice o want.length c, .slice o' have'.length c'] w fun e w' => ∃ o2 c2, e = .returned (.slice o2 (unmetL want (cntK have')).length c2) ∧ Own w' (hs w) 3 1 o2 (unmetL want (cntK have')).length c2 (intsV (unmetL want (cntK have'))) ∧ Grow w w' := by
  refine nf26 o want.length c o' have'.length c' w _ fun w1 e1 => ?_
  have g1 : Grow w w1 := only_alloc e1
  have z1 := hs_alloc e1
  refine ⟨fun n x w' => ∃ i : Nat, x = (i : Int) ∧ i ≤ have'.length ∧ n = have'.length - i ∧ CntAt w' (hs w) (cntK (have'.take i)) ∧ Grow w w', ⟨_, 0, rfl, Nat.zero_le _, rfl, (cnt_new e1).eq fun k => by simp [cntK], g1⟩, ?_⟩
  rintro n _ w7 x ⟨i, rfl, hi, rfl, hC, g7⟩
  refine ⟨fun hlt => ?_, fun hge => ?_⟩
  · have hlt : i < have'.length := by have := dT hlt; omega
    have hat := List.getElem?_eq_getElem hlt
    obtain ⟨a, ha, hc⟩ := (h'.grow g7).get hlt
    generalize have'[i] = k at *
    obtain ⟨t1, t2⟩ := cnt_take hat
    have hle := cnt_le (have'.take i) k
    rw [List.length_take] at hle
    refine ⟨a, ha, ⟨by omega, by omega⟩, _, hc, cnt_get hC ⟨_, rfl, cnt_put hC (c' := cntK (have'.take (i + 1))) (by rw [wr (by omega), t1]; omega) t2 fun w17 hC17 o17 => ⟨_, by omega, i + 1, by rw [wr (by omega)]; omega, hlt, rfl, hC17, g7.trans o17 fun b hb e => by omega⟩⟩⟩
  have hC : CntAt w7 (hs w) (cntK have') := by
    have := dF hge
    rwa [List.take_of_length_le (by omega)] at hC
  refine ⟨fun n o n' c x w' => ∃ (i : Nat) (d : Int → Nat) (rest : List Int), x = (i : Int) ∧ i ≤ want.length ∧ n = want.length - i ∧ n' = rest.length ∧ rest.length ≤ i ∧ pass1 (cntK have') want = ((pass1 d (want.drop i)).1, rest ++ (pass1 d (want.drop i)).2) ∧ (∀ k, d k ≤ 1000) ∧ Own w' (hs w) 3 1 o n' c (intsV rest) ∧ CntAt w' (hs w) d ∧ Grow w w',
    ⟨_, 0, cntK have', [], rfl, Nat.zero_le _, rfl, rfl, Nat.le_refl _, by simp, fun k => Nat.le_trans (cnt_le _ _) hh, own_nil _ _ _ _, hC, g7⟩, ?_⟩
  rintro n _ w24 o25 n26 c27 x ⟨i, d, rest, rfl, hi, rfl, rfl, hr, hp, hd, own24, hC24, g24⟩
  have z24 := g24.size
  refine ⟨fun hlt k31 hk => ?_, fun hge2 => ?_⟩
  · have hlt : i < want.length := by have := dT hlt; omega
    obtain ⟨a, ha, hc⟩ := (h.grow g24).get hlt
    rw [List.drop_eq_getElem_cons hlt] at hp
    generalize want[i] = k at *
    have hdk := hd k
    refine ⟨a, ha, ⟨by omega, by omega⟩, _, hc, cnt_get hC24 ⟨_, rfl, fun hpos => cnt_get hC24 ⟨_, rfl, cnt_put hC24 (c' := dec1 d k) (by have := dT hpos; rw [wr (by omega), dec1_same]; omega) (fun x hx => dec1_other hx) fun w50 hC50 o50 => hk _ _ _ _ fun _ => ?_⟩, fun hpos w52 e52 => ?_⟩⟩
    · have hpos : 0 < d k := by have := dT hpos; omega
      rw [pass1, if_pos hpos] at hp
      exact ⟨_, by omega, i + 1, dec1 d k, rest, by rw [wr (by omega)]; omega, hlt, rfl, rfl, by omega, hp, fun x => Nat.le_trans (dec1_le _ _ _) (hd x), own24.keep o50 fun b hb e => fn_neOwn hC24 own24 b hb e, hC50, g24.trans o50 fun b hb e => by omega⟩
    · have hpos : ¬ 0 < d k := by have := dF hpos; omega
      rw [pass1, if_neg hpos] at hp
      have g52 : Grow w24 w52 := only_alloc e52
      have r52 : Row w52 (hs w24) 3 [.int .i64 k] := Row.new e52
      have z52 := g52.size
      refine push_int (own24.grow g52) r52 (by omega) (by omega) fun o56 c58 w55 p1 p2 => ⟨_, _, _, rfl, hk _ _ _ _ fun _ => ?_⟩
      exact ⟨_, by omega, i + 1, d, rest ++ [k], by rw [wr (by omega)]; omega, hlt, rfl, by simp, by simp; omega, by rw [hp]; simp, hd, p1, (hC24.grow g52).keep p2 fun e => fn_neOwn hC24 own24 _ e rfl, (g24.trans' g52).trans p2 fun b hb e => by have := (own24.base b e).1; omega⟩
  have hp : pass1 (cntK have') want = (d, rest) := by
    have := dF hge2
    rw [List.drop_eq_nil_of_le (by omega), pass1, List.append_nil] at hp
    exact hp
  have hlow : ∀ b, inBlock o25 b → b < hs w24 := fun b hb => (own24.base b hb).2
  have hun : unmetL want (cntK have') = pass2 (d 2) rest := by unfold unmetL; rw [hp]
  rw [hun]
  refine ⟨fun n o n' c x w' => ∃ (i q : Nat) (out : List Int) (d' : Int → Nat), x = (i : Int) ∧ i ≤ rest.length ∧ n = rest.length - i ∧ n' = out.length ∧ out.length ≤ i ∧ q = d' 2 ∧ q ≤ 1000 ∧ pass2 (d 2) rest = out ++ pass2 q (rest.drop i) ∧ Own w' (hs w24) 3 1 o n' c (intsV out) ∧ CntAt w' (hs w) d' ∧ Own w' (hs w) 3 1 o25 rest.length c27 (intsV rest) ∧ Only (fun b => b = hs w ∨ hs w24 ≤ b) w24 w' ∧ Grow w w',
    ⟨_, 0, d 2, [], d, rfl, Nat.zero_le _, rfl, rfl, Nat.le_refl _, rfl, hd 2, by simp, own_nil _ _ _ _, hC24, own24, Only.refl _ _, g24⟩, ?_⟩
  rintro n _ w64 o65 n66 c67 x ⟨j, q, out, d', rfl, hj, rfl, rfl, ho, rfl, hq, hp2, own64, hC64, hN64, o64, g64⟩
  have z64 := g64.size
  have y64 := o64.size
  refine ⟨fun hlt k71 hk => ?_, fun hge3 => ?_⟩
  · have hlt : j < rest.length := by have := dT hlt; omega
    obtain ⟨a, ha, hc⟩ := hN64.nums.get hlt
    rw [List.drop_eq_getElem_cons hlt] at hp2
    generalize rest[j] = k at *
    have pushed : ∀ w101, w101 = w64.alloc (.cells #[.int .i64 k] 3 (0, 0)) → pass2 (d 2) rest = (out ++ [k]) ++ pass2 (d' 2) (rest.drop (j + 1)) → RunOk Try.prog (Hold (Builtin.append_ #[31, 31] 31 #[.slice o65 out.length c67, .slice (some ⟨hs w64, 0, none⟩) 1 1])) w101 fun v w => ∃ o n c, v = .slice o n c ∧ k71 o n c w := fun w101 e101 hp3 => by
      have g101 : Grow w64 w101 := only_alloc e101
      have r101 : Row w101 (hs w64) 3 [.int .i64 k] := Row.new e101
      have z101 := g101.size
      refine push_int (own64.grow g101) r101 (by omega) (by omega) fun o105 c107 w104 p1 p2 => ⟨_, _, _, rfl, hk _ _ _ _ fun _ => ?_⟩
      exact ⟨_, by omega, j + 1, _, out ++ [k], d', by rw [wr (by omega)]; omega, hlt, rfl, by simp, by simp; omega, rfl, hq, hp3, p1, (hC64.grow g101).keep p2 fun e => fn_neOwn hC64 own64 _ e rfl, (hN64.grow g101).keep p2 fun b hb e => by have := (own64.base b e).1; have := hlow b hb; omega, (o64.grow g101).trans p2 fun b hb e => .inr (own64.base b e).1, (g64.trans' g101).trans p2 fun b hb e => by have := (own64.base b e).1; omega⟩
    refine ⟨a, ha, ⟨by omega, by omega⟩, _, hc, fun h1 => cnt_get hC64 ⟨_, rfl, fun hpos => cnt_get hC64 ⟨_, rfl, cnt_put hC64 (c' := dec1 d' 2) (by have := dT hpos; rw [wr (by omega), dec1_same]; omega) (fun x hx => dec1_other hx) fun w91 hC91 o91 => hk _ _ _ _ fun _ => ?_⟩, fun hpos w93 e93 => ?_⟩, fun h1 w101 e101 => ?_⟩
    · have hk1 : k = 1 := dT h1
      have hpos : 0 < d' 2 := by have := dT hpos; omega
      rw [pass2, if_pos ⟨hk1, hpos⟩] at hp2
      exact ⟨_, by omega, j + 1, _, out, dec1 d' 2, by rw [wr (by omega)]; omega, hlt, rfl, rfl, by omega, rfl, Nat.le_trans (dec1_le _ _ _) hq, by rw [dec1_same]; exact hp2, own64.keep o91 fun b hb e => fn_neOwn hC64 own64 b hb e, hC91, hN64.keep o91 fun b hb e => fn_neOwn hC64 hN64 b hb e, o64.trans o91 fun b hb e => .inl e, g64.trans o91 fun b hb e => by omega⟩
    · have hpos : ¬ 0 < d' 2 := by have := dF hpos; omega
      rw [pass2, if_neg fun k => hpos k.2] at hp2
      exact pushed w93 e93 (by rw [hp2]; simp)
    · rw [pass2, if_neg fun k => dF h1 k.1] at hp2
      exact pushed w101 e101 (by rw [hp2]; simp)
  · have := dF hge3
    rw [List.drop_eq_nil_of_le (by omega), pass2, List.append_nil] at hp2
    rw [hp2]
    exact ⟨o65, c67, rfl, own64.mono (by have := g24.size; omega), g64⟩
/-- without plans -/
theorem required_c (code : ByteArray) (urg : Int) (w : World) : Calls Try.prog 25 #[.slice none 0 0, .string code, .int .i64 urg] w fun e w' => ∃ b, e = .returned (.slice (some ⟨b, 0, none⟩) 1 1) ∧ Row w' b 3 (intsV [1]) ∧ Grow w w' := by
  have find : ∀ (code : ByteArray) (w : World), Calls Try.prog 48 #[.slice none 0 0, .string code, .int .i64 urg] w fun e w' => e = .returned (.int .i64 (-1)) ∧ Grow w w' := fun code w => by
    refine nf48 none 0 0 code urg w _ fun w1 e1 w3 e3 => ?_
    refine nf61 none 0 0 _ _ _ w3 _ ⟨fun n x w' => x = 0 ∧ w' = w3, ⟨0, rfl, rfl⟩, ?_⟩
    rintro n _ _ x ⟨rfl, rfl⟩
    exact ⟨fun h => absurd (dT h) (by decide), fun _ => ⟨_, rfl, rfl, (only_alloc e1).trans' (only_alloc e3)⟩⟩
  refine nf25 none 0 0 code urg w _ ((find code w).mono ?_)
  rintro _ w2 ⟨rfl, g2⟩
  refine ⟨_, rfl, fun k4 hk => ⟨fun _ => (find _ w2).mono ?_, fun k => absurd (by decide) (dF k)⟩⟩
  rintro _ w25 ⟨rfl, g25⟩
  exact ⟨_, rfl, hk _ _ fun _ => ⟨fun _ w11 e11 => ⟨_, rfl, Row.new e11, (g2.trans' g25).trans' (only_alloc e11)⟩, fun k => absurd (by decide) (dF k)⟩⟩

/-! ### the order of the incidents -/
def cmpInc (a b : Inc) : Int := orL [cmpI a.urg b.urg, cmpI a.since b.since, cmpI a.id b.id]
def aggInc (x : Inc) : Value := .agg (encInc x).toArray
set_option maxHeartbeats 1000000 in
theorem cmp_c (a b : Inc) (w : World) : Calls Try.prog 44 #[aggInc a, aggInc b] w fun e w' => e = .returned (.int .i64 (cmpInc a b)) ∧ Grow w w' := by
  refine nf44 a.id a.urg a.code a.oN a.nodes.length a.cN a.district a.since a.oC a.nC a.cC a.oU a.nU a.cU a.merged a.closed b.id b.urg b.code b.oN b.nodes.length b.cN b.district b.since b.oC b.nC b.cC b.oU b.nU b.cU b.merged b.closed w _ fun w1 e1 w3 e3 w5 e5 => ?_
  have g1 : Grow w w1 := only_alloc e1
  have g3 : Grow w1 w3 := only_alloc e3
  have g5 : Grow w3 w5 := only_drew e5
  have ra := ((Row.new (l := encInc a) e1).grow g3).grow g5
  have rb := (Row.new (l := encInc b) e3).grow g5
  have G5 := (g1.trans' g3).trans' g5
  refine ⟨_, ra.cell rfl, _, rb.cell rfl, _, ra.cell rfl, _, rb.cell rfl, _, ra.cell rfl, _, rb.cell rfl, (cmp46 a.urg b.urg w5).mono ?_⟩
  rintro _ _ ⟨rfl, rfl⟩
  have kr : ∀ c o, Kept w5 w5 ⟨c, o, none⟩ 1 := fun c o i _ => rfl
  refine ⟨_, rfl, kr _ _, kr _ _, kr _ _, kr _ _, (cmp47 a.since b.since w5).mono ?_⟩
  rintro _ _ ⟨rfl, rfl⟩
  refine ⟨_, rfl, kr _ _, kr _ _, (cmp47 a.id b.id w5).mono ?_⟩
  rintro _ _ ⟨rfl, rfl⟩
  refine ⟨_, rfl, fun w22 e22 => ?_⟩
  have r22 : Row w22 (hs w5) 3 (intsV [cmpI a.urg b.urg, cmpI a.since b.since, cmpI a.id b.id]) := Row.new e22
  refine (or_c (some ⟨hs w5, 0, none⟩) 3 [cmpI a.urg b.urg, cmpI a.since b.since, cmpI a.id b.id] (by simp) w22 (A := fun _ => True) (r22.nums trivial)).mono ?_
  rintro _ _ ⟨rfl, rfl⟩
  exact ⟨_, rfl, rfl, G5.trans' (only_alloc e22)⟩

theorem own_rec {α : Type} {f : α → List Value} {k : Nat} (hk : ∀ m, (f m).length = k) {w w' : World} {B T n c g : Nat} {l : List α} (h : Own w B T k (some ⟨g, 0, none⟩) n c (l.flatMap f)) {j : Nat} (hj : j < l.length) {x : α} (e : w' = setCells w ((⟨g, 0, none⟩ : Addr).add ((j : Int).toNat * k)) (f x) 0) :
    Own w' B T k (some ⟨g, 0, none⟩) n c ((l.set j x).flatMap f) ∧ Only (fun b => b = g) w w' := by
  have hfl := flat_length hk l
  have hle : (j + 1) * k ≤ l.length * k := Nat.mul_le_mul_right k hj
  rw [Nat.succ_mul] at hle
  have hl := h.length
  rw [hfl] at hl
  have h1 := h.set e (by rw [toNat_cast, hk]; omega)
  refine ⟨?_, only_setAdd e⟩
  have e2 := flat_over' hk l [x] j (by rw [List.length_singleton]; omega)
  rw [List.flatMap_singleton] at e2
  rw [toNat_cast, e2] at h1
  have e3 : l.take j ++ [x] ++ l.drop (j + [x].length) = l.set j x := by rw [List.set_eq_take_append_cons_drop, if_pos hj]; simp
  rwa [e3] at h1
theorem rec_there {α : Type} {f : α → List Value} {k : Nat} (hk : ∀ m, (f m).length = k) {w : World} {B T n c g : Nat} {l : List α} (h : Own w B T k (some ⟨g, 0, none⟩) n c (l.flatMap f)) {j : Nat} (hj : j < l.length) : There w ((⟨g, 0, none⟩ : Addr).add ((j : Int).toNat * k)) k := by
  have hle : (j + 1) * k ≤ l.length * k := Nat.mul_le_mul_right k hj
  rw [Nat.succ_mul] at hle
  have hl := h.length
  rw [flat_length hk] at hl
  exact h.there (by rw [toNat_cast]; omega)

/-! ### the sort -/
def sink : Nat → List Inc → List Inc
  | 0, l => l
  | j + 1, l => match l[j]?, l[j + 1]? with
    | some x, some y => if cmpInc y x < 0 then sink j ((l.set (j + 1) x).set j y) else l
    | _, _ => l
def isortN : Nat → List Inc → List Inc
  | 0, l => l
  | k + 1, l => sink k (isortN k l)
def sortI (l : List Inc) : List Inc := isortN l.length l
theorem sink_len : ∀ (j : Nat) (l : List Inc), (sink j l).length = l.length
  | 0, l => rfl
  | j + 1, l => by
    unfold sink
    split
    · split
      · rw [sink_len j]; simp
      · rfl
    · rfl
theorem isortN_len : ∀ (k : Nat) (l : List Inc), (isortN k l).length = l.length
  | 0, l => rfl
  | k + 1, l => by rw [isortN, sink_len, isortN_len k]
theorem sortI_len (l : List Inc) : (sortI l).length = l.length := isortN_len _ l
theorem sink_mem : ∀ (j : Nat) (l : List Inc) (z : Inc), z ∈ sink j l → z ∈ l
  | 0, l, z, h => h
  | j + 1, l, z, h => by
    unfold sink at h
    split at h
    · rename_i x y h1 h2
      split at h
      · have h3 := sink_mem j _ z h
        rcases List.mem_or_eq_of_mem_set h3 with h4 | rfl
        · rcases List.mem_or_eq_of_mem_set h4 with h5 | rfl
          · exact h5
          · exact List.mem_of_getElem? h1
        · exact List.mem_of_getElem? h2
      · exact h
    · exact h
theorem isortN_mem : ∀ (k : Nat) (l : List Inc) (z : Inc), z ∈ isortN k l → z ∈ l
  | 0, l, z, h => h
  | k + 1, l, z, h => isortN_mem k l z (sink_mem k _ z h)
theorem sortI_mem {l : List Inc} {z : Inc} (h : z ∈ sortI l) : z ∈ l := isortN_mem _ l z h
theorem sink_ids : ∀ (j : Nat) (l : List Inc), ((sink j l).map (·.id)).Perm (l.map (·.id))
  | 0, l => List.Perm.refl _
  | j + 1, l => by
    unfold sink
    split
    · rename_i x y h1 h2
      split
      · refine (sink_ids j _).trans ?_
        obtain ⟨i1, g1⟩ := List.getElem?_eq_some_iff.1 h1
        obtain ⟨i2, g2⟩ := List.getElem?_eq_some_iff.1 h2
        rw [List.map_set, List.map_set]
        have := swap_perm (xs := l.map (·.id)) (i := j + 1) (j := j) (by simpa using i2) (by simpa using i1)
        rw [List.getElem_map, List.getElem_map, g1, g2] at this
        exact this
      · exact List.Perm.refl _
    · exact List.Perm.refl _
theorem isortN_ids : ∀ (k : Nat) (l : List Inc), ((isortN k l).map (·.id)).Perm (l.map (·.id))
  | 0, l => List.Perm.refl _
  | k + 1, l => (sink_ids k _).trans (isortN_ids k l)
theorem sortI_ids (l : List Inc) : ((sortI l).map (·.id)).Perm (l.map (·.id)) := isortN_ids _ l
theorem callee44 : calleeOk Try.prog 44 = true := by kernel_rfl
set_option maxHeartbeats 4000000 in
theorem isort_c {w : World} {B n c : Nat} {o : Option Addr} {l : List Inc} (hn : n = l.length) (hl : n ≤ 1000) (h : Own w B 34 10 o n c (l.flatMap encInc)) :
    Calls Try.prog 75 #[.slice o n c, .int .i64 0, .int .i64 (n : Int), .func (.func 44) #[] #[]] w fun e w' => e = .returned (.tuple #[]) ∧ Own w' B 34 10 o n c ((sortI l).flatMap encInc) ∧ Only (inBlock o) w w' := by
  refine nf75 o n c 0 (n : Int) (.func 44) #[] #[] w _ ⟨fun k x w' => ∃ i : Nat, x = (i : Int) ∧ 1 ≤ i ∧ (i ≤ n ∨ i = 1) ∧ k = n - i ∧ Own w' B 34 10 o n c ((isortN i l).flatMap encInc) ∧ Only (inBlock o) w w',
    ⟨_, 1, by rw [wr (by omega)]; rfl, Nat.le_refl _, .inr rfl, rfl, h, Only.refl _ _⟩, ?_⟩
  rintro k _ w5 x ⟨i, rfl, hi1, hin, rfl, own5, o5⟩
  refine ⟨fun hlt => ?_, fun hge => ⟨rfl, ?_, o5⟩⟩
  rotate_left
  · have hge := dF hge
    unfold sortI
    rcases hin with q | q
    · have : i = l.length := by omega
      rw [← this]; exact own5
    · have : l.length = 0 ∨ l.length = 1 := by omega
      rcases this with e | e
      · rw [e]; rw [q] at own5; exact own5
      · rw [e]; rw [q] at own5; exact own5
  have hlt : i < n := by have := dT hlt; omega
  have hlen0 := isortN_len i l
  refine ⟨fun m y w' => ∃ (j : Nat) (cur : List Inc), y = (j : Int) ∧ j ≤ i ∧ m = j ∧ cur.length = n ∧ sink i (isortN i l) = sink j cur ∧ Own w' B 34 10 o n c (cur.flatMap encInc) ∧ Only (inBlock o) w w', ⟨_, i, _, rfl, Nat.le_refl _, rfl, by omega, rfl, own5, o5⟩, ?_⟩
  rintro j _ w13 y ⟨_, cur, rfl, hj, rfl, hcl, hs, own13, o13⟩ w16 e16
  have g16 : Grow w13 w16 := only_drew e16
  have own16 := own13.grow g16
  have o16 : Only (inBlock o) w w16 := o13.trans' g16.only
  have next : ∀ {w' : World} {cur' : List Inc}, sink i (isortN i l) = cur' → Own w' B 34 10 o n c (cur'.flatMap encInc) → Only (inBlock o) w w' → ∃ n99, n99 < n - i ∧ ∃ i' : Nat, IntKind.wrap .i64 ((i : Int) + 1) = (i' : Int) ∧ 1 ≤ i' ∧ (i' ≤ n ∨ i' = 1) ∧ n99 = n - i' ∧ Own w' B 34 10 o n c ((isortN i' l).flatMap encInc) ∧ Only (inBlock o) w w' := fun {w' cur'} e own' o' =>
    ⟨_, by omega, i + 1, by rw [wr (by omega)]; omega, by omega, .inl hlt, rfl, by rw [isortN, e]; exact own', o'⟩
  refine ⟨fun hgt => ?_, fun hng => ?_⟩
  rotate_left
  · have : j = 0 := by have := dF hng; omega
    subst this
    exact next hs own16 o16
  obtain ⟨j, rfl⟩ : ∃ j', j = j' + 1 := ⟨j - 1, by have := dT hgt; omega⟩
  have hjn : j + 1 < cur.length := by omega
  have e1 : IntKind.wrap .i64 (((j + 1 : Nat) : Int) - 1) = (j : Int) := by rw [wr (by omega)]; omega
  rw [e1]
  have hx := List.getElem?_eq_getElem (show j < cur.length by omega)
  have hy := List.getElem?_eq_getElem hjn
  generalize cur[j] = x at hx
  generalize cur[j + 1] = y at hy
  obtain ⟨a, ha, -, hc, hc0⟩ := Recs.atE (own_recs' encInc_len (by decide) own16) hx
  obtain ⟨a', ha', -, hd, hd0⟩ := Recs.atE (own_recs' encInc_len (by decide) own16) hy
  rw [ha] at ha'
  cases ha'
  refine ⟨a, ha, ⟨by omega, by omega⟩, _, hd0 _ rfl, _, hd 1 _ rfl, _, hd 2 _ rfl, _, _, _, hd 3 _ rfl, _, hd 4 _ rfl, _, hd 5 _ rfl, _, _, _, hd 6 _ rfl, _, _, _, hd 7 _ rfl, _, hd 8 _ rfl, _, hd 9 _ rfl, a, ha, ⟨by omega, by omega⟩, _, hc0 _ rfl, _, hc 1 _ rfl, _, hc 2 _ rfl, _, _, _, hc 3 _ rfl, _, hc 4 _ rfl, _, hc 5 _ rfl, _, _, _, hc 6 _ rfl, _, _, _, hc 7 _ rfl, _, hc 8 _ rfl, _, hc 9 _ rfl, .inl ⟨44, #[], #[], rfl, callee44, ?_⟩⟩
  show Calls Try.prog 44 #[aggInc y, aggInc x] w16 _
  refine (cmp_c y x w16).mono ?_
  rintro _ w54 ⟨rfl, g54⟩
  have own54 := own16.grow g54
  have o54 : Only (inBlock o) w w54 := o16.trans' g54.only
  have hs' : sink i (isortN i l) = if cmpInc y x < 0 then sink j ((cur.set (j + 1) x).set j y) else cur := by
    rw [hs]
    show (match cur[j]?, cur[j + 1]? with | some x, some y => if cmpInc y x < 0 then sink j ((cur.set (j + 1) x).set j y) else cur | _, _ => cur) = _
    rw [hx, hy]
  refine ⟨_, rfl, fun hneg => ?_, fun hnn => ?_⟩
  rotate_left
  · rw [if_neg (dF hnn)] at hs'
    exact next hs' own54 o54
  rw [if_pos (dT hneg)] at hs'
  intro w57 e57
  have g57 : Grow w54 w57 := only_drew e57
  have own57 := own54.grow g57
  have o57 : Only (inBlock o) w w57 := o54.trans' g57.only
  obtain ⟨g, lg, rfl, -⟩ := own57.head (show 0 < n by omega)
  cases ha
  obtain ⟨a, ha, -, hc, hc0⟩ := Recs.atE (own_recs' encInc_len (by decide) own57) hx
  obtain ⟨a', ha', -, hd, hd0⟩ := Recs.atE (own_recs' encInc_len (by decide) own57) hy
  cases ha
  cases ha'
  refine ⟨_, rfl, ⟨by omega, by omega⟩, _, hc0 _ rfl, _, hc 1 _ rfl, _, hc 2 _ rfl, _, _, _, hc 3 _ rfl, _, hc 4 _ rfl, _, hc 5 _ rfl, _, _, _, hc 6 _ rfl, _, _, _, hc 7 _ rfl, _, hc 8 _ rfl, _, hc 9 _ rfl, _, rfl, ⟨by omega, by omega⟩, _, hd0 _ rfl, _, hd 1 _ rfl, _, hd 2 _ rfl, _, _, _, hd 3 _ rfl, _, hd 4 _ rfl, _, hd 5 _ rfl, _, _, _, hd 6 _ rfl, _, _, _, hd 7 _ rfl, _, hd 8 _ rfl, _, hd 9 _ rfl, _, rfl, ⟨by omega, by omega⟩, rec_there encInc_len own57 hjn, fun w94 e94 => ?_⟩
  obtain ⟨own94, p94⟩ := own_rec encInc_len (x := x) own57 hjn e94
  refine ⟨_, rfl, ⟨by omega, by omega⟩, rec_there encInc_len own94 (by rw [List.length_set]; omega), fun w97 e97 => ?_⟩
  obtain ⟨own97, p97⟩ := own_rec encInc_len (x := y) own94 (by rw [List.length_set]; omega) e97
  have inb : ∀ b, b = g → inBlock (some (⟨g, 0, none⟩ : Addr)) b := fun b e => ⟨_, rfl, e.symm⟩
  exact ⟨_, by omega, j, _, rfl, by omega, rfl, by simp [hcl], hs', own97, (o57.trans' (p94.mono fun b _ e => inb b e)).trans' (p97.mono fun b _ e => inb b e)⟩
set_option maxHeartbeats 1000000 in
theorem sort_c {w : World} {B n c : Nat} {o : Option Addr} {l : List Inc} (hn : n = l.length) (hl : n < 20) (h : Own w B 34 10 o n c (l.flatMap encInc)) :
    Calls Try.prog 43 #[.slice o n c, .func (.func 44) #[] #[]] w fun e w' => e = .returned (.tuple #[]) ∧ Own w' B 34 10 o n c ((sortI l).flatMap encInc) ∧ Only (inBlock o) w w' := by
  refine nf43 o n c (.func 44) #[] #[] w _ (nf58 o n c (n : Int) (.func 44) #[] #[] w _ ⟨fun k x y w' => x = 0 ∧ y = 20 ∧ w' = w, ⟨0, rfl, rfl, rfl⟩, ?_⟩)
  rintro k _ _ x y ⟨rfl, rfl, rfl⟩
  refine ⟨fun h => absurd (dT h) (by omega), fun _ => (isort_c hn (by omega) h).mono ?_⟩
  rintro _ w15 ⟨rfl, h15, o15⟩
  refine ⟨rfl, fun k x w' => x = 20 ∧ w' = w15, ⟨0, rfl, rfl⟩, ?_⟩
  rintro k _ _ x ⟨rfl, rfl⟩
  exact ⟨fun h => absurd (dT h) (by omega), fun _ => ⟨rfl, rfl, h15, o15⟩⟩
end Go.Proofs.Ytcaokpglbolkcaa
