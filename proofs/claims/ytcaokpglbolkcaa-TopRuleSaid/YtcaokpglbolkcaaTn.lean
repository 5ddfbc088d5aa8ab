/- The open incidents, the free units, the slots. -/
import Derived.Test.YtcaokpglbolkcaaTl
import Derived.Test.YtcaokpglbolkcaaNf3
namespace Go.Proofs.Ytcaokpglbolkcaa
open Go Go.Nf Go.RowKit

theorem elem23 : Elem Try.prog 23 34 10 136 := elem_of (by kernel_rfl)
theorem one_encInc (l : List Inc) : ∀ u ∈ l.flatMap encInc, u.oneCell' = true := fun u hu => by
  obtain ⟨x, -, hx⟩ := List.mem_flatMap.1 hu
  simp only [encInc, List.mem_cons, List.not_mem_nil, or_false] at hx
  rcases hx with rfl | rfl | rfl | rfl | rfl | rfl | rfl | rfl | rfl | rfl <;> rfl
theorem rec_one {α : Type} {f : α → List Value} {k : Nat} (hk : ∀ m, (f m).length = k) (h0 : 0 < k) {w : World} {b T : Nat} {x : α} (r : Row w b T (f x)) : Recs w (inBlock (some (⟨b, 0, none⟩ : Addr))) (some ⟨b, 0, none⟩) k ([x].map f) := by
  have h : Own w 0 T k (some ⟨b, 0, none⟩) 1 1 ([x].flatMap f) := by
    rw [List.flatMap_singleton]
    exact r.own (Nat.zero_le _) (by rw [hk, Nat.one_mul]) (by simp [maxLen])
  exact own_recs' hk h0 h
def openB (x : Inc) : Bool := !x.closed && decide (x.merged = 0)
theorem filter_take {α : Type} (p : α → Bool) {l : List α} {i : Nat} (h : i < l.length) : (l.take (i + 1)).filter p = (l.take i).filter p ++ if p l[i] then [l[i]] else [] := by
  rw [List.take_succ_eq_append_getElem h, List.filter_append]
  congr 1
  by_cases hp : p l[i] = true
  · rw [if_pos hp, List.filter_cons_of_pos hp]; rfl
  · rw [if_neg hp, List.filter_cons_of_neg hp]; rfl
set_option maxHeartbeats 2000000 in
theorem open_c (o : Option Addr) (c : Nat) (l : List Inc) (hl : l.length < 20) (w : World) {A : Nat → Prop} (h : Recs w A o 10 (l.map encInc)) :
    Calls Try.prog 24 #[.slice o l.length c] w fun e w' => ∃ o' c', e = .returned (.slice o' (sortI (l.filter openB)).length c') ∧ Own w' (hs w) 34 10 o' (sortI (l.filter openB)).length c' ((sortI (l.filter openB)).flatMap encInc) ∧ Grow w w' := by
  refine nf24 o l.length c w _ ⟨fun m o6 n7 n8 x w' => ∃ i : Nat, x = (i : Int) ∧ i ≤ l.length ∧ m = l.length - i ∧ n7 = ((l.take i).filter openB).length ∧ Own w' (hs w) 34 10 o6 n7 n8 (((l.take i).filter openB).flatMap encInc) ∧ Grow w w', ⟨_, 0, rfl, Nat.zero_le _, rfl, rfl, own_nil _ _ _ _, Only.refl _ _⟩, ?_⟩
  rintro m _ w5 o6 n7 n8 x ⟨i, rfl, hi, rfl, rfl, own5, g5⟩
  have lenb : ((l.take i).filter openB).length ≤ i := Nat.le_trans (List.length_filter_le _ _) (by rw [List.length_take]; omega)
  have z5 := g5.size
  refine ⟨fun hlt k12 hk => ?_, fun hge => ?_⟩
  · have hlt : i < l.length := by have := dT hlt; omega
    have hat := List.getElem?_eq_getElem hlt
    have hft := filter_take openB hlt
    obtain ⟨a, ha, -, hc, hc0⟩ := Recs.atE (h.grow g5) hat
    generalize l[i] = x at *
    refine ⟨a, ha, ⟨by omega, by omega⟩, _, hc0 _ rfl, _, hc 1 _ rfl, _, hc 2 _ rfl, _, _, _, hc 3 _ rfl, _, hc 4 _ rfl, _, hc 5 _ rfl, _, _, _, hc 6 _ rfl, _, _, _, hc 7 _ rfl, _, hc 8 _ rfl, _, hc 9 _ rfl, fun w38 e38 => ⟨(Row.new e38).there (by simp), fun w40 e40 => ?_⟩⟩
    obtain ⟨r40, g40⟩ := loc (vs := encInc x) e38 e40 rfl
    have z40 := g40.size
    have skip : openB x = false → k12 o6 ((l.take i).filter openB).length n8 w40 := fun hb => hk _ _ _ _ fun _ => by
      rw [hb] at hft
      refine ⟨_, by omega, i + 1, by rw [wr (by omega)]; omega, hlt, rfl, by rw [hft]; simp, ?_, g5.trans' g40⟩
      rw [hft]
      simpa using own5.grow g40
    refine ⟨_, r40.cell rfl, fun hb => skip (by unfold openB; rw [hb]; rfl), fun hb => ⟨_, r40.cell rfl, fun h0 => ?_, fun h0 => skip (by unfold openB; rw [h0, Bool.and_false])⟩⟩
    have hb' : openB x = true := by unfold openB; rw [hb, h0]; rfl
    rw [hb'] at hft
    refine ⟨_, r40.cell rfl, _, r40.cell rfl, _, r40.cell rfl, _, _, _, r40.cell rfl, _, r40.cell rfl, _, r40.cell rfl, _, _, _, r40.cell rfl, _, _, _, r40.cell rfl, _, r40.cell rfl, _, r40.cell rfl, fun w63 e63 => ?_⟩
    have g63 : Grow w40 w63 := only_alloc e63
    have z63 := g63.size
    refine append_recs' (f := encInc) (ys := [x]) encInc_len rfl elem23 (by decide) ((own5.grow g40).grow g63) (rec_one encInc_len (by decide) (Row.new e63)) (one_encInc [x]) (by simp only [maxLen]; omega) (by omega) (by omega) fun o' c' w' p1 p2 => ⟨_, _, _, rfl, hk _ _ _ _ fun _ => ?_⟩
    refine ⟨_, by omega, i + 1, by rw [wr (by omega)]; omega, hlt, rfl, by rw [hft]; simp, ?_, ((g5.trans' g40).trans' g63).trans p2 fun b hb e => by have := (own5.base b e).1; omega⟩
    rw [hft]
    exact p1
  · have : i = l.length := by have := dF hge; omega
    subst this
    rw [List.take_length] at own5
    have lenf := List.length_filter_le openB l
    rw [List.take_length]
    refine (sort_c (l := l.filter openB) rfl (by omega) own5).mono ?_
    rintro _ w73 ⟨rfl, own73, o73⟩
    refine ⟨rfl, o6, n8, by rw [sortI_len], ?_, g5.trans o73 fun b hb e => by have := (own5.base b e).1; omega⟩
    rw [sortI_len]
    exact own73

/-! ### the units that may be sent -/
def freeB (u : Un) : Bool := decide (u.state = 1)
set_option maxHeartbeats 2000000 in
theorem free_c (o : Option Addr) (c : Nat) (l : List Un) (hl : l.length ≤ 1000) (urg : Int) (w : World) {A : Nat → Prop} (h : Uns w A o l) :
    Calls Try.prog 11 #[.slice o l.length c, .int .i64 urg, .int .i64 0] w fun e w' => ∃ o' c', e = .returned (.slice o' (l.filter freeB).length c') ∧ Own w' (hs w) 29 10 o' (l.filter freeB).length c' ((l.filter freeB).flatMap encUn) ∧ Grow w w' := by
  refine nf11 o l.length c urg 0 w _ fun k1 hk1 => ?_
  have main : k1 0 w := hk1 w 0 fun _ w7 e7 => ?_
  · exact ⟨fun _ => main, fun _ => ⟨fun _ => main, fun _ => main⟩⟩
  have g7 : Grow w w7 := only_alloc e7
  refine ⟨fun m o6 n7 n8 x w' => ∃ i : Nat, x = (i : Int) ∧ i ≤ l.length ∧ m = l.length - i ∧ n7 = ((l.take i).filter freeB).length ∧ Own w' (hs w) 29 10 o6 n7 n8 (((l.take i).filter freeB).flatMap encUn) ∧ CntAt w' (hs w) (fun _ => 0) ∧ Grow w w', ⟨_, 0, rfl, Nat.zero_le _, rfl, rfl, own_nil _ _ _ _, cnt_new e7, g7⟩, ?_⟩
  rintro m _ w5 o6 n7 n8 x ⟨i, rfl, hi, rfl, rfl, own5, hC, g5⟩
  have lenb : ((l.take i).filter freeB).length ≤ i := Nat.le_trans (List.length_filter_le _ _) (by rw [List.length_take]; omega)
  have z5 := g5.size
  refine ⟨fun hlt k12 hk => ?_, fun hge => ?_⟩
  · have hlt : i < l.length := by have := dT hlt; omega
    have hat := List.getElem?_eq_getElem hlt
    have hft := filter_take freeB hlt
    obtain ⟨a, ha, -, hc, hc0⟩ := Recs.atE (h.grow g5) hat
    generalize l[i] = x at *
    refine ⟨a, ha, ⟨by omega, by omega⟩, _, hc0 _ rfl, _, hc 1 _ rfl, _, hc 2 _ rfl, _, hc 3 _ rfl, _, hc 4 _ rfl, _, hc 5 _ rfl, _, hc 6 _ rfl, _, hc 7 _ rfl, _, hc 8 _ rfl, _, hc 9 _ rfl, fun w38 e38 => ⟨(Row.new e38).there (by simp), fun w40 e40 => ?_⟩⟩
    obtain ⟨r40, g40⟩ := loc (vs := encUn x) e38 e40 rfl
    have z40 := g40.size
    refine ⟨_, r40.cell rfl, fun h0 => hk _ _ _ _ fun _ => ?_, fun h0 => ⟨_, r40.cell rfl, cnt_get (hC.grow g40) ⟨_, rfl, fun h => absurd (dT h) (by decide), fun _ => ?_⟩⟩⟩
    · have hb : freeB x = false := decide_eq_false (nT h0)
      rw [hb] at hft
      refine ⟨_, by omega, i + 1, by rw [wr (by omega)]; omega, hlt, rfl, by rw [hft]; simp, ?_, hC.grow g40, g5.trans' g40⟩
      rw [hft]
      simpa using own5.grow g40
    have hb' : freeB x = true := decide_eq_true (nF h0)
    rw [hb'] at hft
    refine ⟨_, r40.cell rfl, _, r40.cell rfl, _, r40.cell rfl, _, r40.cell rfl, _, r40.cell rfl, _, r40.cell rfl, _, r40.cell rfl, _, r40.cell rfl, _, r40.cell rfl, _, r40.cell rfl, fun w63 e63 => ?_⟩
    have g63 : Grow w40 w63 := only_alloc e63
    have z63 := g63.size
    refine append_recs' (f := encUn) (ys := [x]) encUn_len rfl elem24 (by decide) ((own5.grow g40).grow g63) (rec_one encUn_len (by decide) (Row.new e63)) (one_encUn [x]) (by simp only [maxLen]; omega) (by omega) (by omega) fun o' c' w' p1 p2 => ⟨_, _, _, rfl, hk _ _ _ _ fun _ => ?_⟩
    refine ⟨_, by omega, i + 1, by rw [wr (by omega)]; omega, hlt, rfl, by rw [hft]; simp, ?_, ((hC.grow g40).grow g63).keep p2 fun e => fn_neOwn hC own5 _ e rfl, ((g5.trans' g40).trans' g63).trans p2 fun b hb e => by have := (own5.base b e).1; omega⟩
    rw [hft]
    exact p1
  · have : i = l.length := by have := dF hge; omega
    subst this
    rw [List.take_length] at own5 ⊢
    exact ⟨_, _, rfl, own5, g5⟩

/-! ### the kinds of the units that are assigned to each incident -/
theorem und77 : Try.prog.underlying 77 = some (.map 2 31) := of_map (by kernel_rfl)
theorem zeroV31 (w : World) : (zeroValue 31).run Try.prog w = .ok (.slice none 0 0) w := run_zeroV (by kernel_rfl) w
def kindsAt (us : List Un) (id : Int) : List Int := (us.filter fun u => decide (u.inc = id)).map (·.kind)
structure AsgAt (w : World) (B m : Nat) (vals : Int → List Int) : Prop where
  ex : ∃ sl : Int → Option Addr × Nat, FnAt (fun k : Int => Value.int .i64 k) (.slice none 0 0) w m (fun k => .slice (sl k).1 (vals k).length (sl k).2) ∧ (∀ k, Own w B 3 1 (sl k).1 (vals k).length (sl k).2 (intsV (vals k))) ∧
    ∀ k k', k ≠ k' → ∀ b, inBlock (sl k).1 b → ¬ inBlock (sl k').1 b
theorem AsgAt.keep {S : Nat → Prop} {w w' : World} {B m : Nat} {vals : Int → List Int} (h : AsgAt w B m vals) (o : Only S w w') (hm : ¬ S m) (hS : ∀ b l, Row w b 3 l → ¬ S b) : AsgAt w' B m vals := by
  obtain ⟨sl, h1, h2, h3⟩ := h.ex
  exact ⟨sl, h1.keep o hm, fun k => (h2 k).keep o fun b hb hs => by
    obtain ⟨l, hl⟩ := (h2 k).row hb
    exact hS b l hl hs, h3⟩
theorem AsgAt.grow {w w' : World} {B m : Nat} {vals : Int → List Int} (h : AsgAt w B m vals) (o : Grow w w') : AsgAt w' B m vals := h.keep o (fun h => h) fun _ _ _ h => h
theorem asg_new {w w1 : World} {k : Nat} (B : Nat) (e : w1 = w.alloc (.map #[] k)) : AsgAt w1 B (hs w) fun _ => [] :=
  ⟨fun _ => (none, 0), fn_new e, fun _ => own_nil _ _ _ _, fun _ _ _ b hb => by obtain ⟨a, ha, -⟩ := hb; cases ha⟩
theorem asg_push {w w1 : World} {B m b cx : Nat} {vals : Int → List Int} {sl : Int → Option Addr × Nat} {id kind : Int} {K : Value → World → Prop}
    (h1 : FnAt (fun k : Int => Value.int .i64 k) (.slice none 0 0) w m (fun k => .slice (sl k).1 (vals k).length (sl k).2)) (h2 : ∀ k, Own w B 3 1 (sl k).1 (vals k).length (sl k).2 (intsV (vals k))) (h3 : ∀ k k', k ≠ k' → ∀ b, inBlock (sl k).1 b → ¬ inBlock (sl k').1 b)
    (g : Grow w w1) (r : Row w1 b 3 [.int .i64 kind]) (hl : (vals id).length ≤ 1000000) (hB : B ≤ hs w1)
    (hK : ∀ o' c' w2, Only (inBlock (sl id).1) w1 w2 → (∀ K2 : Unit → World → Prop, (∀ w3, AsgAt w3 B m (fun k => if k = id then vals id ++ [kind] else vals k) → Only (fun b => b = m ∨ inBlock (sl id).1 b) w1 w3 → K2 () w3) → RunOk Try.prog (Hold (Instr.mapUpdate 77 (.map (some m)) (.int .i64 id) (.slice o' ((vals id).length + 1) c'))) w2 K2) → K (.slice o' ((vals id).length + 1) c') w2) :
    RunOk Try.prog (Hold (Builtin.append_ #[31, 31] 31 #[.slice (sl id).1 (vals id).length (sl id).2, .slice (some ⟨b, 0, none⟩) 1 cx])) w1 K := by
  have own1 := (h2 id).grow g
  have hlow : ∀ k b, inBlock (sl k).1 b → b < hs w1 := fun k b hb => (((h2 k).grow g).base b hb).2
  refine run_append_at elem31 own1 (news := [.int .i64 kind]) rfl (fun j u hu => r.cellAdd hu) (by simp [Value.oneCell']) (by simp only [maxLen]; omega) (by omega) hB fun o' c' w2 p1 p2 p3 => hK o' c' w2 p2 fun K2 hK2 => ?_
  have hm : ¬ inBlock (sl id).1 m := fun k => fn_neOwn h1 (h2 id) _ k rfl
  refine fn_put (kv := fun k : Int => Value.int .i64 k) und77 (keys_int und2) ((h1.grow g).keep p2 hm) fun w3 h3' o3 => hK2 w3 ⟨fun k => if k = id then (o', c') else sl k, h3'.eq fun k => ?_, fun k => ?_, fun k k' hne b hb => ?_⟩ ((p2.mono fun b _ h => .inr h).trans (o3.mono fun b _ h => .inl h) fun b _ h => h)
  · dsimp only
    by_cases e : k = id
    · rw [if_pos e, if_pos e, if_pos e]; simp
    · rw [if_neg e, if_neg e, if_neg e]
  · have own' : Own w2 B 3 1 o' ((vals id).length + 1) c' (intsV (vals id ++ [kind])) := by simpa [intsV] using p1
    dsimp only
    by_cases e : k = id
    · rw [if_pos e, if_pos e]
      rw [show (vals id ++ [kind]).length = (vals id).length + 1 from by simp]
      exact own'.keep o3 fun b hb eb => fn_neOwn ((h1.grow g).keep p2 hm) own' _ hb eb
    · rw [if_neg e, if_neg e]
      have ownk := ((h2 k).grow g).keep p2 fun b hb hb' => h3 k id e b hb hb'
      exact ownk.keep o3 fun b hb eb => fn_neOwn ((h1.grow g).keep p2 hm) ownk _ hb eb
  · have fresh : ∀ k'' b, k'' ≠ id → inBlock o' b → ¬ inBlock (sl k'').1 b := fun k'' b hk hb hb' => by
      rcases p3 b hb with q | q
      · exact h3 id k'' (fun e => hk e.symm) b q hb'
      · have := hlow k'' b hb'; omega
    dsimp only at hb ⊢
    by_cases e : k = id
    · rw [if_pos e] at hb
      rw [if_neg (fun e' => hne (e.trans e'.symm))]
      exact fresh k' b (fun e' => hne (e.trans e'.symm)) hb
    · rw [if_neg e] at hb
      by_cases e' : k' = id
      · rw [if_pos e']
        exact fun hb' => fresh k b e hb' hb
      · rw [if_neg e']
        exact h3 k k' hne b hb
theorem kindsAt_take {us : List Un} {i : Nat} (h : i < us.length) (k : Int) : kindsAt (us.take (i + 1)) k = if k = us[i].inc then kindsAt (us.take i) us[i].inc ++ [us[i].kind] else kindsAt (us.take i) k := by
  unfold kindsAt
  rw [filter_take _ h, List.map_append]
  by_cases e : us[i].inc = k
  · rw [if_pos e.symm, if_pos (decide_eq_true e), e]; rfl
  · rw [if_neg (show ¬ k = us[i].inc from fun q => e q.symm), if_neg (by simpa using e)]; simp
theorem kindsAt_le (us : List Un) (k : Int) : (kindsAt us k).length ≤ us.length := by
  unfold kindsAt
  rw [List.length_map]
  exact List.length_filter_le _ _

/-! ### the slots -/
structure Slt where
  inc : Int
  urg : Int
  since : Int
  kind : Int
  oN : Option Addr
  nodes : List Int
  cN : Nat
def encS (x : Slt) : List Value := [.int .i64 x.inc, .int .i64 x.urg, .int .i64 x.since, .int .i64 x.kind, .slice x.oN x.nodes.length x.cN]
theorem encS_len (x : Slt) : (encS x).length = 5 := rfl
theorem elem43 : Elem Try.prog 43 46 5 56 := elem_of (by kernel_rfl)
theorem one_encS (l : List Slt) : ∀ u ∈ l.flatMap encS, u.oneCell' = true := fun u hu => by
  obtain ⟨x, -, hx⟩ := List.mem_flatMap.1 hu
  simp only [encS, List.mem_cons, List.not_mem_nil, or_false] at hx
  rcases hx with rfl | rfl | rfl | rfl | rfl <;> rfl
/-- a slot, without where its nodes lie -/
structure PSl where
  inc : Int
  urg : Int
  since : Int
  kind : Int
  nodes : List Int
def Slt.pure (s : Slt) : PSl := ⟨s.inc, s.urg, s.since, s.kind, s.nodes⟩
def slotsOne (us : List Un) (x : Inc) : List PSl := (unmetL [1] (cntK (kindsAt us x.id))).map fun k => ⟨x.id, x.urg, x.since, k, x.nodes⟩
def slotsP (l : List Inc) (us : List Un) : List PSl := (sortI (l.filter openB)).flatMap (slotsOne us)
structure SlAt (B : Nat) (w : World) (o : Option Addr) (n c : Nat) (sl : List Slt) : Prop where
  own : Own w B 46 5 o n c (sl.flatMap encS)
  nod : ∀ s ∈ sl, Own w B 3 1 s.oN s.nodes.length s.cN (intsV s.nodes)
theorem SlAt.grow {B : Nat} {w w' : World} {o : Option Addr} {n c : Nat} {sl : List Slt} (h : SlAt B w o n c sl) (g : Grow w w') : SlAt B w' o n c sl := ⟨h.own.grow g, fun s hs => (h.nod s hs).grow g⟩
theorem SlAt.len {B : Nat} {w : World} {o : Option Addr} {n c : Nat} {sl : List Slt} (h : SlAt B w o n c sl) : n = sl.length := by
  have := h.own.length
  rw [flat_length encS_len] at this
  omega
theorem slot_push {B : Nat} {w w1 : World} {o : Option Addr} {n c cx : Nat} {sl : List Slt} {s : Slt} {K : Value → World → Prop} (h : SlAt B w o n c sl) (g : Grow w w1) (hs1 : Own w B 3 1 s.oN s.nodes.length s.cN (intsV s.nodes)) {b : Nat} (r : Row w1 b 46 (encS s)) (hn : n ≤ 10000) (hB : B ≤ hs w1)
    (hK : ∀ o' c' w', SlAt B w' o' (n + 1) c' (sl ++ [s]) → Only (inBlock o) w1 w' → K (.slice o' (n + 1) c') w') : RunOk Try.prog (Hold (Builtin.append_ #[43, 43] 43 #[.slice o n c, .slice (some ⟨b, 0, none⟩) 1 cx])) w1 K := by
  refine append_recs' (f := encS) (ys := [s]) encS_len rfl elem43 (by decide) (h.own.grow g) (rec_one encS_len (by decide) r) (one_encS [s]) (by simp only [maxLen]; omega) (by omega) hB fun o' c' w' p1 p2 => hK o' c' w' ⟨p1, fun t ht => ?_⟩ p2
  have key : ∀ t : Slt, Own w B 3 1 t.oN t.nodes.length t.cN (intsV t.nodes) → Own w' B 3 1 t.oN t.nodes.length t.cN (intsV t.nodes) := fun t k => (k.grow g).keep p2 fun b hb hb' => (k.apart h.own (by decide)) b hb hb'
  rcases List.mem_append.1 ht with q | q
  · exact key t (h.nod t q)
  · rw [List.mem_singleton] at q
    rw [q]
    exact key s hs1
theorem unmet_one (l : List Int) : (unmetL [1] (cntK l)).length ≤ 1 ∧ ∀ k ∈ unmetL [1] (cntK l), k = 1 := by
  have h : unmetL [1] (cntK l) = [] ∨ unmetL [1] (cntK l) = [1] := by
    unfold unmetL
    simp only [pass1]
    split
    · exact .inl rfl
    · simp only [pass2]
      split
      · exact .inl rfl
      · exact .inr rfl
  rcases h with h | h <;> rw [h] <;> simp
set_option maxHeartbeats 4000000 in
theorem slots_c (o o' : Option Addr) (c c' : Nat) (l : List Inc) (us : List Un) (hl : l.length < 20) (hu : us.length ≤ 1000) (hN : ∀ x ∈ l, x.nodes.length ≤ 1000) (w : World) {A A' : Nat → Prop} (h : Incs w A o l) (h' : Uns w A' o' us) :
    Calls Try.prog 10 #[.slice o l.length c, .slice o' us.length c', .slice none 0 0] w fun e w' => ∃ o2 c2 sl, e = .returned (.slice o2 sl.length c2) ∧ SlAt (hs w) w' o2 sl.length c2 sl ∧ sl.map Slt.pure = slotsP l us ∧ Grow w w' := by
  refine nf10 o l.length c o' us.length c' none 0 0 w _ fun w1 e1 => ?_
  have g1 : Grow w w1 := only_alloc e1
  have z1 := hs_alloc e1
  refine ⟨fun m x w' => ∃ i : Nat, x = (i : Int) ∧ i ≤ us.length ∧ m = us.length - i ∧ AsgAt w' (hs w) (hs w) (kindsAt (us.take i)) ∧ Grow w w', ⟨_, 0, rfl, Nat.zero_le _, rfl, asg_new _ e1, g1⟩, ?_⟩
  rintro m _ w7 x ⟨i, rfl, hi, rfl, hA, g7⟩
  have z7 := g7.size
  refine ⟨fun hlt => ?_, fun hge => ?_⟩
  · have hlt : i < us.length := by have := dT hlt; omega
    have hat := List.getElem?_eq_getElem hlt
    have hkt := kindsAt_take hlt
    have hkl : ∀ k, (kindsAt (us.take i) k).length ≤ 1000 := fun k => by
      have := kindsAt_le (us.take i) k
      rw [List.length_take] at this
      omega
    obtain ⟨a, ha, -, hc, hc0⟩ := Recs.atE (h'.grow g7) hat
    generalize us[i] = u at *
    refine ⟨a, ha, ⟨by omega, by omega⟩, _, hc0 _ rfl, _, hc 1 _ rfl, _, hc 2 _ rfl, _, hc 3 _ rfl, _, hc 4 _ rfl, _, hc 5 _ rfl, _, hc 6 _ rfl, _, hc 7 _ rfl, _, hc 8 _ rfl, _, hc 9 _ rfl, fun w22 e22 => ⟨(Row.new e22).there (by simp), fun w24 e24 w26 e26 => ?_⟩⟩
    obtain ⟨r24, g24⟩ := loc (vs := encUn u) e22 e24 rfl
    have g26 : Grow w24 w26 := only_drew e26
    have r26 := r24.grow g26
    have G26 := g24.trans' g26
    have z26 := G26.size
    obtain ⟨sl, h1, h2, h3⟩ := (hA.grow G26).ex
    have l26 := r26.lt
    have next : ∀ w44, AsgAt w44 (hs w) (hs w) (fun k => if k = u.inc then kindsAt (us.take i) u.inc ++ [u.kind] else kindsAt (us.take i) k) → Grow w w44 → ∃ n45, n45 < us.length - i ∧ ∃ i' : Nat, IntKind.wrap .i64 ((i : Int) + 1) = (i' : Int) ∧ i' ≤ us.length ∧ n45 = us.length - i' ∧ AsgAt w44 (hs w) (hs w) (kindsAt (us.take i')) ∧ Grow w w44 := fun w44 hA' g' =>
      ⟨_, by omega, i + 1, by rw [wr (by omega)]; omega, hlt, rfl, (show kindsAt (us.take (i + 1)) = _ from funext hkt) ▸ hA', g'⟩
    have gfin : ∀ {w2 w3 : World}, Grow w26 w2 → Only (fun b => b = hs w ∨ inBlock (sl u.inc).1 b) w2 w3 → Grow w w3 := fun {w2 w3} g o => ((g7.trans' G26).trans' g).trans o fun b hb e => by
      rcases e with e | e
      · omega
      · have := ((h2 u.inc).base b e).1; omega
    refine ⟨_, r26.cell rfl, _, r26.cell rfl, _, r26.cell rfl, ?_, ?_⟩
    · refine fn_get (kv := fun k : Int => Value.int .i64 k) und77 (keys_int und2) (zeroV31 _) h1 ⟨_, _, _, rfl, fun _ _ => rfl, fun _ _ => rfl, fun w36 e36 => ?_⟩
      have g36 : Grow w26 w36 := only_alloc e36
      refine ⟨kept_addr g36 l26 (fun h => h), asg_push (kind := u.kind) h1 h2 h3 g36 (Row.new e36) (Nat.le_trans (hkl _) (by decide)) (by have := g36.size; omega) fun o40 c42 w39 p2 hput => ⟨_, _, _, rfl, ?_, ?_⟩⟩
      · exact kept_addr (g36.only.trans' p2) l26 fun hb => (h2 u.inc).apartR r26 (by decide) hb
      · exact hput _ fun w44 hA' o44 => next w44 hA' (gfin g36 o44)
    · intro w46 e46
      have g46 : Grow w26 w46 := only_alloc e46
      have k46 : Kept w26 w46 ⟨hs w7, 7, none⟩ 1 := kept_addr g46 l26 (fun h => h)
      refine ⟨k46, k46, fn_get (kv := fun k : Int => Value.int .i64 k) und77 (keys_int und2) (zeroV31 _) (h1.grow g46) ⟨_, _, _, rfl, k46, asg_push (kind := u.kind) h1 h2 h3 g46 (Row.new e46) (Nat.le_trans (hkl _) (by decide)) (by have := g46.size; omega) fun o40 c42 w39 p2 hput => ⟨_, _, _, rfl, ?_, ?_⟩⟩⟩
      · exact kept_addr (g46.only.trans' p2) l26 fun hb => (h2 u.inc).apartR r26 (by decide) hb
      · exact hput _ fun w44 hA' o44 => next w44 hA' (gfin g46 o44)
  have hil : i = us.length := by have := dF hge; omega
  subst hil
  rw [List.take_length] at hA
  refine (open_c o c l hl w7 ((h.grow g7).1)).mono ?_
  rintro _ w63 ⟨o64, c66, rfl, ownO, g63⟩
  have z63 := g63.size
  have G63 := g7.trans' g63
  have hA63 := hA.grow g63
  obtain ⟨ops, hops⟩ : ∃ ops, ops = sortI (l.filter openB) := ⟨_, rfl⟩
  have hmem : ∀ x ∈ ops, x ∈ l := fun x hx => (List.mem_filter.1 (sortI_mem (hops ▸ hx))).1
  have hol : ops.length ≤ l.length := by rw [hops, sortI_len]; exact List.length_filter_le _ _
  have hsP : slotsP l us = ops.flatMap (slotsOne us) := by rw [hops]; rfl
  rw [← hops] at ownO ⊢
  rw [hsP]
  clear hops hsP
  have ownO' := ownO.mono (B' := hs w) (by omega)
  have lenOne : ∀ x, (slotsOne us x).length ≤ 1 := fun x => by unfold slotsOne; rw [List.length_map]; exact (unmet_one _).1
  have lenF : ∀ l : List Inc, (l.flatMap (slotsOne us)).length ≤ l.length := fun l => by
    induction l with
    | nil => simp
    | cons x l ih =>
      have := lenOne x
      rw [List.flatMap_cons, List.length_append, List.length_cons]
      omega
  refine ⟨_, _, _, rfl, fun m o72 n73 c74 x w' => ∃ (i : Nat) (sl : List Slt), x = (i : Int) ∧ i ≤ ops.length ∧ m = ops.length - i ∧ SlAt (hs w) w' o72 n73 c74 sl ∧ sl.map Slt.pure = (ops.take i).flatMap (slotsOne us) ∧ Own w' (hs w) 34 10 o64 ops.length c66 (ops.flatMap encInc) ∧ AsgAt w' (hs w) (hs w) (kindsAt us) ∧ Grow w w',
    ⟨_, 0, [], rfl, Nat.zero_le _, rfl, ⟨own_nil _ _ _ _, fun s hs => by cases hs⟩, rfl, ownO', hA63, G63⟩, ?_⟩
  rintro m _ w71 o72 n73 c74 _ ⟨i, sl, rfl, hi, rfl, hS, hsl, hO, hA71, g71⟩
  have z71 := g71.size
  refine ⟨fun hlt => ?_, fun hge => ?_⟩
  rotate_left
  · have : i = ops.length := by have := dF hge; omega
    subst this
    rw [List.take_length] at hsl
    obtain rfl := hS.len
    exact ⟨_, _, sl, rfl, hS, hsl, g71⟩
  have hlt : i < ops.length := by have := dT hlt; omega
  have hat := List.getElem?_eq_getElem hlt
  have htk : (ops.take (i + 1)).flatMap (slotsOne us) = (ops.take i).flatMap (slotsOne us) ++ slotsOne us ops[i] := by rw [List.take_succ_eq_append_getElem hlt, List.flatMap_append, List.flatMap_singleton]
  have hlen0 : ((ops.take i).flatMap (slotsOne us)).length ≤ i := Nat.le_trans (lenF _) (by rw [List.length_take]; omega)
  obtain ⟨a, ha, -, hc, hc0⟩ := Recs.atE (own_recs' encInc_len (by decide) hO) hat
  have hxl := hmem _ (List.getElem_mem hlt)
  generalize ops[i] = y at *
  refine ⟨a, ha, ⟨by omega, by omega⟩, _, hc0 _ rfl, _, hc 1 _ rfl, _, hc 2 _ rfl, _, _, _, hc 3 _ rfl, _, hc 4 _ rfl, _, hc 5 _ rfl, _, _, _, hc 6 _ rfl, _, _, _, hc 7 _ rfl, _, hc 8 _ rfl, _, hc 9 _ rfl, fun w95 e95 => ⟨(Row.new e95).there (by simp), fun w97 e97 => ?_⟩⟩
  obtain ⟨r97, g97⟩ := loc (vs := encInc y) e95 e97 rfl
  refine ⟨_, r97.cell rfl, _, r97.cell rfl, (required_c y.code y.urg w97).mono ?_⟩
  rintro _ w102 ⟨bq, rfl, rq, g102⟩
  have r102 := r97.grow g102
  have hA102 := (hA71.grow g97).grow g102
  obtain ⟨sm, h1, h2, h3⟩ := hA102.ex
  refine ⟨_, _, _, rfl, _, r102.cell rfl, fn_get (kv := fun k : Int => Value.int .i64 k) und77 (keys_int und2) (zeroV31 _) h1 ⟨_, _, _, rfl, ?_⟩⟩
  refine (unmet_c (some ⟨bq, 0, none⟩) (sm y.id).1 1 (sm y.id).2 [1] (kindsAt us y.id) (by simp) (Nat.le_trans (kindsAt_le _ _) hu) w102 (A := fun _ => True) (rq.nums trivial) (h2 y.id).nums).mono ?_
  rintro _ w113 ⟨o114, c116, rfl, ownU, g113⟩
  have hum := unmet_one (kindsAt us y.id)
  have hone : slotsOne us y = (unmetL [1] (cntK (kindsAt us y.id))).map fun k => ⟨y.id, y.urg, y.since, k, y.nodes⟩ := rfl
  generalize unmetL [1] (cntK (kindsAt us y.id)) = um at *
  have G113 : Grow w71 w113 := (g97.trans' g102).trans' g113
  have z113 := G113.size
  have z102 := (g97.trans' g102).size
  have ownU' := ownU.mono (B' := hs w) (by omega)
  refine ⟨_, _, _, rfl, fun m o122 n123 c124 x w' => ∃ (j : Nat) (sl : List Slt), x = (j : Int) ∧ j ≤ um.length ∧ m = um.length - j ∧ SlAt (hs w) w' o122 n123 c124 sl ∧ sl.map Slt.pure = (ops.take i).flatMap (slotsOne us) ++ (um.take j).map (fun k => ⟨y.id, y.urg, y.since, k, y.nodes⟩) ∧ Own w' (hs w) 34 10 o64 ops.length c66 (ops.flatMap encInc) ∧ AsgAt w' (hs w) (hs w) (kindsAt us) ∧ Row w' (hs w71) 34 (encInc y) ∧ Own w' (hs w) 3 1 o114 um.length c116 (intsV um) ∧ Grow w w',
    ⟨_, 0, sl, rfl, Nat.zero_le _, rfl, hS.grow G113, by simpa using hsl, hO.grow G113, hA71.grow G113, r102.grow g113, ownU', g71.trans' G113⟩, ?_⟩
  rintro m _ w121 o122 n123 c124 _ ⟨j, sl', rfl, hj, rfl, hS', hsl', hO', hA', rX, hU, g121⟩
  have z121 := g121.size
  have nlen := hS'.len
  have hlen1 : sl'.length ≤ i + 1 := by
    have := congrArg List.length hsl'
    rw [List.length_map, List.length_append, List.length_map, List.length_take] at this
    omega
  refine ⟨fun hlt2 => ?_, fun hge2 => ?_⟩
  rotate_left
  · have : j = um.length := by have := dF hge2; omega
    subst this
    rw [List.take_length, ← hone, ← htk] at hsl'
    exact ⟨_, by omega, i + 1, sl', by rw [wr (by omega)]; omega, hlt, rfl, hS', hsl', hO', hA', g121⟩
  have hlt2 : j < um.length := by have := dT hlt2; omega
  obtain ⟨a2, ha2, hc2⟩ := hU.nums.get hlt2
  have htk2 := List.take_succ_eq_append_getElem hlt2
  generalize um[j] = k at *
  refine ⟨a2, ha2, ⟨by omega, by omega⟩, _, hc2, fun w130 e130 => ?_⟩
  have g130 : Grow w121 w130 := only_drew e130
  have r130 := rX.grow g130
  have l130 := r130.lt
  refine ⟨_, r130.cell rfl, _, r130.cell rfl, _, r130.cell rfl, _, _, _, r130.cell rfl, (cloneI_c y.oN y.cN y.nodes (Nat.le_trans (hN y hxl) (by decide)) w130 (((h.grow g121).grow g130).2 y hxl)).mono ?_⟩
  rintro _ w139 ⟨o140, c142, rfl, ownN, g139⟩
  have G139 := g130.trans' g139
  have z139 := G139.size
  refine ⟨_, _, _, rfl, kept_addr g139 l130 (fun h => h), kept_addr g139 l130 (fun h => h), kept_addr g139 l130 (fun h => h), fun w143 e143 => ?_⟩
  have g143 : Grow w139 w143 := only_alloc e143
  have z143 := g143.size
  refine slot_push (s := ⟨y.id, y.urg, y.since, k, o140, y.nodes, c142⟩) (hS'.grow G139) g143 (ownN.mono (by have := g130.size; omega)) (Row.new e143) (by omega) (by omega) fun o147 c149 w146 hS2 p2 => ⟨_, _, _, rfl, ?_⟩
  have G143 := G139.trans' g143
  refine ⟨_, by omega, j + 1, _, by rw [wr (by omega)]; omega, hlt2, rfl, hS2, ?_, (hO'.grow G143).keep p2 fun b hb hb' => hO'.apart hS'.own (by decide) b hb hb', (hA'.grow G143).keep p2 ?_ ?_, (rX.grow G143).keep p2 fun hb => hS'.own.apartR rX (by decide) hb, (hU.grow G143).keep p2 fun b hb hb' => hU.apart hS'.own (by decide) b hb hb', (g121.trans' G143).trans p2 fun b hb e => by have := (hS'.own.base b e).1; omega⟩
  · rw [htk2, List.map_append, List.map_append, hsl', List.append_assoc]
    rfl
  · intro hb
    obtain ⟨sq, q1, -⟩ := hA'.ex
    exact fn_neOwn q1 hS'.own _ hb rfl
  · intro b lb hr hb
    exact (hS'.own.grow G143).apartR hr (by decide) hb
end Go.Proofs.Ytcaokpglbolkcaa
