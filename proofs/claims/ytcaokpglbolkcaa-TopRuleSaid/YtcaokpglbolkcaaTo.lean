/- CostMatrix: what each unit costs for each slot. -/
import Derived.Test.YtcaokpglbolkcaaTn
namespace Go.Proofs.Ytcaokpglbolkcaa
open Go Go.Nf Go.RowKit

theorem und83 : Try.prog.underlying 83 = some (.map 3 32) := of_map (by kernel_rfl)
theorem und84 : Try.prog.underlying 84 = some (.map 3 2) := of_map (by kernel_rfl)
theorem zeroV2 (w : World) : (zeroValue 2).run Try.prog w = .ok (.int .i64 0) w := run_zeroV (by kernel_rfl) w
theorem zeroV32 (w : World) : (zeroValue 32).run Try.prog w = .ok (.slice none 0 0) w := run_zeroV (by kernel_rfl) w
theorem zero32 : zeroL Try.prog 32 = some [.slice none 0 0] := by kernel_rfl
theorem flat_one (n : Nat) (v : Value) : (List.replicate n [v]).flatten = List.replicate n v := by
  induction n with
  | zero => rfl
  | succ n ih => rw [List.replicate_succ, List.replicate_succ, List.flatten_cons, ih]; rfl
theorem make_g {w : World} {n : Nat} {K : Value → World → Prop} (hn : n ≤ 1000000) (h : ∀ w', Grid w' (fun b => b = hs w) 32 2 (hs w) (List.replicate n []) → Grow w w' → hs w' = hs w + 1 → K (.slice (some ⟨hs w, 0, none⟩) n n) w') : RunOk Try.prog (Hold (Instr.makeSlice 48 (.int .i64 (n : Int)) (.int .i64 (n : Int)))) w K := by
  refine run_make_row elem48 zero32 (by omega) (by omega) (by omega) (by omega) fun w1 e1 => ?_
  rw [toNat_cast] at *
  refine h w1 (grid_new ?_ (by decide)) (only_alloc e1) (hs_alloc e1)
  have e : (List.replicate n ([.slice none 0 0] : List Value)).flatten = List.replicate n (.slice none 0 0) := flat_one n _
  rw [← e]
  exact Row.new e1
/-- the distances from a node -/
noncomputable def distOf (E : List Edg) (wt : Nat → Int) (n : Nat) (s : Int) : List Int := by
  classical
  exact if h : ∃ D, IsDist E wt n s D then Classical.choose h else []
theorem distOf_eq {E : List Edg} {wt : Nat → Int} {n : Nat} {s : Int} {D : List Int} (h : IsDist E wt n s D) : D = distOf E wt n s := by
  unfold distOf
  have he : ∃ D, IsDist E wt n s D := ⟨D, h⟩
  rw [dif_pos he]
  exact h.unique (Classical.choose_spec he)
theorem dist_c {w : World} {q : Nat} {E : List Edg} {n : Nat} {A B C : Nat → Prop} (hG : GraphAt w A q E (insL E n) (outsL E n)) (hn : n ≤ 10) (hE : ∀ e ∈ E, okEdge n e) (hl : E.length ≤ 1000000) (o : Option Addr) (c : Nat) (ts : List Int) (ht : Nums w B o ts)
    (oe : Option Addr) (ce : Nat) (s : Int) (hsrc : Nums w C oe [s]) : Calls Try.prog 30 #[.pointer (some ⟨q, 0, none⟩), .slice o ts.length c, .slice oe 1 ce] w fun e w' => ∃ bd, e = .returned (.slice (some ⟨bd, 0, none⟩) n n) ∧ Row w' bd 2 (intsV (distOf E (wOf ts) n s)) ∧ (distOf E (wOf ts) n s).length = n ∧ hs w ≤ bd ∧ Grow w w' := by
  have hf := from_c hG hn hE hl o c ts ht oe ce s hsrc
  refine hf.mono ?_
  rintro e w' ⟨bd, D, rfl, h1, h2, h4, h3⟩
  rw [← distOf_eq h2]
  exact ⟨bd, rfl, h1, h2.len, h4, h3⟩

theorem grid_write {w : World} {M : Nat → Prop} {g i j N : Nat} {rows : List (List Int)} {x : Int} {k51 : World → Prop} (G : Grid w M 32 2 g rows) (hi : i < rows.length) (hj : j < rows[i].length) (hN : N = rows.length) (hk : ∀ w2, Grid w2 M 32 2 g (rows.set i (rows[i].set j x)) → Only M w w2 → k51 w2) :
    ∃ a97 : Addr, some (⟨g, 0, none⟩ : Addr) = some a97 ∧ ((0 : Int) ≤ (i : Int) ∧ (i : Int) < ((N : Nat) : Int)) ∧ ∃ (o98 : Option Addr) (n99 n100 : Nat), w.cell? (a97.add ((i : Int).toNat * 1)) = some (.slice o98 n99 n100) ∧ ∃ a101 : Addr, o98 = some a101 ∧ ((0 : Int) ≤ (j : Int) ∧ (j : Int) < ((n99 : Nat) : Int)) ∧
      There w (a101.add ((j : Int).toNat * 1)) 1 ∧ ∀ w102, w102 = setCells w (a101.add ((j : Int).toNat * 1)) [.int .i64 x] 0 → k51 w102 := by
  obtain ⟨o, c, hc, own, hin⟩ := grid_get G hi
  obtain ⟨a, ha, ht, hset⟩ := grid_put G hi hj hc
  exact ⟨_, rfl, ⟨by omega, by omega⟩, _, _, _, hc, a, ha, ⟨by omega, by omega⟩, ht, fun w2 e2 => by
    obtain ⟨h1, h2⟩ := hset x w2 e2
    exact hk w2 h1 h2⟩
noncomputable def costOf (E : List Edg) (wt : Nat → Int) (n : Nat) (s : PSl) (u : Un) : Int := if satB u.kind s.kind then farthest (distOf E wt n u.node) s.nodes else FarT
noncomputable def costP (E : List Edg) (wt : Nat → Int) (n : Nat) (sl : List PSl) (us : List Un) : List (List Int) := sl.map fun s => us.map (costOf E wt n s)
/-- slots that came in -/
def SlIn (w : World) (A : Nat → Prop) (o : Option Addr) (sl : List Slt) : Prop := Recs w A o 5 (sl.map encS) ∧ ∀ s ∈ sl, Nums w A s.oN s.nodes
theorem SlIn.grow {w w' : World} {A : Nat → Prop} {o : Option Addr} {sl : List Slt} (h : SlIn w A o sl) (g : Grow w w') : SlIn w' A o sl := ⟨h.1.grow g, fun s hs => (h.2 s hs).grow g⟩
/-- the distances that are known -/
def Dm (E : List Edg) (wt : Nat → Int) (n B m : Nat) (w : World) (M : Nat → Prop) (L : List (Int × Value)) : Prop := MapAt w m L ∧ ∀ p ∈ L, ∃ bd, p.2 = .slice (some ⟨bd, 0, none⟩) n n ∧ Row w bd 2 (intsV (distOf E wt n p.1)) ∧ (distOf E wt n p.1).length = n ∧ ¬ M bd ∧ B ≤ bd
theorem Dm.keep {E : List Edg} {wt : Nat → Int} {n B m : Nat} {w w' : World} {M M' S : Nat → Prop} {L : List (Int × Value)} (h : Dm E wt n B m w M L) (g : Only S w w') (hm : ¬ S m) (hS : ∀ b l, Row w b 2 l → ¬ M b → ¬ S b) (hM' : ∀ b, b < hs w → M' b → M b) : Dm E wt n B m w' M' L :=
  ⟨h.1.keep g hm, fun p hp => by
    obtain ⟨bd, h1, h2, h3, h4, h5⟩ := h.2 p hp
    exact ⟨bd, h1, h2.keep g (hS bd _ h2 h4), h3, fun k => h4 (hM' bd h2.lt k), h5⟩⟩
theorem Dm.grow {E : List Edg} {wt : Nat → Int} {n B m : Nat} {w w' : World} {M : Nat → Prop} {L : List (Int × Value)} (h : Dm E wt n B m w M L) (g : Grow w w') : Dm E wt n B m w' M L := h.keep g (fun h => h) (fun _ _ _ _ h => h) fun _ _ h => h
theorem map_ne {w : World} {r b T : Nat} {l : List (Int × Value)} {l' : List Value} (h : MapAt w r l) (hr : Row w b T l') : b ≠ r := fun e => by
  obtain ⟨es, clock, hb, -⟩ := h.ex
  unfold Row at hr
  rw [e, hb] at hr
  cases hr
/-- what holds while a slot's row is filled -/
structure RowSt (E : List Edg) (wt : Nat → Int) (n : Nat) (w0 : World) (sl : List Slt) (us : List Un) (i : Nat) (s : Slt) (M : Nat → Prop) (g r bX : Nat) (w : World) (cur : List Int) : Prop where
  ex : ∃ rows L L2, Grid w M 32 2 g rows ∧ rows.length = sl.length ∧ (∀ (i' : Nat) s', i' < i → sl[i']? = some s' → rows[i']? = some (us.map (costOf E wt n s'.pure))) ∧ rows[i]? = some cur ∧ Dm E wt n (hs w0) (hs w0) w M L ∧ MapAt w r L2 ∧ (∀ p ∈ L2, p.2 = .int .i64 (farthest (distOf E wt n p.1) s.nodes))
  row : Row w bX 46 (encS s)
  low : ∀ b, M b → hs w0 ≤ b
  nr : ¬ M r ∧ ¬ M (hs w0) ∧ ¬ M bX ∧ hs w0 ≤ r ∧ r ≠ hs w0
  grow : Grow w0 w
section
variable {E : List Edg} {wt : Nat → Int} {n : Nat} {w0 : World} {sl : List Slt} {us : List Un} {i : Nat} {s : Slt} {M : Nat → Prop} {g r bX : Nat} {w : World} {cur : List Int}
theorem RowSt.more {w' : World} (h : RowSt E wt n w0 sl us i s M g r bX w cur) (g' : Grow w w') : RowSt E wt n w0 sl us i s M g r bX w' cur := by
  obtain ⟨rows, L, L2, h1, h2, h3, h4, h5, h6, h7⟩ := h.ex
  exact ⟨⟨rows, L, L2, h1.grow g', h2, h3, h4, h5.grow g', h6.grow g', h7⟩, h.row.grow g', h.low, h.nr, h.grow.trans' g'⟩
theorem RowSt.write {N j : Nat} {x : Int} {k51 : World → Prop} (h : RowSt E wt n w0 sl us i s M g r bX w cur) (hi : i < sl.length) (hN : N = sl.length) (hj : j < cur.length) (hk : ∀ w2, RowSt E wt n w0 sl us i s M g r bX w2 (cur.set j x) → Only M w w2 → k51 w2) :
    ∃ a97 : Addr, some (⟨g, 0, none⟩ : Addr) = some a97 ∧ ((0 : Int) ≤ (i : Int) ∧ (i : Int) < ((N : Nat) : Int)) ∧ ∃ (o98 : Option Addr) (n99 n100 : Nat), w.cell? (a97.add ((i : Int).toNat * 1)) = some (.slice o98 n99 n100) ∧ ∃ a101 : Addr, o98 = some a101 ∧ ((0 : Int) ≤ (j : Int) ∧ (j : Int) < ((n99 : Nat) : Int)) ∧
      There w (a101.add ((j : Int).toNat * 1)) 1 ∧ ∀ w102, w102 = setCells w (a101.add ((j : Int).toNat * 1)) [.int .i64 x] 0 → k51 w102 := by
  obtain ⟨rows, L, L2, h1, h2, h3, h4, h5, h6, h7⟩ := h.ex
  obtain ⟨hir, hcur⟩ := List.getElem?_eq_some_iff.1 h4
  refine grid_write h1 hir (by rw [hcur]; exact hj) (by omega) fun w2 G2 o2 => hk w2 ⟨⟨_, L, L2, G2, by rw [List.length_set]; exact h2, fun i' s' hlt hs' => ?_, ?_, ?_, h6.keep o2 h.nr.1, h7⟩, h.row.keep o2 h.nr.2.2.1, h.low, h.nr, h.grow.trans o2 fun b hb e => by have := h.low b e; omega⟩ o2
  · rw [List.getElem?_set_ne (by omega)]; exact h3 i' s' hlt hs'
  · rw [List.getElem?_set_self hir, hcur]
  · exact h5.keep o2 h.nr.2.1 (fun b l _ hb => hb) fun _ _ h => h
theorem RowSt.look {k : Int} {K : Value → World → Prop} (h : RowSt E wt n w0 sl us i s M g r bX w cur) (h0 : (∀ L2, MapAt w r L2 → (∀ p ∈ L2, p.2 = .int .i64 (farthest (distOf E wt n p.1) s.nodes)) → (∀ p ∈ L2, p.1 ≠ k) → K (.tuple #[.int .i64 0, .bool false]) w)) (h1 : K (.tuple #[.int .i64 (farthest (distOf E wt n k) s.nodes), .bool true]) w) :
    RunOk Try.prog (Hold (Instr.lookup 84 (.map (some r)) (.int .i64 k) true)) w K := by
  obtain ⟨rows, L, L2, q1, q2, q3, q4, q5, q6, q7⟩ := h.ex
  refine map_look und84 und3 (zeroV2 w) q6 (fun hn => h0 L2 q6 q7 hn) fun j p hp hk => ?_
  have := q7 p (List.mem_of_getElem? hp)
  rw [this, hk]
  exact h1
/-- a travel time is noted -/
theorem RowSt.note {k : Int} {L2 : List (Int × Value)} {K : Unit → World → Prop} (h : RowSt E wt n w0 sl us i s M g r bX w cur) (hL : MapAt w r L2) (h7 : ∀ p ∈ L2, p.2 = .int .i64 (farthest (distOf E wt n p.1) s.nodes)) (hn : ∀ p ∈ L2, p.1 ≠ k)
    (hK : ∀ w', RowSt E wt n w0 sl us i s M g r bX w' cur → K () w') : RunOk Try.prog (Hold (Instr.mapUpdate 84 (.map (some r)) (.int .i64 k) (.int .i64 (farthest (distOf E wt n k) s.nodes)))) w K := by
  obtain ⟨rows, L, -, q1, q2, q3, q4, q5, -, -⟩ := h.ex
  refine map_put und84 und3 hL hn fun w' hL' o' => hK w' ⟨⟨rows, L, _, q1.keep o' fun b hb e => h.nr.1 (by rw [← e]; exact hb), q2, q3, q4, q5.keep o' (fun e => h.nr.2.2.2.2 e.symm) (fun b l hr _ e => map_ne hL hr e) (fun _ _ h => h), hL', fun p hp => ?_⟩, h.row.keep o' (map_ne hL h.row), h.low, h.nr, h.grow.trans o' fun b hb e => by have := h.nr.2.2.2.1; omega⟩
  rcases List.mem_append.1 hp with hp | hp
  · exact h7 p hp
  · rw [List.mem_singleton] at hp
    rw [hp]
end

set_option maxHeartbeats 4000000 in
theorem cost_c {w : World} {q : Nat} {E : List Edg} {n : Nat} {A B C D : Nat → Prop} (hG : GraphAt w A q E (insL E n) (outsL E n)) (hn : n ≤ 10) (hE : ∀ e ∈ E, okEdge n e) (hl : E.length ≤ 1000000) (o : Option Addr) (c : Nat) (ts : List Int) (ht : Nums w B o ts)
    (oS : Option Addr) (cS : Nat) (sl : List Slt) (hS : SlIn w C oS sl) (hsl : sl.length ≤ 1000) (hN : ∀ s ∈ sl, s.nodes.length ≤ 1000) (oU : Option Addr) (cU : Nat) (us : List Un) (hU : Uns w D oU us) (hul : us.length ≤ 1000) :
    Calls Try.prog 12 #[.pointer (some ⟨q, 0, none⟩), .slice o ts.length c, .slice oS sl.length cS, .slice oU us.length cU] w fun e w' => ∃ g, e = .returned (.slice (some ⟨g, 0, none⟩) sl.length sl.length) ∧ Mat w' (fun b => hs w ≤ b) (some ⟨g, 0, none⟩) (costP E (wOf ts) n (sl.map Slt.pure) us) ∧ Grow w w' := by
  refine nf12 (some ⟨q, 0, none⟩) o ts.length c oS sl.length cS oU us.length cU w _ fun w1 e1 => ?_
  have g1 : Grow w w1 := only_alloc e1
  have z1 := hs_alloc e1
  refine make_g (by omega) fun w4 G4 g4 z4 => ⟨_, _, _, rfl, ?_⟩
  obtain ⟨g, hg⟩ : ∃ g, g = hs w1 := ⟨_, rfl⟩
  rw [← hg] at G4 ⊢
  have m4 := (map_new e1).grow g4
  refine ⟨fun k o13 x w' => ∃ (i : Nat) (rows : List (List Int)) (M : Nat → Prop) (L : List (Int × Value)), x = (i : Int) ∧ i ≤ sl.length ∧ k = sl.length - i ∧ Grid w' M 32 2 g rows ∧ (∀ b, M b → hs w < b) ∧ rows.length = sl.length ∧ (∀ (i' : Nat) s', i' < i → sl[i']? = some s' → rows[i']? = some (us.map (costOf E (wOf ts) n s'.pure))) ∧ Dm E (wOf ts) n (hs w) (hs w) w' M L ∧
      (i = 0 ∨ ∃ (r : Nat) (L2 : List (Int × Value)) (s : Slt), o13 = some r ∧ sl[i - 1]? = some s ∧ MapAt w' r L2 ∧ (∀ p ∈ L2, p.2 = .int .i64 (farthest (distOf E (wOf ts) n p.1) s.nodes)) ∧ hs w < r ∧ ¬ M r) ∧ Grow w w',
    ⟨_, 0, _, _, [], rfl, Nat.zero_le _, rfl, G4, fun b hb => by omega, by simp, fun i' s' h => absurd h (by omega), ⟨m4, fun p hp => by cases hp⟩, .inl rfl, g1.trans' g4⟩, ?_⟩
  rintro k _ w12 o13 _ ⟨i, rows, M, L, rfl, hi, rfl, hGr, hM, hrl, hdone, hD, hO, g12⟩
  have z12 := g12.size
  refine ⟨fun hlt => ?_, fun hge => ?_⟩
  rotate_left
  · have hil : i = sl.length := by have := dF hge; omega
    subst hil
    refine ⟨g, by rw [hrl.symm] , ?_, g12⟩
    have he : rows = costP E (wOf ts) n (sl.map Slt.pure) us := by
      unfold costP
      apply List.ext_getElem?
      intro i
      rw [List.map_map, List.getElem?_map]
      cases hs' : sl[i]? with
      | none => rw [List.getElem?_eq_none (by rw [hrl]; exact List.getElem?_eq_none_iff.1 hs')]; rfl
      | some s' =>
        rw [hdone i s' ((List.getElem?_eq_some_iff.1 hs').1) hs']
        rfl
    rw [← he]
    intro j row hj
    obtain ⟨a, oi, ci, h1, h2, h3, h4⟩ := grid_mat hGr j row hj
    exact ⟨a, oi, ci, h1, by have := hM _ h2; omega, h3, fun j' v hj' => by
      obtain ⟨a', k1, k2, k3⟩ := h4 j' v hj'
      exact ⟨a', k1, by have := hM _ k2; omega, k3⟩⟩
  have hlt : i < sl.length := by have := dT hlt; omega
  have hat := List.getElem?_eq_getElem hlt
  obtain ⟨a, ha, -, hc, hc0⟩ := Recs.atE ((hS.grow g12).1) hat
  have hsm := List.getElem_mem hlt
  obtain ⟨s, hse⟩ : ∃ s, s = sl[i] := ⟨_, rfl⟩
  rw [← hse] at hat hc hc0 hsm
  refine ⟨a, ha, ⟨by omega, by omega⟩, _, hc0 _ rfl, _, hc 1 _ rfl, _, hc 2 _ rfl, _, hc 3 _ rfl, _, _, _, hc 4 _ rfl, fun w25 e25 => ⟨(Row.new e25).there (by simp), fun w27 e27 k29 hk29 w175 e175 => ?_⟩⟩
  obtain ⟨r27, g27⟩ := loc (vs := encS s) e25 e27 rfl
  have g175 : Grow w27 w175 := only_drew e175
  have r175 := r27.grow g175
  have G175 := g27.trans' g175
  have z175 := G175.size
  -- the row of the slot
  have cont : ∀ (w31 : World) (r : Nat) (L2 : List (Int × Value)), Grow w175 w31 → MapAt w31 r L2 → (∀ p ∈ L2, p.2 = .int .i64 (farthest (distOf E (wOf ts) n p.1) s.nodes)) → hs w < r → ¬ M r → k29 (some r) w31 := by
    intro w31 r L2 g31 hL2 h7 hr hMr
    refine hk29 _ _ fun _ => make_z (by omega) fun w36 r36 g36 z36 => ⟨_, _, _, rfl, _, rfl, ⟨by omega, by omega⟩, ?_⟩
    have z31 := g31.size
    have G36 := (G175.trans' g31).trans' g36
    have GM := hGr.grow G36
    have own36 : Own w36 0 2 1 (some ⟨hs w31, 0, none⟩) (List.replicate us.length (0 : Int)).length us.length (intsV (List.replicate us.length 0)) := by
      rw [List.length_replicate]
      exact r36.own (Nat.zero_le _) (by rw [intsV_len]; simp) (by simp only [maxLen]; omega)
    have hML : ∀ b, M b → b < hs w12 := hGr.lt
    have hfresh : ∀ b, inBlock (some (⟨hs w31, 0, none⟩ : Addr)) b → ¬ M b := fun b ⟨a, ha, e⟩ k => by
      cases ha
      have := hML b k
      simp only at e
      omega
    have lb : (List.replicate us.length (0 : Int)).length = us.length := by simp
    obtain ⟨th, hset⟩ := grid_row GM (i := i) (by omega) own36 hfresh
    rw [lb] at hset
    refine ⟨th, fun w41 e41 => ?_⟩
    obtain ⟨G41, o41⟩ := hset w41 e41
    have G41' : Grow w w41 := (g12.trans' G36).trans o41 fun b hb e => by have := hM b e; omega
    have hD36 := hD.grow G36
    have lm : hs w < hs w12 := by have := hD.1.lt; omega
    have st0 : RowSt E (wOf ts) n w sl us i s (fun b => M b ∨ inBlock (some (⟨hs w31, 0, none⟩ : Addr)) b) g r (hs w12) w41 (List.replicate us.length 0) := by
      have inb : ∀ b, inBlock (some (⟨hs w31, 0, none⟩ : Addr)) b → b = hs w31 := fun b ⟨a, ha, e⟩ => by cases ha; exact e.symm
      have rl := hL2.lt
      refine ⟨⟨_, L, L2, G41, by rw [List.length_set]; exact hrl, fun i' s' hlt' hs' => by rw [List.getElem?_set_ne (by omega)]; exact hdone i' s' hlt' hs', List.getElem?_set_self (by omega), ?_, (hL2.grow g36).keep o41 hMr, h7⟩, ((r175.grow g31).grow g36).keep o41 fun k => by have := hML _ k; omega, ?_, ⟨?_, ?_, ?_, by omega, by omega⟩, G41'⟩
      · have h5 := hD36.keep (M' := fun b => M b) o41 (fun k => by have := hM _ k; omega) (fun b l _ hb => hb) fun _ _ h => h
        refine ⟨h5.1, fun p hp => ?_⟩
        obtain ⟨bd, k1, k2, k3, k4, k5⟩ := h5.2 p hp
        obtain ⟨bd', k1', k2', -⟩ := hD.2 p hp
        rw [k1] at k1'
        simp only [Value.slice.injEq, Option.some.injEq, Addr.mk.injEq, and_true] at k1'
        refine ⟨bd, k1, k2, k3, fun h => ?_, k5⟩
        rcases h with h | h
        · exact k4 h
        · have e1 := inb _ h
          have := k2'.lt
          omega
      · rintro b (h | h)
        · have := hM b h; omega
        · have := inb b h; omega
      · rintro (h | h)
        · exact hMr h
        · have := inb r h; omega
      · rintro (h | h)
        · have := hM _ h; omega
        · have := inb _ h; omega
      · rintro (h | h)
        · have := hML _ h; omega
        · have := inb _ h
          have := r175.lt
          omega
    have hM' : ∀ b, (fun b => M b ∨ inBlock (some (⟨hs w31, 0, none⟩ : Addr)) b) b → hs w < b := by
      rintro b (h | ⟨a, ha, e⟩)
      · exact hM b h
      · cases ha
        have e2 : b = hs w31 := e.symm
        omega
    clear hset
    generalize (fun b => M b ∨ inBlock (some (⟨hs w31, 0, none⟩ : Addr)) b) = MM at st0 hM' G41
    refine ⟨fun m x w' => ∃ j : Nat, x = (j : Int) ∧ j ≤ us.length ∧ m = us.length - j ∧ RowSt E (wOf ts) n w sl us i s MM g r (hs w12) w' ((us.take j).map (costOf E (wOf ts) n s.pure) ++ List.replicate (us.length - j) 0), ⟨_, 0, rfl, Nat.zero_le _, rfl, by simpa using st0⟩, ?_⟩
    rintro m _ w47 _ ⟨j, rfl, hj, rfl, st⟩
    refine ⟨fun hlt2 => ?_, fun hge2 => ?_⟩
    rotate_left
    · have hjl : j = us.length := by have := dF hge2; omega
      subst hjl
      rw [List.take_length, Nat.sub_self, List.replicate_zero, List.append_nil] at st
      obtain ⟨rows', L', L2', q1, q2, q3, q4, q5, q6, q7⟩ := st.ex
      refine ⟨_, by omega, i + 1, rows', MM, L', by rw [wr (by omega)]; omega, hlt, rfl, q1, hM', q2, fun i' s' h1 h2 => ?_, q5, .inr ⟨r, L2', s, rfl, by simpa using hat, q6, q7, hr, st.nr.1⟩, st.grow⟩
      by_cases e : i' = i
      · subst e
        rw [hat] at h2
        cases h2
        exact q4
      · exact q3 i' s' (by omega) h2
    have hlt2 : j < us.length := by have := dT hlt2; omega
    have hatu := List.getElem?_eq_getElem hlt2
    have htk := List.take_succ_eq_append_getElem hlt2
    intro k51 hk51
    obtain ⟨a', ha', -, hd, hd0⟩ := Recs.atE (hU.grow st.grow) hatu
    generalize us[j] = u at *
    have len : ((us.take j).map (costOf E (wOf ts) n s.pure)).length = j := by rw [List.length_map, List.length_take]; omega
    refine ⟨a', ha', ⟨by omega, by omega⟩, _, hd0 _ rfl, _, hd 1 _ rfl, _, hd 2 _ rfl, _, hd 3 _ rfl, _, hd 4 _ rfl, _, hd 5 _ rfl, _, hd 6 _ rfl, _, hd 7 _ rfl, _, hd 8 _ rfl, _, hd 9 _ rfl, fun w68 e68 => ⟨(Row.new e68).there (by simp), fun w70 e70 => ?_⟩⟩
    obtain ⟨r70, g70⟩ := loc (vs := encUn u) e68 e70 rfl
    have st70 := st.more g70
    have lu : hs w47 < hs w70 := r70.lt
    have nM : ¬ MM (hs w47) := fun k => by
      obtain ⟨rows', L', L2', q1, -⟩ := st.ex
      have := q1.lt _ k
      omega
    refine st70.write (x := 4611686018427387904) hlt rfl (by rw [List.length_append, List.length_replicate, len]; omega) fun w77 st77 o77 => ?_
    have r77 := r70.keep o77 nM
    -- the next unit
    have next : ∀ (w53 : World) (x : Int), x = costOf E (wOf ts) n s.pure u → RowSt E (wOf ts) n w sl us i s MM g r (hs w12) w53 (((us.take j).map (costOf E (wOf ts) n s.pure) ++ List.replicate (us.length - j) 0).set j x) → k51 w53 := fun w53 x hx hst => hk51 _ fun _ => by
      rw [fill_step _ _ _ _ hlt2 len, hx] at hst
      refine ⟨_, by omega, j + 1, by rw [wr (by omega)]; omega, hlt2, rfl, ?_⟩
      rw [htk, List.map_append]
      exact hst
    refine ⟨_, r77.cell rfl, _, st77.row.cell rfl, (sat_c u.kind s.kind w77).mono ?_⟩
    rintro _ _ ⟨rfl, rfl⟩
    refine ⟨_, rfl, fun hb => ?_, fun hb => next w77 FarT (by unfold costOf; rw [show s.pure.kind = s.kind from rfl, hb]; rfl) st77⟩
    have hcost : farthest (distOf E (wOf ts) n u.node) s.nodes = costOf E (wOf ts) n s.pure u := by
      unfold costOf
      rw [show s.pure.kind = s.kind from rfl, hb, if_pos rfl]
      rfl
    have lset : ∀ x, (((us.take j).map (costOf E (wOf ts) n s.pure) ++ List.replicate (us.length - j) 0).set j x).length = us.length := fun x => by
      rw [List.length_set, List.length_append, List.length_replicate, len]; omega
    have setset : ∀ (l : List Int) (x y : Int), (l.set j x).set j y = l.set j y := fun l x y => List.set_set ..
    have put : ∀ (w93 : World), RowSt E (wOf ts) n w sl us i s MM g r (hs w12) w93 (((us.take j).map (costOf E (wOf ts) n s.pure) ++ List.replicate (us.length - j) 0).set j 4611686018427387904) →
        ∃ a97 : Addr, some (⟨g, 0, none⟩ : Addr) = some a97 ∧ ((0 : Int) ≤ (i : Int) ∧ (i : Int) < ((sl.length : Nat) : Int)) ∧ ∃ (o98 : Option Addr) (n99 n100 : Nat), w93.cell? (a97.add ((i : Int).toNat * 1)) = some (.slice o98 n99 n100) ∧ ∃ a101 : Addr, o98 = some a101 ∧ ((0 : Int) ≤ (j : Int) ∧ (j : Int) < ((n99 : Nat) : Int)) ∧
          There w93 (a101.add ((j : Int).toNat * 1)) 1 ∧ ∀ w102, w102 = setCells w93 (a101.add ((j : Int).toNat * 1)) [.int .i64 (farthest (distOf E (wOf ts) n u.node) s.nodes)] 0 → k51 w102 := fun w93 hst =>
      hst.write hlt rfl (by rw [lset]; omega) fun w2 st2 _ => by
        rw [setset] at st2
        exact next w2 _ hcost st2
    refine ⟨_, r77.cell rfl, st77.look (fun L2 hL2 h7' hno => ⟨_, _, rfl, (fun h => by cases h), fun _ k105 hk105 => ?_⟩) ⟨_, _, rfl, fun _ k91 hk91 => hk91 _ _ fun _ => put w77 st77, fun h => by cases h⟩⟩
    -- the distances
    have far : ∀ (w128 : World) (bd : Nat), Row w128 (hs w47) 29 (encUn u) → Row w128 bd 2 (intsV (distOf E (wOf ts) n u.node)) → (distOf E (wOf ts) n u.node).length = n → RowSt E (wOf ts) n w sl us i s MM g r (hs w12) w128 (((us.take j).map (costOf E (wOf ts) n s.pure) ++ List.replicate (us.length - j) 0).set j 4611686018427387904) →
        MapAt w128 r L2 → ∃ (o134 : Option Addr) (n135 n136 : Nat), w128.cell? ⟨hs w12, 4, none⟩ = some (.slice o134 n135 n136) ∧ Calls Try.prog 31 #[.slice (some ⟨bd, 0, none⟩) n n, .slice o134 n135 n136] w128 fun e137 w138 => ∃ x139 : Int, e137 = .returned (.int .i64 x139) ∧ ∃ x140 : Int, w138.cell? ⟨hs w47, 4, none⟩ = some (.int .i64 x140) ∧ RunOk Try.prog (Hold (Instr.mapUpdate 84 (.map (some r)) (.int .i64 x140) (.int .i64 x139))) w138 fun _ w142 => k105 x139 w142 := by
      intro w128 bd ru rb hlen st128 hL2'
      refine ⟨_, _, _, st128.row.cell rfl, ?_⟩
      have hf := farthest_c (some ⟨bd, 0, none⟩) n (distOf E (wOf ts) n u.node) s.oN s.cN s.nodes (Nat.le_trans (hN s hsm) (by decide)) w128 (A := fun _ => True) (rb.nums trivial) ((hS.grow st128.grow).2 s hsm)
      rw [hlen] at hf
      refine hf.mono ?_
      rintro _ w138 ⟨rfl, g138⟩
      refine ⟨_, rfl, _, (ru.grow g138).cell rfl, (st128.more g138).note (hL2'.grow g138) h7' hno fun w142 st142 => hk105 _ _ fun _ => put w142 st142⟩
    obtain ⟨rows', L', -, q1, q2, q3, q4, q5, -, -⟩ := st77.ex
    refine ⟨_, r77.cell rfl, map_look und83 und3 (zeroV32 w77) q5.1 (fun hno83 => ⟨_, _, _, _, rfl, (fun h => by cases h), fun _ k144 hk144 => ?_⟩) fun j' p hp hk => ?_⟩
    · refine ⟨_, r77.cell rfl, fun w162 e162 => ?_⟩
      have g162 : Grow w77 w162 := only_alloc e162
      have r162 : Row w162 (hs w77) 3 (intsV [u.node]) := Row.new e162
      have gw162 := st77.grow.trans' g162
      refine (dist_c (hG.grow gw162) hn hE hl o c ts (ht.grow gw162) (some ⟨hs w77, 0, none⟩) 1 u.node (C := fun _ => True) (r162.nums trivial)).mono ?_
      rintro _ w165 ⟨bd, rfl, rb, hlen, hbd, g165⟩
      have G165 := g162.trans' g165
      have r165 := r77.grow G165
      have zz := g162.size
      refine ⟨_, _, _, rfl, _, r165.cell rfl, map_put und83 und3 (q5.1.grow G165) hno83 fun w171 hL' o171 => hk144 _ _ _ _ fun _ => ?_⟩
      have st165 := st77.more G165
      have hm165 := q5.1.grow G165
      have L2171 := (hL2.grow G165).keep o171 st165.nr.2.2.2.2
      · refine far w171 bd (r165.keep o171 (map_ne hm165 r165)) (rb.keep o171 (map_ne hm165 rb)) hlen ⟨⟨rows', _, L2, (q1.grow G165).keep o171 fun b hb e => st165.nr.2.1 (by rw [← e]; exact hb), q2, q3, q4, ⟨hL', fun p hp => ?_⟩, L2171, h7'⟩, st165.row.keep o171 (map_ne hm165 st165.row), st165.low, st165.nr, st165.grow.trans o171 fun b hb e => by omega⟩ L2171
        rcases List.mem_append.1 hp with hp | hp
        · obtain ⟨bd', k1, k2, k3, k4, k5⟩ := q5.2 p hp
          exact ⟨bd', k1, (k2.grow G165).keep o171 (map_ne hm165 (k2.grow G165)), k3, k4, k5⟩
        · rw [List.mem_singleton] at hp
          rw [hp]
          refine ⟨bd, rfl, rb.keep o171 (map_ne hm165 rb), hlen, fun k => ?_, by have := gw162.size; omega⟩
          have := q1.lt _ k
          omega
    · obtain ⟨bd, k1, k2, k3, k4, k5⟩ := q5.2 p (List.mem_of_getElem? hp)
      rw [hk] at k2 k3
      rw [k1]
      exact ⟨_, _, _, _, rfl, fun _ k126 hk126 => hk126 _ _ _ _ fun _ => far w77 bd r77 k2 k3 st77 hL2, fun h => by cases h⟩
  refine ⟨fun h0 w178 e178 => ?_, fun h0 => ?_⟩
  · have g178 : Grow w175 w178 := only_alloc e178
    refine cont w178 (hs w175) [] g178 (map_new e178) (fun p hp => by cases hp) (by have := hD.1.lt; omega) fun k => by have := hGr.lt _ k; omega
  · have h0 := dF h0
    obtain ⟨r, L2, sp, rfl, hsp, hL2, h7, hr, hMr⟩ := hO.resolve_left (by omega)
    have e1 : IntKind.wrap .i64 ((i : Int) - 1) = ((i - 1 : Nat) : Int) := by rw [wr (by omega)]; omega
    rw [e1]
    obtain ⟨a2, ha2, -, hd, hd0⟩ := Recs.atE ((hS.grow (g12.trans' G175)).1) hsp
    refine ⟨_, _, _, r175.cell rfl, a2, ha2, ⟨by omega, by omega⟩, _, _, _, hd 4 _ rfl, ?_⟩
    have gn := g12.trans' G175
    refine (equal_c s.oN sp.oN s.cN sp.cN s.nodes sp.nodes (Nat.le_trans (hN s hsm) (by decide)) w175 ((hS.grow gn).2 s hsm) ((hS.grow gn).2 sp (List.mem_of_getElem? hsp))).mono ?_
    rintro _ w189 ⟨rfl, g189⟩
    refine ⟨_, rfl, fun hb => cont w189 r L2 g189 (hL2.grow (G175.trans' g189)) (fun p hp => by rw [h7 p hp, of_decide_eq_true hb]) hr hMr, fun _ w193 e193 => ?_⟩
    have g193 : Grow w189 w193 := only_alloc e193
    have := g189.size
    exact cont w193 (hs w189) [] (g189.trans' g193) (map_new e193) (fun p hp => by cases hp) (by have := hD.1.lt; omega) fun k => by have := hGr.lt _ k; omega
end Go.Proofs.Ytcaokpglbolkcaa
