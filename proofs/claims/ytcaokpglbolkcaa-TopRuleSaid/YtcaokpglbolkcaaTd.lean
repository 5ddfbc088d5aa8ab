/- New, TravelTimes, and the queue. -/
import Derived.Test.YtcaokpglbolkcaaTc
namespace Go.Proofs.Ytcaokpglbolkcaa
open Go Go.Nf Go.RowKit

abbrev FarT : Int := 4611686018427387904
def okEdge (n : Nat) (e : Edg) : Prop := 0 ≤ e.src ∧ e.src < n ∧ 0 ≤ e.dst ∧ e.dst < n ∧ ((1 ≤ e.time ∧ e.time ≤ 1048576) ∨ e.time = FarT)
set_option maxHeartbeats 2000000 in
theorem New_c (n : Nat) (h1n : 1 ≤ n) (hn : n ≤ 4096) (o : Option Addr) (c : Nat) (E : List Edg) (hl : E.length ≤ 16384) (w : World) {A : Nat → Prop} (h : Edgs w A o E) :
    Calls Try.prog 6 #[.int .i64 (n : Int), .slice o E.length c] w fun e w' => Grow w w' ∧ ((0 < E.length ∧ e = .returned (.tuple #[.pointer none, .int .i64 1])) ∨
      ∃ q, e = .returned (.tuple #[.pointer (some ⟨q, 0, none⟩), .int .i64 0]) ∧ GraphAt w' (fun b => b < hs w') q E (insL E n) (outsL E n) ∧ ∀ e ∈ E, okEdge n e) := by
  refine nf6 (n : Int) o E.length c w _ ⟨fun k => absurd (dT k) (by omega), fun _ => ⟨fun k => absurd (dT k) (by omega), fun _ => ⟨fun k => absurd (dT k) (by omega), fun _ => ?_⟩⟩⟩
  refine ⟨fun k x w' => ∃ i : Nat, x = (i : Int) ∧ i ≤ E.length ∧ k = E.length - i ∧ (∀ (j : Nat) e, j < i → E[j]? = some e → okEdge n e) ∧ Grow w w', ⟨_, 0, rfl, Nat.zero_le _, rfl, fun j e hj => by omega, Only.refl _ _⟩, ?_⟩
  rintro k _ w11 x ⟨i, rfl, hi, rfl, hI, g11⟩
  refine ⟨fun hlt => ?_, fun hge => ?_⟩
  · have hlt : i < E.length := by have := dT hlt; omega
    have hat := List.getElem?_eq_getElem hlt
    obtain ⟨a, ha, -, hc, hc0⟩ := Recs.atE (Recs.grow h g11) hat
    generalize E[i] = e at *
    refine ⟨a, ha, ⟨by omega, by omega⟩, _, hc0 _ rfl, _, hc 1 _ rfl, _, hc 2 _ rfl, fun w19 e19 => ⟨(Row.new e19).there (by simp), fun w21 e21 => ?_⟩⟩
    have r21 := (Row.new e19).set e21
    have g21 : Grow w11 w21 := (only_alloc e19).trans (only_set e21) fun b hb e => by omega
    have G := g11.trans' g21
    have bad : ∀ {e' : Ending}, e' = .returned (.tuple #[.pointer none, .int .i64 1]) → Grow w w21 ∧ ((0 < E.length ∧ e' = .returned (.tuple #[.pointer none, .int .i64 1])) ∨ ∃ q, e' = .returned (.tuple #[.pointer (some ⟨q, 0, none⟩), .int .i64 0]) ∧ GraphAt w21 (fun b => b < hs w21) q E (insL E n) (outsL E n) ∧ ∀ e ∈ E, okEdge n e) := fun he => ⟨G, .inl ⟨by omega, he⟩⟩
    have next : okEdge n e → ∃ k, k < E.length - i ∧ ∃ i' : Nat, IntKind.wrap .i64 ((i : Int) + 1) = (i' : Int) ∧ i' ≤ E.length ∧ k = E.length - i' ∧ (∀ (j : Nat) e, j < i' → E[j]? = some e → okEdge n e) ∧ Grow w w21 := fun hok =>
      ⟨_, by omega, i + 1, by rw [wr (by omega)]; omega, hlt, rfl, fun j y hj hy => by
        by_cases ej : j = i
        · subst ej; rw [hat] at hy; cases hy; exact hok
        · exact hI j y (by omega) hy, G⟩
    refine ⟨_, r21.cell rfl, fun _ => bad rfl, fun h1 => ⟨_, r21.cell rfl, fun _ => bad rfl, fun h2 => ⟨_, r21.cell rfl, fun _ => bad rfl, fun h3 => ⟨_, r21.cell rfl, fun _ => bad rfl, fun h4 => ⟨_, r21.cell rfl, fun h5 => ⟨_, r21.cell rfl, fun _ => bad rfl, fun h6 => next ?_⟩, fun h5 => ⟨_, r21.cell rfl, fun h6 => ⟨_, r21.cell rfl, fun _ => bad rfl, fun h7 => next ?_⟩, fun h6 => next ?_⟩⟩⟩⟩⟩⟩
    all_goals
      have h1 := dF h1; have h2 := dF h2; have h3 := dF h3; have h4 := dF h4
      refine ⟨by omega, by omega, by omega, by omega, ?_⟩
    · exact .inr (nF h6)
    · exact .inr (nF h7)
    · have := dF h5; have := dF h6
      exact .inl ⟨by omega, by omega⟩
  · have hil : i = E.length := by have := dF hge; omega
    have hall : ∀ e ∈ E, okEdge n e := fun e he => by
      obtain ⟨j, hj, rfl⟩ := List.getElem_of_mem he
      exact hI j _ (by omega) (List.getElem?_eq_getElem hj)
    refine (cloneE_c o c E (by omega) w11 (Recs.grow h g11)).mono ?_
    rintro _ w52 ⟨o53, c55, rfl, own, g52⟩
    refine ⟨_, _, _, rfl, (build_c n o53 c55 E hn hl (fun e he => by have := hall e he; unfold okEdge at this; omega) w52 (own_recs' encE_len (by decide) own)).mono ?_⟩
    rintro _ w57 ⟨q, rfl, hG, g57⟩
    exact ⟨_, rfl, (g11.trans' g52).trans' g57, .inr ⟨q, rfl, hG, hall⟩⟩

theorem make_z {w : World} {n : Nat} {K : Value → World → Prop} (hn : n ≤ 1000000) (h : ∀ w', Row w' (hs w) 2 (intsV (List.replicate n 0)) → Grow w w' → hs w' = hs w + 1 → K (.slice (some ⟨hs w, 0, none⟩) n n) w') : RunOk Try.prog (Hold (Instr.makeSlice 32 (.int .i64 (n : Int)) (.int .i64 (n : Int)))) w K := by
  refine run_make_row elem32 zero2 (by omega) (by omega) (by omega) (by omega) fun w1 e1 => ?_
  rw [toNat_cast] at *
  refine h w1 ?_ (only_alloc e1) (hs_alloc e1)
  rw [← rep_ints]; exact Row.new e1
set_option maxHeartbeats 1000000 in
theorem times7_c {w : World} {A : Nat → Prop} {q : Nat} {E : List Edg} {ins outs : List (List Int)} (h : GraphAt w A q E ins outs) (hl : E.length ≤ 1000000) :
    Calls Try.prog 7 #[.pointer (some ⟨q, 0, none⟩)] w fun e w' => ∃ b, e = .returned (.slice (some ⟨b, 0, none⟩) E.length E.length) ∧ Row w' b 2 (intsV (E.map (·.time))) ∧ Grow w w' := by
  obtain ⟨oe, ce, oo, co, oi, ci, h1, h2, -⟩ := h.ex
  refine nf7 q w _ ⟨_, _, _, h1.cell rfl, make_z hl fun w5 r5 g5 z5 => ⟨_, _, _, rfl, _, _, _, (h1.grow g5).cell rfl, fun k x w' => ∃ i : Nat, x = (i : Int) ∧ i ≤ E.length ∧ k = E.length - i ∧ Row w' (hs w) 2 (intsV ((E.take i).map (·.time) ++ List.replicate (E.length - i) 0)) ∧ Only (fun b => b = hs w) w5 w', ⟨_, 0, rfl, Nat.zero_le _, rfl, by simpa using r5, Only.refl _ _⟩, ?_⟩⟩
  rintro k _ w16 x ⟨i, rfl, hi, rfl, r16, o16⟩
  have G16 : Grow w w16 := g5.trans o16 fun b hb e => by omega
  refine ⟨fun hlt => ?_, fun hge => ⟨_, rfl, ?_, G16⟩⟩
  · have hlt : i < E.length := by have := dT hlt; omega
    have hat := List.getElem?_eq_getElem hlt
    obtain ⟨a, ha, -, hc, hc0⟩ := Recs.atE (Recs.grow h2 G16) hat
    have htk := List.take_succ_eq_append_getElem hlt
    generalize E[i] = e at *
    have lt16 := r16.lt
    refine ⟨a, ha, ⟨by omega, by omega⟩, _, hc0 _ rfl, _, hc 1 _ rfl, _, hc 2 _ rfl, fun w24 e24 => ⟨(Row.new e24).there (by simp), fun w26 e26 => ?_⟩⟩
    have z24 := hs_alloc e24
    have r26 := (Row.new e24).set e26
    have g26 : Grow w16 w26 := (only_alloc e24).trans (only_set e26) fun b hb e => by omega
    have len : ((E.take i).map (·.time)).length = i := by rw [List.length_map, List.length_take]; omega
    refine ⟨_, r26.cell rfl, _, rfl, ⟨by omega, by omega⟩, (r16.grow g26).thereAdd (by rw [toNat_cast, Nat.mul_one, intsV_len, List.length_append, List.length_replicate, len]; omega), fun w30 e30 => ⟨_, by omega, i + 1, by rw [wr (by omega)]; omega, hlt, rfl, ?_, o16.trans' (g26.only.trans' (only_setAdd e30))⟩⟩
    have r30 := (r16.grow g26).setAdd e30
    rw [intsV_set _ _ _ (by rw [List.length_append, List.length_replicate, len]; omega), fill_step _ _ _ _ hlt len] at r30
    rw [htk, List.map_append]
    exact r30
  · have : i = E.length := by have := dF hge; omega
    subst this
    rw [List.take_length, Nat.sub_self, List.replicate_zero, List.append_nil] at r16
    exact r16
/-- an edge's weight, by the list of times -/
def wOf (ts : List Int) (i : Nat) : Int := match ts[i]? with | some t => if t < 1 ∨ t > 1048576 then FarT else t | none => FarT
theorem wOf_bd (ts : List Int) (i : Nat) : wOf ts i = FarT ∨ (1 ≤ wOf ts i ∧ wOf ts i ≤ 1048576) := by
  unfold wOf
  split
  · split
    · exact .inl rfl
    · exact .inr (by omega)
  · exact .inl rfl
set_option maxHeartbeats 1000000 in
theorem times51_c {w : World} {A B : Nat → Prop} {q : Nat} {E : List Edg} {ins outs : List (List Int)} (h : GraphAt w A q E ins outs) (hl : E.length ≤ 1000000) (o : Option Addr) (c : Nat) (ts : List Int) (ht : Nums w B o ts) :
    Calls Try.prog 51 #[.pointer (some ⟨q, 0, none⟩), .slice o ts.length c] w fun e w' => ∃ b, e = .returned (.slice (some ⟨b, 0, none⟩) E.length E.length) ∧ Row w' b 2 (intsV ((List.range E.length).map (wOf ts))) ∧ hs w ≤ b ∧ Grow w w' := by
  refine nf51 q o ts.length c w _ ((edges_c h).mono ?_)
  rintro _ _ ⟨rfl, rfl⟩
  refine ⟨_, rfl, make_z hl fun w5 r5 g5 z5 => ⟨_, _, _, rfl, fun k x w' => ∃ i : Nat, x = (i : Int) ∧ i ≤ E.length ∧ k = E.length - i ∧ Row w' (hs w) 2 (intsV ((List.range i).map (wOf ts) ++ List.replicate (E.length - i) 0)) ∧ Only (fun b => b = hs w) w5 w', ⟨_, 0, rfl, Nat.zero_le _, rfl, by simpa using r5, Only.refl _ _⟩, ?_⟩⟩
  rintro k _ w13 x ⟨i, rfl, hi, rfl, r13, o13⟩
  have G13 : Grow w w13 := g5.trans o13 fun b hb e => by omega
  refine ⟨fun hlt => (travelTime_c o c ts i w13 (ht.grow G13)).mono ?_, fun hge => ⟨_, rfl, ?_, Nat.le_refl _, G13⟩⟩
  · rintro _ _ ⟨rfl, rfl⟩
    have hlt : i < E.length := by have := dT hlt; omega
    have len : ((List.range i).map (wOf ts)).length = i := by simp
    refine ⟨_, rfl, _, rfl, ⟨by omega, by omega⟩, r13.thereAdd (by rw [toNat_cast, Nat.mul_one, intsV_len, List.length_append, List.length_replicate, len]; omega), fun w21 e21 => ⟨_, by omega, i + 1, by rw [wr (by omega)]; omega, hlt, rfl, ?_, o13.trans' (only_setAdd e21)⟩⟩
    have r21 := r13.setAdd e21
    rw [intsV_set _ _ _ (by rw [List.length_append, List.length_replicate, len]; omega), fill_step _ _ _ _ hlt len] at r21
    rw [List.range_succ, List.map_append]
    exact r21
  · have : i = E.length := by have := dF hge; omega
    subst this
    rw [Nat.sub_self, List.replicate_zero, List.append_nil] at r13
    exact r13

/-! ### the queue -/
theorem elem128 : Elem Try.prog 128 2 1 8 := elem_of (by kernel_rfl)
structure QAt (w : World) (q : Nat) (S : Nat → Prop) (xs : List Int) : Prop where
  ex : ∃ o c, Row w q 128 [.slice o xs.length c] ∧ Own w 0 2 1 o xs.length c (intsV xs) ∧ ∀ b, inBlock o b → S b
  memq : S q
  lt : ∀ b, S b → b < hs w
theorem QAt.keep {w w' : World} {q : Nat} {S X : Nat → Prop} {xs : List Int} (h : QAt w q S xs) (g : Only X w w') (hX : ∀ b, S b → ¬ X b) : QAt w' q S xs := by
  obtain ⟨o, c, h1, h2, h3⟩ := h.ex
  exact ⟨⟨o, c, h1.keep g (hX q h.memq), h2.keep g fun b hb => hX b (h3 b hb), h3⟩, h.memq, fun b hb => Nat.lt_of_lt_of_le (h.lt b hb) g.size⟩
theorem QAt.grow {w w' : World} {q : Nat} {S : Nat → Prop} {xs : List Int} (h : QAt w q S xs) (g : Grow w w') : QAt w' q S xs := h.keep g fun _ _ h => h
theorem swap_perm {xs : List Int} {i j : Nat} (hi : i < xs.length) (hj : j < xs.length) : ((xs.set i xs[j]).set j xs[i]).Perm xs := by
  rw [List.perm_iff_count]
  intro a
  rw [List.count_set (by simpa using hj), List.count_set hi]
  by_cases e : i = j
  · subst e
    rw [List.getElem_set_self]
    by_cases h1 : xs[i] = a
    · have : 0 < xs.count a := List.count_pos_iff.2 (h1 ▸ List.getElem_mem hi)
      simp [h1]; omega
    · simp [h1]
  · rw [List.getElem_set_ne e]
    by_cases h1 : xs[i] = a <;> by_cases h2 : xs[j] = a
    · have : 0 < xs.count a := List.count_pos_iff.2 (h1 ▸ List.getElem_mem hi)
      simp [h1, h2]; omega
    · have : 0 < xs.count a := List.count_pos_iff.2 (h1 ▸ List.getElem_mem hi)
      simp [h1, h2]; omega
    · have : 0 < xs.count a := List.count_pos_iff.2 (h2 ▸ List.getElem_mem hj)
      simp [h1, h2]
    · simp [h1, h2]
theorem own_get {w : World} {B T c : Nat} {o : Option Addr} {xs : List Int} (h : Own w B T 1 o xs.length c (intsV xs)) {j : Nat} (hj : j < xs.length) : ∃ g, o = some ⟨g, 0, none⟩ ∧ w.cell? ((⟨g, 0, none⟩ : Addr).add ((j : Int).toNat * 1)) = some (.int .i64 xs[j]) ∧ There w ((⟨g, 0, none⟩ : Addr).add ((j : Int).toNat * 1)) 1 := by
  obtain ⟨g, l, rfl, -⟩ := h.head (show 0 < xs.length by omega)
  exact ⟨g, rfl, h.cell (by rw [toNat_cast, Nat.mul_one]; simp [intsV, hj]), h.there (by rw [toNat_cast]; omega)⟩
theorem own_put {w w' : World} {B T c g : Nat} {xs : List Int} (h : Own w B T 1 (some ⟨g, 0, none⟩) xs.length c (intsV xs)) {j : Nat} (hj : j < xs.length) {x : Int} (e : w' = setCells w ((⟨g, 0, none⟩ : Addr).add ((j : Int).toNat * 1)) [.int .i64 x] 0) :
    Own w' B T 1 (some ⟨g, 0, none⟩) (xs.set j x).length c (intsV (xs.set j x)) ∧ Only (fun b => b = g) w w' := by
  have := h.set e (by rw [toNat_cast]; simp; omega)
  rw [intsV_set _ _ _ hj] at this
  rw [List.length_set]
  exact ⟨this, only_setAdd e⟩
theorem half {i : Nat} (h : 0 < i) (hi : i ≤ 1000000000) : IntKind.wrap .i64 (Int.tdiv (IntKind.wrap .i64 ((i : Int) - 1)) 2) = (((i - 1) / 2 : Nat) : Int) := by
  rw [wr (x := (i : Int) - 1) (by omega), Int.tdiv_eq_ediv_of_nonneg (by omega), wr (by omega)]
  omega
set_option maxHeartbeats 2000000 in
theorem push_c {w : World} {q : Nat} {S : Nat → Prop} {xs : List Int} (h : QAt w q S xs) (hl : xs.length ≤ 100000000) (d v : Int) (hd : 0 ≤ d ∧ d ≤ 1000000000) (hv : 0 ≤ v ∧ v < 4096) :
    Calls Try.prog 65 #[.pointer (some ⟨q, 0, none⟩), .int .i64 d, .int .i64 v] w fun e w' => e = .returned (.tuple #[]) ∧ ∃ ys S', ys.Perm (xs ++ [d * 4096 + v]) ∧ QAt w' q S' ys ∧ Only S w w' ∧ ∀ b, S' b → S b ∨ hs w ≤ b := by
  obtain ⟨o, c, h1, h2, h3⟩ := h.ex
  have hq := h1.lt
  refine nf65 q d v w _ ⟨_, _, _, h1.cell rfl, fun w4 e4 => ?_⟩
  have ek : IntKind.wrap .i64 (IntKind.wrap .i64 (d * 4096) + v) = d * 4096 + v := by rw [wr (x := d * 4096) (by omega), wr (by omega)]
  rw [ek] at e4
  have g4 : Grow w w4 := only_alloc e4
  have z4 := hs_alloc e4
  refine run_append_at elem128 (h2.grow g4) (news := [.int .i64 (d * 4096 + v)]) rfl (fun j u hu => (Row.new (l := [.int .i64 (d * 4096 + v)]) e4).cellAdd hu) (by simp [Value.oneCell']) (by simp only [maxLen]; omega) (by omega) (Nat.zero_le _) fun o8 c10 w7 p1 p2 p3 => ⟨_, _, _, rfl, ?_⟩
  have z7 := p2.size
  have own7 : Own w7 0 2 1 o8 (xs ++ [d * 4096 + v]).length c10 (intsV (xs ++ [d * 4096 + v])) := by simpa [intsV] using p1
  have hin : ∀ b, inBlock o8 b → S b ∨ hs w ≤ b := fun b hb => (p3 b hb).imp (h3 b) fun e => by omega
  have hlen : (xs ++ [d * 4096 + v]).length = xs.length + 1 := by simp
  have hqo : ∀ {w' : World} {n : Nat} {ys : List Value}, Own w' 0 2 1 o8 n c10 ys → Row w' q 128 [.slice o xs.length c] → ¬ inBlock o8 q := fun k r hb => by
    obtain ⟨l', hl'⟩ := k.row hb
    cases (r.inj hl').2
  have o7 : Only S w w7 := g4.only.trans' (p2.mono fun b _ hb => h3 b hb)
  have r7 : Row w7 q 128 [.slice o xs.length c] := (h1.grow g4).keep p2 fun hb => by
    obtain ⟨l', hl'⟩ := h2.row hb
    cases (h1.inj hl').2
  -- what the loop keeps
  refine ⟨fun k x w' => ∃ (i : Nat) (ys : List Int), x = (i : Int) ∧ k = i ∧ i < ys.length ∧ ys.length = xs.length + 1 ∧ ys.Perm (xs ++ [d * 4096 + v]) ∧ Own w' 0 2 1 o8 ys.length c10 (intsV ys) ∧ Only (inBlock o8) w7 w', ⟨_, xs.length, _, by rw [wr (by omega)]; omega, rfl, by omega, hlen, List.Perm.refl _, own7, Only.refl _ _⟩, ?_⟩
  rintro i _ w15 x ⟨_, ys, rfl, rfl, hi, hyl, hp, own15, o15⟩ w18 e18
  have g18 : Grow w15 w18 := only_drew e18
  have own18 := own15.grow g18
  have o18 := o15.trans' (g18.only (S := inBlock o8))
  have z18 := o18.size
  have done : ∀ {w' : World}, w18 = w' → There w' ⟨q, 0, none⟩ 1 ∧ ∀ w40, w40 = setCells w' ⟨q, 0, none⟩ [.slice o8 (xs.length + 1) c10] 0 → Ending.returned (.tuple #[]) = .returned (.tuple #[]) ∧ ∃ ys S', ys.Perm (xs ++ [d * 4096 + v]) ∧ QAt w40 q S' ys ∧ Only S w w40 ∧ ∀ b, S' b → S b ∨ hs w ≤ b := by
    rintro _ rfl
    have r18 := r7.keep o18 (hqo own7 r7)
    refine ⟨r18.there (by simp), fun w40 e40 => ⟨rfl, ys, fun b => (S b ∨ inBlock o8 b), hp, ⟨⟨o8, c10, by rw [hyl]; exact r18.set e40, own18.keep (only_set e40) fun b hb e => hqo own18 r18 (e ▸ hb), fun b hb => .inr hb⟩, .inl h.memq, fun b hb => ?_⟩, ?_, fun b hb => hb.elim .inl (hin b)⟩⟩
    · have := (only_set e40).size
      rcases hb with hb | hb
      · have := h.lt b hb; omega
      · have := (own18.base b hb).2; omega
    · refine o7.trans (S' := fun b => inBlock o8 b ∨ b = q) ((o18.mono fun b _ hb => .inl hb).trans' ((only_set e40).mono fun b _ hb => .inr hb)) fun b hb k => ?_
      rcases k with k | k
      · rcases hin b k with j | j
        · exact j
        · omega
      · rw [k]; exact h.memq
  refine ⟨fun hpos => ?_, fun _ => ?_⟩
  · have hpos : 0 < i := by have := dT hpos; omega
    obtain ⟨g, rfl, c1, t1⟩ := own_get own18 hi
    have hp2 : (i - 1) / 2 < ys.length := by omega
    obtain ⟨g', eg, c2, t2⟩ := own_get own18 hp2
    cases eg
    rw [half hpos (by omega)]
    refine ⟨_, rfl, ⟨by omega, by omega⟩, _, c1, _, rfl, ⟨by omega, by omega⟩, _, c2, fun _ w26 e26 => ?_, fun _ => ?_⟩
    · have g26 : Grow w18 w26 := only_drew e26
      have own26 := own18.grow g26
      obtain ⟨_, eg, c3, t3⟩ := own_get own26 hp2
      cases eg
      obtain ⟨_, eg, c4, t4⟩ := own_get own26 hi
      cases eg
      refine ⟨_, rfl, ⟨by omega, by omega⟩, _, c3, _, rfl, ⟨by omega, by omega⟩, _, c4, _, rfl, ⟨by omega, by omega⟩, t4, fun w33 e33 => ?_⟩
      obtain ⟨own33, o33⟩ := own_put own26 hi e33
      obtain ⟨_, eg, c5, t5⟩ := own_get own33 (j := (i - 1) / 2) (by simpa using hp2)
      cases eg
      refine ⟨_, rfl, ⟨by omega, by omega⟩, t5, fun w36 e36 => ?_⟩
      obtain ⟨own36, o36⟩ := own_put own33 (j := (i - 1) / 2) (by simpa using hp2) e36
      have inb : ∀ b : Nat, b = g → inBlock (some (⟨g, 0, none⟩ : Addr)) b := fun b e => ⟨_, rfl, e.symm⟩
      refine ⟨_, by omega, (i - 1) / 2, (ys.set i ys[(i - 1) / 2]).set ((i - 1) / 2) ys[i], rfl, rfl, by simpa using hp2, by simpa using hyl, (swap_perm hi hp2).trans hp, own36, ?_⟩
      exact o18.trans' ((g26.only.trans' (o33.mono fun b _ e => inb b e)).trans' (o36.mono fun b _ e => inb b e))
    · exact (done rfl)
  · exact (done rfl)
/-- what pop leaves -/
def PopPost (w : World) (q : Nat) (S : Nat → Prop) (xs : List Int) (e : Ending) (w' : World) : Prop :=
  ∃ x rest ys, xs = x :: rest ∧ e = .returned (.tuple #[.int .i64 (IntKind.wrap .i64 (Int.tdiv x 4096)), .int .i64 (Int.tmod x 4096)]) ∧ ys.Perm rest ∧ QAt w' q S ys ∧ Only S w w'
theorem perm_last {x : Int} {rest : List Int} (h : rest.length < (x :: rest).length) : (((x :: rest).set 0 ((x :: rest)[rest.length]'h)).take rest.length).Perm rest := by
  rcases List.eq_nil_or_concat rest with rfl | ⟨init, l, rfl⟩
  · exact List.Perm.refl _
  · have e1 : (x :: (init ++ [l]))[(init ++ [l]).length]'(by simp) = l := by
      simp
    simp only [List.concat_eq_append] at *
    rw [e1, List.set_cons_zero, List.length_append, List.length_singleton, List.take_succ_cons, List.take_left]
    exact (List.perm_append_singleton l init).symm
set_option maxHeartbeats 4000000 in
theorem pop_c {w : World} {q : Nat} {S : Nat → Prop} {x : Int} {rest : List Int} (h : QAt w q S (x :: rest)) (hl : rest.length ≤ 100000000) :
    Calls Try.prog 68 #[.pointer (some ⟨q, 0, none⟩)] w (PopPost w q S (x :: rest)) := by
  obtain ⟨o, c, h1, h2, h3⟩ := h.ex
  have hnc := h2.le
  have hll : (x :: rest).length = rest.length + 1 := rfl
  obtain ⟨g, rfl, c0, t0⟩ := own_get h2 (j := 0) (by omega)
  obtain ⟨_, eg, c1, t1⟩ := own_get h2 (j := rest.length) (by omega)
  cases eg
  have e0 : ((0 : Nat) : Int).toNat * 1 = 0 := rfl
  rw [e0, Go.Nf.add_zero] at c0 t0
  have en : IntKind.wrap .i64 ((((x :: rest).length : Nat) : Int) - 1) = (rest.length : Int) := by rw [wr (by omega)]; omega
  have eo : (if c = 0 then some (⟨g, 0, none⟩ : Addr) else Option.map (fun x : Addr => x) (some ⟨g, 0, none⟩)) = some ⟨g, 0, none⟩ := by simp
  have em : ((rest.length : Nat) : Int).toNat - 0 = rest.length := by omega
  refine nf68 q w _ ?_
  refine ⟨_, _, _, h1.cell rfl, _, rfl, ⟨by omega, by omega⟩, _, c0, _, rfl, ?_⟩
  rw [en, eo, em]
  refine ⟨⟨by omega, by omega⟩, _, c1, _, rfl, ⟨by omega, by omega⟩, t0, fun w9 e9 => ⟨⟨by omega, by omega⟩, fun k11 hk11 => ?_⟩⟩
  have e9' : w9 = setCells w ((⟨g, 0, none⟩ : Addr).add (((0 : Nat) : Int).toNat * 1)) [.int .i64 (x :: rest)[rest.length]] 0 := by rw [e0, Go.Nf.add_zero]; exact e9
  obtain ⟨own9, o9⟩ := own_put h2 (j := 0) (by omega) e9'
  rw [List.length_set] at own9
  have hgS : S g := h3 g ⟨_, rfl, rfl⟩
  have hgq : g ≠ q := fun e => by
    obtain ⟨l', hl'⟩ := h2.row ⟨_, rfl, rfl⟩
    rw [e] at hl'
    cases (h1.inj hl').2
  -- what is left, in whatever order
  have own9' : Own w9 0 2 1 (some ⟨g, 0, none⟩) rest.length c (intsV (((x :: rest).set 0 (x :: rest)[rest.length]).take rest.length)) := by
    have := own9.fewer (n' := rest.length) (by omega)
    rw [Nat.mul_one] at this
    unfold intsV at this ⊢
    rwa [← List.map_take] at this
  have hperm : (((x :: rest).set 0 (x :: rest)[rest.length]).take rest.length).Perm rest := perm_last (by omega)
  have fin : ∀ {w13 : World} {ys : List Int}, ys.Perm rest → Own w13 0 2 1 (some ⟨g, 0, none⟩) rest.length c (intsV ys) → Only (fun b => b = g) w w13 → k11 w13 := fun {w13 ys} hp own o13 => hk11 _ fun _ => by
    have hyl : ys.length = rest.length := hp.length_eq
    have r13 : Row w13 q 128 [.slice (some ⟨g, 0, none⟩) (x :: rest).length c] := h1.keep o13 fun e => hgq e.symm
    refine ⟨r13.there (by simp), fun w16 e16 => ⟨x, rest, ys, rfl, rfl, hp, ⟨⟨_, c, by rw [hyl]; exact r13.set e16, (by rw [hyl]; exact own.keep (only_set e16) fun b hb e => by obtain ⟨a, ha, rfl⟩ := hb; cases ha; exact hgq e), h3⟩, h.memq, fun b hb => ?_⟩, ?_⟩⟩
    · have := h.lt b hb
      have := o13.size
      have := (only_set e16).size
      omega
    · exact (o13.mono fun b _ e => by rw [e]; exact hgS).trans ((only_set e16).mono (S' := S) fun b _ e => by rw [e]; exact h.memq) fun b _ k => k
  refine ⟨fun k x' w' => ∃ (i : Nat) (ys : List Int), x' = (i : Int) ∧ i ≤ rest.length ∧ k = rest.length - i ∧ ys.Perm rest ∧ Own w' 0 2 1 (some ⟨g, 0, none⟩) rest.length c (intsV ys) ∧ Only (fun b => b = g) w w', ⟨_, 0, _, rfl, Nat.zero_le _, rfl, hperm, own9', o9⟩, ?_⟩
  rintro k _ w22 x' ⟨i, ys, rfl, hi, rfl, hp, own22, o22⟩
  have hyl : ys.length = rest.length := hp.length_eq
  have e1 : IntKind.wrap .i64 (IntKind.wrap .i64 (2 * (i : Int)) + 1) = ((2 * i + 1 : Nat) : Int) := by rw [wr (x := 2 * (i : Int)) (by omega), wr (by omega)]; omega
  have e2 : IntKind.wrap .i64 (((2 * i + 1 : Nat) : Int) + 1) = ((2 * i + 2 : Nat) : Int) := by rw [wr (by omega)]; omega
  rw [e1, e2]
  refine ⟨fun _ => fin hp own22 o22, fun hlt => ?_⟩
  have hlt : 2 * i + 1 < rest.length := by have := dF hlt; omega
  intro k27 hk27
  have step : ∀ (j : Nat) (w29 : World), i < j → j < rest.length → Own w29 0 2 1 (some ⟨g, 0, none⟩) rest.length c (intsV ys) → Only (fun b => b = g) w w29 → k27 (j : Int) w29 := fun j w29 hij hj own29 o29 => hk27 _ _ fun _ w33 e33 => by
    have own33 := own29.grow (only_drew (S := none') e33)
    have o33 : Only (fun b => b = g) w w33 := o29.trans' (only_drew e33)
    rw [← hyl] at own33
    obtain ⟨_, eg, c1, t1⟩ := own_get own33 (j := i) (by omega)
    cases eg
    obtain ⟨_, eg, c2, t2⟩ := own_get own33 (j := j) (by omega)
    cases eg
    refine ⟨_, rfl, ⟨by omega, by omega⟩, _, c1, _, rfl, ⟨by omega, by omega⟩, _, c2, fun _ => fin hp (by rw [← hyl]; exact own33) o33, fun _ w41 e41 => ?_⟩
    have own41 := own33.grow (only_drew (S := none') e41)
    have o41 : Only (fun b => b = g) w w41 := o33.trans' (only_drew e41)
    obtain ⟨_, eg, c3, t3⟩ := own_get own41 (j := i) (by omega)
    cases eg
    obtain ⟨_, eg, c4, t4⟩ := own_get own41 (j := j) (by omega)
    cases eg
    refine ⟨_, rfl, ⟨by omega, by omega⟩, _, c4, _, rfl, ⟨by omega, by omega⟩, _, c3, _, rfl, ⟨by omega, by omega⟩, t3, fun w48 e48 => ?_⟩
    obtain ⟨own48, o48⟩ := own_put own41 (j := i) (by omega) e48
    obtain ⟨_, eg, c5, t5⟩ := own_get own48 (j := j) (by rw [List.length_set]; omega)
    cases eg
    refine ⟨_, rfl, ⟨by omega, by omega⟩, t5, fun w51 e51 => ?_⟩
    obtain ⟨own51, o51⟩ := own_put own48 (j := j) (by rw [List.length_set]; omega) e51
    have pz := (swap_perm (xs := ys) (i := i) (j := j) (by omega) (by omega)).trans hp
    generalize (ys.set i ys[j]).set j ys[i] = zs at own51 pz
    rw [pz.length_eq] at own51
    exact ⟨_, by omega, j, zs, rfl, by omega, rfl, pz, own51, (o41.trans' o48).trans' o51⟩
  intro w54 e54
  have own54 := own22.grow (only_drew (S := none') e54)
  have o54 : Only (fun b => b = g) w w54 := o22.trans' (only_drew e54)
  refine ⟨fun h2lt => ?_, fun _ => step (2 * i + 1) w54 (by omega) hlt own54 o54⟩
  have h2lt : 2 * i + 2 < rest.length := by have := dT h2lt; omega
  have own54' := own54
  rw [← hyl] at own54'
  obtain ⟨_, eg, c1, t1⟩ := own_get own54' (j := 2 * i + 2) (by omega)
  cases eg
  obtain ⟨_, eg, c2, t2⟩ := own_get own54' (j := 2 * i + 1) (by omega)
  cases eg
  exact ⟨_, rfl, ⟨by omega, by omega⟩, _, c1, _, rfl, ⟨by omega, by omega⟩, _, c2, fun _ => step (2 * i + 2) w54 (by omega) h2lt own54 o54, fun _ => step (2 * i + 1) w54 (by omega) hlt own54 o54⟩
end Go.Proofs.Ytcaokpglbolkcaa
