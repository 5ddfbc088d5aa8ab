/- The contract of taken. -/
import Derived.Test.YtbaacpfjecbbgaaKe
namespace Go.Proofs.Ytbaacpfjecbbgaa
open Go Go.Nf

def slV (c : Option Addr × Nat × Nat) : Value := .slice c.1 c.2.1 c.2.2
/-- the ways that have been taken, in the box bo -/
def OutAt (w : World) (T bo : Nat) (rows : List (List Int)) (M : Nat → Prop) : Prop :=
  ∃ oo oc, ∃ cs : List (Option Addr × Nat × Nat), Row w bo 91 [.slice oo rows.length oc] ∧ Own w T 48 1 oo rows.length oc (cs.map slV) ∧ cs.length = rows.length ∧
    (∀ (i : Nat) r, rows[i]? = some r → ∃ oi ci B, cs[i]? = some (oi, r.length, ci) ∧ Own w B 3 1 oi r.length ci (intsV r) ∧ ∀ b, inBlock oi b → ¬ M b) ∧ ¬ M bo ∧ T ≤ bo ∧ ∀ b, inBlock oo b → ¬ M b
theorem OutAt.keep {S : Nat → Prop} {w w' : World} {T bo : Nat} {rows : List (List Int)} {M M' : Nat → Prop} (h : OutAt w T bo rows M) (g : Only S w w') (hS : ∀ b, S b → M b) (hM' : ∀ b, M' b → M b ∨ hs w ≤ b) : OutAt w' T bo rows M' := by
  obtain ⟨oo, oc, cs, h1, h2, h3, h4, h5, h6, h7⟩ := h
  have key : ∀ b, b < hs w → ¬ M b → ¬ M' b := fun b hb hn h => by
    rcases hM' b h with h | h
    · exact hn h
    · omega
  refine ⟨oo, oc, cs, h1.keep g fun h => h5 (hS _ h), h2.keep g fun b hb h => h7 b hb (hS _ h), h3, fun i r hi => ?_, key _ h1.lt h5, h6, fun b hb => key b (h2.base b hb).2 (h7 b hb)⟩
  obtain ⟨oi, ci, B, k1, k2, k3⟩ := h4 i r hi
  exact ⟨oi, ci, B, k1, k2.keep g fun b hb h => k3 b hb (hS _ h), fun b hb => key b (k2.base b hb).2 (k3 b hb)⟩
/-- a row of ways, or of numbers -/
def WayRow (w : World) (b : Nat) : Prop := ∃ l, Row w b 48 l ∨ Row w b 3 l
theorem own_nums_row {w : World} {B : Nat} {o : Option Addr} {n c : Nat} {xs : List Int} (h : Own w B 3 1 o n c (intsV xs)) : Nums w (WayRow w) o xs := fun j v hj => by
  obtain ⟨a, ha, -, hc⟩ := h.nums j v hj
  obtain ⟨l, hl⟩ := h.row ⟨a, ha, rfl⟩
  exact ⟨a, ha, ⟨l, .inr hl⟩, hc⟩
theorem OutAt.mat {w : World} {T bo : Nat} {rows : List (List Int)} {M : Nat → Prop} (h : OutAt w T bo rows M) : ∃ oo oc, Row w bo 91 [.slice oo rows.length oc] ∧ Mat w (WayRow w) oo rows := by
  obtain ⟨oo, oc, cs, h1, h2, h3, h4, -, -, -⟩ := h
  refine ⟨oo, oc, h1, fun i r hi => ?_⟩
  obtain ⟨oi, ci, B, k1, k2, -⟩ := h4 i r hi
  have hil : i < rows.length := by
    rcases Nat.lt_or_ge i rows.length with h | h
    · exact h
    · rw [List.getElem?_eq_none h] at hi; cases hi
  obtain ⟨g, l, rfl, hr, ht, _⟩ := h2.head (by omega)
  refine ⟨_, oi, ci, rfl, ⟨_, .inl hr⟩, h2.cell ?_, own_nums_row k2⟩
  rw [toNat_cast, Nat.mul_one, List.getElem?_map, k1]
  rfl
theorem noCells_own {w : World} {B T size : Nat} {o : Option Addr} {n c : Nat} {xs : List Value} (h : Own w B T size o n c xs) {k : Nat} {ob : Obj} (hk : w.heap[k]? = some ob) (hn : noCells ob = true) : ¬ inBlock o k := fun hb => by
  obtain ⟨l, hl⟩ := h.row hb
  rw [hl] at hk
  cases hk
  cases hn
theorem inBlock_ne {id id' : Nat} {Q : Exit → Act → World → Prop} {a : Act} {w : World} (h : id' ≠ id) (hq : Q (.exit id') a w) : Exit.inBlock id Q (.exit id') a w := by
  simpa [Exit.inBlock, h] using hq
theorem inBlock_eq {id : Nat} {Q : Exit → Act → World → Prop} {a : Act} {w : World} (hq : Q .normal a w) : Exit.inBlock id Q (.exit id) a w := by
  simpa [Exit.inBlock] using hq
/-- what an append leaves lies where the slice lay, or in a new block -/
theorem way_where {w w1 : World} {B : Nat} {o ov : Option Addr} {n c nv cv : Nat} {xs : List Value} {K : Value → World → Prop} (h : Own w B 48 1 o n c xs) (e : w1 = w.alloc (.cells #[.slice ov nv cv] 48 (0, 0))) (hn : n ≤ 1000000) (hB : B ≤ hs w)
    (hK : ∀ o' c' w', Own w' B 48 1 o' (n + 1) c' (xs ++ [.slice ov nv cv]) → Only (inBlock o) w w' → (∀ b, inBlock o' b → inBlock o b ∨ hs w ≤ b) → K (.slice o' (n + 1) c') w') :
    RunOk Try.prog (Hold (Builtin.append_ #[91, 91] 91 #[.slice o n c, .slice (some ⟨hs w, 0, none⟩) 1 1])) w1 K := by
  have hr : Row w1 (hs w) 48 [.slice ov nv cv] := Row.new e
  have hs1 : w1.heap.size = hs w + 1 := hs_alloc e
  have g1 : Grow w w1 := only_alloc e
  have own1 := h.grow g1
  have s1 := g1.size
  obtain ⟨v, w', hrun, o', c', rfl, h1, h2⟩ := run_append_row (K := fun v w' => ∃ o' c', v = .slice o' (n + 1) c' ∧ Own w' B 48 1 o' (n + 1) c' (xs ++ [.slice ov nv cv]) ∧ Only (inBlock o) w1 w') (ty := 91) (m := 1) (cx := 1) elem91 own1 hr rfl (by simp [Value.oneCell']) (by simp [maxLen]; omega) (by omega) (by omega) fun o' c' w' p1 p2 _ => ⟨o', c', rfl, p1, p2⟩
  refine ⟨_, _, hrun, hK o' c' w' h1 (g1.only.trans' h2) ?_⟩
  obtain ⟨i, z, ht, hi, hz, hsize, hby, hzs, hsz⟩ := elem91.ex
  have hnews : ∀ j u, [Value.slice ov nv cv][j]? = some u → w1.cell? ((⟨hs w, 0, none⟩ : Addr).add j) = some u := fun j u hu => hr.cellAdd hu
  have fresh : ∀ c'' w'', (Hold (Builtin.append_ #[91, 91] 91 #[.slice o n c, .slice (some ⟨hs w, 0, none⟩) 1 1])).run Try.prog w1 = .ok (.slice (some ⟨w1.heap.size, 0, none⟩) (n + 1) c'') w'' → ∀ b, inBlock o' b → inBlock o b ∨ hs w ≤ b := fun c'' w'' hr' b hb => by
    rw [hrun] at hr'
    injection hr' with e1 e2
    simp only [Value.slice.injEq] at e1
    obtain ⟨a, ha, rfl⟩ := hb
    rw [e1.1] at ha
    cases ha
    exact .inr (by show hs w ≤ w1.heap.size; omega)
  rcases own1.2 with ⟨e1, e2⟩ | ⟨g, cap, cur, e1, hb, hg, hnc, hcm, hcs, ht'⟩
  · simp only [Value.slice.injEq] at e1
    obtain ⟨rfl, -, rfl⟩ := e1
    subst e2
    refine fresh _ _ (by rw [Nat.zero_add]; exact run_append_nil (P := Try.prog) w1 91 91 48 i z ht hi hz ⟨hs w, 0, none⟩ 1 1 _ (by rw [hsize]; rfl) hnews (by omega) (by omega) (by rw [hby]; omega))
  · simp only [Value.slice.injEq] at e1
    obtain ⟨rfl, -, rfl⟩ := e1
    by_cases hroom : n + 1 ≤ c
    · have run := run_append_room (P := Try.prog) w1 91 91 48 i ht hi g n c cur hg ⟨hs w, 0, none⟩ 1 1 _ (by rw [hsize]; rfl) hnews (by simp [Value.oneCell']) hroom (by rw [hsize]; simp; omega)
      have hrun' : (Builtin.append_ #[91, 91] 91 #[.slice (some ⟨g, 0, none⟩) n c, .slice (some ⟨hs w, 0, none⟩) 1 1]).run Try.prog w1 = .ok (.slice o' (n + 1) c') w' := hrun
      rw [hrun'] at run
      injection run with e1 e2
      simp only [Value.slice.injEq] at e1
      rw [e1.1]
      exact fun b hb => .inl hb
    · have holds : ∀ j u, xs[j]? = some u → w1.cell? ((⟨g, 0, none⟩ : Addr).add j) = some u := fun j u hu => own1.cell hu
      exact fresh _ _ (run_append_grow (P := Try.prog) w1 91 91 48 i z ht hi hz ⟨g, 0, none⟩ n c xs (by rw [hsize]; exact own1.1) holds ⟨hs w, 0, none⟩ 1 1 _ (by rw [hsize]; rfl) hnews (by omega) (by omega) (by rw [hby]; exact growslice_fits (by omega) (by omega)))
theorem valW_more : ∀ x v M W k o, ValW x v M W → W.heap[k]? = some o → noCells o = true → ValW x v (fun b => M b ∨ b = k) W := by
  rintro x v M W k ob ⟨o, c, B, rfl, own, out⟩ hk hn
  exact ⟨o, c, B, rfl, own, fun b hb hm => hm.elim (out b hb) fun e => noCells_own own hk hn (e ▸ hb)⟩
theorem valW_put : ∀ x v M W k o o', ValW x v M W → W.heap[k]? = some o → noCells o = true → ValW x v M (W.putObj k o') := by
  rintro x v M W k ob ob' ⟨o, c, B, rfl, own, out⟩ hk hn
  exact ⟨o, c, B, rfl, own.keep only_putObj fun b hb e => noCells_own own hk hn (e ▸ hb), out⟩
/-- one more way -/
theorem OutAt.step {W W1 : World} {T bo : Nat} {pre : List (List Int)} {x : List Int} {v : Value} {M : Nat → Prop} {K : Value → World → Prop} (hO : OutAt W T bo pre M) {oo : Option Addr} {oc : Nat} (hr : Row W bo 91 [.slice oo pre.length oc]) (hV : ValW x v M W) (hM : ∀ b, M b → b < hs W) (hT : T ≤ hs W) (hl : pre.length ≤ 1000000) {ov : Option Addr} {nv cv : Nat} (hv : v = .slice ov nv cv)
    (e : W1 = W.alloc (.cells #[.slice ov nv cv] 48 (0, 0)))
    (hK : ∀ o' c' w', There w' ⟨bo, 0, none⟩ 1 → (∀ w3, w3 = setCells w' ⟨bo, 0, none⟩ [.slice o' (pre.length + 1) c'] 0 → OutAt w3 T bo (pre ++ [x]) M ∧ Only (fun b => T ≤ b ∧ ¬ M b) W w3 ∧ (∀ b l, Row W b 3 l → Row w3 b 3 l)) → K (.slice o' (pre.length + 1) c') w') :
    RunOk Try.prog (Hold (Builtin.append_ #[91, 91] 91 #[.slice oo pre.length oc, .slice (some ⟨hs W, 0, none⟩) 1 1])) W1 K := by
  obtain ⟨oo', oc', cs, h1, h2, h3, h4, h5, h6, h7⟩ := hO
  have hre := hr.inj h1
  simp only [List.cons.injEq, Value.slice.injEq, and_true, true_and] at hre
  obtain ⟨rfl, rfl⟩ := hre
  refine way_where h2 e hl hT fun o' c' w' p1 p2 p3 => hK o' c' w' ((h1.keep p2 (h2.apartR h1 (by decide))).there (by simp)) fun w3 e3 => ?_
  have r1 := h1.keep p2 (h2.apartR h1 (by decide))
  have g3 : Only (fun b => b = bo) w' w3 := only_set e3
  have r3 : Row w3 bo 91 [.slice o' (pre.length + 1) c'] := r1.set e3
  obtain ⟨xo, xc, XB, hx, xown, xout⟩ := hV
  rw [hv] at hx
  simp only [Value.slice.injEq] at hx
  obtain ⟨rfl, rfl, rfl⟩ := hx
  have hout : ∀ b, inBlock o' b → ¬ M b := fun b hb hm => by
    rcases p3 b hb with h | h
    · exact h7 b h hm
    · have := hM b hm; omega
  have hin : ∀ {oi : Option Addr} {ci B n : Nat} {l : List Value}, Own W B 3 1 oi n ci l → Own w3 B 3 1 oi n ci l := fun {oi ci B n l} ho => by
    refine (ho.keep p2 fun b hb hb2 => ?_).keep g3 fun b hb e => ?_
    · obtain ⟨l1, k1⟩ := ho.row hb
      obtain ⟨l2, k2⟩ := h2.row hb2
      exact Row.ne k1 k2 (by decide) rfl
    · obtain ⟨l1, k1⟩ := ho.row hb
      exact Row.ne k1 h1 (by decide) e
  refine ⟨⟨o', c', cs ++ [(ov, x.length, cv)], by simpa using r3, by simpa [slV] using p1.keep g3 fun b hb e => p1.apartR r1 (by decide) (e ▸ hb), by simp [h3], fun i r hi => ?_, h5, h6, hout⟩, (p2.mono fun b _ hb => ⟨(h2.base b hb).1, h7 b hb⟩).trans' (g3.mono fun b _ e => by rw [e]; exact ⟨h6, h5⟩), fun b l hb => (hb.keep p2 (h2.apartR hb (by decide))).keep g3 (Row.ne hb h1 (by decide))⟩
  rcases Nat.lt_or_ge i pre.length with hl | hl
  · rw [List.getElem?_append_left hl] at hi
    obtain ⟨oi, ci, B, k1, k2, k3⟩ := h4 i r hi
    exact ⟨oi, ci, B, by rw [List.getElem?_append_left (by omega)]; exact k1, hin k2, k3⟩
  · rw [List.getElem?_append_right hl] at hi
    obtain rfl : i = pre.length := by
      rcases Nat.lt_or_ge i (pre.length + 1) with h | h
      · omega
      · rw [List.getElem?_eq_none (by simp; omega)] at hi; cases hi
    rw [Nat.sub_self] at hi
    simp at hi
    subst hi
    exact ⟨ov, cv, XB, by rw [List.getElem?_append_right (by omega), h3, Nat.sub_self]; rfl, hin xown, xout⟩
set_option maxHeartbeats 4000000 in
set_option maxRecDepth 100000 in
theorem taken_c (o : Option Addr) (c : Nat) (p : Prot) (most : Nat) (h1m : 1 ≤ most) (h1000 : most ≤ 1000) (hf : p.qs.length ≤ 9223372036854775807) (w : World) {A : Nat → Prop} (h : Qs w A o p.qs) :
    Calls Try.prog 60 #[.agg #[.string p.name, .int .i64 p.version, .slice o p.qs.length c], .int .i64 most] w fun e w' => ∃ x y o' c', Ending' p x y ∧ e = .returned (.slice o' ((waysB p y).take most).length c') ∧ Mat w' (WayRow w') o' ((waysB p y).take most) ∧ Grow w w' := by
  refine (callsIn_wide (n := 0)).1 (callsIn_of_wp_marks (F := Fence.wide) Try.func60 body60 trivial ?_)
  have F0 : Fits 27 [] _ _ := fits_args (args := #[.agg #[.string p.name, .int .i64 p.version, .slice o p.qs.length c], .int .i64 most]) (n := 27) (by simp)
  refine wpIn_seq (wpIn_reg0 (r := none) (ms := []) F0 (d60 0 (by omega)) (q0 fun w1 e1 w2 e2 ρ h2 h3 a1 F1 => ?_))
  have r1 := Row.new e1
  have g1 : Grow w w1 := only_alloc e1
  have r2 : Row w2 (hs w1) 3 [.int .i64 most] := Row.new e2
  have g2 : Grow w1 w2 := only_alloc e2
  refine wpIn_seq (wpIn_reg0 (r := none) (ms := []) F1 (d60 1 (by omega)) (q1 fun w3 e3 ρ3 k2 k3 k5 a3 F3 => ?_))
  have r3 : Row w3 (hs w2) 91 [.slice none 0 0] := Row.new e3
  have g3 : Grow w2 w3 := only_alloc e3
  have r13 := (r1.grow g2).grow g3
  have G3 := (g1.trans' g2).trans' g3
  rw [h2] at k2
  rw [h3] at k3
  refine wpIn_seq (wpIn_reg0 (r := none) (ms := []) F3 (d60 2 (by omega)) (q2 k2 ⟨_, r13.cell rfl, _, r13.cell rfl, _, _, _, r13.cell rfl, (paths_c o c p hf w3 (h.grow G3)).mono ?_⟩))
  rintro _ w4 ⟨x, y, cn, M0, rfl, hE, hM0, hG, g4⟩
  refine ⟨_, _, _, rfl, fun ρ4 m3 m5 m6 a4 F4 => ?_⟩
  rw [k3] at m3
  rw [k5] at m5
  have r24 := (r2.grow g3).grow g4
  have r34 := r3.grow g4
  have G4 := G3.trans' g4
  have s1 := g1.size
  have s2 := r2.lt
  have s23 := g2.size
  have s3 := r3.lt
  have s4 := g4.size
  refine wpIn_seq (wpIn_seq (wpIn_reg0 (r := none) (ms := []) F4 (d60 3 (by omega)) (q3 m3 m6 ⟨_, r24.cell rfl, fun ρ5 n3 n5 n6 n15 a5 F5 => ?_⟩)))
  rw [m3] at n3
  rw [m5] at n5
  rw [m6] at n6
  have hb15 : a5.eval (.tmp 15) = .bool false := by
    rw [F5.eval]
    show ρ5 15 = _
    rw [n15, decide_eq_false (by omega)]
  refine wpIn_cond hb15 (wpIn_skip ?_)
  show Code.wpIn Fence.wide 0 Try.prog _ _ a5 w4
  -- what is done behind the loop
  have fin : ∀ (D : Nat) (rows : List (List Int)) (M : Nat → Prop) (W : World) (a' : Act) (ρ' : Env), Fits 27 [{ target := .collected D, args := #[] }] a' ρ' → ρ' 5 = .pointer (some ⟨hs w2, 0, none⟩) → W.heap[D]? = some (.deferred (some [])) → hs w ≤ D → M D → Grow w W → OutAt W (hs w) (hs w2) rows M → rows = (waysB p y).take most →
      Code.wpIn Fence.wide 0 Try.prog (.seq (regAt Try.f60.body 9) .ret) (bodyPostM Fence.wide 0 Try.prog Try.f60 fun e w' => ∃ x y o' c', Ending' p x y ∧ e = .returned (.slice o' ((waysB p y).take most).length c') ∧ Mat w' (WayRow w') o' ((waysB p y).take most) ∧ Grow w w') a' W := by
    intro D rows M W a' ρ' hF h5 hD hDw hMD gW hO hrows
    have gP : Only (fun b => b = D) W (W.putObj D (.deferred none)) := only_putObj
    have hO2 := hO.keep (M' := M) gP (fun b e => by rw [e]; exact hMD) fun b hb => .inl hb
    obtain ⟨oo, oc, cs, hr, h2', h3', h4', h5', h6', h7'⟩ := hO
    obtain ⟨oo', oc', hr', hm'⟩ := hO2.mat
    have hre := (hr.keep gP fun e => h5' (by rw [e]; exact hMD)).inj hr'
    simp only [List.cons.injEq, Value.slice.injEq, and_true, true_and] at hre
    obtain ⟨rfl, rfl⟩ := hre
    refine wpIn_seq (wpIn_reg0 (r := none) (ms := []) hF (d60 9 (by omega)) (q9 h5 ⟨_, _, _, hr.cell rfl, fun ρ6 h4 a6 F6 => wpIn_ret ?_⟩))
    show LeavesInM Fence.wide 0 Try.prog Try.f60 a6.tmps _ a6.defers .returning W
    rw [F6.defers]
    refine ⟨by simp, .inl ⟨D, _, rfl, run_takeDeferred hD, ?_⟩⟩
    obtain ⟨v, hv1, hv2⟩ := results_of (P := Try.prog) (fn := Try.f60) (tmps := a6.tmps) (w := W.putObj D (.deferred none)) (K := fun v => v = .slice oo rows.length oc) (by
      have e : ∀ (ρ : Env) (w : World) (K : Value → Prop), K (ρ 4) = vcRes Try.prog Try.f60.results.toList [] ρ w K := fun ρ w K => by kernel_rfl
      rw [← e]
      have := F6.env
      rw [← h4, ← this]
      rfl)
    subst hv2
    refine ⟨_, hv1, x, y, oo, oc, hE, by rw [hrows], ?_, gW.trans gP fun b hb e => by omega⟩
    rw [← hrows]
    exact hm'
  -- the loop
  have hM0' : ∀ b, M0 b → hs w ≤ b ∧ b < hs w4 := fun b hb => by have := hM0 b hb; omega
  refine wpIn_seq (wpIn_seq (wpIn_reg0 (r := none) (ms := []) F5 (d60 5 (by omega)) (q5 fun ρ6 o3 o5 o16 a6 F6 => wpIn_block ((wpIn_wide (n := 0)).2 ?_))))
  rw [n3] at o3
  rw [n5] at o5
  rw [n6] at o16
  have Ff : ∀ D, Fits 27 [{ target := .collected D, args := #[] }] { a6 with defers := { target := .collected D, args := #[] } :: a6.defers } ρ6 := fun D => ⟨F6.env, F6.size, by rw [F6.defers]⟩
  refine wp_rangeFunc (g := .tmp 16) (p := 17) (gf := 123) (all := waysB p y) (Val := ValW) (M0 := M0) (by rw [F6.eval]; exact o16) (by kernel_rfl) (hG w4 (Only.refl _ _)) valW_more valW_put
    (fun pre M W => pre.length < most ∧ (∀ b, M b → hs w ≤ b ∧ b < hs W) ∧ Grow w W ∧ OutAt W (hs w) (hs w2) pre M ∧ Row W (hs w1) 3 [.int .i64 most] ∧ ¬ M (hs w1))
    (fun c pre M W => c = .exit 0 ∧ pre.length = most ∧ (∀ b, M b → hs w ≤ b ∧ b < hs W) ∧ Grow w W ∧ OutAt W (hs w) (hs w2) pre M) ?_ ?_ ⟨by simp; omega, hM0', G4, ?_, r24, fun h => ?_⟩ (fun b hb => (hM0' b hb).2)
    (fun v a' => ∃ ρ' : Env, Fits 27 [] a' ρ' ∧ ρ' 3 = .pointer (some ⟨hs w1, 0, none⟩) ∧ ρ' 5 = .pointer (some ⟨hs w2, 0, none⟩) ∧ ρ' 7 = v) ?_ ?_ ?_ ?_
  · rintro pre M M' W W' ⟨j1, j2, j3, j4, j5, j6⟩ g hM'
    have := g.size
    have l5 := j5.lt
    refine ⟨j1, fun b hb => ?_, j3.trans g fun b hb hm => ?_, j4.keep g (fun _ h => h) fun b hb => (hM' b hb).imp id And.left, j5.keep g j6, fun h => ?_⟩
    · rcases hM' b hb with h | h
      · have := j2 b h; omega
      · have := j3.size; omega
    · have := (j2 b hm).1; omega
    · rcases hM' _ h with h | h
      · exact j6 h
      · omega
  · rintro c pre M W W' ⟨j0, j1, j2, j3, j4⟩ g
    have := g.size
    exact ⟨j0, j1, fun b hb => by have := j2 b hb; omega, j3.trans g fun b hb hm => by have := (j2 b hm).1; omega, j4.keep g (fun _ h => h) fun b hb => .inl hb⟩
  · exact ⟨none, 0, [], r34, own_nil _ _ _ _, rfl, fun i r hi => by simp at hi, fun h => by have := hM0 _ h; omega, by omega, fun b ⟨a, ha, _⟩ => by cases ha⟩
  · have := hM0 _ h; omega
  · intro l v W K hK
    have Fp : Fits 27 [] { tmps := a6.tmps.setIfInBounds 17 v, defers := [] } (ρ6.put (some 17) v) := by
      have F6' : Fits 27 [] { a6 with defers := [] } ρ6 := ⟨F6.env, F6.size, rfl⟩
      exact F6'.put (dst := some 17) rfl v
    refine wpIn_reg0 (r := some l) (ms := []) Fp (d60 6 (by omega)) (q6 fun ρ7 t3 t5 t7 a7 F7 => hK a7 ⟨ρ7, F7, t3.trans o3, t5.trans o5, t7⟩)
  · rintro l pre x0 v M W a' ⟨ρ', F', t3, t5, t7⟩ ⟨j1, j2, j3, j4, j5, j6⟩ hv
    obtain ⟨ov, cv, XB, rfl, xo1, xo2⟩ := hv
    refine wpIn_block (wpIn_seq (wpIn_reg0 (r := some l) (ms := [(3, 1, false)]) F' (d60 7 (by omega)) (q7 t5 t7 ?_)))
    obtain ⟨oo, oc, hr, -⟩ := j4.mat
    refine ⟨oo, _, oc, hr.cell rfl, fun W1 e1 => j4.step hr ⟨ov, cv, XB, rfl, xo1, xo2⟩ (fun b hb => (j2 b hb).2) j3.size (by omega) rfl e1 fun o' c' w5 hth hK => ?_⟩
    refine ⟨_, _, _, rfl, hth, fun w6 e6 ρ8 s3 s5 a8 F8 => ?_⟩
    obtain ⟨hO6, g6, k6⟩ := hK w6 e6
    rw [t3] at s3
    rw [t5] at s5
    obtain ⟨oo6, oc6, hr6, -⟩ := hO6.mat
    have r66 := k6 _ _ j5
    have sz := g6.size
    have hJ6 : Grow w w6 := j3.trans g6 fun b hb hm => by omega
    refine wpIn_seq (wpIn_reg0 (r := some l) (ms := []) F8 (d60 8 (by omega)) (q8 s3 s5 ⟨_, _, _, hr6.cell rfl, _, r66.cell rfl, fun ρ9 u25 a9 F9 => ?_⟩))
    have hlen : (pre ++ [x0]).length = pre.length + 1 := by simp
    have hb25 : a9.eval (.tmp 25) = .bool (decide (((pre ++ [x0]).length : Int) ≥ (most : Int))) := by
      rw [F9.eval]
      exact u25
    have hOnly : Only (fun b => ¬ M b) W w6 := g6.mono fun b _ h => h.2
    have hMM : ∀ b, M b → hs w ≤ b ∧ b < hs w6 := fun b hb => by have := j2 b hb; omega
    by_cases hge : most ≤ pre.length + 1
    · rw [hlen, decide_eq_true (by omega)] at hb25
      refine wpIn_cond_true hb25 (wpIn_exit (inBlock_ne (by decide) ?_))
      exact ⟨hOnly, rfl, by omega, hMM, hJ6, hO6⟩
    · rw [hlen, decide_eq_false (by omega)] at hb25
      refine wpIn_cond_false hb25 (wpIn_skip ?_)
      exact ⟨hOnly, by omega, hMM, hJ6, hO6, r66, j6⟩
  · rintro D M W hD hMD ⟨j1, j2, j3, j4, -, -⟩ hdef
    exact fin D _ M W _ ρ6 (Ff D) o5 hdef (by have := G4.size; omega) hMD j3 j4 (List.take_of_length_le (by omega)).symm
  · rintro D c m M W hD hMD hm ⟨rfl, j1, j2, j3, j4⟩ hdef
    refine wpIn_exit (inBlock_eq ?_)
    exact fin D m M W _ ρ6 (Ff D) o5 hdef (by have := G4.size; omega) hMD j3 j4 (by rw [← j1]; exact List.prefix_iff_eq_take.1 hm)
end Go.Proofs.Ytbaacpfjecbbgaa
