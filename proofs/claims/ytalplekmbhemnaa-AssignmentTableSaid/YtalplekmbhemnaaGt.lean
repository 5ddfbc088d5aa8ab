/- Contracts of the reference: ahead, better, all, Best. -/
import Derived.Test.YtalplekmbhemnaaPj
import Derived.Test.YtalplekmbhemnaaNfU
namespace Go.Proofs.Ytalplekmbhemnaa
open Go Go.Nf

theorem gm_getE {m : List Int} {i : Nat} (h : i < m.length) : gm m i = m[i] := by unfold gm; rw [List.getElem?_eq_getElem h]; rfl
theorem Nums.gm {w : World} {A : Nat → Prop} {o : Option Addr} {xs : List Int} (h : Nums w A o xs) {j : Nat} (hj : j < xs.length) : ∃ a, o = some a ∧ w.cell? (a.add ((j : Int).toNat * 1)) = some (.int .i64 (gm xs j)) := by
  rw [gm_getE hj]; exact h.get hj
theorem ahead_c (oa ob : Option Addr) (ca cb : Nat) (xs ys : List Int) (w : World) {A B : Nat → Prop} (ha : Nums w A oa xs) (hb : Nums w B ob ys) (hl : xs.length = ys.length) (hs : xs.length ≤ 1000) :
    Calls Try.prog 29 #[.slice oa xs.length ca, .slice ob ys.length cb] w fun e w' => ∃ b, e = .returned (.bool b) ∧ (b = true ↔ Ahead xs ys) ∧ Grow w w' := by
  refine nf29 oa xs.length ca ob ys.length cb w _ ⟨fun n x w' => ∃ i : Nat, x = (i : Int) ∧ i ≤ xs.length ∧ n = xs.length - i ∧ (∀ k, k < i → gm xs k = gm ys k) ∧ Grow w w', ⟨_, 0, rfl, Nat.zero_le _, rfl, fun k hk => by omega, Only.refl _ _⟩, ?_⟩
  rintro n _ w1 x ⟨i, rfl, hi, rfl, hI, g1⟩
  refine ⟨fun hlt w2 e2 => ?_, fun hge => ⟨false, rfl, ⟨fun h => Bool.noConfusion h, fun ⟨a, h1, h2, h3, _⟩ => ?_⟩, g1⟩⟩
  · have hlt : i < xs.length := by have := dT hlt; omega
    have g2 : Grow w w2 := g1.trans' (only_drew e2)
    obtain ⟨a, e1, c1⟩ := Nums.gm (ha.grow g2) hlt
    obtain ⟨b, e3, c2⟩ := Nums.gm (hb.grow g2) (j := i) (by omega)
    refine ⟨a, e1, ⟨by omega, by omega⟩, _, c1, b, e3, ⟨by omega, by omega⟩, _, c2, fun hne w3 e4 => ?_, fun heq => ⟨_, by omega, i + 1, by rw [wr (by omega)]; omega, hlt, rfl, fun k hk => ?_, g2⟩⟩
    · have hne := nT hne
      have g3 : Grow w w3 := g2.trans' (only_drew e4)
      obtain ⟨a, e1, c1⟩ := Nums.gm (ha.grow g3) hlt
      obtain ⟨b, e3, c2⟩ := Nums.gm (hb.grow g3) (j := i) (by omega)
      have key : ∀ z : Bool, (z = true ↔ gm xs i ≠ -1 ∧ (gm ys i = -1 ∨ gm xs i < gm ys i)) → ∃ b, Ending.returned (.bool z) = .returned (.bool b) ∧ (b = true ↔ Ahead xs ys) ∧ Grow w w3 := fun z hz => ⟨z, rfl, by
        rw [hz]
        constructor
        · rintro ⟨h1, h2⟩; exact ⟨i, hlt, hI, hne, h1, h2⟩
        · rintro ⟨a, h1, h2, h3, h4, h5⟩
          obtain rfl : a = i := by
            rcases Nat.lt_trichotomy a i with h | h | h
            · exact absurd (hI a h) h3
            · exact h
            · exact absurd (h2 i h) hne
          exact ⟨h4, h5⟩, g3⟩
      refine ⟨a, e1, ⟨by omega, by omega⟩, _, c1, fun h1 => ⟨b, e3, ⟨by omega, by omega⟩, _, c2, fun h2 => key true ⟨fun _ => ⟨nT h1, .inl (dT h2)⟩, fun _ => rfl⟩, fun h2 => ⟨a, e1, ⟨by omega, by omega⟩, _, c1, b, e3, ⟨by omega, by omega⟩, _, c2, fun h3 => key true ⟨fun _ => ⟨nT h1, .inr (dT h3)⟩, fun _ => rfl⟩, fun h3 => key false ⟨fun h => (by cases h), fun h => ?_⟩⟩⟩, fun h1 => key false ⟨fun h => (by cases h), fun h => absurd (nF h1) h.1⟩⟩
      have := dF h2
      have := dF h3
      omega
    · by_cases e : k = i
      · subst e; exact nF heq
      · exact hI k (by omega)
  · have := dF hge
    exact absurd (hI a (by omega)) h3
theorem better_c (o : Option Addr) (c : Nat) (rows : List (List Int)) (oa ob : Option Addr) (ca cb : Nat) (xs ys : List Int) (w : World) {A0 A B : Nat → Prop} (h : Mat w A0 o rows) (he : errOf rows = 0) (ha : Nums w A oa xs) (hb : Nums w B ob ys) (vx : Valid rows (first rows) xs) (vy : Valid rows (first rows) ys) :
    Calls Try.prog 25 #[.slice o rows.length c, .slice oa rows.length ca, .slice ob rows.length cb] w fun e w' => ∃ b, e = .returned (.bool b) ∧ (b = true ↔ betterB rows xs ys) ∧ Grow w w' := by
  have lx := vx.len
  have ly := vy.len
  obtain ⟨x1, x2, x3⟩ := vx.costs he
  obtain ⟨y1, y2, y3⟩ := vy.costs he
  have hR := (err0 he).1
  have cx := cost_c o oa c ca rows xs w h ha
  rw [x1, x2, x3, lx] at cx
  have cy := cost_c o ob c cb rows ys w h hb
  rw [y1, y2, y3, ly] at cy
  refine nf25 o rows.length c oa rows.length ca ob rows.length cb w _ (cx.mono ?_)
  rintro _ _ ⟨rfl, rfl⟩
  refine ⟨_, _, _, rfl, cy.mono ?_⟩
  rintro _ _ ⟨rfl, rfl⟩
  have key : ∀ (z : Bool) (w' : World), (z = true ↔ betterB rows xs ys) → Grow w w' → ∃ b, Ending.returned (.bool z) = .returned (.bool b) ∧ (b = true ↔ betterB rows xs ys) ∧ Grow w w' := fun z _ hz g => ⟨z, rfl, hz, g⟩
  have no : ∀ {p : Prop}, ¬ p → (false = true ↔ p) := fun hp => ⟨fun h => (by cases h), fun h => absurd h hp⟩
  refine ⟨_, _, _, rfl, fun h1 => ⟨fun h2 => key true w ⟨fun _ => .inl (dT h2), fun _ => rfl⟩ (Only.refl _ _), fun h2 => key false w (no ?_) (Only.refl _ _)⟩, fun h1 => ⟨fun h2 => ⟨fun h3 => key true w ⟨fun _ => .inr ⟨(nF h1).symm, .inl (dT h3)⟩, fun _ => rfl⟩ (Only.refl _ _), fun h3 => key false w (no ?_) (Only.refl _ _)⟩, fun h2 => ?_⟩⟩
  · have := nT h1; have := dF h2; unfold betterB; rintro (h | ⟨h, _⟩) <;> omega
  · have := nF h1; have := nT h2; have := dF h3; unfold betterB; rintro (h | ⟨h, h' | ⟨h', _⟩⟩) <;> omega
  · have ac := ahead_c oa ob ca cb xs ys w ha hb (by omega) (by omega)
    rw [lx, ly] at ac
    refine ac.mono ?_
    rintro _ w1 ⟨b, rfl, hb, g⟩
    have h1 := nF h1
    have h2 := nF h2
    have hiff : b = true ↔ betterB rows xs ys := by
      rw [hb]; unfold betterB
      exact ⟨fun h => .inr ⟨h1.symm, .inr ⟨h2, h⟩⟩, fun h => by rcases h with h | ⟨_, h | ⟨_, h⟩⟩ <;> first | omega | exact h⟩
    refine ⟨b, rfl, fun hb' => ?_, fun hb' => ?_⟩
    · subst hb'; exact ⟨true, rfl, hiff, g⟩
    · subst hb'; exact ⟨false, rfl, hiff, g⟩
theorem own_nilrow {w w1 : World} {T B : Nat} (e : w1 = w.alloc (.cells #[] T (0, 0))) (hB : B ≤ hs w) : Own w1 B T 1 (some ⟨hs w, 0, none⟩) 0 0 (intsV []) :=
  Row.own (l := []) (Row.new e) hB rfl (Nat.zero_le _)

set_option maxRecDepth 10000 in
set_option maxHeartbeats 4000000 in
theorem all_c (o : Option Addr) (c : Nat) (rows : List (List Int)) (he : errOf rows = 0) : ∀ (k : Nat) (mo : Option Addr) (mc : Nat) (p : List Int) (w : World) (A0 A : Nat → Prop), p.length + k = rows.length → Mat w A0 o rows → Nums w A mo p → Pre rows (first rows) p →
    Calls Try.prog 21 #[.slice o rows.length c, .slice mo p.length mc] w fun e w' => ∃ o' c' m, e = .returned (.slice o' rows.length c') ∧ Nums w' (fun _ => True) o' m ∧ BestFrom rows (first rows) p m ∧ Grow w w' := by
  intro k
  induction k with
  | zero =>
    intro mo mc p w A0 A hl h hn hp
    refine nf21 o rows.length c mo p.length mc w _ (yes (by omega) ⟨mo, mc, p, by rw [← hl]; rfl, hn.mono fun _ _ => trivial, hp.done (by omega), Only.refl _ _⟩)
  | succ k ih =>
    intro mo mc p w A0 A hl h hn hp
    have hR := (err0 he).1
    have hC := first_le he
    have hrow : ∀ r ∈ rows, r.length = first rows := fun r hr => ((err0 he).2.2 r hr).1
    have hlt : p.length < rows.length := by omega
    have hmx : ∀ k, k ≤ 100 → k ≤ maxLen := fun k hk => by unfold maxLen; omega
    -- a copy of the beginning with one column more
    have push : ∀ (w0 : World) (x : Int) (K : Option Addr → Nat → Nat → World → Prop), Grow w w0 → (∀ o' c' w', Nums w' (fun _ => True) o' (p ++ [x]) → Grow w0 w' → K o' (p ++ [x]).length c' w') →
        ∀ w3, w3 = w0.alloc (.cells #[] 3 (0, 0)) → RunOk Try.prog (Hold (Builtin.append_ #[25, 25] 25 #[.slice (some ⟨hs w0, 0, none⟩) 0 0, .slice mo p.length mc])) w3 fun v5 w6 => ∃ o7 n8 n9, v5 = .slice o7 n8 n9 ∧
          ∀ w10, w10 = w6.alloc (.cells #[.int .i64 x] 3 (0, 0)) → RunOk Try.prog (Hold (Builtin.append_ #[25, 25] 25 #[.slice o7 n8 n9, .slice (some ⟨hs w6, 0, none⟩) 1 1])) w10 fun v12 w13 => ∃ o14 n15 n16, v12 = .slice o14 n15 n16 ∧ K o14 n15 n16 w13 := by
      intro w0 x K g0 hK w3 e3
      have l3 := hs_alloc e3
      have o3 := own_nilrow e3 (Nat.le_refl _)
      refine append_nums elem25 o3 ((hn.grow g0).grow (only_alloc e3)) (hmx _ (by omega)) (by omega) (by omega) fun o' c' w6 h6 g6 => ⟨_, _, _, rfl, fun w10 e10 => ?_⟩
      have g36 : Grow w0 w6 := (only_alloc e3).trans g6 fun b hb hin => by have := (o3.base b hin).1; omega
      have l6 := g36.size
      rw [Nat.zero_add] at h6 ⊢
      refine run_append_row elem25 (h6.grow (only_alloc e10)) (Row.new e10) rfl (by simp [Value.oneCell']) (hmx _ (by omega)) (by omega) (by have := hs_alloc e10; omega) fun o'' c'' w13 h13 g13 _ => ⟨_, _, _, rfl, ?_⟩
      have e : p.length + 1 = (p ++ [x]).length := by simp
      rw [e] at h13 ⊢
      refine hK o'' c'' w13 ?_ ?_
      · exact (Own.nums (xs := p ++ [x]) (by simpa [intsV] using h13)).mono fun _ _ => trivial
      · exact (g36.trans' (only_alloc e10)).trans g13 fun b hb hin => by have := (h6.base b hin).1; omega
    refine nf21 o rows.length c mo p.length mc w _ (no (by omega) (push w (-1) _ (Only.refl _ _) fun o1 c1 w1 n1 g1 => ?_))
    refine (ih o1 c1 (p ++ [-1]) w1 A0 _ (by simp; omega) (h.grow g1) n1 (hp.none hlt)).mono ?_
    rintro _ w2 ⟨o2, c2, m2, rfl, n2, b2, g2⟩
    have G2 := g1.trans' g2
    obtain ⟨a, oi, ci, ha, hc, -⟩ := (h.grow G2).get hlt
    rw [hrow _ (List.getElem_mem hlt)] at hc
    refine ⟨_, _, _, rfl, a, ha, ⟨by omega, by omega⟩, _, _, _, hc, fun n o' l' c' x w' => ∃ (d : Nat) (m : List Int), x = (d : Int) ∧ d ≤ first rows ∧ n = first rows - d ∧ l' = rows.length ∧ Nums w' (fun _ => True) o' m ∧ BestUp rows (first rows) p d m ∧ Grow w w', ⟨_, 0, m2, rfl, Nat.zero_le _, rfl, rfl, n2, b2.up hlt, G2⟩, ?_⟩
    rintro n _ w3 o3 _ c3 x ⟨d, m, rfl, hd, rfl, rfl, n3, b3, g3⟩
    refine ⟨fun hlt2 => ?_, fun hge => ⟨o3, c3, m, rfl, n3, ?_, g3⟩⟩
    · have hd : d < first rows := by have := dT hlt2; omega
      obtain ⟨a, oi, ci, ha, hc, a', ha', hc'⟩ := mat_cell (h.grow g3) hrow hlt hd
      refine ⟨a, ha, ⟨by omega, by omega⟩, _, _, _, hc, a', ha', ⟨by omega, by omega⟩, _, hc', fun hfin => ?_, fun hinf => ?_⟩
      · have hfin := nT hfin
        refine ⟨fun n b x w' => ∃ t : Nat, x = (t : Int) ∧ t ≤ p.length ∧ n = p.length - t ∧ (b = true ↔ ∀ i, i < t → gm p i ≠ (d : Int)) ∧ w3 = w', ⟨_, 0, rfl, Nat.zero_le _, rfl, by simp, rfl⟩, ?_⟩
        rintro n _ _ b x ⟨t, rfl, ht, rfl, hb, rfl⟩
        refine ⟨fun hlt3 => ?_, fun hge3 => ?_⟩
        · have ht : t < p.length := by have := dT hlt3; omega
          obtain ⟨a2, e2, c2⟩ := Nums.gm (hn.grow g3) ht
          have next : ∀ b' : Bool, (b' = true ↔ (b = true ∧ gm p t ≠ (d : Int))) → ∃ n, n < p.length - t ∧ ∃ t' : Nat, IntKind.wrap .i64 ((t : Int) + 1) = (t' : Int) ∧ t' ≤ p.length ∧ n = p.length - t' ∧ (b' = true ↔ ∀ i, i < t' → gm p i ≠ (d : Int)) ∧ w3 = w3 := fun b' hb' => ⟨_, by omega, t + 1, by rw [wr (by omega)]; omega, ht, rfl, by
            rw [hb', hb]
            constructor
            · rintro ⟨h1, h2⟩ i hi
              by_cases e : i = t
              · subst e; exact h2
              · exact h1 i (by omega)
            · intro h1; exact ⟨fun i hi => h1 i (by omega), h1 t (by omega)⟩, rfl⟩
          refine ⟨a2, e2, ⟨by omega, by omega⟩, _, c2, fun h1 => ⟨fun h2 => next true ⟨fun _ => ⟨h1, nT h2⟩, fun _ => rfl⟩, fun h2 => next false ⟨fun h => (by cases h), fun h => absurd (nF h2) h.2⟩⟩, fun h1 => next false ⟨fun h => (by cases h), fun h => (by rw [h1] at h; cases h.1)⟩⟩
        · have hge3 := dF hge3
          obtain rfl : t = p.length := by omega
          refine ⟨fun hfree => ?_, fun hnf => ⟨_, by omega, d + 1, m, by rw [wr (by omega)]; omega, hd, rfl, rfl, n3, b3.skip hlt (.inr ?_), g3⟩⟩
          · have hfree := hb.1 hfree
            have pre := hp.col hlt hd hfin hfree
            refine push w3 (d : Int) _ g3 fun o4 c4 w4 n4 g4 => ?_
            refine (ih o4 c4 (p ++ [(d : Int)]) w4 A0 _ (by simp; omega) ((h.grow g3).grow g4) n4 pre).mono ?_
            rintro _ w5 ⟨o5, c5, m5, rfl, n5, b5, g5⟩
            have n35 := (n3.grow g4).grow g5
            refine ⟨_, _, _, rfl, (better_c o c rows o5 o3 c5 c3 m5 m w5 (((h.grow g3).grow g4).grow g5) he n5 n35 b5.valid b3.valid).mono ?_⟩
            rintro _ w6 ⟨b, rfl, hbb, g6⟩
            have tk := b3.take b5
            have G6 := ((g3.trans' g4).trans' g5).trans' g6
            refine ⟨b, rfl, fun h1 => ⟨_, by omega, d + 1, m5, by rw [wr (by omega)]; omega, hd, rfl, rfl, n5.grow g6, tk.1 (hbb.1 h1), G6⟩, fun h1 => ⟨_, by omega, d + 1, m, by rw [wr (by omega)]; omega, hd, rfl, rfl, n35.grow g6, tk.2 (fun h => by rw [hbb.2 h] at h1; cases h1), G6⟩⟩
          · refine Classical.byContradiction fun hno => ?_
            rw [hb.2 (fun i hi e => hno ⟨i, hi, e⟩)] at hnf
            cases hnf
      · have hinf := nF hinf
        refine ⟨fun n b x w' => ∃ t : Nat, x = (t : Int) ∧ t ≤ p.length ∧ n = p.length - t ∧ b = false ∧ w3 = w', ⟨_, 0, rfl, Nat.zero_le _, rfl, rfl, rfl⟩, ?_⟩
        rintro n _ _ b x ⟨t, rfl, ht, rfl, rfl, rfl⟩
        refine ⟨fun hlt3 => ?_, fun hge3 => bF ⟨_, by omega, d + 1, m, by rw [wr (by omega)]; omega, hd, rfl, rfl, n3, b3.skip hlt (.inl hinf), g3⟩⟩
        have ht : t < p.length := by have := dT hlt3; omega
        obtain ⟨a2, e2, c2⟩ := Nums.gm (hn.grow g3) ht
        exact ⟨a2, e2, ⟨by omega, by omega⟩, _, c2, bF ⟨_, by omega, t + 1, by rw [wr (by omega)]; omega, ht, rfl, rfl, rfl⟩⟩
    · have hge := dF hge
      obtain rfl : d = first rows := by omega
      exact b3.all hlt
theorem best_c (o : Option Addr) (c : Nat) (rows : List (List Int)) (w : World) {A0 : Nat → Prop} (h : Mat w A0 o rows) (he : errOf rows = 0) :
    Calls Try.prog 16 #[.slice o rows.length c] w fun e w' => ∃ o' c' m, e = .returned (.tuple #[.slice o' rows.length c', .int .i64 (tot rows m rows.length), .int .i64 0]) ∧ Nums w' (fun _ => True) o' m ∧ BestFrom rows (first rows) [] m ∧ Grow w w' := by
  refine nf16 o rows.length c w _ ((right_c o c rows w h).mono ?_)
  rintro _ _ ⟨rfl, rfl⟩
  refine ⟨_, rfl, nno he ?_⟩
  refine (all_c o c rows he rows.length none 0 [] w A0 (fun _ => True) (by simp) h (fun j v hj => by simp at hj) ⟨by simp, fun i hi => by simp at hi, fun i k hi => by simp at hi⟩).mono ?_
  rintro _ w1 ⟨o1, c1, m, rfl, n1, b1, g1⟩
  obtain ⟨k1, k2, k3⟩ := b1.valid.costs he
  have cc := cost_c o o1 c c1 rows m w1 (h.grow g1) n1
  rw [k1, k2, k3, b1.valid.len] at cc
  refine ⟨_, _, _, rfl, cc.mono ?_⟩
  rintro _ _ ⟨rfl, rfl⟩
  exact ⟨_, _, _, rfl, o1, c1, m, rfl, n1, b1, g1⟩
end Go.Proofs.Ytalplekmbhemnaa
