/- ShortestPath: the contract. -/
import Derived.Test.YtbaacpfjecbbgaaKi
namespace Go.Proofs.Ytbaacpfjecbbgaa
open Go Go.Nf

/-- a way that is returned, if there is one -/
def WayRet (w : World) (B : Nat) (b : Option (List Int)) (e : Ending) : Prop :=
  ∃ o n c, e = .returned (.tuple #[.slice o n c, .bool b.isSome]) ∧ ((b = none ∧ o = none ∧ n = 0) ∨ ∃ l, b = some l ∧ n = l.length ∧ Nums w (fun b => B ≤ b) o l)
set_option maxHeartbeats 8000000 in
theorem shortestPath_c (o : Option Addr) (c : Nat) (p : Prot) (U : Int) (hf : p.qs.length ≤ 9223372036854775807) (w : World) {A : Nat → Prop} (h : Qs w A o p.qs) :
    Calls Try.prog 65 #[.agg #[.string p.name, .int .i64 p.version, .slice o p.qs.length c], .int .i64 U] w fun e w' => ∃ x y, Ending' p x y ∧ WayRet w' (hs w) (shortW p y U) e ∧ Grow w w' := by
  refine nf65 p.name p.version o p.qs.length c U w _ fun w1 e1 => ?_
  have r := Row.new e1
  have g : Grow w w1 := only_alloc e1
  refine ⟨_, r.cell rfl, _, r.cell rfl, _, _, _, r.cell rfl, (terminates_c o c p hf w1 (h.grow g)).mono ?_⟩
  rintro _ w2 ⟨x, y, rfl, hE, g2⟩
  have r2 := r.grow g2
  have h2 := (h.grow g).grow g2
  refine ⟨_, rfl, fun hy => ?_, fun hy => ⟨x, y, hE, ⟨none, 0, 0, by rw [show shortW p y U = none from if_neg (dF hy)]; rfl, .inl ⟨if_neg (dF hy), rfl, rfl⟩⟩, g.trans' g2⟩⟩
  have hy := dT hy
  subst hy
  have hv := ending_valid hE
  have V := valid_of hv
  have htop := V.top
  have hpos := V.pos
  have hac := ending_acyclic hE
  refine ⟨_, _, _, r2.cell rfl, make_rows (by omega) fun w3 r3 g3 hs3 => ⟨_, _, _, rfl, ?_⟩⟩
  have rp3 := r2.grow g3
  refine ⟨_, rp3.cell rfl, _, rp3.cell rfl, _, _, _, rp3.cell rfl, (followers_c o c p (by omega) V.ans w3 (h2.grow g3)).mono ?_⟩
  rintro _ w4 ⟨o4, c4, rows, rfl, hR, hM4, g4⟩
  have hsame := same_nx hR
  have hOk := ok_rows hR V.inside
  have hrl := hR.len
  refine ⟨_, _, _, rfl, ?_⟩
  rw [← hrl]
  refine (order_c o4 c4 rows 0 (by omega) hOk (by omega) (fun j hj hc => hac j (hj.closed (m := fun y => y < p.qs.length) (fun i _ y hy => valid_in hv i y ((hsame i y).1 hy)) (by omega)) ((cyc_same hsame j).1 hc)) w4 (fun b hb => hb.2) hM4).mono ?_
  rintro _ w5 ⟨l, lo, lc, rfl, hT, hfr, h0l, hll, hN5, g5⟩
  have hT := topo_same hsame hT
  have r5 := (r3.grow g4).grow g5
  have rp5 := (rp3.grow g4).grow g5
  have G5 := ((((g.trans' g2).trans' g3).trans' g4).trans' g5)
  have hcl : (castL l).length = l.length := castL_len l
  have sb := g2.size
  have s1 := g.size
  have s3 := g3.size
  have s4 := g4.size
  have s5 := g5.size
  have r1lt := r.lt
  have r3lt := r3.lt
  have hlq : ∀ x, x ∈ l → x < p.qs.length := fun x hx => (hfr x hx).closed (m := fun y => y < p.qs.length) (fun i _ y hy => valid_in hv i y ((hsame i y).1 hy)) (by omega)
  obtain ⟨B, hB⟩ : ∃ B : Nat → Option (List Int), B = fun q => best (wants p.qs U q) := ⟨_, rfl⟩
  have hBlen : ∀ q v, B q = some v → v.length ≤ 64 := fun q v hv' => by
    rw [hB] at hv'
    have := best_mem hv'
    unfold wants at this
    have := paths_short _ _ _ (List.mem_filter.1 this).1
    omega
  have row_lt : ∀ b, b = hs w2 → b < hs w3 := fun b hb => by omega
  refine ⟨_, _, _, rfl, fun k x w' => ∃ (j : Nat) (sv : List Value), x = (j : Int) ∧ j ≤ l.length ∧ k = l.length - j ∧ SDone w' (hs w3) l j p.qs.length B sv ∧ Row w' (hs w2) 48 sv ∧ Only (fun b => b = hs w2) w5 w',
    ⟨_, 0, _, rfl, Nat.zero_le _, rfl, ⟨by simp, fun i x hi => by omega, fun x hx _ => by simp [hx]⟩, r5, Only.refl _ _⟩, ?_⟩
  rintro k _ w6 x ⟨j, sv, rfl, hj, rfl, hD, r6, g6⟩
  have G6 : Grow w w6 := G5.trans g6 fun b hb e => by omega
  have hsvl := hD.len
  refine ⟨fun hlt => ?_, fun hge => ?_⟩
  · have hlt : j < l.length := by have := dT hlt; omega
    obtain ⟨a, ha, hc⟩ := (hN5.keep g6 fun b hb e => by omega).get (j := j) (by omega)
    rw [castL_get hlt] at hc
    have hjq : l[j]? = some l[j] := List.getElem?_eq_getElem hlt
    have hq := hlq _ (List.getElem_mem hlt)
    generalize l[j] = q at *
    obtain ⟨a7, oi, ci, ha7, hc0, hc1, hr7⟩ := h.get hq
    have hc1 := cell_keep G6 (fun h => h) hc1
    have hqs : p.qs[q]? = some p.qs[q] := List.getElem?_eq_getElem hq
    have hpe := paths_eq (valid_in hv) hac hqs
    have hans := V.ans _ (List.getElem_mem hq)
    have hnx : ∀ a, a ∈ p.qs[q].ans → 0 ≤ a.next → a.next.toNat ∈ nxP p.qs q := fun a ha h0 => nx_of_ans hqs ha h0
    generalize p.qs[q] = s at *
    have rp6 : Row w6 (hs w) 24 [.string p.name, .int .i64 p.version, .slice o p.qs.length c] := rp5.keep g6 (by omega)
    obtain ⟨C, hC⟩ : ∃ C : Nat → Option (List Int), C = fun u => best ((ansF (paths p.qs) (s.ans.take u) 0).filter fun w => decide (endW p.qs q w = U)) := ⟨_, rfl⟩
    have hCs : ∀ u (h : u < s.ans.length), C (u + 1) = better (C u) (oneU p.qs U s.ans[u] u) := fun u hu => by rw [hC]; exact best_step hqs hu
    refine ⟨a, ha, ⟨by omega, by omega⟩, _, hc, _, _, _, rp6.cell rfl, a7, ha7, ⟨by omega, by omega⟩, _, _, _, hc1, fun k x w' => ∃ (u : Nat) (sv' : List Value) (v : Value), x = (u : Int) ∧ u ≤ s.ans.length ∧ k = s.ans.length - u ∧ sv'.length = sv.length ∧ (∀ x, x ≠ q → sv'[x]? = sv[x]?) ∧
      sv'[q]? = some v ∧ SlotAt w' (hs w3) v (C u) ∧ Row w' (hs w2) 48 sv' ∧ Only (fun b => b = hs w2) w6 w',
      ⟨_, 0, sv, _, rfl, Nat.zero_le _, rfl, rfl, fun _ _ => rfl, hD.rest q hq (fun i hi hx => by have := hT.nodup i j q hx hjq; omega), by rw [hC]; rfl, r6, Only.refl _ _⟩, ?_⟩
    rintro k _ w7 x ⟨u, sv', v, rfl, hu, rfl, hl', hs', hat, hslot, r7, g7⟩
    have G7 : Grow w w7 := G6.trans g7 fun b hb e => by omega
    refine ⟨fun hlt2 K60 hK60 => ?_, fun hge2 => ?_⟩
    · have hlt2 : u < s.ans.length := by have := dT hlt2; omega
      have next : ∀ (w' : World) (sv'' : List Value) (v' : Value), sv''.length = sv'.length → (∀ x, x ≠ q → sv''[x]? = sv'[x]?) → sv''[q]? = some v' → SlotAt w' (hs w3) v' (C (u + 1)) → Row w' (hs w2) 48 sv'' → Only (fun b => b = hs w2) w7 w' → K60 w' := fun w' sv'' v' q1 q2 q3 q4 q5 q6 =>
        hK60 _ fun _ => ⟨_, by omega, u + 1, sv'', v', by rw [wr (by omega)]; omega, hlt2, rfl, q1.trans hl', fun x hx => (q2 x hx).trans (hs' x hx), q3, q4, q5, g7.trans' q6⟩
      obtain ⟨a8, ha8, d0, d1, d2, d3⟩ := Recs.ans (hr7.grow G7) hlt2
      have ham : s.ans[u] ∈ s.ans := List.getElem_mem hlt2
      refine ⟨a8, ha8, ⟨by omega, by omega⟩, _, d0, _, d1, _, d2, _, d3, fun w8 e8 => ⟨(Row.new e8).there (by simp), fun w9 e9 K75 hK75 => ?_⟩⟩
      obtain ⟨r9, g9⟩ := loc e8 e9 rfl
      have s7 := g7.size
      have s6 := g6.size
      have s9 := g9.size
      -- how the answer's way is taken up
      have fin : ∀ (o' : Option Addr) (n' c' : Nat) (w' : World), Grow w9 w' → SlotAt w' (hs w3) (.slice o' n' c') (oneU p.qs U s.ans[u] u) → K75 o' n' c' w' := by
        intro o' n' c' w' g10 hsl
        have g710 : Grow w7 w' := g9.trans' g10
        have r10 := r7.grow g710
        have hslot10 := hslot.keep (S := none') g710 (fun b h => h.elim)
        obtain ⟨ov, cv, hve, hvn⟩ := hslot10.shape
        obtain ⟨op, cp, hpe', hpn⟩ := hsl.shape
        simp only [Value.slice.injEq] at hpe'
        obtain ⟨rfl, rfl, rfl⟩ := hpe'
        have hcell := r10.cellAdd (slot_get hat)
        rw [hve] at hcell
        have hth : There w' ((⟨hs w2, 0, none⟩ : Addr).add ((q : Int).toNat * 1)) 1 := r10.thereAdd (by rw [toNat_cast, hl', hsvl]; omega)
        have put : C (u + 1) = oneU p.qs U s.ans[u] u → ∀ w11, w11 = setCells w' ((⟨hs w2, 0, none⟩ : Addr).add ((q : Int).toNat * 1)) [.slice o' ((oneU p.qs U s.ans[u] u).getD []).length c'] 0 → K60 w11 := fun hCe w11 e11 => by
          have r11 := r10.setAdd e11
          rw [slot_set] at r11
          have g11 : Only (fun b => b = hs w2) w' w11 := only_setAdd e11
          refine next w11 _ _ (by simp) (fun x hx => List.getElem?_set_ne (fun e => hx e.symm)) (List.getElem?_set_self (by omega)) ?_ r11 (g710.only.trans' g11)
          rw [hCe]
          exact hsl.keep g11 row_lt
        have stay : C (u + 1) = C u → K60 w' := fun hCe => next w' sv' v rfl (fun _ _ => rfl) hat (by rw [hCe]; exact hslot10) r10 g710.only
        have hcs := hCs u hlt2
        refine hK75 _ _ _ _ fun _ => ⟨fun hb => ⟨_, rfl, ⟨by omega, by omega⟩, _, _, _, hcell, fun hb2 => ⟨_, rfl, ⟨by omega, by omega⟩, hth, put ?_⟩, fun hb2 => ⟨_, rfl, ⟨by omega, by omega⟩, _, _, _, hcell, fun hb3 => ⟨_, rfl, ⟨by omega, by omega⟩, hth, put ?_⟩, fun hb3 => stay ?_⟩⟩, fun hb => stay ?_⟩
        · rw [hcs, hvn.1 hb2]; rfl
        · have hb3 := dT hb3
          cases hCu : C u with
          | none => exact absurd (hvn.2 hCu) (by rw [hb2]; decide)
          | some x =>
            cases hOu : oneU p.qs U s.ans[u] u with
            | none => rw [hpn.2 hOu] at hb; exact absurd hb (by decide)
            | some z =>
              rw [hCu, hOu] at hb3
              rw [hcs, hCu, hOu]
              have hb3 : z.length < x.length := by simpa using hb3
              simp only [better, if_pos hb3]
        · have hb3 := dF hb3
          cases hCu : C u with
          | none => exact absurd (hvn.2 hCu) (by rw [hb2]; decide)
          | some x =>
            cases hOu : oneU p.qs U s.ans[u] u with
            | none => rw [hpn.2 hOu] at hb; exact absurd hb (by decide)
            | some z =>
              rw [hCu, hOu] at hb3
              rw [hcs, hCu, hOu]
              have hb3 : ¬ z.length < x.length := by simpa using hb3
              simp only [better, if_neg hb3]
        · have : oneU p.qs U s.ans[u] u = none := hpn.1 (by cases hn : Option.isNone o' with
            | true => rfl
            | false => rw [hn] at hb; exact absurd hb (by decide))
          rw [hcs, this, better_none]
      have one1 : s.ans[u].next < 0 → s.ans[u].urg = U → ∀ w10, w10 = w9.alloc (.cells #[.int .i64 (u : Int)] 3 (0, 0)) → K75 (some ⟨hs w9, 0, none⟩) 1 1 w10 := fun hn hu' w10 e10 => by
        refine fin _ _ _ _ (only_alloc e10) ?_
        rw [show oneU p.qs U s.ans[u] u = some [(u : Int)] by unfold oneU; rw [if_pos hn, if_pos hu']]
        refine ⟨_, 1, rfl, (Row.new e10 : Row w10 (hs w9) 3 (intsV [(u : Int)])).nums ?_⟩
        omega
      refine ⟨_, r9.cell rfl, fun h0 => ?_, fun h0 => ⟨_, r9.cell rfl, fun h1 => ⟨_, r9.cell rfl, fun h2 => one1 (dT h1) (dT h2), fun h2 => ?_⟩, fun h1 => ?_⟩⟩
      · have h0 := dT h0
        have hy := hnx _ ham h0
        obtain ⟨y, hyy⟩ : ∃ y : Nat, s.ans[u].next = (y : Int) := ⟨s.ans[u].next.toNat, by omega⟩
        have hone : oneU p.qs U s.ans[u] u = (B y).map ((u : Int) :: ·) := by unfold oneU; rw [if_neg (by omega), hB, hyy, toNat_cast]
        rw [hyy, toNat_cast] at hy
        have hyn := valid_in hv _ _ hy
        obtain ⟨i, hi, hyl⟩ := hT.follows j q hjq y hy
        have hyq : y ≠ q := fun e => by have := hT.nodup i j q (by rw [hyl, e]) hjq; omega
        obtain ⟨vy, hvy, hslY⟩ := hD.done i y hi hyl
        rw [← hs' y hyq] at hvy
        have g69 : Only (fun b => b = hs w2) w6 w9 := g7.grow g9
        have hslY := hslY.keep g69 row_lt
        obtain ⟨oy, cy, hye, hyn'⟩ := hslY.shape
        have r79 := r7.grow g9
        have hcy := r79.cellAdd (slot_get hvy)
        rw [hye] at hcy
        have hlenv : (sv'.length : Int) = p.qs.length := by omega
        refine ⟨_, r9.cell rfl, ?_⟩
        show ∃ a, _ ∧ (_ ∧ s.ans[u].next < _) ∧ _
        rw [hyy]
        refine ⟨_, rfl, ⟨by omega, by omega⟩, _, _, _, hcy, fun hb w10 e10 => ?_, fun hb => ⟨_, r9.cell rfl, fun h1 => ?_, fun h1 => ?_⟩⟩
        · have r910 := r9.grow (only_alloc e10 : Grow w9 w10)
          have hcy10 := (r79.grow (only_alloc e10 : Grow w9 w10)).cellAdd (slot_get hvy)
          rw [hye] at hcy10
          refine ⟨_, r910.cell rfl, ?_⟩
          show ∃ a, _ ∧ (_ ∧ s.ans[u].next < _) ∧ _
          rw [hyy]
          cases hBy : B y with
          | none => rw [hyn'.2 hBy] at hb; exact absurd hb (by decide)
          | some ly =>
            rw [hBy] at hslY hone hcy10
            simp only [Option.getD_some] at hcy10
            obtain ⟨ay, cy', hye2, hNy⟩ := hslY
            rw [hye2] at hye
            simp only [Value.slice.injEq] at hye
            obtain ⟨rfl, -, rfl⟩ := hye
            have hly := hBlen y ly hBy
            refine ⟨_, rfl, ⟨by omega, by omega⟩, _, _, _, hcy10, cons_way hNy (by omega) e10 (by omega) fun a' c' w11 q1 q2 => ⟨_, _, _, rfl, fin _ _ _ _ q2 ?_⟩⟩
            rw [hone]
            exact ⟨_, _, rfl, q1⟩
        · have := dT h1; omega
        · refine fin _ _ _ _ (Only.refl _ _) ?_
          have : B y = none := hyn'.1 (by cases hn : Option.isNone oy with
            | true => rfl
            | false => rw [hn] at hb; exact absurd hb (by decide))
          rw [hone, this]
          rfl
      · refine fin _ _ _ _ (Only.refl _ _) ?_
        rw [show oneU p.qs U s.ans[u] u = none by unfold oneU; rw [if_pos (dT h1), if_neg (dF h2)]]
        rfl
      · have := dF h0
        have := dF h1
        omega
    · have := dF hge2
      obtain rfl : u = s.ans.length := by omega
      refine ⟨_, by omega, j + 1, sv', by rw [wr (by omega)]; omega, hlt, rfl, (hD.keep g7 row_lt).more hT hjq hl' hs' hat ?_, r7, g6.trans' g7⟩
      have e : C s.ans.length = B q := by rw [hC, hB]; simp only [List.take_length, wants, hpe]
      rw [← e]
      exact hslot
  · have := dF hge
    obtain rfl : j = l.length := by omega
    intro w7 e7
    have g7 : Grow w6 w7 := only_drew e7
    obtain ⟨i, hi, e⟩ := List.getElem_of_mem h0l
    obtain ⟨v0, hv0, hsl⟩ := (hD.keep (S := none') g7 fun b h => h.elim).done i 0 hi (by rw [List.getElem?_eq_getElem hi, e])
    have c0 := (r6.grow g7).cellAdd (o := 0) hv0
    rw [add_zero] at c0
    obtain ⟨o0, c0', hve, hn0⟩ := hsl.shape
    rw [hve] at c0
    have hsw : shortW p 0 U = B 0 := by rw [hB]; rfl
    have hlast : ∀ b : Bool, b = (B 0).isSome → ∃ x y, Ending' p x y ∧ WayRet w7 (hs w) (shortW p y U) (.returned (.tuple #[.slice o0 ((B 0).getD []).length c0', .bool b])) ∧ Grow w w7 := fun b hb => by
      refine ⟨x, 0, hE, ⟨_, _, _, by rw [hsw, hb], ?_⟩, G6.trans' g7⟩
      rw [hsw]
      cases hB0 : B 0 with
      | none =>
        rw [hB0] at hsl
        have hsl : v0 = .slice none 0 0 := hsl
        rw [hve] at hsl
        simp only [Value.slice.injEq] at hsl
        exact .inl ⟨rfl, hsl.1, rfl⟩
      | some l0 =>
        rw [hB0] at hsl
        obtain ⟨a0, c1, hve2, hN⟩ := hsl
        rw [hve] at hve2
        simp only [Value.slice.injEq] at hve2
        exact .inr ⟨l0, rfl, rfl, by rw [hve2.1]; exact hN.mono fun _ hb => by omega⟩
    refine ⟨_, rfl, ⟨by omega, by omega⟩, _, _, _, c0, _, rfl, ⟨by omega, by omega⟩, _, _, _, c0, fun hb => hlast true ?_, fun hb => hlast false ?_⟩
    · cases hB0 : B 0 with
      | none => rw [hn0.2 hB0] at hb; exact absurd hb (by decide)
      | some => rfl
    · have : B 0 = none := hn0.1 (by cases hn : Option.isNone o0 with
        | true => rfl
        | false => rw [hn] at hb; exact absurd hb (by decide))
      rw [this]; rfl
end Go.Proofs.Ytbaacpfjecbbgaa
