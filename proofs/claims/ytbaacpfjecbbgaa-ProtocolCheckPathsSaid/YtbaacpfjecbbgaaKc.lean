/- The iterator over all ways. -/
import Derived.Test.YtbaacpfjecbbgaaKb
namespace Go.Proofs.Ytbaacpfjecbbgaa
open Go Go.Nf

/-- what a round is handed: a way, in a slice of its own that the iterator does not keep -/
def ValW (x : List Int) (v : Value) (M : Nat → Prop) (w : World) : Prop := ∃ o c B, v = .slice o x.length c ∧ Own w B 3 1 o x.length c (intsV x) ∧ ∀ b, inBlock o b → ¬ M b
structure ItAt (w : World) (M A : Nat → Prop) (c0 c1 c2 c3 : Nat) (o : Option Addr) (n c l : Nat) (P : List Int) (po : Option Addr) (pc : Nat) : Prop where
  r0 : Row w c0 91 [.slice o n c]
  r1 : Row w c1 48 [.slice po P.length pc]
  r2 : Row w c2 160 [.func (.yield l) #[] #[]]
  r3 : Row w c3 152 [.func (.func 124) #[] #[.pointer (some ⟨c0, 0, none⟩), .pointer (some ⟨c1, 0, none⟩), .pointer (some ⟨c2, 0, none⟩), .pointer (some ⟨c3, 0, none⟩)]]
  own : Own w 0 3 1 po P.length pc (intsV P)
  in0 : M c0
  in1 : M c1
  in2 : M c2
  in3 : M c3
  inP : ∀ b, inBlock po b → M b
  inA : ∀ b, A b → M b
  outP : ∀ b, inBlock po b → ¬ A b
  out1 : ¬ A c1
  lt : ∀ b, M b → b < hs w
theorem ItAt.keep {w w' : World} {M A S : Nat → Prop} {c0 c1 c2 c3 : Nat} {o : Option Addr} {n c l : Nat} {P : List Int} {po : Option Addr} {pc : Nat} (h : ItAt w M A c0 c1 c2 c3 o n c l P po pc) (g : Only S w w') (hS : ∀ b, M b → ¬ S b) : ItAt w' M A c0 c1 c2 c3 o n c l P po pc :=
  ⟨h.r0.keep g (hS _ h.in0), h.r1.keep g (hS _ h.in1), h.r2.keep g (hS _ h.in2), h.r3.keep g (hS _ h.in3), h.own.keep g fun b hb => hS b (h.inP b hb), h.in0, h.in1, h.in2, h.in3, h.inP, h.inA, h.outP, h.out1, fun b hb => by have := h.lt b hb; have := g.size; omega⟩
/-- more blocks are the iterator's -/
theorem ItAt.more {w : World} {M M' A : Nat → Prop} {c0 c1 c2 c3 : Nat} {o : Option Addr} {n c l : Nat} {P : List Int} {po : Option Addr} {pc : Nat} (h : ItAt w M A c0 c1 c2 c3 o n c l P po pc) (hM : ∀ b, M b → M' b) (hl : ∀ b, M' b → b < hs w) : ItAt w M' A c0 c1 c2 c3 o n c l P po pc :=
  ⟨h.r0, h.r1, h.r2, h.r3, h.own, hM _ h.in0, hM _ h.in1, hM _ h.in2, hM _ h.in3, fun b hb => hM b (h.inP b hb), fun b hb => hM b (h.inA b hb), h.outP, h.out1, hl⟩
set_option maxHeartbeats 4000000 in
theorem follow_c {c0 c1 c2 c3 c l : Nat} {o : Option Addr} {qs : List Qst} {A : Nat → Prop} (hn : qs.length ≤ 100) (hL : ∀ s, s ∈ qs → s.ans.length ≤ 20) (hin : ∀ q x, x ∈ nxP qs q → x < qs.length)
    {R : List (List Int) → (Nat → Prop) → World → Prop} {Rx : List (List Int) → World → Prop} (hY : Yielder Try.prog ValW R Rx l) :
    ∀ (f : Nat) (w : World) (q : Nat) (P : List Int) (po : Option Addr) (pc : Nat) (M : Nat → Prop) (pre : List (List Int)), (∀ d, Walk (nxP qs) q d → d ≤ f) → q < qs.length → P.length + f ≤ 1000 → ItAt w M A c0 c1 c2 c3 o qs.length c l P po pc → Mat w A o (nextsOf qs) → R pre M w →
      Calls Try.prog 124 #[.int .i64 q, .pointer (some ⟨c0, 0, none⟩), .pointer (some ⟨c1, 0, none⟩), .pointer (some ⟨c2, 0, none⟩), .pointer (some ⟨c3, 0, none⟩)] w fun e w' =>
        (e = .returned (.bool true) ∧ ∃ M' po' pc', ItAt w' M' A c0 c1 c2 c3 o qs.length c l P po' pc' ∧ R (pre ++ (pathsF qs f q).map (P ++ ·)) M' w' ∧ (∀ b, M b → M' b) ∧ Only (fun b => ¬ A b) w w') ∨
        (e = .returned (.bool false) ∧ ∃ m, m <+: (pathsF qs f q).map (P ++ ·) ∧ Rx (pre ++ m) w') := by
  intro f
  induction f with
  | zero => intro w q P po pc M pre h; have := h 1 (.one q); omega
  | succ f ih =>
    intro w q P po pc M pre hW hq hPl hI hMat hR
    have hs' : qs[q]? = some qs[q] := List.getElem?_eq_getElem hq
    have hqm := List.getElem_mem hq
    have hans := hL _ hqm
    have hpf : pathsF qs (f + 1) q = ansF (pathsF qs f) qs[q].ans 0 := by rw [pathsF, hs']
    rw [hpf]
    have hnx : ∀ a, a ∈ qs[q].ans → 0 ≤ a.next → a.next.toNat ∈ nxP qs q := fun a ha h0 => nx_of_ans hs' ha h0
    have hrow : (nextsOf qs)[q]? = some (qs[q].ans.map (·.next)) := by unfold nextsOf; rw [List.getElem?_map, hs']; rfl
    generalize qs[q] = s at *
    generalize hg : pathsF qs f = G at *
    obtain ⟨a, oi, ci, ha, hAa, hc, hN⟩ := hMat q _ hrow
    have hxl : (s.ans.map (·.next)).length = s.ans.length := List.length_map ..
    refine nf124 q c0 c1 c2 c3 w _ ⟨_, _, _, hI.r0.cell rfl, a, ha, ⟨by omega, by omega⟩, _, _, _, hc, fun k x w' => ∃ (u : Nat) (M' : Nat → Prop) (po' : Option Addr) (pc' : Nat), x = (u : Int) ∧ u ≤ s.ans.length ∧ k = s.ans.length - u ∧ ItAt w' M' A c0 c1 c2 c3 o qs.length c l P po' pc' ∧
      R (pre ++ (ansF G (s.ans.take u) 0).map (P ++ ·)) M' w' ∧ (∀ b, M b → M' b) ∧ Only (fun b => ¬ A b) w w', ⟨_, 0, M, po, pc, rfl, Nat.zero_le _, rfl, hI, by simpa [ansF] using hR, fun b hb => hb, Only.refl _ _⟩, ?_⟩
    rintro k _ w1 x ⟨u, M1, po1, pc1, rfl, hu, rfl, hI1, hR1, hM1, g1⟩
    refine ⟨fun hlt => ?_, fun hge => .inl ⟨rfl, ?_⟩⟩
    · have hlt : u < s.ans.length := by have := dT hlt; omega
      have hN1 := hN.keep g1 fun b hb h => h hb
      obtain ⟨a', ha', hc'⟩ := hN1.get (j := u) (by omega)
      rw [List.getElem_map] at hc'
      have ham : s.ans[u] ∈ s.ans := List.getElem_mem hlt
      obtain ⟨rest, hrest⟩ := ansF_prefix G s.ans hlt
      have htake := ansF_take G s.ans hlt
      refine ⟨a', ha', ⟨by omega, by omega⟩, _, hc', _, _, _, hI1.r1.cell rfl, fun w2 e2 => push_where hI1.own e2 (by omega) (by omega) fun o3 c3' w3 p1 p2 p3 => ⟨_, _, _, rfl, ?_⟩⟩
      have g13 : Only (inBlock po1) w1 w3 := p2
      have r13 := hI1.r1.keep g13 (hI1.own.apartR hI1.r1 (by decide))
      refine ⟨r13.there (by simp), fun w4 e4 w5 e5 => ?_⟩
      have r14 : Row w4 c1 48 [.slice o3 (P.length + 1) c3'] := r13.set e4
      have g34 : Only (fun b => b = c1) w3 w4 := only_set e4
      have g45 : Grow w4 w5 := only_drew e5
      have el : P.length + 1 = (P ++ [(u : Int)]).length := by simp
      rw [el] at r14 p1
      have s13 := g13.size
      have s34 := g34.size
      have s45 := g45.size
      -- the iterator's blocks now
      obtain ⟨M2, hM2⟩ : ∃ M2 : Nat → Prop, M2 = fun b => M1 b ∨ (hs w1 ≤ b ∧ b < hs w3) := ⟨_, rfl⟩
      have hM12 : ∀ b, M1 b → M2 b := fun b hb => by rw [hM2]; exact .inl hb
      have G15 : Only M1 w1 w5 := ((g13.mono fun b _ hb => hI1.inP b hb).trans (g34.mono fun b _ hb => by rw [hb]; exact hI1.in1) fun b _ h => h).grow g45
      have hb3 : ∀ b, inBlock o3 b → b < hs w3 := fun b hb => (p1.base b hb).2
      have GA : Only (fun b => ¬ A b) w1 w5 := ((g13.mono fun b _ hb => hI1.outP b hb).trans (g34.mono fun b _ hb => by rw [hb]; exact hI1.out1) fun b _ h => h).grow g45
      have hI5 : ItAt w5 M2 A c0 c1 c2 c3 o qs.length c l (P ++ [(u : Int)]) o3 c3' :=
        ⟨((hI1.r0.keep g13 (hI1.own.apartR hI1.r0 (by decide))).keep g34 (hI1.r0.ne hI1.r1 (by decide))).grow g45, r14.grow g45,
         ((hI1.r2.keep g13 (hI1.own.apartR hI1.r2 (by decide))).keep g34 (hI1.r2.ne hI1.r1 (by decide))).grow g45,
         ((hI1.r3.keep g13 (hI1.own.apartR hI1.r3 (by decide))).keep g34 (hI1.r3.ne hI1.r1 (by decide))).grow g45,
         (p1.keep g34 fun b hx e => by rw [e] at hx; exact p1.apartR r13 (by decide) hx).grow g45,
         hM12 _ hI1.in0, hM12 _ hI1.in1, hM12 _ hI1.in2, hM12 _ hI1.in3, fun b hb => by
          rw [hM2]
          rcases p3 b hb with h | h
          · exact .inl (hI1.inP b h)
          · exact .inr ⟨h, hb3 b hb⟩, fun b hb => hM12 b (hI1.inA b hb), fun b hb hA => by
          rcases p3 b hb with h | h
          · exact hI1.outP b h hA
          · have := hI1.lt b (hI1.inA b hA); omega, hI1.out1, fun b hb => by
          rw [hM2] at hb
          rcases hb with h | h
          · have := hI1.lt b h; omega
          · omega⟩
      have hR5 : R (pre ++ (ansF G (s.ans.take u) 0).map (P ++ ·)) M2 w5 := hY.step _ M1 M2 w1 w5 hR1 G15 fun b hb => by
        rw [hM2] at hb
        rcases hb with h | h
        · exact .inl h
        · exact .inr ⟨h.1, by omega⟩
      -- the last answer is struck again
      have pop : ∀ (w6 : World) (M3 : Nat → Prop) (po3 : Option Addr) (pc3 : Nat), ItAt w6 M3 A c0 c1 c2 c3 o qs.length c l (P ++ [(u : Int)]) po3 pc3 → R (pre ++ (ansF G (s.ans.take (u + 1)) 0).map (P ++ ·)) M3 w6 → (∀ b, M1 b → M3 b) → Only (fun b => ¬ A b) w1 w6 →
          ((0 ≤ IntKind.wrap .i64 (((P ++ [(u : Int)]).length : Nat) - 1 : Int)) ∧ IntKind.wrap .i64 (((P ++ [(u : Int)]).length : Nat) - 1 : Int) ≤ (pc3 : Int)) ∧ There w6 ⟨c1, 0, none⟩ 1 ∧
          ∀ w7, w7 = setCells w6 ⟨c1, 0, none⟩ [.slice (if pc3 = 0 then po3 else Option.map (fun x => x) po3) ((IntKind.wrap .i64 (((P ++ [(u : Int)]).length : Nat) - 1 : Int)).toNat - 0) (pc3 - 0)] 0 →
            ∃ n', n' < s.ans.length - u ∧ ∃ (u' : Nat) (M' : Nat → Prop) (po' : Option Addr) (pc' : Nat), IntKind.wrap .i64 ((u : Int) + 1) = (u' : Int) ∧ u' ≤ s.ans.length ∧ n' = s.ans.length - u' ∧ ItAt w7 M' A c0 c1 c2 c3 o qs.length c l P po' pc' ∧
              R (pre ++ (ansF G (s.ans.take u') 0).map (P ++ ·)) M' w7 ∧ (∀ b, M b → M' b) ∧ Only (fun b => ¬ A b) w w7 := by
        intro w6 M3 po3 pc3 hI6 hR6 hM13 g6
        have hle := hI6.own.le
        have ew : IntKind.wrap .i64 (((P ++ [(u : Int)]).length : Nat) - 1 : Int) = (P.length : Int) := by rw [← el, wr (by omega)]; omega
        have eo : (if pc3 = 0 then po3 else Option.map (fun x => x) po3) = po3 := by split <;> cases po3 <;> rfl
        rw [ew, eo, toNat_cast]
        refine ⟨⟨by omega, by omega⟩, hI6.r1.there (by simp), fun w7 e7 => ?_⟩
        have g7 : Only (fun b => b = c1) w6 w7 := only_set e7
        have r17 : Row w7 c1 48 [.slice po3 P.length pc3] := hI6.r1.set e7
        have own7 := Own.take hI6.own P.length (by omega)
        rw [List.take_left] at own7
        refine ⟨_, by omega, u + 1, M3, po3, pc3, by rw [wr (by omega)]; omega, hlt, rfl,
          ⟨hI6.r0.keep g7 (hI6.r0.ne hI6.r1 (by decide)), r17, hI6.r2.keep g7 (hI6.r2.ne hI6.r1 (by decide)), hI6.r3.keep g7 (hI6.r3.ne hI6.r1 (by decide)), own7.keep g7 fun b hx e => by rw [e] at hx; exact hI6.own.apartR hI6.r1 (by decide) hx,
           hI6.in0, hI6.in1, hI6.in2, hI6.in3, hI6.inP, hI6.inA, hI6.outP, hI6.out1, fun b hb => by have := hI6.lt b hb; have := g7.size; omega⟩,
          hY.step _ M3 M3 w6 w7 hR6 (g7.mono fun b _ e => by rw [e]; exact hI6.in1) fun b hb => .inl hb, fun b hb => hM13 b (hM1 b hb), (g1.trans' g6).trans' (g7.mono fun b _ e => by rw [e]; exact hI6.out1)⟩
      have stop : ∀ (m : List (List Int)) (w6 : World), m <+: (oneF G s.ans[u] u).map (P ++ ·) → Rx ((pre ++ (ansF G (s.ans.take u) 0).map (P ++ ·)) ++ m) w6 → ∃ m, m <+: (ansF G s.ans 0).map (P ++ ·) ∧ Rx (pre ++ m) w6 := fun m w6 hm hx => by
        obtain ⟨t, ht⟩ := hm
        refine ⟨(ansF G (s.ans.take u) 0).map (P ++ ·) ++ m, ⟨t ++ rest.map (P ++ ·), ?_⟩, by rw [← List.append_assoc]; exact hx⟩
        rw [hrest, List.map_append, List.map_append, ← ht]
        simp only [List.append_assoc]
      refine ⟨fun hneg => ?_, fun hneg => ?_⟩
      · have hneg := dT hneg
        have hone : oneF G s.ans[u] u = [[(u : Int)]] := if_pos hneg
        refine ⟨_, _, _, hI5.r2.cell rfl, _, _, _, hI5.r1.cell rfl, (clone_c (by simp; omega) hI5.own.nums).mono ?_⟩
        rintro _ w6 ⟨o6, c6, rfl, own6, g6⟩
        have hI6 := hI5.keep g6 fun _ _ h => h
        have hR6 := hY.step _ M2 M2 w5 w6 hR5 g6.only fun b hb => .inl hb
        have hb6 : ∀ b, inBlock o6 b → ¬ M2 b := fun b hb hm => by
          have := (own6.base b hb).1
          have := hI5.lt b hm
          omega
        refine ⟨_, _, _, rfl, kept_only g6 hI5.r2.lt (fun h => h), .inr ⟨l, rfl, yieldAt_mono (hY.yield _ (P ++ [(u : Int)]) _ M2 w6 hR6 ⟨o6, c6, _, rfl, own6, hb6⟩) ?_⟩⟩
        rintro e w7 ⟨g7, ⟨rfl, hR7⟩ | ⟨rfl, hRx⟩⟩
        · have hI7 := hI6.keep g7 fun b hb h => h hb
          refine ⟨_, rfl, fun _ => no (by omega) ⟨_, _, _, hI7.r1.cell rfl, _, _, _, hI7.r1.cell rfl, pop w7 M2 o3 c3' hI7 ?_ hM12 ((GA.grow g6).trans' (g7.mono fun b _ hb hA => hb (hI5.inA b hA)))⟩, fun h => (by cases h)⟩
          rw [htake, hone, List.map_append, ← List.append_assoc]
          exact hR7
        · exact ⟨_, rfl, fun h => (by cases h), fun _ => .inr ⟨rfl, stop [P ++ [(u : Int)]] w7 (by rw [hone]; exact List.prefix_refl _) hRx⟩⟩
      · have hneg := dF hneg
        have hone : oneF G s.ans[u] u = (G s.ans[u].next.toNat).map ((u : Int) :: ·) := if_neg (by omega)
        have hy := hnx _ ham (by omega)
        obtain ⟨y, hyy⟩ : ∃ y : Nat, s.ans[u].next = (y : Int) := ⟨s.ans[u].next.toNat, by omega⟩
        rw [hyy, toNat_cast] at hy hone
        have hMat5 := (hMat.keep g1 fun b hb h => h hb).keep GA fun b hb h => h hb
        have hmm : (oneF G s.ans[u] u).map (P ++ ·) = (G y).map ((P ++ [(u : Int)]) ++ ·) := by
          rw [hone, List.map_map]
          exact List.map_congr_left fun z _ => by simp
        rw [hyy]
        refine yes (by omega) ⟨_, _, _, hI5.r3.cell rfl, .inl ⟨124, #[], _, rfl, by kernel_rfl, (ih w5 y (P ++ [(u : Int)]) o3 c3' M2 _ (fun d hd => by have := hW _ (.more hy hd); omega) (hin _ _ hy) (by simp; omega) hI5 hMat5 hR5).mono ?_⟩⟩
        rintro e w7 (⟨rfl, M3, po3, pc3, hI7, hR7, hM23, g7⟩ | ⟨rfl, m, hm, hx⟩)
        · refine ⟨_, rfl, fun _ => ⟨_, _, _, hI7.r1.cell rfl, _, _, _, hI7.r1.cell rfl, pop w7 M3 po3 pc3 hI7 ?_ (fun b hb => hM23 b (hM12 b hb)) (GA.trans' g7)⟩, fun h => (by cases h)⟩
          rw [htake, List.map_append, hmm, ← List.append_assoc]
          exact hR7
        · exact ⟨_, rfl, fun h => (by cases h), fun _ => .inr ⟨rfl, stop m w7 (by rw [hmm]; exact hm) hx⟩⟩
    · have := dF hge
      obtain rfl : u = s.ans.length := by omega
      rw [List.take_length] at hR1
      exact ⟨M1, po1, pc1, hI1, hR1, hM1, g1⟩
end Go.Proofs.Ytbaacpfjecbbgaa
