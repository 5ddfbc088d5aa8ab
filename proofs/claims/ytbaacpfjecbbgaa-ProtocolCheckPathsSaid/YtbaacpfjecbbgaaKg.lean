/- CountPaths. -/
import Derived.Test.YtbaacpfjecbbgaaKf
namespace Go.Proofs.Ytbaacpfjecbbgaa
open Go Go.Nf

theorem elem142 : Elem Try.prog 142 2 1 8 := elem_of (by kernel_rfl)
theorem zero2 : zeroL Try.prog 2 = some [.int .i64 0] := by kernel_rfl
theorem make_counts {w : World} {n : Nat} {K : Value → World → Prop} (hn : n ≤ 200)
    (h : ∀ w', Row w' (hs w) 2 (intsV (List.replicate n 0)) → Grow w w' → hs w' = hs w + 1 → K (.slice (some ⟨hs w, 0, none⟩) n n) w') : RunOk Try.prog (Hold (Instr.makeSlice 142 (.int .i64 (n : Int)) (.int .i64 (n : Int)))) w K :=
  run_make_row elem142 zero2 (by omega) (Int.le_refl _) (by omega) (by omega) fun w1 e1 => by
    rw [toNat_cast] at e1 ⊢
    rw [rep_ints] at e1
    exact h w1 (Row.new e1) (only_alloc e1) (hs_alloc e1)

/-! ### Plain -/
def inf : Nat := 4611686018427387904
/-- a number that does not grow past a limit -/
def sat (n : Nat) : Nat := min n inf
theorem sat_le (n : Nat) : sat n ≤ inf := Nat.min_le_right _ _
theorem sat_add (a b : Nat) : (if (inf : Int) - (sat b : Int) < (sat a : Int) then (inf : Int) - (sat b : Int) else (sat a : Int)) + (sat b : Int) = (sat (a + b) : Nat) := by
  unfold sat
  split <;> omega
theorem topo_same {nx nx' : Nat → List Nat} {l : List Nat} (h : ∀ q x, x ∈ nx q ↔ x ∈ nx' q) (t : Topo nx l) : Topo nx' l := ⟨t.nodup, fun i x hi y hy => t.follows i x hi y ((h x y).2 hy)⟩
/-- what stands in the rows of the questions that are done -/
structure Done (l : List Nat) (j n : Nat) (v : Nat → Int) (cs : List Int) : Prop where
  len : cs.length = n
  done : ∀ (i x : Nat), i < j → l[i]? = some x → gI cs x = v x
  rest : ∀ x, (∀ i : Nat, i < j → l[i]? ≠ some x) → gI cs x = 0
theorem Done.start {l : List Nat} {n : Nat} {v : Nat → Int} : Done l 0 n v (List.replicate n 0) := ⟨by simp, fun i _ h => by omega, fun x _ => gI_rep n x⟩
theorem Done.more {nx : Nat → List Nat} {l : List Nat} {j n q : Nat} {v : Nat → Int} {cs cs' : List Int} (h : Done l j n v cs) (ht : Topo nx l) (hq : l[j]? = some q) (hl : cs'.length = cs.length) (hs : ∀ x, x ≠ q → gI cs' x = gI cs x) (hv : gI cs' q = v q) : Done l (j + 1) n v cs' := by
  refine ⟨hl.trans h.len, fun i x hi hx => ?_, fun x hx => ?_⟩
  · by_cases e : i = j
    · subst e
      rw [hq] at hx
      cases hx
      exact hv
    · rw [hs x fun e2 => e (ht.nodup i j q (by rw [hx, e2]) hq)]
      exact h.done i x (by omega) hx
  · rw [hs x fun e => hx j (by omega) (by rw [hq, e])]
    exact h.rest x fun i hi => hx i (by omega)
/-- the question that is begun has nothing yet -/
theorem Done.none {nx : Nat → List Nat} {l : List Nat} {j n q : Nat} {v : Nat → Int} {cs : List Int} (h : Done l j n v cs) (ht : Topo nx l) (hq : l[j]? = some q) : gI cs q = 0 :=
  h.rest q fun i hi hx => by have := ht.nodup i j q hx hq; omega
/-- all that follows it is done -/
theorem Done.follow {nx : Nat → List Nat} {l : List Nat} {j n q y : Nat} {v : Nat → Int} {cs : List Int} (h : Done l j n v cs) (ht : Topo nx l) (hq : l[j]? = some q) (hy : y ∈ nx q) : gI cs y = v y ∧ y ≠ q := by
  obtain ⟨i, hi, hx⟩ := ht.follows j q hq y hy
  exact ⟨h.done i y hi hx, fun e => by have := ht.nodup i j q (by rw [hx, e]) hq; omega⟩
theorem ansF_len (G : Nat → List (List Int)) (l : List Ans) {u : Nat} (h : u < l.length) : (ansF G (l.take (u + 1)) 0).length = (ansF G (l.take u) 0).length + (oneF G l[u] u).length := by
  rw [ansF_take G l h, List.length_append]
theorem castL_get {l : List Nat} {i : Nat} (h : i < l.length) : (castL l)[i]'(by rw [castL_len]; exact h) = (l[i] : Int) := by simp [castL]
set_option maxHeartbeats 4000000 in
theorem countPaths_c (o : Option Addr) (c : Nat) (p : Prot) (hf : p.qs.length ≤ 9223372036854775807) (w : World) {A : Nat → Prop} (h : Qs w A o p.qs) :
    Calls Try.prog 63 #[.agg #[.string p.name, .int .i64 p.version, .slice o p.qs.length c]] w fun e w' => ∃ x y, Ending' p x y ∧ e = .returned (.int .i64 (sat (waysB p y).length)) ∧ Grow w w' := by
  refine nf63 p.name p.version o p.qs.length c w _ fun w1 e1 => ?_
  have r := Row.new e1
  have g : Grow w w1 := only_alloc e1
  refine ⟨_, r.cell rfl, _, r.cell rfl, _, _, _, r.cell rfl, (terminates_c o c p hf w1 (h.grow g)).mono ?_⟩
  rintro _ w2 ⟨x, y, rfl, hE, g2⟩
  have r2 := r.grow g2
  have h2 := (h.grow g).grow g2
  refine ⟨_, rfl, fun hy => ?_, fun hy => ⟨x, y, hE, by rw [show waysB p y = [] from if_neg (dF hy)]; rfl, g.trans' g2⟩⟩
  have hy := dT hy
  subst hy
  have hv := ending_valid hE
  have V := valid_of hv
  have htop := V.top
  have hpos := V.pos
  have hac := ending_acyclic hE
  refine ⟨_, _, _, r2.cell rfl, make_counts (by omega) fun w3 r3 g3 hs3 => ⟨_, _, _, rfl, ?_⟩⟩
  have rp3 := r2.grow g3
  refine ⟨_, rp3.cell rfl, _, rp3.cell rfl, _, _, _, rp3.cell rfl, (followers_c o c p (by omega) V.ans w3 (h2.grow g3)).mono ?_⟩
  rintro _ w4 ⟨o4, c4, rows, rfl, hR, hM4, g4⟩
  have hsame := same_nx hR
  have hOk := ok_rows hR V.inside
  have hrl := hR.len
  refine ⟨_, _, _, rfl, ?_⟩
  rw [← hrl]
  refine (order_c o4 c4 rows 0 (by omega) hOk (by omega) (fun j hj hc => hac j (hj.closed (m := fun y => y < p.qs.length) (fun i _ y hy => valid_in hv i y ((hsame i y).1 hy)) (by omega)) ((cyc_same hsame j).1 hc)) w4 (fun b hb => hb.2) hM4).mono ?_
  rintro _ w5 ⟨l, lo, lc, rfl, hT, hfr, h0l, hll, hN5, g5⟩
  have hT := topo_same hsame hT
  have r5 := (r3.grow g4).grow g5
  have rp5 := (rp3.grow g4).grow g5
  have h5 := ((h2.grow g3).grow g4).grow g5
  have G5 := ((((g.trans' g2).trans' g3).trans' g4).trans' g5)
  have hcl : (castL l).length = l.length := castL_len l
  have sb := g2.size
  have s1 := g.size
  have s4 := g4.size
  have r1lt := r.lt
  have hlq : ∀ x, x ∈ l → x < p.qs.length := fun x hx => (hfr x hx).closed (m := fun y => y < p.qs.length) (fun i _ y hy => valid_in hv i y ((hsame i y).1 hy)) (by omega)
  -- the number of the ways from a question on
  obtain ⟨v, hvd⟩ : ∃ v : Nat → Int, v = fun q => ((sat (paths p.qs q).length : Nat) : Int) := ⟨_, rfl⟩
  refine ⟨_, _, _, rfl, fun k x w' => ∃ (j : Nat) (cs : List Int), x = (j : Int) ∧ j ≤ l.length ∧ k = l.length - j ∧ Done l j p.qs.length v cs ∧ Row w' (hs w2) 2 (intsV cs) ∧ Only (fun b => b = hs w2) w5 w', ⟨_, 0, _, rfl, Nat.zero_le _, rfl, Done.start, r5, Only.refl _ _⟩, ?_⟩
  rintro k _ w6 x ⟨j, cs, rfl, hj, rfl, hD, r6, g6⟩
  have G6 : Grow w w6 := G5.trans g6 fun b hb e => by omega
  have hcsl := hD.len
  refine ⟨fun hlt => ?_, fun hge => ?_⟩
  · have hlt : j < l.length := by have := dT hlt; omega
    obtain ⟨a, ha, hc⟩ := (hN5.keep g6 fun b hb e => by have := r3.lt; omega).get (j := j) (by omega)
    rw [castL_get hlt] at hc
    have hjq : l[j]? = some l[j] := List.getElem?_eq_getElem hlt
    have hq := hlq _ (List.getElem_mem hlt)
    generalize l[j] = q at *
    have hG : Only (fun b => b = hs w2) w5 w6 := g6
    obtain ⟨a7, oi, ci, ha7, hc0, hc1, hr7⟩ := h.get hq
    have hc1 := cell_keep G6 (fun h => h) hc1
    have hqs : p.qs[q]? = some p.qs[q] := List.getElem?_eq_getElem hq
    have hpe := paths_eq (valid_in hv) hac hqs
    have hans := V.ans _ (List.getElem_mem hq)
    have hnx : ∀ a, a ∈ p.qs[q].ans → 0 ≤ a.next → a.next.toNat ∈ nxP p.qs q := fun a ha h0 => nx_of_ans hqs ha h0
    generalize p.qs[q] = s at *
    have rp6 : Row w6 (hs w) 24 [.string p.name, .int .i64 p.version, .slice o p.qs.length c] := rp5.keep g6 (by omega)
    refine ⟨a, ha, ⟨by omega, by omega⟩, _, hc, _, _, _, rp6.cell rfl, a7, ha7, ⟨by omega, by omega⟩, _, _, _, hc1, fun k x w' => ∃ (u : Nat) (cs' : List Int), x = (u : Int) ∧ u ≤ s.ans.length ∧ k = s.ans.length - u ∧ cs'.length = cs.length ∧ (∀ x, x ≠ q → gI cs' x = gI cs x) ∧
      gI cs' q = (sat (ansF (paths p.qs) (s.ans.take u) 0).length : Nat) ∧ Row w' (hs w2) 2 (intsV cs') ∧ Only (fun b => b = hs w2) w6 w',
      ⟨_, 0, cs, rfl, Nat.zero_le _, rfl, rfl, fun _ _ => rfl, by rw [hD.none hT hjq]; rfl, r6, Only.refl _ _⟩, ?_⟩
    rintro k _ w7 x ⟨u, cs', rfl, hu, rfl, hl', hs', hat, r7, g7⟩
    have G7 : Grow w w7 := G6.trans g7 fun b hb e => by omega
    refine ⟨fun hlt2 => ?_, fun hge2 => ?_⟩
    · have hlt2 : u < s.ans.length := by have := dT hlt2; omega
      obtain ⟨a8, ha8, d0, d1, d2, d3⟩ := Recs.ans (hr7.grow G7) hlt2
      have ham : s.ans[u] ∈ s.ans := List.getElem_mem hlt2
      refine ⟨a8, ha8, ⟨by omega, by omega⟩, _, d0, _, d1, _, d2, _, d3, fun w8 e8 => ⟨(Row.new e8).there (by simp), fun w9 e9 K hK => ?_⟩⟩
      obtain ⟨r9, g9⟩ := loc e8 e9 rfl
      have r79 := r7.grow g9
      have fin : ∀ x : Int, x = ((sat (oneF (paths p.qs) s.ans[u] u).length : Nat) : Int) → K x w9 := by
        rintro x rfl
        refine hK _ _ fun _ => ⟨_, rfl, ⟨by omega, by omega⟩, _, r79.cellAdd (intsV_get (by omega)), _, rfl, ⟨by omega, by omega⟩, r79.thereAdd (by rw [toNat_cast, intsV_len]; simp; omega), fun w10 e10 => ?_⟩
        have r10 := r79.setAdd e10
        rw [intsV_set] at r10
        have b1 := sat_le (oneF (paths p.qs) s.ans[u] u).length
        have b2 := sat_le (ansF (paths p.qs) (s.ans.take u) 0).length
        have hinf : inf = 4611686018427387904 := rfl
        have hsum := sat_add (ansF (paths p.qs) (s.ans.take u) 0).length (oneF (paths p.qs) s.ans[u] u).length
        rw [← ansF_len (paths p.qs) s.ans hlt2] at hsum
        have b3 := sat_le (ansF (paths p.qs) (s.ans.take (u + 1)) 0).length
        refine ⟨_, by omega, u + 1, _, by rw [wr (by omega)]; omega, hlt2, rfl, by simpa using hl', fun z hz => by rw [gI_set (by omega), if_neg hz]; exact hs' z hz, ?_, r10, (g7.grow g9).trans' (only_setAdd e10)⟩
        rw [gI_set (by omega), if_pos rfl, hat, wr (x := 4611686018427387904 - _) (by omega)]
        rw [hinf] at hsum
        have hsum' : (if (4611686018427387904 : Int) - ((sat (oneF (paths p.qs) s.ans[u] u).length : Nat) : Int) < ((sat (ansF (paths p.qs) (s.ans.take u) 0).length : Nat) : Int) then (4611686018427387904 : Int) - ((sat (oneF (paths p.qs) s.ans[u] u).length : Nat) : Int) else ((sat (ansF (paths p.qs) (s.ans.take u) 0).length : Nat) : Int)) + ((sat (oneF (paths p.qs) s.ans[u] u).length : Nat) : Int) = ((sat (ansF (paths p.qs) (s.ans.take (u + 1)) 0).length : Nat) : Int) := hsum
        rw [hsum', wr (by omega)]
      refine ⟨_, r9.cell rfl, fun h0 => ?_, fun h0 => fin 1 ?_⟩
      · have h0 := dT h0
        have hy := hnx _ ham h0
        obtain ⟨y, hyy⟩ : ∃ y : Nat, s.ans[u].next = (y : Int) := ⟨s.ans[u].next.toNat, by omega⟩
        have hone : oneF (paths p.qs) s.ans[u] u = (paths p.qs s.ans[u].next.toNat).map ((u : Int) :: ·) := if_neg (by omega)
        rw [hyy, toNat_cast] at hy hone
        obtain ⟨f1, f2⟩ := hD.follow hT hjq hy
        have hyn := valid_in hv _ _ hy
        have f3 := (hs' y f2).trans f1
        refine ⟨_, r9.cell rfl, ?_⟩
        show ∃ a, _ ∧ (_ ∧ s.ans[u].next < _) ∧ _
        rw [hyy]
        refine ⟨_, rfl, ⟨by omega, by omega⟩, _, r79.cellAdd (intsV_get (by omega)), fin _ ?_⟩
        rw [f3, hvd, hone, List.length_map]
      · have h0 := dF h0
        rw [show oneF (paths p.qs) s.ans[u] u = [[(u : Int)]] from if_pos (by omega)]
        rfl
    · have := dF hge2
      obtain rfl : u = s.ans.length := by omega
      rw [List.take_length, ← hpe] at hat
      refine ⟨_, by omega, j + 1, cs', by rw [wr (by omega)]; omega, hlt, rfl, hD.more hT hjq hl' hs' (by rw [hat, hvd]), r7, g6.trans' g7⟩
  · have := dF hge
    obtain rfl : j = l.length := by omega
    obtain ⟨i, hi, e⟩ := List.getElem_of_mem h0l
    have hv0 := hD.done i 0 hi (by rw [List.getElem?_eq_getElem hi, e])
    have c0 := r6.cellAdd (intsV_get (xs := cs) (j := 0) (by omega))
    rw [hv0] at c0
    refine ⟨_, rfl, ⟨by omega, by omega⟩, _, (by rwa [show ((0 : Nat) : Int).toNat * 1 = 0 from rfl, add_zero] at c0), x, 0, hE, by rw [hvd]; rfl, G6⟩
end Go.Proofs.Ytbaacpfjecbbgaa
