/- The reference's Count. -/
import Derived.Test.YtbaacpfjecbbgaaMa
namespace Go.Proofs.Ytbaacpfjecbbgaa
open Go Go.Nf

/-! ### Plain -/
theorem sat_sum (a b : Nat) : sat (sat a + sat b) = sat (a + b) := by unfold sat; omega
theorem sat_add_congr {a b a' b' : Nat} (h : sat a = sat a') (h' : sat b = sat b') : sat (a + b) = sat (a' + b') := by rw [← sat_sum, h, h', sat_sum]
def stepF (f : Nat → Nat) (a : Ans) : Nat := if a.next < 0 then 1 else f a.next.toNat
def sumF (f : Nat → Nat) : List Ans → Nat
  | [] => 0
  | a :: l => stepF f a + sumF f l
theorem sumF_take (f : Nat → Nat) : ∀ (l : List Ans) {u : Nat} (h : u < l.length), sumF f (l.take (u + 1)) = sumF f (l.take u) + stepF f l[u]
  | a :: l, 0, _ => by simp [sumF]
  | a :: l, u + 1, h => by
    have := sumF_take f l (u := u) (by simpa using h)
    simp only [List.take_succ_cons, sumF, List.getElem_cons_succ] at this ⊢
    omega
theorem ansF_sum (G : Nat → List (List Int)) : ∀ (l : List Ans) (k : Nat), (ansF G l k).length = sumF (fun y => (G y).length) l
  | [], _ => rfl
  | a :: l, k => by
    rw [ansF, List.length_append, ansF_sum G l, sumF]
    congr 1
    unfold oneF stepF
    split <;> simp
theorem sumF_sat {f g : Nat → Nat} : ∀ (l : List Ans), (∀ a, a ∈ l → 0 ≤ a.next → sat (f a.next.toNat) = sat (g a.next.toNat)) → sat (sumF f l) = sat (sumF g l)
  | [], _ => rfl
  | a :: l, h => by
    refine sat_add_congr ?_ (sumF_sat l fun b hb => h b (List.mem_cons_of_mem _ hb))
    unfold stepF
    split
    · rfl
    · exact h a (by simp) (by omega)
/-- behind r rounds and i questions of the next -/
structure Cnt (qs : List Qst) (l : List Int) (r i : Nat) : Prop where
  len : l.length = qs.length
  all : ∀ y, y < qs.length → (∀ d, Walk (nxP qs) y d → d ≤ r) → gI l y = (sat (paths qs y).length : Nat)
  more : ∀ y, y < qs.length → y < i → (∀ d, Walk (nxP qs) y d → d ≤ r + 1) → gI l y = (sat (paths qs y).length : Nat)
  val : ∀ y, ∃ m : Nat, gI l y = (sat m : Nat)
theorem Cnt.start {qs : List Qst} : Cnt qs (List.replicate qs.length 0) 0 0 :=
  ⟨by simp, fun y _ h => by have := h 1 (.one y); omega, fun y _ h => by omega, fun y => ⟨0, by rw [gI_rep]; rfl⟩⟩
theorem Cnt.round {qs : List Qst} {l : List Int} {r : Nat} (h : Cnt qs l r qs.length) : Cnt qs l (r + 1) 0 := ⟨h.len, fun y hy hd => h.more y hy hy hd, fun y _ h => by omega, h.val⟩
theorem Cnt.node {qs : List Qst} {l l' : List Int} {r i : Nat} {s : Qst} {f : Nat → Nat} (h : Cnt qs l r i) (hf : ∀ y, gI l y = (sat (f y) : Nat)) (hs : qs[i]? = some s) (hin : ∀ q x, x ∈ nxP qs q → x < qs.length) (hac : ∀ j, j < qs.length → ¬ Cyc (nxP qs) j) (hl : l'.length = l.length) (hsame : ∀ y, y ≠ i → gI l' y = gI l y) (hv : gI l' i = (sat (sumF f s.ans) : Nat)) : Cnt qs l' r (i + 1) := by
  have key : (∀ d, Walk (nxP qs) i d → d ≤ r + 1) → gI l' i = (sat (paths qs i).length : Nat) := fun hd => by
    rw [hv, paths_eq hin hac hs, ansF_sum]
    congr 1
    refine sumF_sat _ fun a ha h0 => ?_
    have hx := nx_of_ans hs ha h0
    have h1 := h.all _ (hin _ _ hx) fun d hw => by have := hd _ (.more hx hw); omega
    rw [hf] at h1
    omega
  refine ⟨hl.trans h.len, fun y hy hd => ?_, fun y hy hyi hd => ?_, fun y => ?_⟩
  · by_cases e : y = i
    · subst e; exact key fun d hw => by have := hd d hw; omega
    · rw [hsame y e]; exact h.all y hy hd
  · by_cases e : y = i
    · subst e; exact key hd
    · rw [hsame y e]; exact h.more y hy (by omega) hd
  · by_cases e : y = i
    · subst e; exact ⟨_, hv⟩
    · rw [hsame y e]; exact h.val y

theorem never_c (w : World) : Calls Try.prog 125 #[] w fun e w' => e = .returned (.int .i64 4611686018427387904) ∧ w = w' := nf125 w _ ⟨rfl, rfl⟩
theorem add_c (a b : Nat) (x y : Int) (hx : x = (sat a : Nat)) (hy : y = (sat b : Nat)) (w : World) : Calls Try.prog 102 #[.int .i64 x, .int .i64 y] w fun e w' => e = .returned (.int .i64 ((sat (a + b) : Nat) : Int)) ∧ w = w' := by
  have ha := sat_le a
  have hb := sat_le b
  have hs' := sat_sum a b
  have hinf : inf = 4611686018427387904 := rfl
  refine nf102 x y w _ ((never_c w).mono ?_)
  rintro _ _ ⟨rfl, rfl⟩
  refine ⟨_, rfl, fun h1 => (never_c w).mono ?_, fun h1 => ⟨ret_int ?_, rfl⟩⟩
  · rintro _ _ ⟨rfl, rfl⟩
    have h1 := dT h1
    rw [wr (by omega)] at h1
    refine ⟨_, rfl, ret_int ?_, rfl⟩
    have : sat (sat a + sat b) = inf := by unfold sat; unfold sat at ha hb hx hy; omega
    omega
  · have h1 := dF h1
    rw [wr (by omega)] at h1
    rw [wr (by omega)]
    have : sat (sat a + sat b) = sat a + sat b := by
      have hle : sat a + sat b ≤ inf := by omega
      exact Nat.min_eq_left hle
    omega
set_option maxHeartbeats 4000000 in
theorem count_c (o : Option Addr) (c : Nat) (p : Prot) (hf : FitP p) (w : World) {A : Nat → Prop} (h : Qs w A o p.qs) :
    Calls Try.prog 64 #[.agg #[.string p.name, .int .i64 p.version, .slice o p.qs.length c]] w fun e w' => ∃ x y, Ending' p x y ∧ e = .returned (.int .i64 (sat (waysB p y).length)) ∧ Grow w w' := by
  refine nf64 p.name p.version o p.qs.length c w _ fun w1 e1 => ?_
  have r := Row.new e1
  have g : Grow w w1 := only_alloc e1
  refine ⟨_, r.cell rfl, _, r.cell rfl, _, _, _, r.cell rfl, (ends_c o c p hf w1 (h.grow g)).mono ?_⟩
  rintro _ w2 ⟨x, y, rfl, hE, g2⟩
  have r2 := r.grow g2
  have h2 := (h.grow g).grow g2
  have G2 := g.trans' g2
  refine ⟨_, _, rfl, fun hy => ⟨x, y, hE, by rw [show waysB p y = [] from if_neg (nT hy)]; rfl, G2⟩, fun hy => ?_⟩
  have hy := nF hy
  subst hy
  have hv := ending_valid hE
  have V := valid_of hv
  have htop := V.top
  have hpos := V.pos
  have hac := ending_acyclic hE
  have hin := valid_in hv
  have s1 := r.lt
  refine ⟨_, _, _, r2.cell rfl, make_counts (by omega) fun w3 rn g3 hs3 => ⟨_, _, _, rfl, ?_⟩⟩
  have G3 := G2.trans' g3
  have s2 := g2.size
  have hw := g.size
  refine ⟨fun k x w' => ∃ (t : Nat) (l : List Int), x = (t : Int) ∧ t ≤ p.qs.length ∧ k = p.qs.length - t ∧ Cnt p.qs l t 0 ∧ Row w' (hs w2) 2 (intsV l) ∧ Only (fun b => b = hs w2) w3 w', ⟨_, 0, _, rfl, Nat.zero_le _, rfl, Cnt.start, rn, Only.refl _ _⟩, ?_⟩
  rintro k _ w4 x ⟨t, l, rfl, ht, rfl, hD, r4, g4⟩
  refine ⟨fun hlt => ?_, fun hge => ?_⟩
  · have hlt : t < p.qs.length := by have := dT hlt; omega
    refine ⟨fun k x w' => ∃ (i : Nat) (l : List Int), x = (i : Int) ∧ i ≤ p.qs.length ∧ k = p.qs.length - i ∧ Cnt p.qs l t i ∧ Row w' (hs w2) 2 (intsV l) ∧ Only (fun b => b = hs w2) w3 w', ⟨_, 0, l, rfl, Nat.zero_le _, rfl, hD, r4, g4⟩, ?_⟩
    rintro k _ w5 x ⟨i, l, rfl, hi, rfl, hD, r5, g5⟩
    have hll := hD.len
    refine ⟨fun hlt2 => ?_, fun hge2 => ?_⟩
    · have hlt2 : i < p.qs.length := by have := dT hlt2; omega
      refine ⟨_, rfl, ⟨by omega, by omega⟩, r5.thereAdd (by rw [toNat_cast, intsV_len]; simp; omega), fun w6 e6 => ?_⟩
      have r6 := r5.setAdd e6
      rw [intsV_set] at r6
      have g6 : Only (fun b => b = hs w2) w3 w6 := g5.trans' (only_setAdd e6)
      have hqs : p.qs[i]? = some p.qs[i] := List.getElem?_eq_getElem hlt2
      obtain ⟨a7, oi, ci, ha7, hc0, hc1, hr7⟩ := h.get hlt2
      have hans := V.ans _ (List.getElem_mem hlt2)
      have hok : ∀ a, a ∈ p.qs[i].ans → OkAns p.qs a := fun a ha => ok_ans hv (List.getElem_mem hlt2) ha
      generalize p.qs[i] = s at *
      obtain ⟨f, hf'⟩ := Classical.axiomOfChoice hD.val
      refine ⟨fun k x w' => ∃ (u : Nat) (l' : List Int), x = (u : Int) ∧ u ≤ s.ans.length ∧ k = s.ans.length - u ∧ l'.length = l.length ∧ (∀ y, y ≠ i → gI l' y = gI l y) ∧ gI l' i = (sat (sumF f (s.ans.take u)) : Nat) ∧ Row w' (hs w2) 2 (intsV l') ∧ Only (fun b => b = hs w2) w3 w',
        ⟨_, 0, _, rfl, Nat.zero_le _, rfl, by simp, fun y hy => by rw [gI_set (by omega), if_neg hy], by rw [gI_set (by omega), if_pos rfl]; rfl, r6, g6⟩, ?_⟩
      rintro k _ w7 x ⟨u, l', rfl, hu, rfl, hl', hs', hat, r7, g7⟩
      have G7 : Grow w w7 := G3.trans g7 fun b hb e => by omega
      have rp7 : Row w7 (hs w) 24 [.string p.name, .int .i64 p.version, .slice o p.qs.length c] := (r2.grow g3).keep g7 (by omega)
      have hc17 := cell_keep G7 (fun h => h) hc1
      refine ⟨_, _, _, rp7.cell rfl, a7, ha7, ⟨by omega, by omega⟩, _, _, _, hc17, fun hlt3 K hK => ?_, fun hge3 => ?_⟩
      · have hlt3 : u < s.ans.length := by have := dT hlt3; omega
        obtain ⟨a8, ha8, d0, d1, d2, d3⟩ := Recs.ans (hr7.grow G7) hlt3
        have ham : s.ans[u] ∈ s.ans := List.getElem_mem hlt3
        have hok' := hok _ ham
        have htake := sumF_take f s.ans hlt3
        have next : ∀ w' l'', l''.length = l'.length → (∀ y, y ≠ i → gI l'' y = gI l' y) → gI l'' i = (sat (sumF f (s.ans.take (u + 1))) : Nat) → Row w' (hs w2) 2 (intsV l'') → Only (fun b => b = hs w2) w7 w' → K w' := fun w' l'' q1 q2 q3 q4 q5 =>
          hK _ fun _ => ⟨_, by omega, u + 1, l'', by rw [wr (by omega)]; omega, hlt3, rfl, q1.trans hl', fun y hy => (q2 y hy).trans (hs' y hy), q3, q4, g7.trans' q5⟩
        refine ⟨_, _, _, rp7.cell rfl, a7, ha7, ⟨by omega, by omega⟩, _, _, _, hc17, a8, ha8, ⟨by omega, by omega⟩, _, d0, _, d1, _, d2, _, d3, fun w8 e8 => ⟨(Row.new e8).there (by simp), fun w9 e9 => ?_⟩⟩
        obtain ⟨r9, g9⟩ := loc e8 e9 rfl
        have ci := fun {w' : World} (r' : Row w' (hs w2) 2 (intsV l')) => r'.cellAdd (intsV_get (xs := l') (j := i) (by omega))
        have last : ∀ (w' w'' : World) (z : Int), Grow w7 w' → z = (sat (sumF f (s.ans.take (u + 1))) : Nat) → Row w' (hs w2) 2 (intsV l') → w'' = setCells w' ((⟨hs w2, 0, none⟩ : Addr).add ((i : Int).toNat * 1)) [.int .i64 z] 0 → K w'' := fun w' w'' z q1 q2 q3 e => by
          have r' := q3.setAdd e
          rw [intsV_set] at r'
          exact next _ _ (by simp) (fun y hy => by rw [gI_set (by omega), if_neg hy]) (by rw [gI_set (by omega), if_pos rfl, q2]) r' ((Grow.only q1).trans' (only_setAdd e))
        refine ⟨_, r9.cell rfl, fun h0 => ?_, fun h0 w10 e10 => ?_⟩
        · have h0 := dT h0
          have r79 := r7.grow g9
          refine ⟨_, rfl, ⟨by omega, by omega⟩, _, ci r79, (add_c (sumF f (s.ans.take u)) 1 _ 1 hat rfl w9).mono ?_⟩
          rintro _ _ ⟨rfl, rfl⟩
          refine ⟨_, rfl, _, rfl, ⟨by omega, by omega⟩, r79.thereAdd (by rw [toNat_cast, intsV_len]; simp; omega), fun w11 e11 => last w9 w11 _ g9 ?_ r79 e11⟩
          rw [htake, show stepF f s.ans[u] = 1 from if_pos (by omega)]
        · have h0 := dF h0
          have hlow := hok'.low
          obtain ⟨y, hyy⟩ : ∃ y : Nat, s.ans[u].next = (y : Int) := ⟨s.ans[u].next.toNat, by omega⟩
          have hx := nx_of_ans hqs ham (by omega)
          rw [hyy, toNat_cast] at hx
          have hyn := hin _ _ hx
          have hyi : y ≠ i := fun e => hac i hlt2 ⟨y, hx, by rw [e]; exact .refl _⟩
          have g710 : Grow w7 w10 := g9.trans' (only_drew e10)
          have r10 := r7.grow g710
          have r910 := r9.grow (only_drew e10 : Grow w9 w10)
          refine ⟨_, rfl, ⟨by omega, by omega⟩, _, ci r10, _, r910.cell rfl, ?_⟩
          show ∃ a, _ ∧ (_ ∧ s.ans[u].next < _) ∧ _
          rw [hyy]
          refine ⟨_, rfl, ⟨by omega, by omega⟩, _, r10.cellAdd (intsV_get (xs := l') (j := y) (by omega)), (add_c (sumF f (s.ans.take u)) (f y) _ _ hat ((hs' y hyi).trans (hf' y)) w10).mono ?_⟩
          rintro _ _ ⟨rfl, rfl⟩
          refine ⟨_, rfl, _, rfl, ⟨by omega, by omega⟩, r10.thereAdd (by rw [toNat_cast, intsV_len]; simp; omega), fun w11 e11 => last w10 w11 _ g710 ?_ r10 e11⟩
          rw [htake, show stepF f s.ans[u] = f y by unfold stepF; rw [if_neg (by omega), hyy, toNat_cast]]
      · have := dF hge3
        obtain rfl : u = s.ans.length := by omega
        rw [List.take_length] at hat
        exact ⟨_, by omega, i + 1, l', by rw [wr (by omega)]; omega, hlt2, rfl, hD.node hf' hqs hin hac hl' hs' hat, r7, g7⟩
    · have := dF hge2
      obtain rfl : i = p.qs.length := by omega
      exact ⟨_, by omega, t + 1, l, by rw [wr (by omega)]; omega, hlt, rfl, hD.round, r5, g5⟩
  · have := dF hge
    obtain rfl : t = p.qs.length := by omega
    have hll := hD.len
    have c0 := r4.cellAdd (intsV_get (xs := l) (j := 0) (by omega))
    rw [hD.all 0 (by omega) fun d hw => walk_le hin hac hw (by omega)] at c0
    exact ⟨_, rfl, ⟨by omega, by omega⟩, _, (by rwa [show ((0 : Nat) : Int).toNat * 1 = 0 from rfl, add_zero] at c0), x, 0, hE, rfl, G3.trans g4 fun b hb e => by omega⟩
end Go.Proofs.Ytbaacpfjecbbgaa
