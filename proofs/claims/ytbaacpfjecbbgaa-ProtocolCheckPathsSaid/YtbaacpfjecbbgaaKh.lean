/- MaxQuestions. -/
import Derived.Test.YtbaacpfjecbbgaaKg
namespace Go.Proofs.Ytbaacpfjecbbgaa
open Go Go.Nf

/-! ### Plain -/
/-- the longest walk -/
def Top (nx : Nat → List Nat) (x m : Nat) : Prop := (∀ d, Walk nx x d → d ≤ m) ∧ Walk nx x m
theorem Top.one {nx : Nat → List Nat} {x m m' : Nat} (h : Top nx x m) (h' : Top nx x m') : m = m' := Nat.le_antisymm (h'.1 m h.2) (h.1 m' h'.2)
/-- so many are behind it -/
theorem max_ex (f : Nat → Nat) : ∀ l : List Nat, ∃ m, (∀ y, y ∈ l → f y ≤ m) ∧ ((l = [] ∧ m = 0) ∨ ∃ y, y ∈ l ∧ f y = m)
  | [] => ⟨0, fun y h => by simp at h, .inl ⟨rfl, rfl⟩⟩
  | a :: l => by
    obtain ⟨m, h1, h2⟩ := max_ex f l
    by_cases h : f a ≤ m
    · rcases h2 with ⟨rfl, rfl⟩ | ⟨y, hy, e⟩
      · exact ⟨0, fun y hy => by rw [List.mem_singleton] at hy; rw [hy]; exact h, .inr ⟨a, by simp, by omega⟩⟩
      · exact ⟨m, fun y hy => by rcases List.mem_cons.1 hy with rfl | hy; exact h; exact h1 y hy, .inr ⟨y, List.mem_cons_of_mem _ hy, e⟩⟩
    · exact ⟨f a, fun y hy => by rcases List.mem_cons.1 hy with rfl | hy; exact Nat.le_refl _; have := h1 y hy; omega, .inr ⟨a, by simp, rfl⟩⟩
theorem top_of {nx : Nat → List Nat} {x m : Nat} {f : Nat → Nat} (hf : ∀ y, y ∈ nx x → Top nx y (f y)) (h1 : ∀ y, y ∈ nx x → f y ≤ m) (h2 : (m = 0) ∨ ∃ y, y ∈ nx x ∧ f y = m) : Top nx x (m + 1) := by
  refine ⟨fun d hd => ?_, ?_⟩
  · cases hd with
    | one => omega
    | more hx h => have := (hf _ hx).1 _ h; have := h1 _ hx; omega
  · rcases h2 with rfl | ⟨y, hy, rfl⟩
    · exact .one x
    · exact .more hy (hf y hy).2
theorem top_ex {nx : Nat → List Nat} {l : List Nat} (ht : Topo nx l) : ∀ (k i x : Nat), i ≤ k → l[i]? = some x → ∃ m, Top nx x m ∧ m ≤ i + 1 := by
  intro k
  induction k with
  | zero =>
    intro i x hi hx
    have hn : ∀ y, y ∈ nx x → False := fun y hy => by obtain ⟨j, hj, _⟩ := ht.follows i x hx y hy; omega
    exact ⟨1, ⟨fun d hd => by cases hd with | one => omega | more h _ => exact (hn _ h).elim, .one x⟩, by omega⟩
  | succ k ih =>
    intro i x hi hx
    have hex : ∀ y, ∃ m, y ∈ nx x → Top nx y m ∧ m ≤ i := fun y => by
      by_cases hy : y ∈ nx x
      · obtain ⟨j, hj, hjy⟩ := ht.follows i x hx y hy
        obtain ⟨m, h1, h2⟩ := ih j y (by omega) hjy
        exact ⟨m, fun _ => ⟨h1, by omega⟩⟩
      · exact ⟨0, fun h => absurd h hy⟩
    obtain ⟨f, hf⟩ := Classical.axiomOfChoice hex
    obtain ⟨m, h1, h2⟩ := max_ex f (nx x)
    refine ⟨m + 1, top_of (fun y hy => (hf y hy).1) h1 (h2.imp And.right id), ?_⟩
    rcases h2 with ⟨-, rfl⟩ | ⟨y, hy, rfl⟩
    · omega
    · have := (hf y hy).2; omega
/-- how many questions can be asked from q on, or why that has no answer -/
def IsMost (p : Prot) (q m e : Int) : Prop :=
  (validB p = false ∧ m = 0 ∧ e = 1) ∨ (validB p = true ∧ ¬ (0 ≤ q ∧ q < p.qs.length) ∧ m = 0 ∧ e = 4) ∨
  (validB p = true ∧ (0 ≤ q ∧ q < p.qs.length) ∧ (∃ j, Rch (nxP p.qs) q.toNat j ∧ Cyc (nxP p.qs) j) ∧ m = 0 ∧ e = 12) ∨
  (validB p = true ∧ (0 ≤ q ∧ q < p.qs.length) ∧ (∀ j, Rch (nxP p.qs) q.toNat j → ¬ Cyc (nxP p.qs) j) ∧ (∃ d : Nat, m = d ∧ Top (nxP p.qs) q.toNat d) ∧ e = 0)
theorem most_one {p : Prot} {q m e m' e' : Int} (h : IsMost p q m e) (h' : IsMost p q m' e') : m = m' ∧ e = e' := by
  rcases h with ⟨hv, rfl, rfl⟩ | ⟨hv, hq, rfl, rfl⟩ | ⟨hv, hq, ⟨j, hj, hc⟩, rfl, rfl⟩ | ⟨hv, hq, hn, ⟨d, rfl, ht⟩, rfl⟩ <;>
  rcases h' with ⟨hv', rfl, rfl⟩ | ⟨hv', hq', rfl, rfl⟩ | ⟨hv', hq', ⟨j', hj', hc'⟩, rfl, rfl⟩ | ⟨hv', hq', hn', ⟨d', rfl, ht'⟩, rfl⟩ <;>
  first
    | exact ⟨rfl, rfl⟩
    | exact absurd (hv.symm.trans hv') (by decide)
    | exact absurd hq' hq
    | exact absurd hq hq'
    | exact absurd hc' (hn j' hj')
    | exact absurd hc (hn' j hj)
    | exact ⟨by rw [ht.one ht'], rfl⟩
set_option maxHeartbeats 4000000 in
theorem maxQuestions_c (o : Option Addr) (c : Nat) (p : Prot) (q : Int) (hf : p.qs.length ≤ 9223372036854775807) (w : World) {A : Nat → Prop} (h : Qs w A o p.qs) :
    Calls Try.prog 57 #[.agg #[.string p.name, .int .i64 p.version, .slice o p.qs.length c], .int .i64 q] w fun e w' => ∃ m y, e = .returned (.tuple #[.int .i64 m, .int .i64 y]) ∧ IsMost p q m y ∧ Grow w w' := by
  refine nf57 p.name p.version o p.qs.length c q w _ fun w1 e1 => ?_
  have r := Row.new e1
  have g : Grow w w1 := only_alloc e1
  refine ⟨_, r.cell rfl, _, r.cell rfl, _, _, _, r.cell rfl, (isValid_c o c p hf w1 (h.grow g)).mono ?_⟩
  rintro _ w2 ⟨rfl, g2⟩
  have r2 := r.grow g2
  refine ⟨_, rfl, fun hv => ⟨_, r2.cell rfl, _, r2.cell rfl, _, _, _, r2.cell rfl, (isQuestion_c o c p q w2).mono ?_⟩, fun hv => ⟨_, _, rfl, .inl ⟨hv, rfl, rfl⟩, g.trans' g2⟩⟩
  rintro _ w3 ⟨rfl, g3⟩
  have r3 := r2.grow g3
  have V := valid_of hv
  have htop := V.top
  refine ⟨_, rfl, fun hq => ?_, fun hq => ⟨_, _, rfl, .inr (.inl ⟨hv, fun hh => (by rw [decide_eq_true hh.1, decide_eq_true hh.2] at hq; cases hq), rfl, rfl⟩), (g.trans' g2).trans' g3⟩⟩
  simp only [Bool.and_eq_true, decide_eq_true_eq] at hq
  have h3 := ((h.grow g).grow g2).grow g3
  refine ⟨_, r3.cell rfl, _, r3.cell rfl, _, _, _, r3.cell rfl, (followers_c o c p (by omega) V.ans w3 h3).mono ?_⟩
  rintro _ w4 ⟨o4, c4, rows, rfl, hR, hM, g4⟩
  have hlen := hR.len
  have hok := ok_rows hR V.inside
  have hsame := same_nx hR
  obtain ⟨s, rfl⟩ : ∃ i : Nat, q = (i : Int) := ⟨q.toNat, by omega⟩
  have G4 := ((g.trans' g2).trans' g3).trans' g4
  refine ⟨_, _, _, rfl, fun w5 e5 => ?_⟩
  have r5 : Row w5 (hs w4) 3 (intsV (castL [s])) := Row.new e5
  have g5 : Grow w4 w5 := only_alloc e5
  have hre := reachable_c o4 (some ⟨hs w4, 0, none⟩) c4 1 rows [s] (by omega) hok (by simp) (fun x hx => by rw [List.mem_singleton] at hx; omega) w5 (hM.grow g5) (r5.nums (A := fun _ => True) trivial)
  rw [hlen] at hre
  refine hre.mono ?_
  rintro _ w6 ⟨d, rfl, r6, hd, hrc, g6⟩
  have hrc' : ∀ x, gB d x = true ↔ Rch (nxP p.qs) s x := fun x => by
    rw [hrc]
    constructor
    · rintro ⟨f, hf, hr⟩
      rw [List.mem_singleton] at hf
      subst hf
      exact (rch_same hsame _ _).1 hr
    · exact fun hr => ⟨s, by simp, (rch_same hsame _ _).2 hr⟩
  have G6 := (G4.trans' g5).trans' g6
  have hM6 := (hM.grow g5).grow g6
  have hrlt : ∀ x, Rch (nxP p.qs) s x → x < p.qs.length := fun x hx => hx.closed (m := fun y => y < p.qs.length) (fun i _ y hy => valid_in hv i y hy) (by omega)
  refine ⟨_, _, _, rfl, fun k x w' => ∃ j : Nat, x = (j : Int) ∧ j ≤ p.qs.length ∧ k = p.qs.length - j ∧ (∀ i, i < j → Rch (nxP p.qs) s i → ¬ Cyc (nxP p.qs) i) ∧ Grow w6 w', ⟨_, 0, rfl, Nat.zero_le _, rfl, fun i hi => by omega, Only.refl _ _⟩, ?_⟩
  rintro k _ w7 x ⟨j, rfl, hj, rfl, hno, g7⟩
  refine ⟨fun hlt => ?_, fun hge => ?_⟩
  · have hlt : j < p.qs.length := by have := dT hlt; omega
    have go : ∀ w', (Rch (nxP p.qs) s j → ¬ Cyc (nxP p.qs) j) → Grow w6 w' → ∃ n, n < p.qs.length - j ∧ ∃ j' : Nat, IntKind.wrap .i64 ((j : Int) + 1) = (j' : Int) ∧ j' ≤ p.qs.length ∧ n = p.qs.length - j' ∧ (∀ i, i < j' → Rch (nxP p.qs) s i → ¬ Cyc (nxP p.qs) i) ∧ Grow w6 w' := fun w' h1 h2 =>
      ⟨_, by omega, j + 1, by rw [wr (by omega)]; omega, hlt, rfl, fun i hi => by
        by_cases e : i = j
        · subst e; exact h1
        · exact hno i (by omega), h2⟩
    refine ⟨_, rfl, ⟨by omega, by omega⟩, _, (r6.grow g7).cellAdd (boolsV_get (by omega)), fun hb => ?_, fun hb => go _ (fun hr => by rw [(hrc' j).2 hr] at hb; cases hb) g7⟩
    rw [← hlen]
    refine (cyclic_c o4 c4 rows j (by omega) hok (by omega) w7 (hM6.grow g7)).mono ?_
    rintro _ w8 ⟨b, rfl, hb2, g8⟩
    refine ⟨_, rfl, fun h1 => ⟨_, _, rfl, .inr (.inr (.inl ⟨hv, hq, ⟨j, by rw [toNat_cast]; exact (hrc' j).1 hb, (cyc_same hsame j).1 (hb2.1 h1)⟩, rfl, rfl⟩)), (G6.trans' g7).trans' g8⟩, fun h1 => ?_⟩
    have := go w8 (fun _ hc => by rw [hb2.2 ((cyc_same hsame j).2 hc)] at h1; cases h1) (g7.trans' g8)
    rw [hlen]
    exact this
  · have := dF hge
    obtain rfl : j = p.qs.length := by omega
    have hac : ∀ j, Rch (nxP p.qs) s j → ¬ Cyc (nxP p.qs) j := fun j hj => hno j (hrlt j hj) hj
    refine make_ints (by omega) fun w8 r8 g8 hs8 => ⟨_, _, _, rfl, ?_⟩
    rw [← hlen]
    have hM8 := (hM6.grow g7).grow g8
    have s4 := g4.size
    have s6 := g6.size
    have s5 := g5.size
    have s7 := g7.size
    have G8 := (G6.trans' g7).trans' g8
    have sw := G6.size
    have r8lt := r8.lt
    refine (order_c o4 c4 rows s (by omega) hok (by omega) (fun j hj hc => hac j ((rch_same hsame _ _).1 hj) ((cyc_same hsame j).1 hc)) w8 (fun b hb => by omega) hM8).mono ?_
    rintro _ w9 ⟨l, lo, lc, rfl, hT, hfr, h0l, hll, hN9, g9⟩
    have hT := topo_same hsame hT
    have r9 := r8.grow g9
    have hM9 := hM8.grow g9
    have G9 := G8.trans' g9
    have hcl : (castL l).length = l.length := castL_len l
    have hlq : ∀ x, x ∈ l → x < p.qs.length := fun x hx => hrlt x ((rch_same hsame _ _).1 (hfr x hx))
    have hex : ∀ x, ∃ m : Nat, x ∈ l → Top (nxP p.qs) x m ∧ m ≤ 100 := fun x => by
      by_cases hx : x ∈ l
      · obtain ⟨i, hi, e⟩ := List.getElem_of_mem hx
        obtain ⟨m, h1, h2⟩ := top_ex hT i i x (Nat.le_refl _) (by rw [List.getElem?_eq_getElem hi, e])
        exact ⟨m, fun _ => ⟨h1, by omega⟩⟩
      · exact ⟨0, fun h => absurd h hx⟩
    obtain ⟨f, hf'⟩ := Classical.axiomOfChoice hex
    obtain ⟨v, hvd⟩ : ∃ v : Nat → Int, v = fun q => ((f q : Nat) : Int) := ⟨_, rfl⟩
    refine ⟨_, _, _, rfl, fun k x w' => ∃ (j : Nat) (cs : List Int), x = (j : Int) ∧ j ≤ l.length ∧ k = l.length - j ∧ Done l j p.qs.length v cs ∧ Row w' (hs w7) 3 (intsV cs) ∧ Only (fun b => b = hs w7) w9 w', ⟨_, 0, _, rfl, Nat.zero_le _, rfl, Done.start, r9, Only.refl _ _⟩, ?_⟩
    rintro k _ w10 x ⟨j, cs, rfl, hj, rfl, hD, r10, g10⟩
    have G10 : Grow w w10 := G9.trans g10 fun b hb e => by omega
    have hcsl := hD.len
    have hM10 := hM9.keep g10 fun b hb e => by omega
    refine ⟨fun hlt => ?_, fun hge => ?_⟩
    · have hlt : j < l.length := by have := dT hlt; omega
      obtain ⟨a, ha, hc⟩ := (hN9.keep g10 fun b hb e => by omega).get (j := j) (by omega)
      rw [castL_get hlt] at hc
      have hjq : l[j]? = some l[j] := List.getElem?_eq_getElem hlt
      have hql := List.getElem_mem hlt
      have hq' := hlq _ hql
      generalize l[j] = q at *
      obtain ⟨a7, oi, ci, ha7, hc1, hr7⟩ := hM10.get (j := q) (by omega)
      have hrq : rows[q]? = some rows[q] := List.getElem?_eq_getElem (by omega)
      have hmem := (hR.mem q _ hrq).2
      have hok2 := hok q _ hrq
      generalize rows[q] = xs at *
      have hnx : ∀ y : Nat, (y : Int) ∈ xs ↔ y ∈ nxP p.qs q := fun y => (hmem y).trans mem_nxP.symm
      refine ⟨a, ha, ⟨by omega, by omega⟩, _, hc, a7, ha7, ⟨by omega, by omega⟩, _, _, _, hc1, fun k x w' => ∃ (u : Nat) (cs' : List Int) (m : Nat), x = (u : Int) ∧ u ≤ xs.length ∧ k = xs.length - u ∧ cs'.length = cs.length ∧ (∀ x, x ≠ q → gI cs' x = gI cs x) ∧
        gI cs' q = (m : Int) ∧ m ≤ 100 ∧ (∀ (i : Nat) (h : i < xs.length), i < u → f xs[i].toNat ≤ m) ∧ (m = 0 ∨ ∃ y, y ∈ nxP p.qs q ∧ f y = m) ∧ Row w' (hs w7) 3 (intsV cs') ∧ Only (fun b => b = hs w7) w10 w',
        ⟨_, 0, cs, 0, rfl, Nat.zero_le _, rfl, rfl, fun _ _ => rfl, by rw [hD.none hT hjq]; rfl, by omega, fun i _ hi => by omega, .inl rfl, r10, Only.refl _ _⟩, ?_⟩
      rintro k _ w11 x ⟨u, cs', m, rfl, hu, rfl, hl', hs', hat, hm100, hmu, hm0, r11, g11⟩
      have hr11 := hr7.keep g11 fun b hb e => by omega
      refine ⟨fun hlt2 => ?_, fun hge2 => ?_⟩
      · have hlt2 : u < xs.length := by have := dT hlt2; omega
        obtain ⟨a8, ha8, d0⟩ := hr11.get hlt2
        have hxu := hok2.2 _ (List.getElem_mem hlt2)
        obtain ⟨y, hyy⟩ : ∃ y : Nat, xs[u] = (y : Int) := ⟨xs[u].toNat, by omega⟩
        have hyx : y ∈ nxP p.qs q := (hnx y).1 (by rw [← hyy]; exact List.getElem_mem hlt2)
        obtain ⟨f1, f2⟩ := hD.follow hT hjq hyx
        have f3 : gI cs' y = (f y : Int) := ((hs' y f2).trans f1).trans (by rw [hvd])
        obtain ⟨i, hi, hyl⟩ := hT.follows j q hjq y hyx
        have hyT := hf' y (List.mem_of_getElem? hyl)
        rw [hyy] at d0
        refine ⟨a8, ha8, ⟨by omega, by omega⟩, _, d0, fun w12 e12 => ?_⟩
        have r12 := r11.grow (only_drew e12)
        have cq := r12.cellAdd (intsV_get (xs := cs') (j := q) (by omega))
        have cy := r12.cellAdd (intsV_get (xs := cs') (j := y) (by omega))
        rw [hat] at cq
        rw [f3] at cy
        refine ⟨_, rfl, ⟨by omega, by omega⟩, _, cq, _, rfl, ⟨by omega, by omega⟩, _, cy, _, rfl, ⟨by omega, by omega⟩, r12.thereAdd (by rw [toNat_cast, intsV_len]; simp; omega), fun w13 e13 => ?_⟩
        have r13 := r12.setAdd e13
        rw [intsV_set] at r13
        refine ⟨_, by omega, u + 1, _, max m (f y), by rw [wr (by omega)]; omega, hlt2, rfl, by simpa using hl', fun z hz => by rw [gI_set (by omega), if_neg hz]; exact hs' z hz, ?_, by omega, fun i hi hiu => ?_, ?_, r13, (g11.grow (only_drew e12)).trans' (only_setAdd e13)⟩
        · rw [gI_set (by omega), if_pos rfl]
          split <;> omega
        · by_cases e : i = u
          · subst e; rw [hyy, toNat_cast]; omega
          · have := hmu i hi (by omega); omega
        · by_cases e : m ≤ f y
          · exact .inr ⟨y, hyx, by omega⟩
          · rw [Nat.max_eq_left (by omega)]; exact hm0
      · have := dF hge2
        obtain rfl : u = xs.length := by omega
        have cq := r11.cellAdd (intsV_get (xs := cs') (j := q) (by omega))
        rw [hat] at cq
        refine ⟨_, rfl, ⟨by omega, by omega⟩, _, cq, _, rfl, ⟨by omega, by omega⟩, r11.thereAdd (by rw [toNat_cast, intsV_len]; simp; omega), fun w12 e12 => ?_⟩
        have r12 := r11.setAdd e12
        rw [intsV_set] at r12
        have hTq : Top (nxP p.qs) q (m + 1) := top_of (f := f) (fun y hy => by
          obtain ⟨i, hi, hyl⟩ := hT.follows j q hjq y hy
          exact (hf' y (List.mem_of_getElem? hyl)).1) (fun y hy => by
          obtain ⟨i, hi, e⟩ := List.getElem_of_mem ((hnx y).2 hy)
          have := hmu i hi hi
          rw [e, toNat_cast] at this
          exact this) hm0
        refine ⟨_, by omega, j + 1, _, by rw [wr (by omega)]; omega, hlt, rfl, hD.more hT hjq (by simpa using hl') (fun z hz => by rw [gI_set (by omega), if_neg hz]; exact hs' z hz) ?_, r12, (g10.trans' g11).trans' (only_setAdd e12)⟩
        rw [gI_set (by omega), if_pos rfl, wr (by omega), hvd]
        have := (hf' q hql).1.one hTq
        simp only [this]
        omega
    · have := dF hge
      obtain rfl : j = l.length := by omega
      obtain ⟨i, hi, e⟩ := List.getElem_of_mem h0l
      have hv0 := hD.done i s hi (by rw [List.getElem?_eq_getElem hi, e])
      have c0 := r10.cellAdd (intsV_get (xs := cs) (j := s) (by omega))
      rw [hv0] at c0
      refine ⟨_, rfl, ⟨by omega, by omega⟩, _, c0, _, _, rfl, .inr (.inr (.inr ⟨hv, hq, fun j hj => hac j (by rwa [toNat_cast] at hj), ⟨f s, by rw [hvd], by rw [toNat_cast]; exact (hf' s h0l).1⟩, rfl⟩)), G10⟩
end Go.Proofs.Ytbaacpfjecbbgaa
