/- The range of urgencies, in the program and in the reference. -/
import Derived.Test.YtbaacpfjecbbgaaHj
namespace Go.Proofs.Ytbaacpfjecbbgaa
open Go Go.Nf

/-- least and greatest of S; 0 and 0 if there is none -/
def Rng (S : Int → Prop) (lo hi : Int) : Prop := (lo = 0 ∧ hi = 0 ∧ ∀ u, ¬ S u) ∨ (S lo ∧ S hi ∧ ∀ u, S u → lo ≤ u ∧ u ≤ hi)
theorem Rng.one {S : Int → Prop} {lo hi lo' hi' : Int} (h : Rng S lo hi) (h' : Rng S lo' hi') : lo = lo' ∧ hi = hi' := by
  rcases h with ⟨rfl, rfl, hn⟩ | ⟨h1, h2, h3⟩ <;> rcases h' with ⟨rfl, rfl, hn'⟩ | ⟨h1', h2', h3'⟩
  · exact ⟨rfl, rfl⟩
  · exact absurd h1' (hn _)
  · exact absurd h1 (hn' _)
  · have := h3 _ h1'; have := h3 _ h2'; have := h3' _ h1; have := h3' _ h2
    exact ⟨by omega, by omega⟩
theorem Rng.congr {S S' : Int → Prop} {lo hi : Int} (h : Rng S lo hi) (hs : ∀ u, S u ↔ S' u) : Rng S' lo hi := by
  rcases h with ⟨h1, h2, h3⟩ | ⟨h1, h2, h3⟩
  · exact .inl ⟨h1, h2, fun u hu => h3 u ((hs u).2 hu)⟩
  · exact .inr ⟨(hs _).1 h1, (hs _).1 h2, fun u hu => h3 u ((hs u).2 hu)⟩
theorem Rng.add {S : Int → Prop} {lo hi u : Int} (h : Rng S lo hi) (hp : ∀ u, S u → 1 ≤ u) (hu : 1 ≤ u) {lo' hi' : Int} (hlo : lo' = if lo = 0 then u else if u < lo then u else lo) (hhi : hi' = if hi < u then u else hi) : Rng (fun v => S v ∨ v = u) lo' hi' := by
  subst hlo hhi
  right
  rcases h with ⟨rfl, rfl, hn⟩ | ⟨h1, h2, h3⟩
  · rw [if_pos rfl, if_pos (by omega)]
    exact ⟨.inr rfl, .inr rfl, fun v hv => by
      rcases hv with hv | rfl
      · exact absurd hv (hn v)
      · omega⟩
  · have hlo := hp _ h1
    rw [if_neg (by omega)]
    refine ⟨?_, ?_, fun v hv => ?_⟩
    · split
      · exact .inr rfl
      · exact .inl h1
    · split
      · exact .inr rfl
      · exact .inl h2
    · rcases hv with hv | rfl
      · have := h3 v hv; split <;> split <;> omega
      · have := h3 _ h1; split <;> split <;> omega
/-- the urgencies with which the answers l finish -/
def Fin' (l : List Ans) (u : Int) : Prop := ∃ a, a ∈ l ∧ a.next < 0 ∧ a.urg = u
/-- the urgencies with which an interview at q can finish -/
def Urg (qs : List Qst) (m : Nat → Prop) (u : Int) : Prop := ∃ (i : Nat) (s : Qst), m i ∧ qs[i]? = some s ∧ Fin' s.ans u
/-- what an answer may be -/
structure OkAns (qs : List Qst) (a : Ans) : Prop where
  low : -1 ≤ a.next
  fin : a.next < 0 → 1 ≤ a.urg
theorem ok_ans {p : Prot} (h : validB p = true) {s : Qst} (hs : s ∈ p.qs) {a : Ans} (ha : a ∈ s.ans) : OkAns p.qs a := by
  unfold validB at h
  simp only [Bool.and_eq_true, decide_eq_true_eq] at h
  have := List.all_eq_true.1 h.1.1.1.1.1 s hs
  unfold qstB at this
  simp only [Bool.and_eq_true] at this
  have := List.all_eq_true.1 this.2 a ha
  unfold ansB at this
  split at this
  · rename_i e
    unfold urgB at this
    simp only [Bool.and_eq_true, decide_eq_true_eq] at this
    exact ⟨by omega, fun _ => by omega⟩
  · simp only [Bool.and_eq_true, decide_eq_true_eq] at this
    exact ⟨by omega, fun _ => by omega⟩
theorem Fin'.pos {p : Prot} (h : validB p = true) {s : Qst} (hs : s ∈ p.qs) {l : List Ans} (hl : ∀ a, a ∈ l → a ∈ s.ans) {u : Int} (hu : Fin' l u) : 1 ≤ u := by
  obtain ⟨a, ha, hn, rfl⟩ := hu
  exact (ok_ans h hs (hl a ha)).fin hn
theorem Urg.pos {p : Prot} (h : validB p = true) {m : Nat → Prop} {u : Int} (hu : Urg p.qs m u) : 1 ≤ u := by
  obtain ⟨i, s, -, hs, hf⟩ := hu
  exact Fin'.pos h (List.mem_of_getElem? hs) (fun a ha => ha) hf
theorem fin_nil (u : Int) : ¬ Fin' [] u := by rintro ⟨a, h, _⟩; cases h
theorem fin_succ {l : List Ans} {j : Nat} (h : j < l.length) (u : Int) : Fin' (l.take (j + 1)) u ↔ Fin' (l.take j) u ∨ (l[j].next < 0 ∧ u = l[j].urg) := by
  unfold Fin'
  rw [List.take_succ_eq_append_getElem h]
  simp only [List.mem_append, List.mem_singleton]
  constructor
  · rintro ⟨a, h | rfl, h1, h2⟩
    · exact .inl ⟨a, h, h1, h2⟩
    · exact .inr ⟨h1, h2.symm⟩
  · rintro (⟨a, h, h1, h2⟩ | ⟨h1, h2⟩)
    · exact ⟨a, .inl h, h1, h2⟩
    · exact ⟨_, .inr rfl, h1, h2.symm⟩
theorem urg_none (qs : List Qst) (m : Nat → Prop) (u : Int) : ¬ Urg qs (fun i => i < 0 ∧ m i) u := by rintro ⟨i, s, ⟨h, _⟩, _⟩; omega
theorem urg_succ {qs : List Qst} {m : Nat → Prop} {j : Nat} (h : j < qs.length) (u : Int) : Urg qs (fun i => i < j + 1 ∧ m i) u ↔ Urg qs (fun i => i < j ∧ m i) u ∨ (m j ∧ Fin' qs[j].ans u) := by
  unfold Urg
  constructor
  · rintro ⟨i, s, ⟨h1, h2⟩, h3, h4⟩
    by_cases e : i = j
    · subst e
      rw [List.getElem?_eq_getElem h] at h3
      cases h3
      exact .inr ⟨h2, h4⟩
    · exact .inl ⟨i, s, ⟨by omega, h2⟩, h3, h4⟩
  · rintro (⟨i, s, ⟨h1, h2⟩, h3, h4⟩ | ⟨h1, h2⟩)
    · exact ⟨i, s, ⟨by omega, h2⟩, h3, h4⟩
    · exact ⟨j, _, ⟨by omega, h1⟩, List.getElem?_eq_getElem h, h2⟩
/-- what UrgencyRange and the reference's Range tell -/
def IsRange (p : Prot) (q lo hi : Int) : Prop :=
  ((validB p = true ∧ 0 ≤ q ∧ q < p.qs.length) ∧ Rng (Urg p.qs (Rch (nxP p.qs) q.toNat)) lo hi) ∨ (¬ (validB p = true ∧ 0 ≤ q ∧ q < p.qs.length) ∧ lo = 0 ∧ hi = 0)
theorem isRange_one {p : Prot} {q lo hi lo' hi' : Int} (h : IsRange p q lo hi) (h' : IsRange p q lo' hi') : lo = lo' ∧ hi = hi' := by
  rcases h with ⟨h1, h2⟩ | ⟨h1, rfl, rfl⟩ <;> rcases h' with ⟨h1', h2'⟩ | ⟨h1', rfl, rfl⟩
  · exact h2.one h2'
  · exact absurd h1 h1'
  · exact absurd h1' h1
  · exact ⟨rfl, rfl⟩
theorem isQuestion_c (o : Option Addr) (c : Nat) (p : Prot) (q : Int) (w : World) :
    Calls Try.prog 97 #[.agg #[.string p.name, .int .i64 p.version, .slice o p.qs.length c], .int .i64 q] w fun e w' => e = .returned (.bool (decide (0 ≤ q) && decide (q < p.qs.length))) ∧ Grow w w' := by
  refine nf97 p.name p.version o p.qs.length c q w _ fun w1 e1 => ?_
  have r := Row.new e1
  have g : Grow w w1 := only_alloc e1
  refine ⟨fun h0 => ⟨_, _, _, r.cell rfl, fun h1 => ⟨ret_bool ?_, g⟩, fun h1 => ⟨ret_bool ?_, g⟩⟩, fun h0 => ⟨ret_bool ?_, g⟩⟩
  · rw [show decide (0 ≤ q) = true from h0, h1]; rfl
  · rw [h1]; simp
  · rw [show decide (0 ≤ q) = false from h0]; simp
set_option maxHeartbeats 2000000 in
theorem urgencyRange_c (o : Option Addr) (c : Nat) (p : Prot) (q : Int) (hf : p.qs.length ≤ 9223372036854775807) (w : World) {A : Nat → Prop} (h : Qs w A o p.qs) :
    Calls Try.prog 58 #[.agg #[.string p.name, .int .i64 p.version, .slice o p.qs.length c], .int .i64 q] w fun e w' => ∃ lo hi, e = .returned (.tuple #[.int .i64 lo, .int .i64 hi]) ∧ IsRange p q lo hi ∧ Grow w w' := by
  refine nf58 p.name p.version o p.qs.length c q w _ fun w1 e1 => ?_
  have r := Row.new e1
  have g : Grow w w1 := only_alloc e1
  refine ⟨_, r.cell rfl, _, r.cell rfl, _, _, _, r.cell rfl, (isValid_c o c p hf w1 (h.grow g)).mono ?_⟩
  rintro _ w2 ⟨rfl, g2⟩
  have r2 := r.grow g2
  refine ⟨_, rfl, fun hv => ⟨_, r2.cell rfl, _, r2.cell rfl, _, _, _, r2.cell rfl, (isQuestion_c o c p q w2).mono ?_⟩, fun hv => ⟨_, _, rfl, .inr ⟨fun hh => (by rw [hh.1] at hv; cases hv), rfl, rfl⟩, g.trans' g2⟩⟩
  rintro _ w3 ⟨rfl, g3⟩
  have r3 := r2.grow g3
  have V := valid_of hv
  have htop := V.top
  refine ⟨_, rfl, fun hq => ?_, fun hq => ⟨_, _, rfl, .inr ⟨fun hh => (by rw [decide_eq_true hh.2.1, decide_eq_true hh.2.2] at hq; cases hq), rfl, rfl⟩, (g.trans' g2).trans' g3⟩⟩
  simp only [Bool.and_eq_true, decide_eq_true_eq] at hq
  have h3 := ((h.grow g).grow g2).grow g3
  refine ⟨_, r3.cell rfl, _, r3.cell rfl, _, _, _, r3.cell rfl, (followers_c o c p (by omega) V.ans w3 h3).mono ?_⟩
  rintro _ w4 ⟨o4, c4, rows, rfl, hR, hM, g4⟩
  have hlen := hR.len
  have hok := ok_rows hR V.inside
  obtain ⟨s, rfl⟩ : ∃ i : Nat, q = (i : Int) := ⟨q.toNat, by omega⟩
  refine ⟨_, _, _, rfl, fun w5 e5 => ?_⟩
  have r5 : Row w5 (hs w4) 3 (intsV (castL [s])) := Row.new e5
  have g5 : Grow w4 w5 := only_alloc e5
  have hre := reachable_c o4 (some ⟨hs w4, 0, none⟩) c4 1 rows [s] (by omega) hok (by simp) (fun x hx => by rw [List.mem_singleton] at hx; omega) w5 (hM.grow g5) (r5.nums (A := fun _ => True) trivial)
  rw [hlen] at hre
  refine hre.mono ?_
  rintro _ w6 ⟨d, rfl, r6, hd, hrc, g6⟩
  have hrc' : ∀ x, gB d x = true ↔ Rch (nxP p.qs) s x := fun x => by
    rw [hrc]
    constructor
    · rintro ⟨f, hf, hr⟩
      rw [List.mem_singleton] at hf
      subst hf
      exact (rch_same (same_nx hR) _ _).1 hr
    · exact fun hr => ⟨s, by simp, (rch_same (same_nx hR) _ _).2 hr⟩
  have G := (((g2.trans' g3).trans' g4).trans' g5).trans' g6
  have h6 := (h.grow g).grow G
  refine ⟨_, _, _, rfl, fun k x y z w' => ∃ j : Nat, z = (j : Int) ∧ j ≤ p.qs.length ∧ k = p.qs.length - j ∧ Rng (Urg p.qs fun i => i < j ∧ Rch (nxP p.qs) s i) x y ∧ Grow w6 w', ⟨_, 0, rfl, Nat.zero_le _, rfl, .inl ⟨rfl, rfl, urg_none _ _⟩, Only.refl _ _⟩, ?_⟩
  rintro k _ w7 lo hi z ⟨j, rfl, hj, rfl, hI, g7⟩
  refine ⟨fun hlt k48 hk48 => ?_, fun hge => ?_⟩
  · have hlt : j < p.qs.length := by have := dT hlt; omega
    have next : ∀ lo hi w', Rng (Urg p.qs fun i => i < j + 1 ∧ Rch (nxP p.qs) s i) lo hi → Grow w6 w' → k48 lo hi w' := fun lo hi w' q1 q2 => hk48 _ _ _ fun _ => ⟨_, by omega, j + 1, by rw [wr (by omega)]; omega, hlt, rfl, q1, q2⟩
    refine ⟨_, rfl, ⟨by omega, by omega⟩, _, (r6.grow g7).cellAdd (boolsV_get (by omega)), fun hb => ?_, fun hb => next _ _ _ (hI.congr fun u => ?_) g7⟩
    · obtain ⟨a, oi, ci, ha, c0, c1, hr⟩ := (h6.grow g7).get hlt
      have hmem : p.qs[j] ∈ p.qs := List.getElem_mem hlt
      have hans := V.ans _ hmem
      have hus := urg_succ (m := Rch (nxP p.qs) s) hlt
      have hokA : ∀ a, a ∈ p.qs[j].ans → OkAns p.qs a := fun a ha => ok_ans hv hmem ha
      have hrj := (hrc' j).1 hb
      have hpos : ∀ t u, Urg p.qs (fun i => i < j ∧ Rch (nxP p.qs) s i) u ∨ Fin' (p.qs[j].ans.take t) u → 1 ≤ u := fun t u hu => by
        rcases hu with hu | hu
        · exact hu.pos hv
        · exact hu.pos hv hmem fun a ha => List.mem_of_mem_take ha
      generalize p.qs[j] = sq at *
      refine ⟨_, _, _, ((r.grow G).grow g7).cell rfl, a, ha, ⟨by omega, by omega⟩, _, _, _, c1, fun k x y z w' => ∃ t : Nat, z = (t : Int) ∧ t ≤ sq.ans.length ∧ k = sq.ans.length - t ∧ Rng (fun u => Urg p.qs (fun i => i < j ∧ Rch (nxP p.qs) s i) u ∨ Fin' (sq.ans.take t) u) x y ∧ Grow w7 w', ⟨_, 0, rfl, Nat.zero_le _, rfl, hI.congr fun u => ⟨.inl, fun hu => hu.elim id fun hu => absurd hu (fin_nil u)⟩, Only.refl _ _⟩, ?_⟩
      rintro k _ w8 lo2 hi2 z ⟨t, rfl, ht, rfl, hI2, g8⟩
      refine ⟨fun hlt2 k76 hk76 => ?_, fun hge2 => ?_⟩
      · have hlt2 : t < sq.ans.length := by have := dT hlt2; omega
        obtain ⟨a', ha', d0, d1, d2, d3⟩ := Recs.ans (hr.grow g8) hlt2
        have hA := hokA _ (List.getElem_mem hlt2)
        have hfs := fin_succ hlt2
        generalize sq.ans[t] = x at *
        have next2 : ∀ lo hi w', Rng (fun u => Urg p.qs (fun i => i < j ∧ Rch (nxP p.qs) s i) u ∨ Fin' (sq.ans.take (t + 1)) u) lo hi → Grow w7 w' → k76 lo hi w' := fun lo hi w' q1 q2 => hk76 _ _ _ fun _ => ⟨_, by omega, t + 1, by rw [wr (by omega)]; omega, hlt2, rfl, q1, q2⟩
        refine ⟨a', ha', ⟨by omega, by omega⟩, _, d0, _, d1, _, d2, _, d3, fun w9 e9 => ⟨(Row.new e9).there (by simp), fun w10 e10 => ?_⟩⟩
        obtain ⟨r10, g10⟩ := loc e9 e10 rfl
        have G10 := g8.trans' g10
        refine ⟨_, r10.cell rfl, fun h7 => next2 _ _ _ (hI2.congr fun u => ?_) G10, fun h7 k96 hk96 => ?_⟩
        · have := dT h7
          rw [hfs]
          exact ⟨fun hh => hh.elim .inl fun hh => .inr (.inl hh), fun hh => hh.elim .inl fun hh => hh.elim .inr fun hh => by omega⟩
        · have h7 : x.next < 0 := by have := dF h7; omega
          have hx1 := hA.fin h7
          have fin3 : ∀ lo, lo = (if lo2 = 0 then x.urg else if x.urg < lo2 then x.urg else lo2) → k96 lo w10 := fun lo hlo => hk96 _ _ fun _ => ⟨_, r10.cell rfl, next2 _ _ _ ((hI2.add (hpos t) hx1 hlo rfl).congr fun u => ?_) G10⟩
          · refine ⟨fun h8 => ⟨_, r10.cell rfl, fin3 _ ?_⟩, fun h8 => ⟨_, r10.cell rfl, fun h9 => ⟨_, r10.cell rfl, fin3 _ ?_⟩, fun h9 => fin3 _ ?_⟩⟩
            · rw [if_pos (dT h8)]
            · rw [if_neg (dF h8), if_pos (dT h9)]
            · rw [if_neg (dF h8), if_neg (dF h9)]
          · rw [hfs]
            constructor
            · rintro ((h | h) | h)
              · exact .inl h
              · exact .inr (.inl h)
              · exact .inr (.inr ⟨h7, h⟩)
            · rintro (h | h | ⟨-, h⟩)
              · exact .inl (.inl h)
              · exact .inl (.inr h)
              · exact .inr h
      · have := dF hge2
        obtain rfl : t = sq.ans.length := by omega
        rw [List.take_length] at hI2
        refine next _ _ _ (hI2.congr fun u => ?_) (g7.trans' g8)
        rw [hus]
        exact ⟨fun hh => hh.elim .inl fun hh => .inr ⟨hrj, hh⟩, fun hh => hh.elim .inl fun hh => .inr hh.2⟩
    · rw [urg_succ (m := Rch (nxP p.qs) s) hlt]
      exact ⟨.inl, fun hh => hh.elim id fun hh => by rw [(hrc' j).2 hh.1] at hb; cases hb⟩
  · have := dF hge
    obtain rfl : j = p.qs.length := by omega
    refine ⟨_, _, rfl, .inl ⟨⟨hv, hq⟩, hI.congr fun u => ?_⟩, (g.trans' G).trans' g7⟩
    unfold Urg
    rw [toNat_cast]
    constructor
    · rintro ⟨i, s', ⟨-, h2⟩, h3, h4⟩; exact ⟨i, s', h2, h3, h4⟩
    · rintro ⟨i, s', h2, h3, h4⟩
      refine ⟨i, s', ⟨?_, h2⟩, h3, h4⟩
      rcases Nat.lt_or_ge i p.qs.length with h' | h'
      · exact h'
      · rw [List.getElem?_eq_none h'] at h3; cases h3
end Go.Proofs.Ytbaacpfjecbbgaa
