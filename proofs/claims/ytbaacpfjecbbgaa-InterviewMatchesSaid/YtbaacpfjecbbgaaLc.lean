/- The law Narrows. -/
import Derived.Test.YtbaacpfjecbbgaaLa
import Derived.Test.YtbaacpfjecbbgaaHs
namespace Go.Proofs.Ytbaacpfjecbbgaa
open Go Go.Nf

theorem Talk.walk {qs : List Qst} {l pa : List Int} {cur : Int} {last : Ans} (h : Talk qs l pa cur last) : 0 ≤ cur → ∀ d, Walk (nxP qs) cur.toNat d → Walk (nxP qs) 0 (l.length + d) := by
  induction h with
  | nil => intro _ d hd; simpa using hd
  | @snoc l pa cur a last x q h h0 hq ha hx ih =>
    intro hn d hd
    have := ih h0 (d + 1) (.more (mem_nxP.2 ?_) hd)
    · simp only [List.length_append, List.length_cons, List.length_nil]
      rw [show l.length + (0 + 1) + d = l.length + (d + 1) by omega]
      exact this
    · rw [Int.toNat_of_nonneg hn, Int.toNat_of_nonneg h0]
      exact ⟨hn, h0, q, hq, x, List.mem_of_getElem? hx, rfl⟩
theorem ans_pos {p : Prot} (hv : validB p = true) {s : Qst} (hs : s ∈ p.qs) : 1 ≤ s.ans.length := by
  unfold validB at hv
  simp only [Bool.and_eq_true, decide_eq_true_eq] at hv
  have := List.all_eq_true.1 hv.1.1.1.1.1 s hs
  unfold qstB at this
  simp only [Bool.and_eq_true, decide_eq_true_eq] at this
  omega
theorem some_end {p : Prot} (hv : validB p = true) : ∀ (d i : Nat), i < p.qs.length → (∀ e, Walk (nxP p.qs) i e → e ≤ d) → ∃ u, Urg p.qs (Rch (nxP p.qs) i) u
  | 0, i, _, h => by have := h 1 (.one i); omega
  | d + 1, i, hi, h => by
    have hs : p.qs[i]? = some p.qs[i] := List.getElem?_eq_getElem hi
    have hm := List.getElem_mem hi
    have hpos := ans_pos hv hm
    have ha : p.qs[i].ans[0] ∈ p.qs[i].ans := List.getElem_mem (by omega)
    by_cases hn : p.qs[i].ans[0].next < 0
    · exact ⟨_, i, _, .refl _, hs, _, ha, hn, rfl⟩
    · have hx : p.qs[i].ans[0].next.toNat ∈ nxP p.qs i := mem_nxP.2 (by
        rw [Int.toNat_of_nonneg (by omega)]
        exact ⟨by omega, by omega, p.qs[i], by rw [toNat_cast]; exact hs, _, ha, rfl⟩)
      have hin := (valid_of hv).inside _ _ (mem_nxP.1 hx)
      obtain ⟨u, j, s, h1, h2, h3⟩ := some_end hv d p.qs[i].ans[0].next.toNat (by omega) (fun e he => by have := h _ (.more hx he); omega)
      exact ⟨u, j, s, .step hx h1, h2, h3⟩
/-- the range of a state -/
def RangeAt (p : Prot) (cur : Int) (last : Ans) (lo hi : Int) : Prop := (0 ≤ cur ∧ IsRange p cur lo hi) ∨ (cur = -1 ∧ lo = last.urg ∧ hi = last.urg)
theorem range_ne {p : Prot} (hv : validB p = true) (hac : ∀ j, j < p.qs.length → ¬ Cyc (nxP p.qs) j) {cur lo hi : Int} (h0 : 0 ≤ cur) (hc : cur < p.qs.length) (h : IsRange p cur lo hi) :
    Urg p.qs (Rch (nxP p.qs) cur.toNat) lo ∧ Urg p.qs (Rch (nxP p.qs) cur.toNat) hi ∧ ∀ u, Urg p.qs (Rch (nxP p.qs) cur.toNat) u → lo ≤ u ∧ u ≤ hi := by
  rcases h with ⟨-, ⟨-, -, hn⟩ | h⟩ | ⟨h, -⟩
  · obtain ⟨u, hu⟩ := some_end hv p.qs.length cur.toNat (by omega) (fun e he => walk_le (fun q x hx => by have := (valid_of hv).inside _ _ (mem_nxP.1 hx); omega) hac he (by omega))
    exact absurd hu (hn u)
  · exact h
  · exact absurd ⟨hv, h0, hc⟩ h
theorem narrow {p : Prot} (hv : validB p = true) (hac : ∀ j, j < p.qs.length → ¬ Cyc (nxP p.qs) j) {cur a lo hi lo' hi' : Int} {q : Qst} {x : Ans} (h0 : 0 ≤ cur) (hq : p.qs[cur.toNat]? = some q) (hx : q.ans[a.toNat]? = some x) (h : IsRange p cur lo hi) (h' : RangeAt p x.next x lo' hi') :
    lo ≤ lo' ∧ hi' ≤ hi ∧ lo' ≤ hi' := by
  have hc : cur < p.qs.length := by
    rcases Nat.lt_or_ge cur.toNat p.qs.length with h | h
    · omega
    · rw [List.getElem?_eq_none h] at hq; cases hq
  obtain ⟨h1, h2, h3⟩ := range_ne hv hac h0 hc h
  have hxm := List.mem_of_getElem? hx
  rcases h' with ⟨hn, h'⟩ | ⟨hn, rfl, rfl⟩
  · have hs : x.next.toNat ∈ nxP p.qs cur.toNat := mem_nxP.2 (by
      rw [Int.toNat_of_nonneg hn, Int.toNat_of_nonneg h0]
      exact ⟨hn, h0, q, hq, x, hxm, rfl⟩)
    have hin := (valid_of hv).inside _ _ (mem_nxP.1 hs)
    obtain ⟨k1, k2, k3⟩ := range_ne hv hac hn (by omega) h'
    have sub : ∀ u, Urg p.qs (Rch (nxP p.qs) x.next.toNat) u → Urg p.qs (Rch (nxP p.qs) cur.toNat) u := fun u ⟨i, s, r1, r2, r3⟩ => ⟨i, s, .step hs r1, r2, r3⟩
    exact ⟨(h3 _ (sub _ k1)).1, (h3 _ (sub _ k2)).2, (k3 _ k1).2⟩
  · have := h3 x.urg ⟨_, q, .refl _, hq, x, hxm, by omega, rfl⟩
    exact ⟨this.1, this.2, Int.le_refl _⟩
def encU8 (x : Int) : List Value := [.int .u8 x]
set_option maxHeartbeats 4000000 in
theorem law3_c (o so : Option Addr) (c sc : Nat) (p : Prot) (xs : List Int) (hf : FitP p) (_ : xs.length ≤ 9223372036854775807) (hx8 : ∀ x, x ∈ xs → 0 ≤ x ∧ x ≤ 255) (w : World) {A A' : Nat → Prop} (h : Qs w A o p.qs) (hs' : Recs w A' so 1 (xs.map encU8)) :
    Calls Try.prog 3 #[.agg #[.string p.name, .int .i64 p.version, .slice o p.qs.length c], .slice so xs.length sc] w fun e w' => e = .returned (.bool true) ∧ Grow w w' := by
  have hfl := hf.qs
  refine nf3 p.name p.version o p.qs.length c so xs.length sc w _ fun w1 e1 => ?_
  have r := Row.new e1
  have g : Grow w w1 := only_alloc e1
  refine ⟨_, r.cell rfl, _, r.cell rfl, _, _, _, r.cell rfl, (few_c o c p hf w1 (h.grow g)).mono ?_⟩
  rintro _ w2 ⟨b, rfl, hb, g2⟩
  have G2 := g.trans' g2
  have r2 := r.grow g2
  refine ⟨_, rfl, fun hbt => ?_, fun _ => tail G2⟩
  refine ⟨_, r2.cell rfl, _, r2.cell rfl, _, _, _, r2.cell rfl, (new_c o c p hfl w2 (h.grow G2)).mono ?_⟩
  rintro _ w3 ⟨x, y, hE, g3, hr⟩
  have G3 := G2.trans' g3
  have r3 := r2.grow g3
  rcases hr with ⟨hy, rfl⟩ | ⟨rfl, t, rfl, hI⟩
  · exact ⟨_, _, rfl, fun _ => ⟨fun _ => tail G3, fun h => (by cases h)⟩, fun h => absurd (nF h) hy⟩
  have hv := ending_valid hE
  have V := valid_of hv
  have htop := V.top
  have hpos := V.pos
  have hac : ∀ j, j < p.qs.length → ¬ Cyc (nxP p.qs) j := by
    rcases hE with ⟨-, -, h⟩ | ⟨-, i, -, -, -, -, h⟩ | ⟨-, -, i, -, -, -, -, h⟩ | ⟨-, h, -⟩
    · cases h
    · cases h
    · cases h
    · exact h
  have hin : ∀ q x, x ∈ nxP p.qs q → x < p.qs.length := fun q x hx => by
    have := V.inside _ _ (mem_nxP.1 hx)
    omega
  refine ⟨_, _, rfl, fun h => absurd rfl (nT h), fun _ => ⟨_, r3.cell rfl, _, r3.cell rfl, _, _, _, r3.cell rfl, (most_c o c p 0 hf hv hac (by omega) w3 (h.grow G3)).mono ?_⟩⟩
  rintro _ w4 ⟨m, rfl, hm, hm10, g4⟩
  have G4 := G3.trans' g4
  refine ⟨_, _, rfl, fun h => absurd rfl (nT h), fun _ => (urg_c hv (hI.grow g4) .nil (by simp)).mono ?_⟩
  rintro _ w5 ⟨lo, hi, rfl, hR, g5⟩
  have G5 := G4.trans' g5
  refine ⟨_, _, rfl, fun k x y z w' => ∃ (i : Nat) (said path : List Int) (cur : Int) (last : Ans), z = (i : Int) ∧ k = m - i ∧ said.length = i ∧ i ≤ m ∧ i ≤ 64 ∧ Talk p.qs said path cur last ∧ Iv w' (hs w2) t p said path cur ∧ RangeAt p cur last x y ∧ Grow w2 w',
    ⟨_, 0, [], [], 0, zeroA, rfl, rfl, rfl, Nat.zero_le _, by omega, .nil, (hI.grow g4).grow g5, hR, (g3.trans' g4).trans' g5⟩, ?_⟩
  rintro k _ w6 lo1 hi1 z ⟨i, said, path, cur, last, rfl, rfl, hsl', him, hi64, hT, hI6, hR6, g6⟩
  have G6 := G2.trans' g6
  refine (question14_c hv hI6 hT).mono ?_
  rintro _ w7 ⟨⟨hcur, rfl⟩ | ⟨hcur, q, oq, cq, hq, rfl, ownq⟩, g7⟩
  · -- over
    refine ⟨_, _, _, _, _, rfl, fun hb => (by cases hb), fun _ w8 e8 => ⟨(Row.new e8).there (by simp), fun w9 e9 => ?_⟩⟩
    obtain ⟨r9, g9⟩ := loc e8 e9 rfl
    refine (result_c hv ((hI6.grow g7).grow g9) hT (by omega)).mono ?_
    rintro _ w10 ⟨⟨h0, -⟩ | ⟨-, rfl⟩, g10⟩
    · omega
    rcases hR6 with ⟨h0, -⟩ | ⟨-, e1, e2⟩
    · omega
    exact ⟨_, _, _, rfl, fun _ => yes (by omega) (yes (by omega) (yes (by omega) (tail (((G6.trans' g7).trans' g9).trans' g10)))), fun hb => (by cases hb)⟩
  · have hWi : Walk (nxP p.qs) 0 (said.length + 1) := hT.walk hcur 1 (.one _)
    have hwm := hm _ hWi
    have hwl := walk_le hin hac hWi (by omega)
    have hans := ans_pos hv (List.mem_of_getElem? hq)
    have hans20 := V.ans _ (List.mem_of_getElem? hq)
    have hR6' : IsRange p cur lo1 hi1 := by
      rcases hR6 with ⟨-, h⟩ | ⟨h, -⟩
      · exact h
      · omega
    refine ⟨_, _, _, _, _, rfl, fun _ w8 e8 => ⟨(Row.new e8).there (by simp), fun w9 e9 K hK => ?_⟩, fun hb => (by cases hb)⟩
    obtain ⟨r9, g9⟩ := loc e8 e9 rfl
    have G9 := (g6.trans' g7).trans' g9
    have hI9 := (hI6.grow g7).grow g9
    have key : ∀ v : Nat, K v w9 := fun v => by
      have hmod : v % q.ans.length < q.ans.length := Nat.mod_lt _ (by omega)
      have et : Int.tmod (v : Int) (q.ans.length : Int) = ((v % q.ans.length : Nat) : Int) := tmod_cast _ _
      refine hK _ _ fun _ => no (by omega) ⟨_, _, _, r9.cell rfl, no (by omega) ⟨_, _, _, r9.cell rfl, by omega, (answer_m hv hI9.m hT (by omega) _).mono ?_⟩⟩
      rw [et]
      generalize v % q.ans.length = a at *
      have hs0 : sayE p.qs cur (a : Int) = 0 := by
        unfold sayE
        rw [if_neg (by omega), if_neg (by omega), hq]
        exact if_pos (by omega)
      rintro _ w10 ⟨rfl, g10, hr⟩
      rcases hr with ⟨hr, -⟩ | ⟨-, x', hT', hI'⟩
      · exact absurd hs0 hr
      obtain ⟨q', xa, -, hq', -, hxa, hT2⟩ := sayE_ok hT hs0
      obtain ⟨-, hne, hxe⟩ := hT'.one hT2
      rw [hq] at hq'
      cases hq'
      subst hxe
      have g10' : Grow w2 w10 := G9.trans g10 fun b hb hm => by have := G9.size; omega
      refine ⟨_, rfl, fun h => absurd hs0 (nT h), fun _ => (urg_c hv hI'.iv hT' (by simp; omega)).mono ?_⟩
      rintro _ w11 ⟨lo2, hi2, rfl, hR2, g11⟩
      have hn := narrow hv hac hcur hq hxa hR6' hR2
      exact ⟨_, _, rfl, no (by omega) (no (by omega) (no (by omega) ⟨_, by omega, i + 1, _, _, _, _, by rw [wr (by omega)]; omega, rfl, by simp [hsl'], by omega, by omega, hT', hI'.iv.grow g11, hR2, g10'.trans' g11⟩))⟩
    refine ⟨fun hlt => ?_, fun _ => key 0⟩
    have hlt : i < xs.length := by have := dT hlt; omega
    obtain ⟨a, ha, -, hc⟩ := (((hs'.grow G6).grow g7).grow g9).get (i := i) (by simpa using hlt)
    have hc0 := hc 0 (.int .u8 xs[i]) (by simp [encU8])
    rw [add_zero] at hc0
    have h8 := hx8 _ (List.getElem_mem hlt)
    obtain ⟨v, hv'⟩ : ∃ v : Nat, xs[i] = (v : Int) := ⟨xs[i].toNat, by omega⟩
    refine ⟨a, ha, ⟨by omega, by omega⟩, _, hc0, ?_⟩
    rw [wr (by omega), hv']
    exact key v
end Go.Proofs.Ytbaacpfjecbbgaa
