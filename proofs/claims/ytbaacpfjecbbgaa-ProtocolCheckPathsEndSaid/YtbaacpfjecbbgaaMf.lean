/- The statement PathsEnd. -/
import Derived.Test.YtbaacpfjecbbgaaMe
namespace Go.Proofs.Ytbaacpfjecbbgaa
open Go Go.Nf

/-! ### Plain -/
theorem mem_ansF {G : Nat → List (List Int)} {w : List Int} : ∀ (l : List Ans) (k : Nat), w ∈ ansF G l k → ∃ (u : Nat) (h : u < l.length), w ∈ oneF G l[u] (k + u)
  | [], k, h => by simp [ansF] at h
  | a :: l, k, h => by
    rw [ansF, List.mem_append] at h
    rcases h with h | h
    · exact ⟨0, by simp, h⟩
    · obtain ⟨u, hu, hw⟩ := mem_ansF l (k + 1) h
      exact ⟨u + 1, by simp; omega, by rw [show k + (u + 1) = k + 1 + u by omega]; exact hw⟩
theorem way_spec {qs : List Qst} : ∀ (f q : Nat) (w : List Int), w ∈ pathsF qs f q → (∀ k, k ∈ w → 0 ≤ k) ∧ Walk (nxP qs) q w.length ∧ ∃ (i : Nat) (s : Qst) (a : Ans), Rch (nxP qs) q i ∧ qs[i]? = some s ∧ a ∈ s.ans ∧ a.next < 0 ∧ endW qs q w = a.urg := by
  intro f
  induction f with
  | zero => intro q w h; simp [pathsF] at h
  | succ f ih =>
    intro q w h
    rw [pathsF] at h
    cases hq : qs[q]? with
    | none => rw [hq] at h; simp at h
    | some s =>
      rw [hq] at h
      obtain ⟨u, hu, hw⟩ := mem_ansF _ _ h
      rw [Nat.zero_add] at hw
      have ha : s.ans[u]? = some s.ans[u] := List.getElem?_eq_getElem hu
      have ham := List.getElem_mem hu
      generalize s.ans[u] = a at *
      unfold oneF at hw
      split at hw
      · rename_i hn
        rw [List.mem_singleton] at hw
        subst hw
        refine ⟨fun k hk => by rw [List.mem_singleton] at hk; omega, .one q, q, s, a, .refl q, hq, ham, hn, endW_last hq ha hn⟩
      · rename_i hn
        obtain ⟨v, hv, rfl⟩ := List.mem_map.1 hw
        obtain ⟨h1, h2, i, s', a', h3, h4, h5, h6, h7⟩ := ih _ _ hv
        have hx := nx_of_ans hq ham (by omega)
        refine ⟨fun k hk => ?_, .more hx h2, i, s', a', .step hx h3, h4, h5, h6, ?_⟩
        · rcases List.mem_cons.1 hk with rfl | hk
          · omega
          · exact h1 k hk
        · rw [endW_more hq ha (by omega)]; exact h7
theorem ans_pos {p : Prot} (h : validB p = true) {s : Qst} (hs : s ∈ p.qs) : 1 ≤ s.ans.length := by
  unfold validB at h
  simp only [Bool.and_eq_true, decide_eq_true_eq] at h
  have := List.all_eq_true.1 h.1.1.1.1.1 s hs
  unfold qstB at this
  simp only [Bool.and_eq_true, decide_eq_true_eq] at this
  omega
theorem paths_some {p : Prot} (hv : validB p = true) : ∀ (f q : Nat), q < p.qs.length → (∀ d, Walk (nxP p.qs) q d → d ≤ f) → pathsF p.qs f q ≠ [] := by
  intro f
  induction f with
  | zero => intro q _ hd; have := hd 1 (.one q); omega
  | succ f ih =>
    intro q hq hd
    have hqs : p.qs[q]? = some p.qs[q] := List.getElem?_eq_getElem hq
    have hpos := ans_pos hv (List.getElem_mem hq)
    rw [pathsF, hqs]
    generalize p.qs[q] = s at *
    obtain ⟨a, l, hal⟩ : ∃ a l, s.ans = a :: l := by
      cases hl : s.ans with
      | nil => rw [hl] at hpos; simp at hpos
      | cons a l => exact ⟨a, l, rfl⟩
    have ham : a ∈ s.ans := by rw [hal]; simp
    show ansF (pathsF p.qs f) s.ans 0 ≠ []
    rw [hal, ansF]
    intro e
    have e1 := (List.append_eq_nil_iff.1 e).1
    unfold oneF at e1
    split at e1
    · cases e1
    · have hx := nx_of_ans hqs ham (by omega)
      have := ih a.next.toNat (valid_in hv _ _ hx) fun d hw => by have := hd _ (.more hx hw); omega
      exact this (by simpa using e1)
theorem ways_some {p : Prot} {x : Int} (hE : Ending' p x 0) : waysB p 0 ≠ [] := by
  have hv := ending_valid hE
  have hpos := (valid_of hv).pos
  exact paths_some hv _ 0 (by omega) fun d hw => walk_le (valid_in hv) (ending_acyclic hE) hw (by omega)
set_option maxHeartbeats 2000000 in
theorem law19_c (o : Option Addr) (c : Nat) (p : Prot) (hf : FitP p) (w : World) {A : Nat → Prop} (h : Qs w A o p.qs) :
    Calls Try.prog 19 #[.agg #[.string p.name, .int .i64 p.version, .slice o p.qs.length c]] w fun e w' => e = .returned (.bool true) ∧ Grow w w' := by
  have hfl := hf.qs
  refine nf19 p.name p.version o p.qs.length c w _ fun w1 e1 => (awake13_c w1).mono ?_
  have r := Row.new e1
  have g : Grow w w1 := only_alloc e1
  rintro _ w4 ⟨rfl, g4⟩
  have r4 := r.grow g4
  have h4 := (h.grow g).grow g4
  refine ⟨_, rfl, fun _ => ⟨_, r4.cell rfl, _, r4.cell rfl, _, _, _, r4.cell rfl, (few_c o c p hf w4 h4).mono ?_⟩, fun hb => (by cases hb)⟩
  rintro _ w13 ⟨b, rfl, hb, g13⟩
  have r13 := r4.grow g13
  have h13 := h4.grow g13
  have G13 := (g.trans' g4).trans' g13
  refine ⟨_, rfl, fun hbt => ⟨_, r13.cell rfl, _, r13.cell rfl, _, _, _, r13.cell rfl, (check_c o c p hfl w13 h13).mono ?_⟩, fun _ => (awake13_c w13).mono ?_⟩
  · rintro _ w22 ⟨x, y, rfl, hE, g22⟩
    have r22 := r13.grow g22
    have h22 := h13.grow g22
    refine ⟨_, _, rfl, _, r22.cell rfl, _, r22.cell rfl, _, _, _, r22.cell rfl, (taken_c o c p 60 (by omega) (by omega) hfl w22 h22).mono ?_⟩
    rintro _ w31 ⟨x', y', o32, c32, hE', rfl, hM, g31⟩
    obtain ⟨rfl, rfl⟩ := ending_one hE hE'
    have r31 := r22.grow g31
    have h31 := h22.grow g31
    have G31 := (G13.trans' g22).trans' g31
    refine ⟨_, _, _, rfl, fun hy => ?_, fun hy => ?_⟩
    · have hw : waysB p y = [] := if_neg (nT hy)
      rw [hw]
      refine yes rfl ⟨_, r31.cell rfl, _, r31.cell rfl, _, _, _, r31.cell rfl, (countPaths_c o c p hfl w31 h31).mono ?_⟩
      rintro _ w43 ⟨x', y', hE', rfl, g43⟩
      obtain ⟨rfl, rfl⟩ := ending_one hE hE'
      rw [hw]
      exact ⟨_, rfl, yes rfl ⟨rfl, G31.trans' g43⟩⟩
    · have hy := nF hy
      subst hy
      have hv := ending_valid hE
      have hac := ending_acyclic hE
      have V := valid_of hv
      have hpos := V.pos
      have htop := V.top
      have hne := ways_some hE
      refine ⟨_, r31.cell rfl, _, r31.cell rfl, _, _, _, r31.cell rfl, (maxQuestions_c o c p 0 hfl w31 h31).mono ?_⟩
      rintro _ w55 ⟨m, y, rfl, hm, g55⟩
      have r55 := r31.grow g55
      have h55 := h31.grow g55
      have hmost : y = 0 ∧ ∃ d : Nat, m = d ∧ Top (nxP p.qs) 0 d := by
        rcases hm with ⟨hv', -, -⟩ | ⟨-, hq, -, -⟩ | ⟨-, -, ⟨j, hj, hc⟩, -, -⟩ | ⟨-, -, -, ⟨d, h1, h2⟩, h3⟩
        · exact absurd (hv.symm.trans hv') (by decide)
        · exact absurd ⟨by omega, by omega⟩ hq
        · exact absurd hc (hac j (hj.closed (m := fun y => y < p.qs.length) (fun i _ y hy => valid_in hv i y hy) (by simp; omega)))
        · exact ⟨h3, d, h1, h2⟩
      obtain ⟨rfl, d, rfl, hT⟩ := hmost
      refine ⟨_, _, rfl, _, r55.cell rfl, _, r55.cell rfl, _, _, _, r55.cell rfl, (urgencyRange_c o c p 0 hfl w55 h55).mono ?_⟩
      rintro _ w64 ⟨lo, hi, rfl, hR, g64⟩
      have r64 := r55.grow g64
      have h64 := h55.grow g64
      have G64 := (G31.trans' g55).trans' g64
      have hRng : Rng (Urg p.qs (Rch (nxP p.qs) 0)) lo hi := by
        rcases hR with ⟨-, h⟩ | ⟨h, -⟩
        · exact h
        · exact absurd ⟨hv, by omega, by omega⟩ h
      have hM64 := (hM.grow g55).grow g64
      obtain ⟨L, hL⟩ : ∃ L, (waysB p 0).take 60 = L := ⟨_, rfl⟩
      have hLm : ∀ v, v ∈ L → v ∈ paths p.qs 0 := fun v hv => by rw [← hL] at hv; exact List.mem_of_mem_take hv
      have hL0 : L ≠ [] := fun e => by
        rw [e] at hL
        have := List.take_eq_nil_iff.1 hL
        rcases this with h | h
        · cases h
        · exact hne h
      have hL60 : L.length ≤ 60 := by rw [← hL, List.length_take]; omega
      rw [hL] at hM64 ⊢
      refine ⟨_, _, rfl, nno rfl (no (fun h => hL0 (List.length_eq_zero_iff.1 (by omega))) ⟨fun k x w' => ∃ j : Nat, x = (j : Int) ∧ j ≤ L.length ∧ k = L.length - j ∧ Grow w64 w', ⟨_, 0, rfl, Nat.zero_le _, rfl, Only.refl _ _⟩, ?_⟩)⟩
      rintro k _ w75 x ⟨j, rfl, hj, rfl, g75⟩
      refine ⟨fun hlt => ?_, fun _ => ⟨rfl, G64.trans' g75⟩⟩
      have hlt : j < L.length := by have := dT hlt; omega
      have r75 := r64.grow g75
      have h75 := h64.grow g75
      obtain ⟨a, oi, ci, ha, hc, hN⟩ := (hM64.grow g75).get hlt
      have hmem := hLm _ (List.getElem_mem hlt)
      generalize L[j] = way at *
      obtain ⟨w0, hwk, i, s, an, hr, hsi, han, hn, hend⟩ := way_spec _ _ _ hmem
      have hwl : way.length ≤ 64 := by have := paths_short _ _ _ hmem; omega
      refine ⟨a, ha, ⟨by omega, by omega⟩, _, _, _, hc, _, r75.cell rfl, _, r75.cell rfl, _, _, _, r75.cell rfl, (endRef_c o oi c ci p way hv (by omega) w0 w75 h75 hN).mono ?_⟩
      rintro _ w89 ⟨rfl, g89⟩
      have hok := ok_ans hv (List.mem_of_getElem? hsi) han
      have hu : Urg p.qs (Rch (nxP p.qs) 0) (endW p.qs 0 way) := ⟨i, s, hr, hsi, an, han, hn, hend.symm⟩
      have hfin := hok.fin hn
      have hb : lo ≤ endW p.qs 0 way ∧ endW p.qs 0 way ≤ hi := by
        rcases hRng with ⟨-, -, hno⟩ | ⟨-, -, hall⟩
        · exact absurd hu (hno _)
        · exact hall _ hu
      have hlen := hT.1 _ hwk
      exact ⟨_, rfl, no (by omega) (no (by omega) (no (by omega) (no (by omega) ⟨_, by omega, j + 1, by rw [wr (by omega)]; omega, hlt, rfl, g75.trans' g89⟩)))⟩
  · rintro _ w40 ⟨rfl, g40⟩
    exact ⟨_, rfl, fun _ => ⟨rfl, G13.trans' g40⟩, fun h => (by cases h)⟩
end Go.Proofs.Ytbaacpfjecbbgaa
