/- Me, Mf, Mh, Mi, Mj in one: a claim holds at most 60 files. -/
import Derived.Test.YtbaacpfjecbbgaaKk
namespace Go.Proofs.Ytbaacpfjecbbgaa
open Go Go.Nf

theorem cell_lt {w : World} {a : Addr} {v : Value} (h : w.cell? a = some v) : a.block < hs w := by
  rcases Nat.lt_or_ge a.block w.heap.size with hb | hb
  · exact hb
  · unfold World.cell? at h
    rw [Array.getElem?_eq_none hb] at h
    cases h
theorem kept_cell {w w' : World} {a : Addr} {v : Value} {n : Nat} (h : w.cell? a = some v) (g : Grow w w') : Kept w w' a n := kept_addr g (cell_lt h) fun h => h
theorem drop_cons {l : List Int} {j : Nat} (h : j < l.length) : l.drop j = l[j] :: l.drop (j + 1) := List.drop_eq_getElem_cons h
set_option maxHeartbeats 2000000 in
theorem endRef_c (o ow : Option Addr) (c cw : Nat) (p : Prot) (way : List Int) (hv : validB p = true) (hl : way.length ≤ 1000000) (h0w : ∀ k, k ∈ way → 0 ≤ k) (w : World) {A A' : Nat → Prop} (h : Qs w A o p.qs) (hs' : Nums w A' ow way) :
    Calls Try.prog 67 #[.agg #[.string p.name, .int .i64 p.version, .slice o p.qs.length c], .slice ow way.length cw] w fun e w' => e = .returned (.int .i64 (endW p.qs 0 way)) ∧ Grow w w' := by
  refine nf67 p.name p.version o p.qs.length c ow way.length cw w _ fun w1 e1 => ?_
  have r := Row.new e1
  have g : Grow w w1 := only_alloc e1
  refine ⟨fun k x y w' => ∃ (j q : Nat), x = (q : Int) ∧ y = (j : Int) ∧ j ≤ way.length ∧ k = way.length - j ∧ endW p.qs 0 way = endW p.qs q (way.drop j) ∧ Grow w1 w', ⟨_, 0, 0, rfl, rfl, Nat.zero_le _, rfl, rfl, Only.refl _ _⟩, ?_⟩
  rintro k _ w7 _ _ ⟨j, q, rfl, rfl, hj, rfl, hE, g7⟩
  refine ⟨fun hlt w12 e12 => ?_, fun hge => ⟨ret_int ?_, g.trans' g7⟩⟩
  · have hlt : j < way.length := by have := dT hlt; omega
    have g12 : Grow w1 w12 := g7.trans' (only_drew e12)
    have G12 := g.trans' g12
    have r12 := r.grow g12
    rw [drop_cons hlt] at hE
    have hk0 := h0w _ (List.getElem_mem hlt)
    obtain ⟨aw, haw, hcw⟩ := (hs'.grow G12).get hlt
    generalize way[j] = kk at *
    obtain ⟨m, rfl⟩ : ∃ m : Nat, kk = (m : Int) := ⟨kk.toNat, by omega⟩
    refine ⟨fun hneg => absurd (dT hneg) (by omega), fun _ => ⟨_, _, _, r12.cell rfl, fun hq => ⟨ret_int ?_, G12⟩, fun hq => ?_⟩⟩
    · have hq := dT hq
      rw [hE, endW, List.getElem?_eq_none (by omega)]
    have hq : q < p.qs.length := by have := dF hq; omega
    have hqs : p.qs[q]? = some p.qs[q] := List.getElem?_eq_getElem hq
    have hqm := List.getElem_mem hq
    obtain ⟨a3, oi, ci, ha3, hc0, hc1, hr3⟩ := (h.grow G12).get hq
    have hans := (valid_of hv).ans _ hqm
    have hok : ∀ a, a ∈ p.qs[q].ans → OkAns p.qs a := fun a ha => ok_ans hv hqm ha
    generalize p.qs[q] = s at *
    refine ⟨aw, haw, ⟨by omega, by omega⟩, _, hcw, fun hneg => absurd (dT hneg) (by omega), fun _ => ⟨aw, haw, ⟨by omega, by omega⟩, _, hcw, _, _, _, r12.cell rfl, a3, ha3, ⟨by omega, by omega⟩, _, _, _, hc1, fun hk => ⟨ret_int ?_, G12⟩, fun hk w36 e36 => ?_⟩⟩
    · have hk := dT hk
      rw [hE, endW, hqs]
      simp only [toNat_cast]
      rw [List.getElem?_eq_none (by omega)]
    have hk : m < s.ans.length := by have := dF hk; omega
    have g36 : Grow w12 w36 := only_drew e36
    have r36 := r12.grow g36
    have hcw' := cell_keep g36 (fun h => h) hcw
    have hc1' := cell_keep g36 (fun h => h) hc1
    obtain ⟨a4, ha4, d0, d1, d2, d3⟩ := Recs.ans (hr3.grow g36) hk
    have ha : s.ans[m]? = some s.ans[m] := List.getElem?_eq_getElem hk
    have hok' := hok _ (List.getElem_mem hk)
    generalize s.ans[m] = x at *
    refine ⟨_, _, _, r36.cell rfl, a3, ha3, ⟨by omega, by omega⟩, _, _, _, hc1', aw, haw, ⟨by omega, by omega⟩, _, hcw', a4, ha4, ⟨by omega, by omega⟩, _, d0, _, d1, _, d2, _, d3, fun w52 e52 => ?_⟩
    have g52 : Grow w36 w52 := only_alloc e52
    refine ⟨kept_cell d0 g52, kept_cell hcw' g52, kept_cell hc1' g52, kept_only g52 r36.lt (fun h => h), (Row.new e52).there (by simp), fun w54 e54 => ?_⟩
    obtain ⟨r54, g54⟩ := loc e52 e54 rfl
    have G54 := (G12.trans' g36).trans' g54
    refine ⟨_, r54.cell rfl, fun hn => ⟨fun hm => ⟨ret_int ?_, G54⟩, fun hm => ⟨_, r54.cell rfl, ret_int ?_, G54⟩⟩, fun hn => ⟨_, r54.cell rfl, _, ?_, j + 1, x.next.toNat, ?_, by rw [wr (by omega)]; omega, hlt, rfl, ?_, (g12.trans' g36).trans' g54⟩⟩
    · have hn := dT hn
      have hm := dT hm
      rw [wr (by omega)] at hm
      rw [hE, endW, hqs]
      simp only [toNat_cast, ha]
      rw [if_pos (by omega), if_neg]
      intro e
      have := congrArg List.length e
      simp at this
      omega
    · have hn := dT hn
      have hm := dF hm
      rw [wr (by omega)] at hm
      rw [hE, endW, hqs]
      simp only [toNat_cast, ha]
      rw [if_pos (by omega), if_pos]
      exact List.drop_eq_nil_of_le (by omega)
    · omega
    · have hn := dF hn
      have := hok'.low
      omega
    · have hn := dF hn
      have := hok'.low
      rw [hE, endW, hqs]
      simp only [toNat_cast, ha]
      rw [if_neg (by omega)]
  · have := dF hge
    rw [hE, List.drop_eq_nil_of_le (by omega), endW]

/-! ### Plain -/
theorem mem_ansF {G : Nat → List (List Int)} {w : List Int} : ∀ (l : List Ans) (k : Nat), w ∈ ansF G l k → ∃ (u : Nat) (h : u < l.length), w ∈ oneF G l[u] (k + u)
  | [], k, h => by simp [ansF] at h
  | a :: l, k, h => by
    rw [ansF, List.mem_append] at h
    rcases h with h | h
    · exact ⟨0, by simp, h⟩
    · obtain ⟨u, hu, hw⟩ := mem_ansF l (k + 1) h
      exact ⟨u + 1, by simp; omega, by rw [show k + (u + 1) = k + 1 + u by omega]; exact hw⟩
theorem way_spec {qs : List Qst} : ∀ (f q : Nat) (w : List Int), w ∈ pathsF qs f q → (∀ k, k ∈ w → 0 ≤ k) ∧ Walk (nxP qs) q w.length ∧ ∃ (i : Nat) (s : Qst) (a : Ans), Rch (nxP qs) q i ∧ qs[i]? = some s ∧ a ∈ s.ans ∧ a.next < 0 ∧ endW qs q w = a.urg := by
  intro f
  induction f with
  | zero => intro q w h; simp [pathsF] at h
  | succ f ih =>
    intro q w h
    rw [pathsF] at h
    cases hq : qs[q]? with
    | none => rw [hq] at h; simp at h
    | some s =>
      rw [hq] at h
      obtain ⟨u, hu, hw⟩ := mem_ansF _ _ h
      rw [Nat.zero_add] at hw
      have ha : s.ans[u]? = some s.ans[u] := List.getElem?_eq_getElem hu
      have ham := List.getElem_mem hu
      generalize s.ans[u] = a at *
      unfold oneF at hw
      split at hw
      · rename_i hn
        rw [List.mem_singleton] at hw
        subst hw
        refine ⟨fun k hk => by rw [List.mem_singleton] at hk; omega, .one q, q, s, a, .refl q, hq, ham, hn, endW_last hq ha hn⟩
      · rename_i hn
        obtain ⟨v, hv, rfl⟩ := List.mem_map.1 hw
        obtain ⟨h1, h2, i, s', a', h3, h4, h5, h6, h7⟩ := ih _ _ hv
        have hx := nx_of_ans hq ham (by omega)
        refine ⟨fun k hk => ?_, .more hx h2, i, s', a', .step hx h3, h4, h5, h6, ?_⟩
        · rcases List.mem_cons.1 hk with rfl | hk
          · omega
          · exact h1 k hk
        · rw [endW_more hq ha (by omega)]; exact h7
theorem ans_pos {p : Prot} (h : validB p = true) {s : Qst} (hs : s ∈ p.qs) : 1 ≤ s.ans.length := by
  unfold validB at h
  simp only [Bool.and_eq_true, decide_eq_true_eq] at h
  have := List.all_eq_true.1 h.1.1.1.1.1 s hs
  unfold qstB at this
  simp only [Bool.and_eq_true, decide_eq_true_eq] at this
  omega
theorem paths_some {p : Prot} (hv : validB p = true) : ∀ (f q : Nat), q < p.qs.length → (∀ d, Walk (nxP p.qs) q d → d ≤ f) → pathsF p.qs f q ≠ [] := by
  intro f
  induction f with
  | zero => intro q _ hd; have := hd 1 (.one q); omega
  | succ f ih =>
    intro q hq hd
    have hqs : p.qs[q]? = some p.qs[q] := List.getElem?_eq_getElem hq
    have hpos := ans_pos hv (List.getElem_mem hq)
    rw [pathsF, hqs]
    generalize p.qs[q] = s at *
    obtain ⟨a, l, hal⟩ : ∃ a l, s.ans = a :: l := by
      cases hl : s.ans with
      | nil => rw [hl] at hpos; simp at hpos
      | cons a l => exact ⟨a, l, rfl⟩
    have ham : a ∈ s.ans := by rw [hal]; simp
    show ansF (pathsF p.qs f) s.ans 0 ≠ []
    rw [hal, ansF]
    intro e
    have e1 := (List.append_eq_nil_iff.1 e).1
    unfold oneF at e1
    split at e1
    · cases e1
    · have hx := nx_of_ans hqs ham (by omega)
      have := ih a.next.toNat (valid_in hv _ _ hx) fun d hw => by have := hd _ (.more hx hw); omega
      exact this (by simpa using e1)
theorem ways_some {p : Prot} {x : Int} (hE : Ending' p x 0) : waysB p 0 ≠ [] := by
  have hv := ending_valid hE
  have hpos := (valid_of hv).pos
  exact paths_some hv _ 0 (by omega) fun d hw => walk_le (valid_in hv) (ending_acyclic hE) hw (by omega)
set_option maxHeartbeats 2000000 in
theorem law19_c (o : Option Addr) (c : Nat) (p : Prot) (hf : FitP p) (w : World) {A : Nat → Prop} (h : Qs w A o p.qs) :
    Calls Try.prog 19 #[.agg #[.string p.name, .int .i64 p.version, .slice o p.qs.length c]] w fun e w' => e = .returned (.bool true) ∧ Grow w w' := by
  have hfl := hf.qs
  refine nf19 p.name p.version o p.qs.length c w _ fun w1 e1 => (awake13_c w1).mono ?_
  have r := Row.new e1
  have g : Grow w w1 := only_alloc e1
  rintro _ w4 ⟨rfl, g4⟩
  have r4 := r.grow g4
  have h4 := (h.grow g).grow g4
  refine ⟨_, rfl, fun _ => ⟨_, r4.cell rfl, _, r4.cell rfl, _, _, _, r4.cell rfl, (few_c o c p hf w4 h4).mono ?_⟩, fun hb => (by cases hb)⟩
  rintro _ w13 ⟨b, rfl, hb, g13⟩
  have r13 := r4.grow g13
  have h13 := h4.grow g13
  have G13 := (g.trans' g4).trans' g13
  refine ⟨_, rfl, fun hbt => ⟨_, r13.cell rfl, _, r13.cell rfl, _, _, _, r13.cell rfl, (check_c o c p hfl w13 h13).mono ?_⟩, fun _ => (awake13_c w13).mono ?_⟩
  · rintro _ w22 ⟨x, y, rfl, hE, g22⟩
    have r22 := r13.grow g22
    have h22 := h13.grow g22
    refine ⟨_, _, rfl, _, r22.cell rfl, _, r22.cell rfl, _, _, _, r22.cell rfl, (taken_c o c p 60 (by omega) (by omega) hfl w22 h22).mono ?_⟩
    rintro _ w31 ⟨x', y', o32, c32, hE', rfl, hM, g31⟩
    obtain ⟨rfl, rfl⟩ := ending_one hE hE'
    have r31 := r22.grow g31
    have h31 := h22.grow g31
    have G31 := (G13.trans' g22).trans' g31
    refine ⟨_, _, _, rfl, fun hy => ?_, fun hy => ?_⟩
    · have hw : waysB p y = [] := if_neg (nT hy)
      rw [hw]
      refine yes rfl ⟨_, r31.cell rfl, _, r31.cell rfl, _, _, _, r31.cell rfl, (countPaths_c o c p hfl w31 h31).mono ?_⟩
      rintro _ w43 ⟨x', y', hE', rfl, g43⟩
      obtain ⟨rfl, rfl⟩ := ending_one hE hE'
      rw [hw]
      exact ⟨_, rfl, yes rfl ⟨rfl, G31.trans' g43⟩⟩
    · have hy := nF hy
      subst hy
      have hv := ending_valid hE
      have hac := ending_acyclic hE
      have V := valid_of hv
      have hpos := V.pos
      have htop := V.top
      have hne := ways_some hE
      refine ⟨_, r31.cell rfl, _, r31.cell rfl, _, _, _, r31.cell rfl, (maxQuestions_c o c p 0 hfl w31 h31).mono ?_⟩
      rintro _ w55 ⟨m, y, rfl, hm, g55⟩
      have r55 := r31.grow g55
      have h55 := h31.grow g55
      have hmost : y = 0 ∧ ∃ d : Nat, m = d ∧ Top (nxP p.qs) 0 d := by
        rcases hm with ⟨hv', -, -⟩ | ⟨-, hq, -, -⟩ | ⟨-, -, ⟨j, hj, hc⟩, -, -⟩ | ⟨-, -, -, ⟨d, h1, h2⟩, h3⟩
        · exact absurd (hv.symm.trans hv') (by decide)
        · exact absurd ⟨by omega, by omega⟩ hq
        · exact absurd hc (hac j (hj.closed (m := fun y => y < p.qs.length) (fun i _ y hy => valid_in hv i y hy) (by simp; omega)))
        · exact ⟨h3, d, h1, h2⟩
      obtain ⟨rfl, d, rfl, hT⟩ := hmost
      refine ⟨_, _, rfl, _, r55.cell rfl, _, r55.cell rfl, _, _, _, r55.cell rfl, (urgencyRange_c o c p 0 hfl w55 h55).mono ?_⟩
      rintro _ w64 ⟨lo, hi, rfl, hR, g64⟩
      have r64 := r55.grow g64
      have h64 := h55.grow g64
      have G64 := (G31.trans' g55).trans' g64
      have hRng : Rng (Urg p.qs (Rch (nxP p.qs) 0)) lo hi := by
        rcases hR with ⟨-, h⟩ | ⟨h, -⟩
        · exact h
        · exact absurd ⟨hv, by omega, by omega⟩ h
      have hM64 := (hM.grow g55).grow g64
      obtain ⟨L, hL⟩ : ∃ L, (waysB p 0).take 60 = L := ⟨_, rfl⟩
      have hLm : ∀ v, v ∈ L → v ∈ paths p.qs 0 := fun v hv => by rw [← hL] at hv; exact List.mem_of_mem_take hv
      have hL0 : L ≠ [] := fun e => by
        rw [e] at hL
        have := List.take_eq_nil_iff.1 hL
        rcases this with h | h
        · cases h
        · exact hne h
      have hL60 : L.length ≤ 60 := by rw [← hL, List.length_take]; omega
      rw [hL] at hM64 ⊢
      refine ⟨_, _, rfl, nno rfl (no (fun h => hL0 (List.length_eq_zero_iff.1 (by omega))) ⟨fun k x w' => ∃ j : Nat, x = (j : Int) ∧ j ≤ L.length ∧ k = L.length - j ∧ Grow w64 w', ⟨_, 0, rfl, Nat.zero_le _, rfl, Only.refl _ _⟩, ?_⟩)⟩
      rintro k _ w75 x ⟨j, rfl, hj, rfl, g75⟩
      refine ⟨fun hlt => ?_, fun _ => ⟨rfl, G64.trans' g75⟩⟩
      have hlt : j < L.length := by have := dT hlt; omega
      have r75 := r64.grow g75
      have h75 := h64.grow g75
      obtain ⟨a, oi, ci, ha, hc, hN⟩ := (hM64.grow g75).get hlt
      have hmem := hLm _ (List.getElem_mem hlt)
      generalize L[j] = way at *
      obtain ⟨w0, hwk, i, s, an, hr, hsi, han, hn, hend⟩ := way_spec _ _ _ hmem
      have hwl : way.length ≤ 64 := by have := paths_short _ _ _ hmem; omega
      refine ⟨a, ha, ⟨by omega, by omega⟩, _, _, _, hc, _, r75.cell rfl, _, r75.cell rfl, _, _, _, r75.cell rfl, (endRef_c o oi c ci p way hv (by omega) w0 w75 h75 hN).mono ?_⟩
      rintro _ w89 ⟨rfl, g89⟩
      have hok := ok_ans hv (List.mem_of_getElem? hsi) han
      have hu : Urg p.qs (Rch (nxP p.qs) 0) (endW p.qs 0 way) := ⟨i, s, hr, hsi, an, han, hn, hend.symm⟩
      have hfin := hok.fin hn
      have hb : lo ≤ endW p.qs 0 way ∧ endW p.qs 0 way ≤ hi := by
        rcases hRng with ⟨-, -, hno⟩ | ⟨-, -, hall⟩
        · exact absurd hu (hno _)
        · exact hall _ hu
      have hlen := hT.1 _ hwk
      exact ⟨_, rfl, no (by omega) (no (by omega) (no (by omega) (no (by omega) ⟨_, by omega, j + 1, by rw [wr (by omega)]; omega, hlt, rfl, g75.trans' g89⟩)))⟩
  · rintro _ w40 ⟨rfl, g40⟩
    exact ⟨_, rfl, fun _ => ⟨rfl, G13.trans' g40⟩, fun h => (by cases h)⟩

theorem best_min : ∀ {l : List (List Int)} {v : List Int}, best l = some v → ∀ x, x ∈ l → v.length ≤ x.length
  | [], _, h => by cases h
  | w :: l, v, h => by
    rw [best] at h
    intro x hx
    cases hb : best l with
    | none =>
      rw [hb] at h
      cases h
      have hl : l = [] := by
        cases l with
        | nil => rfl
        | cons a l =>
          exfalso
          rw [best] at hb
          cases hbl : best l with
          | none => rw [hbl] at hb; cases hb
          | some z => rw [hbl] at hb; simp only [better] at hb; split at hb <;> cases hb
      subst hl
      rw [List.mem_singleton] at hx
      rw [hx]; exact Nat.le_refl _
    | some z =>
      rw [hb] at h
      simp only [better] at h
      have ih := best_min hb
      rcases List.mem_cons.1 hx with rfl | hx
      · split at h
        · cases h; omega
        · cases h; exact Nat.le_refl _
      · have := ih x hx
        split at h
        · cases h; omega
        · cases h; omega
theorem best_nil {l : List (List Int)} (h : best l = none) : l = [] := by
  cases l with
  | nil => rfl
  | cons a l =>
    exfalso
    rw [best] at h
    cases hbl : best l with
    | none => rw [hbl] at h; cases h
    | some z => rw [hbl] at h; simp only [better] at h; split at h <;> cases h
def lenB : Option (List Int) → Int
  | none => 0
  | some v => v.length
theorem wants_pos {qs : List Qst} {U : Int} {q : Nat} {v : List Int} (h : v ∈ wants qs U q) : 1 ≤ v.length := by
  unfold wants paths at h
  have h := (List.mem_filter.1 h).1
  revert h
  generalize qs.length = f
  cases f with
  | zero => intro h; simp [pathsF] at h
  | succ f =>
    intro h
    rw [pathsF] at h
    cases hq : qs[q]? with
    | none => rw [hq] at h; simp at h
    | some s =>
      rw [hq] at h
      have key : ∀ (l : List Ans) (k : Nat), v ∈ ansF (pathsF qs f) l k → 1 ≤ v.length := by
        intro l
        induction l with
        | nil => intro k h; simp [ansF] at h
        | cons a l ih2 =>
          intro k h
          rw [ansF, List.mem_append] at h
          rcases h with h | h
          · unfold oneF at h
            split at h
            · rw [List.mem_singleton] at h; rw [h]; simp
            · obtain ⟨v, hv, rfl⟩ := List.mem_map.1 h
              simp
          · exact ih2 _ h
      exact key _ _ h
/-- what an answer would give -/
def cand (U : Int) (l : List Int) (a : Ans) : Int := if a.next < 0 then (if a.urg = U then 1 else 0) else (if gI l a.next.toNat > 0 then gI l a.next.toNat + 1 else 0)
section
variable {qs : List Qst} {U : Int}
theorem want_in (hin : ∀ q x, x ∈ nxP qs q → x < qs.length) (hac : ∀ j, j < qs.length → ¬ Cyc (nxP qs) j) {i : Nat} {s : Qst} (hs : qs[i]? = some s) {v : List Int} : v ∈ wants qs U i ↔ ∃ (u : Nat) (h : u < s.ans.length), (s.ans[u].next < 0 ∧ s.ans[u].urg = U ∧ v = [(u : Int)]) ∨ (0 ≤ s.ans[u].next ∧ ∃ v', v' ∈ wants qs U s.ans[u].next.toNat ∧ v = (u : Int) :: v') := by
  have hpe := paths_eq hin hac hs
  unfold wants
  rw [List.mem_filter, hpe]
  constructor
  · rintro ⟨h, hd⟩
    have hd := of_decide_eq_true hd
    have key : ∀ (l : List Ans) (k : Nat), v ∈ ansF (paths qs) l k → ∃ (u : Nat) (h : u < l.length), v ∈ oneF (paths qs) l[u] (k + u) := by
      intro l
      induction l with
      | nil => intro k h; simp [ansF] at h
      | cons a l ih =>
        intro k h
        rw [ansF, List.mem_append] at h
        rcases h with h | h
        · exact ⟨0, by simp, h⟩
        · obtain ⟨u, hu, hw⟩ := ih (k + 1) h
          exact ⟨u + 1, by simp; omega, by rw [show k + (u + 1) = k + 1 + u by omega]; exact hw⟩
    obtain ⟨u, hu, hw⟩ := key _ _ h
    rw [Nat.zero_add] at hw
    have ha : s.ans[u]? = some s.ans[u] := List.getElem?_eq_getElem hu
    refine ⟨u, hu, ?_⟩
    generalize s.ans[u] = a at *
    unfold oneF at hw
    split at hw
    · rename_i hn
      rw [List.mem_singleton] at hw
      subst hw
      rw [endW_last hs ha hn] at hd
      exact .inl ⟨hn, hd, rfl⟩
    · rename_i hn
      obtain ⟨v', hv, rfl⟩ := List.mem_map.1 hw
      rw [endW_more hs ha (by omega)] at hd
      exact .inr ⟨by omega, v', List.mem_filter.2 ⟨hv, decide_eq_true hd⟩, rfl⟩
  · rintro ⟨u, hu, h⟩
    have ha : s.ans[u]? = some s.ans[u] := List.getElem?_eq_getElem hu
    obtain ⟨rest, hrest⟩ := ansF_prefix (paths qs) s.ans hu
    have hsub : ∀ x, x ∈ oneF (paths qs) s.ans[u] u → x ∈ ansF (paths qs) s.ans 0 := fun x hx => by
      rw [hrest]
      exact List.mem_append.2 (.inl (List.mem_append.2 (.inr hx)))
    generalize s.ans[u] = a at *
    rcases h with ⟨hn, hU, rfl⟩ | ⟨hn, v', hv', rfl⟩
    · exact ⟨hsub _ (by unfold oneF; rw [if_pos hn]; simp), decide_eq_true (by rw [endW_last hs ha hn]; exact hU)⟩
    · obtain ⟨h1, h2⟩ := List.mem_filter.1 hv'
      exact ⟨hsub _ (by unfold oneF; rw [if_neg (by omega)]; exact List.mem_map.2 ⟨v', h1, rfl⟩), decide_eq_true (by rw [endW_more hs ha hn]; exact of_decide_eq_true h2)⟩
/-- behind r rounds and i questions of the next -/
structure Shr (qs : List Qst) (U : Int) (l : List Int) (r i : Nat) : Prop where
  len : l.length = qs.length
  real : ∀ y, gI l y = 0 ∨ ∃ v, v ∈ wants qs U y ∧ gI l y = v.length
  all : ∀ y, y < qs.length → ∀ v, v ∈ wants qs U y → v.length ≤ r → 0 < gI l y ∧ gI l y ≤ v.length
  more : ∀ y, y < qs.length → y < i → ∀ v, v ∈ wants qs U y → v.length ≤ r + 1 → 0 < gI l y ∧ gI l y ≤ v.length
/-- within a question -/
structure Shn (qs : List Qst) (U : Int) (s : Qst) (l l' : List Int) (i u : Nat) : Prop where
  len : l'.length = l.length
  same : ∀ y, y ≠ i → gI l' y = gI l y
  real : gI l' i = 0 ∨ ∃ v, v ∈ wants qs U i ∧ gI l' i = v.length
  done : ∀ (k : Nat) (h : k < s.ans.length), k < u → 0 < cand U l s.ans[k] → 0 < gI l' i ∧ gI l' i ≤ cand U l s.ans[k]
theorem Shr.start : Shr qs U (List.replicate qs.length 0) 0 0 :=
  ⟨by simp, fun y => .inl (gI_rep _ _), fun y _ v hv h => by have := wants_pos hv; omega, fun y _ h => by omega⟩
theorem Shr.round {l : List Int} {r : Nat} (h : Shr qs U l r qs.length) : Shr qs U l (r + 1) 0 := ⟨h.len, h.real, fun y hy v hv hl => h.more y hy hy v hv hl, fun y _ h => by omega⟩
theorem Shr.node {l l' : List Int} {r i : Nat} {s : Qst} (hin : ∀ q x, x ∈ nxP qs q → x < qs.length) (hac : ∀ j, j < qs.length → ¬ Cyc (nxP qs) j) (hs : qs[i]? = some s) (h : Shr qs U l r i) (k : Shn qs U s l l' i s.ans.length) : Shr qs U l' r (i + 1) := by
  have key : ∀ v, v ∈ wants qs U i → v.length ≤ r + 1 → 0 < gI l' i ∧ gI l' i ≤ v.length := fun v hv hl => by
    obtain ⟨u, hu, h1⟩ := (want_in hin hac hs).1 hv
    have hd := k.done u hu hu
    have ham := List.getElem_mem hu
    generalize s.ans[u] = a at *
    rcases h1 with ⟨hn, hU, rfl⟩ | ⟨hn, v', hv', rfl⟩
    · have hc : cand U l a = 1 := by unfold cand; rw [if_pos hn, if_pos hU]
      rw [hc] at hd
      have := hd (by omega)
      simp; omega
    · have hx := nx_of_ans hs ham hn
      have h2 := h.all _ (hin _ _ hx) v' hv' (by simp at hl; omega)
      have hc : cand U l a = gI l a.next.toNat + 1 := by unfold cand; rw [if_neg (by omega), if_pos h2.1]
      rw [hc] at hd
      have := hd (by omega)
      simp; omega
  refine ⟨k.len.trans h.len, fun y => ?_, fun y hy v hv hl => ?_, fun y hy hyi v hv hl => ?_⟩
  · by_cases e : y = i
    · subst e; exact k.real
    · rw [k.same y e]; exact h.real y
  · by_cases e : y = i
    · subst e; exact key v hv (by omega)
    · rw [k.same y e]; exact h.all y hy v hv hl
  · by_cases e : y = i
    · subst e; exact key v hv hl
    · rw [k.same y e]; exact h.more y hy (by omega) v hv hl
theorem Shr.done {l : List Int} (h : Shr qs U l qs.length 0) {y : Nat} (hy : y < qs.length) : gI l y = lenB (best (wants qs U y)) := by
  have hlen : ∀ v, v ∈ wants qs U y → v.length ≤ qs.length := fun v hv => paths_short _ _ _ (List.mem_filter.1 hv).1
  cases hb : best (wants qs U y) with
  | none =>
    have := best_nil hb
    rcases h.real y with h0 | ⟨v, hv, -⟩
    · exact h0
    · rw [this] at hv; simp at hv
  | some v =>
    have hv := best_mem hb
    have h1 := h.all y hy v hv (hlen v hv)
    rcases h.real y with h0 | ⟨v', hv', h2⟩
    · omega
    · have := best_min hb v' hv'
      show gI l y = (v.length : Int)
      omega
/-- one answer more -/
theorem Shn.step {s : Qst} {l l' l'' : List Int} {i u : Nat} (hin : ∀ q x, x ∈ nxP qs q → x < qs.length) (hac : ∀ j, j < qs.length → ¬ Cyc (nxP qs) j) (hs : qs[i]? = some s) (hr : ∀ y, gI l y = 0 ∨ ∃ v, v ∈ wants qs U y ∧ gI l y = v.length) (h : Shn qs U s l l' i u) (hu : u < s.ans.length)
    (hl : l''.length = l'.length) (hsame : ∀ y, y ≠ i → gI l'' y = gI l' y) (hv : (0 < cand U l s.ans[u] ∧ (gI l' i = 0 ∨ cand U l s.ans[u] < gI l' i) ∧ gI l'' i = cand U l s.ans[u]) ∨ (¬ (0 < cand U l s.ans[u] ∧ (gI l' i = 0 ∨ cand U l s.ans[u] < gI l' i)) ∧ gI l'' i = gI l' i)) : Shn qs U s l l'' i (u + 1) := by
  refine ⟨hl.trans h.len, fun y hy => (hsame y hy).trans (h.same y hy), ?_, fun k hk hku hc => ?_⟩
  · rcases hv with ⟨h0, -, h1⟩ | ⟨-, h1⟩
    · refine .inr ?_
      rw [h1]
      have ham := List.getElem_mem hu
      have hw := fun v => (want_in (U := U) hin hac hs (v := v)).2
      have : ∀ v, (s.ans[u].next < 0 ∧ s.ans[u].urg = U ∧ v = [(u : Int)]) ∨ (0 ≤ s.ans[u].next ∧ ∃ v', v' ∈ wants qs U s.ans[u].next.toNat ∧ v = (u : Int) :: v') → v ∈ wants qs U i := fun v h => hw v ⟨u, hu, h⟩
      generalize s.ans[u] = a at *
      unfold cand at h0 ⊢
      by_cases hn : a.next < 0
      · rw [if_pos hn] at h0 ⊢
        by_cases hU : a.urg = U
        · rw [if_pos hU]
          exact ⟨[(u : Int)], this _ (.inl ⟨hn, hU, rfl⟩), rfl⟩
        · rw [if_neg hU] at h0; omega
      · rw [if_neg hn] at h0 ⊢
        by_cases hg : gI l a.next.toNat > 0
        · rw [if_pos hg]
          rcases hr a.next.toNat with h2 | ⟨v', hv', h2⟩
          · omega
          · exact ⟨(u : Int) :: v', this _ (.inr ⟨by omega, v', hv', rfl⟩), by rw [h2]; simp⟩
        · rw [if_neg hg] at h0; omega
    · rw [h1]; exact h.real
  · by_cases e : k = u
    · subst e
      rcases hv with ⟨h0, h2, h1⟩ | ⟨h0, h1⟩
      · omega
      · rw [h1]
        have : gI l' i ≠ 0 ∧ ¬ cand U l s.ans[k] < gI l' i := ⟨fun e => h0 ⟨hc, .inl e⟩, fun e => h0 ⟨hc, .inr e⟩⟩
        have hp : 0 ≤ gI l' i := by
          rcases h.real with h3 | ⟨v, -, h3⟩ <;> omega
        omega
    · have := h.done k hk (by omega) hc
      rcases hv with ⟨h0, h2, h1⟩ | ⟨h0, h1⟩
      · omega
      · omega
end
/-! ### The way back -/
theorem better_le {a b : Option (List Int)} : (∀ x, a = some x → ∃ y, better a b = some y ∧ y.length ≤ x.length) ∧ (∀ x, b = some x → ∃ y, better a b = some y ∧ y.length ≤ x.length) := by
  cases a with
  | none => exact ⟨fun x h => (by cases h), fun x h => ⟨x, by rw [h]; rfl, Nat.le_refl _⟩⟩
  | some a =>
    cases b with
    | none => exact ⟨fun x h => ⟨x, by rw [h]; rfl, Nat.le_refl _⟩, fun x h => (by cases h)⟩
    | some b =>
      simp only [better]
      split
      · exact ⟨fun x h => (by cases h; exact ⟨b, rfl, by omega⟩), fun x h => (by cases h; exact ⟨b, rfl, Nat.le_refl _⟩)⟩
      · exact ⟨fun x h => (by cases h; exact ⟨a, rfl, Nat.le_refl _⟩), fun x h => (by cases h; exact ⟨a, rfl, by omega⟩)⟩
section
variable {C O : Nat → Option (List Int)} {n : Nat} (h0 : C 0 = none) (hC : ∀ u, u < n → C (u + 1) = better (C u) (O u))
include hC
theorem fold_le : ∀ (u : Nat), u ≤ n → ∀ k, k < u → ∀ z, O k = some z → ∃ x, C u = some x ∧ x.length ≤ z.length
  | 0, _, k, hk, _, _ => by omega
  | u + 1, hu, k, hk, z, hz => by
    rw [hC u (by omega)]
    by_cases e : k = u
    · subst e; exact better_le.2 z hz
    · obtain ⟨x, hx, hl⟩ := fold_le u (by omega) k (by omega) z hz
      obtain ⟨y, hy, hl2⟩ := better_le (b := O u) |>.1 x hx
      exact ⟨y, hy, by omega⟩
include h0
theorem fold_late {left : Nat} : ∀ (u : Nat), u ≤ n → (∀ k, k < u → ∀ z, O k = some z → left < z.length) → ∀ x, C u = some x → left < x.length
  | 0, _, _, x, hx => by rw [h0] at hx; cases hx
  | u + 1, hu, hno, x, hx => by
    rw [hC u (by omega)] at hx
    cases hcu : C u with
    | none => rw [hcu] at hx; exact hno u (by omega) x hx
    | some a =>
      have ha := fold_late u (by omega) (fun k hk => hno k (by omega)) a hcu
      rw [hcu] at hx
      cases ho : O u with
      | none => rw [ho] at hx; cases hx; exact ha
      | some b =>
        have hb := hno u (by omega) b ho
        rw [ho] at hx
        simp only [better] at hx
        split at hx <;> cases hx <;> assumption
theorem fold_hit {left k : Nat} {z : List Int} (hk : k < n) (hno : ∀ k', k' < k → ∀ z, O k' = some z → left < z.length) (hz : O k = some z) (hl : z.length = left) (hmin : ∀ k', k' < n → ∀ z, O k' = some z → left ≤ z.length) : ∀ d, k + 1 + d ≤ n → C (k + 1 + d) = some z
  | 0, _ => by
    rw [Nat.add_zero, hC k hk, hz]
    cases hck : C k with
    | none => rfl
    | some x =>
      have := fold_late h0 hC k (by omega) hno x hck
      simp only [better, if_pos (show z.length < x.length by omega)]
  | d + 1, hd => by
    rw [← Nat.add_assoc, hC _ (by omega), fold_hit hk hno hz hl hmin d (by omega)]
    cases ho : O (k + 1 + d) with
    | none => rfl
    | some b =>
      have := hmin _ (by omega) b ho
      simp only [better, if_neg (show ¬ b.length < z.length by omega)]
end

theorem push_own {w w1 : World} {B : Nat} {o : Option Addr} {n c : Nat} {xs : List Int} {x : Int} {K : Value → World → Prop} (h : Own w B 3 1 o n c (intsV xs)) (e : w1 = w.alloc (.cells #[.int .i64 x] 3 (0, 0))) (hn : n ≤ 1000000) (hB : B ≤ hs w)
    (hK : ∀ o' c' w', Own w' B 3 1 o' (n + 1) c' (intsV (xs ++ [x])) → Only (fun b => B ≤ b) w w' → K (.slice o' (n + 1) c') w') :
    RunOk Try.prog (Hold (Builtin.append_ #[48, 48] 48 #[.slice o n c, .slice (some ⟨hs w, 0, none⟩) 1 1])) w1 K :=
  push_int h e hn hB fun o' c' w' p1 p2 => hK o' c' w' p1 (p2.mono fun b _ hb => (h.base b hb).1)
set_option maxHeartbeats 8000000 in
theorem shortestRef_c (o : Option Addr) (c : Nat) (p : Prot) (U : Int) (hf : FitP p) (w : World) {A : Nat → Prop} (h : Qs w A o p.qs) :
    Calls Try.prog 66 #[.agg #[.string p.name, .int .i64 p.version, .slice o p.qs.length c], .int .i64 U] w fun e w' => ∃ x y, Ending' p x y ∧ WayRet w' (hs w) (shortW p y U) e ∧ Grow w w' := by
  refine nf66 p.name p.version o p.qs.length c U w _ fun w1 e1 => ?_
  have r := Row.new e1
  have g : Grow w w1 := only_alloc e1
  refine ⟨_, r.cell rfl, _, r.cell rfl, _, _, _, r.cell rfl, (ends_c o c p hf w1 (h.grow g)).mono ?_⟩
  rintro _ w2 ⟨x, y, rfl, hE, g2⟩
  have r2 := r.grow g2
  have G2 := g.trans' g2
  refine ⟨_, _, rfl, fun hy => ⟨x, y, hE, ⟨none, 0, 0, by rw [show shortW p y U = none from if_neg (nT hy)]; rfl, .inl ⟨if_neg (nT hy), rfl, rfl⟩⟩, G2⟩, fun hy => ?_⟩
  have hy := nF hy
  subst hy
  have hv := ending_valid hE
  have V := valid_of hv
  have htop := V.top
  have hpos := V.pos
  have hac := ending_acyclic hE
  have hin := valid_in hv
  have s1 := r.lt
  have hw := g.size
  have s2 := g2.size
  refine ⟨_, _, _, r2.cell rfl, make_ints (by omega) fun w3 rn g3 hs3 => ⟨_, _, _, rfl, ?_⟩⟩
  have G3 := G2.trans' g3
  refine ⟨fun k x w' => ∃ (t : Nat) (l : List Int), x = (t : Int) ∧ t ≤ p.qs.length ∧ k = p.qs.length - t ∧ Shr p.qs U l t 0 ∧ Row w' (hs w2) 3 (intsV l) ∧ Only (fun b => b = hs w2) w3 w', ⟨_, 0, _, rfl, Nat.zero_le _, rfl, Shr.start, rn, Only.refl _ _⟩, ?_⟩
  rintro k _ w4 x ⟨t, l, rfl, ht, rfl, hD, r4, g4⟩
  refine ⟨fun hlt => ?_, fun hge => ?_⟩
  · have hlt : t < p.qs.length := by have := dT hlt; omega
    refine ⟨fun k x w' => ∃ (i : Nat) (l : List Int), x = (i : Int) ∧ i ≤ p.qs.length ∧ k = p.qs.length - i ∧ Shr p.qs U l t i ∧ Row w' (hs w2) 3 (intsV l) ∧ Only (fun b => b = hs w2) w3 w', ⟨_, 0, l, rfl, Nat.zero_le _, rfl, hD, r4, g4⟩, ?_⟩
    rintro k _ w5 x ⟨i, l, rfl, hi, rfl, hD, r5, g5⟩
    have hll := hD.len
    refine ⟨fun hlt2 => ?_, fun hge2 => ?_⟩
    · have hlt2 : i < p.qs.length := by have := dT hlt2; omega
      have hqs : p.qs[i]? = some p.qs[i] := List.getElem?_eq_getElem hlt2
      obtain ⟨a7, oi, ci, ha7, hc0, hc1, hr7⟩ := h.get hlt2
      have hans := V.ans _ (List.getElem_mem hlt2)
      have hok : ∀ a, a ∈ p.qs[i].ans → OkAns p.qs a := fun a ha => ok_ans hv (List.getElem_mem hlt2) ha
      generalize p.qs[i] = s at *
      refine ⟨fun k x w' => ∃ (u : Nat) (l' : List Int), x = (u : Int) ∧ u ≤ s.ans.length ∧ k = s.ans.length - u ∧ Shn p.qs U s l l' i u ∧ Row w' (hs w2) 3 (intsV l') ∧ Only (fun b => b = hs w2) w3 w',
        ⟨_, 0, l, rfl, Nat.zero_le _, rfl, ⟨rfl, fun _ _ => rfl, hD.real i, fun k _ hk => by omega⟩, r5, g5⟩, ?_⟩
      rintro k _ w7 x ⟨u, l', rfl, hu, rfl, hS, r7, g7⟩
      have hl' := hS.len
      have G7 : Grow w w7 := G3.trans g7 fun b hb e => by omega
      have rp7 : Row w7 (hs w) 24 [.string p.name, .int .i64 p.version, .slice o p.qs.length c] := (r2.grow g3).keep g7 (by omega)
      have hc17 := cell_keep G7 (fun h => h) hc1
      refine ⟨_, _, _, rp7.cell rfl, a7, ha7, ⟨by omega, by omega⟩, _, _, _, hc17, fun hlt3 K hK => ?_, fun hge3 => ?_⟩
      · have hlt3 : u < s.ans.length := by have := dT hlt3; omega
        obtain ⟨a8, ha8, d0, d1, d2, d3⟩ := Recs.ans (hr7.grow G7) hlt3
        have ham : s.ans[u] ∈ s.ans := List.getElem_mem hlt3
        have hok' := hok _ ham
        have hreal := hD.real
        have hnr : ∀ y, 0 ≤ gI l y ∧ gI l y ≤ 64 := fun y => by
          rcases hreal y with h0 | ⟨v, hv', h0⟩
          · omega
          · have := paths_short _ _ _ (List.mem_filter.1 hv').1
            omega
        have next : ∀ w' l'', Shn p.qs U s l l'' i (u + 1) → Row w' (hs w2) 3 (intsV l'') → Only (fun b => b = hs w2) w7 w' → K w' := fun w' l'' q3 q4 q5 =>
          hK _ fun _ => ⟨_, by omega, u + 1, l'', by rw [wr (by omega)]; omega, hlt3, rfl, q3, q4, g7.trans' q5⟩
        refine ⟨_, _, _, rp7.cell rfl, a7, ha7, ⟨by omega, by omega⟩, _, _, _, hc17, a8, ha8, ⟨by omega, by omega⟩, _, d0, _, d1, _, d2, _, d3, fun w8 e8 => ⟨(Row.new e8).there (by simp), fun w9 e9 K75 hK75 => ?_⟩⟩
        obtain ⟨r9, g9⟩ := loc e8 e9 rfl
        have r79 := r7.grow g9
        have ci := r79.cellAdd (intsV_get (xs := l') (j := i) (by omega))
        have hth := r79.thereAdd (o := (i : Int).toNat * 1) (n := 1) (by rw [toNat_cast, intsV_len]; simp; omega)
        have hput : ∀ w11, w11 = setCells w9 ((⟨hs w2, 0, none⟩ : Addr).add ((i : Int).toNat * 1)) [.int .i64 (cand U l s.ans[u])] 0 → 0 < cand U l s.ans[u] → (gI l' i = 0 ∨ cand U l s.ans[u] < gI l' i) → K w11 := fun w11 e11 hp hq => by
          have r' := r79.setAdd e11
          rw [intsV_set] at r'
          exact next _ _ (hS.step hin hac hqs hreal hlt3 (by simp) (fun y hy => by rw [gI_set (by omega), if_neg hy]) (.inl ⟨hp, hq, by rw [gI_set (by omega), if_pos rfl]⟩)) r' ((Grow.only g9).trans' (only_setAdd e11))
        have hstay : ¬ (0 < cand U l s.ans[u] ∧ (gI l' i = 0 ∨ cand U l s.ans[u] < gI l' i)) → K w9 := fun hn =>
          next _ l' (hS.step hin hac hqs hreal hlt3 rfl (fun _ _ => rfl) (.inr ⟨hn, rfl⟩)) r79 (Grow.only g9)
        -- what is done with the answer's number
        have fin : ∀ (z : Int), z = cand U l s.ans[u] → (decide (z > 0) = true → ∃ a88, some (⟨hs w2, 0, none⟩ : Addr) = some a88 ∧ ((0 : Int) ≤ (i : Int) ∧ (i : Int) < (p.qs.length : Int)) ∧ ∃ x89, w9.cell? (a88.add ((i : Int).toNat * 1)) = some (.int .i64 x89) ∧
            (decide (x89 = 0) = true → ∃ a91, some (⟨hs w2, 0, none⟩ : Addr) = some a91 ∧ ((0 : Int) ≤ (i : Int) ∧ (i : Int) < (p.qs.length : Int)) ∧ There w9 (a91.add ((i : Int).toNat * 1)) 1 ∧ ∀ w92, w92 = setCells w9 (a91.add ((i : Int).toNat * 1)) [.int .i64 z] 0 → K w92) ∧
            (decide (x89 = 0) = false → ∃ a95, some (⟨hs w2, 0, none⟩ : Addr) = some a95 ∧ ((0 : Int) ≤ (i : Int) ∧ (i : Int) < (p.qs.length : Int)) ∧ ∃ x96, w9.cell? (a95.add ((i : Int).toNat * 1)) = some (.int .i64 x96) ∧
              (decide (z < x96) = true → ∃ a98, some (⟨hs w2, 0, none⟩ : Addr) = some a98 ∧ ((0 : Int) ≤ (i : Int) ∧ (i : Int) < (p.qs.length : Int)) ∧ There w9 (a98.add ((i : Int).toNat * 1)) 1 ∧ ∀ w99, w99 = setCells w9 (a98.add ((i : Int).toNat * 1)) [.int .i64 z] 0 → K w99) ∧
              (decide (z < x96) = false → K w9))) ∧ (decide (z > 0) = false → K w9) := by
          rintro z rfl
          refine ⟨fun hp => ⟨_, rfl, ⟨by omega, by omega⟩, _, ci, fun h0 => ⟨_, rfl, ⟨by omega, by omega⟩, hth, fun w92 e92 => hput w92 e92 (dT hp) (.inl (dT h0))⟩, fun h0 => ⟨_, rfl, ⟨by omega, by omega⟩, _, ci, fun h1 => ⟨_, rfl, ⟨by omega, by omega⟩, hth, fun w99 e99 => hput w99 e99 (dT hp) (.inr (dT h1))⟩, fun h1 => hstay fun hh => ?_⟩⟩, fun hp => hstay fun hh => dF hp hh.1⟩
          have h0 := dF h0
          have h1 := dF h1
          rcases hh.2 with h2 | h2
          · exact h0 h2
          · exact h1 h2
        have two : ∀ z : Int, z = (if s.ans[u].next < 0 then (if s.ans[u].urg = U then 1 else 0) else 0) → K75 z w9 := by
          intro z hz
          refine hK75 _ _ fun _ K81 hK81 => ?_
          have h81 : ∀ z, z = cand U l s.ans[u] → K81 z w9 := fun z hz => hK81 _ _ fun _ => fin z hz
          refine ⟨_, r9.cell rfl, fun hn => ?_, fun hn => h81 z ?_⟩
          · have hn := nT hn
            have hlow := hok'.low
            have h0 : 0 ≤ s.ans[u].next := by omega
            have hx := nx_of_ans hqs ham h0
            obtain ⟨y, hyy⟩ : ∃ y : Nat, s.ans[u].next = (y : Int) := ⟨s.ans[u].next.toNat, by omega⟩
            rw [if_neg (by omega)] at hz
            have hcand : cand U l s.ans[u] = if gI l y > 0 then gI l y + 1 else 0 := by unfold cand; rw [if_neg (by omega), hyy, toNat_cast]
            rw [hyy, toNat_cast] at hx
            have hyn := hin _ _ hx
            have hyi : y ≠ i := fun e => hac i hlt2 ⟨y, hx, by rw [e]; exact .refl _⟩
            have hsy := hS.same y hyi
            have hny := hnr y
            have cy := r79.cellAdd (intsV_get (xs := l') (j := y) (by omega))
            rw [hsy] at cy
            refine ⟨_, r9.cell rfl, ?_⟩
            show ∃ a, _ ∧ (_ ∧ s.ans[u].next < _) ∧ _
            rw [hyy]
            refine ⟨_, rfl, ⟨by omega, by omega⟩, _, cy, fun hp => ⟨_, r9.cell rfl, ?_⟩, fun hp => h81 z ?_⟩
            · show ∃ a, _ ∧ (_ ∧ s.ans[u].next < _) ∧ _
              rw [hyy]
              refine ⟨_, rfl, ⟨by omega, by omega⟩, _, cy, h81 _ ?_⟩
              rw [hcand, if_pos (dT hp), wr (by omega)]
            · rw [hcand, if_neg (dF hp), hz]
          · have hn := nF hn
            have hneg : s.ans[u].next < 0 := by omega
            rw [hz]
            unfold cand
            rw [if_pos hneg, if_pos hneg]
        refine ⟨_, r9.cell rfl, fun hn => ⟨_, r9.cell rfl, fun hU => two 1 ?_, fun hU => two 0 ?_⟩, fun hn => two 0 ?_⟩
        · rw [if_pos (by have := dT hn; omega), if_pos (dT hU)]
        · rw [if_pos (by have := dT hn; omega), if_neg (dF hU)]
        · have := dF hn
          have := hok'.low
          rw [if_neg (by omega)]
      · have := dF hge3
        obtain rfl : u = s.ans.length := by omega
        exact ⟨_, by omega, i + 1, l', by rw [wr (by omega)]; omega, hlt2, rfl, hD.node hin hac hqs hS, r7, g7⟩
    · have := dF hge2
      obtain rfl : i = p.qs.length := by omega
      exact ⟨_, by omega, t + 1, l, by rw [wr (by omega)]; omega, hlt, rfl, hD.round, r5, g5⟩
  · have := dF hge
    obtain rfl : t = p.qs.length := by omega
    have hll := hD.len
    have hval : ∀ y, y < p.qs.length → gI l y = lenB (best (wants p.qs U y)) := fun y hy => hD.done hy
    have c0 := r4.cellAdd (intsV_get (xs := l) (j := 0) (by omega))
    rw [show ((0 : Nat) : Int).toNat * 1 = 0 from rfl, add_zero, hval 0 (by omega)] at c0
    have G4 : Grow w w4 := G3.trans g4 fun b hb e => by omega
    have r4lt := r4.lt
    have hsw : shortW p 0 U = best (wants p.qs U 0) := rfl
    refine ⟨_, rfl, ⟨by omega, by omega⟩, _, c0, fun h0 => ?_, fun h0 w5 e5 => ?_⟩
    · have h0 := dT h0
      have hn : shortW p 0 U = none := by
        rw [hsw]
        cases hb : best (wants p.qs U 0) with
        | none => rfl
        | some v =>
          rw [hb] at h0
          have hp := wants_pos (best_mem hb)
          have h0 : (v.length : Int) = 0 := h0
          omega
      exact ⟨x, 0, hE, ⟨none, 0, 0, by rw [hn]; rfl, .inl ⟨hn, rfl, rfl⟩⟩, G4⟩
    · have h0 := dF h0
      have g5 : Grow w4 w5 := only_alloc e5
      have r5n : Row w5 (hs w4) 3 (intsV []) := Row.new e5
      have own5 : Own w5 (hs w4) 3 1 (some ⟨hs w4, 0, none⟩) 0 0 (intsV []) := r5n.own (n := 0) (Nat.le_refl _) rfl (by simp [maxLen])
      obtain ⟨all, hall⟩ : ∃ v, best (wants p.qs U 0) = some v := by
        cases hb : best (wants p.qs U 0) with
        | none => rw [hb] at h0; exact absurd rfl h0
        | some v => exact ⟨v, rfl⟩
      have hshort : ∀ q v, best (wants p.qs U q) = some v → v.length ≤ 64 := fun q v hb => by
        have := paths_short _ _ _ (List.mem_filter.1 (best_mem hb)).1
        omega
      have hal := hshort 0 all hall
      have s5 := g5.size
      refine ⟨fun k o' n' c' x w' => ∃ out rest : List Int, k = rest.length ∧ n' = out.length ∧ all = out ++ rest ∧ ((x = -1 ∧ rest = []) ∨ ∃ q : Nat, x = (q : Int) ∧ q < p.qs.length ∧ best (wants p.qs U q) = some rest) ∧ Own w' (hs w4) 3 1 o' out.length c' (intsV out) ∧ Row w' (hs w2) 3 (intsV l) ∧ Only (fun b => hs w4 ≤ b) w4 w',
        ⟨_, [], all, rfl, rfl, rfl, .inr ⟨0, rfl, by omega, hall⟩, own5, r4.grow g5, Grow.only g5⟩, ?_⟩
      rintro n _ w6 o6 n6 c6 x6 ⟨out, rest, rfl, rfl, hsplit, hcur, own6, r6, g6⟩
      have G6 : Grow w w6 := G4.trans g6 fun b hb hh => by have := G4.size; omega
      have s6 := g6.size
      have hol : out.length ≤ 64 := by rw [hsplit] at hal; simp at hal; omega
      refine ⟨fun hx => ?_, fun hx => ?_⟩
      · have hx := nT hx
        rcases hcur with ⟨h1, -⟩ | ⟨q, rfl, hq, hbest⟩
        · exact absurd h1 hx
        have hrest := hshort q rest hbest
        have hrpos := wants_pos (best_mem hbest)
        have hqs : p.qs[q]? = some p.qs[q] := List.getElem?_eq_getElem hq
        obtain ⟨a7, oi, ci, ha7, hc0, hc1, hr7⟩ := h.get hq
        have hans := V.ans _ (List.getElem_mem hq)
        have hok : ∀ a, a ∈ p.qs[q].ans → OkAns p.qs a := fun a ha => ok_ans hv (List.getElem_mem hq) ha
        have hpe := paths_eq hin hac hqs
        generalize p.qs[q] = s at *
        obtain ⟨C, hC⟩ : ∃ C : Nat → Option (List Int), C = fun u => best ((ansF (paths p.qs) (s.ans.take u) 0).filter fun w => decide (endW p.qs q w = U)) := ⟨_, rfl⟩
        obtain ⟨O, hO⟩ : ∃ O : Nat → Option (List Int), O = fun u => match s.ans[u]? with | some a => oneU p.qs U a u | none => none := ⟨_, rfl⟩
        have hOu : ∀ u (h : u < s.ans.length), O u = oneU p.qs U s.ans[u] u := fun u hu => by rw [hO]; simp only [List.getElem?_eq_getElem hu]
        have hC0 : C 0 = none := by rw [hC]; rfl
        have hCs : ∀ u, u < s.ans.length → C (u + 1) = better (C u) (O u) := fun u hu => by rw [hOu u hu, hC]; exact best_step hqs hu
        have hCn : C s.ans.length = some rest := by
          rw [hC]
          simp only [List.take_length, ← hpe]
          exact hbest
        have hmin : ∀ k', k' < s.ans.length → ∀ z, O k' = some z → rest.length ≤ z.length := fun k' hk' z hz => by
          obtain ⟨x, hx, hl⟩ := fold_le hCs s.ans.length (Nat.le_refl _) k' hk' z hz
          rw [hCn] at hx
          cases hx
          exact hl
        have cq := r6.cellAdd (intsV_get (xs := l) (j := q) (by omega))
        rw [hval q hq, hbest] at cq
        have cq : w6.cell? ((⟨hs w2, 0, none⟩ : Addr).add ((q : Int).toNat * 1)) = some (.int .i64 (rest.length : Int)) := cq
        refine ⟨_, rfl, ⟨by omega, by omega⟩, _, cq, fun k o' n' c' x y w' => ∃ u : Nat, o' = o6 ∧ n' = out.length ∧ c' = c6 ∧ x = (q : Int) ∧ y = (u : Int) ∧ u ≤ s.ans.length ∧ k = s.ans.length - u ∧ (∀ k', k' < u → ∀ z, O k' = some z → rest.length < z.length) ∧ Grow w6 w',
          ⟨_, 0, rfl, rfl, rfl, rfl, rfl, Nat.zero_le _, rfl, fun k' hk => by omega, Only.refl _ _⟩, ?_⟩
        rintro n' _ w7 o7 n7 c7 _ _ ⟨u, rfl, rfl, rfl, rfl, rfl, hu, rfl, hno, g7⟩
        have G7 : Grow w w7 := G6.trans' g7
        have rp7 : Row w7 (hs w) 24 [.string p.name, .int .i64 p.version, .slice o p.qs.length c] := r.grow (show Grow w1 w7 from (((g2.trans' g3).trans g4 fun b hb e => by omega).trans g6 fun b hb hh => by omega).trans' g7)
        have hc17 := cell_keep G7 (fun h => h) hc1
        refine ⟨_, _, _, rp7.cell rfl, a7, ha7, ⟨by omega, by omega⟩, _, _, _, hc17, fun hlt => ?_, fun hge => ?_⟩
        · have hlt : u < s.ans.length := by have := dT hlt; omega
          obtain ⟨a8, ha8, d0, d1, d2, d3⟩ := Recs.ans (hr7.grow G7) hlt
          have ham : s.ans[u] ∈ s.ans := List.getElem_mem hlt
          have hok' := hok _ ham
          have hlow := hok'.low
          have hOu := hOu u hlt
          have hit : ∀ z, O u = some z → z.length = rest.length → z = rest := fun z hz hl => by
            have := fold_hit hC0 hCs hlt hno hz hl hmin (s.ans.length - (u + 1)) (by omega)
            rw [show u + 1 + (s.ans.length - (u + 1)) = s.ans.length by omega, hCn] at this
            cases this
            rfl
          refine ⟨_, _, _, rp7.cell rfl, a7, ha7, ⟨by omega, by omega⟩, _, _, _, hc17, a8, ha8, ⟨by omega, by omega⟩, _, d0, _, d1, _, d2, _, d3, fun w8 e8 => ⟨(Row.new e8).there (by simp), fun w9 e9 => ?_⟩⟩
          obtain ⟨r9, g9⟩ := loc e8 e9 rfl
          have g69 := g7.trans' g9
          have own9 := own6.grow g69
          have r69 := r6.grow g69
          have s9 := g69.size
          -- this answer is none of the way
          have miss : (∀ z, O u = some z → rest.length ≠ z.length) → ∃ m, m < s.ans.length - u ∧ ∃ u' : Nat, o7 = o7 ∧ out.length = out.length ∧ c7 = c7 ∧ (q : Int) = (q : Int) ∧ IntKind.wrap .i64 ((u : Int) + 1) = (u' : Int) ∧ u' ≤ s.ans.length ∧ m = s.ans.length - u' ∧ (∀ k', k' < u' → ∀ z, O k' = some z → rest.length < z.length) ∧ Grow w6 w9 := fun hm =>
            ⟨_, by omega, u + 1, rfl, rfl, rfl, rfl, by rw [wr (by omega)]; omega, hlt, rfl, fun k' hk z hz => by
              by_cases e : k' = u
              · subst e
                have := hm z hz
                have := hmin k' hlt z hz
                omega
              · exact hno k' (by omega) z hz, g69⟩
          -- this answer is the next of the way
          have take : ∀ (rest' : List Int), rest = (u : Int) :: rest' → ((s.ans[u].next = -1 ∧ rest' = []) ∨ (0 ≤ s.ans[u].next ∧ best (wants p.qs U s.ans[u].next.toNat) = some rest')) → ∀ w10, w10 = w9.alloc (.cells #[.int .i64 (u : Int)] 3 (0, 0)) →
              RunOk Try.prog (Hold (Builtin.append_ #[48, 48] 48 #[.slice o7 out.length c7, .slice (some ⟨hs w9, 0, none⟩) 1 1])) w10 fun v w11 => ∃ o' n' c', v = .slice o' n' c' ∧ ∃ x, w11.cell? ⟨hs w7, 1, none⟩ = some (.int .i64 x) ∧ ∃ m, m < rest.length ∧ ∃ out' rest' : List Int, m = rest'.length ∧ n' = out'.length ∧ all = out' ++ rest' ∧ ((x = -1 ∧ rest' = []) ∨ ∃ q : Nat, x = (q : Int) ∧ q < p.qs.length ∧ best (wants p.qs U q) = some rest') ∧ Own w11 (hs w4) 3 1 o' out'.length c' (intsV out') ∧ Row w11 (hs w2) 3 (intsV l) ∧ Only (fun b => hs w4 ≤ b) w4 w11 := by
            intro rest' hre hnx w10 e10
            refine push_where own9 e10 (by omega) (by omega) fun o' c' w11 p1 p2 p3 => ⟨_, _, _, rfl, _, (r9.keep p2 (fun hb => ?_)).cell rfl, rest'.length, by rw [hre]; simp, out ++ [(u : Int)], rest', rfl, by simp, by rw [hsplit, hre]; simp, ?_, ?_, ?_, ?_⟩
            · obtain ⟨l1, hl1⟩ := own9.row hb
              exact Row.ne hl1 r9 (by decide) rfl
            · rcases hnx with ⟨h1, h2⟩ | ⟨h1, h2⟩
              · exact .inl ⟨h1, h2⟩
              · have hx := nx_of_ans hqs ham h1
                exact .inr ⟨s.ans[u].next.toNat, by omega, hin _ _ hx, h2⟩
            · have e : (out ++ [(u : Int)]).length = out.length + 1 := by simp
              rw [e]; exact p1
            · exact r69.keep p2 fun hb => by have := (own9.base _ hb).1; omega
            · exact ((g6.grow g69).trans' (p2.mono fun b _ hb => (own9.base b hb).1))
          -- an answer that leads on
          have on : 0 ≤ s.ans[u].next → ∀ y : Nat, s.ans[u].next = (y : Int) → y < p.qs.length ∧ (gI l y > 0 → gI l y = IntKind.wrap .i64 ((rest.length : Int) - 1) → ∃ v', rest = (u : Int) :: v' ∧ best (wants p.qs U s.ans[u].next.toNat) = some v') ∧ (¬ (gI l y > 0 ∧ gI l y = IntKind.wrap .i64 ((rest.length : Int) - 1)) → ∀ z, O u = some z → rest.length ≠ z.length) := fun hn y hyy => by
            have hx := nx_of_ans hqs ham hn
            have hyt : s.ans[u].next.toNat = y := by omega
            rw [hyt] at hx
            have hyn := hin _ _ hx
            have hOe : O u = (best (wants p.qs U y)).map ((u : Int) :: ·) := by rw [hOu]; unfold oneU; rw [if_neg (by omega), hyt]
            rw [wr (by omega)]
            refine ⟨hyn, fun hp he => ?_, fun hnot z hz hl => ?_⟩
            · rw [hval y hyn] at hp he
              cases hby : best (wants p.qs U y) with
              | none => rw [hby] at hp; exact absurd hp (by decide)
              | some v =>
                rw [hby] at he hOe
                have he : (v.length : Int) = (rest.length : Int) - 1 := he
                have := hit ((u : Int) :: v) hOe (by simp; omega)
                exact ⟨v, this.symm, by rw [hyt, hby]⟩
            · rw [hval y hyn] at hnot
              cases hby : best (wants p.qs U y) with
              | none => rw [hby] at hOe; rw [hOe] at hz; cases hz
              | some v =>
                rw [hby] at hOe hnot
                rw [hOe] at hz
                cases hz
                have hvp := wants_pos (best_mem hby)
                simp at hl
                exact hnot ⟨by show (v.length : Int) > 0; omega, by show (v.length : Int) = _; omega⟩
          have last : s.ans[u].next < 0 → O u = if s.ans[u].urg = U then some [(u : Int)] else none := fun hn => by rw [hOu]; unfold oneU; rw [if_pos hn]
          refine ⟨fun h1 => ⟨_, r9.cell rfl, fun hn => ⟨_, r9.cell rfl, fun hU w10 e10 => ?_, fun hU => ⟨_, r9.cell rfl, fun hn' => absurd (dT hn) (nT hn'), fun _ => miss fun z hz => ?_⟩⟩, fun hn => ⟨_, r9.cell rfl, fun hn' => ?_, fun hn' => absurd (nF hn') (dF hn)⟩⟩, fun h1 => ⟨_, r9.cell rfl, fun hn' => ?_, fun hn' => miss fun z hz => ?_⟩⟩
          · have h1 := dT h1
            have hn := dT hn
            have hOe := last (by omega)
            rw [if_pos (dT hU)] at hOe
            have := hit _ hOe (by simp; omega)
            exact take [] this.symm (.inl ⟨hn, rfl⟩) w10 e10
          · have hOe := last (by have := dT hn; omega)
            rw [if_neg (dF hU)] at hOe
            rw [hOe] at hz; cases hz
          · have hn' := nT hn'
            have h0 : 0 ≤ s.ans[u].next := by omega
            obtain ⟨y, hyy⟩ : ∃ y : Nat, s.ans[u].next = (y : Int) := ⟨s.ans[u].next.toNat, by omega⟩
            obtain ⟨hyn, hyes, hnope⟩ := on h0 y hyy
            have cy := r69.cellAdd (intsV_get (xs := l) (j := y) (by omega))
            refine ⟨_, r9.cell rfl, ?_⟩
            show ∃ a, _ ∧ (_ ∧ s.ans[u].next < _) ∧ _
            rw [hyy]
            refine ⟨_, rfl, ⟨by omega, by omega⟩, _, cy, fun hp => ⟨_, r9.cell rfl, ?_⟩, fun hp => miss (hnope fun hh => dF hp hh.1)⟩
            show ∃ a, _ ∧ (_ ∧ s.ans[u].next < _) ∧ _
            rw [hyy]
            refine ⟨_, rfl, ⟨by omega, by omega⟩, _, cy, fun he w10 e10 => ?_, fun he => miss (hnope fun hh => dF he hh.2)⟩
            obtain ⟨v', hre, hbv⟩ := hyes (dT hp) (dT he)
            exact take v' hre (.inr ⟨h0, hbv⟩) w10 e10
          · have hn' := nT hn'
            have h0 : 0 ≤ s.ans[u].next := by omega
            obtain ⟨y, hyy⟩ : ∃ y : Nat, s.ans[u].next = (y : Int) := ⟨s.ans[u].next.toNat, by omega⟩
            obtain ⟨hyn, hyes, hnope⟩ := on h0 y hyy
            have cy := r69.cellAdd (intsV_get (xs := l) (j := y) (by omega))
            refine ⟨_, r9.cell rfl, ?_⟩
            show ∃ a, _ ∧ (_ ∧ s.ans[u].next < _) ∧ _
            rw [hyy]
            refine ⟨_, rfl, ⟨by omega, by omega⟩, _, cy, fun hp => ⟨_, r9.cell rfl, ?_⟩, fun hp => miss (hnope fun hh => dF hp hh.1)⟩
            show ∃ a, _ ∧ (_ ∧ s.ans[u].next < _) ∧ _
            rw [hyy]
            refine ⟨_, rfl, ⟨by omega, by omega⟩, _, cy, fun he w10 e10 => ?_, fun he => miss (hnope fun hh => dF he hh.2)⟩
            obtain ⟨v', hre, hbv⟩ := hyes (dT hp) (dT he)
            exact take v' hre (.inr ⟨h0, hbv⟩) w10 e10
          · have hn' := nF hn'
            have hOe := last (by omega)
            split at hOe
            · rw [hOe] at hz; cases hz
              have := dF h1
              simp; omega
            · rw [hOe] at hz; cases hz
        · have := dF hge
          obtain rfl : u = s.ans.length := by omega
          have := fold_late hC0 hCs s.ans.length (Nat.le_refl _) hno rest hCn
          omega
      · have hx := nF hx
        rcases hcur with ⟨-, rfl⟩ | ⟨q, hq, -⟩
        · refine ⟨x, 0, hE, ⟨_, _, _, by rw [hsw, hall]; rfl, .inr ⟨out, by rw [hsw, hall, hsplit, List.append_nil], rfl, ?_⟩⟩, G6⟩
          exact own6.nums.mono fun b hb => by have := G4.size; omega
        · omega

theorem WayRet.nums {w : World} {B : Nat} {b : Option (List Int)} {e : Ending} (h : WayRet w B b e) : ∃ o l c, e = .returned (.tuple #[.slice o (List.length l) c, .bool b.isSome]) ∧ l = b.getD [] ∧ Nums w (fun b => B ≤ b) o l := by
  obtain ⟨o, n, c, he, ⟨hb, ho, hn⟩ | ⟨l, hb, hn, hN⟩⟩ := h
  · exact ⟨o, [], c, by rw [he, hn]; rfl, by rw [hb]; rfl, fun j v hj => by simp at hj⟩
  · exact ⟨o, l, c, by rw [he, hn], by rw [hb]; rfl, hN⟩
set_option maxHeartbeats 2000000 in
theorem law18_c (o : Option Addr) (c : Nat) (p : Prot) (U : Int) (hf : FitP p) (w : World) {A : Nat → Prop} (h : Qs w A o p.qs) :
    Calls Try.prog 18 #[.agg #[.string p.name, .int .i64 p.version, .slice o p.qs.length c], .int .i64 U] w fun e w' => e = .returned (.bool true) ∧ Grow w w' := by
  have hfl := hf.qs
  refine nf18 p.name p.version o p.qs.length c U w _ fun w1 e1 => (awake13_c w1).mono ?_
  have r := Row.new e1
  have g : Grow w w1 := only_alloc e1
  rintro _ w4 ⟨rfl, g4⟩
  have r4 := r.grow g4
  have h4 := (h.grow g).grow g4
  refine ⟨_, rfl, fun _ => ⟨_, r4.cell rfl, _, r4.cell rfl, _, _, _, r4.cell rfl, (few_c o c p hf w4 h4).mono ?_⟩, fun hb => (by cases hb)⟩
  rintro _ w13 ⟨b, rfl, hb, g13⟩
  have r13 := r4.grow g13
  have h13 := h4.grow g13
  have G13 := (g.trans' g4).trans' g13
  refine ⟨_, rfl, fun hbt => ⟨_, r13.cell rfl, _, r13.cell rfl, _, _, _, r13.cell rfl, (shortestPath_c o c p U hfl w13 h13).mono ?_⟩, fun _ => (awake13_c w13).mono ?_⟩
  · rintro _ w22 ⟨x, y, hE, hW, g22⟩
    obtain ⟨o1, l1, c1, rfl, hl1, hN1⟩ := hW.nums
    have r22 := r13.grow g22
    have h22 := h13.grow g22
    have G22 := G13.trans' g22
    obtain ⟨S, hS⟩ : ∃ S, shortW p y U = S := ⟨_, rfl⟩
    rw [hS] at hl1 ⊢
    have hlen : l1.length ≤ 64 := by
      rw [hl1]
      cases hS' : S with
      | none => simp
      | some v =>
        rw [hS'] at hS
        unfold shortW at hS
        split at hS
        · rename_i hy
          subst hy
          have := paths_short _ _ _ (List.mem_filter.1 (best_mem hS)).1
          have := (valid_of (ending_valid hE)).top
          simp only [Option.getD_some]
          omega
        · cases hS
    -- every way with this urgency is as long
    have hways : ∀ v, v ∈ (waysB p y).take 60 → y = 0 ∧ v ∈ paths p.qs 0 := fun v hv => by
      have hv := List.mem_of_mem_take hv
      unfold waysB at hv
      split at hv
      · rename_i hy; exact ⟨hy, hv⟩
      · simp at hv
    have hmin : ∀ v, v ∈ (waysB p y).take 60 → endW p.qs 0 v = U → S.isSome = true ∧ l1.length ≤ v.length := fun v hv hU => by
      obtain ⟨hy, hv⟩ := hways v hv
      have hw : v ∈ wants p.qs U 0 := List.mem_filter.2 ⟨hv, decide_eq_true hU⟩
      unfold shortW at hS
      rw [if_pos hy] at hS
      cases hS' : S with
      | none =>
        rw [hS'] at hS
        rw [best_nil hS] at hw
        simp at hw
      | some z =>
        rw [hS'] at hS hl1
        refine ⟨rfl, ?_⟩
        rw [hl1]
        exact best_min hS v hw
    -- the way of the reference is the same
    have ref : ∀ {K : Ending → World → Prop} {a : Value}, a = .agg #[.string p.name, .int .i64 p.version, .slice o p.qs.length c] → (∀ o2 c2 w34, Grow w22 w34 → Nums w34 (fun _ => True) o2 l1 → K (.returned (.tuple #[.slice o2 l1.length c2, .bool S.isSome])) w34) → Calls Try.prog 66 #[a, .int .i64 U] w22 K := by
      rintro K _ rfl hK
      refine (shortestRef_c o c p U hf w22 h22).mono ?_
      rintro _ w34 ⟨x', y', hE', hW', g34⟩
      obtain ⟨rfl, rfl⟩ := ending_one hE hE'
      obtain ⟨o2, l2, c2, rfl, hl2, hN2⟩ := hW'.nums
      rw [hS, ← hl1] at hl2
      subst hl2
      rw [hS]
      exact hK o2 c2 w34 g34 (hN2.mono fun _ _ => trivial)
    -- and what comes behind
    have same : ∀ {K : Ending → World → Prop} (o2 : Option Addr) (c2 : Nat) (w34 : World), Grow w22 w34 → Nums w34 (fun _ => True) o2 l1 → (∀ w43, Grow w22 w43 → K (.returned (.bool true)) w43) → Calls Try.prog 62 #[.slice o1 l1.length c1, .slice o2 l1.length c2] w34 K := by
      intro K o2 c2 w34 g34 hN2 hK
      refine (sameW_c o1 o2 c1 c2 l1 l1 (by omega) w34 (hN1.grow g34) hN2).mono ?_
      rintro _ w43 ⟨rfl, g43⟩
      rw [decide_eq_true rfl]
      exact hK w43 (g34.trans' g43)
    have loop : ∀ w43, Grow w22 w43 → ∀ {K : Ending → World → Prop} {a : Value}, a = .agg #[.string p.name, .int .i64 p.version, .slice o p.qs.length c] → (∀ o53 c53 w52, Grow w22 w52 → Mat w52 (fun _ => True) o53 ((waysB p y).take 60) → K (.returned (.slice o53 ((waysB p y).take 60).length c53)) w52) → Calls Try.prog 60 #[a, .int .i64 60] w43 K := by
      rintro w43 g43 K _ rfl hK
      refine (taken_c o c p 60 (by omega) (by omega) hfl w43 (h22.grow g43)).mono ?_
      rintro _ w52 ⟨x', y', o', c', hE', rfl, hM, g52⟩
      obtain ⟨rfl, rfl⟩ := ending_one hE hE'
      refine hK o' c' w52 (g43.trans' g52) fun i r hi => ?_
      obtain ⟨a, oi, ci, h1, -, h3, h4⟩ := hM i r hi
      exact ⟨a, oi, ci, h1, trivial, h3, h4.mono fun _ _ => trivial⟩
    have e0 := List.length_take_le 60 (waysB p y)
    have item : ∀ (j : Nat) (o53 : Option Addr) (w60 : World) (h : j < ((waysB p y).take 60).length), Grow w22 w60 → Mat w60 (fun _ => True) o53 ((waysB p y).take 60) → ∃ a oi ci, o53 = some a ∧ w60.cell? (a.add ((j : Int).toNat * 1)) = some (.slice oi ((waysB p y).take 60)[j].length ci) ∧
        ∀ {K : Ending → World → Prop} {a : Value}, a = .agg #[.string p.name, .int .i64 p.version, .slice o p.qs.length c] → (∀ w74, Grow w60 w74 → K (.returned (.int .i64 (endW p.qs 0 ((waysB p y).take 60)[j]))) w74) → Calls Try.prog 67 #[a, .slice oi ((waysB p y).take 60)[j].length ci] w60 K := by
      intro j o53 w60 hj g60 hM
      obtain ⟨a, oi, ci, h1, h2, h3⟩ := hM.get hj
      refine ⟨a, oi, ci, h1, h2, ?_⟩
      rintro K _ rfl hK
      obtain ⟨hy, hv'⟩ := hways _ (List.getElem_mem hj)
      subst hy
      have hvl := (valid_of (ending_valid hE)).top
      have hsp := way_spec _ _ _ hv'
      have hsh := paths_short _ _ _ hv'
      refine (endRef_c o oi c ci p _ (ending_valid hE) (by omega) hsp.1 w60 (h22.grow g60) h3).mono ?_
      rintro _ w74 ⟨rfl, g74⟩
      exact hK w74 g74
    refine ⟨_, _, _, _, rfl, fun hS1 => ⟨_, r22.cell rfl, _, r22.cell rfl, _, _, _, r22.cell rfl, ref rfl fun o2 c2 w34 g34 hN2 => ⟨_, _, _, _, rfl, fun _ => ⟨fun h => (by cases h), fun _ => same o2 c2 w34 g34 hN2 fun w43 g43 => ⟨_, rfl, fun _ => ?_, fun h => (by cases h)⟩⟩, fun h => (by rw [hS1] at h; cases h)⟩⟩,
      fun hS1 => ⟨_, r22.cell rfl, _, r22.cell rfl, _, _, _, r22.cell rfl, ref rfl fun o2 c2 w34 g34 hN2 => ⟨_, _, _, _, rfl, fun h => (by rw [hS1] at h; cases h), fun _ => ⟨fun h => (by cases h), fun _ => same o2 c2 w34 g34 hN2 fun w43 g43 => ⟨_, rfl, fun _ => ?_, fun h => (by cases h)⟩⟩⟩⟩⟩
    · have r43 := r22.grow g43
      refine ⟨_, r43.cell rfl, _, r43.cell rfl, _, _, _, r43.cell rfl, loop w43 g43 rfl fun o53 c53 w52 g52 hM => ⟨_, _, _, rfl, fun k x w' => ∃ j : Nat, x = (j : Int) ∧ j ≤ ((waysB p y).take 60).length ∧ k = ((waysB p y).take 60).length - j ∧ Grow w52 w', ⟨_, 0, rfl, Nat.zero_le _, rfl, Only.refl _ _⟩, ?_⟩⟩
      rintro k _ w60 x ⟨j, rfl, hj, rfl, g60⟩
      refine ⟨fun hlt => ?_, fun _ => ⟨rfl, (G22.trans' g52).trans' g60⟩⟩
      have hlt : j < ((waysB p y).take 60).length := by have := dT hlt; omega
      have r60 := r22.grow (g52.trans' g60)
      obtain ⟨a, oi, ci, ha, hc, hend⟩ := item j o53 w60 hlt (g52.trans' g60) (hM.grow g60)
      have go : ∀ w74, Grow w60 w74 → ∃ n, n < ((waysB p y).take 60).length - j ∧ ∃ j' : Nat, IntKind.wrap .i64 ((j : Int) + 1) = (j' : Int) ∧ j' ≤ ((waysB p y).take 60).length ∧ n = ((waysB p y).take 60).length - j' ∧ Grow w52 w74 := fun w74 g74 => ⟨_, by omega, j + 1, by rw [wr (by omega)]; omega, hlt, rfl, g60.trans' g74⟩
      refine ⟨a, ha, ⟨by omega, by omega⟩, _, _, _, hc, _, r60.cell rfl, _, r60.cell rfl, _, _, _, r60.cell rfl, hend rfl fun w74 g74 => ⟨_, rfl, fun hU => ⟨fun hlt' => ?_, fun _ => go w74 g74⟩, fun _ => go w74 g74⟩⟩
      have := (hmin _ (List.getElem_mem hlt) (dT hU)).2
      have := dT hlt'
      omega
    · have r43 := r22.grow g43
      refine ⟨_, r43.cell rfl, _, r43.cell rfl, _, _, _, r43.cell rfl, loop w43 g43 rfl fun o53 c53 w52 g52 hM => ⟨_, _, _, rfl, fun k x w' => ∃ j : Nat, x = (j : Int) ∧ j ≤ ((waysB p y).take 60).length ∧ k = ((waysB p y).take 60).length - j ∧ Grow w52 w', ⟨_, 0, rfl, Nat.zero_le _, rfl, Only.refl _ _⟩, ?_⟩⟩
      rintro k _ w60 x ⟨j, rfl, hj, rfl, g60⟩
      refine ⟨fun hlt => ?_, fun _ => ⟨rfl, (G22.trans' g52).trans' g60⟩⟩
      have hlt : j < ((waysB p y).take 60).length := by have := dT hlt; omega
      have r60 := r22.grow (g52.trans' g60)
      obtain ⟨a, oi, ci, ha, hc, hend⟩ := item j o53 w60 hlt (g52.trans' g60) (hM.grow g60)
      refine ⟨a, ha, ⟨by omega, by omega⟩, _, _, _, hc, _, r60.cell rfl, _, r60.cell rfl, _, _, _, r60.cell rfl, hend rfl fun w74 g74 => ⟨_, rfl, fun hU => ?_, fun _ => ⟨_, by omega, j + 1, by rw [wr (by omega)]; omega, hlt, rfl, g60.trans' g74⟩⟩⟩
      have := (hmin _ (List.getElem_mem hlt) (dT hU)).1
      rw [hS1] at this
      cases this
  · rintro _ w40 ⟨rfl, g40⟩
    exact ⟨_, rfl, fun _ => ⟨rfl, G13.trans' g40⟩, fun h => (by cases h)⟩
end Go.Proofs.Ytbaacpfjecbbgaa
