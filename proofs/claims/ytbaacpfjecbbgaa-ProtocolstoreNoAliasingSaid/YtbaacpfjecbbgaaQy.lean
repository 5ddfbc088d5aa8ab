/- Law: what was handed in to Put, or returned by Get, is no part of the store. -/
import Derived.Test.YtbaacpfjecbbgaaQx
namespace Go.Proofs.Ytbaacpfjecbbgaa
open Go Go.Nf

theorem qs_cells {w : World} {A : Nat → Prop} {o : Option Addr} {qs : List Qst} (h : Qs w A o qs) : ∃ cs : List (ByteArray × Option Addr × Nat × Nat), cs.length = qs.length ∧
    ∀ (i : Nat) q, qs[i]? = some q → ∃ a oi ci, o = some a ∧ cs[i]? = some (q.text, oi, q.ans.length, ci) ∧ w.cell? (a.add (i * 2)) = some (.string q.text) ∧ w.cell? (a.add (i * 2 + 1)) = some (.slice oi q.ans.length ci) ∧ Recs w A oi 4 (q.ans.map encA) := by
  have hex : ∀ i : Nat, ∃ t : ByteArray × Option Addr × Nat × Nat, ∀ q, qs[i]? = some q → ∃ a oi ci, o = some a ∧ t = (q.text, oi, q.ans.length, ci) ∧ w.cell? (a.add (i * 2)) = some (.string q.text) ∧ w.cell? (a.add (i * 2 + 1)) = some (.slice oi q.ans.length ci) ∧ Recs w A oi 4 (q.ans.map encA) := fun i => by
    cases hq : qs[i]? with
    | none => exact ⟨(ByteArray.mk #[], none, 0, 0), fun q hq' => by cases hq'⟩
    | some q =>
      obtain ⟨a, oi, ci, ha, -, h1, h2, h3⟩ := h i q hq
      rw [toNat_cast] at h1 h2
      rw [add_add] at h2
      exact ⟨_, fun q' hq' => by cases hq'; exact ⟨a, oi, ci, ha, rfl, h1, h2, h3⟩⟩
  obtain ⟨f, hf⟩ := Classical.axiomOfChoice hex
  refine ⟨(List.range qs.length).map f, by simp, fun i q hq => ?_⟩
  have hil : i < qs.length := by
    rcases Nat.lt_or_ge i qs.length with h | h
    · exact h
    · rw [List.getElem?_eq_none h] at hq; cases hq
  obtain ⟨a, oi, ci, ha, ht, h1, h2, h3⟩ := hf i q hq
  exact ⟨a, oi, ci, ha, by rw [List.getElem?_map, List.getElem?_range hil, Option.map_some, ht], h1, h2, h3⟩
/-- all questions, appended to nothing -/
theorem append_qs {w0 w w1 : World} {A : Nat → Prop} {o : Option Addr} {c : Nat} {qs : List Qst} {K : Value → World → Prop} (h : Qs w0 A o qs) (g0 : Grow w0 w) (e : w1 = w.alloc (.cells #[] 38 (0, 0))) (hpos : 1 ≤ qs.length) (hl : qs.length ≤ 100000)
    (hK : ∀ (o' : Option Addr) (c' : Nat) (w' : World) (cs : List (ByteArray × Option Addr × Nat × Nat)), Own w' (hs w) 38 2 o' qs.length c' (cs.flatMap encQ) → cs.length = qs.length → (∀ (i : Nat) q, qs[i]? = some q → ∃ oi ci, cs[i]? = some (q.text, oi, q.ans.length, ci) ∧ Recs w0 A oi 4 (q.ans.map encA)) → Grow w w' → K (.slice o' qs.length c') w') :
    RunOk Try.prog (Hold (Builtin.append_ #[22, 22] 22 #[.slice (some ⟨hs w, 0, none⟩) 0 0, .slice o qs.length c])) w1 K := by
  have r : Row w1 (hs w) 38 [] := Row.new e
  have g : Grow w w1 := only_alloc e
  have own : Own w1 (hs w) 38 2 (some ⟨hs w, 0, none⟩) 0 0 [] := r.own (n := 0) (Nat.le_refl _) rfl (by simp [maxLen])
  obtain ⟨cs, hcl, hcs⟩ := qs_cells h
  obtain ⟨a, oi0, ci0, rfl, -⟩ := hcs 0 _ (List.getElem?_eq_getElem (by omega))
  have hfl : (cs.flatMap encQ).length = qs.length * 2 := by rw [flat_length encQ_len, hcl]
  have := run_append (w := w1) (K := K) (ty := 22) (a := a) (m := qs.length) (cx := c) (news := cs.flatMap encQ) elem22 own hfl (fun j u hu => ?_) (fun u hu => ?_) (by simp [maxLen]; omega) (by omega) g.size fun o' c' w' p1 p2 _ => ?_
  · exact this
  · have hjl : j < (cs.flatMap encQ).length := by
      rcases Nat.lt_or_ge j (cs.flatMap encQ).length with h | h
      · exact h
      · rw [List.getElem?_eq_none h] at hu; cases hu
    have hi : j / 2 < qs.length := by omega
    obtain ⟨a', oi, ci, ha, hc, h1, h2, -⟩ := hcs (j / 2) _ (List.getElem?_eq_getElem hi)
    cases ha
    have ej : j = j / 2 * 2 + j % 2 := by omega
    have hm : j % 2 < 2 := Nat.mod_lt _ (by omega)
    rw [ej, flat_get encQ_len _ _ _ hm, hc] at hu
    rw [ej]
    generalize j / 2 = i at *
    rcases (show j % 2 = 0 ∨ j % 2 = 1 by omega) with e0 | e0
    · rw [e0] at hu ⊢
      cases hu
      exact cell_keep (g0.trans' g) (fun h => h) h1
    · rw [e0] at hu ⊢
      cases hu
      exact cell_keep (g0.trans' g) (fun h => h) h2
  · obtain ⟨t, -, ht⟩ := List.mem_flatMap.1 hu
    simp only [encQ, List.mem_cons, List.not_mem_nil, or_false] at ht
    rcases ht with rfl | rfl <;> rfl
  · rw [Nat.zero_add, List.nil_append] at p1
    rw [Nat.zero_add]
    refine hK o' c' w' cs p1 hcl (fun i q hq => ?_) (g.trans p2 fun b hb hh => ?_)
    · obtain ⟨a', oi, ci, -, hc, -, -, h3⟩ := hcs i q hq
      exact ⟨oi, ci, hc, h3⟩
    · obtain ⟨a', ha, rfl⟩ := hh
      cases ha
      exact absurd hb (by simp)
theorem kept_addr {S : Nat → Prop} {w w' : World} {a : Addr} {n : Nat} (h : Only S w w') (hb : a.block < hs w) (hn : ¬ S a.block) : Kept w w' a n := fun i _ => by
  have hb' : (a.add i).block = a.block := block_add1 a i
  unfold World.cell?
  rw [hb', h.block _ hb hn]
theorem ans_pos {p : Prot} (h : validB p = true) {q : Qst} (hq : q ∈ p.qs) : 1 ≤ q.ans.length := by
  unfold validB at h
  simp only [Bool.and_eq_true, decide_eq_true_eq] at h
  have := List.all_eq_true.1 h.1.1.1.1.1 q hq
  unfold qstB at this
  simp only [Bool.and_eq_true, decide_eq_true_eq] at this
  exact this.1.1.2
def spoilt : ByteArray := ByteArray.mk #[115, 112, 111, 105, 108, 116]
theorem there0 {w : World} {B T k g n c m : Nat} {xs : List Value} (h : Own w B T k (some ⟨g, 0, none⟩) n c xs) (hm : m ≤ n * k) : There w ⟨g, 0, none⟩ m := by
  have := h.there (j := 0) (m := m) (by omega)
  rwa [add_zero] at this
set_option maxHeartbeats 4000000 in
theorem law10_c (o : Option Addr) (c : Nat) (p : Prot) (hf : FitP p) (hsz : ∀ q, q ∈ p.qs → q.ans.length * 48 ≤ 140737488355328) (w : World) {A : Nat → Prop} (h : Qs w A o p.qs) :
    Calls Try.prog 10 #[aggP p o c] w (Tru w) := by
  have h := Qs.low h
  refine nf10n p.name p.version o p.qs.length c w _ fun w1 e1 => (wakes_c w1).mono ?_
  have r1 := Row.new e1
  have g1 : Grow w w1 := only_alloc e1
  have z1 := hs_alloc e1
  rintro _ w4 ⟨rfl, g4⟩
  refine ⟨_, rfl, fun _ => (newB_c w4).mono ?_, fun h => (by cases h)⟩
  rintro _ w8 ⟨t, m, rfl, s8, g8⟩
  have G8 := (g1.trans' g4).trans' g8
  have r8 := (r1.grow g4).grow g8
  refine ⟨_, rfl, _, r8.cell rfl, _, r8.cell rfl, _, _, _, r8.cell rfl, (small15_c o c p hf w8 (h.grow G8)).mono ?_⟩
  rintro _ w16 ⟨b, rfl, hb, g16⟩
  have G16 := G8.trans' g16
  have r16 := r8.grow g16
  refine ⟨_, rfl, fun hb' => ⟨_, _, _, r16.cell rfl, fun _ => ⟨rfl, G16⟩, fun hn => ⟨_, r16.cell rfl, _, r16.cell rfl, _, _, _, r16.cell rfl, fun w29 e29 => ⟨(Row.new e29).there (by simp), fun w31 e31 w33 e33 => ?_⟩⟩⟩, fun _ => ⟨rfl, G16⟩⟩
  have hn := dF hn
  have hpos : 1 ≤ p.qs.length := by omega
  have hlen := hb hb'
  obtain ⟨r31, g31⟩ := loc e29 e31 rfl
  have g33 : Grow w31 w33 := only_alloc e33
  have G31 := G16.trans' g31
  have z4 := g4.size
  have z8 := g8.size
  have z16 := g16.size
  have z29 := hs_alloc e29
  have z31 := g31.size
  have l31 := r31.lt
  refine ⟨_, _, _, (r16.grow (g31.trans' g33)).cell rfl, append_qs h G31 e33 hpos (by omega) fun o40 c42 w39 cs own39 hcl hcs g39 => ?_⟩
  have r39 := r31.grow g39
  refine ⟨_, _, _, rfl, r39.there (by simp), fun w43 e43 w45 e45 => ?_⟩
  have r43 := r39.set e43
  have g43 : Only (fun b => b = hs w16) w39 w43 := only_set e43
  have g45 : Grow w43 w45 := only_drew e45
  have r45 : Row w45 (hs w16) 24 [.string p.name, .int .i64 p.version, .slice o40 p.qs.length c42] := r43.grow g45
  have own45 := (own39.keep g43 fun b hb e => by have := (own39.base b hb).1; omega).grow g45
  have G45 : Grow w16 w45 := ((g31.trans' g39).trans g43 fun b hb e => by omega).trans' g45
  have rt45 := r16.grow G45
  have h45 := h.grow (G16.trans' G45)
  obtain ⟨a4, oi4, ci4, ha4, c40, hd1, hr4⟩ := h45.get (i := 0) (by omega)
  have hq0 : p.qs[0]? = some p.qs[0] := List.getElem?_eq_getElem (by omega)
  have hmem0 : p.qs[0] ∈ p.qs := List.getElem_mem _
  generalize p.qs[0] = s at *
  rw [show (((0 : Nat) : Int).toNat * 2) = 0 from rfl, add_zero] at c40 hd1
  have hans := hsz s hmem0
  refine ⟨_, _, _, r45.cell rfl, _, _, _, rt45.cell rfl, a4, ha4, ⟨by omega, by omega⟩, _, _, _, hd1, fun w57 e57 => ?_⟩
  have g57 : Grow w45 w57 := only_alloc e57
  have rn57 : Row w57 (hs w45) 58 [] := Row.new e57
  have own57 : Own w57 (hs w45) 58 4 (some ⟨hs w45, 0, none⟩) 0 0 (([] : List Ans).flatMap encA) := rn57.own (n := 0) (Nat.le_refl _) rfl (by simp [maxLen])
  have hlt4 : a4.block < hs w45 := by have := cell_block hd1; rwa [block_add1] at this
  refine ⟨kept_addr g57 (by rw [block_add1]; exact hlt4) (fun h => h), kept_only g57 rt45.lt (fun h => h), kept_only g57 r45.lt (fun h => h),
    append_recs encA_len elem36 (by omega) own57 (hr4.grow g57) encA_one (by simp [maxLen]; omega) (by omega) g57.size fun o61 c63 w60 p1 p2 => ⟨_, _, _, rfl, ?_⟩⟩
  have g60 : Grow w45 w60 := g57.trans p2 fun b hb hh => by
    obtain ⟨a', ha, rfl⟩ := hh
    cases ha
    exact absurd hb (by simp)
  rw [List.nil_append] at p1
  rw [Nat.zero_add] at p1 ⊢
  have own60 := own45.grow g60
  obtain ⟨g, lq, rfl, -, -, -, hBq⟩ := own60.head (by omega)
  have r60 := r45.grow g60
  refine ⟨kept_only g60 r45.lt (fun h => h), _, rfl, ⟨by omega, by omega⟩, own60.there (by omega), fun w65 e65 => ?_⟩
  have hqc : 0 < cs.length := by omega
  obtain ⟨oiq, ciq, hcq, -⟩ := hcs 0 s hq0
  have own65 := own60.set e65 (by simp; omega)
  have hfs := flat_set encQ_len cs 0 1 [.slice o61 s.ans.length c63] (s.text, o61, s.ans.length, c63) hqc (by simp) (by
    rw [show cs[0] = (s.text, oiq, s.ans.length, ciq) from Option.some.inj ((List.getElem?_eq_getElem hqc).symm.trans hcq)]
    rfl)
  rw [show 0 * 2 + 1 = 1 from rfl] at hfs
  rw [hfs] at own65
  have g65 : Only (fun b => b = g) w60 w65 := only_setAdd e65
  have z39 := g39.size
  have z45 := G45.size
  have z60 := g60.size
  have z65 := g65.size
  have bq := own45.base g ⟨_, rfl, rfl⟩
  have ansNe : ∀ {o' n c' wX} {xs : List Value}, Own wX (hs w45) 58 4 o' n c' xs → ∀ b, inBlock o' b → ¬ b = g := fun hx b hb e => by have := (hx.base b hb).1; omega
  have a65 := p1.keep g65 (ansNe p1)
  have r65 := r60.keep g65 (by omega)
  have G65 : Grow w16 w65 := (G45.trans' g60).trans g65 fun b hb e => by omega
  have GG65 := G16.trans' G65
  have h65 := h.grow GG65
  have rt65 := r16.grow G65
  have s65 := (s8.grow g16).grow G65
  have hQ : Qs w65 (fun b => ¬ (b = t ∨ b = m)) (some ⟨g, 0, none⟩) p.qs := fun i x hi => by
    have hil : i < p.qs.length := by
      rcases Nat.lt_or_ge i p.qs.length with h | h
      · exact h
      · rw [List.getElem?_eq_none h] at hi; cases hi
    have hm8 := s8.ms
    by_cases e : i = 0
    · subst e
      rw [hq0] at hi
      cases hi
      refine ⟨_, o61, c63, rfl, fun hm => by have := (hm8 _ hm).2; simp only at this; omega, own65.cell ?_, own65.cell2 ?_, (own_recs (n := s.ans.length) (c := c63) a65).mono fun b hb hm => by have := (hm8 _ hm).2; omega⟩
      · rw [toNat_cast, flat_get0 encQ_len _ _ (by omega), List.getElem?_set_self hqc]; rfl
      · rw [toNat_cast, flat_get encQ_len _ _ _ (by omega), List.getElem?_set_self hqc]; rfl
    · obtain ⟨oi', ci', hc', hrc⟩ := hcs i x hi
      refine ⟨_, oi', ci', rfl, fun hm => by have := (hm8 _ hm).2; simp only at this; omega, own65.cell ?_, own65.cell2 ?_, (hrc.grow GG65).mono fun b hb hm => by have := (hm8 _ hm).1; omega⟩
      · rw [toNat_cast, flat_get0 encQ_len _ _ (by omega), List.getElem?_set_ne (fun h => e h.symm), hc']; rfl
      · rw [toNat_cast, flat_get encQ_len _ _ _ (by omega), List.getElem?_set_ne (fun h => e h.symm), hc']; rfl
  refine ⟨_, r65.cell rfl, _, r65.cell rfl, _, _, _, r65.cell rfl, (put_c (p := p) hf.qs hQ (fun b hb => hb) .nil (Nat.zero_le _) s65).mono ?_⟩
  rintro _ w73 ⟨x, q, gt, r, S1, M1, D1, hE, hg, hr, rfl, h1, -, s73, o73, hM1, hD1⟩
  obtain rfl := isGet_one (l := []) (Sorted.uniq .nil) hg (get0 _ _)
  have hr0 : r = none := isNew_one (l := []) (Sorted.uniq .nil) hr (.inl ⟨rfl, fun u hu => by cases hu⟩)
  subst hr0
  have e26 : putE q none none ([] : List Prot).length p.version = q := putE_nil q p.version
  rw [e26] at h1 ⊢
  have hmt : ∀ b, (b = t ∨ b = m) → hs w ≤ b ∧ b < hs w8 := fun b hb => ⟨by have := (s8.ms b hb).1; omega, (s8.ms b hb).2⟩
  have O73 : Only (fun b => hs w ≤ b) w w73 := (Grow.only GG65).trans' (o73.mono fun b _ hb => (hmt b hb).1)
  refine ⟨_, rfl, fun _ => ⟨rfl, O73.toGrow fun b hb => hb⟩, fun hq => ?_⟩
  obtain rfl : q = 0 := nF hq
  obtain ⟨X, Y, hc, -, rfl⟩ := h1 rfl
  obtain ⟨rfl, rfl⟩ := cut_nil hc
  have hapos := ans_pos hE.valid0 hmem0
  have hso : Sorted [p] := List.pairwise_singleton _ _
  have hok : Ok [p] := fun u hu => by rw [List.mem_singleton] at hu; rw [hu]; exact ⟨x, hE⟩
  have hget : ∀ r, IsGet [p] p.name p.version r → r = some p := fun r hr => isGet_one hso.uniq hr (.inr ⟨p, rfl, .head _, rfl, rfl⟩)
  have hnew : ∀ r, IsNew [p] p.name r → r = some p := fun r hr => isNew_one hso.uniq hr (.inr ⟨p, rfl, .head _, rfl, fun u hu _ => by rw [List.mem_singleton] at hu; rw [hu]; exact Int.le_refl _⟩)
  have own73 := own65.keep o73 fun b hb hm => by have := (own65.base b hb).1; have := (hmt b hm).2; omega
  have a73 := a65.keep o73 fun b hb hm => by have := (a65.base b hb).1; have := (hmt b hm).2; omega
  have r73 := r65.keep o73 fun hm => by have := (hmt _ hm).2; omega
  refine ⟨_, _, _, r73.cell rfl, _, rfl, ⟨by omega, by omega⟩, there0 (m := 1) own73 (by omega), fun w81 e81 => ?_⟩
  have e81' : w81 = setCells w73 ((⟨g, 0, none⟩ : Addr).add 0) [.string spoilt] 0 := by rw [add_zero]; exact e81
  have own81 := own73.set e81' (by show 0 + 1 ≤ _; omega)
  have g81 : Only (fun b => b = g) w73 w81 := only_set e81
  have hcell81 : ∃ k, (setFrom ((cs.set 0 (s.text, o61, s.ans.length, c63)).flatMap encQ) 0 [.string spoilt])[1]? = some k ∧ k = .slice o61 s.ans.length c63 := by
    have := flat_set encQ_len (cs.set 0 (s.text, o61, s.ans.length, c63)) 0 0 [.string spoilt] (spoilt, o61, s.ans.length, c63) (by rw [List.length_set]; exact hqc) (by simp) (by rw [List.getElem_set_self]; rfl)
    rw [show 0 * 2 + 0 = 0 from rfl] at this
    refine ⟨_, ?_, rfl⟩
    rw [this, List.set_set]
    have := flat_get encQ_len (cs.set 0 (spoilt, o61, s.ans.length, c63)) 0 1 (by omega)
    rw [show 0 * 2 + 1 = 1 from rfl, List.getElem?_set_self hqc] at this
    exact this
  obtain ⟨_, hcell81, rfl⟩ := hcell81
  have r81 := r73.keep g81 (by omega)
  have a81 := a73.keep g81 (ansNe a73)
  obtain ⟨ga, la, rfl, -, -, -, hBa⟩ := a81.head (by omega)
  refine ⟨_, _, _, r81.cell rfl, _, rfl, ⟨by omega, by omega⟩, _, _, _, own81.cell hcell81, _, rfl, ⟨by omega, by omega⟩, there0 (m := 1) a81 (by omega), fun w91 e91 => ?_⟩
  have g91 : Only (fun b => b = ga) w81 w91 := only_set e91
  have ba := a65.base ga ⟨_, rfl, rfl⟩
  have z73 := o73.size
  have z81 := g81.size
  have z91 := g91.size
  have mNe : ∀ b, M1 b → ¬ b = g ∧ ¬ b = ga := fun b hb => by
    rcases hM1 b hb with k | k
    · have := (hmt b k).2
      exact ⟨by omega, by omega⟩
    · exact ⟨by omega, by omega⟩
  have dNe : ∀ b, D1 b → ¬ b = g ∧ ¬ b = ga := fun b hb => by
    rcases hD1 b hb with k | k
    · exact k.elim
    · exact ⟨by omega, by omega⟩
  have s91 := (s73.keep g81 (fun b hb => (mNe b hb).1) fun b hb => (dNe b hb).1).keep g91 (fun b hb => (mNe b hb).2) fun b hb => (dNe b hb).2
  have o81 : Only (fun b => hs w ≤ b) w73 w81 := g81.mono fun b _ e => by show hs w ≤ b; omega
  have o91 : Only (fun b => hs w ≤ b) w81 w91 := g91.mono fun b _ e => by show hs w ≤ b; omega
  have O91 := (O73.trans' o81).trans' o91
  have low : ∀ b, b < hs w → ¬ hs w ≤ b := fun b hb e => by omega
  have rt91 := ((rt65.keep o73 fun hm => by have := (s8.ms _ hm).1; omega).keep g81 (by omega)).keep g91 (by omega)
  have h91 := h.keep O91 low
  obtain ⟨so, sc, rs, hp⟩ := s91.read
  refine ⟨_, rt91.cell rfl, _, rt91.cell rfl, (getP_o p.name p.version hso (by show 1 ≤ 1000; decide) hok.fine rs hp).mono ?_⟩
  rintro _ w96 ⟨r, hr, ⟨o99, c99, rfl, hP⟩, g96⟩
  obtain rfl := hget r hr
  have P96 := hP p rfl
  refine ⟨_, _, _, _, _, _, rfl, fun w103 e103 => ⟨(Row.new e103).there (by simp), fun w105 e105 => ?_⟩⟩
  obtain ⟨r105, g105⟩ := loc e103 e105 rfl
  have rt105 := rt91.grow (g96.trans' g105)
  refine ⟨_, r105.cell rfl, _, r105.cell rfl, _, _, _, r105.cell rfl, _, rt105.cell rfl, _, rt105.cell rfl, _, _, _, rt105.cell rfl, (eqP_c o99 o c99 c p hf w105 (P96.done.grow g105) (h91.grow (g96.trans' g105))).mono ?_⟩
  rintro _ w118 ⟨rfl, g118⟩
  refine ⟨_, rfl, fun _ => ?_, fun h => (by cases h)⟩
  have r118 := r105.grow g118
  have G118 := (g96.trans' g105).trans' g118
  obtain ⟨ds, hdl, hdo, hda⟩ := P96
  obtain ⟨oi3, ci3, hd0, hao⟩ := hda 0 s (by omega) hq0
  obtain ⟨g3, l3, rfl, -⟩ := hdo.head (by omega)
  obtain ⟨g4', l4, rfl, -⟩ := hao.head (by omega)
  have b3 := hdo.base g3 ⟨_, rfl, rfl⟩
  have b4 := hao.base g4' ⟨_, rfl, rfl⟩
  have hne := hao.apart hdo (by decide)
  have hdo118 := (hdo.grow g105).grow g118
  have hao118 := (hao.grow g105).grow g118
  have hcell118 := hdo118.cell (j := 1) (v := .slice (some ⟨g4', 0, none⟩) s.ans.length ci3) (by
    have := flat_get encQ_len ds 0 1 (by omega)
    rw [show 0 * 2 + 1 = 1 from rfl, hd0] at this
    exact this)
  have z96 := g96.size
  have z105 := g105.size
  have l105 := r105.lt
  refine ⟨_, _, _, r118.cell rfl, _, rfl, ⟨by omega, by show (0 : Int) < ((p.qs.length : Nat) : Int); omega⟩, _, _, _, hcell118, _, rfl, ⟨by omega, by omega⟩, hao118.there (by omega), fun w129 e129 => ?_⟩
  have g129 : Only (fun b => b = g4') w118 w129 := only_setAdd e129
  have r129 := r118.keep g129 (by omega)
  have hdo129 := hdo118.keep g129 fun b hb e => hne b ⟨_, rfl, e.symm⟩ hb
  refine ⟨_, _, _, r129.cell rfl, _, rfl, ⟨by omega, by show (0 : Int) < ((p.qs.length : Nat) : Int); omega⟩, there0 (m := 1) hdo129 (by omega), fun w135 e135 => ?_⟩
  have g135 : Only (fun b => b = g3) w129 w135 := only_set e135
  have s135 := ((s91.grow G118).keep g129 (fun b hb e => by have := (s91.ms b hb).2; omega) fun b hb e => by have := (s91.ds b hb).1; omega).keep g135 (fun b hb e => by have := (s91.ms b hb).2; omega) fun b hb e => by have := (s91.ds b hb).1; omega
  have G135 : Grow w91 w135 := (G118.trans g129 fun b hb e => by omega).trans g135 fun b hb e => by omega
  have rt135 := rt91.grow G135
  obtain ⟨so2, sc2, rs2, hp2⟩ := s135.read
  refine ⟨_, rt135.cell rfl, (newestP_c p.name hso (by show 1 ≤ 1000; decide) hok.fine rs2 hp2).mono ?_⟩
  rintro _ w139 ⟨r, hr, ⟨o142, c142, rfl, hq142⟩, g139⟩
  obtain rfl := hnew r hr
  refine ⟨_, _, _, _, _, _, rfl, fun _ w147 e147 => ⟨(Row.new e147).there (by simp), fun w149 e149 => ?_⟩, fun h => (by cases h)⟩
  obtain ⟨r149, g149⟩ := loc e147 e149 rfl
  have G149 := (G135.trans' g139).trans' g149
  have rt149 := rt91.grow G149
  refine ⟨_, r149.cell rfl, _, r149.cell rfl, _, _, _, r149.cell rfl, _, rt149.cell rfl, _, rt149.cell rfl, _, _, _, rt149.cell rfl, (eqP_c o142 o c142 c p hf w149 (hq142.grow g149) (h91.grow G149)).mono ?_⟩
  rintro _ w162 ⟨rfl, g162⟩
  exact ⟨_, rfl, rfl, (O91.grow (G149.trans' g162)).toGrow fun b hb => hb⟩
end Go.Proofs.Ytbaacpfjecbbgaa
