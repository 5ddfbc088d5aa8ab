/- The statement Cycle. -/
import Derived.Test.YtbaacpfjecbbgaaKk
namespace Go.Proofs.Ytbaacpfjecbbgaa
open Go Go.Nf

/-! ### Plain -/
def backA (k : Nat) : Ans := ⟨ByteArray.mk #[98, 97, 99, 107], k, 0, ByteArray.mk #[]⟩
/-- an answer that leads back -/
def backQ (s : Qst) (a k : Nat) : Qst := ⟨s.text, s.ans.set a (backA k)⟩
def backP (p : Prot) (q : Nat) (s : Qst) (a k : Nat) : Prot := ⟨p.name, p.version, p.qs.set q (backQ s a k)⟩
theorem back_ok {n : Int} {k : Nat} (h : (k : Int) < n) : ansB n (backA k) = true := by
  unfold ansB
  rw [show phraseB (backA k).text 100 = true from by kernel_rfl, Bool.true_and, if_neg (show ¬ (backA k).next = -1 by show ¬ (k : Int) = -1; omega)]
  rw [show decide ((backA k).next < n) = true from decide_eq_true h, show decide (0 ≤ (backA k).next) = true from decide_eq_true (by show (0 : Int) ≤ k; omega)]
  rfl
theorem back_valid {p : Prot} {q a k : Nat} {s : Qst} (hv : validB p = true) (hq : p.qs[q]? = some s) (hk : k < p.qs.length) : validB (backP p q s a k) = true := by
  unfold validB at hv ⊢
  simp only [Bool.and_eq_true, decide_eq_true_eq] at hv ⊢
  obtain ⟨⟨⟨⟨⟨h1, h2⟩, h3⟩, h4⟩, h5⟩, h6⟩ := hv
  have hl : (backP p q s a k).qs.length = p.qs.length := List.length_set
  rw [hl]
  refine ⟨⟨⟨⟨⟨List.all_eq_true.2 fun x hx => ?_, h2⟩, h3⟩, h4⟩, h5⟩, h6⟩
  rcases List.mem_or_eq_of_mem_set hx with hx | rfl
  · exact List.all_eq_true.1 h1 x hx
  · have hs := List.all_eq_true.1 h1 s (List.mem_of_getElem? hq)
    unfold qstB at hs ⊢
    simp only [Bool.and_eq_true, decide_eq_true_eq] at hs ⊢
    have hl2 : (backQ s a k).ans.length = s.ans.length := List.length_set
    rw [hl2]
    refine ⟨⟨⟨hs.1.1.1, hs.1.1.2⟩, hs.1.2⟩, List.all_eq_true.2 fun x hx => ?_⟩
    rcases List.mem_or_eq_of_mem_set hx with hx | rfl
    · exact List.all_eq_true.1 hs.2 x hx
    · exact back_ok (by omega)
theorem back_cyc {p : Prot} {q a k : Nat} {s : Qst} (hq : p.qs[q]? = some s) (ha : a < s.ans.length) (hr : Rch (nxP p.qs) k q) : Cyc (nxP (backP p q s a k).qs) q := by
  have hqn : q < p.qs.length := by
    rcases Nat.lt_or_ge q p.qs.length with h | h
    · exact h
    · rw [List.getElem?_eq_none h] at hq; cases hq
  have hoff : ∀ x, x ≠ q → nxP (backP p q s a k).qs x = nxP p.qs x := fun x hx => by
    unfold nxP
    rw [show (backP p q s a k).qs[x]? = p.qs[x]? from List.getElem?_set_ne (fun e => hx e.symm)]
  have hat : k ∈ nxP (backP p q s a k).qs q := by
    refine mem_nxP.2 ⟨by omega, by omega, backQ s a k, ?_, backA k, List.mem_set ha _, rfl⟩
    rw [toNat_cast]; exact List.getElem?_set_self hqn
  refine ⟨k, hat, ?_⟩
  have key : ∀ x y, Rch (nxP p.qs) x y → y = q → Rch (nxP (backP p q s a k).qs) x q := by
    intro x y h
    induction h with
    | refl x => rintro rfl; exact .refl _
    | @step x y z hx _ ih =>
      intro e
      by_cases hxq : x = q
      · subst hxq; exact .refl _
      · exact .step (by rw [hoff x hxq]; exact hx) (ih e)
  exact key k q hr rfl
theorem back_ending {p : Prot} {q a k : Nat} {s : Qst} {x e : Int} (hv : validB p = true) (hq : p.qs[q]? = some s) (ha : a < s.ans.length) (hk : k < p.qs.length) (hr : Rch (nxP p.qs) k q) (hE : Ending' (backP p q s a k) x e) : e = 12 ∧ 0 ≤ x ∧ x ≤ q := by
  have hqn : q < p.qs.length := by
    rcases Nat.lt_or_ge q p.qs.length with h | h
    · exact h
    · rw [List.getElem?_eq_none h] at hq; cases hq
  have hl : (backP p q s a k).qs.length = p.qs.length := List.length_set
  have hc := back_cyc hq ha hr
  rcases hE with ⟨h, -⟩ | ⟨-, i, -, rfl, -, hmin, rfl⟩ | ⟨-, hn, -⟩ | ⟨-, hn, -⟩
  · exact absurd ((back_valid hv hq hk).symm.trans h) (by decide)
  · refine ⟨rfl, by omega, ?_⟩
    rcases Nat.lt_or_ge q i with h | h
    · exact absurd hc (hmin q h)
    · omega
  · exact absurd hc (hn q (by omega))
  · exact absurd hc (hn q (by omega))

/-! ### The copies -/
theorem qs_cells {w : World} {A : Nat → Prop} {o : Option Addr} {qs : List Qst} (h : Qs w A o qs) : ∃ cs : List (ByteArray × Option Addr × Nat × Nat), cs.length = qs.length ∧
    ∀ (i : Nat) q, qs[i]? = some q → ∃ a oi ci, o = some a ∧ cs[i]? = some (q.text, oi, q.ans.length, ci) ∧ w.cell? (a.add (i * 2)) = some (.string q.text) ∧ w.cell? (a.add (i * 2 + 1)) = some (.slice oi q.ans.length ci) ∧ Recs w A oi 4 (q.ans.map encA) := by
  have hex : ∀ i : Nat, ∃ t : ByteArray × Option Addr × Nat × Nat, ∀ q, qs[i]? = some q → ∃ a oi ci, o = some a ∧ t = (q.text, oi, q.ans.length, ci) ∧ w.cell? (a.add (i * 2)) = some (.string q.text) ∧ w.cell? (a.add (i * 2 + 1)) = some (.slice oi q.ans.length ci) ∧ Recs w A oi 4 (q.ans.map encA) := fun i => by
    cases hq : qs[i]? with
    | none => exact ⟨(ByteArray.mk #[], none, 0, 0), fun q hq' => by cases hq'⟩
    | some q =>
      obtain ⟨a, oi, ci, ha, -, h1, h2, h3⟩ := h i q hq
      rw [toNat_cast] at h1 h2
      rw [add_add] at h2
      exact ⟨_, fun q' hq' => by cases hq'; exact ⟨a, oi, ci, ha, rfl, h1, h2, h3⟩⟩
  obtain ⟨f, hf⟩ := Classical.axiomOfChoice hex
  refine ⟨(List.range qs.length).map f, by simp, fun i q hq => ?_⟩
  have hil : i < qs.length := by
    rcases Nat.lt_or_ge i qs.length with h | h
    · exact h
    · rw [List.getElem?_eq_none h] at hq; cases hq
  obtain ⟨a, oi, ci, ha, ht, h1, h2, h3⟩ := hf i q hq
  exact ⟨a, oi, ci, ha, by rw [List.getElem?_map, List.getElem?_range hil, Option.map_some, ht], h1, h2, h3⟩
/-- all questions, appended to nothing -/
theorem append_qs {w0 w w1 : World} {A : Nat → Prop} {o : Option Addr} {c : Nat} {qs : List Qst} {K : Value → World → Prop} (h : Qs w0 A o qs) (g0 : Grow w0 w) (e : w1 = w.alloc (.cells #[] 38 (0, 0))) (hpos : 1 ≤ qs.length) (hl : qs.length ≤ 100000)
    (hK : ∀ (o' : Option Addr) (c' : Nat) (w' : World) (cs : List (ByteArray × Option Addr × Nat × Nat)), Own w' (hs w) 38 2 o' qs.length c' (cs.flatMap encQ) → cs.length = qs.length → (∀ (i : Nat) q, qs[i]? = some q → ∃ oi ci, cs[i]? = some (q.text, oi, q.ans.length, ci) ∧ Recs w0 A oi 4 (q.ans.map encA)) → Grow w w' → K (.slice o' qs.length c') w') :
    RunOk Try.prog (Hold (Builtin.append_ #[22, 22] 22 #[.slice (some ⟨hs w, 0, none⟩) 0 0, .slice o qs.length c])) w1 K := by
  have r : Row w1 (hs w) 38 [] := Row.new e
  have g : Grow w w1 := only_alloc e
  have own : Own w1 (hs w) 38 2 (some ⟨hs w, 0, none⟩) 0 0 [] := r.own (n := 0) (Nat.le_refl _) rfl (by simp [maxLen])
  obtain ⟨cs, hcl, hcs⟩ := qs_cells h
  obtain ⟨a, oi0, ci0, rfl, -⟩ := hcs 0 _ (List.getElem?_eq_getElem (by omega))
  have hfl : (cs.flatMap encQ).length = qs.length * 2 := by rw [flat_length encQ_len, hcl]
  have := run_append (w := w1) (K := K) (ty := 22) (a := a) (m := qs.length) (cx := c) (news := cs.flatMap encQ) elem22 own hfl (fun j u hu => ?_) (fun u hu => ?_) (by simp [maxLen]; omega) (by omega) g.size fun o' c' w' p1 p2 _ => ?_
  · exact this
  · have hjl : j < (cs.flatMap encQ).length := by
      rcases Nat.lt_or_ge j (cs.flatMap encQ).length with h | h
      · exact h
      · rw [List.getElem?_eq_none h] at hu; cases hu
    have hi : j / 2 < qs.length := by omega
    obtain ⟨a', oi, ci, ha, hc, h1, h2, -⟩ := hcs (j / 2) _ (List.getElem?_eq_getElem hi)
    cases ha
    have ej : j = j / 2 * 2 + j % 2 := by omega
    have hm : j % 2 < 2 := Nat.mod_lt _ (by omega)
    rw [ej, flat_get encQ_len _ _ _ hm, hc] at hu
    rw [ej]
    generalize j / 2 = i at *
    rcases (show j % 2 = 0 ∨ j % 2 = 1 by omega) with e0 | e0
    · rw [e0] at hu ⊢
      cases hu
      exact cell_keep (g0.trans' g) (fun h => h) h1
    · rw [e0] at hu ⊢
      cases hu
      exact cell_keep (g0.trans' g) (fun h => h) h2
  · obtain ⟨t, -, ht⟩ := List.mem_flatMap.1 hu
    simp only [encQ, List.mem_cons, List.not_mem_nil, or_false] at ht
    rcases ht with rfl | rfl <;> rfl
  · rw [Nat.zero_add, List.nil_append] at p1
    rw [Nat.zero_add]
    refine hK o' c' w' cs p1 hcl (fun i q hq => ?_) (g.trans p2 fun b hb hh => ?_)
    · obtain ⟨a', oi, ci, -, hc, -, -, h3⟩ := hcs i q hq
      exact ⟨oi, ci, hc, h3⟩
    · obtain ⟨a', ha, rfl⟩ := hh
      cases ha
      exact absurd hb (by simp)
set_option maxHeartbeats 4000000 in
theorem law20_c (o : Option Addr) (c : Nat) (p : Prot) (q a : Int) (hf : FitP p) (w : World) {A : Nat → Prop} (h : Qs w A o p.qs) :
    Calls Try.prog 20 #[.agg #[.string p.name, .int .i64 p.version, .slice o p.qs.length c], .int .i64 q, .int .i64 a] w fun e w' => e = .returned (.bool true) ∧ Grow w w' := by
  have hfl := hf.qs
  refine nf20 p.name p.version o p.qs.length c q a w _ fun w1 e1 => (awake13_c w1).mono ?_
  have r := Row.new e1
  have g : Grow w w1 := only_alloc e1
  rintro _ w4 ⟨rfl, g4⟩
  have r4 := r.grow g4
  have h4 := (h.grow g).grow g4
  refine ⟨_, rfl, fun _ => ⟨_, r4.cell rfl, _, r4.cell rfl, _, _, _, r4.cell rfl, (few_c o c p hf w4 h4).mono ?_⟩, fun hb => (by cases hb)⟩
  rintro _ w13 ⟨b, rfl, hb, g13⟩
  have r13 := r4.grow g13
  have h13 := h4.grow g13
  have G13 := (g.trans' g4).trans' g13
  refine ⟨_, rfl, fun hbt => ⟨_, r13.cell rfl, _, r13.cell rfl, _, _, _, r13.cell rfl, (check_c o c p hfl w13 h13).mono ?_⟩, fun _ => (awake13_c w13).mono ?_⟩
  · rintro _ w22 ⟨x, y, rfl, hE, g22⟩
    have r22 := r13.grow g22
    have h22 := h13.grow g22
    have G22 := G13.trans' g22
    refine ⟨_, _, rfl, fun _ => ⟨rfl, G22⟩, fun hy => ⟨fun _ => ⟨rfl, G22⟩, fun hq0 => ⟨_, _, _, r22.cell rfl, fun _ => ⟨rfl, G22⟩, fun hqn => ⟨fun _ => ⟨rfl, G22⟩, fun ha0 => ?_⟩⟩⟩⟩
    have hy := nF hy
    subst hy
    have hq0 := dF hq0
    have hqn := dF hqn
    have ha0 := dF ha0
    obtain ⟨q, rfl⟩ : ∃ i : Nat, q = (i : Int) := ⟨q.toNat, by omega⟩
    obtain ⟨a, rfl⟩ : ∃ i : Nat, a = (i : Int) := ⟨a.toNat, by omega⟩
    have hq : q < p.qs.length := by omega
    have hv := ending_valid hE
    have V := valid_of hv
    have htop := V.top
    have hpos := V.pos
    have hqs : p.qs[q]? = some p.qs[q] := List.getElem?_eq_getElem hq
    have hans := V.ans _ (List.getElem_mem hq)
    obtain ⟨a3, oi, ci, ha3, hc0, hc1, hr3⟩ := h22.get hq
    generalize p.qs[q] = s at *
    refine ⟨_, _, _, r22.cell rfl, a3, ha3, ⟨by omega, by omega⟩, _, _, _, hc1, fun _ => ⟨rfl, G22⟩, fun han => ⟨_, _, _, r22.cell rfl, fun k x w' => ∃ j : Nat, x = (j : Int) ∧ j ≤ p.qs.length ∧ k = p.qs.length - j ∧ Grow w22 w', ⟨_, 0, rfl, Nat.zero_le _, rfl, Only.refl _ _⟩, ?_⟩⟩
    have han : a < s.ans.length := by have := dF han; omega
    rintro k _ w52 x ⟨j, rfl, hj, rfl, g52⟩
    refine ⟨fun hlt K hK => ?_, fun _ => ⟨rfl, G22.trans' g52⟩⟩
    have hlt : j < p.qs.length := by have := dT hlt; omega
    have next : ∀ w', Grow w22 w' → K w' := fun w' q1 => hK _ fun _ => ⟨_, by omega, j + 1, by rw [wr (by omega)]; omega, hlt, rfl, q1⟩
    have r52 := r22.grow g52
    have h52 := h22.grow g52
    refine ⟨_, r52.cell rfl, _, r52.cell rfl, _, _, _, r52.cell rfl, (comes_c o c p j (by omega) V.ans V.inside w52 h52).mono ?_⟩
    rintro _ w68 ⟨bd, d, rfl, rd, ⟨hd, hC⟩, g68⟩
    refine ⟨_, _, _, rfl, _, rfl, ⟨by omega, by omega⟩, _, rd.cellAdd (boolsV_get (by omega)), fun hbt => ?_, fun _ => next _ (g52.trans' g68)⟩
    have hr : Rch (nxP p.qs) j q := by
      have := (hC q).1 hbt
      rw [toNat_cast] at this
      exact this.2.2
    have r68 := r52.grow g68
    have h68 := h52.grow g68
    have G68 := (G22.trans' g52).trans' g68
    refine ⟨_, r68.cell rfl, _, r68.cell rfl, _, _, _, r68.cell rfl, fun w80 e80 => ⟨(Row.new e80).there (by simp), fun w82 e82 w84 e84 => ?_⟩⟩
    obtain ⟨r82, g82⟩ := loc e80 e82 rfl
    have h82 := h68.grow g82
    have rt82 := r68.grow g82
    have g84 : Grow w82 w84 := only_alloc e84
    refine ⟨_, _, _, (rt82.grow g84).cell rfl, append_qs h68 g82 e84 (by omega) (by omega) fun o91 c91 w90 cs own90 hcl hcs g90 => ⟨_, _, _, rfl, ?_⟩⟩
    have r90 := r82.grow g90
    have s82 := r82.lt
    have s68 := r68.lt
    refine ⟨r90.there (by simp), fun w94 e94 w96 e96 => ?_⟩
    have r94 := r90.set e94
    have g94 : Only (fun b => b = hs w68) w90 w94 := only_set e94
    have g96 : Grow w94 w96 := only_drew e96
    have r96 : Row w96 (hs w68) 24 [.string p.name, .int .i64 p.version, .slice o91 p.qs.length c91] := r94.grow g96
    have own96 := (own90.keep g94 fun b hb e => by have := (own90.base b hb).1; omega).grow g96
    have G96 : Grow w68 w96 := ((g82.trans' g90).trans g94 fun b hb e => by omega).trans' g96
    have rt96 := r68.grow G96
    have h96 := h68.grow G96
    obtain ⟨-, a4, oi4, ci4, ha4, -, hd1, -, hr4⟩ := qs_at h96 hqs
    refine ⟨_, _, _, r96.cell rfl, _, _, _, rt96.cell rfl, a4, ha4, ⟨by omega, by omega⟩, _, _, _, hd1, fun w108 e108 => ?_⟩
    have g108 : Grow w96 w108 := only_alloc e108
    have rn108 : Row w108 (hs w96) 58 [] := Row.new e108
    have own108 : Own w108 (hs w96) 58 4 (some ⟨hs w96, 0, none⟩) 0 0 (([] : List Ans).flatMap encA) := rn108.own (n := 0) (Nat.le_refl _) rfl (by simp [maxLen])
    have hlt4 : a4.block < hs w96 := by
      rcases Nat.lt_or_ge a4.block w96.heap.size with hb | hb
      · exact hb
      · unfold World.cell? at hd1
        rw [Array.getElem?_eq_none (by rw [block_add2]; exact hb)] at hd1
        cases hd1
    refine ⟨kept_addr g108 (by rw [block_add2]; exact hlt4) (fun h => h), kept_only g108 rt96.lt (fun h => h), kept_only g108 r96.lt (fun h => h), append_ans own108 (hr4.grow g108) (by omega) g108.size fun o112 c112 w111 p1 p2 => ⟨_, _, _, rfl, ?_⟩⟩
    have g111 : Grow w96 w111 := g108.trans p2 fun b hb hh => by
      obtain ⟨a', ha, rfl⟩ := hh
      cases ha
      exact absurd hb (by simp)
    rw [List.nil_append] at p1
    rw [Nat.zero_add] at p1 ⊢
    have own111 := own96.grow g111
    obtain ⟨gq, lq, rfl, -, -, -, hBq⟩ := own111.head (by omega)
    have r111 := r96.grow g111
    refine ⟨kept_only g111 r96.lt (fun h => h), _, rfl, ⟨by omega, by omega⟩, own111.there2 (by rw [toNat_cast]; omega), fun w116 e116 => ?_⟩
    have hqc : q < cs.length := by omega
    obtain ⟨oiq, ciq, hcq, -⟩ := hcs q s hqs
    rw [add_add] at e116
    have own116 := own111.set e116 (by rw [toNat_cast]; simp; omega)
    have hfs := flat_set encQ_len cs q 1 [.slice o112 s.ans.length c112] (s.text, o112, s.ans.length, c112) hqc (by simp) (by
      rw [show cs[q] = (s.text, oiq, s.ans.length, ciq) from Option.some.inj ((List.getElem?_eq_getElem hqc).symm.trans hcq)]
      rfl)
    rw [toNat_cast, hfs] at own116
    have g116 : Only (fun b => b = gq) w111 w116 := only_setAdd e116
    have b96 := g111.size
    have bq := own96.base gq ⟨_, rfl, rfl⟩
    have ownA116 := p1.keep g116 fun b hb e => by have := (p1.base b hb).1; omega
    have r116 := r111.keep g116 (by omega)
    have hcell116 := own116.cell2 (j := (q : Int).toNat * 2) (k := 1) (v := .slice o112 s.ans.length c112) (by
      rw [toNat_cast, flat_get encQ_len _ _ _ (by omega), List.getElem?_set_self hqc]; rfl)
    obtain ⟨ga, la, rfl, -, -, -, hBa⟩ := ownA116.head (by omega)
    refine ⟨_, _, _, r116.cell rfl, _, rfl, ⟨by omega, by omega⟩, _, _, _, hcell116, _, rfl, ⟨by omega, by omega⟩, ownA116.there (by rw [toNat_cast]; omega), fun w126 e126 => ?_⟩
    have ownA126 := ownA116.set e126 (by rw [toNat_cast]; simp; omega)
    have hfs2 := flat_set encA_len s.ans a 0 (encA (backA j)) (backA j) han (by simp [encA_len]) (setFrom_all _ _ (by rw [encA_len, encA_len]))
    rw [Nat.add_zero] at hfs2
    have e2 : setFrom (s.ans.flatMap encA) ((a : Int).toNat * 4) [.string (ByteArray.mk #[98, 97, 99, 107]), .int .i64 (j : Int), .int .i64 0, .string (ByteArray.mk #[])] = (s.ans.set a (backA j)).flatMap encA := by rw [toNat_cast]; exact hfs2
    rw [e2] at ownA126
    have g126 : Only (fun b => b = ga) w116 w126 := only_setAdd e126
    have b116 := g116.size
    have ba := ownA116.base ga ⟨_, rfl, rfl⟩
    have own126 := own116.keep g126 fun b ⟨x, hx, hb⟩ e => by cases hx; have h1 : gq = ga := hb.trans e; omega
    have r126 := r116.keep g126 (by omega)
    have G126 : Grow w68 w126 := ((G96.trans' g111).trans g116 fun b hb e => by omega).trans g126 fun b hb e => by
      have := G96.size
      omega
    have hQ : Qs w126 (fun _ => True) (some ⟨gq, 0, none⟩) (backP p q s a j).qs := fun i x hi => by
      have hil : i < p.qs.length := by
        rcases Nat.lt_or_ge i p.qs.length with h | h
        · exact h
        · rw [List.getElem?_eq_none (by rw [show (backP p q s a j).qs.length = p.qs.length from List.length_set]; exact h)] at hi; cases hi
      by_cases e : i = q
      · subst e
        rw [show (backP p i s a j).qs[i]? = some (backQ s a j) from List.getElem?_set_self hil] at hi
        cases hi
        have hl2 : (backQ s a j).ans.length = s.ans.length := List.length_set
        refine ⟨_, some ⟨ga, 0, none⟩, c112, rfl, trivial, own126.cell ?_, own126.cell2 ?_, (own_recs (n := s.ans.length) (c := c112) ownA126).mono fun _ _ => trivial⟩
        · rw [toNat_cast, flat_get0 encQ_len _ _ (by omega), List.getElem?_set_self hqc]; rfl
        · rw [toNat_cast, flat_get encQ_len _ _ _ (by omega), List.getElem?_set_self hqc, hl2]; rfl
      · rw [show (backP p q s a j).qs[i]? = p.qs[i]? from List.getElem?_set_ne (fun h => e h.symm)] at hi
        obtain ⟨oi', ci', hc', hrc⟩ := hcs i x hi
        refine ⟨_, oi', ci', rfl, trivial, own126.cell ?_, own126.cell2 ?_, (hrc.grow G126).mono fun _ _ => trivial⟩
        · rw [toNat_cast, flat_get0 encQ_len _ _ (by omega), List.getElem?_set_ne (fun h => e h.symm), hc']; rfl
        · rw [toNat_cast, flat_get encQ_len _ _ _ (by omega), List.getElem?_set_ne (fun h => e h.symm), hc']; rfl
    have hlb : (backP p q s a j).qs.length = p.qs.length := List.length_set
    have hck := check_c (some ⟨gq, 0, none⟩) c91 (backP p q s a j) (by rw [hlb]; omega) w126 hQ
    rw [hlb] at hck
    refine ⟨_, r126.cell rfl, _, r126.cell rfl, _, _, _, r126.cell rfl, hck.mono ?_⟩
    rintro _ w134 ⟨x135, x136, rfl, hE2, g134⟩
    obtain ⟨rfl, h1, h2⟩ := back_ending hv hqs han hlt hr hE2
    exact ⟨_, _, rfl, nno rfl (no (by omega) (no (by omega) (next _ ((g52.trans' g68).trans' (G126.trans' g134)))))⟩
  · rintro _ w40 ⟨rfl, g40⟩
    exact ⟨_, rfl, fun _ => ⟨rfl, G13.trans' g40⟩, fun h => (by cases h)⟩
end Go.Proofs.Ytbaacpfjecbbgaa
