/- Copies of answers and questions; an interview in memory; New. -/
import Derived.Test.YtbaacpfjecbbgaaHl
namespace Go.Proofs.Ytbaacpfjecbbgaa
open Go Go.Nf

theorem elem36 : Elem Try.prog 36 58 4 48 := elem_of (by kernel_rfl)
theorem elem22 : Elem Try.prog 22 38 2 40 := elem_of (by kernel_rfl)
theorem add_add (a : Addr) (i j : Nat) : (a.add i).add j = a.add (i + j) := by
  rcases a with ⟨b, off, s⟩
  cases s with
  | none => simp only [Addr.add_lit, Nat.add_assoc]
  | some s => by_cases hi : i = 0 <;> by_cases hj : j = 0 <;> simp [Addr.add, hi, hj, Nat.add_assoc]
theorem encA_len (a : Ans) : (encA a).length = 4 := rfl
theorem encA_one {l : List Ans} : ∀ u ∈ l.flatMap encA, u.oneCell' = true := by
  intro u hu
  obtain ⟨a, -, ha⟩ := List.mem_flatMap.1 hu
  simp only [encA, List.mem_cons, List.not_mem_nil, or_false] at ha
  rcases ha with rfl | rfl | rfl | rfl <;> rfl
theorem recs_flat {w : World} {A : Nat → Prop} {a : Addr} {bs : List Ans} (h : Recs w A (some a) 4 (bs.map encA)) : ∀ j u, (bs.flatMap encA)[j]? = some u → w.cell? (a.add j) = some u := fun j u hj => by
  have e : j = j / 4 * 4 + j % 4 := by omega
  rw [e, flat_get encA_len bs _ _ (Nat.mod_lt _ (by omega))] at hj
  cases hb : bs[j / 4]? with
  | none => rw [hb] at hj; cases hj
  | some b =>
    rw [hb] at hj
    obtain ⟨a', ha', -, hc⟩ := h (j / 4) (encA b) (by rw [List.getElem?_map, hb]; rfl)
    cases ha'
    have := hc _ _ hj
    rw [toNat_cast, add_add] at this
    rw [e]; exact this
theorem own_recs {w : World} {B : Nat} {o : Option Addr} {n c : Nat} {bs : List Ans} (h : Own w B 58 4 o n c (bs.flatMap encA)) : Recs w (fun b => B ≤ b ∧ b < hs w) o 4 (bs.map encA) := fun i row hi => by
  have hl := h.length
  rw [flat_length encA_len] at hl
  rw [List.getElem?_map] at hi
  cases hb : bs[i]? with
  | none => rw [hb] at hi; cases hi
  | some b =>
    rw [hb] at hi
    cases hi
    have hil : i < bs.length := by
      rcases Nat.lt_or_ge i bs.length with h | h
      · exact h
      · rw [List.getElem?_eq_none h] at hb; cases hb
    obtain ⟨g, l, rfl, hr, ht, _⟩ := h.head (by omega)
    refine ⟨_, rfl, h.base g ⟨_, rfl, rfl⟩, fun j v hj => h.cell2 ?_⟩
    have hj4 : j < 4 := by
      rcases Nat.lt_or_ge j 4 with h | h
      · exact h
      · rw [List.getElem?_eq_none (by rw [encA_len]; exact h)] at hj; cases hj
    rw [toNat_cast, flat_get encA_len bs i j hj4, hb]
    exact hj
theorem append_ans {w : World} {B : Nat} {o o2 : Option Addr} {n c c2 : Nat} {xs ys : List Ans} {A : Nat → Prop} {K : Value → World → Prop} (hown : Own w B 58 4 o n c (xs.flatMap encA)) (hn : Recs w A o2 4 (ys.map encA))
    (h63 : n + ys.length ≤ 100000) (hbase : B ≤ hs w)
    (h : ∀ o' c' w', Own w' B 58 4 o' (n + ys.length) c' ((xs ++ ys).flatMap encA) → Only (inBlock o) w w' → K (.slice o' (n + ys.length) c') w') :
    RunOk Try.prog (Hold (Builtin.append_ #[36, 36] 36 #[.slice o n c, .slice o2 ys.length c2])) w K := by
  cases ys with
  | nil =>
    refine run_append_nothing' elem36 hown.le ?_
    have := h o c w (by simpa using hown) (Only.refl _ _)
    simpa using this
  | cons y ys =>
    obtain ⟨a, rfl, -⟩ := hn 0 (encA y) rfl
    refine run_append elem36 hown (news := (y :: ys).flatMap encA) (flat_length encA_len _) (recs_flat hn) encA_one (by simp [maxLen]; simp at h63; omega) (by omega) hbase fun o' c' w' h1 h2 _ => h o' c' w' (by rw [List.flatMap_append]; exact h1) h2
theorem cloneAns_c {w : World} {A : Nat → Prop} {o : Option Addr} {c : Nat} {bs : List Ans} (hn : bs.length ≤ 1000) (h : Recs w A o 4 (bs.map encA)) :
    Calls Try.prog 110 #[.slice o bs.length c] w fun e w' => ∃ o' c', e = .returned (.slice o' bs.length c') ∧ Own w' (hs w) 58 4 o' bs.length c' (bs.flatMap encA) ∧ Grow w w' := by
  refine nf110 o bs.length c w _ ⟨fun ho => ?_, fun ho w1 e1 => ?_⟩
  · have : bs = [] := by
      cases bs with
      | nil => rfl
      | cons b bs =>
        obtain ⟨a, rfl, -⟩ := h 0 (encA b) rfl
        cases ho
    subst this
    exact ⟨none, 0, rfl, own_nil _ _ _ _, Only.refl _ _⟩
  · have r1 : Row w1 (hs w) 58 [] := Row.new e1
    have o1 : Own w1 (hs w) 58 4 (some ⟨hs w, 0, none⟩) 0 0 (([] : List Ans).flatMap encA) := r1.own (n := 0) (Nat.le_refl _) rfl (by simp [maxLen])
    have g1 : Grow w w1 := only_alloc e1
    refine append_ans o1 (h.grow g1) (by omega) g1.size fun o' c' w2 p1 p2 => ⟨_, _, _, rfl, o', c', by rw [Nat.zero_add], by simpa using p1, g1.trans p2 fun b hb hh => ?_⟩
    obtain ⟨a, ha, rfl⟩ := hh
    cases ha
    exact absurd hb (by simp)
theorem copyQuestion_c {w : World} {A : Nat → Prop} {o : Option Addr} {c : Nat} {q : Qst} (hn : q.ans.length ≤ 1000) (h : Recs w A o 4 (q.ans.map encA)) :
    Calls Try.prog 72 #[.agg #[.string q.text, .slice o q.ans.length c]] w fun e w' => ∃ o' c', e = .returned (.agg #[.string q.text, .slice o' q.ans.length c']) ∧ Own w' (hs w) 58 4 o' q.ans.length c' (q.ans.flatMap encA) ∧ Grow w w' := by
  refine nf72 q.text o q.ans.length c w _ fun w1 e1 w3 e3 w5 e5 => ?_
  have r1 := Row.new e1
  have r3 := Row.new e3
  have g1 : Grow w w1 := only_alloc e1
  have g13 : Grow w1 w3 := only_alloc e3
  have g35 : Grow w3 w5 := only_drew e5
  have g5 := (g1.trans' g13).trans' g35
  have r5 := (r1.grow g13).grow g35
  refine ⟨_, r5.cell rfl, _, _, _, r5.cell rfl, (cloneAns_c hn (h.grow g5)).mono ?_⟩
  rintro _ w6 ⟨o6, c6, rfl, own6, g6⟩
  have r6 := (r3.grow g35).grow g6
  refine ⟨_, _, _, rfl, kept_only g6 r5.lt (fun h => h), r6.there (by simp), fun w7 e7 => ?_⟩
  have r7 := r6.set e7
  have g7 : Only (fun b => b = hs w1) w6 w7 := only_set e7
  have h1 := g1.size
  have h5 := g5.size
  have h15 := (g13.trans' g35).size
  have hlt := (r3.grow g35).lt
  refine ⟨_, r7.cell rfl, _, _, _, r7.cell rfl, _, _, rfl, (own6.mono h5).keep g7 fun b hb e => ?_, (g5.trans' g6).trans g7 fun b hb e => by omega⟩
  have := (own6.base b hb).1
  omega

/-! ### an interview -/
def zeroA : Ans := ⟨ByteArray.mk #[], 0, 0, ByteArray.mk #[]⟩
/-- after the answers l: the questions asked, the current question and the last answer -/
inductive Talk (qs : List Qst) : List Int → List Int → Int → Ans → Prop
  | nil : Talk qs [] [] 0 zeroA
  | snoc {l pa : List Int} {cur a : Int} {last x : Ans} {q : Qst} (h : Talk qs l pa cur last) (h0 : 0 ≤ cur) (hq : qs[cur.toNat]? = some q) (ha : 0 ≤ a) (hx : q.ans[a.toNat]? = some x) : Talk qs (l ++ [a]) (pa ++ [cur]) x.next x
/-- the interview at block t -/
def Iv (w : World) (B t : Nat) (p : Prot) (said path : List Int) (cur : Int) : Prop :=
  ∃ qo qc so sc po pc, Row w t 106 [.string p.name, .int .i64 p.version, .slice qo p.qs.length qc, .slice so said.length sc, .slice po path.length pc, .int .i64 cur] ∧ B ≤ t ∧
    Qs w (fun b => B ≤ b ∧ b < t) qo p.qs ∧ Own w (t + 1) 3 1 so said.length sc (intsV said) ∧ Own w (t + 1) 3 1 po path.length pc (intsV path) ∧ ∀ b, inBlock so b → ¬ inBlock po b
theorem Iv.keep {S : Nat → Prop} {w w' : World} {B t : Nat} {p : Prot} {said path : List Int} {cur : Int} (h : Iv w B t p said path cur) (g : Only S w w') (hS : ∀ b, B ≤ b → ¬ S b) : Iv w' B t p said path cur := by
  obtain ⟨qo, qc, so, sc, po, pc, h1, h2, h3, h4, h5, h6⟩ := h
  exact ⟨qo, qc, so, sc, po, pc, h1.keep g (hS t h2), h2, h3.keep g fun b hb => hS b hb.1, h4.keep g fun b hb => hS b (by have := (h4.base b hb).1; omega), h5.keep g fun b hb => hS b (by have := (h5.base b hb).1; omega), h6⟩
theorem Iv.grow {w w' : World} {B t : Nat} {p : Prot} {said path : List Int} {cur : Int} (h : Iv w B t p said path cur) (g : Grow w w') : Iv w' B t p said path cur := h.keep g fun _ _ h => h
def encQ (c : ByteArray × Option Addr × Nat × Nat) : List Value := [.string c.1, .slice c.2.1 c.2.2.1 c.2.2.2]
theorem encQ_len (c) : (encQ c).length = 2 := rfl
/-- copies of the first j questions -/
def Copied (w : World) (B : Nat) (o : Option Addr) (c : Nat) (qs : List Qst) (j : Nat) : Prop :=
  ∃ cs : List (ByteArray × Option Addr × Nat × Nat), cs.length = j ∧ Own w B 38 2 o j c (cs.flatMap encQ) ∧ ∀ (i : Nat) q, i < j → qs[i]? = some q → ∃ oi ci, cs[i]? = some (q.text, oi, q.ans.length, ci) ∧ Own w B 58 4 oi q.ans.length ci (q.ans.flatMap encA)
theorem Copied.keep {S : Nat → Prop} {w w' : World} {B : Nat} {o : Option Addr} {c : Nat} {qs : List Qst} {j : Nat} (h : Copied w B o c qs j) (g : Only S w w') (hS : ∀ b, B ≤ b → ¬ S b) : Copied w' B o c qs j := by
  obtain ⟨cs, h1, h2, h3⟩ := h
  refine ⟨cs, h1, h2.keep g fun b hb => hS b (h2.base b hb).1, fun i q hi hq => ?_⟩
  obtain ⟨oi, ci, h4, h5⟩ := h3 i q hi hq
  exact ⟨oi, ci, h4, h5.keep g fun b hb => hS b (h5.base b hb).1⟩
theorem Copied.grow {w w' : World} {B : Nat} {o : Option Addr} {c : Nat} {qs : List Qst} {j : Nat} (h : Copied w B o c qs j) (g : Grow w w') : Copied w' B o c qs j := h.keep g fun _ _ h => h
theorem Copied.qs {w : World} {B : Nat} {o : Option Addr} {c : Nat} {qs : List Qst} (h : Copied w B o c qs qs.length) : Qs w (fun b => B ≤ b ∧ b < hs w) o qs := fun i q hi => by
  obtain ⟨cs, h1, h2, h3⟩ := h
  have hil : i < qs.length := by
    rcases Nat.lt_or_ge i qs.length with h | h
    · exact h
    · rw [List.getElem?_eq_none h] at hi; cases hi
  obtain ⟨oi, ci, h4, h5⟩ := h3 i q hil hi
  obtain ⟨g, l, rfl, hr, ht, _⟩ := h2.head (by omega)
  refine ⟨_, oi, ci, rfl, h2.base g ⟨_, rfl, rfl⟩, h2.cell ?_, h2.cell2 ?_, own_recs h5⟩
  · rw [toNat_cast, flat_get0 encQ_len _ _ (by omega), h4]; rfl
  · rw [toNat_cast, flat_get encQ_len _ _ _ (by omega), h4]; rfl
set_option maxHeartbeats 2000000 in
theorem new_c (o : Option Addr) (c : Nat) (p : Prot) (hf : p.qs.length ≤ 9223372036854775807) (w : World) {A : Nat → Prop} (h : Qs w A o p.qs) :
    Calls Try.prog 25 #[.agg #[.string p.name, .int .i64 p.version, .slice o p.qs.length c]] w fun e w' => ∃ x y, Ending' p x y ∧ Grow w w' ∧
      ((y ≠ 0 ∧ e = .returned (.tuple #[.pointer none, .int .i64 y])) ∨ (y = 0 ∧ ∃ t, e = .returned (.tuple #[.pointer (some ⟨t, 0, none⟩), .int .i64 0]) ∧ Iv w' (hs w) t p [] [] 0)) := by
  refine nf25 p.name p.version o p.qs.length c w _ fun w1 e1 => ?_
  have r := Row.new e1
  have g : Grow w w1 := only_alloc e1
  refine ⟨_, r.cell rfl, _, r.cell rfl, _, _, _, r.cell rfl, (check_c o c p hf w1 (h.grow g)).mono ?_⟩
  rintro _ w2 ⟨x, y, rfl, hE, g2⟩
  have r2 := r.grow g2
  refine ⟨_, _, rfl, fun hy => ⟨x, y, hE, g.trans' g2, .inl ⟨nT hy, rfl⟩⟩, fun hy => ⟨_, r2.cell rfl, _, r2.cell rfl, fun w3 e3 => ⟨(Row.new e3).there (by simp), fun w4 e4 => ?_⟩⟩⟩
  have hy : y = 0 := nF hy
  subst hy
  have hv : validB p = true := by
    rcases hE with ⟨-, -, h⟩ | ⟨h, -⟩ | ⟨h, -⟩ | ⟨h, -⟩
    · cases h
    · exact h
    · exact h
    · exact h
  have V := valid_of hv
  have htop := V.top
  obtain ⟨r4, g4⟩ := loc e3 e4 rfl
  have G4 := (g.trans' g2).trans' g4
  have h4 := h.grow G4
  refine ⟨_, _, _, (r2.grow g4).cell rfl, fun k x w' => ∃ (j : Nat) (o' : Option Addr) (c' : Nat), x = (j : Int) ∧ j ≤ p.qs.length ∧ k = p.qs.length - j ∧ Row w' (hs w2) 24 [.string p.name, .int .i64 p.version, .slice o' j c'] ∧ Copied w' (hs w4) o' c' p.qs j ∧ Only (fun b => b = hs w2) w4 w',
    ⟨_, 0, none, 0, rfl, Nat.zero_le _, rfl, r4, ⟨[], rfl, own_nil _ _ _ _, fun i q hi => by omega⟩, Only.refl _ _⟩, ?_⟩
  rintro k _ w5 x' ⟨j, o5, c5, rfl, hj, rfl, r5, hC, g5⟩
  have G5 : Grow w2 w5 := g4.trans g5 fun b hb e => by omega
  have G05 := (g.trans' g2).trans' G5
  refine ⟨fun hlt => ?_, fun hge => ⟨_, r5.cell rfl, _, r5.cell rfl, _, _, _, r5.cell rfl, fun w6 e6 => ⟨x, 0, hE, G05.trans' (only_alloc e6), .inr ⟨rfl, hs w5, rfl, o5, c5, none, 0, none, 0, ?_⟩⟩⟩⟩
  · have hlt : j < p.qs.length := by have := dT hlt; omega
    obtain ⟨a, oi, ci, ha, c0, c1, hr⟩ := (h.grow G05).get hlt
    have hmem : p.qs[j] ∈ p.qs := List.getElem_mem hlt
    have hans := V.ans _ hmem
    refine ⟨a, ha, ⟨by omega, by omega⟩, _, c0, _, _, _, c1, fun w6 e6 => ⟨(Row.new e6).there (by simp), fun w7 e7 w8 e8 => ?_⟩⟩
    obtain ⟨r7, g7⟩ := loc e6 e7 rfl
    have g8 : Grow w7 w8 := only_drew e8
    have r8 := (r5.grow g7).grow g8
    have rq8 := r7.grow g8
    have hC8 := (hC.grow g7).grow g8
    refine ⟨_, _, _, r8.cell rfl, _, rq8.cell rfl, _, _, _, rq8.cell rfl, (copyQuestion_c (by omega) ((hr.grow g7).grow g8)).mono ?_⟩
    rintro _ w9 ⟨o9, c9, rfl, own9, g9⟩
    refine ⟨_, _, _, _, rfl, kept_only g9 r8.lt (fun h => h), fun w10 e10 => ⟨kept_only (g9.trans' (only_alloc e10) : Grow w8 w10) r8.lt (fun h => h), ?_⟩⟩
    have g10 : Grow w9 w10 := only_alloc e10
    obtain ⟨cs, hcl, hown, hcs⟩ := (hC8.grow g9).grow g10
    have rn : Row w10 (hs w9) 38 [.string p.qs[j].text, .slice o9 p.qs[j].ans.length c9] := Row.new e10
    have r10 := (r8.grow g9).grow g10
    have hb42 : hs w4 ≤ hs w10 := by
      have := g5.size; have := g7.size; have := g8.size; have := g9.size; have := g10.size
      omega
    have hw24 : hs w2 < hs w4 := r4.lt
    refine run_append_row elem22 hown rn rfl (by simp [Value.oneCell']) (by simp [maxLen]; omega) (by omega) hb42 fun o11 c11 w11 p1 p2 _ => ⟨_, _, _, rfl, ?_⟩
    have r11 := r10.keep p2 fun hh => by have := (hown.base _ hh).1; omega
    refine ⟨r11.there (by simp), fun w12 e12 => ⟨_, by omega, j + 1, o11, c11, by rw [wr (by omega)]; omega, hlt, rfl, r11.set e12, ⟨cs ++ [(p.qs[j].text, o9, p.qs[j].ans.length, c9)], by simp [hcl], ?_, fun i q hi hq => ?_⟩, ?_⟩⟩
    · have g12 : Only (fun b => b = hs w2) w11 w12 := only_set e12
      have := p1.keep g12 fun b hb e => by have := (p1.base b hb).1; omega
      rw [List.flatMap_append]
      exact this
    · have g12 : Only (fun b => b = hs w2) w11 w12 := only_set e12
      by_cases e : i = j
      · subst e
        rw [List.getElem?_eq_getElem hlt] at hq
        cases hq
        have own10 := own9.grow g10
        have hb9 : hs w4 ≤ hs w8 := by
          have := g5.size; have := g7.size; have := g8.size
          omega
        have own11 := own10.keep p2 (own10.apart hown (by decide))
        refine ⟨o9, c9, by rw [List.getElem?_append_right (by omega), hcl, Nat.sub_self]; rfl, (own11.mono hb9).keep g12 fun b hb e => ?_⟩
        have := (own11.base b hb).1
        omega
      · obtain ⟨oi', ci', q1, q2⟩ := hcs i q (by omega) hq
        have q3 := q2.keep p2 (q2.apart hown (by decide))
        exact ⟨oi', ci', by rw [List.getElem?_append_left (by omega)]; exact q1, q3.keep g12 fun b hb e => by have := (q3.base b hb).1; omega⟩
    · have g12 : Only (fun b => b = hs w2) w11 w12 := only_set e12
      refine ((((((g5.grow g7).grow g8).grow g9).grow g10).trans p2 fun b hb hh => ?_).trans' g12)
      have := (hown.base b hh).1
      omega
  · have := dF hge
    obtain rfl : j = p.qs.length := by omega
    have hb : hs w ≤ hs w4 := G4.size
    have h5 := G05.size
    refine ⟨Row.new e6, h5, (hC.qs.mono fun b hb' => ⟨by omega, hb'.2⟩).grow (only_alloc e6), own_nil _ _ _ _, own_nil _ _ _ _, ?_⟩
    rintro b ⟨a, ha, -⟩
    cases ha
end Go.Proofs.Ytbaacpfjecbbgaa
