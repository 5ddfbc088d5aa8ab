/- The methods of an interview. -/
import Derived.Test.YtbaacpfjecbbgaaHm
namespace Go.Proofs.Ytbaacpfjecbbgaa
open Go Go.Nf

theorem Talk.len {qs : List Qst} {l pa : List Int} {cur : Int} {last : Ans} (h : Talk qs l pa cur last) : pa.length = l.length := by
  induction h with
  | nil => rfl
  | snoc _ _ _ _ _ ih => simp [ih]
theorem Talk.bound {p : Prot} (hv : validB p = true) {l pa : List Int} {cur : Int} {last : Ans} (h : Talk p.qs l pa cur last) : -1 ≤ cur ∧ cur < p.qs.length := by
  have V := valid_of hv
  have := V.pos
  cases h with
  | nil => omega
  | @snoc l pa cur a last' _ q h h0 hq ha hx =>
    have hs := List.mem_of_getElem? hq
    have hxm := List.mem_of_getElem? hx
    have hl := (ok_ans hv hs hxm).low
    refine ⟨hl, ?_⟩
    by_cases hn : 0 ≤ last.next
    · exact V.inside cur _ ⟨hn, h0, q, hq, last, hxm, rfl⟩
    · omega
theorem snoc_cases {α : Type} {l l' : List α} {a a' : α} (h : l ++ [a] = l' ++ [a']) : l = l' ∧ a = a' := by
  have h1 := List.append_inj' h rfl
  exact ⟨h1.1, by simpa using h1.2⟩
theorem Talk.one {qs : List Qst} {l pa pa' : List Int} {cur cur' : Int} {last last' : Ans} (h : Talk qs l pa cur last) (h' : Talk qs l pa' cur' last') : pa = pa' ∧ cur = cur' ∧ last = last' := by
  induction h generalizing pa' cur' last' with
  | nil =>
    generalize hl : ([] : List Int) = l at h'
    cases h' with
    | nil => exact ⟨rfl, rfl, rfl⟩
    | snoc => simp at hl
  | snoc h h0 hq ha hx ih =>
    rename_i l1 pa1 cur1 a1 last1 x1 q1
    generalize hl : l1 ++ [a1] = l at h'
    cases h' with
    | nil => simp at hl
    | snoc h' h0' hq' ha' hx' =>
      obtain ⟨rfl, rfl⟩ := snoc_cases hl
      obtain ⟨rfl, rfl, rfl⟩ := ih h'
      rw [hq] at hq'
      cases hq'
      rw [hx] at hx'
      cases hx'
      exact ⟨rfl, rfl, rfl⟩
theorem ints_get {xs : List Int} {i : Nat} {v : Int} (h : xs[i]? = some v) : (intsV xs)[i]? = some (.int .i64 v) := by simp [intsV, h]
theorem snoc_get (l : List Int) (a : Int) : (l ++ [a])[l.length]? = some a := by simp
/-- reads within an owned slice of numbers -/
theorem Own.at {w : World} {B : Nat} {o : Option Addr} {n c : Nat} {xs : List Int} (h : Own w B 3 1 o n c (intsV xs)) {i : Nat} {v : Int} (hi : xs[i]? = some v) : ∃ a, o = some a ∧ w.cell? (a.add ((i : Int).toNat * 1)) = some (.int .i64 v) := by
  have hil : i < xs.length := by
    rcases Nat.lt_or_ge i xs.length with h | h
    · exact h
    · rw [List.getElem?_eq_none h] at hi; cases hi
  obtain ⟨a, ha, hc⟩ := h.nums.get hil
  rw [List.getElem?_eq_getElem hil] at hi
  cases hi
  exact ⟨a, ha, hc⟩
theorem qs_at {w : World} {A : Nat → Prop} {o : Option Addr} {qs : List Qst} (h : Qs w A o qs) {i : Nat} {q : Qst} (hi : qs[i]? = some q) :
    i < qs.length ∧ ∃ a oi ci, o = some a ∧ w.cell? (a.add ((i : Int).toNat * 2)) = some (.string q.text) ∧ w.cell? ((a.add ((i : Int).toNat * 2)).add 1) = some (.slice oi q.ans.length ci) ∧ A a.block ∧ Recs w A oi 4 (q.ans.map encA) := by
  refine ⟨?_, ?_⟩
  · rcases Nat.lt_or_ge i qs.length with h | h
    · exact h
    · rw [List.getElem?_eq_none h] at hi; cases hi
  · obtain ⟨a, oi, ci, ha, h0, h1, h2, h3⟩ := h i q hi
    exact ⟨a, oi, ci, ha, h1, h2, h0, h3⟩
theorem ans_at {w : World} {A : Nat → Prop} {o : Option Addr} {bs : List Ans} (h : Recs w A o 4 (bs.map encA)) {i : Nat} {x : Ans} (hi : bs[i]? = some x) :
    i < bs.length ∧ ∃ a, o = some a ∧ A a.block ∧ w.cell? (a.add ((i : Int).toNat * 4)) = some (.string x.text) ∧ w.cell? ((a.add ((i : Int).toNat * 4)).add 1) = some (.int .i64 x.next) ∧ w.cell? ((a.add ((i : Int).toNat * 4)).add 2) = some (.int .i64 x.urg) ∧ w.cell? ((a.add ((i : Int).toNat * 4)).add 3) = some (.string x.code) := by
  have hil : i < bs.length := by
    rcases Nat.lt_or_ge i bs.length with h | h
    · exact h
    · rw [List.getElem?_eq_none h] at hi; cases hi
  obtain ⟨a, ha, hA, hc⟩ := h i (encA x) (by rw [List.getElem?_map, hi]; rfl)
  refine ⟨hil, a, ha, hA, ?_, hc 1 _ rfl, hc 2 _ rfl, hc 3 _ rfl⟩
  have := hc 0 _ rfl
  rwa [add_zero] at this
theorem kept_addr {S : Nat → Prop} {w w' : World} {a : Addr} {n : Nat} (h : Only S w w') (hb : a.block < hs w) (hn : ¬ S a.block) : Kept w w' a n := fun i _ => by
  have hb' : (a.add i).block = a.block := block_add1 a i
  unfold World.cell?
  rw [hb', h.block _ hb hn]

theorem protocol_c {w : World} {B t : Nat} {p : Prot} {said path : List Int} {cur : Int} (h : Iv w B t p said path cur) :
    Calls Try.prog 78 #[.pointer (some ⟨t, 0, none⟩)] w fun e w' => e = .returned (.tuple #[.string p.name, .int .i64 p.version]) ∧ Grow w w' := by
  obtain ⟨qo, qc, so, sc, po, pc, r, h2, h3, h4, h5, h6⟩ := h
  refine nf78 t w _ fun w1 e1 => ?_
  have g1 : Grow w w1 := only_drew e1
  have r1 := r.grow g1
  exact ⟨_, r1.cell rfl, _, r1.cell rfl, rfl, g1⟩
theorem answers_c {w : World} {B t : Nat} {p : Prot} {said path : List Int} {cur : Int} (h : Iv w B t p said path cur) (hl : said.length ≤ 1000) :
    Calls Try.prog 37 #[.pointer (some ⟨t, 0, none⟩)] w fun e w' => ∃ o c, e = .returned (.slice o said.length c) ∧ Own w' (hs w) 3 1 o said.length c (intsV said) ∧ Grow w w' := by
  obtain ⟨qo, qc, so, sc, po, pc, r, h2, h3, h4, h5, h6⟩ := h
  refine nf37 t w _ ⟨_, _, _, r.cell rfl, (clone_c hl h4.nums).mono ?_⟩
  rintro _ w1 ⟨o, c, rfl, own, g⟩
  exact ⟨_, _, _, rfl, o, c, rfl, own, g⟩
def emp : ByteArray := ByteArray.mk #[]
set_option maxHeartbeats 1000000 in
theorem result_c {w : World} {B t : Nat} {p : Prot} {said path : List Int} {cur : Int} {last : Ans} (hv : validB p = true) (h : Iv w B t p said path cur) (ht : Talk p.qs said path cur last) (hl : said.length ≤ 1000) :
    Calls Try.prog 29 #[.pointer (some ⟨t, 0, none⟩)] w fun e w' => ((0 ≤ cur ∧ e = .returned (.tuple #[.int .i64 0, .string emp, .bool false])) ∨ (cur = -1 ∧ e = .returned (.tuple #[.int .i64 last.urg, .string last.code, .bool true]))) ∧ Grow w w' := by
  have hb := ht.bound hv
  obtain ⟨qo, qc, so, sc, po, pc, r, h2, h3, h4, h5, h6⟩ := h
  refine nf29 t w _ ⟨_, r.cell rfl, fun h1 => ⟨.inl ⟨by have := nT h1; omega, rfl⟩, Only.refl _ _⟩, fun h1 => ?_⟩
  have h1 := nF h1
  cases ht with
  | nil => omega
  | @snoc l pa cur' a' last' _ q ht h0 hq ha hx =>
    have hpl := ht.len
    have el : (l ++ [a']).length = l.length + 1 := by simp
    rw [el] at hl
    have ew : IntKind.wrap .i64 (((l ++ [a']).length : Nat) - 1 : Int) = (l.length : Int) := by rw [el, wr (by omega)]; omega
    obtain ⟨i, rfl⟩ : ∃ i : Nat, cur' = (i : Int) := ⟨cur'.toNat, by omega⟩
    obtain ⟨j, rfl⟩ : ∃ j : Nat, a' = (j : Int) := ⟨a'.toNat, by omega⟩
    rw [toNat_cast] at hq hx
    refine ⟨_, _, _, r.cell rfl, fun w1 e1 => ?_⟩
    have g1 : Grow w w1 := only_drew e1
    have r1 := r.grow g1
    obtain ⟨ap, hap, hcp⟩ := Own.at (h5.grow g1) (i := l.length) (v := (i : Int)) (by rw [← hpl]; exact snoc_get _ _)
    obtain ⟨as', has, hcs⟩ := Own.at (h4.grow g1) (i := l.length) (v := (j : Int)) (snoc_get _ _)
    obtain ⟨hin, aq, oi, ci, haq, -, hcq, hAq, hR⟩ := qs_at (h3.grow g1) hq
    obtain ⟨hjn, aa, haa, hAa, d0, d1, d2, d3⟩ := ans_at hR hx
    have hbp := h5.base ap.block ⟨_, hap, rfl⟩
    have hbs := h4.base as'.block ⟨_, has, rfl⟩
    have htl := r.lt
    have h1s := g1.size
    rw [ew]
    refine ⟨_, _, _, r1.cell rfl, _, _, _, r1.cell rfl, ap, hap, ⟨by omega, by simp [hpl]; omega⟩, _, hcp, aq, haq, ⟨by omega, by omega⟩, _, _, _, hcq, _, _, _, r1.cell rfl, as', has, ⟨by omega, by rw [el]; omega⟩, _, hcs, aa, haa, ⟨by omega, by omega⟩, _, d0, _, d1, _, d2, _, d3, fun w2 e2 => ?_⟩
    have g2 : Grow w1 w2 := only_alloc e2
    refine ⟨kept_addr g2 (by rw [block_add1]; omega) (fun h => h), kept_addr g2 (by rw [block_add1]; omega) (fun h => h), kept_only g2 r1.lt (fun h => h), kept_addr g2 (by rw [block_add2]; omega) (fun h => h), kept_addr g2 (by rw [block_add1]; omega) (fun h => h), kept_only g2 r1.lt (fun h => h), kept_only g2 r1.lt (fun h => h), (Row.new e2).there (by simp), fun w3 e3 w4 e4 => ?_⟩
    obtain ⟨r3, g3⟩ := loc e2 e3 rfl
    have g4 : Grow w3 w4 := only_drew e4
    have r4 := r3.grow g4
    exact ⟨_, r4.cell rfl, _, r4.cell rfl, .inr ⟨h1, rfl⟩, (g1.trans' g3).trans' g4⟩
set_option maxHeartbeats 1000000 in
theorem question14_c {w : World} {B t : Nat} {p : Prot} {said path : List Int} {cur : Int} {last : Ans} (hv : validB p = true) (h : Iv w B t p said path cur) (ht : Talk p.qs said path cur last) :
    Calls Try.prog 28 #[.pointer (some ⟨t, 0, none⟩)] w fun e w' => ((cur = -1 ∧ e = .returned (.tuple #[.agg #[.string emp, .slice none 0 0], .bool false])) ∨ (0 ≤ cur ∧ ∃ q o c, p.qs[cur.toNat]? = some q ∧ e = .returned (.tuple #[.agg #[.string q.text, .slice o q.ans.length c], .bool true]) ∧ Own w' (hs w) 58 4 o q.ans.length c (q.ans.flatMap encA))) ∧ Grow w w' := by
  have hb := ht.bound hv
  have V := valid_of hv
  obtain ⟨qo, qc, so, sc, po, pc, r, h2, h3, h4, h5, h6⟩ := h
  refine nf28 t w _ fun w1 e1 => ?_
  have r1 := Row.new e1
  have g1 : Grow w w1 := only_alloc e1
  refine ⟨_, (r.grow g1).cell rfl, fun h1 => ⟨r1.there (by simp), fun w2 e2 => ?_⟩, fun h1 w2 e2 => ?_⟩
  · obtain ⟨r2, g2⟩ := loc e1 e2 rfl
    exact ⟨_, r2.cell rfl, _, _, _, r2.cell rfl, .inl ⟨dT h1, rfl⟩, g2⟩
  · have h1 := dF h1
    obtain ⟨i, rfl⟩ : ∃ i : Nat, cur = (i : Int) := ⟨cur.toNat, by omega⟩
    have g12 : Grow w1 w2 := only_drew e2
    have g2 := g1.trans' g12
    have rt := r.grow g2
    have hin : i < p.qs.length := by omega
    obtain ⟨-, a, oi, ci, ha, c0, c1, -, hR⟩ := qs_at (h3.grow g2) (List.getElem?_eq_getElem hin)
    have hans := V.ans _ (List.getElem_mem hin)
    refine ⟨_, _, _, rt.cell rfl, _, rt.cell rfl, a, ha, ⟨by omega, by omega⟩, _, c0, _, _, _, c1, (copyQuestion_c (by omega) hR).mono ?_⟩
    rintro _ w3 ⟨o3, c3, rfl, own3, g3⟩
    have r3 := (r1.grow g12).grow g3
    refine ⟨_, _, _, _, rfl, r3.there (by simp), fun w4 e4 => ?_⟩
    have r4 := r3.set e4
    have g4 : Only (fun b => b = hs w) w3 w4 := only_set e4
    have h2s := g2.size
    have h1s : hs w < hs w1 := r1.lt
    have h12s := g12.size
    refine ⟨_, r4.cell rfl, _, _, _, r4.cell rfl, .inr ⟨by omega, _, _, _, by rw [toNat_cast]; exact List.getElem?_eq_getElem hin, rfl, (own3.mono h2s).keep g4 fun b hb e => ?_⟩, (g2.trans' g3).trans g4 fun b hb e => by omega⟩
    have := (own3.base b hb).1
    omega
theorem urg_c {w : World} {B t : Nat} {p : Prot} {said path : List Int} {cur : Int} {last : Ans} (hv : validB p = true) (h : Iv w B t p said path cur) (ht : Talk p.qs said path cur last) (hl : said.length ≤ 1000) :
    Calls Try.prog 27 #[.pointer (some ⟨t, 0, none⟩)] w fun e w' => ∃ lo hi, e = .returned (.tuple #[.int .i64 lo, .int .i64 hi]) ∧ ((0 ≤ cur ∧ IsRange p cur lo hi) ∨ (cur = -1 ∧ lo = last.urg ∧ hi = last.urg)) ∧ Grow w w' := by
  have V := valid_of hv
  have htop := V.top
  refine nf27 t w _ ((result_c hv h ht hl).mono ?_)
  rintro _ w1 ⟨⟨h0, rfl⟩ | ⟨h0, rfl⟩, g1⟩
  · refine ⟨_, _, _, rfl, fun hb => (by cases hb), fun _ w2 e2 => ?_⟩
    have g12 : Grow w1 w2 := only_drew e2
    have g2 := g1.trans' g12
    obtain ⟨qo, qc, so, sc, po, pc, r, h2, h3, h4, h5, h6⟩ := h.grow g2
    refine ⟨_, r.cell rfl, _, r.cell rfl, _, _, _, r.cell rfl, _, r.cell rfl, (urgencyRange_c qo qc p cur (by omega) w2 h3).mono ?_⟩
    rintro _ w3 ⟨lo, hi, rfl, hR, g3⟩
    exact ⟨_, _, rfl, _, _, rfl, .inl ⟨h0, hR⟩, g2.trans' g3⟩
  · exact ⟨_, _, _, rfl, fun _ => ⟨_, _, rfl, .inr ⟨h0, rfl, rfl⟩, g1⟩, fun hb => (by cases hb)⟩
/-- the errno of an answer -/
def sayE (qs : List Qst) (cur a : Int) : Int := if cur < 0 then 8 else if a < 0 then 1 else match qs[cur.toNat]? with
  | some q => if a < q.ans.length then 0 else 1
  | none => 1
theorem sayE_ok {qs : List Qst} {l pa : List Int} {cur a : Int} {last : Ans} (ht : Talk qs l pa cur last) (h : sayE qs cur a = 0) : ∃ q x, 0 ≤ cur ∧ qs[cur.toNat]? = some q ∧ 0 ≤ a ∧ q.ans[a.toNat]? = some x ∧ Talk qs (l ++ [a]) (pa ++ [cur]) x.next x := by
  unfold sayE at h
  split at h
  · cases h
  split at h
  · cases h
  cases hq : qs[cur.toNat]? with
  | none => rw [hq] at h; cases h
  | some q =>
    rw [hq] at h
    by_cases ha : a < q.ans.length
    · have hx : q.ans[a.toNat]? = some (q.ans[a.toNat]'(by omega)) := List.getElem?_eq_getElem (by omega)
      exact ⟨q, _, by omega, rfl, by omega, hx, .snoc ht (by omega) hq (by omega) hx⟩
    · simp only [ha, if_false] at h; cases h
end Go.Proofs.Ytbaacpfjecbbgaa
