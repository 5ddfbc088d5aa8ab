/- Answer, Undo, Replay. -/
import Derived.Test.YtbaacpfjecbbgaaHn
namespace Go.Proofs.Ytbaacpfjecbbgaa
open Go Go.Nf

/-- .. whose blocks that may still be written lie in M -/
def Ivm (w : World) (B t : Nat) (p : Prot) (said path : List Int) (cur : Int) (M : Nat → Prop) : Prop :=
  ∃ qo qc so sc po pc, Row w t 106 [.string p.name, .int .i64 p.version, .slice qo p.qs.length qc, .slice so said.length sc, .slice po path.length pc, .int .i64 cur] ∧ B ≤ t ∧
    Qs w (fun b => B ≤ b ∧ b < t) qo p.qs ∧ Own w (t + 1) 3 1 so said.length sc (intsV said) ∧ Own w (t + 1) 3 1 po path.length pc (intsV path) ∧ (∀ b, inBlock so b → ¬ inBlock po b) ∧
    ∀ b, b = t ∨ inBlock so b ∨ inBlock po b → M b
theorem Ivm.iv {w : World} {B t : Nat} {p : Prot} {said path : List Int} {cur : Int} {M : Nat → Prop} (h : Ivm w B t p said path cur M) : Iv w B t p said path cur := by
  obtain ⟨qo, qc, so, sc, po, pc, h1, h2, h3, h4, h5, h6, -⟩ := h
  exact ⟨qo, qc, so, sc, po, pc, h1, h2, h3, h4, h5, h6⟩
theorem Iv.m {w : World} {B t : Nat} {p : Prot} {said path : List Int} {cur : Int} (h : Iv w B t p said path cur) : Ivm w B t p said path cur (fun b => B ≤ b ∧ b < hs w) := by
  obtain ⟨qo, qc, so, sc, po, pc, h1, h2, h3, h4, h5, h6⟩ := h
  refine ⟨qo, qc, so, sc, po, pc, h1, h2, h3, h4, h5, h6, fun b hb => ?_⟩
  rcases hb with rfl | hb | hb
  · exact ⟨h2, h1.lt⟩
  · have := h4.base b hb; exact ⟨by omega, this.2⟩
  · have := h5.base b hb; exact ⟨by omega, this.2⟩
theorem Ivm.mono {w : World} {B t : Nat} {p : Prot} {said path : List Int} {cur : Int} {M M' : Nat → Prop} (h : Ivm w B t p said path cur M) (hM : ∀ b, M b → M' b) : Ivm w B t p said path cur M' := by
  obtain ⟨qo, qc, so, sc, po, pc, h1, h2, h3, h4, h5, h6, h7⟩ := h
  exact ⟨qo, qc, so, sc, po, pc, h1, h2, h3, h4, h5, h6, fun b hb => hM b (h7 b hb)⟩
theorem Ivm.keep {S : Nat → Prop} {w w' : World} {B t : Nat} {p : Prot} {said path : List Int} {cur : Int} {M : Nat → Prop} (h : Ivm w B t p said path cur M) (g : Only S w w') (hS : ∀ b, M b → ¬ S b) (hB : ∀ b, B ≤ b → b < t → ¬ S b) : Ivm w' B t p said path cur M := by
  obtain ⟨qo, qc, so, sc, po, pc, h1, h2, h3, h4, h5, h6, h7⟩ := h
  exact ⟨qo, qc, so, sc, po, pc, h1.keep g (hS t (h7 t (.inl rfl))), h2, h3.keep g fun b hb => hB b hb.1 hb.2, h4.keep g fun b hb => hS b (h7 b (.inr (.inl hb))), h5.keep g fun b hb => hS b (h7 b (.inr (.inr hb))), h6, h7⟩
theorem Ivm.grow {w w' : World} {B t : Nat} {p : Prot} {said path : List Int} {cur : Int} {M : Nat → Prop} (h : Ivm w B t p said path cur M) (g : Grow w w') : Ivm w' B t p said path cur M := h.keep g (fun _ _ h => h) (fun _ _ _ h => h)

theorem push_where {w w1 : World} {B : Nat} {o : Option Addr} {n c : Nat} {xs : List Int} {x : Int} {K : Value → World → Prop} (h : Own w B 3 1 o n c (intsV xs)) (e : w1 = w.alloc (.cells #[.int .i64 x] 3 (0, 0))) (hn : n ≤ 1000000) (hB : B ≤ hs w)
    (hK : ∀ o' c' w', Own w' B 3 1 o' (n + 1) c' (intsV (xs ++ [x])) → Only (inBlock o) w w' → (∀ b, inBlock o' b → inBlock o b ∨ hs w ≤ b) → K (.slice o' (n + 1) c') w') :
    RunOk Try.prog (Hold (Builtin.append_ #[48, 48] 48 #[.slice o n c, .slice (some ⟨hs w, 0, none⟩) 1 1])) w1 K := by
  obtain ⟨v, w', hrun, o', c', rfl, h1, h2⟩ := push_int (K := fun v w' => ∃ o' c', v = .slice o' (n + 1) c' ∧ Own w' B 3 1 o' (n + 1) c' (intsV (xs ++ [x])) ∧ Only (inBlock o) w w') h e hn hB fun o' c' w' p1 p2 => ⟨o', c', rfl, p1, p2⟩
  refine ⟨_, _, hrun, hK o' c' w' h1 h2 ?_⟩
  have hr : Row w1 (hs w) 3 [.int .i64 x] := Row.new e
  have hs1 : w1.heap.size = hs w + 1 := hs_alloc e
  have own1 := h.grow (only_alloc (S := none') e)
  obtain ⟨i, z, ht, hi, hz, hsize, hby, hzs, hsz⟩ := elem48.ex
  have hnews : ∀ j u, [Value.int .i64 x][j]? = some u → w1.cell? ((⟨hs w, 0, none⟩ : Addr).add j) = some u := fun j u hu => hr.cellAdd hu
  have fresh : ∀ c'' w'', (Hold (Builtin.append_ #[48, 48] 48 #[.slice o n c, .slice (some ⟨hs w, 0, none⟩) 1 1])).run Try.prog w1 = .ok (.slice (some ⟨w1.heap.size, 0, none⟩) (n + 1) c'') w'' → ∀ b, inBlock o' b → inBlock o b ∨ hs w ≤ b := fun c'' w'' hr' b hb => by
    rw [hrun] at hr'
    injection hr' with e1 e2
    simp only [Value.slice.injEq] at e1
    obtain ⟨a, ha, rfl⟩ := hb
    rw [e1.1] at ha
    cases ha
    exact .inr (by show hs w ≤ w1.heap.size; omega)
  rcases own1.2 with ⟨e1, e2⟩ | ⟨g, cap, cur, e1, hb, hg, hnc, hcm, hcs, ht'⟩
  · simp only [Value.slice.injEq] at e1
    obtain ⟨rfl, -, rfl⟩ := e1
    subst e2
    refine fresh _ _ (by rw [Nat.zero_add]; exact run_append_nil (P := Try.prog) w1 48 48 3 i z ht hi hz ⟨hs w, 0, none⟩ 1 1 _ (by rw [hsize]; rfl) hnews (by omega) (by omega) (by rw [hby]; omega))
  · simp only [Value.slice.injEq] at e1
    obtain ⟨rfl, -, rfl⟩ := e1
    by_cases hroom : n + 1 ≤ c
    · have run := run_append_room (P := Try.prog) w1 48 48 3 i ht hi g n c cur hg ⟨hs w, 0, none⟩ 1 1 _ (by rw [hsize]; rfl) hnews (by simp [Value.oneCell']) hroom (by rw [hsize]; simp; omega)
      have hrun' : (Builtin.append_ #[48, 48] 48 #[.slice (some ⟨g, 0, none⟩) n c, .slice (some ⟨hs w, 0, none⟩) 1 1]).run Try.prog w1 = .ok (.slice o' (n + 1) c') w' := hrun
      rw [hrun'] at run
      injection run with e1 e2
      simp only [Value.slice.injEq] at e1
      rw [e1.1]
      exact fun b hb => .inl hb
    · have holds : ∀ j u, (intsV xs)[j]? = some u → w1.cell? ((⟨g, 0, none⟩ : Addr).add j) = some u := fun j u hu => own1.cell hu
      exact fresh _ _ (run_append_grow (P := Try.prog) w1 48 48 3 i z ht hi hz ⟨g, 0, none⟩ n c (intsV xs) (by rw [hsize]; exact own1.1) holds ⟨hs w, 0, none⟩ 1 1 _ (by rw [hsize]; rfl) hnews (by omega) (by omega) (by rw [hby]; exact growslice_fits (by omega) (by omega)))

set_option maxHeartbeats 2000000 in
theorem answer_m {w : World} {B t : Nat} {p : Prot} {said path : List Int} {cur : Int} {last : Ans} {M : Nat → Prop} (hv : validB p = true) (h : Ivm w B t p said path cur M) (ht : Talk p.qs said path cur last) (hl : said.length ≤ 1000) (a : Int) :
    Calls Try.prog 30 #[.pointer (some ⟨t, 0, none⟩), .int .i64 a] w fun e w' => e = .returned (.int .i64 (sayE p.qs cur a)) ∧ Only M w w' ∧
      ((sayE p.qs cur a ≠ 0 ∧ Ivm w' B t p said path cur M) ∨ (sayE p.qs cur a = 0 ∧ ∃ x, Talk p.qs (said ++ [a]) (path ++ [cur]) x.next x ∧ Ivm w' B t p (said ++ [a]) (path ++ [cur]) x.next (fun b => M b ∨ (hs w ≤ b ∧ b < hs w')))) := by
  have hb := ht.bound hv
  have hpl := ht.len
  have V := valid_of hv
  have hI := h
  obtain ⟨qo, qc, so, sc, po, pc, r, h2, h3, h4, h5, h6, h7⟩ := h
  refine nf30 t a w _ ⟨_, r.cell rfl, fun h1 => ?_, fun h1 w1 e1 => ?_⟩
  · have h1 := dT h1
    have : sayE p.qs cur a = 8 := if_pos (by omega)
    exact ⟨by rw [this], Only.refl _ _, .inl ⟨by omega, hI⟩⟩
  · have h1 := dF h1
    obtain ⟨i, rfl⟩ : ∃ i : Nat, cur = (i : Int) := ⟨cur.toNat, by omega⟩
    have hin : i < p.qs.length := by omega
    have g1 : Grow w w1 := only_drew e1
    have r1 := r.grow g1
    have hq : p.qs[i]? = some p.qs[i] := List.getElem?_eq_getElem hin
    have hsay : sayE p.qs (i : Int) a = if a < 0 then 1 else if a < p.qs[i].ans.length then 0 else 1 := by
      unfold sayE
      rw [if_neg (by omega), toNat_cast, hq]
    obtain ⟨-, aq, oi, ci, haq, c0, c1, hAq, hR⟩ := qs_at (h3.grow g1) hq
    refine ⟨_, _, _, r1.cell rfl, _, r1.cell rfl, aq, haq, ⟨by omega, by omega⟩, _, _, _, c1, fun h2' => ?_, fun h2' => ⟨fun h3' => ?_, fun h3' w2 e2 => ?_⟩⟩
    · have : sayE p.qs (i : Int) a = 1 := by rw [hsay, if_pos (dT h2')]
      exact ⟨by rw [this], Grow.only g1, .inl ⟨by omega, hI.grow g1⟩⟩
    · have h2' := dF h2'
      have h3' := dT h3'
      have : sayE p.qs (i : Int) a = 1 := by rw [hsay, if_neg h2', if_neg (by omega)]
      exact ⟨by rw [this], Grow.only g1, .inl ⟨by omega, hI.grow g1⟩⟩
    · have h2' := dF h2'
      have h3' := dF h3'
      have hs0 : sayE p.qs (i : Int) a = 0 := by rw [hsay, if_neg h2', if_pos (by omega)]
      obtain ⟨j, rfl⟩ : ∃ j : Nat, a = (j : Int) := ⟨a.toNat, by omega⟩
      have hjn : j < p.qs[i].ans.length := by omega
      obtain ⟨x, hx⟩ : ∃ x, p.qs[i].ans[j]? = some x := ⟨_, List.getElem?_eq_getElem hjn⟩
      have g12 : Grow w1 w2 := only_drew e2
      have g2 := g1.trans' g12
      have r2 := r.grow g2
      have hd := (ans_at (hR.grow g12) hx).2
      obtain ⟨aa, haa, hAa, d0, d1, d2, d3⟩ := hd
      refine ⟨_, _, _, r2.cell rfl, _, r2.cell rfl, fun w3 e3 => ⟨kept_only (only_alloc e3 : Grow w2 w3) r2.lt (fun h => h), ?_⟩⟩
      have own2 := h5.grow g2
      have hb2 := r2.lt
      refine push_where own2 e3 (by omega) (by omega) fun o4 c4 w4 p1 p2 p3 => ⟨_, _, _, rfl, ?_⟩
      have r4 := r2.keep p2 fun hh => by have := (own2.base _ hh).1; omega
      refine ⟨r4.there (by simp), fun w5 e5 => ?_⟩
      have r5 : Row w5 t 106 [.string p.name, .int .i64 p.version, .slice qo p.qs.length qc, .slice so said.length sc, .slice o4 (path.length + 1) c4, .int .i64 (i : Int)] := r4.set e5
      have g5 : Only (fun b => b = t) w4 w5 := only_set e5
      have hso : ∀ b, inBlock so b → t < b ∧ b < hs w := fun b hb => by have := h4.base b hb; omega
      have hpo : ∀ b, inBlock po b → t < b ∧ b < hs w := fun b hb => by have := h5.base b hb; omega
      have own5 : Own w5 (t + 1) 3 1 so said.length sc (intsV said) := ((h4.grow g2).keep p2 h6).keep g5 fun b hb e => by have := hso b hb; omega
      have path5 : Own w5 (t + 1) 3 1 o4 (path.length + 1) c4 (intsV (path ++ [(i : Int)])) := p1.keep g5 fun b hb e => by have := (p1.base b hb).1; omega
      refine ⟨_, _, _, r5.cell rfl, fun w6 e6 => push_where own5 e6 (by omega) (by have := r5.lt; omega) fun o7 c7 w7 q1 q2 q3 => ⟨_, _, _, rfl, ?_⟩⟩
      have r7 := r5.keep q2 fun hh => by have := hso _ hh; omega
      refine ⟨r7.there (by simp), fun w8 e8 => ?_⟩
      have r8 : Row w8 t 106 [.string p.name, .int .i64 p.version, .slice qo p.qs.length qc, .slice o7 (said.length + 1) c7, .slice o4 (path.length + 1) c4, .int .i64 (i : Int)] := r7.set e8
      have g8 : Only (fun b => b = t) w7 w8 := only_set e8
      -- where the new blocks lie
      have G4 : Only (fun b => b = t ∨ inBlock so b ∨ inBlock po b) w w4 := (Grow.only (S := fun b => b = t ∨ inBlock so b ∨ inBlock po b) g2).trans p2 fun b hb hh => .inr (.inr hh)
      have G5 := G4.trans g5 fun b hb e => .inl e
      have G7 := G5.trans q2 fun b hb hh => .inr (.inl hh)
      have G8 := G7.trans g8 fun b hb e => .inl e
      have hcell : w8.cell? ((aa.add ((j : Int).toNat * 4)).add 1) = some (.int .i64 x.next) := by
        have k4 : w4.cell? ((aa.add ((j : Int).toNat * 4)).add 1) = some (.int .i64 x.next) := cell_keep p2 (fun hh => by rw [block_add2] at hh; have := hpo _ hh; omega) d1
        have k5 := cell_keep g5 (fun hh => by rw [block_add2] at hh; omega) k4
        have k7 := cell_keep q2 (fun hh => by rw [block_add2] at hh; have := hso _ hh; omega) k5
        exact cell_keep g8 (fun hh => by rw [block_add2] at hh; omega) k7
      refine ⟨aa, haa, ⟨by omega, by omega⟩, _, hcell, r8.there (by simp), fun w9 e9 => ?_⟩
      have g9 : Only (fun b => b = t) w8 w9 := only_set e9
      have G9 := G8.trans g9 fun b hb e => .inl e
      have hs2 := g2.size
      have hs4 := p2.size
      have hs5 := g5.size
      have hs7 := q2.size
      have hs8 := g8.size
      have hs9 := g9.size
      have own9 : Own w9 (t + 1) 3 1 o7 (said.length + 1) c7 (intsV (said ++ [(j : Int)])) := (q1.keep g8 fun b hb e => by have := (q1.base b hb).1; omega).keep g9 fun b hb e => by have := (q1.base b hb).1; omega
      -- the path's new slice lies in its old block or above, ahead of what came after it
      have hp4 : ∀ b, inBlock o4 b → b < hs w4 := fun b hb => (p1.base b hb).2
      have path7 := path5.keep q2 fun b hb hh => by
        rcases p3 b hb with h' | h'
        · exact h6 b hh h'
        · have := hso b hh; omega
      have path9 : Own w9 (t + 1) 3 1 o4 (path.length + 1) c4 (intsV (path ++ [(i : Int)])) := (path7.keep g8 fun b hb e => by have := (path7.base b hb).1; omega).keep g9 fun b hb e => by have := (path7.base b hb).1; omega
      have es : said.length + 1 = (said ++ [(j : Int)]).length := by simp
      have ep : path.length + 1 = (path ++ [(i : Int)]).length := by simp
      have r9' : Row w9 t 106 [.string p.name, .int .i64 p.version, .slice qo p.qs.length qc, .slice o7 (said.length + 1) c7, .slice o4 (path.length + 1) c4, .int .i64 x.next] := r8.set e9
      rw [es] at own9
      rw [ep] at path9
      rw [es, ep] at r9'
      refine ⟨by rw [hs0], G9.mono fun b _ hb => h7 b hb, .inr ⟨hs0, x, .snoc ht (by omega) (by rw [toNat_cast]; exact hq) (by omega) (by rw [toNat_cast]; exact hx), qo, qc, o7, c7, o4, c4, r9', h2, ?_, own9, path9, fun b hb hh => ?_, fun b hb => ?_⟩⟩
      · refine h3.keep G9 fun b hb hm => ?_
        rcases hm with e | hm | hm
        · omega
        · have := hso b hm; omega
        · have := hpo b hm; omega
      · rcases q3 b hb with h' | h'
        · rcases p3 b hh with k' | k'
          · exact h6 b h' k'
          · have := hso b h'; omega
        · have := hp4 b hh; omega
      · have hb9 : ∀ b, inBlock o7 b → b < hs w7 := fun b hb => (q1.base b hb).2
        rcases hb with rfl | hb | hb
        · exact .inl (h7 _ (.inl rfl))
        · rcases q3 b hb with h' | h'
          · exact .inl (h7 _ (.inr (.inl h')))
          · have := hb9 b hb; exact .inr ⟨by omega, by omega⟩
        · rcases p3 b hb with h' | h'
          · exact .inl (h7 _ (.inr (.inr h')))
          · have := hp4 b hb; exact .inr ⟨by omega, by omega⟩
theorem Iv.mono {w : World} {B B' t : Nat} {p : Prot} {said path : List Int} {cur : Int} (h : Iv w B t p said path cur) (hB : B' ≤ B) : Iv w B' t p said path cur := by
  obtain ⟨qo, qc, so, sc, po, pc, h1, h2, h3, h4, h5, h6⟩ := h
  exact ⟨qo, qc, so, sc, po, pc, h1, by omega, h3.mono fun b hb => ⟨by omega, hb.2⟩, h4, h5, h6⟩
theorem Own.take {w : World} {B T : Nat} {o : Option Addr} {n c : Nat} {xs : List Int} (h : Own w B T 1 o n c (intsV xs)) (i : Nat) (hi : i ≤ n) : Own w B T 1 o i c (intsV (xs.take i)) := by
  have hl := own_len h
  obtain ⟨h1, ⟨e, h2⟩ | ⟨g, cap, cur, hv, hb, hg, hnc, hm, hcs, ht⟩⟩ := h
  · subst h2
    obtain rfl : i = 0 := by omega
    simp only [Value.slice.injEq] at e
    refine ⟨by simp [intsV], .inl ⟨by rw [e.1, e.2.2], rfl⟩⟩
  · simp only [Value.slice.injEq] at hv
    obtain ⟨rfl, -, rfl⟩ := hv
    refine ⟨by simp [intsV]; omega, .inr ⟨g, c, cur, rfl, hb, hg, by omega, hm, hcs, ?_⟩⟩
    have : (cur.toList.take (n * 1)).take (i * 1) = (intsV xs).take i := by rw [ht, Nat.mul_one]
    rw [List.take_take, Nat.mul_one, Nat.mul_one, Nat.min_eq_left hi] at this
    rw [Nat.mul_one, this]
    simp [intsV, List.map_take]
set_option maxHeartbeats 1000000 in
theorem undo_m {w : World} {B t : Nat} {p : Prot} {said path : List Int} {cur : Int} {last : Ans} {M : Nat → Prop} (h : Ivm w B t p said path cur M) (ht : Talk p.qs said path cur last) (hl : said.length ≤ 1000) :
    Calls Try.prog 33 #[.pointer (some ⟨t, 0, none⟩)] w fun e w' => Only M w w' ∧
      ((said = [] ∧ e = .returned (.int .i64 8) ∧ Ivm w' B t p said path cur M) ∨ (said ≠ [] ∧ e = .returned (.int .i64 0) ∧ ∃ path' cur' last', Talk p.qs (said.take (said.length - 1)) path' cur' last' ∧ Ivm w' B t p (said.take (said.length - 1)) path' cur' M)) := by
  have hI := h
  obtain ⟨qo, qc, so, sc, po, pc, r, h2, h3, h4, h5, h6, h7⟩ := h
  refine nf33 t w _ ⟨_, _, _, r.cell rfl, fun h1 => ?_, fun h1 => ?_⟩
  · have h1 := dT h1
    rw [wr (by omega)] at h1
    exact ⟨Only.refl _ _, .inl ⟨List.length_eq_zero_iff.1 (by omega), rfl, hI⟩⟩
  · have h1 := dF h1
    rw [wr (by omega)] at h1
    cases ht with
    | nil => simp at h1
    | @snoc l pa cur' a' last' _ q ht h0 hq ha hx =>
      have hpl := ht.len
      have el : (l ++ [a']).length = l.length + 1 := by simp
      have ep : (pa ++ [cur']).length = l.length + 1 := by simp [hpl]
      have ew : IntKind.wrap .i64 (((l ++ [a']).length : Nat) - 1 : Int) = (l.length : Int) := by rw [el, wr (by omega)]; omega
      obtain ⟨ap, hap, hcp⟩ := Own.at h5 (i := l.length) (v := cur') (by rw [← hpl]; exact snoc_get _ _)
      have hlc := h4.le
      have hpc := h5.le
      have e4 := Own.take h4 l.length (by omega)
      have e5 := Own.take h5 pa.length (by omega)
      have t4 : (l ++ [a']).take l.length = l := by simp
      have t5 : (pa ++ [cur']).take pa.length = pa := by simp
      rw [t4] at e4
      rw [t5] at e5
      rw [ew, toNat_cast]
      refine ⟨_, _, _, r.cell rfl, ap, hap, ⟨by omega, by omega⟩, _, by rw [toNat_cast] at hcp; exact hcp, r.there (by simp), fun w1 e1 => ?_⟩
      have r1 : Row w1 t 106 [.string p.name, .int .i64 p.version, .slice qo p.qs.length qc, .slice so (l ++ [a']).length sc, .slice po (pa ++ [cur']).length pc, .int .i64 cur'] := r.set e1
      refine ⟨_, _, _, r1.cell rfl, ⟨by omega, by omega⟩, r1.there (by simp), fun w2 e2 => ?_⟩
      have eo : (if pc = 0 then po else Option.map (fun x => x) po) = po := by split <;> cases po <;> rfl
      have eo2 : (if sc = 0 then so else Option.map (fun x => x) so) = so := by split <;> cases so <;> rfl
      rw [eo] at e2
      have r2 : Row w2 t 106 [.string p.name, .int .i64 p.version, .slice qo p.qs.length qc, .slice so (l ++ [a']).length sc, .slice po l.length pc, .int .i64 cur'] := r1.set e2
      refine ⟨_, _, _, r2.cell rfl, ⟨by omega, by omega⟩, r2.there (by simp), fun w3 e3 => ?_⟩
      rw [eo2] at e3
      have r3 : Row w3 t 106 [.string p.name, .int .i64 p.version, .slice qo p.qs.length qc, .slice so l.length sc, .slice po l.length pc, .int .i64 cur'] := r2.set e3
      have g3 : Only (fun b => b = t) w w3 := ((only_set e1).trans' (only_set e2)).trans' (only_set e3)
      have tk : (l ++ [a']).take ((l ++ [a']).length - 1) = l := by rw [el]; simp
      refine ⟨g3.mono fun b _ hb => h7 b (.inl hb), .inr ⟨by simp, rfl, pa, cur', last', by rw [tk]; exact ht, ?_⟩⟩
      rw [tk]
      rw [← hpl] at r3
      refine ⟨qo, qc, so, sc, po, pc, by rw [← hpl]; exact r3, h2, h3.keep g3 fun b hb e => by omega, e4.keep g3 fun b hb e => ?_, e5.keep g3 fun b hb e => ?_, h6, h7⟩
      · have := (h4.base b hb).1; omega
      · have := (h5.base b hb).1; omega
/-- what the replay of answers tells -/
def RepSpec (p : Prot) (said : List Int) (y : Int) : Prop :=
  (∃ x, Ending' p x y ∧ y ≠ 0) ∨
  ((∃ x, Ending' p x 0) ∧ ∃ (i : Nat) (a : Int) (pa : List Int) (cur : Int) (last : Ans), said[i]? = some a ∧ Talk p.qs (said.take i) pa cur last ∧ y = sayE p.qs cur a ∧ y ≠ 0) ∨
  ((∃ x, Ending' p x 0) ∧ (∃ pa cur last, Talk p.qs said pa cur last) ∧ y = 0)
theorem Talk.begins {qs : List Qst} {l pa : List Int} {cur : Int} {last : Ans} (h : Talk qs l pa cur last) : ∀ (i : Nat) a, l[i]? = some a → ∃ pa' cur' last', Talk qs (l.take i) pa' cur' last' ∧ sayE qs cur' a = 0 := by
  induction h with
  | nil => intro i a h; simp at h
  | @snoc l pa cur a' last x q h h0 hq ha hx ih =>
    intro i a hi
    rcases Nat.lt_or_ge i l.length with hl | hl
    · rw [List.getElem?_append_left hl] at hi
      obtain ⟨pa', cur', last', h1, h2⟩ := ih i a hi
      exact ⟨pa', cur', last', by rw [List.take_append_of_le_length (by omega)]; exact h1, h2⟩
    · have e : i = l.length := by
        rcases Nat.lt_or_ge l.length i with h' | h'
        · rw [List.getElem?_eq_none (by simp; omega)] at hi; cases hi
        · omega
      subst e
      rw [snoc_get] at hi
      cases hi
      refine ⟨pa, cur, last, by simpa using h, ?_⟩
      unfold sayE
      rw [if_neg (by omega), if_neg (by omega), hq]
      have : a'.toNat < q.ans.length := by
        rcases Nat.lt_or_ge a'.toNat q.ans.length with h' | h'
        · exact h'
        · rw [List.getElem?_eq_none h'] at hx; cases hx
      show (if a' < (q.ans.length : Int) then (0 : Int) else 1) = 0
      rw [if_pos (by omega)]
theorem repSpec_one {p : Prot} {said : List Int} {y y' : Int} (h : RepSpec p said y) (h' : RepSpec p said y') : y = y' := by
  have bad : ∀ {i i' : Nat} {a a' : Int} {pa pa' : List Int} {cur cur' : Int} {last last' : Ans}, i < i' → said[i]? = some a → Talk p.qs (said.take i) pa cur last → sayE p.qs cur a ≠ 0 → Talk p.qs (said.take i') pa' cur' last' → False := fun {i i' a a' pa pa' cur cur' last last'} hlt ha ht hs ht' => by
    obtain ⟨pa2, cur2, last2, h1, h2⟩ := ht'.begins i a (by rw [List.getElem?_take, if_pos hlt]; exact ha)
    rw [List.take_take, Nat.min_eq_left (by omega)] at h1
    obtain ⟨-, rfl, -⟩ := ht.one h1
    exact hs h2
  have bad2 : ∀ {i : Nat} {a : Int} {pa pa' : List Int} {cur cur' : Int} {last last' : Ans}, said[i]? = some a → Talk p.qs (said.take i) pa cur last → sayE p.qs cur a ≠ 0 → Talk p.qs said pa' cur' last' → False := fun {i a pa pa' cur cur' last last'} ha ht hs ht' => by
    obtain ⟨pa2, cur2, last2, h1, h2⟩ := ht'.begins i a ha
    obtain ⟨-, rfl, -⟩ := ht.one h1
    exact hs h2
  rcases h with ⟨x, hE, hy⟩ | ⟨⟨x, hE⟩, i, a, pa, cur, last, h1, h2, rfl, h4⟩ | ⟨⟨x, hE⟩, ⟨pa, cur, last, h2⟩, rfl⟩ <;>
  rcases h' with ⟨x', hE', hy'⟩ | ⟨⟨x', hE'⟩, i', a', pa', cur', last', h1', h2', rfl, h4'⟩ | ⟨⟨x', hE'⟩, ⟨pa', cur', last', h2'⟩, rfl⟩
  · exact (ending_one hE hE').2
  · exact absurd (ending_one hE hE').2 hy
  · exact absurd (ending_one hE hE').2 hy
  · exact absurd (ending_one hE' hE).2 hy'
  · rcases Nat.lt_trichotomy i i' with hi | rfl | hi
    · exact (bad (a' := 0) hi h1 h2 h4 h2').elim
    · rw [h1] at h1'
      cases h1'
      obtain ⟨-, rfl, -⟩ := h2.one h2'
      rfl
    · exact (bad (a' := 0) hi h1' h2' h4' h2).elim
  · exact (bad2 h1 h2 h4 h2').elim
  · exact absurd (ending_one hE' hE).2 hy'
  · exact (bad2 h1' h2' h4' h2).elim
  · rfl
theorem ending_valid {p : Prot} {x : Int} (h : Ending' p x 0) : validB p = true := by
  rcases h with ⟨-, -, h⟩ | ⟨h, -⟩ | ⟨h, -⟩ | ⟨h, -⟩
  · cases h
  · exact h
  · exact h
  · exact h
theorem take_snoc {l : List Int} {j : Nat} (h : j < l.length) : l.take (j + 1) = l.take j ++ [l[j]] := List.take_succ_eq_append_getElem h
set_option maxHeartbeats 1000000 in
theorem replay_c (o so : Option Addr) (c sc : Nat) (p : Prot) (said : List Int) (hf : p.qs.length ≤ 9223372036854775807) (hl : said.length ≤ 100) (w : World) {A A' : Nat → Prop} (h : Qs w A o p.qs) (hs' : Nums w A' so said) :
    Calls Try.prog 35 #[.agg #[.string p.name, .int .i64 p.version, .slice o p.qs.length c], .slice so said.length sc] w fun e w' => ∃ y, RepSpec p said y ∧ Grow w w' ∧
      ((y ≠ 0 ∧ e = .returned (.tuple #[.pointer none, .int .i64 y])) ∨ (y = 0 ∧ ∃ t path cur last, e = .returned (.tuple #[.pointer (some ⟨t, 0, none⟩), .int .i64 0]) ∧ Talk p.qs said path cur last ∧ Iv w' (hs w) t p said path cur)) := by
  refine nf35 p.name p.version o p.qs.length c so said.length sc w _ fun w1 e1 => ?_
  have r := Row.new e1
  have g : Grow w w1 := only_alloc e1
  refine ⟨_, r.cell rfl, _, r.cell rfl, _, _, _, r.cell rfl, (new_c o c p hf w1 (h.grow g)).mono ?_⟩
  rintro _ w2 ⟨x, y, hE, g2, ⟨hy, rfl⟩ | ⟨rfl, t, rfl, hI⟩⟩
  · exact ⟨_, _, rfl, fun _ => ⟨y, .inl ⟨x, hE, hy⟩, g.trans' g2, .inl ⟨hy, rfl⟩⟩, fun h => absurd (nF h) hy⟩
  · have hv := ending_valid hE
    refine ⟨_, _, rfl, fun h => absurd rfl (nT h), fun _ => ⟨fun k x' w' => ∃ (j : Nat) (path : List Int) (cur : Int) (last : Ans), x' = (j : Int) ∧ j ≤ said.length ∧ k = said.length - j ∧ Talk p.qs (said.take j) path cur last ∧ Iv w' (hs w1) t p (said.take j) path cur ∧ Grow w1 w', ⟨_, 0, [], 0, zeroA, rfl, Nat.zero_le _, rfl, .nil, hI, g2⟩, ?_⟩⟩
    rintro k _ w3 x' ⟨j, path, cur, last, rfl, hj, rfl, ht, hI3, g3⟩
    refine ⟨fun hlt => ?_, fun hge => ⟨0, .inr (.inr ⟨⟨x, hE⟩, ⟨path, cur, last, ?_⟩, rfl⟩), g.trans' g3, .inr ⟨rfl, t, path, cur, last, rfl, ?_, ?_⟩⟩⟩
    · have hlt : j < said.length := by have := dT hlt; omega
      obtain ⟨a, ha, hc⟩ := ((hs'.grow g).grow g3).get hlt
      refine ⟨a, ha, ⟨by omega, by omega⟩, _, hc, (answer_m hv hI3.m ht (by simp; omega) said[j]).mono ?_⟩
      rintro _ w4 ⟨rfl, g4, hr⟩
      have G4 : Grow w1 w4 := g3.trans g4 fun b hb hm => by omega
      refine ⟨_, rfl, fun h1 => ?_, fun h1 => ?_⟩
      · have h1 := nT h1
        exact ⟨_, .inr (.inl ⟨⟨x, hE⟩, j, _, path, cur, last, List.getElem?_eq_getElem hlt, ht, rfl, h1⟩), g.trans' G4, .inl ⟨h1, rfl⟩⟩
      · have h1 := nF h1
        rcases hr with ⟨hr, -⟩ | ⟨-, x', hT, hI4⟩
        · exact absurd h1 hr
        · rw [← take_snoc hlt] at hT hI4
          exact ⟨_, by omega, j + 1, _, _, _, by rw [wr (by omega)]; omega, hlt, rfl, hT, hI4.iv, G4⟩
    all_goals
      have := dF hge
      obtain rfl : j = said.length := by omega
      rw [List.take_length] at *
      first
        | exact ht
        | exact hI3.mono g.size
end Go.Proofs.Ytbaacpfjecbbgaa
