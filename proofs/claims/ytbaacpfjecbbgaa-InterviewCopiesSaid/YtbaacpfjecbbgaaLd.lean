/- The law Copies. -/
import Derived.Test.YtbaacpfjecbbgaaLa
import Derived.Test.YtbaacpfjecbbgaaHs
namespace Go.Proofs.Ytbaacpfjecbbgaa
open Go Go.Nf

theorem setFrom_length : ∀ (vs l : List Value) (o : Nat), (setFrom l o vs).length = l.length
  | [], _, _ => rfl
  | v :: vs, l, o => by rw [setFrom, setFrom_length vs _ _, List.length_set]
/-- answers that may be overwritten -/
def Spo (w : World) (B T : Nat) (oi : Option Addr) (ni : Nat) : Prop := ni = 0 ∨ ∃ g l, oi = some ⟨g, 0, none⟩ ∧ Row w g 58 l ∧ ni * 4 ≤ l.length ∧ B ≤ g ∧ g < T
theorem Own.spo {w : World} {B T : Nat} {o : Option Addr} {n c : Nat} {xs : List Value} (h : Own w B 58 4 o n c xs) (hT : hs w ≤ T) : Spo w B T o n := by
  rcases Nat.eq_zero_or_pos n with h0 | h0
  · exact .inl h0
  · obtain ⟨g, l, rfl, hr, -, hl, hB⟩ := h.head h0
    have := hr.lt
    exact .inr ⟨g, l, rfl, hr, hl, hB, by omega⟩
theorem Spo.set {w w1 : World} {B T b j T' ni : Nat} {oi : Option Addr} {l vs : List Value} (h : Spo w B T oi ni) (r : Row w b T' l) (e : w1 = setCells w ((⟨b, 0, none⟩ : Addr).add j) vs 0) : Spo w1 B T oi ni := by
  rcases h with h | ⟨g, l', ho, hr, hl, hB, hT⟩
  · exact .inl h
  · by_cases hg : g = b
    · subst hg
      exact .inr ⟨g, _, ho, hr.setAdd e, by rw [setFrom_length]; exact hl, hB, hT⟩
    · exact .inr ⟨g, l', ho, hr.keep (only_setAdd e) hg, hl, hB, hT⟩
theorem Spo.keep {S : Nat → Prop} {w w1 : World} {B T ni : Nat} {oi : Option Addr} (h : Spo w B T oi ni) (g : Only S w w1) (hS : ∀ b, B ≤ b → b < T → ¬ S b) : Spo w1 B T oi ni := by
  rcases h with h | ⟨b, l', ho, hr, hl, hB, hT⟩
  · exact .inl h
  · exact .inr ⟨b, l', ho, hr.keep g (hS b hB hT), hl, hB, hT⟩
/-- questions that may be overwritten -/
structure SpoI (w : World) (B T Y : Nat) (rowY : List Value) (o : Option Addr) (n c : Nat) (cs : List (ByteArray × Option Addr × Nat × Nat)) : Prop where
  len : cs.length = n
  own : Own w B 38 2 o n c (cs.flatMap encQ)
  low : ∀ b, inBlock o b → b < T
  each : ∀ (i : Nat) t, cs[i]? = some t → Spo w B T t.2.1 t.2.2.1
  few : ∀ (i : Nat) t, cs[i]? = some t → t.2.2.1 ≤ 1000
  row : Row w Y 24 rowY
theorem SpoI.get {w : World} {B T Y : Nat} {rowY : List Value} {o : Option Addr} {n c : Nat} {cs : List (ByteArray × Option Addr × Nat × Nat)} (h : SpoI w B T Y rowY o n c cs) {i : Nat} (hi : i < n) :
    ∃ t g, cs[i]? = some t ∧ o = some ⟨g, 0, none⟩ ∧ w.cell? (((⟨g, 0, none⟩ : Addr).add ((i : Int).toNat * 2)).add 1) = some (.slice t.2.1 t.2.2.1 t.2.2.2) ∧ B ≤ g ∧ g < T ∧ There w ((⟨g, 0, none⟩ : Addr).add ((i : Int).toNat * 2)) 1 := by
  have hl := h.len
  have hown := h.own
  obtain ⟨g, l, rfl, hr, ht, -, hB⟩ := hown.head (by omega)
  have hg := h.low g ⟨_, rfl, rfl⟩
  refine ⟨_, g, List.getElem?_eq_getElem (by omega), rfl, hown.cell2 ?_, hB, hg, hown.there (by rw [toNat_cast]; omega)⟩
  rw [toNat_cast, flat_get encQ_len _ _ _ (by omega), List.getElem?_eq_getElem (by omega)]
  rfl
theorem SpoI.ans {w : World} {B T Y : Nat} {rowY : List Value} {o : Option Addr} {n c : Nat} {cs : List (ByteArray × Option Addr × Nat × Nat)} (h : SpoI w B T Y rowY o n c cs) {i k : Nat} {t : ByteArray × Option Addr × Nat × Nat} (hi : cs[i]? = some t) (hk : k < t.2.2.1) (hY : Y < B) :
    ∃ g, t.2.1 = some ⟨g, 0, none⟩ ∧ There w ((⟨g, 0, none⟩ : Addr).add ((k : Int).toNat * 4)) 4 ∧ B ≤ g ∧ g < T ∧ ∀ w1 vs, w1 = setCells w ((⟨g, 0, none⟩ : Addr).add ((k : Int).toNat * 4)) vs 0 → SpoI w1 B T Y rowY o n c cs ∧ Only (fun b => B ≤ b ∧ b < T) w w1 := by
  rcases h.each i t hi with h0 | ⟨g, l, ho, hr, hl, hB, hT⟩
  · omega
  refine ⟨g, ho, hr.thereAdd (by rw [toNat_cast]; omega), hB, hT, fun w1 vs e => ⟨⟨h.len, h.own.keep (only_setAdd e) fun b hb hbg => ?_, h.low, fun i t hi => (h.each i t hi).set hr e, h.few, h.row.keep (only_setAdd e) (by omega)⟩, (only_setAdd e).mono fun b _ hb => by rw [hb]; exact ⟨hB, hT⟩⟩⟩
  subst hbg
  exact h.own.apartR hr (by decide) hb
theorem SpoI.text {w : World} {B T Y : Nat} {rowY : List Value} {o : Option Addr} {g : Nat} {n c : Nat} {cs : List (ByteArray × Option Addr × Nat × Nat)} (h : SpoI w B T Y rowY o n c cs) (ho : o = some ⟨g, 0, none⟩) {i : Nat} (hi : i < n) (hY : Y < B) {w1 : World} {s : ByteArray} (e : w1 = setCells w ((⟨g, 0, none⟩ : Addr).add ((i : Int).toNat * 2)) [.string s] 0) :
    ∃ cs', SpoI w1 B T Y rowY o n c cs' ∧ Only (fun b => B ≤ b ∧ b < T) w w1 := by
  subst ho
  have hl := h.len
  obtain ⟨g', l, eg, hr, ht, hll, hB⟩ := h.own.head (by omega)
  cases eg
  have hT := h.low g ⟨_, rfl, rfl⟩
  have hown := h.own.set e (by rw [toNat_cast]; simp; omega)
  have hil : i < cs.length := by omega
  refine ⟨cs.set i (s, cs[i].2), ⟨by simpa using hl, ?_, h.low, fun j t hj => ?_, fun j t hj => ?_, h.row.keep (only_setAdd e) (by omega)⟩, (only_setAdd e).mono fun b _ hb => by rw [hb]; exact ⟨hB, hT⟩⟩
  · have := flat_set encQ_len cs i 0 [.string s] (s, cs[i].2) hil (by simp) (by simp [encQ, setFrom])
    rw [toNat_cast] at hown
    rw [Nat.add_zero] at this
    rw [this] at hown
    exact hown
  · by_cases hij : j = i
    · subst hij
      rw [List.getElem?_set_self hil] at hj
      cases hj
      exact (h.each j _ (List.getElem?_eq_getElem hil)).set hr e
    · rw [List.getElem?_set_ne (fun h => hij h.symm)] at hj
      exact (h.each j t hj).set hr e
  · by_cases hij : j = i
    · subst hij
      rw [List.getElem?_set_self hil] at hj
      cases hj
      exact h.few j cs[j] (List.getElem?_eq_getElem hil)
    · rw [List.getElem?_set_ne (fun h => hij h.symm)] at hj
      exact h.few j t hj
theorem Copied.spo {w : World} {B T Y : Nat} {rowY : List Value} {o : Option Addr} {c : Nat} {qs : List Qst} (h : Copied w B o c qs qs.length) (hr : Row w Y 24 rowY) (hT : hs w ≤ T) (hans : ∀ s, s ∈ qs → s.ans.length ≤ 20) : ∃ cs, SpoI w B T Y rowY o qs.length c cs := by
  obtain ⟨cs, h1, h2, h3⟩ := h
  have hlt : ∀ {i : Nat} {t}, cs[i]? = some t → i < qs.length := fun {i t} hi => by
    rcases Nat.lt_or_ge i cs.length with h | h
    · omega
    · rw [List.getElem?_eq_none h] at hi; cases hi
  refine ⟨cs, h1, h2, fun b hb => by have := (h2.base b hb).2; omega, fun i t hi => ?_, fun i t hi => ?_, hr⟩
  all_goals
    have hil := hlt hi
    obtain ⟨oi, ci, h4, h5⟩ := h3 i _ hil (List.getElem?_eq_getElem hil)
    rw [h4] at hi
    cases hi
  · exact Own.spo h5 hT
  · have := hans _ (List.getElem_mem hil)
    show qs[i].ans.length ≤ 1000
    omega
theorem Ivm.lt {w : World} {B t : Nat} {p : Prot} {said path : List Int} {cur : Int} {M : Nat → Prop} (h : Ivm w B t p said path cur M) : t < hs w := by
  obtain ⟨qo, qc, so, sc, po, pc, h1, -⟩ := h
  exact h1.lt
theorem SpoI.keep {S : Nat → Prop} {w w1 : World} {B T Y : Nat} {rowY : List Value} {o : Option Addr} {n c : Nat} {cs : List (ByteArray × Option Addr × Nat × Nat)} (h : SpoI w B T Y rowY o n c cs) (g : Only S w w1) (hS : ∀ b, B ≤ b → b < T → ¬ S b) (hY : ¬ S Y) : SpoI w1 B T Y rowY o n c cs :=
  ⟨h.len, h.own.keep g fun b hb => hS b (h.own.base b hb).1 (h.low b hb), h.low, fun i t hi => (h.each i t hi).keep g hS, h.few, h.row.keep g hY⟩

theorem question14'_c {w : World} {B t : Nat} {p : Prot} {said path : List Int} {cur : Int} {last : Ans} (hv : validB p = true) (h : Iv w B t p said path cur) (ht : Talk p.qs said path cur last) :
    Calls Try.prog 28 #[.pointer (some ⟨t, 0, none⟩)] w fun e w' => ∃ s o n c b, e = .returned (.tuple #[.agg #[.string s, .slice o n c], .bool b]) ∧ Spo w' (hs w) (hs w') o n ∧ n ≤ 1000 ∧ Grow w w' := by
  refine (question14_c hv h ht).mono ?_
  rintro _ w' ⟨⟨hcur, rfl⟩ | ⟨hcur, q, oq, cq, hq, rfl, ownq⟩, g⟩
  · exact ⟨_, _, _, _, _, rfl, .inl rfl, by omega, g⟩
  · have := (valid_of hv).ans q (List.mem_of_getElem? hq)
    exact ⟨_, _, _, _, _, rfl, Own.spo ownq (Nat.le_refl _), by omega, g⟩
set_option maxHeartbeats 1000000 in
theorem eqProt_c (o : Option Addr) (c : Nat) (p : Prot) (hf : FitP p) (w : World) {A : Nat → Prop} (h : Qs w A o p.qs) :
    Calls Try.prog 38 #[.agg #[.string p.name, .int .i64 p.version, .slice o p.qs.length c], .agg #[.string p.name, .int .i64 p.version, .slice o p.qs.length c]] w fun e w' => e = .returned (.bool true) ∧ Grow w w' := by
  have hfl := hf.qs
  have eS : ∀ s : ByteArray, (!strEq s s) = false := fun s => by rw [strEq_refl]; rfl
  have ee : ∀ x : Ans, (!(andB (strEq x.text x.text) (andB (decide (x.next = x.next)) (andB (decide (x.urg = x.urg)) (strEq x.code x.code))))) = false := fun x => by simp [andB, strEq_refl]
  refine nf38 p.name p.version o p.qs.length c p.name p.version o p.qs.length c w _ fun w1 e1 w3 e3 => ?_
  have r1 := Row.new e1
  have r3 := Row.new e3
  have g1 : Grow w w1 := only_alloc e1
  have g3 : Grow w1 w3 := only_alloc e3
  have r13 := r1.grow g3
  have G := g1.trans' g3
  refine ⟨_, r13.cell rfl, _, r3.cell rfl, fun h1 => (by rw [eS] at h1; cases h1), fun _ => ⟨_, r13.cell rfl, _, r3.cell rfl, fun h1 => absurd rfl (nT h1), fun _ => ⟨_, _, _, r13.cell rfl, _, _, _, r3.cell rfl, fun h1 => absurd rfl (nT h1), fun _ => ⟨_, _, _, r13.cell rfl, fun k x w' => ∃ j : Nat, x = (j : Int) ∧ j ≤ p.qs.length ∧ k = p.qs.length - j ∧ Grow w3 w', ⟨_, 0, rfl, Nat.zero_le _, rfl, Only.refl _ _⟩, ?_⟩⟩⟩⟩
  rintro k _ w4 x ⟨j, rfl, hj, rfl, g4⟩
  refine ⟨fun hlt => ?_, fun _ => ⟨rfl, G.trans' g4⟩⟩
  have hlt : j < p.qs.length := by have := dT hlt; omega
  obtain ⟨a, oi, ci, ha, c0, c1, hr⟩ := ((h.grow G).grow g4).get hlt
  have hfq := (hf.each _ (List.getElem_mem hlt)).2.1
  generalize p.qs[j] = q at *
  refine ⟨a, ha, ⟨by omega, by omega⟩, _, c0, _, _, _, c1, fun w5 e5 => ⟨(Row.new e5).there (by simp), fun w6 e6 => ?_⟩⟩
  obtain ⟨r6, g6⟩ := loc e5 e6 rfl
  refine ⟨_, _, _, ((r3.grow g4).grow g6).cell rfl, a, ha, ⟨by omega, by omega⟩, _, cell_keep g6 (fun h => h) c0, _, _, _, cell_keep g6 (fun h => h) c1, fun w7 e7 => ⟨(Row.new e7).there (by simp), fun w8 e8 => ?_⟩⟩
  obtain ⟨r8, g8⟩ := loc e7 e8 rfl
  have r68 := r6.grow g8
  have G48 := (g4.trans' g6).trans' g8
  refine ⟨_, r68.cell rfl, _, r8.cell rfl, fun h1 => (by rw [eS] at h1; cases h1), fun _ => ⟨_, _, _, r68.cell rfl, _, _, _, r8.cell rfl, fun h1 => absurd rfl (nT h1), fun _ => ⟨_, _, _, r68.cell rfl, fun k x w' => ∃ t : Nat, x = (t : Int) ∧ t ≤ q.ans.length ∧ k = q.ans.length - t ∧ Grow w8 w', ⟨_, 0, rfl, Nat.zero_le _, rfl, Only.refl _ _⟩, ?_⟩⟩⟩
  rintro k _ w9 x ⟨t, rfl, ht, rfl, g9⟩
  refine ⟨fun hlt2 w10 e10 => ?_, fun _ => ⟨_, by omega, j + 1, by rw [wr (by omega)]; omega, hlt, rfl, G48.trans' g9⟩⟩
  have hlt2 : t < q.ans.length := by have := dT hlt2; omega
  have g10 : Grow w8 w10 := g9.trans' (only_drew e10)
  obtain ⟨a', ha', d0, d1, d2, d3⟩ := Recs.ans (((hr.grow g6).grow g8).grow g10) hlt2
  exact ⟨_, _, _, (r68.grow g10).cell rfl, a', ha', ⟨by omega, by omega⟩, _, d0, _, d1, _, d2, _, d3, _, _, _, (r8.grow g10).cell rfl, a', ha', ⟨by omega, by omega⟩, _, d0, _, d1, _, d2, _, d3, fun h1 => (by rw [ee] at h1; cases h1), fun _ => ⟨_, by omega, t + 1, by rw [wr (by omega)]; omega, hlt2, rfl, g10⟩⟩
set_option maxHeartbeats 4000000 in
theorem law7_c (o so : Option Addr) (c sc : Nat) (p : Prot) (said : List Int) (hf : FitP p) (hsc : said.length ≤ sc) (hsl : said.length ≤ 9223372036854775807) (w : World) {A A' : Nat → Prop} (h : Qs w A o p.qs) (hs' : Nums w A' so said) :
    Calls Try.prog 7 #[.agg #[.string p.name, .int .i64 p.version, .slice o p.qs.length c], .slice so said.length sc] w fun e w' => e = .returned (.bool true) ∧ Grow w w' := by
  have hfl := hf.qs
  refine nf7 p.name p.version o p.qs.length c so said.length sc w _ fun w1 e1 => ?_
  have r := Row.new e1
  have g : Grow w w1 := only_alloc e1
  have h := h.grow g
  have hs' := hs'.grow g
  refine ⟨_, r.cell rfl, _, r.cell rfl, _, _, _, r.cell rfl, (few_c o c p hf w1 h).mono ?_⟩
  rintro _ w2 ⟨b, rfl, hb, g2⟩
  have G2 := g2
  have r2 := r.grow g2
  refine ⟨_, rfl, fun hbt => ⟨fun _ => tail (g.trans' G2), fun h60 => ?_⟩, fun _ => tail (g.trans' G2)⟩
  have h60 : said.length ≤ 60 := by have := dF h60; omega
  refine ⟨_, r2.cell rfl, _, r2.cell rfl, _, _, _, r2.cell rfl, (refReplay_c o so c sc p said hf (by omega) hsc w2 (h.grow G2) (hs'.grow G2)).mono ?_⟩
  rintro _ w3 ⟨y, rfl, hS, g3⟩
  have G3 := G2.trans' g3
  have r3 := r2.grow g3
  refine ⟨_, rfl, fun _ => tail (g.trans' G3), fun hy => ?_⟩
  obtain rfl : y = 0 := nF hy
  have hv : validB p = true := by
    rcases hS with ⟨x, hE, hy⟩ | ⟨⟨x, hE⟩, -⟩ | ⟨⟨x, hE⟩, -⟩
    · exact absurd rfl hy
    · exact ending_valid hE
    · exact ending_valid hE
  have V := valid_of hv
  have htop := V.top
  refine ⟨_, r3.cell rfl, _, r3.cell rfl, _, _, _, r3.cell rfl, fun w4 e4 => ⟨(Row.new e4).there (by simp), fun w5 e5 => ?_⟩⟩
  obtain ⟨r5, g5⟩ := loc e4 e5 rfl
  refine ⟨r5.there (by simp), fun w6 e6 => ?_⟩
  have r6 : Row w6 (hs w3) 24 [.string p.name, .int .i64 p.version, .slice none 0 0] := r5.set e6
  have g6 : Grow w3 w6 := g5.trans (only_set e6) fun b hb e => by omega
  have hY6 : hs w3 < hs w6 := r6.lt
  refine ⟨_, _, _, (r3.grow g6).cell rfl, fun k x w' => ∃ (j : Nat) (o' : Option Addr) (c' : Nat), x = (j : Int) ∧ j ≤ p.qs.length ∧ k = p.qs.length - j ∧ Row w' (hs w3) 24 [.string p.name, .int .i64 p.version, .slice o' j c'] ∧ Copied w' (hs w6) o' c' p.qs j ∧ Only (fun b => b = hs w3) w6 w',
    ⟨_, 0, none, 0, rfl, Nat.zero_le _, rfl, r6, ⟨[], rfl, own_nil _ _ _ _, fun i q hi => by omega⟩, Only.refl _ _⟩, ?_⟩
  rintro k _ w7 x' ⟨j, o7, c7, rfl, hj, rfl, r7, hC, g7⟩
  have G7 : Grow w3 w7 := g6.trans g7 fun b hb e => by omega
  have G07 := G3.trans' G7
  refine ⟨fun hlt => ?_, fun hge w8 e8 => ?_⟩
  · have hlt : j < p.qs.length := by have := dT hlt; omega
    obtain ⟨a, oi, ci, ha, c0, c1, hr⟩ := (h.grow G07).get hlt
    have hmem : p.qs[j] ∈ p.qs := List.getElem_mem hlt
    have hans := V.ans _ hmem
    refine ⟨a, ha, ⟨by omega, by omega⟩, _, c0, _, _, _, c1, fun w8 e8 => ⟨(Row.new e8).there (by simp), fun w9 e9 w10 e10 => ?_⟩⟩
    obtain ⟨r9, g9⟩ := loc e8 e9 rfl
    have g10 : Grow w9 w10 := only_drew e10
    have r10 := (r7.grow g9).grow g10
    have rq10 := r9.grow g10
    have hC10 := (hC.grow g9).grow g10
    have hr10 := (hr.grow g9).grow g10
    refine ⟨_, _, _, r10.cell rfl, _, rq10.cell rfl, _, _, _, rq10.cell rfl, fun w11 e11 => ?_⟩
    have g11 : Grow w10 w11 := only_alloc e11
    have rn11 : Row w11 (hs w10) 58 [] := Row.new e11
    have o11 : Own w11 (hs w10) 58 4 (some ⟨hs w10, 0, none⟩) 0 0 (([] : List Ans).flatMap encA) := rn11.own (n := 0) (Nat.le_refl _) rfl (by simp [maxLen])
    refine ⟨kept_only g11 rq10.lt (fun h => h), kept_only g11 rq10.lt (fun h => h), kept_only g11 r10.lt (fun h => h), append_ans o11 (hr10.grow g11) (by omega) g11.size fun o12 c12 w12 p1 p2 => ⟨_, _, _, rfl, ?_⟩⟩
    have g12 : Grow w10 w12 := g11.trans p2 fun b hb hh => by
      obtain ⟨a, ha, rfl⟩ := hh
      cases ha
      exact absurd hb (by simp)
    rw [List.nil_append] at p1
    rw [Nat.zero_add] at p1 ⊢
    refine ⟨kept_only g12 rq10.lt (fun h => h), kept_only g12 r10.lt (fun h => h), fun w13 e13 => ?_⟩
    have g13 : Grow w12 w13 := only_alloc e13
    have g1013 := g12.trans' g13
    obtain ⟨cs, hcl, hown, hcs⟩ := hC10.grow g1013
    have rn : Row w13 (hs w12) 38 [.string p.qs[j].text, .slice o12 p.qs[j].ans.length c12] := Row.new e13
    have r13 := r10.grow g1013
    have hb613 : hs w6 ≤ hs w10 := by
      have := g7.size; have := g9.size; have := g10.size
      omega
    have hb13 := g1013.size
    refine ⟨kept_only g1013 r10.lt (fun h => h), run_append_row elem22 hown rn rfl (by simp [Value.oneCell']) (by simp [maxLen]; omega) (by omega) (by omega) fun o14 c14 w14 q1 q2 _ => ⟨_, _, _, rfl, ?_⟩⟩
    have r14 := r13.keep q2 fun hh => by have := (hown.base _ hh).1; omega
    refine ⟨r14.there (by simp), fun w15 e15 => ⟨_, by omega, j + 1, o14, c14, by rw [wr (by omega)]; omega, hlt, rfl, r14.set e15, ⟨cs ++ [(p.qs[j].text, o12, p.qs[j].ans.length, c12)], by simp [hcl], ?_, fun i q hi hq => ?_⟩, ?_⟩⟩
    · have g15 : Only (fun b => b = hs w3) w14 w15 := only_set e15
      have := q1.keep g15 fun b hb e => by have := (q1.base b hb).1; omega
      rw [List.flatMap_append]
      exact this
    · have g15 : Only (fun b => b = hs w3) w14 w15 := only_set e15
      by_cases e : i = j
      · subst e
        rw [List.getElem?_eq_getElem hlt] at hq
        cases hq
        have own13 := p1.grow g13
        have own14 := own13.keep q2 (own13.apart hown (by decide))
        refine ⟨o12, c12, by rw [List.getElem?_append_right (by omega), hcl, Nat.sub_self]; rfl, (own14.mono hb613).keep g15 fun b hb e => ?_⟩
        have := (own14.base b hb).1
        omega
      · obtain ⟨oi', ci', k1, k2⟩ := hcs i q (by omega) hq
        have k3 := k2.keep q2 (k2.apart hown (by decide))
        exact ⟨oi', ci', by rw [List.getElem?_append_left (by omega)]; exact k1, k3.keep g15 fun b hb e => by have := (k3.base b hb).1; omega⟩
    · have g15 : Only (fun b => b = hs w3) w14 w15 := only_set e15
      refine ((((g7.grow g9).grow g10).grow g1013).trans q2 fun b hb hh => ?_).trans' g15
      have := (hown.base b hh).1
      omega
  · have := dF hge
    obtain rfl : j = p.qs.length := by omega
    have g8 : Grow w7 w8 := only_drew e8
    have r8 := r7.grow g8
    have hC8 := hC.grow g8
    refine ⟨_, r8.cell rfl, _, r8.cell rfl, _, _, _, r8.cell rfl, fun w9 e9 => ?_⟩
    have g9 : Grow w8 w9 := only_alloc e9
    have rn9 : Row w9 (hs w8) 3 [] := Row.new e9
    have o9 : Own w9 (hs w8) 3 1 (some ⟨hs w8, 0, none⟩) 0 0 (intsV []) := rn9.own (n := 0) (Nat.le_refl _) rfl (by simp [maxLen])
    have G08 := G07.trans' g8
    refine ⟨kept_only g9 r8.lt (fun h => h), append_nums elem48 o9 ((hs'.grow G08).grow g9) (by simp [maxLen]; omega) (by omega) g9.size fun o10 c10 w10 p1 p2 => ⟨_, _, _, rfl, ?_⟩⟩
    have g10 : Grow w8 w10 := g9.trans p2 fun b hb hh => by
      obtain ⟨a, ha, rfl⟩ := hh
      cases ha
      exact absurd hb (by simp)
    rw [Nat.zero_add, List.nil_append] at p1
    rw [Nat.zero_add]
    have r10 := r8.grow g10
    have hC10 := hC8.grow g10
    have G010 := G08.trans' g10
    refine ⟨kept_only g10 r8.lt (fun h => h), (replay_c o7 o10 c7 c10 p said hfl (by omega) w10 hC10.qs p1.nums).mono ?_⟩
    rintro _ w11 ⟨y, hS', g11, hr⟩
    obtain rfl := repSpec_one hS hS'
    have G011 := G010.trans' g11
    rcases hr with ⟨hy, -⟩ | ⟨-, t, path, cur, last, rfl, hT, hI⟩
    · exact absurd rfl hy
    have r11 := r10.grow g11
    obtain ⟨cs, hSp⟩ := hC10.spo (T := hs w10) r10 (Nat.le_refl _) V.ans
    have hSp := hSp.keep g11 (fun _ _ _ h => h) (fun h => h)
    have hI := hI.m
    have s11 := g11.size
    have s10 : hs w6 ≤ hs w10 := by have := g7.size; have := g8.size; have := g10.size; omega
    have hG06 : hs w1 ≤ hs w6 := (G3.trans' g6).size
    have hG3 : hs w1 ≤ hs w3 := G3.size
    refine ⟨_, _, rfl, fun h => absurd rfl (nT h), fun _ => ⟨fun h => (by cases h), fun _ => ⟨_, _, _, r11.cell rfl, fun k x w' => ∃ (i : Nat) (cs : List (ByteArray × Option Addr × Nat × Nat)), x = (i : Int) ∧ i ≤ p.qs.length ∧ k = p.qs.length - i ∧ SpoI w' (hs w6) (hs w10) (hs w3) [.string p.name, .int .i64 p.version, .slice o7 p.qs.length c7] o7 p.qs.length c7 cs ∧ Only (fun b => hs w6 ≤ b ∧ b < hs w10) w11 w', ⟨_, 0, cs, rfl, Nat.zero_le _, rfl, hSp, Only.refl _ _⟩, ?_⟩⟩⟩
    rintro k _ w12 x ⟨i, cs, rfl, hi, rfl, hSp, g12⟩
    refine ⟨fun hlt => ?_, fun hge2 => ?_⟩
    · have hlt : i < p.qs.length := by have := dT hlt; omega
      obtain ⟨tt, gq, ht, ho, hc1, hB, hT', hth⟩ := hSp.get hlt
      have hnt := hSp.few i tt ht
      refine ⟨_, _, _, hSp.row.cell rfl, _, ho, ⟨by omega, by omega⟩, _, _, _, hc1, fun k x w' => ∃ (v : Nat), x = (v : Int) ∧ v ≤ tt.2.2.1 ∧ k = tt.2.2.1 - v ∧ SpoI w' (hs w6) (hs w10) (hs w3) [.string p.name, .int .i64 p.version, .slice o7 p.qs.length c7] o7 p.qs.length c7 cs ∧ Only (fun b => hs w6 ≤ b ∧ b < hs w10) w11 w', ⟨_, 0, rfl, Nat.zero_le _, rfl, hSp, g12⟩, ?_⟩
      rintro k _ w13 x ⟨v, rfl, hv13, rfl, hSp13, g13⟩
      obtain ⟨tt', gq', ht', ho', hc1', hB', hT'', hth'⟩ := hSp13.get hlt
      rw [ht] at ht'
      cases ht'
      refine ⟨fun hlt2 => ?_, fun hge3 => ?_⟩
      · have hlt2 : v < tt.2.2.1 := by have := dT hlt2; omega
        obtain ⟨ga, hoa, hta, hBa, hTa, hset⟩ := hSp13.ans ht hlt2 hY6
        refine ⟨_, _, _, hSp13.row.cell rfl, _, ho', ⟨by omega, by omega⟩, _, _, _, hc1', _, hoa, ⟨by omega, by omega⟩, hta, fun w14 e14 => ?_⟩
        obtain ⟨q1, q2⟩ := hset w14 _ e14
        exact ⟨_, by omega, v + 1, by rw [wr (by omega)]; omega, hlt2, rfl, q1, g13.trans' q2⟩
      · refine ⟨_, _, _, hSp13.row.cell rfl, _, ho', ⟨by omega, by omega⟩, hth', fun w14 e14 => ?_⟩
        obtain ⟨cs', q1, q2⟩ := hSp13.text ho' hlt hY6 e14
        exact ⟨_, by omega, i + 1, cs', by rw [wr (by omega)]; omega, hlt, rfl, q1, g13.trans' q2⟩
    · have hI12 := hI.keep g12 (fun b hb hh => by omega) (fun b hb _ hh => by omega)
      have hT12 := hT
      have G12 : Grow w1 w12 := G011.trans g12 fun b hb hh => by omega
      have s12 := g12.size
      have z12 := G12.size
      refine (question14'_c hv hI12.iv hT).mono ?_
      rintro _ w13 ⟨s, oq, nq, cq, bq, rfl, hSq, hnq, g13⟩
      have s13 := g13.size
      refine ⟨_, _, _, _, _, rfl, ?_, ?_⟩
      all_goals
        intro _ w14 e14
        refine ⟨(Row.new e14).there (by simp), fun w15 e15 => ?_⟩
        obtain ⟨r15, g15⟩ := loc e14 e15 rfl
        have s15 := r15.lt
        have hSq15 := hSq.keep g15 fun _ _ _ h => h
        refine ⟨_, _, _, r15.cell rfl, fun k x w' => ∃ (v : Nat), x = (v : Int) ∧ v ≤ nq ∧ k = nq - v ∧ Spo w' (hs w12) (hs w13) oq nq ∧ Row w' (hs w13) 38 [.string s, .slice oq nq cq] ∧ Only (fun b => hs w12 ≤ b ∧ b < hs w13) w15 w', ⟨_, 0, rfl, Nat.zero_le _, rfl, hSq15, r15, Only.refl _ _⟩, ?_⟩
        rintro k _ w16 x ⟨v, rfl, hvn, rfl, hSq16, r16, g16⟩
        refine ⟨fun hlt => ?_, fun hge3 => ?_⟩
        · have hlt : v < nq := by have := dT hlt; omega
          rcases hSq16 with h0 | ⟨ga, l, hoa, hra, hl, hBa, hTa⟩
          · omega
          refine ⟨_, _, _, r16.cell rfl, _, hoa, ⟨by omega, by omega⟩, hra.thereAdd (by rw [toNat_cast]; omega), fun w17 e17 => ⟨_, by omega, v + 1, by rw [wr (by omega)]; omega, hlt, rfl, Spo.set (.inr ⟨ga, l, hoa, hra, hl, hBa, hTa⟩) hra e17, r16.keep (only_setAdd e17) (by omega), g16.trans' ((only_setAdd e17).mono fun b _ hb => by rw [hb]; exact ⟨hBa, hTa⟩)⟩⟩
        · have hI16 := (((hI12.grow g13).grow g15).keep g16 (fun b hb hh => by omega) (fun b hb hb2 hh => by have := hI12.lt; omega))
          have G16 : Grow w1 w16 := (((G12.trans' g13).trans' g15).trans g16 fun b hb hh => by omega)
          have s16 := g16.size
          refine (answers_c hI16.iv (by omega)).mono ?_
          rintro _ w17 ⟨on, cn, rfl, hown, g17⟩
          refine ⟨_, _, _, rfl, fun k x w' => ∃ (v : Nat) (xs : List Int), x = (v : Int) ∧ v ≤ said.length ∧ k = said.length - v ∧ xs.length = said.length ∧ Own w' (hs w16) 3 1 on said.length cn (intsV xs) ∧ Only (fun b => hs w16 ≤ b ∧ b < hs w17) w17 w', ⟨_, 0, said, rfl, Nat.zero_le _, rfl, rfl, hown, Only.refl _ _⟩, ?_⟩
          rintro k _ w18 x ⟨v, xs, rfl, hvn, rfl, hxl, hown18, g18⟩
          have s17 := g17.size
          refine ⟨fun hlt => ?_, fun hge4 => ?_⟩
          · have hlt : v < said.length := by have := dT hlt; omega
            obtain ⟨ga, l, rfl, hra, -, -, hBa⟩ := hown18.head (by omega)
            have hTa := (hown.base ga ⟨_, rfl, rfl⟩).2
            refine ⟨_, rfl, ⟨by omega, by omega⟩, hown18.there (by rw [toNat_cast]; omega), fun w19 e19 => ?_⟩
            have q1 := hown18.set e19 (by rw [toNat_cast]; simp; omega)
            rw [intsV_set] at q1
            exact ⟨_, by omega, v + 1, xs.set v 99, by rw [wr (by omega)]; omega, hlt, rfl, by simpa using hxl, q1, g18.trans' ((only_setAdd e19).mono fun b _ hb => by rw [hb]; exact ⟨hBa, hTa⟩)⟩
          · have hI18 := (hI16.grow g17).keep g18 (fun b hb hh => by omega) (fun b hb hb2 hh => by have := hI12.lt; omega)
            have G18 : Grow w1 w18 := (G16.trans' g17).trans g18 fun b hb hh => by omega
            have r18 : Row w18 (hs w) 24 [.string p.name, .int .i64 p.version, .slice o p.qs.length c] := r.grow G18
            refine ⟨_, r18.cell rfl, _, r18.cell rfl, _, _, _, r18.cell rfl, (same_c hf hv hT (by omega) hI18.iv (h.grow G18) (hs'.grow G18)).mono ?_⟩
            rintro _ w19 ⟨rfl, g19⟩
            have r19 := r18.grow g19
            refine ⟨_, rfl, fun _ => ⟨_, r19.cell rfl, _, r19.cell rfl, _, _, _, r19.cell rfl, _, r19.cell rfl, _, r19.cell rfl, _, _, _, r19.cell rfl, (eqProt_c o c p hf w19 ((h.grow G18).grow g19)).mono ?_⟩, fun h => (by cases h)⟩
            rintro _ w20 ⟨rfl, g20⟩
            exact ⟨_, rfl, fun _ => tail (((g.trans' G18).trans' g19).trans' g20), fun h => (by cases h)⟩
end Go.Proofs.Ytbaacpfjecbbgaa
