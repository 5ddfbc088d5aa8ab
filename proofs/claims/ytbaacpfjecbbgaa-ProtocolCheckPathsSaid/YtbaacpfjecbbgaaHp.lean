/- The reference of layer 14. -/
import Derived.Test.YtbaacpfjecbbgaaHo
namespace Go.Proofs.Ytbaacpfjecbbgaa
open Go Go.Nf

def aggA (a : Ans) : Value := .agg #[.string a.text, .int .i64 a.next, .int .i64 a.urg, .string a.code]
theorem strEq_refl (s : ByteArray) : strEq s s = true := strEq_iff.2 rfl
/-- the beginning of a talk, and the answer that comes next in it -/
theorem Talk.at {qs : List Qst} {l pa : List Int} {cur : Int} {last : Ans} (h : Talk qs l pa cur last) : ∀ (i : Nat) a, l[i]? = some a → ∃ pa' cur' last' q x, Talk qs (l.take i) pa' cur' last' ∧ 0 ≤ cur' ∧ qs[cur'.toNat]? = some q ∧ 0 ≤ a ∧ q.ans[a.toNat]? = some x := fun i a hi => by
  obtain ⟨pa', cur', last', h1, h2⟩ := h.begins i a hi
  obtain ⟨q, x, k1, k2, k3, k4, -⟩ := sayE_ok h1 h2
  exact ⟨pa', cur', last', q, x, h1, k1, k2, k3, k4⟩
set_option maxHeartbeats 2000000 in
theorem at_c (o so : Option Addr) (c sc : Nat) (p : Prot) {said path : List Int} {cur : Int} {last : Ans} (ht : Talk p.qs said path cur last) (hl : said.length ≤ 1000) (w : World) {A A' : Nat → Prop} (h : Qs w A o p.qs) (hs' : Nums w A' so said) :
    Calls Try.prog 76 #[.agg #[.string p.name, .int .i64 p.version, .slice o p.qs.length c], .slice so said.length sc] w fun e w' => e = .returned (.tuple #[.int .i64 cur, aggA last]) ∧ Grow w w' := by
  refine nf76 p.name p.version o p.qs.length c so said.length sc w _ fun w1 e1 w3 e3 w5 e5 => ?_
  have r1 := Row.new e1
  have r3 := Row.new e3
  have r5 := Row.new e5
  have g1 : Grow w w1 := only_alloc e1
  have g13 : Grow w1 w3 := only_alloc e3
  have g35 : Grow w3 w5 := only_alloc e5
  have g5 := (g1.trans' g13).trans' g35
  have hs1 := g1.size
  have hs3 := g13.size
  have hlt1 := r1.lt
  have hlt3 := r3.lt
  refine ⟨fun k x y w' => ∃ (j : Nat) (pa : List Int) (la : Ans), y = (j : Int) ∧ j ≤ said.length ∧ k = said.length - j ∧ Talk p.qs (said.take j) pa x la ∧ Row w' (hs w3) 58 (encA la) ∧ Only (fun b => b = hs w3) w5 w', ⟨_, 0, [], zeroA, rfl, Nat.zero_le _, rfl, .nil, r5, Only.refl _ _⟩, ?_⟩
  rintro k _ w6 x y ⟨j, pa, la, rfl, hj, rfl, hT, r6, g6⟩
  have G6 : Grow w w6 := g5.trans g6 fun b hb e => by omega
  refine ⟨fun hlt => ?_, fun hge w7 e7 => ?_⟩
  · have hlt : j < said.length := by have := dT hlt; omega
    obtain ⟨as', has, hcs⟩ := (hs'.grow G6).get hlt
    obtain ⟨pa', cur', last', q, xa, h1, h0, hq, ha, hx⟩ := ht.at j _ (List.getElem?_eq_getElem hlt)
    obtain ⟨rfl, rfl, rfl⟩ := hT.one h1
    obtain ⟨i, rfl⟩ : ∃ i : Nat, x = (i : Int) := ⟨x.toNat, by omega⟩
    have hsnoc : Talk p.qs (said.take j ++ [said[j]]) (pa ++ [(i : Int)]) xa.next xa := .snoc hT h0 hq ha hx
    rw [← take_snoc hlt] at hsnoc
    obtain ⟨m, hm⟩ : ∃ m : Nat, said[j] = (m : Int) := ⟨said[j].toNat, by omega⟩
    rw [hm] at hcs hx
    rw [toNat_cast] at hq hx
    obtain ⟨hin, aq, oi, ci, haq, c0, c1, -, hR⟩ := qs_at (h.grow G6) hq
    obtain ⟨hmn, aa, haa, -, d0, d1, d2, d3⟩ := ans_at hR hx
    have r1' : Row w6 (hs w) 24 _ := ((r1.grow g13).grow g35).keep g6 (by omega)
    refine ⟨as', has, ⟨by omega, by omega⟩, _, hcs, _, _, _, r1'.cell rfl, aq, haq, ⟨by omega, by omega⟩, _, _, _, c1, aa, haa, ⟨by omega, by omega⟩, _, d0, _, d1, _, d2, _, d3, r6.there (by simp [encA]), fun w7 e7 => ?_⟩
    have r7 : Row w7 (hs w3) 58 (encA xa) := by
      have := r6.set e7
      exact this
    exact ⟨_, r7.cell rfl, _, by omega, j + 1, _, xa, by rw [wr (by omega)]; omega, hlt, rfl, hsnoc, r7, g6.trans' (only_set e7)⟩
  · have := dF hge
    obtain rfl : j = said.length := by omega
    rw [List.take_length] at hT
    obtain ⟨rfl, rfl, rfl⟩ := hT.one ht
    have g67 : Grow w6 w7 := only_drew e7
    have r7 := r6.grow g67
    have r37 : Row w7 (hs w1) 58 _ := ((r3.grow g35).keep g6 (by omega)).grow g67
    refine ⟨_, r7.cell rfl, _, r7.cell rfl, _, r7.cell rfl, _, r7.cell rfl, r37.there (by simp), fun w8 e8 => ?_⟩
    have r8 : Row w8 (hs w1) 58 (encA la) := r37.set e8
    have g8 : Only (fun b => b = hs w1) w7 w8 := only_set e8
    exact ⟨_, r8.cell rfl, _, r8.cell rfl, _, r8.cell rfl, _, r8.cell rfl, rfl, (G6.trans' g67).trans g8 fun b hb e => by omega⟩
set_option maxHeartbeats 1000000 in
theorem say_c (o so : Option Addr) (c sc : Nat) (p : Prot) {said path : List Int} {cur : Int} {last : Ans} (hv : validB p = true) (ht : Talk p.qs said path cur last) (hl : said.length ≤ 1000) (a : Int) (w : World) {A A' : Nat → Prop} (h : Qs w A o p.qs) (hs' : Nums w A' so said) :
    Calls Try.prog 34 #[.agg #[.string p.name, .int .i64 p.version, .slice o p.qs.length c], .slice so said.length sc, .int .i64 a] w fun e w' => e = .returned (.int .i64 (sayE p.qs cur a)) ∧ Grow w w' := by
  have hb := ht.bound hv
  refine nf34 p.name p.version o p.qs.length c so said.length sc a w _ fun w1 e1 => ?_
  have r := Row.new e1
  have g : Grow w w1 := only_alloc e1
  refine ⟨_, r.cell rfl, _, r.cell rfl, _, _, _, r.cell rfl, (at_c o so c sc p ht hl w1 (h.grow g) (hs'.grow g)).mono ?_⟩
  rintro _ w2 ⟨rfl, g2⟩
  refine ⟨_, _, _, _, _, rfl, fun w3 e3 => ⟨(Row.new e3).there (by simp), fun w4 e4 => ?_⟩⟩
  obtain ⟨r4, g4⟩ := loc e3 e4 rfl
  have G := (g.trans' g2).trans' g4
  have rp := (r.grow g2).grow g4
  refine ⟨fun h1 => ⟨?_, G⟩, fun h1 => ⟨fun h2 => ⟨?_, G⟩, fun h2 => ?_⟩⟩
  · rw [show sayE p.qs cur a = 8 from if_pos (dT h1)]
  · rw [show sayE p.qs cur a = 1 by unfold sayE; rw [if_neg (dF h1), if_pos (dT h2)]]
  · have h1 := dF h1
    have h2 := dF h2
    obtain ⟨i, rfl⟩ : ∃ i : Nat, cur = (i : Int) := ⟨cur.toNat, by omega⟩
    have hin : i < p.qs.length := by omega
    have hq : p.qs[i]? = some p.qs[i] := List.getElem?_eq_getElem hin
    obtain ⟨-, aq, oi, ci, haq, c0, c1, -, hR⟩ := qs_at (h.grow G) hq
    have hsay : sayE p.qs (i : Int) a = if a < p.qs[i].ans.length then 0 else 1 := by
      unfold sayE
      rw [if_neg (by omega), if_neg h2, toNat_cast, hq]
    refine ⟨_, _, _, rp.cell rfl, aq, haq, ⟨by omega, by omega⟩, _, _, _, c1, fun h3 => ⟨?_, G⟩, fun h3 => ⟨?_, G⟩⟩
    · have h3 := dT h3
      rw [hsay, if_neg (by omega)]
    · have h3 := dF h3
      rw [hsay, if_pos (by omega)]
set_option maxHeartbeats 1000000 in
theorem refReplay_c (o so : Option Addr) (c sc : Nat) (p : Prot) (said : List Int) (hf : FitP p) (hl : said.length ≤ 100) (hsc : said.length ≤ sc) (w : World) {A A' : Nat → Prop} (h : Qs w A o p.qs) (hs' : Nums w A' so said) :
    Calls Try.prog 36 #[.agg #[.string p.name, .int .i64 p.version, .slice o p.qs.length c], .slice so said.length sc] w fun e w' => ∃ y, e = .returned (.int .i64 y) ∧ RepSpec p said y ∧ Grow w w' := by
  refine nf36 p.name p.version o p.qs.length c so said.length sc w _ fun w1 e1 => ?_
  have r := Row.new e1
  have g : Grow w w1 := only_alloc e1
  refine ⟨_, r.cell rfl, _, r.cell rfl, _, _, _, r.cell rfl, (ends_c o c p hf w1 (h.grow g)).mono ?_⟩
  rintro _ w2 ⟨x, y, rfl, hE, g2⟩
  refine ⟨_, _, rfl, fun h1 => ⟨_, rfl, .inl ⟨x, hE, nT h1⟩, g.trans' g2⟩, fun h1 => ?_⟩
  obtain rfl : y = 0 := nF h1
  have hv := ending_valid hE
  refine ⟨fun k x' w' => ∃ (j : Nat) (path : List Int) (cur : Int) (last : Ans), x' = (j : Int) ∧ j ≤ said.length ∧ k = said.length - j ∧ Talk p.qs (said.take j) path cur last ∧ Grow w1 w', ⟨_, 0, [], 0, zeroA, rfl, Nat.zero_le _, rfl, .nil, g2⟩, ?_⟩
  rintro k _ w3 x' ⟨j, path, cur, last, rfl, hj, rfl, ht, g3⟩
  refine ⟨fun hlt => ?_, fun hge => ⟨0, rfl, .inr (.inr ⟨⟨x, hE⟩, ⟨path, cur, last, ?_⟩, rfl⟩), g.trans' g3⟩⟩
  · have hlt : j < said.length := by have := dT hlt; omega
    obtain ⟨a, ha, hc⟩ := ((hs'.grow g).grow g3).get hlt
    refine ⟨a, ha, ⟨by omega, by omega⟩, _, hc, fun w4 e4 => ?_⟩
    have g4 : Grow w3 w4 := only_drew e4
    have G4 := g3.trans' g4
    have r4 := r.grow G4
    have eo : (if sc = 0 then so else Option.map (fun x => x) so) = so := by split <;> cases so <;> rfl
    have ej : ((j : Int)).toNat - 0 = (said.take j).length := by simp; omega
    rw [eo, ej]
    refine ⟨_, r4.cell rfl, _, r4.cell rfl, _, _, _, r4.cell rfl, ⟨by omega, by omega⟩, (say_c o so c (sc - 0) p hv ht (by simp; omega) said[j] w4 ((h.grow g).grow G4) (((hs'.grow g).grow G4).take j)).mono ?_⟩
    rintro _ w5 ⟨rfl, g5⟩
    have G5 := G4.trans' g5
    refine ⟨_, rfl, fun h1 => ⟨_, rfl, .inr (.inl ⟨⟨x, hE⟩, j, _, path, cur, last, List.getElem?_eq_getElem hlt, ht, rfl, nT h1⟩), g.trans' G5⟩, fun h1 => ?_⟩
    obtain ⟨q, xa, -, -, -, -, hT⟩ := sayE_ok ht (nF h1)
    rw [← take_snoc hlt] at hT
    exact ⟨_, by omega, j + 1, _, _, _, by rw [wr (by omega)]; omega, hlt, rfl, hT, G5⟩
  · have := dF hge
    obtain rfl : j = said.length := by omega
    rw [List.take_length] at ht
    exact ht
set_option maxHeartbeats 1000000 in
theorem range14_c (o so : Option Addr) (c sc : Nat) (p : Prot) {said path : List Int} {cur : Int} {last : Ans} (hf : FitP p) (hv : validB p = true) (ht : Talk p.qs said path cur last) (hl : said.length ≤ 1000) (w : World) {A A' : Nat → Prop} (h : Qs w A o p.qs) (hs' : Nums w A' so said) :
    Calls Try.prog 77 #[.agg #[.string p.name, .int .i64 p.version, .slice o p.qs.length c], .slice so said.length sc] w fun e w' => ∃ lo hi, e = .returned (.tuple #[.int .i64 lo, .int .i64 hi]) ∧ ((0 ≤ cur ∧ IsRange p cur lo hi) ∨ (cur = -1 ∧ lo = last.urg ∧ hi = last.urg)) ∧ Grow w w' := by
  have hb := ht.bound hv
  refine nf77 p.name p.version o p.qs.length c so said.length sc w _ fun w1 e1 => ?_
  have r := Row.new e1
  have g : Grow w w1 := only_alloc e1
  refine ⟨_, r.cell rfl, _, r.cell rfl, _, _, _, r.cell rfl, (at_c o so c sc p ht hl w1 (h.grow g) (hs'.grow g)).mono ?_⟩
  rintro _ w2 ⟨rfl, g2⟩
  refine ⟨_, _, _, _, _, rfl, fun w3 e3 => ⟨(Row.new e3).there (by simp), fun w4 e4 => ?_⟩⟩
  obtain ⟨r4, g4⟩ := loc e3 e4 rfl
  have G := (g.trans' g2).trans' g4
  have rp := (r.grow g2).grow g4
  refine ⟨fun h1 w5 e5 => ?_, fun h1 => ⟨_, rp.cell rfl, _, rp.cell rfl, _, _, _, rp.cell rfl, (range_c o c p cur hf w4 (h.grow G)).mono ?_⟩⟩
  · have g5 : Grow w4 w5 := only_drew e5
    have r5 := r4.grow g5
    exact ⟨_, r5.cell rfl, _, r5.cell rfl, _, _, rfl, .inr ⟨by have := dT h1; omega, rfl, rfl⟩, G.trans' g5⟩
  · rintro _ w5 ⟨lo, hi, rfl, hR, g5⟩
    exact ⟨_, _, rfl, _, _, rfl, .inl ⟨by have := dF h1; omega, hR⟩, G.trans' g5⟩
theorem numbers_c (o o' : Option Addr) (c c' : Nat) (xs : List Int) (hl : xs.length ≤ 1000) (w : World) {A A' : Nat → Prop} (h : Nums w A o xs) (h' : Nums w A' o' xs) :
    Calls Try.prog 79 #[.slice o xs.length c, .slice o' xs.length c'] w fun e w' => e = .returned (.bool true) ∧ Grow w w' := by
  refine nf79 o xs.length c o' xs.length c' w _ ⟨fun h1 => absurd rfl (nT h1), fun h1 => ⟨fun k x w' => ∃ j : Nat, x = (j : Int) ∧ j ≤ xs.length ∧ k = xs.length - j ∧ Grow w w', ⟨_, 0, rfl, Nat.zero_le _, rfl, Only.refl _ _⟩, ?_⟩⟩
  rintro k _ w1 x ⟨j, rfl, hj, rfl, g1⟩
  refine ⟨fun hlt w2 e2 => ?_, fun hge => ⟨rfl, g1⟩⟩
  have hlt : j < xs.length := by have := dT hlt; omega
  have g2 : Grow w w2 := g1.trans' (only_drew e2)
  obtain ⟨a, ha, hc⟩ := (h.grow g2).get hlt
  obtain ⟨a', ha', hc'⟩ := (h'.grow g2).get hlt
  exact ⟨a, ha, ⟨by omega, by omega⟩, _, hc, a', ha', ⟨by omega, by omega⟩, _, hc', fun h1 => absurd rfl (nT h1), fun _ => ⟨_, by omega, j + 1, by rw [wr (by omega)]; omega, hlt, rfl, g2⟩⟩
theorem eqQuestion_c (o o' : Option Addr) (c c' : Nat) (q : Qst) (hl : q.ans.length ≤ 1000) (w : World) {A A' : Nat → Prop} (h : Recs w A o 4 (q.ans.map encA)) (h' : Recs w A' o' 4 (q.ans.map encA)) :
    Calls Try.prog 80 #[.agg #[.string q.text, .slice o q.ans.length c], .agg #[.string q.text, .slice o' q.ans.length c']] w fun e w' => e = .returned (.bool true) ∧ Grow w w' := by
  refine nf80 q.text o q.ans.length c q.text o' q.ans.length c' w _ fun w1 e1 w3 e3 => ?_
  have r1 := Row.new e1
  have r3 := Row.new e3
  have g1 : Grow w w1 := only_alloc e1
  have g3 : Grow w1 w3 := only_alloc e3
  have r13 := r1.grow g3
  have G := g1.trans' g3
  have es : (!strEq q.text q.text) = false := by rw [strEq_refl]; rfl
  refine ⟨_, r13.cell rfl, _, r3.cell rfl, fun h1 => (by rw [es] at h1; cases h1), fun _ => ⟨_, _, _, r13.cell rfl, _, _, _, r3.cell rfl, fun h1 => absurd rfl (nT h1), fun _ => ⟨_, _, _, r13.cell rfl, fun k x w' => ∃ j : Nat, x = (j : Int) ∧ j ≤ q.ans.length ∧ k = q.ans.length - j ∧ Grow w3 w', ⟨_, 0, rfl, Nat.zero_le _, rfl, Only.refl _ _⟩, ?_⟩⟩⟩
  rintro k _ w4 x ⟨j, rfl, hj, rfl, g4⟩
  refine ⟨fun hlt w5 e5 => ?_, fun hge => ⟨rfl, G.trans' g4⟩⟩
  have hlt : j < q.ans.length := by have := dT hlt; omega
  have g5 : Grow w3 w5 := g4.trans' (only_drew e5)
  obtain ⟨a, ha, d0, d1, d2, d3⟩ := Recs.ans ((h.grow G).grow g5) hlt
  obtain ⟨a', ha', d0', d1', d2', d3'⟩ := Recs.ans ((h'.grow G).grow g5) hlt
  have ee : ∀ x : Ans, (!(andB (strEq x.text x.text) (andB (decide (x.next = x.next)) (andB (decide (x.urg = x.urg)) (strEq x.code x.code))))) = false := fun x => by simp [andB, strEq_refl]
  exact ⟨_, _, _, (r13.grow g5).cell rfl, a, ha, ⟨by omega, by omega⟩, _, d0, _, d1, _, d2, _, d3, _, _, _, (r3.grow g5).cell rfl, a', ha', ⟨by omega, by omega⟩, _, d0', _, d1', _, d2', _, d3', fun h1 => (by rw [ee] at h1; cases h1), fun _ => ⟨_, by omega, j + 1, by rw [wr (by omega)]; omega, hlt, rfl, g5⟩⟩
end Go.Proofs.Ytbaacpfjecbbgaa
