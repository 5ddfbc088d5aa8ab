/- The reference's next way. -/
import Derived.Test.YtbaacpfjecbbgaaMn
namespace Go.Proofs.Ytbaacpfjecbbgaa
open Go Go.Nf

theorem cell_lt' {w : World} {a : Addr} {v : Value} (h : w.cell? a = some v) : a.block < hs w := by
  rcases Nat.lt_or_ge a.block w.heap.size with hb | hb
  · exact hb
  · unfold World.cell? at h
    rw [Array.getElem?_eq_none hb] at h
    cases h
theorem Leads.one {qs : List Qst} {q : Nat} {w : List Int} {t : Int} (h : Leads qs q w t) : ∀ {t' : Int}, Leads qs q w t' → t = t' := by
  induction h with
  | nil q => intro t' h'; cases h'; rfl
  | stop hq ha hn =>
    intro t' h'
    cases h' with
    | stop hq' ha' hn' => rfl
    | go hq' ha' hn' h' =>
      rw [hq] at hq'; cases hq'
      rw [ha] at ha'; cases ha'
      omega
  | go hq ha hn _ ih =>
    intro t' h'
    cases h' with
    | stop hq' ha' hn' =>
      rw [hq] at hq'; cases hq'
      rw [ha] at ha'; cases ha'
      omega
    | go hq' ha' hn' h' =>
      rw [hq] at hq'; cases hq'
      rw [ha] at ha'; cases ha'
      exact ih h'
theorem Leads.at {qs : List Qst} (hneg : ∀ s a, s ∈ qs → a ∈ s.ans → a.next < 0 → a.next = -1) {q : Nat} {w : List Int} {t : Int} (h : Leads qs q w t) : ∀ (j : Nat), j < w.length → ∃ (qj k : Nat) (s : Qst) (a : Ans), Leads qs q (w.take j) qj ∧ w[j]? = some (k : Int) ∧ qs[qj]? = some s ∧ s.ans[k]? = some a ∧ Leads qs q (w.take (j + 1)) a.next := by
  induction h with
  | nil q => intro j hj; simp at hj
  | @stop q k s a hq ha hn =>
    intro j hj
    obtain rfl : j = 0 := by simp at hj; omega
    refine ⟨q, k, s, a, .nil q, rfl, hq, ha, ?_⟩
    rw [hneg s a (List.mem_of_getElem? hq) (List.mem_of_getElem? ha) hn]
    exact .stop hq ha hn
  | @go q k s a w t hq ha hn _ ih =>
    intro j hj
    cases j with
    | zero =>
      refine ⟨q, k, s, a, .nil q, rfl, hq, ha, ?_⟩
      have := Leads.go hq ha hn (Leads.nil (qs := qs) a.next.toNat)
      rw [Int.toNat_of_nonneg hn] at this
      simpa using this
    | succ j =>
      obtain ⟨qj, k', s', a', h1, h2, h3, h4, h5⟩ := ih j (by simpa using hj)
      exact ⟨qj, k', s', a', .go hq ha hn h1, by simpa using h2, h3, h4, .go hq ha hn h5⟩
theorem Pth.at {qs : List Qst} {q : Nat} {w : List Int} {ql : List Nat} (h : Pth qs q w ql) : ∀ (i : Nat), i < w.length → ∃ (k qi : Nat) (s : Qst) (a : Ans), w[i]? = some (k : Int) ∧ ql[i]? = some qi ∧ qs[qi]? = some s ∧ s.ans[k]? = some a ∧ (i + 1 < w.length → 0 ≤ a.next ∧ ql[i + 1]? = some a.next.toNat) := by
  induction h with
  | @stop q k s a hq ha hn =>
    intro i hi
    obtain rfl : i = 0 := by simp at hi; omega
    exact ⟨k, q, s, a, rfl, rfl, hq, ha, fun h => by simp at h⟩
  | @go q k s a w ql hq ha hn hp ih =>
    intro i hi
    cases i with
    | zero =>
      refine ⟨k, q, s, a, rfl, rfl, hq, ha, fun h => ⟨hn, ?_⟩⟩
      cases hp <;> rfl
    | succ i =>
      obtain ⟨k', qi, s', a', h1, h2, h3, h4, h5⟩ := ih i (by simpa using hi)
      exact ⟨k', qi, s', a', by simpa using h1, by simpa using h2, h3, h4, fun h => by simpa using h5 (by simpa using h)⟩
theorem Pth.first {qs : List Qst} {q : Nat} {w : List Int} {ql : List Nat} (h : Pth qs q w ql) : ql[0]? = some q ∧ 1 ≤ w.length := by cases h <;> exact ⟨rfl, by simp⟩
theorem Nums.take {w : World} {A : Nat → Prop} {o : Option Addr} {xs : List Int} (h : Nums w A o xs) (j : Nat) : Nums w A o (xs.take j) := fun i v hi => by
  rw [List.getElem?_take] at hi
  split at hi
  · exact h i v hi
  · cases hi
/-- what comes behind a way: the next, or none; the first behind no way -/
def Step (p : Prot) (way : List Int) (res : Option (List Int)) : Prop :=
  (way = [] ∧ ∃ v, res = some v ∧ Lf p.qs 0 v) ∨ ∃ ql, Pth p.qs 0 way ql ∧ ((∃ (j : Nat) (k : Int) (qj : Nat) (s : Qst) (t : Int) (suf : List Int), way[j]? = some k ∧ ql[j]? = some qj ∧ p.qs[qj]? = some s ∧ k + 1 < s.ans.length ∧ Full p.qs way ql (j + 1) ∧ Leads p.qs 0 (way.take j ++ [k + 1]) t ∧ Tail p.qs t suf ∧ res = some (way.take j ++ [k + 1] ++ suf)) ∨ (Full p.qs way ql 0 ∧ res = none))
def NextRet (B : Nat) (w : World) (res : Option (List Int)) (e : Ending) : Prop :=
  match res with
  | none => e = .returned (.tuple #[.slice none 0 0, .bool false])
  | some v => ∃ o c, e = .returned (.tuple #[.slice o v.length c, .bool true]) ∧ Own w B 3 1 o v.length c (intsV v)
set_option maxHeartbeats 8000000 in
theorem next100_c (o ow : Option Addr) (c cw : Nat) (p : Prot) (hv : validB p = true) (way : List Int) (res : Option (List Int)) (hS : Step p way res) (hl : way.length ≤ 100) (hrl : ∀ v, res = some v → v.length ≤ 100) (hcw : way.length ≤ cw) (w : World) {A A' : Nat → Prop} (h : Qs w A o p.qs) (hs' : Nums w A' ow way) :
    Calls Try.prog 100 #[.agg #[.string p.name, .int .i64 p.version, .slice o p.qs.length c], .slice ow way.length cw] w fun e w' => NextRet (hs w) w' res e ∧ Grow w w' := by
  have V := valid_of hv
  have htop := V.top
  have hpos := V.pos
  have hneg : ∀ s a, s ∈ p.qs → a ∈ s.ans → a.next < 0 → a.next = -1 := fun s a hs ha hn => by have := (ok_ans hv hs ha).low; omega
  refine nf100 p.name p.version o p.qs.length c ow way.length cw w _ fun w1 e1 w3 e3 K5 hK5 => ?_
  have r1 := Row.new e1
  have g1 : Grow w w1 := only_alloc e1
  have g3 : Grow w1 w3 := only_alloc e3
  have re : Row w3 (hs w1) 3 (intsV []) := Row.new e3
  have G3 := g1.trans' g3
  have s1 := g1.size
  have sl1 := r1.lt
  have s3 := g3.size
  have qat : ∀ {w' : World} {q : Nat} {s : Qst}, Grow w w' → p.qs[q]? = some s → q < p.qs.length ∧ s.ans.length ≤ 20 ∧ s ∈ p.qs ∧ ∃ a oi ci, o = some a ∧ w'.cell? ((a.add ((q : Int).toNat * 2)).add 1) = some (.slice oi s.ans.length ci) ∧ Recs w' A oi 4 (s.ans.map encA) := fun {w' q s} g hq => by
    obtain ⟨hlt, a, oi, ci, ha, -, hc, -, hr⟩ := qs_at (h.grow g) hq
    have hm := List.mem_of_getElem? hq
    exact ⟨hlt, V.ans _ hm, hm, a, oi, ci, ha, hc, hr⟩
  -- from the answers that are given on to the end
  have fin : ∀ (pre suf : List Int) (t : Int) (o8 : Option Addr) (c8 : Nat) (w7 : World), Grow w1 w7 → Own w7 (hs w1) 3 1 o8 pre.length c8 (intsV pre) → Leads p.qs 0 pre t → Tail p.qs t suf → res = some (pre ++ suf) → K5 o8 pre.length c8 w7 := by
    intro pre suf t o8 c8 w7 g7 own7 hLd hTl hres
    have hrl := hrl _ hres
    have hpl : pre.length + suf.length ≤ 100 := by simpa using hrl
    have s7 := g7.size
    refine hK5 _ _ _ _ fun _ => ⟨fun k x y w' => ∃ j : Nat, y = (j : Int) ∧ j ≤ pre.length ∧ k = pre.length - j ∧ Leads p.qs 0 (pre.take j) x ∧ Grow w7 w', ⟨_, 0, rfl, Nat.zero_le _, rfl, .nil 0, Only.refl _ _⟩, ?_⟩
    rintro k _ w17 x _ ⟨j, rfl, hj, rfl, hx, g17⟩
    refine ⟨fun hlt w22 e22 => ?_, fun hge => ?_⟩
    · have hlt : j < pre.length := by have := dT hlt; omega
      have g22 : Grow w7 w22 := g17.trans' (only_drew e22)
      have r22 := r1.grow (g7.trans' g22)
      obtain ⟨qj, k, s, a, l1, l2, l3, l4, l5⟩ := hLd.at hneg j hlt
      obtain rfl := hx.one l1
      obtain ⟨hq, h20, -, a27, oi, ci, ha27, hc, hr⟩ := qat (g1.trans' (g7.trans' g22)) l3
      obtain ⟨hk, a33, ha33, -, -, d1, -, -⟩ := ans_at hr l4
      obtain ⟨a31, ha31, hc31⟩ := ((own7.grow g22).nums).get hlt
      have e31 : pre[j] = (k : Int) := by
        rw [List.getElem?_eq_getElem hlt] at l2
        exact Option.some.inj l2
      rw [e31] at hc31
      exact ⟨_, _, _, r22.cell rfl, a27, ha27, ⟨by omega, by omega⟩, _, _, _, hc, a31, ha31, ⟨by omega, by omega⟩, _, hc31, a33, ha33, ⟨by omega, by omega⟩, _, d1, _, by omega, j + 1, by rw [wr (by omega)]; omega, hlt, rfl, l5, g22⟩
    · have := dF hge
      obtain rfl : j = pre.length := by omega
      rw [List.take_length] at hx
      obtain rfl := hx.one hLd
      refine ⟨fun k o' n' c' x w' => ∃ out rest : List Int, k = rest.length ∧ n' = out.length ∧ pre ++ suf = out ++ rest ∧ Tail p.qs x rest ∧ Own w' (hs w1) 3 1 o' out.length c' (intsV out) ∧ Only (fun b => hs w1 ≤ b) w7 w', ⟨_, pre, suf, rfl, rfl, rfl, hTl, own7.grow g17, Grow.only g17⟩, ?_⟩
      rintro n _ w41 o41 n41 c41 x41 ⟨out, rest, rfl, rfl, hsp, hT, own41, g41⟩
      have G41 : Grow w w41 := (g1.trans' g7).trans g41 fun b hb hh => by omega
      have hol : out.length + rest.length ≤ 100 := by
        have := congrArg List.length hsp
        simp at this
        omega
      have s41 := g41.size
      refine ⟨fun hx => ?_, fun hx => ?_⟩
      · have hx := nT hx
        rcases hT with ⟨h1, -⟩ | ⟨q, rfl, hL⟩
        · exact absurd h1 hx
        intro w48 e48
        obtain ⟨s, a, rest', hqs, ha, rfl, hT'⟩ : ∃ s a rest', p.qs[q]? = some s ∧ s.ans[0]? = some a ∧ rest = 0 :: rest' ∧ Tail p.qs a.next rest' := by
          cases hL with
          | stop hq ha hn => exact ⟨_, _, [], hq, ha, rfl, .inl ⟨hneg _ _ (List.mem_of_getElem? hq) (List.mem_of_getElem? ha) hn, rfl⟩⟩
          | go hq ha hn h => exact ⟨_, _, _, hq, ha, rfl, .inr ⟨_, (Int.toNat_of_nonneg hn).symm, h⟩⟩
        refine push_int (x := 0) own41 e48 (by omega) (by omega) fun o51 c51 w51 p1 p2 => ⟨_, _, _, rfl, ?_⟩
        have g51 : Only (fun b => hs w1 ≤ b) w7 w51 := g41.trans' (p2.mono fun b _ hb => (own41.base b hb).1)
        have r51 : Row w51 (hs w) 24 [.string p.name, .int .i64 p.version, .slice o p.qs.length c] := (r1.grow g7).keep g51 (by omega)
        have G51 : Grow w w51 := (g1.trans' g7).trans g51 fun b hb hh => by omega
        obtain ⟨hq, h20, -, a58, oi, ci, ha58, hc, hr⟩ := qat G51 hqs
        obtain ⟨h0, a62, ha62, -, -, d1, -, -⟩ := ans_at hr ha
        rw [show ((0 : Nat) : Int).toNat * 4 = 0 from rfl, add_zero] at d1
        refine ⟨_, _, _, r51.cell rfl, a58, ha58, ⟨by omega, by omega⟩, _, _, _, hc, a62, ha62, ⟨by omega, by omega⟩, _, d1, rest'.length, by simp, out ++ [0], rest', rfl, by simp, by rw [hsp]; simp, hT', ?_, g51⟩
        have e : (out ++ [(0 : Int)]).length = out.length + 1 := by simp
        rw [e]; exact p1
      · have hx := nF hx
        rcases hT with ⟨-, rfl⟩ | ⟨q, hq, -⟩
        · rw [hres, hsp, List.append_nil]
          exact ⟨⟨_, _, rfl, own41.mono (by omega)⟩, G41⟩
        · omega
  have own3 : Own w3 (hs w1) 3 1 (some ⟨hs w1, 0, none⟩) 0 0 (intsV []) := re.own (n := 0) (Nat.le_refl _) rfl (by simp [maxLen])
  refine ⟨fun hlt w67 e67 => ?_, fun hge => ?_⟩
  rotate_left
  · -- the first way
    have hw0 : way = [] := List.length_eq_zero_iff.1 (by have := dF hge; omega)
    rcases hS with ⟨-, v, hres, hL⟩ | ⟨ql, hP, -⟩
    · exact fin [] v 0 _ _ w3 g3 own3 (.nil 0) (.inr ⟨0, rfl, hL⟩) hres
    · have := hP.first.2
      rw [hw0] at this
      simp at this
  have hw1 : 1 ≤ way.length := by have := dT hlt; omega
  rcases hS with ⟨h0, -⟩ | ⟨ql, hP, hS⟩
  · rw [h0] at hw1; simp at hw1
  have hql := hP.len
  have g67 : Grow w3 w67 := only_alloc e67
  have s67 := g67.size
  have hq0 : ql.take 1 = [0] := by
    have := hP.first.1
    cases ql with
    | nil => simp at this
    | cons a l => simp at this; simp [this]
  have own67 : Own w67 (hs w3) 3 1 (some ⟨hs w3, 0, none⟩) 1 1 (intsV (castL (ql.take 1))) := by
    rw [hq0]
    exact (Row.new e67 : Row w67 (hs w3) 3 (intsV (castL [0]))).own (n := 1) (Nat.le_refl _) rfl (by simp [maxLen])
  have slt3 := re.lt
  refine ⟨fun k o' n' c' x w' => ∃ i : Nat, x = (i : Int) ∧ i < way.length ∧ n' = i + 1 ∧ k = way.length - i ∧ Own w' (hs w3) 3 1 o' (i + 1) c' (intsV (castL (ql.take (i + 1)))) ∧ Only (fun b => hs w3 ≤ b) w67 w', ⟨_, 0, rfl, by omega, rfl, rfl, own67, Only.refl _ _⟩, ?_⟩
  rintro n _ w73 o73 n73 c73 _ ⟨i, rfl, hi, rfl, rfl, own73, g73⟩
  have G73 : Grow w1 w73 := (g3.trans' g67).trans g73 fun b hb hh => by omega
  have s73 := g73.size
  have qiat : ∀ {w' : World} (i' : Nat) (hi' : i' ≤ i), Grow w73 w' → ∀ q, ql[i']? = some q → ∃ a, o73 = some a ∧ w'.cell? (a.add ((i' : Int).toNat * 1)) = some (.int .i64 (q : Int)) := fun {w'} i' hi' g q hq => by
    have hlen : (castL (ql.take (i + 1))).length = i + 1 := by rw [castL_len, List.length_take]; omega
    obtain ⟨a, ha, hc⟩ := ((own73.grow g).nums).get (j := i') (by omega)
    refine ⟨a, ha, ?_⟩
    rw [castL_get (by rw [List.length_take]; omega)] at hc
    rw [List.getElem_take] at hc
    have : ql[i'] = q := by
      rw [List.getElem?_eq_getElem (by omega)] at hq
      exact Option.some.inj hq
    rw [this] at hc
    exact hc
  have wat : ∀ {w' : World} (i' : Nat), Grow w w' → ∀ k : Nat, way[i']? = some (k : Int) → ∃ a, ow = some a ∧ w'.cell? (a.add ((i' : Int).toNat * 1)) = some (.int .i64 (k : Int)) := fun {w'} i' g k hk => by
    have hil : i' < way.length := by
      rcases Nat.lt_or_ge i' way.length with h | h
      · exact h
      · rw [List.getElem?_eq_none h] at hk; cases hk
    obtain ⟨a, ha, hc⟩ := (hs'.grow g).get hil
    rw [List.getElem?_eq_getElem hil] at hk
    rw [Option.some.inj hk] at hc
    exact ⟨a, ha, hc⟩
  have ewr : IntKind.wrap .i64 ((i : Int) + 1) = ((i + 1 : Nat) : Int) := by rw [wr (by omega)]; omega
  refine ⟨fun hlt2 w80 e80 => ?_, fun hge2 => ?_⟩
  · rw [ewr] at hlt2
    have hlt2 : i + 1 < way.length := by have := dT hlt2; omega
    have g80 : Grow w73 w80 := only_drew e80
    have G80 := G73.trans' g80
    have r80 := r1.grow G80
    obtain ⟨k, qi, s, a, m1, m2, m3, m4, m5⟩ := hP.at i hi
    obtain ⟨hn, m6⟩ := m5 hlt2
    obtain ⟨hq, h20, -, a87, oi, ci, ha87, hc, hr⟩ := qat (g1.trans' G80) m3
    obtain ⟨hk, a93, ha93, -, -, d1, -, -⟩ := ans_at hr m4
    obtain ⟨a85, ha85, hc85⟩ := qiat i (Nat.le_refl _) g80 qi m2
    obtain ⟨a91, ha91, hc91⟩ := wat i (g1.trans' G80) k m1
    refine ⟨_, _, _, r80.cell rfl, a85, ha85, ⟨by omega, by omega⟩, _, hc85, a87, ha87, ⟨by omega, by omega⟩, _, _, _, hc, a91, ha91, ⟨by omega, by omega⟩, _, hc91, a93, ha93, ⟨by omega, by omega⟩, _, d1, fun w95 e95 => ?_⟩
    have own80 := own73.grow g80
    have s80 := g80.size
    refine push_int own80 e95 (by omega) (by omega) fun o99 c99 w98 p1 p2 => ⟨_, _, _, rfl, way.length - (i + 1), by omega, i + 1, ewr, hlt2, rfl, rfl, ?_, (g73.grow g80).trans' (p2.mono fun b _ hb => (own80.base b hb).1)⟩
    have e : castL (ql.take (i + 1)) ++ [a.next] = castL (ql.take (i + 1 + 1)) := by
      have e2 : ql.take (i + 1 + 1) = ql.take (i + 1) ++ (ql[i + 1]?).toList := List.take_add_one
      rw [e2, m6]
      simp [castL, Int.toNat_of_nonneg hn]
    rw [e] at p1
    exact p1
  · rw [ewr] at hge2
    have hlast : i + 1 = way.length := by have := dF hge2; omega
    have G73' := g1.trans' G73
    refine ⟨fun k x w' => ∃ d : Nat, x = (d : Int) - 1 ∧ d ≤ way.length ∧ k = d ∧ Full p.qs way ql d ∧ Grow w73 w', ⟨_, way.length, by rw [wr (by omega)], Nat.le_refl _, rfl, fun i k q s hi h1 => (by rw [List.getElem?_eq_none hi] at h1; cases h1), Only.refl _ _⟩, ?_⟩
    rintro d _ w108 _ ⟨d0, rfl, hd, rfl, hF, g108⟩
    intro w111 e111
    have g111 : Grow w73 w111 := g108.trans' (only_drew e111)
    have G111 := G73'.trans' g111
    refine ⟨fun hpos' => ?_, fun hneg' => ⟨fun _ => ?_, fun hh => absurd (dF hneg') (by have := dF hh; omega)⟩⟩
    · have hd1 : 1 ≤ d := by have := dT hpos'; omega
      obtain ⟨k, qi, s, a, m1, m2, m3, m4, -⟩ := hP.at (d - 1) (by omega)
      have ed : (d : Int) - 1 = ((d - 1 : Nat) : Int) := by omega
      rw [ed]
      have r111 := r1.grow (G73.trans' g111)
      obtain ⟨hq, h20, -, a121, oi, ci, ha121, hc, hr⟩ := qat G111 m3
      obtain ⟨hk, -⟩ := ans_at hr m4
      obtain ⟨a119, ha119, hc119⟩ := qiat (d - 1) (by omega) g111 qi m2
      obtain ⟨a114, ha114, hc114⟩ := wat (d - 1) G111 k m1
      have ek : IntKind.wrap .i64 ((k : Int) + 1) = ((k + 1 : Nat) : Int) := wr (by omega)
      refine ⟨a114, ha114, ⟨by omega, by omega⟩, _, hc114, _, _, _, r111.cell rfl, a119, ha119, ⟨by omega, by omega⟩, _, hc119, a121, ha121, ⟨by omega, by omega⟩, _, _, _, hc, fun hfull => ?_, fun hgr => ⟨fun hh => absurd (dT hh) (by omega), fun _ w130 e130 => ?_⟩⟩
      · rw [ek] at hfull
        have hfull := dT hfull
        refine ⟨d - 1, by omega, d - 1, wr (by omega), by omega, rfl, fun i' k' q' s' hi' h1 h2 h3 => ?_, g111⟩
        by_cases e : i' = d - 1
        · subst e
          rw [m1] at h1; cases h1
          rw [m2] at h2; cases h2
          rw [m3] at h3; cases h3
          omega
        · exact hF i' k' q' s' (by omega) h1 h2 h3
      · -- here is a greater answer
        rw [ek] at hgr
        have hgr : k + 1 < s.ans.length := by have := dF hgr; omega
        have hS : ∃ (t : Int) (suf : List Int), Leads p.qs 0 (way.take (d - 1) ++ [(k : Int) + 1]) t ∧ Tail p.qs t suf ∧ res = some (way.take (d - 1) ++ [(k : Int) + 1] ++ suf) := by
          rcases hS with ⟨j, k', qj, s', t, suf, n1, n2, n3, n4, n5, n6, n7, n8⟩ | ⟨hF0, -⟩
          · have : j = d - 1 := by
              rcases Nat.lt_trichotomy j (d - 1) with hj | hj | hj
              · have := n5 (d - 1) k qi s (by omega) m1 m2 m3
                omega
              · exact hj
              · have := hF j k' qj s' (by omega) n1 n2 n3
                omega
            subst this
            rw [m1] at n1; cases n1
            exact ⟨t, suf, n6, n7, n8⟩
          · have := hF0 (d - 1) k qi s (Nat.zero_le _) m1 m2 m3
            omega
        obtain ⟨t, suf, n6, n7, n8⟩ := hS
        have g130 : Grow w73 w130 := g111.trans' (only_drew e130)
        have G130 := G73.trans' g130
        obtain ⟨a132, ha132, hc132⟩ := wat (d - 1) (g1.trans' G130) k m1
        have eo : (if cw = 0 then ow else Option.map (fun x => x) ow) = ow := by split <;> cases ow <;> rfl
        have el : (((d - 1 : Nat) : Int).toNat - 0) = (way.take (d - 1)).length := by rw [toNat_cast, List.length_take]; omega
        have htl : (way.take (d - 1)).length = d - 1 := by rw [List.length_take]; omega
        have ownE := (own3.grow g67).keep g73 fun b ⟨x, hx, hb⟩ hh => by cases hx; have hb : hs w1 = b := hb; omega
        have ownE130 := ownE.grow g130
        have s130 := G130.size
        have fin' : ∀ (o8 : Option Addr) (c8 : Nat) (w7 : World), Grow w1 w7 → Own w7 (hs w1) 3 1 o8 (d - 1 + 1) c8 (intsV (way.take (d - 1) ++ [(k : Int) + 1])) → K5 o8 (d - 1 + 1) c8 w7 := fun o8 c8 w7 q1 q2 => by
          have e : (way.take (d - 1) ++ [(k : Int) + 1]).length = d - 1 + 1 := by simp; omega
          have := fin (way.take (d - 1) ++ [(k : Int) + 1]) suf t o8 c8 w7 q1 (by rw [e]; exact q2) n6 n7 n8
          rw [e] at this
          exact this
        have ek' : ((k + 1 : Nat) : Int) = (k : Int) + 1 := by omega
        have ekk : IntKind.wrap .i64 ((k : Int) + 1) = (k : Int) + 1 := by rw [wr (by omega)]
        obtain ⟨ab, hab, hcb⟩ := hs'.get (j := d - 1) (by omega)
        rw [ha132] at hab
        cases hab
        have hbl := cell_lt' hcb
        rw [block_add1] at hbl
        have sE := G130.size
        have s7130 := g130.size
        rw [eo, el]
        refine ⟨⟨by omega, by omega⟩, a132, ha132, ⟨by omega, by omega⟩, _, hc132, ?_, fun w146 e146 => ?_⟩
        · refine append_nums elem48 ownE130 ((hs'.grow (g1.trans' G130)).take (d - 1)) (by rw [htl]; simp [maxLen]; omega) (by rw [htl]; omega) sE fun o135 c135 w135 p1 p2 => ⟨_, _, _, rfl, kept_addr p2 (by rw [block_add1]; omega) (fun ⟨x, hx, hb⟩ => by cases hx; have hb : hs w1 = _ := hb; rw [block_add1] at hb; omega), fun w139 e139 => ?_⟩
          rw [ekk] at e139
          rw [Nat.zero_add, htl, List.nil_append] at p1
          rw [Nat.zero_add, htl]
          have q0 : Grow w1 w135 := G130.trans p2 fun b hb ⟨x, hx, hh⟩ => by cases hx; have hh : hs w1 = b := hh; omega
          refine push_int p1 e139 (by omega) (by have := q0.size; omega) fun o' c' w142 q1 q2 => ⟨_, _, _, rfl, fin' _ _ _ (q0.trans q2 fun b hb hh => by have := (p1.base b hh).1; omega) q1⟩
        · rw [ekk] at e146
          have g146 : Grow w130 w146 := only_alloc e146
          have r146 : Row w146 (hs w130) 3 [.int .i64 ((k : Int) + 1)] := Row.new e146
          have s146 := g146.size
          refine append_nums elem48 (ownE130.grow g146) (((hs'.grow (g1.trans' G130)).grow g146).take (d - 1)) (by rw [htl]; simp [maxLen]; omega) (by rw [htl]; omega) (by omega) fun o149 c149 w149 p1 p2 => ⟨_, _, _, rfl, ?_⟩
          rw [Nat.zero_add, htl, List.nil_append] at p1
          rw [Nat.zero_add, htl]
          have q0 : Grow w1 w149 := (G130.trans' g146).trans p2 fun b hb ⟨x, hx, hh⟩ => by cases hx; have hh : hs w1 = b := hh; omega
          have r149 := r146.keep p2 fun ⟨x, hx, hh⟩ => by cases hx; have hh : hs w1 = hs w130 := hh; omega
          refine run_append_row (m := 1) (cx := 1) elem48 p1 r149 rfl (by simp [Value.oneCell']) (by simp [maxLen]; omega) (by omega) (by have := q0.size; omega) fun o' c' w154 q1 q2 _ => ⟨_, _, _, rfl, fin' _ _ _ (q0.trans q2 fun b hb hh => by have := (p1.base b hh).1; omega) ?_⟩
          have e : intsV (way.take (d - 1)) ++ [.int .i64 ((k : Int) + 1)] = intsV (way.take (d - 1) ++ [(k : Int) + 1]) := by simp [intsV]
          rw [← e]
          exact q1
    · -- there is none
      have hd0 : d = 0 := by have := dF hneg'; omega
      subst hd0
      rcases hS with ⟨j, k', qj, s', t, suf, n1, n2, n3, n4, -⟩ | ⟨-, hres⟩
      · have := hF j k' qj s' (Nat.zero_le _) n1 n2 n3
        omega
      · rw [hres]
        exact ⟨rfl, G111⟩
end Go.Proofs.Ytbaacpfjecbbgaa
