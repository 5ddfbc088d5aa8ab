/- The law. -/
import Derived.Test.YtcaokpglbolkcaaTw
import Derived.Test.YtcaokpglbolkcaaNfX
namespace Go.Proofs.Ytcaokpglbolkcaa
open Go Go.Nf Go.RowKit

theorem und27 : Try.prog.underlying 27 = some (.map 3 4) := of_map (by kernel_rfl)
theorem und30 : Try.prog.underlying 30 = some (.map 2 4) := of_map (by kernel_rfl)
theorem zeroV4 (w : World) : (zeroValue 4).run Try.prog w = .ok (.bool false) w := run_zeroV (by kernel_rfl) w
theorem one_encC (l : List Cho) : ∀ u ∈ l.flatMap encC, u.oneCell' = true := fun u hu => by
  obtain ⟨x, -, hx⟩ := List.mem_flatMap.1 hu
  simp only [encC, List.mem_cons, List.not_mem_nil, or_false] at hx
  rcases hx with rfl | rfl | rfl | rfl <;> rfl
theorem set_midI (A : List Int) (x y : Int) (R : List Int) : ((A ++ [x]) ++ R).set A.length y = (A ++ [y]) ++ R := by
  rw [List.set_append_left _ _ (by simp), List.set_append_right _ _ (Nat.le_refl _), Nat.sub_self]
  rfl
theorem ids_take {α : Type} (f : α → Int) {l : List α} {i : Nat} (h : i < l.length) (hn : ((l.take i).map f).Nodup) (hx : f l[i] ∉ (l.take i).map f) : ((l.take (i + 1)).map f).Nodup := by
  rw [List.take_succ_eq_append_getElem h, List.map_append, List.nodup_append]
  refine ⟨hn, by simp, fun a ha b hb e => hx ?_⟩
  simp only [List.map_cons, List.map_nil, List.mem_singleton] at hb
  rw [← hb, ← e]
  exact ha
set_option maxHeartbeats 16000000 in
set_option maxRecDepth 4000 in
theorem law3_c (o0 : Option Addr) (c0 : Nat) (E : List Edg) (o1 : Option Addr) (c1 : Nat) (l : List Inc) (o2 : Option Addr) (c2 : Nat) (us : List Un) (w : World) {A B C : Nat → Prop} (h0 : Edgs w A o0 E) (h1 : Incs w B o1 l) (h2 : Uns w C o2 us) :
    Calls Try.prog 3 #[.slice o0 E.length c0, .slice o1 l.length c1, .slice o2 us.length c2] w fun e w' => e = .returned (.bool true) ∧ Grow w w' := by
  refine nf3 o0 E.length c0 o1 l.length c1 o2 us.length c2 w _ ((awake_c w).mono ?_)
  rintro _ _ ⟨rfl, rfl⟩
  refine ⟨_, rfl, fun _ => (few_c o0 E.length c0 w).mono ?_, fun k => by cases k⟩
  rintro _ _ ⟨rfl, rfl⟩
  refine ⟨_, rfl, fun hf => ⟨fun _ => ⟨rfl, Only.refl _ _⟩, fun hl5 => ⟨fun _ => ⟨rfl, Only.refl _ _⟩, fun hu6 w13 e13 => ?_⟩⟩, fun _ => ⟨rfl, Only.refl _ _⟩⟩
  have hE24 : E.length ≤ 24 := dT hf
  have hl5 : l.length ≤ 5 := by have := dF hl5; omega
  have hu6 : us.length ≤ 6 := by have := dF hu6; omega
  have g13 : Grow w w13 := only_alloc e13
  have z13 := hs_alloc e13
  -- the units' numbers
  refine ⟨fun m x w' => ∃ i : Nat, x = (i : Int) ∧ i ≤ us.length ∧ m = us.length - i ∧ ((us.take i).map (·.id)).Nodup ∧ (∃ ks, SetAt w' (hs w) ks ∧ ∀ k, k ∈ ks ↔ k ∈ (us.take i).map (·.id)) ∧ Grow w w', ⟨_, 0, rfl, Nat.zero_le _, rfl, by simp, ⟨[], set_new e13, fun k => by simp⟩, g13⟩, ?_⟩
  rintro m _ w19 _ ⟨i, rfl, hi, rfl, hnu, ⟨ks, hks, hkm⟩, g19⟩
  refine ⟨fun hlt => ?_, fun hge w55 e55 => ?_⟩
  · have hlt : i < us.length := by have := dT hlt; omega
    have hat := List.getElem?_eq_getElem hlt
    have hids := ids_take (fun u : Un => u.id) hlt hnu
    have hmt : ∀ k, k ∈ (us.take (i + 1)).map (·.id) ↔ k = us[i].id ∨ k ∈ (us.take i).map (·.id) := fun k => by
      rw [List.take_succ_eq_append_getElem hlt, List.map_append, List.mem_append, List.map_singleton, List.mem_singleton, or_comm]
    obtain ⟨a, ha, -, hc, hc0⟩ := Recs.atE (h2.grow g19) hat
    generalize us[i] = u at *
    refine ⟨a, ha, ⟨by omega, by omega⟩, _, hc0 _ rfl, _, hc 1 _ rfl, _, hc 2 _ rfl, _, hc 3 _ rfl, _, hc 4 _ rfl, _, hc 5 _ rfl, _, hc 6 _ rfl, _, hc 7 _ rfl, _, hc 8 _ rfl, _, hc 9 _ rfl, fun w34 e34 => ⟨(Row.new e34).there (by simp), fun w36 e36 => ?_⟩⟩
    obtain ⟨r36, g36⟩ := loc (vs := encUn u) e34 e36 rfl
    refine ⟨_, r36.cell rfl, set_has und27 und3 (zeroV4 w36) (hks.keep g36 fun h => h) ⟨_, rfl, fun _ => ⟨rfl, g19.trans' g36⟩, fun hb => ⟨_, r36.cell rfl, fun _ => ⟨rfl, g19.trans' g36⟩, fun _ => ⟨_, r36.cell rfl, fun _ => ⟨rfl, g19.trans' g36⟩, fun _ => ⟨_, r36.cell rfl, ?_⟩⟩⟩⟩⟩
    refine set_add und27 und3 (hks.keep g36 fun h => h) fun w52 hs52 o52 => ⟨_, by omega, i + 1, by rw [wr (by omega)]; omega, hlt, rfl, hids fun h => dF hb ((hkm _).2 h), ⟨_, hs52, fun k => ?_⟩, (g19.trans' g36).trans o52 fun b hb e => by omega⟩
    rw [hmt, List.mem_cons, hkm]
  have hil : i = us.length := by have := dF hge; omega
  subst hil
  rw [List.take_length] at hnu
  have g55 : Grow w19 w55 := only_alloc e55
  have G55 := g19.trans' g55
  have z19 := g19.size
  -- the incidents' numbers
  refine ⟨fun m x w' => ∃ i : Nat, x = (i : Int) ∧ i ≤ l.length ∧ m = l.length - i ∧ ((l.take i).map (·.id)).Nodup ∧ (∀ y ∈ l.take i, y.nodes.length ≤ 8) ∧ (∃ ks, SetAt w' (hs w19) ks ∧ ∀ k, k ∈ ks ↔ k ∈ (l.take i).map (·.id)) ∧ Grow w w', ⟨_, 0, rfl, Nat.zero_le _, rfl, by simp, by simp, ⟨[], set_new e55, fun k => by simp⟩, G55⟩, ?_⟩
  rintro m _ w61 _ ⟨i, rfl, hi, rfl, hnl, hN8, ⟨ks, hks, hkm⟩, g61⟩
  refine ⟨fun hlt => ?_, fun hge => ?_⟩
  · have hlt : i < l.length := by have := dT hlt; omega
    have hat := List.getElem?_eq_getElem hlt
    have hids := ids_take (fun u : Inc => u.id) hlt hnl
    have htk := List.take_succ_eq_append_getElem hlt
    have hmt : ∀ k, k ∈ (l.take (i + 1)).map (·.id) ↔ k = l[i].id ∨ k ∈ (l.take i).map (·.id) := fun k => by
      rw [List.take_succ_eq_append_getElem hlt, List.map_append, List.mem_append, List.map_singleton, List.mem_singleton, or_comm]
    obtain ⟨a, ha, -, hc, hc0⟩ := Recs.atE ((h1.grow g61).1) hat
    generalize l[i] = y at *
    refine ⟨a, ha, ⟨by omega, by omega⟩, _, hc0 _ rfl, _, hc 1 _ rfl, _, hc 2 _ rfl, _, _, _, hc 3 _ rfl, _, hc 4 _ rfl, _, hc 5 _ rfl, _, _, _, hc 6 _ rfl, _, _, _, hc 7 _ rfl, _, hc 8 _ rfl, _, hc 9 _ rfl, fun w34 e34 => ⟨(Row.new e34).there (by simp), fun w36 e36 => ?_⟩⟩
    obtain ⟨r36, g36⟩ := loc (vs := encInc y) e34 e36 rfl
    refine ⟨_, _, _, r36.cell rfl, fun _ => ⟨rfl, g61.trans' g36⟩, fun h8 => ⟨_, r36.cell rfl, fun _ => ⟨rfl, g61.trans' g36⟩, fun _ => ⟨_, r36.cell rfl, set_has und30 und2 (zeroV4 w36) (hks.keep g36 fun h => h) ⟨_, rfl, fun _ => ⟨rfl, g61.trans' g36⟩, fun hb => ⟨_, r36.cell rfl, ?_⟩⟩⟩⟩⟩
    refine set_add und30 und2 (hks.keep g36 fun h => h) fun w52 hs52 o52 => ⟨_, by omega, i + 1, by rw [wr (by omega)]; omega, hlt, rfl, hids fun h => dF hb ((hkm _).2 h), fun z hz => ?_, ⟨_, hs52, fun k => ?_⟩, (g61.trans' g36).trans o52 fun b hb e => by omega⟩
    · rw [htk] at hz
      rcases List.mem_append.1 hz with hz | hz
      · exact hN8 z hz
      · rw [List.mem_singleton] at hz
        rw [hz]
        have := dF h8
        omega
    · rw [hmt, List.mem_cons, hkm]
  have hil : i = l.length := by have := dF hge; omega
  subst hil
  rw [List.take_length] at hnl hN8
  have hN : ∀ x ∈ l, x.nodes.length ≤ 1000 := fun x hx => Nat.le_trans (hN8 x hx) (by decide)
  have z61 := g61.size
  -- the graph
  refine (New_c 8 (by omega) (by omega) o0 c0 E (by omega) w61 (h0.grow g61)).mono ?_
  rintro _ w106 ⟨g106, ⟨hpos, rfl⟩ | ⟨q, rfl, hG, hok⟩⟩
  · exact ⟨_, _, rfl, fun _ => ⟨fun _ => ⟨rfl, g61.trans' g106⟩, fun k => absurd (show ((E.length : Nat) : Int) > 0 by omega) (dF k)⟩, fun k => absurd (nF k) (by decide)⟩
  refine ⟨_, _, rfl, fun k => absurd rfl (nT k), fun _ => ⟨fun k => (by cases k), fun _ => ?_⟩⟩
  have G106 := g61.trans' g106
  refine (times7_c hG (by omega)).mono ?_
  rintro _ w118 ⟨bt, rfl, rt, g118⟩
  have G118 := G106.trans' g118
  obtain ⟨ts, hts⟩ : ∃ ts, ts = E.map (·.time) := ⟨_, rfl⟩
  rw [← hts] at rt
  have lts : ts.length = E.length := by rw [hts]; simp
  clear hts
  have hT : Nums w118 (fun b => b < hs w118) (some ⟨bt, 0, none⟩) ts := rt.nums rt.lt
  refine ⟨_, _, _, rfl, ?_⟩
  have hA := assign_c (hG.grow g118) (by omega : 8 ≤ 10) hok (by omega) (some ⟨bt, 0, none⟩) E.length ts hT o1 c1 l (h1.grow G118) (by omega) hN o2 c2 us (h2.grow G118) (by omega)
  rw [lts] at hA
  refine hA.mono ?_
  rintro _ w123 ⟨o124, c126, rfl, ownC, hBest, g123⟩
  have G123 := G118.trans' g123
  have hrest := asg_rest (E := E) (wt := wOf ts) (n := 8) (l := l) (us := us) 4
  have lcs := asgP_cho E (wOf ts) 8 l us 5
  obtain ⟨cs, hcs⟩ : ∃ cs, cs = (asgP E (wOf ts) 8 l us 5).2 := ⟨_, rfl⟩
  rw [← hcs] at ownC lcs ⊢
  have hrest : ∃ rest, cs = urgStep E (wOf ts) 8 l 1 us ++ rest ∧ ∀ c ∈ rest, ∃ x ∈ l, x.urg ≠ 1 ∧ c.inc = x.id := by rw [hcs]; exact hrest
  have lcs' : cs.length ≤ 25 := by omega
  refine ⟨_, _, _, rfl, ?_⟩
  have hV := check_all ((hG.grow g118).grow g123) (by omega : 8 ≤ 10) hok (by omega) (some ⟨bt, 0, none⟩) E.length ts (hT.grow g123) o1 c1 l (h1.grow G123) (by omega) hN o2 c2 us (h2.grow G123) (by omega) o124 c126 cs hcs (own_recs' encC_len (by decide) ownC)
  rw [lts] at hV
  refine hV.mono ?_
  rintro _ w128 ⟨rfl, g128⟩
  refine ⟨_, rfl, fun k => absurd rfl (nT k), fun _ => ?_⟩
  have G128 := G123.trans' g128
  -- the most urgent slots
  refine (slots_c o1 o2 c1 c2 l us (by omega) (by omega) hN w128 (h1.grow G128) (h2.grow G128)).mono ?_
  rintro _ w133 ⟨o134, c136, sl0, rfl, hS, hsl0, g133⟩
  have G133 := G128.trans' g133
  have lsl0 : sl0.length ≤ 5 := by
    have := congrArg List.length hsl0
    rw [List.length_map] at this
    have := slotsP_len l us
    omega
  have hfm := filter_map_pure sl0 1
  rw [hsl0] at hfm
  obtain ⟨p, hp⟩ : ∃ p : Slt → Bool, p = fun s => decide (s.urg = 1) := ⟨_, rfl⟩
  rw [← hp] at hfm
  refine ⟨_, _, _, rfl, fun m o6 n7 n8 x w' => ∃ i : Nat, x = (i : Int) ∧ i ≤ sl0.length ∧ m = sl0.length - i ∧ n7 = ((sl0.take i).filter p).length ∧ Own w' (hs w133) 46 5 o6 n7 n8 (((sl0.take i).filter p).flatMap encS) ∧ Grow w133 w', ⟨_, 0, rfl, Nat.zero_le _, rfl, rfl, own_nil _ _ _ _, Only.refl _ _⟩, ?_⟩
  rintro m _ w141 o142 n7 c144 x ⟨i, rfl, hi, rfl, rfl, own5, g5⟩
  have lenb : ((sl0.take i).filter p).length ≤ i := Nat.le_trans (List.length_filter_le _ _) (by rw [List.length_take]; omega)
  have z5 := g5.size
  refine ⟨fun hlt k12 hk => ?_, fun hge => ?_⟩
  · have hlt : i < sl0.length := by have := dT hlt; omega
    have hat := List.getElem?_eq_getElem hlt
    have hft := filter_take p hlt
    obtain ⟨a, ha, -, hc, hc0⟩ := Recs.atE (own_recs' encS_len (by decide) (hS.own.grow g5)) hat
    generalize sl0[i] = x at *
    refine ⟨a, ha, ⟨by omega, by omega⟩, _, hc0 _ rfl, _, hc 1 _ rfl, _, hc 2 _ rfl, _, hc 3 _ rfl, _, _, _, hc 4 _ rfl, fun w38 e38 => ⟨(Row.new e38).there (by simp), fun w40 e40 => ?_⟩⟩
    obtain ⟨r40, g40⟩ := loc (vs := encS x) e38 e40 rfl
    have z40 := g40.size
    have hpx : p x = decide (x.urg = 1) := by rw [hp]
    refine ⟨_, r40.cell rfl, fun hb => ?_, fun hb => hk _ _ _ _ fun _ => ?_⟩
    · rw [hpx, hb] at hft
      refine ⟨_, r40.cell rfl, _, r40.cell rfl, _, r40.cell rfl, _, r40.cell rfl, _, _, _, r40.cell rfl, fun w63 e63 => ?_⟩
      have g63 : Grow w40 w63 := only_alloc e63
      have z63 := g63.size
      refine append_recs' (f := encS) (ys := [x]) encS_len rfl elem43 (by decide) ((own5.grow g40).grow g63) (rec_one encS_len (by decide) (Row.new e63)) (one_encS [x]) (by simp only [maxLen]; omega) (by omega) (by omega) fun o' c' w' p1 p2 => ⟨_, _, _, rfl, hk _ _ _ _ fun _ => ?_⟩
      refine ⟨_, by omega, i + 1, by rw [wr (by omega)]; omega, hlt, rfl, by rw [hft]; simp, ?_, ((g5.trans' g40).trans' g63).trans p2 fun b hb e => by have := (own5.base b e).1; omega⟩
      rw [hft]
      exact p1
    · rw [hpx, hb] at hft
      refine ⟨_, by omega, i + 1, by rw [wr (by omega)]; omega, hlt, rfl, by rw [hft]; simp, ?_, g5.trans' g40⟩
      rw [hft]
      simpa using own5.grow g40
  have hil : i = sl0.length := by have := dF hge; omega
  subst hil
  rw [List.take_length] at own5 lenb ⊢
  have hSn : ∀ s ∈ sl0.filter p, Nums w141 (fun b => b < hs w141) s.oN s.nodes := fun s hs => Nums.low ((hS.grow g5).nod s (List.mem_filter.1 hs).1).nums
  have hNs : ∀ s ∈ sl0.filter p, s.nodes.length ≤ 1000 := fun s hs => by
    have : s.pure ∈ slotsP l us := hsl0 ▸ List.mem_map_of_mem (List.mem_filter.1 hs).1
    obtain ⟨x, hx, e, -⟩ := slotsP_from this
    rw [show s.nodes = x.nodes from e]
    exact hN x hx
  generalize sl0.filter p = sl at *
  clear hS hsl0
  have G141 := G133.trans' g5
  -- the free units, the costs
  refine (free_c o2 c2 us (by omega) 1 w141 (h2.grow G141)).mono ?_
  rintro _ w188 ⟨o189, c191, rfl, ownF, g188⟩
  have hfn : ((us.filter freeB).map (·.id)).Nodup := List.Nodup.sublist (List.Sublist.map _ List.filter_sublist) hnu
  have lfr : (us.filter freeB).length ≤ 6 := Nat.le_trans (List.length_filter_le _ _) hu6
  obtain ⟨fr, hfr⟩ : ∃ fr, fr = us.filter freeB := ⟨_, rfl⟩
  rw [← hfr] at ownF hfn lfr ⊢
  have G188 := G141.trans' g188
  have gq : Grow w106 w188 := ((((g118.trans' g123).trans' g128).trans' g133).trans' g5).trans' g188
  have gt : Grow w118 w188 := (((g123.trans' g128).trans' g133).trans' g5).trans' g188
  refine ⟨_, _, _, rfl, ?_⟩
  have hCo := cost_c (hG.grow gq) (by omega : 8 ≤ 10) hok (by omega) (some ⟨bt, 0, none⟩) E.length ts (hT.grow gt) o142 c144 sl ⟨Recs.low (own_recs' encS_len (by decide) (own5.grow g188)) (encs_ne encS_len sl), fun s hs => Nums.low ((hSn s hs).grow g188)⟩ (by omega) hNs o189 c191 fr (own_recs' encUn_len (by decide) ownF) (by omega)
  rw [lts, hfm] at hCo
  refine hCo.mono ?_
  rintro _ w193 ⟨gA, rfl, hM, g193⟩
  have G193 := G188.trans' g193
  have lsp : (urgP (slotsP l us) 1).length = sl.length := by rw [← hfm]; simp
  -- in plain terms
  obtain ⟨rest, hcr, hrs⟩ := hrest
  have hso := sub_ok (E := E) (wt := wOf ts) (n := 8) (urgP (slotsP l us) 1) fr (by omega) (by omega)
  have hao := cost_all_ok (E := E) (wt := wOf ts) (n := 8) (urgP (slotsP l us) 1) fr (by omega) (by omega)
  have hsnd := slots_nodup us hnl 1
  have hrs' : ∀ c ∈ rest, ∀ s ∈ urgP (slotsP l us) 1, c.inc ≠ s.inc := fun c hc s hs e => by
    obtain ⟨x, hx, hx1, hx2⟩ := hrs c hc
    obtain ⟨hs1, hs2⟩ := List.mem_filter.1 hs
    obtain ⟨y, hy, -, hy2, hy3⟩ := slotsP_from hs1
    have := nodup_inj (fun z : Inc => z.id) hnl hx hy (by rw [← hx2, ← hy2]; exact e)
    subst this
    exact hx1 (hy3 ▸ of_decide_eq_true hs2)
  have hU1 : urgStep E (wOf ts) 8 l 1 us = chosN (urgP (slotsP l us) 1) ((colsN (costP E (wOf ts) 8 (urgP (slotsP l us) 1) fr) fr.length).map (uAt fr)) (subP (costP E (wOf ts) 8 (urgP (slotsP l us) 1) fr) (colsN (costP E (wOf ts) 8 (urgP (slotsP l us) 1) fr) fr.length))
      (solveP (subP (costP E (wOf ts) 8 (urgP (slotsP l us) 1) fr) (colsN (costP E (wOf ts) 8 (urgP (slotsP l us) 1) fr) fr.length))) (urgP (slotsP l us) 1).length := by rw [hfr]; rfl
  have hB1 : urgP (slotsP l us) 1 ≠ [] → Best (subP (costP E (wOf ts) 8 (urgP (slotsP l us) 1) fr) (colsN (costP E (wOf ts) 8 (urgP (slotsP l us) 1) fr) fr.length)) (first (subP (costP E (wOf ts) 8 (urgP (slotsP l us) 1) fr) (colsN (costP E (wOf ts) 8 (urgP (slotsP l us) 1) fr) fr.length)))
      (solveP (subP (costP E (wOf ts) 8 (urgP (slotsP l us) 1) fr) (colsN (costP E (wOf ts) 8 (urgP (slotsP l us) 1) fr) fr.length))) := fun hne => by
    obtain ⟨m, hm⟩ := hBest hne
    have : subU E (wOf ts) 8 l 1 us = subP (costP E (wOf ts) 8 (urgP (slotsP l us) 1) fr) (colsN (costP E (wOf ts) 8 (urgP (slotsP l us) 1) fr) fr.length) := by rw [hfr]; rfl
    rw [this] at hm
    rw [← solveP_eq hm]
    exact hm
  rw [← chosF_zero] at hU1
  have hall_ok : ∀ (i j : Nat), i < (urgP (slotsP l us) 1).length → j < (colsN (costP E (wOf ts) 8 (urgP (slotsP l us) 1) fr) fr.length).length → okD (at2 (subP (costP E (wOf ts) 8 (urgP (slotsP l us) 1) fr) (colsN (costP E (wOf ts) 8 (urgP (slotsP l us) 1) fr) fr.length)) i (j : Int)) := fun i j hi hj => by
    have hia : i < (costP E (wOf ts) 8 (urgP (slotsP l us) 1) fr).length := by unfold costP; simpa using hi
    have hcl : (colsN (costP E (wOf ts) 8 (urgP (slotsP l us) 1) fr) fr.length)[j] < fr.length := colsN_lt (List.getElem_mem hj)
    have hokA : ∀ r ∈ costP E (wOf ts) 8 (urgP (slotsP l us) 1) fr, r.length = fr.length ∧ ∀ x ∈ r, okD x := fun r hr => by
      unfold costP at hr
      obtain ⟨s, -, rfl⟩ := List.mem_map.1 hr
      refine ⟨by simp, fun x hx => ?_⟩
      obtain ⟨u, -, rfl⟩ := List.mem_map.1 hx
      exact costOf_ok _ _ _ _ _
    obtain ⟨hk1, hk2⟩ := hokA _ (List.getElem_mem hia)
    rw [sub_at hia hj, at2_at1 hia, Int.toNat_natCast]
    unfold at1
    rw [List.getElem?_eq_getElem (by rw [hk1]; exact hcl)]
    exact hk2 _ (List.getElem_mem _)
  have lal : (costP E (wOf ts) 8 (urgP (slotsP l us) 1) fr).length = sl.length := by unfold costP; simp [lsp]
  have hrl : ∀ r ∈ costP E (wOf ts) 8 (urgP (slotsP l us) 1) fr, r.length = fr.length := fun r hr => by
    unfold costP at hr
    obtain ⟨s, -, rfl⟩ := List.mem_map.1 hr
    simp
  have hclt : ∀ j ∈ colsN (costP E (wOf ts) 8 (urgP (slotsP l us) 1) fr) fr.length, j < fr.length := fun j hj => colsN_lt hj
  have hne_all : costP E (wOf ts) 8 (urgP (slotsP l us) 1) fr ≠ [] → urgP (slotsP l us) 1 ≠ [] := fun h e => h (by rw [e]; rfl)
  obtain ⟨hval, htop, htot⟩ := mu_top (fun h => hao.2 (hne_all h)) (fun h => hso.2 (hne_all h)) hrl (fun h => hB1 (hne_all h))
  have herr := hao.1
  have hBv : sl ≠ [] → Valid (subP (costP E (wOf ts) 8 (urgP (slotsP l us) 1) fr) (colsN (costP E (wOf ts) 8 (urgP (slotsP l us) 1) fr) fr.length)) (colsN (costP E (wOf ts) 8 (urgP (slotsP l us) 1) fr) fr.length).length (solveP (subP (costP E (wOf ts) 8 (urgP (slotsP l us) 1) fr) (colsN (costP E (wOf ts) 8 (urgP (slotsP l us) 1) fr) fr.length))) := fun h => by
    have hne : urgP (slotsP l us) 1 ≠ [] := fun e => h (List.eq_nil_of_length_eq_zero (by rw [← lsp, e]; rfl))
    have := (hB1 hne).valid
    rw [hso.2 hne] at this
    exact this
  have lsub : (subP (costP E (wOf ts) 8 (urgP (slotsP l us) 1) fr) (colsN (costP E (wOf ts) 8 (urgP (slotsP l us) 1) fr) fr.length)).length = (urgP (slotsP l us) 1).length := by unfold subP costP; simp
  rw [hU1] at hcr
  clear hU1 hB1 hso hao hBest hne_all hrs
  generalize costP E (wOf ts) 8 (urgP (slotsP l us) 1) fr = all at *
  generalize colsN all fr.length = cols at *
  generalize subP all cols = sub at *
  generalize solveP sub = M at *
  rw [lal] at hval htop htot
  generalize urgP (slotsP l us) 1 = sp at *
  obtain ⟨mu, hmu⟩ : ∃ mu, mu = muL cols M sl.length := ⟨_, rfl⟩
  rw [← hmu] at hval htop htot
  have lmu : mu.length = sl.length := by rw [hmu]; exact muL_len _ _ _
  have mu_at : ∀ (i : Nat) (h : i < sl.length), mu[i]'(by omega) = colAt cols M i := fun i h => by
    subst hmu
    simp [muL]
  clear hmu
  -- reading off the choices
  refine ⟨_, _, _, rfl, make_zeros elem31 zero3 (by omega) fun w198 r198 g198 z198 => ⟨_, _, _, rfl, fun w202 e202 => ?_⟩⟩
  have Gc : Grow w123 w202 := (((((g128.trans' g133).trans' g5).trans' g188).trans' g193).trans' g198).trans' (only_alloc e202)
  refine append_recs' (f := encC) (xs := []) (ys := cs) encC_len rfl elem40 (by decide) (own_nilB (k := 4) e202) (own_recs' encC_len (by decide) (ownC.grow Gc)) (one_encC cs) (by simp only [maxLen]; omega) (by omega) (by have := hs_alloc e202; omega) fun oc cc w205 q1 q2 => ⟨_, _, _, rfl, ?_⟩
  have g205 : Grow w198 w205 := in_new e202 q2
  rw [Nat.zero_add] at q1 ⊢
  rw [List.nil_append] at q1
  have hL0 := LeftAt.start q1
  have r205 := r198.grow g205
  have G205 := (G193.trans' g198).trans' g205
  have g1205 : Grow w141 w205 := ((g188.trans' g193).trans' g198).trans' g205
  have zA := g193.size
  have zB := g205.size
  have z188 := g188.size
  refine ⟨fun m o214 n215 n216 x217 x218 w' => ∃ (i : Nat) (left : List Cho), x218 = (i : Int) ∧ i ≤ sl.length ∧ m = sl.length - i ∧ LeftAt w' (hs w198) oc cs.length cc cs o214 n215 n216 left ∧ left = chosF sp (cols.map (uAt fr)) sub M i ++ rest ∧ x217 = tot sub M i ∧ 0 ≤ tot sub M i ∧ tot sub M i ≤ (i : Int) * 9437184 ∧
      Row w' (hs w193) 3 (intsV (mu.take i ++ List.replicate (sl.length - i) 0)) ∧ Only (fun b => b = hs w193) w205 w',
    ⟨_, 0, cs, rfl, Nat.zero_le _, rfl, hL0, hcr, rfl, by simp [tot], by simp [tot], by simpa using r205, Only.refl _ _⟩, ?_⟩
  rintro m _ w213 o214 n215 n216 x217 x218 ⟨i, left, rfl, hi, rfl, hLf, hleft, rfl, ht0, ht1, rm, o213⟩
  have hn215 := hLf.len
  have G213 : Grow w205 w213 → Grow w w213 := fun h => G205.trans' h
  have Gw213 : Grow w w213 := G205.trans o213 fun b hb e => by have := G193.size; omega
  have z213 := o213.size
  have keepR : ∀ {S : Nat → Prop}, (∀ b, S b → b < hs w193) → ∀ b, S b → ¬ b = hs w193 := fun h b hb e => by have := h b hb; omega
  have ownS213 : Own w213 (hs w133) 46 5 o142 sl.length c144 (sl.flatMap encS) := (own5.grow g1205).keep o213 (keepR fun b hb => by have := (own5.base b hb).2; omega)
  have ownF213 : Own w213 (hs w141) 29 10 o189 fr.length c191 (fr.flatMap encUn) := (ownF.grow ((g193.trans' g198).trans' g205)).keep o213 (keepR fun b hb => by have := (ownF.base b hb).2; omega)
  refine ⟨fun hlt k221 hk => ?_, fun hge => ?_⟩
  · have hlt : i < sl.length := by have := dT hlt; omega
    have hisp : i < sp.length := by omega
    have hstep := read_step hsnd hrs' (hBv fun e => by rw [e] at hlt; simp at hlt) lsub hclt hall_ok hisp
    have hat := List.getElem?_eq_getElem hlt
    have hsinc : (slAt sp i).inc = sl[i].inc := by
      have : sp[i]? = some sl[i].pure := by rw [← hfm, List.getElem?_map, hat]; rfl
      unfold slAt; rw [this]; rfl
    rw [hsinc] at hstep
    have htk := List.take_succ_eq_append_getElem (l := mu) (i := i) (by omega)
    rw [mu_at i hlt] at htk
    have ltk : (mu.take i).length = i := by rw [List.length_take]; omega
    obtain ⟨a, ha, -, hc, hc0⟩ := Recs.atE (own_recs' encS_len (by decide) ownS213) hat
    generalize sl[i] = s at *
    refine ⟨a, ha, ⟨by omega, by omega⟩, _, hc0 _ rfl, _, hc 1 _ rfl, _, hc 2 _ rfl, _, hc 3 _ rfl, _, _, _, hc 4 _ rfl, fun w239 e239 => ⟨(Row.new e239).there (by simp), fun w241 e241 => ?_⟩⟩
    obtain ⟨r241, g241⟩ := loc (vs := encS s) e239 e241 rfl
    have rm241 := rm.grow g241
    refine ⟨_, rfl, ⟨by omega, by omega⟩, rm241.thereAdd (by rw [toNat_cast, Nat.mul_one, intsV_len, List.length_append, List.length_replicate, ltk]; omega), fun w244 e244 w246 e246 => ?_⟩
    have rm244 := rm241.setAdd e244
    rw [intsV_set _ _ _ (by rw [List.length_append, List.length_replicate, ltk]; omega), fill_step _ _ _ _ hlt ltk] at rm244
    have o244 : Only (fun b => b = hs w193) w241 w244 := only_setAdd e244
    have g246 : Grow w244 w246 := only_drew e246
    have rm246 := rm244.grow g246
    have o246 : Only (fun b => b = hs w193) w213 w246 := (g241.only.trans' o244).grow g246
    have lm := rm.lt
    have r246 : Row w246 (hs w213) 46 (encS s) := (r241.keep o244 (by omega)).grow g246
    have ocl : ∀ b, inBlock oc b → b ≠ hs w193 := fun b hb e => by have := (q1.base b hb).1; omega
    have hL246 := hLf.keep o246 ocl
    have next : ∀ {w223 : World} {o224 : Option Addr} {n225 n226 : Nat} {left' : List Cho}, LeftAt w223 (hs w198) oc cs.length cc cs o224 n225 n226 left' → left' = chosF sp (cols.map (uAt fr)) sub M (i + 1) ++ rest → 0 ≤ tot sub M (i + 1) → tot sub M (i + 1) ≤ ((i + 1 : Nat) : Int) * 9437184 →
        Row w223 (hs w193) 3 (intsV (mu.take (i + 1) ++ List.replicate (sl.length - (i + 1)) 0)) → Only (fun b => b = hs w193) w213 w223 → k221 o224 n225 n226 (tot sub M (i + 1)) w223 := fun q3 q4 q5 q6 q7 q8 => hk _ _ _ _ _ fun _ =>
      ⟨_, by omega, i + 1, _, by rw [wr (by omega)]; omega, hlt, rfl, q3, q4, rfl, q5, q6, q7, o213.trans' q8⟩
    have same : (choAt sp (cols.map (uAt fr)) sub M i = none ∧ colAt cols M i = -1 ∧ chosF sp (cols.map (uAt fr)) sub M i = chosF sp (cols.map (uAt fr)) sub M (i + 1) ∧ tot sub M (i + 1) = tot sub M i ∧ ∀ c l', chosF sp (cols.map (uAt fr)) sub M i ++ rest = c :: l' → c.inc ≠ s.inc) → k221 o214 n215 n216 (tot sub M i) w246 := fun ⟨_, k2, k3, k4, _⟩ => by
      rw [← k4]
      refine next hL246 (by rw [hleft, k3]) (by rw [k4]; exact ht0) (by rw [k4]; omega) ?_ o246
      rw [htk, k2]
      exact rm246
    refine ⟨fun hz => ?_, fun hnz => ?_⟩
    · have hz : left = [] := List.eq_nil_of_length_eq_zero (by have := dT hz; omega)
      rcases hstep with hno | ⟨c, k0, u0, k1, -⟩
      · exact same hno
      · rw [hz, k1] at hleft
        cases hleft
    have hnz := dF hnz
    obtain ⟨x, l', hxl⟩ : ∃ x l', left = x :: l' := by
      cases hq : left with
      | nil => rw [hq] at hn215; exact absurd (by rw [hn215]; rfl) hnz
      | cons x l' => exact ⟨x, l', rfl⟩
    obtain ⟨ax, hax, hd, hd0⟩ := hL246.get hxl
    refine ⟨ax, hax, ⟨by omega, by omega⟩, _, hd0 _ rfl, _, r246.cell rfl, fun hne => ?_, fun heq => ?_⟩
    · rcases hstep with hno | ⟨c, k0, u0, k1, k2, -⟩
      · exact same hno
      · rw [hxl, k1] at hleft
        simp only [List.cons_append, List.cons.injEq] at hleft
        exact absurd (by rw [hleft.1]; exact k2) (nT hne)
    have heq := nF heq
    rcases hstep with hno | ⟨c, k0, u0, k1, k2, k3, k4, k5, k6, k7, k8⟩
    · exact absurd heq (hno.2.2.2.2 x l' (hleft ▸ hxl))
    rw [hxl, k1] at hleft
    simp only [List.cons_append, List.cons.injEq] at hleft
    obtain ⟨rfl, hl'⟩ := hleft
    have hk0 := (List.getElem?_eq_some_iff.1 k6).1
    -- the unit's place
    refine ⟨fun m y w' => ∃ kk : Nat, y = (kk : Int) ∧ kk ≤ fr.length ∧ m = fr.length - kk ∧ Row w' (hs w193) 3 (intsV ((mu.take i ++ [if k0 < kk then (k0 : Int) else -1]) ++ List.replicate (sl.length - (i + 1)) 0)) ∧ Only (fun b => b = hs w193) w246 w', ⟨_, 0, rfl, Nat.zero_le _, rfl, by rw [if_neg (by omega)]; exact rm246, Only.refl _ _⟩, ?_⟩
    rintro m _ w259 _ ⟨kk, rfl, hkk, rfl, rm259, o259⟩
    have o259' := o246.trans' o259
    have hL259 := hL246.keep o259 ocl
    obtain ⟨ay, hay, hy, hy0⟩ := hL259.get hxl
    refine ⟨fun hlt2 k263 hk263 => ?_, fun hge2 => ?_⟩
    · have hlt2 : kk < fr.length := by have := dT hlt2; omega
      have hatu := List.getElem?_eq_getElem hlt2
      obtain ⟨au, hau, -, hcu, hcu0⟩ := Recs.atE (own_recs' encUn_len (by decide) (ownF213.keep o259' (keepR fun b hb => by have := (ownF.base b hb).2; omega))) hatu
      generalize fr[kk] = u at *
      refine ⟨au, hau, ⟨by omega, by omega⟩, _, hcu0 _ rfl, _, hcu 1 _ rfl, _, hcu 2 _ rfl, _, hcu 3 _ rfl, _, hcu 4 _ rfl, _, hcu 5 _ rfl, _, hcu 6 _ rfl, _, hcu 7 _ rfl, _, hcu 8 _ rfl, _, hcu 9 _ rfl, fun w280 e280 => ⟨(Row.new e280).there (by simp), fun w282 e282 w284 e284 => ?_⟩⟩
      obtain ⟨r282, g282⟩ := loc (vs := encUn u) e280 e282 rfl
      have g284 : Grow w282 w284 := only_drew e284
      have G284 := g282.trans' g284
      have r284 := r282.grow g284
      have rm284 := rm259.grow G284
      obtain ⟨az, haz, hz, hz0⟩ := (hL259.keep G284 fun b hb h => h).get hxl
      have fin2 : ∀ {w265 : World}, Row w265 (hs w193) 3 (intsV ((mu.take i ++ [if k0 < kk + 1 then (k0 : Int) else -1]) ++ List.replicate (sl.length - (i + 1)) 0)) → Only (fun b => b = hs w193) w246 w265 → k263 w265 := fun q3 q4 => hk263 _ fun _ =>
        ⟨_, by omega, kk + 1, by rw [wr (by omega)]; omega, hlt2, rfl, q3, q4⟩
      have lset : ((mu.take i ++ [if k0 < kk then (k0 : Int) else -1]) ++ List.replicate (sl.length - (i + 1)) (0 : Int)).length = sl.length := by
        rw [List.length_append, List.length_append, List.length_replicate, ltk, List.length_singleton]; omega
      refine ⟨_, r284.cell rfl, az, haz, ⟨by omega, by omega⟩, _, hz 2 _ rfl, fun hid => ?_, fun hid => fin2 ?_ (o259.grow G284)⟩
      · have hid := dT hid
        have hkk0 : kk = k0 := nodup_idx (fun v : Un => v.id) hfn kk k0 u u0 hatu k6 (by show u.id = u0.id; rw [hid, k8])
        subst hkk0
        refine ⟨_, rfl, ⟨by omega, by omega⟩, rm284.thereAdd (by rw [toNat_cast, Nat.mul_one, intsV_len, lset]; omega), fun w291 e291 => ?_⟩
        have rm291 := rm284.setAdd e291
        rw [intsV_set _ _ _ (by rw [lset]; omega)] at rm291
        have hsm := set_midI (mu.take i) (if kk < kk then (kk : Int) else -1) (kk : Int) (List.replicate (sl.length - (i + 1)) 0)
        rw [ltk] at hsm
        rw [hsm] at rm291
        exact fin2 (by rw [if_pos (by omega)]; exact rm291) ((o259.grow G284).trans' (only_setAdd e291))
      · have hid := dF hid
        have : kk ≠ k0 := fun e => by
          subst e
          rw [hatu] at k6
          cases k6
          exact hid k8.symm
        by_cases e : k0 < kk
        · rw [if_pos (by omega)]
          rw [if_pos e] at rm284
          exact rm284
        · rw [if_neg (by omega)]
          rw [if_neg e] at rm284
          exact rm284
    · have hkl : kk = fr.length := by have := dF hge2; omega
      subst hkl
      rw [if_pos hk0, ← k7, ← htk] at rm259
      refine ⟨ay, hay, ⟨by omega, by omega⟩, _, hy 3 _ rfl, ⟨by omega, by omega⟩, ?_⟩
      rw [wr (by omega), ← k3]
      exact next (hL259.next hxl) hl' (by omega) (by omega) rm259 o259'
  -- all has been read off
  have hil : i = sl.length := by have := dF hge; omega
  subst hil
  rw [← lmu, List.take_length, lmu, Nat.sub_self, List.replicate_zero, List.append_nil] at rm
  have hM213 : Mat w213 (fun b => b < hs w193) (some ⟨gA, 0, none⟩) all := (Mat.low hM).keep ((Grow.only (S := fun b => b = hs w193) (g198.trans' g205)).trans' o213) fun b hb e => by omega
  have hm213 : Nums w213 (fun _ => True) (some ⟨hs w193, 0, none⟩) mu := rm.nums trivial
  have hCost := Cost_c (some ⟨gA, 0, none⟩) (some ⟨hs w193, 0, none⟩) sl.length sl.length all mu w213 hM213 hm213
  rw [lal, lmu] at hCost
  obtain ⟨y1, y2, y3⟩ := hval.costs herr
  rw [lal] at y2 y3
  refine hCost.mono ?_
  rintro _ w299 ⟨rfl, g299⟩
  refine ⟨_, _, _, rfl, ?_⟩
  have hSo := Solve_c (some ⟨gA, 0, none⟩) sl.length all w299 (hM213.grow g299)
  rw [lal] at hSo
  refine hSo.mono ?_
  rintro _ w304 ⟨g304, ⟨k, -⟩ | ⟨-, b0, m0, rfl, rm0, -, hb0, -⟩⟩
  · exact absurd herr k
  refine ⟨_, _, _, _, _, rfl, ?_⟩
  have hsame := ((htop.same hval hb0.valid).1 (best_top hb0)).2
  rw [lal] at hsame
  have hCe := Certify_c (some ⟨gA, 0, none⟩) (some ⟨hs w193, 0, none⟩) sl.length sl.length all mu w304 ((hM213.grow g299).grow g304) ((hm213.grow g299).grow g304)
  rw [lal, lmu] at hCe
  refine hCe.mono ?_
  rintro _ w311 ⟨⟨k, -⟩ | ⟨-, k, -⟩ | ⟨-, -, oU, oV, oH, cU, cV, cH, U, V, H, rfl, nU, nV, nH, lU, lV, lH, hcert⟩, g311⟩
  · exact absurd y1 k
  · exact absurd htop k
  refine ⟨_, _, _, _, _, _, _, _, _, _, rfl, fun w322 e322 => ⟨(Row.new e322).there (by simp), fun w324 e324 => ?_⟩⟩
  obtain ⟨r324, g324⟩ := loc (vs := [.slice oU U.length cU, .slice oV V.length cV, .slice oH H.length cH]) e322 e324 rfl
  have G324 := ((g299.trans' g304).trans' g311).trans' g324
  have Gfin := Gw213.trans' G324
  refine ⟨fun k => absurd y1 (nT k), fun _ => ⟨fun k => absurd rfl (nT k), fun _ => ⟨fun k => absurd rfl (nT k), fun _ => ⟨fun k => absurd (by rw [y3, htot]) (nT k), fun _ => ⟨fun k => absurd (by rw [y3]; exact hsame.symm) (nT k), fun _ => ?_⟩⟩⟩⟩⟩
  -- how many are served
  have hms : ∀ i, i < mu.length → gm mu i = -1 ∨ 0 ≤ gm mu i := fun i hi => (hval.ok i (by omega)).imp id fun h => h.1
  refine ⟨fun m x y w' => ∃ i : Nat, y = (i : Int) ∧ i ≤ sl.length ∧ m = sl.length - i ∧ x = cnt mu i ∧ w' = w324, ⟨_, 0, rfl, Nat.zero_le _, rfl, rfl, rfl⟩, ?_⟩
  rintro m _ w340 x y ⟨i, rfl, hi, rfl, rfl, rfl⟩
  refine ⟨fun hlt k345 hk345 => ?_, fun hge2 => ⟨fun _ => ?_, fun hn => ?_⟩⟩
  · have hlt : i < sl.length := by have := dT hlt; omega
    obtain ⟨am, ham, hcm⟩ := (hm213.grow G324).get (j := i) (by omega)
    cases ham
    have hmore := cnt_more mu hms (i := i) (by omega)
    have hbd := cnt_bd mu i
    refine ⟨_, rfl, ⟨by omega, by omega⟩, _, hcm, fun h => hk345 _ _ fun _ => ⟨_, by omega, i + 1, by rw [wr (by omega)]; omega, hlt, rfl, ?_, rfl⟩, fun h => hk345 _ _ fun _ => ⟨_, by omega, i + 1, by rw [wr (by omega)]; omega, hlt, rfl, ?_, rfl⟩⟩
    · rw [wr (by omega), hmore, if_pos (dT h)]
    · rw [hmore, if_neg (dF h)]; omega
  · refine ⟨_, _, _, r324.cell rfl, _, _, _, r324.cell rfl, _, _, _, r324.cell rfl, ?_⟩
    have hVe := Verify_c (some ⟨gA, 0, none⟩) (some ⟨hs w193, 0, none⟩) oU oV oH sl.length sl.length cU cV cH all mu U V H (by omega) w340 (A := fun _ => True) (Mat.mono' (hM213.grow G324) fun _ _ => trivial) (hm213.grow G324) (nU.grow g324) (nV.grow g324) (nH.grow g324)
    rw [lal, lmu] at hVe
    refine hVe.mono ?_
    rintro _ w368 ⟨b, rfl, hb, g368⟩
    exact ⟨_, rfl, by rw [hb.2 ⟨y1, hcert⟩], Gfin.trans' g368⟩
  · have : i = sl.length := by have := dF hge2; omega
    subst this
    exact absurd y2 (dF hn)
end Go.Proofs.Ytcaokpglbolkcaa
