/- Law: every protocol in a store is valid and terminates, versions ascend, the newest is the last. -/
import Derived.Test.YtbaacpfjecbbgaaQt
namespace Go.Proofs.Ytbaacpfjecbbgaa
open Go Go.Nf

theorem versions_asc {S : List Prot} (h : Sorted S) (n : ByteArray) : (versionsOf S n).Pairwise (· < ·) := by
  unfold versionsOf
  rw [List.pairwise_map]
  have : (S.filter fun t => strEq t.name n).Pairwise Before := h.sublist List.filter_sublist
  refine (List.Pairwise.and_mem.1 this).imp fun {a b} hab => ?_
  obtain ⟨ha, hb, hab⟩ := hab
  have ha := strEq_iff.1 (List.mem_filter.1 ha).2
  have hb := strEq_iff.1 (List.mem_filter.1 hb).2
  rcases hab with k | ⟨-, k⟩
  · rw [ha, hb, ltB_irrefl] at k; cases k
  · exact k
theorem versions_mem {S : List Prot} {n : ByteArray} {v : Int} : v ∈ versionsOf S n ↔ ∃ t, t ∈ S ∧ t.name = n ∧ t.version = v := by
  unfold versionsOf
  rw [List.mem_map]
  constructor
  · rintro ⟨t, ht, hv⟩
    exact ⟨t, (List.mem_filter.1 ht).1, strEq_iff.1 (List.mem_filter.1 ht).2, hv⟩
  · rintro ⟨t, ht, hn, hv⟩
    exact ⟨t, List.mem_filter.2 ⟨ht, strEq_iff.2 hn⟩, hv⟩
theorem valid_version {p : Prot} (h : validB p = true) : 1 ≤ p.version := by
  unfold validB at h
  simp only [Bool.and_eq_true, decide_eq_true_eq] at h
  exact h.1.1.1.2
set_option maxHeartbeats 4000000 in
theorem law22_c (o : Option Addr) (c : Nat) (l : List Ac) (hf : ∀ a, a ∈ l → FitP a.t) (hl : l.length ≤ 9223372036854775807) (w : World) {A : Nat → Prop} (h : Acs w A o l) :
    Calls Try.prog 22 #[.slice o l.length c] w (Tru w) := by
  have h := Acs.low h
  refine nf22n o l.length c w _ ((wakes_c w).mono ?_)
  rintro _ w2 ⟨rfl, g2⟩
  refine ⟨_, rfl, fun _ => (smallL_c o c l hf hl w2 (h.grow g2)).mono ?_, fun h => (by cases h)⟩
  rintro _ w6 ⟨b, rfl, hb, g6⟩
  have G6 := g2.trans' g6
  refine ⟨_, rfl, fun hb' => (newB_c w6).mono ?_, fun _ => ⟨rfl, G6⟩⟩
  have hlen := hb hb'
  rintro _ w10 ⟨t, m, rfl, s10, g10⟩
  have G10 := G6.trans' g10
  have z6 := G6.size
  have z10 := g10.size
  refine ⟨_, rfl, fun k x w' => ∃ (j : Nat) (S : List Prot) (P : List Pn) (M D : Nat → Prop), x = (j : Int) ∧ j ≤ l.length ∧ k = l.length - j ∧ St w' (hs w6) t m M D S P ∧ Sorted S ∧ Ok S ∧ S.length ≤ 100 ∧ Only (fun b => hs w6 ≤ b) w10 w',
    ⟨_, 0, [], [], _, _, rfl, Nat.zero_le _, rfl, s10, .nil, (fun p hp => by cases hp), Nat.zero_le _, Only.refl _ _⟩, ?_⟩
  rintro k _ w16 x ⟨j, S, P, M, D, rfl, hj, rfl, hst, hso, hok, hSl, o16⟩
  have hMlow : ∀ b, b < hs w → ¬ M b := fun b hb hm => by have := (hst.ms b hm).1; omega
  refine ⟨fun hlt => ?_, fun hge => ?_⟩
  · have hlt : j < l.length := by have := dT hlt; omega
    have h16 := ((h.grow G10).keep o16 fun b hb e => by omega)
    obtain ⟨ad, qo, qc, ha, c0, c1, c2, c3, c4, c5, c6, hq⟩ := h16.get hlt
    have hfa := hf _ (List.getElem_mem hlt)
    generalize l[j] = a at *
    refine ⟨ad, ha, ⟨by omega, by omega⟩, _, c0, _, c1, _, c2, _, _, _, c3, _, c4, _, c5, _, c6, fun w30 e30 => ⟨(Row.new e30).there (by simp), fun w32 e32 => ?_⟩⟩
    obtain ⟨r32, g32⟩ := loc e30 e32 rfl
    have z16 := o16.size
    have z32 := g32.size
    refine ⟨_, r32.cell rfl, _, r32.cell rfl, _, r32.cell rfl, _, _, _, r32.cell rfl, _, r32.cell rfl, _, r32.cell rfl, _, r32.cell rfl,
      (do_c (a := a) (qc := qc) (L := []) (P' := []) (oL := none) (oP := none) (cL := 0) (cP := 0) hfa (hq.grow g32) hMlow hso (by omega) (Nat.zero_le _) (Nat.zero_le _) (Nat.le_refl _) .nil (hst.grow g32) ⟨Ps.nil _ _ _, Recs.nil _ _ _ _, fun b hb => by have := (G10.trans (o16.grow g32) fun b _ e => by omega : Grow w w32).size; omega⟩).mono ?_⟩
    rintro _ w44 ⟨S', P1, L', P2, M', D', E', r1, r2, r1', r2', b, oL', cL', oP', cP', rfl, -, hs1, -, st44, -, -, -, -, -, -, -, o44⟩
    exact ⟨_, _, _, _, _, _, _, rfl, _, by omega, j + 1, S', P1, M', D', by rw [wr (by omega)]; omega, hlt, rfl, st44, step_sorted hso hs1, step_ok hok hs1, step_len hSl hs1, (o16.grow g32).trans o44 fun b _ hm => (hst.ms b hm).1⟩
  · have hfine := hok.fine
    obtain ⟨os, cs, rt, hp⟩ := hst.read
    have G16 : Grow w w16 := G10.trans o16 fun b hb e => by omega
    refine (names_c hso (by omega) rt hp).mono ?_
    rintro _ w55 ⟨ns, o55, c55, rfl, hN, hnl, own55, g55⟩
    refine ⟨_, _, _, rfl, fun k x w' => ∃ i : Nat, x = (i : Int) ∧ i ≤ ns.length ∧ k = ns.length - i ∧ Grow w55 w', ⟨_, 0, rfl, Nat.zero_le _, rfl, Only.refl _ _⟩, ?_⟩
    rintro k _ w63 x ⟨i, rfl, hi, rfl, g63⟩
    have G63 := g55.trans' g63
    refine ⟨fun hlt => ?_, fun _ => ⟨rfl, G16.trans' G63⟩⟩
    have hlt : i < ns.length := by have := dT hlt; omega
    obtain ⟨aN, haN, cN⟩ := text_get (own_recs' encS_len (by omega) (own55.grow g63)) hlt
    have hmem : ns[i] ∈ ns := List.getElem_mem hlt
    generalize ns[i] = n at *
    refine ⟨aN, haN, ⟨by omega, by omega⟩, _, cN, (versions_c n (by omega) (rt.grow G63) (hp.grow G63)).mono ?_⟩
    rintro _ w70 ⟨o70, c70, rfl, own70, g70⟩
    have G70 := G63.trans' g70
    have hasc := versions_asc hso n
    have hvm : ∀ v, v ∈ versionsOf S n ↔ ∃ t, t ∈ S ∧ t.name = n ∧ t.version = v := fun v => versions_mem
    have hvl : (versionsOf S n).length ≤ 100 := by
      unfold versionsOf
      rw [List.length_map]
      exact Nat.le_trans (List.length_filter_le _ _) hSl
    generalize versionsOf S n = vs at *
    refine ⟨_, _, _, rfl, fun k y x w' => ∃ q : Nat, x = (q : Int) ∧ q ≤ vs.length ∧ k = vs.length - q ∧ ((q = 0 ∧ y = 0) ∨ ∃ p, q = p + 1 ∧ vs[p]? = some y) ∧ Grow w70 w', ⟨_, 0, rfl, Nat.zero_le _, rfl, .inl ⟨rfl, rfl⟩, Only.refl _ _⟩, ?_⟩
    rintro k _ w78 y x ⟨q, rfl, hq, rfl, hy, g78⟩
    have G78 := G70.trans' g78
    refine ⟨fun hlt2 => ?_, fun hge2 => ?_⟩
    · have hlt2 : q < vs.length := by have := dT hlt2; omega
      obtain ⟨aV, haV, cV⟩ := (own70.grow g78).nums.get hlt2
      obtain ⟨u, hu, hun, huv⟩ := (hvm vs[q]).1 (List.getElem_mem hlt2)
      refine ⟨aV, haV, ⟨by omega, by omega⟩, _, cV, (getP_c n vs[q] hso (by omega) hfine (rt.grow G78) (hp.grow G78)).mono ?_⟩
      rintro _ w86 ⟨r, hr, ⟨o86, c86, rfl, hq86⟩, g86⟩
      have hru : r = some u := isGet_one hso.uniq hr (.inr ⟨u, rfl, hu, hun, huv⟩)
      subst hru
      obtain ⟨x0, hE⟩ := hok u hu
      have hv := hE.valid0
      have hfu := fit_of_valid hv
      refine ⟨_, _, _, _, _, _, rfl, fun _ w94 e94 => ⟨(Row.new e94).there (by simp), fun w96 e96 => ?_⟩, fun h => (by cases h)⟩
      obtain ⟨r96, g96⟩ := loc e94 e96 rfl
      refine ⟨_, r96.cell rfl, _, r96.cell rfl, _, _, _, r96.cell rfl, (right_c o86 c86 u hfu w96 (hq86.grow g96)).mono ?_⟩
      rintro _ w104 ⟨⟨x1, rfl⟩, g104⟩
      have r104 := r96.grow g104
      refine ⟨_, _, rfl, _, r104.cell rfl, _, r104.cell rfl, _, _, _, r104.cell rfl, (ends_c o86 c86 u hfu w104 ((hq86.grow g96).grow g104)).mono ?_⟩
      rintro _ w113 ⟨x2, y2, rfl, hE2, g113⟩
      obtain ⟨-, rfl⟩ := ending_one hE2 hE
      have r113 := r104.grow g113
      have GG := (((g78.trans' g86).trans' g96).trans' g104).trans' g113
      rw [hv]
      refine ⟨_, _, rfl, fun h => absurd rfl (nT h), fun _ => ⟨fun h => absurd rfl (nT h), fun _ => ⟨_, r113.cell rfl, fun hne => ?_, fun _ => ⟨_, r113.cell rfl, fun hne => absurd huv (nT hne), fun _ => ⟨fun hle => ?_, fun _ => ⟨_, by omega, q + 1, by rw [wr (by omega)]; omega, hlt2, rfl, .inr ⟨q, rfl, List.getElem?_eq_getElem hlt2⟩, GG⟩⟩⟩⟩⟩⟩
      · have : strEq u.name n = true := strEq_iff.2 hun
        rw [show ((some u).getD zeroP).name = u.name from rfl, this] at hne; cases hne
      · exfalso
        have hle := dT hle
        rcases hy with ⟨rfl, rfl⟩ | ⟨p, rfl, hp⟩
        · have := valid_version hv; omega
        · obtain ⟨hpl, e⟩ := List.getElem?_eq_some_iff.1 hp
          have := List.pairwise_iff_getElem.1 hasc p (p + 1) hpl hlt2 (by omega)
          omega
    · obtain rfl : q = vs.length := by have := dF hge2; omega
      refine (newestP_c n hso (by omega) hfine (rt.grow G78) (hp.grow G78)).mono ?_
      rintro _ w154 ⟨r, hr, ⟨o154, c154, rfl, -⟩, g154⟩
      obtain ⟨u, rfl⟩ : ∃ u, r = some u := by
        rcases hr with ⟨rfl, hr⟩ | ⟨u, rfl, -⟩
        · obtain ⟨u, hu, hun⟩ := (hN.2 n).1 hmem
          exact absurd hun (hr u hu)
        · exact ⟨u, rfl⟩
      refine ⟨_, _, _, _, _, _, rfl, fun _ w162 e162 => ⟨(Row.new e162).there (by simp), fun w164 e164 => ?_⟩, fun h => (by cases h)⟩
      obtain ⟨r164, g164⟩ := loc e162 e164 rfl
      have hyu : ((some u).getD zeroP).version = y := by
        show u.version = y
        rcases hr with ⟨hr, -⟩ | ⟨u', hr, hu, hun, hmax⟩
        · cases hr
        cases hr
        have huv := (hvm u.version).2 ⟨u, hu, hun, rfl⟩
        obtain ⟨i0, hi0, e0⟩ := List.mem_iff_getElem.1 huv
        rcases hy with ⟨hz, -⟩ | ⟨p, hp, hpy⟩
        · omega
        · obtain ⟨hpl, e⟩ := List.getElem?_eq_some_iff.1 hpy
          obtain ⟨u2, hu2, hun2, huv2⟩ := (hvm y).1 (List.mem_of_getElem? hpy)
          have h1 := hmax u2 hu2 hun2
          rcases Nat.lt_or_ge i0 p with k | k
          · have := List.pairwise_iff_getElem.1 hasc i0 p hi0 hpl k
            omega
          · obtain rfl : i0 = p := by omega
            omega
      exact ⟨_, r164.cell rfl, fun hne => absurd hyu (nT hne), fun _ => ⟨_, by omega, i + 1, by rw [wr (by omega)]; omega, hlt, rfl, (((g63.trans' g70).trans' g78).trans' g154).trans' g164⟩⟩
end Go.Proofs.Ytbaacpfjecbbgaa
