/- Law: after every operation the store agrees with the reference's book. -/
import Derived.Test.YtbaacpfjecbbgaaU4
namespace Go.Proofs.Ytbaacpfjecbbgaa
open Go Go.Nf

theorem Recs.low {w : World} {A : Nat → Prop} {o : Option Addr} {k : Nat} {rows : List (List Value)} (h : Recs w A o k rows) (h0 : ∀ row, row ∈ rows → row ≠ []) : Recs w (fun b => b < hs w) o k rows := fun i row hi => by
  obtain ⟨a, h1, -, h3⟩ := h i row hi
  refine ⟨a, h1, ?_, h3⟩
  cases row with
  | nil => exact absurd rfl (h0 _ (List.mem_of_getElem? hi))
  | cons v row =>
    have := cell_block (h3 0 v rfl)
    rw [block_add2] at this
    exact this
theorem Qs.low {w : World} {A : Nat → Prop} {o : Option Addr} {qs : List Qst} (h : Qs w A o qs) : Qs w (fun b => b < hs w) o qs := fun i q hi => by
  obtain ⟨a, oi, ci, h1, -, h3, h4, h5⟩ := h i q hi
  have := cell_block h3
  rw [block_add1] at this
  exact ⟨a, oi, ci, h1, this, h3, h4, Recs.low h5 fun row hr => by
    obtain ⟨x, -, rfl⟩ := List.mem_map.1 hr
    simp [encA]⟩
theorem Acs.low {w : World} {A : Nat → Prop} {o : Option Addr} {l : List Ac} (h : Acs w A o l) : Acs w (fun b => b < hs w) o l := fun i a hi => by
  obtain ⟨ad, qo, qc, h1, -, h3, h4⟩ := h i a hi
  have := cell_block (h3 0 _ rfl)
  rw [block_add2] at this
  exact ⟨ad, qo, qc, h1, this, h3, Qs.low h4⟩
set_option maxHeartbeats 4000000 in
theorem law21_c (o : Option Addr) (c : Nat) (l : List Ac) (hf : ∀ a, a ∈ l → FitP a.t) (hl : l.length ≤ 9223372036854775807) (w : World) {A : Nat → Prop} (h : Acs w A o l) :
    Calls Try.prog 21 #[.slice o l.length c] w (Tru w) := by
  have h := Acs.low h
  refine nf21n o l.length c w _ ((wakes_c w).mono ?_)
  rintro _ w2 ⟨rfl, g2⟩
  refine ⟨_, rfl, fun _ => (smallL_c o c l hf hl w2 (h.grow g2)).mono ?_, fun h => (by cases h)⟩
  rintro _ w6 ⟨b, rfl, hb, g6⟩
  have G6 := g2.trans' g6
  refine ⟨_, rfl, fun hb' => (newB_c w6).mono ?_, fun _ => ⟨rfl, G6⟩⟩
  have hlen := hb hb'
  rintro _ w10 ⟨t, m, rfl, s10, g10⟩
  have G10 := G6.trans' g10
  have z6 := G6.size
  have z10 := g10.size
  refine ⟨_, rfl, fun w12 e12 => ?_⟩
  have g12 : Grow w10 w12 := only_alloc e12
  have z12 := hs_alloc e12
  refine ⟨fun k x w' => ∃ (j : Nat) (S L : List Prot) (P : List Pn) (M D E : Nat → Prop) (oL oP : Option Addr) (cL cP : Nat), x = (j : Int) ∧ j ≤ l.length ∧ k = l.length - j ∧ Row w' (hs w10) 74 [.slice oL L.length cL, .slice oP P.length cP] ∧
      St w' (hs w6) t m M D S P ∧ Bk w' E oL oP L P ∧ P.length ≤ cP ∧ Sim S L ∧ Ok S ∧ S.length ≤ 100 ∧ P.length ≤ j ∧ (∀ b, b < hs w → E b) ∧ (∀ b, E b → ¬ M b) ∧ (∀ b, M b ∨ D b ∨ E b → b ≠ hs w10) ∧ Only (fun b => hs w6 ≤ b) w12 w',
    ⟨_, 0, [], [], [], _, _, (fun b => b < hs w), none, none, 0, 0, rfl, Nat.zero_le _, rfl, Row.new e12, s10.grow g12, ⟨Ps.nil _ _ _, Recs.nil _ _ _ _, fun b hb => by omega⟩, Nat.le_refl _, .nil, (fun p hp => by cases hp), Nat.zero_le _, Nat.zero_le _, fun b hb => hb, fun b hb hm => ?_, fun b hb => ?_, Only.refl _ _⟩, ?_⟩
  · have := (s10.ms b hm).1; omega
  · rcases hb with q | q | q
    · have := (s10.ms b q).2; omega
    · exact q.elim
    · omega
  rintro k _ w18 x ⟨j, S, L, P, M, D, E, oL, oP, cL, cP, rfl, hj, rfl, rB, hst, hbk, hcP, hsim, hok, hSl, hPl, hE0, hEM, hne, o18⟩
  refine ⟨fun hlt => ?_, fun hge => ⟨rfl, ((G10.trans' g12).trans o18 fun b hb e => by omega)⟩⟩
  have hlt : j < l.length := by have := dT hlt; omega
  have h18 := ((h.grow (G10.trans' g12)).keep o18 fun b hb e => by omega)
  obtain ⟨ad, qo, qc, ha, c0, c1, c2, c3, c4, c5, c6, hq⟩ := h18.get hlt
  have hfa := hf _ (List.getElem_mem hlt)
  generalize l[j] = a at *
  refine ⟨ad, ha, ⟨by omega, by omega⟩, _, c0, _, c1, _, c2, _, _, _, c3, _, c4, _, c5, _, c6, fun w32 e32 => ⟨(Row.new e32).there (by simp), fun w34 e34 => ?_⟩⟩
  obtain ⟨r34, g34⟩ := loc e32 e34 rfl
  have rB34 := rB.grow g34
  have z34 := g34.size
  have z18 := o18.size
  have hlL : L.length ≤ 100 := by rw [hsim.perm.length_eq]; exact hSl
  refine ⟨_, _, _, rB34.cell rfl, _, _, _, rB34.cell rfl, _, r34.cell rfl, _, r34.cell rfl, _, r34.cell rfl, _, _, _, r34.cell rfl, _, r34.cell rfl, _, r34.cell rfl, _, r34.cell rfl,
    (do_c (a := a) (qc := qc) hfa ((hq.mono fun b hb => hE0 b hb).grow g34) hEM hsim.sorted (by omega) (by omega) (by omega) hcP hst.one (hst.grow g34) (hbk.grow g34)).mono ?_⟩
  rintro _ w52 ⟨S', P1, L', P2, M', D', E', r1, r2, r1', r2', b, oL', cL', oP', cP', rfl, hbit, hs1, hs2, st52, bk52, hc52, hEE, hEM', hMM, hDD, hEE', o52⟩
  obtain ⟨hsim', rfl, rfl, rfl⟩ := step_agree hsim hs1 hs2
  obtain rfl := hbit.2 ⟨rfl, rfl⟩
  have z52 := o52.size
  have rB52 := rB34.keep o52 fun hm => hne _ (.inl hm) rfl
  have ra52 := r34.keep o52 fun hm => by have := (hst.ms _ hm).2; omega
  refine ⟨_, _, _, _, _, _, _, rfl, fun _ w61 e61 => ⟨(Row.new e61).there (by simp), fun w63 e63 => ?_⟩, fun h => (by cases h)⟩
  obtain ⟨r63, g63⟩ := loc e61 e63 rfl
  have rB63 := rB52.grow g63
  have ra63 := ra52.grow g63
  refine ⟨_, _, _, r63.cell rfl, _, _, _, r63.cell rfl, rB63.there (by simp), fun w71 e71 => ?_⟩
  have s71 : Only (fun b => b = hs w10) w63 w71 := only_set e71
  have rB71 := rB63.set e71
  have hl18 := r34.lt
  have ra71 := ra63.keep s71 (by omega)
  have hneX : ∀ b, M' b ∨ D' b ∨ E' b → b ≠ hs w10 := fun b hb => by
    rcases hb with q | q | q
    · rcases hMM b q with k | k
      · exact hne b (.inl k)
      · omega
    · rcases hDD b q with k | k
      · exact hne b (.inr (.inl k))
      · omega
    · rcases hEE' b q with k | k
      · exact hne b (.inr (.inr k))
      · omega
  have st71 := (st52.grow g63).keep s71 (fun b hb e => hneX b (.inl hb) e) (fun b hb e => hneX b (.inr (.inl hb)) e)
  have bk71 := (bk52.grow g63).keep s71 fun b hb e => hneX b (.inr (.inr hb)) e
  have hSl' := step_len hSl hs1
  have hok' := step_ok hok hs1
  have hP2 := (bstep_pins hs2 hst.one).1
  refine ⟨_, _, _, rB71.cell rfl, _, _, _, rB71.cell rfl, _, ra71.cell rfl, _, ra71.cell rfl, _, ra71.cell rfl, _, _, _, ra71.cell rfl, _, ra71.cell rfl, _, ra71.cell rfl, _, ra71.cell rfl,
    (sameB_c (a := a) (qc := qc) hsim' hok' hSl' (by omega) st71 bk71).mono ?_⟩
  rintro _ w89 ⟨rfl, g89⟩
  refine ⟨_, rfl, fun _ => ⟨_, by omega, j + 1, S', L', _, M', D', E', oL', oP', cL', cP', by rw [wr (by omega)]; omega, hlt, rfl, rB71.grow g89, st71.grow g89, bk71.grow g89, hc52, hsim', hok', hSl', by omega, fun b hb => hEE b (hE0 b hb), hEM', hneX, ?_⟩, fun h => (by cases h)⟩
  exact ((((o18.grow g34).trans o52 fun b hb hm => (hst.ms b hm).1).grow g63).trans s71 fun b _ e => by omega).grow g89
end Go.Proofs.Ytbaacpfjecbbgaa
