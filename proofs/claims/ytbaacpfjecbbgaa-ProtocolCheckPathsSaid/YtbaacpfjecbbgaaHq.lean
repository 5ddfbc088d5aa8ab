/- same: an interview is in the state after the answers. -/
import Derived.Test.YtbaacpfjecbbgaaHp
import Derived.Test.YtbaacpfjecbbgaaNf2
namespace Go.Proofs.Ytbaacpfjecbbgaa
open Go Go.Nf

theorem range_eq {p : Prot} {cur lo hi lo' hi' : Int} {last : Ans} (h : (0 ≤ cur ∧ IsRange p cur lo hi) ∨ (cur = -1 ∧ lo = last.urg ∧ hi = last.urg)) (h' : (0 ≤ cur ∧ IsRange p cur lo' hi') ∨ (cur = -1 ∧ lo' = last.urg ∧ hi' = last.urg)) : lo = lo' ∧ hi = hi' := by
  rcases h with ⟨h0, h1⟩ | ⟨h0, rfl, rfl⟩ <;> rcases h' with ⟨h0', h1'⟩ | ⟨h0', rfl, rfl⟩
  · exact isRange_one h1 h1'
  · omega
  · omega
  · exact ⟨rfl, rfl⟩
set_option maxHeartbeats 4000000 in
theorem same_c {t B : Nat} {o so : Option Addr} {c sc : Nat} {p : Prot} {said path : List Int} {cur : Int} {last : Ans} (hf : FitP p) (hv : validB p = true) (ht : Talk p.qs said path cur last) (hl : said.length ≤ 1000) {w : World} (hI : Iv w B t p said path cur) {A A' : Nat → Prop} (h : Qs w A o p.qs) (hs' : Nums w A' so said) :
    Calls Try.prog 32 #[.pointer (some ⟨t, 0, none⟩), .agg #[.string p.name, .int .i64 p.version, .slice o p.qs.length c], .slice so said.length sc] w fun e w' => e = .returned (.bool true) ∧ Grow w w' := by
  have hb := ht.bound hv
  refine nf32 t p.name p.version o p.qs.length c so said.length sc w _ fun w1 e1 => ?_
  have r := Row.new e1
  have g : Grow w w1 := only_alloc e1
  refine ⟨_, r.cell rfl, _, r.cell rfl, _, _, _, r.cell rfl, (at_c o so c sc p ht hl w1 (h.grow g) (hs'.grow g)).mono ?_⟩
  rintro _ w2 ⟨rfl, g2⟩
  refine ⟨_, _, _, _, _, rfl, fun w3 e3 => ⟨(Row.new e3).there (by simp), fun w4 e4 => ?_⟩⟩
  obtain ⟨r4, g4⟩ := loc e3 e4 rfl
  have G4 := (g.trans' g2).trans' g4
  have rp4 := (r.grow g2).grow g4
  refine (question14_c hv (hI.grow G4) ht).mono ?_
  have eS : ∀ s : ByteArray, (!strEq s s) = false := fun s => by rw [strEq_refl]; rfl
  rintro _ w5 ⟨⟨hcur, rfl⟩ | ⟨hcur, q, oq, cq, hq, rfl, ownq⟩, g5⟩
  · -- over
    refine ⟨_, _, _, _, _, rfl, fun hb => (by cases hb), fun _ w6 e6 => ⟨(Row.new e6).there (by simp), fun w7 e7 => ?_⟩⟩
    obtain ⟨r7, g7⟩ := loc e6 e7 rfl
    have G7 := (G4.trans' g5).trans' g7
    refine (result_c hv (hI.grow G7) ht hl).mono ?_
    rintro _ w8 ⟨⟨h0, rfl⟩ | ⟨h0, rfl⟩, g8⟩
    · omega
    · have G8 := G7.trans' g8
      refine ⟨_, _, _, rfl, fun _ => (urg_c hv (hI.grow G8) ht hl).mono ?_, fun hb => (by cases hb)⟩
      rintro _ w9 ⟨lo, hi, rfl, hR, g9⟩
      have G9 := G8.trans' g9
      have rp9 := (((rp4.grow g5).grow g7).grow g8).grow g9
      refine ⟨_, _, rfl, _, rp9.cell rfl, _, rp9.cell rfl, _, _, _, rp9.cell rfl, (range14_c o so c sc p hf hv ht hl w9 (h.grow G9) (hs'.grow G9)).mono ?_⟩
      rintro _ w10 ⟨lo', hi', rfl, hR', g10⟩
      obtain ⟨rfl, rfl⟩ := range_eq hR hR'
      have G10 := G9.trans' g10
      refine ⟨_, _, rfl, (protocol_c (hI.grow G10)).mono ?_⟩
      rintro _ w11 ⟨rfl, g11⟩
      have G11 := G10.trans' g11
      refine ⟨_, _, rfl, (answers_c (hI.grow G11) hl).mono ?_⟩
      rintro _ w12 ⟨oa, ca, rfl, owna, g12⟩
      have G12 := G11.trans' g12
      refine ⟨_, _, _, rfl, (numbers_c oa so ca sc said hl w12 owna.nums (hs'.grow G12)).mono ?_⟩
      rintro _ w13 ⟨rfl, g13⟩
      have G13 := G12.trans' g13
      have rp13 := (((rp9.grow g10).grow g11).grow g12).grow g13
      refine ⟨_, rfl, fun _ => ⟨fun h1 => absurd rfl (nT h1), fun _ => ⟨fun h1 => absurd rfl (nT h1), fun _ => ⟨_, rp13.cell rfl, fun h1 => (by rw [eS] at h1; cases h1), fun _ => ⟨_, rp13.cell rfl, fun h1 => absurd rfl (nT h1), fun _ => no (by omega) (bF (yes (by omega) (bF (no (by omega) ?_))))⟩⟩⟩⟩, fun hb => (by cases hb)⟩
      have rq13 := ((((((r7.grow g8).grow g9).grow g10).grow g11).grow g12).grow g13)
      refine ⟨_, rq13.cell rfl, _, _, _, rq13.cell rfl, (eqQuestion_c none none 0 0 ⟨emp, []⟩ (by simp) w13 (Recs.nil w13 (fun _ => True) none 4) (Recs.nil w13 (fun _ => True) none 4)).mono ?_⟩
      rintro _ w14 ⟨rfl, g14⟩
      have r14 := ((((((((((r4.grow g5).grow g7).grow g8).grow g9).grow g10).grow g11).grow g12).grow g13).grow g14))
      exact ⟨_, rfl, fun _ => ⟨_, r14.cell rfl, fun _ => ⟨_, r14.cell rfl, fun _ => ⟨rfl, G13.trans' g14⟩, fun h1 => (by rw [strEq_refl] at h1; cases h1)⟩, fun h1 => absurd rfl (dF h1)⟩, fun hb => (by cases hb)⟩
  · -- a question is asked
    refine ⟨_, _, _, _, _, rfl, fun _ w6 e6 => ⟨(Row.new e6).there (by simp), fun w7 e7 => ?_⟩, fun hb => (by cases hb)⟩
    obtain ⟨r7, g7⟩ := loc e6 e7 rfl
    have G7 := (G4.trans' g5).trans' g7
    refine (result_c hv (hI.grow G7) ht hl).mono ?_
    rintro _ w8 ⟨⟨h0, rfl⟩ | ⟨h0, rfl⟩, g8⟩
    · have G8 := G7.trans' g8
      refine ⟨_, _, _, rfl, fun hb => (by cases hb), fun _ => (urg_c hv (hI.grow G8) ht hl).mono ?_⟩
      rintro _ w9 ⟨lo, hi, rfl, hR, g9⟩
      have G9 := G8.trans' g9
      have rp9 := (((rp4.grow g5).grow g7).grow g8).grow g9
      refine ⟨_, _, rfl, _, rp9.cell rfl, _, rp9.cell rfl, _, _, _, rp9.cell rfl, (range14_c o so c sc p hf hv ht hl w9 (h.grow G9) (hs'.grow G9)).mono ?_⟩
      rintro _ w10 ⟨lo', hi', rfl, hR', g10⟩
      obtain ⟨rfl, rfl⟩ := range_eq hR hR'
      have G10 := G9.trans' g10
      refine ⟨_, _, rfl, (protocol_c (hI.grow G10)).mono ?_⟩
      rintro _ w11 ⟨rfl, g11⟩
      have G11 := G10.trans' g11
      refine ⟨_, _, rfl, (answers_c (hI.grow G11) hl).mono ?_⟩
      rintro _ w12 ⟨oa, ca, rfl, owna, g12⟩
      have G12 := G11.trans' g12
      refine ⟨_, _, _, rfl, (numbers_c oa so ca sc said hl w12 owna.nums (hs'.grow G12)).mono ?_⟩
      rintro _ w13 ⟨rfl, g13⟩
      have G13 := G12.trans' g13
      have rp13 := (((rp9.grow g10).grow g11).grow g12).grow g13
      refine ⟨_, rfl, fun _ => ⟨fun h1 => absurd rfl (nT h1), fun _ => ⟨fun h1 => absurd rfl (nT h1), fun _ => ⟨_, rp13.cell rfl, fun h1 => (by rw [eS] at h1; cases h1), fun _ => ⟨_, rp13.cell rfl, fun h1 => absurd rfl (nT h1), fun _ => yes (by omega) (bF (no (by omega) (bF (yes (by omega) ?_))))⟩⟩⟩⟩, fun hb => (by cases hb)⟩
      intro w14 e14
      have g14 : Grow w13 w14 := only_drew e14
      have G14 := G13.trans' g14
      have rq14 := (((((((r7.grow g8).grow g9).grow g10).grow g11).grow g12).grow g13).grow g14)
      have rp14 := rp13.grow g14
      obtain ⟨i, rfl⟩ : ∃ i : Nat, cur = (i : Int) := ⟨cur.toNat, by omega⟩
      rw [toNat_cast] at hq
      obtain ⟨hin, aq, oi, ci, haq, c0, c1, -, hRc⟩ := qs_at (h.grow G14) hq
      have V := valid_of hv
      have hans := V.ans q (List.mem_of_getElem? hq)
      have ownq14 := ((((((((ownq.grow g7).grow g8).grow g9).grow g10).grow g11).grow g12).grow g13).grow g14)
      refine ⟨_, rq14.cell rfl, _, _, _, rq14.cell rfl, _, _, _, rp14.cell rfl, aq, haq, ⟨by omega, by omega⟩, _, c0, _, _, _, c1, (eqQuestion_c oq oi cq ci q (by omega) w14 (own_recs ownq14) hRc).mono ?_⟩
      rintro _ w15 ⟨rfl, g15⟩
      exact ⟨_, rfl, fun _ => yes rfl ⟨fun _ => ⟨rfl, G14.trans' g15⟩, fun h1 => (by rw [show strEq emp (ByteArray.mk #[]) = true from strEq_refl _] at h1; cases h1)⟩, fun hb => (by cases hb)⟩
    · omega
end Go.Proofs.Ytbaacpfjecbbgaa
