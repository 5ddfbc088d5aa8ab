/- The law on what Solve finds. -/
import Derived.Test.YtneklhmkiememaaDoorZi
import Derived.Test.YtneklhmkiememaaDoorNf2
namespace Go.Proofs.YtneklhmkiememaaDoor
open Go Go.Nf

theorem AwakeOk.run2 {w0 : World} (ha : AwakeOk w0) {w : World} (g : Grow w0 w) : Calls Tryd.prog 9 #[] w fun e w' => ∃ b : Bool, e = .returned (.bool b) ∧ (b = true → Tr w0 (.returned (.bool true)) w') ∧ (b = false → Tr w0 (.returned (.bool false)) w') := (ha w g).mono fun _ _ ⟨he, g'⟩ => ⟨true, he, fun _ => ⟨rfl, g.trans' g'⟩, fun k => by cases k⟩
set_option maxHeartbeats 2000000 in
theorem law6_c (o : Option Addr) (c : Nat) (rows : List (List Int)) (w : World) (ha : AwakeOk w) {A : Nat → Prop} (h : Mat w A o rows) :
    Calls Tryd.prog 6 #[.slice o rows.length c] w (Tr w) := by
  refine nf6 o rows.length c w _ ((ha w (Only.refl _ _)).mono ?_)
  rintro _ w2 ⟨rfl, g2⟩
  refine ⟨_, rfl, fun _ => ⟨fun _ => ha.run2 g2, fun h1 => ?_⟩, fun k => by cases k⟩
  have h1 := dF h1
  refine ⟨fun n x w' => ∃ i : Nat, x = (i : Int) ∧ i ≤ rows.length ∧ n = rows.length - i ∧ (∀ k (hk : k < rows.length), k < i → rows[k].length ≤ 30) ∧ w2 = w', ⟨_, 0, rfl, Nat.zero_le _, rfl, fun k _ hk => (by omega), rfl⟩, ?_⟩
  rintro n _ _ x ⟨i, rfl, hi, rfl, hI, rfl⟩
  refine ⟨fun hlt => ?_, fun hge => ?_⟩
  · have hlt : i < rows.length := by have := dT hlt; omega
    obtain ⟨ar, oi, ci, har, hcr, -⟩ := (h.grow g2).get hlt
    refine ⟨ar, har, ⟨by omega, by omega⟩, _, _, _, hcr, fun _ => ⟨rfl, g2⟩, fun h3 => ⟨_, by omega, i + 1, by rw [wr (by omega)]; omega, hlt, rfl, fun k hk hk' => ?_, rfl⟩⟩
    by_cases e : k = i
    · subst e; have := dF h3; omega
    · exact hI k hk (by omega)
  have hge := dF hge
  have hrl : ∀ r ∈ rows, r.length ≤ 1000 := fun r hr => by
    obtain ⟨k, hk, rfl⟩ := List.getElem_of_mem hr
    have := hI k hk (by omega)
    omega
  refine (table_c o c rows (by omega) hrl w2 (h.grow g2)).mono ?_
  rintro _ w29 ⟨o1, c1, rfl, b1, g29⟩
  have G29 := g2.trans' g29
  refine ⟨_, _, _, rfl, (Solve_c o1 c1 rows w29 b1.mat).mono ?_⟩
  rintro _ w34 ⟨g34, hs34⟩
  have G34 := G29.trans' g34
  have tail : ∀ (w25 w36 w38 : World) (pU pV pH : Option Addr) (nU nV nH dU dV dH : Nat), w36 = w25.alloc (Obj.cells #[.slice none 0 0, .slice none 0 0, .slice none 0 0] 28 (0, 0)) → w38 = setCells w36 ⟨hs w25, 0, none⟩ [.slice pU nU dU, .slice pV nV dV, .slice pH nH dH] 0 →
      Grow w25 w38 ∧ Row w38 (hs w25) 28 [.slice pU nU dU, .slice pV nV dV, .slice pH nH dH] ∧ There w36 ⟨hs w25, 0, none⟩ 3 := fun w25 w36 w38 pU pV pH nU nV nH dU dV dH e36 e38 => by
    have r36 := Row.new e36
    have g36 : Grow w25 w36 := only_alloc e36
    exact ⟨g36.trans (only_set e38) fun b hb e => by omega, r36.set e38, r36.there (by simp)⟩
  rcases hs34 with ⟨hne, rfl⟩ | ⟨he, bm, m, rfl, rm, hbm, hbest, -⟩
  · refine ⟨_, _, _, _, _, rfl, (table_c o c rows (by omega) hrl w34 (h.grow G34)).mono ?_⟩
    rintro _ w41 ⟨o2, c2, rfl, b2, g41⟩
    have G41 := G34.trans' g41
    refine ⟨_, _, _, rfl, (ints_c none 0 [] (by simp) w41 (A := fun _ => True) (fun j v hj => by simp at hj)).mono ?_⟩
    rintro _ w46 ⟨o3, c3, rfl, a3, g46⟩
    have G46 := G41.trans' g46
    refine ⟨_, _, _, rfl, (Certify_c o2 o3 c2 c3 rows [] w46 (b2.grow g46).mat a3.nums).mono ?_⟩
    rintro _ w51 ⟨hp, g51⟩
    have hE : costE rows [] = errOf rows := by unfold costE; rw [if_neg hne]
    rw [hE] at hp
    rcases hp with ⟨-, rfl⟩ | ⟨k, -⟩ | ⟨k, -⟩
    · have G51 := G46.trans' g51
      refine ⟨_, _, _, _, _, _, _, _, _, _, rfl, fun w62 e62 => ⟨(tail w51 w62 _ none none none 0 0 0 0 0 0 e62 rfl).2.2, fun w64 e64 => ?_⟩⟩
      obtain ⟨g64, r64, -⟩ := tail _ _ _ _ _ _ _ _ _ _ _ _ e62 e64
      have G64 := G51.trans' g64
      refine (right_c o c rows w64 (h.grow G64)).mono ?_
      rintro _ _ ⟨rfl, rfl⟩
      exact ⟨_, rfl, fun _ => ⟨fun _ => ⟨fun _ => ⟨rfl, G64⟩, fun k => absurd rfl (dF k)⟩, fun k => absurd rfl (dF k)⟩, fun k => absurd (nF k) hne⟩
    · exact absurd k hne
    · exact absurd k hne
  · have hml := hbest.valid.len
    obtain ⟨y1, y2, y3⟩ := hbest.valid.costs he
    refine ⟨_, _, _, _, _, rfl, (table_c o c rows (by omega) hrl w34 (h.grow G34)).mono ?_⟩
    rintro _ w41 ⟨o2, c2, rfl, b2, g41⟩
    have G41 := G34.trans' g41
    have n41 : Nums w41 (fun _ => True) (some ⟨bm, 0, none⟩) m := (rm.grow g41).nums trivial
    have ii := ints_c (some ⟨bm, 0, none⟩) rows.length m (by omega) w41 n41
    rw [hml] at ii
    refine ⟨_, _, _, rfl, ii.mono ?_⟩
    rintro _ w46 ⟨o3, c3, rfl, a3, g46⟩
    have G46 := G41.trans' g46
    have cc := Certify_c o2 o3 c2 c3 rows m w46 (b2.grow g46).mat a3.nums
    rw [hml] at cc
    refine ⟨_, _, _, rfl, cc.mono ?_⟩
    rintro _ w51 ⟨hp, g51⟩
    rcases hp with ⟨k, -⟩ | ⟨-, k, -⟩ | ⟨hz, ht, oU, oV, oH, cU, cV, cH, U, V, H, rfl, nU, nV, nH, lU, lV, lH, hcert⟩
    · exact absurd y1 k
    · exact absurd (best_top hbest) k
    · have G51 := G46.trans' g51
      refine ⟨_, _, _, _, _, _, _, _, _, _, rfl, fun w62 e62 => ⟨(tail w51 w62 _ none none none 0 0 0 0 0 0 e62 rfl).2.2, fun w64 e64 => ?_⟩⟩
      obtain ⟨g64, r64, -⟩ := tail _ _ _ _ _ _ _ _ _ _ _ _ e62 e64
      have G64 := G51.trans' g64
      refine (right_c o c rows w64 (h.grow G64)).mono ?_
      rintro _ _ ⟨rfl, rfl⟩
      refine ⟨_, rfl, fun k => absurd he (nT k), fun _ w77 e77 => ⟨fun _ => ⟨fun _ => ⟨fun _ => ?_, fun k => absurd rfl (dF k)⟩, fun k => absurd rfl (dF k)⟩, fun k => absurd rfl (dF k)⟩⟩
      have K77 : Grow w51 w77 := g64.trans' (only_drew e77)
      have G77 := G51.trans' K77
      have r77 := r64.grow (only_drew e77)
      have N77 : Nums w77 (fun _ => True) (some ⟨bm, 0, none⟩) m := n41.grow ((g46.trans' g51).trans' K77)
      refine ⟨_, _, _, r77.cell rfl, _, _, _, r77.cell rfl, _, _, _, r77.cell rfl, (back_c _ _ _ _ _ _ _ _ _ w77).mono ?_⟩
      rintro _ w92 ⟨rfl, g92⟩
      have G92 := G77.trans' g92
      have K92 := K77.trans' g92
      have ck := Check_c o (some ⟨bm, 0, none⟩) oU oV oH c rows.length cU cV cH rows m U V H (by omega) w92 (h.grow G92) (N77.grow g92) (nU.grow K92) (nV.grow K92) (nH.grow K92)
      rw [hml] at ck
      refine ⟨_, _, _, _, _, _, _, _, _, rfl, ck.mono ?_⟩
      rintro _ w103 ⟨b, rfl, hbb, g103⟩
      have G103 := G92.trans' g103
      have K103 := K92.trans' g103
      have r103 := (r77.grow g92).grow g103
      have lt103 := r103.lt
      have hbt : b = true := hbb.2 ⟨hz, hcert⟩
      refine ⟨_, rfl, fun _ => ?_, fun k => by rw [hbt] at k; cases k⟩
      refine ⟨_, _, _, r103.cell rfl, _, _, _, r103.cell rfl, _, _, _, r103.cell rfl, (table_c o c rows (by omega) hrl w103 (h.grow G103)).mono ?_⟩
      rintro _ w116 ⟨o4, c4, rfl, b4, g116⟩
      have i2 := ints_c (some ⟨bm, 0, none⟩) rows.length m (by omega) w116 (((N77.grow g92).grow g103).grow g116)
      rw [hml] at i2
      refine ⟨_, _, _, rfl, kept_only g116 lt103 (fun h => h), i2.mono ?_⟩
      rintro _ w121 ⟨o5, c5, rfl, a5, g121⟩
      have K121 := (K103.trans' g116).trans' g121
      have vv := Verify_c o4 o5 oU oV oH c4 c5 cU cV cH rows m U V H (by omega) w121 (Mat.any (b4.grow g121).mat) (Nums.any a5.nums) (nU.grow K121) (nV.grow K121) (nH.grow K121)
      rw [hml] at vv
      refine ⟨_, _, _, rfl, kept_only (g116.trans' g121) lt103 (fun h => h), vv.mono ?_⟩
      rintro _ w126 ⟨b2', rfl, hb2, g126⟩
      have hbt2 : b2' = true := hb2.2 ⟨hz, hcert⟩
      exact ⟨_, rfl, fun _ => ⟨rfl, ((G103.trans' g116).trans' g121).trans' g126⟩, fun k => by rw [hbt2] at k; cases k⟩
end Go.Proofs.YtneklhmkiememaaDoor
