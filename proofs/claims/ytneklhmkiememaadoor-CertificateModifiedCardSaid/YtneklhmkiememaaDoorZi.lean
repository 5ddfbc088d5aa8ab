/- The laws that look at what Verify accepts. -/
import Derived.Test.YtneklhmkiememaaDoorZh
namespace Go.Proofs.YtneklhmkiememaaDoor
open Go Go.Nf

def Tr (w : World) (e : Ending) (w' : World) : Prop := e = .returned (.bool true) ∧ Grow w w'
/-- from this world on, awake returns true and writes nothing old -/
def AwakeOk (w0 : World) : Prop := ∀ w, Grow w0 w → Calls Tryd.prog 9 #[] w (Tr w)
theorem AwakeOk.run {w0 : World} (ha : AwakeOk w0) {w : World} (g : Grow w0 w) : Calls Tryd.prog 9 #[] w fun e w' => ∃ b : Bool, e = .returned (.bool b) ∧ Tr w0 (.returned (.bool b)) w' := (ha w g).mono fun _ _ ⟨he, g'⟩ => ⟨true, he, rfl, g.trans' g'⟩
theorem Mat.any {w : World} {A : Nat → Prop} {o : Option Addr} {rows : List (List Int)} (h : Mat w A o rows) : Mat w (fun _ => True) o rows := fun i row hi => by
  obtain ⟨a, oi, ci, h1, h2, h3, h4⟩ := h i row hi
  exact ⟨a, oi, ci, h1, trivial, h3, h4.mono fun _ _ => trivial⟩
theorem Nums.any {w : World} {A : Nat → Prop} {o : Option Addr} {xs : List Int} (h : Nums w A o xs) : Nums w (fun _ => True) o xs := h.mono fun _ _ => trivial
theorem BestFrom.most {rows : List (List Int)} {m : List Int} (h : BestFrom rows (first rows) [] m) : TopM rows m := fun m' hv => by
  have := h.best m' hv (fun i hi => by simp at hi)
  unfold Good at this
  omega
theorem refBest_c (o : Option Addr) (c : Nat) (rows : List (List Int)) (w : World) {A0 : Nat → Prop} (h : Mat w A0 o rows) (he : errOf rows = 0) :
    Calls Tryd.prog 15 #[.slice o rows.length c] w fun e w' => ∃ m, Valid rows (first rows) m ∧ TopM rows m ∧ e = .returned (.tuple #[.int .i64 (cnt m rows.length), .int .i64 (tot rows m rows.length)]) ∧ Grow w w' := by
  refine nf15 o rows.length c w _ ((best_c o c rows w h he).mono ?_)
  rintro _ w1 ⟨o', c', m, rfl, n1, b1, g1⟩
  obtain ⟨k1, k2, k3⟩ := b1.valid.costs he
  refine ⟨_, _, _, _, _, rfl, fun hne => absurd rfl (nT hne), fun _ => ?_⟩
  have cc := cost_c o o' c c' rows m w1 (h.grow g1) n1
  rw [b1.valid.len] at cc
  refine cc.mono ?_
  rintro _ _ ⟨rfl, rfl⟩
  exact ⟨_, _, _, rfl, m, b1.valid, b1.most, by rw [k2, k3], g1⟩
set_option maxHeartbeats 2000000 in
theorem law4_c (o o' oU oV oH : Option Addr) (c c' cU cV cH : Nat) (rows : List (List Int)) (m U V H : List Int) (w : World) (ha : AwakeOk w) {A A' B C D : Nat → Prop} (h : Mat w A o rows) (h' : Nums w A' o' m) (hU : Nums w B oU U) (hV : Nums w C oV V) (hHn : Nums w D oH H) :
    Calls Tryd.prog 4 #[.slice o rows.length c, .slice o' m.length c', certV oU U.length cU oV V.length cV oH H.length cH] w (Tr w) := by
  refine nf4 o rows.length c o' m.length c' oU U.length cU oV V.length cV oH H.length cH w _ fun w1 e1 => ?_
  have r1 := Row.new e1
  have g1 : Grow w w1 := only_alloc e1
  have lt1 := r1.lt
  refine (ha w1 g1).mono ?_
  rintro _ w4 ⟨rfl, g4⟩
  have G4 := g1.trans' g4
  have r4 := r1.grow g4
  refine ⟨_, rfl, fun _ => ⟨fun _ => ha.run G4, fun h1 => ⟨fun _ => ha.run G4, fun h2 => ?_⟩⟩, fun k => by cases k⟩
  have h1 := dF h1
  have h2 := dF h2
  refine ⟨_, _, _, r4.cell rfl, _, _, _, r4.cell rfl, _, _, _, r4.cell rfl, (few_c oU oV oH U.length cU V.length cV H.length cH w4).mono ?_⟩
  rintro _ w27 ⟨b, rfl, hb, g27⟩
  have G27 := G4.trans' g27
  have r27 := r4.grow g27
  refine ⟨_, rfl, fun hbt => ?_, fun _ => ha.run G27⟩
  obtain ⟨f1, f2, f3⟩ := hb hbt
  refine ⟨fun n x w' => ∃ i : Nat, x = (i : Int) ∧ i ≤ rows.length ∧ n = rows.length - i ∧ (∀ k (hk : k < rows.length), k < i → rows[k].length ≤ 70) ∧ w27 = w', ⟨_, 0, rfl, Nat.zero_le _, rfl, fun k _ hk => (by omega), rfl⟩, ?_⟩
  rintro n _ _ x ⟨i, rfl, hi, rfl, hI, rfl⟩
  refine ⟨fun hlt => ?_, fun hge w46 e46 => ?_⟩
  · have hlt : i < rows.length := by have := dT hlt; omega
    obtain ⟨ar, oi, ci, har, hcr, -⟩ := (h.grow G27).get hlt
    refine ⟨ar, har, ⟨by omega, by omega⟩, _, _, _, hcr, fun _ => ⟨rfl, G27⟩, fun h3 => ⟨_, by omega, i + 1, by rw [wr (by omega)]; omega, hlt, rfl, fun k hk hk' => ?_, rfl⟩⟩
    by_cases e : k = i
    · subst e; have := dF h3; omega
    · exact hI k hk (by omega)
  have hge := dF hge
  have hrl : ∀ r ∈ rows, r.length ≤ 1000 := fun r hr => by
    obtain ⟨k, hk, rfl⟩ := List.getElem_of_mem hr
    have := hI k hk (by omega)
    omega
  have G46 := G27.trans' (only_drew e46)
  have r46 := r27.grow (only_drew e46)
  have lt46 := r46.lt
  refine ⟨_, _, _, r46.cell rfl, _, _, _, r46.cell rfl, _, _, _, r46.cell rfl, _, _, _, r46.cell rfl, _, _, _, r46.cell rfl, _, _, _, r46.cell rfl, (table_c o c rows (by omega) hrl w46 (h.grow G46)).mono ?_⟩
  rintro _ w67 ⟨o1, c1, rfl, b1, g67⟩
  have G67 := G46.trans' g67
  refine ⟨_, _, _, rfl, kept_only g67 lt46 (fun h => h), kept_only g67 lt46 (fun h => h), (ints_c o' c' m (by omega) w67 (h'.grow G67)).mono ?_⟩
  rintro _ w72 ⟨o2, c2, rfl, a2, g72⟩
  have G72 := G67.trans' g72
  have K72 := g67.trans' g72
  refine ⟨_, _, _, rfl, kept_only K72 lt46 (fun h => h), kept_only K72 lt46 (fun h => h), (own_c oU oV oH cU cV cH U V H (by omega) (by omega) (by omega) w72 (Nums.any (hU.grow G72)) (Nums.any (hV.grow G72)) (Nums.any (hHn.grow G72))).mono ?_⟩
  rintro _ w77 ⟨p1, d1, p2, d2, p3, d3, rfl, ⟨q1, q2, q3, -⟩, g77⟩
  have G77 := G72.trans' g77
  have K77 := K72.trans' g77
  refine ⟨_, _, _, _, _, _, _, _, _, rfl, kept_only K77 lt46 (fun h => h), (Verify_c o1 o2 p1 p2 p3 c1 c2 d1 d2 d3 rows m U V H (by omega) w77 (Mat.any ((b1.grow g72).grow g77).mat) (Nums.any (a2.grow g77).nums) (Nums.any q1.nums) (Nums.any q2.nums) (Nums.any q3.nums)).mono ?_⟩
  rintro _ w88 ⟨b89, rfl, hb89, g88⟩
  have G88 := G77.trans' g88
  have K88 := K77.trans' g88
  refine ⟨_, rfl, kept_only K88 lt46 (fun h => h), (Check_c o o' oU oV oH c c' cU cV cH rows m U V H (by omega) w88 (h.grow G88) (Nums.any (h'.grow G88)) (Nums.any (hU.grow G88)) (Nums.any (hV.grow G88)) (Nums.any (hHn.grow G88))).mono ?_⟩
  rintro _ w91 ⟨b92, rfl, hb92, g91⟩
  have same : b89 = b92 := by rw [Bool.eq_iff_iff, hb89, hb92]
  exact ⟨_, rfl, fun _ => ⟨rfl, G88.trans' g91⟩, fun k => absurd same (dF k)⟩
set_option maxHeartbeats 2000000 in
theorem law5_c (o o' oU oV oH : Option Addr) (c c' cU cV cH : Nat) (rows : List (List Int)) (m U V H : List Int) (w : World) (ha : AwakeOk w) {A A' B C D : Nat → Prop} (h : Mat w A o rows) (h' : Nums w A' o' m) (hU : Nums w B oU U) (hV : Nums w C oV V) (hHn : Nums w D oH H) :
    Calls Tryd.prog 5 #[.slice o rows.length c, .slice o' m.length c', certV oU U.length cU oV V.length cV oH H.length cH] w (Tr w) := by
  refine nf5 o rows.length c o' m.length c' oU U.length cU oV V.length cV oH H.length cH w _ fun w1 e1 w3 e3 => ?_
  have r3 := (Row.new e1).grow (only_drew e3)
  have g3 : Grow w w3 := (only_alloc e1).trans' (only_drew e3)
  refine (ha w3 g3).mono ?_
  rintro _ w6 ⟨rfl, g6⟩
  have G6 := g3.trans' g6
  have r6 := r3.grow g6
  refine ⟨_, rfl, fun _ => (small_c o c rows w6 (h.grow G6)).mono ?_, fun k => by cases k⟩
  rintro _ _ ⟨b, rfl, hb, rfl⟩
  refine ⟨_, rfl, fun hbt => ⟨fun _ => ha.run G6, fun h2 => ?_⟩, fun _ => ha.run G6⟩
  have h2 := dF h2
  obtain ⟨f1, f2⟩ := hb hbt
  refine ⟨_, _, _, r6.cell rfl, _, _, _, r6.cell rfl, _, _, _, r6.cell rfl, (few_c oU oV oH U.length cU V.length cV H.length cH w6).mono ?_⟩
  rintro _ w28 ⟨b29, rfl, hb29, g28⟩
  have G28 := G6.trans' g28
  have r28 := r6.grow g28
  have lt28 := r28.lt
  refine ⟨_, rfl, fun hbt29 => ?_, fun _ => ha.run G28⟩
  obtain ⟨k1, k2, k3⟩ := hb29 hbt29
  refine ⟨_, _, _, r28.cell rfl, _, _, _, r28.cell rfl, _, _, _, r28.cell rfl, (table_c o c rows (by omega) (fun r hr => by have := f2 r hr; omega) w28 (h.grow G28)).mono ?_⟩
  rintro _ w41 ⟨o1, c1, rfl, b1, g41⟩
  have G41 := G28.trans' g41
  refine ⟨_, _, _, rfl, kept_only g41 lt28 (fun h => h), (ints_c o' c' m (by omega) w41 (h'.grow G41)).mono ?_⟩
  rintro _ w46 ⟨o2, c2, rfl, a2, g46⟩
  have G46 := G41.trans' g46
  have K46 := g41.trans' g46
  refine ⟨_, _, _, rfl, kept_only K46 lt28 (fun h => h), (own_c oU oV oH cU cV cH U V H (by omega) (by omega) (by omega) w46 (Nums.any (hU.grow G46)) (Nums.any (hV.grow G46)) (Nums.any (hHn.grow G46))).mono ?_⟩
  rintro _ w51 ⟨p1, d1, p2, d2, p3, d3, rfl, ⟨q1, q2, q3, -⟩, g51⟩
  have G51 := G46.trans' g51
  refine ⟨_, _, _, _, _, _, _, _, _, rfl, (Verify_c o1 o2 p1 p2 p3 c1 c2 d1 d2 d3 rows m U V H (by omega) w51 (Mat.any ((b1.grow g46).grow g51).mat) (Nums.any (a2.grow g51).nums) (Nums.any q1.nums) (Nums.any q2.nums) (Nums.any q3.nums)).mono ?_⟩
  rintro _ w62 ⟨b63, rfl, hb63, g62⟩
  have G62 := G51.trans' g62
  refine ⟨_, rfl, fun hbt63 => ?_, fun _ => ha.run G62⟩
  obtain ⟨hz, hcert⟩ := hb63.1 hbt63
  obtain ⟨he, hv⟩ := valid_of hz
  obtain ⟨y1, y2, y3⟩ := hv.costs he
  refine (cost_c o o' c c' rows m w62 (h.grow G62) (h'.grow G62)).mono ?_
  rintro _ _ ⟨rfl, rfl⟩
  refine ⟨_, _, _, rfl, (refBest_c o c rows w62 (h.grow G62) he).mono ?_⟩
  rintro _ w71 ⟨m0, hv0, ht0, rfl, g71⟩
  have ht : TopM rows m := fun m' hv' => hcert.sound hv hv'
  obtain ⟨s1, s2⟩ := (ht0.same hv0 hv).1 ht
  refine ⟨_, _, rfl, fun _ => ⟨fun _ => ⟨fun _ => ⟨rfl, G62.trans' g71⟩, fun k => absurd (by rw [y3]; exact s2) (dF k)⟩, fun k => absurd (by rw [y2]; exact s1) (dF k)⟩, fun k => absurd hz (dF k)⟩
set_option maxHeartbeats 2000000 in
theorem law3_c (o o' : Option Addr) (c c' : Nat) (rows : List (List Int)) (m : List Int) (w : World) (ha : AwakeOk w) {A A' : Nat → Prop} (h : Mat w A o rows) (h' : Nums w A' o' m) :
    Calls Tryd.prog 3 #[.slice o rows.length c, .slice o' m.length c'] w (Tr w) := by
  refine nf3 o rows.length c o' m.length c' w _ ((ha w (Only.refl _ _)).mono ?_)
  rintro _ w2 ⟨rfl, g2⟩
  refine ⟨_, rfl, fun _ => (small_c o c rows w2 (h.grow g2)).mono ?_, fun k => by cases k⟩
  rintro _ _ ⟨b, rfl, hb, rfl⟩
  refine ⟨_, rfl, fun hbt => ⟨fun _ => ha.run g2, fun h2 => ?_⟩, fun _ => ha.run g2⟩
  have h2 := dF h2
  obtain ⟨f1, f2⟩ := hb hbt
  refine (table_c o c rows (by omega) (fun r hr => by have := f2 r hr; omega) w2 (h.grow g2)).mono ?_
  rintro _ w15 ⟨o1, c1, rfl, b1, g15⟩
  have G15 := g2.trans' g15
  refine ⟨_, _, _, rfl, (ints_c o' c' m (by omega) w15 (h'.grow G15)).mono ?_⟩
  rintro _ w20 ⟨o2, c2, rfl, a2, g20⟩
  have G20 := G15.trans' g20
  refine ⟨_, _, _, rfl, (Certify_c o1 o2 c1 c2 rows m w20 (b1.grow g20).mat a2.nums).mono ?_⟩
  rintro _ w25 ⟨hp, g25⟩
  have G25 := G20.trans' g25
  -- what is looked at
  have tail : ∀ (pU pV pH : Option Addr) (nU nV nH dU dV dH : Nat) (x : Int) (w36 w38 : World), w36 = w25.alloc (Obj.cells #[.slice none 0 0, .slice none 0 0, .slice none 0 0] 28 (0, 0)) → w38 = setCells w36 ⟨hs w25, 0, none⟩ [.slice pU nU dU, .slice pV nV dV, .slice pH nH dH] 0 →
      Grow w25 w38 ∧ Row w38 (hs w25) 28 [.slice pU nU dU, .slice pV nV dV, .slice pH nH dH] ∧ There w36 ⟨hs w25, 0, none⟩ 3 := fun pU pV pH nU nV nH dU dV dH x w36 w38 e36 e38 => by
    have r36 := Row.new e36
    have g36 : Grow w25 w36 := only_alloc e36
    exact ⟨g36.trans (only_set e38) fun b hb e => by omega, r36.set e38, r36.there (by simp)⟩
  rcases hp with ⟨hne, rfl⟩ | ⟨hz, hnt, rfl⟩ | ⟨hz, ht, oU, oV, oH, cU, cV, cH, U, V, H, rfl, nU, nV, nH, lU, lV, lH, hcert⟩
  · refine ⟨_, _, _, _, _, _, _, _, _, _, rfl, fun w36 e36 => ⟨(tail none none none 0 0 0 0 0 0 0 w36 _ e36 rfl).2.2, fun w38 e38 => ?_⟩⟩
    obtain ⟨g38, r38, -⟩ := tail _ _ _ _ _ _ _ _ _ 0 w36 w38 e36 e38
    have G38 := G25.trans' g38
    refine (cost_c o o' c c' rows m w38 (h.grow G38) (h'.grow G38)).mono ?_
    rintro _ _ ⟨rfl, rfl⟩
    refine ⟨_, _, _, rfl, fun _ => ⟨fun _ => ⟨_, _, _, r38.cell rfl, fun _ => ⟨_, _, _, r38.cell rfl, fun _ => ⟨_, _, _, r38.cell rfl, fun _ => ⟨rfl, G38⟩, fun k => absurd rfl (dF k)⟩, fun k => absurd rfl (dF k)⟩, fun k => absurd rfl (dF k)⟩, fun k => absurd rfl (dF k)⟩, fun k => absurd (nF k) hne⟩
  · obtain ⟨he, hv⟩ := valid_of hz
    obtain ⟨y1, y2, y3⟩ := hv.costs he
    refine ⟨_, _, _, _, _, _, _, _, _, _, rfl, fun w36 e36 => ⟨(tail none none none 0 0 0 0 0 0 0 w36 _ e36 rfl).2.2, fun w38 e38 => ?_⟩⟩
    obtain ⟨g38, r38, -⟩ := tail _ _ _ _ _ _ _ _ _ 0 w36 w38 e36 e38
    have G38 := G25.trans' g38
    refine (cost_c o o' c c' rows m w38 (h.grow G38) (h'.grow G38)).mono ?_
    rintro _ _ ⟨rfl, rfl⟩
    refine ⟨_, _, _, rfl, fun k => absurd hz (nT k), fun _ => (refBest_c o c rows w38 (h.grow G38) he).mono ?_⟩
    rintro _ w65 ⟨m0, hv0, ht0, rfl, g65⟩
    have r65 := r38.grow g65
    have G65 := G38.trans' g65
    have off : ¬ (cnt m rows.length = cnt m0 rows.length ∧ tot rows m rows.length = tot rows m0 rows.length) := fun q => hnt ((ht0.same hv0 hv).2 q)
    refine ⟨_, _, rfl, fun _ => ⟨fun _ => ⟨_, _, _, r65.cell rfl, fun _ => ⟨_, _, _, r65.cell rfl, fun _ => ⟨_, _, _, r65.cell rfl, fun _ => ⟨rfl, G65⟩, fun k => absurd rfl (dF k)⟩, fun k => absurd rfl (dF k)⟩, fun k => absurd rfl (dF k)⟩, fun k => absurd rfl (dF k)⟩, fun k1 => ⟨fun _ => ⟨fun _ => ⟨_, _, _, r65.cell rfl, fun _ => ⟨_, _, _, r65.cell rfl, fun _ => ⟨_, _, _, r65.cell rfl, fun _ => ⟨rfl, G65⟩, fun k => absurd rfl (dF k)⟩, fun k => absurd rfl (dF k)⟩, fun k => absurd rfl (dF k)⟩, fun k => absurd rfl (dF k)⟩, fun k2 => absurd ⟨?_, ?_⟩ off⟩⟩
    · have := nF k1; rw [y2] at this; exact this.symm
    · have := nF k2; rw [y3] at this; exact this.symm
  · obtain ⟨he, hv⟩ := valid_of hz
    obtain ⟨y1, y2, y3⟩ := hv.costs he
    refine ⟨_, _, _, _, _, _, _, _, _, _, rfl, fun w36 e36 => ⟨(tail none none none 0 0 0 0 0 0 0 w36 _ e36 rfl).2.2, fun w38 e38 => ?_⟩⟩
    obtain ⟨g38, r38, -⟩ := tail _ _ _ _ _ _ _ _ _ 0 w36 w38 e36 e38
    have G38 := G25.trans' g38
    refine (cost_c o o' c c' rows m w38 (h.grow G38) (h'.grow G38)).mono ?_
    rintro _ _ ⟨rfl, rfl⟩
    refine ⟨_, _, _, rfl, fun k => absurd hz (nT k), fun _ => (refBest_c o c rows w38 (h.grow G38) he).mono ?_⟩
    rintro _ w65 ⟨m0, hv0, ht0, rfl, g65⟩
    have r65 := r38.grow g65
    have G65 := G38.trans' g65
    obtain ⟨s1, s2⟩ := (ht0.same hv0 hv).1 ht
    refine ⟨_, _, rfl, fun k => absurd (by rw [y2]; exact s1.symm) (nT k), fun _ => ⟨fun k => absurd (by rw [y3]; exact s2.symm) (nT k), fun _ => ?_⟩⟩
    refine ⟨fun _ => ⟨_, _, _, r65.cell rfl, _, _, _, r65.cell rfl, _, _, _, r65.cell rfl, (back_c _ _ _ _ _ _ _ _ _ w65).mono ?_⟩, fun k => absurd rfl (dF k)⟩
    rintro _ w117 ⟨rfl, g117⟩
    have G117 := G65.trans' g117
    have K117 := (g38.trans' g65).trans' g117
    refine ⟨_, _, _, _, _, _, _, _, _, rfl, (Check_c o o' oU oV oH c c' cU cV cH rows m U V H (by omega) w117 (h.grow G117) (Nums.any (h'.grow G117)) (nU.grow K117) (nV.grow K117) (nH.grow K117)).mono ?_⟩
    rintro _ w128 ⟨b, rfl, hbb, g128⟩
    have : b = true := hbb.2 ⟨hz, hcert⟩
    exact ⟨_, rfl, by rw [this], G117.trans' g128⟩
end Go.Proofs.YtneklhmkiememaaDoor
