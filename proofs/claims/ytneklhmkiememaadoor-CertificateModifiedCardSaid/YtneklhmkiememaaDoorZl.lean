/- The law on changed certificates. -/
import Derived.Test.YtneklhmkiememaaDoorZk
namespace Go.Proofs.YtneklhmkiememaaDoor
open Go Go.Nf

theorem bestErr_c (o : Option Addr) (c : Nat) (rows : List (List Int)) (w : World) {A0 : Nat → Prop} (h : Mat w A0 o rows) (he : errOf rows ≠ 0) :
    Calls Tryd.prog 25 #[.slice o rows.length c] w fun e w' => e = .returned (.tuple #[.slice none 0 0, .int .i64 0, .int .i64 (errOf rows)]) ∧ w = w' := by
  refine nf25 o rows.length c w _ ((right_c o c rows w h).mono ?_)
  rintro _ _ ⟨rfl, rfl⟩
  exact ⟨_, rfl, nyes he ⟨rfl, rfl⟩⟩
set_option maxHeartbeats 8000000 in
theorem law8_c (o o' : Option Addr) (c c' : Nat) (rows : List (List Int)) (m : List Int) (x0 x1 x2 : Int) (w : World) (ha : AwakeOk w) {A A' : Nat → Prop} (h : Mat w A o rows) (h' : Nums w A' o' m) :
    Calls Tryd.prog 8 #[.slice o rows.length c, .slice o' m.length c', .agg #[.int .i64 x0, .int .i64 x1, .int .i64 x2]] w (Tr w) := by
  refine nf8 o rows.length c o' m.length c' x0 x1 x2 w _ fun w1 e1 => ?_
  have r1 := Row.new e1
  have g1 : Grow w w1 := only_alloc e1
  have lt1 := r1.lt
  refine (ha w1 g1).mono ?_
  rintro _ w4 ⟨rfl, g4⟩
  have G4 := g1.trans' g4
  have r4 := r1.grow g4
  refine ⟨_, rfl, fun _ => (small_c o c rows w4 (h.grow G4)).mono ?_, fun k => by cases k⟩
  rintro _ _ ⟨b, rfl, hb, rfl⟩
  refine ⟨_, rfl, fun hbt => ⟨fun _ => ha.run G4, fun h2 => ⟨_, r4.cell rfl, fun _ => ha.run G4, fun h3 => ⟨_, r4.cell rfl, fun _ => ha.run G4, fun h4 => ?_⟩⟩⟩, fun _ => ha.run G4⟩
  have h2 := dF h2
  obtain ⟨f1, f2⟩ := hb hbt
  have hrl : ∀ r ∈ rows, r.length ≤ 1000 := fun r hr => by have := f2 r hr; omega
  by_cases he : errOf rows = 0
  rotate_left
  · refine (bestErr_c o c rows w4 (h.grow G4) he).mono ?_
    rintro _ _ ⟨rfl, rfl⟩
    exact ⟨_, _, _, _, _, rfl, fun _ => ⟨rfl, G4⟩, fun k => absurd (nF k) he⟩
  refine (best_c o c rows w4 (h.grow G4) he).mono ?_
  rintro _ w29 ⟨ob, cb, m0, rfl, nb, hb0, g29⟩
  have G29 := G4.trans' g29
  have r29 := r4.grow g29
  have hml := hb0.valid.len
  obtain ⟨y1, y2, y3⟩ := hb0.valid.costs he
  refine ⟨_, _, _, _, _, rfl, fun k => absurd rfl (nT k), fun _ => (table_c o c rows (by omega) hrl w29 (h.grow G29)).mono ?_⟩
  rintro _ w38 ⟨o1, c1, rfl, b1, g38⟩
  have G38 := G29.trans' g38
  have i1 := ints_c ob cb m0 (by omega) w38 (nb.grow g38)
  rw [hml] at i1
  refine ⟨_, _, _, rfl, i1.mono ?_⟩
  rintro _ w43 ⟨o2, c2, rfl, a2, g43⟩
  have G43 := G38.trans' g43
  have cc := Certify_c o1 o2 c1 c2 rows m0 w43 (b1.grow g43).mat a2.nums
  rw [hml] at cc
  refine ⟨_, _, _, rfl, cc.mono ?_⟩
  rintro _ w48 ⟨hp, g48⟩
  have G48 := G43.trans' g48
  rcases hp with ⟨k, -⟩ | ⟨-, k, -⟩ | ⟨hz, ht, oU, oV, oH, cU, cV, cH, U, V, H, rfl, nU, nV, nH, lU, lV, lH, hcert⟩
  · exact absurd y1 k
  · exact absurd hb0.most k
  have hfl := first_le he
  refine ⟨_, _, _, _, _, _, _, _, _, _, rfl, fun w59 e59 => ?_⟩
  have r59 := Row.new e59
  have g59 : Grow w48 w59 := only_alloc e59
  refine ⟨r59.there (by simp), fun w61 e61 => ?_⟩
  have r61 := r59.set e61
  have g61 : Grow w48 w61 := g59.trans (only_set e61) fun b hb e => by omega
  have G61 := G48.trans' g61
  refine ⟨fun k => absurd rfl (nT k), fun _ => ⟨_, _, _, r61.cell rfl, fun k => absurd (by rw [lU]) (nT k), fun _ => ⟨_, _, _, r61.cell rfl, _, _, _, r61.cell rfl, _, _, _, r61.cell rfl, (back_c _ _ _ _ _ _ _ _ _ w61).mono ?_⟩⟩⟩
  rintro _ w80 ⟨rfl, g80⟩
  have K80 := g61.trans' g80
  have G80 := G61.trans' g80
  refine ⟨_, _, _, _, _, _, _, _, _, rfl, (own_c oU oV oH cU cV cH U V H (by omega) (by omega) (by omega) w80 (nU.grow K80) (nV.grow K80) (nH.grow K80)).mono ?_⟩
  rintro _ w91 ⟨p1, d1, p2, d2, p3, d3, rfl, ⟨q1, q2, q3, q4⟩, g91⟩
  have G91 := G80.trans' g91
  refine ⟨_, _, _, _, _, _, _, _, _, rfl, (back_c _ _ _ _ _ _ _ _ _ w91).mono ?_⟩
  rintro _ w102 ⟨rfl, g102⟩
  have G102 := G91.trans' g102
  refine ⟨_, _, _, _, _, _, _, _, _, rfl, fun w112 e112 => ?_⟩
  have r112 := Row.new e112
  have g112 : Grow w102 w112 := only_alloc e112
  refine ⟨r112.there (by simp), fun w114 e114 k116 hk116 => ?_⟩
  have r114 := r112.set e114
  have g114 : Grow w102 w114 := g112.trans (only_set e114) fun b hb e => by omega
  have G114 := G102.trans' g114
  have K114 := g102.trans' g114
  have q1 := q1.grow K114
  have q2 := q2.grow K114
  have q3 := q3.grow K114
  have L102 : hs w < hs w102 := by have := G102.size; have := g1.size; have := hs_alloc e1; have := g4.size; have := ((((((g29.trans' g38).trans' g43).trans' g48).trans' g61).trans' g80).trans' g91).trans' g102 |>.size; omega
  have sp114 : Row w114 (hs w) 52 [.int .i64 x0, .int .i64 x1, .int .i64 x2] := (((((((((r29.grow g38).grow g43).grow g48).grow g61).grow g80).grow g91).grow g102).grow g114))
  generalize hB : hs w102 = B at *
  -- what is left to do, from any changed certificate
  have fin : ∀ (w118 : World) (s1 s2 s3 : Option Addr) (n1 t1 n2 t2 n3 t3 : Nat) (U V H : List Int), Pf w118 B s1 n1 t1 s2 n2 t2 s3 n3 t3 U V H → Grow w w118 → Grow w29 w118 → k116 w118 := by
    intro w118 s1 s2 s3 n1 t1 n2 t2 n3 t3 U V H hP G118 K118
    obtain ⟨rP, nU, nV, nH, rfl, rfl, rfl, l1, l2, l3⟩ := hP
    refine hk116 _ fun _ w121 e121 => ?_
    have g121 : Grow w118 w121 := only_drew e121
    have r121 := rP.grow g121
    have lt121 := r121.lt
    have G121 := G118.trans' g121
    have K121 := K118.trans' g121
    refine ⟨_, _, _, r121.cell rfl, _, _, _, r121.cell rfl, _, _, _, r121.cell rfl, _, _, _, r121.cell rfl, _, _, _, r121.cell rfl, _, _, _, r121.cell rfl, (table_c o c rows (by omega) hrl w121 (h.grow G121)).mono ?_⟩
    rintro _ w142 ⟨u1, v1, rfl, b142, g142⟩
    have i2 := ints_c ob cb m0 (by omega) w142 ((nb.grow K121).grow g142)
    rw [hml] at i2
    refine ⟨_, _, _, rfl, kept_only g142 lt121 (fun h => h), kept_only g142 lt121 (fun h => h), i2.mono ?_⟩
    rintro _ w147 ⟨u2, v2, rfl, a147, g147⟩
    have k147 := g142.trans' g147
    refine ⟨_, _, _, rfl, kept_only k147 lt121 (fun h => h), kept_only k147 lt121 (fun h => h), (own_c s1 s2 s3 t1 t2 t3 U V H l1 l2 l3 w147 ((nU.grow g121).grow k147) ((nV.grow g121).grow k147) ((nH.grow g121).grow k147)).mono ?_⟩
    rintro _ w152 ⟨z1, e1', z2, e2', z3, e3', rfl, ⟨a1, a2', a3, -⟩, g152⟩
    have k152 := k147.trans' g152
    have vv := Verify_c u1 u2 z1 z2 z3 v1 v2 e1' e2' e3' rows m0 U V H l3 w152 (Mat.any ((b142.grow g147).grow g152).mat) (Nums.any (a147.grow g152).nums) (Nums.any a1.nums) (Nums.any a2'.nums) (Nums.any a3.nums)
    rw [hml] at vv
    refine ⟨_, _, _, _, _, _, _, _, _, rfl, kept_only k152 lt121 (fun h => h), vv.mono ?_⟩
    rintro _ w163 ⟨b164, rfl, hb164, g163⟩
    have k163 := k152.trans' g163
    have G163 := G121.trans' k163
    have ck := Check_c o ob s1 s2 s3 c cb t1 t2 t3 rows m0 U V H l3 w163 (h.grow G163) ((nb.grow K121).grow k163) ((nU.grow g121).grow k163) ((nV.grow g121).grow k163) ((nH.grow g121).grow k163)
    rw [hml] at ck
    refine ⟨_, rfl, kept_only k163 lt121 (fun h => h), ck.mono ?_⟩
    rintro _ w166 ⟨b167, rfl, hb167, g166⟩
    have k166 := k163.trans' g166
    have G166 := G121.trans' k166
    have r166 := r121.grow k166
    have lt166 := r166.lt
    have same1 : b164 = b167 := by rw [Bool.eq_iff_iff, hb164, hb167]
    refine ⟨_, rfl, fun _ => ?_, fun k => absurd same1 (dF k)⟩
    have J166 := g121.trans' k166
    refine ⟨_, _, _, r166.cell rfl, _, _, _, r166.cell rfl, _, _, _, r166.cell rfl, _, _, _, r166.cell rfl, _, _, _, r166.cell rfl, _, _, _, r166.cell rfl, (table_c o c rows (by omega) hrl w166 (h.grow G166)).mono ?_⟩
    rintro _ w188 ⟨u3, v3, rfl, b188, g188⟩
    refine ⟨_, _, _, rfl, kept_only g188 lt166 (fun h => h), kept_only g188 lt166 (fun h => h), (ints_c o' c' m (by omega) w188 (h'.grow (G166.trans' g188))).mono ?_⟩
    rintro _ w193 ⟨u4, v4, rfl, a193, g193⟩
    have k193 := g188.trans' g193
    have J193 := J166.trans' k193
    refine ⟨_, _, _, rfl, kept_only k193 lt166 (fun h => h), kept_only k193 lt166 (fun h => h), (own_c s1 s2 s3 t1 t2 t3 U V H l1 l2 l3 w193 (nU.grow J193) (nV.grow J193) (nH.grow J193)).mono ?_⟩
    rintro _ w198 ⟨z4, e4', z5, e5', z6, e6', rfl, ⟨a4, a5, a6, -⟩, g198⟩
    have k198 := k193.trans' g198
    refine ⟨_, _, _, _, _, _, _, _, _, rfl, kept_only k198 lt166 (fun h => h), (Verify_c u3 u4 z4 z5 z6 v3 v4 e4' e5' e6' rows m U V H l3 w198 (Mat.any ((b188.grow g193).grow g198).mat) (Nums.any (a193.grow g198).nums) (Nums.any a4.nums) (Nums.any a5.nums) (Nums.any a6.nums)).mono ?_⟩
    rintro _ w209 ⟨b210, rfl, hb210, g209⟩
    have k209 := k198.trans' g209
    have G209 := G166.trans' k209
    have J209 := J166.trans' k209
    refine ⟨_, rfl, kept_only k209 lt166 (fun h => h), (Check_c o o' s1 s2 s3 c c' t1 t2 t3 rows m U V H l3 w209 (h.grow G209) (Nums.any (h'.grow G209)) (nU.grow J209) (nV.grow J209) (nH.grow J209)).mono ?_⟩
    rintro _ w212 ⟨b213, rfl, hb213, g212⟩
    have same2 : b210 = b213 := by rw [Bool.eq_iff_iff, hb210, hb213]
    exact ⟨_, rfl, fun _ => ⟨rfl, G209.trans' g212⟩, fun k => absurd same2 (dF k)⟩
  have G29_114 : Grow w29 w114 := (((((((g38.trans' g43).trans' g48).trans' g61).trans' g80).trans' g91).trans' g102).trans' g114)
  have zU : U.length ≤ 1000000 := by omega
  have zV : V.length ≤ 1000000 := by omega
  have zH : H.length ≤ 1000000 := by omega
  have plain : k116 w114 := fin w114 p1 p2 p3 _ _ _ _ _ _ U V H ⟨r114, Nums.any q1.nums, Nums.any q2.nums, Nums.any q3.nums, rfl, rfl, rfl, zU, zV, zH⟩ G114 G29_114
  have sz29 := G29.size
  have szB : hs w29 ≤ hs w80 := ((((g38.trans' g43).trans' g48).trans' g61).trans' g80).size
  have nB1 : ∀ k, inBlock p1 k → hs w80 ≤ k := fun k hk => (q1.base k hk).1
  have nB2 : ∀ k, inBlock p2 k → hs w80 ≤ k := fun k hk => (q2.base k hk).1
  have kU : ∀ w' i y, i < U.length → Nums w' (fun _ => True) p1 (U.set i y) → Only (inBlock p1) w114 w' → k116 w' := fun w' i y hi hn ho => by
    have np : ¬ inBlock p1 B := q1.apartR r114 (by decide)
    refine fin w' p1 p2 p3 _ _ _ _ _ _ (U.set i y) V H ⟨r114.keep ho np, hn, Nums.any (q2.keep ho fun b hb hb' => q4 b hb' hb).nums, Nums.any (q3.keep ho fun b hb hb' => q1.apart q3 (by decide) b hb' hb).nums, by rw [List.length_set], rfl, rfl, zU, zV, zH⟩ (G114.trans ho fun k hk hb => ?_) (G29_114.trans ho fun k hk hb => ?_)
    · have := nB1 k hb; omega
    · have := nB1 k hb; omega
  have kV : ∀ w' i y, i < V.length → Nums w' (fun _ => True) p2 (V.set i y) → Only (inBlock p2) w114 w' → k116 w' := fun w' i y hi hn ho => by
    have np : ¬ inBlock p2 B := q2.apartR r114 (by decide)
    refine fin w' p1 p2 p3 _ _ _ _ _ _ U (V.set i y) H ⟨r114.keep ho np, Nums.any (q1.keep ho fun b hb hb' => q4 b hb hb').nums, hn, Nums.any (q3.keep ho fun b hb hb' => q2.apart q3 (by decide) b hb' hb).nums, rfl, by rw [List.length_set], rfl, zU, zV, zH⟩ (G114.trans ho fun k hk hb => ?_) (G29_114.trans ho fun k hk hb => ?_)
    · have := nB2 k hb; omega
    · have := nB2 k hb; omega
  have kH : ∀ w' o' n' c' ys, n' ≤ 1000000 → ys.length = n' → Nums w' (fun _ => True) o' ys → Row w' B 40 [.slice p1 U.length d1, .slice p2 V.length d2, .slice o' n' c'] → Only (fun k => k = B) w114 w' → k116 w' := fun w' o' n' c' ys hn' hl' hn hr ho => by
    refine fin w' p1 p2 o' _ _ _ _ _ _ U V ys ⟨hr, Nums.any (q1.keep ho fun b hb e => q1.apartR r114 (by decide) (e ▸ hb)).nums, Nums.any (q2.keep ho fun b hb e => q2.apartR r114 (by decide) (e ▸ hb)).nums, hn, rfl, rfl, hl', zU, zV, hn'⟩ (G114.trans ho fun k hk e => by omega) (G29_114.trans ho fun k hk e => ?_)
    have := g91.size; have := g102.size; omega
  refine ⟨_, sp114.cell rfl, fun h0 => ⟨_, _, _, r114.cell rfl, fun hpos => edit_c (j := 0) q1 (by have := dT hpos; omega) zU r114 rfl sp114 rfl kU, fun hpos => ⟨_, sp114.cell rfl, fun h1 => absurd (dT h1) (by have := dT h0; omega), fun h1 => ⟨_, sp114.cell rfl, fun h2 => absurd (dT h2) (by have := dT h0; omega), fun _ => plain⟩⟩⟩, fun h0 => ⟨_, sp114.cell rfl, fun h1 => ⟨_, _, _, r114.cell rfl, fun hpos => edit_c (j := 1) q2 (by have := dT hpos; omega) zV r114 rfl sp114 rfl kV, fun hpos => ⟨_, sp114.cell rfl, fun h2 => absurd (dT h2) (by have := dT h1; omega), fun _ => plain⟩⟩, fun h1 => ⟨_, sp114.cell rfl, fun h2 => ⟨_, _, _, r114.cell rfl, fun hpos => cut_c q3 (by have := dT hpos; omega) zH r114 sp114 kH, fun _ => plain⟩, fun _ => plain⟩⟩⟩
end Go.Proofs.YtneklhmkiememaaDoor
