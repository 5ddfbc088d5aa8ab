/- The example that each law of this seat checks first: awake returns true. -/
import Derived.Test.YtneklhmkiememaaDoorZp
import Derived.Test.YtneklhmkiememaaDoorNf3
namespace Go.Proofs.YtneklhmkiememaaDoor
open Go Go.Nf Go.RowKit

/-! ### the matrix of the example -/
def K0 : List (List Int) := [[4, 1], [2, Inf]]
theorem k0_err : errOf K0 = 0 := by decide
theorem k0_ok : costE K0 [1, 0] = 0 := by decide
theorem k0_ok2 : costE K0 [0, -1] = 0 := by decide
theorem k0_bad : costE K0 [1, 1] = 1 := by decide
theorem k0_valid : Valid K0 2 [1, 0] := (valid_of k0_ok).2
theorem k0_valid2 : Valid K0 2 [0, -1] := (valid_of k0_ok2).2
theorem k0_all {m : List Int} (hv : Valid K0 2 m) : (gm m 0 = -1 ∨ gm m 0 = 0 ∨ gm m 0 = 1) ∧ (gm m 1 = -1 ∨ gm m 1 = 0) ∧ (gm m 1 = 0 → gm m 0 ≠ 0) := by
  refine ⟨?_, ?_, fun h1 h0 => ?_⟩
  · rcases hv.ok 0 (by decide) with h | ⟨h1, h2, -⟩
    · exact .inl h
    · omega
  · rcases hv.ok 1 (by decide) with h | ⟨h1, h2, h3⟩
    · exact .inl h
    · rcases (show gm m 1 = 0 ∨ gm m 1 = 1 by omega) with e | e
      · exact .inr e
      · rw [e] at h3; exact absurd (by decide) h3
  · have := hv.ne 0 1 (by decide) (by decide) (by omega) (by omega)
    omega
theorem k0_top : TopM K0 [1, 0] := fun m hv => by
  obtain ⟨h0, h1, h2⟩ := k0_all hv
  have e1 : cnt [1, 0] K0.length = 2 := by decide
  have e2 : tot K0 [1, 0] K0.length = 3 := by decide
  rw [e1, e2]
  show (0 + (if gm m 0 = -1 then (0 : Int) else 1) + (if gm m 1 = -1 then (0 : Int) else 1) ≤ 2) ∧ (0 + (if gm m 0 = -1 then (0 : Int) else 1) + (if gm m 1 = -1 then (0 : Int) else 1) = 2 → 3 ≤ 0 + (if gm m 0 = -1 then (0 : Int) else at2 K0 0 (gm m 0)) + (if gm m 1 = -1 then (0 : Int) else at2 K0 1 (gm m 1)))
  rcases h0 with h0 | h0 | h0 <;> rcases h1 with h1 | h1 <;> rw [h0, h1] at * <;> first
    | exact absurd rfl (h2 rfl)
    | decide
theorem k0_not : ¬ TopM K0 [0, -1] := fun h => by
  have := (h [1, 0] k0_valid).1
  exact absurd this (by decide)
theorem k0_cert : certP K0 2 [1, 0] [1, 2] [0, 0] [] := by
  refine ⟨by decide, ⟨fun j hj _ => ?_, fun i hi h => ?_, fun i j hi hj hf => ?_⟩, by decide⟩
  · rcases (show j = 0 ∨ j = 1 by omega) with rfl | rfl <;> rfl
  · have hi : i < 2 := hi
    rcases (show i = 0 ∨ i = 1 by omega) with rfl | rfl <;> exact absurd h (by decide)
  · have hi : i < 2 := hi
    rcases (show i = 0 ∨ i = 1 by omega) with rfl | rfl <;> rcases (show j = 0 ∨ j = 1 by omega) with rfl | rfl
    · decide
    · decide
    · decide
    · exact absurd (by decide) hf
theorem k0_sums {m : List Int} (hv : Valid K0 2 m) (ht : TopM K0 m) : cnt m K0.length = 2 ∧ tot K0 m K0.length = 3 := by
  obtain ⟨a, b⟩ := (k0_top.same (rows := K0) k0_valid hv).1 ht
  rw [a, b]
  exact ⟨by decide, by decide⟩
theorem one_sums {m : List Int} (hv : Valid [[1]] 1 m) (ht : TopM [[1]] m) : cnt m 1 = 1 ∧ tot [[1]] m 1 = 1 := by
  have v0 : Valid [[1]] 1 [0] := (valid_of (rows := [[1]]) (m := [0]) (by decide)).2
  have h1 := (ht [0] v0).1
  have h2 := (ht [0] v0).2
  have e1 : cnt [0] ([[1]] : List (List Int)).length = 1 := by decide
  have e2 : tot [[1]] [0] ([[1]] : List (List Int)).length = 1 := by decide
  have h0 := hv.ok 0 (by decide)
  rw [e1] at h1 h2
  have c1 : cnt m ([[1]] : List (List Int)).length = 0 + (if gm m 0 = -1 then (0 : Int) else 1) := rfl
  rcases h0 with h0 | ⟨h3, h4, -⟩
  · rw [c1, if_pos h0] at h1; omega
  · have e : gm m 0 = 0 := by omega
    refine ⟨?_, ?_⟩
    · show 0 + (if gm m 0 = -1 then (0 : Int) else 1) = 1
      rw [e]; decide
    · show 0 + (if gm m 0 = -1 then (0 : Int) else at2 [[1]] 0 (gm m 0)) = 1
      rw [e]; decide
theorem inf_sums {m : List Int} (hv : Valid [[Inf]] 1 m) : cnt m 1 = 0 := by
  show 0 + (if gm m 0 = -1 then (0 : Int) else 1) = 0
  rcases hv.ok 0 (by decide) with h | ⟨h1, h2, h3⟩
  · rw [h]; rfl
  · have e : gm m 0 = 0 := by omega
    rw [e] at h3
    exact absurd (by decide) h3
theorem extra1 {x : Int} (h : ExtraPost K0 1 0 x) : x = 0 := by
  obtain ⟨m, m', hv, ht, hv', ht', rfl⟩ := h.2 (by decide)
  obtain ⟨a, b⟩ := k0_sums hv ht
  obtain ⟨a', b'⟩ := one_sums (m := m') hv' ht'
  have e : (wo K0 1 0).length = 1 := rfl
  rw [a, b, e]
  rw [show cnt m' 1 = 1 from a', show tot (wo K0 1 0) m' 1 = 1 from b']
  decide
theorem extra0 {x : Int} (h : ExtraPost K0 0 0 x) : x = 4611686018427387904 := by
  obtain ⟨m, m', hv, ht, hv', ht', rfl⟩ := h.2 (by decide)
  obtain ⟨a, b⟩ := k0_sums hv ht
  have a' := inf_sums (m := m') hv'
  have e : (wo K0 0 0).length = 1 := rfl
  rw [a, e, show cnt m' 1 = 0 from a', if_neg (by decide)]

/-! ### what stands between the stages -/
structure St (w0 w : World) (o : Option Addr) : Prop where
  mat : Mat w (fun _ => True) o K0
  g : Grow w0 w
theorem St.grow {w0 w w' : World} {o : Option Addr} (h : St w0 w o) (k : Grow w w') : St w0 w' o := ⟨h.mat.grow k, h.g.trans' k⟩
theorem St.table {w0 w : World} {o : Option Addr} (h : St w0 w o) (c : Nat) : Calls Tryd.prog 12 #[.slice o 2 c] w fun e w' => ∃ o' c', e = .returned (.slice o' 2 c') ∧ Built w' (hs w) 26 2 o' 2 c' K0 ∧ Grow w w' :=
  table_c o c K0 (by decide) (by decide) w h.mat
/-- the certificate in its block -/
structure Cert (w : World) (b : Nat) (oU oV oH : Option Addr) (cU cV cH : Nat) (U V H : List Int) : Prop where
  row : Row w b 28 [.slice oU U.length cU, .slice oV V.length cV, .slice oH H.length cH]
  nU : Nums w (fun _ => True) oU U
  nV : Nums w (fun _ => True) oV V
  nH : Nums w (fun _ => True) oH H
  lH : H.length ≤ 2
  ok : certP K0 2 [1, 0] U V H
theorem Cert.grow {w w' : World} {b : Nat} {oU oV oH : Option Addr} {cU cV cH : Nat} {U V H : List Int} (h : Cert w b oU oV oH cU cV cH U V H) (k : Grow w w') : Cert w' b oU oV oH cU cV cH U V H :=
  ⟨h.row.grow k, h.nU.grow k, h.nV.grow k, h.nH.grow k, h.lH, h.ok⟩
theorem Cert.false {w : World} {b : Nat} {oU oV oH : Option Addr} {cU cV cH : Nat} {U V H : List Int} (_ : Cert w b oU oV oH cU cV cH U V H) : ¬ certP K0 2 [0, -1] U V H := fun k =>
  k0_not fun _ hv => k.sound k0_valid2 hv
theorem pair_nums {w : World} {b T : Nat} {x y : Int} (h : Row w b T [.int .i64 x, .int .i64 y]) : Nums w (fun _ => True) (some ⟨b, 0, none⟩) [x, y] := Row.nums (xs := [x, y]) h trivial
def KA (w0 : World) (vs : List Value) (w : World) : Prop := ∃ o c b oU oV oH cU cV cH U V H, vs = [.slice o 2 c, .pointer (some ⟨b, 0, none⟩), .int .i64 0, .int .i64 14, .int .i64 1] ∧ St w0 w o ∧ Cert w b oU oV oH cU cV cH U V H
def KB (w0 : World) (vs : List Value) (w : World) : Prop := ∃ o c b oU oV oH cU cV cH U V H, vs = [.slice o 2 c, .pointer (some ⟨b, 0, none⟩), .bool true] ∧ St w0 w o ∧ Cert w b oU oV oH cU cV cH U V H
def KC (w0 : World) (vs : List Value) (w : World) : Prop := ∃ o c, vs = [.slice o 2 c, .bool true] ∧ St w0 w o
def KF (w0 : World) (vs : List Value) (w : World) : Prop := vs = [.bool true] ∧ Grow w0 w

theorem extra_c (k : Nat) (x : Int) (hk : k < 2) (he : errOf (wo K0 k 0) = 0) (hx : ∀ {y : Int}, ExtraPost K0 k 0 y → y = x) {w0 w : World} {o : Option Addr} (c : Nat) {B : Nat} (h : Built w B 26 2 o 2 c K0) (g : Grow w0 w) :
    Calls Tryd.prog 26 #[.slice o 2 c, .int .i64 (k : Int), .int .i64 0] w fun e w' => e = .returned (.int .i64 x) ∧ Grow w0 w' := by
  refine (ExtraCost_c o c K0 k 0 (by decide) (by decide) k0_err he hk (by decide) w h).mono ?_
  rintro _ w' ⟨y, rfl, hy, g'⟩
  exact ⟨by rw [hx hy], g.trans' g'⟩
theorem verify_c {w : World} {o o' oU oV oH : Option Addr} {c c' cU cV cH : Nat} {m U V H : List Int} {A A1 A2 A3 A4 : Nat → Prop} (hH : H.length ≤ 1000000) (h : Mat w A o K0) (h' : Nums w A1 o' m) (hU : Nums w A2 oU U) (hV : Nums w A3 oV V) (hn : Nums w A4 oH H) :
    Calls Tryd.prog 19 #[.slice o 2 c, .slice o' m.length c', certV oU U.length cU oV V.length cV oH H.length cH] w fun e w' => ∃ b, e = .returned (.bool b) ∧ (b = true ↔ costE K0 m = 0 ∧ certP K0 2 m U V H) ∧ Grow w w' :=
  Verify_c o o' oU oV oH c c' cU cV cH K0 m U V H hH w (Mat.any h) (Nums.any h') (Nums.any hU) (Nums.any hV) (Nums.any hn)

/-! ### the stages -/
set_option maxHeartbeats 4000000 in
set_option maxRecDepth 100000 in
theorem st_P (w : World) (R : Ending → World → Prop) : vcN Tryd.prog (retQ Tryd.prog Tryd.f9 R) 5 (Tryd.f9.body.getD .skip) an9 (argEnv #[]) w (fun ρ w' => KA w ([1, 2, 3, 5, 7].map ρ) w') := by
  refine nf9P w R (KA w) fun w1 e1 w3 e3 w5 e5 => ?_
  have g1 : Grow w w1 := only_alloc e1
  have g3 : Grow w1 w3 := only_alloc e3
  have g5 : Grow w3 w5 := only_alloc e5
  have z1 := hs_alloc e1
  have z3 := hs_alloc e3
  have z5 := hs_alloc e5
  have r1 := ((Row.new e1).grow g3).grow g5
  have r3 := (Row.new e3).grow g5
  have r5 := Row.new e5
  have s5 : St w w5 (some ⟨hs w3, 0, none⟩) := by
    refine ⟨fun i row hi => ?_, (g1.trans' g3).trans' g5⟩
    match i, hi with
    | 0, hi =>
      cases hi
      exact ⟨_, _, 2, rfl, trivial, r5.cellAdd (o := 0) rfl, pair_nums r1⟩
    | 1, hi =>
      cases hi
      exact ⟨_, _, 2, rfl, trivial, r5.cellAdd (o := 1) rfl, pair_nums r3⟩
    | n + 2, hi => simp [K0] at hi
  refine (s5.table 2).mono ?_
  rintro _ w8 ⟨o9, c9, rfl, b8, g8⟩
  refine ⟨_, _, _, rfl, fun w12 e12 => ?_⟩
  have g12 : Grow w8 w12 := only_alloc e12
  have z8 := g8.size
  have z12 := hs_alloc e12
  refine (Certify_c o9 (some ⟨hs w8, 0, none⟩) c9 2 K0 [1, 0] w12 (b8.grow g12).mat (pair_nums (Row.new e12))).mono ?_
  rintro _ w15 ⟨⟨k, -⟩ | ⟨-, k, -⟩ | ⟨-, -, oU, oV, oH, cU, cV, cH, U, V, H, rfl, nU, nV, nH, -, -, lH, hc⟩, g15⟩
  · exact absurd k0_ok k
  · exact absurd k0_top k
  have z15 := g15.size
  refine ⟨_, _, _, _, _, _, _, _, _, _, rfl, fun w26 e26 => ⟨(Row.new e26).there (by simp), fun w28 e28 => ?_⟩⟩
  have g26 : Grow w15 w26 := only_alloc e26
  have z26 := hs_alloc e26
  have g28 : Grow w15 w28 := g26.trans (only_set e28) fun b hb e => by omega
  have z28 := g28.size
  have hl28 : hs w15 < hs w28 := ((Row.new e26).set e28).lt
  have C28 : Cert w28 (hs w15) oU oV oH cU cV cH U V H := ⟨(Row.new e26).set e28, nU.grow g28, nV.grow g28, nH.grow g28, lH, hc⟩
  have s28 := ((s5.grow g8).grow g12 |>.grow g15).grow g28
  refine (s28.table 2).mono ?_
  rintro _ w31 ⟨o32, c32, rfl, b31, g31⟩
  refine ⟨_, _, _, rfl, fun w35 e35 => ?_⟩
  have g35 : Grow w31 w35 := only_alloc e35
  refine (Certify_c o32 (some ⟨hs w31, 0, none⟩) c32 2 K0 [0, -1] w35 (b31.grow g35).mat (pair_nums (Row.new e35))).mono ?_
  rintro _ w38 ⟨⟨k, -⟩ | ⟨-, -, rfl⟩ | ⟨-, k, -⟩, g38⟩
  · exact absurd k0_ok2 k
  rotate_left
  · exact absurd k k0_not
  have z38 := ((g31.trans' g35).trans' g38).size
  refine ⟨_, _, _, _, _, _, _, _, _, _, rfl, fun w49 e49 => ⟨(Row.new e49).there (by simp), fun w51 e51 => ?_⟩⟩
  have g49 : Grow w38 w49 := only_alloc e49
  have g51 : Grow w38 w51 := g49.trans (only_set e51) fun b hb e => by omega
  have k51 := ((g31.trans' g35).trans' g38).trans' g51
  refine ((s28.grow k51).table 2).mono ?_
  rintro _ w54 ⟨o55, c55, rfl, b54, g54⟩
  refine ⟨_, _, _, rfl, fun w58 e58 => ?_⟩
  have g58 : Grow w54 w58 := only_alloc e58
  refine (Certify_c o55 (some ⟨hs w54, 0, none⟩) c55 2 K0 [1, 1] w58 (b54.grow g58).mat (pair_nums (Row.new e58))).mono ?_
  rintro _ w61 ⟨⟨-, rfl⟩ | ⟨k, -⟩ | ⟨k, -⟩, g61⟩
  rotate_left
  · rw [k0_bad] at k; cases k
  · rw [k0_bad] at k; cases k
  refine ⟨_, _, _, _, _, _, _, _, _, _, rfl, fun w72 e72 => ⟨(Row.new e72).there (by simp), fun w74 e74 => ?_⟩⟩
  have g72 : Grow w61 w72 := only_alloc e72
  have g74 : Grow w61 w74 := g72.trans (only_set e74) fun b hb e => by omega
  have k74 := k51.trans' (((g54.trans' g58).trans' g61).trans' g74)
  exact ⟨_, _, _, _, _, _, _, _, _, _, _, _, by rw [k0_bad], s28.grow k74, C28.grow k74⟩
theorem kept3 {w w' : World} {b : Nat} {T : TypeId} {l : List Value} (r : Row w b T l) (g : Grow w w') : Kept w w' ⟨b, 0, none⟩ 3 := kept_only g r.lt fun h => h
set_option maxHeartbeats 4000000 in
set_option maxRecDepth 100000 in
theorem st_A (g : Env) (vs : List Value) (w0 w : World) (h : KA w0 vs w) : vcG Tryd.prog (ops9 Tryd.f9.body) ms9 effs9 dl9 t9A (upTo 0 54) [] (g.fill [1, 2, 3, 5, 7] vs) w (stop dl9 (upTo 18 36) [1, 2, 49] (KB w0)) := by
  obtain ⟨o, c, b, oU, oV, oH, cU, cV, cH, U, V, H, rfl, s, C⟩ := h
  refine nf9A g o 2 c ⟨b, 0, none⟩ w (KB w0) ⟨_, _, _, C.row.cell rfl, _, _, _, C.row.cellAdd rfl, _, _, _, C.row.cellAdd rfl, ?_, fun w20 e20 => ?_⟩
  · refine (s.table c).mono ?_
    rintro _ w11 ⟨o12, c14, rfl, b11, g11⟩
    refine ⟨_, _, _, rfl, kept3 C.row g11, fun w15 e15 => ?_⟩
    have g15 : Grow w11 w15 := only_alloc e15
    have k15 := g11.trans' g15
    have C15 := C.grow k15
    refine ⟨kept3 C.row k15, (verify_c (by have := C.lH; omega) (b11.grow g15).mat (pair_nums (Row.new e15)) C15.nU C15.nV C15.nH).mono ?_⟩
    rintro _ w18 ⟨b', rfl, hb, g18⟩
    have : b' = true := hb.2 ⟨k0_ok, C.ok⟩
    subst this
    exact ⟨_, rfl, _, _, _, _, _, _, _, _, _, _, _, _, rfl, (s.grow k15).grow g18, C15.grow g18⟩
  · have g20 : Grow w w20 := only_alloc e20
    have C20 := C.grow g20
    refine ⟨kept3 C.row g20, ((s.grow g20).table c).mono ?_⟩
    rintro _ w23 ⟨o24, c26, rfl, b23, g23⟩
    have k23 := g20.trans' g23
    have C23 := C.grow k23
    refine ⟨_, _, _, rfl, kept3 C.row k23, (verify_c (by have := C.lH; omega) b23.mat (pair_nums ((Row.new e20).grow g23)) C23.nU C23.nV C23.nH).mono ?_⟩
    rintro _ w28 ⟨b', rfl, hb, g28⟩
    have : b' = true := hb.2 ⟨k0_ok, C.ok⟩
    subst this
    exact ⟨_, rfl, _, _, _, _, _, _, _, _, _, _, _, _, rfl, (s.grow k23).grow g28, C23.grow g28⟩
set_option maxHeartbeats 4000000 in
set_option maxRecDepth 100000 in
theorem st_B (g : Env) (vs : List Value) (w0 w : World) (h : KB w0 vs w) : vcG Tryd.prog (ops9 Tryd.f9.body) ms9 effs9 dl9 t9B (upTo 18 36) [] (g.fill [1, 2, 49] vs) w (stop dl9 (upTo 26 28) [1, 57] (KC w0)) := by
  obtain ⟨o, c, b, oU, oV, oH, cU, cV, cH, U, V, H, rfl, s, C⟩ := h
  refine nf9B g o 2 c ⟨b, 0, none⟩ w (KC w0) ⟨_, _, _, C.row.cell rfl, _, _, _, C.row.cellAdd rfl, _, _, _, C.row.cellAdd rfl, ?_, fun w20 e20 => ?_⟩
  · refine (s.table c).mono ?_
    rintro _ w11 ⟨o12, c14, rfl, b11, g11⟩
    refine ⟨_, _, _, rfl, kept3 C.row g11, fun w15 e15 => ?_⟩
    have g15 : Grow w11 w15 := only_alloc e15
    have k15 := g11.trans' g15
    have C15 := C.grow k15
    refine ⟨kept3 C.row k15, (verify_c (by have := C.lH; omega) (b11.grow g15).mat (pair_nums (Row.new e15)) C15.nU C15.nV C15.nH).mono ?_⟩
    rintro _ w18 ⟨b', rfl, hb, g18⟩
    have : b' = false := Bool.eq_false_iff.2 fun k => C.false (hb.1 k).2
    subst this
    exact ⟨_, rfl, _, _, rfl, (s.grow k15).grow g18⟩
  · have g20 : Grow w w20 := only_alloc e20
    have C20 := C.grow g20
    refine ⟨kept3 C.row g20, ((s.grow g20).table c).mono ?_⟩
    rintro _ w23 ⟨o24, c26, rfl, b23, g23⟩
    have k23 := g20.trans' g23
    have C23 := C.grow k23
    refine ⟨_, _, _, rfl, kept3 C.row k23, (verify_c (by have := C.lH; omega) b23.mat (pair_nums ((Row.new e20).grow g23)) C23.nU C23.nV C23.nH).mono ?_⟩
    rintro _ w28 ⟨b', rfl, hb, g28⟩
    have : b' = false := Bool.eq_false_iff.2 fun k => C.false (hb.1 k).2
    subst this
    exact ⟨_, rfl, _, _, rfl, (s.grow k23).grow g28⟩
set_option maxHeartbeats 8000000 in
set_option maxRecDepth 100000 in
theorem st_C (g : Env) (vs : List Value) (w0 w : World) (h : KC w0 vs w) : vcG Tryd.prog (ops9 Tryd.f9.body) ms9 effs9 dl9 t9C (upTo 26 28) [] (g.fill [1, 57] vs) w (stop dl9 (upTo 35 19) [1, 66] (KC w0)) := by
  obtain ⟨o, c, rfl, s⟩ := h
  have tab : ∀ w', Grow w w' → Calls Tryd.prog 12 #[.slice o 2 c] w' fun e w'' => ∃ o' c', e = .returned (.slice o' 2 c') ∧ Mat w'' (fun _ => True) o' K0 ∧ Grow w' w'' := fun w' G => ((s.grow G).table c).mono fun _ _ ⟨o', c', e, b, g⟩ => ⟨o', c', e, Mat.any b.mat, g⟩
  have fin : ∀ w' o3 c3 bm bu bv, Mat w' (fun _ => True) o3 K0 → Row w' bm 3 [.int .i64 1, .int .i64 0] → Row w' bu 2 [.int .i64 1, .int .i64 2] → Row w' bv 2 [.int .i64 0, .int .i64 0] → Grow w w' →
      Calls Tryd.prog 19 #[.slice o3 2 c3, .slice (some ⟨bm, 0, none⟩) 2 2, .agg #[.slice (some ⟨bu, 0, none⟩) 2 2, .slice (some ⟨bv, 0, none⟩) 2 2, .slice none 0 0]] w' fun e w'' => ∃ b, e = .returned (.bool b) ∧ KC w0 [.slice o 2 c, .bool b] w'' := by
    intro w' o3 c3 bm bu bv h1 h2 h3 h4 G
    refine (verify_c (H := []) (m := [1, 0]) (U := [1, 2]) (V := [0, 0]) (by decide) h1 (pair_nums h2) (pair_nums h3) (pair_nums h4) (A4 := fun _ => True) (fun i v hi => by simp at hi)).mono ?_
    rintro _ w'' ⟨b, rfl, hb, g'⟩
    have : b = true := hb.2 ⟨k0_ok, k0_cert⟩
    subst this
    exact ⟨_, rfl, _, _, rfl, s.grow (G.trans' g')⟩
  refine nf9C g o 2 c w (KC w0) ?_
  have G : Grow w w := Only.refl _ _
  refine ⟨?_, ?_⟩
  · refine (tab w G).mono ?_
    rintro _ w100 ⟨ow100, cw100, rfl, mt, g100⟩
    refine ⟨_, _, _, rfl, ?_⟩
    have G := G.trans' g100
    refine ⟨?_, ?_⟩
    · intro w101 e101
      have g101 : Grow w100 w101 := only_alloc e101
      have rm := Row.new e101
      have mt := mt.grow g101
      have G := G.trans' g101
      refine ⟨?_, ?_⟩
      · intro w102 e102
        have g102 : Grow w101 w102 := only_alloc e102
        have ru := Row.new e102
        have mt := mt.grow g102
        have rm := rm.grow g102
        have G := G.trans' g102
        intro w103 e103
        have g103 : Grow w102 w103 := only_alloc e103
        have rv := Row.new e103
        have mt := mt.grow g103
        have rm := rm.grow g103
        have ru := ru.grow g103
        have G := G.trans' g103
        exact fin w103 _ _ _ _ _ mt rm ru rv G
      intro w104 e104
      have g104 : Grow w101 w104 := only_alloc e104
      have rv := Row.new e104
      have mt := mt.grow g104
      have rm := rm.grow g104
      have G := G.trans' g104
      intro w105 e105
      have g105 : Grow w104 w105 := only_alloc e105
      have ru := Row.new e105
      have mt := mt.grow g105
      have rm := rm.grow g105
      have rv := rv.grow g105
      have G := G.trans' g105
      exact fin w105 _ _ _ _ _ mt rm ru rv G
    refine ⟨?_, ?_⟩
    · intro w106 e106
      have g106 : Grow w100 w106 := only_alloc e106
      have ru := Row.new e106
      have mt := mt.grow g106
      have G := G.trans' g106
      refine ⟨?_, ?_⟩
      · intro w107 e107
        have g107 : Grow w106 w107 := only_alloc e107
        have rm := Row.new e107
        have mt := mt.grow g107
        have ru := ru.grow g107
        have G := G.trans' g107
        intro w108 e108
        have g108 : Grow w107 w108 := only_alloc e108
        have rv := Row.new e108
        have mt := mt.grow g108
        have ru := ru.grow g108
        have rm := rm.grow g108
        have G := G.trans' g108
        exact fin w108 _ _ _ _ _ mt rm ru rv G
      intro w109 e109
      have g109 : Grow w106 w109 := only_alloc e109
      have rv := Row.new e109
      have mt := mt.grow g109
      have ru := ru.grow g109
      have G := G.trans' g109
      intro w110 e110
      have g110 : Grow w109 w110 := only_alloc e110
      have rm := Row.new e110
      have mt := mt.grow g110
      have ru := ru.grow g110
      have rv := rv.grow g110
      have G := G.trans' g110
      exact fin w110 _ _ _ _ _ mt rm ru rv G
    intro w111 e111
    have g111 : Grow w100 w111 := only_alloc e111
    have rv := Row.new e111
    have mt := mt.grow g111
    have G := G.trans' g111
    refine ⟨?_, ?_⟩
    · intro w112 e112
      have g112 : Grow w111 w112 := only_alloc e112
      have rm := Row.new e112
      have mt := mt.grow g112
      have rv := rv.grow g112
      have G := G.trans' g112
      intro w113 e113
      have g113 : Grow w112 w113 := only_alloc e113
      have ru := Row.new e113
      have mt := mt.grow g113
      have rv := rv.grow g113
      have rm := rm.grow g113
      have G := G.trans' g113
      exact fin w113 _ _ _ _ _ mt rm ru rv G
    intro w114 e114
    have g114 : Grow w111 w114 := only_alloc e114
    have ru := Row.new e114
    have mt := mt.grow g114
    have rv := rv.grow g114
    have G := G.trans' g114
    intro w115 e115
    have g115 : Grow w114 w115 := only_alloc e115
    have rm := Row.new e115
    have mt := mt.grow g115
    have rv := rv.grow g115
    have ru := ru.grow g115
    have G := G.trans' g115
    exact fin w115 _ _ _ _ _ mt rm ru rv G
  refine ⟨?_, ?_⟩
  · intro w116 e116
    have g116 : Grow w w116 := only_alloc e116
    have rm := Row.new e116
    have G := G.trans' g116
    refine ⟨?_, ?_⟩
    · refine (tab w116 G).mono ?_
      rintro _ w117 ⟨ow117, cw117, rfl, mt, g117⟩
      refine ⟨_, _, _, rfl, ?_⟩
      have rm := rm.grow g117
      have G := G.trans' g117
      refine ⟨?_, ?_⟩
      · intro w118 e118
        have g118 : Grow w117 w118 := only_alloc e118
        have ru := Row.new e118
        have rm := rm.grow g118
        have mt := mt.grow g118
        have G := G.trans' g118
        intro w119 e119
        have g119 : Grow w118 w119 := only_alloc e119
        have rv := Row.new e119
        have rm := rm.grow g119
        have mt := mt.grow g119
        have ru := ru.grow g119
        have G := G.trans' g119
        exact fin w119 _ _ _ _ _ mt rm ru rv G
      intro w120 e120
      have g120 : Grow w117 w120 := only_alloc e120
      have rv := Row.new e120
      have rm := rm.grow g120
      have mt := mt.grow g120
      have G := G.trans' g120
      intro w121 e121
      have g121 : Grow w120 w121 := only_alloc e121
      have ru := Row.new e121
      have rm := rm.grow g121
      have mt := mt.grow g121
      have rv := rv.grow g121
      have G := G.trans' g121
      exact fin w121 _ _ _ _ _ mt rm ru rv G
    refine ⟨?_, ?_⟩
    · intro w122 e122
      have g122 : Grow w116 w122 := only_alloc e122
      have ru := Row.new e122
      have rm := rm.grow g122
      have G := G.trans' g122
      refine ⟨?_, ?_⟩
      · refine (tab w122 G).mono ?_
        rintro _ w123 ⟨ow123, cw123, rfl, mt, g123⟩
        refine ⟨_, _, _, rfl, ?_⟩
        have rm := rm.grow g123
        have ru := ru.grow g123
        have G := G.trans' g123
        intro w124 e124
        have g124 : Grow w123 w124 := only_alloc e124
        have rv := Row.new e124
        have rm := rm.grow g124
        have ru := ru.grow g124
        have mt := mt.grow g124
        have G := G.trans' g124
        exact fin w124 _ _ _ _ _ mt rm ru rv G
      intro w125 e125
      have g125 : Grow w122 w125 := only_alloc e125
      have rv := Row.new e125
      have rm := rm.grow g125
      have ru := ru.grow g125
      have G := G.trans' g125
      refine (tab w125 G).mono ?_
      rintro _ w126 ⟨ow126, cw126, rfl, mt, g126⟩
      refine ⟨_, _, _, rfl, ?_⟩
      have rm := rm.grow g126
      have ru := ru.grow g126
      have rv := rv.grow g126
      have G := G.trans' g126
      exact fin w126 _ _ _ _ _ mt rm ru rv G
    intro w127 e127
    have g127 : Grow w116 w127 := only_alloc e127
    have rv := Row.new e127
    have rm := rm.grow g127
    have G := G.trans' g127
    refine ⟨?_, ?_⟩
    · refine (tab w127 G).mono ?_
      rintro _ w128 ⟨ow128, cw128, rfl, mt, g128⟩
      refine ⟨_, _, _, rfl, ?_⟩
      have rm := rm.grow g128
      have rv := rv.grow g128
      have G := G.trans' g128
      intro w129 e129
      have g129 : Grow w128 w129 := only_alloc e129
      have ru := Row.new e129
      have rm := rm.grow g129
      have rv := rv.grow g129
      have mt := mt.grow g129
      have G := G.trans' g129
      exact fin w129 _ _ _ _ _ mt rm ru rv G
    intro w130 e130
    have g130 : Grow w127 w130 := only_alloc e130
    have ru := Row.new e130
    have rm := rm.grow g130
    have rv := rv.grow g130
    have G := G.trans' g130
    refine (tab w130 G).mono ?_
    rintro _ w131 ⟨ow131, cw131, rfl, mt, g131⟩
    refine ⟨_, _, _, rfl, ?_⟩
    have rm := rm.grow g131
    have rv := rv.grow g131
    have ru := ru.grow g131
    have G := G.trans' g131
    exact fin w131 _ _ _ _ _ mt rm ru rv G
  refine ⟨?_, ?_⟩
  · intro w132 e132
    have g132 : Grow w w132 := only_alloc e132
    have ru := Row.new e132
    have G := G.trans' g132
    refine ⟨?_, ?_⟩
    · refine (tab w132 G).mono ?_
      rintro _ w133 ⟨ow133, cw133, rfl, mt, g133⟩
      refine ⟨_, _, _, rfl, ?_⟩
      have ru := ru.grow g133
      have G := G.trans' g133
      refine ⟨?_, ?_⟩
      · intro w134 e134
        have g134 : Grow w133 w134 := only_alloc e134
        have rm := Row.new e134
        have ru := ru.grow g134
        have mt := mt.grow g134
        have G := G.trans' g134
        intro w135 e135
        have g135 : Grow w134 w135 := only_alloc e135
        have rv := Row.new e135
        have ru := ru.grow g135
        have mt := mt.grow g135
        have rm := rm.grow g135
        have G := G.trans' g135
        exact fin w135 _ _ _ _ _ mt rm ru rv G
      intro w136 e136
      have g136 : Grow w133 w136 := only_alloc e136
      have rv := Row.new e136
      have ru := ru.grow g136
      have mt := mt.grow g136
      have G := G.trans' g136
      intro w137 e137
      have g137 : Grow w136 w137 := only_alloc e137
      have rm := Row.new e137
      have ru := ru.grow g137
      have mt := mt.grow g137
      have rv := rv.grow g137
      have G := G.trans' g137
      exact fin w137 _ _ _ _ _ mt rm ru rv G
    refine ⟨?_, ?_⟩
    · intro w138 e138
      have g138 : Grow w132 w138 := only_alloc e138
      have rm := Row.new e138
      have ru := ru.grow g138
      have G := G.trans' g138
      refine ⟨?_, ?_⟩
      · refine (tab w138 G).mono ?_
        rintro _ w139 ⟨ow139, cw139, rfl, mt, g139⟩
        refine ⟨_, _, _, rfl, ?_⟩
        have ru := ru.grow g139
        have rm := rm.grow g139
        have G := G.trans' g139
        intro w140 e140
        have g140 : Grow w139 w140 := only_alloc e140
        have rv := Row.new e140
        have ru := ru.grow g140
        have rm := rm.grow g140
        have mt := mt.grow g140
        have G := G.trans' g140
        exact fin w140 _ _ _ _ _ mt rm ru rv G
      intro w141 e141
      have g141 : Grow w138 w141 := only_alloc e141
      have rv := Row.new e141
      have ru := ru.grow g141
      have rm := rm.grow g141
      have G := G.trans' g141
      refine (tab w141 G).mono ?_
      rintro _ w142 ⟨ow142, cw142, rfl, mt, g142⟩
      refine ⟨_, _, _, rfl, ?_⟩
      have ru := ru.grow g142
      have rm := rm.grow g142
      have rv := rv.grow g142
      have G := G.trans' g142
      exact fin w142 _ _ _ _ _ mt rm ru rv G
    intro w143 e143
    have g143 : Grow w132 w143 := only_alloc e143
    have rv := Row.new e143
    have ru := ru.grow g143
    have G := G.trans' g143
    refine ⟨?_, ?_⟩
    · refine (tab w143 G).mono ?_
      rintro _ w144 ⟨ow144, cw144, rfl, mt, g144⟩
      refine ⟨_, _, _, rfl, ?_⟩
      have ru := ru.grow g144
      have rv := rv.grow g144
      have G := G.trans' g144
      intro w145 e145
      have g145 : Grow w144 w145 := only_alloc e145
      have rm := Row.new e145
      have ru := ru.grow g145
      have rv := rv.grow g145
      have mt := mt.grow g145
      have G := G.trans' g145
      exact fin w145 _ _ _ _ _ mt rm ru rv G
    intro w146 e146
    have g146 : Grow w143 w146 := only_alloc e146
    have rm := Row.new e146
    have ru := ru.grow g146
    have rv := rv.grow g146
    have G := G.trans' g146
    refine (tab w146 G).mono ?_
    rintro _ w147 ⟨ow147, cw147, rfl, mt, g147⟩
    refine ⟨_, _, _, rfl, ?_⟩
    have ru := ru.grow g147
    have rv := rv.grow g147
    have rm := rm.grow g147
    have G := G.trans' g147
    exact fin w147 _ _ _ _ _ mt rm ru rv G
  intro w148 e148
  have g148 : Grow w w148 := only_alloc e148
  have rv := Row.new e148
  have G := G.trans' g148
  refine ⟨?_, ?_⟩
  · refine (tab w148 G).mono ?_
    rintro _ w149 ⟨ow149, cw149, rfl, mt, g149⟩
    refine ⟨_, _, _, rfl, ?_⟩
    have rv := rv.grow g149
    have G := G.trans' g149
    refine ⟨?_, ?_⟩
    · intro w150 e150
      have g150 : Grow w149 w150 := only_alloc e150
      have rm := Row.new e150
      have rv := rv.grow g150
      have mt := mt.grow g150
      have G := G.trans' g150
      intro w151 e151
      have g151 : Grow w150 w151 := only_alloc e151
      have ru := Row.new e151
      have rv := rv.grow g151
      have mt := mt.grow g151
      have rm := rm.grow g151
      have G := G.trans' g151
      exact fin w151 _ _ _ _ _ mt rm ru rv G
    intro w152 e152
    have g152 : Grow w149 w152 := only_alloc e152
    have ru := Row.new e152
    have rv := rv.grow g152
    have mt := mt.grow g152
    have G := G.trans' g152
    intro w153 e153
    have g153 : Grow w152 w153 := only_alloc e153
    have rm := Row.new e153
    have rv := rv.grow g153
    have mt := mt.grow g153
    have ru := ru.grow g153
    have G := G.trans' g153
    exact fin w153 _ _ _ _ _ mt rm ru rv G
  refine ⟨?_, ?_⟩
  · intro w154 e154
    have g154 : Grow w148 w154 := only_alloc e154
    have rm := Row.new e154
    have rv := rv.grow g154
    have G := G.trans' g154
    refine ⟨?_, ?_⟩
    · refine (tab w154 G).mono ?_
      rintro _ w155 ⟨ow155, cw155, rfl, mt, g155⟩
      refine ⟨_, _, _, rfl, ?_⟩
      have rv := rv.grow g155
      have rm := rm.grow g155
      have G := G.trans' g155
      intro w156 e156
      have g156 : Grow w155 w156 := only_alloc e156
      have ru := Row.new e156
      have rv := rv.grow g156
      have rm := rm.grow g156
      have mt := mt.grow g156
      have G := G.trans' g156
      exact fin w156 _ _ _ _ _ mt rm ru rv G
    intro w157 e157
    have g157 : Grow w154 w157 := only_alloc e157
    have ru := Row.new e157
    have rv := rv.grow g157
    have rm := rm.grow g157
    have G := G.trans' g157
    refine (tab w157 G).mono ?_
    rintro _ w158 ⟨ow158, cw158, rfl, mt, g158⟩
    refine ⟨_, _, _, rfl, ?_⟩
    have rv := rv.grow g158
    have rm := rm.grow g158
    have ru := ru.grow g158
    have G := G.trans' g158
    exact fin w158 _ _ _ _ _ mt rm ru rv G
  intro w159 e159
  have g159 : Grow w148 w159 := only_alloc e159
  have ru := Row.new e159
  have rv := rv.grow g159
  have G := G.trans' g159
  refine ⟨?_, ?_⟩
  · refine (tab w159 G).mono ?_
    rintro _ w160 ⟨ow160, cw160, rfl, mt, g160⟩
    refine ⟨_, _, _, rfl, ?_⟩
    have rv := rv.grow g160
    have ru := ru.grow g160
    have G := G.trans' g160
    intro w161 e161
    have g161 : Grow w160 w161 := only_alloc e161
    have rm := Row.new e161
    have rv := rv.grow g161
    have ru := ru.grow g161
    have mt := mt.grow g161
    have G := G.trans' g161
    exact fin w161 _ _ _ _ _ mt rm ru rv G
  intro w162 e162
  have g162 : Grow w159 w162 := only_alloc e162
  have rm := Row.new e162
  have rv := rv.grow g162
  have ru := ru.grow g162
  have G := G.trans' g162
  refine (tab w162 G).mono ?_
  rintro _ w163 ⟨ow163, cw163, rfl, mt, g163⟩
  refine ⟨_, _, _, rfl, ?_⟩
  have rv := rv.grow g163
  have ru := ru.grow g163
  have rm := rm.grow g163
  have G := G.trans' g163
  exact fin w163 _ _ _ _ _ mt rm ru rv G
set_option maxRecDepth 100000 in
theorem st_D (g : Env) (vs : List Value) (w0 w : World) (h : KC w0 vs w) : vcG Tryd.prog (ops9 Tryd.f9.body) ms9 effs9 dl9 t9D (upTo 35 19) [] (g.fill [1, 66] vs) w (stop dl9 (upTo 41 13) [1, 72] (KC w0)) := by
  obtain ⟨o, c, rfl, s⟩ := h
  refine nf9D g o 2 c w (KC w0) ((s.table c).mono ?_)
  rintro _ w2 ⟨o3, c5, rfl, b2, g2⟩
  refine ⟨_, _, _, rfl, (extra_c 1 0 (by decide) (by decide) extra1 c5 b2 (Only.refl _ _)).mono ?_⟩
  rintro _ w7 ⟨rfl, g7⟩
  exact ⟨_, rfl, _, _, rfl, (s.grow g2).grow g7⟩
set_option maxRecDepth 100000 in
theorem st_E (g : Env) (vs : List Value) (w0 w : World) (h : KC w0 vs w) : vcG Tryd.prog (ops9 Tryd.f9.body) ms9 effs9 dl9 t9E (upTo 41 13) [] (g.fill [1, 72] vs) w (stop dl9 (upTo 47 7) [78] (KF w0)) := by
  obtain ⟨o, c, rfl, s⟩ := h
  refine nf9E g o 2 c w (KF w0) ((s.table c).mono ?_)
  rintro _ w2 ⟨o3, c5, rfl, b2, g2⟩
  refine ⟨_, _, _, rfl, (extra_c 0 _ (by decide) (by decide) extra0 c5 b2 (Only.refl _ _)).mono ?_⟩
  rintro _ w7 ⟨rfl, g7⟩
  exact ⟨_, rfl, by simp, s.g.trans' (g2.trans' g7)⟩
theorem sample : certL [1, -12] [] [0] = [114, 111, 119, 115, 32, 49, 32, 45, 49, 50, 10, 99, 111, 108, 117, 109, 110, 115, 10, 115, 104, 111, 114, 116, 32, 48, 10] := by
  unfold certL lineL numsL rowsW columnsW shortW
  have e1 : numL 1 = [49] := by rw [num_small (by decide) (by decide)]; rfl
  have e0 : numL 0 = [48] := by rw [num_small (by decide) (by decide)]; rfl
  have e12 : numL (-12) = [45, 49, 50] := by
    rw [num_neg2 (by decide), show (-12 : Int).tdiv 10 = -1 by decide, show -((-12 : Int).tmod 10) = 2 by decide, num_neg1 (by decide) (by decide), num_small (by decide) (by decide), num_small (by decide) (by decide)]
    rfl
  simp [e1, e0, e12]
set_option maxHeartbeats 4000000 in
set_option maxRecDepth 100000 in
theorem st_F (g : Env) (vs : List Value) (w0 w : World) (h : KF w0 vs w) (ht : Tab w0) : vcE Tryd.prog (ops9 Tryd.f9.body) ms9 effs9 t9F (upTo 47 7) [] (g.fill [78] vs) w (fun ρ w => Tr w0 (.returned (ρ 0)) w) := by
  obtain ⟨rfl, g0⟩ := h
  have fin : ∀ w' bu bh, Row w' bu 2 [.int .i64 1, .int .i64 (-12)] → Row w' bh 3 [.int .i64 0] → Grow w w' →
      Calls Tryd.prog 23 #[.agg #[.slice (some ⟨bu, 0, none⟩) 2 2, .slice none 0 0, .slice (some ⟨bh, 0, none⟩) 1 1]] w' fun e w'' => e = .returned (.string (BA (certL [1, -12] [] [0]))) ∧ Grow w0 w'' := by
    intro w' bu bh h1 h2 G
    refine (Format_c (some ⟨bu, 0, none⟩) none (some ⟨bh, 0, none⟩) 2 0 1 [1, -12] [] [0] w' (pair_nums h1) (B := fun _ => True) (fun i v hi => by simp at hi) (Row.nums (A := fun _ => True) (xs := [0]) h2 trivial) ?_ ?_ ?_ (by decide) (by decide) (by decide) (ht.grow (g0.trans' G))).mono ?_
    · intro x hx; simp at hx; omega
    · intro x hx; simp at hx
    · intro x hx; simp at hx; omega
    · rintro _ w'' ⟨rfl, g'⟩
      exact ⟨rfl, (g0.trans' G).trans' g'⟩
  refine nf9F g w (Tr w0) ⟨fun w1 e1 w3 e3 => ?_, fun w8 e8 w10 e10 => ?_⟩
  · refine (fin w3 (hs w) (hs w1) ((Row.new e1).grow (only_alloc e3)) (Row.new e3) ((only_alloc e1).trans' (only_alloc e3))).mono ?_
    rintro _ w6 ⟨rfl, g6⟩
    refine ⟨_, rfl, ret_bool ?_, g6⟩
    exact strEq_iff.2 (congrArg BA sample)
  · refine (fin w10 (hs w8) (hs w) (Row.new e10) ((Row.new e8).grow (only_alloc e10)) ((only_alloc e8).trans' (only_alloc e10))).mono ?_
    rintro _ w6 ⟨rfl, g6⟩
    refine ⟨_, rfl, ret_bool ?_, g6⟩
    exact strEq_iff.2 (congrArg BA sample)
set_option maxRecDepth 100000 in
theorem awake_c (w : World) (ht : Tab w) : Calls Tryd.prog 9 #[] w (Tr w) := by
  refine nf9 w _ (vc_stage (n := 5) (live := [1, 2, 3, 5, 7]) (K' := KA w) (st_P w _) fun vs w' hA g => nf9R g vs w' _ fun w1 e1 => ?_)
  have hA1 : KA w vs w1 := by
    obtain ⟨o, c, b, oU, oV, oH, cU, cV, cH, U, V, H, e, s, C⟩ := hA
    exact ⟨o, c, b, oU, oV, oH, cU, cV, cH, U, V, H, e, s.grow (only_drew e1), C.grow (only_drew e1)⟩
  refine vcE_stage deads9 (st_A g vs w w1 hA1) fun vs w' hB g => ?_
  refine vcE_stage deads9 (st_B g vs w w' hB) fun vs w' hC g => ?_
  refine vcE_stage deads9 (st_C g vs w w' hC) fun vs w' hD g => ?_
  refine vcE_stage deads9 (st_D g vs w w' hD) fun vs w' hE g => ?_
  refine vcE_stage deads9 (st_E g vs w w' hE) fun vs w' hF g => ?_
  exact st_F g vs w w' hF ht
theorem awakeOk (w : World) (ht : Tab w) : AwakeOk w := fun w' g => (awake_c w' (ht.grow g)).mono fun _ _ h => h
end Go.Proofs.YtneklhmkiememaaDoor
