/- Chapter 15: the reference's book: what it reads, what it writes. -/
import Derived.Test.YtbaacpfjecbbgaaU2
namespace Go.Proofs.Ytbaacpfjecbbgaa
open Go Go.Nf

abbrev bookV (oL : Option Addr) (nL cL : Nat) (oP : Option Addr) (nP cP : Nat) : Value := .agg #[.slice oL nL cL, .slice oP nP cP]
theorem give {wX : World} {pb rb T T' : Nat} {o o' : Option Addr} {n c n' c' : Nat} {z1 z2 : Value} (p : Row wX pb T [.slice o n c, .slice o' n' c']) (q : Row wX rb T' [z1, z2]) {Q : Option Addr → Nat → Nat → Option Addr → Nat → Nat → World → Prop}
    (h : ∀ wY, Only (fun b => b = rb) wX wY → Q o n c o' n' c' wY) :
    ∃ a b d, wX.cell? ⟨pb, 0, none⟩ = some (.slice a b d) ∧ ∃ a' b' d', wX.cell? ⟨pb, 1, none⟩ = some (.slice a' b' d') ∧ There wX ⟨rb, 0, none⟩ 2 ∧ ∀ wY, wY = setCells wX ⟨rb, 0, none⟩ [.slice a b d, .slice a' b' d'] 0 →
      ∃ x y z, wY.cell? ⟨rb, 0, none⟩ = some (.slice x y z) ∧ ∃ x' y' z', wY.cell? ⟨rb, 1, none⟩ = some (.slice x' y' z') ∧ Q x y z x' y' z' wY :=
  ⟨_, _, _, p.cell rfl, _, _, _, p.cell rfl, q.there (by simp), fun wY e => ⟨_, _, _, (q.set e).cell rfl, _, _, _, (q.set e).cell rfl, h wY (only_set e)⟩⟩
theorem giveP {wX : World} {rb : Nat} {z1 z2 z3 : Value} {s : ByteArray} {v : Int} {o : Option Addr} {n c : Nat} (q : Row wX rb 24 [z1, z2, z3]) {Q : ByteArray → Int → Option Addr → Nat → Nat → World → Prop} (h : ∀ wY, Only (fun b => b = rb) wX wY → Q s v o n c wY) :
    There wX ⟨rb, 0, none⟩ 3 ∧ ∀ wY, wY = setCells wX ⟨rb, 0, none⟩ [.string s, .int .i64 v, .slice o n c] 0 →
      ∃ s', wY.cell? ⟨rb, 0, none⟩ = some (.string s') ∧ ∃ v', wY.cell? ⟨rb, 1, none⟩ = some (.int .i64 v') ∧ ∃ x y z, wY.cell? ⟨rb, 2, none⟩ = some (.slice x y z) ∧ Q s' v' x y z wY :=
  ⟨q.there (by simp), fun wY e => ⟨_, (q.set e).cell rfl, _, (q.set e).cell rfl, _, _, _, (q.set e).cell rfl, h wY (only_set e)⟩⟩
theorem pn_get {w : World} {A : Nat → Prop} {o : Option Addr} {P : List Pn} (h : Recs w A o 3 (P.map encPn)) {i : Nat} (hi : i < P.length) :
    ∃ a, o = some a ∧ A a.block ∧ w.cell? (a.add ((i : Int).toNat * 3)) = some (.int .i64 P[i].call) ∧ w.cell? ((a.add ((i : Int).toNat * 3)).add 1) = some (.string P[i].name) ∧ w.cell? ((a.add ((i : Int).toNat * 3)).add 2) = some (.int .i64 P[i].version) := by
  obtain ⟨a, ha, hA, hc⟩ := h i (encPn P[i]) (by rw [List.getElem?_map, List.getElem?_eq_getElem hi]; rfl)
  have h0 := hc 0 _ rfl
  rw [add_zero] at h0
  exact ⟨a, ha, hA, h0, hc 1 _ rfl, hc 2 _ rfl⟩

section
variable {w : World} {E : Nat → Prop} {oL oP : Option Addr} {cL cP : Nat} {L : List Prot} {P : List Pn}
theorem refGet_c (n : ByteArray) (v : Int) (nP : Nat) (hl : L.length ≤ 1000) (hE : ∀ b, E b → b < hs w) (h : Ps w E oL L) :
    Calls Try.prog 109 #[bookV oL L.length cL oP nP cP, .string n, .int .i64 v] w fun e w' => ∃ r, IsGet L n v r ∧ Found E r e w' ∧ Grow w w' := by
  refine nf109 oL L.length cL oP nP cP n v w _ fun w1 e1 w3 e3 => ?_
  have g1 : Grow w w1 := only_alloc e1
  have g3 : Grow w1 w3 := only_alloc e3
  have r1 := (Row.new e1).grow g3
  have r3 := Row.new e3
  have G3 := g1.trans' g3
  have z1 := g1.size
  refine ⟨fun k x w' => ∃ j : Nat, x = (j : Int) ∧ j ≤ L.length ∧ k = L.length - j ∧ (∀ u, u ∈ L.take j → ¬ (u.name = n ∧ u.version = v)) ∧ Grow w3 w', ⟨_, 0, rfl, Nat.zero_le _, rfl, by simp, Only.refl _ _⟩, ?_⟩
  rintro k _ w4 x ⟨j, rfl, hj, rfl, hno, g4⟩
  have q1 := r1.grow g4
  have q3 := r3.grow g4
  have G4 := G3.trans' g4
  refine ⟨_, _, _, q1.cell rfl, fun hlt => ?_, fun hge => giveP q3 fun wY gY => ?_⟩
  · have hlt : j < L.length := by have := dT hlt; omega
    obtain ⟨a, qo, qc, ha, -, c0, c1, c2, hq⟩ := (h.grow G4).get hlt
    have next : ¬ (L[j].name = n ∧ L[j].version = v) → ∃ m, m < L.length - j ∧ ∃ j' : Nat, IntKind.wrap .i64 ((j : Int) + 1) = (j' : Int) ∧ j' ≤ L.length ∧ m = L.length - j' ∧ (∀ u, u ∈ L.take j' → ¬ (u.name = n ∧ u.version = v)) ∧ Grow w3 w4 := fun hn =>
      ⟨_, by omega, j + 1, by rw [wr (by omega)]; omega, hlt, rfl, fun u hu => by
        rw [take_succ' hlt] at hu
        rcases List.mem_append.1 hu with hu | hu
        · exact hno u hu
        · rw [List.mem_singleton] at hu; rw [hu]; exact hn, g4⟩
    refine ⟨_, _, _, q1.cell rfl, a, ha, ⟨by omega, by omega⟩, _, c0, fun he => ⟨_, _, _, q1.cell rfl, a, ha, ⟨by omega, by omega⟩, _, c1, fun hv => ⟨_, _, _, q1.cell rfl, a, ha, ⟨by omega, by omega⟩, _, c0, _, c1, _, _, _, c2, giveP q3 fun wY gY => ?_⟩, fun hv => next fun ⟨_, e⟩ => dF hv e⟩, fun he => next fun ⟨e, _⟩ => ?_⟩
    · exact ⟨some L[j], .inr ⟨_, rfl, List.getElem_mem hlt, strEq_iff.1 he, dT hv⟩, ⟨_, _, rfl, hq.keep gY fun b hb e => by have := hE b hb; omega⟩, G4.trans gY fun b hb e => by omega⟩
    · rw [strEq_iff.2 e] at he; cases he
  · obtain rfl : j = L.length := by have := dF hge; omega
    rw [List.take_length] at hno
    exact ⟨none, .inl ⟨rfl, hno⟩, .none, G4.trans gY fun b hb e => by omega⟩
theorem isNew_snoc {l : List Prot} {t : Prot} {n : ByteArray} {r : Option Prot} (h : IsNew l n r) : IsNew (l ++ [t]) n (if strEq t.name n = true then (match r with | none => some t | some u => if u.version < t.version then some t else some u) else r) := by
  cases e : strEq t.name n
  · rw [if_neg Bool.false_ne_true]
    have hne : t.name ≠ n := fun k => by rw [strEq_iff.2 k] at e; cases e
    rcases h with ⟨rfl, h⟩ | ⟨u, rfl, h1, h2, h3⟩
    · refine .inl ⟨rfl, fun u hu => ?_⟩
      rcases List.mem_append.1 hu with hu | hu
      · exact h u hu
      · rw [List.mem_singleton] at hu; rw [hu]; exact hne
    · refine .inr ⟨u, rfl, List.mem_append_left _ h1, h2, fun y hy hn => ?_⟩
      rcases List.mem_append.1 hy with hy | hy
      · exact h3 y hy hn
      · rw [List.mem_singleton] at hy; rw [hy] at hn; exact absurd hn hne
  · have he := strEq_iff.1 e
    rw [if_pos rfl]
    rcases h with ⟨rfl, h⟩ | ⟨u, rfl, h1, h2, h3⟩
    · refine .inr ⟨t, rfl, by simp, he, fun y hy hn => ?_⟩
      rcases List.mem_append.1 hy with hy | hy
      · exact absurd hn (h y hy)
      · rw [List.mem_singleton] at hy; rw [hy]; exact Int.le_refl _
    · simp only
      split
      · refine .inr ⟨t, rfl, by simp, he, fun y hy hn => ?_⟩
        rcases List.mem_append.1 hy with hy | hy
        · have := h3 y hy hn; omega
        · rw [List.mem_singleton] at hy; rw [hy]; exact Int.le_refl _
      · refine .inr ⟨u, rfl, List.mem_append_left _ h1, h2, fun y hy hn => ?_⟩
        rcases List.mem_append.1 hy with hy | hy
        · exact h3 y hy hn
        · rw [List.mem_singleton] at hy; rw [hy]; omega
theorem refNew_c (n : ByteArray) (nP : Nat) (hl : L.length ≤ 1000) (hE : ∀ b, E b → b < hs w) (h : Ps w E oL L) :
    Calls Try.prog 105 #[bookV oL L.length cL oP nP cP, .string n] w fun e w' => ∃ r, IsNew L n r ∧ Found E r e w' ∧ Grow w w' := by
  refine nf105 oL L.length cL oP nP cP n w _ fun w1 e1 w3 e3 w5 e5 => ?_
  have g1 : Grow w w1 := only_alloc e1
  have g3 : Grow w1 w3 := only_alloc e3
  have g5 : Grow w3 w5 := only_alloc e5
  have r1 := ((Row.new e1).grow g3).grow g5
  have r3 := (Row.new e3).grow g5
  have r5 := Row.new e5
  have G5 := (g1.trans' g3).trans' g5
  have z1 := hs_alloc e1
  have z3 := hs_alloc e3
  refine ⟨fun k b x w' => ∃ (j : Nat) (r : Option Prot) (o : Option Addr) (c : Nat), x = (j : Int) ∧ j ≤ L.length ∧ k = L.length - j ∧ b = r.isSome ∧ IsNew (L.take j) n r ∧ Row w' (hs w3) 24 [.string (r.getD zeroP).name, .int .i64 (r.getD zeroP).version, .slice o (r.getD zeroP).qs.length c] ∧ Qs w' E o (r.getD zeroP).qs ∧ Only (fun b => b = hs w3) w5 w',
    ⟨_, 0, none, none, 0, rfl, Nat.zero_le _, rfl, rfl, .inl ⟨rfl, by simp⟩, r5, fun i q hi => by simp [zeroP] at hi, Only.refl _ _⟩, ?_⟩
  rintro k _ w6 b x ⟨j, r, o, c, rfl, hj, rfl, rfl, hI, rb, hQ, g6⟩
  have q1 := r1.keep g6 (by omega)
  have q3 := r3.keep g6 (by omega)
  have G6 : Grow w w6 := G5.trans g6 fun b hb e => by omega
  refine ⟨_, _, _, q1.cell rfl, fun hlt k19 hk w7 e7 => ?_, fun hge => ⟨_, rb.cell rfl, _, rb.cell rfl, _, _, _, rb.cell rfl, fun hb => giveP q3 fun wY gY => ?_, fun hb => giveP q3 fun wY gY => ?_⟩⟩
  · have hlt : j < L.length := by have := dT hlt; omega
    have g7 : Grow w6 w7 := only_drew e7
    have p1 := q1.grow g7
    have pb := rb.grow g7
    have G7 := G6.trans' g7
    obtain ⟨a, qo, qc, ha, -, c0, c1, c2, hq⟩ := (h.grow G7).get hlt
    have hs1 := isNew_snoc (t := L[j]) hI
    rw [← take_succ' hlt] at hs1
    have same : ∀ {r'}, r' = r → IsNew (L.take (j + 1)) n r' → k19 r.isSome w7 := fun {r'} e hn => hk _ _ fun _ => ⟨_, by omega, j + 1, r, o, c, by rw [wr (by omega)]; omega, hlt, rfl, rfl, by rw [← e]; exact hn, pb, hQ.grow g7, g6.grow g7⟩
    have take : ∀ w8, w8 = setCells w7 ⟨hs w3, 0, none⟩ [.string L[j].name, .int .i64 L[j].version, .slice qo L[j].qs.length qc] 0 → IsNew (L.take (j + 1)) n (some L[j]) → k19 true w8 := fun w8 e8 hn => by
      have g8 : Only (fun b => b = hs w3) w7 w8 := only_set e8
      exact hk _ _ fun _ => ⟨_, by omega, j + 1, some L[j], qo, qc, by rw [wr (by omega)]; omega, hlt, rfl, rfl, hn, pb.set e8, hq.keep g8 fun b hb e => by have := hE b hb; have := G5.size; omega, (g6.grow g7).trans' g8⟩
    refine ⟨_, _, _, p1.cell rfl, a, ha, ⟨by omega, by omega⟩, _, c0, fun he => ⟨fun hb => ?_, fun hb => ?_⟩, fun he => ?_⟩
    · cases r with
      | none => cases hb
      | some u =>
        rw [he, if_pos rfl] at hs1
        simp only at hs1
        refine ⟨_, _, _, p1.cell rfl, a, ha, ⟨by omega, by omega⟩, _, c1, _, pb.cell rfl, fun hgt => ?_, fun hle => ?_⟩
        · rw [if_pos (by have := dT hgt; exact this)] at hs1
          exact ⟨_, _, _, p1.cell rfl, a, ha, ⟨by omega, by omega⟩, _, c0, _, c1, _, _, _, c2, pb.there (by simp), fun w8 e8 => take w8 e8 hs1⟩
        · rw [if_neg (by have := dF hle; exact this)] at hs1
          exact same rfl hs1
    · cases r with
      | some u => cases hb
      | none =>
        rw [he, if_pos rfl] at hs1
        exact ⟨_, _, _, p1.cell rfl, a, ha, ⟨by omega, by omega⟩, _, c0, _, c1, _, _, _, c2, pb.there (by simp), fun w8 e8 => take w8 e8 hs1⟩
    · rw [he, if_neg Bool.false_ne_true] at hs1
      exact same rfl hs1
  all_goals
    obtain rfl : j = L.length := by have := dF hge; omega
    rw [List.take_length] at hI
    exact ⟨r, hI, ⟨_, _, by rw [hb], hQ.keep gY fun b hb e => by have := hE b hb; omega⟩, G6.trans gY fun b hb e => by omega⟩
theorem refVersions_c (n : ByteArray) (nP : Nat) (hl : L.length ≤ 1000) (h : Ps w E oL L) :
    Calls Try.prog 107 #[bookV oL L.length cL oP nP cP, .string n] w fun e w' => ∃ o' c', e = .returned (.slice o' (versionsOf L n).length c') ∧ Own w' (hs w) 3 1 o' (versionsOf L n).length c' (intsV (versionsOf L n)) ∧ Grow w w' := by
  refine nf107 oL L.length cL oP nP cP n w _ fun w1 e1 => ?_
  have g1 : Grow w w1 := only_alloc e1
  have r1 := Row.new e1
  refine ⟨fun k o5 n5 c5 x w' => ∃ j : Nat, x = (j : Int) ∧ j ≤ L.length ∧ k = L.length - j ∧ n5 = (versionsOf (L.take j) n).length ∧ n5 ≤ j ∧ Own w' (hs w1) 3 1 o5 n5 c5 (intsV (versionsOf (L.take j) n)) ∧ Grow w1 w',
    ⟨_, 0, rfl, Nat.zero_le _, rfl, rfl, Nat.zero_le _, own_nil _ _ _ _, Only.refl _ _⟩, ?_⟩
  rintro k _ w4 o5 n5 c5 x ⟨j, rfl, hj, rfl, en, hnl, hown, g4⟩
  have q1 := r1.grow g4
  have G4 := g1.trans' g4
  refine ⟨_, _, _, q1.cell rfl, fun hlt k17 hk => ?_, fun hge => ?_⟩
  · have hlt : j < L.length := by have := dT hlt; omega
    obtain ⟨a, qo, qc, ha, -, c0, c1, -⟩ := (h.grow G4).get hlt
    have ev : versionsOf (L.take (j + 1)) n = versionsOf (L.take j) n ++ (if strEq L[j].name n = true then [L[j].version] else []) := by
      unfold versionsOf
      rw [take_succ' hlt, List.filter_append, List.map_append, List.filter_cons]
      split <;> simp
    refine ⟨_, _, _, q1.cell rfl, a, ha, ⟨by omega, by omega⟩, _, c0, fun he => ⟨_, _, _, q1.cell rfl, a, ha, ⟨by omega, by omega⟩, _, c1, fun w2 e2 => ?_⟩, fun he => ?_⟩
    · have g2 : Grow w4 w2 := only_alloc e2
      have r2 : Row w2 (hs w4) 3 [.int .i64 L[j].version] := Row.new e2
      have z2 := (g4.trans' g2).size
      rw [he, if_pos rfl] at ev
      refine append_int (hown.grow g2) r2 (by omega) z2 fun o' c' w' h1 h2 => ⟨_, _, _, rfl, hk _ _ _ _ fun _ => ⟨_, by omega, j + 1, by rw [wr (by omega)]; omega, hlt, rfl, by rw [ev]; simp [en], by omega, by rw [ev]; exact h1, (g4.trans' g2).trans h2 fun b hb hb' => ?_⟩⟩
      have := ((hown.grow g2).base b hb').1
      omega
    · rw [he, if_neg Bool.false_ne_true, List.append_nil] at ev
      exact hk _ _ _ _ fun _ => ⟨_, by omega, j + 1, by rw [wr (by omega)]; omega, hlt, rfl, by rw [ev]; exact en, by omega, by rw [ev]; exact hown, g4⟩
  · obtain rfl : j = L.length := by have := dF hge; omega
    rw [List.take_length] at hown en
    subst en
    exact ⟨o5, c5, rfl, hown.mono g1.size, G4⟩
/-- the place of a pinned call, or -1 -/
inductive At (P : List Pn) (call : Int) : Int → Prop
  | none (h : ∀ p, p ∈ P → p.call ≠ call) : At P call (-1)
  | some (i : Nat) (hi : i < P.length) (h : P[i].call = call) : At P call (i : Int)
theorem refPin_c (call : Int) (nL : Nat) (hl : P.length ≤ 1000) (h : Recs w E oP 3 (P.map encPn)) :
    Calls Try.prog 117 #[bookV oL nL cL oP P.length cP, .int .i64 call] w fun e w' => ∃ x, At P call x ∧ e = .returned (.int .i64 x) ∧ Grow w w' := by
  refine nf117 oL nL cL oP P.length cP call w _ fun w1 e1 => ?_
  have g1 : Grow w w1 := only_alloc e1
  have r1 := Row.new e1
  refine ⟨fun k x w' => ∃ j : Nat, x = (j : Int) ∧ j ≤ P.length ∧ k = P.length - j ∧ (∀ p, p ∈ P.take j → p.call ≠ call) ∧ Grow w1 w', ⟨_, 0, rfl, Nat.zero_le _, rfl, by simp, Only.refl _ _⟩, ?_⟩
  rintro k _ w4 x ⟨j, rfl, hj, rfl, hno, g4⟩
  have q1 := r1.grow g4
  have G4 := g1.trans' g4
  refine ⟨_, _, _, q1.cell rfl, fun hlt => ?_, fun hge => ?_⟩
  · have hlt : j < P.length := by have := dT hlt; omega
    obtain ⟨a, ha, -, c0, -⟩ := pn_get (h.grow G4) hlt
    refine ⟨_, _, _, q1.cell rfl, a, ha, ⟨by omega, by omega⟩, _, c0, fun he => ⟨_, .some j hlt (dT he), rfl, G4⟩, fun he => ⟨_, by omega, j + 1, by rw [wr (by omega)]; omega, hlt, rfl, fun p hp => ?_, g4⟩⟩
    rw [take_succ' hlt] at hp
    rcases List.mem_append.1 hp with hp | hp
    · exact hno p hp
    · rw [List.mem_singleton] at hp; rw [hp]; exact dF he
  · obtain rfl : j = P.length := by have := dF hge; omega
    rw [List.take_length] at hno
    exact ⟨_, .none hno, rfl, G4⟩
theorem refPinned_c (call : Int) (hl : L.length ≤ 1000) (hlP : P.length ≤ 1000) (h : Bk w E oL oP L P) :
    Calls Try.prog 108 #[bookV oL L.length cL oP P.length cP, .int .i64 call] w fun e w' => ∃ r, IsPinned L P call r ∧ Found E r e w' ∧ Grow w w' := by
  refine nf108 oL L.length cL oP P.length cP call w _ fun w1 e1 w3 e3 => ?_
  have g1 : Grow w w1 := only_alloc e1
  have g3 : Grow w1 w3 := only_alloc e3
  have r1 := (Row.new e1).grow g3
  have r3 := Row.new e3
  have G3 := g1.trans' g3
  have z1 := g1.size
  have h3 := h.grow G3
  refine ⟨_, _, _, r1.cell rfl, _, _, _, r1.cell rfl, (refPin_c call L.length hlP h3.p).mono ?_⟩
  rintro _ w4 ⟨x, hx, rfl, g4⟩
  have q1 := r1.grow g4
  have q3 := r3.grow g4
  have G4 := G3.trans' g4
  refine ⟨_, rfl, fun hneg => giveP q3 fun wY gY => ?_, fun hpos w5 e5 => ?_⟩
  · cases hx with
    | none hno => exact ⟨none, .inl ⟨rfl, hno⟩, .none, G4.trans gY fun b hb e => by omega⟩
    | some i hi hc => have := dT hneg; omega
  · cases hx with
    | none hno => have := dF hpos; omega
    | some i hi hc =>
      have g5 : Grow w4 w5 := only_drew e5
      have p1 := q1.grow g5
      have p3 := q3.grow g5
      have G5 := G4.trans' g5
      have h5 := h.grow G5
      obtain ⟨a, ha, -, -, c1, c2⟩ := pn_get h5.p hi
      refine ⟨_, _, _, p1.cell rfl, _, _, _, p1.cell rfl, _, _, _, p1.cell rfl, a, ha, ⟨by omega, by omega⟩, _, c1, _, _, _, p1.cell rfl, a, ha, ⟨by omega, by omega⟩, _, c2, (refGet_c _ _ P.length hl h5.es h5.l).mono ?_⟩
      rintro _ w6 ⟨r, hr, ⟨o6, c6, rfl, hq6⟩, g6⟩
      have G6 := G5.trans' g6
      have hpin : IsPinned L P call r := .inr ⟨P[i], List.getElem_mem hi, hc, hr⟩
      refine ⟨_, _, _, _, _, _, rfl, fun hb => giveP (p3.grow g6) fun wY gY => ?_, fun hb => giveP (p3.grow g6) fun wY gY => ?_⟩
      all_goals exact ⟨r, hpin, ⟨_, _, by rw [hb], hq6.keep gY fun b hb e => by have := h.es b hb; omega⟩, G6.trans gY fun b hb e => by omega⟩
end

/-- a name is being put into its place among ns, of which the first k are done -/
structure Place (ns : List ByteArray) (s : ByteArray) (k : Nat) (next : List ByteArray) (put : Bool) : Prop where
  asc : next.Pairwise fun a b => ltB a b = true
  rest : ∀ a, a ∈ next → ∀ b, b ∈ ns.drop k → ltB a b = true
  mem : ∀ n, n ∈ next ↔ n ∈ ns.take k ∨ (put = true ∧ n = s)
  low : put = false → ∀ a, a ∈ ns.take k → ltB a s = true
  len : next.length ≤ k + 1
theorem Place.start (ns : List ByteArray) (s : ByteArray) : Place ns s 0 [] false := ⟨.nil, by simp, by simp, by simp, by simp⟩
section
variable {ns : List ByteArray} {s : ByteArray} {k : Nat} {next : List ByteArray} {put : Bool}
theorem Place.push (h : Place ns s k next put) (hs : ns.Pairwise fun a b => ltB a b = true) (hk : k < ns.length) (_hl : put = false → next.length ≤ k) (put' : Bool) (h1 : put = true → put' = true) (h2 : put' = true → put = true ∨ ns[k] = s) (h3 : put' = false → ltB ns[k] s = true) (hlen : next.length + 1 ≤ k + 2) :
    Place ns s (k + 1) (next ++ [ns[k]]) put' := by
  have hd : ns.drop k = ns[k] :: ns.drop (k + 1) := List.drop_eq_getElem_cons hk
  have ht : ns.take (k + 1) = ns.take k ++ [ns[k]] := List.take_succ_eq_append_getElem hk
  have hx : ∀ b, b ∈ ns.drop (k + 1) → ltB ns[k] b = true := by
    have : (ns.drop k).Pairwise fun a b => ltB a b = true := hs.sublist (List.drop_sublist _ _)
    rw [hd] at this
    exact (List.pairwise_cons.1 this).1
  refine ⟨List.pairwise_append.2 ⟨h.asc, by simp, fun a ha b hb => ?_⟩, fun a ha b hb => ?_, fun n => ?_, fun hp a ha => ?_, by simp; omega⟩
  · rw [List.mem_singleton] at hb; rw [hb]
    exact h.rest a ha _ (by rw [hd]; exact .head _)
  · rcases List.mem_append.1 ha with ha | ha
    · exact h.rest a ha b (by rw [hd]; exact .tail _ hb)
    · rw [List.mem_singleton] at ha; rw [ha]; exact hx b hb
  · rw [ht, List.mem_append, List.mem_append, List.mem_singleton, h.mem]
    constructor
    · rintro ((q | ⟨q1, q2⟩) | q)
      · exact .inl (.inl q)
      · exact .inr ⟨h1 q1, q2⟩
      · exact .inl (.inr q)
    · rintro ((q | q) | ⟨q1, q2⟩)
      · exact .inl (.inl q)
      · exact .inr q
      · rcases h2 q1 with q | q
        · exact .inl (.inr ⟨q, q2⟩)
        · exact .inr (q2.trans q.symm)
  · rw [ht] at ha
    rcases List.mem_append.1 ha with ha | ha
    · cases e : put
      · exact h.low e a ha
      · rw [h1 e] at hp; cases hp
    · rw [List.mem_singleton] at ha; rw [ha]; exact h3 hp
theorem Place.set (h : Place ns s k next false) (hs : ns.Pairwise fun a b => ltB a b = true) (hk : k < ns.length) (hl : next.length ≤ k) (hx : ltB s ns[k] = true) : Place ns s (k + 1) (next ++ [s] ++ [ns[k]]) true := by
  have hd : ns.drop k = ns[k] :: ns.drop (k + 1) := List.drop_eq_getElem_cons hk
  have ht : ns.take (k + 1) = ns.take k ++ [ns[k]] := List.take_succ_eq_append_getElem hk
  have hy : ∀ b, b ∈ ns.drop (k + 1) → ltB ns[k] b = true := by
    have : (ns.drop k).Pairwise fun a b => ltB a b = true := hs.sublist (List.drop_sublist _ _)
    rw [hd] at this
    exact (List.pairwise_cons.1 this).1
  have hm : ∀ a, a ∈ next → ltB a s = true := fun a ha => by
    rcases (h.mem a).1 ha with q | ⟨q, -⟩
    · exact h.low rfl a q
    · cases q
  refine ⟨List.pairwise_append.2 ⟨List.pairwise_append.2 ⟨h.asc, by simp, fun a ha b hb => ?_⟩, by simp, fun a ha b hb => ?_⟩, fun a ha b hb => ?_, fun n => ?_, fun hp => (by cases hp), by simp; omega⟩
  · rw [List.mem_singleton] at hb; rw [hb]; exact hm a ha
  · rw [List.mem_singleton] at hb; rw [hb]
    rcases List.mem_append.1 ha with ha | ha
    · exact h.rest a ha _ (by rw [hd]; exact .head _)
    · rw [List.mem_singleton] at ha; rw [ha]; exact hx
  · rcases List.mem_append.1 ha with ha | ha
    · rcases List.mem_append.1 ha with ha | ha
      · exact h.rest a ha b (by rw [hd]; exact .tail _ hb)
      · rw [List.mem_singleton] at ha; rw [ha]; exact ltB_trans hx (hy b hb)
    · rw [List.mem_singleton] at ha; rw [ha]; exact hy b hb
  · rw [ht, List.mem_append, List.mem_append, List.mem_append, List.mem_singleton, List.mem_singleton, h.mem]
    constructor
    · rintro (((q | ⟨q, -⟩) | q) | q)
      · exact .inl (.inl q)
      · cases q
      · exact .inr ⟨rfl, q⟩
      · exact .inl (.inr q)
    · rintro ((q | q) | ⟨-, q⟩)
      · exact .inl (.inl (.inl q))
      · exact .inr q
      · exact .inl (.inr q)
theorem Place.done (h : Place ns s ns.length next put) : (if put then next else next ++ [s]).Pairwise (fun a b => ltB a b = true) ∧ ∀ n, n ∈ (if put then next else next ++ [s]) ↔ n ∈ ns ∨ n = s := by
  have hm := h.mem
  have hlow := h.low
  rw [List.take_length] at hm hlow
  cases put
  · simp only [Bool.false_eq_true, if_false, false_and, or_false] at hm ⊢
    refine ⟨List.pairwise_append.2 ⟨h.asc, by simp, fun a ha b hb => ?_⟩, fun n => ?_⟩
    · rw [List.mem_singleton] at hb; rw [hb]; exact hlow rfl a ((hm a).1 ha)
    · rw [List.mem_append, List.mem_singleton, hm]
  · simp only [if_true]
    exact ⟨h.asc, fun n => by rw [hm]; simp⟩
end
section
variable {w : World} {E : Nat → Prop} {oL oP : Option Addr} {cL cP : Nat} {L : List Prot}
set_option maxHeartbeats 2000000 in
theorem refNames_c (nP : Nat) (hl : L.length ≤ 1000) (h : Ps w E oL L) :
    Calls Try.prog 104 #[bookV oL L.length cL oP nP cP] w fun e w' => ∃ ns o' c', e = .returned (.slice o' ns.length c') ∧ Names L ns ∧ ns.length ≤ 1000 ∧ Own w' (hs w) 9 1 o' ns.length c' (ns.flatMap encS) ∧ Grow w w' := by
  refine nf104 oL L.length cL oP nP cP w _ fun w1 e1 => ?_
  have g1 : Grow w w1 := only_alloc e1
  have r1 := Row.new e1
  refine ⟨fun k o5 n5 c5 x w' => ∃ (j : Nat) (ns : List ByteArray), x = (j : Int) ∧ j ≤ L.length ∧ k = L.length - j ∧ n5 = ns.length ∧ ns.length ≤ j ∧ Names (L.take j) ns ∧ Own w' (hs w1) 9 1 o5 n5 c5 (ns.flatMap encS) ∧ Grow w1 w',
    ⟨_, 0, [], rfl, Nat.zero_le _, rfl, rfl, Nat.zero_le _, ⟨.nil, by simp⟩, own_nil _ _ _ _, Only.refl _ _⟩, ?_⟩
  rintro k _ w7 o5 n5 c5 x ⟨j, ns, rfl, hj, rfl, rfl, hnl, hN, hown, g7⟩
  have q7 := r1.grow g7
  have G7 := g1.trans' g7
  refine ⟨_, _, _, q7.cell rfl, fun hlt => ?_, fun hge => ?_⟩
  rotate_left
  · obtain rfl : j = L.length := by have := dF hge; omega
    rw [List.take_length] at hN
    exact ⟨ns, o5, c5, rfl, hN, by omega, hown.mono g1.size, G7⟩
  have hlt : j < L.length := by have := dT hlt; omega
  generalize hsj : L[j].name = s
  have hread : ∀ {w'}, Grow w7 w' → ∃ a, oL = some a ∧ w'.cell? (a.add ((j : Int).toNat * 3)) = some (.string s) := fun g => by
    obtain ⟨a, qo, qc, ha, -, c0, -⟩ := (h.grow (G7.trans' g)).get hlt
    exact ⟨a, ha, by rw [← hsj]; exact c0⟩
  have hold : ∀ {w'}, Grow w7 w' → ∀ {i : Nat} (hi : i < ns.length), ∃ a, o5 = some a ∧ w'.cell? (a.add ((i : Int).toNat * 1)) = some (.string ns[i]) := fun {w'} g {i} hi => text_get (own_recs' encS_len (by omega) (hown.grow g)) hi
  refine ⟨fun k o5 n5 c5 b x w' => ∃ (i : Nat) (next : List ByteArray), x = (i : Int) ∧ i ≤ ns.length ∧ k = ns.length - i ∧ n5 = next.length ∧ Place ns s i next b ∧ (b = false → next.length ≤ i) ∧ Own w' (hs w7) 9 1 o5 n5 c5 (next.flatMap encS) ∧ Grow w7 w',
    ⟨_, 0, [], rfl, Nat.zero_le _, rfl, rfl, .start _ _, fun _ => Nat.zero_le _, own_nil _ _ _ _, Only.refl _ _⟩, ?_⟩
  rintro k _ w21 o22 n23 c24 b x ⟨i, next, rfl, hi, rfl, rfl, hP, hPl, hownN, g21⟩
  have hPlen := hP.len
  have app : ∀ {o n c} {xs : List ByteArray} {y : ByteArray} {wa wb : World} {K : Value → World → Prop}, n = xs.length → xs.length ≤ 2000 → Own wa (hs w7) 9 1 o n c (xs.flatMap encS) → Grow w7 wa → wb = wa.alloc (Obj.cells #[Value.string y] 9 (0, 0)) →
      (∀ o' c' w', Own w' (hs w7) 9 1 o' (n + 1) c' ((xs ++ [y]).flatMap encS) → Grow w7 w' → K (.slice o' (n + 1) c') w') → RunOk Try.prog (Hold (Builtin.append_ #[83, 83] 83 #[.slice o n c, .slice (some ⟨hs wa, 0, none⟩) 1 1])) wb K :=
    fun {o n c xs y wa wb K} hn hx ho g e hK => by
      have g2 : Grow wa wb := only_alloc e
      have r2 : Row wb (hs wa) 9 [.string y] := Row.new e
      have z2 := (g.trans' g2).size
      refine append_text (ho.grow g2) r2 (by omega) z2 fun o' c' w' h1 h2 => hK o' c' w' h1 ((g.trans' g2).trans h2 fun b hb hb' => ?_)
      have := ((ho.grow g2).base b hb').1
      omega
  refine ⟨fun hlt2 k29 hk29 w82 e82 => ?_, fun hge2 k94 hk94 => ?_⟩
  · have hi2 : i < ns.length := by have := dT hlt2; omega
    have g82 : Grow w7 w82 := g21.trans' (only_drew e82)
    have own82 := hownN.grow (only_drew e82 : Grow w21 w82)
    have q82 := q7.grow g82
    obtain ⟨a, ha, ca⟩ := hold g82 hi2
    obtain ⟨aL, haL, cL'⟩ := hread g82
    -- behind both questions
    have fin : ∀ {o n c} {xs : List ByteArray} {b' : Bool} {wc : World}, n = xs.length → xs.length ≤ 2000 → Place ns s (i + 1) (xs ++ [ns[i]]) b' → (b' = false → xs.length ≤ i) → Own wc (hs w7) 9 1 o n c (xs.flatMap encS) → Grow w7 wc →
        ∃ a44, o5 = some a44 ∧ ((0 : Int) ≤ (i : Int) ∧ (i : Int) < ((ns.length : Nat) : Int)) ∧ ∃ s45, wc.cell? (a44.add ((i : Int).toNat * 1)) = some (.string s45) ∧ ∀ w46, w46 = wc.alloc (Obj.cells #[Value.string s45] 9 (0, 0)) →
          RunOk Try.prog (Hold (Builtin.append_ #[83, 83] 83 #[.slice o n c, .slice (some ⟨hs wc, 0, none⟩) 1 1])) w46 fun v48 w49 => ∃ o50 n51 n52, v48 = .slice o50 n51 n52 ∧ ∃ n53, n53 < ns.length - i ∧ ∃ (i' : Nat) (next : List ByteArray), IntKind.wrap .i64 ((i : Int) + 1) = (i' : Int) ∧ i' ≤ ns.length ∧ n53 = ns.length - i' ∧ n51 = next.length ∧ Place ns s i' next b' ∧ (b' = false → next.length ≤ i') ∧ Own w49 (hs w7) 9 1 o50 n51 n52 (next.flatMap encS) ∧ Grow w7 w49 :=
      fun {o n c xs b' wc} hn hx hpl hb' ho g => by
        obtain ⟨a, ha, ca⟩ := hold g hi2
        refine ⟨a, ha, ⟨by omega, by omega⟩, _, ca, fun w46 e46 => app hn hx ho g e46 fun o' c' w' h1 h2 => ⟨_, _, _, rfl, _, ?_, i + 1, xs ++ [ns[i]], by rw [wr (by omega)]; omega, hi2, rfl, by simp [hn], hpl, fun hb => by have := hb' hb; simp; omega, h1, h2⟩⟩
        omega
    refine ⟨a, ha, ⟨by omega, by omega⟩, _, ca, _, _, _, q82.cell rfl, aL, haL, ⟨by omega, by omega⟩, _, cL', fun he => ?_, fun hne => ?_⟩
    · have he := strEq_iff.1 he
      refine hk29 _ _ fun _ k35 hk35 w54 e54 => ⟨fun _ => hk35 _ _ _ _ _ fun _ => ?_, fun hb => by cases hb⟩
      have g54 : Grow w82 w54 := only_drew e54
      exact fin rfl (by omega) (hP.push hN.1 hi2 hPl true (fun _ => rfl) (fun _ => .inr he) (fun hb => by cases hb) (by omega)) (fun hb => by cases hb) (own82.grow g54) (g82.trans' g54)
    · refine hk29 _ _ fun _ k35 hk35 w54 e54 => ?_
      have g54 : Grow w82 w54 := only_drew e54
      have own54 := own82.grow g54
      have G54 := g82.trans' g54
      have hne' : ns[i] ≠ s := fun e => by rw [strEq_iff.2 e] at hne; cases hne
      refine ⟨fun hb => hk35 _ _ _ _ _ fun _ => ?_, fun hb => ?_⟩
      · subst hb
        exact fin rfl (by omega) (hP.push hN.1 hi2 hPl true (fun _ => rfl) (fun _ => .inl rfl) (fun hb => by cases hb) (by omega)) (fun hb => by cases hb) own54 G54
      · subst hb
        have hl2 := hPl rfl
        obtain ⟨a, ha, ca⟩ := hold G54 hi2
        obtain ⟨aL, haL, cL'⟩ := hread G54
        have q54 := q7.grow G54
        refine ⟨a, ha, ⟨by omega, by omega⟩, _, ca, _, _, _, q54.cell rfl, aL, haL, ⟨by omega, by omega⟩, _, cL', run_gtr ⟨_, rfl, fun hgt => ⟨_, _, _, q54.cell rfl, aL, haL, ⟨by omega, by omega⟩, _, cL', fun w74 e74 => ?_⟩, fun hle => hk35 _ _ _ _ _ fun _ => ?_⟩⟩
        · refine app rfl (by omega) own54 G54 e74 fun o' c' w' h1 h2 => ⟨_, _, _, rfl, hk35 _ _ _ _ _ fun _ => ?_⟩
          exact fin (xs := next ++ [s]) (by simp) (by simp; omega) (hP.set hN.1 hi2 hl2 hgt) (fun hb => by cases hb) h1 h2
        · have hlt3 : ltB ns[i] s = true := by
            rcases ltB_tri ns[i] s with q | q | q
            · exact q
            · exact absurd q hne'
            · rw [q] at hle; cases hle
          exact fin rfl (by omega) (hP.push hN.1 hi2 hPl false (fun hb => by cases hb) (fun hb => by cases hb) (fun _ => hlt3) (by omega)) (fun _ => hl2) own54 G54
  · obtain rfl : i = ns.length := by have := dF hge2; omega
    obtain ⟨hd1, hd2⟩ := hP.done
    have fin : ∀ {o n c} {xs : List ByteArray} {wc : World}, n = xs.length → xs.length ≤ j + 1 → xs.Pairwise (fun a b => ltB a b = true) → (∀ n, n ∈ xs ↔ n ∈ ns ∨ n = s) → Own wc (hs w7) 9 1 o n c (xs.flatMap encS) → Grow w7 wc → k94 o n c wc :=
      fun {o n c xs wc} hn hx h1 h2 ho g => hk94 _ _ _ _ fun _ => ⟨_, by omega, j + 1, xs, by rw [wr (by omega)]; omega, hlt, rfl, hn, hx, ⟨h1, fun n => by
        rw [h2, hN.2, take_succ' hlt]
        constructor
        · rintro (⟨t, k1, k2⟩ | rfl)
          · exact ⟨t, List.mem_append_left _ k1, k2⟩
          · exact ⟨L[j], List.mem_append_right _ (List.mem_singleton.2 rfl), hsj⟩
        · rintro ⟨t, k1, k2⟩
          rcases List.mem_append.1 k1 with k1 | k1
          · exact .inl ⟨t, k1, k2⟩
          · rw [List.mem_singleton] at k1; rw [k1, hsj] at k2; exact .inr k2.symm⟩, ho.mono g7.size, g7.trans' g⟩
    have q21 := q7.grow g21
    refine ⟨fun hb => ?_, fun hb => ?_⟩
    · subst hb
      exact fin rfl (by omega) hd1 hd2 hownN g21
    · subst hb
      have hl2 := hPl rfl
      obtain ⟨aL, haL, cL'⟩ := hread g21
      refine ⟨_, _, _, q21.cell rfl, aL, haL, ⟨by omega, by omega⟩, _, cL', fun w110 e110 => app rfl (by omega) hownN g21 e110 fun o' c' w' h1 h2 => ⟨_, _, _, rfl, ?_⟩⟩
      exact fin (xs := next ++ [s]) (by simp) (by simp; omega) hd1 hd2 h1 h2
end

theorem elem72 : Elem Try.prog 72 157 3 32 := elem_of (by kernel_rfl)
section
variable {α : Type} {f : α → List Value} {k : Nat} (hk : ∀ m, (f m).length = k)
include hk
theorem append_recs {P : Program} {w : World} {B t ty T bytes n c c2 : Nat} {o o2 : Option Addr} {xs ys : List α} {A : Nat → Prop} {K : Value → World → Prop} (he : Elem P t T k bytes) (h0 : 0 < k) (hown : Own w B T k o n c (xs.flatMap f)) (hn : Recs w A o2 k (ys.map f))
    (h1 : ∀ u ∈ ys.flatMap f, u.oneCell' = true) (h63 : n + ys.length ≤ maxLen) (hb : (n + ys.length) * bytes ≤ 140737488355328) (hbase : B ≤ hs w)
    (h : ∀ o' c' w', Own w' B T k o' (n + ys.length) c' ((xs ++ ys).flatMap f) → Only (inBlock o) w w' → K (.slice o' (n + ys.length) c') w') :
    RunOk P (Hold (Builtin.append_ #[t, t] ty #[.slice o n c, .slice o2 ys.length c2])) w K := by
  cases ys with
  | nil =>
    refine run_append_nothing' he hown.le ?_
    have := h o c w (by simpa using hown) (Only.refl _ _)
    simpa using this
  | cons y ys =>
    obtain ⟨a, rfl, -⟩ := hn 0 (f y) rfl
    exact run_append he hown (news := (y :: ys).flatMap f) (flat_length hk _) (recs_flat' hk h0 hn) h1 h63 hb hbase fun o' c' w' h1 h2 _ => h o' c' w' (by rw [List.flatMap_append]; exact h1) h2
end
theorem Recs.take {w : World} {A : Nat → Prop} {o : Option Addr} {k i : Nat} {rows : List (List Value)} (h : Recs w A o k rows) : Recs w A o k (rows.take i) := fun j row hj => by
  rw [List.getElem?_take] at hj
  split at hj
  · exact h j row hj
  · cases hj
theorem Recs.drop {w : World} {A : Nat → Prop} {a : Addr} {k i : Nat} {rows : List (List Value)} (h : Recs w A (some a) k rows) : Recs w A (some (a.add (i * k))) k (rows.drop i) := fun j row hj => by
  rw [List.getElem?_drop] at hj
  obtain ⟨a', ha, hA, hc⟩ := h (i + j) row hj
  cases ha
  refine ⟨_, rfl, by rw [block_add1]; exact hA, fun t v ht => ?_⟩
  have := hc t v ht
  rw [toNat_cast] at this ⊢
  rw [add_add a, ← Nat.add_mul]
  exact this
/-- a book that a function gives back -/
def Gave (w0 w' : World) (E : Nat → Prop) (L : List Prot) (P : List Pn) (v : Value) : Prop :=
  ∃ oL cL oP cP, v = bookV oL L.length cL oP P.length cP ∧ Bk w' (fun b => E b ∨ (hs w0 ≤ b ∧ b < hs w')) oL oP L P ∧ P.length ≤ cP
theorem Bk.mono {w : World} {E E' : Nat → Prop} {oL oP : Option Addr} {L : List Prot} {P : List Pn} (h : Bk w E oL oP L P) (hE : ∀ b, E b → E' b) (hs' : ∀ b, E' b → b < hs w) : Bk w E' oL oP L P := ⟨h.l.mono hE, h.p.mono hE, hs'⟩
theorem same_book {w w' : World} {E : Nat → Prop} {oL oP : Option Addr} {cL cP : Nat} {L : List Prot} {P : List Pn} (h : Bk w E oL oP L P) (g : Grow w w') (hc : P.length ≤ cP) : Gave w w' E L P (bookV oL L.length cL oP P.length cP) :=
  ⟨oL, cL, oP, cP, rfl, (h.grow g).mono (fun b hb => .inl hb) fun b hb => by
    rcases hb with hb | hb
    · have := h.es b hb; have := g.size; omega
    · exact hb.2, hc⟩
theorem pins_book {w w' : World} {E : Nat → Prop} {oL oP oP' : Option Addr} {cL cP' : Nat} {L : List Prot} {P P' : List Pn} {n : Nat} (h : Bk w E oL oP L P) (g : Grow w w') (ho : Own w' (hs w) 157 3 oP' n cP' (P'.flatMap encPn)) (hn : n = P'.length) : Gave w w' E L P' (bookV oL L.length cL oP' n cP') := by
  subst hn
  refine ⟨oL, cL, oP', cP', rfl, ⟨(h.l.grow g).mono fun b hb => .inl hb, (own_recs' encPn_len (by omega) ho).mono fun b hb => .inr (ho.base b hb), fun b hb => ?_⟩, ho.le⟩
  rcases hb with hb | hb
  · have := h.es b hb; have := g.size; omega
  · exact hb.2
section
variable {w : World} {E : Nat → Prop} {oL oP : Option Addr} {cL cP : Nat} {L : List Prot} {P : List Pn}
set_option maxHeartbeats 2000000 in
theorem refPinTo_c (call : Int) (n : ByteArray) (hl : L.length ≤ 1000) (hlP : P.length ≤ 1000) (hcP : P.length ≤ cP) (h : Bk w E oL oP L P) :
    Calls Try.prog 87 #[bookV oL L.length cL oP P.length cP, .int .i64 call, .string n] w fun e w' => ∃ r v, IsNew L n r ∧ e = .returned (.tuple #[v, .int .i64 (pinStep r P call n).2.1, .int .i64 (pinStep r P call n).2.2]) ∧ Gave w w' E L (pinStep r P call n).1 v ∧ Grow w w' := by
  refine nf87 oL L.length cL oP P.length cP call n w _ fun w1 e1 w3 e3 => ?_
  have g1 : Grow w w1 := only_alloc e1
  have g3 : Grow w1 w3 := only_alloc e3
  have r1 := (Row.new e1).grow g3
  have r3 := Row.new e3
  have G3 := g1.trans' g3
  have z1 := g1.size
  have h3 := h.grow G3
  refine ⟨fun hc => give r1 r3 fun wY gY => ?_, fun hc => ⟨_, _, _, r1.cell rfl, _, _, _, r1.cell rfl, (refNew_c n P.length hl h3.es h3.l).mono ?_⟩⟩
  · obtain ⟨r, hr⟩ := new_exists L n
    have e : pinStep r P call n = (P, 0, 1) := by unfold pinStep; rw [if_pos (dT hc)]
    have gg : Grow w wY := G3.trans gY fun b hb e => by omega
    refine ⟨r, _, hr, by rw [e], ?_, gg⟩
    rw [e]; exact same_book h gg hcP
  have hc := dF hc
  rintro _ w4 ⟨r, hr, ⟨o4, c4, rfl, hq4⟩, g4⟩
  have q1 := r1.grow g4
  have q3 := r3.grow g4
  have G4 := G3.trans' g4
  refine ⟨_, _, _, _, _, _, rfl, fun hb w5 e5 => ⟨(Row.new e5).there (by simp), fun w6 e6 => ?_⟩, fun hb w5 e5 => ⟨(Row.new e5).there (by simp), fun w6 e6 => ?_⟩⟩
  rotate_left
  · obtain ⟨r6, g6⟩ := loc e5 e6 rfl
    have hrn : r = none := by cases r with | none => rfl | some u => cases hb
    subst hrn
    have e : pinStep none P call n = (P, 0, 4) := by unfold pinStep; rw [if_neg hc]
    refine give (q1.grow g6) (q3.grow g6) fun wY gY => ?_
    have gg : Grow w wY := (G4.trans' g6).trans gY fun b hb e => by omega
    refine ⟨none, _, hr, by rw [e], ?_, gg⟩
    rw [e]; exact same_book h gg hcP
  obtain ⟨r6, g6⟩ := loc e5 e6 rfl
  obtain ⟨u, rfl⟩ : ∃ u, r = some u := by cases r with | none => cases hb | some u => exact ⟨u, rfl⟩
  have q16 := q1.grow g6
  have G6 := G4.trans' g6
  refine ⟨_, _, _, q16.cell rfl, _, _, _, q16.cell rfl, (refPin_c call L.length hlP (h.grow G6).p).mono ?_⟩
  rintro _ w47 ⟨x, hx, rfl, g47⟩
  have q147 := q16.grow g47
  have q347 := (q3.grow g6).grow g47
  have rl47 := r6.grow g47
  have G47 := G6.trans' g47
  refine ⟨_, rfl, fun hpos => give q147 q347 fun wY gY => ?_, fun hneg w65 e65 => ?_⟩
  · cases hx with
    | none hno => have := dT hpos; omega
    | some i hi hic =>
      have e : pinStep (some u) P call n = (P, 0, 5) := by unfold pinStep; rw [if_neg hc]; simp only; rw [pinned_of (List.getElem_mem hi) hic, if_pos rfl]
      have gg : Grow w wY := G47.trans gY fun b hb e => by omega
      refine ⟨some u, _, hr, by rw [e], ?_, gg⟩
      rw [e]; exact same_book h gg hcP
  have hno : ∀ p, p ∈ P → p.call ≠ call := by
    cases hx with
    | none hno => exact hno
    | some i hi hic => have := dF hneg; omega
  have e : pinStep (some u) P call n = (P ++ [⟨call, n, u.version⟩], u.version, 0) := by unfold pinStep; rw [if_neg hc]; simp only; rw [pinned_not hno, if_neg Bool.false_ne_true]
  have g65 : Grow w47 w65 := only_drew e65
  have q165 := q147.grow g65
  have q365 := q347.grow g65
  have rl65 := rl47.grow g65
  have G65 := G47.trans' g65
  have z65 := G65.size
  have l165 := q165.lt
  have ll65 := rl65.lt
  refine ⟨_, _, _, q165.cell rfl, _, rl65.cell rfl, fun w71 e71 => ⟨kept_only (only_alloc e71 : Grow w65 w71) ll65 (fun h => h), kept_only (only_alloc e71 : Grow w65 w71) l165 (fun h => h), ?a, fun w104 e104 => ⟨kept_only ((only_alloc e71 : Grow w65 w71).trans' (only_alloc e104)) l165 (fun h => h), ?b⟩⟩,
    fun w135 e135 => ⟨kept_only (only_alloc e135 : Grow w65 w135) l165 (fun h => h), fun w137 e137 => ⟨kept_only ((only_alloc e135 : Grow w65 w135).trans' (only_alloc e137)) l165 (fun h => h), ?c⟩⟩⟩
  case' a =>
    have g71 : Grow w65 w71 := only_alloc e71
    have o71 : Own w71 (hs w65) 157 3 (some ⟨hs w65, 0, none⟩) 0 0 (([] : List Pn).flatMap encPn) := (Row.new e71 : Row w71 (hs w65) 157 []).own (n := 0) (Nat.le_refl _) rfl (by simp [maxLen])
    refine append_recs encPn_len elem72 (by omega) o71 ((h.grow (G65.trans' g71)).p) encPn_one (by simp [maxLen]; omega) (by omega) g71.size fun o75 c75 w74 p1 p2 => ?_
    have g74 : Grow w65 w74 := g71.trans p2 fun b hb hh => by obtain ⟨a, ha, rfl⟩ := hh; cases ha; simp at hb
    rw [Nat.zero_add, List.nil_append] at p1
    rw [Nat.zero_add]
    refine ⟨_, _, _, rfl, kept_only g74 ll65 (fun h => h), fun w78 e78 => ?_⟩
    have g78 : Grow w74 w78 := only_alloc e78
    refine run_append_row elem72 (p1.grow g78) (Row.new e78 : Row w78 (hs w74) 157 (encPn ⟨call, n, u.version⟩)) rfl (by simp [encPn, Value.oneCell']) (by simp [maxLen]; omega) (by omega) (by have := (g74.trans' g78).size; omega) fun o82 c82 w81 p3 p4 _ => ⟨_, _, _, rfl, ?_⟩
    have g81 : Grow w65 w81 := (g74.trans' g78).trans p4 fun b hb hh => by have := ((p1.grow g78).base b hh).1; omega
  case' b =>
    have g71 : Grow w65 w71 := only_alloc e71
    have g104 : Grow w71 w104 := only_alloc e104
    have o71 : Own w71 (hs w65) 157 3 (some ⟨hs w65, 0, none⟩) 0 0 (([] : List Pn).flatMap encPn) := (Row.new e71 : Row w71 (hs w65) 157 []).own (n := 0) (Nat.le_refl _) rfl (by simp [maxLen])
    refine append_recs encPn_len elem72 (by omega) (o71.grow g104) ((h.grow ((G65.trans' g71).trans' g104)).p) encPn_one (by simp [maxLen]; omega) (by omega) (g71.trans' g104).size fun o75 c75 w74 p1 p2 => ?_
    have g74 : Grow w65 w74 := (g71.trans' g104).trans p2 fun b hb hh => by obtain ⟨a, ha, rfl⟩ := hh; cases ha; simp at hb
    rw [Nat.zero_add, List.nil_append] at p1
    rw [Nat.zero_add]
    have rn := (Row.new e104 : Row w104 (hs w71) 157 (encPn ⟨call, n, u.version⟩)).keep p2 fun hh => by obtain ⟨a, ha, e⟩ := hh; cases ha; have := hs_alloc e71; simp only at e; omega
    refine ⟨_, _, _, rfl, ?_⟩
    refine run_append_row elem72 p1 rn rfl (by simp [encPn, Value.oneCell']) (by simp [maxLen]; omega) (by omega) g74.size fun o82 c82 w81 p3 p4 _ => ⟨_, _, _, rfl, ?_⟩
    have g81 : Grow w65 w81 := g74.trans p4 fun b hb hh => by have := (p1.base b hh).1; omega
  case' c =>
    have g135 : Grow w65 w135 := only_alloc e135
    have g137 : Grow w135 w137 := only_alloc e137
    have o71 : Own w137 (hs w65) 157 3 (some ⟨hs w135, 0, none⟩) 0 0 (([] : List Pn).flatMap encPn) := (Row.new e137 : Row w137 (hs w135) 157 []).own (n := 0) g135.size rfl (by simp [maxLen])
    refine append_recs encPn_len elem72 (by omega) o71 ((h.grow ((G65.trans' g135).trans' g137)).p) encPn_one (by simp [maxLen]; omega) (by omega) (g135.trans' g137).size fun o75 c75 w74 p1 p2 => ?_
    have g74 : Grow w65 w74 := (g135.trans' g137).trans p2 fun b hb hh => by obtain ⟨a, ha, rfl⟩ := hh; cases ha; have := hs_alloc e135; simp only at hb; omega
    rw [Nat.zero_add, List.nil_append] at p1
    rw [Nat.zero_add]
    have rn := ((Row.new e135 : Row w135 (hs w65) 157 (encPn ⟨call, n, u.version⟩)).grow g137).keep p2 fun hh => by obtain ⟨a, ha, e⟩ := hh; cases ha; have := hs_alloc e135; simp only at e; omega
    refine ⟨_, _, _, rfl, ?_⟩
    refine run_append_row elem72 p1 rn rfl (by simp [encPn, Value.oneCell']) (by simp [maxLen]; omega) (by omega) g74.size fun o82 c82 w81 p3 p4 _ => ⟨_, _, _, rfl, ?_⟩
    have g81 : Grow w65 w81 := g74.trans p4 fun b hb hh => by have := (p1.base b hh).1; omega
  all_goals
    have q181 := q165.grow g81
    have q381 := q365.grow g81
    have rl81 := rl65.grow g81
    refine ⟨q181.there (by simp), fun w85 e85 w87 e87 => ?_⟩
    have s85 : Only (fun b => b = hs w) w81 w85 := only_set e85
    have g87 : Grow w85 w87 := only_drew e87
    have r187 := (q181.set e85).grow g87
    have s87 := s85.grow g87
    have z4 := G4.size
    have r387 := q381.keep s87 (by have := hs_alloc e1; omega)
    have rl87 := rl81.keep s87 (by have := hs_alloc e1; have := (g3.trans' g4).size; omega)
    have s81 := (G65.trans' g81).size
    have own87 := (p3.mono z65).keep s87 fun b hb e => by have := (p3.base b hb).1; have := hs_alloc e1; have := ((g3.trans' g4).trans' ((g6.trans' g47).trans' g65)).size; omega
    refine ⟨_, _, _, r187.cell rfl, _, _, _, r187.cell rfl, _, rl87.cell rfl, r387.there (by simp), fun w96 e96 => ?_⟩
    have s96 : Only (fun b => b = hs w1) w87 w96 := only_set e96
    have r396 := r387.set e96
    have gg : Grow w w96 := (((G65.trans' g81).trans s87 fun b hb e => by omega)).trans s96 fun b hb e => by omega
    have own96 := own87.keep s96 fun b hb e => by have := (p3.base b hb).1; have := hs_alloc e1; have := hs_alloc e3; have := ((g4.trans' (g6.trans' g47)).trans' g65).size; omega
    refine ⟨kept_only s96 rl87.lt (by have := hs_alloc e3; have := g4.size; omega), _, _, _, r396.cell rfl, _, _, _, r396.cell rfl, some u, _, hr, by rw [e]; rfl, ?_, gg⟩
    rw [e]
    refine pins_book h gg ?_ (by simp)
    rw [List.flatMap_append]
    simpa using own96
end

theorem prots_book {w w' : World} {E : Nat → Prop} {oL oP oL' : Option Addr} {cL' cP : Nat} {L L' : List Prot} {P : List Pn} {n : Nat} {rows : List PR} (h : Bk w E oL oP L P) (g : Grow w w') (ho : Own w' (hs w) 24 3 oL' n cL' (rows.flatMap encP)) (hr : rows.map (·.1) = L') (hc : P.length ≤ cP)
    (hq : ∀ x, x ∈ rows → Qs w' E x.2.1 x.1.qs) (hn : n = L'.length) : Gave w w' E L' P (bookV oL' n cL' oP P.length cP) := by
  subst hn
  refine ⟨oL', cL', oP, cP, rfl, ⟨⟨rows, hr, (own_recs' encP_len (by omega) ho).mono fun b hb => .inr (ho.base b hb), fun x hx => (hq x hx).mono fun b hb => .inl hb⟩, (h.p.grow g).mono fun b hb => .inl hb, fun b hb => ?_⟩, hc⟩
  rcases hb with hb | hb
  · have := h.es b hb; have := g.size; omega
  · exact hb.2
section
variable {w : World} {E : Nat → Prop} {oL oP : Option Addr} {cL cP : Nat} {L : List Prot} {P : List Pn}
set_option maxHeartbeats 4000000 in
theorem refPut_c {qo : Option Addr} {qc : Nat} {p : Prot} (hfp : FitP p) (hq : Qs w E qo p.qs) (hl : L.length ≤ 1000) (hcP : P.length ≤ cP) (h : Bk w E oL oP L P) :
    Calls Try.prog 86 #[bookV oL L.length cL oP P.length cP, aggP p qo qc] w fun e w' => ∃ x q g r v L', Ending' p x q ∧ IsGet L p.name p.version g ∧ IsNew L p.name r ∧ e = .returned (.tuple #[v, .int .i64 (putE q g r L.length p.version)]) ∧
      (putE q g r L.length p.version = 0 → L' = L ++ [p]) ∧ (putE q g r L.length p.version ≠ 0 → L' = L) ∧ Gave w w' E L' P v ∧ Grow w w' := by
  obtain ⟨g0, hg0⟩ := get_exists L p.name p.version
  obtain ⟨r0, hr0⟩ := new_exists L p.name
  obtain ⟨rows, hrows, hrec, hqs⟩ := h.l
  have hrl : rows.length = L.length := by rw [← hrows]; simp
  refine nf86 oL L.length cL oP P.length cP p.name p.version qo p.qs.length qc w _ fun w1 e1 w3 e3 w5 e5 => ?_
  have g1 : Grow w w1 := only_alloc e1
  have g3 : Grow w1 w3 := only_alloc e3
  have g5 : Grow w3 w5 := only_alloc e5
  have r1 := ((Row.new e1).grow g3).grow g5
  have rt := (Row.new e3).grow g5
  have r3 := Row.new e5
  have G5 := (g1.trans' g3).trans' g5
  have z1 := hs_alloc e1
  have z3 := hs_alloc e3
  have z5 := hs_alloc e5
  have kept : ∀ {w' : World} {x q : Int} {g r : Option Prot} {y : Int}, Ending' p x q → IsGet L p.name p.version g → IsNew L p.name r → y = putE q g r L.length p.version → y ≠ 0 → Grow w w' → ∃ x q g r v L', Ending' p x q ∧ IsGet L p.name p.version g ∧ IsNew L p.name r ∧ Ending.returned (.tuple #[bookV oL L.length cL oP P.length cP, .int .i64 y]) = .returned (.tuple #[v, .int .i64 (putE q g r L.length p.version)]) ∧
      (putE q g r L.length p.version = 0 → L' = L ++ [p]) ∧ (putE q g r L.length p.version ≠ 0 → L' = L) ∧ Gave w w' E L' P v ∧ Grow w w' := fun {w' x q g r y} hE hg hr e hy gr =>
    ⟨x, q, g, r, bookV oL L.length cL oP P.length cP, L, hE, hg, hr, by rw [e], fun h0 => absurd (e.trans h0) hy, fun _ => rfl, same_book h gr hcP, gr⟩
  refine ⟨_, rt.cell rfl, _, rt.cell rfl, _, _, _, rt.cell rfl, (right_c qo qc p hfp w5 (hq.grow G5)).mono ?_⟩
  rintro _ w6 ⟨⟨x6, rfl⟩, g6⟩
  have G6 := G5.trans' g6
  have q1 := r1.grow g6
  have qt := rt.grow g6
  have q3 := r3.grow g6
  refine ⟨_, _, rfl, fun hv => give q1 q3 fun wY gY => ?_, fun hv => ⟨_, qt.cell rfl, _, qt.cell rfl, _, _, _, qt.cell rfl, (ends_c qo qc p hfp w6 (hq.grow G6)).mono ?_⟩⟩
  · have gg : Grow w wY := G6.trans gY fun b hb e => by omega
    cases hvb : validB p with
    | true => rw [hvb] at hv; exact absurd rfl (nT hv)
    | false => exact kept (x := 0) (q := 1) (.inl ⟨hvb, rfl, rfl⟩) hg0 hr0 (by unfold putE; rfl) (by decide) gg
  rintro _ w7 ⟨x7, y7, rfl, hE', g7⟩
  have G7 := G6.trans' g7
  have q17 := q1.grow g7
  have qt7 := qt.grow g7
  have q37 := q3.grow g7
  have h7 := h.grow G7
  refine ⟨_, _, rfl, fun hy => give q17 q37 fun wY gY => ?_, fun hy => ⟨_, _, _, q17.cell rfl, _, _, _, q17.cell rfl, _, qt7.cell rfl, _, qt7.cell rfl, (refGet_c p.name p.version P.length hl h7.es h7.l).mono ?_⟩⟩
  · have gg : Grow w wY := G7.trans gY fun b hb e => by omega
    exact kept hE' hg0 hr0 (by unfold putE; rw [if_pos (nT hy)]) (nT hy) gg
  obtain rfl : y7 = 0 := nF hy
  rintro _ w8 ⟨g, hg, ⟨o8, c8, rfl, hq8⟩, g8⟩
  have G8 := G7.trans' g8
  have q18 := q17.grow g8
  have qt8 := qt7.grow g8
  have q38 := q37.grow g8
  refine ⟨_, _, _, _, _, _, rfl, fun hb w9 e9 => ⟨(Row.new e9).there (by simp), fun w10 e10 => ?_⟩, fun hb w9 e9 => ⟨(Row.new e9).there (by simp), fun w10 e10 => ?_⟩⟩
  · obtain ⟨r10, g10⟩ := loc e9 e10 rfl
    refine give (q18.grow g10) (q38.grow g10) fun wY gY => ?_
    have gg : Grow w wY := (G8.trans' g10).trans gY fun b hb e => by omega
    exact kept hE' hg hr0 (by unfold putE; rw [if_neg (by simp), hb, if_pos rfl]) (by decide) gg
  have hgn : g = none := by cases g with | none => rfl | some u => cases hb
  subst hgn
  have hgn := hg
  obtain ⟨r10, g10⟩ := loc e9 e10 rfl
  have G10 := G8.trans' g10
  have q110 := q18.grow g10
  have qt10 := qt8.grow g10
  have q310 := q38.grow g10
  have h10 := h.grow G10
  refine ⟨_, _, _, q110.cell rfl, _, _, _, q110.cell rfl, _, qt10.cell rfl, (refNew_c p.name P.length hl h10.es h10.l).mono ?_⟩
  rintro _ w11 ⟨r, hr, ⟨o11, c11, rfl, hq11⟩, g11⟩
  have G11 := G10.trans' g11
  have q111 := q110.grow g11
  have qt11 := qt10.grow g11
  have q311 := q310.grow g11
  refine ⟨_, _, _, _, _, _, rfl, fun hb w12 e12 => ⟨(Row.new e12).there (by simp), fun w13 e13 => ?a⟩, fun hb w12 e12 => ⟨(Row.new e12).there (by simp), fun w13 e13 => ?b⟩⟩
  case' a =>
    obtain ⟨r13, g13⟩ := loc e12 e13 rfl
    obtain ⟨u, rfl⟩ : ∃ u, r = some u := by cases r with | none => cases hb | some u => exact ⟨u, rfl⟩
    have q113 := q111.grow g13
    have qt13 := qt11.grow g13
    have q313 := q311.grow g13
    have G13 := G11.trans' g13
    refine ⟨_, r13.cell rfl, _, qt13.cell rfl, fun hgt => give q113 q313 fun wY gY => ?_, fun hle => ⟨_, _, _, q113.cell rfl, fun hful => give q113 q313 fun wY gY => ?_, fun hroom w65 e65 => ?_⟩⟩
    · have gg : Grow w wY := G13.trans gY fun b hb e => by omega
      have hlater : later (some u) p.version = true := by unfold later; exact decide_eq_true (by have := dT hgt; exact this)
      exact kept hE' hgn hr (by unfold putE; rw [if_neg (by simp), if_neg (by simp), hlater, if_pos rfl]) (by decide) gg
    · have gg : Grow w wY := G13.trans gY fun b hb e => by omega
      have hlater : later (some u) p.version = false := by unfold later; exact decide_eq_false (by have := dF hle; exact this)
      exact kept hE' hgn hr (by unfold putE; rw [if_neg (by simp), if_neg (by simp), hlater, if_neg (by simp), if_pos (by have := dT hful; omega)]) (by decide) gg
    have hlater : later (some u) p.version = false := by unfold later; exact decide_eq_false (by have := dF hle; exact this)
  case' b =>
    obtain ⟨r13, g13⟩ := loc e12 e13 rfl
    obtain rfl : r = none := by cases r with | none => rfl | some u => cases hb
    have q113 := q111.grow g13
    have qt13 := qt11.grow g13
    have q313 := q311.grow g13
    have G13 := G11.trans' g13
    refine ⟨_, _, _, q113.cell rfl, fun hful => give q113 q313 fun wY gY => ?_, fun hroom w65 e65 => ?_⟩
    · have gg : Grow w wY := G13.trans gY fun b hb e => by omega
      exact kept hE' hgn hr (by unfold putE; rw [if_neg (by simp), if_neg (by simp), if_neg (by simp [later]), if_pos (by have := dT hful; omega)]) (by decide) gg
    have hlater : later none p.version = false := rfl
  all_goals
    obtain ⟨r', hr', hput⟩ : ∃ r', IsNew L p.name r' ∧ putE 0 none r' L.length p.version = 0 := ⟨_, hr, by unfold putE; rw [if_neg (by simp), if_neg (by simp), hlater, if_neg (by simp), if_neg (by have := dF hroom; omega)]⟩
    have hr := hr'
    have hroom : L.length < 100 := by have := dF hroom; omega
    have g65 : Grow w13 w65 := only_drew e65
    have q165 := q113.grow g65
    have qt65 := qt13.grow g65
    have q365 := q313.grow g65
    have G65 := G13.trans' g65
    have z65 := G65.size
    have l165 := q165.lt
    have lt65 := qt65.lt
    have l365 := q365.lt
    refine ⟨_, _, _, q165.cell rfl, _, qt65.cell rfl, _, qt65.cell rfl, _, _, _, qt65.cell rfl, fun w71 e71 => ⟨kept_only (only_alloc e71 : Grow w65 w71) lt65 (fun h => h), kept_only (only_alloc e71 : Grow w65 w71) l165 (fun h => h), ?_, fun w104 e104 => ⟨kept_only ((only_alloc e71 : Grow w65 w71).trans' (only_alloc e104)) l165 (fun h => h), ?_⟩⟩,
      fun w135 e135 => ⟨kept_only (only_alloc e135 : Grow w65 w135) l165 (fun h => h), fun w137 e137 => ⟨kept_only ((only_alloc e135 : Grow w65 w135).trans' (only_alloc e137)) l165 (fun h => h), ?_⟩⟩⟩
    · have g71 : Grow w65 w71 := only_alloc e71
      have o71 : Own w71 (hs w65) 24 3 (some ⟨hs w65, 0, none⟩) 0 0 (([] : List PR).flatMap encP) := (Row.new e71 : Row w71 (hs w65) 24 []).own (n := 0) (Nat.le_refl _) rfl (by simp [maxLen])
      rw [← hrl] at hput ⊢
      refine append_recs encP_len elem71 (by omega) o71 (hrec.grow (G65.trans' g71)) encP_one (by simp [maxLen]; omega) (by omega) g71.size fun o75 c75 w74 p1 p2 => ?_
      have g74 : Grow w65 w74 := g71.trans p2 fun b hb hh => by obtain ⟨a, ha, rfl⟩ := hh; cases ha; simp at hb
      rw [Nat.zero_add, List.nil_append] at p1
      rw [Nat.zero_add]
      refine ⟨_, _, _, rfl, kept_only g74 lt65 (fun h => h), fun w78 e78 => ?_⟩
      have g78 : Grow w74 w78 := only_alloc e78
      refine run_append_row elem71 (p1.grow g78) (Row.new e78 : Row w78 (hs w74) 24 (encP (p, qo, qc))) rfl (by simp [encP, Value.oneCell']) (by simp [maxLen]; omega) (by omega) (by have := (g74.trans' g78).size; omega) fun o82 c82 w81 p3 p4 _ => ⟨_, _, _, rfl, ?_⟩
      have g81 : Grow w65 w81 := (g74.trans' g78).trans p4 fun b hb hh => by have := ((p1.grow g78).base b hh).1; omega
      have e6 : rows.flatMap encP ++ encP (p, qo, qc) = (rows ++ [(p, qo, qc)]).flatMap encP := by rw [List.flatMap_append]; simp
      rw [e6] at p3
      have q181 := q165.grow g81
      have q381 := q365.grow g81
      refine ⟨q181.there (by simp), fun w85 e85 => ?_⟩
      have s85 : Only (fun b => b = hs w) w81 w85 := only_set e85
      have own85 := p3.keep s85 fun b hb e => by have := (p3.base b hb).1; omega
      refine give (q181.set e85) (q381.keep s85 (by omega)) fun wY gY => ?_
      have gg : Grow w wY := ((G65.trans' g81).trans s85 fun b hb e => by omega).trans gY fun b hb e => by omega
      have ownY := own85.keep gY fun b hb e => by have := (p3.base b hb).1; omega
      refine ⟨_, _, none, _, _, L ++ [p], hE', hgn, hr, by rw [hput], fun _ => rfl, fun hne => absurd hput hne, prots_book h gg (ownY.mono z65) (rows := rows ++ [(p, qo, qc)]) (by simp [hrows]) hcP (fun x hx => ?_) (by simp [hrl]), gg⟩
      rcases List.mem_append.1 hx with hx | hx
      · exact (hqs x hx).grow gg
      · rw [List.mem_singleton] at hx; rw [hx]; exact hq.grow gg
    · have g71 : Grow w65 w71 := only_alloc e71
      have g104 : Grow w71 w104 := only_alloc e104
      have o71 : Own w71 (hs w65) 24 3 (some ⟨hs w65, 0, none⟩) 0 0 (([] : List PR).flatMap encP) := (Row.new e71 : Row w71 (hs w65) 24 []).own (n := 0) (Nat.le_refl _) rfl (by simp [maxLen])
      rw [← hrl] at hput ⊢
      refine append_recs encP_len elem71 (by omega) (o71.grow g104) (hrec.grow ((G65.trans' g71).trans' g104)) encP_one (by simp [maxLen]; omega) (by omega) (g71.trans' g104).size fun o75 c75 w74 p1 p2 => ?_
      have g74 : Grow w65 w74 := (g71.trans' g104).trans p2 fun b hb hh => by obtain ⟨a, ha, rfl⟩ := hh; cases ha; simp at hb
      rw [Nat.zero_add, List.nil_append] at p1
      rw [Nat.zero_add]
      have rn := (Row.new e104 : Row w104 (hs w71) 24 (encP (p, qo, qc))).keep p2 fun hh => by obtain ⟨a, ha, e⟩ := hh; cases ha; have := hs_alloc e71; simp only at e; omega
      refine ⟨_, _, _, rfl, ?_⟩
      refine run_append_row elem71 p1 rn rfl (by simp [encP, Value.oneCell']) (by simp [maxLen]; omega) (by omega) g74.size fun o82 c82 w81 p3 p4 _ => ⟨_, _, _, rfl, ?_⟩
      have g81 : Grow w65 w81 := g74.trans p4 fun b hb hh => by have := (p1.base b hh).1; omega
      have e6 : rows.flatMap encP ++ encP (p, qo, qc) = (rows ++ [(p, qo, qc)]).flatMap encP := by rw [List.flatMap_append]; simp
      rw [e6] at p3
      have q181 := q165.grow g81
      have q381 := q365.grow g81
      refine ⟨q181.there (by simp), fun w85 e85 => ?_⟩
      have s85 : Only (fun b => b = hs w) w81 w85 := only_set e85
      have own85 := p3.keep s85 fun b hb e => by have := (p3.base b hb).1; omega
      refine give (q181.set e85) (q381.keep s85 (by omega)) fun wY gY => ?_
      have gg : Grow w wY := ((G65.trans' g81).trans s85 fun b hb e => by omega).trans gY fun b hb e => by omega
      have ownY := own85.keep gY fun b hb e => by have := (p3.base b hb).1; omega
      refine ⟨_, _, none, _, _, L ++ [p], hE', hgn, hr, by rw [hput], fun _ => rfl, fun hne => absurd hput hne, prots_book h gg (ownY.mono z65) (rows := rows ++ [(p, qo, qc)]) (by simp [hrows]) hcP (fun x hx => ?_) (by simp [hrl]), gg⟩
      rcases List.mem_append.1 hx with hx | hx
      · exact (hqs x hx).grow gg
      · rw [List.mem_singleton] at hx; rw [hx]; exact hq.grow gg
    · have g135 : Grow w65 w135 := only_alloc e135
      have g137 : Grow w135 w137 := only_alloc e137
      have o71 : Own w137 (hs w65) 24 3 (some ⟨hs w135, 0, none⟩) 0 0 (([] : List PR).flatMap encP) := (Row.new e137 : Row w137 (hs w135) 24 []).own (n := 0) g135.size rfl (by simp [maxLen])
      rw [← hrl] at hput ⊢
      refine append_recs encP_len elem71 (by omega) o71 (hrec.grow ((G65.trans' g135).trans' g137)) encP_one (by simp [maxLen]; omega) (by omega) (g135.trans' g137).size fun o75 c75 w74 p1 p2 => ?_
      have g74 : Grow w65 w74 := (g135.trans' g137).trans p2 fun b hb hh => by obtain ⟨a, ha, rfl⟩ := hh; cases ha; have := hs_alloc e135; simp only at hb; omega
      rw [Nat.zero_add, List.nil_append] at p1
      rw [Nat.zero_add]
      have rn := ((Row.new e135 : Row w135 (hs w65) 24 (encP (p, qo, qc))).grow g137).keep p2 fun hh => by obtain ⟨a, ha, e⟩ := hh; cases ha; have := hs_alloc e135; simp only at e; omega
      refine ⟨_, _, _, rfl, ?_⟩
      refine run_append_row elem71 p1 rn rfl (by simp [encP, Value.oneCell']) (by simp [maxLen]; omega) (by omega) g74.size fun o82 c82 w81 p3 p4 _ => ⟨_, _, _, rfl, ?_⟩
      have g81 : Grow w65 w81 := g74.trans p4 fun b hb hh => by have := (p1.base b hh).1; omega
      have e6 : rows.flatMap encP ++ encP (p, qo, qc) = (rows ++ [(p, qo, qc)]).flatMap encP := by rw [List.flatMap_append]; simp
      rw [e6] at p3
      have q181 := q165.grow g81
      have q381 := q365.grow g81
      refine ⟨q181.there (by simp), fun w85 e85 => ?_⟩
      have s85 : Only (fun b => b = hs w) w81 w85 := only_set e85
      have own85 := p3.keep s85 fun b hb e => by have := (p3.base b hb).1; omega
      refine give (q181.set e85) (q381.keep s85 (by omega)) fun wY gY => ?_
      have gg : Grow w wY := ((G65.trans' g81).trans s85 fun b hb e => by omega).trans gY fun b hb e => by omega
      have ownY := own85.keep gY fun b hb e => by have := (p3.base b hb).1; omega
      refine ⟨_, _, none, _, _, L ++ [p], hE', hgn, hr, by rw [hput], fun _ => rfl, fun hne => absurd hput hne, prots_book h gg (ownY.mono z65) (rows := rows ++ [(p, qo, qc)]) (by simp [hrows]) hcP (fun x hx => ?_) (by simp [hrl]), gg⟩
      rcases List.mem_append.1 hx with hx | hx
      · exact (hqs x hx).grow gg
      · rw [List.mem_singleton] at hx; rw [hx]; exact hq.grow gg
end

theorem append_recs' {α : Type} {f : α → List Value} {k : Nat} (hk : ∀ m, (f m).length = k) {P : Program} {w : World} {B t ty T bytes n c c2 m : Nat} {o o2 : Option Addr} {xs ys : List α} {A : Nat → Prop} {K : Value → World → Prop} (hm : ys.length = m) (he : Elem P t T k bytes) (h0 : 0 < k) (hown : Own w B T k o n c (xs.flatMap f)) (hn : Recs w A o2 k (ys.map f))
    (h1 : ∀ u ∈ ys.flatMap f, u.oneCell' = true) (h63 : n + m ≤ maxLen) (hb : (n + m) * bytes ≤ 140737488355328) (hbase : B ≤ hs w)
    (h : ∀ o' c' w', Own w' B T k o' (n + m) c' ((xs ++ ys).flatMap f) → Only (inBlock o) w w' → K (.slice o' (n + m) c') w') :
    RunOk P (Hold (Builtin.append_ #[t, t] ty #[.slice o n c, .slice o2 m c2])) w K := by
  subst hm
  exact append_recs hk he h0 hown hn h1 h63 hb hbase h
section
variable {w : World} {E : Nat → Prop} {oL oP : Option Addr} {cL cP : Nat} {L : List Prot} {P : List Pn}
theorem refFree_c (call : Int) (hlP : P.length ≤ 1000) (hcP : P.length ≤ cP) (hone : (P.map (·.call)).Nodup) (h : Bk w E oL oP L P) :
    Calls Try.prog 88 #[bookV oL L.length cL oP P.length cP, .int .i64 call] w fun e w' => ∃ v, e = .returned (.tuple #[v, .bool (freeStep P call).2]) ∧ Gave w w' E L (freeStep P call).1 v ∧ Grow w w' := by
  refine nf88 oL L.length cL oP P.length cP call w _ fun w1 e1 w3 e3 => ?_
  have g1 : Grow w w1 := only_alloc e1
  have g3 : Grow w1 w3 := only_alloc e3
  have r1 := (Row.new e1).grow g3
  have r3 := Row.new e3
  have G3 := g1.trans' g3
  have z1 := hs_alloc e1
  have h3 := h.grow G3
  refine ⟨_, _, _, r1.cell rfl, _, _, _, r1.cell rfl, (refPin_c call L.length hlP h3.p).mono ?_⟩
  rintro _ w4 ⟨x, hx, rfl, g4⟩
  have q1 := r1.grow g4
  have q3 := r3.grow g4
  have G4 := G3.trans' g4
  refine ⟨_, rfl, fun hneg => give q1 q3 fun wY gY => ?_, fun hpos w5 e5 => ?_⟩
  · have hno : ∀ p, p ∈ P → p.call ≠ call := by
      cases hx with
      | none hno => exact hno
      | some i hi hc => have := dT hneg; omega
    have e : freeStep P call = (P, false) := by unfold freeStep; rw [pinned_not hno]; rfl
    have gg : Grow w wY := G4.trans gY fun b hb e => by omega
    refine ⟨_, by rw [e], ?_, gg⟩
    rw [e]; exact same_book h gg hcP
  · cases hx with
    | none hno => have := dF hpos; omega
    | some i hi hc =>
      have e : freeStep P call = (P.filter (fun p => !decide (p.call = call)), true) := by unfold freeStep; rw [pinned_of (List.getElem_mem hi) hc]; rfl
      have g5 : Grow w4 w5 := only_drew e5
      have p1 := q1.grow g5
      have p3 := q3.grow g5
      have G5 := G4.trans' g5
      have z5 := G5.size
      have l1 := p1.lt
      have hw : IntKind.wrap .i64 ((i : Int) + 1) = ((i + 1 : Nat) : Int) := by rw [wr (by omega)]; omega
      rw [hw]
      simp only [toNat_cast]
      refine ⟨_, _, _, p1.cell rfl, ⟨by omega, by omega⟩, _, _, _, p1.cell rfl, ⟨by omega, by omega⟩, fun w6 e6 => ⟨kept_only (only_alloc e6 : Grow w5 w6) l1 (fun h => h), kept_only (only_alloc e6 : Grow w5 w6) l1 (fun h => h), ?_⟩⟩
      have g6 : Grow w5 w6 := only_alloc e6
      have o6 : Own w6 (hs w5) 157 3 (some ⟨hs w5, 0, none⟩) 0 0 (([] : List Pn).flatMap encPn) := (Row.new e6 : Row w6 (hs w5) 157 []).own (n := 0) (Nat.le_refl _) rfl (by simp [maxLen])
      have hrec := (h.grow (G5.trans' g6)).p
      have hsame : (if cP = 0 then oP else Option.map (fun x => x) oP) = oP := by cases oP <;> split <;> rfl
      have htl : (P.take i).length = i := by rw [List.length_take]; omega
      rw [hsame, Nat.sub_zero, Nat.sub_zero]
      refine append_recs' encPn_len (ys := P.take i) htl elem72 (by omega) o6 (by rw [List.map_take]; exact Recs.take hrec) encPn_one (by simp [maxLen]; omega) (by omega) g6.size fun o7 c7 w7 p7 s7 => ?_
      have g7 : Grow w5 w7 := g6.trans s7 fun b hb hh => by obtain ⟨a, ha, rfl⟩ := hh; cases ha; simp at hb
      rw [List.nil_append] at p7
      refine ⟨_, _, _, rfl, kept_only g7 l1 (fun h => h), ?_⟩
      have hrec7 := (h.grow (G5.trans' g7)).p
      have hdl : (P.drop (i + 1)).length = P.length - (i + 1) := List.length_drop
      have hd : Recs w7 E (if cP = i + 1 then oP else Option.map (fun x : Addr => x.add ((i + 1) * 3)) oP) 3 ((P.drop (i + 1)).map encPn) := by
        by_cases hz : cP = i + 1
        · have : P.drop (i + 1) = [] := List.drop_eq_nil_of_le (by omega)
          rw [this]; exact Recs.nil _ _ _ _
        · rw [if_neg hz, List.map_drop]
          obtain ⟨a, ha, -⟩ := pn_get hrec7 hi
          subst ha
          exact Recs.drop hrec7
      refine append_recs' encPn_len (ys := P.drop (i + 1)) hdl elem72 (by omega) p7 hd encPn_one (by simp [maxLen]; omega) (by omega) g7.size fun o8 c8 w8 p8 s8 => ⟨_, _, _, rfl, ?_⟩
      have g8 : Grow w5 w8 := g7.trans s8 fun b hb hh => by have := (p7.base b hh).1; omega
      have q18 := p1.grow g8
      have q38 := p3.grow g8
      refine ⟨q18.there (by simp), fun w9 e9 => ?_⟩
      have s9 : Only (fun b => b = hs w) w8 w9 := only_set e9
      have z4 := (g3.trans' g4).size
      have z5' := g5.size
      have p9 := p8.keep s9 fun b hb e => by have := (p8.base b hb).1; omega
      refine give (q18.set e9) (q38.keep s9 (by omega)) fun wY gY => ?_
      have gg : Grow w wY := ((G5.trans' g8).trans s9 fun b hb e => by omega).trans gY fun b hb e => by omega
      have z3 := hs_alloc e3
      have z4' := g4.size
      have pY := p9.keep gY fun b hb e => by have := (p8.base b hb).1; omega
      have her : P.take i ++ P.drop (i + 1) = P.filter (fun p => !decide (p.call = call)) := by
        rw [← hc, ← erase_filter hone (List.getElem?_eq_getElem hi), List.eraseIdx_eq_take_drop_succ]
      rw [her] at pY
      refine ⟨_, by rw [e], ?_, gg⟩
      rw [e]
      exact pins_book h gg (pY.mono z5) (by rw [← her]; simp; omega)
theorem append_prot {B b n c cx : Nat} {o : Option Addr} {xs : List PR} {x : PR} {K : Value → World → Prop} (hown : Own w B 24 3 o n c (xs.flatMap encP)) (hrow : Row w b 24 (encP x)) (hn : n ≤ 100000) (hbase : B ≤ hs w)
    (h : ∀ o' c' w', Own w' B 24 3 o' (n + 1) c' ((xs ++ [x]).flatMap encP) → Only (inBlock o) w w' → K (.slice o' (n + 1) c') w') :
    RunOk Try.prog (Hold (Builtin.append_ #[71, 71] 71 #[.slice o n c, .slice (some ⟨b, 0, none⟩) 1 cx])) w K :=
  run_append_row elem71 hown hrow rfl (by simp [encP, Value.oneCell']) (by simp [maxLen]; omega) (by omega) hbase fun o' c' w' h1 h2 _ => h o' c' w' (by rw [List.flatMap_append]; simpa using h1) h2
set_option maxHeartbeats 4000000 in
theorem refDrop_c (n : ByteArray) (v : Int) (hl : L.length ≤ 1000) (hlP : P.length ≤ 1000) (hcP : P.length ≤ cP) (h : Bk w E oL oP L P) :
    Calls Try.prog 89 #[bookV oL L.length cL oP P.length cP, .string n, .int .i64 v] w fun e w' => ∃ g r b L', IsGet L n v g ∧ IsNew L n r ∧ e = .returned (.tuple #[b, .int .i64 (dropE g r P n v)]) ∧
      (dropE g r P n v = 0 → L' = L.filter (offB n v)) ∧ (dropE g r P n v ≠ 0 → L' = L) ∧ Gave w w' E L' P b ∧ Grow w w' := by
  refine nf89 oL L.length cL oP P.length cP n v w _ fun w1 e1 w3 e3 => ?_
  have g1 : Grow w w1 := only_alloc e1
  have g3 : Grow w1 w3 := only_alloc e3
  have r1 := (Row.new e1).grow g3
  have r3 := Row.new e3
  have G3 := g1.trans' g3
  have z1 := hs_alloc e1
  have z3 := hs_alloc e3
  have h3 := h.grow G3
  have kept : ∀ {w' : World} {g r : Option Prot} {y : Int}, IsGet L n v g → IsNew L n r → y = dropE g r P n v → y ≠ 0 → Grow w w' → ∃ g r b L', IsGet L n v g ∧ IsNew L n r ∧ Ending.returned (.tuple #[bookV oL L.length cL oP P.length cP, .int .i64 y]) = .returned (.tuple #[b, .int .i64 (dropE g r P n v)]) ∧
      (dropE g r P n v = 0 → L' = L.filter (offB n v)) ∧ (dropE g r P n v ≠ 0 → L' = L) ∧ Gave w w' E L' P b ∧ Grow w w' := fun {w' g r y} hg hr e hy gr =>
    ⟨g, r, bookV oL L.length cL oP P.length cP, L, hg, hr, by rw [e], fun h0 => absurd (e.trans h0) hy, fun _ => rfl, same_book h gr hcP, gr⟩
  refine ⟨_, _, _, r1.cell rfl, _, _, _, r1.cell rfl, (refGet_c n v P.length hl h3.es h3.l).mono ?_⟩
  rintro _ w8 ⟨g, hg, ⟨o8, c8, rfl, hq8⟩, g8⟩
  have G8 := G3.trans' g8
  have q18 := r1.grow g8
  have q38 := r3.grow g8
  refine ⟨_, _, _, _, _, _, rfl, fun hb w9 e9 => ⟨(Row.new e9).there (by simp), fun w10 e10 => ?_⟩, fun hb w9 e9 => ⟨(Row.new e9).there (by simp), fun w10 e10 => ?_⟩⟩
  rotate_left
  · obtain ⟨r10, g10⟩ := loc e9 e10 rfl
    refine give (q18.grow g10) (q38.grow g10) fun wY gY => ?_
    have gg : Grow w wY := (G8.trans' g10).trans gY fun b hb e => by omega
    obtain ⟨r0, hr0⟩ := new_exists L n
    have hgn : g = none := by cases g with | none => rfl | some u => cases hb
    exact kept hg hr0 (by unfold dropE; rw [hgn]; rfl) (by decide) gg
  obtain ⟨r10, g10⟩ := loc e9 e10 rfl
  obtain ⟨u, rfl⟩ : ∃ u, g = some u := by cases g with | none => cases hb | some u => exact ⟨u, rfl⟩
  have G10 := G8.trans' g10
  have q110 := q18.grow g10
  have q310 := q38.grow g10
  have h10 := h.grow G10
  refine ⟨_, _, _, q110.cell rfl, _, _, _, q110.cell rfl, (refNew_c n P.length hl h10.es h10.l).mono ?_⟩
  rintro _ w11 ⟨r, hr, ⟨o11, c11, rfl, hq11⟩, g11⟩
  have G11 := G10.trans' g11
  have q111 := q110.grow g11
  have q311 := q310.grow g11
  refine ⟨_, _, _, _, _, _, rfl, fun hb w12 e12 => ⟨(Row.new e12).there (by simp), fun w13 e13 => ?_⟩, fun hb w12 e12 => ⟨(Row.new e12).there (by simp), fun w13 e13 => ?_⟩⟩
  all_goals
    obtain ⟨r13, g13⟩ := loc e12 e13 rfl
    have G13 := G11.trans' g13
    have q113 := q111.grow g13
    have q313 := q311.grow g13
    refine ⟨_, r13.cell rfl, fun hv => give q113 q313 fun wY gY => ?_, fun hv => ?_⟩
    · have gg : Grow w wY := G13.trans gY fun b hb e => by omega
      exact kept hg hr (by unfold dropE; rw [if_neg (by simp), if_pos (dT hv)]) (by decide) gg
    have hd : dropE (some u) r P n v = if busy P n v = true then 10 else 0 := by
      unfold dropE
      rw [if_neg (by simp), if_neg (dF hv)]
    refine ⟨fun k x w' => ∃ j : Nat, x = (j : Int) ∧ j ≤ P.length ∧ k = P.length - j ∧ (∀ p, p ∈ P.take j → matchB n v p = false) ∧ Grow w13 w', ⟨_, 0, rfl, Nat.zero_le _, rfl, by simp, Only.refl _ _⟩, ?_⟩
    rintro k _ w14 x ⟨j, rfl, hj, rfl, hno, g14⟩
    have q114 := q113.grow g14
    have q314 := q313.grow g14
    have G14 := G13.trans' g14
    have h14 := h.grow G14
    refine ⟨_, _, _, q114.cell rfl, fun hlt => ?_, fun hge => ?_⟩
    · have hlt : j < P.length := by have := dT hlt; omega
      obtain ⟨a, ha, -, -, c1, c2⟩ := pn_get h14.p hlt
      have next : matchB n v P[j] = false → ∃ m, m < P.length - j ∧ ∃ j' : Nat, IntKind.wrap .i64 ((j : Int) + 1) = (j' : Int) ∧ j' ≤ P.length ∧ m = P.length - j' ∧ (∀ p, p ∈ P.take j' → matchB n v p = false) ∧ Grow w13 w14 := fun hm =>
        ⟨_, by omega, j + 1, by rw [wr (by omega)]; omega, hlt, rfl, fun p hp => by
          rw [take_succ' hlt] at hp
          rcases List.mem_append.1 hp with hp | hp
          · exact hno p hp
          · rw [List.mem_singleton] at hp; rw [hp]; exact hm, g14⟩
      refine ⟨_, _, _, q114.cell rfl, a, ha, ⟨by omega, by omega⟩, _, c1, fun h1 => ⟨_, _, _, q114.cell rfl, a, ha, ⟨by omega, by omega⟩, _, c2, fun h2 => give q114 q314 fun wY gY => ?_, fun h2 => next ?_⟩, fun h1 => next ?_⟩
      · have gg : Grow w wY := G14.trans gY fun b hb e => by omega
        have hb : busy P n v = true := List.any_eq_true.2 ⟨P[j], List.getElem_mem hlt, by rw [h1, h2]; rfl⟩
        rw [hb, if_pos rfl] at hd
        exact kept hg hr hd.symm (by decide) gg
      · unfold matchB; rw [h1, h2]; rfl
      · unfold matchB; rw [h1]; rfl
    · obtain rfl : j = P.length := by have := dF hge; omega
      rw [List.take_length] at hno
      have hb : busy P n v = false := by
        unfold busy
        rw [List.any_eq_false]
        intro p hp hm
        have := hno p hp
        unfold matchB at this
        rw [this] at hm; cases hm
      rw [hb, if_neg Bool.false_ne_true] at hd
      refine ⟨fun k o n' c x w' => ∃ (i : Nat) (rows : List PR), x = (i : Int) ∧ i ≤ L.length ∧ k = L.length - i ∧ n' = rows.length ∧ rows.length ≤ i ∧ rows.map (·.1) = (L.take i).filter (offB n v) ∧ (∀ x, x ∈ rows → Qs w14 E x.2.1 x.1.qs) ∧ Own w' (hs w14) 24 3 o n' c (rows.flatMap encP) ∧ Grow w14 w',
        ⟨_, 0, [], rfl, Nat.zero_le _, rfl, rfl, Nat.zero_le _, rfl, (fun x hx => by cases hx), own_nil _ _ _ _, Only.refl _ _⟩, ?_⟩
      rintro k _ w16 o16 n16 c16 x ⟨i, rows, rfl, hi, rfl, rfl, hrl, hrw, hrq, hown, g16⟩
      have q116 := q114.grow g16
      have q316 := q314.grow g16
      have G16 := G14.trans' g16
      refine ⟨_, _, _, q116.cell rfl, fun hlt2 k116 hk => ?_, fun hge2 => ⟨q116.there (by simp), fun w17 e17 => ?_⟩⟩
      · have hlt2 : i < L.length := by have := dT hlt2; omega
        obtain ⟨a, qo, qc, ha, -, c0, c1, c2, hq⟩ := (h.grow G14).l.get hlt2
        have c0' := cell_grow g16 c0
        have c1' := cell_grow g16 c1
        have c2' := cell_grow g16 c2
        have hfil : (L.take (i + 1)).filter (offB n v) = (L.take i).filter (offB n v) ++ (if offB n v L[i] = true then [L[i]] else []) := by
          rw [take_succ' hlt2, List.filter_append, List.filter_cons]
          split <;> simp
        have app : offB n v L[i] = true → ∀ w17, w17 = w16.alloc (Obj.cells #[Value.string L[i].name, Value.int IntKind.i64 L[i].version, Value.slice qo L[i].qs.length qc] 24 (0, 0)) → RunOk Try.prog (Hold (Builtin.append_ #[71, 71] 71 #[.slice o16 rows.length c16, .slice (some ⟨hs w16, 0, none⟩) 1 1])) w17 fun v w' => ∃ o' n' c', v = .slice o' n' c' ∧ k116 o' n' c' w' := fun hoff w17 e17 => by
          have g17 : Grow w16 w17 := only_alloc e17
          have z17 := (g16.trans' g17).size
          refine append_prot (x := (L[i], qo, qc)) (hown.grow g17) (Row.new e17) (by omega) z17 fun o' c' w' h1 h2 => ⟨_, _, _, rfl, hk _ _ _ _ fun _ => ⟨_, by omega, i + 1, rows ++ [(L[i], qo, qc)], by rw [wr (by omega)]; omega, hlt2, rfl, by simp, by simp; omega, by rw [List.map_append, hrw, hfil, if_pos hoff]; rfl, fun x hx => ?_, h1, (g16.trans' g17).trans h2 fun b hb hh => ?_⟩⟩
          · rcases List.mem_append.1 hx with hx | hx
            · exact hrq x hx
            · rw [List.mem_singleton] at hx; rw [hx]; exact hq
          · have := ((hown.grow g17).base b hh).1; omega
        refine ⟨_, _, _, q116.cell rfl, a, ha, ⟨by omega, by omega⟩, _, c0', fun hne => ⟨_, _, _, q116.cell rfl, a, ha, ⟨by omega, by omega⟩, _, c0', _, c1', _, _, _, c2', fun w17 e17 => app (offB_iff.2 fun ⟨k1, _⟩ => ?_) w17 e17⟩, fun he => ⟨_, _, _, q116.cell rfl, a, ha, ⟨by omega, by omega⟩, _, c1', fun hnv => ⟨_, _, _, q116.cell rfl, a, ha, ⟨by omega, by omega⟩, _, c0', _, c1', _, _, _, c2', fun w17 e17 => app (offB_iff.2 fun ⟨_, k2⟩ => nT hnv k2) w17 e17⟩, fun hev => ?_⟩⟩
        · rw [strEq_iff.2 k1] at hne; cases hne
        · have hoff : offB n v L[i] = false := by
            cases e : offB n v L[i]
            · rfl
            · rw [Bool.not_eq_false'] at he
              exact absurd ⟨strEq_iff.1 he, nF hev⟩ (offB_iff.1 e)
          rw [hoff, if_neg Bool.false_ne_true, List.append_nil] at hfil
          exact hk _ _ _ _ fun _ => ⟨_, by omega, i + 1, rows, by rw [wr (by omega)]; omega, hlt2, rfl, rfl, by omega, by rw [hrw, hfil], hrq, hown, g16⟩
      · obtain rfl : i = L.length := by have := dF hge2; omega
        rw [List.take_length] at hrw
        have s17 : Only (fun b => b = hs w) w16 w17 := only_set e17
        have z14 := G14.size
        have z16 := g16.size
        have z8 := (g3.trans' g8).size
        have own17 := hown.keep s17 fun b hb e => by have := (hown.base b hb).1; have := (g10.trans' (g11.trans' (g13.trans' g14))).size; omega
        refine give (q116.set e17) (q316.keep s17 (by omega)) fun wY gY => ?_
        have gg : Grow w wY := (G16.trans s17 fun b hb e => by omega).trans gY fun b hb e => by omega
        have hg8 := g8.size
        have ownY := own17.keep gY fun b hb e => by have := (hown.base b hb).1; have := (g10.trans' (g11.trans' (g13.trans' g14))).size; omega
        have gE : Only (fun b => b = hs w ∨ b = hs w1) w14 wY := ((g16.only).trans s17 fun b _ e => .inl e).trans gY fun b _ e => .inr e
        refine ⟨some u, r, _, L.filter (offB n v), hg, hr, by rw [hd], fun _ => rfl, fun hne => absurd hd hne, prots_book h gg (ownY.mono z14) hrw hcP (fun x hx => (hrq x hx).keep gE fun b hb e => ?_) (by rw [← hrw]; simp), gg⟩
        have := h.es b hb
        rcases e with e | e <;> omega
end
end Go.Proofs.Ytbaacpfjecbbgaa
