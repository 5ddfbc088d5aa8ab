/- Contracts: small functions of the reference and of the laws; copies of certificates. -/
import Derived.Test.YtneklhmkiememaaDoorZg
import Derived.Test.YtneklhmkiememaaDoorNfR
namespace Go.Proofs.YtneklhmkiememaaDoor
open Go Go.Nf

theorem append_nums_at {P : Program} {w : World} {B t ty T bytes : Nat} {o o2 : Option Addr} {n c c2 : Nat} {xs ys : List Int} {A : Nat → Prop} {K : Value → World → Prop} (he : Elem P t T 1 bytes) (hown : Own w B T 1 o n c (intsV xs)) (hn : Nums w A o2 ys)
    (h63 : n + ys.length ≤ maxLen) (hbytes : (n + ys.length) * bytes ≤ 140737488355328) (hbase : B ≤ hs w)
    (h : ∀ o' c' w', Own w' B T 1 o' (n + ys.length) c' (intsV (xs ++ ys)) → Only (inBlock o) w w' → (∀ b, inBlock o' b → inBlock o b ∨ b = hs w) → K (.slice o' (n + ys.length) c') w') :
    RunOk P (Hold (Builtin.append_ #[t, t] ty #[.slice o n c, .slice o2 ys.length c2])) w K := by
  cases ys with
  | nil =>
    refine run_append_nothing' he hown.le ?_
    have := h o c w (by simpa using hown) (Only.refl _ _) fun b hb => .inl hb
    simpa using this
  | cons y ys =>
    obtain ⟨a, rfl, -⟩ := hn.get (show 0 < (y :: ys).length by simp)
    refine run_append_at he hown (news := intsV (y :: ys)) (by simp [intsV]) (fun j u hj => ?_) (intsV_one _) h63 hbytes hbase fun o' c' w' h1 h2 h3 => h o' c' w' (by simpa [intsV] using h1) h2 h3
    simp only [intsV, List.getElem?_map, Option.map_eq_some_iff] at hj
    obtain ⟨x, hx, rfl⟩ := hj
    obtain ⟨a', ha', -, hc⟩ := hn j x hx
    cases ha'
    rw [toNat_cast, Nat.mul_one] at hc
    exact hc
/-- a copy behind an empty slice in its own block -/
theorem copy_nums {w : World} {b : Nat} {o2 : Option Addr} {c2 : Nat} {ys : List Int} {A : Nat → Prop} {K : Value → World → Prop} (hr : Row w b 2 []) (hn : Nums w A o2 ys) (hl : ys.length ≤ 1000000)
    (h : ∀ o' c' w', Own w' b 2 1 o' ys.length c' (intsV ys) → Only (fun k => k = b) w w' → (∀ k, inBlock o' k → k = b ∨ k = hs w) → K (.slice o' ys.length c') w') :
    RunOk Tryd.prog (Hold (Builtin.append_ #[26, 26] 26 #[.slice (some ⟨b, 0, none⟩) 0 0, .slice o2 ys.length c2])) w K := by
  have lt := hr.lt
  have own1 : Own w b 2 1 (some ⟨b, 0, none⟩) 0 0 (intsV []) := hr.own (n := 0) (Nat.le_refl _) rfl (by simp [maxLen])
  refine append_nums_at elem26 own1 hn (by unfold maxLen; omega) (by omega) (by omega) fun o' c' w' p1 p2 p3 => ?_
  rw [Nat.zero_add] at p1 ⊢
  rw [List.nil_append] at p1
  refine h o' c' w' p1 (p2.mono fun k _ hk => ?_) fun k hk => ?_
  · obtain ⟨_, e, rfl⟩ := hk; cases e; rfl
  · rcases p3 k hk with ⟨_, e, rfl⟩ | e
    · cases e; exact .inl rfl
    · exact .inr e
def ProofAt (w : World) (B : Nat) (o1 : Option Addr) (n1 c1 : Nat) (o2 : Option Addr) (n2 c2 : Nat) (o3 : Option Addr) (n3 c3 : Nat) (U V H : List Int) : Prop :=
  Own w B 2 1 o1 n1 c1 (intsV U) ∧ Own w B 2 1 o2 n2 c2 (intsV V) ∧ Own w B 3 1 o3 n3 c3 (intsV H) ∧ ∀ b, inBlock o1 b → ¬ inBlock o2 b
def OwnPost (w : World) (U V H : List Int) (e : Ending) (w' : World) : Prop :=
  ∃ o1 c1 o2 c2 o3 c3, e = .returned (certV o1 U.length c1 o2 V.length c2 o3 H.length c3) ∧ ProofAt w' (hs w) o1 U.length c1 o2 V.length c2 o3 H.length c3 U V H ∧ Grow w w'
theorem set3 {w : World} {b : Nat} {T : TypeId} {l : List Value} (h : Row w b T l) (hl : l.length = 3) (o1 o2 o3 : Option Addr) (n1 c1 n2 c2 n3 c3 : Nat) {R : Ending → World → Prop}
    (hR : ∀ w', w' = setCells w ⟨b, 0, none⟩ [.slice o1 n1 c1, .slice o2 n2 c2, .slice o3 n3 c3] 0 → R (.returned (certV o1 n1 c1 o2 n2 c2 o3 n3 c3)) w') :
    There w ⟨b, 0, none⟩ 3 ∧ ∀ w9 : World, w9 = setCells w ⟨b, 0, none⟩ [.slice o1 n1 c1, .slice o2 n2 c2, .slice o3 n3 c3] 0 →
      ∃ oa : Option Addr, ∃ na ca : Nat, w9.cell? ⟨b, 0, none⟩ = some (.slice oa na ca) ∧ ∃ ob : Option Addr, ∃ nb cb : Nat, w9.cell? ⟨b, 1, none⟩ = some (.slice ob nb cb) ∧ ∃ oc : Option Addr, ∃ nc cc : Nat, w9.cell? ⟨b, 2, none⟩ = some (.slice oc nc cc) ∧
        R (.returned (.agg #[.slice oa na ca, .slice ob nb cb, .slice oc nc cc])) w9 := by
  refine ⟨h.there (by omega), fun w9 e9 => ?_⟩
  have r9 := h.set e9
  have key : setFrom l 0 [Value.slice o1 n1 c1, .slice o2 n2 c2, .slice o3 n3 c3] = [.slice o1 n1 c1, .slice o2 n2 c2, .slice o3 n3 c3] := by
    match l, hl with
    | [_, _, _], _ => rfl
  rw [key] at r9
  exact ⟨_, _, _, r9.cell rfl, _, _, _, r9.cell rfl, _, _, _, r9.cell rfl, hR w9 e9⟩
set_option maxHeartbeats 2000000 in
theorem own_c (oU oV oH : Option Addr) (cU cV cH : Nat) (U V H : List Int) (hU : U.length ≤ 1000000) (hV : V.length ≤ 1000000) (hH : H.length ≤ 1000000) (w : World) {A : Nat → Prop} (nU : Nums w A oU U) (nV : Nums w A oV V) (nH : Nums w A oH H) :
    Calls Tryd.prog 20 #[certV oU U.length cU oV V.length cV oH H.length cH] w (OwnPost w U V H) := by
  refine nf20 oU U.length cU oV V.length cV oH H.length cH w _ fun w1 e1 w3 e3 w5 e5 => ?_
  have r1 := Row.new e1
  have z1 := hs_alloc e1
  have z3 := hs_alloc e3
  have z5 := hs_drew e5
  have g1 : Grow w w1 := only_alloc e1
  have g3 : Grow w1 w3 := only_alloc e3
  have r3 := Row.new e3
  have G3 := g1.trans' g3
  have G5 : Grow w w5 := G3.trans' (only_drew e5)
  have p5 := (r1.grow g3).grow (only_drew e5)
  have q5 := r3.grow (only_drew e5)
  have lp := p5.lt
  refine ⟨_, _, _, p5.cell rfl, _, _, _, p5.cell rfl, _, _, _, p5.cell rfl, ?_⟩
  have fin : ∀ {wz wy : World} {o1 o2 o3 : Option Addr} {c1 c2 c3 B1 B2 B3 : Nat}, Grow w wz → Only (fun k => k = hs w1) wz wy → Own wz B1 2 1 o1 U.length c1 (intsV U) → Own wz B2 2 1 o2 V.length c2 (intsV V) → Own wz B3 3 1 o3 H.length c3 (intsV H) → hs w1 < B1 → hs w1 < B2 → hs w1 < B3 → (∀ b, inBlock o1 b → ¬ inBlock o2 b) →
      OwnPost w U V H (.returned (certV o1 U.length c1 o2 V.length c2 o3 H.length c3)) wy := fun {wz wy o1 o2 o3 c1 c2 c3 B1 B2 B3} G o a1 a2 a3 b1 b2 b3 ha =>
    ⟨_, _, _, _, _, _, rfl, ⟨(a1.keep o fun b hb e => by have := a1.base b hb; omega).mono (by omega), (a2.keep o fun b hb e => by have := a2.base b hb; omega).mono (by omega), (a3.keep o fun b hb e => by have := a3.base b hb; omega).mono (by omega), ha⟩, G.trans o fun b hb e => by omega⟩
  refine ⟨fun w16 e16 => ?_, fun w74 e74 => ?_⟩
  · have g16 : Grow w5 w16 := only_alloc e16
    have z16 := hs_alloc e16
    have r16 := Row.new e16
    have G16 := G5.trans' g16
    refine ⟨kept_only g16 (by omega) (fun h => h), kept_only g16 (by omega) (fun h => h), kept_only g16 (by omega) (fun h => h), ?_, fun w46 e46 => ?_⟩
    · refine copy_nums r16 (nU.grow G16) hU fun o1 c1 w19 a19 o19 i19 => ?_
      have O19 : Grow w5 w19 := g16.trans o19 fun b hb e => by omega
      have s19 := o19.size
      refine ⟨_, _, _, rfl, kept_only O19 (by omega) (fun h => h), kept_only O19 (by omega) (fun h => h), fun w23 e23 => ?_⟩
      have g23 : Grow w19 w23 := only_alloc e23
      have z23 := hs_alloc e23
      have r23 := Row.new e23
      have O23 := O19.trans' g23
      refine ⟨kept_only O23 (by omega) (fun h => h), kept_only O23 (by omega) (fun h => h), copy_nums r23 (nV.grow (G5.trans' O23)) hV fun o2 c2 w26 a26 o26 i26 => ?_⟩
      have O26 : Grow w5 w26 := O23.trans o26 fun b hb e => by omega
      have s26 := o26.size
      have k19 : Only (fun k => k = hs w19) w19 w26 := (g23.only (S := fun k => k = hs w19)).trans' o26
      have b19 := a19.base
      refine ⟨_, _, _, rfl, kept_only O26 (by omega) (fun h => h), (ints_c oH cH H hH w26 (nH.grow (G5.trans' O26))).mono ?_⟩
      rintro _ w31 ⟨o3, c3, rfl, a31, g31⟩
      have O31 := O26.trans' g31
      have q31 := q5.grow O31
      refine ⟨_, _, _, rfl, set3 (R := OwnPost w U V H) q31 rfl o1 o2 o3 U.length c1 V.length c2 H.length c3 fun w35 e35 => fin (G5.trans' O31) (only_set e35) ((a19.keep k19 fun b hb e => by have := b19 b hb; omega).grow g31) (a26.grow g31) a31 (by omega) (by omega) (by omega) fun b hb hb' => ?_⟩
      have := b19 b hb
      have := a26.base b hb'
      omega
    · have g46 : Grow w16 w46 := only_alloc e46
      have z46 := hs_alloc e46
      have r46 := Row.new e46
      have O46 := g16.trans' g46
      refine ⟨kept_only O46 (by omega) (fun h => h), kept_only O46 (by omega) (fun h => h), kept_only O46 (by omega) (fun h => h), copy_nums (r16.grow g46) (nU.grow (G5.trans' O46)) hU fun o1 c1 w49 a49 o49 i49 => ?_⟩
      have O49 : Grow w5 w49 := O46.trans o49 fun b hb e => by omega
      have s49 := o49.size
      have r49 := r46.keep o49 (by omega)
      have b49 := a49.base
      refine ⟨_, _, _, rfl, kept_only O49 (by omega) (fun h => h), kept_only O49 (by omega) (fun h => h), copy_nums r49 (nV.grow (G5.trans' O49)) hV fun o2 c2 w54 a54 o54 i54 => ?_⟩
      have O54 : Grow w5 w54 := O49.trans o54 fun b hb e => by omega
      have s54 := o54.size
      refine ⟨_, _, _, rfl, kept_only O54 (by omega) (fun h => h), (ints_c oH cH H hH w54 (nH.grow (G5.trans' O54))).mono ?_⟩
      rintro _ w59 ⟨o3, c3, rfl, a59, g59⟩
      have O59 := O54.trans' g59
      have q59 := q5.grow O59
      refine ⟨_, _, _, rfl, set3 (R := OwnPost w U V H) q59 rfl o1 o2 o3 U.length c1 V.length c2 H.length c3 fun w63 e63 => fin (G5.trans' O59) (only_set e63) ((a49.keep o54 fun b hb e => by rcases i49 b hb with k | k <;> omega).grow g59) (a54.grow g59) a59 (by omega) (by omega) (by omega) fun b hb hb' => ?_⟩
      have := b49 b hb
      rcases i49 b hb with k | k <;> rcases i54 b hb' with k' | k' <;> omega
  · have g74 : Grow w5 w74 := only_alloc e74
    have z74 := hs_alloc e74
    have r74 := Row.new e74
    refine ⟨kept_only g74 (by omega) (fun h => h), kept_only g74 (by omega) (fun h => h), kept_only g74 (by omega) (fun h => h), fun w76 e76 => ?_⟩
    have g76 : Grow w74 w76 := only_alloc e76
    have z76 := hs_alloc e76
    have r76 := Row.new e76
    have O76 := g74.trans' g76
    refine ⟨kept_only O76 (by omega) (fun h => h), kept_only O76 (by omega) (fun h => h), kept_only O76 (by omega) (fun h => h), copy_nums r76 (nU.grow (G5.trans' O76)) hU fun o1 c1 w79 a79 o79 i79 => ?_⟩
    have O79 : Grow w5 w79 := O76.trans o79 fun b hb e => by omega
    have s79 := o79.size
    have r79 := (r74.grow g76).keep o79 (by omega)
    have b79 := a79.base
    refine ⟨_, _, _, rfl, kept_only O79 (by omega) (fun h => h), kept_only O79 (by omega) (fun h => h), copy_nums r79 (nV.grow (G5.trans' O79)) hV fun o2 c2 w84 a84 o84 i84 => ?_⟩
    have O84 : Grow w5 w84 := O79.trans o84 fun b hb e => by omega
    have s84 := o84.size
    refine ⟨_, _, _, rfl, kept_only O84 (by omega) (fun h => h), (ints_c oH cH H hH w84 (nH.grow (G5.trans' O84))).mono ?_⟩
    rintro _ w89 ⟨o3, c3, rfl, a89, g89⟩
    have O89 := O84.trans' g89
    have q89 := q5.grow O89
    refine ⟨_, _, _, rfl, set3 (R := OwnPost w U V H) q89 rfl o1 o2 o3 U.length c1 V.length c2 H.length c3 fun w93 e93 => fin (G5.trans' O89) (only_set e93) ((a79.keep o84 fun b hb e => by rcases i79 b hb with k | k <;> omega).grow g89) (a84.grow g89) a89 (by omega) (by omega) (by omega) fun b hb hb' => ?_⟩
    have := b79 b hb
    rcases i79 b hb with k | k <;> rcases i84 b hb' with k' | k' <;> omega
theorem back_c (o1 o2 o3 : Option Addr) (n1 c1 n2 c2 n3 c3 : Nat) (w : World) : Calls Tryd.prog 17 #[certV o1 n1 c1 o2 n2 c2 o3 n3 c3] w fun e w' => e = .returned (certV o1 n1 c1 o2 n2 c2 o3 n3 c3) ∧ Grow w w' := by
  refine nf17 o1 n1 c1 o2 n2 c2 o3 n3 c3 w _ fun w1 e1 w3 e3 => ?_
  have z1 := hs_alloc e1
  have r3 := (Row.new e1).grow (only_alloc e3)
  have q3 := Row.new e3
  have G3 : Grow w w3 := (only_alloc e1).trans' (only_alloc e3)
  refine ⟨_, _, _, r3.cell rfl, _, _, _, r3.cell rfl, _, _, _, r3.cell rfl, set3 (R := fun e w' => e = .returned (certV o1 n1 c1 o2 n2 c2 o3 n3 c3) ∧ Grow w w') q3 rfl o1 o2 o3 n1 c1 n2 c2 n3 c3 fun w9 e9 => ⟨rfl, G3.trans (only_set e9) fun b hb e => by omega⟩⟩
theorem few_c (o1 o2 o3 : Option Addr) (n1 c1 n2 c2 n3 c3 : Nat) (w : World) : Calls Tryd.prog 18 #[certV o1 n1 c1 o2 n2 c2 o3 n3 c3] w fun e w' => ∃ b, e = .returned (.bool b) ∧ (b = true → n1 ≤ 70 ∧ n2 ≤ 70 ∧ n3 ≤ 70) ∧ Grow w w' := by
  refine nf18 o1 n1 c1 o2 n2 c2 o3 n3 c3 w _ fun w1 e1 => ?_
  have r1 := Row.new e1
  have g1 : Grow w w1 := only_alloc e1
  have ff : false = true → n1 ≤ 70 ∧ n2 ≤ 70 ∧ n3 ≤ 70 := fun k => by cases k
  refine ⟨_, _, _, r1.cell rfl, fun h1 => ⟨_, _, _, r1.cell rfl, fun h2 => ⟨_, _, _, r1.cell rfl, fun h3 => ⟨true, rfl, fun _ => ?_, g1⟩, fun h3 => ⟨false, rfl, ff, g1⟩⟩, fun h2 => ⟨false, rfl, ff, g1⟩⟩, fun h1 => ⟨false, rfl, ff, g1⟩⟩
  have := dT h1; have := dT h2; have := dT h3
  omega
theorem small_c (o : Option Addr) (c : Nat) (rows : List (List Int)) (w : World) {A : Nat → Prop} (h : Mat w A o rows) : Calls Tryd.prog 10 #[.slice o rows.length c] w fun e w' => ∃ b, e = .returned (.bool b) ∧ (b = true → rows.length ≤ 6 ∧ ∀ r ∈ rows, r.length ≤ 6) ∧ w = w' := by
  have ff : ∀ {P : Prop}, false = true → P := fun k => by cases k
  refine nf10 o rows.length c w _ ⟨fun h1 => ⟨false, rfl, ff, rfl⟩, fun h1 => ⟨fun n x w' => ∃ i : Nat, x = (i : Int) ∧ i ≤ rows.length ∧ n = rows.length - i ∧ (∀ k (hk : k < rows.length), k < i → rows[k].length ≤ 6) ∧ w = w', ⟨_, 0, rfl, Nat.zero_le _, rfl, fun k _ hk => (by omega), rfl⟩, ?_⟩⟩
  rintro n _ _ x ⟨i, rfl, hi, rfl, hI, rfl⟩
  have h1 := dF h1
  refine ⟨fun hlt => ?_, fun hge => ⟨true, rfl, fun _ => ⟨by omega, fun r hr => ?_⟩, rfl⟩⟩
  · have hlt : i < rows.length := by have := dT hlt; omega
    obtain ⟨ar, oi, ci, har, hcr, -⟩ := h.get hlt
    refine ⟨ar, har, ⟨by omega, by omega⟩, _, _, _, hcr, fun h2 => ⟨false, rfl, ff, rfl⟩, fun h2 => ?_⟩
    have h2 := dF h2
    have next : ∀ k (hk : k < rows.length), k < i + 1 → rows[k].length ≤ 6 := fun k hk hlt' => by
      by_cases e : k = i
      · subst e; omega
      · exact hI k hk (by omega)
    exact ⟨fun h3 => ⟨fun h4 => ⟨false, rfl, ff, rfl⟩, fun h4 => ⟨_, by omega, i + 1, by rw [wr (by omega)]; omega, hlt, rfl, next, rfl⟩⟩, fun h3 => ⟨_, by omega, i + 1, by rw [wr (by omega)]; omega, hlt, rfl, next, rfl⟩⟩
  · have hge := dF hge
    obtain ⟨k, hk, rfl⟩ := List.getElem_of_mem hr
    exact hI k hk (by omega)
end Go.Proofs.YtneklhmkiememaaDoor
