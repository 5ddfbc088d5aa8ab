/- Changes of a certificate in memory. -/
import Derived.Test.YtneklhmkiememaaDoorZj
namespace Go.Proofs.YtneklhmkiememaaDoor
open Go Go.Nf

theorem u64_nat (n : Nat) (h : n ≤ 1000000) : IntKind.wrap .u64 (n : Int) = (n : Int) := by
  rw [IntKind.wrap_u64]; omega
theorem place_of (x : Int) (n : Nat) (h0 : 0 < n) (h : n ≤ 1000000) : ∃ i : Nat, i < n ∧ IntKind.wrap .i64 (Int.tmod (IntKind.wrap .u64 x) (IntKind.wrap .u64 (n : Int))) = (i : Int) := by
  rw [u64_nat n h]
  obtain ⟨u, hu⟩ : ∃ u : Nat, IntKind.wrap .u64 x = (u : Int) := by
    rw [IntKind.wrap_u64]
    exact ⟨(x % 18446744073709551616).toNat, by omega⟩
  rw [hu, tmod_cast]
  have hm := Nat.mod_lt u h0
  exact ⟨u % n, hm, wr (by omega)⟩
/-- the changed certificate, as the law sees it -/
structure Pf (w : World) (B : Nat) (o1 : Option Addr) (n1 c1 : Nat) (o2 : Option Addr) (n2 c2 : Nat) (o3 : Option Addr) (n3 c3 : Nat) (U V H : List Int) : Prop where
  row : Row w B 40 [.slice o1 n1 c1, .slice o2 n2 c2, .slice o3 n3 c3]
  u : Nums w (fun _ => True) o1 U
  v : Nums w (fun _ => True) o2 V
  h : Nums w (fun _ => True) o3 H
  len : U.length = n1 ∧ V.length = n2 ∧ H.length = n3 ∧ n1 ≤ 1000000 ∧ n2 ≤ 1000000 ∧ n3 ≤ 1000000
/-- a number is written into a slice of the call's own -/
theorem Own.put {w w' : World} {B T : Nat} {o : Option Addr} {n c : Nat} {xs : List Int} {i : Nat} {a : Addr} {v : Int} (h : Own w B T 1 o n c (intsV xs)) (hi : i < n) (ha : o = some a) (e : w' = setCells w (a.add ((i : Int).toNat * 1)) [.int .i64 v] 0) :
    Nums w' (fun _ => True) o (xs.set i v) ∧ Only (inBlock o) w w' := by
  obtain ⟨g, l, ho, hr, ht, hl, -⟩ := h.head (by omega)
  subst ho
  cases ha
  have hlen := h.length
  simp only [intsV, List.length_map] at hlen
  have hr' := hr.setAdd e
  refine ⟨fun j u hj => ?_, (only_setAdd e).mono fun k _ hk => ⟨_, rfl, hk.symm⟩⟩
  refine ⟨_, rfl, trivial, hr'.cellAdd ?_⟩
  rw [toNat_cast, toNat_cast, Nat.mul_one, Nat.mul_one]
  have hjl : j < xs.length := by
    rcases Nat.lt_or_ge j (xs.set i v).length with q | q
    · simpa using q
    · rw [List.getElem?_eq_none q] at hj; cases hj
  have hset : setFrom l i [Value.int .i64 v] = l.set i (.int .i64 v) := rfl
  rw [hset, List.getElem?_set]
  rw [List.getElem?_set] at hj
  have hjn : j < n := by omega
  by_cases q : i = j
  · subst q
    rw [if_pos rfl, if_pos (by omega)]
    rw [if_pos rfl, if_pos (by omega)] at hj
    cases hj; rfl
  · rw [if_neg q]
    rw [if_neg q] at hj
    have h1 : (l.take (n * 1))[j]? = (intsV xs)[j]? := by rw [ht]
    rw [List.getElem?_take_of_lt (by omega)] at h1
    rw [h1]
    simp [intsV, hj]
theorem Own.there1 {w : World} {B T : Nat} {o : Option Addr} {n c : Nat} {xs : List Int} {i : Nat} {a : Addr} (h : Own w B T 1 o n c (intsV xs)) (hi : i < n) (ha : o = some a) : There w (a.add ((i : Int).toNat * 1)) 1 := by
  obtain ⟨g, l, ho, hr, ht, hl, -⟩ := h.head (by omega)
  subst ho
  cases ha
  exact hr.thereAdd (by rw [toNat_cast]; omega)
/-- a price is changed: the walk -/
theorem edit_c {w : World} {B b1 j T : Nat} {l1 l2 : List Value} {T1 : Nat} {o : Option Addr} {n c : Nat} {xs : List Int} {x0 x1 x2 : Int} {K : World → Prop} (hown : Own w T 2 1 o n c (intsV xs)) (hn : 0 < n) (hn2 : n ≤ 1000000)
    (r2 : Row w B 40 l2) (hl2 : l2[j]? = some (.slice o n c)) (r1 : Row w b1 T1 l1) (hl0 : l1 = [.int .i64 x0, .int .i64 x1, .int .i64 x2])
    (hK : ∀ w' i y, i < n → Nums w' (fun _ => True) o (xs.set i y) → Only (inBlock o) w w' → K w') :
    ∀ w2 : World, w2 = w.drew → ∃ oa : Option Addr, ∃ na ca : Nat, w2.cell? ⟨B, j, none⟩ = some (.slice oa na ca) ∧ ∃ p : Int, w2.cell? ⟨b1, 1, none⟩ = some (.int .i64 p) ∧ ∃ ob : Option Addr, ∃ nb cb : Nat, w2.cell? ⟨B, j, none⟩ = some (.slice ob nb cb) ∧
      (IntKind.wrap .u64 ((nb : Nat) : Int) ≠ 0 ∧ ∃ a : Addr, oa = some a ∧ ((0 : Int) ≤ IntKind.wrap .i64 (Int.tmod (IntKind.wrap .u64 p) (IntKind.wrap .u64 ((nb : Nat) : Int))) ∧ IntKind.wrap .i64 (Int.tmod (IntKind.wrap .u64 p) (IntKind.wrap .u64 ((nb : Nat) : Int))) < ((na : Nat) : Int)) ∧
        ∃ y : Int, w2.cell? (a.add ((IntKind.wrap .i64 (Int.tmod (IntKind.wrap .u64 p) (IntKind.wrap .u64 ((nb : Nat) : Int)))).toNat * 1)) = some (.int .i64 y) ∧ ∃ z : Int, w2.cell? ⟨b1, 2, none⟩ = some (.int .i64 z) ∧
        ∃ a' : Addr, oa = some a' ∧ ((0 : Int) ≤ IntKind.wrap .i64 (Int.tmod (IntKind.wrap .u64 p) (IntKind.wrap .u64 ((nb : Nat) : Int))) ∧ IntKind.wrap .i64 (Int.tmod (IntKind.wrap .u64 p) (IntKind.wrap .u64 ((nb : Nat) : Int))) < ((na : Nat) : Int)) ∧
        (There w2 (a'.add ((IntKind.wrap .i64 (Int.tmod (IntKind.wrap .u64 p) (IntKind.wrap .u64 ((nb : Nat) : Int)))).toNat * 1)) 1 ∧
        ∀ w3 : World, w3 = setCells w2 (a'.add ((IntKind.wrap .i64 (Int.tmod (IntKind.wrap .u64 p) (IntKind.wrap .u64 ((nb : Nat) : Int)))).toNat * 1)) [.int .i64 (IntKind.wrap .i64 (y + z))] 0 → K w3)) := by
  intro w2 e2
  subst hl0
  have g2 : Grow w w2 := only_drew e2
  have r22 := r2.grow g2
  have r12 := r1.grow g2
  have own2 := hown.grow g2
  obtain ⟨i, hi, hp⟩ := place_of x1 n hn hn2
  have hlen := hown.length
  simp only [intsV, List.length_map] at hlen
  obtain ⟨a, ha, hc⟩ := Nums.get own2.nums (show i < xs.length by omega)
  refine ⟨_, _, _, r22.cell hl2, _, r12.cell rfl, _, _, _, r22.cell hl2, by rw [u64_nat n hn2]; omega, a, ha, by rw [hp]; omega, _, by rw [hp]; exact hc, _, r12.cell rfl, a, ha, by rw [hp]; omega, by rw [hp]; exact Own.there1 own2 hi ha, fun w3 e3 => ?_⟩
  rw [hp] at e3
  obtain ⟨k1, k2⟩ := Own.put own2 hi ha e3
  exact hK w3 i _ hi k1 ((g2.only (S := inBlock o)).trans' k2)
theorem map_id (o : Option Addr) : Option.map (fun x : Addr => x) o = o := by cases o <;> rfl
/-- a row is taken out: the walk -/
theorem cut_c {w : World} {B b1 T : Nat} {T1 : Nat} {o o1 o2 : Option Addr} {n c n1 c1 n2 c2 : Nat} {xs : List Int} {x0 x1 x2 : Int} {K : World → Prop} (hown : Own w T 3 1 o n c (intsV xs)) (hn : 0 < n) (hn2 : n ≤ 1000000)
    (r2 : Row w B 40 [.slice o1 n1 c1, .slice o2 n2 c2, .slice o n c]) (r1 : Row w b1 T1 [.int .i64 x0, .int .i64 x1, .int .i64 x2])
    (hK : ∀ w' o' n' c' ys, n' ≤ 1000000 → ys.length = n' → Nums w' (fun _ => True) o' ys → Row w' B 40 [.slice o1 n1 c1, .slice o2 n2 c2, .slice o' n' c'] → Only (fun k => k = B) w w' → K w') :
    ∃ p : Int, w.cell? ⟨b1, 1, none⟩ = some (.int .i64 p) ∧ ∃ oz : Option Addr, ∃ nz cz : Nat, w.cell? ⟨B, 2, none⟩ = some (.slice oz nz cz) ∧ (IntKind.wrap .u64 ((nz : Nat) : Int) ≠ 0 ∧
      ∀ w2 : World, w2 = w.drew → ∃ oa : Option Addr, ∃ na ca : Nat, w2.cell? ⟨B, 2, none⟩ = some (.slice oa na ca) ∧
      (((0 : Int) ≤ IntKind.wrap .i64 (Int.tmod (IntKind.wrap .u64 p) (IntKind.wrap .u64 ((nz : Nat) : Int))) ∧ IntKind.wrap .i64 (Int.tmod (IntKind.wrap .u64 p) (IntKind.wrap .u64 ((nz : Nat) : Int))) ≤ ((ca : Nat) : Int)) ∧
      ∃ ob : Option Addr, ∃ nb cb : Nat, w2.cell? ⟨B, 2, none⟩ = some (.slice ob nb cb) ∧
      (((0 : Int) ≤ IntKind.wrap .i64 (IntKind.wrap .i64 (Int.tmod (IntKind.wrap .u64 p) (IntKind.wrap .u64 ((nz : Nat) : Int))) + 1) ∧ IntKind.wrap .i64 (IntKind.wrap .i64 (Int.tmod (IntKind.wrap .u64 p) (IntKind.wrap .u64 ((nz : Nat) : Int))) + 1) ≤ ((nb : Nat) : Int)) ∧
      Calls Tryd.prog 13 #[.slice (if ca = 0 then oa else Option.map (fun x : Addr => x) oa) ((IntKind.wrap .i64 (Int.tmod (IntKind.wrap .u64 p) (IntKind.wrap .u64 ((nz : Nat) : Int)))).toNat - 0) (ca - 0)] w2 fun e3 w3 => ∃ oc : Option Addr, ∃ nc cc : Nat, e3 = .returned (.slice oc nc cc) ∧ (Kept w2 w3 ⟨B, 2, none⟩ 1 ∧
      RunOk Tryd.prog (Hold (Builtin.append_ #[23, 23] 23 #[.slice oc nc cc, .slice (if cb = (IntKind.wrap .i64 (IntKind.wrap .i64 (Int.tmod (IntKind.wrap .u64 p) (IntKind.wrap .u64 ((nz : Nat) : Int))) + 1)).toNat then ob else Option.map (fun x : Addr => Addr.add x ((IntKind.wrap .i64 (IntKind.wrap .i64 (Int.tmod (IntKind.wrap .u64 p) (IntKind.wrap .u64 ((nz : Nat) : Int))) + 1)).toNat * 1)) ob) (nb - (IntKind.wrap .i64 (IntKind.wrap .i64 (Int.tmod (IntKind.wrap .u64 p) (IntKind.wrap .u64 ((nz : Nat) : Int))) + 1)).toNat) (cb - (IntKind.wrap .i64 (IntKind.wrap .i64 (Int.tmod (IntKind.wrap .u64 p) (IntKind.wrap .u64 ((nz : Nat) : Int))) + 1)).toNat)])) w3 fun v4 w4 =>
        ∃ od : Option Addr, ∃ nd cd : Nat, v4 = .slice od nd cd ∧ (There w4 ⟨B, 2, none⟩ 1 ∧ ∀ w5 : World, w5 = setCells w4 ⟨B, 2, none⟩ [.slice od nd cd] 0 → K w5))))) := by
  obtain ⟨i, hi, hp⟩ := place_of x1 n hn hn2
  have hp1 : IntKind.wrap .i64 (IntKind.wrap .i64 (Int.tmod (IntKind.wrap .u64 x1) (IntKind.wrap .u64 (n : Int))) + 1) = ((i + 1 : Nat) : Int) := by rw [hp, wr (by omega)]; omega
  have hlen := hown.length
  simp only [intsV, List.length_map] at hlen
  have hnc := hown.le
  obtain ⟨g, l, ho, hr, ht, hl, -⟩ := hown.head hn
  refine ⟨_, r1.cell rfl, _, _, _, r2.cell rfl, by rw [u64_nat n hn2]; omega, fun w2 e2 => ?_⟩
  have g2 : Grow w w2 := only_drew e2
  have r22 := r2.grow g2
  have lt2 := r22.lt
  have own2 := hown.grow g2
  refine ⟨_, _, _, r22.cell rfl, by rw [hp]; omega, _, _, _, r22.cell rfl, by rw [hp1]; omega, ?_⟩
  rw [hp1, hp]
  have e1 : (((i : Nat) : Int)).toNat - 0 = (xs.take i).length := by rw [List.length_take]; omega
  have nTake : Nums w2 (fun _ => True) (if c = 0 then o else Option.map (fun x : Addr => x) o) (xs.take i) := by
    rw [if_neg (by omega), map_id]
    intro j v hj
    rw [List.getElem?_take] at hj
    split at hj
    · obtain ⟨a, h1, -, h3⟩ := own2.nums j v hj
      exact ⟨a, h1, trivial, h3⟩
    · cases hj
  rw [e1]
  refine (ints_c _ _ (xs.take i) (by rw [List.length_take]; omega) w2 nTake).mono ?_
  rintro _ w3 ⟨oc, cc, rfl, a3, g3⟩
  refine ⟨_, _, _, rfl, kept_only g3 lt2 (fun h => h), ?_⟩
  have own3 := own2.grow g3
  have r23 := r22.grow g3
  have nDrop : Nums w3 (fun _ => True) (if c = (((i + 1 : Nat) : Int)).toNat then o else Option.map (fun x : Addr => Addr.add x ((((i + 1 : Nat) : Int)).toNat * 1)) o) (xs.drop (i + 1)) := by
    intro j v hj
    rw [List.getElem?_drop] at hj
    have hjl : i + 1 + j < xs.length := by
      rcases Nat.lt_or_ge (i + 1 + j) xs.length with q | q
      · exact q
      · rw [List.getElem?_eq_none q] at hj; cases hj
    rw [if_neg (by omega)]
    obtain ⟨a, h1, -, h3⟩ := own3.nums _ v hj
    subst ho
    cases h1
    refine ⟨_, rfl, trivial, ?_⟩
    rw [Addr.add_lit] at h3
    show w3.cell? (((⟨g, 0, none⟩ : Addr).add ((((i + 1 : Nat) : Int)).toNat * 1)).add (((j : Nat) : Int).toNat * 1)) = _
    rw [Addr.add_lit, Addr.add_lit]
    have : 0 + (((i + 1 : Nat) : Int)).toNat * 1 + ((j : Int)).toNat * 1 = 0 + (((i + 1 + j : Nat) : Int)).toNat * 1 := by omega
    rw [this]; exact h3
  have e2 : n - (((i + 1 : Nat) : Int)).toNat = (xs.drop (i + 1)).length := by rw [List.length_drop]; omega
  rw [e2]
  refine append_nums elem23 a3 nDrop (by rw [List.length_take, List.length_drop]; unfold maxLen; omega) (by rw [List.length_take, List.length_drop]; omega) g3.size fun o' c' w4 p1 p2 => ⟨_, _, _, rfl, ?_⟩
  have r24 : Row w4 B 40 _ := r23.keep p2 fun hb => a3.apartR r23 (by decide) hb
  refine ⟨r24.there (by simp), fun w5 e5 => ?_⟩
  have r25 := r24.set e5
  have ap : ¬ inBlock o' B := p1.apartR r24 (by decide)
  refine hK w5 o' _ c' (xs.take i ++ xs.drop (i + 1)) ?_ ?_ ?_ r25 ?_
  · rw [List.length_take, List.length_drop]; omega
  · rw [List.length_append]
  · exact Nums.any (p1.keep (only_set e5) fun b hb e => ap (e ▸ hb)).nums
  · have g4 : Grow w w4 := (g2.trans' g3).trans p2 fun k hk hb => by
      have := (a3.base k hb).1
      have := g2.size
      omega
    exact (Grow.only g4).trans' (only_set e5)
end Go.Proofs.YtneklhmkiememaaDoor
