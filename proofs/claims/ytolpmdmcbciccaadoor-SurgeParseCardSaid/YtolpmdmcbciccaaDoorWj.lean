/- Contracts: the reference's Left; the kinds that a plan asks for. -/
import Derived.Test.YtolpmdmcbciccaaDoorWi
namespace Go.Proofs.YtolpmdmcbciccaaDoor
open Go Go.Nf Go.RowKit

/-- how many are not used yet and of that kind -/
def cU : List Bool → List Int → Int → Nat
  | b :: u, k :: h, x => cU u h x + if b = false ∧ k = x then 1 else 0
  | _, _, _ => 0
theorem cU_init : ∀ (h : List Int), cU (List.replicate h.length false) h = cnt h
  | [] => by funext x; simp [cU, cnt]
  | k :: h => by
    funext x
    have ih := congrFun (cU_init h) x
    rw [List.length_cons, List.replicate_succ, cU, cnt_cons, ih]
    simp
theorem cU_set : ∀ {u : List Bool} {h : List Int} {i : Nat} {x : Int}, u[i]? = some false → h[i]? = some x → cU (u.set i true) h = dec1 (cU u h) x ∧ 0 < cU u h x
  | b :: u, k :: h, 0, x, hu, hh => by
    simp only [List.getElem?_cons_zero, Option.some.injEq] at hu hh
    subst hu; subst hh
    refine ⟨?_, by rw [cU, if_pos ⟨rfl, rfl⟩]; omega⟩
    funext y
    rw [List.set_cons_zero]
    unfold dec1
    by_cases e : y = k
    · rw [if_pos e, e, cU, cU, if_neg (by simp), if_pos ⟨rfl, rfl⟩]; omega
    · rw [if_neg e, cU, cU, if_neg (by simp), if_neg fun q => e q.2.symm]
  | b :: u, k :: h, i + 1, x, hu, hh => by
    simp only [List.getElem?_cons_succ] at hu hh
    obtain ⟨h1, h2⟩ := cU_set hu hh
    refine ⟨?_, by rw [cU]; omega⟩
    funext y
    rw [List.set_cons_succ, cU, h1]
    unfold dec1
    by_cases e : y = x
    · rw [if_pos e, if_pos e, e, cU]; omega
    · rw [if_neg e, if_neg e, cU]
theorem cU_none : ∀ {u : List Bool} {h : List Int} {x : Int}, (∀ i : Nat, u[i]? = some false → h[i]? ≠ some x) → cU u h x = 0
  | [], _, _, _ => rfl
  | _ :: _, [], _, _ => rfl
  | b :: u, k :: h, x, hn => by
    have ih := cU_none (u := u) (h := h) (x := x) fun i hi => by
      have := hn (i + 1)
      simpa using this (by simpa using hi)
    rw [cU, ih, if_neg]
    rintro ⟨rfl, rfl⟩
    exact hn 0 rfl rfl
theorem elem85b : Elem Tryd.prog 85 4 1 1 := elem_of (by kernel_rfl)
def boolsV (u : List Bool) : List Value := u.map .bool
theorem own_bool {w : World} {B n c g : Nat} {u : List Bool} {i : Nat} {b : Bool} (h : Own w B 4 1 (some ⟨g, 0, none⟩) n c (boolsV u)) (hi : u[i]? = some b) : w.cell? ((⟨g, 0, none⟩ : Addr).add ((i : Int).toNat * 1)) = some (.bool b) :=
  h.cell (by rw [toNat_cast, Nat.mul_one]; unfold boolsV; rw [List.getElem?_map, hi]; rfl)
theorem own_blen {w : World} {B n c : Nat} {o : Option Addr} {u : List Bool} (h : Own w B 4 1 o n c (boolsV u)) : n = u.length := by
  have := h.length
  unfold boolsV at this
  rw [List.length_map] at this
  omega
theorem set_bool {w w' : World} {B n c g : Nat} {u : List Bool} {i : Nat} (h : Own w B 4 1 (some ⟨g, 0, none⟩) n c (boolsV u)) (hi : i < u.length) (e : w' = setCells w ((⟨g, 0, none⟩ : Addr).add ((i : Int).toNat * 1)) [.bool true] 0) : Own w' B 4 1 (some ⟨g, 0, none⟩) n c (boolsV (u.set i true)) := by
  have hl := own_blen h
  rw [toNat_cast, Nat.mul_one] at e
  have := h.set e (by show i + 1 ≤ _; omega)
  have e2 : setFrom (boolsV u) i [.bool true] = boolsV (u.set i true) := by
    show (boolsV u).set i (.bool true) = _
    unfold boolsV
    rw [List.map_set]
  rwa [e2] at this
/-- where the search for a unit stands -/
def Seek (u u' : List Bool) (h : List Int) (x : Int) (k : Nat) (b : Bool) : Prop :=
  (b = false ∧ u' = u ∧ ∀ i : Nat, i < k → u[i]? = some false → h[i]? ≠ some x) ∨ (b = true ∧ ∃ i : Nat, u[i]? = some false ∧ h[i]? = some x ∧ u' = u.set i true)
theorem Seek.len {u u' : List Bool} {h : List Int} {x : Int} {k : Nat} {b : Bool} (s : Seek u u' h x k b) : u'.length = u.length := by
  rcases s with ⟨-, rfl, -⟩ | ⟨-, i, -, -, rfl⟩
  · rfl
  · exact List.length_set
theorem Seek.skip {u u' : List Bool} {h : List Int} {x : Int} {k : Nat} {b : Bool} (s : Seek u u' h x k b) (hn : b = false → u[k]? = some false → h[k]? ≠ some x) : Seek u u' h x (k + 1) b := by
  rcases s with ⟨hb, he, ha⟩ | ⟨hb, i, h1, h2, h3⟩
  · refine .inl ⟨hb, he, fun i hi => ?_⟩
    by_cases e : i = k
    · rw [e]; exact hn hb
    · exact ha i (by omega)
  · exact .inr ⟨hb, i, h1, h2, h3⟩
theorem Seek.done {u u' : List Bool} {h : List Int} {x : Int} {b : Bool} (s : Seek u u' h x u.length b) : (b = false ∧ u' = u ∧ cU u h x = 0) ∨ (b = true ∧ cU u' h = dec1 (cU u h) x ∧ 0 < cU u h x) := by
  rcases s with ⟨hb, he, ha⟩ | ⟨hb, i, h1, h2, rfl⟩
  · refine .inl ⟨hb, he, cU_none fun i hi => ?_⟩
    exact ha i (by
      rcases Nat.lt_or_ge i u.length with k | k
      · exact k
      · rw [List.getElem?_eq_none k] at hi; cases hi) hi
  · exact .inr ⟨hb, cU_set h1 h2⟩
set_option maxHeartbeats 4000000 in
theorem left_c (o o' : Option Addr) (c c' : Nat) (want have' : List Int) (hw : want.length ≤ 1000) (hh : have'.length ≤ 1000) (w : World) {A A' : Nat → Prop} (h : Nums w A o want) (h' : Nums w A' o' have') :
    Calls Tryd.prog 59 #[.slice o want.length c, .slice o' have'.length c'] w fun e w' => ∃ o2 c2, e = .returned (.slice o2 (unmetL want (cnt have')).length c2) ∧ Grow w w' := by
  refine nf59 o want.length c o' have'.length c' w _ ⟨fun n o n' c x w' => ∃ i : Nat, x = (i : Int) ∧ i ≤ have'.length ∧ n = have'.length - i ∧ n' = i ∧ Own w' (hs w) 4 1 o n' c (boolsV (List.replicate i false)) ∧ Grow w w', ⟨_, 0, rfl, Nat.zero_le _, rfl, rfl, own_nil _ _ _ _, Only.refl _ _⟩, ?_⟩
  rintro n _ w5 oU i cU0 x ⟨_, rfl, hi, rfl, rfl, ownU, g5⟩
  have z5 := g5.size
  refine ⟨fun hlt w12 e12 => ?_, fun hge => ?_⟩
  · have hlt : i < have'.length := by have := dT hlt; omega
    have g12 : Grow w5 w12 := only_alloc e12
    have r12 : Row w12 (hs w5) 4 [.bool false] := Row.new e12
    have z12 := g12.size
    refine run_append_row elem85b (ownU.grow g12) r12 rfl (by simp [Value.oneCell']) (by simp only [maxLen]; omega) (by omega) (by omega) fun o16 c18 w15 p1 p2 _ => ⟨_, _, _, rfl, _, by omega, i + 1, by rw [wr (by omega)]; omega, hlt, rfl, rfl, ?_, (g5.trans' g12).trans p2 fun b hb k => by have := (ownU.base b k).1; omega⟩
    have : boolsV (List.replicate (i + 1) false) = boolsV (List.replicate i false) ++ [.bool false] := by unfold boolsV; rw [List.replicate_succ', List.map_append]; rfl
    rw [this]; exact p1
  have hfull : i = have'.length := by have := dF hge; omega
  subst hfull
  have hUlow : ∀ b, inBlock oU b → hs w ≤ b ∧ b < hs w5 := fun b hb => ownU.base b hb
  refine ⟨fun n o n' c x w' => ∃ (i : Nat) (u : List Bool) (rest : List Int), x = (i : Int) ∧ i ≤ want.length ∧ n = want.length - i ∧ n' = rest.length ∧ rest.length ≤ i ∧ u.length = have'.length ∧ pass1 (cnt have') want = ((pass1 (cU u have') (want.drop i)).1, rest ++ (pass1 (cU u have') (want.drop i)).2) ∧ Own w' (hs w5) 3 1 o n' c (intsV rest) ∧ Own w' (hs w) 4 1 oU have'.length cU0 (boolsV u) ∧ Grow w w' ∧ hs w5 ≤ hs w',
    ⟨_, 0, _, [], rfl, Nat.zero_le _, rfl, rfl, Nat.le_refl _, List.length_replicate, by rw [cU_init]; simp, own_nil _ _ _ _, ownU, g5, Nat.le_refl _⟩, ?_⟩
  rintro n _ w25 o26 n27 c28 x ⟨i, u, rest, rfl, hi, rfl, rfl, hr, hul, hp, own25, ownU25, g25, z25⟩
  refine ⟨fun hlt k32 hk32 => ?_, fun hge2 => ?_⟩
  · have hlt : i < want.length := by have := dT hlt; omega
    have hwi := List.getElem?_eq_getElem hlt
    rw [List.drop_eq_getElem_cons hlt] at hp
    have hget : ∀ {w' : World}, Grow w w' → ∃ a, o = some a ∧ w'.cell? (a.add ((i : Int).toNat * 1)) = some (.int .i64 want[i]) := fun g => (h.grow g).get hlt
    generalize want[i] = x at *
    refine ⟨fun n b y w' => ∃ (k : Nat) (u' : List Bool), y = (k : Int) ∧ k ≤ have'.length ∧ n = have'.length - k ∧ Seek u u' have' x k b ∧ Own w' (hs w5) 3 1 o26 rest.length c28 (intsV rest) ∧ Own w' (hs w) 4 1 oU have'.length cU0 (boolsV u') ∧ Grow w w' ∧ hs w5 ≤ hs w',
      ⟨_, 0, u, rfl, Nat.zero_le _, rfl, .inl ⟨rfl, rfl, fun i hi => by omega⟩, own25, ownU25, g25, z25⟩, ?_⟩
    rintro n2 _ w45 b y ⟨k, u', rfl, hk, rfl, hsk, own45, ownU45, g45, z45⟩
    have hu' := hsk.len
    refine ⟨fun hlt2 k50 hk50 w57 e57 => ?_, fun hge3 => ⟨fun hb => hk32 _ _ _ _ fun _ => ?_, fun hb => ?_⟩⟩
    · have hlt2 : k < have'.length := by have := dT hlt2; omega
      have g57 : Grow w45 w57 := only_drew e57
      have own57 := own45.grow g57
      have ownU57 := ownU45.grow g57
      have G57 := g45.trans' g57
      have z57 := g57.size
      have next : ∀ (b' : Bool) (u2 : List Bool) (w' : World), Seek u u2 have' x (k + 1) b' → Own w' (hs w5) 3 1 o26 rest.length c28 (intsV rest) → Own w' (hs w) 4 1 oU have'.length cU0 (boolsV u2) → Grow w w' → hs w5 ≤ hs w' → k50 b' w' := fun b' u2 w' s1 s2 s3 s4 s5 => hk50 _ _ fun _ => ⟨_, by omega, k + 1, u2, by rw [wr (by omega)]; omega, hlt2, rfl, s1, s2, s3, s4, s5⟩
      obtain ⟨gU, lU, rfl, -⟩ := ownU57.head (by omega)
      have hbk : u'[k]? = some (u'[k]'(by omega)) := List.getElem?_eq_getElem _
      obtain ⟨a2, ha2, hc2⟩ := (h'.grow G57).get hlt2
      have hhk := List.getElem?_eq_getElem hlt2
      obtain ⟨a3, ha3, hc3⟩ := hget G57
      generalize u'[k]'(by omega) = bk at *
      generalize have'[k] = y at *
      refine ⟨fun hb => next _ _ _ (hsk.skip fun k => by rw [hb] at k; cases k) own57 ownU57 G57 (by omega), fun hb => ⟨_, rfl, ⟨by omega, by omega⟩, _, own_bool ownU57 hbk, fun hbk' => next _ _ _ (hsk.skip fun _ k2 => ?_) own57 ownU57 G57 (by omega), fun hbk' => ⟨a2, ha2, ⟨by omega, by omega⟩, _, hc2, a3, ha3, ⟨by omega, by omega⟩, _, hc3, fun he => ⟨_, rfl, ⟨by omega, by omega⟩, ownU57.there (by rw [toNat_cast]; omega), fun w71 e71 => ?_⟩, fun he => next _ _ _ (hsk.skip fun _ _ k3 => ?_) own57 ownU57 G57 (by omega)⟩⟩⟩
      · rcases hsk with ⟨-, he, -⟩ | ⟨hb2, -⟩
        · rw [he] at hbk
          rw [hbk, hbk'] at k2
          cases k2
        · rw [hb2] at hb; cases hb
      · have he : y = x := dT he
        have o71 : Only (fun b => b = gU) w57 w71 := only_setAdd e71
        have hgU := hUlow gU ⟨_, rfl, rfl⟩
        have z71 := o71.size
        refine next true (u'.set k true) w71 (.inr ⟨rfl, k, ?_, by rw [hhk, he], ?_⟩) (own57.keep o71 fun b hb e => by have := (own57.base b hb).1; omega) (set_bool ownU57 (by omega) e71) (G57.trans o71 fun b hb e => by omega) (by omega)
        · rcases hsk with ⟨-, he, -⟩ | ⟨hb2, -⟩
          · rw [← he, hbk, hbk']
          · rw [hb2] at hb; cases hb
        · rcases hsk with ⟨-, he, -⟩ | ⟨hb2, -⟩
          · rw [he]
          · rw [hb2] at hb; cases hb
      · rw [hhk] at k3
        cases k3
        exact dF he rfl
    · have hk : k = u.length := by have := dF hge3; omega
      subst hk
      rcases hsk.done with ⟨hb2, -⟩ | ⟨-, hc, hpos⟩
      · rw [hb2] at hb; cases hb
      · rw [pass1, if_pos hpos, ← hc] at hp
        exact ⟨_, by omega, i + 1, u', rest, by rw [wr (by omega)]; omega, hlt, rfl, rfl, by omega, by omega, hp, own45, ownU45, g45, z45⟩
    · have hk : k = u.length := by have := dF hge3; omega
      subst hk
      rcases hsk.done with ⟨-, he, hz⟩ | ⟨hb2, -⟩
      · subst he
        rw [pass1, if_neg (by omega)] at hp
        obtain ⟨a3, ha3, hc3⟩ := hget g45
        refine ⟨a3, ha3, ⟨by omega, by omega⟩, _, hc3, fun w79 e79 => ?_⟩
        have g79 : Grow w45 w79 := only_alloc e79
        have r79 : Row w79 (hs w45) 3 [.int .i64 x] := Row.new e79
        have z79 := g79.size
        refine push_int (own45.grow g79) r79 (by omega) (by omega) fun o83 c85 w82 p1 p2 => ⟨_, _, _, rfl, hk32 _ _ _ _ fun _ => ?_⟩
        have z82 := p2.size
        exact ⟨_, by omega, i + 1, u', rest ++ [x], by rw [wr (by omega)]; omega, hlt, rfl, by simp, by simp; omega, by omega, by rw [hp]; simp, p1, (ownU45.grow g79).keep p2 fun b hb e => by have := (own45.base b e).1; have := (hUlow b hb).2; omega, (g45.trans' g79).trans p2 fun b hb e => by have := (own45.base b e).1; omega, by omega⟩
      · rw [hb2] at hb; cases hb
  have hp : pass1 (cnt have') want = (cU u have', rest) := by
    have := dF hge2
    rw [List.drop_eq_nil_of_le (by omega), pass1, List.append_nil] at hp
    exact hp
  have hun : unmetL want (cnt have') = pass2 (cU u have' 2) rest := by unfold unmetL; rw [hp]
  rw [hun]
  have hRlow : ∀ b, inBlock o26 b → hs w5 ≤ b ∧ b < hs w25 := fun b hb => own25.base b hb
  refine ⟨fun n o n' c x w' => ∃ (i : Nat) (v : List Bool) (out : List Int), x = (i : Int) ∧ i ≤ rest.length ∧ n = rest.length - i ∧ n' = out.length ∧ out.length ≤ i ∧ v.length = have'.length ∧ pass2 (cU u have' 2) rest = out ++ pass2 (cU v have' 2) (rest.drop i) ∧ Own w' (hs w25) 3 1 o n' c (intsV out) ∧ Own w' (hs w5) 3 1 o26 rest.length c28 (intsV rest) ∧ Own w' (hs w) 4 1 oU have'.length cU0 (boolsV v) ∧ Grow w w' ∧ hs w25 ≤ hs w',
    ⟨_, 0, u, [], rfl, Nat.zero_le _, rfl, rfl, Nat.le_refl _, hul, by simp, own_nil _ _ _ _, own25, ownU25, g25, Nat.le_refl _⟩, ?_⟩
  rintro n _ w91 o92 n93 c94 x ⟨j, v, out, rfl, hj, rfl, rfl, ho, hvl, hp2, own91, ownR91, ownU91, g91, z91⟩
  refine ⟨fun hlt k98 hk98 => ?_, fun hge3 => ?_⟩
  · have hlt : j < rest.length := by have := dT hlt; omega
    rw [List.drop_eq_getElem_cons hlt] at hp2
    have hget : ∀ {w' : World}, Own w' (hs w5) 3 1 o26 rest.length c28 (intsV rest) → ∃ a, o26 = some a ∧ w'.cell? (a.add ((j : Int).toNat * 1)) = some (.int .i64 rest[j]) := fun g => g.nums.get hlt
    generalize rest[j] = x at *
    -- a unit is taken only where the kind is 1
    refine ⟨fun n b y w' => ∃ (k : Nat) (v' : List Bool), y = (k : Int) ∧ k ≤ have'.length ∧ n = have'.length - k ∧ ((x = 1 ∧ Seek v v' have' 2 k b) ∨ (x ≠ 1 ∧ b = false ∧ v' = v)) ∧ Own w' (hs w25) 3 1 o92 out.length c94 (intsV out) ∧ Own w' (hs w5) 3 1 o26 rest.length c28 (intsV rest) ∧ Own w' (hs w) 4 1 oU have'.length cU0 (boolsV v') ∧ Grow w w' ∧ hs w25 ≤ hs w',
      ⟨_, 0, v, rfl, Nat.zero_le _, rfl, ?_, own91, ownR91, ownU91, g91, z91⟩, ?_⟩
    · by_cases e : x = 1
      · exact .inl ⟨e, .inl ⟨rfl, rfl, fun i hi => by omega⟩⟩
      · exact .inr ⟨e, rfl, rfl⟩
    rintro n2 _ w111 b y ⟨k, v', rfl, hk, rfl, hsk, own111, ownR111, ownU111, g111, z111⟩
    have hv' : v'.length = v.length := by
      rcases hsk with ⟨-, h⟩ | ⟨-, -, h⟩
      · exact h.len
      · rw [h]
    refine ⟨fun hlt2 k116 hk116 => ?_, fun hge4 => ⟨fun hb => hk98 _ _ _ _ fun _ => ?_, fun hb => ?_⟩⟩
    · have hlt2 : k < have'.length := by have := dT hlt2; omega
      have next : ∀ (b' : Bool) (u2 : List Bool) (w' : World), ((x = 1 ∧ Seek v u2 have' 2 (k + 1) b') ∨ (x ≠ 1 ∧ b' = false ∧ u2 = v)) → Own w' (hs w25) 3 1 o92 out.length c94 (intsV out) → Own w' (hs w5) 3 1 o26 rest.length c28 (intsV rest) → Own w' (hs w) 4 1 oU have'.length cU0 (boolsV u2) → Grow w w' → hs w25 ≤ hs w' → k116 b' w' := fun b' u2 w' s1 s2 s3 s4 s5 s6 => hk116 _ _ fun _ => ⟨_, by omega, k + 1, u2, by rw [wr (by omega)]; omega, hlt2, rfl, s1, s2, s3, s4, s5, s6⟩
      have same : (x = 1 → b = false → v[k]? = some false → have'[k]? ≠ some 2) → k116 b w111 := fun hn => next b v' w111 (by
        rcases hsk with ⟨h1, h2⟩ | h2
        · exact .inl ⟨h1, h2.skip (hn h1)⟩
        · exact .inr h2) own111 ownR111 ownU111 g111 z111
      obtain ⟨gU, lU, rfl, -⟩ := ownU111.head (by omega)
      have hbk : v'[k]? = some (v'[k]'(by omega)) := List.getElem?_eq_getElem _
      obtain ⟨a2, ha2, hc2⟩ := (h'.grow g111).get hlt2
      have hhk := List.getElem?_eq_getElem hlt2
      obtain ⟨a3, ha3, hc3⟩ := hget ownR111
      generalize v'[k]'(by omega) = bk at *
      generalize have'[k] = y at *
      have eqv : b = false → v' = v := fun hb => by
        rcases hsk with ⟨-, ⟨-, he, -⟩ | ⟨hb2, -⟩⟩ | ⟨-, -, he⟩
        · exact he
        · rw [hb2] at hb; cases hb
        · exact he
      refine ⟨fun hb => same fun _ k => (by rw [hb] at k; cases k), fun hb => ⟨_, rfl, ⟨by omega, by omega⟩, _, own_bool ownU111 hbk, fun hbk' => same fun _ _ k2 => ?_, fun hbk' => ⟨a2, ha2, ⟨by omega, by omega⟩, _, hc2, fun he => ⟨a3, ha3, ⟨by omega, by omega⟩, _, hc3, fun he2 => ⟨_, rfl, ⟨by omega, by omega⟩, ownU111.there (by rw [toNat_cast]; omega), fun w136 e136 => ?_⟩, fun he2 => same fun k _ _ => absurd k (dF he2)⟩, fun he => same fun _ _ _ k3 => ?_⟩⟩⟩
      · rw [eqv hb] at hbk
        rw [hbk, hbk'] at k2
        cases k2
      · have he : y = 2 := dT he
        have o136 : Only (fun b => b = gU) w111 w136 := only_setAdd e136
        have hgU := hUlow gU ⟨_, rfl, rfl⟩
        have z136 := o136.size
        refine next true (v'.set k true) w136 (.inl ⟨dT he2, .inr ⟨rfl, k, by rw [← eqv hb, hbk, hbk'], by rw [hhk, he], by rw [eqv hb]⟩⟩) (own111.keep o136 fun b hb e => by have := (own111.base b hb).1; omega) (ownR111.keep o136 fun b hb e => by have := (hRlow b hb).1; omega) (set_bool ownU111 (by omega) e136) (g111.trans o136 fun b hb e => by omega) (by omega)
      · rw [hhk] at k3
        cases k3
        exact dF he rfl
    · have hk : k = v.length := by have := dF hge4; omega
      subst hk
      rcases hsk with ⟨h1, hsk⟩ | ⟨-, hb2, -⟩
      · rcases hsk.done with ⟨hb2, -⟩ | ⟨-, hc, hpos⟩
        · rw [hb2] at hb; cases hb
        · rw [pass2, if_pos ⟨h1, hpos⟩] at hp2
          have e2 : cU v' have' 2 = cU v have' 2 - 1 := by rw [hc, dec1_same]
          rw [← e2] at hp2
          exact ⟨_, by omega, j + 1, v', out, by rw [wr (by omega)]; omega, hlt, rfl, rfl, by omega, by omega, hp2, own111, ownR111, ownU111, g111, z111⟩
      · rw [hb2] at hb; cases hb
    · have hk : k = v.length := by have := dF hge4; omega
      subst hk
      have hstep : v' = v ∧ ¬ (x = 1 ∧ 0 < cU v have' 2) := by
        rcases hsk with ⟨h1, hsk⟩ | ⟨h1, -, h2⟩
        · rcases hsk.done with ⟨-, he, hz⟩ | ⟨hb2, -⟩
          · exact ⟨he, by omega⟩
          · rw [hb2] at hb; cases hb
        · exact ⟨h2, fun k => h1 k.1⟩
      obtain ⟨rfl, hno⟩ := hstep
      rw [pass2, if_neg hno] at hp2
      obtain ⟨a3, ha3, hc3⟩ := hget ownR111
      refine ⟨a3, ha3, ⟨by omega, by omega⟩, _, hc3, fun w145 e145 => ?_⟩
      have g145 : Grow w111 w145 := only_alloc e145
      have r145 : Row w145 (hs w111) 3 [.int .i64 x] := Row.new e145
      have z145 := g145.size
      refine push_int (own111.grow g145) r145 (by omega) (by omega) fun o149 c151 w148 p1 p2 => ⟨_, _, _, rfl, hk98 _ _ _ _ fun _ => ?_⟩
      have z148 := p2.size
      exact ⟨_, by omega, j + 1, v', out ++ [x], by rw [wr (by omega)]; omega, hlt, rfl, by simp, by simp; omega, by omega, by rw [hp2]; simp, p1, (ownR111.grow g145).keep p2 fun b hb e => by have := (own111.base b e).1; have := (hRlow b hb).2; omega, (ownU111.grow g145).keep p2 fun b hb e => by have := (own111.base b e).1; have := (hUlow b hb).2; omega, (g111.trans' g145).trans p2 fun b hb e => by have := (own111.base b e).1; omega, by omega⟩
  · have := dF hge3
    rw [List.drop_eq_nil_of_le (by omega), pass2, List.append_nil] at hp2
    rw [hp2]
    exact ⟨o92, c94, rfl, g91⟩
end Go.Proofs.YtolpmdmcbciccaaDoor
