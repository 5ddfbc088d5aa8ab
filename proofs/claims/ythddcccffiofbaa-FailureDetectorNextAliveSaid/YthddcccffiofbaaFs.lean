/- The reference's Heard and New, and Same. -/
import Derived.Test.YthddcccffiofbaaFr
namespace Go.Proofs.Ythddcccffiofbaa
open Go Go.Nf
section
variable {A : Nat → Prop}
theorem heard_c (q : Nat) (who now : Int) (d : Det) (w : World) (h : WatAt w A q d) (hlt : ∀ b, A b → b < hs w) :
    Calls Try.prog 13 #[.pointer (some ⟨q, 0, none⟩), .int .i64 who, .int .i64 now] w fun e w' =>
      e = .returned (.int .i64 (if d.other who then 0 else 1)) ∧ WatAt w' A q (d.beat who now) ∧ Only (fun k => k = q) w w' := by
  refine nf13 q who now w _ ((is_c q who d w h).mono ?_)
  rintro _ _ ⟨rfl, rfl⟩
  refine ⟨_, rfl, fun ho => ?_, fun ho => ?_⟩
  case refine_2 =>
    have ho := dF ho
    refine ⟨ret_int (by rw [if_neg ho]), ?_, Only.refl _ _⟩
    unfold Det.beat; rw [if_neg ho]; exact h
  have ho := dT ho
  obtain ⟨k, m, rfl, hk, hm⟩ := other_get ho
  have hme : d.ms[k] = m := by rw [List.getElem?_eq_getElem hk] at hm; simpa using hm
  have hmf := h.fit.mem m (List.mem_of_getElem? hm)
  have hmost := h.fit.most
  have hlen := h.fit.len
  have hh := h
  obtain ⟨⟨g, c, hp, hown, hgq, hgA⟩, hfit⟩ := h
  have hql := hp.lt
  refine (hold_c _ _).mono ?_
  rintro _ _ ⟨rfl, rfl⟩
  refine ⟨_, rfl, fun w8 e8 => ?_⟩
  have g8 : Grow w w8 := only_alloc e8
  have p8 := hp.grow g8
  refine ⟨_, _, _, p8.cell rfl, run_append elem55 ((Row.new (l := []) e8).own (n := 0) (Nat.le_refl _) rfl (Nat.zero_le _)) (by rw [encMs, flat_length encM_len]) (fun j u hu => (hown.grow g8).cell hu) ?_ (by unfold maxLen; omega) (by omega) (by have := hs_alloc e8; omega) ?_⟩
  · intro u hu
    obtain ⟨x, _, hx⟩ := List.mem_flatMap.1 hu
    simp only [encM, List.mem_cons, List.not_mem_nil, or_false] at hx
    rcases hx with rfl | rfl | rfl <;> rfl
  intro o' c' w9 hown9 ho9 _
  rw [Nat.zero_add, List.nil_append] at hown9
  obtain ⟨g', _, rfl, _, _, _, hg'⟩ := hown9.head (by omega)
  have g9 : Grow w w9 := g8.trans ho9 fun b hb hin => by have := inBlock_some hin; omega
  have p9 := hp.grow g9
  refine ⟨_, _, _, rfl, fun K hK => ?_⟩
  have rest : ∀ (w' : World) (m' : Mb), Row w' q 57 [.int .i64 d.self, .int .i64 d.most, .slice (some ⟨g, 0, none⟩) d.ms.length c] → Own w' (hs w) 59 3 (some ⟨g', 0, none⟩) (0 + d.ms.length) c' (encMs (d.ms.set k m')) → Grow w w' →
      m'.last = m.last → ({ m' with last := max m.last (limI now) } : Mb) = m.beat d.most (limI now) (d.sus k (limI now)) → K w' := by
    intro w' m' hp' hown' gw hl hb
    rw [Nat.zero_add] at hown'
    have hkm : (d.ms.set k m')[k]? = some m' := by simp [hk]
    have hbeat : d.beat (k : Int) now = { d with ms := d.ms.set k (m.beat d.most (limI now) (d.sus k (limI now))) } := by
      unfold Det.beat
      rw [if_pos ho, toNat_cast, hm]
    have fin : ∀ (w1 w2 : World), Row w1 q 57 [.int .i64 d.self, .int .i64 d.most, .slice (some ⟨g, 0, none⟩) d.ms.length c] → Own w1 (hs w) 59 3 (some ⟨g', 0, none⟩) d.ms.length c' (encMs (d.ms.set k (m.beat d.most (limI now) (d.sus k (limI now))))) → Grow w w1 →
        w2 = setCells w1 ⟨q, 2, none⟩ [.slice (some ⟨g', 0, none⟩) (0 + d.ms.length) c'] 0 → (Ending.returned (.int .i64 0) = .returned (.int .i64 (if d.other (k : Int) then 0 else 1)) ∧ WatAt w2 A q (d.beat (k : Int) now) ∧ Only (fun b => b = q) w w2) := by
      intro w1 w2 r1 o1 g1 e2
      rw [Nat.zero_add] at e2
      refine ⟨ret_int (by rw [if_pos ho]), ?_, g1.only.trans' (only_set e2)⟩
      rw [hbeat]
      refine ⟨⟨g', c', ?_, ?_, by omega, fun ha => by have := hlt _ ha; omega⟩, ?_⟩
      · have := r1.set e2
        simpa [setFrom] using this
      · have := (o1.mono (Nat.zero_le _)).keep (only_set e2) (fun b hb he => by have := inBlock_some hb; omega)
        simpa using this
      · rw [← hbeat]; exact hfit.beat _ _
    have key : ∀ w2, w2 = setCells w' ((⟨g', 0, none⟩ : Addr).add ((k : Int).toNat * 3)) [.int .i64 (limI now)] 0 → limI now > m'.last → Own w2 (hs w) 59 3 (some ⟨g', 0, none⟩) d.ms.length c' (encMs (d.ms.set k (m.beat d.most (limI now) (d.sus k (limI now))))) := by
      intro w2 e2 hgt
      have o2 := hown'.set e2 (by rw [toNat_cast]; simp; omega)
      have hset := flat_set encM_len (d.ms.set k m') k 0 [.int .i64 (limI now)] { m' with last := max m.last (limI now) } (by simpa using hk) (by simp) (by
        rw [List.getElem_set_self]
        simp only [encM, setFrom, List.set_cons_zero]
        congr 2
        rw [hl] at hgt
        omega)
      rw [hb, List.set_set] at hset
      rw [toNat_cast] at o2
      have e : setFrom (encMs (d.ms.set k m')) (k * 3) [.int .i64 (limI now)] = encMs (d.ms.set k (m.beat d.most (limI now) (d.sus k (limI now)))) := hset
      rw [e] at o2
      exact o2
    refine hK w' fun _ => ⟨_, rfl, ⟨by omega, by omega⟩, _, hown'.cell (enc0 hkm), fun hgt => ⟨_, rfl, ⟨by omega, by omega⟩, hown'.there (by rw [toNat_cast]; omega), fun w2 e2 => ?_⟩, fun hle => ⟨hp'.there (by simp), fun w2 e2 => ?_⟩⟩
    · have p2 := hp'.keep (only_setAdd e2) (by omega)
      have g2 : Grow w w2 := gw.trans (only_setAdd e2) fun b hb hbe => by subst hbe; omega
      exact ⟨p2.there (by simp), fun w3 e3 => fin w2 w3 p2 (key w2 e2 (dT hgt)) g2 e3⟩
    · refine fin w' w2 hp' ?_ gw e2
      have : m' = m.beat d.most (limI now) (d.sus k (limI now)) := by
        rw [← hb]
        have := dF hle
        rw [hl] at this
        have e : max m.last (limI now) = m'.last := by rw [hl]; omega
        rw [e]
      rw [← this]; exact hown'
  have h9 := hh.grow g9
  refine (rsuspected_c q k (limI now) d w9 h9).mono ?_
  rintro _ w' ⟨rfl, g'g⟩
  rw [susI_nat hk]
  have gw := g9.trans' g'g
  have own' := hown9.grow g'g
  have hp' := hp.grow gw
  refine ⟨_, rfl, fun hs' => ?_, fun hs' => ?_⟩
  case refine_2 =>
    refine rest w' m hp' ?_ gw rfl ?_
    · rw [← hme, List.set_getElem_self, Nat.zero_add]; exact own'
    · unfold Mb.beat; rw [hs']; rfl
  refine ⟨_, rfl, ⟨by omega, by omega⟩, _, own'.cell2 (enc2 hm), _, rfl, ⟨by omega, by omega⟩, own'.there2 (by rw [toNat_cast]; omega), fun w2 e2 => ?_⟩
  have o2 := own'.set2 e2 (by rw [toNat_cast]; simp; omega)
  rw [toNat_cast, encMs, flat_set encM_len d.ms k 2 _ { m with wrong := IntKind.wrap .i64 (m.wrong + 1) } hk (by simp) (by rw [hme]; rfl)] at o2
  have p2 := hp'.keep (only_setAdd2 e2) (by omega)
  have g2 : Grow w w2 := gw.trans (only_setAdd2 e2) fun b hb hbe => by subst hbe; omega
  have hk2 : ∀ m' : Mb, (d.ms.set k m')[k]? = some m' := fun m' => by simp [hk]
  refine ⟨_, rfl, ⟨by omega, by omega⟩, _, o2.cell2 (enc1 (hk2 _)), _, rfl, ⟨by omega, by omega⟩, o2.there2 (by rw [toNat_cast]; omega), fun w3 e3 => ?_⟩
  have o3 := o2.set2 e3 (by rw [toNat_cast]; simp; omega)
  rw [toNat_cast, flat_set encM_len _ k 1 _ { m with wrong := IntKind.wrap .i64 (m.wrong + 1), tmo := 2 * m.tmo } (by simpa using hk) (by simp) (by
    rw [List.getElem_set_self]
    simp only [encM, setFrom, List.set_cons_succ, List.set_cons_zero]
    rw [wr (by omega)]), List.set_set] at o3
  have p3 := p2.keep (only_setAdd2 e3) (by omega)
  have g3 : Grow w w3 := g2.trans (only_setAdd2 e3) fun b hb hbe => by subst hbe; omega
  intro w4 e4
  have o4 := o3.grow (only_drew e4)
  have p4 := p3.grow (only_drew e4)
  have g4 : Grow w w4 := g3.trans' (only_drew e4)
  refine ⟨_, rfl, ⟨by omega, by omega⟩, _, o4.cell2 (enc1 (hk2 _)), _, p4.cell rfl, fun hgt => ⟨_, p4.cell rfl, _, rfl, ⟨by omega, by omega⟩, o4.there2 (by rw [toNat_cast]; omega), fun w5 e5 => ?_⟩, fun hle => ?_⟩
  · have o5 := o4.set2 e5 (by rw [toNat_cast]; simp; omega)
    rw [toNat_cast, flat_set encM_len _ k 1 _ { m with wrong := IntKind.wrap .i64 (m.wrong + 1), tmo := d.most } (by simpa using hk) (by simp) (by
      rw [List.getElem_set_self]
      simp only [encM, setFrom, List.set_cons_succ, List.set_cons_zero]), List.set_set] at o5
    refine rest w5 { m with wrong := IntKind.wrap .i64 (m.wrong + 1), tmo := d.most } (p4.keep (only_setAdd2 e5) (by omega)) (by rw [Nat.zero_add]; exact o5) (g4.trans (only_setAdd2 e5) fun b hb hbe => by subst hbe; omega) rfl ?_
    have := dT hgt
    dsimp only at this
    unfold Mb.beat; rw [hs']
    simp only [if_true]
    rw [show min (2 * m.tmo) d.most = d.most from by omega]
  · refine rest w4 { m with wrong := IntKind.wrap .i64 (m.wrong + 1), tmo := 2 * m.tmo } p4 (by rw [Nat.zero_add]; exact o4) g4 rfl ?_
    have := dF hle
    dsimp only at this
    unfold Mb.beat; rw [hs']
    simp only [if_true]
    rw [show min (2 * m.tmo) d.most = 2 * m.tmo from by omega]

theorem rnew_no (self all patience most now : Int) (w : World) (h : ¬ okMade self all patience most) :
    Calls Try.prog 15 #[.int .i64 self, .int .i64 all, .int .i64 patience, .int .i64 most, .int .i64 now] w fun e w' => e = .returned (.tuple #[.pointer none, .bool false]) ∧ w = w' := by
  refine nf15 self all patience most now w _ ⟨fun _ => ⟨rfl, rfl⟩, fun a => ⟨fun _ => ⟨rfl, rfl⟩, fun b => ⟨fun _ => ⟨rfl, rfl⟩, fun c => ⟨fun _ => ⟨rfl, rfl⟩, fun d => ⟨fun _ => ⟨rfl, rfl⟩, fun e => ⟨fun _ => ⟨rfl, rfl⟩, fun f => ⟨fun _ => ⟨rfl, rfl⟩, fun g => absurd ?_ h⟩⟩⟩⟩⟩⟩⟩
  have := dF a; have := dF b; have := dF c; have := dF d; have := dF e; have := dF f; have := dF g
  unfold okMade; omega
theorem rnew_yes (self all patience most now : Int) (w : World) (h : okMade self all patience most) (hlt : ∀ b, A b → b < hs w) :
    Calls Try.prog 15 #[.int .i64 self, .int .i64 all, .int .i64 patience, .int .i64 most, .int .i64 now] w fun e w' =>
      e = .returned (.tuple #[.pointer (some ⟨hs w, 0, none⟩), .bool true]) ∧ WatAt w' A (hs w) (Det.mk0 self all patience most now) ∧ Grow w w' := by
  have ⟨h1, h2, h3, h4, h5⟩ := h
  have no : ∀ {p : Prop} [Decidable p] {q : Prop}, ¬ p → decide p = true → q := fun h k => absurd (dT k) h
  refine nf15 self all patience most now w _ ⟨no (by omega), fun _ => ⟨no (by omega), fun _ => ⟨no (by omega), fun _ => ⟨no (by omega), fun _ => ⟨no (by omega), fun _ => ⟨no (by omega), fun _ => ⟨no (by omega), fun _ => ?_⟩⟩⟩⟩⟩⟩⟩
  obtain ⟨N, hN⟩ : ∃ N : Nat, all = (N : Int) := Int.eq_ofNat_of_zero_le (by omega)
  subst hN
  intro w1 e1
  have r1 := Row.new e1
  refine ⟨fun n x w' => ∃ (j : Nat) (o : Option Addr) (c : Nat), x = (j : Int) ∧ j ≤ N ∧ n = N - j ∧ Row w' (hs w) 57 [.int .i64 self, .int .i64 most, .slice o j c] ∧ Own w' (hs w + 1) 59 3 o j c (encMs (List.replicate j { last := limI now, tmo := patience, wrong := 0 })) ∧ Grow w w', ?_, ?_⟩
  · exact ⟨_, 0, none, 0, rfl, Nat.zero_le _, rfl, r1, own_nil _ _ _ _, only_alloc e1⟩
  rintro n _ w2 x ⟨j, o, c, rfl, hj, rfl, p2, hown, g2⟩
  refine ⟨fun hl w3 e3 => ?_, fun hge => ?_⟩
  · have hl : j < N := by have := dT hl; omega
    have p3 := p2.grow (only_drew e3)
    have o3 := hown.grow (only_drew e3)
    refine ⟨_, _, _, p3.cell rfl, (hold_c now w3).mono ?_⟩
    rintro _ _ ⟨rfl, rfl⟩
    refine ⟨_, rfl, kept_same rfl, fun w4 e4 => ⟨kept_only (S := none') (only_alloc e4) p3.lt (fun h => h), ?_⟩⟩
    have p4 := p3.grow (only_alloc e4)
    have o4 := o3.grow (only_alloc e4)
    have hsz : hs w + 1 ≤ hs w4 := by have := p4.lt; omega
    refine run_append_row elem55 o4 (Row.new e4) rfl (by simp [Value.oneCell']) (by unfold maxLen; omega) (by omega) hsz ?_
    intro o' c' w5 hown5 ho5 _
    have p5 := p4.keep ho5 fun hin => by have := (o4.base _ hin).1; omega
    refine ⟨_, _, _, rfl, p5.there (by simp), fun w6 e6 => ⟨_, by omega, j + 1, o', c', by rw [wr (by omega)]; omega, hl, rfl, ?_, ?_, ?_⟩⟩
    · have := p5.set e6
      simpa [setFrom] using this
    · have := hown5.keep (only_set e6) fun b hb he => by have := (hown5.base b hb).1; omega
      have e : encMs (List.replicate j { last := limI now, tmo := patience, wrong := 0 }) ++ [.int .i64 (limI now), .int .i64 patience, .int .i64 0] = encMs (List.replicate (j + 1) { last := limI now, tmo := patience, wrong := 0 }) := by
        rw [List.replicate_succ', encMs, encMs, List.flatMap_append]; rfl
      rw [e] at this
      exact this
    · refine ((((g2.trans' (only_drew e3)).trans' (only_alloc e4)).trans ho5 fun b hb hin => ?_)).trans (only_set e6) fun b hb he => ?_
      · have := (o4.base _ hin).1; omega
      · omega
  · have := dF hge
    obtain rfl : j = N := by omega
    obtain ⟨g, l, rfl, hrow, _, _, hg⟩ := hown.head (by omega)
    refine ⟨rfl, ⟨⟨g, c, ?_, ?_, by omega, fun ha => by have := hlt _ ha; omega⟩, fit_mk0 h⟩, g2⟩
    · simpa [Det.mk0] using p2
    · simpa [Det.mk0] using hown.mono (Nat.zero_le _)
end

/-- two owned rows of numbers, compared -/
theorem same_c (o o' : Option Addr) (c c' B B' : Nat) (l l' : List Nat) (w : World) (h : Own w B 3 1 o l.length c (ints l)) (h' : Own w B' 3 1 o' l'.length c' (ints l')) (hb : l.length ≤ 1000) :
    Calls Try.prog 20 #[.slice o l.length c, .slice o' l'.length c'] w fun e w' => e = .returned (.bool (decide (l = l'))) ∧ Grow w w' := by
  refine nf20 o _ c o' _ c' w _ ⟨fun a => ⟨ret_bool ?_, Only.refl _ _⟩, fun a => ?_⟩
  · have := nT a; symm; rw [decide_eq_false_iff_not]; rintro rfl; exact this rfl
  have hl : l.length = l'.length := by have := nF a; omega
  refine ⟨fun n x w' => ∃ j : Nat, x = (j : Int) ∧ j ≤ l.length ∧ n = l.length - j ∧ l.take j = l'.take j ∧ Grow w w', ⟨_, 0, rfl, Nat.zero_le _, rfl, rfl, Only.refl _ _⟩, ?_⟩
  rintro n _ w1 x ⟨j, rfl, hj, rfl, hI, g⟩
  refine ⟨fun hlt w2 e2 => ?_, fun hge => ⟨ret_bool ?_, g⟩⟩
  case refine_2 =>
    have := dF hge
    obtain rfl : j = l.length := by omega
    symm; rw [decide_eq_true_eq]
    rw [List.take_of_length_le (Nat.le_refl _), List.take_of_length_le (by omega)] at hI
    exact hI
  have hlt : j < l.length := by have := dT hlt; omega
  have g2 : Grow w w2 := g.trans' (only_drew e2)
  have o1 := h.grow g2
  have o2 := h'.grow g2
  obtain ⟨g1, _, rfl, -⟩ := o1.head (by omega)
  obtain ⟨g3, _, rfl, -⟩ := o2.head (by omega)
  have c1 : (ints l)[(j : Int).toNat * 1]? = some (.int .i64 (l[j] : Int)) := by rw [toNat_cast, Nat.mul_one]; simp [ints, hlt]
  have c2 : (ints l')[(j : Int).toNat * 1]? = some (.int .i64 (l'[j]'(by omega) : Int)) := by rw [toNat_cast, Nat.mul_one]; simp [ints, hl ▸ hlt]
  refine ⟨_, rfl, ⟨by omega, by omega⟩, _, o1.cell c1, _, rfl, ⟨by omega, by omega⟩, _, o2.cell c2, fun hne => ⟨ret_bool ?_, g2⟩, fun heq => ⟨_, by omega, j + 1, by rw [wr (by omega)]; omega, hlt, rfl, ?_, g2⟩⟩
  · have := nT hne
    symm; rw [decide_eq_false_iff_not]
    rintro rfl; exact this rfl
  · have := nF heq
    have e : l[j] = l'[j]'(by omega) := by omega
    rw [List.take_succ_eq_append_getElem hlt, List.take_succ_eq_append_getElem (by omega), hI, e]
end Go.Proofs.Ythddcccffiofbaa
