/- The laws SurgeHysteresis and SurgeDrill. -/
import Derived.Test.YtolpmdmcbciccaaDoorXc
namespace Go.Proofs.YtolpmdmcbciccaaDoor
open Go Go.Nf Go.RowKit

theorem ago_self (x : Int) : agoI x x = 0 := by unfold agoI; split <;> omega
theorem lvN_self {n k : Nat} (h : k ≤ n) : lvN n (k : Int) = k := by
  have := lvN_eq n (k : Int)
  rw [if_neg (by omega : ¬ (k : Int) < 0), if_neg (by omega)] at this
  omega
structure Calm (r : Rn) : Prop where
  calm : 0 < r.calm
  up : r.falling = false
  lv : r.level ≤ r.steps.length
/-- a level that is set when no lower one was set before -/
theorem calm_set {r : Rn} (h : Calm r) (level now : Int) : r.level ≤ (setR r level now).1.level ∧ (setR r level now).1.level ≤ r.steps.length ∧ (setR r level now).1.calm = r.calm := by
  unfold setR
  split
  · unfold fallR
    have e : sinceR r now = now := by unfold sinceR; rw [if_neg (by rw [h.up]; exact Bool.false_ne_true)]
    rw [e, ago_self, if_pos h.calm]
    exact ⟨Nat.le_refl _, h.lv, rfl⟩
  · rename_i hn
    exact ⟨Nat.le_of_not_lt hn, lvN_le _ _, rfl⟩
theorem set_same {r : Rn} (hl : r.level ≤ r.steps.length) (now : Int) : (setR r (r.level : Int) now).1.level = r.level ∧ (setR r (r.level : Int) now).1.falling = false ∧ (setR r (r.level : Int) now).1.calm = r.calm := by
  unfold setR
  rw [lvN_self hl, if_neg (Nat.lt_irrefl _)]
  exact ⟨rfl, rfl, rfl⟩
set_option maxHeartbeats 8000000 in
theorem law7_c (o : Option Addr) (c : Nat) (p : Pl) (calm : Int) (dr : Bool) (o2 : Option Addr) (c2 : Nat) (l : List Ac) (gap : Int) (hf : p.Fit) (w : World) {A A2 : Nat → Prop} (h : Lol w A o p.steps) (hl : Acs w A2 o2 l) :
    Calls Tryd.prog 7 #[madeV p o c calm dr, .slice o2 l.length c2, .int .i64 gap] w (TrueG w) := by
  have h := h.low
  refine nf7 (BA p.name) o p.steps.length c calm dr o2 l.length c2 gap w _ fun w1 e1 w3 e3 => ?_
  have g1 : Grow w w1 := only_alloc e1
  have g3 : Grow w1 w3 := only_drew e3
  have r3 : Row w3 (hs w) 39 [.string (BA p.name), .slice o p.steps.length c, .int .i64 calm, .bool dr] := (Row.new e1).grow g3
  have G3 := g1.trans' g3
  clear e1
  refine ⟨_, r3.cell rfl, _, _, _, r3.cell rfl, _, r3.cell rfl, _, r3.cell rfl, ?_⟩
  cases dr
  all_goals
    refine ⟨fun hk => ?_, fun hk => ?_⟩
    all_goals first | (exfalso; revert hk; decide) | clear hk
    refine (own_c o c p hf w3 (h.grow G3)).mono ?_
    rintro _ w13 ⟨o15, c17, rfl, hL13, g13⟩
    refine ⟨_, _, _, _, rfl, kept_only g13 r3.lt (fun h => h), kept_only g13 r3.lt (fun h => h), (new_c o15 c17 p calm _ hf w13 hL13).mono ?_⟩
    rintro _ w19 ⟨g19, hn⟩
    have g319 := g13.trans' g19
    have r19 := r3.grow g319
    have G19 := G3.trans' g319
    have z13 := (G3.trans' g13).size
    have z19 := g19.size
    have l3 := r3.lt
    have l13 := g13.size
    rcases hn with ⟨hok, t, gs, D, rfl, hR, hD⟩ | ⟨hn, rfl⟩
    · refine ⟨_, _, rfl, (awake_c w19).mono ?_⟩
      rintro _ w23 ⟨rfl, g23⟩
      have r23 := r19.grow g23
      have G23 := G19.trans' g23
      refine ⟨_, rfl, fun _ => ⟨_, r23.cell rfl, _, _, _, r23.cell rfl, (small45_c o c p hf w23 (h.grow G23)).mono ?_⟩, fun k => (by cases k)⟩
      rintro _ w31 ⟨⟨b, rfl⟩, g31⟩
      have G31 := G23.trans' g31
      have r31 := r23.grow g31
      have hR31 := (hR.grow g23).grow g31
      refine ⟨_, rfl, fun _ => ⟨fun _ => again G31, fun h40 => ⟨fun k => absurd rfl (nT k), fun _ => ⟨fun k => (by cases k), fun _ => ?_⟩⟩⟩, fun _ => again G31⟩
      have h40 := dF h40
      have hRight := right_iff.1 hok.1
      have hin : ∀ b, InRun t gs b → hs w13 ≤ b := fun b hb => (hR.lo b hb).1
      refine ⟨fun n now at' x w' => ∃ (i : Nat) (r : Rn), x = (i : Int) ∧ at' = (r.level : Int) ∧ i ≤ l.length ∧ n = l.length - i ∧ RunAt w' (hs w13) t gs D r ∧ r.steps = p.steps ∧ r.calm = calm ∧ r.falling = false ∧ r.level ≤ r.steps.length ∧ Row w' (hs w) 39 _ ∧ Grow w w',
        ⟨_, 0, startR p calm _, rfl, rfl, Nat.zero_le _, rfl, hR31, rfl, rfl, rfl, Nat.zero_le _, r31, G31⟩, ?_⟩
      rintro n _ w53 now _ x ⟨i, r, rfl, rfl, hi, rfl, R53, hst, hcalm, hfall, hlv, r53, G53⟩
      refine ⟨fun hlt => ?_, fun hge => ⟨rfl, G53⟩⟩
      have hlt : i < l.length := by have := dT hlt; omega
      obtain ⟨a, ha, hcell⟩ := Recs.atE (Recs.grow hl G53) (List.getElem?_eq_getElem hlt)
      generalize l[i] = y at *
      have c0 := hcell 0 _ rfl
      rw [add_zero] at c0
      refine ⟨a, ha, ⟨by omega, by omega⟩, _, c0, _, hcell 1 _ rfl, _, hcell 2 _ rfl, _, hcell 3 _ rfl, fun w64 e64 => ⟨(Row.new e64).there (by simp), fun w66 e66 => ?_⟩⟩
      obtain ⟨y66, g66⟩ := loc e64 e66 rfl
      have G66 := G53.trans' g66
      have r66 := r53.grow g66
      have R66 := R53.grow g66
      refine ⟨fun _ => ⟨rfl, G66⟩, fun h1 => ⟨fun _ => ⟨rfl, G66⟩, fun h2 => ⟨_, r66.cell rfl, fun _ => ⟨rfl, G66⟩, fun h3 => ⟨_, y66.cell rfl, ?_⟩⟩⟩⟩
      have h1 := dF h1
      have h2 := dF h2
      have h3 := dF h3
      rw [wr (x := 2 * gap) (by omega)] at h3
      have hfine : Fine r.steps := by rw [hst]; exact hRight.fine
      have hC : Calm r := ⟨by rw [hcalm]; omega, hfall, hlv⟩
      have hc := calm_set hC y.level now
      refine (setLevel_c y.level now hfine hlv R66).mono ?_
      rintro _ w77 ⟨o78, c80, rfl, -, R77, o77⟩
      have hst' := setR_steps r y.level now
      generalize (setR r y.level now).1 = r' at *
      generalize (setR r y.level now).2 = ls at *
      have G77 : Grow w w77 := G66.trans o77 fun b hb k => by have := hin b k; omega
      have r77 := r66.keep o77 fun k => by have := hin _ k; omega
      refine ⟨_, _, _, rfl, (level_c R77).mono ?_⟩
      rintro _ _ ⟨rfl, rfl⟩
      refine ⟨_, rfl, fun k => absurd hc.1 (by have := dT k; omega), fun _ => (level_c R77).mono ?_⟩
      rintro _ _ ⟨rfl, rfl⟩
      have hlv' : r'.level ≤ r'.steps.length := by rw [hst']; exact hc.2.1
      have hs2 := set_same hlv' (IntKind.wrap .i64 (now + gap))
      refine ⟨_, rfl, (setLevel_c (r'.level : Int) (IntKind.wrap .i64 (now + gap)) (by rw [hst']; exact hfine) hlv' R77).mono ?_⟩
      rintro _ w90 ⟨o91, c93, rfl, -, R90, o90⟩
      have hst2 := setR_steps r' (r'.level : Int) (IntKind.wrap .i64 (now + gap))
      generalize (setR r' (r'.level : Int) (IntKind.wrap .i64 (now + gap))).1 = r2 at *
      generalize (setR r' (r'.level : Int) (IntKind.wrap .i64 (now + gap))).2 = ls2 at *
      have G90 : Grow w w90 := G77.trans o90 fun b hb k => by have := hin b k; omega
      have r90 := r77.keep o90 fun k => by have := hin _ k; omega
      refine ⟨_, _, _, rfl, (level_c R90).mono ?_⟩
      rintro _ _ ⟨rfl, rfl⟩
      refine ⟨_, rfl, fun k => absurd (by rw [hs2.1]) (nT k), fun _ => ⟨_, by omega, i + 1, r2, by rw [wr (by omega)]; omega, by rw [hs2.1], hlt, rfl, R90, by rw [hst2, hst', hst], by rw [hs2.2.2, hc.2.2, hcalm], hs2.2.1, by rw [hs2.1, hst2]; exact hlv', r90, G90⟩⟩
    · refine ⟨_, _, rfl, (awake_c w19).mono ?_⟩
      rintro _ w23 ⟨rfl, g23⟩
      have r23 := r19.grow g23
      have G23 := G19.trans' g23
      refine ⟨_, rfl, fun _ => ⟨_, r23.cell rfl, _, _, _, r23.cell rfl, (small45_c o c p hf w23 (h.grow G23)).mono ?_⟩, fun k => (by cases k)⟩
      rintro _ w31 ⟨⟨b, rfl⟩, g31⟩
      have G31 := G23.trans' g31
      exact ⟨_, rfl, fun _ => ⟨fun _ => again G31, fun h40 => ⟨fun _ => again G31, fun k => absurd (nF k) (by decide)⟩⟩, fun _ => again G31⟩

/-! ### the drill -/
abbrev drilled (r : Rn) : Rn := { r with drill := true }
theorem drilled_done (r : Rn) (x : Str) : doneR (drilled r) x = (drilled (doneR r x).1, (doneR r x).2) := by
  unfold doneR drilled
  by_cases h : x ∈ r.steps.flatten ∧ r.f x = true
  · rw [if_pos h, if_pos h]
  · rw [if_neg h, if_neg h]
theorem drilled_set (r : Rn) (level now : Int) : setR (drilled r) level now = (drilled (setR r level now).1, []) := by
  unfold setR fallR raiseR sinceR
  by_cases h : lvN r.steps.length level < r.level
  · simp only [drilled, if_pos h]
    by_cases h2 : r.falling = true
    · simp only [if_pos h2]
      split <;> rfl
    · simp only [if_neg h2]
      split <;> rfl
  · simp only [drilled, if_neg h]
    rfl
structure Twins (w0 w' : World) (B1 t1 : Nat) (gs1 : List Nat) (D1 : Nat → Prop) (B2 t2 : Nat) (gs2 : List Nat) (D2 : Nat → Prop) (r : Rn) : Prop where
  one : RunAt w' B1 t1 gs1 D1 r
  two : RunAt w' B2 t2 gs2 D2 (drilled r)
  lv : r.level ≤ r.steps.length
  fine : Fine r.steps
  grow : Grow w0 w'
variable {w0 w : World} {B1 t1 : Nat} {gs1 : List Nat} {D1 : Nat → Prop} {B2 t2 : Nat} {gs2 : List Nat} {D2 : Nat → Prop} {r : Rn}
theorem Twins.up {w' : World} (h : Twins w0 w B1 t1 gs1 D1 B2 t2 gs2 D2 r) (g : Grow w w') : Twins w0 w' B1 t1 gs1 D1 B2 t2 gs2 D2 r := ⟨h.one.grow g, h.two.grow g, h.lv, h.fine, h.grow.trans' g⟩
structure Far (w0 : World) (B1 t1 : Nat) (gs1 : List Nat) (D1 : Nat → Prop) (B2 t2 : Nat) (gs2 : List Nat) (D2 : Nat → Prop) (T : Nat) : Prop where
  l1 : ∀ b, InRun t1 gs1 b → b < T
  d1 : ∀ b, D1 b → b < T
  l2 : T ≤ B2
  d2 : ∀ b, D2 b → T ≤ b
  b1 : hs w0 ≤ B1
  b2 : hs w0 ≤ B2
theorem Twins.next {w1 w2 : World} {r' : Rn} {T : Nat} (h : Twins w0 w B1 t1 gs1 D1 B2 t2 gs2 D2 r) (f : Far w0 B1 t1 gs1 D1 B2 t2 gs2 D2 T) (R : RunAt w1 B1 t1 gs1 D1 r') (o1 : Only (InRun t1 gs1) w w1) (R2 : RunAt w2 B2 t2 gs2 D2 (drilled r')) (o2 : Only (InRun t2 gs2) w1 w2) (hlv : r'.level ≤ r'.steps.length) (hf : Fine r'.steps) :
    Twins w0 w2 B1 t1 gs1 D1 B2 t2 gs2 D2 r' := by
  have i2 : ∀ b, InRun t2 gs2 b → T ≤ b := fun b hb => Nat.le_trans f.l2 (R2.lo b hb).1
  refine ⟨R.keep o2 (fun b hb k => by have := f.l1 b hb; have := i2 b k; omega) (fun b hb k => by have := f.d1 b hb; have := i2 b k; omega), R2, hlv, hf, ?_⟩
  exact (h.grow.trans o1 fun b hb k => by have := (R.lo b k).1; have := f.b1; omega).trans o2 fun b hb k => by have := (R2.lo b k).1; have := f.b2; omega
theorem Twins.mid {w1 : World} {T : Nat} (h : Twins w0 w B1 t1 gs1 D1 B2 t2 gs2 D2 r) (f : Far w0 B1 t1 gs1 D1 B2 t2 gs2 D2 T) (o1 : Only (InRun t1 gs1) w w1) : RunAt w1 B2 t2 gs2 D2 (drilled r) :=
  h.two.keep o1 (fun b hb k => by have := f.l1 b k; have := (h.two.lo b hb).1; have := f.l2; omega) fun b hb k => by have := f.l1 b k; have := f.d2 b hb; omega
set_option maxHeartbeats 8000000 in
theorem law8_c (o : Option Addr) (c : Nat) (p : Pl) (calm : Int) (dr : Bool) (o2 : Option Addr) (c2 : Nat) (l : List Ac) (hf : p.Fit) (w : World) {A A2 : Nat → Prop} (h : Lol w A o p.steps) (hl : Acs w A2 o2 l) :
    Calls Tryd.prog 8 #[madeV p o c calm dr, .slice o2 l.length c2] w (TrueG w) := by
  have h := h.low
  refine nf8 (BA p.name) o p.steps.length c calm dr o2 l.length c2 w _ fun w1 e1 => (awake_c w1).mono ?_
  have r1 : Row w1 (hs w) 39 [.string (BA p.name), .slice o p.steps.length c, .int .i64 calm, .bool dr] := Row.new e1
  have g1 : Grow w w1 := only_alloc e1
  rintro _ w4 ⟨rfl, g4⟩
  have G4 := g1.trans' g4
  have r4 := r1.grow g4
  refine ⟨_, rfl, fun _ => ⟨_, r4.cell rfl, _, _, _, r4.cell rfl, (small45_c o c p hf w4 (h.grow G4)).mono ?_⟩, fun k => (by cases k)⟩
  rintro _ w12 ⟨⟨b, rfl⟩, g12⟩
  have G12 := G4.trans' g12
  refine ⟨_, rfl, fun _ => ⟨fun _ => again G12, fun h40 w20 e20 => ?_⟩, fun _ => again G12⟩
  have h40 := dF h40
  have g20 : Grow w12 w20 := only_drew e20
  have G20 := G12.trans' g20
  have r20 := (r4.grow g12).grow g20
  refine ⟨_, r20.cell rfl, _, _, _, r20.cell rfl, _, r20.cell rfl, (own_c o c p hf w20 (h.grow G20)).mono ?_⟩
  rintro _ w28 ⟨o30, c32, rfl, hL28, g28⟩
  refine ⟨_, _, _, _, rfl, kept_only g28 r20.lt (fun h => h), (new_c o30 c32 p calm false hf w28 hL28).mono ?_⟩
  rintro _ w34 ⟨g34, hn⟩
  have G34 := (G20.trans' g28).trans' g34
  have r34 := (r20.grow g28).grow g34
  have z28 := (G20.trans' g28).size
  have z34 := g34.size
  rcases hn with ⟨hok, t, gs, D, rfl, hR, hD⟩ | ⟨hn, rfl⟩
  · refine ⟨_, _, rfl, fun w37 e37 => ?_⟩
    have g37 : Grow w34 w37 := only_drew e37
    have r37 := r34.grow g37
    have G37 := G34.trans' g37
    refine ⟨_, r37.cell rfl, _, _, _, r37.cell rfl, _, r37.cell rfl, (own_c o c p hf w37 (h.grow G37)).mono ?_⟩
    rintro _ w45 ⟨o47, c49, rfl, hL45, g45⟩
    refine ⟨_, _, _, _, rfl, kept_only g45 r37.lt (fun h => h), (new_c o47 c49 p calm true hf w45 hL45).mono ?_⟩
    rintro _ w51 ⟨g51, hn⟩
    rcases hn with ⟨-, t2, gs2, D2, rfl, hR2, hD2⟩ | ⟨hn, -⟩
    rotate_left
    · exact absurd hok hn
    have g3451 := (g37.trans' g45).trans' g51
    have z45 := (g37.trans' g45).size
    have lo := hR.lo
    have dm := hR.dm
    have far : Far w (hs w28) t gs D (hs w45) t2 gs2 D2 (hs w34) := ⟨fun b hb => (lo b hb).2, fun b hb => (dm b hb).1, by omega, fun b hb => by have := hD2 b hb; omega, by omega, by omega⟩
    have hRight := right_iff.1 hok.1
    have tw : Twins w w51 (hs w28) t gs D (hs w45) t2 gs2 D2 (startR p calm false) := ⟨hR.grow g3451, hR2, Nat.zero_le _, hRight.fine, G34.trans' g3451⟩
    refine ⟨_, _, rfl, fun k => absurd rfl (nT k), fun _ => ⟨fun k => absurd rfl (nT k), fun _ => ⟨fun k => (by cases k), fun _ => ⟨fun k => (by cases k), fun _ => ?_⟩⟩⟩⟩
    refine ⟨fun n x w' => ∃ (i : Nat) (r : Rn), x = (i : Int) ∧ i ≤ l.length ∧ n = l.length - i ∧ Twins w w' (hs w28) t gs D (hs w45) t2 gs2 D2 r, ⟨_, 0, _, rfl, Nat.zero_le _, rfl, tw⟩, ?_⟩
    rintro n _ w74 x ⟨i, r, rfl, hi, rfl, hb⟩
    refine ⟨fun hlt => ?_, fun hge => ⟨rfl, hb.grow⟩⟩
    have hlt : i < l.length := by have := dT hlt; omega
    obtain ⟨a, ha, hcell⟩ := Recs.atE (Recs.grow hl hb.grow) (List.getElem?_eq_getElem hlt)
    generalize l[i] = y at *
    have c0 := hcell 0 _ rfl
    rw [add_zero] at c0
    refine ⟨a, ha, ⟨by omega, by omega⟩, _, c0, _, hcell 1 _ rfl, _, hcell 2 _ rfl, _, hcell 3 _ rfl, fun w83 e83 => ⟨(Row.new e83).there (by simp), fun w85 e85 k87 hk87 => ?_⟩⟩
    obtain ⟨r85, g85⟩ := loc e83 e85 rfl
    have hb85 := hb.up g85
    have inN : ¬ InRun t gs (hs w74) := fun k => by have := (hb.one.lo _ k).2; omega
    have inN2 : ¬ InRun t2 gs2 (hs w74) := fun k => by have := (hb.two.lo _ k).2; omega
    have next : ∀ (w89 : World) (r' : Rn), Twins w w89 (hs w28) t gs D (hs w45) t2 gs2 D2 r' → k87 w89 := by
      intro w89 r' hb'
      refine hk87 w89 fun _ => (level_c hb'.one).mono ?_
      rintro _ _ ⟨rfl, rfl⟩
      refine ⟨_, rfl, (level_c hb'.two).mono ?_⟩
      rintro _ _ ⟨rfl, rfl⟩
      refine ⟨_, rfl, fun k => absurd rfl (nT k), fun _ => (openSteps_c hb'.fine hb'.one).mono ?_⟩
      rintro _ w101 ⟨o102, c104, rfl, hS101, g101⟩
      have hb2 := hb'.up g101
      refine ⟨_, _, _, rfl, (openSteps_c (show Fine (drilled r').steps from hb2.fine) hb2.two).mono ?_⟩
      rintro _ w106 ⟨o107, c109, rfl, hS106, g106⟩
      have hlen : (openL r').length ≤ 9223372036854775806 := by
        unfold openL
        have := List.length_filter_le r'.f r'.steps.flatten
        have := flat_len hb'.fine
        omega
      refine ⟨_, _, _, rfl, (texts_c o102 o107 c104 c109 (openL r') (openL r') hlen w106 (Recs.grow hS101 g106) hS106).mono ?_⟩
      rintro _ w111 ⟨rfl, g111⟩
      exact ⟨_, rfl, fun _ => ⟨_, by omega, i + 1, r', by rw [wr (by omega)]; omega, hlt, rfl, (hb2.up g106).up g111⟩, fun k => absurd rfl (dF k)⟩
    refine ⟨_, r85.cell rfl, fun hk1 w118 e118 => ?_, fun hk1 => ?_⟩
    · have g118 : Grow w85 w118 := only_drew e118
      have hb118 := hb85.up g118
      have r118 := r85.grow g118
      refine ⟨_, r118.cell rfl, _, r118.cell rfl, (complete_c y.step hb118.fine hb118.one).mono ?_⟩
      rintro _ w123 ⟨rfl, R123, o123⟩
      have T123 := hb118.mid far o123
      refine ⟨_, rfl, kept_only o123 r118.lt inN, (complete_c y.step (show Fine (drilled r).steps from hb118.fine) T123).mono ?_⟩
      rw [drilled_done]
      rintro _ w126 ⟨rfl, R126, o126⟩
      exact ⟨_, rfl, fun k => absurd rfl (nT k), fun _ => next w126 _ (hb118.next far R123 o123 R126 o126 (by rw [doneR_level, doneR_steps]; exact hb118.lv) (by rw [doneR_steps]; exact hb118.fine))⟩
    · refine ⟨_, r85.cell rfl, _, r85.cell rfl, (setLevel_c y.level y.now hb85.fine hb85.lv hb85.one).mono ?_⟩
      rintro _ w134 ⟨o135, c137, rfl, -, R134, o134⟩
      have T134 := hb85.mid far o134
      have r134 := r85.keep o134 inN
      have hlv : (setR r y.level y.now).1.level ≤ (setR r y.level y.now).1.steps.length := by
        rw [setR_steps]
        unfold setR fallR raiseR
        have := lvN_le r.steps.length y.level
        have := hb85.lv
        repeat' split
        all_goals first | assumption | (show lvN _ _ ≤ _; omega)
      refine ⟨_, _, _, rfl, _, r134.cell rfl, _, r134.cell rfl, (setLevel_c y.level y.now (show Fine (drilled r).steps from hb85.fine) (show (drilled r).level ≤ (drilled r).steps.length from hb85.lv) T134).mono ?_⟩
      rw [drilled_set]
      rintro _ w141 ⟨o142, c144, rfl, -, R141, o141⟩
      exact ⟨_, _, _, rfl, fun k => absurd rfl (nT k), fun _ => next w141 _ (hb85.next far R134 o134 R141 o141 hlv (by rw [setR_steps]; exact hb85.fine))⟩
  · refine ⟨_, _, rfl, fun w37 e37 => ?_⟩
    have g37 : Grow w34 w37 := only_drew e37
    have r37 := r34.grow g37
    have G37 := G34.trans' g37
    refine ⟨_, r37.cell rfl, _, _, _, r37.cell rfl, _, r37.cell rfl, (own_c o c p hf w37 (h.grow G37)).mono ?_⟩
    rintro _ w45 ⟨o47, c49, rfl, hL45, g45⟩
    refine ⟨_, _, _, _, rfl, kept_only g45 r37.lt (fun h => h), (new_c o47 c49 p calm true hf w45 hL45).mono ?_⟩
    rintro _ w51 ⟨g51, hn2⟩
    rcases hn2 with ⟨hn2, -⟩ | ⟨-, rfl⟩
    · exact absurd hn2 hn
    exact ⟨_, _, rfl, fun _ => ⟨fun _ => ⟨rfl, (G37.trans' g45).trans' g51⟩, fun k => absurd rfl (dF k)⟩, fun k => absurd (nF k) (by decide)⟩
end Go.Proofs.YtolpmdmcbciccaaDoor
