/- The laws SurgeLevel and SurgeMonotonic. -/
import Derived.Test.YtolpmdmcbciccaaDoorYq
namespace Go.Proofs.YtolpmdmcbciccaaDoor
open Go Go.Nf Go.RowKit

abbrev TrueG (w : World) : Ending → World → Prop := fun e w' => e = .returned (.bool true) ∧ Grow w w'
theorem again {w w' : World} (g : Grow w w') : Calls Tryd.prog 11 #[] w' fun e w'' => ∃ b, e = .returned (.bool b) ∧ TrueG w (.returned (.bool b)) w'' := (awake_c w').mono fun _ _ h => ⟨true, h.1, rfl, g.trans' h.2⟩
theorem elem74 : Elem Tryd.prog 22 74 10 136 := elem_of (by kernel_rfl)
theorem elem29 : Elem Tryd.prog 23 29 10 80 := elem_of (by kernel_rfl)
theorem incs_one {l : List Inc} : ∀ u ∈ l.flatMap encInc, u.oneCell' = true := by
  intro u hu
  obtain ⟨a, -, ha⟩ := List.mem_flatMap.1 hu
  simp only [encInc, List.mem_cons, List.not_mem_nil, or_false] at ha
  rcases ha with h | h | h | h | h | h | h | h | h | h <;> rw [h] <;> rfl
theorem uns_one {l : List Un} : ∀ u ∈ l.flatMap encUn, u.oneCell' = true := by
  intro u hu
  obtain ⟨a, -, ha⟩ := List.mem_flatMap.1 hu
  simp only [encUn, List.mem_cons, List.not_mem_nil, or_false] at ha
  rcases ha with h | h | h | h | h | h | h | h | h | h <;> rw [h] <;> rfl
theorem Plns.mono {w : World} {A A' : Nat → Prop} {o : Option Addr} {l : List Pln} (h : Plns w A o l) (hA : ∀ b, A b → A' b) : Plns w A' o l := by
  obtain ⟨rows, h1, h2, h3⟩ := h
  exact ⟨rows, h1, h2.mono hA, fun x hx => Nums.mono (h3 x hx) hA⟩
abbrev Any' : Nat → Prop := fun _ => True
set_option maxHeartbeats 1000000 in
theorem law3_c (o o2 o3 : Option Addr) (c c2 c3 : Nat) (l : List Inc) (units : List Un) (plans : List Pln) (hf : FitPl plans) (w : World) (h : Incs w Any' o l) (h2 : Uns w Any' o2 units) (h3 : Plns w Any' o3 plans) :
    Calls Tryd.prog 3 #[.slice o l.length c, .slice o2 units.length c2, .slice o3 plans.length c3] w (TrueG w) := by
  refine nf3 o l.length c o2 units.length c2 o3 plans.length c3 w _ ((awake_c w).mono ?_)
  rintro _ w2 ⟨rfl, g2⟩
  refine ⟨_, rfl, fun _ => (few_c o o2 o3 l.length units.length c c2 c3 plans hf w2 (h3.grow g2)).mono ?_, fun k => by cases k⟩
  rintro _ w6 ⟨b, rfl, hb, g6⟩
  have G6 := g2.trans' g6
  refine ⟨_, rfl, fun hb' => ?_, fun _ => again G6⟩
  obtain ⟨hl, hu, hp⟩ := hb hb'
  intro w9 e9
  have g9 : Grow w6 w9 := only_alloc e9
  have own9 : Own w9 (hs w6) 74 10 (some ⟨hs w6, 0, none⟩) 0 0 (([] : List Inc).flatMap encInc) := (show Row w9 (hs w6) 74 [] from Row.new e9).own (n := 0) (Nat.le_refl _) rfl (by simp [maxLen])
  have z9 := hs_alloc e9
  refine append_recs encInc_len elem74 (by omega) own9 (Recs.grow h (G6.trans' g9)) incs_one (by simp only [maxLen]; omega) (by omega) (by omega) fun o13 c15 w12 p1 p2 => ⟨_, _, _, rfl, fun w16 e16 => ?_⟩
  have g12 : Grow w6 w12 := g9.trans p2 fun k hk hk' => by obtain ⟨_, e, rfl⟩ := hk'; cases e; exact absurd hk (by simp)
  have g16 : Grow w12 w16 := only_alloc e16
  have z16 := hs_alloc e16
  have own16 : Own w16 (hs w12) 29 10 (some ⟨hs w12, 0, none⟩) 0 0 (([] : List Un).flatMap encUn) := (show Row w16 (hs w12) 29 [] from Row.new e16).own (n := 0) (Nat.le_refl _) rfl (by simp [maxLen])
  have G16 := (G6.trans' g12).trans' g16
  refine append_recs encUn_len elem29 (by omega) own16 (Recs.grow h2 G16) uns_one (by simp only [maxLen]; omega) (by omega) (by omega) fun o20 c22 w19 q1 q2 => ⟨_, _, _, rfl, ?_⟩
  have g19 : Grow w12 w19 := g16.trans q2 fun k hk hk' => by obtain ⟨_, e, rfl⟩ := hk'; cases e; exact absurd hk (by simp)
  have G19 := (G6.trans' g12).trans' g19
  have i19 := (own_recs' encInc_len (by omega) (p1.grow g19)).mono (A' := Any') fun _ _ => trivial
  have u19 := (own_recs' encUn_len (by omega) q1).mono (A' := Any') fun _ _ => trivial
  rw [List.nil_append] at i19 u19
  rw [Nat.zero_add, Nat.zero_add]
  refine (surgeLevel_c o13 o20 o3 c15 c22 c3 l units plans (by omega) (by omega) hp w19 i19 u19 (h3.grow G19)).mono ?_
  rintro _ w24 ⟨rfl, g24⟩
  have G24 := G19.trans' g24
  refine ⟨_, rfl, (refLevel_c o o2 o3 c c2 c3 l units plans (by omega) (by omega) hp w24 (Recs.grow h G24) (Recs.grow h2 G24) (h3.grow G24)).mono ?_⟩
  rintro _ w27 ⟨rfl, g27⟩
  exact ⟨_, rfl, fun _ => ⟨rfl, G24.trans' g27⟩, fun k => absurd rfl (dF k)⟩
theorem needs_tail (x : Inc) (l : List Inc) (units : List Un) (plans : List Pln) : missing l units plans ≤ missing (x :: l) units plans := by
  unfold missing needs
  rw [List.map_cons, List.sum_cons]
  omega
theorem need_unit (u : Un) (units : List Un) (plans : List Pln) (x : Inc) : need (u :: units) plans x ≤ need units plans x := by
  unfold need
  split
  · unfold haveL
    by_cases h : u.inc = x.id
    · rw [List.filter_cons_of_pos (by simpa using h), List.map_cons]
      exact unmet_tail _ _ _
    · rw [List.filter_cons_of_neg (by simpa using h)]
      exact Nat.le_refl _
  · exact Nat.le_refl _
theorem needs_unit (u : Un) (units : List Un) (plans : List Pln) : ∀ l : List Inc, needs l (u :: units) plans ≤ needs l units plans
  | [] => Nat.le_refl _
  | x :: l => by
    have ih := needs_unit u units plans l
    have := need_unit u units plans x
    unfold needs at ih ⊢
    rw [List.map_cons, List.sum_cons, List.map_cons, List.sum_cons]
    omega
theorem missing_unit (u : Un) (units : List Un) (plans : List Pln) (l : List Inc) (hu : u.state = 1) : missing l (u :: units) plans ≤ missing l units plans := by
  have h1 := needs_unit u units plans l
  have h2 : freeN (u :: units) = freeN units + 1 := by unfold freeN; rw [List.countP_cons_of_pos (by simpa using hu)]
  unfold missing
  rw [h2]
  omega
theorem recs_tail {w : World} {A : Nat → Prop} {o : Option Addr} {k c : Nat} {row : List Value} {rows : List (List Value)} (hc : rows.length + 1 ≤ c) (h : Recs w A o k (row :: rows)) (hA : ∀ b, A b) :
    Recs w A (if c = ((1 : Int)).toNat then o else Option.map (fun x : Addr => x.add k) o) k rows := by
  split
  · rename_i h1
    have h1 : c = 1 := h1
    have : rows = [] := List.eq_nil_of_length_eq_zero (by omega)
    rw [this]
    exact Recs.nil _ _ _ _
  · intro i r hi
    obtain ⟨a, ha, -, hcell⟩ := h (i + 1) r (by simpa using hi)
    refine ⟨a.add k, by rw [ha]; rfl, hA _, fun j v hj => ?_⟩
    have := hcell j v hj
    rw [toNat_cast, add_add] at this
    rw [toNat_cast, add_add, add_add]
    rwa [show k + (i * k + j) = (i + 1) * k + j by rw [Nat.succ_mul]; omega]
set_option maxHeartbeats 4000000 in
theorem law4_c (o o2 o3 : Option Addr) (c c2 c3 : Nat) (l : List Inc) (units : List Un) (plans : List Pln) (hf : FitPl plans) (hc : l.length ≤ c) (hc2 : units.length ≤ c2) (w : World) (h : Incs w Any' o l) (h2 : Uns w Any' o2 units) (h3 : Plns w Any' o3 plans) :
    Calls Tryd.prog 4 #[.slice o l.length c, .slice o2 units.length c2, .slice o3 plans.length c3] w (TrueG w) := by
  refine nf4 o l.length c o2 units.length c2 o3 plans.length c3 w _ ((awake_c w).mono ?_)
  rintro _ w2 ⟨rfl, g2⟩
  refine ⟨_, rfl, fun _ => (few_c o o2 o3 l.length units.length c c2 c3 plans hf w2 (h3.grow g2)).mono ?_, fun k => by cases k⟩
  rintro _ w6 ⟨b, rfl, hb, g6⟩
  have G6 := g2.trans' g6
  refine ⟨_, rfl, fun hb' => ?_, fun _ => again G6⟩
  obtain ⟨hl, hu, hp⟩ := hb hb'
  refine (surgeLevel_c o o2 o3 c c2 c3 l units plans (by omega) (by omega) hp w6 (Recs.grow h G6) (Recs.grow h2 G6) (h3.grow G6)).mono ?_
  rintro _ w10 ⟨rfl, g10⟩
  have G10 := G6.trans' g10
  have hr := level_range (missing l units plans)
  have in5 : ∀ {w' : World}, Grow w w' → ((decide (levelOf (missing l units plans) ≥ 0) = true → ((decide (levelOf (missing l units plans) ≤ 5) = true → TrueG w (.returned (.bool true)) w') ∧ (decide (levelOf (missing l units plans) ≤ 5) = false → TrueG w (.returned (.bool false)) w'))) ∧ (decide (levelOf (missing l units plans) ≥ 0) = false → TrueG w (.returned (.bool false)) w')) :=
    fun g => ⟨fun _ => ⟨fun _ => ⟨rfl, g⟩, fun k => absurd hr.2 (dF k)⟩, fun k => absurd hr.1 (dF k)⟩
  have last : ∀ {w' : World} (u : Un) (us : List Un), units = u :: us → u.state = 1 → Grow w w' → 
      Calls Tryd.prog 13 #[.slice o l.length c, .slice (if (c2 = ((1 : Int)).toNat) then o2 else (Option.map (fun (x : Addr) => (Addr.add x 10)) o2)) (units.length - 1) (c2 - 1), .slice o3 plans.length c3] w' fun e w'' => ∃ x : Int, e = .returned (.int .i64 x) ∧ ((decide (x ≥ levelOf (missing l units plans)) = true → TrueG w (.returned (.bool true)) w'') ∧ (decide (x ≥ levelOf (missing l units plans)) = false → TrueG w (.returned (.bool false)) w'')) := by
    rintro w' u us rfl hs g
    have ht := recs_tail (k := 10) (w := w') (c := c2) (by rw [List.length_map]; simpa using hc2) (show Recs w' Any' o2 10 (encUn u :: us.map encUn) from Recs.grow h2 g) fun _ => trivial
    refine (surgeLevel_c o _ o3 c (c2 - 1) c3 l us plans (by omega) (by simp at hu; omega) hp w' (Recs.grow h g) ht (h3.grow g)).mono ?_
    rintro _ w'' ⟨rfl, g'⟩
    exact ⟨_, rfl, fun _ => ⟨rfl, g.trans' g'⟩, fun k => absurd (level_mono (missing_unit u us plans l hs)) (dF k)⟩
  have cells : ∀ {w' : World} (u : Un) (us : List Un), units = u :: us → Grow w w' → ∃ a, o2 = some a ∧ w'.cell? (a.add 3) = some (.int .i64 u.state) ∧ w'.cell? (a.add 7) = some (.int .i64 u.inc) := by
    rintro w' u us rfl g
    obtain ⟨a, ha, hcell⟩ := Recs.atE (Recs.grow h2 g) (i := 0) (x := u) rfl
    refine ⟨a, ha, ?_, ?_⟩
    · have := hcell 3 _ rfl
      rwa [show ((0 : Nat) : Int).toNat * 10 = 0 from rfl, add_zero] at this
    · have := hcell 7 _ rfl
      rwa [show ((0 : Nat) : Int).toNat * 10 = 0 from rfl, add_zero] at this
  refine ⟨_, rfl, fun h1 => ⟨⟨by omega, by have := dT h1; omega⟩, ?_⟩, fun h1 => ⟨fun h0 => in5 G10, fun h0 => ?_⟩⟩
  · have h1 := dT h1
    obtain ⟨x, xs, rfl⟩ : ∃ x xs, l = x :: xs := by
      cases l with
      | nil => simp at h1
      | cons x xs => exact ⟨x, xs, rfl⟩
    have ht := recs_tail (k := 10) (w := w10) (c := c) (by rw [List.length_map]; simpa using hc) (show Recs w10 Any' o 10 (encInc x :: xs.map encInc) from Recs.grow h G10) fun _ => trivial
    refine (surgeLevel_c _ o2 o3 (c - 1) c2 c3 xs units plans (by simp at hl; omega) (by omega) hp w10 ht (Recs.grow h2 G10) (h3.grow G10)).mono ?_
    rintro _ w14 ⟨rfl, g14⟩
    have G14 := G10.trans' g14
    refine ⟨_, rfl, fun k => absurd (level_mono (needs_tail x xs units plans)) (by have := dT k; omega), fun _ => ⟨fun _ => in5 G14, fun h0 => ?_⟩⟩
    have h0 := dF h0
    obtain ⟨u, us, hus⟩ : ∃ u us, units = u :: us := by
      cases units with
      | nil => simp at h0
      | cons u us => exact ⟨u, us, rfl⟩
    obtain ⟨a, ha, k3, k7⟩ := cells (w' := w14) u us hus G14
    have hlen : 0 < units.length := by rw [hus]; simp
    refine ⟨a, ha, ⟨by omega, by omega⟩, _, k3, fun s1 => ⟨a, ha, ⟨by omega, by omega⟩, _, k7, fun _ => in5 G14, fun _ => ⟨a, ha, ⟨by omega, by omega⟩, _, k3, fun _ => in5 G14, fun _ => ⟨⟨by omega, by omega⟩, last u us hus (dT s1) G14⟩⟩⟩, fun s1 => ⟨a, ha, ⟨by omega, by omega⟩, _, k3, fun _ => in5 G14, fun k => absurd (nF k) (dF s1)⟩⟩
  · have h0 := dF h0
    obtain ⟨u, us, hus⟩ : ∃ u us, units = u :: us := by
      cases units with
      | nil => simp at h0
      | cons u us => exact ⟨u, us, rfl⟩
    obtain ⟨a, ha, k3, k7⟩ := cells (w' := w10) u us hus G10
    have hlen : 0 < units.length := by rw [hus]; simp
    refine ⟨a, ha, ⟨by omega, by omega⟩, _, k3, fun s1 => ⟨a, ha, ⟨by omega, by omega⟩, _, k7, fun _ => in5 G10, fun _ => ⟨a, ha, ⟨by omega, by omega⟩, _, k3, fun _ => in5 G10, fun _ => ⟨⟨by omega, by omega⟩, last u us hus (dT s1) G10⟩⟩⟩, fun s1 => ⟨a, ha, ⟨by omega, by omega⟩, _, k3, fun _ => in5 G10, fun k => absurd (nF k) (dF s1)⟩⟩
end Go.Proofs.YtolpmdmcbciccaaDoor
