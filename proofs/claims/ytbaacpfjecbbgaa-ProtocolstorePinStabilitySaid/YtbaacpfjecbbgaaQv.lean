/- Law: a pinned call keeps its protocol until it is freed. -/
import Derived.Test.YtbaacpfjecbbgaaQt
namespace Go.Proofs.Ytbaacpfjecbbgaa
open Go Go.Nf

/-- the call is pinned to the first protocol, which is there -/
structure Held (S : List Prot) (P : List Pn) (call : Int) : Prop where
  pin : (⟨call, mainS, 1⟩ : Pn) ∈ P
  prot : p1 ∈ S
theorem busy_of {P : List Pn} {call : Int} (h : (⟨call, mainS, 1⟩ : Pn) ∈ P) : busy P mainS 1 = true := List.any_eq_true.2 ⟨_, h, by kernel_rfl⟩
theorem held_step {S S' : List Prot} {P P1 : List Pn} {a : Ac} {r1 r2 call : Int} (h : Held S P call) (hn : ¬ (Int.tmod a.kind 4 = 2 ∧ a.call = call)) (hs : SStep S P a S' P1 r1 r2) : Held S' P1 call := by
  cases hs with
  | @put x q g r _ h0 hE hg hr h1 h2 =>
    refine ⟨h.pin, ?_⟩
    by_cases hz : putE q g r S.length a.t.version = 0
    · obtain ⟨X, Y, hc, hh, rfl⟩ := h1 hz
      have hp := h.prot
      rw [hc.eq] at hp
      rcases List.mem_append.1 hp with hp | hp
      · exact List.mem_append_left _ hp
      · exact List.mem_append_right _ (.tail _ hp)
    · rw [h2 hz]; exact h.prot
  | @pin r h0 hr =>
    refine ⟨?_, h.prot⟩
    unfold pinStep
    split
    · exact h.pin
    · cases r with
      | none => exact h.pin
      | some u =>
        simp only
        split
        · exact h.pin
        · exact List.mem_append_left _ h.pin
  | free h0 =>
    refine ⟨?_, h.prot⟩
    unfold freeStep
    split
    · refine List.mem_filter.2 ⟨h.pin, ?_⟩
      have : ¬ call = a.call := fun e => hn ⟨h0, e.symm⟩
      simpa using this
    · exact h.pin
  | @drop g r _ h0 h0' h0'' hg hr h1 h2 =>
    refine ⟨h.pin, ?_⟩
    by_cases hz : dropE g r P a.name a.version = 0
    · rw [h1 hz]
      refine List.mem_filter.2 ⟨h.prot, offB_iff.2 fun ⟨e1, e2⟩ => ?_⟩
      have e1 : mainS = a.name := e1
      have e2 : (1 : Int) = a.version := e2
      have hb := busy_of h.pin
      rw [e1, e2] at hb
      unfold dropE at hz
      rw [hb] at hz
      split at hz
      · cases hz
      · split at hz
        · cases hz
        · rw [if_pos rfl] at hz; cases hz
    · rw [h2 hz]; exact h.prot
set_option maxHeartbeats 4000000 in
theorem law9_c (o : Option Addr) (c : Nat) (l : List Ac) (call : Int) (hf : ∀ a, a ∈ l → FitP a.t) (hl : l.length ≤ 9223372036854775807) (w : World) {A : Nat → Prop} (h : Acs w A o l) :
    Calls Try.prog 9 #[.slice o l.length c, .int .i64 call] w (Tru w) := by
  have h := Acs.low h
  refine nf9n o l.length c call w _ ((wakes_c w).mono ?_)
  rintro _ w2 ⟨rfl, g2⟩
  refine ⟨_, rfl, fun _ => (smallL_c o c l hf hl w2 (h.grow g2)).mono ?_, fun h => (by cases h)⟩
  rintro _ w6 ⟨b, rfl, hb, g6⟩
  have G6 := g2.trans' g6
  refine ⟨_, rfl, fun hb' => ⟨fun _ => ⟨rfl, G6⟩, fun hcall => (newB_c w6).mono ?_⟩, fun _ => ⟨rfl, G6⟩⟩
  have hcall := dF hcall
  have hlen := hb hb'
  rintro _ w12 ⟨t, m, rfl, s12, g12⟩
  refine ⟨_, rfl, (plain_c mainS 1 w12).mono ?_⟩
  rintro _ w15 ⟨o15, rfl, q15, g15⟩
  have s15 := s12.grow g15
  have low15 : ∀ b, (hs w12 ≤ b ∧ b < hs w15) → ¬ (b = t ∨ b = m) := fun b hb hm => by have := (s12.ms b hm).2; omega
  refine ⟨_, _, _, _, _, rfl, (put_c (p := p1) (by decide) q15 low15 .nil (Nat.zero_le _) s15).mono ?_⟩
  rintro _ w22 ⟨x, q, g, r, S1, M1, D1, hE, hg, hr, rfl, h1, -, s22, o22, hM1, hD1⟩
  have e0 : putE q g r 0 1 = 0 := put_good (S := []) (p := p1) .nil (by decide) hE p1_end hg hr (get0 _ _) (fun u hu => by cases hu)
  obtain ⟨X, Y, hc, -, rfl⟩ := h1 e0
  obtain ⟨rfl, rfl⟩ := cut_nil hc
  refine ⟨_, rfl, (pin_c call mainS sorted1 (by decide) s22).mono ?_⟩
  rintro _ w25 ⟨r, hr, rfl, s25, o25⟩
  obtain rfl := isNew_one sorted1.uniq hr new1
  have e1 : pinStep (some p1) [] call mainS = ([⟨call, mainS, 1⟩], 1, 0) := by
    unfold pinStep
    rw [if_neg hcall]
    rfl
  rw [show (pinStep (some p1) [] call mainS) = ([⟨call, mainS, 1⟩], 1, 0) from e1] at s25
  rw [show (pinStep (some (plP mainS 1)) [] call mainS) = ([⟨call, mainS, 1⟩], 1, 0) from e1]
  have G12 := G6.trans' g12
  have z6 := G6.size
  have z12 := g12.size
  have z25 : hs w6 ≤ hs w25 := by have := g12.size; have := g15.size; have := o22.size; have := o25.size; omega
  have c25 : Only (fun b => hs w6 ≤ b) w w25 := ((Grow.only (G12.trans' g15)).trans' (o22.mono fun b _ hb => (s15.ms b hb).1)).trans' (o25.mono fun b _ hb => (s22.ms b hb).1)
  refine ⟨_, _, rfl, fun h => absurd rfl (nT h), fun _ => ⟨fun k x w' => ∃ (j : Nat) (S : List Prot) (P : List Pn) (M D : Nat → Prop), x = (j : Int) ∧ j ≤ l.length ∧ k = l.length - j ∧ St w' (hs w6) t m M D S P ∧ Sorted S ∧ Ok S ∧ S.length ≤ 100 ∧ Held S P call ∧ Only (fun b => hs w6 ≤ b) w w',
    ⟨_, 0, [p1], [⟨call, mainS, 1⟩], M1, D1, rfl, Nat.zero_le _, rfl, s25, sorted1, (fun p hp => by rw [List.mem_singleton] at hp; rw [hp]; exact ⟨_, p1_end⟩), (by decide), ⟨.head _, .head _⟩, c25⟩, ?_⟩⟩
  rintro k _ w34 x ⟨j, S, P, M, D, rfl, hj, rfl, hst, hso, hok, hSl, hH, o34⟩
  have hMlow : ∀ b, b < hs w → ¬ M b := fun b hb hm => by have := (hst.ms b hm).1; omega
  refine ⟨fun hlt k38 hk => ?_, fun hge => (unpin_c call hst).mono ?_⟩
  · have hlt : j < l.length := by have := dT hlt; omega
    have h34 := h.keep o34 fun b hb e => by omega
    obtain ⟨ad, qo, qc, ha, c0, c1, c2, c3, c4, c5, c6, hq⟩ := h34.get hlt
    have hfa := hf _ (List.getElem_mem hlt)
    generalize l[j] = a at *
    refine ⟨ad, ha, ⟨by omega, by omega⟩, _, c0, _, c1, _, c2, _, _, _, c3, _, c4, _, c5, _, c6, fun w54 e54 => ⟨(Row.new e54).there (by simp), fun w56 e56 => ?_⟩⟩
    obtain ⟨r56, g56⟩ := loc e54 e56 rfl
    have z34 := o34.size
    have z56 := g56.size
    have fin : ∀ {w' : World} {S' : List Prot} {P1 : List Pn} {M' D' : Nat → Prop}, St w' (hs w6) t m M' D' S' P1 → Sorted S' → Ok S' → S'.length ≤ 100 → Held S' P1 call → Only (fun b => hs w6 ≤ b) w w' → k38 w' := fun h1 h2 h3 h4 h5 h6 =>
      hk _ fun _ => ⟨_, by omega, j + 1, _, _, _, _, by rw [wr (by omega)]; omega, hlt, rfl, h1, h2, h3, h4, h5, h6⟩
    -- behind the operation
    have tail : ∀ {w73 : World} {S' : List Prot} {P1 : List Pn} {M' D' : Nat → Prop}, St w73 (hs w6) t m M' D' S' P1 → Sorted S' → Ok S' → S'.length ≤ 100 → Held S' P1 call → Only (fun b => hs w6 ≤ b) w w73 →
        Calls Try.prog 46 #[.pointer (some ⟨t, 0, none⟩), .int .i64 call] w73 fun e w' => ∃ o c, e = .returned (.tuple #[aggP p1 o c, .bool true]) ∧ Qs w' (fun b => hs w73 ≤ b ∧ b < hs w') o p1.qs ∧ Grow w73 w' := fun {w73 S' P1 M' D'} h1 h2 h3 h4 h5 h6 => by
      refine (pinnedP_c call h2 (by omega) h3.fine h1).mono ?_
      rintro _ w82 ⟨r, hr, ⟨o82, c82, rfl, hq82⟩, g82⟩
      have hrp : r = some p1 := by
        rcases hr with ⟨-, hno⟩ | ⟨p, hp, hpc, hg⟩
        · exact absurd rfl (hno _ h5.pin)
        · obtain rfl := nodup_eq h1.one hp h5.pin hpc
          exact isGet_one h2.uniq hg (.inr ⟨p1, rfl, h5.prot, rfl, rfl⟩)
      subst hrp
      exact ⟨o82, c82, rfl, hq82, g82⟩
    refine ⟨_, r56.cell rfl, fun h2 => ⟨_, r56.cell rfl, fun hcl => fin (hst.grow g56) hso hok hSl hH (o34.grow g56), fun hcl => ?_⟩, fun h2 => ?_⟩
    all_goals
      refine ⟨_, r56.cell rfl, _, r56.cell rfl, _, r56.cell rfl, _, _, _, r56.cell rfl, _, r56.cell rfl, _, r56.cell rfl, _, r56.cell rfl,
        (do_c (a := a) (qc := qc) (L := []) (P' := []) (oL := none) (oP := none) (cL := 0) (cP := 0) hfa (hq.grow g56) hMlow hso (by omega) (Nat.zero_le _) (Nat.zero_le _) (Nat.le_refl _) .nil (hst.grow g56) ⟨Ps.nil _ _ _, Recs.nil _ _ _ _, fun b hb => by omega⟩).mono ?_⟩
      rintro _ w73 ⟨S', P1, L', P2, M', D', E', r1, r2, r1', r2', b, oL', cL', oP', cP', rfl, -, hs1, -, st73, -, -, -, -, -, -, -, o73⟩
      have hH' := held_step hH (fun hx => by first | exact dF hcl hx.2 | exact dF h2 hx.1) hs1
      have o73' := (o34.grow g56).trans o73 fun b _ hm => (hst.ms b hm).1
      have hso' := step_sorted hso hs1
      have hok' := step_ok hok hs1
      have hSl' := step_len hSl hs1
      refine ⟨_, _, _, _, _, _, _, rfl, (tail st73 hso' hok' hSl' hH' o73').mono ?_⟩
      rintro _ w82 ⟨o82, c82, rfl, hq82, g82⟩
      refine ⟨_, _, _, _, _, _, rfl, fun _ w90 e90 => ⟨(Row.new e90).there (by simp), fun w92 e92 w94 e94 => ?_⟩, fun h => (by cases h)⟩
      obtain ⟨r92, g92⟩ := loc e90 e92 rfl
      have g94 : Grow w92 w94 := only_drew e94
      have gg := g92.trans' g94
      have r94 := r92.grow g94
      refine ⟨_, r94.cell rfl, _, r94.cell rfl, _, _, _, r94.cell rfl, (plain_c mainS 1 w94).mono ?_⟩
      rintro _ w102 ⟨o102, rfl, q102, g102⟩
      refine ⟨_, _, _, _, _, rfl, kept_only g102 r94.lt (fun h => h), (eqP_c o82 o102 c82 1 p1 (fit_of_valid p1_end.valid0) w102 ((hq82.grow gg).grow g102) q102).mono ?_⟩
      rintro _ w109 ⟨rfl, g109⟩
      have GG := ((g82.trans' gg).trans' g102).trans' g109
      exact ⟨_, rfl, fun _ => fin (st73.grow GG) hso' hok' hSl' hH' (o73'.grow GG), fun h => (by cases h)⟩
  · rintro _ w180 ⟨rfl, s180, o180⟩
    have hp : pinned P call = true := pinned_of hH.pin rfl
    have e1 : freeStep P call = (P.filter (fun p => !decide (p.call = call)), true) := by unfold freeStep; rw [if_pos hp]
    rw [e1] at s180 ⊢
    refine ⟨_, rfl, fun _ => (unpin_c call s180).mono ?_, fun h => (by cases h)⟩
    rintro _ w184 ⟨rfl, -, o184⟩
    have hp2 : pinned (P.filter (fun p => !decide (p.call = call))) call = false := pinned_not fun p hp => by
      have := (List.mem_filter.1 hp).2
      simpa using this
    have e2 : (freeStep (P.filter (fun p => !decide (p.call = call))) call).2 = false := by unfold freeStep; rw [if_neg (by rw [hp2]; exact Bool.false_ne_true)]
    refine ⟨_, rfl, ?_, ?_⟩
    · show Ending.returned (.bool (!(freeStep (P.filter (fun p => !decide (p.call = call))) call).2)) = _
      rw [e2]; rfl
    · have c1 := (o34.trans' (o180.mono fun b _ hb => (hst.ms b hb).1)).trans' (o184.mono fun b _ hb => (s180.ms b hb).1)
      exact c1.toGrow fun b hb => by omega
end Go.Proofs.Ytbaacpfjecbbgaa
