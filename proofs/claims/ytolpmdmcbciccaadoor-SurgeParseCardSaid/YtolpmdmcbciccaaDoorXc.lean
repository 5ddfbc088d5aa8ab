/- The law SurgeMatchesModel. -/
import Derived.Test.YtolpmdmcbciccaaDoorXb
namespace Go.Proofs.YtolpmdmcbciccaaDoor
open Go Go.Nf Go.RowKit

structure Ac where
  kind : Int
  level : Int
  now : Int
  step : Str
def encAc (x : Ac) : List Value := [.int .i64 x.kind, .int .i64 x.level, .int .i64 x.now, .string (BA x.step)]
theorem encAc_len (x : Ac) : (encAc x).length = 4 := rfl
abbrev Acs (w : World) (A : Nat → Prop) (o : Option Addr) (l : List Ac) : Prop := Recs w A o 4 (l.map encAc)
def madeV (p : Pl) (o : Option Addr) (c : Nat) (calm : Int) (dr : Bool) : Value := .agg #[.string (BA p.name), .slice o p.steps.length c, .int .i64 calm, .bool dr]
theorem doneR_steps (r : Rn) (x : Str) : (doneR r x).1.steps = r.steps := by unfold doneR; split <;> rfl
theorem doneR_level (r : Rn) (x : Str) : (doneR r x).1.level = r.level := by unfold doneR; split <;> rfl
theorem setR_steps (r : Rn) (level now : Int) : (setR r level now).1.steps = r.steps := by
  unfold setR fallR raiseR
  repeat' split
  all_goals rfl
structure Both (w0 w' : World) (B t : Nat) (gs : List Nat) (D : Nat → Prop) (t2 : Nat) (r : Rn) (s : Sn) : Prop where
  run : RunAt w' B t gs D r
  ref : ∃ D2, SnAt w' t2 D2 s ∧ ∀ b, D2 b → b < hs w' ∧ ¬ InRun t gs b
  t2lt : t2 < hs w'
  apart : ¬ InRun t gs t2 ∧ ¬ D t2
  like : Like r s
  lv : r.level ≤ r.steps.length
  fine : Fine r.steps
  grow : Grow w0 w'
  base : hs w0 ≤ B ∧ hs w0 ≤ t2
theorem Both.up {w0 w w' : World} {B t : Nat} {gs : List Nat} {D : Nat → Prop} {t2 : Nat} {r : Rn} {s : Sn} (h : Both w0 w B t gs D t2 r s) (g : Grow w w') : Both w0 w' B t gs D t2 r s := by
  obtain ⟨D2, h1, h2⟩ := h.ref
  have := g.size
  exact ⟨h.run.grow g, ⟨D2, h1.grow g, fun b hb => ⟨by have := (h2 b hb).1; omega, (h2 b hb).2⟩⟩, by have := h.t2lt; omega, h.apart, h.like, h.lv, h.fine, h.grow.trans' g, h.base⟩
/-- both have gone on: the program's run first, then the reference's -/
theorem Both.next {w0 w w1 w2 : World} {B t : Nat} {gs : List Nat} {D D2 : Nat → Prop} {t2 : Nat} {r r' : Rn} {s s' : Sn} (h : Both w0 w B t gs D t2 r s) (hD2 : ∀ b, D2 b → b < hs w ∧ ¬ InRun t gs b) (R : RunAt w1 B t gs D r') (o1 : Only (InRun t gs) w w1)
    (S : SnAt w2 t2 (fun b => D2 b ∨ (hs w1 ≤ b ∧ b < hs w2)) s') (o2 : Only (fun b => b = t2) w1 w2) (hl : Like r' s') (hlv : r'.level ≤ r'.steps.length) (hf : Fine r'.steps) : Both w0 w2 B t gs D t2 r' s' := by
  have z1 := o1.size
  have z2 := o2.size
  have := h.t2lt
  refine ⟨R.keep o2 (fun b hb e => h.apart.1 (by rw [← e]; exact hb)) (fun b hb e => h.apart.2 (by rw [← e]; exact hb)), ⟨_, S, fun b hb => ?_⟩, by omega, h.apart, hl, hlv, hf, ?_, h.base⟩
  · rcases hb with hb | hb
    · exact ⟨by have := (hD2 b hb).1; omega, (hD2 b hb).2⟩
    · exact ⟨hb.2, fun k => by have := (R.lo b k).2; omega⟩
  · exact (h.grow.trans o1 fun b hb k => by have := (R.lo b k).1; have := h.base.1; omega).trans o2 fun b hb k => by have := h.base.2; omega
theorem Like.few {r : Rn} {s : Sn} (h : Like r s) (hF : Fine r.steps) : s.does.length ≤ 100 := by
  rw [h.does]
  unfold openL
  have := List.length_filter_le r.f r.steps.flatten
  have := flat_len hF
  omega
set_option maxHeartbeats 16000000 in
theorem law6_c (o : Option Addr) (c : Nat) (p : Pl) (calm : Int) (dr : Bool) (o2 : Option Addr) (c2 : Nat) (l : List Ac) (hf : p.Fit) (w : World) {A A2 : Nat → Prop} (h : Lol w A o p.steps) (hl : Acs w A2 o2 l) :
    Calls Tryd.prog 6 #[madeV p o c calm dr, .slice o2 l.length c2] w (TrueG w) := by
  have h := h.low
  refine nf6 (BA p.name) o p.steps.length c calm dr o2 l.length c2 w _ fun w1 e1 => (awake_c w1).mono ?_
  have r1 : Row w1 (hs w) 39 [.string (BA p.name), .slice o p.steps.length c, .int .i64 calm, .bool dr] := Row.new e1
  have g1 : Grow w w1 := only_alloc e1
  clear e1
  rintro _ w4 ⟨rfl, g4⟩
  have G4 := g1.trans' g4
  have r4 := r1.grow g4
  refine ⟨_, rfl, fun _ => ⟨_, r4.cell rfl, _, _, _, r4.cell rfl, (small45_c o c p hf w4 (h.grow G4)).mono ?_⟩, fun k => (by cases k)⟩
  rintro _ w12 ⟨⟨b, rfl⟩, g12⟩
  have G12 := G4.trans' g12
  refine ⟨_, rfl, fun _ => ⟨fun _ => again G12, fun h40 w20 e20 => ?_⟩, fun _ => again G12⟩
  have h40 := dF h40
  have g20 : Grow w12 w20 := only_drew e20
  have G20 := G12.trans' g20
  have r20 := (r4.grow g12).grow g20
  clear r1 r4
  refine ⟨_, r20.cell rfl, _, _, _, r20.cell rfl, _, r20.cell rfl, _, r20.cell rfl, ?_⟩
  cases dr
  all_goals
    refine ⟨fun hk => ?_, fun hk => ?_⟩
    all_goals first | (exfalso; revert hk; decide) | clear hk
    refine (own_c o c p hf w20 (h.grow G20)).mono ?_
    rintro _ w30 ⟨o32, c34, rfl, hL30, g30⟩
    refine ⟨_, _, _, _, rfl, kept_only g30 r20.lt (fun h => h), kept_only g30 r20.lt (fun h => h), (new_c o32 c34 p calm _ hf w30 hL30).mono ?_⟩
    rintro _ w36 ⟨g36, hn⟩
    have g2036 := g30.trans' g36
    have r36 := r20.grow g2036
    have G36 := G20.trans' g2036
    have z30 := (G20.trans' g30).size
    have z36 := G36.size
    have h36 := h.grow G36
    rcases hn with ⟨hok, t, gs, D, rfl, hR, hD⟩ | ⟨hn, rfl⟩
    · refine ⟨_, _, rfl, _, r36.cell rfl, _, _, _, r36.cell rfl, _, r36.cell rfl, _, r36.cell rfl, ?_⟩
      refine ⟨fun hk => ?_, fun hk => ?_⟩
      all_goals first | (exfalso; revert hk; decide) | clear hk
      refine (refNew_c o c p calm _ hf w36 h36 (fun b hb => by omega)).mono ?_
      rintro _ w47 ⟨t2, rfl, hS, ht1, ht2, g47⟩
      have hok' : okB p calm = true := decide_eq_true hok
      rw [hok']
      refine ⟨_, _, rfl, fun _ => ⟨fun k => (by cases k), fun _ => ⟨fun k => absurd rfl (nT k), fun _ => ?_⟩⟩, fun k => (by cases k)⟩
      have hRight := right_iff.1 hok.1
      have lo := hR.lo
      have dm := hR.dm
      have G47 := G36.trans' g47
      have both0 : Both w w47 (hs w30) t gs D t2 (startR p calm _) (startS p calm _) := ⟨hR.grow g47, ⟨_, hS, fun b hb => ⟨by omega, fun k => by have := (lo b k).1; omega⟩⟩, ht2, ⟨fun k => by have := (lo _ k).2; omega, fun k => by have := (dm _ k).1; omega⟩, Like.start p calm _, Nat.zero_le _, hRight.fine, G47, ⟨by omega, by omega⟩⟩
      refine ⟨fun n x w' => ∃ (i : Nat) (r : Rn) (s : Sn), x = (i : Int) ∧ i ≤ l.length ∧ n = l.length - i ∧ Both w w' (hs w30) t gs D t2 r s, ⟨_, 0, _, _, rfl, Nat.zero_le _, rfl, both0⟩, ?_⟩
      rintro n _ w59 x ⟨i, r, s, rfl, hi, rfl, hb⟩
      refine ⟨fun hlt => ?_, fun hge => ⟨rfl, hb.grow⟩⟩
      have hlt : i < l.length := by have := dT hlt; omega
      obtain ⟨a, ha, hcell⟩ := Recs.atE (Recs.grow hl hb.grow) (List.getElem?_eq_getElem hlt)
      generalize l[i] = y at *
      have c0 := hcell 0 _ rfl
      rw [add_zero] at c0
      refine ⟨a, ha, ⟨by omega, by omega⟩, _, c0, _, hcell 1 _ rfl, _, hcell 2 _ rfl, _, hcell 3 _ rfl, fun w68 e68 => ⟨(Row.new e68).there (by simp), fun w70 e70 k72 hk72 => ?_⟩⟩
      obtain ⟨r70, g70⟩ := loc e68 e70 rfl
      have hb70 := hb.up g70
      have inN : ¬ InRun t gs (hs w59) := fun k => by have := (hb.run.lo _ k).2; omega
      have next : ∀ (w74 : World) (r' : Rn) (s' : Sn), Both w w74 (hs w30) t gs D t2 r' s' → k72 w74 := by
        intro w74 r' s' hb'
        refine hk72 w74 fun _ w77 e77 => ?_
        have hb77 := hb'.up (only_drew e77)
        obtain ⟨D2, hS, hD2⟩ := hb77.ref
        obtain ⟨os, cs, od, cd, k1, k2, k3, k4⟩ := hS.ex
        refine ⟨_, rfl, _, k1.cellAdd rfl, (level_c hb77.run).mono ?_⟩
        rintro _ _ ⟨rfl, rfl⟩
        refine ⟨_, rfl, kept_same rfl, fun k => absurd (by rw [hb77.like.level]) (nT k), fun _ => ⟨_, rfl, _, _, _, k1.cellAdd rfl, (openSteps_c hb77.fine hb77.run).mono ?_⟩⟩
        rintro _ w91 ⟨o92, c94, rfl, hS91, g91⟩
        have hdl := hb77.like.few hb77.fine
        refine ⟨_, _, _, rfl, kept_onlyAdd g91 k1.lt (fun h => h), (texts_c o92 od c94 cd _ s'.does (by rw [← hb77.like.does]; omega) w91 hS91 (Recs.grow k3 g91)).mono ?_⟩
        rintro _ w96 ⟨rfl, g96⟩
        exact ⟨_, rfl, fun _ => ⟨_, by omega, i + 1, r', s', by rw [wr (by omega)]; omega, hlt, rfl, (hb77.up g91).up g96⟩, fun k => absurd hb77.like.does.symm (dF k)⟩
      refine ⟨_, r70.cell rfl, fun hk1 w103 e103 => ?_, fun hk1 w116 e116 => ?_⟩
      · have g103 : Grow w70 w103 := only_drew e103
        have hb103 := hb70.up g103
        have r103 := r70.grow g103
        refine ⟨_, r103.cell rfl, _, r103.cell rfl, (complete_c y.step hb103.fine hb103.run).mono ?_⟩
        rintro _ w108 ⟨rfl, R108, o108⟩
        obtain ⟨D2, hS, hD2⟩ := hb103.ref
        have S108 := hS.keep o108 hb103.apart.1 (fun b hb => (hD2 b hb).2)
        have z108 := o108.size
        have := hb103.t2lt
        refine ⟨_, rfl, kept_only o108 r103.lt inN, (doneS_c y.step (hb103.like.few hb103.fine) (by omega) S108).mono ?_⟩
        rintro _ w111 ⟨rfl, S111, o111⟩
        have hlk := hb103.like.done hb103.fine.once y.step
        exact ⟨_, rfl, fun k => absurd hlk.2 (nT k), fun _ => next w111 _ _ (hb103.next hD2 R108 o108 S111 o111 hlk.1 (by rw [doneR_level, doneR_steps]; exact hb103.lv) (by rw [doneR_steps]; exact hb103.fine))⟩
      · have g116 : Grow w70 w116 := only_drew e116
        have hb116 := hb70.up g116
        have r116 := r70.grow g116
        refine ⟨_, r116.cell rfl, _, r116.cell rfl, _, r116.cell rfl, _, r116.cell rfl, (setLevel_c y.level y.now hb116.fine hb116.lv hb116.run).mono ?_⟩
        rintro _ w123 ⟨o124, c126, rfl, hS123, R123, o123⟩
        obtain ⟨D2, hS, hD2⟩ := hb116.ref
        have S123 := hS.keep o123 hb116.apart.1 (fun b hb => (hD2 b hb).2)
        have z123 := o123.size
        have ht2' := hb116.t2lt
        have hlk := hb116.like.set hb116.fine hb116.lv y.level y.now
        have hstep : s.steps = r.steps := hb116.like.steps
        refine ⟨_, _, _, rfl, kept_only o123 r116.lt inN, kept_only o123 r116.lt inN, (rise_c y.level y.now (by rw [hstep]; exact hb116.fine) (by rw [hb116.like.level, hstep]; exact hb116.lv) (hb116.like.few hb116.fine) (by omega) S123).mono ?_⟩
        rintro _ w128 ⟨o129, c131, rfl, hS128, S128, o128⟩
        have hS123' : Strs w128 (fun b => hs w116 ≤ b ∧ b < hs w123) o124 (setR r y.level y.now).2 := Recs.keep hS123 o128 fun b hb e => by omega
        have hfew : (setR r y.level y.now).2.length ≤ 9223372036854775806 := by
          have h1 := flat_len hb116.fine
          unfold setR
          repeat' split
          · simp
          · simp
          · rename_i hnl _
            have := congrArg List.length (flat_parts r.steps (a := r.level) (b := lvN r.steps.length y.level) (by omega))
            rw [List.length_append, List.length_append] at this
            show (between _ _ _).length ≤ _
            omega
        refine ⟨_, _, _, rfl, (texts_c o124 o129 c126 c131 _ _ hfew w128 hS123' hS128).mono ?_⟩
        rintro _ w133 ⟨rfl, g133⟩
        exact ⟨_, rfl, fun _ => next w133 _ _ ((hb116.next hD2 R123 o123 S128 o128 hlk.1 hlk.2.2 (by rw [setR_steps]; exact hb116.fine)).up g133), fun k => absurd hlk.2.1 (dF k)⟩
    · refine ⟨_, _, rfl, _, r36.cell rfl, _, _, _, r36.cell rfl, _, r36.cell rfl, _, r36.cell rfl, ?_⟩
      refine ⟨fun hk => ?_, fun hk => ?_⟩
      all_goals first | (exfalso; revert hk; decide) | clear hk
      refine (refNew_c o c p calm _ hf w36 h36 (fun b hb => by omega)).mono ?_
      rintro _ w47 ⟨t2, rfl, hS, ht1, ht2, g47⟩
      have hok' : okB p calm = false := decide_eq_false hn
      rw [hok']
      exact ⟨_, _, rfl, fun k => (by cases k), fun _ => ⟨fun _ => ⟨fun _ => ⟨rfl, G36.trans' g47⟩, fun k => absurd rfl (dF k)⟩, fun k => (by cases k)⟩⟩
end Go.Proofs.YtolpmdmcbciccaaDoor
