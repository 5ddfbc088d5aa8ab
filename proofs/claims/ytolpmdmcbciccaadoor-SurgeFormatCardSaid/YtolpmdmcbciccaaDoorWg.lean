/- Contracts: the reference's state: New, steps, Rise, Done. -/
import Derived.Test.YtolpmdmcbciccaaDoorWf
namespace Go.Proofs.YtolpmdmcbciccaaDoor
open Go Go.Nf Go.RowKit

structure Sn where
  name : Str
  steps : List (List Str)
  calm : Int
  drill : Bool
  level : Nat
  low : Int
  does : List Str
def stateV (os : Option Addr) (cs : Nat) (od : Option Addr) (cd : Nat) (s : Sn) : List Value :=
  [.string (BA s.name), .slice os s.steps.length cs, .int .i64 s.calm, .bool s.drill, .int .i64 (s.level : Int), .int .i64 s.low, .slice od s.does.length cd]
structure SnAt (w : World) (t : Nat) (D : Nat → Prop) (s : Sn) : Prop where
  ex : ∃ os cs od cd, Row w t 56 (stateV os cs od cd s) ∧ Lol w D os s.steps ∧ Strs w D od s.does ∧ s.does.length ≤ cd
  nt : ¬ D t
theorem SnAt.keep {S : Nat → Prop} {w w' : World} {t : Nat} {D : Nat → Prop} {s : Sn} (h : SnAt w t D s) (g : Only S w w') (h1 : ¬ S t) (h2 : ∀ b, D b → ¬ S b) : SnAt w' t D s := by
  obtain ⟨os, cs, od, cd, k1, k2, k3, k4⟩ := h.ex
  exact ⟨⟨os, cs, od, cd, k1.keep g h1, k2.keep g h2, Recs.keep k3 g h2, k4⟩, h.nt⟩
theorem SnAt.grow {w w' : World} {t : Nat} {D : Nat → Prop} {s : Sn} (h : SnAt w t D s) (g : Grow w w') : SnAt w' t D s := h.keep g (fun h => h) fun _ _ h => h
theorem SnAt.mono {w : World} {t : Nat} {D D' : Nat → Prop} {s : Sn} (h : SnAt w t D s) (hD : ∀ b, D b → D' b) (hn : ¬ D' t) : SnAt w t D' s := by
  obtain ⟨os, cs, od, cd, k1, k2, k3, k4⟩ := h.ex
  exact ⟨⟨os, cs, od, cd, k1, k2.mono hD, k3.mono hD, k4⟩, hn⟩
/-- the head is turned -/
theorem SnAt.head {w w' : World} {t : Nat} {D : Nat → Prop} {s s' : Sn} (h : SnAt w t D s) (o : Only (fun b => b = t) w w') (hr : ∀ os cs od cd, Row w t 56 (stateV os cs od cd s) → Row w' t 56 (stateV os cs od cd s')) (hs : s'.steps = s.steps) (hd : s'.does = s.does) : SnAt w' t D s' := by
  obtain ⟨os, cs, od, cd, k1, k2, k3, k4⟩ := h.ex
  have hno : ∀ b, D b → ¬ b = t := fun b hb e => h.nt (by rw [← e]; exact hb)
  exact ⟨⟨os, cs, od, cd, hr _ _ _ _ k1, by rw [hs]; exact k2.keep o hno, by rw [hd]; exact Recs.keep k3 o hno, by rw [hd]; exact k4⟩, h.nt⟩
def startS (p : Pl) (calm : Int) (drill : Bool) : Sn := ⟨p.name, p.steps, calm, drill, 0, -1, []⟩
def okB (p : Pl) (calm : Int) : Bool := decide (okR p calm)
def RefNewPost (w : World) (A : Nat → Prop) (p : Pl) (calm : Int) (drill : Bool) (e : Ending) (w' : World) : Prop :=
  ∃ t, e = .returned (.tuple #[.pointer (some ⟨t, 0, none⟩), .bool (okB p calm)]) ∧ SnAt w' t A (startS p calm drill) ∧ hs w ≤ t ∧ t < hs w' ∧ Grow w w'
set_option maxHeartbeats 2000000 in
theorem refNew_c (o : Option Addr) (c : Nat) (p : Pl) (calm : Int) (drill : Bool) (hf : p.Fit) (w : World) {A : Nat → Prop} (h : Lol w A o p.steps) (hA : ∀ b, A b → b < hs w) :
    Calls Tryd.prog 20 #[plV p.name o p.steps.length c, .int .i64 calm, .bool drill] w (RefNewPost w A p calm drill) := by
  refine nf20 (BA p.name) o p.steps.length c calm drill w _ fun w1 e1 w3 e3 => ?_
  have g1 : Grow w w1 := only_alloc e1
  have g3 : Grow w1 w3 := only_drew e3
  have r3 := (Row.new e1).grow g3
  have G3 := g1.trans' g3
  have z1 := hs_alloc e1
  have z3 := g3.size
  have yes' : ∀ {t : Nat} {w' : World}, Row w' t 56 (stateV o c none 0 (startS p calm drill)) → hs w ≤ t → Grow w w' → okR p calm → RefNewPost w A p calm drill (.returned (.tuple #[.pointer (some ⟨t, 0, none⟩), .bool true])) w' := fun hr ht hg hk =>
    ⟨_, by unfold okB; rw [decide_eq_true hk], ⟨⟨o, c, none, 0, hr, h.grow hg, Recs.nil _ _ _ _, Nat.zero_le _⟩, fun k => by have := hA _ k; omega⟩, ht, hr.lt, hg⟩
  have no' : ∀ {t : Nat} {w' : World}, Row w' t 56 (stateV o c none 0 (startS p calm drill)) → hs w ≤ t → Grow w w' → ¬ okR p calm → RefNewPost w A p calm drill (.returned (.tuple #[.pointer (some ⟨t, 0, none⟩), .bool false])) w' := fun hr ht hg hk =>
    ⟨_, by unfold okB; rw [decide_eq_false hk], ⟨⟨o, c, none, 0, hr, h.grow hg, Recs.nil _ _ _ _, Nat.zero_le _⟩, fun k => by have := hA _ k; omega⟩, ht, hr.lt, hg⟩
  refine ⟨_, r3.cell rfl, _, _, _, r3.cell rfl, fun hd => ?_, fun hd => ?_⟩
  all_goals
    subst hd
    refine ⟨_, r3.cell rfl, _, _, _, r3.cell rfl, fun w14 e14 => ?_, ?_⟩
    · have g14 : Grow w3 w14 := only_alloc e14
      refine ⟨kept_only g14 r3.lt (fun h => h), (right_c o c p hf w14 (h.grow (G3.trans' g14))).mono ?_⟩
      rintro _ w17 ⟨rfl, g17⟩
      have r17 := (Row.new e14).grow g17
      have G17 := (G3.trans' g14).trans' g17
      refine ⟨_, rfl, fun h1 => ⟨fun h2 => ⟨fun h3 => yes' r17 (by omega) G17 ⟨dT h1, by have := dT h2; omega, by have := dT h3; omega⟩, fun h3 => no' r17 (by omega) G17 fun k => dF h3 k.2.2⟩, fun h2 => no' r17 (by omega) G17 fun k => dF h2 k.2.1⟩, fun h1 => no' r17 (by omega) G17 fun k => dF h1 k.1⟩
    · refine (right_c o c p hf w3 (h.grow G3)).mono ?_
      rintro _ w26 ⟨rfl, g26⟩
      have z26 := g26.size
      have up : ∀ {w' : World} {db : Bool}, w' = w26.alloc (.cells (stateV o c none 0 (startS p calm db)).toArray 56 (0, 0)) → Row w' (hs w26) 56 (stateV o c none 0 (startS p calm db)) ∧ Grow w w' := fun e => ⟨Row.new e, (G3.trans' g26).trans' (only_alloc e)⟩
      refine ⟨_, rfl, kept_only g26 r3.lt (fun h => h), fun h1 => ⟨fun h2 => ⟨fun h3 w' e' => yes' (up e').1 (by omega) (up e').2 ⟨dT h1, by have := dT h2; omega, by have := dT h3; omega⟩, fun h3 w' e' => no' (up e').1 (by omega) (up e').2 fun k => dF h3 k.2.2⟩, fun h2 w' e' => no' (up e').1 (by omega) (up e').2 fun k => dF h2 k.2.1⟩, fun h1 w' e' => no' (up e').1 (by omega) (up e').2 fun k => dF h1 k.1⟩
section
variable {w : World} {t : Nat} {D : Nat → Prop} {s : Sn}
theorem steps_c (a b : Nat) (hF : Fine s.steps) (hab : a ≤ b) (hb : b ≤ s.steps.length) (h : SnAt w t D s) :
    Calls Tryd.prog 47 #[.pointer (some ⟨t, 0, none⟩), .int .i64 (a : Int), .int .i64 (b : Int)] w fun e w' => ∃ o c, e = .returned (.slice o (between s.steps a b).length c) ∧ Strs w' (fun b => hs w ≤ b ∧ b < hs w') o (between s.steps a b) ∧ Grow w w' := by
  have hfew := hF.few
  obtain ⟨os, cs, od, cd, k1, k2, k3, k4⟩ := h.ex
  refine nf47 _ (a : Int) (b : Int) w _ fun w1 e1 => ?_
  have g1 : Grow w w1 := only_alloc e1
  have own1 : Own w1 (hs w) 9 1 (some ⟨hs w, 0, none⟩) 0 0 (([] : List Str).flatMap encS) := (show Row w1 (hs w) 9 [] from Row.new e1).own (n := 0) (Nat.le_refl _) rfl (by simp [maxLen])
  refine ⟨fun n o n' c x w' => ∃ i : Nat, x = (i : Int) ∧ a ≤ i ∧ i ≤ b ∧ n = b - i ∧ n' = (between s.steps a i).length ∧ Own w' (hs w) 9 1 o n' c ((between s.steps a i).flatMap encS) ∧ Grow w w',
    ⟨_, a, rfl, Nat.le_refl _, hab, rfl, by rw [between_same]; rfl, by rw [between_same]; exact own1, g1⟩, ?_⟩
  rintro n _ w7 o8 n9 c10 x ⟨i, rfl, hi1, hi2, rfl, rfl, own7, g7⟩
  refine ⟨fun hlt => ?_, fun hge => ?_⟩
  · have hlt : i < b := by have := dT hlt; omega
    have hil : i < s.steps.length := by omega
    have hat : s.steps[i]? = some s.steps[i] := List.getElem?_eq_getElem hil
    obtain ⟨a2, oi, ci, ha2, -, hc, hS⟩ := (k2.grow g7).at hat
    have hbs := between_succ (steps := s.steps) hi1 hat
    have hbl := between_len hF a (i + 1)
    have hll := hF.each _ (List.getElem_mem hil)
    generalize s.steps[i] = l at *
    have hbl2 := between_len hF a i
    have z7 := g7.size
    refine ⟨_, rfl, _, _, _, (k1.grow g7).cellAdd rfl, a2, ha2, ⟨by omega, by omega⟩, _, _, _, hc, append_recs (B := hs w) (xs := between s.steps a i) encS_len elem52 (by omega) own7 hS encS_one (by simp only [maxLen]; omega) (by omega) z7 fun o24 c26 w23 p1 p2 => ⟨_, _, _, rfl, ?_⟩⟩
    rw [← hbs] at p1
    have e2 : (between s.steps a i).length + l.length = (between s.steps a (i + 1)).length := by rw [hbs, List.length_append]
    rw [e2] at p1 ⊢
    exact ⟨_, by omega, i + 1, by rw [wr (by omega)]; omega, by omega, by omega, rfl, rfl, p1, g7.trans p2 fun b hb k => by have := (own7.base b k).1; omega⟩
  · have := dF hge
    obtain rfl : i = b := by omega
    exact ⟨o8, c10, rfl, (own_recs' encS_len (by omega) own7).mono fun b hb => own7.base b hb, g7⟩
end
def lowS (s : Sn) (now : Int) : Int := if s.low < 0 then clampI now else s.low
def riseS (s : Sn) (level now : Int) : Sn × List Str :=
  if s.level ≤ lvN s.steps.length level then
    ({ s with low := -1, level := lvN s.steps.length level, does := s.does ++ between s.steps s.level (lvN s.steps.length level) }, if s.drill = true then [] else between s.steps s.level (lvN s.steps.length level))
  else if agoI (clampI now) (lowS s now) < s.calm then ({ s with low := lowS s now }, [])
  else ({ s with level := lvN s.steps.length level, low := -1, does := s.does.filter fun x => !decide (x ∈ between s.steps (lvN s.steps.length level) s.level) }, [])
section
variable {w : World} {t : Nat} {D : Nat → Prop} {s : Sn}
/-- what a call on the state leaves -/
def RisePost (w : World) (t : Nat) (D : Nat → Prop) (x : Sn × List Str) (e : Ending) (w' : World) : Prop :=
  ∃ o c, e = .returned (.slice o x.2.length c) ∧ Strs w' (fun b => hs w ≤ b ∧ b < hs w') o x.2 ∧ SnAt w' t (fun b => D b ∨ (hs w ≤ b ∧ b < hs w')) x.1 ∧ Only (fun b => b = t) w w'
set_option maxHeartbeats 4000000 in
theorem rise_c (level now : Int) (hF : Fine s.steps) (hl : s.level ≤ s.steps.length) (hd : s.does.length ≤ 100) (ht : t < hs w) (h : SnAt w t D s) :
    Calls Tryd.prog 25 #[.pointer (some ⟨t, 0, none⟩), .int .i64 level, .int .i64 now] w (RisePost w t D (riseS s level now)) := by
  have hfew := hF.few
  obtain ⟨os, cs, od, cd, k1, k2, k3, k4⟩ := h.ex
  refine nf25 _ level now w _ fun ka hka => ?_
  have hE := lvN_eq s.steps.length level
  have hle := lvN_le s.steps.length level
  have body : ka (if level < 0 then 0 else level) w := hka w _ fun _ kb hkb => by
    have inner : kb ((lvN s.steps.length level : Nat) : Int) w := hkb w _ fun _ => by
      unfold riseS
      generalize lvN s.steps.length level = lv at *
      refine (hold_c now w).mono ?_
      rintro _ _ ⟨rfl, rfl⟩
      refine ⟨_, rfl, _, rfl, _, k1.cellAdd rfl, fun hge => ?_, fun hlt => ?_⟩
      · have hge : s.level ≤ lv := by have := dT hge; omega
        rw [if_pos hge]
        refine ⟨_, rfl, k1.thereAdd (by simp [stateV]), fun w20 e20 => ?_⟩
        have o20 : Only (fun b => b = t) w w20 := only_setAdd e20
        have h20 : SnAt w20 t D { s with low := -1 } := h.head o20 (fun os cs od cd k => k.setAdd e20) rfl rfl
        have z20 := o20.size
        obtain ⟨os2, cs2, od2, cd2, m1, -⟩ := h20.ex
        refine ⟨_, rfl, _, m1.cellAdd rfl, (steps_c (s := { s with low := -1 }) s.level lv hF hge (by omega) h20).mono ?_⟩
        rintro _ w25 ⟨o26, c28, rfl, hS26, g25⟩
        have h25 := h20.grow g25
        obtain ⟨os3, cs3, od3, cd3, m3, -⟩ := h25.ex
        refine ⟨_, _, _, rfl, _, rfl, m3.thereAdd (by simp [stateV]), fun w30 e30 w32 e32 => ?_⟩
        have o30 : Only (fun b => b = t) w25 w30 := only_setAdd e30
        have h30 : SnAt w30 t D { s with low := -1, level := lv } := h25.head o30 (fun os cs od cd k => k.setAdd e30) rfl rfl
        have g32 : Grow w30 w32 := only_alloc e32
        have h32 := h30.grow g32
        obtain ⟨os4, cs4, od4, cd4, m4, -, m5, -⟩ := h32.ex
        have own32 : Own w32 (hs w30) 9 1 (some ⟨hs w30, 0, none⟩) 0 0 (([] : List Str).flatMap encS) := (show Row w32 (hs w30) 9 [] from Row.new e32).own (n := 0) (Nat.le_refl _) rfl (by simp [maxLen])
        have z25 := g25.size
        have z30 := o30.size
        have z32 := g32.size
        refine ⟨_, rfl, _, _, _, m4.cellAdd rfl, append_recs (B := hs w30) (xs := []) encS_len elem52 (by omega) own32 m5 encS_one (by simp only [maxLen]; omega) (by show (0 + s.does.length) * 16 ≤ 140737488355328; omega) z32 fun o40 c42 w39 p1 p2 => ⟨_, _, _, rfl, ?_⟩⟩
        rw [List.nil_append, Nat.zero_add] at p1
        rw [Nat.zero_add]
        have g39 : Grow w30 w39 := g32.trans p2 fun b hb k => by
          obtain ⟨a', ha', rfl⟩ := k
          cases ha'
          exact absurd hb (by simp)
        have z39 := g39.size
        have hb80 := between_len hF s.level lv
        have hS39 : Strs w39 (fun b => hs w20 ≤ b ∧ b < hs w25) o26 (between s.steps s.level lv) := (Recs.keep hS26 o30 fun b hb e => by omega).grow g39
        refine append_recs (B := hs w30) (xs := s.does) encS_len elem52 (by omega) p1 hS39 encS_one (by show s.does.length + (between s.steps s.level lv).length ≤ maxLen; simp only [maxLen]; omega) (by show (s.does.length + (between s.steps s.level lv).length) * 16 ≤ 140737488355328; omega) z39 fun o45 c47 w44 q1 q2 => ⟨_, _, _, rfl, ?_⟩
        have g44 : Grow w30 w44 := g39.trans q2 fun b hb k => by have := (p1.base b k).1; omega
        have z44 := g44.size
        have h44 := h30.grow g44
        obtain ⟨os5, cs5, od5, cd5, m6, m7, -⟩ := h44.ex
        refine ⟨_, rfl, m6.thereAdd (by simp [stateV]), fun w49 e49 => ?_⟩
        have o49 : Only (fun b => b = t) w44 w49 := only_setAdd e49
        have z49 := o49.size
        have m8 := m6.setAdd e49
        have e9 : s.does.length + (between s.steps s.level lv).length = (s.does ++ between s.steps s.level lv).length := List.length_append.symm
        rw [e9] at m8 q1
        have q1' := q1.keep o49 fun b hb e => by have := (q1.base b hb).1; omega
        have hno : ∀ b, D b → ¬ b = t := fun b hb e => h.nt (by rw [← e]; exact hb)
        have O49 : Only (fun b => b = t) w w49 := (((o20.grow g25).trans' o30).grow g44).trans' o49
        have h49 : SnAt w49 t (fun b => D b ∨ (hs w ≤ b ∧ b < hs w49)) { s with low := -1, level := lv, does := s.does ++ between s.steps s.level lv } := by
          refine ⟨⟨os5, cs5, o45, c47, m8, (m7.keep o49 hno).mono fun b hb => .inl hb, (own_recs' encS_len (by omega) q1').mono fun b hb => .inr ?_, q1.le⟩, fun k => k.elim h.nt fun k => by omega⟩
          have := q1'.base b hb
          omega
        refine ⟨_, rfl, _, m8.cellAdd rfl, fun hdr => ?_, fun hdr => ?_⟩
        · have hdr : s.drill = true := hdr
          rw [hdr]
          rw [hdr] at h49
          exact ⟨none, 0, rfl, Recs.nil _ _ _ _, h49, O49⟩
        · have hdr : s.drill = false := hdr
          rw [hdr]
          rw [hdr] at h49
          refine ⟨o26, c28, rfl, ((hS39.keep q2 fun b hb k => by have := (p1.base b k).1; omega).keep o49 fun b hb e => by omega).mono fun b hb => by omega, h49, O49⟩
      · have hlt : ¬ s.level ≤ lv := by have := dF hlt; omega
        rw [if_neg hlt]
        intro kc hkc
        have core : ∀ w58, SnAt w58 t D { s with low := lowS s now } → Only (fun b => b = t) w w58 → kc w58 := fun w58 h58 o58 => hkc w58 fun _ w61 e61 => by
          have g61 : Grow w58 w61 := only_drew e61
          have h61 := h58.grow g61
          have o61 := o58.grow g61
          have z61 := o61.size
          obtain ⟨os2, cs2, od2, cd2, m1, -⟩ := h61.ex
          refine ⟨_, rfl, _, m1.cellAdd rfl, _, rfl, _, m1.cellAdd rfl, (ago_c (clampI now) (lowS s now) w61).mono ?_⟩
          rintro _ _ ⟨rfl, rfl⟩
          refine ⟨_, rfl, fun _ _ => rfl, fun h1 => ?_, fun h1 => ⟨_, rfl, _, m1.cellAdd rfl, (steps_c (s := { s with low := lowS s now }) lv s.level hF (by omega) hl h61).mono ?_⟩⟩
          · rw [if_pos (dT h1)]
            exact ⟨none, 0, rfl, Recs.nil _ _ _ _, h61.mono (fun b hb => .inl hb) fun k => k.elim h.nt fun k => by omega, o61⟩
          rw [if_neg (dF h1)]
          rintro _ w75 ⟨o76, c78, rfl, hS76, g75⟩
          refine ⟨_, _, _, rfl, fun w79 e79 => ?_⟩
          have g79 : Grow w75 w79 := only_alloc e79
          have own79 : Own w79 (hs w75) 9 1 (some ⟨hs w75, 0, none⟩) 0 0 (([] : List Str).flatMap encS) := (show Row w79 (hs w75) 9 [] from Row.new e79).own (n := 0) (Nat.le_refl _) rfl (by simp [maxLen])
          have h75 := h61.grow g75
          have z75 := g75.size
          have z79 := g79.size
          have hb80 := between_len hF lv s.level
          generalize hgone : between s.steps lv s.level = gone at *
          refine ⟨fun n o n' c x w' => ∃ i : Nat, x = (i : Int) ∧ i ≤ s.does.length ∧ n = s.does.length - i ∧ n' = ((s.does.take i).filter fun x => !decide (x ∈ gone)).length ∧ Own w' (hs w75) 9 1 o n' c (((s.does.take i).filter fun x => !decide (x ∈ gone)).flatMap encS) ∧ Grow w75 w',
            ⟨_, 0, rfl, Nat.zero_le _, rfl, by simp, by simpa using own79, g79⟩, ?_⟩
          rintro n _ w85 o86 n87 c88 x ⟨i, rfl, hi, rfl, rfl, own85, g85⟩
          have h85 := h75.grow g85
          have z85 := g85.size
          obtain ⟨os3, cs3, od3, cd3, m3, m4, m5, m6⟩ := h85.ex
          refine ⟨_, rfl, _, _, _, m3.cellAdd rfl, fun hlt2 kd hkd => ?_, fun hge2 => ⟨_, rfl, m3.thereAdd (by simp [stateV]), fun w131 e131 => ?_⟩⟩
          · have hlt2 : i < s.does.length := by have := dT hlt2; simp only at this; omega
            have hsi := List.getElem?_eq_getElem hlt2
            obtain ⟨a2, ha2, -, hc2⟩ := Strs.at m5 hsi
            have hti := List.take_succ_eq_append_getElem hlt2
            generalize s.does[i] = y at *
            refine ⟨_, rfl, _, _, _, m3.cellAdd rfl, a2, ha2, ⟨by omega, by show (i : Int) < ((s.does.length : Nat) : Int); omega⟩, _, hc2, (has_c o76 c78 gone y (by omega) w85 (Recs.grow hS76 g85)).mono ?_⟩
            rintro _ _ ⟨rfl, rfl⟩
            refine ⟨_, rfl, fun hin => hkd _ _ _ _ fun _ => ?_, fun hin => ⟨_, rfl, _, _, _, m3.cellAdd rfl, a2, ha2, ⟨by omega, by show (i : Int) < ((s.does.length : Nat) : Int); omega⟩, _, hc2, fun w122 e122 => ?_⟩⟩
            · have e0 : (s.does.take (i + 1)).filter (fun x => !decide (x ∈ gone)) = (s.does.take i).filter fun x => !decide (x ∈ gone) := by
                rw [hti, List.filter_append, List.filter_cons, if_neg (by rw [hin]; decide), List.filter_nil, List.append_nil]
              exact ⟨_, by omega, i + 1, by rw [wr (by omega)]; omega, hlt2, rfl, by rw [e0], by rw [e0]; exact own85, g85⟩
            · have g122 : Grow w85 w122 := only_alloc e122
              have r122 : Row w122 (hs w85) 9 (encS y) := Row.new e122
              have z122 := g122.size
              have hlen : ((s.does.take i).filter fun x => !decide (x ∈ gone)).length ≤ 100 := Nat.le_trans (List.length_filter_le _ _) (by rw [List.length_take]; omega)
              refine run_append_row elem52 (own85.grow g122) r122 rfl (by simp [encS, Value.oneCell']) (by simp only [maxLen]; omega) (by omega) (by omega) fun o126 c128 w125 p1 p2 _ => ⟨_, _, _, rfl, hkd _ _ _ _ fun _ => ?_⟩
              have e0 : (s.does.take (i + 1)).filter (fun x => !decide (x ∈ gone)) = ((s.does.take i).filter fun x => !decide (x ∈ gone)) ++ [y] := by
                rw [hti, List.filter_append, List.filter_cons, if_pos (by rw [hin]; decide)]; rfl
              have e1 : ((s.does.take i).filter fun x => !decide (x ∈ gone)).flatMap encS ++ encS y = ((s.does.take (i + 1)).filter fun x => !decide (x ∈ gone)).flatMap encS := by rw [e0, List.flatMap_append]; simp
              have e2 : ((s.does.take i).filter fun x => !decide (x ∈ gone)).length + 1 = ((s.does.take (i + 1)).filter fun x => !decide (x ∈ gone)).length := by rw [e0]; simp only [List.length_append, List.length_cons, List.length_nil]
              rw [e1, e2] at p1
              rw [e2]
              exact ⟨_, by omega, i + 1, by rw [wr (by omega)]; omega, hlt2, rfl, rfl, p1, (g85.trans' g122).trans p2 fun b hb k => by have := (own85.base b k).1; omega⟩
          · have := dF hge2
            obtain rfl : i = s.does.length := by simp only at this; omega
            rw [List.take_length] at own85 ⊢
            have o131 : Only (fun b => b = t) w85 w131 := only_setAdd e131
            have h131 : SnAt w131 t D { s with low := lowS s now, level := lv } := h85.head o131 (fun os cs od cd k => k.setAdd e131) rfl rfl
            obtain ⟨os4, cs4, od4, cd4, m7, -⟩ := h131.ex
            refine ⟨_, rfl, m7.thereAdd (by simp [stateV]), fun w134 e134 => ?_⟩
            have o134 : Only (fun b => b = t) w131 w134 := only_setAdd e134
            have h134 : SnAt w134 t D { s with low := -1, level := lv } := h131.head o134 (fun os cs od cd k => k.setAdd e134) rfl rfl
            obtain ⟨os5, cs5, od5, cd5, m8, m9, -⟩ := h134.ex
            refine ⟨_, rfl, m8.thereAdd (by simp [stateV]), fun w137 e137 => ?_⟩
            have o137 : Only (fun b => b = t) w134 w137 := only_setAdd e137
            have ow := (o131.trans' o134).trans' o137
            have own137 := own85.keep ow fun b hb e => by have := (own85.base b hb).1; omega
            have hno : ∀ b, D b → ¬ b = t := fun b hb e => h.nt (by rw [← e]; exact hb)
            have zw := ow.size
            refine ⟨none, 0, rfl, Recs.nil _ _ _ _, ⟨⟨os5, cs5, o86, c88, m8.setAdd e137, (m9.keep o137 hno).mono fun b hb => .inl hb, (own_recs' encS_len (by omega) own137).mono fun b hb => .inr ?_, own85.le⟩, fun k => k.elim h.nt fun k => by omega⟩, ((o61.grow g75).grow g85).trans' ow⟩
            have := own137.base b hb
            omega
        refine ⟨_, rfl, _, k1.cellAdd rfl, fun hlow => ⟨_, rfl, k1.thereAdd (by simp [stateV]), fun w143 e143 => ?_⟩, fun hlow => ?_⟩
        · have o143 : Only (fun b => b = t) w w143 := only_setAdd e143
          refine core w143 ?_ o143
          have : lowS s now = clampI now := by unfold lowS; rw [if_pos (dT hlow)]
          rw [this]
          exact h.head o143 (fun os cs od cd k => k.setAdd e143) rfl rfl
        · refine core w ?_ (Only.refl _ _)
          have : lowS s now = s.low := by unfold lowS; rw [if_neg (dF hlow)]
          rw [this]
          exact h
    refine ⟨_, rfl, _, _, _, k1.cellAdd rfl, fun hgt => ⟨_, rfl, _, _, _, k1.cellAdd rfl, ?_⟩, fun hgt => ?_⟩
    · rw [if_pos (by have := dT hgt; omega)] at hE
      rw [hE]
      exact inner
    · rw [if_neg (by have := dF hgt; omega)] at hE
      rw [hE]
      exact inner
  refine ⟨fun h0 => ?_, fun h0 => ?_⟩
  · rw [if_pos (dT h0)] at body; exact body
  · rw [if_neg (dF h0)] at body; exact body
end
end Go.Proofs.YtolpmdmcbciccaaDoor
