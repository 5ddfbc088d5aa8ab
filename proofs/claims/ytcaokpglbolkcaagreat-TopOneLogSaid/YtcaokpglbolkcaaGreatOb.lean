/- The node: a command proposed, a membership changed. -/
import Derived.Test.YtcaokpglbolkcaaGreatOa
namespace Go.Proofs.YtcaokpglbolkcaaGreat
open Go Go.Nf Go.RowKit

section
variable {w : World} {N D : Nat → Prop} {p t ma dur k : Nat} {s : PN} {mm : Memb} {ops : List Op} {uns : Bool} {outs : List Msg} {q : Ptrs}
theorem Did.after {w0 w1 w' : World} {N D N1 D1 : Nat → Prop} {s' : PN} {ms : List Msg} {o : Option Addr} {c : Nat} (h : Did w1 N1 D1 p t s' ms k o c w') (mv : Moves w0 w1 N D N1 D1) : Did w0 N D p t s' ms k o c w' := by
  obtain ⟨N', D', A, n, mv', ms', hc, hA⟩ := h
  refine ⟨N', D', A, n, mv.trans mv', ms', hc, fun b hb => ⟨(hA b hb).1, (hA b hb).2.1, ?_⟩⟩
  have z := mv.o.size
  rcases (hA b hb).2.2 with k | k | k
  · exact (mv.d b k).imp id .inr
  · exact (mv.n b k).elim (fun k => .inr (.inl k)) fun k => .inr (.inr k)
  · exact .inr (.inr (by omega))
theorem Did.quiet {w' : World} (h : NodeAt w N D p t s false [] k) (g : Grow w w') : Did w N D p t s [] k none 0 w' :=
  ⟨N, D, fun _ => False, h.grow g, Moves.grow g, ⟨[], rfl, fun i row hi => (by simp at hi), fun x hx => (by cases hx)⟩, Nat.le_refl _, fun b hb => hb.elim⟩
theorem Did.up {w' : World} {s' : PN} {ms : List Msg} {o : Option Addr} {c k' : Nat} (h : Did w N D p t s' ms k o c w') (hk : k ≤ k') : Did w N D p t s' ms k' o c w' := by
  obtain ⟨N', D', A, n, r⟩ := h
  exact ⟨N', D', A, n.up hk, r⟩
theorem submit_c {A : Nat → Prop} {o : Option Addr} {c kind : Nat} {body : List UInt8} (h : NodeAt w N D p t s uns [] k) (wf : Wf0 s k) (hk : k ≤ 30000) (hr : s.role = 3) (hb : Byts w A o body) (hA : ∀ b, A b → ¬ N b ∧ b < hs w) (hok : OkEnt ⟨s.term, kind, body⟩) :
    Calls Tryz.prog 34 #[.pointer (some ⟨p, 0, none⟩), .int .i64 (kind : Int), .slice o body.length c] w fun e w' => ∃ n err o' c', e = .returned (.tuple #[.int .i64 n, .slice o' (submitS s kind body).2.length c', .int .i64 err]) ∧ Did w N D p t (submitS s kind body).1 (submitS s kind body).2 (k + 50) o' c' w' := by
  have hl := wf.ll
  refine nf34 p kind o body.length c w _ ((lastIndex_c h (by omega)).mono ?_)
  rintro _ w2 ⟨rfl, g2⟩
  have n2 := h.grow g2
  obtain ⟨q, ops, dur, x2, h2, hrest⟩ := n2.ex
  have z2 := g2.size
  refine ⟨_, rfl, (ok_c x2).mono ?_⟩
  rintro _ w5 ⟨rfl, e5⟩
  have e5 := e5.symm
  subst e5
  refine ⟨_, rfl, bT ((add_c n2 (wf.up n2) (by omega) (hb.grow g2) (fun b hb => ⟨(hA b hb).1, by have := (hA b hb).2; omega⟩) hok).mono ?_)⟩
  rintro _ w9 ⟨rfl, N1, D1, uns1, n9, mv9⟩
  have wf9 : Wf0 (addS s ⟨s.term, kind, body⟩) (k + 16) := (wf.add (Nat.le_refl _)).more (by omega)
  refine ⟨_, rfl, bT ((adv_c n9 (wf9.up n9) (by omega) hok.t1).mono ?_)⟩
  rintro _ w13 ⟨rfl, N2, D2, uns2, n13, mv13⟩
  have wf13 : Wf0 (advS (addS s ⟨s.term, kind, body⟩)) (k + 32) := (wf9.adv (by omega)).more (by omega)
  refine ⟨_, rfl, bT ((sendAppends_c n13 (wf13.up n13) (by omega) (fun u hu => by rw [advS_next]; exact wf.nx1 hr u hu) (by simp)).mono ?_)⟩
  rintro _ w17 ⟨rfl, N3, D3, n17, mv17⟩
  refine ⟨rfl, (sentD_c n17 ((((Moves.grow g2).trans mv9).trans mv13).trans mv17)).mono ?_⟩
  rintro _ w19 ⟨o', c', rfl, hd⟩
  have hd := hd
  obtain ⟨N4, D4, A4, n19, -⟩ := id hd
  obtain ⟨q4, ops4, dur4, x4, -⟩ := n19.ex
  exact ⟨o', _, c', rfl, _, x4.cellT (k := 0) rfl, nno rfl ⟨_, _, o', c', rfl, hd.up (by omega)⟩⟩
theorem propose_c {A : Nat → Prop} {o : Option Addr} {c : Nat} {body : List UInt8} (h : NodeAt w N D p t s false [] k) (wf : Wf0 s k) (hk : k ≤ 30000) (ht : s.role = 3 → 1 ≤ s.term) (hb : Byts w A o body) (hA : ∀ b, A b → ¬ N b ∧ b < hs w) (hb64 : body.length ≤ 64) :
    Calls Tryz.prog 11 #[.pointer (some ⟨p, 0, none⟩), .slice o body.length c] w fun e w' => ∃ n err o' c', e = .returned (.tuple #[.int .i64 n, .slice o' (proposeS s body).2.length c', .int .i64 err]) ∧ Did w N D p t (proposeS s body).1 (proposeS s body).2 (k + 50) o' c' w' := by
  obtain ⟨q, ops, dur, h1, h2, hrest⟩ := h.ex
  refine nf11 p o body.length c w _ ⟨_, h1.cell (k := 11) (by omega) rfl, fun hr => ?_, fun hr => ?_⟩
  · have hr : ¬ s.role = 3 := by
      intro k
      rw [k] at hr
      cases hr
    have e1 : proposeS s body = (s, []) := by unfold proposeS; rw [if_neg hr]
    rw [e1]
    exact ⟨_, _, none, 0, rfl, (Did.quiet h (Only.refl _ _)).up (by omega)⟩
  · have hr : s.role = 3 := by
      have := hr
      simp at this
      omega
    have e1 : proposeS s body = submitS s 2 body := by unfold proposeS; rw [if_pos hr]
    rw [e1]
    refine no (by omega) ((submit_c (kind := 2) h wf hk hr hb hA ⟨ht hr, wf.t, ⟨by show (1 : Nat) ≤ 2; decide, by show (2 : Nat) ≤ 3; decide⟩, hb64, fun e => (by cases e)⟩).mono ?_)
    rintro _ w7 ⟨n, err, o', c', rfl, hd⟩
    exact ⟨_, _, _, _, _, rfl, n, err, o', c', rfl, hd⟩
set_option maxHeartbeats 1000000 in
theorem change_c {A : Nat → Prop} {o : Option Addr} {c : Nat} {next : List Nat} (h : NodeAt w N D p t s false [] k) (wf : Wf0 s k) (hk : k ≤ 30000) (ht : s.role = 3 → 1 ≤ s.term) (hb : Ints w A o next) (hA : ∀ b, A b → b < hs w) (hp : PermL next) :
    Calls Tryz.prog 18 #[.pointer (some ⟨p, 0, none⟩), .slice o next.length c] w fun e w' => ∃ n err o' c', e = .returned (.tuple #[.int .i64 n, .slice o' (changeS s next).2.length c', .int .i64 err]) ∧ Did w N D p t (changeS s next).1 (changeS s next).2 (k + 50) o' c' w' := by
  obtain ⟨q, ops, dur, h1, h2, hrest⟩ := h.ex
  have lt := h.lt
  have hpm := permit_cfg wf.ini s.log
  have quiet : ¬ (s.role = 3 ∧ s.memb.new = [] ∧ membAt s.log ≤ s.commit) → ∀ (w' : World) (a b : Int), Grow w w' → ∃ n err o' c', Ending.returned (.tuple #[.int .i64 a, .slice none 0 0, .int .i64 b]) = .returned (.tuple #[.int .i64 n, .slice o' (changeS s next).2.length c', .int .i64 err]) ∧ Did w N D p t (changeS s next).1 (changeS s next).2 (k + 50) o' c' w' := fun hn w' a b g => by
    have e1 : changeS s next = (s, []) := by unfold changeS; rw [if_neg hn]
    rw [e1]
    exact ⟨_, _, none, 0, rfl, (Did.quiet h g).up (by omega)⟩
  refine nf18 p o next.length c w _ ⟨_, h1.cell (k := 11) (by omega) rfl, fun hr => ?_, fun hr => ?_⟩
  · have hr : ¬ s.role = 3 := by
      intro k
      rw [k] at hr
      cases hr
    exact quiet (fun k => hr k.1) w _ _ (Only.refl _ _)
  have hr : s.role = 3 := by
    have := hr
    simp at this
    omega
  intro w4 e4
  have g4 : Grow w w4 := only_drew e4
  have x4 := h1.grow g4
  refine ⟨_, _, _, x4.cell (k := 9) (by omega) rfl, fun hn => ?_, fun hn => ?_⟩
  · exact quiet (fun k => by rw [k.2.1] at hn; cases hn) w4 _ _ g4
  have hn : s.memb.new = [] := List.eq_nil_of_length_eq_zero (by have := dF hn; omega)
  refine ⟨_, x4.cell (k := 10) (by omega) rfl, _, x4.cell (k := 13) (by omega) rfl, fun hc => ?_, fun hc => ?_⟩
  · have hc := dT hc
    exact quiet (fun k => by have := k.2.2; omega) w4 _ _ g4
  have hc : membAt s.log ≤ s.commit := by have := dF hc; omega
  have e1 : changeS s next = submitS s 3 (encM ⟨s.memb.old, next⟩) := by unfold changeS; rw [if_pos ⟨hr, hn, hc⟩]
  rw [e1]
  clear quiet
  have z4 := g4.size
  refine ⟨_, _, _, x4.cell (k := 8) (by omega) rfl, _, _, _, x4.cell (k := 9) (by omega) rfl, (begin_c (A := fun b => D b ∨ A b) (c := s.memb) hpm hp hn w4 (x4.mem.mono fun b hb => .inl hb) ((hb.grow g4).mono fun b hb => .inr hb) (fun b hb => hb.elim (fun k => (x4.ap b k).2) fun k => by have := hA b k; omega)).mono ?_⟩
  rintro _ w22 ⟨p1, k1, p2, k2, rfl, m22, g22⟩
  refine ⟨_, _, _, _, _, _, _, rfl, fun w30 e30 => ⟨(Row.new (l := [_, _]) e30).there (by simp), fun w32 e32 => nno rfl ?_⟩⟩
  obtain ⟨r32, g32⟩ := loc (l := [_, _]) (vs := [.slice p1 s.memb.old.length k1, .slice p2 next.length k2]) e30 e32 rfl
  have z22 := g22.size
  have z32 := g32.size
  have m32 := m22.grow g32
  have hp2 : Permit ⟨s.memb.old, next⟩ := ⟨hpm.old, .inr hp⟩
  refine ⟨_, _, _, r32.cell rfl, _, _, _, r32.cell rfl, (permitted_c (c := ⟨s.memb.old, next⟩) hp2 w32 m32 (fun b hb => by omega)).mono ?_⟩
  rintro _ w43 ⟨rfl, g43⟩
  have z43 := g43.size
  have r43 := r32.grow g43
  refine ⟨_, rfl, bT ⟨_, _, _, r43.cell rfl, _, _, _, r43.cell rfl, (encodeM_c (c := ⟨s.memb.old, next⟩) hp2 w43 (m32.grow g43) (fun b hb => by omega)).mono ?_⟩⟩
  rintro _ w53 ⟨g, rfl, r53, hg, g53⟩
  have G53 := (((g4.trans' g22).trans' g32).trans' g43).trans' g53
  have hbl := encM_len hp2
  refine ⟨_, _, _, rfl, (submit_c (kind := 3) (body := encM ⟨s.memb.old, next⟩) (A := fun b => b = g) (h.grow G53) wf hk hr (row_byts r53) (fun b hb => ?_) ⟨ht hr, wf.t, ⟨by show (1 : Nat) ≤ 3; decide, by show (3 : Nat) ≤ 3; decide⟩, by show (encM ⟨s.memb.old, next⟩).length ≤ 64; omega, fun _ => ⟨_, hp2, rfl⟩⟩).mono ?_⟩
  · rw [hb]
    exact ⟨fun k => by have := lt g (.inl k); omega, r53.lt⟩
  · rintro _ w58 ⟨n, err, o', c', rfl, hd⟩
    exact ⟨_, _, _, _, _, rfl, n, err, o', c', rfl, hd.after (Moves.grow G53)⟩
end
end Go.Proofs.YtcaokpglbolkcaaGreat
