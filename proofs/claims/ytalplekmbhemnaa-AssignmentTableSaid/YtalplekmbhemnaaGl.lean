/- Contract: advance gives a row its first possible column. -/
import Derived.Test.YtalplekmbhemnaaGk
import Derived.Test.YtalplekmbhemnaaPf
import Derived.Test.YtalplekmbhemnaaNfQ
namespace Go.Proofs.Ytalplekmbhemnaa
open Go Go.Nf

theorem idxOf_some (v : Int) : ∀ (xs : List Int) (k j : Nat), gI xs j = v → j < xs.length → ∃ h : Nat, idxOf v xs (k : Int) = ((k + h : Nat) : Int) ∧ h < xs.length ∧ gI xs h = v
  | [], _, _, _, h => by simp at h
  | x :: xs, k, j, e, h => by
    unfold idxOf
    by_cases hx : v = x
    · rw [if_pos hx]; exact ⟨0, rfl, by simp, hx.symm⟩
    · rw [if_neg hx]
      cases j with
      | zero => exact absurd (e.symm : v = x) hx
      | succ j =>
        obtain ⟨h', e', hl, hg⟩ := idxOf_some v xs (k + 1) j e (by simpa using h)
        refine ⟨h' + 1, ?_, by simpa using hl, hg⟩
        have : ((k : Int) + 1) = ((k + 1 : Nat) : Int) := by omega
        rw [this, e']; omega
theorem count_neg : ∀ (d : List Int) (p : Nat) (v : Int), p < d.length → gI d p = -1 → v ≠ -1 → (d.set p v).count (-1) + 1 = d.count (-1)
  | [], p, v, h, _, _ => by simp at h
  | x :: d, 0, v, _, h, hv => by
    simp only [gI, List.getElem?_cons_zero, Option.getD_some] at h
    subst h
    simp only [List.set_cons_zero, List.count_cons, beq_self_eq_true, if_true]
    rw [if_neg (by simpa using hv)]
  | x :: d, p + 1, v, h, h', hv => by
    have := count_neg d p v (by simpa using h) (by simpa [gI] using h') hv
    simp only [List.set_cons_succ, List.count_cons]
    omega
def natsV (xs : List Nat) : List Value := xs.map fun x => .int .i64 ((x : Nat) : Int)

set_option maxRecDepth 10000 in
set_option maxHeartbeats 4000000 in
theorem advance_c (q br bu bv : Nat) (A : Nat → Prop) (Q : Sq) (R C i : Nat) (w : World) (h : SqAt w q br bu bv A Q) (hA : ∀ x, A x → x < hs w) (hp : Perf Q R C) (hi : i < Q.size) (hl : Lex Q i) :
    Calls Try.prog 24 #[.pointer (some ⟨q, 0, none⟩), .int .i64 (i : Int)] w fun e w' => e = .returned (.tuple #[]) ∧
      ∃ r, SqAt w' q br bu bv A { Q with rowOf := r } ∧ Perf { Q with rowOf := r } R C ∧ Lex { Q with rowOf := r } (i + 1) ∧ Only (fun b => b = br) w w' := by
  have hsm := h.small
  have hold : q < hs w ∧ br < hs w ∧ bu < hs w ∧ bv < hs w ∧ (∀ x, A x → x < hs w) := by
    obtain ⟨_, _, hq, _⟩ := h.hq
    exact ⟨hq.lt, h.hr.lt, h.hu.lt, h.hv.lt, hA⟩
  have hlr := hp.len.1
  have ic := index_c (some ⟨br, 0, none⟩) Q.size Q.rowOf i w (A := fun b => b = br) (h.hr.nums rfl) (by omega)
  rw [hlr] at ic
  obtain ⟨j0, hj0, ej0⟩ := hp.all i hi
  obtain ⟨home, eh, hh, hhi⟩ := idxOf_some (i : Int) Q.rowOf 0 j0 ej0 (by omega)
  rw [hlr] at hh
  rw [Nat.zero_add] at eh
  refine nf24 q i w _ ⟨_, _, _, h.f2, ic.mono ?_⟩
  rintro e4 _ ⟨rfl, rfl⟩
  refine ⟨_, by rw [show (0 : Int) = ((0 : Nat) : Int) from rfl, eh], _, h.f1, make_zeros elem25 zero3 (by omega) fun w1 r1 g1 l1 => ⟨_, _, _, rfl, ?_⟩⟩
  have S1 := h.grow g1
  clear h ic
  generalize hB : hs w = B at *
  refine ⟨fun n x w' => ∃ t : Nat, x = (t : Int) ∧ t ≤ Q.size ∧ n = Q.size - t ∧ SqAt w' q br bu bv A Q ∧ Row w' B 3 (intsV (mix (fun _ => -1) (List.replicate Q.size 0) t)) ∧ hs w' = B + 1 ∧ Grow w w', ⟨_, 0, rfl, Nat.zero_le _, rfl, S1, by rw [mix_zero]; exact r1, l1, g1⟩, ?_⟩
  rintro n _ w2 x ⟨t, rfl, ht, rfl, S2, r2, l2, g2⟩
  refine ⟨fun hlt => ?_, fun hge w3 e3 => ?_⟩
  · have hlt : t < Q.size := by have := dT hlt; omega
    refine ⟨_, rfl, ⟨by omega, by omega⟩, Row.thereI r2 (by rw [mix_len]; simpa using hlt), fun w3 e3 => ⟨_, by omega, t + 1, by rw [wr (by omega)]; omega, hlt, rfl, ?_, ?_, ?_, ?_⟩⟩
    · exact S2.own hold (only_setAdd e3) (fun x hx => by omega)
    · have := Row.setI r2 (by rw [mix_len]; simpa using hlt) e3
      rw [← mix_set (by simpa using hlt)]; exact this
    · have := (only_setAdd e3).size; subst e3; rw [← l2]; exact (setCells_facts _ _ _ _).2.2.2.1
    · exact g2.trans (only_setAdd e3) fun x hx e => by omega
  have hge := dF hge
  obtain rfl : t = Q.size := by omega
  have e2 : mix (fun _ => -1) (List.replicate Q.size 0) Q.size = List.replicate Q.size (-1) := by
    apply List.ext_getElem
    · simp [mix]
    · intro i h1 h2; simp at h2; simp [mix, h2]
  rw [e2] at r2
  have S3 := S2.grow (only_alloc e3)
  have r3 := r2.grow (only_alloc e3)
  have g3 := g2.trans' (only_alloc e3)
  have q3 : Que w3 (B + 1) 3 (some ⟨hs w2, 0, none⟩) 1 1 (natsV [home]) := Row.que (Row.new e3) (by omega)
  refine ⟨fun n o m c w' => ∃ t L qs, Bfs Q i home t L qs (fun _ _ => False) ∧ Que w' (B + 1) 3 o m c (natsV qs) ∧ Row w' B 3 (intsV t) ∧ SqAt w' q br bu bv A Q ∧ Grow w w' ∧ n = 2 * t.count (-1) + qs.length ∧ 2 * t.count (-1) + qs.length ≤ 2 * Q.size + 1, ⟨_, _, _, _, Bfs.start hh, q3, r3, S3, g3, rfl, by simp⟩, ?_⟩
  clear S1 S2 S3 r1 r2 r3 g1 g2 g3 q3 e3 l1 l2 w1 w2 w3
  rintro n _ w1 o m c ⟨t, L, qs, F, hq, r1, S1, g1, rfl, hms0⟩
  have hm : m = qs.length := by obtain ⟨g, off, l, -, -, -, -, -, -, -, hxs⟩ := hq; simpa [natsV] using hxs.symm
  refine ⟨fun hgt => ?_, fun hle => ?_⟩
  · have hgt := dT hgt
    cases qs with
    | nil => simp at hm; omega
    | cons x qs =>
    obtain ⟨a, rfl, hc, -⟩ := hq.head
    have hxL := F.sub x (by simp)
    have hxS := F.rp.lt hh x hxL
    refine ⟨a, rfl, ⟨by omega, by omega⟩, _, hc, ⟨by omega, by omega⟩, _, S1.f1, fun n o m c y w' => ∃ (j : Nat) (t' : List Int) (L' qs' : List Nat), y = (j : Int) ∧ j ≤ Q.size ∧ n = Q.size - j ∧ Bfs Q i home t' L' qs' (fun y k => y = x ∧ j ≤ k) ∧ x ∈ L' ∧ Que w' (B + 1) 3 o m c (natsV qs') ∧ Row w' B 3 (intsV t') ∧ SqAt w' q br bu bv A Q ∧ Grow w w' ∧ 2 * t'.count (-1) + qs'.length < 2 * t.count (-1) + (x :: qs).length, ⟨_, 0, t, L, qs, rfl, Nat.zero_le _, rfl, ?_, hxL, hq.tail, r1, S1, g1, by simp⟩, ?_⟩
    · refine { F.pop with closed := fun y hy hq' k hk he => F.pop.closed y hy hq' k hk fun e => he ⟨e, by omega⟩ }
    clear r1 S1 g1 hq F hc hxL
    rintro n _ w2 o m c y ⟨j, t', L', qs', rfl, hj, rfl, F, hxL, hq, r2, S2, g2, hms⟩
    refine ⟨fun hlt => ?_, fun hge => ?_⟩
    · have hlt : j < Q.size := by have := dT hlt; omega
      have hrow := hp.row j hlt
      have htl := F.len
      have skip : ∀ w', (j = home ∨ 0 ≤ gI t' j ∨ gI Q.rowOf j ≤ (i : Int) ∨ ¬ Edge Q (gI Q.rowOf j).toNat x) → Grow w2 w' → ∃ n53, n53 < Q.size - j ∧ ∃ (j' : Nat) (t' : List Int) (L' qs' : List Nat), IntKind.wrap .i64 ((j : Int) + 1) = (j' : Int) ∧ j' ≤ Q.size ∧ n53 = Q.size - j' ∧ Bfs Q i home t' L' qs' (fun y k => y = x ∧ j' ≤ k) ∧ x ∈ L' ∧ Que w' (B + 1) 3 o m c (natsV qs') ∧ Row w' B 3 (intsV t') ∧ SqAt w' q br bu bv A Q ∧ Grow w w' ∧ 2 * t'.count (-1) + qs'.length < 2 * t.count (-1) + (x :: qs).length := fun w' hn g =>
        ⟨_, by omega, j + 1, t', L', qs', by rw [wr (by omega)]; omega, hlt, rfl, F.skip hn, hxL, hq.grow g, r2.grow g, S2.grow g, g2.trans' g, hms⟩
      refine ⟨fun hc => skip w2 (.inl (by have := dT hc; omega)) (Only.refl _ _), fun hc => ⟨_, rfl, ⟨by omega, by omega⟩, _, Row.int r2 (by omega), fun hc2 => skip w2 (.inr (.inl (dT hc2))) (Only.refl _ _), fun hc2 => ⟨_, _, _, S2.f2, _, rfl, ⟨by omega, by omega⟩, _, Row.int S2.hr (by omega), fun hc3 => skip w2 (.inr (.inr (.inl (dT hc3)))) (Only.refl _ _), fun hc3 => ?_⟩⟩⟩
      have hne : j ≠ home := by have := dF hc; omega
      have hc2 := dF hc2
      have hc3 := dF hc3
      obtain ⟨r, hr⟩ : ∃ r : Nat, gI Q.rowOf j = (r : Int) := ⟨(gI Q.rowOf j).toNat, by omega⟩
      have cr : w2.cell? ((⟨br, 0, none⟩ : Addr).add ((j : Int).toNat * 1)) = some (.int .i64 (r : Int)) := by rw [← hr]; exact Row.int S2.hr (by omega)
      refine ⟨_, _, _, S2.f2, _, rfl, ⟨by omega, by omega⟩, _, cr, (tight_c q br bu bv A Q r x w2 S2 (by omega) hxS).mono ?_⟩
      rintro e3 w3 ⟨rfl, g3⟩
      refine ⟨_, rfl, fun hb => ?_, fun hb => ?_⟩
      · have he := (hp.tight_iff (by omega) hxS).1 hb
        refine ⟨_, rfl, ⟨by omega, by omega⟩, Row.thereI (r2.grow g3) (by omega), fun w4 e4 w5 e5 => ?_⟩
        have o4 := only_setAdd e4
        have r4 := Row.setI (r2.grow g3) (by omega) e4
        have g4 := (g2.trans' g3).trans o4 fun x hx e => by omega
        have S4 := (S2.grow g3).own hold o4 (fun x hx => by omega)
        have q4 := (hq.grow g3).keep o4 fun b hb e => by have := (hq.base b hb).1; omega
        refine Que.push elem25 (q4.grow (only_alloc e5)) (Row.new e5) rfl ?_ ?_ ?_ fun o' c' w6 q6 o6 => ⟨_, _, _, rfl, _, ?_, j + 1, _, _, _, by rw [wr (by omega)]; omega, hlt, rfl, F.push hxL hlt hne hc2 (by omega) (by rw [hr, Int.toNat_natCast]; exact he), List.mem_cons_of_mem _ hxL, ?_, ?_, ?_, ?_, ?_⟩
        · have hqm : m = qs'.length := by obtain ⟨g, off, l, -, -, -, -, -, -, -, hxs⟩ := hq; simpa [natsV] using hxs.symm
          unfold maxLen; omega
        · have hqm : m = qs'.length := by obtain ⟨g, off, l, -, -, -, -, -, -, -, hxs⟩ := hq; simpa [natsV] using hxs.symm
          omega
        · have := r4.lt; have := hs_alloc e5; omega
        · omega
        · have e : natsV (qs' ++ [j]) = natsV qs' ++ [.int .i64 (j : Int)] := by simp [natsV]
          rw [e]; exact q6
        · exact (r4.grow (only_alloc e5)).keep o6 fun hb => by have := (hq.base _ hb).1; omega
        · exact (S4.grow (only_alloc e5)).own hold o6 fun x hx => by have := (hq.base _ hx).1; omega
        · exact (g4.trans' (only_alloc e5)).trans o6 fun x hx hb => by have := (hq.base _ hb).1; omega
        · have := count_neg t' j (x : Int) (by omega) ((F.neg j hlt).resolve_right hc2) (by omega)
          simp only [List.length_append, List.length_cons, List.length_nil] at *
          omega
      · refine skip w3 (.inr (.inr (.inr fun he => ?_))) g3
        rw [hr, Int.toNat_natCast] at he
        rw [(hp.tight_iff (by omega) hxS).2 he] at hb
        cases hb
    · have hge := dF hge
      obtain rfl : j = Q.size := by omega
      exact ⟨_, hms, t', L', qs', { F with closed := fun y hy hq k hk _ => F.closed y hy hq k hk fun e => by have := e.2; omega }, hq, r2, S2, g2, rfl, by omega⟩
  have hle := dF hle
  have hq0 : qs = [] := List.eq_nil_of_length_eq_zero (by omega)
  subst hq0
  have htl := F.len
  refine ⟨fun n x w' => ∃ j : Nat, x = (j : Int) ∧ j ≤ home ∧ n = home - j ∧ (∀ k, k < j → gI t k < 0 ∨ ¬ Edge Q i k) ∧ Row w' B 3 (intsV t) ∧ SqAt w' q br bu bv A Q ∧ Grow w w', ⟨_, 0, rfl, Nat.zero_le _, rfl, fun k hk => absurd hk (by omega), r1, S1, g1⟩, ?_⟩
  clear r1 S1 g1 hq
  rintro n _ w2 x ⟨j, rfl, hj, rfl, hno, r2, S2, g2⟩
  refine ⟨fun hlt => ?_, fun hge => ?_⟩
  · have hlt : j < home := by have := dT hlt; omega
    have skip : ∀ w', (gI t j < 0 ∨ ¬ Edge Q i j) → Grow w2 w' → ∃ n, n < home - j ∧ ∃ j' : Nat, IntKind.wrap .i64 ((j : Int) + 1) = (j' : Int) ∧ j' ≤ home ∧ n = home - j' ∧ (∀ k, k < j' → gI t k < 0 ∨ ¬ Edge Q i k) ∧ Row w' B 3 (intsV t) ∧ SqAt w' q br bu bv A Q ∧ Grow w w' := fun w' hn g =>
      ⟨_, by omega, j + 1, by rw [wr (by omega)]; omega, hlt, rfl, fun k hk => by
        rcases Nat.lt_or_ge k j with h | h
        · exact hno k h
        · obtain rfl : k = j := by omega
          exact hn, r2.grow g, S2.grow g, g2.trans' g⟩
    refine ⟨_, rfl, ⟨by omega, by omega⟩, _, Row.int r2 (by omega), fun hc => skip w2 (.inl (dT hc)) (Only.refl _ _), fun hc => (tight_c q br bu bv A Q i j w2 S2 hi (by omega)).mono ?_⟩
    rintro e3 w3 ⟨rfl, g3⟩
    refine ⟨_, rfl, fun hb => ?_, fun hb => skip w3 (.inr fun he => by rw [(hp.tight_iff hi (by omega)).2 he] at hb; cases hb) g3⟩
    have he := (hp.tight_iff hi (by omega)).1 hb
    obtain ⟨cs, c1, c2, c3⟩ := F.move hp hi hh hhi hl hlt (by have := dF hc; omega) he hno
    have sc := shift_c q br bu bv A (fun b => b = B) Q (i : Int) (j : Int) (some ⟨B, 0, none⟩) Q.size t cs w3 (S2.grow g3) ((r2.grow g3).nums rfl) (by omega) htl c1
    rw [htl] at sc
    refine sc.mono ?_
    rintro e4 w4 ⟨rfl, S4, g4⟩
    exact ⟨rfl, rfl, _, S4, c2, c3, (Grow.only (g2.trans' g3)).trans' g4⟩
  · have hge := dF hge
    obtain rfl : j = home := by omega
    exact ⟨rfl, Q.rowOf, S2, hp, F.stay hp hi hh hhi hl hno, g2.only⟩
end Go.Proofs.Ytalplekmbhemnaa
