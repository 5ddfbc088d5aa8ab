/- Contract: insert adds a row to the matching. -/
import Derived.Test.YtalplekmbhemnaaGj
namespace Go.Proofs.Ytalplekmbhemnaa
open Go Go.Nf

def lastOf : List Nat → Int
  | [] => -1
  | p :: _ => (p : Int)
def headT : List Nat → Int → Prop
  | [] => fun _ => False
  | _ :: l => InT l
theorem headT_inT {ord : List Nat} {p : Int} (h : headT ord p ∨ p = lastOf ord) : InT ord p := by
  cases ord with
  | nil => rcases h with h | h
           · exact h.elim
           · exact .inl h
  | cons x l =>
    rcases h with (h | ⟨y, hy, h⟩) | h
    · exact .inl h
    · exact .inr ⟨y, List.mem_cons_of_mem _ hy, h⟩
    · exact .inr ⟨x, by simp, h⟩
theorem lastOf_inT (ord : List Nat) : InT ord (lastOf ord) := headT_inT (.inr rfl)
theorem inT_headT {ord : List Nat} {p : Int} (h : InT ord p) : headT ord p ∨ p = lastOf ord := by
  cases ord with
  | nil => rcases h with h | ⟨y, hy, h⟩
           · exact .inr h
           · cases hy
  | cons x l =>
    rcases h with h | ⟨y, hy, h⟩
    · exact .inl (.inl h)
    · rcases List.mem_cons.1 hy with rfl | hy
      · exact .inr h
      · exact .inl (.inr ⟨y, hy, h⟩)
/-- the least unmarked column so far -/
def Nx (d : List Bool) (F : Nat → Int) (j : Nat) (x : Int) : Prop :=
  (x = -1 ∧ ∀ i, i < j → gB d i = true) ∨ ∃ p : Nat, x = (p : Int) ∧ p < j ∧ gB d p = false ∧ ∀ i, i < j → gB d i = false → F p ≤ F i
theorem Tree.scan' {Q : Sq} {R C k : Nat} {D V s b : List Int} {used : List Bool} {ord : List Nat} (h : Tree Q R C k D V s b used ord (headT ord)) :
    Tree Q R C k D V (mix (scanS Q k D V s used (lastOf ord)) s Q.size) (mix (scanB Q k D V s b used (lastOf ord)) b Q.size) used ord (InT ord) := by
  have T := h.scan (lastOf ord)
  refine { T with low := fun j hj hjo p hp => T.low j hj hjo p (inT_headT hp), att := fun j hj hjo => ?_ }
  rcases T.att j hj hjo with h | ⟨h, h'⟩
  · exact .inl h
  · exact .inr ⟨headT_inT h, h'⟩
/-- row i has been raised by the first t columns -/
def Up (Q : Sq) (k : Nat) (d : List Bool) (t i : Nat) : Prop := i = k ∨ ∃ x, x < t ∧ gB d x = true ∧ gI Q.rowOf x = (i : Int)

set_option maxRecDepth 10000 in
set_option maxHeartbeats 4000000 in
theorem insert_c (q br bu bv : Nat) (A : Nat → Prop) (Q : Sq) (R C k : Nat) (w : World) (h : SqAt w q br bu bv A Q) (hA : ∀ x, A x → x < hs w) (hi : Inv Q R C k) (hk : k < Q.size) :
    Calls Try.prog 23 #[.pointer (some ⟨q, 0, none⟩), .int .i64 (k : Int)] w fun e w' => e = .returned (.tuple #[]) ∧
      ∃ r D V, SqAt w' q br bu bv A { Q with rowOf := r, rowD := D, colD := V } ∧ Inv { Q with rowOf := r, rowD := D, colD := V } R C (k + 1) ∧ Only (W3 br bu bv) w w' := by
  have hsm := h.small
  have hold : q < hs w ∧ br < hs w ∧ bu < hs w ∧ bv < hs w ∧ (∀ x, A x → x < hs w) := by
    obtain ⟨_, _, hq, _⟩ := h.hq
    exact ⟨hq.lt, h.hr.lt, h.hu.lt, h.hv.lt, hA⟩
  refine nf23 q k w _ ⟨_, h.f1, make_zeros elem32 zero2 (by omega) fun w1 r1 g1 l1 => ⟨_, _, _, rfl, _, (h.grow g1).f1, make_zeros elem25 zero3 (by omega) fun w2 r2 g2 l2 => ⟨_, _, _, rfl, _, ((h.grow g1).grow g2).f1, make_bools (by omega) fun w3 r3 g3 l3 => ⟨_, _, _, rfl, ?_⟩⟩⟩⟩
  have I3 : InsAt w3 (hs w) q br bu bv A Q (hs w) (hs w1) (hs w2) (List.replicate Q.size 0) (List.replicate Q.size 0) (List.replicate Q.size false) :=
    ⟨((h.grow g1).grow g2).grow g3, (r1.grow g2).grow g3, r2.grow g3, r3, ⟨by omega, by omega, by omega⟩, hold, ⟨by omega, by omega, by omega⟩, by simp⟩
  have G3 : Only (W3 br bu bv) w w3 := ((g1.only.trans' g2.only).trans' g3.only)
  clear r1 g1 r2 g2 r3 g3 h
  generalize hB : hs w = B at *
  have hb1 : B ≤ B := Nat.le_refl B
  have hb2 : B ≤ hs w1 := by omega
  have hb3 : B ≤ hs w2 := by omega
  generalize hs w1 = b2 at *
  generalize hs w2 = b3 at *
  refine ⟨fun n x w' => ∃ t : Nat, x = (t : Int) ∧ t ≤ Q.size ∧ n = Q.size - t ∧ InsAt w' B q br bu bv A Q B b2 b3 (mix (fun _ => Inf) (List.replicate Q.size 0) t) (mix (fun _ => -1) (List.replicate Q.size 0) t) (List.replicate Q.size false) ∧ Only (W3 br bu bv) w w', ⟨_, 0, rfl, Nat.zero_le _, rfl, by rw [mix_zero, mix_zero]; exact I3, G3⟩, ?_⟩
  rintro n _ w4 x ⟨t, rfl, ht, rfl, I4, G4⟩
  refine ⟨fun hlt => ?_, fun hge => ?_⟩
  · have hlt : t < Q.size := by have := dT hlt; omega
    refine ⟨_, rfl, ⟨by omega, by omega⟩, Row.thereI I4.h1 (by have := I4.len; omega), fun w5 e5 => ?_⟩
    have I5 := I4.setS hlt e5
    have G5 := Only.w3 G4 hB (only_setAdd e5) (.inl hb1)
    refine ⟨_, rfl, ⟨by omega, by omega⟩, Row.thereI I5.h2 (by have := I5.len; omega), fun w6 e6 => ?_⟩
    have I6 := I5.setP hlt e6
    have G6 := Only.w3 G5 hB (only_setAdd e6) (.inl hb2)
    refine ⟨_, by omega, t + 1, by rw [wr (by omega)]; omega, hlt, rfl, ?_, G6⟩
    rw [← mix_set (by simpa using hlt), ← mix_set (by simpa using hlt)]
    exact I6
  have hge := dF hge
  obtain rfl : t = Q.size := by omega
  clear hge I3 G3
  have e1 : mix (fun _ => Inf) (List.replicate Q.size 0) Q.size = List.replicate Q.size Inf := by
    apply List.ext_getElem
    · simp [mix]
    · intro i h1 h2; simp at h2; simp [mix, h2]
  have e2 : mix (fun _ => -1) (List.replicate Q.size 0) Q.size = List.replicate Q.size (-1) := by
    apply List.ext_getElem
    · simp [mix]
    · intro i h1 h2; simp at h2; simp [mix, h2]
  rw [e1, e2] at I4
  refine ⟨fun n x y w' => ∃ D V s b d ord, Tree Q R C k D V s b d ord (headT ord) ∧ (∀ p, p ∈ ord → 0 ≤ gI Q.rowOf p) ∧ y = lastOf ord ∧ x = ((rowAt Q k y : Nat) : Int) ∧ n = d.count false ∧ InsAt w' B q br bu bv A { Q with rowD := D, colD := V } B b2 b3 s b d ∧ Only (W3 br bu bv) w w', ⟨_, _, _, _, _, _, [], Tree.start hi hk, by simp, rfl, rfl, rfl, I4, G4⟩, ?_⟩
  clear I4 G4 w4
  rintro n _ w4 x _ ⟨D, V, s, b, d, ord, T, hm, rfl, rfl, rfl, I4, G4⟩
  refine ⟨_, I4.sq.f1, ?_⟩
  have T2 := T.scan' 
  obtain ⟨hrl, -⟩ := T.bounds hm _ (lastOf_inT ord)
  obtain ⟨l1', l2', l3', l4', l5'⟩ := T.len
  have hdk := T.dk hm
  have hbD := T.dlo _ hrl
  have hbu := hi.bu _ hrl
  generalize hF : scanS Q k D V s d (lastOf ord) = F at *
  generalize hG : scanB Q k D V s b d (lastOf ord) = G at *
  have hh : ∀ j, F j = if hit Q k D V s d (lastOf ord) j then Q.c (rowAt Q k (lastOf ord)) j - gI D (rowAt Q k (lastOf ord)) - gI V j else gI s j := fun j => by rw [← hF]; rfl
  have hg : ∀ j, G j = if hit Q k D V s d (lastOf ord) j then lastOf ord else gI b j := fun j => by rw [← hG]; rfl
  refine ⟨fun n x y w' => ∃ j : Nat, y = (j : Int) ∧ j ≤ Q.size ∧ n = Q.size - j ∧ Nx d F j x ∧ InsAt w' B q br bu bv A { Q with rowD := D, colD := V } B b2 b3 (mix F s j) (mix G b j) d ∧ Only (W3 br bu bv) w w', ⟨_, 0, rfl, Nat.zero_le _, rfl, .inl ⟨rfl, fun i h => absurd h (by omega)⟩, by rw [mix_zero, mix_zero]; exact I4, G4⟩, ?_⟩
  clear I4 G4 w4
  rintro n _ w4 x _ ⟨j, rfl, hj, rfl, N, I4, G4⟩
  refine ⟨fun hlt => ?_, fun hge => ?_⟩
  · have hlt : j < Q.size := by have : (j : Int) < (Q.size : Int) := dT hlt; omega
    have hbV := T.vlo j hlt
    have hbv := hi.bv j hlt
    have hbn := T.vneg j hlt
    have hbf := (hi.free j hlt).1
    refine ⟨_, rfl, ⟨by omega, by omega⟩, _, Row.bool I4.h3 (by omega), fun hu => ?_, fun hu k58 hk58 => ?_⟩
    · have hnh : ¬ hit Q k D V s d (lastOf ord) j = true := fun h => by have := (hit_of.1 h).1; rw [hu] at this; cases this
      refine ⟨_, by omega, j + 1, by rw [wr (by omega)]; omega, hlt, rfl, ?_, ?_, G4⟩
      · rcases N with ⟨rfl, N⟩ | ⟨p, rfl, N1, N2, N3⟩
        · refine .inl ⟨rfl, fun i hi' => ?_⟩
          rcases Nat.lt_or_ge i j with h | h
          · exact N i h
          · obtain rfl : i = j := by omega
            exact hu
        · refine .inr ⟨p, rfl, by omega, N2, fun i hi' hd => ?_⟩
          rcases Nat.lt_or_ge i j with h | h
          · exact N3 i h hd
          · obtain rfl : i = j := by omega
            rw [hu] at hd; cases hd
      · rw [← mix_same (by omega) (by rw [hh, if_neg hnh]), ← mix_same (by omega) (by rw [hg, if_neg hnh])]
        exact I4
    have key : ∀ w', InsAt w' B q br bu bv A { Q with rowD := D, colD := V } B b2 b3 (mix F s (j + 1)) (mix G b (j + 1)) d → Only (W3 br bu bv) w w' → k58 w' := fun w5 I5 G5 => hk58 w5 fun _ w6 e6 => by
      have I6 := I5.drew e6
      have G6 := G5.trans' (only_drew e6)
      have ej : gI (mix F s (j + 1)) j = F j := by rw [mix_get (by omega), if_pos (by omega)]
      refine ⟨fun hx => ?_, fun hx => ?_⟩
      · have hx := dT hx
        refine ⟨_, by omega, j + 1, by rw [wr (by omega)]; omega, hlt, rfl, .inr ⟨j, rfl, by omega, hu, fun i hi' hd => ?_⟩, I6, G6⟩
        rcases N with ⟨-, N⟩ | ⟨p, rfl, -⟩
        · rcases Nat.lt_or_ge i j with h | h
          · rw [N i h] at hd; cases hd
          · obtain rfl : i = j := by omega
            exact Int.le_refl _
        · omega
      · have hx := dF hx
        rcases N with ⟨rfl, -⟩ | ⟨p, rfl, N1, N2, N3⟩
        · omega
        have ep : gI (mix F s (j + 1)) p = F p := by rw [mix_get (by omega), if_pos (by omega)]
        refine ⟨_, rfl, ⟨by omega, by omega⟩, _, Row.int I6.h1 (by rw [mix_len]; omega), _, rfl, ⟨by omega, by omega⟩, _, Row.int I6.h1 (by rw [mix_len]; omega), fun hc => ?_, fun hc => ?_⟩
        · have hc := dT hc
          rw [ej, ep] at hc
          refine ⟨_, by omega, j + 1, by rw [wr (by omega)]; omega, hlt, rfl, .inr ⟨j, rfl, by omega, hu, fun i hi' hd => ?_⟩, I6, G6⟩
          rcases Nat.lt_or_ge i j with h | h
          · have := N3 i h hd; omega
          · obtain rfl : i = j := by omega
            exact Int.le_refl _
        · have hc := dF hc
          rw [ej, ep] at hc
          refine ⟨_, by omega, j + 1, by rw [wr (by omega)]; omega, hlt, rfl, .inr ⟨p, rfl, by omega, N2, fun i hi' hd => ?_⟩, I6, G6⟩
          rcases Nat.lt_or_ge i j with h | h
          · exact N3 i h hd
          · obtain rfl : i = j := by omega
            omega
    obtain ⟨oc, cc, c1, a, ha, oi, ci, c2, a', ha', c3⟩ := I4.sq.costCell (i := rowAt Q k (lastOf ord)) (j := j) hrl hlt
    change _ = some (Value.int .i64 (Q.c (rowAt Q k (lastOf ord)) j)) at c3
    refine ⟨_, _, _, c1, a, ha, ⟨by omega, by simp only; omega⟩, _, _, _, c2, a', ha', ⟨by omega, by simp only; omega⟩, _, c3, fun hfin => ?_, fun hfin => ?_⟩
    · have hfin := nT hfin
      intro w5 e5
      have I5 := I4.drew e5
      have G5 := G4.trans' (only_drew e5)
      have hbc := hi.cost.bd hrl hlt hfin
      have cu : w5.cell? ((⟨bu, 0, none⟩ : Addr).add (((rowAt Q k (lastOf ord) : Nat) : Int).toNat * 1)) = some (.int .i64 (gI D (rowAt Q k (lastOf ord)))) := Row.int I5.sq.hu (by omega)
      have cv : w5.cell? ((⟨bv, 0, none⟩ : Addr).add ((j : Int).toNat * 1)) = some (.int .i64 (gI V j)) := Row.int I5.sq.hv (by omega)
      have cs := Row.int I5.h1 (j := j) (by rw [mix_len]; omega)
      rw [mix_get (by omega), if_neg (by omega)] at cs
      have e1 : IntKind.wrap .i64 (IntKind.wrap .i64 (Q.c (rowAt Q k (lastOf ord)) j - gI D (rowAt Q k (lastOf ord))) - gI V j) = Q.c (rowAt Q k (lastOf ord)) j - gI D (rowAt Q k (lastOf ord)) - gI V j := by
        rw [wr (x := Q.c (rowAt Q k (lastOf ord)) j - gI D (rowAt Q k (lastOf ord))) (by omega), wr (by omega)]
      refine ⟨_, _, _, I5.sq.f3, _, rfl, ⟨by omega, by simp only; omega⟩, _, cu, _, _, _, I5.sq.f4, _, rfl, ⟨by omega, by simp only; omega⟩, _, cv, _, rfl, ⟨by omega, by omega⟩, _, cs, ?_⟩
      rw [e1]
      refine ⟨fun hc => ?_, fun hc => ?_⟩
      · have hhit : hit Q k D V s d (lastOf ord) j = true := hit_of.2 ⟨hu, hfin, dT hc⟩
        refine ⟨_, rfl, ⟨by omega, by omega⟩, Row.thereI I5.h1 (by rw [mix_len]; omega), fun w6 e6 => ?_⟩
        have I6 := I5.setS hlt e6
        have G6 := Only.w3 G5 hB (only_setAdd e6) (.inl hb1)
        refine ⟨_, rfl, ⟨by omega, by omega⟩, Row.thereI I6.h2 (by rw [mix_len]; omega), fun w7 e7 => ?_⟩
        have I7 := I6.setP hlt e7
        have G7 := Only.w3 G6 hB (only_setAdd e7) (.inl hb2)
        refine key w7 ?_ G7
        rw [← mix_set (by omega), ← mix_set (by omega), hh, hg, if_pos hhit, if_pos hhit]
        exact I7
      · have hnh : ¬ hit Q k D V s d (lastOf ord) j = true := fun h => by have := (hit_of.1 h).2.2; have := dF hc; omega
        refine key w5 ?_ G5
        rw [← mix_same (by omega) (by rw [hh, if_neg hnh]), ← mix_same (by omega) (by rw [hg, if_neg hnh])]
        exact I5
    · have hfin := nF hfin
      have hnh : ¬ hit Q k D V s d (lastOf ord) j = true := fun h => (hit_of.1 h).2.1 hfin
      refine key w4 ?_ G4
      rw [← mix_same (by omega) (by rw [hh, if_neg hnh]), ← mix_same (by omega) (by rw [hg, if_neg hnh])]
      exact I4
  have hge : ¬ (j : Int) < (Q.size : Int) := dF hge
  obtain rfl : j = Q.size := by omega
  have hun : ∀ i, i < Q.size → (gB d i = false ↔ i ∉ ord) := fun i hi => by
    have := T.use i hi
    cases h : gB d i
    · rw [h] at this; exact ⟨fun _ hh => Bool.noConfusion (this.2 hh), fun _ => rfl⟩
    · rw [h] at this; exact ⟨fun hh => Bool.noConfusion hh, fun hh => absurd (this.1 rfl) hh⟩
  obtain ⟨f, hf1, hf2, hf3⟩ := T2.next hm
  rcases N with ⟨-, N⟩ | ⟨p, rfl, N1, N2, N3⟩
  · have := N f hf1; rw [(hun f hf1).2 hf2] at this; cases this
  have hpo := (hun p N1).1 N2
  have es : ∀ i, i < Q.size → gI (mix F s Q.size) i = F i := fun i hi => by rw [mix_get (by omega), if_pos hi]
  have hls : (mix F s Q.size).length = Q.size := by rw [mix_len]; exact l3'
  have hlb : (mix G b Q.size).length = Q.size := by rw [mix_len]; exact l4'
  clear hh hg hF hG hge hj
  generalize mix F s Q.size = s1 at *
  generalize mix G b Q.size = bb at *
  have hmin : ∀ j, j < Q.size → j ∉ ord → gI s1 p ≤ gI s1 j := fun i hi ho => by rw [es p N1, es i hi]; exact N3 i hi ((hun i hi).2 ho)
  have hsf := hmin f hf1 hf2
  have hsp := (T2.slack (fun _ h => h) hm N1 hpo).1
  generalize hdl : gI s1 p = δ at *
  clear N3 es
  refine ⟨_, rfl, ⟨by omega, by omega⟩, _, Row.int I4.h1 (by omega), _, _, _, I4.sq.f3, _, rfl, ⟨by omega, by simp only; omega⟩, _, Row.int I4.sq.hu (by simp only; omega), _, rfl, ⟨by omega, by simp only; omega⟩, Row.thereI I4.sq.hu (by simp only; omega), fun w5 e5 => ?_⟩
  rw [hdl] at e5
  have hwk : IntKind.wrap .i64 (gI D k + δ) = gI D k + δ := wr (by omega)
  have I5 := I4.setU (j := k) hk e5
  rw [hdl]
  have G5 := Only.w3 G4 hB (only_setAdd e5) (.inr (.inr (.inl rfl)))
  refine ⟨_, I5.sq.f1, ?_⟩
  rw [hwk] at I5
  let FV : Nat → Int := fun j => if gB d j then gI V j - δ else gI V j
  let FSq : Nat → Int := fun j => if gB d j = true ∨ gI s1 j = Inf then gI s1 j else gI s1 j - δ
  refine ⟨fun n x w' => ∃ (t : Nat) (D' : List Int), x = (t : Int) ∧ t ≤ Q.size ∧ n = Q.size - t ∧ D'.length = Q.size ∧ (∀ i, i < Q.size → (Up Q k d t i → gI D' i = gI D i + δ) ∧ (¬ Up Q k d t i → gI D' i = gI D i)) ∧ InsAt w' B q br bu bv A { Q with rowD := D', colD := mix FV V t } B b2 b3 (mix FSq s1 t) bb d ∧ Only (W3 br bu bv) w w', ⟨_, 0, D.set k (gI D k + δ), rfl, Nat.zero_le _, rfl, by simpa using l1', fun i hi => ⟨fun hu => ?_, fun hu => ?_⟩, by rw [mix_zero, mix_zero]; exact I5, G5⟩, ?_⟩
  · rcases hu with e | ⟨x, hx, _⟩
    · rw [gI_set (by omega), if_pos e, e]
    · omega
  · rw [gI_set (by omega), if_neg (fun e => hu (.inl e))]
  clear I5 G5 I4 G4 e5 w5 w4
  rintro n _ w4 x ⟨t, D', rfl, ht, rfl, lD, hD, I4, G4⟩
  refine ⟨fun hlt => ?_, fun hge => ?_⟩
  · have hlt : t < Q.size := by have : (t : Int) < (Q.size : Int) := dT hlt; omega
    have hbV := T.vlo t hlt
    have hbv := hi.bv t hlt
    have hbn := T.vneg t hlt
    have hbf := (hi.free t hlt).1
    refine ⟨_, rfl, ⟨by omega, by omega⟩, _, Row.bool I4.h3 (by omega), fun hu w5 e5 => ?_, fun hu => ?_⟩
    · have I5 := I4.drew e5
      have G5 := G4.trans' (only_drew e5)
      have hto := (T.use t hlt).1 hu
      have hm0 := hm t hto
      obtain ⟨r, hr, hrk⟩ : ∃ r : Nat, gI Q.rowOf t = (r : Int) ∧ r < k := ⟨(gI Q.rowOf t).toNat, by omega, by rcases hi.row t hlt with h | h <;> omega⟩
      have hnu : ¬ Up Q k d t r := by
        rintro (e | ⟨x, hx, hxd, hxr⟩)
        · omega
        · have := hi.inj x t (by omega) hlt (by omega) (by omega); omega
      have hDr := (hD r (by omega)).2 hnu
      have hb1 := T.dlo r (by omega)
      have hb2' := hi.bu r (by omega)
      have cr : w5.cell? ((⟨br, 0, none⟩ : Addr).add ((t : Int).toNat * 1)) = some (.int .i64 (r : Int)) := by rw [← hr]; exact Row.int I5.sq.hr (by have := hi.len.1; omega)
      have cd : w5.cell? ((⟨bu, 0, none⟩ : Addr).add ((r : Int).toNat * 1)) = some (.int .i64 (gI D r)) := by rw [← hDr]; exact Row.int I5.sq.hu (by omega)
      refine ⟨_, _, _, I5.sq.f3, _, _, _, I5.sq.f2, _, rfl, ⟨by omega, by simp only; omega⟩, _, cr, _, rfl, ⟨by omega, by simp only; omega⟩, _, cd, _, rfl, ⟨by omega, by simp only; omega⟩, Row.thereI I5.sq.hu (by simp only; omega), fun w6 e6 => ?_⟩
      rw [wr (x := gI D r + δ) (by omega)] at e6
      have I6 := I5.setU (by show r < Q.size; omega) e6
      have G6 := Only.w3 G5 hB (only_setAdd e6) (.inr (.inr (.inl rfl)))
      have cv : w6.cell? ((⟨bv, 0, none⟩ : Addr).add ((t : Int).toNat * 1)) = some (.int .i64 (gI V t)) := by
        have := Row.int I6.sq.hv (j := t) (by simp only; rw [mix_len]; omega)
        rw [mix_get (by omega), if_neg (by omega)] at this; exact this
      refine ⟨_, _, _, I6.sq.f4, _, rfl, ⟨by omega, by simp only; omega⟩, _, cv, _, rfl, ⟨by omega, by simp only; omega⟩, Row.thereI I6.sq.hv (by simp only; rw [mix_len]; omega), fun w7 e7 => ?_⟩
      rw [wr (x := gI V t - δ) (by omega)] at e7
      have I7 := I6.setV (by show t < Q.size; omega) e7
      have G7 := Only.w3 G6 hB (only_setAdd e7) (.inr (.inr (.inr rfl)))
      refine ⟨_, by omega, t + 1, D'.set r (gI D r + δ), by rw [wr (by omega)]; omega, hlt, rfl, by simpa using lD, fun i hi' => ?_, ?_, G7⟩
      · rw [gI_set (by omega)]
        by_cases e : i = r
        · subst e
          exact ⟨fun _ => by rw [if_pos rfl], fun hn => absurd (.inr ⟨t, by omega, hu, hr⟩) hn⟩
        · rw [if_neg e]
          refine ⟨fun hn => (hD i hi').1 ?_, fun hn => (hD i hi').2 fun h => hn ?_⟩
          · rcases hn with h | ⟨x, hx, hxd, hxr⟩
            · exact .inl h
            · rcases Nat.lt_or_ge x t with h | h
              · exact .inr ⟨x, h, hxd, hxr⟩
              · obtain rfl : x = t := by omega
                omega
          · rcases h with h | ⟨x, hx, hxd, hxr⟩
            · exact .inl h
            · exact .inr ⟨x, by omega, hxd, hxr⟩
      · rw [← mix_set (F := FV) (P := V) (by omega), ← mix_same (F := FSq) (P := s1) (by omega) (by show (if _ then _ else _) = _; rw [if_pos (.inl hu)])]
        have : FV t = gI V t - δ := by show (if _ then _ else _) = _; rw [if_pos hu]
        rw [this]
        exact I7
    · have hto := (hun t hlt).1 hu
      have cs : w4.cell? ((⟨B, 0, none⟩ : Addr).add ((t : Int).toNat * 1)) = some (.int .i64 (gI s1 t)) := by
        have := Row.int I4.h1 (j := t) (by rw [mix_len]; omega)
        rw [mix_get (by omega), if_neg (by omega)] at this; exact this
      have hup : ∀ i, i < Q.size → (Up Q k d (t + 1) i → gI D' i = gI D i + δ) ∧ (¬ Up Q k d (t + 1) i → gI D' i = gI D i) := fun i hi' => by
        refine ⟨fun hn => (hD i hi').1 ?_, fun hn => (hD i hi').2 fun h => hn ?_⟩
        · rcases hn with h | ⟨x, hx, hxd, hxr⟩
          · exact .inl h
          · rcases Nat.lt_or_ge x t with h | h
            · exact .inr ⟨x, h, hxd, hxr⟩
            · obtain rfl : x = t := by omega
              rw [hu] at hxd; cases hxd
        · rcases h with h | ⟨x, hx, hxd, hxr⟩
          · exact .inl h
          · exact .inr ⟨x, by omega, hxd, hxr⟩
      have hfv : FV t = gI V t := by show (if _ then _ else _) = _; rw [if_neg (by rw [hu]; exact Bool.noConfusion)]
      refine ⟨_, rfl, ⟨by omega, by omega⟩, _, cs, fun hfin => ?_, fun hfin => ?_⟩
      · have hfin := nT hfin
        have hsl := T2.slack (fun _ h => h) hm hlt hto
        have hsl2 := hsl.2.resolve_left hfin
        refine ⟨_, rfl, ⟨by omega, by omega⟩, _, cs, _, rfl, ⟨by omega, by omega⟩, Row.thereI I4.h1 (by rw [mix_len]; omega), fun w5 e5 => ?_⟩
        rw [wr (x := gI s1 t - δ) (by omega)] at e5
        have I5 := I4.setS (by show t < Q.size; omega) e5
        have G5 := Only.w3 G4 hB (only_setAdd e5) (.inl hb1)
        refine ⟨_, by omega, t + 1, D', by rw [wr (by omega)]; omega, hlt, rfl, lD, hup, ?_, G5⟩
        have : FSq t = gI s1 t - δ := by
          show (if _ then _ else _) = _
          rw [if_neg]
          rintro (h | h)
          · rw [hu] at h; cases h
          · exact hfin h
        rw [← mix_set (F := FSq) (P := s1) (by omega), ← mix_same (F := FV) (P := V) (by omega) hfv, this]
        exact I5
      · have hfin := nF hfin
        refine ⟨_, by omega, t + 1, D', by rw [wr (by omega)]; omega, hlt, rfl, lD, hup, ?_, G4⟩
        have : FSq t = gI s1 t := by
          show (if _ then _ else _) = _
          rw [if_pos (.inr hfin)]
        rw [← mix_same (F := FSq) (P := s1) (by omega) this, ← mix_same (F := FV) (P := V) (by omega) hfv]
        exact I4
  have hge : ¬ (t : Int) < (Q.size : Int) := dF hge
  obtain rfl : t = Q.size := by omega
  have hup : ∀ i, InTree Q k ord i ↔ Up Q k d Q.size i := fun i => by
    refine ⟨fun h => ?_, fun h => ?_⟩
    · rcases h with h | ⟨x, hx, hxr⟩
      · exact .inl h
      · have := T.path.lt x hx
        exact .inr ⟨x, this, (T.use x this).2 hx, hxr⟩
    · rcases h with h | ⟨x, hx, hxd, hxr⟩
      · exact .inl h
      · exact .inr ⟨x, (T.use x hx).1 hxd, hxr⟩
  have T3 : Tree Q R C k D' (mix FV V Q.size) (mix FSq s1 Q.size) bb (d.set p true) (p :: ord) (InT ord) := by
    refine T2.raise hm N1 hpo (fun i hi ho => by rw [hdl]; exact hmin i hi ho) ⟨lD, by rw [mix_len]; exact l2', by rw [mix_len]; exact hls⟩ (fun i hi => ?_) (fun i hi => ?_) fun i hi ho => ?_
    · rw [hup, hdl]; exact hD i hi
    · rw [mix_get (by omega), if_pos hi, hdl]
      refine ⟨fun ho => ?_, fun ho => ?_⟩
      · show (if _ then _ else _) = _
        rw [if_pos ((T.use i hi).2 ho)]
      · show (if _ then _ else _) = _
        rw [if_neg (by rw [(hun i hi).2 ho]; exact Bool.noConfusion)]
    · rw [mix_get (by omega), if_pos hi, hdl]
      refine ⟨fun hf => ?_, fun hf => ?_⟩
      · show (if _ then _ else _) = _
        rw [if_neg]
        rintro (h | h)
        · rw [(hun i hi).2 ho] at h; cases h
        · exact hf h
      · show (if _ then _ else _) = _
        rw [if_pos (.inr hf)]; exact hf
  generalize mix FV V Q.size = V' at *
  generalize mix FSq s1 Q.size = s' at *
  have hDk := (hD k hk).1 (.inl rfl)
  clear hup hD FV FSq hge ht
  have hdk' := T3.dlo k hk
  refine ⟨_, rfl, ⟨by omega, by omega⟩, Row.thereB I4.h3 (by omega), fun w5 e5 => ?_⟩
  have I5 := I4.setD e5
  have G5 := Only.w3 G4 hB (only_setAdd e5) (.inl hb3)
  refine ⟨_, _, _, I5.sq.f2, _, rfl, ⟨by omega, by simp only; omega⟩, _, Row.int I5.sq.hr (by have := hi.len.1; simp only; omega), fun hfr => ?_, fun hfr => ?_⟩
  · have hfr : gI Q.rowOf p < 0 := dT hfr
    have H := T3.hole hm hfr
    refine ⟨fun n x w' => ∃ (p : Nat) (l : List Nat) (r : List Int), x = (p : Int) ∧ n = l.length ∧ Hole Q k D' V' bb r p l ∧ SqAt w' q br bu bv A { Q with rowOf := r, rowD := D', colD := V' } ∧ Row w' b2 3 (intsV bb) ∧ Only (W3 br bu bv) w w', ⟨_, p, ord, _, rfl, rfl, H, I5.sq, I5.h2, G5⟩, ?_⟩
    clear I4 G4 e5
    rintro n _ w6 x ⟨p', l, r, rfl, rfl, H, S6, B6, G6⟩
    have hpl := H.path.2.1
    have hrl' := H.len
    refine ⟨fun hx => ⟨_, rfl, ⟨by omega, by omega⟩, _, Row.int B6 (by omega), fun hb => ?_, fun hb => ?_⟩, fun hx => absurd (by omega) (dF hx)⟩
    · have hb := dT hb
      intro w7 e7
      have S7 := S6.grow (only_drew e7)
      have B7 := B6.grow (only_drew e7)
      have G7 := G6.trans' (only_drew e7)
      obtain ⟨p2, hp2, hp2l, l', hl', H'⟩ := H.step hb
      have cb : w7.cell? ((⟨b2, 0, none⟩ : Addr).add ((p' : Int).toNat * 1)) = some (.int .i64 (p2 : Int)) := by rw [← hp2]; exact Row.int B7 (by omega)
      refine ⟨_, _, _, S7.f2, _, _, _, S7.f2, _, rfl, ⟨by omega, by omega⟩, _, cb, _, rfl, ⟨by omega, by simp only; omega⟩, _, Row.int S7.hr (by simp only; omega), _, rfl, ⟨by omega, by simp only; omega⟩, Row.thereI S7.hr (by simp only; omega), fun w8 e8 => ?_⟩
      have S8 := S7.setR (by show p' < Q.size; omega) e8
      have G8 := Only.w3 G7 hB (only_setAdd e8) (.inr (.inl rfl))
      have B8 := B7.keep (only_setAdd e8) (by omega)
      have cb8 : w8.cell? ((⟨b2, 0, none⟩ : Addr).add ((p' : Int).toNat * 1)) = some (.int .i64 (p2 : Int)) := by rw [← hp2]; exact Row.int B8 (by omega)
      exact ⟨_, rfl, ⟨by omega, by omega⟩, _, cb8, _, hl', p2, l', _, rfl, rfl, H', S8, B8, G8⟩
    · have hb := dF hb
      refine ⟨_, _, _, S6.f2, _, rfl, ⟨by omega, by simp only; omega⟩, Row.thereI S6.hr (by simp only; omega), fun w7 e7 => ?_⟩
      have S7 := S6.setR (by show p' < Q.size; omega) e7
      have G7 := Only.w3 G6 hB (only_setAdd e7) (.inr (.inl rfl))
      exact ⟨rfl, _, _, _, S7, H.last (by omega) T3 (by omega), G7⟩
  · have hfr : ¬ gI Q.rowOf p < 0 := dF hfr
    refine ⟨_, _, _, I5.sq.f2, _, rfl, ⟨by omega, by simp only; omega⟩, _, Row.int I5.sq.hr (by have := hi.len.1; simp only; omega), (d.set p true).count false, count_mark d p (by omega) N2, D', V', s', bb, d.set p true, p :: ord, T3, fun x hx => ?_, rfl, ?_, rfl, I5, G5⟩
    · rcases List.mem_cons.1 hx with rfl | hx
      · omega
      · exact hm x hx
    · rw [rowAt_nat]; show gI Q.rowOf p = _; omega
end Go.Proofs.Ytalplekmbhemnaa
