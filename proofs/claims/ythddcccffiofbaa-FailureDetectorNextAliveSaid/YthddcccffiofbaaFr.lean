/- The contracts of the reference's functions (layer 21). -/
import Derived.Test.YthddcccffiofbaaFd
namespace Go.Proofs.Ythddcccffiofbaa
open Go Go.Nf

/-- the reference's state; its row of records lies in a block that A does not name -/
structure WatAt (w : World) (A : Nat → Prop) (q : Nat) (d : Det) : Prop where
  ex : ∃ g c, Row w q 57 [.int .i64 d.self, .int .i64 d.most, .slice (some ⟨g, 0, none⟩) d.ms.length c] ∧ Own w 0 59 3 (some ⟨g, 0, none⟩) d.ms.length c (encMs d.ms) ∧ g ≠ q ∧ ¬ A g
  fit : Fit d
theorem inBlock_some {g b : Nat} (h : inBlock (some ⟨g, 0, none⟩) b) : g = b := by
  obtain ⟨a, e, rfl⟩ := h
  cases e; rfl
theorem WatAt.keep {w w' : World} {A S : Nat → Prop} {q : Nat} {d : Det} (h : WatAt w A q d) (o : Only S w w') (hq : ¬ S q) (hA : ∀ b, S b → A b) : WatAt w' A q d := by
  obtain ⟨⟨g, c, h1, h2, h3, h4⟩, hf⟩ := h
  exact ⟨⟨g, c, h1.keep o hq, h2.keep o (fun b hb hs => h4 (by rw [inBlock_some hb]; exact hA b hs)), h3, h4⟩, hf⟩
theorem WatAt.grow {w w' : World} {A : Nat → Prop} {q : Nat} {d : Det} (h : WatAt w A q d) (o : Grow w w') : WatAt w' A q d := h.keep o (fun h => h) (fun _ h => h.elim)

section
variable {A : Nat → Prop}
theorem is_c (q : Nat) (who : Int) (d : Det) (w : World) (h : WatAt w A q d) :
    Calls Try.prog 27 #[.pointer (some ⟨q, 0, none⟩), .int .i64 who] w fun e w' => e = .returned (.bool (decide (d.other who))) ∧ w = w' := by
  obtain ⟨⟨g, c, hp, ho, hn, hA⟩, hf⟩ := h
  refine nf27 q who w _ ⟨fun a => ⟨_, _, _, hp.cell rfl, fun b => ⟨_, hp.cell rfl, fun c => ⟨ret_bool ?_, rfl⟩, fun c => ⟨ret_bool ?_, rfl⟩⟩, fun b => ⟨ret_bool ?_, rfl⟩⟩, fun a => ⟨ret_bool ?_, rfl⟩⟩
  · have := dT a; have := dT b; have := nT c; symm; rw [decide_eq_true_eq]; unfold Det.other; omega
  · have := nF c; symm; rw [decide_eq_false_iff_not]; unfold Det.other; omega
  · have := dF b; symm; rw [decide_eq_false_iff_not]; unfold Det.other; omega
  · have := dF a; symm; rw [decide_eq_false_iff_not]; unfold Det.other; omega
/-- suspected, of any number -/
def Det.susI (d : Det) (who now : Int) : Bool := decide (d.other who) && d.sus who.toNat now
theorem susI_nat {d : Det} {k : Nat} {now : Int} (hk : k < d.ms.length) : d.susI (k : Int) now = d.sus k now := by
  unfold Det.susI Det.other
  rw [toNat_cast]
  cases hs : d.sus k now
  · simp
  · have : (k : Int) ≠ d.self := by
      unfold Det.sus at hs
      rw [List.getElem?_eq_getElem hk] at hs
      simp only [Bool.and_eq_true] at hs
      exact nT hs.1
    simp [this, hk]
theorem rsuspected_c (q : Nat) (who now : Int) (d : Det) (w : World) (h : WatAt w A q d) :
    Calls Try.prog 29 #[.pointer (some ⟨q, 0, none⟩), .int .i64 who, .int .i64 now] w fun e w' => e = .returned (.bool (d.susI who now)) ∧ Grow w w' := by
  refine nf29 q who now w _ fun w1 e1 => ?_
  have g1 : Grow w w1 := only_drew e1
  have h1 := h.grow g1
  refine (is_c q who d w1 h1).mono ?_
  rintro _ _ ⟨rfl, rfl⟩
  refine ⟨_, rfl, fun ho => ?_, fun ho => ⟨ret_bool (by unfold Det.susI; rw [ho]; rfl), g1⟩⟩
  have hoo := dT ho
  obtain ⟨k, m, rfl, hk, hm⟩ := other_get hoo
  obtain ⟨⟨g, c, hp, hown, hn, hA⟩, hf⟩ := h1
  refine ⟨_, _, _, hp.cell rfl, _, rfl, ⟨by omega, by omega⟩, _, hown.cell (enc0 hm), _, _, _, hp.cell rfl, _, rfl, ⟨by omega, by omega⟩, _, hown.cell2 (enc1 hm), (ago_c _ _ _).mono ?_⟩
  rintro _ _ ⟨rfl, rfl⟩
  have hne : (k : Int) ≠ d.self := hoo.2.2
  have e : d.susI (k : Int) now = decide (m.tmo < elI now m.last) := by
    rw [susI_nat hk]; unfold Det.sus; rw [hm]; simp [hne]
  refine ⟨_, rfl, kept_same rfl, kept_same rfl, fun hd => ⟨ret_bool ?_, g1⟩, fun hd => ⟨ret_bool ?_, g1⟩⟩
  · rw [e]; exact hd.symm
  · rw [e]; exact hd.symm

def Det.of (d : Det) (who : Int) : Mb := if d.other who then (d.ms[who.toNat]?).getD ⟨0, 0, 0⟩ else ⟨0, 0, 0⟩
theorem of_tmo (d : Det) (who : Int) : (d.of who).tmo = d.tmo who := by
  unfold Det.of Det.tmo; split
  · rename_i ho; obtain ⟨k, m, rfl, hk, hm⟩ := other_get ho; rw [toNat_cast, hm]; rfl
  · rfl
theorem of_wrong (d : Det) (who : Int) : (d.of who).wrong = d.wrong who := by
  unfold Det.of Det.wrong; split
  · rename_i ho; obtain ⟨k, m, rfl, hk, hm⟩ := other_get ho; rw [toNat_cast, hm]; rfl
  · rfl
theorem of_c (q : Nat) (who : Int) (d : Det) (w : World) (h : WatAt w A q d) :
    Calls Try.prog 22 #[.pointer (some ⟨q, 0, none⟩), .int .i64 who] w fun e w' => e = .returned (.agg #[.int .i64 (d.of who).last, .int .i64 (d.of who).tmo, .int .i64 (d.of who).wrong]) ∧ Grow w w' := by
  refine nf22 q who w _ fun w1 e1 => ?_
  have g1 : Grow w w1 := only_alloc e1
  have r1 := Row.new e1
  have h1 := h.grow g1
  refine (is_c q who d w1 h1).mono ?_
  rintro _ _ ⟨rfl, rfl⟩
  refine ⟨_, rfl, fun ho => ?_, fun ho => ?_⟩
  · have hoo := dT ho
    obtain ⟨k, m, rfl, hk, hm⟩ := other_get hoo
    obtain ⟨⟨g, c, hp, hown, hn, hA⟩, hf⟩ := h1
    refine ⟨_, _, _, hp.cell rfl, _, rfl, ⟨by omega, by omega⟩, _, hown.cell (enc0 hm), _, hown.cell2 (enc1 hm), _, hown.cell2 (enc2 hm), r1.there (by simp), fun w2 e2 => ?_⟩
    have r2 := r1.set e2
    have e : d.of (k : Int) = m := by unfold Det.of; rw [if_pos hoo, toNat_cast, hm]; rfl
    exact ⟨_, r2.cell rfl, _, r2.cell rfl, _, r2.cell rfl, by rw [e], g1.trans (only_set e2) fun b hb hbe => by subst hbe; omega⟩
  · refine ⟨r1.there (by simp), fun w2 e2 => ?_⟩
    have r2 := r1.set e2
    have e : d.of who = ⟨0, 0, 0⟩ := by unfold Det.of; rw [if_neg (dF ho)]
    exact ⟨_, r2.cell rfl, _, r2.cell rfl, _, r2.cell rfl, by rw [e], g1.trans (only_set e2) fun b hb hbe => by subst hbe; omega⟩

theorem rsuspects_c (q : Nat) (now : Int) (d : Det) (w : World) (h : WatAt w A q d) :
    Calls Try.prog 21 #[.pointer (some ⟨q, 0, none⟩), .int .i64 now] w fun e w' =>
      ∃ o c, e = .returned (.slice o (d.upto now d.ms.length).length c) ∧ Own w' (hs w) 3 1 o (d.upto now d.ms.length).length c (ints (d.upto now d.ms.length)) ∧ Grow w w' := by
  have hlen := h.fit.len
  refine nf21 q now w _ fun w0 e0 => ⟨fun n o k c x w' => ∃ j : Nat, x = (j : Int) ∧ j ≤ d.ms.length ∧ n = d.ms.length - j ∧ k = (d.upto now j).length ∧ Own w' (hs w) 3 1 o k c (ints (d.upto now j)) ∧ Grow w w', ?_, ?_⟩
  · exact ⟨_, 0, rfl, Nat.zero_le _, rfl, rfl, (Row.new (l := []) e0).own (Nat.le_refl _) rfl (Nat.zero_le _), only_alloc e0⟩
  rintro n _ w1 o k c x ⟨j, rfl, hj, rfl, rfl, hown, g⟩
  have h1 := h.grow g
  obtain ⟨⟨gg, cc, hp, hro, hn, hA⟩, hf⟩ := h1
  refine ⟨_, _, _, hp.cell rfl, fun hlt => ?_, fun hge => ?_⟩
  case refine_2 =>
    have := dF hge
    obtain rfl : j = d.ms.length := by omega
    exact ⟨_, _, rfl, hown, g⟩
  have hlt : j < d.ms.length := by have := dT hlt; omega
  refine (rsuspected_c q j now d w1 (h.grow g)).mono ?_
  rintro _ w2 ⟨rfl, g2⟩
  have hup := upto_succ d now j
  have hle := upto_le d now j
  have hwr : IntKind.wrap .i64 ((j : Int) + 1) = ((j + 1 : Nat) : Int) := by rw [wr (by omega)]; omega
  refine ⟨_, rfl, fun hs' => ?_, fun hs' => ?_⟩
  · rw [susI_nat hlt] at hs'
    intro w3 e3
    rw [if_pos hs'] at hup
    refine run_append_row elem43 ((hown.grow g2).grow (only_alloc e3)) (Row.new e3) rfl (by simp [Value.oneCell']) (by unfold maxLen; omega) (by omega) ?_ ?_
    · have := g.size; have := g2.size; have := hs_alloc e3; omega
    intro o' c' w4 hown' ho' _
    refine ⟨_, _, _, rfl, _, by omega, j + 1, hwr, hlt, rfl, ?_, ?_, ?_⟩
    · rw [hup, List.length_append]; rfl
    · rw [hup]; unfold ints at hown' ⊢; rw [List.map_append]; exact hown'
    · exact ((g.trans' g2).trans' (only_alloc e3)).trans ho' fun b hb hin => by
        have := ((hown.base) b hin).1
        omega
  · rw [susI_nat hlt] at hs'
    rw [if_neg (by rw [hs']; simp), List.append_nil] at hup
    exact ⟨_, by omega, j + 1, hwr, hlt, rfl, by rw [hup], by rw [hup]; exact hown.grow g2, g.trans' g2⟩

theorem first_c (q : Nat) (behind now : Int) (d : Det) (w : World) (h : WatAt w A q d) :
    Calls Try.prog 23 #[.pointer (some ⟨q, 0, none⟩), .int .i64 behind, .int .i64 now] w fun e w' => e = .returned (.int .i64 (d.next behind now)) ∧ Grow w w' := by
  have hlen := h.fit.len
  obtain ⟨gg, cc, hp, -, -, -⟩ := h.ex
  refine nf23 q behind now w _ ⟨fun a => ⟨ret_int ?_, Only.refl _ _⟩, fun a => ⟨_, _, _, hp.cell rfl, fun b => ⟨ret_int ?_, Only.refl _ _⟩, fun b => ⟨
    fun n x w' => ∃ j : Nat, x = ((j + 1 : Nat) : Int) ∧ j ≤ d.ms.length ∧ n = d.ms.length - j ∧ d.nxt behind.toNat now (d.ms.length - j) j = d.nxt behind.toNat now d.ms.length 0 ∧ Grow w w', ?_, ?_⟩⟩⟩
  · have := dT a; unfold Det.next; rw [if_neg (by omega)]
  · have := dT b; unfold Det.next; rw [if_neg (by omega)]
  · exact ⟨_, 0, rfl, Nat.zero_le _, rfl, rfl, Only.refl _ _⟩
  have a := dF a
  have b := dF b
  obtain ⟨r, rfl⟩ := Int.eq_ofNat_of_zero_le (show 0 ≤ behind by omega)
  have hq : r < d.ms.length := by omega
  have hnext : d.next (r : Int) now = d.nxt r now d.ms.length 0 := by unfold Det.next; rw [if_pos (by omega), toNat_cast]
  rintro n _ w1 x ⟨j, rfl, hj, rfl, hI, g⟩
  rw [toNat_cast] at hI
  obtain ⟨gg, cc, hp, -, -, -⟩ := (h.grow g).ex
  refine ⟨_, _, _, hp.cell rfl, fun hlt => ?_, fun hge => ⟨ret_int ?_, g⟩⟩
  case refine_2 =>
    have := dF hge
    obtain rfl : j = d.ms.length := by omega
    rw [Nat.sub_self] at hI
    rw [hnext, ← hI]; rfl
  have hlt : j < d.ms.length := by have := dT hlt; omega
  have hidx : Int.tmod (IntKind.wrap .i64 ((r : Int) + ((j + 1 : Nat) : Int))) ((d.ms.length : Nat) : Int) = (((r + 1 + j) % d.ms.length : Nat) : Int) := by
    rw [wr (by omega), ← tmod_cast]
    congr 1
    omega
  refine ⟨_, _, _, hp.cell rfl, by omega, ?_⟩
  rw [hidx]
  refine (rsuspected_c q _ now d w1 (h.grow g)).mono ?_
  rintro _ w2 ⟨rfl, g2⟩
  have hstep : d.nxt r now (d.ms.length - j) j = if d.sus ((r + 1 + j) % d.ms.length) now then d.nxt r now (d.ms.length - (j + 1)) (j + 1) else (((r + 1 + j) % d.ms.length : Nat) : Int) := by
    rw [show d.ms.length - j = (d.ms.length - (j + 1)) + 1 from by omega]; rfl
  rw [susI_nat (Nat.mod_lt _ (by omega))]
  refine ⟨_, rfl, fun hs' => ⟨_, by omega, j + 1, by rw [wr (by omega)]; omega, hlt, rfl, ?_, g.trans' g2⟩, fun hs' => ⟨ret_int ?_, g.trans' g2⟩⟩
  · rw [hstep, if_pos hs'] at hI; rw [toNat_cast]; exact hI
  · rw [hstep, if_neg (by rw [hs']; simp)] at hI; rw [hnext, ← hI]
end
end Go.Proofs.Ythddcccffiofbaa
