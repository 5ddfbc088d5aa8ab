/- Contract: Format. -/
import Derived.Test.YtolpmdmcbciccaaDoorWo
import Derived.Test.YtolpmdmcbciccaaDoorSh
import Derived.Test.YtolpmdmcbciccaaDoorSg
namespace Go.Proofs.YtolpmdmcbciccaaDoor
open Go Go.Nf Go.RowKit

theorem below_only {B : Nat} {w w' : World} (h : Below B w w') : Only (fun b => B ≤ b) w w' :=
  ⟨h.os, h.tape, h.output, h.size, fun i _ hn => h.block i (Nat.lt_of_not_le hn)⟩
theorem cells_eq (s : Str) : Lib.strCells (BA s) = Lib.byteCells s := by unfold Lib.strCells Lib.byteCells; simp
theorem bytes_append (a b : Str) : Lib.byteCells (a ++ b) = Lib.byteCells a ++ Lib.byteCells b := by unfold Lib.byteCells; simp
theorem bytes_len (a : Str) : (Lib.byteCells a).length = a.length := by unfold Lib.byteCells; simp
/-- a builder at block b that holds a text -/
abbrev Bld (b : Nat) (t : Str) (w : World) : Prop := Lib.IsBuilder 93 5 b b (Lib.byteCells t) w
theorem bld_new {w w1 : World} (e : w1 = w.alloc (.cells #[.pointer none, .slice none 0 0] 93 (0, 0))) : Bld (hs w) [] w1 := by
  refine .inl ⟨Nat.le_refl _, .slice none 0 0, ?_, World.ownsRow_nil _ _ _ _, by simp [Value.ownBlock]⟩
  exact Row.new (l := [.pointer none, .slice none 0 0]) e
theorem write_c {b : Nat} {t s : Str} {w : World} (h : Bld b t w) (hl : t.length + s.length ≤ 140737488355328) (hb : b ≤ hs w) :
    Calls Tryd.prog 49 #[.pointer (some ⟨b, 0, none⟩), .string (BA s)] w fun e w' => (∃ x v, e = .returned (.tuple #[.int .i64 x, v])) ∧ Bld b (t ++ s) w' ∧ Only (fun x => b ≤ x) w w' := by
  refine (Tryd.Builder_WriteString b b (Lib.byteCells t) (BA s) w h (by rw [bytes_len, BA_size]; exact hl) hb).mono ?_
  rintro _ w' ⟨rfl, h1, h2⟩
  rw [cells_eq, ← bytes_append] at h1
  exact ⟨⟨_, _, rfl⟩, .inr h1, below_only h2⟩
theorem string_c {b : Nat} {t : Str} {w : World} (h : Bld b t w) (hb : b ≤ hs w) :
    Calls Tryd.prog 51 #[.pointer (some ⟨b, 0, none⟩)] w fun e w' => e = .returned (.string (BA t)) ∧ Only (fun x => b ≤ x) w w' := by
  refine (Tryd.Builder_String_any b b t w h hb).mono ?_
  rintro _ w' ⟨rfl, h2⟩
  exact ⟨rfl, below_only h2⟩
theorem itoa_c (i : Nat) (hi : i < 5) (w : World) : Calls Tryd.prog 50 #[.int .i64 ((i + 1 : Nat) : Int)] w fun e w' => e = .returned (.string (BA [digit i])) ∧ w = w' := by
  refine (Tryd.strconv_Itoa_small (i + 1) (by omega) w).mono ?_
  rintro _ _ ⟨rfl, rfl⟩
  refine ⟨?_, rfl⟩
  rcases (show i = 0 ∨ i = 1 ∨ i = 2 ∨ i = 3 ∨ i = 4 by omega) with rfl | rfl | rfl | rfl | rfl <;> kernel_rfl
set_option maxHeartbeats 4000000 in
theorem format_c (o : Option Addr) (c : Nat) (p : Pl) (hf : p.Fit) (w : World) {A : Nat → Prop} (h : Lol w A o p.steps) :
    Calls Tryd.prog 28 #[plV p.name o p.steps.length c] w fun e w' => e = .returned (textE p) ∧ Grow w w' := by
  have h := h.low
  refine nf28 (BA p.name) o p.steps.length c w _ fun w1 e1 => ?_
  have r1 := Row.new e1
  have g1 : Grow w w1 := only_alloc e1
  refine ⟨_, r1.cell rfl, _, _, _, r1.cell rfl, (validate_c o c p hf w1 (h.grow g1)).mono ?_⟩
  rintro _ w8 ⟨rfl, g8⟩
  have G8 := g1.trans' g8
  have r8 := r1.grow g8
  refine ⟨_, rfl, fun hv => ⟨?_, G8⟩, fun hv w12 e12 => ?_⟩
  · unfold textE
    rw [if_neg (nT hv), if_neg (nT hv)]
  have hv := nF hv
  have hR := right_iff.1 hv
  have hte : textE p = .tuple #[.string (BA (textL p)), .int .i64 0] := by unfold textE; rw [if_pos hv, if_pos hv]
  rw [hte]
  have hnm := name_len hR.name
  have hfew := hR.few
  have g12 : Grow w8 w12 := only_alloc e12
  have b12 := bld_new e12
  have z8 := G8.size
  have l8 := r8.lt
  have z12 := hs_alloc e12
  have r12 := r8.grow g12
  have h12 := h.grow (G8.trans' g12)
  have low : ∀ b, b < hs w → ¬ hs w8 ≤ b := fun b hb k => by omega
  refine ⟨_, r12.cell rfl, run_cat (a := planW) (b := p.name) (by show 5 + p.name.length ≤ _; omega) ⟨_, rfl, run_cat (a := planW ++ p.name) (b := [10]) (by rw [List.length_append]; show 5 + p.name.length + 1 ≤ _; omega) ⟨_, rfl, (write_c b12 (by rw [List.length_append, List.length_append]; show 0 + (5 + p.name.length + 1) ≤ _; omega) (by omega)).mono ?_⟩⟩⟩
  rintro _ w22 ⟨⟨x23, v24, rfl⟩, b22, o22⟩
  have ea : [] ++ (planW ++ p.name ++ [10]) = accL p 0 := by unfold accL; simp [stepLines, joinL]
  rw [ea] at b22
  refine ⟨_, _, rfl, _, _, _, (r12.keep o22 (by omega)).cell rfl, ?_⟩
  refine ⟨fun n x w' => ∃ i : Nat, x = (i : Int) ∧ i ≤ p.steps.length ∧ n = p.steps.length - i ∧ Bld (hs w8) (accL p i) w' ∧ Only (fun x => hs w8 ≤ x) w12 w', ⟨_, 0, rfl, Nat.zero_le _, rfl, b22, o22⟩, ?_⟩
  rintro n _ w32 x ⟨i, rfl, hi, rfl, b32, o32⟩
  have z32 := o32.size
  refine ⟨fun hlt => ?_, fun hge => ?_⟩
  · have hlt : i < p.steps.length := by have := dT hlt; omega
    have hat : p.steps[i]? = some p.steps[i] := List.getElem?_eq_getElem hlt
    have hal := acc_len hR i (by omega)
    have hll := hR.each _ (List.getElem_mem hlt)
    have hsl : ∀ s ∈ p.steps[i], s.length ≤ 60 := fun s hs => step_len (hR.step s (mem_flat hat hs))
    obtain ⟨a, oi, ci, ha, -, hc, hS⟩ := (h12.keep o32 low).at hat
    generalize p.steps[i] = l at *
    have e1 : IntKind.wrap .i64 ((i : Int) + 1) = ((i + 1 : Nat) : Int) := by rw [wr (by omega)]; omega
    refine ⟨a, ha, ⟨by omega, by omega⟩, _, _, _, hc, ?_⟩
    rw [e1]
    refine (itoa_c i (by omega) w32).mono ?_
    rintro _ _ ⟨rfl, rfl⟩
    refine ⟨_, rfl, run_cat (a := levelW) (b := [digit i]) (by show 6 + 1 ≤ 140737488355328; decide) ⟨_, rfl, run_cat (a := levelW ++ [digit i]) (b := [10]) (by show 7 + 1 ≤ 140737488355328; decide) ⟨_, rfl, (write_c b32 (by show _ + 8 ≤ _; omega) (by omega)).mono ?_⟩⟩⟩
    rintro _ w50 ⟨⟨x51, v52, rfl⟩, b50, o50⟩
    have e0 : accL p i ++ (levelW ++ [digit i] ++ [10]) = accS p i l 0 := by rw [accS_zero]; unfold opens; simp
    rw [e0] at b50
    refine ⟨_, _, rfl, fun n x w' => ∃ j : Nat, x = (j : Int) ∧ j ≤ l.length ∧ n = l.length - j ∧ Bld (hs w8) (accS p i l j) w' ∧ Only (fun x => hs w8 ≤ x) w32 w', ⟨_, 0, rfl, Nat.zero_le _, rfl, b50, o50⟩, ?_⟩
    rintro n2 _ w57 x ⟨j, rfl, hj, rfl, b57, o57⟩
    have z57 := o57.size
    have hsa := accS_len hR hat j
    refine ⟨fun hlt2 => ?_, fun hge2 => ⟨_, by omega, i + 1, by omega, hlt, rfl, ?_, o32.trans' o57⟩⟩
    · have hlt2 : j < l.length := by have := dT hlt2; omega
      have hsj := List.getElem?_eq_getElem hlt2
      obtain ⟨a2, ha2, -, hc2⟩ := Strs.at (Recs.keep hS o57 low) hsj
      have hs60 := hsl _ (List.getElem_mem hlt2)
      generalize l[j] = s at *
      refine ⟨a2, ha2, ⟨by omega, by omega⟩, _, hc2, run_cat (a := dashW) (b := s) (by show 2 + s.length ≤ _; omega) ⟨_, rfl, run_cat (a := dashW ++ s) (b := [10]) (by rw [List.length_append]; show 2 + s.length + 1 ≤ _; omega) ⟨_, rfl, (write_c b57 (by rw [List.length_append, List.length_append]; show _ + (2 + s.length + 1) ≤ _; omega) (by omega)).mono ?_⟩⟩⟩
      rintro _ w70 ⟨⟨x71, v72, rfl⟩, b70, o70⟩
      have e2 : accS p i l j ++ (dashW ++ s ++ [10]) = accS p i l (j + 1) := by rw [accS_succ hsj]; simp
      rw [e2] at b70
      exact ⟨_, _, rfl, _, by omega, j + 1, by rw [wr (by omega)]; omega, hlt2, rfl, b70, o57.trans' o70⟩
    · have hjl : j = l.length := by have := dF hge2; omega
      rw [hjl, acc_succ hat] at b57
      exact b57
  · have hil : i = p.steps.length := by have := dF hge; omega
    rw [hil, acc_done] at b32
    refine (string_c b32 (by omega)).mono ?_
    rintro _ w78 ⟨rfl, o78⟩
    exact ⟨_, rfl, rfl, ((Grow.only (G8.trans' g12)).trans' (o32.trans' o78)).toGrow fun b hb => by omega⟩
end Go.Proofs.YtolpmdmcbciccaaDoor
