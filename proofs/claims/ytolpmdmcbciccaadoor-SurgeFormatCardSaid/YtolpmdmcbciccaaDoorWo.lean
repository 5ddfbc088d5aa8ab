/- Contract: the reference's text of a plan. -/
import Derived.Test.YtolpmdmcbciccaaDoorWn
import Derived.Test.YtolpmdmcbciccaaDoorWh
import Derived.Laws.IdiomStrings
namespace Go.Proofs.YtolpmdmcbciccaaDoor
open Go Go.Nf Go.RowKit

theorem run_cat {w : World} {a b : Str} {x y : Operand} {K : Value → World → Prop} (hl : a.length + b.length ≤ 140737488355328) (h : K (.string (BA (a ++ b))) w) : RunOk Tryd.prog (Hold (binOpSem .add 9 x y (.string (BA a)) (.string (BA b)))) w K := by
  refine ⟨_, w, ?_, h⟩
  have e : BA a ++ BA b = BA (a ++ b) := sb_inj (by unfold sb; simp)
  unfold Hold binOpSem
  simp [eqGuard, binOp, Op.stringOp]
  rw [if_neg (by rw [BA_size, BA_size]; omega), e]
theorem und91 : Tryd.prog.underlying 91 = some (.slice 5) := of_slice (by kernel_rfl)
theorem und5 : Tryd.prog.underlying 5 = some (.int .u8) := by kernel_rfl
theorem run_char {w : World} {b : Nat} {c : UInt8} {K : Value → World → Prop} (r : Row w b 5 [.int .u8 (c.toNat : Int)]) (h : K (.string (BA [c])) w) : RunOk Tryd.prog (Hold (convert 91 9 (.slice (some ⟨b, 0, none⟩) 1 1))) w K := by
  refine ⟨_, w, ?_, h⟩
  unfold Hold
  exact run_convert_bytes_back w 91 9 5 ⟨b, 0, none⟩ 1 [c] und91 und5 und9 (by
    intro i hi
    have h0 : i = 0 := by simpa using hi
    subst h0
    simpa using r.cellAdd (o := 0) rfl)
/-! ### the text so far -/
theorem join_append (a b : List Str) : joinL (a ++ b) = joinL a ++ joinL b := by unfold joinL; rw [List.flatMap_append]
theorem join_one (x : Str) : joinL [x] = x ++ [10] := by simp [joinL]
theorem join_len : ∀ {ls : List Str} {m : Nat}, (∀ x ∈ ls, x.length ≤ m) → (joinL ls).length ≤ ls.length * (m + 1)
  | [], m, _ => by simp [joinL]
  | x :: ls, m, h => by
    have ih := join_len (ls := ls) fun y hy => h y (.tail _ hy)
    have hx := h x (.head _)
    have e : joinL (x :: ls) = x ++ [10] ++ joinL ls := by simp [joinL]
    rw [e, List.length_append, List.length_append, List.length_singleton, List.length_cons, Nat.succ_mul]
    omega
def accL (p : Pl) (i : Nat) : Str := planW ++ p.name ++ [10] ++ joinL (stepLines 0 (p.steps.take i))
def accS (p : Pl) (i : Nat) (l : List Str) (j : Nat) : Str := accL p i ++ joinL (opens i :: (l.take j).map (dashW ++ ·))
theorem acc_done (p : Pl) : accL p p.steps.length = textL p := by
  unfold accL textL linesOf
  rw [List.take_length, ← List.singleton_append (l := stepLines 0 p.steps), join_append, join_one]
theorem acc_succ {p : Pl} {i : Nat} {l : List Str} (h : p.steps[i]? = some l) : accS p i l l.length = accL p (i + 1) := by
  obtain ⟨q1, q2⟩ := List.getElem?_eq_some_iff.1 h
  unfold accS accL
  rw [List.take_succ_eq_append_getElem q1, q2, stepLines_append, join_append, List.take_length, List.length_take, Nat.min_eq_left (by omega)]
  simp [stepLines, levelLines]
theorem accS_zero (p : Pl) (i : Nat) (l : List Str) : accS p i l 0 = accL p i ++ opens i ++ [10] := by
  unfold accS
  rw [List.take_zero, List.map_nil, join_one, List.append_assoc]
theorem accS_succ {p : Pl} {i j : Nat} {l : List Str} {s : Str} (h : l[j]? = some s) : accS p i l (j + 1) = accS p i l j ++ dashW ++ s ++ [10] := by
  obtain ⟨q1, q2⟩ := List.getElem?_eq_some_iff.1 h
  unfold accS
  rw [List.take_succ_eq_append_getElem q1, q2, List.map_append, ← List.cons_append, join_append, List.map_cons, List.map_nil, join_one]
  simp
theorem step_len {s : Str} (h : stepL s = true) : s.length ≤ 60 := by
  unfold stepL at h
  simp only [Bool.and_eq_true, decide_eq_true_eq] at h
  exact h.1.1.1.2
theorem name_len {s : Str} (h : nameL s = true) : s.length ≤ 40 := by
  unfold nameL at h
  simp only [Bool.and_eq_true, decide_eq_true_eq] at h
  exact h.1.2
theorem level_len {p : Pl} (hp : Right p) {i : Nat} {l : List Str} (h : l ∈ p.steps) (j : Nat) : (joinL (opens i :: (l.take j).map (dashW ++ ·))).length ≤ 1100 := by
  have h1 := (hp.each l h).2
  have h2 : ∀ x ∈ opens i :: (l.take j).map (dashW ++ ·), x.length ≤ 62 := fun x hx => by
    rcases List.mem_cons.1 hx with rfl | hx
    · show 7 ≤ 62; decide
    · obtain ⟨s, hs, rfl⟩ := List.mem_map.1 hx
      have := step_len (hp.step s (List.mem_flatten.2 ⟨l, h, List.mem_of_mem_take hs⟩))
      show (dashW ++ s).length ≤ 62
      rw [List.length_append]
      show 2 + s.length ≤ 62
      omega
  have h3 := join_len h2
  rw [List.length_cons, List.length_map, List.length_take] at h3
  have : (min j l.length + 1) * (62 + 1) ≤ 17 * 63 := Nat.mul_le_mul_right _ (by omega)
  omega
theorem acc_len {p : Pl} (hp : Right p) : ∀ i : Nat, i ≤ p.steps.length → (accL p i).length ≤ 50 + 1100 * i
  | 0, _ => by
    have := name_len hp.name
    unfold accL
    rw [List.take_zero]
    show (planW ++ p.name ++ [10] ++ []).length ≤ _
    rw [List.append_nil, List.length_append, List.length_append]
    show 5 + p.name.length + 1 ≤ _
    omega
  | i + 1, h => by
    have ih := acc_len hp i (by omega)
    have hat : p.steps[i]? = some p.steps[i] := List.getElem?_eq_getElem (by omega)
    rw [← acc_succ hat]
    unfold accS
    rw [List.length_append]
    have := level_len (i := i) hp (List.getElem_mem (show i < p.steps.length by omega)) (p.steps[i]).length
    omega
theorem accS_len {p : Pl} (hp : Right p) {i : Nat} {l : List Str} (h : p.steps[i]? = some l) (j : Nat) : (accS p i l j).length ≤ 7000 := by
  have hi := (List.getElem?_eq_some_iff.1 h).1
  have := acc_len hp i (by omega)
  have := level_len (i := i) hp (List.mem_of_getElem? h) j
  have := hp.few.2
  unfold accS
  rw [List.length_append]
  omega
def textE (p : Pl) : Value := .tuple #[.string (BA (if rightL p = -1 then textL p else [])), .int .i64 (if rightL p = -1 then 0 else 1)]
set_option maxHeartbeats 4000000 in
theorem refText_c (o : Option Addr) (c : Nat) (p : Pl) (hf : p.Fit) (w : World) {A : Nat → Prop} (h : Lol w A o p.steps) :
    Calls Tryd.prog 29 #[plV p.name o p.steps.length c] w fun e w' => e = .returned (textE p) ∧ Grow w w' := by
  refine nf29 (BA p.name) o p.steps.length c w _ fun w1 e1 => ?_
  have r1 := Row.new e1
  have g1 : Grow w w1 := only_alloc e1
  refine ⟨_, r1.cell rfl, _, _, _, r1.cell rfl, (right_c o c p hf w1 (h.grow g1)).mono ?_⟩
  rintro _ w8 ⟨rfl, g8⟩
  have G8 := g1.trans' g8
  have r8 := r1.grow g8
  refine ⟨_, rfl, fun hv => ⟨?_, G8⟩, fun hv => ⟨_, r8.cell rfl, ?_⟩⟩
  · unfold textE
    rw [if_neg (nT hv), if_neg (nT hv)]
  have hv := nF hv
  have hR := right_iff.1 hv
  have hte : textE p = .tuple #[.string (BA (textL p)), .int .i64 0] := by unfold textE; rw [if_pos hv, if_pos hv]
  rw [hte]
  have hnm := name_len hR.name
  have hfew := hR.few
  refine run_cat (a := planW) (b := p.name) (by show 5 + p.name.length ≤ _; omega) ⟨_, rfl, run_cat (a := planW ++ p.name) (b := [10]) (by rw [List.length_append]; show 5 + p.name.length + 1 ≤ _; omega) ⟨_, rfl, ?_⟩⟩
  refine ⟨fun n s x w' => ∃ i : Nat, x = (i : Int) ∧ i ≤ p.steps.length ∧ n = p.steps.length - i ∧ s = BA (accL p i) ∧ Grow w8 w', ⟨_, 0, rfl, Nat.zero_le _, rfl, by unfold accL; simp [stepLines, joinL], Only.refl _ _⟩, ?_⟩
  rintro n _ w23 _ x ⟨i, rfl, hi, rfl, rfl, g23⟩
  have G23 := G8.trans' g23
  have r23 := r8.grow g23
  refine ⟨_, _, _, r23.cell rfl, fun hlt => ?_, fun hge => ?_⟩
  · have hlt : i < p.steps.length := by have := dT hlt; omega
    have hat : p.steps[i]? = some p.steps[i] := List.getElem?_eq_getElem hlt
    have hal := acc_len hR i (by omega)
    have hll := hR.each _ (List.getElem_mem hlt)
    have hsl : ∀ s ∈ p.steps[i], s.length ≤ 60 := fun s hs => step_len (hR.step s (mem_flat hat hs))
    generalize p.steps[i] = l at *
    refine run_cat (a := accL p i) (b := levelW) (by show _ + 6 ≤ _; omega) ⟨_, rfl, fun w34 e34 => ?_⟩
    have g34 : Grow w23 w34 := only_alloc e34
    have hd : IntKind.wrap .u8 (IntKind.wrap .i64 (49 + (i : Int))) = ((digit i).toNat : Int) := by
      rw [wr (by omega)]
      rcases (show i = 0 ∨ i = 1 ∨ i = 2 ∨ i = 3 ∨ i = 4 by omega) with rfl | rfl | rfl | rfl | rfl <;> decide
    rw [hd] at e34
    have r34 : Row w34 (hs w23) 5 [.int .u8 ((digit i).toNat : Int)] := Row.new e34
    refine run_char r34 ⟨_, rfl, run_cat (a := accL p i ++ levelW) (b := [digit i]) (by rw [List.length_append]; show _ + 6 + 1 ≤ _; omega) ⟨_, rfl, run_cat (a := accL p i ++ levelW ++ [digit i]) (b := [10]) (by rw [List.length_append, List.length_append]; show _ + 6 + 1 + 1 ≤ _; omega) ⟨_, rfl, ?_⟩⟩⟩
    have e0 : accL p i ++ levelW ++ [digit i] ++ [10] = accS p i l 0 := by rw [accS_zero]; unfold opens; simp
    rw [e0]
    have G34 := G23.trans' g34
    refine ⟨fun n s x w' => ∃ j : Nat, x = (j : Int) ∧ j ≤ l.length ∧ n = l.length - j ∧ s = BA (accS p i l j) ∧ Grow w34 w', ⟨_, 0, rfl, Nat.zero_le _, rfl, rfl, Only.refl _ _⟩, ?_⟩
    rintro n2 _ w49 _ x ⟨j, rfl, hj, rfl, rfl, g49⟩
    have G49 := G34.trans' g49
    have r49 := (r23.grow g34).grow g49
    obtain ⟨a, oi, ci, ha, -, hc, hS⟩ := (h.grow G49).at hat
    have hsa := accS_len hR hat j
    refine ⟨_, _, _, r49.cell rfl, a, ha, ⟨by omega, by omega⟩, _, _, _, hc, fun hlt2 => ?_, fun hge2 => ⟨_, by omega, i + 1, by rw [wr (by omega)]; omega, hlt, rfl, ?_, (g23.trans' g34).trans' g49⟩⟩
    · have hlt2 : j < l.length := by have := dT hlt2; omega
      have hsj := List.getElem?_eq_getElem hlt2
      obtain ⟨a2, ha2, -, hc2⟩ := Strs.at hS hsj
      have hs60 := hsl _ (List.getElem_mem hlt2)
      generalize l[j] = s at *
      refine run_cat (a := accS p i l j) (b := dashW) (by show _ + 2 ≤ _; omega) ⟨_, rfl, _, _, _, r49.cell rfl, a, ha, ⟨by omega, by omega⟩, _, _, _, hc, a2, ha2, ⟨by omega, by omega⟩, _, hc2, run_cat (a := accS p i l j ++ dashW) (b := s) (by rw [List.length_append]; show _ + 2 + s.length ≤ _; omega) ⟨_, rfl, run_cat (a := accS p i l j ++ dashW ++ s) (b := [10]) (by rw [List.length_append, List.length_append]; show _ + 2 + s.length + 1 ≤ _; omega) ⟨_, rfl, _, by omega, j + 1, by rw [wr (by omega)]; omega, hlt2, rfl, by rw [accS_succ hsj], g49⟩⟩⟩
    · have hjl : j = l.length := by have := dF hge2; omega
      rw [hjl, acc_succ hat]
  · have hil : i = p.steps.length := by have := dF hge; omega
    rw [hil, acc_done]
    exact ⟨rfl, G23⟩
end Go.Proofs.YtolpmdmcbciccaaDoor
