/- Contracts: numbers and lines, Format, the reference's Text. -/
import Derived.Test.YtneklhmkiememaaDoorZl
import Derived.Test.YtneklhmkiememaaDoorSh
import Derived.Test.YtneklhmkiememaaDoorSg
import Derived.Test.YtneklhmkiememaaDoorNfK
import Derived.Deep.Draws
namespace Go.Proofs.YtneklhmkiememaaDoor
open Go Go.Nf Go.RowKit

/-! ### texts -/
abbrev Str := List UInt8
def sb (s : ByteArray) : Str := s.data.toList
theorem sb_inj {s t : ByteArray} (h : sb s = sb t) : s = t := by
  obtain ⟨a⟩ := s
  obtain ⟨b⟩ := t
  unfold sb at h
  rw [ByteArray.mk.injEq]
  exact Array.toList_inj.1 h
abbrev BA (l : Str) : ByteArray := ByteArray.mk l.toArray
theorem BA_size (l : Str) : (BA l).size = l.length := by show l.toArray.size = _; simp
theorem sb_BA (l : Str) : sb (BA l) = l := by unfold sb; simp
theorem BA_inj {a b : Str} : BA a = BA b ↔ a = b := ⟨fun h => by rw [← sb_BA a, h, sb_BA], fun h => by rw [h]⟩
theorem strEq_iff {s t : ByteArray} : strEq s t = true ↔ s = t := by
  unfold strEq
  rw [beq_toListBytes, ByteArray.toList_eq, ByteArray.toList_eq, beq_iff_eq]
  exact ⟨fun h => sb_inj h, fun h => by rw [h]⟩
theorem und9 : Tryd.prog.underlying 9 = some .string := by kernel_rfl
theorem und5 : Tryd.prog.underlying 5 = some (.int .u8) := by kernel_rfl
theorem und82 : Tryd.prog.underlying 82 = some (.slice 5) := of_slice (by kernel_rfl)
theorem run_cat {w : World} {a b : Str} {x y : Operand} {K : Value → World → Prop} (hl : a.length + b.length ≤ 140737488355328) (h : K (.string (BA (a ++ b))) w) : RunOk Tryd.prog (Hold (binOpSem .add 9 x y (.string (BA a)) (.string (BA b)))) w K := by
  refine ⟨_, w, ?_, h⟩
  have e : BA a ++ BA b = BA (a ++ b) := sb_inj (by unfold sb; simp)
  unfold Hold binOpSem
  simp [eqGuard, binOp, Op.stringOp]
  rw [if_neg (by rw [BA_size, BA_size]; omega), e]
theorem run_char {w : World} {b : Nat} {c : UInt8} {K : Value → World → Prop} (r : Row w b 5 [.int .u8 (c.toNat : Int)]) (h : K (.string (BA [c])) w) : RunOk Tryd.prog (Hold (convert 82 9 (.slice (some ⟨b, 0, none⟩) 1 1))) w K := by
  refine ⟨_, w, ?_, h⟩
  unfold Hold
  exact run_convert_bytes_back w 82 9 5 ⟨b, 0, none⟩ 1 [c] und82 und5 und9 (by
    intro i hi
    have h0 : i = 0 := by simpa using hi
    subst h0
    simpa using r.cellAdd (o := 0) rfl)

/-! ### numbers -/
theorem num_len : ∀ (k : Nat) (n : Int), n.natAbs < 10 ^ k → (numL n).length ≤ k + 1
  | 0, n, h => by
    have : n = 0 := by simp at h; omega
    subst this
    rw [num_small (by omega) (by omega)]
    simp
  | k + 1, n, h => by
    rw [Nat.pow_succ] at h
    by_cases h0 : 0 ≤ n
    · by_cases h1 : n < 10
      · rw [num_small h0 h1]; simp
      · obtain ⟨u, rfl⟩ : ∃ u : Nat, n = (u : Int) := ⟨n.toNat, by omega⟩
        have e1 : ((u : Int)).tdiv 10 = ((u / 10 : Nat) : Int) := by rw [Int.tdiv_eq_ediv_of_nonneg (by omega)]; omega
        have e2 : ((u : Int)).tmod 10 = ((u % 10 : Nat) : Int) := by rw [Int.tmod_eq_emod_of_nonneg (by omega)]; omega
        rw [num_pos (by omega), List.length_append, e1, e2]
        have := num_len k ((u / 10 : Nat) : Int) (by omega)
        rw [num_small (n := ((u % 10 : Nat) : Int)) (by omega) (by omega), List.length_singleton]
        omega
    · by_cases h1 : -10 < n
      · rw [num_neg1 (by omega) h1, num_small (by omega) (by omega)]
        simp
      · obtain ⟨u, rfl⟩ : ∃ u : Nat, n = -(u : Int) := ⟨n.natAbs, by omega⟩
        have e1 : (-(u : Int)).tdiv 10 = -((u / 10 : Nat) : Int) := by rw [Int.neg_tdiv, Int.tdiv_eq_ediv_of_nonneg (by omega)]; omega
        have e2 : -((-(u : Int)).tmod 10) = ((u % 10 : Nat) : Int) := by rw [Int.neg_tmod, Int.tmod_eq_emod_of_nonneg (by omega)]; omega
        rw [num_neg2 (by omega), List.length_append, e1, e2]
        have := num_len k (-((u / 10 : Nat) : Int)) (by omega)
        rw [num_small (n := ((u % 10 : Nat) : Int)) (by omega) (by omega), List.length_singleton]
        omega
theorem num_len20 {n : Int} (h0 : -9223372036854775808 ≤ n) (h1 : n ≤ 9223372036854775807) : (numL n).length ≤ 20 := num_len 19 n (by omega)
def digit (n : Int) : UInt8 := UInt8.ofNat (48 + n.toNat)
set_option maxHeartbeats 2000000 in
theorem num_c : ∀ (k : Nat) (n : Int) (w : World), n.natAbs < 10 ^ k → -9223372036854775808 ≤ n → n ≤ 9223372036854775807 → Calls Tryd.prog 42 #[.int .i64 n] w fun e w' => e = .returned (.string (BA (numL n))) ∧ Grow w w' := by
  intro k
  induction k with
  | zero =>
    intro n w h h0 h1
    have : n = 0 := by simp at h; omega
    subst this
    refine nf42 0 w _ ⟨fun k => absurd (dT k) (by omega), fun _ => ⟨fun _ w21 e21 => run_char (c := 48) (Row.new e21) ⟨_, rfl, by rw [num_small (by omega) (by omega)]; rfl, only_alloc e21⟩, fun k => absurd (dF k) (by omega)⟩⟩
  | succ k ih =>
    intro n w h h0 h1
    rw [Nat.pow_succ] at h
    have hl20 := num_len20 h0 h1
    refine nf42 n w _ ⟨fun hn => ⟨fun hn1 => ?_, fun hn2 => ?_⟩, fun hp => ⟨fun hp1 w21 e21 => ?_, fun hp2 => ?_⟩⟩
    · have hn := dT hn; have hn1 := dT hn1
      have e0 : IntKind.wrap .i64 (0 - n) = -n := by rw [wr (by omega)]; omega
      rw [e0, num_neg1 hn (by omega)]
      by_cases hk : (-n).natAbs < 10 ^ k
      · refine (ih (-n) w hk (by omega) (by omega)).mono ?_
        rintro _ w4 ⟨rfl, g4⟩
        refine ⟨_, rfl, run_cat (a := [45]) (by rw [num_small (by omega) (by omega)]; show 1 + 1 ≤ _; decide) ⟨_, rfl, rfl, g4⟩⟩
      · refine nf42 (-n) w _ ⟨fun k => absurd (dT k) (by omega), fun _ => ⟨fun _ w21 e21 => ?_, fun k => absurd (dF k) (by omega)⟩⟩
        rw [num_small (by omega) (by omega)]
        refine run_char (c := digit (-n)) ?_ ⟨_, rfl, _, rfl, run_cat (a := [45]) (b := [digit (-n)]) (by show 1 + 1 ≤ _; decide) ⟨_, rfl, rfl, only_alloc e21⟩⟩
        have e1 : IntKind.wrap .u8 (IntKind.wrap .i64 (48 + -n)) = ((digit (-n)).toNat : Int) := by
          unfold digit
          rcases (show -n = 1 ∨ -n = 2 ∨ -n = 3 ∨ -n = 4 ∨ -n = 5 ∨ -n = 6 ∨ -n = 7 ∨ -n = 8 ∨ -n = 9 by omega) with e | e | e | e | e | e | e | e | e <;> rw [e] <;> decide
        rw [e1] at e21
        exact Row.new e21
    · have hn := dT hn; have hn2 := dF hn2
      have hn3 : n ≤ -10 := by omega
      obtain ⟨u, hu⟩ : ∃ u : Nat, n = -(u : Int) := ⟨n.natAbs, by omega⟩
      have e1 : n.tdiv 10 = -((u / 10 : Nat) : Int) := by subst hu; rw [Int.neg_tdiv, Int.tdiv_eq_ediv_of_nonneg (by omega)]; omega
      have e2 : 0 - n.tmod 10 = ((u % 10 : Nat) : Int) := by subst hu; rw [Int.neg_tmod, Int.tmod_eq_emod_of_nonneg (by omega)]; omega
      have e3 : -(n.tmod 10) = ((u % 10 : Nat) : Int) := by omega
      have hnum := num_neg2 hn3
      rw [e3, e1] at hnum
      rw [e1, e2, wr (by omega), wr (by omega)]
      refine (ih _ w (by omega) (by omega) (by omega)).mono ?_
      rintro _ w11 ⟨rfl, g11⟩
      have one : Calls Tryd.prog 42 #[.int .i64 ((u % 10 : Nat) : Int)] w11 fun e w' => e = .returned (.string (BA (numL ((u % 10 : Nat) : Int)))) ∧ Grow w11 w' := by
        by_cases hk : ((u % 10 : Nat) : Int).natAbs < 10 ^ k
        · exact ih _ w11 hk (by omega) (by omega)
        · have : k = 0 := by
            rcases Nat.eq_zero_or_pos k with e | e
            · exact e
            · have := Nat.pow_le_pow_right (show 0 < 10 by decide) e
              omega
          subst this
          omega
      refine ⟨_, rfl, one.mono ?_⟩
      rintro _ w14 ⟨rfl, g14⟩
      refine ⟨_, rfl, run_cat (by rw [hnum, List.length_append] at hl20; omega) ⟨_, rfl, by rw [hnum], g11.trans' g14⟩⟩
    · have hp := dF hp; have hp1 := dT hp1
      rw [num_small (by omega) (by omega)]
      refine run_char (c := digit n) ?_ ⟨_, rfl, rfl, only_alloc e21⟩
      have e1 : IntKind.wrap .u8 (IntKind.wrap .i64 (48 + n)) = ((digit n).toNat : Int) := by
        unfold digit
        rcases (show n = 0 ∨ n = 1 ∨ n = 2 ∨ n = 3 ∨ n = 4 ∨ n = 5 ∨ n = 6 ∨ n = 7 ∨ n = 8 ∨ n = 9 by omega) with e | e | e | e | e | e | e | e | e | e <;> rw [e] <;> decide
      rw [e1] at e21
      exact Row.new e21
    · have hp := dF hp; have hp2 := dF hp2
      obtain ⟨u, hu⟩ : ∃ u : Nat, n = (u : Int) := ⟨n.toNat, by omega⟩
      have e1 : n.tdiv 10 = ((u / 10 : Nat) : Int) := by subst hu; rw [Int.tdiv_eq_ediv_of_nonneg (by omega)]; omega
      have e2 : n.tmod 10 = ((u % 10 : Nat) : Int) := by subst hu; rw [Int.tmod_eq_emod_of_nonneg (by omega)]; omega
      have hnum := num_pos (n := n) (by omega)
      rw [e1, e2] at hnum
      rw [e1, e2, wr (by omega)]
      refine (ih _ w (by omega) (by omega) (by omega)).mono ?_
      rintro _ w11 ⟨rfl, g11⟩
      have one : Calls Tryd.prog 42 #[.int .i64 ((u % 10 : Nat) : Int)] w11 fun e w' => e = .returned (.string (BA (numL ((u % 10 : Nat) : Int)))) ∧ Grow w11 w' := by
        by_cases hk : ((u % 10 : Nat) : Int).natAbs < 10 ^ k
        · exact ih _ w11 hk (by omega) (by omega)
        · have : k = 0 := by
            rcases Nat.eq_zero_or_pos k with e | e
            · exact e
            · have := Nat.pow_le_pow_right (show 0 < 10 by decide) e
              omega
          subst this
          omega
      refine ⟨_, rfl, one.mono ?_⟩
      rintro _ w14 ⟨rfl, g14⟩
      refine ⟨_, rfl, run_cat (by rw [hnum, List.length_append] at hl20; omega) ⟨_, rfl, by rw [hnum], g11.trans' g14⟩⟩
theorem num64_c (n : Int) (w : World) (h0 : -9223372036854775808 ≤ n) (h1 : n ≤ 9223372036854775807) : Calls Tryd.prog 42 #[.int .i64 n] w fun e w' => e = .returned (.string (BA (numL n))) ∧ Grow w w' := num_c 19 n w (by omega) h0 h1
end Go.Proofs.YtneklhmkiememaaDoor
