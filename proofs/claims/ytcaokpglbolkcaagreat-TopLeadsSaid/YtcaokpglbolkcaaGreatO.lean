import Derived.Test.YtcaokpglbolkcaaGreatRows
namespace Go.Proofs.YtcaokpglbolkcaaGreat
open Go
abbrev g (n : Nat) : Char := Char.ofNat n
def headL : List Char := [g 104, g 97, g 114, g 110, g 101, g 115, g 115, g 32, g 100, g 97, g 48, g 102, g 51, g 57, g 99, g 56, g 99, g 101, g 48, g 49,
  g 48, g 51, g 101, g 50, g 100, g 57, g 48, g 50, g 49, g 54, g 99, g 50, g 51, g 56, g 99, g 57, g 50, g 49, g 48, g 51,
  g 48, g 98, g 54, g 54, g 51, g 53, g 57, g 56, g 48, g 100, g 97, g 53, g 102, g 54, g 97, g 50, g 55, g 50, g 51, g 98,
  g 52, g 57, g 54, g 102, g 102, g 53, g 100, g 54, g 102, g 56, g 50, g 99, g 32, g 99, g 117, g 116, g 32, g 97, g 116, g 32,
  g 115, g 97, g 109, g 97, g 114, g 105, g 116, g 97, g 110, g 47, g 115, g 97, g 109, g 97, g 114, g 105, g 116, g 97, g 110, g 116,
  g 111, g 112, g 46, g 84, g 111, g 112, g 76, g 101, g 97, g 100, g 115, g 32, g 115, g 97, g 109, g 97, g 114, g 105, g 116, g 97,
  g 110, g 47, g 115, g 97, g 109, g 97, g 114, g 105, g 116, g 97, g 110, g 116, g 111, g 112, g 46, g 84, g 111, g 112, g 79, g 110,
  g 101, g 76, g 111, g 103]
def restW : List (List Char) := [
  [g 99, g 117, g 116],
  [g 97, g 116],
  [g 115, g 97, g 109, g 97, g 114, g 105, g 116, g 97, g 110, g 47, g 115, g 97, g 109, g 97, g 114, g 105, g 116, g 97, g 110, g 116,
  g 111, g 112, g 46, g 84, g 111, g 112, g 76, g 101, g 97, g 100, g 115],
  [g 115, g 97, g 109, g 97, g 114, g 105, g 116, g 97, g 110, g 47, g 115, g 97, g 109, g 97, g 114, g 105, g 116, g 97, g 110, g 116,
  g 111, g 112, g 46, g 84, g 111, g 112, g 79, g 110, g 101, g 76, g 111, g 103]]
def firstW : List (List Char) := [[g 104, g 97, g 114, g 110, g 101, g 115, g 115], [g 100, g 97, g 48, g 102, g 51, g 57, g 99, g 56, g 99, g 101, g 48, g 49, g 48, g 51, g 101, g 50, g 100, g 57, g 48, g 50,
  g 49, g 54, g 99, g 50, g 51, g 56, g 99, g 57, g 50, g 49, g 48, g 51, g 48, g 98, g 54, g 54, g 51, g 53, g 57, g 56,
  g 48, g 100, g 97, g 53, g 102, g 54, g 97, g 50, g 55, g 50, g 51, g 98, g 52, g 57, g 54, g 102, g 102, g 53, g 100, g 54,
  g 102, g 56, g 50, g 99]]
theorem head_eq : Tryz.prog.initOrder = String.ofList headL := by kernel_rfl
theorem head_list : Tryz.prog.initOrder.toList = headL := by rw [head_eq]; exact String.toList_ofList
theorem words_eq : wordsSigns headL = firstW ++ restW := by kernel_rfl
theorem behind_eq : behindMainWord (firstW ++ restW) = restW := by kernel_rfl
def headW : List Char := restW.head!
def tailW : List (List Char) := restW.tail
theorem rest_eq : behindMainWord (wordsSigns Tryz.prog.initOrder.toList) = headW :: tailW := by rw [head_list, words_eq, behind_eq]; kernel_rfl
theorem make_of {P : Program} {c : List Char} {rest : List (List Char)} (h : behindMainWord (wordsSigns P.initOrder.toList) = c :: rest) (h1 : (c == "gc".toList || c == "spec".toList) = false)
  (h2 : (c == "cut".toList || (c == "finals".toList && rest.head? == some "cut".toList)) = true) : P.make = some .cut := by
 unfold Program.make
 rw [h]
 show (if (c == "gc".toList || c == "spec".toList) = true then _ else _) = _
 rw [if_neg (by rw [h1]; exact Bool.false_ne_true), if_pos h2]
theorem enter_of {P : Program} {c : List Char} {rest : List (List Char)} (h : behindMainWord (wordsSigns P.initOrder.toList) = c :: rest)
  (h1 : ((stripLifts liftWords (c :: rest)).2.head? == some "cut".toList) = true) (h2 : (stripLifts liftWords (c :: rest)).1 = []) (h3 : P.laysLater = false) (h4 : P.bearsReflect = false) (h5 : P.doorFits [] = true) : P.mayEnter = true := by
 unfold Program.mayEnter
 rw [h]
 simp only [h1, h2, h3, h4, h5]
 simp
theorem lift_of {P : Program} {c : List Char} {rest : List (List Char)} (h : behindMainWord (wordsSigns P.initOrder.toList) = c :: rest) (h0 : (c == "carried".toList) = false)
  (h2 : (stripLifts liftWords (c :: rest)).1 = []) : P.liftsFinal = false := by
 unfold Program.liftsFinal Program.headLifts
 rw [h]
 simp only [h2, List.head?_cons]
 have hn : c ≠ "carried".toList := fun e => by rw [e] at h0; simp at h0
 simp only [Bool.or_eq_false_iff, Bool.and_eq_false_iff]
 exact ⟨.inl (by simp only [beq_eq_false_iff_ne, ne_eq, Option.some.injEq]; exact hn), by split <;> rfl⟩
theorem makes : Tryz.prog.make = some .cut := make_of rest_eq (by kernel_rfl) (by kernel_rfl)
theorem lifts : Tryz.prog.liftsFinal = false := lift_of rest_eq (by kernel_rfl) (by kernel_rfl)
theorem enters : Tryz.prog.mayEnter = true := enter_of rest_eq (by kernel_rfl) (by kernel_rfl) (by kernel_rfl) (by kernel_rfl) (by kernel_rfl)
end Go.Proofs.YtcaokpglbolkcaaGreat
