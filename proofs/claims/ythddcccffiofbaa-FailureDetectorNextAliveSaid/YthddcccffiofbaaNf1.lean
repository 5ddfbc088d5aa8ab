/- The contracts' premises: for each function, the proposition that its body comes to (printed by the tool of wip/nf). -/
import Derived.Test.YthddcccffiofbaaRows
import Derived.Test.YthddcccffiofbaaNfD
namespace Go.Proofs.Ythddcccffiofbaa
open Go Go.Nf

/-- samaritan/failuredetector.limit -/
def an25 : An := (.seq (.reg []) (.seq (.reg []) .nil))
theorem nf25 (now : Int) (w : World) (R : Ending → World → Prop) (h :
(R (Ending.returned (Value.int IntKind.i64 (if (1099511627776 < (if (now < 0) then 0 else now)) then 1099511627776 else (if (now < 0) then 0 else now)))) w)) :
    Calls Try.prog 25 #[(.int .i64 now)] w R :=
  calls_of_vc an25 Try.func25 rfl (by kernel_rfl) (by kernel_rfl) (Eq.mp (by kernel_rfl) h)

/-- samaritan/clock.clamp -/
def an32 : An := (.seq (.reg []) (.seq (.reg []) .nil))
theorem nf32 (n : Int) (w : World) (R : Ending → World → Prop) (h :
(R (Ending.returned (Value.int IntKind.i64 (if (4611686018427387904 < (if (n < 0) then 0 else n)) then 4611686018427387904 else (if (n < 0) then 0 else n)))) w)) :
    Calls Try.prog 32 #[(.int .i64 n)] w R :=
  calls_of_vc an32 Try.func32 rfl (by kernel_rfl) (by kernel_rfl) (Eq.mp (by kernel_rfl) h)

/-- samaritan/clock.Elapsed -/
def an30 : An := (.seq (.reg []) (.seq (.reg []) .nil))
theorem nf30 (now : Int) (then' : Int) (w : World) (R : Ending → World → Prop) (h :
(Calls Try.prog 32 #[(Value.int IntKind.i64 now)] w (fun (e1 : Ending) => (fun (w2 : World) => (∃ x3 : Int, ((e1 = (Ending.returned (Value.int IntKind.i64 x3))) ∧
(Calls Try.prog 32 #[(Value.int IntKind.i64 then')] w2 (fun (e4 : Ending) => (fun (w5 : World) => (∃ x6 : Int, ((e4 = (Ending.returned (Value.int IntKind.i64 x6))) ∧
(R (Ending.returned (Value.int IntKind.i64 (if ((IntKind.wrap IntKind.i64 (x3 - x6)) < 0) then 0 else (IntKind.wrap IntKind.i64 (x3 - x6))))) w5)))))))))))) :
    Calls Try.prog 30 #[(.int .i64 now), (.int .i64 then')] w R :=
  calls_of_vc an30 Try.func30 rfl (by kernel_rfl) (by kernel_rfl) (Eq.mp (by kernel_rfl) h)

/-- samaritan/samaritanref01.Ago -/
def an31 : An := (.seq (.reg []) (.seq (.reg []) .nil))
theorem nf31 (now : Int) (then' : Int) (w : World) (R : Ending → World → Prop) (h :
(Calls Try.prog 33 #[(Value.int IntKind.i64 now)] w (fun (e1 : Ending) => (fun (w2 : World) => (∃ x3 : Int, ((e1 = (Ending.returned (Value.int IntKind.i64 x3))) ∧
(Calls Try.prog 33 #[(Value.int IntKind.i64 then')] w2 (fun (e4 : Ending) => (fun (w5 : World) => (∃ x6 : Int, ((e4 = (Ending.returned (Value.int IntKind.i64 x6))) ∧
(Calls Try.prog 33 #[(Value.int IntKind.i64 (IntKind.wrap IntKind.i64 (x3 - x6)))] w5 (fun (e7 : Ending) => (fun (w8 : World) => (∃ x9 : Int, ((e7 = (Ending.returned (Value.int IntKind.i64 x9))) ∧
(R (Ending.returned (Value.int IntKind.i64 x9)) w8))))))))))))))))) :
    Calls Try.prog 31 #[(.int .i64 now), (.int .i64 then')] w R :=
  calls_of_vc an31 Try.func31 rfl (by kernel_rfl) (by kernel_rfl) (Eq.mp (by kernel_rfl) h)

/-- samaritan/samaritanref01.Hold -/
def an33 : An := (.seq (.reg []) (.seq (.seq (.reg [(1, 0, true)]) (.cond (.seq (.reg []) .nil) .nil)) (.seq (.seq (.reg [(2, 0, true)]) (.cond (.seq (.reg []) .nil) .nil)) (.seq (.reg []) .nil))))
theorem nf33 (t : Int) (w : World) (R : Ending → World → Prop) (h :
((((decide (t < 0)) = true) →
(R (Ending.returned (Value.int IntKind.i64 0)) w)) ∧
(((decide (t < 0)) = false) →
(Calls Try.prog 34 #[] w (fun (e3 : Ending) => (fun (w4 : World) => (∃ x5 : Int, ((e3 = (Ending.returned (Value.int IntKind.i64 x5))) ∧
((((decide (t > x5)) = true) →
(Calls Try.prog 34 #[] w4 (fun (e7 : Ending) => (fun (w8 : World) => (∃ x9 : Int, ((e7 = (Ending.returned (Value.int IntKind.i64 x9))) ∧
(R (Ending.returned (Value.int IntKind.i64 x9)) w8))))))) ∧
(((decide (t > x5)) = false) →
(R (Ending.returned (Value.int IntKind.i64 t)) w4))))))))))) :
    Calls Try.prog 33 #[(.int .i64 t)] w R :=
  calls_of_vc an33 Try.func33 rfl (by kernel_rfl) (by kernel_rfl) (Eq.mp (by kernel_rfl) h)

/-- samaritan/samaritanref01.never -/
def an34 : An := (.seq (.reg []) (.seq (.reg []) .nil))
theorem nf34  (w : World) (R : Ending → World → Prop) (h :
(R (Ending.returned (Value.int IntKind.i64 4611686018427387904)) w)) :
    Calls Try.prog 34 #[] w R :=
  calls_of_vc an34 Try.func34 rfl (by kernel_rfl) (by kernel_rfl) (Eq.mp (by kernel_rfl) h)

/-- samaritan/samaritanref21.hold -/
def an28 : An := (.seq (.reg []) (.seq (.seq (.reg [(1, 0, true)]) (.cond (.seq (.reg []) .nil) .nil)) (.seq (.seq (.reg [(1, 0, true)]) (.cond (.seq (.reg []) .nil) .nil)) (.seq (.reg []) .nil))))
theorem nf28 (t : Int) (w : World) (R : Ending → World → Prop) (h :
((((decide (t < 0)) = true) →
(R (Ending.returned (Value.int IntKind.i64 0)) w)) ∧
(((decide (t < 0)) = false) →
((((decide (t > 1099511627776)) = true) →
(R (Ending.returned (Value.int IntKind.i64 1099511627776)) w)) ∧
(((decide (t > 1099511627776)) = false) →
(R (Ending.returned (Value.int IntKind.i64 t)) w)))))) :
    Calls Try.prog 28 #[(.int .i64 t)] w R :=
  calls_of_vc an28 Try.func28 rfl (by kernel_rfl) (by kernel_rfl) (Eq.mp (by kernel_rfl) h)

/-- (*samaritan/failuredetector.Detector).other -/
def an24 : An := (.seq (.reg []) (.seq (.reg [(1, 0, true), (9, 0, true), (17, 0, true)]) .nil))
theorem nf24 (w' : Nat) (who : Int) (w : World) (R : Ending → World → Prop) (h :
((((decide (who ≥ 0)) = true) →
(∃ o2 : Option Addr, (∃ n3 : Nat, (∃ n4 : Nat, (((w.cell? (⟨w', 2, none⟩ : Addr)) = (some (Value.slice o2 n3 n4))) ∧
((((decide (who < ((n3 : Nat) : Int))) = true) →
(∃ x6 : Int, (((w.cell? (⟨w', 0, none⟩ : Addr)) = (some (Value.int IntKind.i64 x6))) ∧
((((!(decide (who = x6))) = true) →
(R (Ending.returned (Value.bool true)) w)) ∧
(((!(decide (who = x6))) = false) →
(R (Ending.returned (Value.bool false)) w)))))) ∧
(((decide (who < ((n3 : Nat) : Int))) = false) →
(R (Ending.returned (Value.bool false)) w)))))))) ∧
(((decide (who ≥ 0)) = false) →
(R (Ending.returned (Value.bool false)) w)))) :
    Calls Try.prog 24 #[(.pointer (some ⟨w', 0, none⟩)), (.int .i64 who)] w R :=
  calls_of_vc an24 Try.func24 rfl (by kernel_rfl) (by kernel_rfl) (Eq.mp (by kernel_rfl) h)

/-- (*samaritan/failuredetector.Detector).suspected -/
def an26 : An := (.seq (.reg []) (.seq (.regD [(5, 0, true), (25, 0, true)] [0, 1, 2, 3, 4, 5, 6, 7, 8, 9, 10, 11, 12, 13, 14, 15, 17, 18, 19, 20, 21, 22, 23, 24, 16, 25, 26, 27] [16]) .nil))
theorem nf26 (w' : Nat) (who : Int) (now : Int) (w : World) (R : Ending → World → Prop) (h :
(∀ w1 : World, ((w1 = w.drew) →
(∃ x3 : Int, (((w1.cell? (⟨w', 0, none⟩ : Addr)) = (some (Value.int IntKind.i64 x3))) ∧
((((!(decide (who = x3))) = true) →
(∃ o5 : Option Addr, (∃ n6 : Nat, (∃ n7 : Nat, (((w1.cell? (⟨w', 2, none⟩ : Addr)) = (some (Value.slice o5 n6 n7))) ∧
(∃ a8 : Addr, ((o5 = (some a8)) ∧
(((0 ≤ who) ∧
(who < ((n6 : Nat) : Int))) ∧
(∃ x9 : Int, (((w1.cell? (Addr.add a8 ((who).toNat * 3))) = (some (Value.int IntKind.i64 x9))) ∧
(∃ o10 : Option Addr, (∃ n11 : Nat, (∃ n12 : Nat, (((w1.cell? (⟨w', 2, none⟩ : Addr)) = (some (Value.slice o10 n11 n12))) ∧
(∃ a13 : Addr, ((o10 = (some a13)) ∧
(((0 ≤ who) ∧
(who < ((n11 : Nat) : Int))) ∧
(∃ x14 : Int, (((w1.cell? (Addr.add (Addr.add a13 ((who).toNat * 3)) 1)) = (some (Value.int IntKind.i64 x14))) ∧
(Calls Try.prog 30 #[(Value.int IntKind.i64 now), (Value.int IntKind.i64 x9)] w1 (fun (e15 : Ending) => (fun (w16 : World) => (∃ x17 : Int, ((e15 = (Ending.returned (Value.int IntKind.i64 x17))) ∧
((Nf.Kept w1 w16 (Addr.add (Addr.add a13 ((who).toNat * 3)) 1) 1) ∧
((Nf.Kept w1 w16 (⟨w', 2, none⟩ : Addr) 1) ∧
((((decide (x17 > x14)) = true) →
(R (Ending.returned (Value.bool true)) w16)) ∧
(((decide (x17 > x14)) = false) →
(R (Ending.returned (Value.bool false)) w16))))))))))))))))))))))))))))) ∧
(((!(decide (who = x3))) = false) →
(R (Ending.returned (Value.bool false)) w1)))))))) :
    Calls Try.prog 26 #[(.pointer (some ⟨w', 0, none⟩)), (.int .i64 who), (.int .i64 now)] w R :=
  calls_of_vc an26 Try.func26 rfl (by kernel_rfl) (by kernel_rfl) (Eq.mp (by kernel_rfl) h)

/-- (*samaritan/failuredetector.Detector).Heartbeat -/
def an12 : An := (.seq (.reg []) (.seq (.seq (.reg [(2, 0, true)]) (.cond (.seq (.reg []) .nil) .nil)) (.seq (.reg []) (.seq (.reg []) (.cut [] (.seq (.reg [(3, 0, true)]) (.cond (.seq (.reg []) (.regD [] [0, 1, 2, 3, 4, 5, 6, 7, 8, 9, 10, 11, 12, 13] [13])) .nil)) (.seq (.reg []) (.seq (.reg []) .nil)))))))
theorem nf12 (w' : Nat) (who : Int) (now : Int) (w : World) (R : Ending → World → Prop) (h :
(Calls Try.prog 24 #[(Value.pointer (some (⟨w', 0, none⟩ : Addr))), (Value.int IntKind.i64 who)] w (fun (e1 : Ending) => (fun (w2 : World) => (∃ b3 : Bool, ((e1 = (Ending.returned (Value.bool b3))) ∧
(((b3 = true) →
(Calls Try.prog 25 #[(Value.int IntKind.i64 now)] w2 (fun (e5 : Ending) => (fun (w6 : World) => (∃ x7 : Int, ((e5 = (Ending.returned (Value.int IntKind.i64 x7))) ∧
(∃ o8 : Option Addr, (∃ n9 : Nat, (∃ n10 : Nat, (((w6.cell? (⟨w', 2, none⟩ : Addr)) = (some (Value.slice o8 n9 n10))) ∧
(∃ a11 : Addr, ((o8 = (some a11)) ∧
(((0 ≤ who) ∧
(who < ((n9 : Nat) : Int))) ∧
(∀ k12 : (World → Prop), ((∀ w14 : World, (((Nat → Value) →
(∃ x17 : Int, (((w14.cell? (Addr.add a11 ((who).toNat * 3))) = (some (Value.int IntKind.i64 x17))) ∧
((Nf.There w14 (Addr.add a11 ((who).toNat * 3)) 1) ∧
(∀ w18 : World, ((w18 = (Nf.setCells w14 (Addr.add a11 ((who).toNat * 3)) [(Value.int IntKind.i64 (if (x17 < x7) then x7 else x17))] 0)) →
(R (Ending.returned (Value.int IntKind.i64 0)) w18))))))) →
(k12 w14))) →
(Calls Try.prog 26 #[(Value.pointer (some (⟨w', 0, none⟩ : Addr))), (Value.int IntKind.i64 who), (Value.int IntKind.i64 x7)] w6 (fun (e20 : Ending) => (fun (w21 : World) => (∃ b22 : Bool, ((e20 = (Ending.returned (Value.bool b22))) ∧
(((b22 = true) →
(∃ x24 : Int, (((w21.cell? (Addr.add (Addr.add a11 ((who).toNat * 3)) 2)) = (some (Value.int IntKind.i64 x24))) ∧
((Nf.There w21 (Addr.add (Addr.add a11 ((who).toNat * 3)) 2) 1) ∧
(∀ w25 : World, ((w25 = (Nf.setCells w21 (Addr.add (Addr.add a11 ((who).toNat * 3)) 2) [(Value.int IntKind.i64 (IntKind.wrap IntKind.i64 (x24 + 1)))] 0)) →
(∀ w27 : World, ((w27 = w25.drew) →
(∃ x29 : Int, (((w27.cell? (Addr.add (Addr.add a11 ((who).toNat * 3)) 1)) = (some (Value.int IntKind.i64 x29))) ∧
(∃ x30 : Int, (((w27.cell? (⟨w', 1, none⟩ : Addr)) = (some (Value.int IntKind.i64 x30))) ∧
((Nf.There w27 (Addr.add (Addr.add a11 ((who).toNat * 3)) 1) 1) ∧
(∀ w31 : World, ((w31 = (Nf.setCells w27 (Addr.add (Addr.add a11 ((who).toNat * 3)) 1) [(Value.int IntKind.i64 (if (x30 < (IntKind.wrap IntKind.i64 (2 * x29))) then x30 else (IntKind.wrap IntKind.i64 (2 * x29))))] 0)) →
(k12 w31)))))))))))))))) ∧
((b22 = false) →
(k12 w21))))))))))))))))))))))) ∧
((b3 = false) →
(R (Ending.returned (Value.int IntKind.i64 1)) w2))))))))) :
    Calls Try.prog 12 #[(.pointer (some ⟨w', 0, none⟩)), (.int .i64 who), (.int .i64 now)] w R :=
  calls_of_vc an12 Try.func12 rfl (by kernel_rfl) (by kernel_rfl) (Eq.mp (by kernel_rfl) h)

/-- (*samaritan/failuredetector.Detector).Suspects -/
def an16 : An := (.seq (.reg []) (.seq (.reg []) (.seq (.seq (.reg []) (.blk (.loop [(5, .slice), (12, .int .i64)] (.seq (.reg [(0, 0, true)]) (.seq (.cond .nil .nil) (.seq (.blk (.seq (.reg []) (.seq (.reg [(3, 0, true)]) (.cond (.reg [(3, 1, false)]) .nil)))) (.reg []))))))) (.seq (.reg []) .nil))))
theorem nf16 (w' : Nat) (now : Int) (w : World) (R : Ending → World → Prop) (h :
(∃ o1 : Option Addr, (∃ n2 : Nat, (∃ n3 : Nat, (((w.cell? (⟨w', 2, none⟩ : Addr)) = (some (Value.slice o1 n2 n3))) ∧
(∃ k4 : (Nat → (Option Addr → (Nat → (Nat → (Int → (World → Prop)))))), ((∃ n5 : Nat, (k4 n5 none 0 0 0 w)) ∧
(∀ n6 : Nat, ((Nat → Value) →
(∀ w8 : World, (∀ o9 : Option Addr, (∀ n10 : Nat, (∀ n11 : Nat, (∀ x12 : Int, ((k4 n6 o9 n10 n11 x12 w8) →
((((decide (x12 < ((n2 : Nat) : Int))) = true) →
(Calls Try.prog 26 #[(Value.pointer (some (⟨w', 0, none⟩ : Addr))), (Value.int IntKind.i64 x12), (Value.int IntKind.i64 now)] w8 (fun (e15 : Ending) => (fun (w16 : World) => (∃ b17 : Bool, ((e15 = (Ending.returned (Value.bool b17))) ∧
(((b17 = true) →
(∀ w19 : World, ((w19 = (w16.alloc (Obj.cells #[(Value.int IntKind.i64 x12)] 3 (0, 0)))) →
(RunOk Try.prog (Nf.Hold (Builtin.append_ #[43, 43] 43 #[(Value.slice o9 n10 n11), (Value.slice (some (⟨(hs w16), 0, none⟩ : Addr)) 1 1)])) w19 (fun (v21 : Value) => (fun (w22 : World) => (∃ o23 : Option Addr, (∃ n24 : Nat, (∃ n25 : Nat, ((v21 = (Value.slice o23 n24 n25)) ∧
(∃ n26 : Nat, ((n26 < n6) ∧
(k4 n26 o23 n24 n25 (IntKind.wrap IntKind.i64 (x12 + 1)) w22))))))))))))) ∧
((b17 = false) →
(∃ n28 : Nat, ((n28 < n6) ∧
(k4 n28 o9 n10 n11 (IntKind.wrap IntKind.i64 (x12 + 1)) w16))))))))))) ∧
(((decide (x12 < ((n2 : Nat) : Int))) = false) →
(R (Ending.returned (Value.slice o9 n10 n11)) w8)))))))))))))))))) :
    Calls Try.prog 16 #[(.pointer (some ⟨w', 0, none⟩)), (.int .i64 now)] w R :=
  calls_of_vc an16 Try.func16 rfl (by kernel_rfl) (by kernel_rfl) (Eq.mp (by kernel_rfl) h)

/-- (*samaritan/failuredetector.Detector).FalseSuspicions -/
def an17 : An := (.seq (.reg []) (.seq (.seq (.reg [(2, 0, true)]) (.cond (.seq (.reg []) .nil) .nil)) (.seq (.reg []) .nil)))
theorem nf17 (w' : Nat) (who : Int) (w : World) (R : Ending → World → Prop) (h :
(Calls Try.prog 24 #[(Value.pointer (some (⟨w', 0, none⟩ : Addr))), (Value.int IntKind.i64 who)] w (fun (e1 : Ending) => (fun (w2 : World) => (∃ b3 : Bool, ((e1 = (Ending.returned (Value.bool b3))) ∧
(((b3 = true) →
(∃ o5 : Option Addr, (∃ n6 : Nat, (∃ n7 : Nat, (((w2.cell? (⟨w', 2, none⟩ : Addr)) = (some (Value.slice o5 n6 n7))) ∧
(∃ a8 : Addr, ((o5 = (some a8)) ∧
(((0 ≤ who) ∧
(who < ((n6 : Nat) : Int))) ∧
(∃ x9 : Int, (((w2.cell? (Addr.add (Addr.add a8 ((who).toNat * 3)) 2)) = (some (Value.int IntKind.i64 x9))) ∧
(R (Ending.returned (Value.int IntKind.i64 x9)) w2))))))))))) ∧
((b3 = false) →
(R (Ending.returned (Value.int IntKind.i64 0)) w2))))))))) :
    Calls Try.prog 17 #[(.pointer (some ⟨w', 0, none⟩)), (.int .i64 who)] w R :=
  calls_of_vc an17 Try.func17 rfl (by kernel_rfl) (by kernel_rfl) (Eq.mp (by kernel_rfl) h)

/-- (*samaritan/failuredetector.Detector).Timeout -/
def an18 : An := (.seq (.reg []) (.seq (.seq (.reg [(2, 0, true)]) (.cond (.seq (.reg []) .nil) .nil)) (.seq (.reg []) .nil)))
theorem nf18 (w' : Nat) (who : Int) (w : World) (R : Ending → World → Prop) (h :
(Calls Try.prog 24 #[(Value.pointer (some (⟨w', 0, none⟩ : Addr))), (Value.int IntKind.i64 who)] w (fun (e1 : Ending) => (fun (w2 : World) => (∃ b3 : Bool, ((e1 = (Ending.returned (Value.bool b3))) ∧
(((b3 = true) →
(∃ o5 : Option Addr, (∃ n6 : Nat, (∃ n7 : Nat, (((w2.cell? (⟨w', 2, none⟩ : Addr)) = (some (Value.slice o5 n6 n7))) ∧
(∃ a8 : Addr, ((o5 = (some a8)) ∧
(((0 ≤ who) ∧
(who < ((n6 : Nat) : Int))) ∧
(∃ x9 : Int, (((w2.cell? (Addr.add (Addr.add a8 ((who).toNat * 3)) 1)) = (some (Value.int IntKind.i64 x9))) ∧
(R (Ending.returned (Value.int IntKind.i64 x9)) w2))))))))))) ∧
((b3 = false) →
(R (Ending.returned (Value.int IntKind.i64 0)) w2))))))))) :
    Calls Try.prog 18 #[(.pointer (some ⟨w', 0, none⟩)), (.int .i64 who)] w R :=
  calls_of_vc an18 Try.func18 rfl (by kernel_rfl) (by kernel_rfl) (Eq.mp (by kernel_rfl) h)

/-- (*samaritan/failuredetector.Detector).NextAlive -/
def an19 : An := (.seq (.reg []) (.seq (.seq (.reg [(1, 0, true), (9, 0, true)]) (.cond (.seq (.reg []) .nil) .nil)) (.seq (.seq (.reg []) (.blk (.loop [(25, .int .i64)] (.seq (.reg [(0, 0, true)]) (.seq (.cond .nil .nil) (.seq (.blk (.seq (.reg []) (.seq (.reg [(9, 2, false)]) (.seq (.reg [(3, 0, true)]) (.cond (.seq (.reg []) .nil) .nil))))) (.reg []))))))) (.seq (.reg []) .nil))))
theorem nf19 (w' : Nat) (behind : Int) (now : Int) (w : World) (R : Ending → World → Prop) (h :
((((decide (behind < 0)) = true) →
(R (Ending.returned (Value.int IntKind.i64 (-1))) w)) ∧
(((decide (behind < 0)) = false) →
(∃ o3 : Option Addr, (∃ n4 : Nat, (∃ n5 : Nat, (((w.cell? (⟨w', 2, none⟩ : Addr)) = (some (Value.slice o3 n4 n5))) ∧
((((decide (behind ≥ ((n4 : Nat) : Int))) = true) →
(R (Ending.returned (Value.int IntKind.i64 (-1))) w)) ∧
(((decide (behind ≥ ((n4 : Nat) : Int))) = false) →
(∃ o8 : Option Addr, (∃ n9 : Nat, (∃ n10 : Nat, (((w.cell? (⟨w', 2, none⟩ : Addr)) = (some (Value.slice o8 n9 n10))) ∧
(∃ k11 : (Nat → (Int → (World → Prop))), ((∃ n12 : Nat, (k11 n12 0 w)) ∧
(∀ n13 : Nat, ((Nat → Value) →
(∀ w15 : World, (∀ x16 : Int, ((k11 n13 x16 w15) →
((((decide (x16 < ((n9 : Nat) : Int))) = true) →
(∃ o19 : Option Addr, (∃ n20 : Nat, (∃ n21 : Nat, (((w15.cell? (⟨w', 2, none⟩ : Addr)) = (some (Value.slice o19 n20 n21))) ∧
((((n20 : Nat) : Int) ≠ 0) ∧
(Calls Try.prog 26 #[(Value.pointer (some (⟨w', 0, none⟩ : Addr))), (Value.int IntKind.i64 (Int.tmod (IntKind.wrap IntKind.i64 ((IntKind.wrap IntKind.i64 (behind + 1)) + x16)) ((n20 : Nat) : Int))), (Value.int IntKind.i64 now)] w15 (fun (e22 : Ending) => (fun (w23 : World) => (∃ b24 : Bool, ((e22 = (Ending.returned (Value.bool b24))) ∧
(((b24 = true) →
(∃ n26 : Nat, ((n26 < n13) ∧
(k11 n26 (IntKind.wrap IntKind.i64 (x16 + 1)) w23)))) ∧
((b24 = false) →
(R (Ending.returned (Value.int IntKind.i64 (Int.tmod (IntKind.wrap IntKind.i64 ((IntKind.wrap IntKind.i64 (behind + 1)) + x16)) ((n20 : Nat) : Int)))) w23)))))))))))))) ∧
(((decide (x16 < ((n9 : Nat) : Int))) = false) →
(R (Ending.returned (Value.int IntKind.i64 (-1))) w15))))))))))))))))))))))) :
    Calls Try.prog 19 #[(.pointer (some ⟨w', 0, none⟩)), (.int .i64 behind), (.int .i64 now)] w R :=
  calls_of_vc an19 Try.func19 rfl (by kernel_rfl) (by kernel_rfl) (Eq.mp (by kernel_rfl) h)

/-- samaritan/failuredetector.New -/
def an14 : An := (.seq (.reg []) (.seq (.seq (.reg [(1, 0, true), (4, 0, true), (8, 0, true), (13, 0, true)]) (.cond (.seq (.reg []) .nil) .nil)) (.seq (.seq (.reg [(1, 0, true), (5, 0, true), (9, 0, true)]) (.cond (.seq (.reg []) .nil) .nil)) (.seq (.reg [(3, 1, false)]) (.seq (.seq (.reg []) (.blk (.loop [(51, .int .i64)] (.seq (.reg [(0, 0, true)]) (.seq (.cond .nil .nil) (.seq (.blk (.seq (.reg []) (.regD [] [0, 1, 2, 3, 4, 5, 7, 6, 8, 9, 10] [6, 10]))) (.reg []))))))) (.seq (.reg []) .nil))))))
theorem nf14 (self : Int) (all : Int) (patience : Int) (most : Int) (now : Int) (w : World) (R : Ending → World → Prop) (h :
((((decide (all < 1)) = true) →
(R (Ending.returned (Value.tuple #[(Value.pointer none), (Value.int IntKind.i64 1)])) w)) ∧
(((decide (all < 1)) = false) →
((((decide (all > 64)) = true) →
(R (Ending.returned (Value.tuple #[(Value.pointer none), (Value.int IntKind.i64 1)])) w)) ∧
(((decide (all > 64)) = false) →
((((decide (self < 0)) = true) →
(R (Ending.returned (Value.tuple #[(Value.pointer none), (Value.int IntKind.i64 1)])) w)) ∧
(((decide (self < 0)) = false) →
((((decide (self ≥ all)) = true) →
(R (Ending.returned (Value.tuple #[(Value.pointer none), (Value.int IntKind.i64 1)])) w)) ∧
(((decide (self ≥ all)) = false) →
((((decide (patience < 1)) = true) →
(R (Ending.returned (Value.tuple #[(Value.pointer none), (Value.int IntKind.i64 1)])) w)) ∧
(((decide (patience < 1)) = false) →
((((decide (patience > most)) = true) →
(R (Ending.returned (Value.tuple #[(Value.pointer none), (Value.int IntKind.i64 1)])) w)) ∧
(((decide (patience > most)) = false) →
((((decide (most > 1099511627776)) = true) →
(R (Ending.returned (Value.tuple #[(Value.pointer none), (Value.int IntKind.i64 1)])) w)) ∧
(((decide (most > 1099511627776)) = false) →
(RunOk Try.prog (Nf.Hold (Instr.makeSlice 66 (Value.int IntKind.i64 all) (Value.int IntKind.i64 all))) w (fun (v15 : Value) => (fun (w16 : World) => (∃ o17 : Option Addr, (∃ n18 : Nat, (∃ n19 : Nat, ((v15 = (Value.slice o17 n18 n19)) ∧
(∀ w20 : World, ((w20 = (w16.alloc (Obj.cells #[(Value.int IntKind.i64 self), (Value.int IntKind.i64 most), (Value.slice o17 n18 n19)] 68 (0, 0)))) →
(∃ o22 : Option Addr, (∃ n23 : Nat, (∃ n24 : Nat, (((w20.cell? (⟨(hs w16), 2, none⟩ : Addr)) = (some (Value.slice o22 n23 n24))) ∧
(∃ k25 : (Nat → (Int → (World → Prop))), ((∃ n26 : Nat, (k25 n26 0 w20)) ∧
(∀ n27 : Nat, ((Nat → Value) →
(∀ w29 : World, (∀ x30 : Int, ((k25 n27 x30 w29) →
((((decide (x30 < ((n23 : Nat) : Int))) = true) →
(∀ w33 : World, ((w33 = w29.drew) →
(∃ o35 : Option Addr, (∃ n36 : Nat, (∃ n37 : Nat, (((w33.cell? (⟨(hs w16), 2, none⟩ : Addr)) = (some (Value.slice o35 n36 n37))) ∧
(Calls Try.prog 25 #[(Value.int IntKind.i64 now)] w33 (fun (e38 : Ending) => (fun (w39 : World) => (∃ x40 : Int, ((e38 = (Ending.returned (Value.int IntKind.i64 x40))) ∧
((Nf.Kept w33 w39 (⟨(hs w16), 2, none⟩ : Addr) 1) ∧
(∃ a41 : Addr, ((o35 = (some a41)) ∧
(((0 ≤ x30) ∧
(x30 < ((n36 : Nat) : Int))) ∧
((Nf.There w39 (Addr.add a41 ((x30).toNat * 3)) 3) ∧
(∀ w42 : World, ((w42 = (Nf.setCells w39 (Addr.add a41 ((x30).toNat * 3)) [(Value.int IntKind.i64 x40), (Value.int IntKind.i64 patience), (Value.int IntKind.i64 0)] 0)) →
(∃ n44 : Nat, ((n44 < n27) ∧
(k25 n44 (IntKind.wrap IntKind.i64 (x30 + 1)) w42)))))))))))))))))))))) ∧
(((decide (x30 < ((n23 : Nat) : Int))) = false) →
(R (Ending.returned (Value.tuple #[(Value.pointer (some (⟨(hs w16), 0, none⟩ : Addr))), (Value.int IntKind.i64 0)])) w29)))))))))))))))))))))))))))))))))))))) :
    Calls Try.prog 14 #[(.int .i64 self), (.int .i64 all), (.int .i64 patience), (.int .i64 most), (.int .i64 now)] w R :=
  calls_of_vc an14 Try.func14 rfl (by kernel_rfl) (by kernel_rfl) (Eq.mp (by kernel_rfl) h)

/-- (*samaritan/samaritanref21.Watch).Is -/
def an27 : An := (.seq (.reg []) (.seq (.reg [(1, 0, true), (9, 0, true), (17, 0, true)]) .nil))
theorem nf27 (w' : Nat) (who : Int) (w : World) (R : Ending → World → Prop) (h :
((((decide (who ≥ 0)) = true) →
(∃ o2 : Option Addr, (∃ n3 : Nat, (∃ n4 : Nat, (((w.cell? (⟨w', 2, none⟩ : Addr)) = (some (Value.slice o2 n3 n4))) ∧
((((decide (who < ((n3 : Nat) : Int))) = true) →
(∃ x6 : Int, (((w.cell? (⟨w', 0, none⟩ : Addr)) = (some (Value.int IntKind.i64 x6))) ∧
((((!(decide (who = x6))) = true) →
(R (Ending.returned (Value.bool true)) w)) ∧
(((!(decide (who = x6))) = false) →
(R (Ending.returned (Value.bool false)) w)))))) ∧
(((decide (who < ((n3 : Nat) : Int))) = false) →
(R (Ending.returned (Value.bool false)) w)))))))) ∧
(((decide (who ≥ 0)) = false) →
(R (Ending.returned (Value.bool false)) w)))) :
    Calls Try.prog 27 #[(.pointer (some ⟨w', 0, none⟩)), (.int .i64 who)] w R :=
  calls_of_vc an27 Try.func27 rfl (by kernel_rfl) (by kernel_rfl) (Eq.mp (by kernel_rfl) h)

/-- (*samaritan/samaritanref21.Watch).Suspected -/
def an29 : An := (.seq (.reg []) (.seq (.regD [(2, 0, true), (22, 0, true)] [0, 1, 2, 3, 4, 5, 6, 7, 8, 9, 10, 11, 12, 14, 15, 16, 17, 18, 19, 20, 21, 13, 22, 23, 24] [2, 13]) .nil))
theorem nf29 (w' : Nat) (who : Int) (now : Int) (w : World) (R : Ending → World → Prop) (h :
(∀ w1 : World, ((w1 = w.drew) →
(Calls Try.prog 27 #[(Value.pointer (some (⟨w', 0, none⟩ : Addr))), (Value.int IntKind.i64 who)] w1 (fun (e3 : Ending) => (fun (w4 : World) => (∃ b5 : Bool, ((e3 = (Ending.returned (Value.bool b5))) ∧
(((b5 = true) →
(∃ o7 : Option Addr, (∃ n8 : Nat, (∃ n9 : Nat, (((w4.cell? (⟨w', 2, none⟩ : Addr)) = (some (Value.slice o7 n8 n9))) ∧
(∃ a10 : Addr, ((o7 = (some a10)) ∧
(((0 ≤ who) ∧
(who < ((n8 : Nat) : Int))) ∧
(∃ x11 : Int, (((w4.cell? (Addr.add a10 ((who).toNat * 3))) = (some (Value.int IntKind.i64 x11))) ∧
(∃ o12 : Option Addr, (∃ n13 : Nat, (∃ n14 : Nat, (((w4.cell? (⟨w', 2, none⟩ : Addr)) = (some (Value.slice o12 n13 n14))) ∧
(∃ a15 : Addr, ((o12 = (some a15)) ∧
(((0 ≤ who) ∧
(who < ((n13 : Nat) : Int))) ∧
(∃ x16 : Int, (((w4.cell? (Addr.add (Addr.add a15 ((who).toNat * 3)) 1)) = (some (Value.int IntKind.i64 x16))) ∧
(Calls Try.prog 31 #[(Value.int IntKind.i64 now), (Value.int IntKind.i64 x11)] w4 (fun (e17 : Ending) => (fun (w18 : World) => (∃ x19 : Int, ((e17 = (Ending.returned (Value.int IntKind.i64 x19))) ∧
((Nf.Kept w4 w18 (Addr.add (Addr.add a15 ((who).toNat * 3)) 1) 1) ∧
((Nf.Kept w4 w18 (⟨w', 2, none⟩ : Addr) 1) ∧
((((decide (x19 > x16)) = true) →
(R (Ending.returned (Value.bool true)) w18)) ∧
(((decide (x19 > x16)) = false) →
(R (Ending.returned (Value.bool false)) w18))))))))))))))))))))))))))))) ∧
((b5 = false) →
(R (Ending.returned (Value.bool false)) w4))))))))))) :
    Calls Try.prog 29 #[(.pointer (some ⟨w', 0, none⟩)), (.int .i64 who), (.int .i64 now)] w R :=
  calls_of_vc an29 Try.func29 rfl (by kernel_rfl) (by kernel_rfl) (Eq.mp (by kernel_rfl) h)

/-- (*samaritan/samaritanref21.Watch).Heard -/
def an13 : An := (.seq (.reg []) (.seq (.seq (.reg [(2, 0, true)]) (.cond (.seq (.reg []) .nil) .nil)) (.seq (.reg []) (.seq (.reg [(5, 1, false)]) (.cut [] (.seq (.reg [(3, 0, true)]) (.cond (.seq (.reg []) (.seq (.reg []) (.seq (.regD [(9, 0, true)] [0, 1, 2, 3, 4, 5, 6, 7, 8, 9] []) (.cond (.reg []) .nil)))) .nil)) (.seq (.seq (.reg [(6, 0, true)]) (.cond (.reg []) .nil)) (.seq (.reg []) (.seq (.reg []) .nil))))))))
theorem nf13 (w' : Nat) (who : Int) (now : Int) (w : World) (R : Ending → World → Prop) (h :
(Calls Try.prog 27 #[(Value.pointer (some (⟨w', 0, none⟩ : Addr))), (Value.int IntKind.i64 who)] w (fun (e1 : Ending) => (fun (w2 : World) => (∃ b3 : Bool, ((e1 = (Ending.returned (Value.bool b3))) ∧
(((b3 = true) →
(Calls Try.prog 28 #[(Value.int IntKind.i64 now)] w2 (fun (e5 : Ending) => (fun (w6 : World) => (∃ x7 : Int, ((e5 = (Ending.returned (Value.int IntKind.i64 x7))) ∧
(∀ w8 : World, ((w8 = (w6.alloc (Obj.cells #[] 59 (0, 0)))) →
(∃ o10 : Option Addr, (∃ n11 : Nat, (∃ n12 : Nat, (((w8.cell? (⟨w', 2, none⟩ : Addr)) = (some (Value.slice o10 n11 n12))) ∧
(RunOk Try.prog (Nf.Hold (Builtin.append_ #[55, 55] 55 #[(Value.slice (some (⟨(hs w6), 0, none⟩ : Addr)) 0 0), (Value.slice o10 n11 n12)])) w8 (fun (v13 : Value) => (fun (w14 : World) => (∃ o15 : Option Addr, (∃ n16 : Nat, (∃ n17 : Nat, ((v13 = (Value.slice o15 n16 n17)) ∧
(∀ k18 : (World → Prop), ((∀ w20 : World, (((Nat → Value) →
(∃ a23 : Addr, ((o15 = (some a23)) ∧
(((0 ≤ who) ∧
(who < ((n16 : Nat) : Int))) ∧
(∃ x24 : Int, (((w20.cell? (Addr.add a23 ((who).toNat * 3))) = (some (Value.int IntKind.i64 x24))) ∧
((((decide (x7 > x24)) = true) →
(∃ a26 : Addr, ((o15 = (some a26)) ∧
(((0 ≤ who) ∧
(who < ((n16 : Nat) : Int))) ∧
((Nf.There w20 (Addr.add a26 ((who).toNat * 3)) 1) ∧
(∀ w27 : World, ((w27 = (Nf.setCells w20 (Addr.add a26 ((who).toNat * 3)) [(Value.int IntKind.i64 x7)] 0)) →
((Nf.There w27 (⟨w', 2, none⟩ : Addr) 1) ∧
(∀ w29 : World, ((w29 = (Nf.setCells w27 (⟨w', 2, none⟩ : Addr) [(Value.slice o15 n16 n17)] 0)) →
(R (Ending.returned (Value.int IntKind.i64 0)) w29))))))))))) ∧
(((decide (x7 > x24)) = false) →
((Nf.There w20 (⟨w', 2, none⟩ : Addr) 1) ∧
(∀ w32 : World, ((w32 = (Nf.setCells w20 (⟨w', 2, none⟩ : Addr) [(Value.slice o15 n16 n17)] 0)) →
(R (Ending.returned (Value.int IntKind.i64 0)) w32)))))))))))) →
(k18 w20))) →
(Calls Try.prog 29 #[(Value.pointer (some (⟨w', 0, none⟩ : Addr))), (Value.int IntKind.i64 who), (Value.int IntKind.i64 x7)] w14 (fun (e34 : Ending) => (fun (w35 : World) => (∃ b36 : Bool, ((e34 = (Ending.returned (Value.bool b36))) ∧
(((b36 = true) →
(∃ a38 : Addr, ((o15 = (some a38)) ∧
(((0 ≤ who) ∧
(who < ((n16 : Nat) : Int))) ∧
(∃ x39 : Int, (((w35.cell? (Addr.add (Addr.add a38 ((who).toNat * 3)) 2)) = (some (Value.int IntKind.i64 x39))) ∧
(∃ a40 : Addr, ((o15 = (some a40)) ∧
(((0 ≤ who) ∧
(who < ((n16 : Nat) : Int))) ∧
((Nf.There w35 (Addr.add (Addr.add a40 ((who).toNat * 3)) 2) 1) ∧
(∀ w41 : World, ((w41 = (Nf.setCells w35 (Addr.add (Addr.add a40 ((who).toNat * 3)) 2) [(Value.int IntKind.i64 (IntKind.wrap IntKind.i64 (x39 + 1)))] 0)) →
(∃ a43 : Addr, ((o15 = (some a43)) ∧
(((0 ≤ who) ∧
(who < ((n16 : Nat) : Int))) ∧
(∃ x44 : Int, (((w41.cell? (Addr.add (Addr.add a43 ((who).toNat * 3)) 1)) = (some (Value.int IntKind.i64 x44))) ∧
(∃ a45 : Addr, ((o15 = (some a45)) ∧
(((0 ≤ who) ∧
(who < ((n16 : Nat) : Int))) ∧
((Nf.There w41 (Addr.add (Addr.add a45 ((who).toNat * 3)) 1) 1) ∧
(∀ w46 : World, ((w46 = (Nf.setCells w41 (Addr.add (Addr.add a45 ((who).toNat * 3)) 1) [(Value.int IntKind.i64 (IntKind.wrap IntKind.i64 (2 * x44)))] 0)) →
(∀ w48 : World, ((w48 = w46.drew) →
(∃ a50 : Addr, ((o15 = (some a50)) ∧
(((0 ≤ who) ∧
(who < ((n16 : Nat) : Int))) ∧
(∃ x51 : Int, (((w48.cell? (Addr.add (Addr.add a50 ((who).toNat * 3)) 1)) = (some (Value.int IntKind.i64 x51))) ∧
(∃ x52 : Int, (((w48.cell? (⟨w', 1, none⟩ : Addr)) = (some (Value.int IntKind.i64 x52))) ∧
((((decide (x51 > x52)) = true) →
(∃ x54 : Int, (((w48.cell? (⟨w', 1, none⟩ : Addr)) = (some (Value.int IntKind.i64 x54))) ∧
(∃ a55 : Addr, ((o15 = (some a55)) ∧
(((0 ≤ who) ∧
(who < ((n16 : Nat) : Int))) ∧
((Nf.There w48 (Addr.add (Addr.add a55 ((who).toNat * 3)) 1) 1) ∧
(∀ w56 : World, ((w56 = (Nf.setCells w48 (Addr.add (Addr.add a55 ((who).toNat * 3)) 1) [(Value.int IntKind.i64 x54)] 0)) →
(k18 w56)))))))))) ∧
(((decide (x51 > x52)) = false) →
(k18 w48))))))))))))))))))))))))))))))))))) ∧
((b36 = false) →
(k18 w35))))))))))))))))))))))))))))) ∧
((b3 = false) →
(R (Ending.returned (Value.int IntKind.i64 1)) w2))))))))) :
    Calls Try.prog 13 #[(.pointer (some ⟨w', 0, none⟩)), (.int .i64 who), (.int .i64 now)] w R :=
  calls_of_vc an13 Try.func13 rfl (by kernel_rfl) (by kernel_rfl) (Eq.mp (by kernel_rfl) h)

/-- samaritan/samaritanref21.New -/
def an15 : An := (.seq (.reg []) (.seq (.seq (.reg [(1, 0, true), (4, 0, true), (8, 0, true), (13, 0, true), (17, 0, true), (22, 0, true), (26, 0, true)]) (.cond (.seq (.reg []) .nil) .nil)) (.seq (.reg []) (.seq (.seq (.reg []) (.blk (.loop [(13, .int .i64)] (.seq (.seq (.reg [(2, 0, true)]) (.cond .nil .nil)) (.seq (.blk (.regD [(10, 1, false)] [0, 1, 2, 3, 4, 5, 7, 6, 8, 9, 10, 11, 12, 13] [6, 9, 10, 13])) (.reg [])))))) (.seq (.reg []) .nil)))))
theorem nf15 (self : Int) (all : Int) (patience : Int) (most : Int) (now : Int) (w : World) (R : Ending → World → Prop) (h :
((((decide (all < 1)) = true) →
(R (Ending.returned (Value.tuple #[(Value.pointer none), (Value.bool false)])) w)) ∧
(((decide (all < 1)) = false) →
((((decide (all > 64)) = true) →
(R (Ending.returned (Value.tuple #[(Value.pointer none), (Value.bool false)])) w)) ∧
(((decide (all > 64)) = false) →
((((decide (self < 0)) = true) →
(R (Ending.returned (Value.tuple #[(Value.pointer none), (Value.bool false)])) w)) ∧
(((decide (self < 0)) = false) →
((((decide (self ≥ all)) = true) →
(R (Ending.returned (Value.tuple #[(Value.pointer none), (Value.bool false)])) w)) ∧
(((decide (self ≥ all)) = false) →
((((decide (patience < 1)) = true) →
(R (Ending.returned (Value.tuple #[(Value.pointer none), (Value.bool false)])) w)) ∧
(((decide (patience < 1)) = false) →
((((decide (patience > most)) = true) →
(R (Ending.returned (Value.tuple #[(Value.pointer none), (Value.bool false)])) w)) ∧
(((decide (patience > most)) = false) →
((((decide (most > 1099511627776)) = true) →
(R (Ending.returned (Value.tuple #[(Value.pointer none), (Value.bool false)])) w)) ∧
(((decide (most > 1099511627776)) = false) →
(∀ w15 : World, ((w15 = (w.alloc (Obj.cells #[(Value.int IntKind.i64 self), (Value.int IntKind.i64 most), (Value.slice none 0 0)] 57 (0, 0)))) →
(∃ k17 : (Nat → (Int → (World → Prop))), ((∃ n18 : Nat, (k17 n18 0 w15)) ∧
(∀ n19 : Nat, ((Nat → Value) →
(∀ w21 : World, (∀ x22 : Int, ((k17 n19 x22 w21) →
((((decide (x22 < all)) = true) →
(∀ w25 : World, ((w25 = w21.drew) →
(∃ o27 : Option Addr, (∃ n28 : Nat, (∃ n29 : Nat, (((w25.cell? (⟨(hs w), 2, none⟩ : Addr)) = (some (Value.slice o27 n28 n29))) ∧
(Calls Try.prog 28 #[(Value.int IntKind.i64 now)] w25 (fun (e30 : Ending) => (fun (w31 : World) => (∃ x32 : Int, ((e30 = (Ending.returned (Value.int IntKind.i64 x32))) ∧
((Nf.Kept w25 w31 (⟨(hs w), 2, none⟩ : Addr) 1) ∧
(∀ w33 : World, ((w33 = (w31.alloc (Obj.cells #[(Value.int IntKind.i64 x32), (Value.int IntKind.i64 patience), (Value.int IntKind.i64 0)] 59 (0, 0)))) →
((Nf.Kept w25 w33 (⟨(hs w), 2, none⟩ : Addr) 1) ∧
(RunOk Try.prog (Nf.Hold (Builtin.append_ #[55, 55] 55 #[(Value.slice o27 n28 n29), (Value.slice (some (⟨(hs w31), 0, none⟩ : Addr)) 1 1)])) w33 (fun (v35 : Value) => (fun (w36 : World) => (∃ o37 : Option Addr, (∃ n38 : Nat, (∃ n39 : Nat, ((v35 = (Value.slice o37 n38 n39)) ∧
((Nf.There w36 (⟨(hs w), 2, none⟩ : Addr) 1) ∧
(∀ w40 : World, ((w40 = (Nf.setCells w36 (⟨(hs w), 2, none⟩ : Addr) [(Value.slice o37 n38 n39)] 0)) →
(∃ n42 : Nat, ((n42 < n19) ∧
(k17 n42 (IntKind.wrap IntKind.i64 (x22 + 1)) w40))))))))))))))))))))))))))))) ∧
(((decide (x22 < all)) = false) →
(R (Ending.returned (Value.tuple #[(Value.pointer (some (⟨(hs w), 0, none⟩ : Addr))), (Value.bool true)])) w21))))))))))))))))))))))))))) :
    Calls Try.prog 15 #[(.int .i64 self), (.int .i64 all), (.int .i64 patience), (.int .i64 most), (.int .i64 now)] w R :=
  calls_of_vc an15 Try.func15 rfl (by kernel_rfl) (by kernel_rfl) (Eq.mp (by kernel_rfl) h)

/-- samaritan/samaritanref21.Same -/
def an20 : An := (.seq (.reg []) (.seq (.seq (.reg [(4, 0, true)]) (.cond (.seq (.reg []) .nil) .nil)) (.seq (.seq (.reg []) (.blk (.loop [(5, .int .i64)] (.seq (.seq (.reg [(3, 0, true)]) (.cond .nil .nil)) (.seq (.blk (.seq (.regD [(8, 0, true)] [0, 1, 2, 3, 4, 5, 6, 7, 8] []) (.cond (.seq (.reg []) .nil) .nil))) (.reg [])))))) (.seq (.reg []) .nil))))
theorem nf20 (a : Option Addr) (a_n : Nat) (a_c : Nat) (b : Option Addr) (b_n : Nat) (b_c : Nat) (w : World) (R : Ending → World → Prop) (h :
((((!(decide (((a_n : Nat) : Int) = ((b_n : Nat) : Int)))) = true) →
(R (Ending.returned (Value.bool false)) w)) ∧
(((!(decide (((a_n : Nat) : Int) = ((b_n : Nat) : Int)))) = false) →
(∃ k3 : (Nat → (Int → (World → Prop))), ((∃ n4 : Nat, (k3 n4 0 w)) ∧
(∀ n5 : Nat, ((Nat → Value) →
(∀ w7 : World, (∀ x8 : Int, ((k3 n5 x8 w7) →
((((decide (x8 < ((a_n : Nat) : Int))) = true) →
(∀ w11 : World, ((w11 = w7.drew) →
(∃ a13 : Addr, ((a = (some a13)) ∧
(((0 ≤ x8) ∧
(x8 < ((a_n : Nat) : Int))) ∧
(∃ x14 : Int, (((w11.cell? (Addr.add a13 ((x8).toNat * 1))) = (some (Value.int IntKind.i64 x14))) ∧
(∃ a15 : Addr, ((b = (some a15)) ∧
(((0 ≤ x8) ∧
(x8 < ((b_n : Nat) : Int))) ∧
(∃ x16 : Int, (((w11.cell? (Addr.add a15 ((x8).toNat * 1))) = (some (Value.int IntKind.i64 x16))) ∧
((((!(decide (x14 = x16))) = true) →
(R (Ending.returned (Value.bool false)) w11)) ∧
(((!(decide (x14 = x16))) = false) →
(∃ n19 : Nat, ((n19 < n5) ∧
(k3 n19 (IntKind.wrap IntKind.i64 (x8 + 1)) w11)))))))))))))))))) ∧
(((decide (x8 < ((a_n : Nat) : Int))) = false) →
(R (Ending.returned (Value.bool true)) w7))))))))))))) :
    Calls Try.prog 20 #[(.slice a a_n a_c), (.slice b b_n b_c)] w R :=
  calls_of_vc an20 Try.func20 rfl (by kernel_rfl) (by kernel_rfl) (Eq.mp (by kernel_rfl) h)

/-- (*samaritan/samaritanref21.Watch).Suspects -/
def an21 : An := (.seq (.reg []) (.seq (.reg []) (.seq (.seq (.reg []) (.blk (.loop [(5, .slice), (6, .int .i64)] (.seq (.seq (.reg [(6, 0, true)]) (.cond .nil .nil)) (.seq (.blk (.seq (.reg [(3, 0, true)]) (.cond (.reg [(3, 1, false)]) .nil))) (.reg [])))))) (.seq (.reg []) .nil))))
theorem nf21 (w' : Nat) (now : Int) (w : World) (R : Ending → World → Prop) (h :
(∀ w1 : World, ((w1 = (w.alloc (Obj.cells #[] 3 (0, 0)))) →
(∃ k3 : (Nat → (Option Addr → (Nat → (Nat → (Int → (World → Prop)))))), ((∃ n4 : Nat, (k3 n4 (some (⟨(hs w), 0, none⟩ : Addr)) 0 0 0 w1)) ∧
(∀ n5 : Nat, ((Nat → Value) →
(∀ w7 : World, (∀ o8 : Option Addr, (∀ n9 : Nat, (∀ n10 : Nat, (∀ x11 : Int, ((k3 n5 o8 n9 n10 x11 w7) →
(∃ o13 : Option Addr, (∃ n14 : Nat, (∃ n15 : Nat, (((w7.cell? (⟨w', 2, none⟩ : Addr)) = (some (Value.slice o13 n14 n15))) ∧
((((decide (x11 < ((n14 : Nat) : Int))) = true) →
(Calls Try.prog 29 #[(Value.pointer (some (⟨w', 0, none⟩ : Addr))), (Value.int IntKind.i64 x11), (Value.int IntKind.i64 now)] w7 (fun (e17 : Ending) => (fun (w18 : World) => (∃ b19 : Bool, ((e17 = (Ending.returned (Value.bool b19))) ∧
(((b19 = true) →
(∀ w21 : World, ((w21 = (w18.alloc (Obj.cells #[(Value.int IntKind.i64 x11)] 3 (0, 0)))) →
(RunOk Try.prog (Nf.Hold (Builtin.append_ #[43, 43] 43 #[(Value.slice o8 n9 n10), (Value.slice (some (⟨(hs w18), 0, none⟩ : Addr)) 1 1)])) w21 (fun (v23 : Value) => (fun (w24 : World) => (∃ o25 : Option Addr, (∃ n26 : Nat, (∃ n27 : Nat, ((v23 = (Value.slice o25 n26 n27)) ∧
(∃ n28 : Nat, ((n28 < n5) ∧
(k3 n28 o25 n26 n27 (IntKind.wrap IntKind.i64 (x11 + 1)) w24))))))))))))) ∧
((b19 = false) →
(∃ n30 : Nat, ((n30 < n5) ∧
(k3 n30 o8 n9 n10 (IntKind.wrap IntKind.i64 (x11 + 1)) w18))))))))))) ∧
(((decide (x11 < ((n14 : Nat) : Int))) = false) →
(R (Ending.returned (Value.slice o8 n9 n10)) w7)))))))))))))))))))) :
    Calls Try.prog 21 #[(.pointer (some ⟨w', 0, none⟩)), (.int .i64 now)] w R :=
  calls_of_vc an21 Try.func21 rfl (by kernel_rfl) (by kernel_rfl) (Eq.mp (by kernel_rfl) h)

/-- (*samaritan/samaritanref21.Watch).Of -/
def an22 : An := (.seq (.reg []) (.seq (.seq (.reg [(2, 0, true)]) (.cond (.seq (.reg []) .nil) .nil)) (.seq (.reg []) .nil)))
theorem nf22 (w' : Nat) (who : Int) (w : World) (R : Ending → World → Prop) (h :
(∀ w1 : World, ((w1 = (w.alloc (Obj.cells #[(Value.int IntKind.i64 0), (Value.int IntKind.i64 0), (Value.int IntKind.i64 0)] 59 (0, 0)))) →
(Calls Try.prog 27 #[(Value.pointer (some (⟨w', 0, none⟩ : Addr))), (Value.int IntKind.i64 who)] w1 (fun (e3 : Ending) => (fun (w4 : World) => (∃ b5 : Bool, ((e3 = (Ending.returned (Value.bool b5))) ∧
(((b5 = true) →
(∃ o7 : Option Addr, (∃ n8 : Nat, (∃ n9 : Nat, (((w4.cell? (⟨w', 2, none⟩ : Addr)) = (some (Value.slice o7 n8 n9))) ∧
(∃ a10 : Addr, ((o7 = (some a10)) ∧
(((0 ≤ who) ∧
(who < ((n8 : Nat) : Int))) ∧
(∃ x11 : Int, (((w4.cell? (Addr.add a10 ((who).toNat * 3))) = (some (Value.int IntKind.i64 x11))) ∧
(∃ x12 : Int, (((w4.cell? (Addr.add (Addr.add a10 ((who).toNat * 3)) 1)) = (some (Value.int IntKind.i64 x12))) ∧
(∃ x13 : Int, (((w4.cell? (Addr.add (Addr.add a10 ((who).toNat * 3)) 2)) = (some (Value.int IntKind.i64 x13))) ∧
((Nf.There w4 (⟨(hs w), 0, none⟩ : Addr) 3) ∧
(∀ w14 : World, ((w14 = (Nf.setCells w4 (⟨(hs w), 0, none⟩ : Addr) [(Value.int IntKind.i64 x11), (Value.int IntKind.i64 x12), (Value.int IntKind.i64 x13)] 0)) →
(∃ x16 : Int, (((w14.cell? (⟨(hs w), 0, none⟩ : Addr)) = (some (Value.int IntKind.i64 x16))) ∧
(∃ x17 : Int, (((w14.cell? (⟨(hs w), 1, none⟩ : Addr)) = (some (Value.int IntKind.i64 x17))) ∧
(∃ x18 : Int, (((w14.cell? (⟨(hs w), 2, none⟩ : Addr)) = (some (Value.int IntKind.i64 x18))) ∧
(R (Ending.returned (Value.agg #[(Value.int IntKind.i64 x16), (Value.int IntKind.i64 x17), (Value.int IntKind.i64 x18)])) w14)))))))))))))))))))))))) ∧
((b5 = false) →
((Nf.There w4 (⟨(hs w), 0, none⟩ : Addr) 3) ∧
(∀ w20 : World, ((w20 = (Nf.setCells w4 (⟨(hs w), 0, none⟩ : Addr) [(Value.int IntKind.i64 0), (Value.int IntKind.i64 0), (Value.int IntKind.i64 0)] 0)) →
(∃ x22 : Int, (((w20.cell? (⟨(hs w), 0, none⟩ : Addr)) = (some (Value.int IntKind.i64 x22))) ∧
(∃ x23 : Int, (((w20.cell? (⟨(hs w), 1, none⟩ : Addr)) = (some (Value.int IntKind.i64 x23))) ∧
(∃ x24 : Int, (((w20.cell? (⟨(hs w), 2, none⟩ : Addr)) = (some (Value.int IntKind.i64 x24))) ∧
(R (Ending.returned (Value.agg #[(Value.int IntKind.i64 x22), (Value.int IntKind.i64 x23), (Value.int IntKind.i64 x24)])) w20)))))))))))))))))))) :
    Calls Try.prog 22 #[(.pointer (some ⟨w', 0, none⟩)), (.int .i64 who)] w R :=
  calls_of_vc an22 Try.func22 rfl (by kernel_rfl) (by kernel_rfl) (Eq.mp (by kernel_rfl) h)

/-- (*samaritan/samaritanref21.Watch).First -/
def an23 : An := (.seq (.reg []) (.seq (.seq (.reg [(1, 0, true), (9, 0, true)]) (.cond (.seq (.reg []) .nil) .nil)) (.seq (.seq (.reg []) (.blk (.loop [(7, .int .i64)] (.seq (.seq (.reg [(6, 0, true)]) (.cond .nil .nil)) (.seq (.blk (.seq (.reg [(8, 2, false)]) (.seq (.reg [(3, 0, true)]) (.cond (.seq (.reg []) .nil) .nil)))) (.reg [])))))) (.seq (.reg []) .nil))))
theorem nf23 (w' : Nat) (behind : Int) (now : Int) (w : World) (R : Ending → World → Prop) (h :
((((decide (behind < 0)) = true) →
(R (Ending.returned (Value.int IntKind.i64 (-1))) w)) ∧
(((decide (behind < 0)) = false) →
(∃ o3 : Option Addr, (∃ n4 : Nat, (∃ n5 : Nat, (((w.cell? (⟨w', 2, none⟩ : Addr)) = (some (Value.slice o3 n4 n5))) ∧
((((decide (behind ≥ ((n4 : Nat) : Int))) = true) →
(R (Ending.returned (Value.int IntKind.i64 (-1))) w)) ∧
(((decide (behind ≥ ((n4 : Nat) : Int))) = false) →
(∃ k8 : (Nat → (Int → (World → Prop))), ((∃ n9 : Nat, (k8 n9 1 w)) ∧
(∀ n10 : Nat, ((Nat → Value) →
(∀ w12 : World, (∀ x13 : Int, ((k8 n10 x13 w12) →
(∃ o15 : Option Addr, (∃ n16 : Nat, (∃ n17 : Nat, (((w12.cell? (⟨w', 2, none⟩ : Addr)) = (some (Value.slice o15 n16 n17))) ∧
((((decide (x13 ≤ ((n16 : Nat) : Int))) = true) →
(∃ o19 : Option Addr, (∃ n20 : Nat, (∃ n21 : Nat, (((w12.cell? (⟨w', 2, none⟩ : Addr)) = (some (Value.slice o19 n20 n21))) ∧
((((n20 : Nat) : Int) ≠ 0) ∧
(Calls Try.prog 29 #[(Value.pointer (some (⟨w', 0, none⟩ : Addr))), (Value.int IntKind.i64 (Int.tmod (IntKind.wrap IntKind.i64 (behind + x13)) ((n20 : Nat) : Int))), (Value.int IntKind.i64 now)] w12 (fun (e22 : Ending) => (fun (w23 : World) => (∃ b24 : Bool, ((e22 = (Ending.returned (Value.bool b24))) ∧
(((b24 = true) →
(∃ n26 : Nat, ((n26 < n10) ∧
(k8 n26 (IntKind.wrap IntKind.i64 (x13 + 1)) w23)))) ∧
((b24 = false) →
(R (Ending.returned (Value.int IntKind.i64 (Int.tmod (IntKind.wrap IntKind.i64 (behind + x13)) ((n20 : Nat) : Int)))) w23)))))))))))))) ∧
(((decide (x13 ≤ ((n16 : Nat) : Int))) = false) →
(R (Ending.returned (Value.int IntKind.i64 (-1))) w12))))))))))))))))))))))) :
    Calls Try.prog 23 #[(.pointer (some ⟨w', 0, none⟩)), (.int .i64 behind), (.int .i64 now)] w R :=
  calls_of_vc an23 Try.func23 rfl (by kernel_rfl) (by kernel_rfl) (Eq.mp (by kernel_rfl) h)

end Go.Proofs.Ythddcccffiofbaa
