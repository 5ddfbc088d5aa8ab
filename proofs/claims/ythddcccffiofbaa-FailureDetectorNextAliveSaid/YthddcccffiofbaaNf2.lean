/- The contracts' premises: for each function, the proposition that its body comes to (printed by the tool of wip/nf). -/
import Derived.Test.YthddcccffiofbaaRows
import Derived.Test.YthddcccffiofbaaNfD
namespace Go.Proofs.Ythddcccffiofbaa
open Go Go.Nf

/-- samaritan/samaritanlaw21.both -/
def an9 : An := (.seq (.reg []) (.seq (.reg []) (.seq (.reg [(13, 0, true)]) (.seq (.seq (.reg [(4, 0, true)]) (.cond (.seq (.reg []) .nil) .nil)) (.seq (.reg []) .nil)))))
theorem nf9 (x_Self : Int) (x_All : Int) (x_Patience : Int) (x_Most : Int) (x_Now : Int) (w : World) (R : Ending → World → Prop) (h :
(∀ w1 : World, ((w1 = (w.alloc (Obj.cells #[(Value.int IntKind.i64 x_Self), (Value.int IntKind.i64 x_All), (Value.int IntKind.i64 x_Patience), (Value.int IntKind.i64 x_Most), (Value.int IntKind.i64 x_Now)] 23 (0, 0)))) →
(∃ x3 : Int, (((w1.cell? (⟨(hs w), 0, none⟩ : Addr)) = (some (Value.int IntKind.i64 x3))) ∧
(∃ x4 : Int, (((w1.cell? (⟨(hs w), 1, none⟩ : Addr)) = (some (Value.int IntKind.i64 x4))) ∧
(∃ x5 : Int, (((w1.cell? (⟨(hs w), 2, none⟩ : Addr)) = (some (Value.int IntKind.i64 x5))) ∧
(∃ x6 : Int, (((w1.cell? (⟨(hs w), 3, none⟩ : Addr)) = (some (Value.int IntKind.i64 x6))) ∧
(∃ x7 : Int, (((w1.cell? (⟨(hs w), 4, none⟩ : Addr)) = (some (Value.int IntKind.i64 x7))) ∧
(Calls Try.prog 14 #[(Value.int IntKind.i64 x3), (Value.int IntKind.i64 x4), (Value.int IntKind.i64 x5), (Value.int IntKind.i64 x6), (Value.int IntKind.i64 x7)] w1 (fun (e8 : Ending) => (fun (w9 : World) => (∃ o10 : Option Addr, (∃ x11 : Int, ((e8 = (Ending.returned (Value.tuple #[(Value.pointer o10), (Value.int IntKind.i64 x11)]))) ∧
(∃ x12 : Int, (((w9.cell? (⟨(hs w), 0, none⟩ : Addr)) = (some (Value.int IntKind.i64 x12))) ∧
(∃ x13 : Int, (((w9.cell? (⟨(hs w), 1, none⟩ : Addr)) = (some (Value.int IntKind.i64 x13))) ∧
(∃ x14 : Int, (((w9.cell? (⟨(hs w), 2, none⟩ : Addr)) = (some (Value.int IntKind.i64 x14))) ∧
(∃ x15 : Int, (((w9.cell? (⟨(hs w), 3, none⟩ : Addr)) = (some (Value.int IntKind.i64 x15))) ∧
(∃ x16 : Int, (((w9.cell? (⟨(hs w), 4, none⟩ : Addr)) = (some (Value.int IntKind.i64 x16))) ∧
(Calls Try.prog 15 #[(Value.int IntKind.i64 x12), (Value.int IntKind.i64 x13), (Value.int IntKind.i64 x14), (Value.int IntKind.i64 x15), (Value.int IntKind.i64 x16)] w9 (fun (e17 : Ending) => (fun (w18 : World) => (∃ o19 : Option Addr, (∃ b20 : Bool, ((e17 = (Ending.returned (Value.tuple #[(Value.pointer o19), (Value.bool b20)]))) ∧
(((b20 = true) →
((((!(decide (x11 = 0))) = true) →
(R (Ending.returned (Value.tuple #[(Value.pointer none), (Value.pointer o19)])) w18)) ∧
(((!(decide (x11 = 0))) = false) →
(R (Ending.returned (Value.tuple #[(Value.pointer o10), (Value.pointer o19)])) w18)))) ∧
((b20 = false) →
(R (Ending.returned (Value.tuple #[(Value.pointer none), (Value.pointer o19)])) w18)))))))))))))))))))))))))))))))))))))) :
    Calls Try.prog 9 #[(.agg #[(.int .i64 x_Self), (.int .i64 x_All), (.int .i64 x_Patience), (.int .i64 x_Most), (.int .i64 x_Now)])] w R :=
  calls_of_vc an9 Try.func9 rfl (by kernel_rfl) (by kernel_rfl) (Eq.mp (by kernel_rfl) h)

/-- samaritan/samaritanlaw21.awake -/
def an10 : An := (.seq (.reg []) (.seq (.reg []) (.seq (.reg []) (.seq (.seq (.reg [(1, 3, true), (4, 0, true)]) (.cond (.seq (.reg []) .nil) .nil)) (.seq (.reg []) (.seq (.reg []) (.seq (.reg []) (.seq (.reg [(1, 0, true), (5, 0, true), (10, 0, true), (16, 0, true), (20, 0, true), (25, 0, true), (30, 0, true), (35, 0, true), (40, 0, true), (45, 0, true), (50, 0, true), (55, 0, true), (60, 0, true), (65, 0, true)]) .nil))))))))
theorem nf10  (w : World) (R : Ending → World → Prop) (h :
(Calls Try.prog 14 #[(Value.int IntKind.i64 0), (Value.int IntKind.i64 2), (Value.int IntKind.i64 3), (Value.int IntKind.i64 10), (Value.int IntKind.i64 0)] w (fun (e1 : Ending) => (fun (w2 : World) => (∃ o3 : Option Addr, (∃ x4 : Int, ((e1 = (Ending.returned (Value.tuple #[(Value.pointer o3), (Value.int IntKind.i64 x4)]))) ∧
(Calls Try.prog 14 #[(Value.int IntKind.i64 2), (Value.int IntKind.i64 2), (Value.int IntKind.i64 3), (Value.int IntKind.i64 10), (Value.int IntKind.i64 0)] w2 (fun (e5 : Ending) => (fun (w6 : World) => (∃ o7 : Option Addr, (∃ x8 : Int, ((e5 = (Ending.returned (Value.tuple #[(Value.pointer o7), (Value.int IntKind.i64 x8)]))) ∧
((((Option.isNone o3) = true) →
(R (Ending.returned (Value.bool false)) w6)) ∧
(((Option.isNone o3) = false) →
((((!(decide (x4 = 0))) = true) →
(R (Ending.returned (Value.bool false)) w6)) ∧
(((!(decide (x4 = 0))) = false) →
(Calls Try.prog 16 #[(Value.pointer o3), (Value.int IntKind.i64 3)] w6 (fun (e13 : Ending) => (fun (w14 : World) => (∃ o15 : Option Addr, (∃ n16 : Nat, (∃ n17 : Nat, ((e13 = (Ending.returned (Value.slice o15 n16 n17))) ∧
(Calls Try.prog 16 #[(Value.pointer o3), (Value.int IntKind.i64 4)] w14 (fun (e18 : Ending) => (fun (w19 : World) => (∃ o20 : Option Addr, (∃ n21 : Nat, (∃ n22 : Nat, ((e18 = (Ending.returned (Value.slice o20 n21 n22))) ∧
(Calls Try.prog 12 #[(Value.pointer o3), (Value.int IntKind.i64 1), (Value.int IntKind.i64 5)] w19 (fun (e23 : Ending) => (fun (w24 : World) => (∃ x25 : Int, ((e23 = (Ending.returned (Value.int IntKind.i64 x25))) ∧
(Calls Try.prog 16 #[(Value.pointer o3), (Value.int IntKind.i64 11)] w24 (fun (e26 : Ending) => (fun (w27 : World) => (∃ o28 : Option Addr, (∃ n29 : Nat, (∃ n30 : Nat, ((e26 = (Ending.returned (Value.slice o28 n29 n30))) ∧
(Calls Try.prog 16 #[(Value.pointer o3), (Value.int IntKind.i64 12)] w27 (fun (e31 : Ending) => (fun (w32 : World) => (∃ o33 : Option Addr, (∃ n34 : Nat, (∃ n35 : Nat, ((e31 = (Ending.returned (Value.slice o33 n34 n35))) ∧
((((decide (x8 = 1)) = true) →
((((decide (((n16 : Nat) : Int) = 0)) = true) →
((((decide (((n21 : Nat) : Int) = 1)) = true) →
(∃ a39 : Addr, ((o20 = (some a39)) ∧
((((0 : Int) ≤ 0) ∧
((0 : Int) < ((n21 : Nat) : Int))) ∧
(∃ x40 : Int, (((w32.cell? a39) = (some (Value.int IntKind.i64 x40))) ∧
((((decide (x40 = 1)) = true) →
((((decide (x25 = 0)) = true) →
(Calls Try.prog 17 #[(Value.pointer o3), (Value.int IntKind.i64 1)] w32 (fun (e43 : Ending) => (fun (w44 : World) => (∃ x45 : Int, ((e43 = (Ending.returned (Value.int IntKind.i64 x45))) ∧
((((decide (x45 = 1)) = true) →
(Calls Try.prog 18 #[(Value.pointer o3), (Value.int IntKind.i64 1)] w44 (fun (e47 : Ending) => (fun (w48 : World) => (∃ x49 : Int, ((e47 = (Ending.returned (Value.int IntKind.i64 x49))) ∧
((((decide (x49 = 6)) = true) →
(Calls Try.prog 18 #[(Value.pointer o3), (Value.int IntKind.i64 0)] w48 (fun (e51 : Ending) => (fun (w52 : World) => (∃ x53 : Int, ((e51 = (Ending.returned (Value.int IntKind.i64 x53))) ∧
((((decide (x53 = 0)) = true) →
((((decide (((n29 : Nat) : Int) = 0)) = true) →
((((decide (((n34 : Nat) : Int) = 1)) = true) →
(Calls Try.prog 19 #[(Value.pointer o3), (Value.int IntKind.i64 0), (Value.int IntKind.i64 12)] w52 (fun (e57 : Ending) => (fun (w58 : World) => (∃ x59 : Int, ((e57 = (Ending.returned (Value.int IntKind.i64 x59))) ∧
((((decide (x59 = 0)) = true) →
(Calls Try.prog 19 #[(Value.pointer o3), (Value.int IntKind.i64 0), (Value.int IntKind.i64 11)] w58 (fun (e61 : Ending) => (fun (w62 : World) => (∃ x63 : Int, ((e61 = (Ending.returned (Value.int IntKind.i64 x63))) ∧
((((decide (x63 = 1)) = true) →
(Calls Try.prog 19 #[(Value.pointer o3), (Value.int IntKind.i64 9), (Value.int IntKind.i64 0)] w62 (fun (e65 : Ending) => (fun (w66 : World) => (∃ x67 : Int, ((e65 = (Ending.returned (Value.int IntKind.i64 x67))) ∧
((((decide (x67 = (-1))) = true) →
(Calls Try.prog 12 #[(Value.pointer o3), (Value.int IntKind.i64 0), (Value.int IntKind.i64 5)] w66 (fun (e69 : Ending) => (fun (w70 : World) => (∃ x71 : Int, ((e69 = (Ending.returned (Value.int IntKind.i64 x71))) ∧
((((decide (x71 = 1)) = true) →
(R (Ending.returned (Value.bool true)) w70)) ∧
(((decide (x71 = 1)) = false) →
(R (Ending.returned (Value.bool false)) w70))))))))) ∧
(((decide (x67 = (-1))) = false) →
(R (Ending.returned (Value.bool false)) w66))))))))) ∧
(((decide (x63 = 1)) = false) →
(R (Ending.returned (Value.bool false)) w62))))))))) ∧
(((decide (x59 = 0)) = false) →
(R (Ending.returned (Value.bool false)) w58))))))))) ∧
(((decide (((n34 : Nat) : Int) = 1)) = false) →
(R (Ending.returned (Value.bool false)) w52)))) ∧
(((decide (((n29 : Nat) : Int) = 0)) = false) →
(R (Ending.returned (Value.bool false)) w52)))) ∧
(((decide (x53 = 0)) = false) →
(R (Ending.returned (Value.bool false)) w52))))))))) ∧
(((decide (x49 = 6)) = false) →
(R (Ending.returned (Value.bool false)) w48))))))))) ∧
(((decide (x45 = 1)) = false) →
(R (Ending.returned (Value.bool false)) w44))))))))) ∧
(((decide (x25 = 0)) = false) →
(R (Ending.returned (Value.bool false)) w32)))) ∧
(((decide (x40 = 1)) = false) →
(R (Ending.returned (Value.bool false)) w32))))))))) ∧
(((decide (((n21 : Nat) : Int) = 1)) = false) →
(R (Ending.returned (Value.bool false)) w32)))) ∧
(((decide (((n16 : Nat) : Int) = 0)) = false) →
(R (Ending.returned (Value.bool false)) w32)))) ∧
(((decide (x8 = 1)) = false) →
(R (Ending.returned (Value.bool false)) w32))))))))))))))))))))))))))))))))))))))))))))))))))))) :
    Calls Try.prog 10 #[] w R :=
  calls_of_vc an10 Try.func10 rfl (by kernel_rfl) (by kernel_rfl) (Eq.mp (by kernel_rfl) h)

/-- samaritan/samaritanlaw21.same -/
def an11 : An := (.seq (.reg []) (.seq (.seq (.reg [(6, 0, true)]) (.cond (.seq (.reg []) .nil) .nil)) (.seq (.seq (.reg []) (.blk (.loop [(7, .int .i64)] (.seq (.seq (.reg [(2, 2, false), (6, 0, true)]) (.cond .nil .nil)) (.seq (.blk (.seq (.reg []) (.seq (.regD [(5, 0, true), (12, 0, true), (23, 0, true)] [0, 1, 3, 4, 2, 5, 6, 7, 8, 10, 11, 9, 12, 13, 14, 15, 16, 17, 19, 20, 21, 18, 22, 23, 24] [2, 9, 18, 22]) (.cond (.seq (.reg []) .nil) .nil)))) (.reg [])))))) (.seq (.reg []) .nil))))
theorem nf11 (w' : Option Addr) (m : Option Addr) (now : Int) (w : World) (R : Ending → World → Prop) (h :
(Calls Try.prog 16 #[(Value.pointer w'), (Value.int IntKind.i64 now)] w (fun (e1 : Ending) => (fun (w2 : World) => (∃ o3 : Option Addr, (∃ n4 : Nat, (∃ n5 : Nat, ((e1 = (Ending.returned (Value.slice o3 n4 n5))) ∧
(Calls Try.prog 21 #[(Value.pointer m), (Value.int IntKind.i64 now)] w2 (fun (e6 : Ending) => (fun (w7 : World) => (∃ o8 : Option Addr, (∃ n9 : Nat, (∃ n10 : Nat, ((e6 = (Ending.returned (Value.slice o8 n9 n10))) ∧
(Calls Try.prog 20 #[(Value.slice o3 n4 n5), (Value.slice o8 n9 n10)] w7 (fun (e11 : Ending) => (fun (w12 : World) => (∃ b13 : Bool, ((e11 = (Ending.returned (Value.bool b13))) ∧
(((b13 = true) →
(∃ k15 : (Nat → (Int → (World → Prop))), ((∃ n16 : Nat, (k15 n16 (-1) w12)) ∧
(∀ n17 : Nat, ((Nat → Value) →
(∀ w19 : World, (∀ x20 : Int, ((k15 n17 x20 w19) →
(∃ a22 : Addr, ((m = (some a22)) ∧
(∃ o23 : Option Addr, (∃ n24 : Nat, (∃ n25 : Nat, (((w19.cell? (Addr.add a22 2)) = (some (Value.slice o23 n24 n25))) ∧
((((decide (x20 ≤ ((n24 : Nat) : Int))) = true) →
(Calls Try.prog 22 #[(Value.pointer m), (Value.int IntKind.i64 x20)] w19 (fun (e27 : Ending) => (fun (w28 : World) => (∃ x29 : Int, (∃ x30 : Int, (∃ x31 : Int, ((e27 = (Ending.returned (Value.agg #[(Value.int IntKind.i64 x29), (Value.int IntKind.i64 x30), (Value.int IntKind.i64 x31)]))) ∧
(∀ w32 : World, ((w32 = (w28.alloc (Obj.cells #[(Value.int IntKind.i64 0), (Value.int IntKind.i64 0), (Value.int IntKind.i64 0)] 59 (0, 0)))) →
((Nf.There w32 (⟨(hs w28), 0, none⟩ : Addr) 3) ∧
(∀ w34 : World, ((w34 = (Nf.setCells w32 (⟨(hs w28), 0, none⟩ : Addr) [(Value.int IntKind.i64 x29), (Value.int IntKind.i64 x30), (Value.int IntKind.i64 x31)] 0)) →
(∀ w36 : World, ((w36 = w34.drew) →
(∃ x38 : Int, (((w36.cell? (⟨(hs w28), 1, none⟩ : Addr)) = (some (Value.int IntKind.i64 x38))) ∧
(Calls Try.prog 18 #[(Value.pointer w'), (Value.int IntKind.i64 x20)] w36 (fun (e39 : Ending) => (fun (w40 : World) => (∃ x41 : Int, ((e39 = (Ending.returned (Value.int IntKind.i64 x41))) ∧
((Nf.Kept w36 w40 (⟨(hs w28), 1, none⟩ : Addr) 1) ∧
((((!(decide (x41 = x38))) = true) →
(R (Ending.returned (Value.bool false)) w40)) ∧
(((!(decide (x41 = x38))) = false) →
(∃ x44 : Int, (((w40.cell? (⟨(hs w28), 2, none⟩ : Addr)) = (some (Value.int IntKind.i64 x44))) ∧
(Calls Try.prog 17 #[(Value.pointer w'), (Value.int IntKind.i64 x20)] w40 (fun (e45 : Ending) => (fun (w46 : World) => (∃ x47 : Int, ((e45 = (Ending.returned (Value.int IntKind.i64 x47))) ∧
((Nf.Kept w40 w46 (⟨(hs w28), 2, none⟩ : Addr) 1) ∧
((((!(decide (x47 = x44))) = true) →
(R (Ending.returned (Value.bool false)) w46)) ∧
(((!(decide (x47 = x44))) = false) →
(Calls Try.prog 19 #[(Value.pointer w'), (Value.int IntKind.i64 x20), (Value.int IntKind.i64 now)] w46 (fun (e50 : Ending) => (fun (w51 : World) => (∃ x52 : Int, ((e50 = (Ending.returned (Value.int IntKind.i64 x52))) ∧
(Calls Try.prog 23 #[(Value.pointer m), (Value.int IntKind.i64 x20), (Value.int IntKind.i64 now)] w51 (fun (e53 : Ending) => (fun (w54 : World) => (∃ x55 : Int, ((e53 = (Ending.returned (Value.int IntKind.i64 x55))) ∧
((((!(decide (x52 = x55))) = true) →
(R (Ending.returned (Value.bool false)) w54)) ∧
(((!(decide (x52 = x55))) = false) →
(∃ n58 : Nat, ((n58 < n17) ∧
(k15 n58 (IntKind.wrap IntKind.i64 (x20 + 1)) w54)))))))))))))))))))))))))))))))))))))))))))))))))) ∧
(((decide (x20 ≤ ((n24 : Nat) : Int))) = false) →
(R (Ending.returned (Value.bool true)) w19))))))))))))))))) ∧
((b13 = false) →
(R (Ending.returned (Value.bool false)) w12))))))))))))))))))))))) :
    Calls Try.prog 11 #[(.pointer w'), (.pointer m), (.int .i64 now)] w R :=
  calls_of_vc an11 Try.func11 rfl (by kernel_rfl) (by kernel_rfl) (Eq.mp (by kernel_rfl) h)

/-- samaritan/samaritanlaw21.FailureDetectorMatchesModel -/
def an3 : An := (.seq (.reg []) (.seq (.reg []) (.seq (.seq (.reg [(0, 0, true), (5, 0, true), (9, 3, true)]) (.cond (.seq (.reg [(0, 0, true)]) .nil) .nil)) (.seq (.seq (.reg [(1, 3, true), (7, 0, true)]) (.cond (.seq (.reg []) .nil) .nil)) (.seq (.seq (.reg []) (.blk (.loop [(38, .int .i64)] (.seq (.reg [(0, 0, true)]) (.seq (.cond .nil .nil) (.seq (.blk (.seq (.reg []) (.seq (.regD [(12, 0, true), (18, 0, true)] [0, 1, 2, 3, 4, 6, 7, 8, 9, 10, 5, 11, 12, 13, 14, 15, 16, 17, 18, 19, 20] [5, 11, 18]) (.cond (.seq (.reg []) .nil) .nil)))) (.reg []))))))) (.seq (.reg []) .nil))))))
theorem nf3 (x_Self : Int) (x_All : Int) (x_Patience : Int) (x_Most : Int) (x_Now : Int) (l : Option Addr) (l_n : Nat) (l_c : Nat) (w : World) (R : Ending → World → Prop) (h :
(∀ w1 : World, ((w1 = (w.alloc (Obj.cells #[(Value.int IntKind.i64 x_Self), (Value.int IntKind.i64 x_All), (Value.int IntKind.i64 x_Patience), (Value.int IntKind.i64 x_Most), (Value.int IntKind.i64 x_Now)] 23 (0, 0)))) →
(∃ x3 : Int, (((w1.cell? (⟨(hs w), 0, none⟩ : Addr)) = (some (Value.int IntKind.i64 x3))) ∧
(∃ x4 : Int, (((w1.cell? (⟨(hs w), 1, none⟩ : Addr)) = (some (Value.int IntKind.i64 x4))) ∧
(∃ x5 : Int, (((w1.cell? (⟨(hs w), 2, none⟩ : Addr)) = (some (Value.int IntKind.i64 x5))) ∧
(∃ x6 : Int, (((w1.cell? (⟨(hs w), 3, none⟩ : Addr)) = (some (Value.int IntKind.i64 x6))) ∧
(∃ x7 : Int, (((w1.cell? (⟨(hs w), 4, none⟩ : Addr)) = (some (Value.int IntKind.i64 x7))) ∧
(Calls Try.prog 9 #[(Value.agg #[(Value.int IntKind.i64 x3), (Value.int IntKind.i64 x4), (Value.int IntKind.i64 x5), (Value.int IntKind.i64 x6), (Value.int IntKind.i64 x7)])] w1 (fun (e8 : Ending) => (fun (w9 : World) => (∃ o10 : Option Addr, (∃ o11 : Option Addr, ((e8 = (Ending.returned (Value.tuple #[(Value.pointer o10), (Value.pointer o11)]))) ∧
(Calls Try.prog 10 #[] w9 (fun (e12 : Ending) => (fun (w13 : World) => (∃ b14 : Bool, ((e12 = (Ending.returned (Value.bool b14))) ∧
(((b14 = true) →
((((decide (((l_n : Nat) : Int) > 40)) = true) →
(Calls Try.prog 10 #[] w13 (fun (e17 : Ending) => (fun (w18 : World) => (∃ b19 : Bool, ((e17 = (Ending.returned (Value.bool b19))) ∧
(((b19 = true) →
(R (Ending.returned (Value.bool true)) w18)) ∧
((b19 = false) →
(R (Ending.returned (Value.bool false)) w18))))))))) ∧
(((decide (((l_n : Nat) : Int) > 40)) = false) →
((((Option.isNone o11) = true) →
(Calls Try.prog 10 #[] w13 (fun (e24 : Ending) => (fun (w25 : World) => (∃ b26 : Bool, ((e24 = (Ending.returned (Value.bool b26))) ∧
(((b26 = true) →
(R (Ending.returned (Value.bool true)) w25)) ∧
((b26 = false) →
(R (Ending.returned (Value.bool false)) w25))))))))) ∧
(((Option.isNone o11) = false) →
((((Option.isNone o10) = true) →
(R (Ending.returned (Value.bool false)) w13)) ∧
(((Option.isNone o10) = false) →
(∃ x32 : Int, (((w13.cell? (⟨(hs w), 4, none⟩ : Addr)) = (some (Value.int IntKind.i64 x32))) ∧
(Calls Try.prog 11 #[(Value.pointer o10), (Value.pointer o11), (Value.int IntKind.i64 x32)] w13 (fun (e33 : Ending) => (fun (w34 : World) => (∃ b35 : Bool, ((e33 = (Ending.returned (Value.bool b35))) ∧
(((b35 = true) →
(∃ k37 : (Nat → (Int → (World → Prop))), ((∃ n38 : Nat, (k37 n38 0 w34)) ∧
(∀ n39 : Nat, ((Nat → Value) →
(∀ w41 : World, (∀ x42 : Int, ((k37 n39 x42 w41) →
((((decide (x42 < ((l_n : Nat) : Int))) = true) →
(∃ a45 : Addr, ((l = (some a45)) ∧
((((0 : Int) ≤ x42) ∧
(x42 < ((l_n : Nat) : Int))) ∧
(∃ x46 : Int, (((w41.cell? (Addr.add a45 ((x42).toNat * 3))) = (some (Value.int IntKind.i64 x46))) ∧
(∃ x47 : Int, (((w41.cell? (Addr.add (Addr.add a45 ((x42).toNat * 3)) 1)) = (some (Value.int IntKind.i64 x47))) ∧
(∃ x48 : Int, (((w41.cell? (Addr.add (Addr.add a45 ((x42).toNat * 3)) 2)) = (some (Value.int IntKind.i64 x48))) ∧
(∀ w49 : World, ((w49 = (w41.alloc (Obj.cells #[(Value.int IntKind.i64 0), (Value.int IntKind.i64 0), (Value.int IntKind.i64 0)] 32 (0, 0)))) →
((Nf.There w49 (⟨(hs w41), 0, none⟩ : Addr) 3) ∧
(∀ w51 : World, ((w51 = (Nf.setCells w49 (⟨(hs w41), 0, none⟩ : Addr) [(Value.int IntKind.i64 x46), (Value.int IntKind.i64 x47), (Value.int IntKind.i64 x48)] 0)) →
(∀ w53 : World, ((w53 = w51.drew) →
(∃ x55 : Int, (((w53.cell? (⟨(hs w41), 0, none⟩ : Addr)) = (some (Value.int IntKind.i64 x55))) ∧
(∃ x56 : Int, (((w53.cell? (⟨(hs w41), 1, none⟩ : Addr)) = (some (Value.int IntKind.i64 x56))) ∧
(∃ x57 : Int, (((w53.cell? (⟨(hs w41), 0, none⟩ : Addr)) = (some (Value.int IntKind.i64 x57))) ∧
(∃ x58 : Int, (((w53.cell? (⟨(hs w41), 1, none⟩ : Addr)) = (some (Value.int IntKind.i64 x58))) ∧
(Calls Try.prog 12 #[(Value.pointer o10), (Value.int IntKind.i64 x55), (Value.int IntKind.i64 x56)] w53 (fun (e59 : Ending) => (fun (w60 : World) => (∃ x61 : Int, ((e59 = (Ending.returned (Value.int IntKind.i64 x61))) ∧
((Nf.Kept w53 w60 (⟨(hs w41), 1, none⟩ : Addr) 1) ∧
((Nf.Kept w53 w60 (⟨(hs w41), 0, none⟩ : Addr) 1) ∧
(Calls Try.prog 13 #[(Value.pointer o11), (Value.int IntKind.i64 x57), (Value.int IntKind.i64 x58)] w60 (fun (e62 : Ending) => (fun (w63 : World) => (∃ x64 : Int, ((e62 = (Ending.returned (Value.int IntKind.i64 x64))) ∧
((((!(decide (x61 = x64))) = true) →
(R (Ending.returned (Value.bool false)) w63)) ∧
(((!(decide (x61 = x64))) = false) →
(∃ x67 : Int, (((w63.cell? (⟨(hs w41), 2, none⟩ : Addr)) = (some (Value.int IntKind.i64 x67))) ∧
(Calls Try.prog 11 #[(Value.pointer o10), (Value.pointer o11), (Value.int IntKind.i64 x67)] w63 (fun (e68 : Ending) => (fun (w69 : World) => (∃ b70 : Bool, ((e68 = (Ending.returned (Value.bool b70))) ∧
(((b70 = true) →
(∃ n72 : Nat, ((n72 < n39) ∧
(k37 n72 (IntKind.wrap IntKind.i64 (x42 + 1)) w69)))) ∧
((b70 = false) →
(R (Ending.returned (Value.bool false)) w69))))))))))))))))))))))))))))))))))))))))))))))))) ∧
(((decide (x42 < ((l_n : Nat) : Int))) = false) →
(R (Ending.returned (Value.bool true)) w41))))))))))) ∧
((b35 = false) →
(R (Ending.returned (Value.bool false)) w34))))))))))))))))) ∧
((b14 = false) →
(Calls Try.prog 10 #[] w13 (fun (e77 : Ending) => (fun (w78 : World) => (∃ b79 : Bool, ((e77 = (Ending.returned (Value.bool b79))) ∧
(((b79 = true) →
(R (Ending.returned (Value.bool true)) w78)) ∧
((b79 = false) →
(R (Ending.returned (Value.bool false)) w78)))))))))))))))))))))))))))))))))) :
    Calls Try.prog 3 #[(.agg #[(.int .i64 x_Self), (.int .i64 x_All), (.int .i64 x_Patience), (.int .i64 x_Most), (.int .i64 x_Now)]), (.slice l l_n l_c)] w R :=
  calls_of_vc an3 Try.func3 rfl (by kernel_rfl) (by kernel_rfl) (Eq.mp (by kernel_rfl) h)

/-- samaritan/samaritanlaw21.FailureDetectorNew -/
def an4 : An := (.seq (.reg []) (.seq (.reg []) (.seq (.reg [(13, 0, true)]) (.seq (.reg [(0, 0, true), (4, 3, true), (5, 0, true), (10, 0, true), (11, 0, true), (17, 0, true)]) .nil))))
theorem nf4 (x_Self : Int) (x_All : Int) (x_Patience : Int) (x_Most : Int) (x_Now : Int) (w : World) (R : Ending → World → Prop) (h :
(∀ w1 : World, ((w1 = (w.alloc (Obj.cells #[(Value.int IntKind.i64 x_Self), (Value.int IntKind.i64 x_All), (Value.int IntKind.i64 x_Patience), (Value.int IntKind.i64 x_Most), (Value.int IntKind.i64 x_Now)] 23 (0, 0)))) →
(∃ x3 : Int, (((w1.cell? (⟨(hs w), 0, none⟩ : Addr)) = (some (Value.int IntKind.i64 x3))) ∧
(∃ x4 : Int, (((w1.cell? (⟨(hs w), 1, none⟩ : Addr)) = (some (Value.int IntKind.i64 x4))) ∧
(∃ x5 : Int, (((w1.cell? (⟨(hs w), 2, none⟩ : Addr)) = (some (Value.int IntKind.i64 x5))) ∧
(∃ x6 : Int, (((w1.cell? (⟨(hs w), 3, none⟩ : Addr)) = (some (Value.int IntKind.i64 x6))) ∧
(∃ x7 : Int, (((w1.cell? (⟨(hs w), 4, none⟩ : Addr)) = (some (Value.int IntKind.i64 x7))) ∧
(Calls Try.prog 14 #[(Value.int IntKind.i64 x3), (Value.int IntKind.i64 x4), (Value.int IntKind.i64 x5), (Value.int IntKind.i64 x6), (Value.int IntKind.i64 x7)] w1 (fun (e8 : Ending) => (fun (w9 : World) => (∃ o10 : Option Addr, (∃ x11 : Int, ((e8 = (Ending.returned (Value.tuple #[(Value.pointer o10), (Value.int IntKind.i64 x11)]))) ∧
(∃ x12 : Int, (((w9.cell? (⟨(hs w), 0, none⟩ : Addr)) = (some (Value.int IntKind.i64 x12))) ∧
(∃ x13 : Int, (((w9.cell? (⟨(hs w), 1, none⟩ : Addr)) = (some (Value.int IntKind.i64 x13))) ∧
(∃ x14 : Int, (((w9.cell? (⟨(hs w), 2, none⟩ : Addr)) = (some (Value.int IntKind.i64 x14))) ∧
(∃ x15 : Int, (((w9.cell? (⟨(hs w), 3, none⟩ : Addr)) = (some (Value.int IntKind.i64 x15))) ∧
(∃ x16 : Int, (((w9.cell? (⟨(hs w), 4, none⟩ : Addr)) = (some (Value.int IntKind.i64 x16))) ∧
(Calls Try.prog 15 #[(Value.int IntKind.i64 x12), (Value.int IntKind.i64 x13), (Value.int IntKind.i64 x14), (Value.int IntKind.i64 x15), (Value.int IntKind.i64 x16)] w9 (fun (e17 : Ending) => (fun (w18 : World) => (∃ o19 : Option Addr, (∃ b20 : Bool, ((e17 = (Ending.returned (Value.tuple #[(Value.pointer o19), (Value.bool b20)]))) ∧
(((b20 = true) →
(Calls Try.prog 10 #[] w18 (fun (e22 : Ending) => (fun (w23 : World) => (∃ b24 : Bool, ((e22 = (Ending.returned (Value.bool b24))) ∧
(((b24 = true) →
((((!(Option.isNone o10)) = true) →
(((true = true) →
((((decide (x11 = 0)) = true) →
(((true = true) →
(R (Ending.returned (Value.bool true)) w23)) ∧
((true = false) →
(R (Ending.returned (Value.bool false)) w23)))) ∧
(((decide (x11 = 0)) = false) →
(((false = true) →
(R (Ending.returned (Value.bool true)) w23)) ∧
((false = false) →
(R (Ending.returned (Value.bool false)) w23)))))) ∧
((true = false) →
(R (Ending.returned (Value.bool false)) w23)))) ∧
(((!(Option.isNone o10)) = false) →
(((false = true) →
((((decide (x11 = 0)) = true) →
(((true = true) →
(R (Ending.returned (Value.bool true)) w23)) ∧
((true = false) →
(R (Ending.returned (Value.bool false)) w23)))) ∧
(((decide (x11 = 0)) = false) →
(((false = true) →
(R (Ending.returned (Value.bool true)) w23)) ∧
((false = false) →
(R (Ending.returned (Value.bool false)) w23)))))) ∧
((false = false) →
(R (Ending.returned (Value.bool false)) w23)))))) ∧
((b24 = false) →
(R (Ending.returned (Value.bool false)) w23))))))))) ∧
((b20 = false) →
(Calls Try.prog 10 #[] w18 (fun (e46 : Ending) => (fun (w47 : World) => (∃ b48 : Bool, ((e46 = (Ending.returned (Value.bool b48))) ∧
(((b48 = true) →
((((!(Option.isNone o10)) = true) →
(((false = true) →
((((decide (x11 = 0)) = true) →
(((false = true) →
((((decide (x11 = 1)) = true) →
(R (Ending.returned (Value.bool true)) w47)) ∧
(((decide (x11 = 1)) = false) →
(R (Ending.returned (Value.bool false)) w47)))) ∧
((false = false) →
(R (Ending.returned (Value.bool false)) w47)))) ∧
(((decide (x11 = 0)) = false) →
(((true = true) →
((((decide (x11 = 1)) = true) →
(R (Ending.returned (Value.bool true)) w47)) ∧
(((decide (x11 = 1)) = false) →
(R (Ending.returned (Value.bool false)) w47)))) ∧
((true = false) →
(R (Ending.returned (Value.bool false)) w47)))))) ∧
((false = false) →
(R (Ending.returned (Value.bool false)) w47)))) ∧
(((!(Option.isNone o10)) = false) →
(((true = true) →
((((decide (x11 = 0)) = true) →
(((false = true) →
((((decide (x11 = 1)) = true) →
(R (Ending.returned (Value.bool true)) w47)) ∧
(((decide (x11 = 1)) = false) →
(R (Ending.returned (Value.bool false)) w47)))) ∧
((false = false) →
(R (Ending.returned (Value.bool false)) w47)))) ∧
(((decide (x11 = 0)) = false) →
(((true = true) →
((((decide (x11 = 1)) = true) →
(R (Ending.returned (Value.bool true)) w47)) ∧
(((decide (x11 = 1)) = false) →
(R (Ending.returned (Value.bool false)) w47)))) ∧
((true = false) →
(R (Ending.returned (Value.bool false)) w47)))))) ∧
((true = false) →
(R (Ending.returned (Value.bool false)) w47)))))) ∧
((b48 = false) →
(R (Ending.returned (Value.bool false)) w47))))))))))))))))))))))))))))))))))))))))))))) :
    Calls Try.prog 4 #[(.agg #[(.int .i64 x_Self), (.int .i64 x_All), (.int .i64 x_Patience), (.int .i64 x_Most), (.int .i64 x_Now)])] w R :=
  calls_of_vc an4 Try.func4 rfl (by kernel_rfl) (by kernel_rfl) (Eq.mp (by kernel_rfl) h)

/-- samaritan/samaritanlaw21.FailureDetectorPunctual -/
def an5 : An := (.seq (.reg []) (.seq (.reg []) (.seq (.seq (.reg [(0, 0, true), (4, 3, true), (9, 0, true), (14, 0, true), (19, 0, true), (24, 0, true)]) (.cond (.seq (.reg [(0, 0, true)]) .nil) .nil)) (.seq (.seq (.reg [(1, 3, true)]) (.cond (.seq (.reg []) .nil) .nil)) (.seq (.regD [(5, 2, false)] [0, 1, 2, 3, 4, 5, 6, 7, 8, 9] []) (.seq (.seq (.reg []) (.blk (.loop [(8, .int .i64), (57, .int .i64)] (.seq (.reg [(0, 0, true)]) (.seq (.cond .nil .nil) (.seq (.blk (.seq (.reg []) (.seq (.reg [(6, 2, false)]) (.seq (.seq (.reg []) (.blk (.loop [(73, .int .i64)] (.seq (.reg [(0, 0, true)]) (.seq (.cond .nil .nil) (.seq (.blk (.seq (.reg []) (.seq (.reg [(2, 0, true)]) (.cond (.seq (.reg []) .nil) .nil)))) (.reg []))))))) (.seq (.regD [(4, 0, true), (9, 0, true), (17, 0, true)] [0, 1, 2, 3, 4, 5, 6, 7, 8, 9, 10, 11, 12, 13, 15, 16, 14, 17, 18] [3, 8, 14]) (.cond (.seq (.reg []) .nil) .nil)))))) (.reg []))))))) (.seq (.reg []) .nil)))))))
theorem nf5 (x_Self : Int) (x_All : Int) (x_Patience : Int) (x_Most : Int) (x_Now : Int) (gaps : Option Addr) (gaps_n : Nat) (gaps_c : Nat) (w : World) (R : Ending → World → Prop) (h :
(∀ w1 : World, ((w1 = (w.alloc (Obj.cells #[(Value.int IntKind.i64 x_Self), (Value.int IntKind.i64 x_All), (Value.int IntKind.i64 x_Patience), (Value.int IntKind.i64 x_Most), (Value.int IntKind.i64 x_Now)] 23 (0, 0)))) →
(∃ x3 : Int, (((w1.cell? (⟨(hs w), 0, none⟩ : Addr)) = (some (Value.int IntKind.i64 x3))) ∧
(∃ x4 : Int, (((w1.cell? (⟨(hs w), 1, none⟩ : Addr)) = (some (Value.int IntKind.i64 x4))) ∧
(∃ x5 : Int, (((w1.cell? (⟨(hs w), 2, none⟩ : Addr)) = (some (Value.int IntKind.i64 x5))) ∧
(∃ x6 : Int, (((w1.cell? (⟨(hs w), 3, none⟩ : Addr)) = (some (Value.int IntKind.i64 x6))) ∧
(∃ x7 : Int, (((w1.cell? (⟨(hs w), 4, none⟩ : Addr)) = (some (Value.int IntKind.i64 x7))) ∧
(Calls Try.prog 9 #[(Value.agg #[(Value.int IntKind.i64 x3), (Value.int IntKind.i64 x4), (Value.int IntKind.i64 x5), (Value.int IntKind.i64 x6), (Value.int IntKind.i64 x7)])] w1 (fun (e8 : Ending) => (fun (w9 : World) => (∃ o10 : Option Addr, (∃ o11 : Option Addr, ((e8 = (Ending.returned (Value.tuple #[(Value.pointer o10), (Value.pointer o11)]))) ∧
(Calls Try.prog 10 #[] w9 (fun (e12 : Ending) => (fun (w13 : World) => (∃ b14 : Bool, ((e12 = (Ending.returned (Value.bool b14))) ∧
(((b14 = true) →
((((Option.isNone o11) = true) →
(Calls Try.prog 10 #[] w13 (fun (e17 : Ending) => (fun (w18 : World) => (∃ b19 : Bool, ((e17 = (Ending.returned (Value.bool b19))) ∧
(((b19 = true) →
(R (Ending.returned (Value.bool true)) w18)) ∧
((b19 = false) →
(R (Ending.returned (Value.bool false)) w18))))))))) ∧
(((Option.isNone o11) = false) →
((((decide (((gaps_n : Nat) : Int) > 60)) = true) →
(Calls Try.prog 10 #[] w13 (fun (e24 : Ending) => (fun (w25 : World) => (∃ b26 : Bool, ((e24 = (Ending.returned (Value.bool b26))) ∧
(((b26 = true) →
(R (Ending.returned (Value.bool true)) w25)) ∧
((b26 = false) →
(R (Ending.returned (Value.bool false)) w25))))))))) ∧
(((decide (((gaps_n : Nat) : Int) > 60)) = false) →
(∃ x30 : Int, (((w13.cell? (⟨(hs w), 1, none⟩ : Addr)) = (some (Value.int IntKind.i64 x30))) ∧
((((decide (x30 < 2)) = true) →
(Calls Try.prog 10 #[] w13 (fun (e32 : Ending) => (fun (w33 : World) => (∃ b34 : Bool, ((e32 = (Ending.returned (Value.bool b34))) ∧
(((b34 = true) →
(R (Ending.returned (Value.bool true)) w33)) ∧
((b34 = false) →
(R (Ending.returned (Value.bool false)) w33))))))))) ∧
(((decide (x30 < 2)) = false) →
(∃ x38 : Int, (((w13.cell? (⟨(hs w), 4, none⟩ : Addr)) = (some (Value.int IntKind.i64 x38))) ∧
((((decide (x38 < 0)) = true) →
(Calls Try.prog 10 #[] w13 (fun (e40 : Ending) => (fun (w41 : World) => (∃ b42 : Bool, ((e40 = (Ending.returned (Value.bool b42))) ∧
(((b42 = true) →
(R (Ending.returned (Value.bool true)) w41)) ∧
((b42 = false) →
(R (Ending.returned (Value.bool false)) w41))))))))) ∧
(((decide (x38 < 0)) = false) →
(∃ x46 : Int, (((w13.cell? (⟨(hs w), 4, none⟩ : Addr)) = (some (Value.int IntKind.i64 x46))) ∧
((((decide (x46 > 1073741824)) = true) →
(Calls Try.prog 10 #[] w13 (fun (e48 : Ending) => (fun (w49 : World) => (∃ b50 : Bool, ((e48 = (Ending.returned (Value.bool b50))) ∧
(((b50 = true) →
(R (Ending.returned (Value.bool true)) w49)) ∧
((b50 = false) →
(R (Ending.returned (Value.bool false)) w49))))))))) ∧
(((decide (x46 > 1073741824)) = false) →
((((Option.isNone o10) = true) →
(R (Ending.returned (Value.bool false)) w13)) ∧
(((Option.isNone o10) = false) →
(∀ w56 : World, ((w56 = w13.drew) →
(∃ x58 : Int, (((w56.cell? (⟨(hs w), 0, none⟩ : Addr)) = (some (Value.int IntKind.i64 x58))) ∧
(∃ x59 : Int, (((w56.cell? (⟨(hs w), 1, none⟩ : Addr)) = (some (Value.int IntKind.i64 x59))) ∧
((x59 ≠ 0) ∧
(∃ x60 : Int, (((w56.cell? (⟨(hs w), 4, none⟩ : Addr)) = (some (Value.int IntKind.i64 x60))) ∧
(∃ k61 : (Nat → (Int → (Int → (World → Prop)))), ((∃ n62 : Nat, (k61 n62 x60 0 w56)) ∧
(∀ n63 : Nat, ((Nat → Value) →
(∀ w65 : World, (∀ x66 : Int, (∀ x67 : Int, ((k61 n63 x66 x67 w65) →
((((decide (x67 < ((gaps_n : Nat) : Int))) = true) →
(∃ a70 : Addr, ((gaps = (some a70)) ∧
((((0 : Int) ≤ x67) ∧
(x67 < ((gaps_n : Nat) : Int))) ∧
(∃ x71 : Int, (((w65.cell? (Addr.add a70 ((x67).toNat * 1))) = (some (Value.int IntKind.u16 x71))) ∧
(∃ x72 : Int, (((w65.cell? (⟨(hs w), 2, none⟩ : Addr)) = (some (Value.int IntKind.i64 x72))) ∧
(((IntKind.wrap IntKind.i64 (x72 + 1)) ≠ 0) ∧
(Calls Try.prog 16 #[(Value.pointer o10), (Value.int IntKind.i64 (IntKind.wrap IntKind.i64 (x66 + (Int.tmod (IntKind.wrap IntKind.i64 x71) (IntKind.wrap IntKind.i64 (x72 + 1))))))] w65 (fun (e73 : Ending) => (fun (w74 : World) => (∃ o75 : Option Addr, (∃ n76 : Nat, (∃ n77 : Nat, ((e73 = (Ending.returned (Value.slice o75 n76 n77))) ∧
(∃ k78 : (Nat → (Int → (World → Prop))), ((∃ n79 : Nat, (k78 n79 0 w74)) ∧
(∀ n80 : Nat, ((Nat → Value) →
(∀ w82 : World, (∀ x83 : Int, ((k78 n80 x83 w82) →
((((decide (x83 < ((n76 : Nat) : Int))) = true) →
(∃ a86 : Addr, ((o75 = (some a86)) ∧
((((0 : Int) ≤ x83) ∧
(x83 < ((n76 : Nat) : Int))) ∧
(∃ x87 : Int, (((w82.cell? (Addr.add a86 ((x83).toNat * 1))) = (some (Value.int IntKind.i64 x87))) ∧
((((decide (x87 = (Int.tmod (IntKind.wrap IntKind.i64 (x58 + 1)) x59))) = true) →
(R (Ending.returned (Value.bool false)) w82)) ∧
(((decide (x87 = (Int.tmod (IntKind.wrap IntKind.i64 (x58 + 1)) x59))) = false) →
(∃ n90 : Nat, ((n90 < n80) ∧
(k78 n90 (IntKind.wrap IntKind.i64 (x83 + 1)) w82))))))))))) ∧
(((decide (x83 < ((n76 : Nat) : Int))) = false) →
(∀ w92 : World, ((w92 = w82.drew) →
(Calls Try.prog 12 #[(Value.pointer o10), (Value.int IntKind.i64 (Int.tmod (IntKind.wrap IntKind.i64 (x58 + 1)) x59)), (Value.int IntKind.i64 (IntKind.wrap IntKind.i64 (x66 + (Int.tmod (IntKind.wrap IntKind.i64 x71) (IntKind.wrap IntKind.i64 (x72 + 1))))))] w92 (fun (e94 : Ending) => (fun (w95 : World) => (∃ x96 : Int, ((e94 = (Ending.returned (Value.int IntKind.i64 x96))) ∧
((((!(decide (x96 = 0))) = true) →
(R (Ending.returned (Value.bool false)) w95)) ∧
(((!(decide (x96 = 0))) = false) →
(Calls Try.prog 17 #[(Value.pointer o10), (Value.int IntKind.i64 (Int.tmod (IntKind.wrap IntKind.i64 (x58 + 1)) x59))] w95 (fun (e99 : Ending) => (fun (w100 : World) => (∃ x101 : Int, ((e99 = (Ending.returned (Value.int IntKind.i64 x101))) ∧
((((!(decide (x101 = 0))) = true) →
(R (Ending.returned (Value.bool false)) w100)) ∧
(((!(decide (x101 = 0))) = false) →
(∃ x104 : Int, (((w100.cell? (⟨(hs w), 2, none⟩ : Addr)) = (some (Value.int IntKind.i64 x104))) ∧
(Calls Try.prog 18 #[(Value.pointer o10), (Value.int IntKind.i64 (Int.tmod (IntKind.wrap IntKind.i64 (x58 + 1)) x59))] w100 (fun (e105 : Ending) => (fun (w106 : World) => (∃ x107 : Int, ((e105 = (Ending.returned (Value.int IntKind.i64 x107))) ∧
((Nf.Kept w100 w106 (⟨(hs w), 2, none⟩ : Addr) 1) ∧
((((!(decide (x107 = x104))) = true) →
(R (Ending.returned (Value.bool false)) w106)) ∧
(((!(decide (x107 = x104))) = false) →
(∃ n110 : Nat, ((n110 < n63) ∧
(k61 n110 (IntKind.wrap IntKind.i64 (x66 + (Int.tmod (IntKind.wrap IntKind.i64 x71) (IntKind.wrap IntKind.i64 (x72 + 1))))) (IntKind.wrap IntKind.i64 (x67 + 1)) w106)))))))))))))))))))))))))))))))))))))))))))))))))))))) ∧
(((decide (x67 < ((gaps_n : Nat) : Int))) = false) →
(R (Ending.returned (Value.bool true)) w65))))))))))))))))))))))))))))))))))))))) ∧
((b14 = false) →
(Calls Try.prog 10 #[] w13 (fun (e113 : Ending) => (fun (w114 : World) => (∃ b115 : Bool, ((e113 = (Ending.returned (Value.bool b115))) ∧
(((b115 = true) →
(R (Ending.returned (Value.bool true)) w114)) ∧
((b115 = false) →
(R (Ending.returned (Value.bool false)) w114)))))))))))))))))))))))))))))))))) :
    Calls Try.prog 5 #[(.agg #[(.int .i64 x_Self), (.int .i64 x_All), (.int .i64 x_Patience), (.int .i64 x_Most), (.int .i64 x_Now)]), (.slice gaps gaps_n gaps_c)] w R :=
  calls_of_vc an5 Try.func5 rfl (by kernel_rfl) (by kernel_rfl) (Eq.mp (by kernel_rfl) h)

/-- samaritan/samaritanlaw21.FailureDetectorTimeouts -/
def an6 : An := (.seq (.reg []) (.seq (.reg []) (.seq (.seq (.reg [(0, 0, true), (4, 3, true), (9, 0, true)]) (.cond (.seq (.reg [(0, 0, true)]) .nil) .nil)) (.seq (.seq (.reg [(1, 3, true)]) (.cond (.seq (.reg []) .nil) .nil)) (.seq (.seq (.reg []) (.blk (.loop [(35, .int .i64)] (.seq (.reg [(0, 0, true)]) (.seq (.cond .nil .nil) (.seq (.blk (.seq (.reg []) (.seq (.reg []) (.seq (.seq (.reg []) (.blk (.loop [(9, .slice), (41, .int .i64)] (.seq (.reg [(0, 0, true)]) (.seq (.cond .nil .nil) (.seq (.blk (.seq (.reg []) (.reg [(5, 1, false)]))) (.reg []))))))) (.seq (.reg []) (.seq (.reg []) (.blk (.loop [(59, .int .i64)] (.seq (.reg [(0, 0, true)]) (.seq (.cond .nil .nil) (.seq (.blk (.seq (.reg []) (.seq (.reg []) (.seq (.seq (.reg [(5, 0, true), (10, 0, true), (17, 0, true)]) (.cond (.seq (.reg []) .nil) .nil)) (.seq (.seq (.reg [(3, 0, true)]) (.cond .nil .nil)) (.seq (.reg []) (.seq (.seq (.reg []) (.blk (.loop [(13, .int .i64), (95, .int .i64)] (.seq (.reg [(0, 0, true)]) (.seq (.cond .nil .nil) (.seq (.blk (.reg [])) (.reg []))))))) (.seq (.reg [(2, 0, true)]) (.cond (.seq (.reg []) .nil) .nil))))))))) (.reg [])))))))))))) (.reg []))))))) (.seq (.reg []) .nil))))))
theorem nf6 (x_Self : Int) (x_All : Int) (x_Patience : Int) (x_Most : Int) (x_Now : Int) (l : Option Addr) (l_n : Nat) (l_c : Nat) (w : World) (R : Ending → World → Prop) (h :
(∀ w1 : World, ((w1 = (w.alloc (Obj.cells #[(Value.int IntKind.i64 x_Self), (Value.int IntKind.i64 x_All), (Value.int IntKind.i64 x_Patience), (Value.int IntKind.i64 x_Most), (Value.int IntKind.i64 x_Now)] 23 (0, 0)))) →
(∃ x3 : Int, (((w1.cell? (⟨(hs w), 0, none⟩ : Addr)) = (some (Value.int IntKind.i64 x3))) ∧
(∃ x4 : Int, (((w1.cell? (⟨(hs w), 1, none⟩ : Addr)) = (some (Value.int IntKind.i64 x4))) ∧
(∃ x5 : Int, (((w1.cell? (⟨(hs w), 2, none⟩ : Addr)) = (some (Value.int IntKind.i64 x5))) ∧
(∃ x6 : Int, (((w1.cell? (⟨(hs w), 3, none⟩ : Addr)) = (some (Value.int IntKind.i64 x6))) ∧
(∃ x7 : Int, (((w1.cell? (⟨(hs w), 4, none⟩ : Addr)) = (some (Value.int IntKind.i64 x7))) ∧
(Calls Try.prog 9 #[(Value.agg #[(Value.int IntKind.i64 x3), (Value.int IntKind.i64 x4), (Value.int IntKind.i64 x5), (Value.int IntKind.i64 x6), (Value.int IntKind.i64 x7)])] w1 (fun (e8 : Ending) => (fun (w9 : World) => (∃ o10 : Option Addr, (∃ o11 : Option Addr, ((e8 = (Ending.returned (Value.tuple #[(Value.pointer o10), (Value.pointer o11)]))) ∧
(Calls Try.prog 10 #[] w9 (fun (e12 : Ending) => (fun (w13 : World) => (∃ b14 : Bool, ((e12 = (Ending.returned (Value.bool b14))) ∧
(((b14 = true) →
((((Option.isNone o11) = true) →
(Calls Try.prog 10 #[] w13 (fun (e17 : Ending) => (fun (w18 : World) => (∃ b19 : Bool, ((e17 = (Ending.returned (Value.bool b19))) ∧
(((b19 = true) →
(R (Ending.returned (Value.bool true)) w18)) ∧
((b19 = false) →
(R (Ending.returned (Value.bool false)) w18))))))))) ∧
(((Option.isNone o11) = false) →
((((decide (((l_n : Nat) : Int) > 60)) = true) →
(Calls Try.prog 10 #[] w13 (fun (e24 : Ending) => (fun (w25 : World) => (∃ b26 : Bool, ((e24 = (Ending.returned (Value.bool b26))) ∧
(((b26 = true) →
(R (Ending.returned (Value.bool true)) w25)) ∧
((b26 = false) →
(R (Ending.returned (Value.bool false)) w25))))))))) ∧
(((decide (((l_n : Nat) : Int) > 60)) = false) →
((((Option.isNone o10) = true) →
(R (Ending.returned (Value.bool false)) w13)) ∧
(((Option.isNone o10) = false) →
(∃ k32 : (Nat → (Int → (World → Prop))), ((∃ n33 : Nat, (k32 n33 0 w13)) ∧
(∀ n34 : Nat, ((Nat → Value) →
(∀ w36 : World, (∀ x37 : Int, ((k32 n34 x37 w36) →
((((decide (x37 < ((l_n : Nat) : Int))) = true) →
(∃ a40 : Addr, ((l = (some a40)) ∧
((((0 : Int) ≤ x37) ∧
(x37 < ((l_n : Nat) : Int))) ∧
(∃ x41 : Int, (((w36.cell? (Addr.add a40 ((x37).toNat * 3))) = (some (Value.int IntKind.i64 x41))) ∧
(∃ x42 : Int, (((w36.cell? (Addr.add (Addr.add a40 ((x37).toNat * 3)) 1)) = (some (Value.int IntKind.i64 x42))) ∧
(∃ x43 : Int, (((w36.cell? (Addr.add (Addr.add a40 ((x37).toNat * 3)) 2)) = (some (Value.int IntKind.i64 x43))) ∧
(∀ w44 : World, ((w44 = (w36.alloc (Obj.cells #[(Value.int IntKind.i64 0), (Value.int IntKind.i64 0), (Value.int IntKind.i64 0)] 32 (0, 0)))) →
((Nf.There w44 (⟨(hs w36), 0, none⟩ : Addr) 3) ∧
(∀ w46 : World, ((w46 = (Nf.setCells w44 (⟨(hs w36), 0, none⟩ : Addr) [(Value.int IntKind.i64 x41), (Value.int IntKind.i64 x42), (Value.int IntKind.i64 x43)] 0)) →
(∃ x48 : Int, (((w46.cell? (⟨(hs w), 1, none⟩ : Addr)) = (some (Value.int IntKind.i64 x48))) ∧
(∃ k49 : (Nat → (Option Addr → (Nat → (Nat → (Int → (World → Prop)))))), ((∃ n50 : Nat, (k49 n50 none 0 0 0 w46)) ∧
(∀ n51 : Nat, ((Nat → Value) →
(∀ w53 : World, (∀ o54 : Option Addr, (∀ n55 : Nat, (∀ n56 : Nat, (∀ x57 : Int, ((k49 n51 o54 n55 n56 x57 w53) →
((((decide (x57 < x48)) = true) →
(Calls Try.prog 18 #[(Value.pointer o10), (Value.int IntKind.i64 x57)] w53 (fun (e60 : Ending) => (fun (w61 : World) => (∃ x62 : Int, ((e60 = (Ending.returned (Value.int IntKind.i64 x62))) ∧
(∀ w63 : World, ((w63 = (w61.alloc (Obj.cells #[(Value.int IntKind.i64 x62)] 2 (0, 0)))) →
(RunOk Try.prog (Nf.Hold (Builtin.append_ #[48, 48] 48 #[(Value.slice o54 n55 n56), (Value.slice (some (⟨(hs w61), 0, none⟩ : Addr)) 1 1)])) w63 (fun (v65 : Value) => (fun (w66 : World) => (∃ o67 : Option Addr, (∃ n68 : Nat, (∃ n69 : Nat, ((v65 = (Value.slice o67 n68 n69)) ∧
(∃ n70 : Nat, ((n70 < n51) ∧
(k49 n70 o67 n68 n69 (IntKind.wrap IntKind.i64 (x57 + 1)) w66)))))))))))))))))) ∧
(((decide (x57 < x48)) = false) →
(∃ x72 : Int, (((w53.cell? (⟨(hs w36), 0, none⟩ : Addr)) = (some (Value.int IntKind.i64 x72))) ∧
(∃ x73 : Int, (((w53.cell? (⟨(hs w36), 1, none⟩ : Addr)) = (some (Value.int IntKind.i64 x73))) ∧
(Calls Try.prog 12 #[(Value.pointer o10), (Value.int IntKind.i64 x72), (Value.int IntKind.i64 x73)] w53 (fun (e74 : Ending) => (fun (w75 : World) => (∃ x76 : Int, ((e74 = (Ending.returned (Value.int IntKind.i64 x76))) ∧
(∃ x77 : Int, (((w75.cell? (⟨(hs w), 1, none⟩ : Addr)) = (some (Value.int IntKind.i64 x77))) ∧
(∃ k78 : (Nat → (Int → (World → Prop))), ((∃ n79 : Nat, (k78 n79 0 w75)) ∧
(∀ n80 : Nat, ((Nat → Value) →
(∀ w82 : World, (∀ x83 : Int, ((k78 n80 x83 w82) →
((((decide (x83 < x77)) = true) →
(Calls Try.prog 18 #[(Value.pointer o10), (Value.int IntKind.i64 x83)] w82 (fun (e86 : Ending) => (fun (w87 : World) => (∃ x88 : Int, ((e86 = (Ending.returned (Value.int IntKind.i64 x88))) ∧
(∃ a89 : Addr, ((o54 = (some a89)) ∧
((((0 : Int) ≤ x83) ∧
(x83 < ((n55 : Nat) : Int))) ∧
(∃ x90 : Int, (((w87.cell? (Addr.add a89 ((x83).toNat * 1))) = (some (Value.int IntKind.i64 x90))) ∧
((((decide (x88 < x90)) = true) →
(R (Ending.returned (Value.bool false)) w87)) ∧
(((decide (x88 < x90)) = false) →
(∃ x93 : Int, (((w87.cell? (⟨(hs w36), 0, none⟩ : Addr)) = (some (Value.int IntKind.i64 x93))) ∧
((((!(decide (x83 = x93))) = true) →
(∃ a95 : Addr, ((o54 = (some a95)) ∧
((((0 : Int) ≤ x83) ∧
(x83 < ((n55 : Nat) : Int))) ∧
(∃ x96 : Int, (((w87.cell? (Addr.add a95 ((x83).toNat * 1))) = (some (Value.int IntKind.i64 x96))) ∧
((((!(decide (x88 = x96))) = true) →
(R (Ending.returned (Value.bool false)) w87)) ∧
(((!(decide (x88 = x96))) = false) →
(∃ x99 : Int, (((w87.cell? (⟨(hs w), 0, none⟩ : Addr)) = (some (Value.int IntKind.i64 x99))) ∧
((((decide (x83 = x99)) = true) →
(∃ n101 : Nat, ((n101 < n80) ∧
(k78 n101 (IntKind.wrap IntKind.i64 (x83 + 1)) w87)))) ∧
(((decide (x83 = x99)) = false) →
(∃ x103 : Int, (((w87.cell? (⟨(hs w), 2, none⟩ : Addr)) = (some (Value.int IntKind.i64 x103))) ∧
(Calls Try.prog 17 #[(Value.pointer o10), (Value.int IntKind.i64 x83)] w87 (fun (e104 : Ending) => (fun (w105 : World) => (∃ x106 : Int, ((e104 = (Ending.returned (Value.int IntKind.i64 x106))) ∧
(∃ k107 : (Nat → (Int → (Int → (World → Prop)))), ((∃ n108 : Nat, (k107 n108 x103 0 w105)) ∧
(∀ n109 : Nat, ((Nat → Value) →
(∀ w111 : World, (∀ x112 : Int, (∀ x113 : Int, ((k107 n109 x112 x113 w111) →
((((decide (x113 < (if ((64 : Int) < x106) then 64 else x106))) = true) →
(∃ x116 : Int, (((w111.cell? (⟨(hs w), 3, none⟩ : Addr)) = (some (Value.int IntKind.i64 x116))) ∧
(∃ n117 : Nat, ((n117 < n109) ∧
(k107 n117 (if (x116 < (IntKind.wrap IntKind.i64 (2 * x112))) then x116 else (IntKind.wrap IntKind.i64 (2 * x112))) (IntKind.wrap IntKind.i64 (x113 + 1)) w111)))))) ∧
(((decide (x113 < (if ((64 : Int) < x106) then 64 else x106))) = false) →
((((!(decide (x88 = x112))) = true) →
(R (Ending.returned (Value.bool false)) w111)) ∧
(((!(decide (x88 = x112))) = false) →
(∃ n121 : Nat, ((n121 < n80) ∧
(k78 n121 (IntKind.wrap IntKind.i64 (x83 + 1)) w111)))))))))))))))))))))))))))))))))) ∧
(((!(decide (x83 = x93))) = false) →
(∃ x123 : Int, (((w87.cell? (⟨(hs w), 0, none⟩ : Addr)) = (some (Value.int IntKind.i64 x123))) ∧
((((decide (x83 = x123)) = true) →
(∃ n125 : Nat, ((n125 < n80) ∧
(k78 n125 (IntKind.wrap IntKind.i64 (x83 + 1)) w87)))) ∧
(((decide (x83 = x123)) = false) →
(∃ x127 : Int, (((w87.cell? (⟨(hs w), 2, none⟩ : Addr)) = (some (Value.int IntKind.i64 x127))) ∧
(Calls Try.prog 17 #[(Value.pointer o10), (Value.int IntKind.i64 x83)] w87 (fun (e128 : Ending) => (fun (w129 : World) => (∃ x130 : Int, ((e128 = (Ending.returned (Value.int IntKind.i64 x130))) ∧
(∃ k131 : (Nat → (Int → (Int → (World → Prop)))), ((∃ n132 : Nat, (k131 n132 x127 0 w129)) ∧
(∀ n133 : Nat, ((Nat → Value) →
(∀ w135 : World, (∀ x136 : Int, (∀ x137 : Int, ((k131 n133 x136 x137 w135) →
((((decide (x137 < (if ((64 : Int) < x130) then 64 else x130))) = true) →
(∃ x140 : Int, (((w135.cell? (⟨(hs w), 3, none⟩ : Addr)) = (some (Value.int IntKind.i64 x140))) ∧
(∃ n141 : Nat, ((n141 < n133) ∧
(k131 n141 (if (x140 < (IntKind.wrap IntKind.i64 (2 * x136))) then x140 else (IntKind.wrap IntKind.i64 (2 * x136))) (IntKind.wrap IntKind.i64 (x137 + 1)) w135)))))) ∧
(((decide (x137 < (if ((64 : Int) < x130) then 64 else x130))) = false) →
((((!(decide (x88 = x136))) = true) →
(R (Ending.returned (Value.bool false)) w135)) ∧
(((!(decide (x88 = x136))) = false) →
(∃ n145 : Nat, ((n145 < n80) ∧
(k78 n145 (IntKind.wrap IntKind.i64 (x83 + 1)) w135))))))))))))))))))))))))))))))))))))))))))) ∧
(((decide (x83 < x77)) = false) →
(∃ n147 : Nat, ((n147 < n34) ∧
(k32 n147 (IntKind.wrap IntKind.i64 (x37 + 1)) w82)))))))))))))))))))))))))))))))))))))))))))))))))))) ∧
(((decide (x37 < ((l_n : Nat) : Int))) = false) →
(R (Ending.returned (Value.bool true)) w36))))))))))))))))) ∧
((b14 = false) →
(Calls Try.prog 10 #[] w13 (fun (e150 : Ending) => (fun (w151 : World) => (∃ b152 : Bool, ((e150 = (Ending.returned (Value.bool b152))) ∧
(((b152 = true) →
(R (Ending.returned (Value.bool true)) w151)) ∧
((b152 = false) →
(R (Ending.returned (Value.bool false)) w151)))))))))))))))))))))))))))))))))) :
    Calls Try.prog 6 #[(.agg #[(.int .i64 x_Self), (.int .i64 x_All), (.int .i64 x_Patience), (.int .i64 x_Most), (.int .i64 x_Now)]), (.slice l l_n l_c)] w R :=
  calls_of_vc an6 Try.func6 rfl (by kernel_rfl) (by kernel_rfl) (Eq.mp (by kernel_rfl) h)

/-- samaritan/samaritanlaw21.FailureDetectorSettles -/
def an7 : An := (.seq (.reg []) (.seq (.reg []) (.seq (.seq (.reg [(0, 0, true), (4, 3, true), (9, 0, true), (14, 0, true), (19, 0, true), (24, 0, true), (28, 0, true), (34, 0, true), (38, 0, true)]) (.cond (.seq (.reg [(0, 0, true)]) .nil) .nil)) (.seq (.seq (.reg [(1, 3, true)]) (.cond (.seq (.reg []) .nil) .nil)) (.seq (.reg []) (.seq (.seq (.reg []) (.blk (.loop [(9, .int .i64), (10, .int .i64)] (.seq (.seq (.reg [(2, 0, true)]) (.cond .nil .nil)) (.seq (.blk (.reg [])) (.reg [])))))) (.seq (.regD [(5, 2, false)] [0, 1, 2, 3, 4, 5, 6, 7, 8, 9] []) (.seq (.seq (.reg []) (.blk (.loop [(12, .int .i64), (82, .int .i64)] (.seq (.reg [(0, 0, true)]) (.seq (.cond .nil .nil) (.seq (.blk (.seq (.reg []) (.seq (.reg [(5, 2, false)]) (.seq (.reg [(4, 0, true), (10, 0, true)]) (.cond (.seq (.reg []) .nil) .nil))))) (.reg []))))))) (.seq (.reg []) .nil)))))))))
theorem nf7 (x_Self : Int) (x_All : Int) (x_Patience : Int) (x_Most : Int) (x_Now : Int) (within : Int) (gaps : Option Addr) (gaps_n : Nat) (gaps_c : Nat) (w : World) (R : Ending → World → Prop) (h :
(∀ w1 : World, ((w1 = (w.alloc (Obj.cells #[(Value.int IntKind.i64 x_Self), (Value.int IntKind.i64 x_All), (Value.int IntKind.i64 x_Patience), (Value.int IntKind.i64 x_Most), (Value.int IntKind.i64 x_Now)] 23 (0, 0)))) →
(∃ x3 : Int, (((w1.cell? (⟨(hs w), 0, none⟩ : Addr)) = (some (Value.int IntKind.i64 x3))) ∧
(∃ x4 : Int, (((w1.cell? (⟨(hs w), 1, none⟩ : Addr)) = (some (Value.int IntKind.i64 x4))) ∧
(∃ x5 : Int, (((w1.cell? (⟨(hs w), 2, none⟩ : Addr)) = (some (Value.int IntKind.i64 x5))) ∧
(∃ x6 : Int, (((w1.cell? (⟨(hs w), 3, none⟩ : Addr)) = (some (Value.int IntKind.i64 x6))) ∧
(∃ x7 : Int, (((w1.cell? (⟨(hs w), 4, none⟩ : Addr)) = (some (Value.int IntKind.i64 x7))) ∧
(Calls Try.prog 9 #[(Value.agg #[(Value.int IntKind.i64 x3), (Value.int IntKind.i64 x4), (Value.int IntKind.i64 x5), (Value.int IntKind.i64 x6), (Value.int IntKind.i64 x7)])] w1 (fun (e8 : Ending) => (fun (w9 : World) => (∃ o10 : Option Addr, (∃ o11 : Option Addr, ((e8 = (Ending.returned (Value.tuple #[(Value.pointer o10), (Value.pointer o11)]))) ∧
(Calls Try.prog 10 #[] w9 (fun (e12 : Ending) => (fun (w13 : World) => (∃ b14 : Bool, ((e12 = (Ending.returned (Value.bool b14))) ∧
(((b14 = true) →
((((Option.isNone o11) = true) →
(Calls Try.prog 10 #[] w13 (fun (e17 : Ending) => (fun (w18 : World) => (∃ b19 : Bool, ((e17 = (Ending.returned (Value.bool b19))) ∧
(((b19 = true) →
(R (Ending.returned (Value.bool true)) w18)) ∧
((b19 = false) →
(R (Ending.returned (Value.bool false)) w18))))))))) ∧
(((Option.isNone o11) = false) →
((((decide (((gaps_n : Nat) : Int) > 80)) = true) →
(Calls Try.prog 10 #[] w13 (fun (e24 : Ending) => (fun (w25 : World) => (∃ b26 : Bool, ((e24 = (Ending.returned (Value.bool b26))) ∧
(((b26 = true) →
(R (Ending.returned (Value.bool true)) w25)) ∧
((b26 = false) →
(R (Ending.returned (Value.bool false)) w25))))))))) ∧
(((decide (((gaps_n : Nat) : Int) > 80)) = false) →
(∃ x30 : Int, (((w13.cell? (⟨(hs w), 1, none⟩ : Addr)) = (some (Value.int IntKind.i64 x30))) ∧
((((decide (x30 < 2)) = true) →
(Calls Try.prog 10 #[] w13 (fun (e32 : Ending) => (fun (w33 : World) => (∃ b34 : Bool, ((e32 = (Ending.returned (Value.bool b34))) ∧
(((b34 = true) →
(R (Ending.returned (Value.bool true)) w33)) ∧
((b34 = false) →
(R (Ending.returned (Value.bool false)) w33))))))))) ∧
(((decide (x30 < 2)) = false) →
(∃ x38 : Int, (((w13.cell? (⟨(hs w), 4, none⟩ : Addr)) = (some (Value.int IntKind.i64 x38))) ∧
((((decide (x38 < 0)) = true) →
(Calls Try.prog 10 #[] w13 (fun (e40 : Ending) => (fun (w41 : World) => (∃ b42 : Bool, ((e40 = (Ending.returned (Value.bool b42))) ∧
(((b42 = true) →
(R (Ending.returned (Value.bool true)) w41)) ∧
((b42 = false) →
(R (Ending.returned (Value.bool false)) w41))))))))) ∧
(((decide (x38 < 0)) = false) →
(∃ x46 : Int, (((w13.cell? (⟨(hs w), 4, none⟩ : Addr)) = (some (Value.int IntKind.i64 x46))) ∧
((((decide (x46 > 1073741824)) = true) →
(Calls Try.prog 10 #[] w13 (fun (e48 : Ending) => (fun (w49 : World) => (∃ b50 : Bool, ((e48 = (Ending.returned (Value.bool b50))) ∧
(((b50 = true) →
(R (Ending.returned (Value.bool true)) w49)) ∧
((b50 = false) →
(R (Ending.returned (Value.bool false)) w49))))))))) ∧
(((decide (x46 > 1073741824)) = false) →
((((decide (within < 1)) = true) →
(Calls Try.prog 10 #[] w13 (fun (e55 : Ending) => (fun (w56 : World) => (∃ b57 : Bool, ((e55 = (Ending.returned (Value.bool b57))) ∧
(((b57 = true) →
(R (Ending.returned (Value.bool true)) w56)) ∧
((b57 = false) →
(R (Ending.returned (Value.bool false)) w56))))))))) ∧
(((decide (within < 1)) = false) →
(∃ x61 : Int, (((w13.cell? (⟨(hs w), 3, none⟩ : Addr)) = (some (Value.int IntKind.i64 x61))) ∧
((((decide (within > x61)) = true) →
(Calls Try.prog 10 #[] w13 (fun (e63 : Ending) => (fun (w64 : World) => (∃ b65 : Bool, ((e63 = (Ending.returned (Value.bool b65))) ∧
(((b65 = true) →
(R (Ending.returned (Value.bool true)) w64)) ∧
((b65 = false) →
(R (Ending.returned (Value.bool false)) w64))))))))) ∧
(((decide (within > x61)) = false) →
((((decide (within > 1048576)) = true) →
(Calls Try.prog 10 #[] w13 (fun (e70 : Ending) => (fun (w71 : World) => (∃ b72 : Bool, ((e70 = (Ending.returned (Value.bool b72))) ∧
(((b72 = true) →
(R (Ending.returned (Value.bool true)) w71)) ∧
((b72 = false) →
(R (Ending.returned (Value.bool false)) w71))))))))) ∧
(((decide (within > 1048576)) = false) →
((((Option.isNone o10) = true) →
(R (Ending.returned (Value.bool false)) w13)) ∧
(((Option.isNone o10) = false) →
(∃ x78 : Int, (((w13.cell? (⟨(hs w), 2, none⟩ : Addr)) = (some (Value.int IntKind.i64 x78))) ∧
(∃ k79 : (Nat → (Int → (Int → (World → Prop)))), ((∃ n80 : Nat, (k79 n80 0 x78 w13)) ∧
(∀ n81 : Nat, ((Nat → Value) →
(∀ w83 : World, (∀ x84 : Int, (∀ x85 : Int, ((k79 n81 x84 x85 w83) →
((((decide (x85 < within)) = true) →
(∃ n88 : Nat, ((n88 < n81) ∧
(k79 n88 (IntKind.wrap IntKind.i64 (x84 + 1)) (IntKind.wrap IntKind.i64 (2 * x85)) w83)))) ∧
(((decide (x85 < within)) = false) →
(∀ w90 : World, ((w90 = w83.drew) →
(∃ x92 : Int, (((w90.cell? (⟨(hs w), 0, none⟩ : Addr)) = (some (Value.int IntKind.i64 x92))) ∧
(∃ x93 : Int, (((w90.cell? (⟨(hs w), 1, none⟩ : Addr)) = (some (Value.int IntKind.i64 x93))) ∧
((x93 ≠ 0) ∧
(∃ x94 : Int, (((w90.cell? (⟨(hs w), 4, none⟩ : Addr)) = (some (Value.int IntKind.i64 x94))) ∧
(∃ k95 : (Nat → (Int → (Int → (World → Prop)))), ((∃ n96 : Nat, (k95 n96 x94 0 w90)) ∧
(∀ n97 : Nat, ((Nat → Value) →
(∀ w99 : World, (∀ x100 : Int, (∀ x101 : Int, ((k95 n97 x100 x101 w99) →
((((decide (x101 < ((gaps_n : Nat) : Int))) = true) →
(∃ a104 : Addr, ((gaps = (some a104)) ∧
((((0 : Int) ≤ x101) ∧
(x101 < ((gaps_n : Nat) : Int))) ∧
(∃ x105 : Int, (((w99.cell? (Addr.add a104 ((x101).toNat * 1))) = (some (Value.int IntKind.u16 x105))) ∧
(((IntKind.wrap IntKind.i64 (within + 1)) ≠ 0) ∧
(Calls Try.prog 12 #[(Value.pointer o10), (Value.int IntKind.i64 (Int.tmod (IntKind.wrap IntKind.i64 (x92 + 1)) x93)), (Value.int IntKind.i64 (IntKind.wrap IntKind.i64 (x100 + (Int.tmod (IntKind.wrap IntKind.i64 x105) (IntKind.wrap IntKind.i64 (within + 1))))))] w99 (fun (e106 : Ending) => (fun (w107 : World) => (∃ x108 : Int, ((e106 = (Ending.returned (Value.int IntKind.i64 x108))) ∧
((((!(decide (x108 = 0))) = true) →
(R (Ending.returned (Value.bool false)) w107)) ∧
(((!(decide (x108 = 0))) = false) →
(Calls Try.prog 17 #[(Value.pointer o10), (Value.int IntKind.i64 (Int.tmod (IntKind.wrap IntKind.i64 (x92 + 1)) x93))] w107 (fun (e111 : Ending) => (fun (w112 : World) => (∃ x113 : Int, ((e111 = (Ending.returned (Value.int IntKind.i64 x113))) ∧
((((decide (x113 > x84)) = true) →
(R (Ending.returned (Value.bool false)) w112)) ∧
(((decide (x113 > x84)) = false) →
(∃ n116 : Nat, ((n116 < n97) ∧
(k95 n116 (IntKind.wrap IntKind.i64 (x100 + (Int.tmod (IntKind.wrap IntKind.i64 x105) (IntKind.wrap IntKind.i64 (within + 1))))) (IntKind.wrap IntKind.i64 (x101 + 1)) w112)))))))))))))))))))))))) ∧
(((decide (x101 < ((gaps_n : Nat) : Int))) = false) →
(R (Ending.returned (Value.bool true)) w99))))))))))))))))))))))))))))))))))))))))))))))))))))))))))) ∧
((b14 = false) →
(Calls Try.prog 10 #[] w13 (fun (e119 : Ending) => (fun (w120 : World) => (∃ b121 : Bool, ((e119 = (Ending.returned (Value.bool b121))) ∧
(((b121 = true) →
(R (Ending.returned (Value.bool true)) w120)) ∧
((b121 = false) →
(R (Ending.returned (Value.bool false)) w120)))))))))))))))))))))))))))))))))) :
    Calls Try.prog 7 #[(.agg #[(.int .i64 x_Self), (.int .i64 x_All), (.int .i64 x_Patience), (.int .i64 x_Most), (.int .i64 x_Now)]), (.int .i64 within), (.slice gaps gaps_n gaps_c)] w R :=
  calls_of_vc an7 Try.func7 rfl (by kernel_rfl) (by kernel_rfl) (Eq.mp (by kernel_rfl) h)

/-- samaritan/samaritanlaw21.FailureDetectorNextAlive -/
def an8 : An := (.seq (.reg []) (.seq (.reg []) (.seq (.seq (.reg [(0, 0, true), (4, 3, true), (9, 0, true)]) (.cond (.seq (.reg [(0, 0, true)]) .nil) .nil)) (.seq (.seq (.reg [(1, 3, true)]) (.cond (.seq (.reg []) .nil) .nil)) (.seq (.seq (.reg []) (.blk (.loop [(40, .int .i64)] (.seq (.reg [(0, 0, true)]) (.seq (.cond .nil .nil) (.seq (.blk (.seq (.reg []) (.reg []))) (.reg []))))))) (.seq (.regD [] [0, 1, 2, 3, 4, 5] []) (.seq (.reg []) (.seq (.seq (.reg [(1, 0, true), (6, 0, true)]) (.cond (.seq (.reg [(1, 0, true)]) .nil) .nil)) (.seq (.seq (.reg [(1, 0, true), (6, 0, true)]) (.cond (.seq (.reg []) .nil) .nil)) (.seq (.reg []) (.seq (.seq (.reg []) (.blk (.loop [(82, .int .i64)] (.seq (.reg [(0, 0, true)]) (.seq (.cond .nil .nil) (.seq (.blk (.seq (.reg []) (.reg [(2, 1, false)]))) (.reg []))))))) (.seq (.seq (.reg [(2, 1, true), (7, 1, true)]) (.cond (.seq (.reg []) .nil) .nil)) (.seq (.seq (.reg []) (.blk (.loop [(17, .int .i64)] (.seq (.seq (.reg [(3, 0, true)]) (.cond .nil .nil)) (.seq (.blk (.seq (.reg [(5, 2, false)]) (.seq (.seq (.reg [(2, 0, true)]) (.cond (.seq (.reg []) .nil) .nil)) (.seq (.reg [(2, 1, true)]) (.cond (.seq (.reg []) .nil) .nil))))) (.reg [])))))) (.seq (.reg []) .nil))))))))))))))
theorem nf8 (x_Self : Int) (x_All : Int) (x_Patience : Int) (x_Most : Int) (x_Now : Int) (l : Option Addr) (l_n : Nat) (l_c : Nat) (y_0 : Int) (y_1 : Int) (w : World) (R : Ending → World → Prop) (h :
(∀ w1 : World, ((w1 = (w.alloc (Obj.cells #[(Value.int IntKind.i64 x_Self), (Value.int IntKind.i64 x_All), (Value.int IntKind.i64 x_Patience), (Value.int IntKind.i64 x_Most), (Value.int IntKind.i64 x_Now)] 23 (0, 0)))) →
(∀ w3 : World, ((w3 = (w1.alloc (Obj.cells #[(Value.int IntKind.i64 y_0), (Value.int IntKind.i64 y_1)] 50 (0, 0)))) →
(∃ x5 : Int, (((w3.cell? (⟨(hs w), 0, none⟩ : Addr)) = (some (Value.int IntKind.i64 x5))) ∧
(∃ x6 : Int, (((w3.cell? (⟨(hs w), 1, none⟩ : Addr)) = (some (Value.int IntKind.i64 x6))) ∧
(∃ x7 : Int, (((w3.cell? (⟨(hs w), 2, none⟩ : Addr)) = (some (Value.int IntKind.i64 x7))) ∧
(∃ x8 : Int, (((w3.cell? (⟨(hs w), 3, none⟩ : Addr)) = (some (Value.int IntKind.i64 x8))) ∧
(∃ x9 : Int, (((w3.cell? (⟨(hs w), 4, none⟩ : Addr)) = (some (Value.int IntKind.i64 x9))) ∧
(Calls Try.prog 9 #[(Value.agg #[(Value.int IntKind.i64 x5), (Value.int IntKind.i64 x6), (Value.int IntKind.i64 x7), (Value.int IntKind.i64 x8), (Value.int IntKind.i64 x9)])] w3 (fun (e10 : Ending) => (fun (w11 : World) => (∃ o12 : Option Addr, (∃ o13 : Option Addr, ((e10 = (Ending.returned (Value.tuple #[(Value.pointer o12), (Value.pointer o13)]))) ∧
(Calls Try.prog 10 #[] w11 (fun (e14 : Ending) => (fun (w15 : World) => (∃ b16 : Bool, ((e14 = (Ending.returned (Value.bool b16))) ∧
(((b16 = true) →
((((Option.isNone o13) = true) →
(Calls Try.prog 10 #[] w15 (fun (e19 : Ending) => (fun (w20 : World) => (∃ b21 : Bool, ((e19 = (Ending.returned (Value.bool b21))) ∧
(((b21 = true) →
(R (Ending.returned (Value.bool true)) w20)) ∧
((b21 = false) →
(R (Ending.returned (Value.bool false)) w20))))))))) ∧
(((Option.isNone o13) = false) →
((((decide (((l_n : Nat) : Int) > 60)) = true) →
(Calls Try.prog 10 #[] w15 (fun (e26 : Ending) => (fun (w27 : World) => (∃ b28 : Bool, ((e26 = (Ending.returned (Value.bool b28))) ∧
(((b28 = true) →
(R (Ending.returned (Value.bool true)) w27)) ∧
((b28 = false) →
(R (Ending.returned (Value.bool false)) w27))))))))) ∧
(((decide (((l_n : Nat) : Int) > 60)) = false) →
((((Option.isNone o12) = true) →
(R (Ending.returned (Value.bool false)) w15)) ∧
(((Option.isNone o12) = false) →
(∃ k34 : (Nat → (Int → (World → Prop))), ((∃ n35 : Nat, (k34 n35 0 w15)) ∧
(∀ n36 : Nat, ((Nat → Value) →
(∀ w38 : World, (∀ x39 : Int, ((k34 n36 x39 w38) →
((((decide (x39 < ((l_n : Nat) : Int))) = true) →
(∃ a42 : Addr, ((l = (some a42)) ∧
((((0 : Int) ≤ x39) ∧
(x39 < ((l_n : Nat) : Int))) ∧
(∃ x43 : Int, (((w38.cell? (Addr.add a42 ((x39).toNat * 3))) = (some (Value.int IntKind.i64 x43))) ∧
(∃ x44 : Int, (((w38.cell? (Addr.add (Addr.add a42 ((x39).toNat * 3)) 1)) = (some (Value.int IntKind.i64 x44))) ∧
(∃ x45 : Int, (((w38.cell? (Addr.add (Addr.add a42 ((x39).toNat * 3)) 2)) = (some (Value.int IntKind.i64 x45))) ∧
(∀ w46 : World, ((w46 = (w38.alloc (Obj.cells #[(Value.int IntKind.i64 0), (Value.int IntKind.i64 0), (Value.int IntKind.i64 0)] 32 (0, 0)))) →
((Nf.There w46 (⟨(hs w38), 0, none⟩ : Addr) 3) ∧
(∀ w48 : World, ((w48 = (Nf.setCells w46 (⟨(hs w38), 0, none⟩ : Addr) [(Value.int IntKind.i64 x43), (Value.int IntKind.i64 x44), (Value.int IntKind.i64 x45)] 0)) →
(∃ x50 : Int, (((w48.cell? (⟨(hs w38), 0, none⟩ : Addr)) = (some (Value.int IntKind.i64 x50))) ∧
(∃ x51 : Int, (((w48.cell? (⟨(hs w38), 1, none⟩ : Addr)) = (some (Value.int IntKind.i64 x51))) ∧
(Calls Try.prog 12 #[(Value.pointer o12), (Value.int IntKind.i64 x50), (Value.int IntKind.i64 x51)] w48 (fun (e52 : Ending) => (fun (w53 : World) => (∃ x54 : Int, ((e52 = (Ending.returned (Value.int IntKind.i64 x54))) ∧
(∃ n55 : Nat, ((n55 < n36) ∧
(k34 n55 (IntKind.wrap IntKind.i64 (x39 + 1)) w53))))))))))))))))))))))))))) ∧
(((decide (x39 < ((l_n : Nat) : Int))) = false) →
(∀ w57 : World, ((w57 = w38.drew) →
((((0 : Int) ≤ 0) ∧
((0 : Int) < 2)) ∧
(∃ x59 : Int, (((w57.cell? (⟨(hs w1), 0, none⟩ : Addr)) = (some (Value.int IntKind.i64 x59))) ∧
((((0 : Int) ≤ 1) ∧
((1 : Int) < 2)) ∧
(∃ x60 : Int, (((w57.cell? (⟨(hs w1), 1, none⟩ : Addr)) = (some (Value.int IntKind.i64 x60))) ∧
(Calls Try.prog 19 #[(Value.pointer o12), (Value.int IntKind.i64 x59), (Value.int IntKind.i64 x60)] w57 (fun (e61 : Ending) => (fun (w62 : World) => (∃ x63 : Int, ((e61 = (Ending.returned (Value.int IntKind.i64 x63))) ∧
((((decide (x59 < 0)) = true) →
((((decide (x63 = (-1))) = true) →
(R (Ending.returned (Value.bool true)) w62)) ∧
(((decide (x63 = (-1))) = false) →
(R (Ending.returned (Value.bool false)) w62)))) ∧
(((decide (x59 < 0)) = false) →
(∃ x68 : Int, (((w62.cell? (⟨(hs w), 1, none⟩ : Addr)) = (some (Value.int IntKind.i64 x68))) ∧
((((decide (x59 ≥ x68)) = true) →
((((decide (x63 = (-1))) = true) →
(R (Ending.returned (Value.bool true)) w62)) ∧
(((decide (x63 = (-1))) = false) →
(R (Ending.returned (Value.bool false)) w62)))) ∧
(((decide (x59 ≥ x68)) = false) →
((((decide (x63 < 0)) = true) →
(R (Ending.returned (Value.bool false)) w62)) ∧
(((decide (x63 < 0)) = false) →
(∃ x75 : Int, (((w62.cell? (⟨(hs w), 1, none⟩ : Addr)) = (some (Value.int IntKind.i64 x75))) ∧
((((decide (x63 ≥ x75)) = true) →
(R (Ending.returned (Value.bool false)) w62)) ∧
(((decide (x63 ≥ x75)) = false) →
(∀ w78 : World, ((w78 = (w62.alloc (Obj.map #[] 0))) →
(Calls Try.prog 16 #[(Value.pointer o12), (Value.int IntKind.i64 x60)] w78 (fun (e80 : Ending) => (fun (w81 : World) => (∃ o82 : Option Addr, (∃ n83 : Nat, (∃ n84 : Nat, ((e80 = (Ending.returned (Value.slice o82 n83 n84))) ∧
(∃ k85 : (Nat → (Int → (World → Prop))), ((∃ n86 : Nat, (k85 n86 0 w81)) ∧
(∀ n87 : Nat, ((Nat → Value) →
(∀ w89 : World, (∀ x90 : Int, ((k85 n87 x90 w89) →
((((decide (x90 < ((n83 : Nat) : Int))) = true) →
(∃ a93 : Addr, ((o82 = (some a93)) ∧
((((0 : Int) ≤ x90) ∧
(x90 < ((n83 : Nat) : Int))) ∧
(∃ x94 : Int, (((w89.cell? (Addr.add a93 ((x90).toNat * 1))) = (some (Value.int IntKind.i64 x94))) ∧
(RunOk Try.prog (Nf.Hold (Instr.mapUpdate 52 (Value.map (some (hs w62))) (Value.int IntKind.i64 x94) (Value.bool true))) w89 (fun (k95 : Unit) => (fun (w96 : World) => (∃ n97 : Nat, ((n97 < n87) ∧
(k85 n97 (IntKind.wrap IntKind.i64 (x90 + 1)) w96)))))))))))) ∧
(((decide (x90 < ((n83 : Nat) : Int))) = false) →
(RunOk Try.prog (Nf.Hold (Instr.lookup 52 (Value.map (some (hs w62))) (Value.int IntKind.i64 x63) false)) w89 (fun (v99 : Value) => (fun (w100 : World) => (∃ b101 : Bool, ((v99 = (Value.bool b101)) ∧
(((b101 = true) →
(R (Ending.returned (Value.bool false)) w100)) ∧
((b101 = false) →
(∃ x104 : Int, (((w100.cell? (⟨(hs w), 0, none⟩ : Addr)) = (some (Value.int IntKind.i64 x104))) ∧
(RunOk Try.prog (Nf.Hold (Instr.lookup 52 (Value.map (some (hs w62))) (Value.int IntKind.i64 x104) false)) w100 (fun (v105 : Value) => (fun (w106 : World) => (∃ b107 : Bool, ((v105 = (Value.bool b107)) ∧
(((b107 = true) →
(R (Ending.returned (Value.bool false)) w106)) ∧
((b107 = false) →
(∃ k110 : (Nat → (Int → (World → Prop))), ((∃ n111 : Nat, (k110 n111 1 w106)) ∧
(∀ n112 : Nat, ((Nat → Value) →
(∀ w114 : World, (∀ x115 : Int, ((k110 n112 x115 w114) →
(∃ x117 : Int, (((w114.cell? (⟨(hs w), 1, none⟩ : Addr)) = (some (Value.int IntKind.i64 x117))) ∧
((((decide (x115 ≤ x117)) = true) →
(∃ x119 : Int, (((w114.cell? (⟨(hs w), 1, none⟩ : Addr)) = (some (Value.int IntKind.i64 x119))) ∧
((x119 ≠ 0) ∧
((((decide ((Int.tmod (IntKind.wrap IntKind.i64 (x59 + x115)) x119) = x63)) = true) →
(R (Ending.returned (Value.bool true)) w114)) ∧
(((decide ((Int.tmod (IntKind.wrap IntKind.i64 (x59 + x115)) x119) = x63)) = false) →
(RunOk Try.prog (Nf.Hold (Instr.lookup 52 (Value.map (some (hs w62))) (Value.int IntKind.i64 (Int.tmod (IntKind.wrap IntKind.i64 (x59 + x115)) x119)) false)) w114 (fun (v122 : Value) => (fun (w123 : World) => (∃ b124 : Bool, ((v122 = (Value.bool b124)) ∧
(((b124 = true) →
(∃ n126 : Nat, ((n126 < n112) ∧
(k110 n126 (IntKind.wrap IntKind.i64 (x115 + 1)) w123)))) ∧
((b124 = false) →
(R (Ending.returned (Value.bool false)) w123)))))))))))))) ∧
(((decide (x115 ≤ x117)) = false) →
(R (Ending.returned (Value.bool false)) w114))))))))))))))))))))))))))))))))))))))))))))))))))))))))))))))))))))))))))))))))))))))) ∧
((b16 = false) →
(Calls Try.prog 10 #[] w15 (fun (e130 : Ending) => (fun (w131 : World) => (∃ b132 : Bool, ((e130 = (Ending.returned (Value.bool b132))) ∧
(((b132 = true) →
(R (Ending.returned (Value.bool true)) w131)) ∧
((b132 = false) →
(R (Ending.returned (Value.bool false)) w131)))))))))))))))))))))))))))))))))))) :
    Calls Try.prog 8 #[(.agg #[(.int .i64 x_Self), (.int .i64 x_All), (.int .i64 x_Patience), (.int .i64 x_Most), (.int .i64 x_Now)]), (.slice l l_n l_c), (.agg #[(.int .i64 y_0), (.int .i64 y_1)])] w R :=
  calls_of_vc an8 Try.func8 rfl (by kernel_rfl) (by kernel_rfl) (Eq.mp (by kernel_rfl) h)

end Go.Proofs.Ythddcccffiofbaa
