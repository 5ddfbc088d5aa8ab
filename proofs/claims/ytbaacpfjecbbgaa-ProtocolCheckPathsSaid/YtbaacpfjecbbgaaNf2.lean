/- The contracts' premises: for each function, the proposition that its body comes to (printed by the tool of wip/nf). -/
import Derived.Test.YtbaacpfjecbbgaaRows
import Derived.Test.YtbaacpfjecbbgaaNfD
namespace Go.Proofs.Ytbaacpfjecbbgaa
open Go Go.Nf

/-- samaritan/samaritanlaw14.awake$1 -/
def an71 : An := (.seq (.reg []) (.seq (.reg []) .nil))
set_option maxRecDepth 100000 in
theorem nf71 (u : Int) (w : World) (R : Ending → World → Prop) (h :
(∀ w1 : World, ((w1 = (w.alloc (Obj.cells #[(Value.string (ByteArray.mk #[])), (Value.int IntKind.i64 0), (Value.int IntKind.i64 0), (Value.string (ByteArray.mk #[]))] 58 (0, 0)))) →
((Nf.There w1 (⟨(hs w), 0, none⟩ : Addr) 4) ∧
(∀ w3 : World, ((w3 = (Nf.setCells w1 (⟨(hs w), 0, none⟩ : Addr) [(Value.string (ByteArray.mk #[(101 : UInt8)])), (Value.int IntKind.i64 (-1)), (Value.int IntKind.i64 u), (Value.string (ByteArray.mk #[(99 : UInt8)]))] 0)) →
(∃ s5 : ByteArray, (((w3.cell? (⟨(hs w), 0, none⟩ : Addr)) = (some (Value.string s5))) ∧
(∃ x6 : Int, (((w3.cell? (⟨(hs w), 1, none⟩ : Addr)) = (some (Value.int IntKind.i64 x6))) ∧
(∃ x7 : Int, (((w3.cell? (⟨(hs w), 2, none⟩ : Addr)) = (some (Value.int IntKind.i64 x7))) ∧
(∃ s8 : ByteArray, (((w3.cell? (⟨(hs w), 3, none⟩ : Addr)) = (some (Value.string s8))) ∧
(R (Ending.returned (Value.agg #[(Value.string s5), (Value.int IntKind.i64 x6), (Value.int IntKind.i64 x7), (Value.string s8)])) w3))))))))))))))) :
    Calls Try.prog 71 #[(.int .i64 u)] w R :=
  calls_of_vc an71 Try.func71 rfl (by kernel_rfl) (by kernel_rfl) (Eq.mp (by kernel_rfl) h)

/-- samaritan/samaritanlaw14.awake -/
def an24 : An := (.seq (.reg []) (.seq (.reg []) (.seq (.reg []) (.seq (.seq (.reg [(1, 0, true), (4, 3, true)]) (.cond (.seq (.reg []) .nil) .nil)) (.seq (.reg []) (.seq (.reg []) (.seq (.reg []) (.seq (.reg []) (.seq (.reg [(5, 0, true)]) (.seq (.reg [(1, 0, true), (4, 0, true), (8, 0, true), (12, 0, true), (16, 0, true), (20, 0, true), (24, 0, true), (28, 3, true), (36, 0, true)]) .nil))))))))))
set_option maxRecDepth 100000 in
theorem nf24  (w : World) (R : Ending → World → Prop) (h :
(Calls Try.prog 71 #[(Value.int IntKind.i64 1)] w (fun (e1 : Ending) => (fun (w2 : World) => (∃ s3 : ByteArray, (∃ x4 : Int, (∃ x5 : Int, (∃ s6 : ByteArray, ((e1 = (Ending.returned (Value.agg #[(Value.string s3), (Value.int IntKind.i64 x4), (Value.int IntKind.i64 x5), (Value.string s6)]))) ∧
(∀ w7 : World, ((w7 = (w2.alloc (Obj.cells #[(Value.string s3), (Value.int IntKind.i64 x4), (Value.int IntKind.i64 x5), (Value.string s6), (Value.string (ByteArray.mk #[(111 : UInt8), (110 : UInt8)])), (Value.int IntKind.i64 1), (Value.int IntKind.i64 0), (Value.string (ByteArray.mk #[]))] 58 (0, 0)))) →
(Calls Try.prog 71 #[(Value.int IntKind.i64 3)] w7 (fun (e9 : Ending) => (fun (w10 : World) => (∃ s11 : ByteArray, (∃ x12 : Int, (∃ x13 : Int, (∃ s14 : ByteArray, ((e9 = (Ending.returned (Value.agg #[(Value.string s11), (Value.int IntKind.i64 x12), (Value.int IntKind.i64 x13), (Value.string s14)]))) ∧
(Calls Try.prog 71 #[(Value.int IntKind.i64 5)] w10 (fun (e15 : Ending) => (fun (w16 : World) => (∃ s17 : ByteArray, (∃ x18 : Int, (∃ x19 : Int, (∃ s20 : ByteArray, ((e15 = (Ending.returned (Value.agg #[(Value.string s17), (Value.int IntKind.i64 x18), (Value.int IntKind.i64 x19), (Value.string s20)]))) ∧
(∀ w21 : World, ((w21 = (w16.alloc (Obj.cells #[(Value.string s11), (Value.int IntKind.i64 x12), (Value.int IntKind.i64 x13), (Value.string s14), (Value.string s17), (Value.int IntKind.i64 x18), (Value.int IntKind.i64 x19), (Value.string s20)] 58 (0, 0)))) →
(∀ w23 : World, ((w23 = (w21.alloc (Obj.cells #[(Value.string (ByteArray.mk #[(113 : UInt8)])), (Value.slice (some (⟨(hs w2), 0, none⟩ : Addr)) 2 2), (Value.string (ByteArray.mk #[(114 : UInt8)])), (Value.slice (some (⟨(hs w16), 0, none⟩ : Addr)) 2 2)] 38 (0, 0)))) →
(Calls Try.prog 25 #[(Value.agg #[(Value.string (ByteArray.mk #[(109 : UInt8), (97 : UInt8), (105 : UInt8), (110 : UInt8)])), (Value.int IntKind.i64 3), (Value.slice (some (⟨(hs w21), 0, none⟩ : Addr)) 2 2)])] w23 (fun (e25 : Ending) => (fun (w26 : World) => (∃ o27 : Option Addr, (∃ x28 : Int, ((e25 = (Ending.returned (Value.tuple #[(Value.pointer o27), (Value.int IntKind.i64 x28)]))) ∧
((((!(decide (x28 = 0))) = true) →
(R (Ending.returned (Value.bool false)) w26)) ∧
(((!(decide (x28 = 0))) = false) →
((((Option.isNone o27) = true) →
(R (Ending.returned (Value.bool false)) w26)) ∧
(((Option.isNone o27) = false) →
(Calls Try.prog 27 #[(Value.pointer o27)] w26 (fun (e33 : Ending) => (fun (w34 : World) => (∃ x35 : Int, (∃ x36 : Int, ((e33 = (Ending.returned (Value.tuple #[(Value.int IntKind.i64 x35), (Value.int IntKind.i64 x36)]))) ∧
(Calls Try.prog 30 #[(Value.pointer o27), (Value.int IntKind.i64 1)] w34 (fun (e37 : Ending) => (fun (w38 : World) => (∃ x39 : Int, ((e37 = (Ending.returned (Value.int IntKind.i64 x39))) ∧
(Calls Try.prog 27 #[(Value.pointer o27)] w38 (fun (e40 : Ending) => (fun (w41 : World) => (∃ x42 : Int, (∃ x43 : Int, ((e40 = (Ending.returned (Value.tuple #[(Value.int IntKind.i64 x42), (Value.int IntKind.i64 x43)]))) ∧
(Calls Try.prog 30 #[(Value.pointer o27), (Value.int IntKind.i64 1)] w41 (fun (e44 : Ending) => (fun (w45 : World) => (∃ x46 : Int, ((e44 = (Ending.returned (Value.int IntKind.i64 x46))) ∧
(Calls Try.prog 29 #[(Value.pointer o27)] w45 (fun (e47 : Ending) => (fun (w48 : World) => (∃ x49 : Int, (∃ s50 : ByteArray, (∃ b51 : Bool, ((e47 = (Ending.returned (Value.tuple #[(Value.int IntKind.i64 x49), (Value.string s50), (Value.bool b51)]))) ∧
(((b51 = true) →
((((decide (x35 = 1)) = true) →
((((decide (x36 = 5)) = true) →
((((decide (x39 = 0)) = true) →
((((decide (x42 = 3)) = true) →
((((decide (x43 = 5)) = true) →
((((decide (x46 = 0)) = true) →
((((decide (x49 = 5)) = true) →
((((Nf.strEq s50 (ByteArray.mk #[(99 : UInt8)])) = true) →
(Calls Try.prog 30 #[(Value.pointer o27), (Value.int IntKind.i64 0)] w48 (fun (e61 : Ending) => (fun (w62 : World) => (∃ x63 : Int, ((e61 = (Ending.returned (Value.int IntKind.i64 x63))) ∧
((((decide (x63 = 8)) = true) →
(R (Ending.returned (Value.bool true)) w62)) ∧
(((decide (x63 = 8)) = false) →
(R (Ending.returned (Value.bool false)) w62))))))))) ∧
(((Nf.strEq s50 (ByteArray.mk #[(99 : UInt8)])) = false) →
(R (Ending.returned (Value.bool false)) w48)))) ∧
(((decide (x49 = 5)) = false) →
(R (Ending.returned (Value.bool false)) w48)))) ∧
(((decide (x46 = 0)) = false) →
(R (Ending.returned (Value.bool false)) w48)))) ∧
(((decide (x43 = 5)) = false) →
(R (Ending.returned (Value.bool false)) w48)))) ∧
(((decide (x42 = 3)) = false) →
(R (Ending.returned (Value.bool false)) w48)))) ∧
(((decide (x39 = 0)) = false) →
(R (Ending.returned (Value.bool false)) w48)))) ∧
(((decide (x36 = 5)) = false) →
(R (Ending.returned (Value.bool false)) w48)))) ∧
(((decide (x35 = 1)) = false) →
(R (Ending.returned (Value.bool false)) w48)))) ∧
((b51 = false) →
((((decide (x35 = 1)) = true) →
((((decide (x36 = 5)) = true) →
((((decide (x39 = 0)) = true) →
((((decide (x42 = 3)) = true) →
((((decide (x43 = 5)) = true) →
((((decide (x46 = 0)) = true) →
((((decide (x49 = 5)) = true) →
((((Nf.strEq s50 (ByteArray.mk #[(99 : UInt8)])) = true) →
(R (Ending.returned (Value.bool false)) w48)) ∧
(((Nf.strEq s50 (ByteArray.mk #[(99 : UInt8)])) = false) →
(R (Ending.returned (Value.bool false)) w48)))) ∧
(((decide (x49 = 5)) = false) →
(R (Ending.returned (Value.bool false)) w48)))) ∧
(((decide (x46 = 0)) = false) →
(R (Ending.returned (Value.bool false)) w48)))) ∧
(((decide (x43 = 5)) = false) →
(R (Ending.returned (Value.bool false)) w48)))) ∧
(((decide (x42 = 3)) = false) →
(R (Ending.returned (Value.bool false)) w48)))) ∧
(((decide (x39 = 0)) = false) →
(R (Ending.returned (Value.bool false)) w48)))) ∧
(((decide (x36 = 5)) = false) →
(R (Ending.returned (Value.bool false)) w48)))) ∧
(((decide (x35 = 1)) = false) →
(R (Ending.returned (Value.bool false)) w48))))))))))))))))))))))))))))))))))))))))))))))))))))))))))))))))))))))))))) :
    Calls Try.prog 24 #[] w R :=
  calls_of_vc an24 Try.func24 rfl (by kernel_rfl) (by kernel_rfl) (Eq.mp (by kernel_rfl) h)

/-- samaritan/samaritanlaw14.same -/
def an32 : An := (.seq (.reg []) (.seq (.reg []) (.seq (.reg [(4, 0, true)]) (.seq (.reg [(5, 0, true)]) (.seq (.reg []) (.seq (.reg []) (.seq (.reg []) (.seq (.seq (.reg [(3, 0, true), (8, 0, true), (13, 0, true), (19, 3, true), (25, 0, true), (30, 0, true), (31, 0, true), (36, 0, true), (37, 0, true)]) (.cond (.seq (.reg []) .nil) .nil)) (.seq (.seq (.reg [(1, 0, true)]) (.cond (.seq (.regD [(6, 0, true), (9, 0, true), (13, 3, true)] [0, 1, 2, 3, 4, 5, 6, 7, 8, 9, 10, 11, 12, 13, 14, 15] [6]) .nil) .nil)) (.seq (.reg [(2, 0, true), (7, 0, true), (13, 3, true)]) .nil))))))))))
set_option maxRecDepth 100000 in
theorem nf32 (t : Nat) (x_Name : ByteArray) (x_Version : Int) (x_Questions : Option Addr) (x_Questions_n : Nat) (x_Questions_c : Nat) (said : Option Addr) (said_n : Nat) (said_c : Nat) (w : World) (R : Ending → World → Prop) (h :
(∀ w1 : World, ((w1 = (w.alloc (Obj.cells #[(Value.string x_Name), (Value.int IntKind.i64 x_Version), (Value.slice x_Questions x_Questions_n x_Questions_c)] 24 (0, 0)))) →
(∃ s3 : ByteArray, (((w1.cell? (⟨(hs w), 0, none⟩ : Addr)) = (some (Value.string s3))) ∧
(∃ x4 : Int, (((w1.cell? (⟨(hs w), 1, none⟩ : Addr)) = (some (Value.int IntKind.i64 x4))) ∧
(∃ o5 : Option Addr, (∃ n6 : Nat, (∃ n7 : Nat, (((w1.cell? (⟨(hs w), 2, none⟩ : Addr)) = (some (Value.slice o5 n6 n7))) ∧
(Calls Try.prog 76 #[(Value.agg #[(Value.string s3), (Value.int IntKind.i64 x4), (Value.slice o5 n6 n7)]), (Value.slice said said_n said_c)] w1 (fun (e8 : Ending) => (fun (w9 : World) => (∃ x10 : Int, (∃ s11 : ByteArray, (∃ x12 : Int, (∃ x13 : Int, (∃ s14 : ByteArray, ((e8 = (Ending.returned (Value.tuple #[(Value.int IntKind.i64 x10), (Value.agg #[(Value.string s11), (Value.int IntKind.i64 x12), (Value.int IntKind.i64 x13), (Value.string s14)])]))) ∧
(∀ w15 : World, ((w15 = (w9.alloc (Obj.cells #[(Value.string (ByteArray.mk #[])), (Value.int IntKind.i64 0), (Value.int IntKind.i64 0), (Value.string (ByteArray.mk #[]))] 58 (0, 0)))) →
((Nf.There w15 (⟨(hs w9), 0, none⟩ : Addr) 4) ∧
(∀ w17 : World, ((w17 = (Nf.setCells w15 (⟨(hs w9), 0, none⟩ : Addr) [(Value.string s11), (Value.int IntKind.i64 x12), (Value.int IntKind.i64 x13), (Value.string s14)] 0)) →
(Calls Try.prog 28 #[(Value.pointer (some (⟨t, 0, none⟩ : Addr)))] w17 (fun (e19 : Ending) => (fun (w20 : World) => (∃ s21 : ByteArray, (∃ o22 : Option Addr, (∃ n23 : Nat, (∃ n24 : Nat, (∃ b25 : Bool, ((e19 = (Ending.returned (Value.tuple #[(Value.agg #[(Value.string s21), (Value.slice o22 n23 n24)]), (Value.bool b25)]))) ∧
(((b25 = true) →
(∀ w27 : World, ((w27 = (w20.alloc (Obj.cells #[(Value.string (ByteArray.mk #[])), (Value.slice none 0 0)] 38 (0, 0)))) →
((Nf.There w27 (⟨(hs w20), 0, none⟩ : Addr) 2) ∧
(∀ w29 : World, ((w29 = (Nf.setCells w27 (⟨(hs w20), 0, none⟩ : Addr) [(Value.string s21), (Value.slice o22 n23 n24)] 0)) →
(Calls Try.prog 29 #[(Value.pointer (some (⟨t, 0, none⟩ : Addr)))] w29 (fun (e31 : Ending) => (fun (w32 : World) => (∃ x33 : Int, (∃ s34 : ByteArray, (∃ b35 : Bool, ((e31 = (Ending.returned (Value.tuple #[(Value.int IntKind.i64 x33), (Value.string s34), (Value.bool b35)]))) ∧
(((b35 = true) →
(Calls Try.prog 27 #[(Value.pointer (some (⟨t, 0, none⟩ : Addr)))] w32 (fun (e37 : Ending) => (fun (w38 : World) => (∃ x39 : Int, (∃ x40 : Int, ((e37 = (Ending.returned (Value.tuple #[(Value.int IntKind.i64 x39), (Value.int IntKind.i64 x40)]))) ∧
(∃ s41 : ByteArray, (((w38.cell? (⟨(hs w), 0, none⟩ : Addr)) = (some (Value.string s41))) ∧
(∃ x42 : Int, (((w38.cell? (⟨(hs w), 1, none⟩ : Addr)) = (some (Value.int IntKind.i64 x42))) ∧
(∃ o43 : Option Addr, (∃ n44 : Nat, (∃ n45 : Nat, (((w38.cell? (⟨(hs w), 2, none⟩ : Addr)) = (some (Value.slice o43 n44 n45))) ∧
(Calls Try.prog 77 #[(Value.agg #[(Value.string s41), (Value.int IntKind.i64 x42), (Value.slice o43 n44 n45)]), (Value.slice said said_n said_c)] w38 (fun (e46 : Ending) => (fun (w47 : World) => (∃ x48 : Int, (∃ x49 : Int, ((e46 = (Ending.returned (Value.tuple #[(Value.int IntKind.i64 x48), (Value.int IntKind.i64 x49)]))) ∧
(Calls Try.prog 78 #[(Value.pointer (some (⟨t, 0, none⟩ : Addr)))] w47 (fun (e50 : Ending) => (fun (w51 : World) => (∃ s52 : ByteArray, (∃ x53 : Int, ((e50 = (Ending.returned (Value.tuple #[(Value.string s52), (Value.int IntKind.i64 x53)]))) ∧
(Calls Try.prog 37 #[(Value.pointer (some (⟨t, 0, none⟩ : Addr)))] w51 (fun (e54 : Ending) => (fun (w55 : World) => (∃ o56 : Option Addr, (∃ n57 : Nat, (∃ n58 : Nat, ((e54 = (Ending.returned (Value.slice o56 n57 n58))) ∧
(Calls Try.prog 79 #[(Value.slice o56 n57 n58), (Value.slice said said_n said_c)] w55 (fun (e59 : Ending) => (fun (w60 : World) => (∃ b61 : Bool, ((e59 = (Ending.returned (Value.bool b61))) ∧
(((b61 = true) →
((((!(decide (x39 = x48))) = true) →
(R (Ending.returned (Value.bool false)) w60)) ∧
(((!(decide (x39 = x48))) = false) →
((((!(decide (x40 = x49))) = true) →
(R (Ending.returned (Value.bool false)) w60)) ∧
(((!(decide (x40 = x49))) = false) →
(∃ s67 : ByteArray, (((w60.cell? (⟨(hs w), 0, none⟩ : Addr)) = (some (Value.string s67))) ∧
((((!(Nf.strEq s52 s67)) = true) →
(R (Ending.returned (Value.bool false)) w60)) ∧
(((!(Nf.strEq s52 s67)) = false) →
(∃ x70 : Int, (((w60.cell? (⟨(hs w), 1, none⟩ : Addr)) = (some (Value.int IntKind.i64 x70))) ∧
((((!(decide (x53 = x70))) = true) →
(R (Ending.returned (Value.bool false)) w60)) ∧
(((!(decide (x53 = x70))) = false) →
((((decide (x10 ≥ 0)) = true) →
(((false = true) →
(R (Ending.returned (Value.bool false)) w60)) ∧
((false = false) →
((((decide (x10 < 0)) = true) →
(((false = true) →
(R (Ending.returned (Value.bool false)) w60)) ∧
((false = false) →
((((decide (x10 ≥ 0)) = true) →
(∀ w80 : World, ((w80 = w60.drew) →
(∃ s82 : ByteArray, (((w80.cell? (⟨(hs w20), 0, none⟩ : Addr)) = (some (Value.string s82))) ∧
(∃ o83 : Option Addr, (∃ n84 : Nat, (∃ n85 : Nat, (((w80.cell? (⟨(hs w20), 1, none⟩ : Addr)) = (some (Value.slice o83 n84 n85))) ∧
(∃ o86 : Option Addr, (∃ n87 : Nat, (∃ n88 : Nat, (((w80.cell? (⟨(hs w), 2, none⟩ : Addr)) = (some (Value.slice o86 n87 n88))) ∧
(∃ a89 : Addr, ((o86 = (some a89)) ∧
((((0 : Int) ≤ x10) ∧
(x10 < ((n87 : Nat) : Int))) ∧
(∃ s90 : ByteArray, (((w80.cell? (Addr.add a89 ((x10).toNat * 2))) = (some (Value.string s90))) ∧
(∃ o91 : Option Addr, (∃ n92 : Nat, (∃ n93 : Nat, (((w80.cell? (Addr.add (Addr.add a89 ((x10).toNat * 2)) 1)) = (some (Value.slice o91 n92 n93))) ∧
(Calls Try.prog 80 #[(Value.agg #[(Value.string s82), (Value.slice o83 n84 n85)]), (Value.agg #[(Value.string s90), (Value.slice o91 n92 n93)])] w80 (fun (e94 : Ending) => (fun (w95 : World) => (∃ b96 : Bool, ((e94 = (Ending.returned (Value.bool b96))) ∧
(((b96 = true) →
((((decide (x33 = 0)) = true) →
((((Nf.strEq s34 (ByteArray.mk #[])) = true) →
(R (Ending.returned (Value.bool true)) w95)) ∧
(((Nf.strEq s34 (ByteArray.mk #[])) = false) →
(R (Ending.returned (Value.bool false)) w95)))) ∧
(((decide (x33 = 0)) = false) →
(R (Ending.returned (Value.bool false)) w95)))) ∧
((b96 = false) →
(R (Ending.returned (Value.bool false)) w95)))))))))))))))))))))))))))))) ∧
(((decide (x10 ≥ 0)) = false) →
(∃ s104 : ByteArray, (((w60.cell? (⟨(hs w20), 0, none⟩ : Addr)) = (some (Value.string s104))) ∧
(∃ o105 : Option Addr, (∃ n106 : Nat, (∃ n107 : Nat, (((w60.cell? (⟨(hs w20), 1, none⟩ : Addr)) = (some (Value.slice o105 n106 n107))) ∧
(Calls Try.prog 80 #[(Value.agg #[(Value.string s104), (Value.slice o105 n106 n107)]), (Value.agg #[(Value.string (ByteArray.mk #[])), (Value.slice none 0 0)])] w60 (fun (e108 : Ending) => (fun (w109 : World) => (∃ b110 : Bool, ((e108 = (Ending.returned (Value.bool b110))) ∧
(((b110 = true) →
(∃ x112 : Int, (((w109.cell? (⟨(hs w9), 2, none⟩ : Addr)) = (some (Value.int IntKind.i64 x112))) ∧
((((decide (x33 = x112)) = true) →
(∃ s114 : ByteArray, (((w109.cell? (⟨(hs w9), 3, none⟩ : Addr)) = (some (Value.string s114))) ∧
((((Nf.strEq s34 s114) = true) →
(R (Ending.returned (Value.bool true)) w109)) ∧
(((Nf.strEq s34 s114) = false) →
(R (Ending.returned (Value.bool false)) w109)))))) ∧
(((decide (x33 = x112)) = false) →
(R (Ending.returned (Value.bool false)) w109)))))) ∧
((b110 = false) →
(R (Ending.returned (Value.bool false)) w109))))))))))))))))))) ∧
(((decide (x10 < 0)) = false) →
(((true = true) →
(R (Ending.returned (Value.bool false)) w60)) ∧
((true = false) →
((((decide (x10 ≥ 0)) = true) →
(∀ w123 : World, ((w123 = w60.drew) →
(∃ s125 : ByteArray, (((w123.cell? (⟨(hs w20), 0, none⟩ : Addr)) = (some (Value.string s125))) ∧
(∃ o126 : Option Addr, (∃ n127 : Nat, (∃ n128 : Nat, (((w123.cell? (⟨(hs w20), 1, none⟩ : Addr)) = (some (Value.slice o126 n127 n128))) ∧
(∃ o129 : Option Addr, (∃ n130 : Nat, (∃ n131 : Nat, (((w123.cell? (⟨(hs w), 2, none⟩ : Addr)) = (some (Value.slice o129 n130 n131))) ∧
(∃ a132 : Addr, ((o129 = (some a132)) ∧
((((0 : Int) ≤ x10) ∧
(x10 < ((n130 : Nat) : Int))) ∧
(∃ s133 : ByteArray, (((w123.cell? (Addr.add a132 ((x10).toNat * 2))) = (some (Value.string s133))) ∧
(∃ o134 : Option Addr, (∃ n135 : Nat, (∃ n136 : Nat, (((w123.cell? (Addr.add (Addr.add a132 ((x10).toNat * 2)) 1)) = (some (Value.slice o134 n135 n136))) ∧
(Calls Try.prog 80 #[(Value.agg #[(Value.string s125), (Value.slice o126 n127 n128)]), (Value.agg #[(Value.string s133), (Value.slice o134 n135 n136)])] w123 (fun (e137 : Ending) => (fun (w138 : World) => (∃ b139 : Bool, ((e137 = (Ending.returned (Value.bool b139))) ∧
(((b139 = true) →
((((decide (x33 = 0)) = true) →
((((Nf.strEq s34 (ByteArray.mk #[])) = true) →
(R (Ending.returned (Value.bool true)) w138)) ∧
(((Nf.strEq s34 (ByteArray.mk #[])) = false) →
(R (Ending.returned (Value.bool false)) w138)))) ∧
(((decide (x33 = 0)) = false) →
(R (Ending.returned (Value.bool false)) w138)))) ∧
((b139 = false) →
(R (Ending.returned (Value.bool false)) w138)))))))))))))))))))))))))))))) ∧
(((decide (x10 ≥ 0)) = false) →
(∃ s147 : ByteArray, (((w60.cell? (⟨(hs w20), 0, none⟩ : Addr)) = (some (Value.string s147))) ∧
(∃ o148 : Option Addr, (∃ n149 : Nat, (∃ n150 : Nat, (((w60.cell? (⟨(hs w20), 1, none⟩ : Addr)) = (some (Value.slice o148 n149 n150))) ∧
(Calls Try.prog 80 #[(Value.agg #[(Value.string s147), (Value.slice o148 n149 n150)]), (Value.agg #[(Value.string (ByteArray.mk #[])), (Value.slice none 0 0)])] w60 (fun (e151 : Ending) => (fun (w152 : World) => (∃ b153 : Bool, ((e151 = (Ending.returned (Value.bool b153))) ∧
(((b153 = true) →
(∃ x155 : Int, (((w152.cell? (⟨(hs w9), 2, none⟩ : Addr)) = (some (Value.int IntKind.i64 x155))) ∧
((((decide (x33 = x155)) = true) →
(∃ s157 : ByteArray, (((w152.cell? (⟨(hs w9), 3, none⟩ : Addr)) = (some (Value.string s157))) ∧
((((Nf.strEq s34 s157) = true) →
(R (Ending.returned (Value.bool true)) w152)) ∧
(((Nf.strEq s34 s157) = false) →
(R (Ending.returned (Value.bool false)) w152)))))) ∧
(((decide (x33 = x155)) = false) →
(R (Ending.returned (Value.bool false)) w152)))))) ∧
((b153 = false) →
(R (Ending.returned (Value.bool false)) w152))))))))))))))))))))))) ∧
(((decide (x10 ≥ 0)) = false) →
(((true = true) →
(R (Ending.returned (Value.bool false)) w60)) ∧
((true = false) →
((((decide (x10 < 0)) = true) →
(((false = true) →
(R (Ending.returned (Value.bool false)) w60)) ∧
((false = false) →
((((decide (x10 ≥ 0)) = true) →
(∀ w169 : World, ((w169 = w60.drew) →
(∃ s171 : ByteArray, (((w169.cell? (⟨(hs w20), 0, none⟩ : Addr)) = (some (Value.string s171))) ∧
(∃ o172 : Option Addr, (∃ n173 : Nat, (∃ n174 : Nat, (((w169.cell? (⟨(hs w20), 1, none⟩ : Addr)) = (some (Value.slice o172 n173 n174))) ∧
(∃ o175 : Option Addr, (∃ n176 : Nat, (∃ n177 : Nat, (((w169.cell? (⟨(hs w), 2, none⟩ : Addr)) = (some (Value.slice o175 n176 n177))) ∧
(∃ a178 : Addr, ((o175 = (some a178)) ∧
((((0 : Int) ≤ x10) ∧
(x10 < ((n176 : Nat) : Int))) ∧
(∃ s179 : ByteArray, (((w169.cell? (Addr.add a178 ((x10).toNat * 2))) = (some (Value.string s179))) ∧
(∃ o180 : Option Addr, (∃ n181 : Nat, (∃ n182 : Nat, (((w169.cell? (Addr.add (Addr.add a178 ((x10).toNat * 2)) 1)) = (some (Value.slice o180 n181 n182))) ∧
(Calls Try.prog 80 #[(Value.agg #[(Value.string s171), (Value.slice o172 n173 n174)]), (Value.agg #[(Value.string s179), (Value.slice o180 n181 n182)])] w169 (fun (e183 : Ending) => (fun (w184 : World) => (∃ b185 : Bool, ((e183 = (Ending.returned (Value.bool b185))) ∧
(((b185 = true) →
((((decide (x33 = 0)) = true) →
((((Nf.strEq s34 (ByteArray.mk #[])) = true) →
(R (Ending.returned (Value.bool true)) w184)) ∧
(((Nf.strEq s34 (ByteArray.mk #[])) = false) →
(R (Ending.returned (Value.bool false)) w184)))) ∧
(((decide (x33 = 0)) = false) →
(R (Ending.returned (Value.bool false)) w184)))) ∧
((b185 = false) →
(R (Ending.returned (Value.bool false)) w184)))))))))))))))))))))))))))))) ∧
(((decide (x10 ≥ 0)) = false) →
(∃ s193 : ByteArray, (((w60.cell? (⟨(hs w20), 0, none⟩ : Addr)) = (some (Value.string s193))) ∧
(∃ o194 : Option Addr, (∃ n195 : Nat, (∃ n196 : Nat, (((w60.cell? (⟨(hs w20), 1, none⟩ : Addr)) = (some (Value.slice o194 n195 n196))) ∧
(Calls Try.prog 80 #[(Value.agg #[(Value.string s193), (Value.slice o194 n195 n196)]), (Value.agg #[(Value.string (ByteArray.mk #[])), (Value.slice none 0 0)])] w60 (fun (e197 : Ending) => (fun (w198 : World) => (∃ b199 : Bool, ((e197 = (Ending.returned (Value.bool b199))) ∧
(((b199 = true) →
(∃ x201 : Int, (((w198.cell? (⟨(hs w9), 2, none⟩ : Addr)) = (some (Value.int IntKind.i64 x201))) ∧
((((decide (x33 = x201)) = true) →
(∃ s203 : ByteArray, (((w198.cell? (⟨(hs w9), 3, none⟩ : Addr)) = (some (Value.string s203))) ∧
((((Nf.strEq s34 s203) = true) →
(R (Ending.returned (Value.bool true)) w198)) ∧
(((Nf.strEq s34 s203) = false) →
(R (Ending.returned (Value.bool false)) w198)))))) ∧
(((decide (x33 = x201)) = false) →
(R (Ending.returned (Value.bool false)) w198)))))) ∧
((b199 = false) →
(R (Ending.returned (Value.bool false)) w198))))))))))))))))))) ∧
(((decide (x10 < 0)) = false) →
(((true = true) →
(R (Ending.returned (Value.bool false)) w60)) ∧
((true = false) →
((((decide (x10 ≥ 0)) = true) →
(∀ w212 : World, ((w212 = w60.drew) →
(∃ s214 : ByteArray, (((w212.cell? (⟨(hs w20), 0, none⟩ : Addr)) = (some (Value.string s214))) ∧
(∃ o215 : Option Addr, (∃ n216 : Nat, (∃ n217 : Nat, (((w212.cell? (⟨(hs w20), 1, none⟩ : Addr)) = (some (Value.slice o215 n216 n217))) ∧
(∃ o218 : Option Addr, (∃ n219 : Nat, (∃ n220 : Nat, (((w212.cell? (⟨(hs w), 2, none⟩ : Addr)) = (some (Value.slice o218 n219 n220))) ∧
(∃ a221 : Addr, ((o218 = (some a221)) ∧
((((0 : Int) ≤ x10) ∧
(x10 < ((n219 : Nat) : Int))) ∧
(∃ s222 : ByteArray, (((w212.cell? (Addr.add a221 ((x10).toNat * 2))) = (some (Value.string s222))) ∧
(∃ o223 : Option Addr, (∃ n224 : Nat, (∃ n225 : Nat, (((w212.cell? (Addr.add (Addr.add a221 ((x10).toNat * 2)) 1)) = (some (Value.slice o223 n224 n225))) ∧
(Calls Try.prog 80 #[(Value.agg #[(Value.string s214), (Value.slice o215 n216 n217)]), (Value.agg #[(Value.string s222), (Value.slice o223 n224 n225)])] w212 (fun (e226 : Ending) => (fun (w227 : World) => (∃ b228 : Bool, ((e226 = (Ending.returned (Value.bool b228))) ∧
(((b228 = true) →
((((decide (x33 = 0)) = true) →
((((Nf.strEq s34 (ByteArray.mk #[])) = true) →
(R (Ending.returned (Value.bool true)) w227)) ∧
(((Nf.strEq s34 (ByteArray.mk #[])) = false) →
(R (Ending.returned (Value.bool false)) w227)))) ∧
(((decide (x33 = 0)) = false) →
(R (Ending.returned (Value.bool false)) w227)))) ∧
((b228 = false) →
(R (Ending.returned (Value.bool false)) w227)))))))))))))))))))))))))))))) ∧
(((decide (x10 ≥ 0)) = false) →
(∃ s236 : ByteArray, (((w60.cell? (⟨(hs w20), 0, none⟩ : Addr)) = (some (Value.string s236))) ∧
(∃ o237 : Option Addr, (∃ n238 : Nat, (∃ n239 : Nat, (((w60.cell? (⟨(hs w20), 1, none⟩ : Addr)) = (some (Value.slice o237 n238 n239))) ∧
(Calls Try.prog 80 #[(Value.agg #[(Value.string s236), (Value.slice o237 n238 n239)]), (Value.agg #[(Value.string (ByteArray.mk #[])), (Value.slice none 0 0)])] w60 (fun (e240 : Ending) => (fun (w241 : World) => (∃ b242 : Bool, ((e240 = (Ending.returned (Value.bool b242))) ∧
(((b242 = true) →
(∃ x244 : Int, (((w241.cell? (⟨(hs w9), 2, none⟩ : Addr)) = (some (Value.int IntKind.i64 x244))) ∧
((((decide (x33 = x244)) = true) →
(∃ s246 : ByteArray, (((w241.cell? (⟨(hs w9), 3, none⟩ : Addr)) = (some (Value.string s246))) ∧
((((Nf.strEq s34 s246) = true) →
(R (Ending.returned (Value.bool true)) w241)) ∧
(((Nf.strEq s34 s246) = false) →
(R (Ending.returned (Value.bool false)) w241)))))) ∧
(((decide (x33 = x244)) = false) →
(R (Ending.returned (Value.bool false)) w241)))))) ∧
((b242 = false) →
(R (Ending.returned (Value.bool false)) w241))))))))))))))))))))))))))))))))))))) ∧
((b61 = false) →
(R (Ending.returned (Value.bool false)) w60)))))))))))))))))))))))))))))))))))))))))) ∧
((b35 = false) →
(Calls Try.prog 27 #[(Value.pointer (some (⟨t, 0, none⟩ : Addr)))] w32 (fun (e253 : Ending) => (fun (w254 : World) => (∃ x255 : Int, (∃ x256 : Int, ((e253 = (Ending.returned (Value.tuple #[(Value.int IntKind.i64 x255), (Value.int IntKind.i64 x256)]))) ∧
(∃ s257 : ByteArray, (((w254.cell? (⟨(hs w), 0, none⟩ : Addr)) = (some (Value.string s257))) ∧
(∃ x258 : Int, (((w254.cell? (⟨(hs w), 1, none⟩ : Addr)) = (some (Value.int IntKind.i64 x258))) ∧
(∃ o259 : Option Addr, (∃ n260 : Nat, (∃ n261 : Nat, (((w254.cell? (⟨(hs w), 2, none⟩ : Addr)) = (some (Value.slice o259 n260 n261))) ∧
(Calls Try.prog 77 #[(Value.agg #[(Value.string s257), (Value.int IntKind.i64 x258), (Value.slice o259 n260 n261)]), (Value.slice said said_n said_c)] w254 (fun (e262 : Ending) => (fun (w263 : World) => (∃ x264 : Int, (∃ x265 : Int, ((e262 = (Ending.returned (Value.tuple #[(Value.int IntKind.i64 x264), (Value.int IntKind.i64 x265)]))) ∧
(Calls Try.prog 78 #[(Value.pointer (some (⟨t, 0, none⟩ : Addr)))] w263 (fun (e266 : Ending) => (fun (w267 : World) => (∃ s268 : ByteArray, (∃ x269 : Int, ((e266 = (Ending.returned (Value.tuple #[(Value.string s268), (Value.int IntKind.i64 x269)]))) ∧
(Calls Try.prog 37 #[(Value.pointer (some (⟨t, 0, none⟩ : Addr)))] w267 (fun (e270 : Ending) => (fun (w271 : World) => (∃ o272 : Option Addr, (∃ n273 : Nat, (∃ n274 : Nat, ((e270 = (Ending.returned (Value.slice o272 n273 n274))) ∧
(Calls Try.prog 79 #[(Value.slice o272 n273 n274), (Value.slice said said_n said_c)] w271 (fun (e275 : Ending) => (fun (w276 : World) => (∃ b277 : Bool, ((e275 = (Ending.returned (Value.bool b277))) ∧
(((b277 = true) →
((((!(decide (x255 = x264))) = true) →
(R (Ending.returned (Value.bool false)) w276)) ∧
(((!(decide (x255 = x264))) = false) →
((((!(decide (x256 = x265))) = true) →
(R (Ending.returned (Value.bool false)) w276)) ∧
(((!(decide (x256 = x265))) = false) →
(∃ s283 : ByteArray, (((w276.cell? (⟨(hs w), 0, none⟩ : Addr)) = (some (Value.string s283))) ∧
((((!(Nf.strEq s268 s283)) = true) →
(R (Ending.returned (Value.bool false)) w276)) ∧
(((!(Nf.strEq s268 s283)) = false) →
(∃ x286 : Int, (((w276.cell? (⟨(hs w), 1, none⟩ : Addr)) = (some (Value.int IntKind.i64 x286))) ∧
((((!(decide (x269 = x286))) = true) →
(R (Ending.returned (Value.bool false)) w276)) ∧
(((!(decide (x269 = x286))) = false) →
((((decide (x10 ≥ 0)) = true) →
(((false = true) →
(R (Ending.returned (Value.bool false)) w276)) ∧
((false = false) →
((((decide (x10 < 0)) = true) →
(((true = true) →
(R (Ending.returned (Value.bool false)) w276)) ∧
((true = false) →
((((decide (x10 ≥ 0)) = true) →
(∀ w296 : World, ((w296 = w276.drew) →
(∃ s298 : ByteArray, (((w296.cell? (⟨(hs w20), 0, none⟩ : Addr)) = (some (Value.string s298))) ∧
(∃ o299 : Option Addr, (∃ n300 : Nat, (∃ n301 : Nat, (((w296.cell? (⟨(hs w20), 1, none⟩ : Addr)) = (some (Value.slice o299 n300 n301))) ∧
(∃ o302 : Option Addr, (∃ n303 : Nat, (∃ n304 : Nat, (((w296.cell? (⟨(hs w), 2, none⟩ : Addr)) = (some (Value.slice o302 n303 n304))) ∧
(∃ a305 : Addr, ((o302 = (some a305)) ∧
((((0 : Int) ≤ x10) ∧
(x10 < ((n303 : Nat) : Int))) ∧
(∃ s306 : ByteArray, (((w296.cell? (Addr.add a305 ((x10).toNat * 2))) = (some (Value.string s306))) ∧
(∃ o307 : Option Addr, (∃ n308 : Nat, (∃ n309 : Nat, (((w296.cell? (Addr.add (Addr.add a305 ((x10).toNat * 2)) 1)) = (some (Value.slice o307 n308 n309))) ∧
(Calls Try.prog 80 #[(Value.agg #[(Value.string s298), (Value.slice o299 n300 n301)]), (Value.agg #[(Value.string s306), (Value.slice o307 n308 n309)])] w296 (fun (e310 : Ending) => (fun (w311 : World) => (∃ b312 : Bool, ((e310 = (Ending.returned (Value.bool b312))) ∧
(((b312 = true) →
((((decide (x33 = 0)) = true) →
((((Nf.strEq s34 (ByteArray.mk #[])) = true) →
(R (Ending.returned (Value.bool true)) w311)) ∧
(((Nf.strEq s34 (ByteArray.mk #[])) = false) →
(R (Ending.returned (Value.bool false)) w311)))) ∧
(((decide (x33 = 0)) = false) →
(R (Ending.returned (Value.bool false)) w311)))) ∧
((b312 = false) →
(R (Ending.returned (Value.bool false)) w311)))))))))))))))))))))))))))))) ∧
(((decide (x10 ≥ 0)) = false) →
(∃ s320 : ByteArray, (((w276.cell? (⟨(hs w20), 0, none⟩ : Addr)) = (some (Value.string s320))) ∧
(∃ o321 : Option Addr, (∃ n322 : Nat, (∃ n323 : Nat, (((w276.cell? (⟨(hs w20), 1, none⟩ : Addr)) = (some (Value.slice o321 n322 n323))) ∧
(Calls Try.prog 80 #[(Value.agg #[(Value.string s320), (Value.slice o321 n322 n323)]), (Value.agg #[(Value.string (ByteArray.mk #[])), (Value.slice none 0 0)])] w276 (fun (e324 : Ending) => (fun (w325 : World) => (∃ b326 : Bool, ((e324 = (Ending.returned (Value.bool b326))) ∧
(((b326 = true) →
(∃ x328 : Int, (((w325.cell? (⟨(hs w9), 2, none⟩ : Addr)) = (some (Value.int IntKind.i64 x328))) ∧
((((decide (x33 = x328)) = true) →
(∃ s330 : ByteArray, (((w325.cell? (⟨(hs w9), 3, none⟩ : Addr)) = (some (Value.string s330))) ∧
((((Nf.strEq s34 s330) = true) →
(R (Ending.returned (Value.bool true)) w325)) ∧
(((Nf.strEq s34 s330) = false) →
(R (Ending.returned (Value.bool false)) w325)))))) ∧
(((decide (x33 = x328)) = false) →
(R (Ending.returned (Value.bool false)) w325)))))) ∧
((b326 = false) →
(R (Ending.returned (Value.bool false)) w325))))))))))))))))))) ∧
(((decide (x10 < 0)) = false) →
(((false = true) →
(R (Ending.returned (Value.bool false)) w276)) ∧
((false = false) →
((((decide (x10 ≥ 0)) = true) →
(∀ w339 : World, ((w339 = w276.drew) →
(∃ s341 : ByteArray, (((w339.cell? (⟨(hs w20), 0, none⟩ : Addr)) = (some (Value.string s341))) ∧
(∃ o342 : Option Addr, (∃ n343 : Nat, (∃ n344 : Nat, (((w339.cell? (⟨(hs w20), 1, none⟩ : Addr)) = (some (Value.slice o342 n343 n344))) ∧
(∃ o345 : Option Addr, (∃ n346 : Nat, (∃ n347 : Nat, (((w339.cell? (⟨(hs w), 2, none⟩ : Addr)) = (some (Value.slice o345 n346 n347))) ∧
(∃ a348 : Addr, ((o345 = (some a348)) ∧
((((0 : Int) ≤ x10) ∧
(x10 < ((n346 : Nat) : Int))) ∧
(∃ s349 : ByteArray, (((w339.cell? (Addr.add a348 ((x10).toNat * 2))) = (some (Value.string s349))) ∧
(∃ o350 : Option Addr, (∃ n351 : Nat, (∃ n352 : Nat, (((w339.cell? (Addr.add (Addr.add a348 ((x10).toNat * 2)) 1)) = (some (Value.slice o350 n351 n352))) ∧
(Calls Try.prog 80 #[(Value.agg #[(Value.string s341), (Value.slice o342 n343 n344)]), (Value.agg #[(Value.string s349), (Value.slice o350 n351 n352)])] w339 (fun (e353 : Ending) => (fun (w354 : World) => (∃ b355 : Bool, ((e353 = (Ending.returned (Value.bool b355))) ∧
(((b355 = true) →
((((decide (x33 = 0)) = true) →
((((Nf.strEq s34 (ByteArray.mk #[])) = true) →
(R (Ending.returned (Value.bool true)) w354)) ∧
(((Nf.strEq s34 (ByteArray.mk #[])) = false) →
(R (Ending.returned (Value.bool false)) w354)))) ∧
(((decide (x33 = 0)) = false) →
(R (Ending.returned (Value.bool false)) w354)))) ∧
((b355 = false) →
(R (Ending.returned (Value.bool false)) w354)))))))))))))))))))))))))))))) ∧
(((decide (x10 ≥ 0)) = false) →
(∃ s363 : ByteArray, (((w276.cell? (⟨(hs w20), 0, none⟩ : Addr)) = (some (Value.string s363))) ∧
(∃ o364 : Option Addr, (∃ n365 : Nat, (∃ n366 : Nat, (((w276.cell? (⟨(hs w20), 1, none⟩ : Addr)) = (some (Value.slice o364 n365 n366))) ∧
(Calls Try.prog 80 #[(Value.agg #[(Value.string s363), (Value.slice o364 n365 n366)]), (Value.agg #[(Value.string (ByteArray.mk #[])), (Value.slice none 0 0)])] w276 (fun (e367 : Ending) => (fun (w368 : World) => (∃ b369 : Bool, ((e367 = (Ending.returned (Value.bool b369))) ∧
(((b369 = true) →
(∃ x371 : Int, (((w368.cell? (⟨(hs w9), 2, none⟩ : Addr)) = (some (Value.int IntKind.i64 x371))) ∧
((((decide (x33 = x371)) = true) →
(∃ s373 : ByteArray, (((w368.cell? (⟨(hs w9), 3, none⟩ : Addr)) = (some (Value.string s373))) ∧
((((Nf.strEq s34 s373) = true) →
(R (Ending.returned (Value.bool true)) w368)) ∧
(((Nf.strEq s34 s373) = false) →
(R (Ending.returned (Value.bool false)) w368)))))) ∧
(((decide (x33 = x371)) = false) →
(R (Ending.returned (Value.bool false)) w368)))))) ∧
((b369 = false) →
(R (Ending.returned (Value.bool false)) w368))))))))))))))))))))))) ∧
(((decide (x10 ≥ 0)) = false) →
(((true = true) →
(R (Ending.returned (Value.bool false)) w276)) ∧
((true = false) →
((((decide (x10 < 0)) = true) →
(((true = true) →
(R (Ending.returned (Value.bool false)) w276)) ∧
((true = false) →
((((decide (x10 ≥ 0)) = true) →
(∀ w385 : World, ((w385 = w276.drew) →
(∃ s387 : ByteArray, (((w385.cell? (⟨(hs w20), 0, none⟩ : Addr)) = (some (Value.string s387))) ∧
(∃ o388 : Option Addr, (∃ n389 : Nat, (∃ n390 : Nat, (((w385.cell? (⟨(hs w20), 1, none⟩ : Addr)) = (some (Value.slice o388 n389 n390))) ∧
(∃ o391 : Option Addr, (∃ n392 : Nat, (∃ n393 : Nat, (((w385.cell? (⟨(hs w), 2, none⟩ : Addr)) = (some (Value.slice o391 n392 n393))) ∧
(∃ a394 : Addr, ((o391 = (some a394)) ∧
((((0 : Int) ≤ x10) ∧
(x10 < ((n392 : Nat) : Int))) ∧
(∃ s395 : ByteArray, (((w385.cell? (Addr.add a394 ((x10).toNat * 2))) = (some (Value.string s395))) ∧
(∃ o396 : Option Addr, (∃ n397 : Nat, (∃ n398 : Nat, (((w385.cell? (Addr.add (Addr.add a394 ((x10).toNat * 2)) 1)) = (some (Value.slice o396 n397 n398))) ∧
(Calls Try.prog 80 #[(Value.agg #[(Value.string s387), (Value.slice o388 n389 n390)]), (Value.agg #[(Value.string s395), (Value.slice o396 n397 n398)])] w385 (fun (e399 : Ending) => (fun (w400 : World) => (∃ b401 : Bool, ((e399 = (Ending.returned (Value.bool b401))) ∧
(((b401 = true) →
((((decide (x33 = 0)) = true) →
((((Nf.strEq s34 (ByteArray.mk #[])) = true) →
(R (Ending.returned (Value.bool true)) w400)) ∧
(((Nf.strEq s34 (ByteArray.mk #[])) = false) →
(R (Ending.returned (Value.bool false)) w400)))) ∧
(((decide (x33 = 0)) = false) →
(R (Ending.returned (Value.bool false)) w400)))) ∧
((b401 = false) →
(R (Ending.returned (Value.bool false)) w400)))))))))))))))))))))))))))))) ∧
(((decide (x10 ≥ 0)) = false) →
(∃ s409 : ByteArray, (((w276.cell? (⟨(hs w20), 0, none⟩ : Addr)) = (some (Value.string s409))) ∧
(∃ o410 : Option Addr, (∃ n411 : Nat, (∃ n412 : Nat, (((w276.cell? (⟨(hs w20), 1, none⟩ : Addr)) = (some (Value.slice o410 n411 n412))) ∧
(Calls Try.prog 80 #[(Value.agg #[(Value.string s409), (Value.slice o410 n411 n412)]), (Value.agg #[(Value.string (ByteArray.mk #[])), (Value.slice none 0 0)])] w276 (fun (e413 : Ending) => (fun (w414 : World) => (∃ b415 : Bool, ((e413 = (Ending.returned (Value.bool b415))) ∧
(((b415 = true) →
(∃ x417 : Int, (((w414.cell? (⟨(hs w9), 2, none⟩ : Addr)) = (some (Value.int IntKind.i64 x417))) ∧
((((decide (x33 = x417)) = true) →
(∃ s419 : ByteArray, (((w414.cell? (⟨(hs w9), 3, none⟩ : Addr)) = (some (Value.string s419))) ∧
((((Nf.strEq s34 s419) = true) →
(R (Ending.returned (Value.bool true)) w414)) ∧
(((Nf.strEq s34 s419) = false) →
(R (Ending.returned (Value.bool false)) w414)))))) ∧
(((decide (x33 = x417)) = false) →
(R (Ending.returned (Value.bool false)) w414)))))) ∧
((b415 = false) →
(R (Ending.returned (Value.bool false)) w414))))))))))))))))))) ∧
(((decide (x10 < 0)) = false) →
(((false = true) →
(R (Ending.returned (Value.bool false)) w276)) ∧
((false = false) →
((((decide (x10 ≥ 0)) = true) →
(∀ w428 : World, ((w428 = w276.drew) →
(∃ s430 : ByteArray, (((w428.cell? (⟨(hs w20), 0, none⟩ : Addr)) = (some (Value.string s430))) ∧
(∃ o431 : Option Addr, (∃ n432 : Nat, (∃ n433 : Nat, (((w428.cell? (⟨(hs w20), 1, none⟩ : Addr)) = (some (Value.slice o431 n432 n433))) ∧
(∃ o434 : Option Addr, (∃ n435 : Nat, (∃ n436 : Nat, (((w428.cell? (⟨(hs w), 2, none⟩ : Addr)) = (some (Value.slice o434 n435 n436))) ∧
(∃ a437 : Addr, ((o434 = (some a437)) ∧
((((0 : Int) ≤ x10) ∧
(x10 < ((n435 : Nat) : Int))) ∧
(∃ s438 : ByteArray, (((w428.cell? (Addr.add a437 ((x10).toNat * 2))) = (some (Value.string s438))) ∧
(∃ o439 : Option Addr, (∃ n440 : Nat, (∃ n441 : Nat, (((w428.cell? (Addr.add (Addr.add a437 ((x10).toNat * 2)) 1)) = (some (Value.slice o439 n440 n441))) ∧
(Calls Try.prog 80 #[(Value.agg #[(Value.string s430), (Value.slice o431 n432 n433)]), (Value.agg #[(Value.string s438), (Value.slice o439 n440 n441)])] w428 (fun (e442 : Ending) => (fun (w443 : World) => (∃ b444 : Bool, ((e442 = (Ending.returned (Value.bool b444))) ∧
(((b444 = true) →
((((decide (x33 = 0)) = true) →
((((Nf.strEq s34 (ByteArray.mk #[])) = true) →
(R (Ending.returned (Value.bool true)) w443)) ∧
(((Nf.strEq s34 (ByteArray.mk #[])) = false) →
(R (Ending.returned (Value.bool false)) w443)))) ∧
(((decide (x33 = 0)) = false) →
(R (Ending.returned (Value.bool false)) w443)))) ∧
((b444 = false) →
(R (Ending.returned (Value.bool false)) w443)))))))))))))))))))))))))))))) ∧
(((decide (x10 ≥ 0)) = false) →
(∃ s452 : ByteArray, (((w276.cell? (⟨(hs w20), 0, none⟩ : Addr)) = (some (Value.string s452))) ∧
(∃ o453 : Option Addr, (∃ n454 : Nat, (∃ n455 : Nat, (((w276.cell? (⟨(hs w20), 1, none⟩ : Addr)) = (some (Value.slice o453 n454 n455))) ∧
(Calls Try.prog 80 #[(Value.agg #[(Value.string s452), (Value.slice o453 n454 n455)]), (Value.agg #[(Value.string (ByteArray.mk #[])), (Value.slice none 0 0)])] w276 (fun (e456 : Ending) => (fun (w457 : World) => (∃ b458 : Bool, ((e456 = (Ending.returned (Value.bool b458))) ∧
(((b458 = true) →
(∃ x460 : Int, (((w457.cell? (⟨(hs w9), 2, none⟩ : Addr)) = (some (Value.int IntKind.i64 x460))) ∧
((((decide (x33 = x460)) = true) →
(∃ s462 : ByteArray, (((w457.cell? (⟨(hs w9), 3, none⟩ : Addr)) = (some (Value.string s462))) ∧
((((Nf.strEq s34 s462) = true) →
(R (Ending.returned (Value.bool true)) w457)) ∧
(((Nf.strEq s34 s462) = false) →
(R (Ending.returned (Value.bool false)) w457)))))) ∧
(((decide (x33 = x460)) = false) →
(R (Ending.returned (Value.bool false)) w457)))))) ∧
((b458 = false) →
(R (Ending.returned (Value.bool false)) w457))))))))))))))))))))))))))))))))))))) ∧
((b277 = false) →
(R (Ending.returned (Value.bool false)) w276)))))))))))))))))))))))))))))))))))))))))))))))))))))))) ∧
((b25 = false) →
(∀ w469 : World, ((w469 = (w20.alloc (Obj.cells #[(Value.string (ByteArray.mk #[])), (Value.slice none 0 0)] 38 (0, 0)))) →
((Nf.There w469 (⟨(hs w20), 0, none⟩ : Addr) 2) ∧
(∀ w471 : World, ((w471 = (Nf.setCells w469 (⟨(hs w20), 0, none⟩ : Addr) [(Value.string s21), (Value.slice o22 n23 n24)] 0)) →
(Calls Try.prog 29 #[(Value.pointer (some (⟨t, 0, none⟩ : Addr)))] w471 (fun (e473 : Ending) => (fun (w474 : World) => (∃ x475 : Int, (∃ s476 : ByteArray, (∃ b477 : Bool, ((e473 = (Ending.returned (Value.tuple #[(Value.int IntKind.i64 x475), (Value.string s476), (Value.bool b477)]))) ∧
(((b477 = true) →
(Calls Try.prog 27 #[(Value.pointer (some (⟨t, 0, none⟩ : Addr)))] w474 (fun (e479 : Ending) => (fun (w480 : World) => (∃ x481 : Int, (∃ x482 : Int, ((e479 = (Ending.returned (Value.tuple #[(Value.int IntKind.i64 x481), (Value.int IntKind.i64 x482)]))) ∧
(∃ s483 : ByteArray, (((w480.cell? (⟨(hs w), 0, none⟩ : Addr)) = (some (Value.string s483))) ∧
(∃ x484 : Int, (((w480.cell? (⟨(hs w), 1, none⟩ : Addr)) = (some (Value.int IntKind.i64 x484))) ∧
(∃ o485 : Option Addr, (∃ n486 : Nat, (∃ n487 : Nat, (((w480.cell? (⟨(hs w), 2, none⟩ : Addr)) = (some (Value.slice o485 n486 n487))) ∧
(Calls Try.prog 77 #[(Value.agg #[(Value.string s483), (Value.int IntKind.i64 x484), (Value.slice o485 n486 n487)]), (Value.slice said said_n said_c)] w480 (fun (e488 : Ending) => (fun (w489 : World) => (∃ x490 : Int, (∃ x491 : Int, ((e488 = (Ending.returned (Value.tuple #[(Value.int IntKind.i64 x490), (Value.int IntKind.i64 x491)]))) ∧
(Calls Try.prog 78 #[(Value.pointer (some (⟨t, 0, none⟩ : Addr)))] w489 (fun (e492 : Ending) => (fun (w493 : World) => (∃ s494 : ByteArray, (∃ x495 : Int, ((e492 = (Ending.returned (Value.tuple #[(Value.string s494), (Value.int IntKind.i64 x495)]))) ∧
(Calls Try.prog 37 #[(Value.pointer (some (⟨t, 0, none⟩ : Addr)))] w493 (fun (e496 : Ending) => (fun (w497 : World) => (∃ o498 : Option Addr, (∃ n499 : Nat, (∃ n500 : Nat, ((e496 = (Ending.returned (Value.slice o498 n499 n500))) ∧
(Calls Try.prog 79 #[(Value.slice o498 n499 n500), (Value.slice said said_n said_c)] w497 (fun (e501 : Ending) => (fun (w502 : World) => (∃ b503 : Bool, ((e501 = (Ending.returned (Value.bool b503))) ∧
(((b503 = true) →
((((!(decide (x481 = x490))) = true) →
(R (Ending.returned (Value.bool false)) w502)) ∧
(((!(decide (x481 = x490))) = false) →
((((!(decide (x482 = x491))) = true) →
(R (Ending.returned (Value.bool false)) w502)) ∧
(((!(decide (x482 = x491))) = false) →
(∃ s509 : ByteArray, (((w502.cell? (⟨(hs w), 0, none⟩ : Addr)) = (some (Value.string s509))) ∧
((((!(Nf.strEq s494 s509)) = true) →
(R (Ending.returned (Value.bool false)) w502)) ∧
(((!(Nf.strEq s494 s509)) = false) →
(∃ x512 : Int, (((w502.cell? (⟨(hs w), 1, none⟩ : Addr)) = (some (Value.int IntKind.i64 x512))) ∧
((((!(decide (x495 = x512))) = true) →
(R (Ending.returned (Value.bool false)) w502)) ∧
(((!(decide (x495 = x512))) = false) →
((((decide (x10 ≥ 0)) = true) →
(((true = true) →
(R (Ending.returned (Value.bool false)) w502)) ∧
((true = false) →
((((decide (x10 < 0)) = true) →
(((false = true) →
(R (Ending.returned (Value.bool false)) w502)) ∧
((false = false) →
((((decide (x10 ≥ 0)) = true) →
(∀ w522 : World, ((w522 = w502.drew) →
(∃ s524 : ByteArray, (((w522.cell? (⟨(hs w20), 0, none⟩ : Addr)) = (some (Value.string s524))) ∧
(∃ o525 : Option Addr, (∃ n526 : Nat, (∃ n527 : Nat, (((w522.cell? (⟨(hs w20), 1, none⟩ : Addr)) = (some (Value.slice o525 n526 n527))) ∧
(∃ o528 : Option Addr, (∃ n529 : Nat, (∃ n530 : Nat, (((w522.cell? (⟨(hs w), 2, none⟩ : Addr)) = (some (Value.slice o528 n529 n530))) ∧
(∃ a531 : Addr, ((o528 = (some a531)) ∧
((((0 : Int) ≤ x10) ∧
(x10 < ((n529 : Nat) : Int))) ∧
(∃ s532 : ByteArray, (((w522.cell? (Addr.add a531 ((x10).toNat * 2))) = (some (Value.string s532))) ∧
(∃ o533 : Option Addr, (∃ n534 : Nat, (∃ n535 : Nat, (((w522.cell? (Addr.add (Addr.add a531 ((x10).toNat * 2)) 1)) = (some (Value.slice o533 n534 n535))) ∧
(Calls Try.prog 80 #[(Value.agg #[(Value.string s524), (Value.slice o525 n526 n527)]), (Value.agg #[(Value.string s532), (Value.slice o533 n534 n535)])] w522 (fun (e536 : Ending) => (fun (w537 : World) => (∃ b538 : Bool, ((e536 = (Ending.returned (Value.bool b538))) ∧
(((b538 = true) →
((((decide (x475 = 0)) = true) →
((((Nf.strEq s476 (ByteArray.mk #[])) = true) →
(R (Ending.returned (Value.bool true)) w537)) ∧
(((Nf.strEq s476 (ByteArray.mk #[])) = false) →
(R (Ending.returned (Value.bool false)) w537)))) ∧
(((decide (x475 = 0)) = false) →
(R (Ending.returned (Value.bool false)) w537)))) ∧
((b538 = false) →
(R (Ending.returned (Value.bool false)) w537)))))))))))))))))))))))))))))) ∧
(((decide (x10 ≥ 0)) = false) →
(∃ s546 : ByteArray, (((w502.cell? (⟨(hs w20), 0, none⟩ : Addr)) = (some (Value.string s546))) ∧
(∃ o547 : Option Addr, (∃ n548 : Nat, (∃ n549 : Nat, (((w502.cell? (⟨(hs w20), 1, none⟩ : Addr)) = (some (Value.slice o547 n548 n549))) ∧
(Calls Try.prog 80 #[(Value.agg #[(Value.string s546), (Value.slice o547 n548 n549)]), (Value.agg #[(Value.string (ByteArray.mk #[])), (Value.slice none 0 0)])] w502 (fun (e550 : Ending) => (fun (w551 : World) => (∃ b552 : Bool, ((e550 = (Ending.returned (Value.bool b552))) ∧
(((b552 = true) →
(∃ x554 : Int, (((w551.cell? (⟨(hs w9), 2, none⟩ : Addr)) = (some (Value.int IntKind.i64 x554))) ∧
((((decide (x475 = x554)) = true) →
(∃ s556 : ByteArray, (((w551.cell? (⟨(hs w9), 3, none⟩ : Addr)) = (some (Value.string s556))) ∧
((((Nf.strEq s476 s556) = true) →
(R (Ending.returned (Value.bool true)) w551)) ∧
(((Nf.strEq s476 s556) = false) →
(R (Ending.returned (Value.bool false)) w551)))))) ∧
(((decide (x475 = x554)) = false) →
(R (Ending.returned (Value.bool false)) w551)))))) ∧
((b552 = false) →
(R (Ending.returned (Value.bool false)) w551))))))))))))))))))) ∧
(((decide (x10 < 0)) = false) →
(((true = true) →
(R (Ending.returned (Value.bool false)) w502)) ∧
((true = false) →
((((decide (x10 ≥ 0)) = true) →
(∀ w565 : World, ((w565 = w502.drew) →
(∃ s567 : ByteArray, (((w565.cell? (⟨(hs w20), 0, none⟩ : Addr)) = (some (Value.string s567))) ∧
(∃ o568 : Option Addr, (∃ n569 : Nat, (∃ n570 : Nat, (((w565.cell? (⟨(hs w20), 1, none⟩ : Addr)) = (some (Value.slice o568 n569 n570))) ∧
(∃ o571 : Option Addr, (∃ n572 : Nat, (∃ n573 : Nat, (((w565.cell? (⟨(hs w), 2, none⟩ : Addr)) = (some (Value.slice o571 n572 n573))) ∧
(∃ a574 : Addr, ((o571 = (some a574)) ∧
((((0 : Int) ≤ x10) ∧
(x10 < ((n572 : Nat) : Int))) ∧
(∃ s575 : ByteArray, (((w565.cell? (Addr.add a574 ((x10).toNat * 2))) = (some (Value.string s575))) ∧
(∃ o576 : Option Addr, (∃ n577 : Nat, (∃ n578 : Nat, (((w565.cell? (Addr.add (Addr.add a574 ((x10).toNat * 2)) 1)) = (some (Value.slice o576 n577 n578))) ∧
(Calls Try.prog 80 #[(Value.agg #[(Value.string s567), (Value.slice o568 n569 n570)]), (Value.agg #[(Value.string s575), (Value.slice o576 n577 n578)])] w565 (fun (e579 : Ending) => (fun (w580 : World) => (∃ b581 : Bool, ((e579 = (Ending.returned (Value.bool b581))) ∧
(((b581 = true) →
((((decide (x475 = 0)) = true) →
((((Nf.strEq s476 (ByteArray.mk #[])) = true) →
(R (Ending.returned (Value.bool true)) w580)) ∧
(((Nf.strEq s476 (ByteArray.mk #[])) = false) →
(R (Ending.returned (Value.bool false)) w580)))) ∧
(((decide (x475 = 0)) = false) →
(R (Ending.returned (Value.bool false)) w580)))) ∧
((b581 = false) →
(R (Ending.returned (Value.bool false)) w580)))))))))))))))))))))))))))))) ∧
(((decide (x10 ≥ 0)) = false) →
(∃ s589 : ByteArray, (((w502.cell? (⟨(hs w20), 0, none⟩ : Addr)) = (some (Value.string s589))) ∧
(∃ o590 : Option Addr, (∃ n591 : Nat, (∃ n592 : Nat, (((w502.cell? (⟨(hs w20), 1, none⟩ : Addr)) = (some (Value.slice o590 n591 n592))) ∧
(Calls Try.prog 80 #[(Value.agg #[(Value.string s589), (Value.slice o590 n591 n592)]), (Value.agg #[(Value.string (ByteArray.mk #[])), (Value.slice none 0 0)])] w502 (fun (e593 : Ending) => (fun (w594 : World) => (∃ b595 : Bool, ((e593 = (Ending.returned (Value.bool b595))) ∧
(((b595 = true) →
(∃ x597 : Int, (((w594.cell? (⟨(hs w9), 2, none⟩ : Addr)) = (some (Value.int IntKind.i64 x597))) ∧
((((decide (x475 = x597)) = true) →
(∃ s599 : ByteArray, (((w594.cell? (⟨(hs w9), 3, none⟩ : Addr)) = (some (Value.string s599))) ∧
((((Nf.strEq s476 s599) = true) →
(R (Ending.returned (Value.bool true)) w594)) ∧
(((Nf.strEq s476 s599) = false) →
(R (Ending.returned (Value.bool false)) w594)))))) ∧
(((decide (x475 = x597)) = false) →
(R (Ending.returned (Value.bool false)) w594)))))) ∧
((b595 = false) →
(R (Ending.returned (Value.bool false)) w594))))))))))))))))))))))) ∧
(((decide (x10 ≥ 0)) = false) →
(((false = true) →
(R (Ending.returned (Value.bool false)) w502)) ∧
((false = false) →
((((decide (x10 < 0)) = true) →
(((false = true) →
(R (Ending.returned (Value.bool false)) w502)) ∧
((false = false) →
((((decide (x10 ≥ 0)) = true) →
(∀ w611 : World, ((w611 = w502.drew) →
(∃ s613 : ByteArray, (((w611.cell? (⟨(hs w20), 0, none⟩ : Addr)) = (some (Value.string s613))) ∧
(∃ o614 : Option Addr, (∃ n615 : Nat, (∃ n616 : Nat, (((w611.cell? (⟨(hs w20), 1, none⟩ : Addr)) = (some (Value.slice o614 n615 n616))) ∧
(∃ o617 : Option Addr, (∃ n618 : Nat, (∃ n619 : Nat, (((w611.cell? (⟨(hs w), 2, none⟩ : Addr)) = (some (Value.slice o617 n618 n619))) ∧
(∃ a620 : Addr, ((o617 = (some a620)) ∧
((((0 : Int) ≤ x10) ∧
(x10 < ((n618 : Nat) : Int))) ∧
(∃ s621 : ByteArray, (((w611.cell? (Addr.add a620 ((x10).toNat * 2))) = (some (Value.string s621))) ∧
(∃ o622 : Option Addr, (∃ n623 : Nat, (∃ n624 : Nat, (((w611.cell? (Addr.add (Addr.add a620 ((x10).toNat * 2)) 1)) = (some (Value.slice o622 n623 n624))) ∧
(Calls Try.prog 80 #[(Value.agg #[(Value.string s613), (Value.slice o614 n615 n616)]), (Value.agg #[(Value.string s621), (Value.slice o622 n623 n624)])] w611 (fun (e625 : Ending) => (fun (w626 : World) => (∃ b627 : Bool, ((e625 = (Ending.returned (Value.bool b627))) ∧
(((b627 = true) →
((((decide (x475 = 0)) = true) →
((((Nf.strEq s476 (ByteArray.mk #[])) = true) →
(R (Ending.returned (Value.bool true)) w626)) ∧
(((Nf.strEq s476 (ByteArray.mk #[])) = false) →
(R (Ending.returned (Value.bool false)) w626)))) ∧
(((decide (x475 = 0)) = false) →
(R (Ending.returned (Value.bool false)) w626)))) ∧
((b627 = false) →
(R (Ending.returned (Value.bool false)) w626)))))))))))))))))))))))))))))) ∧
(((decide (x10 ≥ 0)) = false) →
(∃ s635 : ByteArray, (((w502.cell? (⟨(hs w20), 0, none⟩ : Addr)) = (some (Value.string s635))) ∧
(∃ o636 : Option Addr, (∃ n637 : Nat, (∃ n638 : Nat, (((w502.cell? (⟨(hs w20), 1, none⟩ : Addr)) = (some (Value.slice o636 n637 n638))) ∧
(Calls Try.prog 80 #[(Value.agg #[(Value.string s635), (Value.slice o636 n637 n638)]), (Value.agg #[(Value.string (ByteArray.mk #[])), (Value.slice none 0 0)])] w502 (fun (e639 : Ending) => (fun (w640 : World) => (∃ b641 : Bool, ((e639 = (Ending.returned (Value.bool b641))) ∧
(((b641 = true) →
(∃ x643 : Int, (((w640.cell? (⟨(hs w9), 2, none⟩ : Addr)) = (some (Value.int IntKind.i64 x643))) ∧
((((decide (x475 = x643)) = true) →
(∃ s645 : ByteArray, (((w640.cell? (⟨(hs w9), 3, none⟩ : Addr)) = (some (Value.string s645))) ∧
((((Nf.strEq s476 s645) = true) →
(R (Ending.returned (Value.bool true)) w640)) ∧
(((Nf.strEq s476 s645) = false) →
(R (Ending.returned (Value.bool false)) w640)))))) ∧
(((decide (x475 = x643)) = false) →
(R (Ending.returned (Value.bool false)) w640)))))) ∧
((b641 = false) →
(R (Ending.returned (Value.bool false)) w640))))))))))))))))))) ∧
(((decide (x10 < 0)) = false) →
(((true = true) →
(R (Ending.returned (Value.bool false)) w502)) ∧
((true = false) →
((((decide (x10 ≥ 0)) = true) →
(∀ w654 : World, ((w654 = w502.drew) →
(∃ s656 : ByteArray, (((w654.cell? (⟨(hs w20), 0, none⟩ : Addr)) = (some (Value.string s656))) ∧
(∃ o657 : Option Addr, (∃ n658 : Nat, (∃ n659 : Nat, (((w654.cell? (⟨(hs w20), 1, none⟩ : Addr)) = (some (Value.slice o657 n658 n659))) ∧
(∃ o660 : Option Addr, (∃ n661 : Nat, (∃ n662 : Nat, (((w654.cell? (⟨(hs w), 2, none⟩ : Addr)) = (some (Value.slice o660 n661 n662))) ∧
(∃ a663 : Addr, ((o660 = (some a663)) ∧
((((0 : Int) ≤ x10) ∧
(x10 < ((n661 : Nat) : Int))) ∧
(∃ s664 : ByteArray, (((w654.cell? (Addr.add a663 ((x10).toNat * 2))) = (some (Value.string s664))) ∧
(∃ o665 : Option Addr, (∃ n666 : Nat, (∃ n667 : Nat, (((w654.cell? (Addr.add (Addr.add a663 ((x10).toNat * 2)) 1)) = (some (Value.slice o665 n666 n667))) ∧
(Calls Try.prog 80 #[(Value.agg #[(Value.string s656), (Value.slice o657 n658 n659)]), (Value.agg #[(Value.string s664), (Value.slice o665 n666 n667)])] w654 (fun (e668 : Ending) => (fun (w669 : World) => (∃ b670 : Bool, ((e668 = (Ending.returned (Value.bool b670))) ∧
(((b670 = true) →
((((decide (x475 = 0)) = true) →
((((Nf.strEq s476 (ByteArray.mk #[])) = true) →
(R (Ending.returned (Value.bool true)) w669)) ∧
(((Nf.strEq s476 (ByteArray.mk #[])) = false) →
(R (Ending.returned (Value.bool false)) w669)))) ∧
(((decide (x475 = 0)) = false) →
(R (Ending.returned (Value.bool false)) w669)))) ∧
((b670 = false) →
(R (Ending.returned (Value.bool false)) w669)))))))))))))))))))))))))))))) ∧
(((decide (x10 ≥ 0)) = false) →
(∃ s678 : ByteArray, (((w502.cell? (⟨(hs w20), 0, none⟩ : Addr)) = (some (Value.string s678))) ∧
(∃ o679 : Option Addr, (∃ n680 : Nat, (∃ n681 : Nat, (((w502.cell? (⟨(hs w20), 1, none⟩ : Addr)) = (some (Value.slice o679 n680 n681))) ∧
(Calls Try.prog 80 #[(Value.agg #[(Value.string s678), (Value.slice o679 n680 n681)]), (Value.agg #[(Value.string (ByteArray.mk #[])), (Value.slice none 0 0)])] w502 (fun (e682 : Ending) => (fun (w683 : World) => (∃ b684 : Bool, ((e682 = (Ending.returned (Value.bool b684))) ∧
(((b684 = true) →
(∃ x686 : Int, (((w683.cell? (⟨(hs w9), 2, none⟩ : Addr)) = (some (Value.int IntKind.i64 x686))) ∧
((((decide (x475 = x686)) = true) →
(∃ s688 : ByteArray, (((w683.cell? (⟨(hs w9), 3, none⟩ : Addr)) = (some (Value.string s688))) ∧
((((Nf.strEq s476 s688) = true) →
(R (Ending.returned (Value.bool true)) w683)) ∧
(((Nf.strEq s476 s688) = false) →
(R (Ending.returned (Value.bool false)) w683)))))) ∧
(((decide (x475 = x686)) = false) →
(R (Ending.returned (Value.bool false)) w683)))))) ∧
((b684 = false) →
(R (Ending.returned (Value.bool false)) w683))))))))))))))))))))))))))))))))))))) ∧
((b503 = false) →
(R (Ending.returned (Value.bool false)) w502)))))))))))))))))))))))))))))))))))))))))) ∧
((b477 = false) →
(Calls Try.prog 27 #[(Value.pointer (some (⟨t, 0, none⟩ : Addr)))] w474 (fun (e695 : Ending) => (fun (w696 : World) => (∃ x697 : Int, (∃ x698 : Int, ((e695 = (Ending.returned (Value.tuple #[(Value.int IntKind.i64 x697), (Value.int IntKind.i64 x698)]))) ∧
(∃ s699 : ByteArray, (((w696.cell? (⟨(hs w), 0, none⟩ : Addr)) = (some (Value.string s699))) ∧
(∃ x700 : Int, (((w696.cell? (⟨(hs w), 1, none⟩ : Addr)) = (some (Value.int IntKind.i64 x700))) ∧
(∃ o701 : Option Addr, (∃ n702 : Nat, (∃ n703 : Nat, (((w696.cell? (⟨(hs w), 2, none⟩ : Addr)) = (some (Value.slice o701 n702 n703))) ∧
(Calls Try.prog 77 #[(Value.agg #[(Value.string s699), (Value.int IntKind.i64 x700), (Value.slice o701 n702 n703)]), (Value.slice said said_n said_c)] w696 (fun (e704 : Ending) => (fun (w705 : World) => (∃ x706 : Int, (∃ x707 : Int, ((e704 = (Ending.returned (Value.tuple #[(Value.int IntKind.i64 x706), (Value.int IntKind.i64 x707)]))) ∧
(Calls Try.prog 78 #[(Value.pointer (some (⟨t, 0, none⟩ : Addr)))] w705 (fun (e708 : Ending) => (fun (w709 : World) => (∃ s710 : ByteArray, (∃ x711 : Int, ((e708 = (Ending.returned (Value.tuple #[(Value.string s710), (Value.int IntKind.i64 x711)]))) ∧
(Calls Try.prog 37 #[(Value.pointer (some (⟨t, 0, none⟩ : Addr)))] w709 (fun (e712 : Ending) => (fun (w713 : World) => (∃ o714 : Option Addr, (∃ n715 : Nat, (∃ n716 : Nat, ((e712 = (Ending.returned (Value.slice o714 n715 n716))) ∧
(Calls Try.prog 79 #[(Value.slice o714 n715 n716), (Value.slice said said_n said_c)] w713 (fun (e717 : Ending) => (fun (w718 : World) => (∃ b719 : Bool, ((e717 = (Ending.returned (Value.bool b719))) ∧
(((b719 = true) →
((((!(decide (x697 = x706))) = true) →
(R (Ending.returned (Value.bool false)) w718)) ∧
(((!(decide (x697 = x706))) = false) →
((((!(decide (x698 = x707))) = true) →
(R (Ending.returned (Value.bool false)) w718)) ∧
(((!(decide (x698 = x707))) = false) →
(∃ s725 : ByteArray, (((w718.cell? (⟨(hs w), 0, none⟩ : Addr)) = (some (Value.string s725))) ∧
((((!(Nf.strEq s710 s725)) = true) →
(R (Ending.returned (Value.bool false)) w718)) ∧
(((!(Nf.strEq s710 s725)) = false) →
(∃ x728 : Int, (((w718.cell? (⟨(hs w), 1, none⟩ : Addr)) = (some (Value.int IntKind.i64 x728))) ∧
((((!(decide (x711 = x728))) = true) →
(R (Ending.returned (Value.bool false)) w718)) ∧
(((!(decide (x711 = x728))) = false) →
((((decide (x10 ≥ 0)) = true) →
(((true = true) →
(R (Ending.returned (Value.bool false)) w718)) ∧
((true = false) →
((((decide (x10 < 0)) = true) →
(((true = true) →
(R (Ending.returned (Value.bool false)) w718)) ∧
((true = false) →
((((decide (x10 ≥ 0)) = true) →
(∀ w738 : World, ((w738 = w718.drew) →
(∃ s740 : ByteArray, (((w738.cell? (⟨(hs w20), 0, none⟩ : Addr)) = (some (Value.string s740))) ∧
(∃ o741 : Option Addr, (∃ n742 : Nat, (∃ n743 : Nat, (((w738.cell? (⟨(hs w20), 1, none⟩ : Addr)) = (some (Value.slice o741 n742 n743))) ∧
(∃ o744 : Option Addr, (∃ n745 : Nat, (∃ n746 : Nat, (((w738.cell? (⟨(hs w), 2, none⟩ : Addr)) = (some (Value.slice o744 n745 n746))) ∧
(∃ a747 : Addr, ((o744 = (some a747)) ∧
((((0 : Int) ≤ x10) ∧
(x10 < ((n745 : Nat) : Int))) ∧
(∃ s748 : ByteArray, (((w738.cell? (Addr.add a747 ((x10).toNat * 2))) = (some (Value.string s748))) ∧
(∃ o749 : Option Addr, (∃ n750 : Nat, (∃ n751 : Nat, (((w738.cell? (Addr.add (Addr.add a747 ((x10).toNat * 2)) 1)) = (some (Value.slice o749 n750 n751))) ∧
(Calls Try.prog 80 #[(Value.agg #[(Value.string s740), (Value.slice o741 n742 n743)]), (Value.agg #[(Value.string s748), (Value.slice o749 n750 n751)])] w738 (fun (e752 : Ending) => (fun (w753 : World) => (∃ b754 : Bool, ((e752 = (Ending.returned (Value.bool b754))) ∧
(((b754 = true) →
((((decide (x475 = 0)) = true) →
((((Nf.strEq s476 (ByteArray.mk #[])) = true) →
(R (Ending.returned (Value.bool true)) w753)) ∧
(((Nf.strEq s476 (ByteArray.mk #[])) = false) →
(R (Ending.returned (Value.bool false)) w753)))) ∧
(((decide (x475 = 0)) = false) →
(R (Ending.returned (Value.bool false)) w753)))) ∧
((b754 = false) →
(R (Ending.returned (Value.bool false)) w753)))))))))))))))))))))))))))))) ∧
(((decide (x10 ≥ 0)) = false) →
(∃ s762 : ByteArray, (((w718.cell? (⟨(hs w20), 0, none⟩ : Addr)) = (some (Value.string s762))) ∧
(∃ o763 : Option Addr, (∃ n764 : Nat, (∃ n765 : Nat, (((w718.cell? (⟨(hs w20), 1, none⟩ : Addr)) = (some (Value.slice o763 n764 n765))) ∧
(Calls Try.prog 80 #[(Value.agg #[(Value.string s762), (Value.slice o763 n764 n765)]), (Value.agg #[(Value.string (ByteArray.mk #[])), (Value.slice none 0 0)])] w718 (fun (e766 : Ending) => (fun (w767 : World) => (∃ b768 : Bool, ((e766 = (Ending.returned (Value.bool b768))) ∧
(((b768 = true) →
(∃ x770 : Int, (((w767.cell? (⟨(hs w9), 2, none⟩ : Addr)) = (some (Value.int IntKind.i64 x770))) ∧
((((decide (x475 = x770)) = true) →
(∃ s772 : ByteArray, (((w767.cell? (⟨(hs w9), 3, none⟩ : Addr)) = (some (Value.string s772))) ∧
((((Nf.strEq s476 s772) = true) →
(R (Ending.returned (Value.bool true)) w767)) ∧
(((Nf.strEq s476 s772) = false) →
(R (Ending.returned (Value.bool false)) w767)))))) ∧
(((decide (x475 = x770)) = false) →
(R (Ending.returned (Value.bool false)) w767)))))) ∧
((b768 = false) →
(R (Ending.returned (Value.bool false)) w767))))))))))))))))))) ∧
(((decide (x10 < 0)) = false) →
(((false = true) →
(R (Ending.returned (Value.bool false)) w718)) ∧
((false = false) →
((((decide (x10 ≥ 0)) = true) →
(∀ w781 : World, ((w781 = w718.drew) →
(∃ s783 : ByteArray, (((w781.cell? (⟨(hs w20), 0, none⟩ : Addr)) = (some (Value.string s783))) ∧
(∃ o784 : Option Addr, (∃ n785 : Nat, (∃ n786 : Nat, (((w781.cell? (⟨(hs w20), 1, none⟩ : Addr)) = (some (Value.slice o784 n785 n786))) ∧
(∃ o787 : Option Addr, (∃ n788 : Nat, (∃ n789 : Nat, (((w781.cell? (⟨(hs w), 2, none⟩ : Addr)) = (some (Value.slice o787 n788 n789))) ∧
(∃ a790 : Addr, ((o787 = (some a790)) ∧
((((0 : Int) ≤ x10) ∧
(x10 < ((n788 : Nat) : Int))) ∧
(∃ s791 : ByteArray, (((w781.cell? (Addr.add a790 ((x10).toNat * 2))) = (some (Value.string s791))) ∧
(∃ o792 : Option Addr, (∃ n793 : Nat, (∃ n794 : Nat, (((w781.cell? (Addr.add (Addr.add a790 ((x10).toNat * 2)) 1)) = (some (Value.slice o792 n793 n794))) ∧
(Calls Try.prog 80 #[(Value.agg #[(Value.string s783), (Value.slice o784 n785 n786)]), (Value.agg #[(Value.string s791), (Value.slice o792 n793 n794)])] w781 (fun (e795 : Ending) => (fun (w796 : World) => (∃ b797 : Bool, ((e795 = (Ending.returned (Value.bool b797))) ∧
(((b797 = true) →
((((decide (x475 = 0)) = true) →
((((Nf.strEq s476 (ByteArray.mk #[])) = true) →
(R (Ending.returned (Value.bool true)) w796)) ∧
(((Nf.strEq s476 (ByteArray.mk #[])) = false) →
(R (Ending.returned (Value.bool false)) w796)))) ∧
(((decide (x475 = 0)) = false) →
(R (Ending.returned (Value.bool false)) w796)))) ∧
((b797 = false) →
(R (Ending.returned (Value.bool false)) w796)))))))))))))))))))))))))))))) ∧
(((decide (x10 ≥ 0)) = false) →
(∃ s805 : ByteArray, (((w718.cell? (⟨(hs w20), 0, none⟩ : Addr)) = (some (Value.string s805))) ∧
(∃ o806 : Option Addr, (∃ n807 : Nat, (∃ n808 : Nat, (((w718.cell? (⟨(hs w20), 1, none⟩ : Addr)) = (some (Value.slice o806 n807 n808))) ∧
(Calls Try.prog 80 #[(Value.agg #[(Value.string s805), (Value.slice o806 n807 n808)]), (Value.agg #[(Value.string (ByteArray.mk #[])), (Value.slice none 0 0)])] w718 (fun (e809 : Ending) => (fun (w810 : World) => (∃ b811 : Bool, ((e809 = (Ending.returned (Value.bool b811))) ∧
(((b811 = true) →
(∃ x813 : Int, (((w810.cell? (⟨(hs w9), 2, none⟩ : Addr)) = (some (Value.int IntKind.i64 x813))) ∧
((((decide (x475 = x813)) = true) →
(∃ s815 : ByteArray, (((w810.cell? (⟨(hs w9), 3, none⟩ : Addr)) = (some (Value.string s815))) ∧
((((Nf.strEq s476 s815) = true) →
(R (Ending.returned (Value.bool true)) w810)) ∧
(((Nf.strEq s476 s815) = false) →
(R (Ending.returned (Value.bool false)) w810)))))) ∧
(((decide (x475 = x813)) = false) →
(R (Ending.returned (Value.bool false)) w810)))))) ∧
((b811 = false) →
(R (Ending.returned (Value.bool false)) w810))))))))))))))))))))))) ∧
(((decide (x10 ≥ 0)) = false) →
(((false = true) →
(R (Ending.returned (Value.bool false)) w718)) ∧
((false = false) →
((((decide (x10 < 0)) = true) →
(((true = true) →
(R (Ending.returned (Value.bool false)) w718)) ∧
((true = false) →
((((decide (x10 ≥ 0)) = true) →
(∀ w827 : World, ((w827 = w718.drew) →
(∃ s829 : ByteArray, (((w827.cell? (⟨(hs w20), 0, none⟩ : Addr)) = (some (Value.string s829))) ∧
(∃ o830 : Option Addr, (∃ n831 : Nat, (∃ n832 : Nat, (((w827.cell? (⟨(hs w20), 1, none⟩ : Addr)) = (some (Value.slice o830 n831 n832))) ∧
(∃ o833 : Option Addr, (∃ n834 : Nat, (∃ n835 : Nat, (((w827.cell? (⟨(hs w), 2, none⟩ : Addr)) = (some (Value.slice o833 n834 n835))) ∧
(∃ a836 : Addr, ((o833 = (some a836)) ∧
((((0 : Int) ≤ x10) ∧
(x10 < ((n834 : Nat) : Int))) ∧
(∃ s837 : ByteArray, (((w827.cell? (Addr.add a836 ((x10).toNat * 2))) = (some (Value.string s837))) ∧
(∃ o838 : Option Addr, (∃ n839 : Nat, (∃ n840 : Nat, (((w827.cell? (Addr.add (Addr.add a836 ((x10).toNat * 2)) 1)) = (some (Value.slice o838 n839 n840))) ∧
(Calls Try.prog 80 #[(Value.agg #[(Value.string s829), (Value.slice o830 n831 n832)]), (Value.agg #[(Value.string s837), (Value.slice o838 n839 n840)])] w827 (fun (e841 : Ending) => (fun (w842 : World) => (∃ b843 : Bool, ((e841 = (Ending.returned (Value.bool b843))) ∧
(((b843 = true) →
((((decide (x475 = 0)) = true) →
((((Nf.strEq s476 (ByteArray.mk #[])) = true) →
(R (Ending.returned (Value.bool true)) w842)) ∧
(((Nf.strEq s476 (ByteArray.mk #[])) = false) →
(R (Ending.returned (Value.bool false)) w842)))) ∧
(((decide (x475 = 0)) = false) →
(R (Ending.returned (Value.bool false)) w842)))) ∧
((b843 = false) →
(R (Ending.returned (Value.bool false)) w842)))))))))))))))))))))))))))))) ∧
(((decide (x10 ≥ 0)) = false) →
(∃ s851 : ByteArray, (((w718.cell? (⟨(hs w20), 0, none⟩ : Addr)) = (some (Value.string s851))) ∧
(∃ o852 : Option Addr, (∃ n853 : Nat, (∃ n854 : Nat, (((w718.cell? (⟨(hs w20), 1, none⟩ : Addr)) = (some (Value.slice o852 n853 n854))) ∧
(Calls Try.prog 80 #[(Value.agg #[(Value.string s851), (Value.slice o852 n853 n854)]), (Value.agg #[(Value.string (ByteArray.mk #[])), (Value.slice none 0 0)])] w718 (fun (e855 : Ending) => (fun (w856 : World) => (∃ b857 : Bool, ((e855 = (Ending.returned (Value.bool b857))) ∧
(((b857 = true) →
(∃ x859 : Int, (((w856.cell? (⟨(hs w9), 2, none⟩ : Addr)) = (some (Value.int IntKind.i64 x859))) ∧
((((decide (x475 = x859)) = true) →
(∃ s861 : ByteArray, (((w856.cell? (⟨(hs w9), 3, none⟩ : Addr)) = (some (Value.string s861))) ∧
((((Nf.strEq s476 s861) = true) →
(R (Ending.returned (Value.bool true)) w856)) ∧
(((Nf.strEq s476 s861) = false) →
(R (Ending.returned (Value.bool false)) w856)))))) ∧
(((decide (x475 = x859)) = false) →
(R (Ending.returned (Value.bool false)) w856)))))) ∧
((b857 = false) →
(R (Ending.returned (Value.bool false)) w856))))))))))))))))))) ∧
(((decide (x10 < 0)) = false) →
(((false = true) →
(R (Ending.returned (Value.bool false)) w718)) ∧
((false = false) →
((((decide (x10 ≥ 0)) = true) →
(∀ w870 : World, ((w870 = w718.drew) →
(∃ s872 : ByteArray, (((w870.cell? (⟨(hs w20), 0, none⟩ : Addr)) = (some (Value.string s872))) ∧
(∃ o873 : Option Addr, (∃ n874 : Nat, (∃ n875 : Nat, (((w870.cell? (⟨(hs w20), 1, none⟩ : Addr)) = (some (Value.slice o873 n874 n875))) ∧
(∃ o876 : Option Addr, (∃ n877 : Nat, (∃ n878 : Nat, (((w870.cell? (⟨(hs w), 2, none⟩ : Addr)) = (some (Value.slice o876 n877 n878))) ∧
(∃ a879 : Addr, ((o876 = (some a879)) ∧
((((0 : Int) ≤ x10) ∧
(x10 < ((n877 : Nat) : Int))) ∧
(∃ s880 : ByteArray, (((w870.cell? (Addr.add a879 ((x10).toNat * 2))) = (some (Value.string s880))) ∧
(∃ o881 : Option Addr, (∃ n882 : Nat, (∃ n883 : Nat, (((w870.cell? (Addr.add (Addr.add a879 ((x10).toNat * 2)) 1)) = (some (Value.slice o881 n882 n883))) ∧
(Calls Try.prog 80 #[(Value.agg #[(Value.string s872), (Value.slice o873 n874 n875)]), (Value.agg #[(Value.string s880), (Value.slice o881 n882 n883)])] w870 (fun (e884 : Ending) => (fun (w885 : World) => (∃ b886 : Bool, ((e884 = (Ending.returned (Value.bool b886))) ∧
(((b886 = true) →
((((decide (x475 = 0)) = true) →
((((Nf.strEq s476 (ByteArray.mk #[])) = true) →
(R (Ending.returned (Value.bool true)) w885)) ∧
(((Nf.strEq s476 (ByteArray.mk #[])) = false) →
(R (Ending.returned (Value.bool false)) w885)))) ∧
(((decide (x475 = 0)) = false) →
(R (Ending.returned (Value.bool false)) w885)))) ∧
((b886 = false) →
(R (Ending.returned (Value.bool false)) w885)))))))))))))))))))))))))))))) ∧
(((decide (x10 ≥ 0)) = false) →
(∃ s894 : ByteArray, (((w718.cell? (⟨(hs w20), 0, none⟩ : Addr)) = (some (Value.string s894))) ∧
(∃ o895 : Option Addr, (∃ n896 : Nat, (∃ n897 : Nat, (((w718.cell? (⟨(hs w20), 1, none⟩ : Addr)) = (some (Value.slice o895 n896 n897))) ∧
(Calls Try.prog 80 #[(Value.agg #[(Value.string s894), (Value.slice o895 n896 n897)]), (Value.agg #[(Value.string (ByteArray.mk #[])), (Value.slice none 0 0)])] w718 (fun (e898 : Ending) => (fun (w899 : World) => (∃ b900 : Bool, ((e898 = (Ending.returned (Value.bool b900))) ∧
(((b900 = true) →
(∃ x902 : Int, (((w899.cell? (⟨(hs w9), 2, none⟩ : Addr)) = (some (Value.int IntKind.i64 x902))) ∧
((((decide (x475 = x902)) = true) →
(∃ s904 : ByteArray, (((w899.cell? (⟨(hs w9), 3, none⟩ : Addr)) = (some (Value.string s904))) ∧
((((Nf.strEq s476 s904) = true) →
(R (Ending.returned (Value.bool true)) w899)) ∧
(((Nf.strEq s476 s904) = false) →
(R (Ending.returned (Value.bool false)) w899)))))) ∧
(((decide (x475 = x902)) = false) →
(R (Ending.returned (Value.bool false)) w899)))))) ∧
((b900 = false) →
(R (Ending.returned (Value.bool false)) w899))))))))))))))))))))))))))))))))))))) ∧
((b719 = false) →
(R (Ending.returned (Value.bool false)) w718))))))))))))))))))))))))))))))))))))))))))))))))))))))))))))))))))))))))))))))))))))))))))) :
    Calls Try.prog 32 #[(.pointer (some ⟨t, 0, none⟩)), (.agg #[(.string x_Name), (.int .i64 x_Version), (.slice x_Questions x_Questions_n x_Questions_c)]), (.slice said said_n said_c)] w R :=
  calls_of_vc an32 Try.func32 rfl (by kernel_rfl) (by kernel_rfl) (Eq.mp (by kernel_rfl) h)

/-- samaritan/samaritanlaw14.InterviewNarrows -/
def an3 : An := (.seq (.reg []) (.seq (.seq (.reg [(1, 0, true)]) (.cond (.seq (.reg [(0, 0, true)]) .nil) .nil)) (.seq (.reg []) (.seq (.seq (.reg [(1, 0, true)]) (.cond (.seq (.reg [(1, 3, true), (3, 0, true)]) .nil) .nil)) (.seq (.reg []) (.seq (.seq (.reg [(1, 0, true)]) (.cond (.seq (.reg []) .nil) .nil)) (.seq (.reg []) (.seq (.reg []) (.blk (.loop [(9, .int .i64), (10, .int .i64), (11, .int .i64)] (.seq (.blk (.seq (.reg [(4, 0, true)]) (.seq (.seq (.reg []) (.cond (.seq (.reg [(5, 0, true)]) (.seq (.reg [(4, 0, true), (9, 0, true), (14, 0, true), (17, 0, true)]) .nil)) .nil)) (.seq (.reg []) (.cut [(17, .int .i64)] (.seq (.reg [(3, 0, true)]) (.cond (.reg []) .nil)) (.seq (.seq (.reg [(2, 0, true), (7, 0, true), (15, 2, false), (17, 0, true)]) (.cond (.seq (.reg []) .nil) .nil)) (.seq (.reg []) (.seq (.seq (.reg [(2, 0, true), (6, 0, true), (11, 0, true)]) (.cond (.seq (.reg []) .nil) .nil)) (.reg []))))))))) (.reg []))))))))))))
set_option maxRecDepth 100000 in
theorem nf3 (x_Name : ByteArray) (x_Version : Int) (x_Questions : Option Addr) (x_Questions_n : Nat) (x_Questions_c : Nat) (said : Option Addr) (said_n : Nat) (said_c : Nat) (w : World) (R : Ending → World → Prop) (h :
(∀ w1 : World, ((w1 = (w.alloc (Obj.cells #[(Value.string x_Name), (Value.int IntKind.i64 x_Version), (Value.slice x_Questions x_Questions_n x_Questions_c)] 24 (0, 0)))) →
(∃ s3 : ByteArray, (((w1.cell? (⟨(hs w), 0, none⟩ : Addr)) = (some (Value.string s3))) ∧
(∃ x4 : Int, (((w1.cell? (⟨(hs w), 1, none⟩ : Addr)) = (some (Value.int IntKind.i64 x4))) ∧
(∃ o5 : Option Addr, (∃ n6 : Nat, (∃ n7 : Nat, (((w1.cell? (⟨(hs w), 2, none⟩ : Addr)) = (some (Value.slice o5 n6 n7))) ∧
(Calls Try.prog 23 #[(Value.agg #[(Value.string s3), (Value.int IntKind.i64 x4), (Value.slice o5 n6 n7)])] w1 (fun (e8 : Ending) => (fun (w9 : World) => (∃ b10 : Bool, ((e8 = (Ending.returned (Value.bool b10))) ∧
(((b10 = true) →
(∃ s12 : ByteArray, (((w9.cell? (⟨(hs w), 0, none⟩ : Addr)) = (some (Value.string s12))) ∧
(∃ x13 : Int, (((w9.cell? (⟨(hs w), 1, none⟩ : Addr)) = (some (Value.int IntKind.i64 x13))) ∧
(∃ o14 : Option Addr, (∃ n15 : Nat, (∃ n16 : Nat, (((w9.cell? (⟨(hs w), 2, none⟩ : Addr)) = (some (Value.slice o14 n15 n16))) ∧
(Calls Try.prog 25 #[(Value.agg #[(Value.string s12), (Value.int IntKind.i64 x13), (Value.slice o14 n15 n16)])] w9 (fun (e17 : Ending) => (fun (w18 : World) => (∃ o19 : Option Addr, (∃ x20 : Int, ((e17 = (Ending.returned (Value.tuple #[(Value.pointer o19), (Value.int IntKind.i64 x20)]))) ∧
((((!(decide (x20 = 0))) = true) →
((((Option.isNone o19) = true) →
(Calls Try.prog 24 #[] w18 (fun (e23 : Ending) => (fun (w24 : World) => (∃ b25 : Bool, ((e23 = (Ending.returned (Value.bool b25))) ∧
(((b25 = true) →
(R (Ending.returned (Value.bool true)) w24)) ∧
((b25 = false) →
(R (Ending.returned (Value.bool false)) w24))))))))) ∧
(((Option.isNone o19) = false) →
(R (Ending.returned (Value.bool false)) w18)))) ∧
(((!(decide (x20 = 0))) = false) →
(∃ s30 : ByteArray, (((w18.cell? (⟨(hs w), 0, none⟩ : Addr)) = (some (Value.string s30))) ∧
(∃ x31 : Int, (((w18.cell? (⟨(hs w), 1, none⟩ : Addr)) = (some (Value.int IntKind.i64 x31))) ∧
(∃ o32 : Option Addr, (∃ n33 : Nat, (∃ n34 : Nat, (((w18.cell? (⟨(hs w), 2, none⟩ : Addr)) = (some (Value.slice o32 n33 n34))) ∧
(Calls Try.prog 26 #[(Value.agg #[(Value.string s30), (Value.int IntKind.i64 x31), (Value.slice o32 n33 n34)]), (Value.int IntKind.i64 0)] w18 (fun (e35 : Ending) => (fun (w36 : World) => (∃ x37 : Int, (∃ x38 : Int, ((e35 = (Ending.returned (Value.tuple #[(Value.int IntKind.i64 x37), (Value.int IntKind.i64 x38)]))) ∧
((((!(decide (x38 = 0))) = true) →
(R (Ending.returned (Value.bool false)) w36)) ∧
(((!(decide (x38 = 0))) = false) →
(Calls Try.prog 27 #[(Value.pointer o19)] w36 (fun (e41 : Ending) => (fun (w42 : World) => (∃ x43 : Int, (∃ x44 : Int, ((e41 = (Ending.returned (Value.tuple #[(Value.int IntKind.i64 x43), (Value.int IntKind.i64 x44)]))) ∧
(∃ k45 : (Nat → (Int → (Int → (Int → (World → Prop))))), ((∃ n46 : Nat, (k45 n46 x43 x44 0 w42)) ∧
(∀ n47 : Nat, ((Nat → Value) →
(∀ w49 : World, (∀ x50 : Int, (∀ x51 : Int, (∀ x52 : Int, ((k45 n47 x50 x51 x52 w49) →
(Calls Try.prog 28 #[(Value.pointer o19)] w49 (fun (e54 : Ending) => (fun (w55 : World) => (∃ s56 : ByteArray, (∃ o57 : Option Addr, (∃ n58 : Nat, (∃ n59 : Nat, (∃ b60 : Bool, ((e54 = (Ending.returned (Value.tuple #[(Value.agg #[(Value.string s56), (Value.slice o57 n58 n59)]), (Value.bool b60)]))) ∧
(((b60 = true) →
(∀ w62 : World, ((w62 = (w55.alloc (Obj.cells #[(Value.string (ByteArray.mk #[])), (Value.slice none 0 0)] 38 (0, 0)))) →
((Nf.There w62 (⟨(hs w55), 0, none⟩ : Addr) 2) ∧
(∀ w64 : World, ((w64 = (Nf.setCells w62 (⟨(hs w55), 0, none⟩ : Addr) [(Value.string s56), (Value.slice o57 n58 n59)] 0)) →
(∀ k66 : (Int → (World → Prop)), ((∀ w68 : World, (∀ x69 : Int, (((Nat → Value) →
((((decide (x52 ≥ x37)) = true) →
(R (Ending.returned (Value.bool false)) w68)) ∧
(((decide (x52 ≥ x37)) = false) →
(∃ o74 : Option Addr, (∃ n75 : Nat, (∃ n76 : Nat, (((w68.cell? (⟨(hs w55), 1, none⟩ : Addr)) = (some (Value.slice o74 n75 n76))) ∧
((((decide (((n75 : Nat) : Int) = 0)) = true) →
(R (Ending.returned (Value.bool false)) w68)) ∧
(((decide (((n75 : Nat) : Int) = 0)) = false) →
(∃ o79 : Option Addr, (∃ n80 : Nat, (∃ n81 : Nat, (((w68.cell? (⟨(hs w55), 1, none⟩ : Addr)) = (some (Value.slice o79 n80 n81))) ∧
((((n80 : Nat) : Int) ≠ 0) ∧
(Calls Try.prog 30 #[(Value.pointer o19), (Value.int IntKind.i64 (Int.tmod x69 ((n80 : Nat) : Int)))] w68 (fun (e82 : Ending) => (fun (w83 : World) => (∃ x84 : Int, ((e82 = (Ending.returned (Value.int IntKind.i64 x84))) ∧
((((!(decide (x84 = 0))) = true) →
(R (Ending.returned (Value.bool false)) w83)) ∧
(((!(decide (x84 = 0))) = false) →
(Calls Try.prog 27 #[(Value.pointer o19)] w83 (fun (e87 : Ending) => (fun (w88 : World) => (∃ x89 : Int, (∃ x90 : Int, ((e87 = (Ending.returned (Value.tuple #[(Value.int IntKind.i64 x89), (Value.int IntKind.i64 x90)]))) ∧
((((decide (x89 < x50)) = true) →
(R (Ending.returned (Value.bool false)) w88)) ∧
(((decide (x89 < x50)) = false) →
((((decide (x90 > x51)) = true) →
(R (Ending.returned (Value.bool false)) w88)) ∧
(((decide (x90 > x51)) = false) →
((((decide (x89 > x90)) = true) →
(R (Ending.returned (Value.bool false)) w88)) ∧
(((decide (x89 > x90)) = false) →
(∃ n97 : Nat, ((n97 < n47) ∧
(k45 n97 x89 x90 (IntKind.wrap IntKind.i64 (x52 + 1)) w88)))))))))))))))))))))))))))))))))))) →
(k66 x69 w68)))) →
((((decide (x52 < ((said_n : Nat) : Int))) = true) →
(∃ a99 : Addr, ((said = (some a99)) ∧
((((0 : Int) ≤ x52) ∧
(x52 < ((said_n : Nat) : Int))) ∧
(∃ x100 : Int, (((w64.cell? (Addr.add a99 ((x52).toNat * 1))) = (some (Value.int IntKind.u8 x100))) ∧
(k66 (IntKind.wrap IntKind.i64 x100) w64))))))) ∧
(((decide (x52 < ((said_n : Nat) : Int))) = false) →
(k66 0 w64))))))))))) ∧
((b60 = false) →
(∀ w103 : World, ((w103 = (w55.alloc (Obj.cells #[(Value.string (ByteArray.mk #[])), (Value.slice none 0 0)] 38 (0, 0)))) →
((Nf.There w103 (⟨(hs w55), 0, none⟩ : Addr) 2) ∧
(∀ w105 : World, ((w105 = (Nf.setCells w103 (⟨(hs w55), 0, none⟩ : Addr) [(Value.string s56), (Value.slice o57 n58 n59)] 0)) →
(Calls Try.prog 29 #[(Value.pointer o19)] w105 (fun (e107 : Ending) => (fun (w108 : World) => (∃ x109 : Int, (∃ s110 : ByteArray, (∃ b111 : Bool, ((e107 = (Ending.returned (Value.tuple #[(Value.int IntKind.i64 x109), (Value.string s110), (Value.bool b111)]))) ∧
(((b111 = true) →
((((decide (x109 = x50)) = true) →
((((decide (x109 = x51)) = true) →
((((decide (x52 ≤ x37)) = true) →
(Calls Try.prog 24 #[] w108 (fun (e116 : Ending) => (fun (w117 : World) => (∃ b118 : Bool, ((e116 = (Ending.returned (Value.bool b118))) ∧
(((b118 = true) →
(R (Ending.returned (Value.bool true)) w117)) ∧
((b118 = false) →
(R (Ending.returned (Value.bool false)) w117))))))))) ∧
(((decide (x52 ≤ x37)) = false) →
(R (Ending.returned (Value.bool false)) w108)))) ∧
(((decide (x109 = x51)) = false) →
(R (Ending.returned (Value.bool false)) w108)))) ∧
(((decide (x109 = x50)) = false) →
(R (Ending.returned (Value.bool false)) w108)))) ∧
((b111 = false) →
(R (Ending.returned (Value.bool false)) w108)))))))))))))))))))))))))))))))))))))))))))))))))))))))))))))))))))))))))) ∧
((b10 = false) →
(Calls Try.prog 24 #[] w9 (fun (e126 : Ending) => (fun (w127 : World) => (∃ b128 : Bool, ((e126 = (Ending.returned (Value.bool b128))) ∧
(((b128 = true) →
(R (Ending.returned (Value.bool true)) w127)) ∧
((b128 = false) →
(R (Ending.returned (Value.bool false)) w127)))))))))))))))))))))))))) :
    Calls Try.prog 3 #[(.agg #[(.string x_Name), (.int .i64 x_Version), (.slice x_Questions x_Questions_n x_Questions_c)]), (.slice said said_n said_c)] w R :=
  calls_of_vc an3 Try.func3 rfl (by kernel_rfl) (by kernel_rfl) (Eq.mp (by kernel_rfl) h)

/-- samaritan/samaritanlaw14.InterviewNew -/
def an4 : An := (.seq (.reg []) (.seq (.seq (.reg [(1, 0, true)]) (.cond (.seq (.reg [(0, 0, true)]) .nil) .nil)) (.seq (.reg []) (.seq (.reg []) (.seq (.seq (.reg [(1, 0, true)]) (.cond (.seq (.reg [(1, 3, true), (5, 0, true), (8, 0, true)]) .nil) .nil)) (.seq (.reg [(1, 3, true), (4, 0, true), (9, 0, true), (12, 0, true)]) .nil))))))
set_option maxRecDepth 100000 in
theorem nf4 (x_Name : ByteArray) (x_Version : Int) (x_Questions : Option Addr) (x_Questions_n : Nat) (x_Questions_c : Nat) (w : World) (R : Ending → World → Prop) (h :
(∀ w1 : World, ((w1 = (w.alloc (Obj.cells #[(Value.string x_Name), (Value.int IntKind.i64 x_Version), (Value.slice x_Questions x_Questions_n x_Questions_c)] 24 (0, 0)))) →
(∃ s3 : ByteArray, (((w1.cell? (⟨(hs w), 0, none⟩ : Addr)) = (some (Value.string s3))) ∧
(∃ x4 : Int, (((w1.cell? (⟨(hs w), 1, none⟩ : Addr)) = (some (Value.int IntKind.i64 x4))) ∧
(∃ o5 : Option Addr, (∃ n6 : Nat, (∃ n7 : Nat, (((w1.cell? (⟨(hs w), 2, none⟩ : Addr)) = (some (Value.slice o5 n6 n7))) ∧
(Calls Try.prog 23 #[(Value.agg #[(Value.string s3), (Value.int IntKind.i64 x4), (Value.slice o5 n6 n7)])] w1 (fun (e8 : Ending) => (fun (w9 : World) => (∃ b10 : Bool, ((e8 = (Ending.returned (Value.bool b10))) ∧
(((b10 = true) →
(∃ s12 : ByteArray, (((w9.cell? (⟨(hs w), 0, none⟩ : Addr)) = (some (Value.string s12))) ∧
(∃ x13 : Int, (((w9.cell? (⟨(hs w), 1, none⟩ : Addr)) = (some (Value.int IntKind.i64 x13))) ∧
(∃ o14 : Option Addr, (∃ n15 : Nat, (∃ n16 : Nat, (((w9.cell? (⟨(hs w), 2, none⟩ : Addr)) = (some (Value.slice o14 n15 n16))) ∧
(Calls Try.prog 25 #[(Value.agg #[(Value.string s12), (Value.int IntKind.i64 x13), (Value.slice o14 n15 n16)])] w9 (fun (e17 : Ending) => (fun (w18 : World) => (∃ o19 : Option Addr, (∃ x20 : Int, ((e17 = (Ending.returned (Value.tuple #[(Value.pointer o19), (Value.int IntKind.i64 x20)]))) ∧
(∃ s21 : ByteArray, (((w18.cell? (⟨(hs w), 0, none⟩ : Addr)) = (some (Value.string s21))) ∧
(∃ x22 : Int, (((w18.cell? (⟨(hs w), 1, none⟩ : Addr)) = (some (Value.int IntKind.i64 x22))) ∧
(∃ o23 : Option Addr, (∃ n24 : Nat, (∃ n25 : Nat, (((w18.cell? (⟨(hs w), 2, none⟩ : Addr)) = (some (Value.slice o23 n24 n25))) ∧
(Calls Try.prog 31 #[(Value.agg #[(Value.string s21), (Value.int IntKind.i64 x22), (Value.slice o23 n24 n25)])] w18 (fun (e26 : Ending) => (fun (w27 : World) => (∃ x28 : Int, (∃ x29 : Int, ((e26 = (Ending.returned (Value.tuple #[(Value.int IntKind.i64 x28), (Value.int IntKind.i64 x29)]))) ∧
((((!(decide (x29 = 0))) = true) →
((((Option.isNone o19) = true) →
((((decide (x20 = x29)) = true) →
(Calls Try.prog 24 #[] w27 (fun (e33 : Ending) => (fun (w34 : World) => (∃ b35 : Bool, ((e33 = (Ending.returned (Value.bool b35))) ∧
(((b35 = true) →
(R (Ending.returned (Value.bool true)) w34)) ∧
((b35 = false) →
(R (Ending.returned (Value.bool false)) w34))))))))) ∧
(((decide (x20 = x29)) = false) →
(R (Ending.returned (Value.bool false)) w27)))) ∧
(((Option.isNone o19) = false) →
(R (Ending.returned (Value.bool false)) w27)))) ∧
(((!(decide (x29 = 0))) = false) →
((((!(Option.isNone o19)) = true) →
((((decide (x20 = 0)) = true) →
(∃ s43 : ByteArray, (((w27.cell? (⟨(hs w), 0, none⟩ : Addr)) = (some (Value.string s43))) ∧
(∃ x44 : Int, (((w27.cell? (⟨(hs w), 1, none⟩ : Addr)) = (some (Value.int IntKind.i64 x44))) ∧
(∃ o45 : Option Addr, (∃ n46 : Nat, (∃ n47 : Nat, (((w27.cell? (⟨(hs w), 2, none⟩ : Addr)) = (some (Value.slice o45 n46 n47))) ∧
(Calls Try.prog 32 #[(Value.pointer o19), (Value.agg #[(Value.string s43), (Value.int IntKind.i64 x44), (Value.slice o45 n46 n47)]), (Value.slice none 0 0)] w27 (fun (e48 : Ending) => (fun (w49 : World) => (∃ b50 : Bool, ((e48 = (Ending.returned (Value.bool b50))) ∧
(((b50 = true) →
(Calls Try.prog 24 #[] w49 (fun (e52 : Ending) => (fun (w53 : World) => (∃ b54 : Bool, ((e52 = (Ending.returned (Value.bool b54))) ∧
(((b54 = true) →
(R (Ending.returned (Value.bool true)) w53)) ∧
((b54 = false) →
(R (Ending.returned (Value.bool false)) w53))))))))) ∧
((b50 = false) →
(R (Ending.returned (Value.bool false)) w49))))))))))))))))) ∧
(((decide (x20 = 0)) = false) →
(R (Ending.returned (Value.bool false)) w27)))) ∧
(((!(Option.isNone o19)) = false) →
(R (Ending.returned (Value.bool false)) w27)))))))))))))))))))))))))))))))))) ∧
((b10 = false) →
(Calls Try.prog 24 #[] w9 (fun (e61 : Ending) => (fun (w62 : World) => (∃ b63 : Bool, ((e61 = (Ending.returned (Value.bool b63))) ∧
(((b63 = true) →
(R (Ending.returned (Value.bool true)) w62)) ∧
((b63 = false) →
(R (Ending.returned (Value.bool false)) w62)))))))))))))))))))))))))) :
    Calls Try.prog 4 #[(.agg #[(.string x_Name), (.int .i64 x_Version), (.slice x_Questions x_Questions_n x_Questions_c)])] w R :=
  calls_of_vc an4 Try.func4 rfl (by kernel_rfl) (by kernel_rfl) (Eq.mp (by kernel_rfl) h)

/-- samaritan/samaritanlaw14.InterviewMatches -/
def an5 : An := (.seq (.reg []) (.seq (.seq (.reg [(1, 0, true), (6, 0, true)]) (.cond (.seq (.reg [(0, 0, true)]) .nil) .nil)) (.seq (.seq (.reg []) (.seq (.reg [(1, 0, true)]) (.cond (.seq (.reg [(0, 0, true)]) .nil) .nil))) (.seq (.reg []) (.seq (.seq (.reg [(1, 0, true), (4, 3, true)]) (.cond (.seq (.reg []) .nil) .nil)) (.seq (.reg []) (.seq (.seq (.reg []) (.blk (.loop [(9, .slice), (44, .int .i64)] (.seq (.reg [(0, 0, true)]) (.seq (.cond .nil .nil) (.seq (.blk (.seq (.reg []) (.cut [(9, .slice)] (.seq (.reg [(1, 0, true)]) (.cond (.seq (.reg []) (.seq (.seq (.reg [(2, 0, true), (5, 0, true), (10, 0, true), (13, 0, true)]) (.cond (.seq (.reg []) .nil) .nil)) (.reg [(5, 2, false)]))) (.seq (.reg []) (.seq (.seq (.reg [(5, 0, true)]) (.cond (.seq (.reg []) .nil) .nil)) (.seq (.reg [(1, 0, true)]) (.cond (.regE [(2, 1, false), (6, 1, false)] (.take 1 (.take 3 (.take 4 (.eff (.alt (.one 0 (.eff (.alt (.one 2 (.eff (.one 5 (.eff (.one 6 (.take 7 .nil)))))) (.one 5 (.eff (.one 2 (.eff (.one 6 (.take 7 .nil))))))))) (.one 5 (.eff (.one 0 (.eff (.one 2 (.eff (.one 6 (.take 7 .nil))))))))))))) [0, 2, 5, 6]) .nil)))))) (.seq (.reg [(3, 0, true)]) (.cond (.seq (.reg []) .nil) .nil))))) (.reg []))))))) (.seq (.reg [(0, 0, true)]) .nil))))))))
set_option maxRecDepth 100000 in
theorem nf5 (x_Name : ByteArray) (x_Version : Int) (x_Questions : Option Addr) (x_Questions_n : Nat) (x_Questions_c : Nat) (l : Option Addr) (l_n : Nat) (l_c : Nat) (w : World) (R : Ending → World → Prop) (h :
(∀ w1 : World, ((w1 = (w.alloc (Obj.cells #[(Value.string x_Name), (Value.int IntKind.i64 x_Version), (Value.slice x_Questions x_Questions_n x_Questions_c)] 24 (0, 0)))) →
(∃ s3 : ByteArray, (((w1.cell? (⟨(hs w), 0, none⟩ : Addr)) = (some (Value.string s3))) ∧
(∃ x4 : Int, (((w1.cell? (⟨(hs w), 1, none⟩ : Addr)) = (some (Value.int IntKind.i64 x4))) ∧
(∃ o5 : Option Addr, (∃ n6 : Nat, (∃ n7 : Nat, (((w1.cell? (⟨(hs w), 2, none⟩ : Addr)) = (some (Value.slice o5 n6 n7))) ∧
(Calls Try.prog 23 #[(Value.agg #[(Value.string s3), (Value.int IntKind.i64 x4), (Value.slice o5 n6 n7)])] w1 (fun (e8 : Ending) => (fun (w9 : World) => (∃ b10 : Bool, ((e8 = (Ending.returned (Value.bool b10))) ∧
(((b10 = true) →
((((decide (((l_n : Nat) : Int) > 60)) = true) →
(Calls Try.prog 24 #[] w9 (fun (e13 : Ending) => (fun (w14 : World) => (∃ b15 : Bool, ((e13 = (Ending.returned (Value.bool b15))) ∧
(((b15 = true) →
(R (Ending.returned (Value.bool true)) w14)) ∧
((b15 = false) →
(R (Ending.returned (Value.bool false)) w14))))))))) ∧
(((decide (((l_n : Nat) : Int) > 60)) = false) →
(∃ s19 : ByteArray, (((w9.cell? (⟨(hs w), 0, none⟩ : Addr)) = (some (Value.string s19))) ∧
(∃ x20 : Int, (((w9.cell? (⟨(hs w), 1, none⟩ : Addr)) = (some (Value.int IntKind.i64 x20))) ∧
(∃ o21 : Option Addr, (∃ n22 : Nat, (∃ n23 : Nat, (((w9.cell? (⟨(hs w), 2, none⟩ : Addr)) = (some (Value.slice o21 n22 n23))) ∧
(Calls Try.prog 31 #[(Value.agg #[(Value.string s19), (Value.int IntKind.i64 x20), (Value.slice o21 n22 n23)])] w9 (fun (e24 : Ending) => (fun (w25 : World) => (∃ x26 : Int, (∃ x27 : Int, ((e24 = (Ending.returned (Value.tuple #[(Value.int IntKind.i64 x26), (Value.int IntKind.i64 x27)]))) ∧
((((!(decide (x27 = 0))) = true) →
(Calls Try.prog 24 #[] w25 (fun (e29 : Ending) => (fun (w30 : World) => (∃ b31 : Bool, ((e29 = (Ending.returned (Value.bool b31))) ∧
(((b31 = true) →
(R (Ending.returned (Value.bool true)) w30)) ∧
((b31 = false) →
(R (Ending.returned (Value.bool false)) w30))))))))) ∧
(((!(decide (x27 = 0))) = false) →
(∃ s35 : ByteArray, (((w25.cell? (⟨(hs w), 0, none⟩ : Addr)) = (some (Value.string s35))) ∧
(∃ x36 : Int, (((w25.cell? (⟨(hs w), 1, none⟩ : Addr)) = (some (Value.int IntKind.i64 x36))) ∧
(∃ o37 : Option Addr, (∃ n38 : Nat, (∃ n39 : Nat, (((w25.cell? (⟨(hs w), 2, none⟩ : Addr)) = (some (Value.slice o37 n38 n39))) ∧
(Calls Try.prog 25 #[(Value.agg #[(Value.string s35), (Value.int IntKind.i64 x36), (Value.slice o37 n38 n39)])] w25 (fun (e40 : Ending) => (fun (w41 : World) => (∃ o42 : Option Addr, (∃ x43 : Int, ((e40 = (Ending.returned (Value.tuple #[(Value.pointer o42), (Value.int IntKind.i64 x43)]))) ∧
((((!(decide (x43 = 0))) = true) →
(R (Ending.returned (Value.bool false)) w41)) ∧
(((!(decide (x43 = 0))) = false) →
((((Option.isNone o42) = true) →
(R (Ending.returned (Value.bool false)) w41)) ∧
(((Option.isNone o42) = false) →
(∃ k48 : (Nat → (Option Addr → (Nat → (Nat → (Int → (World → Prop)))))), ((∃ n49 : Nat, (k48 n49 none 0 0 0 w41)) ∧
(∀ n50 : Nat, ((Nat → Value) →
(∀ w52 : World, (∀ o53 : Option Addr, (∀ n54 : Nat, (∀ n55 : Nat, (∀ x56 : Int, ((k48 n50 o53 n54 n55 x56 w52) →
((((decide (x56 < ((l_n : Nat) : Int))) = true) →
(∃ a59 : Addr, ((l = (some a59)) ∧
((((0 : Int) ≤ x56) ∧
(x56 < ((l_n : Nat) : Int))) ∧
(∃ b60 : Bool, (((w52.cell? (Addr.add a59 ((x56).toNat * 2))) = (some (Value.bool b60))) ∧
(∃ x61 : Int, (((w52.cell? (Addr.add (Addr.add a59 ((x56).toNat * 2)) 1)) = (some (Value.int IntKind.i64 x61))) ∧
(∀ w62 : World, ((w62 = (w52.alloc (Obj.cells #[(Value.bool false), (Value.int IntKind.i64 0)] 50 (0, 0)))) →
((Nf.There w62 (⟨(hs w52), 0, none⟩ : Addr) 2) ∧
(∀ w64 : World, ((w64 = (Nf.setCells w62 (⟨(hs w52), 0, none⟩ : Addr) [(Value.bool b60), (Value.int IntKind.i64 x61)] 0)) →
(∀ k66 : (Option Addr → (Nat → (Nat → (World → Prop)))), ((∀ w68 : World, (∀ o69 : Option Addr, (∀ n70 : Nat, (∀ n71 : Nat, (((Nat → Value) →
(∃ s74 : ByteArray, (((w68.cell? (⟨(hs w), 0, none⟩ : Addr)) = (some (Value.string s74))) ∧
(∃ x75 : Int, (((w68.cell? (⟨(hs w), 1, none⟩ : Addr)) = (some (Value.int IntKind.i64 x75))) ∧
(∃ o76 : Option Addr, (∃ n77 : Nat, (∃ n78 : Nat, (((w68.cell? (⟨(hs w), 2, none⟩ : Addr)) = (some (Value.slice o76 n77 n78))) ∧
(Calls Try.prog 32 #[(Value.pointer o42), (Value.agg #[(Value.string s74), (Value.int IntKind.i64 x75), (Value.slice o76 n77 n78)]), (Value.slice o69 n70 n71)] w68 (fun (e79 : Ending) => (fun (w80 : World) => (∃ b81 : Bool, ((e79 = (Ending.returned (Value.bool b81))) ∧
(((b81 = true) →
(∃ n83 : Nat, ((n83 < n50) ∧
(k48 n83 o69 n70 n71 (IntKind.wrap IntKind.i64 (x56 + 1)) w80)))) ∧
((b81 = false) →
(R (Ending.returned (Value.bool false)) w80))))))))))))))))) →
(k66 o69 n70 n71 w68)))))) →
(∃ b85 : Bool, (((w64.cell? (⟨(hs w52), 0, none⟩ : Addr)) = (some (Value.bool b85))) ∧
(((b85 = true) →
(Calls Try.prog 33 #[(Value.pointer o42)] w64 (fun (e87 : Ending) => (fun (w88 : World) => (∃ x89 : Int, ((e87 = (Ending.returned (Value.int IntKind.i64 x89))) ∧
((((decide (((n54 : Nat) : Int) = 0)) = true) →
((((!(decide (x89 = 8))) = true) →
(R (Ending.returned (Value.bool false)) w88)) ∧
(((!(decide (x89 = 8))) = false) →
((((decide (((n54 : Nat) : Int) > 0)) = true) →
((((!(decide (x89 = 0))) = true) →
(R (Ending.returned (Value.bool false)) w88)) ∧
(((!(decide (x89 = 0))) = false) →
((((0 : Int) ≤ (if ((IntKind.wrap IntKind.i64 (((n54 : Nat) : Int) - 1)) < 0) then 0 else (IntKind.wrap IntKind.i64 (((n54 : Nat) : Int) - 1)))) ∧
((if ((IntKind.wrap IntKind.i64 (((n54 : Nat) : Int) - 1)) < 0) then 0 else (IntKind.wrap IntKind.i64 (((n54 : Nat) : Int) - 1))) ≤ ((n55 : Nat) : Int))) ∧
(k66 (if (n55 = 0) then o53 else (Option.map (fun (x : Addr) => x) o53)) (((if ((IntKind.wrap IntKind.i64 (((n54 : Nat) : Int) - 1)) < 0) then 0 else (IntKind.wrap IntKind.i64 (((n54 : Nat) : Int) - 1)))).toNat - 0) (n55 - 0) w88))))) ∧
(((decide (((n54 : Nat) : Int) > 0)) = false) →
((((0 : Int) ≤ (if ((IntKind.wrap IntKind.i64 (((n54 : Nat) : Int) - 1)) < 0) then 0 else (IntKind.wrap IntKind.i64 (((n54 : Nat) : Int) - 1)))) ∧
((if ((IntKind.wrap IntKind.i64 (((n54 : Nat) : Int) - 1)) < 0) then 0 else (IntKind.wrap IntKind.i64 (((n54 : Nat) : Int) - 1))) ≤ ((n55 : Nat) : Int))) ∧
(k66 (if (n55 = 0) then o53 else (Option.map (fun (x : Addr) => x) o53)) (((if ((IntKind.wrap IntKind.i64 (((n54 : Nat) : Int) - 1)) < 0) then 0 else (IntKind.wrap IntKind.i64 (((n54 : Nat) : Int) - 1)))).toNat - 0) (n55 - 0) w88))))))) ∧
(((decide (((n54 : Nat) : Int) = 0)) = false) →
((((decide (((n54 : Nat) : Int) > 0)) = true) →
((((!(decide (x89 = 0))) = true) →
(R (Ending.returned (Value.bool false)) w88)) ∧
(((!(decide (x89 = 0))) = false) →
((((0 : Int) ≤ (if ((IntKind.wrap IntKind.i64 (((n54 : Nat) : Int) - 1)) < 0) then 0 else (IntKind.wrap IntKind.i64 (((n54 : Nat) : Int) - 1)))) ∧
((if ((IntKind.wrap IntKind.i64 (((n54 : Nat) : Int) - 1)) < 0) then 0 else (IntKind.wrap IntKind.i64 (((n54 : Nat) : Int) - 1))) ≤ ((n55 : Nat) : Int))) ∧
(k66 (if (n55 = 0) then o53 else (Option.map (fun (x : Addr) => x) o53)) (((if ((IntKind.wrap IntKind.i64 (((n54 : Nat) : Int) - 1)) < 0) then 0 else (IntKind.wrap IntKind.i64 (((n54 : Nat) : Int) - 1)))).toNat - 0) (n55 - 0) w88))))) ∧
(((decide (((n54 : Nat) : Int) > 0)) = false) →
((((0 : Int) ≤ (if ((IntKind.wrap IntKind.i64 (((n54 : Nat) : Int) - 1)) < 0) then 0 else (IntKind.wrap IntKind.i64 (((n54 : Nat) : Int) - 1)))) ∧
((if ((IntKind.wrap IntKind.i64 (((n54 : Nat) : Int) - 1)) < 0) then 0 else (IntKind.wrap IntKind.i64 (((n54 : Nat) : Int) - 1))) ≤ ((n55 : Nat) : Int))) ∧
(k66 (if (n55 = 0) then o53 else (Option.map (fun (x : Addr) => x) o53)) (((if ((IntKind.wrap IntKind.i64 (((n54 : Nat) : Int) - 1)) < 0) then 0 else (IntKind.wrap IntKind.i64 (((n54 : Nat) : Int) - 1)))).toNat - 0) (n55 - 0) w88)))))))))))) ∧
((b85 = false) →
(∃ s103 : ByteArray, (((w64.cell? (⟨(hs w), 0, none⟩ : Addr)) = (some (Value.string s103))) ∧
(∃ x104 : Int, (((w64.cell? (⟨(hs w), 1, none⟩ : Addr)) = (some (Value.int IntKind.i64 x104))) ∧
(∃ o105 : Option Addr, (∃ n106 : Nat, (∃ n107 : Nat, (((w64.cell? (⟨(hs w), 2, none⟩ : Addr)) = (some (Value.slice o105 n106 n107))) ∧
(∃ x108 : Int, (((w64.cell? (⟨(hs w52), 1, none⟩ : Addr)) = (some (Value.int IntKind.i64 x108))) ∧
(Calls Try.prog 34 #[(Value.agg #[(Value.string s103), (Value.int IntKind.i64 x104), (Value.slice o105 n106 n107)]), (Value.slice o53 n54 n55), (Value.int IntKind.i64 x108)] w64 (fun (e109 : Ending) => (fun (w110 : World) => (∃ x111 : Int, ((e109 = (Ending.returned (Value.int IntKind.i64 x111))) ∧
(∃ x112 : Int, (((w110.cell? (⟨(hs w52), 1, none⟩ : Addr)) = (some (Value.int IntKind.i64 x112))) ∧
(Calls Try.prog 30 #[(Value.pointer o42), (Value.int IntKind.i64 x112)] w110 (fun (e113 : Ending) => (fun (w114 : World) => (∃ x115 : Int, ((e113 = (Ending.returned (Value.int IntKind.i64 x115))) ∧
((((!(decide (x115 = x111))) = true) →
(R (Ending.returned (Value.bool false)) w114)) ∧
(((!(decide (x115 = x111))) = false) →
((((decide (x111 = 0)) = true) →
(∀ w119 : World, ((w119 = w114.drew) →
(∃ x121 : Int, (((w119.cell? (⟨(hs w52), 1, none⟩ : Addr)) = (some (Value.int IntKind.i64 x121))) ∧
((∀ w122 : World, ((w122 = (w119.alloc (Obj.cells #[] 3 (0, 0)))) →
((Nf.Kept w119 w122 (⟨(hs w52), 1, none⟩ : Addr) 1) ∧
((RunOk Try.prog (Nf.Hold (Builtin.append_ #[48, 48] 48 #[(Value.slice (some (⟨(hs w119), 0, none⟩ : Addr)) 0 0), (Value.slice o53 n54 n55)])) w122 (fun (v124 : Value) => (fun (w125 : World) => (∃ o126 : Option Addr, (∃ n127 : Nat, (∃ n128 : Nat, ((v124 = (Value.slice o126 n127 n128)) ∧
((Nf.Kept w119 w125 (⟨(hs w52), 1, none⟩ : Addr) 1) ∧
(∀ w129 : World, ((w129 = (w125.alloc (Obj.cells #[(Value.int IntKind.i64 x121)] 3 (0, 0)))) →
(RunOk Try.prog (Nf.Hold (Builtin.append_ #[48, 48] 48 #[(Value.slice o126 n127 n128), (Value.slice (some (⟨(hs w125), 0, none⟩ : Addr)) 1 1)])) w129 (fun (v131 : Value) => (fun (w132 : World) => (∃ o133 : Option Addr, (∃ n134 : Nat, (∃ n135 : Nat, ((v131 = (Value.slice o133 n134 n135)) ∧
(k66 o133 n134 n135 w132)))))))))))))))))) ∧
(∀ w136 : World, ((w136 = (w122.alloc (Obj.cells #[(Value.int IntKind.i64 x121)] 3 (0, 0)))) →
(RunOk Try.prog (Nf.Hold (Builtin.append_ #[48, 48] 48 #[(Value.slice (some (⟨(hs w119), 0, none⟩ : Addr)) 0 0), (Value.slice o53 n54 n55)])) w136 (fun (v138 : Value) => (fun (w139 : World) => (∃ o140 : Option Addr, (∃ n141 : Nat, (∃ n142 : Nat, ((v138 = (Value.slice o140 n141 n142)) ∧
(RunOk Try.prog (Nf.Hold (Builtin.append_ #[48, 48] 48 #[(Value.slice o140 n141 n142), (Value.slice (some (⟨(hs w122), 0, none⟩ : Addr)) 1 1)])) w139 (fun (v143 : Value) => (fun (w144 : World) => (∃ o145 : Option Addr, (∃ n146 : Nat, (∃ n147 : Nat, ((v143 = (Value.slice o145 n146 n147)) ∧
(k66 o145 n146 n147 w144))))))))))))))))))))) ∧
(∀ w148 : World, ((w148 = (w119.alloc (Obj.cells #[(Value.int IntKind.i64 x121)] 3 (0, 0)))) →
(∀ w150 : World, ((w150 = (w148.alloc (Obj.cells #[] 3 (0, 0)))) →
(RunOk Try.prog (Nf.Hold (Builtin.append_ #[48, 48] 48 #[(Value.slice (some (⟨(hs w148), 0, none⟩ : Addr)) 0 0), (Value.slice o53 n54 n55)])) w150 (fun (v152 : Value) => (fun (w153 : World) => (∃ o154 : Option Addr, (∃ n155 : Nat, (∃ n156 : Nat, ((v152 = (Value.slice o154 n155 n156)) ∧
(RunOk Try.prog (Nf.Hold (Builtin.append_ #[48, 48] 48 #[(Value.slice o154 n155 n156), (Value.slice (some (⟨(hs w119), 0, none⟩ : Addr)) 1 1)])) w153 (fun (v157 : Value) => (fun (w158 : World) => (∃ o159 : Option Addr, (∃ n160 : Nat, (∃ n161 : Nat, ((v157 = (Value.slice o159 n160 n161)) ∧
(k66 o159 n160 n161 w158))))))))))))))))))))))))) ∧
(((decide (x111 = 0)) = false) →
(k66 o53 n54 n55 w114)))))))))))))))))))))))))))))))))))))))))))))) ∧
(((decide (x56 < ((l_n : Nat) : Int))) = false) →
(Calls Try.prog 24 #[] w52 (fun (e164 : Ending) => (fun (w165 : World) => (∃ b166 : Bool, ((e164 = (Ending.returned (Value.bool b166))) ∧
(((b166 = true) →
(R (Ending.returned (Value.bool true)) w165)) ∧
((b166 = false) →
(R (Ending.returned (Value.bool false)) w165))))))))))))))))))))))))))))))))))))))))))))))))))))))))) ∧
((b10 = false) →
(Calls Try.prog 24 #[] w9 (fun (e170 : Ending) => (fun (w171 : World) => (∃ b172 : Bool, ((e170 = (Ending.returned (Value.bool b172))) ∧
(((b172 = true) →
(R (Ending.returned (Value.bool true)) w171)) ∧
((b172 = false) →
(R (Ending.returned (Value.bool false)) w171)))))))))))))))))))))))))) :
    Calls Try.prog 5 #[(.agg #[(.string x_Name), (.int .i64 x_Version), (.slice x_Questions x_Questions_n x_Questions_c)]), (.slice l l_n l_c)] w R :=
  calls_of_vc an5 Try.func5 rfl (by kernel_rfl) (by kernel_rfl) (Eq.mp (by kernel_rfl) h)

/-- samaritan/samaritanlaw14.InterviewReplay -/
def an6 : An := (.seq (.reg []) (.seq (.seq (.reg [(1, 0, true), (6, 0, true)]) (.cond (.seq (.reg [(0, 0, true)]) .nil) .nil)) (.seq (.regD [(3, 1, false)] [0, 2, 1, 3, 4, 5, 6, 7, 8, 9] [1, 3, 4]) (.seq (.reg []) (.seq (.seq (.reg [(1, 0, true)]) (.cond (.seq (.reg [(1, 3, true), (5, 0, true), (8, 0, true)]) .nil) .nil)) (.seq (.reg [(1, 3, true), (4, 0, true), (10, 0, true), (13, 0, true)]) .nil))))))
set_option maxRecDepth 100000 in
theorem nf6 (x_Name : ByteArray) (x_Version : Int) (x_Questions : Option Addr) (x_Questions_n : Nat) (x_Questions_c : Nat) (said : Option Addr) (said_n : Nat) (said_c : Nat) (w : World) (R : Ending → World → Prop) (h :
(∀ w1 : World, ((w1 = (w.alloc (Obj.cells #[(Value.string x_Name), (Value.int IntKind.i64 x_Version), (Value.slice x_Questions x_Questions_n x_Questions_c)] 24 (0, 0)))) →
(∃ s3 : ByteArray, (((w1.cell? (⟨(hs w), 0, none⟩ : Addr)) = (some (Value.string s3))) ∧
(∃ x4 : Int, (((w1.cell? (⟨(hs w), 1, none⟩ : Addr)) = (some (Value.int IntKind.i64 x4))) ∧
(∃ o5 : Option Addr, (∃ n6 : Nat, (∃ n7 : Nat, (((w1.cell? (⟨(hs w), 2, none⟩ : Addr)) = (some (Value.slice o5 n6 n7))) ∧
(Calls Try.prog 23 #[(Value.agg #[(Value.string s3), (Value.int IntKind.i64 x4), (Value.slice o5 n6 n7)])] w1 (fun (e8 : Ending) => (fun (w9 : World) => (∃ b10 : Bool, ((e8 = (Ending.returned (Value.bool b10))) ∧
(((b10 = true) →
((((decide (((said_n : Nat) : Int) > 60)) = true) →
(Calls Try.prog 24 #[] w9 (fun (e13 : Ending) => (fun (w14 : World) => (∃ b15 : Bool, ((e13 = (Ending.returned (Value.bool b15))) ∧
(((b15 = true) →
(R (Ending.returned (Value.bool true)) w14)) ∧
((b15 = false) →
(R (Ending.returned (Value.bool false)) w14))))))))) ∧
(((decide (((said_n : Nat) : Int) > 60)) = false) →
(∀ w19 : World, ((w19 = w9.drew) →
(∃ s21 : ByteArray, (((w19.cell? (⟨(hs w), 0, none⟩ : Addr)) = (some (Value.string s21))) ∧
(∃ x22 : Int, (((w19.cell? (⟨(hs w), 1, none⟩ : Addr)) = (some (Value.int IntKind.i64 x22))) ∧
(∃ o23 : Option Addr, (∃ n24 : Nat, (∃ n25 : Nat, (((w19.cell? (⟨(hs w), 2, none⟩ : Addr)) = (some (Value.slice o23 n24 n25))) ∧
(∀ w26 : World, ((w26 = (w19.alloc (Obj.cells #[] 3 (0, 0)))) →
((Nf.Kept w19 w26 (⟨(hs w), 0, none⟩ : Addr) 3) ∧
(RunOk Try.prog (Nf.Hold (Builtin.append_ #[48, 48] 48 #[(Value.slice (some (⟨(hs w19), 0, none⟩ : Addr)) 0 0), (Value.slice said said_n said_c)])) w26 (fun (v28 : Value) => (fun (w29 : World) => (∃ o30 : Option Addr, (∃ n31 : Nat, (∃ n32 : Nat, ((v28 = (Value.slice o30 n31 n32)) ∧
((Nf.Kept w19 w29 (⟨(hs w), 0, none⟩ : Addr) 3) ∧
(Calls Try.prog 35 #[(Value.agg #[(Value.string s21), (Value.int IntKind.i64 x22), (Value.slice o23 n24 n25)]), (Value.slice o30 n31 n32)] w29 (fun (e33 : Ending) => (fun (w34 : World) => (∃ o35 : Option Addr, (∃ x36 : Int, ((e33 = (Ending.returned (Value.tuple #[(Value.pointer o35), (Value.int IntKind.i64 x36)]))) ∧
(∃ s37 : ByteArray, (((w34.cell? (⟨(hs w), 0, none⟩ : Addr)) = (some (Value.string s37))) ∧
(∃ x38 : Int, (((w34.cell? (⟨(hs w), 1, none⟩ : Addr)) = (some (Value.int IntKind.i64 x38))) ∧
(∃ o39 : Option Addr, (∃ n40 : Nat, (∃ n41 : Nat, (((w34.cell? (⟨(hs w), 2, none⟩ : Addr)) = (some (Value.slice o39 n40 n41))) ∧
(Calls Try.prog 36 #[(Value.agg #[(Value.string s37), (Value.int IntKind.i64 x38), (Value.slice o39 n40 n41)]), (Value.slice said said_n said_c)] w34 (fun (e42 : Ending) => (fun (w43 : World) => (∃ x44 : Int, ((e42 = (Ending.returned (Value.int IntKind.i64 x44))) ∧
((((!(decide (x44 = 0))) = true) →
((((Option.isNone o35) = true) →
((((decide (x36 = x44)) = true) →
(Calls Try.prog 24 #[] w43 (fun (e48 : Ending) => (fun (w49 : World) => (∃ b50 : Bool, ((e48 = (Ending.returned (Value.bool b50))) ∧
(((b50 = true) →
(R (Ending.returned (Value.bool true)) w49)) ∧
((b50 = false) →
(R (Ending.returned (Value.bool false)) w49))))))))) ∧
(((decide (x36 = x44)) = false) →
(R (Ending.returned (Value.bool false)) w43)))) ∧
(((Option.isNone o35) = false) →
(R (Ending.returned (Value.bool false)) w43)))) ∧
(((!(decide (x44 = 0))) = false) →
((((!(Option.isNone o35)) = true) →
((((decide (x36 = 0)) = true) →
(∃ s58 : ByteArray, (((w43.cell? (⟨(hs w), 0, none⟩ : Addr)) = (some (Value.string s58))) ∧
(∃ x59 : Int, (((w43.cell? (⟨(hs w), 1, none⟩ : Addr)) = (some (Value.int IntKind.i64 x59))) ∧
(∃ o60 : Option Addr, (∃ n61 : Nat, (∃ n62 : Nat, (((w43.cell? (⟨(hs w), 2, none⟩ : Addr)) = (some (Value.slice o60 n61 n62))) ∧
(Calls Try.prog 32 #[(Value.pointer o35), (Value.agg #[(Value.string s58), (Value.int IntKind.i64 x59), (Value.slice o60 n61 n62)]), (Value.slice said said_n said_c)] w43 (fun (e63 : Ending) => (fun (w64 : World) => (∃ b65 : Bool, ((e63 = (Ending.returned (Value.bool b65))) ∧
(((b65 = true) →
(Calls Try.prog 24 #[] w64 (fun (e67 : Ending) => (fun (w68 : World) => (∃ b69 : Bool, ((e67 = (Ending.returned (Value.bool b69))) ∧
(((b69 = true) →
(R (Ending.returned (Value.bool true)) w68)) ∧
((b69 = false) →
(R (Ending.returned (Value.bool false)) w68))))))))) ∧
((b65 = false) →
(R (Ending.returned (Value.bool false)) w64))))))))))))))))) ∧
(((decide (x36 = 0)) = false) →
(R (Ending.returned (Value.bool false)) w43)))) ∧
(((!(Option.isNone o35)) = false) →
(R (Ending.returned (Value.bool false)) w43)))))))))))))))))))))))))))))))))))))))))))))))) ∧
((b10 = false) →
(Calls Try.prog 24 #[] w9 (fun (e76 : Ending) => (fun (w77 : World) => (∃ b78 : Bool, ((e76 = (Ending.returned (Value.bool b78))) ∧
(((b78 = true) →
(R (Ending.returned (Value.bool true)) w77)) ∧
((b78 = false) →
(R (Ending.returned (Value.bool false)) w77)))))))))))))))))))))))))) :
    Calls Try.prog 6 #[(.agg #[(.string x_Name), (.int .i64 x_Version), (.slice x_Questions x_Questions_n x_Questions_c)]), (.slice said said_n said_c)] w R :=
  calls_of_vc an6 Try.func6 rfl (by kernel_rfl) (by kernel_rfl) (Eq.mp (by kernel_rfl) h)

/-- samaritan/samaritanlaw14.InterviewCopies -/
def an7 : An := (.seq (.reg []) (.seq (.seq (.reg [(1, 0, true), (6, 0, true), (12, 0, true)]) (.cond (.seq (.reg [(0, 0, true)]) .nil) .nil)) (.seq (.reg []) (.seq (.reg []) (.seq (.seq (.reg []) (.blk (.loop [(37, .int .i64)] (.seq (.reg [(0, 0, true)]) (.seq (.cond .nil .nil) (.seq (.blk (.seq (.reg []) (.regD [(7, 1, false), (10, 1, false)] [0, 1, 2, 3, 5, 6, 4, 7, 8, 9, 10, 11, 12] [4, 7, 9, 10, 12]))) (.reg []))))))) (.seq (.regD [(3, 1, false)] [0, 2, 1, 3, 4, 5, 6, 7, 8, 9] [1, 3, 4]) (.seq (.seq (.reg [(1, 0, true), (4, 3, true)]) (.cond (.seq (.reg []) .nil) .nil)) (.seq (.seq (.reg []) (.blk (.loop [(71, .int .i64)] (.seq (.reg [(0, 0, true)]) (.seq (.cond .nil .nil) (.seq (.blk (.seq (.reg []) (.seq (.seq (.reg []) (.blk (.loop [(81, .int .i64)] (.seq (.reg [(0, 0, true)]) (.seq (.cond .nil .nil) (.seq (.blk (.seq (.reg []) (.reg []))) (.reg []))))))) (.reg [])))) (.reg []))))))) (.seq (.reg [(4, 0, true)]) (.seq (.seq (.reg []) (.blk (.loop [(108, .int .i64)] (.seq (.reg [(0, 0, true)]) (.seq (.cond .nil .nil) (.seq (.blk (.seq (.reg []) (.reg []))) (.reg []))))))) (.seq (.reg []) (.seq (.seq (.reg []) (.blk (.loop [(121, .int .i64)] (.seq (.reg [(0, 0, true)]) (.seq (.cond .nil .nil) (.seq (.blk (.seq (.reg []) (.reg []))) (.reg []))))))) (.seq (.reg [(3, 0, true), (7, 0, true), (10, 0, true)]) .nil)))))))))))))
set_option maxRecDepth 100000 in
theorem nf7 (x_Name : ByteArray) (x_Version : Int) (x_Questions : Option Addr) (x_Questions_n : Nat) (x_Questions_c : Nat) (said : Option Addr) (said_n : Nat) (said_c : Nat) (w : World) (R : Ending → World → Prop) (h :
(∀ w1 : World, ((w1 = (w.alloc (Obj.cells #[(Value.string x_Name), (Value.int IntKind.i64 x_Version), (Value.slice x_Questions x_Questions_n x_Questions_c)] 24 (0, 0)))) →
(∃ s3 : ByteArray, (((w1.cell? (⟨(hs w), 0, none⟩ : Addr)) = (some (Value.string s3))) ∧
(∃ x4 : Int, (((w1.cell? (⟨(hs w), 1, none⟩ : Addr)) = (some (Value.int IntKind.i64 x4))) ∧
(∃ o5 : Option Addr, (∃ n6 : Nat, (∃ n7 : Nat, (((w1.cell? (⟨(hs w), 2, none⟩ : Addr)) = (some (Value.slice o5 n6 n7))) ∧
(Calls Try.prog 23 #[(Value.agg #[(Value.string s3), (Value.int IntKind.i64 x4), (Value.slice o5 n6 n7)])] w1 (fun (e8 : Ending) => (fun (w9 : World) => (∃ b10 : Bool, ((e8 = (Ending.returned (Value.bool b10))) ∧
(((b10 = true) →
((((decide (((said_n : Nat) : Int) > 60)) = true) →
(Calls Try.prog 24 #[] w9 (fun (e13 : Ending) => (fun (w14 : World) => (∃ b15 : Bool, ((e13 = (Ending.returned (Value.bool b15))) ∧
(((b15 = true) →
(R (Ending.returned (Value.bool true)) w14)) ∧
((b15 = false) →
(R (Ending.returned (Value.bool false)) w14))))))))) ∧
(((decide (((said_n : Nat) : Int) > 60)) = false) →
(∃ s19 : ByteArray, (((w9.cell? (⟨(hs w), 0, none⟩ : Addr)) = (some (Value.string s19))) ∧
(∃ x20 : Int, (((w9.cell? (⟨(hs w), 1, none⟩ : Addr)) = (some (Value.int IntKind.i64 x20))) ∧
(∃ o21 : Option Addr, (∃ n22 : Nat, (∃ n23 : Nat, (((w9.cell? (⟨(hs w), 2, none⟩ : Addr)) = (some (Value.slice o21 n22 n23))) ∧
(Calls Try.prog 36 #[(Value.agg #[(Value.string s19), (Value.int IntKind.i64 x20), (Value.slice o21 n22 n23)]), (Value.slice said said_n said_c)] w9 (fun (e24 : Ending) => (fun (w25 : World) => (∃ x26 : Int, ((e24 = (Ending.returned (Value.int IntKind.i64 x26))) ∧
((((!(decide (x26 = 0))) = true) →
(Calls Try.prog 24 #[] w25 (fun (e28 : Ending) => (fun (w29 : World) => (∃ b30 : Bool, ((e28 = (Ending.returned (Value.bool b30))) ∧
(((b30 = true) →
(R (Ending.returned (Value.bool true)) w29)) ∧
((b30 = false) →
(R (Ending.returned (Value.bool false)) w29))))))))) ∧
(((!(decide (x26 = 0))) = false) →
(∃ s34 : ByteArray, (((w25.cell? (⟨(hs w), 0, none⟩ : Addr)) = (some (Value.string s34))) ∧
(∃ x35 : Int, (((w25.cell? (⟨(hs w), 1, none⟩ : Addr)) = (some (Value.int IntKind.i64 x35))) ∧
(∃ o36 : Option Addr, (∃ n37 : Nat, (∃ n38 : Nat, (((w25.cell? (⟨(hs w), 2, none⟩ : Addr)) = (some (Value.slice o36 n37 n38))) ∧
(∀ w39 : World, ((w39 = (w25.alloc (Obj.cells #[(Value.string (ByteArray.mk #[])), (Value.int IntKind.i64 0), (Value.slice none 0 0)] 24 (0, 0)))) →
((Nf.There w39 (⟨(hs w25), 0, none⟩ : Addr) 3) ∧
(∀ w41 : World, ((w41 = (Nf.setCells w39 (⟨(hs w25), 0, none⟩ : Addr) [(Value.string s34), (Value.int IntKind.i64 x35), (Value.slice o36 n37 n38)] 0)) →
((Nf.There w41 (⟨(hs w25), 2, none⟩ : Addr) 1) ∧
(∀ w43 : World, ((w43 = (Nf.setCells w41 (⟨(hs w25), 2, none⟩ : Addr) [(Value.slice none 0 0)] 0)) →
(∃ o45 : Option Addr, (∃ n46 : Nat, (∃ n47 : Nat, (((w43.cell? (⟨(hs w), 2, none⟩ : Addr)) = (some (Value.slice o45 n46 n47))) ∧
(∃ k48 : (Nat → (Int → (World → Prop))), ((∃ n49 : Nat, (k48 n49 0 w43)) ∧
(∀ n50 : Nat, ((Nat → Value) →
(∀ w52 : World, (∀ x53 : Int, ((k48 n50 x53 w52) →
((((decide (x53 < ((n46 : Nat) : Int))) = true) →
(∃ a56 : Addr, ((o45 = (some a56)) ∧
((((0 : Int) ≤ x53) ∧
(x53 < ((n46 : Nat) : Int))) ∧
(∃ s57 : ByteArray, (((w52.cell? (Addr.add a56 ((x53).toNat * 2))) = (some (Value.string s57))) ∧
(∃ o58 : Option Addr, (∃ n59 : Nat, (∃ n60 : Nat, (((w52.cell? (Addr.add (Addr.add a56 ((x53).toNat * 2)) 1)) = (some (Value.slice o58 n59 n60))) ∧
(∀ w61 : World, ((w61 = (w52.alloc (Obj.cells #[(Value.string (ByteArray.mk #[])), (Value.slice none 0 0)] 38 (0, 0)))) →
((Nf.There w61 (⟨(hs w52), 0, none⟩ : Addr) 2) ∧
(∀ w63 : World, ((w63 = (Nf.setCells w61 (⟨(hs w52), 0, none⟩ : Addr) [(Value.string s57), (Value.slice o58 n59 n60)] 0)) →
(∀ w65 : World, ((w65 = w63.drew) →
(∃ o67 : Option Addr, (∃ n68 : Nat, (∃ n69 : Nat, (((w65.cell? (⟨(hs w25), 2, none⟩ : Addr)) = (some (Value.slice o67 n68 n69))) ∧
(∃ s70 : ByteArray, (((w65.cell? (⟨(hs w52), 0, none⟩ : Addr)) = (some (Value.string s70))) ∧
(∃ o71 : Option Addr, (∃ n72 : Nat, (∃ n73 : Nat, (((w65.cell? (⟨(hs w52), 1, none⟩ : Addr)) = (some (Value.slice o71 n72 n73))) ∧
(∀ w74 : World, ((w74 = (w65.alloc (Obj.cells #[] 58 (0, 0)))) →
((Nf.Kept w65 w74 (⟨(hs w52), 1, none⟩ : Addr) 1) ∧
((Nf.Kept w65 w74 (⟨(hs w52), 0, none⟩ : Addr) 1) ∧
((Nf.Kept w65 w74 (⟨(hs w25), 2, none⟩ : Addr) 1) ∧
(RunOk Try.prog (Nf.Hold (Builtin.append_ #[36, 36] 36 #[(Value.slice (some (⟨(hs w65), 0, none⟩ : Addr)) 0 0), (Value.slice o71 n72 n73)])) w74 (fun (v76 : Value) => (fun (w77 : World) => (∃ o78 : Option Addr, (∃ n79 : Nat, (∃ n80 : Nat, ((v76 = (Value.slice o78 n79 n80)) ∧
((Nf.Kept w65 w77 (⟨(hs w52), 0, none⟩ : Addr) 1) ∧
((Nf.Kept w65 w77 (⟨(hs w25), 2, none⟩ : Addr) 1) ∧
(∀ w81 : World, ((w81 = (w77.alloc (Obj.cells #[(Value.string s70), (Value.slice o78 n79 n80)] 38 (0, 0)))) →
((Nf.Kept w65 w81 (⟨(hs w25), 2, none⟩ : Addr) 1) ∧
(RunOk Try.prog (Nf.Hold (Builtin.append_ #[22, 22] 22 #[(Value.slice o67 n68 n69), (Value.slice (some (⟨(hs w77), 0, none⟩ : Addr)) 1 1)])) w81 (fun (v83 : Value) => (fun (w84 : World) => (∃ o85 : Option Addr, (∃ n86 : Nat, (∃ n87 : Nat, ((v83 = (Value.slice o85 n86 n87)) ∧
((Nf.There w84 (⟨(hs w25), 2, none⟩ : Addr) 1) ∧
(∀ w88 : World, ((w88 = (Nf.setCells w84 (⟨(hs w25), 2, none⟩ : Addr) [(Value.slice o85 n86 n87)] 0)) →
(∃ n90 : Nat, ((n90 < n50) ∧
(k48 n90 (IntKind.wrap IntKind.i64 (x53 + 1)) w88))))))))))))))))))))))))))))))))))))))))))))))))))))))))) ∧
(((decide (x53 < ((n46 : Nat) : Int))) = false) →
(∀ w92 : World, ((w92 = w52.drew) →
(∃ s94 : ByteArray, (((w92.cell? (⟨(hs w25), 0, none⟩ : Addr)) = (some (Value.string s94))) ∧
(∃ x95 : Int, (((w92.cell? (⟨(hs w25), 1, none⟩ : Addr)) = (some (Value.int IntKind.i64 x95))) ∧
(∃ o96 : Option Addr, (∃ n97 : Nat, (∃ n98 : Nat, (((w92.cell? (⟨(hs w25), 2, none⟩ : Addr)) = (some (Value.slice o96 n97 n98))) ∧
(∀ w99 : World, ((w99 = (w92.alloc (Obj.cells #[] 3 (0, 0)))) →
((Nf.Kept w92 w99 (⟨(hs w25), 0, none⟩ : Addr) 3) ∧
(RunOk Try.prog (Nf.Hold (Builtin.append_ #[48, 48] 48 #[(Value.slice (some (⟨(hs w92), 0, none⟩ : Addr)) 0 0), (Value.slice said said_n said_c)])) w99 (fun (v101 : Value) => (fun (w102 : World) => (∃ o103 : Option Addr, (∃ n104 : Nat, (∃ n105 : Nat, ((v101 = (Value.slice o103 n104 n105)) ∧
((Nf.Kept w92 w102 (⟨(hs w25), 0, none⟩ : Addr) 3) ∧
(Calls Try.prog 35 #[(Value.agg #[(Value.string s94), (Value.int IntKind.i64 x95), (Value.slice o96 n97 n98)]), (Value.slice o103 n104 n105)] w102 (fun (e106 : Ending) => (fun (w107 : World) => (∃ o108 : Option Addr, (∃ x109 : Int, ((e106 = (Ending.returned (Value.tuple #[(Value.pointer o108), (Value.int IntKind.i64 x109)]))) ∧
((((!(decide (x109 = 0))) = true) →
(R (Ending.returned (Value.bool false)) w107)) ∧
(((!(decide (x109 = 0))) = false) →
((((Option.isNone o108) = true) →
(R (Ending.returned (Value.bool false)) w107)) ∧
(((Option.isNone o108) = false) →
(∃ o114 : Option Addr, (∃ n115 : Nat, (∃ n116 : Nat, (((w107.cell? (⟨(hs w25), 2, none⟩ : Addr)) = (some (Value.slice o114 n115 n116))) ∧
(∃ k117 : (Nat → (Int → (World → Prop))), ((∃ n118 : Nat, (k117 n118 0 w107)) ∧
(∀ n119 : Nat, ((Nat → Value) →
(∀ w121 : World, (∀ x122 : Int, ((k117 n119 x122 w121) →
((((decide (x122 < ((n115 : Nat) : Int))) = true) →
(∃ o125 : Option Addr, (∃ n126 : Nat, (∃ n127 : Nat, (((w121.cell? (⟨(hs w25), 2, none⟩ : Addr)) = (some (Value.slice o125 n126 n127))) ∧
(∃ a128 : Addr, ((o125 = (some a128)) ∧
((((0 : Int) ≤ x122) ∧
(x122 < ((n126 : Nat) : Int))) ∧
(∃ o129 : Option Addr, (∃ n130 : Nat, (∃ n131 : Nat, (((w121.cell? (Addr.add (Addr.add a128 ((x122).toNat * 2)) 1)) = (some (Value.slice o129 n130 n131))) ∧
(∃ k132 : (Nat → (Int → (World → Prop))), ((∃ n133 : Nat, (k132 n133 0 w121)) ∧
(∀ n134 : Nat, ((Nat → Value) →
(∀ w136 : World, (∀ x137 : Int, ((k132 n134 x137 w136) →
((((decide (x137 < ((n130 : Nat) : Int))) = true) →
(∃ o140 : Option Addr, (∃ n141 : Nat, (∃ n142 : Nat, (((w136.cell? (⟨(hs w25), 2, none⟩ : Addr)) = (some (Value.slice o140 n141 n142))) ∧
(∃ a143 : Addr, ((o140 = (some a143)) ∧
((((0 : Int) ≤ x122) ∧
(x122 < ((n141 : Nat) : Int))) ∧
(∃ o144 : Option Addr, (∃ n145 : Nat, (∃ n146 : Nat, (((w136.cell? (Addr.add (Addr.add a143 ((x122).toNat * 2)) 1)) = (some (Value.slice o144 n145 n146))) ∧
(∃ a147 : Addr, ((o144 = (some a147)) ∧
((((0 : Int) ≤ x137) ∧
(x137 < ((n145 : Nat) : Int))) ∧
((Nf.There w136 (Addr.add a147 ((x137).toNat * 4)) 4) ∧
(∀ w148 : World, ((w148 = (Nf.setCells w136 (Addr.add a147 ((x137).toNat * 4)) [(Value.string (ByteArray.mk #[(115 : UInt8), (112 : UInt8), (111 : UInt8), (105 : UInt8), (108 : UInt8), (116 : UInt8)])), (Value.int IntKind.i64 (-1)), (Value.int IntKind.i64 2), (Value.string (ByteArray.mk #[(115 : UInt8), (112 : UInt8), (111 : UInt8), (105 : UInt8), (108 : UInt8), (116 : UInt8)]))] 0)) →
(∃ n150 : Nat, ((n150 < n134) ∧
(k132 n150 (IntKind.wrap IntKind.i64 (x137 + 1)) w148))))))))))))))))))))) ∧
(((decide (x137 < ((n130 : Nat) : Int))) = false) →
(∃ o152 : Option Addr, (∃ n153 : Nat, (∃ n154 : Nat, (((w136.cell? (⟨(hs w25), 2, none⟩ : Addr)) = (some (Value.slice o152 n153 n154))) ∧
(∃ a155 : Addr, ((o152 = (some a155)) ∧
((((0 : Int) ≤ x122) ∧
(x122 < ((n153 : Nat) : Int))) ∧
((Nf.There w136 (Addr.add a155 ((x122).toNat * 2)) 1) ∧
(∀ w156 : World, ((w156 = (Nf.setCells w136 (Addr.add a155 ((x122).toNat * 2)) [(Value.string (ByteArray.mk #[(115 : UInt8), (112 : UInt8), (111 : UInt8), (105 : UInt8), (108 : UInt8), (116 : UInt8)]))] 0)) →
(∃ n158 : Nat, ((n158 < n119) ∧
(k117 n158 (IntKind.wrap IntKind.i64 (x122 + 1)) w156)))))))))))))))))))))))))))))))))) ∧
(((decide (x122 < ((n115 : Nat) : Int))) = false) →
(Calls Try.prog 28 #[(Value.pointer o108)] w121 (fun (e160 : Ending) => (fun (w161 : World) => (∃ s162 : ByteArray, (∃ o163 : Option Addr, (∃ n164 : Nat, (∃ n165 : Nat, (∃ b166 : Bool, ((e160 = (Ending.returned (Value.tuple #[(Value.agg #[(Value.string s162), (Value.slice o163 n164 n165)]), (Value.bool b166)]))) ∧
(((b166 = true) →
(∀ w168 : World, ((w168 = (w161.alloc (Obj.cells #[(Value.string (ByteArray.mk #[])), (Value.slice none 0 0)] 38 (0, 0)))) →
((Nf.There w168 (⟨(hs w161), 0, none⟩ : Addr) 2) ∧
(∀ w170 : World, ((w170 = (Nf.setCells w168 (⟨(hs w161), 0, none⟩ : Addr) [(Value.string s162), (Value.slice o163 n164 n165)] 0)) →
(∃ o172 : Option Addr, (∃ n173 : Nat, (∃ n174 : Nat, (((w170.cell? (⟨(hs w161), 1, none⟩ : Addr)) = (some (Value.slice o172 n173 n174))) ∧
(∃ k175 : (Nat → (Int → (World → Prop))), ((∃ n176 : Nat, (k175 n176 0 w170)) ∧
(∀ n177 : Nat, ((Nat → Value) →
(∀ w179 : World, (∀ x180 : Int, ((k175 n177 x180 w179) →
((((decide (x180 < ((n173 : Nat) : Int))) = true) →
(∃ o183 : Option Addr, (∃ n184 : Nat, (∃ n185 : Nat, (((w179.cell? (⟨(hs w161), 1, none⟩ : Addr)) = (some (Value.slice o183 n184 n185))) ∧
(∃ a186 : Addr, ((o183 = (some a186)) ∧
((((0 : Int) ≤ x180) ∧
(x180 < ((n184 : Nat) : Int))) ∧
((Nf.There w179 (Addr.add a186 ((x180).toNat * 4)) 1) ∧
(∀ w187 : World, ((w187 = (Nf.setCells w179 (Addr.add a186 ((x180).toNat * 4)) [(Value.string (ByteArray.mk #[(115 : UInt8), (112 : UInt8), (111 : UInt8), (105 : UInt8), (108 : UInt8), (116 : UInt8)]))] 0)) →
(∃ n189 : Nat, ((n189 < n177) ∧
(k175 n189 (IntKind.wrap IntKind.i64 (x180 + 1)) w187)))))))))))))) ∧
(((decide (x180 < ((n173 : Nat) : Int))) = false) →
(Calls Try.prog 37 #[(Value.pointer o108)] w179 (fun (e191 : Ending) => (fun (w192 : World) => (∃ o193 : Option Addr, (∃ n194 : Nat, (∃ n195 : Nat, ((e191 = (Ending.returned (Value.slice o193 n194 n195))) ∧
(∃ k196 : (Nat → (Int → (World → Prop))), ((∃ n197 : Nat, (k196 n197 0 w192)) ∧
(∀ n198 : Nat, ((Nat → Value) →
(∀ w200 : World, (∀ x201 : Int, ((k196 n198 x201 w200) →
((((decide (x201 < ((n194 : Nat) : Int))) = true) →
(∃ a204 : Addr, ((o193 = (some a204)) ∧
((((0 : Int) ≤ x201) ∧
(x201 < ((n194 : Nat) : Int))) ∧
((Nf.There w200 (Addr.add a204 ((x201).toNat * 1)) 1) ∧
(∀ w205 : World, ((w205 = (Nf.setCells w200 (Addr.add a204 ((x201).toNat * 1)) [(Value.int IntKind.i64 99)] 0)) →
(∃ n207 : Nat, ((n207 < n198) ∧
(k196 n207 (IntKind.wrap IntKind.i64 (x201 + 1)) w205)))))))))) ∧
(((decide (x201 < ((n194 : Nat) : Int))) = false) →
(∃ s209 : ByteArray, (((w200.cell? (⟨(hs w), 0, none⟩ : Addr)) = (some (Value.string s209))) ∧
(∃ x210 : Int, (((w200.cell? (⟨(hs w), 1, none⟩ : Addr)) = (some (Value.int IntKind.i64 x210))) ∧
(∃ o211 : Option Addr, (∃ n212 : Nat, (∃ n213 : Nat, (((w200.cell? (⟨(hs w), 2, none⟩ : Addr)) = (some (Value.slice o211 n212 n213))) ∧
(Calls Try.prog 32 #[(Value.pointer o108), (Value.agg #[(Value.string s209), (Value.int IntKind.i64 x210), (Value.slice o211 n212 n213)]), (Value.slice said said_n said_c)] w200 (fun (e214 : Ending) => (fun (w215 : World) => (∃ b216 : Bool, ((e214 = (Ending.returned (Value.bool b216))) ∧
(((b216 = true) →
(∃ s218 : ByteArray, (((w215.cell? (⟨(hs w), 0, none⟩ : Addr)) = (some (Value.string s218))) ∧
(∃ x219 : Int, (((w215.cell? (⟨(hs w), 1, none⟩ : Addr)) = (some (Value.int IntKind.i64 x219))) ∧
(∃ o220 : Option Addr, (∃ n221 : Nat, (∃ n222 : Nat, (((w215.cell? (⟨(hs w), 2, none⟩ : Addr)) = (some (Value.slice o220 n221 n222))) ∧
(∃ s223 : ByteArray, (((w215.cell? (⟨(hs w), 0, none⟩ : Addr)) = (some (Value.string s223))) ∧
(∃ x224 : Int, (((w215.cell? (⟨(hs w), 1, none⟩ : Addr)) = (some (Value.int IntKind.i64 x224))) ∧
(∃ o225 : Option Addr, (∃ n226 : Nat, (∃ n227 : Nat, (((w215.cell? (⟨(hs w), 2, none⟩ : Addr)) = (some (Value.slice o225 n226 n227))) ∧
(Calls Try.prog 38 #[(Value.agg #[(Value.string s218), (Value.int IntKind.i64 x219), (Value.slice o220 n221 n222)]), (Value.agg #[(Value.string s223), (Value.int IntKind.i64 x224), (Value.slice o225 n226 n227)])] w215 (fun (e228 : Ending) => (fun (w229 : World) => (∃ b230 : Bool, ((e228 = (Ending.returned (Value.bool b230))) ∧
(((b230 = true) →
(Calls Try.prog 24 #[] w229 (fun (e232 : Ending) => (fun (w233 : World) => (∃ b234 : Bool, ((e232 = (Ending.returned (Value.bool b234))) ∧
(((b234 = true) →
(R (Ending.returned (Value.bool true)) w233)) ∧
((b234 = false) →
(R (Ending.returned (Value.bool false)) w233))))))))) ∧
((b230 = false) →
(R (Ending.returned (Value.bool false)) w229))))))))))))))))))))))))) ∧
((b216 = false) →
(R (Ending.returned (Value.bool false)) w215))))))))))))))))))))))))))))))))))))))))))))))))))) ∧
((b166 = false) →
(∀ w240 : World, ((w240 = (w161.alloc (Obj.cells #[(Value.string (ByteArray.mk #[])), (Value.slice none 0 0)] 38 (0, 0)))) →
((Nf.There w240 (⟨(hs w161), 0, none⟩ : Addr) 2) ∧
(∀ w242 : World, ((w242 = (Nf.setCells w240 (⟨(hs w161), 0, none⟩ : Addr) [(Value.string s162), (Value.slice o163 n164 n165)] 0)) →
(∃ o244 : Option Addr, (∃ n245 : Nat, (∃ n246 : Nat, (((w242.cell? (⟨(hs w161), 1, none⟩ : Addr)) = (some (Value.slice o244 n245 n246))) ∧
(∃ k247 : (Nat → (Int → (World → Prop))), ((∃ n248 : Nat, (k247 n248 0 w242)) ∧
(∀ n249 : Nat, ((Nat → Value) →
(∀ w251 : World, (∀ x252 : Int, ((k247 n249 x252 w251) →
((((decide (x252 < ((n245 : Nat) : Int))) = true) →
(∃ o255 : Option Addr, (∃ n256 : Nat, (∃ n257 : Nat, (((w251.cell? (⟨(hs w161), 1, none⟩ : Addr)) = (some (Value.slice o255 n256 n257))) ∧
(∃ a258 : Addr, ((o255 = (some a258)) ∧
((((0 : Int) ≤ x252) ∧
(x252 < ((n256 : Nat) : Int))) ∧
((Nf.There w251 (Addr.add a258 ((x252).toNat * 4)) 1) ∧
(∀ w259 : World, ((w259 = (Nf.setCells w251 (Addr.add a258 ((x252).toNat * 4)) [(Value.string (ByteArray.mk #[(115 : UInt8), (112 : UInt8), (111 : UInt8), (105 : UInt8), (108 : UInt8), (116 : UInt8)]))] 0)) →
(∃ n261 : Nat, ((n261 < n249) ∧
(k247 n261 (IntKind.wrap IntKind.i64 (x252 + 1)) w259)))))))))))))) ∧
(((decide (x252 < ((n245 : Nat) : Int))) = false) →
(Calls Try.prog 37 #[(Value.pointer o108)] w251 (fun (e263 : Ending) => (fun (w264 : World) => (∃ o265 : Option Addr, (∃ n266 : Nat, (∃ n267 : Nat, ((e263 = (Ending.returned (Value.slice o265 n266 n267))) ∧
(∃ k268 : (Nat → (Int → (World → Prop))), ((∃ n269 : Nat, (k268 n269 0 w264)) ∧
(∀ n270 : Nat, ((Nat → Value) →
(∀ w272 : World, (∀ x273 : Int, ((k268 n270 x273 w272) →
((((decide (x273 < ((n266 : Nat) : Int))) = true) →
(∃ a276 : Addr, ((o265 = (some a276)) ∧
((((0 : Int) ≤ x273) ∧
(x273 < ((n266 : Nat) : Int))) ∧
((Nf.There w272 (Addr.add a276 ((x273).toNat * 1)) 1) ∧
(∀ w277 : World, ((w277 = (Nf.setCells w272 (Addr.add a276 ((x273).toNat * 1)) [(Value.int IntKind.i64 99)] 0)) →
(∃ n279 : Nat, ((n279 < n270) ∧
(k268 n279 (IntKind.wrap IntKind.i64 (x273 + 1)) w277)))))))))) ∧
(((decide (x273 < ((n266 : Nat) : Int))) = false) →
(∃ s281 : ByteArray, (((w272.cell? (⟨(hs w), 0, none⟩ : Addr)) = (some (Value.string s281))) ∧
(∃ x282 : Int, (((w272.cell? (⟨(hs w), 1, none⟩ : Addr)) = (some (Value.int IntKind.i64 x282))) ∧
(∃ o283 : Option Addr, (∃ n284 : Nat, (∃ n285 : Nat, (((w272.cell? (⟨(hs w), 2, none⟩ : Addr)) = (some (Value.slice o283 n284 n285))) ∧
(Calls Try.prog 32 #[(Value.pointer o108), (Value.agg #[(Value.string s281), (Value.int IntKind.i64 x282), (Value.slice o283 n284 n285)]), (Value.slice said said_n said_c)] w272 (fun (e286 : Ending) => (fun (w287 : World) => (∃ b288 : Bool, ((e286 = (Ending.returned (Value.bool b288))) ∧
(((b288 = true) →
(∃ s290 : ByteArray, (((w287.cell? (⟨(hs w), 0, none⟩ : Addr)) = (some (Value.string s290))) ∧
(∃ x291 : Int, (((w287.cell? (⟨(hs w), 1, none⟩ : Addr)) = (some (Value.int IntKind.i64 x291))) ∧
(∃ o292 : Option Addr, (∃ n293 : Nat, (∃ n294 : Nat, (((w287.cell? (⟨(hs w), 2, none⟩ : Addr)) = (some (Value.slice o292 n293 n294))) ∧
(∃ s295 : ByteArray, (((w287.cell? (⟨(hs w), 0, none⟩ : Addr)) = (some (Value.string s295))) ∧
(∃ x296 : Int, (((w287.cell? (⟨(hs w), 1, none⟩ : Addr)) = (some (Value.int IntKind.i64 x296))) ∧
(∃ o297 : Option Addr, (∃ n298 : Nat, (∃ n299 : Nat, (((w287.cell? (⟨(hs w), 2, none⟩ : Addr)) = (some (Value.slice o297 n298 n299))) ∧
(Calls Try.prog 38 #[(Value.agg #[(Value.string s290), (Value.int IntKind.i64 x291), (Value.slice o292 n293 n294)]), (Value.agg #[(Value.string s295), (Value.int IntKind.i64 x296), (Value.slice o297 n298 n299)])] w287 (fun (e300 : Ending) => (fun (w301 : World) => (∃ b302 : Bool, ((e300 = (Ending.returned (Value.bool b302))) ∧
(((b302 = true) →
(Calls Try.prog 24 #[] w301 (fun (e304 : Ending) => (fun (w305 : World) => (∃ b306 : Bool, ((e304 = (Ending.returned (Value.bool b306))) ∧
(((b306 = true) →
(R (Ending.returned (Value.bool true)) w305)) ∧
((b306 = false) →
(R (Ending.returned (Value.bool false)) w305))))))))) ∧
((b302 = false) →
(R (Ending.returned (Value.bool false)) w301))))))))))))))))))))))))) ∧
((b288 = false) →
(R (Ending.returned (Value.bool false)) w287)))))))))))))))))))))))))))))))))))))))))))))))))))))))))))))))))))))))))))))))))))))))))))))))))))))))))))))))))))))))))))))))))))))))))))))))))))))))) ∧
((b10 = false) →
(Calls Try.prog 24 #[] w9 (fun (e312 : Ending) => (fun (w313 : World) => (∃ b314 : Bool, ((e312 = (Ending.returned (Value.bool b314))) ∧
(((b314 = true) →
(R (Ending.returned (Value.bool true)) w313)) ∧
((b314 = false) →
(R (Ending.returned (Value.bool false)) w313)))))))))))))))))))))))))) :
    Calls Try.prog 7 #[(.agg #[(.string x_Name), (.int .i64 x_Version), (.slice x_Questions x_Questions_n x_Questions_c)]), (.slice said said_n said_c)] w R :=
  calls_of_vc an7 Try.func7 rfl (by kernel_rfl) (by kernel_rfl) (Eq.mp (by kernel_rfl) h)

/-- samaritan/samaritanlaw14.InterviewUndo -/
def an8 : An := (.seq (.reg []) (.seq (.seq (.reg [(1, 0, true), (6, 0, true)]) (.cond (.seq (.reg [(0, 0, true)]) .nil) .nil)) (.seq (.reg []) (.seq (.seq (.reg [(1, 0, true)]) (.cond (.seq (.reg [(0, 0, true)]) .nil) .nil)) (.seq (.reg [(5, 2, false)]) (.seq (.seq (.reg []) (.blk (.loop [(35, .int .i64)] (.seq (.reg [(0, 0, true)]) (.seq (.cond .nil .nil) (.seq (.blk (.seq (.reg [(2, 0, true)]) (.cond (.seq (.reg []) .nil) .nil))) (.reg []))))))) (.seq (.regD [(7, 2, false), (8, 0, true), (10, 0, true)] [0, 1, 2, 3, 4, 5, 6, 7, 8, 9, 10, 11, 12] [8, 10]) .nil)))))))
set_option maxRecDepth 100000 in
theorem nf8 (x_Name : ByteArray) (x_Version : Int) (x_Questions : Option Addr) (x_Questions_n : Nat) (x_Questions_c : Nat) (said : Option Addr) (said_n : Nat) (said_c : Nat) (back : Int) (w : World) (R : Ending → World → Prop) (h :
(∀ w1 : World, ((w1 = (w.alloc (Obj.cells #[(Value.string x_Name), (Value.int IntKind.i64 x_Version), (Value.slice x_Questions x_Questions_n x_Questions_c)] 24 (0, 0)))) →
(∃ s3 : ByteArray, (((w1.cell? (⟨(hs w), 0, none⟩ : Addr)) = (some (Value.string s3))) ∧
(∃ x4 : Int, (((w1.cell? (⟨(hs w), 1, none⟩ : Addr)) = (some (Value.int IntKind.i64 x4))) ∧
(∃ o5 : Option Addr, (∃ n6 : Nat, (∃ n7 : Nat, (((w1.cell? (⟨(hs w), 2, none⟩ : Addr)) = (some (Value.slice o5 n6 n7))) ∧
(Calls Try.prog 23 #[(Value.agg #[(Value.string s3), (Value.int IntKind.i64 x4), (Value.slice o5 n6 n7)])] w1 (fun (e8 : Ending) => (fun (w9 : World) => (∃ b10 : Bool, ((e8 = (Ending.returned (Value.bool b10))) ∧
(((b10 = true) →
((((decide (((said_n : Nat) : Int) > 60)) = true) →
(Calls Try.prog 24 #[] w9 (fun (e13 : Ending) => (fun (w14 : World) => (∃ b15 : Bool, ((e13 = (Ending.returned (Value.bool b15))) ∧
(((b15 = true) →
(R (Ending.returned (Value.bool true)) w14)) ∧
((b15 = false) →
(R (Ending.returned (Value.bool false)) w14))))))))) ∧
(((decide (((said_n : Nat) : Int) > 60)) = false) →
(∃ s19 : ByteArray, (((w9.cell? (⟨(hs w), 0, none⟩ : Addr)) = (some (Value.string s19))) ∧
(∃ x20 : Int, (((w9.cell? (⟨(hs w), 1, none⟩ : Addr)) = (some (Value.int IntKind.i64 x20))) ∧
(∃ o21 : Option Addr, (∃ n22 : Nat, (∃ n23 : Nat, (((w9.cell? (⟨(hs w), 2, none⟩ : Addr)) = (some (Value.slice o21 n22 n23))) ∧
(Calls Try.prog 35 #[(Value.agg #[(Value.string s19), (Value.int IntKind.i64 x20), (Value.slice o21 n22 n23)]), (Value.slice said said_n said_c)] w9 (fun (e24 : Ending) => (fun (w25 : World) => (∃ o26 : Option Addr, (∃ x27 : Int, ((e24 = (Ending.returned (Value.tuple #[(Value.pointer o26), (Value.int IntKind.i64 x27)]))) ∧
((((!(decide (x27 = 0))) = true) →
(Calls Try.prog 24 #[] w25 (fun (e29 : Ending) => (fun (w30 : World) => (∃ b31 : Bool, ((e29 = (Ending.returned (Value.bool b31))) ∧
(((b31 = true) →
(R (Ending.returned (Value.bool true)) w30)) ∧
((b31 = false) →
(R (Ending.returned (Value.bool false)) w30))))))))) ∧
(((!(decide (x27 = 0))) = false) →
(((IntKind.wrap IntKind.i64 (((said_n : Nat) : Int) + 1)) ≠ 0) ∧
(∃ k35 : (Nat → (Int → (World → Prop))), ((∃ n36 : Nat, (k35 n36 0 w25)) ∧
(∀ n37 : Nat, ((Nat → Value) →
(∀ w39 : World, (∀ x40 : Int, ((k35 n37 x40 w39) →
((((decide (x40 < (Int.tmod (IntKind.wrap IntKind.i64 back) (IntKind.wrap IntKind.i64 (((said_n : Nat) : Int) + 1))))) = true) →
(Calls Try.prog 33 #[(Value.pointer o26)] w39 (fun (e43 : Ending) => (fun (w44 : World) => (∃ x45 : Int, ((e43 = (Ending.returned (Value.int IntKind.i64 x45))) ∧
((((!(decide (x45 = 0))) = true) →
(R (Ending.returned (Value.bool false)) w44)) ∧
(((!(decide (x45 = 0))) = false) →
(∃ n48 : Nat, ((n48 < n37) ∧
(k35 n48 (IntKind.wrap IntKind.i64 (x40 + 1)) w44))))))))))) ∧
(((decide (x40 < (Int.tmod (IntKind.wrap IntKind.i64 back) (IntKind.wrap IntKind.i64 (((said_n : Nat) : Int) + 1))))) = false) →
(∀ w50 : World, ((w50 = w39.drew) →
(∃ s52 : ByteArray, (((w50.cell? (⟨(hs w), 0, none⟩ : Addr)) = (some (Value.string s52))) ∧
(∃ x53 : Int, (((w50.cell? (⟨(hs w), 1, none⟩ : Addr)) = (some (Value.int IntKind.i64 x53))) ∧
(∃ o54 : Option Addr, (∃ n55 : Nat, (∃ n56 : Nat, (((w50.cell? (⟨(hs w), 2, none⟩ : Addr)) = (some (Value.slice o54 n55 n56))) ∧
((((0 : Int) ≤ (IntKind.wrap IntKind.i64 (((said_n : Nat) : Int) - (Int.tmod (IntKind.wrap IntKind.i64 back) (IntKind.wrap IntKind.i64 (((said_n : Nat) : Int) + 1)))))) ∧
((IntKind.wrap IntKind.i64 (((said_n : Nat) : Int) - (Int.tmod (IntKind.wrap IntKind.i64 back) (IntKind.wrap IntKind.i64 (((said_n : Nat) : Int) + 1))))) ≤ ((said_c : Nat) : Int))) ∧
(Calls Try.prog 32 #[(Value.pointer o26), (Value.agg #[(Value.string s52), (Value.int IntKind.i64 x53), (Value.slice o54 n55 n56)]), (Value.slice (if (said_c = 0) then said else (Option.map (fun (x : Addr) => x) said)) (((IntKind.wrap IntKind.i64 (((said_n : Nat) : Int) - (Int.tmod (IntKind.wrap IntKind.i64 back) (IntKind.wrap IntKind.i64 (((said_n : Nat) : Int) + 1)))))).toNat - 0) (said_c - 0))] w50 (fun (e57 : Ending) => (fun (w58 : World) => (∃ b59 : Bool, ((e57 = (Ending.returned (Value.bool b59))) ∧
(((b59 = true) →
(Calls Try.prog 24 #[] w58 (fun (e61 : Ending) => (fun (w62 : World) => (∃ b63 : Bool, ((e61 = (Ending.returned (Value.bool b63))) ∧
(((b63 = true) →
(R (Ending.returned (Value.bool true)) w62)) ∧
((b63 = false) →
(R (Ending.returned (Value.bool false)) w62))))))))) ∧
((b59 = false) →
(R (Ending.returned (Value.bool false)) w58)))))))))))))))))))))))))))))))))))))))))))))))) ∧
((b10 = false) →
(Calls Try.prog 24 #[] w9 (fun (e68 : Ending) => (fun (w69 : World) => (∃ b70 : Bool, ((e68 = (Ending.returned (Value.bool b70))) ∧
(((b70 = true) →
(R (Ending.returned (Value.bool true)) w69)) ∧
((b70 = false) →
(R (Ending.returned (Value.bool false)) w69)))))))))))))))))))))))))) :
    Calls Try.prog 8 #[(.agg #[(.string x_Name), (.int .i64 x_Version), (.slice x_Questions x_Questions_n x_Questions_c)]), (.slice said said_n said_c), (.int .u8 back)] w R :=
  calls_of_vc an8 Try.func8 rfl (by kernel_rfl) (by kernel_rfl) (Eq.mp (by kernel_rfl) h)

end Go.Proofs.Ytbaacpfjecbbgaa
