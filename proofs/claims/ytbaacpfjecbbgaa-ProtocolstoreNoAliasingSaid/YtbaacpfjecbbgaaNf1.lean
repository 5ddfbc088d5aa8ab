/- The contracts' premises: for each function, the proposition that its body comes to (printed by the tool of wip/nf). -/
import Derived.Test.YtbaacpfjecbbgaaRows
import Derived.Test.YtbaacpfjecbbgaaNfD
namespace Go.Proofs.Ytbaacpfjecbbgaa
open Go Go.Nf

/-- samaritan/protocol.consists -/
def an131 : An := (.seq (.reg []) (.seq (.seq (.reg [(1, 3, true), (6, 0, true)]) (.cond (.seq (.reg []) .nil) .nil)) (.seq (.seq (.reg []) (.blk (.loop [(20, .int .i64)] (.seq (.reg [(0, 0, true)]) (.seq (.cond .nil .nil) (.seq (.blk (.seq (.reg []) (.seq (.reg [(2, 2, false), (4, 0, true), (8, 2, false), (10, 0, true)]) (.cond (.seq (.reg []) .nil) .nil)))) (.reg []))))))) (.seq (.reg []) .nil))))
set_option maxRecDepth 100000 in
theorem nf131 (s : ByteArray) (length : Int) (low : Int) (high : Int) (w : World) (R : Ending → World → Prop) (h :
((((Nf.strEq s (ByteArray.mk #[])) = true) →
(R (Ending.returned (Value.bool false)) w)) ∧
(((Nf.strEq s (ByteArray.mk #[])) = false) →
((((decide ((((ByteArray.size s) : Nat) : Int) > length)) = true) →
(R (Ending.returned (Value.bool false)) w)) ∧
(((decide ((((ByteArray.size s) : Nat) : Int) > length)) = false) →
(∃ k5 : (Nat → (Int → (World → Prop))), ((∃ n6 : Nat, (k5 n6 0 w)) ∧
(∀ n7 : Nat, ((Nat → Value) →
(∀ w9 : World, (∀ x10 : Int, ((k5 n7 x10 w9) →
((((decide (x10 < (((ByteArray.size s) : Nat) : Int))) = true) →
(∃ c13 : UInt8, ((((0 : Int) ≤ x10) ∧
((Nf.byteAt s (x10).toNat) = (some c13))) ∧
((((decide ((((c13).toNat : Nat) : Int) < low)) = true) →
(R (Ending.returned (Value.bool false)) w9)) ∧
(((decide ((((c13).toNat : Nat) : Int) < low)) = false) →
(∃ c16 : UInt8, ((((0 : Int) ≤ x10) ∧
((Nf.byteAt s (x10).toNat) = (some c16))) ∧
((((decide ((((c16).toNat : Nat) : Int) > high)) = true) →
(R (Ending.returned (Value.bool false)) w9)) ∧
(((decide ((((c16).toNat : Nat) : Int) > high)) = false) →
(∃ n19 : Nat, ((n19 < n7) ∧
(k5 n19 (IntKind.wrap IntKind.i64 (x10 + 1)) w9)))))))))))) ∧
(((decide (x10 < (((ByteArray.size s) : Nat) : Int))) = false) →
(R (Ending.returned (Value.bool true)) w9))))))))))))))) :
    Calls Try.prog 131 #[(.string s), (.int .i64 length), (.int .u8 low), (.int .u8 high)] w R :=
  calls_of_vc an131 Try.func131 rfl (by kernel_rfl) (by kernel_rfl) (Eq.mp (by kernel_rfl) h)

/-- samaritan/protocol.isPhrase -/
def an126 : An := (.seq (.reg []) (.seq (.reg [(2, 0, true), (5, 2, false), (6, 0, true), (13, 2, false), (14, 0, true)]) .nil))
set_option maxRecDepth 100000 in
theorem nf126 (s : ByteArray) (length : Int) (w : World) (R : Ending → World → Prop) (h :
(Calls Try.prog 131 #[(Value.string s), (Value.int IntKind.i64 length), (Value.int IntKind.u8 32), (Value.int IntKind.u8 126)] w (fun (e1 : Ending) => (fun (w2 : World) => (∃ b3 : Bool, ((e1 = (Ending.returned (Value.bool b3))) ∧
(((b3 = true) →
(∃ c5 : UInt8, ((((0 : Int) ≤ 0) ∧
((Nf.byteAt s 0) = (some c5))) ∧
((((!(decide ((((c5).toNat : Nat) : Int) = 32))) = true) →
(∃ c7 : UInt8, ((((0 : Int) ≤ (IntKind.wrap IntKind.i64 ((((ByteArray.size s) : Nat) : Int) - 1))) ∧
((Nf.byteAt s ((IntKind.wrap IntKind.i64 ((((ByteArray.size s) : Nat) : Int) - 1))).toNat) = (some c7))) ∧
((((!(decide ((((c7).toNat : Nat) : Int) = 32))) = true) →
(R (Ending.returned (Value.bool true)) w2)) ∧
(((!(decide ((((c7).toNat : Nat) : Int) = 32))) = false) →
(R (Ending.returned (Value.bool false)) w2)))))) ∧
(((!(decide ((((c5).toNat : Nat) : Int) = 32))) = false) →
(R (Ending.returned (Value.bool false)) w2)))))) ∧
((b3 = false) →
(R (Ending.returned (Value.bool false)) w2))))))))) :
    Calls Try.prog 126 #[(.string s), (.int .i64 length)] w R :=
  calls_of_vc an126 Try.func126 rfl (by kernel_rfl) (by kernel_rfl) (Eq.mp (by kernel_rfl) h)

/-- samaritan/protocol.isCode -/
def an133 : An := (.seq (.reg []) (.seq (.reg [(1, 0, true)]) .nil))
set_option maxRecDepth 100000 in
theorem nf133 (s : ByteArray) (w : World) (R : Ending → World → Prop) (h :
(Calls Try.prog 131 #[(Value.string s), (Value.int IntKind.i64 40), (Value.int IntKind.u8 33), (Value.int IntKind.u8 126)] w (fun (e1 : Ending) => (fun (w2 : World) => (∃ b3 : Bool, ((e1 = (Ending.returned (Value.bool b3))) ∧
(((b3 = true) →
(R (Ending.returned (Value.bool true)) w2)) ∧
((b3 = false) →
(R (Ending.returned (Value.bool false)) w2))))))))) :
    Calls Try.prog 133 #[(.string s)] w R :=
  calls_of_vc an133 Try.func133 rfl (by kernel_rfl) (by kernel_rfl) (Eq.mp (by kernel_rfl) h)

/-- samaritan/protocol.isName -/
def an112 : An := (.seq (.reg []) (.seq (.seq (.reg [(1, 3, true), (5, 0, true)]) (.cond (.seq (.reg []) .nil) .nil)) (.seq (.seq (.reg []) (.blk (.loop [(14, .int .i64)] (.seq (.reg [(0, 0, true)]) (.seq (.cond .nil .nil) (.seq (.blk (.seq (.reg []) (.seq (.reg [(2, 2, false)]) (.seq (.reg [(1, 0, true), (4, 0, true), (8, 0, true), (11, 0, true), (16, 0, true)]) (.cond (.seq (.reg []) .nil) .nil))))) (.reg []))))))) (.seq (.reg []) .nil))))
set_option maxRecDepth 100000 in
theorem nf112 (s : ByteArray) (w : World) (R : Ending → World → Prop) (h :
((((Nf.strEq s (ByteArray.mk #[])) = true) →
(R (Ending.returned (Value.bool false)) w)) ∧
(((Nf.strEq s (ByteArray.mk #[])) = false) →
((((decide ((((ByteArray.size s) : Nat) : Int) > 40)) = true) →
(R (Ending.returned (Value.bool false)) w)) ∧
(((decide ((((ByteArray.size s) : Nat) : Int) > 40)) = false) →
(∃ k5 : (Nat → (Int → (World → Prop))), ((∃ n6 : Nat, (k5 n6 0 w)) ∧
(∀ n7 : Nat, ((Nat → Value) →
(∀ w9 : World, (∀ x10 : Int, ((k5 n7 x10 w9) →
((((decide (x10 < (((ByteArray.size s) : Nat) : Int))) = true) →
(∃ c13 : UInt8, ((((0 : Int) ≤ x10) ∧
((Nf.byteAt s (x10).toNat) = (some c13))) ∧
((((decide ((((c13).toNat : Nat) : Int) < 97)) = true) →
((((decide ((((c13).toNat : Nat) : Int) < 48)) = true) →
((((!(decide ((((c13).toNat : Nat) : Int) = 45))) = true) →
(R (Ending.returned (Value.bool false)) w9)) ∧
(((!(decide ((((c13).toNat : Nat) : Int) = 45))) = false) →
(∃ n18 : Nat, ((n18 < n7) ∧
(k5 n18 (IntKind.wrap IntKind.i64 (x10 + 1)) w9)))))) ∧
(((decide ((((c13).toNat : Nat) : Int) < 48)) = false) →
((((decide ((((c13).toNat : Nat) : Int) > 57)) = true) →
((((!(decide ((((c13).toNat : Nat) : Int) = 45))) = true) →
(R (Ending.returned (Value.bool false)) w9)) ∧
(((!(decide ((((c13).toNat : Nat) : Int) = 45))) = false) →
(∃ n23 : Nat, ((n23 < n7) ∧
(k5 n23 (IntKind.wrap IntKind.i64 (x10 + 1)) w9)))))) ∧
(((decide ((((c13).toNat : Nat) : Int) > 57)) = false) →
(∃ n25 : Nat, ((n25 < n7) ∧
(k5 n25 (IntKind.wrap IntKind.i64 (x10 + 1)) w9)))))))) ∧
(((decide ((((c13).toNat : Nat) : Int) < 97)) = false) →
((((decide ((((c13).toNat : Nat) : Int) > 122)) = true) →
((((decide ((((c13).toNat : Nat) : Int) < 48)) = true) →
((((!(decide ((((c13).toNat : Nat) : Int) = 45))) = true) →
(R (Ending.returned (Value.bool false)) w9)) ∧
(((!(decide ((((c13).toNat : Nat) : Int) = 45))) = false) →
(∃ n31 : Nat, ((n31 < n7) ∧
(k5 n31 (IntKind.wrap IntKind.i64 (x10 + 1)) w9)))))) ∧
(((decide ((((c13).toNat : Nat) : Int) < 48)) = false) →
((((decide ((((c13).toNat : Nat) : Int) > 57)) = true) →
((((!(decide ((((c13).toNat : Nat) : Int) = 45))) = true) →
(R (Ending.returned (Value.bool false)) w9)) ∧
(((!(decide ((((c13).toNat : Nat) : Int) = 45))) = false) →
(∃ n36 : Nat, ((n36 < n7) ∧
(k5 n36 (IntKind.wrap IntKind.i64 (x10 + 1)) w9)))))) ∧
(((decide ((((c13).toNat : Nat) : Int) > 57)) = false) →
(∃ n38 : Nat, ((n38 < n7) ∧
(k5 n38 (IntKind.wrap IntKind.i64 (x10 + 1)) w9)))))))) ∧
(((decide ((((c13).toNat : Nat) : Int) > 122)) = false) →
(∃ n40 : Nat, ((n40 < n7) ∧
(k5 n40 (IntKind.wrap IntKind.i64 (x10 + 1)) w9)))))))))) ∧
(((decide (x10 < (((ByteArray.size s) : Nat) : Int))) = false) →
(R (Ending.returned (Value.bool true)) w9))))))))))))))) :
    Calls Try.prog 112 #[(.string s)] w R :=
  calls_of_vc an112 Try.func112 rfl (by kernel_rfl) (by kernel_rfl) (Eq.mp (by kernel_rfl) h)

/-- samaritan/protocol.isVersion -/
def an113 : An := (.seq (.reg []) (.seq (.reg [(1, 0, true), (4, 0, true)]) .nil))
set_option maxRecDepth 100000 in
theorem nf113 (n : Int) (w : World) (R : Ending → World → Prop) (h :
((((decide (n ≥ 1)) = true) →
((((decide (n ≤ 1048576)) = true) →
(R (Ending.returned (Value.bool true)) w)) ∧
(((decide (n ≤ 1048576)) = false) →
(R (Ending.returned (Value.bool false)) w)))) ∧
(((decide (n ≥ 1)) = false) →
(R (Ending.returned (Value.bool false)) w)))) :
    Calls Try.prog 113 #[(.int .i64 n)] w R :=
  calls_of_vc an113 Try.func113 rfl (by kernel_rfl) (by kernel_rfl) (Eq.mp (by kernel_rfl) h)

/-- samaritan/protocol.isUrgency -/
def an132 : An := (.seq (.reg []) (.seq (.reg [(1, 0, true), (4, 0, true)]) .nil))
set_option maxRecDepth 100000 in
theorem nf132 (n : Int) (w : World) (R : Ending → World → Prop) (h :
((((decide (n ≥ 1)) = true) →
((((decide (n ≤ 5)) = true) →
(R (Ending.returned (Value.bool true)) w)) ∧
(((decide (n ≤ 5)) = false) →
(R (Ending.returned (Value.bool false)) w)))) ∧
(((decide (n ≥ 1)) = false) →
(R (Ending.returned (Value.bool false)) w)))) :
    Calls Try.prog 132 #[(.int .i64 n)] w R :=
  calls_of_vc an132 Try.func132 rfl (by kernel_rfl) (by kernel_rfl) (Eq.mp (by kernel_rfl) h)

/-- samaritan/protocol.validAnswer -/
def an127 : An := (.seq (.reg []) (.seq (.seq (.reg [(2, 0, true)]) (.cond (.seq (.reg []) .nil) .nil)) (.seq (.seq (.reg [(2, 0, true)]) (.cond (.seq (.reg [(2, 0, true), (6, 0, true)]) .nil) .nil)) (.seq (.reg [(2, 0, true), (7, 0, true), (12, 0, true), (17, 3, true)]) .nil))))
set_option maxRecDepth 100000 in
theorem nf127 (a_Text : ByteArray) (a_Next : Int) (a_Urgency : Int) (a_Code : ByteArray) (questions : Int) (w : World) (R : Ending → World → Prop) (h :
(∀ w1 : World, ((w1 = (w.alloc (Obj.cells #[(Value.string a_Text), (Value.int IntKind.i64 a_Next), (Value.int IntKind.i64 a_Urgency), (Value.string a_Code)] 58 (0, 0)))) →
(∃ s3 : ByteArray, (((w1.cell? (⟨(hs w), 0, none⟩ : Addr)) = (some (Value.string s3))) ∧
(Calls Try.prog 126 #[(Value.string s3), (Value.int IntKind.i64 100)] w1 (fun (e4 : Ending) => (fun (w5 : World) => (∃ b6 : Bool, ((e4 = (Ending.returned (Value.bool b6))) ∧
(((b6 = true) →
(∃ x8 : Int, (((w5.cell? (⟨(hs w), 1, none⟩ : Addr)) = (some (Value.int IntKind.i64 x8))) ∧
((((decide (x8 = (-1))) = true) →
(∃ x10 : Int, (((w5.cell? (⟨(hs w), 2, none⟩ : Addr)) = (some (Value.int IntKind.i64 x10))) ∧
(Calls Try.prog 132 #[(Value.int IntKind.i64 x10)] w5 (fun (e11 : Ending) => (fun (w12 : World) => (∃ b13 : Bool, ((e11 = (Ending.returned (Value.bool b13))) ∧
(((b13 = true) →
(∃ s15 : ByteArray, (((w12.cell? (⟨(hs w), 3, none⟩ : Addr)) = (some (Value.string s15))) ∧
(Calls Try.prog 133 #[(Value.string s15)] w12 (fun (e16 : Ending) => (fun (w17 : World) => (∃ b18 : Bool, ((e16 = (Ending.returned (Value.bool b18))) ∧
(((b18 = true) →
(R (Ending.returned (Value.bool true)) w17)) ∧
((b18 = false) →
(R (Ending.returned (Value.bool false)) w17))))))))))) ∧
((b13 = false) →
(R (Ending.returned (Value.bool false)) w12))))))))))) ∧
(((decide (x8 = (-1))) = false) →
(∃ x23 : Int, (((w5.cell? (⟨(hs w), 1, none⟩ : Addr)) = (some (Value.int IntKind.i64 x23))) ∧
((((decide (x23 ≥ 0)) = true) →
(∃ x25 : Int, (((w5.cell? (⟨(hs w), 1, none⟩ : Addr)) = (some (Value.int IntKind.i64 x25))) ∧
((((decide (x25 < questions)) = true) →
(∃ x27 : Int, (((w5.cell? (⟨(hs w), 2, none⟩ : Addr)) = (some (Value.int IntKind.i64 x27))) ∧
((((decide (x27 = 0)) = true) →
(∃ s29 : ByteArray, (((w5.cell? (⟨(hs w), 3, none⟩ : Addr)) = (some (Value.string s29))) ∧
((((Nf.strEq s29 (ByteArray.mk #[])) = true) →
(R (Ending.returned (Value.bool true)) w5)) ∧
(((Nf.strEq s29 (ByteArray.mk #[])) = false) →
(R (Ending.returned (Value.bool false)) w5)))))) ∧
(((decide (x27 = 0)) = false) →
(R (Ending.returned (Value.bool false)) w5)))))) ∧
(((decide (x25 < questions)) = false) →
(R (Ending.returned (Value.bool false)) w5)))))) ∧
(((decide (x23 ≥ 0)) = false) →
(R (Ending.returned (Value.bool false)) w5)))))))))) ∧
((b6 = false) →
(R (Ending.returned (Value.bool false)) w5))))))))))))) :
    Calls Try.prog 127 #[(.agg #[(.string a_Text), (.int .i64 a_Next), (.int .i64 a_Urgency), (.string a_Code)]), (.int .i64 questions)] w R :=
  calls_of_vc an127 Try.func127 rfl (by kernel_rfl) (by kernel_rfl) (Eq.mp (by kernel_rfl) h)

/-- samaritan/protocol.validQuestion -/
def an111 : An := (.seq (.reg []) (.seq (.seq (.reg [(2, 0, true), (8, 0, true), (14, 0, true)]) (.cond (.seq (.reg []) .nil) .nil)) (.seq (.seq (.reg []) (.blk (.loop [(26, .int .i64)] (.seq (.reg [(0, 0, true)]) (.seq (.cond .nil .nil) (.seq (.blk (.seq (.reg []) (.seq (.reg [(2, 0, true)]) (.cond (.seq (.reg []) .nil) .nil)))) (.reg []))))))) (.seq (.reg []) .nil))))
set_option maxRecDepth 100000 in
theorem nf111 (q_Text : ByteArray) (q_Answers : Option Addr) (q_Answers_n : Nat) (q_Answers_c : Nat) (questions : Int) (w : World) (R : Ending → World → Prop) (h :
(∀ w1 : World, ((w1 = (w.alloc (Obj.cells #[(Value.string q_Text), (Value.slice q_Answers q_Answers_n q_Answers_c)] 38 (0, 0)))) →
(∃ s3 : ByteArray, (((w1.cell? (⟨(hs w), 0, none⟩ : Addr)) = (some (Value.string s3))) ∧
(Calls Try.prog 126 #[(Value.string s3), (Value.int IntKind.i64 200)] w1 (fun (e4 : Ending) => (fun (w5 : World) => (∃ b6 : Bool, ((e4 = (Ending.returned (Value.bool b6))) ∧
(((b6 = true) →
(∃ o8 : Option Addr, (∃ n9 : Nat, (∃ n10 : Nat, (((w5.cell? (⟨(hs w), 1, none⟩ : Addr)) = (some (Value.slice o8 n9 n10))) ∧
((((decide (((n9 : Nat) : Int) < 1)) = true) →
(R (Ending.returned (Value.bool false)) w5)) ∧
(((decide (((n9 : Nat) : Int) < 1)) = false) →
(∃ o13 : Option Addr, (∃ n14 : Nat, (∃ n15 : Nat, (((w5.cell? (⟨(hs w), 1, none⟩ : Addr)) = (some (Value.slice o13 n14 n15))) ∧
((((decide (((n14 : Nat) : Int) > 16)) = true) →
(R (Ending.returned (Value.bool false)) w5)) ∧
(((decide (((n14 : Nat) : Int) > 16)) = false) →
(∃ o18 : Option Addr, (∃ n19 : Nat, (∃ n20 : Nat, (((w5.cell? (⟨(hs w), 1, none⟩ : Addr)) = (some (Value.slice o18 n19 n20))) ∧
(∃ k21 : (Nat → (Int → (World → Prop))), ((∃ n22 : Nat, (k21 n22 0 w5)) ∧
(∀ n23 : Nat, ((Nat → Value) →
(∀ w25 : World, (∀ x26 : Int, ((k21 n23 x26 w25) →
((((decide (x26 < ((n19 : Nat) : Int))) = true) →
(∃ a29 : Addr, ((o18 = (some a29)) ∧
((((0 : Int) ≤ x26) ∧
(x26 < ((n19 : Nat) : Int))) ∧
(∃ s30 : ByteArray, (((w25.cell? (Addr.add a29 ((x26).toNat * 4))) = (some (Value.string s30))) ∧
(∃ x31 : Int, (((w25.cell? (Addr.add (Addr.add a29 ((x26).toNat * 4)) 1)) = (some (Value.int IntKind.i64 x31))) ∧
(∃ x32 : Int, (((w25.cell? (Addr.add (Addr.add a29 ((x26).toNat * 4)) 2)) = (some (Value.int IntKind.i64 x32))) ∧
(∃ s33 : ByteArray, (((w25.cell? (Addr.add (Addr.add a29 ((x26).toNat * 4)) 3)) = (some (Value.string s33))) ∧
(∀ w34 : World, ((w34 = (w25.alloc (Obj.cells #[(Value.string (ByteArray.mk #[])), (Value.int IntKind.i64 0), (Value.int IntKind.i64 0), (Value.string (ByteArray.mk #[]))] 58 (0, 0)))) →
((Nf.There w34 (⟨(hs w25), 0, none⟩ : Addr) 4) ∧
(∀ w36 : World, ((w36 = (Nf.setCells w34 (⟨(hs w25), 0, none⟩ : Addr) [(Value.string s30), (Value.int IntKind.i64 x31), (Value.int IntKind.i64 x32), (Value.string s33)] 0)) →
(∃ s38 : ByteArray, (((w36.cell? (⟨(hs w25), 0, none⟩ : Addr)) = (some (Value.string s38))) ∧
(∃ x39 : Int, (((w36.cell? (⟨(hs w25), 1, none⟩ : Addr)) = (some (Value.int IntKind.i64 x39))) ∧
(∃ x40 : Int, (((w36.cell? (⟨(hs w25), 2, none⟩ : Addr)) = (some (Value.int IntKind.i64 x40))) ∧
(∃ s41 : ByteArray, (((w36.cell? (⟨(hs w25), 3, none⟩ : Addr)) = (some (Value.string s41))) ∧
(Calls Try.prog 127 #[(Value.agg #[(Value.string s38), (Value.int IntKind.i64 x39), (Value.int IntKind.i64 x40), (Value.string s41)]), (Value.int IntKind.i64 questions)] w36 (fun (e42 : Ending) => (fun (w43 : World) => (∃ b44 : Bool, ((e42 = (Ending.returned (Value.bool b44))) ∧
(((b44 = true) →
(∃ n46 : Nat, ((n46 < n23) ∧
(k21 n46 (IntKind.wrap IntKind.i64 (x26 + 1)) w43)))) ∧
((b44 = false) →
(R (Ending.returned (Value.bool false)) w43))))))))))))))))))))))))))))))))) ∧
(((decide (x26 < ((n19 : Nat) : Int))) = false) →
(R (Ending.returned (Value.bool true)) w25))))))))))))))))))))))))))) ∧
((b6 = false) →
(R (Ending.returned (Value.bool false)) w5))))))))))))) :
    Calls Try.prog 111 #[(.agg #[(.string q_Text), (.slice q_Answers q_Answers_n q_Answers_c)]), (.int .i64 questions)] w R :=
  calls_of_vc an111 Try.func111 rfl (by kernel_rfl) (by kernel_rfl) (Eq.mp (by kernel_rfl) h)

/-- samaritan/protocol.Validate -/
def an82 : An := (.seq (.reg []) (.seq (.reg []) (.seq (.seq (.reg []) (.blk (.loop [(13, .int .i64)] (.seq (.reg [(0, 0, true)]) (.seq (.cond .nil .nil) (.seq (.blk (.seq (.reg []) (.seq (.reg [(2, 0, true)]) (.cond (.seq (.reg []) .nil) .nil)))) (.reg []))))))) (.seq (.seq (.reg [(2, 0, true), (7, 0, true), (12, 0, true), (16, 0, true)]) (.cond (.seq (.reg []) .nil) .nil)) (.seq (.reg []) .nil)))))
set_option maxRecDepth 100000 in
theorem nf82 (p_Name : ByteArray) (p_Version : Int) (p_Questions : Option Addr) (p_Questions_n : Nat) (p_Questions_c : Nat) (w : World) (R : Ending → World → Prop) (h :
(∀ w1 : World, ((w1 = (w.alloc (Obj.cells #[(Value.string p_Name), (Value.int IntKind.i64 p_Version), (Value.slice p_Questions p_Questions_n p_Questions_c)] 24 (0, 0)))) →
(∃ o3 : Option Addr, (∃ n4 : Nat, (∃ n5 : Nat, (((w1.cell? (⟨(hs w), 2, none⟩ : Addr)) = (some (Value.slice o3 n4 n5))) ∧
(∃ o6 : Option Addr, (∃ n7 : Nat, (∃ n8 : Nat, (((w1.cell? (⟨(hs w), 2, none⟩ : Addr)) = (some (Value.slice o6 n7 n8))) ∧
(∃ k9 : (Nat → (Int → (World → Prop))), ((∃ n10 : Nat, (k9 n10 0 w1)) ∧
(∀ n11 : Nat, ((Nat → Value) →
(∀ w13 : World, (∀ x14 : Int, ((k9 n11 x14 w13) →
((((decide (x14 < ((n7 : Nat) : Int))) = true) →
(∃ a17 : Addr, ((o6 = (some a17)) ∧
((((0 : Int) ≤ x14) ∧
(x14 < ((n7 : Nat) : Int))) ∧
(∃ s18 : ByteArray, (((w13.cell? (Addr.add a17 ((x14).toNat * 2))) = (some (Value.string s18))) ∧
(∃ o19 : Option Addr, (∃ n20 : Nat, (∃ n21 : Nat, (((w13.cell? (Addr.add (Addr.add a17 ((x14).toNat * 2)) 1)) = (some (Value.slice o19 n20 n21))) ∧
(∀ w22 : World, ((w22 = (w13.alloc (Obj.cells #[(Value.string (ByteArray.mk #[])), (Value.slice none 0 0)] 38 (0, 0)))) →
((Nf.There w22 (⟨(hs w13), 0, none⟩ : Addr) 2) ∧
(∀ w24 : World, ((w24 = (Nf.setCells w22 (⟨(hs w13), 0, none⟩ : Addr) [(Value.string s18), (Value.slice o19 n20 n21)] 0)) →
(∃ s26 : ByteArray, (((w24.cell? (⟨(hs w13), 0, none⟩ : Addr)) = (some (Value.string s26))) ∧
(∃ o27 : Option Addr, (∃ n28 : Nat, (∃ n29 : Nat, (((w24.cell? (⟨(hs w13), 1, none⟩ : Addr)) = (some (Value.slice o27 n28 n29))) ∧
(Calls Try.prog 111 #[(Value.agg #[(Value.string s26), (Value.slice o27 n28 n29)]), (Value.int IntKind.i64 ((n4 : Nat) : Int))] w24 (fun (e30 : Ending) => (fun (w31 : World) => (∃ b32 : Bool, ((e30 = (Ending.returned (Value.bool b32))) ∧
(((b32 = true) →
(∃ n34 : Nat, ((n34 < n11) ∧
(k9 n34 (IntKind.wrap IntKind.i64 (x14 + 1)) w31)))) ∧
((b32 = false) →
(R (Ending.returned (Value.tuple #[(Value.int IntKind.i64 x14), (Value.int IntKind.i64 1)])) w31))))))))))))))))))))))))))))) ∧
(((decide (x14 < ((n7 : Nat) : Int))) = false) →
(∃ s37 : ByteArray, (((w13.cell? (⟨(hs w), 0, none⟩ : Addr)) = (some (Value.string s37))) ∧
(Calls Try.prog 112 #[(Value.string s37)] w13 (fun (e38 : Ending) => (fun (w39 : World) => (∃ b40 : Bool, ((e38 = (Ending.returned (Value.bool b40))) ∧
(((b40 = true) →
(∃ x42 : Int, (((w39.cell? (⟨(hs w), 1, none⟩ : Addr)) = (some (Value.int IntKind.i64 x42))) ∧
(Calls Try.prog 113 #[(Value.int IntKind.i64 x42)] w39 (fun (e43 : Ending) => (fun (w44 : World) => (∃ b45 : Bool, ((e43 = (Ending.returned (Value.bool b45))) ∧
(((b45 = true) →
((((decide (((n4 : Nat) : Int) < 1)) = true) →
(R (Ending.returned (Value.tuple #[(Value.int IntKind.i64 (-1)), (Value.int IntKind.i64 1)])) w44)) ∧
(((decide (((n4 : Nat) : Int) < 1)) = false) →
((((decide (((n4 : Nat) : Int) > 64)) = true) →
(R (Ending.returned (Value.tuple #[(Value.int IntKind.i64 (-1)), (Value.int IntKind.i64 1)])) w44)) ∧
(((decide (((n4 : Nat) : Int) > 64)) = false) →
(R (Ending.returned (Value.tuple #[(Value.int IntKind.i64 (-1)), (Value.int IntKind.i64 0)])) w44)))))) ∧
((b45 = false) →
(R (Ending.returned (Value.tuple #[(Value.int IntKind.i64 (-1)), (Value.int IntKind.i64 1)])) w44))))))))))) ∧
((b40 = false) →
(R (Ending.returned (Value.tuple #[(Value.int IntKind.i64 (-1)), (Value.int IntKind.i64 1)])) w39)))))))))))))))))))))))))))))) :
    Calls Try.prog 82 #[(.agg #[(.string p_Name), (.int .i64 p_Version), (.slice p_Questions p_Questions_n p_Questions_c)])] w R :=
  calls_of_vc an82 Try.func82 rfl (by kernel_rfl) (by kernel_rfl) (Eq.mp (by kernel_rfl) h)

/-- samaritan/samaritanref12.phrase -/
def an119 : An := (.seq (.reg []) (.seq (.seq (.reg [(2, 0, true), (7, 0, true), (11, 2, false), (12, 0, true), (19, 2, false), (20, 0, true)]) (.cond (.seq (.reg []) .nil) .nil)) (.seq (.seq (.reg []) (.blk (.loop [(5, .int .i64)] (.seq (.seq (.reg [(3, 0, true)]) (.cond .nil .nil)) (.seq (.blk (.seq (.reg [(2, 2, false), (3, 0, true), (7, 2, false), (8, 0, true)]) (.cond (.seq (.reg []) .nil) .nil))) (.reg [])))))) (.seq (.reg []) .nil))))
set_option maxRecDepth 100000 in
theorem nf119 (s : ByteArray) (most : Int) (w : World) (R : Ending → World → Prop) (h :
((((decide ((((ByteArray.size s) : Nat) : Int) < 1)) = true) →
(R (Ending.returned (Value.bool false)) w)) ∧
(((decide ((((ByteArray.size s) : Nat) : Int) < 1)) = false) →
((((decide ((((ByteArray.size s) : Nat) : Int) > most)) = true) →
(R (Ending.returned (Value.bool false)) w)) ∧
(((decide ((((ByteArray.size s) : Nat) : Int) > most)) = false) →
(∃ c5 : UInt8, ((((0 : Int) ≤ 0) ∧
((Nf.byteAt s 0) = (some c5))) ∧
((((decide ((((c5).toNat : Nat) : Int) = 32)) = true) →
(R (Ending.returned (Value.bool false)) w)) ∧
(((decide ((((c5).toNat : Nat) : Int) = 32)) = false) →
(∃ c8 : UInt8, ((((0 : Int) ≤ (IntKind.wrap IntKind.i64 ((((ByteArray.size s) : Nat) : Int) - 1))) ∧
((Nf.byteAt s ((IntKind.wrap IntKind.i64 ((((ByteArray.size s) : Nat) : Int) - 1))).toNat) = (some c8))) ∧
((((decide ((((c8).toNat : Nat) : Int) = 32)) = true) →
(R (Ending.returned (Value.bool false)) w)) ∧
(((decide ((((c8).toNat : Nat) : Int) = 32)) = false) →
(∃ k11 : (Nat → (Int → (World → Prop))), ((∃ n12 : Nat, (k11 n12 0 w)) ∧
(∀ n13 : Nat, ((Nat → Value) →
(∀ w15 : World, (∀ x16 : Int, ((k11 n13 x16 w15) →
((((decide (x16 < (((ByteArray.size s) : Nat) : Int))) = true) →
(∃ c19 : UInt8, ((((0 : Int) ≤ x16) ∧
((Nf.byteAt s (x16).toNat) = (some c19))) ∧
((((decide ((((c19).toNat : Nat) : Int) < 32)) = true) →
(R (Ending.returned (Value.bool false)) w15)) ∧
(((decide ((((c19).toNat : Nat) : Int) < 32)) = false) →
(∃ c22 : UInt8, ((((0 : Int) ≤ x16) ∧
((Nf.byteAt s (x16).toNat) = (some c22))) ∧
((((decide ((((c22).toNat : Nat) : Int) > 126)) = true) →
(R (Ending.returned (Value.bool false)) w15)) ∧
(((decide ((((c22).toNat : Nat) : Int) > 126)) = false) →
(∃ n25 : Nat, ((n25 < n13) ∧
(k11 n25 (IntKind.wrap IntKind.i64 (x16 + 1)) w15)))))))))))) ∧
(((decide (x16 < (((ByteArray.size s) : Nat) : Int))) = false) →
(R (Ending.returned (Value.bool true)) w15))))))))))))))))))))))) :
    Calls Try.prog 119 #[(.string s), (.int .i64 most)] w R :=
  calls_of_vc an119 Try.func119 rfl (by kernel_rfl) (by kernel_rfl) (Eq.mp (by kernel_rfl) h)

/-- samaritan/samaritanref12.word -/
def an91 : An := (.seq (.reg []) (.seq (.seq (.reg []) (.blk (.loop [(5, .int .i64)] (.seq (.seq (.reg [(3, 0, true)]) (.cond .nil .nil)) (.seq (.blk (.seq (.reg [(2, 2, false), (3, 0, true), (7, 2, false), (8, 0, true), (13, 2, false), (14, 0, true), (18, 2, false), (19, 0, true), (25, 2, false), (26, 0, true)]) (.cond (.seq (.reg []) .nil) .nil))) (.reg [])))))) (.seq (.reg [(2, 0, true), (7, 0, true)]) .nil)))
set_option maxRecDepth 100000 in
theorem nf91 (s : ByteArray) (most : Int) (w : World) (R : Ending → World → Prop) (h :
(∃ k1 : (Nat → (Int → (World → Prop))), ((∃ n2 : Nat, (k1 n2 0 w)) ∧
(∀ n3 : Nat, ((Nat → Value) →
(∀ w5 : World, (∀ x6 : Int, ((k1 n3 x6 w5) →
((((decide (x6 < (((ByteArray.size s) : Nat) : Int))) = true) →
(∃ c9 : UInt8, ((((0 : Int) ≤ x6) ∧
((Nf.byteAt s (x6).toNat) = (some c9))) ∧
((((decide ((((c9).toNat : Nat) : Int) ≥ 97)) = true) →
(∃ c11 : UInt8, ((((0 : Int) ≤ x6) ∧
((Nf.byteAt s (x6).toNat) = (some c11))) ∧
((((decide ((((c11).toNat : Nat) : Int) ≤ 122)) = true) →
(∃ n13 : Nat, ((n13 < n3) ∧
(k1 n13 (IntKind.wrap IntKind.i64 (x6 + 1)) w5)))) ∧
(((decide ((((c11).toNat : Nat) : Int) ≤ 122)) = false) →
(∃ c15 : UInt8, ((((0 : Int) ≤ x6) ∧
((Nf.byteAt s (x6).toNat) = (some c15))) ∧
((((decide ((((c15).toNat : Nat) : Int) ≥ 48)) = true) →
(∃ c17 : UInt8, ((((0 : Int) ≤ x6) ∧
((Nf.byteAt s (x6).toNat) = (some c17))) ∧
((((decide ((((c17).toNat : Nat) : Int) ≤ 57)) = true) →
(∃ n19 : Nat, ((n19 < n3) ∧
(k1 n19 (IntKind.wrap IntKind.i64 (x6 + 1)) w5)))) ∧
(((decide ((((c17).toNat : Nat) : Int) ≤ 57)) = false) →
(∃ c21 : UInt8, ((((0 : Int) ≤ x6) ∧
((Nf.byteAt s (x6).toNat) = (some c21))) ∧
((((decide ((((c21).toNat : Nat) : Int) = 45)) = true) →
(∃ n23 : Nat, ((n23 < n3) ∧
(k1 n23 (IntKind.wrap IntKind.i64 (x6 + 1)) w5)))) ∧
(((decide ((((c21).toNat : Nat) : Int) = 45)) = false) →
(R (Ending.returned (Value.bool false)) w5)))))))))) ∧
(((decide ((((c15).toNat : Nat) : Int) ≥ 48)) = false) →
(∃ c26 : UInt8, ((((0 : Int) ≤ x6) ∧
((Nf.byteAt s (x6).toNat) = (some c26))) ∧
((((decide ((((c26).toNat : Nat) : Int) = 45)) = true) →
(∃ n28 : Nat, ((n28 < n3) ∧
(k1 n28 (IntKind.wrap IntKind.i64 (x6 + 1)) w5)))) ∧
(((decide ((((c26).toNat : Nat) : Int) = 45)) = false) →
(R (Ending.returned (Value.bool false)) w5)))))))))))))) ∧
(((decide ((((c9).toNat : Nat) : Int) ≥ 97)) = false) →
(∃ c31 : UInt8, ((((0 : Int) ≤ x6) ∧
((Nf.byteAt s (x6).toNat) = (some c31))) ∧
((((decide ((((c31).toNat : Nat) : Int) ≥ 48)) = true) →
(∃ c33 : UInt8, ((((0 : Int) ≤ x6) ∧
((Nf.byteAt s (x6).toNat) = (some c33))) ∧
((((decide ((((c33).toNat : Nat) : Int) ≤ 57)) = true) →
(∃ n35 : Nat, ((n35 < n3) ∧
(k1 n35 (IntKind.wrap IntKind.i64 (x6 + 1)) w5)))) ∧
(((decide ((((c33).toNat : Nat) : Int) ≤ 57)) = false) →
(∃ c37 : UInt8, ((((0 : Int) ≤ x6) ∧
((Nf.byteAt s (x6).toNat) = (some c37))) ∧
((((decide ((((c37).toNat : Nat) : Int) = 45)) = true) →
(∃ n39 : Nat, ((n39 < n3) ∧
(k1 n39 (IntKind.wrap IntKind.i64 (x6 + 1)) w5)))) ∧
(((decide ((((c37).toNat : Nat) : Int) = 45)) = false) →
(R (Ending.returned (Value.bool false)) w5)))))))))) ∧
(((decide ((((c31).toNat : Nat) : Int) ≥ 48)) = false) →
(∃ c42 : UInt8, ((((0 : Int) ≤ x6) ∧
((Nf.byteAt s (x6).toNat) = (some c42))) ∧
((((decide ((((c42).toNat : Nat) : Int) = 45)) = true) →
(∃ n44 : Nat, ((n44 < n3) ∧
(k1 n44 (IntKind.wrap IntKind.i64 (x6 + 1)) w5)))) ∧
(((decide ((((c42).toNat : Nat) : Int) = 45)) = false) →
(R (Ending.returned (Value.bool false)) w5)))))))))))))) ∧
(((decide (x6 < (((ByteArray.size s) : Nat) : Int))) = false) →
((((decide ((((ByteArray.size s) : Nat) : Int) ≥ 1)) = true) →
((((decide ((((ByteArray.size s) : Nat) : Int) ≤ most)) = true) →
(R (Ending.returned (Value.bool true)) w5)) ∧
(((decide ((((ByteArray.size s) : Nat) : Int) ≤ most)) = false) →
(R (Ending.returned (Value.bool false)) w5)))) ∧
(((decide ((((ByteArray.size s) : Nat) : Int) ≥ 1)) = false) →
(R (Ending.returned (Value.bool false)) w5))))))))))))) :
    Calls Try.prog 91 #[(.string s), (.int .i64 most)] w R :=
  calls_of_vc an91 Try.func91 rfl (by kernel_rfl) (by kernel_rfl) (Eq.mp (by kernel_rfl) h)

/-- samaritan/samaritanref12.code -/
def an128 : An := (.seq (.reg []) (.seq (.seq (.reg []) (.blk (.loop [(3, .int .i64)] (.seq (.seq (.reg [(3, 0, true)]) (.cond .nil .nil)) (.seq (.blk (.seq (.reg [(2, 2, false), (3, 0, true), (7, 2, false), (8, 0, true)]) (.cond (.seq (.reg []) .nil) .nil))) (.reg [])))))) (.seq (.reg [(2, 0, true), (6, 0, true)]) .nil)))
set_option maxRecDepth 100000 in
theorem nf128 (s : ByteArray) (w : World) (R : Ending → World → Prop) (h :
(∃ k1 : (Nat → (Int → (World → Prop))), ((∃ n2 : Nat, (k1 n2 0 w)) ∧
(∀ n3 : Nat, ((Nat → Value) →
(∀ w5 : World, (∀ x6 : Int, ((k1 n3 x6 w5) →
((((decide (x6 < (((ByteArray.size s) : Nat) : Int))) = true) →
(∃ c9 : UInt8, ((((0 : Int) ≤ x6) ∧
((Nf.byteAt s (x6).toNat) = (some c9))) ∧
((((decide ((((c9).toNat : Nat) : Int) < 33)) = true) →
(R (Ending.returned (Value.bool false)) w5)) ∧
(((decide ((((c9).toNat : Nat) : Int) < 33)) = false) →
(∃ c12 : UInt8, ((((0 : Int) ≤ x6) ∧
((Nf.byteAt s (x6).toNat) = (some c12))) ∧
((((decide ((((c12).toNat : Nat) : Int) > 126)) = true) →
(R (Ending.returned (Value.bool false)) w5)) ∧
(((decide ((((c12).toNat : Nat) : Int) > 126)) = false) →
(∃ n15 : Nat, ((n15 < n3) ∧
(k1 n15 (IntKind.wrap IntKind.i64 (x6 + 1)) w5)))))))))))) ∧
(((decide (x6 < (((ByteArray.size s) : Nat) : Int))) = false) →
((((decide ((((ByteArray.size s) : Nat) : Int) ≥ 1)) = true) →
((((decide ((((ByteArray.size s) : Nat) : Int) ≤ 40)) = true) →
(R (Ending.returned (Value.bool true)) w5)) ∧
(((decide ((((ByteArray.size s) : Nat) : Int) ≤ 40)) = false) →
(R (Ending.returned (Value.bool false)) w5)))) ∧
(((decide ((((ByteArray.size s) : Nat) : Int) ≥ 1)) = false) →
(R (Ending.returned (Value.bool false)) w5))))))))))))) :
    Calls Try.prog 128 #[(.string s)] w R :=
  calls_of_vc an128 Try.func128 rfl (by kernel_rfl) (by kernel_rfl) (Eq.mp (by kernel_rfl) h)

/-- samaritan/samaritanref12.answer -/
def an118 : An := (.seq (.reg []) (.seq (.seq (.reg [(2, 0, true)]) (.cond (.seq (.reg []) .nil) .nil)) (.seq (.seq (.reg [(2, 0, true)]) (.cond (.seq (.reg [(2, 0, true), (6, 0, true), (11, 0, true)]) .nil) .nil)) (.seq (.reg [(2, 0, true), (7, 0, true), (12, 0, true), (17, 3, true)]) .nil))))
set_option maxRecDepth 100000 in
theorem nf118 (a_Text : ByteArray) (a_Next : Int) (a_Urgency : Int) (a_Code : ByteArray) (questions : Int) (w : World) (R : Ending → World → Prop) (h :
(∀ w1 : World, ((w1 = (w.alloc (Obj.cells #[(Value.string a_Text), (Value.int IntKind.i64 a_Next), (Value.int IntKind.i64 a_Urgency), (Value.string a_Code)] 58 (0, 0)))) →
(∃ s3 : ByteArray, (((w1.cell? (⟨(hs w), 0, none⟩ : Addr)) = (some (Value.string s3))) ∧
(Calls Try.prog 119 #[(Value.string s3), (Value.int IntKind.i64 100)] w1 (fun (e4 : Ending) => (fun (w5 : World) => (∃ b6 : Bool, ((e4 = (Ending.returned (Value.bool b6))) ∧
(((b6 = true) →
(∃ x8 : Int, (((w5.cell? (⟨(hs w), 1, none⟩ : Addr)) = (some (Value.int IntKind.i64 x8))) ∧
((((decide (x8 = (-1))) = true) →
(∃ x10 : Int, (((w5.cell? (⟨(hs w), 2, none⟩ : Addr)) = (some (Value.int IntKind.i64 x10))) ∧
((((decide (x10 ≥ 1)) = true) →
(∃ x12 : Int, (((w5.cell? (⟨(hs w), 2, none⟩ : Addr)) = (some (Value.int IntKind.i64 x12))) ∧
((((decide (x12 ≤ 5)) = true) →
(∃ s14 : ByteArray, (((w5.cell? (⟨(hs w), 3, none⟩ : Addr)) = (some (Value.string s14))) ∧
(Calls Try.prog 128 #[(Value.string s14)] w5 (fun (e15 : Ending) => (fun (w16 : World) => (∃ b17 : Bool, ((e15 = (Ending.returned (Value.bool b17))) ∧
(((b17 = true) →
(R (Ending.returned (Value.bool true)) w16)) ∧
((b17 = false) →
(R (Ending.returned (Value.bool false)) w16))))))))))) ∧
(((decide (x12 ≤ 5)) = false) →
(R (Ending.returned (Value.bool false)) w5)))))) ∧
(((decide (x10 ≥ 1)) = false) →
(R (Ending.returned (Value.bool false)) w5)))))) ∧
(((decide (x8 = (-1))) = false) →
(∃ x23 : Int, (((w5.cell? (⟨(hs w), 1, none⟩ : Addr)) = (some (Value.int IntKind.i64 x23))) ∧
((((decide (x23 ≥ 0)) = true) →
(∃ x25 : Int, (((w5.cell? (⟨(hs w), 1, none⟩ : Addr)) = (some (Value.int IntKind.i64 x25))) ∧
((((decide (x25 < questions)) = true) →
(∃ x27 : Int, (((w5.cell? (⟨(hs w), 2, none⟩ : Addr)) = (some (Value.int IntKind.i64 x27))) ∧
((((decide (x27 = 0)) = true) →
(∃ s29 : ByteArray, (((w5.cell? (⟨(hs w), 3, none⟩ : Addr)) = (some (Value.string s29))) ∧
((((Nf.strEq s29 (ByteArray.mk #[])) = true) →
(R (Ending.returned (Value.bool true)) w5)) ∧
(((Nf.strEq s29 (ByteArray.mk #[])) = false) →
(R (Ending.returned (Value.bool false)) w5)))))) ∧
(((decide (x27 = 0)) = false) →
(R (Ending.returned (Value.bool false)) w5)))))) ∧
(((decide (x25 < questions)) = false) →
(R (Ending.returned (Value.bool false)) w5)))))) ∧
(((decide (x23 ≥ 0)) = false) →
(R (Ending.returned (Value.bool false)) w5)))))))))) ∧
((b6 = false) →
(R (Ending.returned (Value.bool false)) w5))))))))))))) :
    Calls Try.prog 118 #[(.agg #[(.string a_Text), (.int .i64 a_Next), (.int .i64 a_Urgency), (.string a_Code)]), (.int .i64 questions)] w R :=
  calls_of_vc an118 Try.func118 rfl (by kernel_rfl) (by kernel_rfl) (Eq.mp (by kernel_rfl) h)

/-- samaritan/samaritanref12.question -/
def an90 : An := (.seq (.reg []) (.seq (.seq (.reg []) (.blk (.loop [(10, .int .i64)] (.seq (.reg [(0, 0, true)]) (.seq (.cond .nil .nil) (.seq (.blk (.seq (.reg []) (.seq (.reg [(2, 0, true)]) (.cond (.seq (.reg []) .nil) .nil)))) (.reg []))))))) (.seq (.reg [(2, 0, true), (7, 0, true), (13, 0, true)]) .nil)))
set_option maxRecDepth 100000 in
theorem nf90 (q_Text : ByteArray) (q_Answers : Option Addr) (q_Answers_n : Nat) (q_Answers_c : Nat) (questions : Int) (w : World) (R : Ending → World → Prop) (h :
(∀ w1 : World, ((w1 = (w.alloc (Obj.cells #[(Value.string q_Text), (Value.slice q_Answers q_Answers_n q_Answers_c)] 38 (0, 0)))) →
(∃ o3 : Option Addr, (∃ n4 : Nat, (∃ n5 : Nat, (((w1.cell? (⟨(hs w), 1, none⟩ : Addr)) = (some (Value.slice o3 n4 n5))) ∧
(∃ k6 : (Nat → (Int → (World → Prop))), ((∃ n7 : Nat, (k6 n7 0 w1)) ∧
(∀ n8 : Nat, ((Nat → Value) →
(∀ w10 : World, (∀ x11 : Int, ((k6 n8 x11 w10) →
((((decide (x11 < ((n4 : Nat) : Int))) = true) →
(∃ a14 : Addr, ((o3 = (some a14)) ∧
((((0 : Int) ≤ x11) ∧
(x11 < ((n4 : Nat) : Int))) ∧
(∃ s15 : ByteArray, (((w10.cell? (Addr.add a14 ((x11).toNat * 4))) = (some (Value.string s15))) ∧
(∃ x16 : Int, (((w10.cell? (Addr.add (Addr.add a14 ((x11).toNat * 4)) 1)) = (some (Value.int IntKind.i64 x16))) ∧
(∃ x17 : Int, (((w10.cell? (Addr.add (Addr.add a14 ((x11).toNat * 4)) 2)) = (some (Value.int IntKind.i64 x17))) ∧
(∃ s18 : ByteArray, (((w10.cell? (Addr.add (Addr.add a14 ((x11).toNat * 4)) 3)) = (some (Value.string s18))) ∧
(∀ w19 : World, ((w19 = (w10.alloc (Obj.cells #[(Value.string (ByteArray.mk #[])), (Value.int IntKind.i64 0), (Value.int IntKind.i64 0), (Value.string (ByteArray.mk #[]))] 58 (0, 0)))) →
((Nf.There w19 (⟨(hs w10), 0, none⟩ : Addr) 4) ∧
(∀ w21 : World, ((w21 = (Nf.setCells w19 (⟨(hs w10), 0, none⟩ : Addr) [(Value.string s15), (Value.int IntKind.i64 x16), (Value.int IntKind.i64 x17), (Value.string s18)] 0)) →
(∃ s23 : ByteArray, (((w21.cell? (⟨(hs w10), 0, none⟩ : Addr)) = (some (Value.string s23))) ∧
(∃ x24 : Int, (((w21.cell? (⟨(hs w10), 1, none⟩ : Addr)) = (some (Value.int IntKind.i64 x24))) ∧
(∃ x25 : Int, (((w21.cell? (⟨(hs w10), 2, none⟩ : Addr)) = (some (Value.int IntKind.i64 x25))) ∧
(∃ s26 : ByteArray, (((w21.cell? (⟨(hs w10), 3, none⟩ : Addr)) = (some (Value.string s26))) ∧
(Calls Try.prog 118 #[(Value.agg #[(Value.string s23), (Value.int IntKind.i64 x24), (Value.int IntKind.i64 x25), (Value.string s26)]), (Value.int IntKind.i64 questions)] w21 (fun (e27 : Ending) => (fun (w28 : World) => (∃ b29 : Bool, ((e27 = (Ending.returned (Value.bool b29))) ∧
(((b29 = true) →
(∃ n31 : Nat, ((n31 < n8) ∧
(k6 n31 (IntKind.wrap IntKind.i64 (x11 + 1)) w28)))) ∧
((b29 = false) →
(R (Ending.returned (Value.bool false)) w28))))))))))))))))))))))))))))))))) ∧
(((decide (x11 < ((n4 : Nat) : Int))) = false) →
(∃ s34 : ByteArray, (((w10.cell? (⟨(hs w), 0, none⟩ : Addr)) = (some (Value.string s34))) ∧
(Calls Try.prog 119 #[(Value.string s34), (Value.int IntKind.i64 200)] w10 (fun (e35 : Ending) => (fun (w36 : World) => (∃ b37 : Bool, ((e35 = (Ending.returned (Value.bool b37))) ∧
(((b37 = true) →
(∃ o39 : Option Addr, (∃ n40 : Nat, (∃ n41 : Nat, (((w36.cell? (⟨(hs w), 1, none⟩ : Addr)) = (some (Value.slice o39 n40 n41))) ∧
((((decide (((n40 : Nat) : Int) ≥ 1)) = true) →
(∃ o43 : Option Addr, (∃ n44 : Nat, (∃ n45 : Nat, (((w36.cell? (⟨(hs w), 1, none⟩ : Addr)) = (some (Value.slice o43 n44 n45))) ∧
((((decide (((n44 : Nat) : Int) ≤ 16)) = true) →
(R (Ending.returned (Value.bool true)) w36)) ∧
(((decide (((n44 : Nat) : Int) ≤ 16)) = false) →
(R (Ending.returned (Value.bool false)) w36)))))))) ∧
(((decide (((n40 : Nat) : Int) ≥ 1)) = false) →
(R (Ending.returned (Value.bool false)) w36)))))))) ∧
((b37 = false) →
(R (Ending.returned (Value.bool false)) w36)))))))))))))))))))))))))) :
    Calls Try.prog 90 #[(.agg #[(.string q_Text), (.slice q_Answers q_Answers_n q_Answers_c)]), (.int .i64 questions)] w R :=
  calls_of_vc an90 Try.func90 rfl (by kernel_rfl) (by kernel_rfl) (Eq.mp (by kernel_rfl) h)

/-- samaritan/samaritanref12.Right -/
def an51 : An := (.seq (.reg []) (.seq (.seq (.reg []) (.blk (.loop [(9, .int .i64)] (.seq (.reg [(0, 0, true)]) (.seq (.cond .nil .nil) (.seq (.blk (.seq (.reg []) (.seq (.reg [(4, 0, true)]) (.cond (.seq (.reg []) .nil) .nil)))) (.reg []))))))) (.seq (.seq (.reg [(2, 0, true), (7, 0, true), (12, 0, true), (18, 0, true), (24, 0, true)]) (.cond (.seq (.reg []) .nil) .nil)) (.seq (.reg []) .nil))))
set_option maxRecDepth 100000 in
theorem nf51 (t_Name : ByteArray) (t_Version : Int) (t_Questions : Option Addr) (t_Questions_n : Nat) (t_Questions_c : Nat) (w : World) (R : Ending → World → Prop) (h :
(∀ w1 : World, ((w1 = (w.alloc (Obj.cells #[(Value.string t_Name), (Value.int IntKind.i64 t_Version), (Value.slice t_Questions t_Questions_n t_Questions_c)] 24 (0, 0)))) →
(∃ o3 : Option Addr, (∃ n4 : Nat, (∃ n5 : Nat, (((w1.cell? (⟨(hs w), 2, none⟩ : Addr)) = (some (Value.slice o3 n4 n5))) ∧
(∃ k6 : (Nat → (Int → (World → Prop))), ((∃ n7 : Nat, (k6 n7 0 w1)) ∧
(∀ n8 : Nat, ((Nat → Value) →
(∀ w10 : World, (∀ x11 : Int, ((k6 n8 x11 w10) →
((((decide (x11 < ((n4 : Nat) : Int))) = true) →
(∃ a14 : Addr, ((o3 = (some a14)) ∧
((((0 : Int) ≤ x11) ∧
(x11 < ((n4 : Nat) : Int))) ∧
(∃ s15 : ByteArray, (((w10.cell? (Addr.add a14 ((x11).toNat * 2))) = (some (Value.string s15))) ∧
(∃ o16 : Option Addr, (∃ n17 : Nat, (∃ n18 : Nat, (((w10.cell? (Addr.add (Addr.add a14 ((x11).toNat * 2)) 1)) = (some (Value.slice o16 n17 n18))) ∧
(∀ w19 : World, ((w19 = (w10.alloc (Obj.cells #[(Value.string (ByteArray.mk #[])), (Value.slice none 0 0)] 38 (0, 0)))) →
((Nf.There w19 (⟨(hs w10), 0, none⟩ : Addr) 2) ∧
(∀ w21 : World, ((w21 = (Nf.setCells w19 (⟨(hs w10), 0, none⟩ : Addr) [(Value.string s15), (Value.slice o16 n17 n18)] 0)) →
(∃ s23 : ByteArray, (((w21.cell? (⟨(hs w10), 0, none⟩ : Addr)) = (some (Value.string s23))) ∧
(∃ o24 : Option Addr, (∃ n25 : Nat, (∃ n26 : Nat, (((w21.cell? (⟨(hs w10), 1, none⟩ : Addr)) = (some (Value.slice o24 n25 n26))) ∧
(∃ o27 : Option Addr, (∃ n28 : Nat, (∃ n29 : Nat, (((w21.cell? (⟨(hs w), 2, none⟩ : Addr)) = (some (Value.slice o27 n28 n29))) ∧
(Calls Try.prog 90 #[(Value.agg #[(Value.string s23), (Value.slice o24 n25 n26)]), (Value.int IntKind.i64 ((n28 : Nat) : Int))] w21 (fun (e30 : Ending) => (fun (w31 : World) => (∃ b32 : Bool, ((e30 = (Ending.returned (Value.bool b32))) ∧
(((b32 = true) →
(∃ n34 : Nat, ((n34 < n8) ∧
(k6 n34 (IntKind.wrap IntKind.i64 (x11 + 1)) w31)))) ∧
((b32 = false) →
(R (Ending.returned (Value.tuple #[(Value.int IntKind.i64 x11), (Value.int IntKind.i64 1)])) w31))))))))))))))))))))))))))))))))) ∧
(((decide (x11 < ((n4 : Nat) : Int))) = false) →
(∃ s37 : ByteArray, (((w10.cell? (⟨(hs w), 0, none⟩ : Addr)) = (some (Value.string s37))) ∧
(Calls Try.prog 91 #[(Value.string s37), (Value.int IntKind.i64 40)] w10 (fun (e38 : Ending) => (fun (w39 : World) => (∃ b40 : Bool, ((e38 = (Ending.returned (Value.bool b40))) ∧
(((b40 = true) →
(∃ x42 : Int, (((w39.cell? (⟨(hs w), 1, none⟩ : Addr)) = (some (Value.int IntKind.i64 x42))) ∧
((((decide (x42 < 1)) = true) →
(R (Ending.returned (Value.tuple #[(Value.int IntKind.i64 (-1)), (Value.int IntKind.i64 1)])) w39)) ∧
(((decide (x42 < 1)) = false) →
(∃ x45 : Int, (((w39.cell? (⟨(hs w), 1, none⟩ : Addr)) = (some (Value.int IntKind.i64 x45))) ∧
((((decide (x45 > 1048576)) = true) →
(R (Ending.returned (Value.tuple #[(Value.int IntKind.i64 (-1)), (Value.int IntKind.i64 1)])) w39)) ∧
(((decide (x45 > 1048576)) = false) →
(∃ o48 : Option Addr, (∃ n49 : Nat, (∃ n50 : Nat, (((w39.cell? (⟨(hs w), 2, none⟩ : Addr)) = (some (Value.slice o48 n49 n50))) ∧
((((decide (((n49 : Nat) : Int) < 1)) = true) →
(R (Ending.returned (Value.tuple #[(Value.int IntKind.i64 (-1)), (Value.int IntKind.i64 1)])) w39)) ∧
(((decide (((n49 : Nat) : Int) < 1)) = false) →
(∃ o53 : Option Addr, (∃ n54 : Nat, (∃ n55 : Nat, (((w39.cell? (⟨(hs w), 2, none⟩ : Addr)) = (some (Value.slice o53 n54 n55))) ∧
((((decide (((n54 : Nat) : Int) > 64)) = true) →
(R (Ending.returned (Value.tuple #[(Value.int IntKind.i64 (-1)), (Value.int IntKind.i64 1)])) w39)) ∧
(((decide (((n54 : Nat) : Int) > 64)) = false) →
(R (Ending.returned (Value.tuple #[(Value.int IntKind.i64 (-1)), (Value.int IntKind.i64 0)])) w39)))))))))))))))))))))) ∧
((b40 = false) →
(R (Ending.returned (Value.tuple #[(Value.int IntKind.i64 (-1)), (Value.int IntKind.i64 1)])) w39)))))))))))))))))))))))))) :
    Calls Try.prog 51 #[(.agg #[(.string t_Name), (.int .i64 t_Version), (.slice t_Questions t_Questions_n t_Questions_c)])] w R :=
  calls_of_vc an51 Try.func51 rfl (by kernel_rfl) (by kernel_rfl) (Eq.mp (by kernel_rfl) h)

/-- samaritan/protocol.Successors -/
def an120 : An := (.seq (.reg []) (.seq (.seq (.reg [(1, 0, true), (7, 0, true)]) (.cond (.seq (.reg []) .nil) .nil)) (.seq (.reg []) (.seq (.seq (.reg []) (.blk (.loop [(5, .slice), (24, .int .i64)] (.seq (.reg [(0, 0, true)]) (.seq (.cond .nil .nil) (.cut [(5, .slice)] (.blk (.seq (.reg []) (.seq (.reg [(2, 0, true)]) (.cond (.reg [(4, 1, false)]) .nil)))) (.reg []))))))) (.seq (.reg []) (.seq (.reg []) .nil))))))
set_option maxRecDepth 100000 in
theorem nf120 (p_Name : ByteArray) (p_Version : Int) (p_Questions : Option Addr) (p_Questions_n : Nat) (p_Questions_c : Nat) (question : Int) (w : World) (R : Ending → World → Prop) (h :
(∀ w1 : World, ((w1 = (w.alloc (Obj.cells #[(Value.string p_Name), (Value.int IntKind.i64 p_Version), (Value.slice p_Questions p_Questions_n p_Questions_c)] 24 (0, 0)))) →
((((decide (question < 0)) = true) →
(R (Ending.returned (Value.slice none 0 0)) w1)) ∧
(((decide (question < 0)) = false) →
(∃ o5 : Option Addr, (∃ n6 : Nat, (∃ n7 : Nat, (((w1.cell? (⟨(hs w), 2, none⟩ : Addr)) = (some (Value.slice o5 n6 n7))) ∧
((((decide (question ≥ ((n6 : Nat) : Int))) = true) →
(R (Ending.returned (Value.slice none 0 0)) w1)) ∧
(((decide (question ≥ ((n6 : Nat) : Int))) = false) →
(∃ o10 : Option Addr, (∃ n11 : Nat, (∃ n12 : Nat, (((w1.cell? (⟨(hs w), 2, none⟩ : Addr)) = (some (Value.slice o10 n11 n12))) ∧
(∃ a13 : Addr, ((o10 = (some a13)) ∧
((((0 : Int) ≤ question) ∧
(question < ((n11 : Nat) : Int))) ∧
(∃ o14 : Option Addr, (∃ n15 : Nat, (∃ n16 : Nat, (((w1.cell? (Addr.add (Addr.add a13 ((question).toNat * 2)) 1)) = (some (Value.slice o14 n15 n16))) ∧
(∃ k17 : (Nat → (Option Addr → (Nat → (Nat → (Int → (World → Prop)))))), ((∃ n18 : Nat, (k17 n18 none 0 0 0 w1)) ∧
(∀ n19 : Nat, ((Nat → Value) →
(∀ w21 : World, (∀ o22 : Option Addr, (∀ n23 : Nat, (∀ n24 : Nat, (∀ x25 : Int, ((k17 n19 o22 n23 n24 x25 w21) →
((((decide (x25 < ((n15 : Nat) : Int))) = true) →
(∀ k28 : (Option Addr → (Nat → (Nat → (World → Prop)))), ((∀ w30 : World, (∀ o31 : Option Addr, (∀ n32 : Nat, (∀ n33 : Nat, (((Nat → Value) →
(∃ n36 : Nat, ((n36 < n19) ∧
(k17 n36 o31 n32 n33 (IntKind.wrap IntKind.i64 (x25 + 1)) w30)))) →
(k28 o31 n32 n33 w30)))))) →
(∃ a37 : Addr, ((o14 = (some a37)) ∧
((((0 : Int) ≤ x25) ∧
(x25 < ((n15 : Nat) : Int))) ∧
(∃ s38 : ByteArray, (((w21.cell? (Addr.add a37 ((x25).toNat * 4))) = (some (Value.string s38))) ∧
(∃ x39 : Int, (((w21.cell? (Addr.add (Addr.add a37 ((x25).toNat * 4)) 1)) = (some (Value.int IntKind.i64 x39))) ∧
(∃ x40 : Int, (((w21.cell? (Addr.add (Addr.add a37 ((x25).toNat * 4)) 2)) = (some (Value.int IntKind.i64 x40))) ∧
(∃ s41 : ByteArray, (((w21.cell? (Addr.add (Addr.add a37 ((x25).toNat * 4)) 3)) = (some (Value.string s41))) ∧
(∀ w42 : World, ((w42 = (w21.alloc (Obj.cells #[(Value.string (ByteArray.mk #[])), (Value.int IntKind.i64 0), (Value.int IntKind.i64 0), (Value.string (ByteArray.mk #[]))] 58 (0, 0)))) →
((Nf.There w42 (⟨(hs w21), 0, none⟩ : Addr) 4) ∧
(∀ w44 : World, ((w44 = (Nf.setCells w42 (⟨(hs w21), 0, none⟩ : Addr) [(Value.string s38), (Value.int IntKind.i64 x39), (Value.int IntKind.i64 x40), (Value.string s41)] 0)) →
(∃ x46 : Int, (((w44.cell? (⟨(hs w21), 1, none⟩ : Addr)) = (some (Value.int IntKind.i64 x46))) ∧
((((decide (x46 ≥ 0)) = true) →
(∃ x48 : Int, (((w44.cell? (⟨(hs w21), 1, none⟩ : Addr)) = (some (Value.int IntKind.i64 x48))) ∧
(∀ w49 : World, ((w49 = (w44.alloc (Obj.cells #[(Value.int IntKind.i64 x48)] 3 (0, 0)))) →
(RunOk Try.prog (Nf.Hold (Builtin.append_ #[48, 48] 48 #[(Value.slice o22 n23 n24), (Value.slice (some (⟨(hs w44), 0, none⟩ : Addr)) 1 1)])) w49 (fun (v51 : Value) => (fun (w52 : World) => (∃ o53 : Option Addr, (∃ n54 : Nat, (∃ n55 : Nat, ((v51 = (Value.slice o53 n54 n55)) ∧
(k28 o53 n54 n55 w52))))))))))))) ∧
(((decide (x46 ≥ 0)) = false) →
(k28 o22 n23 n24 w44)))))))))))))))))))))))) ∧
(((decide (x25 < ((n15 : Nat) : Int))) = false) →
(Calls Try.prog 129 #[(Value.slice o22 n23 n24)] w21 (fun (e58 : Ending) => (fun (w59 : World) => ((e58 = (Ending.returned (Value.tuple #[]))) ∧
(Calls Try.prog 130 #[(Value.slice o22 n23 n24)] w59 (fun (e60 : Ending) => (fun (w61 : World) => (∃ o62 : Option Addr, (∃ n63 : Nat, (∃ n64 : Nat, ((e60 = (Ending.returned (Value.slice o62 n63 n64))) ∧
(R (Ending.returned (Value.slice o62 n63 n64)) w61)))))))))))))))))))))))))))))))))))))))))))))) :
    Calls Try.prog 120 #[(.agg #[(.string p_Name), (.int .i64 p_Version), (.slice p_Questions p_Questions_n p_Questions_c)]), (.int .i64 question)] w R :=
  calls_of_vc an120 Try.func120 rfl (by kernel_rfl) (by kernel_rfl) (Eq.mp (by kernel_rfl) h)

/-- slices.Compact[[]int,int] -/
def an130 : An := (.seq (.reg []) (.seq (.seq (.reg [(2, 0, true)]) (.cond (.seq (.reg []) .nil) .nil)) (.seq (.seq (.reg []) (.blk (.loop [(3, .int .i64)] (.seq (.seq (.reg [(3, 0, true)]) (.cond .nil .nil)) (.seq (.blk (.seq (.regD [(9, 0, true)] [0, 1, 2, 3, 4, 5, 6, 7, 8, 9] []) (.cond (.seq (.reg [(2, 2, false)]) (.seq (.seq (.reg []) (.blk (.loop [(3, .int .i64), (5, .int .i64)] (.seq (.seq (.reg [(3, 0, true)]) (.cond .nil .nil)) (.cut [(3, .int .i64)] (.blk (.seq (.regD [(9, 0, true)] [0, 1, 2, 3, 4, 5, 6, 7, 8, 9] []) (.cond (.seq (.reg []) (.reg [])) .nil))) (.reg [])))))) (.seq (.reg [(2, 2, false), (3, 1, false)]) (.seq (.reg [(2, 2, false)]) .nil)))) .nil))) (.reg [])))))) (.seq (.reg []) .nil))))
set_option maxRecDepth 100000 in
theorem nf130 (s : Option Addr) (s_n : Nat) (s_c : Nat) (w : World) (R : Ending → World → Prop) (h :
((((decide (((s_n : Nat) : Int) < 2)) = true) →
(R (Ending.returned (Value.slice s s_n s_c)) w)) ∧
(((decide (((s_n : Nat) : Int) < 2)) = false) →
(∃ k3 : (Nat → (Int → (World → Prop))), ((∃ n4 : Nat, (k3 n4 1 w)) ∧
(∀ n5 : Nat, ((Nat → Value) →
(∀ w7 : World, (∀ x8 : Int, ((k3 n5 x8 w7) →
((((decide (x8 < ((s_n : Nat) : Int))) = true) →
(∀ w11 : World, ((w11 = w7.drew) →
(∃ a13 : Addr, ((s = (some a13)) ∧
((((0 : Int) ≤ x8) ∧
(x8 < ((s_n : Nat) : Int))) ∧
(∃ x14 : Int, (((w11.cell? (Addr.add a13 ((x8).toNat * 1))) = (some (Value.int IntKind.i64 x14))) ∧
(∃ a15 : Addr, ((s = (some a15)) ∧
((((0 : Int) ≤ (IntKind.wrap IntKind.i64 (x8 - 1))) ∧
((IntKind.wrap IntKind.i64 (x8 - 1)) < ((s_n : Nat) : Int))) ∧
(∃ x16 : Int, (((w11.cell? (Addr.add a15 (((IntKind.wrap IntKind.i64 (x8 - 1))).toNat * 1))) = (some (Value.int IntKind.i64 x16))) ∧
((((decide (x14 = x16)) = true) →
((((0 : Int) ≤ x8) ∧
(x8 ≤ ((s_n : Nat) : Int))) ∧
(∃ k18 : (Nat → (Int → (Int → (World → Prop)))), ((∃ n19 : Nat, (k18 n19 x8 1 w11)) ∧
(∀ n20 : Nat, ((Nat → Value) →
(∀ w22 : World, (∀ x23 : Int, (∀ x24 : Int, ((k18 n20 x23 x24 w22) →
((((decide (x24 < (((s_n - (x8).toNat) : Nat) : Int))) = true) →
(∀ k27 : (Int → (World → Prop)), ((∀ w29 : World, (∀ x30 : Int, (((Nat → Value) →
(∃ n33 : Nat, ((n33 < n20) ∧
(k18 n33 x30 (IntKind.wrap IntKind.i64 (x24 + 1)) w29)))) →
(k27 x30 w29)))) →
(∀ w34 : World, ((w34 = w22.drew) →
(∃ a36 : Addr, (((if (s_c = (x8).toNat) then s else (Option.map (fun (x : Addr) => (Addr.add x ((x8).toNat * 1))) s)) = (some a36)) ∧
((((0 : Int) ≤ x24) ∧
(x24 < (((s_n - (x8).toNat) : Nat) : Int))) ∧
(∃ x37 : Int, (((w34.cell? (Addr.add a36 ((x24).toNat * 1))) = (some (Value.int IntKind.i64 x37))) ∧
(∃ a38 : Addr, (((if (s_c = (x8).toNat) then s else (Option.map (fun (x : Addr) => (Addr.add x ((x8).toNat * 1))) s)) = (some a38)) ∧
((((0 : Int) ≤ (IntKind.wrap IntKind.i64 (x24 - 1))) ∧
((IntKind.wrap IntKind.i64 (x24 - 1)) < (((s_n - (x8).toNat) : Nat) : Int))) ∧
(∃ x39 : Int, (((w34.cell? (Addr.add a38 (((IntKind.wrap IntKind.i64 (x24 - 1))).toNat * 1))) = (some (Value.int IntKind.i64 x39))) ∧
((((!(decide (x37 = x39))) = true) →
(∃ a41 : Addr, (((if (s_c = (x8).toNat) then s else (Option.map (fun (x : Addr) => (Addr.add x ((x8).toNat * 1))) s)) = (some a41)) ∧
((((0 : Int) ≤ x24) ∧
(x24 < (((s_n - (x8).toNat) : Nat) : Int))) ∧
(∃ x42 : Int, (((w34.cell? (Addr.add a41 ((x24).toNat * 1))) = (some (Value.int IntKind.i64 x42))) ∧
(∃ a43 : Addr, ((s = (some a43)) ∧
((((0 : Int) ≤ x23) ∧
(x23 < ((s_n : Nat) : Int))) ∧
((Nf.There w34 (Addr.add a43 ((x23).toNat * 1)) 1) ∧
(∀ w44 : World, ((w44 = (Nf.setCells w34 (Addr.add a43 ((x23).toNat * 1)) [(Value.int IntKind.i64 x42)] 0)) →
(k27 (IntKind.wrap IntKind.i64 (x23 + 1)) w44))))))))))))) ∧
(((!(decide (x37 = x39))) = false) →
(k27 x23 w34)))))))))))))))))) ∧
(((decide (x24 < (((s_n - (x8).toNat) : Nat) : Int))) = false) →
((((0 : Int) ≤ x23) ∧
(x23 ≤ ((s_n : Nat) : Int))) ∧
(RunOk Try.prog (Nf.Hold (Builtin.clear_ #[48] 0 #[(Value.slice (if (s_c = (x23).toNat) then s else (Option.map (fun (x : Addr) => (Addr.add x ((x23).toNat * 1))) s)) (s_n - (x23).toNat) (s_c - (x23).toNat))])) w22 (fun (v48 : Value) => (fun (w49 : World) => (∃ v50 : Value, ((v48 = v50) ∧
((((0 : Int) ≤ x23) ∧
(x23 ≤ ((s_c : Nat) : Int))) ∧
(R (Ending.returned (Value.slice (if (s_c = 0) then s else (Option.map (fun (x : Addr) => x) s)) ((x23).toNat - 0) (s_c - 0))) w49)))))))))))))))))))) ∧
(((decide (x14 = x16)) = false) →
(∃ n52 : Nat, ((n52 < n5) ∧
(k3 n52 (IntKind.wrap IntKind.i64 (x8 + 1)) w11)))))))))))))))))) ∧
(((decide (x8 < ((s_n : Nat) : Int))) = false) →
(R (Ending.returned (Value.slice s s_n s_c)) w7))))))))))))) :
    Calls Try.prog 130 #[(.slice s s_n s_c)] w R :=
  calls_of_vc an130 Try.func130 rfl (by kernel_rfl) (by kernel_rfl) (Eq.mp (by kernel_rfl) h)

/-- samaritan/protocolcheck.followers -/
def an94 : An := (.seq (.reg []) (.seq (.reg [(3, 1, false)]) (.seq (.seq (.reg []) (.blk (.loop [(12, .int .i64)] (.seq (.reg [(0, 0, true)]) (.seq (.cond .nil .nil) (.seq (.blk (.seq (.reg []) (.reg []))) (.reg []))))))) (.seq (.reg []) .nil))))
set_option maxRecDepth 100000 in
theorem nf94 (t_Name : ByteArray) (t_Version : Int) (t_Questions : Option Addr) (t_Questions_n : Nat) (t_Questions_c : Nat) (w : World) (R : Ending → World → Prop) (h :
(∀ w1 : World, ((w1 = (w.alloc (Obj.cells #[(Value.string t_Name), (Value.int IntKind.i64 t_Version), (Value.slice t_Questions t_Questions_n t_Questions_c)] 24 (0, 0)))) →
(∃ o3 : Option Addr, (∃ n4 : Nat, (∃ n5 : Nat, (((w1.cell? (⟨(hs w), 2, none⟩ : Addr)) = (some (Value.slice o3 n4 n5))) ∧
(RunOk Try.prog (Nf.Hold (Instr.makeSlice 91 (Value.int IntKind.i64 ((n4 : Nat) : Int)) (Value.int IntKind.i64 ((n4 : Nat) : Int)))) w1 (fun (v6 : Value) => (fun (w7 : World) => (∃ o8 : Option Addr, (∃ n9 : Nat, (∃ n10 : Nat, ((v6 = (Value.slice o8 n9 n10)) ∧
(∃ o11 : Option Addr, (∃ n12 : Nat, (∃ n13 : Nat, (((w7.cell? (⟨(hs w), 2, none⟩ : Addr)) = (some (Value.slice o11 n12 n13))) ∧
(∃ k14 : (Nat → (Int → (World → Prop))), ((∃ n15 : Nat, (k14 n15 0 w7)) ∧
(∀ n16 : Nat, ((Nat → Value) →
(∀ w18 : World, (∀ x19 : Int, ((k14 n16 x19 w18) →
((((decide (x19 < ((n12 : Nat) : Int))) = true) →
(∃ s22 : ByteArray, (((w18.cell? (⟨(hs w), 0, none⟩ : Addr)) = (some (Value.string s22))) ∧
(∃ x23 : Int, (((w18.cell? (⟨(hs w), 1, none⟩ : Addr)) = (some (Value.int IntKind.i64 x23))) ∧
(∃ o24 : Option Addr, (∃ n25 : Nat, (∃ n26 : Nat, (((w18.cell? (⟨(hs w), 2, none⟩ : Addr)) = (some (Value.slice o24 n25 n26))) ∧
(Calls Try.prog 120 #[(Value.agg #[(Value.string s22), (Value.int IntKind.i64 x23), (Value.slice o24 n25 n26)]), (Value.int IntKind.i64 x19)] w18 (fun (e27 : Ending) => (fun (w28 : World) => (∃ o29 : Option Addr, (∃ n30 : Nat, (∃ n31 : Nat, ((e27 = (Ending.returned (Value.slice o29 n30 n31))) ∧
(∃ a32 : Addr, ((o8 = (some a32)) ∧
((((0 : Int) ≤ x19) ∧
(x19 < ((n9 : Nat) : Int))) ∧
((Nf.There w28 (Addr.add a32 ((x19).toNat * 1)) 1) ∧
(∀ w33 : World, ((w33 = (Nf.setCells w28 (Addr.add a32 ((x19).toNat * 1)) [(Value.slice o29 n30 n31)] 0)) →
(∃ n35 : Nat, ((n35 < n16) ∧
(k14 n35 (IntKind.wrap IntKind.i64 (x19 + 1)) w33))))))))))))))))))))))))) ∧
(((decide (x19 < ((n12 : Nat) : Int))) = false) →
(R (Ending.returned (Value.slice o8 n9 n10)) w18)))))))))))))))))))))))))))) :
    Calls Try.prog 94 #[(.agg #[(.string t_Name), (.int .i64 t_Version), (.slice t_Questions t_Questions_n t_Questions_c)])] w R :=
  calls_of_vc an94 Try.func94 rfl (by kernel_rfl) (by kernel_rfl) (Eq.mp (by kernel_rfl) h)

/-- samaritan/protocolcheck.isCyclic -/
def an95 : An := (.seq (.reg []) (.seq (.reg [(8, 0, true)]) .nil))
set_option maxRecDepth 100000 in
theorem nf95 (next' : Option Addr) (next'_n : Nat) (next'_c : Nat) (q : Int) (w : World) (R : Ending → World → Prop) (h :
(∃ a1 : Addr, ((next' = (some a1)) ∧
((((0 : Int) ≤ q) ∧
(q < ((next'_n : Nat) : Int))) ∧
(∃ o2 : Option Addr, (∃ n3 : Nat, (∃ n4 : Nat, (((w.cell? (Addr.add a1 ((q).toNat * 1))) = (some (Value.slice o2 n3 n4))) ∧
(Calls Try.prog 96 #[(Value.slice next' next'_n next'_c), (Value.slice o2 n3 n4)] w (fun (e5 : Ending) => (fun (w6 : World) => (∃ o7 : Option Addr, (∃ n8 : Nat, (∃ n9 : Nat, ((e5 = (Ending.returned (Value.slice o7 n8 n9))) ∧
(∃ a10 : Addr, ((o7 = (some a10)) ∧
((((0 : Int) ≤ q) ∧
(q < ((n8 : Nat) : Int))) ∧
(∃ b11 : Bool, (((w6.cell? (Addr.add a10 ((q).toNat * 1))) = (some (Value.bool b11))) ∧
(((b11 = true) →
(R (Ending.returned (Value.bool true)) w6)) ∧
((b11 = false) →
(R (Ending.returned (Value.bool false)) w6))))))))))))))))))))))) :
    Calls Try.prog 95 #[(.slice next' next'_n next'_c), (.int .i64 q)] w R :=
  calls_of_vc an95 Try.func95 rfl (by kernel_rfl) (by kernel_rfl) (Eq.mp (by kernel_rfl) h)

/-- samaritan/protocolcheck.reachable -/
def an96 : An := (.seq (.reg []) (.seq (.reg [(2, 1, false)]) (.seq (.reg []) (.seq (.seq (.reg []) (.blk (.loop [(6, .slice), (7, .int .i64)] (.seq (.seq (.reg [(3, 0, true)]) (.cond .nil .nil)) (.cut [(6, .slice)] (.blk (.seq (.reg []) (.seq (.reg [(3, 0, true)]) (.cond (.seq (.reg []) (.reg [(5, 1, false)])) .nil)))) (.reg [])))))) (.seq (.reg []) .nil)))))
set_option maxRecDepth 100000 in
theorem nf96 (next' : Option Addr) (next'_n : Nat) (next'_c : Nat) (from' : Option Addr) (from'_n : Nat) (from'_c : Nat) (w : World) (R : Ending → World → Prop) (h :
(RunOk Try.prog (Nf.Hold (Instr.makeSlice 99 (Value.int IntKind.i64 ((next'_n : Nat) : Int)) (Value.int IntKind.i64 ((next'_n : Nat) : Int)))) w (fun (v1 : Value) => (fun (w2 : World) => (∃ o3 : Option Addr, (∃ n4 : Nat, (∃ n5 : Nat, ((v1 = (Value.slice o3 n4 n5)) ∧
(Calls Try.prog 81 #[(Value.slice from' from'_n from'_c)] w2 (fun (e6 : Ending) => (fun (w7 : World) => (∃ o8 : Option Addr, (∃ n9 : Nat, (∃ n10 : Nat, ((e6 = (Ending.returned (Value.slice o8 n9 n10))) ∧
(∃ k11 : (Nat → (Option Addr → (Nat → (Nat → (Int → (World → Prop)))))), ((∃ n12 : Nat, (k11 n12 o8 n9 n10 0 w7)) ∧
(∀ n13 : Nat, ((Nat → Value) →
(∀ w15 : World, (∀ o16 : Option Addr, (∀ n17 : Nat, (∀ n18 : Nat, (∀ x19 : Int, ((k11 n13 o16 n17 n18 x19 w15) →
((((decide (x19 < ((n17 : Nat) : Int))) = true) →
(∀ k22 : (Option Addr → (Nat → (Nat → (World → Prop)))), ((∀ w24 : World, (∀ o25 : Option Addr, (∀ n26 : Nat, (∀ n27 : Nat, (((Nat → Value) →
(∃ n30 : Nat, ((n30 < n13) ∧
(k11 n30 o25 n26 n27 (IntKind.wrap IntKind.i64 (x19 + 1)) w24)))) →
(k22 o25 n26 n27 w24)))))) →
(∃ a31 : Addr, ((o16 = (some a31)) ∧
((((0 : Int) ≤ x19) ∧
(x19 < ((n17 : Nat) : Int))) ∧
(∃ x32 : Int, (((w15.cell? (Addr.add a31 ((x19).toNat * 1))) = (some (Value.int IntKind.i64 x32))) ∧
(∃ a33 : Addr, ((o3 = (some a33)) ∧
((((0 : Int) ≤ x32) ∧
(x32 < ((n4 : Nat) : Int))) ∧
(∃ b34 : Bool, (((w15.cell? (Addr.add a33 ((x32).toNat * 1))) = (some (Value.bool b34))) ∧
(((b34 = true) →
(k22 o16 n17 n18 w15)) ∧
((b34 = false) →
(∃ a37 : Addr, ((o3 = (some a37)) ∧
((((0 : Int) ≤ x32) ∧
(x32 < ((n4 : Nat) : Int))) ∧
((Nf.There w15 (Addr.add a37 ((x32).toNat * 1)) 1) ∧
(∀ w38 : World, ((w38 = (Nf.setCells w15 (Addr.add a37 ((x32).toNat * 1)) [(Value.bool true)] 0)) →
(∃ a40 : Addr, ((next' = (some a40)) ∧
((((0 : Int) ≤ x32) ∧
(x32 < ((next'_n : Nat) : Int))) ∧
(∃ o41 : Option Addr, (∃ n42 : Nat, (∃ n43 : Nat, (((w38.cell? (Addr.add a40 ((x32).toNat * 1))) = (some (Value.slice o41 n42 n43))) ∧
(RunOk Try.prog (Nf.Hold (Builtin.append_ #[48, 48] 48 #[(Value.slice o16 n17 n18), (Value.slice o41 n42 n43)])) w38 (fun (v44 : Value) => (fun (w45 : World) => (∃ o46 : Option Addr, (∃ n47 : Nat, (∃ n48 : Nat, ((v44 = (Value.slice o46 n47 n48)) ∧
(k22 o46 n47 n48 w45)))))))))))))))))))))))))))))))))))) ∧
(((decide (x19 < ((n17 : Nat) : Int))) = false) →
(R (Ending.returned (Value.slice o3 n4 n5)) w15)))))))))))))))))))))))))))) :
    Calls Try.prog 96 #[(.slice next' next'_n next'_c), (.slice from' from'_n from'_c)] w R :=
  calls_of_vc an96 Try.func96 rfl (by kernel_rfl) (by kernel_rfl) (Eq.mp (by kernel_rfl) h)

/-- samaritan/protocolcheck.isQuestion -/
def an97 : An := (.seq (.reg []) (.seq (.reg [(1, 0, true), (7, 0, true)]) .nil))
set_option maxRecDepth 100000 in
theorem nf97 (t_Name : ByteArray) (t_Version : Int) (t_Questions : Option Addr) (t_Questions_n : Nat) (t_Questions_c : Nat) (q : Int) (w : World) (R : Ending → World → Prop) (h :
(∀ w1 : World, ((w1 = (w.alloc (Obj.cells #[(Value.string t_Name), (Value.int IntKind.i64 t_Version), (Value.slice t_Questions t_Questions_n t_Questions_c)] 24 (0, 0)))) →
((((decide (q ≥ 0)) = true) →
(∃ o4 : Option Addr, (∃ n5 : Nat, (∃ n6 : Nat, (((w1.cell? (⟨(hs w), 2, none⟩ : Addr)) = (some (Value.slice o4 n5 n6))) ∧
((((decide (q < ((n5 : Nat) : Int))) = true) →
(R (Ending.returned (Value.bool true)) w1)) ∧
(((decide (q < ((n5 : Nat) : Int))) = false) →
(R (Ending.returned (Value.bool false)) w1)))))))) ∧
(((decide (q ≥ 0)) = false) →
(R (Ending.returned (Value.bool false)) w1)))))) :
    Calls Try.prog 97 #[(.agg #[(.string t_Name), (.int .i64 t_Version), (.slice t_Questions t_Questions_n t_Questions_c)]), (.int .i64 q)] w R :=
  calls_of_vc an97 Try.func97 rfl (by kernel_rfl) (by kernel_rfl) (Eq.mp (by kernel_rfl) h)

/-- samaritan/protocolcheck.isValid -/
def an93 : An := (.seq (.reg []) (.seq (.reg []) (.seq (.reg [(1, 0, true)]) .nil)))
set_option maxRecDepth 100000 in
theorem nf93 (t_Name : ByteArray) (t_Version : Int) (t_Questions : Option Addr) (t_Questions_n : Nat) (t_Questions_c : Nat) (w : World) (R : Ending → World → Prop) (h :
(∀ w1 : World, ((w1 = (w.alloc (Obj.cells #[(Value.string t_Name), (Value.int IntKind.i64 t_Version), (Value.slice t_Questions t_Questions_n t_Questions_c)] 24 (0, 0)))) →
(∃ s3 : ByteArray, (((w1.cell? (⟨(hs w), 0, none⟩ : Addr)) = (some (Value.string s3))) ∧
(∃ x4 : Int, (((w1.cell? (⟨(hs w), 1, none⟩ : Addr)) = (some (Value.int IntKind.i64 x4))) ∧
(∃ o5 : Option Addr, (∃ n6 : Nat, (∃ n7 : Nat, (((w1.cell? (⟨(hs w), 2, none⟩ : Addr)) = (some (Value.slice o5 n6 n7))) ∧
(Calls Try.prog 82 #[(Value.agg #[(Value.string s3), (Value.int IntKind.i64 x4), (Value.slice o5 n6 n7)])] w1 (fun (e8 : Ending) => (fun (w9 : World) => (∃ x10 : Int, (∃ x11 : Int, ((e8 = (Ending.returned (Value.tuple #[(Value.int IntKind.i64 x10), (Value.int IntKind.i64 x11)]))) ∧
((((decide (x11 = 0)) = true) →
(R (Ending.returned (Value.bool true)) w9)) ∧
(((decide (x11 = 0)) = false) →
(R (Ending.returned (Value.bool false)) w9)))))))))))))))))))) :
    Calls Try.prog 93 #[(.agg #[(.string t_Name), (.int .i64 t_Version), (.slice t_Questions t_Questions_n t_Questions_c)])] w R :=
  calls_of_vc an93 Try.func93 rfl (by kernel_rfl) (by kernel_rfl) (Eq.mp (by kernel_rfl) h)

/-- samaritan/protocolcheck.terminates -/
def an101 : An := (.seq (.reg []) (.seq (.reg []) (.seq (.reg [(1, 0, true)]) .nil)))
set_option maxRecDepth 100000 in
theorem nf101 (t_Name : ByteArray) (t_Version : Int) (t_Questions : Option Addr) (t_Questions_n : Nat) (t_Questions_c : Nat) (w : World) (R : Ending → World → Prop) (h :
(∀ w1 : World, ((w1 = (w.alloc (Obj.cells #[(Value.string t_Name), (Value.int IntKind.i64 t_Version), (Value.slice t_Questions t_Questions_n t_Questions_c)] 24 (0, 0)))) →
(∃ s3 : ByteArray, (((w1.cell? (⟨(hs w), 0, none⟩ : Addr)) = (some (Value.string s3))) ∧
(∃ x4 : Int, (((w1.cell? (⟨(hs w), 1, none⟩ : Addr)) = (some (Value.int IntKind.i64 x4))) ∧
(∃ o5 : Option Addr, (∃ n6 : Nat, (∃ n7 : Nat, (((w1.cell? (⟨(hs w), 2, none⟩ : Addr)) = (some (Value.slice o5 n6 n7))) ∧
(Calls Try.prog 56 #[(Value.agg #[(Value.string s3), (Value.int IntKind.i64 x4), (Value.slice o5 n6 n7)])] w1 (fun (e8 : Ending) => (fun (w9 : World) => (∃ x10 : Int, (∃ x11 : Int, ((e8 = (Ending.returned (Value.tuple #[(Value.int IntKind.i64 x10), (Value.int IntKind.i64 x11)]))) ∧
((((decide (x11 = 0)) = true) →
(R (Ending.returned (Value.bool true)) w9)) ∧
(((decide (x11 = 0)) = false) →
(R (Ending.returned (Value.bool false)) w9)))))))))))))))))))) :
    Calls Try.prog 101 #[(.agg #[(.string t_Name), (.int .i64 t_Version), (.slice t_Questions t_Questions_n t_Questions_c)])] w R :=
  calls_of_vc an101 Try.func101 rfl (by kernel_rfl) (by kernel_rfl) (Eq.mp (by kernel_rfl) h)

/-- samaritan/protocolcheck.Check -/
def an56 : An := (.seq (.reg []) (.seq (.seq (.reg [(1, 0, true)]) (.cond (.seq (.reg []) .nil) .nil)) (.seq (.reg []) (.seq (.seq (.reg []) (.blk (.loop [(15, .int .i64)] (.seq (.reg [(0, 0, true)]) (.seq (.cond .nil .nil) (.seq (.blk (.seq (.reg []) (.seq (.reg [(2, 0, true)]) (.cond (.seq (.reg []) .nil) .nil)))) (.reg []))))))) (.seq (.seq (.reg []) (.blk (.loop [(27, .int .i64)] (.seq (.reg [(0, 0, true)]) (.seq (.cond .nil .nil) (.seq (.blk (.seq (.reg [(2, 0, true)]) (.seq (.reg []) (.cond (.seq (.reg []) .nil) .nil)))) (.reg []))))))) (.seq (.reg []) .nil))))))
set_option maxRecDepth 100000 in
theorem nf56 (t_Name : ByteArray) (t_Version : Int) (t_Questions : Option Addr) (t_Questions_n : Nat) (t_Questions_c : Nat) (w : World) (R : Ending → World → Prop) (h :
(∀ w1 : World, ((w1 = (w.alloc (Obj.cells #[(Value.string t_Name), (Value.int IntKind.i64 t_Version), (Value.slice t_Questions t_Questions_n t_Questions_c)] 24 (0, 0)))) →
(∃ s3 : ByteArray, (((w1.cell? (⟨(hs w), 0, none⟩ : Addr)) = (some (Value.string s3))) ∧
(∃ x4 : Int, (((w1.cell? (⟨(hs w), 1, none⟩ : Addr)) = (some (Value.int IntKind.i64 x4))) ∧
(∃ o5 : Option Addr, (∃ n6 : Nat, (∃ n7 : Nat, (((w1.cell? (⟨(hs w), 2, none⟩ : Addr)) = (some (Value.slice o5 n6 n7))) ∧
(Calls Try.prog 93 #[(Value.agg #[(Value.string s3), (Value.int IntKind.i64 x4), (Value.slice o5 n6 n7)])] w1 (fun (e8 : Ending) => (fun (w9 : World) => (∃ b10 : Bool, ((e8 = (Ending.returned (Value.bool b10))) ∧
(((b10 = true) →
(∃ s12 : ByteArray, (((w9.cell? (⟨(hs w), 0, none⟩ : Addr)) = (some (Value.string s12))) ∧
(∃ x13 : Int, (((w9.cell? (⟨(hs w), 1, none⟩ : Addr)) = (some (Value.int IntKind.i64 x13))) ∧
(∃ o14 : Option Addr, (∃ n15 : Nat, (∃ n16 : Nat, (((w9.cell? (⟨(hs w), 2, none⟩ : Addr)) = (some (Value.slice o14 n15 n16))) ∧
(Calls Try.prog 94 #[(Value.agg #[(Value.string s12), (Value.int IntKind.i64 x13), (Value.slice o14 n15 n16)])] w9 (fun (e17 : Ending) => (fun (w18 : World) => (∃ o19 : Option Addr, (∃ n20 : Nat, (∃ n21 : Nat, ((e17 = (Ending.returned (Value.slice o19 n20 n21))) ∧
(∃ k22 : (Nat → (Int → (World → Prop))), ((∃ n23 : Nat, (k22 n23 0 w18)) ∧
(∀ n24 : Nat, ((Nat → Value) →
(∀ w26 : World, (∀ x27 : Int, ((k22 n24 x27 w26) →
((((decide (x27 < ((n20 : Nat) : Int))) = true) →
(Calls Try.prog 95 #[(Value.slice o19 n20 n21), (Value.int IntKind.i64 x27)] w26 (fun (e30 : Ending) => (fun (w31 : World) => (∃ b32 : Bool, ((e30 = (Ending.returned (Value.bool b32))) ∧
(((b32 = true) →
(R (Ending.returned (Value.tuple #[(Value.int IntKind.i64 x27), (Value.int IntKind.i64 12)])) w31)) ∧
((b32 = false) →
(∃ n35 : Nat, ((n35 < n24) ∧
(k22 n35 (IntKind.wrap IntKind.i64 (x27 + 1)) w31))))))))))) ∧
(((decide (x27 < ((n20 : Nat) : Int))) = false) →
(∀ w37 : World, ((w37 = (w26.alloc (Obj.cells #[(Value.int IntKind.i64 0)] 3 (0, 0)))) →
(Calls Try.prog 96 #[(Value.slice o19 n20 n21), (Value.slice (some (⟨(hs w26), 0, none⟩ : Addr)) 1 1)] w37 (fun (e39 : Ending) => (fun (w40 : World) => (∃ o41 : Option Addr, (∃ n42 : Nat, (∃ n43 : Nat, ((e39 = (Ending.returned (Value.slice o41 n42 n43))) ∧
(∃ k44 : (Nat → (Int → (World → Prop))), ((∃ n45 : Nat, (k44 n45 0 w40)) ∧
(∀ n46 : Nat, ((Nat → Value) →
(∀ w48 : World, (∀ x49 : Int, ((k44 n46 x49 w48) →
((((decide (x49 < ((n42 : Nat) : Int))) = true) →
(∃ a52 : Addr, ((o41 = (some a52)) ∧
((((0 : Int) ≤ x49) ∧
(x49 < ((n42 : Nat) : Int))) ∧
(∃ b53 : Bool, (((w48.cell? (Addr.add a52 ((x49).toNat * 1))) = (some (Value.bool b53))) ∧
(((b53 = true) →
(∃ n55 : Nat, ((n55 < n46) ∧
(k44 n55 (IntKind.wrap IntKind.i64 (x49 + 1)) w48)))) ∧
((b53 = false) →
(R (Ending.returned (Value.tuple #[(Value.int IntKind.i64 x49), (Value.int IntKind.i64 4)])) w48))))))))) ∧
(((decide (x49 < ((n42 : Nat) : Int))) = false) →
(R (Ending.returned (Value.tuple #[(Value.int IntKind.i64 (-1)), (Value.int IntKind.i64 0)])) w48)))))))))))))))))))))))))))))))))))))))))))) ∧
((b10 = false) →
(R (Ending.returned (Value.tuple #[(Value.int IntKind.i64 0), (Value.int IntKind.i64 1)])) w9))))))))))))))))))) :
    Calls Try.prog 56 #[(.agg #[(.string t_Name), (.int .i64 t_Version), (.slice t_Questions t_Questions_n t_Questions_c)])] w R :=
  calls_of_vc an56 Try.func56 rfl (by kernel_rfl) (by kernel_rfl) (Eq.mp (by kernel_rfl) h)

/-- samaritan/protocolcheck.UrgencyRange -/
def an58 : An := (.seq (.reg []) (.seq (.seq (.reg [(1, 0, true), (6, 0, true)]) (.cond (.seq (.reg []) .nil) .nil)) (.seq (.reg []) (.seq (.seq (.reg []) (.blk (.loop [(6, .int .i64), (7, .int .i64), (27, .int .i64)] (.seq (.reg [(0, 0, true)]) (.seq (.cond .nil .nil) (.cut [(6, .int .i64), (7, .int .i64)] (.blk (.seq (.reg [(2, 0, true)]) (.seq (.seq (.reg []) (.cond .nil .nil)) (.seq (.reg []) (.blk (.loop [(6, .int .i64), (7, .int .i64), (41, .int .i64)] (.seq (.reg [(0, 0, true)]) (.seq (.cond .nil .nil) (.cut [(6, .int .i64), (7, .int .i64)] (.blk (.seq (.reg []) (.seq (.seq (.reg [(2, 0, true)]) (.cond .nil .nil)) (.cut [(6, .int .i64)] (.seq (.reg [(1, 0, true), (6, 0, true)]) (.cond (.reg []) .nil)) (.reg []))))) (.reg [])))))))))) (.reg []))))))) (.seq (.reg []) .nil)))))
set_option maxRecDepth 100000 in
theorem nf58 (t_Name : ByteArray) (t_Version : Int) (t_Questions : Option Addr) (t_Questions_n : Nat) (t_Questions_c : Nat) (q : Int) (w : World) (R : Ending → World → Prop) (h :
(∀ w1 : World, ((w1 = (w.alloc (Obj.cells #[(Value.string t_Name), (Value.int IntKind.i64 t_Version), (Value.slice t_Questions t_Questions_n t_Questions_c)] 24 (0, 0)))) →
(∃ s3 : ByteArray, (((w1.cell? (⟨(hs w), 0, none⟩ : Addr)) = (some (Value.string s3))) ∧
(∃ x4 : Int, (((w1.cell? (⟨(hs w), 1, none⟩ : Addr)) = (some (Value.int IntKind.i64 x4))) ∧
(∃ o5 : Option Addr, (∃ n6 : Nat, (∃ n7 : Nat, (((w1.cell? (⟨(hs w), 2, none⟩ : Addr)) = (some (Value.slice o5 n6 n7))) ∧
(Calls Try.prog 93 #[(Value.agg #[(Value.string s3), (Value.int IntKind.i64 x4), (Value.slice o5 n6 n7)])] w1 (fun (e8 : Ending) => (fun (w9 : World) => (∃ b10 : Bool, ((e8 = (Ending.returned (Value.bool b10))) ∧
(((b10 = true) →
(∃ s12 : ByteArray, (((w9.cell? (⟨(hs w), 0, none⟩ : Addr)) = (some (Value.string s12))) ∧
(∃ x13 : Int, (((w9.cell? (⟨(hs w), 1, none⟩ : Addr)) = (some (Value.int IntKind.i64 x13))) ∧
(∃ o14 : Option Addr, (∃ n15 : Nat, (∃ n16 : Nat, (((w9.cell? (⟨(hs w), 2, none⟩ : Addr)) = (some (Value.slice o14 n15 n16))) ∧
(Calls Try.prog 97 #[(Value.agg #[(Value.string s12), (Value.int IntKind.i64 x13), (Value.slice o14 n15 n16)]), (Value.int IntKind.i64 q)] w9 (fun (e17 : Ending) => (fun (w18 : World) => (∃ b19 : Bool, ((e17 = (Ending.returned (Value.bool b19))) ∧
(((b19 = true) →
(∃ s21 : ByteArray, (((w18.cell? (⟨(hs w), 0, none⟩ : Addr)) = (some (Value.string s21))) ∧
(∃ x22 : Int, (((w18.cell? (⟨(hs w), 1, none⟩ : Addr)) = (some (Value.int IntKind.i64 x22))) ∧
(∃ o23 : Option Addr, (∃ n24 : Nat, (∃ n25 : Nat, (((w18.cell? (⟨(hs w), 2, none⟩ : Addr)) = (some (Value.slice o23 n24 n25))) ∧
(Calls Try.prog 94 #[(Value.agg #[(Value.string s21), (Value.int IntKind.i64 x22), (Value.slice o23 n24 n25)])] w18 (fun (e26 : Ending) => (fun (w27 : World) => (∃ o28 : Option Addr, (∃ n29 : Nat, (∃ n30 : Nat, ((e26 = (Ending.returned (Value.slice o28 n29 n30))) ∧
(∀ w31 : World, ((w31 = (w27.alloc (Obj.cells #[(Value.int IntKind.i64 q)] 3 (0, 0)))) →
(Calls Try.prog 96 #[(Value.slice o28 n29 n30), (Value.slice (some (⟨(hs w27), 0, none⟩ : Addr)) 1 1)] w31 (fun (e33 : Ending) => (fun (w34 : World) => (∃ o35 : Option Addr, (∃ n36 : Nat, (∃ n37 : Nat, ((e33 = (Ending.returned (Value.slice o35 n36 n37))) ∧
(∃ k38 : (Nat → (Int → (Int → (Int → (World → Prop))))), ((∃ n39 : Nat, (k38 n39 0 0 0 w34)) ∧
(∀ n40 : Nat, ((Nat → Value) →
(∀ w42 : World, (∀ x43 : Int, (∀ x44 : Int, (∀ x45 : Int, ((k38 n40 x43 x44 x45 w42) →
((((decide (x45 < ((n36 : Nat) : Int))) = true) →
(∀ k48 : (Int → (Int → (World → Prop))), ((∀ w50 : World, (∀ x51 : Int, (∀ x52 : Int, (((Nat → Value) →
(∃ n55 : Nat, ((n55 < n40) ∧
(k38 n55 x51 x52 (IntKind.wrap IntKind.i64 (x45 + 1)) w50)))) →
(k48 x51 x52 w50))))) →
(∃ a56 : Addr, ((o35 = (some a56)) ∧
((((0 : Int) ≤ x45) ∧
(x45 < ((n36 : Nat) : Int))) ∧
(∃ b57 : Bool, (((w42.cell? (Addr.add a56 ((x45).toNat * 1))) = (some (Value.bool b57))) ∧
(((b57 = true) →
(∃ o59 : Option Addr, (∃ n60 : Nat, (∃ n61 : Nat, (((w42.cell? (⟨(hs w), 2, none⟩ : Addr)) = (some (Value.slice o59 n60 n61))) ∧
(∃ a62 : Addr, ((o59 = (some a62)) ∧
((((0 : Int) ≤ x45) ∧
(x45 < ((n60 : Nat) : Int))) ∧
(∃ o63 : Option Addr, (∃ n64 : Nat, (∃ n65 : Nat, (((w42.cell? (Addr.add (Addr.add a62 ((x45).toNat * 2)) 1)) = (some (Value.slice o63 n64 n65))) ∧
(∃ k66 : (Nat → (Int → (Int → (Int → (World → Prop))))), ((∃ n67 : Nat, (k66 n67 x43 x44 0 w42)) ∧
(∀ n68 : Nat, ((Nat → Value) →
(∀ w70 : World, (∀ x71 : Int, (∀ x72 : Int, (∀ x73 : Int, ((k66 n68 x71 x72 x73 w70) →
((((decide (x73 < ((n64 : Nat) : Int))) = true) →
(∀ k76 : (Int → (Int → (World → Prop))), ((∀ w78 : World, (∀ x79 : Int, (∀ x80 : Int, (((Nat → Value) →
(∃ n83 : Nat, ((n83 < n68) ∧
(k66 n83 x79 x80 (IntKind.wrap IntKind.i64 (x73 + 1)) w78)))) →
(k76 x79 x80 w78))))) →
(∃ a84 : Addr, ((o63 = (some a84)) ∧
((((0 : Int) ≤ x73) ∧
(x73 < ((n64 : Nat) : Int))) ∧
(∃ s85 : ByteArray, (((w70.cell? (Addr.add a84 ((x73).toNat * 4))) = (some (Value.string s85))) ∧
(∃ x86 : Int, (((w70.cell? (Addr.add (Addr.add a84 ((x73).toNat * 4)) 1)) = (some (Value.int IntKind.i64 x86))) ∧
(∃ x87 : Int, (((w70.cell? (Addr.add (Addr.add a84 ((x73).toNat * 4)) 2)) = (some (Value.int IntKind.i64 x87))) ∧
(∃ s88 : ByteArray, (((w70.cell? (Addr.add (Addr.add a84 ((x73).toNat * 4)) 3)) = (some (Value.string s88))) ∧
(∀ w89 : World, ((w89 = (w70.alloc (Obj.cells #[(Value.string (ByteArray.mk #[])), (Value.int IntKind.i64 0), (Value.int IntKind.i64 0), (Value.string (ByteArray.mk #[]))] 58 (0, 0)))) →
((Nf.There w89 (⟨(hs w70), 0, none⟩ : Addr) 4) ∧
(∀ w91 : World, ((w91 = (Nf.setCells w89 (⟨(hs w70), 0, none⟩ : Addr) [(Value.string s85), (Value.int IntKind.i64 x86), (Value.int IntKind.i64 x87), (Value.string s88)] 0)) →
(∃ x93 : Int, (((w91.cell? (⟨(hs w70), 1, none⟩ : Addr)) = (some (Value.int IntKind.i64 x93))) ∧
((((decide (x93 ≥ 0)) = true) →
(k76 x71 x72 w91)) ∧
(((decide (x93 ≥ 0)) = false) →
(∀ k96 : (Int → (World → Prop)), ((∀ w98 : World, (∀ x99 : Int, (((Nat → Value) →
(∃ x102 : Int, (((w98.cell? (⟨(hs w70), 2, none⟩ : Addr)) = (some (Value.int IntKind.i64 x102))) ∧
(k76 x99 (if (x72 < x102) then x102 else x72) w98)))) →
(k96 x99 w98)))) →
((((decide (x71 = 0)) = true) →
(∃ x104 : Int, (((w91.cell? (⟨(hs w70), 2, none⟩ : Addr)) = (some (Value.int IntKind.i64 x104))) ∧
(k96 x104 w91)))) ∧
(((decide (x71 = 0)) = false) →
(∃ x106 : Int, (((w91.cell? (⟨(hs w70), 2, none⟩ : Addr)) = (some (Value.int IntKind.i64 x106))) ∧
((((decide (x106 < x71)) = true) →
(∃ x108 : Int, (((w91.cell? (⟨(hs w70), 2, none⟩ : Addr)) = (some (Value.int IntKind.i64 x108))) ∧
(k96 x108 w91)))) ∧
(((decide (x106 < x71)) = false) →
(k96 x71 w91)))))))))))))))))))))))))))))))) ∧
(((decide (x73 < ((n64 : Nat) : Int))) = false) →
(k48 x71 x72 w70)))))))))))))))))))))))) ∧
((b57 = false) →
(k48 x43 x44 w42))))))))))) ∧
(((decide (x45 < ((n36 : Nat) : Int))) = false) →
(R (Ending.returned (Value.tuple #[(Value.int IntKind.i64 x43), (Value.int IntKind.i64 x44)])) w42))))))))))))))))))))))))))))))))))))) ∧
((b19 = false) →
(R (Ending.returned (Value.tuple #[(Value.int IntKind.i64 0), (Value.int IntKind.i64 0)])) w18))))))))))))))))) ∧
((b10 = false) →
(R (Ending.returned (Value.tuple #[(Value.int IntKind.i64 0), (Value.int IntKind.i64 0)])) w9))))))))))))))))))) :
    Calls Try.prog 58 #[(.agg #[(.string t_Name), (.int .i64 t_Version), (.slice t_Questions t_Questions_n t_Questions_c)]), (.int .i64 q)] w R :=
  calls_of_vc an58 Try.func58 rfl (by kernel_rfl) (by kernel_rfl) (Eq.mp (by kernel_rfl) h)

/-- samaritan/samaritanref12.Next -/
def an75 : An := (.seq (.reg []) (.seq (.reg []) (.seq (.seq (.reg [(1, 0, true), (7, 0, true)]) (.cond (.seq (.reg []) .nil) .nil)) (.seq (.seq (.reg []) (.blk (.loop [(5, .slice), (26, .int .i64)] (.seq (.reg [(0, 0, true)]) (.seq (.cond .nil .nil) (.cut [(5, .slice)] (.blk (.seq (.reg []) (.seq (.seq (.reg [(2, 0, true)]) (.cond .nil .nil)) (.seq (.reg []) (.seq (.blk (.loop [(8, .int .i64)] (.seq (.seq (.regD [(3, 0, true), (11, 0, true)] [0, 1, 2, 3, 4, 5, 6, 7, 8, 9, 10, 11, 12] []) (.cond .nil .nil)) (.blk (.reg []))))) (.seq (.seq (.regD [(3, 0, true), (11, 0, true)] [0, 1, 2, 3, 4, 5, 6, 7, 8, 9, 10, 11, 12] []) (.cond .nil .nil)) (.seq (.reg [(3, 2, false), (4, 1, false)]) (.seq (.reg [(4, 1, false)]) (.reg [(3, 2, false), (4, 1, false)]))))))))) (.reg []))))))) (.seq (.reg []) .nil)))))
set_option maxRecDepth 100000 in
theorem nf75 (t_Name : ByteArray) (t_Version : Int) (t_Questions : Option Addr) (t_Questions_n : Nat) (t_Questions_c : Nat) (q : Int) (w : World) (R : Ending → World → Prop) (h :
(∀ w1 : World, ((w1 = (w.alloc (Obj.cells #[(Value.string t_Name), (Value.int IntKind.i64 t_Version), (Value.slice t_Questions t_Questions_n t_Questions_c)] 24 (0, 0)))) →
((((decide (q < 0)) = true) →
(R (Ending.returned (Value.slice none 0 0)) w1)) ∧
(((decide (q < 0)) = false) →
(∃ o5 : Option Addr, (∃ n6 : Nat, (∃ n7 : Nat, (((w1.cell? (⟨(hs w), 2, none⟩ : Addr)) = (some (Value.slice o5 n6 n7))) ∧
((((decide (q ≥ ((n6 : Nat) : Int))) = true) →
(R (Ending.returned (Value.slice none 0 0)) w1)) ∧
(((decide (q ≥ ((n6 : Nat) : Int))) = false) →
(∃ o10 : Option Addr, (∃ n11 : Nat, (∃ n12 : Nat, (((w1.cell? (⟨(hs w), 2, none⟩ : Addr)) = (some (Value.slice o10 n11 n12))) ∧
(∃ a13 : Addr, ((o10 = (some a13)) ∧
((((0 : Int) ≤ q) ∧
(q < ((n11 : Nat) : Int))) ∧
(∃ o14 : Option Addr, (∃ n15 : Nat, (∃ n16 : Nat, (((w1.cell? (Addr.add (Addr.add a13 ((q).toNat * 2)) 1)) = (some (Value.slice o14 n15 n16))) ∧
(∃ k17 : (Nat → (Option Addr → (Nat → (Nat → (Int → (World → Prop)))))), ((∃ n18 : Nat, (k17 n18 none 0 0 0 w1)) ∧
(∀ n19 : Nat, ((Nat → Value) →
(∀ w21 : World, (∀ o22 : Option Addr, (∀ n23 : Nat, (∀ n24 : Nat, (∀ x25 : Int, ((k17 n19 o22 n23 n24 x25 w21) →
((((decide (x25 < ((n15 : Nat) : Int))) = true) →
(∀ k28 : (Option Addr → (Nat → (Nat → (World → Prop)))), ((∀ w30 : World, (∀ o31 : Option Addr, (∀ n32 : Nat, (∀ n33 : Nat, (((Nat → Value) →
(∃ n36 : Nat, ((n36 < n19) ∧
(k17 n36 o31 n32 n33 (IntKind.wrap IntKind.i64 (x25 + 1)) w30)))) →
(k28 o31 n32 n33 w30)))))) →
(∃ a37 : Addr, ((o14 = (some a37)) ∧
((((0 : Int) ≤ x25) ∧
(x25 < ((n15 : Nat) : Int))) ∧
(∃ s38 : ByteArray, (((w21.cell? (Addr.add a37 ((x25).toNat * 4))) = (some (Value.string s38))) ∧
(∃ x39 : Int, (((w21.cell? (Addr.add (Addr.add a37 ((x25).toNat * 4)) 1)) = (some (Value.int IntKind.i64 x39))) ∧
(∃ x40 : Int, (((w21.cell? (Addr.add (Addr.add a37 ((x25).toNat * 4)) 2)) = (some (Value.int IntKind.i64 x40))) ∧
(∃ s41 : ByteArray, (((w21.cell? (Addr.add (Addr.add a37 ((x25).toNat * 4)) 3)) = (some (Value.string s41))) ∧
(∀ w42 : World, ((w42 = (w21.alloc (Obj.cells #[(Value.string (ByteArray.mk #[])), (Value.int IntKind.i64 0), (Value.int IntKind.i64 0), (Value.string (ByteArray.mk #[]))] 58 (0, 0)))) →
((Nf.There w42 (⟨(hs w21), 0, none⟩ : Addr) 4) ∧
(∀ w44 : World, ((w44 = (Nf.setCells w42 (⟨(hs w21), 0, none⟩ : Addr) [(Value.string s38), (Value.int IntKind.i64 x39), (Value.int IntKind.i64 x40), (Value.string s41)] 0)) →
(∃ x46 : Int, (((w44.cell? (⟨(hs w21), 1, none⟩ : Addr)) = (some (Value.int IntKind.i64 x46))) ∧
((((decide (x46 < 0)) = true) →
(k28 o22 n23 n24 w44)) ∧
(((decide (x46 < 0)) = false) →
(∃ k49 : (Nat → (Int → (World → Prop))), ((∃ n50 : Nat, (k49 n50 0 w44)) ∧
(∀ n51 : Nat, ((Nat → Value) →
(∀ w53 : World, (∀ x54 : Int, ((k49 n51 x54 w53) →
(∀ w56 : World, ((w56 = w53.drew) →
((((decide (x54 < ((n23 : Nat) : Int))) = true) →
(∃ a59 : Addr, ((o22 = (some a59)) ∧
((((0 : Int) ≤ x54) ∧
(x54 < ((n23 : Nat) : Int))) ∧
(∃ x60 : Int, (((w56.cell? (Addr.add a59 ((x54).toNat * 1))) = (some (Value.int IntKind.i64 x60))) ∧
(∃ x61 : Int, (((w56.cell? (⟨(hs w21), 1, none⟩ : Addr)) = (some (Value.int IntKind.i64 x61))) ∧
((((decide (x60 < x61)) = true) →
(∃ n63 : Nat, ((n63 < n51) ∧
(k49 n63 (IntKind.wrap IntKind.i64 (x54 + 1)) w56)))) ∧
(((decide (x60 < x61)) = false) →
(∀ w65 : World, ((w65 = w56.drew) →
((((decide (x54 < ((n23 : Nat) : Int))) = true) →
(∃ a68 : Addr, ((o22 = (some a68)) ∧
((((0 : Int) ≤ x54) ∧
(x54 < ((n23 : Nat) : Int))) ∧
(∃ x69 : Int, (((w65.cell? (Addr.add a68 ((x54).toNat * 1))) = (some (Value.int IntKind.i64 x69))) ∧
(∃ x70 : Int, (((w65.cell? (⟨(hs w21), 1, none⟩ : Addr)) = (some (Value.int IntKind.i64 x70))) ∧
((((decide (x69 = x70)) = true) →
(k28 o22 n23 n24 w65)) ∧
(((decide (x69 = x70)) = false) →
(∀ w73 : World, ((w73 = (w65.alloc (Obj.cells #[] 3 (0, 0)))) →
((((0 : Int) ≤ x54) ∧
(x54 ≤ ((n24 : Nat) : Int))) ∧
(RunOk Try.prog (Nf.Hold (Builtin.append_ #[48, 48] 48 #[(Value.slice (some (⟨(hs w65), 0, none⟩ : Addr)) 0 0), (Value.slice (if (n24 = 0) then o22 else (Option.map (fun (x : Addr) => x) o22)) ((x54).toNat - 0) (n24 - 0))])) w73 (fun (v75 : Value) => (fun (w76 : World) => (∃ o77 : Option Addr, (∃ n78 : Nat, (∃ n79 : Nat, ((v75 = (Value.slice o77 n78 n79)) ∧
(∃ x80 : Int, (((w76.cell? (⟨(hs w21), 1, none⟩ : Addr)) = (some (Value.int IntKind.i64 x80))) ∧
(∀ w81 : World, ((w81 = (w76.alloc (Obj.cells #[(Value.int IntKind.i64 x80)] 3 (0, 0)))) →
(RunOk Try.prog (Nf.Hold (Builtin.append_ #[48, 48] 48 #[(Value.slice o77 n78 n79), (Value.slice (some (⟨(hs w76), 0, none⟩ : Addr)) 1 1)])) w81 (fun (v83 : Value) => (fun (w84 : World) => (∃ o85 : Option Addr, (∃ n86 : Nat, (∃ n87 : Nat, ((v83 = (Value.slice o85 n86 n87)) ∧
((((0 : Int) ≤ x54) ∧
(x54 ≤ ((n23 : Nat) : Int))) ∧
(RunOk Try.prog (Nf.Hold (Builtin.append_ #[48, 48] 48 #[(Value.slice o85 n86 n87), (Value.slice (if (n24 = (x54).toNat) then o22 else (Option.map (fun (x : Addr) => (Addr.add x ((x54).toNat * 1))) o22)) (n23 - (x54).toNat) (n24 - (x54).toNat))])) w84 (fun (v88 : Value) => (fun (w89 : World) => (∃ o90 : Option Addr, (∃ n91 : Nat, (∃ n92 : Nat, ((v88 = (Value.slice o90 n91 n92)) ∧
(k28 o90 n91 n92 w89)))))))))))))))))))))))))))))))))))))))) ∧
(((decide (x54 < ((n23 : Nat) : Int))) = false) →
(∀ w94 : World, ((w94 = (w65.alloc (Obj.cells #[] 3 (0, 0)))) →
((((0 : Int) ≤ x54) ∧
(x54 ≤ ((n24 : Nat) : Int))) ∧
(RunOk Try.prog (Nf.Hold (Builtin.append_ #[48, 48] 48 #[(Value.slice (some (⟨(hs w65), 0, none⟩ : Addr)) 0 0), (Value.slice (if (n24 = 0) then o22 else (Option.map (fun (x : Addr) => x) o22)) ((x54).toNat - 0) (n24 - 0))])) w94 (fun (v96 : Value) => (fun (w97 : World) => (∃ o98 : Option Addr, (∃ n99 : Nat, (∃ n100 : Nat, ((v96 = (Value.slice o98 n99 n100)) ∧
(∃ x101 : Int, (((w97.cell? (⟨(hs w21), 1, none⟩ : Addr)) = (some (Value.int IntKind.i64 x101))) ∧
(∀ w102 : World, ((w102 = (w97.alloc (Obj.cells #[(Value.int IntKind.i64 x101)] 3 (0, 0)))) →
(RunOk Try.prog (Nf.Hold (Builtin.append_ #[48, 48] 48 #[(Value.slice o98 n99 n100), (Value.slice (some (⟨(hs w97), 0, none⟩ : Addr)) 1 1)])) w102 (fun (v104 : Value) => (fun (w105 : World) => (∃ o106 : Option Addr, (∃ n107 : Nat, (∃ n108 : Nat, ((v104 = (Value.slice o106 n107 n108)) ∧
((((0 : Int) ≤ x54) ∧
(x54 ≤ ((n23 : Nat) : Int))) ∧
(RunOk Try.prog (Nf.Hold (Builtin.append_ #[48, 48] 48 #[(Value.slice o106 n107 n108), (Value.slice (if (n24 = (x54).toNat) then o22 else (Option.map (fun (x : Addr) => (Addr.add x ((x54).toNat * 1))) o22)) (n23 - (x54).toNat) (n24 - (x54).toNat))])) w105 (fun (v109 : Value) => (fun (w110 : World) => (∃ o111 : Option Addr, (∃ n112 : Nat, (∃ n113 : Nat, ((v109 = (Value.slice o111 n112 n113)) ∧
(k28 o111 n112 n113 w110)))))))))))))))))))))))))))))))))))))))))))) ∧
(((decide (x54 < ((n23 : Nat) : Int))) = false) →
(∀ w115 : World, ((w115 = w56.drew) →
((((decide (x54 < ((n23 : Nat) : Int))) = true) →
(∃ a118 : Addr, ((o22 = (some a118)) ∧
((((0 : Int) ≤ x54) ∧
(x54 < ((n23 : Nat) : Int))) ∧
(∃ x119 : Int, (((w115.cell? (Addr.add a118 ((x54).toNat * 1))) = (some (Value.int IntKind.i64 x119))) ∧
(∃ x120 : Int, (((w115.cell? (⟨(hs w21), 1, none⟩ : Addr)) = (some (Value.int IntKind.i64 x120))) ∧
((((decide (x119 = x120)) = true) →
(k28 o22 n23 n24 w115)) ∧
(((decide (x119 = x120)) = false) →
(∀ w123 : World, ((w123 = (w115.alloc (Obj.cells #[] 3 (0, 0)))) →
((((0 : Int) ≤ x54) ∧
(x54 ≤ ((n24 : Nat) : Int))) ∧
(RunOk Try.prog (Nf.Hold (Builtin.append_ #[48, 48] 48 #[(Value.slice (some (⟨(hs w115), 0, none⟩ : Addr)) 0 0), (Value.slice (if (n24 = 0) then o22 else (Option.map (fun (x : Addr) => x) o22)) ((x54).toNat - 0) (n24 - 0))])) w123 (fun (v125 : Value) => (fun (w126 : World) => (∃ o127 : Option Addr, (∃ n128 : Nat, (∃ n129 : Nat, ((v125 = (Value.slice o127 n128 n129)) ∧
(∃ x130 : Int, (((w126.cell? (⟨(hs w21), 1, none⟩ : Addr)) = (some (Value.int IntKind.i64 x130))) ∧
(∀ w131 : World, ((w131 = (w126.alloc (Obj.cells #[(Value.int IntKind.i64 x130)] 3 (0, 0)))) →
(RunOk Try.prog (Nf.Hold (Builtin.append_ #[48, 48] 48 #[(Value.slice o127 n128 n129), (Value.slice (some (⟨(hs w126), 0, none⟩ : Addr)) 1 1)])) w131 (fun (v133 : Value) => (fun (w134 : World) => (∃ o135 : Option Addr, (∃ n136 : Nat, (∃ n137 : Nat, ((v133 = (Value.slice o135 n136 n137)) ∧
((((0 : Int) ≤ x54) ∧
(x54 ≤ ((n23 : Nat) : Int))) ∧
(RunOk Try.prog (Nf.Hold (Builtin.append_ #[48, 48] 48 #[(Value.slice o135 n136 n137), (Value.slice (if (n24 = (x54).toNat) then o22 else (Option.map (fun (x : Addr) => (Addr.add x ((x54).toNat * 1))) o22)) (n23 - (x54).toNat) (n24 - (x54).toNat))])) w134 (fun (v138 : Value) => (fun (w139 : World) => (∃ o140 : Option Addr, (∃ n141 : Nat, (∃ n142 : Nat, ((v138 = (Value.slice o140 n141 n142)) ∧
(k28 o140 n141 n142 w139)))))))))))))))))))))))))))))))))))))))) ∧
(((decide (x54 < ((n23 : Nat) : Int))) = false) →
(∀ w144 : World, ((w144 = (w115.alloc (Obj.cells #[] 3 (0, 0)))) →
((((0 : Int) ≤ x54) ∧
(x54 ≤ ((n24 : Nat) : Int))) ∧
(RunOk Try.prog (Nf.Hold (Builtin.append_ #[48, 48] 48 #[(Value.slice (some (⟨(hs w115), 0, none⟩ : Addr)) 0 0), (Value.slice (if (n24 = 0) then o22 else (Option.map (fun (x : Addr) => x) o22)) ((x54).toNat - 0) (n24 - 0))])) w144 (fun (v146 : Value) => (fun (w147 : World) => (∃ o148 : Option Addr, (∃ n149 : Nat, (∃ n150 : Nat, ((v146 = (Value.slice o148 n149 n150)) ∧
(∃ x151 : Int, (((w147.cell? (⟨(hs w21), 1, none⟩ : Addr)) = (some (Value.int IntKind.i64 x151))) ∧
(∀ w152 : World, ((w152 = (w147.alloc (Obj.cells #[(Value.int IntKind.i64 x151)] 3 (0, 0)))) →
(RunOk Try.prog (Nf.Hold (Builtin.append_ #[48, 48] 48 #[(Value.slice o148 n149 n150), (Value.slice (some (⟨(hs w147), 0, none⟩ : Addr)) 1 1)])) w152 (fun (v154 : Value) => (fun (w155 : World) => (∃ o156 : Option Addr, (∃ n157 : Nat, (∃ n158 : Nat, ((v154 = (Value.slice o156 n157 n158)) ∧
((((0 : Int) ≤ x54) ∧
(x54 ≤ ((n23 : Nat) : Int))) ∧
(RunOk Try.prog (Nf.Hold (Builtin.append_ #[48, 48] 48 #[(Value.slice o156 n157 n158), (Value.slice (if (n24 = (x54).toNat) then o22 else (Option.map (fun (x : Addr) => (Addr.add x ((x54).toNat * 1))) o22)) (n23 - (x54).toNat) (n24 - (x54).toNat))])) w155 (fun (v159 : Value) => (fun (w160 : World) => (∃ o161 : Option Addr, (∃ n162 : Nat, (∃ n163 : Nat, ((v159 = (Value.slice o161 n162 n163)) ∧
(k28 o161 n162 n163 w160)))))))))))))))))))))))))))))))))))))))))))))))))))))))))))))))))))) ∧
(((decide (x25 < ((n15 : Nat) : Int))) = false) →
(R (Ending.returned (Value.slice o22 n23 n24)) w21))))))))))))))))))))))))))))))))))) :
    Calls Try.prog 75 #[(.agg #[(.string t_Name), (.int .i64 t_Version), (.slice t_Questions t_Questions_n t_Questions_c)]), (.int .i64 q)] w R :=
  calls_of_vc an75 Try.func75 rfl (by kernel_rfl) (by kernel_rfl) (Eq.mp (by kernel_rfl) h)

/-- samaritan/samaritanref13.is -/
def an73 : An := (.seq (.reg []) (.seq (.reg []) (.seq (.reg [(1, 0, true), (4, 0, true), (11, 0, true)]) .nil)))
set_option maxRecDepth 100000 in
theorem nf73 (t_Name : ByteArray) (t_Version : Int) (t_Questions : Option Addr) (t_Questions_n : Nat) (t_Questions_c : Nat) (q : Int) (w : World) (R : Ending → World → Prop) (h :
(∀ w1 : World, ((w1 = (w.alloc (Obj.cells #[(Value.string t_Name), (Value.int IntKind.i64 t_Version), (Value.slice t_Questions t_Questions_n t_Questions_c)] 24 (0, 0)))) →
(∃ s3 : ByteArray, (((w1.cell? (⟨(hs w), 0, none⟩ : Addr)) = (some (Value.string s3))) ∧
(∃ x4 : Int, (((w1.cell? (⟨(hs w), 1, none⟩ : Addr)) = (some (Value.int IntKind.i64 x4))) ∧
(∃ o5 : Option Addr, (∃ n6 : Nat, (∃ n7 : Nat, (((w1.cell? (⟨(hs w), 2, none⟩ : Addr)) = (some (Value.slice o5 n6 n7))) ∧
(Calls Try.prog 51 #[(Value.agg #[(Value.string s3), (Value.int IntKind.i64 x4), (Value.slice o5 n6 n7)])] w1 (fun (e8 : Ending) => (fun (w9 : World) => (∃ x10 : Int, (∃ x11 : Int, ((e8 = (Ending.returned (Value.tuple #[(Value.int IntKind.i64 x10), (Value.int IntKind.i64 x11)]))) ∧
((((decide (x11 = 0)) = true) →
((((decide (q ≥ 0)) = true) →
(∃ o14 : Option Addr, (∃ n15 : Nat, (∃ n16 : Nat, (((w9.cell? (⟨(hs w), 2, none⟩ : Addr)) = (some (Value.slice o14 n15 n16))) ∧
((((decide (q < ((n15 : Nat) : Int))) = true) →
(R (Ending.returned (Value.bool true)) w9)) ∧
(((decide (q < ((n15 : Nat) : Int))) = false) →
(R (Ending.returned (Value.bool false)) w9)))))))) ∧
(((decide (q ≥ 0)) = false) →
(R (Ending.returned (Value.bool false)) w9)))) ∧
(((decide (x11 = 0)) = false) →
(R (Ending.returned (Value.bool false)) w9)))))))))))))))))))) :
    Calls Try.prog 73 #[(.agg #[(.string t_Name), (.int .i64 t_Version), (.slice t_Questions t_Questions_n t_Questions_c)]), (.int .i64 q)] w R :=
  calls_of_vc an73 Try.func73 rfl (by kernel_rfl) (by kernel_rfl) (Eq.mp (by kernel_rfl) h)

/-- samaritan/samaritanref13.Comes -/
def an68 : An := (.seq (.reg []) (.seq (.reg [(3, 1, false)]) (.seq (.seq (.reg [(1, 0, true), (7, 0, true)]) (.cond (.seq (.reg []) .nil) .nil)) (.seq (.reg []) (.seq (.seq (.reg []) (.blk (.loop [(6, .int .i64)] (.seq (.seq (.reg [(4, 0, true)]) (.cond .nil .nil)) (.seq (.blk (.seq (.reg []) (.blk (.loop [(7, .int .i64)] (.seq (.seq (.reg [(4, 0, true)]) (.cond .nil .nil)) (.cut [] (.blk (.seq (.seq (.reg [(3, 0, true)]) (.cond .nil .nil)) (.seq (.reg []) (.seq (.reg []) (.blk (.loop [(9, .int .i64)] (.seq (.seq (.reg [(3, 0, true)]) (.cond .nil .nil)) (.cut [] (.blk (.seq (.reg [(4, 0, true), (12, 0, true)]) (.cond (.reg []) .nil))) (.reg []))))))))) (.reg []))))))) (.reg [])))))) (.seq (.reg []) .nil))))))
set_option maxRecDepth 100000 in
theorem nf68 (t_Name : ByteArray) (t_Version : Int) (t_Questions : Option Addr) (t_Questions_n : Nat) (t_Questions_c : Nat) (q : Int) (w : World) (R : Ending → World → Prop) (h :
(∀ w1 : World, ((w1 = (w.alloc (Obj.cells #[(Value.string t_Name), (Value.int IntKind.i64 t_Version), (Value.slice t_Questions t_Questions_n t_Questions_c)] 24 (0, 0)))) →
(∃ o3 : Option Addr, (∃ n4 : Nat, (∃ n5 : Nat, (((w1.cell? (⟨(hs w), 2, none⟩ : Addr)) = (some (Value.slice o3 n4 n5))) ∧
(RunOk Try.prog (Nf.Hold (Instr.makeSlice 99 (Value.int IntKind.i64 ((n4 : Nat) : Int)) (Value.int IntKind.i64 ((n4 : Nat) : Int)))) w1 (fun (v6 : Value) => (fun (w7 : World) => (∃ o8 : Option Addr, (∃ n9 : Nat, (∃ n10 : Nat, ((v6 = (Value.slice o8 n9 n10)) ∧
((((decide (q < 0)) = true) →
(R (Ending.returned (Value.slice o8 n9 n10)) w7)) ∧
(((decide (q < 0)) = false) →
(∃ o13 : Option Addr, (∃ n14 : Nat, (∃ n15 : Nat, (((w7.cell? (⟨(hs w), 2, none⟩ : Addr)) = (some (Value.slice o13 n14 n15))) ∧
((((decide (q ≥ ((n14 : Nat) : Int))) = true) →
(R (Ending.returned (Value.slice o8 n9 n10)) w7)) ∧
(((decide (q ≥ ((n14 : Nat) : Int))) = false) →
(∃ a18 : Addr, ((o8 = (some a18)) ∧
((((0 : Int) ≤ q) ∧
(q < ((n9 : Nat) : Int))) ∧
((Nf.There w7 (Addr.add a18 ((q).toNat * 1)) 1) ∧
(∀ w19 : World, ((w19 = (Nf.setCells w7 (Addr.add a18 ((q).toNat * 1)) [(Value.bool true)] 0)) →
(∃ k21 : (Nat → (Int → (World → Prop))), ((∃ n22 : Nat, (k21 n22 0 w19)) ∧
(∀ n23 : Nat, ((Nat → Value) →
(∀ w25 : World, (∀ x26 : Int, ((k21 n23 x26 w25) →
(∃ o28 : Option Addr, (∃ n29 : Nat, (∃ n30 : Nat, (((w25.cell? (⟨(hs w), 2, none⟩ : Addr)) = (some (Value.slice o28 n29 n30))) ∧
((((decide (x26 < ((n29 : Nat) : Int))) = true) →
(∃ k32 : (Nat → (Int → (World → Prop))), ((∃ n33 : Nat, (k32 n33 0 w25)) ∧
(∀ n34 : Nat, ((Nat → Value) →
(∀ w36 : World, (∀ x37 : Int, ((k32 n34 x37 w36) →
(∃ o39 : Option Addr, (∃ n40 : Nat, (∃ n41 : Nat, (((w36.cell? (⟨(hs w), 2, none⟩ : Addr)) = (some (Value.slice o39 n40 n41))) ∧
((((decide (x37 < ((n40 : Nat) : Int))) = true) →
(∀ k43 : (World → Prop), ((∀ w45 : World, (((Nat → Value) →
(∃ n48 : Nat, ((n48 < n34) ∧
(k32 n48 (IntKind.wrap IntKind.i64 (x37 + 1)) w45)))) →
(k43 w45))) →
(∃ a49 : Addr, ((o8 = (some a49)) ∧
((((0 : Int) ≤ x37) ∧
(x37 < ((n9 : Nat) : Int))) ∧
(∃ b50 : Bool, (((w36.cell? (Addr.add a49 ((x37).toNat * 1))) = (some (Value.bool b50))) ∧
(((b50 = true) →
(∃ s52 : ByteArray, (((w36.cell? (⟨(hs w), 0, none⟩ : Addr)) = (some (Value.string s52))) ∧
(∃ x53 : Int, (((w36.cell? (⟨(hs w), 1, none⟩ : Addr)) = (some (Value.int IntKind.i64 x53))) ∧
(∃ o54 : Option Addr, (∃ n55 : Nat, (∃ n56 : Nat, (((w36.cell? (⟨(hs w), 2, none⟩ : Addr)) = (some (Value.slice o54 n55 n56))) ∧
(Calls Try.prog 75 #[(Value.agg #[(Value.string s52), (Value.int IntKind.i64 x53), (Value.slice o54 n55 n56)]), (Value.int IntKind.i64 x37)] w36 (fun (e57 : Ending) => (fun (w58 : World) => (∃ o59 : Option Addr, (∃ n60 : Nat, (∃ n61 : Nat, ((e57 = (Ending.returned (Value.slice o59 n60 n61))) ∧
(∃ k62 : (Nat → (Int → (World → Prop))), ((∃ n63 : Nat, (k62 n63 0 w58)) ∧
(∀ n64 : Nat, ((Nat → Value) →
(∀ w66 : World, (∀ x67 : Int, ((k62 n64 x67 w66) →
((((decide (x67 < ((n60 : Nat) : Int))) = true) →
(∀ k70 : (World → Prop), ((∀ w72 : World, (((Nat → Value) →
(∃ n75 : Nat, ((n75 < n64) ∧
(k62 n75 (IntKind.wrap IntKind.i64 (x67 + 1)) w72)))) →
(k70 w72))) →
(∃ a76 : Addr, ((o59 = (some a76)) ∧
((((0 : Int) ≤ x67) ∧
(x67 < ((n60 : Nat) : Int))) ∧
(∃ x77 : Int, (((w66.cell? (Addr.add a76 ((x67).toNat * 1))) = (some (Value.int IntKind.i64 x77))) ∧
((((decide (x77 ≥ 0)) = true) →
(∃ a79 : Addr, ((o59 = (some a79)) ∧
((((0 : Int) ≤ x67) ∧
(x67 < ((n60 : Nat) : Int))) ∧
(∃ x80 : Int, (((w66.cell? (Addr.add a79 ((x67).toNat * 1))) = (some (Value.int IntKind.i64 x80))) ∧
((((decide (x80 < ((n9 : Nat) : Int))) = true) →
(∃ a82 : Addr, ((o59 = (some a82)) ∧
((((0 : Int) ≤ x67) ∧
(x67 < ((n60 : Nat) : Int))) ∧
(∃ x83 : Int, (((w66.cell? (Addr.add a82 ((x67).toNat * 1))) = (some (Value.int IntKind.i64 x83))) ∧
(∃ a84 : Addr, ((o8 = (some a84)) ∧
((((0 : Int) ≤ x83) ∧
(x83 < ((n9 : Nat) : Int))) ∧
((Nf.There w66 (Addr.add a84 ((x83).toNat * 1)) 1) ∧
(∀ w85 : World, ((w85 = (Nf.setCells w66 (Addr.add a84 ((x83).toNat * 1)) [(Value.bool true)] 0)) →
(k70 w85))))))))))))) ∧
(((decide (x80 < ((n9 : Nat) : Int))) = false) →
(k70 w66))))))))) ∧
(((decide (x77 ≥ 0)) = false) →
(k70 w66))))))))))) ∧
(((decide (x67 < ((n60 : Nat) : Int))) = false) →
(k43 w66)))))))))))))))))))))))))) ∧
((b50 = false) →
(k43 w36))))))))))) ∧
(((decide (x37 < ((n40 : Nat) : Int))) = false) →
(∃ n92 : Nat, ((n92 < n23) ∧
(k21 n92 (IntKind.wrap IntKind.i64 (x26 + 1)) w36))))))))))))))))) ∧
(((decide (x26 < ((n29 : Nat) : Int))) = false) →
(R (Ending.returned (Value.slice o8 n9 n10)) w25)))))))))))))))))))))))))))))))))))))))))) :
    Calls Try.prog 68 #[(.agg #[(.string t_Name), (.int .i64 t_Version), (.slice t_Questions t_Questions_n t_Questions_c)]), (.int .i64 q)] w R :=
  calls_of_vc an68 Try.func68 rfl (by kernel_rfl) (by kernel_rfl) (Eq.mp (by kernel_rfl) h)

/-- samaritan/samaritanref13.Twice -/
def an74 : An := (.seq (.reg []) (.seq (.reg []) (.seq (.seq (.reg []) (.blk (.loop [(6, .int .i64)] (.seq (.seq (.reg [(3, 0, true)]) (.cond .nil .nil)) (.seq (.blk (.seq (.regD [] [0, 1, 2, 3, 4, 5, 6] [5]) (.seq (.reg [(3, 0, true)]) (.cond (.seq (.reg []) .nil) .nil)))) (.reg [])))))) (.seq (.reg []) .nil))))
set_option maxRecDepth 100000 in
theorem nf74 (t_Name : ByteArray) (t_Version : Int) (t_Questions : Option Addr) (t_Questions_n : Nat) (t_Questions_c : Nat) (q : Int) (w : World) (R : Ending → World → Prop) (h :
(∀ w1 : World, ((w1 = (w.alloc (Obj.cells #[(Value.string t_Name), (Value.int IntKind.i64 t_Version), (Value.slice t_Questions t_Questions_n t_Questions_c)] 24 (0, 0)))) →
(∃ s3 : ByteArray, (((w1.cell? (⟨(hs w), 0, none⟩ : Addr)) = (some (Value.string s3))) ∧
(∃ x4 : Int, (((w1.cell? (⟨(hs w), 1, none⟩ : Addr)) = (some (Value.int IntKind.i64 x4))) ∧
(∃ o5 : Option Addr, (∃ n6 : Nat, (∃ n7 : Nat, (((w1.cell? (⟨(hs w), 2, none⟩ : Addr)) = (some (Value.slice o5 n6 n7))) ∧
(Calls Try.prog 75 #[(Value.agg #[(Value.string s3), (Value.int IntKind.i64 x4), (Value.slice o5 n6 n7)]), (Value.int IntKind.i64 q)] w1 (fun (e8 : Ending) => (fun (w9 : World) => (∃ o10 : Option Addr, (∃ n11 : Nat, (∃ n12 : Nat, ((e8 = (Ending.returned (Value.slice o10 n11 n12))) ∧
(∃ k13 : (Nat → (Int → (World → Prop))), ((∃ n14 : Nat, (k13 n14 0 w9)) ∧
(∀ n15 : Nat, ((Nat → Value) →
(∀ w17 : World, (∀ x18 : Int, ((k13 n15 x18 w17) →
((((decide (x18 < ((n11 : Nat) : Int))) = true) →
(∀ w21 : World, ((w21 = w17.drew) →
(∃ s23 : ByteArray, (((w21.cell? (⟨(hs w), 0, none⟩ : Addr)) = (some (Value.string s23))) ∧
(∃ x24 : Int, (((w21.cell? (⟨(hs w), 1, none⟩ : Addr)) = (some (Value.int IntKind.i64 x24))) ∧
(∃ o25 : Option Addr, (∃ n26 : Nat, (∃ n27 : Nat, (((w21.cell? (⟨(hs w), 2, none⟩ : Addr)) = (some (Value.slice o25 n26 n27))) ∧
(∃ a28 : Addr, ((o10 = (some a28)) ∧
((((0 : Int) ≤ x18) ∧
(x18 < ((n11 : Nat) : Int))) ∧
(∃ x29 : Int, (((w21.cell? (Addr.add a28 ((x18).toNat * 1))) = (some (Value.int IntKind.i64 x29))) ∧
(Calls Try.prog 68 #[(Value.agg #[(Value.string s23), (Value.int IntKind.i64 x24), (Value.slice o25 n26 n27)]), (Value.int IntKind.i64 x29)] w21 (fun (e30 : Ending) => (fun (w31 : World) => (∃ o32 : Option Addr, (∃ n33 : Nat, (∃ n34 : Nat, ((e30 = (Ending.returned (Value.slice o32 n33 n34))) ∧
(∃ a35 : Addr, ((o32 = (some a35)) ∧
((((0 : Int) ≤ q) ∧
(q < ((n33 : Nat) : Int))) ∧
(∃ b36 : Bool, (((w31.cell? (Addr.add a35 ((q).toNat * 1))) = (some (Value.bool b36))) ∧
(((b36 = true) →
(R (Ending.returned (Value.bool true)) w31)) ∧
((b36 = false) →
(∃ n39 : Nat, ((n39 < n15) ∧
(k13 n39 (IntKind.wrap IntKind.i64 (x18 + 1)) w31))))))))))))))))))))))))))))))))) ∧
(((decide (x18 < ((n11 : Nat) : Int))) = false) →
(R (Ending.returned (Value.bool false)) w17)))))))))))))))))))))))))))) :
    Calls Try.prog 74 #[(.agg #[(.string t_Name), (.int .i64 t_Version), (.slice t_Questions t_Questions_n t_Questions_c)]), (.int .i64 q)] w R :=
  calls_of_vc an74 Try.func74 rfl (by kernel_rfl) (by kernel_rfl) (Eq.mp (by kernel_rfl) h)

/-- samaritan/samaritanref13.Ends -/
def an31 : An := (.seq (.reg []) (.seq (.seq (.reg [(1, 0, true)]) (.cond (.seq (.reg []) .nil) .nil)) (.seq (.seq (.reg []) (.blk (.loop [(4, .int .i64)] (.seq (.seq (.reg [(4, 0, true)]) (.cond .nil .nil)) (.seq (.blk (.seq (.reg [(2, 0, true)]) (.cond (.seq (.reg []) .nil) .nil))) (.reg [])))))) (.seq (.reg []) (.seq (.seq (.reg []) (.blk (.loop [(6, .int .i64)] (.seq (.seq (.reg [(3, 0, true)]) (.cond .nil .nil)) (.seq (.blk (.seq (.reg [(3, 0, true)]) (.cond (.seq (.reg []) .nil) .nil))) (.reg [])))))) (.seq (.reg []) .nil))))))
set_option maxRecDepth 100000 in
theorem nf31 (t_Name : ByteArray) (t_Version : Int) (t_Questions : Option Addr) (t_Questions_n : Nat) (t_Questions_c : Nat) (w : World) (R : Ending → World → Prop) (h :
(∀ w1 : World, ((w1 = (w.alloc (Obj.cells #[(Value.string t_Name), (Value.int IntKind.i64 t_Version), (Value.slice t_Questions t_Questions_n t_Questions_c)] 24 (0, 0)))) →
(∃ s3 : ByteArray, (((w1.cell? (⟨(hs w), 0, none⟩ : Addr)) = (some (Value.string s3))) ∧
(∃ x4 : Int, (((w1.cell? (⟨(hs w), 1, none⟩ : Addr)) = (some (Value.int IntKind.i64 x4))) ∧
(∃ o5 : Option Addr, (∃ n6 : Nat, (∃ n7 : Nat, (((w1.cell? (⟨(hs w), 2, none⟩ : Addr)) = (some (Value.slice o5 n6 n7))) ∧
(Calls Try.prog 73 #[(Value.agg #[(Value.string s3), (Value.int IntKind.i64 x4), (Value.slice o5 n6 n7)]), (Value.int IntKind.i64 0)] w1 (fun (e8 : Ending) => (fun (w9 : World) => (∃ b10 : Bool, ((e8 = (Ending.returned (Value.bool b10))) ∧
(((b10 = true) →
(∃ k12 : (Nat → (Int → (World → Prop))), ((∃ n13 : Nat, (k12 n13 0 w9)) ∧
(∀ n14 : Nat, ((Nat → Value) →
(∀ w16 : World, (∀ x17 : Int, ((k12 n14 x17 w16) →
(∃ o19 : Option Addr, (∃ n20 : Nat, (∃ n21 : Nat, (((w16.cell? (⟨(hs w), 2, none⟩ : Addr)) = (some (Value.slice o19 n20 n21))) ∧
((((decide (x17 < ((n20 : Nat) : Int))) = true) →
(∃ s23 : ByteArray, (((w16.cell? (⟨(hs w), 0, none⟩ : Addr)) = (some (Value.string s23))) ∧
(∃ x24 : Int, (((w16.cell? (⟨(hs w), 1, none⟩ : Addr)) = (some (Value.int IntKind.i64 x24))) ∧
(∃ o25 : Option Addr, (∃ n26 : Nat, (∃ n27 : Nat, (((w16.cell? (⟨(hs w), 2, none⟩ : Addr)) = (some (Value.slice o25 n26 n27))) ∧
(Calls Try.prog 74 #[(Value.agg #[(Value.string s23), (Value.int IntKind.i64 x24), (Value.slice o25 n26 n27)]), (Value.int IntKind.i64 x17)] w16 (fun (e28 : Ending) => (fun (w29 : World) => (∃ b30 : Bool, ((e28 = (Ending.returned (Value.bool b30))) ∧
(((b30 = true) →
(R (Ending.returned (Value.tuple #[(Value.int IntKind.i64 x17), (Value.int IntKind.i64 12)])) w29)) ∧
((b30 = false) →
(∃ n33 : Nat, ((n33 < n14) ∧
(k12 n33 (IntKind.wrap IntKind.i64 (x17 + 1)) w29))))))))))))))))))) ∧
(((decide (x17 < ((n20 : Nat) : Int))) = false) →
(∃ s35 : ByteArray, (((w16.cell? (⟨(hs w), 0, none⟩ : Addr)) = (some (Value.string s35))) ∧
(∃ x36 : Int, (((w16.cell? (⟨(hs w), 1, none⟩ : Addr)) = (some (Value.int IntKind.i64 x36))) ∧
(∃ o37 : Option Addr, (∃ n38 : Nat, (∃ n39 : Nat, (((w16.cell? (⟨(hs w), 2, none⟩ : Addr)) = (some (Value.slice o37 n38 n39))) ∧
(Calls Try.prog 68 #[(Value.agg #[(Value.string s35), (Value.int IntKind.i64 x36), (Value.slice o37 n38 n39)]), (Value.int IntKind.i64 0)] w16 (fun (e40 : Ending) => (fun (w41 : World) => (∃ o42 : Option Addr, (∃ n43 : Nat, (∃ n44 : Nat, ((e40 = (Ending.returned (Value.slice o42 n43 n44))) ∧
(∃ k45 : (Nat → (Int → (World → Prop))), ((∃ n46 : Nat, (k45 n46 0 w41)) ∧
(∀ n47 : Nat, ((Nat → Value) →
(∀ w49 : World, (∀ x50 : Int, ((k45 n47 x50 w49) →
((((decide (x50 < ((n43 : Nat) : Int))) = true) →
(∃ a53 : Addr, ((o42 = (some a53)) ∧
((((0 : Int) ≤ x50) ∧
(x50 < ((n43 : Nat) : Int))) ∧
(∃ b54 : Bool, (((w49.cell? (Addr.add a53 ((x50).toNat * 1))) = (some (Value.bool b54))) ∧
(((b54 = true) →
(∃ n56 : Nat, ((n56 < n47) ∧
(k45 n56 (IntKind.wrap IntKind.i64 (x50 + 1)) w49)))) ∧
((b54 = false) →
(R (Ending.returned (Value.tuple #[(Value.int IntKind.i64 x50), (Value.int IntKind.i64 4)])) w49))))))))) ∧
(((decide (x50 < ((n43 : Nat) : Int))) = false) →
(R (Ending.returned (Value.tuple #[(Value.int IntKind.i64 (-1)), (Value.int IntKind.i64 0)])) w49))))))))))))))))))))))))))))))))))))))) ∧
((b10 = false) →
(R (Ending.returned (Value.tuple #[(Value.int IntKind.i64 0), (Value.int IntKind.i64 1)])) w9))))))))))))))))))) :
    Calls Try.prog 31 #[(.agg #[(.string t_Name), (.int .i64 t_Version), (.slice t_Questions t_Questions_n t_Questions_c)])] w R :=
  calls_of_vc an31 Try.func31 rfl (by kernel_rfl) (by kernel_rfl) (Eq.mp (by kernel_rfl) h)

/-- samaritan/samaritanref13.Range -/
def an59 : An := (.seq (.reg []) (.seq (.seq (.reg [(2, 0, true)]) (.cond (.seq (.reg []) .nil) .nil)) (.seq (.reg []) (.seq (.reg []) (.seq (.seq (.reg []) (.blk (.loop [(7, .int .i64), (8, .int .i64), (9, .int .i64)] (.seq (.seq (.reg [(3, 0, true)]) (.cond .nil .nil)) (.cut [(7, .int .i64), (8, .int .i64)] (.blk (.seq (.seq (.reg [(3, 0, true)]) (.cond .nil .nil)) (.seq (.reg []) (.blk (.loop [(7, .int .i64), (8, .int .i64), (10, .int .i64)] (.seq (.seq (.reg [(8, 0, true)]) (.cond .nil .nil)) (.cut [(7, .int .i64), (8, .int .i64)] (.blk (.seq (.reg []) (.seq (.seq (.reg [(2, 0, true)]) (.cond .nil .nil)) (.cut [(7, .int .i64)] (.seq (.reg [(1, 0, true), (6, 0, true)]) (.cond (.reg []) .nil)) (.seq (.reg [(3, 0, true)]) (.cond (.reg []) .nil)))))) (.reg [])))))))) (.reg [])))))) (.seq (.reg []) .nil))))))
set_option maxRecDepth 100000 in
theorem nf59 (t_Name : ByteArray) (t_Version : Int) (t_Questions : Option Addr) (t_Questions_n : Nat) (t_Questions_c : Nat) (q : Int) (w : World) (R : Ending → World → Prop) (h :
(∀ w1 : World, ((w1 = (w.alloc (Obj.cells #[(Value.string t_Name), (Value.int IntKind.i64 t_Version), (Value.slice t_Questions t_Questions_n t_Questions_c)] 24 (0, 0)))) →
(∃ s3 : ByteArray, (((w1.cell? (⟨(hs w), 0, none⟩ : Addr)) = (some (Value.string s3))) ∧
(∃ x4 : Int, (((w1.cell? (⟨(hs w), 1, none⟩ : Addr)) = (some (Value.int IntKind.i64 x4))) ∧
(∃ o5 : Option Addr, (∃ n6 : Nat, (∃ n7 : Nat, (((w1.cell? (⟨(hs w), 2, none⟩ : Addr)) = (some (Value.slice o5 n6 n7))) ∧
(Calls Try.prog 73 #[(Value.agg #[(Value.string s3), (Value.int IntKind.i64 x4), (Value.slice o5 n6 n7)]), (Value.int IntKind.i64 q)] w1 (fun (e8 : Ending) => (fun (w9 : World) => (∃ b10 : Bool, ((e8 = (Ending.returned (Value.bool b10))) ∧
(((b10 = true) →
(∃ s12 : ByteArray, (((w9.cell? (⟨(hs w), 0, none⟩ : Addr)) = (some (Value.string s12))) ∧
(∃ x13 : Int, (((w9.cell? (⟨(hs w), 1, none⟩ : Addr)) = (some (Value.int IntKind.i64 x13))) ∧
(∃ o14 : Option Addr, (∃ n15 : Nat, (∃ n16 : Nat, (((w9.cell? (⟨(hs w), 2, none⟩ : Addr)) = (some (Value.slice o14 n15 n16))) ∧
(Calls Try.prog 68 #[(Value.agg #[(Value.string s12), (Value.int IntKind.i64 x13), (Value.slice o14 n15 n16)]), (Value.int IntKind.i64 q)] w9 (fun (e17 : Ending) => (fun (w18 : World) => (∃ o19 : Option Addr, (∃ n20 : Nat, (∃ n21 : Nat, ((e17 = (Ending.returned (Value.slice o19 n20 n21))) ∧
(∃ k22 : (Nat → (Int → (Int → (Int → (World → Prop))))), ((∃ n23 : Nat, (k22 n23 0 0 0 w18)) ∧
(∀ n24 : Nat, ((Nat → Value) →
(∀ w26 : World, (∀ x27 : Int, (∀ x28 : Int, (∀ x29 : Int, ((k22 n24 x27 x28 x29 w26) →
((((decide (x29 < ((n20 : Nat) : Int))) = true) →
(∀ k32 : (Int → (Int → (World → Prop))), ((∀ w34 : World, (∀ x35 : Int, (∀ x36 : Int, (((Nat → Value) →
(∃ n39 : Nat, ((n39 < n24) ∧
(k22 n39 x35 x36 (IntKind.wrap IntKind.i64 (x29 + 1)) w34)))) →
(k32 x35 x36 w34))))) →
(∃ a40 : Addr, ((o19 = (some a40)) ∧
((((0 : Int) ≤ x29) ∧
(x29 < ((n20 : Nat) : Int))) ∧
(∃ b41 : Bool, (((w26.cell? (Addr.add a40 ((x29).toNat * 1))) = (some (Value.bool b41))) ∧
(((b41 = true) →
(∃ k43 : (Nat → (Int → (Int → (Int → (World → Prop))))), ((∃ n44 : Nat, (k43 n44 x27 x28 0 w26)) ∧
(∀ n45 : Nat, ((Nat → Value) →
(∀ w47 : World, (∀ x48 : Int, (∀ x49 : Int, (∀ x50 : Int, ((k43 n45 x48 x49 x50 w47) →
(∃ o52 : Option Addr, (∃ n53 : Nat, (∃ n54 : Nat, (((w47.cell? (⟨(hs w), 2, none⟩ : Addr)) = (some (Value.slice o52 n53 n54))) ∧
(∃ a55 : Addr, ((o52 = (some a55)) ∧
((((0 : Int) ≤ x29) ∧
(x29 < ((n53 : Nat) : Int))) ∧
(∃ o56 : Option Addr, (∃ n57 : Nat, (∃ n58 : Nat, (((w47.cell? (Addr.add (Addr.add a55 ((x29).toNat * 2)) 1)) = (some (Value.slice o56 n57 n58))) ∧
((((decide (x50 < ((n57 : Nat) : Int))) = true) →
(∀ k60 : (Int → (Int → (World → Prop))), ((∀ w62 : World, (∀ x63 : Int, (∀ x64 : Int, (((Nat → Value) →
(∃ n67 : Nat, ((n67 < n45) ∧
(k43 n67 x63 x64 (IntKind.wrap IntKind.i64 (x50 + 1)) w62)))) →
(k60 x63 x64 w62))))) →
(∃ o68 : Option Addr, (∃ n69 : Nat, (∃ n70 : Nat, (((w47.cell? (⟨(hs w), 2, none⟩ : Addr)) = (some (Value.slice o68 n69 n70))) ∧
(∃ a71 : Addr, ((o68 = (some a71)) ∧
((((0 : Int) ≤ x29) ∧
(x29 < ((n69 : Nat) : Int))) ∧
(∃ o72 : Option Addr, (∃ n73 : Nat, (∃ n74 : Nat, (((w47.cell? (Addr.add (Addr.add a71 ((x29).toNat * 2)) 1)) = (some (Value.slice o72 n73 n74))) ∧
(∃ a75 : Addr, ((o72 = (some a75)) ∧
((((0 : Int) ≤ x50) ∧
(x50 < ((n73 : Nat) : Int))) ∧
(∃ s76 : ByteArray, (((w47.cell? (Addr.add a75 ((x50).toNat * 4))) = (some (Value.string s76))) ∧
(∃ x77 : Int, (((w47.cell? (Addr.add (Addr.add a75 ((x50).toNat * 4)) 1)) = (some (Value.int IntKind.i64 x77))) ∧
(∃ x78 : Int, (((w47.cell? (Addr.add (Addr.add a75 ((x50).toNat * 4)) 2)) = (some (Value.int IntKind.i64 x78))) ∧
(∃ s79 : ByteArray, (((w47.cell? (Addr.add (Addr.add a75 ((x50).toNat * 4)) 3)) = (some (Value.string s79))) ∧
(∀ w80 : World, ((w80 = (w47.alloc (Obj.cells #[(Value.string (ByteArray.mk #[])), (Value.int IntKind.i64 0), (Value.int IntKind.i64 0), (Value.string (ByteArray.mk #[]))] 58 (0, 0)))) →
((Nf.There w80 (⟨(hs w47), 0, none⟩ : Addr) 4) ∧
(∀ w82 : World, ((w82 = (Nf.setCells w80 (⟨(hs w47), 0, none⟩ : Addr) [(Value.string s76), (Value.int IntKind.i64 x77), (Value.int IntKind.i64 x78), (Value.string s79)] 0)) →
(∃ x84 : Int, (((w82.cell? (⟨(hs w47), 1, none⟩ : Addr)) = (some (Value.int IntKind.i64 x84))) ∧
((((!(decide (x84 = (-1)))) = true) →
(k60 x48 x49 w82)) ∧
(((!(decide (x84 = (-1)))) = false) →
(∀ k87 : (Int → (World → Prop)), ((∀ w89 : World, (∀ x90 : Int, (((Nat → Value) →
(∃ x93 : Int, (((w89.cell? (⟨(hs w47), 2, none⟩ : Addr)) = (some (Value.int IntKind.i64 x93))) ∧
((((decide (x93 > x49)) = true) →
(∃ x95 : Int, (((w89.cell? (⟨(hs w47), 2, none⟩ : Addr)) = (some (Value.int IntKind.i64 x95))) ∧
(k60 x90 x95 w89)))) ∧
(((decide (x93 > x49)) = false) →
(k60 x90 x49 w89)))))) →
(k87 x90 w89)))) →
((((decide (x48 = 0)) = true) →
(∃ x98 : Int, (((w82.cell? (⟨(hs w47), 2, none⟩ : Addr)) = (some (Value.int IntKind.i64 x98))) ∧
(k87 x98 w82)))) ∧
(((decide (x48 = 0)) = false) →
(∃ x100 : Int, (((w82.cell? (⟨(hs w47), 2, none⟩ : Addr)) = (some (Value.int IntKind.i64 x100))) ∧
((((decide (x100 < x48)) = true) →
(∃ x102 : Int, (((w82.cell? (⟨(hs w47), 2, none⟩ : Addr)) = (some (Value.int IntKind.i64 x102))) ∧
(k87 x102 w82)))) ∧
(((decide (x100 < x48)) = false) →
(k87 x48 w82))))))))))))))))))))))))))))))))))))))))))) ∧
(((decide (x50 < ((n57 : Nat) : Int))) = false) →
(k32 x48 x49 w47)))))))))))))))))))))))) ∧
((b41 = false) →
(k32 x27 x28 w26))))))))))) ∧
(((decide (x29 < ((n20 : Nat) : Int))) = false) →
(R (Ending.returned (Value.tuple #[(Value.int IntKind.i64 x27), (Value.int IntKind.i64 x28)])) w26)))))))))))))))))))))))))))) ∧
((b10 = false) →
(R (Ending.returned (Value.tuple #[(Value.int IntKind.i64 0), (Value.int IntKind.i64 0)])) w9))))))))))))))))))) :
    Calls Try.prog 59 #[(.agg #[(.string t_Name), (.int .i64 t_Version), (.slice t_Questions t_Questions_n t_Questions_c)]), (.int .i64 q)] w R :=
  calls_of_vc an59 Try.func59 rfl (by kernel_rfl) (by kernel_rfl) (Eq.mp (by kernel_rfl) h)

/-- samaritan/samaritanref13.Most -/
def an26 : An := (.seq (.reg []) (.seq (.seq (.reg [(1, 0, true)]) (.cond (.seq (.reg []) .nil) .nil)) (.seq (.seq (.reg [(2, 0, true)]) (.cond (.seq (.reg []) .nil) .nil)) (.seq (.reg []) (.seq (.seq (.reg []) (.blk (.loop [(7, .int .i64)] (.seq (.seq (.reg [(3, 0, true)]) (.cond .nil .nil)) (.seq (.blk (.seq (.reg [(3, 0, true), (7, 0, true)]) (.cond (.seq (.reg []) .nil) .nil))) (.reg [])))))) (.seq (.reg [(2, 1, false)]) (.seq (.seq (.reg []) (.blk (.loop [(9, .int .i64)] (.seq (.seq (.reg [(3, 0, true)]) (.cond .nil .nil)) (.seq (.blk (.seq (.reg []) (.blk (.loop [(10, .int .i64)] (.seq (.seq (.reg [(3, 0, true)]) (.cond .nil .nil)) (.cut [] (.blk (.seq (.seq (.reg [(3, 0, true)]) (.cond .nil .nil)) (.seq (.reg []) (.seq (.reg []) (.seq (.reg []) (.blk (.loop [(12, .int .i64)] (.seq (.seq (.reg [(3, 0, true)]) (.cond .nil .nil)) (.cut [] (.blk (.seq (.regD [(12, 0, true)] [0, 1, 2, 3, 4, 5, 6, 7, 8, 9, 10, 11, 12] []) (.cond (.reg []) .nil))) (.reg [])))))))))) (.reg []))))))) (.reg [])))))) (.seq (.reg []) .nil))))))))
set_option maxRecDepth 100000 in
theorem nf26 (t_Name : ByteArray) (t_Version : Int) (t_Questions : Option Addr) (t_Questions_n : Nat) (t_Questions_c : Nat) (q : Int) (w : World) (R : Ending → World → Prop) (h :
(∀ w1 : World, ((w1 = (w.alloc (Obj.cells #[(Value.string t_Name), (Value.int IntKind.i64 t_Version), (Value.slice t_Questions t_Questions_n t_Questions_c)] 24 (0, 0)))) →
(∃ s3 : ByteArray, (((w1.cell? (⟨(hs w), 0, none⟩ : Addr)) = (some (Value.string s3))) ∧
(∃ x4 : Int, (((w1.cell? (⟨(hs w), 1, none⟩ : Addr)) = (some (Value.int IntKind.i64 x4))) ∧
(∃ o5 : Option Addr, (∃ n6 : Nat, (∃ n7 : Nat, (((w1.cell? (⟨(hs w), 2, none⟩ : Addr)) = (some (Value.slice o5 n6 n7))) ∧
(Calls Try.prog 73 #[(Value.agg #[(Value.string s3), (Value.int IntKind.i64 x4), (Value.slice o5 n6 n7)]), (Value.int IntKind.i64 0)] w1 (fun (e8 : Ending) => (fun (w9 : World) => (∃ b10 : Bool, ((e8 = (Ending.returned (Value.bool b10))) ∧
(((b10 = true) →
(∃ s12 : ByteArray, (((w9.cell? (⟨(hs w), 0, none⟩ : Addr)) = (some (Value.string s12))) ∧
(∃ x13 : Int, (((w9.cell? (⟨(hs w), 1, none⟩ : Addr)) = (some (Value.int IntKind.i64 x13))) ∧
(∃ o14 : Option Addr, (∃ n15 : Nat, (∃ n16 : Nat, (((w9.cell? (⟨(hs w), 2, none⟩ : Addr)) = (some (Value.slice o14 n15 n16))) ∧
(Calls Try.prog 73 #[(Value.agg #[(Value.string s12), (Value.int IntKind.i64 x13), (Value.slice o14 n15 n16)]), (Value.int IntKind.i64 q)] w9 (fun (e17 : Ending) => (fun (w18 : World) => (∃ b19 : Bool, ((e17 = (Ending.returned (Value.bool b19))) ∧
(((b19 = true) →
(∃ s21 : ByteArray, (((w18.cell? (⟨(hs w), 0, none⟩ : Addr)) = (some (Value.string s21))) ∧
(∃ x22 : Int, (((w18.cell? (⟨(hs w), 1, none⟩ : Addr)) = (some (Value.int IntKind.i64 x22))) ∧
(∃ o23 : Option Addr, (∃ n24 : Nat, (∃ n25 : Nat, (((w18.cell? (⟨(hs w), 2, none⟩ : Addr)) = (some (Value.slice o23 n24 n25))) ∧
(Calls Try.prog 68 #[(Value.agg #[(Value.string s21), (Value.int IntKind.i64 x22), (Value.slice o23 n24 n25)]), (Value.int IntKind.i64 q)] w18 (fun (e26 : Ending) => (fun (w27 : World) => (∃ o28 : Option Addr, (∃ n29 : Nat, (∃ n30 : Nat, ((e26 = (Ending.returned (Value.slice o28 n29 n30))) ∧
(∃ k31 : (Nat → (Int → (World → Prop))), ((∃ n32 : Nat, (k31 n32 0 w27)) ∧
(∀ n33 : Nat, ((Nat → Value) →
(∀ w35 : World, (∀ x36 : Int, ((k31 n33 x36 w35) →
((((decide (x36 < ((n29 : Nat) : Int))) = true) →
(∃ a39 : Addr, ((o28 = (some a39)) ∧
((((0 : Int) ≤ x36) ∧
(x36 < ((n29 : Nat) : Int))) ∧
(∃ b40 : Bool, (((w35.cell? (Addr.add a39 ((x36).toNat * 1))) = (some (Value.bool b40))) ∧
(((b40 = true) →
(∃ s42 : ByteArray, (((w35.cell? (⟨(hs w), 0, none⟩ : Addr)) = (some (Value.string s42))) ∧
(∃ x43 : Int, (((w35.cell? (⟨(hs w), 1, none⟩ : Addr)) = (some (Value.int IntKind.i64 x43))) ∧
(∃ o44 : Option Addr, (∃ n45 : Nat, (∃ n46 : Nat, (((w35.cell? (⟨(hs w), 2, none⟩ : Addr)) = (some (Value.slice o44 n45 n46))) ∧
(Calls Try.prog 74 #[(Value.agg #[(Value.string s42), (Value.int IntKind.i64 x43), (Value.slice o44 n45 n46)]), (Value.int IntKind.i64 x36)] w35 (fun (e47 : Ending) => (fun (w48 : World) => (∃ b49 : Bool, ((e47 = (Ending.returned (Value.bool b49))) ∧
(((b49 = true) →
(R (Ending.returned (Value.tuple #[(Value.int IntKind.i64 0), (Value.int IntKind.i64 12)])) w48)) ∧
((b49 = false) →
(∃ n52 : Nat, ((n52 < n33) ∧
(k31 n52 (IntKind.wrap IntKind.i64 (x36 + 1)) w48))))))))))))))))))) ∧
((b40 = false) →
(∃ n54 : Nat, ((n54 < n33) ∧
(k31 n54 (IntKind.wrap IntKind.i64 (x36 + 1)) w35))))))))))) ∧
(((decide (x36 < ((n29 : Nat) : Int))) = false) →
(RunOk Try.prog (Nf.Hold (Instr.makeSlice 48 (Value.int IntKind.i64 ((n29 : Nat) : Int)) (Value.int IntKind.i64 ((n29 : Nat) : Int)))) w35 (fun (v56 : Value) => (fun (w57 : World) => (∃ o58 : Option Addr, (∃ n59 : Nat, (∃ n60 : Nat, ((v56 = (Value.slice o58 n59 n60)) ∧
(∃ k61 : (Nat → (Int → (World → Prop))), ((∃ n62 : Nat, (k61 n62 0 w57)) ∧
(∀ n63 : Nat, ((Nat → Value) →
(∀ w65 : World, (∀ x66 : Int, ((k61 n63 x66 w65) →
((((decide (x66 < ((n29 : Nat) : Int))) = true) →
(∃ k69 : (Nat → (Int → (World → Prop))), ((∃ n70 : Nat, (k69 n70 0 w65)) ∧
(∀ n71 : Nat, ((Nat → Value) →
(∀ w73 : World, (∀ x74 : Int, ((k69 n71 x74 w73) →
((((decide (x74 < ((n29 : Nat) : Int))) = true) →
(∀ k77 : (World → Prop), ((∀ w79 : World, (((Nat → Value) →
(∃ n82 : Nat, ((n82 < n71) ∧
(k69 n82 (IntKind.wrap IntKind.i64 (x74 + 1)) w79)))) →
(k77 w79))) →
(∃ a83 : Addr, ((o28 = (some a83)) ∧
((((0 : Int) ≤ x74) ∧
(x74 < ((n29 : Nat) : Int))) ∧
(∃ b84 : Bool, (((w73.cell? (Addr.add a83 ((x74).toNat * 1))) = (some (Value.bool b84))) ∧
(((b84 = true) →
(∃ a86 : Addr, ((o58 = (some a86)) ∧
((((0 : Int) ≤ x74) ∧
(x74 < ((n59 : Nat) : Int))) ∧
((Nf.There w73 (Addr.add a86 ((x74).toNat * 1)) 1) ∧
(∀ w87 : World, ((w87 = (Nf.setCells w73 (Addr.add a86 ((x74).toNat * 1)) [(Value.int IntKind.i64 1)] 0)) →
(∃ s89 : ByteArray, (((w87.cell? (⟨(hs w), 0, none⟩ : Addr)) = (some (Value.string s89))) ∧
(∃ x90 : Int, (((w87.cell? (⟨(hs w), 1, none⟩ : Addr)) = (some (Value.int IntKind.i64 x90))) ∧
(∃ o91 : Option Addr, (∃ n92 : Nat, (∃ n93 : Nat, (((w87.cell? (⟨(hs w), 2, none⟩ : Addr)) = (some (Value.slice o91 n92 n93))) ∧
(Calls Try.prog 75 #[(Value.agg #[(Value.string s89), (Value.int IntKind.i64 x90), (Value.slice o91 n92 n93)]), (Value.int IntKind.i64 x74)] w87 (fun (e94 : Ending) => (fun (w95 : World) => (∃ o96 : Option Addr, (∃ n97 : Nat, (∃ n98 : Nat, ((e94 = (Ending.returned (Value.slice o96 n97 n98))) ∧
(∃ k99 : (Nat → (Int → (World → Prop))), ((∃ n100 : Nat, (k99 n100 0 w95)) ∧
(∀ n101 : Nat, ((Nat → Value) →
(∀ w103 : World, (∀ x104 : Int, ((k99 n101 x104 w103) →
((((decide (x104 < ((n97 : Nat) : Int))) = true) →
(∀ k107 : (World → Prop), ((∀ w109 : World, (((Nat → Value) →
(∃ n112 : Nat, ((n112 < n101) ∧
(k99 n112 (IntKind.wrap IntKind.i64 (x104 + 1)) w109)))) →
(k107 w109))) →
(∀ w113 : World, ((w113 = w103.drew) →
(∃ a115 : Addr, ((o96 = (some a115)) ∧
((((0 : Int) ≤ x104) ∧
(x104 < ((n97 : Nat) : Int))) ∧
(∃ x116 : Int, (((w113.cell? (Addr.add a115 ((x104).toNat * 1))) = (some (Value.int IntKind.i64 x116))) ∧
(∃ a117 : Addr, ((o58 = (some a117)) ∧
((((0 : Int) ≤ x116) ∧
(x116 < ((n59 : Nat) : Int))) ∧
(∃ x118 : Int, (((w113.cell? (Addr.add a117 ((x116).toNat * 1))) = (some (Value.int IntKind.i64 x118))) ∧
(∃ a119 : Addr, ((o58 = (some a119)) ∧
((((0 : Int) ≤ x74) ∧
(x74 < ((n59 : Nat) : Int))) ∧
(∃ x120 : Int, (((w113.cell? (Addr.add a119 ((x74).toNat * 1))) = (some (Value.int IntKind.i64 x120))) ∧
((((decide ((IntKind.wrap IntKind.i64 (x118 + 1)) > x120)) = true) →
(∃ a122 : Addr, ((o96 = (some a122)) ∧
((((0 : Int) ≤ x104) ∧
(x104 < ((n97 : Nat) : Int))) ∧
(∃ x123 : Int, (((w113.cell? (Addr.add a122 ((x104).toNat * 1))) = (some (Value.int IntKind.i64 x123))) ∧
(∃ a124 : Addr, ((o58 = (some a124)) ∧
((((0 : Int) ≤ x123) ∧
(x123 < ((n59 : Nat) : Int))) ∧
(∃ x125 : Int, (((w113.cell? (Addr.add a124 ((x123).toNat * 1))) = (some (Value.int IntKind.i64 x125))) ∧
(∃ a126 : Addr, ((o58 = (some a126)) ∧
((((0 : Int) ≤ x74) ∧
(x74 < ((n59 : Nat) : Int))) ∧
((Nf.There w113 (Addr.add a126 ((x74).toNat * 1)) 1) ∧
(∀ w127 : World, ((w127 = (Nf.setCells w113 (Addr.add a126 ((x74).toNat * 1)) [(Value.int IntKind.i64 (IntKind.wrap IntKind.i64 (x125 + 1)))] 0)) →
(k107 w127)))))))))))))))))) ∧
(((decide ((IntKind.wrap IntKind.i64 (x118 + 1)) > x120)) = false) →
(k107 w113))))))))))))))))))))))) ∧
(((decide (x104 < ((n97 : Nat) : Int))) = false) →
(k77 w103)))))))))))))))))))))))))))))))) ∧
((b84 = false) →
(k77 w73))))))))))) ∧
(((decide (x74 < ((n29 : Nat) : Int))) = false) →
(∃ n133 : Nat, ((n133 < n63) ∧
(k61 n133 (IntKind.wrap IntKind.i64 (x66 + 1)) w73))))))))))))) ∧
(((decide (x66 < ((n29 : Nat) : Int))) = false) →
(∃ a135 : Addr, ((o58 = (some a135)) ∧
((((0 : Int) ≤ q) ∧
(q < ((n59 : Nat) : Int))) ∧
(∃ x136 : Int, (((w65.cell? (Addr.add a135 ((q).toNat * 1))) = (some (Value.int IntKind.i64 x136))) ∧
(R (Ending.returned (Value.tuple #[(Value.int IntKind.i64 x136), (Value.int IntKind.i64 0)])) w65))))))))))))))))))))))))))))))))))))))))))))))) ∧
((b19 = false) →
(R (Ending.returned (Value.tuple #[(Value.int IntKind.i64 0), (Value.int IntKind.i64 4)])) w18))))))))))))))))) ∧
((b10 = false) →
(R (Ending.returned (Value.tuple #[(Value.int IntKind.i64 0), (Value.int IntKind.i64 1)])) w9))))))))))))))))))) :
    Calls Try.prog 26 #[(.agg #[(.string t_Name), (.int .i64 t_Version), (.slice t_Questions t_Questions_n t_Questions_c)]), (.int .i64 q)] w R :=
  calls_of_vc an26 Try.func26 rfl (by kernel_rfl) (by kernel_rfl) (Eq.mp (by kernel_rfl) h)

/-- samaritan/samaritanref13.Few -/
def an23 : An := (.seq (.reg []) (.seq (.reg [(1, 0, true), (6, 0, true)]) .nil))
set_option maxRecDepth 100000 in
theorem nf23 (t_Name : ByteArray) (t_Version : Int) (t_Questions : Option Addr) (t_Questions_n : Nat) (t_Questions_c : Nat) (w : World) (R : Ending → World → Prop) (h :
(∀ w1 : World, ((w1 = (w.alloc (Obj.cells #[(Value.string t_Name), (Value.int IntKind.i64 t_Version), (Value.slice t_Questions t_Questions_n t_Questions_c)] 24 (0, 0)))) →
(∃ s3 : ByteArray, (((w1.cell? (⟨(hs w), 0, none⟩ : Addr)) = (some (Value.string s3))) ∧
(∃ x4 : Int, (((w1.cell? (⟨(hs w), 1, none⟩ : Addr)) = (some (Value.int IntKind.i64 x4))) ∧
(∃ o5 : Option Addr, (∃ n6 : Nat, (∃ n7 : Nat, (((w1.cell? (⟨(hs w), 2, none⟩ : Addr)) = (some (Value.slice o5 n6 n7))) ∧
(Calls Try.prog 70 #[(Value.agg #[(Value.string s3), (Value.int IntKind.i64 x4), (Value.slice o5 n6 n7)])] w1 (fun (e8 : Ending) => (fun (w9 : World) => (∃ b10 : Bool, ((e8 = (Ending.returned (Value.bool b10))) ∧
(((b10 = true) →
(∃ o12 : Option Addr, (∃ n13 : Nat, (∃ n14 : Nat, (((w9.cell? (⟨(hs w), 2, none⟩ : Addr)) = (some (Value.slice o12 n13 n14))) ∧
((((decide (((n13 : Nat) : Int) ≤ 24)) = true) →
(R (Ending.returned (Value.bool true)) w9)) ∧
(((decide (((n13 : Nat) : Int) ≤ 24)) = false) →
(R (Ending.returned (Value.bool false)) w9)))))))) ∧
((b10 = false) →
(R (Ending.returned (Value.bool false)) w9))))))))))))))))))) :
    Calls Try.prog 23 #[(.agg #[(.string t_Name), (.int .i64 t_Version), (.slice t_Questions t_Questions_n t_Questions_c)])] w R :=
  calls_of_vc an23 Try.func23 rfl (by kernel_rfl) (by kernel_rfl) (Eq.mp (by kernel_rfl) h)

/-- samaritan/samaritanref12.Small -/
def an70 : An := (.seq (.reg []) (.seq (.reg []) (.seq (.seq (.reg []) (.blk (.loop [(3, .int .i64), (14, .int .i64)] (.seq (.reg [(0, 0, true)]) (.seq (.cond .nil .nil) (.seq (.blk (.seq (.reg []) (.seq (.reg []) (.seq (.seq (.reg [(3, 0, true)]) (.cond (.seq (.reg []) .nil) .nil)) (.seq (.reg []) (.blk (.loop [(3, .int .i64), (30, .int .i64)] (.seq (.reg [(0, 0, true)]) (.seq (.cond .nil .nil) (.seq (.blk (.seq (.reg []) (.reg []))) (.reg []))))))))))) (.reg []))))))) (.seq (.reg [(3, 0, true), (6, 0, true)]) .nil))))
set_option maxRecDepth 100000 in
theorem nf70 (t_Name : ByteArray) (t_Version : Int) (t_Questions : Option Addr) (t_Questions_n : Nat) (t_Questions_c : Nat) (w : World) (R : Ending → World → Prop) (h :
(∀ w1 : World, ((w1 = (w.alloc (Obj.cells #[(Value.string t_Name), (Value.int IntKind.i64 t_Version), (Value.slice t_Questions t_Questions_n t_Questions_c)] 24 (0, 0)))) →
(∃ s3 : ByteArray, (((w1.cell? (⟨(hs w), 0, none⟩ : Addr)) = (some (Value.string s3))) ∧
(∃ o4 : Option Addr, (∃ n5 : Nat, (∃ n6 : Nat, (((w1.cell? (⟨(hs w), 2, none⟩ : Addr)) = (some (Value.slice o4 n5 n6))) ∧
(∃ k7 : (Nat → (Int → (Int → (World → Prop)))), ((∃ n8 : Nat, (k7 n8 (((ByteArray.size s3) : Nat) : Int) 0 w1)) ∧
(∀ n9 : Nat, ((Nat → Value) →
(∀ w11 : World, (∀ x12 : Int, (∀ x13 : Int, ((k7 n9 x12 x13 w11) →
((((decide (x13 < ((n5 : Nat) : Int))) = true) →
(∃ a16 : Addr, ((o4 = (some a16)) ∧
((((0 : Int) ≤ x13) ∧
(x13 < ((n5 : Nat) : Int))) ∧
(∃ s17 : ByteArray, (((w11.cell? (Addr.add a16 ((x13).toNat * 2))) = (some (Value.string s17))) ∧
(∃ o18 : Option Addr, (∃ n19 : Nat, (∃ n20 : Nat, (((w11.cell? (Addr.add (Addr.add a16 ((x13).toNat * 2)) 1)) = (some (Value.slice o18 n19 n20))) ∧
(∀ w21 : World, ((w21 = (w11.alloc (Obj.cells #[(Value.string (ByteArray.mk #[])), (Value.slice none 0 0)] 38 (0, 0)))) →
((Nf.There w21 (⟨(hs w11), 0, none⟩ : Addr) 2) ∧
(∀ w23 : World, ((w23 = (Nf.setCells w21 (⟨(hs w11), 0, none⟩ : Addr) [(Value.string s17), (Value.slice o18 n19 n20)] 0)) →
(∃ s25 : ByteArray, (((w23.cell? (⟨(hs w11), 0, none⟩ : Addr)) = (some (Value.string s25))) ∧
(∃ o26 : Option Addr, (∃ n27 : Nat, (∃ n28 : Nat, (((w23.cell? (⟨(hs w11), 1, none⟩ : Addr)) = (some (Value.slice o26 n27 n28))) ∧
((((decide (((n27 : Nat) : Int) > 20)) = true) →
(R (Ending.returned (Value.bool false)) w23)) ∧
(((decide (((n27 : Nat) : Int) > 20)) = false) →
(∃ o31 : Option Addr, (∃ n32 : Nat, (∃ n33 : Nat, (((w23.cell? (⟨(hs w11), 1, none⟩ : Addr)) = (some (Value.slice o31 n32 n33))) ∧
(∃ k34 : (Nat → (Int → (Int → (World → Prop)))), ((∃ n35 : Nat, (k34 n35 (IntKind.wrap IntKind.i64 (x12 + (((ByteArray.size s25) : Nat) : Int))) 0 w23)) ∧
(∀ n36 : Nat, ((Nat → Value) →
(∀ w38 : World, (∀ x39 : Int, (∀ x40 : Int, ((k34 n36 x39 x40 w38) →
((((decide (x40 < ((n32 : Nat) : Int))) = true) →
(∃ a43 : Addr, ((o31 = (some a43)) ∧
((((0 : Int) ≤ x40) ∧
(x40 < ((n32 : Nat) : Int))) ∧
(∃ s44 : ByteArray, (((w38.cell? (Addr.add a43 ((x40).toNat * 4))) = (some (Value.string s44))) ∧
(∃ x45 : Int, (((w38.cell? (Addr.add (Addr.add a43 ((x40).toNat * 4)) 1)) = (some (Value.int IntKind.i64 x45))) ∧
(∃ x46 : Int, (((w38.cell? (Addr.add (Addr.add a43 ((x40).toNat * 4)) 2)) = (some (Value.int IntKind.i64 x46))) ∧
(∃ s47 : ByteArray, (((w38.cell? (Addr.add (Addr.add a43 ((x40).toNat * 4)) 3)) = (some (Value.string s47))) ∧
(∀ w48 : World, ((w48 = (w38.alloc (Obj.cells #[(Value.string (ByteArray.mk #[])), (Value.int IntKind.i64 0), (Value.int IntKind.i64 0), (Value.string (ByteArray.mk #[]))] 58 (0, 0)))) →
((Nf.There w48 (⟨(hs w38), 0, none⟩ : Addr) 4) ∧
(∀ w50 : World, ((w50 = (Nf.setCells w48 (⟨(hs w38), 0, none⟩ : Addr) [(Value.string s44), (Value.int IntKind.i64 x45), (Value.int IntKind.i64 x46), (Value.string s47)] 0)) →
(∃ s52 : ByteArray, (((w50.cell? (⟨(hs w38), 0, none⟩ : Addr)) = (some (Value.string s52))) ∧
(∃ s53 : ByteArray, (((w50.cell? (⟨(hs w38), 3, none⟩ : Addr)) = (some (Value.string s53))) ∧
(∃ n54 : Nat, ((n54 < n36) ∧
(k34 n54 (IntKind.wrap IntKind.i64 ((IntKind.wrap IntKind.i64 (x39 + (((ByteArray.size s52) : Nat) : Int))) + (((ByteArray.size s53) : Nat) : Int))) (IntKind.wrap IntKind.i64 (x40 + 1)) w50)))))))))))))))))))))))) ∧
(((decide (x40 < ((n32 : Nat) : Int))) = false) →
(∃ n56 : Nat, ((n56 < n9) ∧
(k7 n56 x39 (IntKind.wrap IntKind.i64 (x13 + 1)) w38)))))))))))))))))))))))))))))))))))))))) ∧
(((decide (x13 < ((n5 : Nat) : Int))) = false) →
(∃ o58 : Option Addr, (∃ n59 : Nat, (∃ n60 : Nat, (((w11.cell? (⟨(hs w), 2, none⟩ : Addr)) = (some (Value.slice o58 n59 n60))) ∧
((((decide (((n59 : Nat) : Int) ≤ 70)) = true) →
((((decide (x12 ≤ 8000)) = true) →
(R (Ending.returned (Value.bool true)) w11)) ∧
(((decide (x12 ≤ 8000)) = false) →
(R (Ending.returned (Value.bool false)) w11)))) ∧
(((decide (((n59 : Nat) : Int) ≤ 70)) = false) →
(R (Ending.returned (Value.bool false)) w11)))))))))))))))))))))))))) :
    Calls Try.prog 70 #[(.agg #[(.string t_Name), (.int .i64 t_Version), (.slice t_Questions t_Questions_n t_Questions_c)])] w R :=
  calls_of_vc an70 Try.func70 rfl (by kernel_rfl) (by kernel_rfl) (Eq.mp (by kernel_rfl) h)

/-- slices.Clone[[]int,int] -/
def an81 : An := (.seq (.reg []) (.seq (.seq (.reg [(1, 3, true)]) (.cond (.seq (.reg []) .nil) .nil)) (.seq (.reg [(2, 1, false)]) .nil)))
set_option maxRecDepth 100000 in
theorem nf81 (s : Option Addr) (s_n : Nat) (s_c : Nat) (w : World) (R : Ending → World → Prop) (h :
((((Option.isNone s) = true) →
(R (Ending.returned (Value.slice none 0 0)) w)) ∧
(((Option.isNone s) = false) →
(∀ w3 : World, ((w3 = (w.alloc (Obj.cells #[] 3 (0, 0)))) →
(RunOk Try.prog (Nf.Hold (Builtin.append_ #[48, 48] 48 #[(Value.slice (some (⟨(hs w), 0, none⟩ : Addr)) 0 0), (Value.slice s s_n s_c)])) w3 (fun (v5 : Value) => (fun (w6 : World) => (∃ o7 : Option Addr, (∃ n8 : Nat, (∃ n9 : Nat, ((v5 = (Value.slice o7 n8 n9)) ∧
(R (Ending.returned (Value.slice o7 n8 n9)) w6))))))))))))) :
    Calls Try.prog 81 #[(.slice s s_n s_c)] w R :=
  calls_of_vc an81 Try.func81 rfl (by kernel_rfl) (by kernel_rfl) (Eq.mp (by kernel_rfl) h)

/-- slices.Clone[[]samaritan/api.Answer,samaritan/api.Answer] -/
def an110 : An := (.seq (.reg []) (.seq (.seq (.reg [(1, 3, true)]) (.cond (.seq (.reg []) .nil) .nil)) (.seq (.reg [(2, 1, false)]) .nil)))
set_option maxRecDepth 100000 in
theorem nf110 (s : Option Addr) (s_n : Nat) (s_c : Nat) (w : World) (R : Ending → World → Prop) (h :
((((Option.isNone s) = true) →
(R (Ending.returned (Value.slice none 0 0)) w)) ∧
(((Option.isNone s) = false) →
(∀ w3 : World, ((w3 = (w.alloc (Obj.cells #[] 58 (0, 0)))) →
(RunOk Try.prog (Nf.Hold (Builtin.append_ #[36, 36] 36 #[(Value.slice (some (⟨(hs w), 0, none⟩ : Addr)) 0 0), (Value.slice s s_n s_c)])) w3 (fun (v5 : Value) => (fun (w6 : World) => (∃ o7 : Option Addr, (∃ n8 : Nat, (∃ n9 : Nat, ((v5 = (Value.slice o7 n8 n9)) ∧
(R (Ending.returned (Value.slice o7 n8 n9)) w6))))))))))))) :
    Calls Try.prog 110 #[(.slice s s_n s_c)] w R :=
  calls_of_vc an110 Try.func110 rfl (by kernel_rfl) (by kernel_rfl) (Eq.mp (by kernel_rfl) h)

/-- samaritan/interview.copyQuestion -/
def an72 : An := (.seq (.reg []) (.seq (.regD [] [0, 1, 2, 3, 4, 5, 6] [4, 6]) .nil))
set_option maxRecDepth 100000 in
theorem nf72 (q_Text : ByteArray) (q_Answers : Option Addr) (q_Answers_n : Nat) (q_Answers_c : Nat) (w : World) (R : Ending → World → Prop) (h :
(∀ w1 : World, ((w1 = (w.alloc (Obj.cells #[(Value.string q_Text), (Value.slice q_Answers q_Answers_n q_Answers_c)] 38 (0, 0)))) →
(∀ w3 : World, ((w3 = (w1.alloc (Obj.cells #[(Value.string (ByteArray.mk #[])), (Value.slice none 0 0)] 38 (0, 0)))) →
(∀ w5 : World, ((w5 = w3.drew) →
(∃ s7 : ByteArray, (((w5.cell? (⟨(hs w), 0, none⟩ : Addr)) = (some (Value.string s7))) ∧
(∃ o8 : Option Addr, (∃ n9 : Nat, (∃ n10 : Nat, (((w5.cell? (⟨(hs w), 1, none⟩ : Addr)) = (some (Value.slice o8 n9 n10))) ∧
(Calls Try.prog 110 #[(Value.slice o8 n9 n10)] w5 (fun (e11 : Ending) => (fun (w12 : World) => (∃ o13 : Option Addr, (∃ n14 : Nat, (∃ n15 : Nat, ((e11 = (Ending.returned (Value.slice o13 n14 n15))) ∧
((Nf.Kept w5 w12 (⟨(hs w), 0, none⟩ : Addr) 1) ∧
((Nf.There w12 (⟨(hs w1), 0, none⟩ : Addr) 2) ∧
(∀ w16 : World, ((w16 = (Nf.setCells w12 (⟨(hs w1), 0, none⟩ : Addr) [(Value.string s7), (Value.slice o13 n14 n15)] 0)) →
(∃ s18 : ByteArray, (((w16.cell? (⟨(hs w1), 0, none⟩ : Addr)) = (some (Value.string s18))) ∧
(∃ o19 : Option Addr, (∃ n20 : Nat, (∃ n21 : Nat, (((w16.cell? (⟨(hs w1), 1, none⟩ : Addr)) = (some (Value.slice o19 n20 n21))) ∧
(R (Ending.returned (Value.agg #[(Value.string s18), (Value.slice o19 n20 n21)])) w16))))))))))))))))))))))))))))))) :
    Calls Try.prog 72 #[(.agg #[(.string q_Text), (.slice q_Answers q_Answers_n q_Answers_c)])] w R :=
  calls_of_vc an72 Try.func72 rfl (by kernel_rfl) (by kernel_rfl) (Eq.mp (by kernel_rfl) h)

/-- samaritan/interview.New -/
def an25 : An := (.seq (.reg []) (.seq (.seq (.reg []) (.seq (.reg [(1, 0, true)]) (.cond (.seq (.reg []) .nil) .nil))) (.seq (.reg []) (.seq (.seq (.reg []) (.blk (.loop [(25, .int .i64)] (.seq (.reg [(0, 0, true)]) (.seq (.cond .nil .nil) (.seq (.blk (.seq (.reg []) (.regD [(5, 1, false)] [0, 1, 2, 3, 4, 5, 6, 7] [3, 4, 5, 7]))) (.reg []))))))) (.seq (.reg []) .nil)))))
set_option maxRecDepth 100000 in
theorem nf25 (t_Name : ByteArray) (t_Version : Int) (t_Questions : Option Addr) (t_Questions_n : Nat) (t_Questions_c : Nat) (w : World) (R : Ending → World → Prop) (h :
(∀ w1 : World, ((w1 = (w.alloc (Obj.cells #[(Value.string t_Name), (Value.int IntKind.i64 t_Version), (Value.slice t_Questions t_Questions_n t_Questions_c)] 24 (0, 0)))) →
(∃ s3 : ByteArray, (((w1.cell? (⟨(hs w), 0, none⟩ : Addr)) = (some (Value.string s3))) ∧
(∃ x4 : Int, (((w1.cell? (⟨(hs w), 1, none⟩ : Addr)) = (some (Value.int IntKind.i64 x4))) ∧
(∃ o5 : Option Addr, (∃ n6 : Nat, (∃ n7 : Nat, (((w1.cell? (⟨(hs w), 2, none⟩ : Addr)) = (some (Value.slice o5 n6 n7))) ∧
(Calls Try.prog 56 #[(Value.agg #[(Value.string s3), (Value.int IntKind.i64 x4), (Value.slice o5 n6 n7)])] w1 (fun (e8 : Ending) => (fun (w9 : World) => (∃ x10 : Int, (∃ x11 : Int, ((e8 = (Ending.returned (Value.tuple #[(Value.int IntKind.i64 x10), (Value.int IntKind.i64 x11)]))) ∧
((((!(decide (x11 = 0))) = true) →
(R (Ending.returned (Value.tuple #[(Value.pointer none), (Value.int IntKind.i64 x11)])) w9)) ∧
(((!(decide (x11 = 0))) = false) →
(∃ s14 : ByteArray, (((w9.cell? (⟨(hs w), 0, none⟩ : Addr)) = (some (Value.string s14))) ∧
(∃ x15 : Int, (((w9.cell? (⟨(hs w), 1, none⟩ : Addr)) = (some (Value.int IntKind.i64 x15))) ∧
(∀ w16 : World, ((w16 = (w9.alloc (Obj.cells #[(Value.string (ByteArray.mk #[])), (Value.int IntKind.i64 0), (Value.slice none 0 0)] 24 (0, 0)))) →
((Nf.There w16 (⟨(hs w9), 0, none⟩ : Addr) 3) ∧
(∀ w18 : World, ((w18 = (Nf.setCells w16 (⟨(hs w9), 0, none⟩ : Addr) [(Value.string s14), (Value.int IntKind.i64 x15), (Value.slice none 0 0)] 0)) →
(∃ o20 : Option Addr, (∃ n21 : Nat, (∃ n22 : Nat, (((w18.cell? (⟨(hs w), 2, none⟩ : Addr)) = (some (Value.slice o20 n21 n22))) ∧
(∃ k23 : (Nat → (Int → (World → Prop))), ((∃ n24 : Nat, (k23 n24 0 w18)) ∧
(∀ n25 : Nat, ((Nat → Value) →
(∀ w27 : World, (∀ x28 : Int, ((k23 n25 x28 w27) →
((((decide (x28 < ((n21 : Nat) : Int))) = true) →
(∃ a31 : Addr, ((o20 = (some a31)) ∧
((((0 : Int) ≤ x28) ∧
(x28 < ((n21 : Nat) : Int))) ∧
(∃ s32 : ByteArray, (((w27.cell? (Addr.add a31 ((x28).toNat * 2))) = (some (Value.string s32))) ∧
(∃ o33 : Option Addr, (∃ n34 : Nat, (∃ n35 : Nat, (((w27.cell? (Addr.add (Addr.add a31 ((x28).toNat * 2)) 1)) = (some (Value.slice o33 n34 n35))) ∧
(∀ w36 : World, ((w36 = (w27.alloc (Obj.cells #[(Value.string (ByteArray.mk #[])), (Value.slice none 0 0)] 38 (0, 0)))) →
((Nf.There w36 (⟨(hs w27), 0, none⟩ : Addr) 2) ∧
(∀ w38 : World, ((w38 = (Nf.setCells w36 (⟨(hs w27), 0, none⟩ : Addr) [(Value.string s32), (Value.slice o33 n34 n35)] 0)) →
(∀ w40 : World, ((w40 = w38.drew) →
(∃ o42 : Option Addr, (∃ n43 : Nat, (∃ n44 : Nat, (((w40.cell? (⟨(hs w9), 2, none⟩ : Addr)) = (some (Value.slice o42 n43 n44))) ∧
(∃ s45 : ByteArray, (((w40.cell? (⟨(hs w27), 0, none⟩ : Addr)) = (some (Value.string s45))) ∧
(∃ o46 : Option Addr, (∃ n47 : Nat, (∃ n48 : Nat, (((w40.cell? (⟨(hs w27), 1, none⟩ : Addr)) = (some (Value.slice o46 n47 n48))) ∧
(Calls Try.prog 72 #[(Value.agg #[(Value.string s45), (Value.slice o46 n47 n48)])] w40 (fun (e49 : Ending) => (fun (w50 : World) => (∃ s51 : ByteArray, (∃ o52 : Option Addr, (∃ n53 : Nat, (∃ n54 : Nat, ((e49 = (Ending.returned (Value.agg #[(Value.string s51), (Value.slice o52 n53 n54)]))) ∧
((Nf.Kept w40 w50 (⟨(hs w9), 2, none⟩ : Addr) 1) ∧
(∀ w55 : World, ((w55 = (w50.alloc (Obj.cells #[(Value.string s51), (Value.slice o52 n53 n54)] 38 (0, 0)))) →
((Nf.Kept w40 w55 (⟨(hs w9), 2, none⟩ : Addr) 1) ∧
(RunOk Try.prog (Nf.Hold (Builtin.append_ #[22, 22] 22 #[(Value.slice o42 n43 n44), (Value.slice (some (⟨(hs w50), 0, none⟩ : Addr)) 1 1)])) w55 (fun (v57 : Value) => (fun (w58 : World) => (∃ o59 : Option Addr, (∃ n60 : Nat, (∃ n61 : Nat, ((v57 = (Value.slice o59 n60 n61)) ∧
((Nf.There w58 (⟨(hs w9), 2, none⟩ : Addr) 1) ∧
(∀ w62 : World, ((w62 = (Nf.setCells w58 (⟨(hs w9), 2, none⟩ : Addr) [(Value.slice o59 n60 n61)] 0)) →
(∃ n64 : Nat, ((n64 < n25) ∧
(k23 n64 (IntKind.wrap IntKind.i64 (x28 + 1)) w62)))))))))))))))))))))))))))))))))))))))))))))))))))) ∧
(((decide (x28 < ((n21 : Nat) : Int))) = false) →
(∃ s66 : ByteArray, (((w27.cell? (⟨(hs w9), 0, none⟩ : Addr)) = (some (Value.string s66))) ∧
(∃ x67 : Int, (((w27.cell? (⟨(hs w9), 1, none⟩ : Addr)) = (some (Value.int IntKind.i64 x67))) ∧
(∃ o68 : Option Addr, (∃ n69 : Nat, (∃ n70 : Nat, (((w27.cell? (⟨(hs w9), 2, none⟩ : Addr)) = (some (Value.slice o68 n69 n70))) ∧
(∀ w71 : World, ((w71 = (w27.alloc (Obj.cells #[(Value.string s66), (Value.int IntKind.i64 x67), (Value.slice o68 n69 n70), (Value.slice none 0 0), (Value.slice none 0 0), (Value.int IntKind.i64 0)] 106 (0, 0)))) →
(R (Ending.returned (Value.tuple #[(Value.pointer (some (⟨(hs w27), 0, none⟩ : Addr))), (Value.int IntKind.i64 0)])) w71)))))))))))))))))))))))))))))))))))))))))))))))))))) :
    Calls Try.prog 25 #[(.agg #[(.string t_Name), (.int .i64 t_Version), (.slice t_Questions t_Questions_n t_Questions_c)])] w R :=
  calls_of_vc an25 Try.func25 rfl (by kernel_rfl) (by kernel_rfl) (Eq.mp (by kernel_rfl) h)

/-- (*samaritan/interview.Interview).UrgencyRange -/
def an27 : An := (.seq (.reg []) (.seq (.seq (.reg [(5, 0, true)]) (.seq (.reg []) (.cond (.seq (.reg []) .nil) .nil))) (.seq (.regD [] [0, 1, 2, 3, 4, 5, 6, 7, 8, 9, 10, 11, 12] [8]) .nil)))
set_option maxRecDepth 100000 in
theorem nf27 (t : Nat) (w : World) (R : Ending → World → Prop) (h :
(Calls Try.prog 29 #[(Value.pointer (some (⟨t, 0, none⟩ : Addr)))] w (fun (e1 : Ending) => (fun (w2 : World) => (∃ x3 : Int, (∃ s4 : ByteArray, (∃ b5 : Bool, ((e1 = (Ending.returned (Value.tuple #[(Value.int IntKind.i64 x3), (Value.string s4), (Value.bool b5)]))) ∧
(((b5 = true) →
(R (Ending.returned (Value.tuple #[(Value.int IntKind.i64 x3), (Value.int IntKind.i64 x3)])) w2)) ∧
((b5 = false) →
(∀ w8 : World, ((w8 = w2.drew) →
(∃ s10 : ByteArray, (((w8.cell? (⟨t, 0, none⟩ : Addr)) = (some (Value.string s10))) ∧
(∃ x11 : Int, (((w8.cell? (⟨t, 1, none⟩ : Addr)) = (some (Value.int IntKind.i64 x11))) ∧
(∃ o12 : Option Addr, (∃ n13 : Nat, (∃ n14 : Nat, (((w8.cell? (⟨t, 2, none⟩ : Addr)) = (some (Value.slice o12 n13 n14))) ∧
(∃ x15 : Int, (((w8.cell? (⟨t, 5, none⟩ : Addr)) = (some (Value.int IntKind.i64 x15))) ∧
(Calls Try.prog 58 #[(Value.agg #[(Value.string s10), (Value.int IntKind.i64 x11), (Value.slice o12 n13 n14)]), (Value.int IntKind.i64 x15)] w8 (fun (e16 : Ending) => (fun (w17 : World) => (∃ x18 : Int, (∃ x19 : Int, ((e16 = (Ending.returned (Value.tuple #[(Value.int IntKind.i64 x18), (Value.int IntKind.i64 x19)]))) ∧
(R (Ending.returned (Value.tuple #[(Value.int IntKind.i64 x18), (Value.int IntKind.i64 x19)])) w17))))))))))))))))))))))))))))) :
    Calls Try.prog 27 #[(.pointer (some ⟨t, 0, none⟩))] w R :=
  calls_of_vc an27 Try.func27 rfl (by kernel_rfl) (by kernel_rfl) (Eq.mp (by kernel_rfl) h)

/-- (*samaritan/interview.Interview).Question -/
def an28 : An := (.seq (.reg []) (.seq (.seq (.reg [(4, 0, true)]) (.cond (.seq (.reg []) .nil) .nil)) (.seq (.regD [] [0, 1, 2, 3, 4, 5, 6, 7, 8, 9, 10, 11, 12, 13] [11, 12]) .nil)))
set_option maxRecDepth 100000 in
theorem nf28 (t : Nat) (w : World) (R : Ending → World → Prop) (h :
(∀ w1 : World, ((w1 = (w.alloc (Obj.cells #[(Value.string (ByteArray.mk #[])), (Value.slice none 0 0)] 38 (0, 0)))) →
(∃ x3 : Int, (((w1.cell? (⟨t, 5, none⟩ : Addr)) = (some (Value.int IntKind.i64 x3))) ∧
((((decide (x3 = (-1))) = true) →
((Nf.There w1 (⟨(hs w), 0, none⟩ : Addr) 2) ∧
(∀ w5 : World, ((w5 = (Nf.setCells w1 (⟨(hs w), 0, none⟩ : Addr) [(Value.string (ByteArray.mk #[])), (Value.slice none 0 0)] 0)) →
(∃ s7 : ByteArray, (((w5.cell? (⟨(hs w), 0, none⟩ : Addr)) = (some (Value.string s7))) ∧
(∃ o8 : Option Addr, (∃ n9 : Nat, (∃ n10 : Nat, (((w5.cell? (⟨(hs w), 1, none⟩ : Addr)) = (some (Value.slice o8 n9 n10))) ∧
(R (Ending.returned (Value.tuple #[(Value.agg #[(Value.string s7), (Value.slice o8 n9 n10)]), (Value.bool false)])) w5))))))))))) ∧
(((decide (x3 = (-1))) = false) →
(∀ w12 : World, ((w12 = w1.drew) →
(∃ o14 : Option Addr, (∃ n15 : Nat, (∃ n16 : Nat, (((w12.cell? (⟨t, 2, none⟩ : Addr)) = (some (Value.slice o14 n15 n16))) ∧
(∃ x17 : Int, (((w12.cell? (⟨t, 5, none⟩ : Addr)) = (some (Value.int IntKind.i64 x17))) ∧
(∃ a18 : Addr, ((o14 = (some a18)) ∧
((((0 : Int) ≤ x17) ∧
(x17 < ((n15 : Nat) : Int))) ∧
(∃ s19 : ByteArray, (((w12.cell? (Addr.add a18 ((x17).toNat * 2))) = (some (Value.string s19))) ∧
(∃ o20 : Option Addr, (∃ n21 : Nat, (∃ n22 : Nat, (((w12.cell? (Addr.add (Addr.add a18 ((x17).toNat * 2)) 1)) = (some (Value.slice o20 n21 n22))) ∧
(Calls Try.prog 72 #[(Value.agg #[(Value.string s19), (Value.slice o20 n21 n22)])] w12 (fun (e23 : Ending) => (fun (w24 : World) => (∃ s25 : ByteArray, (∃ o26 : Option Addr, (∃ n27 : Nat, (∃ n28 : Nat, ((e23 = (Ending.returned (Value.agg #[(Value.string s25), (Value.slice o26 n27 n28)]))) ∧
((Nf.There w24 (⟨(hs w), 0, none⟩ : Addr) 2) ∧
(∀ w29 : World, ((w29 = (Nf.setCells w24 (⟨(hs w), 0, none⟩ : Addr) [(Value.string s25), (Value.slice o26 n27 n28)] 0)) →
(∃ s31 : ByteArray, (((w29.cell? (⟨(hs w), 0, none⟩ : Addr)) = (some (Value.string s31))) ∧
(∃ o32 : Option Addr, (∃ n33 : Nat, (∃ n34 : Nat, (((w29.cell? (⟨(hs w), 1, none⟩ : Addr)) = (some (Value.slice o32 n33 n34))) ∧
(R (Ending.returned (Value.tuple #[(Value.agg #[(Value.string s31), (Value.slice o32 n33 n34)]), (Value.bool true)])) w29)))))))))))))))))))))))))))))))))))))))))) :
    Calls Try.prog 28 #[(.pointer (some ⟨t, 0, none⟩))] w R :=
  calls_of_vc an28 Try.func28 rfl (by kernel_rfl) (by kernel_rfl) (Eq.mp (by kernel_rfl) h)

/-- (*samaritan/interview.Interview).Result -/
def an29 : An := (.seq (.reg []) (.seq (.seq (.reg [(4, 0, true)]) (.cond (.seq (.reg []) .nil) .nil)) (.seq (.reg []) (.seq (.regD [] [0, 1, 2, 3, 4, 5, 6, 7, 8, 9, 10, 11, 12, 13, 14, 15, 16, 17, 18, 19, 20, 21, 22, 23, 24, 25] [24, 25]) (.seq (.regD [] [0, 1, 2, 3, 4, 5, 6] []) .nil)))))
set_option maxRecDepth 100000 in
theorem nf29 (t : Nat) (w : World) (R : Ending → World → Prop) (h :
(∃ x1 : Int, (((w.cell? (⟨t, 5, none⟩ : Addr)) = (some (Value.int IntKind.i64 x1))) ∧
((((!(decide (x1 = (-1)))) = true) →
(R (Ending.returned (Value.tuple #[(Value.int IntKind.i64 0), (Value.string (ByteArray.mk #[])), (Value.bool false)])) w)) ∧
(((!(decide (x1 = (-1)))) = false) →
(∃ o4 : Option Addr, (∃ n5 : Nat, (∃ n6 : Nat, (((w.cell? (⟨t, 3, none⟩ : Addr)) = (some (Value.slice o4 n5 n6))) ∧
(∀ w7 : World, ((w7 = w.drew) →
(∃ o9 : Option Addr, (∃ n10 : Nat, (∃ n11 : Nat, (((w7.cell? (⟨t, 2, none⟩ : Addr)) = (some (Value.slice o9 n10 n11))) ∧
(∃ o12 : Option Addr, (∃ n13 : Nat, (∃ n14 : Nat, (((w7.cell? (⟨t, 4, none⟩ : Addr)) = (some (Value.slice o12 n13 n14))) ∧
(∃ a15 : Addr, ((o12 = (some a15)) ∧
((((0 : Int) ≤ (IntKind.wrap IntKind.i64 (((n5 : Nat) : Int) - 1))) ∧
((IntKind.wrap IntKind.i64 (((n5 : Nat) : Int) - 1)) < ((n13 : Nat) : Int))) ∧
(∃ x16 : Int, (((w7.cell? (Addr.add a15 (((IntKind.wrap IntKind.i64 (((n5 : Nat) : Int) - 1))).toNat * 1))) = (some (Value.int IntKind.i64 x16))) ∧
(∃ a17 : Addr, ((o9 = (some a17)) ∧
((((0 : Int) ≤ x16) ∧
(x16 < ((n10 : Nat) : Int))) ∧
(∃ o18 : Option Addr, (∃ n19 : Nat, (∃ n20 : Nat, (((w7.cell? (Addr.add (Addr.add a17 ((x16).toNat * 2)) 1)) = (some (Value.slice o18 n19 n20))) ∧
(∃ o21 : Option Addr, (∃ n22 : Nat, (∃ n23 : Nat, (((w7.cell? (⟨t, 3, none⟩ : Addr)) = (some (Value.slice o21 n22 n23))) ∧
(∃ a24 : Addr, ((o21 = (some a24)) ∧
((((0 : Int) ≤ (IntKind.wrap IntKind.i64 (((n5 : Nat) : Int) - 1))) ∧
((IntKind.wrap IntKind.i64 (((n5 : Nat) : Int) - 1)) < ((n22 : Nat) : Int))) ∧
(∃ x25 : Int, (((w7.cell? (Addr.add a24 (((IntKind.wrap IntKind.i64 (((n5 : Nat) : Int) - 1))).toNat * 1))) = (some (Value.int IntKind.i64 x25))) ∧
(∃ a26 : Addr, ((o18 = (some a26)) ∧
((((0 : Int) ≤ x25) ∧
(x25 < ((n19 : Nat) : Int))) ∧
(∃ s27 : ByteArray, (((w7.cell? (Addr.add a26 ((x25).toNat * 4))) = (some (Value.string s27))) ∧
(∃ x28 : Int, (((w7.cell? (Addr.add (Addr.add a26 ((x25).toNat * 4)) 1)) = (some (Value.int IntKind.i64 x28))) ∧
(∃ x29 : Int, (((w7.cell? (Addr.add (Addr.add a26 ((x25).toNat * 4)) 2)) = (some (Value.int IntKind.i64 x29))) ∧
(∃ s30 : ByteArray, (((w7.cell? (Addr.add (Addr.add a26 ((x25).toNat * 4)) 3)) = (some (Value.string s30))) ∧
(∀ w31 : World, ((w31 = (w7.alloc (Obj.cells #[(Value.string (ByteArray.mk #[])), (Value.int IntKind.i64 0), (Value.int IntKind.i64 0), (Value.string (ByteArray.mk #[]))] 58 (0, 0)))) →
((Nf.Kept w7 w31 (Addr.add a26 ((x25).toNat * 4)) 4) ∧
((Nf.Kept w7 w31 (Addr.add a24 (((IntKind.wrap IntKind.i64 (((n5 : Nat) : Int) - 1))).toNat * 1)) 1) ∧
((Nf.Kept w7 w31 (⟨t, 3, none⟩ : Addr) 1) ∧
((Nf.Kept w7 w31 (Addr.add (Addr.add a17 ((x16).toNat * 2)) 1) 1) ∧
((Nf.Kept w7 w31 (Addr.add a15 (((IntKind.wrap IntKind.i64 (((n5 : Nat) : Int) - 1))).toNat * 1)) 1) ∧
((Nf.Kept w7 w31 (⟨t, 4, none⟩ : Addr) 1) ∧
((Nf.Kept w7 w31 (⟨t, 2, none⟩ : Addr) 1) ∧
((Nf.There w31 (⟨(hs w7), 0, none⟩ : Addr) 4) ∧
(∀ w33 : World, ((w33 = (Nf.setCells w31 (⟨(hs w7), 0, none⟩ : Addr) [(Value.string s27), (Value.int IntKind.i64 x28), (Value.int IntKind.i64 x29), (Value.string s30)] 0)) →
(∀ w35 : World, ((w35 = w33.drew) →
(∃ x37 : Int, (((w35.cell? (⟨(hs w7), 2, none⟩ : Addr)) = (some (Value.int IntKind.i64 x37))) ∧
(∃ s38 : ByteArray, (((w35.cell? (⟨(hs w7), 3, none⟩ : Addr)) = (some (Value.string s38))) ∧
(R (Ending.returned (Value.tuple #[(Value.int IntKind.i64 x37), (Value.string s38), (Value.bool true)])) w35)))))))))))))))))))))))))))))))))))))))))))))))))))))))))))))))))))))) :
    Calls Try.prog 29 #[(.pointer (some ⟨t, 0, none⟩))] w R :=
  calls_of_vc an29 Try.func29 rfl (by kernel_rfl) (by kernel_rfl) (Eq.mp (by kernel_rfl) h)

/-- (*samaritan/interview.Interview).Answer -/
def an30 : An := (.seq (.reg []) (.seq (.seq (.reg [(4, 0, true)]) (.cond (.seq (.reg []) .nil) .nil)) (.seq (.regD [] [0, 1, 2, 3, 4, 5, 6, 7, 8, 9, 10, 11, 12] []) (.seq (.seq (.reg [(1, 0, true), (6, 0, true)]) (.cond (.seq (.reg []) .nil) .nil)) (.seq (.regD [(10, 1, false)] [0, 1, 2, 3, 4, 5, 6, 7, 8, 9, 10, 11, 12, 13] [9, 10, 13]) (.seq (.reg [(7, 1, false)]) (.seq (.reg []) (.seq (.reg []) .nil))))))))
set_option maxRecDepth 100000 in
theorem nf30 (t : Nat) (answer : Int) (w : World) (R : Ending → World → Prop) (h :
(∃ x1 : Int, (((w.cell? (⟨t, 5, none⟩ : Addr)) = (some (Value.int IntKind.i64 x1))) ∧
((((decide (x1 = (-1))) = true) →
(R (Ending.returned (Value.int IntKind.i64 8)) w)) ∧
(((decide (x1 = (-1))) = false) →
(∀ w4 : World, ((w4 = w.drew) →
(∃ o6 : Option Addr, (∃ n7 : Nat, (∃ n8 : Nat, (((w4.cell? (⟨t, 2, none⟩ : Addr)) = (some (Value.slice o6 n7 n8))) ∧
(∃ x9 : Int, (((w4.cell? (⟨t, 5, none⟩ : Addr)) = (some (Value.int IntKind.i64 x9))) ∧
(∃ a10 : Addr, ((o6 = (some a10)) ∧
((((0 : Int) ≤ x9) ∧
(x9 < ((n7 : Nat) : Int))) ∧
(∃ o11 : Option Addr, (∃ n12 : Nat, (∃ n13 : Nat, (((w4.cell? (Addr.add (Addr.add a10 ((x9).toNat * 2)) 1)) = (some (Value.slice o11 n12 n13))) ∧
((((decide (answer < 0)) = true) →
(R (Ending.returned (Value.int IntKind.i64 1)) w4)) ∧
(((decide (answer < 0)) = false) →
((((decide (answer ≥ ((n12 : Nat) : Int))) = true) →
(R (Ending.returned (Value.int IntKind.i64 1)) w4)) ∧
(((decide (answer ≥ ((n12 : Nat) : Int))) = false) →
(∀ w18 : World, ((w18 = w4.drew) →
(∃ o20 : Option Addr, (∃ n21 : Nat, (∃ n22 : Nat, (((w18.cell? (⟨t, 4, none⟩ : Addr)) = (some (Value.slice o20 n21 n22))) ∧
(∃ x23 : Int, (((w18.cell? (⟨t, 5, none⟩ : Addr)) = (some (Value.int IntKind.i64 x23))) ∧
(∀ w24 : World, ((w24 = (w18.alloc (Obj.cells #[(Value.int IntKind.i64 x23)] 3 (0, 0)))) →
((Nf.Kept w18 w24 (⟨t, 4, none⟩ : Addr) 1) ∧
(RunOk Try.prog (Nf.Hold (Builtin.append_ #[48, 48] 48 #[(Value.slice o20 n21 n22), (Value.slice (some (⟨(hs w18), 0, none⟩ : Addr)) 1 1)])) w24 (fun (v26 : Value) => (fun (w27 : World) => (∃ o28 : Option Addr, (∃ n29 : Nat, (∃ n30 : Nat, ((v26 = (Value.slice o28 n29 n30)) ∧
((Nf.There w27 (⟨t, 4, none⟩ : Addr) 1) ∧
(∀ w31 : World, ((w31 = (Nf.setCells w27 (⟨t, 4, none⟩ : Addr) [(Value.slice o28 n29 n30)] 0)) →
(∃ o33 : Option Addr, (∃ n34 : Nat, (∃ n35 : Nat, (((w31.cell? (⟨t, 3, none⟩ : Addr)) = (some (Value.slice o33 n34 n35))) ∧
(∀ w36 : World, ((w36 = (w31.alloc (Obj.cells #[(Value.int IntKind.i64 answer)] 3 (0, 0)))) →
(RunOk Try.prog (Nf.Hold (Builtin.append_ #[48, 48] 48 #[(Value.slice o33 n34 n35), (Value.slice (some (⟨(hs w31), 0, none⟩ : Addr)) 1 1)])) w36 (fun (v38 : Value) => (fun (w39 : World) => (∃ o40 : Option Addr, (∃ n41 : Nat, (∃ n42 : Nat, ((v38 = (Value.slice o40 n41 n42)) ∧
((Nf.There w39 (⟨t, 3, none⟩ : Addr) 1) ∧
(∀ w43 : World, ((w43 = (Nf.setCells w39 (⟨t, 3, none⟩ : Addr) [(Value.slice o40 n41 n42)] 0)) →
(∃ a45 : Addr, ((o11 = (some a45)) ∧
((((0 : Int) ≤ answer) ∧
(answer < ((n12 : Nat) : Int))) ∧
(∃ x46 : Int, (((w43.cell? (Addr.add (Addr.add a45 ((answer).toNat * 4)) 1)) = (some (Value.int IntKind.i64 x46))) ∧
((Nf.There w43 (⟨t, 5, none⟩ : Addr) 1) ∧
(∀ w47 : World, ((w47 = (Nf.setCells w43 (⟨t, 5, none⟩ : Addr) [(Value.int IntKind.i64 x46)] 0)) →
(R (Ending.returned (Value.int IntKind.i64 0)) w47)))))))))))))))))))))))))))))))))))))))))))))))))))))))))))))))))))))) :
    Calls Try.prog 30 #[(.pointer (some ⟨t, 0, none⟩)), (.int .i64 answer)] w R :=
  calls_of_vc an30 Try.func30 rfl (by kernel_rfl) (by kernel_rfl) (Eq.mp (by kernel_rfl) h)

/-- (*samaritan/interview.Interview).Undo -/
def an33 : An := (.seq (.reg []) (.seq (.reg []) (.seq (.seq (.reg [(1, 0, true)]) (.cond (.seq (.reg []) .nil) .nil)) (.seq (.reg []) (.seq (.reg [(6, 2, false)]) (.seq (.reg [(6, 2, false)]) (.seq (.reg []) .nil)))))))
set_option maxRecDepth 100000 in
theorem nf33 (t : Nat) (w : World) (R : Ending → World → Prop) (h :
(∃ o1 : Option Addr, (∃ n2 : Nat, (∃ n3 : Nat, (((w.cell? (⟨t, 3, none⟩ : Addr)) = (some (Value.slice o1 n2 n3))) ∧
((((decide ((IntKind.wrap IntKind.i64 (((n2 : Nat) : Int) - 1)) < 0)) = true) →
(R (Ending.returned (Value.int IntKind.i64 8)) w)) ∧
(((decide ((IntKind.wrap IntKind.i64 (((n2 : Nat) : Int) - 1)) < 0)) = false) →
(∃ o6 : Option Addr, (∃ n7 : Nat, (∃ n8 : Nat, (((w.cell? (⟨t, 4, none⟩ : Addr)) = (some (Value.slice o6 n7 n8))) ∧
(∃ a9 : Addr, ((o6 = (some a9)) ∧
((((0 : Int) ≤ (IntKind.wrap IntKind.i64 (((n2 : Nat) : Int) - 1))) ∧
((IntKind.wrap IntKind.i64 (((n2 : Nat) : Int) - 1)) < ((n7 : Nat) : Int))) ∧
(∃ x10 : Int, (((w.cell? (Addr.add a9 (((IntKind.wrap IntKind.i64 (((n2 : Nat) : Int) - 1))).toNat * 1))) = (some (Value.int IntKind.i64 x10))) ∧
((Nf.There w (⟨t, 5, none⟩ : Addr) 1) ∧
(∀ w11 : World, ((w11 = (Nf.setCells w (⟨t, 5, none⟩ : Addr) [(Value.int IntKind.i64 x10)] 0)) →
(∃ o13 : Option Addr, (∃ n14 : Nat, (∃ n15 : Nat, (((w11.cell? (⟨t, 4, none⟩ : Addr)) = (some (Value.slice o13 n14 n15))) ∧
((((0 : Int) ≤ (IntKind.wrap IntKind.i64 (((n2 : Nat) : Int) - 1))) ∧
((IntKind.wrap IntKind.i64 (((n2 : Nat) : Int) - 1)) ≤ ((n15 : Nat) : Int))) ∧
((Nf.There w11 (⟨t, 4, none⟩ : Addr) 1) ∧
(∀ w16 : World, ((w16 = (Nf.setCells w11 (⟨t, 4, none⟩ : Addr) [(Value.slice (if (n15 = 0) then o13 else (Option.map (fun (x : Addr) => x) o13)) (((IntKind.wrap IntKind.i64 (((n2 : Nat) : Int) - 1))).toNat - 0) (n15 - 0))] 0)) →
(∃ o18 : Option Addr, (∃ n19 : Nat, (∃ n20 : Nat, (((w16.cell? (⟨t, 3, none⟩ : Addr)) = (some (Value.slice o18 n19 n20))) ∧
((((0 : Int) ≤ (IntKind.wrap IntKind.i64 (((n2 : Nat) : Int) - 1))) ∧
((IntKind.wrap IntKind.i64 (((n2 : Nat) : Int) - 1)) ≤ ((n20 : Nat) : Int))) ∧
((Nf.There w16 (⟨t, 3, none⟩ : Addr) 1) ∧
(∀ w21 : World, ((w21 = (Nf.setCells w16 (⟨t, 3, none⟩ : Addr) [(Value.slice (if (n20 = 0) then o18 else (Option.map (fun (x : Addr) => x) o18)) (((IntKind.wrap IntKind.i64 (((n2 : Nat) : Int) - 1))).toNat - 0) (n20 - 0))] 0)) →
(R (Ending.returned (Value.int IntKind.i64 0)) w21)))))))))))))))))))))))))))))))))))) :
    Calls Try.prog 33 #[(.pointer (some ⟨t, 0, none⟩))] w R :=
  calls_of_vc an33 Try.func33 rfl (by kernel_rfl) (by kernel_rfl) (Eq.mp (by kernel_rfl) h)

/-- samaritan/interview.Replay -/
def an35 : An := (.seq (.reg []) (.seq (.reg []) (.seq (.seq (.reg [(1, 0, true)]) (.cond (.seq (.reg []) .nil) .nil)) (.seq (.seq (.reg []) (.blk (.loop [(21, .int .i64)] (.seq (.reg [(0, 0, true)]) (.seq (.cond .nil .nil) (.seq (.blk (.seq (.reg []) (.seq (.reg []) (.seq (.reg [(1, 0, true)]) (.cond (.seq (.reg []) .nil) .nil))))) (.reg []))))))) (.seq (.reg []) .nil)))))
set_option maxRecDepth 100000 in
theorem nf35 (t_Name : ByteArray) (t_Version : Int) (t_Questions : Option Addr) (t_Questions_n : Nat) (t_Questions_c : Nat) (said : Option Addr) (said_n : Nat) (said_c : Nat) (w : World) (R : Ending → World → Prop) (h :
(∀ w1 : World, ((w1 = (w.alloc (Obj.cells #[(Value.string t_Name), (Value.int IntKind.i64 t_Version), (Value.slice t_Questions t_Questions_n t_Questions_c)] 24 (0, 0)))) →
(∃ s3 : ByteArray, (((w1.cell? (⟨(hs w), 0, none⟩ : Addr)) = (some (Value.string s3))) ∧
(∃ x4 : Int, (((w1.cell? (⟨(hs w), 1, none⟩ : Addr)) = (some (Value.int IntKind.i64 x4))) ∧
(∃ o5 : Option Addr, (∃ n6 : Nat, (∃ n7 : Nat, (((w1.cell? (⟨(hs w), 2, none⟩ : Addr)) = (some (Value.slice o5 n6 n7))) ∧
(Calls Try.prog 25 #[(Value.agg #[(Value.string s3), (Value.int IntKind.i64 x4), (Value.slice o5 n6 n7)])] w1 (fun (e8 : Ending) => (fun (w9 : World) => (∃ o10 : Option Addr, (∃ x11 : Int, ((e8 = (Ending.returned (Value.tuple #[(Value.pointer o10), (Value.int IntKind.i64 x11)]))) ∧
((((!(decide (x11 = 0))) = true) →
(R (Ending.returned (Value.tuple #[(Value.pointer none), (Value.int IntKind.i64 x11)])) w9)) ∧
(((!(decide (x11 = 0))) = false) →
(∃ k14 : (Nat → (Int → (World → Prop))), ((∃ n15 : Nat, (k14 n15 0 w9)) ∧
(∀ n16 : Nat, ((Nat → Value) →
(∀ w18 : World, (∀ x19 : Int, ((k14 n16 x19 w18) →
((((decide (x19 < ((said_n : Nat) : Int))) = true) →
(∃ a22 : Addr, ((said = (some a22)) ∧
((((0 : Int) ≤ x19) ∧
(x19 < ((said_n : Nat) : Int))) ∧
(∃ x23 : Int, (((w18.cell? (Addr.add a22 ((x19).toNat * 1))) = (some (Value.int IntKind.i64 x23))) ∧
(Calls Try.prog 30 #[(Value.pointer o10), (Value.int IntKind.i64 x23)] w18 (fun (e24 : Ending) => (fun (w25 : World) => (∃ x26 : Int, ((e24 = (Ending.returned (Value.int IntKind.i64 x26))) ∧
((((!(decide (x26 = 0))) = true) →
(R (Ending.returned (Value.tuple #[(Value.pointer none), (Value.int IntKind.i64 x26)])) w25)) ∧
(((!(decide (x26 = 0))) = false) →
(∃ n29 : Nat, ((n29 < n16) ∧
(k14 n29 (IntKind.wrap IntKind.i64 (x19 + 1)) w25)))))))))))))))) ∧
(((decide (x19 < ((said_n : Nat) : Int))) = false) →
(R (Ending.returned (Value.tuple #[(Value.pointer o10), (Value.int IntKind.i64 0)])) w18))))))))))))))))))))))))))))) :
    Calls Try.prog 35 #[(.agg #[(.string t_Name), (.int .i64 t_Version), (.slice t_Questions t_Questions_n t_Questions_c)]), (.slice said said_n said_c)] w R :=
  calls_of_vc an35 Try.func35 rfl (by kernel_rfl) (by kernel_rfl) (Eq.mp (by kernel_rfl) h)

/-- (*samaritan/interview.Interview).Answers -/
def an37 : An := (.seq (.reg []) (.seq (.reg []) .nil))
set_option maxRecDepth 100000 in
theorem nf37 (t : Nat) (w : World) (R : Ending → World → Prop) (h :
(∃ o1 : Option Addr, (∃ n2 : Nat, (∃ n3 : Nat, (((w.cell? (⟨t, 3, none⟩ : Addr)) = (some (Value.slice o1 n2 n3))) ∧
(Calls Try.prog 81 #[(Value.slice o1 n2 n3)] w (fun (e4 : Ending) => (fun (w5 : World) => (∃ o6 : Option Addr, (∃ n7 : Nat, (∃ n8 : Nat, ((e4 = (Ending.returned (Value.slice o6 n7 n8))) ∧
(R (Ending.returned (Value.slice o6 n7 n8)) w5))))))))))))) :
    Calls Try.prog 37 #[(.pointer (some ⟨t, 0, none⟩))] w R :=
  calls_of_vc an37 Try.func37 rfl (by kernel_rfl) (by kernel_rfl) (Eq.mp (by kernel_rfl) h)

/-- (*samaritan/interview.Interview).Protocol -/
def an78 : An := (.seq (.reg []) (.seq (.regD [] [0, 1, 2, 3, 4, 5, 6, 7, 8, 9, 10, 11] []) .nil))
set_option maxRecDepth 100000 in
theorem nf78 (t : Nat) (w : World) (R : Ending → World → Prop) (h :
(∀ w1 : World, ((w1 = w.drew) →
(∃ s3 : ByteArray, (((w1.cell? (⟨t, 0, none⟩ : Addr)) = (some (Value.string s3))) ∧
(∃ x4 : Int, (((w1.cell? (⟨t, 1, none⟩ : Addr)) = (some (Value.int IntKind.i64 x4))) ∧
(R (Ending.returned (Value.tuple #[(Value.string s3), (Value.int IntKind.i64 x4)])) w1)))))))) :
    Calls Try.prog 78 #[(.pointer (some ⟨t, 0, none⟩))] w R :=
  calls_of_vc an78 Try.func78 rfl (by kernel_rfl) (by kernel_rfl) (Eq.mp (by kernel_rfl) h)

/-- samaritan/samaritanref14.At -/
def an76 : An := (.seq (.reg []) (.seq (.reg []) (.seq (.reg []) (.seq (.seq (.reg []) (.blk (.loop [(6, .int .i64), (12, .int .i64)] (.seq (.reg [(0, 0, true)]) (.seq (.cond .nil .nil) (.seq (.blk (.seq (.reg []) (.seq (.reg []) (.reg [])))) (.reg []))))))) (.seq (.regD [] [0, 1, 2, 3] [3]) .nil)))))
set_option maxRecDepth 100000 in
theorem nf76 (t_Name : ByteArray) (t_Version : Int) (t_Questions : Option Addr) (t_Questions_n : Nat) (t_Questions_c : Nat) (said : Option Addr) (said_n : Nat) (said_c : Nat) (w : World) (R : Ending → World → Prop) (h :
(∀ w1 : World, ((w1 = (w.alloc (Obj.cells #[(Value.string t_Name), (Value.int IntKind.i64 t_Version), (Value.slice t_Questions t_Questions_n t_Questions_c)] 24 (0, 0)))) →
(∀ w3 : World, ((w3 = (w1.alloc (Obj.cells #[(Value.string (ByteArray.mk #[])), (Value.int IntKind.i64 0), (Value.int IntKind.i64 0), (Value.string (ByteArray.mk #[]))] 58 (0, 0)))) →
(∀ w5 : World, ((w5 = (w3.alloc (Obj.cells #[(Value.string (ByteArray.mk #[])), (Value.int IntKind.i64 0), (Value.int IntKind.i64 0), (Value.string (ByteArray.mk #[]))] 58 (0, 0)))) →
(∃ k7 : (Nat → (Int → (Int → (World → Prop)))), ((∃ n8 : Nat, (k7 n8 0 0 w5)) ∧
(∀ n9 : Nat, ((Nat → Value) →
(∀ w11 : World, (∀ x12 : Int, (∀ x13 : Int, ((k7 n9 x12 x13 w11) →
((((decide (x13 < ((said_n : Nat) : Int))) = true) →
(∃ a16 : Addr, ((said = (some a16)) ∧
((((0 : Int) ≤ x13) ∧
(x13 < ((said_n : Nat) : Int))) ∧
(∃ x17 : Int, (((w11.cell? (Addr.add a16 ((x13).toNat * 1))) = (some (Value.int IntKind.i64 x17))) ∧
(∃ o18 : Option Addr, (∃ n19 : Nat, (∃ n20 : Nat, (((w11.cell? (⟨(hs w), 2, none⟩ : Addr)) = (some (Value.slice o18 n19 n20))) ∧
(∃ a21 : Addr, ((o18 = (some a21)) ∧
((((0 : Int) ≤ x12) ∧
(x12 < ((n19 : Nat) : Int))) ∧
(∃ o22 : Option Addr, (∃ n23 : Nat, (∃ n24 : Nat, (((w11.cell? (Addr.add (Addr.add a21 ((x12).toNat * 2)) 1)) = (some (Value.slice o22 n23 n24))) ∧
(∃ a25 : Addr, ((o22 = (some a25)) ∧
((((0 : Int) ≤ x17) ∧
(x17 < ((n23 : Nat) : Int))) ∧
(∃ s26 : ByteArray, (((w11.cell? (Addr.add a25 ((x17).toNat * 4))) = (some (Value.string s26))) ∧
(∃ x27 : Int, (((w11.cell? (Addr.add (Addr.add a25 ((x17).toNat * 4)) 1)) = (some (Value.int IntKind.i64 x27))) ∧
(∃ x28 : Int, (((w11.cell? (Addr.add (Addr.add a25 ((x17).toNat * 4)) 2)) = (some (Value.int IntKind.i64 x28))) ∧
(∃ s29 : ByteArray, (((w11.cell? (Addr.add (Addr.add a25 ((x17).toNat * 4)) 3)) = (some (Value.string s29))) ∧
((Nf.There w11 (⟨(hs w3), 0, none⟩ : Addr) 4) ∧
(∀ w30 : World, ((w30 = (Nf.setCells w11 (⟨(hs w3), 0, none⟩ : Addr) [(Value.string s26), (Value.int IntKind.i64 x27), (Value.int IntKind.i64 x28), (Value.string s29)] 0)) →
(∃ x32 : Int, (((w30.cell? (⟨(hs w3), 1, none⟩ : Addr)) = (some (Value.int IntKind.i64 x32))) ∧
(∃ n33 : Nat, ((n33 < n9) ∧
(k7 n33 x32 (IntKind.wrap IntKind.i64 (x13 + 1)) w30)))))))))))))))))))))))))))))))))))) ∧
(((decide (x13 < ((said_n : Nat) : Int))) = false) →
(∀ w35 : World, ((w35 = w11.drew) →
(∃ s37 : ByteArray, (((w35.cell? (⟨(hs w3), 0, none⟩ : Addr)) = (some (Value.string s37))) ∧
(∃ x38 : Int, (((w35.cell? (⟨(hs w3), 1, none⟩ : Addr)) = (some (Value.int IntKind.i64 x38))) ∧
(∃ x39 : Int, (((w35.cell? (⟨(hs w3), 2, none⟩ : Addr)) = (some (Value.int IntKind.i64 x39))) ∧
(∃ s40 : ByteArray, (((w35.cell? (⟨(hs w3), 3, none⟩ : Addr)) = (some (Value.string s40))) ∧
((Nf.There w35 (⟨(hs w1), 0, none⟩ : Addr) 4) ∧
(∀ w41 : World, ((w41 = (Nf.setCells w35 (⟨(hs w1), 0, none⟩ : Addr) [(Value.string s37), (Value.int IntKind.i64 x38), (Value.int IntKind.i64 x39), (Value.string s40)] 0)) →
(∃ s43 : ByteArray, (((w41.cell? (⟨(hs w1), 0, none⟩ : Addr)) = (some (Value.string s43))) ∧
(∃ x44 : Int, (((w41.cell? (⟨(hs w1), 1, none⟩ : Addr)) = (some (Value.int IntKind.i64 x44))) ∧
(∃ x45 : Int, (((w41.cell? (⟨(hs w1), 2, none⟩ : Addr)) = (some (Value.int IntKind.i64 x45))) ∧
(∃ s46 : ByteArray, (((w41.cell? (⟨(hs w1), 3, none⟩ : Addr)) = (some (Value.string s46))) ∧
(R (Ending.returned (Value.tuple #[(Value.int IntKind.i64 x12), (Value.agg #[(Value.string s43), (Value.int IntKind.i64 x44), (Value.int IntKind.i64 x45), (Value.string s46)])])) w41))))))))))))))))))))))))))))))))))))))) :
    Calls Try.prog 76 #[(.agg #[(.string t_Name), (.int .i64 t_Version), (.slice t_Questions t_Questions_n t_Questions_c)]), (.slice said said_n said_c)] w R :=
  calls_of_vc an76 Try.func76 rfl (by kernel_rfl) (by kernel_rfl) (Eq.mp (by kernel_rfl) h)

/-- samaritan/samaritanref14.Say -/
def an34 : An := (.seq (.reg []) (.seq (.reg []) (.seq (.seq (.reg [(1, 0, true)]) (.cond (.seq (.reg []) .nil) .nil)) (.seq (.seq (.reg [(1, 0, true), (11, 0, true)]) (.cond (.seq (.reg []) .nil) .nil)) (.seq (.reg []) .nil)))))
set_option maxRecDepth 100000 in
theorem nf34 (t_Name : ByteArray) (t_Version : Int) (t_Questions : Option Addr) (t_Questions_n : Nat) (t_Questions_c : Nat) (said : Option Addr) (said_n : Nat) (said_c : Nat) (a : Int) (w : World) (R : Ending → World → Prop) (h :
(∀ w1 : World, ((w1 = (w.alloc (Obj.cells #[(Value.string t_Name), (Value.int IntKind.i64 t_Version), (Value.slice t_Questions t_Questions_n t_Questions_c)] 24 (0, 0)))) →
(∃ s3 : ByteArray, (((w1.cell? (⟨(hs w), 0, none⟩ : Addr)) = (some (Value.string s3))) ∧
(∃ x4 : Int, (((w1.cell? (⟨(hs w), 1, none⟩ : Addr)) = (some (Value.int IntKind.i64 x4))) ∧
(∃ o5 : Option Addr, (∃ n6 : Nat, (∃ n7 : Nat, (((w1.cell? (⟨(hs w), 2, none⟩ : Addr)) = (some (Value.slice o5 n6 n7))) ∧
(Calls Try.prog 76 #[(Value.agg #[(Value.string s3), (Value.int IntKind.i64 x4), (Value.slice o5 n6 n7)]), (Value.slice said said_n said_c)] w1 (fun (e8 : Ending) => (fun (w9 : World) => (∃ x10 : Int, (∃ s11 : ByteArray, (∃ x12 : Int, (∃ x13 : Int, (∃ s14 : ByteArray, ((e8 = (Ending.returned (Value.tuple #[(Value.int IntKind.i64 x10), (Value.agg #[(Value.string s11), (Value.int IntKind.i64 x12), (Value.int IntKind.i64 x13), (Value.string s14)])]))) ∧
(∀ w15 : World, ((w15 = (w9.alloc (Obj.cells #[(Value.string (ByteArray.mk #[])), (Value.int IntKind.i64 0), (Value.int IntKind.i64 0), (Value.string (ByteArray.mk #[]))] 58 (0, 0)))) →
((Nf.There w15 (⟨(hs w9), 0, none⟩ : Addr) 4) ∧
(∀ w17 : World, ((w17 = (Nf.setCells w15 (⟨(hs w9), 0, none⟩ : Addr) [(Value.string s11), (Value.int IntKind.i64 x12), (Value.int IntKind.i64 x13), (Value.string s14)] 0)) →
((((decide (x10 < 0)) = true) →
(R (Ending.returned (Value.int IntKind.i64 8)) w17)) ∧
(((decide (x10 < 0)) = false) →
((((decide (a < 0)) = true) →
(R (Ending.returned (Value.int IntKind.i64 1)) w17)) ∧
(((decide (a < 0)) = false) →
(∃ o23 : Option Addr, (∃ n24 : Nat, (∃ n25 : Nat, (((w17.cell? (⟨(hs w), 2, none⟩ : Addr)) = (some (Value.slice o23 n24 n25))) ∧
(∃ a26 : Addr, ((o23 = (some a26)) ∧
((((0 : Int) ≤ x10) ∧
(x10 < ((n24 : Nat) : Int))) ∧
(∃ o27 : Option Addr, (∃ n28 : Nat, (∃ n29 : Nat, (((w17.cell? (Addr.add (Addr.add a26 ((x10).toNat * 2)) 1)) = (some (Value.slice o27 n28 n29))) ∧
((((decide (a ≥ ((n28 : Nat) : Int))) = true) →
(R (Ending.returned (Value.int IntKind.i64 1)) w17)) ∧
(((decide (a ≥ ((n28 : Nat) : Int))) = false) →
(R (Ending.returned (Value.int IntKind.i64 0)) w17))))))))))))))))))))))))))))))))))))))))))) :
    Calls Try.prog 34 #[(.agg #[(.string t_Name), (.int .i64 t_Version), (.slice t_Questions t_Questions_n t_Questions_c)]), (.slice said said_n said_c), (.int .i64 a)] w R :=
  calls_of_vc an34 Try.func34 rfl (by kernel_rfl) (by kernel_rfl) (Eq.mp (by kernel_rfl) h)

/-- samaritan/samaritanref14.Replay -/
def an36 : An := (.seq (.reg []) (.seq (.seq (.reg []) (.seq (.reg [(1, 0, true)]) (.cond (.seq (.reg []) .nil) .nil))) (.seq (.seq (.reg []) (.blk (.loop [(20, .int .i64)] (.seq (.reg [(0, 0, true)]) (.seq (.cond .nil .nil) (.seq (.blk (.seq (.reg []) (.seq (.regD [(3, 2, false)] [0, 1, 2, 3, 4, 5, 6] [5]) (.seq (.reg [(1, 0, true)]) (.cond (.seq (.reg []) .nil) .nil))))) (.reg []))))))) (.seq (.reg []) .nil))))
set_option maxRecDepth 100000 in
theorem nf36 (t_Name : ByteArray) (t_Version : Int) (t_Questions : Option Addr) (t_Questions_n : Nat) (t_Questions_c : Nat) (said : Option Addr) (said_n : Nat) (said_c : Nat) (w : World) (R : Ending → World → Prop) (h :
(∀ w1 : World, ((w1 = (w.alloc (Obj.cells #[(Value.string t_Name), (Value.int IntKind.i64 t_Version), (Value.slice t_Questions t_Questions_n t_Questions_c)] 24 (0, 0)))) →
(∃ s3 : ByteArray, (((w1.cell? (⟨(hs w), 0, none⟩ : Addr)) = (some (Value.string s3))) ∧
(∃ x4 : Int, (((w1.cell? (⟨(hs w), 1, none⟩ : Addr)) = (some (Value.int IntKind.i64 x4))) ∧
(∃ o5 : Option Addr, (∃ n6 : Nat, (∃ n7 : Nat, (((w1.cell? (⟨(hs w), 2, none⟩ : Addr)) = (some (Value.slice o5 n6 n7))) ∧
(Calls Try.prog 31 #[(Value.agg #[(Value.string s3), (Value.int IntKind.i64 x4), (Value.slice o5 n6 n7)])] w1 (fun (e8 : Ending) => (fun (w9 : World) => (∃ x10 : Int, (∃ x11 : Int, ((e8 = (Ending.returned (Value.tuple #[(Value.int IntKind.i64 x10), (Value.int IntKind.i64 x11)]))) ∧
((((!(decide (x11 = 0))) = true) →
(R (Ending.returned (Value.int IntKind.i64 x11)) w9)) ∧
(((!(decide (x11 = 0))) = false) →
(∃ k14 : (Nat → (Int → (World → Prop))), ((∃ n15 : Nat, (k14 n15 0 w9)) ∧
(∀ n16 : Nat, ((Nat → Value) →
(∀ w18 : World, (∀ x19 : Int, ((k14 n16 x19 w18) →
((((decide (x19 < ((said_n : Nat) : Int))) = true) →
(∃ a22 : Addr, ((said = (some a22)) ∧
((((0 : Int) ≤ x19) ∧
(x19 < ((said_n : Nat) : Int))) ∧
(∃ x23 : Int, (((w18.cell? (Addr.add a22 ((x19).toNat * 1))) = (some (Value.int IntKind.i64 x23))) ∧
(∀ w24 : World, ((w24 = w18.drew) →
(∃ s26 : ByteArray, (((w24.cell? (⟨(hs w), 0, none⟩ : Addr)) = (some (Value.string s26))) ∧
(∃ x27 : Int, (((w24.cell? (⟨(hs w), 1, none⟩ : Addr)) = (some (Value.int IntKind.i64 x27))) ∧
(∃ o28 : Option Addr, (∃ n29 : Nat, (∃ n30 : Nat, (((w24.cell? (⟨(hs w), 2, none⟩ : Addr)) = (some (Value.slice o28 n29 n30))) ∧
((((0 : Int) ≤ x19) ∧
(x19 ≤ ((said_c : Nat) : Int))) ∧
(Calls Try.prog 34 #[(Value.agg #[(Value.string s26), (Value.int IntKind.i64 x27), (Value.slice o28 n29 n30)]), (Value.slice (if (said_c = 0) then said else (Option.map (fun (x : Addr) => x) said)) ((x19).toNat - 0) (said_c - 0)), (Value.int IntKind.i64 x23)] w24 (fun (e31 : Ending) => (fun (w32 : World) => (∃ x33 : Int, ((e31 = (Ending.returned (Value.int IntKind.i64 x33))) ∧
((((!(decide (x33 = 0))) = true) →
(R (Ending.returned (Value.int IntKind.i64 x33)) w32)) ∧
(((!(decide (x33 = 0))) = false) →
(∃ n36 : Nat, ((n36 < n16) ∧
(k14 n36 (IntKind.wrap IntKind.i64 (x19 + 1)) w32))))))))))))))))))))))))))) ∧
(((decide (x19 < ((said_n : Nat) : Int))) = false) →
(R (Ending.returned (Value.int IntKind.i64 0)) w18))))))))))))))))))))))))))))) :
    Calls Try.prog 36 #[(.agg #[(.string t_Name), (.int .i64 t_Version), (.slice t_Questions t_Questions_n t_Questions_c)]), (.slice said said_n said_c)] w R :=
  calls_of_vc an36 Try.func36 rfl (by kernel_rfl) (by kernel_rfl) (Eq.mp (by kernel_rfl) h)

/-- samaritan/samaritanref14.Range -/
def an77 : An := (.seq (.reg []) (.seq (.reg []) (.seq (.seq (.reg [(1, 0, true)]) (.cond (.seq (.regD [] [0, 1, 2, 3, 4, 5] []) .nil) .nil)) (.seq (.reg []) .nil))))
set_option maxRecDepth 100000 in
theorem nf77 (t_Name : ByteArray) (t_Version : Int) (t_Questions : Option Addr) (t_Questions_n : Nat) (t_Questions_c : Nat) (said : Option Addr) (said_n : Nat) (said_c : Nat) (w : World) (R : Ending → World → Prop) (h :
(∀ w1 : World, ((w1 = (w.alloc (Obj.cells #[(Value.string t_Name), (Value.int IntKind.i64 t_Version), (Value.slice t_Questions t_Questions_n t_Questions_c)] 24 (0, 0)))) →
(∃ s3 : ByteArray, (((w1.cell? (⟨(hs w), 0, none⟩ : Addr)) = (some (Value.string s3))) ∧
(∃ x4 : Int, (((w1.cell? (⟨(hs w), 1, none⟩ : Addr)) = (some (Value.int IntKind.i64 x4))) ∧
(∃ o5 : Option Addr, (∃ n6 : Nat, (∃ n7 : Nat, (((w1.cell? (⟨(hs w), 2, none⟩ : Addr)) = (some (Value.slice o5 n6 n7))) ∧
(Calls Try.prog 76 #[(Value.agg #[(Value.string s3), (Value.int IntKind.i64 x4), (Value.slice o5 n6 n7)]), (Value.slice said said_n said_c)] w1 (fun (e8 : Ending) => (fun (w9 : World) => (∃ x10 : Int, (∃ s11 : ByteArray, (∃ x12 : Int, (∃ x13 : Int, (∃ s14 : ByteArray, ((e8 = (Ending.returned (Value.tuple #[(Value.int IntKind.i64 x10), (Value.agg #[(Value.string s11), (Value.int IntKind.i64 x12), (Value.int IntKind.i64 x13), (Value.string s14)])]))) ∧
(∀ w15 : World, ((w15 = (w9.alloc (Obj.cells #[(Value.string (ByteArray.mk #[])), (Value.int IntKind.i64 0), (Value.int IntKind.i64 0), (Value.string (ByteArray.mk #[]))] 58 (0, 0)))) →
((Nf.There w15 (⟨(hs w9), 0, none⟩ : Addr) 4) ∧
(∀ w17 : World, ((w17 = (Nf.setCells w15 (⟨(hs w9), 0, none⟩ : Addr) [(Value.string s11), (Value.int IntKind.i64 x12), (Value.int IntKind.i64 x13), (Value.string s14)] 0)) →
((((decide (x10 < 0)) = true) →
(∀ w20 : World, ((w20 = w17.drew) →
(∃ x22 : Int, (((w20.cell? (⟨(hs w9), 2, none⟩ : Addr)) = (some (Value.int IntKind.i64 x22))) ∧
(∃ x23 : Int, (((w20.cell? (⟨(hs w9), 2, none⟩ : Addr)) = (some (Value.int IntKind.i64 x23))) ∧
(R (Ending.returned (Value.tuple #[(Value.int IntKind.i64 x22), (Value.int IntKind.i64 x23)])) w20)))))))) ∧
(((decide (x10 < 0)) = false) →
(∃ s25 : ByteArray, (((w17.cell? (⟨(hs w), 0, none⟩ : Addr)) = (some (Value.string s25))) ∧
(∃ x26 : Int, (((w17.cell? (⟨(hs w), 1, none⟩ : Addr)) = (some (Value.int IntKind.i64 x26))) ∧
(∃ o27 : Option Addr, (∃ n28 : Nat, (∃ n29 : Nat, (((w17.cell? (⟨(hs w), 2, none⟩ : Addr)) = (some (Value.slice o27 n28 n29))) ∧
(Calls Try.prog 59 #[(Value.agg #[(Value.string s25), (Value.int IntKind.i64 x26), (Value.slice o27 n28 n29)]), (Value.int IntKind.i64 x10)] w17 (fun (e30 : Ending) => (fun (w31 : World) => (∃ x32 : Int, (∃ x33 : Int, ((e30 = (Ending.returned (Value.tuple #[(Value.int IntKind.i64 x32), (Value.int IntKind.i64 x33)]))) ∧
(R (Ending.returned (Value.tuple #[(Value.int IntKind.i64 x32), (Value.int IntKind.i64 x33)])) w31)))))))))))))))))))))))))))))))))))))))))) :
    Calls Try.prog 77 #[(.agg #[(.string t_Name), (.int .i64 t_Version), (.slice t_Questions t_Questions_n t_Questions_c)]), (.slice said said_n said_c)] w R :=
  calls_of_vc an77 Try.func77 rfl (by kernel_rfl) (by kernel_rfl) (Eq.mp (by kernel_rfl) h)

/-- samaritan/samaritanref14.Numbers -/
def an79 : An := (.seq (.reg []) (.seq (.seq (.reg [(4, 0, true)]) (.cond (.seq (.reg []) .nil) .nil)) (.seq (.seq (.reg []) (.blk (.loop [(13, .int .i64)] (.seq (.reg [(0, 0, true)]) (.seq (.cond .nil .nil) (.seq (.blk (.seq (.reg []) (.seq (.regD [(8, 0, true)] [0, 1, 2, 3, 4, 5, 6, 7, 8] []) (.cond (.seq (.reg []) .nil) .nil)))) (.reg []))))))) (.seq (.reg []) .nil))))
set_option maxRecDepth 100000 in
theorem nf79 (a : Option Addr) (a_n : Nat) (a_c : Nat) (b : Option Addr) (b_n : Nat) (b_c : Nat) (w : World) (R : Ending → World → Prop) (h :
((((!(decide (((a_n : Nat) : Int) = ((b_n : Nat) : Int)))) = true) →
(R (Ending.returned (Value.bool false)) w)) ∧
(((!(decide (((a_n : Nat) : Int) = ((b_n : Nat) : Int)))) = false) →
(∃ k3 : (Nat → (Int → (World → Prop))), ((∃ n4 : Nat, (k3 n4 0 w)) ∧
(∀ n5 : Nat, ((Nat → Value) →
(∀ w7 : World, (∀ x8 : Int, ((k3 n5 x8 w7) →
((((decide (x8 < ((a_n : Nat) : Int))) = true) →
(∀ w11 : World, ((w11 = w7.drew) →
(∃ a13 : Addr, ((a = (some a13)) ∧
((((0 : Int) ≤ x8) ∧
(x8 < ((a_n : Nat) : Int))) ∧
(∃ x14 : Int, (((w11.cell? (Addr.add a13 ((x8).toNat * 1))) = (some (Value.int IntKind.i64 x14))) ∧
(∃ a15 : Addr, ((b = (some a15)) ∧
((((0 : Int) ≤ x8) ∧
(x8 < ((b_n : Nat) : Int))) ∧
(∃ x16 : Int, (((w11.cell? (Addr.add a15 ((x8).toNat * 1))) = (some (Value.int IntKind.i64 x16))) ∧
((((!(decide (x14 = x16))) = true) →
(R (Ending.returned (Value.bool false)) w11)) ∧
(((!(decide (x14 = x16))) = false) →
(∃ n19 : Nat, ((n19 < n5) ∧
(k3 n19 (IntKind.wrap IntKind.i64 (x8 + 1)) w11)))))))))))))))))) ∧
(((decide (x8 < ((a_n : Nat) : Int))) = false) →
(R (Ending.returned (Value.bool true)) w7))))))))))))) :
    Calls Try.prog 79 #[(.slice a a_n a_c), (.slice b b_n b_c)] w R :=
  calls_of_vc an79 Try.func79 rfl (by kernel_rfl) (by kernel_rfl) (Eq.mp (by kernel_rfl) h)

/-- samaritan/samaritanref14.Question -/
def an80 : An := (.seq (.reg []) (.seq (.seq (.reg [(4, 3, true), (12, 0, true)]) (.cond (.seq (.reg []) .nil) .nil)) (.seq (.seq (.reg []) (.blk (.loop [(23, .int .i64)] (.seq (.reg [(0, 0, true)]) (.seq (.cond .nil .nil) (.seq (.blk (.seq (.reg []) (.seq (.regD [(10, 3, true)] [0, 1, 2, 3, 4, 5, 6, 7, 8, 9, 10] []) (.cond (.seq (.reg []) .nil) .nil)))) (.reg []))))))) (.seq (.reg []) .nil))))
set_option maxRecDepth 100000 in
theorem nf80 (a_Text : ByteArray) (a_Answers : Option Addr) (a_Answers_n : Nat) (a_Answers_c : Nat) (b_Text : ByteArray) (b_Answers : Option Addr) (b_Answers_n : Nat) (b_Answers_c : Nat) (w : World) (R : Ending → World → Prop) (h :
(∀ w1 : World, ((w1 = (w.alloc (Obj.cells #[(Value.string a_Text), (Value.slice a_Answers a_Answers_n a_Answers_c)] 38 (0, 0)))) →
(∀ w3 : World, ((w3 = (w1.alloc (Obj.cells #[(Value.string b_Text), (Value.slice b_Answers b_Answers_n b_Answers_c)] 38 (0, 0)))) →
(∃ s5 : ByteArray, (((w3.cell? (⟨(hs w), 0, none⟩ : Addr)) = (some (Value.string s5))) ∧
(∃ s6 : ByteArray, (((w3.cell? (⟨(hs w1), 0, none⟩ : Addr)) = (some (Value.string s6))) ∧
((((!(Nf.strEq s5 s6)) = true) →
(R (Ending.returned (Value.bool false)) w3)) ∧
(((!(Nf.strEq s5 s6)) = false) →
(∃ o9 : Option Addr, (∃ n10 : Nat, (∃ n11 : Nat, (((w3.cell? (⟨(hs w), 1, none⟩ : Addr)) = (some (Value.slice o9 n10 n11))) ∧
(∃ o12 : Option Addr, (∃ n13 : Nat, (∃ n14 : Nat, (((w3.cell? (⟨(hs w1), 1, none⟩ : Addr)) = (some (Value.slice o12 n13 n14))) ∧
((((!(decide (((n10 : Nat) : Int) = ((n13 : Nat) : Int)))) = true) →
(R (Ending.returned (Value.bool false)) w3)) ∧
(((!(decide (((n10 : Nat) : Int) = ((n13 : Nat) : Int)))) = false) →
(∃ o17 : Option Addr, (∃ n18 : Nat, (∃ n19 : Nat, (((w3.cell? (⟨(hs w), 1, none⟩ : Addr)) = (some (Value.slice o17 n18 n19))) ∧
(∃ k20 : (Nat → (Int → (World → Prop))), ((∃ n21 : Nat, (k20 n21 0 w3)) ∧
(∀ n22 : Nat, ((Nat → Value) →
(∀ w24 : World, (∀ x25 : Int, ((k20 n22 x25 w24) →
((((decide (x25 < ((n18 : Nat) : Int))) = true) →
(∀ w28 : World, ((w28 = w24.drew) →
(∃ o30 : Option Addr, (∃ n31 : Nat, (∃ n32 : Nat, (((w28.cell? (⟨(hs w), 1, none⟩ : Addr)) = (some (Value.slice o30 n31 n32))) ∧
(∃ a33 : Addr, ((o30 = (some a33)) ∧
((((0 : Int) ≤ x25) ∧
(x25 < ((n31 : Nat) : Int))) ∧
(∃ s34 : ByteArray, (((w28.cell? (Addr.add a33 ((x25).toNat * 4))) = (some (Value.string s34))) ∧
(∃ x35 : Int, (((w28.cell? (Addr.add (Addr.add a33 ((x25).toNat * 4)) 1)) = (some (Value.int IntKind.i64 x35))) ∧
(∃ x36 : Int, (((w28.cell? (Addr.add (Addr.add a33 ((x25).toNat * 4)) 2)) = (some (Value.int IntKind.i64 x36))) ∧
(∃ s37 : ByteArray, (((w28.cell? (Addr.add (Addr.add a33 ((x25).toNat * 4)) 3)) = (some (Value.string s37))) ∧
(∃ o38 : Option Addr, (∃ n39 : Nat, (∃ n40 : Nat, (((w28.cell? (⟨(hs w1), 1, none⟩ : Addr)) = (some (Value.slice o38 n39 n40))) ∧
(∃ a41 : Addr, ((o38 = (some a41)) ∧
((((0 : Int) ≤ x25) ∧
(x25 < ((n39 : Nat) : Int))) ∧
(∃ s42 : ByteArray, (((w28.cell? (Addr.add a41 ((x25).toNat * 4))) = (some (Value.string s42))) ∧
(∃ x43 : Int, (((w28.cell? (Addr.add (Addr.add a41 ((x25).toNat * 4)) 1)) = (some (Value.int IntKind.i64 x43))) ∧
(∃ x44 : Int, (((w28.cell? (Addr.add (Addr.add a41 ((x25).toNat * 4)) 2)) = (some (Value.int IntKind.i64 x44))) ∧
(∃ s45 : ByteArray, (((w28.cell? (Addr.add (Addr.add a41 ((x25).toNat * 4)) 3)) = (some (Value.string s45))) ∧
((((!(Nf.andB (Nf.strEq s34 s42) (Nf.andB (decide (x35 = x43)) (Nf.andB (decide (x36 = x44)) (Nf.strEq s37 s45))))) = true) →
(R (Ending.returned (Value.bool false)) w28)) ∧
(((!(Nf.andB (Nf.strEq s34 s42) (Nf.andB (decide (x35 = x43)) (Nf.andB (decide (x36 = x44)) (Nf.strEq s37 s45))))) = false) →
(∃ n48 : Nat, ((n48 < n22) ∧
(k20 n48 (IntKind.wrap IntKind.i64 (x25 + 1)) w28)))))))))))))))))))))))))))))))))))))) ∧
(((decide (x25 < ((n18 : Nat) : Int))) = false) →
(R (Ending.returned (Value.bool true)) w24))))))))))))))))))))))))))))))))))) :
    Calls Try.prog 80 #[(.agg #[(.string a_Text), (.slice a_Answers a_Answers_n a_Answers_c)]), (.agg #[(.string b_Text), (.slice b_Answers b_Answers_n b_Answers_c)])] w R :=
  calls_of_vc an80 Try.func80 rfl (by kernel_rfl) (by kernel_rfl) (Eq.mp (by kernel_rfl) h)

/-- samaritan/samaritanref12.Same -/
def an38 : An := (.seq (.reg []) (.seq (.seq (.reg [(4, 3, true), (10, 0, true), (19, 0, true)]) (.cond (.seq (.reg []) .nil) .nil)) (.seq (.seq (.reg []) (.blk (.loop [(33, .int .i64)] (.seq (.reg [(0, 0, true)]) (.seq (.cond .nil .nil) (.seq (.blk (.seq (.reg []) (.seq (.reg []) (.seq (.seq (.reg [(4, 3, true), (12, 0, true)]) (.cond (.seq (.reg []) .nil) .nil)) (.seq (.reg []) (.blk (.loop [(60, .int .i64)] (.seq (.reg [(0, 0, true)]) (.seq (.cond .nil .nil) (.seq (.blk (.seq (.reg []) (.seq (.regD [(10, 3, true)] [0, 1, 2, 3, 4, 5, 6, 7, 8, 9, 10] []) (.cond (.seq (.reg []) .nil) .nil)))) (.reg []))))))))))) (.reg []))))))) (.seq (.reg []) .nil))))
set_option maxRecDepth 100000 in
theorem nf38 (a_Name : ByteArray) (a_Version : Int) (a_Questions : Option Addr) (a_Questions_n : Nat) (a_Questions_c : Nat) (b_Name : ByteArray) (b_Version : Int) (b_Questions : Option Addr) (b_Questions_n : Nat) (b_Questions_c : Nat) (w : World) (R : Ending → World → Prop) (h :
(∀ w1 : World, ((w1 = (w.alloc (Obj.cells #[(Value.string a_Name), (Value.int IntKind.i64 a_Version), (Value.slice a_Questions a_Questions_n a_Questions_c)] 24 (0, 0)))) →
(∀ w3 : World, ((w3 = (w1.alloc (Obj.cells #[(Value.string b_Name), (Value.int IntKind.i64 b_Version), (Value.slice b_Questions b_Questions_n b_Questions_c)] 24 (0, 0)))) →
(∃ s5 : ByteArray, (((w3.cell? (⟨(hs w), 0, none⟩ : Addr)) = (some (Value.string s5))) ∧
(∃ s6 : ByteArray, (((w3.cell? (⟨(hs w1), 0, none⟩ : Addr)) = (some (Value.string s6))) ∧
((((!(Nf.strEq s5 s6)) = true) →
(R (Ending.returned (Value.bool false)) w3)) ∧
(((!(Nf.strEq s5 s6)) = false) →
(∃ x9 : Int, (((w3.cell? (⟨(hs w), 1, none⟩ : Addr)) = (some (Value.int IntKind.i64 x9))) ∧
(∃ x10 : Int, (((w3.cell? (⟨(hs w1), 1, none⟩ : Addr)) = (some (Value.int IntKind.i64 x10))) ∧
((((!(decide (x9 = x10))) = true) →
(R (Ending.returned (Value.bool false)) w3)) ∧
(((!(decide (x9 = x10))) = false) →
(∃ o13 : Option Addr, (∃ n14 : Nat, (∃ n15 : Nat, (((w3.cell? (⟨(hs w), 2, none⟩ : Addr)) = (some (Value.slice o13 n14 n15))) ∧
(∃ o16 : Option Addr, (∃ n17 : Nat, (∃ n18 : Nat, (((w3.cell? (⟨(hs w1), 2, none⟩ : Addr)) = (some (Value.slice o16 n17 n18))) ∧
((((!(decide (((n14 : Nat) : Int) = ((n17 : Nat) : Int)))) = true) →
(R (Ending.returned (Value.bool false)) w3)) ∧
(((!(decide (((n14 : Nat) : Int) = ((n17 : Nat) : Int)))) = false) →
(∃ o21 : Option Addr, (∃ n22 : Nat, (∃ n23 : Nat, (((w3.cell? (⟨(hs w), 2, none⟩ : Addr)) = (some (Value.slice o21 n22 n23))) ∧
(∃ k24 : (Nat → (Int → (World → Prop))), ((∃ n25 : Nat, (k24 n25 0 w3)) ∧
(∀ n26 : Nat, ((Nat → Value) →
(∀ w28 : World, (∀ x29 : Int, ((k24 n26 x29 w28) →
((((decide (x29 < ((n22 : Nat) : Int))) = true) →
(∃ a32 : Addr, ((o21 = (some a32)) ∧
((((0 : Int) ≤ x29) ∧
(x29 < ((n22 : Nat) : Int))) ∧
(∃ s33 : ByteArray, (((w28.cell? (Addr.add a32 ((x29).toNat * 2))) = (some (Value.string s33))) ∧
(∃ o34 : Option Addr, (∃ n35 : Nat, (∃ n36 : Nat, (((w28.cell? (Addr.add (Addr.add a32 ((x29).toNat * 2)) 1)) = (some (Value.slice o34 n35 n36))) ∧
(∀ w37 : World, ((w37 = (w28.alloc (Obj.cells #[(Value.string (ByteArray.mk #[])), (Value.slice none 0 0)] 38 (0, 0)))) →
((Nf.There w37 (⟨(hs w28), 0, none⟩ : Addr) 2) ∧
(∀ w39 : World, ((w39 = (Nf.setCells w37 (⟨(hs w28), 0, none⟩ : Addr) [(Value.string s33), (Value.slice o34 n35 n36)] 0)) →
(∃ o41 : Option Addr, (∃ n42 : Nat, (∃ n43 : Nat, (((w39.cell? (⟨(hs w1), 2, none⟩ : Addr)) = (some (Value.slice o41 n42 n43))) ∧
(∃ a44 : Addr, ((o41 = (some a44)) ∧
((((0 : Int) ≤ x29) ∧
(x29 < ((n42 : Nat) : Int))) ∧
(∃ s45 : ByteArray, (((w39.cell? (Addr.add a44 ((x29).toNat * 2))) = (some (Value.string s45))) ∧
(∃ o46 : Option Addr, (∃ n47 : Nat, (∃ n48 : Nat, (((w39.cell? (Addr.add (Addr.add a44 ((x29).toNat * 2)) 1)) = (some (Value.slice o46 n47 n48))) ∧
(∀ w49 : World, ((w49 = (w39.alloc (Obj.cells #[(Value.string (ByteArray.mk #[])), (Value.slice none 0 0)] 38 (0, 0)))) →
((Nf.There w49 (⟨(hs w39), 0, none⟩ : Addr) 2) ∧
(∀ w51 : World, ((w51 = (Nf.setCells w49 (⟨(hs w39), 0, none⟩ : Addr) [(Value.string s45), (Value.slice o46 n47 n48)] 0)) →
(∃ s53 : ByteArray, (((w51.cell? (⟨(hs w28), 0, none⟩ : Addr)) = (some (Value.string s53))) ∧
(∃ s54 : ByteArray, (((w51.cell? (⟨(hs w39), 0, none⟩ : Addr)) = (some (Value.string s54))) ∧
((((!(Nf.strEq s53 s54)) = true) →
(R (Ending.returned (Value.bool false)) w51)) ∧
(((!(Nf.strEq s53 s54)) = false) →
(∃ o57 : Option Addr, (∃ n58 : Nat, (∃ n59 : Nat, (((w51.cell? (⟨(hs w28), 1, none⟩ : Addr)) = (some (Value.slice o57 n58 n59))) ∧
(∃ o60 : Option Addr, (∃ n61 : Nat, (∃ n62 : Nat, (((w51.cell? (⟨(hs w39), 1, none⟩ : Addr)) = (some (Value.slice o60 n61 n62))) ∧
((((!(decide (((n58 : Nat) : Int) = ((n61 : Nat) : Int)))) = true) →
(R (Ending.returned (Value.bool false)) w51)) ∧
(((!(decide (((n58 : Nat) : Int) = ((n61 : Nat) : Int)))) = false) →
(∃ o65 : Option Addr, (∃ n66 : Nat, (∃ n67 : Nat, (((w51.cell? (⟨(hs w28), 1, none⟩ : Addr)) = (some (Value.slice o65 n66 n67))) ∧
(∃ k68 : (Nat → (Int → (World → Prop))), ((∃ n69 : Nat, (k68 n69 0 w51)) ∧
(∀ n70 : Nat, ((Nat → Value) →
(∀ w72 : World, (∀ x73 : Int, ((k68 n70 x73 w72) →
((((decide (x73 < ((n66 : Nat) : Int))) = true) →
(∀ w76 : World, ((w76 = w72.drew) →
(∃ o78 : Option Addr, (∃ n79 : Nat, (∃ n80 : Nat, (((w76.cell? (⟨(hs w28), 1, none⟩ : Addr)) = (some (Value.slice o78 n79 n80))) ∧
(∃ a81 : Addr, ((o78 = (some a81)) ∧
((((0 : Int) ≤ x73) ∧
(x73 < ((n79 : Nat) : Int))) ∧
(∃ s82 : ByteArray, (((w76.cell? (Addr.add a81 ((x73).toNat * 4))) = (some (Value.string s82))) ∧
(∃ x83 : Int, (((w76.cell? (Addr.add (Addr.add a81 ((x73).toNat * 4)) 1)) = (some (Value.int IntKind.i64 x83))) ∧
(∃ x84 : Int, (((w76.cell? (Addr.add (Addr.add a81 ((x73).toNat * 4)) 2)) = (some (Value.int IntKind.i64 x84))) ∧
(∃ s85 : ByteArray, (((w76.cell? (Addr.add (Addr.add a81 ((x73).toNat * 4)) 3)) = (some (Value.string s85))) ∧
(∃ o86 : Option Addr, (∃ n87 : Nat, (∃ n88 : Nat, (((w76.cell? (⟨(hs w39), 1, none⟩ : Addr)) = (some (Value.slice o86 n87 n88))) ∧
(∃ a89 : Addr, ((o86 = (some a89)) ∧
((((0 : Int) ≤ x73) ∧
(x73 < ((n87 : Nat) : Int))) ∧
(∃ s90 : ByteArray, (((w76.cell? (Addr.add a89 ((x73).toNat * 4))) = (some (Value.string s90))) ∧
(∃ x91 : Int, (((w76.cell? (Addr.add (Addr.add a89 ((x73).toNat * 4)) 1)) = (some (Value.int IntKind.i64 x91))) ∧
(∃ x92 : Int, (((w76.cell? (Addr.add (Addr.add a89 ((x73).toNat * 4)) 2)) = (some (Value.int IntKind.i64 x92))) ∧
(∃ s93 : ByteArray, (((w76.cell? (Addr.add (Addr.add a89 ((x73).toNat * 4)) 3)) = (some (Value.string s93))) ∧
((((!(Nf.andB (Nf.strEq s82 s90) (Nf.andB (decide (x83 = x91)) (Nf.andB (decide (x84 = x92)) (Nf.strEq s85 s93))))) = true) →
(R (Ending.returned (Value.bool false)) w76)) ∧
(((!(Nf.andB (Nf.strEq s82 s90) (Nf.andB (decide (x83 = x91)) (Nf.andB (decide (x84 = x92)) (Nf.strEq s85 s93))))) = false) →
(∃ n96 : Nat, ((n96 < n70) ∧
(k68 n96 (IntKind.wrap IntKind.i64 (x73 + 1)) w76)))))))))))))))))))))))))))))))))))))) ∧
(((decide (x73 < ((n66 : Nat) : Int))) = false) →
(∃ n98 : Nat, ((n98 < n26) ∧
(k24 n98 (IntKind.wrap IntKind.i64 (x29 + 1)) w72))))))))))))))))))))))))))))))))))))))))))))))))))))))))))))))))) ∧
(((decide (x29 < ((n22 : Nat) : Int))) = false) →
(R (Ending.returned (Value.bool true)) w28))))))))))))))))))))))))))))))))))))))))) :
    Calls Try.prog 38 #[(.agg #[(.string a_Name), (.int .i64 a_Version), (.slice a_Questions a_Questions_n a_Questions_c)]), (.agg #[(.string b_Name), (.int .i64 b_Version), (.slice b_Questions b_Questions_n b_Questions_c)])] w R :=
  calls_of_vc an38 Try.func38 rfl (by kernel_rfl) (by kernel_rfl) (Eq.mp (by kernel_rfl) h)

end Go.Proofs.Ytbaacpfjecbbgaa
