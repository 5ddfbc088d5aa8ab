/- The contracts' premises: for each function, the proposition that its body comes to (printed by the tool of wip/nf). -/
import Derived.Test.YtbaacpfjecbbgaaRows
import Derived.Test.YtbaacpfjecbbgaaNfD
namespace Go.Proofs.Ytbaacpfjecbbgaa
open Go Go.Nf

/-- samaritan/samaritanref13.never -/
def an125 : An := (.seq (.reg []) (.seq (.reg []) .nil))
set_option maxRecDepth 100000 in
theorem nf125  (w : World) (R : Ending → World → Prop) (h :
(R (Ending.returned (Value.int IntKind.i64 4611686018427387904)) w)) :
    Calls Try.prog 125 #[] w R :=
  calls_of_vc an125 Try.func125 rfl (by kernel_rfl) (by kernel_rfl) (Eq.mp (by kernel_rfl) h)

/-- samaritan/samaritanref13.add -/
def an102 : An := (.seq (.reg []) (.seq (.seq (.reg [(4, 0, true)]) (.cond (.seq (.reg []) .nil) .nil)) (.seq (.reg []) .nil)))
set_option maxRecDepth 100000 in
theorem nf102 (a : Int) (b : Int) (w : World) (R : Ending → World → Prop) (h :
(Calls Try.prog 125 #[] w (fun (e1 : Ending) => (fun (w2 : World) => (∃ x3 : Int, ((e1 = (Ending.returned (Value.int IntKind.i64 x3))) ∧
((((decide (a > (IntKind.wrap IntKind.i64 (x3 - b)))) = true) →
(Calls Try.prog 125 #[] w2 (fun (e5 : Ending) => (fun (w6 : World) => (∃ x7 : Int, ((e5 = (Ending.returned (Value.int IntKind.i64 x7))) ∧
(R (Ending.returned (Value.int IntKind.i64 x7)) w6))))))) ∧
(((decide (a > (IntKind.wrap IntKind.i64 (x3 - b)))) = false) →
(R (Ending.returned (Value.int IntKind.i64 (IntKind.wrap IntKind.i64 (a + b)))) w2))))))))) :
    Calls Try.prog 102 #[(.int .i64 a), (.int .i64 b)] w R :=
  calls_of_vc an102 Try.func102 rfl (by kernel_rfl) (by kernel_rfl) (Eq.mp (by kernel_rfl) h)

/-- samaritan/samaritanref13.Same -/
def an62 : An := (.seq (.reg []) (.seq (.seq (.reg [(4, 0, true)]) (.cond (.seq (.reg []) .nil) .nil)) (.seq (.seq (.reg []) (.blk (.loop [(5, .int .i64)] (.seq (.seq (.reg [(3, 0, true)]) (.cond .nil .nil)) (.seq (.blk (.seq (.regD [(8, 0, true)] [0, 1, 2, 3, 4, 5, 6, 7, 8] []) (.cond (.seq (.reg []) .nil) .nil))) (.reg [])))))) (.seq (.reg []) .nil))))
set_option maxRecDepth 100000 in
theorem nf62 (a : Option Addr) (a_n : Nat) (a_c : Nat) (b : Option Addr) (b_n : Nat) (b_c : Nat) (w : World) (R : Ending → World → Prop) (h :
((((!(decide (((a_n : Nat) : Int) = ((b_n : Nat) : Int)))) = true) →
(R (Ending.returned (Value.bool false)) w)) ∧
(((!(decide (((a_n : Nat) : Int) = ((b_n : Nat) : Int)))) = false) →
(∃ k3 : (Nat → (Int → (World → Prop))), ((∃ n4 : Nat, (k3 n4 0 w)) ∧
(∀ n5 : Nat, ((Nat → Value) →
(∀ w7 : World, (∀ x8 : Int, ((k3 n5 x8 w7) →
((((decide (x8 < ((a_n : Nat) : Int))) = true) →
(∀ w11 : World, ((w11 = w7.drew) →
(∃ a13 : Addr, ((a = (some a13)) ∧
((((0 : Int) ≤ x8) ∧
(x8 < ((a_n : Nat) : Int))) ∧
(∃ x14 : Int, (((w11.cell? (Addr.add a13 ((x8).toNat * 1))) = (some (Value.int IntKind.i64 x14))) ∧
(∃ a15 : Addr, ((b = (some a15)) ∧
((((0 : Int) ≤ x8) ∧
(x8 < ((b_n : Nat) : Int))) ∧
(∃ x16 : Int, (((w11.cell? (Addr.add a15 ((x8).toNat * 1))) = (some (Value.int IntKind.i64 x16))) ∧
((((!(decide (x14 = x16))) = true) →
(R (Ending.returned (Value.bool false)) w11)) ∧
(((!(decide (x14 = x16))) = false) →
(∃ n19 : Nat, ((n19 < n5) ∧
(k3 n19 (IntKind.wrap IntKind.i64 (x8 + 1)) w11)))))))))))))))))) ∧
(((decide (x8 < ((a_n : Nat) : Int))) = false) →
(R (Ending.returned (Value.bool true)) w7))))))))))))) :
    Calls Try.prog 62 #[(.slice a a_n a_c), (.slice b b_n b_c)] w R :=
  calls_of_vc an62 Try.func62 rfl (by kernel_rfl) (by kernel_rfl) (Eq.mp (by kernel_rfl) h)

/-- samaritan/samaritanlaw13.small -/
def an92 : An := (.seq (.reg []) (.seq (.reg []) .nil))
set_option maxRecDepth 100000 in
theorem nf92  (w : World) (R : Ending → World → Prop) (h :
(∀ w1 : World, ((w1 = (w.alloc (Obj.cells #[(Value.string (ByteArray.mk #[])), (Value.int IntKind.i64 0), (Value.slice none 0 0)] 24 (0, 0)))) →
(∀ w3 : World, ((w3 = (w1.alloc (Obj.cells #[(Value.string (ByteArray.mk #[(110 : UInt8), (111 : UInt8)])), (Value.int IntKind.i64 (-1)), (Value.int IntKind.i64 1), (Value.string (ByteArray.mk #[(97 : UInt8), (114 : UInt8), (114 : UInt8), (101 : UInt8), (115 : UInt8), (116 : UInt8)])), (Value.string (ByteArray.mk #[(121 : UInt8), (101 : UInt8), (115 : UInt8)])), (Value.int IntKind.i64 1), (Value.int IntKind.i64 0), (Value.string (ByteArray.mk #[]))] 58 (0, 0)))) →
(∀ w5 : World, ((w5 = (w3.alloc (Obj.cells #[(Value.string (ByteArray.mk #[(104 : UInt8), (111 : UInt8), (109 : UInt8), (101 : UInt8)])), (Value.int IntKind.i64 (-1)), (Value.int IntKind.i64 3), (Value.string (ByteArray.mk #[(102 : UInt8), (97 : UInt8), (108 : UInt8), (108 : UInt8)]))] 58 (0, 0)))) →
(∀ w7 : World, ((w7 = (w5.alloc (Obj.cells #[(Value.string (ByteArray.mk #[(68 : UInt8), (111 : UInt8), (101 : UInt8), (115 : UInt8), (32 : UInt8), (97 : UInt8), (110 : UInt8), (121 : UInt8), (98 : UInt8), (111 : UInt8), (100 : UInt8), (121 : UInt8), (32 : UInt8), (98 : UInt8), (114 : UInt8), (101 : UInt8), (97 : UInt8), (116 : UInt8), (104 : UInt8), (101 : UInt8), (63 : UInt8)])), (Value.slice (some (⟨(hs w1), 0, none⟩ : Addr)) 2 2), (Value.string (ByteArray.mk #[(87 : UInt8), (104 : UInt8), (101 : UInt8), (114 : UInt8), (101 : UInt8), (63 : UInt8)])), (Value.slice (some (⟨(hs w3), 0, none⟩ : Addr)) 1 1)] 38 (0, 0)))) →
((Nf.There w7 (⟨(hs w), 0, none⟩ : Addr) 3) ∧
(∀ w9 : World, ((w9 = (Nf.setCells w7 (⟨(hs w), 0, none⟩ : Addr) [(Value.string (ByteArray.mk #[(109 : UInt8), (97 : UInt8), (105 : UInt8), (110 : UInt8)])), (Value.int IntKind.i64 1), (Value.slice (some (⟨(hs w5), 0, none⟩ : Addr)) 2 2)] 0)) →
(∃ s11 : ByteArray, (((w9.cell? (⟨(hs w), 0, none⟩ : Addr)) = (some (Value.string s11))) ∧
(∃ x12 : Int, (((w9.cell? (⟨(hs w), 1, none⟩ : Addr)) = (some (Value.int IntKind.i64 x12))) ∧
(∃ o13 : Option Addr, (∃ n14 : Nat, (∃ n15 : Nat, (((w9.cell? (⟨(hs w), 2, none⟩ : Addr)) = (some (Value.slice o13 n14 n15))) ∧
(R (Ending.returned (Value.agg #[(Value.string s11), (Value.int IntKind.i64 x12), (Value.slice o13 n14 n15)])) w9))))))))))))))))))))) :
    Calls Try.prog 92 #[] w R :=
  calls_of_vc an92 Try.func92 rfl (by kernel_rfl) (by kernel_rfl) (Eq.mp (by kernel_rfl) h)

/-- samaritan/protocolcheck.order$1 -/
def an121 : An := (.seq (.reg []) (.seq (.seq (.reg []) (.blk (.loop [(16, .int .i64)] (.seq (.reg [(0, 0, true)]) (.seq (.cond .nil .nil) (.cut [] (.blk (.seq (.reg []) (.seq (.reg [(3, 0, true)]) (.cond (.reg [(2, 1, false)]) .nil)))) (.reg []))))))) (.reg [(3, 1, false)])))
set_option maxRecDepth 100000 in
theorem nf121 (q : Int) (c0 : Nat) (c1 : Nat) (c2 : Nat) (c3 : Nat) (w : World) (R : Ending → World → Prop) (h :
(∃ o1 : Option Addr, (∃ n2 : Nat, (∃ n3 : Nat, (((w.cell? (⟨c0, 0, none⟩ : Addr)) = (some (Value.slice o1 n2 n3))) ∧
(∃ a4 : Addr, ((o1 = (some a4)) ∧
((((0 : Int) ≤ q) ∧
(q < ((n2 : Nat) : Int))) ∧
((Nf.There w (Addr.add a4 ((q).toNat * 1)) 1) ∧
(∀ w5 : World, ((w5 = (Nf.setCells w (Addr.add a4 ((q).toNat * 1)) [(Value.bool true)] 0)) →
(∃ o7 : Option Addr, (∃ n8 : Nat, (∃ n9 : Nat, (((w5.cell? (⟨c1, 0, none⟩ : Addr)) = (some (Value.slice o7 n8 n9))) ∧
(∃ a10 : Addr, ((o7 = (some a10)) ∧
((((0 : Int) ≤ q) ∧
(q < ((n8 : Nat) : Int))) ∧
(∃ o11 : Option Addr, (∃ n12 : Nat, (∃ n13 : Nat, (((w5.cell? (Addr.add a10 ((q).toNat * 1))) = (some (Value.slice o11 n12 n13))) ∧
(∃ k14 : (Nat → (Int → (World → Prop))), ((∃ n15 : Nat, (k14 n15 0 w5)) ∧
(∀ n16 : Nat, ((Nat → Value) →
(∀ w18 : World, (∀ x19 : Int, ((k14 n16 x19 w18) →
((((decide (x19 < ((n12 : Nat) : Int))) = true) →
(∀ k22 : (World → Prop), ((∀ w24 : World, (((Nat → Value) →
(∃ n27 : Nat, ((n27 < n16) ∧
(k14 n27 (IntKind.wrap IntKind.i64 (x19 + 1)) w24)))) →
(k22 w24))) →
(∃ a28 : Addr, ((o11 = (some a28)) ∧
((((0 : Int) ≤ x19) ∧
(x19 < ((n12 : Nat) : Int))) ∧
(∃ x29 : Int, (((w18.cell? (Addr.add a28 ((x19).toNat * 1))) = (some (Value.int IntKind.i64 x29))) ∧
(∃ o30 : Option Addr, (∃ n31 : Nat, (∃ n32 : Nat, (((w18.cell? (⟨c0, 0, none⟩ : Addr)) = (some (Value.slice o30 n31 n32))) ∧
(∃ a33 : Addr, ((o30 = (some a33)) ∧
((((0 : Int) ≤ x29) ∧
(x29 < ((n31 : Nat) : Int))) ∧
(∃ b34 : Bool, (((w18.cell? (Addr.add a33 ((x29).toNat * 1))) = (some (Value.bool b34))) ∧
(((b34 = true) →
(k22 w18)) ∧
((b34 = false) →
(∃ f37 : Fn, (∃ a38 : Array Value, (∃ a39 : Array Value, (((w18.cell? (⟨c2, 0, none⟩ : Addr)) = (some (Value.func f37 a38 a39))) ∧
(CallsV Try.prog (Value.func f37 a38 a39) [(Value.int IntKind.i64 x29)] w18 (fun (e40 : Ending) => (fun (w41 : World) => ((e40 = (Ending.returned (Value.tuple #[]))) ∧
(k22 w41)))))))))))))))))))))))))))) ∧
(((decide (x19 < ((n12 : Nat) : Int))) = false) →
(∃ o43 : Option Addr, (∃ n44 : Nat, (∃ n45 : Nat, (((w18.cell? (⟨c3, 0, none⟩ : Addr)) = (some (Value.slice o43 n44 n45))) ∧
(∀ w46 : World, ((w46 = (w18.alloc (Obj.cells #[(Value.int IntKind.i64 q)] 3 (0, 0)))) →
(RunOk Try.prog (Nf.Hold (Builtin.append_ #[48, 48] 48 #[(Value.slice o43 n44 n45), (Value.slice (some (⟨(hs w18), 0, none⟩ : Addr)) 1 1)])) w46 (fun (v48 : Value) => (fun (w49 : World) => (∃ o50 : Option Addr, (∃ n51 : Nat, (∃ n52 : Nat, ((v48 = (Value.slice o50 n51 n52)) ∧
((Nf.There w49 (⟨c3, 0, none⟩ : Addr) 1) ∧
(∀ w53 : World, ((w53 = (Nf.setCells w49 (⟨c3, 0, none⟩ : Addr) [(Value.slice o50 n51 n52)] 0)) →
(R (Ending.returned (Value.tuple #[])) w53)))))))))))))))))))))))))))))))))))))))))))))))) :
    Calls Try.prog 121 #[(.int .i64 q), (.pointer (some ⟨c0, 0, none⟩)), (.pointer (some ⟨c1, 0, none⟩)), (.pointer (some ⟨c2, 0, none⟩)), (.pointer (some ⟨c3, 0, none⟩))] w R :=
  calls_of_vc an121 Try.func121 rfl (by kernel_rfl) (by kernel_rfl) (Eq.mp (by kernel_rfl) h)

/-- samaritan/protocolcheck.order -/
def an98 : An := (.seq (.reg []) (.seq (.reg []) (.seq (.reg [(2, 1, false)]) (.seq (.reg []) (.seq (.reg []) (.seq (.reg [(2, 1, false)]) (.seq (.reg []) .nil)))))))
set_option maxRecDepth 100000 in
theorem nf98 (next' : Option Addr) (next'_n : Nat) (next'_c : Nat) (q : Int) (w : World) (R : Ending → World → Prop) (h :
(∀ w1 : World, ((w1 = (w.alloc (Obj.cells #[(Value.slice next' next'_n next'_c)] 91 (0, 0)))) →
(∀ w3 : World, ((w3 = (w1.alloc (Obj.cells #[(Value.slice none 0 0)] 48 (0, 0)))) →
(∃ o5 : Option Addr, (∃ n6 : Nat, (∃ n7 : Nat, (((w3.cell? (⟨(hs w), 0, none⟩ : Addr)) = (some (Value.slice o5 n6 n7))) ∧
(RunOk Try.prog (Nf.Hold (Instr.makeSlice 99 (Value.int IntKind.i64 ((n6 : Nat) : Int)) (Value.int IntKind.i64 ((n6 : Nat) : Int)))) w3 (fun (v8 : Value) => (fun (w9 : World) => (∃ o10 : Option Addr, (∃ n11 : Nat, (∃ n12 : Nat, ((v8 = (Value.slice o10 n11 n12)) ∧
(∀ w13 : World, ((w13 = (w9.alloc (Obj.cells #[(Value.slice none 0 0)] 99 (0, 0)))) →
((Nf.There w13 (⟨(hs w9), 0, none⟩ : Addr) 1) ∧
(∀ w15 : World, ((w15 = (Nf.setCells w13 (⟨(hs w9), 0, none⟩ : Addr) [(Value.slice o10 n11 n12)] 0)) →
(∀ w17 : World, ((w17 = (w15.alloc (Obj.cells #[Value.nilFunc] 159 (0, 0)))) →
((Nf.There w17 (⟨(hs w15), 0, none⟩ : Addr) 1) ∧
(∀ w19 : World, ((w19 = (Nf.setCells w17 (⟨(hs w15), 0, none⟩ : Addr) [(Value.func (Fn.func 121) #[] #[(Value.pointer (some (⟨(hs w9), 0, none⟩ : Addr))), (Value.pointer (some (⟨(hs w), 0, none⟩ : Addr))), (Value.pointer (some (⟨(hs w15), 0, none⟩ : Addr))), (Value.pointer (some (⟨(hs w1), 0, none⟩ : Addr)))])] 0)) →
(∃ f21 : Fn, (∃ a22 : Array Value, (∃ a23 : Array Value, (((w19.cell? (⟨(hs w15), 0, none⟩ : Addr)) = (some (Value.func f21 a22 a23))) ∧
(CallsV Try.prog (Value.func f21 a22 a23) [(Value.int IntKind.i64 q)] w19 (fun (e24 : Ending) => (fun (w25 : World) => ((e24 = (Ending.returned (Value.tuple #[]))) ∧
(∃ o26 : Option Addr, (∃ n27 : Nat, (∃ n28 : Nat, (((w25.cell? (⟨(hs w1), 0, none⟩ : Addr)) = (some (Value.slice o26 n27 n28))) ∧
(R (Ending.returned (Value.slice o26 n27 n28)) w25))))))))))))))))))))))))))))))))))))))) :
    Calls Try.prog 98 #[(.slice next' next'_n next'_c), (.int .i64 q)] w R :=
  calls_of_vc an98 Try.func98 rfl (by kernel_rfl) (by kernel_rfl) (Eq.mp (by kernel_rfl) h)

/-- samaritan/protocolcheck.MaxQuestions -/
def an57 : An := (.seq (.reg []) (.seq (.seq (.reg [(1, 0, true)]) (.cond (.seq (.reg []) .nil) .nil)) (.seq (.seq (.reg [(2, 0, true)]) (.cond (.seq (.reg []) .nil) .nil)) (.seq (.reg []) (.seq (.seq (.reg []) (.blk (.loop [(28, .int .i64)] (.seq (.reg [(0, 0, true)]) (.seq (.cond .nil .nil) (.seq (.blk (.seq (.reg [(2, 0, true)]) (.seq (.reg [(4, 0, true)]) (.cond (.seq (.reg []) .nil) .nil)))) (.reg []))))))) (.seq (.reg [(2, 1, false)]) (.seq (.seq (.reg []) (.blk (.loop [(47, .int .i64)] (.seq (.reg [(0, 0, true)]) (.seq (.cond .nil .nil) (.seq (.blk (.seq (.reg []) (.seq (.seq (.reg []) (.blk (.loop [(56, .int .i64)] (.seq (.reg [(0, 0, true)]) (.seq (.cond .nil .nil) (.seq (.blk (.seq (.reg []) (.regD [] [0, 1, 2, 3, 4, 5, 6, 7, 8, 9, 10, 11, 12] [12]))) (.reg []))))))) (.reg [])))) (.reg []))))))) (.seq (.reg []) .nil))))))))
set_option maxRecDepth 100000 in
theorem nf57 (t_Name : ByteArray) (t_Version : Int) (t_Questions : Option Addr) (t_Questions_n : Nat) (t_Questions_c : Nat) (q : Int) (w : World) (R : Ending → World → Prop) (h :
(∀ w1 : World, ((w1 = (w.alloc (Obj.cells #[(Value.string t_Name), (Value.int IntKind.i64 t_Version), (Value.slice t_Questions t_Questions_n t_Questions_c)] 24 (0, 0)))) →
(∃ s3 : ByteArray, (((w1.cell? (⟨(hs w), 0, none⟩ : Addr)) = (some (Value.string s3))) ∧
(∃ x4 : Int, (((w1.cell? (⟨(hs w), 1, none⟩ : Addr)) = (some (Value.int IntKind.i64 x4))) ∧
(∃ o5 : Option Addr, (∃ n6 : Nat, (∃ n7 : Nat, (((w1.cell? (⟨(hs w), 2, none⟩ : Addr)) = (some (Value.slice o5 n6 n7))) ∧
(Calls Try.prog 93 #[(Value.agg #[(Value.string s3), (Value.int IntKind.i64 x4), (Value.slice o5 n6 n7)])] w1 (fun (e8 : Ending) => (fun (w9 : World) => (∃ b10 : Bool, ((e8 = (Ending.returned (Value.bool b10))) ∧
(((b10 = true) →
(∃ s12 : ByteArray, (((w9.cell? (⟨(hs w), 0, none⟩ : Addr)) = (some (Value.string s12))) ∧
(∃ x13 : Int, (((w9.cell? (⟨(hs w), 1, none⟩ : Addr)) = (some (Value.int IntKind.i64 x13))) ∧
(∃ o14 : Option Addr, (∃ n15 : Nat, (∃ n16 : Nat, (((w9.cell? (⟨(hs w), 2, none⟩ : Addr)) = (some (Value.slice o14 n15 n16))) ∧
(Calls Try.prog 97 #[(Value.agg #[(Value.string s12), (Value.int IntKind.i64 x13), (Value.slice o14 n15 n16)]), (Value.int IntKind.i64 q)] w9 (fun (e17 : Ending) => (fun (w18 : World) => (∃ b19 : Bool, ((e17 = (Ending.returned (Value.bool b19))) ∧
(((b19 = true) →
(∃ s21 : ByteArray, (((w18.cell? (⟨(hs w), 0, none⟩ : Addr)) = (some (Value.string s21))) ∧
(∃ x22 : Int, (((w18.cell? (⟨(hs w), 1, none⟩ : Addr)) = (some (Value.int IntKind.i64 x22))) ∧
(∃ o23 : Option Addr, (∃ n24 : Nat, (∃ n25 : Nat, (((w18.cell? (⟨(hs w), 2, none⟩ : Addr)) = (some (Value.slice o23 n24 n25))) ∧
(Calls Try.prog 94 #[(Value.agg #[(Value.string s21), (Value.int IntKind.i64 x22), (Value.slice o23 n24 n25)])] w18 (fun (e26 : Ending) => (fun (w27 : World) => (∃ o28 : Option Addr, (∃ n29 : Nat, (∃ n30 : Nat, ((e26 = (Ending.returned (Value.slice o28 n29 n30))) ∧
(∀ w31 : World, ((w31 = (w27.alloc (Obj.cells #[(Value.int IntKind.i64 q)] 3 (0, 0)))) →
(Calls Try.prog 96 #[(Value.slice o28 n29 n30), (Value.slice (some (⟨(hs w27), 0, none⟩ : Addr)) 1 1)] w31 (fun (e33 : Ending) => (fun (w34 : World) => (∃ o35 : Option Addr, (∃ n36 : Nat, (∃ n37 : Nat, ((e33 = (Ending.returned (Value.slice o35 n36 n37))) ∧
(∃ k38 : (Nat → (Int → (World → Prop))), ((∃ n39 : Nat, (k38 n39 0 w34)) ∧
(∀ n40 : Nat, ((Nat → Value) →
(∀ w42 : World, (∀ x43 : Int, ((k38 n40 x43 w42) →
((((decide (x43 < ((n36 : Nat) : Int))) = true) →
(∃ a46 : Addr, ((o35 = (some a46)) ∧
((((0 : Int) ≤ x43) ∧
(x43 < ((n36 : Nat) : Int))) ∧
(∃ b47 : Bool, (((w42.cell? (Addr.add a46 ((x43).toNat * 1))) = (some (Value.bool b47))) ∧
(((b47 = true) →
(Calls Try.prog 95 #[(Value.slice o28 n29 n30), (Value.int IntKind.i64 x43)] w42 (fun (e49 : Ending) => (fun (w50 : World) => (∃ b51 : Bool, ((e49 = (Ending.returned (Value.bool b51))) ∧
(((b51 = true) →
(R (Ending.returned (Value.tuple #[(Value.int IntKind.i64 0), (Value.int IntKind.i64 12)])) w50)) ∧
((b51 = false) →
(∃ n54 : Nat, ((n54 < n40) ∧
(k38 n54 (IntKind.wrap IntKind.i64 (x43 + 1)) w50))))))))))) ∧
((b47 = false) →
(∃ n56 : Nat, ((n56 < n40) ∧
(k38 n56 (IntKind.wrap IntKind.i64 (x43 + 1)) w42))))))))))) ∧
(((decide (x43 < ((n36 : Nat) : Int))) = false) →
(RunOk Try.prog (Nf.Hold (Instr.makeSlice 48 (Value.int IntKind.i64 ((n29 : Nat) : Int)) (Value.int IntKind.i64 ((n29 : Nat) : Int)))) w42 (fun (v58 : Value) => (fun (w59 : World) => (∃ o60 : Option Addr, (∃ n61 : Nat, (∃ n62 : Nat, ((v58 = (Value.slice o60 n61 n62)) ∧
(Calls Try.prog 98 #[(Value.slice o28 n29 n30), (Value.int IntKind.i64 q)] w59 (fun (e63 : Ending) => (fun (w64 : World) => (∃ o65 : Option Addr, (∃ n66 : Nat, (∃ n67 : Nat, ((e63 = (Ending.returned (Value.slice o65 n66 n67))) ∧
(∃ k68 : (Nat → (Int → (World → Prop))), ((∃ n69 : Nat, (k68 n69 0 w64)) ∧
(∀ n70 : Nat, ((Nat → Value) →
(∀ w72 : World, (∀ x73 : Int, ((k68 n70 x73 w72) →
((((decide (x73 < ((n66 : Nat) : Int))) = true) →
(∃ a76 : Addr, ((o65 = (some a76)) ∧
((((0 : Int) ≤ x73) ∧
(x73 < ((n66 : Nat) : Int))) ∧
(∃ x77 : Int, (((w72.cell? (Addr.add a76 ((x73).toNat * 1))) = (some (Value.int IntKind.i64 x77))) ∧
(∃ a78 : Addr, ((o28 = (some a78)) ∧
((((0 : Int) ≤ x77) ∧
(x77 < ((n29 : Nat) : Int))) ∧
(∃ o79 : Option Addr, (∃ n80 : Nat, (∃ n81 : Nat, (((w72.cell? (Addr.add a78 ((x77).toNat * 1))) = (some (Value.slice o79 n80 n81))) ∧
(∃ k82 : (Nat → (Int → (World → Prop))), ((∃ n83 : Nat, (k82 n83 0 w72)) ∧
(∀ n84 : Nat, ((Nat → Value) →
(∀ w86 : World, (∀ x87 : Int, ((k82 n84 x87 w86) →
((((decide (x87 < ((n80 : Nat) : Int))) = true) →
(∃ a90 : Addr, ((o79 = (some a90)) ∧
((((0 : Int) ≤ x87) ∧
(x87 < ((n80 : Nat) : Int))) ∧
(∃ x91 : Int, (((w86.cell? (Addr.add a90 ((x87).toNat * 1))) = (some (Value.int IntKind.i64 x91))) ∧
(∀ w92 : World, ((w92 = w86.drew) →
(∃ a94 : Addr, ((o60 = (some a94)) ∧
((((0 : Int) ≤ x77) ∧
(x77 < ((n61 : Nat) : Int))) ∧
(∃ x95 : Int, (((w92.cell? (Addr.add a94 ((x77).toNat * 1))) = (some (Value.int IntKind.i64 x95))) ∧
(∃ a96 : Addr, ((o60 = (some a96)) ∧
((((0 : Int) ≤ x91) ∧
(x91 < ((n61 : Nat) : Int))) ∧
(∃ x97 : Int, (((w92.cell? (Addr.add a96 ((x91).toNat * 1))) = (some (Value.int IntKind.i64 x97))) ∧
(∃ a98 : Addr, ((o60 = (some a98)) ∧
((((0 : Int) ≤ x77) ∧
(x77 < ((n61 : Nat) : Int))) ∧
((Nf.There w92 (Addr.add a98 ((x77).toNat * 1)) 1) ∧
(∀ w99 : World, ((w99 = (Nf.setCells w92 (Addr.add a98 ((x77).toNat * 1)) [(Value.int IntKind.i64 (if (x95 < x97) then x97 else x95))] 0)) →
(∃ n101 : Nat, ((n101 < n84) ∧
(k82 n101 (IntKind.wrap IntKind.i64 (x87 + 1)) w99))))))))))))))))))))))))))) ∧
(((decide (x87 < ((n80 : Nat) : Int))) = false) →
(∃ a103 : Addr, ((o60 = (some a103)) ∧
((((0 : Int) ≤ x77) ∧
(x77 < ((n61 : Nat) : Int))) ∧
(∃ x104 : Int, (((w86.cell? (Addr.add a103 ((x77).toNat * 1))) = (some (Value.int IntKind.i64 x104))) ∧
(∃ a105 : Addr, ((o60 = (some a105)) ∧
((((0 : Int) ≤ x77) ∧
(x77 < ((n61 : Nat) : Int))) ∧
((Nf.There w86 (Addr.add a105 ((x77).toNat * 1)) 1) ∧
(∀ w106 : World, ((w106 = (Nf.setCells w86 (Addr.add a105 ((x77).toNat * 1)) [(Value.int IntKind.i64 (IntKind.wrap IntKind.i64 (x104 + 1)))] 0)) →
(∃ n108 : Nat, ((n108 < n70) ∧
(k68 n108 (IntKind.wrap IntKind.i64 (x73 + 1)) w106)))))))))))))))))))))))))))))))))))) ∧
(((decide (x73 < ((n66 : Nat) : Int))) = false) →
(∃ a110 : Addr, ((o60 = (some a110)) ∧
((((0 : Int) ≤ q) ∧
(q < ((n61 : Nat) : Int))) ∧
(∃ x111 : Int, (((w72.cell? (Addr.add a110 ((q).toNat * 1))) = (some (Value.int IntKind.i64 x111))) ∧
(R (Ending.returned (Value.tuple #[(Value.int IntKind.i64 x111), (Value.int IntKind.i64 0)])) w72))))))))))))))))))))))))))))))))))))))))))))))))))))))))))))))) ∧
((b19 = false) →
(R (Ending.returned (Value.tuple #[(Value.int IntKind.i64 0), (Value.int IntKind.i64 4)])) w18))))))))))))))))) ∧
((b10 = false) →
(R (Ending.returned (Value.tuple #[(Value.int IntKind.i64 0), (Value.int IntKind.i64 1)])) w9))))))))))))))))))) :
    Calls Try.prog 57 #[(.agg #[(.string t_Name), (.int .i64 t_Version), (.slice t_Questions t_Questions_n t_Questions_c)]), (.int .i64 q)] w R :=
  calls_of_vc an57 Try.func57 rfl (by kernel_rfl) (by kernel_rfl) (Eq.mp (by kernel_rfl) h)

/-- samaritan/protocolcheck.nextQuestions -/
def an122 : An := (.seq (.reg []) (.seq (.reg [(3, 1, false)]) (.seq (.seq (.reg []) (.blk (.loop [(15, .int .i64)] (.seq (.reg [(0, 0, true)]) (.seq (.cond .nil .nil) (.seq (.blk (.seq (.reg []) (.seq (.reg []) (.blk (.loop [(23, .int .i64)] (.seq (.reg [(0, 0, true)]) (.seq (.cond .nil .nil) (.seq (.blk (.seq (.reg []) (.regD [(9, 1, false)] [0, 1, 2, 3, 4, 5, 6, 7, 8, 9, 10, 11] [8, 9, 11]))) (.reg []))))))))) (.reg []))))))) (.seq (.reg []) .nil))))
set_option maxRecDepth 100000 in
theorem nf122 (t_Name : ByteArray) (t_Version : Int) (t_Questions : Option Addr) (t_Questions_n : Nat) (t_Questions_c : Nat) (w : World) (R : Ending → World → Prop) (h :
(∀ w1 : World, ((w1 = (w.alloc (Obj.cells #[(Value.string t_Name), (Value.int IntKind.i64 t_Version), (Value.slice t_Questions t_Questions_n t_Questions_c)] 24 (0, 0)))) →
(∃ o3 : Option Addr, (∃ n4 : Nat, (∃ n5 : Nat, (((w1.cell? (⟨(hs w), 2, none⟩ : Addr)) = (some (Value.slice o3 n4 n5))) ∧
(RunOk Try.prog (Nf.Hold (Instr.makeSlice 91 (Value.int IntKind.i64 ((n4 : Nat) : Int)) (Value.int IntKind.i64 ((n4 : Nat) : Int)))) w1 (fun (v6 : Value) => (fun (w7 : World) => (∃ o8 : Option Addr, (∃ n9 : Nat, (∃ n10 : Nat, ((v6 = (Value.slice o8 n9 n10)) ∧
(∃ o11 : Option Addr, (∃ n12 : Nat, (∃ n13 : Nat, (((w7.cell? (⟨(hs w), 2, none⟩ : Addr)) = (some (Value.slice o11 n12 n13))) ∧
(∃ k14 : (Nat → (Int → (World → Prop))), ((∃ n15 : Nat, (k14 n15 0 w7)) ∧
(∀ n16 : Nat, ((Nat → Value) →
(∀ w18 : World, (∀ x19 : Int, ((k14 n16 x19 w18) →
((((decide (x19 < ((n12 : Nat) : Int))) = true) →
(∃ a22 : Addr, ((o11 = (some a22)) ∧
((((0 : Int) ≤ x19) ∧
(x19 < ((n12 : Nat) : Int))) ∧
(∃ s23 : ByteArray, (((w18.cell? (Addr.add a22 ((x19).toNat * 2))) = (some (Value.string s23))) ∧
(∃ o24 : Option Addr, (∃ n25 : Nat, (∃ n26 : Nat, (((w18.cell? (Addr.add (Addr.add a22 ((x19).toNat * 2)) 1)) = (some (Value.slice o24 n25 n26))) ∧
(∀ w27 : World, ((w27 = (w18.alloc (Obj.cells #[(Value.string (ByteArray.mk #[])), (Value.slice none 0 0)] 38 (0, 0)))) →
((Nf.There w27 (⟨(hs w18), 0, none⟩ : Addr) 2) ∧
(∀ w29 : World, ((w29 = (Nf.setCells w27 (⟨(hs w18), 0, none⟩ : Addr) [(Value.string s23), (Value.slice o24 n25 n26)] 0)) →
(∃ o31 : Option Addr, (∃ n32 : Nat, (∃ n33 : Nat, (((w29.cell? (⟨(hs w18), 1, none⟩ : Addr)) = (some (Value.slice o31 n32 n33))) ∧
(∃ k34 : (Nat → (Int → (World → Prop))), ((∃ n35 : Nat, (k34 n35 0 w29)) ∧
(∀ n36 : Nat, ((Nat → Value) →
(∀ w38 : World, (∀ x39 : Int, ((k34 n36 x39 w38) →
((((decide (x39 < ((n32 : Nat) : Int))) = true) →
(∃ a42 : Addr, ((o31 = (some a42)) ∧
((((0 : Int) ≤ x39) ∧
(x39 < ((n32 : Nat) : Int))) ∧
(∃ s43 : ByteArray, (((w38.cell? (Addr.add a42 ((x39).toNat * 4))) = (some (Value.string s43))) ∧
(∃ x44 : Int, (((w38.cell? (Addr.add (Addr.add a42 ((x39).toNat * 4)) 1)) = (some (Value.int IntKind.i64 x44))) ∧
(∃ x45 : Int, (((w38.cell? (Addr.add (Addr.add a42 ((x39).toNat * 4)) 2)) = (some (Value.int IntKind.i64 x45))) ∧
(∃ s46 : ByteArray, (((w38.cell? (Addr.add (Addr.add a42 ((x39).toNat * 4)) 3)) = (some (Value.string s46))) ∧
(∀ w47 : World, ((w47 = (w38.alloc (Obj.cells #[(Value.string (ByteArray.mk #[])), (Value.int IntKind.i64 0), (Value.int IntKind.i64 0), (Value.string (ByteArray.mk #[]))] 58 (0, 0)))) →
((Nf.There w47 (⟨(hs w38), 0, none⟩ : Addr) 4) ∧
(∀ w49 : World, ((w49 = (Nf.setCells w47 (⟨(hs w38), 0, none⟩ : Addr) [(Value.string s43), (Value.int IntKind.i64 x44), (Value.int IntKind.i64 x45), (Value.string s46)] 0)) →
(∀ w51 : World, ((w51 = w49.drew) →
(∃ a53 : Addr, ((o8 = (some a53)) ∧
((((0 : Int) ≤ x19) ∧
(x19 < ((n9 : Nat) : Int))) ∧
(∃ o54 : Option Addr, (∃ n55 : Nat, (∃ n56 : Nat, (((w51.cell? (Addr.add a53 ((x19).toNat * 1))) = (some (Value.slice o54 n55 n56))) ∧
(∃ x57 : Int, (((w51.cell? (⟨(hs w38), 1, none⟩ : Addr)) = (some (Value.int IntKind.i64 x57))) ∧
(∀ w58 : World, ((w58 = (w51.alloc (Obj.cells #[(Value.int IntKind.i64 x57)] 3 (0, 0)))) →
((Nf.Kept w51 w58 (Addr.add a53 ((x19).toNat * 1)) 1) ∧
(RunOk Try.prog (Nf.Hold (Builtin.append_ #[48, 48] 48 #[(Value.slice o54 n55 n56), (Value.slice (some (⟨(hs w51), 0, none⟩ : Addr)) 1 1)])) w58 (fun (v60 : Value) => (fun (w61 : World) => (∃ o62 : Option Addr, (∃ n63 : Nat, (∃ n64 : Nat, ((v60 = (Value.slice o62 n63 n64)) ∧
(∃ a65 : Addr, ((o8 = (some a65)) ∧
((((0 : Int) ≤ x19) ∧
(x19 < ((n9 : Nat) : Int))) ∧
((Nf.There w61 (Addr.add a65 ((x19).toNat * 1)) 1) ∧
(∀ w66 : World, ((w66 = (Nf.setCells w61 (Addr.add a65 ((x19).toNat * 1)) [(Value.slice o62 n63 n64)] 0)) →
(∃ n68 : Nat, ((n68 < n36) ∧
(k34 n68 (IntKind.wrap IntKind.i64 (x39 + 1)) w66))))))))))))))))))))))))))))))))))))))))))))))) ∧
(((decide (x39 < ((n32 : Nat) : Int))) = false) →
(∃ n70 : Nat, ((n70 < n16) ∧
(k14 n70 (IntKind.wrap IntKind.i64 (x19 + 1)) w38))))))))))))))))))))))))))))))) ∧
(((decide (x19 < ((n12 : Nat) : Int))) = false) →
(R (Ending.returned (Value.slice o8 n9 n10)) w18)))))))))))))))))))))))))))) :
    Calls Try.prog 122 #[(.agg #[(.string t_Name), (.int .i64 t_Version), (.slice t_Questions t_Questions_n t_Questions_c)])] w R :=
  calls_of_vc an122 Try.func122 rfl (by kernel_rfl) (by kernel_rfl) (Eq.mp (by kernel_rfl) h)

/-- samaritan/protocolcheck.Paths -/
def an99 : An := (.seq (.reg []) (.seq (.reg []) (.cut [] (.seq (.reg [(1, 0, true)]) (.cond (.reg []) .nil)) (.seq (.reg []) .nil))))
set_option maxRecDepth 100000 in
theorem nf99 (t_Name : ByteArray) (t_Version : Int) (t_Questions : Option Addr) (t_Questions_n : Nat) (t_Questions_c : Nat) (w : World) (R : Ending → World → Prop) (h :
(∀ w1 : World, ((w1 = (w.alloc (Obj.cells #[(Value.string t_Name), (Value.int IntKind.i64 t_Version), (Value.slice t_Questions t_Questions_n t_Questions_c)] 24 (0, 0)))) →
(∀ w3 : World, ((w3 = (w1.alloc (Obj.cells #[(Value.slice none 0 0)] 91 (0, 0)))) →
(∀ k5 : (World → Prop), ((∀ w7 : World, (((Nat → Value) →
(R (Ending.returned (Value.func (Fn.func 123) #[] #[(Value.pointer (some (⟨(hs w1), 0, none⟩ : Addr)))])) w7)) →
(k5 w7))) →
(∃ s10 : ByteArray, (((w3.cell? (⟨(hs w), 0, none⟩ : Addr)) = (some (Value.string s10))) ∧
(∃ x11 : Int, (((w3.cell? (⟨(hs w), 1, none⟩ : Addr)) = (some (Value.int IntKind.i64 x11))) ∧
(∃ o12 : Option Addr, (∃ n13 : Nat, (∃ n14 : Nat, (((w3.cell? (⟨(hs w), 2, none⟩ : Addr)) = (some (Value.slice o12 n13 n14))) ∧
(Calls Try.prog 101 #[(Value.agg #[(Value.string s10), (Value.int IntKind.i64 x11), (Value.slice o12 n13 n14)])] w3 (fun (e15 : Ending) => (fun (w16 : World) => (∃ b17 : Bool, ((e15 = (Ending.returned (Value.bool b17))) ∧
(((b17 = true) →
(∃ s19 : ByteArray, (((w16.cell? (⟨(hs w), 0, none⟩ : Addr)) = (some (Value.string s19))) ∧
(∃ x20 : Int, (((w16.cell? (⟨(hs w), 1, none⟩ : Addr)) = (some (Value.int IntKind.i64 x20))) ∧
(∃ o21 : Option Addr, (∃ n22 : Nat, (∃ n23 : Nat, (((w16.cell? (⟨(hs w), 2, none⟩ : Addr)) = (some (Value.slice o21 n22 n23))) ∧
(Calls Try.prog 122 #[(Value.agg #[(Value.string s19), (Value.int IntKind.i64 x20), (Value.slice o21 n22 n23)])] w16 (fun (e24 : Ending) => (fun (w25 : World) => (∃ o26 : Option Addr, (∃ n27 : Nat, (∃ n28 : Nat, ((e24 = (Ending.returned (Value.slice o26 n27 n28))) ∧
((Nf.There w25 (⟨(hs w1), 0, none⟩ : Addr) 1) ∧
(∀ w29 : World, ((w29 = (Nf.setCells w25 (⟨(hs w1), 0, none⟩ : Addr) [(Value.slice o26 n27 n28)] 0)) →
(k5 w29)))))))))))))))))))) ∧
((b17 = false) →
(k5 w16))))))))))))))))))))))) :
    Calls Try.prog 99 #[(.agg #[(.string t_Name), (.int .i64 t_Version), (.slice t_Questions t_Questions_n t_Questions_c)])] w R :=
  calls_of_vc an99 Try.func99 rfl (by kernel_rfl) (by kernel_rfl) (Eq.mp (by kernel_rfl) h)

/-- samaritan/protocolcheck.Paths$1$1 -/
def an124 : An := (.seq (.reg []) (.seq (.seq (.reg []) (.blk (.loop [(14, .int .i64)] (.seq (.reg [(0, 0, true)]) (.seq (.cond .nil .nil) (.seq (.blk (.seq (.reg []) (.seq (.reg [(3, 1, false)]) (.seq (.seq (.regD [(1, 0, true), (6, 1, true), (11, 0, true), (15, 1, true)] [0, 1, 2, 3, 4, 5, 6, 7, 8, 9, 10, 11, 12, 13, 14, 15, 16, 17, 18] [5, 6, 15]) (.cond (.seq (.reg []) .nil) .nil)) (.reg [(4, 2, false)]))))) (.reg []))))))) (.seq (.reg []) .nil)))
set_option maxRecDepth 100000 in
theorem nf124 (q : Int) (c0 : Nat) (c1 : Nat) (c2 : Nat) (c3 : Nat) (w : World) (R : Ending → World → Prop) (h :
(∃ o1 : Option Addr, (∃ n2 : Nat, (∃ n3 : Nat, (((w.cell? (⟨c0, 0, none⟩ : Addr)) = (some (Value.slice o1 n2 n3))) ∧
(∃ a4 : Addr, ((o1 = (some a4)) ∧
((((0 : Int) ≤ q) ∧
(q < ((n2 : Nat) : Int))) ∧
(∃ o5 : Option Addr, (∃ n6 : Nat, (∃ n7 : Nat, (((w.cell? (Addr.add a4 ((q).toNat * 1))) = (some (Value.slice o5 n6 n7))) ∧
(∃ k8 : (Nat → (Int → (World → Prop))), ((∃ n9 : Nat, (k8 n9 0 w)) ∧
(∀ n10 : Nat, ((Nat → Value) →
(∀ w12 : World, (∀ x13 : Int, ((k8 n10 x13 w12) →
((((decide (x13 < ((n6 : Nat) : Int))) = true) →
(∃ a16 : Addr, ((o5 = (some a16)) ∧
((((0 : Int) ≤ x13) ∧
(x13 < ((n6 : Nat) : Int))) ∧
(∃ x17 : Int, (((w12.cell? (Addr.add a16 ((x13).toNat * 1))) = (some (Value.int IntKind.i64 x17))) ∧
(∃ o18 : Option Addr, (∃ n19 : Nat, (∃ n20 : Nat, (((w12.cell? (⟨c1, 0, none⟩ : Addr)) = (some (Value.slice o18 n19 n20))) ∧
(∀ w21 : World, ((w21 = (w12.alloc (Obj.cells #[(Value.int IntKind.i64 x13)] 3 (0, 0)))) →
(RunOk Try.prog (Nf.Hold (Builtin.append_ #[48, 48] 48 #[(Value.slice o18 n19 n20), (Value.slice (some (⟨(hs w12), 0, none⟩ : Addr)) 1 1)])) w21 (fun (v23 : Value) => (fun (w24 : World) => (∃ o25 : Option Addr, (∃ n26 : Nat, (∃ n27 : Nat, ((v23 = (Value.slice o25 n26 n27)) ∧
((Nf.There w24 (⟨c1, 0, none⟩ : Addr) 1) ∧
(∀ w28 : World, ((w28 = (Nf.setCells w24 (⟨c1, 0, none⟩ : Addr) [(Value.slice o25 n26 n27)] 0)) →
(∀ w30 : World, ((w30 = w28.drew) →
((((decide (x17 < 0)) = true) →
(∃ f33 : Fn, (∃ a34 : Array Value, (∃ a35 : Array Value, (((w30.cell? (⟨c2, 0, none⟩ : Addr)) = (some (Value.func f33 a34 a35))) ∧
(∃ o36 : Option Addr, (∃ n37 : Nat, (∃ n38 : Nat, (((w30.cell? (⟨c1, 0, none⟩ : Addr)) = (some (Value.slice o36 n37 n38))) ∧
(Calls Try.prog 81 #[(Value.slice o36 n37 n38)] w30 (fun (e39 : Ending) => (fun (w40 : World) => (∃ o41 : Option Addr, (∃ n42 : Nat, (∃ n43 : Nat, ((e39 = (Ending.returned (Value.slice o41 n42 n43))) ∧
((Nf.Kept w30 w40 (⟨c2, 0, none⟩ : Addr) 1) ∧
(CallsV Try.prog (Value.func f33 a34 a35) [(Value.slice o41 n42 n43)] w40 (fun (e44 : Ending) => (fun (w45 : World) => (∃ b46 : Bool, ((e44 = (Ending.returned (Value.bool b46))) ∧
(((b46 = true) →
((((decide (x17 ≥ 0)) = true) →
(∃ f49 : Fn, (∃ a50 : Array Value, (∃ a51 : Array Value, (((w45.cell? (⟨c3, 0, none⟩ : Addr)) = (some (Value.func f49 a50 a51))) ∧
(CallsV Try.prog (Value.func f49 a50 a51) [(Value.int IntKind.i64 x17)] w45 (fun (e52 : Ending) => (fun (w53 : World) => (∃ b54 : Bool, ((e52 = (Ending.returned (Value.bool b54))) ∧
(((b54 = true) →
(∃ o56 : Option Addr, (∃ n57 : Nat, (∃ n58 : Nat, (((w53.cell? (⟨c1, 0, none⟩ : Addr)) = (some (Value.slice o56 n57 n58))) ∧
(∃ o59 : Option Addr, (∃ n60 : Nat, (∃ n61 : Nat, (((w53.cell? (⟨c1, 0, none⟩ : Addr)) = (some (Value.slice o59 n60 n61))) ∧
((((0 : Int) ≤ (IntKind.wrap IntKind.i64 (((n60 : Nat) : Int) - 1))) ∧
((IntKind.wrap IntKind.i64 (((n60 : Nat) : Int) - 1)) ≤ ((n58 : Nat) : Int))) ∧
((Nf.There w53 (⟨c1, 0, none⟩ : Addr) 1) ∧
(∀ w62 : World, ((w62 = (Nf.setCells w53 (⟨c1, 0, none⟩ : Addr) [(Value.slice (if (n58 = 0) then o56 else (Option.map (fun (x : Addr) => x) o56)) (((IntKind.wrap IntKind.i64 (((n60 : Nat) : Int) - 1))).toNat - 0) (n58 - 0))] 0)) →
(∃ n64 : Nat, ((n64 < n10) ∧
(k8 n64 (IntKind.wrap IntKind.i64 (x13 + 1)) w62)))))))))))))))) ∧
((b54 = false) →
(R (Ending.returned (Value.bool false)) w53))))))))))))) ∧
(((decide (x17 ≥ 0)) = false) →
(∃ o67 : Option Addr, (∃ n68 : Nat, (∃ n69 : Nat, (((w45.cell? (⟨c1, 0, none⟩ : Addr)) = (some (Value.slice o67 n68 n69))) ∧
(∃ o70 : Option Addr, (∃ n71 : Nat, (∃ n72 : Nat, (((w45.cell? (⟨c1, 0, none⟩ : Addr)) = (some (Value.slice o70 n71 n72))) ∧
((((0 : Int) ≤ (IntKind.wrap IntKind.i64 (((n71 : Nat) : Int) - 1))) ∧
((IntKind.wrap IntKind.i64 (((n71 : Nat) : Int) - 1)) ≤ ((n69 : Nat) : Int))) ∧
((Nf.There w45 (⟨c1, 0, none⟩ : Addr) 1) ∧
(∀ w73 : World, ((w73 = (Nf.setCells w45 (⟨c1, 0, none⟩ : Addr) [(Value.slice (if (n69 = 0) then o67 else (Option.map (fun (x : Addr) => x) o67)) (((IntKind.wrap IntKind.i64 (((n71 : Nat) : Int) - 1))).toNat - 0) (n69 - 0))] 0)) →
(∃ n75 : Nat, ((n75 < n10) ∧
(k8 n75 (IntKind.wrap IntKind.i64 (x13 + 1)) w73)))))))))))))))))) ∧
((b46 = false) →
(R (Ending.returned (Value.bool false)) w45))))))))))))))))))))))))) ∧
(((decide (x17 < 0)) = false) →
((((decide (x17 ≥ 0)) = true) →
(∃ f79 : Fn, (∃ a80 : Array Value, (∃ a81 : Array Value, (((w30.cell? (⟨c3, 0, none⟩ : Addr)) = (some (Value.func f79 a80 a81))) ∧
(CallsV Try.prog (Value.func f79 a80 a81) [(Value.int IntKind.i64 x17)] w30 (fun (e82 : Ending) => (fun (w83 : World) => (∃ b84 : Bool, ((e82 = (Ending.returned (Value.bool b84))) ∧
(((b84 = true) →
(∃ o86 : Option Addr, (∃ n87 : Nat, (∃ n88 : Nat, (((w83.cell? (⟨c1, 0, none⟩ : Addr)) = (some (Value.slice o86 n87 n88))) ∧
(∃ o89 : Option Addr, (∃ n90 : Nat, (∃ n91 : Nat, (((w83.cell? (⟨c1, 0, none⟩ : Addr)) = (some (Value.slice o89 n90 n91))) ∧
((((0 : Int) ≤ (IntKind.wrap IntKind.i64 (((n90 : Nat) : Int) - 1))) ∧
((IntKind.wrap IntKind.i64 (((n90 : Nat) : Int) - 1)) ≤ ((n88 : Nat) : Int))) ∧
((Nf.There w83 (⟨c1, 0, none⟩ : Addr) 1) ∧
(∀ w92 : World, ((w92 = (Nf.setCells w83 (⟨c1, 0, none⟩ : Addr) [(Value.slice (if (n88 = 0) then o86 else (Option.map (fun (x : Addr) => x) o86)) (((IntKind.wrap IntKind.i64 (((n90 : Nat) : Int) - 1))).toNat - 0) (n88 - 0))] 0)) →
(∃ n94 : Nat, ((n94 < n10) ∧
(k8 n94 (IntKind.wrap IntKind.i64 (x13 + 1)) w92)))))))))))))))) ∧
((b84 = false) →
(R (Ending.returned (Value.bool false)) w83))))))))))))) ∧
(((decide (x17 ≥ 0)) = false) →
(∃ o97 : Option Addr, (∃ n98 : Nat, (∃ n99 : Nat, (((w30.cell? (⟨c1, 0, none⟩ : Addr)) = (some (Value.slice o97 n98 n99))) ∧
(∃ o100 : Option Addr, (∃ n101 : Nat, (∃ n102 : Nat, (((w30.cell? (⟨c1, 0, none⟩ : Addr)) = (some (Value.slice o100 n101 n102))) ∧
((((0 : Int) ≤ (IntKind.wrap IntKind.i64 (((n101 : Nat) : Int) - 1))) ∧
((IntKind.wrap IntKind.i64 (((n101 : Nat) : Int) - 1)) ≤ ((n99 : Nat) : Int))) ∧
((Nf.There w30 (⟨c1, 0, none⟩ : Addr) 1) ∧
(∀ w103 : World, ((w103 = (Nf.setCells w30 (⟨c1, 0, none⟩ : Addr) [(Value.slice (if (n99 = 0) then o97 else (Option.map (fun (x : Addr) => x) o97)) (((IntKind.wrap IntKind.i64 (((n101 : Nat) : Int) - 1))).toNat - 0) (n99 - 0))] 0)) →
(∃ n105 : Nat, ((n105 < n10) ∧
(k8 n105 (IntKind.wrap IntKind.i64 (x13 + 1)) w103))))))))))))))))))))))))))))))))))))))))))) ∧
(((decide (x13 < ((n6 : Nat) : Int))) = false) →
(R (Ending.returned (Value.bool true)) w12)))))))))))))))))))))) :
    Calls Try.prog 124 #[(.int .i64 q), (.pointer (some ⟨c0, 0, none⟩)), (.pointer (some ⟨c1, 0, none⟩)), (.pointer (some ⟨c2, 0, none⟩)), (.pointer (some ⟨c3, 0, none⟩))] w R :=
  calls_of_vc an124 Try.func124 rfl (by kernel_rfl) (by kernel_rfl) (Eq.mp (by kernel_rfl) h)

/-- samaritan/protocolcheck.Paths$1 -/
def an123 : An := (.seq (.reg []) (.seq (.reg []) (.seq (.reg []) (.seq (.reg []) (.seq (.reg [(1, 3, true)]) (.cond (.reg [(1, 1, true)]) .nil))))))
set_option maxRecDepth 100000 in
theorem nf123 (yield_f : Fn) (yield_a : Array Value) (yield_c : Array Value) (c0 : Nat) (w : World) (R : Ending → World → Prop) (h :
(∀ w1 : World, ((w1 = (w.alloc (Obj.cells #[(Value.func yield_f yield_a yield_c)] 160 (0, 0)))) →
(∀ w3 : World, ((w3 = (w1.alloc (Obj.cells #[(Value.slice none 0 0)] 48 (0, 0)))) →
(∀ w5 : World, ((w5 = (w3.alloc (Obj.cells #[Value.nilFunc] 152 (0, 0)))) →
((Nf.There w5 (⟨(hs w3), 0, none⟩ : Addr) 1) ∧
(∀ w7 : World, ((w7 = (Nf.setCells w5 (⟨(hs w3), 0, none⟩ : Addr) [(Value.func (Fn.func 124) #[] #[(Value.pointer (some (⟨c0, 0, none⟩ : Addr))), (Value.pointer (some (⟨(hs w1), 0, none⟩ : Addr))), (Value.pointer (some (⟨(hs w), 0, none⟩ : Addr))), (Value.pointer (some (⟨(hs w3), 0, none⟩ : Addr)))])] 0)) →
(∃ o9 : Option Addr, (∃ n10 : Nat, (∃ n11 : Nat, (((w7.cell? (⟨c0, 0, none⟩ : Addr)) = (some (Value.slice o9 n10 n11))) ∧
((((!(Option.isNone o9)) = true) →
(∃ f13 : Fn, (∃ a14 : Array Value, (∃ a15 : Array Value, (((w7.cell? (⟨(hs w3), 0, none⟩ : Addr)) = (some (Value.func f13 a14 a15))) ∧
(CallsV Try.prog (Value.func f13 a14 a15) [(Value.int IntKind.i64 0)] w7 (fun (e16 : Ending) => (fun (w17 : World) => (∃ b18 : Bool, ((e16 = (Ending.returned (Value.bool b18))) ∧
(((b18 = true) →
(R (Ending.returned (Value.tuple #[])) w17)) ∧
((b18 = false) →
(R (Ending.returned (Value.tuple #[])) w17))))))))))))) ∧
(((!(Option.isNone o9)) = false) →
(R (Ending.returned (Value.tuple #[])) w7))))))))))))))))) :
    Calls Try.prog 123 #[(.func yield_f yield_a yield_c), (.pointer (some ⟨c0, 0, none⟩))] w R :=
  calls_of_vc an123 Try.func123 rfl (by kernel_rfl) (by kernel_rfl) (Eq.mp (by kernel_rfl) h)

/-- samaritan/protocolcheck.CountPaths -/
def an63 : An := (.seq (.reg []) (.seq (.seq (.reg [(1, 0, true)]) (.cond (.seq (.reg []) .nil) .nil)) (.seq (.reg [(3, 1, false)]) (.seq (.seq (.reg []) (.blk (.loop [(20, .int .i64)] (.seq (.reg [(0, 0, true)]) (.seq (.cond .nil .nil) (.seq (.blk (.seq (.reg []) (.seq (.reg []) (.blk (.loop [(31, .int .i64)] (.seq (.reg [(0, 0, true)]) (.seq (.cond .nil .nil) (.seq (.blk (.seq (.reg []) (.seq (.reg []) (.cut [(8, .int .i64)] (.seq (.reg [(2, 0, true)]) (.cond (.reg []) .nil)) (.reg []))))) (.reg []))))))))) (.reg []))))))) (.seq (.reg []) .nil)))))
set_option maxRecDepth 100000 in
theorem nf63 (t_Name : ByteArray) (t_Version : Int) (t_Questions : Option Addr) (t_Questions_n : Nat) (t_Questions_c : Nat) (w : World) (R : Ending → World → Prop) (h :
(∀ w1 : World, ((w1 = (w.alloc (Obj.cells #[(Value.string t_Name), (Value.int IntKind.i64 t_Version), (Value.slice t_Questions t_Questions_n t_Questions_c)] 24 (0, 0)))) →
(∃ s3 : ByteArray, (((w1.cell? (⟨(hs w), 0, none⟩ : Addr)) = (some (Value.string s3))) ∧
(∃ x4 : Int, (((w1.cell? (⟨(hs w), 1, none⟩ : Addr)) = (some (Value.int IntKind.i64 x4))) ∧
(∃ o5 : Option Addr, (∃ n6 : Nat, (∃ n7 : Nat, (((w1.cell? (⟨(hs w), 2, none⟩ : Addr)) = (some (Value.slice o5 n6 n7))) ∧
(Calls Try.prog 101 #[(Value.agg #[(Value.string s3), (Value.int IntKind.i64 x4), (Value.slice o5 n6 n7)])] w1 (fun (e8 : Ending) => (fun (w9 : World) => (∃ b10 : Bool, ((e8 = (Ending.returned (Value.bool b10))) ∧
(((b10 = true) →
(∃ o12 : Option Addr, (∃ n13 : Nat, (∃ n14 : Nat, (((w9.cell? (⟨(hs w), 2, none⟩ : Addr)) = (some (Value.slice o12 n13 n14))) ∧
(RunOk Try.prog (Nf.Hold (Instr.makeSlice 142 (Value.int IntKind.i64 ((n13 : Nat) : Int)) (Value.int IntKind.i64 ((n13 : Nat) : Int)))) w9 (fun (v15 : Value) => (fun (w16 : World) => (∃ o17 : Option Addr, (∃ n18 : Nat, (∃ n19 : Nat, ((v15 = (Value.slice o17 n18 n19)) ∧
(∃ s20 : ByteArray, (((w16.cell? (⟨(hs w), 0, none⟩ : Addr)) = (some (Value.string s20))) ∧
(∃ x21 : Int, (((w16.cell? (⟨(hs w), 1, none⟩ : Addr)) = (some (Value.int IntKind.i64 x21))) ∧
(∃ o22 : Option Addr, (∃ n23 : Nat, (∃ n24 : Nat, (((w16.cell? (⟨(hs w), 2, none⟩ : Addr)) = (some (Value.slice o22 n23 n24))) ∧
(Calls Try.prog 94 #[(Value.agg #[(Value.string s20), (Value.int IntKind.i64 x21), (Value.slice o22 n23 n24)])] w16 (fun (e25 : Ending) => (fun (w26 : World) => (∃ o27 : Option Addr, (∃ n28 : Nat, (∃ n29 : Nat, ((e25 = (Ending.returned (Value.slice o27 n28 n29))) ∧
(Calls Try.prog 98 #[(Value.slice o27 n28 n29), (Value.int IntKind.i64 0)] w26 (fun (e30 : Ending) => (fun (w31 : World) => (∃ o32 : Option Addr, (∃ n33 : Nat, (∃ n34 : Nat, ((e30 = (Ending.returned (Value.slice o32 n33 n34))) ∧
(∃ k35 : (Nat → (Int → (World → Prop))), ((∃ n36 : Nat, (k35 n36 0 w31)) ∧
(∀ n37 : Nat, ((Nat → Value) →
(∀ w39 : World, (∀ x40 : Int, ((k35 n37 x40 w39) →
((((decide (x40 < ((n33 : Nat) : Int))) = true) →
(∃ a43 : Addr, ((o32 = (some a43)) ∧
((((0 : Int) ≤ x40) ∧
(x40 < ((n33 : Nat) : Int))) ∧
(∃ x44 : Int, (((w39.cell? (Addr.add a43 ((x40).toNat * 1))) = (some (Value.int IntKind.i64 x44))) ∧
(∃ o45 : Option Addr, (∃ n46 : Nat, (∃ n47 : Nat, (((w39.cell? (⟨(hs w), 2, none⟩ : Addr)) = (some (Value.slice o45 n46 n47))) ∧
(∃ a48 : Addr, ((o45 = (some a48)) ∧
((((0 : Int) ≤ x44) ∧
(x44 < ((n46 : Nat) : Int))) ∧
(∃ o49 : Option Addr, (∃ n50 : Nat, (∃ n51 : Nat, (((w39.cell? (Addr.add (Addr.add a48 ((x44).toNat * 2)) 1)) = (some (Value.slice o49 n50 n51))) ∧
(∃ k52 : (Nat → (Int → (World → Prop))), ((∃ n53 : Nat, (k52 n53 0 w39)) ∧
(∀ n54 : Nat, ((Nat → Value) →
(∀ w56 : World, (∀ x57 : Int, ((k52 n54 x57 w56) →
((((decide (x57 < ((n50 : Nat) : Int))) = true) →
(∃ a60 : Addr, ((o49 = (some a60)) ∧
((((0 : Int) ≤ x57) ∧
(x57 < ((n50 : Nat) : Int))) ∧
(∃ s61 : ByteArray, (((w56.cell? (Addr.add a60 ((x57).toNat * 4))) = (some (Value.string s61))) ∧
(∃ x62 : Int, (((w56.cell? (Addr.add (Addr.add a60 ((x57).toNat * 4)) 1)) = (some (Value.int IntKind.i64 x62))) ∧
(∃ x63 : Int, (((w56.cell? (Addr.add (Addr.add a60 ((x57).toNat * 4)) 2)) = (some (Value.int IntKind.i64 x63))) ∧
(∃ s64 : ByteArray, (((w56.cell? (Addr.add (Addr.add a60 ((x57).toNat * 4)) 3)) = (some (Value.string s64))) ∧
(∀ w65 : World, ((w65 = (w56.alloc (Obj.cells #[(Value.string (ByteArray.mk #[])), (Value.int IntKind.i64 0), (Value.int IntKind.i64 0), (Value.string (ByteArray.mk #[]))] 58 (0, 0)))) →
((Nf.There w65 (⟨(hs w56), 0, none⟩ : Addr) 4) ∧
(∀ w67 : World, ((w67 = (Nf.setCells w65 (⟨(hs w56), 0, none⟩ : Addr) [(Value.string s61), (Value.int IntKind.i64 x62), (Value.int IntKind.i64 x63), (Value.string s64)] 0)) →
(∀ k69 : (Int → (World → Prop)), ((∀ w71 : World, (∀ x72 : Int, (((Nat → Value) →
(∃ a75 : Addr, ((o17 = (some a75)) ∧
((((0 : Int) ≤ x44) ∧
(x44 < ((n18 : Nat) : Int))) ∧
(∃ x76 : Int, (((w71.cell? (Addr.add a75 ((x44).toNat * 1))) = (some (Value.int IntKind.i64 x76))) ∧
(∃ a77 : Addr, ((o17 = (some a77)) ∧
((((0 : Int) ≤ x44) ∧
(x44 < ((n18 : Nat) : Int))) ∧
((Nf.There w71 (Addr.add a77 ((x44).toNat * 1)) 1) ∧
(∀ w78 : World, ((w78 = (Nf.setCells w71 (Addr.add a77 ((x44).toNat * 1)) [(Value.int IntKind.i64 (IntKind.wrap IntKind.i64 ((if ((IntKind.wrap IntKind.i64 (4611686018427387904 - x72)) < x76) then (IntKind.wrap IntKind.i64 (4611686018427387904 - x72)) else x76) + x72)))] 0)) →
(∃ n80 : Nat, ((n80 < n54) ∧
(k52 n80 (IntKind.wrap IntKind.i64 (x57 + 1)) w78))))))))))))))) →
(k69 x72 w71)))) →
(∃ x81 : Int, (((w67.cell? (⟨(hs w56), 1, none⟩ : Addr)) = (some (Value.int IntKind.i64 x81))) ∧
((((decide (x81 ≥ 0)) = true) →
(∃ x83 : Int, (((w67.cell? (⟨(hs w56), 1, none⟩ : Addr)) = (some (Value.int IntKind.i64 x83))) ∧
(∃ a84 : Addr, ((o17 = (some a84)) ∧
((((0 : Int) ≤ x83) ∧
(x83 < ((n18 : Nat) : Int))) ∧
(∃ x85 : Int, (((w67.cell? (Addr.add a84 ((x83).toNat * 1))) = (some (Value.int IntKind.i64 x85))) ∧
(k69 x85 w67))))))))) ∧
(((decide (x81 ≥ 0)) = false) →
(k69 1 w67)))))))))))))))))))))))) ∧
(((decide (x57 < ((n50 : Nat) : Int))) = false) →
(∃ n88 : Nat, ((n88 < n37) ∧
(k35 n88 (IntKind.wrap IntKind.i64 (x40 + 1)) w56))))))))))))))))))))))))))))) ∧
(((decide (x40 < ((n33 : Nat) : Int))) = false) →
(∃ a90 : Addr, ((o17 = (some a90)) ∧
((((0 : Int) ≤ 0) ∧
(0 < ((n18 : Nat) : Int))) ∧
(∃ x91 : Int, (((w39.cell? a90) = (some (Value.int IntKind.i64 x91))) ∧
(R (Ending.returned (Value.int IntKind.i64 x91)) w39))))))))))))))))))))))))))))))))))))))))))))))))) ∧
((b10 = false) →
(R (Ending.returned (Value.int IntKind.i64 0)) w9))))))))))))))))))) :
    Calls Try.prog 63 #[(.agg #[(.string t_Name), (.int .i64 t_Version), (.slice t_Questions t_Questions_n t_Questions_c)])] w R :=
  calls_of_vc an63 Try.func63 rfl (by kernel_rfl) (by kernel_rfl) (Eq.mp (by kernel_rfl) h)

/-- samaritan/samaritanref13.Count -/
def an64 : An := (.seq (.reg []) (.seq (.reg []) (.seq (.seq (.reg [(1, 0, true)]) (.cond (.seq (.reg []) .nil) .nil)) (.seq (.reg [(3, 1, false)]) (.seq (.seq (.reg []) (.blk (.loop [(6, .int .i64)] (.seq (.seq (.reg [(3, 0, true)]) (.cond .nil .nil)) (.seq (.blk (.seq (.reg []) (.blk (.loop [(7, .int .i64)] (.seq (.seq (.reg [(3, 0, true)]) (.cond .nil .nil)) (.seq (.blk (.seq (.reg []) (.seq (.reg []) (.blk (.loop [(8, .int .i64)] (.seq (.seq (.reg [(8, 0, true)]) (.cond .nil .nil)) (.cut [] (.blk (.seq (.reg []) (.seq (.reg [(2, 0, true)]) (.cond (.reg []) (.regD [] [0, 1, 2, 3, 4, 5, 6, 7, 8, 9, 10, 11, 12, 13] [11, 13]))))) (.reg [])))))))) (.reg []))))))) (.reg [])))))) (.seq (.reg []) .nil))))))
set_option maxRecDepth 100000 in
theorem nf64 (t_Name : ByteArray) (t_Version : Int) (t_Questions : Option Addr) (t_Questions_n : Nat) (t_Questions_c : Nat) (w : World) (R : Ending → World → Prop) (h :
(∀ w1 : World, ((w1 = (w.alloc (Obj.cells #[(Value.string t_Name), (Value.int IntKind.i64 t_Version), (Value.slice t_Questions t_Questions_n t_Questions_c)] 24 (0, 0)))) →
(∃ s3 : ByteArray, (((w1.cell? (⟨(hs w), 0, none⟩ : Addr)) = (some (Value.string s3))) ∧
(∃ x4 : Int, (((w1.cell? (⟨(hs w), 1, none⟩ : Addr)) = (some (Value.int IntKind.i64 x4))) ∧
(∃ o5 : Option Addr, (∃ n6 : Nat, (∃ n7 : Nat, (((w1.cell? (⟨(hs w), 2, none⟩ : Addr)) = (some (Value.slice o5 n6 n7))) ∧
(Calls Try.prog 31 #[(Value.agg #[(Value.string s3), (Value.int IntKind.i64 x4), (Value.slice o5 n6 n7)])] w1 (fun (e8 : Ending) => (fun (w9 : World) => (∃ x10 : Int, (∃ x11 : Int, ((e8 = (Ending.returned (Value.tuple #[(Value.int IntKind.i64 x10), (Value.int IntKind.i64 x11)]))) ∧
((((!(decide (x11 = 0))) = true) →
(R (Ending.returned (Value.int IntKind.i64 0)) w9)) ∧
(((!(decide (x11 = 0))) = false) →
(∃ o14 : Option Addr, (∃ n15 : Nat, (∃ n16 : Nat, (((w9.cell? (⟨(hs w), 2, none⟩ : Addr)) = (some (Value.slice o14 n15 n16))) ∧
(RunOk Try.prog (Nf.Hold (Instr.makeSlice 142 (Value.int IntKind.i64 ((n15 : Nat) : Int)) (Value.int IntKind.i64 ((n15 : Nat) : Int)))) w9 (fun (v17 : Value) => (fun (w18 : World) => (∃ o19 : Option Addr, (∃ n20 : Nat, (∃ n21 : Nat, ((v17 = (Value.slice o19 n20 n21)) ∧
(∃ k22 : (Nat → (Int → (World → Prop))), ((∃ n23 : Nat, (k22 n23 0 w18)) ∧
(∀ n24 : Nat, ((Nat → Value) →
(∀ w26 : World, (∀ x27 : Int, ((k22 n24 x27 w26) →
((((decide (x27 < ((n20 : Nat) : Int))) = true) →
(∃ k30 : (Nat → (Int → (World → Prop))), ((∃ n31 : Nat, (k30 n31 0 w26)) ∧
(∀ n32 : Nat, ((Nat → Value) →
(∀ w34 : World, (∀ x35 : Int, ((k30 n32 x35 w34) →
((((decide (x35 < ((n20 : Nat) : Int))) = true) →
(∃ a38 : Addr, ((o19 = (some a38)) ∧
((((0 : Int) ≤ x35) ∧
(x35 < ((n20 : Nat) : Int))) ∧
((Nf.There w34 (Addr.add a38 ((x35).toNat * 1)) 1) ∧
(∀ w39 : World, ((w39 = (Nf.setCells w34 (Addr.add a38 ((x35).toNat * 1)) [(Value.int IntKind.i64 0)] 0)) →
(∃ k41 : (Nat → (Int → (World → Prop))), ((∃ n42 : Nat, (k41 n42 0 w39)) ∧
(∀ n43 : Nat, ((Nat → Value) →
(∀ w45 : World, (∀ x46 : Int, ((k41 n43 x46 w45) →
(∃ o48 : Option Addr, (∃ n49 : Nat, (∃ n50 : Nat, (((w45.cell? (⟨(hs w), 2, none⟩ : Addr)) = (some (Value.slice o48 n49 n50))) ∧
(∃ a51 : Addr, ((o48 = (some a51)) ∧
((((0 : Int) ≤ x35) ∧
(x35 < ((n49 : Nat) : Int))) ∧
(∃ o52 : Option Addr, (∃ n53 : Nat, (∃ n54 : Nat, (((w45.cell? (Addr.add (Addr.add a51 ((x35).toNat * 2)) 1)) = (some (Value.slice o52 n53 n54))) ∧
((((decide (x46 < ((n53 : Nat) : Int))) = true) →
(∀ k56 : (World → Prop), ((∀ w58 : World, (((Nat → Value) →
(∃ n61 : Nat, ((n61 < n43) ∧
(k41 n61 (IntKind.wrap IntKind.i64 (x46 + 1)) w58)))) →
(k56 w58))) →
(∃ o62 : Option Addr, (∃ n63 : Nat, (∃ n64 : Nat, (((w45.cell? (⟨(hs w), 2, none⟩ : Addr)) = (some (Value.slice o62 n63 n64))) ∧
(∃ a65 : Addr, ((o62 = (some a65)) ∧
((((0 : Int) ≤ x35) ∧
(x35 < ((n63 : Nat) : Int))) ∧
(∃ o66 : Option Addr, (∃ n67 : Nat, (∃ n68 : Nat, (((w45.cell? (Addr.add (Addr.add a65 ((x35).toNat * 2)) 1)) = (some (Value.slice o66 n67 n68))) ∧
(∃ a69 : Addr, ((o66 = (some a69)) ∧
((((0 : Int) ≤ x46) ∧
(x46 < ((n67 : Nat) : Int))) ∧
(∃ s70 : ByteArray, (((w45.cell? (Addr.add a69 ((x46).toNat * 4))) = (some (Value.string s70))) ∧
(∃ x71 : Int, (((w45.cell? (Addr.add (Addr.add a69 ((x46).toNat * 4)) 1)) = (some (Value.int IntKind.i64 x71))) ∧
(∃ x72 : Int, (((w45.cell? (Addr.add (Addr.add a69 ((x46).toNat * 4)) 2)) = (some (Value.int IntKind.i64 x72))) ∧
(∃ s73 : ByteArray, (((w45.cell? (Addr.add (Addr.add a69 ((x46).toNat * 4)) 3)) = (some (Value.string s73))) ∧
(∀ w74 : World, ((w74 = (w45.alloc (Obj.cells #[(Value.string (ByteArray.mk #[])), (Value.int IntKind.i64 0), (Value.int IntKind.i64 0), (Value.string (ByteArray.mk #[]))] 58 (0, 0)))) →
((Nf.There w74 (⟨(hs w45), 0, none⟩ : Addr) 4) ∧
(∀ w76 : World, ((w76 = (Nf.setCells w74 (⟨(hs w45), 0, none⟩ : Addr) [(Value.string s70), (Value.int IntKind.i64 x71), (Value.int IntKind.i64 x72), (Value.string s73)] 0)) →
(∃ x78 : Int, (((w76.cell? (⟨(hs w45), 1, none⟩ : Addr)) = (some (Value.int IntKind.i64 x78))) ∧
((((decide (x78 = (-1))) = true) →
(∃ a80 : Addr, ((o19 = (some a80)) ∧
((((0 : Int) ≤ x35) ∧
(x35 < ((n20 : Nat) : Int))) ∧
(∃ x81 : Int, (((w76.cell? (Addr.add a80 ((x35).toNat * 1))) = (some (Value.int IntKind.i64 x81))) ∧
(Calls Try.prog 102 #[(Value.int IntKind.i64 x81), (Value.int IntKind.i64 1)] w76 (fun (e82 : Ending) => (fun (w83 : World) => (∃ x84 : Int, ((e82 = (Ending.returned (Value.int IntKind.i64 x84))) ∧
(∃ a85 : Addr, ((o19 = (some a85)) ∧
((((0 : Int) ≤ x35) ∧
(x35 < ((n20 : Nat) : Int))) ∧
((Nf.There w83 (Addr.add a85 ((x35).toNat * 1)) 1) ∧
(∀ w86 : World, ((w86 = (Nf.setCells w83 (Addr.add a85 ((x35).toNat * 1)) [(Value.int IntKind.i64 x84)] 0)) →
(k56 w86)))))))))))))))))) ∧
(((decide (x78 = (-1))) = false) →
(∀ w89 : World, ((w89 = w76.drew) →
(∃ a91 : Addr, ((o19 = (some a91)) ∧
((((0 : Int) ≤ x35) ∧
(x35 < ((n20 : Nat) : Int))) ∧
(∃ x92 : Int, (((w89.cell? (Addr.add a91 ((x35).toNat * 1))) = (some (Value.int IntKind.i64 x92))) ∧
(∃ x93 : Int, (((w89.cell? (⟨(hs w45), 1, none⟩ : Addr)) = (some (Value.int IntKind.i64 x93))) ∧
(∃ a94 : Addr, ((o19 = (some a94)) ∧
((((0 : Int) ≤ x93) ∧
(x93 < ((n20 : Nat) : Int))) ∧
(∃ x95 : Int, (((w89.cell? (Addr.add a94 ((x93).toNat * 1))) = (some (Value.int IntKind.i64 x95))) ∧
(Calls Try.prog 102 #[(Value.int IntKind.i64 x92), (Value.int IntKind.i64 x95)] w89 (fun (e96 : Ending) => (fun (w97 : World) => (∃ x98 : Int, ((e96 = (Ending.returned (Value.int IntKind.i64 x98))) ∧
(∃ a99 : Addr, ((o19 = (some a99)) ∧
((((0 : Int) ≤ x35) ∧
(x35 < ((n20 : Nat) : Int))) ∧
((Nf.There w97 (Addr.add a99 ((x35).toNat * 1)) 1) ∧
(∀ w100 : World, ((w100 = (Nf.setCells w97 (Addr.add a99 ((x35).toNat * 1)) [(Value.int IntKind.i64 x98)] 0)) →
(k56 w100)))))))))))))))))))))))))))))))))))))))))))))))))))))))))))) ∧
(((decide (x46 < ((n53 : Nat) : Int))) = false) →
(∃ n103 : Nat, ((n103 < n32) ∧
(k30 n103 (IntKind.wrap IntKind.i64 (x35 + 1)) w45)))))))))))))))))))))))))))))) ∧
(((decide (x35 < ((n20 : Nat) : Int))) = false) →
(∃ n105 : Nat, ((n105 < n24) ∧
(k22 n105 (IntKind.wrap IntKind.i64 (x27 + 1)) w34))))))))))))) ∧
(((decide (x27 < ((n20 : Nat) : Int))) = false) →
(∃ a107 : Addr, ((o19 = (some a107)) ∧
((((0 : Int) ≤ 0) ∧
(0 < ((n20 : Nat) : Int))) ∧
(∃ x108 : Int, (((w26.cell? a107) = (some (Value.int IntKind.i64 x108))) ∧
(R (Ending.returned (Value.int IntKind.i64 x108)) w26))))))))))))))))))))))))))))))))))))))))))))) :
    Calls Try.prog 64 #[(.agg #[(.string t_Name), (.int .i64 t_Version), (.slice t_Questions t_Questions_n t_Questions_c)])] w R :=
  calls_of_vc an64 Try.func64 rfl (by kernel_rfl) (by kernel_rfl) (Eq.mp (by kernel_rfl) h)

/-- samaritan/protocolcheck.ShortestPath -/
def an65 : An := (.seq (.reg []) (.seq (.seq (.reg [(1, 0, true)]) (.cond (.seq (.reg []) .nil) .nil)) (.seq (.reg [(3, 1, false)]) (.seq (.seq (.reg []) (.blk (.loop [(23, .int .i64)] (.seq (.reg [(0, 0, true)]) (.seq (.cond .nil .nil) (.seq (.blk (.seq (.reg []) (.seq (.reg []) (.blk (.loop [(34, .int .i64)] (.seq (.reg [(0, 0, true)]) (.seq (.cond .nil .nil) (.cut [] (.blk (.seq (.reg []) (.seq (.reg []) (.cut [(11, .slice)] (.blk (.seq (.reg [(2, 0, true), (9, 3, true)]) (.cond (.reg [(7, 1, false)]) (.seq (.reg [(2, 0, true), (7, 0, true)]) (.cond (.reg []) .nil))))) (.seq (.reg [(1, 3, true), (7, 3, true), (16, 0, true)]) (.cond (.reg []) .nil)))))) (.reg []))))))))) (.reg []))))))) (.seq (.regD [(6, 3, true)] [0, 1, 2, 3, 4, 5, 6, 7, 8] []) .nil)))))
set_option maxRecDepth 100000 in
theorem nf65 (t_Name : ByteArray) (t_Version : Int) (t_Questions : Option Addr) (t_Questions_n : Nat) (t_Questions_c : Nat) (urgency : Int) (w : World) (R : Ending → World → Prop) (h :
(∀ w1 : World, ((w1 = (w.alloc (Obj.cells #[(Value.string t_Name), (Value.int IntKind.i64 t_Version), (Value.slice t_Questions t_Questions_n t_Questions_c)] 24 (0, 0)))) →
(∃ s3 : ByteArray, (((w1.cell? (⟨(hs w), 0, none⟩ : Addr)) = (some (Value.string s3))) ∧
(∃ x4 : Int, (((w1.cell? (⟨(hs w), 1, none⟩ : Addr)) = (some (Value.int IntKind.i64 x4))) ∧
(∃ o5 : Option Addr, (∃ n6 : Nat, (∃ n7 : Nat, (((w1.cell? (⟨(hs w), 2, none⟩ : Addr)) = (some (Value.slice o5 n6 n7))) ∧
(Calls Try.prog 101 #[(Value.agg #[(Value.string s3), (Value.int IntKind.i64 x4), (Value.slice o5 n6 n7)])] w1 (fun (e8 : Ending) => (fun (w9 : World) => (∃ b10 : Bool, ((e8 = (Ending.returned (Value.bool b10))) ∧
(((b10 = true) →
(∃ o12 : Option Addr, (∃ n13 : Nat, (∃ n14 : Nat, (((w9.cell? (⟨(hs w), 2, none⟩ : Addr)) = (some (Value.slice o12 n13 n14))) ∧
(RunOk Try.prog (Nf.Hold (Instr.makeSlice 91 (Value.int IntKind.i64 ((n13 : Nat) : Int)) (Value.int IntKind.i64 ((n13 : Nat) : Int)))) w9 (fun (v15 : Value) => (fun (w16 : World) => (∃ o17 : Option Addr, (∃ n18 : Nat, (∃ n19 : Nat, ((v15 = (Value.slice o17 n18 n19)) ∧
(∃ s20 : ByteArray, (((w16.cell? (⟨(hs w), 0, none⟩ : Addr)) = (some (Value.string s20))) ∧
(∃ x21 : Int, (((w16.cell? (⟨(hs w), 1, none⟩ : Addr)) = (some (Value.int IntKind.i64 x21))) ∧
(∃ o22 : Option Addr, (∃ n23 : Nat, (∃ n24 : Nat, (((w16.cell? (⟨(hs w), 2, none⟩ : Addr)) = (some (Value.slice o22 n23 n24))) ∧
(Calls Try.prog 94 #[(Value.agg #[(Value.string s20), (Value.int IntKind.i64 x21), (Value.slice o22 n23 n24)])] w16 (fun (e25 : Ending) => (fun (w26 : World) => (∃ o27 : Option Addr, (∃ n28 : Nat, (∃ n29 : Nat, ((e25 = (Ending.returned (Value.slice o27 n28 n29))) ∧
(Calls Try.prog 98 #[(Value.slice o27 n28 n29), (Value.int IntKind.i64 0)] w26 (fun (e30 : Ending) => (fun (w31 : World) => (∃ o32 : Option Addr, (∃ n33 : Nat, (∃ n34 : Nat, ((e30 = (Ending.returned (Value.slice o32 n33 n34))) ∧
(∃ k35 : (Nat → (Int → (World → Prop))), ((∃ n36 : Nat, (k35 n36 0 w31)) ∧
(∀ n37 : Nat, ((Nat → Value) →
(∀ w39 : World, (∀ x40 : Int, ((k35 n37 x40 w39) →
((((decide (x40 < ((n33 : Nat) : Int))) = true) →
(∃ a43 : Addr, ((o32 = (some a43)) ∧
((((0 : Int) ≤ x40) ∧
(x40 < ((n33 : Nat) : Int))) ∧
(∃ x44 : Int, (((w39.cell? (Addr.add a43 ((x40).toNat * 1))) = (some (Value.int IntKind.i64 x44))) ∧
(∃ o45 : Option Addr, (∃ n46 : Nat, (∃ n47 : Nat, (((w39.cell? (⟨(hs w), 2, none⟩ : Addr)) = (some (Value.slice o45 n46 n47))) ∧
(∃ a48 : Addr, ((o45 = (some a48)) ∧
((((0 : Int) ≤ x44) ∧
(x44 < ((n46 : Nat) : Int))) ∧
(∃ o49 : Option Addr, (∃ n50 : Nat, (∃ n51 : Nat, (((w39.cell? (Addr.add (Addr.add a48 ((x44).toNat * 2)) 1)) = (some (Value.slice o49 n50 n51))) ∧
(∃ k52 : (Nat → (Int → (World → Prop))), ((∃ n53 : Nat, (k52 n53 0 w39)) ∧
(∀ n54 : Nat, ((Nat → Value) →
(∀ w56 : World, (∀ x57 : Int, ((k52 n54 x57 w56) →
((((decide (x57 < ((n50 : Nat) : Int))) = true) →
(∀ k60 : (World → Prop), ((∀ w62 : World, (((Nat → Value) →
(∃ n65 : Nat, ((n65 < n54) ∧
(k52 n65 (IntKind.wrap IntKind.i64 (x57 + 1)) w62)))) →
(k60 w62))) →
(∃ a66 : Addr, ((o49 = (some a66)) ∧
((((0 : Int) ≤ x57) ∧
(x57 < ((n50 : Nat) : Int))) ∧
(∃ s67 : ByteArray, (((w56.cell? (Addr.add a66 ((x57).toNat * 4))) = (some (Value.string s67))) ∧
(∃ x68 : Int, (((w56.cell? (Addr.add (Addr.add a66 ((x57).toNat * 4)) 1)) = (some (Value.int IntKind.i64 x68))) ∧
(∃ x69 : Int, (((w56.cell? (Addr.add (Addr.add a66 ((x57).toNat * 4)) 2)) = (some (Value.int IntKind.i64 x69))) ∧
(∃ s70 : ByteArray, (((w56.cell? (Addr.add (Addr.add a66 ((x57).toNat * 4)) 3)) = (some (Value.string s70))) ∧
(∀ w71 : World, ((w71 = (w56.alloc (Obj.cells #[(Value.string (ByteArray.mk #[])), (Value.int IntKind.i64 0), (Value.int IntKind.i64 0), (Value.string (ByteArray.mk #[]))] 58 (0, 0)))) →
((Nf.There w71 (⟨(hs w56), 0, none⟩ : Addr) 4) ∧
(∀ w73 : World, ((w73 = (Nf.setCells w71 (⟨(hs w56), 0, none⟩ : Addr) [(Value.string s67), (Value.int IntKind.i64 x68), (Value.int IntKind.i64 x69), (Value.string s70)] 0)) →
(∀ k75 : (Option Addr → (Nat → (Nat → (World → Prop)))), ((∀ w77 : World, (∀ o78 : Option Addr, (∀ n79 : Nat, (∀ n80 : Nat, (((Nat → Value) →
((((!(Option.isNone o78)) = true) →
(∃ a84 : Addr, ((o17 = (some a84)) ∧
((((0 : Int) ≤ x44) ∧
(x44 < ((n18 : Nat) : Int))) ∧
(∃ o85 : Option Addr, (∃ n86 : Nat, (∃ n87 : Nat, (((w77.cell? (Addr.add a84 ((x44).toNat * 1))) = (some (Value.slice o85 n86 n87))) ∧
((((Option.isNone o85) = true) →
(∃ a89 : Addr, ((o17 = (some a89)) ∧
((((0 : Int) ≤ x44) ∧
(x44 < ((n18 : Nat) : Int))) ∧
((Nf.There w77 (Addr.add a89 ((x44).toNat * 1)) 1) ∧
(∀ w90 : World, ((w90 = (Nf.setCells w77 (Addr.add a89 ((x44).toNat * 1)) [(Value.slice o78 n79 n80)] 0)) →
(k60 w90)))))))) ∧
(((Option.isNone o85) = false) →
(∃ a93 : Addr, ((o17 = (some a93)) ∧
((((0 : Int) ≤ x44) ∧
(x44 < ((n18 : Nat) : Int))) ∧
(∃ o94 : Option Addr, (∃ n95 : Nat, (∃ n96 : Nat, (((w77.cell? (Addr.add a93 ((x44).toNat * 1))) = (some (Value.slice o94 n95 n96))) ∧
((((decide (((n79 : Nat) : Int) < ((n95 : Nat) : Int))) = true) →
(∃ a98 : Addr, ((o17 = (some a98)) ∧
((((0 : Int) ≤ x44) ∧
(x44 < ((n18 : Nat) : Int))) ∧
((Nf.There w77 (Addr.add a98 ((x44).toNat * 1)) 1) ∧
(∀ w99 : World, ((w99 = (Nf.setCells w77 (Addr.add a98 ((x44).toNat * 1)) [(Value.slice o78 n79 n80)] 0)) →
(k60 w99)))))))) ∧
(((decide (((n79 : Nat) : Int) < ((n95 : Nat) : Int))) = false) →
(k60 w77)))))))))))))))))))) ∧
(((!(Option.isNone o78)) = false) →
(k60 w77)))) →
(k75 o78 n79 n80 w77)))))) →
(∃ x103 : Int, (((w73.cell? (⟨(hs w56), 1, none⟩ : Addr)) = (some (Value.int IntKind.i64 x103))) ∧
((((decide (x103 ≥ 0)) = true) →
(∃ x105 : Int, (((w73.cell? (⟨(hs w56), 1, none⟩ : Addr)) = (some (Value.int IntKind.i64 x105))) ∧
(∃ a106 : Addr, ((o17 = (some a106)) ∧
((((0 : Int) ≤ x105) ∧
(x105 < ((n18 : Nat) : Int))) ∧
(∃ o107 : Option Addr, (∃ n108 : Nat, (∃ n109 : Nat, (((w73.cell? (Addr.add a106 ((x105).toNat * 1))) = (some (Value.slice o107 n108 n109))) ∧
((((!(Option.isNone o107)) = true) →
(∀ w111 : World, ((w111 = (w73.alloc (Obj.cells #[(Value.int IntKind.i64 x57)] 3 (0, 0)))) →
(∃ x113 : Int, (((w111.cell? (⟨(hs w56), 1, none⟩ : Addr)) = (some (Value.int IntKind.i64 x113))) ∧
(∃ a114 : Addr, ((o17 = (some a114)) ∧
((((0 : Int) ≤ x113) ∧
(x113 < ((n18 : Nat) : Int))) ∧
(∃ o115 : Option Addr, (∃ n116 : Nat, (∃ n117 : Nat, (((w111.cell? (Addr.add a114 ((x113).toNat * 1))) = (some (Value.slice o115 n116 n117))) ∧
(RunOk Try.prog (Nf.Hold (Builtin.append_ #[48, 48] 48 #[(Value.slice (some (⟨(hs w73), 0, none⟩ : Addr)) 1 1), (Value.slice o115 n116 n117)])) w111 (fun (v118 : Value) => (fun (w119 : World) => (∃ o120 : Option Addr, (∃ n121 : Nat, (∃ n122 : Nat, ((v118 = (Value.slice o120 n121 n122)) ∧
(k75 o120 n121 n122 w119)))))))))))))))))))) ∧
(((!(Option.isNone o107)) = false) →
(∃ x124 : Int, (((w73.cell? (⟨(hs w56), 1, none⟩ : Addr)) = (some (Value.int IntKind.i64 x124))) ∧
((((decide (x124 < 0)) = true) →
(∃ x126 : Int, (((w73.cell? (⟨(hs w56), 2, none⟩ : Addr)) = (some (Value.int IntKind.i64 x126))) ∧
((((decide (x126 = urgency)) = true) →
(∀ w128 : World, ((w128 = (w73.alloc (Obj.cells #[(Value.int IntKind.i64 x57)] 3 (0, 0)))) →
(k75 (some (⟨(hs w73), 0, none⟩ : Addr)) 1 1 w128)))) ∧
(((decide (x126 = urgency)) = false) →
(k75 none 0 0 w73)))))) ∧
(((decide (x124 < 0)) = false) →
(k75 none 0 0 w73))))))))))))))))) ∧
(((decide (x103 ≥ 0)) = false) →
(∃ x133 : Int, (((w73.cell? (⟨(hs w56), 1, none⟩ : Addr)) = (some (Value.int IntKind.i64 x133))) ∧
((((decide (x133 < 0)) = true) →
(∃ x135 : Int, (((w73.cell? (⟨(hs w56), 2, none⟩ : Addr)) = (some (Value.int IntKind.i64 x135))) ∧
((((decide (x135 = urgency)) = true) →
(∀ w137 : World, ((w137 = (w73.alloc (Obj.cells #[(Value.int IntKind.i64 x57)] 3 (0, 0)))) →
(k75 (some (⟨(hs w73), 0, none⟩ : Addr)) 1 1 w137)))) ∧
(((decide (x135 = urgency)) = false) →
(k75 none 0 0 w73)))))) ∧
(((decide (x133 < 0)) = false) →
(k75 none 0 0 w73)))))))))))))))))))))))))))))) ∧
(((decide (x57 < ((n50 : Nat) : Int))) = false) →
(∃ n142 : Nat, ((n142 < n37) ∧
(k35 n142 (IntKind.wrap IntKind.i64 (x40 + 1)) w56))))))))))))))))))))))))))))) ∧
(((decide (x40 < ((n33 : Nat) : Int))) = false) →
(∀ w144 : World, ((w144 = w39.drew) →
(∃ a146 : Addr, ((o17 = (some a146)) ∧
((((0 : Int) ≤ 0) ∧
(0 < ((n18 : Nat) : Int))) ∧
(∃ o147 : Option Addr, (∃ n148 : Nat, (∃ n149 : Nat, (((w144.cell? a146) = (some (Value.slice o147 n148 n149))) ∧
(∃ a150 : Addr, ((o17 = (some a150)) ∧
((((0 : Int) ≤ 0) ∧
(0 < ((n18 : Nat) : Int))) ∧
(∃ o151 : Option Addr, (∃ n152 : Nat, (∃ n153 : Nat, (((w144.cell? a150) = (some (Value.slice o151 n152 n153))) ∧
((((!(Option.isNone o151)) = true) →
(R (Ending.returned (Value.tuple #[(Value.slice o147 n148 n149), (Value.bool true)])) w144)) ∧
(((!(Option.isNone o151)) = false) →
(R (Ending.returned (Value.tuple #[(Value.slice o147 n148 n149), (Value.bool false)])) w144)))))))))))))))))))))))))))))))))))))))))))))))))))))))))))))) ∧
((b10 = false) →
(R (Ending.returned (Value.tuple #[(Value.slice none 0 0), (Value.bool false)])) w9))))))))))))))))))) :
    Calls Try.prog 65 #[(.agg #[(.string t_Name), (.int .i64 t_Version), (.slice t_Questions t_Questions_n t_Questions_c)]), (.int .i64 urgency)] w R :=
  calls_of_vc an65 Try.func65 rfl (by kernel_rfl) (by kernel_rfl) (Eq.mp (by kernel_rfl) h)

/-- samaritan/samaritanref13.Shortest -/
def an66 : An := (.seq (.reg []) (.seq (.reg []) (.seq (.seq (.reg [(1, 0, true)]) (.cond (.seq (.reg []) .nil) .nil)) (.seq (.reg [(3, 1, false)]) (.seq (.seq (.reg []) (.blk (.loop [(9, .int .i64)] (.seq (.seq (.reg [(3, 0, true)]) (.cond .nil .nil)) (.seq (.blk (.seq (.reg []) (.blk (.loop [(10, .int .i64)] (.seq (.seq (.reg [(3, 0, true)]) (.cond .nil .nil)) (.seq (.blk (.seq (.reg []) (.blk (.loop [(11, .int .i64)] (.seq (.seq (.reg [(8, 0, true)]) (.cond .nil .nil)) (.cut [] (.blk (.seq (.reg []) (.seq (.reg []) (.cut [(13, .int .i64)] (.seq (.reg [(2, 0, true), (7, 0, true)]) (.cond (.reg []) .nil)) (.cut [(13, .int .i64)] (.seq (.reg [(2, 0, true), (9, 0, true)]) (.cond (.reg []) .nil)) (.seq (.reg [(1, 0, true), (7, 0, true), (14, 0, true)]) (.cond (.reg []) .nil))))))) (.reg []))))))) (.reg []))))))) (.reg [])))))) (.seq (.seq (.reg [(3, 0, true)]) (.cond (.seq (.reg []) .nil) .nil)) (.seq (.reg []) (.seq (.reg []) (.seq (.blk (.loop [(14, .slice), (15, .int .i64)] (.seq (.seq (.reg [(1, 0, true)]) (.cond .nil .nil)) (.blk (.seq (.reg []) (.seq (.reg []) (.blk (.loop [(14, .slice), (15, .int .i64), (17, .int .i64)] (.seq (.seq (.reg [(8, 0, true)]) (.cond .nil .nil)) (.seq (.blk (.seq (.reg []) (.seq (.reg [(1, 0, true), (5, 0, true), (11, 0, true), (16, 0, true), (23, 0, true), (33, 0, true)]) (.cond (.seq (.reg [(3, 1, false)]) (.seq (.reg []) .nil)) .nil)))) (.reg []))))))))))) (.seq (.reg []) .nil))))))))))
set_option maxRecDepth 100000 in
theorem nf66 (t_Name : ByteArray) (t_Version : Int) (t_Questions : Option Addr) (t_Questions_n : Nat) (t_Questions_c : Nat) (urgency : Int) (w : World) (R : Ending → World → Prop) (h :
(∀ w1 : World, ((w1 = (w.alloc (Obj.cells #[(Value.string t_Name), (Value.int IntKind.i64 t_Version), (Value.slice t_Questions t_Questions_n t_Questions_c)] 24 (0, 0)))) →
(∃ s3 : ByteArray, (((w1.cell? (⟨(hs w), 0, none⟩ : Addr)) = (some (Value.string s3))) ∧
(∃ x4 : Int, (((w1.cell? (⟨(hs w), 1, none⟩ : Addr)) = (some (Value.int IntKind.i64 x4))) ∧
(∃ o5 : Option Addr, (∃ n6 : Nat, (∃ n7 : Nat, (((w1.cell? (⟨(hs w), 2, none⟩ : Addr)) = (some (Value.slice o5 n6 n7))) ∧
(Calls Try.prog 31 #[(Value.agg #[(Value.string s3), (Value.int IntKind.i64 x4), (Value.slice o5 n6 n7)])] w1 (fun (e8 : Ending) => (fun (w9 : World) => (∃ x10 : Int, (∃ x11 : Int, ((e8 = (Ending.returned (Value.tuple #[(Value.int IntKind.i64 x10), (Value.int IntKind.i64 x11)]))) ∧
((((!(decide (x11 = 0))) = true) →
(R (Ending.returned (Value.tuple #[(Value.slice none 0 0), (Value.bool false)])) w9)) ∧
(((!(decide (x11 = 0))) = false) →
(∃ o14 : Option Addr, (∃ n15 : Nat, (∃ n16 : Nat, (((w9.cell? (⟨(hs w), 2, none⟩ : Addr)) = (some (Value.slice o14 n15 n16))) ∧
(RunOk Try.prog (Nf.Hold (Instr.makeSlice 48 (Value.int IntKind.i64 ((n15 : Nat) : Int)) (Value.int IntKind.i64 ((n15 : Nat) : Int)))) w9 (fun (v17 : Value) => (fun (w18 : World) => (∃ o19 : Option Addr, (∃ n20 : Nat, (∃ n21 : Nat, ((v17 = (Value.slice o19 n20 n21)) ∧
(∃ k22 : (Nat → (Int → (World → Prop))), ((∃ n23 : Nat, (k22 n23 0 w18)) ∧
(∀ n24 : Nat, ((Nat → Value) →
(∀ w26 : World, (∀ x27 : Int, ((k22 n24 x27 w26) →
((((decide (x27 < ((n20 : Nat) : Int))) = true) →
(∃ k30 : (Nat → (Int → (World → Prop))), ((∃ n31 : Nat, (k30 n31 0 w26)) ∧
(∀ n32 : Nat, ((Nat → Value) →
(∀ w34 : World, (∀ x35 : Int, ((k30 n32 x35 w34) →
((((decide (x35 < ((n20 : Nat) : Int))) = true) →
(∃ k38 : (Nat → (Int → (World → Prop))), ((∃ n39 : Nat, (k38 n39 0 w34)) ∧
(∀ n40 : Nat, ((Nat → Value) →
(∀ w42 : World, (∀ x43 : Int, ((k38 n40 x43 w42) →
(∃ o45 : Option Addr, (∃ n46 : Nat, (∃ n47 : Nat, (((w42.cell? (⟨(hs w), 2, none⟩ : Addr)) = (some (Value.slice o45 n46 n47))) ∧
(∃ a48 : Addr, ((o45 = (some a48)) ∧
((((0 : Int) ≤ x35) ∧
(x35 < ((n46 : Nat) : Int))) ∧
(∃ o49 : Option Addr, (∃ n50 : Nat, (∃ n51 : Nat, (((w42.cell? (Addr.add (Addr.add a48 ((x35).toNat * 2)) 1)) = (some (Value.slice o49 n50 n51))) ∧
((((decide (x43 < ((n50 : Nat) : Int))) = true) →
(∀ k53 : (World → Prop), ((∀ w55 : World, (((Nat → Value) →
(∃ n58 : Nat, ((n58 < n40) ∧
(k38 n58 (IntKind.wrap IntKind.i64 (x43 + 1)) w55)))) →
(k53 w55))) →
(∃ o59 : Option Addr, (∃ n60 : Nat, (∃ n61 : Nat, (((w42.cell? (⟨(hs w), 2, none⟩ : Addr)) = (some (Value.slice o59 n60 n61))) ∧
(∃ a62 : Addr, ((o59 = (some a62)) ∧
((((0 : Int) ≤ x35) ∧
(x35 < ((n60 : Nat) : Int))) ∧
(∃ o63 : Option Addr, (∃ n64 : Nat, (∃ n65 : Nat, (((w42.cell? (Addr.add (Addr.add a62 ((x35).toNat * 2)) 1)) = (some (Value.slice o63 n64 n65))) ∧
(∃ a66 : Addr, ((o63 = (some a66)) ∧
((((0 : Int) ≤ x43) ∧
(x43 < ((n64 : Nat) : Int))) ∧
(∃ s67 : ByteArray, (((w42.cell? (Addr.add a66 ((x43).toNat * 4))) = (some (Value.string s67))) ∧
(∃ x68 : Int, (((w42.cell? (Addr.add (Addr.add a66 ((x43).toNat * 4)) 1)) = (some (Value.int IntKind.i64 x68))) ∧
(∃ x69 : Int, (((w42.cell? (Addr.add (Addr.add a66 ((x43).toNat * 4)) 2)) = (some (Value.int IntKind.i64 x69))) ∧
(∃ s70 : ByteArray, (((w42.cell? (Addr.add (Addr.add a66 ((x43).toNat * 4)) 3)) = (some (Value.string s70))) ∧
(∀ w71 : World, ((w71 = (w42.alloc (Obj.cells #[(Value.string (ByteArray.mk #[])), (Value.int IntKind.i64 0), (Value.int IntKind.i64 0), (Value.string (ByteArray.mk #[]))] 58 (0, 0)))) →
((Nf.There w71 (⟨(hs w42), 0, none⟩ : Addr) 4) ∧
(∀ w73 : World, ((w73 = (Nf.setCells w71 (⟨(hs w42), 0, none⟩ : Addr) [(Value.string s67), (Value.int IntKind.i64 x68), (Value.int IntKind.i64 x69), (Value.string s70)] 0)) →
(∀ k75 : (Int → (World → Prop)), ((∀ w77 : World, (∀ x78 : Int, (((Nat → Value) →
(∀ k81 : (Int → (World → Prop)), ((∀ w83 : World, (∀ x84 : Int, (((Nat → Value) →
((((decide (x84 > 0)) = true) →
(∃ a88 : Addr, ((o19 = (some a88)) ∧
((((0 : Int) ≤ x35) ∧
(x35 < ((n20 : Nat) : Int))) ∧
(∃ x89 : Int, (((w83.cell? (Addr.add a88 ((x35).toNat * 1))) = (some (Value.int IntKind.i64 x89))) ∧
((((decide (x89 = 0)) = true) →
(∃ a91 : Addr, ((o19 = (some a91)) ∧
((((0 : Int) ≤ x35) ∧
(x35 < ((n20 : Nat) : Int))) ∧
((Nf.There w83 (Addr.add a91 ((x35).toNat * 1)) 1) ∧
(∀ w92 : World, ((w92 = (Nf.setCells w83 (Addr.add a91 ((x35).toNat * 1)) [(Value.int IntKind.i64 x84)] 0)) →
(k53 w92)))))))) ∧
(((decide (x89 = 0)) = false) →
(∃ a95 : Addr, ((o19 = (some a95)) ∧
((((0 : Int) ≤ x35) ∧
(x35 < ((n20 : Nat) : Int))) ∧
(∃ x96 : Int, (((w83.cell? (Addr.add a95 ((x35).toNat * 1))) = (some (Value.int IntKind.i64 x96))) ∧
((((decide (x84 < x96)) = true) →
(∃ a98 : Addr, ((o19 = (some a98)) ∧
((((0 : Int) ≤ x35) ∧
(x35 < ((n20 : Nat) : Int))) ∧
((Nf.There w83 (Addr.add a98 ((x35).toNat * 1)) 1) ∧
(∀ w99 : World, ((w99 = (Nf.setCells w83 (Addr.add a98 ((x35).toNat * 1)) [(Value.int IntKind.i64 x84)] 0)) →
(k53 w99)))))))) ∧
(((decide (x84 < x96)) = false) →
(k53 w83)))))))))))))))) ∧
(((decide (x84 > 0)) = false) →
(k53 w83)))) →
(k81 x84 w83)))) →
(∃ x103 : Int, (((w77.cell? (⟨(hs w42), 1, none⟩ : Addr)) = (some (Value.int IntKind.i64 x103))) ∧
((((!(decide (x103 = (-1)))) = true) →
(∃ x105 : Int, (((w77.cell? (⟨(hs w42), 1, none⟩ : Addr)) = (some (Value.int IntKind.i64 x105))) ∧
(∃ a106 : Addr, ((o19 = (some a106)) ∧
((((0 : Int) ≤ x105) ∧
(x105 < ((n20 : Nat) : Int))) ∧
(∃ x107 : Int, (((w77.cell? (Addr.add a106 ((x105).toNat * 1))) = (some (Value.int IntKind.i64 x107))) ∧
((((decide (x107 > 0)) = true) →
(∃ x109 : Int, (((w77.cell? (⟨(hs w42), 1, none⟩ : Addr)) = (some (Value.int IntKind.i64 x109))) ∧
(∃ a110 : Addr, ((o19 = (some a110)) ∧
((((0 : Int) ≤ x109) ∧
(x109 < ((n20 : Nat) : Int))) ∧
(∃ x111 : Int, (((w77.cell? (Addr.add a110 ((x109).toNat * 1))) = (some (Value.int IntKind.i64 x111))) ∧
(k81 (IntKind.wrap IntKind.i64 (x111 + 1)) w77))))))))) ∧
(((decide (x107 > 0)) = false) →
(k81 x78 w77))))))))))) ∧
(((!(decide (x103 = (-1)))) = false) →
(k81 x78 w77)))))))) →
(k75 x78 w77)))) →
(∃ x114 : Int, (((w73.cell? (⟨(hs w42), 1, none⟩ : Addr)) = (some (Value.int IntKind.i64 x114))) ∧
((((decide (x114 = (-1))) = true) →
(∃ x116 : Int, (((w73.cell? (⟨(hs w42), 2, none⟩ : Addr)) = (some (Value.int IntKind.i64 x116))) ∧
((((decide (x116 = urgency)) = true) →
(k75 1 w73)) ∧
(((decide (x116 = urgency)) = false) →
(k75 0 w73)))))) ∧
(((decide (x114 = (-1))) = false) →
(k75 0 w73))))))))))))))))))))))))))))))))))))) ∧
(((decide (x43 < ((n50 : Nat) : Int))) = false) →
(∃ n121 : Nat, ((n121 < n32) ∧
(k30 n121 (IntKind.wrap IntKind.i64 (x35 + 1)) w42)))))))))))))))))))))))) ∧
(((decide (x35 < ((n20 : Nat) : Int))) = false) →
(∃ n123 : Nat, ((n123 < n24) ∧
(k22 n123 (IntKind.wrap IntKind.i64 (x27 + 1)) w34))))))))))))) ∧
(((decide (x27 < ((n20 : Nat) : Int))) = false) →
(∃ a125 : Addr, ((o19 = (some a125)) ∧
((((0 : Int) ≤ 0) ∧
(0 < ((n20 : Nat) : Int))) ∧
(∃ x126 : Int, (((w26.cell? a125) = (some (Value.int IntKind.i64 x126))) ∧
((((decide (x126 = 0)) = true) →
(R (Ending.returned (Value.tuple #[(Value.slice none 0 0), (Value.bool false)])) w26)) ∧
(((decide (x126 = 0)) = false) →
(∀ w129 : World, ((w129 = (w26.alloc (Obj.cells #[] 3 (0, 0)))) →
(∃ k131 : (Nat → (Option Addr → (Nat → (Nat → (Int → (World → Prop)))))), ((∃ n132 : Nat, (k131 n132 (some (⟨(hs w26), 0, none⟩ : Addr)) 0 0 0 w129)) ∧
(∀ n133 : Nat, ((Nat → Value) →
(∀ w135 : World, (∀ o136 : Option Addr, (∀ n137 : Nat, (∀ n138 : Nat, (∀ x139 : Int, ((k131 n133 o136 n137 n138 x139 w135) →
((((!(decide (x139 = (-1)))) = true) →
(∃ a142 : Addr, ((o19 = (some a142)) ∧
((((0 : Int) ≤ x139) ∧
(x139 < ((n20 : Nat) : Int))) ∧
(∃ x143 : Int, (((w135.cell? (Addr.add a142 ((x139).toNat * 1))) = (some (Value.int IntKind.i64 x143))) ∧
(∃ k144 : (Nat → (Option Addr → (Nat → (Nat → (Int → (Int → (World → Prop))))))), ((∃ n145 : Nat, (k144 n145 o136 n137 n138 x139 0 w135)) ∧
(∀ n146 : Nat, ((Nat → Value) →
(∀ w148 : World, (∀ o149 : Option Addr, (∀ n150 : Nat, (∀ n151 : Nat, (∀ x152 : Int, (∀ x153 : Int, ((k144 n146 o149 n150 n151 x152 x153 w148) →
(∃ o155 : Option Addr, (∃ n156 : Nat, (∃ n157 : Nat, (((w148.cell? (⟨(hs w), 2, none⟩ : Addr)) = (some (Value.slice o155 n156 n157))) ∧
(∃ a158 : Addr, ((o155 = (some a158)) ∧
((((0 : Int) ≤ x152) ∧
(x152 < ((n156 : Nat) : Int))) ∧
(∃ o159 : Option Addr, (∃ n160 : Nat, (∃ n161 : Nat, (((w148.cell? (Addr.add (Addr.add a158 ((x152).toNat * 2)) 1)) = (some (Value.slice o159 n160 n161))) ∧
((((decide (x153 < ((n160 : Nat) : Int))) = true) →
(∃ o163 : Option Addr, (∃ n164 : Nat, (∃ n165 : Nat, (((w148.cell? (⟨(hs w), 2, none⟩ : Addr)) = (some (Value.slice o163 n164 n165))) ∧
(∃ a166 : Addr, ((o163 = (some a166)) ∧
((((0 : Int) ≤ x152) ∧
(x152 < ((n164 : Nat) : Int))) ∧
(∃ o167 : Option Addr, (∃ n168 : Nat, (∃ n169 : Nat, (((w148.cell? (Addr.add (Addr.add a166 ((x152).toNat * 2)) 1)) = (some (Value.slice o167 n168 n169))) ∧
(∃ a170 : Addr, ((o167 = (some a170)) ∧
((((0 : Int) ≤ x153) ∧
(x153 < ((n168 : Nat) : Int))) ∧
(∃ s171 : ByteArray, (((w148.cell? (Addr.add a170 ((x153).toNat * 4))) = (some (Value.string s171))) ∧
(∃ x172 : Int, (((w148.cell? (Addr.add (Addr.add a170 ((x153).toNat * 4)) 1)) = (some (Value.int IntKind.i64 x172))) ∧
(∃ x173 : Int, (((w148.cell? (Addr.add (Addr.add a170 ((x153).toNat * 4)) 2)) = (some (Value.int IntKind.i64 x173))) ∧
(∃ s174 : ByteArray, (((w148.cell? (Addr.add (Addr.add a170 ((x153).toNat * 4)) 3)) = (some (Value.string s174))) ∧
(∀ w175 : World, ((w175 = (w148.alloc (Obj.cells #[(Value.string (ByteArray.mk #[])), (Value.int IntKind.i64 0), (Value.int IntKind.i64 0), (Value.string (ByteArray.mk #[]))] 58 (0, 0)))) →
((Nf.There w175 (⟨(hs w148), 0, none⟩ : Addr) 4) ∧
(∀ w177 : World, ((w177 = (Nf.setCells w175 (⟨(hs w148), 0, none⟩ : Addr) [(Value.string s171), (Value.int IntKind.i64 x172), (Value.int IntKind.i64 x173), (Value.string s174)] 0)) →
((((decide (x143 = 1)) = true) →
(∃ x180 : Int, (((w177.cell? (⟨(hs w148), 1, none⟩ : Addr)) = (some (Value.int IntKind.i64 x180))) ∧
((((decide (x180 = (-1))) = true) →
(∃ x182 : Int, (((w177.cell? (⟨(hs w148), 2, none⟩ : Addr)) = (some (Value.int IntKind.i64 x182))) ∧
((((decide (x182 = urgency)) = true) →
(∀ w184 : World, ((w184 = (w177.alloc (Obj.cells #[(Value.int IntKind.i64 x153)] 3 (0, 0)))) →
(RunOk Try.prog (Nf.Hold (Builtin.append_ #[48, 48] 48 #[(Value.slice o149 n150 n151), (Value.slice (some (⟨(hs w177), 0, none⟩ : Addr)) 1 1)])) w184 (fun (v186 : Value) => (fun (w187 : World) => (∃ o188 : Option Addr, (∃ n189 : Nat, (∃ n190 : Nat, ((v186 = (Value.slice o188 n189 n190)) ∧
(∃ x191 : Int, (((w187.cell? (⟨(hs w148), 1, none⟩ : Addr)) = (some (Value.int IntKind.i64 x191))) ∧
(∃ n192 : Nat, ((n192 < n133) ∧
(k131 n192 o188 n189 n190 x191 w187))))))))))))))) ∧
(((decide (x182 = urgency)) = false) →
(∃ x194 : Int, (((w177.cell? (⟨(hs w148), 1, none⟩ : Addr)) = (some (Value.int IntKind.i64 x194))) ∧
((((!(decide (x194 = (-1)))) = true) →
(∃ x196 : Int, (((w177.cell? (⟨(hs w148), 1, none⟩ : Addr)) = (some (Value.int IntKind.i64 x196))) ∧
(∃ a197 : Addr, ((o19 = (some a197)) ∧
((((0 : Int) ≤ x196) ∧
(x196 < ((n20 : Nat) : Int))) ∧
(∃ x198 : Int, (((w177.cell? (Addr.add a197 ((x196).toNat * 1))) = (some (Value.int IntKind.i64 x198))) ∧
((((decide (x198 > 0)) = true) →
(∃ x200 : Int, (((w177.cell? (⟨(hs w148), 1, none⟩ : Addr)) = (some (Value.int IntKind.i64 x200))) ∧
(∃ a201 : Addr, ((o19 = (some a201)) ∧
((((0 : Int) ≤ x200) ∧
(x200 < ((n20 : Nat) : Int))) ∧
(∃ x202 : Int, (((w177.cell? (Addr.add a201 ((x200).toNat * 1))) = (some (Value.int IntKind.i64 x202))) ∧
((((decide (x202 = (IntKind.wrap IntKind.i64 (x143 - 1)))) = true) →
(∀ w204 : World, ((w204 = (w177.alloc (Obj.cells #[(Value.int IntKind.i64 x153)] 3 (0, 0)))) →
(RunOk Try.prog (Nf.Hold (Builtin.append_ #[48, 48] 48 #[(Value.slice o149 n150 n151), (Value.slice (some (⟨(hs w177), 0, none⟩ : Addr)) 1 1)])) w204 (fun (v206 : Value) => (fun (w207 : World) => (∃ o208 : Option Addr, (∃ n209 : Nat, (∃ n210 : Nat, ((v206 = (Value.slice o208 n209 n210)) ∧
(∃ x211 : Int, (((w207.cell? (⟨(hs w148), 1, none⟩ : Addr)) = (some (Value.int IntKind.i64 x211))) ∧
(∃ n212 : Nat, ((n212 < n133) ∧
(k131 n212 o208 n209 n210 x211 w207))))))))))))))) ∧
(((decide (x202 = (IntKind.wrap IntKind.i64 (x143 - 1)))) = false) →
(∃ n214 : Nat, ((n214 < n146) ∧
(k144 n214 o149 n150 n151 x152 (IntKind.wrap IntKind.i64 (x153 + 1)) w177))))))))))))) ∧
(((decide (x198 > 0)) = false) →
(∃ n216 : Nat, ((n216 < n146) ∧
(k144 n216 o149 n150 n151 x152 (IntKind.wrap IntKind.i64 (x153 + 1)) w177))))))))))))) ∧
(((!(decide (x194 = (-1)))) = false) →
(∃ n218 : Nat, ((n218 < n146) ∧
(k144 n218 o149 n150 n151 x152 (IntKind.wrap IntKind.i64 (x153 + 1)) w177)))))))))))) ∧
(((decide (x180 = (-1))) = false) →
(∃ x220 : Int, (((w177.cell? (⟨(hs w148), 1, none⟩ : Addr)) = (some (Value.int IntKind.i64 x220))) ∧
((((!(decide (x220 = (-1)))) = true) →
(∃ x222 : Int, (((w177.cell? (⟨(hs w148), 1, none⟩ : Addr)) = (some (Value.int IntKind.i64 x222))) ∧
(∃ a223 : Addr, ((o19 = (some a223)) ∧
((((0 : Int) ≤ x222) ∧
(x222 < ((n20 : Nat) : Int))) ∧
(∃ x224 : Int, (((w177.cell? (Addr.add a223 ((x222).toNat * 1))) = (some (Value.int IntKind.i64 x224))) ∧
((((decide (x224 > 0)) = true) →
(∃ x226 : Int, (((w177.cell? (⟨(hs w148), 1, none⟩ : Addr)) = (some (Value.int IntKind.i64 x226))) ∧
(∃ a227 : Addr, ((o19 = (some a227)) ∧
((((0 : Int) ≤ x226) ∧
(x226 < ((n20 : Nat) : Int))) ∧
(∃ x228 : Int, (((w177.cell? (Addr.add a227 ((x226).toNat * 1))) = (some (Value.int IntKind.i64 x228))) ∧
((((decide (x228 = (IntKind.wrap IntKind.i64 (x143 - 1)))) = true) →
(∀ w230 : World, ((w230 = (w177.alloc (Obj.cells #[(Value.int IntKind.i64 x153)] 3 (0, 0)))) →
(RunOk Try.prog (Nf.Hold (Builtin.append_ #[48, 48] 48 #[(Value.slice o149 n150 n151), (Value.slice (some (⟨(hs w177), 0, none⟩ : Addr)) 1 1)])) w230 (fun (v232 : Value) => (fun (w233 : World) => (∃ o234 : Option Addr, (∃ n235 : Nat, (∃ n236 : Nat, ((v232 = (Value.slice o234 n235 n236)) ∧
(∃ x237 : Int, (((w233.cell? (⟨(hs w148), 1, none⟩ : Addr)) = (some (Value.int IntKind.i64 x237))) ∧
(∃ n238 : Nat, ((n238 < n133) ∧
(k131 n238 o234 n235 n236 x237 w233))))))))))))))) ∧
(((decide (x228 = (IntKind.wrap IntKind.i64 (x143 - 1)))) = false) →
(∃ n240 : Nat, ((n240 < n146) ∧
(k144 n240 o149 n150 n151 x152 (IntKind.wrap IntKind.i64 (x153 + 1)) w177))))))))))))) ∧
(((decide (x224 > 0)) = false) →
(∃ n242 : Nat, ((n242 < n146) ∧
(k144 n242 o149 n150 n151 x152 (IntKind.wrap IntKind.i64 (x153 + 1)) w177))))))))))))) ∧
(((!(decide (x220 = (-1)))) = false) →
(∃ n244 : Nat, ((n244 < n146) ∧
(k144 n244 o149 n150 n151 x152 (IntKind.wrap IntKind.i64 (x153 + 1)) w177)))))))))))) ∧
(((decide (x143 = 1)) = false) →
(∃ x246 : Int, (((w177.cell? (⟨(hs w148), 1, none⟩ : Addr)) = (some (Value.int IntKind.i64 x246))) ∧
((((!(decide (x246 = (-1)))) = true) →
(∃ x248 : Int, (((w177.cell? (⟨(hs w148), 1, none⟩ : Addr)) = (some (Value.int IntKind.i64 x248))) ∧
(∃ a249 : Addr, ((o19 = (some a249)) ∧
((((0 : Int) ≤ x248) ∧
(x248 < ((n20 : Nat) : Int))) ∧
(∃ x250 : Int, (((w177.cell? (Addr.add a249 ((x248).toNat * 1))) = (some (Value.int IntKind.i64 x250))) ∧
((((decide (x250 > 0)) = true) →
(∃ x252 : Int, (((w177.cell? (⟨(hs w148), 1, none⟩ : Addr)) = (some (Value.int IntKind.i64 x252))) ∧
(∃ a253 : Addr, ((o19 = (some a253)) ∧
((((0 : Int) ≤ x252) ∧
(x252 < ((n20 : Nat) : Int))) ∧
(∃ x254 : Int, (((w177.cell? (Addr.add a253 ((x252).toNat * 1))) = (some (Value.int IntKind.i64 x254))) ∧
((((decide (x254 = (IntKind.wrap IntKind.i64 (x143 - 1)))) = true) →
(∀ w256 : World, ((w256 = (w177.alloc (Obj.cells #[(Value.int IntKind.i64 x153)] 3 (0, 0)))) →
(RunOk Try.prog (Nf.Hold (Builtin.append_ #[48, 48] 48 #[(Value.slice o149 n150 n151), (Value.slice (some (⟨(hs w177), 0, none⟩ : Addr)) 1 1)])) w256 (fun (v258 : Value) => (fun (w259 : World) => (∃ o260 : Option Addr, (∃ n261 : Nat, (∃ n262 : Nat, ((v258 = (Value.slice o260 n261 n262)) ∧
(∃ x263 : Int, (((w259.cell? (⟨(hs w148), 1, none⟩ : Addr)) = (some (Value.int IntKind.i64 x263))) ∧
(∃ n264 : Nat, ((n264 < n133) ∧
(k131 n264 o260 n261 n262 x263 w259))))))))))))))) ∧
(((decide (x254 = (IntKind.wrap IntKind.i64 (x143 - 1)))) = false) →
(∃ n266 : Nat, ((n266 < n146) ∧
(k144 n266 o149 n150 n151 x152 (IntKind.wrap IntKind.i64 (x153 + 1)) w177))))))))))))) ∧
(((decide (x250 > 0)) = false) →
(∃ n268 : Nat, ((n268 < n146) ∧
(k144 n268 o149 n150 n151 x152 (IntKind.wrap IntKind.i64 (x153 + 1)) w177))))))))))))) ∧
(((!(decide (x246 = (-1)))) = false) →
(∃ n270 : Nat, ((n270 < n146) ∧
(k144 n270 o149 n150 n151 x152 (IntKind.wrap IntKind.i64 (x153 + 1)) w177))))))))))))))))))))))))))))))))))))) ∧
(((decide (x153 < ((n160 : Nat) : Int))) = false) →
(∃ n272 : Nat, ((n272 < n133) ∧
(k131 n272 o149 n150 n151 x152 w148))))))))))))))))))))))))))))))))) ∧
(((!(decide (x139 = (-1)))) = false) →
(R (Ending.returned (Value.tuple #[(Value.slice o136 n137 n138), (Value.bool true)])) w135))))))))))))))))))))))))))))))))))))))))))))))))))))))))))))) :
    Calls Try.prog 66 #[(.agg #[(.string t_Name), (.int .i64 t_Version), (.slice t_Questions t_Questions_n t_Questions_c)]), (.int .i64 urgency)] w R :=
  calls_of_vc an66 Try.func66 rfl (by kernel_rfl) (by kernel_rfl) (Eq.mp (by kernel_rfl) h)

/-- samaritan/samaritanref13.End -/
def an67 : An := (.seq (.reg []) (.seq (.reg []) (.seq (.seq (.reg []) (.blk (.loop [(5, .int .i64), (6, .int .i64)] (.seq (.seq (.reg [(3, 0, true)]) (.cond .nil .nil)) (.seq (.blk (.seq (.seq (.regD [(1, 0, true), (7, 0, true), (14, 0, true), (28, 0, true)] [0, 1, 2, 3, 4, 5, 6, 7, 8, 9, 10, 11, 12, 13, 14, 15, 16, 17, 18, 19, 20, 21, 22, 23, 24, 25, 26, 27, 28, 29] []) (.cond (.seq (.reg []) .nil) .nil)) (.seq (.regD [] [0, 1, 2, 3, 4, 5, 6, 7, 8, 9, 10, 11, 12, 13] [12, 13]) (.seq (.seq (.reg [(2, 0, true)]) (.cond (.seq (.seq (.reg [(4, 0, true)]) (.cond (.seq (.reg []) .nil) .nil)) (.seq (.reg []) .nil)) .nil)) (.reg []))))) (.reg [])))))) (.seq (.reg []) .nil))))
set_option maxRecDepth 100000 in
theorem nf67 (t_Name : ByteArray) (t_Version : Int) (t_Questions : Option Addr) (t_Questions_n : Nat) (t_Questions_c : Nat) (way : Option Addr) (way_n : Nat) (way_c : Nat) (w : World) (R : Ending → World → Prop) (h :
(∀ w1 : World, ((w1 = (w.alloc (Obj.cells #[(Value.string t_Name), (Value.int IntKind.i64 t_Version), (Value.slice t_Questions t_Questions_n t_Questions_c)] 24 (0, 0)))) →
(∃ k3 : (Nat → (Int → (Int → (World → Prop)))), ((∃ n4 : Nat, (k3 n4 0 0 w1)) ∧
(∀ n5 : Nat, ((Nat → Value) →
(∀ w7 : World, (∀ x8 : Int, (∀ x9 : Int, ((k3 n5 x8 x9 w7) →
((((decide (x9 < ((way_n : Nat) : Int))) = true) →
(∀ w12 : World, ((w12 = w7.drew) →
((((decide (x8 < 0)) = true) →
(R (Ending.returned (Value.int IntKind.i64 0)) w12)) ∧
(((decide (x8 < 0)) = false) →
(∃ o16 : Option Addr, (∃ n17 : Nat, (∃ n18 : Nat, (((w12.cell? (⟨(hs w), 2, none⟩ : Addr)) = (some (Value.slice o16 n17 n18))) ∧
((((decide (x8 ≥ ((n17 : Nat) : Int))) = true) →
(R (Ending.returned (Value.int IntKind.i64 0)) w12)) ∧
(((decide (x8 ≥ ((n17 : Nat) : Int))) = false) →
(∃ a21 : Addr, ((way = (some a21)) ∧
((((0 : Int) ≤ x9) ∧
(x9 < ((way_n : Nat) : Int))) ∧
(∃ x22 : Int, (((w12.cell? (Addr.add a21 ((x9).toNat * 1))) = (some (Value.int IntKind.i64 x22))) ∧
((((decide (x22 < 0)) = true) →
(R (Ending.returned (Value.int IntKind.i64 0)) w12)) ∧
(((decide (x22 < 0)) = false) →
(∃ a25 : Addr, ((way = (some a25)) ∧
((((0 : Int) ≤ x9) ∧
(x9 < ((way_n : Nat) : Int))) ∧
(∃ x26 : Int, (((w12.cell? (Addr.add a25 ((x9).toNat * 1))) = (some (Value.int IntKind.i64 x26))) ∧
(∃ o27 : Option Addr, (∃ n28 : Nat, (∃ n29 : Nat, (((w12.cell? (⟨(hs w), 2, none⟩ : Addr)) = (some (Value.slice o27 n28 n29))) ∧
(∃ a30 : Addr, ((o27 = (some a30)) ∧
((((0 : Int) ≤ x8) ∧
(x8 < ((n28 : Nat) : Int))) ∧
(∃ o31 : Option Addr, (∃ n32 : Nat, (∃ n33 : Nat, (((w12.cell? (Addr.add (Addr.add a30 ((x8).toNat * 2)) 1)) = (some (Value.slice o31 n32 n33))) ∧
((((decide (x26 ≥ ((n32 : Nat) : Int))) = true) →
(R (Ending.returned (Value.int IntKind.i64 0)) w12)) ∧
(((decide (x26 ≥ ((n32 : Nat) : Int))) = false) →
(∀ w36 : World, ((w36 = w12.drew) →
(∃ o38 : Option Addr, (∃ n39 : Nat, (∃ n40 : Nat, (((w36.cell? (⟨(hs w), 2, none⟩ : Addr)) = (some (Value.slice o38 n39 n40))) ∧
(∃ a41 : Addr, ((o38 = (some a41)) ∧
((((0 : Int) ≤ x8) ∧
(x8 < ((n39 : Nat) : Int))) ∧
(∃ o42 : Option Addr, (∃ n43 : Nat, (∃ n44 : Nat, (((w36.cell? (Addr.add (Addr.add a41 ((x8).toNat * 2)) 1)) = (some (Value.slice o42 n43 n44))) ∧
(∃ a45 : Addr, ((way = (some a45)) ∧
((((0 : Int) ≤ x9) ∧
(x9 < ((way_n : Nat) : Int))) ∧
(∃ x46 : Int, (((w36.cell? (Addr.add a45 ((x9).toNat * 1))) = (some (Value.int IntKind.i64 x46))) ∧
(∃ a47 : Addr, ((o42 = (some a47)) ∧
((((0 : Int) ≤ x46) ∧
(x46 < ((n43 : Nat) : Int))) ∧
(∃ s48 : ByteArray, (((w36.cell? (Addr.add a47 ((x46).toNat * 4))) = (some (Value.string s48))) ∧
(∃ x49 : Int, (((w36.cell? (Addr.add (Addr.add a47 ((x46).toNat * 4)) 1)) = (some (Value.int IntKind.i64 x49))) ∧
(∃ x50 : Int, (((w36.cell? (Addr.add (Addr.add a47 ((x46).toNat * 4)) 2)) = (some (Value.int IntKind.i64 x50))) ∧
(∃ s51 : ByteArray, (((w36.cell? (Addr.add (Addr.add a47 ((x46).toNat * 4)) 3)) = (some (Value.string s51))) ∧
(∀ w52 : World, ((w52 = (w36.alloc (Obj.cells #[(Value.string (ByteArray.mk #[])), (Value.int IntKind.i64 0), (Value.int IntKind.i64 0), (Value.string (ByteArray.mk #[]))] 58 (0, 0)))) →
((Nf.Kept w36 w52 (Addr.add a47 ((x46).toNat * 4)) 4) ∧
((Nf.Kept w36 w52 (Addr.add a45 ((x9).toNat * 1)) 1) ∧
((Nf.Kept w36 w52 (Addr.add (Addr.add a41 ((x8).toNat * 2)) 1) 1) ∧
((Nf.Kept w36 w52 (⟨(hs w), 2, none⟩ : Addr) 1) ∧
((Nf.There w52 (⟨(hs w36), 0, none⟩ : Addr) 4) ∧
(∀ w54 : World, ((w54 = (Nf.setCells w52 (⟨(hs w36), 0, none⟩ : Addr) [(Value.string s48), (Value.int IntKind.i64 x49), (Value.int IntKind.i64 x50), (Value.string s51)] 0)) →
(∃ x56 : Int, (((w54.cell? (⟨(hs w36), 1, none⟩ : Addr)) = (some (Value.int IntKind.i64 x56))) ∧
((((decide (x56 = (-1))) = true) →
((((decide ((IntKind.wrap IntKind.i64 (x9 + 1)) < ((way_n : Nat) : Int))) = true) →
(R (Ending.returned (Value.int IntKind.i64 0)) w54)) ∧
(((decide ((IntKind.wrap IntKind.i64 (x9 + 1)) < ((way_n : Nat) : Int))) = false) →
(∃ x60 : Int, (((w54.cell? (⟨(hs w36), 2, none⟩ : Addr)) = (some (Value.int IntKind.i64 x60))) ∧
(R (Ending.returned (Value.int IntKind.i64 x60)) w54)))))) ∧
(((decide (x56 = (-1))) = false) →
(∃ x62 : Int, (((w54.cell? (⟨(hs w36), 1, none⟩ : Addr)) = (some (Value.int IntKind.i64 x62))) ∧
(∃ n63 : Nat, ((n63 < n5) ∧
(k3 n63 x62 (IntKind.wrap IntKind.i64 (x9 + 1)) w54))))))))))))))))))))))))))))))))))))))))))))))))))))))))))))))))))))))))))))))))))) ∧
(((decide (x9 < ((way_n : Nat) : Int))) = false) →
(R (Ending.returned (Value.int IntKind.i64 0)) w7)))))))))))))) :
    Calls Try.prog 67 #[(.agg #[(.string t_Name), (.int .i64 t_Version), (.slice t_Questions t_Questions_n t_Questions_c)]), (.slice way way_n way_c)] w R :=
  calls_of_vc an67 Try.func67 rfl (by kernel_rfl) (by kernel_rfl) (Eq.mp (by kernel_rfl) h)

/-- samaritan/samaritanref13.Ways -/
def an61 : An := (.seq (.reg []) (.seq (.reg []) (.seq (.reg []) (.seq (.seq (.reg [(1, 0, true)]) (.cond (.seq (.reg []) .nil) .nil)) (.seq (.reg [(4, 0, true)]) (.seq (.blk (.loop [(5, .slice), (8, .slice), (9, .bool)] (.seq (.seq (.reg [(0, 0, true), (5, 0, true)]) (.cond .nil .nil)) (.blk (.seq (.reg [(3, 1, false)]) (.reg [(5, 0, true)])))))) (.seq (.reg []) .nil)))))))
set_option maxRecDepth 100000 in
theorem nf61 (t_Name : ByteArray) (t_Version : Int) (t_Questions : Option Addr) (t_Questions_n : Nat) (t_Questions_c : Nat) (most : Int) (w : World) (R : Ending → World → Prop) (h :
(∀ w1 : World, ((w1 = (w.alloc (Obj.cells #[(Value.string t_Name), (Value.int IntKind.i64 t_Version), (Value.slice t_Questions t_Questions_n t_Questions_c)] 24 (0, 0)))) →
(∀ w3 : World, ((w3 = (w1.alloc (Obj.cells #[] 48 (0, 0)))) →
(∃ s5 : ByteArray, (((w3.cell? (⟨(hs w), 0, none⟩ : Addr)) = (some (Value.string s5))) ∧
(∃ x6 : Int, (((w3.cell? (⟨(hs w), 1, none⟩ : Addr)) = (some (Value.int IntKind.i64 x6))) ∧
(∃ o7 : Option Addr, (∃ n8 : Nat, (∃ n9 : Nat, (((w3.cell? (⟨(hs w), 2, none⟩ : Addr)) = (some (Value.slice o7 n8 n9))) ∧
(Calls Try.prog 31 #[(Value.agg #[(Value.string s5), (Value.int IntKind.i64 x6), (Value.slice o7 n8 n9)])] w3 (fun (e10 : Ending) => (fun (w11 : World) => (∃ x12 : Int, (∃ x13 : Int, ((e10 = (Ending.returned (Value.tuple #[(Value.int IntKind.i64 x12), (Value.int IntKind.i64 x13)]))) ∧
((((!(decide (x13 = 0))) = true) →
(R (Ending.returned (Value.slice (some (⟨(hs w1), 0, none⟩ : Addr)) 0 0)) w11)) ∧
(((!(decide (x13 = 0))) = false) →
(∃ s16 : ByteArray, (((w11.cell? (⟨(hs w), 0, none⟩ : Addr)) = (some (Value.string s16))) ∧
(∃ x17 : Int, (((w11.cell? (⟨(hs w), 1, none⟩ : Addr)) = (some (Value.int IntKind.i64 x17))) ∧
(∃ o18 : Option Addr, (∃ n19 : Nat, (∃ n20 : Nat, (((w11.cell? (⟨(hs w), 2, none⟩ : Addr)) = (some (Value.slice o18 n19 n20))) ∧
(Calls Try.prog 100 #[(Value.agg #[(Value.string s16), (Value.int IntKind.i64 x17), (Value.slice o18 n19 n20)]), (Value.slice none 0 0)] w11 (fun (e21 : Ending) => (fun (w22 : World) => (∃ o23 : Option Addr, (∃ n24 : Nat, (∃ n25 : Nat, (∃ b26 : Bool, ((e21 = (Ending.returned (Value.tuple #[(Value.slice o23 n24 n25), (Value.bool b26)]))) ∧
(((b26 = true) →
(∃ k28 : (Nat → (Option Addr → (Nat → (Nat → (Option Addr → (Nat → (Nat → (Bool → (World → Prop))))))))), ((∃ n29 : Nat, (k28 n29 (some (⟨(hs w1), 0, none⟩ : Addr)) 0 0 o23 n24 n25 true w22)) ∧
(∀ n30 : Nat, ((Nat → Value) →
(∀ w32 : World, (∀ o33 : Option Addr, (∀ n34 : Nat, (∀ n35 : Nat, (∀ o36 : Option Addr, (∀ n37 : Nat, (∀ n38 : Nat, (∀ b39 : Bool, ((k28 n30 o33 n34 n35 o36 n37 n38 b39 w32) →
(((b39 = true) →
((((decide (((n34 : Nat) : Int) < most)) = true) →
(∀ w43 : World, ((w43 = (w32.alloc (Obj.cells #[(Value.slice o36 n37 n38)] 48 (0, 0)))) →
(RunOk Try.prog (Nf.Hold (Builtin.append_ #[91, 91] 91 #[(Value.slice o33 n34 n35), (Value.slice (some (⟨(hs w32), 0, none⟩ : Addr)) 1 1)])) w43 (fun (v45 : Value) => (fun (w46 : World) => (∃ o47 : Option Addr, (∃ n48 : Nat, (∃ n49 : Nat, ((v45 = (Value.slice o47 n48 n49)) ∧
(∃ s50 : ByteArray, (((w46.cell? (⟨(hs w), 0, none⟩ : Addr)) = (some (Value.string s50))) ∧
(∃ x51 : Int, (((w46.cell? (⟨(hs w), 1, none⟩ : Addr)) = (some (Value.int IntKind.i64 x51))) ∧
(∃ o52 : Option Addr, (∃ n53 : Nat, (∃ n54 : Nat, (((w46.cell? (⟨(hs w), 2, none⟩ : Addr)) = (some (Value.slice o52 n53 n54))) ∧
(Calls Try.prog 100 #[(Value.agg #[(Value.string s50), (Value.int IntKind.i64 x51), (Value.slice o52 n53 n54)]), (Value.slice o36 n37 n38)] w46 (fun (e55 : Ending) => (fun (w56 : World) => (∃ o57 : Option Addr, (∃ n58 : Nat, (∃ n59 : Nat, (∃ b60 : Bool, ((e55 = (Ending.returned (Value.tuple #[(Value.slice o57 n58 n59), (Value.bool b60)]))) ∧
(((b60 = true) →
(∃ n62 : Nat, ((n62 < n30) ∧
(k28 n62 o47 n48 n49 o57 n58 n59 true w56)))) ∧
((b60 = false) →
(∃ n64 : Nat, ((n64 < n30) ∧
(k28 n64 o47 n48 n49 o57 n58 n59 false w56))))))))))))))))))))))))))))))) ∧
(((decide (((n34 : Nat) : Int) < most)) = false) →
(R (Ending.returned (Value.slice o33 n34 n35)) w32)))) ∧
((b39 = false) →
(R (Ending.returned (Value.slice o33 n34 n35)) w32))))))))))))))))) ∧
((b26 = false) →
(∃ k68 : (Nat → (Option Addr → (Nat → (Nat → (Option Addr → (Nat → (Nat → (Bool → (World → Prop))))))))), ((∃ n69 : Nat, (k68 n69 (some (⟨(hs w1), 0, none⟩ : Addr)) 0 0 o23 n24 n25 false w22)) ∧
(∀ n70 : Nat, ((Nat → Value) →
(∀ w72 : World, (∀ o73 : Option Addr, (∀ n74 : Nat, (∀ n75 : Nat, (∀ o76 : Option Addr, (∀ n77 : Nat, (∀ n78 : Nat, (∀ b79 : Bool, ((k68 n70 o73 n74 n75 o76 n77 n78 b79 w72) →
(((b79 = true) →
((((decide (((n74 : Nat) : Int) < most)) = true) →
(∀ w83 : World, ((w83 = (w72.alloc (Obj.cells #[(Value.slice o76 n77 n78)] 48 (0, 0)))) →
(RunOk Try.prog (Nf.Hold (Builtin.append_ #[91, 91] 91 #[(Value.slice o73 n74 n75), (Value.slice (some (⟨(hs w72), 0, none⟩ : Addr)) 1 1)])) w83 (fun (v85 : Value) => (fun (w86 : World) => (∃ o87 : Option Addr, (∃ n88 : Nat, (∃ n89 : Nat, ((v85 = (Value.slice o87 n88 n89)) ∧
(∃ s90 : ByteArray, (((w86.cell? (⟨(hs w), 0, none⟩ : Addr)) = (some (Value.string s90))) ∧
(∃ x91 : Int, (((w86.cell? (⟨(hs w), 1, none⟩ : Addr)) = (some (Value.int IntKind.i64 x91))) ∧
(∃ o92 : Option Addr, (∃ n93 : Nat, (∃ n94 : Nat, (((w86.cell? (⟨(hs w), 2, none⟩ : Addr)) = (some (Value.slice o92 n93 n94))) ∧
(Calls Try.prog 100 #[(Value.agg #[(Value.string s90), (Value.int IntKind.i64 x91), (Value.slice o92 n93 n94)]), (Value.slice o76 n77 n78)] w86 (fun (e95 : Ending) => (fun (w96 : World) => (∃ o97 : Option Addr, (∃ n98 : Nat, (∃ n99 : Nat, (∃ b100 : Bool, ((e95 = (Ending.returned (Value.tuple #[(Value.slice o97 n98 n99), (Value.bool b100)]))) ∧
(((b100 = true) →
(∃ n102 : Nat, ((n102 < n70) ∧
(k68 n102 o87 n88 n89 o97 n98 n99 true w96)))) ∧
((b100 = false) →
(∃ n104 : Nat, ((n104 < n70) ∧
(k68 n104 o87 n88 n89 o97 n98 n99 false w96))))))))))))))))))))))))))))))) ∧
(((decide (((n74 : Nat) : Int) < most)) = false) →
(R (Ending.returned (Value.slice o73 n74 n75)) w72)))) ∧
((b79 = false) →
(R (Ending.returned (Value.slice o73 n74 n75)) w72))))))))))))))))))))))))))))))))))))))))))))))))))))))) :
    Calls Try.prog 61 #[(.agg #[(.string t_Name), (.int .i64 t_Version), (.slice t_Questions t_Questions_n t_Questions_c)]), (.int .i64 most)] w R :=
  calls_of_vc an61 Try.func61 rfl (by kernel_rfl) (by kernel_rfl) (Eq.mp (by kernel_rfl) h)

/-- samaritan/samaritanref13.next -/
def an100 : An := (.seq (.reg []) (.seq (.reg []) (.cut [(6, .slice)] (.seq (.reg [(2, 0, true)]) (.cond (.seq (.reg []) (.seq (.seq (.reg []) (.blk (.loop [(7, .slice), (8, .int .i64)] (.seq (.seq (.reg [(4, 0, true)]) (.cond .nil .nil)) (.seq (.blk (.regD [(18, 1, false)] [0, 1, 2, 3, 4, 5, 6, 7, 8, 9, 10, 11, 12, 13, 14, 15, 16, 17, 18, 19] [17, 18])) (.reg [])))))) (.seq (.reg []) (.seq (.blk (.loop [(9, .int .i64)] (.seq (.seq (.regD [(1, 0, true), (18, 0, true)] [0, 1, 2, 3, 4, 5, 6, 7, 8, 9, 10, 11, 12, 13, 14, 15, 16, 17, 18, 19] []) (.cond .nil .nil)) (.blk (.reg []))))) (.seq (.seq (.reg [(1, 0, true)]) (.cond (.seq (.reg []) .nil) .nil)) (.regE [(3, 2, false), (4, 1, false), (11, 1, false)] (.take 0 (.take 1 (.take 2 (.take 3 (.take 5 (.take 6 (.take 7 (.take 8 (.take 9 (.eff (.alt (.one 4 (.eff (.one 10 (.eff (.one 11 (.take 12 .nil)))))) (.one 10 (.eff (.one 4 (.eff (.one 11 (.take 12 .nil))))))))))))))))) [4, 10, 11])))))) .nil)) (.seq (.reg []) (.seq (.seq (.reg []) (.blk (.loop [(10, .int .i64), (11, .int .i64)] (.seq (.seq (.reg [(3, 0, true)]) (.cond .nil .nil)) (.seq (.blk (.regD [] [0, 1, 2, 3, 4, 5, 6, 7, 8, 9, 10, 11, 12, 13] [])) (.reg [])))))) (.seq (.blk (.loop [(6, .slice), (10, .int .i64)] (.seq (.seq (.reg [(1, 0, true)]) (.cond .nil .nil)) (.blk (.seq (.reg [(2, 1, false)]) (.reg [])))))) (.seq (.reg []) .nil)))))))
set_option maxRecDepth 100000 in
theorem nf100 (t_Name : ByteArray) (t_Version : Int) (t_Questions : Option Addr) (t_Questions_n : Nat) (t_Questions_c : Nat) (way : Option Addr) (way_n : Nat) (way_c : Nat) (w : World) (R : Ending → World → Prop) (h :
(∀ w1 : World, ((w1 = (w.alloc (Obj.cells #[(Value.string t_Name), (Value.int IntKind.i64 t_Version), (Value.slice t_Questions t_Questions_n t_Questions_c)] 24 (0, 0)))) →
(∀ w3 : World, ((w3 = (w1.alloc (Obj.cells #[] 3 (0, 0)))) →
(∀ k5 : (Option Addr → (Nat → (Nat → (World → Prop)))), ((∀ w7 : World, (∀ o8 : Option Addr, (∀ n9 : Nat, (∀ n10 : Nat, (((Nat → Value) →
(∃ k13 : (Nat → (Int → (Int → (World → Prop)))), ((∃ n14 : Nat, (k13 n14 0 0 w7)) ∧
(∀ n15 : Nat, ((Nat → Value) →
(∀ w17 : World, (∀ x18 : Int, (∀ x19 : Int, ((k13 n15 x18 x19 w17) →
((((decide (x19 < ((n9 : Nat) : Int))) = true) →
(∀ w22 : World, ((w22 = w17.drew) →
(∃ o24 : Option Addr, (∃ n25 : Nat, (∃ n26 : Nat, (((w22.cell? (⟨(hs w), 2, none⟩ : Addr)) = (some (Value.slice o24 n25 n26))) ∧
(∃ a27 : Addr, ((o24 = (some a27)) ∧
((((0 : Int) ≤ x18) ∧
(x18 < ((n25 : Nat) : Int))) ∧
(∃ o28 : Option Addr, (∃ n29 : Nat, (∃ n30 : Nat, (((w22.cell? (Addr.add (Addr.add a27 ((x18).toNat * 2)) 1)) = (some (Value.slice o28 n29 n30))) ∧
(∃ a31 : Addr, ((o8 = (some a31)) ∧
((((0 : Int) ≤ x19) ∧
(x19 < ((n9 : Nat) : Int))) ∧
(∃ x32 : Int, (((w22.cell? (Addr.add a31 ((x19).toNat * 1))) = (some (Value.int IntKind.i64 x32))) ∧
(∃ a33 : Addr, ((o28 = (some a33)) ∧
((((0 : Int) ≤ x32) ∧
(x32 < ((n29 : Nat) : Int))) ∧
(∃ x34 : Int, (((w22.cell? (Addr.add (Addr.add a33 ((x32).toNat * 4)) 1)) = (some (Value.int IntKind.i64 x34))) ∧
(∃ n35 : Nat, ((n35 < n15) ∧
(k13 n35 x34 (IntKind.wrap IntKind.i64 (x19 + 1)) w22))))))))))))))))))))))))))) ∧
(((decide (x19 < ((n9 : Nat) : Int))) = false) →
(∃ k37 : (Nat → (Option Addr → (Nat → (Nat → (Int → (World → Prop)))))), ((∃ n38 : Nat, (k37 n38 o8 n9 n10 x18 w17)) ∧
(∀ n39 : Nat, ((Nat → Value) →
(∀ w41 : World, (∀ o42 : Option Addr, (∀ n43 : Nat, (∀ n44 : Nat, (∀ x45 : Int, ((k37 n39 o42 n43 n44 x45 w41) →
((((!(decide (x45 = (-1)))) = true) →
(∀ w48 : World, ((w48 = (w41.alloc (Obj.cells #[(Value.int IntKind.i64 0)] 3 (0, 0)))) →
(RunOk Try.prog (Nf.Hold (Builtin.append_ #[48, 48] 48 #[(Value.slice o42 n43 n44), (Value.slice (some (⟨(hs w41), 0, none⟩ : Addr)) 1 1)])) w48 (fun (v50 : Value) => (fun (w51 : World) => (∃ o52 : Option Addr, (∃ n53 : Nat, (∃ n54 : Nat, ((v50 = (Value.slice o52 n53 n54)) ∧
(∃ o55 : Option Addr, (∃ n56 : Nat, (∃ n57 : Nat, (((w51.cell? (⟨(hs w), 2, none⟩ : Addr)) = (some (Value.slice o55 n56 n57))) ∧
(∃ a58 : Addr, ((o55 = (some a58)) ∧
((((0 : Int) ≤ x45) ∧
(x45 < ((n56 : Nat) : Int))) ∧
(∃ o59 : Option Addr, (∃ n60 : Nat, (∃ n61 : Nat, (((w51.cell? (Addr.add (Addr.add a58 ((x45).toNat * 2)) 1)) = (some (Value.slice o59 n60 n61))) ∧
(∃ a62 : Addr, ((o59 = (some a62)) ∧
((((0 : Int) ≤ 0) ∧
(0 < ((n60 : Nat) : Int))) ∧
(∃ x63 : Int, (((w51.cell? (Addr.add a62 1)) = (some (Value.int IntKind.i64 x63))) ∧
(∃ n64 : Nat, ((n64 < n39) ∧
(k37 n64 o52 n53 n54 x63 w51))))))))))))))))))))))))))))) ∧
(((!(decide (x45 = (-1)))) = false) →
(R (Ending.returned (Value.tuple #[(Value.slice o42 n43 n44), (Value.bool true)])) w41)))))))))))))))))))))))) →
(k5 o8 n9 n10 w7)))))) →
((((decide (((way_n : Nat) : Int) > 0)) = true) →
(∀ w67 : World, ((w67 = (w3.alloc (Obj.cells #[(Value.int IntKind.i64 0)] 3 (0, 0)))) →
(∃ k69 : (Nat → (Option Addr → (Nat → (Nat → (Int → (World → Prop)))))), ((∃ n70 : Nat, (k69 n70 (some (⟨(hs w3), 0, none⟩ : Addr)) 1 1 0 w67)) ∧
(∀ n71 : Nat, ((Nat → Value) →
(∀ w73 : World, (∀ o74 : Option Addr, (∀ n75 : Nat, (∀ n76 : Nat, (∀ x77 : Int, ((k69 n71 o74 n75 n76 x77 w73) →
((((decide ((IntKind.wrap IntKind.i64 (x77 + 1)) < ((way_n : Nat) : Int))) = true) →
(∀ w80 : World, ((w80 = w73.drew) →
(∃ o82 : Option Addr, (∃ n83 : Nat, (∃ n84 : Nat, (((w80.cell? (⟨(hs w), 2, none⟩ : Addr)) = (some (Value.slice o82 n83 n84))) ∧
(∃ a85 : Addr, ((o74 = (some a85)) ∧
((((0 : Int) ≤ x77) ∧
(x77 < ((n75 : Nat) : Int))) ∧
(∃ x86 : Int, (((w80.cell? (Addr.add a85 ((x77).toNat * 1))) = (some (Value.int IntKind.i64 x86))) ∧
(∃ a87 : Addr, ((o82 = (some a87)) ∧
((((0 : Int) ≤ x86) ∧
(x86 < ((n83 : Nat) : Int))) ∧
(∃ o88 : Option Addr, (∃ n89 : Nat, (∃ n90 : Nat, (((w80.cell? (Addr.add (Addr.add a87 ((x86).toNat * 2)) 1)) = (some (Value.slice o88 n89 n90))) ∧
(∃ a91 : Addr, ((way = (some a91)) ∧
((((0 : Int) ≤ x77) ∧
(x77 < ((way_n : Nat) : Int))) ∧
(∃ x92 : Int, (((w80.cell? (Addr.add a91 ((x77).toNat * 1))) = (some (Value.int IntKind.i64 x92))) ∧
(∃ a93 : Addr, ((o88 = (some a93)) ∧
((((0 : Int) ≤ x92) ∧
(x92 < ((n89 : Nat) : Int))) ∧
(∃ x94 : Int, (((w80.cell? (Addr.add (Addr.add a93 ((x92).toNat * 4)) 1)) = (some (Value.int IntKind.i64 x94))) ∧
(∀ w95 : World, ((w95 = (w80.alloc (Obj.cells #[(Value.int IntKind.i64 x94)] 3 (0, 0)))) →
(RunOk Try.prog (Nf.Hold (Builtin.append_ #[48, 48] 48 #[(Value.slice o74 n75 n76), (Value.slice (some (⟨(hs w80), 0, none⟩ : Addr)) 1 1)])) w95 (fun (v97 : Value) => (fun (w98 : World) => (∃ o99 : Option Addr, (∃ n100 : Nat, (∃ n101 : Nat, ((v97 = (Value.slice o99 n100 n101)) ∧
(∃ n102 : Nat, ((n102 < n71) ∧
(k69 n102 o99 n100 n101 (IntKind.wrap IntKind.i64 (x77 + 1)) w98))))))))))))))))))))))))))))))))))))))))) ∧
(((decide ((IntKind.wrap IntKind.i64 (x77 + 1)) < ((way_n : Nat) : Int))) = false) →
(∃ k104 : (Nat → (Int → (World → Prop))), ((∃ n105 : Nat, (k104 n105 (IntKind.wrap IntKind.i64 (((way_n : Nat) : Int) - 1)) w73)) ∧
(∀ n106 : Nat, ((Nat → Value) →
(∀ w108 : World, (∀ x109 : Int, ((k104 n106 x109 w108) →
(∀ w111 : World, ((w111 = w108.drew) →
((((decide (x109 ≥ 0)) = true) →
(∃ a114 : Addr, ((way = (some a114)) ∧
((((0 : Int) ≤ x109) ∧
(x109 < ((way_n : Nat) : Int))) ∧
(∃ x115 : Int, (((w111.cell? (Addr.add a114 ((x109).toNat * 1))) = (some (Value.int IntKind.i64 x115))) ∧
(∃ o116 : Option Addr, (∃ n117 : Nat, (∃ n118 : Nat, (((w111.cell? (⟨(hs w), 2, none⟩ : Addr)) = (some (Value.slice o116 n117 n118))) ∧
(∃ a119 : Addr, ((o74 = (some a119)) ∧
((((0 : Int) ≤ x109) ∧
(x109 < ((n75 : Nat) : Int))) ∧
(∃ x120 : Int, (((w111.cell? (Addr.add a119 ((x109).toNat * 1))) = (some (Value.int IntKind.i64 x120))) ∧
(∃ a121 : Addr, ((o116 = (some a121)) ∧
((((0 : Int) ≤ x120) ∧
(x120 < ((n117 : Nat) : Int))) ∧
(∃ o122 : Option Addr, (∃ n123 : Nat, (∃ n124 : Nat, (((w111.cell? (Addr.add (Addr.add a121 ((x120).toNat * 2)) 1)) = (some (Value.slice o122 n123 n124))) ∧
((((decide ((IntKind.wrap IntKind.i64 (x115 + 1)) ≥ ((n123 : Nat) : Int))) = true) →
(∃ n126 : Nat, ((n126 < n106) ∧
(k104 n126 (IntKind.wrap IntKind.i64 (x109 - 1)) w111)))) ∧
(((decide ((IntKind.wrap IntKind.i64 (x115 + 1)) ≥ ((n123 : Nat) : Int))) = false) →
((((decide (x109 < 0)) = true) →
(R (Ending.returned (Value.tuple #[(Value.slice none 0 0), (Value.bool false)])) w111)) ∧
(((decide (x109 < 0)) = false) →
(∀ w130 : World, ((w130 = w111.drew) →
((((0 : Int) ≤ x109) ∧
(x109 ≤ ((way_c : Nat) : Int))) ∧
(∃ a132 : Addr, ((way = (some a132)) ∧
((((0 : Int) ≤ x109) ∧
(x109 < ((way_n : Nat) : Int))) ∧
(∃ x133 : Int, (((w130.cell? (Addr.add a132 ((x109).toNat * 1))) = (some (Value.int IntKind.i64 x133))) ∧
((RunOk Try.prog (Nf.Hold (Builtin.append_ #[48, 48] 48 #[(Value.slice (some (⟨(hs w1), 0, none⟩ : Addr)) 0 0), (Value.slice (if (way_c = 0) then way else (Option.map (fun (x : Addr) => x) way)) ((x109).toNat - 0) (way_c - 0))])) w130 (fun (v134 : Value) => (fun (w135 : World) => (∃ o136 : Option Addr, (∃ n137 : Nat, (∃ n138 : Nat, ((v134 = (Value.slice o136 n137 n138)) ∧
((Nf.Kept w130 w135 (Addr.add a132 ((x109).toNat * 1)) 1) ∧
(∀ w139 : World, ((w139 = (w135.alloc (Obj.cells #[(Value.int IntKind.i64 (IntKind.wrap IntKind.i64 (x133 + 1)))] 3 (0, 0)))) →
(RunOk Try.prog (Nf.Hold (Builtin.append_ #[48, 48] 48 #[(Value.slice o136 n137 n138), (Value.slice (some (⟨(hs w135), 0, none⟩ : Addr)) 1 1)])) w139 (fun (v141 : Value) => (fun (w142 : World) => (∃ o143 : Option Addr, (∃ n144 : Nat, (∃ n145 : Nat, ((v141 = (Value.slice o143 n144 n145)) ∧
(k5 o143 n144 n145 w142)))))))))))))))))) ∧
(∀ w146 : World, ((w146 = (w130.alloc (Obj.cells #[(Value.int IntKind.i64 (IntKind.wrap IntKind.i64 (x133 + 1)))] 3 (0, 0)))) →
(RunOk Try.prog (Nf.Hold (Builtin.append_ #[48, 48] 48 #[(Value.slice (some (⟨(hs w1), 0, none⟩ : Addr)) 0 0), (Value.slice (if (way_c = 0) then way else (Option.map (fun (x : Addr) => x) way)) ((x109).toNat - 0) (way_c - 0))])) w146 (fun (v148 : Value) => (fun (w149 : World) => (∃ o150 : Option Addr, (∃ n151 : Nat, (∃ n152 : Nat, ((v148 = (Value.slice o150 n151 n152)) ∧
(RunOk Try.prog (Nf.Hold (Builtin.append_ #[48, 48] 48 #[(Value.slice o150 n151 n152), (Value.slice (some (⟨(hs w130), 0, none⟩ : Addr)) 1 1)])) w149 (fun (v153 : Value) => (fun (w154 : World) => (∃ o155 : Option Addr, (∃ n156 : Nat, (∃ n157 : Nat, ((v153 = (Value.slice o155 n156 n157)) ∧
(k5 o155 n156 n157 w154)))))))))))))))))))))))))))))))))))))))))))))))))))) ∧
(((decide (x109 ≥ 0)) = false) →
((((decide (x109 < 0)) = true) →
(R (Ending.returned (Value.tuple #[(Value.slice none 0 0), (Value.bool false)])) w111)) ∧
(((decide (x109 < 0)) = false) →
(∀ w161 : World, ((w161 = w111.drew) →
((((0 : Int) ≤ x109) ∧
(x109 ≤ ((way_c : Nat) : Int))) ∧
(∃ a163 : Addr, ((way = (some a163)) ∧
((((0 : Int) ≤ x109) ∧
(x109 < ((way_n : Nat) : Int))) ∧
(∃ x164 : Int, (((w161.cell? (Addr.add a163 ((x109).toNat * 1))) = (some (Value.int IntKind.i64 x164))) ∧
((RunOk Try.prog (Nf.Hold (Builtin.append_ #[48, 48] 48 #[(Value.slice (some (⟨(hs w1), 0, none⟩ : Addr)) 0 0), (Value.slice (if (way_c = 0) then way else (Option.map (fun (x : Addr) => x) way)) ((x109).toNat - 0) (way_c - 0))])) w161 (fun (v165 : Value) => (fun (w166 : World) => (∃ o167 : Option Addr, (∃ n168 : Nat, (∃ n169 : Nat, ((v165 = (Value.slice o167 n168 n169)) ∧
((Nf.Kept w161 w166 (Addr.add a163 ((x109).toNat * 1)) 1) ∧
(∀ w170 : World, ((w170 = (w166.alloc (Obj.cells #[(Value.int IntKind.i64 (IntKind.wrap IntKind.i64 (x164 + 1)))] 3 (0, 0)))) →
(RunOk Try.prog (Nf.Hold (Builtin.append_ #[48, 48] 48 #[(Value.slice o167 n168 n169), (Value.slice (some (⟨(hs w166), 0, none⟩ : Addr)) 1 1)])) w170 (fun (v172 : Value) => (fun (w173 : World) => (∃ o174 : Option Addr, (∃ n175 : Nat, (∃ n176 : Nat, ((v172 = (Value.slice o174 n175 n176)) ∧
(k5 o174 n175 n176 w173)))))))))))))))))) ∧
(∀ w177 : World, ((w177 = (w161.alloc (Obj.cells #[(Value.int IntKind.i64 (IntKind.wrap IntKind.i64 (x164 + 1)))] 3 (0, 0)))) →
(RunOk Try.prog (Nf.Hold (Builtin.append_ #[48, 48] 48 #[(Value.slice (some (⟨(hs w1), 0, none⟩ : Addr)) 0 0), (Value.slice (if (way_c = 0) then way else (Option.map (fun (x : Addr) => x) way)) ((x109).toNat - 0) (way_c - 0))])) w177 (fun (v179 : Value) => (fun (w180 : World) => (∃ o181 : Option Addr, (∃ n182 : Nat, (∃ n183 : Nat, ((v179 = (Value.slice o181 n182 n183)) ∧
(RunOk Try.prog (Nf.Hold (Builtin.append_ #[48, 48] 48 #[(Value.slice o181 n182 n183), (Value.slice (some (⟨(hs w161), 0, none⟩ : Addr)) 1 1)])) w180 (fun (v184 : Value) => (fun (w185 : World) => (∃ o186 : Option Addr, (∃ n187 : Nat, (∃ n188 : Nat, ((v184 = (Value.slice o186 n187 n188)) ∧
(k5 o186 n187 n188 w185)))))))))))))))))))))))))))))))))))))))))))))))))))))) ∧
(((decide (((way_n : Nat) : Int) > 0)) = false) →
(k5 (some (⟨(hs w1), 0, none⟩ : Addr)) 0 0 w3)))))))))) :
    Calls Try.prog 100 #[(.agg #[(.string t_Name), (.int .i64 t_Version), (.slice t_Questions t_Questions_n t_Questions_c)]), (.slice way way_n way_c)] w R :=
  calls_of_vc an100 Try.func100 rfl (by kernel_rfl) (by kernel_rfl) (Eq.mp (by kernel_rfl) h)

end Go.Proofs.Ytbaacpfjecbbgaa
