/- The contracts' premises: for each function, the proposition that its body comes to (printed by the tool of wip/nf). -/
import Derived.Test.YtbaacpfjecbbgaaRows
import Derived.Test.YtbaacpfjecbbgaaNfD
namespace Go.Proofs.Ytbaacpfjecbbgaa
open Go Go.Nf

/-- sort.Search -/
def an114 : An := (.seq (.reg []) (.seq (.reg []) (.seq (.blk (.loop [(5, .int .i64), (6, .int .i64)] (.seq (.seq (.reg [(2, 0, true)]) (.cond .nil .nil)) (.blk (.seq (.reg []) (.seq (.reg [(2, 1, true)]) (.cond (.reg []) (.reg [])))))))) (.seq (.reg []) .nil))))
set_option maxRecDepth 100000 in
theorem nf114 (n : Int) (f_f : Fn) (f_a : Array Value) (f_c : Array Value) (w : World) (R : Ending → World → Prop) (h :
(∃ k1 : (Nat → (Int → (Int → (World → Prop)))), ((∃ n2 : Nat, (k1 n2 0 n w)) ∧
(∀ n3 : Nat, ((Nat → Value) →
(∀ w5 : World, (∀ x6 : Int, (∀ x7 : Int, ((k1 n3 x6 x7 w5) →
((((decide (x6 < x7)) = true) →
(CallsV Try.prog (Value.func f_f f_a f_c) [(Value.int IntKind.i64 (IntKind.wrap IntKind.i64 (Int.fdiv (IntKind.wrap IntKind.u64 (IntKind.wrap IntKind.i64 (x6 + x7))) 2)))] w5 (fun (e10 : Ending) => (fun (w11 : World) => (∃ b12 : Bool, ((e10 = (Ending.returned (Value.bool b12))) ∧
(((b12 = true) →
(∃ n14 : Nat, ((n14 < n3) ∧
(k1 n14 x6 (IntKind.wrap IntKind.i64 (Int.fdiv (IntKind.wrap IntKind.u64 (IntKind.wrap IntKind.i64 (x6 + x7))) 2)) w11)))) ∧
((b12 = false) →
(∃ n16 : Nat, ((n16 < n3) ∧
(k1 n16 (IntKind.wrap IntKind.i64 ((IntKind.wrap IntKind.i64 (Int.fdiv (IntKind.wrap IntKind.u64 (IntKind.wrap IntKind.i64 (x6 + x7))) 2)) + 1)) x7 w11))))))))))) ∧
(((decide (x6 < x7)) = false) →
(R (Ending.returned (Value.int IntKind.i64 x6)) w5)))))))))))) :
    Calls Try.prog 114 #[(.int .i64 n), (.func f_f f_a f_c)] w R :=
  calls_of_vc an114 Try.func114 rfl (by kernel_rfl) (by kernel_rfl) (Eq.mp (by kernel_rfl) h)

/-- (*samaritan/protocolstore.Store).find$1 -/
def an115 : An := (.seq (.reg []) (.seq (.reg [(1, 2, false)]) (.seq (.seq (.regD [(5, 3, true)] [0, 1, 2, 3, 4, 5] []) (.cond (.seq (.regD [(5, 1, true)] [0, 1, 2, 3, 4, 5, 6] [5]) .nil) .nil)) (.seq (.regD [(5, 0, true)] [0, 1, 2, 3, 4, 5, 6] []) .nil))))
set_option maxRecDepth 100000 in
theorem nf115 (k : Int) (c0 : Nat) (c1 : Nat) (c2 : Nat) (w : World) (R : Ending → World → Prop) (h :
(∃ o1 : Option Addr, (((w.cell? (⟨c0, 0, none⟩ : Addr)) = (some (Value.pointer o1))) ∧
(∃ a2 : Addr, ((o1 = (some a2)) ∧
(∃ o3 : Option Addr, (∃ n4 : Nat, (∃ n5 : Nat, (((w.cell? a2) = (some (Value.slice o3 n4 n5))) ∧
(∃ a6 : Addr, ((o3 = (some a6)) ∧
((((0 : Int) ≤ k) ∧
(k < ((n4 : Nat) : Int))) ∧
(∀ w7 : World, ((w7 = w.drew) →
(∃ s9 : ByteArray, (((w7.cell? (Addr.add a6 ((k).toNat * 3))) = (some (Value.string s9))) ∧
(∃ s10 : ByteArray, (((w7.cell? (⟨c1, 0, none⟩ : Addr)) = (some (Value.string s10))) ∧
((((!(Nf.strEq s9 s10)) = true) →
(∀ w12 : World, ((w12 = w7.drew) →
(∃ s14 : ByteArray, (((w12.cell? (Addr.add a6 ((k).toNat * 3))) = (some (Value.string s14))) ∧
(∃ s15 : ByteArray, (((w12.cell? (⟨c1, 0, none⟩ : Addr)) = (some (Value.string s15))) ∧
(RunOk Try.prog (Nf.Hold (Nf.binOpSem BinOp.gtr 9 (Operand.tmp 22) (Operand.tmp 23) (Value.string s14) (Value.string s15))) w12 (fun (v16 : Value) => (fun (w17 : World) => (∃ b18 : Bool, ((v16 = (Value.bool b18)) ∧
(((b18 = true) →
(R (Ending.returned (Value.bool true)) w17)) ∧
((b18 = false) →
(R (Ending.returned (Value.bool false)) w17))))))))))))))) ∧
(((!(Nf.strEq s9 s10)) = false) →
(∀ w22 : World, ((w22 = w7.drew) →
(∃ x24 : Int, (((w22.cell? (Addr.add (Addr.add a6 ((k).toNat * 3)) 1)) = (some (Value.int IntKind.i64 x24))) ∧
(∃ x25 : Int, (((w22.cell? (⟨c2, 0, none⟩ : Addr)) = (some (Value.int IntKind.i64 x25))) ∧
((((decide (x24 ≥ x25)) = true) →
(R (Ending.returned (Value.bool true)) w22)) ∧
(((decide (x24 ≥ x25)) = false) →
(R (Ending.returned (Value.bool false)) w22))))))))))))))))))))))))))))) :
    Calls Try.prog 115 #[(.int .i64 k), (.pointer (some ⟨c0, 0, none⟩)), (.pointer (some ⟨c1, 0, none⟩)), (.pointer (some ⟨c2, 0, none⟩))] w R :=
  calls_of_vc an115 Try.func115 rfl (by kernel_rfl) (by kernel_rfl) (Eq.mp (by kernel_rfl) h)

/-- (*samaritan/protocolstore.Store).newest$1 -/
def an116 : An := (.seq (.reg []) (.seq (.regD [(1, 2, false), (9, 1, true)] [0, 1, 2, 3, 4, 5, 6, 7, 8, 9, 10] [9]) .nil))
set_option maxRecDepth 100000 in
theorem nf116 (k : Int) (c0 : Nat) (c1 : Nat) (w : World) (R : Ending → World → Prop) (h :
(∀ w1 : World, ((w1 = w.drew) →
(∃ o3 : Option Addr, (((w1.cell? (⟨c0, 0, none⟩ : Addr)) = (some (Value.pointer o3))) ∧
(∃ a4 : Addr, ((o3 = (some a4)) ∧
(∃ o5 : Option Addr, (∃ n6 : Nat, (∃ n7 : Nat, (((w1.cell? a4) = (some (Value.slice o5 n6 n7))) ∧
(∃ a8 : Addr, ((o5 = (some a8)) ∧
((((0 : Int) ≤ k) ∧
(k < ((n6 : Nat) : Int))) ∧
(∃ s9 : ByteArray, (((w1.cell? (Addr.add a8 ((k).toNat * 3))) = (some (Value.string s9))) ∧
(∃ s10 : ByteArray, (((w1.cell? (⟨c1, 0, none⟩ : Addr)) = (some (Value.string s10))) ∧
(RunOk Try.prog (Nf.Hold (Nf.binOpSem BinOp.gtr 9 (Operand.tmp 12) (Operand.tmp 13) (Value.string s9) (Value.string s10))) w1 (fun (v11 : Value) => (fun (w12 : World) => (∃ b13 : Bool, ((v11 = (Value.bool b13)) ∧
(((b13 = true) →
(R (Ending.returned (Value.bool true)) w12)) ∧
((b13 = false) →
(R (Ending.returned (Value.bool false)) w12)))))))))))))))))))))))))) :
    Calls Try.prog 116 #[(.int .i64 k), (.pointer (some ⟨c0, 0, none⟩)), (.pointer (some ⟨c1, 0, none⟩))] w R :=
  calls_of_vc an116 Try.func116 rfl (by kernel_rfl) (by kernel_rfl) (Eq.mp (by kernel_rfl) h)

/-- samaritan/samaritanref15.Names -/
def an104 : An := (.seq (.reg []) (.seq (.reg []) (.seq (.seq (.reg []) (.blk (.loop [(3, .slice), (4, .int .i64)] (.seq (.seq (.reg [(4, 0, true)]) (.cond .nil .nil)) (.seq (.blk (.seq (.reg []) (.seq (.reg []) (.seq (.seq (.reg []) (.blk (.loop [(5, .slice), (6, .bool), (7, .int .i64)] (.seq (.seq (.reg [(3, 0, true)]) (.cond .nil .nil)) (.seq (.blk (.cut [(6, .bool)] (.seq (.regD [(10, 3, true)] [0, 1, 2, 3, 4, 5, 6, 7, 8, 9, 10] []) (.cond (.reg []) .nil)) (.cut [(5, .slice), (6, .bool)] (.seq (.regD [(0, 0, true), (13, 1, true)] [0, 1, 2, 3, 4, 5, 6, 7, 8, 9, 10, 11, 12, 13, 14] [13]) (.cond (.seq (.reg []) (.reg [(8, 1, false)])) .nil)) (.reg [(6, 1, false)])))) (.reg [])))))) (.cut [(5, .slice)] (.seq (.reg [(0, 0, true)]) (.cond (.reg [(8, 1, false)]) .nil)) (.reg [])))))) (.reg [])))))) (.seq (.reg []) .nil))))
set_option maxRecDepth 100000 in
theorem nf104 (b_L : Option Addr) (b_L_n : Nat) (b_L_c : Nat) (b_P : Option Addr) (b_P_n : Nat) (b_P_c : Nat) (w : World) (R : Ending → World → Prop) (h :
(∀ w1 : World, ((w1 = (w.alloc (Obj.cells #[(Value.slice b_L b_L_n b_L_c), (Value.slice b_P b_P_n b_P_c)] 74 (0, 0)))) →
(∃ k3 : (Nat → (Option Addr → (Nat → (Nat → (Int → (World → Prop)))))), ((∃ n4 : Nat, (k3 n4 none 0 0 0 w1)) ∧
(∀ n5 : Nat, ((Nat → Value) →
(∀ w7 : World, (∀ o8 : Option Addr, (∀ n9 : Nat, (∀ n10 : Nat, (∀ x11 : Int, ((k3 n5 o8 n9 n10 x11 w7) →
(∃ o13 : Option Addr, (∃ n14 : Nat, (∃ n15 : Nat, (((w7.cell? (⟨(hs w), 0, none⟩ : Addr)) = (some (Value.slice o13 n14 n15))) ∧
((((decide (x11 < ((n14 : Nat) : Int))) = true) →
(∃ k17 : (Nat → (Option Addr → (Nat → (Nat → (Bool → (Int → (World → Prop))))))), ((∃ n18 : Nat, (k17 n18 none 0 0 false 0 w7)) ∧
(∀ n19 : Nat, ((Nat → Value) →
(∀ w21 : World, (∀ o22 : Option Addr, (∀ n23 : Nat, (∀ n24 : Nat, (∀ b25 : Bool, (∀ x26 : Int, ((k17 n19 o22 n23 n24 b25 x26 w21) →
((((decide (x26 < ((n9 : Nat) : Int))) = true) →
(∀ k29 : (Bool → (World → Prop)), ((∀ w31 : World, (∀ b32 : Bool, (((Nat → Value) →
(∀ k35 : (Option Addr → (Nat → (Nat → (Bool → (World → Prop))))), ((∀ w37 : World, (∀ o38 : Option Addr, (∀ n39 : Nat, (∀ n40 : Nat, (∀ b41 : Bool, (((Nat → Value) →
(∃ a44 : Addr, ((o8 = (some a44)) ∧
((((0 : Int) ≤ x26) ∧
(x26 < ((n9 : Nat) : Int))) ∧
(∃ s45 : ByteArray, (((w37.cell? (Addr.add a44 ((x26).toNat * 1))) = (some (Value.string s45))) ∧
(∀ w46 : World, ((w46 = (w37.alloc (Obj.cells #[(Value.string s45)] 9 (0, 0)))) →
(RunOk Try.prog (Nf.Hold (Builtin.append_ #[83, 83] 83 #[(Value.slice o38 n39 n40), (Value.slice (some (⟨(hs w37), 0, none⟩ : Addr)) 1 1)])) w46 (fun (v48 : Value) => (fun (w49 : World) => (∃ o50 : Option Addr, (∃ n51 : Nat, (∃ n52 : Nat, ((v48 = (Value.slice o50 n51 n52)) ∧
(∃ n53 : Nat, ((n53 < n19) ∧
(k17 n53 o50 n51 n52 b41 (IntKind.wrap IntKind.i64 (x26 + 1)) w49)))))))))))))))))) →
(k35 o38 n39 n40 b41 w37))))))) →
(∀ w54 : World, ((w54 = w31.drew) →
(((b32 = true) →
(k35 o22 n23 n24 b32 w54)) ∧
((b32 = false) →
(∃ a58 : Addr, ((o8 = (some a58)) ∧
((((0 : Int) ≤ x26) ∧
(x26 < ((n9 : Nat) : Int))) ∧
(∃ s59 : ByteArray, (((w54.cell? (Addr.add a58 ((x26).toNat * 1))) = (some (Value.string s59))) ∧
(∃ o60 : Option Addr, (∃ n61 : Nat, (∃ n62 : Nat, (((w54.cell? (⟨(hs w), 0, none⟩ : Addr)) = (some (Value.slice o60 n61 n62))) ∧
(∃ a63 : Addr, ((o60 = (some a63)) ∧
((((0 : Int) ≤ x11) ∧
(x11 < ((n61 : Nat) : Int))) ∧
(∃ s64 : ByteArray, (((w54.cell? (Addr.add a63 ((x11).toNat * 3))) = (some (Value.string s64))) ∧
(RunOk Try.prog (Nf.Hold (Nf.binOpSem BinOp.gtr 9 (Operand.tmp 38) (Operand.tmp 44) (Value.string s59) (Value.string s64))) w54 (fun (v65 : Value) => (fun (w66 : World) => (∃ b67 : Bool, ((v65 = (Value.bool b67)) ∧
(((b67 = true) →
(∃ o69 : Option Addr, (∃ n70 : Nat, (∃ n71 : Nat, (((w66.cell? (⟨(hs w), 0, none⟩ : Addr)) = (some (Value.slice o69 n70 n71))) ∧
(∃ a72 : Addr, ((o69 = (some a72)) ∧
((((0 : Int) ≤ x11) ∧
(x11 < ((n70 : Nat) : Int))) ∧
(∃ s73 : ByteArray, (((w66.cell? (Addr.add a72 ((x11).toNat * 3))) = (some (Value.string s73))) ∧
(∀ w74 : World, ((w74 = (w66.alloc (Obj.cells #[(Value.string s73)] 9 (0, 0)))) →
(RunOk Try.prog (Nf.Hold (Builtin.append_ #[83, 83] 83 #[(Value.slice o22 n23 n24), (Value.slice (some (⟨(hs w66), 0, none⟩ : Addr)) 1 1)])) w74 (fun (v76 : Value) => (fun (w77 : World) => (∃ o78 : Option Addr, (∃ n79 : Nat, (∃ n80 : Nat, ((v76 = (Value.slice o78 n79 n80)) ∧
(k35 o78 n79 n80 true w77)))))))))))))))))))) ∧
((b67 = false) →
(k35 o22 n23 n24 b32 w66))))))))))))))))))))))))))))) →
(k29 b32 w31)))) →
(∀ w82 : World, ((w82 = w21.drew) →
(∃ a84 : Addr, ((o8 = (some a84)) ∧
((((0 : Int) ≤ x26) ∧
(x26 < ((n9 : Nat) : Int))) ∧
(∃ s85 : ByteArray, (((w82.cell? (Addr.add a84 ((x26).toNat * 1))) = (some (Value.string s85))) ∧
(∃ o86 : Option Addr, (∃ n87 : Nat, (∃ n88 : Nat, (((w82.cell? (⟨(hs w), 0, none⟩ : Addr)) = (some (Value.slice o86 n87 n88))) ∧
(∃ a89 : Addr, ((o86 = (some a89)) ∧
((((0 : Int) ≤ x11) ∧
(x11 < ((n87 : Nat) : Int))) ∧
(∃ s90 : ByteArray, (((w82.cell? (Addr.add a89 ((x11).toNat * 3))) = (some (Value.string s90))) ∧
((((Nf.strEq s85 s90) = true) →
(k29 true w82)) ∧
(((Nf.strEq s85 s90) = false) →
(k29 b25 w82)))))))))))))))))))))) ∧
(((decide (x26 < ((n9 : Nat) : Int))) = false) →
(∀ k94 : (Option Addr → (Nat → (Nat → (World → Prop)))), ((∀ w96 : World, (∀ o97 : Option Addr, (∀ n98 : Nat, (∀ n99 : Nat, (((Nat → Value) →
(∃ n102 : Nat, ((n102 < n5) ∧
(k3 n102 o97 n98 n99 (IntKind.wrap IntKind.i64 (x11 + 1)) w96)))) →
(k94 o97 n98 n99 w96)))))) →
(((b25 = true) →
(k94 o22 n23 n24 w21)) ∧
((b25 = false) →
(∃ o105 : Option Addr, (∃ n106 : Nat, (∃ n107 : Nat, (((w21.cell? (⟨(hs w), 0, none⟩ : Addr)) = (some (Value.slice o105 n106 n107))) ∧
(∃ a108 : Addr, ((o105 = (some a108)) ∧
((((0 : Int) ≤ x11) ∧
(x11 < ((n106 : Nat) : Int))) ∧
(∃ s109 : ByteArray, (((w21.cell? (Addr.add a108 ((x11).toNat * 3))) = (some (Value.string s109))) ∧
(∀ w110 : World, ((w110 = (w21.alloc (Obj.cells #[(Value.string s109)] 9 (0, 0)))) →
(RunOk Try.prog (Nf.Hold (Builtin.append_ #[83, 83] 83 #[(Value.slice o22 n23 n24), (Value.slice (some (⟨(hs w21), 0, none⟩ : Addr)) 1 1)])) w110 (fun (v112 : Value) => (fun (w113 : World) => (∃ o114 : Option Addr, (∃ n115 : Nat, (∃ n116 : Nat, ((v112 = (Value.slice o114 n115 n116)) ∧
(k94 o114 n115 n116 w113))))))))))))))))))))))))))))))))))))) ∧
(((decide (x11 < ((n14 : Nat) : Int))) = false) →
(R (Ending.returned (Value.slice o8 n9 n10)) w7)))))))))))))))))))) :
    Calls Try.prog 104 #[(.agg #[(.slice b_L b_L_n b_L_c), (.slice b_P b_P_n b_P_c)])] w R :=
  calls_of_vc an104 Try.func104 rfl (by kernel_rfl) (by kernel_rfl) (Eq.mp (by kernel_rfl) h)

/-- (*samaritan/protocolstore.Store).Remove -/
def an53 : An := (.seq (.reg []) (.seq (.reg [(6, 0, true)]) (.seq (.seq (.reg []) (.cond (.seq (.reg []) .nil) .nil)) (.seq (.seq (.reg [(4, 0, true)]) (.cond (.seq (.reg []) .nil) .nil)) (.seq (.seq (.reg [(1, 2, false), (4, 1, false)]) (.blk (.loop [] (.seq (.reg [(0, 1, false), (1, 0, true)]) (.seq (.cond .nil .nil) (.blk (.seq (.reg [(0, 1, false), (1, 1, false)]) (.seq (.reg [(3, 3, true), (8, 0, true)]) (.cond (.seq (.reg []) .nil) .nil))))))))) (.seq (.regD [(1, 2, false), (5, 2, false), (7, 2, false), (12, 2, false), (13, 1, false)] [0, 1, 2, 3, 4, 5, 6, 7, 8, 9, 10, 11, 12, 13] [13]) (.seq (.regD [(1, 2, false), (5, 2, false)] [0, 1, 2, 3, 4, 5, 6, 7, 8, 9, 10, 11, 12] [12]) (.seq (.regD [(2, 2, false), (6, 2, false), (11, 2, false), (12, 2, false)] [0, 1, 2, 3, 4, 5, 6, 7, 8, 9, 10, 11, 12, 13, 14] [14]) (.seq (.reg []) .nil)))))))))
set_option maxRecDepth 100000 in
theorem nf53 (b : Option Addr) (name : ByteArray) (version : Int) (w : World) (R : Ending → World → Prop) (h :
(Calls Try.prog 83 #[(Value.pointer b), (Value.string name), (Value.int IntKind.i64 version)] w (fun (e1 : Ending) => (fun (w2 : World) => (∃ x3 : Int, (∃ b4 : Bool, ((e1 = (Ending.returned (Value.tuple #[(Value.int IntKind.i64 x3), (Value.bool b4)]))) ∧
(((b4 = true) →
(Calls Try.prog 84 #[(Value.pointer b), (Value.string name)] w2 (fun (e6 : Ending) => (fun (w7 : World) => (∃ x8 : Int, ((e6 = (Ending.returned (Value.int IntKind.i64 x8))) ∧
((((decide (x8 = x3)) = true) →
(R (Ending.returned (Value.int IntKind.i64 8)) w7)) ∧
(((decide (x8 = x3)) = false) →
(∃ a11 : Addr, ((b = (some a11)) ∧
(∃ o12 : Option Nat, (((w7.cell? (Addr.add a11 1)) = (some (Value.map o12))) ∧
(RunOk Try.prog (Nf.Hold (Instr.range 115 (Value.map o12))) w7 (fun (v13 : Value) => (fun (w14 : World) => (∃ v15 : Value, ((v13 = v15) ∧
(∃ k16 : (Nat → (World → Prop)), ((∃ n17 : Nat, (k16 n17 w14)) ∧
(∀ n18 : Nat, ((Nat → Value) →
(∀ w20 : World, ((k16 n18 w20) →
(RunOk Try.prog (Nf.Hold (Instr.next v15 false 0)) w20 (fun (v22 : Value) => (fun (w23 : World) => (∃ b24 : Bool, (∃ v25 : Value, (∃ v26 : Value, (((b24 = true) →
((v22 = (Value.tuple #[(Value.bool true), v25, v26])) ∧
(((true = true) →
(RunOk Try.prog (Nf.Hold (Instr.entry v15)) w23 (fun (v29 : Value) => (fun (w30 : World) => (∃ v31 : Value, (∃ v32 : Value, ((v29 = (Value.tuple #[v31, v32])) ∧
(∃ s33 : ByteArray, (∃ x34 : Int, ((v32 = (Value.agg #[(Value.string s33), (Value.int IntKind.i64 x34)])) ∧
(∀ w35 : World, ((w35 = (w30.alloc (Obj.cells #[(Value.string (ByteArray.mk #[])), (Value.int IntKind.i64 0)] 123 (0, 0)))) →
((Nf.There w35 (⟨(hs w30), 0, none⟩ : Addr) 2) ∧
(∀ w37 : World, ((w37 = (Nf.setCells w35 (⟨(hs w30), 0, none⟩ : Addr) [(Value.string s33), (Value.int IntKind.i64 x34)] 0)) →
(∃ s39 : ByteArray, (((w37.cell? (⟨(hs w30), 0, none⟩ : Addr)) = (some (Value.string s39))) ∧
((((Nf.strEq s39 name) = true) →
(∃ x41 : Int, (((w37.cell? (⟨(hs w30), 1, none⟩ : Addr)) = (some (Value.int IntKind.i64 x41))) ∧
((((decide (x41 = version)) = true) →
(R (Ending.returned (Value.int IntKind.i64 10)) w37)) ∧
(((decide (x41 = version)) = false) →
(∃ n44 : Nat, ((n44 < n18) ∧
(k16 n44 w37)))))))) ∧
(((Nf.strEq s39 name) = false) →
(∃ n46 : Nat, ((n46 < n18) ∧
(k16 n46 w37)))))))))))))))))))))) ∧
((true = false) →
(∀ w48 : World, ((w48 = w23.drew) →
(∃ a50 : Addr, ((b = (some a50)) ∧
(∃ o51 : Option Addr, (∃ n52 : Nat, (∃ n53 : Nat, (((w48.cell? a50) = (some (Value.slice o51 n52 n53))) ∧
((((0 : Int) ≤ x3) ∧
(x3 ≤ ((n52 : Nat) : Int))) ∧
(∃ a54 : Addr, ((b = (some a54)) ∧
(∃ o55 : Option Addr, (∃ n56 : Nat, (∃ n57 : Nat, (((w48.cell? a54) = (some (Value.slice o55 n56 n57))) ∧
((((0 : Int) ≤ (IntKind.wrap IntKind.i64 (x3 + 1))) ∧
((IntKind.wrap IntKind.i64 (x3 + 1)) ≤ ((n56 : Nat) : Int))) ∧
(RunOk Try.prog (Nf.Hold (Builtin.copy_ #[71, 71] 3 #[(Value.slice (if (n53 = (x3).toNat) then o51 else (Option.map (fun (x : Addr) => (Addr.add x ((x3).toNat * 3))) o51)) (n52 - (x3).toNat) (n53 - (x3).toNat)), (Value.slice (if (n57 = ((IntKind.wrap IntKind.i64 (x3 + 1))).toNat) then o55 else (Option.map (fun (x : Addr) => (Addr.add x (((IntKind.wrap IntKind.i64 (x3 + 1))).toNat * 3))) o55)) (n56 - ((IntKind.wrap IntKind.i64 (x3 + 1))).toNat) (n57 - ((IntKind.wrap IntKind.i64 (x3 + 1))).toNat))])) w48 (fun (v58 : Value) => (fun (w59 : World) => (∃ x60 : Int, ((v58 = (Value.int IntKind.i64 x60)) ∧
(∀ w61 : World, ((w61 = w59.drew) →
(∃ a63 : Addr, ((b = (some a63)) ∧
(∃ o64 : Option Addr, (∃ n65 : Nat, (∃ n66 : Nat, (((w61.cell? a63) = (some (Value.slice o64 n65 n66))) ∧
(∃ a67 : Addr, ((b = (some a67)) ∧
(∃ o68 : Option Addr, (∃ n69 : Nat, (∃ n70 : Nat, (((w61.cell? a67) = (some (Value.slice o68 n69 n70))) ∧
(∃ a71 : Addr, ((o64 = (some a71)) ∧
((((0 : Int) ≤ (IntKind.wrap IntKind.i64 (((n69 : Nat) : Int) - 1))) ∧
((IntKind.wrap IntKind.i64 (((n69 : Nat) : Int) - 1)) < ((n65 : Nat) : Int))) ∧
((Nf.There w61 (Addr.add a71 (((IntKind.wrap IntKind.i64 (((n69 : Nat) : Int) - 1))).toNat * 3)) 3) ∧
(∀ w72 : World, ((w72 = (Nf.setCells w61 (Addr.add a71 (((IntKind.wrap IntKind.i64 (((n69 : Nat) : Int) - 1))).toNat * 3)) [(Value.string (ByteArray.mk #[])), (Value.int IntKind.i64 0), (Value.slice none 0 0)] 0)) →
(∀ w74 : World, ((w74 = w72.drew) →
(∃ a76 : Addr, ((b = (some a76)) ∧
(∃ o77 : Option Addr, (∃ n78 : Nat, (∃ n79 : Nat, (((w74.cell? a76) = (some (Value.slice o77 n78 n79))) ∧
(∃ a80 : Addr, ((b = (some a80)) ∧
(∃ o81 : Option Addr, (∃ n82 : Nat, (∃ n83 : Nat, (((w74.cell? a80) = (some (Value.slice o81 n82 n83))) ∧
((((0 : Int) ≤ (IntKind.wrap IntKind.i64 (((n82 : Nat) : Int) - 1))) ∧
((IntKind.wrap IntKind.i64 (((n82 : Nat) : Int) - 1)) ≤ ((n79 : Nat) : Int))) ∧
(∃ a84 : Addr, ((b = (some a84)) ∧
((Nf.There w74 a84 1) ∧
(∀ w85 : World, ((w85 = (Nf.setCells w74 a84 [(Value.slice (if (n79 = 0) then o77 else (Option.map (fun (x : Addr) => x) o77)) (((IntKind.wrap IntKind.i64 (((n82 : Nat) : Int) - 1))).toNat - 0) (n79 - 0))] 0)) →
(R (Ending.returned (Value.int IntKind.i64 0)) w85)))))))))))))))))))))))))))))))))))))))))))))))))))))))))))))))))) ∧
((b24 = false) →
((v22 = (Value.tuple #[(Value.bool false)])) ∧
(((false = true) →
(RunOk Try.prog (Nf.Hold (Instr.entry v15)) w23 (fun (v89 : Value) => (fun (w90 : World) => (∃ v91 : Value, (∃ v92 : Value, ((v89 = (Value.tuple #[v91, v92])) ∧
(∃ s93 : ByteArray, (∃ x94 : Int, ((v92 = (Value.agg #[(Value.string s93), (Value.int IntKind.i64 x94)])) ∧
(∀ w95 : World, ((w95 = (w90.alloc (Obj.cells #[(Value.string (ByteArray.mk #[])), (Value.int IntKind.i64 0)] 123 (0, 0)))) →
((Nf.There w95 (⟨(hs w90), 0, none⟩ : Addr) 2) ∧
(∀ w97 : World, ((w97 = (Nf.setCells w95 (⟨(hs w90), 0, none⟩ : Addr) [(Value.string s93), (Value.int IntKind.i64 x94)] 0)) →
(∃ s99 : ByteArray, (((w97.cell? (⟨(hs w90), 0, none⟩ : Addr)) = (some (Value.string s99))) ∧
((((Nf.strEq s99 name) = true) →
(∃ x101 : Int, (((w97.cell? (⟨(hs w90), 1, none⟩ : Addr)) = (some (Value.int IntKind.i64 x101))) ∧
((((decide (x101 = version)) = true) →
(R (Ending.returned (Value.int IntKind.i64 10)) w97)) ∧
(((decide (x101 = version)) = false) →
(∃ n104 : Nat, ((n104 < n18) ∧
(k16 n104 w97)))))))) ∧
(((Nf.strEq s99 name) = false) →
(∃ n106 : Nat, ((n106 < n18) ∧
(k16 n106 w97)))))))))))))))))))))) ∧
((false = false) →
(∀ w108 : World, ((w108 = w23.drew) →
(∃ a110 : Addr, ((b = (some a110)) ∧
(∃ o111 : Option Addr, (∃ n112 : Nat, (∃ n113 : Nat, (((w108.cell? a110) = (some (Value.slice o111 n112 n113))) ∧
((((0 : Int) ≤ x3) ∧
(x3 ≤ ((n112 : Nat) : Int))) ∧
(∃ a114 : Addr, ((b = (some a114)) ∧
(∃ o115 : Option Addr, (∃ n116 : Nat, (∃ n117 : Nat, (((w108.cell? a114) = (some (Value.slice o115 n116 n117))) ∧
((((0 : Int) ≤ (IntKind.wrap IntKind.i64 (x3 + 1))) ∧
((IntKind.wrap IntKind.i64 (x3 + 1)) ≤ ((n116 : Nat) : Int))) ∧
(RunOk Try.prog (Nf.Hold (Builtin.copy_ #[71, 71] 3 #[(Value.slice (if (n113 = (x3).toNat) then o111 else (Option.map (fun (x : Addr) => (Addr.add x ((x3).toNat * 3))) o111)) (n112 - (x3).toNat) (n113 - (x3).toNat)), (Value.slice (if (n117 = ((IntKind.wrap IntKind.i64 (x3 + 1))).toNat) then o115 else (Option.map (fun (x : Addr) => (Addr.add x (((IntKind.wrap IntKind.i64 (x3 + 1))).toNat * 3))) o115)) (n116 - ((IntKind.wrap IntKind.i64 (x3 + 1))).toNat) (n117 - ((IntKind.wrap IntKind.i64 (x3 + 1))).toNat))])) w108 (fun (v118 : Value) => (fun (w119 : World) => (∃ x120 : Int, ((v118 = (Value.int IntKind.i64 x120)) ∧
(∀ w121 : World, ((w121 = w119.drew) →
(∃ a123 : Addr, ((b = (some a123)) ∧
(∃ o124 : Option Addr, (∃ n125 : Nat, (∃ n126 : Nat, (((w121.cell? a123) = (some (Value.slice o124 n125 n126))) ∧
(∃ a127 : Addr, ((b = (some a127)) ∧
(∃ o128 : Option Addr, (∃ n129 : Nat, (∃ n130 : Nat, (((w121.cell? a127) = (some (Value.slice o128 n129 n130))) ∧
(∃ a131 : Addr, ((o124 = (some a131)) ∧
((((0 : Int) ≤ (IntKind.wrap IntKind.i64 (((n129 : Nat) : Int) - 1))) ∧
((IntKind.wrap IntKind.i64 (((n129 : Nat) : Int) - 1)) < ((n125 : Nat) : Int))) ∧
((Nf.There w121 (Addr.add a131 (((IntKind.wrap IntKind.i64 (((n129 : Nat) : Int) - 1))).toNat * 3)) 3) ∧
(∀ w132 : World, ((w132 = (Nf.setCells w121 (Addr.add a131 (((IntKind.wrap IntKind.i64 (((n129 : Nat) : Int) - 1))).toNat * 3)) [(Value.string (ByteArray.mk #[])), (Value.int IntKind.i64 0), (Value.slice none 0 0)] 0)) →
(∀ w134 : World, ((w134 = w132.drew) →
(∃ a136 : Addr, ((b = (some a136)) ∧
(∃ o137 : Option Addr, (∃ n138 : Nat, (∃ n139 : Nat, (((w134.cell? a136) = (some (Value.slice o137 n138 n139))) ∧
(∃ a140 : Addr, ((b = (some a140)) ∧
(∃ o141 : Option Addr, (∃ n142 : Nat, (∃ n143 : Nat, (((w134.cell? a140) = (some (Value.slice o141 n142 n143))) ∧
((((0 : Int) ≤ (IntKind.wrap IntKind.i64 (((n142 : Nat) : Int) - 1))) ∧
((IntKind.wrap IntKind.i64 (((n142 : Nat) : Int) - 1)) ≤ ((n139 : Nat) : Int))) ∧
(∃ a144 : Addr, ((b = (some a144)) ∧
((Nf.There w134 a144 1) ∧
(∀ w145 : World, ((w145 = (Nf.setCells w134 a144 [(Value.slice (if (n139 = 0) then o137 else (Option.map (fun (x : Addr) => x) o137)) (((IntKind.wrap IntKind.i64 (((n142 : Nat) : Int) - 1))).toNat - 0) (n139 - 0))] 0)) →
(R (Ending.returned (Value.int IntKind.i64 0)) w145)))))))))))))))))))))))))))))))))))))))))))))))))))))))))))))))))))))))))))))))))))))))))))))))) ∧
((b4 = false) →
(R (Ending.returned (Value.int IntKind.i64 4)) w2)))))))))) :
    Calls Try.prog 53 #[(.pointer b), (.string name), (.int .i64 version)] w R :=
  calls_of_vc an53 Try.func53 rfl (by kernel_rfl) (by kernel_rfl) (Eq.mp (by kernel_rfl) h)

end Go.Proofs.Ytbaacpfjecbbgaa
