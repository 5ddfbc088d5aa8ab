/- The contracts' premises: for each function, the proposition that its body comes to (printed by the tool of wip/nf). -/
import Derived.Test.YtcaokpglbolkcaaGreatRows
import Derived.Test.YtcaokpglbolkcaaGreatNfD
namespace Go.Proofs.YtcaokpglbolkcaaGreat
open Go Go.Nf

/-- samaritan/checksum.addByte -/
def an86 : An := (.seq (.reg []) (.seq (.reg [(3, 1, false)]) (.seq (.reg [(3, 1, false)]) .nil)))
set_option maxRecDepth 100000 in
theorem nf86 (sum : Int) (b : Int) (w : World) (R : Ending → World → Prop) (h :
(RunOk Tryz.prog (Hold (binOpSem BinOp.xor 60 (Operand.tmp 5) (Operand.tmp 7) (.int .u64 sum) (.int .u64 (IntKind.wrap .u64 b)))) w (fun v1 => fun w2 => ∃ x3, v1 = .int .u64 x3 ∧
 RunOk Tryz.prog (Hold (binOpSem BinOp.xor 60 (Operand.tmp 10) (Operand.tmp 12) (.int .u64 (IntKind.wrap .u64 (x3 * 1099511628211))) (.int .u64 (Int.fdiv (IntKind.wrap .u64 (x3 * 1099511628211)) 4294967296)))) w2 (fun v4 => fun w5 => ∃ x6, v4 = .int .u64 x6 ∧
 R (.returned (.int .u64 x6)) w5)))) :
    Calls Tryz.prog 86 #[(.int .u64 sum), (.int .u8 b)] w R :=
  calls_of_vc an86 Tryz.func86 rfl (by kernel_rfl) (by kernel_rfl) (Eq.mp (by kernel_rfl) h)

/-- samaritan/checksum.addInt -/
def an115 : An := (.seq (.reg []) (.seq (.seq (.reg []) (.blk (.loop [(0, .int .u64), (6, .int .i64)] (.seq (.reg [(0, 0, true)]) (.seq (.cond .nil .nil) (.seq (.blk (.seq (.reg []) (.reg [(4, 1, false)]))) (.reg []))))))) (.seq (.reg []) .nil)))
set_option maxRecDepth 100000 in
theorem nf115 (sum : Int) (n : Int) (w : World) (R : Ending → World → Prop) (h :
(∃ k1 : (Nat →
 Int →
 Int →
 World →
 Prop), (∃ n2, k1 n2 sum 0 w) ∧
 ∀ n3 : Nat, (Nat →
 Value) →
 ∀ w5 : World, ∀ x6 : Int, ∀ x7 : Int, k1 n3 x6 x7 w5 →
(decide (x7 < 8) = true →
 RunOk Tryz.prog (Hold (binOpSem BinOp.shr 60 (Operand.tmp 10) (Operand.tmp 12) (.int .u64 n) (.int .i64 (IntKind.wrap .i64 (8 * x7))))) w5 (fun v10 => fun w11 => ∃ x12, v10 = .int .u64 x12 ∧
 Calls Tryz.prog 86 #[.int .u64 x6, .int .u8 (IntKind.wrap .u8 x12)] w11 (fun e13 => fun w14 => ∃ x15, e13 = .returned (.int .u64 x15) ∧
 ∃ n16, n16 < n3 ∧
 k1 n16 x15 (IntKind.wrap .i64 (x7 + 1)) w14))) ∧
(decide (x7 < 8) = false →
 R (.returned (.int .u64 x6)) w5))) :
    Calls Tryz.prog 115 #[(.int .u64 sum), (.int .u64 n)] w R :=
  calls_of_vc an115 Tryz.func115 rfl (by kernel_rfl) (by kernel_rfl) (Eq.mp (by kernel_rfl) h)

/-- samaritan/checksum.Update -/
def an50 : An := (.seq (.reg []) (.seq (.seq (.reg []) (.blk (.loop [(0, .int .u64), (9, .int .i64)] (.seq (.reg [(0, 0, true)]) (.seq (.cond .nil .nil) (.seq (.blk (.seq (.reg []) (.reg []))) (.reg []))))))) (.seq (.reg []) .nil)))
set_option maxRecDepth 100000 in
theorem nf50 (sum : Int) (b : Option Addr) (b_n : Nat) (b_c : Nat) (w : World) (R : Ending → World → Prop) (h :
(∃ k1 : (Nat →
 Int →
 Int →
 World →
 Prop), (∃ n2, k1 n2 sum 0 w) ∧
 ∀ n3 : Nat, (Nat →
 Value) →
 ∀ w5 : World, ∀ x6 : Int, ∀ x7 : Int, k1 n3 x6 x7 w5 →
(decide (x7 < ((b_n : Nat) : Int)) = true →
 ∃ a10 : Addr, b = some a10 ∧
((0 : Int) ≤ x7 ∧
 x7 < ((b_n : Nat) : Int)) ∧
 ∃ x11, w5.cell? (Addr.add a10 ((x7).toNat * 1)) = some (.int .u8 x11) ∧
 Calls Tryz.prog 86 #[.int .u64 x6, .int .u8 x11] w5 (fun e12 => fun w13 => ∃ x14, e12 = .returned (.int .u64 x14) ∧
 ∃ n15, n15 < n3 ∧
 k1 n15 x14 (IntKind.wrap .i64 (x7 + 1)) w13)) ∧
(decide (x7 < ((b_n : Nat) : Int)) = false →
 R (.returned (.int .u64 x6)) w5))) :
    Calls Tryz.prog 50 #[(.int .u64 sum), (.slice b b_n b_c)] w R :=
  calls_of_vc an50 Tryz.func50 rfl (by kernel_rfl) (by kernel_rfl) (Eq.mp (by kernel_rfl) h)

/-- samaritan/checksum.Sum -/
def an21 : An := (.seq (.reg []) (.seq (.reg []) .nil))
set_option maxRecDepth 100000 in
theorem nf21 (b : Option Addr) (b_n : Nat) (b_c : Nat) (w : World) (R : Ending → World → Prop) (h :
(Calls Tryz.prog 50 #[.int .u64 14695981039346656037, .slice b b_n b_c] w (fun e1 => fun w2 => ∃ x3, e1 = .returned (.int .u64 x3) ∧
 R (.returned (.int .u64 x3)) w2))) :
    Calls Tryz.prog 21 #[(.slice b b_n b_c)] w R :=
  calls_of_vc an21 Tryz.func21 rfl (by kernel_rfl) (by kernel_rfl) (Eq.mp (by kernel_rfl) h)

/-- samaritan/checksum.Chain -/
def an90 : An := (.seq (.reg []) (.seq (.reg []) (.seq (.reg []) (.seq (.reg []) (.seq (.reg []) .nil)))))
set_option maxRecDepth 100000 in
theorem nf90 (prev : Int) (kind : Int) (body : Option Addr) (body_n : Nat) (body_c : Nat) (w : World) (R : Ending → World → Prop) (h :
(Calls Tryz.prog 115 #[.int .u64 14695981039346656037, .int .u64 prev] w (fun e1 => fun w2 => ∃ x3, e1 = .returned (.int .u64 x3) ∧
 Calls Tryz.prog 86 #[.int .u64 x3, .int .u8 kind] w2 (fun e4 => fun w5 => ∃ x6, e4 = .returned (.int .u64 x6) ∧
 Calls Tryz.prog 115 #[.int .u64 x6, .int .u64 (IntKind.wrap .u64 ((body_n : Nat) : Int))] w5 (fun e7 => fun w8 => ∃ x9, e7 = .returned (.int .u64 x9) ∧
 Calls Tryz.prog 50 #[.int .u64 x9, .slice body body_n body_c] w8 (fun e10 => fun w11 => ∃ x12, e10 = .returned (.int .u64 x12) ∧
 R (.returned (.int .u64 x12)) w11)))))) :
    Calls Tryz.prog 90 #[(.int .u64 prev), (.int .u8 kind), (.slice body body_n body_c)] w R :=
  calls_of_vc an90 Tryz.func90 rfl (by kernel_rfl) (by kernel_rfl) (Eq.mp (by kernel_rfl) h)

/-- (*samaritan/wire.Writer).Int -/
def an101 : An := (.seq (.reg [(6, 1, false)]) (.seq (.blk (.loop [(4, .int .u64)] (.seq (.seq (.reg [(1, 0, true)]) (.cond .nil .nil)) (.blk (.seq (.reg [(7, 1, false), (9, 1, false)]) (.reg [])))))) (.reg [(8, 1, false)])))
set_option maxRecDepth 100000 in
theorem nf101 (w' : Nat) (n : Int) (w : World) (R : Ending → World → Prop) (h :
(RunOk Tryz.prog (Hold (binOpSem BinOp.xor 60 (Operand.tmp 7) (Operand.tmp 10) (.int .u64 (IntKind.wrap .u64 ((IntKind.wrap .u64 n) * 2))) (.int .u64 (IntKind.wrap .u64 (Int.fdiv n 9223372036854775808))))) w (fun v1 => fun w2 => ∃ x3, v1 = .int .u64 x3 ∧
 ∃ k4 : (Nat →
 Int →
 World →
 Prop), (∃ n5, k4 n5 x3 w2) ∧
 ∀ n6 : Nat, (Nat →
 Value) →
 ∀ w8 : World, ∀ x9 : Int, k4 n6 x9 w8 →
(decide (x9 ≥ 128) = true →
 ∃ o12, ∃ n13, ∃ n14, w8.cell? ⟨w', 0, none⟩ = some (.slice o12 n13 n14) ∧
 RunOk Tryz.prog (Hold (binOpSem BinOp.or 5 (Operand.tmp 20) (Operand.const (.int .u8 128)) (.int .u8 (IntKind.wrap .u8 x9)) (.int .u8 128))) w8 (fun v15 => fun w16 => ∃ x17, v15 = .int .u8 x17 ∧
 ∀ w18, w18 = w16.alloc (.cells #[.int .u8 x17] 5 (0, 0)) →
 RunOk Tryz.prog (Hold (Builtin.append_ #[42, 42] 42 #[.slice o12 n13 n14, .slice (some ⟨hs w16, 0, none⟩) 1 1])) w18 (fun v20 => fun w21 => ∃ o22, ∃ n23, ∃ n24, v20 = .slice o22 n23 n24 ∧
 There w21 ⟨w', 0, none⟩ 1 ∧
 ∀ w25, w25 = setCells w21 ⟨w', 0, none⟩ [.slice o22 n23 n24] 0 →
 ∃ n27, n27 < n6 ∧
 k4 n27 (Int.fdiv x9 128) w25))) ∧
(decide (x9 ≥ 128) = false →
 ∃ o29, ∃ n30, ∃ n31, w8.cell? ⟨w', 0, none⟩ = some (.slice o29 n30 n31) ∧
 ∀ w32, w32 = w8.alloc (.cells #[.int .u8 (IntKind.wrap .u8 x9)] 5 (0, 0)) →
 RunOk Tryz.prog (Hold (Builtin.append_ #[42, 42] 42 #[.slice o29 n30 n31, .slice (some ⟨hs w8, 0, none⟩) 1 1])) w32 (fun v34 => fun w35 => ∃ o36, ∃ n37, ∃ n38, v34 = .slice o36 n37 n38 ∧
 There w35 ⟨w', 0, none⟩ 1 ∧
 ∀ w39, w39 = setCells w35 ⟨w', 0, none⟩ [.slice o36 n37 n38] 0 →
 R (.returned (.tuple #[])) w39))))) :
    Calls Tryz.prog 101 #[(.pointer (some ⟨w', 0, none⟩)), (.int .i64 n)] w R :=
  calls_of_vc an101 Tryz.func101 rfl (by kernel_rfl) (by kernel_rfl) (Eq.mp (by kernel_rfl) h)

/-- (*samaritan/wire.Writer).Bytes -/
def an106 : An := (.seq (.reg []) (.reg [(6, 1, false)]))
set_option maxRecDepth 100000 in
theorem nf106 (w' : Nat) (b : Option Addr) (b_n : Nat) (b_c : Nat) (w : World) (R : Ending → World → Prop) (h :
(Calls Tryz.prog 101 #[.pointer (some ⟨w', 0, none⟩), .int .i64 ((b_n : Nat) : Int)] w (fun e1 => fun w2 => e1 = .returned (.tuple #[]) ∧
 ∃ o3, ∃ n4, ∃ n5, w2.cell? ⟨w', 0, none⟩ = some (.slice o3 n4 n5) ∧
 RunOk Tryz.prog (Hold (Builtin.append_ #[42, 42] 42 #[.slice o3 n4 n5, .slice b b_n b_c])) w2 (fun v6 => fun w7 => ∃ o8, ∃ n9, ∃ n10, v6 = .slice o8 n9 n10 ∧
 There w7 ⟨w', 0, none⟩ 1 ∧
 ∀ w11, w11 = setCells w7 ⟨w', 0, none⟩ [.slice o8 n9 n10] 0 →
 R (.returned (.tuple #[])) w11)))) :
    Calls Tryz.prog 106 #[(.pointer (some ⟨w', 0, none⟩)), (.slice b b_n b_c)] w R :=
  calls_of_vc an106 Tryz.func106 rfl (by kernel_rfl) (by kernel_rfl) (Eq.mp (by kernel_rfl) h)

/-- (*samaritan/wire.Writer).Ints -/
def an84 : An := (.seq (.reg []) (.seq (.reg []) (.blk (.loop [(12, .int .i64)] (.seq (.reg [(0, 0, true)]) (.seq (.cond .nil .nil) (.seq (.blk (.seq (.reg []) (.reg []))) (.reg []))))))))
set_option maxRecDepth 100000 in
theorem nf84 (w' : Nat) (l : Option Addr) (l_n : Nat) (l_c : Nat) (w : World) (R : Ending → World → Prop) (h :
(Calls Tryz.prog 101 #[.pointer (some ⟨w', 0, none⟩), .int .i64 ((l_n : Nat) : Int)] w (fun e1 => fun w2 => e1 = .returned (.tuple #[]) ∧
 ∃ k3 : (Nat →
 Int →
 World →
 Prop), (∃ n4, k3 n4 0 w2) ∧
 ∀ n5 : Nat, (Nat →
 Value) →
 ∀ w7 : World, ∀ x8 : Int, k3 n5 x8 w7 →
(decide (x8 < ((l_n : Nat) : Int)) = true →
 ∃ a11 : Addr, l = some a11 ∧
((0 : Int) ≤ x8 ∧
 x8 < ((l_n : Nat) : Int)) ∧
 ∃ x12, w7.cell? (Addr.add a11 ((x8).toNat * 1)) = some (.int .i64 x12) ∧
 Calls Tryz.prog 101 #[.pointer (some ⟨w', 0, none⟩), .int .i64 x12] w7 (fun e13 => fun w14 => e13 = .returned (.tuple #[]) ∧
 ∃ n15, n15 < n5 ∧
 k3 n15 (IntKind.wrap .i64 (x8 + 1)) w14)) ∧
(decide (x8 < ((l_n : Nat) : Int)) = false →
 R (.returned (.tuple #[])) w7)))) :
    Calls Tryz.prog 84 #[(.pointer (some ⟨w', 0, none⟩)), (.slice l l_n l_c)] w R :=
  calls_of_vc an84 Tryz.func84 rfl (by kernel_rfl) (by kernel_rfl) (Eq.mp (by kernel_rfl) h)

/-- (*samaritan/wire.Writer).Encoded -/
def an85 : An := (.seq (.reg []) (.seq (.reg [(5, 1, false)]) (.seq (.reg [(5, 1, false)]) (.seq (.reg []) .nil))))
set_option maxRecDepth 100000 in
theorem nf85 (w' : Nat) (w : World) (R : Ending → World → Prop) (h :
(∃ o1, ∃ n2, ∃ n3, w.cell? ⟨w', 0, none⟩ = some (.slice o1 n2 n3) ∧
 RunOk Tryz.prog (Hold (Instr.makeSlice 42 (.int .i64 ((n2 : Nat) : Int)) (.int .i64 ((n2 : Nat) : Int)))) w (fun v4 => fun w5 => ∃ o6, ∃ n7, ∃ n8, v4 = .slice o6 n7 n8 ∧
 ∃ o9, ∃ n10, ∃ n11, w5.cell? ⟨w', 0, none⟩ = some (.slice o9 n10 n11) ∧
 RunOk Tryz.prog (Hold (Builtin.copy_ #[42, 42] 3 #[.slice o6 n7 n8, .slice o9 n10 n11])) w5 (fun v12 => fun w13 => ∃ x14, v12 = .int .i64 x14 ∧
 R (.returned (.slice o6 n7 n8)) w13)))) :
    Calls Tryz.prog 85 #[(.pointer (some ⟨w', 0, none⟩))] w R :=
  calls_of_vc an85 Tryz.func85 rfl (by kernel_rfl) (by kernel_rfl) (Eq.mp (by kernel_rfl) h)

/-- samaritan/wire.NewReader -/
def an91 : An := (.seq (.reg []) (.seq (.reg [(2, 1, false)]) (.seq (.reg [(2, 1, false)]) (.seq (.reg []) .nil))))
set_option maxRecDepth 100000 in
theorem nf91 (b : Option Addr) (b_n : Nat) (b_c : Nat) (w : World) (R : Ending → World → Prop) (h :
(RunOk Tryz.prog (Hold (Instr.makeSlice 42 (.int .i64 ((b_n : Nat) : Int)) (.int .i64 ((b_n : Nat) : Int)))) w (fun v1 => fun w2 => ∃ o3, ∃ n4, ∃ n5, v1 = .slice o3 n4 n5 ∧
 RunOk Tryz.prog (Hold (Builtin.copy_ #[42, 42] 3 #[.slice o3 n4 n5, .slice b b_n b_c])) w2 (fun v6 => fun w7 => ∃ x8, v6 = .int .i64 x8 ∧
 ∀ w9, w9 = w7.alloc (.cells #[.slice o3 n4 n5, .int .i64 0] 170 (0, 0)) →
 R (.returned (.pointer (some ⟨hs w7, 0, none⟩))) w9)))) :
    Calls Tryz.prog 91 #[(.slice b b_n b_c)] w R :=
  calls_of_vc an91 Tryz.func91 rfl (by kernel_rfl) (by kernel_rfl) (Eq.mp (by kernel_rfl) h)

/-- (*samaritan/wire.Reader).next -/
def an116 : An := (.seq (.reg []) (.seq (.seq (.reg [(4, 0, true)]) (.cond (.seq (.reg []) .nil) .nil)) (.seq (.seq (.reg [(5, 0, true)]) (.cond (.seq (.reg []) (.seq (.reg []) .nil)) .nil)) (.seq (.reg []) (.seq (.reg [(5, 2, false)]) (.seq (.reg []) .nil))))))
set_option maxRecDepth 100000 in
theorem nf116 (r : Nat) (w : World) (R : Ending → World → Prop) (h :
(∃ x1, w.cell? ⟨r, 1, none⟩ = some (.int .i64 x1) ∧
((! (decide (x1 = 0))) = true →
 R (.returned (.tuple #[.int .u8 0, .bool false])) w) ∧
((! (decide (x1 = 0))) = false →
 ∃ o4, ∃ n5, ∃ n6, w.cell? ⟨r, 0, none⟩ = some (.slice o4 n5 n6) ∧
(decide (((n5 : Nat) : Int) = 0) = true →
 Calls Tryz.prog 117 #[.pointer (some ⟨r, 0, none⟩), .int .i64 11] w (fun e8 => fun w9 => e8 = .returned (.tuple #[]) ∧
 R (.returned (.tuple #[.int .u8 0, .bool false])) w9)) ∧
(decide (((n5 : Nat) : Int) = 0) = false →
 ∃ o11, ∃ n12, ∃ n13, w.cell? ⟨r, 0, none⟩ = some (.slice o11 n12 n13) ∧
 ∃ a14 : Addr, o11 = some a14 ∧
((0 : Int) ≤ 0 ∧
 0 < ((n12 : Nat) : Int)) ∧
 ∃ x15, w.cell? a14 = some (.int .u8 x15) ∧
 ∃ o16, ∃ n17, ∃ n18, w.cell? ⟨r, 0, none⟩ = some (.slice o16 n17 n18) ∧
((0 : Int) ≤ 1 ∧
 1 ≤ ((n17 : Nat) : Int)) ∧
 There w ⟨r, 0, none⟩ 1 ∧
 ∀ w19, w19 = setCells w ⟨r, 0, none⟩ [.slice (if (n18 = (1 : Int).toNat) then o16 else (Option.map (fun (x : Addr) => Addr.add x 1) o16)) (n17 - 1) (n18 - 1)] 0 →
 R (.returned (.tuple #[.int .u8 x15, .bool true])) w19)))) :
    Calls Tryz.prog 116 #[(.pointer (some ⟨r, 0, none⟩))] w R :=
  calls_of_vc an116 Tryz.func116 rfl (by kernel_rfl) (by kernel_rfl) (Eq.mp (by kernel_rfl) h)

/-- (*samaritan/wire.Reader).fail -/
def an117 : An := (.seq (.reg []) (.reg []))
set_option maxRecDepth 100000 in
theorem nf117 (r : Nat) (err : Int) (w : World) (R : Ending → World → Prop) (h :
(There w ⟨r, 1, none⟩ 1 ∧
 ∀ w1, w1 = setCells w ⟨r, 1, none⟩ [.int .i64 err] 0 →
 There w1 ⟨r, 0, none⟩ 1 ∧
 ∀ w3, w3 = setCells w1 ⟨r, 0, none⟩ [.slice none 0 0] 0 →
 R (.returned (.tuple #[])) w3)) :
    Calls Tryz.prog 117 #[(.pointer (some ⟨r, 0, none⟩)), (.int .i64 err)] w R :=
  calls_of_vc an117 Tryz.func117 rfl (by kernel_rfl) (by kernel_rfl) (Eq.mp (by kernel_rfl) h)

/-- (*samaritan/wire.Reader).Int -/
def an92 : An := (.seq (.reg []) (.seq (.reg []) (.cut [(3, .int .u64)] (.seq (.reg []) (.blk (.loop [(3, .int .u64), (7, .int .i64)] (.seq (.reg [(0, 0, true)]) (.seq (.cond .nil .nil) (.seq (.blk (.seq (.reg []) (.seq (.reg [(4, 0, true)]) (.seq (.seq (.reg []) (.cond (.seq (.reg []) .nil) .nil)) (.seq (.seq (.reg [(1, 0, true), (4, 0, true), (8, 0, true), (11, 0, true)]) (.cond (.seq (.reg []) (.seq (.reg []) .nil)) .nil)) (.seq (.reg [(2, 1, false), (6, 1, false), (7, 1, false)]) (.seq (.reg [(1, 0, true)]) (.cond .nil .nil)))))))) (.reg []))))))) (.seq (.reg [(4, 1, false), (7, 1, false)]) .nil))))
set_option maxRecDepth 100000 in
theorem nf92 (r : Nat) (w : World) (R : Ending → World → Prop) (h :
(∀ k1 : (Int →
 World →
 Prop), (∀ w3 : World, ∀ x4 : Int, ((Nat →
 Value) →
 RunOk Tryz.prog (Hold (binOpSem BinOp.and 60 (Operand.tmp 47) (Operand.const (.int .u64 1)) (.int .u64 x4) (.int .u64 1))) w3 (fun v7 => fun w8 => ∃ x9, v7 = .int .u64 x9 ∧
 RunOk Tryz.prog (Hold (binOpSem BinOp.xor 2 (Operand.tmp 46) (Operand.tmp 50) (.int .i64 (IntKind.wrap .i64 (Int.fdiv x4 2))) (.int .i64 (IntKind.wrap .i64 (0 - (IntKind.wrap .i64 x9)))))) w8 (fun v10 => fun w11 => ∃ x12, v10 = .int .i64 x12 ∧
 R (.returned (.int .i64 x12)) w11))) →
 k1 x4 w3) →
 ∃ k13 : (Nat →
 Int →
 Int →
 World →
 Prop), (∃ n14, k13 n14 0 0 w) ∧
 ∀ n15 : Nat, (Nat →
 Value) →
 ∀ w17 : World, ∀ x18 : Int, ∀ x19 : Int, k13 n15 x18 x19 w17 →
(decide (x19 < 10) = true →
 Calls Tryz.prog 116 #[.pointer (some ⟨r, 0, none⟩)] w17 (fun e22 => fun w23 => ∃ x24, ∃ b25, e22 = .returned (.tuple #[.int .u8 x24, .bool b25]) ∧
(b25 = true →
(decide (x19 = 9) = true →
((! (decide (x24 = 1))) = true →
 Calls Tryz.prog 117 #[.pointer (some ⟨r, 0, none⟩), .int .i64 2] w23 (fun e29 => fun w30 => e29 = .returned (.tuple #[]) ∧
 R (.returned (.int .i64 0)) w30)) ∧
((! (decide (x24 = 1))) = false →
(decide (x19 > 0) = true →
(decide (x24 = 0) = true →
 Calls Tryz.prog 117 #[.pointer (some ⟨r, 0, none⟩), .int .i64 2] w23 (fun e34 => fun w35 => e34 = .returned (.tuple #[]) ∧
 R (.returned (.int .i64 0)) w35)) ∧
(decide (x24 = 0) = false →
 RunOk Tryz.prog (Hold (binOpSem BinOp.and 5 (Operand.tmp 34) (Operand.const (.int .u8 127)) (.int .u8 x24) (.int .u8 127))) w23 (fun v37 => fun w38 => ∃ x39, v37 = .int .u8 x39 ∧
 RunOk Tryz.prog (Hold (binOpSem BinOp.shl 60 (Operand.tmp 36) (Operand.tmp 38) (.int .u64 (IntKind.wrap .u64 x39)) (.int .i64 (IntKind.wrap .i64 (7 * x19))))) w38 (fun v40 => fun w41 => ∃ x42, v40 = .int .u64 x42 ∧
 RunOk Tryz.prog (Hold (binOpSem BinOp.or 60 (Operand.tmp 33) (Operand.tmp 39) (.int .u64 x18) (.int .u64 x42))) w41 (fun v43 => fun w44 => ∃ x45, v43 = .int .u64 x45 ∧
(decide (x24 < 128) = true →
 k1 x45 w44) ∧
(decide (x24 < 128) = false →
 ∃ n48, n48 < n15 ∧
 k13 n48 x45 (IntKind.wrap .i64 (x19 + 1)) w44)))))) ∧
(decide (x19 > 0) = false →
 RunOk Tryz.prog (Hold (binOpSem BinOp.and 5 (Operand.tmp 34) (Operand.const (.int .u8 127)) (.int .u8 x24) (.int .u8 127))) w23 (fun v50 => fun w51 => ∃ x52, v50 = .int .u8 x52 ∧
 RunOk Tryz.prog (Hold (binOpSem BinOp.shl 60 (Operand.tmp 36) (Operand.tmp 38) (.int .u64 (IntKind.wrap .u64 x52)) (.int .i64 (IntKind.wrap .i64 (7 * x19))))) w51 (fun v53 => fun w54 => ∃ x55, v53 = .int .u64 x55 ∧
 RunOk Tryz.prog (Hold (binOpSem BinOp.or 60 (Operand.tmp 33) (Operand.tmp 39) (.int .u64 x18) (.int .u64 x55))) w54 (fun v56 => fun w57 => ∃ x58, v56 = .int .u64 x58 ∧
(decide (x24 < 128) = true →
 k1 x58 w57) ∧
(decide (x24 < 128) = false →
 ∃ n61, n61 < n15 ∧
 k13 n61 x58 (IntKind.wrap .i64 (x19 + 1)) w57))))))) ∧
(decide (x19 = 9) = false →
(decide (x19 > 0) = true →
(decide (x24 = 0) = true →
 Calls Tryz.prog 117 #[.pointer (some ⟨r, 0, none⟩), .int .i64 2] w23 (fun e65 => fun w66 => e65 = .returned (.tuple #[]) ∧
 R (.returned (.int .i64 0)) w66)) ∧
(decide (x24 = 0) = false →
 RunOk Tryz.prog (Hold (binOpSem BinOp.and 5 (Operand.tmp 34) (Operand.const (.int .u8 127)) (.int .u8 x24) (.int .u8 127))) w23 (fun v68 => fun w69 => ∃ x70, v68 = .int .u8 x70 ∧
 RunOk Tryz.prog (Hold (binOpSem BinOp.shl 60 (Operand.tmp 36) (Operand.tmp 38) (.int .u64 (IntKind.wrap .u64 x70)) (.int .i64 (IntKind.wrap .i64 (7 * x19))))) w69 (fun v71 => fun w72 => ∃ x73, v71 = .int .u64 x73 ∧
 RunOk Tryz.prog (Hold (binOpSem BinOp.or 60 (Operand.tmp 33) (Operand.tmp 39) (.int .u64 x18) (.int .u64 x73))) w72 (fun v74 => fun w75 => ∃ x76, v74 = .int .u64 x76 ∧
(decide (x24 < 128) = true →
 k1 x76 w75) ∧
(decide (x24 < 128) = false →
 ∃ n79, n79 < n15 ∧
 k13 n79 x76 (IntKind.wrap .i64 (x19 + 1)) w75)))))) ∧
(decide (x19 > 0) = false →
 RunOk Tryz.prog (Hold (binOpSem BinOp.and 5 (Operand.tmp 34) (Operand.const (.int .u8 127)) (.int .u8 x24) (.int .u8 127))) w23 (fun v81 => fun w82 => ∃ x83, v81 = .int .u8 x83 ∧
 RunOk Tryz.prog (Hold (binOpSem BinOp.shl 60 (Operand.tmp 36) (Operand.tmp 38) (.int .u64 (IntKind.wrap .u64 x83)) (.int .i64 (IntKind.wrap .i64 (7 * x19))))) w82 (fun v84 => fun w85 => ∃ x86, v84 = .int .u64 x86 ∧
 RunOk Tryz.prog (Hold (binOpSem BinOp.or 60 (Operand.tmp 33) (Operand.tmp 39) (.int .u64 x18) (.int .u64 x86))) w85 (fun v87 => fun w88 => ∃ x89, v87 = .int .u64 x89 ∧
(decide (x24 < 128) = true →
 k1 x89 w88) ∧
(decide (x24 < 128) = false →
 ∃ n92, n92 < n15 ∧
 k13 n92 x89 (IntKind.wrap .i64 (x19 + 1)) w88))))))) ∧
(b25 = false →
 R (.returned (.int .i64 0)) w23))) ∧
(decide (x19 < 10) = false →
 k1 x18 w17))) :
    Calls Tryz.prog 92 #[(.pointer (some ⟨r, 0, none⟩))] w R :=
  calls_of_vc an92 Tryz.func92 rfl (by kernel_rfl) (by kernel_rfl) (Eq.mp (by kernel_rfl) h)

/-- (*samaritan/wire.Reader).Finish -/
def an93 : An := (.seq (.reg []) (.seq (.seq (.reg [(4, 0, true)]) (.cond (.seq (.reg []) .nil) .nil)) (.seq (.seq (.reg [(5, 0, true)]) (.cond (.seq (.reg []) .nil) .nil)) (.seq (.reg []) .nil))))
set_option maxRecDepth 100000 in
theorem nf93 (r : Nat) (w : World) (R : Ending → World → Prop) (h :
(∃ x1, w.cell? ⟨r, 1, none⟩ = some (.int .i64 x1) ∧
((! (decide (x1 = 0))) = true →
 ∃ x3, w.cell? ⟨r, 1, none⟩ = some (.int .i64 x3) ∧
 R (.returned (.int .i64 x3)) w) ∧
((! (decide (x1 = 0))) = false →
 ∃ o5, ∃ n6, ∃ n7, w.cell? ⟨r, 0, none⟩ = some (.slice o5 n6 n7) ∧
(decide (((n6 : Nat) : Int) > 0) = true →
 R (.returned (.int .i64 2)) w) ∧
(decide (((n6 : Nat) : Int) > 0) = false →
 R (.returned (.int .i64 0)) w)))) :
    Calls Tryz.prog 93 #[(.pointer (some ⟨r, 0, none⟩))] w R :=
  calls_of_vc an93 Tryz.func93 rfl (by kernel_rfl) (by kernel_rfl) (Eq.mp (by kernel_rfl) h)

/-- (*samaritan/wire.Reader).Bytes -/
def an118 : An := (.seq (.reg []) (.seq (.reg []) (.seq (.seq (.reg [(1, 0, true)]) (.cond (.seq (.reg []) .nil) .nil)) (.seq (.reg [(1, 1, false)]) (.seq (.reg [(5, 1, false)]) (.seq (.reg [(6, 2, false)]) (.seq (.reg []) .nil)))))))
set_option maxRecDepth 100000 in
theorem nf118 (r : Nat) (w : World) (R : Ending → World → Prop) (h :
(Calls Tryz.prog 137 #[.pointer (some ⟨r, 0, none⟩)] w (fun e1 => fun w2 => ∃ x3, e1 = .returned (.int .i64 x3) ∧
(decide (x3 = 0) = true →
 R (.returned (.slice none 0 0)) w2) ∧
(decide (x3 = 0) = false →
 RunOk Tryz.prog (Hold (Instr.makeSlice 42 (.int .i64 x3) (.int .i64 x3))) w2 (fun v6 => fun w7 => ∃ o8, ∃ n9, ∃ n10, v6 = .slice o8 n9 n10 ∧
 ∃ o11, ∃ n12, ∃ n13, w7.cell? ⟨r, 0, none⟩ = some (.slice o11 n12 n13) ∧
 RunOk Tryz.prog (Hold (Builtin.copy_ #[42, 42] 3 #[.slice o8 n9 n10, .slice o11 n12 n13])) w7 (fun v14 => fun w15 => ∃ x16, v14 = .int .i64 x16 ∧
 ∃ o17, ∃ n18, ∃ n19, w15.cell? ⟨r, 0, none⟩ = some (.slice o17 n18 n19) ∧
((0 : Int) ≤ x3 ∧
 x3 ≤ ((n18 : Nat) : Int)) ∧
 There w15 ⟨r, 0, none⟩ 1 ∧
 ∀ w20, w20 = setCells w15 ⟨r, 0, none⟩ [.slice (if (n19 = (x3).toNat) then o17 else (Option.map (fun (x : Addr) => Addr.add x ((x3).toNat * 1)) o17)) (n18 - (x3).toNat) (n19 - (x3).toNat)] 0 →
 R (.returned (.slice o8 n9 n10)) w20)))))) :
    Calls Tryz.prog 118 #[(.pointer (some ⟨r, 0, none⟩))] w R :=
  calls_of_vc an118 Tryz.func118 rfl (by kernel_rfl) (by kernel_rfl) (Eq.mp (by kernel_rfl) h)

/-- (*samaritan/wire.Reader).Ints -/
def an119 : An := (.seq (.reg []) (.seq (.reg []) (.seq (.seq (.reg [(1, 0, true)]) (.cond (.seq (.reg []) .nil) .nil)) (.seq (.reg [(1, 1, false)]) (.seq (.seq (.reg []) (.blk (.loop [(14, .int .i64)] (.seq (.reg [(0, 0, true)]) (.seq (.cond .nil .nil) (.seq (.blk (.seq (.reg []) (.seq (.reg []) (.seq (.reg [(4, 0, true)]) (.cond (.seq (.reg []) .nil) .nil))))) (.reg []))))))) (.seq (.reg []) .nil))))))
set_option maxRecDepth 100000 in
theorem nf119 (r : Nat) (w : World) (R : Ending → World → Prop) (h :
(Calls Tryz.prog 137 #[.pointer (some ⟨r, 0, none⟩)] w (fun e1 => fun w2 => ∃ x3, e1 = .returned (.int .i64 x3) ∧
(decide (x3 = 0) = true →
 R (.returned (.slice none 0 0)) w2) ∧
(decide (x3 = 0) = false →
 RunOk Tryz.prog (Hold (Instr.makeSlice 24 (.int .i64 x3) (.int .i64 x3))) w2 (fun v6 => fun w7 => ∃ o8, ∃ n9, ∃ n10, v6 = .slice o8 n9 n10 ∧
 ∃ k11 : (Nat →
 Int →
 World →
 Prop), (∃ n12, k11 n12 0 w7) ∧
 ∀ n13 : Nat, (Nat →
 Value) →
 ∀ w15 : World, ∀ x16 : Int, k11 n13 x16 w15 →
(decide (x16 < ((n9 : Nat) : Int)) = true →
 Calls Tryz.prog 92 #[.pointer (some ⟨r, 0, none⟩)] w15 (fun e19 => fun w20 => ∃ x21, e19 = .returned (.int .i64 x21) ∧
 ∃ a22 : Addr, o8 = some a22 ∧
((0 : Int) ≤ x16 ∧
 x16 < ((n9 : Nat) : Int)) ∧
 There w20 (Addr.add a22 ((x16).toNat * 1)) 1 ∧
 ∀ w23, w23 = setCells w20 (Addr.add a22 ((x16).toNat * 1)) [.int .i64 x21] 0 →
 ∃ x25, w23.cell? ⟨r, 1, none⟩ = some (.int .i64 x25) ∧
((! (decide (x25 = 0))) = true →
 R (.returned (.slice none 0 0)) w23) ∧
((! (decide (x25 = 0))) = false →
 ∃ n28, n28 < n13 ∧
 k11 n28 (IntKind.wrap .i64 (x16 + 1)) w23))) ∧
(decide (x16 < ((n9 : Nat) : Int)) = false →
 R (.returned (.slice o8 n9 n10)) w15)))))) :
    Calls Tryz.prog 119 #[(.pointer (some ⟨r, 0, none⟩))] w R :=
  calls_of_vc an119 Tryz.func119 rfl (by kernel_rfl) (by kernel_rfl) (Eq.mp (by kernel_rfl) h)

/-- (*samaritan/wire.Reader).length -/
def an137 : An := (.seq (.reg []) (.seq (.reg []) (.seq (.seq (.reg [(4, 0, true)]) (.cond (.seq (.reg []) .nil) .nil)) (.seq (.seq (.reg [(1, 0, true)]) (.cond (.seq (.reg []) (.seq (.reg []) .nil)) .nil)) (.seq (.seq (.reg [(6, 0, true)]) (.cond (.seq (.reg []) (.seq (.reg []) .nil)) .nil)) (.seq (.reg []) .nil))))))
set_option maxRecDepth 100000 in
theorem nf137 (r : Nat) (w : World) (R : Ending → World → Prop) (h :
(Calls Tryz.prog 92 #[.pointer (some ⟨r, 0, none⟩)] w (fun e1 => fun w2 => ∃ x3, e1 = .returned (.int .i64 x3) ∧
 ∃ x4, w2.cell? ⟨r, 1, none⟩ = some (.int .i64 x4) ∧
((! (decide (x4 = 0))) = true →
 R (.returned (.int .i64 0)) w2) ∧
((! (decide (x4 = 0))) = false →
(decide (x3 < 0) = true →
 Calls Tryz.prog 117 #[.pointer (some ⟨r, 0, none⟩), .int .i64 2] w2 (fun e8 => fun w9 => e8 = .returned (.tuple #[]) ∧
 R (.returned (.int .i64 0)) w9)) ∧
(decide (x3 < 0) = false →
 ∃ o11, ∃ n12, ∃ n13, w2.cell? ⟨r, 0, none⟩ = some (.slice o11 n12 n13) ∧
(decide (x3 > ((n12 : Nat) : Int)) = true →
 Calls Tryz.prog 117 #[.pointer (some ⟨r, 0, none⟩), .int .i64 11] w2 (fun e15 => fun w16 => e15 = .returned (.tuple #[]) ∧
 R (.returned (.int .i64 0)) w16)) ∧
(decide (x3 > ((n12 : Nat) : Int)) = false →
 R (.returned (.int .i64 x3)) w2)))))) :
    Calls Tryz.prog 137 #[(.pointer (some ⟨r, 0, none⟩))] w R :=
  calls_of_vc an137 Tryz.func137 rfl (by kernel_rfl) (by kernel_rfl) (Eq.mp (by kernel_rfl) h)

/-- samaritan/storage.New -/
def an6 : An := (.seq (.reg []) (.seq (.reg []) .nil))
set_option maxRecDepth 100000 in
theorem nf6  (w : World) (R : Ending → World → Prop) (h :
(∀ w1, w1 = w.alloc (.cells #[.slice none 0 0, .int .i64 0, .bool false] 63 (0, 0)) →
 R (.returned (.pointer (some ⟨hs w, 0, none⟩))) w1)) :
    Calls Tryz.prog 6 #[] w R :=
  calls_of_vc an6 Tryz.func6 rfl (by kernel_rfl) (by kernel_rfl) (Eq.mp (by kernel_rfl) h)

/-- (*samaritan/storage.File).Bytes -/
def an53 : An := (.seq (.reg []) (.seq (.seq (.reg [(3, 0, true)]) (.cond (.seq (.reg []) .nil) .nil)) (.seq (.reg [(4, 1, false)]) .nil)))
set_option maxRecDepth 100000 in
theorem nf53 (t : Nat) (w : World) (R : Ending → World → Prop) (h :
(∃ b1, w.cell? ⟨t, 2, none⟩ = some (.bool b1) ∧
(b1 = true →
 R (.returned (.tuple #[.slice none 0 0, .int .i64 7])) w) ∧
(b1 = false →
 ∃ o4, ∃ n5, ∃ n6, w.cell? ⟨t, 0, none⟩ = some (.slice o4 n5 n6) ∧
 RunOk Tryz.prog (Hold (Builtin.append_ #[42, 42] 42 #[.slice none 0 0, .slice o4 n5 n6])) w (fun v7 => fun w8 => ∃ o9, ∃ n10, ∃ n11, v7 = .slice o9 n10 n11 ∧
 R (.returned (.tuple #[.slice o9 n10 n11, .int .i64 0])) w8)))) :
    Calls Tryz.prog 53 #[(.pointer (some ⟨t, 0, none⟩))] w R :=
  calls_of_vc an53 Tryz.func53 rfl (by kernel_rfl) (by kernel_rfl) (Eq.mp (by kernel_rfl) h)

/-- (*samaritan/storage.File).Truncate -/
def an56 : An := (.seq (.reg []) (.seq (.seq (.reg [(1, 0, true), (9, 0, true)]) (.cond (.seq (.reg []) .nil) .nil)) (.seq (.seq (.reg [(3, 0, true)]) (.cond (.seq (.reg []) .nil) .nil)) (.seq (.reg [(6, 2, false)]) (.seq (.reg []) (.seq (.reg []) .nil))))))
set_option maxRecDepth 100000 in
theorem nf56 (t : Nat) (n : Int) (w : World) (R : Ending → World → Prop) (h :
((decide (n < 0) = true →
 R (.returned (.int .i64 1)) w) ∧
(decide (n < 0) = false →
 ∃ o3, ∃ n4, ∃ n5, w.cell? ⟨t, 0, none⟩ = some (.slice o3 n4 n5) ∧
(decide (n > ((n4 : Nat) : Int)) = true →
 R (.returned (.int .i64 1)) w) ∧
(decide (n > ((n4 : Nat) : Int)) = false →
 ∃ b8, w.cell? ⟨t, 2, none⟩ = some (.bool b8) ∧
(b8 = true →
 R (.returned (.int .i64 7)) w) ∧
(b8 = false →
 ∃ o11, ∃ n12, ∃ n13, w.cell? ⟨t, 0, none⟩ = some (.slice o11 n12 n13) ∧
((0 : Int) ≤ n ∧
 n ≤ ((n13 : Nat) : Int)) ∧
 There w ⟨t, 0, none⟩ 1 ∧
 ∀ w14, w14 = setCells w ⟨t, 0, none⟩ [.slice (if (n13 = 0) then o11 else (Option.map (fun (x : Addr) => x) o11)) ((n).toNat - 0) (n13 - 0)] 0 →
 ∃ x16, w14.cell? ⟨t, 1, none⟩ = some (.int .i64 x16) ∧
 There w14 ⟨t, 1, none⟩ 1 ∧
 ∀ w17, w17 = setCells w14 ⟨t, 1, none⟩ [.int .i64 (if (n < x16) then n else x16)] 0 →
 R (.returned (.int .i64 0)) w17))))) :
    Calls Tryz.prog 56 #[(.pointer (some ⟨t, 0, none⟩)), (.int .i64 n)] w R :=
  calls_of_vc an56 Tryz.func56 rfl (by kernel_rfl) (by kernel_rfl) (Eq.mp (by kernel_rfl) h)

/-- (*samaritan/storage.File).Sync -/
def an57 : An := (.seq (.reg []) (.seq (.seq (.reg [(3, 0, true)]) (.cond (.seq (.reg []) .nil) .nil)) (.seq (.reg []) (.seq (.reg []) .nil))))
set_option maxRecDepth 100000 in
theorem nf57 (t : Nat) (w : World) (R : Ending → World → Prop) (h :
(∃ b1, w.cell? ⟨t, 2, none⟩ = some (.bool b1) ∧
(b1 = true →
 R (.returned (.int .i64 7)) w) ∧
(b1 = false →
 ∃ o4, ∃ n5, ∃ n6, w.cell? ⟨t, 0, none⟩ = some (.slice o4 n5 n6) ∧
 There w ⟨t, 1, none⟩ 1 ∧
 ∀ w7, w7 = setCells w ⟨t, 1, none⟩ [.int .i64 ((n5 : Nat) : Int)] 0 →
 R (.returned (.int .i64 0)) w7))) :
    Calls Tryz.prog 57 #[(.pointer (some ⟨t, 0, none⟩))] w R :=
  calls_of_vc an57 Tryz.func57 rfl (by kernel_rfl) (by kernel_rfl) (Eq.mp (by kernel_rfl) h)

/-- (*samaritan/storage.File).Write -/
def an124 : An := (.seq (.reg []) (.seq (.seq (.reg [(3, 0, true)]) (.cond (.seq (.reg []) .nil) .nil)) (.seq (.seq (.reg [(8, 0, true)]) (.cond (.seq (.reg []) .nil) .nil)) (.seq (.reg [(6, 1, false)]) (.seq (.reg []) .nil)))))
set_option maxRecDepth 100000 in
theorem nf124 (t : Nat) (b : Option Addr) (b_n : Nat) (b_c : Nat) (w : World) (R : Ending → World → Prop) (h :
(∃ b1, w.cell? ⟨t, 2, none⟩ = some (.bool b1) ∧
(b1 = true →
 R (.returned (.int .i64 7)) w) ∧
(b1 = false →
 ∃ o4, ∃ n5, ∃ n6, w.cell? ⟨t, 0, none⟩ = some (.slice o4 n5 n6) ∧
(decide (((b_n : Nat) : Int) > IntKind.wrap .i64 (16777216 - ((n5 : Nat) : Int))) = true →
 R (.returned (.int .i64 6)) w) ∧
(decide (((b_n : Nat) : Int) > IntKind.wrap .i64 (16777216 - ((n5 : Nat) : Int))) = false →
 ∃ o9, ∃ n10, ∃ n11, w.cell? ⟨t, 0, none⟩ = some (.slice o9 n10 n11) ∧
 RunOk Tryz.prog (Hold (Builtin.append_ #[42, 42] 42 #[.slice o9 n10 n11, .slice b b_n b_c])) w (fun v12 => fun w13 => ∃ o14, ∃ n15, ∃ n16, v12 = .slice o14 n15 n16 ∧
 There w13 ⟨t, 0, none⟩ 1 ∧
 ∀ w17, w17 = setCells w13 ⟨t, 0, none⟩ [.slice o14 n15 n16] 0 →
 R (.returned (.int .i64 0)) w17))))) :
    Calls Tryz.prog 124 #[(.pointer (some ⟨t, 0, none⟩)), (.slice b b_n b_c)] w R :=
  calls_of_vc an124 Tryz.func124 rfl (by kernel_rfl) (by kernel_rfl) (Eq.mp (by kernel_rfl) h)

/-- (*samaritan/storage.File).PowerOn -/
def an10 : An := (.reg [])
set_option maxRecDepth 100000 in
theorem nf10 (t : Nat) (w : World) (R : Ending → World → Prop) (h :
(There w ⟨t, 2, none⟩ 1 ∧
 ∀ w1, w1 = setCells w ⟨t, 2, none⟩ [.bool false] 0 →
 R (.returned (.tuple #[])) w1)) :
    Calls Tryz.prog 10 #[(.pointer (some ⟨t, 0, none⟩))] w R :=
  calls_of_vc an10 Tryz.func10 rfl (by kernel_rfl) (by kernel_rfl) (Eq.mp (by kernel_rfl) h)

/-- (*samaritan/storage.File).PowerFail -/
def an9 : An := (.seq (.seq (.reg [(3, 0, true)]) (.cond .nil .nil)) (.seq (.reg []) (.seq (.regD [] [0, 1, 2, 3, 4, 5, 6, 7, 8, 9, 10, 11, 12, 13] []) (.seq (.regD [(11, 2, false)] [0, 1, 2, 3, 4, 5, 6, 7, 8, 9, 10, 11, 12, 13, 14] [14]) (.cut [] (.seq (.reg [(1, 0, true)]) (.cond (.regD [(13, 1, false)] [0, 1, 2, 3, 4, 5, 6, 7, 8, 9, 10, 11, 12, 13, 14, 15] [13, 15]) .nil)) (.reg []))))))
set_option maxRecDepth 100000 in
theorem nf9 (t : Nat) (keep : Int) (mask : Int) (w : World) (R : Ending → World → Prop) (h :
(∃ b1, w.cell? ⟨t, 2, none⟩ = some (.bool b1) ∧
(b1 = true →
 R (.returned (.tuple #[])) w) ∧
(b1 = false →
 There w ⟨t, 2, none⟩ 1 ∧
 ∀ w4, w4 = setCells w ⟨t, 2, none⟩ [.bool true] 0 →
 ∀ w6, w6 = w4.drew →
 ∃ o8, ∃ n9, ∃ n10, w6.cell? ⟨t, 0, none⟩ = some (.slice o8 n9 n10) ∧
 ∃ x11, w6.cell? ⟨t, 1, none⟩ = some (.int .i64 x11) ∧
 ∀ w12, w12 = w6.drew →
 ∃ o14, ∃ n15, ∃ n16, w12.cell? ⟨t, 0, none⟩ = some (.slice o14 n15 n16) ∧
 ∃ x17, w12.cell? ⟨t, 1, none⟩ = some (.int .i64 x17) ∧
((0 : Int) ≤ IntKind.wrap .i64 (x17 + (if (IntKind.wrap .i64 (((n9 : Nat) : Int) - x11) < (if (keep < 0) then 0 else keep)) then (IntKind.wrap .i64 (((n9 : Nat) : Int) - x11)) else (if (keep < 0) then 0 else keep))) ∧
 IntKind.wrap .i64 (x17 + (if (IntKind.wrap .i64 (((n9 : Nat) : Int) - x11) < (if (keep < 0) then 0 else keep)) then (IntKind.wrap .i64 (((n9 : Nat) : Int) - x11)) else (if (keep < 0) then 0 else keep))) ≤ ((n16 : Nat) : Int)) ∧
 There w12 ⟨t, 0, none⟩ 1 ∧
 ∀ w18, w18 = setCells w12 ⟨t, 0, none⟩ [.slice (if (n16 = 0) then o14 else (Option.map (fun (x : Addr) => x) o14)) ((IntKind.wrap .i64 (x17 + (if (IntKind.wrap .i64 (((n9 : Nat) : Int) - x11) < (if (keep < 0) then 0 else keep)) then (IntKind.wrap .i64 (((n9 : Nat) : Int) - x11)) else (if (keep < 0) then 0 else keep)))).toNat - 0) (n16 - 0)] 0 →
 ∀ k20 : (World →
 Prop), (∀ w22 : World, ((Nat →
 Value) →
 ∃ o25, ∃ n26, ∃ n27, w22.cell? ⟨t, 0, none⟩ = some (.slice o25 n26 n27) ∧
 There w22 ⟨t, 1, none⟩ 1 ∧
 ∀ w28, w28 = setCells w22 ⟨t, 1, none⟩ [.int .i64 ((n26 : Nat) : Int)] 0 →
 R (.returned (.tuple #[])) w28) →
 k20 w22) →
(decide ((if (IntKind.wrap .i64 (((n9 : Nat) : Int) - x11) < (if (keep < 0) then 0 else keep)) then (IntKind.wrap .i64 (((n9 : Nat) : Int) - x11)) else (if (keep < 0) then 0 else keep)) > 0) = true →
 ∀ w31, w31 = w18.drew →
 ∃ o33, ∃ n34, ∃ n35, w31.cell? ⟨t, 0, none⟩ = some (.slice o33 n34 n35) ∧
 ∃ o36, ∃ n37, ∃ n38, w31.cell? ⟨t, 0, none⟩ = some (.slice o36 n37 n38) ∧
 ∃ a39 : Addr, o33 = some a39 ∧
((0 : Int) ≤ IntKind.wrap .i64 (((n37 : Nat) : Int) - 1) ∧
 IntKind.wrap .i64 (((n37 : Nat) : Int) - 1) < ((n34 : Nat) : Int)) ∧
 ∃ x40, w31.cell? (Addr.add a39 ((IntKind.wrap .i64 (((n37 : Nat) : Int) - 1)).toNat * 1)) = some (.int .u8 x40) ∧
 RunOk Tryz.prog (Hold (binOpSem BinOp.xor 5 (Operand.tmp 53) (Operand.tmp 54) (.int .u8 x40) (.int .u8 mask))) w31 (fun v41 => fun w42 => ∃ x43, v41 = .int .u8 x43 ∧
 ∃ a44 : Addr, o33 = some a44 ∧
((0 : Int) ≤ IntKind.wrap .i64 (((n37 : Nat) : Int) - 1) ∧
 IntKind.wrap .i64 (((n37 : Nat) : Int) - 1) < ((n34 : Nat) : Int)) ∧
 There w42 (Addr.add a44 ((IntKind.wrap .i64 (((n37 : Nat) : Int) - 1)).toNat * 1)) 1 ∧
 ∀ w45, w45 = setCells w42 (Addr.add a44 ((IntKind.wrap .i64 (((n37 : Nat) : Int) - 1)).toNat * 1)) [.int .u8 x43] 0 →
 k20 w45)) ∧
(decide ((if (IntKind.wrap .i64 (((n9 : Nat) : Int) - x11) < (if (keep < 0) then 0 else keep)) then (IntKind.wrap .i64 (((n9 : Nat) : Int) - x11)) else (if (keep < 0) then 0 else keep)) > 0) = false →
 k20 w18)))) :
    Calls Tryz.prog 9 #[(.pointer (some ⟨t, 0, none⟩)), (.int .i64 keep), (.int .u8 mask)] w R :=
  calls_of_vc an9 Tryz.func9 rfl (by kernel_rfl) (by kernel_rfl) (Eq.mp (by kernel_rfl) h)

/-- samaritan/journal.appendRecord -/
def an123 : An := (.seq (.reg []) (.seq (.reg []) (.seq (.reg []) (.seq (.reg [(2, 1, false)]) (.seq (.reg [(4, 1, false)]) (.seq (.reg [(3, 1, false)]) (.seq (.reg []) (.seq (.seq (.reg []) (.blk (.loop [(0, .slice), (33, .int .i64)] (.seq (.reg [(0, 0, true)]) (.seq (.cond .nil .nil) (.seq (.blk (.seq (.reg []) (.reg [(4, 1, false), (7, 1, false)]))) (.reg []))))))) (.seq (.reg []) .nil)))))))))
set_option maxRecDepth 100000 in
theorem nf123 (b : Option Addr) (b_n : Nat) (b_c : Nat) (prev : Int) (r_Kind : Int) (r_Body : Option Addr) (r_Body_n : Nat) (r_Body_c : Nat) (w : World) (R : Ending → World → Prop) (h :
(∀ w1, w1 = w.alloc (.cells #[.int .u8 r_Kind, .slice r_Body r_Body_n r_Body_c] 104 (0, 0)) →
 ∀ w3, w3 = w1.alloc (.cells #[.slice none 0 0] 137 (0, 0)) →
 ∃ o5, ∃ n6, ∃ n7, w3.cell? ⟨hs w, 1, none⟩ = some (.slice o5 n6 n7) ∧
 Calls Tryz.prog 101 #[.pointer (some ⟨hs w1, 0, none⟩), .int .i64 ((n6 : Nat) : Int)] w3 (fun e8 => fun w9 => e8 = .returned (.tuple #[]) ∧
 Calls Tryz.prog 85 #[.pointer (some ⟨hs w1, 0, none⟩)] w9 (fun e10 => fun w11 => ∃ o12, ∃ n13, ∃ n14, e10 = .returned (.slice o12 n13 n14) ∧
 RunOk Tryz.prog (Hold (Builtin.append_ #[42, 42] 42 #[.slice b b_n b_c, .slice o12 n13 n14])) w11 (fun v15 => fun w16 => ∃ o17, ∃ n18, ∃ n19, v15 = .slice o17 n18 n19 ∧
 ∃ x20, w16.cell? ⟨hs w, 0, none⟩ = some (.int .u8 x20) ∧
 ∀ w21, w21 = w16.alloc (.cells #[.int .u8 x20] 5 (0, 0)) →
 RunOk Tryz.prog (Hold (Builtin.append_ #[42, 42] 42 #[.slice o17 n18 n19, .slice (some ⟨hs w16, 0, none⟩) 1 1])) w21 (fun v23 => fun w24 => ∃ o25, ∃ n26, ∃ n27, v23 = .slice o25 n26 n27 ∧
 ∃ o28, ∃ n29, ∃ n30, w24.cell? ⟨hs w, 1, none⟩ = some (.slice o28 n29 n30) ∧
 RunOk Tryz.prog (Hold (Builtin.append_ #[42, 42] 42 #[.slice o25 n26 n27, .slice o28 n29 n30])) w24 (fun v31 => fun w32 => ∃ o33, ∃ n34, ∃ n35, v31 = .slice o33 n34 n35 ∧
 ∃ x36, w32.cell? ⟨hs w, 0, none⟩ = some (.int .u8 x36) ∧
 ∃ o37, ∃ n38, ∃ n39, w32.cell? ⟨hs w, 1, none⟩ = some (.slice o37 n38 n39) ∧
 Calls Tryz.prog 90 #[.int .u64 prev, .int .u8 x36, .slice o37 n38 n39] w32 (fun e40 => fun w41 => ∃ x42, e40 = .returned (.int .u64 x42) ∧
 ∃ k43 : (Nat →
 Option Addr →
 Nat →
 Nat →
 Int →
 World →
 Prop), (∃ n44, k43 n44 o33 n34 n35 0 w41) ∧
 ∀ n45 : Nat, (Nat →
 Value) →
 ∀ w47 : World, ∀ o48 : Option Addr, ∀ n49 : Nat, ∀ n50 : Nat, ∀ x51 : Int, k43 n45 o48 n49 n50 x51 w47 →
(decide (x51 < 8) = true →
 RunOk Tryz.prog (Hold (binOpSem BinOp.shr 60 (Operand.tmp 37) (Operand.tmp 39) (.int .u64 x42) (.int .i64 (IntKind.wrap .i64 (8 * x51))))) w47 (fun v54 => fun w55 => ∃ x56, v54 = .int .u64 x56 ∧
 ∀ w57, w57 = w55.alloc (.cells #[.int .u8 (IntKind.wrap .u8 x56)] 5 (0, 0)) →
 RunOk Tryz.prog (Hold (Builtin.append_ #[42, 42] 42 #[.slice o48 n49 n50, .slice (some ⟨hs w55, 0, none⟩) 1 1])) w57 (fun v59 => fun w60 => ∃ o61, ∃ n62, ∃ n63, v59 = .slice o61 n62 n63 ∧
 ∃ n64, n64 < n45 ∧
 k43 n64 o61 n62 n63 (IntKind.wrap .i64 (x51 + 1)) w60))) ∧
(decide (x51 < 8) = false →
 R (.returned (.tuple #[.slice o48 n49 n50, .int .u64 x42])) w47))))))))) :
    Calls Tryz.prog 123 #[(.slice b b_n b_c), (.int .u64 prev), (.agg #[(.int .u8 r_Kind), (.slice r_Body r_Body_n r_Body_c)])] w R :=
  calls_of_vc an123 Tryz.func123 rfl (by kernel_rfl) (by kernel_rfl) (Eq.mp (by kernel_rfl) h)

/-- samaritan/journal.readLength -/
def an89 : An := (.seq (.reg []) (.seq (.reg []) (.seq (.blk (.loop [(5, .int .i64)] (.seq (.seq (.reg [(3, 0, true), (9, 0, true)]) (.cond .nil .nil)) (.blk (.seq (.reg []) (.seq (.reg [(1, 0, true)]) (.cond (.seq (.reg []) .nil) .nil))))))) (.seq (.seq (.reg [(3, 0, true)]) (.cond (.seq (.reg []) .nil) .nil)) (.seq (.reg [(3, 2, false)]) (.seq (.reg []) (.seq (.seq (.reg [(2, 0, true), (5, 0, true), (9, 0, true)]) (.cond (.seq (.reg []) .nil) .nil)) (.seq (.reg []) .nil))))))))
set_option maxRecDepth 100000 in
theorem nf89 (b : Option Addr) (b_n : Nat) (b_c : Nat) (w : World) (R : Ending → World → Prop) (h :
(∃ k1 : (Nat →
 Int →
 World →
 Prop), (∃ n2, k1 n2 0 w) ∧
 ∀ n3 : Nat, (Nat →
 Value) →
 ∀ w5 : World, ∀ x6 : Int, k1 n3 x6 w5 →
(decide (x6 < ((b_n : Nat) : Int)) = true →
 ∃ a9 : Addr, b = some a9 ∧
((0 : Int) ≤ x6 ∧
 x6 < ((b_n : Nat) : Int)) ∧
 ∃ x10, w5.cell? (Addr.add a9 ((x6).toNat * 1)) = some (.int .u8 x10) ∧
(decide (x10 ≥ 128) = true →
(decide (IntKind.wrap .i64 (x6 + 1) > 3) = true →
 R (.returned (.tuple #[.int .i64 0, .int .i64 0, .bool false])) w5) ∧
(decide (IntKind.wrap .i64 (x6 + 1) > 3) = false →
 ∃ n14, n14 < n3 ∧
 k1 n14 (IntKind.wrap .i64 (x6 + 1)) w5)) ∧
(decide (x10 ≥ 128) = false →
(decide (x6 = ((b_n : Nat) : Int)) = true →
 R (.returned (.tuple #[.int .i64 0, .int .i64 0, .bool false])) w5) ∧
(decide (x6 = ((b_n : Nat) : Int)) = false →
((0 : Int) ≤ IntKind.wrap .i64 (x6 + 1) ∧
 IntKind.wrap .i64 (x6 + 1) ≤ ((b_c : Nat) : Int)) ∧
 Calls Tryz.prog 91 #[.slice (if (b_c = 0) then b else (Option.map (fun (x : Addr) => x) b)) ((IntKind.wrap .i64 (x6 + 1)).toNat - 0) (b_c - 0)] w5 (fun e18 => fun w19 => ∃ o20, e18 = .returned (.pointer o20) ∧
 Calls Tryz.prog 92 #[.pointer o20] w19 (fun e21 => fun w22 => ∃ x23, e21 = .returned (.int .i64 x23) ∧
 Calls Tryz.prog 93 #[.pointer o20] w22 (fun e24 => fun w25 => ∃ x26, e24 = .returned (.int .i64 x26) ∧
((! (decide (x26 = 0))) = true →
 R (.returned (.tuple #[.int .i64 0, .int .i64 0, .bool false])) w25) ∧
((! (decide (x26 = 0))) = false →
(decide (x23 < 0) = true →
 R (.returned (.tuple #[.int .i64 0, .int .i64 0, .bool false])) w25) ∧
(decide (x23 < 0) = false →
(decide (x23 > 8192) = true →
 R (.returned (.tuple #[.int .i64 0, .int .i64 0, .bool false])) w25) ∧
(decide (x23 > 8192) = false →
 R (.returned (.tuple #[.int .i64 x23, .int .i64 (IntKind.wrap .i64 (x6 + 1)), .bool true])) w25))))))))) ∧
(decide (x6 < ((b_n : Nat) : Int)) = false →
(decide (x6 = ((b_n : Nat) : Int)) = true →
 R (.returned (.tuple #[.int .i64 0, .int .i64 0, .bool false])) w5) ∧
(decide (x6 = ((b_n : Nat) : Int)) = false →
((0 : Int) ≤ IntKind.wrap .i64 (x6 + 1) ∧
 IntKind.wrap .i64 (x6 + 1) ≤ ((b_c : Nat) : Int)) ∧
 Calls Tryz.prog 91 #[.slice (if (b_c = 0) then b else (Option.map (fun (x : Addr) => x) b)) ((IntKind.wrap .i64 (x6 + 1)).toNat - 0) (b_c - 0)] w5 (fun e36 => fun w37 => ∃ o38, e36 = .returned (.pointer o38) ∧
 Calls Tryz.prog 92 #[.pointer o38] w37 (fun e39 => fun w40 => ∃ x41, e39 = .returned (.int .i64 x41) ∧
 Calls Tryz.prog 93 #[.pointer o38] w40 (fun e42 => fun w43 => ∃ x44, e42 = .returned (.int .i64 x44) ∧
((! (decide (x44 = 0))) = true →
 R (.returned (.tuple #[.int .i64 0, .int .i64 0, .bool false])) w43) ∧
((! (decide (x44 = 0))) = false →
(decide (x41 < 0) = true →
 R (.returned (.tuple #[.int .i64 0, .int .i64 0, .bool false])) w43) ∧
(decide (x41 < 0) = false →
(decide (x41 > 8192) = true →
 R (.returned (.tuple #[.int .i64 0, .int .i64 0, .bool false])) w43) ∧
(decide (x41 > 8192) = false →
 R (.returned (.tuple #[.int .i64 x41, .int .i64 (IntKind.wrap .i64 (x6 + 1)), .bool true])) w43)))))))))) :
    Calls Tryz.prog 89 #[(.slice b b_n b_c)] w R :=
  calls_of_vc an89 Tryz.func89 rfl (by kernel_rfl) (by kernel_rfl) (Eq.mp (by kernel_rfl) h)

/-- samaritan/journal.readRecord -/
def an54 : An := (.seq (.reg []) (.seq (.reg [(5, 0, true)]) (.seq (.seq (.reg [(10, 0, true)]) (.cond (.seq (.reg []) .nil) .nil)) (.seq (.reg []) (.seq (.reg [(7, 2, false)]) (.seq (.reg []) (.seq (.reg []) (.seq (.seq (.reg []) (.blk (.loop [(54, .int .i64)] (.seq (.reg [(0, 0, true)]) (.seq (.cond .nil .nil) (.seq (.blk (.seq (.reg []) (.seq (.regD [(9, 1, false), (11, 0, true)] [0, 1, 2, 3, 4, 5, 6, 7, 8, 9, 10, 11] [9]) (.cond (.seq (.reg []) .nil) .nil)))) (.reg []))))))) (.seq (.reg []) .nil)))))))))
set_option maxRecDepth 100000 in
theorem nf54 (b : Option Addr) (b_n : Nat) (b_c : Nat) (prev : Int) (w : World) (R : Ending → World → Prop) (h :
(∀ w1, w1 = w.alloc (.cells #[.int .u8 0, .slice none 0 0] 104 (0, 0)) →
 Calls Tryz.prog 89 #[.slice b b_n b_c] w1 (fun e3 => fun w4 => ∃ x5, ∃ x6, ∃ b7, e3 = .returned (.tuple #[.int .i64 x5, .int .i64 x6, .bool b7]) ∧
(b7 = true →
(decide (IntKind.wrap .i64 (((b_n : Nat) : Int) - x6) < IntKind.wrap .i64 ((IntKind.wrap .i64 (1 + x5)) + 8)) = true →
 There w4 ⟨hs w, 0, none⟩ 2 ∧
 ∀ w10, w10 = setCells w4 ⟨hs w, 0, none⟩ [.int .u8 0, .slice none 0 0] 0 →
 ∃ x12, w10.cell? ⟨hs w, 0, none⟩ = some (.int .u8 x12) ∧
 ∃ o13, ∃ n14, ∃ n15, w10.cell? ⟨hs w, 1, none⟩ = some (.slice o13 n14 n15) ∧
 R (.returned (.tuple #[.agg #[.int .u8 x12, .slice o13 n14 n15], .int .u64 0, .int .i64 0, .bool false])) w10) ∧
(decide (IntKind.wrap .i64 (((b_n : Nat) : Int) - x6) < IntKind.wrap .i64 ((IntKind.wrap .i64 (1 + x5)) + 8)) = false →
 ∃ a17 : Addr, b = some a17 ∧
((0 : Int) ≤ x6 ∧
 x6 < ((b_n : Nat) : Int)) ∧
 ∃ x18, w4.cell? (Addr.add a17 ((x6).toNat * 1)) = some (.int .u8 x18) ∧
((0 : Int) ≤ IntKind.wrap .i64 ((IntKind.wrap .i64 (x6 + 1)) + x5) ∧
 IntKind.wrap .i64 ((IntKind.wrap .i64 (x6 + 1)) + x5) ≤ ((b_c : Nat) : Int)) ∧
((0 : Int) ≤ IntKind.wrap .i64 (x6 + 1) ∧
 IntKind.wrap .i64 (x6 + 1) ≤ (((IntKind.wrap .i64 ((IntKind.wrap .i64 (x6 + 1)) + x5)).toNat : Nat) : Int)) ∧
 Calls Tryz.prog 90 #[.int .u64 prev, .int .u8 x18, .slice (if (b_c = (IntKind.wrap .i64 (x6 + 1)).toNat) then b else (Option.map (fun (x : Addr) => Addr.add x ((IntKind.wrap .i64 (x6 + 1)).toNat * 1)) b)) ((IntKind.wrap .i64 ((IntKind.wrap .i64 (x6 + 1)) + x5)).toNat - (IntKind.wrap .i64 (x6 + 1)).toNat) (b_c - (IntKind.wrap .i64 (x6 + 1)).toNat)] w4 (fun e19 => fun w20 => ∃ x21, e19 = .returned (.int .u64 x21) ∧
 ∃ k22 : (Nat →
 Int →
 World →
 Prop), (∃ n23, k22 n23 0 w20) ∧
 ∀ n24 : Nat, (Nat →
 Value) →
 ∀ w26 : World, ∀ x27 : Int, k22 n24 x27 w26 →
(decide (x27 < 8) = true →
 ∀ w30, w30 = w26.drew →
 ∃ a32 : Addr, b = some a32 ∧
((0 : Int) ≤ IntKind.wrap .i64 ((IntKind.wrap .i64 (x6 + (IntKind.wrap .i64 (1 + x5)))) + x27) ∧
 IntKind.wrap .i64 ((IntKind.wrap .i64 (x6 + (IntKind.wrap .i64 (1 + x5)))) + x27) < ((b_n : Nat) : Int)) ∧
 ∃ x33, w30.cell? (Addr.add a32 ((IntKind.wrap .i64 ((IntKind.wrap .i64 (x6 + (IntKind.wrap .i64 (1 + x5)))) + x27)).toNat * 1)) = some (.int .u8 x33) ∧
 RunOk Tryz.prog (Hold (binOpSem BinOp.shr 60 (Operand.tmp 63) (Operand.tmp 65) (.int .u64 x21) (.int .i64 (IntKind.wrap .i64 (8 * x27))))) w30 (fun v34 => fun w35 => ∃ x36, v34 = .int .u64 x36 ∧
 Kept w30 w35 (Addr.add a32 ((IntKind.wrap .i64 ((IntKind.wrap .i64 (x6 + (IntKind.wrap .i64 (1 + x5)))) + x27)).toNat * 1)) 1 ∧
((! (decide (x33 = IntKind.wrap .u8 x36))) = true →
 There w35 ⟨hs w, 0, none⟩ 2 ∧
 ∀ w38, w38 = setCells w35 ⟨hs w, 0, none⟩ [.int .u8 0, .slice none 0 0] 0 →
 ∃ x40, w38.cell? ⟨hs w, 0, none⟩ = some (.int .u8 x40) ∧
 ∃ o41, ∃ n42, ∃ n43, w38.cell? ⟨hs w, 1, none⟩ = some (.slice o41 n42 n43) ∧
 R (.returned (.tuple #[.agg #[.int .u8 x40, .slice o41 n42 n43], .int .u64 0, .int .i64 0, .bool false])) w38) ∧
((! (decide (x33 = IntKind.wrap .u8 x36))) = false →
 ∃ n45, n45 < n24 ∧
 k22 n45 (IntKind.wrap .i64 (x27 + 1)) w35))) ∧
(decide (x27 < 8) = false →
 There w26 ⟨hs w, 0, none⟩ 2 ∧
 ∀ w47, w47 = setCells w26 ⟨hs w, 0, none⟩ [.int .u8 x18, .slice (if (b_c = (IntKind.wrap .i64 (x6 + 1)).toNat) then b else (Option.map (fun (x : Addr) => Addr.add x ((IntKind.wrap .i64 (x6 + 1)).toNat * 1)) b)) ((IntKind.wrap .i64 ((IntKind.wrap .i64 (x6 + 1)) + x5)).toNat - (IntKind.wrap .i64 (x6 + 1)).toNat) (b_c - (IntKind.wrap .i64 (x6 + 1)).toNat)] 0 →
 ∃ x49, w47.cell? ⟨hs w, 0, none⟩ = some (.int .u8 x49) ∧
 ∃ o50, ∃ n51, ∃ n52, w47.cell? ⟨hs w, 1, none⟩ = some (.slice o50 n51 n52) ∧
 R (.returned (.tuple #[.agg #[.int .u8 x49, .slice o50 n51 n52], .int .u64 x21, .int .i64 (IntKind.wrap .i64 ((IntKind.wrap .i64 (x6 + (IntKind.wrap .i64 (1 + x5)))) + 8)), .bool true])) w47)))) ∧
(b7 = false →
 There w4 ⟨hs w, 0, none⟩ 2 ∧
 ∀ w54, w54 = setCells w4 ⟨hs w, 0, none⟩ [.int .u8 0, .slice none 0 0] 0 →
 ∃ x56, w54.cell? ⟨hs w, 0, none⟩ = some (.int .u8 x56) ∧
 ∃ o57, ∃ n58, ∃ n59, w54.cell? ⟨hs w, 1, none⟩ = some (.slice o57 n58 n59) ∧
 R (.returned (.tuple #[.agg #[.int .u8 x56, .slice o57 n58 n59], .int .u64 0, .int .i64 0, .bool false])) w54)))) :
    Calls Tryz.prog 54 #[(.slice b b_n b_c), (.int .u64 prev)] w R :=
  calls_of_vc an54 Tryz.func54 rfl (by kernel_rfl) (by kernel_rfl) (Eq.mp (by kernel_rfl) h)

/-- samaritan/journal.clone -/
def an55 : An := (.seq (.reg []) (.seq (.regD [(4, 1, false)] [0, 1, 2, 3, 4, 5, 6] [4, 6]) .nil))
set_option maxRecDepth 100000 in
theorem nf55 (r_Kind : Int) (r_Body : Option Addr) (r_Body_n : Nat) (r_Body_c : Nat) (w : World) (R : Ending → World → Prop) (h :
(∀ w1, w1 = w.alloc (.cells #[.int .u8 r_Kind, .slice r_Body r_Body_n r_Body_c] 104 (0, 0)) →
 ∀ w3, w3 = w1.alloc (.cells #[.int .u8 0, .slice none 0 0] 104 (0, 0)) →
 ∀ w5, w5 = w3.drew →
 ∃ x7, w5.cell? ⟨hs w, 0, none⟩ = some (.int .u8 x7) ∧
 ∃ o8, ∃ n9, ∃ n10, w5.cell? ⟨hs w, 1, none⟩ = some (.slice o8 n9 n10) ∧
 RunOk Tryz.prog (Hold (Builtin.append_ #[42, 42] 42 #[.slice none 0 0, .slice o8 n9 n10])) w5 (fun v11 => fun w12 => ∃ o13, ∃ n14, ∃ n15, v11 = .slice o13 n14 n15 ∧
 Kept w5 w12 ⟨hs w, 0, none⟩ 1 ∧
 There w12 ⟨hs w1, 0, none⟩ 2 ∧
 ∀ w16, w16 = setCells w12 ⟨hs w1, 0, none⟩ [.int .u8 x7, .slice o13 n14 n15] 0 →
 ∃ x18, w16.cell? ⟨hs w1, 0, none⟩ = some (.int .u8 x18) ∧
 ∃ o19, ∃ n20, ∃ n21, w16.cell? ⟨hs w1, 1, none⟩ = some (.slice o19 n20 n21) ∧
 R (.returned (.agg #[.int .u8 x18, .slice o19 n20 n21])) w16))) :
    Calls Tryz.prog 55 #[(.agg #[(.int .u8 r_Kind), (.slice r_Body r_Body_n r_Body_c)])] w R :=
  calls_of_vc an55 Tryz.func55 rfl (by kernel_rfl) (by kernel_rfl) (Eq.mp (by kernel_rfl) h)

/-- samaritan/journal.Open -/
def an23 : An := (.seq (.reg []) (.seq (.seq (.reg [(1, 3, true)]) (.cond (.seq (.reg []) .nil) .nil)) (.seq (.reg []) (.seq (.seq (.reg [(1, 0, true)]) (.cond (.seq (.reg []) .nil) .nil)) (.seq (.reg []) (.seq (.reg []) (.seq (.reg [(7, 1, false)]) (.seq (.reg []) (.seq (.blk (.loop [(7, .int .u64), (8, .int .i64)] (.blk (.seq (.reg [(2, 2, false), (9, 0, true)]) (.seq (.seq (.reg []) (.cond .nil .nil)) (.seq (.reg []) (.seq (.reg []) (.seq (.regD [(8, 1, false)] [0, 1, 2, 3, 4, 5, 6, 7, 8, 9, 10, 11] [6, 7, 8, 11]) (.reg [(7, 1, false)]))))))))) (.seq (.seq (.reg []) (.seq (.reg [(1, 0, true)]) (.cond (.seq (.reg []) .nil) .nil))) (.seq (.seq (.reg []) (.seq (.reg [(1, 0, true)]) (.cond (.seq (.reg []) .nil) .nil))) (.seq (.reg []) .nil))))))))))))
set_option maxRecDepth 100000 in
theorem nf23 (f : Nat) (w : World) (R : Ending → World → Prop) (h :
((false = true →
 R (.returned (.tuple #[.pointer none, .int .i64 1])) w) ∧
(false = false →
 Calls Tryz.prog 53 #[.pointer (some ⟨f, 0, none⟩)] w (fun e3 => fun w4 => ∃ o5, ∃ n6, ∃ n7, ∃ x8, e3 = .returned (.tuple #[.slice o5 n6 n7, .int .i64 x8]) ∧
((! (decide (x8 = 0))) = true →
 R (.returned (.tuple #[.pointer none, .int .i64 x8])) w4) ∧
((! (decide (x8 = 0))) = false →
 ∀ w11, w11 = w4.alloc (.cells #[.pointer (some ⟨f, 0, none⟩), .slice none 0 0, .slice none 0 0] 102 (0, 0)) →
 Calls Tryz.prog 21 #[.slice none 0 0] w11 (fun e13 => fun w14 => ∃ x15, e13 = .returned (.int .u64 x15) ∧
 ∃ o16, ∃ n17, ∃ n18, w14.cell? ⟨hs w4, 2, none⟩ = some (.slice o16 n17 n18) ∧
 ∀ w19, w19 = w14.alloc (.cells #[.int .u64 x15] 60 (0, 0)) →
 RunOk Tryz.prog (Hold (Builtin.append_ #[100, 100] 100 #[.slice o16 n17 n18, .slice (some ⟨hs w14, 0, none⟩) 1 1])) w19 (fun v21 => fun w22 => ∃ o23, ∃ n24, ∃ n25, v21 = .slice o23 n24 n25 ∧
 There w22 ⟨hs w4, 2, none⟩ 1 ∧
 ∀ w26, w26 = setCells w22 ⟨hs w4, 2, none⟩ [.slice o23 n24 n25] 0 →
 ∃ k28 : (Nat →
 Int →
 Int →
 World →
 Prop), (∃ n29, k28 n29 x15 0 w26) ∧
 ∀ n30 : Nat, (Nat →
 Value) →
 ∀ w32 : World, ∀ x33 : Int, ∀ x34 : Int, k28 n30 x33 x34 w32 →
((0 : Int) ≤ x34 ∧
 x34 ≤ ((n6 : Nat) : Int)) ∧
 Calls Tryz.prog 54 #[.slice (if (n7 = (x34).toNat) then o5 else (Option.map (fun (x : Addr) => Addr.add x ((x34).toNat * 1)) o5)) (n6 - (x34).toNat) (n7 - (x34).toNat), .int .u64 x33] w32 (fun e36 => fun w37 => ∃ x38, ∃ o39, ∃ n40, ∃ n41, ∃ x42, ∃ x43, ∃ b44, e36 = .returned (.tuple #[.agg #[.int .u8 x38, .slice o39 n40 n41], .int .u64 x42, .int .i64 x43, .bool b44]) ∧
(b44 = true →
 ∀ w46, w46 = w37.alloc (.cells #[.int .u8 0, .slice none 0 0] 104 (0, 0)) →
 There w46 ⟨hs w37, 0, none⟩ 2 ∧
 ∀ w48, w48 = setCells w46 ⟨hs w37, 0, none⟩ [.int .u8 x38, .slice o39 n40 n41] 0 →
 ∀ w50, w50 = w48.drew →
 ∃ o52, ∃ n53, ∃ n54, w50.cell? ⟨hs w4, 1, none⟩ = some (.slice o52 n53 n54) ∧
 ∃ x55, w50.cell? ⟨hs w37, 0, none⟩ = some (.int .u8 x55) ∧
 ∃ o56, ∃ n57, ∃ n58, w50.cell? ⟨hs w37, 1, none⟩ = some (.slice o56 n57 n58) ∧
 Calls Tryz.prog 55 #[.agg #[.int .u8 x55, .slice o56 n57 n58]] w50 (fun e59 => fun w60 => ∃ x61, ∃ o62, ∃ n63, ∃ n64, e59 = .returned (.agg #[.int .u8 x61, .slice o62 n63 n64]) ∧
 Kept w50 w60 ⟨hs w4, 1, none⟩ 1 ∧
 ∀ w65, w65 = w60.alloc (.cells #[.int .u8 x61, .slice o62 n63 n64] 104 (0, 0)) →
 Kept w50 w65 ⟨hs w4, 1, none⟩ 1 ∧
 RunOk Tryz.prog (Hold (Builtin.append_ #[79, 79] 79 #[.slice o52 n53 n54, .slice (some ⟨hs w60, 0, none⟩) 1 1])) w65 (fun v67 => fun w68 => ∃ o69, ∃ n70, ∃ n71, v67 = .slice o69 n70 n71 ∧
 There w68 ⟨hs w4, 1, none⟩ 1 ∧
 ∀ w72, w72 = setCells w68 ⟨hs w4, 1, none⟩ [.slice o69 n70 n71] 0 →
 ∃ o74, ∃ n75, ∃ n76, w72.cell? ⟨hs w4, 2, none⟩ = some (.slice o74 n75 n76) ∧
 ∀ w77, w77 = w72.alloc (.cells #[.int .u64 x42] 60 (0, 0)) →
 RunOk Tryz.prog (Hold (Builtin.append_ #[100, 100] 100 #[.slice o74 n75 n76, .slice (some ⟨hs w72, 0, none⟩) 1 1])) w77 (fun v79 => fun w80 => ∃ o81, ∃ n82, ∃ n83, v79 = .slice o81 n82 n83 ∧
 There w80 ⟨hs w4, 2, none⟩ 1 ∧
 ∀ w84, w84 = setCells w80 ⟨hs w4, 2, none⟩ [.slice o81 n82 n83] 0 →
 ∃ n86, n86 < n30 ∧
 k28 n86 x42 (IntKind.wrap .i64 (x34 + x43)) w84)))) ∧
(b44 = false →
 ∀ w88, w88 = w37.alloc (.cells #[.int .u8 0, .slice none 0 0] 104 (0, 0)) →
 There w88 ⟨hs w37, 0, none⟩ 2 ∧
 ∀ w90, w90 = setCells w88 ⟨hs w37, 0, none⟩ [.int .u8 x38, .slice o39 n40 n41] 0 →
 Calls Tryz.prog 56 #[.pointer (some ⟨f, 0, none⟩), .int .i64 x34] w90 (fun e92 => fun w93 => ∃ x94, e92 = .returned (.int .i64 x94) ∧
((! (decide (x94 = 0))) = true →
 R (.returned (.tuple #[.pointer none, .int .i64 x94])) w93) ∧
((! (decide (x94 = 0))) = false →
 Calls Tryz.prog 57 #[.pointer (some ⟨f, 0, none⟩)] w93 (fun e97 => fun w98 => ∃ x99, e97 = .returned (.int .i64 x99) ∧
((! (decide (x99 = 0))) = true →
 R (.returned (.tuple #[.pointer none, .int .i64 x99])) w98) ∧
((! (decide (x99 = 0))) = false →
 R (.returned (.tuple #[.pointer (some ⟨hs w4, 0, none⟩), .int .i64 0])) w98))))))))))))) :
    Calls Tryz.prog 23 #[(.pointer (some ⟨f, 0, none⟩))] w R :=
  calls_of_vc an23 Tryz.func23 rfl (by kernel_rfl) (by kernel_rfl) (Eq.mp (by kernel_rfl) h)

/-- (*samaritan/journal.Journal).Records -/
def an27 : An := (.seq (.reg []) (.seq (.reg [(5, 1, false)]) (.seq (.seq (.reg []) (.blk (.loop [(17, .int .i64)] (.seq (.reg [(0, 0, true)]) (.seq (.cond .nil .nil) (.seq (.blk (.seq (.reg []) (.reg []))) (.reg []))))))) (.seq (.reg []) .nil))))
set_option maxRecDepth 100000 in
theorem nf27 (j : Nat) (w : World) (R : Ending → World → Prop) (h :
(∃ o1, ∃ n2, ∃ n3, w.cell? ⟨j, 1, none⟩ = some (.slice o1 n2 n3) ∧
 RunOk Tryz.prog (Hold (Instr.makeSlice 79 (.int .i64 ((n2 : Nat) : Int)) (.int .i64 ((n2 : Nat) : Int)))) w (fun v4 => fun w5 => ∃ o6, ∃ n7, ∃ n8, v4 = .slice o6 n7 n8 ∧
 ∃ o9, ∃ n10, ∃ n11, w5.cell? ⟨j, 1, none⟩ = some (.slice o9 n10 n11) ∧
 ∃ k12 : (Nat →
 Int →
 World →
 Prop), (∃ n13, k12 n13 0 w5) ∧
 ∀ n14 : Nat, (Nat →
 Value) →
 ∀ w16 : World, ∀ x17 : Int, k12 n14 x17 w16 →
(decide (x17 < ((n10 : Nat) : Int)) = true →
 ∃ a20 : Addr, o9 = some a20 ∧
((0 : Int) ≤ x17 ∧
 x17 < ((n10 : Nat) : Int)) ∧
 ∃ x21, w16.cell? (Addr.add a20 ((x17).toNat * 2)) = some (.int .u8 x21) ∧
 ∃ o22, ∃ n23, ∃ n24, w16.cell? (Addr.add (Addr.add a20 ((x17).toNat * 2)) 1) = some (.slice o22 n23 n24) ∧
 ∀ w25, w25 = w16.alloc (.cells #[.int .u8 0, .slice none 0 0] 104 (0, 0)) →
 There w25 ⟨hs w16, 0, none⟩ 2 ∧
 ∀ w27, w27 = setCells w25 ⟨hs w16, 0, none⟩ [.int .u8 x21, .slice o22 n23 n24] 0 →
 ∃ x29, w27.cell? ⟨hs w16, 0, none⟩ = some (.int .u8 x29) ∧
 ∃ o30, ∃ n31, ∃ n32, w27.cell? ⟨hs w16, 1, none⟩ = some (.slice o30 n31 n32) ∧
 Calls Tryz.prog 55 #[.agg #[.int .u8 x29, .slice o30 n31 n32]] w27 (fun e33 => fun w34 => ∃ x35, ∃ o36, ∃ n37, ∃ n38, e33 = .returned (.agg #[.int .u8 x35, .slice o36 n37 n38]) ∧
 ∃ a39 : Addr, o6 = some a39 ∧
((0 : Int) ≤ x17 ∧
 x17 < ((n7 : Nat) : Int)) ∧
 There w34 (Addr.add a39 ((x17).toNat * 2)) 2 ∧
 ∀ w40, w40 = setCells w34 (Addr.add a39 ((x17).toNat * 2)) [.int .u8 x35, .slice o36 n37 n38] 0 →
 ∃ n42, n42 < n14 ∧
 k12 n42 (IntKind.wrap .i64 (x17 + 1)) w40)) ∧
(decide (x17 < ((n10 : Nat) : Int)) = false →
 R (.returned (.slice o6 n7 n8)) w16)))) :
    Calls Tryz.prog 27 #[(.pointer (some ⟨j, 0, none⟩))] w R :=
  calls_of_vc an27 Tryz.func27 rfl (by kernel_rfl) (by kernel_rfl) (Eq.mp (by kernel_rfl) h)

/-- (*samaritan/journal.Journal).Sync -/
def an68 : An := (.seq (.reg []) (.seq (.reg []) .nil))
set_option maxRecDepth 100000 in
theorem nf68 (j : Nat) (w : World) (R : Ending → World → Prop) (h :
(∃ o1, w.cell? ⟨j, 0, none⟩ = some (.pointer o1) ∧
 Calls Tryz.prog 57 #[.pointer o1] w (fun e2 => fun w3 => ∃ x4, e2 = .returned (.int .i64 x4) ∧
 R (.returned (.int .i64 x4)) w3))) :
    Calls Tryz.prog 68 #[(.pointer (some ⟨j, 0, none⟩))] w R :=
  calls_of_vc an68 Tryz.func68 rfl (by kernel_rfl) (by kernel_rfl) (Eq.mp (by kernel_rfl) h)

/-- (*samaritan/journal.Journal).Append -/
def an110 : An := (.seq (.reg []) (.seq (.seq (.reg [(3, 0, true)]) (.cond (.seq (.reg []) .nil) .nil)) (.seq (.regD [] [0, 1, 2, 3, 4, 5, 6, 7, 8, 9, 10, 11, 12, 13, 14, 15, 16, 17] [12]) (.seq (.seq (.reg []) (.seq (.reg [(1, 0, true)]) (.cond (.seq (.reg []) .nil) .nil))) (.seq (.regD [(8, 1, false)] [0, 1, 2, 3, 4, 5, 6, 7, 8, 9, 10, 11] [6, 7, 8, 11]) (.seq (.reg [(7, 1, false)]) (.seq (.reg []) .nil)))))))
set_option maxRecDepth 100000 in
theorem nf110 (j : Nat) (r_Kind : Int) (r_Body : Option Addr) (r_Body_n : Nat) (r_Body_c : Nat) (w : World) (R : Ending → World → Prop) (h :
(∀ w1, w1 = w.alloc (.cells #[.int .u8 r_Kind, .slice r_Body r_Body_n r_Body_c] 104 (0, 0)) →
 ∃ o3, ∃ n4, ∃ n5, w1.cell? ⟨hs w, 1, none⟩ = some (.slice o3 n4 n5) ∧
(decide (((n4 : Nat) : Int) > 8192) = true →
 R (.returned (.int .i64 1)) w1) ∧
(decide (((n4 : Nat) : Int) > 8192) = false →
 ∀ w8, w8 = w1.drew →
 ∃ o10, ∃ n11, ∃ n12, w8.cell? ⟨j, 2, none⟩ = some (.slice o10 n11 n12) ∧
 ∃ o13, ∃ n14, ∃ n15, w8.cell? ⟨j, 1, none⟩ = some (.slice o13 n14 n15) ∧
 ∃ a16 : Addr, o10 = some a16 ∧
((0 : Int) ≤ ((n14 : Nat) : Int) ∧
((n14 : Nat) : Int) < ((n11 : Nat) : Int)) ∧
 ∃ x17, w8.cell? (Addr.add a16 (((n14 : Nat) : Int).toNat * 1)) = some (.int .u64 x17) ∧
 ∃ x18, w8.cell? ⟨hs w, 0, none⟩ = some (.int .u8 x18) ∧
 ∃ o19, ∃ n20, ∃ n21, w8.cell? ⟨hs w, 1, none⟩ = some (.slice o19 n20 n21) ∧
 Calls Tryz.prog 123 #[.slice none 0 0, .int .u64 x17, .agg #[.int .u8 x18, .slice o19 n20 n21]] w8 (fun e22 => fun w23 => ∃ o24, ∃ n25, ∃ n26, ∃ x27, e22 = .returned (.tuple #[.slice o24 n25 n26, .int .u64 x27]) ∧
 ∃ o28, w23.cell? ⟨j, 0, none⟩ = some (.pointer o28) ∧
 Calls Tryz.prog 124 #[.pointer o28, .slice o24 n25 n26] w23 (fun e29 => fun w30 => ∃ x31, e29 = .returned (.int .i64 x31) ∧
((! (decide (x31 = 0))) = true →
 R (.returned (.int .i64 x31)) w30) ∧
((! (decide (x31 = 0))) = false →
 ∀ w34, w34 = w30.drew →
 ∃ o36, ∃ n37, ∃ n38, w34.cell? ⟨j, 1, none⟩ = some (.slice o36 n37 n38) ∧
 ∃ x39, w34.cell? ⟨hs w, 0, none⟩ = some (.int .u8 x39) ∧
 ∃ o40, ∃ n41, ∃ n42, w34.cell? ⟨hs w, 1, none⟩ = some (.slice o40 n41 n42) ∧
 Calls Tryz.prog 55 #[.agg #[.int .u8 x39, .slice o40 n41 n42]] w34 (fun e43 => fun w44 => ∃ x45, ∃ o46, ∃ n47, ∃ n48, e43 = .returned (.agg #[.int .u8 x45, .slice o46 n47 n48]) ∧
 Kept w34 w44 ⟨j, 1, none⟩ 1 ∧
 ∀ w49, w49 = w44.alloc (.cells #[.int .u8 x45, .slice o46 n47 n48] 104 (0, 0)) →
 Kept w34 w49 ⟨j, 1, none⟩ 1 ∧
 RunOk Tryz.prog (Hold (Builtin.append_ #[79, 79] 79 #[.slice o36 n37 n38, .slice (some ⟨hs w44, 0, none⟩) 1 1])) w49 (fun v51 => fun w52 => ∃ o53, ∃ n54, ∃ n55, v51 = .slice o53 n54 n55 ∧
 There w52 ⟨j, 1, none⟩ 1 ∧
 ∀ w56, w56 = setCells w52 ⟨j, 1, none⟩ [.slice o53 n54 n55] 0 →
 ∃ o58, ∃ n59, ∃ n60, w56.cell? ⟨j, 2, none⟩ = some (.slice o58 n59 n60) ∧
 ∀ w61, w61 = w56.alloc (.cells #[.int .u64 x27] 60 (0, 0)) →
 RunOk Tryz.prog (Hold (Builtin.append_ #[100, 100] 100 #[.slice o58 n59 n60, .slice (some ⟨hs w56, 0, none⟩) 1 1])) w61 (fun v63 => fun w64 => ∃ o65, ∃ n66, ∃ n67, v63 = .slice o65 n66 n67 ∧
 There w64 ⟨j, 2, none⟩ 1 ∧
 ∀ w68, w68 = setCells w64 ⟨j, 2, none⟩ [.slice o65 n66 n67] 0 →
 R (.returned (.int .i64 0)) w68))))))))) :
    Calls Tryz.prog 110 #[(.pointer (some ⟨j, 0, none⟩)), (.agg #[(.int .u8 r_Kind), (.slice r_Body r_Body_n r_Body_c)])] w R :=
  calls_of_vc an110 Tryz.func110 rfl (by kernel_rfl) (by kernel_rfl) (Eq.mp (by kernel_rfl) h)

/-- samaritan/samaritantop.awake -/
def an5 : An := (.seq (.reg []) (.seq (.reg [(1, 0, true)]) .nil))
set_option maxRecDepth 100000 in
theorem nf5  (w : World) (R : Ending → World → Prop) (h :
(Calls Tryz.prog 21 #[.slice none 0 0] w (fun e1 => fun w2 => ∃ x3, e1 = .returned (.int .u64 x3) ∧
((! (decide (x3 = 0))) = true →
 R (.returned (.bool true)) w2) ∧
((! (decide (x3 = 0))) = false →
 R (.returned (.bool false)) w2)))) :
    Calls Tryz.prog 5 #[] w R :=
  calls_of_vc an5 Tryz.func5 rfl (by kernel_rfl) (by kernel_rfl) (Eq.mp (by kernel_rfl) h)

end Go.Proofs.YtcaokpglbolkcaaGreat
