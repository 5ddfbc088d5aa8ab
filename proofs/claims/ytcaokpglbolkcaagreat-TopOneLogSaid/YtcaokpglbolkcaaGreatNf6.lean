/- The contracts' premises: for each function, the proposition that its body comes to (printed by the tool of wip/nf). -/
import Derived.Test.YtcaokpglbolkcaaGreatRows
import Derived.Test.YtcaokpglbolkcaaGreatNfD
namespace Go.Proofs.YtcaokpglbolkcaaGreat
open Go Go.Nf

/-- samaritan/samaritantop.TopOneLog -/
def an4 : An := (.seq (.reg []) (.seq (.seq (.reg [(0, 0, true)]) (.cond (.seq (.reg []) .nil) .nil)) (.seq (.seq (.reg [(2, 0, true)]) (.cond (.seq (.reg []) .nil) .nil)) (.seq (.reg []) (.seq (.reg []) (.seq (.reg []) (.seq (.reg []) (.seq (.seq (.reg []) (.blk (.loop [(38, .int .i64)] (.seq (.reg [(0, 0, true)]) (.seq (.cond .nil .nil) (.seq (.blk (.seq (.reg []) (.seq (.reg []) (.seq (.regD [] [0, 1, 2, 3, 4, 5, 6, 7, 8, 9, 10, 11, 12, 13, 14] [9, 14]) (.seq (.reg [(3, 3, true)]) (.cond (.seq (.reg []) .nil) .nil)))))) (.reg []))))))) (.seq (.reg []) (.seq (.reg []) (.seq (.reg []) (.seq (.seq (.reg []) (.blk (.loop [(6, .int .i64), (8, .slice), (9, .slice), (66, .int .i64)] (.seq (.reg [(0, 0, true)]) (.seq (.cond .nil .nil) (.cut [(6, .int .i64), (8, .slice), (9, .slice)] (.blk (.seq (.reg []) (.cut [(6, .int .i64), (8, .slice)] (.seq (.reg []) (.blk (.seq (.reg [(0, 0, true)]) (.cond (.seq (.reg []) (.seq (.reg []) (.blk (.loop [(8, .slice), (105, .int .i64)] (.seq (.reg [(0, 0, true)]) (.seq (.cond .nil .nil) (.seq (.blk (.seq (.reg []) (.reg [(6, 1, false)]))) (.reg [])))))))) (.cut [(116, .bool)] (.seq (.reg [(0, 0, true)]) (.condS .nil (.seq (.reg [(0, 0, true)]) (.condS .nil (.reg [(0, 0, true)]))))) (.condS (.seq (.seq (.reg [(2, 0, true)]) (.cond .nil .nil)) (.seq (.reg [(5, 2, false)]) (.seq (.reg []) (.cut [(8, .slice)] (.seq (.reg [(3, 0, true)]) (.cond (.regD [(3, 2, false), (7, 2, false), (8, 1, false)] [0, 1, 2, 3, 4, 5, 6, 7, 8, 9] [8]) .nil)) (.seq (.reg [(3, 0, true), (7, 0, true), (12, 0, true)]) (.cond (.regD [(8, 1, false)] [0, 1, 2, 3, 4, 5, 6, 7, 8, 9] [7, 8]) .nil)))))) (.seq (.reg [(0, 0, true)]) (.cond (.seq (.reg []) (.seq (.regD [] [0, 1, 2, 3, 4, 5, 6] [6]) (.seq (.reg []) (.seq (.regD [] [0, 1, 2, 3, 4, 5, 6, 7, 8, 9, 10, 11, 12, 13, 14, 15] [10, 15]) (.seq (.reg [(3, 3, true)]) (.cond (.seq (.reg []) .nil) .nil)))))) (.seq (.reg [(0, 0, true)]) (.cond (.seq (.regD [] [0, 1, 2, 3, 4, 5, 6, 7, 8, 9, 10, 11, 12, 13, 14, 15, 16, 17, 18] [10, 11]) (.reg [(2, 1, false)])) (.seq (.reg []) (.seq (.reg []) (.reg [(2, 1, false)]))))))))))))) (.cut [(8, .slice)] (.seq (.reg [(2, 0, true)]) (.cond (.reg [(1, 2, false)]) .nil)) (.seq (.reg []) (.blk (.loop [(9, .slice), (231, .int .i64)] (.seq (.reg [(0, 0, true)]) (.seq (.cond .nil .nil) (.seq (.blk (.seq (.reg []) (.cut [] (.seq (.reg [(4, 0, true)]) (.cond (.seq (.seq (.reg [(5, 1, false), (8, 0, true)]) (.seq (.reg [(4, 0, true)]) (.cond (.seq (.reg []) .nil) .nil))) (.reg [(6, 1, false)])) .nil)) (.seq (.seq (.regD [(8, 0, true)] [0, 1, 2, 4, 5, 6, 3, 7, 8] [3, 7]) (.cond (.seq (.reg []) .nil) .nil)) (.seq (.reg []) (.blk (.loop [(9, .slice), (27, .int .i64)] (.seq (.seq (.reg [(5, 0, true)]) (.cond .nil .nil)) (.seq (.blk (.seq (.reg [(7, 0, true)]) (.seq (.seq (.reg []) (.cond (.seq (.reg []) .nil) .nil)) (.cut [(9, .slice)] (.seq (.reg [(3, 0, true)]) (.cond (.reg [(3, 1, false)]) .nil)) (.seq (.reg []) (.seq (.reg [(4, 0, true), (10, 0, true), (15, 1, false), (18, 1, false), (19, 3, true)]) (.cond (.seq (.reg []) .nil) .nil))))))) (.reg [])))))))))) (.reg []))))))))))) (.reg []))))))) (.seq (.reg []) .nil)))))))))))))
set_option maxRecDepth 100000 in
theorem nf4 (l : Option Addr) (l_n : Nat) (l_c : Nat) (w : World) (R : Ending → World → Prop) (h :
(Calls Tryz.prog 5 #[] w (fun e1 => fun w2 => ∃ b3, e1 = .returned (.bool b3) ∧
(b3 = true →
(decide (((l_n : Nat) : Int) > 250) = true →
 R (.returned (.bool true)) w2) ∧
(decide (((l_n : Nat) : Int) > 250) = false →
 ∀ w7, w7 = w2.alloc (.cells #[.int .i64 0, .int .i64 1, .int .i64 2] 3 (0, 0)) →
 ∀ w9, w9 = w7.alloc (.cells #[.slice none 0 0, .slice none 0 0] 26 (0, 0)) →
 There w9 ⟨hs w7, 0, none⟩ 2 ∧
 ∀ w11, w11 = setCells w9 ⟨hs w7, 0, none⟩ [.slice (some ⟨hs w2, 0, none⟩) 3 3, .slice none 0 0] 0 →
 ∀ w13, w13 = w11.alloc (.cells #[.pointer none, .pointer none, .pointer none, .pointer none, .pointer none] 54 (0, 0)) →
 ∀ w15, w15 = w13.alloc (.cells #[.pointer none, .pointer none, .pointer none, .pointer none, .pointer none] 55 (0, 0)) →
 ∃ k17 : (Nat →
 Int →
 World →
 Prop), (∃ n18, k17 n18 0 w15) ∧
 ∀ n19 : Nat, (Nat →
 Value) →
 ∀ w21 : World, ∀ x22 : Int, k17 n19 x22 w21 →
(decide (x22 < 5) = true →
 Calls Tryz.prog 6 #[] w21 (fun e25 => fun w26 => ∃ o27, e25 = .returned (.pointer o27) ∧
((0 : Int) ≤ x22 ∧
 x22 < 5) ∧
 There w26 (Addr.add ⟨hs w13, 0, none⟩ ((x22).toNat * 1)) 1 ∧
 ∀ w28, w28 = setCells w26 (Addr.add ⟨hs w13, 0, none⟩ ((x22).toNat * 1)) [.pointer o27] 0 →
 ∀ w30, w30 = w28.drew →
 ∃ o32, ∃ n33, ∃ n34, w30.cell? ⟨hs w7, 0, none⟩ = some (.slice o32 n33 n34) ∧
 ∃ o35, ∃ n36, ∃ n37, w30.cell? ⟨hs w7, 1, none⟩ = some (.slice o35 n36 n37) ∧
((0 : Int) ≤ x22 ∧
 x22 < 5) ∧
 ∃ o38, w30.cell? (Addr.add ⟨hs w13, 0, none⟩ ((x22).toNat * 1)) = some (.pointer o38) ∧
 Calls Tryz.prog 7 #[.int .i64 x22, .agg #[.slice o32 n33 n34, .slice o35 n36 n37], .pointer o38, .int .i64 (IntKind.wrap .i64 (8 + (IntKind.wrap .i64 (2 * x22)))), .int .i64 2, .int .i64 0] w30 (fun e39 => fun w40 => ∃ o41, ∃ x42, e39 = .returned (.tuple #[.pointer o41, .int .i64 x42]) ∧
((0 : Int) ≤ x22 ∧
 x22 < 5) ∧
 There w40 (Addr.add ⟨hs w11, 0, none⟩ ((x22).toNat * 1)) 1 ∧
 ∀ w43, w43 = setCells w40 (Addr.add ⟨hs w11, 0, none⟩ ((x22).toNat * 1)) [.pointer o41] 0 →
((0 : Int) ≤ x22 ∧
 x22 < 5) ∧
 ∃ o45, w43.cell? (Addr.add ⟨hs w11, 0, none⟩ ((x22).toNat * 1)) = some (.pointer o45) ∧
(Option.isNone o45 = true →
 R (.returned (.bool false)) w43) ∧
(Option.isNone o45 = false →
 ∃ n48, n48 < n19 ∧
 k17 n48 (IntKind.wrap .i64 (x22 + 1)) w43)))) ∧
(decide (x22 < 5) = false →
 ∀ w50, w50 = w21.alloc (Obj.map #[] 0) →
 ∃ k52 : (Nat →
 Int →
 Option Addr →
 Nat →
 Nat →
 Option Addr →
 Nat →
 Nat →
 Int →
 World →
 Prop), (∃ n53, k52 n53 0 none 0 0 none 0 0 0 w50) ∧
 ∀ n54 : Nat, (Nat →
 Value) →
 ∀ w56 : World, ∀ x57 : Int, ∀ o58 : Option Addr, ∀ n59 : Nat, ∀ n60 : Nat, ∀ o61 : Option Addr, ∀ n62 : Nat, ∀ n63 : Nat, ∀ x64 : Int, k52 n54 x57 o58 n59 n60 o61 n62 n63 x64 w56 →
(decide (x64 < ((l_n : Nat) : Int)) = true →
 ∀ k67 : (Int →
 Option Addr →
 Nat →
 Nat →
 Option Addr →
 Nat →
 Nat →
 World →
 Prop), (∀ w69 : World, ∀ x70 : Int, ∀ o71 : Option Addr, ∀ n72 : Nat, ∀ n73 : Nat, ∀ o74 : Option Addr, ∀ n75 : Nat, ∀ n76 : Nat, ((Nat →
 Value) →
 ∃ n79, n79 < n54 ∧
 k52 n79 x70 o71 n72 n73 o74 n75 n76 (IntKind.wrap .i64 (x64 + 1)) w69) →
 k67 x70 o71 n72 n73 o74 n75 n76 w69) →
 ∃ a80 : Addr, l = some a80 ∧
((0 : Int) ≤ x64 ∧
 x64 < ((l_n : Nat) : Int)) ∧
 ∃ x81, w56.cell? (Addr.add a80 ((x64).toNat * 3)) = some (.int .u8 x81) ∧
 ∃ x82, w56.cell? (Addr.add (Addr.add a80 ((x64).toNat * 3)) 1) = some (.int .u8 x82) ∧
 ∃ x83, w56.cell? (Addr.add (Addr.add a80 ((x64).toNat * 3)) 2) = some (.int .u8 x83) ∧
 ∀ w84, w84 = w56.alloc (.cells #[.int .u8 0, .int .u8 0, .int .u8 0] 37 (0, 0)) →
 There w84 ⟨hs w56, 0, none⟩ 3 ∧
 ∀ w86, w86 = setCells w84 ⟨hs w56, 0, none⟩ [.int .u8 x81, .int .u8 x82, .int .u8 x83] 0 →
 ∀ k88 : (Int →
 Option Addr →
 Nat →
 Nat →
 World →
 Prop), (∀ w90 : World, ∀ x91 : Int, ∀ o92 : Option Addr, ∀ n93 : Nat, ∀ n94 : Nat, ((Nat →
 Value) →
 ∀ k97 : (Option Addr →
 Nat →
 Nat →
 World →
 Prop), (∀ w99 : World, ∀ o100 : Option Addr, ∀ n101 : Nat, ∀ n102 : Nat, ((Nat →
 Value) →
 ∃ k105 : (Nat →
 Option Addr →
 Nat →
 Nat →
 Int →
 World →
 Prop), (∃ n106, k105 n106 o61 n62 n63 0 w99) ∧
 ∀ n107 : Nat, (Nat →
 Value) →
 ∀ w109 : World, ∀ o110 : Option Addr, ∀ n111 : Nat, ∀ n112 : Nat, ∀ x113 : Int, k105 n107 o110 n111 n112 x113 w109 →
(decide (x113 < 5) = true →
 ∀ k116 : (World →
 Prop), (∀ w118 : World, ((Nat →
 Value) →
 ∀ w121, w121 = w118.drew →
((0 : Int) ≤ x113 ∧
 x113 < 5) ∧
 ∃ o123, w121.cell? (Addr.add ⟨hs w11, 0, none⟩ ((x113).toNat * 1)) = some (.pointer o123) ∧
((0 : Int) ≤ x113 ∧
 x113 < 5) ∧
 ∃ o124, w121.cell? (Addr.add ⟨hs w11, 0, none⟩ ((x113).toNat * 1)) = some (.pointer o124) ∧
 Calls Tryz.prog 17 #[.pointer o123] w121 (fun e125 => fun w126 => ∃ x127, e125 = .returned (.int .i64 x127) ∧
 Kept w121 w126 (Addr.add ⟨hs w11, 0, none⟩ ((x113).toNat * 1)) 1 ∧
 Calls Tryz.prog 20 #[.pointer o124] w126 (fun e128 => fun w129 => ∃ x130, e128 = .returned (.int .i64 x130) ∧
(decide (x127 > x130) = true →
 R (.returned (.bool false)) w129) ∧
(decide (x127 > x130) = false →
 ∃ k133 : (Nat →
 Option Addr →
 Nat →
 Nat →
 Int →
 World →
 Prop), (∃ n134, k133 n134 o110 n111 n112 1 w129) ∧
 ∀ n135 : Nat, (Nat →
 Value) →
 ∀ w137 : World, ∀ o138 : Option Addr, ∀ n139 : Nat, ∀ n140 : Nat, ∀ x141 : Int, k133 n135 o138 n139 n140 x141 w137 →
((0 : Int) ≤ x113 ∧
 x113 < 5) ∧
 ∃ o143, w137.cell? (Addr.add ⟨hs w11, 0, none⟩ ((x113).toNat * 1)) = some (.pointer o143) ∧
 Calls Tryz.prog 17 #[.pointer o143] w137 (fun e144 => fun w145 => ∃ x146, e144 = .returned (.int .i64 x146) ∧
(decide (x141 ≤ x146) = true →
((0 : Int) ≤ x113 ∧
 x113 < 5) ∧
 ∃ o148, w145.cell? (Addr.add ⟨hs w11, 0, none⟩ ((x113).toNat * 1)) = some (.pointer o148) ∧
 Calls Tryz.prog 16 #[.pointer o148, .int .i64 x141] w145 (fun e149 => fun w150 => ∃ x151, ∃ x152, ∃ o153, ∃ n154, ∃ n155, ∃ b156, e149 = .returned (.tuple #[.agg #[.int .i64 x151, .int .i64 x152, .slice o153 n154 n155], .bool b156]) ∧
(b156 = true →
 ∀ w158, w158 = w150.alloc (.cells #[.int .i64 0, .int .i64 0, .slice none 0 0] 49 (0, 0)) →
 There w158 ⟨hs w150, 0, none⟩ 3 ∧
 ∀ w160, w160 = setCells w158 ⟨hs w150, 0, none⟩ [.int .i64 x151, .int .i64 x152, .slice o153 n154 n155] 0 →
 ∀ k162 : (Option Addr →
 Nat →
 Nat →
 World →
 Prop), (∀ w164 : World, ∀ o165 : Option Addr, ∀ n166 : Nat, ∀ n167 : Nat, ((Nat →
 Value) →
 ∃ a170 : Addr, o165 = some a170 ∧
((0 : Int) ≤ IntKind.wrap .i64 (x141 - 1) ∧
 IntKind.wrap .i64 (x141 - 1) < ((n166 : Nat) : Int)) ∧
 ∃ x171, w164.cell? (Addr.add a170 ((IntKind.wrap .i64 (x141 - 1)).toNat * 3)) = some (.int .i64 x171) ∧
 ∃ x172, w164.cell? (Addr.add (Addr.add a170 ((IntKind.wrap .i64 (x141 - 1)).toNat * 3)) 1) = some (.int .i64 x172) ∧
 ∃ o173, ∃ n174, ∃ n175, w164.cell? (Addr.add (Addr.add a170 ((IntKind.wrap .i64 (x141 - 1)).toNat * 3)) 2) = some (.slice o173 n174 n175) ∧
 ∀ w176, w176 = w164.alloc (.cells #[.int .i64 0, .int .i64 0, .slice none 0 0] 49 (0, 0)) →
 There w176 ⟨hs w164, 0, none⟩ 3 ∧
 ∀ w178, w178 = setCells w176 ⟨hs w164, 0, none⟩ [.int .i64 x171, .int .i64 x172, .slice o173 n174 n175] 0 →
 ∃ x180, w178.cell? ⟨hs w164, 0, none⟩ = some (.int .i64 x180) ∧
 ∃ x181, w178.cell? ⟨hs w150, 0, none⟩ = some (.int .i64 x181) ∧
((! (decide (x180 = x181))) = true →
 R (.returned (.bool false)) w178) ∧
((! (decide (x180 = x181))) = false →
 ∃ x184, w178.cell? ⟨hs w164, 1, none⟩ = some (.int .i64 x184) ∧
 ∃ x185, w178.cell? ⟨hs w150, 1, none⟩ = some (.int .i64 x185) ∧
((! (decide (x184 = x185))) = true →
 R (.returned (.bool false)) w178) ∧
((! (decide (x184 = x185))) = false →
 ∃ o188, ∃ n189, ∃ n190, w178.cell? ⟨hs w164, 2, none⟩ = some (.slice o188 n189 n190) ∧
 RunOk Tryz.prog (Hold (convert 42 9 (.slice o188 n189 n190))) w178 (fun v191 => fun w192 => ∃ s193 : ByteArray, v191 = .string s193 ∧
 ∃ o194, ∃ n195, ∃ n196, w192.cell? ⟨hs w150, 2, none⟩ = some (.slice o194 n195 n196) ∧
 RunOk Tryz.prog (Hold (convert 42 9 (.slice o194 n195 n196))) w192 (fun v197 => fun w198 => ∃ s199 : ByteArray, v197 = .string s199 ∧
((! (strEq s193 s199)) = true →
 R (.returned (.bool false)) w198) ∧
((! (strEq s193 s199)) = false →
 ∃ n202, n202 < n135 ∧
 k133 n202 o165 n166 n167 (IntKind.wrap .i64 (x141 + 1)) w198)))))) →
 k162 o165 n166 n167 w164) →
(decide (x141 > ((n139 : Nat) : Int)) = true →
 ∃ x204, w160.cell? ⟨hs w150, 0, none⟩ = some (.int .i64 x204) ∧
 ∃ x205, w160.cell? ⟨hs w150, 1, none⟩ = some (.int .i64 x205) ∧
 ∃ o206, ∃ n207, ∃ n208, w160.cell? ⟨hs w150, 2, none⟩ = some (.slice o206 n207 n208) ∧
 ∀ w209, w209 = w160.alloc (.cells #[.int .i64 x204, .int .i64 x205, .slice o206 n207 n208] 49 (0, 0)) →
 RunOk Tryz.prog (Hold (Builtin.append_ #[43, 43] 43 #[.slice o138 n139 n140, .slice (some ⟨hs w160, 0, none⟩) 1 1])) w209 (fun v211 => fun w212 => ∃ o213, ∃ n214, ∃ n215, v211 = .slice o213 n214 n215 ∧
 k162 o213 n214 n215 w212)) ∧
(decide (x141 > ((n139 : Nat) : Int)) = false →
 k162 o138 n139 n140 w160)) ∧
(b156 = false →
 ∀ w218, w218 = w150.alloc (.cells #[.int .i64 0, .int .i64 0, .slice none 0 0] 49 (0, 0)) →
 There w218 ⟨hs w150, 0, none⟩ 3 ∧
 ∀ w220, w220 = setCells w218 ⟨hs w150, 0, none⟩ [.int .i64 x151, .int .i64 x152, .slice o153 n154 n155] 0 →
 R (.returned (.bool false)) w220))) ∧
(decide (x141 ≤ x146) = false →
 ∃ n223, n223 < n107 ∧
 k105 n223 o138 n139 n140 (IntKind.wrap .i64 (x113 + 1)) w145)))))) →
 k116 w118) →
((0 : Int) ≤ x113 ∧
 x113 < 5) ∧
 ∃ o224, w109.cell? (Addr.add ⟨hs w11, 0, none⟩ ((x113).toNat * 1)) = some (.pointer o224) ∧
 Calls Tryz.prog 15 #[.pointer o224] w109 (fun e225 => fun w226 => ∃ x227, e225 = .returned (.int .i64 x227) ∧
(decide (x227 = 3) = true →
((0 : Int) ≤ x113 ∧
 x113 < 5) ∧
 ∃ o229, w226.cell? (Addr.add ⟨hs w11, 0, none⟩ ((x113).toNat * 1)) = some (.pointer o229) ∧
 Calls Tryz.prog 19 #[.pointer o229] w226 (fun e230 => fun w231 => ∃ x232, e230 = .returned (.int .i64 x232) ∧
 RunOk Tryz.prog (Hold (Instr.lookup 56 (Value.map (some (hs w21))) (.int .i64 x232) true)) w231 (fun v233 => fun w234 => ∃ x235, ∃ b236, v233 = .tuple #[.int .i64 x235, .bool b236] ∧
(b236 = true →
((! (decide (x235 = x113))) = true →
 R (.returned (.bool false)) w234) ∧
((! (decide (x235 = x113))) = false →
((0 : Int) ≤ x113 ∧
 x113 < 5) ∧
 ∃ o240, w234.cell? (Addr.add ⟨hs w11, 0, none⟩ ((x113).toNat * 1)) = some (.pointer o240) ∧
 Calls Tryz.prog 19 #[.pointer o240] w234 (fun e241 => fun w242 => ∃ x243, e241 = .returned (.int .i64 x243) ∧
 RunOk Tryz.prog (Hold (Instr.mapUpdate 56 (Value.map (some (hs w21))) (.int .i64 x243) (.int .i64 x113))) w242 (fun (k244 : Unit) => fun (w245 : World) => k116 w245)))) ∧
(b236 = false →
((0 : Int) ≤ x113 ∧
 x113 < 5) ∧
 ∃ o247, w234.cell? (Addr.add ⟨hs w11, 0, none⟩ ((x113).toNat * 1)) = some (.pointer o247) ∧
 Calls Tryz.prog 19 #[.pointer o247] w234 (fun e248 => fun w249 => ∃ x250, e248 = .returned (.int .i64 x250) ∧
 RunOk Tryz.prog (Hold (Instr.mapUpdate 56 (Value.map (some (hs w21))) (.int .i64 x250) (.int .i64 x113))) w249 (fun (k251 : Unit) => fun (w252 : World) => k116 w252)))))) ∧
(decide (x227 = 3) = false →
 k116 w226))) ∧
(decide (x113 < 5) = false →
 k67 x91 o100 n101 n102 o110 n111 n112 w109)) →
 k97 o100 n101 n102 w99) →
(decide (((n93 : Nat) : Int) > 300) = true →
((0 : Int) ≤ 100 ∧
 100 ≤ ((n93 : Nat) : Int)) ∧
 k97 (if (n94 = (100 : Int).toNat) then o92 else (Option.map (fun (x : Addr) => Addr.add x 900) o92)) (n93 - 100) (n94 - 100) w90) ∧
(decide (((n93 : Nat) : Int) > 300) = false →
 k97 o92 n93 n94 w90)) →
 k88 x91 o92 n93 n94 w90) →
 ∃ x257, w86.cell? ⟨hs w56, 0, none⟩ = some (.int .u8 x257) ∧
(decide (Int.tmod x257 7 = 0) = true →
 ∃ k259 : (Nat →
 Option Addr →
 Nat →
 Nat →
 Int →
 World →
 Prop), (∃ n260, k259 n260 o58 n59 n60 0 w86) ∧
 ∀ n261 : Nat, (Nat →
 Value) →
 ∀ w263 : World, ∀ o264 : Option Addr, ∀ n265 : Nat, ∀ n266 : Nat, ∀ x267 : Int, k259 n261 o264 n265 n266 x267 w263 →
(decide (x267 < 5) = true →
((0 : Int) ≤ x267 ∧
 x267 < 5) ∧
 ∃ o270, w263.cell? (Addr.add ⟨hs w11, 0, none⟩ ((x267).toNat * 1)) = some (.pointer o270) ∧
 Calls Tryz.prog 8 #[.pointer o270, .int .i64 (IntKind.wrap .i64 (x57 + 1))] w263 (fun e271 => fun w272 => ∃ o273, ∃ n274, ∃ n275, e271 = .returned (.slice o273 n274 n275) ∧
 RunOk Tryz.prog (Hold (Builtin.append_ #[35, 35] 35 #[.slice o264 n265 n266, .slice o273 n274 n275])) w272 (fun v276 => fun w277 => ∃ o278, ∃ n279, ∃ n280, v276 = .slice o278 n279 n280 ∧
 ∃ n281, n281 < n261 ∧
 k259 n281 o278 n279 n280 (IntKind.wrap .i64 (x267 + 1)) w277))) ∧
(decide (x267 < 5) = false →
 k88 (IntKind.wrap .i64 (x57 + 1)) o264 n265 n266 w263)) ∧
(decide (Int.tmod x257 7 = 0) = false →
 ∀ k284 : (Bool →
 World →
 Prop), (∀ w286 : World, ∀ b287 : Bool, ((Nat →
 Value) →
(b287 = true →
(decide (((n59 : Nat) : Int) = 0) = true →
 k67 x57 o58 n59 n60 o61 n62 n63 w286) ∧
(decide (((n59 : Nat) : Int) = 0) = false →
 ∃ x293, w286.cell? ⟨hs w56, 1, none⟩ = some (.int .u8 x293) ∧
((n59 : Nat) : Int) ≠ 0 ∧
 ∃ a294 : Addr, o58 = some a294 ∧
((0 : Int) ≤ Int.tmod (IntKind.wrap .i64 x293) ((n59 : Nat) : Int) ∧
 Int.tmod (IntKind.wrap .i64 x293) ((n59 : Nat) : Int) < ((n59 : Nat) : Int)) ∧
 ∃ x295, w286.cell? (Addr.add a294 ((Int.tmod (IntKind.wrap .i64 x293) ((n59 : Nat) : Int)).toNat * 9)) = some (.int .i64 x295) ∧
 ∃ x296, w286.cell? (Addr.add (Addr.add a294 ((Int.tmod (IntKind.wrap .i64 x293) ((n59 : Nat) : Int)).toNat * 9)) 1) = some (.int .i64 x296) ∧
 ∃ x297, w286.cell? (Addr.add (Addr.add a294 ((Int.tmod (IntKind.wrap .i64 x293) ((n59 : Nat) : Int)).toNat * 9)) 2) = some (.int .i64 x297) ∧
 ∃ x298, w286.cell? (Addr.add (Addr.add a294 ((Int.tmod (IntKind.wrap .i64 x293) ((n59 : Nat) : Int)).toNat * 9)) 3) = some (.int .i64 x298) ∧
 ∃ x299, w286.cell? (Addr.add (Addr.add a294 ((Int.tmod (IntKind.wrap .i64 x293) ((n59 : Nat) : Int)).toNat * 9)) 4) = some (.int .i64 x299) ∧
 ∃ x300, w286.cell? (Addr.add (Addr.add a294 ((Int.tmod (IntKind.wrap .i64 x293) ((n59 : Nat) : Int)).toNat * 9)) 5) = some (.int .i64 x300) ∧
 ∃ x301, w286.cell? (Addr.add (Addr.add a294 ((Int.tmod (IntKind.wrap .i64 x293) ((n59 : Nat) : Int)).toNat * 9)) 6) = some (.int .i64 x301) ∧
 ∃ b302, w286.cell? (Addr.add (Addr.add a294 ((Int.tmod (IntKind.wrap .i64 x293) ((n59 : Nat) : Int)).toNat * 9)) 7) = some (.bool b302) ∧
 ∃ o303, ∃ n304, ∃ n305, w286.cell? (Addr.add (Addr.add a294 ((Int.tmod (IntKind.wrap .i64 x293) ((n59 : Nat) : Int)).toNat * 9)) 8) = some (.slice o303 n304 n305) ∧
 ∀ w306, w306 = w286.alloc (.cells #[.int .i64 0, .int .i64 0, .int .i64 0, .int .i64 0, .int .i64 0, .int .i64 0, .int .i64 0, .bool false, .slice none 0 0] 45 (0, 0)) →
 There w306 ⟨hs w286, 0, none⟩ 9 ∧
 ∀ w308, w308 = setCells w306 ⟨hs w286, 0, none⟩ [.int .i64 x295, .int .i64 x296, .int .i64 x297, .int .i64 x298, .int .i64 x299, .int .i64 x300, .int .i64 x301, .bool b302, .slice o303 n304 n305] 0 →
 ∀ k310 : (Option Addr →
 Nat →
 Nat →
 World →
 Prop), (∀ w312 : World, ∀ o313 : Option Addr, ∀ n314 : Nat, ∀ n315 : Nat, ((Nat →
 Value) →
 ∃ x318, w312.cell? ⟨hs w56, 0, none⟩ = some (.int .u8 x318) ∧
((! (decide (Int.tmod x318 7 = 2))) = true →
 ∃ x320, w312.cell? ⟨hs w286, 2, none⟩ = some (.int .i64 x320) ∧
(decide (x320 ≥ 0) = true →
 ∃ x322, w312.cell? ⟨hs w286, 2, none⟩ = some (.int .i64 x322) ∧
(decide (x322 < 5) = true →
 ∀ w324, w324 = w312.drew →
 ∃ x326, w324.cell? ⟨hs w286, 2, none⟩ = some (.int .i64 x326) ∧
((0 : Int) ≤ x326 ∧
 x326 < 5) ∧
 ∃ o327, w324.cell? (Addr.add ⟨hs w11, 0, none⟩ ((x326).toNat * 1)) = some (.pointer o327) ∧
 ∃ x328, w324.cell? ⟨hs w286, 0, none⟩ = some (.int .i64 x328) ∧
 ∃ x329, w324.cell? ⟨hs w286, 1, none⟩ = some (.int .i64 x329) ∧
 ∃ x330, w324.cell? ⟨hs w286, 2, none⟩ = some (.int .i64 x330) ∧
 ∃ x331, w324.cell? ⟨hs w286, 3, none⟩ = some (.int .i64 x331) ∧
 ∃ x332, w324.cell? ⟨hs w286, 4, none⟩ = some (.int .i64 x332) ∧
 ∃ x333, w324.cell? ⟨hs w286, 5, none⟩ = some (.int .i64 x333) ∧
 ∃ x334, w324.cell? ⟨hs w286, 6, none⟩ = some (.int .i64 x334) ∧
 ∃ b335, w324.cell? ⟨hs w286, 7, none⟩ = some (.bool b335) ∧
 ∃ o336, ∃ n337, ∃ n338, w324.cell? ⟨hs w286, 8, none⟩ = some (.slice o336 n337 n338) ∧
 Calls Tryz.prog 12 #[.pointer o327, .agg #[.int .i64 x328, .int .i64 x329, .int .i64 x330, .int .i64 x331, .int .i64 x332, .int .i64 x333, .int .i64 x334, .bool b335, .slice o336 n337 n338], .int .i64 x57] w324 (fun e339 => fun w340 => ∃ o341, ∃ n342, ∃ n343, e339 = .returned (.slice o341 n342 n343) ∧
 RunOk Tryz.prog (Hold (Builtin.append_ #[35, 35] 35 #[.slice o313 n314 n315, .slice o341 n342 n343])) w340 (fun v344 => fun w345 => ∃ o346, ∃ n347, ∃ n348, v344 = .slice o346 n347 n348 ∧
 k88 x57 o346 n347 n348 w345))) ∧
(decide (x322 < 5) = false →
 k88 x57 o313 n314 n315 w312)) ∧
(decide (x320 ≥ 0) = false →
 k88 x57 o313 n314 n315 w312)) ∧
((! (decide (Int.tmod x318 7 = 2))) = false →
 k88 x57 o313 n314 n315 w312)) →
 k310 o313 n314 n315 w312) →
 ∃ x352, w308.cell? ⟨hs w56, 0, none⟩ = some (.int .u8 x352) ∧
((! (decide (Int.tmod x352 7 = 3))) = true →
 ∀ w354, w354 = w308.drew →
((0 : Int) ≤ Int.tmod (IntKind.wrap .i64 x293) ((n59 : Nat) : Int) ∧
 Int.tmod (IntKind.wrap .i64 x293) ((n59 : Nat) : Int) ≤ ((n60 : Nat) : Int)) ∧
((0 : Int) ≤ Int.tmod (IntKind.wrap .i64 x293) ((n59 : Nat) : Int) ∧
 Int.tmod (IntKind.wrap .i64 x293) ((n59 : Nat) : Int) ≤ (((Int.tmod (IntKind.wrap .i64 x293) ((n59 : Nat) : Int)).toNat : Nat) : Int)) ∧
((0 : Int) ≤ IntKind.wrap .i64 ((Int.tmod (IntKind.wrap .i64 x293) ((n59 : Nat) : Int)) + 1) ∧
 IntKind.wrap .i64 ((Int.tmod (IntKind.wrap .i64 x293) ((n59 : Nat) : Int)) + 1) ≤ ((n59 : Nat) : Int)) ∧
 RunOk Tryz.prog (Hold (Builtin.append_ #[35, 35] 35 #[.slice (if ((Int.tmod (IntKind.wrap .i64 x293) ((n59 : Nat) : Int)).toNat = 0) then o58 else (Option.map (fun (x : Addr) => x) o58)) ((Int.tmod (IntKind.wrap .i64 x293) ((n59 : Nat) : Int)).toNat - 0) ((Int.tmod (IntKind.wrap .i64 x293) ((n59 : Nat) : Int)).toNat - 0), .slice (if (n60 = (IntKind.wrap .i64 ((Int.tmod (IntKind.wrap .i64 x293) ((n59 : Nat) : Int)) + 1)).toNat) then o58 else (Option.map (fun (x : Addr) => Addr.add x ((IntKind.wrap .i64 ((Int.tmod (IntKind.wrap .i64 x293) ((n59 : Nat) : Int)) + 1)).toNat * 9)) o58)) (n59 - (IntKind.wrap .i64 ((Int.tmod (IntKind.wrap .i64 x293) ((n59 : Nat) : Int)) + 1)).toNat) (n60 - (IntKind.wrap .i64 ((Int.tmod (IntKind.wrap .i64 x293) ((n59 : Nat) : Int)) + 1)).toNat)])) w354 (fun v356 => fun w357 => ∃ o358, ∃ n359, ∃ n360, v356 = .slice o358 n359 n360 ∧
 k310 o358 n359 n360 w357)) ∧
((! (decide (Int.tmod x352 7 = 3))) = false →
 k310 o58 n59 n60 w308))) ∧
(b287 = false →
(decide (Int.tmod x257 7 = 4) = true →
 ∃ x364, w286.cell? ⟨hs w56, 1, none⟩ = some (.int .u8 x364) ∧
 ∀ w365, w365 = w286.drew →
((0 : Int) ≤ Int.tmod (IntKind.wrap .i64 x364) 5 ∧
 Int.tmod (IntKind.wrap .i64 x364) 5 < 5) ∧
 ∃ o367, w365.cell? (Addr.add ⟨hs w13, 0, none⟩ ((Int.tmod (IntKind.wrap .i64 x364) 5).toNat * 1)) = some (.pointer o367) ∧
 ∃ x368, w365.cell? ⟨hs w56, 2, none⟩ = some (.int .u8 x368) ∧
 Calls Tryz.prog 9 #[.pointer o367, .int .i64 (IntKind.wrap .i64 x368), .int .u8 1] w365 (fun e369 => fun w370 => e369 = .returned (.tuple #[]) ∧
((0 : Int) ≤ Int.tmod (IntKind.wrap .i64 x364) 5 ∧
 Int.tmod (IntKind.wrap .i64 x364) 5 < 5) ∧
 ∃ o371, w370.cell? (Addr.add ⟨hs w13, 0, none⟩ ((Int.tmod (IntKind.wrap .i64 x364) 5).toNat * 1)) = some (.pointer o371) ∧
 Calls Tryz.prog 10 #[.pointer o371] w370 (fun e372 => fun w373 => e372 = .returned (.tuple #[]) ∧
 ∀ w374, w374 = w373.drew →
 ∃ o376, ∃ n377, ∃ n378, w374.cell? ⟨hs w7, 0, none⟩ = some (.slice o376 n377 n378) ∧
 ∃ o379, ∃ n380, ∃ n381, w374.cell? ⟨hs w7, 1, none⟩ = some (.slice o379 n380 n381) ∧
((0 : Int) ≤ Int.tmod (IntKind.wrap .i64 x364) 5 ∧
 Int.tmod (IntKind.wrap .i64 x364) 5 < 5) ∧
 ∃ o382, w374.cell? (Addr.add ⟨hs w13, 0, none⟩ ((Int.tmod (IntKind.wrap .i64 x364) 5).toNat * 1)) = some (.pointer o382) ∧
 Calls Tryz.prog 7 #[.int .i64 (Int.tmod (IntKind.wrap .i64 x364) 5), .agg #[.slice o376 n377 n378, .slice o379 n380 n381], .pointer o382, .int .i64 (IntKind.wrap .i64 (8 + (IntKind.wrap .i64 (2 * (Int.tmod (IntKind.wrap .i64 x364) 5))))), .int .i64 2, .int .i64 x57] w374 (fun e383 => fun w384 => ∃ o385, ∃ x386, e383 = .returned (.tuple #[.pointer o385, .int .i64 x386]) ∧
((0 : Int) ≤ Int.tmod (IntKind.wrap .i64 x364) 5 ∧
 Int.tmod (IntKind.wrap .i64 x364) 5 < 5) ∧
 There w384 (Addr.add ⟨hs w11, 0, none⟩ ((Int.tmod (IntKind.wrap .i64 x364) 5).toNat * 1)) 1 ∧
 ∀ w387, w387 = setCells w384 (Addr.add ⟨hs w11, 0, none⟩ ((Int.tmod (IntKind.wrap .i64 x364) 5).toNat * 1)) [.pointer o385] 0 →
((0 : Int) ≤ Int.tmod (IntKind.wrap .i64 x364) 5 ∧
 Int.tmod (IntKind.wrap .i64 x364) 5 < 5) ∧
 ∃ o389, w387.cell? (Addr.add ⟨hs w11, 0, none⟩ ((Int.tmod (IntKind.wrap .i64 x364) 5).toNat * 1)) = some (.pointer o389) ∧
(Option.isNone o389 = true →
 R (.returned (.bool false)) w387) ∧
(Option.isNone o389 = false →
 k88 x57 o58 n59 n60 w387))))) ∧
(decide (Int.tmod x257 7 = 4) = false →
(decide (Int.tmod x257 7 = 5) = true →
 ∀ w394, w394 = w286.drew →
 ∃ x396, w394.cell? ⟨hs w56, 1, none⟩ = some (.int .u8 x396) ∧
((0 : Int) ≤ Int.tmod (IntKind.wrap .i64 x396) 5 ∧
 Int.tmod (IntKind.wrap .i64 x396) 5 < 5) ∧
 ∃ o397, w394.cell? (Addr.add ⟨hs w11, 0, none⟩ ((Int.tmod (IntKind.wrap .i64 x396) 5).toNat * 1)) = some (.pointer o397) ∧
 ∃ x398, w394.cell? ⟨hs w56, 2, none⟩ = some (.int .u8 x398) ∧
 ∀ w399, w399 = w394.alloc (.cells #[.int .u8 (IntKind.wrap .u8 x64), .int .u8 x398] 5 (0, 0)) →
 Kept w394 w399 (Addr.add ⟨hs w11, 0, none⟩ ((Int.tmod (IntKind.wrap .i64 x396) 5).toNat * 1)) 1 ∧
 Kept w394 w399 ⟨hs w56, 1, none⟩ 1 ∧
 Calls Tryz.prog 11 #[.pointer o397, .slice (some ⟨hs w394, 0, none⟩) 2 2] w399 (fun e401 => fun w402 => ∃ x403, ∃ o404, ∃ n405, ∃ n406, ∃ x407, e401 = .returned (.tuple #[.int .i64 x403, .slice o404 n405 n406, .int .i64 x407]) ∧
 RunOk Tryz.prog (Hold (Builtin.append_ #[35, 35] 35 #[.slice o58 n59 n60, .slice o404 n405 n406])) w402 (fun v408 => fun w409 => ∃ o410, ∃ n411, ∃ n412, v408 = .slice o410 n411 n412 ∧
 k88 x57 o410 n411 n412 w409))) ∧
(decide (Int.tmod x257 7 = 5) = false →
 ∀ w414, w414 = w286.alloc (.cells #[.int .i64 0, .int .i64 1, .int .i64 2] 3 (0, 0)) →
 ∀ w416, w416 = w414.alloc (.cells #[.int .i64 1, .int .i64 2, .int .i64 3] 3 (0, 0)) →
 ∀ w418, w418 = w416.alloc (.cells #[.int .i64 0, .int .i64 1, .int .i64 2, .int .i64 3, .int .i64 4] 3 (0, 0)) →
 ∀ w420, w420 = w418.alloc (.cells #[.int .i64 2] 3 (0, 0)) →
 ∀ w422, w422 = w420.alloc (.cells #[.int .i64 3, .int .i64 4] 3 (0, 0)) →
 ∀ w424, w424 = w422.alloc (.cells #[.slice (some ⟨hs w286, 0, none⟩) 3 3, .slice (some ⟨hs w414, 0, none⟩) 3 3, .slice (some ⟨hs w416, 0, none⟩) 5 5, .slice (some ⟨hs w418, 0, none⟩) 1 1, .slice (some ⟨hs w420, 0, none⟩) 2 2] 24 (0, 0)) →
 ∃ x426, w424.cell? ⟨hs w56, 2, none⟩ = some (.int .u8 x426) ∧
 ∃ a427 : Addr, some ⟨hs w422, 0, none⟩ = some a427 ∧
((0 : Int) ≤ Int.tmod (IntKind.wrap .i64 x426) 5 ∧
 Int.tmod (IntKind.wrap .i64 x426) 5 < 5) ∧
 ∃ o428, ∃ n429, ∃ n430, w424.cell? (Addr.add a427 ((Int.tmod (IntKind.wrap .i64 x426) 5).toNat * 1)) = some (.slice o428 n429 n430) ∧
 ∃ x431, w424.cell? ⟨hs w56, 1, none⟩ = some (.int .u8 x431) ∧
((0 : Int) ≤ Int.tmod (IntKind.wrap .i64 x431) 5 ∧
 Int.tmod (IntKind.wrap .i64 x431) 5 < 5) ∧
 ∃ o432, w424.cell? (Addr.add ⟨hs w11, 0, none⟩ ((Int.tmod (IntKind.wrap .i64 x431) 5).toNat * 1)) = some (.pointer o432) ∧
 Calls Tryz.prog 18 #[.pointer o432, .slice o428 n429 n430] w424 (fun e433 => fun w434 => ∃ x435, ∃ o436, ∃ n437, ∃ n438, ∃ x439, e433 = .returned (.tuple #[.int .i64 x435, .slice o436 n437 n438, .int .i64 x439]) ∧
 RunOk Tryz.prog (Hold (Builtin.append_ #[35, 35] 35 #[.slice o58 n59 n60, .slice o436 n437 n438])) w434 (fun v440 => fun w441 => ∃ o442, ∃ n443, ∃ n444, v440 = .slice o442 n443 n444 ∧
 k88 x57 o442 n443 n444 w441)))))) →
 k284 b287 w286) →
(decide (Int.tmod x257 7 = 1) = true →
(true = true →
 k284 true w86) ∧
(true = false →
(decide (Int.tmod x257 7 = 2) = true →
(true = true →
 k284 true w86) ∧
(true = false →
(decide (Int.tmod x257 7 = 3) = true →
 k284 true w86) ∧
(decide (Int.tmod x257 7 = 3) = false →
 k284 false w86))) ∧
(decide (Int.tmod x257 7 = 2) = false →
(false = true →
 k284 false w86) ∧
(false = false →
(decide (Int.tmod x257 7 = 3) = true →
 k284 true w86) ∧
(decide (Int.tmod x257 7 = 3) = false →
 k284 false w86))))) ∧
(decide (Int.tmod x257 7 = 1) = false →
(false = true →
 k284 false w86) ∧
(false = false →
(decide (Int.tmod x257 7 = 2) = true →
(true = true →
 k284 true w86) ∧
(true = false →
(decide (Int.tmod x257 7 = 3) = true →
 k284 true w86) ∧
(decide (Int.tmod x257 7 = 3) = false →
 k284 false w86))) ∧
(decide (Int.tmod x257 7 = 2) = false →
(false = true →
 k284 false w86) ∧
(false = false →
(decide (Int.tmod x257 7 = 3) = true →
 k284 true w86) ∧
(decide (Int.tmod x257 7 = 3) = false →
 k284 false w86))))))) ∧
(decide (x64 < ((l_n : Nat) : Int)) = false →
 R (.returned (.bool true)) w56)))) ∧
(b3 = false →
 R (.returned (.bool false)) w2)))) :
    Calls Tryz.prog 4 #[(.slice l l_n l_c)] w R :=
  calls_of_vc an4 Tryz.func4 rfl (by kernel_rfl) (by kernel_rfl) (Eq.mp (by kernel_rfl) h)

end Go.Proofs.YtcaokpglbolkcaaGreat
