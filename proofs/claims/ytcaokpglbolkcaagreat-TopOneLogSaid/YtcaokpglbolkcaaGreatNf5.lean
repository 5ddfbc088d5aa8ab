/- The contracts' premises: for each function, the proposition that its body comes to (printed by the tool of wip/nf). -/
import Derived.Test.YtcaokpglbolkcaaGreatRows
import Derived.Test.YtcaokpglbolkcaaGreatNfD
namespace Go.Proofs.YtcaokpglbolkcaaGreat
open Go Go.Nf

/-- slices.Index[[]int,int] -/
def an79 : An := (.seq (.reg []) (.seq (.seq (.reg []) (.blk (.loop [(8, .int .i64)] (.seq (.reg [(0, 0, true)]) (.seq (.cond .nil .nil) (.seq (.blk (.seq (.reg []) (.seq (.reg [(5, 0, true)]) (.cond (.seq (.reg []) .nil) .nil)))) (.reg []))))))) (.seq (.reg []) .nil)))
set_option maxRecDepth 100000 in
theorem nf79 (s : Option Addr) (s_n : Nat) (s_c : Nat) (v : Int) (w : World) (R : Ending → World → Prop) (h :
(∃ k1 : (Nat →
 Int →
 World →
 Prop), (∃ n2, k1 n2 0 w) ∧
 ∀ n3 : Nat, (Nat →
 Value) →
 ∀ w5 : World, ∀ x6 : Int, k1 n3 x6 w5 →
(decide (x6 < ((s_n : Nat) : Int)) = true →
 ∃ a9 : Addr, s = some a9 ∧
((0 : Int) ≤ x6 ∧
 x6 < ((s_n : Nat) : Int)) ∧
 ∃ x10, w5.cell? (Addr.add a9 ((x6).toNat * 1)) = some (.int .i64 x10) ∧
(decide (v = x10) = true →
 R (.returned (.int .i64 x6)) w5) ∧
(decide (v = x10) = false →
 ∃ n13, n13 < n3 ∧
 k1 n13 (IntKind.wrap .i64 (x6 + 1)) w5)) ∧
(decide (x6 < ((s_n : Nat) : Int)) = false →
 R (.returned (.int .i64 (-1))) w5))) :
    Calls Tryz.prog 79 #[(.slice s s_n s_c), (.int .i64 v)] w R :=
  calls_of_vc an79 Tryz.func79 rfl (by kernel_rfl) (by kernel_rfl) (Eq.mp (by kernel_rfl) h)

/-- slices.DeleteFunc[[]int,int] -/
def an80 : An := (.seq (.reg []) (.seq (.reg []) (.seq (.seq (.reg [(1, 0, true)]) (.cond (.seq (.reg []) .nil) .nil)) (.seq (.seq (.reg []) (.blk (.loop [(5, .int .i64), (6, .int .i64)] (.seq (.seq (.reg [(3, 0, true)]) (.cond .nil .nil)) (.cut [(5, .int .i64)] (.blk (.seq (.reg []) (.seq (.reg [(2, 1, true)]) (.cond (.seq (.reg []) (.reg [])) .nil)))) (.reg [])))))) (.seq (.reg [(2, 2, false), (3, 1, false)]) (.seq (.reg [(2, 2, false)]) .nil))))))
set_option maxRecDepth 100000 in
theorem nf80 (s : Option Addr) (s_n : Nat) (s_c : Nat) (del_f : Fn) (del_a : Array Value) (del_c : Array Value) (w : World) (R : Ending → World → Prop) (h :
(Calls Tryz.prog 112 #[.slice s s_n s_c, Value.func del_f del_a del_c] w (fun e1 => fun w2 => ∃ x3, e1 = .returned (.int .i64 x3) ∧
(decide (x3 = (-1)) = true →
 R (.returned (.slice s s_n s_c)) w2) ∧
(decide (x3 = (-1)) = false →
 ∃ k6 : (Nat →
 Int →
 Int →
 World →
 Prop), (∃ n7, k6 n7 x3 (IntKind.wrap .i64 (x3 + 1)) w2) ∧
 ∀ n8 : Nat, (Nat →
 Value) →
 ∀ w10 : World, ∀ x11 : Int, ∀ x12 : Int, k6 n8 x11 x12 w10 →
(decide (x12 < ((s_n : Nat) : Int)) = true →
 ∀ k15 : (Int →
 World →
 Prop), (∀ w17 : World, ∀ x18 : Int, ((Nat →
 Value) →
 ∃ n21, n21 < n8 ∧
 k6 n21 x18 (IntKind.wrap .i64 (x12 + 1)) w17) →
 k15 x18 w17) →
 ∃ a22 : Addr, s = some a22 ∧
((0 : Int) ≤ x12 ∧
 x12 < ((s_n : Nat) : Int)) ∧
 ∃ x23, w10.cell? (Addr.add a22 ((x12).toNat * 1)) = some (.int .i64 x23) ∧
 CallsV Tryz.prog (Value.func del_f del_a del_c) [.int .i64 x23] w10 (fun e24 => fun w25 => ∃ b26, e24 = .returned (.bool b26) ∧
(b26 = true →
 k15 x11 w25) ∧
(b26 = false →
 ∃ a29 : Addr, s = some a29 ∧
((0 : Int) ≤ x11 ∧
 x11 < ((s_n : Nat) : Int)) ∧
 There w25 (Addr.add a29 ((x11).toNat * 1)) 1 ∧
 ∀ w30, w30 = setCells w25 (Addr.add a29 ((x11).toNat * 1)) [.int .i64 x23] 0 →
 k15 (IntKind.wrap .i64 (x11 + 1)) w30))) ∧
(decide (x12 < ((s_n : Nat) : Int)) = false →
((0 : Int) ≤ x11 ∧
 x11 ≤ ((s_n : Nat) : Int)) ∧
 RunOk Tryz.prog (Hold (Builtin.clear_ #[24] 0 #[.slice (if (s_c = (x11).toNat) then s else (Option.map (fun (x : Addr) => Addr.add x ((x11).toNat * 1)) s)) (s_n - (x11).toNat) (s_c - (x11).toNat)])) w10 (fun v33 => fun w34 => ∃ v35 : Value, v33 = v35 ∧
((0 : Int) ≤ x11 ∧
 x11 ≤ ((s_c : Nat) : Int)) ∧
 R (.returned (.slice (if (s_c = 0) then s else (Option.map (fun (x : Addr) => x) s)) ((x11).toNat - 0) (s_c - 0))) w34)))))) :
    Calls Tryz.prog 80 #[(.slice s s_n s_c), (.func del_f del_a del_c)] w R :=
  calls_of_vc an80 Tryz.func80 rfl (by kernel_rfl) (by kernel_rfl) (Eq.mp (by kernel_rfl) h)

/-- slices.IndexFunc[[]int,int] -/
def an112 : An := (.seq (.reg []) (.seq (.seq (.reg []) (.blk (.loop [(8, .int .i64)] (.seq (.reg [(0, 0, true)]) (.seq (.cond .nil .nil) (.seq (.blk (.seq (.reg []) (.seq (.reg [(5, 1, true)]) (.cond (.seq (.reg []) .nil) .nil)))) (.reg []))))))) (.seq (.reg []) .nil)))
set_option maxRecDepth 100000 in
theorem nf112 (s : Option Addr) (s_n : Nat) (s_c : Nat) (f_f : Fn) (f_a : Array Value) (f_c : Array Value) (w : World) (R : Ending → World → Prop) (h :
(∃ k1 : (Nat →
 Int →
 World →
 Prop), (∃ n2, k1 n2 0 w) ∧
 ∀ n3 : Nat, (Nat →
 Value) →
 ∀ w5 : World, ∀ x6 : Int, k1 n3 x6 w5 →
(decide (x6 < ((s_n : Nat) : Int)) = true →
 ∃ a9 : Addr, s = some a9 ∧
((0 : Int) ≤ x6 ∧
 x6 < ((s_n : Nat) : Int)) ∧
 ∃ x10, w5.cell? (Addr.add a9 ((x6).toNat * 1)) = some (.int .i64 x10) ∧
 CallsV Tryz.prog (Value.func f_f f_a f_c) [.int .i64 x10] w5 (fun e11 => fun w12 => ∃ b13, e11 = .returned (.bool b13) ∧
(b13 = true →
 R (.returned (.int .i64 x6)) w12) ∧
(b13 = false →
 ∃ n16, n16 < n3 ∧
 k1 n16 (IntKind.wrap .i64 (x6 + 1)) w12))) ∧
(decide (x6 < ((s_n : Nat) : Int)) = false →
 R (.returned (.int .i64 (-1))) w5))) :
    Calls Tryz.prog 112 #[(.slice s s_n s_c), (.func f_f f_a f_c)] w R :=
  calls_of_vc an112 Tryz.func112 rfl (by kernel_rfl) (by kernel_rfl) (Eq.mp (by kernel_rfl) h)

/-- slices.Sort[[]int64,int64] -/
def an138 : An := (.seq (.reg []) (.reg []))
set_option maxRecDepth 100000 in
theorem nf138 (x : Option Addr) (x_n : Nat) (x_c : Nat) (w : World) (R : Ending → World → Prop) (h :
(Calls Tryz.prog 114 #[.int .u64 (IntKind.wrap .u64 ((x_n : Nat) : Int))] w (fun e1 => fun w2 => ∃ x3, e1 = .returned (.int .i64 x3) ∧
 Calls Tryz.prog 145 #[.slice x x_n x_c, .int .i64 0, .int .i64 ((x_n : Nat) : Int), .int .i64 x3] w2 (fun e4 => fun w5 => e4 = .returned (.tuple #[]) ∧
 R (.returned (.tuple #[])) w5)))) :
    Calls Tryz.prog 138 #[(.slice x x_n x_c)] w R :=
  calls_of_vc an138 Tryz.func138 rfl (by kernel_rfl) (by kernel_rfl) (Eq.mp (by kernel_rfl) h)

/-- slices.insertionSortOrdered[int64] -/
def an147 : An := (.seq (.reg []) (.blk (.loop [(6, .int .i64)] (.seq (.seq (.reg [(2, 0, true)]) (.cond .nil .nil)) (.seq (.blk (.seq (.reg []) (.blk (.loop [(7, .int .i64)] (.seq (.seq (.regD [(2, 0, true), (13, 0, true)] [0, 1, 2, 3, 4, 5, 6, 7, 8, 9, 10, 11, 12, 13, 14] [13]) (.cond .nil .nil)) (.seq (.blk (.regD [] [0, 1, 2, 3, 4, 5, 6, 7, 8, 9, 10, 11, 12, 13, 14, 15, 16, 17] [15, 17])) (.reg []))))))) (.reg []))))))
set_option maxRecDepth 100000 in
theorem nf147 (data : Option Addr) (data_n : Nat) (data_c : Nat) (a : Int) (b : Int) (w : World) (R : Ending → World → Prop) (h :
(∃ k1 : (Nat →
 Int →
 World →
 Prop), (∃ n2, k1 n2 (IntKind.wrap .i64 (a + 1)) w) ∧
 ∀ n3 : Nat, (Nat →
 Value) →
 ∀ w5 : World, ∀ x6 : Int, k1 n3 x6 w5 →
(decide (x6 < b) = true →
 ∃ k9 : (Nat →
 Int →
 World →
 Prop), (∃ n10, k9 n10 x6 w5) ∧
 ∀ n11 : Nat, (Nat →
 Value) →
 ∀ w13 : World, ∀ x14 : Int, k9 n11 x14 w13 →
 ∀ w16, w16 = w13.drew →
(decide (x14 > a) = true →
 ∃ a19 : Addr, data = some a19 ∧
((0 : Int) ≤ x14 ∧
 x14 < ((data_n : Nat) : Int)) ∧
 ∃ x20, w16.cell? (Addr.add a19 ((x14).toNat * 1)) = some (.int .i64 x20) ∧
 ∃ a21 : Addr, data = some a21 ∧
((0 : Int) ≤ IntKind.wrap .i64 (x14 - 1) ∧
 IntKind.wrap .i64 (x14 - 1) < ((data_n : Nat) : Int)) ∧
 ∃ x22, w16.cell? (Addr.add a21 ((IntKind.wrap .i64 (x14 - 1)).toNat * 1)) = some (.int .i64 x22) ∧
 Calls Tryz.prog 153 #[.int .i64 x20, .int .i64 x22] w16 (fun e23 => fun w24 => ∃ b25, e23 = .returned (.bool b25) ∧
(b25 = true →
 ∀ w27, w27 = w24.drew →
 ∃ a29 : Addr, data = some a29 ∧
((0 : Int) ≤ IntKind.wrap .i64 (x14 - 1) ∧
 IntKind.wrap .i64 (x14 - 1) < ((data_n : Nat) : Int)) ∧
 ∃ x30, w27.cell? (Addr.add a29 ((IntKind.wrap .i64 (x14 - 1)).toNat * 1)) = some (.int .i64 x30) ∧
 ∃ a31 : Addr, data = some a31 ∧
((0 : Int) ≤ x14 ∧
 x14 < ((data_n : Nat) : Int)) ∧
 ∃ x32, w27.cell? (Addr.add a31 ((x14).toNat * 1)) = some (.int .i64 x32) ∧
 ∃ a33 : Addr, data = some a33 ∧
((0 : Int) ≤ x14 ∧
 x14 < ((data_n : Nat) : Int)) ∧
 There w27 (Addr.add a33 ((x14).toNat * 1)) 1 ∧
 ∀ w34, w34 = setCells w27 (Addr.add a33 ((x14).toNat * 1)) [.int .i64 x30] 0 →
 ∃ a36 : Addr, data = some a36 ∧
((0 : Int) ≤ IntKind.wrap .i64 (x14 - 1) ∧
 IntKind.wrap .i64 (x14 - 1) < ((data_n : Nat) : Int)) ∧
 There w34 (Addr.add a36 ((IntKind.wrap .i64 (x14 - 1)).toNat * 1)) 1 ∧
 ∀ w37, w37 = setCells w34 (Addr.add a36 ((IntKind.wrap .i64 (x14 - 1)).toNat * 1)) [.int .i64 x32] 0 →
 ∃ n39, n39 < n11 ∧
 k9 n39 (IntKind.wrap .i64 (x14 - 1)) w37) ∧
(b25 = false →
 ∃ n41, n41 < n3 ∧
 k1 n41 (IntKind.wrap .i64 (x6 + 1)) w24))) ∧
(decide (x14 > a) = false →
 ∃ n43, n43 < n3 ∧
 k1 n43 (IntKind.wrap .i64 (x6 + 1)) w16)) ∧
(decide (x6 < b) = false →
 R (.returned (.tuple #[])) w5))) :
    Calls Tryz.prog 147 #[(.slice data data_n data_c), (.int .i64 a), (.int .i64 b)] w R :=
  calls_of_vc an147 Tryz.func147 rfl (by kernel_rfl) (by kernel_rfl) (Eq.mp (by kernel_rfl) h)

/-- cmp.Less[int64] -/
def an153 : An := (.seq (.reg []) (.seq (.reg [(1, 0, true), (4, 0, true), (10, 0, true)]) .nil))
set_option maxRecDepth 100000 in
theorem nf153 (x : Int) (y : Int) (w : World) (R : Ending → World → Prop) (h :
(Calls Tryz.prog 159 #[.int .i64 x] w (fun e1 => fun w2 => ∃ b3, e1 = .returned (.bool b3) ∧
(b3 = true →
 Calls Tryz.prog 159 #[.int .i64 y] w2 (fun e5 => fun w6 => ∃ b7, e5 = .returned (.bool b7) ∧
(b7 = true →
(decide (x < y) = true →
 R (.returned (.bool true)) w6) ∧
(decide (x < y) = false →
 R (.returned (.bool false)) w6)) ∧
(b7 = false →
 R (.returned (.bool true)) w6))) ∧
(b3 = false →
(decide (x < y) = true →
 R (.returned (.bool true)) w2) ∧
(decide (x < y) = false →
 R (.returned (.bool false)) w2))))) :
    Calls Tryz.prog 153 #[(.int .i64 x), (.int .i64 y)] w R :=
  calls_of_vc an153 Tryz.func153 rfl (by kernel_rfl) (by kernel_rfl) (Eq.mp (by kernel_rfl) h)

/-- cmp.isNaN[int64] -/
def an159 : An := (.seq (.reg []) (.seq (.reg [(2, 0, true)]) .nil))
set_option maxRecDepth 100000 in
theorem nf159 (x : Int) (w : World) (R : Ending → World → Prop) (h :
(((! (decide (x = x))) = true →
 R (.returned (.bool true)) w) ∧
((! (decide (x = x))) = false →
 R (.returned (.bool false)) w))) :
    Calls Tryz.prog 159 #[(.int .i64 x)] w R :=
  calls_of_vc an159 Tryz.func159 rfl (by kernel_rfl) (by kernel_rfl) (Eq.mp (by kernel_rfl) h)

/-- slices.pdqsortOrdered[int64] -/
def an145 : An := (.seq (.reg []) (.seq (.reg []) (.blk (.loop [(1, .int .i64), (2, .int .i64), (3, .int .i64), (8, .bool), (9, .bool)] (.blk (.seq (.reg []) (.seq (.seq (.reg [(1, 0, true)]) (.cond (.seq (.reg []) .nil) .nil)) (.seq (.seq (.reg [(1, 0, true)]) (.cond (.seq (.reg []) .nil) .nil)) (.cut [(3, .int .i64)] (.seq (.reg [(0, 0, true)]) (.cond (.seq (.reg []) (.reg [])) .nil)) (.seq (.reg []) (.cut [(11, .int .i64), (12, .int .i64)] (.seq (.reg [(1, 0, true)]) (.cond (.seq (.reg []) (.seq (.reg []) (.reg []))) .nil)) (.cut [] (.seq (.reg [(0, 0, true), (2, 0, true), (6, 0, true)]) (.cond (.seq (.reg [(3, 0, true)]) (.cond .nil .nil)) .nil)) (.seq (.seq (.regD [(1, 0, true), (12, 0, true)] [0, 1, 2, 3, 4, 5, 6, 7, 8, 9, 10, 11, 12, 13, 14] [12]) (.cond (.seq (.reg []) (.seq (.reg []) .nil)) .nil)) (.seq (.reg [(7, 0, true)]) (.seq (.reg []) (.seq (.reg []) (.seq (.reg []) (.seq (.reg [(2, 0, true)]) (.cond (.seq (.reg [(2, 0, true)]) (.seq (.reg []) (.reg []))) (.seq (.reg [(2, 0, true)]) (.seq (.reg []) (.reg []))))))))))))))))))))))
set_option maxRecDepth 100000 in
theorem nf145 (data : Option Addr) (data_n : Nat) (data_c : Nat) (a : Int) (b : Int) (limit : Int) (w : World) (R : Ending → World → Prop) (h :
(∃ k1 : (Nat →
 Int →
 Int →
 Int →
 Bool →
 Bool →
 World →
 Prop), (∃ n2, k1 n2 a b limit true true w) ∧
 ∀ n3 : Nat, (Nat →
 Value) →
 ∀ w5 : World, ∀ x6 : Int, ∀ x7 : Int, ∀ x8 : Int, ∀ b9 : Bool, ∀ b10 : Bool, k1 n3 x6 x7 x8 b9 b10 w5 →
(decide (IntKind.wrap .i64 (x7 - x6) ≤ 12) = true →
 Calls Tryz.prog 147 #[.slice data data_n data_c, .int .i64 x6, .int .i64 x7] w5 (fun e13 => fun w14 => e13 = .returned (.tuple #[]) ∧
 R (.returned (.tuple #[])) w14)) ∧
(decide (IntKind.wrap .i64 (x7 - x6) ≤ 12) = false →
(decide (x8 = 0) = true →
 Calls Tryz.prog 148 #[.slice data data_n data_c, .int .i64 x6, .int .i64 x7] w5 (fun e17 => fun w18 => e17 = .returned (.tuple #[]) ∧
 R (.returned (.tuple #[])) w18)) ∧
(decide (x8 = 0) = false →
 ∀ k20 : (Int →
 World →
 Prop), (∀ w22 : World, ∀ x23 : Int, ((Nat →
 Value) →
 Calls Tryz.prog 150 #[.slice data data_n data_c, .int .i64 x6, .int .i64 x7] w22 (fun e26 => fun w27 => ∃ x28, ∃ x29, e26 = .returned (.tuple #[.int .i64 x28, .int .i64 x29]) ∧
 ∀ k30 : (Int →
 Int →
 World →
 Prop), (∀ w32 : World, ∀ x33 : Int, ∀ x34 : Int, ((Nat →
 Value) →
 ∀ k37 : (World →
 Prop), (∀ w39 : World, ((Nat →
 Value) →
 ∀ w42, w42 = w39.drew →
(decide (x6 > 0) = true →
 ∃ a45 : Addr, data = some a45 ∧
((0 : Int) ≤ IntKind.wrap .i64 (x6 - 1) ∧
 IntKind.wrap .i64 (x6 - 1) < ((data_n : Nat) : Int)) ∧
 ∃ x46, w42.cell? (Addr.add a45 ((IntKind.wrap .i64 (x6 - 1)).toNat * 1)) = some (.int .i64 x46) ∧
 ∃ a47 : Addr, data = some a47 ∧
((0 : Int) ≤ x33 ∧
 x33 < ((data_n : Nat) : Int)) ∧
 ∃ x48, w42.cell? (Addr.add a47 ((x33).toNat * 1)) = some (.int .i64 x48) ∧
 Calls Tryz.prog 153 #[.int .i64 x46, .int .i64 x48] w42 (fun e49 => fun w50 => ∃ b51, e49 = .returned (.bool b51) ∧
(b51 = true →
 Calls Tryz.prog 155 #[.slice data data_n data_c, .int .i64 x6, .int .i64 x7, .int .i64 x33] w50 (fun e53 => fun w54 => ∃ x55, ∃ b56, e53 = .returned (.tuple #[.int .i64 x55, .bool b56]) ∧
(b56 = true →
(decide (IntKind.wrap .i64 (x55 - x6) < IntKind.wrap .i64 (x7 - x55)) = true →
(decide (IntKind.wrap .i64 (x55 - x6) ≥ IntKind.wrap .i64 (Int.tdiv (IntKind.wrap .i64 (x7 - x6)) 8)) = true →
 Calls Tryz.prog 145 #[.slice data data_n data_c, .int .i64 x6, .int .i64 x55, .int .i64 x23] w54 (fun e60 => fun w61 => e60 = .returned (.tuple #[]) ∧
 ∃ n62, n62 < n3 ∧
 k1 n62 (IntKind.wrap .i64 (x55 + 1)) x7 x23 true true w61)) ∧
(decide (IntKind.wrap .i64 (x55 - x6) ≥ IntKind.wrap .i64 (Int.tdiv (IntKind.wrap .i64 (x7 - x6)) 8)) = false →
 Calls Tryz.prog 145 #[.slice data data_n data_c, .int .i64 x6, .int .i64 x55, .int .i64 x23] w54 (fun e64 => fun w65 => e64 = .returned (.tuple #[]) ∧
 ∃ n66, n66 < n3 ∧
 k1 n66 (IntKind.wrap .i64 (x55 + 1)) x7 x23 false true w65))) ∧
(decide (IntKind.wrap .i64 (x55 - x6) < IntKind.wrap .i64 (x7 - x55)) = false →
(decide (IntKind.wrap .i64 (x7 - x55) ≥ IntKind.wrap .i64 (Int.tdiv (IntKind.wrap .i64 (x7 - x6)) 8)) = true →
 Calls Tryz.prog 145 #[.slice data data_n data_c, .int .i64 (IntKind.wrap .i64 (x55 + 1)), .int .i64 x7, .int .i64 x23] w54 (fun e69 => fun w70 => e69 = .returned (.tuple #[]) ∧
 ∃ n71, n71 < n3 ∧
 k1 n71 x6 x55 x23 true true w70)) ∧
(decide (IntKind.wrap .i64 (x7 - x55) ≥ IntKind.wrap .i64 (Int.tdiv (IntKind.wrap .i64 (x7 - x6)) 8)) = false →
 Calls Tryz.prog 145 #[.slice data data_n data_c, .int .i64 (IntKind.wrap .i64 (x55 + 1)), .int .i64 x7, .int .i64 x23] w54 (fun e73 => fun w74 => e73 = .returned (.tuple #[]) ∧
 ∃ n75, n75 < n3 ∧
 k1 n75 x6 x55 x23 false true w74)))) ∧
(b56 = false →
(decide (IntKind.wrap .i64 (x55 - x6) < IntKind.wrap .i64 (x7 - x55)) = true →
(decide (IntKind.wrap .i64 (x55 - x6) ≥ IntKind.wrap .i64 (Int.tdiv (IntKind.wrap .i64 (x7 - x6)) 8)) = true →
 Calls Tryz.prog 145 #[.slice data data_n data_c, .int .i64 x6, .int .i64 x55, .int .i64 x23] w54 (fun e79 => fun w80 => e79 = .returned (.tuple #[]) ∧
 ∃ n81, n81 < n3 ∧
 k1 n81 (IntKind.wrap .i64 (x55 + 1)) x7 x23 true false w80)) ∧
(decide (IntKind.wrap .i64 (x55 - x6) ≥ IntKind.wrap .i64 (Int.tdiv (IntKind.wrap .i64 (x7 - x6)) 8)) = false →
 Calls Tryz.prog 145 #[.slice data data_n data_c, .int .i64 x6, .int .i64 x55, .int .i64 x23] w54 (fun e83 => fun w84 => e83 = .returned (.tuple #[]) ∧
 ∃ n85, n85 < n3 ∧
 k1 n85 (IntKind.wrap .i64 (x55 + 1)) x7 x23 false false w84))) ∧
(decide (IntKind.wrap .i64 (x55 - x6) < IntKind.wrap .i64 (x7 - x55)) = false →
(decide (IntKind.wrap .i64 (x7 - x55) ≥ IntKind.wrap .i64 (Int.tdiv (IntKind.wrap .i64 (x7 - x6)) 8)) = true →
 Calls Tryz.prog 145 #[.slice data data_n data_c, .int .i64 (IntKind.wrap .i64 (x55 + 1)), .int .i64 x7, .int .i64 x23] w54 (fun e88 => fun w89 => e88 = .returned (.tuple #[]) ∧
 ∃ n90, n90 < n3 ∧
 k1 n90 x6 x55 x23 true false w89)) ∧
(decide (IntKind.wrap .i64 (x7 - x55) ≥ IntKind.wrap .i64 (Int.tdiv (IntKind.wrap .i64 (x7 - x6)) 8)) = false →
 Calls Tryz.prog 145 #[.slice data data_n data_c, .int .i64 (IntKind.wrap .i64 (x55 + 1)), .int .i64 x7, .int .i64 x23] w54 (fun e92 => fun w93 => e92 = .returned (.tuple #[]) ∧
 ∃ n94, n94 < n3 ∧
 k1 n94 x6 x55 x23 false false w93)))))) ∧
(b51 = false →
 Calls Tryz.prog 154 #[.slice data data_n data_c, .int .i64 x6, .int .i64 x7, .int .i64 x33] w50 (fun e96 => fun w97 => ∃ x98, e96 = .returned (.int .i64 x98) ∧
 ∃ n99, n99 < n3 ∧
 k1 n99 x98 x7 x23 b9 b10 w97)))) ∧
(decide (x6 > 0) = false →
 Calls Tryz.prog 155 #[.slice data data_n data_c, .int .i64 x6, .int .i64 x7, .int .i64 x33] w42 (fun e101 => fun w102 => ∃ x103, ∃ b104, e101 = .returned (.tuple #[.int .i64 x103, .bool b104]) ∧
(b104 = true →
(decide (IntKind.wrap .i64 (x103 - x6) < IntKind.wrap .i64 (x7 - x103)) = true →
(decide (IntKind.wrap .i64 (x103 - x6) ≥ IntKind.wrap .i64 (Int.tdiv (IntKind.wrap .i64 (x7 - x6)) 8)) = true →
 Calls Tryz.prog 145 #[.slice data data_n data_c, .int .i64 x6, .int .i64 x103, .int .i64 x23] w102 (fun e108 => fun w109 => e108 = .returned (.tuple #[]) ∧
 ∃ n110, n110 < n3 ∧
 k1 n110 (IntKind.wrap .i64 (x103 + 1)) x7 x23 true true w109)) ∧
(decide (IntKind.wrap .i64 (x103 - x6) ≥ IntKind.wrap .i64 (Int.tdiv (IntKind.wrap .i64 (x7 - x6)) 8)) = false →
 Calls Tryz.prog 145 #[.slice data data_n data_c, .int .i64 x6, .int .i64 x103, .int .i64 x23] w102 (fun e112 => fun w113 => e112 = .returned (.tuple #[]) ∧
 ∃ n114, n114 < n3 ∧
 k1 n114 (IntKind.wrap .i64 (x103 + 1)) x7 x23 false true w113))) ∧
(decide (IntKind.wrap .i64 (x103 - x6) < IntKind.wrap .i64 (x7 - x103)) = false →
(decide (IntKind.wrap .i64 (x7 - x103) ≥ IntKind.wrap .i64 (Int.tdiv (IntKind.wrap .i64 (x7 - x6)) 8)) = true →
 Calls Tryz.prog 145 #[.slice data data_n data_c, .int .i64 (IntKind.wrap .i64 (x103 + 1)), .int .i64 x7, .int .i64 x23] w102 (fun e117 => fun w118 => e117 = .returned (.tuple #[]) ∧
 ∃ n119, n119 < n3 ∧
 k1 n119 x6 x103 x23 true true w118)) ∧
(decide (IntKind.wrap .i64 (x7 - x103) ≥ IntKind.wrap .i64 (Int.tdiv (IntKind.wrap .i64 (x7 - x6)) 8)) = false →
 Calls Tryz.prog 145 #[.slice data data_n data_c, .int .i64 (IntKind.wrap .i64 (x103 + 1)), .int .i64 x7, .int .i64 x23] w102 (fun e121 => fun w122 => e121 = .returned (.tuple #[]) ∧
 ∃ n123, n123 < n3 ∧
 k1 n123 x6 x103 x23 false true w122)))) ∧
(b104 = false →
(decide (IntKind.wrap .i64 (x103 - x6) < IntKind.wrap .i64 (x7 - x103)) = true →
(decide (IntKind.wrap .i64 (x103 - x6) ≥ IntKind.wrap .i64 (Int.tdiv (IntKind.wrap .i64 (x7 - x6)) 8)) = true →
 Calls Tryz.prog 145 #[.slice data data_n data_c, .int .i64 x6, .int .i64 x103, .int .i64 x23] w102 (fun e127 => fun w128 => e127 = .returned (.tuple #[]) ∧
 ∃ n129, n129 < n3 ∧
 k1 n129 (IntKind.wrap .i64 (x103 + 1)) x7 x23 true false w128)) ∧
(decide (IntKind.wrap .i64 (x103 - x6) ≥ IntKind.wrap .i64 (Int.tdiv (IntKind.wrap .i64 (x7 - x6)) 8)) = false →
 Calls Tryz.prog 145 #[.slice data data_n data_c, .int .i64 x6, .int .i64 x103, .int .i64 x23] w102 (fun e131 => fun w132 => e131 = .returned (.tuple #[]) ∧
 ∃ n133, n133 < n3 ∧
 k1 n133 (IntKind.wrap .i64 (x103 + 1)) x7 x23 false false w132))) ∧
(decide (IntKind.wrap .i64 (x103 - x6) < IntKind.wrap .i64 (x7 - x103)) = false →
(decide (IntKind.wrap .i64 (x7 - x103) ≥ IntKind.wrap .i64 (Int.tdiv (IntKind.wrap .i64 (x7 - x6)) 8)) = true →
 Calls Tryz.prog 145 #[.slice data data_n data_c, .int .i64 (IntKind.wrap .i64 (x103 + 1)), .int .i64 x7, .int .i64 x23] w102 (fun e136 => fun w137 => e136 = .returned (.tuple #[]) ∧
 ∃ n138, n138 < n3 ∧
 k1 n138 x6 x103 x23 true false w137)) ∧
(decide (IntKind.wrap .i64 (x7 - x103) ≥ IntKind.wrap .i64 (Int.tdiv (IntKind.wrap .i64 (x7 - x6)) 8)) = false →
 Calls Tryz.prog 145 #[.slice data data_n data_c, .int .i64 (IntKind.wrap .i64 (x103 + 1)), .int .i64 x7, .int .i64 x23] w102 (fun e140 => fun w141 => e140 = .returned (.tuple #[]) ∧
 ∃ n142, n142 < n3 ∧
 k1 n142 x6 x103 x23 false false w141))))))) →
 k37 w39) →
(b9 = true →
(b10 = true →
(decide (x34 = 1) = true →
 Calls Tryz.prog 152 #[.slice data data_n data_c, .int .i64 x6, .int .i64 x7] w32 (fun e146 => fun w147 => ∃ b148, e146 = .returned (.bool b148) ∧
(b148 = true →
 R (.returned (.tuple #[])) w147) ∧
(b148 = false →
 k37 w147))) ∧
(decide (x34 = 1) = false →
 k37 w32)) ∧
(b10 = false →
 k37 w32)) ∧
(b9 = false →
 k37 w32)) →
 k30 x33 x34 w32) →
(decide (x29 = 2) = true →
 Calls Tryz.prog 151 #[.slice data data_n data_c, .int .i64 x6, .int .i64 x7] w27 (fun e155 => fun w156 => e155 = .returned (.tuple #[]) ∧
 k30 (IntKind.wrap .i64 ((IntKind.wrap .i64 (x7 - 1)) - (IntKind.wrap .i64 (x28 - x6)))) 1 w156)) ∧
(decide (x29 = 2) = false →
 k30 x28 x29 w27))) →
 k20 x23 w22) →
(b9 = true →
 k20 x8 w5) ∧
(b9 = false →
 Calls Tryz.prog 149 #[.slice data data_n data_c, .int .i64 x6, .int .i64 x7] w5 (fun e160 => fun w161 => e160 = .returned (.tuple #[]) ∧
 k20 (IntKind.wrap .i64 (x8 - 1)) w161)))))) :
    Calls Tryz.prog 145 #[(.slice data data_n data_c), (.int .i64 a), (.int .i64 b), (.int .i64 limit)] w R :=
  calls_of_vc an145 Tryz.func145 rfl (by kernel_rfl) (by kernel_rfl) (Eq.mp (by kernel_rfl) h)

end Go.Proofs.YtcaokpglbolkcaaGreat
