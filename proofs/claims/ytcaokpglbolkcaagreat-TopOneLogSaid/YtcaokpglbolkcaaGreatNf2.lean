/- The contracts' premises: for each function, the proposition that its body comes to (printed by the tool of wip/nf). -/
import Derived.Test.YtcaokpglbolkcaaGreatRows
import Derived.Test.YtcaokpglbolkcaaGreatNfD
namespace Go.Proofs.YtcaokpglbolkcaaGreat
open Go Go.Nf

/-- samaritan/voterecord.Open -/
def an24 : An := (.seq (.reg []) (.seq (.seq (.reg [(1, 3, true)]) (.cond (.seq (.reg []) .nil) .nil)) (.seq (.reg []) (.seq (.seq (.reg []) (.blk (.loop [(16, .int .i64)] (.seq (.reg [(0, 0, true)]) (.seq (.cond .nil .nil) (.seq (.blk (.seq (.reg []) (.seq (.reg []) (.cut [(7, .bool)] (.seq (.reg []) (.blk (.seq (.reg [(0, 0, true)]) (.cond (.reg [(3, 0, true)]) (.seq (.reg [(0, 0, true)]) (.cond (.reg [(3, 0, true)]) .nil)))))) (.seq (.reg [(0, 0, true)]) (.cond (.seq (.reg []) .nil) .nil)))))) (.reg []))))))) (.seq (.reg []) .nil)))))
set_option maxRecDepth 100000 in
theorem nf24 (j : Nat) (w : World) (R : Ending → World → Prop) (h :
((false = true →
 R (.returned (.tuple #[.pointer none, .int .i64 1])) w) ∧
(false = false →
 ∀ w3, w3 = w.alloc (.cells #[.pointer (some ⟨j, 0, none⟩), .int .i64 0, .int .i64 (-1)] 111 (0, 0)) →
 Calls Tryz.prog 27 #[.pointer (some ⟨j, 0, none⟩)] w3 (fun e5 => fun w6 => ∃ o7, ∃ n8, ∃ n9, e5 = .returned (.slice o7 n8 n9) ∧
 ∃ k10 : (Nat →
 Int →
 World →
 Prop), (∃ n11, k10 n11 0 w6) ∧
 ∀ n12 : Nat, (Nat →
 Value) →
 ∀ w14 : World, ∀ x15 : Int, k10 n12 x15 w14 →
(decide (x15 < ((n8 : Nat) : Int)) = true →
 ∃ a18 : Addr, o7 = some a18 ∧
((0 : Int) ≤ x15 ∧
 x15 < ((n8 : Nat) : Int)) ∧
 ∃ x19, w14.cell? (Addr.add a18 ((x15).toNat * 2)) = some (.int .u8 x19) ∧
 ∃ o20, ∃ n21, ∃ n22, w14.cell? (Addr.add (Addr.add a18 ((x15).toNat * 2)) 1) = some (.slice o20 n21 n22) ∧
 ∀ w23, w23 = w14.alloc (.cells #[.int .u8 0, .slice none 0 0] 104 (0, 0)) →
 There w23 ⟨hs w14, 0, none⟩ 2 ∧
 ∀ w25, w25 = setCells w23 ⟨hs w14, 0, none⟩ [.int .u8 x19, .slice o20 n21 n22] 0 →
 ∀ k27 : (Bool →
 World →
 Prop), (∀ w29 : World, ∀ b30 : Bool, ((Nat →
 Value) →
(b30 = true →
 ∃ n34, n34 < n12 ∧
 k10 n34 (IntKind.wrap .i64 (x15 + 1)) w29) ∧
(b30 = false →
 R (.returned (.tuple #[.pointer none, .int .i64 2])) w29)) →
 k27 b30 w29) →
 ∃ x36, w25.cell? ⟨hs w14, 0, none⟩ = some (.int .u8 x36) ∧
(decide (x36 = 84) = true →
 ∃ o38, ∃ n39, ∃ n40, w25.cell? ⟨hs w14, 1, none⟩ = some (.slice o38 n39 n40) ∧
 Calls Tryz.prog 58 #[.pointer (some ⟨hs w, 0, none⟩), .slice o38 n39 n40] w25 (fun e41 => fun w42 => ∃ b43, e41 = .returned (.bool b43) ∧
(b43 = true →
 k27 true w42) ∧
(b43 = false →
 k27 false w42))) ∧
(decide (x36 = 84) = false →
(decide (x36 = 86) = true →
 ∃ o48, ∃ n49, ∃ n50, w25.cell? ⟨hs w14, 1, none⟩ = some (.slice o48 n49 n50) ∧
 Calls Tryz.prog 59 #[.pointer (some ⟨hs w, 0, none⟩), .slice o48 n49 n50] w25 (fun e51 => fun w52 => ∃ b53, e51 = .returned (.bool b53) ∧
(b53 = true →
 k27 true w52) ∧
(b53 = false →
 k27 false w52))) ∧
(decide (x36 = 86) = false →
 k27 true w25))) ∧
(decide (x15 < ((n8 : Nat) : Int)) = false →
 R (.returned (.tuple #[.pointer (some ⟨hs w, 0, none⟩), .int .i64 0])) w14))))) :
    Calls Tryz.prog 24 #[(.pointer (some ⟨j, 0, none⟩))] w R :=
  calls_of_vc an24 Tryz.func24 rfl (by kernel_rfl) (by kernel_rfl) (Eq.mp (by kernel_rfl) h)

/-- (*samaritan/voterecord.Record).Term -/
def an36 : An := (.seq (.reg []) (.seq (.reg []) .nil))
set_option maxRecDepth 100000 in
theorem nf36 (r : Nat) (w : World) (R : Ending → World → Prop) (h :
(∃ x1, w.cell? ⟨r, 1, none⟩ = some (.int .i64 x1) ∧
 R (.returned (.int .i64 x1)) w)) :
    Calls Tryz.prog 36 #[(.pointer (some ⟨r, 0, none⟩))] w R :=
  calls_of_vc an36 Tryz.func36 rfl (by kernel_rfl) (by kernel_rfl) (Eq.mp (by kernel_rfl) h)

/-- (*samaritan/voterecord.Record).restoreTerm -/
def an58 : An := (.seq (.reg []) (.seq (.reg []) (.seq (.reg []) (.seq (.seq (.reg [(2, 0, true), (5, 0, true), (14, 0, true)]) (.cond (.seq (.reg []) .nil) .nil)) (.seq (.reg []) (.seq (.reg []) .nil))))))
set_option maxRecDepth 100000 in
theorem nf58 (r : Nat) (body : Option Addr) (body_n : Nat) (body_c : Nat) (w : World) (R : Ending → World → Prop) (h :
(Calls Tryz.prog 91 #[.slice body body_n body_c] w (fun e1 => fun w2 => ∃ o3, e1 = .returned (.pointer o3) ∧
 Calls Tryz.prog 92 #[.pointer o3] w2 (fun e4 => fun w5 => ∃ x6, e4 = .returned (.int .i64 x6) ∧
 Calls Tryz.prog 93 #[.pointer o3] w5 (fun e7 => fun w8 => ∃ x9, e7 = .returned (.int .i64 x9) ∧
((! (decide (x9 = 0))) = true →
 R (.returned (.bool false)) w8) ∧
((! (decide (x9 = 0))) = false →
 Calls Tryz.prog 94 #[.int .i64 x6] w8 (fun e12 => fun w13 => ∃ b14, e12 = .returned (.bool b14) ∧
(b14 = true →
 ∃ x16, w13.cell? ⟨r, 1, none⟩ = some (.int .i64 x16) ∧
(decide (x6 ≤ x16) = true →
 R (.returned (.bool false)) w13) ∧
(decide (x6 ≤ x16) = false →
 There w13 ⟨r, 1, none⟩ 1 ∧
 ∀ w19, w19 = setCells w13 ⟨r, 1, none⟩ [.int .i64 x6] 0 →
 There w19 ⟨r, 2, none⟩ 1 ∧
 ∀ w21, w21 = setCells w19 ⟨r, 2, none⟩ [.int .i64 (-1)] 0 →
 R (.returned (.bool true)) w21)) ∧
(b14 = false →
 R (.returned (.bool false)) w13)))))))) :
    Calls Tryz.prog 58 #[(.pointer (some ⟨r, 0, none⟩)), (.slice body body_n body_c)] w R :=
  calls_of_vc an58 Tryz.func58 rfl (by kernel_rfl) (by kernel_rfl) (Eq.mp (by kernel_rfl) h)

/-- (*samaritan/voterecord.Record).restoreVote -/
def an59 : An := (.seq (.reg []) (.seq (.reg []) (.seq (.reg []) (.seq (.seq (.reg [(2, 0, true), (5, 0, true), (10, 0, true)]) (.cond (.seq (.reg []) .nil) .nil)) (.seq (.seq (.reg [(5, 0, true), (12, 0, true), (18, 0, true)]) (.cond (.seq (.reg []) .nil) .nil)) (.seq (.reg []) (.seq (.reg []) .nil)))))))
set_option maxRecDepth 100000 in
theorem nf59 (r : Nat) (body : Option Addr) (body_n : Nat) (body_c : Nat) (w : World) (R : Ending → World → Prop) (h :
(Calls Tryz.prog 91 #[.slice body body_n body_c] w (fun e1 => fun w2 => ∃ o3, e1 = .returned (.pointer o3) ∧
 Calls Tryz.prog 92 #[.pointer o3] w2 (fun e4 => fun w5 => ∃ x6, e4 = .returned (.int .i64 x6) ∧
 Calls Tryz.prog 92 #[.pointer o3] w5 (fun e7 => fun w8 => ∃ x9, e7 = .returned (.int .i64 x9) ∧
 Calls Tryz.prog 93 #[.pointer o3] w8 (fun e10 => fun w11 => ∃ x12, e10 = .returned (.int .i64 x12) ∧
((! (decide (x12 = 0))) = true →
 R (.returned (.bool false)) w11) ∧
((! (decide (x12 = 0))) = false →
 Calls Tryz.prog 94 #[.int .i64 x6] w11 (fun e15 => fun w16 => ∃ b17, e15 = .returned (.bool b17) ∧
(b17 = true →
 Calls Tryz.prog 95 #[.int .i64 x9] w16 (fun e19 => fun w20 => ∃ b21, e19 = .returned (.bool b21) ∧
(b21 = true →
 ∃ x23, w20.cell? ⟨r, 1, none⟩ = some (.int .i64 x23) ∧
(decide (x6 < x23) = true →
 R (.returned (.bool false)) w20) ∧
(decide (x6 < x23) = false →
 ∃ x26, w20.cell? ⟨r, 1, none⟩ = some (.int .i64 x26) ∧
(decide (x6 = x26) = true →
 ∃ x28, w20.cell? ⟨r, 2, none⟩ = some (.int .i64 x28) ∧
(decide (x28 ≥ 0) = true →
 R (.returned (.bool false)) w20) ∧
(decide (x28 ≥ 0) = false →
 There w20 ⟨r, 1, none⟩ 1 ∧
 ∀ w31, w31 = setCells w20 ⟨r, 1, none⟩ [.int .i64 x6] 0 →
 There w31 ⟨r, 2, none⟩ 1 ∧
 ∀ w33, w33 = setCells w31 ⟨r, 2, none⟩ [.int .i64 x9] 0 →
 R (.returned (.bool true)) w33)) ∧
(decide (x6 = x26) = false →
 There w20 ⟨r, 1, none⟩ 1 ∧
 ∀ w36, w36 = setCells w20 ⟨r, 1, none⟩ [.int .i64 x6] 0 →
 There w36 ⟨r, 2, none⟩ 1 ∧
 ∀ w38, w38 = setCells w36 ⟨r, 2, none⟩ [.int .i64 x9] 0 →
 R (.returned (.bool true)) w38))) ∧
(b21 = false →
 R (.returned (.bool false)) w20))) ∧
(b17 = false →
 R (.returned (.bool false)) w16))))))))) :
    Calls Tryz.prog 59 #[(.pointer (some ⟨r, 0, none⟩)), (.slice body body_n body_c)] w R :=
  calls_of_vc an59 Tryz.func59 rfl (by kernel_rfl) (by kernel_rfl) (Eq.mp (by kernel_rfl) h)

/-- (*samaritan/voterecord.Record).Grant -/
def an66 : An := (.seq (.reg []) (.seq (.seq (.reg [(1, 0, true), (5, 0, true)]) (.cond (.seq (.reg []) .nil) .nil)) (.seq (.seq (.reg [(5, 0, true)]) (.cond (.seq (.reg []) .nil) .nil)) (.seq (.seq (.reg [(5, 0, true), (11, 0, true)]) (.cond (.seq (.seq (.reg [(5, 0, true)]) (.cond (.seq (.reg []) .nil) .nil)) (.seq (.reg []) .nil)) .nil)) (.seq (.reg []) (.seq (.reg []) (.seq (.reg []) (.seq (.seq (.reg []) (.seq (.reg [(1, 0, true)]) (.cond (.seq (.reg []) .nil) .nil))) (.seq (.reg []) (.seq (.reg []) .nil))))))))))
set_option maxRecDepth 100000 in
theorem nf66 (r : Nat) (term : Int) (node : Int) (w : World) (R : Ending → World → Prop) (h :
(Calls Tryz.prog 94 #[.int .i64 term] w (fun e1 => fun w2 => ∃ b3, e1 = .returned (.bool b3) ∧
(b3 = true →
 Calls Tryz.prog 95 #[.int .i64 node] w2 (fun e5 => fun w6 => ∃ b7, e5 = .returned (.bool b7) ∧
(b7 = true →
 ∃ x9, w6.cell? ⟨r, 1, none⟩ = some (.int .i64 x9) ∧
(decide (term < x9) = true →
 R (.returned (.int .i64 9)) w6) ∧
(decide (term < x9) = false →
 ∃ x12, w6.cell? ⟨r, 1, none⟩ = some (.int .i64 x12) ∧
(decide (term = x12) = true →
 ∃ x14, w6.cell? ⟨r, 2, none⟩ = some (.int .i64 x14) ∧
(decide (x14 ≥ 0) = true →
 ∃ x16, w6.cell? ⟨r, 2, none⟩ = some (.int .i64 x16) ∧
((! (decide (x16 = node))) = true →
 R (.returned (.int .i64 10)) w6) ∧
((! (decide (x16 = node))) = false →
 R (.returned (.int .i64 0)) w6)) ∧
(decide (x14 ≥ 0) = false →
 ∀ w20, w20 = w6.alloc (.cells #[.slice none 0 0] 137 (0, 0)) →
 Calls Tryz.prog 101 #[.pointer (some ⟨hs w6, 0, none⟩), .int .i64 term] w20 (fun e22 => fun w23 => e22 = .returned (.tuple #[]) ∧
 Calls Tryz.prog 101 #[.pointer (some ⟨hs w6, 0, none⟩), .int .i64 node] w23 (fun e24 => fun w25 => e24 = .returned (.tuple #[]) ∧
 Calls Tryz.prog 85 #[.pointer (some ⟨hs w6, 0, none⟩)] w25 (fun e26 => fun w27 => ∃ o28, ∃ n29, ∃ n30, e26 = .returned (.slice o28 n29 n30) ∧
 Calls Tryz.prog 102 #[.pointer (some ⟨r, 0, none⟩), .int .u8 86, .slice o28 n29 n30] w27 (fun e31 => fun w32 => ∃ x33, e31 = .returned (.int .i64 x33) ∧
((! (decide (x33 = 0))) = true →
 R (.returned (.int .i64 x33)) w32) ∧
((! (decide (x33 = 0))) = false →
 There w32 ⟨r, 1, none⟩ 1 ∧
 ∀ w36, w36 = setCells w32 ⟨r, 1, none⟩ [.int .i64 term] 0 →
 There w36 ⟨r, 2, none⟩ 1 ∧
 ∀ w38, w38 = setCells w36 ⟨r, 2, none⟩ [.int .i64 node] 0 →
 R (.returned (.int .i64 0)) w38))))))) ∧
(decide (term = x12) = false →
 ∀ w41, w41 = w6.alloc (.cells #[.slice none 0 0] 137 (0, 0)) →
 Calls Tryz.prog 101 #[.pointer (some ⟨hs w6, 0, none⟩), .int .i64 term] w41 (fun e43 => fun w44 => e43 = .returned (.tuple #[]) ∧
 Calls Tryz.prog 101 #[.pointer (some ⟨hs w6, 0, none⟩), .int .i64 node] w44 (fun e45 => fun w46 => e45 = .returned (.tuple #[]) ∧
 Calls Tryz.prog 85 #[.pointer (some ⟨hs w6, 0, none⟩)] w46 (fun e47 => fun w48 => ∃ o49, ∃ n50, ∃ n51, e47 = .returned (.slice o49 n50 n51) ∧
 Calls Tryz.prog 102 #[.pointer (some ⟨r, 0, none⟩), .int .u8 86, .slice o49 n50 n51] w48 (fun e52 => fun w53 => ∃ x54, e52 = .returned (.int .i64 x54) ∧
((! (decide (x54 = 0))) = true →
 R (.returned (.int .i64 x54)) w53) ∧
((! (decide (x54 = 0))) = false →
 There w53 ⟨r, 1, none⟩ 1 ∧
 ∀ w57, w57 = setCells w53 ⟨r, 1, none⟩ [.int .i64 term] 0 →
 There w57 ⟨r, 2, none⟩ 1 ∧
 ∀ w59, w59 = setCells w57 ⟨r, 2, none⟩ [.int .i64 node] 0 →
 R (.returned (.int .i64 0)) w59)))))))) ∧
(b7 = false →
 R (.returned (.int .i64 1)) w6))) ∧
(b3 = false →
 R (.returned (.int .i64 1)) w2)))) :
    Calls Tryz.prog 66 #[(.pointer (some ⟨r, 0, none⟩)), (.int .i64 term), (.int .i64 node)] w R :=
  calls_of_vc an66 Tryz.func66 rfl (by kernel_rfl) (by kernel_rfl) (Eq.mp (by kernel_rfl) h)

/-- (*samaritan/voterecord.Record).Advance -/
def an73 : An := (.seq (.reg []) (.seq (.seq (.reg [(1, 0, true)]) (.cond (.seq (.reg []) .nil) .nil)) (.seq (.seq (.reg [(5, 0, true)]) (.cond (.seq (.reg []) .nil) .nil)) (.seq (.reg []) (.seq (.reg []) (.seq (.seq (.reg []) (.seq (.reg [(1, 0, true)]) (.cond (.seq (.reg []) .nil) .nil))) (.seq (.reg []) (.seq (.reg []) .nil))))))))
set_option maxRecDepth 100000 in
theorem nf73 (r : Nat) (term : Int) (w : World) (R : Ending → World → Prop) (h :
(Calls Tryz.prog 94 #[.int .i64 term] w (fun e1 => fun w2 => ∃ b3, e1 = .returned (.bool b3) ∧
(b3 = true →
 ∃ x5, w2.cell? ⟨r, 1, none⟩ = some (.int .i64 x5) ∧
(decide (term ≤ x5) = true →
 R (.returned (.int .i64 9)) w2) ∧
(decide (term ≤ x5) = false →
 ∀ w8, w8 = w2.alloc (.cells #[.slice none 0 0] 137 (0, 0)) →
 Calls Tryz.prog 101 #[.pointer (some ⟨hs w2, 0, none⟩), .int .i64 term] w8 (fun e10 => fun w11 => e10 = .returned (.tuple #[]) ∧
 Calls Tryz.prog 85 #[.pointer (some ⟨hs w2, 0, none⟩)] w11 (fun e12 => fun w13 => ∃ o14, ∃ n15, ∃ n16, e12 = .returned (.slice o14 n15 n16) ∧
 Calls Tryz.prog 102 #[.pointer (some ⟨r, 0, none⟩), .int .u8 84, .slice o14 n15 n16] w13 (fun e17 => fun w18 => ∃ x19, e17 = .returned (.int .i64 x19) ∧
((! (decide (x19 = 0))) = true →
 R (.returned (.int .i64 x19)) w18) ∧
((! (decide (x19 = 0))) = false →
 There w18 ⟨r, 1, none⟩ 1 ∧
 ∀ w22, w22 = setCells w18 ⟨r, 1, none⟩ [.int .i64 term] 0 →
 There w22 ⟨r, 2, none⟩ 1 ∧
 ∀ w24, w24 = setCells w22 ⟨r, 2, none⟩ [.int .i64 (-1)] 0 →
 R (.returned (.int .i64 0)) w24)))))) ∧
(b3 = false →
 R (.returned (.int .i64 1)) w2)))) :
    Calls Tryz.prog 73 #[(.pointer (some ⟨r, 0, none⟩)), (.int .i64 term)] w R :=
  calls_of_vc an73 Tryz.func73 rfl (by kernel_rfl) (by kernel_rfl) (Eq.mp (by kernel_rfl) h)

/-- (*samaritan/voterecord.Record).VotedFor -/
def an74 : An := (.seq (.reg []) (.seq (.reg []) .nil))
set_option maxRecDepth 100000 in
theorem nf74 (r : Nat) (w : World) (R : Ending → World → Prop) (h :
(∃ x1, w.cell? ⟨r, 2, none⟩ = some (.int .i64 x1) ∧
 R (.returned (.int .i64 x1)) w)) :
    Calls Tryz.prog 74 #[(.pointer (some ⟨r, 0, none⟩))] w R :=
  calls_of_vc an74 Tryz.func74 rfl (by kernel_rfl) (by kernel_rfl) (Eq.mp (by kernel_rfl) h)

/-- samaritan/voterecord.validTerm -/
def an94 : An := (.seq (.reg []) (.seq (.reg [(1, 0, true), (4, 0, true)]) .nil))
set_option maxRecDepth 100000 in
theorem nf94 (term : Int) (w : World) (R : Ending → World → Prop) (h :
((decide (term ≥ 1) = true →
(decide (term ≤ 1099511627776) = true →
 R (.returned (.bool true)) w) ∧
(decide (term ≤ 1099511627776) = false →
 R (.returned (.bool false)) w)) ∧
(decide (term ≥ 1) = false →
 R (.returned (.bool false)) w))) :
    Calls Tryz.prog 94 #[(.int .i64 term)] w R :=
  calls_of_vc an94 Tryz.func94 rfl (by kernel_rfl) (by kernel_rfl) (Eq.mp (by kernel_rfl) h)

/-- samaritan/voterecord.validNode -/
def an95 : An := (.seq (.reg []) (.seq (.reg [(1, 0, true), (4, 0, true)]) .nil))
set_option maxRecDepth 100000 in
theorem nf95 (node : Int) (w : World) (R : Ending → World → Prop) (h :
((decide (node ≥ 0) = true →
(decide (node < 9) = true →
 R (.returned (.bool true)) w) ∧
(decide (node < 9) = false →
 R (.returned (.bool false)) w)) ∧
(decide (node ≥ 0) = false →
 R (.returned (.bool false)) w))) :
    Calls Tryz.prog 95 #[(.int .i64 node)] w R :=
  calls_of_vc an95 Tryz.func95 rfl (by kernel_rfl) (by kernel_rfl) (Eq.mp (by kernel_rfl) h)

/-- (*samaritan/voterecord.Record).store -/
def an102 : An := (.seq (.reg []) (.seq (.seq (.reg []) (.seq (.reg [(1, 0, true)]) (.cond (.seq (.reg []) .nil) .nil))) (.seq (.reg []) .nil)))
set_option maxRecDepth 100000 in
theorem nf102 (r : Nat) (kind : Int) (body : Option Addr) (body_n : Nat) (body_c : Nat) (w : World) (R : Ending → World → Prop) (h :
(∃ o1, w.cell? ⟨r, 0, none⟩ = some (.pointer o1) ∧
 Calls Tryz.prog 110 #[.pointer o1, .agg #[.int .u8 kind, .slice body body_n body_c]] w (fun e2 => fun w3 => ∃ x4, e2 = .returned (.int .i64 x4) ∧
((! (decide (x4 = 0))) = true →
 R (.returned (.int .i64 x4)) w3) ∧
((! (decide (x4 = 0))) = false →
 ∃ o7, w3.cell? ⟨r, 0, none⟩ = some (.pointer o7) ∧
 Calls Tryz.prog 68 #[.pointer o7] w3 (fun e8 => fun w9 => ∃ x10, e8 = .returned (.int .i64 x10) ∧
 R (.returned (.int .i64 x10)) w9))))) :
    Calls Tryz.prog 102 #[(.pointer (some ⟨r, 0, none⟩)), (.int .u8 kind), (.slice body body_n body_c)] w R :=
  calls_of_vc an102 Tryz.func102 rfl (by kernel_rfl) (by kernel_rfl) (Eq.mp (by kernel_rfl) h)

/-- samaritan/raftlog.New -/
def an61 : An := (.seq (.reg []) (.seq (.reg []) .nil))
set_option maxRecDepth 100000 in
theorem nf61  (w : World) (R : Ending → World → Prop) (h :
(∀ w1, w1 = w.alloc (.cells #[.slice none 0 0] 133 (0, 0)) →
 R (.returned (.pointer (some ⟨hs w, 0, none⟩))) w1)) :
    Calls Tryz.prog 61 #[] w R :=
  calls_of_vc an61 Tryz.func61 rfl (by kernel_rfl) (by kernel_rfl) (Eq.mp (by kernel_rfl) h)

/-- (*samaritan/raftlog.Log).Append -/
def an62 : An := (.seq (.reg []) (.seq (.seq (.reg [(1, 0, true)]) (.cond (.seq (.reg []) .nil) .nil)) (.seq (.seq (.reg []) (.seq (.reg [(3, 0, true)]) (.cond (.seq (.reg []) .nil) .nil))) (.seq (.regD [(8, 1, false)] [0, 1, 2, 3, 4, 5, 6, 7, 8, 9, 10, 11] [6, 7, 8, 11]) (.seq (.reg []) .nil)))))
set_option maxRecDepth 100000 in
theorem nf62 (l : Nat) (e_Term : Int) (e_Kind : Int) (e_Body : Option Addr) (e_Body_n : Nat) (e_Body_c : Nat) (w : World) (R : Ending → World → Prop) (h :
(∀ w1, w1 = w.alloc (.cells #[.int .i64 e_Term, .int .i64 e_Kind, .slice e_Body e_Body_n e_Body_c] 49 (0, 0)) →
 ∃ x3, w1.cell? ⟨hs w, 0, none⟩ = some (.int .i64 x3) ∧
 ∃ x4, w1.cell? ⟨hs w, 1, none⟩ = some (.int .i64 x4) ∧
 ∃ o5, ∃ n6, ∃ n7, w1.cell? ⟨hs w, 2, none⟩ = some (.slice o5 n6 n7) ∧
 Calls Tryz.prog 97 #[.agg #[.int .i64 x3, .int .i64 x4, .slice o5 n6 n7]] w1 (fun e8 => fun w9 => ∃ b10, e8 = .returned (.bool b10) ∧
(b10 = true →
 Calls Tryz.prog 49 #[.pointer (some ⟨l, 0, none⟩)] w9 (fun e12 => fun w13 => ∃ x14, ∃ x15, e12 = .returned (.tuple #[.int .i64 x14, .int .i64 x15]) ∧
 ∃ x16, w13.cell? ⟨hs w, 0, none⟩ = some (.int .i64 x16) ∧
(decide (x16 < x15) = true →
 R (.returned (.tuple #[.int .i64 0, .int .i64 8])) w13) ∧
(decide (x16 < x15) = false →
 ∀ w19, w19 = w13.drew →
 ∃ o21, ∃ n22, ∃ n23, w19.cell? ⟨l, 0, none⟩ = some (.slice o21 n22 n23) ∧
 ∃ x24, w19.cell? ⟨hs w, 0, none⟩ = some (.int .i64 x24) ∧
 ∃ x25, w19.cell? ⟨hs w, 1, none⟩ = some (.int .i64 x25) ∧
 ∃ o26, ∃ n27, ∃ n28, w19.cell? ⟨hs w, 2, none⟩ = some (.slice o26 n27 n28) ∧
 Calls Tryz.prog 82 #[.agg #[.int .i64 x24, .int .i64 x25, .slice o26 n27 n28]] w19 (fun e29 => fun w30 => ∃ x31, ∃ x32, ∃ o33, ∃ n34, ∃ n35, e29 = .returned (.agg #[.int .i64 x31, .int .i64 x32, .slice o33 n34 n35]) ∧
 Kept w19 w30 ⟨l, 0, none⟩ 1 ∧
 ∀ w36, w36 = w30.alloc (.cells #[.int .i64 x31, .int .i64 x32, .slice o33 n34 n35] 49 (0, 0)) →
 Kept w19 w36 ⟨l, 0, none⟩ 1 ∧
 RunOk Tryz.prog (Hold (Builtin.append_ #[43, 43] 43 #[.slice o21 n22 n23, .slice (some ⟨hs w30, 0, none⟩) 1 1])) w36 (fun v38 => fun w39 => ∃ o40, ∃ n41, ∃ n42, v38 = .slice o40 n41 n42 ∧
 There w39 ⟨l, 0, none⟩ 1 ∧
 ∀ w43, w43 = setCells w39 ⟨l, 0, none⟩ [.slice o40 n41 n42] 0 →
 ∃ o45, ∃ n46, ∃ n47, w43.cell? ⟨l, 0, none⟩ = some (.slice o45 n46 n47) ∧
 R (.returned (.tuple #[.int .i64 ((n46 : Nat) : Int), .int .i64 0])) w43))))) ∧
(b10 = false →
 R (.returned (.tuple #[.int .i64 0, .int .i64 1])) w9)))) :
    Calls Tryz.prog 62 #[(.pointer (some ⟨l, 0, none⟩)), (.agg #[(.int .i64 e_Term), (.int .i64 e_Kind), (.slice e_Body e_Body_n e_Body_c)])] w R :=
  calls_of_vc an62 Tryz.func62 rfl (by kernel_rfl) (by kernel_rfl) (Eq.mp (by kernel_rfl) h)

/-- (*samaritan/raftlog.Log).Get -/
def an46 : An := (.seq (.reg []) (.seq (.seq (.reg [(1, 0, true), (9, 0, true)]) (.cond (.seq (.reg []) .nil) .nil)) (.seq (.reg []) .nil)))
set_option maxRecDepth 100000 in
theorem nf46 (l : Nat) (n : Int) (w : World) (R : Ending → World → Prop) (h :
(∀ w1, w1 = w.alloc (.cells #[.int .i64 0, .int .i64 0, .slice none 0 0] 49 (0, 0)) →
(decide (n < 1) = true →
 There w1 ⟨hs w, 0, none⟩ 3 ∧
 ∀ w4, w4 = setCells w1 ⟨hs w, 0, none⟩ [.int .i64 0, .int .i64 0, .slice none 0 0] 0 →
 ∃ x6, w4.cell? ⟨hs w, 0, none⟩ = some (.int .i64 x6) ∧
 ∃ x7, w4.cell? ⟨hs w, 1, none⟩ = some (.int .i64 x7) ∧
 ∃ o8, ∃ n9, ∃ n10, w4.cell? ⟨hs w, 2, none⟩ = some (.slice o8 n9 n10) ∧
 R (.returned (.tuple #[.agg #[.int .i64 x6, .int .i64 x7, .slice o8 n9 n10], .bool false])) w4) ∧
(decide (n < 1) = false →
 ∃ o12, ∃ n13, ∃ n14, w1.cell? ⟨l, 0, none⟩ = some (.slice o12 n13 n14) ∧
(decide (n > ((n13 : Nat) : Int)) = true →
 There w1 ⟨hs w, 0, none⟩ 3 ∧
 ∀ w16, w16 = setCells w1 ⟨hs w, 0, none⟩ [.int .i64 0, .int .i64 0, .slice none 0 0] 0 →
 ∃ x18, w16.cell? ⟨hs w, 0, none⟩ = some (.int .i64 x18) ∧
 ∃ x19, w16.cell? ⟨hs w, 1, none⟩ = some (.int .i64 x19) ∧
 ∃ o20, ∃ n21, ∃ n22, w16.cell? ⟨hs w, 2, none⟩ = some (.slice o20 n21 n22) ∧
 R (.returned (.tuple #[.agg #[.int .i64 x18, .int .i64 x19, .slice o20 n21 n22], .bool false])) w16) ∧
(decide (n > ((n13 : Nat) : Int)) = false →
 ∃ o24, ∃ n25, ∃ n26, w1.cell? ⟨l, 0, none⟩ = some (.slice o24 n25 n26) ∧
 ∃ a27 : Addr, o24 = some a27 ∧
((0 : Int) ≤ IntKind.wrap .i64 (n - 1) ∧
 IntKind.wrap .i64 (n - 1) < ((n25 : Nat) : Int)) ∧
 ∃ x28, w1.cell? (Addr.add a27 ((IntKind.wrap .i64 (n - 1)).toNat * 3)) = some (.int .i64 x28) ∧
 ∃ x29, w1.cell? (Addr.add (Addr.add a27 ((IntKind.wrap .i64 (n - 1)).toNat * 3)) 1) = some (.int .i64 x29) ∧
 ∃ o30, ∃ n31, ∃ n32, w1.cell? (Addr.add (Addr.add a27 ((IntKind.wrap .i64 (n - 1)).toNat * 3)) 2) = some (.slice o30 n31 n32) ∧
 Calls Tryz.prog 82 #[.agg #[.int .i64 x28, .int .i64 x29, .slice o30 n31 n32]] w1 (fun e33 => fun w34 => ∃ x35, ∃ x36, ∃ o37, ∃ n38, ∃ n39, e33 = .returned (.agg #[.int .i64 x35, .int .i64 x36, .slice o37 n38 n39]) ∧
 There w34 ⟨hs w, 0, none⟩ 3 ∧
 ∀ w40, w40 = setCells w34 ⟨hs w, 0, none⟩ [.int .i64 x35, .int .i64 x36, .slice o37 n38 n39] 0 →
 ∃ x42, w40.cell? ⟨hs w, 0, none⟩ = some (.int .i64 x42) ∧
 ∃ x43, w40.cell? ⟨hs w, 1, none⟩ = some (.int .i64 x43) ∧
 ∃ o44, ∃ n45, ∃ n46, w40.cell? ⟨hs w, 2, none⟩ = some (.slice o44 n45 n46) ∧
 R (.returned (.tuple #[.agg #[.int .i64 x42, .int .i64 x43, .slice o44 n45 n46], .bool true])) w40))))) :
    Calls Tryz.prog 46 #[(.pointer (some ⟨l, 0, none⟩)), (.int .i64 n)] w R :=
  calls_of_vc an46 Tryz.func46 rfl (by kernel_rfl) (by kernel_rfl) (Eq.mp (by kernel_rfl) h)

/-- (*samaritan/raftlog.Log).Last -/
def an49 : An := (.seq (.reg []) (.seq (.reg []) (.seq (.seq (.reg [(1, 0, true)]) (.cond (.seq (.reg []) .nil) .nil)) (.seq (.regD [] [0, 1, 2, 3, 4, 5, 6, 7, 8, 9, 10, 11] []) .nil))))
set_option maxRecDepth 100000 in
theorem nf49 (l : Nat) (w : World) (R : Ending → World → Prop) (h :
(∃ o1, ∃ n2, ∃ n3, w.cell? ⟨l, 0, none⟩ = some (.slice o1 n2 n3) ∧
(decide (((n2 : Nat) : Int) = 0) = true →
 R (.returned (.tuple #[.int .i64 0, .int .i64 0])) w) ∧
(decide (((n2 : Nat) : Int) = 0) = false →
 ∀ w6, w6 = w.drew →
 ∃ o8, ∃ n9, ∃ n10, w6.cell? ⟨l, 0, none⟩ = some (.slice o8 n9 n10) ∧
 ∃ a11 : Addr, o8 = some a11 ∧
((0 : Int) ≤ IntKind.wrap .i64 (((n2 : Nat) : Int) - 1) ∧
 IntKind.wrap .i64 (((n2 : Nat) : Int) - 1) < ((n9 : Nat) : Int)) ∧
 ∃ x12, w6.cell? (Addr.add a11 ((IntKind.wrap .i64 (((n2 : Nat) : Int) - 1)).toNat * 3)) = some (.int .i64 x12) ∧
 R (.returned (.tuple #[.int .i64 ((n2 : Nat) : Int), .int .i64 x12])) w6))) :
    Calls Tryz.prog 49 #[(.pointer (some ⟨l, 0, none⟩))] w R :=
  calls_of_vc an49 Tryz.func49 rfl (by kernel_rfl) (by kernel_rfl) (Eq.mp (by kernel_rfl) h)

/-- samaritan/raftlog.Encode -/
def an72 : An := (.seq (.reg []) (.seq (.seq (.reg [(1, 0, true)]) (.cond (.seq (.reg []) .nil) .nil)) (.seq (.reg []) (.seq (.reg []) (.seq (.reg []) (.seq (.reg []) (.seq (.reg []) .nil)))))))
set_option maxRecDepth 100000 in
theorem nf72 (e_Term : Int) (e_Kind : Int) (e_Body : Option Addr) (e_Body_n : Nat) (e_Body_c : Nat) (w : World) (R : Ending → World → Prop) (h :
(∀ w1, w1 = w.alloc (.cells #[.int .i64 e_Term, .int .i64 e_Kind, .slice e_Body e_Body_n e_Body_c] 49 (0, 0)) →
 ∃ x3, w1.cell? ⟨hs w, 0, none⟩ = some (.int .i64 x3) ∧
 ∃ x4, w1.cell? ⟨hs w, 1, none⟩ = some (.int .i64 x4) ∧
 ∃ o5, ∃ n6, ∃ n7, w1.cell? ⟨hs w, 2, none⟩ = some (.slice o5 n6 n7) ∧
 Calls Tryz.prog 97 #[.agg #[.int .i64 x3, .int .i64 x4, .slice o5 n6 n7]] w1 (fun e8 => fun w9 => ∃ b10, e8 = .returned (.bool b10) ∧
(b10 = true →
 ∀ w12, w12 = w9.alloc (.cells #[.slice none 0 0] 137 (0, 0)) →
 ∃ x14, w12.cell? ⟨hs w, 0, none⟩ = some (.int .i64 x14) ∧
 Calls Tryz.prog 101 #[.pointer (some ⟨hs w9, 0, none⟩), .int .i64 x14] w12 (fun e15 => fun w16 => e15 = .returned (.tuple #[]) ∧
 ∃ x17, w16.cell? ⟨hs w, 1, none⟩ = some (.int .i64 x17) ∧
 Calls Tryz.prog 101 #[.pointer (some ⟨hs w9, 0, none⟩), .int .i64 x17] w16 (fun e18 => fun w19 => e18 = .returned (.tuple #[]) ∧
 ∃ o20, ∃ n21, ∃ n22, w19.cell? ⟨hs w, 2, none⟩ = some (.slice o20 n21 n22) ∧
 Calls Tryz.prog 106 #[.pointer (some ⟨hs w9, 0, none⟩), .slice o20 n21 n22] w19 (fun e23 => fun w24 => e23 = .returned (.tuple #[]) ∧
 Calls Tryz.prog 85 #[.pointer (some ⟨hs w9, 0, none⟩)] w24 (fun e25 => fun w26 => ∃ o27, ∃ n28, ∃ n29, e25 = .returned (.slice o27 n28 n29) ∧
 R (.returned (.slice o27 n28 n29)) w26))))) ∧
(b10 = false →
 R (.returned (.slice none 0 0)) w9)))) :
    Calls Tryz.prog 72 #[(.agg #[(.int .i64 e_Term), (.int .i64 e_Kind), (.slice e_Body e_Body_n e_Body_c)])] w R :=
  calls_of_vc an72 Tryz.func72 rfl (by kernel_rfl) (by kernel_rfl) (Eq.mp (by kernel_rfl) h)

/-- (*samaritan/raftlog.Log).UpToDate -/
def an75 : An := (.seq (.reg []) (.seq (.reg []) (.seq (.reg [(2, 0, true), (6, 0, true), (10, 0, true)]) .nil)))
set_option maxRecDepth 100000 in
theorem nf75 (l : Nat) (last : Int) (term : Int) (w : World) (R : Ending → World → Prop) (h :
(Calls Tryz.prog 49 #[.pointer (some ⟨l, 0, none⟩)] w (fun e1 => fun w2 => ∃ x3, ∃ x4, e1 = .returned (.tuple #[.int .i64 x3, .int .i64 x4]) ∧
(decide (term > x4) = true →
 R (.returned (.bool true)) w2) ∧
(decide (term > x4) = false →
(decide (term = x4) = true →
(decide (last ≥ x3) = true →
 R (.returned (.bool true)) w2) ∧
(decide (last ≥ x3) = false →
 R (.returned (.bool false)) w2)) ∧
(decide (term = x4) = false →
 R (.returned (.bool false)) w2))))) :
    Calls Tryz.prog 75 #[(.pointer (some ⟨l, 0, none⟩)), (.int .i64 last), (.int .i64 term)] w R :=
  calls_of_vc an75 Tryz.func75 rfl (by kernel_rfl) (by kernel_rfl) (Eq.mp (by kernel_rfl) h)

/-- samaritan/raftlog.clone -/
def an82 : An := (.seq (.reg []) (.seq (.regD [(6, 1, false)] [0, 1, 2, 3, 4, 5, 6, 7, 8] [6, 8]) .nil))
set_option maxRecDepth 100000 in
theorem nf82 (e_Term : Int) (e_Kind : Int) (e_Body : Option Addr) (e_Body_n : Nat) (e_Body_c : Nat) (w : World) (R : Ending → World → Prop) (h :
(∀ w1, w1 = w.alloc (.cells #[.int .i64 e_Term, .int .i64 e_Kind, .slice e_Body e_Body_n e_Body_c] 49 (0, 0)) →
 ∀ w3, w3 = w1.alloc (.cells #[.int .i64 0, .int .i64 0, .slice none 0 0] 49 (0, 0)) →
 ∀ w5, w5 = w3.drew →
 ∃ x7, w5.cell? ⟨hs w, 0, none⟩ = some (.int .i64 x7) ∧
 ∃ x8, w5.cell? ⟨hs w, 1, none⟩ = some (.int .i64 x8) ∧
 ∃ o9, ∃ n10, ∃ n11, w5.cell? ⟨hs w, 2, none⟩ = some (.slice o9 n10 n11) ∧
 RunOk Tryz.prog (Hold (Builtin.append_ #[42, 42] 42 #[.slice none 0 0, .slice o9 n10 n11])) w5 (fun v12 => fun w13 => ∃ o14, ∃ n15, ∃ n16, v12 = .slice o14 n15 n16 ∧
 Kept w5 w13 ⟨hs w, 1, none⟩ 1 ∧
 Kept w5 w13 ⟨hs w, 0, none⟩ 1 ∧
 There w13 ⟨hs w1, 0, none⟩ 3 ∧
 ∀ w17, w17 = setCells w13 ⟨hs w1, 0, none⟩ [.int .i64 x7, .int .i64 x8, .slice o14 n15 n16] 0 →
 ∃ x19, w17.cell? ⟨hs w1, 0, none⟩ = some (.int .i64 x19) ∧
 ∃ x20, w17.cell? ⟨hs w1, 1, none⟩ = some (.int .i64 x20) ∧
 ∃ o21, ∃ n22, ∃ n23, w17.cell? ⟨hs w1, 2, none⟩ = some (.slice o21 n22 n23) ∧
 R (.returned (.agg #[.int .i64 x19, .int .i64 x20, .slice o21 n22 n23])) w17))) :
    Calls Tryz.prog 82 #[(.agg #[(.int .i64 e_Term), (.int .i64 e_Kind), (.slice e_Body e_Body_n e_Body_c)])] w R :=
  calls_of_vc an82 Tryz.func82 rfl (by kernel_rfl) (by kernel_rfl) (Eq.mp (by kernel_rfl) h)

/-- samaritan/raftlog.validEntry -/
def an97 : An := (.seq (.reg []) (.seq (.reg [(2, 0, true), (6, 0, true), (11, 0, true), (16, 0, true), (22, 0, true)]) .nil))
set_option maxRecDepth 100000 in
theorem nf97 (e_Term : Int) (e_Kind : Int) (e_Body : Option Addr) (e_Body_n : Nat) (e_Body_c : Nat) (w : World) (R : Ending → World → Prop) (h :
(∀ w1, w1 = w.alloc (.cells #[.int .i64 e_Term, .int .i64 e_Kind, .slice e_Body e_Body_n e_Body_c] 49 (0, 0)) →
 ∃ x3, w1.cell? ⟨hs w, 0, none⟩ = some (.int .i64 x3) ∧
(decide (x3 ≥ 1) = true →
 ∃ x5, w1.cell? ⟨hs w, 0, none⟩ = some (.int .i64 x5) ∧
(decide (x5 ≤ 1099511627776) = true →
 ∃ x7, w1.cell? ⟨hs w, 1, none⟩ = some (.int .i64 x7) ∧
(decide (x7 ≥ 1) = true →
 ∃ x9, w1.cell? ⟨hs w, 1, none⟩ = some (.int .i64 x9) ∧
(decide (x9 ≤ 3) = true →
 ∃ o11, ∃ n12, ∃ n13, w1.cell? ⟨hs w, 2, none⟩ = some (.slice o11 n12 n13) ∧
(decide (((n12 : Nat) : Int) ≤ 8192) = true →
 R (.returned (.bool true)) w1) ∧
(decide (((n12 : Nat) : Int) ≤ 8192) = false →
 R (.returned (.bool false)) w1)) ∧
(decide (x9 ≤ 3) = false →
 R (.returned (.bool false)) w1)) ∧
(decide (x7 ≥ 1) = false →
 R (.returned (.bool false)) w1)) ∧
(decide (x5 ≤ 1099511627776) = false →
 R (.returned (.bool false)) w1)) ∧
(decide (x3 ≥ 1) = false →
 R (.returned (.bool false)) w1))) :
    Calls Tryz.prog 97 #[(.agg #[(.int .i64 e_Term), (.int .i64 e_Kind), (.slice e_Body e_Body_n e_Body_c)])] w R :=
  calls_of_vc an97 Tryz.func97 rfl (by kernel_rfl) (by kernel_rfl) (Eq.mp (by kernel_rfl) h)

/-- (*samaritan/raftlog.Log).Term -/
def an99 : An := (.seq (.reg []) (.seq (.seq (.reg [(1, 0, true), (9, 0, true)]) (.cond (.seq (.reg []) .nil) .nil)) (.seq (.seq (.reg [(1, 0, true)]) (.cond (.seq (.reg []) .nil) .nil)) (.seq (.reg []) .nil))))
set_option maxRecDepth 100000 in
theorem nf99 (l : Nat) (n : Int) (w : World) (R : Ending → World → Prop) (h :
((decide (n < 0) = true →
 R (.returned (.tuple #[.int .i64 0, .bool false])) w) ∧
(decide (n < 0) = false →
 ∃ o3, ∃ n4, ∃ n5, w.cell? ⟨l, 0, none⟩ = some (.slice o3 n4 n5) ∧
(decide (n > ((n4 : Nat) : Int)) = true →
 R (.returned (.tuple #[.int .i64 0, .bool false])) w) ∧
(decide (n > ((n4 : Nat) : Int)) = false →
(decide (n = 0) = true →
 R (.returned (.tuple #[.int .i64 0, .bool true])) w) ∧
(decide (n = 0) = false →
 ∃ o10, ∃ n11, ∃ n12, w.cell? ⟨l, 0, none⟩ = some (.slice o10 n11 n12) ∧
 ∃ a13 : Addr, o10 = some a13 ∧
((0 : Int) ≤ IntKind.wrap .i64 (n - 1) ∧
 IntKind.wrap .i64 (n - 1) < ((n11 : Nat) : Int)) ∧
 ∃ x14, w.cell? (Addr.add a13 ((IntKind.wrap .i64 (n - 1)).toNat * 3)) = some (.int .i64 x14) ∧
 R (.returned (.tuple #[.int .i64 x14, .bool true])) w))))) :
    Calls Tryz.prog 99 #[(.pointer (some ⟨l, 0, none⟩)), (.int .i64 n)] w R :=
  calls_of_vc an99 Tryz.func99 rfl (by kernel_rfl) (by kernel_rfl) (Eq.mp (by kernel_rfl) h)

/-- (*samaritan/raftlog.Log).Slice -/
def an100 : An := (.seq (.reg []) (.seq (.reg []) (.seq (.seq (.reg [(1, 0, true), (9, 0, true)]) (.cond (.seq (.reg []) .nil) .nil)) (.seq (.reg [(6, 2, false)]) (.seq (.reg [(5, 2, false)]) (.seq (.reg [(2, 1, false)]) (.seq (.seq (.reg []) (.blk (.loop [(42, .int .i64)] (.seq (.reg [(0, 0, true)]) (.seq (.cond .nil .nil) (.seq (.blk (.seq (.reg []) (.reg []))) (.reg []))))))) (.seq (.reg []) .nil))))))))
set_option maxRecDepth 100000 in
theorem nf100 (l : Nat) (n : Int) (most : Int) (w : World) (R : Ending → World → Prop) (h :
((decide (most < 1) = true →
 R (.returned (.slice none 0 0)) w) ∧
(decide (most < 1) = false →
 ∃ o3, ∃ n4, ∃ n5, w.cell? ⟨l, 0, none⟩ = some (.slice o3 n4 n5) ∧
(decide ((if (n < 1) then 1 else n) > ((n4 : Nat) : Int)) = true →
 R (.returned (.slice none 0 0)) w) ∧
(decide ((if (n < 1) then 1 else n) > ((n4 : Nat) : Int)) = false →
 ∃ o8, ∃ n9, ∃ n10, w.cell? ⟨l, 0, none⟩ = some (.slice o8 n9 n10) ∧
((0 : Int) ≤ IntKind.wrap .i64 ((if (n < 1) then 1 else n) - 1) ∧
 IntKind.wrap .i64 ((if (n < 1) then 1 else n) - 1) ≤ ((n9 : Nat) : Int)) ∧
((0 : Int) ≤ (if ((((n9 - (IntKind.wrap .i64 ((if (n < 1) then 1 else n) - 1)).toNat) : Nat) : Int) < most) then (((n9 - (IntKind.wrap .i64 ((if (n < 1) then 1 else n) - 1)).toNat) : Nat) : Int) else most) ∧
(if ((((n9 - (IntKind.wrap .i64 ((if (n < 1) then 1 else n) - 1)).toNat) : Nat) : Int) < most) then (((n9 - (IntKind.wrap .i64 ((if (n < 1) then 1 else n) - 1)).toNat) : Nat) : Int) else most) ≤ (((n10 - (IntKind.wrap .i64 ((if (n < 1) then 1 else n) - 1)).toNat) : Nat) : Int)) ∧
 RunOk Tryz.prog (Hold (Instr.makeSlice 43 (.int .i64 ((((if ((((n9 - (IntKind.wrap .i64 ((if (n < 1) then 1 else n) - 1)).toNat) : Nat) : Int) < most) then (((n9 - (IntKind.wrap .i64 ((if (n < 1) then 1 else n) - 1)).toNat) : Nat) : Int) else most).toNat - 0) : Nat) : Int)) (.int .i64 ((((if ((((n9 - (IntKind.wrap .i64 ((if (n < 1) then 1 else n) - 1)).toNat) : Nat) : Int) < most) then (((n9 - (IntKind.wrap .i64 ((if (n < 1) then 1 else n) - 1)).toNat) : Nat) : Int) else most).toNat - 0) : Nat) : Int)))) w (fun v11 => fun w12 => ∃ o13, ∃ n14, ∃ n15, v11 = .slice o13 n14 n15 ∧
 ∃ k16 : (Nat →
 Int →
 World →
 Prop), (∃ n17, k16 n17 0 w12) ∧
 ∀ n18 : Nat, (Nat →
 Value) →
 ∀ w20 : World, ∀ x21 : Int, k16 n18 x21 w20 →
(decide (x21 < ((((if ((((n9 - (IntKind.wrap .i64 ((if (n < 1) then 1 else n) - 1)).toNat) : Nat) : Int) < most) then (((n9 - (IntKind.wrap .i64 ((if (n < 1) then 1 else n) - 1)).toNat) : Nat) : Int) else most).toNat - 0) : Nat) : Int)) = true →
 ∃ a24 : Addr, (if (n10 - (IntKind.wrap .i64 ((if (n < 1) then 1 else n) - 1)).toNat = 0) then (if (n10 = (IntKind.wrap .i64 ((if (n < 1) then 1 else n) - 1)).toNat) then o8 else (Option.map (fun (x : Addr) => Addr.add x ((IntKind.wrap .i64 ((if (n < 1) then 1 else n) - 1)).toNat * 3)) o8)) else (Option.map (fun (x : Addr) => x) (if (n10 = (IntKind.wrap .i64 ((if (n < 1) then 1 else n) - 1)).toNat) then o8 else (Option.map (fun (x : Addr) => Addr.add x ((IntKind.wrap .i64 ((if (n < 1) then 1 else n) - 1)).toNat * 3)) o8)))) = some a24 ∧
((0 : Int) ≤ x21 ∧
 x21 < ((((if ((((n9 - (IntKind.wrap .i64 ((if (n < 1) then 1 else n) - 1)).toNat) : Nat) : Int) < most) then (((n9 - (IntKind.wrap .i64 ((if (n < 1) then 1 else n) - 1)).toNat) : Nat) : Int) else most).toNat - 0) : Nat) : Int)) ∧
 ∃ x25, w20.cell? (Addr.add a24 ((x21).toNat * 3)) = some (.int .i64 x25) ∧
 ∃ x26, w20.cell? (Addr.add (Addr.add a24 ((x21).toNat * 3)) 1) = some (.int .i64 x26) ∧
 ∃ o27, ∃ n28, ∃ n29, w20.cell? (Addr.add (Addr.add a24 ((x21).toNat * 3)) 2) = some (.slice o27 n28 n29) ∧
 ∀ w30, w30 = w20.alloc (.cells #[.int .i64 0, .int .i64 0, .slice none 0 0] 49 (0, 0)) →
 There w30 ⟨hs w20, 0, none⟩ 3 ∧
 ∀ w32, w32 = setCells w30 ⟨hs w20, 0, none⟩ [.int .i64 x25, .int .i64 x26, .slice o27 n28 n29] 0 →
 ∃ x34, w32.cell? ⟨hs w20, 0, none⟩ = some (.int .i64 x34) ∧
 ∃ x35, w32.cell? ⟨hs w20, 1, none⟩ = some (.int .i64 x35) ∧
 ∃ o36, ∃ n37, ∃ n38, w32.cell? ⟨hs w20, 2, none⟩ = some (.slice o36 n37 n38) ∧
 Calls Tryz.prog 82 #[.agg #[.int .i64 x34, .int .i64 x35, .slice o36 n37 n38]] w32 (fun e39 => fun w40 => ∃ x41, ∃ x42, ∃ o43, ∃ n44, ∃ n45, e39 = .returned (.agg #[.int .i64 x41, .int .i64 x42, .slice o43 n44 n45]) ∧
 ∃ a46 : Addr, o13 = some a46 ∧
((0 : Int) ≤ x21 ∧
 x21 < ((n14 : Nat) : Int)) ∧
 There w40 (Addr.add a46 ((x21).toNat * 3)) 3 ∧
 ∀ w47, w47 = setCells w40 (Addr.add a46 ((x21).toNat * 3)) [.int .i64 x41, .int .i64 x42, .slice o43 n44 n45] 0 →
 ∃ n49, n49 < n18 ∧
 k16 n49 (IntKind.wrap .i64 (x21 + 1)) w47)) ∧
(decide (x21 < ((((if ((((n9 - (IntKind.wrap .i64 ((if (n < 1) then 1 else n) - 1)).toNat) : Nat) : Int) < most) then (((n9 - (IntKind.wrap .i64 ((if (n < 1) then 1 else n) - 1)).toNat) : Nat) : Int) else most).toNat - 0) : Nat) : Int)) = false →
 R (.returned (.slice o13 n14 n15)) w20)))))) :
    Calls Tryz.prog 100 #[(.pointer (some ⟨l, 0, none⟩)), (.int .i64 n), (.int .i64 most)] w R :=
  calls_of_vc an100 Tryz.func100 rfl (by kernel_rfl) (by kernel_rfl) (Eq.mp (by kernel_rfl) h)

/-- (*samaritan/raftlog.Log).AppendAfter -/
def an111 : An := (.seq (.reg []) (.seq (.seq (.reg [(1, 0, true), (4, 0, true)]) (.cond (.seq (.reg []) .nil) .nil)) (.seq (.reg []) (.seq (.seq (.reg []) (.blk (.loop [(10, .int .i64), (28, .int .i64)] (.seq (.reg [(0, 0, true)]) (.seq (.cond .nil .nil) (.seq (.blk (.seq (.reg []) (.seq (.seq (.reg [(4, 0, true), (13, 0, true)]) (.cond (.seq (.reg []) .nil) .nil)) (.reg [])))) (.reg []))))))) (.seq (.seq (.reg [(5, 0, true)]) (.seq (.reg [(5, 0, true)]) (.cond (.seq (.reg []) .nil) .nil))) (.seq (.reg []) (.cut [] (.seq (.reg []) (.blk (.loop [(68, .int .i64)] (.seq (.reg [(0, 0, true)]) (.seq (.cond .nil .nil) (.seq (.blk (.seq (.reg []) (.seq (.reg []) (.seq (.seq (.regD [(6, 0, true), (19, 0, true)] [0, 1, 2, 3, 4, 5, 6, 7, 8, 9, 10, 11, 12, 13, 14, 15, 16, 17, 18, 19, 20] [19]) (.cond .nil .nil)) (.seq (.reg [(5, 2, false), (6, 1, false)]) (.seq (.reg [(6, 2, false)]) (.seq (.seq (.reg [(2, 2, false)]) (.blk (.loop [(114, .int .i64)] (.seq (.reg [(0, 0, true)]) (.seq (.cond .nil .nil) (.seq (.blk (.seq (.reg []) (.regD [(8, 1, false)] [0, 1, 2, 3, 4, 5, 6, 7, 8, 9, 10, 11] [6, 7, 8, 11]))) (.reg []))))))) .nil))))))) (.reg []))))))) (.seq (.reg []) .nil))))))))
set_option maxRecDepth 100000 in
theorem nf111 (l : Nat) (prev : Int) (term : Int) (e : Option Addr) (e_n : Nat) (e_c : Nat) (w : World) (R : Ending → World → Prop) (h :
((decide (prev < 0) = true →
 R (.returned (.tuple #[.bool false, .int .i64 1])) w) ∧
(decide (prev < 0) = false →
(decide (term < 0) = true →
 R (.returned (.tuple #[.bool false, .int .i64 1])) w) ∧
(decide (term < 0) = false →
 ∃ k5 : (Nat →
 Int →
 Int →
 World →
 Prop), (∃ n6, k5 n6 term 0 w) ∧
 ∀ n7 : Nat, (Nat →
 Value) →
 ∀ w9 : World, ∀ x10 : Int, ∀ x11 : Int, k5 n7 x10 x11 w9 →
(decide (x11 < ((e_n : Nat) : Int)) = true →
 ∃ a14 : Addr, e = some a14 ∧
((0 : Int) ≤ x11 ∧
 x11 < ((e_n : Nat) : Int)) ∧
 ∃ x15, w9.cell? (Addr.add a14 ((x11).toNat * 3)) = some (.int .i64 x15) ∧
 ∃ x16, w9.cell? (Addr.add (Addr.add a14 ((x11).toNat * 3)) 1) = some (.int .i64 x16) ∧
 ∃ o17, ∃ n18, ∃ n19, w9.cell? (Addr.add (Addr.add a14 ((x11).toNat * 3)) 2) = some (.slice o17 n18 n19) ∧
 Calls Tryz.prog 97 #[.agg #[.int .i64 x15, .int .i64 x16, .slice o17 n18 n19]] w9 (fun e20 => fun w21 => ∃ b22, e20 = .returned (.bool b22) ∧
(b22 = true →
 ∃ a24 : Addr, e = some a24 ∧
((0 : Int) ≤ x11 ∧
 x11 < ((e_n : Nat) : Int)) ∧
 ∃ x25, w21.cell? (Addr.add a24 ((x11).toNat * 3)) = some (.int .i64 x25) ∧
(decide (x25 < x10) = true →
 R (.returned (.tuple #[.bool false, .int .i64 1])) w21) ∧
(decide (x25 < x10) = false →
 ∃ a28 : Addr, e = some a28 ∧
((0 : Int) ≤ x11 ∧
 x11 < ((e_n : Nat) : Int)) ∧
 ∃ x29, w21.cell? (Addr.add a28 ((x11).toNat * 3)) = some (.int .i64 x29) ∧
 ∃ n30, n30 < n7 ∧
 k5 n30 x29 (IntKind.wrap .i64 (x11 + 1)) w21)) ∧
(b22 = false →
 R (.returned (.tuple #[.bool false, .int .i64 1])) w21))) ∧
(decide (x11 < ((e_n : Nat) : Int)) = false →
 Calls Tryz.prog 99 #[.pointer (some ⟨l, 0, none⟩), .int .i64 prev] w9 (fun e33 => fun w34 => ∃ x35, ∃ b36, e33 = .returned (.tuple #[.int .i64 x35, .bool b36]) ∧
(b36 = true →
((! (decide (x35 = term))) = true →
 R (.returned (.tuple #[.bool false, .int .i64 0])) w34) ∧
((! (decide (x35 = term))) = false →
 ∀ k40 : (World →
 Prop), (∀ w42 : World, ((Nat →
 Value) →
 R (.returned (.tuple #[.bool true, .int .i64 0])) w42) →
 k40 w42) →
 ∃ k45 : (Nat →
 Int →
 World →
 Prop), (∃ n46, k45 n46 0 w34) ∧
 ∀ n47 : Nat, (Nat →
 Value) →
 ∀ w49 : World, ∀ x50 : Int, k45 n47 x50 w49 →
(decide (x50 < ((e_n : Nat) : Int)) = true →
 ∀ w53, w53 = w49.drew →
 ∃ o55, ∃ n56, ∃ n57, w53.cell? ⟨l, 0, none⟩ = some (.slice o55 n56 n57) ∧
(decide (IntKind.wrap .i64 (prev + x50) < ((n56 : Nat) : Int)) = true →
 ∃ o59, ∃ n60, ∃ n61, w53.cell? ⟨l, 0, none⟩ = some (.slice o59 n60 n61) ∧
 ∃ a62 : Addr, o59 = some a62 ∧
((0 : Int) ≤ IntKind.wrap .i64 (prev + x50) ∧
 IntKind.wrap .i64 (prev + x50) < ((n60 : Nat) : Int)) ∧
 ∃ x63, w53.cell? (Addr.add a62 ((IntKind.wrap .i64 (prev + x50)).toNat * 3)) = some (.int .i64 x63) ∧
 ∃ x64, w53.cell? (Addr.add (Addr.add a62 ((IntKind.wrap .i64 (prev + x50)).toNat * 3)) 1) = some (.int .i64 x64) ∧
 ∃ o65, ∃ n66, ∃ n67, w53.cell? (Addr.add (Addr.add a62 ((IntKind.wrap .i64 (prev + x50)).toNat * 3)) 2) = some (.slice o65 n66 n67) ∧
 ∃ a68 : Addr, e = some a68 ∧
((0 : Int) ≤ x50 ∧
 x50 < ((e_n : Nat) : Int)) ∧
 ∃ x69, w53.cell? (Addr.add a68 ((x50).toNat * 3)) = some (.int .i64 x69) ∧
 ∃ x70, w53.cell? (Addr.add (Addr.add a68 ((x50).toNat * 3)) 1) = some (.int .i64 x70) ∧
 ∃ o71, ∃ n72, ∃ n73, w53.cell? (Addr.add (Addr.add a68 ((x50).toNat * 3)) 2) = some (.slice o71 n72 n73) ∧
 Calls Tryz.prog 125 #[.agg #[.int .i64 x63, .int .i64 x64, .slice o65 n66 n67], .agg #[.int .i64 x69, .int .i64 x70, .slice o71 n72 n73]] w53 (fun e74 => fun w75 => ∃ b76, e74 = .returned (.bool b76) ∧
(b76 = true →
 ∃ n78, n78 < n47 ∧
 k45 n78 (IntKind.wrap .i64 (x50 + 1)) w75) ∧
(b76 = false →
 ∃ o80, ∃ n81, ∃ n82, w75.cell? ⟨l, 0, none⟩ = some (.slice o80 n81 n82) ∧
((0 : Int) ≤ IntKind.wrap .i64 (prev + x50) ∧
 IntKind.wrap .i64 (prev + x50) ≤ ((n81 : Nat) : Int)) ∧
 RunOk Tryz.prog (Hold (Builtin.clear_ #[43] 0 #[.slice (if (n82 = (IntKind.wrap .i64 (prev + x50)).toNat) then o80 else (Option.map (fun (x : Addr) => Addr.add x ((IntKind.wrap .i64 (prev + x50)).toNat * 3)) o80)) (n81 - (IntKind.wrap .i64 (prev + x50)).toNat) (n82 - (IntKind.wrap .i64 (prev + x50)).toNat)])) w75 (fun v83 => fun w84 => ∃ v85 : Value, v83 = v85 ∧
 ∃ o86, ∃ n87, ∃ n88, w84.cell? ⟨l, 0, none⟩ = some (.slice o86 n87 n88) ∧
((0 : Int) ≤ IntKind.wrap .i64 (prev + x50) ∧
 IntKind.wrap .i64 (prev + x50) ≤ ((n88 : Nat) : Int)) ∧
 There w84 ⟨l, 0, none⟩ 1 ∧
 ∀ w89, w89 = setCells w84 ⟨l, 0, none⟩ [.slice (if (n88 = 0) then o86 else (Option.map (fun (x : Addr) => x) o86)) ((IntKind.wrap .i64 (prev + x50)).toNat - 0) (n88 - 0)] 0 →
((0 : Int) ≤ x50 ∧
 x50 ≤ ((e_n : Nat) : Int)) ∧
 ∃ k91 : (Nat →
 Int →
 World →
 Prop), (∃ n92, k91 n92 0 w89) ∧
 ∀ n93 : Nat, (Nat →
 Value) →
 ∀ w95 : World, ∀ x96 : Int, k91 n93 x96 w95 →
(decide (x96 < (((e_n - (x50).toNat) : Nat) : Int)) = true →
 ∃ a99 : Addr, (if (e_c = (x50).toNat) then e else (Option.map (fun (x : Addr) => Addr.add x ((x50).toNat * 3)) e)) = some a99 ∧
((0 : Int) ≤ x96 ∧
 x96 < (((e_n - (x50).toNat) : Nat) : Int)) ∧
 ∃ x100, w95.cell? (Addr.add a99 ((x96).toNat * 3)) = some (.int .i64 x100) ∧
 ∃ x101, w95.cell? (Addr.add (Addr.add a99 ((x96).toNat * 3)) 1) = some (.int .i64 x101) ∧
 ∃ o102, ∃ n103, ∃ n104, w95.cell? (Addr.add (Addr.add a99 ((x96).toNat * 3)) 2) = some (.slice o102 n103 n104) ∧
 ∀ w105, w105 = w95.alloc (.cells #[.int .i64 0, .int .i64 0, .slice none 0 0] 49 (0, 0)) →
 There w105 ⟨hs w95, 0, none⟩ 3 ∧
 ∀ w107, w107 = setCells w105 ⟨hs w95, 0, none⟩ [.int .i64 x100, .int .i64 x101, .slice o102 n103 n104] 0 →
 ∀ w109, w109 = w107.drew →
 ∃ o111, ∃ n112, ∃ n113, w109.cell? ⟨l, 0, none⟩ = some (.slice o111 n112 n113) ∧
 ∃ x114, w109.cell? ⟨hs w95, 0, none⟩ = some (.int .i64 x114) ∧
 ∃ x115, w109.cell? ⟨hs w95, 1, none⟩ = some (.int .i64 x115) ∧
 ∃ o116, ∃ n117, ∃ n118, w109.cell? ⟨hs w95, 2, none⟩ = some (.slice o116 n117 n118) ∧
 Calls Tryz.prog 82 #[.agg #[.int .i64 x114, .int .i64 x115, .slice o116 n117 n118]] w109 (fun e119 => fun w120 => ∃ x121, ∃ x122, ∃ o123, ∃ n124, ∃ n125, e119 = .returned (.agg #[.int .i64 x121, .int .i64 x122, .slice o123 n124 n125]) ∧
 Kept w109 w120 ⟨l, 0, none⟩ 1 ∧
 ∀ w126, w126 = w120.alloc (.cells #[.int .i64 x121, .int .i64 x122, .slice o123 n124 n125] 49 (0, 0)) →
 Kept w109 w126 ⟨l, 0, none⟩ 1 ∧
 RunOk Tryz.prog (Hold (Builtin.append_ #[43, 43] 43 #[.slice o111 n112 n113, .slice (some ⟨hs w120, 0, none⟩) 1 1])) w126 (fun v128 => fun w129 => ∃ o130, ∃ n131, ∃ n132, v128 = .slice o130 n131 n132 ∧
 There w129 ⟨l, 0, none⟩ 1 ∧
 ∀ w133, w133 = setCells w129 ⟨l, 0, none⟩ [.slice o130 n131 n132] 0 →
 ∃ n135, n135 < n93 ∧
 k91 n135 (IntKind.wrap .i64 (x96 + 1)) w133))) ∧
(decide (x96 < (((e_n - (x50).toNat) : Nat) : Int)) = false →
 k40 w95))))) ∧
(decide (IntKind.wrap .i64 (prev + x50) < ((n56 : Nat) : Int)) = false →
 ∃ o138, ∃ n139, ∃ n140, w53.cell? ⟨l, 0, none⟩ = some (.slice o138 n139 n140) ∧
((0 : Int) ≤ IntKind.wrap .i64 (prev + x50) ∧
 IntKind.wrap .i64 (prev + x50) ≤ ((n139 : Nat) : Int)) ∧
 RunOk Tryz.prog (Hold (Builtin.clear_ #[43] 0 #[.slice (if (n140 = (IntKind.wrap .i64 (prev + x50)).toNat) then o138 else (Option.map (fun (x : Addr) => Addr.add x ((IntKind.wrap .i64 (prev + x50)).toNat * 3)) o138)) (n139 - (IntKind.wrap .i64 (prev + x50)).toNat) (n140 - (IntKind.wrap .i64 (prev + x50)).toNat)])) w53 (fun v141 => fun w142 => ∃ v143 : Value, v141 = v143 ∧
 ∃ o144, ∃ n145, ∃ n146, w142.cell? ⟨l, 0, none⟩ = some (.slice o144 n145 n146) ∧
((0 : Int) ≤ IntKind.wrap .i64 (prev + x50) ∧
 IntKind.wrap .i64 (prev + x50) ≤ ((n146 : Nat) : Int)) ∧
 There w142 ⟨l, 0, none⟩ 1 ∧
 ∀ w147, w147 = setCells w142 ⟨l, 0, none⟩ [.slice (if (n146 = 0) then o144 else (Option.map (fun (x : Addr) => x) o144)) ((IntKind.wrap .i64 (prev + x50)).toNat - 0) (n146 - 0)] 0 →
((0 : Int) ≤ x50 ∧
 x50 ≤ ((e_n : Nat) : Int)) ∧
 ∃ k149 : (Nat →
 Int →
 World →
 Prop), (∃ n150, k149 n150 0 w147) ∧
 ∀ n151 : Nat, (Nat →
 Value) →
 ∀ w153 : World, ∀ x154 : Int, k149 n151 x154 w153 →
(decide (x154 < (((e_n - (x50).toNat) : Nat) : Int)) = true →
 ∃ a157 : Addr, (if (e_c = (x50).toNat) then e else (Option.map (fun (x : Addr) => Addr.add x ((x50).toNat * 3)) e)) = some a157 ∧
((0 : Int) ≤ x154 ∧
 x154 < (((e_n - (x50).toNat) : Nat) : Int)) ∧
 ∃ x158, w153.cell? (Addr.add a157 ((x154).toNat * 3)) = some (.int .i64 x158) ∧
 ∃ x159, w153.cell? (Addr.add (Addr.add a157 ((x154).toNat * 3)) 1) = some (.int .i64 x159) ∧
 ∃ o160, ∃ n161, ∃ n162, w153.cell? (Addr.add (Addr.add a157 ((x154).toNat * 3)) 2) = some (.slice o160 n161 n162) ∧
 ∀ w163, w163 = w153.alloc (.cells #[.int .i64 0, .int .i64 0, .slice none 0 0] 49 (0, 0)) →
 There w163 ⟨hs w153, 0, none⟩ 3 ∧
 ∀ w165, w165 = setCells w163 ⟨hs w153, 0, none⟩ [.int .i64 x158, .int .i64 x159, .slice o160 n161 n162] 0 →
 ∀ w167, w167 = w165.drew →
 ∃ o169, ∃ n170, ∃ n171, w167.cell? ⟨l, 0, none⟩ = some (.slice o169 n170 n171) ∧
 ∃ x172, w167.cell? ⟨hs w153, 0, none⟩ = some (.int .i64 x172) ∧
 ∃ x173, w167.cell? ⟨hs w153, 1, none⟩ = some (.int .i64 x173) ∧
 ∃ o174, ∃ n175, ∃ n176, w167.cell? ⟨hs w153, 2, none⟩ = some (.slice o174 n175 n176) ∧
 Calls Tryz.prog 82 #[.agg #[.int .i64 x172, .int .i64 x173, .slice o174 n175 n176]] w167 (fun e177 => fun w178 => ∃ x179, ∃ x180, ∃ o181, ∃ n182, ∃ n183, e177 = .returned (.agg #[.int .i64 x179, .int .i64 x180, .slice o181 n182 n183]) ∧
 Kept w167 w178 ⟨l, 0, none⟩ 1 ∧
 ∀ w184, w184 = w178.alloc (.cells #[.int .i64 x179, .int .i64 x180, .slice o181 n182 n183] 49 (0, 0)) →
 Kept w167 w184 ⟨l, 0, none⟩ 1 ∧
 RunOk Tryz.prog (Hold (Builtin.append_ #[43, 43] 43 #[.slice o169 n170 n171, .slice (some ⟨hs w178, 0, none⟩) 1 1])) w184 (fun v186 => fun w187 => ∃ o188, ∃ n189, ∃ n190, v186 = .slice o188 n189 n190 ∧
 There w187 ⟨l, 0, none⟩ 1 ∧
 ∀ w191, w191 = setCells w187 ⟨l, 0, none⟩ [.slice o188 n189 n190] 0 →
 ∃ n193, n193 < n151 ∧
 k149 n193 (IntKind.wrap .i64 (x154 + 1)) w191))) ∧
(decide (x154 < (((e_n - (x50).toNat) : Nat) : Int)) = false →
 k40 w153)))) ∧
(decide (x50 < ((e_n : Nat) : Int)) = false →
 k40 w49))) ∧
(b36 = false →
 R (.returned (.tuple #[.bool false, .int .i64 0])) w34))))))) :
    Calls Tryz.prog 111 #[(.pointer (some ⟨l, 0, none⟩)), (.int .i64 prev), (.int .i64 term), (.slice e e_n e_c)] w R :=
  calls_of_vc an111 Tryz.func111 rfl (by kernel_rfl) (by kernel_rfl) (Eq.mp (by kernel_rfl) h)

/-- samaritan/raftlog.equal -/
def an125 : An := (.seq (.reg []) (.seq (.reg [(4, 0, true), (10, 0, true), (17, 0, true)]) .nil))
set_option maxRecDepth 100000 in
theorem nf125 (a_Term : Int) (a_Kind : Int) (a_Body : Option Addr) (a_Body_n : Nat) (a_Body_c : Nat) (b_Term : Int) (b_Kind : Int) (b_Body : Option Addr) (b_Body_n : Nat) (b_Body_c : Nat) (w : World) (R : Ending → World → Prop) (h :
(∀ w1, w1 = w.alloc (.cells #[.int .i64 a_Term, .int .i64 a_Kind, .slice a_Body a_Body_n a_Body_c] 49 (0, 0)) →
 ∀ w3, w3 = w1.alloc (.cells #[.int .i64 b_Term, .int .i64 b_Kind, .slice b_Body b_Body_n b_Body_c] 49 (0, 0)) →
 ∃ x5, w3.cell? ⟨hs w, 0, none⟩ = some (.int .i64 x5) ∧
 ∃ x6, w3.cell? ⟨hs w1, 0, none⟩ = some (.int .i64 x6) ∧
(decide (x5 = x6) = true →
 ∃ x8, w3.cell? ⟨hs w, 1, none⟩ = some (.int .i64 x8) ∧
 ∃ x9, w3.cell? ⟨hs w1, 1, none⟩ = some (.int .i64 x9) ∧
(decide (x8 = x9) = true →
 ∃ o11, ∃ n12, ∃ n13, w3.cell? ⟨hs w, 2, none⟩ = some (.slice o11 n12 n13) ∧
 ∃ o14, ∃ n15, ∃ n16, w3.cell? ⟨hs w1, 2, none⟩ = some (.slice o14 n15 n16) ∧
 Calls Tryz.prog 122 #[.slice o11 n12 n13, .slice o14 n15 n16] w3 (fun e17 => fun w18 => ∃ b19, e17 = .returned (.bool b19) ∧
(b19 = true →
 R (.returned (.bool true)) w18) ∧
(b19 = false →
 R (.returned (.bool false)) w18))) ∧
(decide (x8 = x9) = false →
 R (.returned (.bool false)) w3)) ∧
(decide (x5 = x6) = false →
 R (.returned (.bool false)) w3))) :
    Calls Tryz.prog 125 #[(.agg #[(.int .i64 a_Term), (.int .i64 a_Kind), (.slice a_Body a_Body_n a_Body_c)]), (.agg #[(.int .i64 b_Term), (.int .i64 b_Kind), (.slice b_Body b_Body_n b_Body_c)])] w R :=
  calls_of_vc an125 Tryz.func125 rfl (by kernel_rfl) (by kernel_rfl) (Eq.mp (by kernel_rfl) h)

/-- samaritan/quorum.BeginChange -/
def an47 : An := (.seq (.reg []) (.seq (.seq (.reg [(1, 0, true), (5, 0, true)]) (.cond (.seq (.reg []) .nil) .nil)) (.seq (.seq (.reg [(3, 0, true)]) (.cond (.seq (.reg []) .nil) .nil)) (.seq (.reg []) .nil))))
set_option maxRecDepth 100000 in
theorem nf47 (c_Old : Option Addr) (c_Old_n : Nat) (c_Old_c : Nat) (c_New : Option Addr) (c_New_n : Nat) (c_New_c : Nat) (next' : Option Addr) (next'_n : Nat) (next'_c : Nat) (w : World) (R : Ending → World → Prop) (h :
(∀ w1, w1 = w.alloc (.cells #[.slice c_Old c_Old_n c_Old_c, .slice c_New c_New_n c_New_c] 26 (0, 0)) →
 ∀ w3, w3 = w1.alloc (.cells #[.slice none 0 0, .slice none 0 0] 26 (0, 0)) →
 ∃ o5, ∃ n6, ∃ n7, w3.cell? ⟨hs w, 0, none⟩ = some (.slice o5 n6 n7) ∧
 ∃ o8, ∃ n9, ∃ n10, w3.cell? ⟨hs w, 1, none⟩ = some (.slice o8 n9 n10) ∧
 Calls Tryz.prog 51 #[.agg #[.slice o5 n6 n7, .slice o8 n9 n10]] w3 (fun e11 => fun w12 => ∃ b13, e11 = .returned (.bool b13) ∧
(b13 = true →
 Calls Tryz.prog 83 #[.slice next' next'_n next'_c] w12 (fun e15 => fun w16 => ∃ b17, e15 = .returned (.bool b17) ∧
(b17 = true →
 ∃ o19, ∃ n20, ∃ n21, w16.cell? ⟨hs w, 1, none⟩ = some (.slice o19 n20 n21) ∧
(decide (((n20 : Nat) : Int) > 0) = true →
 There w16 ⟨hs w1, 0, none⟩ 2 ∧
 ∀ w23, w23 = setCells w16 ⟨hs w1, 0, none⟩ [.slice none 0 0, .slice none 0 0] 0 →
 ∃ o25, ∃ n26, ∃ n27, w23.cell? ⟨hs w1, 0, none⟩ = some (.slice o25 n26 n27) ∧
 ∃ o28, ∃ n29, ∃ n30, w23.cell? ⟨hs w1, 1, none⟩ = some (.slice o28 n29 n30) ∧
 R (.returned (.tuple #[.agg #[.slice o25 n26 n27, .slice o28 n29 n30], .int .i64 8])) w23) ∧
(decide (((n20 : Nat) : Int) > 0) = false →
 ∃ o32, ∃ n33, ∃ n34, w16.cell? ⟨hs w, 0, none⟩ = some (.slice o32 n33 n34) ∧
 Calls Tryz.prog 25 #[.slice o32 n33 n34] w16 (fun e35 => fun w36 => ∃ o37, ∃ n38, ∃ n39, e35 = .returned (.slice o37 n38 n39) ∧
 Calls Tryz.prog 25 #[.slice next' next'_n next'_c] w36 (fun e40 => fun w41 => ∃ o42, ∃ n43, ∃ n44, e40 = .returned (.slice o42 n43 n44) ∧
 There w41 ⟨hs w1, 0, none⟩ 2 ∧
 ∀ w45, w45 = setCells w41 ⟨hs w1, 0, none⟩ [.slice o37 n38 n39, .slice o42 n43 n44] 0 →
 ∃ o47, ∃ n48, ∃ n49, w45.cell? ⟨hs w1, 0, none⟩ = some (.slice o47 n48 n49) ∧
 ∃ o50, ∃ n51, ∃ n52, w45.cell? ⟨hs w1, 1, none⟩ = some (.slice o50 n51 n52) ∧
 R (.returned (.tuple #[.agg #[.slice o47 n48 n49, .slice o50 n51 n52], .int .i64 0])) w45)))) ∧
(b17 = false →
 There w16 ⟨hs w1, 0, none⟩ 2 ∧
 ∀ w54, w54 = setCells w16 ⟨hs w1, 0, none⟩ [.slice none 0 0, .slice none 0 0] 0 →
 ∃ o56, ∃ n57, ∃ n58, w54.cell? ⟨hs w1, 0, none⟩ = some (.slice o56 n57 n58) ∧
 ∃ o59, ∃ n60, ∃ n61, w54.cell? ⟨hs w1, 1, none⟩ = some (.slice o59 n60 n61) ∧
 R (.returned (.tuple #[.agg #[.slice o56 n57 n58, .slice o59 n60 n61], .int .i64 1])) w54))) ∧
(b13 = false →
 There w12 ⟨hs w1, 0, none⟩ 2 ∧
 ∀ w63, w63 = setCells w12 ⟨hs w1, 0, none⟩ [.slice none 0 0, .slice none 0 0] 0 →
 ∃ o65, ∃ n66, ∃ n67, w63.cell? ⟨hs w1, 0, none⟩ = some (.slice o65 n66 n67) ∧
 ∃ o68, ∃ n69, ∃ n70, w63.cell? ⟨hs w1, 1, none⟩ = some (.slice o68 n69 n70) ∧
 R (.returned (.tuple #[.agg #[.slice o65 n66 n67, .slice o68 n69 n70], .int .i64 1])) w63)))) :
    Calls Tryz.prog 47 #[(.agg #[(.slice c_Old c_Old_n c_Old_c), (.slice c_New c_New_n c_New_c)]), (.slice next' next'_n next'_c)] w R :=
  calls_of_vc an47 Tryz.func47 rfl (by kernel_rfl) (by kernel_rfl) (Eq.mp (by kernel_rfl) h)

/-- samaritan/quorum.Encode -/
def an48 : An := (.seq (.reg []) (.seq (.seq (.reg [(1, 0, true)]) (.cond (.seq (.reg []) .nil) .nil)) (.seq (.reg []) (.seq (.reg []) (.seq (.reg []) (.seq (.reg []) .nil))))))
set_option maxRecDepth 100000 in
theorem nf48 (c_Old : Option Addr) (c_Old_n : Nat) (c_Old_c : Nat) (c_New : Option Addr) (c_New_n : Nat) (c_New_c : Nat) (w : World) (R : Ending → World → Prop) (h :
(∀ w1, w1 = w.alloc (.cells #[.slice c_Old c_Old_n c_Old_c, .slice c_New c_New_n c_New_c] 26 (0, 0)) →
 ∃ o3, ∃ n4, ∃ n5, w1.cell? ⟨hs w, 0, none⟩ = some (.slice o3 n4 n5) ∧
 ∃ o6, ∃ n7, ∃ n8, w1.cell? ⟨hs w, 1, none⟩ = some (.slice o6 n7 n8) ∧
 Calls Tryz.prog 51 #[.agg #[.slice o3 n4 n5, .slice o6 n7 n8]] w1 (fun e9 => fun w10 => ∃ b11, e9 = .returned (.bool b11) ∧
(b11 = true →
 ∀ w13, w13 = w10.alloc (.cells #[.slice none 0 0] 137 (0, 0)) →
 ∃ o15, ∃ n16, ∃ n17, w13.cell? ⟨hs w, 0, none⟩ = some (.slice o15 n16 n17) ∧
 Calls Tryz.prog 84 #[.pointer (some ⟨hs w10, 0, none⟩), .slice o15 n16 n17] w13 (fun e18 => fun w19 => e18 = .returned (.tuple #[]) ∧
 ∃ o20, ∃ n21, ∃ n22, w19.cell? ⟨hs w, 1, none⟩ = some (.slice o20 n21 n22) ∧
 Calls Tryz.prog 84 #[.pointer (some ⟨hs w10, 0, none⟩), .slice o20 n21 n22] w19 (fun e23 => fun w24 => e23 = .returned (.tuple #[]) ∧
 Calls Tryz.prog 85 #[.pointer (some ⟨hs w10, 0, none⟩)] w24 (fun e25 => fun w26 => ∃ o27, ∃ n28, ∃ n29, e25 = .returned (.slice o27 n28 n29) ∧
 R (.returned (.slice o27 n28 n29)) w26)))) ∧
(b11 = false →
 R (.returned (.slice none 0 0)) w10)))) :
    Calls Tryz.prog 48 #[(.agg #[(.slice c_Old c_Old_n c_Old_c), (.slice c_New c_New_n c_New_c)])] w R :=
  calls_of_vc an48 Tryz.func48 rfl (by kernel_rfl) (by kernel_rfl) (Eq.mp (by kernel_rfl) h)

/-- samaritan/quorum.Valid -/
def an51 : An := (.seq (.reg []) (.seq (.reg [(2, 0, true), (7, 0, true), (11, 0, true)]) .nil))
set_option maxRecDepth 100000 in
theorem nf51 (c_Old : Option Addr) (c_Old_n : Nat) (c_Old_c : Nat) (c_New : Option Addr) (c_New_n : Nat) (c_New_c : Nat) (w : World) (R : Ending → World → Prop) (h :
(∀ w1, w1 = w.alloc (.cells #[.slice c_Old c_Old_n c_Old_c, .slice c_New c_New_n c_New_c] 26 (0, 0)) →
 ∃ o3, ∃ n4, ∃ n5, w1.cell? ⟨hs w, 0, none⟩ = some (.slice o3 n4 n5) ∧
 Calls Tryz.prog 83 #[.slice o3 n4 n5] w1 (fun e6 => fun w7 => ∃ b8, e6 = .returned (.bool b8) ∧
(b8 = true →
 ∃ o10, ∃ n11, ∃ n12, w7.cell? ⟨hs w, 1, none⟩ = some (.slice o10 n11 n12) ∧
(decide (((n11 : Nat) : Int) = 0) = true →
 R (.returned (.bool true)) w7) ∧
(decide (((n11 : Nat) : Int) = 0) = false →
 ∃ o15, ∃ n16, ∃ n17, w7.cell? ⟨hs w, 1, none⟩ = some (.slice o15 n16 n17) ∧
 Calls Tryz.prog 83 #[.slice o15 n16 n17] w7 (fun e18 => fun w19 => ∃ b20, e18 = .returned (.bool b20) ∧
(b20 = true →
 R (.returned (.bool true)) w19) ∧
(b20 = false →
 R (.returned (.bool false)) w19)))) ∧
(b8 = false →
 R (.returned (.bool false)) w7)))) :
    Calls Tryz.prog 51 #[(.agg #[(.slice c_Old c_Old_n c_Old_c), (.slice c_New c_New_n c_New_c)])] w R :=
  calls_of_vc an51 Tryz.func51 rfl (by kernel_rfl) (by kernel_rfl) (Eq.mp (by kernel_rfl) h)

/-- samaritan/quorum.Members -/
def an52 : An := (.seq (.reg []) (.seq (.seq (.reg [(1, 0, true)]) (.cond (.seq (.reg []) .nil) .nil)) (.seq (.regD [(2, 1, false), (5, 1, false)] [0, 1, 3, 4, 2, 5, 6] [2, 5]) (.seq (.reg []) (.seq (.reg []) .nil)))))
set_option maxRecDepth 100000 in
theorem nf52 (c_Old : Option Addr) (c_Old_n : Nat) (c_Old_c : Nat) (c_New : Option Addr) (c_New_n : Nat) (c_New_c : Nat) (w : World) (R : Ending → World → Prop) (h :
(∀ w1, w1 = w.alloc (.cells #[.slice c_Old c_Old_n c_Old_c, .slice c_New c_New_n c_New_c] 26 (0, 0)) →
 ∃ o3, ∃ n4, ∃ n5, w1.cell? ⟨hs w, 0, none⟩ = some (.slice o3 n4 n5) ∧
 ∃ o6, ∃ n7, ∃ n8, w1.cell? ⟨hs w, 1, none⟩ = some (.slice o6 n7 n8) ∧
 Calls Tryz.prog 51 #[.agg #[.slice o3 n4 n5, .slice o6 n7 n8]] w1 (fun e9 => fun w10 => ∃ b11, e9 = .returned (.bool b11) ∧
(b11 = true →
 ∀ w13, w13 = w10.drew →
 ∃ o15, ∃ n16, ∃ n17, w13.cell? ⟨hs w, 0, none⟩ = some (.slice o15 n16 n17) ∧
 ∃ o18, ∃ n19, ∃ n20, w13.cell? ⟨hs w, 1, none⟩ = some (.slice o18 n19 n20) ∧
 RunOk Tryz.prog (Hold (Builtin.append_ #[24, 24] 24 #[.slice none 0 0, .slice o15 n16 n17])) w13 (fun v21 => fun w22 => ∃ o23, ∃ n24, ∃ n25, v21 = .slice o23 n24 n25 ∧
 Kept w13 w22 ⟨hs w, 1, none⟩ 1 ∧
 RunOk Tryz.prog (Hold (Builtin.append_ #[24, 24] 24 #[.slice o23 n24 n25, .slice o18 n19 n20])) w22 (fun v26 => fun w27 => ∃ o28, ∃ n29, ∃ n30, v26 = .slice o28 n29 n30 ∧
 Calls Tryz.prog 87 #[.slice o28 n29 n30] w27 (fun e31 => fun w32 => e31 = .returned (.tuple #[]) ∧
 Calls Tryz.prog 88 #[.slice o28 n29 n30] w32 (fun e33 => fun w34 => ∃ o35, ∃ n36, ∃ n37, e33 = .returned (.slice o35 n36 n37) ∧
 R (.returned (.slice o35 n36 n37)) w34))))) ∧
(b11 = false →
 R (.returned (.slice none 0 0)) w10)))) :
    Calls Tryz.prog 52 #[(.agg #[(.slice c_Old c_Old_n c_Old_c), (.slice c_New c_New_n c_New_c)])] w R :=
  calls_of_vc an52 Tryz.func52 rfl (by kernel_rfl) (by kernel_rfl) (Eq.mp (by kernel_rfl) h)

/-- samaritan/quorum.Reached -/
def an76 : An := (.seq (.reg []) (.seq (.reg [(1, 0, true), (6, 0, true), (12, 0, true), (17, 0, true)]) .nil))
set_option maxRecDepth 100000 in
theorem nf76 (c_Old : Option Addr) (c_Old_n : Nat) (c_Old_c : Nat) (c_New : Option Addr) (c_New_n : Nat) (c_New_c : Nat) (yes : Option Addr) (yes_n : Nat) (yes_c : Nat) (w : World) (R : Ending → World → Prop) (h :
(∀ w1, w1 = w.alloc (.cells #[.slice c_Old c_Old_n c_Old_c, .slice c_New c_New_n c_New_c] 26 (0, 0)) →
 ∃ o3, ∃ n4, ∃ n5, w1.cell? ⟨hs w, 0, none⟩ = some (.slice o3 n4 n5) ∧
 ∃ o6, ∃ n7, ∃ n8, w1.cell? ⟨hs w, 1, none⟩ = some (.slice o6 n7 n8) ∧
 Calls Tryz.prog 51 #[.agg #[.slice o3 n4 n5, .slice o6 n7 n8]] w1 (fun e9 => fun w10 => ∃ b11, e9 = .returned (.bool b11) ∧
(b11 = true →
 ∃ o13, ∃ n14, ∃ n15, w10.cell? ⟨hs w, 0, none⟩ = some (.slice o13 n14 n15) ∧
 Calls Tryz.prog 107 #[.slice o13 n14 n15, .slice yes yes_n yes_c] w10 (fun e16 => fun w17 => ∃ b18, e16 = .returned (.bool b18) ∧
(b18 = true →
 ∃ o20, ∃ n21, ∃ n22, w17.cell? ⟨hs w, 1, none⟩ = some (.slice o20 n21 n22) ∧
(decide (((n21 : Nat) : Int) = 0) = true →
 R (.returned (.bool true)) w17) ∧
(decide (((n21 : Nat) : Int) = 0) = false →
 ∃ o25, ∃ n26, ∃ n27, w17.cell? ⟨hs w, 1, none⟩ = some (.slice o25 n26 n27) ∧
 Calls Tryz.prog 107 #[.slice o25 n26 n27, .slice yes yes_n yes_c] w17 (fun e28 => fun w29 => ∃ b30, e28 = .returned (.bool b30) ∧
(b30 = true →
 R (.returned (.bool true)) w29) ∧
(b30 = false →
 R (.returned (.bool false)) w29)))) ∧
(b18 = false →
 R (.returned (.bool false)) w17))) ∧
(b11 = false →
 R (.returned (.bool false)) w10)))) :
    Calls Tryz.prog 76 #[(.agg #[(.slice c_Old c_Old_n c_Old_c), (.slice c_New c_New_n c_New_c)]), (.slice yes yes_n yes_c)] w R :=
  calls_of_vc an76 Tryz.func76 rfl (by kernel_rfl) (by kernel_rfl) (Eq.mp (by kernel_rfl) h)

/-- samaritan/quorum.memberList -/
def an83 : An := (.seq (.reg []) (.seq (.seq (.reg [(2, 0, true), (6, 0, true)]) (.cond (.seq (.reg []) .nil) .nil)) (.seq (.seq (.reg []) (.blk (.loop [(15, .int .i64)] (.seq (.reg [(0, 0, true)]) (.seq (.cond .nil .nil) (.seq (.blk (.seq (.reg []) (.seq (.reg [(1, 0, true), (4, 0, true), (8, 0, true), (16, 0, true)]) (.cond (.seq (.reg []) .nil) .nil)))) (.reg []))))))) (.seq (.reg []) .nil))))
set_option maxRecDepth 100000 in
theorem nf83 (l : Option Addr) (l_n : Nat) (l_c : Nat) (w : World) (R : Ending → World → Prop) (h :
((decide (((l_n : Nat) : Int) < 1) = true →
 R (.returned (.bool false)) w) ∧
(decide (((l_n : Nat) : Int) < 1) = false →
(decide (((l_n : Nat) : Int) > 9) = true →
 R (.returned (.bool false)) w) ∧
(decide (((l_n : Nat) : Int) > 9) = false →
 ∃ k5 : (Nat →
 Int →
 World →
 Prop), (∃ n6, k5 n6 0 w) ∧
 ∀ n7 : Nat, (Nat →
 Value) →
 ∀ w9 : World, ∀ x10 : Int, k5 n7 x10 w9 →
(decide (x10 < ((l_n : Nat) : Int)) = true →
 ∃ a13 : Addr, l = some a13 ∧
((0 : Int) ≤ x10 ∧
 x10 < ((l_n : Nat) : Int)) ∧
 ∃ x14, w9.cell? (Addr.add a13 ((x10).toNat * 1)) = some (.int .i64 x14) ∧
(decide (x14 < 0) = true →
 R (.returned (.bool false)) w9) ∧
(decide (x14 < 0) = false →
(decide (x14 > 63) = true →
 R (.returned (.bool false)) w9) ∧
(decide (x14 > 63) = false →
(decide (x10 > 0) = true →
 ∃ a20 : Addr, l = some a20 ∧
((0 : Int) ≤ IntKind.wrap .i64 (x10 - 1) ∧
 IntKind.wrap .i64 (x10 - 1) < ((l_n : Nat) : Int)) ∧
 ∃ x21, w9.cell? (Addr.add a20 ((IntKind.wrap .i64 (x10 - 1)).toNat * 1)) = some (.int .i64 x21) ∧
(decide (x14 ≤ x21) = true →
 R (.returned (.bool false)) w9) ∧
(decide (x14 ≤ x21) = false →
 ∃ n24, n24 < n7 ∧
 k5 n24 (IntKind.wrap .i64 (x10 + 1)) w9)) ∧
(decide (x10 > 0) = false →
 ∃ n26, n26 < n7 ∧
 k5 n26 (IntKind.wrap .i64 (x10 + 1)) w9)))) ∧
(decide (x10 < ((l_n : Nat) : Int)) = false →
 R (.returned (.bool true)) w9))))) :
    Calls Tryz.prog 83 #[(.slice l l_n l_c)] w R :=
  calls_of_vc an83 Tryz.func83 rfl (by kernel_rfl) (by kernel_rfl) (Eq.mp (by kernel_rfl) h)

/-- samaritan/quorum.Decode -/
def an98 : An := (.seq (.reg []) (.seq (.reg []) (.seq (.reg []) (.seq (.seq (.reg []) (.seq (.reg [(1, 0, true)]) (.cond (.seq (.reg []) .nil) .nil))) (.seq (.seq (.reg [(1, 0, true)]) (.cond (.seq (.reg []) .nil) .nil)) (.seq (.reg []) .nil))))))
set_option maxRecDepth 100000 in
theorem nf98 (b : Option Addr) (b_n : Nat) (b_c : Nat) (w : World) (R : Ending → World → Prop) (h :
(∀ w1, w1 = w.alloc (.cells #[.slice none 0 0, .slice none 0 0] 26 (0, 0)) →
 Calls Tryz.prog 91 #[.slice b b_n b_c] w1 (fun e3 => fun w4 => ∃ o5, e3 = .returned (.pointer o5) ∧
 Calls Tryz.prog 119 #[.pointer o5] w4 (fun e6 => fun w7 => ∃ o8, ∃ n9, ∃ n10, e6 = .returned (.slice o8 n9 n10) ∧
 Calls Tryz.prog 119 #[.pointer o5] w7 (fun e11 => fun w12 => ∃ o13, ∃ n14, ∃ n15, e11 = .returned (.slice o13 n14 n15) ∧
 ∀ w16, w16 = w12.alloc (.cells #[.slice none 0 0, .slice none 0 0] 26 (0, 0)) →
 There w16 ⟨hs w12, 0, none⟩ 2 ∧
 ∀ w18, w18 = setCells w16 ⟨hs w12, 0, none⟩ [.slice o8 n9 n10, .slice o13 n14 n15] 0 →
 Calls Tryz.prog 93 #[.pointer o5] w18 (fun e20 => fun w21 => ∃ x22, e20 = .returned (.int .i64 x22) ∧
((! (decide (x22 = 0))) = true →
 There w21 ⟨hs w, 0, none⟩ 2 ∧
 ∀ w24, w24 = setCells w21 ⟨hs w, 0, none⟩ [.slice none 0 0, .slice none 0 0] 0 →
 ∃ o26, ∃ n27, ∃ n28, w24.cell? ⟨hs w, 0, none⟩ = some (.slice o26 n27 n28) ∧
 ∃ o29, ∃ n30, ∃ n31, w24.cell? ⟨hs w, 1, none⟩ = some (.slice o29 n30 n31) ∧
 R (.returned (.tuple #[.agg #[.slice o26 n27 n28, .slice o29 n30 n31], .int .i64 x22])) w24) ∧
((! (decide (x22 = 0))) = false →
 ∃ o33, ∃ n34, ∃ n35, w21.cell? ⟨hs w12, 0, none⟩ = some (.slice o33 n34 n35) ∧
 ∃ o36, ∃ n37, ∃ n38, w21.cell? ⟨hs w12, 1, none⟩ = some (.slice o36 n37 n38) ∧
 Calls Tryz.prog 51 #[.agg #[.slice o33 n34 n35, .slice o36 n37 n38]] w21 (fun e39 => fun w40 => ∃ b41, e39 = .returned (.bool b41) ∧
(b41 = true →
 ∃ o43, ∃ n44, ∃ n45, w40.cell? ⟨hs w12, 0, none⟩ = some (.slice o43 n44 n45) ∧
 ∃ o46, ∃ n47, ∃ n48, w40.cell? ⟨hs w12, 1, none⟩ = some (.slice o46 n47 n48) ∧
 There w40 ⟨hs w, 0, none⟩ 2 ∧
 ∀ w49, w49 = setCells w40 ⟨hs w, 0, none⟩ [.slice o43 n44 n45, .slice o46 n47 n48] 0 →
 ∃ o51, ∃ n52, ∃ n53, w49.cell? ⟨hs w, 0, none⟩ = some (.slice o51 n52 n53) ∧
 ∃ o54, ∃ n55, ∃ n56, w49.cell? ⟨hs w, 1, none⟩ = some (.slice o54 n55 n56) ∧
 R (.returned (.tuple #[.agg #[.slice o51 n52 n53, .slice o54 n55 n56], .int .i64 0])) w49) ∧
(b41 = false →
 There w40 ⟨hs w, 0, none⟩ 2 ∧
 ∀ w58, w58 = setCells w40 ⟨hs w, 0, none⟩ [.slice none 0 0, .slice none 0 0] 0 →
 ∃ o60, ∃ n61, ∃ n62, w58.cell? ⟨hs w, 0, none⟩ = some (.slice o60 n61 n62) ∧
 ∃ o63, ∃ n64, ∃ n65, w58.cell? ⟨hs w, 1, none⟩ = some (.slice o63 n64 n65) ∧
 R (.returned (.tuple #[.agg #[.slice o60 n61 n62, .slice o63 n64 n65], .int .i64 2])) w58))))))))) :
    Calls Tryz.prog 98 #[(.slice b b_n b_c)] w R :=
  calls_of_vc an98 Tryz.func98 rfl (by kernel_rfl) (by kernel_rfl) (Eq.mp (by kernel_rfl) h)

/-- samaritan/quorum.Committed -/
def an103 : An := (.seq (.reg []) (.seq (.seq (.reg [(1, 0, true), (5, 1, true)]) (.cond (.seq (.reg []) .nil) .nil)) (.seq (.reg [(0, 1, false)]) (.seq (.seq (.reg []) (.blk (.loop [(20, .int .i64)] (.seq (.reg [(0, 0, true)]) (.seq (.cond .nil .nil) (.seq (.blk (.seq (.reg []) (.reg [(4, 1, false)]))) (.reg []))))))) (.seq (.reg []) (.cut [(8, .int .i64)] (.seq (.reg [(3, 0, true)]) (.cond (.reg []) .nil)) (.seq (.reg []) .nil)))))))
set_option maxRecDepth 100000 in
theorem nf103 (c_Old : Option Addr) (c_Old_n : Nat) (c_Old_c : Nat) (c_New : Option Addr) (c_New_n : Nat) (c_New_c : Nat) (reached_f : Fn) (reached_a : Array Value) (reached_c : Array Value) (w : World) (R : Ending → World → Prop) (h :
(∀ w1, w1 = w.alloc (.cells #[.slice c_Old c_Old_n c_Old_c, .slice c_New c_New_n c_New_c] 26 (0, 0)) →
 ∃ o3, ∃ n4, ∃ n5, w1.cell? ⟨hs w, 0, none⟩ = some (.slice o3 n4 n5) ∧
 ∃ o6, ∃ n7, ∃ n8, w1.cell? ⟨hs w, 1, none⟩ = some (.slice o6 n7 n8) ∧
 Calls Tryz.prog 51 #[.agg #[.slice o3 n4 n5, .slice o6 n7 n8]] w1 (fun e9 => fun w10 => ∃ b11, e9 = .returned (.bool b11) ∧
(b11 = true →
 RunOk Tryz.prog (Hold (binOpSem BinOp.eql 154 (Operand.tmp 13) (Operand.const Value.nilFunc) (Value.func reached_f reached_a reached_c) Value.nilFunc)) w10 (fun v13 => fun w14 => ∃ b15, v13 = .bool b15 ∧
(b15 = true →
 R (.returned (.int .i64 0)) w14) ∧
(b15 = false →
 RunOk Tryz.prog (Hold (Instr.makeSlice 174 (.int .i64 64) (.int .i64 64))) w14 (fun v18 => fun w19 => ∃ o20, ∃ n21, ∃ n22, v18 = .slice o20 n21 n22 ∧
 ∃ o23, ∃ n24, ∃ n25, w19.cell? ⟨hs w, 0, none⟩ = some (.slice o23 n24 n25) ∧
 ∃ o26, ∃ n27, ∃ n28, w19.cell? ⟨hs w, 1, none⟩ = some (.slice o26 n27 n28) ∧
 Calls Tryz.prog 52 #[.agg #[.slice o23 n24 n25, .slice o26 n27 n28]] w19 (fun e29 => fun w30 => ∃ o31, ∃ n32, ∃ n33, e29 = .returned (.slice o31 n32 n33) ∧
 ∃ k34 : (Nat →
 Int →
 World →
 Prop), (∃ n35, k34 n35 0 w30) ∧
 ∀ n36 : Nat, (Nat →
 Value) →
 ∀ w38 : World, ∀ x39 : Int, k34 n36 x39 w38 →
(decide (x39 < ((n32 : Nat) : Int)) = true →
 ∃ a42 : Addr, o31 = some a42 ∧
((0 : Int) ≤ x39 ∧
 x39 < ((n32 : Nat) : Int)) ∧
 ∃ x43, w38.cell? (Addr.add a42 ((x39).toNat * 1)) = some (.int .i64 x43) ∧
 CallsV Tryz.prog (Value.func reached_f reached_a reached_c) [.int .i64 x43] w38 (fun e44 => fun w45 => ∃ x46, e44 = .returned (.int .i64 x46) ∧
 ∃ a47 : Addr, o20 = some a47 ∧
((0 : Int) ≤ x43 ∧
 x43 < ((n21 : Nat) : Int)) ∧
 There w45 (Addr.add a47 ((x43).toNat * 1)) 1 ∧
 ∀ w48, w48 = setCells w45 (Addr.add a47 ((x43).toNat * 1)) [.int .i64 x46] 0 →
 ∃ n50, n50 < n36 ∧
 k34 n50 (IntKind.wrap .i64 (x39 + 1)) w48)) ∧
(decide (x39 < ((n32 : Nat) : Int)) = false →
 ∃ o52, ∃ n53, ∃ n54, w38.cell? ⟨hs w, 0, none⟩ = some (.slice o52 n53 n54) ∧
 Calls Tryz.prog 120 #[.slice o52 n53 n54, .slice o20 n21 n22] w38 (fun e55 => fun w56 => ∃ x57, e55 = .returned (.int .i64 x57) ∧
 ∀ k58 : (Int →
 World →
 Prop), (∀ w60 : World, ∀ x61 : Int, ((Nat →
 Value) →
 R (.returned (.int .i64 x61)) w60) →
 k58 x61 w60) →
 ∃ o64, ∃ n65, ∃ n66, w56.cell? ⟨hs w, 1, none⟩ = some (.slice o64 n65 n66) ∧
(decide (((n65 : Nat) : Int) > 0) = true →
 ∃ o68, ∃ n69, ∃ n70, w56.cell? ⟨hs w, 1, none⟩ = some (.slice o68 n69 n70) ∧
 Calls Tryz.prog 120 #[.slice o68 n69 n70, .slice o20 n21 n22] w56 (fun e71 => fun w72 => ∃ x73, e71 = .returned (.int .i64 x73) ∧
 k58 (if (x73 < x57) then x73 else x57) w72)) ∧
(decide (((n65 : Nat) : Int) > 0) = false →
 k58 x57 w56)))))))) ∧
(b11 = false →
 R (.returned (.int .i64 0)) w10)))) :
    Calls Tryz.prog 103 #[(.agg #[(.slice c_Old c_Old_n c_Old_c), (.slice c_New c_New_n c_New_c)]), (.func reached_f reached_a reached_c)] w R :=
  calls_of_vc an103 Tryz.func103 rfl (by kernel_rfl) (by kernel_rfl) (Eq.mp (by kernel_rfl) h)

/-- samaritan/quorum.EndChange -/
def an105 : An := (.seq (.reg []) (.seq (.seq (.reg [(1, 0, true)]) (.cond (.seq (.reg []) .nil) .nil)) (.seq (.seq (.reg [(3, 0, true)]) (.cond (.seq (.reg []) .nil) .nil)) (.seq (.reg []) .nil))))
set_option maxRecDepth 100000 in
theorem nf105 (c_Old : Option Addr) (c_Old_n : Nat) (c_Old_c : Nat) (c_New : Option Addr) (c_New_n : Nat) (c_New_c : Nat) (w : World) (R : Ending → World → Prop) (h :
(∀ w1, w1 = w.alloc (.cells #[.slice c_Old c_Old_n c_Old_c, .slice c_New c_New_n c_New_c] 26 (0, 0)) →
 ∀ w3, w3 = w1.alloc (.cells #[.slice none 0 0, .slice none 0 0] 26 (0, 0)) →
 ∃ o5, ∃ n6, ∃ n7, w3.cell? ⟨hs w, 0, none⟩ = some (.slice o5 n6 n7) ∧
 ∃ o8, ∃ n9, ∃ n10, w3.cell? ⟨hs w, 1, none⟩ = some (.slice o8 n9 n10) ∧
 Calls Tryz.prog 51 #[.agg #[.slice o5 n6 n7, .slice o8 n9 n10]] w3 (fun e11 => fun w12 => ∃ b13, e11 = .returned (.bool b13) ∧
(b13 = true →
 ∃ o15, ∃ n16, ∃ n17, w12.cell? ⟨hs w, 1, none⟩ = some (.slice o15 n16 n17) ∧
(decide (((n16 : Nat) : Int) = 0) = true →
 There w12 ⟨hs w1, 0, none⟩ 2 ∧
 ∀ w19, w19 = setCells w12 ⟨hs w1, 0, none⟩ [.slice none 0 0, .slice none 0 0] 0 →
 ∃ o21, ∃ n22, ∃ n23, w19.cell? ⟨hs w1, 0, none⟩ = some (.slice o21 n22 n23) ∧
 ∃ o24, ∃ n25, ∃ n26, w19.cell? ⟨hs w1, 1, none⟩ = some (.slice o24 n25 n26) ∧
 R (.returned (.tuple #[.agg #[.slice o21 n22 n23, .slice o24 n25 n26], .int .i64 8])) w19) ∧
(decide (((n16 : Nat) : Int) = 0) = false →
 ∃ o28, ∃ n29, ∃ n30, w12.cell? ⟨hs w, 1, none⟩ = some (.slice o28 n29 n30) ∧
 Calls Tryz.prog 25 #[.slice o28 n29 n30] w12 (fun e31 => fun w32 => ∃ o33, ∃ n34, ∃ n35, e31 = .returned (.slice o33 n34 n35) ∧
 There w32 ⟨hs w1, 0, none⟩ 2 ∧
 ∀ w36, w36 = setCells w32 ⟨hs w1, 0, none⟩ [.slice o33 n34 n35, .slice none 0 0] 0 →
 ∃ o38, ∃ n39, ∃ n40, w36.cell? ⟨hs w1, 0, none⟩ = some (.slice o38 n39 n40) ∧
 ∃ o41, ∃ n42, ∃ n43, w36.cell? ⟨hs w1, 1, none⟩ = some (.slice o41 n42 n43) ∧
 R (.returned (.tuple #[.agg #[.slice o38 n39 n40, .slice o41 n42 n43], .int .i64 0])) w36))) ∧
(b13 = false →
 There w12 ⟨hs w1, 0, none⟩ 2 ∧
 ∀ w45, w45 = setCells w12 ⟨hs w1, 0, none⟩ [.slice none 0 0, .slice none 0 0] 0 →
 ∃ o47, ∃ n48, ∃ n49, w45.cell? ⟨hs w1, 0, none⟩ = some (.slice o47 n48 n49) ∧
 ∃ o50, ∃ n51, ∃ n52, w45.cell? ⟨hs w1, 1, none⟩ = some (.slice o50 n51 n52) ∧
 R (.returned (.tuple #[.agg #[.slice o47 n48 n49, .slice o50 n51 n52], .int .i64 1])) w45)))) :
    Calls Tryz.prog 105 #[(.agg #[(.slice c_Old c_Old_n c_Old_c), (.slice c_New c_New_n c_New_c)])] w R :=
  calls_of_vc an105 Tryz.func105 rfl (by kernel_rfl) (by kernel_rfl) (Eq.mp (by kernel_rfl) h)

/-- samaritan/quorum.contains -/
def an107 : An := (.seq (.reg []) (.seq (.reg []) (.seq (.seq (.reg []) (.blk (.loop [(5, .int .i64), (10, .int .i64)] (.seq (.reg [(0, 0, true)]) (.seq (.cond .nil .nil) (.cut [(5, .int .i64)] (.blk (.seq (.reg []) (.seq (.reg [(2, 0, true)]) (.cond (.reg []) .nil)))) (.reg []))))))) (.seq (.reg [(3, 0, true)]) .nil))))
set_option maxRecDepth 100000 in
theorem nf107 (l : Option Addr) (l_n : Nat) (l_c : Nat) (yes : Option Addr) (yes_n : Nat) (yes_c : Nat) (w : World) (R : Ending → World → Prop) (h :
(∃ k1 : (Nat →
 Int →
 Int →
 World →
 Prop), (∃ n2, k1 n2 0 0 w) ∧
 ∀ n3 : Nat, (Nat →
 Value) →
 ∀ w5 : World, ∀ x6 : Int, ∀ x7 : Int, k1 n3 x6 x7 w5 →
(decide (x7 < ((l_n : Nat) : Int)) = true →
 ∀ k10 : (Int →
 World →
 Prop), (∀ w12 : World, ∀ x13 : Int, ((Nat →
 Value) →
 ∃ n16, n16 < n3 ∧
 k1 n16 x13 (IntKind.wrap .i64 (x7 + 1)) w12) →
 k10 x13 w12) →
 ∃ a17 : Addr, l = some a17 ∧
((0 : Int) ≤ x7 ∧
 x7 < ((l_n : Nat) : Int)) ∧
 ∃ x18, w5.cell? (Addr.add a17 ((x7).toNat * 1)) = some (.int .i64 x18) ∧
 Calls Tryz.prog 43 #[.slice yes yes_n yes_c, .int .i64 x18] w5 (fun e19 => fun w20 => ∃ b21, e19 = .returned (.bool b21) ∧
(b21 = true →
 k10 (IntKind.wrap .i64 (x6 + 1)) w20) ∧
(b21 = false →
 k10 x6 w20))) ∧
(decide (x7 < ((l_n : Nat) : Int)) = false →
 Calls Tryz.prog 121 #[.slice l l_n l_c] w5 (fun e25 => fun w26 => ∃ x27, e25 = .returned (.int .i64 x27) ∧
(decide (x6 ≥ x27) = true →
 R (.returned (.bool true)) w26) ∧
(decide (x6 ≥ x27) = false →
 R (.returned (.bool false)) w26))))) :
    Calls Tryz.prog 107 #[(.slice l l_n l_c), (.slice yes yes_n yes_c)] w R :=
  calls_of_vc an107 Tryz.func107 rfl (by kernel_rfl) (by kernel_rfl) (Eq.mp (by kernel_rfl) h)

/-- samaritan/quorum.committed -/
def an120 : An := (.seq (.reg []) (.seq (.reg [(2, 1, false)]) (.seq (.seq (.reg []) (.blk (.loop [(13, .int .i64)] (.seq (.reg [(0, 0, true)]) (.seq (.cond .nil .nil) (.seq (.blk (.seq (.reg []) (.reg []))) (.reg []))))))) (.seq (.reg []) (.seq (.reg []) .nil)))))
set_option maxRecDepth 100000 in
theorem nf120 (l : Option Addr) (l_n : Nat) (l_c : Nat) (numbers : Option Addr) (numbers_n : Nat) (numbers_c : Nat) (w : World) (R : Ending → World → Prop) (h :
(RunOk Tryz.prog (Hold (Instr.makeSlice 174 (.int .i64 ((l_n : Nat) : Int)) (.int .i64 ((l_n : Nat) : Int)))) w (fun v1 => fun w2 => ∃ o3, ∃ n4, ∃ n5, v1 = .slice o3 n4 n5 ∧
 ∃ k6 : (Nat →
 Int →
 World →
 Prop), (∃ n7, k6 n7 0 w2) ∧
 ∀ n8 : Nat, (Nat →
 Value) →
 ∀ w10 : World, ∀ x11 : Int, k6 n8 x11 w10 →
(decide (x11 < ((l_n : Nat) : Int)) = true →
 ∃ a14 : Addr, l = some a14 ∧
((0 : Int) ≤ x11 ∧
 x11 < ((l_n : Nat) : Int)) ∧
 ∃ x15, w10.cell? (Addr.add a14 ((x11).toNat * 1)) = some (.int .i64 x15) ∧
 ∃ a16 : Addr, numbers = some a16 ∧
((0 : Int) ≤ x15 ∧
 x15 < ((numbers_n : Nat) : Int)) ∧
 ∃ x17, w10.cell? (Addr.add a16 ((x15).toNat * 1)) = some (.int .i64 x17) ∧
 ∃ a18 : Addr, o3 = some a18 ∧
((0 : Int) ≤ x11 ∧
 x11 < ((n4 : Nat) : Int)) ∧
 There w10 (Addr.add a18 ((x11).toNat * 1)) 1 ∧
 ∀ w19, w19 = setCells w10 (Addr.add a18 ((x11).toNat * 1)) [.int .i64 x17] 0 →
 ∃ n21, n21 < n8 ∧
 k6 n21 (IntKind.wrap .i64 (x11 + 1)) w19) ∧
(decide (x11 < ((l_n : Nat) : Int)) = false →
 Calls Tryz.prog 138 #[.slice o3 n4 n5] w10 (fun e23 => fun w24 => e23 = .returned (.tuple #[]) ∧
 Calls Tryz.prog 121 #[.slice l l_n l_c] w24 (fun e25 => fun w26 => ∃ x27, e25 = .returned (.int .i64 x27) ∧
 ∃ a28 : Addr, o3 = some a28 ∧
((0 : Int) ≤ IntKind.wrap .i64 (((n4 : Nat) : Int) - x27) ∧
 IntKind.wrap .i64 (((n4 : Nat) : Int) - x27) < ((n4 : Nat) : Int)) ∧
 ∃ x29, w26.cell? (Addr.add a28 ((IntKind.wrap .i64 (((n4 : Nat) : Int) - x27)).toNat * 1)) = some (.int .i64 x29) ∧
 R (.returned (.int .i64 x29)) w26)))))) :
    Calls Tryz.prog 120 #[(.slice l l_n l_c), (.slice numbers numbers_n numbers_c)] w R :=
  calls_of_vc an120 Tryz.func120 rfl (by kernel_rfl) (by kernel_rfl) (Eq.mp (by kernel_rfl) h)

/-- samaritan/quorum.majority -/
def an121 : An := (.seq (.reg []) (.seq (.reg []) .nil))
set_option maxRecDepth 100000 in
theorem nf121 (l : Option Addr) (l_n : Nat) (l_c : Nat) (w : World) (R : Ending → World → Prop) (h :
(R (.returned (.int .i64 (IntKind.wrap .i64 ((IntKind.wrap .i64 (Int.tdiv ((l_n : Nat) : Int) 2)) + 1)))) w)) :
    Calls Tryz.prog 121 #[(.slice l l_n l_c)] w R :=
  calls_of_vc an121 Tryz.func121 rfl (by kernel_rfl) (by kernel_rfl) (Eq.mp (by kernel_rfl) h)

end Go.Proofs.YtcaokpglbolkcaaGreat
