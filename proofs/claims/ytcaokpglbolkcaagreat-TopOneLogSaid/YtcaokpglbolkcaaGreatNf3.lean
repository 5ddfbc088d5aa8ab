/- The contracts' premises: for each function, the proposition that its body comes to (printed by the tool of wip/nf). -/
import Derived.Test.YtcaokpglbolkcaaGreatRows
import Derived.Test.YtcaokpglbolkcaaGreatNfD
namespace Go.Proofs.YtcaokpglbolkcaaGreat
open Go Go.Nf

/-- samaritan/raft.Open -/
def an7 : An := (.seq (.reg []) (.seq (.seq (.reg [(1, 0, true), (4, 0, true), (8, 0, true), (13, 3, true)]) (.cond (.seq (.reg []) .nil) .nil)) (.seq (.seq (.reg [(1, 0, true), (4, 0, true), (8, 0, true), (12, 0, true)]) (.cond (.seq (.reg []) .nil) .nil)) (.seq (.reg []) (.seq (.seq (.reg [(1, 0, true)]) (.cond (.seq (.reg []) .nil) .nil)) (.seq (.reg []) (.seq (.seq (.reg [(1, 0, true)]) (.cond (.seq (.reg []) .nil) .nil)) (.seq (.regE [] (.take 0 (.take 1 (.take 3 (.take 4 (.eff (.alt (.one 2 (.eff (.alt (.one 5 (.take 6 (.eff (.one 7 (.eff (.one 8 .nil)))))) (.one 7 (.eff (.one 5 (.take 6 (.eff (.one 8 .nil))))))))) (.one 7 (.eff (.one 2 (.eff (.one 5 (.take 6 (.eff (.one 8 .nil)))))))))))))) [2, 5, 7, 8]) (.seq (.reg []) (.seq (.reg []) (.seq (.seq (.reg [(1, 0, true)]) (.cond (.seq (.reg []) .nil) .nil)) (.seq (.reg []) (.seq (.reg []) (.seq (.reg []) .nil))))))))))))))
set_option maxRecDepth 100000 in
theorem nf7 (id : Int) (c_Old : Option Addr) (c_Old_n : Nat) (c_Old_c : Nat) (c_New : Option Addr) (c_New_n : Nat) (c_New_c : Nat) (t : Nat) (wait : Int) (beat : Int) (now : Int) (w : World) (R : Ending → World → Prop) (h :
(∀ w1, w1 = w.alloc (.cells #[.slice c_Old c_Old_n c_Old_c, .slice c_New c_New_n c_New_c] 26 (0, 0)) →
(decide (id < 0) = true →
 R (.returned (.tuple #[.pointer none, .int .i64 1])) w1) ∧
(decide (id < 0) = false →
(decide (id ≥ 9) = true →
 R (.returned (.tuple #[.pointer none, .int .i64 1])) w1) ∧
(decide (id ≥ 9) = false →
 ∃ o7, ∃ n8, ∃ n9, w1.cell? ⟨hs w, 0, none⟩ = some (.slice o7 n8 n9) ∧
 ∃ o10, ∃ n11, ∃ n12, w1.cell? ⟨hs w, 1, none⟩ = some (.slice o10 n11 n12) ∧
 Calls Tryz.prog 22 #[.agg #[.slice o7 n8 n9, .slice o10 n11 n12]] w1 (fun e13 => fun w14 => ∃ b15, e13 = .returned (.bool b15) ∧
(b15 = true →
(false = true →
 R (.returned (.tuple #[.pointer none, .int .i64 1])) w14) ∧
(false = false →
(decide (wait < 1) = true →
 R (.returned (.tuple #[.pointer none, .int .i64 1])) w14) ∧
(decide (wait < 1) = false →
(decide (wait > 1099511627776) = true →
 R (.returned (.tuple #[.pointer none, .int .i64 1])) w14) ∧
(decide (wait > 1099511627776) = false →
(decide (beat < 1) = true →
 R (.returned (.tuple #[.pointer none, .int .i64 1])) w14) ∧
(decide (beat < 1) = false →
(decide (beat > 1099511627776) = true →
 R (.returned (.tuple #[.pointer none, .int .i64 1])) w14) ∧
(decide (beat > 1099511627776) = false →
 Calls Tryz.prog 23 #[.pointer (some ⟨t, 0, none⟩)] w14 (fun e27 => fun w28 => ∃ o29, ∃ x30, e27 = .returned (.tuple #[.pointer o29, .int .i64 x30]) ∧
((! (decide (x30 = 0))) = true →
 R (.returned (.tuple #[.pointer none, .int .i64 x30])) w28) ∧
((! (decide (x30 = 0))) = false →
 Calls Tryz.prog 24 #[.pointer o29] w28 (fun e33 => fun w34 => ∃ o35, ∃ x36, e33 = .returned (.tuple #[.pointer o35, .int .i64 x36]) ∧
((! (decide (x36 = 0))) = true →
 R (.returned (.tuple #[.pointer none, .int .i64 x36])) w34) ∧
((! (decide (x36 = 0))) = false →
 ∀ w39, w39 = w34.drew →
 ∃ o41, ∃ n42, ∃ n43, w39.cell? ⟨hs w, 0, none⟩ = some (.slice o41 n42 n43) ∧
 ∃ o44, ∃ n45, ∃ n46, w39.cell? ⟨hs w, 1, none⟩ = some (.slice o44 n45 n46) ∧
 Calls Tryz.prog 25 #[.slice o41 n42 n43] w39 (fun e47 => fun w48 => ∃ o49, ∃ n50, ∃ n51, e47 = .returned (.slice o49 n50 n51) ∧
 Kept w39 w48 ⟨hs w, 1, none⟩ 1 ∧
 Calls Tryz.prog 25 #[.slice o44 n45 n46] w48 (fun e52 => fun w53 => ∃ o54, ∃ n55, ∃ n56, e52 = .returned (.slice o54 n55 n56) ∧
 ∀ w57, w57 = w53.alloc (.cells #[.slice none 0 0, .slice none 0 0] 26 (0, 0)) →
 There w57 ⟨hs w53, 0, none⟩ 2 ∧
 ∀ w59, w59 = setCells w57 ⟨hs w53, 0, none⟩ [.slice o49 n50 n51, .slice o54 n55 n56] 0 →
 ∃ o61, ∃ n62, ∃ n63, w59.cell? ⟨hs w53, 0, none⟩ = some (.slice o61 n62 n63) ∧
 ∃ o64, ∃ n65, ∃ n66, w59.cell? ⟨hs w53, 1, none⟩ = some (.slice o64 n65 n66) ∧
 ∀ w67, w67 = w59.alloc (.cells #[.int .i64 id, .int .i64 wait, .int .i64 beat, .pointer o29, .pointer o35, .pointer none, .slice o61 n62 n63, .slice o64 n65 n66, .slice none 0 0, .slice none 0 0, .int .i64 0, .int .i64 1, .int .i64 (-1), .int .i64 0, .int .i64 0, .int .i64 0, .int .i64 0, .bool false, .bool false, .bool false, .bool false, .bool false, .bool false, .bool false, .bool false, .bool false, .int .i64 0, .int .i64 0, .int .i64 0, .int .i64 0, .int .i64 0, .int .i64 0, .int .i64 0, .int .i64 0, .int .i64 0, .int .i64 0, .int .i64 0, .int .i64 0, .int .i64 0, .int .i64 0, .int .i64 0, .int .i64 0, .int .i64 0, .int .i64 0, .int .i64 0, .bool false, .slice none 0 0] 76 (0, 0)) →
 Calls Tryz.prog 27 #[.pointer o29] w67 (fun e69 => fun w70 => ∃ o71, ∃ n72, ∃ n73, e69 = .returned (.slice o71 n72 n73) ∧
 Calls Tryz.prog 26 #[.slice o71 n72 n73] w70 (fun e74 => fun w75 => ∃ o76, ∃ x77, e74 = .returned (.tuple #[.pointer o76, .int .i64 x77]) ∧
 There w75 ⟨hs w59, 5, none⟩ 1 ∧
 ∀ w78, w78 = setCells w75 ⟨hs w59, 5, none⟩ [.pointer o76] 0 →
((! (decide (x77 = 0))) = true →
 R (.returned (.tuple #[.pointer none, .int .i64 x77])) w78) ∧
((! (decide (x77 = 0))) = false →
 Calls Tryz.prog 20 #[.pointer (some ⟨hs w59, 0, none⟩)] w78 (fun e82 => fun w83 => ∃ x84, e82 = .returned (.int .i64 x84) ∧
 Calls Tryz.prog 28 #[.pointer (some ⟨hs w59, 0, none⟩), .int .i64 x84] w83 (fun e85 => fun w86 => e85 = .returned (.tuple #[]) ∧
 Calls Tryz.prog 29 #[.pointer (some ⟨hs w59, 0, none⟩), .int .i64 now] w86 (fun e87 => fun w88 => ∃ x89, e87 = .returned (.int .i64 x89) ∧
 There w88 ⟨hs w59, 14, none⟩ 1 ∧
 ∀ w90, w90 = setCells w88 ⟨hs w59, 14, none⟩ [.int .i64 x89] 0 →
 R (.returned (.tuple #[.pointer (some ⟨hs w59, 0, none⟩), .int .i64 0])) w90))))))) ∧
 ∀ w92, w92 = w48.alloc (.cells #[.slice none 0 0, .slice none 0 0] 26 (0, 0)) →
 Kept w39 w92 ⟨hs w, 1, none⟩ 1 ∧
 Calls Tryz.prog 25 #[.slice o44 n45 n46] w92 (fun e94 => fun w95 => ∃ o96, ∃ n97, ∃ n98, e94 = .returned (.slice o96 n97 n98) ∧
 There w95 ⟨hs w48, 0, none⟩ 2 ∧
 ∀ w99, w99 = setCells w95 ⟨hs w48, 0, none⟩ [.slice o49 n50 n51, .slice o96 n97 n98] 0 →
 ∃ o101, ∃ n102, ∃ n103, w99.cell? ⟨hs w48, 0, none⟩ = some (.slice o101 n102 n103) ∧
 ∃ o104, ∃ n105, ∃ n106, w99.cell? ⟨hs w48, 1, none⟩ = some (.slice o104 n105 n106) ∧
 ∀ w107, w107 = w99.alloc (.cells #[.int .i64 id, .int .i64 wait, .int .i64 beat, .pointer o29, .pointer o35, .pointer none, .slice o101 n102 n103, .slice o104 n105 n106, .slice none 0 0, .slice none 0 0, .int .i64 0, .int .i64 1, .int .i64 (-1), .int .i64 0, .int .i64 0, .int .i64 0, .int .i64 0, .bool false, .bool false, .bool false, .bool false, .bool false, .bool false, .bool false, .bool false, .bool false, .int .i64 0, .int .i64 0, .int .i64 0, .int .i64 0, .int .i64 0, .int .i64 0, .int .i64 0, .int .i64 0, .int .i64 0, .int .i64 0, .int .i64 0, .int .i64 0, .int .i64 0, .int .i64 0, .int .i64 0, .int .i64 0, .int .i64 0, .int .i64 0, .int .i64 0, .bool false, .slice none 0 0] 76 (0, 0)) →
 Calls Tryz.prog 27 #[.pointer o29] w107 (fun e109 => fun w110 => ∃ o111, ∃ n112, ∃ n113, e109 = .returned (.slice o111 n112 n113) ∧
 Calls Tryz.prog 26 #[.slice o111 n112 n113] w110 (fun e114 => fun w115 => ∃ o116, ∃ x117, e114 = .returned (.tuple #[.pointer o116, .int .i64 x117]) ∧
 There w115 ⟨hs w99, 5, none⟩ 1 ∧
 ∀ w118, w118 = setCells w115 ⟨hs w99, 5, none⟩ [.pointer o116] 0 →
((! (decide (x117 = 0))) = true →
 R (.returned (.tuple #[.pointer none, .int .i64 x117])) w118) ∧
((! (decide (x117 = 0))) = false →
 Calls Tryz.prog 20 #[.pointer (some ⟨hs w99, 0, none⟩)] w118 (fun e122 => fun w123 => ∃ x124, e122 = .returned (.int .i64 x124) ∧
 Calls Tryz.prog 28 #[.pointer (some ⟨hs w99, 0, none⟩), .int .i64 x124] w123 (fun e125 => fun w126 => e125 = .returned (.tuple #[]) ∧
 Calls Tryz.prog 29 #[.pointer (some ⟨hs w99, 0, none⟩), .int .i64 now] w126 (fun e127 => fun w128 => ∃ x129, e127 = .returned (.int .i64 x129) ∧
 There w128 ⟨hs w99, 14, none⟩ 1 ∧
 ∀ w130, w130 = setCells w128 ⟨hs w99, 14, none⟩ [.int .i64 x129] 0 →
 R (.returned (.tuple #[.pointer (some ⟨hs w99, 0, none⟩), .int .i64 0])) w130)))))))) ∧
 ∀ w132, w132 = w39.alloc (.cells #[.slice none 0 0, .slice none 0 0] 26 (0, 0)) →
 Kept w39 w132 ⟨hs w, 1, none⟩ 1 ∧
 Kept w39 w132 ⟨hs w, 0, none⟩ 1 ∧
 Calls Tryz.prog 25 #[.slice o41 n42 n43] w132 (fun e134 => fun w135 => ∃ o136, ∃ n137, ∃ n138, e134 = .returned (.slice o136 n137 n138) ∧
 Kept w39 w135 ⟨hs w, 1, none⟩ 1 ∧
 Calls Tryz.prog 25 #[.slice o44 n45 n46] w135 (fun e139 => fun w140 => ∃ o141, ∃ n142, ∃ n143, e139 = .returned (.slice o141 n142 n143) ∧
 There w140 ⟨hs w39, 0, none⟩ 2 ∧
 ∀ w144, w144 = setCells w140 ⟨hs w39, 0, none⟩ [.slice o136 n137 n138, .slice o141 n142 n143] 0 →
 ∃ o146, ∃ n147, ∃ n148, w144.cell? ⟨hs w39, 0, none⟩ = some (.slice o146 n147 n148) ∧
 ∃ o149, ∃ n150, ∃ n151, w144.cell? ⟨hs w39, 1, none⟩ = some (.slice o149 n150 n151) ∧
 ∀ w152, w152 = w144.alloc (.cells #[.int .i64 id, .int .i64 wait, .int .i64 beat, .pointer o29, .pointer o35, .pointer none, .slice o146 n147 n148, .slice o149 n150 n151, .slice none 0 0, .slice none 0 0, .int .i64 0, .int .i64 1, .int .i64 (-1), .int .i64 0, .int .i64 0, .int .i64 0, .int .i64 0, .bool false, .bool false, .bool false, .bool false, .bool false, .bool false, .bool false, .bool false, .bool false, .int .i64 0, .int .i64 0, .int .i64 0, .int .i64 0, .int .i64 0, .int .i64 0, .int .i64 0, .int .i64 0, .int .i64 0, .int .i64 0, .int .i64 0, .int .i64 0, .int .i64 0, .int .i64 0, .int .i64 0, .int .i64 0, .int .i64 0, .int .i64 0, .int .i64 0, .bool false, .slice none 0 0] 76 (0, 0)) →
 Calls Tryz.prog 27 #[.pointer o29] w152 (fun e154 => fun w155 => ∃ o156, ∃ n157, ∃ n158, e154 = .returned (.slice o156 n157 n158) ∧
 Calls Tryz.prog 26 #[.slice o156 n157 n158] w155 (fun e159 => fun w160 => ∃ o161, ∃ x162, e159 = .returned (.tuple #[.pointer o161, .int .i64 x162]) ∧
 There w160 ⟨hs w144, 5, none⟩ 1 ∧
 ∀ w163, w163 = setCells w160 ⟨hs w144, 5, none⟩ [.pointer o161] 0 →
((! (decide (x162 = 0))) = true →
 R (.returned (.tuple #[.pointer none, .int .i64 x162])) w163) ∧
((! (decide (x162 = 0))) = false →
 Calls Tryz.prog 20 #[.pointer (some ⟨hs w144, 0, none⟩)] w163 (fun e167 => fun w168 => ∃ x169, e167 = .returned (.int .i64 x169) ∧
 Calls Tryz.prog 28 #[.pointer (some ⟨hs w144, 0, none⟩), .int .i64 x169] w168 (fun e170 => fun w171 => e170 = .returned (.tuple #[]) ∧
 Calls Tryz.prog 29 #[.pointer (some ⟨hs w144, 0, none⟩), .int .i64 now] w171 (fun e172 => fun w173 => ∃ x174, e172 = .returned (.int .i64 x174) ∧
 There w173 ⟨hs w144, 14, none⟩ 1 ∧
 ∀ w175, w175 = setCells w173 ⟨hs w144, 14, none⟩ [.int .i64 x174] 0 →
 R (.returned (.tuple #[.pointer (some ⟨hs w144, 0, none⟩), .int .i64 0])) w175)))))))))))))))))) ∧
(b15 = false →
 R (.returned (.tuple #[.pointer none, .int .i64 1])) w14)))))) :
    Calls Tryz.prog 7 #[(.int .i64 id), (.agg #[(.slice c_Old c_Old_n c_Old_c), (.slice c_New c_New_n c_New_c)]), (.pointer (some ⟨t, 0, none⟩)), (.int .i64 wait), (.int .i64 beat), (.int .i64 now)] w R :=
  calls_of_vc an7 Tryz.func7 rfl (by kernel_rfl) (by kernel_rfl) (Eq.mp (by kernel_rfl) h)

/-- (*samaritan/raft.Node).Tick -/
def an8 : An := (.seq (.reg []) (.seq (.reg []) (.cut [] (.blk (.seq (.reg [(4, 0, true)]) (.cond .nil (.seq (.reg [(4, 0, true)]) (.cond (.seq (.regD [(10, 0, true)] [0, 1, 2, 3, 4, 5, 6, 7, 8, 9, 10] []) (.cond (.seq (.reg []) (.reg [])) .nil)) (.seq (.regD [(10, 0, true), (13, 0, true)] [0, 1, 2, 3, 4, 5, 6, 7, 8, 9, 10, 11, 12, 13, 14, 15] [13]) (.cond (.reg []) .nil))))))) (.seq (.reg []) .nil))))
set_option maxRecDepth 100000 in
theorem nf8 (p : Nat) (now : Int) (w : World) (R : Ending → World → Prop) (h :
(Calls Tryz.prog 29 #[.pointer (some ⟨p, 0, none⟩), .int .i64 now] w (fun e1 => fun w2 => ∃ x3, e1 = .returned (.int .i64 x3) ∧
 ∀ k4 : (World →
 Prop), (∀ w6 : World, ((Nat →
 Value) →
 Calls Tryz.prog 33 #[.pointer (some ⟨p, 0, none⟩)] w6 (fun e9 => fun w10 => ∃ o11, ∃ n12, ∃ n13, e9 = .returned (.slice o11 n12 n13) ∧
 R (.returned (.slice o11 n12 n13)) w10)) →
 k4 w6) →
 ∃ x14, w2.cell? ⟨p, 44, none⟩ = some (.int .i64 x14) ∧
((! (decide (x14 = 0))) = true →
 k4 w2) ∧
((! (decide (x14 = 0))) = false →
 ∃ x17, w2.cell? ⟨p, 11, none⟩ = some (.int .i64 x17) ∧
(decide (x17 = 3) = true →
 ∀ w19, w19 = w2.drew →
 ∃ x21, w19.cell? ⟨p, 15, none⟩ = some (.int .i64 x21) ∧
 ∃ x22, w19.cell? ⟨p, 2, none⟩ = some (.int .i64 x22) ∧
(decide (IntKind.wrap .i64 (x3 - x21) ≥ x22) = true →
 There w19 ⟨p, 15, none⟩ 1 ∧
 ∀ w24, w24 = setCells w19 ⟨p, 15, none⟩ [.int .i64 x3] 0 →
 Calls Tryz.prog 30 #[.pointer (some ⟨p, 0, none⟩)] w24 (fun e26 => fun w27 => e26 = .returned (.tuple #[]) ∧
 k4 w27)) ∧
(decide (IntKind.wrap .i64 (x3 - x21) ≥ x22) = false →
 k4 w19)) ∧
(decide (x17 = 3) = false →
 ∀ w30, w30 = w2.drew →
 ∃ x32, w30.cell? ⟨p, 14, none⟩ = some (.int .i64 x32) ∧
 ∃ x33, w30.cell? ⟨p, 1, none⟩ = some (.int .i64 x33) ∧
(decide (IntKind.wrap .i64 (x3 - x32) ≥ x33) = true →
 Calls Tryz.prog 31 #[.pointer (some ⟨p, 0, none⟩)] w30 (fun e35 => fun w36 => ∃ b37, e35 = .returned (.bool b37) ∧
(b37 = true →
 Calls Tryz.prog 32 #[.pointer (some ⟨p, 0, none⟩), .int .i64 x3] w36 (fun e39 => fun w40 => e39 = .returned (.tuple #[]) ∧
 k4 w40)) ∧
(b37 = false →
 k4 w36))) ∧
(decide (IntKind.wrap .i64 (x3 - x32) ≥ x33) = false →
 k4 w30)))))) :
    Calls Tryz.prog 8 #[(.pointer (some ⟨p, 0, none⟩)), (.int .i64 now)] w R :=
  calls_of_vc an8 Tryz.func8 rfl (by kernel_rfl) (by kernel_rfl) (Eq.mp (by kernel_rfl) h)

/-- (*samaritan/raft.Node).Propose -/
def an11 : An := (.seq (.reg []) (.seq (.seq (.reg [(4, 0, true)]) (.cond (.seq (.reg []) .nil) .nil)) (.seq (.seq (.reg [(2, 0, true)]) (.cond (.seq (.reg []) .nil) .nil)) (.seq (.reg []) .nil))))
set_option maxRecDepth 100000 in
theorem nf11 (p : Nat) (body : Option Addr) (body_n : Nat) (body_c : Nat) (w : World) (R : Ending → World → Prop) (h :
(∃ x1, w.cell? ⟨p, 11, none⟩ = some (.int .i64 x1) ∧
((! (decide (x1 = 3))) = true →
 R (.returned (.tuple #[.int .i64 0, .slice none 0 0, .int .i64 14])) w) ∧
((! (decide (x1 = 3))) = false →
(decide (((body_n : Nat) : Int) > 4096) = true →
 R (.returned (.tuple #[.int .i64 0, .slice none 0 0, .int .i64 3])) w) ∧
(decide (((body_n : Nat) : Int) > 4096) = false →
 Calls Tryz.prog 34 #[.pointer (some ⟨p, 0, none⟩), .int .i64 2, .slice body body_n body_c] w (fun e6 => fun w7 => ∃ x8, ∃ o9, ∃ n10, ∃ n11, ∃ x12, e6 = .returned (.tuple #[.int .i64 x8, .slice o9 n10 n11, .int .i64 x12]) ∧
 R (.returned (.tuple #[.int .i64 x8, .slice o9 n10 n11, .int .i64 x12])) w7))))) :
    Calls Tryz.prog 11 #[(.pointer (some ⟨p, 0, none⟩)), (.slice body body_n body_c)] w R :=
  calls_of_vc an11 Tryz.func11 rfl (by kernel_rfl) (by kernel_rfl) (Eq.mp (by kernel_rfl) h)

/-- (*samaritan/raft.Node).Leader -/
def an14 : An := (.seq (.reg []) (.seq (.reg []) .nil))
set_option maxRecDepth 100000 in
theorem nf14 (p : Nat) (w : World) (R : Ending → World → Prop) (h :
(∃ x1, w.cell? ⟨p, 12, none⟩ = some (.int .i64 x1) ∧
 R (.returned (.int .i64 x1)) w)) :
    Calls Tryz.prog 14 #[(.pointer (some ⟨p, 0, none⟩))] w R :=
  calls_of_vc an14 Tryz.func14 rfl (by kernel_rfl) (by kernel_rfl) (Eq.mp (by kernel_rfl) h)

/-- (*samaritan/raft.Node).Role -/
def an15 : An := (.seq (.reg []) (.seq (.reg []) .nil))
set_option maxRecDepth 100000 in
theorem nf15 (p : Nat) (w : World) (R : Ending → World → Prop) (h :
(∃ x1, w.cell? ⟨p, 11, none⟩ = some (.int .i64 x1) ∧
 R (.returned (.int .i64 x1)) w)) :
    Calls Tryz.prog 15 #[(.pointer (some ⟨p, 0, none⟩))] w R :=
  calls_of_vc an15 Tryz.func15 rfl (by kernel_rfl) (by kernel_rfl) (Eq.mp (by kernel_rfl) h)

/-- (*samaritan/raft.Node).Entry -/
def an16 : An := (.seq (.reg []) (.seq (.reg [(7, 0, true)]) .nil))
set_option maxRecDepth 100000 in
theorem nf16 (p : Nat) (n : Int) (w : World) (R : Ending → World → Prop) (h :
(∀ w1, w1 = w.alloc (.cells #[.int .i64 0, .int .i64 0, .slice none 0 0] 49 (0, 0)) →
 ∃ o3, w1.cell? ⟨p, 5, none⟩ = some (.pointer o3) ∧
 Calls Tryz.prog 46 #[.pointer o3, .int .i64 n] w1 (fun e4 => fun w5 => ∃ x6, ∃ x7, ∃ o8, ∃ n9, ∃ n10, ∃ b11, e4 = .returned (.tuple #[.agg #[.int .i64 x6, .int .i64 x7, .slice o8 n9 n10], .bool b11]) ∧
(b11 = true →
 There w5 ⟨hs w, 0, none⟩ 3 ∧
 ∀ w13, w13 = setCells w5 ⟨hs w, 0, none⟩ [.int .i64 x6, .int .i64 x7, .slice o8 n9 n10] 0 →
 ∃ x15, w13.cell? ⟨hs w, 0, none⟩ = some (.int .i64 x15) ∧
 ∃ x16, w13.cell? ⟨hs w, 1, none⟩ = some (.int .i64 x16) ∧
 ∃ o17, ∃ n18, ∃ n19, w13.cell? ⟨hs w, 2, none⟩ = some (.slice o17 n18 n19) ∧
 R (.returned (.tuple #[.agg #[.int .i64 x15, .int .i64 x16, .slice o17 n18 n19], .bool true])) w13) ∧
(b11 = false →
 There w5 ⟨hs w, 0, none⟩ 3 ∧
 ∀ w21, w21 = setCells w5 ⟨hs w, 0, none⟩ [.int .i64 x6, .int .i64 x7, .slice o8 n9 n10] 0 →
 ∃ x23, w21.cell? ⟨hs w, 0, none⟩ = some (.int .i64 x23) ∧
 ∃ x24, w21.cell? ⟨hs w, 1, none⟩ = some (.int .i64 x24) ∧
 ∃ o25, ∃ n26, ∃ n27, w21.cell? ⟨hs w, 2, none⟩ = some (.slice o25 n26 n27) ∧
 R (.returned (.tuple #[.agg #[.int .i64 x23, .int .i64 x24, .slice o25 n26 n27], .bool false])) w21)))) :
    Calls Tryz.prog 16 #[(.pointer (some ⟨p, 0, none⟩)), (.int .i64 n)] w R :=
  calls_of_vc an16 Tryz.func16 rfl (by kernel_rfl) (by kernel_rfl) (Eq.mp (by kernel_rfl) h)

/-- (*samaritan/raft.Node).CommitIndex -/
def an17 : An := (.seq (.reg []) (.seq (.reg []) .nil))
set_option maxRecDepth 100000 in
theorem nf17 (p : Nat) (w : World) (R : Ending → World → Prop) (h :
(∃ x1, w.cell? ⟨p, 13, none⟩ = some (.int .i64 x1) ∧
 R (.returned (.int .i64 x1)) w)) :
    Calls Tryz.prog 17 #[(.pointer (some ⟨p, 0, none⟩))] w R :=
  calls_of_vc an17 Tryz.func17 rfl (by kernel_rfl) (by kernel_rfl) (Eq.mp (by kernel_rfl) h)

/-- (*samaritan/raft.Node).ChangeMembers -/
def an18 : An := (.seq (.reg []) (.seq (.seq (.reg [(4, 0, true)]) (.cond (.seq (.reg []) .nil) .nil)) (.seq (.seq (.regD [(6, 0, true), (16, 0, true)] [0, 1, 2, 3, 4, 5, 6, 7, 8, 9, 10, 11, 12, 13, 14, 15, 16, 17] []) (.cond (.seq (.reg []) .nil) .nil)) (.seq (.reg []) (.seq (.seq (.reg [(1, 0, true), (4, 0, true)]) (.cond (.seq (.reg []) .nil) .nil)) (.seq (.reg []) .nil))))))
set_option maxRecDepth 100000 in
theorem nf18 (p : Nat) (next' : Option Addr) (next'_n : Nat) (next'_c : Nat) (w : World) (R : Ending → World → Prop) (h :
(∃ x1, w.cell? ⟨p, 11, none⟩ = some (.int .i64 x1) ∧
((! (decide (x1 = 3))) = true →
 R (.returned (.tuple #[.int .i64 0, .slice none 0 0, .int .i64 14])) w) ∧
((! (decide (x1 = 3))) = false →
 ∀ w4, w4 = w.drew →
 ∃ o6, ∃ n7, ∃ n8, w4.cell? ⟨p, 9, none⟩ = some (.slice o6 n7 n8) ∧
(decide (((n7 : Nat) : Int) > 0) = true →
 R (.returned (.tuple #[.int .i64 0, .slice none 0 0, .int .i64 10])) w4) ∧
(decide (((n7 : Nat) : Int) > 0) = false →
 ∃ x11, w4.cell? ⟨p, 10, none⟩ = some (.int .i64 x11) ∧
 ∃ x12, w4.cell? ⟨p, 13, none⟩ = some (.int .i64 x12) ∧
(decide (x11 > x12) = true →
 R (.returned (.tuple #[.int .i64 0, .slice none 0 0, .int .i64 10])) w4) ∧
(decide (x11 > x12) = false →
 ∃ o15, ∃ n16, ∃ n17, w4.cell? ⟨p, 8, none⟩ = some (.slice o15 n16 n17) ∧
 ∃ o18, ∃ n19, ∃ n20, w4.cell? ⟨p, 9, none⟩ = some (.slice o18 n19 n20) ∧
 Calls Tryz.prog 47 #[.agg #[.slice o15 n16 n17, .slice o18 n19 n20], .slice next' next'_n next'_c] w4 (fun e21 => fun w22 => ∃ o23, ∃ n24, ∃ n25, ∃ o26, ∃ n27, ∃ n28, ∃ x29, e21 = .returned (.tuple #[.agg #[.slice o23 n24 n25, .slice o26 n27 n28], .int .i64 x29]) ∧
 ∀ w30, w30 = w22.alloc (.cells #[.slice none 0 0, .slice none 0 0] 26 (0, 0)) →
 There w30 ⟨hs w22, 0, none⟩ 2 ∧
 ∀ w32, w32 = setCells w30 ⟨hs w22, 0, none⟩ [.slice o23 n24 n25, .slice o26 n27 n28] 0 →
((! (decide (x29 = 0))) = true →
 R (.returned (.tuple #[.int .i64 0, .slice none 0 0, .int .i64 1])) w32) ∧
((! (decide (x29 = 0))) = false →
 ∃ o36, ∃ n37, ∃ n38, w32.cell? ⟨hs w22, 0, none⟩ = some (.slice o36 n37 n38) ∧
 ∃ o39, ∃ n40, ∃ n41, w32.cell? ⟨hs w22, 1, none⟩ = some (.slice o39 n40 n41) ∧
 Calls Tryz.prog 22 #[.agg #[.slice o36 n37 n38, .slice o39 n40 n41]] w32 (fun e42 => fun w43 => ∃ b44, e42 = .returned (.bool b44) ∧
(b44 = true →
 ∃ o46, ∃ n47, ∃ n48, w43.cell? ⟨hs w22, 0, none⟩ = some (.slice o46 n47 n48) ∧
 ∃ o49, ∃ n50, ∃ n51, w43.cell? ⟨hs w22, 1, none⟩ = some (.slice o49 n50 n51) ∧
 Calls Tryz.prog 48 #[.agg #[.slice o46 n47 n48, .slice o49 n50 n51]] w43 (fun e52 => fun w53 => ∃ o54, ∃ n55, ∃ n56, e52 = .returned (.slice o54 n55 n56) ∧
 Calls Tryz.prog 34 #[.pointer (some ⟨p, 0, none⟩), .int .i64 3, .slice o54 n55 n56] w53 (fun e57 => fun w58 => ∃ x59, ∃ o60, ∃ n61, ∃ n62, ∃ x63, e57 = .returned (.tuple #[.int .i64 x59, .slice o60 n61 n62, .int .i64 x63]) ∧
 R (.returned (.tuple #[.int .i64 x59, .slice o60 n61 n62, .int .i64 x63])) w58))) ∧
(b44 = false →
 R (.returned (.tuple #[.int .i64 0, .slice none 0 0, .int .i64 1])) w43))))))))) :
    Calls Tryz.prog 18 #[(.pointer (some ⟨p, 0, none⟩)), (.slice next' next'_n next'_c)] w R :=
  calls_of_vc an18 Tryz.func18 rfl (by kernel_rfl) (by kernel_rfl) (Eq.mp (by kernel_rfl) h)

/-- (*samaritan/raft.Node).Term -/
def an19 : An := (.seq (.reg []) (.seq (.reg []) .nil))
set_option maxRecDepth 100000 in
theorem nf19 (p : Nat) (w : World) (R : Ending → World → Prop) (h :
(∃ o1, w.cell? ⟨p, 4, none⟩ = some (.pointer o1) ∧
 Calls Tryz.prog 36 #[.pointer o1] w (fun e2 => fun w3 => ∃ x4, e2 = .returned (.int .i64 x4) ∧
 R (.returned (.int .i64 x4)) w3))) :
    Calls Tryz.prog 19 #[(.pointer (some ⟨p, 0, none⟩))] w R :=
  calls_of_vc an19 Tryz.func19 rfl (by kernel_rfl) (by kernel_rfl) (Eq.mp (by kernel_rfl) h)

/-- (*samaritan/raft.Node).LastIndex -/
def an20 : An := (.seq (.reg []) (.seq (.reg []) (.seq (.reg []) .nil)))
set_option maxRecDepth 100000 in
theorem nf20 (p : Nat) (w : World) (R : Ending → World → Prop) (h :
(∃ o1, w.cell? ⟨p, 5, none⟩ = some (.pointer o1) ∧
 Calls Tryz.prog 49 #[.pointer o1] w (fun e2 => fun w3 => ∃ x4, ∃ x5, e2 = .returned (.tuple #[.int .i64 x4, .int .i64 x5]) ∧
 R (.returned (.int .i64 x4)) w3))) :
    Calls Tryz.prog 20 #[(.pointer (some ⟨p, 0, none⟩))] w R :=
  calls_of_vc an20 Tryz.func20 rfl (by kernel_rfl) (by kernel_rfl) (Eq.mp (by kernel_rfl) h)

/-- samaritan/raft.permitted -/
def an22 : An := (.seq (.reg []) (.seq (.seq (.reg [(1, 0, true)]) (.cond (.seq (.reg []) .nil) .nil)) (.seq (.reg []) (.seq (.reg [(6, 0, true)]) .nil))))
set_option maxRecDepth 100000 in
theorem nf22 (c_Old : Option Addr) (c_Old_n : Nat) (c_Old_c : Nat) (c_New : Option Addr) (c_New_n : Nat) (c_New_c : Nat) (w : World) (R : Ending → World → Prop) (h :
(∀ w1, w1 = w.alloc (.cells #[.slice c_Old c_Old_n c_Old_c, .slice c_New c_New_n c_New_c] 26 (0, 0)) →
 ∃ o3, ∃ n4, ∃ n5, w1.cell? ⟨hs w, 0, none⟩ = some (.slice o3 n4 n5) ∧
 ∃ o6, ∃ n7, ∃ n8, w1.cell? ⟨hs w, 1, none⟩ = some (.slice o6 n7 n8) ∧
 Calls Tryz.prog 51 #[.agg #[.slice o3 n4 n5, .slice o6 n7 n8]] w1 (fun e9 => fun w10 => ∃ b11, e9 = .returned (.bool b11) ∧
(b11 = true →
 ∃ o13, ∃ n14, ∃ n15, w10.cell? ⟨hs w, 0, none⟩ = some (.slice o13 n14 n15) ∧
 ∃ o16, ∃ n17, ∃ n18, w10.cell? ⟨hs w, 1, none⟩ = some (.slice o16 n17 n18) ∧
 Calls Tryz.prog 52 #[.agg #[.slice o13 n14 n15, .slice o16 n17 n18]] w10 (fun e19 => fun w20 => ∃ o21, ∃ n22, ∃ n23, e19 = .returned (.slice o21 n22 n23) ∧
 ∃ a24 : Addr, o21 = some a24 ∧
((0 : Int) ≤ IntKind.wrap .i64 (((n22 : Nat) : Int) - 1) ∧
 IntKind.wrap .i64 (((n22 : Nat) : Int) - 1) < ((n22 : Nat) : Int)) ∧
 ∃ x25, w20.cell? (Addr.add a24 ((IntKind.wrap .i64 (((n22 : Nat) : Int) - 1)).toNat * 1)) = some (.int .i64 x25) ∧
(decide (x25 < 9) = true →
 R (.returned (.bool true)) w20) ∧
(decide (x25 < 9) = false →
 R (.returned (.bool false)) w20))) ∧
(b11 = false →
 R (.returned (.bool false)) w10)))) :
    Calls Tryz.prog 22 #[(.agg #[(.slice c_Old c_Old_n c_Old_c), (.slice c_New c_New_n c_New_c)])] w R :=
  calls_of_vc an22 Tryz.func22 rfl (by kernel_rfl) (by kernel_rfl) (Eq.mp (by kernel_rfl) h)

/-- samaritan/raft.restore -/
def an26 : An := (.seq (.reg []) (.seq (.reg []) (.seq (.seq (.reg []) (.blk (.loop [(4, .slice), (17, .int .i64)] (.seq (.reg [(0, 0, true)]) (.seq (.cond .nil .nil) (.cut [(4, .slice)] (.blk (.seq (.reg []) (.seq (.seq (.reg [(2, 0, true)]) (.cond .nil .nil)) (.seq (.reg [(6, 0, true)]) (.seq (.seq (.reg [(4, 0, true), (11, 0, true)]) (.cond (.seq (.reg []) .nil) .nil)) (.seq (.seq (.regD [(1, 0, true), (11, 0, true)] [0, 1, 2, 3, 4, 5, 6, 7, 8, 9, 10, 11, 12] []) (.cond (.seq (.reg []) .nil) .nil)) (.regD [(3, 2, false), (6, 1, false)] [0, 1, 2, 3, 4, 5, 6, 7] [5, 6]))))))) (.reg []))))))) (.seq (.reg []) (.seq (.seq (.reg []) (.blk (.loop [(68, .int .i64)] (.seq (.reg [(0, 0, true)]) (.seq (.cond .nil .nil) (.seq (.blk (.seq (.reg []) (.seq (.reg []) (.seq (.reg [(1, 0, true)]) (.cond (.seq (.reg []) .nil) .nil))))) (.reg []))))))) (.seq (.reg []) .nil))))))
set_option maxRecDepth 100000 in
theorem nf26 (records : Option Addr) (records_n : Nat) (records_c : Nat) (w : World) (R : Ending → World → Prop) (h :
(∃ k1 : (Nat →
 Option Addr →
 Nat →
 Nat →
 Int →
 World →
 Prop), (∃ n2, k1 n2 none 0 0 0 w) ∧
 ∀ n3 : Nat, (Nat →
 Value) →
 ∀ w5 : World, ∀ o6 : Option Addr, ∀ n7 : Nat, ∀ n8 : Nat, ∀ x9 : Int, k1 n3 o6 n7 n8 x9 w5 →
(decide (x9 < ((records_n : Nat) : Int)) = true →
 ∀ k12 : (Option Addr →
 Nat →
 Nat →
 World →
 Prop), (∀ w14 : World, ∀ o15 : Option Addr, ∀ n16 : Nat, ∀ n17 : Nat, ((Nat →
 Value) →
 ∃ n20, n20 < n3 ∧
 k1 n20 o15 n16 n17 (IntKind.wrap .i64 (x9 + 1)) w14) →
 k12 o15 n16 n17 w14) →
 ∃ a21 : Addr, records = some a21 ∧
((0 : Int) ≤ x9 ∧
 x9 < ((records_n : Nat) : Int)) ∧
 ∃ x22, w5.cell? (Addr.add a21 ((x9).toNat * 2)) = some (.int .u8 x22) ∧
 ∃ o23, ∃ n24, ∃ n25, w5.cell? (Addr.add (Addr.add a21 ((x9).toNat * 2)) 1) = some (.slice o23 n24 n25) ∧
 ∀ w26, w26 = w5.alloc (.cells #[.int .u8 0, .slice none 0 0] 104 (0, 0)) →
 There w26 ⟨hs w5, 0, none⟩ 2 ∧
 ∀ w28, w28 = setCells w26 ⟨hs w5, 0, none⟩ [.int .u8 x22, .slice o23 n24 n25] 0 →
 ∃ x30, w28.cell? ⟨hs w5, 0, none⟩ = some (.int .u8 x30) ∧
((! (decide (x30 = 69))) = true →
 k12 o6 n7 n8 w28) ∧
((! (decide (x30 = 69))) = false →
 ∃ o33, ∃ n34, ∃ n35, w28.cell? ⟨hs w5, 1, none⟩ = some (.slice o33 n34 n35) ∧
 Calls Tryz.prog 60 #[.slice o33 n34 n35] w28 (fun e36 => fun w37 => ∃ x38, ∃ x39, ∃ x40, ∃ o41, ∃ n42, ∃ n43, ∃ b44, e36 = .returned (.tuple #[.int .i64 x38, .agg #[.int .i64 x39, .int .i64 x40, .slice o41 n42 n43], .bool b44]) ∧
(b44 = true →
 ∀ w46, w46 = w37.alloc (.cells #[.int .i64 0, .int .i64 0, .slice none 0 0] 49 (0, 0)) →
 There w46 ⟨hs w37, 0, none⟩ 3 ∧
 ∀ w48, w48 = setCells w46 ⟨hs w37, 0, none⟩ [.int .i64 x39, .int .i64 x40, .slice o41 n42 n43] 0 →
(decide (x38 < 1) = true →
 R (.returned (.tuple #[.pointer none, .int .i64 2])) w48) ∧
(decide (x38 < 1) = false →
(decide (x38 > IntKind.wrap .i64 (((n7 : Nat) : Int) + 1)) = true →
 R (.returned (.tuple #[.pointer none, .int .i64 2])) w48) ∧
(decide (x38 > IntKind.wrap .i64 (((n7 : Nat) : Int) + 1)) = false →
 ∀ w54, w54 = w48.drew →
(decide (x38 > 1) = true →
 ∃ x57, w54.cell? ⟨hs w37, 0, none⟩ = some (.int .i64 x57) ∧
 ∃ a58 : Addr, o6 = some a58 ∧
((0 : Int) ≤ IntKind.wrap .i64 (x38 - 2) ∧
 IntKind.wrap .i64 (x38 - 2) < ((n7 : Nat) : Int)) ∧
 ∃ x59, w54.cell? (Addr.add a58 ((IntKind.wrap .i64 (x38 - 2)).toNat * 3)) = some (.int .i64 x59) ∧
(decide (x57 < x59) = true →
 R (.returned (.tuple #[.pointer none, .int .i64 2])) w54) ∧
(decide (x57 < x59) = false →
 ∀ w62, w62 = w54.drew →
((0 : Int) ≤ IntKind.wrap .i64 (x38 - 1) ∧
 IntKind.wrap .i64 (x38 - 1) ≤ ((n8 : Nat) : Int)) ∧
 ∃ x64, w62.cell? ⟨hs w37, 0, none⟩ = some (.int .i64 x64) ∧
 ∃ x65, w62.cell? ⟨hs w37, 1, none⟩ = some (.int .i64 x65) ∧
 ∃ o66, ∃ n67, ∃ n68, w62.cell? ⟨hs w37, 2, none⟩ = some (.slice o66 n67 n68) ∧
 ∀ w69, w69 = w62.alloc (.cells #[.int .i64 x64, .int .i64 x65, .slice o66 n67 n68] 49 (0, 0)) →
 RunOk Tryz.prog (Hold (Builtin.append_ #[43, 43] 43 #[.slice (if (n8 = 0) then o6 else (Option.map (fun (x : Addr) => x) o6)) ((IntKind.wrap .i64 (x38 - 1)).toNat - 0) (n8 - 0), .slice (some ⟨hs w62, 0, none⟩) 1 1])) w69 (fun v71 => fun w72 => ∃ o73, ∃ n74, ∃ n75, v71 = .slice o73 n74 n75 ∧
 k12 o73 n74 n75 w72))) ∧
(decide (x38 > 1) = false →
 ∀ w77, w77 = w54.drew →
((0 : Int) ≤ IntKind.wrap .i64 (x38 - 1) ∧
 IntKind.wrap .i64 (x38 - 1) ≤ ((n8 : Nat) : Int)) ∧
 ∃ x79, w77.cell? ⟨hs w37, 0, none⟩ = some (.int .i64 x79) ∧
 ∃ x80, w77.cell? ⟨hs w37, 1, none⟩ = some (.int .i64 x80) ∧
 ∃ o81, ∃ n82, ∃ n83, w77.cell? ⟨hs w37, 2, none⟩ = some (.slice o81 n82 n83) ∧
 ∀ w84, w84 = w77.alloc (.cells #[.int .i64 x79, .int .i64 x80, .slice o81 n82 n83] 49 (0, 0)) →
 RunOk Tryz.prog (Hold (Builtin.append_ #[43, 43] 43 #[.slice (if (n8 = 0) then o6 else (Option.map (fun (x : Addr) => x) o6)) ((IntKind.wrap .i64 (x38 - 1)).toNat - 0) (n8 - 0), .slice (some ⟨hs w77, 0, none⟩) 1 1])) w84 (fun v86 => fun w87 => ∃ o88, ∃ n89, ∃ n90, v86 = .slice o88 n89 n90 ∧
 k12 o88 n89 n90 w87))))) ∧
(b44 = false →
 ∀ w92, w92 = w37.alloc (.cells #[.int .i64 0, .int .i64 0, .slice none 0 0] 49 (0, 0)) →
 There w92 ⟨hs w37, 0, none⟩ 3 ∧
 ∀ w94, w94 = setCells w92 ⟨hs w37, 0, none⟩ [.int .i64 x39, .int .i64 x40, .slice o41 n42 n43] 0 →
 R (.returned (.tuple #[.pointer none, .int .i64 2])) w94)))) ∧
(decide (x9 < ((records_n : Nat) : Int)) = false →
 Calls Tryz.prog 61 #[] w5 (fun e97 => fun w98 => ∃ o99, e97 = .returned (.pointer o99) ∧
 ∃ k100 : (Nat →
 Int →
 World →
 Prop), (∃ n101, k100 n101 0 w98) ∧
 ∀ n102 : Nat, (Nat →
 Value) →
 ∀ w104 : World, ∀ x105 : Int, k100 n102 x105 w104 →
(decide (x105 < ((n7 : Nat) : Int)) = true →
 ∃ a108 : Addr, o6 = some a108 ∧
((0 : Int) ≤ x105 ∧
 x105 < ((n7 : Nat) : Int)) ∧
 ∃ x109, w104.cell? (Addr.add a108 ((x105).toNat * 3)) = some (.int .i64 x109) ∧
 ∃ x110, w104.cell? (Addr.add (Addr.add a108 ((x105).toNat * 3)) 1) = some (.int .i64 x110) ∧
 ∃ o111, ∃ n112, ∃ n113, w104.cell? (Addr.add (Addr.add a108 ((x105).toNat * 3)) 2) = some (.slice o111 n112 n113) ∧
 ∀ w114, w114 = w104.alloc (.cells #[.int .i64 0, .int .i64 0, .slice none 0 0] 49 (0, 0)) →
 There w114 ⟨hs w104, 0, none⟩ 3 ∧
 ∀ w116, w116 = setCells w114 ⟨hs w104, 0, none⟩ [.int .i64 x109, .int .i64 x110, .slice o111 n112 n113] 0 →
 ∃ x118, w116.cell? ⟨hs w104, 0, none⟩ = some (.int .i64 x118) ∧
 ∃ x119, w116.cell? ⟨hs w104, 1, none⟩ = some (.int .i64 x119) ∧
 ∃ o120, ∃ n121, ∃ n122, w116.cell? ⟨hs w104, 2, none⟩ = some (.slice o120 n121 n122) ∧
 Calls Tryz.prog 62 #[.pointer o99, .agg #[.int .i64 x118, .int .i64 x119, .slice o120 n121 n122]] w116 (fun e123 => fun w124 => ∃ x125, ∃ x126, e123 = .returned (.tuple #[.int .i64 x125, .int .i64 x126]) ∧
((! (decide (x126 = 0))) = true →
 R (.returned (.tuple #[.pointer none, .int .i64 2])) w124) ∧
((! (decide (x126 = 0))) = false →
 ∃ n129, n129 < n102 ∧
 k100 n129 (IntKind.wrap .i64 (x105 + 1)) w124))) ∧
(decide (x105 < ((n7 : Nat) : Int)) = false →
 R (.returned (.tuple #[.pointer o99, .int .i64 0])) w104))))) :
    Calls Tryz.prog 26 #[(.slice records records_n records_c)] w R :=
  calls_of_vc an26 Tryz.func26 rfl (by kernel_rfl) (by kernel_rfl) (Eq.mp (by kernel_rfl) h)

/-- (*samaritan/raft.Node).findMembership -/
def an28 : An := (.seq (.seq (.reg []) (.blk (.loop [(4, .int .i64)] (.seq (.seq (.reg [(1, 0, true)]) (.cond .nil .nil)) (.seq (.blk (.seq (.reg [(8, 0, true)]) (.seq (.reg [(4, 0, true)]) (.seq (.reg []) (.cond (.seq (.reg []) .nil) .nil))))) (.reg [])))))) (.reg []))
set_option maxRecDepth 100000 in
theorem nf28 (p : Nat) (last : Int) (w : World) (R : Ending → World → Prop) (h :
(∃ k1 : (Nat →
 Int →
 World →
 Prop), (∃ n2, k1 n2 last w) ∧
 ∀ n3 : Nat, (Nat →
 Value) →
 ∀ w5 : World, ∀ x6 : Int, k1 n3 x6 w5 →
(decide (x6 ≥ 1) = true →
 ∃ o9, w5.cell? ⟨p, 5, none⟩ = some (.pointer o9) ∧
 Calls Tryz.prog 46 #[.pointer o9, .int .i64 x6] w5 (fun e10 => fun w11 => ∃ x12, ∃ x13, ∃ o14, ∃ n15, ∃ n16, ∃ b17, e10 = .returned (.tuple #[.agg #[.int .i64 x12, .int .i64 x13, .slice o14 n15 n16], .bool b17]) ∧
(b17 = true →
 ∀ w19, w19 = w11.alloc (.cells #[.int .i64 0, .int .i64 0, .slice none 0 0] 49 (0, 0)) →
 There w19 ⟨hs w11, 0, none⟩ 3 ∧
 ∀ w21, w21 = setCells w19 ⟨hs w11, 0, none⟩ [.int .i64 x12, .int .i64 x13, .slice o14 n15 n16] 0 →
 ∃ x23, w21.cell? ⟨hs w11, 0, none⟩ = some (.int .i64 x23) ∧
 ∃ x24, w21.cell? ⟨hs w11, 1, none⟩ = some (.int .i64 x24) ∧
 ∃ o25, ∃ n26, ∃ n27, w21.cell? ⟨hs w11, 2, none⟩ = some (.slice o25 n26 n27) ∧
 Calls Tryz.prog 63 #[.agg #[.int .i64 x23, .int .i64 x24, .slice o25 n26 n27]] w21 (fun e28 => fun w29 => ∃ o30, ∃ n31, ∃ n32, ∃ o33, ∃ n34, ∃ n35, ∃ b36, e28 = .returned (.tuple #[.agg #[.slice o30 n31 n32, .slice o33 n34 n35], .bool b36]) ∧
(b36 = true →
 ∀ w38, w38 = w29.alloc (.cells #[.slice none 0 0, .slice none 0 0] 26 (0, 0)) →
 There w38 ⟨hs w29, 0, none⟩ 2 ∧
 ∀ w40, w40 = setCells w38 ⟨hs w29, 0, none⟩ [.slice o30 n31 n32, .slice o33 n34 n35] 0 →
 ∃ o42, ∃ n43, ∃ n44, w40.cell? ⟨hs w29, 0, none⟩ = some (.slice o42 n43 n44) ∧
 ∃ o45, ∃ n46, ∃ n47, w40.cell? ⟨hs w29, 1, none⟩ = some (.slice o45 n46 n47) ∧
 There w40 ⟨p, 8, none⟩ 2 ∧
 ∀ w48, w48 = setCells w40 ⟨p, 8, none⟩ [.slice o42 n43 n44, .slice o45 n46 n47] 0 →
 There w48 ⟨p, 10, none⟩ 1 ∧
 ∀ w50, w50 = setCells w48 ⟨p, 10, none⟩ [.int .i64 x6] 0 →
 R (.returned (.tuple #[])) w50) ∧
(b36 = false →
 ∀ w53, w53 = w29.alloc (.cells #[.slice none 0 0, .slice none 0 0] 26 (0, 0)) →
 There w53 ⟨hs w29, 0, none⟩ 2 ∧
 ∀ w55, w55 = setCells w53 ⟨hs w29, 0, none⟩ [.slice o30 n31 n32, .slice o33 n34 n35] 0 →
 ∃ n57, n57 < n3 ∧
 k1 n57 (IntKind.wrap .i64 (x6 - 1)) w55))) ∧
(b17 = false →
 ∀ w59, w59 = w11.alloc (.cells #[.int .i64 0, .int .i64 0, .slice none 0 0] 49 (0, 0)) →
 There w59 ⟨hs w11, 0, none⟩ 3 ∧
 ∀ w61, w61 = setCells w59 ⟨hs w11, 0, none⟩ [.int .i64 x12, .int .i64 x13, .slice o14 n15 n16] 0 →
 ∃ x63, w61.cell? ⟨hs w11, 0, none⟩ = some (.int .i64 x63) ∧
 ∃ x64, w61.cell? ⟨hs w11, 1, none⟩ = some (.int .i64 x64) ∧
 ∃ o65, ∃ n66, ∃ n67, w61.cell? ⟨hs w11, 2, none⟩ = some (.slice o65 n66 n67) ∧
 Calls Tryz.prog 63 #[.agg #[.int .i64 x63, .int .i64 x64, .slice o65 n66 n67]] w61 (fun e68 => fun w69 => ∃ o70, ∃ n71, ∃ n72, ∃ o73, ∃ n74, ∃ n75, ∃ b76, e68 = .returned (.tuple #[.agg #[.slice o70 n71 n72, .slice o73 n74 n75], .bool b76]) ∧
(b76 = true →
 ∀ w78, w78 = w69.alloc (.cells #[.slice none 0 0, .slice none 0 0] 26 (0, 0)) →
 There w78 ⟨hs w69, 0, none⟩ 2 ∧
 ∀ w80, w80 = setCells w78 ⟨hs w69, 0, none⟩ [.slice o70 n71 n72, .slice o73 n74 n75] 0 →
 ∃ o82, ∃ n83, ∃ n84, w80.cell? ⟨hs w69, 0, none⟩ = some (.slice o82 n83 n84) ∧
 ∃ o85, ∃ n86, ∃ n87, w80.cell? ⟨hs w69, 1, none⟩ = some (.slice o85 n86 n87) ∧
 There w80 ⟨p, 8, none⟩ 2 ∧
 ∀ w88, w88 = setCells w80 ⟨p, 8, none⟩ [.slice o82 n83 n84, .slice o85 n86 n87] 0 →
 There w88 ⟨p, 10, none⟩ 1 ∧
 ∀ w90, w90 = setCells w88 ⟨p, 10, none⟩ [.int .i64 x6] 0 →
 R (.returned (.tuple #[])) w90) ∧
(b76 = false →
 ∀ w93, w93 = w69.alloc (.cells #[.slice none 0 0, .slice none 0 0] 26 (0, 0)) →
 There w93 ⟨hs w69, 0, none⟩ 2 ∧
 ∀ w95, w95 = setCells w93 ⟨hs w69, 0, none⟩ [.slice o70 n71 n72, .slice o73 n74 n75] 0 →
 ∃ n97, n97 < n3 ∧
 k1 n97 (IntKind.wrap .i64 (x6 - 1)) w95))))) ∧
(decide (x6 ≥ 1) = false →
 ∃ o99, ∃ n100, ∃ n101, w5.cell? ⟨p, 6, none⟩ = some (.slice o99 n100 n101) ∧
 ∃ o102, ∃ n103, ∃ n104, w5.cell? ⟨p, 7, none⟩ = some (.slice o102 n103 n104) ∧
 There w5 ⟨p, 8, none⟩ 2 ∧
 ∀ w105, w105 = setCells w5 ⟨p, 8, none⟩ [.slice o99 n100 n101, .slice o102 n103 n104] 0 →
 There w105 ⟨p, 10, none⟩ 1 ∧
 ∀ w107, w107 = setCells w105 ⟨p, 10, none⟩ [.int .i64 0] 0 →
 R (.returned (.tuple #[])) w107))) :
    Calls Tryz.prog 28 #[(.pointer (some ⟨p, 0, none⟩)), (.int .i64 last)] w R :=
  calls_of_vc an28 Tryz.func28 rfl (by kernel_rfl) (by kernel_rfl) (Eq.mp (by kernel_rfl) h)

/-- (*samaritan/raft.Node).tick -/
def an29 : An := (.seq (.reg []) (.seq (.reg []) (.seq (.reg []) .nil)))
set_option maxRecDepth 100000 in
theorem nf29 (p : Nat) (now : Int) (w : World) (R : Ending → World → Prop) (h :
(∃ x1, w.cell? ⟨p, 16, none⟩ = some (.int .i64 x1) ∧
 There w ⟨p, 16, none⟩ 1 ∧
 ∀ w2, w2 = setCells w ⟨p, 16, none⟩ [.int .i64 (if (x1 < (if (1099511627776 < (if (now < 0) then 0 else now)) then 1099511627776 else (if (now < 0) then 0 else now))) then (if (1099511627776 < (if (now < 0) then 0 else now)) then 1099511627776 else (if (now < 0) then 0 else now)) else x1)] 0 →
 ∃ x4, w2.cell? ⟨p, 16, none⟩ = some (.int .i64 x4) ∧
 R (.returned (.int .i64 x4)) w2)) :
    Calls Tryz.prog 29 #[(.pointer (some ⟨p, 0, none⟩)), (.int .i64 now)] w R :=
  calls_of_vc an29 Tryz.func29 rfl (by kernel_rfl) (by kernel_rfl) (Eq.mp (by kernel_rfl) h)

/-- (*samaritan/raft.Node).sendAppends -/
def an30 : An := (.seq (.reg []) (.blk (.loop [(7, .int .i64)] (.seq (.reg [(0, 0, true)]) (.seq (.cond .nil .nil) (.seq (.blk (.seq (.reg []) (.reg []))) (.reg [])))))))
set_option maxRecDepth 100000 in
theorem nf30 (p : Nat) (w : World) (R : Ending → World → Prop) (h :
(Calls Tryz.prog 44 #[.pointer (some ⟨p, 0, none⟩)] w (fun e1 => fun w2 => ∃ o3, ∃ n4, ∃ n5, e1 = .returned (.slice o3 n4 n5) ∧
 ∃ k6 : (Nat →
 Int →
 World →
 Prop), (∃ n7, k6 n7 0 w2) ∧
 ∀ n8 : Nat, (Nat →
 Value) →
 ∀ w10 : World, ∀ x11 : Int, k6 n8 x11 w10 →
(decide (x11 < ((n4 : Nat) : Int)) = true →
 ∃ a14 : Addr, o3 = some a14 ∧
((0 : Int) ≤ x11 ∧
 x11 < ((n4 : Nat) : Int)) ∧
 ∃ x15, w10.cell? (Addr.add a14 ((x11).toNat * 1)) = some (.int .i64 x15) ∧
 Calls Tryz.prog 64 #[.pointer (some ⟨p, 0, none⟩), .int .i64 x15] w10 (fun e16 => fun w17 => e16 = .returned (.tuple #[]) ∧
 ∃ n18, n18 < n8 ∧
 k6 n18 (IntKind.wrap .i64 (x11 + 1)) w17)) ∧
(decide (x11 < ((n4 : Nat) : Int)) = false →
 R (.returned (.tuple #[])) w10)))) :
    Calls Tryz.prog 30 #[(.pointer (some ⟨p, 0, none⟩))] w R :=
  calls_of_vc an30 Tryz.func30 rfl (by kernel_rfl) (by kernel_rfl) (Eq.mp (by kernel_rfl) h)

/-- (*samaritan/raft.Node).member -/
def an31 : An := (.seq (.reg []) (.seq (.regD [(9, 0, true)] [0, 1, 2, 3, 5, 6, 7, 8, 4, 9, 10] [4, 9]) .nil))
set_option maxRecDepth 100000 in
theorem nf31 (p : Nat) (w : World) (R : Ending → World → Prop) (h :
(∀ w1, w1 = w.drew →
 ∃ o3, ∃ n4, ∃ n5, w1.cell? ⟨p, 8, none⟩ = some (.slice o3 n4 n5) ∧
 ∃ o6, ∃ n7, ∃ n8, w1.cell? ⟨p, 9, none⟩ = some (.slice o6 n7 n8) ∧
 ∃ x9, w1.cell? ⟨p, 0, none⟩ = some (.int .i64 x9) ∧
 Calls Tryz.prog 52 #[.agg #[.slice o3 n4 n5, .slice o6 n7 n8]] w1 (fun e10 => fun w11 => ∃ o12, ∃ n13, ∃ n14, e10 = .returned (.slice o12 n13 n14) ∧
 Kept w1 w11 ⟨p, 0, none⟩ 1 ∧
 Calls Tryz.prog 43 #[.slice o12 n13 n14, .int .i64 x9] w11 (fun e15 => fun w16 => ∃ b17, e15 = .returned (.bool b17) ∧
(b17 = true →
 R (.returned (.bool true)) w16) ∧
(b17 = false →
 R (.returned (.bool false)) w16))))) :
    Calls Tryz.prog 31 #[(.pointer (some ⟨p, 0, none⟩))] w R :=
  calls_of_vc an31 Tryz.func31 rfl (by kernel_rfl) (by kernel_rfl) (Eq.mp (by kernel_rfl) h)

/-- (*samaritan/raft.Node).startElection -/
def an32 : An := (.seq (.reg []) (.seq (.seq (.regD [(1, 0, true), (14, 0, true)] [0, 1, 2, 3, 4, 5, 6, 7, 8, 9, 10, 11, 12, 13, 14, 15, 16] [13, 14]) (.cond .nil .nil)) (.seq (.reg []) (.seq (.reg []) (.seq (.regD [] [0, 1, 2, 3, 4, 5, 6, 7, 8] [8]) (.seq (.seq (.reg [(1, 0, true)]) (.cond (.seq (.reg []) .nil) .nil)) (.seq (.reg []) (.seq (.reg []) (.blk (.loop [(70, .int .i64)] (.seq (.reg [(0, 0, true)]) (.seq (.cond .nil .nil) (.seq (.blk (.seq (.reg []) (.reg []))) (.reg []))))))))))))))
set_option maxRecDepth 100000 in
theorem nf32 (p : Nat) (now : Int) (w : World) (R : Ending → World → Prop) (h :
(∃ o1, w.cell? ⟨p, 4, none⟩ = some (.pointer o1) ∧
 Calls Tryz.prog 36 #[.pointer o1] w (fun e2 => fun w3 => ∃ x4, e2 = .returned (.int .i64 x4) ∧
 ∀ w5, w5 = w3.drew →
(decide (IntKind.wrap .i64 (x4 + 1) > 1099511627776) = true →
 R (.returned (.tuple #[])) w5) ∧
(decide (IntKind.wrap .i64 (x4 + 1) > 1099511627776) = false →
 ∃ o9, w5.cell? ⟨p, 4, none⟩ = some (.pointer o9) ∧
 ∃ x10, w5.cell? ⟨p, 0, none⟩ = some (.int .i64 x10) ∧
 Calls Tryz.prog 66 #[.pointer o9, .int .i64 (IntKind.wrap .i64 (x4 + 1)), .int .i64 x10] w5 (fun e11 => fun w12 => ∃ x13, e11 = .returned (.int .i64 x13) ∧
 Calls Tryz.prog 65 #[.pointer (some ⟨p, 0, none⟩), .int .i64 x13] w12 (fun e14 => fun w15 => ∃ b16, e14 = .returned (.bool b16) ∧
(b16 = true →
 There w15 ⟨p, 11, none⟩ 1 ∧
 ∀ w18, w18 = setCells w15 ⟨p, 11, none⟩ [.int .i64 2] 0 →
 There w18 ⟨p, 12, none⟩ 1 ∧
 ∀ w20, w20 = setCells w18 ⟨p, 12, none⟩ [.int .i64 (-1)] 0 →
 There w20 ⟨p, 14, none⟩ 1 ∧
 ∀ w22, w22 = setCells w20 ⟨p, 14, none⟩ [.int .i64 now] 0 →
 There w22 ⟨p, 17, none⟩ 9 ∧
 ∀ w24, w24 = setCells w22 ⟨p, 17, none⟩ [.bool false, .bool false, .bool false, .bool false, .bool false, .bool false, .bool false, .bool false, .bool false] 0 →
 ∀ w26, w26 = w24.drew →
 ∃ x28, w26.cell? ⟨p, 0, none⟩ = some (.int .i64 x28) ∧
((0 : Int) ≤ x28 ∧
 x28 < 9) ∧
 There w26 (Addr.add ⟨p, 17, none⟩ ((x28).toNat * 1)) 1 ∧
 ∀ w29, w29 = setCells w26 (Addr.add ⟨p, 17, none⟩ ((x28).toNat * 1)) [.bool true] 0 →
 Calls Tryz.prog 40 #[.pointer (some ⟨p, 0, none⟩)] w29 (fun e31 => fun w32 => ∃ b33, e31 = .returned (.bool b33) ∧
(b33 = true →
 Calls Tryz.prog 41 #[.pointer (some ⟨p, 0, none⟩), .int .i64 now] w32 (fun e35 => fun w36 => e35 = .returned (.tuple #[]) ∧
 R (.returned (.tuple #[])) w36)) ∧
(b33 = false →
 ∃ o38, w32.cell? ⟨p, 5, none⟩ = some (.pointer o38) ∧
 Calls Tryz.prog 49 #[.pointer o38] w32 (fun e39 => fun w40 => ∃ x41, ∃ x42, e39 = .returned (.tuple #[.int .i64 x41, .int .i64 x42]) ∧
 Calls Tryz.prog 44 #[.pointer (some ⟨p, 0, none⟩)] w40 (fun e43 => fun w44 => ∃ o45, ∃ n46, ∃ n47, e43 = .returned (.slice o45 n46 n47) ∧
 ∃ k48 : (Nat →
 Int →
 World →
 Prop), (∃ n49, k48 n49 0 w44) ∧
 ∀ n50 : Nat, (Nat →
 Value) →
 ∀ w52 : World, ∀ x53 : Int, k48 n50 x53 w52 →
(decide (x53 < ((n46 : Nat) : Int)) = true →
 ∃ a56 : Addr, o45 = some a56 ∧
((0 : Int) ≤ x53 ∧
 x53 < ((n46 : Nat) : Int)) ∧
 ∃ x57, w52.cell? (Addr.add a56 ((x53).toNat * 1)) = some (.int .i64 x57) ∧
 Calls Tryz.prog 67 #[.pointer (some ⟨p, 0, none⟩), .agg #[.int .i64 1, .int .i64 0, .int .i64 x57, .int .i64 0, .int .i64 x41, .int .i64 x42, .int .i64 0, .bool false, .slice none 0 0]] w52 (fun e58 => fun w59 => e58 = .returned (.tuple #[]) ∧
 ∃ n60, n60 < n50 ∧
 k48 n60 (IntKind.wrap .i64 (x53 + 1)) w59)) ∧
(decide (x53 < ((n46 : Nat) : Int)) = false →
 R (.returned (.tuple #[])) w52)))))) ∧
(b16 = false →
 R (.returned (.tuple #[])) w15))))))) :
    Calls Tryz.prog 32 #[(.pointer (some ⟨p, 0, none⟩)), (.int .i64 now)] w R :=
  calls_of_vc an32 Tryz.func32 rfl (by kernel_rfl) (by kernel_rfl) (Eq.mp (by kernel_rfl) h)

/-- (*samaritan/raft.Node).sent -/
def an33 : An := (.seq (.reg []) (.seq (.reg []) (.seq (.reg []) (.cut [] (.seq (.reg [(4, 0, true), (9, 0, true)]) (.cond (.seq (.reg []) (.reg [(6, 0, true)])) .nil)) (.seq (.seq (.reg [(4, 0, true)]) (.cond (.seq (.reg []) .nil) .nil)) (.seq (.reg []) .nil))))))
set_option maxRecDepth 100000 in
theorem nf33 (p : Nat) (w : World) (R : Ending → World → Prop) (h :
(∃ o1, ∃ n2, ∃ n3, w.cell? ⟨p, 46, none⟩ = some (.slice o1 n2 n3) ∧
 There w ⟨p, 46, none⟩ 1 ∧
 ∀ w4, w4 = setCells w ⟨p, 46, none⟩ [.slice none 0 0] 0 →
 ∀ k6 : (World →
 Prop), (∀ w8 : World, ((Nat →
 Value) →
 ∃ x11, w8.cell? ⟨p, 44, none⟩ = some (.int .i64 x11) ∧
((! (decide (x11 = 0))) = true →
 R (.returned (.slice none 0 0)) w8) ∧
((! (decide (x11 = 0))) = false →
 R (.returned (.slice o1 n2 n3)) w8)) →
 k6 w8) →
 ∃ x14, w4.cell? ⟨p, 44, none⟩ = some (.int .i64 x14) ∧
(decide (x14 = 0) = true →
 ∃ b16, w4.cell? ⟨p, 45, none⟩ = some (.bool b16) ∧
(b16 = true →
 There w4 ⟨p, 45, none⟩ 1 ∧
 ∀ w18, w18 = setCells w4 ⟨p, 45, none⟩ [.bool false] 0 →
 ∃ o20, w18.cell? ⟨p, 3, none⟩ = some (.pointer o20) ∧
 Calls Tryz.prog 68 #[.pointer o20] w18 (fun e21 => fun w22 => ∃ x23, e21 = .returned (.int .i64 x23) ∧
 Calls Tryz.prog 65 #[.pointer (some ⟨p, 0, none⟩), .int .i64 x23] w22 (fun e24 => fun w25 => ∃ b26, e24 = .returned (.bool b26) ∧
(b26 = true →
 k6 w25) ∧
(b26 = false →
 k6 w25)))) ∧
(b16 = false →
 k6 w4)) ∧
(decide (x14 = 0) = false →
 k6 w4))) :
    Calls Tryz.prog 33 #[(.pointer (some ⟨p, 0, none⟩))] w R :=
  calls_of_vc an33 Tryz.func33 rfl (by kernel_rfl) (by kernel_rfl) (Eq.mp (by kernel_rfl) h)

/-- (*samaritan/raft.Node).propose -/
def an34 : An := (.seq (.reg []) (.seq (.reg []) (.seq (.seq (.reg [(1, 0, true), (7, 0, true), (12, 0, true)]) (.cond (.seq (.reg []) (.seq (.regD [] [0, 1, 2, 3, 4, 5, 6] []) .nil)) .nil)) (.seq (.reg []) (.seq (.reg []) (.seq (.seq (.reg [(4, 0, true)]) (.cond (.seq (.regD [] [0, 1, 2, 3, 4, 5, 6] []) .nil) .nil)) (.seq (.reg []) .nil)))))))
set_option maxRecDepth 100000 in
theorem nf34 (p : Nat) (kind : Int) (body : Option Addr) (body_n : Nat) (body_c : Nat) (w : World) (R : Ending → World → Prop) (h :
(Calls Tryz.prog 20 #[.pointer (some ⟨p, 0, none⟩)] w (fun e1 => fun w2 => ∃ x3, e1 = .returned (.int .i64 x3) ∧
 Calls Tryz.prog 65 #[.pointer (some ⟨p, 0, none⟩), .int .i64 0] w2 (fun e4 => fun w5 => ∃ b6, e4 = .returned (.bool b6) ∧
(b6 = true →
 Calls Tryz.prog 69 #[.pointer (some ⟨p, 0, none⟩), .int .i64 kind, .slice body body_n body_c] w5 (fun e8 => fun w9 => ∃ b10, e8 = .returned (.bool b10) ∧
(b10 = true →
 Calls Tryz.prog 70 #[.pointer (some ⟨p, 0, none⟩)] w9 (fun e12 => fun w13 => ∃ b14, e12 = .returned (.bool b14) ∧
(b14 = true →
 Calls Tryz.prog 30 #[.pointer (some ⟨p, 0, none⟩)] w13 (fun e16 => fun w17 => e16 = .returned (.tuple #[]) ∧
 Calls Tryz.prog 33 #[.pointer (some ⟨p, 0, none⟩)] w17 (fun e18 => fun w19 => ∃ o20, ∃ n21, ∃ n22, e18 = .returned (.slice o20 n21 n22) ∧
 ∃ x23, w19.cell? ⟨p, 44, none⟩ = some (.int .i64 x23) ∧
((! (decide (x23 = 0))) = true →
 ∀ w25, w25 = w19.drew →
 ∃ x27, w25.cell? ⟨p, 44, none⟩ = some (.int .i64 x27) ∧
 R (.returned (.tuple #[.int .i64 0, .slice none 0 0, .int .i64 x27])) w25) ∧
((! (decide (x23 = 0))) = false →
 R (.returned (.tuple #[.int .i64 (IntKind.wrap .i64 (x3 + 1)), .slice o20 n21 n22, .int .i64 0])) w19)))) ∧
(b14 = false →
 There w13 ⟨p, 46, none⟩ 1 ∧
 ∀ w30, w30 = setCells w13 ⟨p, 46, none⟩ [.slice none 0 0] 0 →
 ∀ w32, w32 = w30.drew →
 ∃ x34, w32.cell? ⟨p, 44, none⟩ = some (.int .i64 x34) ∧
 R (.returned (.tuple #[.int .i64 0, .slice none 0 0, .int .i64 x34])) w32))) ∧
(b10 = false →
 There w9 ⟨p, 46, none⟩ 1 ∧
 ∀ w36, w36 = setCells w9 ⟨p, 46, none⟩ [.slice none 0 0] 0 →
 ∀ w38, w38 = w36.drew →
 ∃ x40, w38.cell? ⟨p, 44, none⟩ = some (.int .i64 x40) ∧
 R (.returned (.tuple #[.int .i64 0, .slice none 0 0, .int .i64 x40])) w38))) ∧
(b6 = false →
 There w5 ⟨p, 46, none⟩ 1 ∧
 ∀ w42, w42 = setCells w5 ⟨p, 46, none⟩ [.slice none 0 0] 0 →
 ∀ w44, w44 = w42.drew →
 ∃ x46, w44.cell? ⟨p, 44, none⟩ = some (.int .i64 x46) ∧
 R (.returned (.tuple #[.int .i64 0, .slice none 0 0, .int .i64 x46])) w44))))) :
    Calls Tryz.prog 34 #[(.pointer (some ⟨p, 0, none⟩)), (.int .i64 kind), (.slice body body_n body_c)] w R :=
  calls_of_vc an34 Tryz.func34 rfl (by kernel_rfl) (by kernel_rfl) (Eq.mp (by kernel_rfl) h)

/-- samaritan/raft.valid -/
def an35 : An := (.seq (.reg []) (.seq (.seq (.reg [(2, 0, true), (6, 0, true), (13, 0, true)]) (.cond (.seq (.reg []) .nil) .nil)) (.seq (.seq (.reg [(2, 0, true), (6, 0, true), (11, 0, true), (16, 0, true)]) (.cond (.seq (.reg []) .nil) .nil)) (.seq (.seq (.reg [(2, 0, true), (7, 0, true), (13, 0, true), (19, 0, true)]) (.cond (.seq (.reg []) .nil) .nil)) (.seq (.seq (.reg [(3, 0, true), (8, 0, true), (12, 0, true)]) (.cond (.seq (.reg []) .nil) .nil)) (.seq (.reg []) (.seq (.seq (.reg []) (.blk (.loop [(3, .int .i64), (81, .int .i64)] (.seq (.reg [(0, 0, true)]) (.seq (.cond .nil .nil) (.seq (.blk (.seq (.reg []) (.seq (.seq (.reg [(2, 3, true), (7, 0, true), (14, 0, true)]) (.cond (.seq (.reg []) .nil) .nil)) (.reg [])))) (.reg []))))))) (.seq (.reg []) .nil))))))))
set_option maxRecDepth 100000 in
theorem nf35 (m_Kind : Int) (m_From : Int) (m_To : Int) (m_Term : Int) (m_Prev : Int) (m_PrevTerm : Int) (m_Commit : Int) (m_Granted : Bool) (m_Entries : Option Addr) (m_Entries_n : Nat) (m_Entries_c : Nat) (w : World) (R : Ending → World → Prop) (h :
(∀ w1, w1 = w.alloc (.cells #[.int .i64 m_Kind, .int .i64 m_From, .int .i64 m_To, .int .i64 m_Term, .int .i64 m_Prev, .int .i64 m_PrevTerm, .int .i64 m_Commit, .bool m_Granted, .slice m_Entries m_Entries_n m_Entries_c] 45 (0, 0)) →
 ∃ x3, w1.cell? ⟨hs w, 0, none⟩ = some (.int .i64 x3) ∧
(decide (x3 < 1) = true →
 R (.returned (.bool false)) w1) ∧
(decide (x3 < 1) = false →
 ∃ x6, w1.cell? ⟨hs w, 0, none⟩ = some (.int .i64 x6) ∧
(decide (x6 > 4) = true →
 R (.returned (.bool false)) w1) ∧
(decide (x6 > 4) = false →
 ∃ x9, w1.cell? ⟨hs w, 1, none⟩ = some (.int .i64 x9) ∧
 ∃ x10, w1.cell? ⟨hs w, 2, none⟩ = some (.int .i64 x10) ∧
(decide (x9 = x10) = true →
 R (.returned (.bool false)) w1) ∧
(decide (x9 = x10) = false →
 ∃ x13, w1.cell? ⟨hs w, 1, none⟩ = some (.int .i64 x13) ∧
(decide (x13 < 0) = true →
 R (.returned (.bool false)) w1) ∧
(decide (x13 < 0) = false →
 ∃ x16, w1.cell? ⟨hs w, 1, none⟩ = some (.int .i64 x16) ∧
(decide (x16 ≥ 9) = true →
 R (.returned (.bool false)) w1) ∧
(decide (x16 ≥ 9) = false →
 ∃ x19, w1.cell? ⟨hs w, 2, none⟩ = some (.int .i64 x19) ∧
(decide (x19 < 0) = true →
 R (.returned (.bool false)) w1) ∧
(decide (x19 < 0) = false →
 ∃ x22, w1.cell? ⟨hs w, 2, none⟩ = some (.int .i64 x22) ∧
(decide (x22 ≥ 9) = true →
 R (.returned (.bool false)) w1) ∧
(decide (x22 ≥ 9) = false →
 ∃ x25, w1.cell? ⟨hs w, 3, none⟩ = some (.int .i64 x25) ∧
 Calls Tryz.prog 71 #[.int .i64 x25, .int .i64 1] w1 (fun e26 => fun w27 => ∃ b28, e26 = .returned (.bool b28) ∧
(b28 = true →
 ∃ x30, w27.cell? ⟨hs w, 4, none⟩ = some (.int .i64 x30) ∧
 Calls Tryz.prog 71 #[.int .i64 x30, .int .i64 0] w27 (fun e31 => fun w32 => ∃ b33, e31 = .returned (.bool b33) ∧
(b33 = true →
 ∃ x35, w32.cell? ⟨hs w, 5, none⟩ = some (.int .i64 x35) ∧
 Calls Tryz.prog 71 #[.int .i64 x35, .int .i64 0] w32 (fun e36 => fun w37 => ∃ b38, e36 = .returned (.bool b38) ∧
(b38 = true →
 ∃ x40, w37.cell? ⟨hs w, 6, none⟩ = some (.int .i64 x40) ∧
 Calls Tryz.prog 71 #[.int .i64 x40, .int .i64 0] w37 (fun e41 => fun w42 => ∃ b43, e41 = .returned (.bool b43) ∧
(b43 = true →
 ∃ o45, ∃ n46, ∃ n47, w42.cell? ⟨hs w, 8, none⟩ = some (.slice o45 n46 n47) ∧
(decide (((n46 : Nat) : Int) > 16) = true →
 R (.returned (.bool false)) w42) ∧
(decide (((n46 : Nat) : Int) > 16) = false →
 ∃ o50, ∃ n51, ∃ n52, w42.cell? ⟨hs w, 8, none⟩ = some (.slice o50 n51 n52) ∧
(decide (((n51 : Nat) : Int) > 0) = true →
 ∃ x54, w42.cell? ⟨hs w, 0, none⟩ = some (.int .i64 x54) ∧
((! (decide (x54 = 3))) = true →
 R (.returned (.bool false)) w42) ∧
((! (decide (x54 = 3))) = false →
 ∃ x57, w42.cell? ⟨hs w, 5, none⟩ = some (.int .i64 x57) ∧
 ∃ o58, ∃ n59, ∃ n60, w42.cell? ⟨hs w, 8, none⟩ = some (.slice o58 n59 n60) ∧
 ∃ k61 : (Nat →
 Int →
 Int →
 World →
 Prop), (∃ n62, k61 n62 x57 0 w42) ∧
 ∀ n63 : Nat, (Nat →
 Value) →
 ∀ w65 : World, ∀ x66 : Int, ∀ x67 : Int, k61 n63 x66 x67 w65 →
(decide (x67 < ((n59 : Nat) : Int)) = true →
 ∃ a70 : Addr, o58 = some a70 ∧
((0 : Int) ≤ x67 ∧
 x67 < ((n59 : Nat) : Int)) ∧
 ∃ x71, w65.cell? (Addr.add a70 ((x67).toNat * 3)) = some (.int .i64 x71) ∧
 ∃ x72, w65.cell? (Addr.add (Addr.add a70 ((x67).toNat * 3)) 1) = some (.int .i64 x72) ∧
 ∃ o73, ∃ n74, ∃ n75, w65.cell? (Addr.add (Addr.add a70 ((x67).toNat * 3)) 2) = some (.slice o73 n74 n75) ∧
 ∀ w76, w76 = w65.alloc (.cells #[.int .i64 0, .int .i64 0, .slice none 0 0] 49 (0, 0)) →
 There w76 ⟨hs w65, 0, none⟩ 3 ∧
 ∀ w78, w78 = setCells w76 ⟨hs w65, 0, none⟩ [.int .i64 x71, .int .i64 x72, .slice o73 n74 n75] 0 →
 ∃ x80, w78.cell? ⟨hs w65, 0, none⟩ = some (.int .i64 x80) ∧
 ∃ x81, w78.cell? ⟨hs w65, 1, none⟩ = some (.int .i64 x81) ∧
 ∃ o82, ∃ n83, ∃ n84, w78.cell? ⟨hs w65, 2, none⟩ = some (.slice o82 n83 n84) ∧
 Calls Tryz.prog 72 #[.agg #[.int .i64 x80, .int .i64 x81, .slice o82 n83 n84]] w78 (fun e85 => fun w86 => ∃ o87, ∃ n88, ∃ n89, e85 = .returned (.slice o87 n88 n89) ∧
(Option.isNone o87 = true →
 R (.returned (.bool false)) w86) ∧
(Option.isNone o87 = false →
 ∃ x92, w86.cell? ⟨hs w65, 0, none⟩ = some (.int .i64 x92) ∧
(decide (x92 < x66) = true →
 R (.returned (.bool false)) w86) ∧
(decide (x92 < x66) = false →
 ∃ x95, w86.cell? ⟨hs w65, 0, none⟩ = some (.int .i64 x95) ∧
 ∃ x96, w86.cell? ⟨hs w, 3, none⟩ = some (.int .i64 x96) ∧
(decide (x95 > x96) = true →
 R (.returned (.bool false)) w86) ∧
(decide (x95 > x96) = false →
 ∃ x99, w86.cell? ⟨hs w65, 0, none⟩ = some (.int .i64 x99) ∧
 ∃ n100, n100 < n63 ∧
 k61 n100 x99 (IntKind.wrap .i64 (x67 + 1)) w86))))) ∧
(decide (x67 < ((n59 : Nat) : Int)) = false →
 R (.returned (.bool true)) w65))) ∧
(decide (((n51 : Nat) : Int) > 0) = false →
 ∃ x103, w42.cell? ⟨hs w, 5, none⟩ = some (.int .i64 x103) ∧
 ∃ o104, ∃ n105, ∃ n106, w42.cell? ⟨hs w, 8, none⟩ = some (.slice o104 n105 n106) ∧
 ∃ k107 : (Nat →
 Int →
 Int →
 World →
 Prop), (∃ n108, k107 n108 x103 0 w42) ∧
 ∀ n109 : Nat, (Nat →
 Value) →
 ∀ w111 : World, ∀ x112 : Int, ∀ x113 : Int, k107 n109 x112 x113 w111 →
(decide (x113 < ((n105 : Nat) : Int)) = true →
 ∃ a116 : Addr, o104 = some a116 ∧
((0 : Int) ≤ x113 ∧
 x113 < ((n105 : Nat) : Int)) ∧
 ∃ x117, w111.cell? (Addr.add a116 ((x113).toNat * 3)) = some (.int .i64 x117) ∧
 ∃ x118, w111.cell? (Addr.add (Addr.add a116 ((x113).toNat * 3)) 1) = some (.int .i64 x118) ∧
 ∃ o119, ∃ n120, ∃ n121, w111.cell? (Addr.add (Addr.add a116 ((x113).toNat * 3)) 2) = some (.slice o119 n120 n121) ∧
 ∀ w122, w122 = w111.alloc (.cells #[.int .i64 0, .int .i64 0, .slice none 0 0] 49 (0, 0)) →
 There w122 ⟨hs w111, 0, none⟩ 3 ∧
 ∀ w124, w124 = setCells w122 ⟨hs w111, 0, none⟩ [.int .i64 x117, .int .i64 x118, .slice o119 n120 n121] 0 →
 ∃ x126, w124.cell? ⟨hs w111, 0, none⟩ = some (.int .i64 x126) ∧
 ∃ x127, w124.cell? ⟨hs w111, 1, none⟩ = some (.int .i64 x127) ∧
 ∃ o128, ∃ n129, ∃ n130, w124.cell? ⟨hs w111, 2, none⟩ = some (.slice o128 n129 n130) ∧
 Calls Tryz.prog 72 #[.agg #[.int .i64 x126, .int .i64 x127, .slice o128 n129 n130]] w124 (fun e131 => fun w132 => ∃ o133, ∃ n134, ∃ n135, e131 = .returned (.slice o133 n134 n135) ∧
(Option.isNone o133 = true →
 R (.returned (.bool false)) w132) ∧
(Option.isNone o133 = false →
 ∃ x138, w132.cell? ⟨hs w111, 0, none⟩ = some (.int .i64 x138) ∧
(decide (x138 < x112) = true →
 R (.returned (.bool false)) w132) ∧
(decide (x138 < x112) = false →
 ∃ x141, w132.cell? ⟨hs w111, 0, none⟩ = some (.int .i64 x141) ∧
 ∃ x142, w132.cell? ⟨hs w, 3, none⟩ = some (.int .i64 x142) ∧
(decide (x141 > x142) = true →
 R (.returned (.bool false)) w132) ∧
(decide (x141 > x142) = false →
 ∃ x145, w132.cell? ⟨hs w111, 0, none⟩ = some (.int .i64 x145) ∧
 ∃ n146, n146 < n109 ∧
 k107 n146 x145 (IntKind.wrap .i64 (x113 + 1)) w132))))) ∧
(decide (x113 < ((n105 : Nat) : Int)) = false →
 R (.returned (.bool true)) w111)))) ∧
(b43 = false →
 R (.returned (.bool false)) w42))) ∧
(b38 = false →
 R (.returned (.bool false)) w37))) ∧
(b33 = false →
 R (.returned (.bool false)) w32))) ∧
(b28 = false →
 R (.returned (.bool false)) w27))))))))))) :
    Calls Tryz.prog 35 #[(.agg #[(.int .i64 m_Kind), (.int .i64 m_From), (.int .i64 m_To), (.int .i64 m_Term), (.int .i64 m_Prev), (.int .i64 m_PrevTerm), (.int .i64 m_Commit), (.bool m_Granted), (.slice m_Entries m_Entries_n m_Entries_c)])] w R :=
  calls_of_vc an35 Tryz.func35 rfl (by kernel_rfl) (by kernel_rfl) (Eq.mp (by kernel_rfl) h)

/-- (*samaritan/raft.Node).enter -/
def an37 : An := (.seq (.reg []) (.seq (.seq (.reg [(7, 0, true)]) (.cond (.seq (.reg []) .nil) .nil)) (.seq (.reg []) (.seq (.reg []) .nil))))
set_option maxRecDepth 100000 in
theorem nf37 (p : Nat) (term : Int) (w : World) (R : Ending → World → Prop) (h :
(∃ o1, w.cell? ⟨p, 4, none⟩ = some (.pointer o1) ∧
 Calls Tryz.prog 73 #[.pointer o1, .int .i64 term] w (fun e2 => fun w3 => ∃ x4, e2 = .returned (.int .i64 x4) ∧
 Calls Tryz.prog 65 #[.pointer (some ⟨p, 0, none⟩), .int .i64 x4] w3 (fun e5 => fun w6 => ∃ b7, e5 = .returned (.bool b7) ∧
(b7 = true →
 There w6 ⟨p, 11, none⟩ 1 ∧
 ∀ w9, w9 = setCells w6 ⟨p, 11, none⟩ [.int .i64 1] 0 →
 There w9 ⟨p, 12, none⟩ 1 ∧
 ∀ w11, w11 = setCells w9 ⟨p, 12, none⟩ [.int .i64 (-1)] 0 →
 R (.returned (.bool true)) w11) ∧
(b7 = false →
 R (.returned (.bool false)) w6))))) :
    Calls Tryz.prog 37 #[(.pointer (some ⟨p, 0, none⟩)), (.int .i64 term)] w R :=
  calls_of_vc an37 Tryz.func37 rfl (by kernel_rfl) (by kernel_rfl) (Eq.mp (by kernel_rfl) h)

/-- (*samaritan/raft.Node).refuse -/
def an38 : An := (.seq (.reg []) (.seq (.reg []) (.blk (.seq (.reg [(0, 0, true)]) (.cond (.reg []) (.seq (.reg [(0, 0, true)]) (.cond (.reg []) .nil)))))))
set_option maxRecDepth 100000 in
theorem nf38 (p : Nat) (m_Kind : Int) (m_From : Int) (m_To : Int) (m_Term : Int) (m_Prev : Int) (m_PrevTerm : Int) (m_Commit : Int) (m_Granted : Bool) (m_Entries : Option Addr) (m_Entries_n : Nat) (m_Entries_c : Nat) (w : World) (R : Ending → World → Prop) (h :
(∀ w1, w1 = w.alloc (.cells #[.int .i64 m_Kind, .int .i64 m_From, .int .i64 m_To, .int .i64 m_Term, .int .i64 m_Prev, .int .i64 m_PrevTerm, .int .i64 m_Commit, .bool m_Granted, .slice m_Entries m_Entries_n m_Entries_c] 45 (0, 0)) →
 ∃ x3, w1.cell? ⟨hs w, 0, none⟩ = some (.int .i64 x3) ∧
(decide (x3 = 1) = true →
 ∃ x5, w1.cell? ⟨hs w, 1, none⟩ = some (.int .i64 x5) ∧
 Calls Tryz.prog 67 #[.pointer (some ⟨p, 0, none⟩), .agg #[.int .i64 2, .int .i64 0, .int .i64 x5, .int .i64 0, .int .i64 0, .int .i64 0, .int .i64 0, .bool false, .slice none 0 0]] w1 (fun e6 => fun w7 => e6 = .returned (.tuple #[]) ∧
 R (.returned (.tuple #[])) w7)) ∧
(decide (x3 = 1) = false →
(decide (x3 = 3) = true →
 ∃ x10, w1.cell? ⟨hs w, 1, none⟩ = some (.int .i64 x10) ∧
 Calls Tryz.prog 67 #[.pointer (some ⟨p, 0, none⟩), .agg #[.int .i64 4, .int .i64 0, .int .i64 x10, .int .i64 0, .int .i64 0, .int .i64 0, .int .i64 0, .bool false, .slice none 0 0]] w1 (fun e11 => fun w12 => e11 = .returned (.tuple #[]) ∧
 R (.returned (.tuple #[])) w12)) ∧
(decide (x3 = 3) = false →
 R (.returned (.tuple #[])) w1)))) :
    Calls Tryz.prog 38 #[(.pointer (some ⟨p, 0, none⟩)), (.agg #[(.int .i64 m_Kind), (.int .i64 m_From), (.int .i64 m_To), (.int .i64 m_Term), (.int .i64 m_Prev), (.int .i64 m_PrevTerm), (.int .i64 m_Commit), (.bool m_Granted), (.slice m_Entries m_Entries_n m_Entries_c)])] w R :=
  calls_of_vc an38 Tryz.func38 rfl (by kernel_rfl) (by kernel_rfl) (Eq.mp (by kernel_rfl) h)

/-- (*samaritan/raft.Node).requested -/
def an39 : An := (.seq (.reg []) (.seq (.reg []) (.cut [(7, .bool)] (.regD [(1, 0, true), (6, 0, true), (17, 0, true)] [0, 1, 2, 3, 4, 5, 6, 7, 8, 9, 10, 11, 12, 13, 14, 15, 16, 17, 18, 19] [17]) (.cut [] (.seq (.reg [(0, 0, true)]) (.cond (.seq (.seq (.regD [(13, 0, true)] [0, 1, 2, 3, 4, 5, 6, 7, 8, 10, 11, 9, 12, 13, 14] [9, 12, 13]) (.cond .nil .nil)) (.reg [])) .nil)) (.reg [(3, 0, true)])))))
set_option maxRecDepth 100000 in
theorem nf39 (p : Nat) (m_Kind : Int) (m_From : Int) (m_To : Int) (m_Term : Int) (m_Prev : Int) (m_PrevTerm : Int) (m_Commit : Int) (m_Granted : Bool) (m_Entries : Option Addr) (m_Entries_n : Nat) (m_Entries_c : Nat) (now : Int) (w : World) (R : Ending → World → Prop) (h :
(∀ w1, w1 = w.alloc (.cells #[.int .i64 m_Kind, .int .i64 m_From, .int .i64 m_To, .int .i64 m_Term, .int .i64 m_Prev, .int .i64 m_PrevTerm, .int .i64 m_Commit, .bool m_Granted, .slice m_Entries m_Entries_n m_Entries_c] 45 (0, 0)) →
 ∃ o3, w1.cell? ⟨p, 4, none⟩ = some (.pointer o3) ∧
 Calls Tryz.prog 74 #[.pointer o3] w1 (fun e4 => fun w5 => ∃ x6, e4 = .returned (.int .i64 x6) ∧
 ∀ k7 : (Bool →
 World →
 Prop), (∀ w9 : World, ∀ b10 : Bool, ((Nat →
 Value) →
 ∀ k13 : (World →
 Prop), (∀ w15 : World, ((Nat →
 Value) →
 ∃ x18, w15.cell? ⟨hs w, 1, none⟩ = some (.int .i64 x18) ∧
(b10 = true →
 Calls Tryz.prog 67 #[.pointer (some ⟨p, 0, none⟩), .agg #[.int .i64 2, .int .i64 0, .int .i64 x18, .int .i64 0, .int .i64 0, .int .i64 0, .int .i64 0, .bool true, .slice none 0 0]] w15 (fun e20 => fun w21 => e20 = .returned (.tuple #[]) ∧
 R (.returned (.tuple #[])) w21)) ∧
(b10 = false →
 Calls Tryz.prog 67 #[.pointer (some ⟨p, 0, none⟩), .agg #[.int .i64 2, .int .i64 0, .int .i64 x18, .int .i64 0, .int .i64 0, .int .i64 0, .int .i64 0, .bool false, .slice none 0 0]] w15 (fun e23 => fun w24 => e23 = .returned (.tuple #[]) ∧
 R (.returned (.tuple #[])) w24))) →
 k13 w15) →
(b10 = true →
 ∀ w26, w26 = w9.drew →
 ∃ o28, w26.cell? ⟨p, 4, none⟩ = some (.pointer o28) ∧
 ∃ o29, w26.cell? ⟨p, 4, none⟩ = some (.pointer o29) ∧
 ∃ x30, w26.cell? ⟨hs w, 1, none⟩ = some (.int .i64 x30) ∧
 Calls Tryz.prog 36 #[.pointer o29] w26 (fun e31 => fun w32 => ∃ x33, e31 = .returned (.int .i64 x33) ∧
 Kept w26 w32 ⟨hs w, 1, none⟩ 1 ∧
 Kept w26 w32 ⟨p, 4, none⟩ 1 ∧
 Calls Tryz.prog 66 #[.pointer o28, .int .i64 x33, .int .i64 x30] w32 (fun e34 => fun w35 => ∃ x36, e34 = .returned (.int .i64 x36) ∧
 Calls Tryz.prog 65 #[.pointer (some ⟨p, 0, none⟩), .int .i64 x36] w35 (fun e37 => fun w38 => ∃ b39, e37 = .returned (.bool b39) ∧
(b39 = true →
 There w38 ⟨p, 14, none⟩ 1 ∧
 ∀ w41, w41 = setCells w38 ⟨p, 14, none⟩ [.int .i64 now] 0 →
 k13 w41) ∧
(b39 = false →
 R (.returned (.tuple #[])) w38))))) ∧
(b10 = false →
 k13 w9)) →
 k7 b10 w9) →
 ∀ w45, w45 = w5.drew →
(decide (x6 < 0) = true →
 ∃ o48, w45.cell? ⟨p, 5, none⟩ = some (.pointer o48) ∧
 ∃ x49, w45.cell? ⟨hs w, 4, none⟩ = some (.int .i64 x49) ∧
 ∃ x50, w45.cell? ⟨hs w, 5, none⟩ = some (.int .i64 x50) ∧
 Calls Tryz.prog 75 #[.pointer o48, .int .i64 x49, .int .i64 x50] w45 (fun e51 => fun w52 => ∃ b53, e51 = .returned (.bool b53) ∧
(b53 = true →
 k7 true w52) ∧
(b53 = false →
 k7 false w52))) ∧
(decide (x6 < 0) = false →
 ∃ x57, w45.cell? ⟨hs w, 1, none⟩ = some (.int .i64 x57) ∧
(decide (x6 = x57) = true →
 ∃ o59, w45.cell? ⟨p, 5, none⟩ = some (.pointer o59) ∧
 ∃ x60, w45.cell? ⟨hs w, 4, none⟩ = some (.int .i64 x60) ∧
 ∃ x61, w45.cell? ⟨hs w, 5, none⟩ = some (.int .i64 x61) ∧
 Calls Tryz.prog 75 #[.pointer o59, .int .i64 x60, .int .i64 x61] w45 (fun e62 => fun w63 => ∃ b64, e62 = .returned (.bool b64) ∧
(b64 = true →
 k7 true w63) ∧
(b64 = false →
 k7 false w63))) ∧
(decide (x6 = x57) = false →
 k7 false w45))))) :
    Calls Tryz.prog 39 #[(.pointer (some ⟨p, 0, none⟩)), (.agg #[(.int .i64 m_Kind), (.int .i64 m_From), (.int .i64 m_To), (.int .i64 m_Term), (.int .i64 m_Prev), (.int .i64 m_PrevTerm), (.int .i64 m_Commit), (.bool m_Granted), (.slice m_Entries m_Entries_n m_Entries_c)]), (.int .i64 now)] w R :=
  calls_of_vc an39 Tryz.func39 rfl (by kernel_rfl) (by kernel_rfl) (Eq.mp (by kernel_rfl) h)

/-- (*samaritan/raft.Node).elected -/
def an40 : An := (.seq (.reg []) (.seq (.reg []) (.seq (.seq (.reg []) (.blk (.loop [(3, .slice), (10, .int .i64)] (.seq (.reg [(0, 0, true)]) (.seq (.cond .nil .nil) (.cut [(3, .slice)] (.blk (.seq (.reg [(1, 1, true)]) (.seq (.reg []) (.cond (.reg [(3, 1, false)]) .nil)))) (.reg []))))))) (.seq (.reg [(5, 0, true)]) .nil))))
set_option maxRecDepth 100000 in
theorem nf40 (p : Nat) (w : World) (R : Ending → World → Prop) (h :
(∃ b1, w.cell? ⟨p, 17, none⟩ = some (.bool b1) ∧
 ∃ b2, w.cell? ⟨p, 18, none⟩ = some (.bool b2) ∧
 ∃ b3, w.cell? ⟨p, 19, none⟩ = some (.bool b3) ∧
 ∃ b4, w.cell? ⟨p, 20, none⟩ = some (.bool b4) ∧
 ∃ b5, w.cell? ⟨p, 21, none⟩ = some (.bool b5) ∧
 ∃ b6, w.cell? ⟨p, 22, none⟩ = some (.bool b6) ∧
 ∃ b7, w.cell? ⟨p, 23, none⟩ = some (.bool b7) ∧
 ∃ b8, w.cell? ⟨p, 24, none⟩ = some (.bool b8) ∧
 ∃ b9, w.cell? ⟨p, 25, none⟩ = some (.bool b9) ∧
 ∃ k10 : (Nat →
 Option Addr →
 Nat →
 Nat →
 Int →
 World →
 Prop), (∃ n11, k10 n11 none 0 0 0 w) ∧
 ∀ n12 : Nat, (Nat →
 Value) →
 ∀ w14 : World, ∀ o15 : Option Addr, ∀ n16 : Nat, ∀ n17 : Nat, ∀ x18 : Int, k10 n12 o15 n16 n17 x18 w14 →
(decide (x18 < 9) = true →
 ∀ k21 : (Option Addr →
 Nat →
 Nat →
 World →
 Prop), (∀ w23 : World, ∀ o24 : Option Addr, ∀ n25 : Nat, ∀ n26 : Nat, ((Nat →
 Value) →
 ∃ n29, n29 < n12 ∧
 k10 n29 o24 n25 n26 (IntKind.wrap .i64 (x18 + 1)) w23) →
 k21 o24 n25 n26 w23) →
 RunOk Tryz.prog (Hold (Instr.index 73 (.agg #[.bool b1, .bool b2, .bool b3, .bool b4, .bool b5, .bool b6, .bool b7, .bool b8, .bool b9]) (.int .i64 x18))) w14 (fun v30 => fun w31 => ∃ b32, v30 = .bool b32 ∧
(b32 = true →
 ∀ w34, w34 = w31.alloc (.cells #[.int .i64 x18] 3 (0, 0)) →
 RunOk Tryz.prog (Hold (Builtin.append_ #[24, 24] 24 #[.slice o15 n16 n17, .slice (some ⟨hs w31, 0, none⟩) 1 1])) w34 (fun v36 => fun w37 => ∃ o38, ∃ n39, ∃ n40, v36 = .slice o38 n39 n40 ∧
 k21 o38 n39 n40 w37)) ∧
(b32 = false →
 k21 o15 n16 n17 w31))) ∧
(decide (x18 < 9) = false →
 ∃ o43, ∃ n44, ∃ n45, w14.cell? ⟨p, 8, none⟩ = some (.slice o43 n44 n45) ∧
 ∃ o46, ∃ n47, ∃ n48, w14.cell? ⟨p, 9, none⟩ = some (.slice o46 n47 n48) ∧
 Calls Tryz.prog 76 #[.agg #[.slice o43 n44 n45, .slice o46 n47 n48], .slice o15 n16 n17] w14 (fun e49 => fun w50 => ∃ b51, e49 = .returned (.bool b51) ∧
(b51 = true →
 R (.returned (.bool true)) w50) ∧
(b51 = false →
 R (.returned (.bool false)) w50))))) :
    Calls Tryz.prog 40 #[(.pointer (some ⟨p, 0, none⟩))] w R :=
  calls_of_vc an40 Tryz.func40 rfl (by kernel_rfl) (by kernel_rfl) (Eq.mp (by kernel_rfl) h)

/-- (*samaritan/raft.Node).lead -/
def an41 : An := (.seq (.reg []) (.seq (.seq (.reg []) (.blk (.loop [(15, .int .i64)] (.seq (.reg [(0, 0, true)]) (.seq (.cond .nil .nil) (.seq (.blk (.seq (.reg []) (.regD [] [0, 1, 2, 3, 4, 7, 8, 11, 12, 5, 6, 9, 10, 13, 14] [5, 10, 14]))) (.reg []))))))) (.seq (.seq (.reg [(1, 0, true), (5, 0, true)]) (.cond .nil .nil)) (.seq (.reg []) (.reg [])))))
set_option maxRecDepth 100000 in
theorem nf41 (p : Nat) (now : Int) (w : World) (R : Ending → World → Prop) (h :
(∃ x1, w.cell? ⟨p, 0, none⟩ = some (.int .i64 x1) ∧
 There w ⟨p, 11, none⟩ 1 ∧
 ∀ w2, w2 = setCells w ⟨p, 11, none⟩ [.int .i64 3] 0 →
 There w2 ⟨p, 12, none⟩ 1 ∧
 ∀ w4, w4 = setCells w2 ⟨p, 12, none⟩ [.int .i64 x1] 0 →
 ∃ k6 : (Nat →
 Int →
 World →
 Prop), (∃ n7, k6 n7 0 w4) ∧
 ∀ n8 : Nat, (Nat →
 Value) →
 ∀ w10 : World, ∀ x11 : Int, k6 n8 x11 w10 →
(decide (x11 < 9) = true →
 ∀ w14, w14 = w10.drew →
 Calls Tryz.prog 20 #[.pointer (some ⟨p, 0, none⟩)] w14 (fun e16 => fun w17 => ∃ x18, e16 = .returned (.int .i64 x18) ∧
((0 : Int) ≤ x11 ∧
 x11 < 9) ∧
 There w17 (Addr.add ⟨p, 26, none⟩ ((x11).toNat * 1)) 1 ∧
 ∀ w19, w19 = setCells w17 (Addr.add ⟨p, 26, none⟩ ((x11).toNat * 1)) [.int .i64 (IntKind.wrap .i64 (x18 + 1))] 0 →
((0 : Int) ≤ x11 ∧
 x11 < 9) ∧
 There w19 (Addr.add ⟨p, 35, none⟩ ((x11).toNat * 1)) 1 ∧
 ∀ w21, w21 = setCells w19 (Addr.add ⟨p, 35, none⟩ ((x11).toNat * 1)) [.int .i64 0] 0 →
 ∃ n23, n23 < n8 ∧
 k6 n23 (IntKind.wrap .i64 (x11 + 1)) w21)) ∧
(decide (x11 < 9) = false →
 Calls Tryz.prog 69 #[.pointer (some ⟨p, 0, none⟩), .int .i64 1, .slice none 0 0] w10 (fun e25 => fun w26 => ∃ b27, e25 = .returned (.bool b27) ∧
(b27 = true →
 Calls Tryz.prog 70 #[.pointer (some ⟨p, 0, none⟩)] w26 (fun e29 => fun w30 => ∃ b31, e29 = .returned (.bool b31) ∧
(b31 = true →
 Calls Tryz.prog 30 #[.pointer (some ⟨p, 0, none⟩)] w30 (fun e33 => fun w34 => e33 = .returned (.tuple #[]) ∧
 There w34 ⟨p, 15, none⟩ 1 ∧
 ∀ w35, w35 = setCells w34 ⟨p, 15, none⟩ [.int .i64 now] 0 →
 R (.returned (.tuple #[])) w35)) ∧
(b31 = false →
 R (.returned (.tuple #[])) w30))) ∧
(b27 = false →
 R (.returned (.tuple #[])) w26))))) :
    Calls Tryz.prog 41 #[(.pointer (some ⟨p, 0, none⟩)), (.int .i64 now)] w R :=
  calls_of_vc an41 Tryz.func41 rfl (by kernel_rfl) (by kernel_rfl) (Eq.mp (by kernel_rfl) h)

/-- (*samaritan/raft.Node).receive -/
def an42 : An := (.seq (.reg []) (.seq (.regD [] [0, 1, 2, 3, 4, 5, 6, 7, 8, 9, 10, 11, 12, 13, 14] [8, 11, 14]) (.seq (.seq (.reg [(2, 0, true)]) (.cond (.seq (.regD [] [0, 2, 3, 4, 1, 5, 6, 7] [1]) (.seq (.reg []) .nil)) .nil)) (.seq (.seq (.reg [(7, 0, true)]) (.cond .nil .nil)) (.seq (.reg []) (.seq (.regD [] [0, 1, 2, 3, 4, 5, 6, 7, 8, 9, 10, 11, 12] [12]) (.reg [])))))))
set_option maxRecDepth 100000 in
theorem nf42 (p : Nat) (m_Kind : Int) (m_From : Int) (m_To : Int) (m_Term : Int) (m_Prev : Int) (m_PrevTerm : Int) (m_Commit : Int) (m_Granted : Bool) (m_Entries : Option Addr) (m_Entries_n : Nat) (m_Entries_c : Nat) (now : Int) (w : World) (R : Ending → World → Prop) (h :
(∀ w1, w1 = w.alloc (.cells #[.int .i64 m_Kind, .int .i64 m_From, .int .i64 m_To, .int .i64 m_Term, .int .i64 m_Prev, .int .i64 m_PrevTerm, .int .i64 m_Commit, .bool m_Granted, .slice m_Entries m_Entries_n m_Entries_c] 45 (0, 0)) →
 ∀ w3, w3 = w1.drew →
 ∃ x5, w3.cell? ⟨hs w, 1, none⟩ = some (.int .i64 x5) ∧
 There w3 ⟨p, 11, none⟩ 1 ∧
 ∀ w6, w6 = setCells w3 ⟨p, 11, none⟩ [.int .i64 1] 0 →
 Kept w3 w6 ⟨hs w, 1, none⟩ 1 ∧
 There w6 ⟨p, 12, none⟩ 1 ∧
 ∀ w8, w8 = setCells w6 ⟨p, 12, none⟩ [.int .i64 x5] 0 →
 There w8 ⟨p, 14, none⟩ 1 ∧
 ∀ w10, w10 = setCells w8 ⟨p, 14, none⟩ [.int .i64 now] 0 →
 ∃ x12, w10.cell? ⟨hs w, 0, none⟩ = some (.int .i64 x12) ∧
 ∃ x13, w10.cell? ⟨hs w, 1, none⟩ = some (.int .i64 x13) ∧
 ∃ x14, w10.cell? ⟨hs w, 2, none⟩ = some (.int .i64 x14) ∧
 ∃ x15, w10.cell? ⟨hs w, 3, none⟩ = some (.int .i64 x15) ∧
 ∃ x16, w10.cell? ⟨hs w, 4, none⟩ = some (.int .i64 x16) ∧
 ∃ x17, w10.cell? ⟨hs w, 5, none⟩ = some (.int .i64 x17) ∧
 ∃ x18, w10.cell? ⟨hs w, 6, none⟩ = some (.int .i64 x18) ∧
 ∃ b19, w10.cell? ⟨hs w, 7, none⟩ = some (.bool b19) ∧
 ∃ o20, ∃ n21, ∃ n22, w10.cell? ⟨hs w, 8, none⟩ = some (.slice o20 n21 n22) ∧
 Calls Tryz.prog 77 #[.pointer (some ⟨p, 0, none⟩), .agg #[.int .i64 x12, .int .i64 x13, .int .i64 x14, .int .i64 x15, .int .i64 x16, .int .i64 x17, .int .i64 x18, .bool b19, .slice o20 n21 n22]] w10 (fun e23 => fun w24 => ∃ b25, e23 = .returned (.bool b25) ∧
(b25 = true →
 ∃ x27, w24.cell? ⟨hs w, 4, none⟩ = some (.int .i64 x27) ∧
 ∃ x28, w24.cell? ⟨hs w, 5, none⟩ = some (.int .i64 x28) ∧
 ∃ o29, ∃ n30, ∃ n31, w24.cell? ⟨hs w, 8, none⟩ = some (.slice o29 n30 n31) ∧
 Calls Tryz.prog 78 #[.pointer (some ⟨p, 0, none⟩), .int .i64 x27, .int .i64 x28, .slice o29 n30 n31] w24 (fun e32 => fun w33 => ∃ b34, e32 = .returned (.bool b34) ∧
(b34 = true →
 ∃ x36, w33.cell? ⟨hs w, 4, none⟩ = some (.int .i64 x36) ∧
 ∃ o37, ∃ n38, ∃ n39, w33.cell? ⟨hs w, 8, none⟩ = some (.slice o37 n38 n39) ∧
 ∀ w40, w40 = w33.drew →
 ∃ x42, w40.cell? ⟨p, 13, none⟩ = some (.int .i64 x42) ∧
 ∃ x43, w40.cell? ⟨hs w, 6, none⟩ = some (.int .i64 x43) ∧
 There w40 ⟨p, 13, none⟩ 1 ∧
 ∀ w44, w44 = setCells w40 ⟨p, 13, none⟩ [.int .i64 (if (x42 < (if (IntKind.wrap .i64 (x36 + ((n38 : Nat) : Int)) < x43) then (IntKind.wrap .i64 (x36 + ((n38 : Nat) : Int))) else x43)) then (if (IntKind.wrap .i64 (x36 + ((n38 : Nat) : Int)) < x43) then (IntKind.wrap .i64 (x36 + ((n38 : Nat) : Int))) else x43) else x42)] 0 →
 ∃ x46, w44.cell? ⟨hs w, 1, none⟩ = some (.int .i64 x46) ∧
 Calls Tryz.prog 67 #[.pointer (some ⟨p, 0, none⟩), .agg #[.int .i64 4, .int .i64 0, .int .i64 x46, .int .i64 0, .int .i64 (IntKind.wrap .i64 (x36 + ((n38 : Nat) : Int))), .int .i64 0, .int .i64 0, .bool true, .slice none 0 0]] w44 (fun e47 => fun w48 => e47 = .returned (.tuple #[]) ∧
 R (.returned (.tuple #[])) w48)) ∧
(b34 = false →
 R (.returned (.tuple #[])) w33))) ∧
(b25 = false →
 ∀ w51, w51 = w24.drew →
 ∃ x53, w51.cell? ⟨hs w, 4, none⟩ = some (.int .i64 x53) ∧
 Calls Tryz.prog 20 #[.pointer (some ⟨p, 0, none⟩)] w51 (fun e54 => fun w55 => ∃ x56, e54 = .returned (.int .i64 x56) ∧
 Kept w51 w55 ⟨hs w, 4, none⟩ 1 ∧
 ∃ x57, w55.cell? ⟨hs w, 1, none⟩ = some (.int .i64 x57) ∧
 Calls Tryz.prog 67 #[.pointer (some ⟨p, 0, none⟩), .agg #[.int .i64 4, .int .i64 0, .int .i64 x57, .int .i64 0, .int .i64 (if ((if (IntKind.wrap .i64 (x53 - 1) < x56) then (IntKind.wrap .i64 (x53 - 1)) else x56) < 0) then 0 else (if (IntKind.wrap .i64 (x53 - 1) < x56) then (IntKind.wrap .i64 (x53 - 1)) else x56)), .int .i64 0, .int .i64 0, .bool false, .slice none 0 0]] w55 (fun e58 => fun w59 => e58 = .returned (.tuple #[]) ∧
 R (.returned (.tuple #[])) w59)))))) :
    Calls Tryz.prog 42 #[(.pointer (some ⟨p, 0, none⟩)), (.agg #[(.int .i64 m_Kind), (.int .i64 m_From), (.int .i64 m_To), (.int .i64 m_Term), (.int .i64 m_Prev), (.int .i64 m_PrevTerm), (.int .i64 m_Commit), (.bool m_Granted), (.slice m_Entries m_Entries_n m_Entries_c)]), (.int .i64 now)] w R :=
  calls_of_vc an42 Tryz.func42 rfl (by kernel_rfl) (by kernel_rfl) (Eq.mp (by kernel_rfl) h)

/-- (*samaritan/raft.Node).others -/
def an44 : An := (.seq (.reg []) (.seq (.reg [(1, 2, false)]) .nil))
set_option maxRecDepth 100000 in
theorem nf44 (p : Nat) (w : World) (R : Ending → World → Prop) (h :
(∀ w1, w1 = w.alloc (.cells #[.pointer (some ⟨p, 0, none⟩)] 27 (0, 0)) →
 ∃ o3, w1.cell? ⟨hs w, 0, none⟩ = some (.pointer o3) ∧
 ∃ a4 : Addr, o3 = some a4 ∧
 ∃ o5, ∃ n6, ∃ n7, w1.cell? (Addr.add a4 8) = some (.slice o5 n6 n7) ∧
 ∃ o8, ∃ n9, ∃ n10, w1.cell? (Addr.add (Addr.add a4 8) 1) = some (.slice o8 n9 n10) ∧
 Calls Tryz.prog 52 #[.agg #[.slice o5 n6 n7, .slice o8 n9 n10]] w1 (fun e11 => fun w12 => ∃ o13, ∃ n14, ∃ n15, e11 = .returned (.slice o13 n14 n15) ∧
 Calls Tryz.prog 80 #[.slice o13 n14 n15, Value.func (Fn.func 81) #[] #[.pointer (some ⟨hs w, 0, none⟩)]] w12 (fun e16 => fun w17 => ∃ o18, ∃ n19, ∃ n20, e16 = .returned (.slice o18 n19 n20) ∧
 R (.returned (.slice o18 n19 n20)) w17)))) :
    Calls Tryz.prog 44 #[(.pointer (some ⟨p, 0, none⟩))] w R :=
  calls_of_vc an44 Tryz.func44 rfl (by kernel_rfl) (by kernel_rfl) (Eq.mp (by kernel_rfl) h)

/-- (*samaritan/raft.Node).replied -/
def an45 : An := (.seq (.reg []) (.seq (.seq (.reg [(1, 0, true)]) (.cond (.seq (.regD [] [0, 1, 2, 3, 4, 5, 6, 7, 8, 9, 10, 11, 12, 13, 14, 15, 16, 17, 18, 19] [19]) (.seq (.reg []) .nil)) .nil)) (.seq (.seq (.regD [(4, 0, true)] [0, 1, 2, 3, 4] [3]) (.cond .nil .nil)) (.seq (.regD [] [0, 1, 2, 3, 4, 5, 6, 7, 8, 9, 10, 11, 12, 13, 14, 15, 16] [16]) (.seq (.regD [] [0, 1, 2, 3, 4, 5, 6, 7, 8, 9, 10, 11, 12, 13, 14] [14]) (.seq (.reg []) (.seq (.seq (.reg [(1, 0, true), (8, 0, true)]) (.cond .nil .nil)) (.seq (.reg [(5, 0, true)]) (.cond (.reg []) (.seq (.regD [(9, 0, true)] [0, 1, 2, 3, 4, 5, 6, 7, 8, 9] [8]) (.cond (.reg []) .nil)))))))))))
set_option maxRecDepth 100000 in
theorem nf45 (p : Nat) (m_Kind : Int) (m_From : Int) (m_To : Int) (m_Term : Int) (m_Prev : Int) (m_PrevTerm : Int) (m_Commit : Int) (m_Granted : Bool) (m_Entries : Option Addr) (m_Entries_n : Nat) (m_Entries_c : Nat) (w : World) (R : Ending → World → Prop) (h :
(∀ w1, w1 = w.alloc (.cells #[.int .i64 m_Kind, .int .i64 m_From, .int .i64 m_To, .int .i64 m_Term, .int .i64 m_Prev, .int .i64 m_PrevTerm, .int .i64 m_Commit, .bool m_Granted, .slice m_Entries m_Entries_n m_Entries_c] 45 (0, 0)) →
 ∃ b3, w1.cell? ⟨hs w, 7, none⟩ = some (.bool b3) ∧
(b3 = true →
 ∀ w5, w5 = w1.drew →
 ∃ x7, w5.cell? ⟨hs w, 4, none⟩ = some (.int .i64 x7) ∧
 Calls Tryz.prog 20 #[.pointer (some ⟨p, 0, none⟩)] w5 (fun e8 => fun w9 => ∃ x10, e8 = .returned (.int .i64 x10) ∧
 Kept w5 w9 ⟨hs w, 4, none⟩ 1 ∧
(decide (x7 > x10) = true →
 R (.returned (.tuple #[])) w9) ∧
(decide (x7 > x10) = false →
 ∀ w13, w13 = w9.drew →
 ∃ x15, w13.cell? ⟨hs w, 1, none⟩ = some (.int .i64 x15) ∧
 ∃ x16, w13.cell? ⟨hs w, 1, none⟩ = some (.int .i64 x16) ∧
((0 : Int) ≤ x16 ∧
 x16 < 9) ∧
 ∃ x17, w13.cell? (Addr.add ⟨p, 35, none⟩ ((x16).toNat * 1)) = some (.int .i64 x17) ∧
 ∃ x18, w13.cell? ⟨hs w, 4, none⟩ = some (.int .i64 x18) ∧
((0 : Int) ≤ x15 ∧
 x15 < 9) ∧
 There w13 (Addr.add ⟨p, 35, none⟩ ((x15).toNat * 1)) 1 ∧
 ∀ w19, w19 = setCells w13 (Addr.add ⟨p, 35, none⟩ ((x15).toNat * 1)) [.int .i64 (if (x17 < x18) then x18 else x17)] 0 →
 ∀ w21, w21 = w19.drew →
 ∃ x23, w21.cell? ⟨hs w, 1, none⟩ = some (.int .i64 x23) ∧
 ∃ x24, w21.cell? ⟨hs w, 1, none⟩ = some (.int .i64 x24) ∧
((0 : Int) ≤ x24 ∧
 x24 < 9) ∧
 ∃ x25, w21.cell? (Addr.add ⟨p, 35, none⟩ ((x24).toNat * 1)) = some (.int .i64 x25) ∧
((0 : Int) ≤ x23 ∧
 x23 < 9) ∧
 There w21 (Addr.add ⟨p, 26, none⟩ ((x23).toNat * 1)) 1 ∧
 ∀ w26, w26 = setCells w21 (Addr.add ⟨p, 26, none⟩ ((x23).toNat * 1)) [.int .i64 (IntKind.wrap .i64 (x25 + 1))] 0 →
 ∃ x28, w26.cell? ⟨p, 13, none⟩ = some (.int .i64 x28) ∧
 Calls Tryz.prog 70 #[.pointer (some ⟨p, 0, none⟩)] w26 (fun e29 => fun w30 => ∃ b31, e29 = .returned (.bool b31) ∧
(b31 = true →
 ∃ x33, w30.cell? ⟨p, 11, none⟩ = some (.int .i64 x33) ∧
((! (decide (x33 = 3))) = true →
 R (.returned (.tuple #[])) w30) ∧
((! (decide (x33 = 3))) = false →
 ∃ x36, w30.cell? ⟨p, 13, none⟩ = some (.int .i64 x36) ∧
(decide (x36 > x28) = true →
 Calls Tryz.prog 30 #[.pointer (some ⟨p, 0, none⟩)] w30 (fun e38 => fun w39 => e38 = .returned (.tuple #[]) ∧
 R (.returned (.tuple #[])) w39)) ∧
(decide (x36 > x28) = false →
 ∀ w41, w41 = w30.drew →
 ∃ x43, w41.cell? ⟨hs w, 1, none⟩ = some (.int .i64 x43) ∧
((0 : Int) ≤ x43 ∧
 x43 < 9) ∧
 ∃ x44, w41.cell? (Addr.add ⟨p, 26, none⟩ ((x43).toNat * 1)) = some (.int .i64 x44) ∧
 Calls Tryz.prog 20 #[.pointer (some ⟨p, 0, none⟩)] w41 (fun e45 => fun w46 => ∃ x47, e45 = .returned (.int .i64 x47) ∧
 Kept w41 w46 (Addr.add ⟨p, 26, none⟩ ((x43).toNat * 1)) 1 ∧
 Kept w41 w46 ⟨hs w, 1, none⟩ 1 ∧
(decide (x44 ≤ x47) = true →
 ∃ x49, w46.cell? ⟨hs w, 1, none⟩ = some (.int .i64 x49) ∧
 Calls Tryz.prog 64 #[.pointer (some ⟨p, 0, none⟩), .int .i64 x49] w46 (fun e50 => fun w51 => e50 = .returned (.tuple #[]) ∧
 R (.returned (.tuple #[])) w51)) ∧
(decide (x44 ≤ x47) = false →
 R (.returned (.tuple #[])) w46))))) ∧
(b31 = false →
 R (.returned (.tuple #[])) w30))))) ∧
(b3 = false →
 ∀ w55, w55 = w1.drew →
 ∃ x57, w55.cell? ⟨hs w, 1, none⟩ = some (.int .i64 x57) ∧
 ∃ x58, w55.cell? ⟨hs w, 1, none⟩ = some (.int .i64 x58) ∧
((0 : Int) ≤ x58 ∧
 x58 < 9) ∧
 ∃ x59, w55.cell? (Addr.add ⟨p, 26, none⟩ ((x58).toNat * 1)) = some (.int .i64 x59) ∧
 ∃ x60, w55.cell? ⟨hs w, 4, none⟩ = some (.int .i64 x60) ∧
((0 : Int) ≤ x57 ∧
 x57 < 9) ∧
 There w55 (Addr.add ⟨p, 26, none⟩ ((x57).toNat * 1)) 1 ∧
 ∀ w61, w61 = setCells w55 (Addr.add ⟨p, 26, none⟩ ((x57).toNat * 1)) [.int .i64 (if ((if (IntKind.wrap .i64 (x60 + 1) < IntKind.wrap .i64 (x59 - 1)) then (IntKind.wrap .i64 (x60 + 1)) else (IntKind.wrap .i64 (x59 - 1))) < 1) then 1 else (if (IntKind.wrap .i64 (x60 + 1) < IntKind.wrap .i64 (x59 - 1)) then (IntKind.wrap .i64 (x60 + 1)) else (IntKind.wrap .i64 (x59 - 1))))] 0 →
 ∃ x63, w61.cell? ⟨hs w, 1, none⟩ = some (.int .i64 x63) ∧
 Calls Tryz.prog 64 #[.pointer (some ⟨p, 0, none⟩), .int .i64 x63] w61 (fun e64 => fun w65 => e64 = .returned (.tuple #[]) ∧
 R (.returned (.tuple #[])) w65)))) :
    Calls Tryz.prog 45 #[(.pointer (some ⟨p, 0, none⟩)), (.agg #[(.int .i64 m_Kind), (.int .i64 m_From), (.int .i64 m_To), (.int .i64 m_Term), (.int .i64 m_Prev), (.int .i64 m_PrevTerm), (.int .i64 m_Commit), (.bool m_Granted), (.slice m_Entries m_Entries_n m_Entries_c)])] w R :=
  calls_of_vc an45 Tryz.func45 rfl (by kernel_rfl) (by kernel_rfl) (Eq.mp (by kernel_rfl) h)

/-- samaritan/raft.decodeRecord -/
def an60 : An := (.seq (.reg []) (.seq (.reg []) (.seq (.reg []) (.seq (.reg []) (.seq (.seq (.reg [(2, 0, true), (6, 3, true)]) (.cond (.seq (.reg []) .nil) .nil)) (.seq (.regD [] [0, 1, 2, 3, 4] [3]) .nil))))))
set_option maxRecDepth 100000 in
theorem nf60 (b : Option Addr) (b_n : Nat) (b_c : Nat) (w : World) (R : Ending → World → Prop) (h :
(∀ w1, w1 = w.alloc (.cells #[.int .i64 0, .int .i64 0, .slice none 0 0] 49 (0, 0)) →
 Calls Tryz.prog 91 #[.slice b b_n b_c] w1 (fun e3 => fun w4 => ∃ o5, e3 = .returned (.pointer o5) ∧
 Calls Tryz.prog 92 #[.pointer o5] w4 (fun e6 => fun w7 => ∃ x8, e6 = .returned (.int .i64 x8) ∧
 Calls Tryz.prog 96 #[.pointer o5] w7 (fun e9 => fun w10 => ∃ x11, ∃ x12, ∃ o13, ∃ n14, ∃ n15, e9 = .returned (.agg #[.int .i64 x11, .int .i64 x12, .slice o13 n14 n15]) ∧
 ∀ w16, w16 = w10.alloc (.cells #[.int .i64 0, .int .i64 0, .slice none 0 0] 49 (0, 0)) →
 There w16 ⟨hs w10, 0, none⟩ 3 ∧
 ∀ w18, w18 = setCells w16 ⟨hs w10, 0, none⟩ [.int .i64 x11, .int .i64 x12, .slice o13 n14 n15] 0 →
 Calls Tryz.prog 93 #[.pointer o5] w18 (fun e20 => fun w21 => ∃ x22, e20 = .returned (.int .i64 x22) ∧
((! (decide (x22 = 0))) = true →
 There w21 ⟨hs w, 0, none⟩ 3 ∧
 ∀ w24, w24 = setCells w21 ⟨hs w, 0, none⟩ [.int .i64 0, .int .i64 0, .slice none 0 0] 0 →
 ∃ x26, w24.cell? ⟨hs w, 0, none⟩ = some (.int .i64 x26) ∧
 ∃ x27, w24.cell? ⟨hs w, 1, none⟩ = some (.int .i64 x27) ∧
 ∃ o28, ∃ n29, ∃ n30, w24.cell? ⟨hs w, 2, none⟩ = some (.slice o28 n29 n30) ∧
 R (.returned (.tuple #[.int .i64 0, .agg #[.int .i64 x26, .int .i64 x27, .slice o28 n29 n30], .bool false])) w24) ∧
((! (decide (x22 = 0))) = false →
 ∃ x32, w21.cell? ⟨hs w10, 0, none⟩ = some (.int .i64 x32) ∧
 ∃ x33, w21.cell? ⟨hs w10, 1, none⟩ = some (.int .i64 x33) ∧
 ∃ o34, ∃ n35, ∃ n36, w21.cell? ⟨hs w10, 2, none⟩ = some (.slice o34 n35 n36) ∧
 Calls Tryz.prog 72 #[.agg #[.int .i64 x32, .int .i64 x33, .slice o34 n35 n36]] w21 (fun e37 => fun w38 => ∃ o39, ∃ n40, ∃ n41, e37 = .returned (.slice o39 n40 n41) ∧
(Option.isNone o39 = true →
 There w38 ⟨hs w, 0, none⟩ 3 ∧
 ∀ w43, w43 = setCells w38 ⟨hs w, 0, none⟩ [.int .i64 0, .int .i64 0, .slice none 0 0] 0 →
 ∃ x45, w43.cell? ⟨hs w, 0, none⟩ = some (.int .i64 x45) ∧
 ∃ x46, w43.cell? ⟨hs w, 1, none⟩ = some (.int .i64 x46) ∧
 ∃ o47, ∃ n48, ∃ n49, w43.cell? ⟨hs w, 2, none⟩ = some (.slice o47 n48 n49) ∧
 R (.returned (.tuple #[.int .i64 0, .agg #[.int .i64 x45, .int .i64 x46, .slice o47 n48 n49], .bool false])) w43) ∧
(Option.isNone o39 = false →
 ∀ w51, w51 = w38.drew →
 ∃ x53, w51.cell? ⟨hs w10, 0, none⟩ = some (.int .i64 x53) ∧
 ∃ x54, w51.cell? ⟨hs w10, 1, none⟩ = some (.int .i64 x54) ∧
 ∃ o55, ∃ n56, ∃ n57, w51.cell? ⟨hs w10, 2, none⟩ = some (.slice o55 n56 n57) ∧
 There w51 ⟨hs w, 0, none⟩ 3 ∧
 ∀ w58, w58 = setCells w51 ⟨hs w, 0, none⟩ [.int .i64 x53, .int .i64 x54, .slice o55 n56 n57] 0 →
 ∃ x60, w58.cell? ⟨hs w, 0, none⟩ = some (.int .i64 x60) ∧
 ∃ x61, w58.cell? ⟨hs w, 1, none⟩ = some (.int .i64 x61) ∧
 ∃ o62, ∃ n63, ∃ n64, w58.cell? ⟨hs w, 2, none⟩ = some (.slice o62 n63 n64) ∧
 R (.returned (.tuple #[.int .i64 x8, .agg #[.int .i64 x60, .int .i64 x61, .slice o62 n63 n64], .bool true])) w58))))))))) :
    Calls Tryz.prog 60 #[(.slice b b_n b_c)] w R :=
  calls_of_vc an60 Tryz.func60 rfl (by kernel_rfl) (by kernel_rfl) (Eq.mp (by kernel_rfl) h)

/-- samaritan/raft.membershipOf -/
def an63 : An := (.seq (.reg []) (.seq (.seq (.reg [(2, 0, true)]) (.cond (.seq (.reg []) .nil) .nil)) (.seq (.reg []) (.seq (.seq (.reg [(1, 0, true), (4, 0, true)]) (.cond (.seq (.reg []) .nil) .nil)) (.seq (.reg []) .nil)))))
set_option maxRecDepth 100000 in
theorem nf63 (e_Term : Int) (e_Kind : Int) (e_Body : Option Addr) (e_Body_n : Nat) (e_Body_c : Nat) (w : World) (R : Ending → World → Prop) (h :
(∀ w1, w1 = w.alloc (.cells #[.int .i64 e_Term, .int .i64 e_Kind, .slice e_Body e_Body_n e_Body_c] 49 (0, 0)) →
 ∀ w3, w3 = w1.alloc (.cells #[.slice none 0 0, .slice none 0 0] 26 (0, 0)) →
 ∃ x5, w3.cell? ⟨hs w, 1, none⟩ = some (.int .i64 x5) ∧
((! (decide (x5 = 3))) = true →
 There w3 ⟨hs w1, 0, none⟩ 2 ∧
 ∀ w7, w7 = setCells w3 ⟨hs w1, 0, none⟩ [.slice none 0 0, .slice none 0 0] 0 →
 ∃ o9, ∃ n10, ∃ n11, w7.cell? ⟨hs w1, 0, none⟩ = some (.slice o9 n10 n11) ∧
 ∃ o12, ∃ n13, ∃ n14, w7.cell? ⟨hs w1, 1, none⟩ = some (.slice o12 n13 n14) ∧
 R (.returned (.tuple #[.agg #[.slice o9 n10 n11, .slice o12 n13 n14], .bool false])) w7) ∧
((! (decide (x5 = 3))) = false →
 ∃ o16, ∃ n17, ∃ n18, w3.cell? ⟨hs w, 2, none⟩ = some (.slice o16 n17 n18) ∧
 Calls Tryz.prog 98 #[.slice o16 n17 n18] w3 (fun e19 => fun w20 => ∃ o21, ∃ n22, ∃ n23, ∃ o24, ∃ n25, ∃ n26, ∃ x27, e19 = .returned (.tuple #[.agg #[.slice o21 n22 n23, .slice o24 n25 n26], .int .i64 x27]) ∧
 ∀ w28, w28 = w20.alloc (.cells #[.slice none 0 0, .slice none 0 0] 26 (0, 0)) →
 There w28 ⟨hs w20, 0, none⟩ 2 ∧
 ∀ w30, w30 = setCells w28 ⟨hs w20, 0, none⟩ [.slice o21 n22 n23, .slice o24 n25 n26] 0 →
((! (decide (x27 = 0))) = true →
 There w30 ⟨hs w1, 0, none⟩ 2 ∧
 ∀ w33, w33 = setCells w30 ⟨hs w1, 0, none⟩ [.slice none 0 0, .slice none 0 0] 0 →
 ∃ o35, ∃ n36, ∃ n37, w33.cell? ⟨hs w1, 0, none⟩ = some (.slice o35 n36 n37) ∧
 ∃ o38, ∃ n39, ∃ n40, w33.cell? ⟨hs w1, 1, none⟩ = some (.slice o38 n39 n40) ∧
 R (.returned (.tuple #[.agg #[.slice o35 n36 n37, .slice o38 n39 n40], .bool false])) w33) ∧
((! (decide (x27 = 0))) = false →
 ∃ o42, ∃ n43, ∃ n44, w30.cell? ⟨hs w20, 0, none⟩ = some (.slice o42 n43 n44) ∧
 ∃ o45, ∃ n46, ∃ n47, w30.cell? ⟨hs w20, 1, none⟩ = some (.slice o45 n46 n47) ∧
 Calls Tryz.prog 22 #[.agg #[.slice o42 n43 n44, .slice o45 n46 n47]] w30 (fun e48 => fun w49 => ∃ b50, e48 = .returned (.bool b50) ∧
(b50 = true →
 ∃ o52, ∃ n53, ∃ n54, w49.cell? ⟨hs w20, 0, none⟩ = some (.slice o52 n53 n54) ∧
 ∃ o55, ∃ n56, ∃ n57, w49.cell? ⟨hs w20, 1, none⟩ = some (.slice o55 n56 n57) ∧
 There w49 ⟨hs w1, 0, none⟩ 2 ∧
 ∀ w58, w58 = setCells w49 ⟨hs w1, 0, none⟩ [.slice o52 n53 n54, .slice o55 n56 n57] 0 →
 ∃ o60, ∃ n61, ∃ n62, w58.cell? ⟨hs w1, 0, none⟩ = some (.slice o60 n61 n62) ∧
 ∃ o63, ∃ n64, ∃ n65, w58.cell? ⟨hs w1, 1, none⟩ = some (.slice o63 n64 n65) ∧
 R (.returned (.tuple #[.agg #[.slice o60 n61 n62, .slice o63 n64 n65], .bool true])) w58) ∧
(b50 = false →
 There w49 ⟨hs w1, 0, none⟩ 2 ∧
 ∀ w67, w67 = setCells w49 ⟨hs w1, 0, none⟩ [.slice none 0 0, .slice none 0 0] 0 →
 ∃ o69, ∃ n70, ∃ n71, w67.cell? ⟨hs w1, 0, none⟩ = some (.slice o69 n70 n71) ∧
 ∃ o72, ∃ n73, ∃ n74, w67.cell? ⟨hs w1, 1, none⟩ = some (.slice o72 n73 n74) ∧
 R (.returned (.tuple #[.agg #[.slice o69 n70 n71, .slice o72 n73 n74], .bool false])) w67))))))) :
    Calls Tryz.prog 63 #[(.agg #[(.int .i64 e_Term), (.int .i64 e_Kind), (.slice e_Body e_Body_n e_Body_c)])] w R :=
  calls_of_vc an63 Tryz.func63 rfl (by kernel_rfl) (by kernel_rfl) (Eq.mp (by kernel_rfl) h)

/-- (*samaritan/raft.Node).sendAppend -/
def an64 : An := (.seq (.reg []) (.seq (.reg [(8, 0, true)]) (.seq (.regD [] [0, 1, 2, 3, 4, 5, 6, 7, 8, 9, 10, 11] [10]) (.seq (.reg []) (.cut [(7, .slice)] (.seq (.reg []) (.blk (.loop [(7, .slice), (8, .int .i64), (40, .int .i64)] (.seq (.reg [(0, 0, true)]) (.seq (.cond .nil .nil) (.seq (.blk (.seq (.reg []) (.seq (.reg []) (.seq (.reg [(1, 0, true), (4, 0, true)]) (.cond (.seq (.reg [(2, 2, false)]) .nil) .nil))))) (.reg []))))))) (.reg []))))))
set_option maxRecDepth 100000 in
theorem nf64 (p : Nat) (to : Int) (w : World) (R : Ending → World → Prop) (h :
(((0 : Int) ≤ to ∧
 to < 9) ∧
 ∃ x1, w.cell? (Addr.add ⟨p, 26, none⟩ ((to).toNat * 1)) = some (.int .i64 x1) ∧
 ∃ o2, w.cell? ⟨p, 5, none⟩ = some (.pointer o2) ∧
 Calls Tryz.prog 99 #[.pointer o2, .int .i64 (IntKind.wrap .i64 (x1 - 1))] w (fun e3 => fun w4 => ∃ x5, ∃ b6, e3 = .returned (.tuple #[.int .i64 x5, .bool b6]) ∧
(b6 = true →
 ∀ w8, w8 = w4.drew →
 ∃ o10, w8.cell? ⟨p, 5, none⟩ = some (.pointer o10) ∧
((0 : Int) ≤ to ∧
 to < 9) ∧
 ∃ x11, w8.cell? (Addr.add ⟨p, 26, none⟩ ((to).toNat * 1)) = some (.int .i64 x11) ∧
 Calls Tryz.prog 100 #[.pointer o10, .int .i64 x11, .int .i64 16] w8 (fun e12 => fun w13 => ∃ o14, ∃ n15, ∃ n16, e12 = .returned (.slice o14 n15 n16) ∧
 ∀ k17 : (Option Addr →
 Nat →
 Nat →
 World →
 Prop), (∀ w19 : World, ∀ o20 : Option Addr, ∀ n21 : Nat, ∀ n22 : Nat, ((Nat →
 Value) →
 ∃ x25, w19.cell? ⟨p, 13, none⟩ = some (.int .i64 x25) ∧
 Calls Tryz.prog 67 #[.pointer (some ⟨p, 0, none⟩), .agg #[.int .i64 3, .int .i64 0, .int .i64 to, .int .i64 0, .int .i64 (IntKind.wrap .i64 (x1 - 1)), .int .i64 x5, .int .i64 x25, .bool false, .slice o20 n21 n22]] w19 (fun e26 => fun w27 => e26 = .returned (.tuple #[]) ∧
 R (.returned (.tuple #[])) w27)) →
 k17 o20 n21 n22 w19) →
 ∃ k28 : (Nat →
 Option Addr →
 Nat →
 Nat →
 Int →
 Int →
 World →
 Prop), (∃ n29, k28 n29 o14 n15 n16 0 0 w13) ∧
 ∀ n30 : Nat, (Nat →
 Value) →
 ∀ w32 : World, ∀ o33 : Option Addr, ∀ n34 : Nat, ∀ n35 : Nat, ∀ x36 : Int, ∀ x37 : Int, k28 n30 o33 n34 n35 x36 x37 w32 →
(decide (x37 < ((n15 : Nat) : Int)) = true →
 ∃ a40 : Addr, o14 = some a40 ∧
((0 : Int) ≤ x37 ∧
 x37 < ((n15 : Nat) : Int)) ∧
 ∃ x41, w32.cell? (Addr.add a40 ((x37).toNat * 3)) = some (.int .i64 x41) ∧
 ∃ x42, w32.cell? (Addr.add (Addr.add a40 ((x37).toNat * 3)) 1) = some (.int .i64 x42) ∧
 ∃ o43, ∃ n44, ∃ n45, w32.cell? (Addr.add (Addr.add a40 ((x37).toNat * 3)) 2) = some (.slice o43 n44 n45) ∧
 ∀ w46, w46 = w32.alloc (.cells #[.int .i64 0, .int .i64 0, .slice none 0 0] 49 (0, 0)) →
 There w46 ⟨hs w32, 0, none⟩ 3 ∧
 ∀ w48, w48 = setCells w46 ⟨hs w32, 0, none⟩ [.int .i64 x41, .int .i64 x42, .slice o43 n44 n45] 0 →
 ∃ o50, ∃ n51, ∃ n52, w48.cell? ⟨hs w32, 2, none⟩ = some (.slice o50 n51 n52) ∧
(decide (IntKind.wrap .i64 (x36 + ((n51 : Nat) : Int)) > 4096) = true →
(decide (x37 > 0) = true →
((0 : Int) ≤ x37 ∧
 x37 ≤ ((n35 : Nat) : Int)) ∧
 k17 (if (n35 = 0) then o33 else (Option.map (fun (x : Addr) => x) o33)) ((x37).toNat - 0) (n35 - 0) w48) ∧
(decide (x37 > 0) = false →
 ∃ n56, n56 < n30 ∧
 k28 n56 o33 n34 n35 (IntKind.wrap .i64 (x36 + ((n51 : Nat) : Int))) (IntKind.wrap .i64 (x37 + 1)) w48)) ∧
(decide (IntKind.wrap .i64 (x36 + ((n51 : Nat) : Int)) > 4096) = false →
 ∃ n58, n58 < n30 ∧
 k28 n58 o33 n34 n35 (IntKind.wrap .i64 (x36 + ((n51 : Nat) : Int))) (IntKind.wrap .i64 (x37 + 1)) w48)) ∧
(decide (x37 < ((n15 : Nat) : Int)) = false →
 k17 o33 n34 n35 w32))) ∧
(b6 = false →
 ∀ w61, w61 = w4.drew →
 ∃ o63, w61.cell? ⟨p, 5, none⟩ = some (.pointer o63) ∧
((0 : Int) ≤ to ∧
 to < 9) ∧
 ∃ x64, w61.cell? (Addr.add ⟨p, 26, none⟩ ((to).toNat * 1)) = some (.int .i64 x64) ∧
 Calls Tryz.prog 100 #[.pointer o63, .int .i64 x64, .int .i64 16] w61 (fun e65 => fun w66 => ∃ o67, ∃ n68, ∃ n69, e65 = .returned (.slice o67 n68 n69) ∧
 ∀ k70 : (Option Addr →
 Nat →
 Nat →
 World →
 Prop), (∀ w72 : World, ∀ o73 : Option Addr, ∀ n74 : Nat, ∀ n75 : Nat, ((Nat →
 Value) →
 ∃ x78, w72.cell? ⟨p, 13, none⟩ = some (.int .i64 x78) ∧
 Calls Tryz.prog 67 #[.pointer (some ⟨p, 0, none⟩), .agg #[.int .i64 3, .int .i64 0, .int .i64 to, .int .i64 0, .int .i64 (IntKind.wrap .i64 (x1 - 1)), .int .i64 x5, .int .i64 x78, .bool false, .slice o73 n74 n75]] w72 (fun e79 => fun w80 => e79 = .returned (.tuple #[]) ∧
 R (.returned (.tuple #[])) w80)) →
 k70 o73 n74 n75 w72) →
 ∃ k81 : (Nat →
 Option Addr →
 Nat →
 Nat →
 Int →
 Int →
 World →
 Prop), (∃ n82, k81 n82 o67 n68 n69 0 0 w66) ∧
 ∀ n83 : Nat, (Nat →
 Value) →
 ∀ w85 : World, ∀ o86 : Option Addr, ∀ n87 : Nat, ∀ n88 : Nat, ∀ x89 : Int, ∀ x90 : Int, k81 n83 o86 n87 n88 x89 x90 w85 →
(decide (x90 < ((n68 : Nat) : Int)) = true →
 ∃ a93 : Addr, o67 = some a93 ∧
((0 : Int) ≤ x90 ∧
 x90 < ((n68 : Nat) : Int)) ∧
 ∃ x94, w85.cell? (Addr.add a93 ((x90).toNat * 3)) = some (.int .i64 x94) ∧
 ∃ x95, w85.cell? (Addr.add (Addr.add a93 ((x90).toNat * 3)) 1) = some (.int .i64 x95) ∧
 ∃ o96, ∃ n97, ∃ n98, w85.cell? (Addr.add (Addr.add a93 ((x90).toNat * 3)) 2) = some (.slice o96 n97 n98) ∧
 ∀ w99, w99 = w85.alloc (.cells #[.int .i64 0, .int .i64 0, .slice none 0 0] 49 (0, 0)) →
 There w99 ⟨hs w85, 0, none⟩ 3 ∧
 ∀ w101, w101 = setCells w99 ⟨hs w85, 0, none⟩ [.int .i64 x94, .int .i64 x95, .slice o96 n97 n98] 0 →
 ∃ o103, ∃ n104, ∃ n105, w101.cell? ⟨hs w85, 2, none⟩ = some (.slice o103 n104 n105) ∧
(decide (IntKind.wrap .i64 (x89 + ((n104 : Nat) : Int)) > 4096) = true →
(decide (x90 > 0) = true →
((0 : Int) ≤ x90 ∧
 x90 ≤ ((n88 : Nat) : Int)) ∧
 k70 (if (n88 = 0) then o86 else (Option.map (fun (x : Addr) => x) o86)) ((x90).toNat - 0) (n88 - 0) w101) ∧
(decide (x90 > 0) = false →
 ∃ n109, n109 < n83 ∧
 k81 n109 o86 n87 n88 (IntKind.wrap .i64 (x89 + ((n104 : Nat) : Int))) (IntKind.wrap .i64 (x90 + 1)) w101)) ∧
(decide (IntKind.wrap .i64 (x89 + ((n104 : Nat) : Int)) > 4096) = false →
 ∃ n111, n111 < n83 ∧
 k81 n111 o86 n87 n88 (IntKind.wrap .i64 (x89 + ((n104 : Nat) : Int))) (IntKind.wrap .i64 (x90 + 1)) w101)) ∧
(decide (x90 < ((n68 : Nat) : Int)) = false →
 k70 o86 n87 n88 w85)))))) :
    Calls Tryz.prog 64 #[(.pointer (some ⟨p, 0, none⟩)), (.int .i64 to)] w R :=
  calls_of_vc an64 Tryz.func64 rfl (by kernel_rfl) (by kernel_rfl) (Eq.mp (by kernel_rfl) h)

/-- (*samaritan/raft.Node).ok -/
def an65 : An := (.seq (.reg []) (.cut [] (.seq (.reg [(1, 0, true), (7, 0, true)]) (.cond (.reg []) .nil)) (.seq (.reg [(4, 0, true)]) .nil)))
set_option maxRecDepth 100000 in
theorem nf65 (p : Nat) (e : Int) (w : World) (R : Ending → World → Prop) (h :
(∀ k1 : (World →
 Prop), (∀ w3 : World, ((Nat →
 Value) →
 ∃ x6, w3.cell? ⟨p, 44, none⟩ = some (.int .i64 x6) ∧
(decide (x6 = 0) = true →
 R (.returned (.bool true)) w3) ∧
(decide (x6 = 0) = false →
 R (.returned (.bool false)) w3)) →
 k1 w3) →
((! (decide (e = 0))) = true →
 ∃ x10, w.cell? ⟨p, 44, none⟩ = some (.int .i64 x10) ∧
(decide (x10 = 0) = true →
 There w ⟨p, 44, none⟩ 1 ∧
 ∀ w12, w12 = setCells w ⟨p, 44, none⟩ [.int .i64 e] 0 →
 k1 w12) ∧
(decide (x10 = 0) = false →
 k1 w)) ∧
((! (decide (e = 0))) = false →
 k1 w))) :
    Calls Tryz.prog 65 #[(.pointer (some ⟨p, 0, none⟩)), (.int .i64 e)] w R :=
  calls_of_vc an65 Tryz.func65 rfl (by kernel_rfl) (by kernel_rfl) (Eq.mp (by kernel_rfl) h)

/-- (*samaritan/raft.Node).send -/
def an67 : An := (.seq (.reg []) (.seq (.reg []) (.seq (.reg []) (.regD [(7, 1, false)] [0, 1, 2, 3, 4, 5, 6, 7, 8, 9, 10] [6, 7, 10]))))
set_option maxRecDepth 100000 in
theorem nf67 (p : Nat) (m_Kind : Int) (m_From : Int) (m_To : Int) (m_Term : Int) (m_Prev : Int) (m_PrevTerm : Int) (m_Commit : Int) (m_Granted : Bool) (m_Entries : Option Addr) (m_Entries_n : Nat) (m_Entries_c : Nat) (w : World) (R : Ending → World → Prop) (h :
(∀ w1, w1 = w.alloc (.cells #[.int .i64 m_Kind, .int .i64 m_From, .int .i64 m_To, .int .i64 m_Term, .int .i64 m_Prev, .int .i64 m_PrevTerm, .int .i64 m_Commit, .bool m_Granted, .slice m_Entries m_Entries_n m_Entries_c] 45 (0, 0)) →
 ∃ x3, w1.cell? ⟨p, 0, none⟩ = some (.int .i64 x3) ∧
 There w1 ⟨hs w, 1, none⟩ 1 ∧
 ∀ w4, w4 = setCells w1 ⟨hs w, 1, none⟩ [.int .i64 x3] 0 →
 ∃ o6, w4.cell? ⟨p, 4, none⟩ = some (.pointer o6) ∧
 Calls Tryz.prog 36 #[.pointer o6] w4 (fun e7 => fun w8 => ∃ x9, e7 = .returned (.int .i64 x9) ∧
 There w8 ⟨hs w, 3, none⟩ 1 ∧
 ∀ w10, w10 = setCells w8 ⟨hs w, 3, none⟩ [.int .i64 x9] 0 →
 ∀ w12, w12 = w10.drew →
 ∃ o14, ∃ n15, ∃ n16, w12.cell? ⟨p, 46, none⟩ = some (.slice o14 n15 n16) ∧
 ∃ x17, w12.cell? ⟨hs w, 0, none⟩ = some (.int .i64 x17) ∧
 ∃ x18, w12.cell? ⟨hs w, 1, none⟩ = some (.int .i64 x18) ∧
 ∃ x19, w12.cell? ⟨hs w, 2, none⟩ = some (.int .i64 x19) ∧
 ∃ x20, w12.cell? ⟨hs w, 3, none⟩ = some (.int .i64 x20) ∧
 ∃ x21, w12.cell? ⟨hs w, 4, none⟩ = some (.int .i64 x21) ∧
 ∃ x22, w12.cell? ⟨hs w, 5, none⟩ = some (.int .i64 x22) ∧
 ∃ x23, w12.cell? ⟨hs w, 6, none⟩ = some (.int .i64 x23) ∧
 ∃ b24, w12.cell? ⟨hs w, 7, none⟩ = some (.bool b24) ∧
 ∃ o25, ∃ n26, ∃ n27, w12.cell? ⟨hs w, 8, none⟩ = some (.slice o25 n26 n27) ∧
 ∀ w28, w28 = w12.alloc (.cells #[.int .i64 x17, .int .i64 x18, .int .i64 x19, .int .i64 x20, .int .i64 x21, .int .i64 x22, .int .i64 x23, .bool b24, .slice o25 n26 n27] 45 (0, 0)) →
 Kept w12 w28 ⟨p, 46, none⟩ 1 ∧
 RunOk Tryz.prog (Hold (Builtin.append_ #[35, 35] 35 #[.slice o14 n15 n16, .slice (some ⟨hs w12, 0, none⟩) 1 1])) w28 (fun v30 => fun w31 => ∃ o32, ∃ n33, ∃ n34, v30 = .slice o32 n33 n34 ∧
 There w31 ⟨p, 46, none⟩ 1 ∧
 ∀ w35, w35 = setCells w31 ⟨p, 46, none⟩ [.slice o32 n33 n34] 0 →
 R (.returned (.tuple #[])) w35)))) :
    Calls Tryz.prog 67 #[(.pointer (some ⟨p, 0, none⟩)), (.agg #[(.int .i64 m_Kind), (.int .i64 m_From), (.int .i64 m_To), (.int .i64 m_Term), (.int .i64 m_Prev), (.int .i64 m_PrevTerm), (.int .i64 m_Commit), (.bool m_Granted), (.slice m_Entries m_Entries_n m_Entries_c)])] w R :=
  calls_of_vc an67 Tryz.func67 rfl (by kernel_rfl) (by kernel_rfl) (Eq.mp (by kernel_rfl) h)

/-- (*samaritan/raft.Node).add -/
def an69 : An := (.seq (.reg []) (.seq (.reg []) (.seq (.reg [(12, 0, true)]) .nil)))
set_option maxRecDepth 100000 in
theorem nf69 (p : Nat) (kind : Int) (body : Option Addr) (body_n : Nat) (body_c : Nat) (w : World) (R : Ending → World → Prop) (h :
(∃ o1, w.cell? ⟨p, 5, none⟩ = some (.pointer o1) ∧
 Calls Tryz.prog 49 #[.pointer o1] w (fun e2 => fun w3 => ∃ x4, ∃ x5, e2 = .returned (.tuple #[.int .i64 x4, .int .i64 x5]) ∧
 ∃ o6, w3.cell? ⟨p, 4, none⟩ = some (.pointer o6) ∧
 Calls Tryz.prog 36 #[.pointer o6] w3 (fun e7 => fun w8 => ∃ x9, e7 = .returned (.int .i64 x9) ∧
 ∀ w10, w10 = w8.alloc (.cells #[.int .i64 x9, .int .i64 kind, .slice body body_n body_c] 49 (0, 0)) →
 Calls Tryz.prog 78 #[.pointer (some ⟨p, 0, none⟩), .int .i64 x4, .int .i64 x5, .slice (some ⟨hs w8, 0, none⟩) 1 1] w10 (fun e12 => fun w13 => ∃ b14, e12 = .returned (.bool b14) ∧
(b14 = true →
 R (.returned (.bool true)) w13) ∧
(b14 = false →
 R (.returned (.bool false)) w13)))))) :
    Calls Tryz.prog 69 #[(.pointer (some ⟨p, 0, none⟩)), (.int .i64 kind), (.slice body body_n body_c)] w R :=
  calls_of_vc an69 Tryz.func69 rfl (by kernel_rfl) (by kernel_rfl) (Eq.mp (by kernel_rfl) h)

/-- (*samaritan/raft.Node).advance -/
def an70 : An := (.seq (.reg []) (.seq (.reg []) (.seq (.reg [(1, 2, false)]) (.cut [] (.seq (.reg [(1, 2, false), (8, 0, true)]) (.seq (.reg [(4, 2, false), (7, 0, true), (12, 2, false), (16, 0, true)]) (.cond (.reg [(2, 2, false)]) .nil))) (.seq (.seq (.regD [(1, 2, false), (4, 0, true), (7, 2, false), (11, 2, false), (14, 0, true)] [0, 1, 2, 3, 4, 5, 6, 7, 8, 9, 10, 11, 12, 13, 14, 15] []) (.cond (.seq (.reg []) .nil) .nil)) (.seq (.seq (.reg [(1, 2, false), (6, 0, true)]) (.cond (.seq (.reg [(1, 2, false)]) (.seq (.regD [(2, 0, true), (7, 0, true)] [0, 1, 2, 3, 4, 5, 6, 7, 8, 9] [2, 6, 7]) .nil)) .nil)) (.cut [] (.seq (.reg [(1, 0, true)]) (.cond (.regD [(2, 2, false), (5, 2, false)] [0, 1, 2, 3, 4, 5, 6, 7] [4, 7]) .nil)) (.seq (.reg []) .nil))))))))
set_option maxRecDepth 100000 in
theorem nf70 (p : Nat) (w : World) (R : Ending → World → Prop) (h :
(∀ w1, w1 = w.alloc (.cells #[.pointer (some ⟨p, 0, none⟩)] 27 (0, 0)) →
 ∃ o3, w1.cell? ⟨hs w, 0, none⟩ = some (.pointer o3) ∧
 Calls Tryz.prog 20 #[.pointer o3] w1 (fun e4 => fun w5 => ∃ x6, e4 = .returned (.int .i64 x6) ∧
 ∀ w7, w7 = w5.alloc (.cells #[.int .i64 0] 2 (0, 0)) →
 There w7 ⟨hs w5, 0, none⟩ 1 ∧
 ∀ w9, w9 = setCells w7 ⟨hs w5, 0, none⟩ [.int .i64 x6] 0 →
 ∃ o11, w9.cell? ⟨hs w, 0, none⟩ = some (.pointer o11) ∧
 ∃ a12 : Addr, o11 = some a12 ∧
 ∃ o13, ∃ n14, ∃ n15, w9.cell? (Addr.add a12 8) = some (.slice o13 n14 n15) ∧
 ∃ o16, ∃ n17, ∃ n18, w9.cell? (Addr.add (Addr.add a12 8) 1) = some (.slice o16 n17 n18) ∧
 Calls Tryz.prog 103 #[.agg #[.slice o13 n14 n15, .slice o16 n17 n18], Value.func (Fn.func 104) #[] #[.pointer (some ⟨hs w, 0, none⟩), .pointer (some ⟨hs w5, 0, none⟩)]] w9 (fun e19 => fun w20 => ∃ x21, e19 = .returned (.int .i64 x21) ∧
 ∀ k22 : (World →
 Prop), (∀ w24 : World, ((Nat →
 Value) →
 ∀ w27, w27 = w24.drew →
 ∃ o29, w27.cell? ⟨hs w, 0, none⟩ = some (.pointer o29) ∧
 ∃ a30 : Addr, o29 = some a30 ∧
 ∃ x31, w27.cell? (Addr.add a30 10) = some (.int .i64 x31) ∧
(decide (x31 = 0) = true →
 R (.returned (.bool true)) w27) ∧
(decide (x31 = 0) = false →
 ∃ o34, w27.cell? ⟨hs w, 0, none⟩ = some (.pointer o34) ∧
 ∃ a35 : Addr, o34 = some a35 ∧
 ∃ x36, w27.cell? (Addr.add a35 10) = some (.int .i64 x36) ∧
 ∃ o37, w27.cell? ⟨hs w, 0, none⟩ = some (.pointer o37) ∧
 ∃ a38 : Addr, o37 = some a38 ∧
 ∃ x39, w27.cell? (Addr.add a38 13) = some (.int .i64 x39) ∧
(decide (x36 > x39) = true →
 R (.returned (.bool true)) w27) ∧
(decide (x36 > x39) = false →
 ∃ o42, w27.cell? ⟨hs w, 0, none⟩ = some (.pointer o42) ∧
 ∃ a43 : Addr, o42 = some a43 ∧
 ∃ o44, ∃ n45, ∃ n46, w27.cell? (Addr.add (Addr.add a43 8) 1) = some (.slice o44 n45 n46) ∧
(decide (((n45 : Nat) : Int) > 0) = true →
 ∃ o48, w27.cell? ⟨hs w, 0, none⟩ = some (.pointer o48) ∧
 ∃ a49 : Addr, o48 = some a49 ∧
 ∃ o50, ∃ n51, ∃ n52, w27.cell? (Addr.add a49 8) = some (.slice o50 n51 n52) ∧
 ∃ o53, ∃ n54, ∃ n55, w27.cell? (Addr.add (Addr.add a49 8) 1) = some (.slice o53 n54 n55) ∧
 Calls Tryz.prog 105 #[.agg #[.slice o50 n51 n52, .slice o53 n54 n55]] w27 (fun e56 => fun w57 => ∃ o58, ∃ n59, ∃ n60, ∃ o61, ∃ n62, ∃ n63, ∃ x64, e56 = .returned (.tuple #[.agg #[.slice o58 n59 n60, .slice o61 n62 n63], .int .i64 x64]) ∧
 ∀ w65, w65 = w57.alloc (.cells #[.slice none 0 0, .slice none 0 0] 26 (0, 0)) →
 There w65 ⟨hs w57, 0, none⟩ 2 ∧
 ∀ w67, w67 = setCells w65 ⟨hs w57, 0, none⟩ [.slice o58 n59 n60, .slice o61 n62 n63] 0 →
 ∀ w69, w69 = w67.drew →
 ∃ o71, w69.cell? ⟨hs w, 0, none⟩ = some (.pointer o71) ∧
 Calls Tryz.prog 65 #[.pointer o71, .int .i64 x64] w69 (fun e72 => fun w73 => ∃ b74, e72 = .returned (.bool b74) ∧
(b74 = true →
 ∃ o76, w73.cell? ⟨hs w, 0, none⟩ = some (.pointer o76) ∧
 ∃ o77, ∃ n78, ∃ n79, w73.cell? ⟨hs w57, 0, none⟩ = some (.slice o77 n78 n79) ∧
 ∃ o80, ∃ n81, ∃ n82, w73.cell? ⟨hs w57, 1, none⟩ = some (.slice o80 n81 n82) ∧
 Calls Tryz.prog 48 #[.agg #[.slice o77 n78 n79, .slice o80 n81 n82]] w73 (fun e83 => fun w84 => ∃ o85, ∃ n86, ∃ n87, e83 = .returned (.slice o85 n86 n87) ∧
 Kept w73 w84 ⟨hs w, 0, none⟩ 1 ∧
 Calls Tryz.prog 69 #[.pointer o76, .int .i64 3, .slice o85 n86 n87] w84 (fun e88 => fun w89 => ∃ b90, e88 = .returned (.bool b90) ∧
(b90 = true →
 R (.returned (.bool true)) w89) ∧
(b90 = false →
 R (.returned (.bool false)) w89)))) ∧
(b74 = false →
 R (.returned (.bool false)) w73)))) ∧
(decide (((n45 : Nat) : Int) > 0) = false →
 ∀ k95 : (World →
 Prop), (∀ w97 : World, ((Nat →
 Value) →
 R (.returned (.bool true)) w97) →
 k95 w97) →
 ∃ o100, w27.cell? ⟨hs w, 0, none⟩ = some (.pointer o100) ∧
 Calls Tryz.prog 31 #[.pointer o100] w27 (fun e101 => fun w102 => ∃ b103, e101 = .returned (.bool b103) ∧
(b103 = true →
 k95 w102) ∧
(b103 = false →
 ∀ w106, w106 = w102.drew →
 ∃ o108, w106.cell? ⟨hs w, 0, none⟩ = some (.pointer o108) ∧
 ∃ o109, w106.cell? ⟨hs w, 0, none⟩ = some (.pointer o109) ∧
 ∃ a110 : Addr, o108 = some a110 ∧
 There w106 (Addr.add a110 11) 1 ∧
 ∀ w111, w111 = setCells w106 (Addr.add a110 11) [.int .i64 1] 0 →
 Kept w106 w111 ⟨hs w, 0, none⟩ 1 ∧
 ∃ a113 : Addr, o109 = some a113 ∧
 There w111 (Addr.add a113 12) 1 ∧
 ∀ w114, w114 = setCells w111 (Addr.add a113 12) [.int .i64 (-1)] 0 →
 k95 w114)))))) →
 k22 w24) →
 ∃ o116, w20.cell? ⟨hs w, 0, none⟩ = some (.pointer o116) ∧
 ∃ a117 : Addr, o116 = some a117 ∧
 ∃ o118, w20.cell? (Addr.add a117 5) = some (.pointer o118) ∧
 Calls Tryz.prog 99 #[.pointer o118, .int .i64 x21] w20 (fun e119 => fun w120 => ∃ x121, ∃ b122, e119 = .returned (.tuple #[.int .i64 x121, .bool b122]) ∧
(b122 = true →
 ∃ o124, w120.cell? ⟨hs w, 0, none⟩ = some (.pointer o124) ∧
 ∃ a125 : Addr, o124 = some a125 ∧
 ∃ x126, w120.cell? (Addr.add a125 13) = some (.int .i64 x126) ∧
(decide (x21 > x126) = true →
 ∃ o128, w120.cell? ⟨hs w, 0, none⟩ = some (.pointer o128) ∧
 ∃ a129 : Addr, o128 = some a129 ∧
 ∃ o130, w120.cell? (Addr.add a129 4) = some (.pointer o130) ∧
 Calls Tryz.prog 36 #[.pointer o130] w120 (fun e131 => fun w132 => ∃ x133, e131 = .returned (.int .i64 x133) ∧
(decide (x121 = x133) = true →
 ∃ o135, w132.cell? ⟨hs w, 0, none⟩ = some (.pointer o135) ∧
 ∃ a136 : Addr, o135 = some a136 ∧
 There w132 (Addr.add a136 13) 1 ∧
 ∀ w137, w137 = setCells w132 (Addr.add a136 13) [.int .i64 x21] 0 →
 k22 w137) ∧
(decide (x121 = x133) = false →
 k22 w132))) ∧
(decide (x21 > x126) = false →
 k22 w120)) ∧
(b122 = false →
 k22 w120)))))) :
    Calls Tryz.prog 70 #[(.pointer (some ⟨p, 0, none⟩))] w R :=
  calls_of_vc an70 Tryz.func70 rfl (by kernel_rfl) (by kernel_rfl) (Eq.mp (by kernel_rfl) h)

/-- samaritan/raft.inRange -/
def an71 : An := (.seq (.reg []) (.seq (.reg [(2, 0, true), (5, 0, true)]) .nil))
set_option maxRecDepth 100000 in
theorem nf71 (n : Int) (low : Int) (w : World) (R : Ending → World → Prop) (h :
((decide (n ≥ low) = true →
(decide (n ≤ 1099511627776) = true →
 R (.returned (.bool true)) w) ∧
(decide (n ≤ 1099511627776) = false →
 R (.returned (.bool false)) w)) ∧
(decide (n ≥ low) = false →
 R (.returned (.bool false)) w))) :
    Calls Tryz.prog 71 #[(.int .i64 n), (.int .i64 low)] w R :=
  calls_of_vc an71 Tryz.func71 rfl (by kernel_rfl) (by kernel_rfl) (Eq.mp (by kernel_rfl) h)

/-- (*samaritan/raft.Node).matches -/
def an77 : An := (.seq (.reg []) (.seq (.seq (.regD [(9, 0, true)] [0, 1, 2, 3, 4, 5, 6, 7, 8, 9, 10, 11] [6]) (.seq (.reg [(6, 0, true)]) (.cond (.seq (.reg []) .nil) .nil))) (.seq (.seq (.reg []) (.blk (.loop [(31, .int .i64)] (.seq (.reg [(0, 0, true)]) (.seq (.cond .nil .nil) (.seq (.blk (.seq (.reg []) (.seq (.reg []) (.seq (.reg [(5, 0, true), (10, 0, true)]) (.cond (.seq (.reg []) .nil) .nil))))) (.reg []))))))) (.seq (.reg []) .nil))))
set_option maxRecDepth 100000 in
theorem nf77 (p : Nat) (m_Kind : Int) (m_From : Int) (m_To : Int) (m_Term : Int) (m_Prev : Int) (m_PrevTerm : Int) (m_Commit : Int) (m_Granted : Bool) (m_Entries : Option Addr) (m_Entries_n : Nat) (m_Entries_c : Nat) (w : World) (R : Ending → World → Prop) (h :
(∀ w1, w1 = w.alloc (.cells #[.int .i64 m_Kind, .int .i64 m_From, .int .i64 m_To, .int .i64 m_Term, .int .i64 m_Prev, .int .i64 m_PrevTerm, .int .i64 m_Commit, .bool m_Granted, .slice m_Entries m_Entries_n m_Entries_c] 45 (0, 0)) →
 ∀ w3, w3 = w1.drew →
 ∃ o5, w3.cell? ⟨p, 5, none⟩ = some (.pointer o5) ∧
 ∃ x6, w3.cell? ⟨hs w, 4, none⟩ = some (.int .i64 x6) ∧
 Calls Tryz.prog 99 #[.pointer o5, .int .i64 x6] w3 (fun e7 => fun w8 => ∃ x9, ∃ b10, e7 = .returned (.tuple #[.int .i64 x9, .bool b10]) ∧
(b10 = true →
 ∃ x12, w8.cell? ⟨hs w, 5, none⟩ = some (.int .i64 x12) ∧
((! (decide (x9 = x12))) = true →
 R (.returned (.bool false)) w8) ∧
((! (decide (x9 = x12))) = false →
 ∃ o15, ∃ n16, ∃ n17, w8.cell? ⟨hs w, 8, none⟩ = some (.slice o15 n16 n17) ∧
 ∃ k18 : (Nat →
 Int →
 World →
 Prop), (∃ n19, k18 n19 0 w8) ∧
 ∀ n20 : Nat, (Nat →
 Value) →
 ∀ w22 : World, ∀ x23 : Int, k18 n20 x23 w22 →
(decide (x23 < ((n16 : Nat) : Int)) = true →
 ∃ a26 : Addr, o15 = some a26 ∧
((0 : Int) ≤ x23 ∧
 x23 < ((n16 : Nat) : Int)) ∧
 ∃ x27, w22.cell? (Addr.add a26 ((x23).toNat * 3)) = some (.int .i64 x27) ∧
 ∃ x28, w22.cell? (Addr.add (Addr.add a26 ((x23).toNat * 3)) 1) = some (.int .i64 x28) ∧
 ∃ o29, ∃ n30, ∃ n31, w22.cell? (Addr.add (Addr.add a26 ((x23).toNat * 3)) 2) = some (.slice o29 n30 n31) ∧
 ∀ w32, w32 = w22.alloc (.cells #[.int .i64 0, .int .i64 0, .slice none 0 0] 49 (0, 0)) →
 There w32 ⟨hs w22, 0, none⟩ 3 ∧
 ∀ w34, w34 = setCells w32 ⟨hs w22, 0, none⟩ [.int .i64 x27, .int .i64 x28, .slice o29 n30 n31] 0 →
 ∃ x36, w34.cell? ⟨hs w, 4, none⟩ = some (.int .i64 x36) ∧
 ∃ x37, w34.cell? ⟨p, 13, none⟩ = some (.int .i64 x37) ∧
(decide (IntKind.wrap .i64 ((IntKind.wrap .i64 (x36 + 1)) + x23) ≤ x37) = true →
 ∃ x39, w34.cell? ⟨hs w22, 0, none⟩ = some (.int .i64 x39) ∧
 ∃ x40, w34.cell? ⟨hs w22, 1, none⟩ = some (.int .i64 x40) ∧
 ∃ o41, ∃ n42, ∃ n43, w34.cell? ⟨hs w22, 2, none⟩ = some (.slice o41 n42 n43) ∧
 Calls Tryz.prog 108 #[.pointer (some ⟨p, 0, none⟩), .int .i64 (IntKind.wrap .i64 ((IntKind.wrap .i64 (x36 + 1)) + x23)), .agg #[.int .i64 x39, .int .i64 x40, .slice o41 n42 n43]] w34 (fun e44 => fun w45 => ∃ b46, e44 = .returned (.bool b46) ∧
(b46 = true →
 ∃ n48, n48 < n20 ∧
 k18 n48 (IntKind.wrap .i64 (x23 + 1)) w45) ∧
(b46 = false →
 R (.returned (.bool false)) w45))) ∧
(decide (IntKind.wrap .i64 ((IntKind.wrap .i64 (x36 + 1)) + x23) ≤ x37) = false →
 ∃ n51, n51 < n20 ∧
 k18 n51 (IntKind.wrap .i64 (x23 + 1)) w34)) ∧
(decide (x23 < ((n16 : Nat) : Int)) = false →
 R (.returned (.bool true)) w22))) ∧
(b10 = false →
 R (.returned (.bool false)) w8)))) :
    Calls Tryz.prog 77 #[(.pointer (some ⟨p, 0, none⟩)), (.agg #[(.int .i64 m_Kind), (.int .i64 m_From), (.int .i64 m_To), (.int .i64 m_Term), (.int .i64 m_Prev), (.int .i64 m_PrevTerm), (.int .i64 m_Commit), (.bool m_Granted), (.slice m_Entries m_Entries_n m_Entries_c)])] w R :=
  calls_of_vc an77 Tryz.func77 rfl (by kernel_rfl) (by kernel_rfl) (Eq.mp (by kernel_rfl) h)

/-- (*samaritan/raft.Node).write -/
def an78 : An := (.seq (.reg []) (.seq (.reg []) (.seq (.blk (.loop [(9, .int .i64)] (.seq (.seq (.reg [(3, 0, true), (14, 0, true)]) (.cond .nil .nil)) (.blk (.reg []))))) (.seq (.seq (.reg [(3, 0, true)]) (.cond (.seq (.reg []) .nil) .nil)) (.seq (.reg []) (.seq (.seq (.reg [(2, 2, false)]) (.blk (.loop [(50, .int .i64)] (.seq (.reg [(0, 0, true)]) (.seq (.cond .nil .nil) (.seq (.blk (.seq (.reg []) (.seq (.reg []) (.seq (.reg []) (.seq (.reg []) (.seq (.seq (.regD [(8, 0, true)] [0, 1, 2, 3, 4, 5, 6, 7, 8, 9] [5, 7, 8]) (.cond (.seq (.reg []) .nil) .nil)) (.reg []))))))) (.reg []))))))) (.seq (.seq (.reg [(9, 0, true)]) (.seq (.reg [(2, 0, true)]) (.cond (.seq (.reg []) .nil) .nil))) (.cut [] (.seq (.reg [(5, 0, true)]) (.cond (.reg []) .nil)) (.seq (.seq (.reg [(2, 2, false)]) (.blk (.loop [(108, .int .i64)] (.seq (.reg [(0, 0, true)]) (.seq (.cond .nil .nil) (.cut [] (.blk (.seq (.reg []) (.seq (.reg [(4, 0, true)]) (.seq (.reg []) (.cond (.reg []) .nil))))) (.reg []))))))) (.seq (.reg []) .nil))))))))))
set_option maxRecDepth 100000 in
theorem nf78 (p : Nat) (prev : Int) (term : Int) (l : Option Addr) (l_n : Nat) (l_c : Nat) (w : World) (R : Ending → World → Prop) (h :
(∃ k1 : (Nat →
 Int →
 World →
 Prop), (∃ n2, k1 n2 0 w) ∧
 ∀ n3 : Nat, (Nat →
 Value) →
 ∀ w5 : World, ∀ x6 : Int, k1 n3 x6 w5 →
(decide (x6 < ((l_n : Nat) : Int)) = true →
 ∃ a9 : Addr, l = some a9 ∧
((0 : Int) ≤ x6 ∧
 x6 < ((l_n : Nat) : Int)) ∧
 ∃ x10, w5.cell? (Addr.add a9 ((x6).toNat * 3)) = some (.int .i64 x10) ∧
 ∃ x11, w5.cell? (Addr.add (Addr.add a9 ((x6).toNat * 3)) 1) = some (.int .i64 x11) ∧
 ∃ o12, ∃ n13, ∃ n14, w5.cell? (Addr.add (Addr.add a9 ((x6).toNat * 3)) 2) = some (.slice o12 n13 n14) ∧
 Calls Tryz.prog 108 #[.pointer (some ⟨p, 0, none⟩), .int .i64 (IntKind.wrap .i64 ((IntKind.wrap .i64 (prev + 1)) + x6)), .agg #[.int .i64 x10, .int .i64 x11, .slice o12 n13 n14]] w5 (fun e15 => fun w16 => ∃ b17, e15 = .returned (.bool b17) ∧
(b17 = true →
 ∃ n19, n19 < n3 ∧
 k1 n19 (IntKind.wrap .i64 (x6 + 1)) w16) ∧
(b17 = false →
(decide (x6 = ((l_n : Nat) : Int)) = true →
 R (.returned (.bool true)) w16) ∧
(decide (x6 = ((l_n : Nat) : Int)) = false →
((0 : Int) ≤ x6 ∧
 x6 ≤ ((l_n : Nat) : Int)) ∧
 ∃ k23 : (Nat →
 Int →
 World →
 Prop), (∃ n24, k23 n24 0 w16) ∧
 ∀ n25 : Nat, (Nat →
 Value) →
 ∀ w27 : World, ∀ x28 : Int, k23 n25 x28 w27 →
(decide (x28 < (((l_n - (x6).toNat) : Nat) : Int)) = true →
 ∃ a31 : Addr, (if (l_c = (x6).toNat) then l else (Option.map (fun (x : Addr) => Addr.add x ((x6).toNat * 3)) l)) = some a31 ∧
((0 : Int) ≤ x28 ∧
 x28 < (((l_n - (x6).toNat) : Nat) : Int)) ∧
 ∃ x32, w27.cell? (Addr.add a31 ((x28).toNat * 3)) = some (.int .i64 x32) ∧
 ∃ x33, w27.cell? (Addr.add (Addr.add a31 ((x28).toNat * 3)) 1) = some (.int .i64 x33) ∧
 ∃ o34, ∃ n35, ∃ n36, w27.cell? (Addr.add (Addr.add a31 ((x28).toNat * 3)) 2) = some (.slice o34 n35 n36) ∧
 ∀ w37, w37 = w27.alloc (.cells #[.int .i64 0, .int .i64 0, .slice none 0 0] 49 (0, 0)) →
 There w37 ⟨hs w27, 0, none⟩ 3 ∧
 ∀ w39, w39 = setCells w37 ⟨hs w27, 0, none⟩ [.int .i64 x32, .int .i64 x33, .slice o34 n35 n36] 0 →
 ∀ w41, w41 = w39.alloc (.cells #[.slice none 0 0] 137 (0, 0)) →
 Calls Tryz.prog 101 #[.pointer (some ⟨hs w39, 0, none⟩), .int .i64 (IntKind.wrap .i64 ((IntKind.wrap .i64 ((IntKind.wrap .i64 (prev + 1)) + x6)) + x28))] w41 (fun e43 => fun w44 => e43 = .returned (.tuple #[]) ∧
 ∃ x45, w44.cell? ⟨hs w27, 0, none⟩ = some (.int .i64 x45) ∧
 ∃ x46, w44.cell? ⟨hs w27, 1, none⟩ = some (.int .i64 x46) ∧
 ∃ o47, ∃ n48, ∃ n49, w44.cell? ⟨hs w27, 2, none⟩ = some (.slice o47 n48 n49) ∧
 Calls Tryz.prog 109 #[.pointer (some ⟨hs w39, 0, none⟩), .agg #[.int .i64 x45, .int .i64 x46, .slice o47 n48 n49]] w44 (fun e50 => fun w51 => e50 = .returned (.tuple #[]) ∧
 ∀ w52, w52 = w51.drew →
 ∃ o54, w52.cell? ⟨p, 3, none⟩ = some (.pointer o54) ∧
 Calls Tryz.prog 85 #[.pointer (some ⟨hs w39, 0, none⟩)] w52 (fun e55 => fun w56 => ∃ o57, ∃ n58, ∃ n59, e55 = .returned (.slice o57 n58 n59) ∧
 Kept w52 w56 ⟨p, 3, none⟩ 1 ∧
 Calls Tryz.prog 110 #[.pointer o54, .agg #[.int .u8 69, .slice o57 n58 n59]] w56 (fun e60 => fun w61 => ∃ x62, e60 = .returned (.int .i64 x62) ∧
 Calls Tryz.prog 65 #[.pointer (some ⟨p, 0, none⟩), .int .i64 x62] w61 (fun e63 => fun w64 => ∃ b65, e63 = .returned (.bool b65) ∧
(b65 = true →
 There w64 ⟨p, 45, none⟩ 1 ∧
 ∀ w67, w67 = setCells w64 ⟨p, 45, none⟩ [.bool true] 0 →
 ∃ n69, n69 < n25 ∧
 k23 n69 (IntKind.wrap .i64 (x28 + 1)) w67) ∧
(b65 = false →
 R (.returned (.bool false)) w64))))))) ∧
(decide (x28 < (((l_n - (x6).toNat) : Nat) : Int)) = false →
 ∃ o72, w27.cell? ⟨p, 5, none⟩ = some (.pointer o72) ∧
 Calls Tryz.prog 111 #[.pointer o72, .int .i64 prev, .int .i64 term, .slice l l_n l_c] w27 (fun e73 => fun w74 => ∃ b75, ∃ x76, e73 = .returned (.tuple #[.bool b75, .int .i64 x76]) ∧
(b75 = true →
 Calls Tryz.prog 65 #[.pointer (some ⟨p, 0, none⟩), .int .i64 x76] w74 (fun e78 => fun w79 => ∃ b80, e78 = .returned (.bool b80) ∧
(b80 = true →
 ∀ k82 : (World →
 Prop), (∀ w84 : World, ((Nat →
 Value) →
((0 : Int) ≤ x6 ∧
 x6 ≤ ((l_n : Nat) : Int)) ∧
 ∃ k87 : (Nat →
 Int →
 World →
 Prop), (∃ n88, k87 n88 0 w84) ∧
 ∀ n89 : Nat, (Nat →
 Value) →
 ∀ w91 : World, ∀ x92 : Int, k87 n89 x92 w91 →
(decide (x92 < (((l_n - (x6).toNat) : Nat) : Int)) = true →
 ∀ k95 : (World →
 Prop), (∀ w97 : World, ((Nat →
 Value) →
 ∃ n100, n100 < n89 ∧
 k87 n100 (IntKind.wrap .i64 (x92 + 1)) w97) →
 k95 w97) →
 ∃ a101 : Addr, (if (l_c = (x6).toNat) then l else (Option.map (fun (x : Addr) => Addr.add x ((x6).toNat * 3)) l)) = some a101 ∧
((0 : Int) ≤ x92 ∧
 x92 < (((l_n - (x6).toNat) : Nat) : Int)) ∧
 ∃ x102, w91.cell? (Addr.add a101 ((x92).toNat * 3)) = some (.int .i64 x102) ∧
 ∃ x103, w91.cell? (Addr.add (Addr.add a101 ((x92).toNat * 3)) 1) = some (.int .i64 x103) ∧
 ∃ o104, ∃ n105, ∃ n106, w91.cell? (Addr.add (Addr.add a101 ((x92).toNat * 3)) 2) = some (.slice o104 n105 n106) ∧
 ∀ w107, w107 = w91.alloc (.cells #[.int .i64 0, .int .i64 0, .slice none 0 0] 49 (0, 0)) →
 There w107 ⟨hs w91, 0, none⟩ 3 ∧
 ∀ w109, w109 = setCells w107 ⟨hs w91, 0, none⟩ [.int .i64 x102, .int .i64 x103, .slice o104 n105 n106] 0 →
 ∃ x111, w109.cell? ⟨hs w91, 0, none⟩ = some (.int .i64 x111) ∧
 ∃ x112, w109.cell? ⟨hs w91, 1, none⟩ = some (.int .i64 x112) ∧
 ∃ o113, ∃ n114, ∃ n115, w109.cell? ⟨hs w91, 2, none⟩ = some (.slice o113 n114 n115) ∧
 Calls Tryz.prog 63 #[.agg #[.int .i64 x111, .int .i64 x112, .slice o113 n114 n115]] w109 (fun e116 => fun w117 => ∃ o118, ∃ n119, ∃ n120, ∃ o121, ∃ n122, ∃ n123, ∃ b124, e116 = .returned (.tuple #[.agg #[.slice o118 n119 n120, .slice o121 n122 n123], .bool b124]) ∧
(b124 = true →
 ∀ w126, w126 = w117.alloc (.cells #[.slice none 0 0, .slice none 0 0] 26 (0, 0)) →
 There w126 ⟨hs w117, 0, none⟩ 2 ∧
 ∀ w128, w128 = setCells w126 ⟨hs w117, 0, none⟩ [.slice o118 n119 n120, .slice o121 n122 n123] 0 →
 ∃ o130, ∃ n131, ∃ n132, w128.cell? ⟨hs w117, 0, none⟩ = some (.slice o130 n131 n132) ∧
 ∃ o133, ∃ n134, ∃ n135, w128.cell? ⟨hs w117, 1, none⟩ = some (.slice o133 n134 n135) ∧
 There w128 ⟨p, 8, none⟩ 2 ∧
 ∀ w136, w136 = setCells w128 ⟨p, 8, none⟩ [.slice o130 n131 n132, .slice o133 n134 n135] 0 →
 There w136 ⟨p, 10, none⟩ 1 ∧
 ∀ w138, w138 = setCells w136 ⟨p, 10, none⟩ [.int .i64 (IntKind.wrap .i64 ((IntKind.wrap .i64 ((IntKind.wrap .i64 (prev + 1)) + x6)) + x92))] 0 →
 k95 w138) ∧
(b124 = false →
 ∀ w141, w141 = w117.alloc (.cells #[.slice none 0 0, .slice none 0 0] 26 (0, 0)) →
 There w141 ⟨hs w117, 0, none⟩ 2 ∧
 ∀ w143, w143 = setCells w141 ⟨hs w117, 0, none⟩ [.slice o118 n119 n120, .slice o121 n122 n123] 0 →
 k95 w143))) ∧
(decide (x92 < (((l_n - (x6).toNat) : Nat) : Int)) = false →
 R (.returned (.bool true)) w91)) →
 k82 w84) →
 ∃ x146, w79.cell? ⟨p, 10, none⟩ = some (.int .i64 x146) ∧
(decide (x146 ≥ IntKind.wrap .i64 ((IntKind.wrap .i64 (prev + 1)) + x6)) = true →
 Calls Tryz.prog 28 #[.pointer (some ⟨p, 0, none⟩), .int .i64 (IntKind.wrap .i64 ((IntKind.wrap .i64 ((IntKind.wrap .i64 (prev + 1)) + x6)) - 1))] w79 (fun e148 => fun w149 => e148 = .returned (.tuple #[]) ∧
 k82 w149)) ∧
(decide (x146 ≥ IntKind.wrap .i64 ((IntKind.wrap .i64 (prev + 1)) + x6)) = false →
 k82 w79)) ∧
(b80 = false →
 R (.returned (.bool false)) w79))) ∧
(b75 = false →
 Calls Tryz.prog 65 #[.pointer (some ⟨p, 0, none⟩), .int .i64 x76] w74 (fun e153 => fun w154 => ∃ b155, e153 = .returned (.bool b155) ∧
(b155 = true →
 R (.returned (.bool false)) w154) ∧
(b155 = false →
 R (.returned (.bool false)) w154))))))))) ∧
(decide (x6 < ((l_n : Nat) : Int)) = false →
(decide (x6 = ((l_n : Nat) : Int)) = true →
 R (.returned (.bool true)) w5) ∧
(decide (x6 = ((l_n : Nat) : Int)) = false →
((0 : Int) ≤ x6 ∧
 x6 ≤ ((l_n : Nat) : Int)) ∧
 ∃ k161 : (Nat →
 Int →
 World →
 Prop), (∃ n162, k161 n162 0 w5) ∧
 ∀ n163 : Nat, (Nat →
 Value) →
 ∀ w165 : World, ∀ x166 : Int, k161 n163 x166 w165 →
(decide (x166 < (((l_n - (x6).toNat) : Nat) : Int)) = true →
 ∃ a169 : Addr, (if (l_c = (x6).toNat) then l else (Option.map (fun (x : Addr) => Addr.add x ((x6).toNat * 3)) l)) = some a169 ∧
((0 : Int) ≤ x166 ∧
 x166 < (((l_n - (x6).toNat) : Nat) : Int)) ∧
 ∃ x170, w165.cell? (Addr.add a169 ((x166).toNat * 3)) = some (.int .i64 x170) ∧
 ∃ x171, w165.cell? (Addr.add (Addr.add a169 ((x166).toNat * 3)) 1) = some (.int .i64 x171) ∧
 ∃ o172, ∃ n173, ∃ n174, w165.cell? (Addr.add (Addr.add a169 ((x166).toNat * 3)) 2) = some (.slice o172 n173 n174) ∧
 ∀ w175, w175 = w165.alloc (.cells #[.int .i64 0, .int .i64 0, .slice none 0 0] 49 (0, 0)) →
 There w175 ⟨hs w165, 0, none⟩ 3 ∧
 ∀ w177, w177 = setCells w175 ⟨hs w165, 0, none⟩ [.int .i64 x170, .int .i64 x171, .slice o172 n173 n174] 0 →
 ∀ w179, w179 = w177.alloc (.cells #[.slice none 0 0] 137 (0, 0)) →
 Calls Tryz.prog 101 #[.pointer (some ⟨hs w177, 0, none⟩), .int .i64 (IntKind.wrap .i64 ((IntKind.wrap .i64 ((IntKind.wrap .i64 (prev + 1)) + x6)) + x166))] w179 (fun e181 => fun w182 => e181 = .returned (.tuple #[]) ∧
 ∃ x183, w182.cell? ⟨hs w165, 0, none⟩ = some (.int .i64 x183) ∧
 ∃ x184, w182.cell? ⟨hs w165, 1, none⟩ = some (.int .i64 x184) ∧
 ∃ o185, ∃ n186, ∃ n187, w182.cell? ⟨hs w165, 2, none⟩ = some (.slice o185 n186 n187) ∧
 Calls Tryz.prog 109 #[.pointer (some ⟨hs w177, 0, none⟩), .agg #[.int .i64 x183, .int .i64 x184, .slice o185 n186 n187]] w182 (fun e188 => fun w189 => e188 = .returned (.tuple #[]) ∧
 ∀ w190, w190 = w189.drew →
 ∃ o192, w190.cell? ⟨p, 3, none⟩ = some (.pointer o192) ∧
 Calls Tryz.prog 85 #[.pointer (some ⟨hs w177, 0, none⟩)] w190 (fun e193 => fun w194 => ∃ o195, ∃ n196, ∃ n197, e193 = .returned (.slice o195 n196 n197) ∧
 Kept w190 w194 ⟨p, 3, none⟩ 1 ∧
 Calls Tryz.prog 110 #[.pointer o192, .agg #[.int .u8 69, .slice o195 n196 n197]] w194 (fun e198 => fun w199 => ∃ x200, e198 = .returned (.int .i64 x200) ∧
 Calls Tryz.prog 65 #[.pointer (some ⟨p, 0, none⟩), .int .i64 x200] w199 (fun e201 => fun w202 => ∃ b203, e201 = .returned (.bool b203) ∧
(b203 = true →
 There w202 ⟨p, 45, none⟩ 1 ∧
 ∀ w205, w205 = setCells w202 ⟨p, 45, none⟩ [.bool true] 0 →
 ∃ n207, n207 < n163 ∧
 k161 n207 (IntKind.wrap .i64 (x166 + 1)) w205) ∧
(b203 = false →
 R (.returned (.bool false)) w202))))))) ∧
(decide (x166 < (((l_n - (x6).toNat) : Nat) : Int)) = false →
 ∃ o210, w165.cell? ⟨p, 5, none⟩ = some (.pointer o210) ∧
 Calls Tryz.prog 111 #[.pointer o210, .int .i64 prev, .int .i64 term, .slice l l_n l_c] w165 (fun e211 => fun w212 => ∃ b213, ∃ x214, e211 = .returned (.tuple #[.bool b213, .int .i64 x214]) ∧
(b213 = true →
 Calls Tryz.prog 65 #[.pointer (some ⟨p, 0, none⟩), .int .i64 x214] w212 (fun e216 => fun w217 => ∃ b218, e216 = .returned (.bool b218) ∧
(b218 = true →
 ∀ k220 : (World →
 Prop), (∀ w222 : World, ((Nat →
 Value) →
((0 : Int) ≤ x6 ∧
 x6 ≤ ((l_n : Nat) : Int)) ∧
 ∃ k225 : (Nat →
 Int →
 World →
 Prop), (∃ n226, k225 n226 0 w222) ∧
 ∀ n227 : Nat, (Nat →
 Value) →
 ∀ w229 : World, ∀ x230 : Int, k225 n227 x230 w229 →
(decide (x230 < (((l_n - (x6).toNat) : Nat) : Int)) = true →
 ∀ k233 : (World →
 Prop), (∀ w235 : World, ((Nat →
 Value) →
 ∃ n238, n238 < n227 ∧
 k225 n238 (IntKind.wrap .i64 (x230 + 1)) w235) →
 k233 w235) →
 ∃ a239 : Addr, (if (l_c = (x6).toNat) then l else (Option.map (fun (x : Addr) => Addr.add x ((x6).toNat * 3)) l)) = some a239 ∧
((0 : Int) ≤ x230 ∧
 x230 < (((l_n - (x6).toNat) : Nat) : Int)) ∧
 ∃ x240, w229.cell? (Addr.add a239 ((x230).toNat * 3)) = some (.int .i64 x240) ∧
 ∃ x241, w229.cell? (Addr.add (Addr.add a239 ((x230).toNat * 3)) 1) = some (.int .i64 x241) ∧
 ∃ o242, ∃ n243, ∃ n244, w229.cell? (Addr.add (Addr.add a239 ((x230).toNat * 3)) 2) = some (.slice o242 n243 n244) ∧
 ∀ w245, w245 = w229.alloc (.cells #[.int .i64 0, .int .i64 0, .slice none 0 0] 49 (0, 0)) →
 There w245 ⟨hs w229, 0, none⟩ 3 ∧
 ∀ w247, w247 = setCells w245 ⟨hs w229, 0, none⟩ [.int .i64 x240, .int .i64 x241, .slice o242 n243 n244] 0 →
 ∃ x249, w247.cell? ⟨hs w229, 0, none⟩ = some (.int .i64 x249) ∧
 ∃ x250, w247.cell? ⟨hs w229, 1, none⟩ = some (.int .i64 x250) ∧
 ∃ o251, ∃ n252, ∃ n253, w247.cell? ⟨hs w229, 2, none⟩ = some (.slice o251 n252 n253) ∧
 Calls Tryz.prog 63 #[.agg #[.int .i64 x249, .int .i64 x250, .slice o251 n252 n253]] w247 (fun e254 => fun w255 => ∃ o256, ∃ n257, ∃ n258, ∃ o259, ∃ n260, ∃ n261, ∃ b262, e254 = .returned (.tuple #[.agg #[.slice o256 n257 n258, .slice o259 n260 n261], .bool b262]) ∧
(b262 = true →
 ∀ w264, w264 = w255.alloc (.cells #[.slice none 0 0, .slice none 0 0] 26 (0, 0)) →
 There w264 ⟨hs w255, 0, none⟩ 2 ∧
 ∀ w266, w266 = setCells w264 ⟨hs w255, 0, none⟩ [.slice o256 n257 n258, .slice o259 n260 n261] 0 →
 ∃ o268, ∃ n269, ∃ n270, w266.cell? ⟨hs w255, 0, none⟩ = some (.slice o268 n269 n270) ∧
 ∃ o271, ∃ n272, ∃ n273, w266.cell? ⟨hs w255, 1, none⟩ = some (.slice o271 n272 n273) ∧
 There w266 ⟨p, 8, none⟩ 2 ∧
 ∀ w274, w274 = setCells w266 ⟨p, 8, none⟩ [.slice o268 n269 n270, .slice o271 n272 n273] 0 →
 There w274 ⟨p, 10, none⟩ 1 ∧
 ∀ w276, w276 = setCells w274 ⟨p, 10, none⟩ [.int .i64 (IntKind.wrap .i64 ((IntKind.wrap .i64 ((IntKind.wrap .i64 (prev + 1)) + x6)) + x230))] 0 →
 k233 w276) ∧
(b262 = false →
 ∀ w279, w279 = w255.alloc (.cells #[.slice none 0 0, .slice none 0 0] 26 (0, 0)) →
 There w279 ⟨hs w255, 0, none⟩ 2 ∧
 ∀ w281, w281 = setCells w279 ⟨hs w255, 0, none⟩ [.slice o256 n257 n258, .slice o259 n260 n261] 0 →
 k233 w281))) ∧
(decide (x230 < (((l_n - (x6).toNat) : Nat) : Int)) = false →
 R (.returned (.bool true)) w229)) →
 k220 w222) →
 ∃ x284, w217.cell? ⟨p, 10, none⟩ = some (.int .i64 x284) ∧
(decide (x284 ≥ IntKind.wrap .i64 ((IntKind.wrap .i64 (prev + 1)) + x6)) = true →
 Calls Tryz.prog 28 #[.pointer (some ⟨p, 0, none⟩), .int .i64 (IntKind.wrap .i64 ((IntKind.wrap .i64 ((IntKind.wrap .i64 (prev + 1)) + x6)) - 1))] w217 (fun e286 => fun w287 => e286 = .returned (.tuple #[]) ∧
 k220 w287)) ∧
(decide (x284 ≥ IntKind.wrap .i64 ((IntKind.wrap .i64 (prev + 1)) + x6)) = false →
 k220 w217)) ∧
(b218 = false →
 R (.returned (.bool false)) w217))) ∧
(b213 = false →
 Calls Tryz.prog 65 #[.pointer (some ⟨p, 0, none⟩), .int .i64 x214] w212 (fun e291 => fun w292 => ∃ b293, e291 = .returned (.bool b293) ∧
(b293 = true →
 R (.returned (.bool false)) w292) ∧
(b293 = false →
 R (.returned (.bool false)) w292))))))))) :
    Calls Tryz.prog 78 #[(.pointer (some ⟨p, 0, none⟩)), (.int .i64 prev), (.int .i64 term), (.slice l l_n l_c)] w R :=
  calls_of_vc an78 Tryz.func78 rfl (by kernel_rfl) (by kernel_rfl) (Eq.mp (by kernel_rfl) h)

/-- (*samaritan/raft.Node).others$1 -/
def an81 : An := (.seq (.reg []) (.seq (.reg [(2, 2, false), (5, 0, true)]) .nil))
set_option maxRecDepth 100000 in
theorem nf81 (m : Int) (c0 : Nat) (w : World) (R : Ending → World → Prop) (h :
(∃ o1, w.cell? ⟨c0, 0, none⟩ = some (.pointer o1) ∧
 ∃ a2 : Addr, o1 = some a2 ∧
 ∃ x3, w.cell? a2 = some (.int .i64 x3) ∧
(decide (m = x3) = true →
 R (.returned (.bool true)) w) ∧
(decide (m = x3) = false →
 R (.returned (.bool false)) w))) :
    Calls Tryz.prog 81 #[(.int .i64 m), (.pointer (some ⟨c0, 0, none⟩))] w R :=
  calls_of_vc an81 Tryz.func81 rfl (by kernel_rfl) (by kernel_rfl) (Eq.mp (by kernel_rfl) h)

/-- samaritan/raft.readEntry -/
def an96 : An := (.seq (.reg []) (.seq (.reg []) (.seq (.reg []) .nil)))
set_option maxRecDepth 100000 in
theorem nf96 (r : Nat) (w : World) (R : Ending → World → Prop) (h :
(∀ w1, w1 = w.alloc (.cells #[.int .i64 0, .int .i64 0, .slice none 0 0] 49 (0, 0)) →
 Calls Tryz.prog 92 #[.pointer (some ⟨r, 0, none⟩)] w1 (fun e3 => fun w4 => ∃ x5, e3 = .returned (.int .i64 x5) ∧
 Calls Tryz.prog 92 #[.pointer (some ⟨r, 0, none⟩)] w4 (fun e6 => fun w7 => ∃ x8, e6 = .returned (.int .i64 x8) ∧
 Calls Tryz.prog 118 #[.pointer (some ⟨r, 0, none⟩)] w7 (fun e9 => fun w10 => ∃ o11, ∃ n12, ∃ n13, e9 = .returned (.slice o11 n12 n13) ∧
 There w10 ⟨hs w, 0, none⟩ 3 ∧
 ∀ w14, w14 = setCells w10 ⟨hs w, 0, none⟩ [.int .i64 x5, .int .i64 x8, .slice o11 n12 n13] 0 →
 ∃ x16, w14.cell? ⟨hs w, 0, none⟩ = some (.int .i64 x16) ∧
 ∃ x17, w14.cell? ⟨hs w, 1, none⟩ = some (.int .i64 x17) ∧
 ∃ o18, ∃ n19, ∃ n20, w14.cell? ⟨hs w, 2, none⟩ = some (.slice o18 n19 n20) ∧
 R (.returned (.agg #[.int .i64 x16, .int .i64 x17, .slice o18 n19 n20])) w14))))) :
    Calls Tryz.prog 96 #[(.pointer (some ⟨r, 0, none⟩))] w R :=
  calls_of_vc an96 Tryz.func96 rfl (by kernel_rfl) (by kernel_rfl) (Eq.mp (by kernel_rfl) h)

/-- (*samaritan/raft.Node).advance$1 -/
def an104 : An := (.seq (.reg []) (.seq (.seq (.reg [(2, 2, false), (5, 0, true)]) (.cond (.seq (.reg []) .nil) .nil)) (.seq (.reg [(2, 2, false)]) .nil)))
set_option maxRecDepth 100000 in
theorem nf104 (member : Int) (c0 : Nat) (c1 : Nat) (w : World) (R : Ending → World → Prop) (h :
(∃ o1, w.cell? ⟨c0, 0, none⟩ = some (.pointer o1) ∧
 ∃ a2 : Addr, o1 = some a2 ∧
 ∃ x3, w.cell? a2 = some (.int .i64 x3) ∧
(decide (member = x3) = true →
 ∃ x5, w.cell? ⟨c1, 0, none⟩ = some (.int .i64 x5) ∧
 R (.returned (.int .i64 x5)) w) ∧
(decide (member = x3) = false →
 ∃ o7, w.cell? ⟨c0, 0, none⟩ = some (.pointer o7) ∧
 ∃ a8 : Addr, o7 = some a8 ∧
((0 : Int) ≤ member ∧
 member < 9) ∧
 ∃ x9, w.cell? (Addr.add (Addr.add a8 35) ((member).toNat * 1)) = some (.int .i64 x9) ∧
 R (.returned (.int .i64 x9)) w))) :
    Calls Tryz.prog 104 #[(.int .i64 member), (.pointer (some ⟨c0, 0, none⟩)), (.pointer (some ⟨c1, 0, none⟩))] w R :=
  calls_of_vc an104 Tryz.func104 rfl (by kernel_rfl) (by kernel_rfl) (Eq.mp (by kernel_rfl) h)

/-- (*samaritan/raft.Node).same -/
def an108 : An := (.seq (.reg []) (.seq (.reg [(8, 0, true)]) (.seq (.reg [(6, 0, true), (13, 0, true), (20, 0, true)]) .nil)))
set_option maxRecDepth 100000 in
theorem nf108 (p : Nat) (n : Int) (e_Term : Int) (e_Kind : Int) (e_Body : Option Addr) (e_Body_n : Nat) (e_Body_c : Nat) (w : World) (R : Ending → World → Prop) (h :
(∀ w1, w1 = w.alloc (.cells #[.int .i64 e_Term, .int .i64 e_Kind, .slice e_Body e_Body_n e_Body_c] 49 (0, 0)) →
 ∃ o3, w1.cell? ⟨p, 5, none⟩ = some (.pointer o3) ∧
 Calls Tryz.prog 46 #[.pointer o3, .int .i64 n] w1 (fun e4 => fun w5 => ∃ x6, ∃ x7, ∃ o8, ∃ n9, ∃ n10, ∃ b11, e4 = .returned (.tuple #[.agg #[.int .i64 x6, .int .i64 x7, .slice o8 n9 n10], .bool b11]) ∧
(b11 = true →
 ∀ w13, w13 = w5.alloc (.cells #[.int .i64 0, .int .i64 0, .slice none 0 0] 49 (0, 0)) →
 There w13 ⟨hs w5, 0, none⟩ 3 ∧
 ∀ w15, w15 = setCells w13 ⟨hs w5, 0, none⟩ [.int .i64 x6, .int .i64 x7, .slice o8 n9 n10] 0 →
 ∃ x17, w15.cell? ⟨hs w5, 0, none⟩ = some (.int .i64 x17) ∧
 ∃ x18, w15.cell? ⟨hs w, 0, none⟩ = some (.int .i64 x18) ∧
(decide (x17 = x18) = true →
 ∃ x20, w15.cell? ⟨hs w5, 1, none⟩ = some (.int .i64 x20) ∧
 ∃ x21, w15.cell? ⟨hs w, 1, none⟩ = some (.int .i64 x21) ∧
(decide (x20 = x21) = true →
 ∃ o23, ∃ n24, ∃ n25, w15.cell? ⟨hs w5, 2, none⟩ = some (.slice o23 n24 n25) ∧
 ∃ o26, ∃ n27, ∃ n28, w15.cell? ⟨hs w, 2, none⟩ = some (.slice o26 n27 n28) ∧
 Calls Tryz.prog 122 #[.slice o23 n24 n25, .slice o26 n27 n28] w15 (fun e29 => fun w30 => ∃ b31, e29 = .returned (.bool b31) ∧
(b31 = true →
 R (.returned (.bool true)) w30) ∧
(b31 = false →
 R (.returned (.bool false)) w30))) ∧
(decide (x20 = x21) = false →
 R (.returned (.bool false)) w15)) ∧
(decide (x17 = x18) = false →
 R (.returned (.bool false)) w15)) ∧
(b11 = false →
 ∀ w37, w37 = w5.alloc (.cells #[.int .i64 0, .int .i64 0, .slice none 0 0] 49 (0, 0)) →
 There w37 ⟨hs w5, 0, none⟩ 3 ∧
 ∀ w39, w39 = setCells w37 ⟨hs w5, 0, none⟩ [.int .i64 x6, .int .i64 x7, .slice o8 n9 n10] 0 →
 R (.returned (.bool false)) w39)))) :
    Calls Tryz.prog 108 #[(.pointer (some ⟨p, 0, none⟩)), (.int .i64 n), (.agg #[(.int .i64 e_Term), (.int .i64 e_Kind), (.slice e_Body e_Body_n e_Body_c)])] w R :=
  calls_of_vc an108 Tryz.func108 rfl (by kernel_rfl) (by kernel_rfl) (Eq.mp (by kernel_rfl) h)

/-- samaritan/raft.writeEntry -/
def an109 : An := (.seq (.reg []) (.seq (.reg []) (.seq (.reg []) (.reg []))))
set_option maxRecDepth 100000 in
theorem nf109 (w' : Nat) (e_Term : Int) (e_Kind : Int) (e_Body : Option Addr) (e_Body_n : Nat) (e_Body_c : Nat) (w : World) (R : Ending → World → Prop) (h :
(∀ w1, w1 = w.alloc (.cells #[.int .i64 e_Term, .int .i64 e_Kind, .slice e_Body e_Body_n e_Body_c] 49 (0, 0)) →
 ∃ x3, w1.cell? ⟨hs w, 0, none⟩ = some (.int .i64 x3) ∧
 Calls Tryz.prog 101 #[.pointer (some ⟨w', 0, none⟩), .int .i64 x3] w1 (fun e4 => fun w5 => e4 = .returned (.tuple #[]) ∧
 ∃ x6, w5.cell? ⟨hs w, 1, none⟩ = some (.int .i64 x6) ∧
 Calls Tryz.prog 101 #[.pointer (some ⟨w', 0, none⟩), .int .i64 x6] w5 (fun e7 => fun w8 => e7 = .returned (.tuple #[]) ∧
 ∃ o9, ∃ n10, ∃ n11, w8.cell? ⟨hs w, 2, none⟩ = some (.slice o9 n10 n11) ∧
 Calls Tryz.prog 106 #[.pointer (some ⟨w', 0, none⟩), .slice o9 n10 n11] w8 (fun e12 => fun w13 => e12 = .returned (.tuple #[]) ∧
 R (.returned (.tuple #[])) w13))))) :
    Calls Tryz.prog 109 #[(.pointer (some ⟨w', 0, none⟩)), (.agg #[(.int .i64 e_Term), (.int .i64 e_Kind), (.slice e_Body e_Body_n e_Body_c)])] w R :=
  calls_of_vc an109 Tryz.func109 rfl (by kernel_rfl) (by kernel_rfl) (Eq.mp (by kernel_rfl) h)

/-- bytes.Equal -/
def an122 : An := (.seq (.reg []) (.seq (.reg [(1, 1, false), (3, 1, false), (4, 3, true)]) .nil))
set_option maxRecDepth 100000 in
theorem nf122 (a : Option Addr) (a_n : Nat) (a_c : Nat) (b : Option Addr) (b_n : Nat) (b_c : Nat) (w : World) (R : Ending → World → Prop) (h :
(RunOk Tryz.prog (Hold (convert 42 9 (.slice a a_n a_c))) w (fun v1 => fun w2 => ∃ s3 : ByteArray, v1 = .string s3 ∧
 RunOk Tryz.prog (Hold (convert 42 9 (.slice b b_n b_c))) w2 (fun v4 => fun w5 => ∃ s6 : ByteArray, v4 = .string s6 ∧
(strEq s3 s6 = true →
 R (.returned (.bool true)) w5) ∧
(strEq s3 s6 = false →
 R (.returned (.bool false)) w5))))) :
    Calls Tryz.prog 122 #[(.slice a a_n a_c), (.slice b b_n b_c)] w R :=
  calls_of_vc an122 Tryz.func122 rfl (by kernel_rfl) (by kernel_rfl) (Eq.mp (by kernel_rfl) h)

/-- slices.Clone[[]int,int] -/
def an25 : An := (.seq (.reg []) (.seq (.seq (.reg [(1, 3, true)]) (.cond (.seq (.reg []) .nil) .nil)) (.seq (.reg [(2, 1, false)]) .nil)))
set_option maxRecDepth 100000 in
theorem nf25 (s : Option Addr) (s_n : Nat) (s_c : Nat) (w : World) (R : Ending → World → Prop) (h :
((Option.isNone s = true →
 R (.returned (.slice none 0 0)) w) ∧
(Option.isNone s = false →
 ∀ w3, w3 = w.alloc (.cells #[] 3 (0, 0)) →
 RunOk Tryz.prog (Hold (Builtin.append_ #[24, 24] 24 #[.slice (some ⟨hs w, 0, none⟩) 0 0, .slice s s_n s_c])) w3 (fun v5 => fun w6 => ∃ o7, ∃ n8, ∃ n9, v5 = .slice o7 n8 n9 ∧
 R (.returned (.slice o7 n8 n9)) w6)))) :
    Calls Tryz.prog 25 #[(.slice s s_n s_c)] w R :=
  calls_of_vc an25 Tryz.func25 rfl (by kernel_rfl) (by kernel_rfl) (Eq.mp (by kernel_rfl) h)

/-- slices.Contains[[]int,int] -/
def an43 : An := (.seq (.reg []) (.seq (.reg [(3, 0, true)]) .nil))
set_option maxRecDepth 100000 in
theorem nf43 (s : Option Addr) (s_n : Nat) (s_c : Nat) (v : Int) (w : World) (R : Ending → World → Prop) (h :
(Calls Tryz.prog 79 #[.slice s s_n s_c, .int .i64 v] w (fun e1 => fun w2 => ∃ x3, e1 = .returned (.int .i64 x3) ∧
(decide (x3 ≥ 0) = true →
 R (.returned (.bool true)) w2) ∧
(decide (x3 ≥ 0) = false →
 R (.returned (.bool false)) w2)))) :
    Calls Tryz.prog 43 #[(.slice s s_n s_c), (.int .i64 v)] w R :=
  calls_of_vc an43 Tryz.func43 rfl (by kernel_rfl) (by kernel_rfl) (Eq.mp (by kernel_rfl) h)

end Go.Proofs.YtcaokpglbolkcaaGreat
