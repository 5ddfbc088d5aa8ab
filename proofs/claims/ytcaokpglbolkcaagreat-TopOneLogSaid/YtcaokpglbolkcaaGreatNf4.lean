/- The contracts' premises: for each function, the proposition that its body comes to (printed by the tool of wip/nf). -/
import Derived.Test.YtcaokpglbolkcaaGreatRows
import Derived.Test.YtcaokpglbolkcaaGreatNfD
namespace Go.Proofs.YtcaokpglbolkcaaGreat
open Go Go.Nf

/-- (*samaritan/raft.Node).Step -/
def an12 : An := (.seq (.reg []) (.seq (.reg []) (.seq (.seq (.regD [(4, 0, true), (7, 0, true), (17, 0, true)] [0, 1, 2, 3, 4, 5, 6, 7, 8, 9, 10, 11, 12, 13, 14, 15, 16, 17, 18] [7]) (.cond (.seq (.reg []) .nil) .nil)) (.seq (.seq (.regD [(2, 0, true), (8, 0, true), (14, 0, true), (26, 0, true)] [0, 1, 2, 3, 4, 5, 6, 7, 8, 9, 10, 11, 12, 13, 14, 15, 16, 17, 18, 19, 20, 21, 22, 23, 24, 25, 26, 27, 28, 29] []) (.cond (.seq (.reg []) .nil) .nil)) (.seq (.seq (.regD [(7, 0, true), (12, 0, true)] [0, 1, 2, 3, 4, 5, 6, 7, 8, 9, 10, 11, 12, 13, 14] [6, 12]) (.cond (.seq (.reg []) .nil) .nil)) (.seq (.seq (.regD [(7, 0, true)] [0, 1, 2, 3, 4, 5, 6, 7] [6]) (.cond (.seq (.reg []) (.seq (.reg []) .nil)) .nil)) (.cut [] (.seq (.reg []) (.blk (.seq (.reg [(0, 0, true)]) (.cond (.reg []) (.seq (.reg [(0, 0, true)]) (.cond (.seq (.reg [(1, 0, true), (7, 0, true)]) (.cond (.seq (.regD [] [0, 1, 2, 3, 4, 5, 6] [6]) (.seq (.reg [(1, 0, true)]) (.cond (.reg []) .nil))) .nil)) (.seq (.reg [(0, 0, true)]) (.cond (.seq (.reg [(4, 0, true)]) (.cond (.reg []) .nil)) (.seq (.reg [(0, 0, true)]) (.cond (.seq (.regD [(4, 0, true), (10, 0, true)] [0, 1, 2, 3, 4, 5, 6, 8, 9, 7, 10, 11] [7, 10]) (.cond (.reg []) .nil)) .nil)))))))))) (.seq (.reg []) .nil))))))))
set_option maxRecDepth 100000 in
theorem nf12 (p : Nat) (m_Kind : Int) (m_From : Int) (m_To : Int) (m_Term : Int) (m_Prev : Int) (m_PrevTerm : Int) (m_Commit : Int) (m_Granted : Bool) (m_Entries : Option Addr) (m_Entries_n : Nat) (m_Entries_c : Nat) (now : Int) (w : World) (R : Ending → World → Prop) (h :
(∀ w1, w1 = w.alloc (.cells #[.int .i64 m_Kind, .int .i64 m_From, .int .i64 m_To, .int .i64 m_Term, .int .i64 m_Prev, .int .i64 m_PrevTerm, .int .i64 m_Commit, .bool m_Granted, .slice m_Entries m_Entries_n m_Entries_c] 45 (0, 0)) →
 Calls Tryz.prog 29 #[.pointer (some ⟨p, 0, none⟩), .int .i64 now] w1 (fun e3 => fun w4 => ∃ x5, e3 = .returned (.int .i64 x5) ∧
 ∀ w6, w6 = w4.drew →
 ∃ x8, w6.cell? ⟨p, 44, none⟩ = some (.int .i64 x8) ∧
((! (decide (x8 = 0))) = true →
 R (.returned (.slice none 0 0)) w6) ∧
((! (decide (x8 = 0))) = false →
 ∃ x11, w6.cell? ⟨hs w, 0, none⟩ = some (.int .i64 x11) ∧
 ∃ x12, w6.cell? ⟨hs w, 1, none⟩ = some (.int .i64 x12) ∧
 ∃ x13, w6.cell? ⟨hs w, 2, none⟩ = some (.int .i64 x13) ∧
 ∃ x14, w6.cell? ⟨hs w, 3, none⟩ = some (.int .i64 x14) ∧
 ∃ x15, w6.cell? ⟨hs w, 4, none⟩ = some (.int .i64 x15) ∧
 ∃ x16, w6.cell? ⟨hs w, 5, none⟩ = some (.int .i64 x16) ∧
 ∃ x17, w6.cell? ⟨hs w, 6, none⟩ = some (.int .i64 x17) ∧
 ∃ b18, w6.cell? ⟨hs w, 7, none⟩ = some (.bool b18) ∧
 ∃ o19, ∃ n20, ∃ n21, w6.cell? ⟨hs w, 8, none⟩ = some (.slice o19 n20 n21) ∧
 Calls Tryz.prog 35 #[.agg #[.int .i64 x11, .int .i64 x12, .int .i64 x13, .int .i64 x14, .int .i64 x15, .int .i64 x16, .int .i64 x17, .bool b18, .slice o19 n20 n21]] w6 (fun e22 => fun w23 => ∃ b24, e22 = .returned (.bool b24) ∧
(b24 = true →
 ∃ x26, w23.cell? ⟨hs w, 2, none⟩ = some (.int .i64 x26) ∧
 ∃ x27, w23.cell? ⟨p, 0, none⟩ = some (.int .i64 x27) ∧
((! (decide (x26 = x27))) = true →
 R (.returned (.slice none 0 0)) w23) ∧
((! (decide (x26 = x27))) = false →
 ∀ w30, w30 = w23.drew →
 ∃ x32, w30.cell? ⟨hs w, 0, none⟩ = some (.int .i64 x32) ∧
(decide (x32 = 1) = true →
 ∃ x34, w30.cell? ⟨p, 11, none⟩ = some (.int .i64 x34) ∧
(decide (x34 = 3) = true →
 R (.returned (.slice none 0 0)) w30) ∧
(decide (x34 = 3) = false →
 ∃ x37, w30.cell? ⟨p, 12, none⟩ = some (.int .i64 x37) ∧
(decide (x37 ≥ 0) = true →
 ∃ x39, w30.cell? ⟨p, 14, none⟩ = some (.int .i64 x39) ∧
 ∃ x40, w30.cell? ⟨p, 1, none⟩ = some (.int .i64 x40) ∧
(decide (IntKind.wrap .i64 (x5 - x39) < x40) = true →
 R (.returned (.slice none 0 0)) w30) ∧
(decide (IntKind.wrap .i64 (x5 - x39) < x40) = false →
 ∀ w43, w43 = w30.drew →
 ∃ x45, w43.cell? ⟨hs w, 3, none⟩ = some (.int .i64 x45) ∧
 ∃ o46, w43.cell? ⟨p, 4, none⟩ = some (.pointer o46) ∧
 Calls Tryz.prog 36 #[.pointer o46] w43 (fun e47 => fun w48 => ∃ x49, e47 = .returned (.int .i64 x49) ∧
 Kept w43 w48 ⟨hs w, 3, none⟩ 1 ∧
(decide (x45 > x49) = true →
 ∃ x51, w48.cell? ⟨hs w, 3, none⟩ = some (.int .i64 x51) ∧
 Calls Tryz.prog 37 #[.pointer (some ⟨p, 0, none⟩), .int .i64 x51] w48 (fun e52 => fun w53 => ∃ b54, e52 = .returned (.bool b54) ∧
(b54 = true →
 ∀ w56, w56 = w53.drew →
 ∃ x58, w56.cell? ⟨hs w, 3, none⟩ = some (.int .i64 x58) ∧
 ∃ o59, w56.cell? ⟨p, 4, none⟩ = some (.pointer o59) ∧
 Calls Tryz.prog 36 #[.pointer o59] w56 (fun e60 => fun w61 => ∃ x62, e60 = .returned (.int .i64 x62) ∧
 Kept w56 w61 ⟨hs w, 3, none⟩ 1 ∧
(decide (x58 < x62) = true →
 ∃ x64, w61.cell? ⟨hs w, 0, none⟩ = some (.int .i64 x64) ∧
 ∃ x65, w61.cell? ⟨hs w, 1, none⟩ = some (.int .i64 x65) ∧
 ∃ x66, w61.cell? ⟨hs w, 2, none⟩ = some (.int .i64 x66) ∧
 ∃ x67, w61.cell? ⟨hs w, 3, none⟩ = some (.int .i64 x67) ∧
 ∃ x68, w61.cell? ⟨hs w, 4, none⟩ = some (.int .i64 x68) ∧
 ∃ x69, w61.cell? ⟨hs w, 5, none⟩ = some (.int .i64 x69) ∧
 ∃ x70, w61.cell? ⟨hs w, 6, none⟩ = some (.int .i64 x70) ∧
 ∃ b71, w61.cell? ⟨hs w, 7, none⟩ = some (.bool b71) ∧
 ∃ o72, ∃ n73, ∃ n74, w61.cell? ⟨hs w, 8, none⟩ = some (.slice o72 n73 n74) ∧
 Calls Tryz.prog 38 #[.pointer (some ⟨p, 0, none⟩), .agg #[.int .i64 x64, .int .i64 x65, .int .i64 x66, .int .i64 x67, .int .i64 x68, .int .i64 x69, .int .i64 x70, .bool b71, .slice o72 n73 n74]] w61 (fun e75 => fun w76 => e75 = .returned (.tuple #[]) ∧
 Calls Tryz.prog 33 #[.pointer (some ⟨p, 0, none⟩)] w76 (fun e77 => fun w78 => ∃ o79, ∃ n80, ∃ n81, e77 = .returned (.slice o79 n80 n81) ∧
 R (.returned (.slice o79 n80 n81)) w78))) ∧
(decide (x58 < x62) = false →
 ∀ k83 : (World →
 Prop), (∀ w85 : World, ((Nat →
 Value) →
 Calls Tryz.prog 33 #[.pointer (some ⟨p, 0, none⟩)] w85 (fun e88 => fun w89 => ∃ o90, ∃ n91, ∃ n92, e88 = .returned (.slice o90 n91 n92) ∧
 R (.returned (.slice o90 n91 n92)) w89)) →
 k83 w85) →
 ∃ x93, w61.cell? ⟨hs w, 0, none⟩ = some (.int .i64 x93) ∧
(decide (x93 = 1) = true →
 ∃ x95, w61.cell? ⟨hs w, 0, none⟩ = some (.int .i64 x95) ∧
 ∃ x96, w61.cell? ⟨hs w, 1, none⟩ = some (.int .i64 x96) ∧
 ∃ x97, w61.cell? ⟨hs w, 2, none⟩ = some (.int .i64 x97) ∧
 ∃ x98, w61.cell? ⟨hs w, 3, none⟩ = some (.int .i64 x98) ∧
 ∃ x99, w61.cell? ⟨hs w, 4, none⟩ = some (.int .i64 x99) ∧
 ∃ x100, w61.cell? ⟨hs w, 5, none⟩ = some (.int .i64 x100) ∧
 ∃ x101, w61.cell? ⟨hs w, 6, none⟩ = some (.int .i64 x101) ∧
 ∃ b102, w61.cell? ⟨hs w, 7, none⟩ = some (.bool b102) ∧
 ∃ o103, ∃ n104, ∃ n105, w61.cell? ⟨hs w, 8, none⟩ = some (.slice o103 n104 n105) ∧
 Calls Tryz.prog 39 #[.pointer (some ⟨p, 0, none⟩), .agg #[.int .i64 x95, .int .i64 x96, .int .i64 x97, .int .i64 x98, .int .i64 x99, .int .i64 x100, .int .i64 x101, .bool b102, .slice o103 n104 n105], .int .i64 x5] w61 (fun e106 => fun w107 => e106 = .returned (.tuple #[]) ∧
 k83 w107)) ∧
(decide (x93 = 1) = false →
(decide (x93 = 2) = true →
 ∃ b110, w61.cell? ⟨hs w, 7, none⟩ = some (.bool b110) ∧
(b110 = true →
 ∃ x112, w61.cell? ⟨p, 11, none⟩ = some (.int .i64 x112) ∧
(decide (x112 = 2) = true →
 ∀ w114, w114 = w61.drew →
 ∃ x116, w114.cell? ⟨hs w, 1, none⟩ = some (.int .i64 x116) ∧
((0 : Int) ≤ x116 ∧
 x116 < 9) ∧
 There w114 (Addr.add ⟨p, 17, none⟩ ((x116).toNat * 1)) 1 ∧
 ∀ w117, w117 = setCells w114 (Addr.add ⟨p, 17, none⟩ ((x116).toNat * 1)) [.bool true] 0 →
 Calls Tryz.prog 40 #[.pointer (some ⟨p, 0, none⟩)] w117 (fun e119 => fun w120 => ∃ b121, e119 = .returned (.bool b121) ∧
(b121 = true →
 Calls Tryz.prog 41 #[.pointer (some ⟨p, 0, none⟩), .int .i64 x5] w120 (fun e123 => fun w124 => e123 = .returned (.tuple #[]) ∧
 k83 w124)) ∧
(b121 = false →
 k83 w120))) ∧
(decide (x112 = 2) = false →
 k83 w61)) ∧
(b110 = false →
 k83 w61)) ∧
(decide (x93 = 2) = false →
(decide (x93 = 3) = true →
 ∃ x130, w61.cell? ⟨p, 11, none⟩ = some (.int .i64 x130) ∧
((! (decide (x130 = 3))) = true →
 ∃ x132, w61.cell? ⟨hs w, 0, none⟩ = some (.int .i64 x132) ∧
 ∃ x133, w61.cell? ⟨hs w, 1, none⟩ = some (.int .i64 x133) ∧
 ∃ x134, w61.cell? ⟨hs w, 2, none⟩ = some (.int .i64 x134) ∧
 ∃ x135, w61.cell? ⟨hs w, 3, none⟩ = some (.int .i64 x135) ∧
 ∃ x136, w61.cell? ⟨hs w, 4, none⟩ = some (.int .i64 x136) ∧
 ∃ x137, w61.cell? ⟨hs w, 5, none⟩ = some (.int .i64 x137) ∧
 ∃ x138, w61.cell? ⟨hs w, 6, none⟩ = some (.int .i64 x138) ∧
 ∃ b139, w61.cell? ⟨hs w, 7, none⟩ = some (.bool b139) ∧
 ∃ o140, ∃ n141, ∃ n142, w61.cell? ⟨hs w, 8, none⟩ = some (.slice o140 n141 n142) ∧
 Calls Tryz.prog 42 #[.pointer (some ⟨p, 0, none⟩), .agg #[.int .i64 x132, .int .i64 x133, .int .i64 x134, .int .i64 x135, .int .i64 x136, .int .i64 x137, .int .i64 x138, .bool b139, .slice o140 n141 n142], .int .i64 x5] w61 (fun e143 => fun w144 => e143 = .returned (.tuple #[]) ∧
 k83 w144)) ∧
((! (decide (x130 = 3))) = false →
 k83 w61)) ∧
(decide (x93 = 3) = false →
(decide (x93 = 4) = true →
 ∀ w148, w148 = w61.drew →
 ∃ x150, w148.cell? ⟨p, 11, none⟩ = some (.int .i64 x150) ∧
(decide (x150 = 3) = true →
 ∃ x152, w148.cell? ⟨hs w, 1, none⟩ = some (.int .i64 x152) ∧
 Calls Tryz.prog 44 #[.pointer (some ⟨p, 0, none⟩)] w148 (fun e153 => fun w154 => ∃ o155, ∃ n156, ∃ n157, e153 = .returned (.slice o155 n156 n157) ∧
 Kept w148 w154 ⟨hs w, 1, none⟩ 1 ∧
 Calls Tryz.prog 43 #[.slice o155 n156 n157, .int .i64 x152] w154 (fun e158 => fun w159 => ∃ b160, e158 = .returned (.bool b160) ∧
(b160 = true →
 ∃ x162, w159.cell? ⟨hs w, 0, none⟩ = some (.int .i64 x162) ∧
 ∃ x163, w159.cell? ⟨hs w, 1, none⟩ = some (.int .i64 x163) ∧
 ∃ x164, w159.cell? ⟨hs w, 2, none⟩ = some (.int .i64 x164) ∧
 ∃ x165, w159.cell? ⟨hs w, 3, none⟩ = some (.int .i64 x165) ∧
 ∃ x166, w159.cell? ⟨hs w, 4, none⟩ = some (.int .i64 x166) ∧
 ∃ x167, w159.cell? ⟨hs w, 5, none⟩ = some (.int .i64 x167) ∧
 ∃ x168, w159.cell? ⟨hs w, 6, none⟩ = some (.int .i64 x168) ∧
 ∃ b169, w159.cell? ⟨hs w, 7, none⟩ = some (.bool b169) ∧
 ∃ o170, ∃ n171, ∃ n172, w159.cell? ⟨hs w, 8, none⟩ = some (.slice o170 n171 n172) ∧
 Calls Tryz.prog 45 #[.pointer (some ⟨p, 0, none⟩), .agg #[.int .i64 x162, .int .i64 x163, .int .i64 x164, .int .i64 x165, .int .i64 x166, .int .i64 x167, .int .i64 x168, .bool b169, .slice o170 n171 n172]] w159 (fun e173 => fun w174 => e173 = .returned (.tuple #[]) ∧
 k83 w174)) ∧
(b160 = false →
 k83 w159)))) ∧
(decide (x150 = 3) = false →
 k83 w148)) ∧
(decide (x93 = 4) = false →
 k83 w61))))))) ∧
(b54 = false →
 R (.returned (.slice none 0 0)) w53))) ∧
(decide (x45 > x49) = false →
 ∀ w180, w180 = w48.drew →
 ∃ x182, w180.cell? ⟨hs w, 3, none⟩ = some (.int .i64 x182) ∧
 ∃ o183, w180.cell? ⟨p, 4, none⟩ = some (.pointer o183) ∧
 Calls Tryz.prog 36 #[.pointer o183] w180 (fun e184 => fun w185 => ∃ x186, e184 = .returned (.int .i64 x186) ∧
 Kept w180 w185 ⟨hs w, 3, none⟩ 1 ∧
(decide (x182 < x186) = true →
 ∃ x188, w185.cell? ⟨hs w, 0, none⟩ = some (.int .i64 x188) ∧
 ∃ x189, w185.cell? ⟨hs w, 1, none⟩ = some (.int .i64 x189) ∧
 ∃ x190, w185.cell? ⟨hs w, 2, none⟩ = some (.int .i64 x190) ∧
 ∃ x191, w185.cell? ⟨hs w, 3, none⟩ = some (.int .i64 x191) ∧
 ∃ x192, w185.cell? ⟨hs w, 4, none⟩ = some (.int .i64 x192) ∧
 ∃ x193, w185.cell? ⟨hs w, 5, none⟩ = some (.int .i64 x193) ∧
 ∃ x194, w185.cell? ⟨hs w, 6, none⟩ = some (.int .i64 x194) ∧
 ∃ b195, w185.cell? ⟨hs w, 7, none⟩ = some (.bool b195) ∧
 ∃ o196, ∃ n197, ∃ n198, w185.cell? ⟨hs w, 8, none⟩ = some (.slice o196 n197 n198) ∧
 Calls Tryz.prog 38 #[.pointer (some ⟨p, 0, none⟩), .agg #[.int .i64 x188, .int .i64 x189, .int .i64 x190, .int .i64 x191, .int .i64 x192, .int .i64 x193, .int .i64 x194, .bool b195, .slice o196 n197 n198]] w185 (fun e199 => fun w200 => e199 = .returned (.tuple #[]) ∧
 Calls Tryz.prog 33 #[.pointer (some ⟨p, 0, none⟩)] w200 (fun e201 => fun w202 => ∃ o203, ∃ n204, ∃ n205, e201 = .returned (.slice o203 n204 n205) ∧
 R (.returned (.slice o203 n204 n205)) w202))) ∧
(decide (x182 < x186) = false →
 ∀ k207 : (World →
 Prop), (∀ w209 : World, ((Nat →
 Value) →
 Calls Tryz.prog 33 #[.pointer (some ⟨p, 0, none⟩)] w209 (fun e212 => fun w213 => ∃ o214, ∃ n215, ∃ n216, e212 = .returned (.slice o214 n215 n216) ∧
 R (.returned (.slice o214 n215 n216)) w213)) →
 k207 w209) →
 ∃ x217, w185.cell? ⟨hs w, 0, none⟩ = some (.int .i64 x217) ∧
(decide (x217 = 1) = true →
 ∃ x219, w185.cell? ⟨hs w, 0, none⟩ = some (.int .i64 x219) ∧
 ∃ x220, w185.cell? ⟨hs w, 1, none⟩ = some (.int .i64 x220) ∧
 ∃ x221, w185.cell? ⟨hs w, 2, none⟩ = some (.int .i64 x221) ∧
 ∃ x222, w185.cell? ⟨hs w, 3, none⟩ = some (.int .i64 x222) ∧
 ∃ x223, w185.cell? ⟨hs w, 4, none⟩ = some (.int .i64 x223) ∧
 ∃ x224, w185.cell? ⟨hs w, 5, none⟩ = some (.int .i64 x224) ∧
 ∃ x225, w185.cell? ⟨hs w, 6, none⟩ = some (.int .i64 x225) ∧
 ∃ b226, w185.cell? ⟨hs w, 7, none⟩ = some (.bool b226) ∧
 ∃ o227, ∃ n228, ∃ n229, w185.cell? ⟨hs w, 8, none⟩ = some (.slice o227 n228 n229) ∧
 Calls Tryz.prog 39 #[.pointer (some ⟨p, 0, none⟩), .agg #[.int .i64 x219, .int .i64 x220, .int .i64 x221, .int .i64 x222, .int .i64 x223, .int .i64 x224, .int .i64 x225, .bool b226, .slice o227 n228 n229], .int .i64 x5] w185 (fun e230 => fun w231 => e230 = .returned (.tuple #[]) ∧
 k207 w231)) ∧
(decide (x217 = 1) = false →
(decide (x217 = 2) = true →
 ∃ b234, w185.cell? ⟨hs w, 7, none⟩ = some (.bool b234) ∧
(b234 = true →
 ∃ x236, w185.cell? ⟨p, 11, none⟩ = some (.int .i64 x236) ∧
(decide (x236 = 2) = true →
 ∀ w238, w238 = w185.drew →
 ∃ x240, w238.cell? ⟨hs w, 1, none⟩ = some (.int .i64 x240) ∧
((0 : Int) ≤ x240 ∧
 x240 < 9) ∧
 There w238 (Addr.add ⟨p, 17, none⟩ ((x240).toNat * 1)) 1 ∧
 ∀ w241, w241 = setCells w238 (Addr.add ⟨p, 17, none⟩ ((x240).toNat * 1)) [.bool true] 0 →
 Calls Tryz.prog 40 #[.pointer (some ⟨p, 0, none⟩)] w241 (fun e243 => fun w244 => ∃ b245, e243 = .returned (.bool b245) ∧
(b245 = true →
 Calls Tryz.prog 41 #[.pointer (some ⟨p, 0, none⟩), .int .i64 x5] w244 (fun e247 => fun w248 => e247 = .returned (.tuple #[]) ∧
 k207 w248)) ∧
(b245 = false →
 k207 w244))) ∧
(decide (x236 = 2) = false →
 k207 w185)) ∧
(b234 = false →
 k207 w185)) ∧
(decide (x217 = 2) = false →
(decide (x217 = 3) = true →
 ∃ x254, w185.cell? ⟨p, 11, none⟩ = some (.int .i64 x254) ∧
((! (decide (x254 = 3))) = true →
 ∃ x256, w185.cell? ⟨hs w, 0, none⟩ = some (.int .i64 x256) ∧
 ∃ x257, w185.cell? ⟨hs w, 1, none⟩ = some (.int .i64 x257) ∧
 ∃ x258, w185.cell? ⟨hs w, 2, none⟩ = some (.int .i64 x258) ∧
 ∃ x259, w185.cell? ⟨hs w, 3, none⟩ = some (.int .i64 x259) ∧
 ∃ x260, w185.cell? ⟨hs w, 4, none⟩ = some (.int .i64 x260) ∧
 ∃ x261, w185.cell? ⟨hs w, 5, none⟩ = some (.int .i64 x261) ∧
 ∃ x262, w185.cell? ⟨hs w, 6, none⟩ = some (.int .i64 x262) ∧
 ∃ b263, w185.cell? ⟨hs w, 7, none⟩ = some (.bool b263) ∧
 ∃ o264, ∃ n265, ∃ n266, w185.cell? ⟨hs w, 8, none⟩ = some (.slice o264 n265 n266) ∧
 Calls Tryz.prog 42 #[.pointer (some ⟨p, 0, none⟩), .agg #[.int .i64 x256, .int .i64 x257, .int .i64 x258, .int .i64 x259, .int .i64 x260, .int .i64 x261, .int .i64 x262, .bool b263, .slice o264 n265 n266], .int .i64 x5] w185 (fun e267 => fun w268 => e267 = .returned (.tuple #[]) ∧
 k207 w268)) ∧
((! (decide (x254 = 3))) = false →
 k207 w185)) ∧
(decide (x217 = 3) = false →
(decide (x217 = 4) = true →
 ∀ w272, w272 = w185.drew →
 ∃ x274, w272.cell? ⟨p, 11, none⟩ = some (.int .i64 x274) ∧
(decide (x274 = 3) = true →
 ∃ x276, w272.cell? ⟨hs w, 1, none⟩ = some (.int .i64 x276) ∧
 Calls Tryz.prog 44 #[.pointer (some ⟨p, 0, none⟩)] w272 (fun e277 => fun w278 => ∃ o279, ∃ n280, ∃ n281, e277 = .returned (.slice o279 n280 n281) ∧
 Kept w272 w278 ⟨hs w, 1, none⟩ 1 ∧
 Calls Tryz.prog 43 #[.slice o279 n280 n281, .int .i64 x276] w278 (fun e282 => fun w283 => ∃ b284, e282 = .returned (.bool b284) ∧
(b284 = true →
 ∃ x286, w283.cell? ⟨hs w, 0, none⟩ = some (.int .i64 x286) ∧
 ∃ x287, w283.cell? ⟨hs w, 1, none⟩ = some (.int .i64 x287) ∧
 ∃ x288, w283.cell? ⟨hs w, 2, none⟩ = some (.int .i64 x288) ∧
 ∃ x289, w283.cell? ⟨hs w, 3, none⟩ = some (.int .i64 x289) ∧
 ∃ x290, w283.cell? ⟨hs w, 4, none⟩ = some (.int .i64 x290) ∧
 ∃ x291, w283.cell? ⟨hs w, 5, none⟩ = some (.int .i64 x291) ∧
 ∃ x292, w283.cell? ⟨hs w, 6, none⟩ = some (.int .i64 x292) ∧
 ∃ b293, w283.cell? ⟨hs w, 7, none⟩ = some (.bool b293) ∧
 ∃ o294, ∃ n295, ∃ n296, w283.cell? ⟨hs w, 8, none⟩ = some (.slice o294 n295 n296) ∧
 Calls Tryz.prog 45 #[.pointer (some ⟨p, 0, none⟩), .agg #[.int .i64 x286, .int .i64 x287, .int .i64 x288, .int .i64 x289, .int .i64 x290, .int .i64 x291, .int .i64 x292, .bool b293, .slice o294 n295 n296]] w283 (fun e297 => fun w298 => e297 = .returned (.tuple #[]) ∧
 k207 w298)) ∧
(b284 = false →
 k207 w283)))) ∧
(decide (x274 = 3) = false →
 k207 w272)) ∧
(decide (x217 = 4) = false →
 k207 w185)))))))))) ∧
(decide (x37 ≥ 0) = false →
 ∀ w303, w303 = w30.drew →
 ∃ x305, w303.cell? ⟨hs w, 3, none⟩ = some (.int .i64 x305) ∧
 ∃ o306, w303.cell? ⟨p, 4, none⟩ = some (.pointer o306) ∧
 Calls Tryz.prog 36 #[.pointer o306] w303 (fun e307 => fun w308 => ∃ x309, e307 = .returned (.int .i64 x309) ∧
 Kept w303 w308 ⟨hs w, 3, none⟩ 1 ∧
(decide (x305 > x309) = true →
 ∃ x311, w308.cell? ⟨hs w, 3, none⟩ = some (.int .i64 x311) ∧
 Calls Tryz.prog 37 #[.pointer (some ⟨p, 0, none⟩), .int .i64 x311] w308 (fun e312 => fun w313 => ∃ b314, e312 = .returned (.bool b314) ∧
(b314 = true →
 ∀ w316, w316 = w313.drew →
 ∃ x318, w316.cell? ⟨hs w, 3, none⟩ = some (.int .i64 x318) ∧
 ∃ o319, w316.cell? ⟨p, 4, none⟩ = some (.pointer o319) ∧
 Calls Tryz.prog 36 #[.pointer o319] w316 (fun e320 => fun w321 => ∃ x322, e320 = .returned (.int .i64 x322) ∧
 Kept w316 w321 ⟨hs w, 3, none⟩ 1 ∧
(decide (x318 < x322) = true →
 ∃ x324, w321.cell? ⟨hs w, 0, none⟩ = some (.int .i64 x324) ∧
 ∃ x325, w321.cell? ⟨hs w, 1, none⟩ = some (.int .i64 x325) ∧
 ∃ x326, w321.cell? ⟨hs w, 2, none⟩ = some (.int .i64 x326) ∧
 ∃ x327, w321.cell? ⟨hs w, 3, none⟩ = some (.int .i64 x327) ∧
 ∃ x328, w321.cell? ⟨hs w, 4, none⟩ = some (.int .i64 x328) ∧
 ∃ x329, w321.cell? ⟨hs w, 5, none⟩ = some (.int .i64 x329) ∧
 ∃ x330, w321.cell? ⟨hs w, 6, none⟩ = some (.int .i64 x330) ∧
 ∃ b331, w321.cell? ⟨hs w, 7, none⟩ = some (.bool b331) ∧
 ∃ o332, ∃ n333, ∃ n334, w321.cell? ⟨hs w, 8, none⟩ = some (.slice o332 n333 n334) ∧
 Calls Tryz.prog 38 #[.pointer (some ⟨p, 0, none⟩), .agg #[.int .i64 x324, .int .i64 x325, .int .i64 x326, .int .i64 x327, .int .i64 x328, .int .i64 x329, .int .i64 x330, .bool b331, .slice o332 n333 n334]] w321 (fun e335 => fun w336 => e335 = .returned (.tuple #[]) ∧
 Calls Tryz.prog 33 #[.pointer (some ⟨p, 0, none⟩)] w336 (fun e337 => fun w338 => ∃ o339, ∃ n340, ∃ n341, e337 = .returned (.slice o339 n340 n341) ∧
 R (.returned (.slice o339 n340 n341)) w338))) ∧
(decide (x318 < x322) = false →
 ∀ k343 : (World →
 Prop), (∀ w345 : World, ((Nat →
 Value) →
 Calls Tryz.prog 33 #[.pointer (some ⟨p, 0, none⟩)] w345 (fun e348 => fun w349 => ∃ o350, ∃ n351, ∃ n352, e348 = .returned (.slice o350 n351 n352) ∧
 R (.returned (.slice o350 n351 n352)) w349)) →
 k343 w345) →
 ∃ x353, w321.cell? ⟨hs w, 0, none⟩ = some (.int .i64 x353) ∧
(decide (x353 = 1) = true →
 ∃ x355, w321.cell? ⟨hs w, 0, none⟩ = some (.int .i64 x355) ∧
 ∃ x356, w321.cell? ⟨hs w, 1, none⟩ = some (.int .i64 x356) ∧
 ∃ x357, w321.cell? ⟨hs w, 2, none⟩ = some (.int .i64 x357) ∧
 ∃ x358, w321.cell? ⟨hs w, 3, none⟩ = some (.int .i64 x358) ∧
 ∃ x359, w321.cell? ⟨hs w, 4, none⟩ = some (.int .i64 x359) ∧
 ∃ x360, w321.cell? ⟨hs w, 5, none⟩ = some (.int .i64 x360) ∧
 ∃ x361, w321.cell? ⟨hs w, 6, none⟩ = some (.int .i64 x361) ∧
 ∃ b362, w321.cell? ⟨hs w, 7, none⟩ = some (.bool b362) ∧
 ∃ o363, ∃ n364, ∃ n365, w321.cell? ⟨hs w, 8, none⟩ = some (.slice o363 n364 n365) ∧
 Calls Tryz.prog 39 #[.pointer (some ⟨p, 0, none⟩), .agg #[.int .i64 x355, .int .i64 x356, .int .i64 x357, .int .i64 x358, .int .i64 x359, .int .i64 x360, .int .i64 x361, .bool b362, .slice o363 n364 n365], .int .i64 x5] w321 (fun e366 => fun w367 => e366 = .returned (.tuple #[]) ∧
 k343 w367)) ∧
(decide (x353 = 1) = false →
(decide (x353 = 2) = true →
 ∃ b370, w321.cell? ⟨hs w, 7, none⟩ = some (.bool b370) ∧
(b370 = true →
 ∃ x372, w321.cell? ⟨p, 11, none⟩ = some (.int .i64 x372) ∧
(decide (x372 = 2) = true →
 ∀ w374, w374 = w321.drew →
 ∃ x376, w374.cell? ⟨hs w, 1, none⟩ = some (.int .i64 x376) ∧
((0 : Int) ≤ x376 ∧
 x376 < 9) ∧
 There w374 (Addr.add ⟨p, 17, none⟩ ((x376).toNat * 1)) 1 ∧
 ∀ w377, w377 = setCells w374 (Addr.add ⟨p, 17, none⟩ ((x376).toNat * 1)) [.bool true] 0 →
 Calls Tryz.prog 40 #[.pointer (some ⟨p, 0, none⟩)] w377 (fun e379 => fun w380 => ∃ b381, e379 = .returned (.bool b381) ∧
(b381 = true →
 Calls Tryz.prog 41 #[.pointer (some ⟨p, 0, none⟩), .int .i64 x5] w380 (fun e383 => fun w384 => e383 = .returned (.tuple #[]) ∧
 k343 w384)) ∧
(b381 = false →
 k343 w380))) ∧
(decide (x372 = 2) = false →
 k343 w321)) ∧
(b370 = false →
 k343 w321)) ∧
(decide (x353 = 2) = false →
(decide (x353 = 3) = true →
 ∃ x390, w321.cell? ⟨p, 11, none⟩ = some (.int .i64 x390) ∧
((! (decide (x390 = 3))) = true →
 ∃ x392, w321.cell? ⟨hs w, 0, none⟩ = some (.int .i64 x392) ∧
 ∃ x393, w321.cell? ⟨hs w, 1, none⟩ = some (.int .i64 x393) ∧
 ∃ x394, w321.cell? ⟨hs w, 2, none⟩ = some (.int .i64 x394) ∧
 ∃ x395, w321.cell? ⟨hs w, 3, none⟩ = some (.int .i64 x395) ∧
 ∃ x396, w321.cell? ⟨hs w, 4, none⟩ = some (.int .i64 x396) ∧
 ∃ x397, w321.cell? ⟨hs w, 5, none⟩ = some (.int .i64 x397) ∧
 ∃ x398, w321.cell? ⟨hs w, 6, none⟩ = some (.int .i64 x398) ∧
 ∃ b399, w321.cell? ⟨hs w, 7, none⟩ = some (.bool b399) ∧
 ∃ o400, ∃ n401, ∃ n402, w321.cell? ⟨hs w, 8, none⟩ = some (.slice o400 n401 n402) ∧
 Calls Tryz.prog 42 #[.pointer (some ⟨p, 0, none⟩), .agg #[.int .i64 x392, .int .i64 x393, .int .i64 x394, .int .i64 x395, .int .i64 x396, .int .i64 x397, .int .i64 x398, .bool b399, .slice o400 n401 n402], .int .i64 x5] w321 (fun e403 => fun w404 => e403 = .returned (.tuple #[]) ∧
 k343 w404)) ∧
((! (decide (x390 = 3))) = false →
 k343 w321)) ∧
(decide (x353 = 3) = false →
(decide (x353 = 4) = true →
 ∀ w408, w408 = w321.drew →
 ∃ x410, w408.cell? ⟨p, 11, none⟩ = some (.int .i64 x410) ∧
(decide (x410 = 3) = true →
 ∃ x412, w408.cell? ⟨hs w, 1, none⟩ = some (.int .i64 x412) ∧
 Calls Tryz.prog 44 #[.pointer (some ⟨p, 0, none⟩)] w408 (fun e413 => fun w414 => ∃ o415, ∃ n416, ∃ n417, e413 = .returned (.slice o415 n416 n417) ∧
 Kept w408 w414 ⟨hs w, 1, none⟩ 1 ∧
 Calls Tryz.prog 43 #[.slice o415 n416 n417, .int .i64 x412] w414 (fun e418 => fun w419 => ∃ b420, e418 = .returned (.bool b420) ∧
(b420 = true →
 ∃ x422, w419.cell? ⟨hs w, 0, none⟩ = some (.int .i64 x422) ∧
 ∃ x423, w419.cell? ⟨hs w, 1, none⟩ = some (.int .i64 x423) ∧
 ∃ x424, w419.cell? ⟨hs w, 2, none⟩ = some (.int .i64 x424) ∧
 ∃ x425, w419.cell? ⟨hs w, 3, none⟩ = some (.int .i64 x425) ∧
 ∃ x426, w419.cell? ⟨hs w, 4, none⟩ = some (.int .i64 x426) ∧
 ∃ x427, w419.cell? ⟨hs w, 5, none⟩ = some (.int .i64 x427) ∧
 ∃ x428, w419.cell? ⟨hs w, 6, none⟩ = some (.int .i64 x428) ∧
 ∃ b429, w419.cell? ⟨hs w, 7, none⟩ = some (.bool b429) ∧
 ∃ o430, ∃ n431, ∃ n432, w419.cell? ⟨hs w, 8, none⟩ = some (.slice o430 n431 n432) ∧
 Calls Tryz.prog 45 #[.pointer (some ⟨p, 0, none⟩), .agg #[.int .i64 x422, .int .i64 x423, .int .i64 x424, .int .i64 x425, .int .i64 x426, .int .i64 x427, .int .i64 x428, .bool b429, .slice o430 n431 n432]] w419 (fun e433 => fun w434 => e433 = .returned (.tuple #[]) ∧
 k343 w434)) ∧
(b420 = false →
 k343 w419)))) ∧
(decide (x410 = 3) = false →
 k343 w408)) ∧
(decide (x353 = 4) = false →
 k343 w321))))))) ∧
(b314 = false →
 R (.returned (.slice none 0 0)) w313))) ∧
(decide (x305 > x309) = false →
 ∀ w440, w440 = w308.drew →
 ∃ x442, w440.cell? ⟨hs w, 3, none⟩ = some (.int .i64 x442) ∧
 ∃ o443, w440.cell? ⟨p, 4, none⟩ = some (.pointer o443) ∧
 Calls Tryz.prog 36 #[.pointer o443] w440 (fun e444 => fun w445 => ∃ x446, e444 = .returned (.int .i64 x446) ∧
 Kept w440 w445 ⟨hs w, 3, none⟩ 1 ∧
(decide (x442 < x446) = true →
 ∃ x448, w445.cell? ⟨hs w, 0, none⟩ = some (.int .i64 x448) ∧
 ∃ x449, w445.cell? ⟨hs w, 1, none⟩ = some (.int .i64 x449) ∧
 ∃ x450, w445.cell? ⟨hs w, 2, none⟩ = some (.int .i64 x450) ∧
 ∃ x451, w445.cell? ⟨hs w, 3, none⟩ = some (.int .i64 x451) ∧
 ∃ x452, w445.cell? ⟨hs w, 4, none⟩ = some (.int .i64 x452) ∧
 ∃ x453, w445.cell? ⟨hs w, 5, none⟩ = some (.int .i64 x453) ∧
 ∃ x454, w445.cell? ⟨hs w, 6, none⟩ = some (.int .i64 x454) ∧
 ∃ b455, w445.cell? ⟨hs w, 7, none⟩ = some (.bool b455) ∧
 ∃ o456, ∃ n457, ∃ n458, w445.cell? ⟨hs w, 8, none⟩ = some (.slice o456 n457 n458) ∧
 Calls Tryz.prog 38 #[.pointer (some ⟨p, 0, none⟩), .agg #[.int .i64 x448, .int .i64 x449, .int .i64 x450, .int .i64 x451, .int .i64 x452, .int .i64 x453, .int .i64 x454, .bool b455, .slice o456 n457 n458]] w445 (fun e459 => fun w460 => e459 = .returned (.tuple #[]) ∧
 Calls Tryz.prog 33 #[.pointer (some ⟨p, 0, none⟩)] w460 (fun e461 => fun w462 => ∃ o463, ∃ n464, ∃ n465, e461 = .returned (.slice o463 n464 n465) ∧
 R (.returned (.slice o463 n464 n465)) w462))) ∧
(decide (x442 < x446) = false →
 ∀ k467 : (World →
 Prop), (∀ w469 : World, ((Nat →
 Value) →
 Calls Tryz.prog 33 #[.pointer (some ⟨p, 0, none⟩)] w469 (fun e472 => fun w473 => ∃ o474, ∃ n475, ∃ n476, e472 = .returned (.slice o474 n475 n476) ∧
 R (.returned (.slice o474 n475 n476)) w473)) →
 k467 w469) →
 ∃ x477, w445.cell? ⟨hs w, 0, none⟩ = some (.int .i64 x477) ∧
(decide (x477 = 1) = true →
 ∃ x479, w445.cell? ⟨hs w, 0, none⟩ = some (.int .i64 x479) ∧
 ∃ x480, w445.cell? ⟨hs w, 1, none⟩ = some (.int .i64 x480) ∧
 ∃ x481, w445.cell? ⟨hs w, 2, none⟩ = some (.int .i64 x481) ∧
 ∃ x482, w445.cell? ⟨hs w, 3, none⟩ = some (.int .i64 x482) ∧
 ∃ x483, w445.cell? ⟨hs w, 4, none⟩ = some (.int .i64 x483) ∧
 ∃ x484, w445.cell? ⟨hs w, 5, none⟩ = some (.int .i64 x484) ∧
 ∃ x485, w445.cell? ⟨hs w, 6, none⟩ = some (.int .i64 x485) ∧
 ∃ b486, w445.cell? ⟨hs w, 7, none⟩ = some (.bool b486) ∧
 ∃ o487, ∃ n488, ∃ n489, w445.cell? ⟨hs w, 8, none⟩ = some (.slice o487 n488 n489) ∧
 Calls Tryz.prog 39 #[.pointer (some ⟨p, 0, none⟩), .agg #[.int .i64 x479, .int .i64 x480, .int .i64 x481, .int .i64 x482, .int .i64 x483, .int .i64 x484, .int .i64 x485, .bool b486, .slice o487 n488 n489], .int .i64 x5] w445 (fun e490 => fun w491 => e490 = .returned (.tuple #[]) ∧
 k467 w491)) ∧
(decide (x477 = 1) = false →
(decide (x477 = 2) = true →
 ∃ b494, w445.cell? ⟨hs w, 7, none⟩ = some (.bool b494) ∧
(b494 = true →
 ∃ x496, w445.cell? ⟨p, 11, none⟩ = some (.int .i64 x496) ∧
(decide (x496 = 2) = true →
 ∀ w498, w498 = w445.drew →
 ∃ x500, w498.cell? ⟨hs w, 1, none⟩ = some (.int .i64 x500) ∧
((0 : Int) ≤ x500 ∧
 x500 < 9) ∧
 There w498 (Addr.add ⟨p, 17, none⟩ ((x500).toNat * 1)) 1 ∧
 ∀ w501, w501 = setCells w498 (Addr.add ⟨p, 17, none⟩ ((x500).toNat * 1)) [.bool true] 0 →
 Calls Tryz.prog 40 #[.pointer (some ⟨p, 0, none⟩)] w501 (fun e503 => fun w504 => ∃ b505, e503 = .returned (.bool b505) ∧
(b505 = true →
 Calls Tryz.prog 41 #[.pointer (some ⟨p, 0, none⟩), .int .i64 x5] w504 (fun e507 => fun w508 => e507 = .returned (.tuple #[]) ∧
 k467 w508)) ∧
(b505 = false →
 k467 w504))) ∧
(decide (x496 = 2) = false →
 k467 w445)) ∧
(b494 = false →
 k467 w445)) ∧
(decide (x477 = 2) = false →
(decide (x477 = 3) = true →
 ∃ x514, w445.cell? ⟨p, 11, none⟩ = some (.int .i64 x514) ∧
((! (decide (x514 = 3))) = true →
 ∃ x516, w445.cell? ⟨hs w, 0, none⟩ = some (.int .i64 x516) ∧
 ∃ x517, w445.cell? ⟨hs w, 1, none⟩ = some (.int .i64 x517) ∧
 ∃ x518, w445.cell? ⟨hs w, 2, none⟩ = some (.int .i64 x518) ∧
 ∃ x519, w445.cell? ⟨hs w, 3, none⟩ = some (.int .i64 x519) ∧
 ∃ x520, w445.cell? ⟨hs w, 4, none⟩ = some (.int .i64 x520) ∧
 ∃ x521, w445.cell? ⟨hs w, 5, none⟩ = some (.int .i64 x521) ∧
 ∃ x522, w445.cell? ⟨hs w, 6, none⟩ = some (.int .i64 x522) ∧
 ∃ b523, w445.cell? ⟨hs w, 7, none⟩ = some (.bool b523) ∧
 ∃ o524, ∃ n525, ∃ n526, w445.cell? ⟨hs w, 8, none⟩ = some (.slice o524 n525 n526) ∧
 Calls Tryz.prog 42 #[.pointer (some ⟨p, 0, none⟩), .agg #[.int .i64 x516, .int .i64 x517, .int .i64 x518, .int .i64 x519, .int .i64 x520, .int .i64 x521, .int .i64 x522, .bool b523, .slice o524 n525 n526], .int .i64 x5] w445 (fun e527 => fun w528 => e527 = .returned (.tuple #[]) ∧
 k467 w528)) ∧
((! (decide (x514 = 3))) = false →
 k467 w445)) ∧
(decide (x477 = 3) = false →
(decide (x477 = 4) = true →
 ∀ w532, w532 = w445.drew →
 ∃ x534, w532.cell? ⟨p, 11, none⟩ = some (.int .i64 x534) ∧
(decide (x534 = 3) = true →
 ∃ x536, w532.cell? ⟨hs w, 1, none⟩ = some (.int .i64 x536) ∧
 Calls Tryz.prog 44 #[.pointer (some ⟨p, 0, none⟩)] w532 (fun e537 => fun w538 => ∃ o539, ∃ n540, ∃ n541, e537 = .returned (.slice o539 n540 n541) ∧
 Kept w532 w538 ⟨hs w, 1, none⟩ 1 ∧
 Calls Tryz.prog 43 #[.slice o539 n540 n541, .int .i64 x536] w538 (fun e542 => fun w543 => ∃ b544, e542 = .returned (.bool b544) ∧
(b544 = true →
 ∃ x546, w543.cell? ⟨hs w, 0, none⟩ = some (.int .i64 x546) ∧
 ∃ x547, w543.cell? ⟨hs w, 1, none⟩ = some (.int .i64 x547) ∧
 ∃ x548, w543.cell? ⟨hs w, 2, none⟩ = some (.int .i64 x548) ∧
 ∃ x549, w543.cell? ⟨hs w, 3, none⟩ = some (.int .i64 x549) ∧
 ∃ x550, w543.cell? ⟨hs w, 4, none⟩ = some (.int .i64 x550) ∧
 ∃ x551, w543.cell? ⟨hs w, 5, none⟩ = some (.int .i64 x551) ∧
 ∃ x552, w543.cell? ⟨hs w, 6, none⟩ = some (.int .i64 x552) ∧
 ∃ b553, w543.cell? ⟨hs w, 7, none⟩ = some (.bool b553) ∧
 ∃ o554, ∃ n555, ∃ n556, w543.cell? ⟨hs w, 8, none⟩ = some (.slice o554 n555 n556) ∧
 Calls Tryz.prog 45 #[.pointer (some ⟨p, 0, none⟩), .agg #[.int .i64 x546, .int .i64 x547, .int .i64 x548, .int .i64 x549, .int .i64 x550, .int .i64 x551, .int .i64 x552, .bool b553, .slice o554 n555 n556]] w543 (fun e557 => fun w558 => e557 = .returned (.tuple #[]) ∧
 k467 w558)) ∧
(b544 = false →
 k467 w543)))) ∧
(decide (x534 = 3) = false →
 k467 w532)) ∧
(decide (x477 = 4) = false →
 k467 w445))))))))))) ∧
(decide (x32 = 1) = false →
 ∀ w563, w563 = w30.drew →
 ∃ x565, w563.cell? ⟨hs w, 3, none⟩ = some (.int .i64 x565) ∧
 ∃ o566, w563.cell? ⟨p, 4, none⟩ = some (.pointer o566) ∧
 Calls Tryz.prog 36 #[.pointer o566] w563 (fun e567 => fun w568 => ∃ x569, e567 = .returned (.int .i64 x569) ∧
 Kept w563 w568 ⟨hs w, 3, none⟩ 1 ∧
(decide (x565 > x569) = true →
 ∃ x571, w568.cell? ⟨hs w, 3, none⟩ = some (.int .i64 x571) ∧
 Calls Tryz.prog 37 #[.pointer (some ⟨p, 0, none⟩), .int .i64 x571] w568 (fun e572 => fun w573 => ∃ b574, e572 = .returned (.bool b574) ∧
(b574 = true →
 ∀ w576, w576 = w573.drew →
 ∃ x578, w576.cell? ⟨hs w, 3, none⟩ = some (.int .i64 x578) ∧
 ∃ o579, w576.cell? ⟨p, 4, none⟩ = some (.pointer o579) ∧
 Calls Tryz.prog 36 #[.pointer o579] w576 (fun e580 => fun w581 => ∃ x582, e580 = .returned (.int .i64 x582) ∧
 Kept w576 w581 ⟨hs w, 3, none⟩ 1 ∧
(decide (x578 < x582) = true →
 ∃ x584, w581.cell? ⟨hs w, 0, none⟩ = some (.int .i64 x584) ∧
 ∃ x585, w581.cell? ⟨hs w, 1, none⟩ = some (.int .i64 x585) ∧
 ∃ x586, w581.cell? ⟨hs w, 2, none⟩ = some (.int .i64 x586) ∧
 ∃ x587, w581.cell? ⟨hs w, 3, none⟩ = some (.int .i64 x587) ∧
 ∃ x588, w581.cell? ⟨hs w, 4, none⟩ = some (.int .i64 x588) ∧
 ∃ x589, w581.cell? ⟨hs w, 5, none⟩ = some (.int .i64 x589) ∧
 ∃ x590, w581.cell? ⟨hs w, 6, none⟩ = some (.int .i64 x590) ∧
 ∃ b591, w581.cell? ⟨hs w, 7, none⟩ = some (.bool b591) ∧
 ∃ o592, ∃ n593, ∃ n594, w581.cell? ⟨hs w, 8, none⟩ = some (.slice o592 n593 n594) ∧
 Calls Tryz.prog 38 #[.pointer (some ⟨p, 0, none⟩), .agg #[.int .i64 x584, .int .i64 x585, .int .i64 x586, .int .i64 x587, .int .i64 x588, .int .i64 x589, .int .i64 x590, .bool b591, .slice o592 n593 n594]] w581 (fun e595 => fun w596 => e595 = .returned (.tuple #[]) ∧
 Calls Tryz.prog 33 #[.pointer (some ⟨p, 0, none⟩)] w596 (fun e597 => fun w598 => ∃ o599, ∃ n600, ∃ n601, e597 = .returned (.slice o599 n600 n601) ∧
 R (.returned (.slice o599 n600 n601)) w598))) ∧
(decide (x578 < x582) = false →
 ∀ k603 : (World →
 Prop), (∀ w605 : World, ((Nat →
 Value) →
 Calls Tryz.prog 33 #[.pointer (some ⟨p, 0, none⟩)] w605 (fun e608 => fun w609 => ∃ o610, ∃ n611, ∃ n612, e608 = .returned (.slice o610 n611 n612) ∧
 R (.returned (.slice o610 n611 n612)) w609)) →
 k603 w605) →
 ∃ x613, w581.cell? ⟨hs w, 0, none⟩ = some (.int .i64 x613) ∧
(decide (x613 = 1) = true →
 ∃ x615, w581.cell? ⟨hs w, 0, none⟩ = some (.int .i64 x615) ∧
 ∃ x616, w581.cell? ⟨hs w, 1, none⟩ = some (.int .i64 x616) ∧
 ∃ x617, w581.cell? ⟨hs w, 2, none⟩ = some (.int .i64 x617) ∧
 ∃ x618, w581.cell? ⟨hs w, 3, none⟩ = some (.int .i64 x618) ∧
 ∃ x619, w581.cell? ⟨hs w, 4, none⟩ = some (.int .i64 x619) ∧
 ∃ x620, w581.cell? ⟨hs w, 5, none⟩ = some (.int .i64 x620) ∧
 ∃ x621, w581.cell? ⟨hs w, 6, none⟩ = some (.int .i64 x621) ∧
 ∃ b622, w581.cell? ⟨hs w, 7, none⟩ = some (.bool b622) ∧
 ∃ o623, ∃ n624, ∃ n625, w581.cell? ⟨hs w, 8, none⟩ = some (.slice o623 n624 n625) ∧
 Calls Tryz.prog 39 #[.pointer (some ⟨p, 0, none⟩), .agg #[.int .i64 x615, .int .i64 x616, .int .i64 x617, .int .i64 x618, .int .i64 x619, .int .i64 x620, .int .i64 x621, .bool b622, .slice o623 n624 n625], .int .i64 x5] w581 (fun e626 => fun w627 => e626 = .returned (.tuple #[]) ∧
 k603 w627)) ∧
(decide (x613 = 1) = false →
(decide (x613 = 2) = true →
 ∃ b630, w581.cell? ⟨hs w, 7, none⟩ = some (.bool b630) ∧
(b630 = true →
 ∃ x632, w581.cell? ⟨p, 11, none⟩ = some (.int .i64 x632) ∧
(decide (x632 = 2) = true →
 ∀ w634, w634 = w581.drew →
 ∃ x636, w634.cell? ⟨hs w, 1, none⟩ = some (.int .i64 x636) ∧
((0 : Int) ≤ x636 ∧
 x636 < 9) ∧
 There w634 (Addr.add ⟨p, 17, none⟩ ((x636).toNat * 1)) 1 ∧
 ∀ w637, w637 = setCells w634 (Addr.add ⟨p, 17, none⟩ ((x636).toNat * 1)) [.bool true] 0 →
 Calls Tryz.prog 40 #[.pointer (some ⟨p, 0, none⟩)] w637 (fun e639 => fun w640 => ∃ b641, e639 = .returned (.bool b641) ∧
(b641 = true →
 Calls Tryz.prog 41 #[.pointer (some ⟨p, 0, none⟩), .int .i64 x5] w640 (fun e643 => fun w644 => e643 = .returned (.tuple #[]) ∧
 k603 w644)) ∧
(b641 = false →
 k603 w640))) ∧
(decide (x632 = 2) = false →
 k603 w581)) ∧
(b630 = false →
 k603 w581)) ∧
(decide (x613 = 2) = false →
(decide (x613 = 3) = true →
 ∃ x650, w581.cell? ⟨p, 11, none⟩ = some (.int .i64 x650) ∧
((! (decide (x650 = 3))) = true →
 ∃ x652, w581.cell? ⟨hs w, 0, none⟩ = some (.int .i64 x652) ∧
 ∃ x653, w581.cell? ⟨hs w, 1, none⟩ = some (.int .i64 x653) ∧
 ∃ x654, w581.cell? ⟨hs w, 2, none⟩ = some (.int .i64 x654) ∧
 ∃ x655, w581.cell? ⟨hs w, 3, none⟩ = some (.int .i64 x655) ∧
 ∃ x656, w581.cell? ⟨hs w, 4, none⟩ = some (.int .i64 x656) ∧
 ∃ x657, w581.cell? ⟨hs w, 5, none⟩ = some (.int .i64 x657) ∧
 ∃ x658, w581.cell? ⟨hs w, 6, none⟩ = some (.int .i64 x658) ∧
 ∃ b659, w581.cell? ⟨hs w, 7, none⟩ = some (.bool b659) ∧
 ∃ o660, ∃ n661, ∃ n662, w581.cell? ⟨hs w, 8, none⟩ = some (.slice o660 n661 n662) ∧
 Calls Tryz.prog 42 #[.pointer (some ⟨p, 0, none⟩), .agg #[.int .i64 x652, .int .i64 x653, .int .i64 x654, .int .i64 x655, .int .i64 x656, .int .i64 x657, .int .i64 x658, .bool b659, .slice o660 n661 n662], .int .i64 x5] w581 (fun e663 => fun w664 => e663 = .returned (.tuple #[]) ∧
 k603 w664)) ∧
((! (decide (x650 = 3))) = false →
 k603 w581)) ∧
(decide (x613 = 3) = false →
(decide (x613 = 4) = true →
 ∀ w668, w668 = w581.drew →
 ∃ x670, w668.cell? ⟨p, 11, none⟩ = some (.int .i64 x670) ∧
(decide (x670 = 3) = true →
 ∃ x672, w668.cell? ⟨hs w, 1, none⟩ = some (.int .i64 x672) ∧
 Calls Tryz.prog 44 #[.pointer (some ⟨p, 0, none⟩)] w668 (fun e673 => fun w674 => ∃ o675, ∃ n676, ∃ n677, e673 = .returned (.slice o675 n676 n677) ∧
 Kept w668 w674 ⟨hs w, 1, none⟩ 1 ∧
 Calls Tryz.prog 43 #[.slice o675 n676 n677, .int .i64 x672] w674 (fun e678 => fun w679 => ∃ b680, e678 = .returned (.bool b680) ∧
(b680 = true →
 ∃ x682, w679.cell? ⟨hs w, 0, none⟩ = some (.int .i64 x682) ∧
 ∃ x683, w679.cell? ⟨hs w, 1, none⟩ = some (.int .i64 x683) ∧
 ∃ x684, w679.cell? ⟨hs w, 2, none⟩ = some (.int .i64 x684) ∧
 ∃ x685, w679.cell? ⟨hs w, 3, none⟩ = some (.int .i64 x685) ∧
 ∃ x686, w679.cell? ⟨hs w, 4, none⟩ = some (.int .i64 x686) ∧
 ∃ x687, w679.cell? ⟨hs w, 5, none⟩ = some (.int .i64 x687) ∧
 ∃ x688, w679.cell? ⟨hs w, 6, none⟩ = some (.int .i64 x688) ∧
 ∃ b689, w679.cell? ⟨hs w, 7, none⟩ = some (.bool b689) ∧
 ∃ o690, ∃ n691, ∃ n692, w679.cell? ⟨hs w, 8, none⟩ = some (.slice o690 n691 n692) ∧
 Calls Tryz.prog 45 #[.pointer (some ⟨p, 0, none⟩), .agg #[.int .i64 x682, .int .i64 x683, .int .i64 x684, .int .i64 x685, .int .i64 x686, .int .i64 x687, .int .i64 x688, .bool b689, .slice o690 n691 n692]] w679 (fun e693 => fun w694 => e693 = .returned (.tuple #[]) ∧
 k603 w694)) ∧
(b680 = false →
 k603 w679)))) ∧
(decide (x670 = 3) = false →
 k603 w668)) ∧
(decide (x613 = 4) = false →
 k603 w581))))))) ∧
(b574 = false →
 R (.returned (.slice none 0 0)) w573))) ∧
(decide (x565 > x569) = false →
 ∀ w700, w700 = w568.drew →
 ∃ x702, w700.cell? ⟨hs w, 3, none⟩ = some (.int .i64 x702) ∧
 ∃ o703, w700.cell? ⟨p, 4, none⟩ = some (.pointer o703) ∧
 Calls Tryz.prog 36 #[.pointer o703] w700 (fun e704 => fun w705 => ∃ x706, e704 = .returned (.int .i64 x706) ∧
 Kept w700 w705 ⟨hs w, 3, none⟩ 1 ∧
(decide (x702 < x706) = true →
 ∃ x708, w705.cell? ⟨hs w, 0, none⟩ = some (.int .i64 x708) ∧
 ∃ x709, w705.cell? ⟨hs w, 1, none⟩ = some (.int .i64 x709) ∧
 ∃ x710, w705.cell? ⟨hs w, 2, none⟩ = some (.int .i64 x710) ∧
 ∃ x711, w705.cell? ⟨hs w, 3, none⟩ = some (.int .i64 x711) ∧
 ∃ x712, w705.cell? ⟨hs w, 4, none⟩ = some (.int .i64 x712) ∧
 ∃ x713, w705.cell? ⟨hs w, 5, none⟩ = some (.int .i64 x713) ∧
 ∃ x714, w705.cell? ⟨hs w, 6, none⟩ = some (.int .i64 x714) ∧
 ∃ b715, w705.cell? ⟨hs w, 7, none⟩ = some (.bool b715) ∧
 ∃ o716, ∃ n717, ∃ n718, w705.cell? ⟨hs w, 8, none⟩ = some (.slice o716 n717 n718) ∧
 Calls Tryz.prog 38 #[.pointer (some ⟨p, 0, none⟩), .agg #[.int .i64 x708, .int .i64 x709, .int .i64 x710, .int .i64 x711, .int .i64 x712, .int .i64 x713, .int .i64 x714, .bool b715, .slice o716 n717 n718]] w705 (fun e719 => fun w720 => e719 = .returned (.tuple #[]) ∧
 Calls Tryz.prog 33 #[.pointer (some ⟨p, 0, none⟩)] w720 (fun e721 => fun w722 => ∃ o723, ∃ n724, ∃ n725, e721 = .returned (.slice o723 n724 n725) ∧
 R (.returned (.slice o723 n724 n725)) w722))) ∧
(decide (x702 < x706) = false →
 ∀ k727 : (World →
 Prop), (∀ w729 : World, ((Nat →
 Value) →
 Calls Tryz.prog 33 #[.pointer (some ⟨p, 0, none⟩)] w729 (fun e732 => fun w733 => ∃ o734, ∃ n735, ∃ n736, e732 = .returned (.slice o734 n735 n736) ∧
 R (.returned (.slice o734 n735 n736)) w733)) →
 k727 w729) →
 ∃ x737, w705.cell? ⟨hs w, 0, none⟩ = some (.int .i64 x737) ∧
(decide (x737 = 1) = true →
 ∃ x739, w705.cell? ⟨hs w, 0, none⟩ = some (.int .i64 x739) ∧
 ∃ x740, w705.cell? ⟨hs w, 1, none⟩ = some (.int .i64 x740) ∧
 ∃ x741, w705.cell? ⟨hs w, 2, none⟩ = some (.int .i64 x741) ∧
 ∃ x742, w705.cell? ⟨hs w, 3, none⟩ = some (.int .i64 x742) ∧
 ∃ x743, w705.cell? ⟨hs w, 4, none⟩ = some (.int .i64 x743) ∧
 ∃ x744, w705.cell? ⟨hs w, 5, none⟩ = some (.int .i64 x744) ∧
 ∃ x745, w705.cell? ⟨hs w, 6, none⟩ = some (.int .i64 x745) ∧
 ∃ b746, w705.cell? ⟨hs w, 7, none⟩ = some (.bool b746) ∧
 ∃ o747, ∃ n748, ∃ n749, w705.cell? ⟨hs w, 8, none⟩ = some (.slice o747 n748 n749) ∧
 Calls Tryz.prog 39 #[.pointer (some ⟨p, 0, none⟩), .agg #[.int .i64 x739, .int .i64 x740, .int .i64 x741, .int .i64 x742, .int .i64 x743, .int .i64 x744, .int .i64 x745, .bool b746, .slice o747 n748 n749], .int .i64 x5] w705 (fun e750 => fun w751 => e750 = .returned (.tuple #[]) ∧
 k727 w751)) ∧
(decide (x737 = 1) = false →
(decide (x737 = 2) = true →
 ∃ b754, w705.cell? ⟨hs w, 7, none⟩ = some (.bool b754) ∧
(b754 = true →
 ∃ x756, w705.cell? ⟨p, 11, none⟩ = some (.int .i64 x756) ∧
(decide (x756 = 2) = true →
 ∀ w758, w758 = w705.drew →
 ∃ x760, w758.cell? ⟨hs w, 1, none⟩ = some (.int .i64 x760) ∧
((0 : Int) ≤ x760 ∧
 x760 < 9) ∧
 There w758 (Addr.add ⟨p, 17, none⟩ ((x760).toNat * 1)) 1 ∧
 ∀ w761, w761 = setCells w758 (Addr.add ⟨p, 17, none⟩ ((x760).toNat * 1)) [.bool true] 0 →
 Calls Tryz.prog 40 #[.pointer (some ⟨p, 0, none⟩)] w761 (fun e763 => fun w764 => ∃ b765, e763 = .returned (.bool b765) ∧
(b765 = true →
 Calls Tryz.prog 41 #[.pointer (some ⟨p, 0, none⟩), .int .i64 x5] w764 (fun e767 => fun w768 => e767 = .returned (.tuple #[]) ∧
 k727 w768)) ∧
(b765 = false →
 k727 w764))) ∧
(decide (x756 = 2) = false →
 k727 w705)) ∧
(b754 = false →
 k727 w705)) ∧
(decide (x737 = 2) = false →
(decide (x737 = 3) = true →
 ∃ x774, w705.cell? ⟨p, 11, none⟩ = some (.int .i64 x774) ∧
((! (decide (x774 = 3))) = true →
 ∃ x776, w705.cell? ⟨hs w, 0, none⟩ = some (.int .i64 x776) ∧
 ∃ x777, w705.cell? ⟨hs w, 1, none⟩ = some (.int .i64 x777) ∧
 ∃ x778, w705.cell? ⟨hs w, 2, none⟩ = some (.int .i64 x778) ∧
 ∃ x779, w705.cell? ⟨hs w, 3, none⟩ = some (.int .i64 x779) ∧
 ∃ x780, w705.cell? ⟨hs w, 4, none⟩ = some (.int .i64 x780) ∧
 ∃ x781, w705.cell? ⟨hs w, 5, none⟩ = some (.int .i64 x781) ∧
 ∃ x782, w705.cell? ⟨hs w, 6, none⟩ = some (.int .i64 x782) ∧
 ∃ b783, w705.cell? ⟨hs w, 7, none⟩ = some (.bool b783) ∧
 ∃ o784, ∃ n785, ∃ n786, w705.cell? ⟨hs w, 8, none⟩ = some (.slice o784 n785 n786) ∧
 Calls Tryz.prog 42 #[.pointer (some ⟨p, 0, none⟩), .agg #[.int .i64 x776, .int .i64 x777, .int .i64 x778, .int .i64 x779, .int .i64 x780, .int .i64 x781, .int .i64 x782, .bool b783, .slice o784 n785 n786], .int .i64 x5] w705 (fun e787 => fun w788 => e787 = .returned (.tuple #[]) ∧
 k727 w788)) ∧
((! (decide (x774 = 3))) = false →
 k727 w705)) ∧
(decide (x737 = 3) = false →
(decide (x737 = 4) = true →
 ∀ w792, w792 = w705.drew →
 ∃ x794, w792.cell? ⟨p, 11, none⟩ = some (.int .i64 x794) ∧
(decide (x794 = 3) = true →
 ∃ x796, w792.cell? ⟨hs w, 1, none⟩ = some (.int .i64 x796) ∧
 Calls Tryz.prog 44 #[.pointer (some ⟨p, 0, none⟩)] w792 (fun e797 => fun w798 => ∃ o799, ∃ n800, ∃ n801, e797 = .returned (.slice o799 n800 n801) ∧
 Kept w792 w798 ⟨hs w, 1, none⟩ 1 ∧
 Calls Tryz.prog 43 #[.slice o799 n800 n801, .int .i64 x796] w798 (fun e802 => fun w803 => ∃ b804, e802 = .returned (.bool b804) ∧
(b804 = true →
 ∃ x806, w803.cell? ⟨hs w, 0, none⟩ = some (.int .i64 x806) ∧
 ∃ x807, w803.cell? ⟨hs w, 1, none⟩ = some (.int .i64 x807) ∧
 ∃ x808, w803.cell? ⟨hs w, 2, none⟩ = some (.int .i64 x808) ∧
 ∃ x809, w803.cell? ⟨hs w, 3, none⟩ = some (.int .i64 x809) ∧
 ∃ x810, w803.cell? ⟨hs w, 4, none⟩ = some (.int .i64 x810) ∧
 ∃ x811, w803.cell? ⟨hs w, 5, none⟩ = some (.int .i64 x811) ∧
 ∃ x812, w803.cell? ⟨hs w, 6, none⟩ = some (.int .i64 x812) ∧
 ∃ b813, w803.cell? ⟨hs w, 7, none⟩ = some (.bool b813) ∧
 ∃ o814, ∃ n815, ∃ n816, w803.cell? ⟨hs w, 8, none⟩ = some (.slice o814 n815 n816) ∧
 Calls Tryz.prog 45 #[.pointer (some ⟨p, 0, none⟩), .agg #[.int .i64 x806, .int .i64 x807, .int .i64 x808, .int .i64 x809, .int .i64 x810, .int .i64 x811, .int .i64 x812, .bool b813, .slice o814 n815 n816]] w803 (fun e817 => fun w818 => e817 = .returned (.tuple #[]) ∧
 k727 w818)) ∧
(b804 = false →
 k727 w803)))) ∧
(decide (x794 = 3) = false →
 k727 w792)) ∧
(decide (x737 = 4) = false →
 k727 w705))))))))))) ∧
(b24 = false →
 R (.returned (.slice none 0 0)) w23)))))) :
    Calls Tryz.prog 12 #[(.pointer (some ⟨p, 0, none⟩)), (.agg #[(.int .i64 m_Kind), (.int .i64 m_From), (.int .i64 m_To), (.int .i64 m_Term), (.int .i64 m_Prev), (.int .i64 m_PrevTerm), (.int .i64 m_Commit), (.bool m_Granted), (.slice m_Entries m_Entries_n m_Entries_c)]), (.int .i64 now)] w R :=
  calls_of_vc an12 Tryz.func12 rfl (by kernel_rfl) (by kernel_rfl) (Eq.mp (by kernel_rfl) h)

end Go.Proofs.YtcaokpglbolkcaaGreat
