/- The contracts' premises: for each function, the proposition that its body comes to (printed by the tool of wip/nf). -/
import Derived.Test.YtneklhmkiememaaDoorRows
import Derived.Test.YtneklhmkiememaaDoorNfD
namespace Go.Proofs.YtneklhmkiememaaDoor
open Go Go.Nf

/-- samaritan/assignment.Cost -/
def an27 : An := (.seq (.reg []) (.seq (.reg []) (.seq (.seq (.reg [(1, 0, true)]) (.cond (.seq (.reg []) .nil) .nil)) (.seq (.seq (.reg [(4, 0, true)]) (.cond (.seq (.reg []) .nil) .nil)) (.seq (.reg [(1, 1, false)]) (.seq (.reg []) (.seq (.seq (.reg []) (.blk (.loop [(10, .int .i64), (11, .int .i64), (31, .int .i64)] (.seq (.reg [(0, 0, true)]) (.seq (.cond .nil .nil) (.cut [(10, .int .i64), (11, .int .i64)] (.blk (.seq (.reg []) (.seq (.seq (.reg [(1, 0, true)]) (.cond .nil .nil)) (.seq (.seq (.reg [(1, 0, true), (5, 0, true), (11, 0, true), (21, 0, true)]) (.cond (.seq (.reg []) .nil) .nil)) (.seq (.reg []) (.seq (.reg []) (.reg []))))))) (.reg []))))))) (.seq (.reg []) .nil))))))))
set_option maxRecDepth 100000 in
theorem nf27 (cost : Option Addr) (cost_n : Nat) (cost_c : Nat) (m : Option Addr) (m_n : Nat) (m_c : Nat) (w : World) (R : Ending → World → Prop) (h :
(Calls Tryd.prog 39 #[(Value.slice cost cost_n cost_c)] w (fun (e1 : Ending) => (fun (w2 : World) => (∃ x3 : Int, (∃ x4 : Int, ((e1 = (Ending.returned (Value.tuple #[(Value.int IntKind.i64 x3), (Value.int IntKind.i64 x4)]))) ∧
((((!(decide (x4 = 0))) = true) →
(R (Ending.returned (Value.tuple #[(Value.int IntKind.i64 0), (Value.int IntKind.i64 0), (Value.int IntKind.i64 x4)])) w2)) ∧
(((!(decide (x4 = 0))) = false) →
((((!(decide (((m_n : Nat) : Int) = ((cost_n : Nat) : Int)))) = true) →
(R (Ending.returned (Value.tuple #[(Value.int IntKind.i64 0), (Value.int IntKind.i64 0), (Value.int IntKind.i64 1)])) w2)) ∧
(((!(decide (((m_n : Nat) : Int) = ((cost_n : Nat) : Int)))) = false) →
(RunOk Tryd.prog (Nf.Hold (Instr.makeSlice 73 (Value.int IntKind.i64 x3) (Value.int IntKind.i64 x3))) w2 (fun (v9 : Value) => (fun (w10 : World) => (∃ o11 : Option Addr, (∃ n12 : Nat, (∃ n13 : Nat, ((v9 = (Value.slice o11 n12 n13)) ∧
(∃ k14 : (Nat → (Int → (Int → (Int → (World → Prop))))), ((∃ n15 : Nat, (k14 n15 0 0 0 w10)) ∧
(∀ n16 : Nat, ((Nat → Value) →
(∀ w18 : World, (∀ x19 : Int, (∀ x20 : Int, (∀ x21 : Int, ((k14 n16 x19 x20 x21 w18) →
((((decide (x21 < ((m_n : Nat) : Int))) = true) →
(∀ k24 : (Int → (Int → (World → Prop))), ((∀ w26 : World, (∀ x27 : Int, (∀ x28 : Int, (((Nat → Value) →
(∃ n31 : Nat, ((n31 < n16) ∧
(k14 n31 x27 x28 (IntKind.wrap IntKind.i64 (x21 + 1)) w26)))) →
(k24 x27 x28 w26))))) →
(∃ a32 : Addr, ((m = (some a32)) ∧
((((0 : Int) ≤ x21) ∧
(x21 < ((m_n : Nat) : Int))) ∧
(∃ x33 : Int, (((w18.cell? (Addr.add a32 ((x21).toNat * 1))) = (some (Value.int IntKind.i64 x33))) ∧
((((decide (x33 = (-1))) = true) →
(k24 x19 x20 w18)) ∧
(((decide (x33 = (-1))) = false) →
((((decide (x33 < 0)) = true) →
(R (Ending.returned (Value.tuple #[(Value.int IntKind.i64 0), (Value.int IntKind.i64 0), (Value.int IntKind.i64 1)])) w18)) ∧
(((decide (x33 < 0)) = false) →
((((decide (x33 ≥ x3)) = true) →
(R (Ending.returned (Value.tuple #[(Value.int IntKind.i64 0), (Value.int IntKind.i64 0), (Value.int IntKind.i64 1)])) w18)) ∧
(((decide (x33 ≥ x3)) = false) →
(∃ a40 : Addr, ((o11 = (some a40)) ∧
((((0 : Int) ≤ x33) ∧
(x33 < ((n12 : Nat) : Int))) ∧
(∃ b41 : Bool, (((w18.cell? (Addr.add a40 ((x33).toNat * 1))) = (some (Value.bool b41))) ∧
(((b41 = true) →
(R (Ending.returned (Value.tuple #[(Value.int IntKind.i64 0), (Value.int IntKind.i64 0), (Value.int IntKind.i64 1)])) w18)) ∧
((b41 = false) →
(∃ a44 : Addr, ((cost = (some a44)) ∧
((((0 : Int) ≤ x21) ∧
(x21 < ((cost_n : Nat) : Int))) ∧
(∃ o45 : Option Addr, (∃ n46 : Nat, (∃ n47 : Nat, (((w18.cell? (Addr.add a44 ((x21).toNat * 1))) = (some (Value.slice o45 n46 n47))) ∧
(∃ a48 : Addr, ((o45 = (some a48)) ∧
((((0 : Int) ≤ x33) ∧
(x33 < ((n46 : Nat) : Int))) ∧
(∃ x49 : Int, (((w18.cell? (Addr.add a48 ((x33).toNat * 1))) = (some (Value.int IntKind.i64 x49))) ∧
((((decide (x49 = 4611686018427387904)) = true) →
(R (Ending.returned (Value.tuple #[(Value.int IntKind.i64 0), (Value.int IntKind.i64 0), (Value.int IntKind.i64 1)])) w18)) ∧
(((decide (x49 = 4611686018427387904)) = false) →
(∃ a52 : Addr, ((o11 = (some a52)) ∧
((((0 : Int) ≤ x33) ∧
(x33 < ((n12 : Nat) : Int))) ∧
((Nf.There w18 (Addr.add a52 ((x33).toNat * 1)) 1) ∧
(∀ w53 : World, ((w53 = (Nf.setCells w18 (Addr.add a52 ((x33).toNat * 1)) [(Value.bool true)] 0)) →
(∃ a55 : Addr, ((cost = (some a55)) ∧
((((0 : Int) ≤ x21) ∧
(x21 < ((cost_n : Nat) : Int))) ∧
(∃ o56 : Option Addr, (∃ n57 : Nat, (∃ n58 : Nat, (((w53.cell? (Addr.add a55 ((x21).toNat * 1))) = (some (Value.slice o56 n57 n58))) ∧
(∃ a59 : Addr, ((o56 = (some a59)) ∧
((((0 : Int) ≤ x33) ∧
(x33 < ((n57 : Nat) : Int))) ∧
(∃ x60 : Int, (((w53.cell? (Addr.add a59 ((x33).toNat * 1))) = (some (Value.int IntKind.i64 x60))) ∧
(k24 (IntKind.wrap IntKind.i64 (x19 + 1)) (IntKind.wrap IntKind.i64 (x20 + x60)) w53)))))))))))))))))))))))))))))))))))))))))))))))))))))) ∧
(((decide (x21 < ((m_n : Nat) : Int))) = false) →
(R (Ending.returned (Value.tuple #[(Value.int IntKind.i64 x19), (Value.int IntKind.i64 x20), (Value.int IntKind.i64 0)])) w18)))))))))))))))))))))))))))))) :
    Calls Tryd.prog 27 #[(.slice cost cost_n cost_c), (.slice m m_n m_c)] w R :=
  calls_of_vc an27 Tryd.func27 rfl (by kernel_rfl) (by kernel_rfl) (Eq.mp (by kernel_rfl) h)

/-- samaritan/samaritanref36.Small -/
def an10 : An := (.seq (.reg []) (.seq (.seq (.reg [(2, 0, true)]) (.cond (.seq (.reg []) .nil) .nil)) (.seq (.seq (.reg []) (.blk (.loop [(10, .int .i64)] (.seq (.reg [(0, 0, true)]) (.seq (.cond .nil .nil) (.seq (.blk (.seq (.reg []) (.seq (.reg [(2, 0, true), (6, 0, true), (10, 0, true)]) (.cond (.seq (.reg []) .nil) .nil)))) (.reg []))))))) (.seq (.reg []) .nil))))
set_option maxRecDepth 100000 in
theorem nf10 (cost : Option Addr) (cost_n : Nat) (cost_c : Nat) (w : World) (R : Ending → World → Prop) (h :
((((decide (((cost_n : Nat) : Int) > 6)) = true) →
(R (Ending.returned (Value.bool false)) w)) ∧
(((decide (((cost_n : Nat) : Int) > 6)) = false) →
(∃ k3 : (Nat → (Int → (World → Prop))), ((∃ n4 : Nat, (k3 n4 0 w)) ∧
(∀ n5 : Nat, ((Nat → Value) →
(∀ w7 : World, (∀ x8 : Int, ((k3 n5 x8 w7) →
((((decide (x8 < ((cost_n : Nat) : Int))) = true) →
(∃ a11 : Addr, ((cost = (some a11)) ∧
((((0 : Int) ≤ x8) ∧
(x8 < ((cost_n : Nat) : Int))) ∧
(∃ o12 : Option Addr, (∃ n13 : Nat, (∃ n14 : Nat, (((w7.cell? (Addr.add a11 ((x8).toNat * 1))) = (some (Value.slice o12 n13 n14))) ∧
((((decide (((n13 : Nat) : Int) > 6)) = true) →
(R (Ending.returned (Value.bool false)) w7)) ∧
(((decide (((n13 : Nat) : Int) > 6)) = false) →
((((decide (((cost_n : Nat) : Int) > 5)) = true) →
((((decide (((n13 : Nat) : Int) > 5)) = true) →
(R (Ending.returned (Value.bool false)) w7)) ∧
(((decide (((n13 : Nat) : Int) > 5)) = false) →
(∃ n20 : Nat, ((n20 < n5) ∧
(k3 n20 (IntKind.wrap IntKind.i64 (x8 + 1)) w7)))))) ∧
(((decide (((cost_n : Nat) : Int) > 5)) = false) →
(∃ n22 : Nat, ((n22 < n5) ∧
(k3 n22 (IntKind.wrap IntKind.i64 (x8 + 1)) w7))))))))))))))) ∧
(((decide (x8 < ((cost_n : Nat) : Int))) = false) →
(R (Ending.returned (Value.bool true)) w7))))))))))))) :
    Calls Tryd.prog 10 #[(.slice cost cost_n cost_c)] w R :=
  calls_of_vc an10 Tryd.func10 rfl (by kernel_rfl) (by kernel_rfl) (Eq.mp (by kernel_rfl) h)

/-- samaritan/samaritanlaw37.table -/
def an12 : An := (.seq (.reg []) (.seq (.reg []) (.seq (.seq (.reg []) (.blk (.loop [(3, .slice), (8, .int .i64)] (.seq (.reg [(0, 0, true)]) (.seq (.cond .nil .nil) (.seq (.blk (.seq (.reg []) (.reg [(3, 1, false), (5, 1, false)]))) (.reg []))))))) (.seq (.reg []) .nil))))
set_option maxRecDepth 100000 in
theorem nf12 (cost : Option Addr) (cost_n : Nat) (cost_c : Nat) (w : World) (R : Ending → World → Prop) (h :
(∃ k1 : (Nat → (Option Addr → (Nat → (Nat → (Int → (World → Prop)))))), ((∃ n2 : Nat, (k1 n2 none 0 0 0 w)) ∧
(∀ n3 : Nat, ((Nat → Value) →
(∀ w5 : World, (∀ o6 : Option Addr, (∀ n7 : Nat, (∀ n8 : Nat, (∀ x9 : Int, ((k1 n3 o6 n7 n8 x9 w5) →
((((decide (x9 < ((cost_n : Nat) : Int))) = true) →
(∃ a12 : Addr, ((cost = (some a12)) ∧
((((0 : Int) ≤ x9) ∧
(x9 < ((cost_n : Nat) : Int))) ∧
(∃ o13 : Option Addr, (∃ n14 : Nat, (∃ n15 : Nat, (((w5.cell? (Addr.add a12 ((x9).toNat * 1))) = (some (Value.slice o13 n14 n15))) ∧
(∀ w16 : World, ((w16 = (w5.alloc (Obj.cells #[] 2 (0, 0)))) →
(RunOk Tryd.prog (Nf.Hold (Builtin.append_ #[26, 26] 26 #[(Value.slice (some (⟨(hs w5), 0, none⟩ : Addr)) 0 0), (Value.slice o13 n14 n15)])) w16 (fun (v18 : Value) => (fun (w19 : World) => (∃ o20 : Option Addr, (∃ n21 : Nat, (∃ n22 : Nat, ((v18 = (Value.slice o20 n21 n22)) ∧
(∀ w23 : World, ((w23 = (w19.alloc (Obj.cells #[(Value.slice o20 n21 n22)] 26 (0, 0)))) →
(RunOk Tryd.prog (Nf.Hold (Builtin.append_ #[22, 22] 22 #[(Value.slice o6 n7 n8), (Value.slice (some (⟨(hs w19), 0, none⟩ : Addr)) 1 1)])) w23 (fun (v25 : Value) => (fun (w26 : World) => (∃ o27 : Option Addr, (∃ n28 : Nat, (∃ n29 : Nat, ((v25 = (Value.slice o27 n28 n29)) ∧
(∃ n30 : Nat, ((n30 < n3) ∧
(k1 n30 o27 n28 n29 (IntKind.wrap IntKind.i64 (x9 + 1)) w26))))))))))))))))))))))))))))) ∧
(((decide (x9 < ((cost_n : Nat) : Int))) = false) →
(R (Ending.returned (Value.slice o6 n7 n8)) w5)))))))))))))) :
    Calls Tryd.prog 12 #[(.slice cost cost_n cost_c)] w R :=
  calls_of_vc an12 Tryd.func12 rfl (by kernel_rfl) (by kernel_rfl) (Eq.mp (by kernel_rfl) h)

/-- samaritan/samaritanlaw37.ints -/
def an13 : An := (.seq (.reg []) (.seq (.reg [(2, 1, false)]) .nil))
set_option maxRecDepth 100000 in
theorem nf13 (l : Option Addr) (l_n : Nat) (l_c : Nat) (w : World) (R : Ending → World → Prop) (h :
(∀ w1 : World, ((w1 = (w.alloc (Obj.cells #[] 3 (0, 0)))) →
(RunOk Tryd.prog (Nf.Hold (Builtin.append_ #[23, 23] 23 #[(Value.slice (some (⟨(hs w), 0, none⟩ : Addr)) 0 0), (Value.slice l l_n l_c)])) w1 (fun (v3 : Value) => (fun (w4 : World) => (∃ o5 : Option Addr, (∃ n6 : Nat, (∃ n7 : Nat, ((v3 = (Value.slice o5 n6 n7)) ∧
(R (Ending.returned (Value.slice o5 n6 n7)) w4))))))))))) :
    Calls Tryd.prog 13 #[(.slice l l_n l_c)] w R :=
  calls_of_vc an13 Tryd.func13 rfl (by kernel_rfl) (by kernel_rfl) (Eq.mp (by kernel_rfl) h)

/-- samaritan/samaritanref37.Best -/
def an15 : An := (.seq (.reg []) (.seq (.reg []) (.seq (.seq (.reg [(1, 0, true)]) (.cond (.seq (.reg []) .nil) .nil)) (.seq (.reg []) (.seq (.reg []) .nil)))))
set_option maxRecDepth 100000 in
theorem nf15 (cost : Option Addr) (cost_n : Nat) (cost_c : Nat) (w : World) (R : Ending → World → Prop) (h :
(Calls Tryd.prog 25 #[(Value.slice cost cost_n cost_c)] w (fun (e1 : Ending) => (fun (w2 : World) => (∃ o3 : Option Addr, (∃ n4 : Nat, (∃ n5 : Nat, (∃ x6 : Int, (∃ x7 : Int, ((e1 = (Ending.returned (Value.tuple #[(Value.slice o3 n4 n5), (Value.int IntKind.i64 x6), (Value.int IntKind.i64 x7)]))) ∧
((((!(decide (x7 = 0))) = true) →
(R (Ending.returned (Value.tuple #[(Value.int IntKind.i64 0), (Value.int IntKind.i64 0)])) w2)) ∧
(((!(decide (x7 = 0))) = false) →
(Calls Tryd.prog 14 #[(Value.slice cost cost_n cost_c), (Value.slice o3 n4 n5)] w2 (fun (e10 : Ending) => (fun (w11 : World) => (∃ x12 : Int, (∃ x13 : Int, (∃ x14 : Int, ((e10 = (Ending.returned (Value.tuple #[(Value.int IntKind.i64 x12), (Value.int IntKind.i64 x13), (Value.int IntKind.i64 x14)]))) ∧
(R (Ending.returned (Value.tuple #[(Value.int IntKind.i64 x12), (Value.int IntKind.i64 x13)])) w11)))))))))))))))))))) :
    Calls Tryd.prog 15 #[(.slice cost cost_n cost_c)] w R :=
  calls_of_vc an15 Tryd.func15 rfl (by kernel_rfl) (by kernel_rfl) (Eq.mp (by kernel_rfl) h)

/-- samaritan/samaritanref37.Check -/
def an16 : An := (.seq (.reg []) (.seq (.reg []) (.seq (.seq (.regD [(1, 0, true), (8, 0, true), (16, 0, true)] [0, 1, 2, 3, 4, 5, 6, 7, 8, 9, 10, 11, 12, 13, 14, 15, 16, 17] [15]) (.cond (.seq (.reg []) .nil) .nil)) (.seq (.reg []) (.seq (.seq (.reg []) (.blk (.loop [(11, .int .i64)] (.seq (.seq (.reg [(4, 0, true)]) (.cond .nil .nil)) (.seq (.blk (.seq (.regD [(6, 0, true), (14, 0, true), (21, 0, true), (29, 0, true)] [0, 1, 2, 3, 4, 5, 6, 7, 8, 9, 10, 11, 12, 13, 14, 15, 16, 17, 18, 19, 20, 21, 22, 23, 24, 25, 26, 27, 28, 29, 30, 31] [5, 28]) (.cond (.seq (.reg []) .nil) .nil))) (.reg [])))))) (.seq (.reg []) (.seq (.seq (.reg []) (.blk (.loop [(13, .int .i64)] (.seq (.seq (.reg [(4, 0, true)]) (.cond .nil .nil)) (.seq (.blk (.seq (.reg [(5, 0, true), (13, 0, true), (20, 0, true), (27, 0, true)]) (.cond (.seq (.reg []) .nil) .nil))) (.reg [])))))) (.seq (.seq (.reg []) (.blk (.loop [(14, .int .i64)] (.seq (.seq (.reg [(3, 0, true)]) (.cond .nil .nil)) (.seq (.blk (.seq (.reg []) (.blk (.loop [(15, .int .i64)] (.seq (.seq (.reg [(6, 0, true)]) (.cond .nil .nil)) (.cut [] (.blk (.seq (.seq (.regD [(8, 0, true)] [0, 1, 2, 3, 4, 5, 6, 7, 8] [7]) (.cond .nil .nil)) (.seq (.regD [] [0, 1, 2, 3, 4, 5, 6, 7, 8, 9, 10, 11] []) (.seq (.reg [(8, 0, true), (15, 0, true), (25, 0, true)]) (.cond (.seq (.reg []) .nil) .nil))))) (.reg []))))))) (.reg [])))))) (.seq (.reg [(7, 0, true)]) .nil)))))))))
set_option maxRecDepth 100000 in
theorem nf16 (cost : Option Addr) (cost_n : Nat) (cost_c : Nat) (m : Option Addr) (m_n : Nat) (m_c : Nat) (p_Rows : Option Addr) (p_Rows_n : Nat) (p_Rows_c : Nat) (p_Columns : Option Addr) (p_Columns_n : Nat) (p_Columns_c : Nat) (p_Short : Option Addr) (p_Short_n : Nat) (p_Short_c : Nat) (w : World) (R : Ending → World → Prop) (h :
(∀ w1 : World, ((w1 = (w.alloc (Obj.cells #[(Value.slice p_Rows p_Rows_n p_Rows_c), (Value.slice p_Columns p_Columns_n p_Columns_c), (Value.slice p_Short p_Short_n p_Short_c)] 40 (0, 0)))) →
(Calls Tryd.prog 14 #[(Value.slice cost cost_n cost_c), (Value.slice m m_n m_c)] w1 (fun (e3 : Ending) => (fun (w4 : World) => (∃ x5 : Int, (∃ x6 : Int, (∃ x7 : Int, ((e3 = (Ending.returned (Value.tuple #[(Value.int IntKind.i64 x5), (Value.int IntKind.i64 x6), (Value.int IntKind.i64 x7)]))) ∧
(∀ w8 : World, ((w8 = w4.drew) →
((((!(decide (x7 = 0))) = true) →
(R (Ending.returned (Value.bool false)) w8)) ∧
(((!(decide (x7 = 0))) = false) →
(∃ o12 : Option Addr, (∃ n13 : Nat, (∃ n14 : Nat, (((w8.cell? (⟨(hs w), 0, none⟩ : Addr)) = (some (Value.slice o12 n13 n14))) ∧
((((!(decide (((n13 : Nat) : Int) = ((cost_n : Nat) : Int)))) = true) →
(R (Ending.returned (Value.bool false)) w8)) ∧
(((!(decide (((n13 : Nat) : Int) = ((cost_n : Nat) : Int)))) = false) →
(∃ o17 : Option Addr, (∃ n18 : Nat, (∃ n19 : Nat, (((w8.cell? (⟨(hs w), 1, none⟩ : Addr)) = (some (Value.slice o17 n18 n19))) ∧
(Calls Tryd.prog 30 #[(Value.slice cost cost_n cost_c)] w8 (fun (e20 : Ending) => (fun (w21 : World) => (∃ x22 : Int, ((e20 = (Ending.returned (Value.int IntKind.i64 x22))) ∧
((Nf.Kept w8 w21 (⟨(hs w), 1, none⟩ : Addr) 1) ∧
((((!(decide (((n18 : Nat) : Int) = x22))) = true) →
(R (Ending.returned (Value.bool false)) w21)) ∧
(((!(decide (((n18 : Nat) : Int) = x22))) = false) →
(∃ k25 : (Nat → (Int → (World → Prop))), ((∃ n26 : Nat, (k25 n26 0 w21)) ∧
(∀ n27 : Nat, ((Nat → Value) →
(∀ w29 : World, (∀ x30 : Int, ((k25 n27 x30 w29) →
(∃ o32 : Option Addr, (∃ n33 : Nat, (∃ n34 : Nat, (((w29.cell? (⟨(hs w), 0, none⟩ : Addr)) = (some (Value.slice o32 n33 n34))) ∧
((((decide (x30 < ((n33 : Nat) : Int))) = true) →
(∀ w36 : World, ((w36 = w29.drew) →
(∃ o38 : Option Addr, (∃ n39 : Nat, (∃ n40 : Nat, (((w36.cell? (⟨(hs w), 0, none⟩ : Addr)) = (some (Value.slice o38 n39 n40))) ∧
(∃ a41 : Addr, ((o38 = (some a41)) ∧
((((0 : Int) ≤ x30) ∧
(x30 < ((n39 : Nat) : Int))) ∧
(∃ x42 : Int, (((w36.cell? (Addr.add a41 ((x30).toNat * 1))) = (some (Value.int IntKind.i64 x42))) ∧
(Calls Tryd.prog 31 #[] w36 (fun (e43 : Ending) => (fun (w44 : World) => (∃ x45 : Int, ((e43 = (Ending.returned (Value.int IntKind.i64 x45))) ∧
((Nf.Kept w36 w44 (Addr.add a41 ((x30).toNat * 1)) 1) ∧
((Nf.Kept w36 w44 (⟨(hs w), 0, none⟩ : Addr) 1) ∧
((((decide (x42 > x45)) = true) →
(R (Ending.returned (Value.bool false)) w44)) ∧
(((decide (x42 > x45)) = false) →
(∃ o48 : Option Addr, (∃ n49 : Nat, (∃ n50 : Nat, (((w44.cell? (⟨(hs w), 0, none⟩ : Addr)) = (some (Value.slice o48 n49 n50))) ∧
(∃ a51 : Addr, ((o48 = (some a51)) ∧
((((0 : Int) ≤ x30) ∧
(x30 < ((n49 : Nat) : Int))) ∧
(∃ x52 : Int, (((w44.cell? (Addr.add a51 ((x30).toNat * 1))) = (some (Value.int IntKind.i64 x52))) ∧
((((decide (x52 < (-72057594037927936))) = true) →
(R (Ending.returned (Value.bool false)) w44)) ∧
(((decide (x52 < (-72057594037927936))) = false) →
(∃ a55 : Addr, ((m = (some a55)) ∧
((((0 : Int) ≤ x30) ∧
(x30 < ((m_n : Nat) : Int))) ∧
(∃ x56 : Int, (((w44.cell? (Addr.add a55 ((x30).toNat * 1))) = (some (Value.int IntKind.i64 x56))) ∧
((((decide (x56 < 0)) = true) →
(∃ o58 : Option Addr, (∃ n59 : Nat, (∃ n60 : Nat, (((w44.cell? (⟨(hs w), 0, none⟩ : Addr)) = (some (Value.slice o58 n59 n60))) ∧
(∃ a61 : Addr, ((o58 = (some a61)) ∧
((((0 : Int) ≤ x30) ∧
(x30 < ((n59 : Nat) : Int))) ∧
(∃ x62 : Int, (((w44.cell? (Addr.add a61 ((x30).toNat * 1))) = (some (Value.int IntKind.i64 x62))) ∧
(Calls Tryd.prog 31 #[] w44 (fun (e63 : Ending) => (fun (w64 : World) => (∃ x65 : Int, ((e63 = (Ending.returned (Value.int IntKind.i64 x65))) ∧
((Nf.Kept w44 w64 (Addr.add a61 ((x30).toNat * 1)) 1) ∧
((Nf.Kept w44 w64 (⟨(hs w), 0, none⟩ : Addr) 1) ∧
((((!(decide (x62 = x65))) = true) →
(R (Ending.returned (Value.bool false)) w64)) ∧
(((!(decide (x62 = x65))) = false) →
(∃ n68 : Nat, ((n68 < n27) ∧
(k25 n68 (IntKind.wrap IntKind.i64 (x30 + 1)) w64)))))))))))))))))))))) ∧
(((decide (x56 < 0)) = false) →
(∃ n70 : Nat, ((n70 < n27) ∧
(k25 n70 (IntKind.wrap IntKind.i64 (x30 + 1)) w44)))))))))))))))))))))))))))))))))))))))))) ∧
(((decide (x30 < ((n33 : Nat) : Int))) = false) →
(Calls Tryd.prog 32 #[(Value.slice cost cost_n cost_c), (Value.slice m m_n m_c)] w29 (fun (e72 : Ending) => (fun (w73 : World) => (∃ o74 : Option Addr, (∃ n75 : Nat, (∃ n76 : Nat, ((e72 = (Ending.returned (Value.slice o74 n75 n76))) ∧
(∃ k77 : (Nat → (Int → (World → Prop))), ((∃ n78 : Nat, (k77 n78 0 w73)) ∧
(∀ n79 : Nat, ((Nat → Value) →
(∀ w81 : World, (∀ x82 : Int, ((k77 n79 x82 w81) →
(∃ o84 : Option Addr, (∃ n85 : Nat, (∃ n86 : Nat, (((w81.cell? (⟨(hs w), 1, none⟩ : Addr)) = (some (Value.slice o84 n85 n86))) ∧
((((decide (x82 < ((n85 : Nat) : Int))) = true) →
(∃ o88 : Option Addr, (∃ n89 : Nat, (∃ n90 : Nat, (((w81.cell? (⟨(hs w), 1, none⟩ : Addr)) = (some (Value.slice o88 n89 n90))) ∧
(∃ a91 : Addr, ((o88 = (some a91)) ∧
((((0 : Int) ≤ x82) ∧
(x82 < ((n89 : Nat) : Int))) ∧
(∃ x92 : Int, (((w81.cell? (Addr.add a91 ((x82).toNat * 1))) = (some (Value.int IntKind.i64 x92))) ∧
((((decide (x92 > 0)) = true) →
(R (Ending.returned (Value.bool false)) w81)) ∧
(((decide (x92 > 0)) = false) →
(∃ o95 : Option Addr, (∃ n96 : Nat, (∃ n97 : Nat, (((w81.cell? (⟨(hs w), 1, none⟩ : Addr)) = (some (Value.slice o95 n96 n97))) ∧
(∃ a98 : Addr, ((o95 = (some a98)) ∧
((((0 : Int) ≤ x82) ∧
(x82 < ((n96 : Nat) : Int))) ∧
(∃ x99 : Int, (((w81.cell? (Addr.add a98 ((x82).toNat * 1))) = (some (Value.int IntKind.i64 x99))) ∧
((((decide (x99 < (-72057594037927936))) = true) →
(R (Ending.returned (Value.bool false)) w81)) ∧
(((decide (x99 < (-72057594037927936))) = false) →
(∃ a102 : Addr, ((o74 = (some a102)) ∧
((((0 : Int) ≤ x82) ∧
(x82 < ((n75 : Nat) : Int))) ∧
(∃ x103 : Int, (((w81.cell? (Addr.add a102 ((x82).toNat * 1))) = (some (Value.int IntKind.i64 x103))) ∧
((((decide (x103 < 0)) = true) →
(∃ o105 : Option Addr, (∃ n106 : Nat, (∃ n107 : Nat, (((w81.cell? (⟨(hs w), 1, none⟩ : Addr)) = (some (Value.slice o105 n106 n107))) ∧
(∃ a108 : Addr, ((o105 = (some a108)) ∧
((((0 : Int) ≤ x82) ∧
(x82 < ((n106 : Nat) : Int))) ∧
(∃ x109 : Int, (((w81.cell? (Addr.add a108 ((x82).toNat * 1))) = (some (Value.int IntKind.i64 x109))) ∧
((((!(decide (x109 = 0))) = true) →
(R (Ending.returned (Value.bool false)) w81)) ∧
(((!(decide (x109 = 0))) = false) →
(∃ n112 : Nat, ((n112 < n79) ∧
(k77 n112 (IntKind.wrap IntKind.i64 (x82 + 1)) w81))))))))))))))) ∧
(((decide (x103 < 0)) = false) →
(∃ n114 : Nat, ((n114 < n79) ∧
(k77 n114 (IntKind.wrap IntKind.i64 (x82 + 1)) w81))))))))))))))))))))))))))))))))) ∧
(((decide (x82 < ((n85 : Nat) : Int))) = false) →
(∃ k116 : (Nat → (Int → (World → Prop))), ((∃ n117 : Nat, (k116 n117 0 w81)) ∧
(∀ n118 : Nat, ((Nat → Value) →
(∀ w120 : World, (∀ x121 : Int, ((k116 n118 x121 w120) →
((((decide (x121 < ((cost_n : Nat) : Int))) = true) →
(∃ k124 : (Nat → (Int → (World → Prop))), ((∃ n125 : Nat, (k124 n125 0 w120)) ∧
(∀ n126 : Nat, ((Nat → Value) →
(∀ w128 : World, (∀ x129 : Int, ((k124 n126 x129 w128) →
(∃ a131 : Addr, ((cost = (some a131)) ∧
((((0 : Int) ≤ x121) ∧
(x121 < ((cost_n : Nat) : Int))) ∧
(∃ o132 : Option Addr, (∃ n133 : Nat, (∃ n134 : Nat, (((w128.cell? (Addr.add a131 ((x121).toNat * 1))) = (some (Value.slice o132 n133 n134))) ∧
((((decide (x129 < ((n133 : Nat) : Int))) = true) →
(∀ k136 : (World → Prop), ((∀ w138 : World, (((Nat → Value) →
(∃ n141 : Nat, ((n141 < n126) ∧
(k124 n141 (IntKind.wrap IntKind.i64 (x129 + 1)) w138)))) →
(k136 w138))) →
(∀ w142 : World, ((w142 = w128.drew) →
(∃ a144 : Addr, ((cost = (some a144)) ∧
((((0 : Int) ≤ x121) ∧
(x121 < ((cost_n : Nat) : Int))) ∧
(∃ o145 : Option Addr, (∃ n146 : Nat, (∃ n147 : Nat, (((w142.cell? (Addr.add a144 ((x121).toNat * 1))) = (some (Value.slice o145 n146 n147))) ∧
(∃ a148 : Addr, ((o145 = (some a148)) ∧
((((0 : Int) ≤ x129) ∧
(x129 < ((n146 : Nat) : Int))) ∧
(∃ x149 : Int, (((w142.cell? (Addr.add a148 ((x129).toNat * 1))) = (some (Value.int IntKind.i64 x149))) ∧
(Calls Tryd.prog 33 #[] w142 (fun (e150 : Ending) => (fun (w151 : World) => (∃ x152 : Int, ((e150 = (Ending.returned (Value.int IntKind.i64 x152))) ∧
((Nf.Kept w142 w151 (Addr.add a148 ((x129).toNat * 1)) 1) ∧
((Nf.Kept w142 w151 (Addr.add a144 ((x121).toNat * 1)) 1) ∧
((((decide (x149 = x152)) = true) →
(k136 w151)) ∧
(((decide (x149 = x152)) = false) →
(∀ w155 : World, ((w155 = w151.drew) →
(∃ o157 : Option Addr, (∃ n158 : Nat, (∃ n159 : Nat, (((w155.cell? (⟨(hs w), 0, none⟩ : Addr)) = (some (Value.slice o157 n158 n159))) ∧
(∃ a160 : Addr, ((o157 = (some a160)) ∧
((((0 : Int) ≤ x121) ∧
(x121 < ((n158 : Nat) : Int))) ∧
(∃ x161 : Int, (((w155.cell? (Addr.add a160 ((x121).toNat * 1))) = (some (Value.int IntKind.i64 x161))) ∧
(∃ o162 : Option Addr, (∃ n163 : Nat, (∃ n164 : Nat, (((w155.cell? (⟨(hs w), 1, none⟩ : Addr)) = (some (Value.slice o162 n163 n164))) ∧
(∃ a165 : Addr, ((o162 = (some a165)) ∧
((((0 : Int) ≤ x129) ∧
(x129 < ((n163 : Nat) : Int))) ∧
(∃ x166 : Int, (((w155.cell? (Addr.add a165 ((x129).toNat * 1))) = (some (Value.int IntKind.i64 x166))) ∧
(∃ a167 : Addr, ((cost = (some a167)) ∧
((((0 : Int) ≤ x121) ∧
(x121 < ((cost_n : Nat) : Int))) ∧
(∃ o168 : Option Addr, (∃ n169 : Nat, (∃ n170 : Nat, (((w155.cell? (Addr.add a167 ((x121).toNat * 1))) = (some (Value.slice o168 n169 n170))) ∧
(∃ a171 : Addr, ((o168 = (some a171)) ∧
((((0 : Int) ≤ x129) ∧
(x129 < ((n169 : Nat) : Int))) ∧
(∃ x172 : Int, (((w155.cell? (Addr.add a171 ((x129).toNat * 1))) = (some (Value.int IntKind.i64 x172))) ∧
((((decide (x172 < (IntKind.wrap IntKind.i64 (x161 + x166)))) = true) →
(R (Ending.returned (Value.bool false)) w155)) ∧
(((decide (x172 < (IntKind.wrap IntKind.i64 (x161 + x166)))) = false) →
(∃ a175 : Addr, ((m = (some a175)) ∧
((((0 : Int) ≤ x121) ∧
(x121 < ((m_n : Nat) : Int))) ∧
(∃ x176 : Int, (((w155.cell? (Addr.add a175 ((x121).toNat * 1))) = (some (Value.int IntKind.i64 x176))) ∧
((((decide (x176 = x129)) = true) →
(∃ a178 : Addr, ((cost = (some a178)) ∧
((((0 : Int) ≤ x121) ∧
(x121 < ((cost_n : Nat) : Int))) ∧
(∃ o179 : Option Addr, (∃ n180 : Nat, (∃ n181 : Nat, (((w155.cell? (Addr.add a178 ((x121).toNat * 1))) = (some (Value.slice o179 n180 n181))) ∧
(∃ a182 : Addr, ((o179 = (some a182)) ∧
((((0 : Int) ≤ x129) ∧
(x129 < ((n180 : Nat) : Int))) ∧
(∃ x183 : Int, (((w155.cell? (Addr.add a182 ((x129).toNat * 1))) = (some (Value.int IntKind.i64 x183))) ∧
((((!(decide (x183 = (IntKind.wrap IntKind.i64 (x161 + x166))))) = true) →
(R (Ending.returned (Value.bool false)) w155)) ∧
(((!(decide (x183 = (IntKind.wrap IntKind.i64 (x161 + x166))))) = false) →
(k136 w155)))))))))))))))) ∧
(((decide (x176 = x129)) = false) →
(k136 w155)))))))))))))))))))))))))))))))))))))))))))))))))))))))))))))))))))) ∧
(((decide (x129 < ((n133 : Nat) : Int))) = false) →
(∃ n188 : Nat, ((n188 < n118) ∧
(k116 n188 (IntKind.wrap IntKind.i64 (x121 + 1)) w128)))))))))))))))))))) ∧
(((decide (x121 < ((cost_n : Nat) : Int))) = false) →
(∃ o190 : Option Addr, (∃ n191 : Nat, (∃ n192 : Nat, (((w120.cell? (⟨(hs w), 2, none⟩ : Addr)) = (some (Value.slice o190 n191 n192))) ∧
(Calls Tryd.prog 34 #[(Value.slice cost cost_n cost_c), (Value.slice o190 n191 n192), (Value.int IntKind.i64 (IntKind.wrap IntKind.i64 (((cost_n : Nat) : Int) - x5)))] w120 (fun (e193 : Ending) => (fun (w194 : World) => (∃ b195 : Bool, ((e193 = (Ending.returned (Value.bool b195))) ∧
(((b195 = true) →
(R (Ending.returned (Value.bool true)) w194)) ∧
((b195 = false) →
(R (Ending.returned (Value.bool false)) w194)))))))))))))))))))))))))))))))))))))))))))))))))))))))))))))))))))))))))))))))))))))) :
    Calls Tryd.prog 16 #[(.slice cost cost_n cost_c), (.slice m m_n m_c), (.agg #[(.slice p_Rows p_Rows_n p_Rows_c), (.slice p_Columns p_Columns_n p_Columns_c), (.slice p_Short p_Short_n p_Short_c)])] w R :=
  calls_of_vc an16 Tryd.func16 rfl (by kernel_rfl) (by kernel_rfl) (Eq.mp (by kernel_rfl) h)

/-- samaritan/samaritanlaw37.back -/
def an17 : An := (.seq (.reg []) (.seq (.reg []) .nil))
set_option maxRecDepth 100000 in
theorem nf17 (p_RowPrices : Option Addr) (p_RowPrices_n : Nat) (p_RowPrices_c : Nat) (p_ColumnPrices : Option Addr) (p_ColumnPrices_n : Nat) (p_ColumnPrices_c : Nat) (p_HallRows : Option Addr) (p_HallRows_n : Nat) (p_HallRows_c : Nat) (w : World) (R : Ending → World → Prop) (h :
(∀ w1 : World, ((w1 = (w.alloc (Obj.cells #[(Value.slice p_RowPrices p_RowPrices_n p_RowPrices_c), (Value.slice p_ColumnPrices p_ColumnPrices_n p_ColumnPrices_c), (Value.slice p_HallRows p_HallRows_n p_HallRows_c)] 28 (0, 0)))) →
(∀ w3 : World, ((w3 = (w1.alloc (Obj.cells #[(Value.slice none 0 0), (Value.slice none 0 0), (Value.slice none 0 0)] 40 (0, 0)))) →
(∃ o5 : Option Addr, (∃ n6 : Nat, (∃ n7 : Nat, (((w3.cell? (⟨(hs w), 0, none⟩ : Addr)) = (some (Value.slice o5 n6 n7))) ∧
(∃ o8 : Option Addr, (∃ n9 : Nat, (∃ n10 : Nat, (((w3.cell? (⟨(hs w), 1, none⟩ : Addr)) = (some (Value.slice o8 n9 n10))) ∧
(∃ o11 : Option Addr, (∃ n12 : Nat, (∃ n13 : Nat, (((w3.cell? (⟨(hs w), 2, none⟩ : Addr)) = (some (Value.slice o11 n12 n13))) ∧
((Nf.There w3 (⟨(hs w1), 0, none⟩ : Addr) 3) ∧
(∀ w14 : World, ((w14 = (Nf.setCells w3 (⟨(hs w1), 0, none⟩ : Addr) [(Value.slice o5 n6 n7), (Value.slice o8 n9 n10), (Value.slice o11 n12 n13)] 0)) →
(∃ o16 : Option Addr, (∃ n17 : Nat, (∃ n18 : Nat, (((w14.cell? (⟨(hs w1), 0, none⟩ : Addr)) = (some (Value.slice o16 n17 n18))) ∧
(∃ o19 : Option Addr, (∃ n20 : Nat, (∃ n21 : Nat, (((w14.cell? (⟨(hs w1), 1, none⟩ : Addr)) = (some (Value.slice o19 n20 n21))) ∧
(∃ o22 : Option Addr, (∃ n23 : Nat, (∃ n24 : Nat, (((w14.cell? (⟨(hs w1), 2, none⟩ : Addr)) = (some (Value.slice o22 n23 n24))) ∧
(R (Ending.returned (Value.agg #[(Value.slice o16 n17 n18), (Value.slice o19 n20 n21), (Value.slice o22 n23 n24)])) w14))))))))))))))))))))))))))))))))) :
    Calls Tryd.prog 17 #[(.agg #[(.slice p_RowPrices p_RowPrices_n p_RowPrices_c), (.slice p_ColumnPrices p_ColumnPrices_n p_ColumnPrices_c), (.slice p_HallRows p_HallRows_n p_HallRows_c)])] w R :=
  calls_of_vc an17 Tryd.func17 rfl (by kernel_rfl) (by kernel_rfl) (Eq.mp (by kernel_rfl) h)

/-- samaritan/samaritanref37.Few -/
def an18 : An := (.seq (.reg []) (.seq (.reg [(3, 0, true), (8, 0, true), (14, 0, true)]) .nil))
set_option maxRecDepth 100000 in
theorem nf18 (p_Rows : Option Addr) (p_Rows_n : Nat) (p_Rows_c : Nat) (p_Columns : Option Addr) (p_Columns_n : Nat) (p_Columns_c : Nat) (p_Short : Option Addr) (p_Short_n : Nat) (p_Short_c : Nat) (w : World) (R : Ending → World → Prop) (h :
(∀ w1 : World, ((w1 = (w.alloc (Obj.cells #[(Value.slice p_Rows p_Rows_n p_Rows_c), (Value.slice p_Columns p_Columns_n p_Columns_c), (Value.slice p_Short p_Short_n p_Short_c)] 40 (0, 0)))) →
(∃ o3 : Option Addr, (∃ n4 : Nat, (∃ n5 : Nat, (((w1.cell? (⟨(hs w), 0, none⟩ : Addr)) = (some (Value.slice o3 n4 n5))) ∧
((((decide (((n4 : Nat) : Int) ≤ 70)) = true) →
(∃ o7 : Option Addr, (∃ n8 : Nat, (∃ n9 : Nat, (((w1.cell? (⟨(hs w), 1, none⟩ : Addr)) = (some (Value.slice o7 n8 n9))) ∧
((((decide (((n8 : Nat) : Int) ≤ 70)) = true) →
(∃ o11 : Option Addr, (∃ n12 : Nat, (∃ n13 : Nat, (((w1.cell? (⟨(hs w), 2, none⟩ : Addr)) = (some (Value.slice o11 n12 n13))) ∧
((((decide (((n12 : Nat) : Int) ≤ 70)) = true) →
(R (Ending.returned (Value.bool true)) w1)) ∧
(((decide (((n12 : Nat) : Int) ≤ 70)) = false) →
(R (Ending.returned (Value.bool false)) w1)))))))) ∧
(((decide (((n8 : Nat) : Int) ≤ 70)) = false) →
(R (Ending.returned (Value.bool false)) w1)))))))) ∧
(((decide (((n4 : Nat) : Int) ≤ 70)) = false) →
(R (Ending.returned (Value.bool false)) w1)))))))))) :
    Calls Tryd.prog 18 #[(.agg #[(.slice p_Rows p_Rows_n p_Rows_c), (.slice p_Columns p_Columns_n p_Columns_c), (.slice p_Short p_Short_n p_Short_c)])] w R :=
  calls_of_vc an18 Tryd.func18 rfl (by kernel_rfl) (by kernel_rfl) (Eq.mp (by kernel_rfl) h)

/-- samaritan/certificate.Verify -/
def an19 : An := (.seq (.reg []) (.seq (.reg []) (.seq (.seq (.regD [(1, 0, true), (8, 0, true)] [0, 1, 2, 3, 4, 5, 6, 7, 8, 9, 10] [7, 8]) (.cond (.seq (.reg []) .nil) .nil)) (.seq (.reg [(3, 0, true), (11, 0, true)]) .nil))))
set_option maxRecDepth 100000 in
theorem nf19 (cost : Option Addr) (cost_n : Nat) (cost_c : Nat) (m : Option Addr) (m_n : Nat) (m_c : Nat) (p_RowPrices : Option Addr) (p_RowPrices_n : Nat) (p_RowPrices_c : Nat) (p_ColumnPrices : Option Addr) (p_ColumnPrices_n : Nat) (p_ColumnPrices_c : Nat) (p_HallRows : Option Addr) (p_HallRows_n : Nat) (p_HallRows_c : Nat) (w : World) (R : Ending → World → Prop) (h :
(∀ w1 : World, ((w1 = (w.alloc (Obj.cells #[(Value.slice p_RowPrices p_RowPrices_n p_RowPrices_c), (Value.slice p_ColumnPrices p_ColumnPrices_n p_ColumnPrices_c), (Value.slice p_HallRows p_HallRows_n p_HallRows_c)] 28 (0, 0)))) →
(Calls Tryd.prog 27 #[(Value.slice cost cost_n cost_c), (Value.slice m m_n m_c)] w1 (fun (e3 : Ending) => (fun (w4 : World) => (∃ x5 : Int, (∃ x6 : Int, (∃ x7 : Int, ((e3 = (Ending.returned (Value.tuple #[(Value.int IntKind.i64 x5), (Value.int IntKind.i64 x6), (Value.int IntKind.i64 x7)]))) ∧
(∀ w8 : World, ((w8 = w4.drew) →
((((!(decide (x7 = 0))) = true) →
(R (Ending.returned (Value.bool false)) w8)) ∧
(((!(decide (x7 = 0))) = false) →
(∃ o12 : Option Addr, (∃ n13 : Nat, (∃ n14 : Nat, (((w8.cell? (⟨(hs w), 0, none⟩ : Addr)) = (some (Value.slice o12 n13 n14))) ∧
(∃ o15 : Option Addr, (∃ n16 : Nat, (∃ n17 : Nat, (((w8.cell? (⟨(hs w), 1, none⟩ : Addr)) = (some (Value.slice o15 n16 n17))) ∧
(∃ o18 : Option Addr, (∃ n19 : Nat, (∃ n20 : Nat, (((w8.cell? (⟨(hs w), 2, none⟩ : Addr)) = (some (Value.slice o18 n19 n20))) ∧
(Calls Tryd.prog 36 #[(Value.slice cost cost_n cost_c)] w8 (fun (e21 : Ending) => (fun (w22 : World) => (∃ x23 : Int, ((e21 = (Ending.returned (Value.int IntKind.i64 x23))) ∧
((Nf.Kept w8 w22 (⟨(hs w), 0, none⟩ : Addr) 3) ∧
(Calls Tryd.prog 35 #[(Value.agg #[(Value.slice o12 n13 n14), (Value.slice o15 n16 n17), (Value.slice o18 n19 n20)]), (Value.int IntKind.i64 ((cost_n : Nat) : Int)), (Value.int IntKind.i64 x23)] w22 (fun (e24 : Ending) => (fun (w25 : World) => (∃ b26 : Bool, ((e24 = (Ending.returned (Value.bool b26))) ∧
(((b26 = true) →
(∃ o28 : Option Addr, (∃ n29 : Nat, (∃ n30 : Nat, (((w25.cell? (⟨(hs w), 0, none⟩ : Addr)) = (some (Value.slice o28 n29 n30))) ∧
(∃ o31 : Option Addr, (∃ n32 : Nat, (∃ n33 : Nat, (((w25.cell? (⟨(hs w), 1, none⟩ : Addr)) = (some (Value.slice o31 n32 n33))) ∧
(∃ o34 : Option Addr, (∃ n35 : Nat, (∃ n36 : Nat, (((w25.cell? (⟨(hs w), 2, none⟩ : Addr)) = (some (Value.slice o34 n35 n36))) ∧
(Calls Tryd.prog 37 #[(Value.slice cost cost_n cost_c), (Value.slice m m_n m_c), (Value.agg #[(Value.slice o28 n29 n30), (Value.slice o31 n32 n33), (Value.slice o34 n35 n36)])] w25 (fun (e37 : Ending) => (fun (w38 : World) => (∃ b39 : Bool, ((e37 = (Ending.returned (Value.bool b39))) ∧
(((b39 = true) →
(∃ o41 : Option Addr, (∃ n42 : Nat, (∃ n43 : Nat, (((w38.cell? (⟨(hs w), 0, none⟩ : Addr)) = (some (Value.slice o41 n42 n43))) ∧
(∃ o44 : Option Addr, (∃ n45 : Nat, (∃ n46 : Nat, (((w38.cell? (⟨(hs w), 1, none⟩ : Addr)) = (some (Value.slice o44 n45 n46))) ∧
(∃ o47 : Option Addr, (∃ n48 : Nat, (∃ n49 : Nat, (((w38.cell? (⟨(hs w), 2, none⟩ : Addr)) = (some (Value.slice o47 n48 n49))) ∧
(Calls Tryd.prog 38 #[(Value.slice cost cost_n cost_c), (Value.int IntKind.i64 (IntKind.wrap IntKind.i64 (((cost_n : Nat) : Int) - x5))), (Value.agg #[(Value.slice o41 n42 n43), (Value.slice o44 n45 n46), (Value.slice o47 n48 n49)])] w38 (fun (e50 : Ending) => (fun (w51 : World) => (∃ b52 : Bool, ((e50 = (Ending.returned (Value.bool b52))) ∧
(((b52 = true) →
(R (Ending.returned (Value.bool true)) w51)) ∧
((b52 = false) →
(R (Ending.returned (Value.bool false)) w51))))))))))))))))))))) ∧
((b39 = false) →
(R (Ending.returned (Value.bool false)) w38))))))))))))))))))))) ∧
((b26 = false) →
(R (Ending.returned (Value.bool false)) w25)))))))))))))))))))))))))))))))))))))))) :
    Calls Tryd.prog 19 #[(.slice cost cost_n cost_c), (.slice m m_n m_c), (.agg #[(.slice p_RowPrices p_RowPrices_n p_RowPrices_c), (.slice p_ColumnPrices p_ColumnPrices_n p_ColumnPrices_c), (.slice p_HallRows p_HallRows_n p_HallRows_c)])] w R :=
  calls_of_vc an19 Tryd.func19 rfl (by kernel_rfl) (by kernel_rfl) (Eq.mp (by kernel_rfl) h)

/-- samaritan/samaritanlaw37.own -/
def an20 : An := (.seq (.reg []) (.seq (.regE [(3, 1, false), (7, 1, false)] (.take 1 (.take 2 (.take 5 (.take 6 (.take 8 (.take 9 (.eff (.alt (.one 0 (.eff (.alt (.one 3 (.eff (.one 4 (.eff (.one 7 (.eff (.one 10 (.take 11 (.eff (.one 12 .nil)))))))))) (.one 4 (.eff (.one 3 (.eff (.one 7 (.eff (.one 10 (.take 11 (.eff (.one 12 .nil))))))))))))) (.one 4 (.eff (.one 0 (.eff (.one 3 (.eff (.one 7 (.eff (.one 10 (.take 11 (.eff (.one 12 .nil)))))))))))))))))))) [0, 3, 4, 7, 10, 12]) .nil))
set_option maxRecDepth 100000 in
theorem nf20 (p_Rows : Option Addr) (p_Rows_n : Nat) (p_Rows_c : Nat) (p_Columns : Option Addr) (p_Columns_n : Nat) (p_Columns_c : Nat) (p_Short : Option Addr) (p_Short_n : Nat) (p_Short_c : Nat) (w : World) (R : Ending → World → Prop) (h :
(∀ w1 : World, ((w1 = (w.alloc (Obj.cells #[(Value.slice p_Rows p_Rows_n p_Rows_c), (Value.slice p_Columns p_Columns_n p_Columns_c), (Value.slice p_Short p_Short_n p_Short_c)] 40 (0, 0)))) →
(∀ w3 : World, ((w3 = (w1.alloc (Obj.cells #[(Value.slice none 0 0), (Value.slice none 0 0), (Value.slice none 0 0)] 28 (0, 0)))) →
(∀ w5 : World, ((w5 = w3.drew) →
(∃ o7 : Option Addr, (∃ n8 : Nat, (∃ n9 : Nat, (((w5.cell? (⟨(hs w), 0, none⟩ : Addr)) = (some (Value.slice o7 n8 n9))) ∧
(∃ o10 : Option Addr, (∃ n11 : Nat, (∃ n12 : Nat, (((w5.cell? (⟨(hs w), 1, none⟩ : Addr)) = (some (Value.slice o10 n11 n12))) ∧
(∃ o13 : Option Addr, (∃ n14 : Nat, (∃ n15 : Nat, (((w5.cell? (⟨(hs w), 2, none⟩ : Addr)) = (some (Value.slice o13 n14 n15))) ∧
((∀ w16 : World, ((w16 = (w5.alloc (Obj.cells #[] 2 (0, 0)))) →
((Nf.Kept w5 w16 (⟨(hs w), 2, none⟩ : Addr) 1) ∧
((Nf.Kept w5 w16 (⟨(hs w), 1, none⟩ : Addr) 1) ∧
((Nf.Kept w5 w16 (⟨(hs w), 0, none⟩ : Addr) 1) ∧
((RunOk Tryd.prog (Nf.Hold (Builtin.append_ #[26, 26] 26 #[(Value.slice (some (⟨(hs w5), 0, none⟩ : Addr)) 0 0), (Value.slice o7 n8 n9)])) w16 (fun (v18 : Value) => (fun (w19 : World) => (∃ o20 : Option Addr, (∃ n21 : Nat, (∃ n22 : Nat, ((v18 = (Value.slice o20 n21 n22)) ∧
((Nf.Kept w5 w19 (⟨(hs w), 2, none⟩ : Addr) 1) ∧
((Nf.Kept w5 w19 (⟨(hs w), 1, none⟩ : Addr) 1) ∧
(∀ w23 : World, ((w23 = (w19.alloc (Obj.cells #[] 2 (0, 0)))) →
((Nf.Kept w5 w23 (⟨(hs w), 2, none⟩ : Addr) 1) ∧
((Nf.Kept w5 w23 (⟨(hs w), 1, none⟩ : Addr) 1) ∧
(RunOk Tryd.prog (Nf.Hold (Builtin.append_ #[26, 26] 26 #[(Value.slice (some (⟨(hs w19), 0, none⟩ : Addr)) 0 0), (Value.slice o10 n11 n12)])) w23 (fun (v25 : Value) => (fun (w26 : World) => (∃ o27 : Option Addr, (∃ n28 : Nat, (∃ n29 : Nat, ((v25 = (Value.slice o27 n28 n29)) ∧
((Nf.Kept w5 w26 (⟨(hs w), 2, none⟩ : Addr) 1) ∧
(Calls Tryd.prog 13 #[(Value.slice o13 n14 n15)] w26 (fun (e30 : Ending) => (fun (w31 : World) => (∃ o32 : Option Addr, (∃ n33 : Nat, (∃ n34 : Nat, ((e30 = (Ending.returned (Value.slice o32 n33 n34))) ∧
((Nf.There w31 (⟨(hs w1), 0, none⟩ : Addr) 3) ∧
(∀ w35 : World, ((w35 = (Nf.setCells w31 (⟨(hs w1), 0, none⟩ : Addr) [(Value.slice o20 n21 n22), (Value.slice o27 n28 n29), (Value.slice o32 n33 n34)] 0)) →
(∃ o37 : Option Addr, (∃ n38 : Nat, (∃ n39 : Nat, (((w35.cell? (⟨(hs w1), 0, none⟩ : Addr)) = (some (Value.slice o37 n38 n39))) ∧
(∃ o40 : Option Addr, (∃ n41 : Nat, (∃ n42 : Nat, (((w35.cell? (⟨(hs w1), 1, none⟩ : Addr)) = (some (Value.slice o40 n41 n42))) ∧
(∃ o43 : Option Addr, (∃ n44 : Nat, (∃ n45 : Nat, (((w35.cell? (⟨(hs w1), 2, none⟩ : Addr)) = (some (Value.slice o43 n44 n45))) ∧
(R (Ending.returned (Value.agg #[(Value.slice o37 n38 n39), (Value.slice o40 n41 n42), (Value.slice o43 n44 n45)])) w35)))))))))))))))))))))))))))))))))))))))))))) ∧
(∀ w46 : World, ((w46 = (w16.alloc (Obj.cells #[] 2 (0, 0)))) →
((Nf.Kept w5 w46 (⟨(hs w), 2, none⟩ : Addr) 1) ∧
((Nf.Kept w5 w46 (⟨(hs w), 1, none⟩ : Addr) 1) ∧
((Nf.Kept w5 w46 (⟨(hs w), 0, none⟩ : Addr) 1) ∧
(RunOk Tryd.prog (Nf.Hold (Builtin.append_ #[26, 26] 26 #[(Value.slice (some (⟨(hs w5), 0, none⟩ : Addr)) 0 0), (Value.slice o7 n8 n9)])) w46 (fun (v48 : Value) => (fun (w49 : World) => (∃ o50 : Option Addr, (∃ n51 : Nat, (∃ n52 : Nat, ((v48 = (Value.slice o50 n51 n52)) ∧
((Nf.Kept w5 w49 (⟨(hs w), 2, none⟩ : Addr) 1) ∧
((Nf.Kept w5 w49 (⟨(hs w), 1, none⟩ : Addr) 1) ∧
(RunOk Tryd.prog (Nf.Hold (Builtin.append_ #[26, 26] 26 #[(Value.slice (some (⟨(hs w16), 0, none⟩ : Addr)) 0 0), (Value.slice o10 n11 n12)])) w49 (fun (v53 : Value) => (fun (w54 : World) => (∃ o55 : Option Addr, (∃ n56 : Nat, (∃ n57 : Nat, ((v53 = (Value.slice o55 n56 n57)) ∧
((Nf.Kept w5 w54 (⟨(hs w), 2, none⟩ : Addr) 1) ∧
(Calls Tryd.prog 13 #[(Value.slice o13 n14 n15)] w54 (fun (e58 : Ending) => (fun (w59 : World) => (∃ o60 : Option Addr, (∃ n61 : Nat, (∃ n62 : Nat, ((e58 = (Ending.returned (Value.slice o60 n61 n62))) ∧
((Nf.There w59 (⟨(hs w1), 0, none⟩ : Addr) 3) ∧
(∀ w63 : World, ((w63 = (Nf.setCells w59 (⟨(hs w1), 0, none⟩ : Addr) [(Value.slice o50 n51 n52), (Value.slice o55 n56 n57), (Value.slice o60 n61 n62)] 0)) →
(∃ o65 : Option Addr, (∃ n66 : Nat, (∃ n67 : Nat, (((w63.cell? (⟨(hs w1), 0, none⟩ : Addr)) = (some (Value.slice o65 n66 n67))) ∧
(∃ o68 : Option Addr, (∃ n69 : Nat, (∃ n70 : Nat, (((w63.cell? (⟨(hs w1), 1, none⟩ : Addr)) = (some (Value.slice o68 n69 n70))) ∧
(∃ o71 : Option Addr, (∃ n72 : Nat, (∃ n73 : Nat, (((w63.cell? (⟨(hs w1), 2, none⟩ : Addr)) = (some (Value.slice o71 n72 n73))) ∧
(R (Ending.returned (Value.agg #[(Value.slice o65 n66 n67), (Value.slice o68 n69 n70), (Value.slice o71 n72 n73)])) w63))))))))))))))))))))))))))))))))))))))))))))))))))) ∧
(∀ w74 : World, ((w74 = (w5.alloc (Obj.cells #[] 2 (0, 0)))) →
((Nf.Kept w5 w74 (⟨(hs w), 2, none⟩ : Addr) 1) ∧
((Nf.Kept w5 w74 (⟨(hs w), 1, none⟩ : Addr) 1) ∧
((Nf.Kept w5 w74 (⟨(hs w), 0, none⟩ : Addr) 1) ∧
(∀ w76 : World, ((w76 = (w74.alloc (Obj.cells #[] 2 (0, 0)))) →
((Nf.Kept w5 w76 (⟨(hs w), 2, none⟩ : Addr) 1) ∧
((Nf.Kept w5 w76 (⟨(hs w), 1, none⟩ : Addr) 1) ∧
((Nf.Kept w5 w76 (⟨(hs w), 0, none⟩ : Addr) 1) ∧
(RunOk Tryd.prog (Nf.Hold (Builtin.append_ #[26, 26] 26 #[(Value.slice (some (⟨(hs w74), 0, none⟩ : Addr)) 0 0), (Value.slice o7 n8 n9)])) w76 (fun (v78 : Value) => (fun (w79 : World) => (∃ o80 : Option Addr, (∃ n81 : Nat, (∃ n82 : Nat, ((v78 = (Value.slice o80 n81 n82)) ∧
((Nf.Kept w5 w79 (⟨(hs w), 2, none⟩ : Addr) 1) ∧
((Nf.Kept w5 w79 (⟨(hs w), 1, none⟩ : Addr) 1) ∧
(RunOk Tryd.prog (Nf.Hold (Builtin.append_ #[26, 26] 26 #[(Value.slice (some (⟨(hs w5), 0, none⟩ : Addr)) 0 0), (Value.slice o10 n11 n12)])) w79 (fun (v83 : Value) => (fun (w84 : World) => (∃ o85 : Option Addr, (∃ n86 : Nat, (∃ n87 : Nat, ((v83 = (Value.slice o85 n86 n87)) ∧
((Nf.Kept w5 w84 (⟨(hs w), 2, none⟩ : Addr) 1) ∧
(Calls Tryd.prog 13 #[(Value.slice o13 n14 n15)] w84 (fun (e88 : Ending) => (fun (w89 : World) => (∃ o90 : Option Addr, (∃ n91 : Nat, (∃ n92 : Nat, ((e88 = (Ending.returned (Value.slice o90 n91 n92))) ∧
((Nf.There w89 (⟨(hs w1), 0, none⟩ : Addr) 3) ∧
(∀ w93 : World, ((w93 = (Nf.setCells w89 (⟨(hs w1), 0, none⟩ : Addr) [(Value.slice o80 n81 n82), (Value.slice o85 n86 n87), (Value.slice o90 n91 n92)] 0)) →
(∃ o95 : Option Addr, (∃ n96 : Nat, (∃ n97 : Nat, (((w93.cell? (⟨(hs w1), 0, none⟩ : Addr)) = (some (Value.slice o95 n96 n97))) ∧
(∃ o98 : Option Addr, (∃ n99 : Nat, (∃ n100 : Nat, (((w93.cell? (⟨(hs w1), 1, none⟩ : Addr)) = (some (Value.slice o98 n99 n100))) ∧
(∃ o101 : Option Addr, (∃ n102 : Nat, (∃ n103 : Nat, (((w93.cell? (⟨(hs w1), 2, none⟩ : Addr)) = (some (Value.slice o101 n102 n103))) ∧
(R (Ending.returned (Value.agg #[(Value.slice o95 n96 n97), (Value.slice o98 n99 n100), (Value.slice o101 n102 n103)])) w93)))))))))))))))))))))))))))))))))))))))))))))))))))))))))))))))))))))) :
    Calls Tryd.prog 20 #[(.agg #[(.slice p_Rows p_Rows_n p_Rows_c), (.slice p_Columns p_Columns_n p_Columns_c), (.slice p_Short p_Short_n p_Short_c)])] w R :=
  calls_of_vc an20 Tryd.func20 rfl (by kernel_rfl) (by kernel_rfl) (Eq.mp (by kernel_rfl) h)

/-- samaritan/certificate.Certify -/
def an11 : An := (.seq (.reg []) (.seq (.reg []) (.seq (.seq (.reg [(1, 0, true)]) (.cond (.seq (.reg []) .nil) .nil)) (.seq (.reg []) (.seq (.seq (.reg [(1, 0, true)]) (.cond (.seq (.reg []) .nil) .nil)) (.seq (.reg []) (.seq (.seq (.reg [(1, 0, true), (5, 0, true), (10, 0, true)]) (.cond (.seq (.reg []) .nil) .nil)) (.seq (.reg [(6, 0, true)]) (.seq (.seq (.reg []) (.cond (.seq (.reg []) .nil) .nil)) (.seq (.reg []) .nil))))))))))
set_option maxRecDepth 100000 in
theorem nf11 (cost : Option Addr) (cost_n : Nat) (cost_c : Nat) (m : Option Addr) (m_n : Nat) (m_c : Nat) (w : World) (R : Ending → World → Prop) (h :
(∀ w1 : World, ((w1 = (w.alloc (Obj.cells #[(Value.slice none 0 0), (Value.slice none 0 0), (Value.slice none 0 0)] 28 (0, 0)))) →
(Calls Tryd.prog 27 #[(Value.slice cost cost_n cost_c), (Value.slice m m_n m_c)] w1 (fun (e3 : Ending) => (fun (w4 : World) => (∃ x5 : Int, (∃ x6 : Int, (∃ x7 : Int, ((e3 = (Ending.returned (Value.tuple #[(Value.int IntKind.i64 x5), (Value.int IntKind.i64 x6), (Value.int IntKind.i64 x7)]))) ∧
((((!(decide (x7 = 0))) = true) →
((Nf.There w4 (⟨(hs w), 0, none⟩ : Addr) 3) ∧
(∀ w9 : World, ((w9 = (Nf.setCells w4 (⟨(hs w), 0, none⟩ : Addr) [(Value.slice none 0 0), (Value.slice none 0 0), (Value.slice none 0 0)] 0)) →
(∃ o11 : Option Addr, (∃ n12 : Nat, (∃ n13 : Nat, (((w9.cell? (⟨(hs w), 0, none⟩ : Addr)) = (some (Value.slice o11 n12 n13))) ∧
(∃ o14 : Option Addr, (∃ n15 : Nat, (∃ n16 : Nat, (((w9.cell? (⟨(hs w), 1, none⟩ : Addr)) = (some (Value.slice o14 n15 n16))) ∧
(∃ o17 : Option Addr, (∃ n18 : Nat, (∃ n19 : Nat, (((w9.cell? (⟨(hs w), 2, none⟩ : Addr)) = (some (Value.slice o17 n18 n19))) ∧
(R (Ending.returned (Value.tuple #[(Value.agg #[(Value.slice o11 n12 n13), (Value.slice o14 n15 n16), (Value.slice o17 n18 n19)]), (Value.int IntKind.i64 x7)])) w9))))))))))))))))) ∧
(((!(decide (x7 = 0))) = false) →
(Calls Tryd.prog 21 #[(Value.slice cost cost_n cost_c)] w4 (fun (e21 : Ending) => (fun (w22 : World) => (∃ o23 : Option Addr, (∃ n24 : Nat, (∃ n25 : Nat, (∃ x26 : Int, (∃ x27 : Int, ((e21 = (Ending.returned (Value.tuple #[(Value.slice o23 n24 n25), (Value.int IntKind.i64 x26), (Value.int IntKind.i64 x27)]))) ∧
((((!(decide (x27 = 0))) = true) →
((Nf.There w22 (⟨(hs w), 0, none⟩ : Addr) 3) ∧
(∀ w29 : World, ((w29 = (Nf.setCells w22 (⟨(hs w), 0, none⟩ : Addr) [(Value.slice none 0 0), (Value.slice none 0 0), (Value.slice none 0 0)] 0)) →
(∃ o31 : Option Addr, (∃ n32 : Nat, (∃ n33 : Nat, (((w29.cell? (⟨(hs w), 0, none⟩ : Addr)) = (some (Value.slice o31 n32 n33))) ∧
(∃ o34 : Option Addr, (∃ n35 : Nat, (∃ n36 : Nat, (((w29.cell? (⟨(hs w), 1, none⟩ : Addr)) = (some (Value.slice o34 n35 n36))) ∧
(∃ o37 : Option Addr, (∃ n38 : Nat, (∃ n39 : Nat, (((w29.cell? (⟨(hs w), 2, none⟩ : Addr)) = (some (Value.slice o37 n38 n39))) ∧
(R (Ending.returned (Value.tuple #[(Value.agg #[(Value.slice o31 n32 n33), (Value.slice o34 n35 n36), (Value.slice o37 n38 n39)]), (Value.int IntKind.i64 x27)])) w29))))))))))))))))) ∧
(((!(decide (x27 = 0))) = false) →
(Calls Tryd.prog 27 #[(Value.slice cost cost_n cost_c), (Value.slice o23 n24 n25)] w22 (fun (e41 : Ending) => (fun (w42 : World) => (∃ x43 : Int, (∃ x44 : Int, (∃ x45 : Int, ((e41 = (Ending.returned (Value.tuple #[(Value.int IntKind.i64 x43), (Value.int IntKind.i64 x44), (Value.int IntKind.i64 x45)]))) ∧
((((!(decide (x45 = 0))) = true) →
((Nf.There w42 (⟨(hs w), 0, none⟩ : Addr) 3) ∧
(∀ w47 : World, ((w47 = (Nf.setCells w42 (⟨(hs w), 0, none⟩ : Addr) [(Value.slice none 0 0), (Value.slice none 0 0), (Value.slice none 0 0)] 0)) →
(∃ o49 : Option Addr, (∃ n50 : Nat, (∃ n51 : Nat, (((w47.cell? (⟨(hs w), 0, none⟩ : Addr)) = (some (Value.slice o49 n50 n51))) ∧
(∃ o52 : Option Addr, (∃ n53 : Nat, (∃ n54 : Nat, (((w47.cell? (⟨(hs w), 1, none⟩ : Addr)) = (some (Value.slice o52 n53 n54))) ∧
(∃ o55 : Option Addr, (∃ n56 : Nat, (∃ n57 : Nat, (((w47.cell? (⟨(hs w), 2, none⟩ : Addr)) = (some (Value.slice o55 n56 n57))) ∧
(R (Ending.returned (Value.tuple #[(Value.agg #[(Value.slice o49 n50 n51), (Value.slice o52 n53 n54), (Value.slice o55 n56 n57)]), (Value.int IntKind.i64 14)])) w47))))))))))))))))) ∧
(((!(decide (x45 = 0))) = false) →
((((!(decide (x5 = x43))) = true) →
((Nf.There w42 (⟨(hs w), 0, none⟩ : Addr) 3) ∧
(∀ w60 : World, ((w60 = (Nf.setCells w42 (⟨(hs w), 0, none⟩ : Addr) [(Value.slice none 0 0), (Value.slice none 0 0), (Value.slice none 0 0)] 0)) →
(∃ o62 : Option Addr, (∃ n63 : Nat, (∃ n64 : Nat, (((w60.cell? (⟨(hs w), 0, none⟩ : Addr)) = (some (Value.slice o62 n63 n64))) ∧
(∃ o65 : Option Addr, (∃ n66 : Nat, (∃ n67 : Nat, (((w60.cell? (⟨(hs w), 1, none⟩ : Addr)) = (some (Value.slice o65 n66 n67))) ∧
(∃ o68 : Option Addr, (∃ n69 : Nat, (∃ n70 : Nat, (((w60.cell? (⟨(hs w), 2, none⟩ : Addr)) = (some (Value.slice o68 n69 n70))) ∧
(R (Ending.returned (Value.tuple #[(Value.agg #[(Value.slice o62 n63 n64), (Value.slice o65 n66 n67), (Value.slice o68 n69 n70)]), (Value.int IntKind.i64 14)])) w60))))))))))))))))) ∧
(((!(decide (x5 = x43))) = false) →
((((!(decide (x6 = x26))) = true) →
((Nf.There w42 (⟨(hs w), 0, none⟩ : Addr) 3) ∧
(∀ w73 : World, ((w73 = (Nf.setCells w42 (⟨(hs w), 0, none⟩ : Addr) [(Value.slice none 0 0), (Value.slice none 0 0), (Value.slice none 0 0)] 0)) →
(∃ o75 : Option Addr, (∃ n76 : Nat, (∃ n77 : Nat, (((w73.cell? (⟨(hs w), 0, none⟩ : Addr)) = (some (Value.slice o75 n76 n77))) ∧
(∃ o78 : Option Addr, (∃ n79 : Nat, (∃ n80 : Nat, (((w73.cell? (⟨(hs w), 1, none⟩ : Addr)) = (some (Value.slice o78 n79 n80))) ∧
(∃ o81 : Option Addr, (∃ n82 : Nat, (∃ n83 : Nat, (((w73.cell? (⟨(hs w), 2, none⟩ : Addr)) = (some (Value.slice o81 n82 n83))) ∧
(R (Ending.returned (Value.tuple #[(Value.agg #[(Value.slice o75 n76 n77), (Value.slice o78 n79 n80), (Value.slice o81 n82 n83)]), (Value.int IntKind.i64 14)])) w73))))))))))))))))) ∧
(((!(decide (x6 = x26))) = false) →
(Calls Tryd.prog 28 #[(Value.slice cost cost_n cost_c), (Value.slice m m_n m_c)] w42 (fun (e85 : Ending) => (fun (w86 : World) => (∃ o87 : Option Addr, (∃ n88 : Nat, (∃ n89 : Nat, (∃ o90 : Option Addr, (∃ n91 : Nat, (∃ n92 : Nat, (∃ b93 : Bool, ((e85 = (Ending.returned (Value.tuple #[(Value.slice o87 n88 n89), (Value.slice o90 n91 n92), (Value.bool b93)]))) ∧
(((b93 = true) →
(Calls Tryd.prog 29 #[(Value.slice cost cost_n cost_c), (Value.slice m m_n m_c)] w86 (fun (e95 : Ending) => (fun (w96 : World) => (∃ o97 : Option Addr, (∃ n98 : Nat, (∃ n99 : Nat, ((e95 = (Ending.returned (Value.slice o97 n98 n99))) ∧
((Nf.There w96 (⟨(hs w), 0, none⟩ : Addr) 3) ∧
(∀ w100 : World, ((w100 = (Nf.setCells w96 (⟨(hs w), 0, none⟩ : Addr) [(Value.slice o87 n88 n89), (Value.slice o90 n91 n92), (Value.slice o97 n98 n99)] 0)) →
(∃ o102 : Option Addr, (∃ n103 : Nat, (∃ n104 : Nat, (((w100.cell? (⟨(hs w), 0, none⟩ : Addr)) = (some (Value.slice o102 n103 n104))) ∧
(∃ o105 : Option Addr, (∃ n106 : Nat, (∃ n107 : Nat, (((w100.cell? (⟨(hs w), 1, none⟩ : Addr)) = (some (Value.slice o105 n106 n107))) ∧
(∃ o108 : Option Addr, (∃ n109 : Nat, (∃ n110 : Nat, (((w100.cell? (⟨(hs w), 2, none⟩ : Addr)) = (some (Value.slice o108 n109 n110))) ∧
(R (Ending.returned (Value.tuple #[(Value.agg #[(Value.slice o102 n103 n104), (Value.slice o105 n106 n107), (Value.slice o108 n109 n110)]), (Value.int IntKind.i64 0)])) w100)))))))))))))))))))))))) ∧
((b93 = false) →
((Nf.There w86 (⟨(hs w), 0, none⟩ : Addr) 3) ∧
(∀ w112 : World, ((w112 = (Nf.setCells w86 (⟨(hs w), 0, none⟩ : Addr) [(Value.slice none 0 0), (Value.slice none 0 0), (Value.slice none 0 0)] 0)) →
(∃ o114 : Option Addr, (∃ n115 : Nat, (∃ n116 : Nat, (((w112.cell? (⟨(hs w), 0, none⟩ : Addr)) = (some (Value.slice o114 n115 n116))) ∧
(∃ o117 : Option Addr, (∃ n118 : Nat, (∃ n119 : Nat, (((w112.cell? (⟨(hs w), 1, none⟩ : Addr)) = (some (Value.slice o117 n118 n119))) ∧
(∃ o120 : Option Addr, (∃ n121 : Nat, (∃ n122 : Nat, (((w112.cell? (⟨(hs w), 2, none⟩ : Addr)) = (some (Value.slice o120 n121 n122))) ∧
(R (Ending.returned (Value.tuple #[(Value.agg #[(Value.slice o114 n115 n116), (Value.slice o117 n118 n119), (Value.slice o120 n121 n122)]), (Value.int IntKind.i64 14)])) w112))))))))))))))))))))))))))))))))))))))))))))))))))))))))))))))))) :
    Calls Tryd.prog 11 #[(.slice cost cost_n cost_c), (.slice m m_n m_c)] w R :=
  calls_of_vc an11 Tryd.func11 rfl (by kernel_rfl) (by kernel_rfl) (Eq.mp (by kernel_rfl) h)

/-- samaritan/certificate.prices -/
def an28 : An := (.seq (.reg []) (.seq (.regE [(2, 1, false), (5, 1, false)] (.take 0 (.take 1 (.take 3 (.eff (.alt (.one 2 (.eff (.one 4 (.take 6 (.eff (.one 5 (.take 7 .nil))))))) (.one 4 (.eff (.alt (.one 2 (.take 6 (.eff (.one 5 (.take 7 .nil))))) (.one 5 (.eff (.one 2 (.take 6 (.take 7 .nil))))))))))))) [2, 4, 5]) (.seq (.reg []) (.seq (.seq (.reg []) (.blk (.loop [(27, .int .i64)] (.seq (.reg [(0, 0, true)]) (.seq (.cond .nil .nil) (.cut [] (.blk (.seq (.reg []) (.seq (.reg []) (.seq (.reg [(1, 0, true)]) (.cond (.reg []) .nil))))) (.reg []))))))) (.seq (.seq (.reg []) (.blk (.loop [(54, .int .i64)] (.seq (.reg [(0, 0, true)]) (.seq (.cond .nil .nil) (.seq (.blk (.seq (.reg []) (.seq (.seq (.reg []) (.blk (.loop [(12, .bool), (58, .int .i64)] (.seq (.reg [(0, 0, true)]) (.seq (.cond .nil .nil) (.seq (.blk (.seq (.reg []) (.seq (.reg []) (.blk (.loop [(12, .bool), (63, .int .i64)] (.seq (.reg [(0, 0, true)]) (.seq (.cond .nil .nil) (.cut [(12, .bool)] (.blk (.seq (.reg []) (.seq (.seq (.regD [(7, 0, true), (25, 0, true)] [0, 1, 2, 3, 4, 5, 6, 7, 8, 9, 10, 11, 12, 13, 14, 15, 16, 17, 18, 19, 20, 21, 22, 23, 24, 25, 26] []) (.cond .nil .nil)) (.seq (.seq (.reg [(4, 0, true)]) (.cond (.seq (.reg []) .nil) .nil)) (.seq (.regD [] [0, 1, 2, 3, 4, 5, 6, 7, 8, 9, 10, 11, 12, 13, 14, 15] [15]) (.seq (.regD [] [0, 1, 2, 3, 4, 5, 6, 7, 8, 9, 10, 11, 12, 13, 14, 15, 16, 17, 18, 19, 20, 21] [21]) (.reg []))))))) (.reg []))))))))) (.reg []))))))) (.seq (.reg [(0, 0, true)]) (.cond (.seq (.reg []) .nil) .nil))))) (.reg []))))))) (.seq (.reg []) .nil))))))
set_option maxRecDepth 100000 in
theorem nf28 (cost : Option Addr) (cost_n : Nat) (cost_c : Nat) (m : Option Addr) (m_n : Nat) (m_c : Nat) (w : World) (R : Ending → World → Prop) (h :
(∀ w1 : World, ((w1 = w.drew) →
((RunOk Tryd.prog (Nf.Hold (Instr.makeSlice 26 (Value.int IntKind.i64 ((cost_n : Nat) : Int)) (Value.int IntKind.i64 ((cost_n : Nat) : Int)))) w1 (fun (v3 : Value) => (fun (w4 : World) => (∃ o5 : Option Addr, (∃ n6 : Nat, (∃ n7 : Nat, ((v3 = (Value.slice o5 n6 n7)) ∧
(Calls Tryd.prog 36 #[(Value.slice cost cost_n cost_c)] w4 (fun (e8 : Ending) => (fun (w9 : World) => (∃ x10 : Int, ((e8 = (Ending.returned (Value.int IntKind.i64 x10))) ∧
(RunOk Tryd.prog (Nf.Hold (Instr.makeSlice 26 (Value.int IntKind.i64 x10) (Value.int IntKind.i64 x10))) w9 (fun (v11 : Value) => (fun (w12 : World) => (∃ o13 : Option Addr, (∃ n14 : Nat, (∃ n15 : Nat, ((v11 = (Value.slice o13 n14 n15)) ∧
(Calls Tryd.prog 46 #[(Value.int IntKind.i64 ((n14 : Nat) : Int)), (Value.slice m m_n m_c)] w12 (fun (e16 : Ending) => (fun (w17 : World) => (∃ o18 : Option Addr, (∃ n19 : Nat, (∃ n20 : Nat, ((e16 = (Ending.returned (Value.slice o18 n19 n20))) ∧
(∃ k21 : (Nat → (Int → (World → Prop))), ((∃ n22 : Nat, (k21 n22 0 w17)) ∧
(∀ n23 : Nat, ((Nat → Value) →
(∀ w25 : World, (∀ x26 : Int, ((k21 n23 x26 w25) →
((((decide (x26 < ((m_n : Nat) : Int))) = true) →
(∀ k29 : (World → Prop), ((∀ w31 : World, (((Nat → Value) →
(∃ n34 : Nat, ((n34 < n23) ∧
(k21 n34 (IntKind.wrap IntKind.i64 (x26 + 1)) w31)))) →
(k29 w31))) →
(∃ a35 : Addr, ((m = (some a35)) ∧
((((0 : Int) ≤ x26) ∧
(x26 < ((m_n : Nat) : Int))) ∧
(∃ x36 : Int, (((w25.cell? (Addr.add a35 ((x26).toNat * 1))) = (some (Value.int IntKind.i64 x36))) ∧
(∃ a37 : Addr, ((o5 = (some a37)) ∧
((((0 : Int) ≤ x26) ∧
(x26 < ((n6 : Nat) : Int))) ∧
((Nf.There w25 (Addr.add a37 ((x26).toNat * 1)) 1) ∧
(∀ w38 : World, ((w38 = (Nf.setCells w25 (Addr.add a37 ((x26).toNat * 1)) [(Value.int IntKind.i64 1125899906842624)] 0)) →
((((decide (x36 ≥ 0)) = true) →
(∃ a41 : Addr, ((cost = (some a41)) ∧
((((0 : Int) ≤ x26) ∧
(x26 < ((cost_n : Nat) : Int))) ∧
(∃ o42 : Option Addr, (∃ n43 : Nat, (∃ n44 : Nat, (((w38.cell? (Addr.add a41 ((x26).toNat * 1))) = (some (Value.slice o42 n43 n44))) ∧
(∃ a45 : Addr, ((o42 = (some a45)) ∧
((((0 : Int) ≤ x36) ∧
(x36 < ((n43 : Nat) : Int))) ∧
(∃ x46 : Int, (((w38.cell? (Addr.add a45 ((x36).toNat * 1))) = (some (Value.int IntKind.i64 x46))) ∧
(∃ a47 : Addr, ((o5 = (some a47)) ∧
((((0 : Int) ≤ x26) ∧
(x26 < ((n6 : Nat) : Int))) ∧
((Nf.There w38 (Addr.add a47 ((x26).toNat * 1)) 1) ∧
(∀ w48 : World, ((w48 = (Nf.setCells w38 (Addr.add a47 ((x26).toNat * 1)) [(Value.int IntKind.i64 x46)] 0)) →
(k29 w48)))))))))))))))))))) ∧
(((decide (x36 ≥ 0)) = false) →
(k29 w38))))))))))))))))) ∧
(((decide (x26 < ((m_n : Nat) : Int))) = false) →
(∃ k52 : (Nat → (Int → (World → Prop))), ((∃ n53 : Nat, (k52 n53 0 w25)) ∧
(∀ n54 : Nat, ((Nat → Value) →
(∀ w56 : World, (∀ x57 : Int, ((k52 n54 x57 w56) →
((((decide (x57 < (IntKind.wrap IntKind.i64 ((IntKind.wrap IntKind.i64 (((n6 : Nat) : Int) + ((n14 : Nat) : Int))) + 2)))) = true) →
(∃ k60 : (Nat → (Bool → (Int → (World → Prop)))), ((∃ n61 : Nat, (k60 n61 false 0 w56)) ∧
(∀ n62 : Nat, ((Nat → Value) →
(∀ w64 : World, (∀ b65 : Bool, (∀ x66 : Int, ((k60 n62 b65 x66 w64) →
((((decide (x66 < ((n6 : Nat) : Int))) = true) →
(∃ k69 : (Nat → (Bool → (Int → (World → Prop)))), ((∃ n70 : Nat, (k69 n70 b65 0 w64)) ∧
(∀ n71 : Nat, ((Nat → Value) →
(∀ w73 : World, (∀ b74 : Bool, (∀ x75 : Int, ((k69 n71 b74 x75 w73) →
((((decide (x75 < ((n14 : Nat) : Int))) = true) →
(∀ k78 : (Bool → (World → Prop)), ((∀ w80 : World, (∀ b81 : Bool, (((Nat → Value) →
(∃ n84 : Nat, ((n84 < n71) ∧
(k69 n84 b81 (IntKind.wrap IntKind.i64 (x75 + 1)) w80)))) →
(k78 b81 w80)))) →
(∀ w85 : World, ((w85 = w73.drew) →
(∃ a87 : Addr, ((cost = (some a87)) ∧
((((0 : Int) ≤ x66) ∧
(x66 < ((cost_n : Nat) : Int))) ∧
(∃ o88 : Option Addr, (∃ n89 : Nat, (∃ n90 : Nat, (((w85.cell? (Addr.add a87 ((x66).toNat * 1))) = (some (Value.slice o88 n89 n90))) ∧
(∃ a91 : Addr, ((o88 = (some a91)) ∧
((((0 : Int) ≤ x75) ∧
(x75 < ((n89 : Nat) : Int))) ∧
(∃ x92 : Int, (((w85.cell? (Addr.add a91 ((x75).toNat * 1))) = (some (Value.int IntKind.i64 x92))) ∧
((((decide (x92 = 4611686018427387904)) = true) →
(k78 b74 w85)) ∧
(((decide (x92 = 4611686018427387904)) = false) →
(∃ a95 : Addr, ((o5 = (some a95)) ∧
((((0 : Int) ≤ x66) ∧
(x66 < ((n6 : Nat) : Int))) ∧
(∃ x96 : Int, (((w85.cell? (Addr.add a95 ((x66).toNat * 1))) = (some (Value.int IntKind.i64 x96))) ∧
(∃ a97 : Addr, ((o13 = (some a97)) ∧
((((0 : Int) ≤ x75) ∧
(x75 < ((n14 : Nat) : Int))) ∧
(∃ x98 : Int, (((w85.cell? (Addr.add a97 ((x75).toNat * 1))) = (some (Value.int IntKind.i64 x98))) ∧
(∃ a99 : Addr, ((cost = (some a99)) ∧
((((0 : Int) ≤ x66) ∧
(x66 < ((cost_n : Nat) : Int))) ∧
(∃ o100 : Option Addr, (∃ n101 : Nat, (∃ n102 : Nat, (((w85.cell? (Addr.add a99 ((x66).toNat * 1))) = (some (Value.slice o100 n101 n102))) ∧
(∃ a103 : Addr, ((o100 = (some a103)) ∧
((((0 : Int) ≤ x75) ∧
(x75 < ((n101 : Nat) : Int))) ∧
(∃ x104 : Int, (((w85.cell? (Addr.add a103 ((x75).toNat * 1))) = (some (Value.int IntKind.i64 x104))) ∧
((((decide ((IntKind.wrap IntKind.i64 (x96 + x98)) ≤ x104)) = true) →
(k78 b74 w85)) ∧
(((decide ((IntKind.wrap IntKind.i64 (x96 + x98)) ≤ x104)) = false) →
(∃ a107 : Addr, ((o18 = (some a107)) ∧
((((0 : Int) ≤ x75) ∧
(x75 < ((n19 : Nat) : Int))) ∧
(∃ x108 : Int, (((w85.cell? (Addr.add a107 ((x75).toNat * 1))) = (some (Value.int IntKind.i64 x108))) ∧
((((decide (x108 < 0)) = true) →
(R (Ending.returned (Value.tuple #[(Value.slice none 0 0), (Value.slice none 0 0), (Value.bool false)])) w85)) ∧
(((decide (x108 < 0)) = false) →
(∀ w111 : World, ((w111 = w85.drew) →
(∃ a113 : Addr, ((cost = (some a113)) ∧
((((0 : Int) ≤ x66) ∧
(x66 < ((cost_n : Nat) : Int))) ∧
(∃ o114 : Option Addr, (∃ n115 : Nat, (∃ n116 : Nat, (((w111.cell? (Addr.add a113 ((x66).toNat * 1))) = (some (Value.slice o114 n115 n116))) ∧
(∃ a117 : Addr, ((o114 = (some a117)) ∧
((((0 : Int) ≤ x75) ∧
(x75 < ((n115 : Nat) : Int))) ∧
(∃ x118 : Int, (((w111.cell? (Addr.add a117 ((x75).toNat * 1))) = (some (Value.int IntKind.i64 x118))) ∧
(∃ a119 : Addr, ((o5 = (some a119)) ∧
((((0 : Int) ≤ x66) ∧
(x66 < ((n6 : Nat) : Int))) ∧
(∃ x120 : Int, (((w111.cell? (Addr.add a119 ((x66).toNat * 1))) = (some (Value.int IntKind.i64 x120))) ∧
(∃ a121 : Addr, ((o13 = (some a121)) ∧
((((0 : Int) ≤ x75) ∧
(x75 < ((n14 : Nat) : Int))) ∧
((Nf.There w111 (Addr.add a121 ((x75).toNat * 1)) 1) ∧
(∀ w122 : World, ((w122 = (Nf.setCells w111 (Addr.add a121 ((x75).toNat * 1)) [(Value.int IntKind.i64 (IntKind.wrap IntKind.i64 (x118 - x120)))] 0)) →
(∀ w124 : World, ((w124 = w122.drew) →
(∃ a126 : Addr, ((o18 = (some a126)) ∧
((((0 : Int) ≤ x75) ∧
(x75 < ((n19 : Nat) : Int))) ∧
(∃ x127 : Int, (((w124.cell? (Addr.add a126 ((x75).toNat * 1))) = (some (Value.int IntKind.i64 x127))) ∧
(∃ a128 : Addr, ((o18 = (some a128)) ∧
((((0 : Int) ≤ x75) ∧
(x75 < ((n19 : Nat) : Int))) ∧
(∃ x129 : Int, (((w124.cell? (Addr.add a128 ((x75).toNat * 1))) = (some (Value.int IntKind.i64 x129))) ∧
(∃ a130 : Addr, ((cost = (some a130)) ∧
((((0 : Int) ≤ x129) ∧
(x129 < ((cost_n : Nat) : Int))) ∧
(∃ o131 : Option Addr, (∃ n132 : Nat, (∃ n133 : Nat, (((w124.cell? (Addr.add a130 ((x129).toNat * 1))) = (some (Value.slice o131 n132 n133))) ∧
(∃ a134 : Addr, ((o131 = (some a134)) ∧
((((0 : Int) ≤ x75) ∧
(x75 < ((n132 : Nat) : Int))) ∧
(∃ x135 : Int, (((w124.cell? (Addr.add a134 ((x75).toNat * 1))) = (some (Value.int IntKind.i64 x135))) ∧
(∃ a136 : Addr, ((o13 = (some a136)) ∧
((((0 : Int) ≤ x75) ∧
(x75 < ((n14 : Nat) : Int))) ∧
(∃ x137 : Int, (((w124.cell? (Addr.add a136 ((x75).toNat * 1))) = (some (Value.int IntKind.i64 x137))) ∧
(∃ a138 : Addr, ((o5 = (some a138)) ∧
((((0 : Int) ≤ x127) ∧
(x127 < ((n6 : Nat) : Int))) ∧
((Nf.There w124 (Addr.add a138 ((x127).toNat * 1)) 1) ∧
(∀ w139 : World, ((w139 = (Nf.setCells w124 (Addr.add a138 ((x127).toNat * 1)) [(Value.int IntKind.i64 (IntKind.wrap IntKind.i64 (x135 - x137)))] 0)) →
(k78 true w139))))))))))))))))))))))))))))))))))))))))))))))))))))))))))))))))))))))))))))))))))))))))))))))))))))))))))))))) ∧
(((decide (x75 < ((n14 : Nat) : Int))) = false) →
(∃ n142 : Nat, ((n142 < n62) ∧
(k60 n142 b74 (IntKind.wrap IntKind.i64 (x66 + 1)) w73)))))))))))))) ∧
(((decide (x66 < ((n6 : Nat) : Int))) = false) →
(((b65 = true) →
(∃ n145 : Nat, ((n145 < n54) ∧
(k52 n145 (IntKind.wrap IntKind.i64 (x57 + 1)) w64)))) ∧
((b65 = false) →
(R (Ending.returned (Value.tuple #[(Value.slice o5 n6 n7), (Value.slice o13 n14 n15), (Value.bool true)])) w64)))))))))))))) ∧
(((decide (x57 < (IntKind.wrap IntKind.i64 ((IntKind.wrap IntKind.i64 (((n6 : Nat) : Int) + ((n14 : Nat) : Int))) + 2)))) = false) →
(R (Ending.returned (Value.tuple #[(Value.slice none 0 0), (Value.slice none 0 0), (Value.bool false)])) w56))))))))))))))))))))))))))))))))))))))))))))) ∧
(Calls Tryd.prog 36 #[(Value.slice cost cost_n cost_c)] w1 (fun (e148 : Ending) => (fun (w149 : World) => (∃ x150 : Int, ((e148 = (Ending.returned (Value.int IntKind.i64 x150))) ∧
((RunOk Tryd.prog (Nf.Hold (Instr.makeSlice 26 (Value.int IntKind.i64 ((cost_n : Nat) : Int)) (Value.int IntKind.i64 ((cost_n : Nat) : Int)))) w149 (fun (v151 : Value) => (fun (w152 : World) => (∃ o153 : Option Addr, (∃ n154 : Nat, (∃ n155 : Nat, ((v151 = (Value.slice o153 n154 n155)) ∧
(RunOk Tryd.prog (Nf.Hold (Instr.makeSlice 26 (Value.int IntKind.i64 x150) (Value.int IntKind.i64 x150))) w152 (fun (v156 : Value) => (fun (w157 : World) => (∃ o158 : Option Addr, (∃ n159 : Nat, (∃ n160 : Nat, ((v156 = (Value.slice o158 n159 n160)) ∧
(Calls Tryd.prog 46 #[(Value.int IntKind.i64 ((n159 : Nat) : Int)), (Value.slice m m_n m_c)] w157 (fun (e161 : Ending) => (fun (w162 : World) => (∃ o163 : Option Addr, (∃ n164 : Nat, (∃ n165 : Nat, ((e161 = (Ending.returned (Value.slice o163 n164 n165))) ∧
(∃ k166 : (Nat → (Int → (World → Prop))), ((∃ n167 : Nat, (k166 n167 0 w162)) ∧
(∀ n168 : Nat, ((Nat → Value) →
(∀ w170 : World, (∀ x171 : Int, ((k166 n168 x171 w170) →
((((decide (x171 < ((m_n : Nat) : Int))) = true) →
(∀ k174 : (World → Prop), ((∀ w176 : World, (((Nat → Value) →
(∃ n179 : Nat, ((n179 < n168) ∧
(k166 n179 (IntKind.wrap IntKind.i64 (x171 + 1)) w176)))) →
(k174 w176))) →
(∃ a180 : Addr, ((m = (some a180)) ∧
((((0 : Int) ≤ x171) ∧
(x171 < ((m_n : Nat) : Int))) ∧
(∃ x181 : Int, (((w170.cell? (Addr.add a180 ((x171).toNat * 1))) = (some (Value.int IntKind.i64 x181))) ∧
(∃ a182 : Addr, ((o153 = (some a182)) ∧
((((0 : Int) ≤ x171) ∧
(x171 < ((n154 : Nat) : Int))) ∧
((Nf.There w170 (Addr.add a182 ((x171).toNat * 1)) 1) ∧
(∀ w183 : World, ((w183 = (Nf.setCells w170 (Addr.add a182 ((x171).toNat * 1)) [(Value.int IntKind.i64 1125899906842624)] 0)) →
((((decide (x181 ≥ 0)) = true) →
(∃ a186 : Addr, ((cost = (some a186)) ∧
((((0 : Int) ≤ x171) ∧
(x171 < ((cost_n : Nat) : Int))) ∧
(∃ o187 : Option Addr, (∃ n188 : Nat, (∃ n189 : Nat, (((w183.cell? (Addr.add a186 ((x171).toNat * 1))) = (some (Value.slice o187 n188 n189))) ∧
(∃ a190 : Addr, ((o187 = (some a190)) ∧
((((0 : Int) ≤ x181) ∧
(x181 < ((n188 : Nat) : Int))) ∧
(∃ x191 : Int, (((w183.cell? (Addr.add a190 ((x181).toNat * 1))) = (some (Value.int IntKind.i64 x191))) ∧
(∃ a192 : Addr, ((o153 = (some a192)) ∧
((((0 : Int) ≤ x171) ∧
(x171 < ((n154 : Nat) : Int))) ∧
((Nf.There w183 (Addr.add a192 ((x171).toNat * 1)) 1) ∧
(∀ w193 : World, ((w193 = (Nf.setCells w183 (Addr.add a192 ((x171).toNat * 1)) [(Value.int IntKind.i64 x191)] 0)) →
(k174 w193)))))))))))))))))))) ∧
(((decide (x181 ≥ 0)) = false) →
(k174 w183))))))))))))))))) ∧
(((decide (x171 < ((m_n : Nat) : Int))) = false) →
(∃ k197 : (Nat → (Int → (World → Prop))), ((∃ n198 : Nat, (k197 n198 0 w170)) ∧
(∀ n199 : Nat, ((Nat → Value) →
(∀ w201 : World, (∀ x202 : Int, ((k197 n199 x202 w201) →
((((decide (x202 < (IntKind.wrap IntKind.i64 ((IntKind.wrap IntKind.i64 (((n154 : Nat) : Int) + ((n159 : Nat) : Int))) + 2)))) = true) →
(∃ k205 : (Nat → (Bool → (Int → (World → Prop)))), ((∃ n206 : Nat, (k205 n206 false 0 w201)) ∧
(∀ n207 : Nat, ((Nat → Value) →
(∀ w209 : World, (∀ b210 : Bool, (∀ x211 : Int, ((k205 n207 b210 x211 w209) →
((((decide (x211 < ((n154 : Nat) : Int))) = true) →
(∃ k214 : (Nat → (Bool → (Int → (World → Prop)))), ((∃ n215 : Nat, (k214 n215 b210 0 w209)) ∧
(∀ n216 : Nat, ((Nat → Value) →
(∀ w218 : World, (∀ b219 : Bool, (∀ x220 : Int, ((k214 n216 b219 x220 w218) →
((((decide (x220 < ((n159 : Nat) : Int))) = true) →
(∀ k223 : (Bool → (World → Prop)), ((∀ w225 : World, (∀ b226 : Bool, (((Nat → Value) →
(∃ n229 : Nat, ((n229 < n216) ∧
(k214 n229 b226 (IntKind.wrap IntKind.i64 (x220 + 1)) w225)))) →
(k223 b226 w225)))) →
(∀ w230 : World, ((w230 = w218.drew) →
(∃ a232 : Addr, ((cost = (some a232)) ∧
((((0 : Int) ≤ x211) ∧
(x211 < ((cost_n : Nat) : Int))) ∧
(∃ o233 : Option Addr, (∃ n234 : Nat, (∃ n235 : Nat, (((w230.cell? (Addr.add a232 ((x211).toNat * 1))) = (some (Value.slice o233 n234 n235))) ∧
(∃ a236 : Addr, ((o233 = (some a236)) ∧
((((0 : Int) ≤ x220) ∧
(x220 < ((n234 : Nat) : Int))) ∧
(∃ x237 : Int, (((w230.cell? (Addr.add a236 ((x220).toNat * 1))) = (some (Value.int IntKind.i64 x237))) ∧
((((decide (x237 = 4611686018427387904)) = true) →
(k223 b219 w230)) ∧
(((decide (x237 = 4611686018427387904)) = false) →
(∃ a240 : Addr, ((o153 = (some a240)) ∧
((((0 : Int) ≤ x211) ∧
(x211 < ((n154 : Nat) : Int))) ∧
(∃ x241 : Int, (((w230.cell? (Addr.add a240 ((x211).toNat * 1))) = (some (Value.int IntKind.i64 x241))) ∧
(∃ a242 : Addr, ((o158 = (some a242)) ∧
((((0 : Int) ≤ x220) ∧
(x220 < ((n159 : Nat) : Int))) ∧
(∃ x243 : Int, (((w230.cell? (Addr.add a242 ((x220).toNat * 1))) = (some (Value.int IntKind.i64 x243))) ∧
(∃ a244 : Addr, ((cost = (some a244)) ∧
((((0 : Int) ≤ x211) ∧
(x211 < ((cost_n : Nat) : Int))) ∧
(∃ o245 : Option Addr, (∃ n246 : Nat, (∃ n247 : Nat, (((w230.cell? (Addr.add a244 ((x211).toNat * 1))) = (some (Value.slice o245 n246 n247))) ∧
(∃ a248 : Addr, ((o245 = (some a248)) ∧
((((0 : Int) ≤ x220) ∧
(x220 < ((n246 : Nat) : Int))) ∧
(∃ x249 : Int, (((w230.cell? (Addr.add a248 ((x220).toNat * 1))) = (some (Value.int IntKind.i64 x249))) ∧
((((decide ((IntKind.wrap IntKind.i64 (x241 + x243)) ≤ x249)) = true) →
(k223 b219 w230)) ∧
(((decide ((IntKind.wrap IntKind.i64 (x241 + x243)) ≤ x249)) = false) →
(∃ a252 : Addr, ((o163 = (some a252)) ∧
((((0 : Int) ≤ x220) ∧
(x220 < ((n164 : Nat) : Int))) ∧
(∃ x253 : Int, (((w230.cell? (Addr.add a252 ((x220).toNat * 1))) = (some (Value.int IntKind.i64 x253))) ∧
((((decide (x253 < 0)) = true) →
(R (Ending.returned (Value.tuple #[(Value.slice none 0 0), (Value.slice none 0 0), (Value.bool false)])) w230)) ∧
(((decide (x253 < 0)) = false) →
(∀ w256 : World, ((w256 = w230.drew) →
(∃ a258 : Addr, ((cost = (some a258)) ∧
((((0 : Int) ≤ x211) ∧
(x211 < ((cost_n : Nat) : Int))) ∧
(∃ o259 : Option Addr, (∃ n260 : Nat, (∃ n261 : Nat, (((w256.cell? (Addr.add a258 ((x211).toNat * 1))) = (some (Value.slice o259 n260 n261))) ∧
(∃ a262 : Addr, ((o259 = (some a262)) ∧
((((0 : Int) ≤ x220) ∧
(x220 < ((n260 : Nat) : Int))) ∧
(∃ x263 : Int, (((w256.cell? (Addr.add a262 ((x220).toNat * 1))) = (some (Value.int IntKind.i64 x263))) ∧
(∃ a264 : Addr, ((o153 = (some a264)) ∧
((((0 : Int) ≤ x211) ∧
(x211 < ((n154 : Nat) : Int))) ∧
(∃ x265 : Int, (((w256.cell? (Addr.add a264 ((x211).toNat * 1))) = (some (Value.int IntKind.i64 x265))) ∧
(∃ a266 : Addr, ((o158 = (some a266)) ∧
((((0 : Int) ≤ x220) ∧
(x220 < ((n159 : Nat) : Int))) ∧
((Nf.There w256 (Addr.add a266 ((x220).toNat * 1)) 1) ∧
(∀ w267 : World, ((w267 = (Nf.setCells w256 (Addr.add a266 ((x220).toNat * 1)) [(Value.int IntKind.i64 (IntKind.wrap IntKind.i64 (x263 - x265)))] 0)) →
(∀ w269 : World, ((w269 = w267.drew) →
(∃ a271 : Addr, ((o163 = (some a271)) ∧
((((0 : Int) ≤ x220) ∧
(x220 < ((n164 : Nat) : Int))) ∧
(∃ x272 : Int, (((w269.cell? (Addr.add a271 ((x220).toNat * 1))) = (some (Value.int IntKind.i64 x272))) ∧
(∃ a273 : Addr, ((o163 = (some a273)) ∧
((((0 : Int) ≤ x220) ∧
(x220 < ((n164 : Nat) : Int))) ∧
(∃ x274 : Int, (((w269.cell? (Addr.add a273 ((x220).toNat * 1))) = (some (Value.int IntKind.i64 x274))) ∧
(∃ a275 : Addr, ((cost = (some a275)) ∧
((((0 : Int) ≤ x274) ∧
(x274 < ((cost_n : Nat) : Int))) ∧
(∃ o276 : Option Addr, (∃ n277 : Nat, (∃ n278 : Nat, (((w269.cell? (Addr.add a275 ((x274).toNat * 1))) = (some (Value.slice o276 n277 n278))) ∧
(∃ a279 : Addr, ((o276 = (some a279)) ∧
((((0 : Int) ≤ x220) ∧
(x220 < ((n277 : Nat) : Int))) ∧
(∃ x280 : Int, (((w269.cell? (Addr.add a279 ((x220).toNat * 1))) = (some (Value.int IntKind.i64 x280))) ∧
(∃ a281 : Addr, ((o158 = (some a281)) ∧
((((0 : Int) ≤ x220) ∧
(x220 < ((n159 : Nat) : Int))) ∧
(∃ x282 : Int, (((w269.cell? (Addr.add a281 ((x220).toNat * 1))) = (some (Value.int IntKind.i64 x282))) ∧
(∃ a283 : Addr, ((o153 = (some a283)) ∧
((((0 : Int) ≤ x272) ∧
(x272 < ((n154 : Nat) : Int))) ∧
((Nf.There w269 (Addr.add a283 ((x272).toNat * 1)) 1) ∧
(∀ w284 : World, ((w284 = (Nf.setCells w269 (Addr.add a283 ((x272).toNat * 1)) [(Value.int IntKind.i64 (IntKind.wrap IntKind.i64 (x280 - x282)))] 0)) →
(k223 true w284))))))))))))))))))))))))))))))))))))))))))))))))))))))))))))))))))))))))))))))))))))))))))))))))))))))))))))))) ∧
(((decide (x220 < ((n159 : Nat) : Int))) = false) →
(∃ n287 : Nat, ((n287 < n207) ∧
(k205 n287 b219 (IntKind.wrap IntKind.i64 (x211 + 1)) w218)))))))))))))) ∧
(((decide (x211 < ((n154 : Nat) : Int))) = false) →
(((b210 = true) →
(∃ n290 : Nat, ((n290 < n199) ∧
(k197 n290 (IntKind.wrap IntKind.i64 (x202 + 1)) w209)))) ∧
((b210 = false) →
(R (Ending.returned (Value.tuple #[(Value.slice o153 n154 n155), (Value.slice o158 n159 n160), (Value.bool true)])) w209)))))))))))))) ∧
(((decide (x202 < (IntKind.wrap IntKind.i64 ((IntKind.wrap IntKind.i64 (((n154 : Nat) : Int) + ((n159 : Nat) : Int))) + 2)))) = false) →
(R (Ending.returned (Value.tuple #[(Value.slice none 0 0), (Value.slice none 0 0), (Value.bool false)])) w201)))))))))))))))))))))))))))))))))))))))) ∧
(RunOk Tryd.prog (Nf.Hold (Instr.makeSlice 26 (Value.int IntKind.i64 x150) (Value.int IntKind.i64 x150))) w149 (fun (v293 : Value) => (fun (w294 : World) => (∃ o295 : Option Addr, (∃ n296 : Nat, (∃ n297 : Nat, ((v293 = (Value.slice o295 n296 n297)) ∧
(RunOk Tryd.prog (Nf.Hold (Instr.makeSlice 26 (Value.int IntKind.i64 ((cost_n : Nat) : Int)) (Value.int IntKind.i64 ((cost_n : Nat) : Int)))) w294 (fun (v298 : Value) => (fun (w299 : World) => (∃ o300 : Option Addr, (∃ n301 : Nat, (∃ n302 : Nat, ((v298 = (Value.slice o300 n301 n302)) ∧
(Calls Tryd.prog 46 #[(Value.int IntKind.i64 ((n296 : Nat) : Int)), (Value.slice m m_n m_c)] w299 (fun (e303 : Ending) => (fun (w304 : World) => (∃ o305 : Option Addr, (∃ n306 : Nat, (∃ n307 : Nat, ((e303 = (Ending.returned (Value.slice o305 n306 n307))) ∧
(∃ k308 : (Nat → (Int → (World → Prop))), ((∃ n309 : Nat, (k308 n309 0 w304)) ∧
(∀ n310 : Nat, ((Nat → Value) →
(∀ w312 : World, (∀ x313 : Int, ((k308 n310 x313 w312) →
((((decide (x313 < ((m_n : Nat) : Int))) = true) →
(∀ k316 : (World → Prop), ((∀ w318 : World, (((Nat → Value) →
(∃ n321 : Nat, ((n321 < n310) ∧
(k308 n321 (IntKind.wrap IntKind.i64 (x313 + 1)) w318)))) →
(k316 w318))) →
(∃ a322 : Addr, ((m = (some a322)) ∧
((((0 : Int) ≤ x313) ∧
(x313 < ((m_n : Nat) : Int))) ∧
(∃ x323 : Int, (((w312.cell? (Addr.add a322 ((x313).toNat * 1))) = (some (Value.int IntKind.i64 x323))) ∧
(∃ a324 : Addr, ((o300 = (some a324)) ∧
((((0 : Int) ≤ x313) ∧
(x313 < ((n301 : Nat) : Int))) ∧
((Nf.There w312 (Addr.add a324 ((x313).toNat * 1)) 1) ∧
(∀ w325 : World, ((w325 = (Nf.setCells w312 (Addr.add a324 ((x313).toNat * 1)) [(Value.int IntKind.i64 1125899906842624)] 0)) →
((((decide (x323 ≥ 0)) = true) →
(∃ a328 : Addr, ((cost = (some a328)) ∧
((((0 : Int) ≤ x313) ∧
(x313 < ((cost_n : Nat) : Int))) ∧
(∃ o329 : Option Addr, (∃ n330 : Nat, (∃ n331 : Nat, (((w325.cell? (Addr.add a328 ((x313).toNat * 1))) = (some (Value.slice o329 n330 n331))) ∧
(∃ a332 : Addr, ((o329 = (some a332)) ∧
((((0 : Int) ≤ x323) ∧
(x323 < ((n330 : Nat) : Int))) ∧
(∃ x333 : Int, (((w325.cell? (Addr.add a332 ((x323).toNat * 1))) = (some (Value.int IntKind.i64 x333))) ∧
(∃ a334 : Addr, ((o300 = (some a334)) ∧
((((0 : Int) ≤ x313) ∧
(x313 < ((n301 : Nat) : Int))) ∧
((Nf.There w325 (Addr.add a334 ((x313).toNat * 1)) 1) ∧
(∀ w335 : World, ((w335 = (Nf.setCells w325 (Addr.add a334 ((x313).toNat * 1)) [(Value.int IntKind.i64 x333)] 0)) →
(k316 w335)))))))))))))))))))) ∧
(((decide (x323 ≥ 0)) = false) →
(k316 w325))))))))))))))))) ∧
(((decide (x313 < ((m_n : Nat) : Int))) = false) →
(∃ k339 : (Nat → (Int → (World → Prop))), ((∃ n340 : Nat, (k339 n340 0 w312)) ∧
(∀ n341 : Nat, ((Nat → Value) →
(∀ w343 : World, (∀ x344 : Int, ((k339 n341 x344 w343) →
((((decide (x344 < (IntKind.wrap IntKind.i64 ((IntKind.wrap IntKind.i64 (((n301 : Nat) : Int) + ((n296 : Nat) : Int))) + 2)))) = true) →
(∃ k347 : (Nat → (Bool → (Int → (World → Prop)))), ((∃ n348 : Nat, (k347 n348 false 0 w343)) ∧
(∀ n349 : Nat, ((Nat → Value) →
(∀ w351 : World, (∀ b352 : Bool, (∀ x353 : Int, ((k347 n349 b352 x353 w351) →
((((decide (x353 < ((n301 : Nat) : Int))) = true) →
(∃ k356 : (Nat → (Bool → (Int → (World → Prop)))), ((∃ n357 : Nat, (k356 n357 b352 0 w351)) ∧
(∀ n358 : Nat, ((Nat → Value) →
(∀ w360 : World, (∀ b361 : Bool, (∀ x362 : Int, ((k356 n358 b361 x362 w360) →
((((decide (x362 < ((n296 : Nat) : Int))) = true) →
(∀ k365 : (Bool → (World → Prop)), ((∀ w367 : World, (∀ b368 : Bool, (((Nat → Value) →
(∃ n371 : Nat, ((n371 < n358) ∧
(k356 n371 b368 (IntKind.wrap IntKind.i64 (x362 + 1)) w367)))) →
(k365 b368 w367)))) →
(∀ w372 : World, ((w372 = w360.drew) →
(∃ a374 : Addr, ((cost = (some a374)) ∧
((((0 : Int) ≤ x353) ∧
(x353 < ((cost_n : Nat) : Int))) ∧
(∃ o375 : Option Addr, (∃ n376 : Nat, (∃ n377 : Nat, (((w372.cell? (Addr.add a374 ((x353).toNat * 1))) = (some (Value.slice o375 n376 n377))) ∧
(∃ a378 : Addr, ((o375 = (some a378)) ∧
((((0 : Int) ≤ x362) ∧
(x362 < ((n376 : Nat) : Int))) ∧
(∃ x379 : Int, (((w372.cell? (Addr.add a378 ((x362).toNat * 1))) = (some (Value.int IntKind.i64 x379))) ∧
((((decide (x379 = 4611686018427387904)) = true) →
(k365 b361 w372)) ∧
(((decide (x379 = 4611686018427387904)) = false) →
(∃ a382 : Addr, ((o300 = (some a382)) ∧
((((0 : Int) ≤ x353) ∧
(x353 < ((n301 : Nat) : Int))) ∧
(∃ x383 : Int, (((w372.cell? (Addr.add a382 ((x353).toNat * 1))) = (some (Value.int IntKind.i64 x383))) ∧
(∃ a384 : Addr, ((o295 = (some a384)) ∧
((((0 : Int) ≤ x362) ∧
(x362 < ((n296 : Nat) : Int))) ∧
(∃ x385 : Int, (((w372.cell? (Addr.add a384 ((x362).toNat * 1))) = (some (Value.int IntKind.i64 x385))) ∧
(∃ a386 : Addr, ((cost = (some a386)) ∧
((((0 : Int) ≤ x353) ∧
(x353 < ((cost_n : Nat) : Int))) ∧
(∃ o387 : Option Addr, (∃ n388 : Nat, (∃ n389 : Nat, (((w372.cell? (Addr.add a386 ((x353).toNat * 1))) = (some (Value.slice o387 n388 n389))) ∧
(∃ a390 : Addr, ((o387 = (some a390)) ∧
((((0 : Int) ≤ x362) ∧
(x362 < ((n388 : Nat) : Int))) ∧
(∃ x391 : Int, (((w372.cell? (Addr.add a390 ((x362).toNat * 1))) = (some (Value.int IntKind.i64 x391))) ∧
((((decide ((IntKind.wrap IntKind.i64 (x383 + x385)) ≤ x391)) = true) →
(k365 b361 w372)) ∧
(((decide ((IntKind.wrap IntKind.i64 (x383 + x385)) ≤ x391)) = false) →
(∃ a394 : Addr, ((o305 = (some a394)) ∧
((((0 : Int) ≤ x362) ∧
(x362 < ((n306 : Nat) : Int))) ∧
(∃ x395 : Int, (((w372.cell? (Addr.add a394 ((x362).toNat * 1))) = (some (Value.int IntKind.i64 x395))) ∧
((((decide (x395 < 0)) = true) →
(R (Ending.returned (Value.tuple #[(Value.slice none 0 0), (Value.slice none 0 0), (Value.bool false)])) w372)) ∧
(((decide (x395 < 0)) = false) →
(∀ w398 : World, ((w398 = w372.drew) →
(∃ a400 : Addr, ((cost = (some a400)) ∧
((((0 : Int) ≤ x353) ∧
(x353 < ((cost_n : Nat) : Int))) ∧
(∃ o401 : Option Addr, (∃ n402 : Nat, (∃ n403 : Nat, (((w398.cell? (Addr.add a400 ((x353).toNat * 1))) = (some (Value.slice o401 n402 n403))) ∧
(∃ a404 : Addr, ((o401 = (some a404)) ∧
((((0 : Int) ≤ x362) ∧
(x362 < ((n402 : Nat) : Int))) ∧
(∃ x405 : Int, (((w398.cell? (Addr.add a404 ((x362).toNat * 1))) = (some (Value.int IntKind.i64 x405))) ∧
(∃ a406 : Addr, ((o300 = (some a406)) ∧
((((0 : Int) ≤ x353) ∧
(x353 < ((n301 : Nat) : Int))) ∧
(∃ x407 : Int, (((w398.cell? (Addr.add a406 ((x353).toNat * 1))) = (some (Value.int IntKind.i64 x407))) ∧
(∃ a408 : Addr, ((o295 = (some a408)) ∧
((((0 : Int) ≤ x362) ∧
(x362 < ((n296 : Nat) : Int))) ∧
((Nf.There w398 (Addr.add a408 ((x362).toNat * 1)) 1) ∧
(∀ w409 : World, ((w409 = (Nf.setCells w398 (Addr.add a408 ((x362).toNat * 1)) [(Value.int IntKind.i64 (IntKind.wrap IntKind.i64 (x405 - x407)))] 0)) →
(∀ w411 : World, ((w411 = w409.drew) →
(∃ a413 : Addr, ((o305 = (some a413)) ∧
((((0 : Int) ≤ x362) ∧
(x362 < ((n306 : Nat) : Int))) ∧
(∃ x414 : Int, (((w411.cell? (Addr.add a413 ((x362).toNat * 1))) = (some (Value.int IntKind.i64 x414))) ∧
(∃ a415 : Addr, ((o305 = (some a415)) ∧
((((0 : Int) ≤ x362) ∧
(x362 < ((n306 : Nat) : Int))) ∧
(∃ x416 : Int, (((w411.cell? (Addr.add a415 ((x362).toNat * 1))) = (some (Value.int IntKind.i64 x416))) ∧
(∃ a417 : Addr, ((cost = (some a417)) ∧
((((0 : Int) ≤ x416) ∧
(x416 < ((cost_n : Nat) : Int))) ∧
(∃ o418 : Option Addr, (∃ n419 : Nat, (∃ n420 : Nat, (((w411.cell? (Addr.add a417 ((x416).toNat * 1))) = (some (Value.slice o418 n419 n420))) ∧
(∃ a421 : Addr, ((o418 = (some a421)) ∧
((((0 : Int) ≤ x362) ∧
(x362 < ((n419 : Nat) : Int))) ∧
(∃ x422 : Int, (((w411.cell? (Addr.add a421 ((x362).toNat * 1))) = (some (Value.int IntKind.i64 x422))) ∧
(∃ a423 : Addr, ((o295 = (some a423)) ∧
((((0 : Int) ≤ x362) ∧
(x362 < ((n296 : Nat) : Int))) ∧
(∃ x424 : Int, (((w411.cell? (Addr.add a423 ((x362).toNat * 1))) = (some (Value.int IntKind.i64 x424))) ∧
(∃ a425 : Addr, ((o300 = (some a425)) ∧
((((0 : Int) ≤ x414) ∧
(x414 < ((n301 : Nat) : Int))) ∧
((Nf.There w411 (Addr.add a425 ((x414).toNat * 1)) 1) ∧
(∀ w426 : World, ((w426 = (Nf.setCells w411 (Addr.add a425 ((x414).toNat * 1)) [(Value.int IntKind.i64 (IntKind.wrap IntKind.i64 (x422 - x424)))] 0)) →
(k365 true w426))))))))))))))))))))))))))))))))))))))))))))))))))))))))))))))))))))))))))))))))))))))))))))))))))))))))))))))) ∧
(((decide (x362 < ((n296 : Nat) : Int))) = false) →
(∃ n429 : Nat, ((n429 < n349) ∧
(k347 n429 b361 (IntKind.wrap IntKind.i64 (x353 + 1)) w360)))))))))))))) ∧
(((decide (x353 < ((n301 : Nat) : Int))) = false) →
(((b352 = true) →
(∃ n432 : Nat, ((n432 < n341) ∧
(k339 n432 (IntKind.wrap IntKind.i64 (x344 + 1)) w351)))) ∧
((b352 = false) →
(R (Ending.returned (Value.tuple #[(Value.slice o300 n301 n302), (Value.slice o295 n296 n297), (Value.bool true)])) w351)))))))))))))) ∧
(((decide (x344 < (IntKind.wrap IntKind.i64 ((IntKind.wrap IntKind.i64 (((n301 : Nat) : Int) + ((n296 : Nat) : Int))) + 2)))) = false) →
(R (Ending.returned (Value.tuple #[(Value.slice none 0 0), (Value.slice none 0 0), (Value.bool false)])) w343)))))))))))))))))))))))))))))))))))))))))))))))))) :
    Calls Tryd.prog 28 #[(.slice cost cost_n cost_c), (.slice m m_n m_c)] w R :=
  calls_of_vc an28 Tryd.func28 rfl (by kernel_rfl) (by kernel_rfl) (Eq.mp (by kernel_rfl) h)

/-- samaritan/certificate.hallRows -/
def an29 : An := (.seq (.reg []) (.seq (.reg []) (.seq (.reg [(2, 1, false)]) (.seq (.reg []) (.seq (.seq (.reg []) (.blk (.loop [(7, .slice), (25, .int .i64)] (.seq (.reg [(0, 0, true)]) (.seq (.cond .nil .nil) (.cut [(7, .slice)] (.blk (.seq (.reg []) (.seq (.reg [(1, 0, true)]) (.cond (.seq (.reg []) (.reg [(3, 1, false)])) .nil)))) (.reg []))))))) (.seq (.blk (.loop [(7, .slice)] (.seq (.seq (.reg [(2, 0, true)]) (.cond .nil .nil)) (.blk (.seq (.reg []) (.seq (.reg [(1, 2, false)]) (.seq (.reg []) (.blk (.loop [(7, .slice), (53, .int .i64)] (.seq (.reg [(0, 0, true)]) (.seq (.cond .nil .nil) (.cut [(7, .slice)] (.blk (.seq (.reg []) (.seq (.seq (.reg [(1, 0, true), (7, 0, true), (16, 0, true)]) (.cond .nil .nil)) (.seq (.reg []) (.reg [(6, 1, false)]))))) (.reg []))))))))))))) (.seq (.reg []) (.seq (.seq (.reg []) (.blk (.loop [(13, .slice), (92, .int .i64)] (.seq (.reg [(0, 0, true)]) (.seq (.cond .nil .nil) (.cut [(13, .slice)] (.blk (.seq (.reg [(2, 0, true)]) (.seq (.reg []) (.cond (.reg [(3, 1, false)]) .nil)))) (.reg []))))))) (.seq (.reg []) .nil)))))))))
set_option maxRecDepth 100000 in
theorem nf29 (cost : Option Addr) (cost_n : Nat) (cost_c : Nat) (m : Option Addr) (m_n : Nat) (m_c : Nat) (w : World) (R : Ending → World → Prop) (h :
(Calls Tryd.prog 36 #[(Value.slice cost cost_n cost_c)] w (fun (e1 : Ending) => (fun (w2 : World) => (∃ x3 : Int, ((e1 = (Ending.returned (Value.int IntKind.i64 x3))) ∧
(Calls Tryd.prog 46 #[(Value.int IntKind.i64 x3), (Value.slice m m_n m_c)] w2 (fun (e4 : Ending) => (fun (w5 : World) => (∃ o6 : Option Addr, (∃ n7 : Nat, (∃ n8 : Nat, ((e4 = (Ending.returned (Value.slice o6 n7 n8))) ∧
(RunOk Tryd.prog (Nf.Hold (Instr.makeSlice 73 (Value.int IntKind.i64 ((cost_n : Nat) : Int)) (Value.int IntKind.i64 ((cost_n : Nat) : Int)))) w5 (fun (v9 : Value) => (fun (w10 : World) => (∃ o11 : Option Addr, (∃ n12 : Nat, (∃ n13 : Nat, ((v9 = (Value.slice o11 n12 n13)) ∧
(∃ k14 : (Nat → (Option Addr → (Nat → (Nat → (Int → (World → Prop)))))), ((∃ n15 : Nat, (k14 n15 none 0 0 0 w10)) ∧
(∀ n16 : Nat, ((Nat → Value) →
(∀ w18 : World, (∀ o19 : Option Addr, (∀ n20 : Nat, (∀ n21 : Nat, (∀ x22 : Int, ((k14 n16 o19 n20 n21 x22 w18) →
((((decide (x22 < ((m_n : Nat) : Int))) = true) →
(∀ k25 : (Option Addr → (Nat → (Nat → (World → Prop)))), ((∀ w27 : World, (∀ o28 : Option Addr, (∀ n29 : Nat, (∀ n30 : Nat, (((Nat → Value) →
(∃ n33 : Nat, ((n33 < n16) ∧
(k14 n33 o28 n29 n30 (IntKind.wrap IntKind.i64 (x22 + 1)) w27)))) →
(k25 o28 n29 n30 w27)))))) →
(∃ a34 : Addr, ((m = (some a34)) ∧
((((0 : Int) ≤ x22) ∧
(x22 < ((m_n : Nat) : Int))) ∧
(∃ x35 : Int, (((w18.cell? (Addr.add a34 ((x22).toNat * 1))) = (some (Value.int IntKind.i64 x35))) ∧
((((decide (x35 < 0)) = true) →
(∃ a37 : Addr, ((o11 = (some a37)) ∧
((((0 : Int) ≤ x22) ∧
(x22 < ((n12 : Nat) : Int))) ∧
((Nf.There w18 (Addr.add a37 ((x22).toNat * 1)) 1) ∧
(∀ w38 : World, ((w38 = (Nf.setCells w18 (Addr.add a37 ((x22).toNat * 1)) [(Value.bool true)] 0)) →
(∀ w40 : World, ((w40 = (w38.alloc (Obj.cells #[(Value.int IntKind.i64 x22)] 3 (0, 0)))) →
(RunOk Tryd.prog (Nf.Hold (Builtin.append_ #[23, 23] 23 #[(Value.slice o19 n20 n21), (Value.slice (some (⟨(hs w38), 0, none⟩ : Addr)) 1 1)])) w40 (fun (v42 : Value) => (fun (w43 : World) => (∃ o44 : Option Addr, (∃ n45 : Nat, (∃ n46 : Nat, ((v42 = (Value.slice o44 n45 n46)) ∧
(k25 o44 n45 n46 w43))))))))))))))))) ∧
(((decide (x35 < 0)) = false) →
(k25 o19 n20 n21 w18))))))))))) ∧
(((decide (x22 < ((m_n : Nat) : Int))) = false) →
(∃ k49 : (Nat → (Option Addr → (Nat → (Nat → (World → Prop))))), ((∃ n50 : Nat, (k49 n50 o19 n20 n21 w18)) ∧
(∀ n51 : Nat, ((Nat → Value) →
(∀ w53 : World, (∀ o54 : Option Addr, (∀ n55 : Nat, (∀ n56 : Nat, ((k49 n51 o54 n55 n56 w53) →
((((decide (((n55 : Nat) : Int) > 0)) = true) →
(∃ a59 : Addr, ((o54 = (some a59)) ∧
((((0 : Int) ≤ 0) ∧
(0 < ((n55 : Nat) : Int))) ∧
(∃ x60 : Int, (((w53.cell? a59) = (some (Value.int IntKind.i64 x60))) ∧
((((0 : Int) ≤ 1) ∧
(1 ≤ ((n55 : Nat) : Int))) ∧
(∃ a61 : Addr, ((cost = (some a61)) ∧
((((0 : Int) ≤ x60) ∧
(x60 < ((cost_n : Nat) : Int))) ∧
(∃ o62 : Option Addr, (∃ n63 : Nat, (∃ n64 : Nat, (((w53.cell? (Addr.add a61 ((x60).toNat * 1))) = (some (Value.slice o62 n63 n64))) ∧
(∃ k65 : (Nat → (Option Addr → (Nat → (Nat → (Int → (World → Prop)))))), ((∃ n66 : Nat, (k65 n66 (if (n56 = ((1 : Int)).toNat) then o54 else (Option.map (fun (x : Addr) => (Addr.add x 1)) o54)) (n55 - 1) (n56 - 1) 0 w53)) ∧
(∀ n67 : Nat, ((Nat → Value) →
(∀ w69 : World, (∀ o70 : Option Addr, (∀ n71 : Nat, (∀ n72 : Nat, (∀ x73 : Int, ((k65 n67 o70 n71 n72 x73 w69) →
((((decide (x73 < ((n63 : Nat) : Int))) = true) →
(∀ k76 : (Option Addr → (Nat → (Nat → (World → Prop)))), ((∀ w78 : World, (∀ o79 : Option Addr, (∀ n80 : Nat, (∀ n81 : Nat, (((Nat → Value) →
(∃ n84 : Nat, ((n84 < n67) ∧
(k65 n84 o79 n80 n81 (IntKind.wrap IntKind.i64 (x73 + 1)) w78)))) →
(k76 o79 n80 n81 w78)))))) →
(∃ a85 : Addr, ((o62 = (some a85)) ∧
((((0 : Int) ≤ x73) ∧
(x73 < ((n63 : Nat) : Int))) ∧
(∃ x86 : Int, (((w69.cell? (Addr.add a85 ((x73).toNat * 1))) = (some (Value.int IntKind.i64 x86))) ∧
((((decide (x86 = 4611686018427387904)) = true) →
(k76 o70 n71 n72 w69)) ∧
(((decide (x86 = 4611686018427387904)) = false) →
(∃ a89 : Addr, ((o6 = (some a89)) ∧
((((0 : Int) ≤ x73) ∧
(x73 < ((n7 : Nat) : Int))) ∧
(∃ x90 : Int, (((w69.cell? (Addr.add a89 ((x73).toNat * 1))) = (some (Value.int IntKind.i64 x90))) ∧
((((decide (x90 < 0)) = true) →
(k76 o70 n71 n72 w69)) ∧
(((decide (x90 < 0)) = false) →
(∃ a93 : Addr, ((o6 = (some a93)) ∧
((((0 : Int) ≤ x73) ∧
(x73 < ((n7 : Nat) : Int))) ∧
(∃ x94 : Int, (((w69.cell? (Addr.add a93 ((x73).toNat * 1))) = (some (Value.int IntKind.i64 x94))) ∧
(∃ a95 : Addr, ((o11 = (some a95)) ∧
((((0 : Int) ≤ x94) ∧
(x94 < ((n12 : Nat) : Int))) ∧
(∃ b96 : Bool, (((w69.cell? (Addr.add a95 ((x94).toNat * 1))) = (some (Value.bool b96))) ∧
(((b96 = true) →
(k76 o70 n71 n72 w69)) ∧
((b96 = false) →
(∃ a99 : Addr, ((o6 = (some a99)) ∧
((((0 : Int) ≤ x73) ∧
(x73 < ((n7 : Nat) : Int))) ∧
(∃ x100 : Int, (((w69.cell? (Addr.add a99 ((x73).toNat * 1))) = (some (Value.int IntKind.i64 x100))) ∧
(∃ a101 : Addr, ((o11 = (some a101)) ∧
((((0 : Int) ≤ x100) ∧
(x100 < ((n12 : Nat) : Int))) ∧
((Nf.There w69 (Addr.add a101 ((x100).toNat * 1)) 1) ∧
(∀ w102 : World, ((w102 = (Nf.setCells w69 (Addr.add a101 ((x100).toNat * 1)) [(Value.bool true)] 0)) →
(∃ a104 : Addr, ((o6 = (some a104)) ∧
((((0 : Int) ≤ x73) ∧
(x73 < ((n7 : Nat) : Int))) ∧
(∃ x105 : Int, (((w102.cell? (Addr.add a104 ((x73).toNat * 1))) = (some (Value.int IntKind.i64 x105))) ∧
(∀ w106 : World, ((w106 = (w102.alloc (Obj.cells #[(Value.int IntKind.i64 x105)] 3 (0, 0)))) →
(RunOk Tryd.prog (Nf.Hold (Builtin.append_ #[23, 23] 23 #[(Value.slice o70 n71 n72), (Value.slice (some (⟨(hs w102), 0, none⟩ : Addr)) 1 1)])) w106 (fun (v108 : Value) => (fun (w109 : World) => (∃ o110 : Option Addr, (∃ n111 : Nat, (∃ n112 : Nat, ((v108 = (Value.slice o110 n111 n112)) ∧
(k76 o110 n111 n112 w109))))))))))))))))))))))))))))))))))))))))))))))))))))))) ∧
(((decide (x73 < ((n63 : Nat) : Int))) = false) →
(∃ n114 : Nat, ((n114 < n51) ∧
(k49 n114 o70 n71 n72 w69))))))))))))))))))))))))))))) ∧
(((decide (((n55 : Nat) : Int) > 0)) = false) →
(∃ k116 : (Nat → (Option Addr → (Nat → (Nat → (Int → (World → Prop)))))), ((∃ n117 : Nat, (k116 n117 none 0 0 0 w53)) ∧
(∀ n118 : Nat, ((Nat → Value) →
(∀ w120 : World, (∀ o121 : Option Addr, (∀ n122 : Nat, (∀ n123 : Nat, (∀ x124 : Int, ((k116 n118 o121 n122 n123 x124 w120) →
((((decide (x124 < ((n12 : Nat) : Int))) = true) →
(∀ k127 : (Option Addr → (Nat → (Nat → (World → Prop)))), ((∀ w129 : World, (∀ o130 : Option Addr, (∀ n131 : Nat, (∀ n132 : Nat, (((Nat → Value) →
(∃ n135 : Nat, ((n135 < n118) ∧
(k116 n135 o130 n131 n132 (IntKind.wrap IntKind.i64 (x124 + 1)) w129)))) →
(k127 o130 n131 n132 w129)))))) →
(∃ a136 : Addr, ((o11 = (some a136)) ∧
((((0 : Int) ≤ x124) ∧
(x124 < ((n12 : Nat) : Int))) ∧
(∃ b137 : Bool, (((w120.cell? (Addr.add a136 ((x124).toNat * 1))) = (some (Value.bool b137))) ∧
(((b137 = true) →
(∀ w139 : World, ((w139 = (w120.alloc (Obj.cells #[(Value.int IntKind.i64 x124)] 3 (0, 0)))) →
(RunOk Tryd.prog (Nf.Hold (Builtin.append_ #[23, 23] 23 #[(Value.slice o121 n122 n123), (Value.slice (some (⟨(hs w120), 0, none⟩ : Addr)) 1 1)])) w139 (fun (v141 : Value) => (fun (w142 : World) => (∃ o143 : Option Addr, (∃ n144 : Nat, (∃ n145 : Nat, ((v141 = (Value.slice o143 n144 n145)) ∧
(k127 o143 n144 n145 w142))))))))))) ∧
((b137 = false) →
(k127 o121 n122 n123 w120))))))))))) ∧
(((decide (x124 < ((n12 : Nat) : Int))) = false) →
(R (Ending.returned (Value.slice o121 n122 n123)) w120)))))))))))))))))))))))))))))))))))))))))))))))))))))))) :
    Calls Tryd.prog 29 #[(.slice cost cost_n cost_c), (.slice m m_n m_c)] w R :=
  calls_of_vc an29 Tryd.func29 rfl (by kernel_rfl) (by kernel_rfl) (Eq.mp (by kernel_rfl) h)

/-- samaritan/samaritanref37.width -/
def an30 : An := (.seq (.reg []) (.seq (.seq (.reg [(2, 0, true)]) (.cond (.seq (.reg []) .nil) .nil)) (.seq (.reg []) .nil)))
set_option maxRecDepth 100000 in
theorem nf30 (cost : Option Addr) (cost_n : Nat) (cost_c : Nat) (w : World) (R : Ending → World → Prop) (h :
((((decide (((cost_n : Nat) : Int) = 0)) = true) →
(R (Ending.returned (Value.int IntKind.i64 0)) w)) ∧
(((decide (((cost_n : Nat) : Int) = 0)) = false) →
(∃ a3 : Addr, ((cost = (some a3)) ∧
((((0 : Int) ≤ 0) ∧
(0 < ((cost_n : Nat) : Int))) ∧
(∃ o4 : Option Addr, (∃ n5 : Nat, (∃ n6 : Nat, (((w.cell? a3) = (some (Value.slice o4 n5 n6))) ∧
(R (Ending.returned (Value.int IntKind.i64 ((n5 : Nat) : Int))) w))))))))))) :
    Calls Tryd.prog 30 #[(.slice cost cost_n cost_c)] w R :=
  calls_of_vc an30 Tryd.func30 rfl (by kernel_rfl) (by kernel_rfl) (Eq.mp (by kernel_rfl) h)

/-- samaritan/samaritanref37.top -/
def an31 : An := (.seq (.reg []) (.seq (.reg []) .nil))
set_option maxRecDepth 100000 in
theorem nf31  (w : World) (R : Ending → World → Prop) (h :
(R (Ending.returned (Value.int IntKind.i64 1125899906842624)) w)) :
    Calls Tryd.prog 31 #[] w R :=
  calls_of_vc an31 Tryd.func31 rfl (by kernel_rfl) (by kernel_rfl) (Eq.mp (by kernel_rfl) h)

/-- samaritan/samaritanref37.who -/
def an32 : An := (.seq (.reg []) (.seq (.reg [(2, 1, false)]) (.seq (.seq (.reg []) (.blk (.loop [(6, .int .i64)] (.seq (.seq (.reg [(3, 0, true)]) (.cond .nil .nil)) (.seq (.blk (.reg [])) (.reg [])))))) (.seq (.seq (.reg []) (.blk (.loop [(7, .int .i64)] (.seq (.seq (.reg [(3, 0, true)]) (.cond .nil .nil)) (.cut [] (.blk (.seq (.reg [(4, 0, true), (12, 0, true)]) (.cond (.reg []) .nil))) (.reg [])))))) (.seq (.reg []) .nil)))))
set_option maxRecDepth 100000 in
theorem nf32 (cost : Option Addr) (cost_n : Nat) (cost_c : Nat) (m : Option Addr) (m_n : Nat) (m_c : Nat) (w : World) (R : Ending → World → Prop) (h :
(Calls Tryd.prog 30 #[(Value.slice cost cost_n cost_c)] w (fun (e1 : Ending) => (fun (w2 : World) => (∃ x3 : Int, ((e1 = (Ending.returned (Value.int IntKind.i64 x3))) ∧
(RunOk Tryd.prog (Nf.Hold (Instr.makeSlice 23 (Value.int IntKind.i64 x3) (Value.int IntKind.i64 x3))) w2 (fun (v4 : Value) => (fun (w5 : World) => (∃ o6 : Option Addr, (∃ n7 : Nat, (∃ n8 : Nat, ((v4 = (Value.slice o6 n7 n8)) ∧
(∃ k9 : (Nat → (Int → (World → Prop))), ((∃ n10 : Nat, (k9 n10 0 w5)) ∧
(∀ n11 : Nat, ((Nat → Value) →
(∀ w13 : World, (∀ x14 : Int, ((k9 n11 x14 w13) →
((((decide (x14 < ((n7 : Nat) : Int))) = true) →
(∃ a17 : Addr, ((o6 = (some a17)) ∧
((((0 : Int) ≤ x14) ∧
(x14 < ((n7 : Nat) : Int))) ∧
((Nf.There w13 (Addr.add a17 ((x14).toNat * 1)) 1) ∧
(∀ w18 : World, ((w18 = (Nf.setCells w13 (Addr.add a17 ((x14).toNat * 1)) [(Value.int IntKind.i64 (-1))] 0)) →
(∃ n20 : Nat, ((n20 < n11) ∧
(k9 n20 (IntKind.wrap IntKind.i64 (x14 + 1)) w18)))))))))) ∧
(((decide (x14 < ((n7 : Nat) : Int))) = false) →
(∃ k22 : (Nat → (Int → (World → Prop))), ((∃ n23 : Nat, (k22 n23 0 w13)) ∧
(∀ n24 : Nat, ((Nat → Value) →
(∀ w26 : World, (∀ x27 : Int, ((k22 n24 x27 w26) →
((((decide (x27 < ((m_n : Nat) : Int))) = true) →
(∀ k30 : (World → Prop), ((∀ w32 : World, (((Nat → Value) →
(∃ n35 : Nat, ((n35 < n24) ∧
(k22 n35 (IntKind.wrap IntKind.i64 (x27 + 1)) w32)))) →
(k30 w32))) →
(∃ a36 : Addr, ((m = (some a36)) ∧
((((0 : Int) ≤ x27) ∧
(x27 < ((m_n : Nat) : Int))) ∧
(∃ x37 : Int, (((w26.cell? (Addr.add a36 ((x27).toNat * 1))) = (some (Value.int IntKind.i64 x37))) ∧
((((decide (x37 ≥ 0)) = true) →
(∃ a39 : Addr, ((m = (some a39)) ∧
((((0 : Int) ≤ x27) ∧
(x27 < ((m_n : Nat) : Int))) ∧
(∃ x40 : Int, (((w26.cell? (Addr.add a39 ((x27).toNat * 1))) = (some (Value.int IntKind.i64 x40))) ∧
((((decide (x40 < ((n7 : Nat) : Int))) = true) →
(∃ a42 : Addr, ((m = (some a42)) ∧
((((0 : Int) ≤ x27) ∧
(x27 < ((m_n : Nat) : Int))) ∧
(∃ x43 : Int, (((w26.cell? (Addr.add a42 ((x27).toNat * 1))) = (some (Value.int IntKind.i64 x43))) ∧
(∃ a44 : Addr, ((o6 = (some a44)) ∧
((((0 : Int) ≤ x43) ∧
(x43 < ((n7 : Nat) : Int))) ∧
((Nf.There w26 (Addr.add a44 ((x43).toNat * 1)) 1) ∧
(∀ w45 : World, ((w45 = (Nf.setCells w26 (Addr.add a44 ((x43).toNat * 1)) [(Value.int IntKind.i64 x27)] 0)) →
(k30 w45))))))))))))) ∧
(((decide (x40 < ((n7 : Nat) : Int))) = false) →
(k30 w26))))))))) ∧
(((decide (x37 ≥ 0)) = false) →
(k30 w26))))))))))) ∧
(((decide (x27 < ((m_n : Nat) : Int))) = false) →
(R (Ending.returned (Value.slice o6 n7 n8)) w26)))))))))))))))))))))))))))))))) :
    Calls Tryd.prog 32 #[(.slice cost cost_n cost_c), (.slice m m_n m_c)] w R :=
  calls_of_vc an32 Tryd.func32 rfl (by kernel_rfl) (by kernel_rfl) (Eq.mp (by kernel_rfl) h)

/-- samaritan/samaritanref37.never -/
def an33 : An := (.seq (.reg []) (.seq (.reg []) .nil))
set_option maxRecDepth 100000 in
theorem nf33  (w : World) (R : Ending → World → Prop) (h :
(R (Ending.returned (Value.int IntKind.i64 4611686018427387904)) w)) :
    Calls Tryd.prog 33 #[] w R :=
  calls_of_vc an33 Tryd.func33 rfl (by kernel_rfl) (by kernel_rfl) (Eq.mp (by kernel_rfl) h)

/-- samaritan/samaritanref37.short -/
def an34 : An := (.seq (.reg []) (.seq (.reg [(2, 1, false)]) (.seq (.seq (.reg []) (.blk (.loop [(8, .int .i64)] (.seq (.seq (.reg [(3, 0, true)]) (.cond .nil .nil)) (.seq (.blk (.seq (.seq (.regD [(4, 0, true), (12, 0, true), (16, 0, true), (27, 0, true)] [0, 1, 2, 3, 4, 5, 6, 7, 8, 9, 10, 11, 12, 13, 14, 15, 16, 17, 18, 19, 20, 21, 22, 23, 24, 25, 26, 27, 28, 29] []) (.cond (.seq (.reg []) .nil) .nil)) (.seq (.reg []) (.blk (.loop [(9, .int .i64)] (.seq (.seq (.reg [(3, 0, true)]) (.cond .nil .nil)) (.cut [] (.blk (.seq (.regD [(11, 0, true)] [0, 1, 2, 3, 4, 5, 6, 7, 8, 9, 10, 11] [10]) (.cond (.reg []) .nil))) (.reg [])))))))) (.reg [])))))) (.seq (.reg []) (.seq (.seq (.reg []) (.blk (.loop [(10, .int .i64), (11, .int .i64)] (.seq (.seq (.reg [(3, 0, true)]) (.cond .nil .nil)) (.cut [(10, .int .i64)] (.blk (.seq (.reg [(3, 0, true)]) (.cond (.reg []) .nil))) (.reg [])))))) (.seq (.reg [(2, 0, true)]) .nil))))))
set_option maxRecDepth 100000 in
theorem nf34 (cost : Option Addr) (cost_n : Nat) (cost_c : Nat) (l : Option Addr) (l_n : Nat) (l_c : Nat) (many : Int) (w : World) (R : Ending → World → Prop) (h :
(Calls Tryd.prog 30 #[(Value.slice cost cost_n cost_c)] w (fun (e1 : Ending) => (fun (w2 : World) => (∃ x3 : Int, ((e1 = (Ending.returned (Value.int IntKind.i64 x3))) ∧
(RunOk Tryd.prog (Nf.Hold (Instr.makeSlice 73 (Value.int IntKind.i64 x3) (Value.int IntKind.i64 x3))) w2 (fun (v4 : Value) => (fun (w5 : World) => (∃ o6 : Option Addr, (∃ n7 : Nat, (∃ n8 : Nat, ((v4 = (Value.slice o6 n7 n8)) ∧
(∃ k9 : (Nat → (Int → (World → Prop))), ((∃ n10 : Nat, (k9 n10 0 w5)) ∧
(∀ n11 : Nat, ((Nat → Value) →
(∀ w13 : World, (∀ x14 : Int, ((k9 n11 x14 w13) →
((((decide (x14 < ((l_n : Nat) : Int))) = true) →
(∀ w17 : World, ((w17 = w13.drew) →
(∃ a19 : Addr, ((l = (some a19)) ∧
((((0 : Int) ≤ x14) ∧
(x14 < ((l_n : Nat) : Int))) ∧
(∃ x20 : Int, (((w17.cell? (Addr.add a19 ((x14).toNat * 1))) = (some (Value.int IntKind.i64 x20))) ∧
((((decide (x20 < 0)) = true) →
(R (Ending.returned (Value.bool false)) w17)) ∧
(((decide (x20 < 0)) = false) →
(∃ a23 : Addr, ((l = (some a23)) ∧
((((0 : Int) ≤ x14) ∧
(x14 < ((l_n : Nat) : Int))) ∧
(∃ x24 : Int, (((w17.cell? (Addr.add a23 ((x14).toNat * 1))) = (some (Value.int IntKind.i64 x24))) ∧
((((decide (x24 ≥ ((cost_n : Nat) : Int))) = true) →
(R (Ending.returned (Value.bool false)) w17)) ∧
(((decide (x24 ≥ ((cost_n : Nat) : Int))) = false) →
((((decide (x14 > 0)) = true) →
(∃ a28 : Addr, ((l = (some a28)) ∧
((((0 : Int) ≤ x14) ∧
(x14 < ((l_n : Nat) : Int))) ∧
(∃ x29 : Int, (((w17.cell? (Addr.add a28 ((x14).toNat * 1))) = (some (Value.int IntKind.i64 x29))) ∧
(∃ a30 : Addr, ((l = (some a30)) ∧
((((0 : Int) ≤ (IntKind.wrap IntKind.i64 (x14 - 1))) ∧
((IntKind.wrap IntKind.i64 (x14 - 1)) < ((l_n : Nat) : Int))) ∧
(∃ x31 : Int, (((w17.cell? (Addr.add a30 (((IntKind.wrap IntKind.i64 (x14 - 1))).toNat * 1))) = (some (Value.int IntKind.i64 x31))) ∧
((((decide (x29 ≤ x31)) = true) →
(R (Ending.returned (Value.bool false)) w17)) ∧
(((decide (x29 ≤ x31)) = false) →
(∃ k34 : (Nat → (Int → (World → Prop))), ((∃ n35 : Nat, (k34 n35 0 w17)) ∧
(∀ n36 : Nat, ((Nat → Value) →
(∀ w38 : World, (∀ x39 : Int, ((k34 n36 x39 w38) →
((((decide (x39 < ((n7 : Nat) : Int))) = true) →
(∀ k42 : (World → Prop), ((∀ w44 : World, (((Nat → Value) →
(∃ n47 : Nat, ((n47 < n36) ∧
(k34 n47 (IntKind.wrap IntKind.i64 (x39 + 1)) w44)))) →
(k42 w44))) →
(∀ w48 : World, ((w48 = w38.drew) →
(∃ a50 : Addr, ((l = (some a50)) ∧
((((0 : Int) ≤ x14) ∧
(x14 < ((l_n : Nat) : Int))) ∧
(∃ x51 : Int, (((w48.cell? (Addr.add a50 ((x14).toNat * 1))) = (some (Value.int IntKind.i64 x51))) ∧
(∃ a52 : Addr, ((cost = (some a52)) ∧
((((0 : Int) ≤ x51) ∧
(x51 < ((cost_n : Nat) : Int))) ∧
(∃ o53 : Option Addr, (∃ n54 : Nat, (∃ n55 : Nat, (((w48.cell? (Addr.add a52 ((x51).toNat * 1))) = (some (Value.slice o53 n54 n55))) ∧
(∃ a56 : Addr, ((o53 = (some a56)) ∧
((((0 : Int) ≤ x39) ∧
(x39 < ((n54 : Nat) : Int))) ∧
(∃ x57 : Int, (((w48.cell? (Addr.add a56 ((x39).toNat * 1))) = (some (Value.int IntKind.i64 x57))) ∧
(Calls Tryd.prog 33 #[] w48 (fun (e58 : Ending) => (fun (w59 : World) => (∃ x60 : Int, ((e58 = (Ending.returned (Value.int IntKind.i64 x60))) ∧
((Nf.Kept w48 w59 (Addr.add a56 ((x39).toNat * 1)) 1) ∧
((Nf.Kept w48 w59 (Addr.add a52 ((x51).toNat * 1)) 1) ∧
((Nf.Kept w48 w59 (Addr.add a50 ((x14).toNat * 1)) 1) ∧
((((decide (x57 < x60)) = true) →
(∃ a62 : Addr, ((o6 = (some a62)) ∧
((((0 : Int) ≤ x39) ∧
(x39 < ((n7 : Nat) : Int))) ∧
((Nf.There w59 (Addr.add a62 ((x39).toNat * 1)) 1) ∧
(∀ w63 : World, ((w63 = (Nf.setCells w59 (Addr.add a62 ((x39).toNat * 1)) [(Value.bool true)] 0)) →
(k42 w63)))))))) ∧
(((decide (x57 < x60)) = false) →
(k42 w59))))))))))))))))))))))))))))))))) ∧
(((decide (x39 < ((n7 : Nat) : Int))) = false) →
(∃ n67 : Nat, ((n67 < n11) ∧
(k9 n67 (IntKind.wrap IntKind.i64 (x14 + 1)) w38))))))))))))))))))))))))) ∧
(((decide (x14 > 0)) = false) →
(∃ k69 : (Nat → (Int → (World → Prop))), ((∃ n70 : Nat, (k69 n70 0 w17)) ∧
(∀ n71 : Nat, ((Nat → Value) →
(∀ w73 : World, (∀ x74 : Int, ((k69 n71 x74 w73) →
((((decide (x74 < ((n7 : Nat) : Int))) = true) →
(∀ k77 : (World → Prop), ((∀ w79 : World, (((Nat → Value) →
(∃ n82 : Nat, ((n82 < n71) ∧
(k69 n82 (IntKind.wrap IntKind.i64 (x74 + 1)) w79)))) →
(k77 w79))) →
(∀ w83 : World, ((w83 = w73.drew) →
(∃ a85 : Addr, ((l = (some a85)) ∧
((((0 : Int) ≤ x14) ∧
(x14 < ((l_n : Nat) : Int))) ∧
(∃ x86 : Int, (((w83.cell? (Addr.add a85 ((x14).toNat * 1))) = (some (Value.int IntKind.i64 x86))) ∧
(∃ a87 : Addr, ((cost = (some a87)) ∧
((((0 : Int) ≤ x86) ∧
(x86 < ((cost_n : Nat) : Int))) ∧
(∃ o88 : Option Addr, (∃ n89 : Nat, (∃ n90 : Nat, (((w83.cell? (Addr.add a87 ((x86).toNat * 1))) = (some (Value.slice o88 n89 n90))) ∧
(∃ a91 : Addr, ((o88 = (some a91)) ∧
((((0 : Int) ≤ x74) ∧
(x74 < ((n89 : Nat) : Int))) ∧
(∃ x92 : Int, (((w83.cell? (Addr.add a91 ((x74).toNat * 1))) = (some (Value.int IntKind.i64 x92))) ∧
(Calls Tryd.prog 33 #[] w83 (fun (e93 : Ending) => (fun (w94 : World) => (∃ x95 : Int, ((e93 = (Ending.returned (Value.int IntKind.i64 x95))) ∧
((Nf.Kept w83 w94 (Addr.add a91 ((x74).toNat * 1)) 1) ∧
((Nf.Kept w83 w94 (Addr.add a87 ((x86).toNat * 1)) 1) ∧
((Nf.Kept w83 w94 (Addr.add a85 ((x14).toNat * 1)) 1) ∧
((((decide (x92 < x95)) = true) →
(∃ a97 : Addr, ((o6 = (some a97)) ∧
((((0 : Int) ≤ x74) ∧
(x74 < ((n7 : Nat) : Int))) ∧
((Nf.There w94 (Addr.add a97 ((x74).toNat * 1)) 1) ∧
(∀ w98 : World, ((w98 = (Nf.setCells w94 (Addr.add a97 ((x74).toNat * 1)) [(Value.bool true)] 0)) →
(k77 w98)))))))) ∧
(((decide (x92 < x95)) = false) →
(k77 w94))))))))))))))))))))))))))))))))) ∧
(((decide (x74 < ((n7 : Nat) : Int))) = false) →
(∃ n102 : Nat, ((n102 < n11) ∧
(k9 n102 (IntKind.wrap IntKind.i64 (x14 + 1)) w73))))))))))))))))))))))))))))))) ∧
(((decide (x14 < ((l_n : Nat) : Int))) = false) →
(∃ k104 : (Nat → (Int → (Int → (World → Prop)))), ((∃ n105 : Nat, (k104 n105 ((l_n : Nat) : Int) 0 w13)) ∧
(∀ n106 : Nat, ((Nat → Value) →
(∀ w108 : World, (∀ x109 : Int, (∀ x110 : Int, ((k104 n106 x109 x110 w108) →
((((decide (x110 < ((n7 : Nat) : Int))) = true) →
(∀ k113 : (Int → (World → Prop)), ((∀ w115 : World, (∀ x116 : Int, (((Nat → Value) →
(∃ n119 : Nat, ((n119 < n106) ∧
(k104 n119 x116 (IntKind.wrap IntKind.i64 (x110 + 1)) w115)))) →
(k113 x116 w115)))) →
(∃ a120 : Addr, ((o6 = (some a120)) ∧
((((0 : Int) ≤ x110) ∧
(x110 < ((n7 : Nat) : Int))) ∧
(∃ b121 : Bool, (((w108.cell? (Addr.add a120 ((x110).toNat * 1))) = (some (Value.bool b121))) ∧
(((b121 = true) →
(k113 (IntKind.wrap IntKind.i64 (x109 - 1)) w108)) ∧
((b121 = false) →
(k113 x109 w108))))))))))) ∧
(((decide (x110 < ((n7 : Nat) : Int))) = false) →
((((decide (x109 = many)) = true) →
(R (Ending.returned (Value.bool true)) w108)) ∧
(((decide (x109 = many)) = false) →
(R (Ending.returned (Value.bool false)) w108))))))))))))))))))))))))))))))))))) :
    Calls Tryd.prog 34 #[(.slice cost cost_n cost_c), (.slice l l_n l_c), (.int .i64 many)] w R :=
  calls_of_vc an34 Tryd.func34 rfl (by kernel_rfl) (by kernel_rfl) (Eq.mp (by kernel_rfl) h)

/-- samaritan/certificate.inRange -/
def an35 : An := (.seq (.reg []) (.seq (.seq (.reg [(4, 0, true), (10, 0, true)]) (.cond (.seq (.reg []) .nil) .nil)) (.seq (.seq (.reg []) (.blk (.loop [(26, .int .i64)] (.seq (.reg [(0, 0, true)]) (.seq (.cond .nil .nil) (.seq (.blk (.seq (.reg []) (.seq (.reg [(1, 0, true), (4, 0, true)]) (.cond (.seq (.reg []) .nil) .nil)))) (.reg []))))))) (.seq (.seq (.reg []) (.blk (.loop [(40, .int .i64)] (.seq (.reg [(0, 0, true)]) (.seq (.cond .nil .nil) (.seq (.blk (.seq (.reg []) (.seq (.reg [(1, 0, true), (4, 0, true)]) (.cond (.seq (.reg []) .nil) .nil)))) (.reg []))))))) (.seq (.reg []) .nil)))))
set_option maxRecDepth 100000 in
theorem nf35 (p_RowPrices : Option Addr) (p_RowPrices_n : Nat) (p_RowPrices_c : Nat) (p_ColumnPrices : Option Addr) (p_ColumnPrices_n : Nat) (p_ColumnPrices_c : Nat) (p_HallRows : Option Addr) (p_HallRows_n : Nat) (p_HallRows_c : Nat) (rows : Int) (columns : Int) (w : World) (R : Ending → World → Prop) (h :
(∀ w1 : World, ((w1 = (w.alloc (Obj.cells #[(Value.slice p_RowPrices p_RowPrices_n p_RowPrices_c), (Value.slice p_ColumnPrices p_ColumnPrices_n p_ColumnPrices_c), (Value.slice p_HallRows p_HallRows_n p_HallRows_c)] 28 (0, 0)))) →
(∃ o3 : Option Addr, (∃ n4 : Nat, (∃ n5 : Nat, (((w1.cell? (⟨(hs w), 0, none⟩ : Addr)) = (some (Value.slice o3 n4 n5))) ∧
((((!(decide (((n4 : Nat) : Int) = rows))) = true) →
(R (Ending.returned (Value.bool false)) w1)) ∧
(((!(decide (((n4 : Nat) : Int) = rows))) = false) →
(∃ o8 : Option Addr, (∃ n9 : Nat, (∃ n10 : Nat, (((w1.cell? (⟨(hs w), 1, none⟩ : Addr)) = (some (Value.slice o8 n9 n10))) ∧
((((!(decide (((n9 : Nat) : Int) = columns))) = true) →
(R (Ending.returned (Value.bool false)) w1)) ∧
(((!(decide (((n9 : Nat) : Int) = columns))) = false) →
(∃ o13 : Option Addr, (∃ n14 : Nat, (∃ n15 : Nat, (((w1.cell? (⟨(hs w), 0, none⟩ : Addr)) = (some (Value.slice o13 n14 n15))) ∧
(∃ k16 : (Nat → (Int → (World → Prop))), ((∃ n17 : Nat, (k16 n17 0 w1)) ∧
(∀ n18 : Nat, ((Nat → Value) →
(∀ w20 : World, (∀ x21 : Int, ((k16 n18 x21 w20) →
((((decide (x21 < ((n14 : Nat) : Int))) = true) →
(∃ a24 : Addr, ((o13 = (some a24)) ∧
((((0 : Int) ≤ x21) ∧
(x21 < ((n14 : Nat) : Int))) ∧
(∃ x25 : Int, (((w20.cell? (Addr.add a24 ((x21).toNat * 1))) = (some (Value.int IntKind.i64 x25))) ∧
((((decide (x25 < (-72057594037927936))) = true) →
(R (Ending.returned (Value.bool false)) w20)) ∧
(((decide (x25 < (-72057594037927936))) = false) →
((((decide (x25 > 1125899906842624)) = true) →
(R (Ending.returned (Value.bool false)) w20)) ∧
(((decide (x25 > 1125899906842624)) = false) →
(∃ n30 : Nat, ((n30 < n18) ∧
(k16 n30 (IntKind.wrap IntKind.i64 (x21 + 1)) w20))))))))))))) ∧
(((decide (x21 < ((n14 : Nat) : Int))) = false) →
(∃ o32 : Option Addr, (∃ n33 : Nat, (∃ n34 : Nat, (((w20.cell? (⟨(hs w), 1, none⟩ : Addr)) = (some (Value.slice o32 n33 n34))) ∧
(∃ k35 : (Nat → (Int → (World → Prop))), ((∃ n36 : Nat, (k35 n36 0 w20)) ∧
(∀ n37 : Nat, ((Nat → Value) →
(∀ w39 : World, (∀ x40 : Int, ((k35 n37 x40 w39) →
((((decide (x40 < ((n33 : Nat) : Int))) = true) →
(∃ a43 : Addr, ((o32 = (some a43)) ∧
((((0 : Int) ≤ x40) ∧
(x40 < ((n33 : Nat) : Int))) ∧
(∃ x44 : Int, (((w39.cell? (Addr.add a43 ((x40).toNat * 1))) = (some (Value.int IntKind.i64 x44))) ∧
((((decide (x44 < (-72057594037927936))) = true) →
(R (Ending.returned (Value.bool false)) w39)) ∧
(((decide (x44 < (-72057594037927936))) = false) →
((((decide (x44 > 0)) = true) →
(R (Ending.returned (Value.bool false)) w39)) ∧
(((decide (x44 > 0)) = false) →
(∃ n49 : Nat, ((n49 < n37) ∧
(k35 n49 (IntKind.wrap IntKind.i64 (x40 + 1)) w39))))))))))))) ∧
(((decide (x40 < ((n33 : Nat) : Int))) = false) →
(R (Ending.returned (Value.bool true)) w39)))))))))))))))))))))))))))))))))))))))))) :
    Calls Tryd.prog 35 #[(.agg #[(.slice p_RowPrices p_RowPrices_n p_RowPrices_c), (.slice p_ColumnPrices p_ColumnPrices_n p_ColumnPrices_c), (.slice p_HallRows p_HallRows_n p_HallRows_c)]), (.int .i64 rows), (.int .i64 columns)] w R :=
  calls_of_vc an35 Tryd.func35 rfl (by kernel_rfl) (by kernel_rfl) (Eq.mp (by kernel_rfl) h)

/-- samaritan/certificate.width -/
def an36 : An := (.seq (.reg []) (.seq (.seq (.reg [(2, 0, true)]) (.cond (.seq (.reg []) .nil) .nil)) (.seq (.reg []) .nil)))
set_option maxRecDepth 100000 in
theorem nf36 (cost : Option Addr) (cost_n : Nat) (cost_c : Nat) (w : World) (R : Ending → World → Prop) (h :
((((decide (((cost_n : Nat) : Int) = 0)) = true) →
(R (Ending.returned (Value.int IntKind.i64 0)) w)) ∧
(((decide (((cost_n : Nat) : Int) = 0)) = false) →
(∃ a3 : Addr, ((cost = (some a3)) ∧
((((0 : Int) ≤ 0) ∧
(0 < ((cost_n : Nat) : Int))) ∧
(∃ o4 : Option Addr, (∃ n5 : Nat, (∃ n6 : Nat, (((w.cell? a3) = (some (Value.slice o4 n5 n6))) ∧
(R (Ending.returned (Value.int IntKind.i64 ((n5 : Nat) : Int))) w))))))))))) :
    Calls Tryd.prog 36 #[(.slice cost cost_n cost_c)] w R :=
  calls_of_vc an36 Tryd.func36 rfl (by kernel_rfl) (by kernel_rfl) (Eq.mp (by kernel_rfl) h)

/-- samaritan/certificate.provesCost -/
def an37 : An := (.seq (.reg []) (.seq (.seq (.reg []) (.blk (.loop [(19, .int .i64)] (.seq (.reg [(0, 0, true)]) (.seq (.cond .nil .nil) (.seq (.blk (.seq (.reg []) (.seq (.reg [(1, 0, true), (8, 0, true)]) (.cond (.seq (.reg []) .nil) .nil)))) (.reg []))))))) (.seq (.seq (.reg []) (.blk (.loop [(37, .int .i64)] (.seq (.reg [(0, 0, true)]) (.seq (.cond .nil .nil) (.seq (.blk (.seq (.reg []) (.seq (.seq (.reg [(4, 0, true), (11, 0, true)]) (.cond (.seq (.reg []) .nil) .nil)) (.seq (.reg []) (.blk (.loop [(57, .int .i64)] (.seq (.reg [(0, 0, true)]) (.seq (.cond .nil .nil) (.seq (.blk (.seq (.reg []) (.seq (.regD [] [0, 1, 2, 3, 4, 5, 6, 7, 8, 9, 10, 11] []) (.seq (.reg [(1, 0, true), (5, 0, true), (12, 0, true), (16, 0, true)]) (.cond (.seq (.reg []) .nil) .nil))))) (.reg [])))))))))) (.reg []))))))) (.seq (.reg []) .nil))))
set_option maxRecDepth 100000 in
theorem nf37 (cost : Option Addr) (cost_n : Nat) (cost_c : Nat) (m : Option Addr) (m_n : Nat) (m_c : Nat) (p_RowPrices : Option Addr) (p_RowPrices_n : Nat) (p_RowPrices_c : Nat) (p_ColumnPrices : Option Addr) (p_ColumnPrices_n : Nat) (p_ColumnPrices_c : Nat) (p_HallRows : Option Addr) (p_HallRows_n : Nat) (p_HallRows_c : Nat) (w : World) (R : Ending → World → Prop) (h :
(∀ w1 : World, ((w1 = (w.alloc (Obj.cells #[(Value.slice p_RowPrices p_RowPrices_n p_RowPrices_c), (Value.slice p_ColumnPrices p_ColumnPrices_n p_ColumnPrices_c), (Value.slice p_HallRows p_HallRows_n p_HallRows_c)] 28 (0, 0)))) →
(Calls Tryd.prog 36 #[(Value.slice cost cost_n cost_c)] w1 (fun (e3 : Ending) => (fun (w4 : World) => (∃ x5 : Int, ((e3 = (Ending.returned (Value.int IntKind.i64 x5))) ∧
(Calls Tryd.prog 46 #[(Value.int IntKind.i64 x5), (Value.slice m m_n m_c)] w4 (fun (e6 : Ending) => (fun (w7 : World) => (∃ o8 : Option Addr, (∃ n9 : Nat, (∃ n10 : Nat, ((e6 = (Ending.returned (Value.slice o8 n9 n10))) ∧
(∃ k11 : (Nat → (Int → (World → Prop))), ((∃ n12 : Nat, (k11 n12 0 w7)) ∧
(∀ n13 : Nat, ((Nat → Value) →
(∀ w15 : World, (∀ x16 : Int, ((k11 n13 x16 w15) →
((((decide (x16 < ((n9 : Nat) : Int))) = true) →
(∃ a19 : Addr, ((o8 = (some a19)) ∧
((((0 : Int) ≤ x16) ∧
(x16 < ((n9 : Nat) : Int))) ∧
(∃ x20 : Int, (((w15.cell? (Addr.add a19 ((x16).toNat * 1))) = (some (Value.int IntKind.i64 x20))) ∧
((((decide (x20 < 0)) = true) →
(∃ o22 : Option Addr, (∃ n23 : Nat, (∃ n24 : Nat, (((w15.cell? (⟨(hs w), 1, none⟩ : Addr)) = (some (Value.slice o22 n23 n24))) ∧
(∃ a25 : Addr, ((o22 = (some a25)) ∧
((((0 : Int) ≤ x16) ∧
(x16 < ((n23 : Nat) : Int))) ∧
(∃ x26 : Int, (((w15.cell? (Addr.add a25 ((x16).toNat * 1))) = (some (Value.int IntKind.i64 x26))) ∧
((((!(decide (x26 = 0))) = true) →
(R (Ending.returned (Value.bool false)) w15)) ∧
(((!(decide (x26 = 0))) = false) →
(∃ n29 : Nat, ((n29 < n13) ∧
(k11 n29 (IntKind.wrap IntKind.i64 (x16 + 1)) w15))))))))))))))) ∧
(((decide (x20 < 0)) = false) →
(∃ n31 : Nat, ((n31 < n13) ∧
(k11 n31 (IntKind.wrap IntKind.i64 (x16 + 1)) w15))))))))))) ∧
(((decide (x16 < ((n9 : Nat) : Int))) = false) →
(∃ k33 : (Nat → (Int → (World → Prop))), ((∃ n34 : Nat, (k33 n34 0 w15)) ∧
(∀ n35 : Nat, ((Nat → Value) →
(∀ w37 : World, (∀ x38 : Int, ((k33 n35 x38 w37) →
((((decide (x38 < ((cost_n : Nat) : Int))) = true) →
(∃ a41 : Addr, ((cost = (some a41)) ∧
((((0 : Int) ≤ x38) ∧
(x38 < ((cost_n : Nat) : Int))) ∧
(∃ o42 : Option Addr, (∃ n43 : Nat, (∃ n44 : Nat, (((w37.cell? (Addr.add a41 ((x38).toNat * 1))) = (some (Value.slice o42 n43 n44))) ∧
(∃ a45 : Addr, ((m = (some a45)) ∧
((((0 : Int) ≤ x38) ∧
(x38 < ((m_n : Nat) : Int))) ∧
(∃ x46 : Int, (((w37.cell? (Addr.add a45 ((x38).toNat * 1))) = (some (Value.int IntKind.i64 x46))) ∧
((((decide (x46 < 0)) = true) →
(∃ o48 : Option Addr, (∃ n49 : Nat, (∃ n50 : Nat, (((w37.cell? (⟨(hs w), 0, none⟩ : Addr)) = (some (Value.slice o48 n49 n50))) ∧
(∃ a51 : Addr, ((o48 = (some a51)) ∧
((((0 : Int) ≤ x38) ∧
(x38 < ((n49 : Nat) : Int))) ∧
(∃ x52 : Int, (((w37.cell? (Addr.add a51 ((x38).toNat * 1))) = (some (Value.int IntKind.i64 x52))) ∧
((((!(decide (x52 = 1125899906842624))) = true) →
(R (Ending.returned (Value.bool false)) w37)) ∧
(((!(decide (x52 = 1125899906842624))) = false) →
(∃ k55 : (Nat → (Int → (World → Prop))), ((∃ n56 : Nat, (k55 n56 0 w37)) ∧
(∀ n57 : Nat, ((Nat → Value) →
(∀ w59 : World, (∀ x60 : Int, ((k55 n57 x60 w59) →
((((decide (x60 < ((n43 : Nat) : Int))) = true) →
(∃ a63 : Addr, ((o42 = (some a63)) ∧
((((0 : Int) ≤ x60) ∧
(x60 < ((n43 : Nat) : Int))) ∧
(∃ x64 : Int, (((w59.cell? (Addr.add a63 ((x60).toNat * 1))) = (some (Value.int IntKind.i64 x64))) ∧
(∀ w65 : World, ((w65 = w59.drew) →
(∃ o67 : Option Addr, (∃ n68 : Nat, (∃ n69 : Nat, (((w65.cell? (⟨(hs w), 0, none⟩ : Addr)) = (some (Value.slice o67 n68 n69))) ∧
(∃ a70 : Addr, ((o67 = (some a70)) ∧
((((0 : Int) ≤ x38) ∧
(x38 < ((n68 : Nat) : Int))) ∧
(∃ x71 : Int, (((w65.cell? (Addr.add a70 ((x38).toNat * 1))) = (some (Value.int IntKind.i64 x71))) ∧
(∃ o72 : Option Addr, (∃ n73 : Nat, (∃ n74 : Nat, (((w65.cell? (⟨(hs w), 1, none⟩ : Addr)) = (some (Value.slice o72 n73 n74))) ∧
(∃ a75 : Addr, ((o72 = (some a75)) ∧
((((0 : Int) ≤ x60) ∧
(x60 < ((n73 : Nat) : Int))) ∧
(∃ x76 : Int, (((w65.cell? (Addr.add a75 ((x60).toNat * 1))) = (some (Value.int IntKind.i64 x76))) ∧
((((!(decide (x64 = 4611686018427387904))) = true) →
((((decide (x64 < (IntKind.wrap IntKind.i64 (x71 + x76)))) = true) →
(R (Ending.returned (Value.bool false)) w65)) ∧
(((decide (x64 < (IntKind.wrap IntKind.i64 (x71 + x76)))) = false) →
(∃ a80 : Addr, ((m = (some a80)) ∧
((((0 : Int) ≤ x38) ∧
(x38 < ((m_n : Nat) : Int))) ∧
(∃ x81 : Int, (((w65.cell? (Addr.add a80 ((x38).toNat * 1))) = (some (Value.int IntKind.i64 x81))) ∧
((((decide (x81 = x60)) = true) →
((((!(decide (x64 = (IntKind.wrap IntKind.i64 (x71 + x76))))) = true) →
(R (Ending.returned (Value.bool false)) w65)) ∧
(((!(decide (x64 = (IntKind.wrap IntKind.i64 (x71 + x76))))) = false) →
(∃ n85 : Nat, ((n85 < n57) ∧
(k55 n85 (IntKind.wrap IntKind.i64 (x60 + 1)) w65)))))) ∧
(((decide (x81 = x60)) = false) →
(∃ n87 : Nat, ((n87 < n57) ∧
(k55 n87 (IntKind.wrap IntKind.i64 (x60 + 1)) w65))))))))))))) ∧
(((!(decide (x64 = 4611686018427387904))) = false) →
(∃ n89 : Nat, ((n89 < n57) ∧
(k55 n89 (IntKind.wrap IntKind.i64 (x60 + 1)) w65))))))))))))))))))))))))))))))) ∧
(((decide (x60 < ((n43 : Nat) : Int))) = false) →
(∃ n91 : Nat, ((n91 < n35) ∧
(k33 n91 (IntKind.wrap IntKind.i64 (x38 + 1)) w59)))))))))))))))))))))))) ∧
(((decide (x46 < 0)) = false) →
(∃ k93 : (Nat → (Int → (World → Prop))), ((∃ n94 : Nat, (k93 n94 0 w37)) ∧
(∀ n95 : Nat, ((Nat → Value) →
(∀ w97 : World, (∀ x98 : Int, ((k93 n95 x98 w97) →
((((decide (x98 < ((n43 : Nat) : Int))) = true) →
(∃ a101 : Addr, ((o42 = (some a101)) ∧
((((0 : Int) ≤ x98) ∧
(x98 < ((n43 : Nat) : Int))) ∧
(∃ x102 : Int, (((w97.cell? (Addr.add a101 ((x98).toNat * 1))) = (some (Value.int IntKind.i64 x102))) ∧
(∀ w103 : World, ((w103 = w97.drew) →
(∃ o105 : Option Addr, (∃ n106 : Nat, (∃ n107 : Nat, (((w103.cell? (⟨(hs w), 0, none⟩ : Addr)) = (some (Value.slice o105 n106 n107))) ∧
(∃ a108 : Addr, ((o105 = (some a108)) ∧
((((0 : Int) ≤ x38) ∧
(x38 < ((n106 : Nat) : Int))) ∧
(∃ x109 : Int, (((w103.cell? (Addr.add a108 ((x38).toNat * 1))) = (some (Value.int IntKind.i64 x109))) ∧
(∃ o110 : Option Addr, (∃ n111 : Nat, (∃ n112 : Nat, (((w103.cell? (⟨(hs w), 1, none⟩ : Addr)) = (some (Value.slice o110 n111 n112))) ∧
(∃ a113 : Addr, ((o110 = (some a113)) ∧
((((0 : Int) ≤ x98) ∧
(x98 < ((n111 : Nat) : Int))) ∧
(∃ x114 : Int, (((w103.cell? (Addr.add a113 ((x98).toNat * 1))) = (some (Value.int IntKind.i64 x114))) ∧
((((!(decide (x102 = 4611686018427387904))) = true) →
((((decide (x102 < (IntKind.wrap IntKind.i64 (x109 + x114)))) = true) →
(R (Ending.returned (Value.bool false)) w103)) ∧
(((decide (x102 < (IntKind.wrap IntKind.i64 (x109 + x114)))) = false) →
(∃ a118 : Addr, ((m = (some a118)) ∧
((((0 : Int) ≤ x38) ∧
(x38 < ((m_n : Nat) : Int))) ∧
(∃ x119 : Int, (((w103.cell? (Addr.add a118 ((x38).toNat * 1))) = (some (Value.int IntKind.i64 x119))) ∧
((((decide (x119 = x98)) = true) →
((((!(decide (x102 = (IntKind.wrap IntKind.i64 (x109 + x114))))) = true) →
(R (Ending.returned (Value.bool false)) w103)) ∧
(((!(decide (x102 = (IntKind.wrap IntKind.i64 (x109 + x114))))) = false) →
(∃ n123 : Nat, ((n123 < n95) ∧
(k93 n123 (IntKind.wrap IntKind.i64 (x98 + 1)) w103)))))) ∧
(((decide (x119 = x98)) = false) →
(∃ n125 : Nat, ((n125 < n95) ∧
(k93 n125 (IntKind.wrap IntKind.i64 (x98 + 1)) w103))))))))))))) ∧
(((!(decide (x102 = 4611686018427387904))) = false) →
(∃ n127 : Nat, ((n127 < n95) ∧
(k93 n127 (IntKind.wrap IntKind.i64 (x98 + 1)) w103))))))))))))))))))))))))))))))) ∧
(((decide (x98 < ((n43 : Nat) : Int))) = false) →
(∃ n129 : Nat, ((n129 < n35) ∧
(k33 n129 (IntKind.wrap IntKind.i64 (x38 + 1)) w97))))))))))))))))))))))))))) ∧
(((decide (x38 < ((cost_n : Nat) : Int))) = false) →
(R (Ending.returned (Value.bool true)) w37)))))))))))))))))))))))))))))))))) :
    Calls Tryd.prog 37 #[(.slice cost cost_n cost_c), (.slice m m_n m_c), (.agg #[(.slice p_RowPrices p_RowPrices_n p_RowPrices_c), (.slice p_ColumnPrices p_ColumnPrices_n p_ColumnPrices_c), (.slice p_HallRows p_HallRows_n p_HallRows_c)])] w R :=
  calls_of_vc an37 Tryd.func37 rfl (by kernel_rfl) (by kernel_rfl) (Eq.mp (by kernel_rfl) h)

/-- samaritan/certificate.provesCount -/
def an38 : An := (.seq (.reg []) (.seq (.reg [(2, 1, false)]) (.seq (.seq (.reg []) (.blk (.loop [(21, .int .i64)] (.seq (.reg [(0, 0, true)]) (.seq (.cond .nil .nil) (.seq (.blk (.seq (.reg []) (.seq (.seq (.reg [(1, 0, true), (6, 0, true), (10, 0, true), (19, 0, true)]) (.cond (.seq (.reg []) .nil) .nil)) (.seq (.reg []) (.blk (.loop [(53, .int .i64)] (.seq (.reg [(0, 0, true)]) (.seq (.cond .nil .nil) (.cut [] (.blk (.seq (.reg []) (.seq (.reg [(1, 0, true)]) (.cond (.reg []) .nil)))) (.reg [])))))))))) (.reg []))))))) (.seq (.reg []) (.seq (.seq (.reg []) (.blk (.loop [(12, .int .i64), (70, .int .i64)] (.seq (.reg [(0, 0, true)]) (.seq (.cond .nil .nil) (.cut [(12, .int .i64)] (.blk (.seq (.reg [(1, 0, true)]) (.seq (.reg []) (.cond (.reg []) .nil)))) (.reg []))))))) (.seq (.reg [(2, 0, true)]) .nil))))))
set_option maxRecDepth 100000 in
theorem nf38 (cost : Option Addr) (cost_n : Nat) (cost_c : Nat) (unassigned : Int) (p_RowPrices : Option Addr) (p_RowPrices_n : Nat) (p_RowPrices_c : Nat) (p_ColumnPrices : Option Addr) (p_ColumnPrices_n : Nat) (p_ColumnPrices_c : Nat) (p_HallRows : Option Addr) (p_HallRows_n : Nat) (p_HallRows_c : Nat) (w : World) (R : Ending → World → Prop) (h :
(∀ w1 : World, ((w1 = (w.alloc (Obj.cells #[(Value.slice p_RowPrices p_RowPrices_n p_RowPrices_c), (Value.slice p_ColumnPrices p_ColumnPrices_n p_ColumnPrices_c), (Value.slice p_HallRows p_HallRows_n p_HallRows_c)] 28 (0, 0)))) →
(Calls Tryd.prog 36 #[(Value.slice cost cost_n cost_c)] w1 (fun (e3 : Ending) => (fun (w4 : World) => (∃ x5 : Int, ((e3 = (Ending.returned (Value.int IntKind.i64 x5))) ∧
(RunOk Tryd.prog (Nf.Hold (Instr.makeSlice 73 (Value.int IntKind.i64 x5) (Value.int IntKind.i64 x5))) w4 (fun (v6 : Value) => (fun (w7 : World) => (∃ o8 : Option Addr, (∃ n9 : Nat, (∃ n10 : Nat, ((v6 = (Value.slice o8 n9 n10)) ∧
(∃ o11 : Option Addr, (∃ n12 : Nat, (∃ n13 : Nat, (((w7.cell? (⟨(hs w), 2, none⟩ : Addr)) = (some (Value.slice o11 n12 n13))) ∧
(∃ k14 : (Nat → (Int → (World → Prop))), ((∃ n15 : Nat, (k14 n15 0 w7)) ∧
(∀ n16 : Nat, ((Nat → Value) →
(∀ w18 : World, (∀ x19 : Int, ((k14 n16 x19 w18) →
((((decide (x19 < ((n12 : Nat) : Int))) = true) →
(∃ a22 : Addr, ((o11 = (some a22)) ∧
((((0 : Int) ≤ x19) ∧
(x19 < ((n12 : Nat) : Int))) ∧
(∃ x23 : Int, (((w18.cell? (Addr.add a22 ((x19).toNat * 1))) = (some (Value.int IntKind.i64 x23))) ∧
((((decide (x23 < 0)) = true) →
(R (Ending.returned (Value.bool false)) w18)) ∧
(((decide (x23 < 0)) = false) →
((((decide (x23 ≥ ((cost_n : Nat) : Int))) = true) →
(R (Ending.returned (Value.bool false)) w18)) ∧
(((decide (x23 ≥ ((cost_n : Nat) : Int))) = false) →
((((decide (x19 > 0)) = true) →
(∃ o29 : Option Addr, (∃ n30 : Nat, (∃ n31 : Nat, (((w18.cell? (⟨(hs w), 2, none⟩ : Addr)) = (some (Value.slice o29 n30 n31))) ∧
(∃ a32 : Addr, ((o29 = (some a32)) ∧
((((0 : Int) ≤ (IntKind.wrap IntKind.i64 (x19 - 1))) ∧
((IntKind.wrap IntKind.i64 (x19 - 1)) < ((n30 : Nat) : Int))) ∧
(∃ x33 : Int, (((w18.cell? (Addr.add a32 (((IntKind.wrap IntKind.i64 (x19 - 1))).toNat * 1))) = (some (Value.int IntKind.i64 x33))) ∧
((((decide (x23 ≤ x33)) = true) →
(R (Ending.returned (Value.bool false)) w18)) ∧
(((decide (x23 ≤ x33)) = false) →
(∃ a36 : Addr, ((cost = (some a36)) ∧
((((0 : Int) ≤ x23) ∧
(x23 < ((cost_n : Nat) : Int))) ∧
(∃ o37 : Option Addr, (∃ n38 : Nat, (∃ n39 : Nat, (((w18.cell? (Addr.add a36 ((x23).toNat * 1))) = (some (Value.slice o37 n38 n39))) ∧
(∃ k40 : (Nat → (Int → (World → Prop))), ((∃ n41 : Nat, (k40 n41 0 w18)) ∧
(∀ n42 : Nat, ((Nat → Value) →
(∀ w44 : World, (∀ x45 : Int, ((k40 n42 x45 w44) →
((((decide (x45 < ((n38 : Nat) : Int))) = true) →
(∀ k48 : (World → Prop), ((∀ w50 : World, (((Nat → Value) →
(∃ n53 : Nat, ((n53 < n42) ∧
(k40 n53 (IntKind.wrap IntKind.i64 (x45 + 1)) w50)))) →
(k48 w50))) →
(∃ a54 : Addr, ((o37 = (some a54)) ∧
((((0 : Int) ≤ x45) ∧
(x45 < ((n38 : Nat) : Int))) ∧
(∃ x55 : Int, (((w44.cell? (Addr.add a54 ((x45).toNat * 1))) = (some (Value.int IntKind.i64 x55))) ∧
((((!(decide (x55 = 4611686018427387904))) = true) →
(∃ a57 : Addr, ((o8 = (some a57)) ∧
((((0 : Int) ≤ x45) ∧
(x45 < ((n9 : Nat) : Int))) ∧
((Nf.There w44 (Addr.add a57 ((x45).toNat * 1)) 1) ∧
(∀ w58 : World, ((w58 = (Nf.setCells w44 (Addr.add a57 ((x45).toNat * 1)) [(Value.bool true)] 0)) →
(k48 w58)))))))) ∧
(((!(decide (x55 = 4611686018427387904))) = false) →
(k48 w44))))))))))) ∧
(((decide (x45 < ((n38 : Nat) : Int))) = false) →
(∃ n62 : Nat, ((n62 < n16) ∧
(k14 n62 (IntKind.wrap IntKind.i64 (x19 + 1)) w44))))))))))))))))))))))))))))))) ∧
(((decide (x19 > 0)) = false) →
(∃ a64 : Addr, ((cost = (some a64)) ∧
((((0 : Int) ≤ x23) ∧
(x23 < ((cost_n : Nat) : Int))) ∧
(∃ o65 : Option Addr, (∃ n66 : Nat, (∃ n67 : Nat, (((w18.cell? (Addr.add a64 ((x23).toNat * 1))) = (some (Value.slice o65 n66 n67))) ∧
(∃ k68 : (Nat → (Int → (World → Prop))), ((∃ n69 : Nat, (k68 n69 0 w18)) ∧
(∀ n70 : Nat, ((Nat → Value) →
(∀ w72 : World, (∀ x73 : Int, ((k68 n70 x73 w72) →
((((decide (x73 < ((n66 : Nat) : Int))) = true) →
(∀ k76 : (World → Prop), ((∀ w78 : World, (((Nat → Value) →
(∃ n81 : Nat, ((n81 < n70) ∧
(k68 n81 (IntKind.wrap IntKind.i64 (x73 + 1)) w78)))) →
(k76 w78))) →
(∃ a82 : Addr, ((o65 = (some a82)) ∧
((((0 : Int) ≤ x73) ∧
(x73 < ((n66 : Nat) : Int))) ∧
(∃ x83 : Int, (((w72.cell? (Addr.add a82 ((x73).toNat * 1))) = (some (Value.int IntKind.i64 x83))) ∧
((((!(decide (x83 = 4611686018427387904))) = true) →
(∃ a85 : Addr, ((o8 = (some a85)) ∧
((((0 : Int) ≤ x73) ∧
(x73 < ((n9 : Nat) : Int))) ∧
((Nf.There w72 (Addr.add a85 ((x73).toNat * 1)) 1) ∧
(∀ w86 : World, ((w86 = (Nf.setCells w72 (Addr.add a85 ((x73).toNat * 1)) [(Value.bool true)] 0)) →
(k76 w86)))))))) ∧
(((!(decide (x83 = 4611686018427387904))) = false) →
(k76 w72))))))))))) ∧
(((decide (x73 < ((n66 : Nat) : Int))) = false) →
(∃ n90 : Nat, ((n90 < n16) ∧
(k14 n90 (IntKind.wrap IntKind.i64 (x19 + 1)) w72))))))))))))))))))))))))))))))) ∧
(((decide (x19 < ((n12 : Nat) : Int))) = false) →
(∃ o92 : Option Addr, (∃ n93 : Nat, (∃ n94 : Nat, (((w18.cell? (⟨(hs w), 2, none⟩ : Addr)) = (some (Value.slice o92 n93 n94))) ∧
(∃ k95 : (Nat → (Int → (Int → (World → Prop)))), ((∃ n96 : Nat, (k95 n96 ((n93 : Nat) : Int) 0 w18)) ∧
(∀ n97 : Nat, ((Nat → Value) →
(∀ w99 : World, (∀ x100 : Int, (∀ x101 : Int, ((k95 n97 x100 x101 w99) →
((((decide (x101 < ((n9 : Nat) : Int))) = true) →
(∀ k104 : (Int → (World → Prop)), ((∀ w106 : World, (∀ x107 : Int, (((Nat → Value) →
(∃ n110 : Nat, ((n110 < n97) ∧
(k95 n110 x107 (IntKind.wrap IntKind.i64 (x101 + 1)) w106)))) →
(k104 x107 w106)))) →
(∃ a111 : Addr, ((o8 = (some a111)) ∧
((((0 : Int) ≤ x101) ∧
(x101 < ((n9 : Nat) : Int))) ∧
(∃ b112 : Bool, (((w99.cell? (Addr.add a111 ((x101).toNat * 1))) = (some (Value.bool b112))) ∧
(((b112 = true) →
(k104 (IntKind.wrap IntKind.i64 (x100 - 1)) w99)) ∧
((b112 = false) →
(k104 x100 w99))))))))))) ∧
(((decide (x101 < ((n9 : Nat) : Int))) = false) →
((((decide (x100 = unassigned)) = true) →
(R (Ending.returned (Value.bool true)) w99)) ∧
(((decide (x100 = unassigned)) = false) →
(R (Ending.returned (Value.bool false)) w99))))))))))))))))))))))))))))))))))))))))))))) :
    Calls Tryd.prog 38 #[(.slice cost cost_n cost_c), (.int .i64 unassigned), (.agg #[(.slice p_RowPrices p_RowPrices_n p_RowPrices_c), (.slice p_ColumnPrices p_ColumnPrices_n p_ColumnPrices_c), (.slice p_HallRows p_HallRows_n p_HallRows_c)])] w R :=
  calls_of_vc an38 Tryd.func38 rfl (by kernel_rfl) (by kernel_rfl) (Eq.mp (by kernel_rfl) h)

/-- samaritan/certificate.line -/
def an41 : An := (.seq (.reg []) (.seq (.reg []) (.seq (.reg []) (.seq (.seq (.reg []) (.blk (.loop [(12, .int .i64)] (.seq (.reg [(0, 0, true)]) (.seq (.cond .nil .nil) (.seq (.blk (.seq (.reg []) (.seq (.reg []) (.reg [])))) (.reg []))))))) (.seq (.reg []) (.seq (.reg []) .nil))))))
set_option maxRecDepth 100000 in
theorem nf41 (word : ByteArray) (numbers : Option Addr) (numbers_n : Nat) (numbers_c : Nat) (w : World) (R : Ending → World → Prop) (h :
(∀ w1 : World, ((w1 = (w.alloc (Obj.cells #[(Value.pointer none), (Value.slice none 0 0)] 84 (0, 0)))) →
(Calls Tryd.prog 51 #[(Value.pointer (some (⟨(hs w), 0, none⟩ : Addr))), (Value.string word)] w1 (fun (e3 : Ending) => (fun (w4 : World) => (∃ x5 : Int, (∃ v6 : Value, ((e3 = (Ending.returned (Value.tuple #[(Value.int IntKind.i64 x5), v6]))) ∧
(∃ k7 : (Nat → (Int → (World → Prop))), ((∃ n8 : Nat, (k7 n8 0 w4)) ∧
(∀ n9 : Nat, ((Nat → Value) →
(∀ w11 : World, (∀ x12 : Int, ((k7 n9 x12 w11) →
((((decide (x12 < ((numbers_n : Nat) : Int))) = true) →
(∃ a15 : Addr, ((numbers = (some a15)) ∧
((((0 : Int) ≤ x12) ∧
(x12 < ((numbers_n : Nat) : Int))) ∧
(∃ x16 : Int, (((w11.cell? (Addr.add a15 ((x12).toNat * 1))) = (some (Value.int IntKind.i64 x16))) ∧
(Calls Tryd.prog 52 #[(Value.pointer (some (⟨(hs w), 0, none⟩ : Addr))), (Value.int IntKind.u8 32)] w11 (fun (e17 : Ending) => (fun (w18 : World) => (∃ v19 : Value, ((e17 = (Ending.returned v19)) ∧
(Calls Tryd.prog 53 #[(Value.int IntKind.i64 x16), (Value.int IntKind.i64 10)] w18 (fun (e20 : Ending) => (fun (w21 : World) => (∃ s22 : ByteArray, ((e20 = (Ending.returned (Value.string s22))) ∧
(Calls Tryd.prog 51 #[(Value.pointer (some (⟨(hs w), 0, none⟩ : Addr))), (Value.string s22)] w21 (fun (e23 : Ending) => (fun (w24 : World) => (∃ x25 : Int, (∃ v26 : Value, ((e23 = (Ending.returned (Value.tuple #[(Value.int IntKind.i64 x25), v26]))) ∧
(∃ n27 : Nat, ((n27 < n9) ∧
(k7 n27 (IntKind.wrap IntKind.i64 (x12 + 1)) w24))))))))))))))))))))))))) ∧
(((decide (x12 < ((numbers_n : Nat) : Int))) = false) →
(Calls Tryd.prog 52 #[(Value.pointer (some (⟨(hs w), 0, none⟩ : Addr))), (Value.int IntKind.u8 10)] w11 (fun (e29 : Ending) => (fun (w30 : World) => (∃ v31 : Value, ((e29 = (Ending.returned v31)) ∧
(Calls Tryd.prog 54 #[(Value.pointer (some (⟨(hs w), 0, none⟩ : Addr)))] w30 (fun (e32 : Ending) => (fun (w33 : World) => (∃ s34 : ByteArray, ((e32 = (Ending.returned (Value.string s34))) ∧
(R (Ending.returned (Value.string s34)) w33))))))))))))))))))))))))))))) :
    Calls Tryd.prog 41 #[(.string word), (.slice numbers numbers_n numbers_c)] w R :=
  calls_of_vc an41 Tryd.func41 rfl (by kernel_rfl) (by kernel_rfl) (Eq.mp (by kernel_rfl) h)

/-- samaritan/samaritanref37.num -/
def an42 : An := (.seq (.reg []) (.seq (.seq (.reg [(1, 0, true)]) (.cond (.seq (.seq (.reg [(1, 0, true)]) (.cond (.seq (.reg [(3, 1, false)]) .nil) .nil)) (.seq (.reg [(7, 1, false)]) .nil)) .nil)) (.seq (.seq (.reg [(1, 0, true)]) (.cond (.seq (.reg [(4, 1, false)]) .nil) .nil)) (.seq (.reg [(6, 1, false)]) .nil))))
set_option maxRecDepth 100000 in
theorem nf42 (n : Int) (w : World) (R : Ending → World → Prop) (h :
((((decide (n < 0)) = true) →
((((decide (n > (-10))) = true) →
(Calls Tryd.prog 42 #[(Value.int IntKind.i64 (IntKind.wrap IntKind.i64 (0 - n)))] w (fun (e3 : Ending) => (fun (w4 : World) => (∃ s5 : ByteArray, ((e3 = (Ending.returned (Value.string s5))) ∧
(RunOk Tryd.prog (Nf.Hold (Nf.binOpSem BinOp.add 9 (Operand.const (Value.string (ByteArray.mk #[(45 : UInt8)]))) (Operand.tmp 9) (Value.string (ByteArray.mk #[(45 : UInt8)])) (Value.string s5))) w4 (fun (v6 : Value) => (fun (w7 : World) => (∃ s8 : ByteArray, ((v6 = (Value.string s8)) ∧
(R (Ending.returned (Value.string s8)) w7)))))))))))) ∧
(((decide (n > (-10))) = false) →
(Calls Tryd.prog 42 #[(Value.int IntKind.i64 (IntKind.wrap IntKind.i64 (Int.tdiv n 10)))] w (fun (e10 : Ending) => (fun (w11 : World) => (∃ s12 : ByteArray, ((e10 = (Ending.returned (Value.string s12))) ∧
(Calls Tryd.prog 42 #[(Value.int IntKind.i64 (IntKind.wrap IntKind.i64 (0 - (Int.tmod n 10))))] w11 (fun (e13 : Ending) => (fun (w14 : World) => (∃ s15 : ByteArray, ((e13 = (Ending.returned (Value.string s15))) ∧
(RunOk Tryd.prog (Nf.Hold (Nf.binOpSem BinOp.add 9 (Operand.tmp 13) (Operand.tmp 17) (Value.string s12) (Value.string s15))) w14 (fun (v16 : Value) => (fun (w17 : World) => (∃ s18 : ByteArray, ((v16 = (Value.string s18)) ∧
(R (Ending.returned (Value.string s18)) w17))))))))))))))))))) ∧
(((decide (n < 0)) = false) →
((((decide (n < 10)) = true) →
(∀ w21 : World, ((w21 = (w.alloc (Obj.cells #[(Value.int IntKind.u8 (IntKind.wrap IntKind.u8 (IntKind.wrap IntKind.i64 (48 + n))))] 5 (0, 0)))) →
(RunOk Tryd.prog (Nf.Hold (convert 82 9 (Value.slice (some (⟨(hs w), 0, none⟩ : Addr)) 1 1))) w21 (fun (v23 : Value) => (fun (w24 : World) => (∃ s25 : ByteArray, ((v23 = (Value.string s25)) ∧
(R (Ending.returned (Value.string s25)) w24))))))))) ∧
(((decide (n < 10)) = false) →
(Calls Tryd.prog 42 #[(Value.int IntKind.i64 (IntKind.wrap IntKind.i64 (Int.tdiv n 10)))] w (fun (e27 : Ending) => (fun (w28 : World) => (∃ s29 : ByteArray, ((e27 = (Ending.returned (Value.string s29))) ∧
(Calls Tryd.prog 42 #[(Value.int IntKind.i64 (Int.tmod n 10))] w28 (fun (e30 : Ending) => (fun (w31 : World) => (∃ s32 : ByteArray, ((e30 = (Ending.returned (Value.string s32))) ∧
(RunOk Tryd.prog (Nf.Hold (Nf.binOpSem BinOp.add 9 (Operand.tmp 28) (Operand.tmp 31) (Value.string s29) (Value.string s32))) w31 (fun (v33 : Value) => (fun (w34 : World) => (∃ s35 : ByteArray, ((v33 = (Value.string s35)) ∧
(R (Ending.returned (Value.string s35)) w34))))))))))))))))))))) :
    Calls Tryd.prog 42 #[(.int .i64 n)] w R :=
  calls_of_vc an42 Tryd.func42 rfl (by kernel_rfl) (by kernel_rfl) (Eq.mp (by kernel_rfl) h)

/-- samaritan/certificate.best -/
def an44 : An := (.seq (.reg []) (.seq (.reg []) (.seq (.seq (.reg [(1, 0, true)]) (.cond (.seq (.reg []) .nil) .nil)) (.seq (.reg []) (.seq (.reg [(3, 0, true)]) .nil)))))
set_option maxRecDepth 100000 in
theorem nf44 (cost : Option Addr) (cost_n : Nat) (cost_c : Nat) (w : World) (R : Ending → World → Prop) (h :
(Calls Tryd.prog 21 #[(Value.slice cost cost_n cost_c)] w (fun (e1 : Ending) => (fun (w2 : World) => (∃ o3 : Option Addr, (∃ n4 : Nat, (∃ n5 : Nat, (∃ x6 : Int, (∃ x7 : Int, ((e1 = (Ending.returned (Value.tuple #[(Value.slice o3 n4 n5), (Value.int IntKind.i64 x6), (Value.int IntKind.i64 x7)]))) ∧
((((!(decide (x7 = 0))) = true) →
(R (Ending.returned (Value.tuple #[(Value.int IntKind.i64 0), (Value.int IntKind.i64 0), (Value.bool false)])) w2)) ∧
(((!(decide (x7 = 0))) = false) →
(Calls Tryd.prog 27 #[(Value.slice cost cost_n cost_c), (Value.slice o3 n4 n5)] w2 (fun (e10 : Ending) => (fun (w11 : World) => (∃ x12 : Int, (∃ x13 : Int, (∃ x14 : Int, ((e10 = (Ending.returned (Value.tuple #[(Value.int IntKind.i64 x12), (Value.int IntKind.i64 x13), (Value.int IntKind.i64 x14)]))) ∧
((((decide (x14 = 0)) = true) →
(R (Ending.returned (Value.tuple #[(Value.int IntKind.i64 x12), (Value.int IntKind.i64 x6), (Value.bool true)])) w11)) ∧
(((decide (x14 = 0)) = false) →
(R (Ending.returned (Value.tuple #[(Value.int IntKind.i64 x12), (Value.int IntKind.i64 x6), (Value.bool false)])) w11)))))))))))))))))))))) :
    Calls Tryd.prog 44 #[(.slice cost cost_n cost_c)] w R :=
  calls_of_vc an44 Tryd.func44 rfl (by kernel_rfl) (by kernel_rfl) (Eq.mp (by kernel_rfl) h)

/-- samaritan/certificate.without -/
def an45 : An := (.seq (.reg []) (.seq (.reg []) (.seq (.seq (.reg []) (.blk (.loop [(7, .slice), (13, .int .i64)] (.seq (.reg [(0, 0, true)]) (.seq (.cond .nil .nil) (.cut [(7, .slice)] (.blk (.seq (.reg []) (.seq (.seq (.reg [(2, 0, true)]) (.cond .nil .nil)) (.seq (.reg []) (.seq (.reg [(3, 2, false), (4, 1, false)]) (.reg [(5, 2, false), (6, 1, false), (8, 1, false)])))))) (.reg []))))))) (.seq (.reg []) .nil))))
set_option maxRecDepth 100000 in
theorem nf45 (cost : Option Addr) (cost_n : Nat) (cost_c : Nat) (row : Int) (column : Int) (w : World) (R : Ending → World → Prop) (h :
(∃ k1 : (Nat → (Option Addr → (Nat → (Nat → (Int → (World → Prop)))))), ((∃ n2 : Nat, (k1 n2 none 0 0 0 w)) ∧
(∀ n3 : Nat, ((Nat → Value) →
(∀ w5 : World, (∀ o6 : Option Addr, (∀ n7 : Nat, (∀ n8 : Nat, (∀ x9 : Int, ((k1 n3 o6 n7 n8 x9 w5) →
((((decide (x9 < ((cost_n : Nat) : Int))) = true) →
(∀ k12 : (Option Addr → (Nat → (Nat → (World → Prop)))), ((∀ w14 : World, (∀ o15 : Option Addr, (∀ n16 : Nat, (∀ n17 : Nat, (((Nat → Value) →
(∃ n20 : Nat, ((n20 < n3) ∧
(k1 n20 o15 n16 n17 (IntKind.wrap IntKind.i64 (x9 + 1)) w14)))) →
(k12 o15 n16 n17 w14)))))) →
(∃ a21 : Addr, ((cost = (some a21)) ∧
((((0 : Int) ≤ x9) ∧
(x9 < ((cost_n : Nat) : Int))) ∧
(∃ o22 : Option Addr, (∃ n23 : Nat, (∃ n24 : Nat, (((w5.cell? (Addr.add a21 ((x9).toNat * 1))) = (some (Value.slice o22 n23 n24))) ∧
((((decide (x9 = row)) = true) →
(k12 o6 n7 n8 w5)) ∧
(((decide (x9 = row)) = false) →
((((0 : Int) ≤ column) ∧
(column ≤ ((n24 : Nat) : Int))) ∧
(RunOk Tryd.prog (Nf.Hold (Builtin.append_ #[26, 26] 26 #[(Value.slice none 0 0), (Value.slice (if (n24 = 0) then o22 else (Option.map (fun (x : Addr) => x) o22)) ((column).toNat - 0) (n24 - 0))])) w5 (fun (v27 : Value) => (fun (w28 : World) => (∃ o29 : Option Addr, (∃ n30 : Nat, (∃ n31 : Nat, ((v27 = (Value.slice o29 n30 n31)) ∧
((((0 : Int) ≤ (IntKind.wrap IntKind.i64 (column + 1))) ∧
((IntKind.wrap IntKind.i64 (column + 1)) ≤ ((n23 : Nat) : Int))) ∧
(RunOk Tryd.prog (Nf.Hold (Builtin.append_ #[26, 26] 26 #[(Value.slice o29 n30 n31), (Value.slice (if (n24 = ((IntKind.wrap IntKind.i64 (column + 1))).toNat) then o22 else (Option.map (fun (x : Addr) => (Addr.add x (((IntKind.wrap IntKind.i64 (column + 1))).toNat * 1))) o22)) (n23 - ((IntKind.wrap IntKind.i64 (column + 1))).toNat) (n24 - ((IntKind.wrap IntKind.i64 (column + 1))).toNat))])) w28 (fun (v32 : Value) => (fun (w33 : World) => (∃ o34 : Option Addr, (∃ n35 : Nat, (∃ n36 : Nat, ((v32 = (Value.slice o34 n35 n36)) ∧
(∀ w37 : World, ((w37 = (w33.alloc (Obj.cells #[(Value.slice o34 n35 n36)] 26 (0, 0)))) →
(RunOk Tryd.prog (Nf.Hold (Builtin.append_ #[22, 22] 22 #[(Value.slice o6 n7 n8), (Value.slice (some (⟨(hs w33), 0, none⟩ : Addr)) 1 1)])) w37 (fun (v39 : Value) => (fun (w40 : World) => (∃ o41 : Option Addr, (∃ n42 : Nat, (∃ n43 : Nat, ((v39 = (Value.slice o41 n42 n43)) ∧
(k12 o41 n42 n43 w40)))))))))))))))))))))))))))))))))))))) ∧
(((decide (x9 < ((cost_n : Nat) : Int))) = false) →
(R (Ending.returned (Value.slice o6 n7 n8)) w5)))))))))))))) :
    Calls Tryd.prog 45 #[(.slice cost cost_n cost_c), (.int .i64 row), (.int .i64 column)] w R :=
  calls_of_vc an45 Tryd.func45 rfl (by kernel_rfl) (by kernel_rfl) (Eq.mp (by kernel_rfl) h)

/-- samaritan/certificate.rowsOf -/
def an46 : An := (.seq (.reg []) (.seq (.reg [(1, 1, false)]) (.seq (.seq (.reg []) (.blk (.loop [(13, .int .i64)] (.seq (.reg [(0, 0, true)]) (.seq (.cond .nil .nil) (.seq (.blk (.seq (.reg []) (.reg []))) (.reg []))))))) (.seq (.seq (.reg []) (.blk (.loop [(22, .int .i64)] (.seq (.reg [(0, 0, true)]) (.seq (.cond .nil .nil) (.cut [] (.blk (.seq (.reg []) (.seq (.reg [(1, 0, true)]) (.cond (.reg []) .nil)))) (.reg []))))))) (.seq (.reg []) .nil)))))
set_option maxRecDepth 100000 in
theorem nf46 (columns : Int) (m : Option Addr) (m_n : Nat) (m_c : Nat) (w : World) (R : Ending → World → Prop) (h :
(RunOk Tryd.prog (Nf.Hold (Instr.makeSlice 23 (Value.int IntKind.i64 columns) (Value.int IntKind.i64 columns))) w (fun (v1 : Value) => (fun (w2 : World) => (∃ o3 : Option Addr, (∃ n4 : Nat, (∃ n5 : Nat, ((v1 = (Value.slice o3 n4 n5)) ∧
(∃ k6 : (Nat → (Int → (World → Prop))), ((∃ n7 : Nat, (k6 n7 0 w2)) ∧
(∀ n8 : Nat, ((Nat → Value) →
(∀ w10 : World, (∀ x11 : Int, ((k6 n8 x11 w10) →
((((decide (x11 < ((n4 : Nat) : Int))) = true) →
(∃ a14 : Addr, ((o3 = (some a14)) ∧
((((0 : Int) ≤ x11) ∧
(x11 < ((n4 : Nat) : Int))) ∧
((Nf.There w10 (Addr.add a14 ((x11).toNat * 1)) 1) ∧
(∀ w15 : World, ((w15 = (Nf.setCells w10 (Addr.add a14 ((x11).toNat * 1)) [(Value.int IntKind.i64 (-1))] 0)) →
(∃ n17 : Nat, ((n17 < n8) ∧
(k6 n17 (IntKind.wrap IntKind.i64 (x11 + 1)) w15)))))))))) ∧
(((decide (x11 < ((n4 : Nat) : Int))) = false) →
(∃ k19 : (Nat → (Int → (World → Prop))), ((∃ n20 : Nat, (k19 n20 0 w10)) ∧
(∀ n21 : Nat, ((Nat → Value) →
(∀ w23 : World, (∀ x24 : Int, ((k19 n21 x24 w23) →
((((decide (x24 < ((m_n : Nat) : Int))) = true) →
(∀ k27 : (World → Prop), ((∀ w29 : World, (((Nat → Value) →
(∃ n32 : Nat, ((n32 < n21) ∧
(k19 n32 (IntKind.wrap IntKind.i64 (x24 + 1)) w29)))) →
(k27 w29))) →
(∃ a33 : Addr, ((m = (some a33)) ∧
((((0 : Int) ≤ x24) ∧
(x24 < ((m_n : Nat) : Int))) ∧
(∃ x34 : Int, (((w23.cell? (Addr.add a33 ((x24).toNat * 1))) = (some (Value.int IntKind.i64 x34))) ∧
((((decide (x34 ≥ 0)) = true) →
(∃ a36 : Addr, ((o3 = (some a36)) ∧
((((0 : Int) ≤ x34) ∧
(x34 < ((n4 : Nat) : Int))) ∧
((Nf.There w23 (Addr.add a36 ((x34).toNat * 1)) 1) ∧
(∀ w37 : World, ((w37 = (Nf.setCells w23 (Addr.add a36 ((x34).toNat * 1)) [(Value.int IntKind.i64 x24)] 0)) →
(k27 w37)))))))) ∧
(((decide (x34 ≥ 0)) = false) →
(k27 w23))))))))))) ∧
(((decide (x24 < ((m_n : Nat) : Int))) = false) →
(R (Ending.returned (Value.slice o3 n4 n5)) w23))))))))))))))))))))))))))) :
    Calls Tryd.prog 46 #[(.int .i64 columns), (.slice m m_n m_c)] w R :=
  calls_of_vc an46 Tryd.func46 rfl (by kernel_rfl) (by kernel_rfl) (Eq.mp (by kernel_rfl) h)

/-- samaritan/certificate.ExtraCost -/
def an26 : An := (.seq (.reg []) (.seq (.reg [(5, 0, true)]) (.seq (.seq (.reg [(4, 0, true), (10, 0, true), (14, 0, true), (20, 0, true)]) (.cond (.seq (.reg []) .nil) .nil)) (.seq (.reg []) (.seq (.seq (.reg [(1, 0, true)]) (.cond (.seq (.reg []) .nil) .nil)) (.seq (.reg [(8, 0, true)]) (.seq (.seq (.reg [(6, 0, true)]) (.cond (.seq (.reg []) .nil) .nil)) (.seq (.reg []) .nil))))))))
set_option maxRecDepth 100000 in
theorem nf26 (cost : Option Addr) (cost_n : Nat) (cost_c : Nat) (row : Int) (column : Int) (w : World) (R : Ending → World → Prop) (h :
(Calls Tryd.prog 44 #[(Value.slice cost cost_n cost_c)] w (fun (e1 : Ending) => (fun (w2 : World) => (∃ x3 : Int, (∃ x4 : Int, (∃ b5 : Bool, ((e1 = (Ending.returned (Value.tuple #[(Value.int IntKind.i64 x3), (Value.int IntKind.i64 x4), (Value.bool b5)]))) ∧
(((b5 = true) →
((((decide (row < 0)) = true) →
(R (Ending.returned (Value.int IntKind.i64 4611686018427387904)) w2)) ∧
(((decide (row < 0)) = false) →
((((decide (row ≥ ((cost_n : Nat) : Int))) = true) →
(R (Ending.returned (Value.int IntKind.i64 4611686018427387904)) w2)) ∧
(((decide (row ≥ ((cost_n : Nat) : Int))) = false) →
((((decide (column < 0)) = true) →
(R (Ending.returned (Value.int IntKind.i64 4611686018427387904)) w2)) ∧
(((decide (column < 0)) = false) →
(Calls Tryd.prog 36 #[(Value.slice cost cost_n cost_c)] w2 (fun (e13 : Ending) => (fun (w14 : World) => (∃ x15 : Int, ((e13 = (Ending.returned (Value.int IntKind.i64 x15))) ∧
((((decide (column ≥ x15)) = true) →
(R (Ending.returned (Value.int IntKind.i64 4611686018427387904)) w14)) ∧
(((decide (column ≥ x15)) = false) →
(∃ a18 : Addr, ((cost = (some a18)) ∧
((((0 : Int) ≤ row) ∧
(row < ((cost_n : Nat) : Int))) ∧
(∃ o19 : Option Addr, (∃ n20 : Nat, (∃ n21 : Nat, (((w14.cell? (Addr.add a18 ((row).toNat * 1))) = (some (Value.slice o19 n20 n21))) ∧
(∃ a22 : Addr, ((o19 = (some a22)) ∧
((((0 : Int) ≤ column) ∧
(column < ((n20 : Nat) : Int))) ∧
(∃ x23 : Int, (((w14.cell? (Addr.add a22 ((column).toNat * 1))) = (some (Value.int IntKind.i64 x23))) ∧
((((decide (x23 = 4611686018427387904)) = true) →
(R (Ending.returned (Value.int IntKind.i64 4611686018427387904)) w14)) ∧
(((decide (x23 = 4611686018427387904)) = false) →
(Calls Tryd.prog 45 #[(Value.slice cost cost_n cost_c), (Value.int IntKind.i64 row), (Value.int IntKind.i64 column)] w14 (fun (e26 : Ending) => (fun (w27 : World) => (∃ o28 : Option Addr, (∃ n29 : Nat, (∃ n30 : Nat, ((e26 = (Ending.returned (Value.slice o28 n29 n30))) ∧
(Calls Tryd.prog 44 #[(Value.slice o28 n29 n30)] w27 (fun (e31 : Ending) => (fun (w32 : World) => (∃ x33 : Int, (∃ x34 : Int, (∃ b35 : Bool, ((e31 = (Ending.returned (Value.tuple #[(Value.int IntKind.i64 x33), (Value.int IntKind.i64 x34), (Value.bool b35)]))) ∧
(((b35 = true) →
((((!(decide ((IntKind.wrap IntKind.i64 (x33 + 1)) = x3))) = true) →
(R (Ending.returned (Value.int IntKind.i64 4611686018427387904)) w32)) ∧
(((!(decide ((IntKind.wrap IntKind.i64 (x33 + 1)) = x3))) = false) →
(R (Ending.returned (Value.int IntKind.i64 (IntKind.wrap IntKind.i64 ((IntKind.wrap IntKind.i64 (x23 + x34)) - x4)))) w32)))) ∧
((b35 = false) →
(R (Ending.returned (Value.int IntKind.i64 4611686018427387904)) w32))))))))))))))))))))))))))))))))))))))))))))) ∧
((b5 = false) →
(R (Ending.returned (Value.int IntKind.i64 4611686018427387904)) w2))))))))))) :
    Calls Tryd.prog 26 #[(.slice cost cost_n cost_c), (.int .i64 row), (.int .i64 column)] w R :=
  calls_of_vc an26 Tryd.func26 rfl (by kernel_rfl) (by kernel_rfl) (Eq.mp (by kernel_rfl) h)

/-- samaritan/certificate.Format -/
def an23 : An := (.seq (.reg []) (.seq (.reg [(3, 1, false)]) (.seq (.seq (.reg []) (.blk (.loop [(13, .int .i64)] (.seq (.reg [(0, 0, true)]) (.seq (.cond .nil .nil) (.seq (.blk (.seq (.reg []) (.reg []))) (.reg []))))))) (.seq (.regE [(6, 1, false), (9, 1, false)] (.take 0 (.take 1 (.take 3 (.take 4 (.take 7 (.eff (.one 2 (.eff (.one 5 (.eff (.alt (.one 6 (.eff (.one 8 (.eff (.one 9 (.take 10 .nil)))))) (.one 8 (.eff (.one 6 (.eff (.one 9 (.take 10 .nil))))))))))))))))) [2, 5, 6, 8, 9]) .nil))))
set_option maxRecDepth 100000 in
theorem nf23 (p_RowPrices : Option Addr) (p_RowPrices_n : Nat) (p_RowPrices_c : Nat) (p_ColumnPrices : Option Addr) (p_ColumnPrices_n : Nat) (p_ColumnPrices_c : Nat) (p_HallRows : Option Addr) (p_HallRows_n : Nat) (p_HallRows_c : Nat) (w : World) (R : Ending → World → Prop) (h :
(∀ w1 : World, ((w1 = (w.alloc (Obj.cells #[(Value.slice p_RowPrices p_RowPrices_n p_RowPrices_c), (Value.slice p_ColumnPrices p_ColumnPrices_n p_ColumnPrices_c), (Value.slice p_HallRows p_HallRows_n p_HallRows_c)] 28 (0, 0)))) →
(∃ o3 : Option Addr, (∃ n4 : Nat, (∃ n5 : Nat, (((w1.cell? (⟨(hs w), 2, none⟩ : Addr)) = (some (Value.slice o3 n4 n5))) ∧
(RunOk Tryd.prog (Nf.Hold (Instr.makeSlice 26 (Value.int IntKind.i64 ((n4 : Nat) : Int)) (Value.int IntKind.i64 ((n4 : Nat) : Int)))) w1 (fun (v6 : Value) => (fun (w7 : World) => (∃ o8 : Option Addr, (∃ n9 : Nat, (∃ n10 : Nat, ((v6 = (Value.slice o8 n9 n10)) ∧
(∃ o11 : Option Addr, (∃ n12 : Nat, (∃ n13 : Nat, (((w7.cell? (⟨(hs w), 2, none⟩ : Addr)) = (some (Value.slice o11 n12 n13))) ∧
(∃ k14 : (Nat → (Int → (World → Prop))), ((∃ n15 : Nat, (k14 n15 0 w7)) ∧
(∀ n16 : Nat, ((Nat → Value) →
(∀ w18 : World, (∀ x19 : Int, ((k14 n16 x19 w18) →
((((decide (x19 < ((n12 : Nat) : Int))) = true) →
(∃ a22 : Addr, ((o11 = (some a22)) ∧
((((0 : Int) ≤ x19) ∧
(x19 < ((n12 : Nat) : Int))) ∧
(∃ x23 : Int, (((w18.cell? (Addr.add a22 ((x19).toNat * 1))) = (some (Value.int IntKind.i64 x23))) ∧
(∃ a24 : Addr, ((o8 = (some a24)) ∧
((((0 : Int) ≤ x19) ∧
(x19 < ((n9 : Nat) : Int))) ∧
((Nf.There w18 (Addr.add a24 ((x19).toNat * 1)) 1) ∧
(∀ w25 : World, ((w25 = (Nf.setCells w18 (Addr.add a24 ((x19).toNat * 1)) [(Value.int IntKind.i64 x23)] 0)) →
(∃ n27 : Nat, ((n27 < n16) ∧
(k14 n27 (IntKind.wrap IntKind.i64 (x19 + 1)) w25))))))))))))))) ∧
(((decide (x19 < ((n12 : Nat) : Int))) = false) →
(∀ w29 : World, ((w29 = w18.drew) →
(∃ o31 : Option Addr, (∃ n32 : Nat, (∃ n33 : Nat, (((w29.cell? (⟨(hs w), 0, none⟩ : Addr)) = (some (Value.slice o31 n32 n33))) ∧
(∃ o34 : Option Addr, (∃ n35 : Nat, (∃ n36 : Nat, (((w29.cell? (⟨(hs w), 1, none⟩ : Addr)) = (some (Value.slice o34 n35 n36))) ∧
(Calls Tryd.prog 41 #[(Value.string (ByteArray.mk #[(114 : UInt8), (111 : UInt8), (119 : UInt8), (115 : UInt8)])), (Value.slice o31 n32 n33)] w29 (fun (e37 : Ending) => (fun (w38 : World) => (∃ s39 : ByteArray, ((e37 = (Ending.returned (Value.string s39))) ∧
((Nf.Kept w29 w38 (⟨(hs w), 1, none⟩ : Addr) 1) ∧
(Calls Tryd.prog 41 #[(Value.string (ByteArray.mk #[(99 : UInt8), (111 : UInt8), (108 : UInt8), (117 : UInt8), (109 : UInt8), (110 : UInt8), (115 : UInt8)])), (Value.slice o34 n35 n36)] w38 (fun (e40 : Ending) => (fun (w41 : World) => (∃ s42 : ByteArray, ((e40 = (Ending.returned (Value.string s42))) ∧
((RunOk Tryd.prog (Nf.Hold (Nf.binOpSem BinOp.add 9 (Operand.tmp 25) (Operand.tmp 28) (Value.string s39) (Value.string s42))) w41 (fun (v43 : Value) => (fun (w44 : World) => (∃ s45 : ByteArray, ((v43 = (Value.string s45)) ∧
(Calls Tryd.prog 41 #[(Value.string (ByteArray.mk #[(115 : UInt8), (104 : UInt8), (111 : UInt8), (114 : UInt8), (116 : UInt8)])), (Value.slice o8 n9 n10)] w44 (fun (e46 : Ending) => (fun (w47 : World) => (∃ s48 : ByteArray, ((e46 = (Ending.returned (Value.string s48))) ∧
(RunOk Tryd.prog (Nf.Hold (Nf.binOpSem BinOp.add 9 (Operand.tmp 29) (Operand.tmp 31) (Value.string s45) (Value.string s48))) w47 (fun (v49 : Value) => (fun (w50 : World) => (∃ s51 : ByteArray, ((v49 = (Value.string s51)) ∧
(R (Ending.returned (Value.string s51)) w50)))))))))))))))) ∧
(Calls Tryd.prog 41 #[(Value.string (ByteArray.mk #[(115 : UInt8), (104 : UInt8), (111 : UInt8), (114 : UInt8), (116 : UInt8)])), (Value.slice o8 n9 n10)] w41 (fun (e52 : Ending) => (fun (w53 : World) => (∃ s54 : ByteArray, ((e52 = (Ending.returned (Value.string s54))) ∧
(RunOk Tryd.prog (Nf.Hold (Nf.binOpSem BinOp.add 9 (Operand.tmp 25) (Operand.tmp 28) (Value.string s39) (Value.string s42))) w53 (fun (v55 : Value) => (fun (w56 : World) => (∃ s57 : ByteArray, ((v55 = (Value.string s57)) ∧
(RunOk Tryd.prog (Nf.Hold (Nf.binOpSem BinOp.add 9 (Operand.tmp 29) (Operand.tmp 31) (Value.string s57) (Value.string s54))) w56 (fun (v58 : Value) => (fun (w59 : World) => (∃ s60 : ByteArray, ((v58 = (Value.string s60)) ∧
(R (Ending.returned (Value.string s60)) w59))))))))))))))))))))))))))))))))))))))))))))))))))))))))))))))))) :
    Calls Tryd.prog 23 #[(.agg #[(.slice p_RowPrices p_RowPrices_n p_RowPrices_c), (.slice p_ColumnPrices p_ColumnPrices_n p_ColumnPrices_c), (.slice p_HallRows p_HallRows_n p_HallRows_c)])] w R :=
  calls_of_vc an23 Tryd.func23 rfl (by kernel_rfl) (by kernel_rfl) (Eq.mp (by kernel_rfl) h)

/-- samaritan/samaritanref37.Text -/
def an24 : An := (.seq (.reg []) (.seq (.reg []) (.seq (.seq (.reg []) (.blk (.loop [(3, .str), (4, .int .i64)] (.seq (.seq (.reg [(4, 0, true)]) (.cond .nil .nil)) (.seq (.blk (.reg [(1, 1, false), (8, 1, false)])) (.reg [])))))) (.seq (.reg [(1, 1, false)]) (.seq (.seq (.reg []) (.blk (.loop [(3, .str), (5, .int .i64)] (.seq (.seq (.reg [(4, 0, true)]) (.cond .nil .nil)) (.seq (.blk (.reg [(1, 1, false), (8, 1, false)])) (.reg [])))))) (.seq (.reg [(1, 1, false)]) (.seq (.seq (.reg []) (.blk (.loop [(3, .str), (6, .int .i64)] (.seq (.seq (.reg [(4, 0, true)]) (.cond .nil .nil)) (.seq (.blk (.reg [(1, 1, false), (8, 1, false)])) (.reg [])))))) (.seq (.reg [(1, 1, false)]) .nil))))))))
set_option maxRecDepth 100000 in
theorem nf24 (p_Rows : Option Addr) (p_Rows_n : Nat) (p_Rows_c : Nat) (p_Columns : Option Addr) (p_Columns_n : Nat) (p_Columns_c : Nat) (p_Short : Option Addr) (p_Short_n : Nat) (p_Short_c : Nat) (w : World) (R : Ending → World → Prop) (h :
(∀ w1 : World, ((w1 = (w.alloc (Obj.cells #[(Value.slice p_Rows p_Rows_n p_Rows_c), (Value.slice p_Columns p_Columns_n p_Columns_c), (Value.slice p_Short p_Short_n p_Short_c)] 40 (0, 0)))) →
(∃ k3 : (Nat → (ByteArray → (Int → (World → Prop)))), ((∃ n4 : Nat, (k3 n4 (ByteArray.mk #[(114 : UInt8), (111 : UInt8), (119 : UInt8), (115 : UInt8)]) 0 w1)) ∧
(∀ n5 : Nat, ((Nat → Value) →
(∀ w7 : World, (∀ s8 : ByteArray, (∀ x9 : Int, ((k3 n5 s8 x9 w7) →
(∃ o11 : Option Addr, (∃ n12 : Nat, (∃ n13 : Nat, (((w7.cell? (⟨(hs w), 0, none⟩ : Addr)) = (some (Value.slice o11 n12 n13))) ∧
((((decide (x9 < ((n12 : Nat) : Int))) = true) →
(RunOk Tryd.prog (Nf.Hold (Nf.binOpSem BinOp.add 9 (Operand.tmp 14) (Operand.const (Value.string (ByteArray.mk #[(32 : UInt8)]))) (Value.string s8) (Value.string (ByteArray.mk #[(32 : UInt8)])))) w7 (fun (v15 : Value) => (fun (w16 : World) => (∃ s17 : ByteArray, ((v15 = (Value.string s17)) ∧
(∃ o18 : Option Addr, (∃ n19 : Nat, (∃ n20 : Nat, (((w16.cell? (⟨(hs w), 0, none⟩ : Addr)) = (some (Value.slice o18 n19 n20))) ∧
(∃ a21 : Addr, ((o18 = (some a21)) ∧
((((0 : Int) ≤ x9) ∧
(x9 < ((n19 : Nat) : Int))) ∧
(∃ x22 : Int, (((w16.cell? (Addr.add a21 ((x9).toNat * 1))) = (some (Value.int IntKind.i64 x22))) ∧
(Calls Tryd.prog 42 #[(Value.int IntKind.i64 x22)] w16 (fun (e23 : Ending) => (fun (w24 : World) => (∃ s25 : ByteArray, ((e23 = (Ending.returned (Value.string s25))) ∧
(RunOk Tryd.prog (Nf.Hold (Nf.binOpSem BinOp.add 9 (Operand.tmp 15) (Operand.tmp 21) (Value.string s17) (Value.string s25))) w24 (fun (v26 : Value) => (fun (w27 : World) => (∃ s28 : ByteArray, ((v26 = (Value.string s28)) ∧
(∃ n29 : Nat, ((n29 < n5) ∧
(k3 n29 s28 (IntKind.wrap IntKind.i64 (x9 + 1)) w27)))))))))))))))))))))))))))) ∧
(((decide (x9 < ((n12 : Nat) : Int))) = false) →
(RunOk Tryd.prog (Nf.Hold (Nf.binOpSem BinOp.add 9 (Operand.tmp 23) (Operand.const (Value.string (ByteArray.mk #[(10 : UInt8), (99 : UInt8), (111 : UInt8), (108 : UInt8), (117 : UInt8), (109 : UInt8), (110 : UInt8), (115 : UInt8)]))) (Value.string s8) (Value.string (ByteArray.mk #[(10 : UInt8), (99 : UInt8), (111 : UInt8), (108 : UInt8), (117 : UInt8), (109 : UInt8), (110 : UInt8), (115 : UInt8)])))) w7 (fun (v31 : Value) => (fun (w32 : World) => (∃ s33 : ByteArray, ((v31 = (Value.string s33)) ∧
(∃ k34 : (Nat → (ByteArray → (Int → (World → Prop)))), ((∃ n35 : Nat, (k34 n35 s33 0 w32)) ∧
(∀ n36 : Nat, ((Nat → Value) →
(∀ w38 : World, (∀ s39 : ByteArray, (∀ x40 : Int, ((k34 n36 s39 x40 w38) →
(∃ o42 : Option Addr, (∃ n43 : Nat, (∃ n44 : Nat, (((w38.cell? (⟨(hs w), 1, none⟩ : Addr)) = (some (Value.slice o42 n43 n44))) ∧
((((decide (x40 < ((n43 : Nat) : Int))) = true) →
(RunOk Tryd.prog (Nf.Hold (Nf.binOpSem BinOp.add 9 (Operand.tmp 32) (Operand.const (Value.string (ByteArray.mk #[(32 : UInt8)]))) (Value.string s39) (Value.string (ByteArray.mk #[(32 : UInt8)])))) w38 (fun (v46 : Value) => (fun (w47 : World) => (∃ s48 : ByteArray, ((v46 = (Value.string s48)) ∧
(∃ o49 : Option Addr, (∃ n50 : Nat, (∃ n51 : Nat, (((w47.cell? (⟨(hs w), 1, none⟩ : Addr)) = (some (Value.slice o49 n50 n51))) ∧
(∃ a52 : Addr, ((o49 = (some a52)) ∧
((((0 : Int) ≤ x40) ∧
(x40 < ((n50 : Nat) : Int))) ∧
(∃ x53 : Int, (((w47.cell? (Addr.add a52 ((x40).toNat * 1))) = (some (Value.int IntKind.i64 x53))) ∧
(Calls Tryd.prog 42 #[(Value.int IntKind.i64 x53)] w47 (fun (e54 : Ending) => (fun (w55 : World) => (∃ s56 : ByteArray, ((e54 = (Ending.returned (Value.string s56))) ∧
(RunOk Tryd.prog (Nf.Hold (Nf.binOpSem BinOp.add 9 (Operand.tmp 33) (Operand.tmp 39) (Value.string s48) (Value.string s56))) w55 (fun (v57 : Value) => (fun (w58 : World) => (∃ s59 : ByteArray, ((v57 = (Value.string s59)) ∧
(∃ n60 : Nat, ((n60 < n36) ∧
(k34 n60 s59 (IntKind.wrap IntKind.i64 (x40 + 1)) w58)))))))))))))))))))))))))))) ∧
(((decide (x40 < ((n43 : Nat) : Int))) = false) →
(RunOk Tryd.prog (Nf.Hold (Nf.binOpSem BinOp.add 9 (Operand.tmp 41) (Operand.const (Value.string (ByteArray.mk #[(10 : UInt8), (115 : UInt8), (104 : UInt8), (111 : UInt8), (114 : UInt8), (116 : UInt8)]))) (Value.string s39) (Value.string (ByteArray.mk #[(10 : UInt8), (115 : UInt8), (104 : UInt8), (111 : UInt8), (114 : UInt8), (116 : UInt8)])))) w38 (fun (v62 : Value) => (fun (w63 : World) => (∃ s64 : ByteArray, ((v62 = (Value.string s64)) ∧
(∃ k65 : (Nat → (ByteArray → (Int → (World → Prop)))), ((∃ n66 : Nat, (k65 n66 s64 0 w63)) ∧
(∀ n67 : Nat, ((Nat → Value) →
(∀ w69 : World, (∀ s70 : ByteArray, (∀ x71 : Int, ((k65 n67 s70 x71 w69) →
(∃ o73 : Option Addr, (∃ n74 : Nat, (∃ n75 : Nat, (((w69.cell? (⟨(hs w), 2, none⟩ : Addr)) = (some (Value.slice o73 n74 n75))) ∧
((((decide (x71 < ((n74 : Nat) : Int))) = true) →
(RunOk Tryd.prog (Nf.Hold (Nf.binOpSem BinOp.add 9 (Operand.tmp 50) (Operand.const (Value.string (ByteArray.mk #[(32 : UInt8)]))) (Value.string s70) (Value.string (ByteArray.mk #[(32 : UInt8)])))) w69 (fun (v77 : Value) => (fun (w78 : World) => (∃ s79 : ByteArray, ((v77 = (Value.string s79)) ∧
(∃ o80 : Option Addr, (∃ n81 : Nat, (∃ n82 : Nat, (((w78.cell? (⟨(hs w), 2, none⟩ : Addr)) = (some (Value.slice o80 n81 n82))) ∧
(∃ a83 : Addr, ((o80 = (some a83)) ∧
((((0 : Int) ≤ x71) ∧
(x71 < ((n81 : Nat) : Int))) ∧
(∃ x84 : Int, (((w78.cell? (Addr.add a83 ((x71).toNat * 1))) = (some (Value.int IntKind.i64 x84))) ∧
(Calls Tryd.prog 42 #[(Value.int IntKind.i64 x84)] w78 (fun (e85 : Ending) => (fun (w86 : World) => (∃ s87 : ByteArray, ((e85 = (Ending.returned (Value.string s87))) ∧
(RunOk Tryd.prog (Nf.Hold (Nf.binOpSem BinOp.add 9 (Operand.tmp 51) (Operand.tmp 57) (Value.string s79) (Value.string s87))) w86 (fun (v88 : Value) => (fun (w89 : World) => (∃ s90 : ByteArray, ((v88 = (Value.string s90)) ∧
(∃ n91 : Nat, ((n91 < n67) ∧
(k65 n91 s90 (IntKind.wrap IntKind.i64 (x71 + 1)) w89)))))))))))))))))))))))))))) ∧
(((decide (x71 < ((n74 : Nat) : Int))) = false) →
(RunOk Tryd.prog (Nf.Hold (Nf.binOpSem BinOp.add 9 (Operand.tmp 59) (Operand.const (Value.string (ByteArray.mk #[(10 : UInt8)]))) (Value.string s70) (Value.string (ByteArray.mk #[(10 : UInt8)])))) w69 (fun (v93 : Value) => (fun (w94 : World) => (∃ s95 : ByteArray, ((v93 = (Value.string s95)) ∧
(R (Ending.returned (Value.string s95)) w94))))))))))))))))))))))))))))))))))))))))))))))))))))))))))))) :
    Calls Tryd.prog 24 #[(.agg #[(.slice p_Rows p_Rows_n p_Rows_c), (.slice p_Columns p_Columns_n p_Columns_c), (.slice p_Short p_Short_n p_Short_c)])] w R :=
  calls_of_vc an24 Tryd.func24 rfl (by kernel_rfl) (by kernel_rfl) (Eq.mp (by kernel_rfl) h)

/-- samaritan/samaritanlaw37.CertificateVerify -/
def an4 : An := (.seq (.reg []) (.seq (.seq (.reg [(0, 0, true), (5, 0, true), (10, 0, true), (14, 0, true)]) (.cond (.seq (.reg []) .nil) .nil)) (.seq (.seq (.reg []) (.blk (.loop [(29, .int .i64)] (.seq (.reg [(0, 0, true)]) (.seq (.cond .nil .nil) (.seq (.blk (.seq (.reg []) (.seq (.reg [(2, 0, true)]) (.cond (.seq (.reg []) .nil) .nil)))) (.reg []))))))) (.seq (.regD [(11, 0, true)] [0, 2, 4, 7, 8, 9, 1, 3, 5, 6, 10, 11, 12] [1, 3, 5, 6, 10]) .nil))))
set_option maxRecDepth 100000 in
theorem nf4 (cost : Option Addr) (cost_n : Nat) (cost_c : Nat) (m : Option Addr) (m_n : Nat) (m_c : Nat) (p_Rows : Option Addr) (p_Rows_n : Nat) (p_Rows_c : Nat) (p_Columns : Option Addr) (p_Columns_n : Nat) (p_Columns_c : Nat) (p_Short : Option Addr) (p_Short_n : Nat) (p_Short_c : Nat) (w : World) (R : Ending → World → Prop) (h :
(∀ w1 : World, ((w1 = (w.alloc (Obj.cells #[(Value.slice p_Rows p_Rows_n p_Rows_c), (Value.slice p_Columns p_Columns_n p_Columns_c), (Value.slice p_Short p_Short_n p_Short_c)] 40 (0, 0)))) →
(Calls Tryd.prog 9 #[] w1 (fun (e3 : Ending) => (fun (w4 : World) => (∃ b5 : Bool, ((e3 = (Ending.returned (Value.bool b5))) ∧
(((b5 = true) →
((((decide (((cost_n : Nat) : Int) > 70)) = true) →
(Calls Tryd.prog 9 #[] w4 (fun (e8 : Ending) => (fun (w9 : World) => (∃ b10 : Bool, ((e8 = (Ending.returned (Value.bool b10))) ∧
(R (Ending.returned (Value.bool b10)) w9))))))) ∧
(((decide (((cost_n : Nat) : Int) > 70)) = false) →
((((decide (((m_n : Nat) : Int) > 70)) = true) →
(Calls Tryd.prog 9 #[] w4 (fun (e13 : Ending) => (fun (w14 : World) => (∃ b15 : Bool, ((e13 = (Ending.returned (Value.bool b15))) ∧
(R (Ending.returned (Value.bool b15)) w14))))))) ∧
(((decide (((m_n : Nat) : Int) > 70)) = false) →
(∃ o17 : Option Addr, (∃ n18 : Nat, (∃ n19 : Nat, (((w4.cell? (⟨(hs w), 0, none⟩ : Addr)) = (some (Value.slice o17 n18 n19))) ∧
(∃ o20 : Option Addr, (∃ n21 : Nat, (∃ n22 : Nat, (((w4.cell? (⟨(hs w), 1, none⟩ : Addr)) = (some (Value.slice o20 n21 n22))) ∧
(∃ o23 : Option Addr, (∃ n24 : Nat, (∃ n25 : Nat, (((w4.cell? (⟨(hs w), 2, none⟩ : Addr)) = (some (Value.slice o23 n24 n25))) ∧
(Calls Tryd.prog 18 #[(Value.agg #[(Value.slice o17 n18 n19), (Value.slice o20 n21 n22), (Value.slice o23 n24 n25)])] w4 (fun (e26 : Ending) => (fun (w27 : World) => (∃ b28 : Bool, ((e26 = (Ending.returned (Value.bool b28))) ∧
(((b28 = true) →
(∃ k30 : (Nat → (Int → (World → Prop))), ((∃ n31 : Nat, (k30 n31 0 w27)) ∧
(∀ n32 : Nat, ((Nat → Value) →
(∀ w34 : World, (∀ x35 : Int, ((k30 n32 x35 w34) →
((((decide (x35 < ((cost_n : Nat) : Int))) = true) →
(∃ a38 : Addr, ((cost = (some a38)) ∧
((((0 : Int) ≤ x35) ∧
(x35 < ((cost_n : Nat) : Int))) ∧
(∃ o39 : Option Addr, (∃ n40 : Nat, (∃ n41 : Nat, (((w34.cell? (Addr.add a38 ((x35).toNat * 1))) = (some (Value.slice o39 n40 n41))) ∧
((((decide (((n40 : Nat) : Int) > 70)) = true) →
(R (Ending.returned (Value.bool true)) w34)) ∧
(((decide (((n40 : Nat) : Int) > 70)) = false) →
(∃ n44 : Nat, ((n44 < n32) ∧
(k30 n44 (IntKind.wrap IntKind.i64 (x35 + 1)) w34))))))))))))) ∧
(((decide (x35 < ((cost_n : Nat) : Int))) = false) →
(∀ w46 : World, ((w46 = w34.drew) →
(∃ o48 : Option Addr, (∃ n49 : Nat, (∃ n50 : Nat, (((w46.cell? (⟨(hs w), 0, none⟩ : Addr)) = (some (Value.slice o48 n49 n50))) ∧
(∃ o51 : Option Addr, (∃ n52 : Nat, (∃ n53 : Nat, (((w46.cell? (⟨(hs w), 1, none⟩ : Addr)) = (some (Value.slice o51 n52 n53))) ∧
(∃ o54 : Option Addr, (∃ n55 : Nat, (∃ n56 : Nat, (((w46.cell? (⟨(hs w), 2, none⟩ : Addr)) = (some (Value.slice o54 n55 n56))) ∧
(∃ o57 : Option Addr, (∃ n58 : Nat, (∃ n59 : Nat, (((w46.cell? (⟨(hs w), 0, none⟩ : Addr)) = (some (Value.slice o57 n58 n59))) ∧
(∃ o60 : Option Addr, (∃ n61 : Nat, (∃ n62 : Nat, (((w46.cell? (⟨(hs w), 1, none⟩ : Addr)) = (some (Value.slice o60 n61 n62))) ∧
(∃ o63 : Option Addr, (∃ n64 : Nat, (∃ n65 : Nat, (((w46.cell? (⟨(hs w), 2, none⟩ : Addr)) = (some (Value.slice o63 n64 n65))) ∧
(Calls Tryd.prog 12 #[(Value.slice cost cost_n cost_c)] w46 (fun (e66 : Ending) => (fun (w67 : World) => (∃ o68 : Option Addr, (∃ n69 : Nat, (∃ n70 : Nat, ((e66 = (Ending.returned (Value.slice o68 n69 n70))) ∧
((Nf.Kept w46 w67 (⟨(hs w), 0, none⟩ : Addr) 3) ∧
((Nf.Kept w46 w67 (⟨(hs w), 0, none⟩ : Addr) 3) ∧
(Calls Tryd.prog 13 #[(Value.slice m m_n m_c)] w67 (fun (e71 : Ending) => (fun (w72 : World) => (∃ o73 : Option Addr, (∃ n74 : Nat, (∃ n75 : Nat, ((e71 = (Ending.returned (Value.slice o73 n74 n75))) ∧
((Nf.Kept w46 w72 (⟨(hs w), 0, none⟩ : Addr) 3) ∧
((Nf.Kept w46 w72 (⟨(hs w), 0, none⟩ : Addr) 3) ∧
(Calls Tryd.prog 20 #[(Value.agg #[(Value.slice o48 n49 n50), (Value.slice o51 n52 n53), (Value.slice o54 n55 n56)])] w72 (fun (e76 : Ending) => (fun (w77 : World) => (∃ o78 : Option Addr, (∃ n79 : Nat, (∃ n80 : Nat, (∃ o81 : Option Addr, (∃ n82 : Nat, (∃ n83 : Nat, (∃ o84 : Option Addr, (∃ n85 : Nat, (∃ n86 : Nat, ((e76 = (Ending.returned (Value.agg #[(Value.slice o78 n79 n80), (Value.slice o81 n82 n83), (Value.slice o84 n85 n86)]))) ∧
((Nf.Kept w46 w77 (⟨(hs w), 0, none⟩ : Addr) 3) ∧
(Calls Tryd.prog 19 #[(Value.slice o68 n69 n70), (Value.slice o73 n74 n75), (Value.agg #[(Value.slice o78 n79 n80), (Value.slice o81 n82 n83), (Value.slice o84 n85 n86)])] w77 (fun (e87 : Ending) => (fun (w88 : World) => (∃ b89 : Bool, ((e87 = (Ending.returned (Value.bool b89))) ∧
((Nf.Kept w46 w88 (⟨(hs w), 0, none⟩ : Addr) 3) ∧
(Calls Tryd.prog 16 #[(Value.slice cost cost_n cost_c), (Value.slice m m_n m_c), (Value.agg #[(Value.slice o57 n58 n59), (Value.slice o60 n61 n62), (Value.slice o63 n64 n65)])] w88 (fun (e90 : Ending) => (fun (w91 : World) => (∃ b92 : Bool, ((e90 = (Ending.returned (Value.bool b92))) ∧
((((decide (b89 = b92)) = true) →
(R (Ending.returned (Value.bool true)) w91)) ∧
(((decide (b89 = b92)) = false) →
(R (Ending.returned (Value.bool false)) w91)))))))))))))))))))))))))))))))))))))))))))))))))))))))))))))))))))))))))))))))))) ∧
((b28 = false) →
(Calls Tryd.prog 9 #[] w27 (fun (e96 : Ending) => (fun (w97 : World) => (∃ b98 : Bool, ((e96 = (Ending.returned (Value.bool b98))) ∧
(R (Ending.returned (Value.bool b98)) w97)))))))))))))))))))))))))))))) ∧
((b5 = false) →
(Calls Tryd.prog 9 #[] w4 (fun (e100 : Ending) => (fun (w101 : World) => (∃ b102 : Bool, ((e100 = (Ending.returned (Value.bool b102))) ∧
(R (Ending.returned (Value.bool b102)) w101)))))))))))))))) :
    Calls Tryd.prog 4 #[(.slice cost cost_n cost_c), (.slice m m_n m_c), (.agg #[(.slice p_Rows p_Rows_n p_Rows_c), (.slice p_Columns p_Columns_n p_Columns_c), (.slice p_Short p_Short_n p_Short_c)])] w R :=
  calls_of_vc an4 Tryd.func4 rfl (by kernel_rfl) (by kernel_rfl) (Eq.mp (by kernel_rfl) h)

/-- samaritan/samaritanlaw37.CertificateCertify -/
def an3 : An := (.seq (.reg []) (.seq (.seq (.reg [(0, 0, true), (4, 0, true), (10, 0, true)]) (.cond (.seq (.reg []) .nil) .nil)) (.seq (.reg []) (.seq (.reg []) (.seq (.seq (.reg [(1, 0, true)]) (.cond (.seq (.reg [(2, 0, true), (7, 0, true), (13, 0, true), (19, 0, true)]) .nil) .nil)) (.seq (.seq (.reg []) (.seq (.reg [(2, 0, true), (6, 0, true)]) (.cond (.seq (.reg [(1, 0, true), (6, 0, true), (12, 0, true), (18, 0, true)]) .nil) .nil))) (.seq (.reg [(1, 0, true)]) .nil)))))))
set_option maxRecDepth 100000 in
theorem nf3 (cost : Option Addr) (cost_n : Nat) (cost_c : Nat) (m : Option Addr) (m_n : Nat) (m_c : Nat) (w : World) (R : Ending → World → Prop) (h :
(Calls Tryd.prog 9 #[] w (fun (e1 : Ending) => (fun (w2 : World) => (∃ b3 : Bool, ((e1 = (Ending.returned (Value.bool b3))) ∧
(((b3 = true) →
(Calls Tryd.prog 10 #[(Value.slice cost cost_n cost_c)] w2 (fun (e5 : Ending) => (fun (w6 : World) => (∃ b7 : Bool, ((e5 = (Ending.returned (Value.bool b7))) ∧
(((b7 = true) →
((((decide (((m_n : Nat) : Int) > 70)) = true) →
(Calls Tryd.prog 9 #[] w6 (fun (e10 : Ending) => (fun (w11 : World) => (∃ b12 : Bool, ((e10 = (Ending.returned (Value.bool b12))) ∧
(R (Ending.returned (Value.bool b12)) w11))))))) ∧
(((decide (((m_n : Nat) : Int) > 70)) = false) →
(Calls Tryd.prog 12 #[(Value.slice cost cost_n cost_c)] w6 (fun (e14 : Ending) => (fun (w15 : World) => (∃ o16 : Option Addr, (∃ n17 : Nat, (∃ n18 : Nat, ((e14 = (Ending.returned (Value.slice o16 n17 n18))) ∧
(Calls Tryd.prog 13 #[(Value.slice m m_n m_c)] w15 (fun (e19 : Ending) => (fun (w20 : World) => (∃ o21 : Option Addr, (∃ n22 : Nat, (∃ n23 : Nat, ((e19 = (Ending.returned (Value.slice o21 n22 n23))) ∧
(Calls Tryd.prog 11 #[(Value.slice o16 n17 n18), (Value.slice o21 n22 n23)] w20 (fun (e24 : Ending) => (fun (w25 : World) => (∃ o26 : Option Addr, (∃ n27 : Nat, (∃ n28 : Nat, (∃ o29 : Option Addr, (∃ n30 : Nat, (∃ n31 : Nat, (∃ o32 : Option Addr, (∃ n33 : Nat, (∃ n34 : Nat, (∃ x35 : Int, ((e24 = (Ending.returned (Value.tuple #[(Value.agg #[(Value.slice o26 n27 n28), (Value.slice o29 n30 n31), (Value.slice o32 n33 n34)]), (Value.int IntKind.i64 x35)]))) ∧
(∀ w36 : World, ((w36 = (w25.alloc (Obj.cells #[(Value.slice none 0 0), (Value.slice none 0 0), (Value.slice none 0 0)] 28 (0, 0)))) →
((Nf.There w36 (⟨(hs w25), 0, none⟩ : Addr) 3) ∧
(∀ w38 : World, ((w38 = (Nf.setCells w36 (⟨(hs w25), 0, none⟩ : Addr) [(Value.slice o26 n27 n28), (Value.slice o29 n30 n31), (Value.slice o32 n33 n34)] 0)) →
(Calls Tryd.prog 14 #[(Value.slice cost cost_n cost_c), (Value.slice m m_n m_c)] w38 (fun (e40 : Ending) => (fun (w41 : World) => (∃ x42 : Int, (∃ x43 : Int, (∃ x44 : Int, ((e40 = (Ending.returned (Value.tuple #[(Value.int IntKind.i64 x42), (Value.int IntKind.i64 x43), (Value.int IntKind.i64 x44)]))) ∧
((((!(decide (x44 = 0))) = true) →
((((decide (x35 = x44)) = true) →
(∃ o47 : Option Addr, (∃ n48 : Nat, (∃ n49 : Nat, (((w41.cell? (⟨(hs w25), 0, none⟩ : Addr)) = (some (Value.slice o47 n48 n49))) ∧
((((decide (((n48 : Nat) : Int) = 0)) = true) →
(∃ o51 : Option Addr, (∃ n52 : Nat, (∃ n53 : Nat, (((w41.cell? (⟨(hs w25), 1, none⟩ : Addr)) = (some (Value.slice o51 n52 n53))) ∧
((((decide (((n52 : Nat) : Int) = 0)) = true) →
(∃ o55 : Option Addr, (∃ n56 : Nat, (∃ n57 : Nat, (((w41.cell? (⟨(hs w25), 2, none⟩ : Addr)) = (some (Value.slice o55 n56 n57))) ∧
((((decide (((n56 : Nat) : Int) = 0)) = true) →
(R (Ending.returned (Value.bool true)) w41)) ∧
(((decide (((n56 : Nat) : Int) = 0)) = false) →
(R (Ending.returned (Value.bool false)) w41)))))))) ∧
(((decide (((n52 : Nat) : Int) = 0)) = false) →
(R (Ending.returned (Value.bool false)) w41)))))))) ∧
(((decide (((n48 : Nat) : Int) = 0)) = false) →
(R (Ending.returned (Value.bool false)) w41)))))))) ∧
(((decide (x35 = x44)) = false) →
(R (Ending.returned (Value.bool false)) w41)))) ∧
(((!(decide (x44 = 0))) = false) →
(Calls Tryd.prog 15 #[(Value.slice cost cost_n cost_c)] w41 (fun (e64 : Ending) => (fun (w65 : World) => (∃ x66 : Int, (∃ x67 : Int, ((e64 = (Ending.returned (Value.tuple #[(Value.int IntKind.i64 x66), (Value.int IntKind.i64 x67)]))) ∧
((((!(decide (x66 = x42))) = true) →
((((decide (x35 = 14)) = true) →
(∃ o70 : Option Addr, (∃ n71 : Nat, (∃ n72 : Nat, (((w65.cell? (⟨(hs w25), 0, none⟩ : Addr)) = (some (Value.slice o70 n71 n72))) ∧
((((decide (((n71 : Nat) : Int) = 0)) = true) →
(∃ o74 : Option Addr, (∃ n75 : Nat, (∃ n76 : Nat, (((w65.cell? (⟨(hs w25), 1, none⟩ : Addr)) = (some (Value.slice o74 n75 n76))) ∧
((((decide (((n75 : Nat) : Int) = 0)) = true) →
(∃ o78 : Option Addr, (∃ n79 : Nat, (∃ n80 : Nat, (((w65.cell? (⟨(hs w25), 2, none⟩ : Addr)) = (some (Value.slice o78 n79 n80))) ∧
((((decide (((n79 : Nat) : Int) = 0)) = true) →
(R (Ending.returned (Value.bool true)) w65)) ∧
(((decide (((n79 : Nat) : Int) = 0)) = false) →
(R (Ending.returned (Value.bool false)) w65)))))))) ∧
(((decide (((n75 : Nat) : Int) = 0)) = false) →
(R (Ending.returned (Value.bool false)) w65)))))))) ∧
(((decide (((n71 : Nat) : Int) = 0)) = false) →
(R (Ending.returned (Value.bool false)) w65)))))))) ∧
(((decide (x35 = 14)) = false) →
(R (Ending.returned (Value.bool false)) w65)))) ∧
(((!(decide (x66 = x42))) = false) →
((((!(decide (x67 = x43))) = true) →
((((decide (x35 = 14)) = true) →
(∃ o89 : Option Addr, (∃ n90 : Nat, (∃ n91 : Nat, (((w65.cell? (⟨(hs w25), 0, none⟩ : Addr)) = (some (Value.slice o89 n90 n91))) ∧
((((decide (((n90 : Nat) : Int) = 0)) = true) →
(∃ o93 : Option Addr, (∃ n94 : Nat, (∃ n95 : Nat, (((w65.cell? (⟨(hs w25), 1, none⟩ : Addr)) = (some (Value.slice o93 n94 n95))) ∧
((((decide (((n94 : Nat) : Int) = 0)) = true) →
(∃ o97 : Option Addr, (∃ n98 : Nat, (∃ n99 : Nat, (((w65.cell? (⟨(hs w25), 2, none⟩ : Addr)) = (some (Value.slice o97 n98 n99))) ∧
((((decide (((n98 : Nat) : Int) = 0)) = true) →
(R (Ending.returned (Value.bool true)) w65)) ∧
(((decide (((n98 : Nat) : Int) = 0)) = false) →
(R (Ending.returned (Value.bool false)) w65)))))))) ∧
(((decide (((n94 : Nat) : Int) = 0)) = false) →
(R (Ending.returned (Value.bool false)) w65)))))))) ∧
(((decide (((n90 : Nat) : Int) = 0)) = false) →
(R (Ending.returned (Value.bool false)) w65)))))))) ∧
(((decide (x35 = 14)) = false) →
(R (Ending.returned (Value.bool false)) w65)))) ∧
(((!(decide (x67 = x43))) = false) →
((((decide (x35 = 0)) = true) →
(∃ o107 : Option Addr, (∃ n108 : Nat, (∃ n109 : Nat, (((w65.cell? (⟨(hs w25), 0, none⟩ : Addr)) = (some (Value.slice o107 n108 n109))) ∧
(∃ o110 : Option Addr, (∃ n111 : Nat, (∃ n112 : Nat, (((w65.cell? (⟨(hs w25), 1, none⟩ : Addr)) = (some (Value.slice o110 n111 n112))) ∧
(∃ o113 : Option Addr, (∃ n114 : Nat, (∃ n115 : Nat, (((w65.cell? (⟨(hs w25), 2, none⟩ : Addr)) = (some (Value.slice o113 n114 n115))) ∧
(Calls Tryd.prog 17 #[(Value.agg #[(Value.slice o107 n108 n109), (Value.slice o110 n111 n112), (Value.slice o113 n114 n115)])] w65 (fun (e116 : Ending) => (fun (w117 : World) => (∃ o118 : Option Addr, (∃ n119 : Nat, (∃ n120 : Nat, (∃ o121 : Option Addr, (∃ n122 : Nat, (∃ n123 : Nat, (∃ o124 : Option Addr, (∃ n125 : Nat, (∃ n126 : Nat, ((e116 = (Ending.returned (Value.agg #[(Value.slice o118 n119 n120), (Value.slice o121 n122 n123), (Value.slice o124 n125 n126)]))) ∧
(Calls Tryd.prog 16 #[(Value.slice cost cost_n cost_c), (Value.slice m m_n m_c), (Value.agg #[(Value.slice o118 n119 n120), (Value.slice o121 n122 n123), (Value.slice o124 n125 n126)])] w117 (fun (e127 : Ending) => (fun (w128 : World) => (∃ b129 : Bool, ((e127 = (Ending.returned (Value.bool b129))) ∧
(R (Ending.returned (Value.bool b129)) w128)))))))))))))))))))))))))))))))) ∧
(((decide (x35 = 0)) = false) →
(R (Ending.returned (Value.bool false)) w65)))))))))))))))))))))))))))))))))))))))))))))))))))))))))) ∧
((b7 = false) →
(Calls Tryd.prog 9 #[] w6 (fun (e132 : Ending) => (fun (w133 : World) => (∃ b134 : Bool, ((e132 = (Ending.returned (Value.bool b134))) ∧
(R (Ending.returned (Value.bool b134)) w133)))))))))))))) ∧
((b3 = false) →
(Calls Tryd.prog 9 #[] w2 (fun (e136 : Ending) => (fun (w137 : World) => (∃ b138 : Bool, ((e136 = (Ending.returned (Value.bool b138))) ∧
(R (Ending.returned (Value.bool b138)) w137)))))))))))))) :
    Calls Tryd.prog 3 #[(.slice cost cost_n cost_c), (.slice m m_n m_c)] w R :=
  calls_of_vc an3 Tryd.func3 rfl (by kernel_rfl) (by kernel_rfl) (Eq.mp (by kernel_rfl) h)

/-- samaritan/samaritanlaw37.CertificateFormat -/
def an7 : An := (.seq (.reg []) (.seq (.seq (.reg [(0, 0, true), (4, 0, true)]) (.cond (.seq (.reg []) .nil) .nil)) (.seq (.regD [(5, 3, true)] [0, 3, 1, 2, 4, 5, 6] [1, 2, 4]) .nil)))
set_option maxRecDepth 100000 in
theorem nf7 (p_Rows : Option Addr) (p_Rows_n : Nat) (p_Rows_c : Nat) (p_Columns : Option Addr) (p_Columns_n : Nat) (p_Columns_c : Nat) (p_Short : Option Addr) (p_Short_n : Nat) (p_Short_c : Nat) (w : World) (R : Ending → World → Prop) (h :
(∀ w1 : World, ((w1 = (w.alloc (Obj.cells #[(Value.slice p_Rows p_Rows_n p_Rows_c), (Value.slice p_Columns p_Columns_n p_Columns_c), (Value.slice p_Short p_Short_n p_Short_c)] 40 (0, 0)))) →
(Calls Tryd.prog 9 #[] w1 (fun (e3 : Ending) => (fun (w4 : World) => (∃ b5 : Bool, ((e3 = (Ending.returned (Value.bool b5))) ∧
(((b5 = true) →
(∃ o7 : Option Addr, (∃ n8 : Nat, (∃ n9 : Nat, (((w4.cell? (⟨(hs w), 0, none⟩ : Addr)) = (some (Value.slice o7 n8 n9))) ∧
(∃ o10 : Option Addr, (∃ n11 : Nat, (∃ n12 : Nat, (((w4.cell? (⟨(hs w), 1, none⟩ : Addr)) = (some (Value.slice o10 n11 n12))) ∧
(∃ o13 : Option Addr, (∃ n14 : Nat, (∃ n15 : Nat, (((w4.cell? (⟨(hs w), 2, none⟩ : Addr)) = (some (Value.slice o13 n14 n15))) ∧
(Calls Tryd.prog 18 #[(Value.agg #[(Value.slice o7 n8 n9), (Value.slice o10 n11 n12), (Value.slice o13 n14 n15)])] w4 (fun (e16 : Ending) => (fun (w17 : World) => (∃ b18 : Bool, ((e16 = (Ending.returned (Value.bool b18))) ∧
(((b18 = true) →
(∀ w20 : World, ((w20 = w17.drew) →
(∃ o22 : Option Addr, (∃ n23 : Nat, (∃ n24 : Nat, (((w20.cell? (⟨(hs w), 0, none⟩ : Addr)) = (some (Value.slice o22 n23 n24))) ∧
(∃ o25 : Option Addr, (∃ n26 : Nat, (∃ n27 : Nat, (((w20.cell? (⟨(hs w), 1, none⟩ : Addr)) = (some (Value.slice o25 n26 n27))) ∧
(∃ o28 : Option Addr, (∃ n29 : Nat, (∃ n30 : Nat, (((w20.cell? (⟨(hs w), 2, none⟩ : Addr)) = (some (Value.slice o28 n29 n30))) ∧
(∃ o31 : Option Addr, (∃ n32 : Nat, (∃ n33 : Nat, (((w20.cell? (⟨(hs w), 0, none⟩ : Addr)) = (some (Value.slice o31 n32 n33))) ∧
(∃ o34 : Option Addr, (∃ n35 : Nat, (∃ n36 : Nat, (((w20.cell? (⟨(hs w), 1, none⟩ : Addr)) = (some (Value.slice o34 n35 n36))) ∧
(∃ o37 : Option Addr, (∃ n38 : Nat, (∃ n39 : Nat, (((w20.cell? (⟨(hs w), 2, none⟩ : Addr)) = (some (Value.slice o37 n38 n39))) ∧
(Calls Tryd.prog 20 #[(Value.agg #[(Value.slice o22 n23 n24), (Value.slice o25 n26 n27), (Value.slice o28 n29 n30)])] w20 (fun (e40 : Ending) => (fun (w41 : World) => (∃ o42 : Option Addr, (∃ n43 : Nat, (∃ n44 : Nat, (∃ o45 : Option Addr, (∃ n46 : Nat, (∃ n47 : Nat, (∃ o48 : Option Addr, (∃ n49 : Nat, (∃ n50 : Nat, ((e40 = (Ending.returned (Value.agg #[(Value.slice o42 n43 n44), (Value.slice o45 n46 n47), (Value.slice o48 n49 n50)]))) ∧
((Nf.Kept w20 w41 (⟨(hs w), 0, none⟩ : Addr) 3) ∧
(Calls Tryd.prog 23 #[(Value.agg #[(Value.slice o42 n43 n44), (Value.slice o45 n46 n47), (Value.slice o48 n49 n50)])] w41 (fun (e51 : Ending) => (fun (w52 : World) => (∃ s53 : ByteArray, ((e51 = (Ending.returned (Value.string s53))) ∧
((Nf.Kept w20 w52 (⟨(hs w), 0, none⟩ : Addr) 3) ∧
(Calls Tryd.prog 24 #[(Value.agg #[(Value.slice o31 n32 n33), (Value.slice o34 n35 n36), (Value.slice o37 n38 n39)])] w52 (fun (e54 : Ending) => (fun (w55 : World) => (∃ s56 : ByteArray, ((e54 = (Ending.returned (Value.string s56))) ∧
((((Nf.strEq s53 s56) = true) →
(R (Ending.returned (Value.bool true)) w55)) ∧
(((Nf.strEq s53 s56) = false) →
(R (Ending.returned (Value.bool false)) w55))))))))))))))))))))))))))))))))))))))))))))))))))))))) ∧
((b18 = false) →
(Calls Tryd.prog 9 #[] w17 (fun (e60 : Ending) => (fun (w61 : World) => (∃ b62 : Bool, ((e60 = (Ending.returned (Value.bool b62))) ∧
(R (Ending.returned (Value.bool b62)) w61)))))))))))))))))))))))))) ∧
((b5 = false) →
(Calls Tryd.prog 9 #[] w4 (fun (e64 : Ending) => (fun (w65 : World) => (∃ b66 : Bool, ((e64 = (Ending.returned (Value.bool b66))) ∧
(R (Ending.returned (Value.bool b66)) w65)))))))))))))))) :
    Calls Tryd.prog 7 #[(.agg #[(.slice p_Rows p_Rows_n p_Rows_c), (.slice p_Columns p_Columns_n p_Columns_c), (.slice p_Short p_Short_n p_Short_c)])] w R :=
  calls_of_vc an7 Tryd.func7 rfl (by kernel_rfl) (by kernel_rfl) (Eq.mp (by kernel_rfl) h)

/-- samaritan/samaritanlaw37.CertificateModified -/
def an8 : An := (.seq (.reg []) (.seq (.seq (.reg [(0, 0, true), (4, 0, true), (10, 0, true), (15, 0, true), (20, 0, true)]) (.cond (.seq (.reg []) .nil) .nil)) (.seq (.reg []) (.seq (.seq (.reg [(1, 0, true)]) (.cond (.seq (.reg []) .nil) .nil)) (.seq (.reg []) (.seq (.seq (.reg [(1, 0, true), (8, 0, true)]) (.cond (.seq (.reg []) .nil) .nil)) (.seq (.reg []) (.cut [] (.blk (.seq (.reg [(2, 0, true), (7, 0, true)]) (.cond (.regD [(9, 2, false)] [0, 1, 2, 3, 4, 5, 6, 7, 8, 9, 10, 11, 12, 13, 14, 15, 16, 17] [17]) (.seq (.reg [(2, 0, true), (7, 0, true)]) (.cond (.regD [(9, 2, false)] [0, 1, 2, 3, 4, 5, 6, 7, 8, 9, 10, 11, 12, 13, 14, 15, 16, 17] [17]) (.seq (.reg [(2, 0, true), (7, 0, true)]) (.cond (.seq (.reg [(7, 2, false)]) (.regD [(3, 2, false), (9, 2, false), (10, 1, false)] [0, 1, 2, 3, 5, 6, 7, 8, 9, 4, 10, 11, 12] [4, 10, 12])) .nil))))))) (.seq (.regD [(11, 0, true), (24, 0, true)] [0, 2, 4, 7, 8, 9, 1, 3, 5, 6, 10, 11, 12, 13, 15, 17, 20, 21, 22, 14, 16, 18, 19, 23, 24, 25, 26] [1, 3, 5, 6, 10, 14, 16, 18, 19, 23]) .nil)))))))))
set_option maxRecDepth 100000 in
theorem nf8 (cost : Option Addr) (cost_n : Nat) (cost_c : Nat) (m : Option Addr) (m_n : Nat) (m_c : Nat) (x_Kind : Int) (x_Place : Int) (x_By : Int) (w : World) (R : Ending → World → Prop) (h :
(∀ w1 : World, ((w1 = (w.alloc (Obj.cells #[(Value.int IntKind.i64 x_Kind), (Value.int IntKind.i64 x_Place), (Value.int IntKind.i64 x_By)] 52 (0, 0)))) →
(Calls Tryd.prog 9 #[] w1 (fun (e3 : Ending) => (fun (w4 : World) => (∃ b5 : Bool, ((e3 = (Ending.returned (Value.bool b5))) ∧
(((b5 = true) →
(Calls Tryd.prog 10 #[(Value.slice cost cost_n cost_c)] w4 (fun (e7 : Ending) => (fun (w8 : World) => (∃ b9 : Bool, ((e7 = (Ending.returned (Value.bool b9))) ∧
(((b9 = true) →
((((decide (((m_n : Nat) : Int) > 70)) = true) →
(Calls Tryd.prog 9 #[] w8 (fun (e12 : Ending) => (fun (w13 : World) => (∃ b14 : Bool, ((e12 = (Ending.returned (Value.bool b14))) ∧
(R (Ending.returned (Value.bool b14)) w13))))))) ∧
(((decide (((m_n : Nat) : Int) > 70)) = false) →
(∃ x16 : Int, (((w8.cell? (⟨(hs w), 2, none⟩ : Addr)) = (some (Value.int IntKind.i64 x16))) ∧
((((decide (x16 > 1099511627776)) = true) →
(Calls Tryd.prog 9 #[] w8 (fun (e18 : Ending) => (fun (w19 : World) => (∃ b20 : Bool, ((e18 = (Ending.returned (Value.bool b20))) ∧
(R (Ending.returned (Value.bool b20)) w19))))))) ∧
(((decide (x16 > 1099511627776)) = false) →
(∃ x22 : Int, (((w8.cell? (⟨(hs w), 2, none⟩ : Addr)) = (some (Value.int IntKind.i64 x22))) ∧
((((decide (x22 < (-1099511627776))) = true) →
(Calls Tryd.prog 9 #[] w8 (fun (e24 : Ending) => (fun (w25 : World) => (∃ b26 : Bool, ((e24 = (Ending.returned (Value.bool b26))) ∧
(R (Ending.returned (Value.bool b26)) w25))))))) ∧
(((decide (x22 < (-1099511627776))) = false) →
(Calls Tryd.prog 25 #[(Value.slice cost cost_n cost_c)] w8 (fun (e28 : Ending) => (fun (w29 : World) => (∃ o30 : Option Addr, (∃ n31 : Nat, (∃ n32 : Nat, (∃ x33 : Int, (∃ x34 : Int, ((e28 = (Ending.returned (Value.tuple #[(Value.slice o30 n31 n32), (Value.int IntKind.i64 x33), (Value.int IntKind.i64 x34)]))) ∧
((((!(decide (x34 = 0))) = true) →
(R (Ending.returned (Value.bool true)) w29)) ∧
(((!(decide (x34 = 0))) = false) →
(Calls Tryd.prog 12 #[(Value.slice cost cost_n cost_c)] w29 (fun (e37 : Ending) => (fun (w38 : World) => (∃ o39 : Option Addr, (∃ n40 : Nat, (∃ n41 : Nat, ((e37 = (Ending.returned (Value.slice o39 n40 n41))) ∧
(Calls Tryd.prog 13 #[(Value.slice o30 n31 n32)] w38 (fun (e42 : Ending) => (fun (w43 : World) => (∃ o44 : Option Addr, (∃ n45 : Nat, (∃ n46 : Nat, ((e42 = (Ending.returned (Value.slice o44 n45 n46))) ∧
(Calls Tryd.prog 11 #[(Value.slice o39 n40 n41), (Value.slice o44 n45 n46)] w43 (fun (e47 : Ending) => (fun (w48 : World) => (∃ o49 : Option Addr, (∃ n50 : Nat, (∃ n51 : Nat, (∃ o52 : Option Addr, (∃ n53 : Nat, (∃ n54 : Nat, (∃ o55 : Option Addr, (∃ n56 : Nat, (∃ n57 : Nat, (∃ x58 : Int, ((e47 = (Ending.returned (Value.tuple #[(Value.agg #[(Value.slice o49 n50 n51), (Value.slice o52 n53 n54), (Value.slice o55 n56 n57)]), (Value.int IntKind.i64 x58)]))) ∧
(∀ w59 : World, ((w59 = (w48.alloc (Obj.cells #[(Value.slice none 0 0), (Value.slice none 0 0), (Value.slice none 0 0)] 28 (0, 0)))) →
((Nf.There w59 (⟨(hs w48), 0, none⟩ : Addr) 3) ∧
(∀ w61 : World, ((w61 = (Nf.setCells w59 (⟨(hs w48), 0, none⟩ : Addr) [(Value.slice o49 n50 n51), (Value.slice o52 n53 n54), (Value.slice o55 n56 n57)] 0)) →
((((!(decide (x58 = 0))) = true) →
(R (Ending.returned (Value.bool false)) w61)) ∧
(((!(decide (x58 = 0))) = false) →
(∃ o65 : Option Addr, (∃ n66 : Nat, (∃ n67 : Nat, (((w61.cell? (⟨(hs w48), 0, none⟩ : Addr)) = (some (Value.slice o65 n66 n67))) ∧
((((!(decide (((n66 : Nat) : Int) = ((cost_n : Nat) : Int)))) = true) →
(R (Ending.returned (Value.bool false)) w61)) ∧
(((!(decide (((n66 : Nat) : Int) = ((cost_n : Nat) : Int)))) = false) →
(∃ o70 : Option Addr, (∃ n71 : Nat, (∃ n72 : Nat, (((w61.cell? (⟨(hs w48), 0, none⟩ : Addr)) = (some (Value.slice o70 n71 n72))) ∧
(∃ o73 : Option Addr, (∃ n74 : Nat, (∃ n75 : Nat, (((w61.cell? (⟨(hs w48), 1, none⟩ : Addr)) = (some (Value.slice o73 n74 n75))) ∧
(∃ o76 : Option Addr, (∃ n77 : Nat, (∃ n78 : Nat, (((w61.cell? (⟨(hs w48), 2, none⟩ : Addr)) = (some (Value.slice o76 n77 n78))) ∧
(Calls Tryd.prog 17 #[(Value.agg #[(Value.slice o70 n71 n72), (Value.slice o73 n74 n75), (Value.slice o76 n77 n78)])] w61 (fun (e79 : Ending) => (fun (w80 : World) => (∃ o81 : Option Addr, (∃ n82 : Nat, (∃ n83 : Nat, (∃ o84 : Option Addr, (∃ n85 : Nat, (∃ n86 : Nat, (∃ o87 : Option Addr, (∃ n88 : Nat, (∃ n89 : Nat, ((e79 = (Ending.returned (Value.agg #[(Value.slice o81 n82 n83), (Value.slice o84 n85 n86), (Value.slice o87 n88 n89)]))) ∧
(Calls Tryd.prog 20 #[(Value.agg #[(Value.slice o81 n82 n83), (Value.slice o84 n85 n86), (Value.slice o87 n88 n89)])] w80 (fun (e90 : Ending) => (fun (w91 : World) => (∃ o92 : Option Addr, (∃ n93 : Nat, (∃ n94 : Nat, (∃ o95 : Option Addr, (∃ n96 : Nat, (∃ n97 : Nat, (∃ o98 : Option Addr, (∃ n99 : Nat, (∃ n100 : Nat, ((e90 = (Ending.returned (Value.agg #[(Value.slice o92 n93 n94), (Value.slice o95 n96 n97), (Value.slice o98 n99 n100)]))) ∧
(Calls Tryd.prog 17 #[(Value.agg #[(Value.slice o92 n93 n94), (Value.slice o95 n96 n97), (Value.slice o98 n99 n100)])] w91 (fun (e101 : Ending) => (fun (w102 : World) => (∃ o103 : Option Addr, (∃ n104 : Nat, (∃ n105 : Nat, (∃ o106 : Option Addr, (∃ n107 : Nat, (∃ n108 : Nat, (∃ o109 : Option Addr, (∃ n110 : Nat, (∃ n111 : Nat, ((e101 = (Ending.returned (Value.agg #[(Value.slice o103 n104 n105), (Value.slice o106 n107 n108), (Value.slice o109 n110 n111)]))) ∧
(∀ w112 : World, ((w112 = (w102.alloc (Obj.cells #[(Value.slice none 0 0), (Value.slice none 0 0), (Value.slice none 0 0)] 40 (0, 0)))) →
((Nf.There w112 (⟨(hs w102), 0, none⟩ : Addr) 3) ∧
(∀ w114 : World, ((w114 = (Nf.setCells w112 (⟨(hs w102), 0, none⟩ : Addr) [(Value.slice o103 n104 n105), (Value.slice o106 n107 n108), (Value.slice o109 n110 n111)] 0)) →
(∀ k116 : (World → Prop), ((∀ w118 : World, (((Nat → Value) →
(∀ w121 : World, ((w121 = w118.drew) →
(∃ o123 : Option Addr, (∃ n124 : Nat, (∃ n125 : Nat, (((w121.cell? (⟨(hs w102), 0, none⟩ : Addr)) = (some (Value.slice o123 n124 n125))) ∧
(∃ o126 : Option Addr, (∃ n127 : Nat, (∃ n128 : Nat, (((w121.cell? (⟨(hs w102), 1, none⟩ : Addr)) = (some (Value.slice o126 n127 n128))) ∧
(∃ o129 : Option Addr, (∃ n130 : Nat, (∃ n131 : Nat, (((w121.cell? (⟨(hs w102), 2, none⟩ : Addr)) = (some (Value.slice o129 n130 n131))) ∧
(∃ o132 : Option Addr, (∃ n133 : Nat, (∃ n134 : Nat, (((w121.cell? (⟨(hs w102), 0, none⟩ : Addr)) = (some (Value.slice o132 n133 n134))) ∧
(∃ o135 : Option Addr, (∃ n136 : Nat, (∃ n137 : Nat, (((w121.cell? (⟨(hs w102), 1, none⟩ : Addr)) = (some (Value.slice o135 n136 n137))) ∧
(∃ o138 : Option Addr, (∃ n139 : Nat, (∃ n140 : Nat, (((w121.cell? (⟨(hs w102), 2, none⟩ : Addr)) = (some (Value.slice o138 n139 n140))) ∧
(Calls Tryd.prog 12 #[(Value.slice cost cost_n cost_c)] w121 (fun (e141 : Ending) => (fun (w142 : World) => (∃ o143 : Option Addr, (∃ n144 : Nat, (∃ n145 : Nat, ((e141 = (Ending.returned (Value.slice o143 n144 n145))) ∧
((Nf.Kept w121 w142 (⟨(hs w102), 0, none⟩ : Addr) 3) ∧
((Nf.Kept w121 w142 (⟨(hs w102), 0, none⟩ : Addr) 3) ∧
(Calls Tryd.prog 13 #[(Value.slice o30 n31 n32)] w142 (fun (e146 : Ending) => (fun (w147 : World) => (∃ o148 : Option Addr, (∃ n149 : Nat, (∃ n150 : Nat, ((e146 = (Ending.returned (Value.slice o148 n149 n150))) ∧
((Nf.Kept w121 w147 (⟨(hs w102), 0, none⟩ : Addr) 3) ∧
((Nf.Kept w121 w147 (⟨(hs w102), 0, none⟩ : Addr) 3) ∧
(Calls Tryd.prog 20 #[(Value.agg #[(Value.slice o123 n124 n125), (Value.slice o126 n127 n128), (Value.slice o129 n130 n131)])] w147 (fun (e151 : Ending) => (fun (w152 : World) => (∃ o153 : Option Addr, (∃ n154 : Nat, (∃ n155 : Nat, (∃ o156 : Option Addr, (∃ n157 : Nat, (∃ n158 : Nat, (∃ o159 : Option Addr, (∃ n160 : Nat, (∃ n161 : Nat, ((e151 = (Ending.returned (Value.agg #[(Value.slice o153 n154 n155), (Value.slice o156 n157 n158), (Value.slice o159 n160 n161)]))) ∧
((Nf.Kept w121 w152 (⟨(hs w102), 0, none⟩ : Addr) 3) ∧
(Calls Tryd.prog 19 #[(Value.slice o143 n144 n145), (Value.slice o148 n149 n150), (Value.agg #[(Value.slice o153 n154 n155), (Value.slice o156 n157 n158), (Value.slice o159 n160 n161)])] w152 (fun (e162 : Ending) => (fun (w163 : World) => (∃ b164 : Bool, ((e162 = (Ending.returned (Value.bool b164))) ∧
((Nf.Kept w121 w163 (⟨(hs w102), 0, none⟩ : Addr) 3) ∧
(Calls Tryd.prog 16 #[(Value.slice cost cost_n cost_c), (Value.slice o30 n31 n32), (Value.agg #[(Value.slice o132 n133 n134), (Value.slice o135 n136 n137), (Value.slice o138 n139 n140)])] w163 (fun (e165 : Ending) => (fun (w166 : World) => (∃ b167 : Bool, ((e165 = (Ending.returned (Value.bool b167))) ∧
((((decide (b164 = b167)) = true) →
(∃ o169 : Option Addr, (∃ n170 : Nat, (∃ n171 : Nat, (((w166.cell? (⟨(hs w102), 0, none⟩ : Addr)) = (some (Value.slice o169 n170 n171))) ∧
(∃ o172 : Option Addr, (∃ n173 : Nat, (∃ n174 : Nat, (((w166.cell? (⟨(hs w102), 1, none⟩ : Addr)) = (some (Value.slice o172 n173 n174))) ∧
(∃ o175 : Option Addr, (∃ n176 : Nat, (∃ n177 : Nat, (((w166.cell? (⟨(hs w102), 2, none⟩ : Addr)) = (some (Value.slice o175 n176 n177))) ∧
(∃ o178 : Option Addr, (∃ n179 : Nat, (∃ n180 : Nat, (((w166.cell? (⟨(hs w102), 0, none⟩ : Addr)) = (some (Value.slice o178 n179 n180))) ∧
(∃ o181 : Option Addr, (∃ n182 : Nat, (∃ n183 : Nat, (((w166.cell? (⟨(hs w102), 1, none⟩ : Addr)) = (some (Value.slice o181 n182 n183))) ∧
(∃ o184 : Option Addr, (∃ n185 : Nat, (∃ n186 : Nat, (((w166.cell? (⟨(hs w102), 2, none⟩ : Addr)) = (some (Value.slice o184 n185 n186))) ∧
(Calls Tryd.prog 12 #[(Value.slice cost cost_n cost_c)] w166 (fun (e187 : Ending) => (fun (w188 : World) => (∃ o189 : Option Addr, (∃ n190 : Nat, (∃ n191 : Nat, ((e187 = (Ending.returned (Value.slice o189 n190 n191))) ∧
((Nf.Kept w166 w188 (⟨(hs w102), 0, none⟩ : Addr) 3) ∧
((Nf.Kept w166 w188 (⟨(hs w102), 0, none⟩ : Addr) 3) ∧
(Calls Tryd.prog 13 #[(Value.slice m m_n m_c)] w188 (fun (e192 : Ending) => (fun (w193 : World) => (∃ o194 : Option Addr, (∃ n195 : Nat, (∃ n196 : Nat, ((e192 = (Ending.returned (Value.slice o194 n195 n196))) ∧
((Nf.Kept w166 w193 (⟨(hs w102), 0, none⟩ : Addr) 3) ∧
((Nf.Kept w166 w193 (⟨(hs w102), 0, none⟩ : Addr) 3) ∧
(Calls Tryd.prog 20 #[(Value.agg #[(Value.slice o169 n170 n171), (Value.slice o172 n173 n174), (Value.slice o175 n176 n177)])] w193 (fun (e197 : Ending) => (fun (w198 : World) => (∃ o199 : Option Addr, (∃ n200 : Nat, (∃ n201 : Nat, (∃ o202 : Option Addr, (∃ n203 : Nat, (∃ n204 : Nat, (∃ o205 : Option Addr, (∃ n206 : Nat, (∃ n207 : Nat, ((e197 = (Ending.returned (Value.agg #[(Value.slice o199 n200 n201), (Value.slice o202 n203 n204), (Value.slice o205 n206 n207)]))) ∧
((Nf.Kept w166 w198 (⟨(hs w102), 0, none⟩ : Addr) 3) ∧
(Calls Tryd.prog 19 #[(Value.slice o189 n190 n191), (Value.slice o194 n195 n196), (Value.agg #[(Value.slice o199 n200 n201), (Value.slice o202 n203 n204), (Value.slice o205 n206 n207)])] w198 (fun (e208 : Ending) => (fun (w209 : World) => (∃ b210 : Bool, ((e208 = (Ending.returned (Value.bool b210))) ∧
((Nf.Kept w166 w209 (⟨(hs w102), 0, none⟩ : Addr) 3) ∧
(Calls Tryd.prog 16 #[(Value.slice cost cost_n cost_c), (Value.slice m m_n m_c), (Value.agg #[(Value.slice o178 n179 n180), (Value.slice o181 n182 n183), (Value.slice o184 n185 n186)])] w209 (fun (e211 : Ending) => (fun (w212 : World) => (∃ b213 : Bool, ((e211 = (Ending.returned (Value.bool b213))) ∧
((((decide (b210 = b213)) = true) →
(R (Ending.returned (Value.bool true)) w212)) ∧
(((decide (b210 = b213)) = false) →
(R (Ending.returned (Value.bool false)) w212))))))))))))))))))))))))))))))))))))))))))))))))))))))))))))))))))))))) ∧
(((decide (b164 = b167)) = false) →
(R (Ending.returned (Value.bool false)) w166))))))))))))))))))))))))))))))))))))))))))))))))))))))))))))))))))))))))) →
(k116 w118))) →
(∃ x217 : Int, (((w114.cell? (⟨(hs w), 0, none⟩ : Addr)) = (some (Value.int IntKind.i64 x217))) ∧
((((decide (x217 = 0)) = true) →
(∃ o219 : Option Addr, (∃ n220 : Nat, (∃ n221 : Nat, (((w114.cell? (⟨(hs w102), 0, none⟩ : Addr)) = (some (Value.slice o219 n220 n221))) ∧
((((decide (((n220 : Nat) : Int) > 0)) = true) →
(∀ w223 : World, ((w223 = w114.drew) →
(∃ o225 : Option Addr, (∃ n226 : Nat, (∃ n227 : Nat, (((w223.cell? (⟨(hs w102), 0, none⟩ : Addr)) = (some (Value.slice o225 n226 n227))) ∧
(∃ x228 : Int, (((w223.cell? (⟨(hs w), 1, none⟩ : Addr)) = (some (Value.int IntKind.i64 x228))) ∧
(∃ o229 : Option Addr, (∃ n230 : Nat, (∃ n231 : Nat, (((w223.cell? (⟨(hs w102), 0, none⟩ : Addr)) = (some (Value.slice o229 n230 n231))) ∧
(((IntKind.wrap IntKind.u64 ((n230 : Nat) : Int)) ≠ 0) ∧
(∃ a232 : Addr, ((o225 = (some a232)) ∧
((((0 : Int) ≤ (IntKind.wrap IntKind.i64 (Int.tmod (IntKind.wrap IntKind.u64 x228) (IntKind.wrap IntKind.u64 ((n230 : Nat) : Int))))) ∧
((IntKind.wrap IntKind.i64 (Int.tmod (IntKind.wrap IntKind.u64 x228) (IntKind.wrap IntKind.u64 ((n230 : Nat) : Int)))) < ((n226 : Nat) : Int))) ∧
(∃ x233 : Int, (((w223.cell? (Addr.add a232 (((IntKind.wrap IntKind.i64 (Int.tmod (IntKind.wrap IntKind.u64 x228) (IntKind.wrap IntKind.u64 ((n230 : Nat) : Int))))).toNat * 1))) = (some (Value.int IntKind.i64 x233))) ∧
(∃ x234 : Int, (((w223.cell? (⟨(hs w), 2, none⟩ : Addr)) = (some (Value.int IntKind.i64 x234))) ∧
(∃ a235 : Addr, ((o225 = (some a235)) ∧
((((0 : Int) ≤ (IntKind.wrap IntKind.i64 (Int.tmod (IntKind.wrap IntKind.u64 x228) (IntKind.wrap IntKind.u64 ((n230 : Nat) : Int))))) ∧
((IntKind.wrap IntKind.i64 (Int.tmod (IntKind.wrap IntKind.u64 x228) (IntKind.wrap IntKind.u64 ((n230 : Nat) : Int)))) < ((n226 : Nat) : Int))) ∧
((Nf.There w223 (Addr.add a235 (((IntKind.wrap IntKind.i64 (Int.tmod (IntKind.wrap IntKind.u64 x228) (IntKind.wrap IntKind.u64 ((n230 : Nat) : Int))))).toNat * 1)) 1) ∧
(∀ w236 : World, ((w236 = (Nf.setCells w223 (Addr.add a235 (((IntKind.wrap IntKind.i64 (Int.tmod (IntKind.wrap IntKind.u64 x228) (IntKind.wrap IntKind.u64 ((n230 : Nat) : Int))))).toNat * 1)) [(Value.int IntKind.i64 (IntKind.wrap IntKind.i64 (x233 + x234)))] 0)) →
(k116 w236)))))))))))))))))))))))))))) ∧
(((decide (((n220 : Nat) : Int) > 0)) = false) →
(∃ x239 : Int, (((w114.cell? (⟨(hs w), 0, none⟩ : Addr)) = (some (Value.int IntKind.i64 x239))) ∧
((((decide (x239 = 1)) = true) →
(∃ o241 : Option Addr, (∃ n242 : Nat, (∃ n243 : Nat, (((w114.cell? (⟨(hs w102), 1, none⟩ : Addr)) = (some (Value.slice o241 n242 n243))) ∧
((((decide (((n242 : Nat) : Int) > 0)) = true) →
(∀ w245 : World, ((w245 = w114.drew) →
(∃ o247 : Option Addr, (∃ n248 : Nat, (∃ n249 : Nat, (((w245.cell? (⟨(hs w102), 1, none⟩ : Addr)) = (some (Value.slice o247 n248 n249))) ∧
(∃ x250 : Int, (((w245.cell? (⟨(hs w), 1, none⟩ : Addr)) = (some (Value.int IntKind.i64 x250))) ∧
(∃ o251 : Option Addr, (∃ n252 : Nat, (∃ n253 : Nat, (((w245.cell? (⟨(hs w102), 1, none⟩ : Addr)) = (some (Value.slice o251 n252 n253))) ∧
(((IntKind.wrap IntKind.u64 ((n252 : Nat) : Int)) ≠ 0) ∧
(∃ a254 : Addr, ((o247 = (some a254)) ∧
((((0 : Int) ≤ (IntKind.wrap IntKind.i64 (Int.tmod (IntKind.wrap IntKind.u64 x250) (IntKind.wrap IntKind.u64 ((n252 : Nat) : Int))))) ∧
((IntKind.wrap IntKind.i64 (Int.tmod (IntKind.wrap IntKind.u64 x250) (IntKind.wrap IntKind.u64 ((n252 : Nat) : Int)))) < ((n248 : Nat) : Int))) ∧
(∃ x255 : Int, (((w245.cell? (Addr.add a254 (((IntKind.wrap IntKind.i64 (Int.tmod (IntKind.wrap IntKind.u64 x250) (IntKind.wrap IntKind.u64 ((n252 : Nat) : Int))))).toNat * 1))) = (some (Value.int IntKind.i64 x255))) ∧
(∃ x256 : Int, (((w245.cell? (⟨(hs w), 2, none⟩ : Addr)) = (some (Value.int IntKind.i64 x256))) ∧
(∃ a257 : Addr, ((o247 = (some a257)) ∧
((((0 : Int) ≤ (IntKind.wrap IntKind.i64 (Int.tmod (IntKind.wrap IntKind.u64 x250) (IntKind.wrap IntKind.u64 ((n252 : Nat) : Int))))) ∧
((IntKind.wrap IntKind.i64 (Int.tmod (IntKind.wrap IntKind.u64 x250) (IntKind.wrap IntKind.u64 ((n252 : Nat) : Int)))) < ((n248 : Nat) : Int))) ∧
((Nf.There w245 (Addr.add a257 (((IntKind.wrap IntKind.i64 (Int.tmod (IntKind.wrap IntKind.u64 x250) (IntKind.wrap IntKind.u64 ((n252 : Nat) : Int))))).toNat * 1)) 1) ∧
(∀ w258 : World, ((w258 = (Nf.setCells w245 (Addr.add a257 (((IntKind.wrap IntKind.i64 (Int.tmod (IntKind.wrap IntKind.u64 x250) (IntKind.wrap IntKind.u64 ((n252 : Nat) : Int))))).toNat * 1)) [(Value.int IntKind.i64 (IntKind.wrap IntKind.i64 (x255 + x256)))] 0)) →
(k116 w258)))))))))))))))))))))))))))) ∧
(((decide (((n242 : Nat) : Int) > 0)) = false) →
(∃ x261 : Int, (((w114.cell? (⟨(hs w), 0, none⟩ : Addr)) = (some (Value.int IntKind.i64 x261))) ∧
((((decide (x261 = 2)) = true) →
(∃ o263 : Option Addr, (∃ n264 : Nat, (∃ n265 : Nat, (((w114.cell? (⟨(hs w102), 2, none⟩ : Addr)) = (some (Value.slice o263 n264 n265))) ∧
((((decide (((n264 : Nat) : Int) > 0)) = true) →
(∃ x267 : Int, (((w114.cell? (⟨(hs w), 1, none⟩ : Addr)) = (some (Value.int IntKind.i64 x267))) ∧
(∃ o268 : Option Addr, (∃ n269 : Nat, (∃ n270 : Nat, (((w114.cell? (⟨(hs w102), 2, none⟩ : Addr)) = (some (Value.slice o268 n269 n270))) ∧
(((IntKind.wrap IntKind.u64 ((n269 : Nat) : Int)) ≠ 0) ∧
(∀ w271 : World, ((w271 = w114.drew) →
(∃ o273 : Option Addr, (∃ n274 : Nat, (∃ n275 : Nat, (((w271.cell? (⟨(hs w102), 2, none⟩ : Addr)) = (some (Value.slice o273 n274 n275))) ∧
((((0 : Int) ≤ (IntKind.wrap IntKind.i64 (Int.tmod (IntKind.wrap IntKind.u64 x267) (IntKind.wrap IntKind.u64 ((n269 : Nat) : Int))))) ∧
((IntKind.wrap IntKind.i64 (Int.tmod (IntKind.wrap IntKind.u64 x267) (IntKind.wrap IntKind.u64 ((n269 : Nat) : Int)))) ≤ ((n275 : Nat) : Int))) ∧
(∃ o276 : Option Addr, (∃ n277 : Nat, (∃ n278 : Nat, (((w271.cell? (⟨(hs w102), 2, none⟩ : Addr)) = (some (Value.slice o276 n277 n278))) ∧
((((0 : Int) ≤ (IntKind.wrap IntKind.i64 ((IntKind.wrap IntKind.i64 (Int.tmod (IntKind.wrap IntKind.u64 x267) (IntKind.wrap IntKind.u64 ((n269 : Nat) : Int)))) + 1))) ∧
((IntKind.wrap IntKind.i64 ((IntKind.wrap IntKind.i64 (Int.tmod (IntKind.wrap IntKind.u64 x267) (IntKind.wrap IntKind.u64 ((n269 : Nat) : Int)))) + 1)) ≤ ((n277 : Nat) : Int))) ∧
(Calls Tryd.prog 13 #[(Value.slice (if (n275 = 0) then o273 else (Option.map (fun (x : Addr) => x) o273)) (((IntKind.wrap IntKind.i64 (Int.tmod (IntKind.wrap IntKind.u64 x267) (IntKind.wrap IntKind.u64 ((n269 : Nat) : Int))))).toNat - 0) (n275 - 0))] w271 (fun (e279 : Ending) => (fun (w280 : World) => (∃ o281 : Option Addr, (∃ n282 : Nat, (∃ n283 : Nat, ((e279 = (Ending.returned (Value.slice o281 n282 n283))) ∧
((Nf.Kept w271 w280 (⟨(hs w102), 2, none⟩ : Addr) 1) ∧
(RunOk Tryd.prog (Nf.Hold (Builtin.append_ #[23, 23] 23 #[(Value.slice o281 n282 n283), (Value.slice (if (n278 = ((IntKind.wrap IntKind.i64 ((IntKind.wrap IntKind.i64 (Int.tmod (IntKind.wrap IntKind.u64 x267) (IntKind.wrap IntKind.u64 ((n269 : Nat) : Int)))) + 1))).toNat) then o276 else (Option.map (fun (x : Addr) => (Addr.add x (((IntKind.wrap IntKind.i64 ((IntKind.wrap IntKind.i64 (Int.tmod (IntKind.wrap IntKind.u64 x267) (IntKind.wrap IntKind.u64 ((n269 : Nat) : Int)))) + 1))).toNat * 1))) o276)) (n277 - ((IntKind.wrap IntKind.i64 ((IntKind.wrap IntKind.i64 (Int.tmod (IntKind.wrap IntKind.u64 x267) (IntKind.wrap IntKind.u64 ((n269 : Nat) : Int)))) + 1))).toNat) (n278 - ((IntKind.wrap IntKind.i64 ((IntKind.wrap IntKind.i64 (Int.tmod (IntKind.wrap IntKind.u64 x267) (IntKind.wrap IntKind.u64 ((n269 : Nat) : Int)))) + 1))).toNat))])) w280 (fun (v284 : Value) => (fun (w285 : World) => (∃ o286 : Option Addr, (∃ n287 : Nat, (∃ n288 : Nat, ((v284 = (Value.slice o286 n287 n288)) ∧
((Nf.There w285 (⟨(hs w102), 2, none⟩ : Addr) 1) ∧
(∀ w289 : World, ((w289 = (Nf.setCells w285 (⟨(hs w102), 2, none⟩ : Addr) [(Value.slice o286 n287 n288)] 0)) →
(k116 w289))))))))))))))))))))))))))))))))))))))) ∧
(((decide (((n264 : Nat) : Int) > 0)) = false) →
(k116 w114)))))))) ∧
(((decide (x261 = 2)) = false) →
(k116 w114)))))))))))) ∧
(((decide (x239 = 1)) = false) →
(∃ x294 : Int, (((w114.cell? (⟨(hs w), 0, none⟩ : Addr)) = (some (Value.int IntKind.i64 x294))) ∧
((((decide (x294 = 2)) = true) →
(∃ o296 : Option Addr, (∃ n297 : Nat, (∃ n298 : Nat, (((w114.cell? (⟨(hs w102), 2, none⟩ : Addr)) = (some (Value.slice o296 n297 n298))) ∧
((((decide (((n297 : Nat) : Int) > 0)) = true) →
(∃ x300 : Int, (((w114.cell? (⟨(hs w), 1, none⟩ : Addr)) = (some (Value.int IntKind.i64 x300))) ∧
(∃ o301 : Option Addr, (∃ n302 : Nat, (∃ n303 : Nat, (((w114.cell? (⟨(hs w102), 2, none⟩ : Addr)) = (some (Value.slice o301 n302 n303))) ∧
(((IntKind.wrap IntKind.u64 ((n302 : Nat) : Int)) ≠ 0) ∧
(∀ w304 : World, ((w304 = w114.drew) →
(∃ o306 : Option Addr, (∃ n307 : Nat, (∃ n308 : Nat, (((w304.cell? (⟨(hs w102), 2, none⟩ : Addr)) = (some (Value.slice o306 n307 n308))) ∧
((((0 : Int) ≤ (IntKind.wrap IntKind.i64 (Int.tmod (IntKind.wrap IntKind.u64 x300) (IntKind.wrap IntKind.u64 ((n302 : Nat) : Int))))) ∧
((IntKind.wrap IntKind.i64 (Int.tmod (IntKind.wrap IntKind.u64 x300) (IntKind.wrap IntKind.u64 ((n302 : Nat) : Int)))) ≤ ((n308 : Nat) : Int))) ∧
(∃ o309 : Option Addr, (∃ n310 : Nat, (∃ n311 : Nat, (((w304.cell? (⟨(hs w102), 2, none⟩ : Addr)) = (some (Value.slice o309 n310 n311))) ∧
((((0 : Int) ≤ (IntKind.wrap IntKind.i64 ((IntKind.wrap IntKind.i64 (Int.tmod (IntKind.wrap IntKind.u64 x300) (IntKind.wrap IntKind.u64 ((n302 : Nat) : Int)))) + 1))) ∧
((IntKind.wrap IntKind.i64 ((IntKind.wrap IntKind.i64 (Int.tmod (IntKind.wrap IntKind.u64 x300) (IntKind.wrap IntKind.u64 ((n302 : Nat) : Int)))) + 1)) ≤ ((n310 : Nat) : Int))) ∧
(Calls Tryd.prog 13 #[(Value.slice (if (n308 = 0) then o306 else (Option.map (fun (x : Addr) => x) o306)) (((IntKind.wrap IntKind.i64 (Int.tmod (IntKind.wrap IntKind.u64 x300) (IntKind.wrap IntKind.u64 ((n302 : Nat) : Int))))).toNat - 0) (n308 - 0))] w304 (fun (e312 : Ending) => (fun (w313 : World) => (∃ o314 : Option Addr, (∃ n315 : Nat, (∃ n316 : Nat, ((e312 = (Ending.returned (Value.slice o314 n315 n316))) ∧
((Nf.Kept w304 w313 (⟨(hs w102), 2, none⟩ : Addr) 1) ∧
(RunOk Tryd.prog (Nf.Hold (Builtin.append_ #[23, 23] 23 #[(Value.slice o314 n315 n316), (Value.slice (if (n311 = ((IntKind.wrap IntKind.i64 ((IntKind.wrap IntKind.i64 (Int.tmod (IntKind.wrap IntKind.u64 x300) (IntKind.wrap IntKind.u64 ((n302 : Nat) : Int)))) + 1))).toNat) then o309 else (Option.map (fun (x : Addr) => (Addr.add x (((IntKind.wrap IntKind.i64 ((IntKind.wrap IntKind.i64 (Int.tmod (IntKind.wrap IntKind.u64 x300) (IntKind.wrap IntKind.u64 ((n302 : Nat) : Int)))) + 1))).toNat * 1))) o309)) (n310 - ((IntKind.wrap IntKind.i64 ((IntKind.wrap IntKind.i64 (Int.tmod (IntKind.wrap IntKind.u64 x300) (IntKind.wrap IntKind.u64 ((n302 : Nat) : Int)))) + 1))).toNat) (n311 - ((IntKind.wrap IntKind.i64 ((IntKind.wrap IntKind.i64 (Int.tmod (IntKind.wrap IntKind.u64 x300) (IntKind.wrap IntKind.u64 ((n302 : Nat) : Int)))) + 1))).toNat))])) w313 (fun (v317 : Value) => (fun (w318 : World) => (∃ o319 : Option Addr, (∃ n320 : Nat, (∃ n321 : Nat, ((v317 = (Value.slice o319 n320 n321)) ∧
((Nf.There w318 (⟨(hs w102), 2, none⟩ : Addr) 1) ∧
(∀ w322 : World, ((w322 = (Nf.setCells w318 (⟨(hs w102), 2, none⟩ : Addr) [(Value.slice o319 n320 n321)] 0)) →
(k116 w322))))))))))))))))))))))))))))))))))))))) ∧
(((decide (((n297 : Nat) : Int) > 0)) = false) →
(k116 w114)))))))) ∧
(((decide (x294 = 2)) = false) →
(k116 w114)))))))))))))))) ∧
(((decide (x217 = 0)) = false) →
(∃ x327 : Int, (((w114.cell? (⟨(hs w), 0, none⟩ : Addr)) = (some (Value.int IntKind.i64 x327))) ∧
((((decide (x327 = 1)) = true) →
(∃ o329 : Option Addr, (∃ n330 : Nat, (∃ n331 : Nat, (((w114.cell? (⟨(hs w102), 1, none⟩ : Addr)) = (some (Value.slice o329 n330 n331))) ∧
((((decide (((n330 : Nat) : Int) > 0)) = true) →
(∀ w333 : World, ((w333 = w114.drew) →
(∃ o335 : Option Addr, (∃ n336 : Nat, (∃ n337 : Nat, (((w333.cell? (⟨(hs w102), 1, none⟩ : Addr)) = (some (Value.slice o335 n336 n337))) ∧
(∃ x338 : Int, (((w333.cell? (⟨(hs w), 1, none⟩ : Addr)) = (some (Value.int IntKind.i64 x338))) ∧
(∃ o339 : Option Addr, (∃ n340 : Nat, (∃ n341 : Nat, (((w333.cell? (⟨(hs w102), 1, none⟩ : Addr)) = (some (Value.slice o339 n340 n341))) ∧
(((IntKind.wrap IntKind.u64 ((n340 : Nat) : Int)) ≠ 0) ∧
(∃ a342 : Addr, ((o335 = (some a342)) ∧
((((0 : Int) ≤ (IntKind.wrap IntKind.i64 (Int.tmod (IntKind.wrap IntKind.u64 x338) (IntKind.wrap IntKind.u64 ((n340 : Nat) : Int))))) ∧
((IntKind.wrap IntKind.i64 (Int.tmod (IntKind.wrap IntKind.u64 x338) (IntKind.wrap IntKind.u64 ((n340 : Nat) : Int)))) < ((n336 : Nat) : Int))) ∧
(∃ x343 : Int, (((w333.cell? (Addr.add a342 (((IntKind.wrap IntKind.i64 (Int.tmod (IntKind.wrap IntKind.u64 x338) (IntKind.wrap IntKind.u64 ((n340 : Nat) : Int))))).toNat * 1))) = (some (Value.int IntKind.i64 x343))) ∧
(∃ x344 : Int, (((w333.cell? (⟨(hs w), 2, none⟩ : Addr)) = (some (Value.int IntKind.i64 x344))) ∧
(∃ a345 : Addr, ((o335 = (some a345)) ∧
((((0 : Int) ≤ (IntKind.wrap IntKind.i64 (Int.tmod (IntKind.wrap IntKind.u64 x338) (IntKind.wrap IntKind.u64 ((n340 : Nat) : Int))))) ∧
((IntKind.wrap IntKind.i64 (Int.tmod (IntKind.wrap IntKind.u64 x338) (IntKind.wrap IntKind.u64 ((n340 : Nat) : Int)))) < ((n336 : Nat) : Int))) ∧
((Nf.There w333 (Addr.add a345 (((IntKind.wrap IntKind.i64 (Int.tmod (IntKind.wrap IntKind.u64 x338) (IntKind.wrap IntKind.u64 ((n340 : Nat) : Int))))).toNat * 1)) 1) ∧
(∀ w346 : World, ((w346 = (Nf.setCells w333 (Addr.add a345 (((IntKind.wrap IntKind.i64 (Int.tmod (IntKind.wrap IntKind.u64 x338) (IntKind.wrap IntKind.u64 ((n340 : Nat) : Int))))).toNat * 1)) [(Value.int IntKind.i64 (IntKind.wrap IntKind.i64 (x343 + x344)))] 0)) →
(k116 w346)))))))))))))))))))))))))))) ∧
(((decide (((n330 : Nat) : Int) > 0)) = false) →
(∃ x349 : Int, (((w114.cell? (⟨(hs w), 0, none⟩ : Addr)) = (some (Value.int IntKind.i64 x349))) ∧
((((decide (x349 = 2)) = true) →
(∃ o351 : Option Addr, (∃ n352 : Nat, (∃ n353 : Nat, (((w114.cell? (⟨(hs w102), 2, none⟩ : Addr)) = (some (Value.slice o351 n352 n353))) ∧
((((decide (((n352 : Nat) : Int) > 0)) = true) →
(∃ x355 : Int, (((w114.cell? (⟨(hs w), 1, none⟩ : Addr)) = (some (Value.int IntKind.i64 x355))) ∧
(∃ o356 : Option Addr, (∃ n357 : Nat, (∃ n358 : Nat, (((w114.cell? (⟨(hs w102), 2, none⟩ : Addr)) = (some (Value.slice o356 n357 n358))) ∧
(((IntKind.wrap IntKind.u64 ((n357 : Nat) : Int)) ≠ 0) ∧
(∀ w359 : World, ((w359 = w114.drew) →
(∃ o361 : Option Addr, (∃ n362 : Nat, (∃ n363 : Nat, (((w359.cell? (⟨(hs w102), 2, none⟩ : Addr)) = (some (Value.slice o361 n362 n363))) ∧
((((0 : Int) ≤ (IntKind.wrap IntKind.i64 (Int.tmod (IntKind.wrap IntKind.u64 x355) (IntKind.wrap IntKind.u64 ((n357 : Nat) : Int))))) ∧
((IntKind.wrap IntKind.i64 (Int.tmod (IntKind.wrap IntKind.u64 x355) (IntKind.wrap IntKind.u64 ((n357 : Nat) : Int)))) ≤ ((n363 : Nat) : Int))) ∧
(∃ o364 : Option Addr, (∃ n365 : Nat, (∃ n366 : Nat, (((w359.cell? (⟨(hs w102), 2, none⟩ : Addr)) = (some (Value.slice o364 n365 n366))) ∧
((((0 : Int) ≤ (IntKind.wrap IntKind.i64 ((IntKind.wrap IntKind.i64 (Int.tmod (IntKind.wrap IntKind.u64 x355) (IntKind.wrap IntKind.u64 ((n357 : Nat) : Int)))) + 1))) ∧
((IntKind.wrap IntKind.i64 ((IntKind.wrap IntKind.i64 (Int.tmod (IntKind.wrap IntKind.u64 x355) (IntKind.wrap IntKind.u64 ((n357 : Nat) : Int)))) + 1)) ≤ ((n365 : Nat) : Int))) ∧
(Calls Tryd.prog 13 #[(Value.slice (if (n363 = 0) then o361 else (Option.map (fun (x : Addr) => x) o361)) (((IntKind.wrap IntKind.i64 (Int.tmod (IntKind.wrap IntKind.u64 x355) (IntKind.wrap IntKind.u64 ((n357 : Nat) : Int))))).toNat - 0) (n363 - 0))] w359 (fun (e367 : Ending) => (fun (w368 : World) => (∃ o369 : Option Addr, (∃ n370 : Nat, (∃ n371 : Nat, ((e367 = (Ending.returned (Value.slice o369 n370 n371))) ∧
((Nf.Kept w359 w368 (⟨(hs w102), 2, none⟩ : Addr) 1) ∧
(RunOk Tryd.prog (Nf.Hold (Builtin.append_ #[23, 23] 23 #[(Value.slice o369 n370 n371), (Value.slice (if (n366 = ((IntKind.wrap IntKind.i64 ((IntKind.wrap IntKind.i64 (Int.tmod (IntKind.wrap IntKind.u64 x355) (IntKind.wrap IntKind.u64 ((n357 : Nat) : Int)))) + 1))).toNat) then o364 else (Option.map (fun (x : Addr) => (Addr.add x (((IntKind.wrap IntKind.i64 ((IntKind.wrap IntKind.i64 (Int.tmod (IntKind.wrap IntKind.u64 x355) (IntKind.wrap IntKind.u64 ((n357 : Nat) : Int)))) + 1))).toNat * 1))) o364)) (n365 - ((IntKind.wrap IntKind.i64 ((IntKind.wrap IntKind.i64 (Int.tmod (IntKind.wrap IntKind.u64 x355) (IntKind.wrap IntKind.u64 ((n357 : Nat) : Int)))) + 1))).toNat) (n366 - ((IntKind.wrap IntKind.i64 ((IntKind.wrap IntKind.i64 (Int.tmod (IntKind.wrap IntKind.u64 x355) (IntKind.wrap IntKind.u64 ((n357 : Nat) : Int)))) + 1))).toNat))])) w368 (fun (v372 : Value) => (fun (w373 : World) => (∃ o374 : Option Addr, (∃ n375 : Nat, (∃ n376 : Nat, ((v372 = (Value.slice o374 n375 n376)) ∧
((Nf.There w373 (⟨(hs w102), 2, none⟩ : Addr) 1) ∧
(∀ w377 : World, ((w377 = (Nf.setCells w373 (⟨(hs w102), 2, none⟩ : Addr) [(Value.slice o374 n375 n376)] 0)) →
(k116 w377))))))))))))))))))))))))))))))))))))))) ∧
(((decide (((n352 : Nat) : Int) > 0)) = false) →
(k116 w114)))))))) ∧
(((decide (x349 = 2)) = false) →
(k116 w114)))))))))))) ∧
(((decide (x327 = 1)) = false) →
(∃ x382 : Int, (((w114.cell? (⟨(hs w), 0, none⟩ : Addr)) = (some (Value.int IntKind.i64 x382))) ∧
((((decide (x382 = 2)) = true) →
(∃ o384 : Option Addr, (∃ n385 : Nat, (∃ n386 : Nat, (((w114.cell? (⟨(hs w102), 2, none⟩ : Addr)) = (some (Value.slice o384 n385 n386))) ∧
((((decide (((n385 : Nat) : Int) > 0)) = true) →
(∃ x388 : Int, (((w114.cell? (⟨(hs w), 1, none⟩ : Addr)) = (some (Value.int IntKind.i64 x388))) ∧
(∃ o389 : Option Addr, (∃ n390 : Nat, (∃ n391 : Nat, (((w114.cell? (⟨(hs w102), 2, none⟩ : Addr)) = (some (Value.slice o389 n390 n391))) ∧
(((IntKind.wrap IntKind.u64 ((n390 : Nat) : Int)) ≠ 0) ∧
(∀ w392 : World, ((w392 = w114.drew) →
(∃ o394 : Option Addr, (∃ n395 : Nat, (∃ n396 : Nat, (((w392.cell? (⟨(hs w102), 2, none⟩ : Addr)) = (some (Value.slice o394 n395 n396))) ∧
((((0 : Int) ≤ (IntKind.wrap IntKind.i64 (Int.tmod (IntKind.wrap IntKind.u64 x388) (IntKind.wrap IntKind.u64 ((n390 : Nat) : Int))))) ∧
((IntKind.wrap IntKind.i64 (Int.tmod (IntKind.wrap IntKind.u64 x388) (IntKind.wrap IntKind.u64 ((n390 : Nat) : Int)))) ≤ ((n396 : Nat) : Int))) ∧
(∃ o397 : Option Addr, (∃ n398 : Nat, (∃ n399 : Nat, (((w392.cell? (⟨(hs w102), 2, none⟩ : Addr)) = (some (Value.slice o397 n398 n399))) ∧
((((0 : Int) ≤ (IntKind.wrap IntKind.i64 ((IntKind.wrap IntKind.i64 (Int.tmod (IntKind.wrap IntKind.u64 x388) (IntKind.wrap IntKind.u64 ((n390 : Nat) : Int)))) + 1))) ∧
((IntKind.wrap IntKind.i64 ((IntKind.wrap IntKind.i64 (Int.tmod (IntKind.wrap IntKind.u64 x388) (IntKind.wrap IntKind.u64 ((n390 : Nat) : Int)))) + 1)) ≤ ((n398 : Nat) : Int))) ∧
(Calls Tryd.prog 13 #[(Value.slice (if (n396 = 0) then o394 else (Option.map (fun (x : Addr) => x) o394)) (((IntKind.wrap IntKind.i64 (Int.tmod (IntKind.wrap IntKind.u64 x388) (IntKind.wrap IntKind.u64 ((n390 : Nat) : Int))))).toNat - 0) (n396 - 0))] w392 (fun (e400 : Ending) => (fun (w401 : World) => (∃ o402 : Option Addr, (∃ n403 : Nat, (∃ n404 : Nat, ((e400 = (Ending.returned (Value.slice o402 n403 n404))) ∧
((Nf.Kept w392 w401 (⟨(hs w102), 2, none⟩ : Addr) 1) ∧
(RunOk Tryd.prog (Nf.Hold (Builtin.append_ #[23, 23] 23 #[(Value.slice o402 n403 n404), (Value.slice (if (n399 = ((IntKind.wrap IntKind.i64 ((IntKind.wrap IntKind.i64 (Int.tmod (IntKind.wrap IntKind.u64 x388) (IntKind.wrap IntKind.u64 ((n390 : Nat) : Int)))) + 1))).toNat) then o397 else (Option.map (fun (x : Addr) => (Addr.add x (((IntKind.wrap IntKind.i64 ((IntKind.wrap IntKind.i64 (Int.tmod (IntKind.wrap IntKind.u64 x388) (IntKind.wrap IntKind.u64 ((n390 : Nat) : Int)))) + 1))).toNat * 1))) o397)) (n398 - ((IntKind.wrap IntKind.i64 ((IntKind.wrap IntKind.i64 (Int.tmod (IntKind.wrap IntKind.u64 x388) (IntKind.wrap IntKind.u64 ((n390 : Nat) : Int)))) + 1))).toNat) (n399 - ((IntKind.wrap IntKind.i64 ((IntKind.wrap IntKind.i64 (Int.tmod (IntKind.wrap IntKind.u64 x388) (IntKind.wrap IntKind.u64 ((n390 : Nat) : Int)))) + 1))).toNat))])) w401 (fun (v405 : Value) => (fun (w406 : World) => (∃ o407 : Option Addr, (∃ n408 : Nat, (∃ n409 : Nat, ((v405 = (Value.slice o407 n408 n409)) ∧
((Nf.There w406 (⟨(hs w102), 2, none⟩ : Addr) 1) ∧
(∀ w410 : World, ((w410 = (Nf.setCells w406 (⟨(hs w102), 2, none⟩ : Addr) [(Value.slice o407 n408 n409)] 0)) →
(k116 w410))))))))))))))))))))))))))))))))))))))) ∧
(((decide (((n385 : Nat) : Int) > 0)) = false) →
(k116 w114)))))))) ∧
(((decide (x382 = 2)) = false) →
(k116 w114)))))))))))))))))))))))))))))))))))))))))))))))))))))))))))))))))))))))))))))))))))))))))))))))))))))))))))))))))))))))))))))))))))))) ∧
((b9 = false) →
(Calls Tryd.prog 9 #[] w8 (fun (e415 : Ending) => (fun (w416 : World) => (∃ b417 : Bool, ((e415 = (Ending.returned (Value.bool b417))) ∧
(R (Ending.returned (Value.bool b417)) w416)))))))))))))) ∧
((b5 = false) →
(Calls Tryd.prog 9 #[] w4 (fun (e419 : Ending) => (fun (w420 : World) => (∃ b421 : Bool, ((e419 = (Ending.returned (Value.bool b421))) ∧
(R (Ending.returned (Value.bool b421)) w420)))))))))))))))) :
    Calls Tryd.prog 8 #[(.slice cost cost_n cost_c), (.slice m m_n m_c), (.agg #[(.int .i64 x_Kind), (.int .i64 x_Place), (.int .i64 x_By)])] w R :=
  calls_of_vc an8 Tryd.func8 rfl (by kernel_rfl) (by kernel_rfl) (Eq.mp (by kernel_rfl) h)

/-- samaritan/samaritanlaw37.CertificateSound -/
def an5 : An := (.seq (.reg []) (.seq (.seq (.regD [(0, 0, true), (4, 0, true), (10, 0, true), (14, 0, true), (24, 0, true)] [0, 1, 2, 3, 4, 5, 6, 7, 8, 9, 10, 11, 12, 13, 14, 15, 16, 17, 18, 20, 22, 19, 21, 23, 24, 25, 26] [0, 4, 14, 19, 21, 23, 24]) (.cond (.seq (.reg []) .nil) .nil)) (.seq (.reg []) (.seq (.reg []) (.seq (.reg [(1, 0, true), (5, 0, true), (10, 0, true)]) .nil)))))
set_option maxRecDepth 100000 in
theorem nf5 (cost : Option Addr) (cost_n : Nat) (cost_c : Nat) (m : Option Addr) (m_n : Nat) (m_c : Nat) (p_Rows : Option Addr) (p_Rows_n : Nat) (p_Rows_c : Nat) (p_Columns : Option Addr) (p_Columns_n : Nat) (p_Columns_c : Nat) (p_Short : Option Addr) (p_Short_n : Nat) (p_Short_c : Nat) (w : World) (R : Ending → World → Prop) (h :
(∀ w1 : World, ((w1 = (w.alloc (Obj.cells #[(Value.slice p_Rows p_Rows_n p_Rows_c), (Value.slice p_Columns p_Columns_n p_Columns_c), (Value.slice p_Short p_Short_n p_Short_c)] 40 (0, 0)))) →
(∀ w3 : World, ((w3 = w1.drew) →
(Calls Tryd.prog 9 #[] w3 (fun (e5 : Ending) => (fun (w6 : World) => (∃ b7 : Bool, ((e5 = (Ending.returned (Value.bool b7))) ∧
(((b7 = true) →
(Calls Tryd.prog 10 #[(Value.slice cost cost_n cost_c)] w6 (fun (e9 : Ending) => (fun (w10 : World) => (∃ b11 : Bool, ((e9 = (Ending.returned (Value.bool b11))) ∧
(((b11 = true) →
((((decide (((m_n : Nat) : Int) > 70)) = true) →
(Calls Tryd.prog 9 #[] w10 (fun (e14 : Ending) => (fun (w15 : World) => (∃ b16 : Bool, ((e14 = (Ending.returned (Value.bool b16))) ∧
(R (Ending.returned (Value.bool b16)) w15))))))) ∧
(((decide (((m_n : Nat) : Int) > 70)) = false) →
(∃ o18 : Option Addr, (∃ n19 : Nat, (∃ n20 : Nat, (((w10.cell? (⟨(hs w), 0, none⟩ : Addr)) = (some (Value.slice o18 n19 n20))) ∧
(∃ o21 : Option Addr, (∃ n22 : Nat, (∃ n23 : Nat, (((w10.cell? (⟨(hs w), 1, none⟩ : Addr)) = (some (Value.slice o21 n22 n23))) ∧
(∃ o24 : Option Addr, (∃ n25 : Nat, (∃ n26 : Nat, (((w10.cell? (⟨(hs w), 2, none⟩ : Addr)) = (some (Value.slice o24 n25 n26))) ∧
(Calls Tryd.prog 18 #[(Value.agg #[(Value.slice o18 n19 n20), (Value.slice o21 n22 n23), (Value.slice o24 n25 n26)])] w10 (fun (e27 : Ending) => (fun (w28 : World) => (∃ b29 : Bool, ((e27 = (Ending.returned (Value.bool b29))) ∧
(((b29 = true) →
(∃ o31 : Option Addr, (∃ n32 : Nat, (∃ n33 : Nat, (((w28.cell? (⟨(hs w), 0, none⟩ : Addr)) = (some (Value.slice o31 n32 n33))) ∧
(∃ o34 : Option Addr, (∃ n35 : Nat, (∃ n36 : Nat, (((w28.cell? (⟨(hs w), 1, none⟩ : Addr)) = (some (Value.slice o34 n35 n36))) ∧
(∃ o37 : Option Addr, (∃ n38 : Nat, (∃ n39 : Nat, (((w28.cell? (⟨(hs w), 2, none⟩ : Addr)) = (some (Value.slice o37 n38 n39))) ∧
(Calls Tryd.prog 12 #[(Value.slice cost cost_n cost_c)] w28 (fun (e40 : Ending) => (fun (w41 : World) => (∃ o42 : Option Addr, (∃ n43 : Nat, (∃ n44 : Nat, ((e40 = (Ending.returned (Value.slice o42 n43 n44))) ∧
((Nf.Kept w28 w41 (⟨(hs w), 0, none⟩ : Addr) 3) ∧
(Calls Tryd.prog 13 #[(Value.slice m m_n m_c)] w41 (fun (e45 : Ending) => (fun (w46 : World) => (∃ o47 : Option Addr, (∃ n48 : Nat, (∃ n49 : Nat, ((e45 = (Ending.returned (Value.slice o47 n48 n49))) ∧
((Nf.Kept w28 w46 (⟨(hs w), 0, none⟩ : Addr) 3) ∧
(Calls Tryd.prog 20 #[(Value.agg #[(Value.slice o31 n32 n33), (Value.slice o34 n35 n36), (Value.slice o37 n38 n39)])] w46 (fun (e50 : Ending) => (fun (w51 : World) => (∃ o52 : Option Addr, (∃ n53 : Nat, (∃ n54 : Nat, (∃ o55 : Option Addr, (∃ n56 : Nat, (∃ n57 : Nat, (∃ o58 : Option Addr, (∃ n59 : Nat, (∃ n60 : Nat, ((e50 = (Ending.returned (Value.agg #[(Value.slice o52 n53 n54), (Value.slice o55 n56 n57), (Value.slice o58 n59 n60)]))) ∧
(Calls Tryd.prog 19 #[(Value.slice o42 n43 n44), (Value.slice o47 n48 n49), (Value.agg #[(Value.slice o52 n53 n54), (Value.slice o55 n56 n57), (Value.slice o58 n59 n60)])] w51 (fun (e61 : Ending) => (fun (w62 : World) => (∃ b63 : Bool, ((e61 = (Ending.returned (Value.bool b63))) ∧
(((b63 = true) →
(Calls Tryd.prog 14 #[(Value.slice cost cost_n cost_c), (Value.slice m m_n m_c)] w62 (fun (e65 : Ending) => (fun (w66 : World) => (∃ x67 : Int, (∃ x68 : Int, (∃ x69 : Int, ((e65 = (Ending.returned (Value.tuple #[(Value.int IntKind.i64 x67), (Value.int IntKind.i64 x68), (Value.int IntKind.i64 x69)]))) ∧
(Calls Tryd.prog 15 #[(Value.slice cost cost_n cost_c)] w66 (fun (e70 : Ending) => (fun (w71 : World) => (∃ x72 : Int, (∃ x73 : Int, ((e70 = (Ending.returned (Value.tuple #[(Value.int IntKind.i64 x72), (Value.int IntKind.i64 x73)]))) ∧
((((decide (x69 = 0)) = true) →
((((decide (x67 = x72)) = true) →
((((decide (x68 = x73)) = true) →
(R (Ending.returned (Value.bool true)) w71)) ∧
(((decide (x68 = x73)) = false) →
(R (Ending.returned (Value.bool false)) w71)))) ∧
(((decide (x67 = x72)) = false) →
(R (Ending.returned (Value.bool false)) w71)))) ∧
(((decide (x69 = 0)) = false) →
(R (Ending.returned (Value.bool false)) w71))))))))))))))))) ∧
((b63 = false) →
(Calls Tryd.prog 9 #[] w62 (fun (e81 : Ending) => (fun (w82 : World) => (∃ b83 : Bool, ((e81 = (Ending.returned (Value.bool b83))) ∧
(R (Ending.returned (Value.bool b83)) w82))))))))))))))))))))))))))))))))))))))))))))))))))))))) ∧
((b29 = false) →
(Calls Tryd.prog 9 #[] w28 (fun (e85 : Ending) => (fun (w86 : World) => (∃ b87 : Bool, ((e85 = (Ending.returned (Value.bool b87))) ∧
(R (Ending.returned (Value.bool b87)) w86)))))))))))))))))))))))))))) ∧
((b11 = false) →
(Calls Tryd.prog 9 #[] w10 (fun (e89 : Ending) => (fun (w90 : World) => (∃ b91 : Bool, ((e89 = (Ending.returned (Value.bool b91))) ∧
(R (Ending.returned (Value.bool b91)) w90)))))))))))))) ∧
((b7 = false) →
(Calls Tryd.prog 9 #[] w6 (fun (e93 : Ending) => (fun (w94 : World) => (∃ b95 : Bool, ((e93 = (Ending.returned (Value.bool b95))) ∧
(R (Ending.returned (Value.bool b95)) w94)))))))))))))))))) :
    Calls Tryd.prog 5 #[(.slice cost cost_n cost_c), (.slice m m_n m_c), (.agg #[(.slice p_Rows p_Rows_n p_Rows_c), (.slice p_Columns p_Columns_n p_Columns_c), (.slice p_Short p_Short_n p_Short_c)])] w R :=
  calls_of_vc an5 Tryd.func5 rfl (by kernel_rfl) (by kernel_rfl) (Eq.mp (by kernel_rfl) h)

end Go.Proofs.YtneklhmkiememaaDoor
