/- The contracts' premises: for each function, the proposition that its body comes to (printed by the tool of wip/nf). -/
import Derived.Test.YtbaacpfjecbbgaaRows
import Derived.Test.YtbaacpfjecbbgaaNfD
namespace Go.Proofs.Ytbaacpfjecbbgaa
open Go Go.Nf

/-- samaritan/protocolstore.New -/
def an41 : An := (.seq (.reg []) (.seq (.reg []) .nil))
set_option maxRecDepth 100000 in
theorem nf41  (w : World) (R : Ending → World → Prop) (h :
(∀ w1 : World, ((w1 = (w.alloc (Obj.map #[] 0))) →
(∀ w3 : World, ((w3 = (w1.alloc (Obj.cells #[(Value.slice none 0 0), (Value.map (some (hs w)))] 117 (0, 0)))) →
(R (Ending.returned (Value.pointer (some (⟨(hs w1), 0, none⟩ : Addr)))) w3)))))) :
    Calls Try.prog 41 #[] w R :=
  calls_of_vc an41 Try.func41 rfl (by kernel_rfl) (by kernel_rfl) (Eq.mp (by kernel_rfl) h)

/-- samaritan/samaritanlaw15.plain -/
def an43 : An := (.seq (.reg []) (.seq (.reg []) .nil))
set_option maxRecDepth 100000 in
theorem nf43 (name : ByteArray) (version : Int) (w : World) (R : Ending → World → Prop) (h :
(∀ w1 : World, ((w1 = (w.alloc (Obj.cells #[(Value.string (ByteArray.mk #[])), (Value.int IntKind.i64 0), (Value.slice none 0 0)] 24 (0, 0)))) →
(∀ w3 : World, ((w3 = (w1.alloc (Obj.cells #[(Value.string (ByteArray.mk #[(102 : UInt8), (97 : UInt8), (108 : UInt8), (108 : UInt8)])), (Value.int IntKind.i64 (-1)), (Value.int IntKind.i64 3), (Value.string (ByteArray.mk #[(102 : UInt8), (97 : UInt8), (108 : UInt8), (108 : UInt8)]))] 58 (0, 0)))) →
(∀ w5 : World, ((w5 = (w3.alloc (Obj.cells #[(Value.string (ByteArray.mk #[(87 : UInt8), (104 : UInt8), (97 : UInt8), (116 : UInt8), (63 : UInt8)])), (Value.slice (some (⟨(hs w1), 0, none⟩ : Addr)) 1 1)] 38 (0, 0)))) →
((Nf.There w5 (⟨(hs w), 0, none⟩ : Addr) 3) ∧
(∀ w7 : World, ((w7 = (Nf.setCells w5 (⟨(hs w), 0, none⟩ : Addr) [(Value.string name), (Value.int IntKind.i64 version), (Value.slice (some (⟨(hs w3), 0, none⟩ : Addr)) 1 1)] 0)) →
(∃ s9 : ByteArray, (((w7.cell? (⟨(hs w), 0, none⟩ : Addr)) = (some (Value.string s9))) ∧
(∃ x10 : Int, (((w7.cell? (⟨(hs w), 1, none⟩ : Addr)) = (some (Value.int IntKind.i64 x10))) ∧
(∃ o11 : Option Addr, (∃ n12 : Nat, (∃ n13 : Nat, (((w7.cell? (⟨(hs w), 2, none⟩ : Addr)) = (some (Value.slice o11 n12 n13))) ∧
(R (Ending.returned (Value.agg #[(Value.string s9), (Value.int IntKind.i64 x10), (Value.slice o11 n12 n13)])) w7))))))))))))))))))) :
    Calls Try.prog 43 #[(.string name), (.int .i64 version)] w R :=
  calls_of_vc an43 Try.func43 rfl (by kernel_rfl) (by kernel_rfl) (Eq.mp (by kernel_rfl) h)

/-- (*samaritan/protocolstore.Store).Get -/
def an49 : An := (.seq (.reg []) (.seq (.reg [(6, 0, true)]) (.seq (.seq (.reg []) (.cond (.seq (.reg []) .nil) .nil)) (.seq (.reg [(1, 2, false)]) .nil))))
set_option maxRecDepth 100000 in
theorem nf49 (b : Option Addr) (name : ByteArray) (version : Int) (w : World) (R : Ending → World → Prop) (h :
(∀ w1 : World, ((w1 = (w.alloc (Obj.cells #[(Value.string (ByteArray.mk #[])), (Value.int IntKind.i64 0), (Value.slice none 0 0)] 24 (0, 0)))) →
(Calls Try.prog 83 #[(Value.pointer b), (Value.string name), (Value.int IntKind.i64 version)] w1 (fun (e3 : Ending) => (fun (w4 : World) => (∃ x5 : Int, (∃ b6 : Bool, ((e3 = (Ending.returned (Value.tuple #[(Value.int IntKind.i64 x5), (Value.bool b6)]))) ∧
(((b6 = true) →
(∃ a8 : Addr, ((b = (some a8)) ∧
(∃ o9 : Option Addr, (∃ n10 : Nat, (∃ n11 : Nat, (((w4.cell? a8) = (some (Value.slice o9 n10 n11))) ∧
(∃ a12 : Addr, ((o9 = (some a12)) ∧
((((0 : Int) ≤ x5) ∧
(x5 < ((n10 : Nat) : Int))) ∧
(∃ s13 : ByteArray, (((w4.cell? (Addr.add a12 ((x5).toNat * 3))) = (some (Value.string s13))) ∧
(∃ x14 : Int, (((w4.cell? (Addr.add (Addr.add a12 ((x5).toNat * 3)) 1)) = (some (Value.int IntKind.i64 x14))) ∧
(∃ o15 : Option Addr, (∃ n16 : Nat, (∃ n17 : Nat, (((w4.cell? (Addr.add (Addr.add a12 ((x5).toNat * 3)) 2)) = (some (Value.slice o15 n16 n17))) ∧
(Calls Try.prog 85 #[(Value.agg #[(Value.string s13), (Value.int IntKind.i64 x14), (Value.slice o15 n16 n17)])] w4 (fun (e18 : Ending) => (fun (w19 : World) => (∃ s20 : ByteArray, (∃ x21 : Int, (∃ o22 : Option Addr, (∃ n23 : Nat, (∃ n24 : Nat, ((e18 = (Ending.returned (Value.agg #[(Value.string s20), (Value.int IntKind.i64 x21), (Value.slice o22 n23 n24)]))) ∧
((Nf.There w19 (⟨(hs w), 0, none⟩ : Addr) 3) ∧
(∀ w25 : World, ((w25 = (Nf.setCells w19 (⟨(hs w), 0, none⟩ : Addr) [(Value.string s20), (Value.int IntKind.i64 x21), (Value.slice o22 n23 n24)] 0)) →
(∃ s27 : ByteArray, (((w25.cell? (⟨(hs w), 0, none⟩ : Addr)) = (some (Value.string s27))) ∧
(∃ x28 : Int, (((w25.cell? (⟨(hs w), 1, none⟩ : Addr)) = (some (Value.int IntKind.i64 x28))) ∧
(∃ o29 : Option Addr, (∃ n30 : Nat, (∃ n31 : Nat, (((w25.cell? (⟨(hs w), 2, none⟩ : Addr)) = (some (Value.slice o29 n30 n31))) ∧
(R (Ending.returned (Value.tuple #[(Value.agg #[(Value.string s27), (Value.int IntKind.i64 x28), (Value.slice o29 n30 n31)]), (Value.bool true)])) w25))))))))))))))))))))))))))))))))))))))) ∧
((b6 = false) →
((Nf.There w4 (⟨(hs w), 0, none⟩ : Addr) 3) ∧
(∀ w33 : World, ((w33 = (Nf.setCells w4 (⟨(hs w), 0, none⟩ : Addr) [(Value.string (ByteArray.mk #[])), (Value.int IntKind.i64 0), (Value.slice none 0 0)] 0)) →
(∃ s35 : ByteArray, (((w33.cell? (⟨(hs w), 0, none⟩ : Addr)) = (some (Value.string s35))) ∧
(∃ x36 : Int, (((w33.cell? (⟨(hs w), 1, none⟩ : Addr)) = (some (Value.int IntKind.i64 x36))) ∧
(∃ o37 : Option Addr, (∃ n38 : Nat, (∃ n39 : Nat, (((w33.cell? (⟨(hs w), 2, none⟩ : Addr)) = (some (Value.slice o37 n38 n39))) ∧
(R (Ending.returned (Value.tuple #[(Value.agg #[(Value.string s35), (Value.int IntKind.i64 x36), (Value.slice o37 n38 n39)]), (Value.bool false)])) w33))))))))))))))))))))))) :
    Calls Try.prog 49 #[(.pointer b), (.string name), (.int .i64 version)] w R :=
  calls_of_vc an49 Try.func49 rfl (by kernel_rfl) (by kernel_rfl) (Eq.mp (by kernel_rfl) h)

/-- (*samaritan/protocolstore.Store).Newest -/
def an50 : An := (.seq (.reg []) (.seq (.reg []) (.seq (.seq (.reg [(1, 0, true)]) (.cond (.seq (.reg []) .nil) .nil)) (.seq (.reg [(1, 2, false)]) .nil))))
set_option maxRecDepth 100000 in
theorem nf50 (b : Option Addr) (name : ByteArray) (w : World) (R : Ending → World → Prop) (h :
(∀ w1 : World, ((w1 = (w.alloc (Obj.cells #[(Value.string (ByteArray.mk #[])), (Value.int IntKind.i64 0), (Value.slice none 0 0)] 24 (0, 0)))) →
(Calls Try.prog 84 #[(Value.pointer b), (Value.string name)] w1 (fun (e3 : Ending) => (fun (w4 : World) => (∃ x5 : Int, ((e3 = (Ending.returned (Value.int IntKind.i64 x5))) ∧
((((decide (x5 < 0)) = true) →
((Nf.There w4 (⟨(hs w), 0, none⟩ : Addr) 3) ∧
(∀ w7 : World, ((w7 = (Nf.setCells w4 (⟨(hs w), 0, none⟩ : Addr) [(Value.string (ByteArray.mk #[])), (Value.int IntKind.i64 0), (Value.slice none 0 0)] 0)) →
(∃ s9 : ByteArray, (((w7.cell? (⟨(hs w), 0, none⟩ : Addr)) = (some (Value.string s9))) ∧
(∃ x10 : Int, (((w7.cell? (⟨(hs w), 1, none⟩ : Addr)) = (some (Value.int IntKind.i64 x10))) ∧
(∃ o11 : Option Addr, (∃ n12 : Nat, (∃ n13 : Nat, (((w7.cell? (⟨(hs w), 2, none⟩ : Addr)) = (some (Value.slice o11 n12 n13))) ∧
(R (Ending.returned (Value.tuple #[(Value.agg #[(Value.string s9), (Value.int IntKind.i64 x10), (Value.slice o11 n12 n13)]), (Value.bool false)])) w7))))))))))))) ∧
(((decide (x5 < 0)) = false) →
(∃ a15 : Addr, ((b = (some a15)) ∧
(∃ o16 : Option Addr, (∃ n17 : Nat, (∃ n18 : Nat, (((w4.cell? a15) = (some (Value.slice o16 n17 n18))) ∧
(∃ a19 : Addr, ((o16 = (some a19)) ∧
((((0 : Int) ≤ x5) ∧
(x5 < ((n17 : Nat) : Int))) ∧
(∃ s20 : ByteArray, (((w4.cell? (Addr.add a19 ((x5).toNat * 3))) = (some (Value.string s20))) ∧
(∃ x21 : Int, (((w4.cell? (Addr.add (Addr.add a19 ((x5).toNat * 3)) 1)) = (some (Value.int IntKind.i64 x21))) ∧
(∃ o22 : Option Addr, (∃ n23 : Nat, (∃ n24 : Nat, (((w4.cell? (Addr.add (Addr.add a19 ((x5).toNat * 3)) 2)) = (some (Value.slice o22 n23 n24))) ∧
(Calls Try.prog 85 #[(Value.agg #[(Value.string s20), (Value.int IntKind.i64 x21), (Value.slice o22 n23 n24)])] w4 (fun (e25 : Ending) => (fun (w26 : World) => (∃ s27 : ByteArray, (∃ x28 : Int, (∃ o29 : Option Addr, (∃ n30 : Nat, (∃ n31 : Nat, ((e25 = (Ending.returned (Value.agg #[(Value.string s27), (Value.int IntKind.i64 x28), (Value.slice o29 n30 n31)]))) ∧
((Nf.There w26 (⟨(hs w), 0, none⟩ : Addr) 3) ∧
(∀ w32 : World, ((w32 = (Nf.setCells w26 (⟨(hs w), 0, none⟩ : Addr) [(Value.string s27), (Value.int IntKind.i64 x28), (Value.slice o29 n30 n31)] 0)) →
(∃ s34 : ByteArray, (((w32.cell? (⟨(hs w), 0, none⟩ : Addr)) = (some (Value.string s34))) ∧
(∃ x35 : Int, (((w32.cell? (⟨(hs w), 1, none⟩ : Addr)) = (some (Value.int IntKind.i64 x35))) ∧
(∃ o36 : Option Addr, (∃ n37 : Nat, (∃ n38 : Nat, (((w32.cell? (⟨(hs w), 2, none⟩ : Addr)) = (some (Value.slice o36 n37 n38))) ∧
(R (Ending.returned (Value.tuple #[(Value.agg #[(Value.string s34), (Value.int IntKind.i64 x35), (Value.slice o36 n37 n38)]), (Value.bool true)])) w32)))))))))))))))))))))))))))))))))))))))))))))))) :
    Calls Try.prog 50 #[(.pointer b), (.string name)] w R :=
  calls_of_vc an50 Try.func50 rfl (by kernel_rfl) (by kernel_rfl) (Eq.mp (by kernel_rfl) h)

/-- samaritan/samaritanref15.Small -/
def an48 : An := (.seq (.reg []) (.seq (.reg []) (.seq (.seq (.reg []) (.blk (.loop [(3, .int .i64), (4, .int .i64)] (.seq (.seq (.reg [(4, 0, true)]) (.cond .nil .nil)) (.seq (.blk (.seq (.reg []) (.seq (.seq (.reg []) (.blk (.loop [(3, .int .i64), (5, .int .i64)] (.seq (.seq (.reg [(8, 0, true)]) (.cond .nil .nil)) (.seq (.blk (.regD [] [0, 1, 2, 3, 4, 5, 6, 7, 8, 9, 10, 11, 12, 13, 14, 15, 16, 17, 18, 19, 20, 21, 22, 23, 24, 25, 26] [])) (.reg [])))))) (.seq (.reg [(1, 0, true)]) (.cond (.seq (.reg []) .nil) .nil))))) (.reg [])))))) (.seq (.reg [(3, 0, true), (6, 0, true)]) .nil))))
set_option maxRecDepth 100000 in
theorem nf48 (t_Name : ByteArray) (t_Version : Int) (t_Questions : Option Addr) (t_Questions_n : Nat) (t_Questions_c : Nat) (w : World) (R : Ending → World → Prop) (h :
(∀ w1 : World, ((w1 = (w.alloc (Obj.cells #[(Value.string t_Name), (Value.int IntKind.i64 t_Version), (Value.slice t_Questions t_Questions_n t_Questions_c)] 24 (0, 0)))) →
(∃ s3 : ByteArray, (((w1.cell? (⟨(hs w), 0, none⟩ : Addr)) = (some (Value.string s3))) ∧
(∃ k4 : (Nat → (Int → (Int → (World → Prop)))), ((∃ n5 : Nat, (k4 n5 (((ByteArray.size s3) : Nat) : Int) 0 w1)) ∧
(∀ n6 : Nat, ((Nat → Value) →
(∀ w8 : World, (∀ x9 : Int, (∀ x10 : Int, ((k4 n6 x9 x10 w8) →
(∃ o12 : Option Addr, (∃ n13 : Nat, (∃ n14 : Nat, (((w8.cell? (⟨(hs w), 2, none⟩ : Addr)) = (some (Value.slice o12 n13 n14))) ∧
((((decide (x10 < ((n13 : Nat) : Int))) = true) →
(∃ o16 : Option Addr, (∃ n17 : Nat, (∃ n18 : Nat, (((w8.cell? (⟨(hs w), 2, none⟩ : Addr)) = (some (Value.slice o16 n17 n18))) ∧
(∃ a19 : Addr, ((o16 = (some a19)) ∧
((((0 : Int) ≤ x10) ∧
(x10 < ((n17 : Nat) : Int))) ∧
(∃ s20 : ByteArray, (((w8.cell? (Addr.add a19 ((x10).toNat * 2))) = (some (Value.string s20))) ∧
(∃ k21 : (Nat → (Int → (Int → (World → Prop)))), ((∃ n22 : Nat, (k21 n22 (IntKind.wrap IntKind.i64 ((IntKind.wrap IntKind.i64 (x9 + (((ByteArray.size s20) : Nat) : Int))) + 1)) 0 w8)) ∧
(∀ n23 : Nat, ((Nat → Value) →
(∀ w25 : World, (∀ x26 : Int, (∀ x27 : Int, ((k21 n23 x26 x27 w25) →
(∃ o29 : Option Addr, (∃ n30 : Nat, (∃ n31 : Nat, (((w25.cell? (⟨(hs w), 2, none⟩ : Addr)) = (some (Value.slice o29 n30 n31))) ∧
(∃ a32 : Addr, ((o29 = (some a32)) ∧
((((0 : Int) ≤ x10) ∧
(x10 < ((n30 : Nat) : Int))) ∧
(∃ o33 : Option Addr, (∃ n34 : Nat, (∃ n35 : Nat, (((w25.cell? (Addr.add (Addr.add a32 ((x10).toNat * 2)) 1)) = (some (Value.slice o33 n34 n35))) ∧
((((decide (x27 < ((n34 : Nat) : Int))) = true) →
(∀ w37 : World, ((w37 = w25.drew) →
(∃ o39 : Option Addr, (∃ n40 : Nat, (∃ n41 : Nat, (((w37.cell? (⟨(hs w), 2, none⟩ : Addr)) = (some (Value.slice o39 n40 n41))) ∧
(∃ a42 : Addr, ((o39 = (some a42)) ∧
((((0 : Int) ≤ x10) ∧
(x10 < ((n40 : Nat) : Int))) ∧
(∃ o43 : Option Addr, (∃ n44 : Nat, (∃ n45 : Nat, (((w37.cell? (Addr.add (Addr.add a42 ((x10).toNat * 2)) 1)) = (some (Value.slice o43 n44 n45))) ∧
(∃ a46 : Addr, ((o43 = (some a46)) ∧
((((0 : Int) ≤ x27) ∧
(x27 < ((n44 : Nat) : Int))) ∧
(∃ s47 : ByteArray, (((w37.cell? (Addr.add a46 ((x27).toNat * 4))) = (some (Value.string s47))) ∧
(∃ o48 : Option Addr, (∃ n49 : Nat, (∃ n50 : Nat, (((w37.cell? (⟨(hs w), 2, none⟩ : Addr)) = (some (Value.slice o48 n49 n50))) ∧
(∃ a51 : Addr, ((o48 = (some a51)) ∧
((((0 : Int) ≤ x10) ∧
(x10 < ((n49 : Nat) : Int))) ∧
(∃ o52 : Option Addr, (∃ n53 : Nat, (∃ n54 : Nat, (((w37.cell? (Addr.add (Addr.add a51 ((x10).toNat * 2)) 1)) = (some (Value.slice o52 n53 n54))) ∧
(∃ a55 : Addr, ((o52 = (some a55)) ∧
((((0 : Int) ≤ x27) ∧
(x27 < ((n53 : Nat) : Int))) ∧
(∃ s56 : ByteArray, (((w37.cell? (Addr.add (Addr.add a55 ((x27).toNat * 4)) 3)) = (some (Value.string s56))) ∧
(∃ n57 : Nat, ((n57 < n23) ∧
(k21 n57 (IntKind.wrap IntKind.i64 ((IntKind.wrap IntKind.i64 ((IntKind.wrap IntKind.i64 (x26 + (((ByteArray.size s47) : Nat) : Int))) + (((ByteArray.size s56) : Nat) : Int))) + 1)) (IntKind.wrap IntKind.i64 (x27 + 1)) w37)))))))))))))))))))))))))))))))))))))) ∧
(((decide (x27 < ((n34 : Nat) : Int))) = false) →
((((decide (x26 > 1500)) = true) →
(R (Ending.returned (Value.bool false)) w25)) ∧
(((decide (x26 > 1500)) = false) →
(∃ n61 : Nat, ((n61 < n6) ∧
(k4 n61 x26 (IntKind.wrap IntKind.i64 (x10 + 1)) w25)))))))))))))))))))))))))))))))))))) ∧
(((decide (x10 < ((n13 : Nat) : Int))) = false) →
(∃ o63 : Option Addr, (∃ n64 : Nat, (∃ n65 : Nat, (((w8.cell? (⟨(hs w), 2, none⟩ : Addr)) = (some (Value.slice o63 n64 n65))) ∧
((((decide (((n64 : Nat) : Int) ≤ 12)) = true) →
((((decide (x9 ≤ 1500)) = true) →
(R (Ending.returned (Value.bool true)) w8)) ∧
(((decide (x9 ≤ 1500)) = false) →
(R (Ending.returned (Value.bool false)) w8)))) ∧
(((decide (((n64 : Nat) : Int) ≤ 12)) = false) →
(R (Ending.returned (Value.bool false)) w8)))))))))))))))))))))))))) :
    Calls Try.prog 48 #[(.agg #[(.string t_Name), (.int .i64 t_Version), (.slice t_Questions t_Questions_n t_Questions_c)])] w R :=
  calls_of_vc an48 Try.func48 rfl (by kernel_rfl) (by kernel_rfl) (Eq.mp (by kernel_rfl) h)

/-- (*samaritan/protocolstore.Store).Versions -/
def an54 : An := (.seq (.reg []) (.seq (.reg []) (.seq (.seq (.reg [(1, 2, false)]) (.blk (.loop [(5, .slice), (12, .int .i64)] (.seq (.reg [(0, 0, true)]) (.seq (.cond .nil .nil) (.cut [(5, .slice)] (.blk (.seq (.reg []) (.seq (.reg [(1, 2, false), (9, 3, true)]) (.cond (.reg [(2, 2, false), (10, 1, false)]) .nil)))) (.reg []))))))) (.seq (.reg []) .nil))))
set_option maxRecDepth 100000 in
theorem nf54 (b : Option Addr) (name : ByteArray) (w : World) (R : Ending → World → Prop) (h :
(∃ a1 : Addr, ((b = (some a1)) ∧
(∃ o2 : Option Addr, (∃ n3 : Nat, (∃ n4 : Nat, (((w.cell? a1) = (some (Value.slice o2 n3 n4))) ∧
(∃ k5 : (Nat → (Option Addr → (Nat → (Nat → (Int → (World → Prop)))))), ((∃ n6 : Nat, (k5 n6 none 0 0 0 w)) ∧
(∀ n7 : Nat, ((Nat → Value) →
(∀ w9 : World, (∀ o10 : Option Addr, (∀ n11 : Nat, (∀ n12 : Nat, (∀ x13 : Int, ((k5 n7 o10 n11 n12 x13 w9) →
((((decide (x13 < ((n3 : Nat) : Int))) = true) →
(∀ k16 : (Option Addr → (Nat → (Nat → (World → Prop)))), ((∀ w18 : World, (∀ o19 : Option Addr, (∀ n20 : Nat, (∀ n21 : Nat, (((Nat → Value) →
(∃ n24 : Nat, ((n24 < n7) ∧
(k5 n24 o19 n20 n21 (IntKind.wrap IntKind.i64 (x13 + 1)) w18)))) →
(k16 o19 n20 n21 w18)))))) →
(∃ a25 : Addr, ((b = (some a25)) ∧
(∃ o26 : Option Addr, (∃ n27 : Nat, (∃ n28 : Nat, (((w9.cell? a25) = (some (Value.slice o26 n27 n28))) ∧
(∃ a29 : Addr, ((o26 = (some a29)) ∧
((((0 : Int) ≤ x13) ∧
(x13 < ((n27 : Nat) : Int))) ∧
(∃ s30 : ByteArray, (((w9.cell? (Addr.add a29 ((x13).toNat * 3))) = (some (Value.string s30))) ∧
((((Nf.strEq s30 name) = true) →
(∃ a32 : Addr, ((b = (some a32)) ∧
(∃ o33 : Option Addr, (∃ n34 : Nat, (∃ n35 : Nat, (((w9.cell? a32) = (some (Value.slice o33 n34 n35))) ∧
(∃ a36 : Addr, ((o33 = (some a36)) ∧
((((0 : Int) ≤ x13) ∧
(x13 < ((n34 : Nat) : Int))) ∧
(∃ x37 : Int, (((w9.cell? (Addr.add (Addr.add a36 ((x13).toNat * 3)) 1)) = (some (Value.int IntKind.i64 x37))) ∧
(∀ w38 : World, ((w38 = (w9.alloc (Obj.cells #[(Value.int IntKind.i64 x37)] 3 (0, 0)))) →
(RunOk Try.prog (Nf.Hold (Builtin.append_ #[48, 48] 48 #[(Value.slice o10 n11 n12), (Value.slice (some (⟨(hs w9), 0, none⟩ : Addr)) 1 1)])) w38 (fun (v40 : Value) => (fun (w41 : World) => (∃ o42 : Option Addr, (∃ n43 : Nat, (∃ n44 : Nat, ((v40 = (Value.slice o42 n43 n44)) ∧
(k16 o42 n43 n44 w41)))))))))))))))))))))) ∧
(((Nf.strEq s30 name) = false) →
(k16 o10 n11 n12 w9))))))))))))))))) ∧
(((decide (x13 < ((n3 : Nat) : Int))) = false) →
(R (Ending.returned (Value.slice o10 n11 n12)) w9)))))))))))))))))))) :
    Calls Try.prog 54 #[(.pointer b), (.string name)] w R :=
  calls_of_vc an54 Try.func54 rfl (by kernel_rfl) (by kernel_rfl) (Eq.mp (by kernel_rfl) h)

/-- samaritan/samaritanlaw15.texts -/
def an103 : An := (.seq (.reg []) (.seq (.seq (.reg [(4, 0, true)]) (.cond (.seq (.reg []) .nil) .nil)) (.seq (.seq (.reg []) (.blk (.loop [(13, .int .i64)] (.seq (.reg [(0, 0, true)]) (.seq (.cond .nil .nil) (.seq (.blk (.seq (.reg []) (.seq (.regD [(8, 3, true)] [0, 1, 2, 3, 4, 5, 6, 7, 8] []) (.cond (.seq (.reg []) .nil) .nil)))) (.reg []))))))) (.seq (.reg []) .nil))))
set_option maxRecDepth 100000 in
theorem nf103 (a : Option Addr) (a_n : Nat) (a_c : Nat) (b : Option Addr) (b_n : Nat) (b_c : Nat) (w : World) (R : Ending → World → Prop) (h :
((((!(decide (((a_n : Nat) : Int) = ((b_n : Nat) : Int)))) = true) →
(R (Ending.returned (Value.bool false)) w)) ∧
(((!(decide (((a_n : Nat) : Int) = ((b_n : Nat) : Int)))) = false) →
(∃ k3 : (Nat → (Int → (World → Prop))), ((∃ n4 : Nat, (k3 n4 0 w)) ∧
(∀ n5 : Nat, ((Nat → Value) →
(∀ w7 : World, (∀ x8 : Int, ((k3 n5 x8 w7) →
((((decide (x8 < ((a_n : Nat) : Int))) = true) →
(∀ w11 : World, ((w11 = w7.drew) →
(∃ a13 : Addr, ((a = (some a13)) ∧
((((0 : Int) ≤ x8) ∧
(x8 < ((a_n : Nat) : Int))) ∧
(∃ s14 : ByteArray, (((w11.cell? (Addr.add a13 ((x8).toNat * 1))) = (some (Value.string s14))) ∧
(∃ a15 : Addr, ((b = (some a15)) ∧
((((0 : Int) ≤ x8) ∧
(x8 < ((b_n : Nat) : Int))) ∧
(∃ s16 : ByteArray, (((w11.cell? (Addr.add a15 ((x8).toNat * 1))) = (some (Value.string s16))) ∧
((((!(Nf.strEq s14 s16)) = true) →
(R (Ending.returned (Value.bool false)) w11)) ∧
(((!(Nf.strEq s14 s16)) = false) →
(∃ n19 : Nat, ((n19 < n5) ∧
(k3 n19 (IntKind.wrap IntKind.i64 (x8 + 1)) w11)))))))))))))))))) ∧
(((decide (x8 < ((a_n : Nat) : Int))) = false) →
(R (Ending.returned (Value.bool true)) w7))))))))))))) :
    Calls Try.prog 103 #[(.slice a a_n a_c), (.slice b b_n b_c)] w R :=
  calls_of_vc an103 Try.func103 rfl (by kernel_rfl) (by kernel_rfl) (Eq.mp (by kernel_rfl) h)

/-- (*samaritan/protocolstore.Store).Names -/
def an52 : An := (.seq (.reg []) (.seq (.reg []) (.seq (.seq (.reg [(1, 2, false)]) (.blk (.loop [(3, .slice), (10, .int .i64)] (.seq (.reg [(0, 0, true)]) (.seq (.cond .nil .nil) (.cut [(3, .slice)] (.blk (.seq (.reg []) (.seq (.regD [(1, 0, true), (4, 2, false), (12, 2, false), (20, 3, true)] [0, 1, 2, 3, 4, 5, 6, 7, 8, 9, 10, 11, 12, 13, 14, 15, 16, 17, 18, 19, 20, 21] []) (.cond (.reg [(2, 2, false), (10, 1, false)]) .nil)))) (.reg []))))))) (.seq (.reg []) .nil))))
set_option maxRecDepth 100000 in
theorem nf52 (b : Option Addr) (w : World) (R : Ending → World → Prop) (h :
(∃ a1 : Addr, ((b = (some a1)) ∧
(∃ o2 : Option Addr, (∃ n3 : Nat, (∃ n4 : Nat, (((w.cell? a1) = (some (Value.slice o2 n3 n4))) ∧
(∃ k5 : (Nat → (Option Addr → (Nat → (Nat → (Int → (World → Prop)))))), ((∃ n6 : Nat, (k5 n6 none 0 0 0 w)) ∧
(∀ n7 : Nat, ((Nat → Value) →
(∀ w9 : World, (∀ o10 : Option Addr, (∀ n11 : Nat, (∀ n12 : Nat, (∀ x13 : Int, ((k5 n7 o10 n11 n12 x13 w9) →
((((decide (x13 < ((n3 : Nat) : Int))) = true) →
(∀ k16 : (Option Addr → (Nat → (Nat → (World → Prop)))), ((∀ w18 : World, (∀ o19 : Option Addr, (∀ n20 : Nat, (∀ n21 : Nat, (((Nat → Value) →
(∃ n24 : Nat, ((n24 < n7) ∧
(k5 n24 o19 n20 n21 (IntKind.wrap IntKind.i64 (x13 + 1)) w18)))) →
(k16 o19 n20 n21 w18)))))) →
(∀ w25 : World, ((w25 = w9.drew) →
((((decide (x13 = 0)) = true) →
(∃ a28 : Addr, ((b = (some a28)) ∧
(∃ o29 : Option Addr, (∃ n30 : Nat, (∃ n31 : Nat, (((w25.cell? a28) = (some (Value.slice o29 n30 n31))) ∧
(∃ a32 : Addr, ((o29 = (some a32)) ∧
((((0 : Int) ≤ x13) ∧
(x13 < ((n30 : Nat) : Int))) ∧
(∃ s33 : ByteArray, (((w25.cell? (Addr.add a32 ((x13).toNat * 3))) = (some (Value.string s33))) ∧
(∀ w34 : World, ((w34 = (w25.alloc (Obj.cells #[(Value.string s33)] 9 (0, 0)))) →
(RunOk Try.prog (Nf.Hold (Builtin.append_ #[83, 83] 83 #[(Value.slice o10 n11 n12), (Value.slice (some (⟨(hs w25), 0, none⟩ : Addr)) 1 1)])) w34 (fun (v36 : Value) => (fun (w37 : World) => (∃ o38 : Option Addr, (∃ n39 : Nat, (∃ n40 : Nat, ((v36 = (Value.slice o38 n39 n40)) ∧
(k16 o38 n39 n40 w37)))))))))))))))))))))) ∧
(((decide (x13 = 0)) = false) →
(∃ a42 : Addr, ((b = (some a42)) ∧
(∃ o43 : Option Addr, (∃ n44 : Nat, (∃ n45 : Nat, (((w25.cell? a42) = (some (Value.slice o43 n44 n45))) ∧
(∃ a46 : Addr, ((o43 = (some a46)) ∧
((((0 : Int) ≤ x13) ∧
(x13 < ((n44 : Nat) : Int))) ∧
(∃ s47 : ByteArray, (((w25.cell? (Addr.add a46 ((x13).toNat * 3))) = (some (Value.string s47))) ∧
(∃ a48 : Addr, ((b = (some a48)) ∧
(∃ o49 : Option Addr, (∃ n50 : Nat, (∃ n51 : Nat, (((w25.cell? a48) = (some (Value.slice o49 n50 n51))) ∧
(∃ a52 : Addr, ((o49 = (some a52)) ∧
((((0 : Int) ≤ (IntKind.wrap IntKind.i64 (x13 - 1))) ∧
((IntKind.wrap IntKind.i64 (x13 - 1)) < ((n50 : Nat) : Int))) ∧
(∃ s53 : ByteArray, (((w25.cell? (Addr.add a52 (((IntKind.wrap IntKind.i64 (x13 - 1))).toNat * 3))) = (some (Value.string s53))) ∧
((((!(Nf.strEq s47 s53)) = true) →
(∃ a55 : Addr, ((b = (some a55)) ∧
(∃ o56 : Option Addr, (∃ n57 : Nat, (∃ n58 : Nat, (((w25.cell? a55) = (some (Value.slice o56 n57 n58))) ∧
(∃ a59 : Addr, ((o56 = (some a59)) ∧
((((0 : Int) ≤ x13) ∧
(x13 < ((n57 : Nat) : Int))) ∧
(∃ s60 : ByteArray, (((w25.cell? (Addr.add a59 ((x13).toNat * 3))) = (some (Value.string s60))) ∧
(∀ w61 : World, ((w61 = (w25.alloc (Obj.cells #[(Value.string s60)] 9 (0, 0)))) →
(RunOk Try.prog (Nf.Hold (Builtin.append_ #[83, 83] 83 #[(Value.slice o10 n11 n12), (Value.slice (some (⟨(hs w25), 0, none⟩ : Addr)) 1 1)])) w61 (fun (v63 : Value) => (fun (w64 : World) => (∃ o65 : Option Addr, (∃ n66 : Nat, (∃ n67 : Nat, ((v63 = (Value.slice o65 n66 n67)) ∧
(k16 o65 n66 n67 w64)))))))))))))))))))))) ∧
(((!(Nf.strEq s47 s53)) = false) →
(k16 o10 n11 n12 w25)))))))))))))))))))))))))))))))) ∧
(((decide (x13 < ((n3 : Nat) : Int))) = false) →
(R (Ending.returned (Value.slice o10 n11 n12)) w9)))))))))))))))))))) :
    Calls Try.prog 52 #[(.pointer b)] w R :=
  calls_of_vc an52 Try.func52 rfl (by kernel_rfl) (by kernel_rfl) (Eq.mp (by kernel_rfl) h)

/-- samaritan/protocolstore.clone -/
def an85 : An := (.seq (.reg []) (.seq (.regE [(7, 1, false)] (.take 0 (.take 1 (.take 2 (.take 3 (.take 4 (.take 5 (.take 6 (.eff (.alt (.one 7 (.take 8 (.eff (.one 9 (.eff (.one 10 .nil)))))) (.one 9 (.eff (.one 7 (.take 8 (.eff (.one 10 .nil))))))))))))))) [7, 9, 10]) (.seq (.seq (.reg []) (.blk (.loop [(18, .int .i64)] (.seq (.reg [(0, 0, true)]) (.seq (.cond .nil .nil) (.seq (.blk (.seq (.reg []) (.regD [(7, 1, false)] [0, 1, 2, 3, 4, 5, 6, 7, 8, 9, 10] [7, 10]))) (.reg []))))))) (.seq (.reg []) .nil))))
set_option maxRecDepth 100000 in
theorem nf85 (t_Name : ByteArray) (t_Version : Int) (t_Questions : Option Addr) (t_Questions_n : Nat) (t_Questions_c : Nat) (w : World) (R : Ending → World → Prop) (h :
(∀ w1 : World, ((w1 = (w.alloc (Obj.cells #[(Value.string t_Name), (Value.int IntKind.i64 t_Version), (Value.slice t_Questions t_Questions_n t_Questions_c)] 24 (0, 0)))) →
(∀ w3 : World, ((w3 = (w1.alloc (Obj.cells #[(Value.string (ByteArray.mk #[])), (Value.int IntKind.i64 0), (Value.slice none 0 0)] 24 (0, 0)))) →
(∀ w5 : World, ((w5 = w3.drew) →
(∃ s7 : ByteArray, (((w5.cell? (⟨(hs w), 0, none⟩ : Addr)) = (some (Value.string s7))) ∧
(∃ x8 : Int, (((w5.cell? (⟨(hs w), 1, none⟩ : Addr)) = (some (Value.int IntKind.i64 x8))) ∧
(∃ o9 : Option Addr, (∃ n10 : Nat, (∃ n11 : Nat, (((w5.cell? (⟨(hs w), 2, none⟩ : Addr)) = (some (Value.slice o9 n10 n11))) ∧
((RunOk Try.prog (Nf.Hold (Instr.makeSlice 22 (Value.int IntKind.i64 ((n10 : Nat) : Int)) (Value.int IntKind.i64 ((n10 : Nat) : Int)))) w5 (fun (v12 : Value) => (fun (w13 : World) => (∃ o14 : Option Addr, (∃ n15 : Nat, (∃ n16 : Nat, ((v12 = (Value.slice o14 n15 n16)) ∧
((Nf.Kept w5 w13 (⟨(hs w), 1, none⟩ : Addr) 1) ∧
((Nf.Kept w5 w13 (⟨(hs w), 0, none⟩ : Addr) 1) ∧
(∀ w17 : World, ((w17 = (w13.alloc (Obj.cells #[(Value.string (ByteArray.mk #[])), (Value.int IntKind.i64 0), (Value.slice none 0 0)] 24 (0, 0)))) →
((Nf.Kept w5 w17 (⟨(hs w), 1, none⟩ : Addr) 1) ∧
((Nf.Kept w5 w17 (⟨(hs w), 0, none⟩ : Addr) 1) ∧
((Nf.There w17 (⟨(hs w13), 0, none⟩ : Addr) 3) ∧
(∀ w19 : World, ((w19 = (Nf.setCells w17 (⟨(hs w13), 0, none⟩ : Addr) [(Value.string s7), (Value.int IntKind.i64 x8), (Value.slice o14 n15 n16)] 0)) →
(∃ o21 : Option Addr, (∃ n22 : Nat, (∃ n23 : Nat, (((w19.cell? (⟨(hs w), 2, none⟩ : Addr)) = (some (Value.slice o21 n22 n23))) ∧
(∃ k24 : (Nat → (Int → (World → Prop))), ((∃ n25 : Nat, (k24 n25 0 w19)) ∧
(∀ n26 : Nat, ((Nat → Value) →
(∀ w28 : World, (∀ x29 : Int, ((k24 n26 x29 w28) →
((((decide (x29 < ((n22 : Nat) : Int))) = true) →
(∃ a32 : Addr, ((o21 = (some a32)) ∧
((((0 : Int) ≤ x29) ∧
(x29 < ((n22 : Nat) : Int))) ∧
(∃ s33 : ByteArray, (((w28.cell? (Addr.add a32 ((x29).toNat * 2))) = (some (Value.string s33))) ∧
(∃ o34 : Option Addr, (∃ n35 : Nat, (∃ n36 : Nat, (((w28.cell? (Addr.add (Addr.add a32 ((x29).toNat * 2)) 1)) = (some (Value.slice o34 n35 n36))) ∧
(∀ w37 : World, ((w37 = (w28.alloc (Obj.cells #[(Value.string (ByteArray.mk #[])), (Value.slice none 0 0)] 38 (0, 0)))) →
((Nf.There w37 (⟨(hs w28), 0, none⟩ : Addr) 2) ∧
(∀ w39 : World, ((w39 = (Nf.setCells w37 (⟨(hs w28), 0, none⟩ : Addr) [(Value.string s33), (Value.slice o34 n35 n36)] 0)) →
(∀ w41 : World, ((w41 = w39.drew) →
(∃ o43 : Option Addr, (∃ n44 : Nat, (∃ n45 : Nat, (((w41.cell? (⟨(hs w13), 2, none⟩ : Addr)) = (some (Value.slice o43 n44 n45))) ∧
(∃ s46 : ByteArray, (((w41.cell? (⟨(hs w28), 0, none⟩ : Addr)) = (some (Value.string s46))) ∧
(∃ o47 : Option Addr, (∃ n48 : Nat, (∃ n49 : Nat, (((w41.cell? (⟨(hs w28), 1, none⟩ : Addr)) = (some (Value.slice o47 n48 n49))) ∧
(RunOk Try.prog (Nf.Hold (Builtin.append_ #[36, 36] 36 #[(Value.slice none 0 0), (Value.slice o47 n48 n49)])) w41 (fun (v50 : Value) => (fun (w51 : World) => (∃ o52 : Option Addr, (∃ n53 : Nat, (∃ n54 : Nat, ((v50 = (Value.slice o52 n53 n54)) ∧
((Nf.Kept w41 w51 (⟨(hs w28), 0, none⟩ : Addr) 1) ∧
((Nf.Kept w41 w51 (⟨(hs w13), 2, none⟩ : Addr) 1) ∧
(∃ a55 : Addr, ((o43 = (some a55)) ∧
((((0 : Int) ≤ x29) ∧
(x29 < ((n44 : Nat) : Int))) ∧
((Nf.There w51 (Addr.add a55 ((x29).toNat * 2)) 2) ∧
(∀ w56 : World, ((w56 = (Nf.setCells w51 (Addr.add a55 ((x29).toNat * 2)) [(Value.string s46), (Value.slice o52 n53 n54)] 0)) →
(∃ n58 : Nat, ((n58 < n26) ∧
(k24 n58 (IntKind.wrap IntKind.i64 (x29 + 1)) w56))))))))))))))))))))))))))))))))))))))))))))) ∧
(((decide (x29 < ((n22 : Nat) : Int))) = false) →
(∃ s60 : ByteArray, (((w28.cell? (⟨(hs w13), 0, none⟩ : Addr)) = (some (Value.string s60))) ∧
(∃ x61 : Int, (((w28.cell? (⟨(hs w13), 1, none⟩ : Addr)) = (some (Value.int IntKind.i64 x61))) ∧
(∃ o62 : Option Addr, (∃ n63 : Nat, (∃ n64 : Nat, (((w28.cell? (⟨(hs w13), 2, none⟩ : Addr)) = (some (Value.slice o62 n63 n64))) ∧
((Nf.There w28 (⟨(hs w1), 0, none⟩ : Addr) 3) ∧
(∀ w65 : World, ((w65 = (Nf.setCells w28 (⟨(hs w1), 0, none⟩ : Addr) [(Value.string s60), (Value.int IntKind.i64 x61), (Value.slice o62 n63 n64)] 0)) →
(∃ s67 : ByteArray, (((w65.cell? (⟨(hs w1), 0, none⟩ : Addr)) = (some (Value.string s67))) ∧
(∃ x68 : Int, (((w65.cell? (⟨(hs w1), 1, none⟩ : Addr)) = (some (Value.int IntKind.i64 x68))) ∧
(∃ o69 : Option Addr, (∃ n70 : Nat, (∃ n71 : Nat, (((w65.cell? (⟨(hs w1), 2, none⟩ : Addr)) = (some (Value.slice o69 n70 n71))) ∧
(R (Ending.returned (Value.agg #[(Value.string s67), (Value.int IntKind.i64 x68), (Value.slice o69 n70 n71)])) w65))))))))))))))))))))))))))))))))))))))))))))))))) ∧
(∀ w72 : World, ((w72 = (w5.alloc (Obj.cells #[(Value.string (ByteArray.mk #[])), (Value.int IntKind.i64 0), (Value.slice none 0 0)] 24 (0, 0)))) →
((Nf.Kept w5 w72 (⟨(hs w), 2, none⟩ : Addr) 1) ∧
((Nf.Kept w5 w72 (⟨(hs w), 1, none⟩ : Addr) 1) ∧
((Nf.Kept w5 w72 (⟨(hs w), 0, none⟩ : Addr) 1) ∧
(RunOk Try.prog (Nf.Hold (Instr.makeSlice 22 (Value.int IntKind.i64 ((n10 : Nat) : Int)) (Value.int IntKind.i64 ((n10 : Nat) : Int)))) w72 (fun (v74 : Value) => (fun (w75 : World) => (∃ o76 : Option Addr, (∃ n77 : Nat, (∃ n78 : Nat, ((v74 = (Value.slice o76 n77 n78)) ∧
((Nf.Kept w5 w75 (⟨(hs w), 1, none⟩ : Addr) 1) ∧
((Nf.Kept w5 w75 (⟨(hs w), 0, none⟩ : Addr) 1) ∧
((Nf.There w75 (⟨(hs w5), 0, none⟩ : Addr) 3) ∧
(∀ w79 : World, ((w79 = (Nf.setCells w75 (⟨(hs w5), 0, none⟩ : Addr) [(Value.string s7), (Value.int IntKind.i64 x8), (Value.slice o76 n77 n78)] 0)) →
(∃ o81 : Option Addr, (∃ n82 : Nat, (∃ n83 : Nat, (((w79.cell? (⟨(hs w), 2, none⟩ : Addr)) = (some (Value.slice o81 n82 n83))) ∧
(∃ k84 : (Nat → (Int → (World → Prop))), ((∃ n85 : Nat, (k84 n85 0 w79)) ∧
(∀ n86 : Nat, ((Nat → Value) →
(∀ w88 : World, (∀ x89 : Int, ((k84 n86 x89 w88) →
((((decide (x89 < ((n82 : Nat) : Int))) = true) →
(∃ a92 : Addr, ((o81 = (some a92)) ∧
((((0 : Int) ≤ x89) ∧
(x89 < ((n82 : Nat) : Int))) ∧
(∃ s93 : ByteArray, (((w88.cell? (Addr.add a92 ((x89).toNat * 2))) = (some (Value.string s93))) ∧
(∃ o94 : Option Addr, (∃ n95 : Nat, (∃ n96 : Nat, (((w88.cell? (Addr.add (Addr.add a92 ((x89).toNat * 2)) 1)) = (some (Value.slice o94 n95 n96))) ∧
(∀ w97 : World, ((w97 = (w88.alloc (Obj.cells #[(Value.string (ByteArray.mk #[])), (Value.slice none 0 0)] 38 (0, 0)))) →
((Nf.There w97 (⟨(hs w88), 0, none⟩ : Addr) 2) ∧
(∀ w99 : World, ((w99 = (Nf.setCells w97 (⟨(hs w88), 0, none⟩ : Addr) [(Value.string s93), (Value.slice o94 n95 n96)] 0)) →
(∀ w101 : World, ((w101 = w99.drew) →
(∃ o103 : Option Addr, (∃ n104 : Nat, (∃ n105 : Nat, (((w101.cell? (⟨(hs w5), 2, none⟩ : Addr)) = (some (Value.slice o103 n104 n105))) ∧
(∃ s106 : ByteArray, (((w101.cell? (⟨(hs w88), 0, none⟩ : Addr)) = (some (Value.string s106))) ∧
(∃ o107 : Option Addr, (∃ n108 : Nat, (∃ n109 : Nat, (((w101.cell? (⟨(hs w88), 1, none⟩ : Addr)) = (some (Value.slice o107 n108 n109))) ∧
(RunOk Try.prog (Nf.Hold (Builtin.append_ #[36, 36] 36 #[(Value.slice none 0 0), (Value.slice o107 n108 n109)])) w101 (fun (v110 : Value) => (fun (w111 : World) => (∃ o112 : Option Addr, (∃ n113 : Nat, (∃ n114 : Nat, ((v110 = (Value.slice o112 n113 n114)) ∧
((Nf.Kept w101 w111 (⟨(hs w88), 0, none⟩ : Addr) 1) ∧
((Nf.Kept w101 w111 (⟨(hs w5), 2, none⟩ : Addr) 1) ∧
(∃ a115 : Addr, ((o103 = (some a115)) ∧
((((0 : Int) ≤ x89) ∧
(x89 < ((n104 : Nat) : Int))) ∧
((Nf.There w111 (Addr.add a115 ((x89).toNat * 2)) 2) ∧
(∀ w116 : World, ((w116 = (Nf.setCells w111 (Addr.add a115 ((x89).toNat * 2)) [(Value.string s106), (Value.slice o112 n113 n114)] 0)) →
(∃ n118 : Nat, ((n118 < n86) ∧
(k84 n118 (IntKind.wrap IntKind.i64 (x89 + 1)) w116))))))))))))))))))))))))))))))))))))))))))))) ∧
(((decide (x89 < ((n82 : Nat) : Int))) = false) →
(∃ s120 : ByteArray, (((w88.cell? (⟨(hs w5), 0, none⟩ : Addr)) = (some (Value.string s120))) ∧
(∃ x121 : Int, (((w88.cell? (⟨(hs w5), 1, none⟩ : Addr)) = (some (Value.int IntKind.i64 x121))) ∧
(∃ o122 : Option Addr, (∃ n123 : Nat, (∃ n124 : Nat, (((w88.cell? (⟨(hs w5), 2, none⟩ : Addr)) = (some (Value.slice o122 n123 n124))) ∧
((Nf.There w88 (⟨(hs w1), 0, none⟩ : Addr) 3) ∧
(∀ w125 : World, ((w125 = (Nf.setCells w88 (⟨(hs w1), 0, none⟩ : Addr) [(Value.string s120), (Value.int IntKind.i64 x121), (Value.slice o122 n123 n124)] 0)) →
(∃ s127 : ByteArray, (((w125.cell? (⟨(hs w1), 0, none⟩ : Addr)) = (some (Value.string s127))) ∧
(∃ x128 : Int, (((w125.cell? (⟨(hs w1), 1, none⟩ : Addr)) = (some (Value.int IntKind.i64 x128))) ∧
(∃ o129 : Option Addr, (∃ n130 : Nat, (∃ n131 : Nat, (((w125.cell? (⟨(hs w1), 2, none⟩ : Addr)) = (some (Value.slice o129 n130 n131))) ∧
(R (Ending.returned (Value.agg #[(Value.string s127), (Value.int IntKind.i64 x128), (Value.slice o129 n130 n131)])) w125)))))))))))))))))))))))))))))))))))))))))))))))))))))))))))))))))) :
    Calls Try.prog 85 #[(.agg #[(.string t_Name), (.int .i64 t_Version), (.slice t_Questions t_Questions_n t_Questions_c)])] w R :=
  calls_of_vc an85 Try.func85 rfl (by kernel_rfl) (by kernel_rfl) (Eq.mp (by kernel_rfl) h)

/-- samaritan/samaritanref15.Versions -/
def an107 : An := (.seq (.reg []) (.seq (.reg []) (.seq (.seq (.reg []) (.blk (.loop [(5, .slice), (6, .int .i64)] (.seq (.seq (.reg [(4, 0, true)]) (.cond .nil .nil)) (.cut [(5, .slice)] (.blk (.seq (.reg [(7, 3, true)]) (.cond (.reg [(8, 1, false)]) .nil))) (.reg [])))))) (.seq (.reg []) .nil))))
set_option maxRecDepth 100000 in
theorem nf107 (b_L : Option Addr) (b_L_n : Nat) (b_L_c : Nat) (b_P : Option Addr) (b_P_n : Nat) (b_P_c : Nat) (name : ByteArray) (w : World) (R : Ending → World → Prop) (h :
(∀ w1 : World, ((w1 = (w.alloc (Obj.cells #[(Value.slice b_L b_L_n b_L_c), (Value.slice b_P b_P_n b_P_c)] 74 (0, 0)))) →
(∃ k3 : (Nat → (Option Addr → (Nat → (Nat → (Int → (World → Prop)))))), ((∃ n4 : Nat, (k3 n4 none 0 0 0 w1)) ∧
(∀ n5 : Nat, ((Nat → Value) →
(∀ w7 : World, (∀ o8 : Option Addr, (∀ n9 : Nat, (∀ n10 : Nat, (∀ x11 : Int, ((k3 n5 o8 n9 n10 x11 w7) →
(∃ o13 : Option Addr, (∃ n14 : Nat, (∃ n15 : Nat, (((w7.cell? (⟨(hs w), 0, none⟩ : Addr)) = (some (Value.slice o13 n14 n15))) ∧
((((decide (x11 < ((n14 : Nat) : Int))) = true) →
(∀ k17 : (Option Addr → (Nat → (Nat → (World → Prop)))), ((∀ w19 : World, (∀ o20 : Option Addr, (∀ n21 : Nat, (∀ n22 : Nat, (((Nat → Value) →
(∃ n25 : Nat, ((n25 < n5) ∧
(k3 n25 o20 n21 n22 (IntKind.wrap IntKind.i64 (x11 + 1)) w19)))) →
(k17 o20 n21 n22 w19)))))) →
(∃ o26 : Option Addr, (∃ n27 : Nat, (∃ n28 : Nat, (((w7.cell? (⟨(hs w), 0, none⟩ : Addr)) = (some (Value.slice o26 n27 n28))) ∧
(∃ a29 : Addr, ((o26 = (some a29)) ∧
((((0 : Int) ≤ x11) ∧
(x11 < ((n27 : Nat) : Int))) ∧
(∃ s30 : ByteArray, (((w7.cell? (Addr.add a29 ((x11).toNat * 3))) = (some (Value.string s30))) ∧
((((Nf.strEq s30 name) = true) →
(∃ o32 : Option Addr, (∃ n33 : Nat, (∃ n34 : Nat, (((w7.cell? (⟨(hs w), 0, none⟩ : Addr)) = (some (Value.slice o32 n33 n34))) ∧
(∃ a35 : Addr, ((o32 = (some a35)) ∧
((((0 : Int) ≤ x11) ∧
(x11 < ((n33 : Nat) : Int))) ∧
(∃ x36 : Int, (((w7.cell? (Addr.add (Addr.add a35 ((x11).toNat * 3)) 1)) = (some (Value.int IntKind.i64 x36))) ∧
(∀ w37 : World, ((w37 = (w7.alloc (Obj.cells #[(Value.int IntKind.i64 x36)] 3 (0, 0)))) →
(RunOk Try.prog (Nf.Hold (Builtin.append_ #[48, 48] 48 #[(Value.slice o8 n9 n10), (Value.slice (some (⟨(hs w7), 0, none⟩ : Addr)) 1 1)])) w37 (fun (v39 : Value) => (fun (w40 : World) => (∃ o41 : Option Addr, (∃ n42 : Nat, (∃ n43 : Nat, ((v39 = (Value.slice o41 n42 n43)) ∧
(k17 o41 n42 n43 w40)))))))))))))))))))) ∧
(((Nf.strEq s30 name) = false) →
(k17 o8 n9 n10 w7))))))))))))))) ∧
(((decide (x11 < ((n14 : Nat) : Int))) = false) →
(R (Ending.returned (Value.slice o8 n9 n10)) w7)))))))))))))))))))) :
    Calls Try.prog 107 #[(.agg #[(.slice b_L b_L_n b_L_c), (.slice b_P b_P_n b_P_c)]), (.string name)] w R :=
  calls_of_vc an107 Try.func107 rfl (by kernel_rfl) (by kernel_rfl) (Eq.mp (by kernel_rfl) h)

/-- samaritan/samaritanref15.Newest -/
def an105 : An := (.seq (.reg []) (.seq (.reg []) (.seq (.reg []) (.seq (.seq (.reg []) (.blk (.loop [(7, .bool), (8, .int .i64)] (.seq (.seq (.reg [(4, 0, true)]) (.cond .nil .nil)) (.cut [(7, .bool)] (.blk (.seq (.regD [(7, 3, true), (9, 0, true), (20, 0, true)] [0, 1, 2, 3, 4, 5, 6, 7, 8, 9, 10, 11, 12, 13, 14, 15, 16, 17, 18, 19, 20, 21, 22] []) (.cond (.seq (.reg []) (.reg [])) .nil))) (.reg [])))))) (.seq (.reg [(1, 0, true)]) .nil)))))
set_option maxRecDepth 100000 in
theorem nf105 (b_L : Option Addr) (b_L_n : Nat) (b_L_c : Nat) (b_P : Option Addr) (b_P_n : Nat) (b_P_c : Nat) (name : ByteArray) (w : World) (R : Ending → World → Prop) (h :
(∀ w1 : World, ((w1 = (w.alloc (Obj.cells #[(Value.slice b_L b_L_n b_L_c), (Value.slice b_P b_P_n b_P_c)] 74 (0, 0)))) →
(∀ w3 : World, ((w3 = (w1.alloc (Obj.cells #[(Value.string (ByteArray.mk #[])), (Value.int IntKind.i64 0), (Value.slice none 0 0)] 24 (0, 0)))) →
(∀ w5 : World, ((w5 = (w3.alloc (Obj.cells #[(Value.string (ByteArray.mk #[])), (Value.int IntKind.i64 0), (Value.slice none 0 0)] 24 (0, 0)))) →
(∃ k7 : (Nat → (Bool → (Int → (World → Prop)))), ((∃ n8 : Nat, (k7 n8 false 0 w5)) ∧
(∀ n9 : Nat, ((Nat → Value) →
(∀ w11 : World, (∀ b12 : Bool, (∀ x13 : Int, ((k7 n9 b12 x13 w11) →
(∃ o15 : Option Addr, (∃ n16 : Nat, (∃ n17 : Nat, (((w11.cell? (⟨(hs w), 0, none⟩ : Addr)) = (some (Value.slice o15 n16 n17))) ∧
((((decide (x13 < ((n16 : Nat) : Int))) = true) →
(∀ k19 : (Bool → (World → Prop)), ((∀ w21 : World, (∀ b22 : Bool, (((Nat → Value) →
(∃ n25 : Nat, ((n25 < n9) ∧
(k7 n25 b22 (IntKind.wrap IntKind.i64 (x13 + 1)) w21)))) →
(k19 b22 w21)))) →
(∀ w26 : World, ((w26 = w11.drew) →
(∃ o28 : Option Addr, (∃ n29 : Nat, (∃ n30 : Nat, (((w26.cell? (⟨(hs w), 0, none⟩ : Addr)) = (some (Value.slice o28 n29 n30))) ∧
(∃ a31 : Addr, ((o28 = (some a31)) ∧
((((0 : Int) ≤ x13) ∧
(x13 < ((n29 : Nat) : Int))) ∧
(∃ s32 : ByteArray, (((w26.cell? (Addr.add a31 ((x13).toNat * 3))) = (some (Value.string s32))) ∧
((((Nf.strEq s32 name) = true) →
(((b12 = true) →
(∃ o35 : Option Addr, (∃ n36 : Nat, (∃ n37 : Nat, (((w26.cell? (⟨(hs w), 0, none⟩ : Addr)) = (some (Value.slice o35 n36 n37))) ∧
(∃ a38 : Addr, ((o35 = (some a38)) ∧
((((0 : Int) ≤ x13) ∧
(x13 < ((n36 : Nat) : Int))) ∧
(∃ x39 : Int, (((w26.cell? (Addr.add (Addr.add a38 ((x13).toNat * 3)) 1)) = (some (Value.int IntKind.i64 x39))) ∧
(∃ x40 : Int, (((w26.cell? (⟨(hs w3), 1, none⟩ : Addr)) = (some (Value.int IntKind.i64 x40))) ∧
((((decide (x39 > x40)) = true) →
(∃ o42 : Option Addr, (∃ n43 : Nat, (∃ n44 : Nat, (((w26.cell? (⟨(hs w), 0, none⟩ : Addr)) = (some (Value.slice o42 n43 n44))) ∧
(∃ a45 : Addr, ((o42 = (some a45)) ∧
((((0 : Int) ≤ x13) ∧
(x13 < ((n43 : Nat) : Int))) ∧
(∃ s46 : ByteArray, (((w26.cell? (Addr.add a45 ((x13).toNat * 3))) = (some (Value.string s46))) ∧
(∃ x47 : Int, (((w26.cell? (Addr.add (Addr.add a45 ((x13).toNat * 3)) 1)) = (some (Value.int IntKind.i64 x47))) ∧
(∃ o48 : Option Addr, (∃ n49 : Nat, (∃ n50 : Nat, (((w26.cell? (Addr.add (Addr.add a45 ((x13).toNat * 3)) 2)) = (some (Value.slice o48 n49 n50))) ∧
((Nf.There w26 (⟨(hs w3), 0, none⟩ : Addr) 3) ∧
(∀ w51 : World, ((w51 = (Nf.setCells w26 (⟨(hs w3), 0, none⟩ : Addr) [(Value.string s46), (Value.int IntKind.i64 x47), (Value.slice o48 n49 n50)] 0)) →
(k19 true w51)))))))))))))))))))) ∧
(((decide (x39 > x40)) = false) →
(k19 b12 w26))))))))))))))) ∧
((b12 = false) →
(∃ o55 : Option Addr, (∃ n56 : Nat, (∃ n57 : Nat, (((w26.cell? (⟨(hs w), 0, none⟩ : Addr)) = (some (Value.slice o55 n56 n57))) ∧
(∃ a58 : Addr, ((o55 = (some a58)) ∧
((((0 : Int) ≤ x13) ∧
(x13 < ((n56 : Nat) : Int))) ∧
(∃ s59 : ByteArray, (((w26.cell? (Addr.add a58 ((x13).toNat * 3))) = (some (Value.string s59))) ∧
(∃ x60 : Int, (((w26.cell? (Addr.add (Addr.add a58 ((x13).toNat * 3)) 1)) = (some (Value.int IntKind.i64 x60))) ∧
(∃ o61 : Option Addr, (∃ n62 : Nat, (∃ n63 : Nat, (((w26.cell? (Addr.add (Addr.add a58 ((x13).toNat * 3)) 2)) = (some (Value.slice o61 n62 n63))) ∧
((Nf.There w26 (⟨(hs w3), 0, none⟩ : Addr) 3) ∧
(∀ w64 : World, ((w64 = (Nf.setCells w26 (⟨(hs w3), 0, none⟩ : Addr) [(Value.string s59), (Value.int IntKind.i64 x60), (Value.slice o61 n62 n63)] 0)) →
(k19 true w64)))))))))))))))))))))) ∧
(((Nf.strEq s32 name) = false) →
(k19 b12 w26))))))))))))))))) ∧
(((decide (x13 < ((n16 : Nat) : Int))) = false) →
(∃ s68 : ByteArray, (((w11.cell? (⟨(hs w3), 0, none⟩ : Addr)) = (some (Value.string s68))) ∧
(∃ x69 : Int, (((w11.cell? (⟨(hs w3), 1, none⟩ : Addr)) = (some (Value.int IntKind.i64 x69))) ∧
(∃ o70 : Option Addr, (∃ n71 : Nat, (∃ n72 : Nat, (((w11.cell? (⟨(hs w3), 2, none⟩ : Addr)) = (some (Value.slice o70 n71 n72))) ∧
(((b12 = true) →
((Nf.There w11 (⟨(hs w1), 0, none⟩ : Addr) 3) ∧
(∀ w74 : World, ((w74 = (Nf.setCells w11 (⟨(hs w1), 0, none⟩ : Addr) [(Value.string s68), (Value.int IntKind.i64 x69), (Value.slice o70 n71 n72)] 0)) →
(∃ s76 : ByteArray, (((w74.cell? (⟨(hs w1), 0, none⟩ : Addr)) = (some (Value.string s76))) ∧
(∃ x77 : Int, (((w74.cell? (⟨(hs w1), 1, none⟩ : Addr)) = (some (Value.int IntKind.i64 x77))) ∧
(∃ o78 : Option Addr, (∃ n79 : Nat, (∃ n80 : Nat, (((w74.cell? (⟨(hs w1), 2, none⟩ : Addr)) = (some (Value.slice o78 n79 n80))) ∧
(R (Ending.returned (Value.tuple #[(Value.agg #[(Value.string s76), (Value.int IntKind.i64 x77), (Value.slice o78 n79 n80)]), (Value.bool true)])) w74))))))))))))) ∧
((b12 = false) →
((Nf.There w11 (⟨(hs w1), 0, none⟩ : Addr) 3) ∧
(∀ w82 : World, ((w82 = (Nf.setCells w11 (⟨(hs w1), 0, none⟩ : Addr) [(Value.string s68), (Value.int IntKind.i64 x69), (Value.slice o70 n71 n72)] 0)) →
(∃ s84 : ByteArray, (((w82.cell? (⟨(hs w1), 0, none⟩ : Addr)) = (some (Value.string s84))) ∧
(∃ x85 : Int, (((w82.cell? (⟨(hs w1), 1, none⟩ : Addr)) = (some (Value.int IntKind.i64 x85))) ∧
(∃ o86 : Option Addr, (∃ n87 : Nat, (∃ n88 : Nat, (((w82.cell? (⟨(hs w1), 2, none⟩ : Addr)) = (some (Value.slice o86 n87 n88))) ∧
(R (Ending.returned (Value.tuple #[(Value.agg #[(Value.string s84), (Value.int IntKind.i64 x85), (Value.slice o86 n87 n88)]), (Value.bool false)])) w82))))))))))))))))))))))))))))))))))))))))))) :
    Calls Try.prog 105 #[(.agg #[(.slice b_L b_L_n b_L_c), (.slice b_P b_P_n b_P_c)]), (.string name)] w R :=
  calls_of_vc an105 Try.func105 rfl (by kernel_rfl) (by kernel_rfl) (Eq.mp (by kernel_rfl) h)

/-- samaritan/samaritanref15.Get -/
def an109 : An := (.seq (.reg []) (.seq (.seq (.reg []) (.blk (.loop [(8, .int .i64)] (.seq (.seq (.reg [(4, 0, true)]) (.cond .nil .nil)) (.seq (.blk (.seq (.reg [(7, 3, true), (16, 0, true)]) (.cond (.seq (.reg []) .nil) .nil))) (.reg [])))))) (.seq (.reg []) .nil)))
set_option maxRecDepth 100000 in
theorem nf109 (b_L : Option Addr) (b_L_n : Nat) (b_L_c : Nat) (b_P : Option Addr) (b_P_n : Nat) (b_P_c : Nat) (name : ByteArray) (version : Int) (w : World) (R : Ending → World → Prop) (h :
(∀ w1 : World, ((w1 = (w.alloc (Obj.cells #[(Value.slice b_L b_L_n b_L_c), (Value.slice b_P b_P_n b_P_c)] 74 (0, 0)))) →
(∀ w3 : World, ((w3 = (w1.alloc (Obj.cells #[(Value.string (ByteArray.mk #[])), (Value.int IntKind.i64 0), (Value.slice none 0 0)] 24 (0, 0)))) →
(∃ k5 : (Nat → (Int → (World → Prop))), ((∃ n6 : Nat, (k5 n6 0 w3)) ∧
(∀ n7 : Nat, ((Nat → Value) →
(∀ w9 : World, (∀ x10 : Int, ((k5 n7 x10 w9) →
(∃ o12 : Option Addr, (∃ n13 : Nat, (∃ n14 : Nat, (((w9.cell? (⟨(hs w), 0, none⟩ : Addr)) = (some (Value.slice o12 n13 n14))) ∧
((((decide (x10 < ((n13 : Nat) : Int))) = true) →
(∃ o16 : Option Addr, (∃ n17 : Nat, (∃ n18 : Nat, (((w9.cell? (⟨(hs w), 0, none⟩ : Addr)) = (some (Value.slice o16 n17 n18))) ∧
(∃ a19 : Addr, ((o16 = (some a19)) ∧
((((0 : Int) ≤ x10) ∧
(x10 < ((n17 : Nat) : Int))) ∧
(∃ s20 : ByteArray, (((w9.cell? (Addr.add a19 ((x10).toNat * 3))) = (some (Value.string s20))) ∧
((((Nf.strEq s20 name) = true) →
(∃ o22 : Option Addr, (∃ n23 : Nat, (∃ n24 : Nat, (((w9.cell? (⟨(hs w), 0, none⟩ : Addr)) = (some (Value.slice o22 n23 n24))) ∧
(∃ a25 : Addr, ((o22 = (some a25)) ∧
((((0 : Int) ≤ x10) ∧
(x10 < ((n23 : Nat) : Int))) ∧
(∃ x26 : Int, (((w9.cell? (Addr.add (Addr.add a25 ((x10).toNat * 3)) 1)) = (some (Value.int IntKind.i64 x26))) ∧
((((decide (x26 = version)) = true) →
(∃ o28 : Option Addr, (∃ n29 : Nat, (∃ n30 : Nat, (((w9.cell? (⟨(hs w), 0, none⟩ : Addr)) = (some (Value.slice o28 n29 n30))) ∧
(∃ a31 : Addr, ((o28 = (some a31)) ∧
((((0 : Int) ≤ x10) ∧
(x10 < ((n29 : Nat) : Int))) ∧
(∃ s32 : ByteArray, (((w9.cell? (Addr.add a31 ((x10).toNat * 3))) = (some (Value.string s32))) ∧
(∃ x33 : Int, (((w9.cell? (Addr.add (Addr.add a31 ((x10).toNat * 3)) 1)) = (some (Value.int IntKind.i64 x33))) ∧
(∃ o34 : Option Addr, (∃ n35 : Nat, (∃ n36 : Nat, (((w9.cell? (Addr.add (Addr.add a31 ((x10).toNat * 3)) 2)) = (some (Value.slice o34 n35 n36))) ∧
((Nf.There w9 (⟨(hs w1), 0, none⟩ : Addr) 3) ∧
(∀ w37 : World, ((w37 = (Nf.setCells w9 (⟨(hs w1), 0, none⟩ : Addr) [(Value.string s32), (Value.int IntKind.i64 x33), (Value.slice o34 n35 n36)] 0)) →
(∃ s39 : ByteArray, (((w37.cell? (⟨(hs w1), 0, none⟩ : Addr)) = (some (Value.string s39))) ∧
(∃ x40 : Int, (((w37.cell? (⟨(hs w1), 1, none⟩ : Addr)) = (some (Value.int IntKind.i64 x40))) ∧
(∃ o41 : Option Addr, (∃ n42 : Nat, (∃ n43 : Nat, (((w37.cell? (⟨(hs w1), 2, none⟩ : Addr)) = (some (Value.slice o41 n42 n43))) ∧
(R (Ending.returned (Value.tuple #[(Value.agg #[(Value.string s39), (Value.int IntKind.i64 x40), (Value.slice o41 n42 n43)]), (Value.bool true)])) w37)))))))))))))))))))))))))))) ∧
(((decide (x26 = version)) = false) →
(∃ n45 : Nat, ((n45 < n7) ∧
(k5 n45 (IntKind.wrap IntKind.i64 (x10 + 1)) w9))))))))))))))) ∧
(((Nf.strEq s20 name) = false) →
(∃ n47 : Nat, ((n47 < n7) ∧
(k5 n47 (IntKind.wrap IntKind.i64 (x10 + 1)) w9))))))))))))))) ∧
(((decide (x10 < ((n13 : Nat) : Int))) = false) →
((Nf.There w9 (⟨(hs w1), 0, none⟩ : Addr) 3) ∧
(∀ w49 : World, ((w49 = (Nf.setCells w9 (⟨(hs w1), 0, none⟩ : Addr) [(Value.string (ByteArray.mk #[])), (Value.int IntKind.i64 0), (Value.slice none 0 0)] 0)) →
(∃ s51 : ByteArray, (((w49.cell? (⟨(hs w1), 0, none⟩ : Addr)) = (some (Value.string s51))) ∧
(∃ x52 : Int, (((w49.cell? (⟨(hs w1), 1, none⟩ : Addr)) = (some (Value.int IntKind.i64 x52))) ∧
(∃ o53 : Option Addr, (∃ n54 : Nat, (∃ n55 : Nat, (((w49.cell? (⟨(hs w1), 2, none⟩ : Addr)) = (some (Value.slice o53 n54 n55))) ∧
(R (Ending.returned (Value.tuple #[(Value.agg #[(Value.string s51), (Value.int IntKind.i64 x52), (Value.slice o53 n54 n55)]), (Value.bool false)])) w49)))))))))))))))))))))))))))))) :
    Calls Try.prog 109 #[(.agg #[(.slice b_L b_L_n b_L_c), (.slice b_P b_P_n b_P_c)]), (.string name), (.int .i64 version)] w R :=
  calls_of_vc an109 Try.func109 rfl (by kernel_rfl) (by kernel_rfl) (Eq.mp (by kernel_rfl) h)

/-- samaritan/samaritanref15.pin -/
def an117 : An := (.seq (.reg []) (.seq (.seq (.reg []) (.blk (.loop [(5, .int .i64)] (.seq (.seq (.reg [(4, 0, true)]) (.cond .nil .nil)) (.seq (.blk (.seq (.reg [(7, 0, true)]) (.cond (.seq (.reg []) .nil) .nil))) (.reg [])))))) (.seq (.reg []) .nil)))
set_option maxRecDepth 100000 in
theorem nf117 (b_L : Option Addr) (b_L_n : Nat) (b_L_c : Nat) (b_P : Option Addr) (b_P_n : Nat) (b_P_c : Nat) (call : Int) (w : World) (R : Ending → World → Prop) (h :
(∀ w1 : World, ((w1 = (w.alloc (Obj.cells #[(Value.slice b_L b_L_n b_L_c), (Value.slice b_P b_P_n b_P_c)] 74 (0, 0)))) →
(∃ k3 : (Nat → (Int → (World → Prop))), ((∃ n4 : Nat, (k3 n4 0 w1)) ∧
(∀ n5 : Nat, ((Nat → Value) →
(∀ w7 : World, (∀ x8 : Int, ((k3 n5 x8 w7) →
(∃ o10 : Option Addr, (∃ n11 : Nat, (∃ n12 : Nat, (((w7.cell? (⟨(hs w), 1, none⟩ : Addr)) = (some (Value.slice o10 n11 n12))) ∧
((((decide (x8 < ((n11 : Nat) : Int))) = true) →
(∃ o14 : Option Addr, (∃ n15 : Nat, (∃ n16 : Nat, (((w7.cell? (⟨(hs w), 1, none⟩ : Addr)) = (some (Value.slice o14 n15 n16))) ∧
(∃ a17 : Addr, ((o14 = (some a17)) ∧
((((0 : Int) ≤ x8) ∧
(x8 < ((n15 : Nat) : Int))) ∧
(∃ x18 : Int, (((w7.cell? (Addr.add a17 ((x8).toNat * 3))) = (some (Value.int IntKind.i64 x18))) ∧
((((decide (x18 = call)) = true) →
(R (Ending.returned (Value.int IntKind.i64 x8)) w7)) ∧
(((decide (x18 = call)) = false) →
(∃ n21 : Nat, ((n21 < n5) ∧
(k3 n21 (IntKind.wrap IntKind.i64 (x8 + 1)) w7))))))))))))))) ∧
(((decide (x8 < ((n11 : Nat) : Int))) = false) →
(R (Ending.returned (Value.int IntKind.i64 (-1))) w7))))))))))))))))) :
    Calls Try.prog 117 #[(.agg #[(.slice b_L b_L_n b_L_c), (.slice b_P b_P_n b_P_c)]), (.int .i64 call)] w R :=
  calls_of_vc an117 Try.func117 rfl (by kernel_rfl) (by kernel_rfl) (Eq.mp (by kernel_rfl) h)

/-- samaritan/samaritanlaw15.small -/
def an40 : An := (.seq (.reg []) (.seq (.seq (.reg []) (.blk (.loop [(7, .int .i64)] (.seq (.reg [(0, 0, true)]) (.seq (.cond .nil .nil) (.seq (.blk (.seq (.reg []) (.seq (.reg [(2, 0, true), (8, 0, true)]) (.cond (.seq (.reg []) .nil) .nil)))) (.reg []))))))) (.seq (.reg [(2, 0, true)]) .nil)))
set_option maxRecDepth 100000 in
theorem nf40 (l : Option Addr) (l_n : Nat) (l_c : Nat) (w : World) (R : Ending → World → Prop) (h :
(∃ k1 : (Nat → (Int → (World → Prop))), ((∃ n2 : Nat, (k1 n2 0 w)) ∧
(∀ n3 : Nat, ((Nat → Value) →
(∀ w5 : World, (∀ x6 : Int, ((k1 n3 x6 w5) →
((((decide (x6 < ((l_n : Nat) : Int))) = true) →
(∃ a9 : Addr, ((l = (some a9)) ∧
((((0 : Int) ≤ x6) ∧
(x6 < ((l_n : Nat) : Int))) ∧
(∃ x10 : Int, (((w5.cell? (Addr.add a9 ((x6).toNat * 7))) = (some (Value.int IntKind.u8 x10))) ∧
(∃ s11 : ByteArray, (((w5.cell? (Addr.add (Addr.add a9 ((x6).toNat * 7)) 1)) = (some (Value.string s11))) ∧
(∃ x12 : Int, (((w5.cell? (Addr.add (Addr.add a9 ((x6).toNat * 7)) 2)) = (some (Value.int IntKind.i64 x12))) ∧
(∃ o13 : Option Addr, (∃ n14 : Nat, (∃ n15 : Nat, (((w5.cell? (Addr.add (Addr.add a9 ((x6).toNat * 7)) 3)) = (some (Value.slice o13 n14 n15))) ∧
(∃ x16 : Int, (((w5.cell? (Addr.add (Addr.add a9 ((x6).toNat * 7)) 4)) = (some (Value.int IntKind.i64 x16))) ∧
(∃ s17 : ByteArray, (((w5.cell? (Addr.add (Addr.add a9 ((x6).toNat * 7)) 5)) = (some (Value.string s17))) ∧
(∃ x18 : Int, (((w5.cell? (Addr.add (Addr.add a9 ((x6).toNat * 7)) 6)) = (some (Value.int IntKind.i64 x18))) ∧
(∀ w19 : World, ((w19 = (w5.alloc (Obj.cells #[(Value.int IntKind.u8 0), (Value.string (ByteArray.mk #[])), (Value.int IntKind.i64 0), (Value.slice none 0 0), (Value.int IntKind.i64 0), (Value.string (ByteArray.mk #[])), (Value.int IntKind.i64 0)] 70 (0, 0)))) →
((Nf.There w19 (⟨(hs w5), 0, none⟩ : Addr) 7) ∧
(∀ w21 : World, ((w21 = (Nf.setCells w19 (⟨(hs w5), 0, none⟩ : Addr) [(Value.int IntKind.u8 x10), (Value.string s11), (Value.int IntKind.i64 x12), (Value.slice o13 n14 n15), (Value.int IntKind.i64 x16), (Value.string s17), (Value.int IntKind.i64 x18)] 0)) →
(∃ s23 : ByteArray, (((w21.cell? (⟨(hs w5), 1, none⟩ : Addr)) = (some (Value.string s23))) ∧
(∃ x24 : Int, (((w21.cell? (⟨(hs w5), 2, none⟩ : Addr)) = (some (Value.int IntKind.i64 x24))) ∧
(∃ o25 : Option Addr, (∃ n26 : Nat, (∃ n27 : Nat, (((w21.cell? (⟨(hs w5), 3, none⟩ : Addr)) = (some (Value.slice o25 n26 n27))) ∧
(Calls Try.prog 48 #[(Value.agg #[(Value.string s23), (Value.int IntKind.i64 x24), (Value.slice o25 n26 n27)])] w21 (fun (e28 : Ending) => (fun (w29 : World) => (∃ b30 : Bool, ((e28 = (Ending.returned (Value.bool b30))) ∧
(((b30 = true) →
(∃ s32 : ByteArray, (((w29.cell? (⟨(hs w5), 5, none⟩ : Addr)) = (some (Value.string s32))) ∧
((((decide ((((ByteArray.size s32) : Nat) : Int) > 100)) = true) →
(R (Ending.returned (Value.bool false)) w29)) ∧
(((decide ((((ByteArray.size s32) : Nat) : Int) > 100)) = false) →
(∃ n35 : Nat, ((n35 < n3) ∧
(k1 n35 (IntKind.wrap IntKind.i64 (x6 + 1)) w29)))))))) ∧
((b30 = false) →
(R (Ending.returned (Value.bool false)) w29))))))))))))))))))))))))))))))))))))))))) ∧
(((decide (x6 < ((l_n : Nat) : Int))) = false) →
((((decide (((l_n : Nat) : Int) ≤ 40)) = true) →
(R (Ending.returned (Value.bool true)) w5)) ∧
(((decide (((l_n : Nat) : Int) ≤ 40)) = false) →
(R (Ending.returned (Value.bool false)) w5))))))))))))) :
    Calls Try.prog 40 #[(.slice l l_n l_c)] w R :=
  calls_of_vc an40 Try.func40 rfl (by kernel_rfl) (by kernel_rfl) (Eq.mp (by kernel_rfl) h)

/-- (*samaritan/protocolstore.Store).Pin -/
def an44 : An := (.seq (.reg []) (.seq (.seq (.reg [(1, 0, true)]) (.cond (.seq (.reg []) .nil) .nil)) (.seq (.reg []) (.seq (.seq (.reg [(1, 0, true)]) (.cond (.seq (.reg []) .nil) .nil)) (.seq (.seq (.reg [(1, 2, false), (5, 1, false), (8, 0, true)]) (.seq (.reg []) (.cond (.seq (.reg []) .nil) .nil))) (.seq (.reg [(1, 2, false)]) (.seq (.regD [(1, 2, false), (6, 2, false), (15, 1, false)] [0, 1, 2, 3, 4, 5, 6, 7, 8, 9, 10, 11, 12, 13, 14, 15] [15]) (.seq (.reg []) .nil))))))))
set_option maxRecDepth 100000 in
theorem nf44 (b : Option Addr) (call : Int) (name : ByteArray) (w : World) (R : Ending → World → Prop) (h :
((((decide (call < 1)) = true) →
(R (Ending.returned (Value.tuple #[(Value.int IntKind.i64 0), (Value.int IntKind.i64 1)])) w)) ∧
(((decide (call < 1)) = false) →
(Calls Try.prog 84 #[(Value.pointer b), (Value.string name)] w (fun (e3 : Ending) => (fun (w4 : World) => (∃ x5 : Int, ((e3 = (Ending.returned (Value.int IntKind.i64 x5))) ∧
((((decide (x5 < 0)) = true) →
(R (Ending.returned (Value.tuple #[(Value.int IntKind.i64 0), (Value.int IntKind.i64 4)])) w4)) ∧
(((decide (x5 < 0)) = false) →
(∃ a8 : Addr, ((b = (some a8)) ∧
(∃ o9 : Option Nat, (((w4.cell? (Addr.add a8 1)) = (some (Value.map o9))) ∧
(RunOk Try.prog (Nf.Hold (Instr.lookup 115 (Value.map o9) (Value.int IntKind.i64 call) true)) w4 (fun (v10 : Value) => (fun (w11 : World) => (∃ s12 : ByteArray, (∃ x13 : Int, (∃ b14 : Bool, ((v10 = (Value.tuple #[(Value.agg #[(Value.string s12), (Value.int IntKind.i64 x13)]), (Value.bool b14)])) ∧
(((b14 = true) →
(∀ w16 : World, ((w16 = (w11.alloc (Obj.cells #[(Value.string (ByteArray.mk #[])), (Value.int IntKind.i64 0)] 123 (0, 0)))) →
((Nf.There w16 (⟨(hs w11), 0, none⟩ : Addr) 2) ∧
(∀ w18 : World, ((w18 = (Nf.setCells w16 (⟨(hs w11), 0, none⟩ : Addr) [(Value.string s12), (Value.int IntKind.i64 x13)] 0)) →
(R (Ending.returned (Value.tuple #[(Value.int IntKind.i64 0), (Value.int IntKind.i64 5)])) w18))))))) ∧
((b14 = false) →
(∀ w21 : World, ((w21 = (w11.alloc (Obj.cells #[(Value.string (ByteArray.mk #[])), (Value.int IntKind.i64 0)] 123 (0, 0)))) →
((Nf.There w21 (⟨(hs w11), 0, none⟩ : Addr) 2) ∧
(∀ w23 : World, ((w23 = (Nf.setCells w21 (⟨(hs w11), 0, none⟩ : Addr) [(Value.string s12), (Value.int IntKind.i64 x13)] 0)) →
(∃ a25 : Addr, ((b = (some a25)) ∧
(∃ o26 : Option Addr, (∃ n27 : Nat, (∃ n28 : Nat, (((w23.cell? a25) = (some (Value.slice o26 n27 n28))) ∧
(∃ a29 : Addr, ((o26 = (some a29)) ∧
((((0 : Int) ≤ x5) ∧
(x5 < ((n27 : Nat) : Int))) ∧
(∃ x30 : Int, (((w23.cell? (Addr.add (Addr.add a29 ((x5).toNat * 3)) 1)) = (some (Value.int IntKind.i64 x30))) ∧
(∀ w31 : World, ((w31 = w23.drew) →
(∃ a33 : Addr, ((b = (some a33)) ∧
(∃ o34 : Option Nat, (((w31.cell? (Addr.add a33 1)) = (some (Value.map o34))) ∧
(∃ a35 : Addr, ((b = (some a35)) ∧
(∃ o36 : Option Addr, (∃ n37 : Nat, (∃ n38 : Nat, (((w31.cell? a35) = (some (Value.slice o36 n37 n38))) ∧
(∃ a39 : Addr, ((o36 = (some a39)) ∧
((((0 : Int) ≤ x5) ∧
(x5 < ((n37 : Nat) : Int))) ∧
(∃ s40 : ByteArray, (((w31.cell? (Addr.add a39 ((x5).toNat * 3))) = (some (Value.string s40))) ∧
(RunOk Try.prog (Nf.Hold (Instr.mapUpdate 115 (Value.map o34) (Value.int IntKind.i64 call) (Value.agg #[(Value.string s40), (Value.int IntKind.i64 x30)]))) w31 (fun (k41 : Unit) => (fun (w42 : World) => (R (Ending.returned (Value.tuple #[(Value.int IntKind.i64 x30), (Value.int IntKind.i64 0)])) w42)))))))))))))))))))))))))))))))))))))))))))))))))))))))))))) :
    Calls Try.prog 44 #[(.pointer b), (.int .i64 call), (.string name)] w R :=
  calls_of_vc an44 Try.func44 rfl (by kernel_rfl) (by kernel_rfl) (Eq.mp (by kernel_rfl) h)

/-- (*samaritan/protocolstore.Store).Pinned -/
def an46 : An := (.seq (.reg []) (.seq (.reg [(1, 2, false), (5, 1, false), (8, 0, true)]) (.seq (.seq (.reg []) (.cond (.seq (.reg []) .nil) .nil)) (.seq (.reg [(7, 0, true)]) .nil))))
set_option maxRecDepth 100000 in
theorem nf46 (b : Option Addr) (call : Int) (w : World) (R : Ending → World → Prop) (h :
(∀ w1 : World, ((w1 = (w.alloc (Obj.cells #[(Value.string (ByteArray.mk #[])), (Value.int IntKind.i64 0), (Value.slice none 0 0)] 24 (0, 0)))) →
(∃ a3 : Addr, ((b = (some a3)) ∧
(∃ o4 : Option Nat, (((w1.cell? (Addr.add a3 1)) = (some (Value.map o4))) ∧
(RunOk Try.prog (Nf.Hold (Instr.lookup 115 (Value.map o4) (Value.int IntKind.i64 call) true)) w1 (fun (v5 : Value) => (fun (w6 : World) => (∃ s7 : ByteArray, (∃ x8 : Int, (∃ b9 : Bool, ((v5 = (Value.tuple #[(Value.agg #[(Value.string s7), (Value.int IntKind.i64 x8)]), (Value.bool b9)])) ∧
(((b9 = true) →
(∀ w11 : World, ((w11 = (w6.alloc (Obj.cells #[(Value.string (ByteArray.mk #[])), (Value.int IntKind.i64 0)] 123 (0, 0)))) →
((Nf.There w11 (⟨(hs w6), 0, none⟩ : Addr) 2) ∧
(∀ w13 : World, ((w13 = (Nf.setCells w11 (⟨(hs w6), 0, none⟩ : Addr) [(Value.string s7), (Value.int IntKind.i64 x8)] 0)) →
(∃ s15 : ByteArray, (((w13.cell? (⟨(hs w6), 0, none⟩ : Addr)) = (some (Value.string s15))) ∧
(∃ x16 : Int, (((w13.cell? (⟨(hs w6), 1, none⟩ : Addr)) = (some (Value.int IntKind.i64 x16))) ∧
(Calls Try.prog 49 #[(Value.pointer b), (Value.string s15), (Value.int IntKind.i64 x16)] w13 (fun (e17 : Ending) => (fun (w18 : World) => (∃ s19 : ByteArray, (∃ x20 : Int, (∃ o21 : Option Addr, (∃ n22 : Nat, (∃ n23 : Nat, (∃ b24 : Bool, ((e17 = (Ending.returned (Value.tuple #[(Value.agg #[(Value.string s19), (Value.int IntKind.i64 x20), (Value.slice o21 n22 n23)]), (Value.bool b24)]))) ∧
(((b24 = true) →
((Nf.There w18 (⟨(hs w), 0, none⟩ : Addr) 3) ∧
(∀ w26 : World, ((w26 = (Nf.setCells w18 (⟨(hs w), 0, none⟩ : Addr) [(Value.string s19), (Value.int IntKind.i64 x20), (Value.slice o21 n22 n23)] 0)) →
(∃ s28 : ByteArray, (((w26.cell? (⟨(hs w), 0, none⟩ : Addr)) = (some (Value.string s28))) ∧
(∃ x29 : Int, (((w26.cell? (⟨(hs w), 1, none⟩ : Addr)) = (some (Value.int IntKind.i64 x29))) ∧
(∃ o30 : Option Addr, (∃ n31 : Nat, (∃ n32 : Nat, (((w26.cell? (⟨(hs w), 2, none⟩ : Addr)) = (some (Value.slice o30 n31 n32))) ∧
(R (Ending.returned (Value.tuple #[(Value.agg #[(Value.string s28), (Value.int IntKind.i64 x29), (Value.slice o30 n31 n32)]), (Value.bool true)])) w26))))))))))))) ∧
((b24 = false) →
((Nf.There w18 (⟨(hs w), 0, none⟩ : Addr) 3) ∧
(∀ w34 : World, ((w34 = (Nf.setCells w18 (⟨(hs w), 0, none⟩ : Addr) [(Value.string s19), (Value.int IntKind.i64 x20), (Value.slice o21 n22 n23)] 0)) →
(∃ s36 : ByteArray, (((w34.cell? (⟨(hs w), 0, none⟩ : Addr)) = (some (Value.string s36))) ∧
(∃ x37 : Int, (((w34.cell? (⟨(hs w), 1, none⟩ : Addr)) = (some (Value.int IntKind.i64 x37))) ∧
(∃ o38 : Option Addr, (∃ n39 : Nat, (∃ n40 : Nat, (((w34.cell? (⟨(hs w), 2, none⟩ : Addr)) = (some (Value.slice o38 n39 n40))) ∧
(R (Ending.returned (Value.tuple #[(Value.agg #[(Value.string s36), (Value.int IntKind.i64 x37), (Value.slice o38 n39 n40)]), (Value.bool false)])) w34)))))))))))))))))))))))))))))))))) ∧
((b9 = false) →
(∀ w42 : World, ((w42 = (w6.alloc (Obj.cells #[(Value.string (ByteArray.mk #[])), (Value.int IntKind.i64 0)] 123 (0, 0)))) →
((Nf.There w42 (⟨(hs w6), 0, none⟩ : Addr) 2) ∧
(∀ w44 : World, ((w44 = (Nf.setCells w42 (⟨(hs w6), 0, none⟩ : Addr) [(Value.string s7), (Value.int IntKind.i64 x8)] 0)) →
((Nf.There w44 (⟨(hs w), 0, none⟩ : Addr) 3) ∧
(∀ w46 : World, ((w46 = (Nf.setCells w44 (⟨(hs w), 0, none⟩ : Addr) [(Value.string (ByteArray.mk #[])), (Value.int IntKind.i64 0), (Value.slice none 0 0)] 0)) →
(∃ s48 : ByteArray, (((w46.cell? (⟨(hs w), 0, none⟩ : Addr)) = (some (Value.string s48))) ∧
(∃ x49 : Int, (((w46.cell? (⟨(hs w), 1, none⟩ : Addr)) = (some (Value.int IntKind.i64 x49))) ∧
(∃ o50 : Option Addr, (∃ n51 : Nat, (∃ n52 : Nat, (((w46.cell? (⟨(hs w), 2, none⟩ : Addr)) = (some (Value.slice o50 n51 n52))) ∧
(R (Ending.returned (Value.tuple #[(Value.agg #[(Value.string s48), (Value.int IntKind.i64 x49), (Value.slice o50 n51 n52)]), (Value.bool false)])) w46))))))))))))))))))))))))))))))))) :
    Calls Try.prog 46 #[(.pointer b), (.int .i64 call)] w R :=
  calls_of_vc an46 Try.func46 rfl (by kernel_rfl) (by kernel_rfl) (Eq.mp (by kernel_rfl) h)

/-- (*samaritan/protocolstore.Store).Unpin -/
def an47 : An := (.seq (.reg []) (.seq (.seq (.reg [(1, 2, false), (5, 1, false), (8, 0, true)]) (.seq (.reg []) (.cond (.seq (.reg []) .nil) .nil))) (.seq (.reg [(1, 2, false), (5, 1, false)]) (.seq (.reg []) .nil))))
set_option maxRecDepth 100000 in
theorem nf47 (b : Option Addr) (call : Int) (w : World) (R : Ending → World → Prop) (h :
(∃ a1 : Addr, ((b = (some a1)) ∧
(∃ o2 : Option Nat, (((w.cell? (Addr.add a1 1)) = (some (Value.map o2))) ∧
(RunOk Try.prog (Nf.Hold (Instr.lookup 115 (Value.map o2) (Value.int IntKind.i64 call) true)) w (fun (v3 : Value) => (fun (w4 : World) => (∃ s5 : ByteArray, (∃ x6 : Int, (∃ b7 : Bool, ((v3 = (Value.tuple #[(Value.agg #[(Value.string s5), (Value.int IntKind.i64 x6)]), (Value.bool b7)])) ∧
(((b7 = true) →
(∀ w9 : World, ((w9 = (w4.alloc (Obj.cells #[(Value.string (ByteArray.mk #[])), (Value.int IntKind.i64 0)] 123 (0, 0)))) →
((Nf.There w9 (⟨(hs w4), 0, none⟩ : Addr) 2) ∧
(∀ w11 : World, ((w11 = (Nf.setCells w9 (⟨(hs w4), 0, none⟩ : Addr) [(Value.string s5), (Value.int IntKind.i64 x6)] 0)) →
(∃ a13 : Addr, ((b = (some a13)) ∧
(∃ o14 : Option Nat, (((w11.cell? (Addr.add a13 1)) = (some (Value.map o14))) ∧
(RunOk Try.prog (Nf.Hold (Builtin.delete_ #[115, 2] 0 #[(Value.map o14), (Value.int IntKind.i64 call)])) w11 (fun (v15 : Value) => (fun (w16 : World) => (∃ v17 : Value, ((v15 = v17) ∧
(R (Ending.returned (Value.bool true)) w16)))))))))))))))) ∧
((b7 = false) →
(∀ w19 : World, ((w19 = (w4.alloc (Obj.cells #[(Value.string (ByteArray.mk #[])), (Value.int IntKind.i64 0)] 123 (0, 0)))) →
((Nf.There w19 (⟨(hs w4), 0, none⟩ : Addr) 2) ∧
(∀ w21 : World, ((w21 = (Nf.setCells w19 (⟨(hs w4), 0, none⟩ : Addr) [(Value.string s5), (Value.int IntKind.i64 x6)] 0)) →
(R (Ending.returned (Value.bool false)) w21)))))))))))))))))))) :
    Calls Try.prog 47 #[(.pointer b), (.int .i64 call)] w R :=
  calls_of_vc an47 Try.func47 rfl (by kernel_rfl) (by kernel_rfl) (Eq.mp (by kernel_rfl) h)

/-- (*samaritan/protocolstore.Store).Put -/
def an42 : An := (.seq (.reg []) (.seq (.seq (.reg []) (.seq (.reg [(1, 0, true)]) (.cond (.seq (.reg []) .nil) .nil))) (.seq (.seq (.reg []) (.seq (.reg [(1, 0, true)]) (.cond (.seq (.reg []) .nil) .nil))) (.seq (.reg [(8, 0, true)]) (.seq (.seq (.reg []) (.cond (.seq (.reg []) .nil) .nil)) (.seq (.seq (.reg []) (.seq (.regD [(1, 0, true), (4, 2, false), (13, 0, true)] [0, 1, 2, 3, 4, 5, 6, 7, 8, 9, 10, 11, 12, 13, 14] []) (.cond (.seq (.reg []) .nil) .nil))) (.seq (.seq (.reg [(1, 2, false), (5, 0, true)]) (.cond (.seq (.reg []) .nil) .nil)) (.seq (.reg [(2, 2, false), (7, 1, false), (8, 2, false)]) (.seq (.regD [(1, 2, false), (6, 2, false), (8, 2, false), (12, 2, false), (13, 1, false)] [0, 1, 2, 3, 4, 5, 6, 7, 8, 9, 10, 11, 12, 13] [13]) (.seq (.regD [(1, 2, false)] [0, 1, 2, 3, 4, 5, 6, 7, 8] [6, 8]) (.seq (.reg []) .nil)))))))))))
set_option maxRecDepth 100000 in
theorem nf42 (b : Option Addr) (t_Name : ByteArray) (t_Version : Int) (t_Questions : Option Addr) (t_Questions_n : Nat) (t_Questions_c : Nat) (w : World) (R : Ending → World → Prop) (h :
(∀ w1 : World, ((w1 = (w.alloc (Obj.cells #[(Value.string t_Name), (Value.int IntKind.i64 t_Version), (Value.slice t_Questions t_Questions_n t_Questions_c)] 24 (0, 0)))) →
(∃ s3 : ByteArray, (((w1.cell? (⟨(hs w), 0, none⟩ : Addr)) = (some (Value.string s3))) ∧
(∃ x4 : Int, (((w1.cell? (⟨(hs w), 1, none⟩ : Addr)) = (some (Value.int IntKind.i64 x4))) ∧
(∃ o5 : Option Addr, (∃ n6 : Nat, (∃ n7 : Nat, (((w1.cell? (⟨(hs w), 2, none⟩ : Addr)) = (some (Value.slice o5 n6 n7))) ∧
(Calls Try.prog 82 #[(Value.agg #[(Value.string s3), (Value.int IntKind.i64 x4), (Value.slice o5 n6 n7)])] w1 (fun (e8 : Ending) => (fun (w9 : World) => (∃ x10 : Int, (∃ x11 : Int, ((e8 = (Ending.returned (Value.tuple #[(Value.int IntKind.i64 x10), (Value.int IntKind.i64 x11)]))) ∧
((((!(decide (x11 = 0))) = true) →
(R (Ending.returned (Value.int IntKind.i64 x11)) w9)) ∧
(((!(decide (x11 = 0))) = false) →
(∃ s14 : ByteArray, (((w9.cell? (⟨(hs w), 0, none⟩ : Addr)) = (some (Value.string s14))) ∧
(∃ x15 : Int, (((w9.cell? (⟨(hs w), 1, none⟩ : Addr)) = (some (Value.int IntKind.i64 x15))) ∧
(∃ o16 : Option Addr, (∃ n17 : Nat, (∃ n18 : Nat, (((w9.cell? (⟨(hs w), 2, none⟩ : Addr)) = (some (Value.slice o16 n17 n18))) ∧
(Calls Try.prog 56 #[(Value.agg #[(Value.string s14), (Value.int IntKind.i64 x15), (Value.slice o16 n17 n18)])] w9 (fun (e19 : Ending) => (fun (w20 : World) => (∃ x21 : Int, (∃ x22 : Int, ((e19 = (Ending.returned (Value.tuple #[(Value.int IntKind.i64 x21), (Value.int IntKind.i64 x22)]))) ∧
((((!(decide (x22 = 0))) = true) →
(R (Ending.returned (Value.int IntKind.i64 x22)) w20)) ∧
(((!(decide (x22 = 0))) = false) →
(∃ s25 : ByteArray, (((w20.cell? (⟨(hs w), 0, none⟩ : Addr)) = (some (Value.string s25))) ∧
(∃ x26 : Int, (((w20.cell? (⟨(hs w), 1, none⟩ : Addr)) = (some (Value.int IntKind.i64 x26))) ∧
(Calls Try.prog 83 #[(Value.pointer b), (Value.string s25), (Value.int IntKind.i64 x26)] w20 (fun (e27 : Ending) => (fun (w28 : World) => (∃ x29 : Int, (∃ b30 : Bool, ((e27 = (Ending.returned (Value.tuple #[(Value.int IntKind.i64 x29), (Value.bool b30)]))) ∧
(((b30 = true) →
(R (Ending.returned (Value.int IntKind.i64 5)) w28)) ∧
((b30 = false) →
(∃ s33 : ByteArray, (((w28.cell? (⟨(hs w), 0, none⟩ : Addr)) = (some (Value.string s33))) ∧
(Calls Try.prog 84 #[(Value.pointer b), (Value.string s33)] w28 (fun (e34 : Ending) => (fun (w35 : World) => (∃ x36 : Int, ((e34 = (Ending.returned (Value.int IntKind.i64 x36))) ∧
(∀ w37 : World, ((w37 = w35.drew) →
((((decide (x36 ≥ 0)) = true) →
(∃ a40 : Addr, ((b = (some a40)) ∧
(∃ o41 : Option Addr, (∃ n42 : Nat, (∃ n43 : Nat, (((w37.cell? a40) = (some (Value.slice o41 n42 n43))) ∧
(∃ a44 : Addr, ((o41 = (some a44)) ∧
((((0 : Int) ≤ x36) ∧
(x36 < ((n42 : Nat) : Int))) ∧
(∃ x45 : Int, (((w37.cell? (Addr.add (Addr.add a44 ((x36).toNat * 3)) 1)) = (some (Value.int IntKind.i64 x45))) ∧
(∃ x46 : Int, (((w37.cell? (⟨(hs w), 1, none⟩ : Addr)) = (some (Value.int IntKind.i64 x46))) ∧
((((decide (x45 > x46)) = true) →
(R (Ending.returned (Value.int IntKind.i64 9)) w37)) ∧
(((decide (x45 > x46)) = false) →
(∃ a49 : Addr, ((b = (some a49)) ∧
(∃ o50 : Option Addr, (∃ n51 : Nat, (∃ n52 : Nat, (((w37.cell? a49) = (some (Value.slice o50 n51 n52))) ∧
((((decide (((n51 : Nat) : Int) ≥ 100)) = true) →
(R (Ending.returned (Value.int IntKind.i64 3)) w37)) ∧
(((decide (((n51 : Nat) : Int) ≥ 100)) = false) →
(∃ a55 : Addr, ((b = (some a55)) ∧
(∃ o56 : Option Addr, (∃ n57 : Nat, (∃ n58 : Nat, (((w37.cell? a55) = (some (Value.slice o56 n57 n58))) ∧
(∀ w59 : World, ((w59 = (w37.alloc (Obj.cells #[(Value.string (ByteArray.mk #[])), (Value.int IntKind.i64 0), (Value.slice none 0 0)] 24 (0, 0)))) →
(RunOk Try.prog (Nf.Hold (Builtin.append_ #[71, 71] 71 #[(Value.slice o56 n57 n58), (Value.slice (some (⟨(hs w37), 0, none⟩ : Addr)) 1 1)])) w59 (fun (v61 : Value) => (fun (w62 : World) => (∃ o63 : Option Addr, (∃ n64 : Nat, (∃ n65 : Nat, ((v61 = (Value.slice o63 n64 n65)) ∧
(∃ a66 : Addr, ((b = (some a66)) ∧
((Nf.There w62 a66 1) ∧
(∀ w67 : World, ((w67 = (Nf.setCells w62 a66 [(Value.slice o63 n64 n65)] 0)) →
(∀ w69 : World, ((w69 = w67.drew) →
(∃ a71 : Addr, ((b = (some a71)) ∧
(∃ o72 : Option Addr, (∃ n73 : Nat, (∃ n74 : Nat, (((w69.cell? a71) = (some (Value.slice o72 n73 n74))) ∧
((((0 : Int) ≤ (IntKind.wrap IntKind.i64 (x29 + 1))) ∧
((IntKind.wrap IntKind.i64 (x29 + 1)) ≤ ((n73 : Nat) : Int))) ∧
(∃ a75 : Addr, ((b = (some a75)) ∧
(∃ o76 : Option Addr, (∃ n77 : Nat, (∃ n78 : Nat, (((w69.cell? a75) = (some (Value.slice o76 n77 n78))) ∧
((((0 : Int) ≤ x29) ∧
(x29 ≤ ((n77 : Nat) : Int))) ∧
(RunOk Try.prog (Nf.Hold (Builtin.copy_ #[71, 71] 3 #[(Value.slice (if (n74 = ((IntKind.wrap IntKind.i64 (x29 + 1))).toNat) then o72 else (Option.map (fun (x : Addr) => (Addr.add x (((IntKind.wrap IntKind.i64 (x29 + 1))).toNat * 3))) o72)) (n73 - ((IntKind.wrap IntKind.i64 (x29 + 1))).toNat) (n74 - ((IntKind.wrap IntKind.i64 (x29 + 1))).toNat)), (Value.slice (if (n78 = (x29).toNat) then o76 else (Option.map (fun (x : Addr) => (Addr.add x ((x29).toNat * 3))) o76)) (n77 - (x29).toNat) (n78 - (x29).toNat))])) w69 (fun (v79 : Value) => (fun (w80 : World) => (∃ x81 : Int, ((v79 = (Value.int IntKind.i64 x81)) ∧
(∀ w82 : World, ((w82 = w80.drew) →
(∃ a84 : Addr, ((b = (some a84)) ∧
(∃ o85 : Option Addr, (∃ n86 : Nat, (∃ n87 : Nat, (((w82.cell? a84) = (some (Value.slice o85 n86 n87))) ∧
(∃ s88 : ByteArray, (((w82.cell? (⟨(hs w), 0, none⟩ : Addr)) = (some (Value.string s88))) ∧
(∃ x89 : Int, (((w82.cell? (⟨(hs w), 1, none⟩ : Addr)) = (some (Value.int IntKind.i64 x89))) ∧
(∃ o90 : Option Addr, (∃ n91 : Nat, (∃ n92 : Nat, (((w82.cell? (⟨(hs w), 2, none⟩ : Addr)) = (some (Value.slice o90 n91 n92))) ∧
(Calls Try.prog 85 #[(Value.agg #[(Value.string s88), (Value.int IntKind.i64 x89), (Value.slice o90 n91 n92)])] w82 (fun (e93 : Ending) => (fun (w94 : World) => (∃ s95 : ByteArray, (∃ x96 : Int, (∃ o97 : Option Addr, (∃ n98 : Nat, (∃ n99 : Nat, ((e93 = (Ending.returned (Value.agg #[(Value.string s95), (Value.int IntKind.i64 x96), (Value.slice o97 n98 n99)]))) ∧
((Nf.Kept w82 w94 a84 1) ∧
(∃ a100 : Addr, ((o85 = (some a100)) ∧
((((0 : Int) ≤ x29) ∧
(x29 < ((n86 : Nat) : Int))) ∧
((Nf.There w94 (Addr.add a100 ((x29).toNat * 3)) 3) ∧
(∀ w101 : World, ((w101 = (Nf.setCells w94 (Addr.add a100 ((x29).toNat * 3)) [(Value.string s95), (Value.int IntKind.i64 x96), (Value.slice o97 n98 n99)] 0)) →
(R (Ending.returned (Value.int IntKind.i64 0)) w101)))))))))))))))))))))))))))))))))))))))))))))))))))))))))))))))))))))))))))))))))))))))))))))))))) ∧
(((decide (x36 ≥ 0)) = false) →
(∃ a104 : Addr, ((b = (some a104)) ∧
(∃ o105 : Option Addr, (∃ n106 : Nat, (∃ n107 : Nat, (((w37.cell? a104) = (some (Value.slice o105 n106 n107))) ∧
((((decide (((n106 : Nat) : Int) ≥ 100)) = true) →
(R (Ending.returned (Value.int IntKind.i64 3)) w37)) ∧
(((decide (((n106 : Nat) : Int) ≥ 100)) = false) →
(∃ a110 : Addr, ((b = (some a110)) ∧
(∃ o111 : Option Addr, (∃ n112 : Nat, (∃ n113 : Nat, (((w37.cell? a110) = (some (Value.slice o111 n112 n113))) ∧
(∀ w114 : World, ((w114 = (w37.alloc (Obj.cells #[(Value.string (ByteArray.mk #[])), (Value.int IntKind.i64 0), (Value.slice none 0 0)] 24 (0, 0)))) →
(RunOk Try.prog (Nf.Hold (Builtin.append_ #[71, 71] 71 #[(Value.slice o111 n112 n113), (Value.slice (some (⟨(hs w37), 0, none⟩ : Addr)) 1 1)])) w114 (fun (v116 : Value) => (fun (w117 : World) => (∃ o118 : Option Addr, (∃ n119 : Nat, (∃ n120 : Nat, ((v116 = (Value.slice o118 n119 n120)) ∧
(∃ a121 : Addr, ((b = (some a121)) ∧
((Nf.There w117 a121 1) ∧
(∀ w122 : World, ((w122 = (Nf.setCells w117 a121 [(Value.slice o118 n119 n120)] 0)) →
(∀ w124 : World, ((w124 = w122.drew) →
(∃ a126 : Addr, ((b = (some a126)) ∧
(∃ o127 : Option Addr, (∃ n128 : Nat, (∃ n129 : Nat, (((w124.cell? a126) = (some (Value.slice o127 n128 n129))) ∧
((((0 : Int) ≤ (IntKind.wrap IntKind.i64 (x29 + 1))) ∧
((IntKind.wrap IntKind.i64 (x29 + 1)) ≤ ((n128 : Nat) : Int))) ∧
(∃ a130 : Addr, ((b = (some a130)) ∧
(∃ o131 : Option Addr, (∃ n132 : Nat, (∃ n133 : Nat, (((w124.cell? a130) = (some (Value.slice o131 n132 n133))) ∧
((((0 : Int) ≤ x29) ∧
(x29 ≤ ((n132 : Nat) : Int))) ∧
(RunOk Try.prog (Nf.Hold (Builtin.copy_ #[71, 71] 3 #[(Value.slice (if (n129 = ((IntKind.wrap IntKind.i64 (x29 + 1))).toNat) then o127 else (Option.map (fun (x : Addr) => (Addr.add x (((IntKind.wrap IntKind.i64 (x29 + 1))).toNat * 3))) o127)) (n128 - ((IntKind.wrap IntKind.i64 (x29 + 1))).toNat) (n129 - ((IntKind.wrap IntKind.i64 (x29 + 1))).toNat)), (Value.slice (if (n133 = (x29).toNat) then o131 else (Option.map (fun (x : Addr) => (Addr.add x ((x29).toNat * 3))) o131)) (n132 - (x29).toNat) (n133 - (x29).toNat))])) w124 (fun (v134 : Value) => (fun (w135 : World) => (∃ x136 : Int, ((v134 = (Value.int IntKind.i64 x136)) ∧
(∀ w137 : World, ((w137 = w135.drew) →
(∃ a139 : Addr, ((b = (some a139)) ∧
(∃ o140 : Option Addr, (∃ n141 : Nat, (∃ n142 : Nat, (((w137.cell? a139) = (some (Value.slice o140 n141 n142))) ∧
(∃ s143 : ByteArray, (((w137.cell? (⟨(hs w), 0, none⟩ : Addr)) = (some (Value.string s143))) ∧
(∃ x144 : Int, (((w137.cell? (⟨(hs w), 1, none⟩ : Addr)) = (some (Value.int IntKind.i64 x144))) ∧
(∃ o145 : Option Addr, (∃ n146 : Nat, (∃ n147 : Nat, (((w137.cell? (⟨(hs w), 2, none⟩ : Addr)) = (some (Value.slice o145 n146 n147))) ∧
(Calls Try.prog 85 #[(Value.agg #[(Value.string s143), (Value.int IntKind.i64 x144), (Value.slice o145 n146 n147)])] w137 (fun (e148 : Ending) => (fun (w149 : World) => (∃ s150 : ByteArray, (∃ x151 : Int, (∃ o152 : Option Addr, (∃ n153 : Nat, (∃ n154 : Nat, ((e148 = (Ending.returned (Value.agg #[(Value.string s150), (Value.int IntKind.i64 x151), (Value.slice o152 n153 n154)]))) ∧
((Nf.Kept w137 w149 a139 1) ∧
(∃ a155 : Addr, ((o140 = (some a155)) ∧
((((0 : Int) ≤ x29) ∧
(x29 < ((n141 : Nat) : Int))) ∧
((Nf.There w149 (Addr.add a155 ((x29).toNat * 3)) 3) ∧
(∀ w156 : World, ((w156 = (Nf.setCells w149 (Addr.add a155 ((x29).toNat * 3)) [(Value.string s150), (Value.int IntKind.i64 x151), (Value.slice o152 n153 n154)] 0)) →
(R (Ending.returned (Value.int IntKind.i64 0)) w156)))))))))))))))))))))))))))))))))))))))))))))))))))))))))))))))))))))))))))))))))))))))))))))))))))))))))))))))))))))))))))))))))))))))))))) :
    Calls Try.prog 42 #[(.pointer b), (.agg #[(.string t_Name), (.int .i64 t_Version), (.slice t_Questions t_Questions_n t_Questions_c)])] w R :=
  calls_of_vc an42 Try.func42 rfl (by kernel_rfl) (by kernel_rfl) (Eq.mp (by kernel_rfl) h)

/-- samaritan/samaritanlaw15.wakes -/
def an39 : An := (.seq (.reg []) (.seq (.reg []) (.seq (.seq (.reg [(1, 3, true), (6, 0, true)]) (.cond (.seq (.reg []) .nil) .nil)) (.seq (.reg []) (.seq (.reg []) (.seq (.reg [(4, 0, true)]) (.seq (.reg [(4, 0, true)]) (.seq (.reg []) (.seq (.reg [(1, 0, true)]) (.seq (.reg [(1, 0, true), (4, 0, true), (9, 0, true), (17, 0, true), (24, 0, true), (32, 0, true)]) .nil))))))))))
set_option maxRecDepth 100000 in
theorem nf39  (w : World) (R : Ending → World → Prop) (h :
(Calls Try.prog 41 #[] w (fun (e1 : Ending) => (fun (w2 : World) => (∃ o3 : Option Addr, ((e1 = (Ending.returned (Value.pointer o3))) ∧
((((Option.isNone o3) = true) →
(R (Ending.returned (Value.bool false)) w2)) ∧
(((Option.isNone o3) = false) →
(Calls Try.prog 43 #[(Value.string (ByteArray.mk #[(109 : UInt8), (97 : UInt8), (105 : UInt8), (110 : UInt8)])), (Value.int IntKind.i64 1)] w2 (fun (e6 : Ending) => (fun (w7 : World) => (∃ s8 : ByteArray, (∃ x9 : Int, (∃ o10 : Option Addr, (∃ n11 : Nat, (∃ n12 : Nat, ((e6 = (Ending.returned (Value.agg #[(Value.string s8), (Value.int IntKind.i64 x9), (Value.slice o10 n11 n12)]))) ∧
(Calls Try.prog 42 #[(Value.pointer o3), (Value.agg #[(Value.string s8), (Value.int IntKind.i64 x9), (Value.slice o10 n11 n12)])] w7 (fun (e13 : Ending) => (fun (w14 : World) => (∃ x15 : Int, ((e13 = (Ending.returned (Value.int IntKind.i64 x15))) ∧
((((!(decide (x15 = 0))) = true) →
(R (Ending.returned (Value.bool false)) w14)) ∧
(((!(decide (x15 = 0))) = false) →
(Calls Try.prog 44 #[(Value.pointer o3), (Value.int IntKind.i64 7), (Value.string (ByteArray.mk #[(109 : UInt8), (97 : UInt8), (105 : UInt8), (110 : UInt8)]))] w14 (fun (e18 : Ending) => (fun (w19 : World) => (∃ x20 : Int, (∃ x21 : Int, ((e18 = (Ending.returned (Value.tuple #[(Value.int IntKind.i64 x20), (Value.int IntKind.i64 x21)]))) ∧
(Calls Try.prog 43 #[(Value.string (ByteArray.mk #[(109 : UInt8), (97 : UInt8), (105 : UInt8), (110 : UInt8)])), (Value.int IntKind.i64 2)] w19 (fun (e22 : Ending) => (fun (w23 : World) => (∃ s24 : ByteArray, (∃ x25 : Int, (∃ o26 : Option Addr, (∃ n27 : Nat, (∃ n28 : Nat, ((e22 = (Ending.returned (Value.agg #[(Value.string s24), (Value.int IntKind.i64 x25), (Value.slice o26 n27 n28)]))) ∧
(Calls Try.prog 42 #[(Value.pointer o3), (Value.agg #[(Value.string s24), (Value.int IntKind.i64 x25), (Value.slice o26 n27 n28)])] w23 (fun (e29 : Ending) => (fun (w30 : World) => (∃ x31 : Int, ((e29 = (Ending.returned (Value.int IntKind.i64 x31))) ∧
(Calls Try.prog 46 #[(Value.pointer o3), (Value.int IntKind.i64 7)] w30 (fun (e32 : Ending) => (fun (w33 : World) => (∃ s34 : ByteArray, (∃ x35 : Int, (∃ o36 : Option Addr, (∃ n37 : Nat, (∃ n38 : Nat, (∃ b39 : Bool, ((e32 = (Ending.returned (Value.tuple #[(Value.agg #[(Value.string s34), (Value.int IntKind.i64 x35), (Value.slice o36 n37 n38)]), (Value.bool b39)]))) ∧
(((b39 = true) →
(∀ w41 : World, ((w41 = (w33.alloc (Obj.cells #[(Value.string (ByteArray.mk #[])), (Value.int IntKind.i64 0), (Value.slice none 0 0)] 24 (0, 0)))) →
((Nf.There w41 (⟨(hs w33), 0, none⟩ : Addr) 3) ∧
(∀ w43 : World, ((w43 = (Nf.setCells w41 (⟨(hs w33), 0, none⟩ : Addr) [(Value.string s34), (Value.int IntKind.i64 x35), (Value.slice o36 n37 n38)] 0)) →
(Calls Try.prog 50 #[(Value.pointer o3), (Value.string (ByteArray.mk #[(109 : UInt8), (97 : UInt8), (105 : UInt8), (110 : UInt8)]))] w43 (fun (e45 : Ending) => (fun (w46 : World) => (∃ s47 : ByteArray, (∃ x48 : Int, (∃ o49 : Option Addr, (∃ n50 : Nat, (∃ n51 : Nat, (∃ b52 : Bool, ((e45 = (Ending.returned (Value.tuple #[(Value.agg #[(Value.string s47), (Value.int IntKind.i64 x48), (Value.slice o49 n50 n51)]), (Value.bool b52)]))) ∧
(((b52 = true) →
(∀ w54 : World, ((w54 = (w46.alloc (Obj.cells #[(Value.string (ByteArray.mk #[])), (Value.int IntKind.i64 0), (Value.slice none 0 0)] 24 (0, 0)))) →
((Nf.There w54 (⟨(hs w46), 0, none⟩ : Addr) 3) ∧
(∀ w56 : World, ((w56 = (Nf.setCells w54 (⟨(hs w46), 0, none⟩ : Addr) [(Value.string s47), (Value.int IntKind.i64 x48), (Value.slice o49 n50 n51)] 0)) →
(Calls Try.prog 53 #[(Value.pointer o3), (Value.string (ByteArray.mk #[(109 : UInt8), (97 : UInt8), (105 : UInt8), (110 : UInt8)])), (Value.int IntKind.i64 1)] w56 (fun (e58 : Ending) => (fun (w59 : World) => (∃ x60 : Int, ((e58 = (Ending.returned (Value.int IntKind.i64 x60))) ∧
(Calls Try.prog 47 #[(Value.pointer o3), (Value.int IntKind.i64 7)] w59 (fun (e61 : Ending) => (fun (w62 : World) => (∃ b63 : Bool, ((e61 = (Ending.returned (Value.bool b63))) ∧
(((b63 = true) →
((((decide (x20 = 1)) = true) →
((((decide (x21 = 0)) = true) →
(∃ x67 : Int, (((w62.cell? (⟨(hs w33), 1, none⟩ : Addr)) = (some (Value.int IntKind.i64 x67))) ∧
((((decide (x67 = 1)) = true) →
(∃ x69 : Int, (((w62.cell? (⟨(hs w46), 1, none⟩ : Addr)) = (some (Value.int IntKind.i64 x69))) ∧
((((decide (x69 = 2)) = true) →
((((decide (x60 = 10)) = true) →
(Calls Try.prog 53 #[(Value.pointer o3), (Value.string (ByteArray.mk #[(109 : UInt8), (97 : UInt8), (105 : UInt8), (110 : UInt8)])), (Value.int IntKind.i64 1)] w62 (fun (e72 : Ending) => (fun (w73 : World) => (∃ x74 : Int, ((e72 = (Ending.returned (Value.int IntKind.i64 x74))) ∧
((((decide (x74 = 0)) = true) →
(R (Ending.returned (Value.bool true)) w73)) ∧
(((decide (x74 = 0)) = false) →
(R (Ending.returned (Value.bool false)) w73))))))))) ∧
(((decide (x60 = 10)) = false) →
(R (Ending.returned (Value.bool false)) w62)))) ∧
(((decide (x69 = 2)) = false) →
(R (Ending.returned (Value.bool false)) w62)))))) ∧
(((decide (x67 = 1)) = false) →
(R (Ending.returned (Value.bool false)) w62)))))) ∧
(((decide (x21 = 0)) = false) →
(R (Ending.returned (Value.bool false)) w62)))) ∧
(((decide (x20 = 1)) = false) →
(R (Ending.returned (Value.bool false)) w62)))) ∧
((b63 = false) →
((((decide (x20 = 1)) = true) →
((((decide (x21 = 0)) = true) →
(∃ x85 : Int, (((w62.cell? (⟨(hs w33), 1, none⟩ : Addr)) = (some (Value.int IntKind.i64 x85))) ∧
((((decide (x85 = 1)) = true) →
(∃ x87 : Int, (((w62.cell? (⟨(hs w46), 1, none⟩ : Addr)) = (some (Value.int IntKind.i64 x87))) ∧
((((decide (x87 = 2)) = true) →
((((decide (x60 = 10)) = true) →
(R (Ending.returned (Value.bool false)) w62)) ∧
(((decide (x60 = 10)) = false) →
(R (Ending.returned (Value.bool false)) w62)))) ∧
(((decide (x87 = 2)) = false) →
(R (Ending.returned (Value.bool false)) w62)))))) ∧
(((decide (x85 = 1)) = false) →
(R (Ending.returned (Value.bool false)) w62)))))) ∧
(((decide (x21 = 0)) = false) →
(R (Ending.returned (Value.bool false)) w62)))) ∧
(((decide (x20 = 1)) = false) →
(R (Ending.returned (Value.bool false)) w62))))))))))))))))))))) ∧
((b52 = false) →
(∀ w96 : World, ((w96 = (w46.alloc (Obj.cells #[(Value.string (ByteArray.mk #[])), (Value.int IntKind.i64 0), (Value.slice none 0 0)] 24 (0, 0)))) →
((Nf.There w96 (⟨(hs w46), 0, none⟩ : Addr) 3) ∧
(∀ w98 : World, ((w98 = (Nf.setCells w96 (⟨(hs w46), 0, none⟩ : Addr) [(Value.string s47), (Value.int IntKind.i64 x48), (Value.slice o49 n50 n51)] 0)) →
(Calls Try.prog 53 #[(Value.pointer o3), (Value.string (ByteArray.mk #[(109 : UInt8), (97 : UInt8), (105 : UInt8), (110 : UInt8)])), (Value.int IntKind.i64 1)] w98 (fun (e100 : Ending) => (fun (w101 : World) => (∃ x102 : Int, ((e100 = (Ending.returned (Value.int IntKind.i64 x102))) ∧
(Calls Try.prog 47 #[(Value.pointer o3), (Value.int IntKind.i64 7)] w101 (fun (e103 : Ending) => (fun (w104 : World) => (∃ b105 : Bool, ((e103 = (Ending.returned (Value.bool b105))) ∧
(((b105 = true) →
((((decide (x20 = 1)) = true) →
((((decide (x21 = 0)) = true) →
(∃ x109 : Int, (((w104.cell? (⟨(hs w33), 1, none⟩ : Addr)) = (some (Value.int IntKind.i64 x109))) ∧
((((decide (x109 = 1)) = true) →
(∃ x111 : Int, (((w104.cell? (⟨(hs w46), 1, none⟩ : Addr)) = (some (Value.int IntKind.i64 x111))) ∧
((((decide (x111 = 2)) = true) →
(R (Ending.returned (Value.bool false)) w104)) ∧
(((decide (x111 = 2)) = false) →
(R (Ending.returned (Value.bool false)) w104)))))) ∧
(((decide (x109 = 1)) = false) →
(R (Ending.returned (Value.bool false)) w104)))))) ∧
(((decide (x21 = 0)) = false) →
(R (Ending.returned (Value.bool false)) w104)))) ∧
(((decide (x20 = 1)) = false) →
(R (Ending.returned (Value.bool false)) w104)))) ∧
((b105 = false) →
((((decide (x20 = 1)) = true) →
((((decide (x21 = 0)) = true) →
(∃ x120 : Int, (((w104.cell? (⟨(hs w33), 1, none⟩ : Addr)) = (some (Value.int IntKind.i64 x120))) ∧
((((decide (x120 = 1)) = true) →
(∃ x122 : Int, (((w104.cell? (⟨(hs w46), 1, none⟩ : Addr)) = (some (Value.int IntKind.i64 x122))) ∧
((((decide (x122 = 2)) = true) →
(R (Ending.returned (Value.bool false)) w104)) ∧
(((decide (x122 = 2)) = false) →
(R (Ending.returned (Value.bool false)) w104)))))) ∧
(((decide (x120 = 1)) = false) →
(R (Ending.returned (Value.bool false)) w104)))))) ∧
(((decide (x21 = 0)) = false) →
(R (Ending.returned (Value.bool false)) w104)))) ∧
(((decide (x20 = 1)) = false) →
(R (Ending.returned (Value.bool false)) w104)))))))))))))))))))))))))))))))))))))) ∧
((b39 = false) →
(∀ w129 : World, ((w129 = (w33.alloc (Obj.cells #[(Value.string (ByteArray.mk #[])), (Value.int IntKind.i64 0), (Value.slice none 0 0)] 24 (0, 0)))) →
((Nf.There w129 (⟨(hs w33), 0, none⟩ : Addr) 3) ∧
(∀ w131 : World, ((w131 = (Nf.setCells w129 (⟨(hs w33), 0, none⟩ : Addr) [(Value.string s34), (Value.int IntKind.i64 x35), (Value.slice o36 n37 n38)] 0)) →
(Calls Try.prog 50 #[(Value.pointer o3), (Value.string (ByteArray.mk #[(109 : UInt8), (97 : UInt8), (105 : UInt8), (110 : UInt8)]))] w131 (fun (e133 : Ending) => (fun (w134 : World) => (∃ s135 : ByteArray, (∃ x136 : Int, (∃ o137 : Option Addr, (∃ n138 : Nat, (∃ n139 : Nat, (∃ b140 : Bool, ((e133 = (Ending.returned (Value.tuple #[(Value.agg #[(Value.string s135), (Value.int IntKind.i64 x136), (Value.slice o137 n138 n139)]), (Value.bool b140)]))) ∧
(((b140 = true) →
(∀ w142 : World, ((w142 = (w134.alloc (Obj.cells #[(Value.string (ByteArray.mk #[])), (Value.int IntKind.i64 0), (Value.slice none 0 0)] 24 (0, 0)))) →
((Nf.There w142 (⟨(hs w134), 0, none⟩ : Addr) 3) ∧
(∀ w144 : World, ((w144 = (Nf.setCells w142 (⟨(hs w134), 0, none⟩ : Addr) [(Value.string s135), (Value.int IntKind.i64 x136), (Value.slice o137 n138 n139)] 0)) →
(Calls Try.prog 53 #[(Value.pointer o3), (Value.string (ByteArray.mk #[(109 : UInt8), (97 : UInt8), (105 : UInt8), (110 : UInt8)])), (Value.int IntKind.i64 1)] w144 (fun (e146 : Ending) => (fun (w147 : World) => (∃ x148 : Int, ((e146 = (Ending.returned (Value.int IntKind.i64 x148))) ∧
(Calls Try.prog 47 #[(Value.pointer o3), (Value.int IntKind.i64 7)] w147 (fun (e149 : Ending) => (fun (w150 : World) => (∃ b151 : Bool, ((e149 = (Ending.returned (Value.bool b151))) ∧
(((b151 = true) →
((((decide (x20 = 1)) = true) →
((((decide (x21 = 0)) = true) →
(∃ x155 : Int, (((w150.cell? (⟨(hs w33), 1, none⟩ : Addr)) = (some (Value.int IntKind.i64 x155))) ∧
((((decide (x155 = 1)) = true) →
(R (Ending.returned (Value.bool false)) w150)) ∧
(((decide (x155 = 1)) = false) →
(R (Ending.returned (Value.bool false)) w150)))))) ∧
(((decide (x21 = 0)) = false) →
(R (Ending.returned (Value.bool false)) w150)))) ∧
(((decide (x20 = 1)) = false) →
(R (Ending.returned (Value.bool false)) w150)))) ∧
((b151 = false) →
((((decide (x20 = 1)) = true) →
((((decide (x21 = 0)) = true) →
(∃ x163 : Int, (((w150.cell? (⟨(hs w33), 1, none⟩ : Addr)) = (some (Value.int IntKind.i64 x163))) ∧
((((decide (x163 = 1)) = true) →
(R (Ending.returned (Value.bool false)) w150)) ∧
(((decide (x163 = 1)) = false) →
(R (Ending.returned (Value.bool false)) w150)))))) ∧
(((decide (x21 = 0)) = false) →
(R (Ending.returned (Value.bool false)) w150)))) ∧
(((decide (x20 = 1)) = false) →
(R (Ending.returned (Value.bool false)) w150))))))))))))))))))))) ∧
((b140 = false) →
(∀ w169 : World, ((w169 = (w134.alloc (Obj.cells #[(Value.string (ByteArray.mk #[])), (Value.int IntKind.i64 0), (Value.slice none 0 0)] 24 (0, 0)))) →
((Nf.There w169 (⟨(hs w134), 0, none⟩ : Addr) 3) ∧
(∀ w171 : World, ((w171 = (Nf.setCells w169 (⟨(hs w134), 0, none⟩ : Addr) [(Value.string s135), (Value.int IntKind.i64 x136), (Value.slice o137 n138 n139)] 0)) →
(Calls Try.prog 53 #[(Value.pointer o3), (Value.string (ByteArray.mk #[(109 : UInt8), (97 : UInt8), (105 : UInt8), (110 : UInt8)])), (Value.int IntKind.i64 1)] w171 (fun (e173 : Ending) => (fun (w174 : World) => (∃ x175 : Int, ((e173 = (Ending.returned (Value.int IntKind.i64 x175))) ∧
(Calls Try.prog 47 #[(Value.pointer o3), (Value.int IntKind.i64 7)] w174 (fun (e176 : Ending) => (fun (w177 : World) => (∃ b178 : Bool, ((e176 = (Ending.returned (Value.bool b178))) ∧
(((b178 = true) →
((((decide (x20 = 1)) = true) →
((((decide (x21 = 0)) = true) →
(∃ x182 : Int, (((w177.cell? (⟨(hs w33), 1, none⟩ : Addr)) = (some (Value.int IntKind.i64 x182))) ∧
((((decide (x182 = 1)) = true) →
(R (Ending.returned (Value.bool false)) w177)) ∧
(((decide (x182 = 1)) = false) →
(R (Ending.returned (Value.bool false)) w177)))))) ∧
(((decide (x21 = 0)) = false) →
(R (Ending.returned (Value.bool false)) w177)))) ∧
(((decide (x20 = 1)) = false) →
(R (Ending.returned (Value.bool false)) w177)))) ∧
((b178 = false) →
((((decide (x20 = 1)) = true) →
((((decide (x21 = 0)) = true) →
(∃ x190 : Int, (((w177.cell? (⟨(hs w33), 1, none⟩ : Addr)) = (some (Value.int IntKind.i64 x190))) ∧
((((decide (x190 = 1)) = true) →
(R (Ending.returned (Value.bool false)) w177)) ∧
(((decide (x190 = 1)) = false) →
(R (Ending.returned (Value.bool false)) w177)))))) ∧
(((decide (x21 = 0)) = false) →
(R (Ending.returned (Value.bool false)) w177)))) ∧
(((decide (x20 = 1)) = false) →
(R (Ending.returned (Value.bool false)) w177))))))))))))))))))))))))))))))))))))))))))))))))))))))))))))))))))))))))))))))))))))))))))))) :
    Calls Try.prog 39 #[] w R :=
  calls_of_vc an39 Try.func39 rfl (by kernel_rfl) (by kernel_rfl) (Eq.mp (by kernel_rfl) h)

/-- (*samaritan/protocolstore.Store).newest -/
def an84 : An := (.seq (.reg []) (.seq (.reg [(1, 2, false)]) (.seq (.seq (.regD [(1, 0, true), (4, 2, false), (12, 3, true)] [0, 1, 2, 3, 4, 5, 6, 7, 8, 9, 10, 11, 12, 13] []) (.cond (.seq (.reg []) .nil) .nil)) (.seq (.reg []) .nil))))
set_option maxRecDepth 100000 in
theorem nf84 (b : Option Addr) (name : ByteArray) (w : World) (R : Ending → World → Prop) (h :
(∀ w1 : World, ((w1 = (w.alloc (Obj.cells #[(Value.pointer b)] 64 (0, 0)))) →
(∀ w3 : World, ((w3 = (w1.alloc (Obj.cells #[(Value.string name)] 9 (0, 0)))) →
(∃ o5 : Option Addr, (((w3.cell? (⟨(hs w), 0, none⟩ : Addr)) = (some (Value.pointer o5))) ∧
(∃ a6 : Addr, ((o5 = (some a6)) ∧
(∃ o7 : Option Addr, (∃ n8 : Nat, (∃ n9 : Nat, (((w3.cell? a6) = (some (Value.slice o7 n8 n9))) ∧
(Calls Try.prog 114 #[(Value.int IntKind.i64 ((n8 : Nat) : Int)), (Value.func (Fn.func 116) #[] #[(Value.pointer (some (⟨(hs w), 0, none⟩ : Addr))), (Value.pointer (some (⟨(hs w1), 0, none⟩ : Addr)))])] w3 (fun (e10 : Ending) => (fun (w11 : World) => (∃ x12 : Int, ((e10 = (Ending.returned (Value.int IntKind.i64 x12))) ∧
(∀ w13 : World, ((w13 = w11.drew) →
((((decide ((IntKind.wrap IntKind.i64 (x12 - 1)) < 0)) = true) →
(R (Ending.returned (Value.int IntKind.i64 (-1))) w13)) ∧
(((decide ((IntKind.wrap IntKind.i64 (x12 - 1)) < 0)) = false) →
(∃ o17 : Option Addr, (((w13.cell? (⟨(hs w), 0, none⟩ : Addr)) = (some (Value.pointer o17))) ∧
(∃ a18 : Addr, ((o17 = (some a18)) ∧
(∃ o19 : Option Addr, (∃ n20 : Nat, (∃ n21 : Nat, (((w13.cell? a18) = (some (Value.slice o19 n20 n21))) ∧
(∃ a22 : Addr, ((o19 = (some a22)) ∧
((((0 : Int) ≤ (IntKind.wrap IntKind.i64 (x12 - 1))) ∧
((IntKind.wrap IntKind.i64 (x12 - 1)) < ((n20 : Nat) : Int))) ∧
(∃ s23 : ByteArray, (((w13.cell? (Addr.add a22 (((IntKind.wrap IntKind.i64 (x12 - 1))).toNat * 3))) = (some (Value.string s23))) ∧
(∃ s24 : ByteArray, (((w13.cell? (⟨(hs w1), 0, none⟩ : Addr)) = (some (Value.string s24))) ∧
((((!(Nf.strEq s23 s24)) = true) →
(R (Ending.returned (Value.int IntKind.i64 (-1))) w13)) ∧
(((!(Nf.strEq s23 s24)) = false) →
(R (Ending.returned (Value.int IntKind.i64 (IntKind.wrap IntKind.i64 (x12 - 1)))) w13)))))))))))))))))))))))))))))))))))))))) :
    Calls Try.prog 84 #[(.pointer b), (.string name)] w R :=
  calls_of_vc an84 Try.func84 rfl (by kernel_rfl) (by kernel_rfl) (Eq.mp (by kernel_rfl) h)

/-- (*samaritan/protocolstore.Store).find -/
def an83 : An := (.seq (.reg []) (.seq (.reg [(1, 2, false)]) (.cut [(9, .bool)] (.regD [(2, 2, false), (6, 0, true), (9, 2, false), (17, 3, true), (21, 2, false), (29, 0, true)] [0, 1, 2, 3, 4, 5, 6, 7, 8, 9, 10, 11, 12, 13, 14, 15, 16, 17, 18, 19, 20, 21, 22, 23, 24, 25, 26, 27, 28, 29, 30, 31] []) (.seq (.reg [(1, 0, true)]) .nil))))
set_option maxRecDepth 100000 in
theorem nf83 (b : Option Addr) (name : ByteArray) (version : Int) (w : World) (R : Ending → World → Prop) (h :
(∀ w1 : World, ((w1 = (w.alloc (Obj.cells #[(Value.pointer b)] 64 (0, 0)))) →
(∀ w3 : World, ((w3 = (w1.alloc (Obj.cells #[(Value.string name)] 9 (0, 0)))) →
(∀ w5 : World, ((w5 = (w3.alloc (Obj.cells #[(Value.int IntKind.i64 version)] 3 (0, 0)))) →
(∃ o7 : Option Addr, (((w5.cell? (⟨(hs w), 0, none⟩ : Addr)) = (some (Value.pointer o7))) ∧
(∃ a8 : Addr, ((o7 = (some a8)) ∧
(∃ o9 : Option Addr, (∃ n10 : Nat, (∃ n11 : Nat, (((w5.cell? a8) = (some (Value.slice o9 n10 n11))) ∧
(Calls Try.prog 114 #[(Value.int IntKind.i64 ((n10 : Nat) : Int)), (Value.func (Fn.func 115) #[] #[(Value.pointer (some (⟨(hs w), 0, none⟩ : Addr))), (Value.pointer (some (⟨(hs w1), 0, none⟩ : Addr))), (Value.pointer (some (⟨(hs w3), 0, none⟩ : Addr)))])] w5 (fun (e12 : Ending) => (fun (w13 : World) => (∃ x14 : Int, ((e12 = (Ending.returned (Value.int IntKind.i64 x14))) ∧
(∀ k15 : (Bool → (World → Prop)), ((∀ w17 : World, (∀ b18 : Bool, (((Nat → Value) →
(((b18 = true) →
(R (Ending.returned (Value.tuple #[(Value.int IntKind.i64 x14), (Value.bool true)])) w17)) ∧
((b18 = false) →
(R (Ending.returned (Value.tuple #[(Value.int IntKind.i64 x14), (Value.bool false)])) w17)))) →
(k15 b18 w17)))) →
(∀ w23 : World, ((w23 = w13.drew) →
(∃ o25 : Option Addr, (((w23.cell? (⟨(hs w), 0, none⟩ : Addr)) = (some (Value.pointer o25))) ∧
(∃ a26 : Addr, ((o25 = (some a26)) ∧
(∃ o27 : Option Addr, (∃ n28 : Nat, (∃ n29 : Nat, (((w23.cell? a26) = (some (Value.slice o27 n28 n29))) ∧
((((decide (x14 < ((n28 : Nat) : Int))) = true) →
(∃ o31 : Option Addr, (((w23.cell? (⟨(hs w), 0, none⟩ : Addr)) = (some (Value.pointer o31))) ∧
(∃ a32 : Addr, ((o31 = (some a32)) ∧
(∃ o33 : Option Addr, (∃ n34 : Nat, (∃ n35 : Nat, (((w23.cell? a32) = (some (Value.slice o33 n34 n35))) ∧
(∃ a36 : Addr, ((o33 = (some a36)) ∧
((((0 : Int) ≤ x14) ∧
(x14 < ((n34 : Nat) : Int))) ∧
(∃ s37 : ByteArray, (((w23.cell? (Addr.add a36 ((x14).toNat * 3))) = (some (Value.string s37))) ∧
(∃ s38 : ByteArray, (((w23.cell? (⟨(hs w1), 0, none⟩ : Addr)) = (some (Value.string s38))) ∧
((((Nf.strEq s37 s38) = true) →
(∃ o40 : Option Addr, (((w23.cell? (⟨(hs w), 0, none⟩ : Addr)) = (some (Value.pointer o40))) ∧
(∃ a41 : Addr, ((o40 = (some a41)) ∧
(∃ o42 : Option Addr, (∃ n43 : Nat, (∃ n44 : Nat, (((w23.cell? a41) = (some (Value.slice o42 n43 n44))) ∧
(∃ a45 : Addr, ((o42 = (some a45)) ∧
((((0 : Int) ≤ x14) ∧
(x14 < ((n43 : Nat) : Int))) ∧
(∃ x46 : Int, (((w23.cell? (Addr.add (Addr.add a45 ((x14).toNat * 3)) 1)) = (some (Value.int IntKind.i64 x46))) ∧
(∃ x47 : Int, (((w23.cell? (⟨(hs w3), 0, none⟩ : Addr)) = (some (Value.int IntKind.i64 x47))) ∧
((((decide (x46 = x47)) = true) →
(k15 true w23)) ∧
(((decide (x46 = x47)) = false) →
(k15 false w23))))))))))))))))))) ∧
(((Nf.strEq s37 s38) = false) →
(k15 false w23))))))))))))))))))) ∧
(((decide (x14 < ((n28 : Nat) : Int))) = false) →
(k15 false w23))))))))))))))))))))))))))))))))))) :
    Calls Try.prog 83 #[(.pointer b), (.string name), (.int .i64 version)] w R :=
  calls_of_vc an83 Try.func83 rfl (by kernel_rfl) (by kernel_rfl) (Eq.mp (by kernel_rfl) h)

/-- samaritan/samaritanref15.Put -/
def an86 : An := (.seq (.reg []) (.seq (.reg []) (.seq (.seq (.reg [(1, 0, true)]) (.cond (.seq (.reg []) .nil) .nil)) (.seq (.reg []) (.seq (.seq (.reg [(1, 0, true)]) (.cond (.seq (.reg []) .nil) .nil)) (.seq (.reg [(8, 0, true)]) (.seq (.seq (.reg []) (.cond (.seq (.reg []) .nil) .nil)) (.seq (.reg [(6, 0, true)]) (.seq (.seq (.reg [(6, 0, true)]) (.cond (.seq (.reg []) .nil) .nil)) (.seq (.seq (.reg [(3, 0, true)]) (.cond (.seq (.reg []) .nil) .nil)) (.seq (.regE [(3, 1, false), (6, 1, false)] (.take 1 (.take 2 (.take 4 (.eff (.alt (.one 0 (.eff (.alt (.one 3 (.eff (.one 5 (.eff (.one 6 (.take 7 (.eff (.one 8 .nil)))))))) (.one 5 (.eff (.one 3 (.eff (.one 6 (.take 7 (.eff (.one 8 .nil))))))))))) (.one 5 (.eff (.one 0 (.eff (.one 3 (.eff (.one 6 (.take 7 (.eff (.one 8 .nil))))))))))))))) [0, 3, 5, 6, 8]) (.seq (.reg []) .nil))))))))))))
set_option maxRecDepth 100000 in
theorem nf86 (b_L : Option Addr) (b_L_n : Nat) (b_L_c : Nat) (b_P : Option Addr) (b_P_n : Nat) (b_P_c : Nat) (t_Name : ByteArray) (t_Version : Int) (t_Questions : Option Addr) (t_Questions_n : Nat) (t_Questions_c : Nat) (w : World) (R : Ending → World → Prop) (h :
(∀ w1 : World, ((w1 = (w.alloc (Obj.cells #[(Value.slice b_L b_L_n b_L_c), (Value.slice b_P b_P_n b_P_c)] 74 (0, 0)))) →
(∀ w3 : World, ((w3 = (w1.alloc (Obj.cells #[(Value.string t_Name), (Value.int IntKind.i64 t_Version), (Value.slice t_Questions t_Questions_n t_Questions_c)] 24 (0, 0)))) →
(∀ w5 : World, ((w5 = (w3.alloc (Obj.cells #[(Value.slice none 0 0), (Value.slice none 0 0)] 74 (0, 0)))) →
(∃ s7 : ByteArray, (((w5.cell? (⟨(hs w1), 0, none⟩ : Addr)) = (some (Value.string s7))) ∧
(∃ x8 : Int, (((w5.cell? (⟨(hs w1), 1, none⟩ : Addr)) = (some (Value.int IntKind.i64 x8))) ∧
(∃ o9 : Option Addr, (∃ n10 : Nat, (∃ n11 : Nat, (((w5.cell? (⟨(hs w1), 2, none⟩ : Addr)) = (some (Value.slice o9 n10 n11))) ∧
(Calls Try.prog 51 #[(Value.agg #[(Value.string s7), (Value.int IntKind.i64 x8), (Value.slice o9 n10 n11)])] w5 (fun (e12 : Ending) => (fun (w13 : World) => (∃ x14 : Int, (∃ x15 : Int, ((e12 = (Ending.returned (Value.tuple #[(Value.int IntKind.i64 x14), (Value.int IntKind.i64 x15)]))) ∧
((((!(decide (x15 = 0))) = true) →
(∃ o17 : Option Addr, (∃ n18 : Nat, (∃ n19 : Nat, (((w13.cell? (⟨(hs w), 0, none⟩ : Addr)) = (some (Value.slice o17 n18 n19))) ∧
(∃ o20 : Option Addr, (∃ n21 : Nat, (∃ n22 : Nat, (((w13.cell? (⟨(hs w), 1, none⟩ : Addr)) = (some (Value.slice o20 n21 n22))) ∧
((Nf.There w13 (⟨(hs w3), 0, none⟩ : Addr) 2) ∧
(∀ w23 : World, ((w23 = (Nf.setCells w13 (⟨(hs w3), 0, none⟩ : Addr) [(Value.slice o17 n18 n19), (Value.slice o20 n21 n22)] 0)) →
(∃ o25 : Option Addr, (∃ n26 : Nat, (∃ n27 : Nat, (((w23.cell? (⟨(hs w3), 0, none⟩ : Addr)) = (some (Value.slice o25 n26 n27))) ∧
(∃ o28 : Option Addr, (∃ n29 : Nat, (∃ n30 : Nat, (((w23.cell? (⟨(hs w3), 1, none⟩ : Addr)) = (some (Value.slice o28 n29 n30))) ∧
(R (Ending.returned (Value.tuple #[(Value.agg #[(Value.slice o25 n26 n27), (Value.slice o28 n29 n30)]), (Value.int IntKind.i64 1)])) w23))))))))))))))))))))) ∧
(((!(decide (x15 = 0))) = false) →
(∃ s32 : ByteArray, (((w13.cell? (⟨(hs w1), 0, none⟩ : Addr)) = (some (Value.string s32))) ∧
(∃ x33 : Int, (((w13.cell? (⟨(hs w1), 1, none⟩ : Addr)) = (some (Value.int IntKind.i64 x33))) ∧
(∃ o34 : Option Addr, (∃ n35 : Nat, (∃ n36 : Nat, (((w13.cell? (⟨(hs w1), 2, none⟩ : Addr)) = (some (Value.slice o34 n35 n36))) ∧
(Calls Try.prog 31 #[(Value.agg #[(Value.string s32), (Value.int IntKind.i64 x33), (Value.slice o34 n35 n36)])] w13 (fun (e37 : Ending) => (fun (w38 : World) => (∃ x39 : Int, (∃ x40 : Int, ((e37 = (Ending.returned (Value.tuple #[(Value.int IntKind.i64 x39), (Value.int IntKind.i64 x40)]))) ∧
((((!(decide (x40 = 0))) = true) →
(∃ o42 : Option Addr, (∃ n43 : Nat, (∃ n44 : Nat, (((w38.cell? (⟨(hs w), 0, none⟩ : Addr)) = (some (Value.slice o42 n43 n44))) ∧
(∃ o45 : Option Addr, (∃ n46 : Nat, (∃ n47 : Nat, (((w38.cell? (⟨(hs w), 1, none⟩ : Addr)) = (some (Value.slice o45 n46 n47))) ∧
((Nf.There w38 (⟨(hs w3), 0, none⟩ : Addr) 2) ∧
(∀ w48 : World, ((w48 = (Nf.setCells w38 (⟨(hs w3), 0, none⟩ : Addr) [(Value.slice o42 n43 n44), (Value.slice o45 n46 n47)] 0)) →
(∃ o50 : Option Addr, (∃ n51 : Nat, (∃ n52 : Nat, (((w48.cell? (⟨(hs w3), 0, none⟩ : Addr)) = (some (Value.slice o50 n51 n52))) ∧
(∃ o53 : Option Addr, (∃ n54 : Nat, (∃ n55 : Nat, (((w48.cell? (⟨(hs w3), 1, none⟩ : Addr)) = (some (Value.slice o53 n54 n55))) ∧
(R (Ending.returned (Value.tuple #[(Value.agg #[(Value.slice o50 n51 n52), (Value.slice o53 n54 n55)]), (Value.int IntKind.i64 x40)])) w48))))))))))))))))))))) ∧
(((!(decide (x40 = 0))) = false) →
(∃ o57 : Option Addr, (∃ n58 : Nat, (∃ n59 : Nat, (((w38.cell? (⟨(hs w), 0, none⟩ : Addr)) = (some (Value.slice o57 n58 n59))) ∧
(∃ o60 : Option Addr, (∃ n61 : Nat, (∃ n62 : Nat, (((w38.cell? (⟨(hs w), 1, none⟩ : Addr)) = (some (Value.slice o60 n61 n62))) ∧
(∃ s63 : ByteArray, (((w38.cell? (⟨(hs w1), 0, none⟩ : Addr)) = (some (Value.string s63))) ∧
(∃ x64 : Int, (((w38.cell? (⟨(hs w1), 1, none⟩ : Addr)) = (some (Value.int IntKind.i64 x64))) ∧
(Calls Try.prog 109 #[(Value.agg #[(Value.slice o57 n58 n59), (Value.slice o60 n61 n62)]), (Value.string s63), (Value.int IntKind.i64 x64)] w38 (fun (e65 : Ending) => (fun (w66 : World) => (∃ s67 : ByteArray, (∃ x68 : Int, (∃ o69 : Option Addr, (∃ n70 : Nat, (∃ n71 : Nat, (∃ b72 : Bool, ((e65 = (Ending.returned (Value.tuple #[(Value.agg #[(Value.string s67), (Value.int IntKind.i64 x68), (Value.slice o69 n70 n71)]), (Value.bool b72)]))) ∧
(((b72 = true) →
(∀ w74 : World, ((w74 = (w66.alloc (Obj.cells #[(Value.string (ByteArray.mk #[])), (Value.int IntKind.i64 0), (Value.slice none 0 0)] 24 (0, 0)))) →
((Nf.There w74 (⟨(hs w66), 0, none⟩ : Addr) 3) ∧
(∀ w76 : World, ((w76 = (Nf.setCells w74 (⟨(hs w66), 0, none⟩ : Addr) [(Value.string s67), (Value.int IntKind.i64 x68), (Value.slice o69 n70 n71)] 0)) →
(∃ o78 : Option Addr, (∃ n79 : Nat, (∃ n80 : Nat, (((w76.cell? (⟨(hs w), 0, none⟩ : Addr)) = (some (Value.slice o78 n79 n80))) ∧
(∃ o81 : Option Addr, (∃ n82 : Nat, (∃ n83 : Nat, (((w76.cell? (⟨(hs w), 1, none⟩ : Addr)) = (some (Value.slice o81 n82 n83))) ∧
((Nf.There w76 (⟨(hs w3), 0, none⟩ : Addr) 2) ∧
(∀ w84 : World, ((w84 = (Nf.setCells w76 (⟨(hs w3), 0, none⟩ : Addr) [(Value.slice o78 n79 n80), (Value.slice o81 n82 n83)] 0)) →
(∃ o86 : Option Addr, (∃ n87 : Nat, (∃ n88 : Nat, (((w84.cell? (⟨(hs w3), 0, none⟩ : Addr)) = (some (Value.slice o86 n87 n88))) ∧
(∃ o89 : Option Addr, (∃ n90 : Nat, (∃ n91 : Nat, (((w84.cell? (⟨(hs w3), 1, none⟩ : Addr)) = (some (Value.slice o89 n90 n91))) ∧
(R (Ending.returned (Value.tuple #[(Value.agg #[(Value.slice o86 n87 n88), (Value.slice o89 n90 n91)]), (Value.int IntKind.i64 5)])) w84)))))))))))))))))))))))))) ∧
((b72 = false) →
(∀ w93 : World, ((w93 = (w66.alloc (Obj.cells #[(Value.string (ByteArray.mk #[])), (Value.int IntKind.i64 0), (Value.slice none 0 0)] 24 (0, 0)))) →
((Nf.There w93 (⟨(hs w66), 0, none⟩ : Addr) 3) ∧
(∀ w95 : World, ((w95 = (Nf.setCells w93 (⟨(hs w66), 0, none⟩ : Addr) [(Value.string s67), (Value.int IntKind.i64 x68), (Value.slice o69 n70 n71)] 0)) →
(∃ o97 : Option Addr, (∃ n98 : Nat, (∃ n99 : Nat, (((w95.cell? (⟨(hs w), 0, none⟩ : Addr)) = (some (Value.slice o97 n98 n99))) ∧
(∃ o100 : Option Addr, (∃ n101 : Nat, (∃ n102 : Nat, (((w95.cell? (⟨(hs w), 1, none⟩ : Addr)) = (some (Value.slice o100 n101 n102))) ∧
(∃ s103 : ByteArray, (((w95.cell? (⟨(hs w1), 0, none⟩ : Addr)) = (some (Value.string s103))) ∧
(Calls Try.prog 105 #[(Value.agg #[(Value.slice o97 n98 n99), (Value.slice o100 n101 n102)]), (Value.string s103)] w95 (fun (e104 : Ending) => (fun (w105 : World) => (∃ s106 : ByteArray, (∃ x107 : Int, (∃ o108 : Option Addr, (∃ n109 : Nat, (∃ n110 : Nat, (∃ b111 : Bool, ((e104 = (Ending.returned (Value.tuple #[(Value.agg #[(Value.string s106), (Value.int IntKind.i64 x107), (Value.slice o108 n109 n110)]), (Value.bool b111)]))) ∧
(((b111 = true) →
(∀ w113 : World, ((w113 = (w105.alloc (Obj.cells #[(Value.string (ByteArray.mk #[])), (Value.int IntKind.i64 0), (Value.slice none 0 0)] 24 (0, 0)))) →
((Nf.There w113 (⟨(hs w105), 0, none⟩ : Addr) 3) ∧
(∀ w115 : World, ((w115 = (Nf.setCells w113 (⟨(hs w105), 0, none⟩ : Addr) [(Value.string s106), (Value.int IntKind.i64 x107), (Value.slice o108 n109 n110)] 0)) →
(∃ x117 : Int, (((w115.cell? (⟨(hs w105), 1, none⟩ : Addr)) = (some (Value.int IntKind.i64 x117))) ∧
(∃ x118 : Int, (((w115.cell? (⟨(hs w1), 1, none⟩ : Addr)) = (some (Value.int IntKind.i64 x118))) ∧
((((decide (x117 > x118)) = true) →
(∃ o120 : Option Addr, (∃ n121 : Nat, (∃ n122 : Nat, (((w115.cell? (⟨(hs w), 0, none⟩ : Addr)) = (some (Value.slice o120 n121 n122))) ∧
(∃ o123 : Option Addr, (∃ n124 : Nat, (∃ n125 : Nat, (((w115.cell? (⟨(hs w), 1, none⟩ : Addr)) = (some (Value.slice o123 n124 n125))) ∧
((Nf.There w115 (⟨(hs w3), 0, none⟩ : Addr) 2) ∧
(∀ w126 : World, ((w126 = (Nf.setCells w115 (⟨(hs w3), 0, none⟩ : Addr) [(Value.slice o120 n121 n122), (Value.slice o123 n124 n125)] 0)) →
(∃ o128 : Option Addr, (∃ n129 : Nat, (∃ n130 : Nat, (((w126.cell? (⟨(hs w3), 0, none⟩ : Addr)) = (some (Value.slice o128 n129 n130))) ∧
(∃ o131 : Option Addr, (∃ n132 : Nat, (∃ n133 : Nat, (((w126.cell? (⟨(hs w3), 1, none⟩ : Addr)) = (some (Value.slice o131 n132 n133))) ∧
(R (Ending.returned (Value.tuple #[(Value.agg #[(Value.slice o128 n129 n130), (Value.slice o131 n132 n133)]), (Value.int IntKind.i64 9)])) w126))))))))))))))))))))) ∧
(((decide (x117 > x118)) = false) →
(∃ o135 : Option Addr, (∃ n136 : Nat, (∃ n137 : Nat, (((w115.cell? (⟨(hs w), 0, none⟩ : Addr)) = (some (Value.slice o135 n136 n137))) ∧
((((decide (((n136 : Nat) : Int) ≥ 100)) = true) →
(∃ o139 : Option Addr, (∃ n140 : Nat, (∃ n141 : Nat, (((w115.cell? (⟨(hs w), 0, none⟩ : Addr)) = (some (Value.slice o139 n140 n141))) ∧
(∃ o142 : Option Addr, (∃ n143 : Nat, (∃ n144 : Nat, (((w115.cell? (⟨(hs w), 1, none⟩ : Addr)) = (some (Value.slice o142 n143 n144))) ∧
((Nf.There w115 (⟨(hs w3), 0, none⟩ : Addr) 2) ∧
(∀ w145 : World, ((w145 = (Nf.setCells w115 (⟨(hs w3), 0, none⟩ : Addr) [(Value.slice o139 n140 n141), (Value.slice o142 n143 n144)] 0)) →
(∃ o147 : Option Addr, (∃ n148 : Nat, (∃ n149 : Nat, (((w145.cell? (⟨(hs w3), 0, none⟩ : Addr)) = (some (Value.slice o147 n148 n149))) ∧
(∃ o150 : Option Addr, (∃ n151 : Nat, (∃ n152 : Nat, (((w145.cell? (⟨(hs w3), 1, none⟩ : Addr)) = (some (Value.slice o150 n151 n152))) ∧
(R (Ending.returned (Value.tuple #[(Value.agg #[(Value.slice o147 n148 n149), (Value.slice o150 n151 n152)]), (Value.int IntKind.i64 3)])) w145))))))))))))))))))))) ∧
(((decide (((n136 : Nat) : Int) ≥ 100)) = false) →
(∀ w154 : World, ((w154 = w115.drew) →
(∃ o156 : Option Addr, (∃ n157 : Nat, (∃ n158 : Nat, (((w154.cell? (⟨(hs w), 0, none⟩ : Addr)) = (some (Value.slice o156 n157 n158))) ∧
(∃ s159 : ByteArray, (((w154.cell? (⟨(hs w1), 0, none⟩ : Addr)) = (some (Value.string s159))) ∧
(∃ x160 : Int, (((w154.cell? (⟨(hs w1), 1, none⟩ : Addr)) = (some (Value.int IntKind.i64 x160))) ∧
(∃ o161 : Option Addr, (∃ n162 : Nat, (∃ n163 : Nat, (((w154.cell? (⟨(hs w1), 2, none⟩ : Addr)) = (some (Value.slice o161 n162 n163))) ∧
((∀ w164 : World, ((w164 = (w154.alloc (Obj.cells #[] 24 (0, 0)))) →
((Nf.Kept w154 w164 (⟨(hs w1), 0, none⟩ : Addr) 3) ∧
((Nf.Kept w154 w164 (⟨(hs w), 0, none⟩ : Addr) 1) ∧
((RunOk Try.prog (Nf.Hold (Builtin.append_ #[71, 71] 71 #[(Value.slice (some (⟨(hs w154), 0, none⟩ : Addr)) 0 0), (Value.slice o156 n157 n158)])) w164 (fun (v166 : Value) => (fun (w167 : World) => (∃ o168 : Option Addr, (∃ n169 : Nat, (∃ n170 : Nat, ((v166 = (Value.slice o168 n169 n170)) ∧
((Nf.Kept w154 w167 (⟨(hs w1), 0, none⟩ : Addr) 3) ∧
(∀ w171 : World, ((w171 = (w167.alloc (Obj.cells #[(Value.string s159), (Value.int IntKind.i64 x160), (Value.slice o161 n162 n163)] 24 (0, 0)))) →
(RunOk Try.prog (Nf.Hold (Builtin.append_ #[71, 71] 71 #[(Value.slice o168 n169 n170), (Value.slice (some (⟨(hs w167), 0, none⟩ : Addr)) 1 1)])) w171 (fun (v173 : Value) => (fun (w174 : World) => (∃ o175 : Option Addr, (∃ n176 : Nat, (∃ n177 : Nat, ((v173 = (Value.slice o175 n176 n177)) ∧
((Nf.There w174 (⟨(hs w), 0, none⟩ : Addr) 1) ∧
(∀ w178 : World, ((w178 = (Nf.setCells w174 (⟨(hs w), 0, none⟩ : Addr) [(Value.slice o175 n176 n177)] 0)) →
(∃ o180 : Option Addr, (∃ n181 : Nat, (∃ n182 : Nat, (((w178.cell? (⟨(hs w), 0, none⟩ : Addr)) = (some (Value.slice o180 n181 n182))) ∧
(∃ o183 : Option Addr, (∃ n184 : Nat, (∃ n185 : Nat, (((w178.cell? (⟨(hs w), 1, none⟩ : Addr)) = (some (Value.slice o183 n184 n185))) ∧
((Nf.There w178 (⟨(hs w3), 0, none⟩ : Addr) 2) ∧
(∀ w186 : World, ((w186 = (Nf.setCells w178 (⟨(hs w3), 0, none⟩ : Addr) [(Value.slice o180 n181 n182), (Value.slice o183 n184 n185)] 0)) →
(∃ o188 : Option Addr, (∃ n189 : Nat, (∃ n190 : Nat, (((w186.cell? (⟨(hs w3), 0, none⟩ : Addr)) = (some (Value.slice o188 n189 n190))) ∧
(∃ o191 : Option Addr, (∃ n192 : Nat, (∃ n193 : Nat, (((w186.cell? (⟨(hs w3), 1, none⟩ : Addr)) = (some (Value.slice o191 n192 n193))) ∧
(R (Ending.returned (Value.tuple #[(Value.agg #[(Value.slice o188 n189 n190), (Value.slice o191 n192 n193)]), (Value.int IntKind.i64 0)])) w186)))))))))))))))))))))))))))))))))))))))) ∧
(∀ w194 : World, ((w194 = (w164.alloc (Obj.cells #[(Value.string s159), (Value.int IntKind.i64 x160), (Value.slice o161 n162 n163)] 24 (0, 0)))) →
((Nf.Kept w154 w194 (⟨(hs w), 0, none⟩ : Addr) 1) ∧
(RunOk Try.prog (Nf.Hold (Builtin.append_ #[71, 71] 71 #[(Value.slice (some (⟨(hs w154), 0, none⟩ : Addr)) 0 0), (Value.slice o156 n157 n158)])) w194 (fun (v196 : Value) => (fun (w197 : World) => (∃ o198 : Option Addr, (∃ n199 : Nat, (∃ n200 : Nat, ((v196 = (Value.slice o198 n199 n200)) ∧
(RunOk Try.prog (Nf.Hold (Builtin.append_ #[71, 71] 71 #[(Value.slice o198 n199 n200), (Value.slice (some (⟨(hs w164), 0, none⟩ : Addr)) 1 1)])) w197 (fun (v201 : Value) => (fun (w202 : World) => (∃ o203 : Option Addr, (∃ n204 : Nat, (∃ n205 : Nat, ((v201 = (Value.slice o203 n204 n205)) ∧
((Nf.There w202 (⟨(hs w), 0, none⟩ : Addr) 1) ∧
(∀ w206 : World, ((w206 = (Nf.setCells w202 (⟨(hs w), 0, none⟩ : Addr) [(Value.slice o203 n204 n205)] 0)) →
(∃ o208 : Option Addr, (∃ n209 : Nat, (∃ n210 : Nat, (((w206.cell? (⟨(hs w), 0, none⟩ : Addr)) = (some (Value.slice o208 n209 n210))) ∧
(∃ o211 : Option Addr, (∃ n212 : Nat, (∃ n213 : Nat, (((w206.cell? (⟨(hs w), 1, none⟩ : Addr)) = (some (Value.slice o211 n212 n213))) ∧
((Nf.There w206 (⟨(hs w3), 0, none⟩ : Addr) 2) ∧
(∀ w214 : World, ((w214 = (Nf.setCells w206 (⟨(hs w3), 0, none⟩ : Addr) [(Value.slice o208 n209 n210), (Value.slice o211 n212 n213)] 0)) →
(∃ o216 : Option Addr, (∃ n217 : Nat, (∃ n218 : Nat, (((w214.cell? (⟨(hs w3), 0, none⟩ : Addr)) = (some (Value.slice o216 n217 n218))) ∧
(∃ o219 : Option Addr, (∃ n220 : Nat, (∃ n221 : Nat, (((w214.cell? (⟨(hs w3), 1, none⟩ : Addr)) = (some (Value.slice o219 n220 n221))) ∧
(R (Ending.returned (Value.tuple #[(Value.agg #[(Value.slice o216 n217 n218), (Value.slice o219 n220 n221)]), (Value.int IntKind.i64 0)])) w214))))))))))))))))))))))))))))))))))))))))))))) ∧
(∀ w222 : World, ((w222 = (w154.alloc (Obj.cells #[(Value.string s159), (Value.int IntKind.i64 x160), (Value.slice o161 n162 n163)] 24 (0, 0)))) →
((Nf.Kept w154 w222 (⟨(hs w), 0, none⟩ : Addr) 1) ∧
(∀ w224 : World, ((w224 = (w222.alloc (Obj.cells #[] 24 (0, 0)))) →
((Nf.Kept w154 w224 (⟨(hs w), 0, none⟩ : Addr) 1) ∧
(RunOk Try.prog (Nf.Hold (Builtin.append_ #[71, 71] 71 #[(Value.slice (some (⟨(hs w222), 0, none⟩ : Addr)) 0 0), (Value.slice o156 n157 n158)])) w224 (fun (v226 : Value) => (fun (w227 : World) => (∃ o228 : Option Addr, (∃ n229 : Nat, (∃ n230 : Nat, ((v226 = (Value.slice o228 n229 n230)) ∧
(RunOk Try.prog (Nf.Hold (Builtin.append_ #[71, 71] 71 #[(Value.slice o228 n229 n230), (Value.slice (some (⟨(hs w154), 0, none⟩ : Addr)) 1 1)])) w227 (fun (v231 : Value) => (fun (w232 : World) => (∃ o233 : Option Addr, (∃ n234 : Nat, (∃ n235 : Nat, ((v231 = (Value.slice o233 n234 n235)) ∧
((Nf.There w232 (⟨(hs w), 0, none⟩ : Addr) 1) ∧
(∀ w236 : World, ((w236 = (Nf.setCells w232 (⟨(hs w), 0, none⟩ : Addr) [(Value.slice o233 n234 n235)] 0)) →
(∃ o238 : Option Addr, (∃ n239 : Nat, (∃ n240 : Nat, (((w236.cell? (⟨(hs w), 0, none⟩ : Addr)) = (some (Value.slice o238 n239 n240))) ∧
(∃ o241 : Option Addr, (∃ n242 : Nat, (∃ n243 : Nat, (((w236.cell? (⟨(hs w), 1, none⟩ : Addr)) = (some (Value.slice o241 n242 n243))) ∧
((Nf.There w236 (⟨(hs w3), 0, none⟩ : Addr) 2) ∧
(∀ w244 : World, ((w244 = (Nf.setCells w236 (⟨(hs w3), 0, none⟩ : Addr) [(Value.slice o238 n239 n240), (Value.slice o241 n242 n243)] 0)) →
(∃ o246 : Option Addr, (∃ n247 : Nat, (∃ n248 : Nat, (((w244.cell? (⟨(hs w3), 0, none⟩ : Addr)) = (some (Value.slice o246 n247 n248))) ∧
(∃ o249 : Option Addr, (∃ n250 : Nat, (∃ n251 : Nat, (((w244.cell? (⟨(hs w3), 1, none⟩ : Addr)) = (some (Value.slice o249 n250 n251))) ∧
(R (Ending.returned (Value.tuple #[(Value.agg #[(Value.slice o246 n247 n248), (Value.slice o249 n250 n251)]), (Value.int IntKind.i64 0)])) w244)))))))))))))))))))))))))))))))))))))))))))))))))))))))))))))))))))))))))))) ∧
((b111 = false) →
(∀ w253 : World, ((w253 = (w105.alloc (Obj.cells #[(Value.string (ByteArray.mk #[])), (Value.int IntKind.i64 0), (Value.slice none 0 0)] 24 (0, 0)))) →
((Nf.There w253 (⟨(hs w105), 0, none⟩ : Addr) 3) ∧
(∀ w255 : World, ((w255 = (Nf.setCells w253 (⟨(hs w105), 0, none⟩ : Addr) [(Value.string s106), (Value.int IntKind.i64 x107), (Value.slice o108 n109 n110)] 0)) →
(∃ o257 : Option Addr, (∃ n258 : Nat, (∃ n259 : Nat, (((w255.cell? (⟨(hs w), 0, none⟩ : Addr)) = (some (Value.slice o257 n258 n259))) ∧
((((decide (((n258 : Nat) : Int) ≥ 100)) = true) →
(∃ o261 : Option Addr, (∃ n262 : Nat, (∃ n263 : Nat, (((w255.cell? (⟨(hs w), 0, none⟩ : Addr)) = (some (Value.slice o261 n262 n263))) ∧
(∃ o264 : Option Addr, (∃ n265 : Nat, (∃ n266 : Nat, (((w255.cell? (⟨(hs w), 1, none⟩ : Addr)) = (some (Value.slice o264 n265 n266))) ∧
((Nf.There w255 (⟨(hs w3), 0, none⟩ : Addr) 2) ∧
(∀ w267 : World, ((w267 = (Nf.setCells w255 (⟨(hs w3), 0, none⟩ : Addr) [(Value.slice o261 n262 n263), (Value.slice o264 n265 n266)] 0)) →
(∃ o269 : Option Addr, (∃ n270 : Nat, (∃ n271 : Nat, (((w267.cell? (⟨(hs w3), 0, none⟩ : Addr)) = (some (Value.slice o269 n270 n271))) ∧
(∃ o272 : Option Addr, (∃ n273 : Nat, (∃ n274 : Nat, (((w267.cell? (⟨(hs w3), 1, none⟩ : Addr)) = (some (Value.slice o272 n273 n274))) ∧
(R (Ending.returned (Value.tuple #[(Value.agg #[(Value.slice o269 n270 n271), (Value.slice o272 n273 n274)]), (Value.int IntKind.i64 3)])) w267))))))))))))))))))))) ∧
(((decide (((n258 : Nat) : Int) ≥ 100)) = false) →
(∀ w276 : World, ((w276 = w255.drew) →
(∃ o278 : Option Addr, (∃ n279 : Nat, (∃ n280 : Nat, (((w276.cell? (⟨(hs w), 0, none⟩ : Addr)) = (some (Value.slice o278 n279 n280))) ∧
(∃ s281 : ByteArray, (((w276.cell? (⟨(hs w1), 0, none⟩ : Addr)) = (some (Value.string s281))) ∧
(∃ x282 : Int, (((w276.cell? (⟨(hs w1), 1, none⟩ : Addr)) = (some (Value.int IntKind.i64 x282))) ∧
(∃ o283 : Option Addr, (∃ n284 : Nat, (∃ n285 : Nat, (((w276.cell? (⟨(hs w1), 2, none⟩ : Addr)) = (some (Value.slice o283 n284 n285))) ∧
((∀ w286 : World, ((w286 = (w276.alloc (Obj.cells #[] 24 (0, 0)))) →
((Nf.Kept w276 w286 (⟨(hs w1), 0, none⟩ : Addr) 3) ∧
((Nf.Kept w276 w286 (⟨(hs w), 0, none⟩ : Addr) 1) ∧
((RunOk Try.prog (Nf.Hold (Builtin.append_ #[71, 71] 71 #[(Value.slice (some (⟨(hs w276), 0, none⟩ : Addr)) 0 0), (Value.slice o278 n279 n280)])) w286 (fun (v288 : Value) => (fun (w289 : World) => (∃ o290 : Option Addr, (∃ n291 : Nat, (∃ n292 : Nat, ((v288 = (Value.slice o290 n291 n292)) ∧
((Nf.Kept w276 w289 (⟨(hs w1), 0, none⟩ : Addr) 3) ∧
(∀ w293 : World, ((w293 = (w289.alloc (Obj.cells #[(Value.string s281), (Value.int IntKind.i64 x282), (Value.slice o283 n284 n285)] 24 (0, 0)))) →
(RunOk Try.prog (Nf.Hold (Builtin.append_ #[71, 71] 71 #[(Value.slice o290 n291 n292), (Value.slice (some (⟨(hs w289), 0, none⟩ : Addr)) 1 1)])) w293 (fun (v295 : Value) => (fun (w296 : World) => (∃ o297 : Option Addr, (∃ n298 : Nat, (∃ n299 : Nat, ((v295 = (Value.slice o297 n298 n299)) ∧
((Nf.There w296 (⟨(hs w), 0, none⟩ : Addr) 1) ∧
(∀ w300 : World, ((w300 = (Nf.setCells w296 (⟨(hs w), 0, none⟩ : Addr) [(Value.slice o297 n298 n299)] 0)) →
(∃ o302 : Option Addr, (∃ n303 : Nat, (∃ n304 : Nat, (((w300.cell? (⟨(hs w), 0, none⟩ : Addr)) = (some (Value.slice o302 n303 n304))) ∧
(∃ o305 : Option Addr, (∃ n306 : Nat, (∃ n307 : Nat, (((w300.cell? (⟨(hs w), 1, none⟩ : Addr)) = (some (Value.slice o305 n306 n307))) ∧
((Nf.There w300 (⟨(hs w3), 0, none⟩ : Addr) 2) ∧
(∀ w308 : World, ((w308 = (Nf.setCells w300 (⟨(hs w3), 0, none⟩ : Addr) [(Value.slice o302 n303 n304), (Value.slice o305 n306 n307)] 0)) →
(∃ o310 : Option Addr, (∃ n311 : Nat, (∃ n312 : Nat, (((w308.cell? (⟨(hs w3), 0, none⟩ : Addr)) = (some (Value.slice o310 n311 n312))) ∧
(∃ o313 : Option Addr, (∃ n314 : Nat, (∃ n315 : Nat, (((w308.cell? (⟨(hs w3), 1, none⟩ : Addr)) = (some (Value.slice o313 n314 n315))) ∧
(R (Ending.returned (Value.tuple #[(Value.agg #[(Value.slice o310 n311 n312), (Value.slice o313 n314 n315)]), (Value.int IntKind.i64 0)])) w308)))))))))))))))))))))))))))))))))))))))) ∧
(∀ w316 : World, ((w316 = (w286.alloc (Obj.cells #[(Value.string s281), (Value.int IntKind.i64 x282), (Value.slice o283 n284 n285)] 24 (0, 0)))) →
((Nf.Kept w276 w316 (⟨(hs w), 0, none⟩ : Addr) 1) ∧
(RunOk Try.prog (Nf.Hold (Builtin.append_ #[71, 71] 71 #[(Value.slice (some (⟨(hs w276), 0, none⟩ : Addr)) 0 0), (Value.slice o278 n279 n280)])) w316 (fun (v318 : Value) => (fun (w319 : World) => (∃ o320 : Option Addr, (∃ n321 : Nat, (∃ n322 : Nat, ((v318 = (Value.slice o320 n321 n322)) ∧
(RunOk Try.prog (Nf.Hold (Builtin.append_ #[71, 71] 71 #[(Value.slice o320 n321 n322), (Value.slice (some (⟨(hs w286), 0, none⟩ : Addr)) 1 1)])) w319 (fun (v323 : Value) => (fun (w324 : World) => (∃ o325 : Option Addr, (∃ n326 : Nat, (∃ n327 : Nat, ((v323 = (Value.slice o325 n326 n327)) ∧
((Nf.There w324 (⟨(hs w), 0, none⟩ : Addr) 1) ∧
(∀ w328 : World, ((w328 = (Nf.setCells w324 (⟨(hs w), 0, none⟩ : Addr) [(Value.slice o325 n326 n327)] 0)) →
(∃ o330 : Option Addr, (∃ n331 : Nat, (∃ n332 : Nat, (((w328.cell? (⟨(hs w), 0, none⟩ : Addr)) = (some (Value.slice o330 n331 n332))) ∧
(∃ o333 : Option Addr, (∃ n334 : Nat, (∃ n335 : Nat, (((w328.cell? (⟨(hs w), 1, none⟩ : Addr)) = (some (Value.slice o333 n334 n335))) ∧
((Nf.There w328 (⟨(hs w3), 0, none⟩ : Addr) 2) ∧
(∀ w336 : World, ((w336 = (Nf.setCells w328 (⟨(hs w3), 0, none⟩ : Addr) [(Value.slice o330 n331 n332), (Value.slice o333 n334 n335)] 0)) →
(∃ o338 : Option Addr, (∃ n339 : Nat, (∃ n340 : Nat, (((w336.cell? (⟨(hs w3), 0, none⟩ : Addr)) = (some (Value.slice o338 n339 n340))) ∧
(∃ o341 : Option Addr, (∃ n342 : Nat, (∃ n343 : Nat, (((w336.cell? (⟨(hs w3), 1, none⟩ : Addr)) = (some (Value.slice o341 n342 n343))) ∧
(R (Ending.returned (Value.tuple #[(Value.agg #[(Value.slice o338 n339 n340), (Value.slice o341 n342 n343)]), (Value.int IntKind.i64 0)])) w336))))))))))))))))))))))))))))))))))))))))))))) ∧
(∀ w344 : World, ((w344 = (w276.alloc (Obj.cells #[(Value.string s281), (Value.int IntKind.i64 x282), (Value.slice o283 n284 n285)] 24 (0, 0)))) →
((Nf.Kept w276 w344 (⟨(hs w), 0, none⟩ : Addr) 1) ∧
(∀ w346 : World, ((w346 = (w344.alloc (Obj.cells #[] 24 (0, 0)))) →
((Nf.Kept w276 w346 (⟨(hs w), 0, none⟩ : Addr) 1) ∧
(RunOk Try.prog (Nf.Hold (Builtin.append_ #[71, 71] 71 #[(Value.slice (some (⟨(hs w344), 0, none⟩ : Addr)) 0 0), (Value.slice o278 n279 n280)])) w346 (fun (v348 : Value) => (fun (w349 : World) => (∃ o350 : Option Addr, (∃ n351 : Nat, (∃ n352 : Nat, ((v348 = (Value.slice o350 n351 n352)) ∧
(RunOk Try.prog (Nf.Hold (Builtin.append_ #[71, 71] 71 #[(Value.slice o350 n351 n352), (Value.slice (some (⟨(hs w276), 0, none⟩ : Addr)) 1 1)])) w349 (fun (v353 : Value) => (fun (w354 : World) => (∃ o355 : Option Addr, (∃ n356 : Nat, (∃ n357 : Nat, ((v353 = (Value.slice o355 n356 n357)) ∧
((Nf.There w354 (⟨(hs w), 0, none⟩ : Addr) 1) ∧
(∀ w358 : World, ((w358 = (Nf.setCells w354 (⟨(hs w), 0, none⟩ : Addr) [(Value.slice o355 n356 n357)] 0)) →
(∃ o360 : Option Addr, (∃ n361 : Nat, (∃ n362 : Nat, (((w358.cell? (⟨(hs w), 0, none⟩ : Addr)) = (some (Value.slice o360 n361 n362))) ∧
(∃ o363 : Option Addr, (∃ n364 : Nat, (∃ n365 : Nat, (((w358.cell? (⟨(hs w), 1, none⟩ : Addr)) = (some (Value.slice o363 n364 n365))) ∧
((Nf.There w358 (⟨(hs w3), 0, none⟩ : Addr) 2) ∧
(∀ w366 : World, ((w366 = (Nf.setCells w358 (⟨(hs w3), 0, none⟩ : Addr) [(Value.slice o360 n361 n362), (Value.slice o363 n364 n365)] 0)) →
(∃ o368 : Option Addr, (∃ n369 : Nat, (∃ n370 : Nat, (((w366.cell? (⟨(hs w3), 0, none⟩ : Addr)) = (some (Value.slice o368 n369 n370))) ∧
(∃ o371 : Option Addr, (∃ n372 : Nat, (∃ n373 : Nat, (((w366.cell? (⟨(hs w3), 1, none⟩ : Addr)) = (some (Value.slice o371 n372 n373))) ∧
(R (Ending.returned (Value.tuple #[(Value.agg #[(Value.slice o368 n369 n370), (Value.slice o371 n372 n373)]), (Value.int IntKind.i64 0)])) w366))))))))))))))))))))))))))))))))))))))))))))))))))))))))))))))))))))))))))))))))))))))))))))))))))))))))))))))))))))))))))))))))))))))))))))))))))))))))))))))) :
    Calls Try.prog 86 #[(.agg #[(.slice b_L b_L_n b_L_c), (.slice b_P b_P_n b_P_c)]), (.agg #[(.string t_Name), (.int .i64 t_Version), (.slice t_Questions t_Questions_n t_Questions_c)])] w R :=
  calls_of_vc an86 Try.func86 rfl (by kernel_rfl) (by kernel_rfl) (Eq.mp (by kernel_rfl) h)

/-- samaritan/samaritanref15.Free -/
def an88 : An := (.seq (.reg []) (.seq (.reg []) (.seq (.seq (.reg [(1, 0, true)]) (.cond (.seq (.reg []) .nil) .nil)) (.seq (.regD [(4, 2, false), (5, 1, false), (10, 2, false), (11, 1, false)] [1, 2, 3, 4, 6, 7, 8, 9, 10, 0, 5, 11, 12, 13] [0, 5, 11, 13]) (.seq (.reg []) .nil)))))
set_option maxRecDepth 100000 in
theorem nf88 (b_L : Option Addr) (b_L_n : Nat) (b_L_c : Nat) (b_P : Option Addr) (b_P_n : Nat) (b_P_c : Nat) (call : Int) (w : World) (R : Ending → World → Prop) (h :
(∀ w1 : World, ((w1 = (w.alloc (Obj.cells #[(Value.slice b_L b_L_n b_L_c), (Value.slice b_P b_P_n b_P_c)] 74 (0, 0)))) →
(∀ w3 : World, ((w3 = (w1.alloc (Obj.cells #[(Value.slice none 0 0), (Value.slice none 0 0)] 74 (0, 0)))) →
(∃ o5 : Option Addr, (∃ n6 : Nat, (∃ n7 : Nat, (((w3.cell? (⟨(hs w), 0, none⟩ : Addr)) = (some (Value.slice o5 n6 n7))) ∧
(∃ o8 : Option Addr, (∃ n9 : Nat, (∃ n10 : Nat, (((w3.cell? (⟨(hs w), 1, none⟩ : Addr)) = (some (Value.slice o8 n9 n10))) ∧
(Calls Try.prog 117 #[(Value.agg #[(Value.slice o5 n6 n7), (Value.slice o8 n9 n10)]), (Value.int IntKind.i64 call)] w3 (fun (e11 : Ending) => (fun (w12 : World) => (∃ x13 : Int, ((e11 = (Ending.returned (Value.int IntKind.i64 x13))) ∧
((((decide (x13 < 0)) = true) →
(∃ o15 : Option Addr, (∃ n16 : Nat, (∃ n17 : Nat, (((w12.cell? (⟨(hs w), 0, none⟩ : Addr)) = (some (Value.slice o15 n16 n17))) ∧
(∃ o18 : Option Addr, (∃ n19 : Nat, (∃ n20 : Nat, (((w12.cell? (⟨(hs w), 1, none⟩ : Addr)) = (some (Value.slice o18 n19 n20))) ∧
((Nf.There w12 (⟨(hs w1), 0, none⟩ : Addr) 2) ∧
(∀ w21 : World, ((w21 = (Nf.setCells w12 (⟨(hs w1), 0, none⟩ : Addr) [(Value.slice o15 n16 n17), (Value.slice o18 n19 n20)] 0)) →
(∃ o23 : Option Addr, (∃ n24 : Nat, (∃ n25 : Nat, (((w21.cell? (⟨(hs w1), 0, none⟩ : Addr)) = (some (Value.slice o23 n24 n25))) ∧
(∃ o26 : Option Addr, (∃ n27 : Nat, (∃ n28 : Nat, (((w21.cell? (⟨(hs w1), 1, none⟩ : Addr)) = (some (Value.slice o26 n27 n28))) ∧
(R (Ending.returned (Value.tuple #[(Value.agg #[(Value.slice o23 n24 n25), (Value.slice o26 n27 n28)]), (Value.bool false)])) w21))))))))))))))))))))) ∧
(((decide (x13 < 0)) = false) →
(∀ w30 : World, ((w30 = w12.drew) →
(∃ o32 : Option Addr, (∃ n33 : Nat, (∃ n34 : Nat, (((w30.cell? (⟨(hs w), 1, none⟩ : Addr)) = (some (Value.slice o32 n33 n34))) ∧
((((0 : Int) ≤ x13) ∧
(x13 ≤ ((n34 : Nat) : Int))) ∧
(∃ o35 : Option Addr, (∃ n36 : Nat, (∃ n37 : Nat, (((w30.cell? (⟨(hs w), 1, none⟩ : Addr)) = (some (Value.slice o35 n36 n37))) ∧
((((0 : Int) ≤ (IntKind.wrap IntKind.i64 (x13 + 1))) ∧
((IntKind.wrap IntKind.i64 (x13 + 1)) ≤ ((n36 : Nat) : Int))) ∧
(∀ w38 : World, ((w38 = (w30.alloc (Obj.cells #[] 157 (0, 0)))) →
((Nf.Kept w30 w38 (⟨(hs w), 1, none⟩ : Addr) 1) ∧
((Nf.Kept w30 w38 (⟨(hs w), 1, none⟩ : Addr) 1) ∧
(RunOk Try.prog (Nf.Hold (Builtin.append_ #[72, 72] 72 #[(Value.slice (some (⟨(hs w30), 0, none⟩ : Addr)) 0 0), (Value.slice (if (n34 = 0) then o32 else (Option.map (fun (x : Addr) => x) o32)) ((x13).toNat - 0) (n34 - 0))])) w38 (fun (v40 : Value) => (fun (w41 : World) => (∃ o42 : Option Addr, (∃ n43 : Nat, (∃ n44 : Nat, ((v40 = (Value.slice o42 n43 n44)) ∧
((Nf.Kept w30 w41 (⟨(hs w), 1, none⟩ : Addr) 1) ∧
(RunOk Try.prog (Nf.Hold (Builtin.append_ #[72, 72] 72 #[(Value.slice o42 n43 n44), (Value.slice (if (n37 = ((IntKind.wrap IntKind.i64 (x13 + 1))).toNat) then o35 else (Option.map (fun (x : Addr) => (Addr.add x (((IntKind.wrap IntKind.i64 (x13 + 1))).toNat * 3))) o35)) (n36 - ((IntKind.wrap IntKind.i64 (x13 + 1))).toNat) (n37 - ((IntKind.wrap IntKind.i64 (x13 + 1))).toNat))])) w41 (fun (v45 : Value) => (fun (w46 : World) => (∃ o47 : Option Addr, (∃ n48 : Nat, (∃ n49 : Nat, ((v45 = (Value.slice o47 n48 n49)) ∧
((Nf.There w46 (⟨(hs w), 1, none⟩ : Addr) 1) ∧
(∀ w50 : World, ((w50 = (Nf.setCells w46 (⟨(hs w), 1, none⟩ : Addr) [(Value.slice o47 n48 n49)] 0)) →
(∃ o52 : Option Addr, (∃ n53 : Nat, (∃ n54 : Nat, (((w50.cell? (⟨(hs w), 0, none⟩ : Addr)) = (some (Value.slice o52 n53 n54))) ∧
(∃ o55 : Option Addr, (∃ n56 : Nat, (∃ n57 : Nat, (((w50.cell? (⟨(hs w), 1, none⟩ : Addr)) = (some (Value.slice o55 n56 n57))) ∧
((Nf.There w50 (⟨(hs w1), 0, none⟩ : Addr) 2) ∧
(∀ w58 : World, ((w58 = (Nf.setCells w50 (⟨(hs w1), 0, none⟩ : Addr) [(Value.slice o52 n53 n54), (Value.slice o55 n56 n57)] 0)) →
(∃ o60 : Option Addr, (∃ n61 : Nat, (∃ n62 : Nat, (((w58.cell? (⟨(hs w1), 0, none⟩ : Addr)) = (some (Value.slice o60 n61 n62))) ∧
(∃ o63 : Option Addr, (∃ n64 : Nat, (∃ n65 : Nat, (((w58.cell? (⟨(hs w1), 1, none⟩ : Addr)) = (some (Value.slice o63 n64 n65))) ∧
(R (Ending.returned (Value.tuple #[(Value.agg #[(Value.slice o60 n61 n62), (Value.slice o63 n64 n65)]), (Value.bool true)])) w58)))))))))))))))))))))))))))))))))))))))))))))))))))))))))))))))))))))))))) :
    Calls Try.prog 88 #[(.agg #[(.slice b_L b_L_n b_L_c), (.slice b_P b_P_n b_P_c)]), (.int .i64 call)] w R :=
  calls_of_vc an88 Try.func88 rfl (by kernel_rfl) (by kernel_rfl) (Eq.mp (by kernel_rfl) h)

/-- samaritan/samaritanref15.PinTo -/
def an87 : An := (.seq (.reg []) (.seq (.seq (.reg [(1, 0, true)]) (.cond (.seq (.reg []) .nil) .nil)) (.seq (.reg [(5, 0, true)]) (.seq (.seq (.reg []) (.cond (.seq (.reg []) .nil) .nil)) (.seq (.seq (.reg [(3, 0, true)]) (.cond (.seq (.reg []) .nil) .nil)) (.seq (.regE [(3, 1, false), (10, 1, false)] (.take 1 (.take 2 (.take 4 (.take 5 (.take 6 (.take 7 (.take 8 (.eff (.alt (.one 0 (.eff (.alt (.one 3 (.eff (.one 9 (.eff (.one 10 (.take 11 (.eff (.one 12 .nil)))))))) (.one 9 (.eff (.one 3 (.eff (.one 10 (.take 11 (.eff (.one 12 .nil))))))))))) (.one 9 (.eff (.one 0 (.eff (.one 3 (.eff (.one 10 (.take 11 (.eff (.one 12 .nil))))))))))))))))))) [0, 3, 9, 10, 12]) (.seq (.regD [] [0, 1, 2, 3, 4, 5] [3]) .nil)))))))
set_option maxRecDepth 100000 in
theorem nf87 (b_L : Option Addr) (b_L_n : Nat) (b_L_c : Nat) (b_P : Option Addr) (b_P_n : Nat) (b_P_c : Nat) (call : Int) (name : ByteArray) (w : World) (R : Ending → World → Prop) (h :
(∀ w1 : World, ((w1 = (w.alloc (Obj.cells #[(Value.slice b_L b_L_n b_L_c), (Value.slice b_P b_P_n b_P_c)] 74 (0, 0)))) →
(∀ w3 : World, ((w3 = (w1.alloc (Obj.cells #[(Value.slice none 0 0), (Value.slice none 0 0)] 74 (0, 0)))) →
((((decide (call < 1)) = true) →
(∃ o6 : Option Addr, (∃ n7 : Nat, (∃ n8 : Nat, (((w3.cell? (⟨(hs w), 0, none⟩ : Addr)) = (some (Value.slice o6 n7 n8))) ∧
(∃ o9 : Option Addr, (∃ n10 : Nat, (∃ n11 : Nat, (((w3.cell? (⟨(hs w), 1, none⟩ : Addr)) = (some (Value.slice o9 n10 n11))) ∧
((Nf.There w3 (⟨(hs w1), 0, none⟩ : Addr) 2) ∧
(∀ w12 : World, ((w12 = (Nf.setCells w3 (⟨(hs w1), 0, none⟩ : Addr) [(Value.slice o6 n7 n8), (Value.slice o9 n10 n11)] 0)) →
(∃ o14 : Option Addr, (∃ n15 : Nat, (∃ n16 : Nat, (((w12.cell? (⟨(hs w1), 0, none⟩ : Addr)) = (some (Value.slice o14 n15 n16))) ∧
(∃ o17 : Option Addr, (∃ n18 : Nat, (∃ n19 : Nat, (((w12.cell? (⟨(hs w1), 1, none⟩ : Addr)) = (some (Value.slice o17 n18 n19))) ∧
(R (Ending.returned (Value.tuple #[(Value.agg #[(Value.slice o14 n15 n16), (Value.slice o17 n18 n19)]), (Value.int IntKind.i64 0), (Value.int IntKind.i64 1)])) w12))))))))))))))))))))) ∧
(((decide (call < 1)) = false) →
(∃ o21 : Option Addr, (∃ n22 : Nat, (∃ n23 : Nat, (((w3.cell? (⟨(hs w), 0, none⟩ : Addr)) = (some (Value.slice o21 n22 n23))) ∧
(∃ o24 : Option Addr, (∃ n25 : Nat, (∃ n26 : Nat, (((w3.cell? (⟨(hs w), 1, none⟩ : Addr)) = (some (Value.slice o24 n25 n26))) ∧
(Calls Try.prog 105 #[(Value.agg #[(Value.slice o21 n22 n23), (Value.slice o24 n25 n26)]), (Value.string name)] w3 (fun (e27 : Ending) => (fun (w28 : World) => (∃ s29 : ByteArray, (∃ x30 : Int, (∃ o31 : Option Addr, (∃ n32 : Nat, (∃ n33 : Nat, (∃ b34 : Bool, ((e27 = (Ending.returned (Value.tuple #[(Value.agg #[(Value.string s29), (Value.int IntKind.i64 x30), (Value.slice o31 n32 n33)]), (Value.bool b34)]))) ∧
(((b34 = true) →
(∀ w36 : World, ((w36 = (w28.alloc (Obj.cells #[(Value.string (ByteArray.mk #[])), (Value.int IntKind.i64 0), (Value.slice none 0 0)] 24 (0, 0)))) →
((Nf.There w36 (⟨(hs w28), 0, none⟩ : Addr) 3) ∧
(∀ w38 : World, ((w38 = (Nf.setCells w36 (⟨(hs w28), 0, none⟩ : Addr) [(Value.string s29), (Value.int IntKind.i64 x30), (Value.slice o31 n32 n33)] 0)) →
(∃ o40 : Option Addr, (∃ n41 : Nat, (∃ n42 : Nat, (((w38.cell? (⟨(hs w), 0, none⟩ : Addr)) = (some (Value.slice o40 n41 n42))) ∧
(∃ o43 : Option Addr, (∃ n44 : Nat, (∃ n45 : Nat, (((w38.cell? (⟨(hs w), 1, none⟩ : Addr)) = (some (Value.slice o43 n44 n45))) ∧
(Calls Try.prog 117 #[(Value.agg #[(Value.slice o40 n41 n42), (Value.slice o43 n44 n45)]), (Value.int IntKind.i64 call)] w38 (fun (e46 : Ending) => (fun (w47 : World) => (∃ x48 : Int, ((e46 = (Ending.returned (Value.int IntKind.i64 x48))) ∧
((((decide (x48 ≥ 0)) = true) →
(∃ o50 : Option Addr, (∃ n51 : Nat, (∃ n52 : Nat, (((w47.cell? (⟨(hs w), 0, none⟩ : Addr)) = (some (Value.slice o50 n51 n52))) ∧
(∃ o53 : Option Addr, (∃ n54 : Nat, (∃ n55 : Nat, (((w47.cell? (⟨(hs w), 1, none⟩ : Addr)) = (some (Value.slice o53 n54 n55))) ∧
((Nf.There w47 (⟨(hs w1), 0, none⟩ : Addr) 2) ∧
(∀ w56 : World, ((w56 = (Nf.setCells w47 (⟨(hs w1), 0, none⟩ : Addr) [(Value.slice o50 n51 n52), (Value.slice o53 n54 n55)] 0)) →
(∃ o58 : Option Addr, (∃ n59 : Nat, (∃ n60 : Nat, (((w56.cell? (⟨(hs w1), 0, none⟩ : Addr)) = (some (Value.slice o58 n59 n60))) ∧
(∃ o61 : Option Addr, (∃ n62 : Nat, (∃ n63 : Nat, (((w56.cell? (⟨(hs w1), 1, none⟩ : Addr)) = (some (Value.slice o61 n62 n63))) ∧
(R (Ending.returned (Value.tuple #[(Value.agg #[(Value.slice o58 n59 n60), (Value.slice o61 n62 n63)]), (Value.int IntKind.i64 0), (Value.int IntKind.i64 5)])) w56))))))))))))))))))))) ∧
(((decide (x48 ≥ 0)) = false) →
(∀ w65 : World, ((w65 = w47.drew) →
(∃ o67 : Option Addr, (∃ n68 : Nat, (∃ n69 : Nat, (((w65.cell? (⟨(hs w), 1, none⟩ : Addr)) = (some (Value.slice o67 n68 n69))) ∧
(∃ x70 : Int, (((w65.cell? (⟨(hs w28), 1, none⟩ : Addr)) = (some (Value.int IntKind.i64 x70))) ∧
((∀ w71 : World, ((w71 = (w65.alloc (Obj.cells #[] 157 (0, 0)))) →
((Nf.Kept w65 w71 (⟨(hs w28), 1, none⟩ : Addr) 1) ∧
((Nf.Kept w65 w71 (⟨(hs w), 1, none⟩ : Addr) 1) ∧
((RunOk Try.prog (Nf.Hold (Builtin.append_ #[72, 72] 72 #[(Value.slice (some (⟨(hs w65), 0, none⟩ : Addr)) 0 0), (Value.slice o67 n68 n69)])) w71 (fun (v73 : Value) => (fun (w74 : World) => (∃ o75 : Option Addr, (∃ n76 : Nat, (∃ n77 : Nat, ((v73 = (Value.slice o75 n76 n77)) ∧
((Nf.Kept w65 w74 (⟨(hs w28), 1, none⟩ : Addr) 1) ∧
(∀ w78 : World, ((w78 = (w74.alloc (Obj.cells #[(Value.int IntKind.i64 call), (Value.string name), (Value.int IntKind.i64 x70)] 157 (0, 0)))) →
(RunOk Try.prog (Nf.Hold (Builtin.append_ #[72, 72] 72 #[(Value.slice o75 n76 n77), (Value.slice (some (⟨(hs w74), 0, none⟩ : Addr)) 1 1)])) w78 (fun (v80 : Value) => (fun (w81 : World) => (∃ o82 : Option Addr, (∃ n83 : Nat, (∃ n84 : Nat, ((v80 = (Value.slice o82 n83 n84)) ∧
((Nf.There w81 (⟨(hs w), 1, none⟩ : Addr) 1) ∧
(∀ w85 : World, ((w85 = (Nf.setCells w81 (⟨(hs w), 1, none⟩ : Addr) [(Value.slice o82 n83 n84)] 0)) →
(∀ w87 : World, ((w87 = w85.drew) →
(∃ o89 : Option Addr, (∃ n90 : Nat, (∃ n91 : Nat, (((w87.cell? (⟨(hs w), 0, none⟩ : Addr)) = (some (Value.slice o89 n90 n91))) ∧
(∃ o92 : Option Addr, (∃ n93 : Nat, (∃ n94 : Nat, (((w87.cell? (⟨(hs w), 1, none⟩ : Addr)) = (some (Value.slice o92 n93 n94))) ∧
(∃ x95 : Int, (((w87.cell? (⟨(hs w28), 1, none⟩ : Addr)) = (some (Value.int IntKind.i64 x95))) ∧
((Nf.There w87 (⟨(hs w1), 0, none⟩ : Addr) 2) ∧
(∀ w96 : World, ((w96 = (Nf.setCells w87 (⟨(hs w1), 0, none⟩ : Addr) [(Value.slice o89 n90 n91), (Value.slice o92 n93 n94)] 0)) →
((Nf.Kept w87 w96 (⟨(hs w28), 1, none⟩ : Addr) 1) ∧
(∃ o98 : Option Addr, (∃ n99 : Nat, (∃ n100 : Nat, (((w96.cell? (⟨(hs w1), 0, none⟩ : Addr)) = (some (Value.slice o98 n99 n100))) ∧
(∃ o101 : Option Addr, (∃ n102 : Nat, (∃ n103 : Nat, (((w96.cell? (⟨(hs w1), 1, none⟩ : Addr)) = (some (Value.slice o101 n102 n103))) ∧
(R (Ending.returned (Value.tuple #[(Value.agg #[(Value.slice o98 n99 n100), (Value.slice o101 n102 n103)]), (Value.int IntKind.i64 x95), (Value.int IntKind.i64 0)])) w96))))))))))))))))))))))))))))))))))))))))))))) ∧
(∀ w104 : World, ((w104 = (w71.alloc (Obj.cells #[(Value.int IntKind.i64 call), (Value.string name), (Value.int IntKind.i64 x70)] 157 (0, 0)))) →
((Nf.Kept w65 w104 (⟨(hs w), 1, none⟩ : Addr) 1) ∧
(RunOk Try.prog (Nf.Hold (Builtin.append_ #[72, 72] 72 #[(Value.slice (some (⟨(hs w65), 0, none⟩ : Addr)) 0 0), (Value.slice o67 n68 n69)])) w104 (fun (v106 : Value) => (fun (w107 : World) => (∃ o108 : Option Addr, (∃ n109 : Nat, (∃ n110 : Nat, ((v106 = (Value.slice o108 n109 n110)) ∧
(RunOk Try.prog (Nf.Hold (Builtin.append_ #[72, 72] 72 #[(Value.slice o108 n109 n110), (Value.slice (some (⟨(hs w71), 0, none⟩ : Addr)) 1 1)])) w107 (fun (v111 : Value) => (fun (w112 : World) => (∃ o113 : Option Addr, (∃ n114 : Nat, (∃ n115 : Nat, ((v111 = (Value.slice o113 n114 n115)) ∧
((Nf.There w112 (⟨(hs w), 1, none⟩ : Addr) 1) ∧
(∀ w116 : World, ((w116 = (Nf.setCells w112 (⟨(hs w), 1, none⟩ : Addr) [(Value.slice o113 n114 n115)] 0)) →
(∀ w118 : World, ((w118 = w116.drew) →
(∃ o120 : Option Addr, (∃ n121 : Nat, (∃ n122 : Nat, (((w118.cell? (⟨(hs w), 0, none⟩ : Addr)) = (some (Value.slice o120 n121 n122))) ∧
(∃ o123 : Option Addr, (∃ n124 : Nat, (∃ n125 : Nat, (((w118.cell? (⟨(hs w), 1, none⟩ : Addr)) = (some (Value.slice o123 n124 n125))) ∧
(∃ x126 : Int, (((w118.cell? (⟨(hs w28), 1, none⟩ : Addr)) = (some (Value.int IntKind.i64 x126))) ∧
((Nf.There w118 (⟨(hs w1), 0, none⟩ : Addr) 2) ∧
(∀ w127 : World, ((w127 = (Nf.setCells w118 (⟨(hs w1), 0, none⟩ : Addr) [(Value.slice o120 n121 n122), (Value.slice o123 n124 n125)] 0)) →
((Nf.Kept w118 w127 (⟨(hs w28), 1, none⟩ : Addr) 1) ∧
(∃ o129 : Option Addr, (∃ n130 : Nat, (∃ n131 : Nat, (((w127.cell? (⟨(hs w1), 0, none⟩ : Addr)) = (some (Value.slice o129 n130 n131))) ∧
(∃ o132 : Option Addr, (∃ n133 : Nat, (∃ n134 : Nat, (((w127.cell? (⟨(hs w1), 1, none⟩ : Addr)) = (some (Value.slice o132 n133 n134))) ∧
(R (Ending.returned (Value.tuple #[(Value.agg #[(Value.slice o129 n130 n131), (Value.slice o132 n133 n134)]), (Value.int IntKind.i64 x126), (Value.int IntKind.i64 0)])) w127)))))))))))))))))))))))))))))))))))))))))))))))))) ∧
(∀ w135 : World, ((w135 = (w65.alloc (Obj.cells #[(Value.int IntKind.i64 call), (Value.string name), (Value.int IntKind.i64 x70)] 157 (0, 0)))) →
((Nf.Kept w65 w135 (⟨(hs w), 1, none⟩ : Addr) 1) ∧
(∀ w137 : World, ((w137 = (w135.alloc (Obj.cells #[] 157 (0, 0)))) →
((Nf.Kept w65 w137 (⟨(hs w), 1, none⟩ : Addr) 1) ∧
(RunOk Try.prog (Nf.Hold (Builtin.append_ #[72, 72] 72 #[(Value.slice (some (⟨(hs w135), 0, none⟩ : Addr)) 0 0), (Value.slice o67 n68 n69)])) w137 (fun (v139 : Value) => (fun (w140 : World) => (∃ o141 : Option Addr, (∃ n142 : Nat, (∃ n143 : Nat, ((v139 = (Value.slice o141 n142 n143)) ∧
(RunOk Try.prog (Nf.Hold (Builtin.append_ #[72, 72] 72 #[(Value.slice o141 n142 n143), (Value.slice (some (⟨(hs w65), 0, none⟩ : Addr)) 1 1)])) w140 (fun (v144 : Value) => (fun (w145 : World) => (∃ o146 : Option Addr, (∃ n147 : Nat, (∃ n148 : Nat, ((v144 = (Value.slice o146 n147 n148)) ∧
((Nf.There w145 (⟨(hs w), 1, none⟩ : Addr) 1) ∧
(∀ w149 : World, ((w149 = (Nf.setCells w145 (⟨(hs w), 1, none⟩ : Addr) [(Value.slice o146 n147 n148)] 0)) →
(∀ w151 : World, ((w151 = w149.drew) →
(∃ o153 : Option Addr, (∃ n154 : Nat, (∃ n155 : Nat, (((w151.cell? (⟨(hs w), 0, none⟩ : Addr)) = (some (Value.slice o153 n154 n155))) ∧
(∃ o156 : Option Addr, (∃ n157 : Nat, (∃ n158 : Nat, (((w151.cell? (⟨(hs w), 1, none⟩ : Addr)) = (some (Value.slice o156 n157 n158))) ∧
(∃ x159 : Int, (((w151.cell? (⟨(hs w28), 1, none⟩ : Addr)) = (some (Value.int IntKind.i64 x159))) ∧
((Nf.There w151 (⟨(hs w1), 0, none⟩ : Addr) 2) ∧
(∀ w160 : World, ((w160 = (Nf.setCells w151 (⟨(hs w1), 0, none⟩ : Addr) [(Value.slice o153 n154 n155), (Value.slice o156 n157 n158)] 0)) →
((Nf.Kept w151 w160 (⟨(hs w28), 1, none⟩ : Addr) 1) ∧
(∃ o162 : Option Addr, (∃ n163 : Nat, (∃ n164 : Nat, (((w160.cell? (⟨(hs w1), 0, none⟩ : Addr)) = (some (Value.slice o162 n163 n164))) ∧
(∃ o165 : Option Addr, (∃ n166 : Nat, (∃ n167 : Nat, (((w160.cell? (⟨(hs w1), 1, none⟩ : Addr)) = (some (Value.slice o165 n166 n167))) ∧
(R (Ending.returned (Value.tuple #[(Value.agg #[(Value.slice o162 n163 n164), (Value.slice o165 n166 n167)]), (Value.int IntKind.i64 x159), (Value.int IntKind.i64 0)])) w160)))))))))))))))))))))))))))))))))))))))))))))))))))))))))))))))))))))))))))))) ∧
((b34 = false) →
(∀ w169 : World, ((w169 = (w28.alloc (Obj.cells #[(Value.string (ByteArray.mk #[])), (Value.int IntKind.i64 0), (Value.slice none 0 0)] 24 (0, 0)))) →
((Nf.There w169 (⟨(hs w28), 0, none⟩ : Addr) 3) ∧
(∀ w171 : World, ((w171 = (Nf.setCells w169 (⟨(hs w28), 0, none⟩ : Addr) [(Value.string s29), (Value.int IntKind.i64 x30), (Value.slice o31 n32 n33)] 0)) →
(∃ o173 : Option Addr, (∃ n174 : Nat, (∃ n175 : Nat, (((w171.cell? (⟨(hs w), 0, none⟩ : Addr)) = (some (Value.slice o173 n174 n175))) ∧
(∃ o176 : Option Addr, (∃ n177 : Nat, (∃ n178 : Nat, (((w171.cell? (⟨(hs w), 1, none⟩ : Addr)) = (some (Value.slice o176 n177 n178))) ∧
((Nf.There w171 (⟨(hs w1), 0, none⟩ : Addr) 2) ∧
(∀ w179 : World, ((w179 = (Nf.setCells w171 (⟨(hs w1), 0, none⟩ : Addr) [(Value.slice o173 n174 n175), (Value.slice o176 n177 n178)] 0)) →
(∃ o181 : Option Addr, (∃ n182 : Nat, (∃ n183 : Nat, (((w179.cell? (⟨(hs w1), 0, none⟩ : Addr)) = (some (Value.slice o181 n182 n183))) ∧
(∃ o184 : Option Addr, (∃ n185 : Nat, (∃ n186 : Nat, (((w179.cell? (⟨(hs w1), 1, none⟩ : Addr)) = (some (Value.slice o184 n185 n186))) ∧
(R (Ending.returned (Value.tuple #[(Value.agg #[(Value.slice o181 n182 n183), (Value.slice o184 n185 n186)]), (Value.int IntKind.i64 0), (Value.int IntKind.i64 4)])) w179)))))))))))))))))))))))))))))))))))))))))))))))))))) :
    Calls Try.prog 87 #[(.agg #[(.slice b_L b_L_n b_L_c), (.slice b_P b_P_n b_P_c)]), (.int .i64 call), (.string name)] w R :=
  calls_of_vc an87 Try.func87 rfl (by kernel_rfl) (by kernel_rfl) (Eq.mp (by kernel_rfl) h)

/-- samaritan/samaritanref15.Pinned -/
def an108 : An := (.seq (.reg []) (.seq (.reg []) (.seq (.seq (.reg [(1, 0, true)]) (.cond (.seq (.reg []) .nil) .nil)) (.seq (.regD [(15, 0, true)] [0, 1, 2, 3, 4, 5, 6, 7, 8, 9, 10, 11, 12, 13, 14, 15, 16, 17] [13, 16]) .nil))))
set_option maxRecDepth 100000 in
theorem nf108 (b_L : Option Addr) (b_L_n : Nat) (b_L_c : Nat) (b_P : Option Addr) (b_P_n : Nat) (b_P_c : Nat) (call : Int) (w : World) (R : Ending → World → Prop) (h :
(∀ w1 : World, ((w1 = (w.alloc (Obj.cells #[(Value.slice b_L b_L_n b_L_c), (Value.slice b_P b_P_n b_P_c)] 74 (0, 0)))) →
(∀ w3 : World, ((w3 = (w1.alloc (Obj.cells #[(Value.string (ByteArray.mk #[])), (Value.int IntKind.i64 0), (Value.slice none 0 0)] 24 (0, 0)))) →
(∃ o5 : Option Addr, (∃ n6 : Nat, (∃ n7 : Nat, (((w3.cell? (⟨(hs w), 0, none⟩ : Addr)) = (some (Value.slice o5 n6 n7))) ∧
(∃ o8 : Option Addr, (∃ n9 : Nat, (∃ n10 : Nat, (((w3.cell? (⟨(hs w), 1, none⟩ : Addr)) = (some (Value.slice o8 n9 n10))) ∧
(Calls Try.prog 117 #[(Value.agg #[(Value.slice o5 n6 n7), (Value.slice o8 n9 n10)]), (Value.int IntKind.i64 call)] w3 (fun (e11 : Ending) => (fun (w12 : World) => (∃ x13 : Int, ((e11 = (Ending.returned (Value.int IntKind.i64 x13))) ∧
((((decide (x13 < 0)) = true) →
((Nf.There w12 (⟨(hs w1), 0, none⟩ : Addr) 3) ∧
(∀ w15 : World, ((w15 = (Nf.setCells w12 (⟨(hs w1), 0, none⟩ : Addr) [(Value.string (ByteArray.mk #[])), (Value.int IntKind.i64 0), (Value.slice none 0 0)] 0)) →
(∃ s17 : ByteArray, (((w15.cell? (⟨(hs w1), 0, none⟩ : Addr)) = (some (Value.string s17))) ∧
(∃ x18 : Int, (((w15.cell? (⟨(hs w1), 1, none⟩ : Addr)) = (some (Value.int IntKind.i64 x18))) ∧
(∃ o19 : Option Addr, (∃ n20 : Nat, (∃ n21 : Nat, (((w15.cell? (⟨(hs w1), 2, none⟩ : Addr)) = (some (Value.slice o19 n20 n21))) ∧
(R (Ending.returned (Value.tuple #[(Value.agg #[(Value.string s17), (Value.int IntKind.i64 x18), (Value.slice o19 n20 n21)]), (Value.bool false)])) w15))))))))))))) ∧
(((decide (x13 < 0)) = false) →
(∀ w23 : World, ((w23 = w12.drew) →
(∃ o25 : Option Addr, (∃ n26 : Nat, (∃ n27 : Nat, (((w23.cell? (⟨(hs w), 0, none⟩ : Addr)) = (some (Value.slice o25 n26 n27))) ∧
(∃ o28 : Option Addr, (∃ n29 : Nat, (∃ n30 : Nat, (((w23.cell? (⟨(hs w), 1, none⟩ : Addr)) = (some (Value.slice o28 n29 n30))) ∧
(∃ o31 : Option Addr, (∃ n32 : Nat, (∃ n33 : Nat, (((w23.cell? (⟨(hs w), 1, none⟩ : Addr)) = (some (Value.slice o31 n32 n33))) ∧
(∃ a34 : Addr, ((o31 = (some a34)) ∧
((((0 : Int) ≤ x13) ∧
(x13 < ((n32 : Nat) : Int))) ∧
(∃ s35 : ByteArray, (((w23.cell? (Addr.add (Addr.add a34 ((x13).toNat * 3)) 1)) = (some (Value.string s35))) ∧
(∃ o36 : Option Addr, (∃ n37 : Nat, (∃ n38 : Nat, (((w23.cell? (⟨(hs w), 1, none⟩ : Addr)) = (some (Value.slice o36 n37 n38))) ∧
(∃ a39 : Addr, ((o36 = (some a39)) ∧
((((0 : Int) ≤ x13) ∧
(x13 < ((n37 : Nat) : Int))) ∧
(∃ x40 : Int, (((w23.cell? (Addr.add (Addr.add a39 ((x13).toNat * 3)) 2)) = (some (Value.int IntKind.i64 x40))) ∧
(Calls Try.prog 109 #[(Value.agg #[(Value.slice o25 n26 n27), (Value.slice o28 n29 n30)]), (Value.string s35), (Value.int IntKind.i64 x40)] w23 (fun (e41 : Ending) => (fun (w42 : World) => (∃ s43 : ByteArray, (∃ x44 : Int, (∃ o45 : Option Addr, (∃ n46 : Nat, (∃ n47 : Nat, (∃ b48 : Bool, ((e41 = (Ending.returned (Value.tuple #[(Value.agg #[(Value.string s43), (Value.int IntKind.i64 x44), (Value.slice o45 n46 n47)]), (Value.bool b48)]))) ∧
(((b48 = true) →
((Nf.There w42 (⟨(hs w1), 0, none⟩ : Addr) 3) ∧
(∀ w50 : World, ((w50 = (Nf.setCells w42 (⟨(hs w1), 0, none⟩ : Addr) [(Value.string s43), (Value.int IntKind.i64 x44), (Value.slice o45 n46 n47)] 0)) →
(∃ s52 : ByteArray, (((w50.cell? (⟨(hs w1), 0, none⟩ : Addr)) = (some (Value.string s52))) ∧
(∃ x53 : Int, (((w50.cell? (⟨(hs w1), 1, none⟩ : Addr)) = (some (Value.int IntKind.i64 x53))) ∧
(∃ o54 : Option Addr, (∃ n55 : Nat, (∃ n56 : Nat, (((w50.cell? (⟨(hs w1), 2, none⟩ : Addr)) = (some (Value.slice o54 n55 n56))) ∧
(R (Ending.returned (Value.tuple #[(Value.agg #[(Value.string s52), (Value.int IntKind.i64 x53), (Value.slice o54 n55 n56)]), (Value.bool true)])) w50))))))))))))) ∧
((b48 = false) →
((Nf.There w42 (⟨(hs w1), 0, none⟩ : Addr) 3) ∧
(∀ w58 : World, ((w58 = (Nf.setCells w42 (⟨(hs w1), 0, none⟩ : Addr) [(Value.string s43), (Value.int IntKind.i64 x44), (Value.slice o45 n46 n47)] 0)) →
(∃ s60 : ByteArray, (((w58.cell? (⟨(hs w1), 0, none⟩ : Addr)) = (some (Value.string s60))) ∧
(∃ x61 : Int, (((w58.cell? (⟨(hs w1), 1, none⟩ : Addr)) = (some (Value.int IntKind.i64 x61))) ∧
(∃ o62 : Option Addr, (∃ n63 : Nat, (∃ n64 : Nat, (((w58.cell? (⟨(hs w1), 2, none⟩ : Addr)) = (some (Value.slice o62 n63 n64))) ∧
(R (Ending.returned (Value.tuple #[(Value.agg #[(Value.string s60), (Value.int IntKind.i64 x61), (Value.slice o62 n63 n64)]), (Value.bool false)])) w58)))))))))))))))))))))))))))))))))))))))))))))))))))))))))))))))))))))))) :
    Calls Try.prog 108 #[(.agg #[(.slice b_L b_L_n b_L_c), (.slice b_P b_P_n b_P_c)]), (.int .i64 call)] w R :=
  calls_of_vc an108 Try.func108 rfl (by kernel_rfl) (by kernel_rfl) (Eq.mp (by kernel_rfl) h)

/-- samaritan/samaritanref15.Drop -/
def an89 : An := (.seq (.reg []) (.seq (.reg [(6, 0, true)]) (.seq (.seq (.reg []) (.cond (.seq (.reg []) .nil) .nil)) (.seq (.reg [(5, 0, true)]) (.seq (.seq (.reg [(3, 0, true)]) (.cond (.seq (.reg []) .nil) .nil)) (.seq (.seq (.reg []) (.blk (.loop [(12, .int .i64)] (.seq (.seq (.reg [(4, 0, true)]) (.cond .nil .nil)) (.seq (.blk (.seq (.reg [(7, 3, true), (16, 0, true)]) (.cond (.seq (.reg []) .nil) .nil))) (.reg [])))))) (.seq (.reg []) (.seq (.seq (.reg []) (.blk (.loop [(13, .slice), (14, .int .i64)] (.seq (.seq (.reg [(4, 0, true)]) (.cond .nil .nil)) (.cut [(13, .slice)] (.blk (.seq (.reg [(7, 3, true), (16, 0, true)]) (.cond (.reg [(7, 1, false)]) .nil))) (.reg [])))))) (.seq (.reg []) (.seq (.reg []) .nil))))))))))
set_option maxRecDepth 100000 in
theorem nf89 (b_L : Option Addr) (b_L_n : Nat) (b_L_c : Nat) (b_P : Option Addr) (b_P_n : Nat) (b_P_c : Nat) (name : ByteArray) (version : Int) (w : World) (R : Ending → World → Prop) (h :
(∀ w1 : World, ((w1 = (w.alloc (Obj.cells #[(Value.slice b_L b_L_n b_L_c), (Value.slice b_P b_P_n b_P_c)] 74 (0, 0)))) →
(∀ w3 : World, ((w3 = (w1.alloc (Obj.cells #[(Value.slice none 0 0), (Value.slice none 0 0)] 74 (0, 0)))) →
(∃ o5 : Option Addr, (∃ n6 : Nat, (∃ n7 : Nat, (((w3.cell? (⟨(hs w), 0, none⟩ : Addr)) = (some (Value.slice o5 n6 n7))) ∧
(∃ o8 : Option Addr, (∃ n9 : Nat, (∃ n10 : Nat, (((w3.cell? (⟨(hs w), 1, none⟩ : Addr)) = (some (Value.slice o8 n9 n10))) ∧
(Calls Try.prog 109 #[(Value.agg #[(Value.slice o5 n6 n7), (Value.slice o8 n9 n10)]), (Value.string name), (Value.int IntKind.i64 version)] w3 (fun (e11 : Ending) => (fun (w12 : World) => (∃ s13 : ByteArray, (∃ x14 : Int, (∃ o15 : Option Addr, (∃ n16 : Nat, (∃ n17 : Nat, (∃ b18 : Bool, ((e11 = (Ending.returned (Value.tuple #[(Value.agg #[(Value.string s13), (Value.int IntKind.i64 x14), (Value.slice o15 n16 n17)]), (Value.bool b18)]))) ∧
(((b18 = true) →
(∀ w20 : World, ((w20 = (w12.alloc (Obj.cells #[(Value.string (ByteArray.mk #[])), (Value.int IntKind.i64 0), (Value.slice none 0 0)] 24 (0, 0)))) →
((Nf.There w20 (⟨(hs w12), 0, none⟩ : Addr) 3) ∧
(∀ w22 : World, ((w22 = (Nf.setCells w20 (⟨(hs w12), 0, none⟩ : Addr) [(Value.string s13), (Value.int IntKind.i64 x14), (Value.slice o15 n16 n17)] 0)) →
(∃ o24 : Option Addr, (∃ n25 : Nat, (∃ n26 : Nat, (((w22.cell? (⟨(hs w), 0, none⟩ : Addr)) = (some (Value.slice o24 n25 n26))) ∧
(∃ o27 : Option Addr, (∃ n28 : Nat, (∃ n29 : Nat, (((w22.cell? (⟨(hs w), 1, none⟩ : Addr)) = (some (Value.slice o27 n28 n29))) ∧
(Calls Try.prog 105 #[(Value.agg #[(Value.slice o24 n25 n26), (Value.slice o27 n28 n29)]), (Value.string name)] w22 (fun (e30 : Ending) => (fun (w31 : World) => (∃ s32 : ByteArray, (∃ x33 : Int, (∃ o34 : Option Addr, (∃ n35 : Nat, (∃ n36 : Nat, (∃ b37 : Bool, ((e30 = (Ending.returned (Value.tuple #[(Value.agg #[(Value.string s32), (Value.int IntKind.i64 x33), (Value.slice o34 n35 n36)]), (Value.bool b37)]))) ∧
(((b37 = true) →
(∀ w39 : World, ((w39 = (w31.alloc (Obj.cells #[(Value.string (ByteArray.mk #[])), (Value.int IntKind.i64 0), (Value.slice none 0 0)] 24 (0, 0)))) →
((Nf.There w39 (⟨(hs w31), 0, none⟩ : Addr) 3) ∧
(∀ w41 : World, ((w41 = (Nf.setCells w39 (⟨(hs w31), 0, none⟩ : Addr) [(Value.string s32), (Value.int IntKind.i64 x33), (Value.slice o34 n35 n36)] 0)) →
(∃ x43 : Int, (((w41.cell? (⟨(hs w31), 1, none⟩ : Addr)) = (some (Value.int IntKind.i64 x43))) ∧
((((decide (x43 = version)) = true) →
(∃ o45 : Option Addr, (∃ n46 : Nat, (∃ n47 : Nat, (((w41.cell? (⟨(hs w), 0, none⟩ : Addr)) = (some (Value.slice o45 n46 n47))) ∧
(∃ o48 : Option Addr, (∃ n49 : Nat, (∃ n50 : Nat, (((w41.cell? (⟨(hs w), 1, none⟩ : Addr)) = (some (Value.slice o48 n49 n50))) ∧
((Nf.There w41 (⟨(hs w1), 0, none⟩ : Addr) 2) ∧
(∀ w51 : World, ((w51 = (Nf.setCells w41 (⟨(hs w1), 0, none⟩ : Addr) [(Value.slice o45 n46 n47), (Value.slice o48 n49 n50)] 0)) →
(∃ o53 : Option Addr, (∃ n54 : Nat, (∃ n55 : Nat, (((w51.cell? (⟨(hs w1), 0, none⟩ : Addr)) = (some (Value.slice o53 n54 n55))) ∧
(∃ o56 : Option Addr, (∃ n57 : Nat, (∃ n58 : Nat, (((w51.cell? (⟨(hs w1), 1, none⟩ : Addr)) = (some (Value.slice o56 n57 n58))) ∧
(R (Ending.returned (Value.tuple #[(Value.agg #[(Value.slice o53 n54 n55), (Value.slice o56 n57 n58)]), (Value.int IntKind.i64 8)])) w51))))))))))))))))))))) ∧
(((decide (x43 = version)) = false) →
(∃ k60 : (Nat → (Int → (World → Prop))), ((∃ n61 : Nat, (k60 n61 0 w41)) ∧
(∀ n62 : Nat, ((Nat → Value) →
(∀ w64 : World, (∀ x65 : Int, ((k60 n62 x65 w64) →
(∃ o67 : Option Addr, (∃ n68 : Nat, (∃ n69 : Nat, (((w64.cell? (⟨(hs w), 1, none⟩ : Addr)) = (some (Value.slice o67 n68 n69))) ∧
((((decide (x65 < ((n68 : Nat) : Int))) = true) →
(∃ o71 : Option Addr, (∃ n72 : Nat, (∃ n73 : Nat, (((w64.cell? (⟨(hs w), 1, none⟩ : Addr)) = (some (Value.slice o71 n72 n73))) ∧
(∃ a74 : Addr, ((o71 = (some a74)) ∧
((((0 : Int) ≤ x65) ∧
(x65 < ((n72 : Nat) : Int))) ∧
(∃ s75 : ByteArray, (((w64.cell? (Addr.add (Addr.add a74 ((x65).toNat * 3)) 1)) = (some (Value.string s75))) ∧
((((Nf.strEq s75 name) = true) →
(∃ o77 : Option Addr, (∃ n78 : Nat, (∃ n79 : Nat, (((w64.cell? (⟨(hs w), 1, none⟩ : Addr)) = (some (Value.slice o77 n78 n79))) ∧
(∃ a80 : Addr, ((o77 = (some a80)) ∧
((((0 : Int) ≤ x65) ∧
(x65 < ((n78 : Nat) : Int))) ∧
(∃ x81 : Int, (((w64.cell? (Addr.add (Addr.add a80 ((x65).toNat * 3)) 2)) = (some (Value.int IntKind.i64 x81))) ∧
((((decide (x81 = version)) = true) →
(∃ o83 : Option Addr, (∃ n84 : Nat, (∃ n85 : Nat, (((w64.cell? (⟨(hs w), 0, none⟩ : Addr)) = (some (Value.slice o83 n84 n85))) ∧
(∃ o86 : Option Addr, (∃ n87 : Nat, (∃ n88 : Nat, (((w64.cell? (⟨(hs w), 1, none⟩ : Addr)) = (some (Value.slice o86 n87 n88))) ∧
((Nf.There w64 (⟨(hs w1), 0, none⟩ : Addr) 2) ∧
(∀ w89 : World, ((w89 = (Nf.setCells w64 (⟨(hs w1), 0, none⟩ : Addr) [(Value.slice o83 n84 n85), (Value.slice o86 n87 n88)] 0)) →
(∃ o91 : Option Addr, (∃ n92 : Nat, (∃ n93 : Nat, (((w89.cell? (⟨(hs w1), 0, none⟩ : Addr)) = (some (Value.slice o91 n92 n93))) ∧
(∃ o94 : Option Addr, (∃ n95 : Nat, (∃ n96 : Nat, (((w89.cell? (⟨(hs w1), 1, none⟩ : Addr)) = (some (Value.slice o94 n95 n96))) ∧
(R (Ending.returned (Value.tuple #[(Value.agg #[(Value.slice o91 n92 n93), (Value.slice o94 n95 n96)]), (Value.int IntKind.i64 10)])) w89))))))))))))))))))))) ∧
(((decide (x81 = version)) = false) →
(∃ n98 : Nat, ((n98 < n62) ∧
(k60 n98 (IntKind.wrap IntKind.i64 (x65 + 1)) w64))))))))))))))) ∧
(((Nf.strEq s75 name) = false) →
(∃ n100 : Nat, ((n100 < n62) ∧
(k60 n100 (IntKind.wrap IntKind.i64 (x65 + 1)) w64))))))))))))))) ∧
(((decide (x65 < ((n68 : Nat) : Int))) = false) →
(∃ k102 : (Nat → (Option Addr → (Nat → (Nat → (Int → (World → Prop)))))), ((∃ n103 : Nat, (k102 n103 none 0 0 0 w64)) ∧
(∀ n104 : Nat, ((Nat → Value) →
(∀ w106 : World, (∀ o107 : Option Addr, (∀ n108 : Nat, (∀ n109 : Nat, (∀ x110 : Int, ((k102 n104 o107 n108 n109 x110 w106) →
(∃ o112 : Option Addr, (∃ n113 : Nat, (∃ n114 : Nat, (((w106.cell? (⟨(hs w), 0, none⟩ : Addr)) = (some (Value.slice o112 n113 n114))) ∧
((((decide (x110 < ((n113 : Nat) : Int))) = true) →
(∀ k116 : (Option Addr → (Nat → (Nat → (World → Prop)))), ((∀ w118 : World, (∀ o119 : Option Addr, (∀ n120 : Nat, (∀ n121 : Nat, (((Nat → Value) →
(∃ n124 : Nat, ((n124 < n104) ∧
(k102 n124 o119 n120 n121 (IntKind.wrap IntKind.i64 (x110 + 1)) w118)))) →
(k116 o119 n120 n121 w118)))))) →
(∃ o125 : Option Addr, (∃ n126 : Nat, (∃ n127 : Nat, (((w106.cell? (⟨(hs w), 0, none⟩ : Addr)) = (some (Value.slice o125 n126 n127))) ∧
(∃ a128 : Addr, ((o125 = (some a128)) ∧
((((0 : Int) ≤ x110) ∧
(x110 < ((n126 : Nat) : Int))) ∧
(∃ s129 : ByteArray, (((w106.cell? (Addr.add a128 ((x110).toNat * 3))) = (some (Value.string s129))) ∧
((((!(Nf.strEq s129 name)) = true) →
(∃ o131 : Option Addr, (∃ n132 : Nat, (∃ n133 : Nat, (((w106.cell? (⟨(hs w), 0, none⟩ : Addr)) = (some (Value.slice o131 n132 n133))) ∧
(∃ a134 : Addr, ((o131 = (some a134)) ∧
((((0 : Int) ≤ x110) ∧
(x110 < ((n132 : Nat) : Int))) ∧
(∃ s135 : ByteArray, (((w106.cell? (Addr.add a134 ((x110).toNat * 3))) = (some (Value.string s135))) ∧
(∃ x136 : Int, (((w106.cell? (Addr.add (Addr.add a134 ((x110).toNat * 3)) 1)) = (some (Value.int IntKind.i64 x136))) ∧
(∃ o137 : Option Addr, (∃ n138 : Nat, (∃ n139 : Nat, (((w106.cell? (Addr.add (Addr.add a134 ((x110).toNat * 3)) 2)) = (some (Value.slice o137 n138 n139))) ∧
(∀ w140 : World, ((w140 = (w106.alloc (Obj.cells #[(Value.string s135), (Value.int IntKind.i64 x136), (Value.slice o137 n138 n139)] 24 (0, 0)))) →
(RunOk Try.prog (Nf.Hold (Builtin.append_ #[71, 71] 71 #[(Value.slice o107 n108 n109), (Value.slice (some (⟨(hs w106), 0, none⟩ : Addr)) 1 1)])) w140 (fun (v142 : Value) => (fun (w143 : World) => (∃ o144 : Option Addr, (∃ n145 : Nat, (∃ n146 : Nat, ((v142 = (Value.slice o144 n145 n146)) ∧
(k116 o144 n145 n146 w143)))))))))))))))))))))))))) ∧
(((!(Nf.strEq s129 name)) = false) →
(∃ o148 : Option Addr, (∃ n149 : Nat, (∃ n150 : Nat, (((w106.cell? (⟨(hs w), 0, none⟩ : Addr)) = (some (Value.slice o148 n149 n150))) ∧
(∃ a151 : Addr, ((o148 = (some a151)) ∧
((((0 : Int) ≤ x110) ∧
(x110 < ((n149 : Nat) : Int))) ∧
(∃ x152 : Int, (((w106.cell? (Addr.add (Addr.add a151 ((x110).toNat * 3)) 1)) = (some (Value.int IntKind.i64 x152))) ∧
((((!(decide (x152 = version))) = true) →
(∃ o154 : Option Addr, (∃ n155 : Nat, (∃ n156 : Nat, (((w106.cell? (⟨(hs w), 0, none⟩ : Addr)) = (some (Value.slice o154 n155 n156))) ∧
(∃ a157 : Addr, ((o154 = (some a157)) ∧
((((0 : Int) ≤ x110) ∧
(x110 < ((n155 : Nat) : Int))) ∧
(∃ s158 : ByteArray, (((w106.cell? (Addr.add a157 ((x110).toNat * 3))) = (some (Value.string s158))) ∧
(∃ x159 : Int, (((w106.cell? (Addr.add (Addr.add a157 ((x110).toNat * 3)) 1)) = (some (Value.int IntKind.i64 x159))) ∧
(∃ o160 : Option Addr, (∃ n161 : Nat, (∃ n162 : Nat, (((w106.cell? (Addr.add (Addr.add a157 ((x110).toNat * 3)) 2)) = (some (Value.slice o160 n161 n162))) ∧
(∀ w163 : World, ((w163 = (w106.alloc (Obj.cells #[(Value.string s158), (Value.int IntKind.i64 x159), (Value.slice o160 n161 n162)] 24 (0, 0)))) →
(RunOk Try.prog (Nf.Hold (Builtin.append_ #[71, 71] 71 #[(Value.slice o107 n108 n109), (Value.slice (some (⟨(hs w106), 0, none⟩ : Addr)) 1 1)])) w163 (fun (v165 : Value) => (fun (w166 : World) => (∃ o167 : Option Addr, (∃ n168 : Nat, (∃ n169 : Nat, ((v165 = (Value.slice o167 n168 n169)) ∧
(k116 o167 n168 n169 w166)))))))))))))))))))))))))) ∧
(((!(decide (x152 = version))) = false) →
(k116 o107 n108 n109 w106)))))))))))))))))))))))))) ∧
(((decide (x110 < ((n113 : Nat) : Int))) = false) →
((Nf.There w106 (⟨(hs w), 0, none⟩ : Addr) 1) ∧
(∀ w172 : World, ((w172 = (Nf.setCells w106 (⟨(hs w), 0, none⟩ : Addr) [(Value.slice o107 n108 n109)] 0)) →
(∃ o174 : Option Addr, (∃ n175 : Nat, (∃ n176 : Nat, (((w172.cell? (⟨(hs w), 0, none⟩ : Addr)) = (some (Value.slice o174 n175 n176))) ∧
(∃ o177 : Option Addr, (∃ n178 : Nat, (∃ n179 : Nat, (((w172.cell? (⟨(hs w), 1, none⟩ : Addr)) = (some (Value.slice o177 n178 n179))) ∧
((Nf.There w172 (⟨(hs w1), 0, none⟩ : Addr) 2) ∧
(∀ w180 : World, ((w180 = (Nf.setCells w172 (⟨(hs w1), 0, none⟩ : Addr) [(Value.slice o174 n175 n176), (Value.slice o177 n178 n179)] 0)) →
(∃ o182 : Option Addr, (∃ n183 : Nat, (∃ n184 : Nat, (((w180.cell? (⟨(hs w1), 0, none⟩ : Addr)) = (some (Value.slice o182 n183 n184))) ∧
(∃ o185 : Option Addr, (∃ n186 : Nat, (∃ n187 : Nat, (((w180.cell? (⟨(hs w1), 1, none⟩ : Addr)) = (some (Value.slice o185 n186 n187))) ∧
(R (Ending.returned (Value.tuple #[(Value.agg #[(Value.slice o182 n183 n184), (Value.slice o185 n186 n187)]), (Value.int IntKind.i64 0)])) w180)))))))))))))))))))))))))))))))))))))))))))))))))))))))))))))) ∧
((b37 = false) →
(∀ w189 : World, ((w189 = (w31.alloc (Obj.cells #[(Value.string (ByteArray.mk #[])), (Value.int IntKind.i64 0), (Value.slice none 0 0)] 24 (0, 0)))) →
((Nf.There w189 (⟨(hs w31), 0, none⟩ : Addr) 3) ∧
(∀ w191 : World, ((w191 = (Nf.setCells w189 (⟨(hs w31), 0, none⟩ : Addr) [(Value.string s32), (Value.int IntKind.i64 x33), (Value.slice o34 n35 n36)] 0)) →
(∃ x193 : Int, (((w191.cell? (⟨(hs w31), 1, none⟩ : Addr)) = (some (Value.int IntKind.i64 x193))) ∧
((((decide (x193 = version)) = true) →
(∃ o195 : Option Addr, (∃ n196 : Nat, (∃ n197 : Nat, (((w191.cell? (⟨(hs w), 0, none⟩ : Addr)) = (some (Value.slice o195 n196 n197))) ∧
(∃ o198 : Option Addr, (∃ n199 : Nat, (∃ n200 : Nat, (((w191.cell? (⟨(hs w), 1, none⟩ : Addr)) = (some (Value.slice o198 n199 n200))) ∧
((Nf.There w191 (⟨(hs w1), 0, none⟩ : Addr) 2) ∧
(∀ w201 : World, ((w201 = (Nf.setCells w191 (⟨(hs w1), 0, none⟩ : Addr) [(Value.slice o195 n196 n197), (Value.slice o198 n199 n200)] 0)) →
(∃ o203 : Option Addr, (∃ n204 : Nat, (∃ n205 : Nat, (((w201.cell? (⟨(hs w1), 0, none⟩ : Addr)) = (some (Value.slice o203 n204 n205))) ∧
(∃ o206 : Option Addr, (∃ n207 : Nat, (∃ n208 : Nat, (((w201.cell? (⟨(hs w1), 1, none⟩ : Addr)) = (some (Value.slice o206 n207 n208))) ∧
(R (Ending.returned (Value.tuple #[(Value.agg #[(Value.slice o203 n204 n205), (Value.slice o206 n207 n208)]), (Value.int IntKind.i64 8)])) w201))))))))))))))))))))) ∧
(((decide (x193 = version)) = false) →
(∃ k210 : (Nat → (Int → (World → Prop))), ((∃ n211 : Nat, (k210 n211 0 w191)) ∧
(∀ n212 : Nat, ((Nat → Value) →
(∀ w214 : World, (∀ x215 : Int, ((k210 n212 x215 w214) →
(∃ o217 : Option Addr, (∃ n218 : Nat, (∃ n219 : Nat, (((w214.cell? (⟨(hs w), 1, none⟩ : Addr)) = (some (Value.slice o217 n218 n219))) ∧
((((decide (x215 < ((n218 : Nat) : Int))) = true) →
(∃ o221 : Option Addr, (∃ n222 : Nat, (∃ n223 : Nat, (((w214.cell? (⟨(hs w), 1, none⟩ : Addr)) = (some (Value.slice o221 n222 n223))) ∧
(∃ a224 : Addr, ((o221 = (some a224)) ∧
((((0 : Int) ≤ x215) ∧
(x215 < ((n222 : Nat) : Int))) ∧
(∃ s225 : ByteArray, (((w214.cell? (Addr.add (Addr.add a224 ((x215).toNat * 3)) 1)) = (some (Value.string s225))) ∧
((((Nf.strEq s225 name) = true) →
(∃ o227 : Option Addr, (∃ n228 : Nat, (∃ n229 : Nat, (((w214.cell? (⟨(hs w), 1, none⟩ : Addr)) = (some (Value.slice o227 n228 n229))) ∧
(∃ a230 : Addr, ((o227 = (some a230)) ∧
((((0 : Int) ≤ x215) ∧
(x215 < ((n228 : Nat) : Int))) ∧
(∃ x231 : Int, (((w214.cell? (Addr.add (Addr.add a230 ((x215).toNat * 3)) 2)) = (some (Value.int IntKind.i64 x231))) ∧
((((decide (x231 = version)) = true) →
(∃ o233 : Option Addr, (∃ n234 : Nat, (∃ n235 : Nat, (((w214.cell? (⟨(hs w), 0, none⟩ : Addr)) = (some (Value.slice o233 n234 n235))) ∧
(∃ o236 : Option Addr, (∃ n237 : Nat, (∃ n238 : Nat, (((w214.cell? (⟨(hs w), 1, none⟩ : Addr)) = (some (Value.slice o236 n237 n238))) ∧
((Nf.There w214 (⟨(hs w1), 0, none⟩ : Addr) 2) ∧
(∀ w239 : World, ((w239 = (Nf.setCells w214 (⟨(hs w1), 0, none⟩ : Addr) [(Value.slice o233 n234 n235), (Value.slice o236 n237 n238)] 0)) →
(∃ o241 : Option Addr, (∃ n242 : Nat, (∃ n243 : Nat, (((w239.cell? (⟨(hs w1), 0, none⟩ : Addr)) = (some (Value.slice o241 n242 n243))) ∧
(∃ o244 : Option Addr, (∃ n245 : Nat, (∃ n246 : Nat, (((w239.cell? (⟨(hs w1), 1, none⟩ : Addr)) = (some (Value.slice o244 n245 n246))) ∧
(R (Ending.returned (Value.tuple #[(Value.agg #[(Value.slice o241 n242 n243), (Value.slice o244 n245 n246)]), (Value.int IntKind.i64 10)])) w239))))))))))))))))))))) ∧
(((decide (x231 = version)) = false) →
(∃ n248 : Nat, ((n248 < n212) ∧
(k210 n248 (IntKind.wrap IntKind.i64 (x215 + 1)) w214))))))))))))))) ∧
(((Nf.strEq s225 name) = false) →
(∃ n250 : Nat, ((n250 < n212) ∧
(k210 n250 (IntKind.wrap IntKind.i64 (x215 + 1)) w214))))))))))))))) ∧
(((decide (x215 < ((n218 : Nat) : Int))) = false) →
(∃ k252 : (Nat → (Option Addr → (Nat → (Nat → (Int → (World → Prop)))))), ((∃ n253 : Nat, (k252 n253 none 0 0 0 w214)) ∧
(∀ n254 : Nat, ((Nat → Value) →
(∀ w256 : World, (∀ o257 : Option Addr, (∀ n258 : Nat, (∀ n259 : Nat, (∀ x260 : Int, ((k252 n254 o257 n258 n259 x260 w256) →
(∃ o262 : Option Addr, (∃ n263 : Nat, (∃ n264 : Nat, (((w256.cell? (⟨(hs w), 0, none⟩ : Addr)) = (some (Value.slice o262 n263 n264))) ∧
((((decide (x260 < ((n263 : Nat) : Int))) = true) →
(∀ k266 : (Option Addr → (Nat → (Nat → (World → Prop)))), ((∀ w268 : World, (∀ o269 : Option Addr, (∀ n270 : Nat, (∀ n271 : Nat, (((Nat → Value) →
(∃ n274 : Nat, ((n274 < n254) ∧
(k252 n274 o269 n270 n271 (IntKind.wrap IntKind.i64 (x260 + 1)) w268)))) →
(k266 o269 n270 n271 w268)))))) →
(∃ o275 : Option Addr, (∃ n276 : Nat, (∃ n277 : Nat, (((w256.cell? (⟨(hs w), 0, none⟩ : Addr)) = (some (Value.slice o275 n276 n277))) ∧
(∃ a278 : Addr, ((o275 = (some a278)) ∧
((((0 : Int) ≤ x260) ∧
(x260 < ((n276 : Nat) : Int))) ∧
(∃ s279 : ByteArray, (((w256.cell? (Addr.add a278 ((x260).toNat * 3))) = (some (Value.string s279))) ∧
((((!(Nf.strEq s279 name)) = true) →
(∃ o281 : Option Addr, (∃ n282 : Nat, (∃ n283 : Nat, (((w256.cell? (⟨(hs w), 0, none⟩ : Addr)) = (some (Value.slice o281 n282 n283))) ∧
(∃ a284 : Addr, ((o281 = (some a284)) ∧
((((0 : Int) ≤ x260) ∧
(x260 < ((n282 : Nat) : Int))) ∧
(∃ s285 : ByteArray, (((w256.cell? (Addr.add a284 ((x260).toNat * 3))) = (some (Value.string s285))) ∧
(∃ x286 : Int, (((w256.cell? (Addr.add (Addr.add a284 ((x260).toNat * 3)) 1)) = (some (Value.int IntKind.i64 x286))) ∧
(∃ o287 : Option Addr, (∃ n288 : Nat, (∃ n289 : Nat, (((w256.cell? (Addr.add (Addr.add a284 ((x260).toNat * 3)) 2)) = (some (Value.slice o287 n288 n289))) ∧
(∀ w290 : World, ((w290 = (w256.alloc (Obj.cells #[(Value.string s285), (Value.int IntKind.i64 x286), (Value.slice o287 n288 n289)] 24 (0, 0)))) →
(RunOk Try.prog (Nf.Hold (Builtin.append_ #[71, 71] 71 #[(Value.slice o257 n258 n259), (Value.slice (some (⟨(hs w256), 0, none⟩ : Addr)) 1 1)])) w290 (fun (v292 : Value) => (fun (w293 : World) => (∃ o294 : Option Addr, (∃ n295 : Nat, (∃ n296 : Nat, ((v292 = (Value.slice o294 n295 n296)) ∧
(k266 o294 n295 n296 w293)))))))))))))))))))))))))) ∧
(((!(Nf.strEq s279 name)) = false) →
(∃ o298 : Option Addr, (∃ n299 : Nat, (∃ n300 : Nat, (((w256.cell? (⟨(hs w), 0, none⟩ : Addr)) = (some (Value.slice o298 n299 n300))) ∧
(∃ a301 : Addr, ((o298 = (some a301)) ∧
((((0 : Int) ≤ x260) ∧
(x260 < ((n299 : Nat) : Int))) ∧
(∃ x302 : Int, (((w256.cell? (Addr.add (Addr.add a301 ((x260).toNat * 3)) 1)) = (some (Value.int IntKind.i64 x302))) ∧
((((!(decide (x302 = version))) = true) →
(∃ o304 : Option Addr, (∃ n305 : Nat, (∃ n306 : Nat, (((w256.cell? (⟨(hs w), 0, none⟩ : Addr)) = (some (Value.slice o304 n305 n306))) ∧
(∃ a307 : Addr, ((o304 = (some a307)) ∧
((((0 : Int) ≤ x260) ∧
(x260 < ((n305 : Nat) : Int))) ∧
(∃ s308 : ByteArray, (((w256.cell? (Addr.add a307 ((x260).toNat * 3))) = (some (Value.string s308))) ∧
(∃ x309 : Int, (((w256.cell? (Addr.add (Addr.add a307 ((x260).toNat * 3)) 1)) = (some (Value.int IntKind.i64 x309))) ∧
(∃ o310 : Option Addr, (∃ n311 : Nat, (∃ n312 : Nat, (((w256.cell? (Addr.add (Addr.add a307 ((x260).toNat * 3)) 2)) = (some (Value.slice o310 n311 n312))) ∧
(∀ w313 : World, ((w313 = (w256.alloc (Obj.cells #[(Value.string s308), (Value.int IntKind.i64 x309), (Value.slice o310 n311 n312)] 24 (0, 0)))) →
(RunOk Try.prog (Nf.Hold (Builtin.append_ #[71, 71] 71 #[(Value.slice o257 n258 n259), (Value.slice (some (⟨(hs w256), 0, none⟩ : Addr)) 1 1)])) w313 (fun (v315 : Value) => (fun (w316 : World) => (∃ o317 : Option Addr, (∃ n318 : Nat, (∃ n319 : Nat, ((v315 = (Value.slice o317 n318 n319)) ∧
(k266 o317 n318 n319 w316)))))))))))))))))))))))))) ∧
(((!(decide (x302 = version))) = false) →
(k266 o257 n258 n259 w256)))))))))))))))))))))))))) ∧
(((decide (x260 < ((n263 : Nat) : Int))) = false) →
((Nf.There w256 (⟨(hs w), 0, none⟩ : Addr) 1) ∧
(∀ w322 : World, ((w322 = (Nf.setCells w256 (⟨(hs w), 0, none⟩ : Addr) [(Value.slice o257 n258 n259)] 0)) →
(∃ o324 : Option Addr, (∃ n325 : Nat, (∃ n326 : Nat, (((w322.cell? (⟨(hs w), 0, none⟩ : Addr)) = (some (Value.slice o324 n325 n326))) ∧
(∃ o327 : Option Addr, (∃ n328 : Nat, (∃ n329 : Nat, (((w322.cell? (⟨(hs w), 1, none⟩ : Addr)) = (some (Value.slice o327 n328 n329))) ∧
((Nf.There w322 (⟨(hs w1), 0, none⟩ : Addr) 2) ∧
(∀ w330 : World, ((w330 = (Nf.setCells w322 (⟨(hs w1), 0, none⟩ : Addr) [(Value.slice o324 n325 n326), (Value.slice o327 n328 n329)] 0)) →
(∃ o332 : Option Addr, (∃ n333 : Nat, (∃ n334 : Nat, (((w330.cell? (⟨(hs w1), 0, none⟩ : Addr)) = (some (Value.slice o332 n333 n334))) ∧
(∃ o335 : Option Addr, (∃ n336 : Nat, (∃ n337 : Nat, (((w330.cell? (⟨(hs w1), 1, none⟩ : Addr)) = (some (Value.slice o335 n336 n337))) ∧
(R (Ending.returned (Value.tuple #[(Value.agg #[(Value.slice o332 n333 n334), (Value.slice o335 n336 n337)]), (Value.int IntKind.i64 0)])) w330))))))))))))))))))))))))))))))))))))))))))))))))))))))))))))))))))))))))))))))))))))))) ∧
((b18 = false) →
(∀ w339 : World, ((w339 = (w12.alloc (Obj.cells #[(Value.string (ByteArray.mk #[])), (Value.int IntKind.i64 0), (Value.slice none 0 0)] 24 (0, 0)))) →
((Nf.There w339 (⟨(hs w12), 0, none⟩ : Addr) 3) ∧
(∀ w341 : World, ((w341 = (Nf.setCells w339 (⟨(hs w12), 0, none⟩ : Addr) [(Value.string s13), (Value.int IntKind.i64 x14), (Value.slice o15 n16 n17)] 0)) →
(∃ o343 : Option Addr, (∃ n344 : Nat, (∃ n345 : Nat, (((w341.cell? (⟨(hs w), 0, none⟩ : Addr)) = (some (Value.slice o343 n344 n345))) ∧
(∃ o346 : Option Addr, (∃ n347 : Nat, (∃ n348 : Nat, (((w341.cell? (⟨(hs w), 1, none⟩ : Addr)) = (some (Value.slice o346 n347 n348))) ∧
((Nf.There w341 (⟨(hs w1), 0, none⟩ : Addr) 2) ∧
(∀ w349 : World, ((w349 = (Nf.setCells w341 (⟨(hs w1), 0, none⟩ : Addr) [(Value.slice o343 n344 n345), (Value.slice o346 n347 n348)] 0)) →
(∃ o351 : Option Addr, (∃ n352 : Nat, (∃ n353 : Nat, (((w349.cell? (⟨(hs w1), 0, none⟩ : Addr)) = (some (Value.slice o351 n352 n353))) ∧
(∃ o354 : Option Addr, (∃ n355 : Nat, (∃ n356 : Nat, (((w349.cell? (⟨(hs w1), 1, none⟩ : Addr)) = (some (Value.slice o354 n355 n356))) ∧
(R (Ending.returned (Value.tuple #[(Value.agg #[(Value.slice o351 n352 n353), (Value.slice o354 n355 n356)]), (Value.int IntKind.i64 4)])) w349)))))))))))))))))))))))))))))))))))))))))))))))))) :
    Calls Try.prog 89 #[(.agg #[(.slice b_L b_L_n b_L_c), (.slice b_P b_P_n b_P_c)]), (.string name), (.int .i64 version)] w R :=
  calls_of_vc an89 Try.func89 rfl (by kernel_rfl) (by kernel_rfl) (Eq.mp (by kernel_rfl) h)

/-- samaritan/samaritanlaw15.do -/
def an45 : An := (.seq (.reg []) (.seq (.seq (.reg []) (.blk (.seq (.reg [(0, 0, true)]) (.cond (.seq (.reg []) (.seq (.regD [(6, 0, true)] [0, 1, 2, 3, 5, 4, 6, 7, 8] [4, 7]) .nil)) (.seq (.reg [(0, 0, true)]) (.cond (.seq (.reg []) (.seq (.reg []) (.seq (.reg [(3, 0, true), (7, 0, true)]) .nil))) (.seq (.reg [(0, 0, true)]) (.cond (.seq (.reg [(6, 0, true)]) (.seq (.regD [(4, 0, true), (6, 0, true)] [0, 1, 2, 3, 5, 4, 6, 7, 8] [4, 7]) .nil)) .nil)))))))) (.seq (.reg []) (.seq (.regD [(8, 0, true)] [0, 1, 2, 3, 4, 5, 7, 6, 8, 9, 10] [6, 9]) .nil))))
set_option maxRecDepth 100000 in
theorem nf45 (b : Option Addr) (x_L : Option Addr) (x_L_n : Nat) (x_L_c : Nat) (x_P : Option Addr) (x_P_n : Nat) (x_P_c : Nat) (a_Kind : Int) (a_T_Name : ByteArray) (a_T_Version : Int) (a_T_Questions : Option Addr) (a_T_Questions_n : Nat) (a_T_Questions_c : Nat) (a_Call : Int) (a_Name : ByteArray) (a_Version : Int) (w : World) (R : Ending → World → Prop) (h :
(∀ w1 : World, ((w1 = (w.alloc (Obj.cells #[(Value.slice x_L x_L_n x_L_c), (Value.slice x_P x_P_n x_P_c)] 74 (0, 0)))) →
(∀ w3 : World, ((w3 = (w1.alloc (Obj.cells #[(Value.int IntKind.u8 a_Kind), (Value.string a_T_Name), (Value.int IntKind.i64 a_T_Version), (Value.slice a_T_Questions a_T_Questions_n a_T_Questions_c), (Value.int IntKind.i64 a_Call), (Value.string a_Name), (Value.int IntKind.i64 a_Version)] 70 (0, 0)))) →
(∀ w5 : World, ((w5 = (w3.alloc (Obj.cells #[(Value.slice none 0 0), (Value.slice none 0 0)] 74 (0, 0)))) →
(∃ x7 : Int, (((w5.cell? (⟨(hs w1), 0, none⟩ : Addr)) = (some (Value.int IntKind.u8 x7))) ∧
((((decide ((Int.tmod x7 4) = 0)) = true) →
(∃ o9 : Option Addr, (∃ n10 : Nat, (∃ n11 : Nat, (((w5.cell? (⟨(hs w), 0, none⟩ : Addr)) = (some (Value.slice o9 n10 n11))) ∧
(∃ o12 : Option Addr, (∃ n13 : Nat, (∃ n14 : Nat, (((w5.cell? (⟨(hs w), 1, none⟩ : Addr)) = (some (Value.slice o12 n13 n14))) ∧
(∃ s15 : ByteArray, (((w5.cell? (⟨(hs w1), 1, none⟩ : Addr)) = (some (Value.string s15))) ∧
(∃ x16 : Int, (((w5.cell? (⟨(hs w1), 2, none⟩ : Addr)) = (some (Value.int IntKind.i64 x16))) ∧
(∃ o17 : Option Addr, (∃ n18 : Nat, (∃ n19 : Nat, (((w5.cell? (⟨(hs w1), 3, none⟩ : Addr)) = (some (Value.slice o17 n18 n19))) ∧
(Calls Try.prog 86 #[(Value.agg #[(Value.slice o9 n10 n11), (Value.slice o12 n13 n14)]), (Value.agg #[(Value.string s15), (Value.int IntKind.i64 x16), (Value.slice o17 n18 n19)])] w5 (fun (e20 : Ending) => (fun (w21 : World) => (∃ o22 : Option Addr, (∃ n23 : Nat, (∃ n24 : Nat, (∃ o25 : Option Addr, (∃ n26 : Nat, (∃ n27 : Nat, (∃ x28 : Int, ((e20 = (Ending.returned (Value.tuple #[(Value.agg #[(Value.slice o22 n23 n24), (Value.slice o25 n26 n27)]), (Value.int IntKind.i64 x28)]))) ∧
(∀ w29 : World, ((w29 = (w21.alloc (Obj.cells #[(Value.slice none 0 0), (Value.slice none 0 0)] 74 (0, 0)))) →
((Nf.There w29 (⟨(hs w21), 0, none⟩ : Addr) 2) ∧
(∀ w31 : World, ((w31 = (Nf.setCells w29 (⟨(hs w21), 0, none⟩ : Addr) [(Value.slice o22 n23 n24), (Value.slice o25 n26 n27)] 0)) →
(∀ w33 : World, ((w33 = w31.drew) →
(∃ o35 : Option Addr, (∃ n36 : Nat, (∃ n37 : Nat, (((w33.cell? (⟨(hs w21), 0, none⟩ : Addr)) = (some (Value.slice o35 n36 n37))) ∧
(∃ o38 : Option Addr, (∃ n39 : Nat, (∃ n40 : Nat, (((w33.cell? (⟨(hs w21), 1, none⟩ : Addr)) = (some (Value.slice o38 n39 n40))) ∧
(∃ s41 : ByteArray, (((w33.cell? (⟨(hs w1), 1, none⟩ : Addr)) = (some (Value.string s41))) ∧
(∃ x42 : Int, (((w33.cell? (⟨(hs w1), 2, none⟩ : Addr)) = (some (Value.int IntKind.i64 x42))) ∧
(∃ o43 : Option Addr, (∃ n44 : Nat, (∃ n45 : Nat, (((w33.cell? (⟨(hs w1), 3, none⟩ : Addr)) = (some (Value.slice o43 n44 n45))) ∧
(Calls Try.prog 42 #[(Value.pointer b), (Value.agg #[(Value.string s41), (Value.int IntKind.i64 x42), (Value.slice o43 n44 n45)])] w33 (fun (e46 : Ending) => (fun (w47 : World) => (∃ x48 : Int, ((e46 = (Ending.returned (Value.int IntKind.i64 x48))) ∧
((Nf.Kept w33 w47 (⟨(hs w21), 0, none⟩ : Addr) 2) ∧
((((decide (x48 = x28)) = true) →
((Nf.There w47 (⟨(hs w3), 0, none⟩ : Addr) 2) ∧
(∀ w50 : World, ((w50 = (Nf.setCells w47 (⟨(hs w3), 0, none⟩ : Addr) [(Value.slice o35 n36 n37), (Value.slice o38 n39 n40)] 0)) →
(∃ o52 : Option Addr, (∃ n53 : Nat, (∃ n54 : Nat, (((w50.cell? (⟨(hs w3), 0, none⟩ : Addr)) = (some (Value.slice o52 n53 n54))) ∧
(∃ o55 : Option Addr, (∃ n56 : Nat, (∃ n57 : Nat, (((w50.cell? (⟨(hs w3), 1, none⟩ : Addr)) = (some (Value.slice o55 n56 n57))) ∧
(R (Ending.returned (Value.tuple #[(Value.agg #[(Value.slice o52 n53 n54), (Value.slice o55 n56 n57)]), (Value.bool true)])) w50))))))))))))) ∧
(((decide (x48 = x28)) = false) →
((Nf.There w47 (⟨(hs w3), 0, none⟩ : Addr) 2) ∧
(∀ w59 : World, ((w59 = (Nf.setCells w47 (⟨(hs w3), 0, none⟩ : Addr) [(Value.slice o35 n36 n37), (Value.slice o38 n39 n40)] 0)) →
(∃ o61 : Option Addr, (∃ n62 : Nat, (∃ n63 : Nat, (((w59.cell? (⟨(hs w3), 0, none⟩ : Addr)) = (some (Value.slice o61 n62 n63))) ∧
(∃ o64 : Option Addr, (∃ n65 : Nat, (∃ n66 : Nat, (((w59.cell? (⟨(hs w3), 1, none⟩ : Addr)) = (some (Value.slice o64 n65 n66))) ∧
(R (Ending.returned (Value.tuple #[(Value.agg #[(Value.slice o61 n62 n63), (Value.slice o64 n65 n66)]), (Value.bool false)])) w59))))))))))))))))))))))))))))))))))))))))))))))))))))))))))))))))))))))) ∧
(((decide ((Int.tmod x7 4) = 0)) = false) →
((((decide ((Int.tmod x7 4) = 1)) = true) →
(∃ o69 : Option Addr, (∃ n70 : Nat, (∃ n71 : Nat, (((w5.cell? (⟨(hs w), 0, none⟩ : Addr)) = (some (Value.slice o69 n70 n71))) ∧
(∃ o72 : Option Addr, (∃ n73 : Nat, (∃ n74 : Nat, (((w5.cell? (⟨(hs w), 1, none⟩ : Addr)) = (some (Value.slice o72 n73 n74))) ∧
(∃ x75 : Int, (((w5.cell? (⟨(hs w1), 4, none⟩ : Addr)) = (some (Value.int IntKind.i64 x75))) ∧
(∃ s76 : ByteArray, (((w5.cell? (⟨(hs w1), 5, none⟩ : Addr)) = (some (Value.string s76))) ∧
(Calls Try.prog 87 #[(Value.agg #[(Value.slice o69 n70 n71), (Value.slice o72 n73 n74)]), (Value.int IntKind.i64 x75), (Value.string s76)] w5 (fun (e77 : Ending) => (fun (w78 : World) => (∃ o79 : Option Addr, (∃ n80 : Nat, (∃ n81 : Nat, (∃ o82 : Option Addr, (∃ n83 : Nat, (∃ n84 : Nat, (∃ x85 : Int, (∃ x86 : Int, ((e77 = (Ending.returned (Value.tuple #[(Value.agg #[(Value.slice o79 n80 n81), (Value.slice o82 n83 n84)]), (Value.int IntKind.i64 x85), (Value.int IntKind.i64 x86)]))) ∧
(∀ w87 : World, ((w87 = (w78.alloc (Obj.cells #[(Value.slice none 0 0), (Value.slice none 0 0)] 74 (0, 0)))) →
((Nf.There w87 (⟨(hs w78), 0, none⟩ : Addr) 2) ∧
(∀ w89 : World, ((w89 = (Nf.setCells w87 (⟨(hs w78), 0, none⟩ : Addr) [(Value.slice o79 n80 n81), (Value.slice o82 n83 n84)] 0)) →
(∃ x91 : Int, (((w89.cell? (⟨(hs w1), 4, none⟩ : Addr)) = (some (Value.int IntKind.i64 x91))) ∧
(∃ s92 : ByteArray, (((w89.cell? (⟨(hs w1), 5, none⟩ : Addr)) = (some (Value.string s92))) ∧
(Calls Try.prog 44 #[(Value.pointer b), (Value.int IntKind.i64 x91), (Value.string s92)] w89 (fun (e93 : Ending) => (fun (w94 : World) => (∃ x95 : Int, (∃ x96 : Int, ((e93 = (Ending.returned (Value.tuple #[(Value.int IntKind.i64 x95), (Value.int IntKind.i64 x96)]))) ∧
(∃ o97 : Option Addr, (∃ n98 : Nat, (∃ n99 : Nat, (((w94.cell? (⟨(hs w78), 0, none⟩ : Addr)) = (some (Value.slice o97 n98 n99))) ∧
(∃ o100 : Option Addr, (∃ n101 : Nat, (∃ n102 : Nat, (((w94.cell? (⟨(hs w78), 1, none⟩ : Addr)) = (some (Value.slice o100 n101 n102))) ∧
((((decide (x95 = x85)) = true) →
((((decide (x96 = x86)) = true) →
((Nf.There w94 (⟨(hs w3), 0, none⟩ : Addr) 2) ∧
(∀ w105 : World, ((w105 = (Nf.setCells w94 (⟨(hs w3), 0, none⟩ : Addr) [(Value.slice o97 n98 n99), (Value.slice o100 n101 n102)] 0)) →
(∃ o107 : Option Addr, (∃ n108 : Nat, (∃ n109 : Nat, (((w105.cell? (⟨(hs w3), 0, none⟩ : Addr)) = (some (Value.slice o107 n108 n109))) ∧
(∃ o110 : Option Addr, (∃ n111 : Nat, (∃ n112 : Nat, (((w105.cell? (⟨(hs w3), 1, none⟩ : Addr)) = (some (Value.slice o110 n111 n112))) ∧
(R (Ending.returned (Value.tuple #[(Value.agg #[(Value.slice o107 n108 n109), (Value.slice o110 n111 n112)]), (Value.bool true)])) w105))))))))))))) ∧
(((decide (x96 = x86)) = false) →
((Nf.There w94 (⟨(hs w3), 0, none⟩ : Addr) 2) ∧
(∀ w114 : World, ((w114 = (Nf.setCells w94 (⟨(hs w3), 0, none⟩ : Addr) [(Value.slice o97 n98 n99), (Value.slice o100 n101 n102)] 0)) →
(∃ o116 : Option Addr, (∃ n117 : Nat, (∃ n118 : Nat, (((w114.cell? (⟨(hs w3), 0, none⟩ : Addr)) = (some (Value.slice o116 n117 n118))) ∧
(∃ o119 : Option Addr, (∃ n120 : Nat, (∃ n121 : Nat, (((w114.cell? (⟨(hs w3), 1, none⟩ : Addr)) = (some (Value.slice o119 n120 n121))) ∧
(R (Ending.returned (Value.tuple #[(Value.agg #[(Value.slice o116 n117 n118), (Value.slice o119 n120 n121)]), (Value.bool false)])) w114))))))))))))))) ∧
(((decide (x95 = x85)) = false) →
((Nf.There w94 (⟨(hs w3), 0, none⟩ : Addr) 2) ∧
(∀ w123 : World, ((w123 = (Nf.setCells w94 (⟨(hs w3), 0, none⟩ : Addr) [(Value.slice o97 n98 n99), (Value.slice o100 n101 n102)] 0)) →
(∃ o125 : Option Addr, (∃ n126 : Nat, (∃ n127 : Nat, (((w123.cell? (⟨(hs w3), 0, none⟩ : Addr)) = (some (Value.slice o125 n126 n127))) ∧
(∃ o128 : Option Addr, (∃ n129 : Nat, (∃ n130 : Nat, (((w123.cell? (⟨(hs w3), 1, none⟩ : Addr)) = (some (Value.slice o128 n129 n130))) ∧
(R (Ending.returned (Value.tuple #[(Value.agg #[(Value.slice o125 n126 n127), (Value.slice o128 n129 n130)]), (Value.bool false)])) w123)))))))))))))))))))))))))))))))))))))))))))))))))))))))))))))) ∧
(((decide ((Int.tmod x7 4) = 1)) = false) →
((((decide ((Int.tmod x7 4) = 2)) = true) →
(∃ o133 : Option Addr, (∃ n134 : Nat, (∃ n135 : Nat, (((w5.cell? (⟨(hs w), 0, none⟩ : Addr)) = (some (Value.slice o133 n134 n135))) ∧
(∃ o136 : Option Addr, (∃ n137 : Nat, (∃ n138 : Nat, (((w5.cell? (⟨(hs w), 1, none⟩ : Addr)) = (some (Value.slice o136 n137 n138))) ∧
(∃ x139 : Int, (((w5.cell? (⟨(hs w1), 4, none⟩ : Addr)) = (some (Value.int IntKind.i64 x139))) ∧
(Calls Try.prog 88 #[(Value.agg #[(Value.slice o133 n134 n135), (Value.slice o136 n137 n138)]), (Value.int IntKind.i64 x139)] w5 (fun (e140 : Ending) => (fun (w141 : World) => (∃ o142 : Option Addr, (∃ n143 : Nat, (∃ n144 : Nat, (∃ o145 : Option Addr, (∃ n146 : Nat, (∃ n147 : Nat, (∃ b148 : Bool, ((e140 = (Ending.returned (Value.tuple #[(Value.agg #[(Value.slice o142 n143 n144), (Value.slice o145 n146 n147)]), (Value.bool b148)]))) ∧
(((b148 = true) →
(∀ w150 : World, ((w150 = (w141.alloc (Obj.cells #[(Value.slice none 0 0), (Value.slice none 0 0)] 74 (0, 0)))) →
((Nf.There w150 (⟨(hs w141), 0, none⟩ : Addr) 2) ∧
(∀ w152 : World, ((w152 = (Nf.setCells w150 (⟨(hs w141), 0, none⟩ : Addr) [(Value.slice o142 n143 n144), (Value.slice o145 n146 n147)] 0)) →
(∀ w154 : World, ((w154 = w152.drew) →
(∃ o156 : Option Addr, (∃ n157 : Nat, (∃ n158 : Nat, (((w154.cell? (⟨(hs w141), 0, none⟩ : Addr)) = (some (Value.slice o156 n157 n158))) ∧
(∃ o159 : Option Addr, (∃ n160 : Nat, (∃ n161 : Nat, (((w154.cell? (⟨(hs w141), 1, none⟩ : Addr)) = (some (Value.slice o159 n160 n161))) ∧
(∃ x162 : Int, (((w154.cell? (⟨(hs w1), 4, none⟩ : Addr)) = (some (Value.int IntKind.i64 x162))) ∧
(Calls Try.prog 47 #[(Value.pointer b), (Value.int IntKind.i64 x162)] w154 (fun (e163 : Ending) => (fun (w164 : World) => (∃ b165 : Bool, ((e163 = (Ending.returned (Value.bool b165))) ∧
(((b165 = true) →
((Nf.Kept w154 w164 (⟨(hs w141), 0, none⟩ : Addr) 2) ∧
(((true = true) →
((Nf.There w164 (⟨(hs w3), 0, none⟩ : Addr) 2) ∧
(∀ w168 : World, ((w168 = (Nf.setCells w164 (⟨(hs w3), 0, none⟩ : Addr) [(Value.slice o156 n157 n158), (Value.slice o159 n160 n161)] 0)) →
(∃ o170 : Option Addr, (∃ n171 : Nat, (∃ n172 : Nat, (((w168.cell? (⟨(hs w3), 0, none⟩ : Addr)) = (some (Value.slice o170 n171 n172))) ∧
(∃ o173 : Option Addr, (∃ n174 : Nat, (∃ n175 : Nat, (((w168.cell? (⟨(hs w3), 1, none⟩ : Addr)) = (some (Value.slice o173 n174 n175))) ∧
(R (Ending.returned (Value.tuple #[(Value.agg #[(Value.slice o170 n171 n172), (Value.slice o173 n174 n175)]), (Value.bool true)])) w168))))))))))))) ∧
((true = false) →
((Nf.There w164 (⟨(hs w3), 0, none⟩ : Addr) 2) ∧
(∀ w177 : World, ((w177 = (Nf.setCells w164 (⟨(hs w3), 0, none⟩ : Addr) [(Value.slice o156 n157 n158), (Value.slice o159 n160 n161)] 0)) →
(∃ o179 : Option Addr, (∃ n180 : Nat, (∃ n181 : Nat, (((w177.cell? (⟨(hs w3), 0, none⟩ : Addr)) = (some (Value.slice o179 n180 n181))) ∧
(∃ o182 : Option Addr, (∃ n183 : Nat, (∃ n184 : Nat, (((w177.cell? (⟨(hs w3), 1, none⟩ : Addr)) = (some (Value.slice o182 n183 n184))) ∧
(R (Ending.returned (Value.tuple #[(Value.agg #[(Value.slice o179 n180 n181), (Value.slice o182 n183 n184)]), (Value.bool false)])) w177)))))))))))))))) ∧
((b165 = false) →
((Nf.Kept w154 w164 (⟨(hs w141), 0, none⟩ : Addr) 2) ∧
(((false = true) →
((Nf.There w164 (⟨(hs w3), 0, none⟩ : Addr) 2) ∧
(∀ w187 : World, ((w187 = (Nf.setCells w164 (⟨(hs w3), 0, none⟩ : Addr) [(Value.slice o156 n157 n158), (Value.slice o159 n160 n161)] 0)) →
(∃ o189 : Option Addr, (∃ n190 : Nat, (∃ n191 : Nat, (((w187.cell? (⟨(hs w3), 0, none⟩ : Addr)) = (some (Value.slice o189 n190 n191))) ∧
(∃ o192 : Option Addr, (∃ n193 : Nat, (∃ n194 : Nat, (((w187.cell? (⟨(hs w3), 1, none⟩ : Addr)) = (some (Value.slice o192 n193 n194))) ∧
(R (Ending.returned (Value.tuple #[(Value.agg #[(Value.slice o189 n190 n191), (Value.slice o192 n193 n194)]), (Value.bool true)])) w187))))))))))))) ∧
((false = false) →
((Nf.There w164 (⟨(hs w3), 0, none⟩ : Addr) 2) ∧
(∀ w196 : World, ((w196 = (Nf.setCells w164 (⟨(hs w3), 0, none⟩ : Addr) [(Value.slice o156 n157 n158), (Value.slice o159 n160 n161)] 0)) →
(∃ o198 : Option Addr, (∃ n199 : Nat, (∃ n200 : Nat, (((w196.cell? (⟨(hs w3), 0, none⟩ : Addr)) = (some (Value.slice o198 n199 n200))) ∧
(∃ o201 : Option Addr, (∃ n202 : Nat, (∃ n203 : Nat, (((w196.cell? (⟨(hs w3), 1, none⟩ : Addr)) = (some (Value.slice o201 n202 n203))) ∧
(R (Ending.returned (Value.tuple #[(Value.agg #[(Value.slice o198 n199 n200), (Value.slice o201 n202 n203)]), (Value.bool false)])) w196)))))))))))))))))))))))))))))))))))))))) ∧
((b148 = false) →
(∀ w205 : World, ((w205 = (w141.alloc (Obj.cells #[(Value.slice none 0 0), (Value.slice none 0 0)] 74 (0, 0)))) →
((Nf.There w205 (⟨(hs w141), 0, none⟩ : Addr) 2) ∧
(∀ w207 : World, ((w207 = (Nf.setCells w205 (⟨(hs w141), 0, none⟩ : Addr) [(Value.slice o142 n143 n144), (Value.slice o145 n146 n147)] 0)) →
(∀ w209 : World, ((w209 = w207.drew) →
(∃ o211 : Option Addr, (∃ n212 : Nat, (∃ n213 : Nat, (((w209.cell? (⟨(hs w141), 0, none⟩ : Addr)) = (some (Value.slice o211 n212 n213))) ∧
(∃ o214 : Option Addr, (∃ n215 : Nat, (∃ n216 : Nat, (((w209.cell? (⟨(hs w141), 1, none⟩ : Addr)) = (some (Value.slice o214 n215 n216))) ∧
(∃ x217 : Int, (((w209.cell? (⟨(hs w1), 4, none⟩ : Addr)) = (some (Value.int IntKind.i64 x217))) ∧
(Calls Try.prog 47 #[(Value.pointer b), (Value.int IntKind.i64 x217)] w209 (fun (e218 : Ending) => (fun (w219 : World) => (∃ b220 : Bool, ((e218 = (Ending.returned (Value.bool b220))) ∧
(((b220 = true) →
((Nf.Kept w209 w219 (⟨(hs w141), 0, none⟩ : Addr) 2) ∧
(((false = true) →
((Nf.There w219 (⟨(hs w3), 0, none⟩ : Addr) 2) ∧
(∀ w223 : World, ((w223 = (Nf.setCells w219 (⟨(hs w3), 0, none⟩ : Addr) [(Value.slice o211 n212 n213), (Value.slice o214 n215 n216)] 0)) →
(∃ o225 : Option Addr, (∃ n226 : Nat, (∃ n227 : Nat, (((w223.cell? (⟨(hs w3), 0, none⟩ : Addr)) = (some (Value.slice o225 n226 n227))) ∧
(∃ o228 : Option Addr, (∃ n229 : Nat, (∃ n230 : Nat, (((w223.cell? (⟨(hs w3), 1, none⟩ : Addr)) = (some (Value.slice o228 n229 n230))) ∧
(R (Ending.returned (Value.tuple #[(Value.agg #[(Value.slice o225 n226 n227), (Value.slice o228 n229 n230)]), (Value.bool true)])) w223))))))))))))) ∧
((false = false) →
((Nf.There w219 (⟨(hs w3), 0, none⟩ : Addr) 2) ∧
(∀ w232 : World, ((w232 = (Nf.setCells w219 (⟨(hs w3), 0, none⟩ : Addr) [(Value.slice o211 n212 n213), (Value.slice o214 n215 n216)] 0)) →
(∃ o234 : Option Addr, (∃ n235 : Nat, (∃ n236 : Nat, (((w232.cell? (⟨(hs w3), 0, none⟩ : Addr)) = (some (Value.slice o234 n235 n236))) ∧
(∃ o237 : Option Addr, (∃ n238 : Nat, (∃ n239 : Nat, (((w232.cell? (⟨(hs w3), 1, none⟩ : Addr)) = (some (Value.slice o237 n238 n239))) ∧
(R (Ending.returned (Value.tuple #[(Value.agg #[(Value.slice o234 n235 n236), (Value.slice o237 n238 n239)]), (Value.bool false)])) w232)))))))))))))))) ∧
((b220 = false) →
((Nf.Kept w209 w219 (⟨(hs w141), 0, none⟩ : Addr) 2) ∧
(((true = true) →
((Nf.There w219 (⟨(hs w3), 0, none⟩ : Addr) 2) ∧
(∀ w242 : World, ((w242 = (Nf.setCells w219 (⟨(hs w3), 0, none⟩ : Addr) [(Value.slice o211 n212 n213), (Value.slice o214 n215 n216)] 0)) →
(∃ o244 : Option Addr, (∃ n245 : Nat, (∃ n246 : Nat, (((w242.cell? (⟨(hs w3), 0, none⟩ : Addr)) = (some (Value.slice o244 n245 n246))) ∧
(∃ o247 : Option Addr, (∃ n248 : Nat, (∃ n249 : Nat, (((w242.cell? (⟨(hs w3), 1, none⟩ : Addr)) = (some (Value.slice o247 n248 n249))) ∧
(R (Ending.returned (Value.tuple #[(Value.agg #[(Value.slice o244 n245 n246), (Value.slice o247 n248 n249)]), (Value.bool true)])) w242))))))))))))) ∧
((true = false) →
((Nf.There w219 (⟨(hs w3), 0, none⟩ : Addr) 2) ∧
(∀ w251 : World, ((w251 = (Nf.setCells w219 (⟨(hs w3), 0, none⟩ : Addr) [(Value.slice o211 n212 n213), (Value.slice o214 n215 n216)] 0)) →
(∃ o253 : Option Addr, (∃ n254 : Nat, (∃ n255 : Nat, (((w251.cell? (⟨(hs w3), 0, none⟩ : Addr)) = (some (Value.slice o253 n254 n255))) ∧
(∃ o256 : Option Addr, (∃ n257 : Nat, (∃ n258 : Nat, (((w251.cell? (⟨(hs w3), 1, none⟩ : Addr)) = (some (Value.slice o256 n257 n258))) ∧
(R (Ending.returned (Value.tuple #[(Value.agg #[(Value.slice o253 n254 n255), (Value.slice o256 n257 n258)]), (Value.bool false)])) w251))))))))))))))))))))))))))))))))))))))))))))))))))))))))))))))) ∧
(((decide ((Int.tmod x7 4) = 2)) = false) →
(∃ o260 : Option Addr, (∃ n261 : Nat, (∃ n262 : Nat, (((w5.cell? (⟨(hs w), 0, none⟩ : Addr)) = (some (Value.slice o260 n261 n262))) ∧
(∃ o263 : Option Addr, (∃ n264 : Nat, (∃ n265 : Nat, (((w5.cell? (⟨(hs w), 1, none⟩ : Addr)) = (some (Value.slice o263 n264 n265))) ∧
(∃ s266 : ByteArray, (((w5.cell? (⟨(hs w1), 5, none⟩ : Addr)) = (some (Value.string s266))) ∧
(∃ x267 : Int, (((w5.cell? (⟨(hs w1), 6, none⟩ : Addr)) = (some (Value.int IntKind.i64 x267))) ∧
(Calls Try.prog 89 #[(Value.agg #[(Value.slice o260 n261 n262), (Value.slice o263 n264 n265)]), (Value.string s266), (Value.int IntKind.i64 x267)] w5 (fun (e268 : Ending) => (fun (w269 : World) => (∃ o270 : Option Addr, (∃ n271 : Nat, (∃ n272 : Nat, (∃ o273 : Option Addr, (∃ n274 : Nat, (∃ n275 : Nat, (∃ x276 : Int, ((e268 = (Ending.returned (Value.tuple #[(Value.agg #[(Value.slice o270 n271 n272), (Value.slice o273 n274 n275)]), (Value.int IntKind.i64 x276)]))) ∧
(∀ w277 : World, ((w277 = (w269.alloc (Obj.cells #[(Value.slice none 0 0), (Value.slice none 0 0)] 74 (0, 0)))) →
((Nf.There w277 (⟨(hs w269), 0, none⟩ : Addr) 2) ∧
(∀ w279 : World, ((w279 = (Nf.setCells w277 (⟨(hs w269), 0, none⟩ : Addr) [(Value.slice o270 n271 n272), (Value.slice o273 n274 n275)] 0)) →
(∀ w281 : World, ((w281 = w279.drew) →
(∃ o283 : Option Addr, (∃ n284 : Nat, (∃ n285 : Nat, (((w281.cell? (⟨(hs w269), 0, none⟩ : Addr)) = (some (Value.slice o283 n284 n285))) ∧
(∃ o286 : Option Addr, (∃ n287 : Nat, (∃ n288 : Nat, (((w281.cell? (⟨(hs w269), 1, none⟩ : Addr)) = (some (Value.slice o286 n287 n288))) ∧
(∃ s289 : ByteArray, (((w281.cell? (⟨(hs w1), 5, none⟩ : Addr)) = (some (Value.string s289))) ∧
(∃ x290 : Int, (((w281.cell? (⟨(hs w1), 6, none⟩ : Addr)) = (some (Value.int IntKind.i64 x290))) ∧
(Calls Try.prog 53 #[(Value.pointer b), (Value.string s289), (Value.int IntKind.i64 x290)] w281 (fun (e291 : Ending) => (fun (w292 : World) => (∃ x293 : Int, ((e291 = (Ending.returned (Value.int IntKind.i64 x293))) ∧
((Nf.Kept w281 w292 (⟨(hs w269), 0, none⟩ : Addr) 2) ∧
((((decide (x293 = x276)) = true) →
((Nf.There w292 (⟨(hs w3), 0, none⟩ : Addr) 2) ∧
(∀ w295 : World, ((w295 = (Nf.setCells w292 (⟨(hs w3), 0, none⟩ : Addr) [(Value.slice o283 n284 n285), (Value.slice o286 n287 n288)] 0)) →
(∃ o297 : Option Addr, (∃ n298 : Nat, (∃ n299 : Nat, (((w295.cell? (⟨(hs w3), 0, none⟩ : Addr)) = (some (Value.slice o297 n298 n299))) ∧
(∃ o300 : Option Addr, (∃ n301 : Nat, (∃ n302 : Nat, (((w295.cell? (⟨(hs w3), 1, none⟩ : Addr)) = (some (Value.slice o300 n301 n302))) ∧
(R (Ending.returned (Value.tuple #[(Value.agg #[(Value.slice o297 n298 n299), (Value.slice o300 n301 n302)]), (Value.bool true)])) w295))))))))))))) ∧
(((decide (x293 = x276)) = false) →
((Nf.There w292 (⟨(hs w3), 0, none⟩ : Addr) 2) ∧
(∀ w304 : World, ((w304 = (Nf.setCells w292 (⟨(hs w3), 0, none⟩ : Addr) [(Value.slice o283 n284 n285), (Value.slice o286 n287 n288)] 0)) →
(∃ o306 : Option Addr, (∃ n307 : Nat, (∃ n308 : Nat, (((w304.cell? (⟨(hs w3), 0, none⟩ : Addr)) = (some (Value.slice o306 n307 n308))) ∧
(∃ o309 : Option Addr, (∃ n310 : Nat, (∃ n311 : Nat, (((w304.cell? (⟨(hs w3), 1, none⟩ : Addr)) = (some (Value.slice o309 n310 n311))) ∧
(R (Ending.returned (Value.tuple #[(Value.agg #[(Value.slice o306 n307 n308), (Value.slice o309 n310 n311)]), (Value.bool false)])) w304))))))))))))))))))))))))))))))))))))))))))))))))))))))))))))))))))))))))))))) :
    Calls Try.prog 45 #[(.pointer b), (.agg #[(.slice x_L x_L_n x_L_c), (.slice x_P x_P_n x_P_c)]), (.agg #[(.int .u8 a_Kind), (.string a_T_Name), (.int .i64 a_T_Version), (.slice a_T_Questions a_T_Questions_n a_T_Questions_c), (.int .i64 a_Call), (.string a_Name), (.int .i64 a_Version)])] w R :=
  calls_of_vc an45 Try.func45 rfl (by kernel_rfl) (by kernel_rfl) (Eq.mp (by kernel_rfl) h)

/-- samaritan/samaritanlaw15.ProtocolstoreCapacity -/
def an12 : An := (.seq (.reg []) (.seq (.seq (.reg [(0, 0, true)]) (.cond (.seq (.reg []) .nil) .nil)) (.seq (.reg []) (.seq (.reg []) (.seq (.seq (.reg []) (.blk (.loop [(14, .int .i64)] (.seq (.reg [(0, 0, true)]) (.seq (.cond .nil .nil) (.seq (.blk (.seq (.reg []) (.seq (.reg [(6, 0, true)]) (.cond (.seq (.reg []) .nil) .nil)))) (.reg []))))))) (.seq (.seq (.reg [(5, 0, true), (10, 0, true), (21, 0, true)]) (.cond (.seq (.reg []) .nil) .nil)) (.seq (.reg [(3, 0, true), (10, 0, true), (16, 0, true)]) .nil)))))))
set_option maxRecDepth 100000 in
theorem nf12 (first : Int) (k : Int) (w : World) (R : Ending → World → Prop) (h :
(Calls Try.prog 39 #[] w (fun (e1 : Ending) => (fun (w2 : World) => (∃ b3 : Bool, ((e1 = (Ending.returned (Value.bool b3))) ∧
(((b3 = true) →
(Calls Try.prog 41 #[] w2 (fun (e5 : Ending) => (fun (w6 : World) => (∃ o7 : Option Addr, ((e5 = (Ending.returned (Value.pointer o7))) ∧
(∃ k8 : (Nat → (Int → (World → Prop))), ((∃ n9 : Nat, (k8 n9 0 w6)) ∧
(∀ n10 : Nat, ((Nat → Value) →
(∀ w12 : World, (∀ x13 : Int, ((k8 n10 x13 w12) →
((((decide (x13 < 100)) = true) →
(Calls Try.prog 43 #[(Value.string (ByteArray.mk #[(109 : UInt8), (97 : UInt8), (105 : UInt8), (110 : UInt8)])), (Value.int IntKind.i64 (IntKind.wrap IntKind.i64 ((IntKind.wrap IntKind.i64 (1 + (IntKind.wrap IntKind.i64 first))) + x13)))] w12 (fun (e16 : Ending) => (fun (w17 : World) => (∃ s18 : ByteArray, (∃ x19 : Int, (∃ o20 : Option Addr, (∃ n21 : Nat, (∃ n22 : Nat, ((e16 = (Ending.returned (Value.agg #[(Value.string s18), (Value.int IntKind.i64 x19), (Value.slice o20 n21 n22)]))) ∧
(Calls Try.prog 42 #[(Value.pointer o7), (Value.agg #[(Value.string s18), (Value.int IntKind.i64 x19), (Value.slice o20 n21 n22)])] w17 (fun (e23 : Ending) => (fun (w24 : World) => (∃ x25 : Int, ((e23 = (Ending.returned (Value.int IntKind.i64 x25))) ∧
((((!(decide (x25 = 0))) = true) →
(R (Ending.returned (Value.bool false)) w24)) ∧
(((!(decide (x25 = 0))) = false) →
(∃ n28 : Nat, ((n28 < n10) ∧
(k8 n28 (IntKind.wrap IntKind.i64 (x13 + 1)) w24)))))))))))))))))))) ∧
(((decide (x13 < 100)) = false) →
(Calls Try.prog 43 #[(Value.string (ByteArray.mk #[(109 : UInt8), (97 : UInt8), (105 : UInt8), (110 : UInt8)])), (Value.int IntKind.i64 (IntKind.wrap IntKind.i64 ((IntKind.wrap IntKind.i64 (1 + (IntKind.wrap IntKind.i64 first))) + 100)))] w12 (fun (e30 : Ending) => (fun (w31 : World) => (∃ s32 : ByteArray, (∃ x33 : Int, (∃ o34 : Option Addr, (∃ n35 : Nat, (∃ n36 : Nat, ((e30 = (Ending.returned (Value.agg #[(Value.string s32), (Value.int IntKind.i64 x33), (Value.slice o34 n35 n36)]))) ∧
(Calls Try.prog 42 #[(Value.pointer o7), (Value.agg #[(Value.string s32), (Value.int IntKind.i64 x33), (Value.slice o34 n35 n36)])] w31 (fun (e37 : Ending) => (fun (w38 : World) => (∃ x39 : Int, ((e37 = (Ending.returned (Value.int IntKind.i64 x39))) ∧
((((!(decide (x39 = 3))) = true) →
(R (Ending.returned (Value.bool false)) w38)) ∧
(((!(decide (x39 = 3))) = false) →
(Calls Try.prog 43 #[(Value.string (ByteArray.mk #[(120 : UInt8)])), (Value.int IntKind.i64 1)] w38 (fun (e42 : Ending) => (fun (w43 : World) => (∃ s44 : ByteArray, (∃ x45 : Int, (∃ o46 : Option Addr, (∃ n47 : Nat, (∃ n48 : Nat, ((e42 = (Ending.returned (Value.agg #[(Value.string s44), (Value.int IntKind.i64 x45), (Value.slice o46 n47 n48)]))) ∧
(Calls Try.prog 42 #[(Value.pointer o7), (Value.agg #[(Value.string s44), (Value.int IntKind.i64 x45), (Value.slice o46 n47 n48)])] w43 (fun (e49 : Ending) => (fun (w50 : World) => (∃ x51 : Int, ((e49 = (Ending.returned (Value.int IntKind.i64 x51))) ∧
((((!(decide (x51 = 3))) = true) →
(R (Ending.returned (Value.bool false)) w50)) ∧
(((!(decide (x51 = 3))) = false) →
(Calls Try.prog 43 #[(Value.string (ByteArray.mk #[(109 : UInt8), (97 : UInt8), (105 : UInt8), (110 : UInt8)])), (Value.int IntKind.i64 (IntKind.wrap IntKind.i64 ((IntKind.wrap IntKind.i64 (1 + (IntKind.wrap IntKind.i64 first))) + (Int.tmod (IntKind.wrap IntKind.i64 k) 100))))] w50 (fun (e54 : Ending) => (fun (w55 : World) => (∃ s56 : ByteArray, (∃ x57 : Int, (∃ o58 : Option Addr, (∃ n59 : Nat, (∃ n60 : Nat, ((e54 = (Ending.returned (Value.agg #[(Value.string s56), (Value.int IntKind.i64 x57), (Value.slice o58 n59 n60)]))) ∧
(Calls Try.prog 42 #[(Value.pointer o7), (Value.agg #[(Value.string s56), (Value.int IntKind.i64 x57), (Value.slice o58 n59 n60)])] w55 (fun (e61 : Ending) => (fun (w62 : World) => (∃ x63 : Int, ((e61 = (Ending.returned (Value.int IntKind.i64 x63))) ∧
((((!(decide (x63 = 5))) = true) →
(R (Ending.returned (Value.bool false)) w62)) ∧
(((!(decide (x63 = 5))) = false) →
(Calls Try.prog 53 #[(Value.pointer o7), (Value.string (ByteArray.mk #[(109 : UInt8), (97 : UInt8), (105 : UInt8), (110 : UInt8)])), (Value.int IntKind.i64 (IntKind.wrap IntKind.i64 (1 + (IntKind.wrap IntKind.i64 first))))] w62 (fun (e66 : Ending) => (fun (w67 : World) => (∃ x68 : Int, ((e66 = (Ending.returned (Value.int IntKind.i64 x68))) ∧
((((decide (x68 = 0)) = true) →
(Calls Try.prog 43 #[(Value.string (ByteArray.mk #[(109 : UInt8), (97 : UInt8), (105 : UInt8), (110 : UInt8)])), (Value.int IntKind.i64 (IntKind.wrap IntKind.i64 ((IntKind.wrap IntKind.i64 (1 + (IntKind.wrap IntKind.i64 first))) + 100)))] w67 (fun (e70 : Ending) => (fun (w71 : World) => (∃ s72 : ByteArray, (∃ x73 : Int, (∃ o74 : Option Addr, (∃ n75 : Nat, (∃ n76 : Nat, ((e70 = (Ending.returned (Value.agg #[(Value.string s72), (Value.int IntKind.i64 x73), (Value.slice o74 n75 n76)]))) ∧
(Calls Try.prog 42 #[(Value.pointer o7), (Value.agg #[(Value.string s72), (Value.int IntKind.i64 x73), (Value.slice o74 n75 n76)])] w71 (fun (e77 : Ending) => (fun (w78 : World) => (∃ x79 : Int, ((e77 = (Ending.returned (Value.int IntKind.i64 x79))) ∧
((((decide (x79 = 0)) = true) →
(Calls Try.prog 54 #[(Value.pointer o7), (Value.string (ByteArray.mk #[(109 : UInt8), (97 : UInt8), (105 : UInt8), (110 : UInt8)]))] w78 (fun (e81 : Ending) => (fun (w82 : World) => (∃ o83 : Option Addr, (∃ n84 : Nat, (∃ n85 : Nat, ((e81 = (Ending.returned (Value.slice o83 n84 n85))) ∧
((((decide (((n84 : Nat) : Int) = 100)) = true) →
(R (Ending.returned (Value.bool true)) w82)) ∧
(((decide (((n84 : Nat) : Int) = 100)) = false) →
(R (Ending.returned (Value.bool false)) w82))))))))))) ∧
(((decide (x79 = 0)) = false) →
(R (Ending.returned (Value.bool false)) w78)))))))))))))))))) ∧
(((decide (x68 = 0)) = false) →
(R (Ending.returned (Value.bool false)) w67))))))))))))))))))))))))))))))))))))))))))))))))))))))))))))))))))))))) ∧
((b3 = false) →
(R (Ending.returned (Value.bool false)) w2))))))))) :
    Calls Try.prog 12 #[(.int .u16 first), (.int .u8 k)] w R :=
  calls_of_vc an12 Try.func12 rfl (by kernel_rfl) (by kernel_rfl) (Eq.mp (by kernel_rfl) h)

/-- samaritan/samaritanlaw15.ProtocolstorePutValidation -/
def an11 : An := (.seq (.reg []) (.seq (.seq (.reg [(0, 0, true)]) (.cond (.seq (.reg []) .nil) .nil)) (.seq (.seq (.reg [(1, 0, true)]) (.cond (.seq (.reg []) .nil) .nil)) (.seq (.reg []) (.seq (.reg []) (.seq (.reg []) (.cut [(6, .int .i64)] (.seq (.reg [(1, 0, true)]) (.cond (.reg []) .nil)) (.seq (.reg [(8, 0, true)]) (.seq (.reg [(6, 0, true)]) (.seq (.seq (.reg [(1, 0, true)]) (.cond (.seq (.reg [(2, 0, true), (15, 0, true)]) .nil) .nil)) (.seq (.reg [(1, 0, true), (11, 0, true), (16, 0, true), (22, 0, true)]) .nil)))))))))))
set_option maxRecDepth 100000 in
theorem nf11 (t_Name : ByteArray) (t_Version : Int) (t_Questions : Option Addr) (t_Questions_n : Nat) (t_Questions_c : Nat) (w : World) (R : Ending → World → Prop) (h :
(∀ w1 : World, ((w1 = (w.alloc (Obj.cells #[(Value.string t_Name), (Value.int IntKind.i64 t_Version), (Value.slice t_Questions t_Questions_n t_Questions_c)] 24 (0, 0)))) →
(Calls Try.prog 39 #[] w1 (fun (e3 : Ending) => (fun (w4 : World) => (∃ b5 : Bool, ((e3 = (Ending.returned (Value.bool b5))) ∧
(((b5 = true) →
(∃ s7 : ByteArray, (((w4.cell? (⟨(hs w), 0, none⟩ : Addr)) = (some (Value.string s7))) ∧
(∃ x8 : Int, (((w4.cell? (⟨(hs w), 1, none⟩ : Addr)) = (some (Value.int IntKind.i64 x8))) ∧
(∃ o9 : Option Addr, (∃ n10 : Nat, (∃ n11 : Nat, (((w4.cell? (⟨(hs w), 2, none⟩ : Addr)) = (some (Value.slice o9 n10 n11))) ∧
(Calls Try.prog 48 #[(Value.agg #[(Value.string s7), (Value.int IntKind.i64 x8), (Value.slice o9 n10 n11)])] w4 (fun (e12 : Ending) => (fun (w13 : World) => (∃ b14 : Bool, ((e12 = (Ending.returned (Value.bool b14))) ∧
(((b14 = true) →
(Calls Try.prog 41 #[] w13 (fun (e16 : Ending) => (fun (w17 : World) => (∃ o18 : Option Addr, ((e16 = (Ending.returned (Value.pointer o18))) ∧
(∃ s19 : ByteArray, (((w17.cell? (⟨(hs w), 0, none⟩ : Addr)) = (some (Value.string s19))) ∧
(∃ x20 : Int, (((w17.cell? (⟨(hs w), 1, none⟩ : Addr)) = (some (Value.int IntKind.i64 x20))) ∧
(∃ o21 : Option Addr, (∃ n22 : Nat, (∃ n23 : Nat, (((w17.cell? (⟨(hs w), 2, none⟩ : Addr)) = (some (Value.slice o21 n22 n23))) ∧
(Calls Try.prog 42 #[(Value.pointer o18), (Value.agg #[(Value.string s19), (Value.int IntKind.i64 x20), (Value.slice o21 n22 n23)])] w17 (fun (e24 : Ending) => (fun (w25 : World) => (∃ x26 : Int, ((e24 = (Ending.returned (Value.int IntKind.i64 x26))) ∧
(∃ s27 : ByteArray, (((w25.cell? (⟨(hs w), 0, none⟩ : Addr)) = (some (Value.string s27))) ∧
(∃ x28 : Int, (((w25.cell? (⟨(hs w), 1, none⟩ : Addr)) = (some (Value.int IntKind.i64 x28))) ∧
(∃ o29 : Option Addr, (∃ n30 : Nat, (∃ n31 : Nat, (((w25.cell? (⟨(hs w), 2, none⟩ : Addr)) = (some (Value.slice o29 n30 n31))) ∧
(Calls Try.prog 51 #[(Value.agg #[(Value.string s27), (Value.int IntKind.i64 x28), (Value.slice o29 n30 n31)])] w25 (fun (e32 : Ending) => (fun (w33 : World) => (∃ x34 : Int, (∃ x35 : Int, ((e32 = (Ending.returned (Value.tuple #[(Value.int IntKind.i64 x34), (Value.int IntKind.i64 x35)]))) ∧
(∀ k36 : (Int → (World → Prop)), ((∀ w38 : World, (∀ x39 : Int, (((Nat → Value) →
(∃ s42 : ByteArray, (((w38.cell? (⟨(hs w), 0, none⟩ : Addr)) = (some (Value.string s42))) ∧
(∃ x43 : Int, (((w38.cell? (⟨(hs w), 1, none⟩ : Addr)) = (some (Value.int IntKind.i64 x43))) ∧
(Calls Try.prog 49 #[(Value.pointer o18), (Value.string s42), (Value.int IntKind.i64 x43)] w38 (fun (e44 : Ending) => (fun (w45 : World) => (∃ s46 : ByteArray, (∃ x47 : Int, (∃ o48 : Option Addr, (∃ n49 : Nat, (∃ n50 : Nat, (∃ b51 : Bool, ((e44 = (Ending.returned (Value.tuple #[(Value.agg #[(Value.string s46), (Value.int IntKind.i64 x47), (Value.slice o48 n49 n50)]), (Value.bool b51)]))) ∧
(((b51 = true) →
(∀ w53 : World, ((w53 = (w45.alloc (Obj.cells #[(Value.string (ByteArray.mk #[])), (Value.int IntKind.i64 0), (Value.slice none 0 0)] 24 (0, 0)))) →
((Nf.There w53 (⟨(hs w45), 0, none⟩ : Addr) 3) ∧
(∀ w55 : World, ((w55 = (Nf.setCells w53 (⟨(hs w45), 0, none⟩ : Addr) [(Value.string s46), (Value.int IntKind.i64 x47), (Value.slice o48 n49 n50)] 0)) →
(∃ s57 : ByteArray, (((w55.cell? (⟨(hs w), 0, none⟩ : Addr)) = (some (Value.string s57))) ∧
(Calls Try.prog 50 #[(Value.pointer o18), (Value.string s57)] w55 (fun (e58 : Ending) => (fun (w59 : World) => (∃ s60 : ByteArray, (∃ x61 : Int, (∃ o62 : Option Addr, (∃ n63 : Nat, (∃ n64 : Nat, (∃ b65 : Bool, ((e58 = (Ending.returned (Value.tuple #[(Value.agg #[(Value.string s60), (Value.int IntKind.i64 x61), (Value.slice o62 n63 n64)]), (Value.bool b65)]))) ∧
(((b65 = true) →
(∀ w67 : World, ((w67 = (w59.alloc (Obj.cells #[(Value.string (ByteArray.mk #[])), (Value.int IntKind.i64 0), (Value.slice none 0 0)] 24 (0, 0)))) →
((Nf.There w67 (⟨(hs w59), 0, none⟩ : Addr) 3) ∧
(∀ w69 : World, ((w69 = (Nf.setCells w67 (⟨(hs w59), 0, none⟩ : Addr) [(Value.string s60), (Value.int IntKind.i64 x61), (Value.slice o62 n63 n64)] 0)) →
((((!(decide (x39 = 0))) = true) →
((((decide (x26 = x39)) = true) →
(R (Ending.returned (Value.bool false)) w69)) ∧
(((decide (x26 = x39)) = false) →
(R (Ending.returned (Value.bool false)) w69)))) ∧
(((!(decide (x39 = 0))) = false) →
((((decide (x26 = 0)) = true) →
(∃ s76 : ByteArray, (((w69.cell? (⟨(hs w45), 0, none⟩ : Addr)) = (some (Value.string s76))) ∧
(∃ x77 : Int, (((w69.cell? (⟨(hs w45), 1, none⟩ : Addr)) = (some (Value.int IntKind.i64 x77))) ∧
(∃ o78 : Option Addr, (∃ n79 : Nat, (∃ n80 : Nat, (((w69.cell? (⟨(hs w45), 2, none⟩ : Addr)) = (some (Value.slice o78 n79 n80))) ∧
(∃ s81 : ByteArray, (((w69.cell? (⟨(hs w), 0, none⟩ : Addr)) = (some (Value.string s81))) ∧
(∃ x82 : Int, (((w69.cell? (⟨(hs w), 1, none⟩ : Addr)) = (some (Value.int IntKind.i64 x82))) ∧
(∃ o83 : Option Addr, (∃ n84 : Nat, (∃ n85 : Nat, (((w69.cell? (⟨(hs w), 2, none⟩ : Addr)) = (some (Value.slice o83 n84 n85))) ∧
(Calls Try.prog 38 #[(Value.agg #[(Value.string s76), (Value.int IntKind.i64 x77), (Value.slice o78 n79 n80)]), (Value.agg #[(Value.string s81), (Value.int IntKind.i64 x82), (Value.slice o83 n84 n85)])] w69 (fun (e86 : Ending) => (fun (w87 : World) => (∃ b88 : Bool, ((e86 = (Ending.returned (Value.bool b88))) ∧
(((b88 = true) →
(∃ s90 : ByteArray, (((w87.cell? (⟨(hs w59), 0, none⟩ : Addr)) = (some (Value.string s90))) ∧
(∃ x91 : Int, (((w87.cell? (⟨(hs w59), 1, none⟩ : Addr)) = (some (Value.int IntKind.i64 x91))) ∧
(∃ o92 : Option Addr, (∃ n93 : Nat, (∃ n94 : Nat, (((w87.cell? (⟨(hs w59), 2, none⟩ : Addr)) = (some (Value.slice o92 n93 n94))) ∧
(∃ s95 : ByteArray, (((w87.cell? (⟨(hs w), 0, none⟩ : Addr)) = (some (Value.string s95))) ∧
(∃ x96 : Int, (((w87.cell? (⟨(hs w), 1, none⟩ : Addr)) = (some (Value.int IntKind.i64 x96))) ∧
(∃ o97 : Option Addr, (∃ n98 : Nat, (∃ n99 : Nat, (((w87.cell? (⟨(hs w), 2, none⟩ : Addr)) = (some (Value.slice o97 n98 n99))) ∧
(Calls Try.prog 38 #[(Value.agg #[(Value.string s90), (Value.int IntKind.i64 x91), (Value.slice o92 n93 n94)]), (Value.agg #[(Value.string s95), (Value.int IntKind.i64 x96), (Value.slice o97 n98 n99)])] w87 (fun (e100 : Ending) => (fun (w101 : World) => (∃ b102 : Bool, ((e100 = (Ending.returned (Value.bool b102))) ∧
(((b102 = true) →
(∃ s104 : ByteArray, (((w101.cell? (⟨(hs w), 0, none⟩ : Addr)) = (some (Value.string s104))) ∧
(∃ x105 : Int, (((w101.cell? (⟨(hs w), 1, none⟩ : Addr)) = (some (Value.int IntKind.i64 x105))) ∧
(∃ o106 : Option Addr, (∃ n107 : Nat, (∃ n108 : Nat, (((w101.cell? (⟨(hs w), 2, none⟩ : Addr)) = (some (Value.slice o106 n107 n108))) ∧
(Calls Try.prog 42 #[(Value.pointer o18), (Value.agg #[(Value.string s104), (Value.int IntKind.i64 x105), (Value.slice o106 n107 n108)])] w101 (fun (e109 : Ending) => (fun (w110 : World) => (∃ x111 : Int, ((e109 = (Ending.returned (Value.int IntKind.i64 x111))) ∧
((((decide (x111 = 5)) = true) →
(R (Ending.returned (Value.bool true)) w110)) ∧
(((decide (x111 = 5)) = false) →
(R (Ending.returned (Value.bool false)) w110))))))))))))))))) ∧
((b102 = false) →
(R (Ending.returned (Value.bool false)) w101))))))))))))))))))))))))) ∧
((b88 = false) →
(R (Ending.returned (Value.bool false)) w87))))))))))))))))))))))))) ∧
(((decide (x26 = 0)) = false) →
(R (Ending.returned (Value.bool false)) w69))))))))))) ∧
((b65 = false) →
(∀ w118 : World, ((w118 = (w59.alloc (Obj.cells #[(Value.string (ByteArray.mk #[])), (Value.int IntKind.i64 0), (Value.slice none 0 0)] 24 (0, 0)))) →
((Nf.There w118 (⟨(hs w59), 0, none⟩ : Addr) 3) ∧
(∀ w120 : World, ((w120 = (Nf.setCells w118 (⟨(hs w59), 0, none⟩ : Addr) [(Value.string s60), (Value.int IntKind.i64 x61), (Value.slice o62 n63 n64)] 0)) →
((((!(decide (x39 = 0))) = true) →
((((decide (x26 = x39)) = true) →
(R (Ending.returned (Value.bool false)) w120)) ∧
(((decide (x26 = x39)) = false) →
(R (Ending.returned (Value.bool false)) w120)))) ∧
(((!(decide (x39 = 0))) = false) →
((((decide (x26 = 0)) = true) →
(R (Ending.returned (Value.bool false)) w120)) ∧
(((decide (x26 = 0)) = false) →
(R (Ending.returned (Value.bool false)) w120)))))))))))))))))))))))))))))) ∧
((b51 = false) →
(∀ w129 : World, ((w129 = (w45.alloc (Obj.cells #[(Value.string (ByteArray.mk #[])), (Value.int IntKind.i64 0), (Value.slice none 0 0)] 24 (0, 0)))) →
((Nf.There w129 (⟨(hs w45), 0, none⟩ : Addr) 3) ∧
(∀ w131 : World, ((w131 = (Nf.setCells w129 (⟨(hs w45), 0, none⟩ : Addr) [(Value.string s46), (Value.int IntKind.i64 x47), (Value.slice o48 n49 n50)] 0)) →
(∃ s133 : ByteArray, (((w131.cell? (⟨(hs w), 0, none⟩ : Addr)) = (some (Value.string s133))) ∧
(Calls Try.prog 50 #[(Value.pointer o18), (Value.string s133)] w131 (fun (e134 : Ending) => (fun (w135 : World) => (∃ s136 : ByteArray, (∃ x137 : Int, (∃ o138 : Option Addr, (∃ n139 : Nat, (∃ n140 : Nat, (∃ b141 : Bool, ((e134 = (Ending.returned (Value.tuple #[(Value.agg #[(Value.string s136), (Value.int IntKind.i64 x137), (Value.slice o138 n139 n140)]), (Value.bool b141)]))) ∧
(((b141 = true) →
(∀ w143 : World, ((w143 = (w135.alloc (Obj.cells #[(Value.string (ByteArray.mk #[])), (Value.int IntKind.i64 0), (Value.slice none 0 0)] 24 (0, 0)))) →
((Nf.There w143 (⟨(hs w135), 0, none⟩ : Addr) 3) ∧
(∀ w145 : World, ((w145 = (Nf.setCells w143 (⟨(hs w135), 0, none⟩ : Addr) [(Value.string s136), (Value.int IntKind.i64 x137), (Value.slice o138 n139 n140)] 0)) →
((((!(decide (x39 = 0))) = true) →
((((decide (x26 = x39)) = true) →
(R (Ending.returned (Value.bool false)) w145)) ∧
(((decide (x26 = x39)) = false) →
(R (Ending.returned (Value.bool false)) w145)))) ∧
(((!(decide (x39 = 0))) = false) →
((((decide (x26 = 0)) = true) →
(R (Ending.returned (Value.bool false)) w145)) ∧
(((decide (x26 = 0)) = false) →
(R (Ending.returned (Value.bool false)) w145))))))))))) ∧
((b141 = false) →
(∀ w154 : World, ((w154 = (w135.alloc (Obj.cells #[(Value.string (ByteArray.mk #[])), (Value.int IntKind.i64 0), (Value.slice none 0 0)] 24 (0, 0)))) →
((Nf.There w154 (⟨(hs w135), 0, none⟩ : Addr) 3) ∧
(∀ w156 : World, ((w156 = (Nf.setCells w154 (⟨(hs w135), 0, none⟩ : Addr) [(Value.string s136), (Value.int IntKind.i64 x137), (Value.slice o138 n139 n140)] 0)) →
((((!(decide (x39 = 0))) = true) →
((((decide (x26 = x39)) = true) →
(Calls Try.prog 52 #[(Value.pointer o18)] w156 (fun (e160 : Ending) => (fun (w161 : World) => (∃ o162 : Option Addr, (∃ n163 : Nat, (∃ n164 : Nat, ((e160 = (Ending.returned (Value.slice o162 n163 n164))) ∧
((((decide (((n163 : Nat) : Int) = 0)) = true) →
(R (Ending.returned (Value.bool true)) w161)) ∧
(((decide (((n163 : Nat) : Int) = 0)) = false) →
(R (Ending.returned (Value.bool false)) w161))))))))))) ∧
(((decide (x26 = x39)) = false) →
(R (Ending.returned (Value.bool false)) w156)))) ∧
(((!(decide (x39 = 0))) = false) →
((((decide (x26 = 0)) = true) →
(R (Ending.returned (Value.bool false)) w156)) ∧
(((decide (x26 = 0)) = false) →
(R (Ending.returned (Value.bool false)) w156)))))))))))))))))))))))))))))))))))))))))))))) →
(k36 x39 w38)))) →
((((decide (x35 = 0)) = true) →
(∃ s172 : ByteArray, (((w33.cell? (⟨(hs w), 0, none⟩ : Addr)) = (some (Value.string s172))) ∧
(∃ x173 : Int, (((w33.cell? (⟨(hs w), 1, none⟩ : Addr)) = (some (Value.int IntKind.i64 x173))) ∧
(∃ o174 : Option Addr, (∃ n175 : Nat, (∃ n176 : Nat, (((w33.cell? (⟨(hs w), 2, none⟩ : Addr)) = (some (Value.slice o174 n175 n176))) ∧
(Calls Try.prog 31 #[(Value.agg #[(Value.string s172), (Value.int IntKind.i64 x173), (Value.slice o174 n175 n176)])] w33 (fun (e177 : Ending) => (fun (w178 : World) => (∃ x179 : Int, (∃ x180 : Int, ((e177 = (Ending.returned (Value.tuple #[(Value.int IntKind.i64 x179), (Value.int IntKind.i64 x180)]))) ∧
(k36 x180 w178)))))))))))))))) ∧
(((decide (x35 = 0)) = false) →
(k36 x35 w33)))))))))))))))))))))))))))))))))))))) ∧
((b14 = false) →
(R (Ending.returned (Value.bool true)) w13))))))))))))))))) ∧
((b5 = false) →
(R (Ending.returned (Value.bool false)) w4))))))))))) :
    Calls Try.prog 11 #[(.agg #[(.string t_Name), (.int .i64 t_Version), (.slice t_Questions t_Questions_n t_Questions_c)])] w R :=
  calls_of_vc an11 Try.func11 rfl (by kernel_rfl) (by kernel_rfl) (Eq.mp (by kernel_rfl) h)

end Go.Proofs.Ytbaacpfjecbbgaa
