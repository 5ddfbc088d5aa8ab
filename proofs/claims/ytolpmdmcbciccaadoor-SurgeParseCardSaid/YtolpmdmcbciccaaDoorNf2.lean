/- The contracts' premises: for each function, the proposition that its body comes to (printed by the tool of wip/nf). -/
import Derived.Test.YtolpmdmcbciccaaDoorRows
import Derived.Test.YtolpmdmcbciccaaDoorNfD
namespace Go.Proofs.YtolpmdmcbciccaaDoor
open Go Go.Nf

/-- samaritan/surge.New -/
def an19 : An := (.seq (.reg []) (.seq (.seq (.reg [(2, 0, true), (5, 0, true), (9, 0, true)]) (.cond (.seq (.reg []) .nil) .nil)) (.seq (.reg [(1, 0, true)]) (.seq (.seq (.reg []) (.blk (.loop [(29, .int .i64)] (.seq (.reg [(0, 0, true)]) (.seq (.cond .nil .nil) (.seq (.blk (.seq (.reg []) (.seq (.regD [(6, 1, false), (8, 1, false)] [0, 1, 2, 3, 4, 5, 6, 7, 8, 9, 10, 11] [6, 7, 8, 11]) (.regD [(7, 1, false), (9, 1, false)] [0, 1, 2, 3, 4, 5, 6, 7, 8, 9, 10, 11, 12] [7, 8, 9, 12])))) (.reg []))))))) (.seq (.reg []) .nil)))))
set_option maxRecDepth 100000 in
theorem nf19 (p_Name : ByteArray) (p_Steps : Option Addr) (p_Steps_n : Nat) (p_Steps_c : Nat) (calm : Int) (drill : Bool) (w : World) (R : Ending → World → Prop) (h :
(∀ w1 : World, ((w1 = (w.alloc (Obj.cells #[(Value.string p_Name), (Value.slice p_Steps p_Steps_n p_Steps_c)] 35 (0, 0)))) →
(∃ s3 : ByteArray, (((w1.cell? (⟨(hs w), 0, none⟩ : Addr)) = (some (Value.string s3))) ∧
(∃ o4 : Option Addr, (∃ n5 : Nat, (∃ n6 : Nat, (((w1.cell? (⟨(hs w), 1, none⟩ : Addr)) = (some (Value.slice o4 n5 n6))) ∧
(Calls Tryd.prog 16 #[(Value.agg #[(Value.string s3), (Value.slice o4 n5 n6)])] w1 (fun (e7 : Ending) => (fun (w8 : World) => (∃ x9 : Int, ((e7 = (Ending.returned (Value.int IntKind.i64 x9))) ∧
((((!(decide (x9 = (-1)))) = true) →
(R (Ending.returned (Value.tuple #[(Value.pointer none), (Value.int IntKind.i64 1)])) w8)) ∧
(((!(decide (x9 = (-1)))) = false) →
((((decide (calm < 0)) = true) →
(R (Ending.returned (Value.tuple #[(Value.pointer none), (Value.int IntKind.i64 1)])) w8)) ∧
(((decide (calm < 0)) = false) →
((((decide (calm > 1099511627776)) = true) →
(R (Ending.returned (Value.tuple #[(Value.pointer none), (Value.int IntKind.i64 1)])) w8)) ∧
(((decide (calm > 1099511627776)) = false) →
(((drill = true) →
(∀ w17 : World, ((w17 = (w8.alloc (Obj.cells #[(Value.slice none 0 0), (Value.slice none 0 0), (Value.int IntKind.i64 calm), (Value.bool true), (Value.int IntKind.i64 0), (Value.bool false), (Value.int IntKind.i64 0)] 84 (0, 0)))) →
(∃ o19 : Option Addr, (∃ n20 : Nat, (∃ n21 : Nat, (((w17.cell? (⟨(hs w), 1, none⟩ : Addr)) = (some (Value.slice o19 n20 n21))) ∧
(∃ k22 : (Nat → (Int → (World → Prop))), ((∃ n23 : Nat, (k22 n23 0 w17)) ∧
(∀ n24 : Nat, ((Nat → Value) →
(∀ w26 : World, (∀ x27 : Int, ((k22 n24 x27 w26) →
((((decide (x27 < ((n20 : Nat) : Int))) = true) →
(∃ a30 : Addr, ((o19 = (some a30)) ∧
((((0 : Int) ≤ x27) ∧
(x27 < ((n20 : Nat) : Int))) ∧
(∃ o31 : Option Addr, (∃ n32 : Nat, (∃ n33 : Nat, (((w26.cell? (Addr.add a30 ((x27).toNat * 1))) = (some (Value.slice o31 n32 n33))) ∧
(∀ w34 : World, ((w34 = w26.drew) →
(∃ o36 : Option Addr, (∃ n37 : Nat, (∃ n38 : Nat, (((w34.cell? (⟨(hs w8), 0, none⟩ : Addr)) = (some (Value.slice o36 n37 n38))) ∧
(RunOk Tryd.prog (Nf.Hold (Builtin.append_ #[52, 52] 52 #[(Value.slice none 0 0), (Value.slice o31 n32 n33)])) w34 (fun (v39 : Value) => (fun (w40 : World) => (∃ o41 : Option Addr, (∃ n42 : Nat, (∃ n43 : Nat, ((v39 = (Value.slice o41 n42 n43)) ∧
((Nf.Kept w34 w40 (⟨(hs w8), 0, none⟩ : Addr) 1) ∧
(∀ w44 : World, ((w44 = (w40.alloc (Obj.cells #[(Value.slice o41 n42 n43)] 52 (0, 0)))) →
((Nf.Kept w34 w44 (⟨(hs w8), 0, none⟩ : Addr) 1) ∧
(RunOk Tryd.prog (Nf.Hold (Builtin.append_ #[30, 30] 30 #[(Value.slice o36 n37 n38), (Value.slice (some (⟨(hs w40), 0, none⟩ : Addr)) 1 1)])) w44 (fun (v46 : Value) => (fun (w47 : World) => (∃ o48 : Option Addr, (∃ n49 : Nat, (∃ n50 : Nat, ((v46 = (Value.slice o48 n49 n50)) ∧
((Nf.There w47 (⟨(hs w8), 0, none⟩ : Addr) 1) ∧
(∀ w51 : World, ((w51 = (Nf.setCells w47 (⟨(hs w8), 0, none⟩ : Addr) [(Value.slice o48 n49 n50)] 0)) →
(∀ w53 : World, ((w53 = w51.drew) →
(∃ o55 : Option Addr, (∃ n56 : Nat, (∃ n57 : Nat, (((w53.cell? (⟨(hs w8), 1, none⟩ : Addr)) = (some (Value.slice o55 n56 n57))) ∧
(RunOk Tryd.prog (Nf.Hold (Instr.makeSlice 85 (Value.int IntKind.i64 ((n32 : Nat) : Int)) (Value.int IntKind.i64 ((n32 : Nat) : Int)))) w53 (fun (v58 : Value) => (fun (w59 : World) => (∃ o60 : Option Addr, (∃ n61 : Nat, (∃ n62 : Nat, ((v58 = (Value.slice o60 n61 n62)) ∧
((Nf.Kept w53 w59 (⟨(hs w8), 1, none⟩ : Addr) 1) ∧
(∀ w63 : World, ((w63 = (w59.alloc (Obj.cells #[(Value.slice o60 n61 n62)] 85 (0, 0)))) →
((Nf.Kept w53 w63 (⟨(hs w8), 1, none⟩ : Addr) 1) ∧
(RunOk Tryd.prog (Nf.Hold (Builtin.append_ #[82, 82] 82 #[(Value.slice o55 n56 n57), (Value.slice (some (⟨(hs w59), 0, none⟩ : Addr)) 1 1)])) w63 (fun (v65 : Value) => (fun (w66 : World) => (∃ o67 : Option Addr, (∃ n68 : Nat, (∃ n69 : Nat, ((v65 = (Value.slice o67 n68 n69)) ∧
((Nf.There w66 (⟨(hs w8), 1, none⟩ : Addr) 1) ∧
(∀ w70 : World, ((w70 = (Nf.setCells w66 (⟨(hs w8), 1, none⟩ : Addr) [(Value.slice o67 n68 n69)] 0)) →
(∃ n72 : Nat, ((n72 < n24) ∧
(k22 n72 (IntKind.wrap IntKind.i64 (x27 + 1)) w70))))))))))))))))))))))))))))))))))))))))))))))))))))))))))))))))) ∧
(((decide (x27 < ((n20 : Nat) : Int))) = false) →
(R (Ending.returned (Value.tuple #[(Value.pointer (some (⟨(hs w8), 0, none⟩ : Addr))), (Value.int IntKind.i64 0)])) w26))))))))))))))))) ∧
((drill = false) →
(∀ w75 : World, ((w75 = (w8.alloc (Obj.cells #[(Value.slice none 0 0), (Value.slice none 0 0), (Value.int IntKind.i64 calm), (Value.bool false), (Value.int IntKind.i64 0), (Value.bool false), (Value.int IntKind.i64 0)] 84 (0, 0)))) →
(∃ o77 : Option Addr, (∃ n78 : Nat, (∃ n79 : Nat, (((w75.cell? (⟨(hs w), 1, none⟩ : Addr)) = (some (Value.slice o77 n78 n79))) ∧
(∃ k80 : (Nat → (Int → (World → Prop))), ((∃ n81 : Nat, (k80 n81 0 w75)) ∧
(∀ n82 : Nat, ((Nat → Value) →
(∀ w84 : World, (∀ x85 : Int, ((k80 n82 x85 w84) →
((((decide (x85 < ((n78 : Nat) : Int))) = true) →
(∃ a88 : Addr, ((o77 = (some a88)) ∧
((((0 : Int) ≤ x85) ∧
(x85 < ((n78 : Nat) : Int))) ∧
(∃ o89 : Option Addr, (∃ n90 : Nat, (∃ n91 : Nat, (((w84.cell? (Addr.add a88 ((x85).toNat * 1))) = (some (Value.slice o89 n90 n91))) ∧
(∀ w92 : World, ((w92 = w84.drew) →
(∃ o94 : Option Addr, (∃ n95 : Nat, (∃ n96 : Nat, (((w92.cell? (⟨(hs w8), 0, none⟩ : Addr)) = (some (Value.slice o94 n95 n96))) ∧
(RunOk Tryd.prog (Nf.Hold (Builtin.append_ #[52, 52] 52 #[(Value.slice none 0 0), (Value.slice o89 n90 n91)])) w92 (fun (v97 : Value) => (fun (w98 : World) => (∃ o99 : Option Addr, (∃ n100 : Nat, (∃ n101 : Nat, ((v97 = (Value.slice o99 n100 n101)) ∧
((Nf.Kept w92 w98 (⟨(hs w8), 0, none⟩ : Addr) 1) ∧
(∀ w102 : World, ((w102 = (w98.alloc (Obj.cells #[(Value.slice o99 n100 n101)] 52 (0, 0)))) →
((Nf.Kept w92 w102 (⟨(hs w8), 0, none⟩ : Addr) 1) ∧
(RunOk Tryd.prog (Nf.Hold (Builtin.append_ #[30, 30] 30 #[(Value.slice o94 n95 n96), (Value.slice (some (⟨(hs w98), 0, none⟩ : Addr)) 1 1)])) w102 (fun (v104 : Value) => (fun (w105 : World) => (∃ o106 : Option Addr, (∃ n107 : Nat, (∃ n108 : Nat, ((v104 = (Value.slice o106 n107 n108)) ∧
((Nf.There w105 (⟨(hs w8), 0, none⟩ : Addr) 1) ∧
(∀ w109 : World, ((w109 = (Nf.setCells w105 (⟨(hs w8), 0, none⟩ : Addr) [(Value.slice o106 n107 n108)] 0)) →
(∀ w111 : World, ((w111 = w109.drew) →
(∃ o113 : Option Addr, (∃ n114 : Nat, (∃ n115 : Nat, (((w111.cell? (⟨(hs w8), 1, none⟩ : Addr)) = (some (Value.slice o113 n114 n115))) ∧
(RunOk Tryd.prog (Nf.Hold (Instr.makeSlice 85 (Value.int IntKind.i64 ((n90 : Nat) : Int)) (Value.int IntKind.i64 ((n90 : Nat) : Int)))) w111 (fun (v116 : Value) => (fun (w117 : World) => (∃ o118 : Option Addr, (∃ n119 : Nat, (∃ n120 : Nat, ((v116 = (Value.slice o118 n119 n120)) ∧
((Nf.Kept w111 w117 (⟨(hs w8), 1, none⟩ : Addr) 1) ∧
(∀ w121 : World, ((w121 = (w117.alloc (Obj.cells #[(Value.slice o118 n119 n120)] 85 (0, 0)))) →
((Nf.Kept w111 w121 (⟨(hs w8), 1, none⟩ : Addr) 1) ∧
(RunOk Tryd.prog (Nf.Hold (Builtin.append_ #[82, 82] 82 #[(Value.slice o113 n114 n115), (Value.slice (some (⟨(hs w117), 0, none⟩ : Addr)) 1 1)])) w121 (fun (v123 : Value) => (fun (w124 : World) => (∃ o125 : Option Addr, (∃ n126 : Nat, (∃ n127 : Nat, ((v123 = (Value.slice o125 n126 n127)) ∧
((Nf.There w124 (⟨(hs w8), 1, none⟩ : Addr) 1) ∧
(∀ w128 : World, ((w128 = (Nf.setCells w124 (⟨(hs w8), 1, none⟩ : Addr) [(Value.slice o125 n126 n127)] 0)) →
(∃ n130 : Nat, ((n130 < n82) ∧
(k80 n130 (IntKind.wrap IntKind.i64 (x85 + 1)) w128))))))))))))))))))))))))))))))))))))))))))))))))))))))))))))))))) ∧
(((decide (x85 < ((n78 : Nat) : Int))) = false) →
(R (Ending.returned (Value.tuple #[(Value.pointer (some (⟨(hs w8), 0, none⟩ : Addr))), (Value.int IntKind.i64 0)])) w84)))))))))))))))))))))))))))))))))))))) :
    Calls Tryd.prog 19 #[(.agg #[(.string p_Name), (.slice p_Steps p_Steps_n p_Steps_c)]), (.int .i64 calm), (.bool drill)] w R :=
  calls_of_vc an19 Tryd.func19 rfl (by kernel_rfl) (by kernel_rfl) (Eq.mp (by kernel_rfl) h)

/-- samaritan/samaritanref45.New -/
def an20 : An := (.seq (.reg []) (.seq (.regE [(2, 0, true), (7, 0, true), (10, 0, true), (14, 0, true)] (.take 0 (.take 1 (.take 2 (.take 3 (.take 5 (.eff (.alt (.one 4 (.eff (.one 6 (.take 7 (.take 8 (.take 9 (.take 10 (.take 11 (.take 12 (.take 13 (.take 14 (.take 15 (.take 16 (.take 17 .nil)))))))))))))) (.one 6 (.take 7 (.take 8 (.take 9 (.take 10 (.take 11 (.take 12 (.take 13 (.take 14 (.take 15 (.eff (.one 4 (.take 16 (.take 17 .nil))))))))))))))))))))) [4, 6]) .nil))
set_option maxRecDepth 100000 in
theorem nf20 (p_Name : ByteArray) (p_Steps : Option Addr) (p_Steps_n : Nat) (p_Steps_c : Nat) (calm : Int) (drill : Bool) (w : World) (R : Ending → World → Prop) (h :
(∀ w1 : World, ((w1 = (w.alloc (Obj.cells #[(Value.string p_Name), (Value.slice p_Steps p_Steps_n p_Steps_c)] 32 (0, 0)))) →
(∀ w3 : World, ((w3 = w1.drew) →
(∃ s5 : ByteArray, (((w3.cell? (⟨(hs w), 0, none⟩ : Addr)) = (some (Value.string s5))) ∧
(∃ o6 : Option Addr, (∃ n7 : Nat, (∃ n8 : Nat, (((w3.cell? (⟨(hs w), 1, none⟩ : Addr)) = (some (Value.slice o6 n7 n8))) ∧
(((drill = true) →
(∃ s10 : ByteArray, (((w3.cell? (⟨(hs w), 0, none⟩ : Addr)) = (some (Value.string s10))) ∧
(∃ o11 : Option Addr, (∃ n12 : Nat, (∃ n13 : Nat, (((w3.cell? (⟨(hs w), 1, none⟩ : Addr)) = (some (Value.slice o11 n12 n13))) ∧
((∀ w14 : World, ((w14 = (w3.alloc (Obj.cells #[(Value.string s5), (Value.slice o6 n7 n8), (Value.int IntKind.i64 calm), (Value.bool true), (Value.int IntKind.i64 0), (Value.int IntKind.i64 (-1)), (Value.slice none 0 0)] 56 (0, 0)))) →
((Nf.Kept w3 w14 (⟨(hs w), 0, none⟩ : Addr) 2) ∧
(Calls Tryd.prog 18 #[(Value.agg #[(Value.string s10), (Value.slice o11 n12 n13)])] w14 (fun (e16 : Ending) => (fun (w17 : World) => (∃ x18 : Int, ((e16 = (Ending.returned (Value.int IntKind.i64 x18))) ∧
((((decide (x18 = (-1))) = true) →
((((decide (calm ≥ 0)) = true) →
((((decide (calm ≤ 1099511627776)) = true) →
(R (Ending.returned (Value.tuple #[(Value.pointer (some (⟨(hs w3), 0, none⟩ : Addr))), (Value.bool true)])) w17)) ∧
(((decide (calm ≤ 1099511627776)) = false) →
(R (Ending.returned (Value.tuple #[(Value.pointer (some (⟨(hs w3), 0, none⟩ : Addr))), (Value.bool false)])) w17)))) ∧
(((decide (calm ≥ 0)) = false) →
(R (Ending.returned (Value.tuple #[(Value.pointer (some (⟨(hs w3), 0, none⟩ : Addr))), (Value.bool false)])) w17)))) ∧
(((decide (x18 = (-1))) = false) →
(R (Ending.returned (Value.tuple #[(Value.pointer (some (⟨(hs w3), 0, none⟩ : Addr))), (Value.bool false)])) w17))))))))))) ∧
(Calls Tryd.prog 18 #[(Value.agg #[(Value.string s10), (Value.slice o11 n12 n13)])] w3 (fun (e25 : Ending) => (fun (w26 : World) => (∃ x27 : Int, ((e25 = (Ending.returned (Value.int IntKind.i64 x27))) ∧
((Nf.Kept w3 w26 (⟨(hs w), 0, none⟩ : Addr) 2) ∧
((((decide (x27 = (-1))) = true) →
((((decide (calm ≥ 0)) = true) →
((((decide (calm ≤ 1099511627776)) = true) →
(∀ w31 : World, ((w31 = (w26.alloc (Obj.cells #[(Value.string s5), (Value.slice o6 n7 n8), (Value.int IntKind.i64 calm), (Value.bool true), (Value.int IntKind.i64 0), (Value.int IntKind.i64 (-1)), (Value.slice none 0 0)] 56 (0, 0)))) →
(R (Ending.returned (Value.tuple #[(Value.pointer (some (⟨(hs w26), 0, none⟩ : Addr))), (Value.bool true)])) w31)))) ∧
(((decide (calm ≤ 1099511627776)) = false) →
(∀ w34 : World, ((w34 = (w26.alloc (Obj.cells #[(Value.string s5), (Value.slice o6 n7 n8), (Value.int IntKind.i64 calm), (Value.bool true), (Value.int IntKind.i64 0), (Value.int IntKind.i64 (-1)), (Value.slice none 0 0)] 56 (0, 0)))) →
(R (Ending.returned (Value.tuple #[(Value.pointer (some (⟨(hs w26), 0, none⟩ : Addr))), (Value.bool false)])) w34)))))) ∧
(((decide (calm ≥ 0)) = false) →
(∀ w37 : World, ((w37 = (w26.alloc (Obj.cells #[(Value.string s5), (Value.slice o6 n7 n8), (Value.int IntKind.i64 calm), (Value.bool true), (Value.int IntKind.i64 0), (Value.int IntKind.i64 (-1)), (Value.slice none 0 0)] 56 (0, 0)))) →
(R (Ending.returned (Value.tuple #[(Value.pointer (some (⟨(hs w26), 0, none⟩ : Addr))), (Value.bool false)])) w37)))))) ∧
(((decide (x27 = (-1))) = false) →
(∀ w40 : World, ((w40 = (w26.alloc (Obj.cells #[(Value.string s5), (Value.slice o6 n7 n8), (Value.int IntKind.i64 calm), (Value.bool true), (Value.int IntKind.i64 0), (Value.int IntKind.i64 (-1)), (Value.slice none 0 0)] 56 (0, 0)))) →
(R (Ending.returned (Value.tuple #[(Value.pointer (some (⟨(hs w26), 0, none⟩ : Addr))), (Value.bool false)])) w40))))))))))))))))))) ∧
((drill = false) →
(∃ s43 : ByteArray, (((w3.cell? (⟨(hs w), 0, none⟩ : Addr)) = (some (Value.string s43))) ∧
(∃ o44 : Option Addr, (∃ n45 : Nat, (∃ n46 : Nat, (((w3.cell? (⟨(hs w), 1, none⟩ : Addr)) = (some (Value.slice o44 n45 n46))) ∧
((∀ w47 : World, ((w47 = (w3.alloc (Obj.cells #[(Value.string s5), (Value.slice o6 n7 n8), (Value.int IntKind.i64 calm), (Value.bool false), (Value.int IntKind.i64 0), (Value.int IntKind.i64 (-1)), (Value.slice none 0 0)] 56 (0, 0)))) →
((Nf.Kept w3 w47 (⟨(hs w), 0, none⟩ : Addr) 2) ∧
(Calls Tryd.prog 18 #[(Value.agg #[(Value.string s43), (Value.slice o44 n45 n46)])] w47 (fun (e49 : Ending) => (fun (w50 : World) => (∃ x51 : Int, ((e49 = (Ending.returned (Value.int IntKind.i64 x51))) ∧
((((decide (x51 = (-1))) = true) →
((((decide (calm ≥ 0)) = true) →
((((decide (calm ≤ 1099511627776)) = true) →
(R (Ending.returned (Value.tuple #[(Value.pointer (some (⟨(hs w3), 0, none⟩ : Addr))), (Value.bool true)])) w50)) ∧
(((decide (calm ≤ 1099511627776)) = false) →
(R (Ending.returned (Value.tuple #[(Value.pointer (some (⟨(hs w3), 0, none⟩ : Addr))), (Value.bool false)])) w50)))) ∧
(((decide (calm ≥ 0)) = false) →
(R (Ending.returned (Value.tuple #[(Value.pointer (some (⟨(hs w3), 0, none⟩ : Addr))), (Value.bool false)])) w50)))) ∧
(((decide (x51 = (-1))) = false) →
(R (Ending.returned (Value.tuple #[(Value.pointer (some (⟨(hs w3), 0, none⟩ : Addr))), (Value.bool false)])) w50))))))))))) ∧
(Calls Tryd.prog 18 #[(Value.agg #[(Value.string s43), (Value.slice o44 n45 n46)])] w3 (fun (e58 : Ending) => (fun (w59 : World) => (∃ x60 : Int, ((e58 = (Ending.returned (Value.int IntKind.i64 x60))) ∧
((Nf.Kept w3 w59 (⟨(hs w), 0, none⟩ : Addr) 2) ∧
((((decide (x60 = (-1))) = true) →
((((decide (calm ≥ 0)) = true) →
((((decide (calm ≤ 1099511627776)) = true) →
(∀ w64 : World, ((w64 = (w59.alloc (Obj.cells #[(Value.string s5), (Value.slice o6 n7 n8), (Value.int IntKind.i64 calm), (Value.bool false), (Value.int IntKind.i64 0), (Value.int IntKind.i64 (-1)), (Value.slice none 0 0)] 56 (0, 0)))) →
(R (Ending.returned (Value.tuple #[(Value.pointer (some (⟨(hs w59), 0, none⟩ : Addr))), (Value.bool true)])) w64)))) ∧
(((decide (calm ≤ 1099511627776)) = false) →
(∀ w67 : World, ((w67 = (w59.alloc (Obj.cells #[(Value.string s5), (Value.slice o6 n7 n8), (Value.int IntKind.i64 calm), (Value.bool false), (Value.int IntKind.i64 0), (Value.int IntKind.i64 (-1)), (Value.slice none 0 0)] 56 (0, 0)))) →
(R (Ending.returned (Value.tuple #[(Value.pointer (some (⟨(hs w59), 0, none⟩ : Addr))), (Value.bool false)])) w67)))))) ∧
(((decide (calm ≥ 0)) = false) →
(∀ w70 : World, ((w70 = (w59.alloc (Obj.cells #[(Value.string s5), (Value.slice o6 n7 n8), (Value.int IntKind.i64 calm), (Value.bool false), (Value.int IntKind.i64 0), (Value.int IntKind.i64 (-1)), (Value.slice none 0 0)] 56 (0, 0)))) →
(R (Ending.returned (Value.tuple #[(Value.pointer (some (⟨(hs w59), 0, none⟩ : Addr))), (Value.bool false)])) w70)))))) ∧
(((decide (x60 = (-1))) = false) →
(∀ w73 : World, ((w73 = (w59.alloc (Obj.cells #[(Value.string s5), (Value.slice o6 n7 n8), (Value.int IntKind.i64 calm), (Value.bool false), (Value.int IntKind.i64 0), (Value.int IntKind.i64 (-1)), (Value.slice none 0 0)] 56 (0, 0)))) →
(R (Ending.returned (Value.tuple #[(Value.pointer (some (⟨(hs w59), 0, none⟩ : Addr))), (Value.bool false)])) w73))))))))))))))))))))))))))))))) :
    Calls Tryd.prog 20 #[(.agg #[(.string p_Name), (.slice p_Steps p_Steps_n p_Steps_c)]), (.int .i64 calm), (.bool drill)] w R :=
  calls_of_vc an20 Tryd.func20 rfl (by kernel_rfl) (by kernel_rfl) (Eq.mp (by kernel_rfl) h)

/-- (*samaritan/samaritanref45.State).steps -/
def an47 : An := (.seq (.reg []) (.seq (.reg []) (.seq (.seq (.reg []) (.blk (.loop [(7, .slice), (8, .int .i64)] (.seq (.seq (.reg [(2, 0, true)]) (.cond .nil .nil)) (.seq (.blk (.reg [(2, 2, false), (9, 1, false)])) (.reg [])))))) (.seq (.reg []) .nil))))
set_option maxRecDepth 100000 in
theorem nf47 (s : Option Addr) (from' : Int) (to : Int) (w : World) (R : Ending → World → Prop) (h :
(∀ w1 : World, ((w1 = (w.alloc (Obj.cells #[] 9 (0, 0)))) →
(∃ k3 : (Nat → (Option Addr → (Nat → (Nat → (Int → (World → Prop)))))), ((∃ n4 : Nat, (k3 n4 (some (⟨(hs w), 0, none⟩ : Addr)) 0 0 from' w1)) ∧
(∀ n5 : Nat, ((Nat → Value) →
(∀ w7 : World, (∀ o8 : Option Addr, (∀ n9 : Nat, (∀ n10 : Nat, (∀ x11 : Int, ((k3 n5 o8 n9 n10 x11 w7) →
((((decide (x11 < to)) = true) →
(∃ a14 : Addr, ((s = (some a14)) ∧
(∃ o15 : Option Addr, (∃ n16 : Nat, (∃ n17 : Nat, (((w7.cell? (Addr.add a14 1)) = (some (Value.slice o15 n16 n17))) ∧
(∃ a18 : Addr, ((o15 = (some a18)) ∧
((((0 : Int) ≤ x11) ∧
(x11 < ((n16 : Nat) : Int))) ∧
(∃ o19 : Option Addr, (∃ n20 : Nat, (∃ n21 : Nat, (((w7.cell? (Addr.add a18 ((x11).toNat * 1))) = (some (Value.slice o19 n20 n21))) ∧
(RunOk Tryd.prog (Nf.Hold (Builtin.append_ #[52, 52] 52 #[(Value.slice o8 n9 n10), (Value.slice o19 n20 n21)])) w7 (fun (v22 : Value) => (fun (w23 : World) => (∃ o24 : Option Addr, (∃ n25 : Nat, (∃ n26 : Nat, ((v22 = (Value.slice o24 n25 n26)) ∧
(∃ n27 : Nat, ((n27 < n5) ∧
(k3 n27 o24 n25 n26 (IntKind.wrap IntKind.i64 (x11 + 1)) w23)))))))))))))))))))))))) ∧
(((decide (x11 < to)) = false) →
(R (Ending.returned (Value.slice o8 n9 n10)) w7)))))))))))))))) :
    Calls Tryd.prog 47 #[(.pointer s), (.int .i64 from'), (.int .i64 to)] w R :=
  calls_of_vc an47 Tryd.func47 rfl (by kernel_rfl) (by kernel_rfl) (Eq.mp (by kernel_rfl) h)

/-- (*samaritan/surge.Run).Complete -/
def an21 : An := (.seq (.reg []) (.seq (.seq (.reg [(1, 2, false)]) (.blk (.loop [(14, .int .i64)] (.seq (.reg [(0, 0, true)]) (.seq (.cond .nil .nil) (.seq (.blk (.seq (.reg []) (.seq (.reg []) (.blk (.loop [(21, .int .i64)] (.seq (.reg [(0, 0, true)]) (.seq (.cond .nil .nil) (.seq (.blk (.seq (.reg []) (.seq (.reg [(2, 3, true), (5, 2, false), (13, 0, true)]) (.cond (.seq (.reg [(1, 2, false)]) (.seq (.reg []) .nil)) .nil)))) (.reg []))))))))) (.reg []))))))) (.seq (.reg []) .nil)))
set_option maxRecDepth 100000 in
theorem nf21 (s : Option Addr) (step : ByteArray) (w : World) (R : Ending → World → Prop) (h :
(∃ a1 : Addr, ((s = (some a1)) ∧
(∃ o2 : Option Addr, (∃ n3 : Nat, (∃ n4 : Nat, (((w.cell? a1) = (some (Value.slice o2 n3 n4))) ∧
(∃ k5 : (Nat → (Int → (World → Prop))), ((∃ n6 : Nat, (k5 n6 0 w)) ∧
(∀ n7 : Nat, ((Nat → Value) →
(∀ w9 : World, (∀ x10 : Int, ((k5 n7 x10 w9) →
((((decide (x10 < ((n3 : Nat) : Int))) = true) →
(∃ a13 : Addr, ((o2 = (some a13)) ∧
((((0 : Int) ≤ x10) ∧
(x10 < ((n3 : Nat) : Int))) ∧
(∃ o14 : Option Addr, (∃ n15 : Nat, (∃ n16 : Nat, (((w9.cell? (Addr.add a13 ((x10).toNat * 1))) = (some (Value.slice o14 n15 n16))) ∧
(∃ k17 : (Nat → (Int → (World → Prop))), ((∃ n18 : Nat, (k17 n18 0 w9)) ∧
(∀ n19 : Nat, ((Nat → Value) →
(∀ w21 : World, (∀ x22 : Int, ((k17 n19 x22 w21) →
((((decide (x22 < ((n15 : Nat) : Int))) = true) →
(∃ a25 : Addr, ((o14 = (some a25)) ∧
((((0 : Int) ≤ x22) ∧
(x22 < ((n15 : Nat) : Int))) ∧
(∃ s26 : ByteArray, (((w21.cell? (Addr.add a25 ((x22).toNat * 1))) = (some (Value.string s26))) ∧
((((Nf.strEq s26 step) = true) →
(∃ a28 : Addr, ((s = (some a28)) ∧
(∃ o29 : Option Addr, (∃ n30 : Nat, (∃ n31 : Nat, (((w21.cell? (Addr.add a28 1)) = (some (Value.slice o29 n30 n31))) ∧
(∃ a32 : Addr, ((o29 = (some a32)) ∧
((((0 : Int) ≤ x10) ∧
(x10 < ((n30 : Nat) : Int))) ∧
(∃ o33 : Option Addr, (∃ n34 : Nat, (∃ n35 : Nat, (((w21.cell? (Addr.add a32 ((x10).toNat * 1))) = (some (Value.slice o33 n34 n35))) ∧
(∃ a36 : Addr, ((o33 = (some a36)) ∧
((((0 : Int) ≤ x22) ∧
(x22 < ((n34 : Nat) : Int))) ∧
(∃ b37 : Bool, (((w21.cell? (Addr.add a36 ((x22).toNat * 1))) = (some (Value.bool b37))) ∧
(((b37 = true) →
(∃ a39 : Addr, ((s = (some a39)) ∧
(∃ o40 : Option Addr, (∃ n41 : Nat, (∃ n42 : Nat, (((w21.cell? (Addr.add a39 1)) = (some (Value.slice o40 n41 n42))) ∧
(∃ a43 : Addr, ((o40 = (some a43)) ∧
((((0 : Int) ≤ x10) ∧
(x10 < ((n41 : Nat) : Int))) ∧
(∃ o44 : Option Addr, (∃ n45 : Nat, (∃ n46 : Nat, (((w21.cell? (Addr.add a43 ((x10).toNat * 1))) = (some (Value.slice o44 n45 n46))) ∧
(∃ a47 : Addr, ((o44 = (some a47)) ∧
((((0 : Int) ≤ x22) ∧
(x22 < ((n45 : Nat) : Int))) ∧
((Nf.There w21 (Addr.add a47 ((x22).toNat * 1)) 1) ∧
(∀ w48 : World, ((w48 = (Nf.setCells w21 (Addr.add a47 ((x22).toNat * 1)) [(Value.bool false)] 0)) →
(R (Ending.returned (Value.int IntKind.i64 0)) w48))))))))))))))))))))) ∧
((b37 = false) →
(∃ n51 : Nat, ((n51 < n19) ∧
(k17 n51 (IntKind.wrap IntKind.i64 (x22 + 1)) w21)))))))))))))))))))))))) ∧
(((Nf.strEq s26 step) = false) →
(∃ n53 : Nat, ((n53 < n19) ∧
(k17 n53 (IntKind.wrap IntKind.i64 (x22 + 1)) w21))))))))))) ∧
(((decide (x22 < ((n15 : Nat) : Int))) = false) →
(∃ n55 : Nat, ((n55 < n7) ∧
(k5 n55 (IntKind.wrap IntKind.i64 (x10 + 1)) w21)))))))))))))))))))) ∧
(((decide (x10 < ((n3 : Nat) : Int))) = false) →
(R (Ending.returned (Value.int IntKind.i64 4)) w9))))))))))))))))) :
    Calls Tryd.prog 21 #[(.pointer s), (.string step)] w R :=
  calls_of_vc an21 Tryd.func21 rfl (by kernel_rfl) (by kernel_rfl) (Eq.mp (by kernel_rfl) h)

/-- (*samaritan/samaritanref45.State).Done -/
def an22 : An := (.seq (.reg []) (.seq (.seq (.reg []) (.blk (.loop [(5, .int .i64)] (.seq (.seq (.reg [(2, 2, false), (6, 0, true)]) (.cond .nil .nil)) (.seq (.blk (.seq (.reg [(1, 2, false), (8, 3, true)]) (.cond (.seq (.regD [(3, 2, false), (7, 2, false), (8, 1, false), (10, 2, false), (15, 2, false), (16, 1, false), (17, 2, false)] [0, 2, 3, 4, 5, 6, 7, 9, 10, 11, 12, 13, 14, 15, 1, 8, 16, 17, 18, 19] [1, 8, 16, 19]) (.seq (.reg []) .nil)) .nil))) (.reg [])))))) (.seq (.reg []) .nil)))
set_option maxRecDepth 100000 in
theorem nf22 (s : Option Addr) (step : ByteArray) (w : World) (R : Ending → World → Prop) (h :
(∃ k1 : (Nat → (Int → (World → Prop))), ((∃ n2 : Nat, (k1 n2 0 w)) ∧
(∀ n3 : Nat, ((Nat → Value) →
(∀ w5 : World, (∀ x6 : Int, ((k1 n3 x6 w5) →
(∃ a8 : Addr, ((s = (some a8)) ∧
(∃ o9 : Option Addr, (∃ n10 : Nat, (∃ n11 : Nat, (((w5.cell? (Addr.add a8 6)) = (some (Value.slice o9 n10 n11))) ∧
((((decide (x6 < ((n10 : Nat) : Int))) = true) →
(∃ a13 : Addr, ((s = (some a13)) ∧
(∃ o14 : Option Addr, (∃ n15 : Nat, (∃ n16 : Nat, (((w5.cell? (Addr.add a13 6)) = (some (Value.slice o14 n15 n16))) ∧
(∃ a17 : Addr, ((o14 = (some a17)) ∧
((((0 : Int) ≤ x6) ∧
(x6 < ((n15 : Nat) : Int))) ∧
(∃ s18 : ByteArray, (((w5.cell? (Addr.add a17 ((x6).toNat * 1))) = (some (Value.string s18))) ∧
((((Nf.strEq s18 step) = true) →
(∀ w20 : World, ((w20 = w5.drew) →
(∃ a22 : Addr, ((s = (some a22)) ∧
(∃ o23 : Option Addr, (∃ n24 : Nat, (∃ n25 : Nat, (((w20.cell? (Addr.add a22 6)) = (some (Value.slice o23 n24 n25))) ∧
((((0 : Int) ≤ x6) ∧
(x6 ≤ ((n25 : Nat) : Int))) ∧
(∃ a26 : Addr, ((s = (some a26)) ∧
(∃ o27 : Option Addr, (∃ n28 : Nat, (∃ n29 : Nat, (((w20.cell? (Addr.add a26 6)) = (some (Value.slice o27 n28 n29))) ∧
((((0 : Int) ≤ (IntKind.wrap IntKind.i64 (x6 + 1))) ∧
((IntKind.wrap IntKind.i64 (x6 + 1)) ≤ ((n28 : Nat) : Int))) ∧
(∀ w30 : World, ((w30 = (w20.alloc (Obj.cells #[] 9 (0, 0)))) →
((Nf.Kept w20 w30 (Addr.add a26 6) 1) ∧
((Nf.Kept w20 w30 (Addr.add a22 6) 1) ∧
(RunOk Tryd.prog (Nf.Hold (Builtin.append_ #[52, 52] 52 #[(Value.slice (some (⟨(hs w20), 0, none⟩ : Addr)) 0 0), (Value.slice (if (n25 = 0) then o23 else (Option.map (fun (x : Addr) => x) o23)) ((x6).toNat - 0) (n25 - 0))])) w30 (fun (v32 : Value) => (fun (w33 : World) => (∃ o34 : Option Addr, (∃ n35 : Nat, (∃ n36 : Nat, ((v32 = (Value.slice o34 n35 n36)) ∧
((Nf.Kept w20 w33 (Addr.add a26 6) 1) ∧
(RunOk Tryd.prog (Nf.Hold (Builtin.append_ #[52, 52] 52 #[(Value.slice o34 n35 n36), (Value.slice (if (n29 = ((IntKind.wrap IntKind.i64 (x6 + 1))).toNat) then o27 else (Option.map (fun (x : Addr) => (Addr.add x (((IntKind.wrap IntKind.i64 (x6 + 1))).toNat * 1))) o27)) (n28 - ((IntKind.wrap IntKind.i64 (x6 + 1))).toNat) (n29 - ((IntKind.wrap IntKind.i64 (x6 + 1))).toNat))])) w33 (fun (v37 : Value) => (fun (w38 : World) => (∃ o39 : Option Addr, (∃ n40 : Nat, (∃ n41 : Nat, ((v37 = (Value.slice o39 n40 n41)) ∧
(∃ a42 : Addr, ((s = (some a42)) ∧
((Nf.There w38 (Addr.add a42 6) 1) ∧
(∀ w43 : World, ((w43 = (Nf.setCells w38 (Addr.add a42 6) [(Value.slice o39 n40 n41)] 0)) →
(R (Ending.returned (Value.int IntKind.i64 0)) w43)))))))))))))))))))))))))))))))))))))))))) ∧
(((Nf.strEq s18 step) = false) →
(∃ n46 : Nat, ((n46 < n3) ∧
(k1 n46 (IntKind.wrap IntKind.i64 (x6 + 1)) w5))))))))))))))))) ∧
(((decide (x6 < ((n10 : Nat) : Int))) = false) →
(R (Ending.returned (Value.int IntKind.i64 4)) w5))))))))))))))))) :
    Calls Tryd.prog 22 #[(.pointer s), (.string step)] w R :=
  calls_of_vc an22 Tryd.func22 rfl (by kernel_rfl) (by kernel_rfl) (Eq.mp (by kernel_rfl) h)

/-- (*samaritan/surge.Run).SetLevel -/
def an24 : An := (.seq (.reg []) (.seq (.reg [(3, 2, false)]) (.seq (.seq (.reg [(2, 2, false), (5, 0, true)]) (.cond (.seq (.reg []) (.seq (.reg []) .nil)) .nil)) (.seq (.reg [(1, 2, false)]) (.seq (.reg []) (.seq (.seq (.reg [(1, 2, false)]) (.blk (.loop [(7, .slice), (8, .int .i64)] (.seq (.seq (.reg [(2, 0, true)]) (.cond .nil .nil)) (.seq (.blk (.seq (.reg [(1, 2, false)]) (.blk (.loop [(7, .slice), (49, .int .i64)] (.seq (.reg [(0, 0, true)]) (.seq (.cond .nil .nil) (.seq (.blk (.seq (.reg []) (.seq (.reg [(1, 2, false)]) (.reg [(3, 1, false)])))) (.reg [])))))))) (.reg [])))))) (.seq (.reg [(2, 2, false)]) (.seq (.seq (.reg [(1, 2, false), (3, 0, true)]) (.cond (.seq (.reg []) .nil) .nil)) (.seq (.reg []) .nil)))))))))
set_option maxRecDepth 100000 in
theorem nf24 (s : Option Addr) (level : Int) (now : Int) (w : World) (R : Ending → World → Prop) (h :
(∃ a1 : Addr, ((s = (some a1)) ∧
(∃ o2 : Option Addr, (∃ n3 : Nat, (∃ n4 : Nat, (((w.cell? a1) = (some (Value.slice o2 n3 n4))) ∧
(∃ a5 : Addr, ((s = (some a5)) ∧
(∃ x6 : Int, (((w.cell? (Addr.add a5 4)) = (some (Value.int IntKind.i64 x6))) ∧
((((decide ((if (((n3 : Nat) : Int) < (if (level < 0) then 0 else level)) then ((n3 : Nat) : Int) else (if (level < 0) then 0 else level)) < x6)) = true) →
(Calls Tryd.prog 45 #[(Value.pointer s), (Value.int IntKind.i64 (if (((n3 : Nat) : Int) < (if (level < 0) then 0 else level)) then ((n3 : Nat) : Int) else (if (level < 0) then 0 else level))), (Value.int IntKind.i64 now)] w (fun (e8 : Ending) => (fun (w9 : World) => ((e8 = (Ending.returned (Value.tuple #[]))) ∧
(R (Ending.returned (Value.slice none 0 0)) w9)))))) ∧
(((decide ((if (((n3 : Nat) : Int) < (if (level < 0) then 0 else level)) then ((n3 : Nat) : Int) else (if (level < 0) then 0 else level)) < x6)) = false) →
(∃ a11 : Addr, ((s = (some a11)) ∧
((Nf.There w (Addr.add a11 5) 1) ∧
(∀ w12 : World, ((w12 = (Nf.setCells w (Addr.add a11 5) [(Value.bool false)] 0)) →
(∃ a14 : Addr, ((s = (some a14)) ∧
(∃ x15 : Int, (((w12.cell? (Addr.add a14 4)) = (some (Value.int IntKind.i64 x15))) ∧
(∃ k16 : (Nat → (Option Addr → (Nat → (Nat → (Int → (World → Prop)))))), ((∃ n17 : Nat, (k16 n17 none 0 0 x15 w12)) ∧
(∀ n18 : Nat, ((Nat → Value) →
(∀ w20 : World, (∀ o21 : Option Addr, (∀ n22 : Nat, (∀ n23 : Nat, (∀ x24 : Int, ((k16 n18 o21 n22 n23 x24 w20) →
((((decide (x24 < (if (((n3 : Nat) : Int) < (if (level < 0) then 0 else level)) then ((n3 : Nat) : Int) else (if (level < 0) then 0 else level)))) = true) →
(∃ a27 : Addr, ((s = (some a27)) ∧
(∃ o28 : Option Addr, (∃ n29 : Nat, (∃ n30 : Nat, (((w20.cell? a27) = (some (Value.slice o28 n29 n30))) ∧
(∃ a31 : Addr, ((o28 = (some a31)) ∧
((((0 : Int) ≤ x24) ∧
(x24 < ((n29 : Nat) : Int))) ∧
(∃ o32 : Option Addr, (∃ n33 : Nat, (∃ n34 : Nat, (((w20.cell? (Addr.add a31 ((x24).toNat * 1))) = (some (Value.slice o32 n33 n34))) ∧
(∃ k35 : (Nat → (Option Addr → (Nat → (Nat → (Int → (World → Prop)))))), ((∃ n36 : Nat, (k35 n36 o21 n22 n23 0 w20)) ∧
(∀ n37 : Nat, ((Nat → Value) →
(∀ w39 : World, (∀ o40 : Option Addr, (∀ n41 : Nat, (∀ n42 : Nat, (∀ x43 : Int, ((k35 n37 o40 n41 n42 x43 w39) →
((((decide (x43 < ((n33 : Nat) : Int))) = true) →
(∃ a46 : Addr, ((o32 = (some a46)) ∧
((((0 : Int) ≤ x43) ∧
(x43 < ((n33 : Nat) : Int))) ∧
(∃ s47 : ByteArray, (((w39.cell? (Addr.add a46 ((x43).toNat * 1))) = (some (Value.string s47))) ∧
(∃ a48 : Addr, ((s = (some a48)) ∧
(∃ o49 : Option Addr, (∃ n50 : Nat, (∃ n51 : Nat, (((w39.cell? (Addr.add a48 1)) = (some (Value.slice o49 n50 n51))) ∧
(∃ a52 : Addr, ((o49 = (some a52)) ∧
((((0 : Int) ≤ x24) ∧
(x24 < ((n50 : Nat) : Int))) ∧
(∃ o53 : Option Addr, (∃ n54 : Nat, (∃ n55 : Nat, (((w39.cell? (Addr.add a52 ((x24).toNat * 1))) = (some (Value.slice o53 n54 n55))) ∧
(∃ a56 : Addr, ((o53 = (some a56)) ∧
((((0 : Int) ≤ x43) ∧
(x43 < ((n54 : Nat) : Int))) ∧
((Nf.There w39 (Addr.add a56 ((x43).toNat * 1)) 1) ∧
(∀ w57 : World, ((w57 = (Nf.setCells w39 (Addr.add a56 ((x43).toNat * 1)) [(Value.bool true)] 0)) →
(∀ w59 : World, ((w59 = (w57.alloc (Obj.cells #[(Value.string s47)] 9 (0, 0)))) →
(RunOk Tryd.prog (Nf.Hold (Builtin.append_ #[52, 52] 52 #[(Value.slice o40 n41 n42), (Value.slice (some (⟨(hs w57), 0, none⟩ : Addr)) 1 1)])) w59 (fun (v61 : Value) => (fun (w62 : World) => (∃ o63 : Option Addr, (∃ n64 : Nat, (∃ n65 : Nat, ((v61 = (Value.slice o63 n64 n65)) ∧
(∃ n66 : Nat, ((n66 < n37) ∧
(k35 n66 o63 n64 n65 (IntKind.wrap IntKind.i64 (x43 + 1)) w62))))))))))))))))))))))))))))))))))))) ∧
(((decide (x43 < ((n33 : Nat) : Int))) = false) →
(∃ n68 : Nat, ((n68 < n18) ∧
(k16 n68 o40 n41 n42 (IntKind.wrap IntKind.i64 (x24 + 1)) w39))))))))))))))))))))))))))))) ∧
(((decide (x24 < (if (((n3 : Nat) : Int) < (if (level < 0) then 0 else level)) then ((n3 : Nat) : Int) else (if (level < 0) then 0 else level)))) = false) →
(∃ a70 : Addr, ((s = (some a70)) ∧
((Nf.There w20 (Addr.add a70 4) 1) ∧
(∀ w71 : World, ((w71 = (Nf.setCells w20 (Addr.add a70 4) [(Value.int IntKind.i64 (if (((n3 : Nat) : Int) < (if (level < 0) then 0 else level)) then ((n3 : Nat) : Int) else (if (level < 0) then 0 else level)))] 0)) →
(∃ a73 : Addr, ((s = (some a73)) ∧
(∃ b74 : Bool, (((w71.cell? (Addr.add a73 3)) = (some (Value.bool b74))) ∧
(((b74 = true) →
(R (Ending.returned (Value.slice none 0 0)) w71)) ∧
((b74 = false) →
(R (Ending.returned (Value.slice o21 n22 n23)) w71)))))))))))))))))))))))))))))))))))))))))))))) :
    Calls Tryd.prog 24 #[(.pointer s), (.int .i64 level), (.int .i64 now)] w R :=
  calls_of_vc an24 Tryd.func24 rfl (by kernel_rfl) (by kernel_rfl) (Eq.mp (by kernel_rfl) h)

/-- (*samaritan/samaritanref45.State).Rise -/
def an25 : An := (.seq (.reg []) (.cut [(1, .int .i64)] (.seq (.reg [(1, 0, true)]) (.cond (.reg []) .nil)) (.cut [(1, .int .i64)] (.seq (.reg [(2, 2, false), (7, 0, true)]) (.cond (.reg [(1, 2, false)]) .nil)) (.seq (.reg []) (.seq (.seq (.reg [(2, 2, false), (5, 0, true)]) (.cond (.seq (.reg [(1, 2, false)]) (.seq (.reg [(2, 2, false)]) (.seq (.reg [(2, 2, false)]) (.seq (.reg [(3, 2, false), (6, 1, false), (8, 1, false), (9, 2, false)]) (.seq (.seq (.reg [(1, 2, false), (3, 0, true)]) (.cond (.seq (.reg []) .nil) .nil)) (.seq (.reg []) .nil)))))) .nil)) (.cut [] (.seq (.reg [(1, 2, false), (4, 0, true)]) (.cond (.reg [(2, 2, false)]) .nil)) (.seq (.seq (.regD [(2, 2, false), (7, 2, false), (10, 0, true)] [0, 1, 2, 3, 4, 6, 7, 8, 9, 5, 10] [5]) (.cond (.seq (.reg []) .nil) .nil)) (.seq (.reg [(3, 2, false)]) (.seq (.reg []) (.seq (.seq (.reg []) (.blk (.loop [(9, .slice), (10, .int .i64)] (.seq (.seq (.reg [(2, 2, false), (6, 0, true)]) (.cond .nil .nil)) (.cut [(9, .slice)] (.blk (.seq (.reg [(2, 2, false), (8, 0, true)]) (.cond (.reg [(2, 2, false), (9, 1, false)]) .nil))) (.reg [])))))) (.seq (.reg [(5, 2, false), (8, 2, false), (11, 2, false)]) (.seq (.reg []) .nil))))))))))))
set_option maxRecDepth 100000 in
theorem nf25 (s : Option Addr) (level : Int) (now : Int) (w : World) (R : Ending → World → Prop) (h :
(∀ k1 : (Int → (World → Prop)), ((∀ w3 : World, (∀ x4 : Int, (((Nat → Value) →
(∀ k7 : (Int → (World → Prop)), ((∀ w9 : World, (∀ x10 : Int, (((Nat → Value) →
(Calls Tryd.prog 46 #[(Value.int IntKind.i64 now)] w9 (fun (e13 : Ending) => (fun (w14 : World) => (∃ x15 : Int, ((e13 = (Ending.returned (Value.int IntKind.i64 x15))) ∧
(∃ a16 : Addr, ((s = (some a16)) ∧
(∃ x17 : Int, (((w14.cell? (Addr.add a16 4)) = (some (Value.int IntKind.i64 x17))) ∧
((((decide (x10 ≥ x17)) = true) →
(∃ a19 : Addr, ((s = (some a19)) ∧
((Nf.There w14 (Addr.add a19 5) 1) ∧
(∀ w20 : World, ((w20 = (Nf.setCells w14 (Addr.add a19 5) [(Value.int IntKind.i64 (-1))] 0)) →
(∃ a22 : Addr, ((s = (some a22)) ∧
(∃ x23 : Int, (((w20.cell? (Addr.add a22 4)) = (some (Value.int IntKind.i64 x23))) ∧
(Calls Tryd.prog 47 #[(Value.pointer s), (Value.int IntKind.i64 x23), (Value.int IntKind.i64 x10)] w20 (fun (e24 : Ending) => (fun (w25 : World) => (∃ o26 : Option Addr, (∃ n27 : Nat, (∃ n28 : Nat, ((e24 = (Ending.returned (Value.slice o26 n27 n28))) ∧
(∃ a29 : Addr, ((s = (some a29)) ∧
((Nf.There w25 (Addr.add a29 4) 1) ∧
(∀ w30 : World, ((w30 = (Nf.setCells w25 (Addr.add a29 4) [(Value.int IntKind.i64 x10)] 0)) →
(∀ w32 : World, ((w32 = (w30.alloc (Obj.cells #[] 9 (0, 0)))) →
(∃ a34 : Addr, ((s = (some a34)) ∧
(∃ o35 : Option Addr, (∃ n36 : Nat, (∃ n37 : Nat, (((w32.cell? (Addr.add a34 6)) = (some (Value.slice o35 n36 n37))) ∧
(RunOk Tryd.prog (Nf.Hold (Builtin.append_ #[52, 52] 52 #[(Value.slice (some (⟨(hs w30), 0, none⟩ : Addr)) 0 0), (Value.slice o35 n36 n37)])) w32 (fun (v38 : Value) => (fun (w39 : World) => (∃ o40 : Option Addr, (∃ n41 : Nat, (∃ n42 : Nat, ((v38 = (Value.slice o40 n41 n42)) ∧
(RunOk Tryd.prog (Nf.Hold (Builtin.append_ #[52, 52] 52 #[(Value.slice o40 n41 n42), (Value.slice o26 n27 n28)])) w39 (fun (v43 : Value) => (fun (w44 : World) => (∃ o45 : Option Addr, (∃ n46 : Nat, (∃ n47 : Nat, ((v43 = (Value.slice o45 n46 n47)) ∧
(∃ a48 : Addr, ((s = (some a48)) ∧
((Nf.There w44 (Addr.add a48 6) 1) ∧
(∀ w49 : World, ((w49 = (Nf.setCells w44 (Addr.add a48 6) [(Value.slice o45 n46 n47)] 0)) →
(∃ a51 : Addr, ((s = (some a51)) ∧
(∃ b52 : Bool, (((w49.cell? (Addr.add a51 3)) = (some (Value.bool b52))) ∧
(((b52 = true) →
(R (Ending.returned (Value.slice none 0 0)) w49)) ∧
((b52 = false) →
(R (Ending.returned (Value.slice o26 n27 n28)) w49)))))))))))))))))))))))))))))))))))))))))))))))))))))))) ∧
(((decide (x10 ≥ x17)) = false) →
(∀ k56 : (World → Prop), ((∀ w58 : World, (((Nat → Value) →
(∀ w61 : World, ((w61 = w58.drew) →
(∃ a63 : Addr, ((s = (some a63)) ∧
(∃ x64 : Int, (((w61.cell? (Addr.add a63 5)) = (some (Value.int IntKind.i64 x64))) ∧
(∃ a65 : Addr, ((s = (some a65)) ∧
(∃ x66 : Int, (((w61.cell? (Addr.add a65 2)) = (some (Value.int IntKind.i64 x66))) ∧
(Calls Tryd.prog 48 #[(Value.int IntKind.i64 x15), (Value.int IntKind.i64 x64)] w61 (fun (e67 : Ending) => (fun (w68 : World) => (∃ x69 : Int, ((e67 = (Ending.returned (Value.int IntKind.i64 x69))) ∧
((Nf.Kept w61 w68 (Addr.add a65 2) 1) ∧
((((decide (x69 < x66)) = true) →
(R (Ending.returned (Value.slice none 0 0)) w68)) ∧
(((decide (x69 < x66)) = false) →
(∃ a72 : Addr, ((s = (some a72)) ∧
(∃ x73 : Int, (((w68.cell? (Addr.add a72 4)) = (some (Value.int IntKind.i64 x73))) ∧
(Calls Tryd.prog 47 #[(Value.pointer s), (Value.int IntKind.i64 x10), (Value.int IntKind.i64 x73)] w68 (fun (e74 : Ending) => (fun (w75 : World) => (∃ o76 : Option Addr, (∃ n77 : Nat, (∃ n78 : Nat, ((e74 = (Ending.returned (Value.slice o76 n77 n78))) ∧
(∀ w79 : World, ((w79 = (w75.alloc (Obj.cells #[] 9 (0, 0)))) →
(∃ k81 : (Nat → (Option Addr → (Nat → (Nat → (Int → (World → Prop)))))), ((∃ n82 : Nat, (k81 n82 (some (⟨(hs w75), 0, none⟩ : Addr)) 0 0 0 w79)) ∧
(∀ n83 : Nat, ((Nat → Value) →
(∀ w85 : World, (∀ o86 : Option Addr, (∀ n87 : Nat, (∀ n88 : Nat, (∀ x89 : Int, ((k81 n83 o86 n87 n88 x89 w85) →
(∃ a91 : Addr, ((s = (some a91)) ∧
(∃ o92 : Option Addr, (∃ n93 : Nat, (∃ n94 : Nat, (((w85.cell? (Addr.add a91 6)) = (some (Value.slice o92 n93 n94))) ∧
((((decide (x89 < ((n93 : Nat) : Int))) = true) →
(∀ k96 : (Option Addr → (Nat → (Nat → (World → Prop)))), ((∀ w98 : World, (∀ o99 : Option Addr, (∀ n100 : Nat, (∀ n101 : Nat, (((Nat → Value) →
(∃ n104 : Nat, ((n104 < n83) ∧
(k81 n104 o99 n100 n101 (IntKind.wrap IntKind.i64 (x89 + 1)) w98)))) →
(k96 o99 n100 n101 w98)))))) →
(∃ a105 : Addr, ((s = (some a105)) ∧
(∃ o106 : Option Addr, (∃ n107 : Nat, (∃ n108 : Nat, (((w85.cell? (Addr.add a105 6)) = (some (Value.slice o106 n107 n108))) ∧
(∃ a109 : Addr, ((o106 = (some a109)) ∧
((((0 : Int) ≤ x89) ∧
(x89 < ((n107 : Nat) : Int))) ∧
(∃ s110 : ByteArray, (((w85.cell? (Addr.add a109 ((x89).toNat * 1))) = (some (Value.string s110))) ∧
(Calls Tryd.prog 44 #[(Value.slice o76 n77 n78), (Value.string s110)] w85 (fun (e111 : Ending) => (fun (w112 : World) => (∃ b113 : Bool, ((e111 = (Ending.returned (Value.bool b113))) ∧
(((b113 = true) →
(k96 o86 n87 n88 w112)) ∧
((b113 = false) →
(∃ a116 : Addr, ((s = (some a116)) ∧
(∃ o117 : Option Addr, (∃ n118 : Nat, (∃ n119 : Nat, (((w112.cell? (Addr.add a116 6)) = (some (Value.slice o117 n118 n119))) ∧
(∃ a120 : Addr, ((o117 = (some a120)) ∧
((((0 : Int) ≤ x89) ∧
(x89 < ((n118 : Nat) : Int))) ∧
(∃ s121 : ByteArray, (((w112.cell? (Addr.add a120 ((x89).toNat * 1))) = (some (Value.string s121))) ∧
(∀ w122 : World, ((w122 = (w112.alloc (Obj.cells #[(Value.string s121)] 9 (0, 0)))) →
(RunOk Tryd.prog (Nf.Hold (Builtin.append_ #[52, 52] 52 #[(Value.slice o86 n87 n88), (Value.slice (some (⟨(hs w112), 0, none⟩ : Addr)) 1 1)])) w122 (fun (v124 : Value) => (fun (w125 : World) => (∃ o126 : Option Addr, (∃ n127 : Nat, (∃ n128 : Nat, ((v124 = (Value.slice o126 n127 n128)) ∧
(k96 o126 n127 n128 w125)))))))))))))))))))))))))))))))))))))))))) ∧
(((decide (x89 < ((n93 : Nat) : Int))) = false) →
(∃ a130 : Addr, ((s = (some a130)) ∧
((Nf.There w85 (Addr.add a130 4) 1) ∧
(∀ w131 : World, ((w131 = (Nf.setCells w85 (Addr.add a130 4) [(Value.int IntKind.i64 x10)] 0)) →
(∃ a133 : Addr, ((s = (some a133)) ∧
((Nf.There w131 (Addr.add a133 5) 1) ∧
(∀ w134 : World, ((w134 = (Nf.setCells w131 (Addr.add a133 5) [(Value.int IntKind.i64 (-1))] 0)) →
(∃ a136 : Addr, ((s = (some a136)) ∧
((Nf.There w134 (Addr.add a136 6) 1) ∧
(∀ w137 : World, ((w137 = (Nf.setCells w134 (Addr.add a136 6) [(Value.slice o86 n87 n88)] 0)) →
(R (Ending.returned (Value.slice none 0 0)) w137)))))))))))))))))))))))))))))))))))))))))))))))))))))))))))))))))) →
(k56 w58))) →
(∃ a139 : Addr, ((s = (some a139)) ∧
(∃ x140 : Int, (((w14.cell? (Addr.add a139 5)) = (some (Value.int IntKind.i64 x140))) ∧
((((decide (x140 < 0)) = true) →
(∃ a142 : Addr, ((s = (some a142)) ∧
((Nf.There w14 (Addr.add a142 5) 1) ∧
(∀ w143 : World, ((w143 = (Nf.setCells w14 (Addr.add a142 5) [(Value.int IntKind.i64 x15)] 0)) →
(k56 w143))))))) ∧
(((decide (x140 < 0)) = false) →
(k56 w14))))))))))))))))))))) →
(k7 x10 w9)))) →
(∃ a146 : Addr, ((s = (some a146)) ∧
(∃ o147 : Option Addr, (∃ n148 : Nat, (∃ n149 : Nat, (((w3.cell? (Addr.add a146 1)) = (some (Value.slice o147 n148 n149))) ∧
((((decide (x4 > ((n148 : Nat) : Int))) = true) →
(∃ a151 : Addr, ((s = (some a151)) ∧
(∃ o152 : Option Addr, (∃ n153 : Nat, (∃ n154 : Nat, (((w3.cell? (Addr.add a151 1)) = (some (Value.slice o152 n153 n154))) ∧
(k7 ((n153 : Nat) : Int) w3)))))))) ∧
(((decide (x4 > ((n148 : Nat) : Int))) = false) →
(k7 x4 w3)))))))))))) →
(k1 x4 w3)))) →
((((decide (level < 0)) = true) →
(k1 0 w)) ∧
(((decide (level < 0)) = false) →
(k1 level w)))))) :
    Calls Tryd.prog 25 #[(.pointer s), (.int .i64 level), (.int .i64 now)] w R :=
  calls_of_vc an25 Tryd.func25 rfl (by kernel_rfl) (by kernel_rfl) (Eq.mp (by kernel_rfl) h)

/-- (*samaritan/surge.Run).Level -/
def an26 : An := (.seq (.reg []) (.seq (.reg [(1, 2, false)]) .nil))
set_option maxRecDepth 100000 in
theorem nf26 (s : Option Addr) (w : World) (R : Ending → World → Prop) (h :
(∃ a1 : Addr, ((s = (some a1)) ∧
(∃ x2 : Int, (((w.cell? (Addr.add a1 4)) = (some (Value.int IntKind.i64 x2))) ∧
(R (Ending.returned (Value.int IntKind.i64 x2)) w)))))) :
    Calls Tryd.prog 26 #[(.pointer s)] w R :=
  calls_of_vc an26 Tryd.func26 rfl (by kernel_rfl) (by kernel_rfl) (Eq.mp (by kernel_rfl) h)

/-- (*samaritan/surge.Run).OpenSteps -/
def an27 : An := (.seq (.reg []) (.seq (.reg []) (.seq (.seq (.reg [(1, 2, false)]) (.blk (.loop [(3, .slice), (13, .int .i64)] (.seq (.reg [(0, 0, true)]) (.seq (.cond .nil .nil) (.seq (.blk (.seq (.reg []) (.seq (.reg []) (.blk (.loop [(3, .slice), (20, .int .i64)] (.seq (.reg [(0, 0, true)]) (.seq (.cond .nil .nil) (.cut [(3, .slice)] (.blk (.seq (.reg []) (.seq (.reg [(1, 2, false), (9, 0, true)]) (.cond (.reg [(3, 1, false)]) .nil)))) (.reg []))))))))) (.reg []))))))) (.seq (.reg []) .nil))))
set_option maxRecDepth 100000 in
theorem nf27 (s : Option Addr) (w : World) (R : Ending → World → Prop) (h :
(∃ a1 : Addr, ((s = (some a1)) ∧
(∃ o2 : Option Addr, (∃ n3 : Nat, (∃ n4 : Nat, (((w.cell? a1) = (some (Value.slice o2 n3 n4))) ∧
(∃ k5 : (Nat → (Option Addr → (Nat → (Nat → (Int → (World → Prop)))))), ((∃ n6 : Nat, (k5 n6 none 0 0 0 w)) ∧
(∀ n7 : Nat, ((Nat → Value) →
(∀ w9 : World, (∀ o10 : Option Addr, (∀ n11 : Nat, (∀ n12 : Nat, (∀ x13 : Int, ((k5 n7 o10 n11 n12 x13 w9) →
((((decide (x13 < ((n3 : Nat) : Int))) = true) →
(∃ a16 : Addr, ((o2 = (some a16)) ∧
((((0 : Int) ≤ x13) ∧
(x13 < ((n3 : Nat) : Int))) ∧
(∃ o17 : Option Addr, (∃ n18 : Nat, (∃ n19 : Nat, (((w9.cell? (Addr.add a16 ((x13).toNat * 1))) = (some (Value.slice o17 n18 n19))) ∧
(∃ k20 : (Nat → (Option Addr → (Nat → (Nat → (Int → (World → Prop)))))), ((∃ n21 : Nat, (k20 n21 o10 n11 n12 0 w9)) ∧
(∀ n22 : Nat, ((Nat → Value) →
(∀ w24 : World, (∀ o25 : Option Addr, (∀ n26 : Nat, (∀ n27 : Nat, (∀ x28 : Int, ((k20 n22 o25 n26 n27 x28 w24) →
((((decide (x28 < ((n18 : Nat) : Int))) = true) →
(∀ k31 : (Option Addr → (Nat → (Nat → (World → Prop)))), ((∀ w33 : World, (∀ o34 : Option Addr, (∀ n35 : Nat, (∀ n36 : Nat, (((Nat → Value) →
(∃ n39 : Nat, ((n39 < n22) ∧
(k20 n39 o34 n35 n36 (IntKind.wrap IntKind.i64 (x28 + 1)) w33)))) →
(k31 o34 n35 n36 w33)))))) →
(∃ a40 : Addr, ((o17 = (some a40)) ∧
((((0 : Int) ≤ x28) ∧
(x28 < ((n18 : Nat) : Int))) ∧
(∃ s41 : ByteArray, (((w24.cell? (Addr.add a40 ((x28).toNat * 1))) = (some (Value.string s41))) ∧
(∃ a42 : Addr, ((s = (some a42)) ∧
(∃ o43 : Option Addr, (∃ n44 : Nat, (∃ n45 : Nat, (((w24.cell? (Addr.add a42 1)) = (some (Value.slice o43 n44 n45))) ∧
(∃ a46 : Addr, ((o43 = (some a46)) ∧
((((0 : Int) ≤ x13) ∧
(x13 < ((n44 : Nat) : Int))) ∧
(∃ o47 : Option Addr, (∃ n48 : Nat, (∃ n49 : Nat, (((w24.cell? (Addr.add a46 ((x13).toNat * 1))) = (some (Value.slice o47 n48 n49))) ∧
(∃ a50 : Addr, ((o47 = (some a50)) ∧
((((0 : Int) ≤ x28) ∧
(x28 < ((n48 : Nat) : Int))) ∧
(∃ b51 : Bool, (((w24.cell? (Addr.add a50 ((x28).toNat * 1))) = (some (Value.bool b51))) ∧
(((b51 = true) →
(∀ w53 : World, ((w53 = (w24.alloc (Obj.cells #[(Value.string s41)] 9 (0, 0)))) →
(RunOk Tryd.prog (Nf.Hold (Builtin.append_ #[52, 52] 52 #[(Value.slice o25 n26 n27), (Value.slice (some (⟨(hs w24), 0, none⟩ : Addr)) 1 1)])) w53 (fun (v55 : Value) => (fun (w56 : World) => (∃ o57 : Option Addr, (∃ n58 : Nat, (∃ n59 : Nat, ((v55 = (Value.slice o57 n58 n59)) ∧
(k31 o57 n58 n59 w56))))))))))) ∧
((b51 = false) →
(k31 o25 n26 n27 w24))))))))))))))))))))))))))))) ∧
(((decide (x28 < ((n18 : Nat) : Int))) = false) →
(∃ n62 : Nat, ((n62 < n7) ∧
(k5 n62 o25 n26 n27 (IntKind.wrap IntKind.i64 (x13 + 1)) w24))))))))))))))))))))))) ∧
(((decide (x13 < ((n3 : Nat) : Int))) = false) →
(R (Ending.returned (Value.slice o10 n11 n12)) w9)))))))))))))))))))) :
    Calls Tryd.prog 27 #[(.pointer s)] w R :=
  calls_of_vc an27 Tryd.func27 rfl (by kernel_rfl) (by kernel_rfl) (Eq.mp (by kernel_rfl) h)

/-- (*samaritan/surge.Run).fall -/
def an45 : An := (.cut [] (.seq (.reg [(1, 2, false), (3, 0, true)]) (.cond (.reg [(3, 2, false), (6, 2, false)]) .nil)) (.seq (.seq (.regD [(2, 2, false), (7, 2, false), (10, 0, true)] [0, 1, 2, 3, 4, 6, 7, 8, 9, 5, 10] [5]) (.cond .nil .nil)) (.seq (.reg [(1, 2, false)]) (.seq (.seq (.reg []) (.blk (.loop [(6, .int .i64)] (.seq (.seq (.reg [(2, 2, false), (5, 0, true)]) (.cond .nil .nil)) (.seq (.blk (.reg [(1, 2, false), (7, 1, false)])) (.reg [])))))) (.reg [(2, 2, false)])))))
set_option maxRecDepth 100000 in
theorem nf45 (s : Option Addr) (level : Int) (now : Int) (w : World) (R : Ending → World → Prop) (h :
(∀ k1 : (World → Prop), ((∀ w3 : World, (((Nat → Value) →
(∀ w6 : World, ((w6 = w3.drew) →
(∃ a8 : Addr, ((s = (some a8)) ∧
(∃ x9 : Int, (((w6.cell? (Addr.add a8 6)) = (some (Value.int IntKind.i64 x9))) ∧
(∃ a10 : Addr, ((s = (some a10)) ∧
(∃ x11 : Int, (((w6.cell? (Addr.add a10 2)) = (some (Value.int IntKind.i64 x11))) ∧
(Calls Tryd.prog 61 #[(Value.int IntKind.i64 now), (Value.int IntKind.i64 x9)] w6 (fun (e12 : Ending) => (fun (w13 : World) => (∃ x14 : Int, ((e12 = (Ending.returned (Value.int IntKind.i64 x14))) ∧
((Nf.Kept w6 w13 (Addr.add a10 2) 1) ∧
((((decide (x14 < x11)) = true) →
(R (Ending.returned (Value.tuple #[])) w13)) ∧
(((decide (x14 < x11)) = false) →
(∃ a17 : Addr, ((s = (some a17)) ∧
((Nf.There w13 (Addr.add a17 5) 1) ∧
(∀ w18 : World, ((w18 = (Nf.setCells w13 (Addr.add a17 5) [(Value.bool false)] 0)) →
(∃ k20 : (Nat → (Int → (World → Prop))), ((∃ n21 : Nat, (k20 n21 level w18)) ∧
(∀ n22 : Nat, ((Nat → Value) →
(∀ w24 : World, (∀ x25 : Int, ((k20 n22 x25 w24) →
(∃ a27 : Addr, ((s = (some a27)) ∧
(∃ x28 : Int, (((w24.cell? (Addr.add a27 4)) = (some (Value.int IntKind.i64 x28))) ∧
((((decide (x25 < x28)) = true) →
(∃ a30 : Addr, ((s = (some a30)) ∧
(∃ o31 : Option Addr, (∃ n32 : Nat, (∃ n33 : Nat, (((w24.cell? (Addr.add a30 1)) = (some (Value.slice o31 n32 n33))) ∧
(∃ a34 : Addr, ((o31 = (some a34)) ∧
((((0 : Int) ≤ x25) ∧
(x25 < ((n32 : Nat) : Int))) ∧
(∃ o35 : Option Addr, (∃ n36 : Nat, (∃ n37 : Nat, (((w24.cell? (Addr.add a34 ((x25).toNat * 1))) = (some (Value.slice o35 n36 n37))) ∧
(RunOk Tryd.prog (Nf.Hold (Builtin.clear_ #[85] 0 #[(Value.slice o35 n36 n37)])) w24 (fun (v38 : Value) => (fun (w39 : World) => (∃ v40 : Value, ((v38 = v40) ∧
(∃ n41 : Nat, ((n41 < n22) ∧
(k20 n41 (IntKind.wrap IntKind.i64 (x25 + 1)) w39)))))))))))))))))))))) ∧
(((decide (x25 < x28)) = false) →
(∃ a43 : Addr, ((s = (some a43)) ∧
((Nf.There w24 (Addr.add a43 4) 1) ∧
(∀ w44 : World, ((w44 = (Nf.setCells w24 (Addr.add a43 4) [(Value.int IntKind.i64 level)] 0)) →
(R (Ending.returned (Value.tuple #[])) w44))))))))))))))))))))))))))))))))))))))))))) →
(k1 w3))) →
(∃ a46 : Addr, ((s = (some a46)) ∧
(∃ b47 : Bool, (((w.cell? (Addr.add a46 5)) = (some (Value.bool b47))) ∧
(((b47 = true) →
(k1 w)) ∧
((b47 = false) →
(∃ a50 : Addr, ((s = (some a50)) ∧
((Nf.There w (Addr.add a50 5) 1) ∧
(∀ w51 : World, ((w51 = (Nf.setCells w (Addr.add a50 5) [(Value.bool true)] 0)) →
(∃ a53 : Addr, ((s = (some a53)) ∧
((Nf.There w51 (Addr.add a53 6) 1) ∧
(∀ w54 : World, ((w54 = (Nf.setCells w51 (Addr.add a53 6) [(Value.int IntKind.i64 now)] 0)) →
(k1 w54)))))))))))))))))))) :
    Calls Tryd.prog 45 #[(.pointer s), (.int .i64 level), (.int .i64 now)] w R :=
  calls_of_vc an45 Tryd.func45 rfl (by kernel_rfl) (by kernel_rfl) (Eq.mp (by kernel_rfl) h)

/-- samaritan/surge.Format -/
def an28 : An := (.seq (.reg []) (.seq (.seq (.reg [(2, 0, true)]) (.cond (.seq (.reg []) .nil) .nil)) (.seq (.reg []) (.seq (.reg [(2, 1, false), (3, 1, false)]) (.seq (.seq (.reg []) (.blk (.loop [(20, .int .i64)] (.seq (.reg [(0, 0, true)]) (.seq (.cond .nil .nil) (.seq (.blk (.seq (.reg []) (.seq (.reg [(3, 1, false), (4, 1, false)]) (.seq (.reg []) (.blk (.loop [(33, .int .i64)] (.seq (.reg [(0, 0, true)]) (.seq (.cond .nil .nil) (.seq (.blk (.seq (.reg []) (.reg [(1, 1, false), (2, 1, false)]))) (.reg [])))))))))) (.reg []))))))) (.seq (.reg []) .nil))))))
set_option maxRecDepth 100000 in
theorem nf28 (p_Name : ByteArray) (p_Steps : Option Addr) (p_Steps_n : Nat) (p_Steps_c : Nat) (w : World) (R : Ending → World → Prop) (h :
(∀ w1 : World, ((w1 = (w.alloc (Obj.cells #[(Value.string p_Name), (Value.slice p_Steps p_Steps_n p_Steps_c)] 35 (0, 0)))) →
(∃ s3 : ByteArray, (((w1.cell? (⟨(hs w), 0, none⟩ : Addr)) = (some (Value.string s3))) ∧
(∃ o4 : Option Addr, (∃ n5 : Nat, (∃ n6 : Nat, (((w1.cell? (⟨(hs w), 1, none⟩ : Addr)) = (some (Value.slice o4 n5 n6))) ∧
(Calls Tryd.prog 16 #[(Value.agg #[(Value.string s3), (Value.slice o4 n5 n6)])] w1 (fun (e7 : Ending) => (fun (w8 : World) => (∃ x9 : Int, ((e7 = (Ending.returned (Value.int IntKind.i64 x9))) ∧
((((!(decide (x9 = (-1)))) = true) →
(R (Ending.returned (Value.tuple #[(Value.string (ByteArray.mk #[])), (Value.int IntKind.i64 1)])) w8)) ∧
(((!(decide (x9 = (-1)))) = false) →
(∀ w12 : World, ((w12 = (w8.alloc (Obj.cells #[(Value.pointer none), (Value.slice none 0 0)] 93 (0, 0)))) →
(∃ s14 : ByteArray, (((w12.cell? (⟨(hs w), 0, none⟩ : Addr)) = (some (Value.string s14))) ∧
(RunOk Tryd.prog (Nf.Hold (Nf.binOpSem BinOp.add 9 (Operand.const (Value.string (ByteArray.mk #[(112 : UInt8), (108 : UInt8), (97 : UInt8), (110 : UInt8), (32 : UInt8)]))) (Operand.tmp 13) (Value.string (ByteArray.mk #[(112 : UInt8), (108 : UInt8), (97 : UInt8), (110 : UInt8), (32 : UInt8)])) (Value.string s14))) w12 (fun (v15 : Value) => (fun (w16 : World) => (∃ s17 : ByteArray, ((v15 = (Value.string s17)) ∧
(RunOk Tryd.prog (Nf.Hold (Nf.binOpSem BinOp.add 9 (Operand.tmp 14) (Operand.const (Value.string (ByteArray.mk #[(10 : UInt8)]))) (Value.string s17) (Value.string (ByteArray.mk #[(10 : UInt8)])))) w16 (fun (v18 : Value) => (fun (w19 : World) => (∃ s20 : ByteArray, ((v18 = (Value.string s20)) ∧
(Calls Tryd.prog 49 #[(Value.pointer (some (⟨(hs w8), 0, none⟩ : Addr))), (Value.string s20)] w19 (fun (e21 : Ending) => (fun (w22 : World) => (∃ x23 : Int, (∃ v24 : Value, ((e21 = (Ending.returned (Value.tuple #[(Value.int IntKind.i64 x23), v24]))) ∧
(∃ o25 : Option Addr, (∃ n26 : Nat, (∃ n27 : Nat, (((w22.cell? (⟨(hs w), 1, none⟩ : Addr)) = (some (Value.slice o25 n26 n27))) ∧
(∃ k28 : (Nat → (Int → (World → Prop))), ((∃ n29 : Nat, (k28 n29 0 w22)) ∧
(∀ n30 : Nat, ((Nat → Value) →
(∀ w32 : World, (∀ x33 : Int, ((k28 n30 x33 w32) →
((((decide (x33 < ((n26 : Nat) : Int))) = true) →
(∃ a36 : Addr, ((o25 = (some a36)) ∧
((((0 : Int) ≤ x33) ∧
(x33 < ((n26 : Nat) : Int))) ∧
(∃ o37 : Option Addr, (∃ n38 : Nat, (∃ n39 : Nat, (((w32.cell? (Addr.add a36 ((x33).toNat * 1))) = (some (Value.slice o37 n38 n39))) ∧
(Calls Tryd.prog 50 #[(Value.int IntKind.i64 (IntKind.wrap IntKind.i64 (x33 + 1)))] w32 (fun (e40 : Ending) => (fun (w41 : World) => (∃ s42 : ByteArray, ((e40 = (Ending.returned (Value.string s42))) ∧
(RunOk Tryd.prog (Nf.Hold (Nf.binOpSem BinOp.add 9 (Operand.const (Value.string (ByteArray.mk #[(108 : UInt8), (101 : UInt8), (118 : UInt8), (101 : UInt8), (108 : UInt8), (32 : UInt8)]))) (Operand.tmp 27) (Value.string (ByteArray.mk #[(108 : UInt8), (101 : UInt8), (118 : UInt8), (101 : UInt8), (108 : UInt8), (32 : UInt8)])) (Value.string s42))) w41 (fun (v43 : Value) => (fun (w44 : World) => (∃ s45 : ByteArray, ((v43 = (Value.string s45)) ∧
(RunOk Tryd.prog (Nf.Hold (Nf.binOpSem BinOp.add 9 (Operand.tmp 28) (Operand.const (Value.string (ByteArray.mk #[(10 : UInt8)]))) (Value.string s45) (Value.string (ByteArray.mk #[(10 : UInt8)])))) w44 (fun (v46 : Value) => (fun (w47 : World) => (∃ s48 : ByteArray, ((v46 = (Value.string s48)) ∧
(Calls Tryd.prog 49 #[(Value.pointer (some (⟨(hs w8), 0, none⟩ : Addr))), (Value.string s48)] w47 (fun (e49 : Ending) => (fun (w50 : World) => (∃ x51 : Int, (∃ v52 : Value, ((e49 = (Ending.returned (Value.tuple #[(Value.int IntKind.i64 x51), v52]))) ∧
(∃ k53 : (Nat → (Int → (World → Prop))), ((∃ n54 : Nat, (k53 n54 0 w50)) ∧
(∀ n55 : Nat, ((Nat → Value) →
(∀ w57 : World, (∀ x58 : Int, ((k53 n55 x58 w57) →
((((decide (x58 < ((n38 : Nat) : Int))) = true) →
(∃ a61 : Addr, ((o37 = (some a61)) ∧
((((0 : Int) ≤ x58) ∧
(x58 < ((n38 : Nat) : Int))) ∧
(∃ s62 : ByteArray, (((w57.cell? (Addr.add a61 ((x58).toNat * 1))) = (some (Value.string s62))) ∧
(RunOk Tryd.prog (Nf.Hold (Nf.binOpSem BinOp.add 9 (Operand.const (Value.string (ByteArray.mk #[(45 : UInt8), (32 : UInt8)]))) (Operand.tmp 37) (Value.string (ByteArray.mk #[(45 : UInt8), (32 : UInt8)])) (Value.string s62))) w57 (fun (v63 : Value) => (fun (w64 : World) => (∃ s65 : ByteArray, ((v63 = (Value.string s65)) ∧
(RunOk Tryd.prog (Nf.Hold (Nf.binOpSem BinOp.add 9 (Operand.tmp 38) (Operand.const (Value.string (ByteArray.mk #[(10 : UInt8)]))) (Value.string s65) (Value.string (ByteArray.mk #[(10 : UInt8)])))) w64 (fun (v66 : Value) => (fun (w67 : World) => (∃ s68 : ByteArray, ((v66 = (Value.string s68)) ∧
(Calls Tryd.prog 49 #[(Value.pointer (some (⟨(hs w8), 0, none⟩ : Addr))), (Value.string s68)] w67 (fun (e69 : Ending) => (fun (w70 : World) => (∃ x71 : Int, (∃ v72 : Value, ((e69 = (Ending.returned (Value.tuple #[(Value.int IntKind.i64 x71), v72]))) ∧
(∃ n73 : Nat, ((n73 < n55) ∧
(k53 n73 (IntKind.wrap IntKind.i64 (x58 + 1)) w70))))))))))))))))))))))))) ∧
(((decide (x58 < ((n38 : Nat) : Int))) = false) →
(∃ n75 : Nat, ((n75 < n30) ∧
(k28 n75 (IntKind.wrap IntKind.i64 (x33 + 1)) w57))))))))))))))))))))))))))))))))))))))))) ∧
(((decide (x33 < ((n26 : Nat) : Int))) = false) →
(Calls Tryd.prog 51 #[(Value.pointer (some (⟨(hs w8), 0, none⟩ : Addr)))] w32 (fun (e77 : Ending) => (fun (w78 : World) => (∃ s79 : ByteArray, ((e77 = (Ending.returned (Value.string s79))) ∧
(R (Ending.returned (Value.tuple #[(Value.string s79), (Value.int IntKind.i64 0)])) w78))))))))))))))))))))))))))))))))))))))))))))))))))))))) :
    Calls Tryd.prog 28 #[(.agg #[(.string p_Name), (.slice p_Steps p_Steps_n p_Steps_c)])] w R :=
  calls_of_vc an28 Tryd.func28 rfl (by kernel_rfl) (by kernel_rfl) (Eq.mp (by kernel_rfl) h)

/-- samaritan/samaritanref45.Text -/
def an29 : An := (.seq (.reg []) (.seq (.seq (.reg [(2, 0, true)]) (.cond (.seq (.reg []) .nil) .nil)) (.seq (.reg [(2, 1, false), (3, 1, false)]) (.seq (.seq (.reg []) (.blk (.loop [(4, .str), (5, .int .i64)] (.seq (.seq (.reg [(4, 0, true)]) (.cond .nil .nil)) (.seq (.blk (.seq (.reg [(1, 1, false), (6, 1, false), (7, 1, false), (8, 1, false)]) (.seq (.reg []) (.blk (.loop [(4, .str), (6, .int .i64)] (.seq (.seq (.reg [(7, 0, true)]) (.cond .nil .nil)) (.seq (.blk (.reg [(1, 1, false), (10, 1, false), (11, 1, false)])) (.reg [])))))))) (.reg [])))))) (.seq (.reg []) .nil)))))
set_option maxRecDepth 100000 in
theorem nf29 (p_Name : ByteArray) (p_Steps : Option Addr) (p_Steps_n : Nat) (p_Steps_c : Nat) (w : World) (R : Ending → World → Prop) (h :
(∀ w1 : World, ((w1 = (w.alloc (Obj.cells #[(Value.string p_Name), (Value.slice p_Steps p_Steps_n p_Steps_c)] 32 (0, 0)))) →
(∃ s3 : ByteArray, (((w1.cell? (⟨(hs w), 0, none⟩ : Addr)) = (some (Value.string s3))) ∧
(∃ o4 : Option Addr, (∃ n5 : Nat, (∃ n6 : Nat, (((w1.cell? (⟨(hs w), 1, none⟩ : Addr)) = (some (Value.slice o4 n5 n6))) ∧
(Calls Tryd.prog 18 #[(Value.agg #[(Value.string s3), (Value.slice o4 n5 n6)])] w1 (fun (e7 : Ending) => (fun (w8 : World) => (∃ x9 : Int, ((e7 = (Ending.returned (Value.int IntKind.i64 x9))) ∧
((((!(decide (x9 = (-1)))) = true) →
(R (Ending.returned (Value.tuple #[(Value.string (ByteArray.mk #[])), (Value.int IntKind.i64 1)])) w8)) ∧
(((!(decide (x9 = (-1)))) = false) →
(∃ s12 : ByteArray, (((w8.cell? (⟨(hs w), 0, none⟩ : Addr)) = (some (Value.string s12))) ∧
(RunOk Tryd.prog (Nf.Hold (Nf.binOpSem BinOp.add 9 (Operand.const (Value.string (ByteArray.mk #[(112 : UInt8), (108 : UInt8), (97 : UInt8), (110 : UInt8), (32 : UInt8)]))) (Operand.tmp 11) (Value.string (ByteArray.mk #[(112 : UInt8), (108 : UInt8), (97 : UInt8), (110 : UInt8), (32 : UInt8)])) (Value.string s12))) w8 (fun (v13 : Value) => (fun (w14 : World) => (∃ s15 : ByteArray, ((v13 = (Value.string s15)) ∧
(RunOk Tryd.prog (Nf.Hold (Nf.binOpSem BinOp.add 9 (Operand.tmp 12) (Operand.const (Value.string (ByteArray.mk #[(10 : UInt8)]))) (Value.string s15) (Value.string (ByteArray.mk #[(10 : UInt8)])))) w14 (fun (v16 : Value) => (fun (w17 : World) => (∃ s18 : ByteArray, ((v16 = (Value.string s18)) ∧
(∃ k19 : (Nat → (ByteArray → (Int → (World → Prop)))), ((∃ n20 : Nat, (k19 n20 s18 0 w17)) ∧
(∀ n21 : Nat, ((Nat → Value) →
(∀ w23 : World, (∀ s24 : ByteArray, (∀ x25 : Int, ((k19 n21 s24 x25 w23) →
(∃ o27 : Option Addr, (∃ n28 : Nat, (∃ n29 : Nat, (((w23.cell? (⟨(hs w), 1, none⟩ : Addr)) = (some (Value.slice o27 n28 n29))) ∧
((((decide (x25 < ((n28 : Nat) : Int))) = true) →
(RunOk Tryd.prog (Nf.Hold (Nf.binOpSem BinOp.add 9 (Operand.tmp 21) (Operand.const (Value.string (ByteArray.mk #[(108 : UInt8), (101 : UInt8), (118 : UInt8), (101 : UInt8), (108 : UInt8), (32 : UInt8)]))) (Value.string s24) (Value.string (ByteArray.mk #[(108 : UInt8), (101 : UInt8), (118 : UInt8), (101 : UInt8), (108 : UInt8), (32 : UInt8)])))) w23 (fun (v31 : Value) => (fun (w32 : World) => (∃ s33 : ByteArray, ((v31 = (Value.string s33)) ∧
(∀ w34 : World, ((w34 = (w32.alloc (Obj.cells #[(Value.int IntKind.u8 (IntKind.wrap IntKind.u8 (IntKind.wrap IntKind.i64 (49 + x25))))] 5 (0, 0)))) →
(RunOk Tryd.prog (Nf.Hold (convert 91 9 (Value.slice (some (⟨(hs w32), 0, none⟩ : Addr)) 1 1))) w34 (fun (v36 : Value) => (fun (w37 : World) => (∃ s38 : ByteArray, ((v36 = (Value.string s38)) ∧
(RunOk Tryd.prog (Nf.Hold (Nf.binOpSem BinOp.add 9 (Operand.tmp 22) (Operand.tmp 27) (Value.string s33) (Value.string s38))) w37 (fun (v39 : Value) => (fun (w40 : World) => (∃ s41 : ByteArray, ((v39 = (Value.string s41)) ∧
(RunOk Tryd.prog (Nf.Hold (Nf.binOpSem BinOp.add 9 (Operand.tmp 28) (Operand.const (Value.string (ByteArray.mk #[(10 : UInt8)]))) (Value.string s41) (Value.string (ByteArray.mk #[(10 : UInt8)])))) w40 (fun (v42 : Value) => (fun (w43 : World) => (∃ s44 : ByteArray, ((v42 = (Value.string s44)) ∧
(∃ k45 : (Nat → (ByteArray → (Int → (World → Prop)))), ((∃ n46 : Nat, (k45 n46 s44 0 w43)) ∧
(∀ n47 : Nat, ((Nat → Value) →
(∀ w49 : World, (∀ s50 : ByteArray, (∀ x51 : Int, ((k45 n47 s50 x51 w49) →
(∃ o53 : Option Addr, (∃ n54 : Nat, (∃ n55 : Nat, (((w49.cell? (⟨(hs w), 1, none⟩ : Addr)) = (some (Value.slice o53 n54 n55))) ∧
(∃ a56 : Addr, ((o53 = (some a56)) ∧
((((0 : Int) ≤ x25) ∧
(x25 < ((n54 : Nat) : Int))) ∧
(∃ o57 : Option Addr, (∃ n58 : Nat, (∃ n59 : Nat, (((w49.cell? (Addr.add a56 ((x25).toNat * 1))) = (some (Value.slice o57 n58 n59))) ∧
((((decide (x51 < ((n58 : Nat) : Int))) = true) →
(RunOk Tryd.prog (Nf.Hold (Nf.binOpSem BinOp.add 9 (Operand.tmp 40) (Operand.const (Value.string (ByteArray.mk #[(45 : UInt8), (32 : UInt8)]))) (Value.string s50) (Value.string (ByteArray.mk #[(45 : UInt8), (32 : UInt8)])))) w49 (fun (v61 : Value) => (fun (w62 : World) => (∃ s63 : ByteArray, ((v61 = (Value.string s63)) ∧
(∃ o64 : Option Addr, (∃ n65 : Nat, (∃ n66 : Nat, (((w62.cell? (⟨(hs w), 1, none⟩ : Addr)) = (some (Value.slice o64 n65 n66))) ∧
(∃ a67 : Addr, ((o64 = (some a67)) ∧
((((0 : Int) ≤ x25) ∧
(x25 < ((n65 : Nat) : Int))) ∧
(∃ o68 : Option Addr, (∃ n69 : Nat, (∃ n70 : Nat, (((w62.cell? (Addr.add a67 ((x25).toNat * 1))) = (some (Value.slice o68 n69 n70))) ∧
(∃ a71 : Addr, ((o68 = (some a71)) ∧
((((0 : Int) ≤ x51) ∧
(x51 < ((n69 : Nat) : Int))) ∧
(∃ s72 : ByteArray, (((w62.cell? (Addr.add a71 ((x51).toNat * 1))) = (some (Value.string s72))) ∧
(RunOk Tryd.prog (Nf.Hold (Nf.binOpSem BinOp.add 9 (Operand.tmp 41) (Operand.tmp 49) (Value.string s63) (Value.string s72))) w62 (fun (v73 : Value) => (fun (w74 : World) => (∃ s75 : ByteArray, ((v73 = (Value.string s75)) ∧
(RunOk Tryd.prog (Nf.Hold (Nf.binOpSem BinOp.add 9 (Operand.tmp 50) (Operand.const (Value.string (ByteArray.mk #[(10 : UInt8)]))) (Value.string s75) (Value.string (ByteArray.mk #[(10 : UInt8)])))) w74 (fun (v76 : Value) => (fun (w77 : World) => (∃ s78 : ByteArray, ((v76 = (Value.string s78)) ∧
(∃ n79 : Nat, ((n79 < n47) ∧
(k45 n79 s78 (IntKind.wrap IntKind.i64 (x51 + 1)) w77))))))))))))))))))))))))))))))))))) ∧
(((decide (x51 < ((n58 : Nat) : Int))) = false) →
(∃ n81 : Nat, ((n81 < n21) ∧
(k19 n81 s50 (IntKind.wrap IntKind.i64 (x25 + 1)) w49))))))))))))))))))))))))))))))))))))))))))))))) ∧
(((decide (x25 < ((n28 : Nat) : Int))) = false) →
(R (Ending.returned (Value.tuple #[(Value.string s24), (Value.int IntKind.i64 0)])) w23))))))))))))))))))))))))))))))))))))))))))) :
    Calls Tryd.prog 29 #[(.agg #[(.string p_Name), (.slice p_Steps p_Steps_n p_Steps_c)])] w R :=
  calls_of_vc an29 Tryd.func29 rfl (by kernel_rfl) (by kernel_rfl) (Eq.mp (by kernel_rfl) h)

/-- samaritan/surge.Parse -/
def an30 : An := (.seq (.reg []) (.seq (.reg []) (.seq (.reg []) (.seq (.reg []) (.seq (.blk (.loop [(0, .str), (7, .int .i64)] (.seq (.seq (.reg [(1, 0, true), (4, 3, true), (8, 0, true)]) (.cond .nil .nil)) (.blk (.seq (.reg []) (.seq (.reg [(5, 0, true)]) (.seq (.seq (.reg [(6, 0, true)]) (.cond (.seq (.reg []) .nil) .nil)) (.reg [])))))))) (.seq (.reg []) .nil))))))
set_option maxRecDepth 100000 in
theorem nf30 (s : ByteArray) (w : World) (R : Ending → World → Prop) (h :
(∀ w1 : World, ((w1 = (w.alloc (Obj.cells #[(Value.string (ByteArray.mk #[])), (Value.slice none 0 0)] 35 (0, 0)))) →
(∀ w3 : World, ((w3 = (w1.alloc (Obj.cells #[(Value.string (ByteArray.mk #[])), (Value.slice none 0 0)] 35 (0, 0)))) →
(∀ w5 : World, ((w5 = (w3.alloc (Obj.map #[] 0))) →
(∃ k7 : (Nat → (ByteArray → (Int → (World → Prop)))), ((∃ n8 : Nat, (k7 n8 s 0 w5)) ∧
(∀ n9 : Nat, ((Nat → Value) →
(∀ w11 : World, (∀ s12 : ByteArray, (∀ x13 : Int, ((k7 n9 s12 x13 w11) →
((((decide (x13 = 0)) = true) →
(Calls Tryd.prog 53 #[(Value.string s12), (Value.string (ByteArray.mk #[(10 : UInt8)]))] w11 (fun (e16 : Ending) => (fun (w17 : World) => (∃ s18 : ByteArray, (∃ s19 : ByteArray, (∃ b20 : Bool, ((e16 = (Ending.returned (Value.tuple #[(Value.string s18), (Value.string s19), (Value.bool b20)]))) ∧
(((b20 = true) →
(Calls Tryd.prog 54 #[(Value.pointer (some (⟨(hs w1), 0, none⟩ : Addr))), (Value.map (some (hs w3))), (Value.int IntKind.i64 (IntKind.wrap IntKind.i64 (x13 + 1))), (Value.string s18)] w17 (fun (e22 : Ending) => (fun (w23 : World) => (∃ b24 : Bool, ((e22 = (Ending.returned (Value.bool b24))) ∧
(((b24 = true) →
(∃ n26 : Nat, ((n26 < n9) ∧
(k7 n26 s19 (IntKind.wrap IntKind.i64 (x13 + 1)) w23)))) ∧
((b24 = false) →
((Nf.There w23 (⟨(hs w), 0, none⟩ : Addr) 2) ∧
(∀ w28 : World, ((w28 = (Nf.setCells w23 (⟨(hs w), 0, none⟩ : Addr) [(Value.string (ByteArray.mk #[])), (Value.slice none 0 0)] 0)) →
(∃ s30 : ByteArray, (((w28.cell? (⟨(hs w), 0, none⟩ : Addr)) = (some (Value.string s30))) ∧
(∃ o31 : Option Addr, (∃ n32 : Nat, (∃ n33 : Nat, (((w28.cell? (⟨(hs w), 1, none⟩ : Addr)) = (some (Value.slice o31 n32 n33))) ∧
(R (Ending.returned (Value.tuple #[(Value.agg #[(Value.string s30), (Value.slice o31 n32 n33)]), (Value.int IntKind.i64 (IntKind.wrap IntKind.i64 (x13 + 1))), (Value.int IntKind.i64 2)])) w28)))))))))))))))))) ∧
((b20 = false) →
((Nf.There w17 (⟨(hs w), 0, none⟩ : Addr) 2) ∧
(∀ w35 : World, ((w35 = (Nf.setCells w17 (⟨(hs w), 0, none⟩ : Addr) [(Value.string (ByteArray.mk #[])), (Value.slice none 0 0)] 0)) →
(∃ s37 : ByteArray, (((w35.cell? (⟨(hs w), 0, none⟩ : Addr)) = (some (Value.string s37))) ∧
(∃ o38 : Option Addr, (∃ n39 : Nat, (∃ n40 : Nat, (((w35.cell? (⟨(hs w), 1, none⟩ : Addr)) = (some (Value.slice o38 n39 n40))) ∧
(R (Ending.returned (Value.tuple #[(Value.agg #[(Value.string s37), (Value.slice o38 n39 n40)]), (Value.int IntKind.i64 (IntKind.wrap IntKind.i64 (x13 + 1))), (Value.int IntKind.i64 2)])) w35)))))))))))))))))))) ∧
(((decide (x13 = 0)) = false) →
((((!(Nf.strEq s12 (ByteArray.mk #[]))) = true) →
(Calls Tryd.prog 53 #[(Value.string s12), (Value.string (ByteArray.mk #[(10 : UInt8)]))] w11 (fun (e43 : Ending) => (fun (w44 : World) => (∃ s45 : ByteArray, (∃ s46 : ByteArray, (∃ b47 : Bool, ((e43 = (Ending.returned (Value.tuple #[(Value.string s45), (Value.string s46), (Value.bool b47)]))) ∧
(((b47 = true) →
(Calls Tryd.prog 54 #[(Value.pointer (some (⟨(hs w1), 0, none⟩ : Addr))), (Value.map (some (hs w3))), (Value.int IntKind.i64 (IntKind.wrap IntKind.i64 (x13 + 1))), (Value.string s45)] w44 (fun (e49 : Ending) => (fun (w50 : World) => (∃ b51 : Bool, ((e49 = (Ending.returned (Value.bool b51))) ∧
(((b51 = true) →
(∃ n53 : Nat, ((n53 < n9) ∧
(k7 n53 s46 (IntKind.wrap IntKind.i64 (x13 + 1)) w50)))) ∧
((b51 = false) →
((Nf.There w50 (⟨(hs w), 0, none⟩ : Addr) 2) ∧
(∀ w55 : World, ((w55 = (Nf.setCells w50 (⟨(hs w), 0, none⟩ : Addr) [(Value.string (ByteArray.mk #[])), (Value.slice none 0 0)] 0)) →
(∃ s57 : ByteArray, (((w55.cell? (⟨(hs w), 0, none⟩ : Addr)) = (some (Value.string s57))) ∧
(∃ o58 : Option Addr, (∃ n59 : Nat, (∃ n60 : Nat, (((w55.cell? (⟨(hs w), 1, none⟩ : Addr)) = (some (Value.slice o58 n59 n60))) ∧
(R (Ending.returned (Value.tuple #[(Value.agg #[(Value.string s57), (Value.slice o58 n59 n60)]), (Value.int IntKind.i64 (IntKind.wrap IntKind.i64 (x13 + 1))), (Value.int IntKind.i64 2)])) w55)))))))))))))))))) ∧
((b47 = false) →
((Nf.There w44 (⟨(hs w), 0, none⟩ : Addr) 2) ∧
(∀ w62 : World, ((w62 = (Nf.setCells w44 (⟨(hs w), 0, none⟩ : Addr) [(Value.string (ByteArray.mk #[])), (Value.slice none 0 0)] 0)) →
(∃ s64 : ByteArray, (((w62.cell? (⟨(hs w), 0, none⟩ : Addr)) = (some (Value.string s64))) ∧
(∃ o65 : Option Addr, (∃ n66 : Nat, (∃ n67 : Nat, (((w62.cell? (⟨(hs w), 1, none⟩ : Addr)) = (some (Value.slice o65 n66 n67))) ∧
(R (Ending.returned (Value.tuple #[(Value.agg #[(Value.string s64), (Value.slice o65 n66 n67)]), (Value.int IntKind.i64 (IntKind.wrap IntKind.i64 (x13 + 1))), (Value.int IntKind.i64 2)])) w62)))))))))))))))))))) ∧
(((!(Nf.strEq s12 (ByteArray.mk #[]))) = false) →
(∃ s69 : ByteArray, (((w11.cell? (⟨(hs w1), 0, none⟩ : Addr)) = (some (Value.string s69))) ∧
(∃ o70 : Option Addr, (∃ n71 : Nat, (∃ n72 : Nat, (((w11.cell? (⟨(hs w1), 1, none⟩ : Addr)) = (some (Value.slice o70 n71 n72))) ∧
(Calls Tryd.prog 52 #[(Value.agg #[(Value.string s69), (Value.slice o70 n71 n72)])] w11 (fun (e73 : Ending) => (fun (w74 : World) => (∃ b75 : Bool, ((e73 = (Ending.returned (Value.bool b75))) ∧
(((b75 = true) →
(∃ s77 : ByteArray, (((w74.cell? (⟨(hs w1), 0, none⟩ : Addr)) = (some (Value.string s77))) ∧
(∃ o78 : Option Addr, (∃ n79 : Nat, (∃ n80 : Nat, (((w74.cell? (⟨(hs w1), 1, none⟩ : Addr)) = (some (Value.slice o78 n79 n80))) ∧
((Nf.There w74 (⟨(hs w), 0, none⟩ : Addr) 2) ∧
(∀ w81 : World, ((w81 = (Nf.setCells w74 (⟨(hs w), 0, none⟩ : Addr) [(Value.string s77), (Value.slice o78 n79 n80)] 0)) →
(∃ s83 : ByteArray, (((w81.cell? (⟨(hs w), 0, none⟩ : Addr)) = (some (Value.string s83))) ∧
(∃ o84 : Option Addr, (∃ n85 : Nat, (∃ n86 : Nat, (((w81.cell? (⟨(hs w), 1, none⟩ : Addr)) = (some (Value.slice o84 n85 n86))) ∧
(R (Ending.returned (Value.tuple #[(Value.agg #[(Value.string s83), (Value.slice o84 n85 n86)]), (Value.int IntKind.i64 0), (Value.int IntKind.i64 0)])) w81))))))))))))))))) ∧
((b75 = false) →
(Calls Tryd.prog 53 #[(Value.string s12), (Value.string (ByteArray.mk #[(10 : UInt8)]))] w74 (fun (e88 : Ending) => (fun (w89 : World) => (∃ s90 : ByteArray, (∃ s91 : ByteArray, (∃ b92 : Bool, ((e88 = (Ending.returned (Value.tuple #[(Value.string s90), (Value.string s91), (Value.bool b92)]))) ∧
(((b92 = true) →
(Calls Tryd.prog 54 #[(Value.pointer (some (⟨(hs w1), 0, none⟩ : Addr))), (Value.map (some (hs w3))), (Value.int IntKind.i64 (IntKind.wrap IntKind.i64 (x13 + 1))), (Value.string s90)] w89 (fun (e94 : Ending) => (fun (w95 : World) => (∃ b96 : Bool, ((e94 = (Ending.returned (Value.bool b96))) ∧
(((b96 = true) →
(∃ n98 : Nat, ((n98 < n9) ∧
(k7 n98 s91 (IntKind.wrap IntKind.i64 (x13 + 1)) w95)))) ∧
((b96 = false) →
((Nf.There w95 (⟨(hs w), 0, none⟩ : Addr) 2) ∧
(∀ w100 : World, ((w100 = (Nf.setCells w95 (⟨(hs w), 0, none⟩ : Addr) [(Value.string (ByteArray.mk #[])), (Value.slice none 0 0)] 0)) →
(∃ s102 : ByteArray, (((w100.cell? (⟨(hs w), 0, none⟩ : Addr)) = (some (Value.string s102))) ∧
(∃ o103 : Option Addr, (∃ n104 : Nat, (∃ n105 : Nat, (((w100.cell? (⟨(hs w), 1, none⟩ : Addr)) = (some (Value.slice o103 n104 n105))) ∧
(R (Ending.returned (Value.tuple #[(Value.agg #[(Value.string s102), (Value.slice o103 n104 n105)]), (Value.int IntKind.i64 (IntKind.wrap IntKind.i64 (x13 + 1))), (Value.int IntKind.i64 2)])) w100)))))))))))))))))) ∧
((b92 = false) →
((Nf.There w89 (⟨(hs w), 0, none⟩ : Addr) 2) ∧
(∀ w107 : World, ((w107 = (Nf.setCells w89 (⟨(hs w), 0, none⟩ : Addr) [(Value.string (ByteArray.mk #[])), (Value.slice none 0 0)] 0)) →
(∃ s109 : ByteArray, (((w107.cell? (⟨(hs w), 0, none⟩ : Addr)) = (some (Value.string s109))) ∧
(∃ o110 : Option Addr, (∃ n111 : Nat, (∃ n112 : Nat, (((w107.cell? (⟨(hs w), 1, none⟩ : Addr)) = (some (Value.slice o110 n111 n112))) ∧
(R (Ending.returned (Value.tuple #[(Value.agg #[(Value.string s109), (Value.slice o110 n111 n112)]), (Value.int IntKind.i64 (IntKind.wrap IntKind.i64 (x13 + 1))), (Value.int IntKind.i64 2)])) w107))))))))))))))))))))))))))))))))))))))))))))))))))) :
    Calls Tryd.prog 30 #[(.string s)] w R :=
  calls_of_vc an30 Tryd.func30 rfl (by kernel_rfl) (by kernel_rfl) (Eq.mp (by kernel_rfl) h)

/-- samaritan/samaritanref45.Parse -/
def an33 : An := (.seq (.reg []) (.seq (.reg []) (.seq (.reg []) (.seq (.seq (.reg []) (.blk (.loop [(6, .int .i64), (7, .int .i64), (8, .int .i64)] (.seq (.seq (.reg [(3, 0, true)]) (.cond .nil .nil)) (.cut [(6, .int .i64), (7, .int .i64)] (.blk (.seq (.seq (.reg [(2, 2, false), (3, 0, true)]) (.cond .nil .nil)) (.seq (.reg [(3, 2, false)]) (.cut [(10, .bool)] (.seq (.reg [(1, 0, true)]) (.cond (.seq (.reg [(2, 0, true), (5, 2, false), (6, 3, true)]) (.cond (.regD [(1, 2, false), (3, 2, false), (4, 0, true)] [0, 1, 2, 3, 5, 4, 6, 7] [4, 6]) .nil)) (.reg [(5, 0, true)]))) (.seq (.seq (.reg [(0, 0, true)]) (.cond (.seq (.reg []) .nil) .nil)) (.seq (.reg []) (.reg []))))))) (.reg [])))))) (.seq (.seq (.reg [(3, 0, true), (7, 0, true)]) (.cond (.seq (.reg []) .nil) .nil)) (.seq (.reg []) .nil))))))
set_option maxRecDepth 100000 in
theorem nf33 (s : ByteArray) (w : World) (R : Ending → World → Prop) (h :
(∀ w1 : World, ((w1 = (w.alloc (Obj.cells #[(Value.string (ByteArray.mk #[])), (Value.slice none 0 0)] 32 (0, 0)))) →
(∀ w3 : World, ((w3 = (w1.alloc (Obj.cells #[(Value.string (ByteArray.mk #[])), (Value.slice none 0 0)] 32 (0, 0)))) →
((Nf.There w3 (⟨(hs w1), 0, none⟩ : Addr) 2) ∧
(∀ w5 : World, ((w5 = (Nf.setCells w3 (⟨(hs w1), 0, none⟩ : Addr) [(Value.string (ByteArray.mk #[])), (Value.slice none 0 0)] 0)) →
(∃ k7 : (Nat → (Int → (Int → (Int → (World → Prop))))), ((∃ n8 : Nat, (k7 n8 0 1 0 w5)) ∧
(∀ n9 : Nat, ((Nat → Value) →
(∀ w11 : World, (∀ x12 : Int, (∀ x13 : Int, (∀ x14 : Int, ((k7 n9 x12 x13 x14 w11) →
((((decide (x14 < (((ByteArray.size s) : Nat) : Int))) = true) →
(∀ k17 : (Int → (Int → (World → Prop))), ((∀ w19 : World, (∀ x20 : Int, (∀ x21 : Int, (((Nat → Value) →
(∃ n24 : Nat, ((n24 < n9) ∧
(k7 n24 x20 x21 (IntKind.wrap IntKind.i64 (x14 + 1)) w19)))) →
(k17 x20 x21 w19))))) →
(∃ c25 : UInt8, ((((0 : Int) ≤ x14) ∧
((Nf.byteAt s (x14).toNat) = (some c25))) ∧
((((!(decide ((((c25).toNat : Nat) : Int) = 10))) = true) →
(k17 x12 x13 w11)) ∧
(((!(decide ((((c25).toNat : Nat) : Int) = 10))) = false) →
((((0 : Int) ≤ x14) ∧
(x14 ≤ (((ByteArray.size s) : Nat) : Int))) ∧
((((0 : Int) ≤ x12) ∧
(x12 ≤ (((x14).toNat : Nat) : Int))) ∧
(∀ k28 : (Bool → (World → Prop)), ((∀ w30 : World, (∀ b31 : Bool, (((Nat → Value) →
(((b31 = true) →
(k17 (IntKind.wrap IntKind.i64 (x14 + 1)) (IntKind.wrap IntKind.i64 (x13 + 1)) w30)) ∧
((b31 = false) →
((Nf.There w30 (⟨(hs w), 0, none⟩ : Addr) 2) ∧
(∀ w36 : World, ((w36 = (Nf.setCells w30 (⟨(hs w), 0, none⟩ : Addr) [(Value.string (ByteArray.mk #[])), (Value.slice none 0 0)] 0)) →
(∃ s38 : ByteArray, (((w36.cell? (⟨(hs w), 0, none⟩ : Addr)) = (some (Value.string s38))) ∧
(∃ o39 : Option Addr, (∃ n40 : Nat, (∃ n41 : Nat, (((w36.cell? (⟨(hs w), 1, none⟩ : Addr)) = (some (Value.slice o39 n40 n41))) ∧
(R (Ending.returned (Value.tuple #[(Value.agg #[(Value.string s38), (Value.slice o39 n40 n41)]), (Value.int IntKind.i64 x13), (Value.int IntKind.i64 2)])) w36))))))))))))) →
(k28 b31 w30)))) →
((((decide (x13 = 1)) = true) →
((((decide ((((ByteArray.size (ByteArray.extract s (x12).toNat (x14).toNat)) : Nat) : Int) > 5)) = true) →
((((0 : Int) ≤ 5) ∧
(5 ≤ (((ByteArray.size (ByteArray.extract s (x12).toNat (x14).toNat)) : Nat) : Int))) ∧
((((Nf.strEq (ByteArray.extract (ByteArray.extract s (x12).toNat (x14).toNat) 0 5) (ByteArray.mk #[(112 : UInt8), (108 : UInt8), (97 : UInt8), (110 : UInt8), (32 : UInt8)])) = true) →
(∀ w45 : World, ((w45 = w11.drew) →
((((0 : Int) ≤ 5) ∧
(5 ≤ (((ByteArray.size (ByteArray.extract s (x12).toNat (x14).toNat)) : Nat) : Int))) ∧
((((0 : Int) ≤ 5) ∧
(5 ≤ (((ByteArray.size (ByteArray.extract s (x12).toNat (x14).toNat)) : Nat) : Int))) ∧
(Calls Tryd.prog 42 #[(Value.string (ByteArray.extract (ByteArray.extract s (x12).toNat (x14).toNat) 5 (ByteArray.size (ByteArray.extract s (x12).toNat (x14).toNat))))] w45 (fun (e47 : Ending) => (fun (w48 : World) => (∃ b49 : Bool, ((e47 = (Ending.returned (Value.bool b49))) ∧
(((b49 = true) →
((Nf.There w48 (⟨(hs w1), 0, none⟩ : Addr) 1) ∧
(∀ w51 : World, ((w51 = (Nf.setCells w48 (⟨(hs w1), 0, none⟩ : Addr) [(Value.string (ByteArray.extract (ByteArray.extract s (x12).toNat (x14).toNat) 5 (ByteArray.size (ByteArray.extract s (x12).toNat (x14).toNat))))] 0)) →
(k28 true w51))))) ∧
((b49 = false) →
((Nf.There w48 (⟨(hs w1), 0, none⟩ : Addr) 1) ∧
(∀ w54 : World, ((w54 = (Nf.setCells w48 (⟨(hs w1), 0, none⟩ : Addr) [(Value.string (ByteArray.extract (ByteArray.extract s (x12).toNat (x14).toNat) 5 (ByteArray.size (ByteArray.extract s (x12).toNat (x14).toNat))))] 0)) →
(k28 false w54)))))))))))))))) ∧
(((Nf.strEq (ByteArray.extract (ByteArray.extract s (x12).toNat (x14).toNat) 0 5) (ByteArray.mk #[(112 : UInt8), (108 : UInt8), (97 : UInt8), (110 : UInt8), (32 : UInt8)])) = false) →
(k28 false w11))))) ∧
(((decide ((((ByteArray.size (ByteArray.extract s (x12).toNat (x14).toNat)) : Nat) : Int) > 5)) = false) →
(k28 false w11)))) ∧
(((decide (x13 = 1)) = false) →
(∃ s59 : ByteArray, (((w11.cell? (⟨(hs w1), 0, none⟩ : Addr)) = (some (Value.string s59))) ∧
(∃ o60 : Option Addr, (∃ n61 : Nat, (∃ n62 : Nat, (((w11.cell? (⟨(hs w1), 1, none⟩ : Addr)) = (some (Value.slice o60 n61 n62))) ∧
(Calls Tryd.prog 55 #[(Value.agg #[(Value.string s59), (Value.slice o60 n61 n62)]), (Value.string (ByteArray.extract s (x12).toNat (x14).toNat))] w11 (fun (e63 : Ending) => (fun (w64 : World) => (∃ s65 : ByteArray, (∃ o66 : Option Addr, (∃ n67 : Nat, (∃ n68 : Nat, (∃ b69 : Bool, ((e63 = (Ending.returned (Value.tuple #[(Value.agg #[(Value.string s65), (Value.slice o66 n67 n68)]), (Value.bool b69)]))) ∧
(((b69 = true) →
((Nf.There w64 (⟨(hs w1), 0, none⟩ : Addr) 2) ∧
(∀ w71 : World, ((w71 = (Nf.setCells w64 (⟨(hs w1), 0, none⟩ : Addr) [(Value.string s65), (Value.slice o66 n67 n68)] 0)) →
(k28 true w71))))) ∧
((b69 = false) →
((Nf.There w64 (⟨(hs w1), 0, none⟩ : Addr) 2) ∧
(∀ w74 : World, ((w74 = (Nf.setCells w64 (⟨(hs w1), 0, none⟩ : Addr) [(Value.string s65), (Value.slice o66 n67 n68)] 0)) →
(k28 false w74)))))))))))))))))))))))))))))))))) ∧
(((decide (x14 < (((ByteArray.size s) : Nat) : Int))) = false) →
((((decide (x12 < (((ByteArray.size s) : Nat) : Int))) = true) →
((Nf.There w11 (⟨(hs w), 0, none⟩ : Addr) 2) ∧
(∀ w78 : World, ((w78 = (Nf.setCells w11 (⟨(hs w), 0, none⟩ : Addr) [(Value.string (ByteArray.mk #[])), (Value.slice none 0 0)] 0)) →
(∃ s80 : ByteArray, (((w78.cell? (⟨(hs w), 0, none⟩ : Addr)) = (some (Value.string s80))) ∧
(∃ o81 : Option Addr, (∃ n82 : Nat, (∃ n83 : Nat, (((w78.cell? (⟨(hs w), 1, none⟩ : Addr)) = (some (Value.slice o81 n82 n83))) ∧
(R (Ending.returned (Value.tuple #[(Value.agg #[(Value.string s80), (Value.slice o81 n82 n83)]), (Value.int IntKind.i64 x13), (Value.int IntKind.i64 2)])) w78))))))))))) ∧
(((decide (x12 < (((ByteArray.size s) : Nat) : Int))) = false) →
(∃ s85 : ByteArray, (((w11.cell? (⟨(hs w1), 0, none⟩ : Addr)) = (some (Value.string s85))) ∧
(∃ o86 : Option Addr, (∃ n87 : Nat, (∃ n88 : Nat, (((w11.cell? (⟨(hs w1), 1, none⟩ : Addr)) = (some (Value.slice o86 n87 n88))) ∧
(Calls Tryd.prog 18 #[(Value.agg #[(Value.string s85), (Value.slice o86 n87 n88)])] w11 (fun (e89 : Ending) => (fun (w90 : World) => (∃ x91 : Int, ((e89 = (Ending.returned (Value.int IntKind.i64 x91))) ∧
((((!(decide (x91 = (-1)))) = true) →
((Nf.There w90 (⟨(hs w), 0, none⟩ : Addr) 2) ∧
(∀ w93 : World, ((w93 = (Nf.setCells w90 (⟨(hs w), 0, none⟩ : Addr) [(Value.string (ByteArray.mk #[])), (Value.slice none 0 0)] 0)) →
(∃ s95 : ByteArray, (((w93.cell? (⟨(hs w), 0, none⟩ : Addr)) = (some (Value.string s95))) ∧
(∃ o96 : Option Addr, (∃ n97 : Nat, (∃ n98 : Nat, (((w93.cell? (⟨(hs w), 1, none⟩ : Addr)) = (some (Value.slice o96 n97 n98))) ∧
(R (Ending.returned (Value.tuple #[(Value.agg #[(Value.string s95), (Value.slice o96 n97 n98)]), (Value.int IntKind.i64 x13), (Value.int IntKind.i64 2)])) w93))))))))))) ∧
(((!(decide (x91 = (-1)))) = false) →
(∃ s100 : ByteArray, (((w90.cell? (⟨(hs w1), 0, none⟩ : Addr)) = (some (Value.string s100))) ∧
(∃ o101 : Option Addr, (∃ n102 : Nat, (∃ n103 : Nat, (((w90.cell? (⟨(hs w1), 1, none⟩ : Addr)) = (some (Value.slice o101 n102 n103))) ∧
((Nf.There w90 (⟨(hs w), 0, none⟩ : Addr) 2) ∧
(∀ w104 : World, ((w104 = (Nf.setCells w90 (⟨(hs w), 0, none⟩ : Addr) [(Value.string s100), (Value.slice o101 n102 n103)] 0)) →
(∃ s106 : ByteArray, (((w104.cell? (⟨(hs w), 0, none⟩ : Addr)) = (some (Value.string s106))) ∧
(∃ o107 : Option Addr, (∃ n108 : Nat, (∃ n109 : Nat, (((w104.cell? (⟨(hs w), 1, none⟩ : Addr)) = (some (Value.slice o107 n108 n109))) ∧
(R (Ending.returned (Value.tuple #[(Value.agg #[(Value.string s106), (Value.slice o107 n108 n109)]), (Value.int IntKind.i64 0), (Value.int IntKind.i64 0)])) w104)))))))))))))))))))))))))))))))))))))))))))))))))) :
    Calls Tryd.prog 33 #[(.string s)] w R :=
  calls_of_vc an33 Tryd.func33 rfl (by kernel_rfl) (by kernel_rfl) (Eq.mp (by kernel_rfl) h)

/-- samaritan/surge.complete -/
def an52 : An := (.seq (.reg []) (.seq (.reg []) (.seq (.reg [(1, 0, true), (10, 0, true)]) .nil)))
set_option maxRecDepth 100000 in
theorem nf52 (p_Name : ByteArray) (p_Steps : Option Addr) (p_Steps_n : Nat) (p_Steps_c : Nat) (w : World) (R : Ending → World → Prop) (h :
(∀ w1 : World, ((w1 = (w.alloc (Obj.cells #[(Value.string p_Name), (Value.slice p_Steps p_Steps_n p_Steps_c)] 35 (0, 0)))) →
(∃ o3 : Option Addr, (∃ n4 : Nat, (∃ n5 : Nat, (((w1.cell? (⟨(hs w), 1, none⟩ : Addr)) = (some (Value.slice o3 n4 n5))) ∧
((((decide (((n4 : Nat) : Int) > 0)) = true) →
(∃ o7 : Option Addr, (∃ n8 : Nat, (∃ n9 : Nat, (((w1.cell? (⟨(hs w), 1, none⟩ : Addr)) = (some (Value.slice o7 n8 n9))) ∧
(∃ a10 : Addr, ((o7 = (some a10)) ∧
((((0 : Int) ≤ (IntKind.wrap IntKind.i64 (((n4 : Nat) : Int) - 1))) ∧
((IntKind.wrap IntKind.i64 (((n4 : Nat) : Int) - 1)) < ((n8 : Nat) : Int))) ∧
(∃ o11 : Option Addr, (∃ n12 : Nat, (∃ n13 : Nat, (((w1.cell? (Addr.add a10 (((IntKind.wrap IntKind.i64 (((n4 : Nat) : Int) - 1))).toNat * 1))) = (some (Value.slice o11 n12 n13))) ∧
((((decide (((n12 : Nat) : Int) > 0)) = true) →
(R (Ending.returned (Value.bool true)) w1)) ∧
(((decide (((n12 : Nat) : Int) > 0)) = false) →
(R (Ending.returned (Value.bool false)) w1))))))))))))))) ∧
(((decide (((n4 : Nat) : Int) > 0)) = false) →
(R (Ending.returned (Value.bool false)) w1)))))))))) :
    Calls Tryd.prog 52 #[(.agg #[(.string p_Name), (.slice p_Steps p_Steps_n p_Steps_c)])] w R :=
  calls_of_vc an52 Tryd.func52 rfl (by kernel_rfl) (by kernel_rfl) (Eq.mp (by kernel_rfl) h)

/-- samaritan/surge.accept -/
def an54 : An := (.seq (.reg []) (.seq (.seq (.reg [(1, 0, true)]) (.cond (.seq (.reg [(4, 0, true)]) (.seq (.seq (.reg [(4, 0, true)]) (.cond (.seq (.reg []) .nil) .nil)) (.seq (.reg [(2, 2, false)]) (.seq (.reg []) .nil)))) .nil)) (.seq (.reg [(1, 2, false)]) (.seq (.seq (.reg [(4, 1, false), (5, 3, true)]) (.cond (.seq (.seq (.reg [(1, 0, true), (4, 0, true), (7, 2, false), (15, 0, true)]) (.cond (.seq (.reg []) .nil) .nil)) (.seq (.reg [(2, 2, false), (6, 1, false), (7, 2, false)]) (.seq (.reg []) .nil))) .nil)) (.seq (.reg [(4, 0, true)]) (.seq (.seq (.reg [(4, 0, true), (8, 2, false), (16, 0, true), (20, 0, true), (26, 1, true)]) (.cond (.seq (.reg []) .nil) .nil)) (.seq (.reg [(2, 1, false)]) (.seq (.regD [(1, 2, false), (7, 2, false), (16, 1, false)] [0, 1, 2, 3, 4, 5, 6, 7, 8, 9, 10, 11, 12, 13, 14, 15, 16, 17, 18] [15, 16, 18]) (.seq (.reg []) .nil)))))))))
set_option maxRecDepth 100000 in
theorem nf54 (p : Option Addr) (seen : Option Nat) (number : Int) (line : ByteArray) (w : World) (R : Ending → World → Prop) (h :
((((decide (number = 1)) = true) →
(Calls Tryd.prog 66 #[(Value.string line), (Value.string (ByteArray.mk #[(112 : UInt8), (108 : UInt8), (97 : UInt8), (110 : UInt8), (32 : UInt8)]))] w (fun (e2 : Ending) => (fun (w3 : World) => (∃ s4 : ByteArray, (∃ b5 : Bool, ((e2 = (Ending.returned (Value.tuple #[(Value.string s4), (Value.bool b5)]))) ∧
(((b5 = true) →
(Calls Tryd.prog 40 #[(Value.string s4)] w3 (fun (e7 : Ending) => (fun (w8 : World) => (∃ b9 : Bool, ((e7 = (Ending.returned (Value.bool b9))) ∧
(((b9 = true) →
(∃ a11 : Addr, ((p = (some a11)) ∧
((Nf.There w8 a11 1) ∧
(∀ w12 : World, ((w12 = (Nf.setCells w8 a11 [(Value.string s4)] 0)) →
(R (Ending.returned (Value.bool true)) w12))))))) ∧
((b9 = false) →
(R (Ending.returned (Value.bool false)) w8))))))))) ∧
((b5 = false) →
(R (Ending.returned (Value.bool false)) w3)))))))))) ∧
(((decide (number = 1)) = false) →
(∃ a17 : Addr, ((p = (some a17)) ∧
(∃ o18 : Option Addr, (∃ n19 : Nat, (∃ n20 : Nat, (((w.cell? (Addr.add a17 1)) = (some (Value.slice o18 n19 n20))) ∧
(Calls Tryd.prog 50 #[(Value.int IntKind.i64 (IntKind.wrap IntKind.i64 (((n19 : Nat) : Int) + 1)))] w (fun (e21 : Ending) => (fun (w22 : World) => (∃ s23 : ByteArray, ((e21 = (Ending.returned (Value.string s23))) ∧
(RunOk Tryd.prog (Nf.Hold (Nf.binOpSem BinOp.add 9 (Operand.const (Value.string (ByteArray.mk #[(108 : UInt8), (101 : UInt8), (118 : UInt8), (101 : UInt8), (108 : UInt8), (32 : UInt8)]))) (Operand.tmp 40) (Value.string (ByteArray.mk #[(108 : UInt8), (101 : UInt8), (118 : UInt8), (101 : UInt8), (108 : UInt8), (32 : UInt8)])) (Value.string s23))) w22 (fun (v24 : Value) => (fun (w25 : World) => (∃ s26 : ByteArray, ((v24 = (Value.string s26)) ∧
((((Nf.strEq line s26) = true) →
((((decide (((n19 : Nat) : Int) = 5)) = true) →
(R (Ending.returned (Value.bool false)) w25)) ∧
(((decide (((n19 : Nat) : Int) = 5)) = false) →
((((decide (((n19 : Nat) : Int) > 0)) = true) →
(∃ a31 : Addr, ((p = (some a31)) ∧
(∃ o32 : Option Addr, (∃ n33 : Nat, (∃ n34 : Nat, (((w25.cell? (Addr.add a31 1)) = (some (Value.slice o32 n33 n34))) ∧
(∃ a35 : Addr, ((o32 = (some a35)) ∧
((((0 : Int) ≤ (IntKind.wrap IntKind.i64 (((n19 : Nat) : Int) - 1))) ∧
((IntKind.wrap IntKind.i64 (((n19 : Nat) : Int) - 1)) < ((n33 : Nat) : Int))) ∧
(∃ o36 : Option Addr, (∃ n37 : Nat, (∃ n38 : Nat, (((w25.cell? (Addr.add a35 (((IntKind.wrap IntKind.i64 (((n19 : Nat) : Int) - 1))).toNat * 1))) = (some (Value.slice o36 n37 n38))) ∧
((((decide (((n37 : Nat) : Int) = 0)) = true) →
(R (Ending.returned (Value.bool false)) w25)) ∧
(((decide (((n37 : Nat) : Int) = 0)) = false) →
(∃ a41 : Addr, ((p = (some a41)) ∧
(∃ o42 : Option Addr, (∃ n43 : Nat, (∃ n44 : Nat, (((w25.cell? (Addr.add a41 1)) = (some (Value.slice o42 n43 n44))) ∧
(∀ w45 : World, ((w45 = (w25.alloc (Obj.cells #[(Value.slice none 0 0)] 52 (0, 0)))) →
(RunOk Tryd.prog (Nf.Hold (Builtin.append_ #[30, 30] 30 #[(Value.slice o42 n43 n44), (Value.slice (some (⟨(hs w25), 0, none⟩ : Addr)) 1 1)])) w45 (fun (v47 : Value) => (fun (w48 : World) => (∃ o49 : Option Addr, (∃ n50 : Nat, (∃ n51 : Nat, ((v47 = (Value.slice o49 n50 n51)) ∧
(∃ a52 : Addr, ((p = (some a52)) ∧
((Nf.There w48 (Addr.add a52 1) 1) ∧
(∀ w53 : World, ((w53 = (Nf.setCells w48 (Addr.add a52 1) [(Value.slice o49 n50 n51)] 0)) →
(R (Ending.returned (Value.bool true)) w53))))))))))))))))))))))))))))))))))))) ∧
(((decide (((n19 : Nat) : Int) > 0)) = false) →
(∃ a56 : Addr, ((p = (some a56)) ∧
(∃ o57 : Option Addr, (∃ n58 : Nat, (∃ n59 : Nat, (((w25.cell? (Addr.add a56 1)) = (some (Value.slice o57 n58 n59))) ∧
(∀ w60 : World, ((w60 = (w25.alloc (Obj.cells #[(Value.slice none 0 0)] 52 (0, 0)))) →
(RunOk Tryd.prog (Nf.Hold (Builtin.append_ #[30, 30] 30 #[(Value.slice o57 n58 n59), (Value.slice (some (⟨(hs w25), 0, none⟩ : Addr)) 1 1)])) w60 (fun (v62 : Value) => (fun (w63 : World) => (∃ o64 : Option Addr, (∃ n65 : Nat, (∃ n66 : Nat, ((v62 = (Value.slice o64 n65 n66)) ∧
(∃ a67 : Addr, ((p = (some a67)) ∧
((Nf.There w63 (Addr.add a67 1) 1) ∧
(∀ w68 : World, ((w68 = (Nf.setCells w63 (Addr.add a67 1) [(Value.slice o64 n65 n66)] 0)) →
(R (Ending.returned (Value.bool true)) w68)))))))))))))))))))))))))) ∧
(((Nf.strEq line s26) = false) →
(Calls Tryd.prog 66 #[(Value.string line), (Value.string (ByteArray.mk #[(45 : UInt8), (32 : UInt8)]))] w25 (fun (e71 : Ending) => (fun (w72 : World) => (∃ s73 : ByteArray, (∃ b74 : Bool, ((e71 = (Ending.returned (Value.tuple #[(Value.string s73), (Value.bool b74)]))) ∧
(((b74 = true) →
((((decide (((n19 : Nat) : Int) = 0)) = true) →
(R (Ending.returned (Value.bool false)) w72)) ∧
(((decide (((n19 : Nat) : Int) = 0)) = false) →
(∃ a78 : Addr, ((p = (some a78)) ∧
(∃ o79 : Option Addr, (∃ n80 : Nat, (∃ n81 : Nat, (((w72.cell? (Addr.add a78 1)) = (some (Value.slice o79 n80 n81))) ∧
(∃ a82 : Addr, ((o79 = (some a82)) ∧
((((0 : Int) ≤ (IntKind.wrap IntKind.i64 (((n19 : Nat) : Int) - 1))) ∧
((IntKind.wrap IntKind.i64 (((n19 : Nat) : Int) - 1)) < ((n80 : Nat) : Int))) ∧
(∃ o83 : Option Addr, (∃ n84 : Nat, (∃ n85 : Nat, (((w72.cell? (Addr.add a82 (((IntKind.wrap IntKind.i64 (((n19 : Nat) : Int) - 1))).toNat * 1))) = (some (Value.slice o83 n84 n85))) ∧
((((decide (((n84 : Nat) : Int) = 16)) = true) →
(R (Ending.returned (Value.bool false)) w72)) ∧
(((decide (((n84 : Nat) : Int) = 16)) = false) →
(Calls Tryd.prog 41 #[(Value.string s73)] w72 (fun (e88 : Ending) => (fun (w89 : World) => (∃ b90 : Bool, ((e88 = (Ending.returned (Value.bool b90))) ∧
(((b90 = true) →
(RunOk Tryd.prog (Nf.Hold (Instr.lookup 80 (Value.map seen) (Value.string s73) false)) w89 (fun (v92 : Value) => (fun (w93 : World) => (∃ b94 : Bool, ((v92 = (Value.bool b94)) ∧
(((b94 = true) →
(R (Ending.returned (Value.bool false)) w93)) ∧
((b94 = false) →
(RunOk Tryd.prog (Nf.Hold (Instr.mapUpdate 80 (Value.map seen) (Value.string s73) (Value.bool true))) w93 (fun (_ : Unit) => (fun (w98 : World) => (∀ w99 : World, ((w99 = w98.drew) →
(∃ a101 : Addr, ((p = (some a101)) ∧
(∃ o102 : Option Addr, (∃ n103 : Nat, (∃ n104 : Nat, (((w99.cell? (Addr.add a101 1)) = (some (Value.slice o102 n103 n104))) ∧
(∃ a105 : Addr, ((p = (some a105)) ∧
(∃ o106 : Option Addr, (∃ n107 : Nat, (∃ n108 : Nat, (((w99.cell? (Addr.add a105 1)) = (some (Value.slice o106 n107 n108))) ∧
(∃ a109 : Addr, ((o106 = (some a109)) ∧
((((0 : Int) ≤ (IntKind.wrap IntKind.i64 (((n19 : Nat) : Int) - 1))) ∧
((IntKind.wrap IntKind.i64 (((n19 : Nat) : Int) - 1)) < ((n107 : Nat) : Int))) ∧
(∃ o110 : Option Addr, (∃ n111 : Nat, (∃ n112 : Nat, (((w99.cell? (Addr.add a109 (((IntKind.wrap IntKind.i64 (((n19 : Nat) : Int) - 1))).toNat * 1))) = (some (Value.slice o110 n111 n112))) ∧
(∀ w113 : World, ((w113 = (w99.alloc (Obj.cells #[(Value.string s73)] 9 (0, 0)))) →
((Nf.Kept w99 w113 (Addr.add a109 (((IntKind.wrap IntKind.i64 (((n19 : Nat) : Int) - 1))).toNat * 1)) 1) ∧
((Nf.Kept w99 w113 (Addr.add a105 1) 1) ∧
((Nf.Kept w99 w113 (Addr.add a101 1) 1) ∧
(RunOk Tryd.prog (Nf.Hold (Builtin.append_ #[52, 52] 52 #[(Value.slice o110 n111 n112), (Value.slice (some (⟨(hs w99), 0, none⟩ : Addr)) 1 1)])) w113 (fun (v115 : Value) => (fun (w116 : World) => (∃ o117 : Option Addr, (∃ n118 : Nat, (∃ n119 : Nat, ((v115 = (Value.slice o117 n118 n119)) ∧
((Nf.Kept w99 w116 (Addr.add a101 1) 1) ∧
(∃ a120 : Addr, ((o102 = (some a120)) ∧
((((0 : Int) ≤ (IntKind.wrap IntKind.i64 (((n19 : Nat) : Int) - 1))) ∧
((IntKind.wrap IntKind.i64 (((n19 : Nat) : Int) - 1)) < ((n103 : Nat) : Int))) ∧
((Nf.There w116 (Addr.add a120 (((IntKind.wrap IntKind.i64 (((n19 : Nat) : Int) - 1))).toNat * 1)) 1) ∧
(∀ w121 : World, ((w121 = (Nf.setCells w116 (Addr.add a120 (((IntKind.wrap IntKind.i64 (((n19 : Nat) : Int) - 1))).toNat * 1)) [(Value.slice o117 n118 n119)] 0)) →
(R (Ending.returned (Value.bool true)) w121)))))))))))))))))))))))))))))))))))))))))))))))))))) ∧
((b90 = false) →
(R (Ending.returned (Value.bool false)) w89)))))))))))))))))))))))))) ∧
((b74 = false) →
(R (Ending.returned (Value.bool false)) w72)))))))))))))))))))))))))))))) :
    Calls Tryd.prog 54 #[(.pointer p), (.map seen), (.int .i64 number), (.string line)] w R :=
  calls_of_vc an54 Tryd.func54 rfl (by kernel_rfl) (by kernel_rfl) (Eq.mp (by kernel_rfl) h)

/-- samaritan/samaritanref45.more -/
def an55 : An := (.seq (.reg []) (.seq (.reg []) (.seq (.seq (.reg [(1, 0, true), (8, 1, false), (9, 1, false), (10, 3, true)]) (.cond (.seq (.reg [(3, 1, false), (5, 1, false)]) (.seq (.regD [(2, 0, true), (11, 0, true)] [0, 1, 2, 3, 4, 5, 6, 7, 8, 9, 10, 11, 12, 13, 14] [13]) .nil)) .nil)) (.seq (.seq (.reg [(1, 0, true), (5, 0, true), (9, 2, false), (10, 3, true)]) (.cond (.seq (.reg []) .nil) .nil)) (.seq (.reg [(3, 1, false)]) (.seq (.regE [(9, 1, false), (11, 2, false), (13, 1, false)] (.take 0 (.take 1 (.take 2 (.take 4 (.take 5 (.take 6 (.take 7 (.take 8 (.take 10 (.take 11 (.eff (.alt (.one 3 (.eff (.alt (.one 9 (.eff (.one 12 (.eff (.one 13 (.take 14 (.eff (.one 15 .nil)))))))) (.one 12 (.eff (.one 9 (.eff (.one 13 (.take 14 (.eff (.one 15 .nil))))))))))) (.one 12 (.eff (.one 3 (.eff (.one 9 (.eff (.one 13 (.take 14 (.eff (.one 15 .nil)))))))))))))))))))))) [3, 9, 12, 13, 15]) (.seq (.reg []) (.seq (.regD [(3, 0, true)] [0, 1, 2, 3, 4, 5] [2, 4]) .nil))))))))
set_option maxRecDepth 100000 in
theorem nf55 (p_Name : ByteArray) (p_Steps : Option Addr) (p_Steps_n : Nat) (p_Steps_c : Nat) (s : ByteArray) (w : World) (R : Ending → World → Prop) (h :
(∀ w1 : World, ((w1 = (w.alloc (Obj.cells #[(Value.string p_Name), (Value.slice p_Steps p_Steps_n p_Steps_c)] 32 (0, 0)))) →
(∀ w3 : World, ((w3 = (w1.alloc (Obj.cells #[(Value.string (ByteArray.mk #[])), (Value.slice none 0 0)] 32 (0, 0)))) →
(∃ o5 : Option Addr, (∃ n6 : Nat, (∃ n7 : Nat, (((w3.cell? (⟨(hs w), 1, none⟩ : Addr)) = (some (Value.slice o5 n6 n7))) ∧
((((decide (((n6 : Nat) : Int) < 5)) = true) →
(∀ w9 : World, ((w9 = (w3.alloc (Obj.cells #[(Value.int IntKind.u8 (IntKind.wrap IntKind.u8 (IntKind.wrap IntKind.i64 (49 + ((n6 : Nat) : Int)))))] 5 (0, 0)))) →
(RunOk Tryd.prog (Nf.Hold (convert 91 9 (Value.slice (some (⟨(hs w3), 0, none⟩ : Addr)) 1 1))) w9 (fun (v11 : Value) => (fun (w12 : World) => (∃ s13 : ByteArray, ((v11 = (Value.string s13)) ∧
(RunOk Tryd.prog (Nf.Hold (Nf.binOpSem BinOp.add 9 (Operand.const (Value.string (ByteArray.mk #[(108 : UInt8), (101 : UInt8), (118 : UInt8), (101 : UInt8), (108 : UInt8), (32 : UInt8)]))) (Operand.tmp 19) (Value.string (ByteArray.mk #[(108 : UInt8), (101 : UInt8), (118 : UInt8), (101 : UInt8), (108 : UInt8), (32 : UInt8)])) (Value.string s13))) w12 (fun (v14 : Value) => (fun (w15 : World) => (∃ s16 : ByteArray, ((v14 = (Value.string s16)) ∧
((((Nf.strEq s s16) = true) →
(∀ w18 : World, ((w18 = (w15.alloc (Obj.cells #[] 52 (0, 0)))) →
(∃ o20 : Option Addr, (∃ n21 : Nat, (∃ n22 : Nat, (((w18.cell? (⟨(hs w), 1, none⟩ : Addr)) = (some (Value.slice o20 n21 n22))) ∧
(RunOk Tryd.prog (Nf.Hold (Builtin.append_ #[30, 30] 30 #[(Value.slice (some (⟨(hs w15), 0, none⟩ : Addr)) 0 0), (Value.slice o20 n21 n22)])) w18 (fun (v23 : Value) => (fun (w24 : World) => (∃ o25 : Option Addr, (∃ n26 : Nat, (∃ n27 : Nat, ((v23 = (Value.slice o25 n26 n27)) ∧
(∀ w28 : World, ((w28 = (w24.alloc (Obj.cells #[(Value.slice none 0 0)] 52 (0, 0)))) →
(RunOk Tryd.prog (Nf.Hold (Builtin.append_ #[30, 30] 30 #[(Value.slice o25 n26 n27), (Value.slice (some (⟨(hs w24), 0, none⟩ : Addr)) 1 1)])) w28 (fun (v30 : Value) => (fun (w31 : World) => (∃ o32 : Option Addr, (∃ n33 : Nat, (∃ n34 : Nat, ((v30 = (Value.slice o32 n33 n34)) ∧
((Nf.There w31 (⟨(hs w), 1, none⟩ : Addr) 1) ∧
(∀ w35 : World, ((w35 = (Nf.setCells w31 (⟨(hs w), 1, none⟩ : Addr) [(Value.slice o32 n33 n34)] 0)) →
(∀ w37 : World, ((w37 = w35.drew) →
(∃ s39 : ByteArray, (((w37.cell? (⟨(hs w), 0, none⟩ : Addr)) = (some (Value.string s39))) ∧
(∃ o40 : Option Addr, (∃ n41 : Nat, (∃ n42 : Nat, (((w37.cell? (⟨(hs w), 1, none⟩ : Addr)) = (some (Value.slice o40 n41 n42))) ∧
((((decide (((n6 : Nat) : Int) = 0)) = true) →
((Nf.There w37 (⟨(hs w1), 0, none⟩ : Addr) 2) ∧
(∀ w44 : World, ((w44 = (Nf.setCells w37 (⟨(hs w1), 0, none⟩ : Addr) [(Value.string s39), (Value.slice o40 n41 n42)] 0)) →
(∃ s46 : ByteArray, (((w44.cell? (⟨(hs w1), 0, none⟩ : Addr)) = (some (Value.string s46))) ∧
(∃ o47 : Option Addr, (∃ n48 : Nat, (∃ n49 : Nat, (((w44.cell? (⟨(hs w1), 1, none⟩ : Addr)) = (some (Value.slice o47 n48 n49))) ∧
(R (Ending.returned (Value.tuple #[(Value.agg #[(Value.string s46), (Value.slice o47 n48 n49)]), (Value.bool true)])) w44))))))))))) ∧
(((decide (((n6 : Nat) : Int) = 0)) = false) →
(∃ o51 : Option Addr, (∃ n52 : Nat, (∃ n53 : Nat, (((w37.cell? (⟨(hs w), 1, none⟩ : Addr)) = (some (Value.slice o51 n52 n53))) ∧
(∃ a54 : Addr, ((o51 = (some a54)) ∧
((((0 : Int) ≤ (IntKind.wrap IntKind.i64 (((n6 : Nat) : Int) - 1))) ∧
((IntKind.wrap IntKind.i64 (((n6 : Nat) : Int) - 1)) < ((n52 : Nat) : Int))) ∧
(∃ o55 : Option Addr, (∃ n56 : Nat, (∃ n57 : Nat, (((w37.cell? (Addr.add a54 (((IntKind.wrap IntKind.i64 (((n6 : Nat) : Int) - 1))).toNat * 1))) = (some (Value.slice o55 n56 n57))) ∧
((((decide (((n56 : Nat) : Int) > 0)) = true) →
((Nf.There w37 (⟨(hs w1), 0, none⟩ : Addr) 2) ∧
(∀ w59 : World, ((w59 = (Nf.setCells w37 (⟨(hs w1), 0, none⟩ : Addr) [(Value.string s39), (Value.slice o40 n41 n42)] 0)) →
((Nf.Kept w37 w59 (Addr.add a54 (((IntKind.wrap IntKind.i64 (((n6 : Nat) : Int) - 1))).toNat * 1)) 1) ∧
((Nf.Kept w37 w59 (⟨(hs w), 1, none⟩ : Addr) 1) ∧
(∃ s61 : ByteArray, (((w59.cell? (⟨(hs w1), 0, none⟩ : Addr)) = (some (Value.string s61))) ∧
(∃ o62 : Option Addr, (∃ n63 : Nat, (∃ n64 : Nat, (((w59.cell? (⟨(hs w1), 1, none⟩ : Addr)) = (some (Value.slice o62 n63 n64))) ∧
(R (Ending.returned (Value.tuple #[(Value.agg #[(Value.string s61), (Value.slice o62 n63 n64)]), (Value.bool true)])) w59))))))))))))) ∧
(((decide (((n56 : Nat) : Int) > 0)) = false) →
((Nf.There w37 (⟨(hs w1), 0, none⟩ : Addr) 2) ∧
(∀ w66 : World, ((w66 = (Nf.setCells w37 (⟨(hs w1), 0, none⟩ : Addr) [(Value.string s39), (Value.slice o40 n41 n42)] 0)) →
((Nf.Kept w37 w66 (Addr.add a54 (((IntKind.wrap IntKind.i64 (((n6 : Nat) : Int) - 1))).toNat * 1)) 1) ∧
((Nf.Kept w37 w66 (⟨(hs w), 1, none⟩ : Addr) 1) ∧
(∃ s68 : ByteArray, (((w66.cell? (⟨(hs w1), 0, none⟩ : Addr)) = (some (Value.string s68))) ∧
(∃ o69 : Option Addr, (∃ n70 : Nat, (∃ n71 : Nat, (((w66.cell? (⟨(hs w1), 1, none⟩ : Addr)) = (some (Value.slice o69 n70 n71))) ∧
(R (Ending.returned (Value.tuple #[(Value.agg #[(Value.string s68), (Value.slice o69 n70 n71)]), (Value.bool false)])) w66))))))))))))))))))))))))))))))))))))))))))))))))))))))))))))) ∧
(((Nf.strEq s s16) = false) →
((((decide (((n6 : Nat) : Int) = 0)) = true) →
(∃ s74 : ByteArray, (((w15.cell? (⟨(hs w), 0, none⟩ : Addr)) = (some (Value.string s74))) ∧
(∃ o75 : Option Addr, (∃ n76 : Nat, (∃ n77 : Nat, (((w15.cell? (⟨(hs w), 1, none⟩ : Addr)) = (some (Value.slice o75 n76 n77))) ∧
((Nf.There w15 (⟨(hs w1), 0, none⟩ : Addr) 2) ∧
(∀ w78 : World, ((w78 = (Nf.setCells w15 (⟨(hs w1), 0, none⟩ : Addr) [(Value.string s74), (Value.slice o75 n76 n77)] 0)) →
(∃ s80 : ByteArray, (((w78.cell? (⟨(hs w1), 0, none⟩ : Addr)) = (some (Value.string s80))) ∧
(∃ o81 : Option Addr, (∃ n82 : Nat, (∃ n83 : Nat, (((w78.cell? (⟨(hs w1), 1, none⟩ : Addr)) = (some (Value.slice o81 n82 n83))) ∧
(R (Ending.returned (Value.tuple #[(Value.agg #[(Value.string s80), (Value.slice o81 n82 n83)]), (Value.bool false)])) w78))))))))))))))))) ∧
(((decide (((n6 : Nat) : Int) = 0)) = false) →
((((decide ((((ByteArray.size s) : Nat) : Int) < 2)) = true) →
(∃ s86 : ByteArray, (((w15.cell? (⟨(hs w), 0, none⟩ : Addr)) = (some (Value.string s86))) ∧
(∃ o87 : Option Addr, (∃ n88 : Nat, (∃ n89 : Nat, (((w15.cell? (⟨(hs w), 1, none⟩ : Addr)) = (some (Value.slice o87 n88 n89))) ∧
((Nf.There w15 (⟨(hs w1), 0, none⟩ : Addr) 2) ∧
(∀ w90 : World, ((w90 = (Nf.setCells w15 (⟨(hs w1), 0, none⟩ : Addr) [(Value.string s86), (Value.slice o87 n88 n89)] 0)) →
(∃ s92 : ByteArray, (((w90.cell? (⟨(hs w1), 0, none⟩ : Addr)) = (some (Value.string s92))) ∧
(∃ o93 : Option Addr, (∃ n94 : Nat, (∃ n95 : Nat, (((w90.cell? (⟨(hs w1), 1, none⟩ : Addr)) = (some (Value.slice o93 n94 n95))) ∧
(R (Ending.returned (Value.tuple #[(Value.agg #[(Value.string s92), (Value.slice o93 n94 n95)]), (Value.bool false)])) w90))))))))))))))))) ∧
(((decide ((((ByteArray.size s) : Nat) : Int) < 2)) = false) →
((((0 : Int) ≤ 2) ∧
(2 ≤ (((ByteArray.size s) : Nat) : Int))) ∧
((((!(Nf.strEq (ByteArray.extract s 0 2) (ByteArray.mk #[(45 : UInt8), (32 : UInt8)]))) = true) →
(∃ s98 : ByteArray, (((w15.cell? (⟨(hs w), 0, none⟩ : Addr)) = (some (Value.string s98))) ∧
(∃ o99 : Option Addr, (∃ n100 : Nat, (∃ n101 : Nat, (((w15.cell? (⟨(hs w), 1, none⟩ : Addr)) = (some (Value.slice o99 n100 n101))) ∧
((Nf.There w15 (⟨(hs w1), 0, none⟩ : Addr) 2) ∧
(∀ w102 : World, ((w102 = (Nf.setCells w15 (⟨(hs w1), 0, none⟩ : Addr) [(Value.string s98), (Value.slice o99 n100 n101)] 0)) →
(∃ s104 : ByteArray, (((w102.cell? (⟨(hs w1), 0, none⟩ : Addr)) = (some (Value.string s104))) ∧
(∃ o105 : Option Addr, (∃ n106 : Nat, (∃ n107 : Nat, (((w102.cell? (⟨(hs w1), 1, none⟩ : Addr)) = (some (Value.slice o105 n106 n107))) ∧
(R (Ending.returned (Value.tuple #[(Value.agg #[(Value.string s104), (Value.slice o105 n106 n107)]), (Value.bool false)])) w102))))))))))))))))) ∧
(((!(Nf.strEq (ByteArray.extract s 0 2) (ByteArray.mk #[(45 : UInt8), (32 : UInt8)]))) = false) →
(∀ w109 : World, ((w109 = (w15.alloc (Obj.cells #[] 52 (0, 0)))) →
(∃ o111 : Option Addr, (∃ n112 : Nat, (∃ n113 : Nat, (((w109.cell? (⟨(hs w), 1, none⟩ : Addr)) = (some (Value.slice o111 n112 n113))) ∧
(RunOk Tryd.prog (Nf.Hold (Builtin.append_ #[30, 30] 30 #[(Value.slice (some (⟨(hs w15), 0, none⟩ : Addr)) 0 0), (Value.slice o111 n112 n113)])) w109 (fun (v114 : Value) => (fun (w115 : World) => (∃ o116 : Option Addr, (∃ n117 : Nat, (∃ n118 : Nat, ((v114 = (Value.slice o116 n117 n118)) ∧
(∀ w119 : World, ((w119 = w115.drew) →
(∃ a121 : Addr, ((o116 = (some a121)) ∧
((((0 : Int) ≤ (IntKind.wrap IntKind.i64 (((n6 : Nat) : Int) - 1))) ∧
((IntKind.wrap IntKind.i64 (((n6 : Nat) : Int) - 1)) < ((n117 : Nat) : Int))) ∧
(∃ o122 : Option Addr, (∃ n123 : Nat, (∃ n124 : Nat, (((w119.cell? (Addr.add a121 (((IntKind.wrap IntKind.i64 (((n6 : Nat) : Int) - 1))).toNat * 1))) = (some (Value.slice o122 n123 n124))) ∧
((((0 : Int) ≤ 2) ∧
(2 ≤ (((ByteArray.size s) : Nat) : Int))) ∧
((∀ w125 : World, ((w125 = (w119.alloc (Obj.cells #[] 9 (0, 0)))) →
((Nf.Kept w119 w125 (Addr.add a121 (((IntKind.wrap IntKind.i64 (((n6 : Nat) : Int) - 1))).toNat * 1)) 1) ∧
((RunOk Tryd.prog (Nf.Hold (Builtin.append_ #[52, 52] 52 #[(Value.slice (some (⟨(hs w119), 0, none⟩ : Addr)) 0 0), (Value.slice o122 n123 n124)])) w125 (fun (v127 : Value) => (fun (w128 : World) => (∃ o129 : Option Addr, (∃ n130 : Nat, (∃ n131 : Nat, ((v127 = (Value.slice o129 n130 n131)) ∧
(∀ w132 : World, ((w132 = (w128.alloc (Obj.cells #[(Value.string (ByteArray.extract s 2 (ByteArray.size s)))] 9 (0, 0)))) →
(RunOk Tryd.prog (Nf.Hold (Builtin.append_ #[52, 52] 52 #[(Value.slice o129 n130 n131), (Value.slice (some (⟨(hs w128), 0, none⟩ : Addr)) 1 1)])) w132 (fun (v134 : Value) => (fun (w135 : World) => (∃ o136 : Option Addr, (∃ n137 : Nat, (∃ n138 : Nat, ((v134 = (Value.slice o136 n137 n138)) ∧
(∃ a139 : Addr, ((o116 = (some a139)) ∧
((((0 : Int) ≤ (IntKind.wrap IntKind.i64 (((n6 : Nat) : Int) - 1))) ∧
((IntKind.wrap IntKind.i64 (((n6 : Nat) : Int) - 1)) < ((n117 : Nat) : Int))) ∧
((Nf.There w135 (Addr.add a139 (((IntKind.wrap IntKind.i64 (((n6 : Nat) : Int) - 1))).toNat * 1)) 1) ∧
(∀ w140 : World, ((w140 = (Nf.setCells w135 (Addr.add a139 (((IntKind.wrap IntKind.i64 (((n6 : Nat) : Int) - 1))).toNat * 1)) [(Value.slice o136 n137 n138)] 0)) →
((Nf.There w140 (⟨(hs w), 1, none⟩ : Addr) 1) ∧
(∀ w142 : World, ((w142 = (Nf.setCells w140 (⟨(hs w), 1, none⟩ : Addr) [(Value.slice o116 n117 n118)] 0)) →
(∀ w144 : World, ((w144 = w142.drew) →
(∃ s146 : ByteArray, (((w144.cell? (⟨(hs w), 0, none⟩ : Addr)) = (some (Value.string s146))) ∧
(∃ o147 : Option Addr, (∃ n148 : Nat, (∃ n149 : Nat, (((w144.cell? (⟨(hs w), 1, none⟩ : Addr)) = (some (Value.slice o147 n148 n149))) ∧
(∃ s150 : ByteArray, (((w144.cell? (⟨(hs w), 0, none⟩ : Addr)) = (some (Value.string s150))) ∧
(∃ o151 : Option Addr, (∃ n152 : Nat, (∃ n153 : Nat, (((w144.cell? (⟨(hs w), 1, none⟩ : Addr)) = (some (Value.slice o151 n152 n153))) ∧
(Calls Tryd.prog 18 #[(Value.agg #[(Value.string s150), (Value.slice o151 n152 n153)])] w144 (fun (e154 : Ending) => (fun (w155 : World) => (∃ x156 : Int, ((e154 = (Ending.returned (Value.int IntKind.i64 x156))) ∧
((Nf.Kept w144 w155 (⟨(hs w), 0, none⟩ : Addr) 2) ∧
((((decide (x156 = (-1))) = true) →
((Nf.There w155 (⟨(hs w1), 0, none⟩ : Addr) 2) ∧
(∀ w158 : World, ((w158 = (Nf.setCells w155 (⟨(hs w1), 0, none⟩ : Addr) [(Value.string s146), (Value.slice o147 n148 n149)] 0)) →
(∃ s160 : ByteArray, (((w158.cell? (⟨(hs w1), 0, none⟩ : Addr)) = (some (Value.string s160))) ∧
(∃ o161 : Option Addr, (∃ n162 : Nat, (∃ n163 : Nat, (((w158.cell? (⟨(hs w1), 1, none⟩ : Addr)) = (some (Value.slice o161 n162 n163))) ∧
(R (Ending.returned (Value.tuple #[(Value.agg #[(Value.string s160), (Value.slice o161 n162 n163)]), (Value.bool true)])) w158))))))))))) ∧
(((decide (x156 = (-1))) = false) →
((Nf.There w155 (⟨(hs w1), 0, none⟩ : Addr) 2) ∧
(∀ w165 : World, ((w165 = (Nf.setCells w155 (⟨(hs w1), 0, none⟩ : Addr) [(Value.string s146), (Value.slice o147 n148 n149)] 0)) →
(∃ s167 : ByteArray, (((w165.cell? (⟨(hs w1), 0, none⟩ : Addr)) = (some (Value.string s167))) ∧
(∃ o168 : Option Addr, (∃ n169 : Nat, (∃ n170 : Nat, (((w165.cell? (⟨(hs w1), 1, none⟩ : Addr)) = (some (Value.slice o168 n169 n170))) ∧
(R (Ending.returned (Value.tuple #[(Value.agg #[(Value.string s167), (Value.slice o168 n169 n170)]), (Value.bool false)])) w165))))))))))))))))))))))))))))))))))))))))))))))))))))))))) ∧
(∀ w171 : World, ((w171 = (w125.alloc (Obj.cells #[(Value.string (ByteArray.extract s 2 (ByteArray.size s)))] 9 (0, 0)))) →
((Nf.Kept w119 w171 (Addr.add a121 (((IntKind.wrap IntKind.i64 (((n6 : Nat) : Int) - 1))).toNat * 1)) 1) ∧
(RunOk Tryd.prog (Nf.Hold (Builtin.append_ #[52, 52] 52 #[(Value.slice (some (⟨(hs w119), 0, none⟩ : Addr)) 0 0), (Value.slice o122 n123 n124)])) w171 (fun (v173 : Value) => (fun (w174 : World) => (∃ o175 : Option Addr, (∃ n176 : Nat, (∃ n177 : Nat, ((v173 = (Value.slice o175 n176 n177)) ∧
(RunOk Tryd.prog (Nf.Hold (Builtin.append_ #[52, 52] 52 #[(Value.slice o175 n176 n177), (Value.slice (some (⟨(hs w125), 0, none⟩ : Addr)) 1 1)])) w174 (fun (v178 : Value) => (fun (w179 : World) => (∃ o180 : Option Addr, (∃ n181 : Nat, (∃ n182 : Nat, ((v178 = (Value.slice o180 n181 n182)) ∧
(∃ a183 : Addr, ((o116 = (some a183)) ∧
((((0 : Int) ≤ (IntKind.wrap IntKind.i64 (((n6 : Nat) : Int) - 1))) ∧
((IntKind.wrap IntKind.i64 (((n6 : Nat) : Int) - 1)) < ((n117 : Nat) : Int))) ∧
((Nf.There w179 (Addr.add a183 (((IntKind.wrap IntKind.i64 (((n6 : Nat) : Int) - 1))).toNat * 1)) 1) ∧
(∀ w184 : World, ((w184 = (Nf.setCells w179 (Addr.add a183 (((IntKind.wrap IntKind.i64 (((n6 : Nat) : Int) - 1))).toNat * 1)) [(Value.slice o180 n181 n182)] 0)) →
((Nf.There w184 (⟨(hs w), 1, none⟩ : Addr) 1) ∧
(∀ w186 : World, ((w186 = (Nf.setCells w184 (⟨(hs w), 1, none⟩ : Addr) [(Value.slice o116 n117 n118)] 0)) →
(∀ w188 : World, ((w188 = w186.drew) →
(∃ s190 : ByteArray, (((w188.cell? (⟨(hs w), 0, none⟩ : Addr)) = (some (Value.string s190))) ∧
(∃ o191 : Option Addr, (∃ n192 : Nat, (∃ n193 : Nat, (((w188.cell? (⟨(hs w), 1, none⟩ : Addr)) = (some (Value.slice o191 n192 n193))) ∧
(∃ s194 : ByteArray, (((w188.cell? (⟨(hs w), 0, none⟩ : Addr)) = (some (Value.string s194))) ∧
(∃ o195 : Option Addr, (∃ n196 : Nat, (∃ n197 : Nat, (((w188.cell? (⟨(hs w), 1, none⟩ : Addr)) = (some (Value.slice o195 n196 n197))) ∧
(Calls Tryd.prog 18 #[(Value.agg #[(Value.string s194), (Value.slice o195 n196 n197)])] w188 (fun (e198 : Ending) => (fun (w199 : World) => (∃ x200 : Int, ((e198 = (Ending.returned (Value.int IntKind.i64 x200))) ∧
((Nf.Kept w188 w199 (⟨(hs w), 0, none⟩ : Addr) 2) ∧
((((decide (x200 = (-1))) = true) →
((Nf.There w199 (⟨(hs w1), 0, none⟩ : Addr) 2) ∧
(∀ w202 : World, ((w202 = (Nf.setCells w199 (⟨(hs w1), 0, none⟩ : Addr) [(Value.string s190), (Value.slice o191 n192 n193)] 0)) →
(∃ s204 : ByteArray, (((w202.cell? (⟨(hs w1), 0, none⟩ : Addr)) = (some (Value.string s204))) ∧
(∃ o205 : Option Addr, (∃ n206 : Nat, (∃ n207 : Nat, (((w202.cell? (⟨(hs w1), 1, none⟩ : Addr)) = (some (Value.slice o205 n206 n207))) ∧
(R (Ending.returned (Value.tuple #[(Value.agg #[(Value.string s204), (Value.slice o205 n206 n207)]), (Value.bool true)])) w202))))))))))) ∧
(((decide (x200 = (-1))) = false) →
((Nf.There w199 (⟨(hs w1), 0, none⟩ : Addr) 2) ∧
(∀ w209 : World, ((w209 = (Nf.setCells w199 (⟨(hs w1), 0, none⟩ : Addr) [(Value.string s190), (Value.slice o191 n192 n193)] 0)) →
(∃ s211 : ByteArray, (((w209.cell? (⟨(hs w1), 0, none⟩ : Addr)) = (some (Value.string s211))) ∧
(∃ o212 : Option Addr, (∃ n213 : Nat, (∃ n214 : Nat, (((w209.cell? (⟨(hs w1), 1, none⟩ : Addr)) = (some (Value.slice o212 n213 n214))) ∧
(R (Ending.returned (Value.tuple #[(Value.agg #[(Value.string s211), (Value.slice o212 n213 n214)]), (Value.bool false)])) w209)))))))))))))))))))))))))))))))))))))))))))))))))))))))))))))) ∧
(∀ w215 : World, ((w215 = (w119.alloc (Obj.cells #[(Value.string (ByteArray.extract s 2 (ByteArray.size s)))] 9 (0, 0)))) →
((Nf.Kept w119 w215 (Addr.add a121 (((IntKind.wrap IntKind.i64 (((n6 : Nat) : Int) - 1))).toNat * 1)) 1) ∧
(∀ w217 : World, ((w217 = (w215.alloc (Obj.cells #[] 9 (0, 0)))) →
((Nf.Kept w119 w217 (Addr.add a121 (((IntKind.wrap IntKind.i64 (((n6 : Nat) : Int) - 1))).toNat * 1)) 1) ∧
(RunOk Tryd.prog (Nf.Hold (Builtin.append_ #[52, 52] 52 #[(Value.slice (some (⟨(hs w215), 0, none⟩ : Addr)) 0 0), (Value.slice o122 n123 n124)])) w217 (fun (v219 : Value) => (fun (w220 : World) => (∃ o221 : Option Addr, (∃ n222 : Nat, (∃ n223 : Nat, ((v219 = (Value.slice o221 n222 n223)) ∧
(RunOk Tryd.prog (Nf.Hold (Builtin.append_ #[52, 52] 52 #[(Value.slice o221 n222 n223), (Value.slice (some (⟨(hs w119), 0, none⟩ : Addr)) 1 1)])) w220 (fun (v224 : Value) => (fun (w225 : World) => (∃ o226 : Option Addr, (∃ n227 : Nat, (∃ n228 : Nat, ((v224 = (Value.slice o226 n227 n228)) ∧
(∃ a229 : Addr, ((o116 = (some a229)) ∧
((((0 : Int) ≤ (IntKind.wrap IntKind.i64 (((n6 : Nat) : Int) - 1))) ∧
((IntKind.wrap IntKind.i64 (((n6 : Nat) : Int) - 1)) < ((n117 : Nat) : Int))) ∧
((Nf.There w225 (Addr.add a229 (((IntKind.wrap IntKind.i64 (((n6 : Nat) : Int) - 1))).toNat * 1)) 1) ∧
(∀ w230 : World, ((w230 = (Nf.setCells w225 (Addr.add a229 (((IntKind.wrap IntKind.i64 (((n6 : Nat) : Int) - 1))).toNat * 1)) [(Value.slice o226 n227 n228)] 0)) →
((Nf.There w230 (⟨(hs w), 1, none⟩ : Addr) 1) ∧
(∀ w232 : World, ((w232 = (Nf.setCells w230 (⟨(hs w), 1, none⟩ : Addr) [(Value.slice o116 n117 n118)] 0)) →
(∀ w234 : World, ((w234 = w232.drew) →
(∃ s236 : ByteArray, (((w234.cell? (⟨(hs w), 0, none⟩ : Addr)) = (some (Value.string s236))) ∧
(∃ o237 : Option Addr, (∃ n238 : Nat, (∃ n239 : Nat, (((w234.cell? (⟨(hs w), 1, none⟩ : Addr)) = (some (Value.slice o237 n238 n239))) ∧
(∃ s240 : ByteArray, (((w234.cell? (⟨(hs w), 0, none⟩ : Addr)) = (some (Value.string s240))) ∧
(∃ o241 : Option Addr, (∃ n242 : Nat, (∃ n243 : Nat, (((w234.cell? (⟨(hs w), 1, none⟩ : Addr)) = (some (Value.slice o241 n242 n243))) ∧
(Calls Tryd.prog 18 #[(Value.agg #[(Value.string s240), (Value.slice o241 n242 n243)])] w234 (fun (e244 : Ending) => (fun (w245 : World) => (∃ x246 : Int, ((e244 = (Ending.returned (Value.int IntKind.i64 x246))) ∧
((Nf.Kept w234 w245 (⟨(hs w), 0, none⟩ : Addr) 2) ∧
((((decide (x246 = (-1))) = true) →
((Nf.There w245 (⟨(hs w1), 0, none⟩ : Addr) 2) ∧
(∀ w248 : World, ((w248 = (Nf.setCells w245 (⟨(hs w1), 0, none⟩ : Addr) [(Value.string s236), (Value.slice o237 n238 n239)] 0)) →
(∃ s250 : ByteArray, (((w248.cell? (⟨(hs w1), 0, none⟩ : Addr)) = (some (Value.string s250))) ∧
(∃ o251 : Option Addr, (∃ n252 : Nat, (∃ n253 : Nat, (((w248.cell? (⟨(hs w1), 1, none⟩ : Addr)) = (some (Value.slice o251 n252 n253))) ∧
(R (Ending.returned (Value.tuple #[(Value.agg #[(Value.string s250), (Value.slice o251 n252 n253)]), (Value.bool true)])) w248))))))))))) ∧
(((decide (x246 = (-1))) = false) →
((Nf.There w245 (⟨(hs w1), 0, none⟩ : Addr) 2) ∧
(∀ w255 : World, ((w255 = (Nf.setCells w245 (⟨(hs w1), 0, none⟩ : Addr) [(Value.string s236), (Value.slice o237 n238 n239)] 0)) →
(∃ s257 : ByteArray, (((w255.cell? (⟨(hs w1), 0, none⟩ : Addr)) = (some (Value.string s257))) ∧
(∃ o258 : Option Addr, (∃ n259 : Nat, (∃ n260 : Nat, (((w255.cell? (⟨(hs w1), 1, none⟩ : Addr)) = (some (Value.slice o258 n259 n260))) ∧
(R (Ending.returned (Value.tuple #[(Value.agg #[(Value.string s257), (Value.slice o258 n259 n260)]), (Value.bool false)])) w255))))))))))))))))))))))))))))))))))))))))))))))))))))))))))))))))))))))))))))))))))))))))))))))))))))))))))) ∧
(((decide (((n6 : Nat) : Int) < 5)) = false) →
((((decide (((n6 : Nat) : Int) = 0)) = true) →
(∃ s263 : ByteArray, (((w3.cell? (⟨(hs w), 0, none⟩ : Addr)) = (some (Value.string s263))) ∧
(∃ o264 : Option Addr, (∃ n265 : Nat, (∃ n266 : Nat, (((w3.cell? (⟨(hs w), 1, none⟩ : Addr)) = (some (Value.slice o264 n265 n266))) ∧
((Nf.There w3 (⟨(hs w1), 0, none⟩ : Addr) 2) ∧
(∀ w267 : World, ((w267 = (Nf.setCells w3 (⟨(hs w1), 0, none⟩ : Addr) [(Value.string s263), (Value.slice o264 n265 n266)] 0)) →
(∃ s269 : ByteArray, (((w267.cell? (⟨(hs w1), 0, none⟩ : Addr)) = (some (Value.string s269))) ∧
(∃ o270 : Option Addr, (∃ n271 : Nat, (∃ n272 : Nat, (((w267.cell? (⟨(hs w1), 1, none⟩ : Addr)) = (some (Value.slice o270 n271 n272))) ∧
(R (Ending.returned (Value.tuple #[(Value.agg #[(Value.string s269), (Value.slice o270 n271 n272)]), (Value.bool false)])) w267))))))))))))))))) ∧
(((decide (((n6 : Nat) : Int) = 0)) = false) →
((((decide ((((ByteArray.size s) : Nat) : Int) < 2)) = true) →
(∃ s275 : ByteArray, (((w3.cell? (⟨(hs w), 0, none⟩ : Addr)) = (some (Value.string s275))) ∧
(∃ o276 : Option Addr, (∃ n277 : Nat, (∃ n278 : Nat, (((w3.cell? (⟨(hs w), 1, none⟩ : Addr)) = (some (Value.slice o276 n277 n278))) ∧
((Nf.There w3 (⟨(hs w1), 0, none⟩ : Addr) 2) ∧
(∀ w279 : World, ((w279 = (Nf.setCells w3 (⟨(hs w1), 0, none⟩ : Addr) [(Value.string s275), (Value.slice o276 n277 n278)] 0)) →
(∃ s281 : ByteArray, (((w279.cell? (⟨(hs w1), 0, none⟩ : Addr)) = (some (Value.string s281))) ∧
(∃ o282 : Option Addr, (∃ n283 : Nat, (∃ n284 : Nat, (((w279.cell? (⟨(hs w1), 1, none⟩ : Addr)) = (some (Value.slice o282 n283 n284))) ∧
(R (Ending.returned (Value.tuple #[(Value.agg #[(Value.string s281), (Value.slice o282 n283 n284)]), (Value.bool false)])) w279))))))))))))))))) ∧
(((decide ((((ByteArray.size s) : Nat) : Int) < 2)) = false) →
((((0 : Int) ≤ 2) ∧
(2 ≤ (((ByteArray.size s) : Nat) : Int))) ∧
((((!(Nf.strEq (ByteArray.extract s 0 2) (ByteArray.mk #[(45 : UInt8), (32 : UInt8)]))) = true) →
(∃ s287 : ByteArray, (((w3.cell? (⟨(hs w), 0, none⟩ : Addr)) = (some (Value.string s287))) ∧
(∃ o288 : Option Addr, (∃ n289 : Nat, (∃ n290 : Nat, (((w3.cell? (⟨(hs w), 1, none⟩ : Addr)) = (some (Value.slice o288 n289 n290))) ∧
((Nf.There w3 (⟨(hs w1), 0, none⟩ : Addr) 2) ∧
(∀ w291 : World, ((w291 = (Nf.setCells w3 (⟨(hs w1), 0, none⟩ : Addr) [(Value.string s287), (Value.slice o288 n289 n290)] 0)) →
(∃ s293 : ByteArray, (((w291.cell? (⟨(hs w1), 0, none⟩ : Addr)) = (some (Value.string s293))) ∧
(∃ o294 : Option Addr, (∃ n295 : Nat, (∃ n296 : Nat, (((w291.cell? (⟨(hs w1), 1, none⟩ : Addr)) = (some (Value.slice o294 n295 n296))) ∧
(R (Ending.returned (Value.tuple #[(Value.agg #[(Value.string s293), (Value.slice o294 n295 n296)]), (Value.bool false)])) w291))))))))))))))))) ∧
(((!(Nf.strEq (ByteArray.extract s 0 2) (ByteArray.mk #[(45 : UInt8), (32 : UInt8)]))) = false) →
(∀ w298 : World, ((w298 = (w3.alloc (Obj.cells #[] 52 (0, 0)))) →
(∃ o300 : Option Addr, (∃ n301 : Nat, (∃ n302 : Nat, (((w298.cell? (⟨(hs w), 1, none⟩ : Addr)) = (some (Value.slice o300 n301 n302))) ∧
(RunOk Tryd.prog (Nf.Hold (Builtin.append_ #[30, 30] 30 #[(Value.slice (some (⟨(hs w3), 0, none⟩ : Addr)) 0 0), (Value.slice o300 n301 n302)])) w298 (fun (v303 : Value) => (fun (w304 : World) => (∃ o305 : Option Addr, (∃ n306 : Nat, (∃ n307 : Nat, ((v303 = (Value.slice o305 n306 n307)) ∧
(∀ w308 : World, ((w308 = w304.drew) →
(∃ a310 : Addr, ((o305 = (some a310)) ∧
((((0 : Int) ≤ (IntKind.wrap IntKind.i64 (((n6 : Nat) : Int) - 1))) ∧
((IntKind.wrap IntKind.i64 (((n6 : Nat) : Int) - 1)) < ((n306 : Nat) : Int))) ∧
(∃ o311 : Option Addr, (∃ n312 : Nat, (∃ n313 : Nat, (((w308.cell? (Addr.add a310 (((IntKind.wrap IntKind.i64 (((n6 : Nat) : Int) - 1))).toNat * 1))) = (some (Value.slice o311 n312 n313))) ∧
((((0 : Int) ≤ 2) ∧
(2 ≤ (((ByteArray.size s) : Nat) : Int))) ∧
((∀ w314 : World, ((w314 = (w308.alloc (Obj.cells #[] 9 (0, 0)))) →
((Nf.Kept w308 w314 (Addr.add a310 (((IntKind.wrap IntKind.i64 (((n6 : Nat) : Int) - 1))).toNat * 1)) 1) ∧
((RunOk Tryd.prog (Nf.Hold (Builtin.append_ #[52, 52] 52 #[(Value.slice (some (⟨(hs w308), 0, none⟩ : Addr)) 0 0), (Value.slice o311 n312 n313)])) w314 (fun (v316 : Value) => (fun (w317 : World) => (∃ o318 : Option Addr, (∃ n319 : Nat, (∃ n320 : Nat, ((v316 = (Value.slice o318 n319 n320)) ∧
(∀ w321 : World, ((w321 = (w317.alloc (Obj.cells #[(Value.string (ByteArray.extract s 2 (ByteArray.size s)))] 9 (0, 0)))) →
(RunOk Tryd.prog (Nf.Hold (Builtin.append_ #[52, 52] 52 #[(Value.slice o318 n319 n320), (Value.slice (some (⟨(hs w317), 0, none⟩ : Addr)) 1 1)])) w321 (fun (v323 : Value) => (fun (w324 : World) => (∃ o325 : Option Addr, (∃ n326 : Nat, (∃ n327 : Nat, ((v323 = (Value.slice o325 n326 n327)) ∧
(∃ a328 : Addr, ((o305 = (some a328)) ∧
((((0 : Int) ≤ (IntKind.wrap IntKind.i64 (((n6 : Nat) : Int) - 1))) ∧
((IntKind.wrap IntKind.i64 (((n6 : Nat) : Int) - 1)) < ((n306 : Nat) : Int))) ∧
((Nf.There w324 (Addr.add a328 (((IntKind.wrap IntKind.i64 (((n6 : Nat) : Int) - 1))).toNat * 1)) 1) ∧
(∀ w329 : World, ((w329 = (Nf.setCells w324 (Addr.add a328 (((IntKind.wrap IntKind.i64 (((n6 : Nat) : Int) - 1))).toNat * 1)) [(Value.slice o325 n326 n327)] 0)) →
((Nf.There w329 (⟨(hs w), 1, none⟩ : Addr) 1) ∧
(∀ w331 : World, ((w331 = (Nf.setCells w329 (⟨(hs w), 1, none⟩ : Addr) [(Value.slice o305 n306 n307)] 0)) →
(∀ w333 : World, ((w333 = w331.drew) →
(∃ s335 : ByteArray, (((w333.cell? (⟨(hs w), 0, none⟩ : Addr)) = (some (Value.string s335))) ∧
(∃ o336 : Option Addr, (∃ n337 : Nat, (∃ n338 : Nat, (((w333.cell? (⟨(hs w), 1, none⟩ : Addr)) = (some (Value.slice o336 n337 n338))) ∧
(∃ s339 : ByteArray, (((w333.cell? (⟨(hs w), 0, none⟩ : Addr)) = (some (Value.string s339))) ∧
(∃ o340 : Option Addr, (∃ n341 : Nat, (∃ n342 : Nat, (((w333.cell? (⟨(hs w), 1, none⟩ : Addr)) = (some (Value.slice o340 n341 n342))) ∧
(Calls Tryd.prog 18 #[(Value.agg #[(Value.string s339), (Value.slice o340 n341 n342)])] w333 (fun (e343 : Ending) => (fun (w344 : World) => (∃ x345 : Int, ((e343 = (Ending.returned (Value.int IntKind.i64 x345))) ∧
((Nf.Kept w333 w344 (⟨(hs w), 0, none⟩ : Addr) 2) ∧
((((decide (x345 = (-1))) = true) →
((Nf.There w344 (⟨(hs w1), 0, none⟩ : Addr) 2) ∧
(∀ w347 : World, ((w347 = (Nf.setCells w344 (⟨(hs w1), 0, none⟩ : Addr) [(Value.string s335), (Value.slice o336 n337 n338)] 0)) →
(∃ s349 : ByteArray, (((w347.cell? (⟨(hs w1), 0, none⟩ : Addr)) = (some (Value.string s349))) ∧
(∃ o350 : Option Addr, (∃ n351 : Nat, (∃ n352 : Nat, (((w347.cell? (⟨(hs w1), 1, none⟩ : Addr)) = (some (Value.slice o350 n351 n352))) ∧
(R (Ending.returned (Value.tuple #[(Value.agg #[(Value.string s349), (Value.slice o350 n351 n352)]), (Value.bool true)])) w347))))))))))) ∧
(((decide (x345 = (-1))) = false) →
((Nf.There w344 (⟨(hs w1), 0, none⟩ : Addr) 2) ∧
(∀ w354 : World, ((w354 = (Nf.setCells w344 (⟨(hs w1), 0, none⟩ : Addr) [(Value.string s335), (Value.slice o336 n337 n338)] 0)) →
(∃ s356 : ByteArray, (((w354.cell? (⟨(hs w1), 0, none⟩ : Addr)) = (some (Value.string s356))) ∧
(∃ o357 : Option Addr, (∃ n358 : Nat, (∃ n359 : Nat, (((w354.cell? (⟨(hs w1), 1, none⟩ : Addr)) = (some (Value.slice o357 n358 n359))) ∧
(R (Ending.returned (Value.tuple #[(Value.agg #[(Value.string s356), (Value.slice o357 n358 n359)]), (Value.bool false)])) w354))))))))))))))))))))))))))))))))))))))))))))))))))))))))) ∧
(∀ w360 : World, ((w360 = (w314.alloc (Obj.cells #[(Value.string (ByteArray.extract s 2 (ByteArray.size s)))] 9 (0, 0)))) →
((Nf.Kept w308 w360 (Addr.add a310 (((IntKind.wrap IntKind.i64 (((n6 : Nat) : Int) - 1))).toNat * 1)) 1) ∧
(RunOk Tryd.prog (Nf.Hold (Builtin.append_ #[52, 52] 52 #[(Value.slice (some (⟨(hs w308), 0, none⟩ : Addr)) 0 0), (Value.slice o311 n312 n313)])) w360 (fun (v362 : Value) => (fun (w363 : World) => (∃ o364 : Option Addr, (∃ n365 : Nat, (∃ n366 : Nat, ((v362 = (Value.slice o364 n365 n366)) ∧
(RunOk Tryd.prog (Nf.Hold (Builtin.append_ #[52, 52] 52 #[(Value.slice o364 n365 n366), (Value.slice (some (⟨(hs w314), 0, none⟩ : Addr)) 1 1)])) w363 (fun (v367 : Value) => (fun (w368 : World) => (∃ o369 : Option Addr, (∃ n370 : Nat, (∃ n371 : Nat, ((v367 = (Value.slice o369 n370 n371)) ∧
(∃ a372 : Addr, ((o305 = (some a372)) ∧
((((0 : Int) ≤ (IntKind.wrap IntKind.i64 (((n6 : Nat) : Int) - 1))) ∧
((IntKind.wrap IntKind.i64 (((n6 : Nat) : Int) - 1)) < ((n306 : Nat) : Int))) ∧
((Nf.There w368 (Addr.add a372 (((IntKind.wrap IntKind.i64 (((n6 : Nat) : Int) - 1))).toNat * 1)) 1) ∧
(∀ w373 : World, ((w373 = (Nf.setCells w368 (Addr.add a372 (((IntKind.wrap IntKind.i64 (((n6 : Nat) : Int) - 1))).toNat * 1)) [(Value.slice o369 n370 n371)] 0)) →
((Nf.There w373 (⟨(hs w), 1, none⟩ : Addr) 1) ∧
(∀ w375 : World, ((w375 = (Nf.setCells w373 (⟨(hs w), 1, none⟩ : Addr) [(Value.slice o305 n306 n307)] 0)) →
(∀ w377 : World, ((w377 = w375.drew) →
(∃ s379 : ByteArray, (((w377.cell? (⟨(hs w), 0, none⟩ : Addr)) = (some (Value.string s379))) ∧
(∃ o380 : Option Addr, (∃ n381 : Nat, (∃ n382 : Nat, (((w377.cell? (⟨(hs w), 1, none⟩ : Addr)) = (some (Value.slice o380 n381 n382))) ∧
(∃ s383 : ByteArray, (((w377.cell? (⟨(hs w), 0, none⟩ : Addr)) = (some (Value.string s383))) ∧
(∃ o384 : Option Addr, (∃ n385 : Nat, (∃ n386 : Nat, (((w377.cell? (⟨(hs w), 1, none⟩ : Addr)) = (some (Value.slice o384 n385 n386))) ∧
(Calls Tryd.prog 18 #[(Value.agg #[(Value.string s383), (Value.slice o384 n385 n386)])] w377 (fun (e387 : Ending) => (fun (w388 : World) => (∃ x389 : Int, ((e387 = (Ending.returned (Value.int IntKind.i64 x389))) ∧
((Nf.Kept w377 w388 (⟨(hs w), 0, none⟩ : Addr) 2) ∧
((((decide (x389 = (-1))) = true) →
((Nf.There w388 (⟨(hs w1), 0, none⟩ : Addr) 2) ∧
(∀ w391 : World, ((w391 = (Nf.setCells w388 (⟨(hs w1), 0, none⟩ : Addr) [(Value.string s379), (Value.slice o380 n381 n382)] 0)) →
(∃ s393 : ByteArray, (((w391.cell? (⟨(hs w1), 0, none⟩ : Addr)) = (some (Value.string s393))) ∧
(∃ o394 : Option Addr, (∃ n395 : Nat, (∃ n396 : Nat, (((w391.cell? (⟨(hs w1), 1, none⟩ : Addr)) = (some (Value.slice o394 n395 n396))) ∧
(R (Ending.returned (Value.tuple #[(Value.agg #[(Value.string s393), (Value.slice o394 n395 n396)]), (Value.bool true)])) w391))))))))))) ∧
(((decide (x389 = (-1))) = false) →
((Nf.There w388 (⟨(hs w1), 0, none⟩ : Addr) 2) ∧
(∀ w398 : World, ((w398 = (Nf.setCells w388 (⟨(hs w1), 0, none⟩ : Addr) [(Value.string s379), (Value.slice o380 n381 n382)] 0)) →
(∃ s400 : ByteArray, (((w398.cell? (⟨(hs w1), 0, none⟩ : Addr)) = (some (Value.string s400))) ∧
(∃ o401 : Option Addr, (∃ n402 : Nat, (∃ n403 : Nat, (((w398.cell? (⟨(hs w1), 1, none⟩ : Addr)) = (some (Value.slice o401 n402 n403))) ∧
(R (Ending.returned (Value.tuple #[(Value.agg #[(Value.string s400), (Value.slice o401 n402 n403)]), (Value.bool false)])) w398)))))))))))))))))))))))))))))))))))))))))))))))))))))))))))))) ∧
(∀ w404 : World, ((w404 = (w308.alloc (Obj.cells #[(Value.string (ByteArray.extract s 2 (ByteArray.size s)))] 9 (0, 0)))) →
((Nf.Kept w308 w404 (Addr.add a310 (((IntKind.wrap IntKind.i64 (((n6 : Nat) : Int) - 1))).toNat * 1)) 1) ∧
(∀ w406 : World, ((w406 = (w404.alloc (Obj.cells #[] 9 (0, 0)))) →
((Nf.Kept w308 w406 (Addr.add a310 (((IntKind.wrap IntKind.i64 (((n6 : Nat) : Int) - 1))).toNat * 1)) 1) ∧
(RunOk Tryd.prog (Nf.Hold (Builtin.append_ #[52, 52] 52 #[(Value.slice (some (⟨(hs w404), 0, none⟩ : Addr)) 0 0), (Value.slice o311 n312 n313)])) w406 (fun (v408 : Value) => (fun (w409 : World) => (∃ o410 : Option Addr, (∃ n411 : Nat, (∃ n412 : Nat, ((v408 = (Value.slice o410 n411 n412)) ∧
(RunOk Tryd.prog (Nf.Hold (Builtin.append_ #[52, 52] 52 #[(Value.slice o410 n411 n412), (Value.slice (some (⟨(hs w308), 0, none⟩ : Addr)) 1 1)])) w409 (fun (v413 : Value) => (fun (w414 : World) => (∃ o415 : Option Addr, (∃ n416 : Nat, (∃ n417 : Nat, ((v413 = (Value.slice o415 n416 n417)) ∧
(∃ a418 : Addr, ((o305 = (some a418)) ∧
((((0 : Int) ≤ (IntKind.wrap IntKind.i64 (((n6 : Nat) : Int) - 1))) ∧
((IntKind.wrap IntKind.i64 (((n6 : Nat) : Int) - 1)) < ((n306 : Nat) : Int))) ∧
((Nf.There w414 (Addr.add a418 (((IntKind.wrap IntKind.i64 (((n6 : Nat) : Int) - 1))).toNat * 1)) 1) ∧
(∀ w419 : World, ((w419 = (Nf.setCells w414 (Addr.add a418 (((IntKind.wrap IntKind.i64 (((n6 : Nat) : Int) - 1))).toNat * 1)) [(Value.slice o415 n416 n417)] 0)) →
((Nf.There w419 (⟨(hs w), 1, none⟩ : Addr) 1) ∧
(∀ w421 : World, ((w421 = (Nf.setCells w419 (⟨(hs w), 1, none⟩ : Addr) [(Value.slice o305 n306 n307)] 0)) →
(∀ w423 : World, ((w423 = w421.drew) →
(∃ s425 : ByteArray, (((w423.cell? (⟨(hs w), 0, none⟩ : Addr)) = (some (Value.string s425))) ∧
(∃ o426 : Option Addr, (∃ n427 : Nat, (∃ n428 : Nat, (((w423.cell? (⟨(hs w), 1, none⟩ : Addr)) = (some (Value.slice o426 n427 n428))) ∧
(∃ s429 : ByteArray, (((w423.cell? (⟨(hs w), 0, none⟩ : Addr)) = (some (Value.string s429))) ∧
(∃ o430 : Option Addr, (∃ n431 : Nat, (∃ n432 : Nat, (((w423.cell? (⟨(hs w), 1, none⟩ : Addr)) = (some (Value.slice o430 n431 n432))) ∧
(Calls Tryd.prog 18 #[(Value.agg #[(Value.string s429), (Value.slice o430 n431 n432)])] w423 (fun (e433 : Ending) => (fun (w434 : World) => (∃ x435 : Int, ((e433 = (Ending.returned (Value.int IntKind.i64 x435))) ∧
((Nf.Kept w423 w434 (⟨(hs w), 0, none⟩ : Addr) 2) ∧
((((decide (x435 = (-1))) = true) →
((Nf.There w434 (⟨(hs w1), 0, none⟩ : Addr) 2) ∧
(∀ w437 : World, ((w437 = (Nf.setCells w434 (⟨(hs w1), 0, none⟩ : Addr) [(Value.string s425), (Value.slice o426 n427 n428)] 0)) →
(∃ s439 : ByteArray, (((w437.cell? (⟨(hs w1), 0, none⟩ : Addr)) = (some (Value.string s439))) ∧
(∃ o440 : Option Addr, (∃ n441 : Nat, (∃ n442 : Nat, (((w437.cell? (⟨(hs w1), 1, none⟩ : Addr)) = (some (Value.slice o440 n441 n442))) ∧
(R (Ending.returned (Value.tuple #[(Value.agg #[(Value.string s439), (Value.slice o440 n441 n442)]), (Value.bool true)])) w437))))))))))) ∧
(((decide (x435 = (-1))) = false) →
((Nf.There w434 (⟨(hs w1), 0, none⟩ : Addr) 2) ∧
(∀ w444 : World, ((w444 = (Nf.setCells w434 (⟨(hs w1), 0, none⟩ : Addr) [(Value.string s425), (Value.slice o426 n427 n428)] 0)) →
(∃ s446 : ByteArray, (((w444.cell? (⟨(hs w1), 0, none⟩ : Addr)) = (some (Value.string s446))) ∧
(∃ o447 : Option Addr, (∃ n448 : Nat, (∃ n449 : Nat, (((w444.cell? (⟨(hs w1), 1, none⟩ : Addr)) = (some (Value.slice o447 n448 n449))) ∧
(R (Ending.returned (Value.tuple #[(Value.agg #[(Value.string s446), (Value.slice o447 n448 n449)]), (Value.bool false)])) w444))))))))))))))))))))))))))))))))))))))))))))))))))))))))))))))))))))))))))))))))))))))))))))))))))))))) :
    Calls Tryd.prog 55 #[(.agg #[(.string p_Name), (.slice p_Steps p_Steps_n p_Steps_c)]), (.string s)] w R :=
  calls_of_vc an55 Tryd.func55 rfl (by kernel_rfl) (by kernel_rfl) (Eq.mp (by kernel_rfl) h)

/-- samaritan/samaritanlaw45.awake -/
def an11 : An := (.seq (.reg []) (.seq (.reg []) (.seq (.reg []) (.seq (.seq (.reg [(1, 3, true), (4, 0, true)]) (.cond (.seq (.reg []) .nil) .nil)) (.seq (.reg []) (.seq (.reg []) (.seq (.reg []) (.seq (.reg []) (.seq (.reg []) (.seq (.reg []) (.seq (.reg []) (.seq (.reg []) (.seq (.reg []) (.seq (.reg [(1, 0, true), (5, 0, true), (10, 0, true), (14, 0, true), (19, 0, true), (24, 0, true), (29, 0, true), (34, 0, true), (38, 3, true), (42, 0, true), (48, 0, true), (52, 0, true), (56, 0, true), (61, 0, true), (68, 0, true), (74, 0, true)]) .nil))))))))))))))
set_option maxRecDepth 100000 in
theorem nf11  (w : World) (R : Ending → World → Prop) (h :
(Calls Tryd.prog 34 #[] w (fun (e1 : Ending) => (fun (w2 : World) => (∃ s3 : ByteArray, (∃ o4 : Option Addr, (∃ n5 : Nat, (∃ n6 : Nat, ((e1 = (Ending.returned (Value.agg #[(Value.string s3), (Value.slice o4 n5 n6)]))) ∧
(Calls Tryd.prog 17 #[(Value.agg #[(Value.string s3), (Value.slice o4 n5 n6)])] w2 (fun (e7 : Ending) => (fun (w8 : World) => (∃ s9 : ByteArray, (∃ o10 : Option Addr, (∃ n11 : Nat, (∃ n12 : Nat, ((e7 = (Ending.returned (Value.agg #[(Value.string s9), (Value.slice o10 n11 n12)]))) ∧
(Calls Tryd.prog 19 #[(Value.agg #[(Value.string s9), (Value.slice o10 n11 n12)]), (Value.int IntKind.i64 10), (Value.bool false)] w8 (fun (e13 : Ending) => (fun (w14 : World) => (∃ o15 : Option Addr, (∃ x16 : Int, ((e13 = (Ending.returned (Value.tuple #[(Value.pointer o15), (Value.int IntKind.i64 x16)]))) ∧
(Calls Tryd.prog 19 #[(Value.agg #[(Value.string (ByteArray.mk #[])), (Value.slice none 0 0)]), (Value.int IntKind.i64 10), (Value.bool false)] w14 (fun (e17 : Ending) => (fun (w18 : World) => (∃ o19 : Option Addr, (∃ x20 : Int, ((e17 = (Ending.returned (Value.tuple #[(Value.pointer o19), (Value.int IntKind.i64 x20)]))) ∧
((((Option.isNone o15) = true) →
(R (Ending.returned (Value.bool false)) w18)) ∧
(((Option.isNone o15) = false) →
((((!(decide (x16 = 0))) = true) →
(R (Ending.returned (Value.bool false)) w18)) ∧
(((!(decide (x16 = 0))) = false) →
(Calls Tryd.prog 24 #[(Value.pointer o15), (Value.int IntKind.i64 2), (Value.int IntKind.i64 0)] w18 (fun (e25 : Ending) => (fun (w26 : World) => (∃ o27 : Option Addr, (∃ n28 : Nat, (∃ n29 : Nat, ((e25 = (Ending.returned (Value.slice o27 n28 n29))) ∧
(Calls Tryd.prog 24 #[(Value.pointer o15), (Value.int IntKind.i64 0), (Value.int IntKind.i64 5)] w26 (fun (e30 : Ending) => (fun (w31 : World) => (∃ o32 : Option Addr, (∃ n33 : Nat, (∃ n34 : Nat, ((e30 = (Ending.returned (Value.slice o32 n33 n34))) ∧
(Calls Tryd.prog 24 #[(Value.pointer o15), (Value.int IntKind.i64 1), (Value.int IntKind.i64 14)] w31 (fun (e35 : Ending) => (fun (w36 : World) => (∃ o37 : Option Addr, (∃ n38 : Nat, (∃ n39 : Nat, ((e35 = (Ending.returned (Value.slice o37 n38 n39))) ∧
(Calls Tryd.prog 26 #[(Value.pointer o15)] w36 (fun (e40 : Ending) => (fun (w41 : World) => (∃ x42 : Int, ((e40 = (Ending.returned (Value.int IntKind.i64 x42))) ∧
(Calls Tryd.prog 24 #[(Value.pointer o15), (Value.int IntKind.i64 1), (Value.int IntKind.i64 15)] w41 (fun (e43 : Ending) => (fun (w44 : World) => (∃ o45 : Option Addr, (∃ n46 : Nat, (∃ n47 : Nat, ((e43 = (Ending.returned (Value.slice o45 n46 n47))) ∧
(Calls Tryd.prog 27 #[(Value.pointer o15)] w44 (fun (e48 : Ending) => (fun (w49 : World) => (∃ o50 : Option Addr, (∃ n51 : Nat, (∃ n52 : Nat, ((e48 = (Ending.returned (Value.slice o50 n51 n52))) ∧
(Calls Tryd.prog 34 #[] w49 (fun (e53 : Ending) => (fun (w54 : World) => (∃ s55 : ByteArray, (∃ o56 : Option Addr, (∃ n57 : Nat, (∃ n58 : Nat, ((e53 = (Ending.returned (Value.agg #[(Value.string s55), (Value.slice o56 n57 n58)]))) ∧
(Calls Tryd.prog 17 #[(Value.agg #[(Value.string s55), (Value.slice o56 n57 n58)])] w54 (fun (e59 : Ending) => (fun (w60 : World) => (∃ s61 : ByteArray, (∃ o62 : Option Addr, (∃ n63 : Nat, (∃ n64 : Nat, ((e59 = (Ending.returned (Value.agg #[(Value.string s61), (Value.slice o62 n63 n64)]))) ∧
(Calls Tryd.prog 28 #[(Value.agg #[(Value.string s61), (Value.slice o62 n63 n64)])] w60 (fun (e65 : Ending) => (fun (w66 : World) => (∃ s67 : ByteArray, (∃ x68 : Int, ((e65 = (Ending.returned (Value.tuple #[(Value.string s67), (Value.int IntKind.i64 x68)]))) ∧
(Calls Tryd.prog 30 #[(Value.string s67)] w66 (fun (e69 : Ending) => (fun (w70 : World) => (∃ s71 : ByteArray, (∃ o72 : Option Addr, (∃ n73 : Nat, (∃ n74 : Nat, (∃ x75 : Int, (∃ x76 : Int, ((e69 = (Ending.returned (Value.tuple #[(Value.agg #[(Value.string s71), (Value.slice o72 n73 n74)]), (Value.int IntKind.i64 x75), (Value.int IntKind.i64 x76)]))) ∧
(∀ w77 : World, ((w77 = (w70.alloc (Obj.cells #[(Value.string (ByteArray.mk #[])), (Value.slice none 0 0)] 35 (0, 0)))) →
((Nf.There w77 (⟨(hs w70), 0, none⟩ : Addr) 2) ∧
(∀ w79 : World, ((w79 = (Nf.setCells w77 (⟨(hs w70), 0, none⟩ : Addr) [(Value.string s71), (Value.slice o72 n73 n74)] 0)) →
(∀ w81 : World, ((w81 = (w79.alloc (Obj.cells #[(Value.int IntKind.i64 4), (Value.int IntKind.i64 1), (Value.string (ByteArray.mk #[(102 : UInt8), (105 : UInt8), (114 : UInt8), (101 : UInt8)])), (Value.slice none 0 0), (Value.int IntKind.i64 0), (Value.int IntKind.i64 0), (Value.slice none 0 0), (Value.slice none 0 0), (Value.int IntKind.i64 0), (Value.bool false)] 74 (0, 0)))) →
((((decide (x20 = 1)) = true) →
(∀ w84 : World, ((w84 = (w81.alloc (Obj.cells #[(Value.string (ByteArray.mk #[(99 : UInt8), (97 : UInt8), (108 : UInt8), (108 : UInt8), (32 : UInt8), (105 : UInt8), (110 : UInt8)])), (Value.string (ByteArray.mk #[(111 : UInt8), (112 : UInt8), (101 : UInt8), (110 : UInt8), (32 : UInt8), (104 : UInt8), (97 : UInt8), (108 : UInt8), (108 : UInt8)]))] 9 (0, 0)))) →
(Calls Tryd.prog 23 #[(Value.slice o27 n28 n29), (Value.slice (some (⟨(hs w81), 0, none⟩ : Addr)) 2 2)] w84 (fun (e86 : Ending) => (fun (w87 : World) => (∃ b88 : Bool, ((e86 = (Ending.returned (Value.bool b88))) ∧
(((b88 = true) →
((((decide (((n33 : Nat) : Int) = 0)) = true) →
((((decide (x42 = 2)) = true) →
(Calls Tryd.prog 26 #[(Value.pointer o15)] w87 (fun (e92 : Ending) => (fun (w93 : World) => (∃ x94 : Int, ((e92 = (Ending.returned (Value.int IntKind.i64 x94))) ∧
((((decide (x94 = 1)) = true) →
(∀ w96 : World, ((w96 = (w93.alloc (Obj.cells #[(Value.string (ByteArray.mk #[(99 : UInt8), (97 : UInt8), (108 : UInt8), (108 : UInt8), (32 : UInt8), (105 : UInt8), (110 : UInt8)]))] 9 (0, 0)))) →
(Calls Tryd.prog 23 #[(Value.slice o50 n51 n52), (Value.slice (some (⟨(hs w93), 0, none⟩ : Addr)) 1 1)] w96 (fun (e98 : Ending) => (fun (w99 : World) => (∃ b100 : Bool, ((e98 = (Ending.returned (Value.bool b100))) ∧
(((b100 = true) →
(Calls Tryd.prog 21 #[(Value.pointer o15), (Value.string (ByteArray.mk #[(111 : UInt8), (112 : UInt8), (101 : UInt8), (110 : UInt8), (32 : UInt8), (104 : UInt8), (97 : UInt8), (108 : UInt8), (108 : UInt8)]))] w99 (fun (e102 : Ending) => (fun (w103 : World) => (∃ x104 : Int, ((e102 = (Ending.returned (Value.int IntKind.i64 x104))) ∧
((((decide (x104 = 4)) = true) →
(Calls Tryd.prog 21 #[(Value.pointer o15), (Value.string (ByteArray.mk #[(99 : UInt8), (97 : UInt8), (108 : UInt8), (108 : UInt8), (32 : UInt8), (105 : UInt8), (110 : UInt8)]))] w103 (fun (e106 : Ending) => (fun (w107 : World) => (∃ x108 : Int, ((e106 = (Ending.returned (Value.int IntKind.i64 x108))) ∧
((((decide (x108 = 0)) = true) →
((((Nf.strEq s67 (ByteArray.mk #[(112 : UInt8), (108 : UInt8), (97 : UInt8), (110 : UInt8), (32 : UInt8), (104 : UInt8), (97 : UInt8), (108 : UInt8), (108 : UInt8), (10 : UInt8), (108 : UInt8), (101 : UInt8), (118 : UInt8), (101 : UInt8), (108 : UInt8), (32 : UInt8), (49 : UInt8), (10 : UInt8), (45 : UInt8), (32 : UInt8), (99 : UInt8), (97 : UInt8), (108 : UInt8), (108 : UInt8), (32 : UInt8), (105 : UInt8), (110 : UInt8), (10 : UInt8), (108 : UInt8), (101 : UInt8), (118 : UInt8), (101 : UInt8), (108 : UInt8), (32 : UInt8), (50 : UInt8), (10 : UInt8), (45 : UInt8), (32 : UInt8), (111 : UInt8), (112 : UInt8), (101 : UInt8), (110 : UInt8), (32 : UInt8), (104 : UInt8), (97 : UInt8), (108 : UInt8), (108 : UInt8), (10 : UInt8)])) = true) →
((((decide (x68 = 0)) = true) →
(∃ s112 : ByteArray, (((w107.cell? (⟨(hs w70), 0, none⟩ : Addr)) = (some (Value.string s112))) ∧
(∃ o113 : Option Addr, (∃ n114 : Nat, (∃ n115 : Nat, (((w107.cell? (⟨(hs w70), 1, none⟩ : Addr)) = (some (Value.slice o113 n114 n115))) ∧
(Calls Tryd.prog 32 #[(Value.agg #[(Value.string s112), (Value.slice o113 n114 n115)])] w107 (fun (e116 : Ending) => (fun (w117 : World) => (∃ s118 : ByteArray, (∃ o119 : Option Addr, (∃ n120 : Nat, (∃ n121 : Nat, ((e116 = (Ending.returned (Value.agg #[(Value.string s118), (Value.slice o119 n120 n121)]))) ∧
(Calls Tryd.prog 34 #[] w117 (fun (e122 : Ending) => (fun (w123 : World) => (∃ s124 : ByteArray, (∃ o125 : Option Addr, (∃ n126 : Nat, (∃ n127 : Nat, ((e122 = (Ending.returned (Value.agg #[(Value.string s124), (Value.slice o125 n126 n127)]))) ∧
(Calls Tryd.prog 31 #[(Value.agg #[(Value.string s118), (Value.slice o119 n120 n121)]), (Value.agg #[(Value.string s124), (Value.slice o125 n126 n127)])] w123 (fun (e128 : Ending) => (fun (w129 : World) => (∃ b130 : Bool, ((e128 = (Ending.returned (Value.bool b130))) ∧
(((b130 = true) →
((((decide (x75 = 0)) = true) →
((((decide (x76 = 0)) = true) →
(Calls Tryd.prog 13 #[(Value.slice (some (⟨(hs w79), 0, none⟩ : Addr)) 1 1), (Value.slice none 0 0), (Value.slice none 0 0)] w129 (fun (e134 : Ending) => (fun (w135 : World) => (∃ x136 : Int, ((e134 = (Ending.returned (Value.int IntKind.i64 x136))) ∧
((((decide (x136 = 1)) = true) →
(∀ w138 : World, ((w138 = (w135.alloc (Obj.cells #[(Value.int IntKind.i64 0), (Value.int IntKind.i64 1), (Value.int IntKind.i64 0), (Value.int IntKind.i64 1), (Value.int IntKind.i64 0), (Value.int IntKind.i64 0), (Value.int IntKind.i64 0), (Value.int IntKind.i64 0), (Value.int IntKind.i64 0), (Value.int IntKind.i64 0)] 29 (0, 0)))) →
(Calls Tryd.prog 13 #[(Value.slice (some (⟨(hs w79), 0, none⟩ : Addr)) 1 1), (Value.slice (some (⟨(hs w135), 0, none⟩ : Addr)) 1 1), (Value.slice none 0 0)] w138 (fun (e140 : Ending) => (fun (w141 : World) => (∃ x142 : Int, ((e140 = (Ending.returned (Value.int IntKind.i64 x142))) ∧
((((decide (x142 = 0)) = true) →
(Calls Tryd.prog 34 #[] w141 (fun (e144 : Ending) => (fun (w145 : World) => (∃ s146 : ByteArray, (∃ o147 : Option Addr, (∃ n148 : Nat, (∃ n149 : Nat, ((e144 = (Ending.returned (Value.agg #[(Value.string s146), (Value.slice o147 n148 n149)]))) ∧
(Calls Tryd.prog 17 #[(Value.agg #[(Value.string s146), (Value.slice o147 n148 n149)])] w145 (fun (e150 : Ending) => (fun (w151 : World) => (∃ s152 : ByteArray, (∃ o153 : Option Addr, (∃ n154 : Nat, (∃ n155 : Nat, ((e150 = (Ending.returned (Value.agg #[(Value.string s152), (Value.slice o153 n154 n155)]))) ∧
(Calls Tryd.prog 16 #[(Value.agg #[(Value.string s152), (Value.slice o153 n154 n155)])] w151 (fun (e156 : Ending) => (fun (w157 : World) => (∃ x158 : Int, ((e156 = (Ending.returned (Value.int IntKind.i64 x158))) ∧
((((decide (x158 = (-1))) = true) →
(R (Ending.returned (Value.bool true)) w157)) ∧
(((decide (x158 = (-1))) = false) →
(R (Ending.returned (Value.bool false)) w157))))))))))))))))))))))))) ∧
(((decide (x142 = 0)) = false) →
(R (Ending.returned (Value.bool false)) w141))))))))))) ∧
(((decide (x136 = 1)) = false) →
(R (Ending.returned (Value.bool false)) w135))))))))) ∧
(((decide (x76 = 0)) = false) →
(R (Ending.returned (Value.bool false)) w129)))) ∧
(((decide (x75 = 0)) = false) →
(R (Ending.returned (Value.bool false)) w129)))) ∧
((b130 = false) →
(R (Ending.returned (Value.bool false)) w129))))))))))))))))))))))))))))))) ∧
(((decide (x68 = 0)) = false) →
(R (Ending.returned (Value.bool false)) w107)))) ∧
(((Nf.strEq s67 (ByteArray.mk #[(112 : UInt8), (108 : UInt8), (97 : UInt8), (110 : UInt8), (32 : UInt8), (104 : UInt8), (97 : UInt8), (108 : UInt8), (108 : UInt8), (10 : UInt8), (108 : UInt8), (101 : UInt8), (118 : UInt8), (101 : UInt8), (108 : UInt8), (32 : UInt8), (49 : UInt8), (10 : UInt8), (45 : UInt8), (32 : UInt8), (99 : UInt8), (97 : UInt8), (108 : UInt8), (108 : UInt8), (32 : UInt8), (105 : UInt8), (110 : UInt8), (10 : UInt8), (108 : UInt8), (101 : UInt8), (118 : UInt8), (101 : UInt8), (108 : UInt8), (32 : UInt8), (50 : UInt8), (10 : UInt8), (45 : UInt8), (32 : UInt8), (111 : UInt8), (112 : UInt8), (101 : UInt8), (110 : UInt8), (32 : UInt8), (104 : UInt8), (97 : UInt8), (108 : UInt8), (108 : UInt8), (10 : UInt8)])) = false) →
(R (Ending.returned (Value.bool false)) w107)))) ∧
(((decide (x108 = 0)) = false) →
(R (Ending.returned (Value.bool false)) w107))))))))) ∧
(((decide (x104 = 4)) = false) →
(R (Ending.returned (Value.bool false)) w103))))))))) ∧
((b100 = false) →
(R (Ending.returned (Value.bool false)) w99))))))))))) ∧
(((decide (x94 = 1)) = false) →
(R (Ending.returned (Value.bool false)) w93))))))))) ∧
(((decide (x42 = 2)) = false) →
(R (Ending.returned (Value.bool false)) w87)))) ∧
(((decide (((n33 : Nat) : Int) = 0)) = false) →
(R (Ending.returned (Value.bool false)) w87)))) ∧
((b88 = false) →
(R (Ending.returned (Value.bool false)) w87))))))))))) ∧
(((decide (x20 = 1)) = false) →
(R (Ending.returned (Value.bool false)) w81))))))))))))))))))))))))))))))))))))))))))))))))))))))))))))))))))))))))))))))))))))))))))))))))))))))))))))))))))) :
    Calls Tryd.prog 11 #[] w R :=
  calls_of_vc an11 Tryd.func11 rfl (by kernel_rfl) (by kernel_rfl) (Eq.mp (by kernel_rfl) h)

/-- samaritan/samaritanlaw45.few -/
def an12 : An := (.seq (.reg []) (.seq (.reg [(2, 0, true), (6, 0, true), (10, 0, true), (15, 0, true)]) .nil))
set_option maxRecDepth 100000 in
theorem nf12 (l : Option Addr) (l_n : Nat) (l_c : Nat) (units : Option Addr) (units_n : Nat) (units_c : Nat) (plans : Option Addr) (plans_n : Nat) (plans_c : Nat) (w : World) (R : Ending → World → Prop) (h :
((((decide (((l_n : Nat) : Int) ≤ 30)) = true) →
((((decide (((units_n : Nat) : Int) ≤ 40)) = true) →
(Calls Tryd.prog 35 #[(Value.slice plans plans_n plans_c)] w (fun (e3 : Ending) => (fun (w4 : World) => (∃ b5 : Bool, ((e3 = (Ending.returned (Value.bool b5))) ∧
(((b5 = true) →
(Calls Tryd.prog 36 #[(Value.slice plans plans_n plans_c)] w4 (fun (e7 : Ending) => (fun (w8 : World) => (∃ x9 : Int, ((e7 = (Ending.returned (Value.int IntKind.i64 x9))) ∧
((((decide (x9 = (-1))) = true) →
(R (Ending.returned (Value.bool true)) w8)) ∧
(((decide (x9 = (-1))) = false) →
(R (Ending.returned (Value.bool false)) w8))))))))) ∧
((b5 = false) →
(R (Ending.returned (Value.bool false)) w4))))))))) ∧
(((decide (((units_n : Nat) : Int) ≤ 40)) = false) →
(R (Ending.returned (Value.bool false)) w)))) ∧
(((decide (((l_n : Nat) : Int) ≤ 30)) = false) →
(R (Ending.returned (Value.bool false)) w)))) :
    Calls Tryd.prog 12 #[(.slice l l_n l_c), (.slice units units_n units_c), (.slice plans plans_n plans_c)] w R :=
  calls_of_vc an12 Tryd.func12 rfl (by kernel_rfl) (by kernel_rfl) (Eq.mp (by kernel_rfl) h)

/-- samaritan/samaritanlaw45.SurgeLevel -/
def an3 : An := (.seq (.reg []) (.seq (.seq (.reg [(0, 0, true), (6, 0, true)]) (.cond (.seq (.reg []) .nil) .nil)) (.seq (.reg [(2, 1, false), (5, 1, false), (12, 0, true)]) .nil)))
set_option maxRecDepth 100000 in
theorem nf3 (l : Option Addr) (l_n : Nat) (l_c : Nat) (units : Option Addr) (units_n : Nat) (units_c : Nat) (plans : Option Addr) (plans_n : Nat) (plans_c : Nat) (w : World) (R : Ending → World → Prop) (h :
(Calls Tryd.prog 11 #[] w (fun (e1 : Ending) => (fun (w2 : World) => (∃ b3 : Bool, ((e1 = (Ending.returned (Value.bool b3))) ∧
(((b3 = true) →
(Calls Tryd.prog 12 #[(Value.slice l l_n l_c), (Value.slice units units_n units_c), (Value.slice plans plans_n plans_c)] w2 (fun (e5 : Ending) => (fun (w6 : World) => (∃ b7 : Bool, ((e5 = (Ending.returned (Value.bool b7))) ∧
(((b7 = true) →
(∀ w9 : World, ((w9 = (w6.alloc (Obj.cells #[] 74 (0, 0)))) →
(RunOk Tryd.prog (Nf.Hold (Builtin.append_ #[22, 22] 22 #[(Value.slice (some (⟨(hs w6), 0, none⟩ : Addr)) 0 0), (Value.slice l l_n l_c)])) w9 (fun (v11 : Value) => (fun (w12 : World) => (∃ o13 : Option Addr, (∃ n14 : Nat, (∃ n15 : Nat, ((v11 = (Value.slice o13 n14 n15)) ∧
(∀ w16 : World, ((w16 = (w12.alloc (Obj.cells #[] 29 (0, 0)))) →
(RunOk Tryd.prog (Nf.Hold (Builtin.append_ #[23, 23] 23 #[(Value.slice (some (⟨(hs w12), 0, none⟩ : Addr)) 0 0), (Value.slice units units_n units_c)])) w16 (fun (v18 : Value) => (fun (w19 : World) => (∃ o20 : Option Addr, (∃ n21 : Nat, (∃ n22 : Nat, ((v18 = (Value.slice o20 n21 n22)) ∧
(Calls Tryd.prog 13 #[(Value.slice o13 n14 n15), (Value.slice o20 n21 n22), (Value.slice plans plans_n plans_c)] w19 (fun (e23 : Ending) => (fun (w24 : World) => (∃ x25 : Int, ((e23 = (Ending.returned (Value.int IntKind.i64 x25))) ∧
(Calls Tryd.prog 14 #[(Value.slice l l_n l_c), (Value.slice units units_n units_c), (Value.slice plans plans_n plans_c)] w24 (fun (e26 : Ending) => (fun (w27 : World) => (∃ x28 : Int, ((e26 = (Ending.returned (Value.int IntKind.i64 x28))) ∧
((((decide (x25 = x28)) = true) →
(R (Ending.returned (Value.bool true)) w27)) ∧
(((decide (x25 = x28)) = false) →
(R (Ending.returned (Value.bool false)) w27)))))))))))))))))))))))))))))))) ∧
((b7 = false) →
(Calls Tryd.prog 11 #[] w6 (fun (e32 : Ending) => (fun (w33 : World) => (∃ b34 : Bool, ((e32 = (Ending.returned (Value.bool b34))) ∧
(R (Ending.returned (Value.bool b34)) w33)))))))))))))) ∧
((b3 = false) →
(Calls Tryd.prog 11 #[] w2 (fun (e36 : Ending) => (fun (w37 : World) => (∃ b38 : Bool, ((e36 = (Ending.returned (Value.bool b38))) ∧
(R (Ending.returned (Value.bool b38)) w37)))))))))))))) :
    Calls Tryd.prog 3 #[(.slice l l_n l_c), (.slice units units_n units_c), (.slice plans plans_n plans_c)] w R :=
  calls_of_vc an3 Tryd.func3 rfl (by kernel_rfl) (by kernel_rfl) (Eq.mp (by kernel_rfl) h)

/-- samaritan/samaritanlaw45.SurgeMonotonic -/
def an4 : An := (.seq (.reg []) (.seq (.seq (.reg [(0, 0, true), (6, 0, true)]) (.cond (.seq (.reg []) .nil) .nil)) (.seq (.reg []) (.seq (.seq (.reg [(2, 0, true), (5, 2, false), (10, 0, true)]) (.cond (.seq (.reg []) .nil) .nil)) (.seq (.seq (.reg [(2, 0, true), (8, 0, true), (14, 0, true), (22, 0, true)]) (.cond (.seq (.reg [(1, 0, true), (4, 0, true)]) .nil) .nil)) (.seq (.reg [(2, 2, false), (6, 0, true)]) .nil))))))
set_option maxRecDepth 100000 in
theorem nf4 (l : Option Addr) (l_n : Nat) (l_c : Nat) (units : Option Addr) (units_n : Nat) (units_c : Nat) (plans : Option Addr) (plans_n : Nat) (plans_c : Nat) (w : World) (R : Ending → World → Prop) (h :
(Calls Tryd.prog 11 #[] w (fun (e1 : Ending) => (fun (w2 : World) => (∃ b3 : Bool, ((e1 = (Ending.returned (Value.bool b3))) ∧
(((b3 = true) →
(Calls Tryd.prog 12 #[(Value.slice l l_n l_c), (Value.slice units units_n units_c), (Value.slice plans plans_n plans_c)] w2 (fun (e5 : Ending) => (fun (w6 : World) => (∃ b7 : Bool, ((e5 = (Ending.returned (Value.bool b7))) ∧
(((b7 = true) →
(Calls Tryd.prog 13 #[(Value.slice l l_n l_c), (Value.slice units units_n units_c), (Value.slice plans plans_n plans_c)] w6 (fun (e9 : Ending) => (fun (w10 : World) => (∃ x11 : Int, ((e9 = (Ending.returned (Value.int IntKind.i64 x11))) ∧
((((decide (((l_n : Nat) : Int) > 0)) = true) →
((((0 : Int) ≤ 1) ∧
(1 ≤ ((l_n : Nat) : Int))) ∧
(Calls Tryd.prog 13 #[(Value.slice (if (l_c = ((1 : Int)).toNat) then l else (Option.map (fun (x : Addr) => (Addr.add x 10)) l)) (l_n - 1) (l_c - 1)), (Value.slice units units_n units_c), (Value.slice plans plans_n plans_c)] w10 (fun (e13 : Ending) => (fun (w14 : World) => (∃ x15 : Int, ((e13 = (Ending.returned (Value.int IntKind.i64 x15))) ∧
((((decide (x15 > x11)) = true) →
(R (Ending.returned (Value.bool false)) w14)) ∧
(((decide (x15 > x11)) = false) →
((((decide (((units_n : Nat) : Int) = 0)) = true) →
((((decide (x11 ≥ 0)) = true) →
((((decide (x11 ≤ 5)) = true) →
(R (Ending.returned (Value.bool true)) w14)) ∧
(((decide (x11 ≤ 5)) = false) →
(R (Ending.returned (Value.bool false)) w14)))) ∧
(((decide (x11 ≥ 0)) = false) →
(R (Ending.returned (Value.bool false)) w14)))) ∧
(((decide (((units_n : Nat) : Int) = 0)) = false) →
(∃ a24 : Addr, ((units = (some a24)) ∧
((((0 : Int) ≤ 0) ∧
(0 < ((units_n : Nat) : Int))) ∧
(∃ x25 : Int, (((w14.cell? (Addr.add a24 3)) = (some (Value.int IntKind.i64 x25))) ∧
((((decide (x25 = 1)) = true) →
(∃ a27 : Addr, ((units = (some a27)) ∧
((((0 : Int) ≤ 0) ∧
(0 < ((units_n : Nat) : Int))) ∧
(∃ x28 : Int, (((w14.cell? (Addr.add a27 7)) = (some (Value.int IntKind.i64 x28))) ∧
((((!(decide (x28 = 0))) = true) →
((((decide (x11 ≥ 0)) = true) →
((((decide (x11 ≤ 5)) = true) →
(R (Ending.returned (Value.bool true)) w14)) ∧
(((decide (x11 ≤ 5)) = false) →
(R (Ending.returned (Value.bool false)) w14)))) ∧
(((decide (x11 ≥ 0)) = false) →
(R (Ending.returned (Value.bool false)) w14)))) ∧
(((!(decide (x28 = 0))) = false) →
(∃ a35 : Addr, ((units = (some a35)) ∧
((((0 : Int) ≤ 0) ∧
(0 < ((units_n : Nat) : Int))) ∧
(∃ x36 : Int, (((w14.cell? (Addr.add a35 3)) = (some (Value.int IntKind.i64 x36))) ∧
((((!(decide (x36 = 1))) = true) →
((((decide (x11 ≥ 0)) = true) →
((((decide (x11 ≤ 5)) = true) →
(R (Ending.returned (Value.bool true)) w14)) ∧
(((decide (x11 ≤ 5)) = false) →
(R (Ending.returned (Value.bool false)) w14)))) ∧
(((decide (x11 ≥ 0)) = false) →
(R (Ending.returned (Value.bool false)) w14)))) ∧
(((!(decide (x36 = 1))) = false) →
((((0 : Int) ≤ 1) ∧
(1 ≤ ((units_n : Nat) : Int))) ∧
(Calls Tryd.prog 13 #[(Value.slice l l_n l_c), (Value.slice (if (units_c = ((1 : Int)).toNat) then units else (Option.map (fun (x : Addr) => (Addr.add x 10)) units)) (units_n - 1) (units_c - 1)), (Value.slice plans plans_n plans_c)] w14 (fun (e43 : Ending) => (fun (w44 : World) => (∃ x45 : Int, ((e43 = (Ending.returned (Value.int IntKind.i64 x45))) ∧
((((decide (x45 ≥ x11)) = true) →
(R (Ending.returned (Value.bool true)) w44)) ∧
(((decide (x45 ≥ x11)) = false) →
(R (Ending.returned (Value.bool false)) w44)))))))))))))))))))))))) ∧
(((decide (x25 = 1)) = false) →
(∃ a49 : Addr, ((units = (some a49)) ∧
((((0 : Int) ≤ 0) ∧
(0 < ((units_n : Nat) : Int))) ∧
(∃ x50 : Int, (((w14.cell? (Addr.add a49 3)) = (some (Value.int IntKind.i64 x50))) ∧
((((!(decide (x50 = 1))) = true) →
((((decide (x11 ≥ 0)) = true) →
((((decide (x11 ≤ 5)) = true) →
(R (Ending.returned (Value.bool true)) w14)) ∧
(((decide (x11 ≤ 5)) = false) →
(R (Ending.returned (Value.bool false)) w14)))) ∧
(((decide (x11 ≥ 0)) = false) →
(R (Ending.returned (Value.bool false)) w14)))) ∧
(((!(decide (x50 = 1))) = false) →
((((0 : Int) ≤ 1) ∧
(1 ≤ ((units_n : Nat) : Int))) ∧
(Calls Tryd.prog 13 #[(Value.slice l l_n l_c), (Value.slice (if (units_c = ((1 : Int)).toNat) then units else (Option.map (fun (x : Addr) => (Addr.add x 10)) units)) (units_n - 1) (units_c - 1)), (Value.slice plans plans_n plans_c)] w14 (fun (e57 : Ending) => (fun (w58 : World) => (∃ x59 : Int, ((e57 = (Ending.returned (Value.int IntKind.i64 x59))) ∧
((((decide (x59 ≥ x11)) = true) →
(R (Ending.returned (Value.bool true)) w58)) ∧
(((decide (x59 ≥ x11)) = false) →
(R (Ending.returned (Value.bool false)) w58)))))))))))))))))))))))))))))))))) ∧
(((decide (((l_n : Nat) : Int) > 0)) = false) →
((((decide (((units_n : Nat) : Int) = 0)) = true) →
((((decide (x11 ≥ 0)) = true) →
((((decide (x11 ≤ 5)) = true) →
(R (Ending.returned (Value.bool true)) w10)) ∧
(((decide (x11 ≤ 5)) = false) →
(R (Ending.returned (Value.bool false)) w10)))) ∧
(((decide (x11 ≥ 0)) = false) →
(R (Ending.returned (Value.bool false)) w10)))) ∧
(((decide (((units_n : Nat) : Int) = 0)) = false) →
(∃ a69 : Addr, ((units = (some a69)) ∧
((((0 : Int) ≤ 0) ∧
(0 < ((units_n : Nat) : Int))) ∧
(∃ x70 : Int, (((w10.cell? (Addr.add a69 3)) = (some (Value.int IntKind.i64 x70))) ∧
((((decide (x70 = 1)) = true) →
(∃ a72 : Addr, ((units = (some a72)) ∧
((((0 : Int) ≤ 0) ∧
(0 < ((units_n : Nat) : Int))) ∧
(∃ x73 : Int, (((w10.cell? (Addr.add a72 7)) = (some (Value.int IntKind.i64 x73))) ∧
((((!(decide (x73 = 0))) = true) →
((((decide (x11 ≥ 0)) = true) →
((((decide (x11 ≤ 5)) = true) →
(R (Ending.returned (Value.bool true)) w10)) ∧
(((decide (x11 ≤ 5)) = false) →
(R (Ending.returned (Value.bool false)) w10)))) ∧
(((decide (x11 ≥ 0)) = false) →
(R (Ending.returned (Value.bool false)) w10)))) ∧
(((!(decide (x73 = 0))) = false) →
(∃ a80 : Addr, ((units = (some a80)) ∧
((((0 : Int) ≤ 0) ∧
(0 < ((units_n : Nat) : Int))) ∧
(∃ x81 : Int, (((w10.cell? (Addr.add a80 3)) = (some (Value.int IntKind.i64 x81))) ∧
((((!(decide (x81 = 1))) = true) →
((((decide (x11 ≥ 0)) = true) →
((((decide (x11 ≤ 5)) = true) →
(R (Ending.returned (Value.bool true)) w10)) ∧
(((decide (x11 ≤ 5)) = false) →
(R (Ending.returned (Value.bool false)) w10)))) ∧
(((decide (x11 ≥ 0)) = false) →
(R (Ending.returned (Value.bool false)) w10)))) ∧
(((!(decide (x81 = 1))) = false) →
((((0 : Int) ≤ 1) ∧
(1 ≤ ((units_n : Nat) : Int))) ∧
(Calls Tryd.prog 13 #[(Value.slice l l_n l_c), (Value.slice (if (units_c = ((1 : Int)).toNat) then units else (Option.map (fun (x : Addr) => (Addr.add x 10)) units)) (units_n - 1) (units_c - 1)), (Value.slice plans plans_n plans_c)] w10 (fun (e88 : Ending) => (fun (w89 : World) => (∃ x90 : Int, ((e88 = (Ending.returned (Value.int IntKind.i64 x90))) ∧
((((decide (x90 ≥ x11)) = true) →
(R (Ending.returned (Value.bool true)) w89)) ∧
(((decide (x90 ≥ x11)) = false) →
(R (Ending.returned (Value.bool false)) w89)))))))))))))))))))))))) ∧
(((decide (x70 = 1)) = false) →
(∃ a94 : Addr, ((units = (some a94)) ∧
((((0 : Int) ≤ 0) ∧
(0 < ((units_n : Nat) : Int))) ∧
(∃ x95 : Int, (((w10.cell? (Addr.add a94 3)) = (some (Value.int IntKind.i64 x95))) ∧
((((!(decide (x95 = 1))) = true) →
((((decide (x11 ≥ 0)) = true) →
((((decide (x11 ≤ 5)) = true) →
(R (Ending.returned (Value.bool true)) w10)) ∧
(((decide (x11 ≤ 5)) = false) →
(R (Ending.returned (Value.bool false)) w10)))) ∧
(((decide (x11 ≥ 0)) = false) →
(R (Ending.returned (Value.bool false)) w10)))) ∧
(((!(decide (x95 = 1))) = false) →
((((0 : Int) ≤ 1) ∧
(1 ≤ ((units_n : Nat) : Int))) ∧
(Calls Tryd.prog 13 #[(Value.slice l l_n l_c), (Value.slice (if (units_c = ((1 : Int)).toNat) then units else (Option.map (fun (x : Addr) => (Addr.add x 10)) units)) (units_n - 1) (units_c - 1)), (Value.slice plans plans_n plans_c)] w10 (fun (e102 : Ending) => (fun (w103 : World) => (∃ x104 : Int, ((e102 = (Ending.returned (Value.int IntKind.i64 x104))) ∧
((((decide (x104 ≥ x11)) = true) →
(R (Ending.returned (Value.bool true)) w103)) ∧
(((decide (x104 ≥ x11)) = false) →
(R (Ending.returned (Value.bool false)) w103))))))))))))))))))))))))))))))))) ∧
((b7 = false) →
(Calls Tryd.prog 11 #[] w6 (fun (e108 : Ending) => (fun (w109 : World) => (∃ b110 : Bool, ((e108 = (Ending.returned (Value.bool b110))) ∧
(R (Ending.returned (Value.bool b110)) w109)))))))))))))) ∧
((b3 = false) →
(Calls Tryd.prog 11 #[] w2 (fun (e112 : Ending) => (fun (w113 : World) => (∃ b114 : Bool, ((e112 = (Ending.returned (Value.bool b114))) ∧
(R (Ending.returned (Value.bool b114)) w113)))))))))))))) :
    Calls Tryd.prog 4 #[(.slice l l_n l_c), (.slice units units_n units_c), (.slice plans plans_n plans_c)] w R :=
  calls_of_vc an4 Tryd.func4 rfl (by kernel_rfl) (by kernel_rfl) (Eq.mp (by kernel_rfl) h)

/-- samaritan/samaritanlaw45.SurgeValidate -/
def an5 : An := (.seq (.reg []) (.seq (.seq (.reg [(0, 0, true), (4, 0, true)]) (.cond (.seq (.reg []) .nil) .nil)) (.seq (.regD [(5, 0, true)] [0, 3, 1, 2, 4, 5, 6] [1, 2, 4]) .nil)))
set_option maxRecDepth 100000 in
theorem nf5 (p_Name : ByteArray) (p_Steps : Option Addr) (p_Steps_n : Nat) (p_Steps_c : Nat) (w : World) (R : Ending → World → Prop) (h :
(∀ w1 : World, ((w1 = (w.alloc (Obj.cells #[(Value.string p_Name), (Value.slice p_Steps p_Steps_n p_Steps_c)] 32 (0, 0)))) →
(Calls Tryd.prog 11 #[] w1 (fun (e3 : Ending) => (fun (w4 : World) => (∃ b5 : Bool, ((e3 = (Ending.returned (Value.bool b5))) ∧
(((b5 = true) →
(∃ s7 : ByteArray, (((w4.cell? (⟨(hs w), 0, none⟩ : Addr)) = (some (Value.string s7))) ∧
(∃ o8 : Option Addr, (∃ n9 : Nat, (∃ n10 : Nat, (((w4.cell? (⟨(hs w), 1, none⟩ : Addr)) = (some (Value.slice o8 n9 n10))) ∧
(Calls Tryd.prog 15 #[(Value.agg #[(Value.string s7), (Value.slice o8 n9 n10)])] w4 (fun (e11 : Ending) => (fun (w12 : World) => (∃ b13 : Bool, ((e11 = (Ending.returned (Value.bool b13))) ∧
(((b13 = true) →
(∀ w15 : World, ((w15 = w12.drew) →
(∃ s17 : ByteArray, (((w15.cell? (⟨(hs w), 0, none⟩ : Addr)) = (some (Value.string s17))) ∧
(∃ o18 : Option Addr, (∃ n19 : Nat, (∃ n20 : Nat, (((w15.cell? (⟨(hs w), 1, none⟩ : Addr)) = (some (Value.slice o18 n19 n20))) ∧
(∃ s21 : ByteArray, (((w15.cell? (⟨(hs w), 0, none⟩ : Addr)) = (some (Value.string s21))) ∧
(∃ o22 : Option Addr, (∃ n23 : Nat, (∃ n24 : Nat, (((w15.cell? (⟨(hs w), 1, none⟩ : Addr)) = (some (Value.slice o22 n23 n24))) ∧
(Calls Tryd.prog 17 #[(Value.agg #[(Value.string s17), (Value.slice o18 n19 n20)])] w15 (fun (e25 : Ending) => (fun (w26 : World) => (∃ s27 : ByteArray, (∃ o28 : Option Addr, (∃ n29 : Nat, (∃ n30 : Nat, ((e25 = (Ending.returned (Value.agg #[(Value.string s27), (Value.slice o28 n29 n30)]))) ∧
((Nf.Kept w15 w26 (⟨(hs w), 0, none⟩ : Addr) 2) ∧
(Calls Tryd.prog 16 #[(Value.agg #[(Value.string s27), (Value.slice o28 n29 n30)])] w26 (fun (e31 : Ending) => (fun (w32 : World) => (∃ x33 : Int, ((e31 = (Ending.returned (Value.int IntKind.i64 x33))) ∧
((Nf.Kept w15 w32 (⟨(hs w), 0, none⟩ : Addr) 2) ∧
(Calls Tryd.prog 18 #[(Value.agg #[(Value.string s21), (Value.slice o22 n23 n24)])] w32 (fun (e34 : Ending) => (fun (w35 : World) => (∃ x36 : Int, ((e34 = (Ending.returned (Value.int IntKind.i64 x36))) ∧
((((decide (x33 = x36)) = true) →
(R (Ending.returned (Value.bool true)) w35)) ∧
(((decide (x33 = x36)) = false) →
(R (Ending.returned (Value.bool false)) w35)))))))))))))))))))))))))))))))))))))) ∧
((b13 = false) →
(Calls Tryd.prog 11 #[] w12 (fun (e40 : Ending) => (fun (w41 : World) => (∃ b42 : Bool, ((e40 = (Ending.returned (Value.bool b42))) ∧
(R (Ending.returned (Value.bool b42)) w41)))))))))))))))))))) ∧
((b5 = false) →
(Calls Tryd.prog 11 #[] w4 (fun (e44 : Ending) => (fun (w45 : World) => (∃ b46 : Bool, ((e44 = (Ending.returned (Value.bool b46))) ∧
(R (Ending.returned (Value.bool b46)) w45)))))))))))))))) :
    Calls Tryd.prog 5 #[(.agg #[(.string p_Name), (.slice p_Steps p_Steps_n p_Steps_c)])] w R :=
  calls_of_vc an5 Tryd.func5 rfl (by kernel_rfl) (by kernel_rfl) (Eq.mp (by kernel_rfl) h)

/-- samaritan/samaritanlaw45.SurgeMatchesModel -/
def an6 : An := (.seq (.reg []) (.seq (.seq (.reg [(0, 0, true), (5, 0, true), (11, 0, true)]) (.cond (.seq (.reg []) .nil) .nil)) (.seq (.regD [(6, 0, true)] [0, 1, 3, 4, 5, 6, 2, 7, 8, 9, 10, 11, 12] [2, 7]) (.seq (.reg [(5, 0, true), (9, 0, true)]) (.seq (.seq (.reg []) (.cond (.seq (.reg [(1, 3, true), (4, 0, true)]) .nil) .nil)) (.seq (.seq (.reg [(1, 3, true), (4, 0, true)]) (.cond (.seq (.reg []) .nil) .nil)) (.seq (.seq (.reg []) (.blk (.loop [(62, .int .i64)] (.seq (.reg [(0, 0, true)]) (.seq (.cond .nil .nil) (.seq (.blk (.seq (.reg []) (.cut [] (.seq (.reg [(2, 0, true)]) (.cond (.seq (.regD [(8, 0, true)] [0, 1, 2, 4, 5, 6, 3, 7, 8] [3, 7]) (.cond (.seq (.reg []) .nil) .nil)) (.seq (.regD [(12, 0, true)] [0, 1, 2, 3, 4, 6, 7, 8, 9, 10, 5, 11, 12, 13] [5, 11, 12]) (.cond (.seq (.reg []) .nil) .nil)))) (.seq (.regD [(3, 2, false), (6, 0, true), (11, 2, false), (14, 0, true)] [0, 2, 3, 4, 5, 1, 6, 7, 8, 10, 11, 12, 13, 9, 14, 15, 16] [1, 9, 14]) (.cond (.seq (.reg []) .nil) .nil))))) (.reg []))))))) (.seq (.reg []) .nil))))))))
set_option maxRecDepth 100000 in
theorem nf6 (x_P_Name : ByteArray) (x_P_Steps : Option Addr) (x_P_Steps_n : Nat) (x_P_Steps_c : Nat) (x_Calm : Int) (x_Drill : Bool) (l : Option Addr) (l_n : Nat) (l_c : Nat) (w : World) (R : Ending → World → Prop) (h :
(∀ w1 : World, ((w1 = (w.alloc (Obj.cells #[(Value.string x_P_Name), (Value.slice x_P_Steps x_P_Steps_n x_P_Steps_c), (Value.int IntKind.i64 x_Calm), (Value.bool x_Drill)] 39 (0, 0)))) →
(Calls Tryd.prog 11 #[] w1 (fun (e3 : Ending) => (fun (w4 : World) => (∃ b5 : Bool, ((e3 = (Ending.returned (Value.bool b5))) ∧
(((b5 = true) →
(∃ s7 : ByteArray, (((w4.cell? (⟨(hs w), 0, none⟩ : Addr)) = (some (Value.string s7))) ∧
(∃ o8 : Option Addr, (∃ n9 : Nat, (∃ n10 : Nat, (((w4.cell? (⟨(hs w), 1, none⟩ : Addr)) = (some (Value.slice o8 n9 n10))) ∧
(Calls Tryd.prog 15 #[(Value.agg #[(Value.string s7), (Value.slice o8 n9 n10)])] w4 (fun (e11 : Ending) => (fun (w12 : World) => (∃ b13 : Bool, ((e11 = (Ending.returned (Value.bool b13))) ∧
(((b13 = true) →
((((decide (((l_n : Nat) : Int) > 40)) = true) →
(Calls Tryd.prog 11 #[] w12 (fun (e16 : Ending) => (fun (w17 : World) => (∃ b18 : Bool, ((e16 = (Ending.returned (Value.bool b18))) ∧
(R (Ending.returned (Value.bool b18)) w17))))))) ∧
(((decide (((l_n : Nat) : Int) > 40)) = false) →
(∀ w20 : World, ((w20 = w12.drew) →
(∃ s22 : ByteArray, (((w20.cell? (⟨(hs w), 0, none⟩ : Addr)) = (some (Value.string s22))) ∧
(∃ o23 : Option Addr, (∃ n24 : Nat, (∃ n25 : Nat, (((w20.cell? (⟨(hs w), 1, none⟩ : Addr)) = (some (Value.slice o23 n24 n25))) ∧
(∃ x26 : Int, (((w20.cell? (⟨(hs w), 2, none⟩ : Addr)) = (some (Value.int IntKind.i64 x26))) ∧
(∃ b27 : Bool, (((w20.cell? (⟨(hs w), 3, none⟩ : Addr)) = (some (Value.bool b27))) ∧
(((b27 = true) →
(Calls Tryd.prog 17 #[(Value.agg #[(Value.string s22), (Value.slice o23 n24 n25)])] w20 (fun (e29 : Ending) => (fun (w30 : World) => (∃ s31 : ByteArray, (∃ o32 : Option Addr, (∃ n33 : Nat, (∃ n34 : Nat, ((e29 = (Ending.returned (Value.agg #[(Value.string s31), (Value.slice o32 n33 n34)]))) ∧
((Nf.Kept w20 w30 (⟨(hs w), 3, none⟩ : Addr) 1) ∧
((Nf.Kept w20 w30 (⟨(hs w), 2, none⟩ : Addr) 1) ∧
(Calls Tryd.prog 19 #[(Value.agg #[(Value.string s31), (Value.slice o32 n33 n34)]), (Value.int IntKind.i64 x26), (Value.bool true)] w30 (fun (e35 : Ending) => (fun (w36 : World) => (∃ o37 : Option Addr, (∃ x38 : Int, ((e35 = (Ending.returned (Value.tuple #[(Value.pointer o37), (Value.int IntKind.i64 x38)]))) ∧
(∃ s39 : ByteArray, (((w36.cell? (⟨(hs w), 0, none⟩ : Addr)) = (some (Value.string s39))) ∧
(∃ o40 : Option Addr, (∃ n41 : Nat, (∃ n42 : Nat, (((w36.cell? (⟨(hs w), 1, none⟩ : Addr)) = (some (Value.slice o40 n41 n42))) ∧
(∃ x43 : Int, (((w36.cell? (⟨(hs w), 2, none⟩ : Addr)) = (some (Value.int IntKind.i64 x43))) ∧
(∃ b44 : Bool, (((w36.cell? (⟨(hs w), 3, none⟩ : Addr)) = (some (Value.bool b44))) ∧
(((b44 = true) →
(Calls Tryd.prog 20 #[(Value.agg #[(Value.string s39), (Value.slice o40 n41 n42)]), (Value.int IntKind.i64 x43), (Value.bool true)] w36 (fun (e46 : Ending) => (fun (w47 : World) => (∃ o48 : Option Addr, (∃ b49 : Bool, ((e46 = (Ending.returned (Value.tuple #[(Value.pointer o48), (Value.bool b49)]))) ∧
(((b49 = true) →
((((Option.isNone o37) = true) →
(R (Ending.returned (Value.bool false)) w47)) ∧
(((Option.isNone o37) = false) →
((((!(decide (x38 = 0))) = true) →
(R (Ending.returned (Value.bool false)) w47)) ∧
(((!(decide (x38 = 0))) = false) →
(∃ k55 : (Nat → (Int → (World → Prop))), ((∃ n56 : Nat, (k55 n56 0 w47)) ∧
(∀ n57 : Nat, ((Nat → Value) →
(∀ w59 : World, (∀ x60 : Int, ((k55 n57 x60 w59) →
((((decide (x60 < ((l_n : Nat) : Int))) = true) →
(∃ a63 : Addr, ((l = (some a63)) ∧
((((0 : Int) ≤ x60) ∧
(x60 < ((l_n : Nat) : Int))) ∧
(∃ x64 : Int, (((w59.cell? (Addr.add a63 ((x60).toNat * 4))) = (some (Value.int IntKind.i64 x64))) ∧
(∃ x65 : Int, (((w59.cell? (Addr.add (Addr.add a63 ((x60).toNat * 4)) 1)) = (some (Value.int IntKind.i64 x65))) ∧
(∃ x66 : Int, (((w59.cell? (Addr.add (Addr.add a63 ((x60).toNat * 4)) 2)) = (some (Value.int IntKind.i64 x66))) ∧
(∃ s67 : ByteArray, (((w59.cell? (Addr.add (Addr.add a63 ((x60).toNat * 4)) 3)) = (some (Value.string s67))) ∧
(∀ w68 : World, ((w68 = (w59.alloc (Obj.cells #[(Value.int IntKind.i64 0), (Value.int IntKind.i64 0), (Value.int IntKind.i64 0), (Value.string (ByteArray.mk #[]))] 49 (0, 0)))) →
((Nf.There w68 (⟨(hs w59), 0, none⟩ : Addr) 4) ∧
(∀ w70 : World, ((w70 = (Nf.setCells w68 (⟨(hs w59), 0, none⟩ : Addr) [(Value.int IntKind.i64 x64), (Value.int IntKind.i64 x65), (Value.int IntKind.i64 x66), (Value.string s67)] 0)) →
(∀ k72 : (World → Prop), ((∀ w74 : World, (((Nat → Value) →
(∀ w77 : World, ((w77 = w74.drew) →
(∃ a79 : Addr, ((o48 = (some a79)) ∧
(∃ x80 : Int, (((w77.cell? (Addr.add a79 4)) = (some (Value.int IntKind.i64 x80))) ∧
(Calls Tryd.prog 26 #[(Value.pointer o37)] w77 (fun (e81 : Ending) => (fun (w82 : World) => (∃ x83 : Int, ((e81 = (Ending.returned (Value.int IntKind.i64 x83))) ∧
((Nf.Kept w77 w82 (Addr.add a79 4) 1) ∧
((((!(decide (x83 = x80))) = true) →
(R (Ending.returned (Value.bool false)) w82)) ∧
(((!(decide (x83 = x80))) = false) →
(∃ a86 : Addr, ((o48 = (some a86)) ∧
(∃ o87 : Option Addr, (∃ n88 : Nat, (∃ n89 : Nat, (((w82.cell? (Addr.add a86 6)) = (some (Value.slice o87 n88 n89))) ∧
(Calls Tryd.prog 27 #[(Value.pointer o37)] w82 (fun (e90 : Ending) => (fun (w91 : World) => (∃ o92 : Option Addr, (∃ n93 : Nat, (∃ n94 : Nat, ((e90 = (Ending.returned (Value.slice o92 n93 n94))) ∧
((Nf.Kept w82 w91 (Addr.add a86 6) 1) ∧
(Calls Tryd.prog 23 #[(Value.slice o92 n93 n94), (Value.slice o87 n88 n89)] w91 (fun (e95 : Ending) => (fun (w96 : World) => (∃ b97 : Bool, ((e95 = (Ending.returned (Value.bool b97))) ∧
(((b97 = true) →
(∃ n99 : Nat, ((n99 < n57) ∧
(k55 n99 (IntKind.wrap IntKind.i64 (x60 + 1)) w96)))) ∧
((b97 = false) →
(R (Ending.returned (Value.bool false)) w96))))))))))))))))))))))))))))))))))))) →
(k72 w74))) →
(∃ x101 : Int, (((w70.cell? (⟨(hs w59), 0, none⟩ : Addr)) = (some (Value.int IntKind.i64 x101))) ∧
((((decide (x101 = 1)) = true) →
(∀ w103 : World, ((w103 = w70.drew) →
(∃ s105 : ByteArray, (((w103.cell? (⟨(hs w59), 3, none⟩ : Addr)) = (some (Value.string s105))) ∧
(∃ s106 : ByteArray, (((w103.cell? (⟨(hs w59), 3, none⟩ : Addr)) = (some (Value.string s106))) ∧
(Calls Tryd.prog 21 #[(Value.pointer o37), (Value.string s105)] w103 (fun (e107 : Ending) => (fun (w108 : World) => (∃ x109 : Int, ((e107 = (Ending.returned (Value.int IntKind.i64 x109))) ∧
((Nf.Kept w103 w108 (⟨(hs w59), 3, none⟩ : Addr) 1) ∧
(Calls Tryd.prog 22 #[(Value.pointer o48), (Value.string s106)] w108 (fun (e110 : Ending) => (fun (w111 : World) => (∃ x112 : Int, ((e110 = (Ending.returned (Value.int IntKind.i64 x112))) ∧
((((!(decide (x109 = x112))) = true) →
(R (Ending.returned (Value.bool false)) w111)) ∧
(((!(decide (x109 = x112))) = false) →
(k72 w111))))))))))))))))))))) ∧
(((decide (x101 = 1)) = false) →
(∀ w116 : World, ((w116 = w70.drew) →
(∃ x118 : Int, (((w116.cell? (⟨(hs w59), 1, none⟩ : Addr)) = (some (Value.int IntKind.i64 x118))) ∧
(∃ x119 : Int, (((w116.cell? (⟨(hs w59), 2, none⟩ : Addr)) = (some (Value.int IntKind.i64 x119))) ∧
(∃ x120 : Int, (((w116.cell? (⟨(hs w59), 1, none⟩ : Addr)) = (some (Value.int IntKind.i64 x120))) ∧
(∃ x121 : Int, (((w116.cell? (⟨(hs w59), 2, none⟩ : Addr)) = (some (Value.int IntKind.i64 x121))) ∧
(Calls Tryd.prog 24 #[(Value.pointer o37), (Value.int IntKind.i64 x118), (Value.int IntKind.i64 x119)] w116 (fun (e122 : Ending) => (fun (w123 : World) => (∃ o124 : Option Addr, (∃ n125 : Nat, (∃ n126 : Nat, ((e122 = (Ending.returned (Value.slice o124 n125 n126))) ∧
((Nf.Kept w116 w123 (⟨(hs w59), 2, none⟩ : Addr) 1) ∧
((Nf.Kept w116 w123 (⟨(hs w59), 1, none⟩ : Addr) 1) ∧
(Calls Tryd.prog 25 #[(Value.pointer o48), (Value.int IntKind.i64 x120), (Value.int IntKind.i64 x121)] w123 (fun (e127 : Ending) => (fun (w128 : World) => (∃ o129 : Option Addr, (∃ n130 : Nat, (∃ n131 : Nat, ((e127 = (Ending.returned (Value.slice o129 n130 n131))) ∧
(Calls Tryd.prog 23 #[(Value.slice o124 n125 n126), (Value.slice o129 n130 n131)] w128 (fun (e132 : Ending) => (fun (w133 : World) => (∃ b134 : Bool, ((e132 = (Ending.returned (Value.bool b134))) ∧
(((b134 = true) →
(k72 w133)) ∧
((b134 = false) →
(R (Ending.returned (Value.bool false)) w133))))))))))))))))))))))))))))))))))))))))))))))))))))))))) ∧
(((decide (x60 < ((l_n : Nat) : Int))) = false) →
(R (Ending.returned (Value.bool true)) w59))))))))))))))) ∧
((b49 = false) →
((((Option.isNone o37) = true) →
((((decide (x38 = 1)) = true) →
(R (Ending.returned (Value.bool true)) w47)) ∧
(((decide (x38 = 1)) = false) →
(R (Ending.returned (Value.bool false)) w47)))) ∧
(((Option.isNone o37) = false) →
(R (Ending.returned (Value.bool false)) w47)))))))))))) ∧
((b44 = false) →
(Calls Tryd.prog 20 #[(Value.agg #[(Value.string s39), (Value.slice o40 n41 n42)]), (Value.int IntKind.i64 x43), (Value.bool false)] w36 (fun (e144 : Ending) => (fun (w145 : World) => (∃ o146 : Option Addr, (∃ b147 : Bool, ((e144 = (Ending.returned (Value.tuple #[(Value.pointer o146), (Value.bool b147)]))) ∧
(((b147 = true) →
((((Option.isNone o37) = true) →
(R (Ending.returned (Value.bool false)) w145)) ∧
(((Option.isNone o37) = false) →
((((!(decide (x38 = 0))) = true) →
(R (Ending.returned (Value.bool false)) w145)) ∧
(((!(decide (x38 = 0))) = false) →
(∃ k153 : (Nat → (Int → (World → Prop))), ((∃ n154 : Nat, (k153 n154 0 w145)) ∧
(∀ n155 : Nat, ((Nat → Value) →
(∀ w157 : World, (∀ x158 : Int, ((k153 n155 x158 w157) →
((((decide (x158 < ((l_n : Nat) : Int))) = true) →
(∃ a161 : Addr, ((l = (some a161)) ∧
((((0 : Int) ≤ x158) ∧
(x158 < ((l_n : Nat) : Int))) ∧
(∃ x162 : Int, (((w157.cell? (Addr.add a161 ((x158).toNat * 4))) = (some (Value.int IntKind.i64 x162))) ∧
(∃ x163 : Int, (((w157.cell? (Addr.add (Addr.add a161 ((x158).toNat * 4)) 1)) = (some (Value.int IntKind.i64 x163))) ∧
(∃ x164 : Int, (((w157.cell? (Addr.add (Addr.add a161 ((x158).toNat * 4)) 2)) = (some (Value.int IntKind.i64 x164))) ∧
(∃ s165 : ByteArray, (((w157.cell? (Addr.add (Addr.add a161 ((x158).toNat * 4)) 3)) = (some (Value.string s165))) ∧
(∀ w166 : World, ((w166 = (w157.alloc (Obj.cells #[(Value.int IntKind.i64 0), (Value.int IntKind.i64 0), (Value.int IntKind.i64 0), (Value.string (ByteArray.mk #[]))] 49 (0, 0)))) →
((Nf.There w166 (⟨(hs w157), 0, none⟩ : Addr) 4) ∧
(∀ w168 : World, ((w168 = (Nf.setCells w166 (⟨(hs w157), 0, none⟩ : Addr) [(Value.int IntKind.i64 x162), (Value.int IntKind.i64 x163), (Value.int IntKind.i64 x164), (Value.string s165)] 0)) →
(∀ k170 : (World → Prop), ((∀ w172 : World, (((Nat → Value) →
(∀ w175 : World, ((w175 = w172.drew) →
(∃ a177 : Addr, ((o146 = (some a177)) ∧
(∃ x178 : Int, (((w175.cell? (Addr.add a177 4)) = (some (Value.int IntKind.i64 x178))) ∧
(Calls Tryd.prog 26 #[(Value.pointer o37)] w175 (fun (e179 : Ending) => (fun (w180 : World) => (∃ x181 : Int, ((e179 = (Ending.returned (Value.int IntKind.i64 x181))) ∧
((Nf.Kept w175 w180 (Addr.add a177 4) 1) ∧
((((!(decide (x181 = x178))) = true) →
(R (Ending.returned (Value.bool false)) w180)) ∧
(((!(decide (x181 = x178))) = false) →
(∃ a184 : Addr, ((o146 = (some a184)) ∧
(∃ o185 : Option Addr, (∃ n186 : Nat, (∃ n187 : Nat, (((w180.cell? (Addr.add a184 6)) = (some (Value.slice o185 n186 n187))) ∧
(Calls Tryd.prog 27 #[(Value.pointer o37)] w180 (fun (e188 : Ending) => (fun (w189 : World) => (∃ o190 : Option Addr, (∃ n191 : Nat, (∃ n192 : Nat, ((e188 = (Ending.returned (Value.slice o190 n191 n192))) ∧
((Nf.Kept w180 w189 (Addr.add a184 6) 1) ∧
(Calls Tryd.prog 23 #[(Value.slice o190 n191 n192), (Value.slice o185 n186 n187)] w189 (fun (e193 : Ending) => (fun (w194 : World) => (∃ b195 : Bool, ((e193 = (Ending.returned (Value.bool b195))) ∧
(((b195 = true) →
(∃ n197 : Nat, ((n197 < n155) ∧
(k153 n197 (IntKind.wrap IntKind.i64 (x158 + 1)) w194)))) ∧
((b195 = false) →
(R (Ending.returned (Value.bool false)) w194))))))))))))))))))))))))))))))))))))) →
(k170 w172))) →
(∃ x199 : Int, (((w168.cell? (⟨(hs w157), 0, none⟩ : Addr)) = (some (Value.int IntKind.i64 x199))) ∧
((((decide (x199 = 1)) = true) →
(∀ w201 : World, ((w201 = w168.drew) →
(∃ s203 : ByteArray, (((w201.cell? (⟨(hs w157), 3, none⟩ : Addr)) = (some (Value.string s203))) ∧
(∃ s204 : ByteArray, (((w201.cell? (⟨(hs w157), 3, none⟩ : Addr)) = (some (Value.string s204))) ∧
(Calls Tryd.prog 21 #[(Value.pointer o37), (Value.string s203)] w201 (fun (e205 : Ending) => (fun (w206 : World) => (∃ x207 : Int, ((e205 = (Ending.returned (Value.int IntKind.i64 x207))) ∧
((Nf.Kept w201 w206 (⟨(hs w157), 3, none⟩ : Addr) 1) ∧
(Calls Tryd.prog 22 #[(Value.pointer o146), (Value.string s204)] w206 (fun (e208 : Ending) => (fun (w209 : World) => (∃ x210 : Int, ((e208 = (Ending.returned (Value.int IntKind.i64 x210))) ∧
((((!(decide (x207 = x210))) = true) →
(R (Ending.returned (Value.bool false)) w209)) ∧
(((!(decide (x207 = x210))) = false) →
(k170 w209))))))))))))))))))))) ∧
(((decide (x199 = 1)) = false) →
(∀ w214 : World, ((w214 = w168.drew) →
(∃ x216 : Int, (((w214.cell? (⟨(hs w157), 1, none⟩ : Addr)) = (some (Value.int IntKind.i64 x216))) ∧
(∃ x217 : Int, (((w214.cell? (⟨(hs w157), 2, none⟩ : Addr)) = (some (Value.int IntKind.i64 x217))) ∧
(∃ x218 : Int, (((w214.cell? (⟨(hs w157), 1, none⟩ : Addr)) = (some (Value.int IntKind.i64 x218))) ∧
(∃ x219 : Int, (((w214.cell? (⟨(hs w157), 2, none⟩ : Addr)) = (some (Value.int IntKind.i64 x219))) ∧
(Calls Tryd.prog 24 #[(Value.pointer o37), (Value.int IntKind.i64 x216), (Value.int IntKind.i64 x217)] w214 (fun (e220 : Ending) => (fun (w221 : World) => (∃ o222 : Option Addr, (∃ n223 : Nat, (∃ n224 : Nat, ((e220 = (Ending.returned (Value.slice o222 n223 n224))) ∧
((Nf.Kept w214 w221 (⟨(hs w157), 2, none⟩ : Addr) 1) ∧
((Nf.Kept w214 w221 (⟨(hs w157), 1, none⟩ : Addr) 1) ∧
(Calls Tryd.prog 25 #[(Value.pointer o146), (Value.int IntKind.i64 x218), (Value.int IntKind.i64 x219)] w221 (fun (e225 : Ending) => (fun (w226 : World) => (∃ o227 : Option Addr, (∃ n228 : Nat, (∃ n229 : Nat, ((e225 = (Ending.returned (Value.slice o227 n228 n229))) ∧
(Calls Tryd.prog 23 #[(Value.slice o222 n223 n224), (Value.slice o227 n228 n229)] w226 (fun (e230 : Ending) => (fun (w231 : World) => (∃ b232 : Bool, ((e230 = (Ending.returned (Value.bool b232))) ∧
(((b232 = true) →
(k170 w231)) ∧
((b232 = false) →
(R (Ending.returned (Value.bool false)) w231))))))))))))))))))))))))))))))))))))))))))))))))))))))))) ∧
(((decide (x158 < ((l_n : Nat) : Int))) = false) →
(R (Ending.returned (Value.bool true)) w157))))))))))))))) ∧
((b147 = false) →
((((Option.isNone o37) = true) →
((((decide (x38 = 1)) = true) →
(R (Ending.returned (Value.bool true)) w145)) ∧
(((decide (x38 = 1)) = false) →
(R (Ending.returned (Value.bool false)) w145)))) ∧
(((Option.isNone o37) = false) →
(R (Ending.returned (Value.bool false)) w145)))))))))))))))))))))))))))))))))))))))) ∧
((b27 = false) →
(Calls Tryd.prog 17 #[(Value.agg #[(Value.string s22), (Value.slice o23 n24 n25)])] w20 (fun (e242 : Ending) => (fun (w243 : World) => (∃ s244 : ByteArray, (∃ o245 : Option Addr, (∃ n246 : Nat, (∃ n247 : Nat, ((e242 = (Ending.returned (Value.agg #[(Value.string s244), (Value.slice o245 n246 n247)]))) ∧
((Nf.Kept w20 w243 (⟨(hs w), 3, none⟩ : Addr) 1) ∧
((Nf.Kept w20 w243 (⟨(hs w), 2, none⟩ : Addr) 1) ∧
(Calls Tryd.prog 19 #[(Value.agg #[(Value.string s244), (Value.slice o245 n246 n247)]), (Value.int IntKind.i64 x26), (Value.bool false)] w243 (fun (e248 : Ending) => (fun (w249 : World) => (∃ o250 : Option Addr, (∃ x251 : Int, ((e248 = (Ending.returned (Value.tuple #[(Value.pointer o250), (Value.int IntKind.i64 x251)]))) ∧
(∃ s252 : ByteArray, (((w249.cell? (⟨(hs w), 0, none⟩ : Addr)) = (some (Value.string s252))) ∧
(∃ o253 : Option Addr, (∃ n254 : Nat, (∃ n255 : Nat, (((w249.cell? (⟨(hs w), 1, none⟩ : Addr)) = (some (Value.slice o253 n254 n255))) ∧
(∃ x256 : Int, (((w249.cell? (⟨(hs w), 2, none⟩ : Addr)) = (some (Value.int IntKind.i64 x256))) ∧
(∃ b257 : Bool, (((w249.cell? (⟨(hs w), 3, none⟩ : Addr)) = (some (Value.bool b257))) ∧
(((b257 = true) →
(Calls Tryd.prog 20 #[(Value.agg #[(Value.string s252), (Value.slice o253 n254 n255)]), (Value.int IntKind.i64 x256), (Value.bool true)] w249 (fun (e259 : Ending) => (fun (w260 : World) => (∃ o261 : Option Addr, (∃ b262 : Bool, ((e259 = (Ending.returned (Value.tuple #[(Value.pointer o261), (Value.bool b262)]))) ∧
(((b262 = true) →
((((Option.isNone o250) = true) →
(R (Ending.returned (Value.bool false)) w260)) ∧
(((Option.isNone o250) = false) →
((((!(decide (x251 = 0))) = true) →
(R (Ending.returned (Value.bool false)) w260)) ∧
(((!(decide (x251 = 0))) = false) →
(∃ k268 : (Nat → (Int → (World → Prop))), ((∃ n269 : Nat, (k268 n269 0 w260)) ∧
(∀ n270 : Nat, ((Nat → Value) →
(∀ w272 : World, (∀ x273 : Int, ((k268 n270 x273 w272) →
((((decide (x273 < ((l_n : Nat) : Int))) = true) →
(∃ a276 : Addr, ((l = (some a276)) ∧
((((0 : Int) ≤ x273) ∧
(x273 < ((l_n : Nat) : Int))) ∧
(∃ x277 : Int, (((w272.cell? (Addr.add a276 ((x273).toNat * 4))) = (some (Value.int IntKind.i64 x277))) ∧
(∃ x278 : Int, (((w272.cell? (Addr.add (Addr.add a276 ((x273).toNat * 4)) 1)) = (some (Value.int IntKind.i64 x278))) ∧
(∃ x279 : Int, (((w272.cell? (Addr.add (Addr.add a276 ((x273).toNat * 4)) 2)) = (some (Value.int IntKind.i64 x279))) ∧
(∃ s280 : ByteArray, (((w272.cell? (Addr.add (Addr.add a276 ((x273).toNat * 4)) 3)) = (some (Value.string s280))) ∧
(∀ w281 : World, ((w281 = (w272.alloc (Obj.cells #[(Value.int IntKind.i64 0), (Value.int IntKind.i64 0), (Value.int IntKind.i64 0), (Value.string (ByteArray.mk #[]))] 49 (0, 0)))) →
((Nf.There w281 (⟨(hs w272), 0, none⟩ : Addr) 4) ∧
(∀ w283 : World, ((w283 = (Nf.setCells w281 (⟨(hs w272), 0, none⟩ : Addr) [(Value.int IntKind.i64 x277), (Value.int IntKind.i64 x278), (Value.int IntKind.i64 x279), (Value.string s280)] 0)) →
(∀ k285 : (World → Prop), ((∀ w287 : World, (((Nat → Value) →
(∀ w290 : World, ((w290 = w287.drew) →
(∃ a292 : Addr, ((o261 = (some a292)) ∧
(∃ x293 : Int, (((w290.cell? (Addr.add a292 4)) = (some (Value.int IntKind.i64 x293))) ∧
(Calls Tryd.prog 26 #[(Value.pointer o250)] w290 (fun (e294 : Ending) => (fun (w295 : World) => (∃ x296 : Int, ((e294 = (Ending.returned (Value.int IntKind.i64 x296))) ∧
((Nf.Kept w290 w295 (Addr.add a292 4) 1) ∧
((((!(decide (x296 = x293))) = true) →
(R (Ending.returned (Value.bool false)) w295)) ∧
(((!(decide (x296 = x293))) = false) →
(∃ a299 : Addr, ((o261 = (some a299)) ∧
(∃ o300 : Option Addr, (∃ n301 : Nat, (∃ n302 : Nat, (((w295.cell? (Addr.add a299 6)) = (some (Value.slice o300 n301 n302))) ∧
(Calls Tryd.prog 27 #[(Value.pointer o250)] w295 (fun (e303 : Ending) => (fun (w304 : World) => (∃ o305 : Option Addr, (∃ n306 : Nat, (∃ n307 : Nat, ((e303 = (Ending.returned (Value.slice o305 n306 n307))) ∧
((Nf.Kept w295 w304 (Addr.add a299 6) 1) ∧
(Calls Tryd.prog 23 #[(Value.slice o305 n306 n307), (Value.slice o300 n301 n302)] w304 (fun (e308 : Ending) => (fun (w309 : World) => (∃ b310 : Bool, ((e308 = (Ending.returned (Value.bool b310))) ∧
(((b310 = true) →
(∃ n312 : Nat, ((n312 < n270) ∧
(k268 n312 (IntKind.wrap IntKind.i64 (x273 + 1)) w309)))) ∧
((b310 = false) →
(R (Ending.returned (Value.bool false)) w309))))))))))))))))))))))))))))))))))))) →
(k285 w287))) →
(∃ x314 : Int, (((w283.cell? (⟨(hs w272), 0, none⟩ : Addr)) = (some (Value.int IntKind.i64 x314))) ∧
((((decide (x314 = 1)) = true) →
(∀ w316 : World, ((w316 = w283.drew) →
(∃ s318 : ByteArray, (((w316.cell? (⟨(hs w272), 3, none⟩ : Addr)) = (some (Value.string s318))) ∧
(∃ s319 : ByteArray, (((w316.cell? (⟨(hs w272), 3, none⟩ : Addr)) = (some (Value.string s319))) ∧
(Calls Tryd.prog 21 #[(Value.pointer o250), (Value.string s318)] w316 (fun (e320 : Ending) => (fun (w321 : World) => (∃ x322 : Int, ((e320 = (Ending.returned (Value.int IntKind.i64 x322))) ∧
((Nf.Kept w316 w321 (⟨(hs w272), 3, none⟩ : Addr) 1) ∧
(Calls Tryd.prog 22 #[(Value.pointer o261), (Value.string s319)] w321 (fun (e323 : Ending) => (fun (w324 : World) => (∃ x325 : Int, ((e323 = (Ending.returned (Value.int IntKind.i64 x325))) ∧
((((!(decide (x322 = x325))) = true) →
(R (Ending.returned (Value.bool false)) w324)) ∧
(((!(decide (x322 = x325))) = false) →
(k285 w324))))))))))))))))))))) ∧
(((decide (x314 = 1)) = false) →
(∀ w329 : World, ((w329 = w283.drew) →
(∃ x331 : Int, (((w329.cell? (⟨(hs w272), 1, none⟩ : Addr)) = (some (Value.int IntKind.i64 x331))) ∧
(∃ x332 : Int, (((w329.cell? (⟨(hs w272), 2, none⟩ : Addr)) = (some (Value.int IntKind.i64 x332))) ∧
(∃ x333 : Int, (((w329.cell? (⟨(hs w272), 1, none⟩ : Addr)) = (some (Value.int IntKind.i64 x333))) ∧
(∃ x334 : Int, (((w329.cell? (⟨(hs w272), 2, none⟩ : Addr)) = (some (Value.int IntKind.i64 x334))) ∧
(Calls Tryd.prog 24 #[(Value.pointer o250), (Value.int IntKind.i64 x331), (Value.int IntKind.i64 x332)] w329 (fun (e335 : Ending) => (fun (w336 : World) => (∃ o337 : Option Addr, (∃ n338 : Nat, (∃ n339 : Nat, ((e335 = (Ending.returned (Value.slice o337 n338 n339))) ∧
((Nf.Kept w329 w336 (⟨(hs w272), 2, none⟩ : Addr) 1) ∧
((Nf.Kept w329 w336 (⟨(hs w272), 1, none⟩ : Addr) 1) ∧
(Calls Tryd.prog 25 #[(Value.pointer o261), (Value.int IntKind.i64 x333), (Value.int IntKind.i64 x334)] w336 (fun (e340 : Ending) => (fun (w341 : World) => (∃ o342 : Option Addr, (∃ n343 : Nat, (∃ n344 : Nat, ((e340 = (Ending.returned (Value.slice o342 n343 n344))) ∧
(Calls Tryd.prog 23 #[(Value.slice o337 n338 n339), (Value.slice o342 n343 n344)] w341 (fun (e345 : Ending) => (fun (w346 : World) => (∃ b347 : Bool, ((e345 = (Ending.returned (Value.bool b347))) ∧
(((b347 = true) →
(k285 w346)) ∧
((b347 = false) →
(R (Ending.returned (Value.bool false)) w346))))))))))))))))))))))))))))))))))))))))))))))))))))))))) ∧
(((decide (x273 < ((l_n : Nat) : Int))) = false) →
(R (Ending.returned (Value.bool true)) w272))))))))))))))) ∧
((b262 = false) →
((((Option.isNone o250) = true) →
((((decide (x251 = 1)) = true) →
(R (Ending.returned (Value.bool true)) w260)) ∧
(((decide (x251 = 1)) = false) →
(R (Ending.returned (Value.bool false)) w260)))) ∧
(((Option.isNone o250) = false) →
(R (Ending.returned (Value.bool false)) w260)))))))))))) ∧
((b257 = false) →
(Calls Tryd.prog 20 #[(Value.agg #[(Value.string s252), (Value.slice o253 n254 n255)]), (Value.int IntKind.i64 x256), (Value.bool false)] w249 (fun (e357 : Ending) => (fun (w358 : World) => (∃ o359 : Option Addr, (∃ b360 : Bool, ((e357 = (Ending.returned (Value.tuple #[(Value.pointer o359), (Value.bool b360)]))) ∧
(((b360 = true) →
((((Option.isNone o250) = true) →
(R (Ending.returned (Value.bool false)) w358)) ∧
(((Option.isNone o250) = false) →
((((!(decide (x251 = 0))) = true) →
(R (Ending.returned (Value.bool false)) w358)) ∧
(((!(decide (x251 = 0))) = false) →
(∃ k366 : (Nat → (Int → (World → Prop))), ((∃ n367 : Nat, (k366 n367 0 w358)) ∧
(∀ n368 : Nat, ((Nat → Value) →
(∀ w370 : World, (∀ x371 : Int, ((k366 n368 x371 w370) →
((((decide (x371 < ((l_n : Nat) : Int))) = true) →
(∃ a374 : Addr, ((l = (some a374)) ∧
((((0 : Int) ≤ x371) ∧
(x371 < ((l_n : Nat) : Int))) ∧
(∃ x375 : Int, (((w370.cell? (Addr.add a374 ((x371).toNat * 4))) = (some (Value.int IntKind.i64 x375))) ∧
(∃ x376 : Int, (((w370.cell? (Addr.add (Addr.add a374 ((x371).toNat * 4)) 1)) = (some (Value.int IntKind.i64 x376))) ∧
(∃ x377 : Int, (((w370.cell? (Addr.add (Addr.add a374 ((x371).toNat * 4)) 2)) = (some (Value.int IntKind.i64 x377))) ∧
(∃ s378 : ByteArray, (((w370.cell? (Addr.add (Addr.add a374 ((x371).toNat * 4)) 3)) = (some (Value.string s378))) ∧
(∀ w379 : World, ((w379 = (w370.alloc (Obj.cells #[(Value.int IntKind.i64 0), (Value.int IntKind.i64 0), (Value.int IntKind.i64 0), (Value.string (ByteArray.mk #[]))] 49 (0, 0)))) →
((Nf.There w379 (⟨(hs w370), 0, none⟩ : Addr) 4) ∧
(∀ w381 : World, ((w381 = (Nf.setCells w379 (⟨(hs w370), 0, none⟩ : Addr) [(Value.int IntKind.i64 x375), (Value.int IntKind.i64 x376), (Value.int IntKind.i64 x377), (Value.string s378)] 0)) →
(∀ k383 : (World → Prop), ((∀ w385 : World, (((Nat → Value) →
(∀ w388 : World, ((w388 = w385.drew) →
(∃ a390 : Addr, ((o359 = (some a390)) ∧
(∃ x391 : Int, (((w388.cell? (Addr.add a390 4)) = (some (Value.int IntKind.i64 x391))) ∧
(Calls Tryd.prog 26 #[(Value.pointer o250)] w388 (fun (e392 : Ending) => (fun (w393 : World) => (∃ x394 : Int, ((e392 = (Ending.returned (Value.int IntKind.i64 x394))) ∧
((Nf.Kept w388 w393 (Addr.add a390 4) 1) ∧
((((!(decide (x394 = x391))) = true) →
(R (Ending.returned (Value.bool false)) w393)) ∧
(((!(decide (x394 = x391))) = false) →
(∃ a397 : Addr, ((o359 = (some a397)) ∧
(∃ o398 : Option Addr, (∃ n399 : Nat, (∃ n400 : Nat, (((w393.cell? (Addr.add a397 6)) = (some (Value.slice o398 n399 n400))) ∧
(Calls Tryd.prog 27 #[(Value.pointer o250)] w393 (fun (e401 : Ending) => (fun (w402 : World) => (∃ o403 : Option Addr, (∃ n404 : Nat, (∃ n405 : Nat, ((e401 = (Ending.returned (Value.slice o403 n404 n405))) ∧
((Nf.Kept w393 w402 (Addr.add a397 6) 1) ∧
(Calls Tryd.prog 23 #[(Value.slice o403 n404 n405), (Value.slice o398 n399 n400)] w402 (fun (e406 : Ending) => (fun (w407 : World) => (∃ b408 : Bool, ((e406 = (Ending.returned (Value.bool b408))) ∧
(((b408 = true) →
(∃ n410 : Nat, ((n410 < n368) ∧
(k366 n410 (IntKind.wrap IntKind.i64 (x371 + 1)) w407)))) ∧
((b408 = false) →
(R (Ending.returned (Value.bool false)) w407))))))))))))))))))))))))))))))))))))) →
(k383 w385))) →
(∃ x412 : Int, (((w381.cell? (⟨(hs w370), 0, none⟩ : Addr)) = (some (Value.int IntKind.i64 x412))) ∧
((((decide (x412 = 1)) = true) →
(∀ w414 : World, ((w414 = w381.drew) →
(∃ s416 : ByteArray, (((w414.cell? (⟨(hs w370), 3, none⟩ : Addr)) = (some (Value.string s416))) ∧
(∃ s417 : ByteArray, (((w414.cell? (⟨(hs w370), 3, none⟩ : Addr)) = (some (Value.string s417))) ∧
(Calls Tryd.prog 21 #[(Value.pointer o250), (Value.string s416)] w414 (fun (e418 : Ending) => (fun (w419 : World) => (∃ x420 : Int, ((e418 = (Ending.returned (Value.int IntKind.i64 x420))) ∧
((Nf.Kept w414 w419 (⟨(hs w370), 3, none⟩ : Addr) 1) ∧
(Calls Tryd.prog 22 #[(Value.pointer o359), (Value.string s417)] w419 (fun (e421 : Ending) => (fun (w422 : World) => (∃ x423 : Int, ((e421 = (Ending.returned (Value.int IntKind.i64 x423))) ∧
((((!(decide (x420 = x423))) = true) →
(R (Ending.returned (Value.bool false)) w422)) ∧
(((!(decide (x420 = x423))) = false) →
(k383 w422))))))))))))))))))))) ∧
(((decide (x412 = 1)) = false) →
(∀ w427 : World, ((w427 = w381.drew) →
(∃ x429 : Int, (((w427.cell? (⟨(hs w370), 1, none⟩ : Addr)) = (some (Value.int IntKind.i64 x429))) ∧
(∃ x430 : Int, (((w427.cell? (⟨(hs w370), 2, none⟩ : Addr)) = (some (Value.int IntKind.i64 x430))) ∧
(∃ x431 : Int, (((w427.cell? (⟨(hs w370), 1, none⟩ : Addr)) = (some (Value.int IntKind.i64 x431))) ∧
(∃ x432 : Int, (((w427.cell? (⟨(hs w370), 2, none⟩ : Addr)) = (some (Value.int IntKind.i64 x432))) ∧
(Calls Tryd.prog 24 #[(Value.pointer o250), (Value.int IntKind.i64 x429), (Value.int IntKind.i64 x430)] w427 (fun (e433 : Ending) => (fun (w434 : World) => (∃ o435 : Option Addr, (∃ n436 : Nat, (∃ n437 : Nat, ((e433 = (Ending.returned (Value.slice o435 n436 n437))) ∧
((Nf.Kept w427 w434 (⟨(hs w370), 2, none⟩ : Addr) 1) ∧
((Nf.Kept w427 w434 (⟨(hs w370), 1, none⟩ : Addr) 1) ∧
(Calls Tryd.prog 25 #[(Value.pointer o359), (Value.int IntKind.i64 x431), (Value.int IntKind.i64 x432)] w434 (fun (e438 : Ending) => (fun (w439 : World) => (∃ o440 : Option Addr, (∃ n441 : Nat, (∃ n442 : Nat, ((e438 = (Ending.returned (Value.slice o440 n441 n442))) ∧
(Calls Tryd.prog 23 #[(Value.slice o435 n436 n437), (Value.slice o440 n441 n442)] w439 (fun (e443 : Ending) => (fun (w444 : World) => (∃ b445 : Bool, ((e443 = (Ending.returned (Value.bool b445))) ∧
(((b445 = true) →
(k383 w444)) ∧
((b445 = false) →
(R (Ending.returned (Value.bool false)) w444))))))))))))))))))))))))))))))))))))))))))))))))))))))))) ∧
(((decide (x371 < ((l_n : Nat) : Int))) = false) →
(R (Ending.returned (Value.bool true)) w370))))))))))))))) ∧
((b360 = false) →
((((Option.isNone o250) = true) →
((((decide (x251 = 1)) = true) →
(R (Ending.returned (Value.bool true)) w358)) ∧
(((decide (x251 = 1)) = false) →
(R (Ending.returned (Value.bool false)) w358)))) ∧
(((Option.isNone o250) = false) →
(R (Ending.returned (Value.bool false)) w358)))))))))))))))))))))))))))))))))))))))))))))))))))))))) ∧
((b13 = false) →
(Calls Tryd.prog 11 #[] w12 (fun (e455 : Ending) => (fun (w456 : World) => (∃ b457 : Bool, ((e455 = (Ending.returned (Value.bool b457))) ∧
(R (Ending.returned (Value.bool b457)) w456)))))))))))))))))))) ∧
((b5 = false) →
(Calls Tryd.prog 11 #[] w4 (fun (e459 : Ending) => (fun (w460 : World) => (∃ b461 : Bool, ((e459 = (Ending.returned (Value.bool b461))) ∧
(R (Ending.returned (Value.bool b461)) w460)))))))))))))))) :
    Calls Tryd.prog 6 #[(.agg #[(.string x_P_Name), (.slice x_P_Steps x_P_Steps_n x_P_Steps_c), (.int .i64 x_Calm), (.bool x_Drill)]), (.slice l l_n l_c)] w R :=
  calls_of_vc an6 Tryd.func6 rfl (by kernel_rfl) (by kernel_rfl) (Eq.mp (by kernel_rfl) h)

/-- samaritan/samaritanlaw45.SurgeHysteresis -/
def an7 : An := (.seq (.reg []) (.seq (.regD [(6, 0, true)] [0, 1, 3, 4, 5, 6, 2, 7, 8, 9, 10, 11, 12] [2, 7]) (.seq (.seq (.reg [(0, 0, true), (5, 0, true), (11, 0, true), (15, 0, true), (19, 3, true)]) (.cond (.seq (.reg []) .nil) .nil)) (.seq (.reg []) (.seq (.seq (.reg []) (.blk (.loop [(9, .int .i64), (10, .int .i64), (48, .int .i64)] (.seq (.reg [(0, 0, true)]) (.seq (.cond .nil .nil) (.seq (.blk (.seq (.reg []) (.seq (.seq (.reg [(1, 0, true), (4, 0, true), (11, 0, true)]) (.cond (.seq (.reg []) .nil) .nil)) (.seq (.seq (.reg []) (.seq (.reg [(3, 0, true)]) (.cond (.seq (.reg []) .nil) .nil))) (.seq (.reg []) (.seq (.reg []) (.seq (.seq (.reg []) (.seq (.reg [(3, 0, true)]) (.cond (.seq (.reg []) .nil) .nil))) (.reg [])))))))) (.reg []))))))) (.seq (.reg []) .nil))))))
set_option maxRecDepth 100000 in
theorem nf7 (x_P_Name : ByteArray) (x_P_Steps : Option Addr) (x_P_Steps_n : Nat) (x_P_Steps_c : Nat) (x_Calm : Int) (x_Drill : Bool) (l : Option Addr) (l_n : Nat) (l_c : Nat) (gap : Int) (w : World) (R : Ending → World → Prop) (h :
(∀ w1 : World, ((w1 = (w.alloc (Obj.cells #[(Value.string x_P_Name), (Value.slice x_P_Steps x_P_Steps_n x_P_Steps_c), (Value.int IntKind.i64 x_Calm), (Value.bool x_Drill)] 39 (0, 0)))) →
(∀ w3 : World, ((w3 = w1.drew) →
(∃ s5 : ByteArray, (((w3.cell? (⟨(hs w), 0, none⟩ : Addr)) = (some (Value.string s5))) ∧
(∃ o6 : Option Addr, (∃ n7 : Nat, (∃ n8 : Nat, (((w3.cell? (⟨(hs w), 1, none⟩ : Addr)) = (some (Value.slice o6 n7 n8))) ∧
(∃ x9 : Int, (((w3.cell? (⟨(hs w), 2, none⟩ : Addr)) = (some (Value.int IntKind.i64 x9))) ∧
(∃ b10 : Bool, (((w3.cell? (⟨(hs w), 3, none⟩ : Addr)) = (some (Value.bool b10))) ∧
(((b10 = true) →
(Calls Tryd.prog 17 #[(Value.agg #[(Value.string s5), (Value.slice o6 n7 n8)])] w3 (fun (e12 : Ending) => (fun (w13 : World) => (∃ s14 : ByteArray, (∃ o15 : Option Addr, (∃ n16 : Nat, (∃ n17 : Nat, ((e12 = (Ending.returned (Value.agg #[(Value.string s14), (Value.slice o15 n16 n17)]))) ∧
((Nf.Kept w3 w13 (⟨(hs w), 3, none⟩ : Addr) 1) ∧
((Nf.Kept w3 w13 (⟨(hs w), 2, none⟩ : Addr) 1) ∧
(Calls Tryd.prog 19 #[(Value.agg #[(Value.string s14), (Value.slice o15 n16 n17)]), (Value.int IntKind.i64 x9), (Value.bool true)] w13 (fun (e18 : Ending) => (fun (w19 : World) => (∃ o20 : Option Addr, (∃ x21 : Int, ((e18 = (Ending.returned (Value.tuple #[(Value.pointer o20), (Value.int IntKind.i64 x21)]))) ∧
(Calls Tryd.prog 11 #[] w19 (fun (e22 : Ending) => (fun (w23 : World) => (∃ b24 : Bool, ((e22 = (Ending.returned (Value.bool b24))) ∧
(((b24 = true) →
(∃ s26 : ByteArray, (((w23.cell? (⟨(hs w), 0, none⟩ : Addr)) = (some (Value.string s26))) ∧
(∃ o27 : Option Addr, (∃ n28 : Nat, (∃ n29 : Nat, (((w23.cell? (⟨(hs w), 1, none⟩ : Addr)) = (some (Value.slice o27 n28 n29))) ∧
(Calls Tryd.prog 15 #[(Value.agg #[(Value.string s26), (Value.slice o27 n28 n29)])] w23 (fun (e30 : Ending) => (fun (w31 : World) => (∃ b32 : Bool, ((e30 = (Ending.returned (Value.bool b32))) ∧
(((b32 = true) →
((((decide (((l_n : Nat) : Int) > 40)) = true) →
(Calls Tryd.prog 11 #[] w31 (fun (e35 : Ending) => (fun (w36 : World) => (∃ b37 : Bool, ((e35 = (Ending.returned (Value.bool b37))) ∧
(R (Ending.returned (Value.bool b37)) w36))))))) ∧
(((decide (((l_n : Nat) : Int) > 40)) = false) →
((((!(decide (x21 = 0))) = true) →
(Calls Tryd.prog 11 #[] w31 (fun (e40 : Ending) => (fun (w41 : World) => (∃ b42 : Bool, ((e40 = (Ending.returned (Value.bool b42))) ∧
(R (Ending.returned (Value.bool b42)) w41))))))) ∧
(((!(decide (x21 = 0))) = false) →
((((Option.isNone o20) = true) →
(Calls Tryd.prog 11 #[] w31 (fun (e45 : Ending) => (fun (w46 : World) => (∃ b47 : Bool, ((e45 = (Ending.returned (Value.bool b47))) ∧
(R (Ending.returned (Value.bool b47)) w46))))))) ∧
(((Option.isNone o20) = false) →
(∃ k49 : (Nat → (Int → (Int → (Int → (World → Prop))))), ((∃ n50 : Nat, (k49 n50 0 0 0 w31)) ∧
(∀ n51 : Nat, ((Nat → Value) →
(∀ w53 : World, (∀ x54 : Int, (∀ x55 : Int, (∀ x56 : Int, ((k49 n51 x54 x55 x56 w53) →
((((decide (x56 < ((l_n : Nat) : Int))) = true) →
(∃ a59 : Addr, ((l = (some a59)) ∧
((((0 : Int) ≤ x56) ∧
(x56 < ((l_n : Nat) : Int))) ∧
(∃ x60 : Int, (((w53.cell? (Addr.add a59 ((x56).toNat * 4))) = (some (Value.int IntKind.i64 x60))) ∧
(∃ x61 : Int, (((w53.cell? (Addr.add (Addr.add a59 ((x56).toNat * 4)) 1)) = (some (Value.int IntKind.i64 x61))) ∧
(∃ x62 : Int, (((w53.cell? (Addr.add (Addr.add a59 ((x56).toNat * 4)) 2)) = (some (Value.int IntKind.i64 x62))) ∧
(∃ s63 : ByteArray, (((w53.cell? (Addr.add (Addr.add a59 ((x56).toNat * 4)) 3)) = (some (Value.string s63))) ∧
(∀ w64 : World, ((w64 = (w53.alloc (Obj.cells #[(Value.int IntKind.i64 0), (Value.int IntKind.i64 0), (Value.int IntKind.i64 0), (Value.string (ByteArray.mk #[]))] 49 (0, 0)))) →
((Nf.There w64 (⟨(hs w53), 0, none⟩ : Addr) 4) ∧
(∀ w66 : World, ((w66 = (Nf.setCells w64 (⟨(hs w53), 0, none⟩ : Addr) [(Value.int IntKind.i64 x60), (Value.int IntKind.i64 x61), (Value.int IntKind.i64 x62), (Value.string s63)] 0)) →
((((decide (gap < 1)) = true) →
(R (Ending.returned (Value.bool true)) w66)) ∧
(((decide (gap < 1)) = false) →
((((decide (gap > 1000)) = true) →
(R (Ending.returned (Value.bool true)) w66)) ∧
(((decide (gap > 1000)) = false) →
(∃ x72 : Int, (((w66.cell? (⟨(hs w), 2, none⟩ : Addr)) = (some (Value.int IntKind.i64 x72))) ∧
((((decide ((IntKind.wrap IntKind.i64 (2 * gap)) > x72)) = true) →
(R (Ending.returned (Value.bool true)) w66)) ∧
(((decide ((IntKind.wrap IntKind.i64 (2 * gap)) > x72)) = false) →
(∃ x75 : Int, (((w66.cell? (⟨(hs w53), 1, none⟩ : Addr)) = (some (Value.int IntKind.i64 x75))) ∧
(Calls Tryd.prog 24 #[(Value.pointer o20), (Value.int IntKind.i64 x75), (Value.int IntKind.i64 x54)] w66 (fun (e76 : Ending) => (fun (w77 : World) => (∃ o78 : Option Addr, (∃ n79 : Nat, (∃ n80 : Nat, ((e76 = (Ending.returned (Value.slice o78 n79 n80))) ∧
(Calls Tryd.prog 26 #[(Value.pointer o20)] w77 (fun (e81 : Ending) => (fun (w82 : World) => (∃ x83 : Int, ((e81 = (Ending.returned (Value.int IntKind.i64 x83))) ∧
((((decide (x83 < x55)) = true) →
(R (Ending.returned (Value.bool false)) w82)) ∧
(((decide (x83 < x55)) = false) →
(Calls Tryd.prog 26 #[(Value.pointer o20)] w82 (fun (e86 : Ending) => (fun (w87 : World) => (∃ x88 : Int, ((e86 = (Ending.returned (Value.int IntKind.i64 x88))) ∧
(Calls Tryd.prog 24 #[(Value.pointer o20), (Value.int IntKind.i64 x88), (Value.int IntKind.i64 (IntKind.wrap IntKind.i64 (x54 + gap)))] w87 (fun (e89 : Ending) => (fun (w90 : World) => (∃ o91 : Option Addr, (∃ n92 : Nat, (∃ n93 : Nat, ((e89 = (Ending.returned (Value.slice o91 n92 n93))) ∧
(Calls Tryd.prog 26 #[(Value.pointer o20)] w90 (fun (e94 : Ending) => (fun (w95 : World) => (∃ x96 : Int, ((e94 = (Ending.returned (Value.int IntKind.i64 x96))) ∧
((((!(decide (x96 = x88))) = true) →
(R (Ending.returned (Value.bool false)) w95)) ∧
(((!(decide (x96 = x88))) = false) →
(∃ n99 : Nat, ((n99 < n51) ∧
(k49 n99 (IntKind.wrap IntKind.i64 ((IntKind.wrap IntKind.i64 (x54 + gap)) + gap)) x88 (IntKind.wrap IntKind.i64 (x56 + 1)) w95))))))))))))))))))))))))))))))))))))))))))))))))))))))))))))))) ∧
(((decide (x56 < ((l_n : Nat) : Int))) = false) →
(R (Ending.returned (Value.bool true)) w53))))))))))))))))))) ∧
((b32 = false) →
(Calls Tryd.prog 11 #[] w31 (fun (e102 : Ending) => (fun (w103 : World) => (∃ b104 : Bool, ((e102 = (Ending.returned (Value.bool b104))) ∧
(R (Ending.returned (Value.bool b104)) w103)))))))))))))))))))) ∧
((b24 = false) →
(Calls Tryd.prog 11 #[] w23 (fun (e106 : Ending) => (fun (w107 : World) => (∃ b108 : Bool, ((e106 = (Ending.returned (Value.bool b108))) ∧
(R (Ending.returned (Value.bool b108)) w107)))))))))))))))))))))))))))))) ∧
((b10 = false) →
(Calls Tryd.prog 17 #[(Value.agg #[(Value.string s5), (Value.slice o6 n7 n8)])] w3 (fun (e110 : Ending) => (fun (w111 : World) => (∃ s112 : ByteArray, (∃ o113 : Option Addr, (∃ n114 : Nat, (∃ n115 : Nat, ((e110 = (Ending.returned (Value.agg #[(Value.string s112), (Value.slice o113 n114 n115)]))) ∧
((Nf.Kept w3 w111 (⟨(hs w), 3, none⟩ : Addr) 1) ∧
((Nf.Kept w3 w111 (⟨(hs w), 2, none⟩ : Addr) 1) ∧
(Calls Tryd.prog 19 #[(Value.agg #[(Value.string s112), (Value.slice o113 n114 n115)]), (Value.int IntKind.i64 x9), (Value.bool false)] w111 (fun (e116 : Ending) => (fun (w117 : World) => (∃ o118 : Option Addr, (∃ x119 : Int, ((e116 = (Ending.returned (Value.tuple #[(Value.pointer o118), (Value.int IntKind.i64 x119)]))) ∧
(Calls Tryd.prog 11 #[] w117 (fun (e120 : Ending) => (fun (w121 : World) => (∃ b122 : Bool, ((e120 = (Ending.returned (Value.bool b122))) ∧
(((b122 = true) →
(∃ s124 : ByteArray, (((w121.cell? (⟨(hs w), 0, none⟩ : Addr)) = (some (Value.string s124))) ∧
(∃ o125 : Option Addr, (∃ n126 : Nat, (∃ n127 : Nat, (((w121.cell? (⟨(hs w), 1, none⟩ : Addr)) = (some (Value.slice o125 n126 n127))) ∧
(Calls Tryd.prog 15 #[(Value.agg #[(Value.string s124), (Value.slice o125 n126 n127)])] w121 (fun (e128 : Ending) => (fun (w129 : World) => (∃ b130 : Bool, ((e128 = (Ending.returned (Value.bool b130))) ∧
(((b130 = true) →
((((decide (((l_n : Nat) : Int) > 40)) = true) →
(Calls Tryd.prog 11 #[] w129 (fun (e133 : Ending) => (fun (w134 : World) => (∃ b135 : Bool, ((e133 = (Ending.returned (Value.bool b135))) ∧
(R (Ending.returned (Value.bool b135)) w134))))))) ∧
(((decide (((l_n : Nat) : Int) > 40)) = false) →
((((!(decide (x119 = 0))) = true) →
(Calls Tryd.prog 11 #[] w129 (fun (e138 : Ending) => (fun (w139 : World) => (∃ b140 : Bool, ((e138 = (Ending.returned (Value.bool b140))) ∧
(R (Ending.returned (Value.bool b140)) w139))))))) ∧
(((!(decide (x119 = 0))) = false) →
((((Option.isNone o118) = true) →
(Calls Tryd.prog 11 #[] w129 (fun (e143 : Ending) => (fun (w144 : World) => (∃ b145 : Bool, ((e143 = (Ending.returned (Value.bool b145))) ∧
(R (Ending.returned (Value.bool b145)) w144))))))) ∧
(((Option.isNone o118) = false) →
(∃ k147 : (Nat → (Int → (Int → (Int → (World → Prop))))), ((∃ n148 : Nat, (k147 n148 0 0 0 w129)) ∧
(∀ n149 : Nat, ((Nat → Value) →
(∀ w151 : World, (∀ x152 : Int, (∀ x153 : Int, (∀ x154 : Int, ((k147 n149 x152 x153 x154 w151) →
((((decide (x154 < ((l_n : Nat) : Int))) = true) →
(∃ a157 : Addr, ((l = (some a157)) ∧
((((0 : Int) ≤ x154) ∧
(x154 < ((l_n : Nat) : Int))) ∧
(∃ x158 : Int, (((w151.cell? (Addr.add a157 ((x154).toNat * 4))) = (some (Value.int IntKind.i64 x158))) ∧
(∃ x159 : Int, (((w151.cell? (Addr.add (Addr.add a157 ((x154).toNat * 4)) 1)) = (some (Value.int IntKind.i64 x159))) ∧
(∃ x160 : Int, (((w151.cell? (Addr.add (Addr.add a157 ((x154).toNat * 4)) 2)) = (some (Value.int IntKind.i64 x160))) ∧
(∃ s161 : ByteArray, (((w151.cell? (Addr.add (Addr.add a157 ((x154).toNat * 4)) 3)) = (some (Value.string s161))) ∧
(∀ w162 : World, ((w162 = (w151.alloc (Obj.cells #[(Value.int IntKind.i64 0), (Value.int IntKind.i64 0), (Value.int IntKind.i64 0), (Value.string (ByteArray.mk #[]))] 49 (0, 0)))) →
((Nf.There w162 (⟨(hs w151), 0, none⟩ : Addr) 4) ∧
(∀ w164 : World, ((w164 = (Nf.setCells w162 (⟨(hs w151), 0, none⟩ : Addr) [(Value.int IntKind.i64 x158), (Value.int IntKind.i64 x159), (Value.int IntKind.i64 x160), (Value.string s161)] 0)) →
((((decide (gap < 1)) = true) →
(R (Ending.returned (Value.bool true)) w164)) ∧
(((decide (gap < 1)) = false) →
((((decide (gap > 1000)) = true) →
(R (Ending.returned (Value.bool true)) w164)) ∧
(((decide (gap > 1000)) = false) →
(∃ x170 : Int, (((w164.cell? (⟨(hs w), 2, none⟩ : Addr)) = (some (Value.int IntKind.i64 x170))) ∧
((((decide ((IntKind.wrap IntKind.i64 (2 * gap)) > x170)) = true) →
(R (Ending.returned (Value.bool true)) w164)) ∧
(((decide ((IntKind.wrap IntKind.i64 (2 * gap)) > x170)) = false) →
(∃ x173 : Int, (((w164.cell? (⟨(hs w151), 1, none⟩ : Addr)) = (some (Value.int IntKind.i64 x173))) ∧
(Calls Tryd.prog 24 #[(Value.pointer o118), (Value.int IntKind.i64 x173), (Value.int IntKind.i64 x152)] w164 (fun (e174 : Ending) => (fun (w175 : World) => (∃ o176 : Option Addr, (∃ n177 : Nat, (∃ n178 : Nat, ((e174 = (Ending.returned (Value.slice o176 n177 n178))) ∧
(Calls Tryd.prog 26 #[(Value.pointer o118)] w175 (fun (e179 : Ending) => (fun (w180 : World) => (∃ x181 : Int, ((e179 = (Ending.returned (Value.int IntKind.i64 x181))) ∧
((((decide (x181 < x153)) = true) →
(R (Ending.returned (Value.bool false)) w180)) ∧
(((decide (x181 < x153)) = false) →
(Calls Tryd.prog 26 #[(Value.pointer o118)] w180 (fun (e184 : Ending) => (fun (w185 : World) => (∃ x186 : Int, ((e184 = (Ending.returned (Value.int IntKind.i64 x186))) ∧
(Calls Tryd.prog 24 #[(Value.pointer o118), (Value.int IntKind.i64 x186), (Value.int IntKind.i64 (IntKind.wrap IntKind.i64 (x152 + gap)))] w185 (fun (e187 : Ending) => (fun (w188 : World) => (∃ o189 : Option Addr, (∃ n190 : Nat, (∃ n191 : Nat, ((e187 = (Ending.returned (Value.slice o189 n190 n191))) ∧
(Calls Tryd.prog 26 #[(Value.pointer o118)] w188 (fun (e192 : Ending) => (fun (w193 : World) => (∃ x194 : Int, ((e192 = (Ending.returned (Value.int IntKind.i64 x194))) ∧
((((!(decide (x194 = x186))) = true) →
(R (Ending.returned (Value.bool false)) w193)) ∧
(((!(decide (x194 = x186))) = false) →
(∃ n197 : Nat, ((n197 < n149) ∧
(k147 n197 (IntKind.wrap IntKind.i64 ((IntKind.wrap IntKind.i64 (x152 + gap)) + gap)) x186 (IntKind.wrap IntKind.i64 (x154 + 1)) w193))))))))))))))))))))))))))))))))))))))))))))))))))))))))))))))) ∧
(((decide (x154 < ((l_n : Nat) : Int))) = false) →
(R (Ending.returned (Value.bool true)) w151))))))))))))))))))) ∧
((b130 = false) →
(Calls Tryd.prog 11 #[] w129 (fun (e200 : Ending) => (fun (w201 : World) => (∃ b202 : Bool, ((e200 = (Ending.returned (Value.bool b202))) ∧
(R (Ending.returned (Value.bool b202)) w201)))))))))))))))))))) ∧
((b122 = false) →
(Calls Tryd.prog 11 #[] w121 (fun (e204 : Ending) => (fun (w205 : World) => (∃ b206 : Bool, ((e204 = (Ending.returned (Value.bool b206))) ∧
(R (Ending.returned (Value.bool b206)) w205)))))))))))))))))))))))))))))))))))))))))))))) :
    Calls Tryd.prog 7 #[(.agg #[(.string x_P_Name), (.slice x_P_Steps x_P_Steps_n x_P_Steps_c), (.int .i64 x_Calm), (.bool x_Drill)]), (.slice l l_n l_c), (.int .i64 gap)] w R :=
  calls_of_vc an7 Tryd.func7 rfl (by kernel_rfl) (by kernel_rfl) (Eq.mp (by kernel_rfl) h)

/-- samaritan/samaritanlaw45.SurgeDrill -/
def an8 : An := (.seq (.reg []) (.seq (.seq (.reg [(0, 0, true), (5, 0, true), (11, 0, true)]) (.cond (.seq (.reg []) .nil) .nil)) (.seq (.regD [] [0, 1, 3, 4, 2, 5, 6, 7, 8, 9, 10] [2, 5]) (.seq (.regD [] [0, 1, 3, 4, 2, 5, 6, 7, 8, 9, 10] [2, 5]) (.seq (.seq (.reg [(1, 0, true), (4, 0, true), (8, 3, true), (12, 3, true)]) (.cond (.seq (.reg [(2, 0, true)]) .nil) .nil)) (.seq (.seq (.reg []) (.blk (.loop [(62, .int .i64)] (.seq (.reg [(0, 0, true)]) (.seq (.cond .nil .nil) (.seq (.blk (.seq (.reg []) (.cut [] (.seq (.reg [(2, 0, true)]) (.cond (.seq (.regD [(8, 0, true)] [0, 1, 2, 4, 5, 6, 3, 7, 8] [3, 7]) (.cond (.seq (.reg []) .nil) .nil)) (.seq (.reg []) (.seq (.reg [(7, 0, true)]) (.cond (.seq (.reg []) .nil) .nil))))) (.seq (.reg [(4, 0, true), (10, 0, true)]) (.cond (.seq (.reg []) .nil) .nil))))) (.reg []))))))) (.seq (.reg []) .nil)))))))
set_option maxRecDepth 100000 in
theorem nf8 (x_P_Name : ByteArray) (x_P_Steps : Option Addr) (x_P_Steps_n : Nat) (x_P_Steps_c : Nat) (x_Calm : Int) (x_Drill : Bool) (l : Option Addr) (l_n : Nat) (l_c : Nat) (w : World) (R : Ending → World → Prop) (h :
(∀ w1 : World, ((w1 = (w.alloc (Obj.cells #[(Value.string x_P_Name), (Value.slice x_P_Steps x_P_Steps_n x_P_Steps_c), (Value.int IntKind.i64 x_Calm), (Value.bool x_Drill)] 39 (0, 0)))) →
(Calls Tryd.prog 11 #[] w1 (fun (e3 : Ending) => (fun (w4 : World) => (∃ b5 : Bool, ((e3 = (Ending.returned (Value.bool b5))) ∧
(((b5 = true) →
(∃ s7 : ByteArray, (((w4.cell? (⟨(hs w), 0, none⟩ : Addr)) = (some (Value.string s7))) ∧
(∃ o8 : Option Addr, (∃ n9 : Nat, (∃ n10 : Nat, (((w4.cell? (⟨(hs w), 1, none⟩ : Addr)) = (some (Value.slice o8 n9 n10))) ∧
(Calls Tryd.prog 15 #[(Value.agg #[(Value.string s7), (Value.slice o8 n9 n10)])] w4 (fun (e11 : Ending) => (fun (w12 : World) => (∃ b13 : Bool, ((e11 = (Ending.returned (Value.bool b13))) ∧
(((b13 = true) →
((((decide (((l_n : Nat) : Int) > 40)) = true) →
(Calls Tryd.prog 11 #[] w12 (fun (e16 : Ending) => (fun (w17 : World) => (∃ b18 : Bool, ((e16 = (Ending.returned (Value.bool b18))) ∧
(R (Ending.returned (Value.bool b18)) w17))))))) ∧
(((decide (((l_n : Nat) : Int) > 40)) = false) →
(∀ w20 : World, ((w20 = w12.drew) →
(∃ s22 : ByteArray, (((w20.cell? (⟨(hs w), 0, none⟩ : Addr)) = (some (Value.string s22))) ∧
(∃ o23 : Option Addr, (∃ n24 : Nat, (∃ n25 : Nat, (((w20.cell? (⟨(hs w), 1, none⟩ : Addr)) = (some (Value.slice o23 n24 n25))) ∧
(∃ x26 : Int, (((w20.cell? (⟨(hs w), 2, none⟩ : Addr)) = (some (Value.int IntKind.i64 x26))) ∧
(Calls Tryd.prog 17 #[(Value.agg #[(Value.string s22), (Value.slice o23 n24 n25)])] w20 (fun (e27 : Ending) => (fun (w28 : World) => (∃ s29 : ByteArray, (∃ o30 : Option Addr, (∃ n31 : Nat, (∃ n32 : Nat, ((e27 = (Ending.returned (Value.agg #[(Value.string s29), (Value.slice o30 n31 n32)]))) ∧
((Nf.Kept w20 w28 (⟨(hs w), 2, none⟩ : Addr) 1) ∧
(Calls Tryd.prog 19 #[(Value.agg #[(Value.string s29), (Value.slice o30 n31 n32)]), (Value.int IntKind.i64 x26), (Value.bool false)] w28 (fun (e33 : Ending) => (fun (w34 : World) => (∃ o35 : Option Addr, (∃ x36 : Int, ((e33 = (Ending.returned (Value.tuple #[(Value.pointer o35), (Value.int IntKind.i64 x36)]))) ∧
(∀ w37 : World, ((w37 = w34.drew) →
(∃ s39 : ByteArray, (((w37.cell? (⟨(hs w), 0, none⟩ : Addr)) = (some (Value.string s39))) ∧
(∃ o40 : Option Addr, (∃ n41 : Nat, (∃ n42 : Nat, (((w37.cell? (⟨(hs w), 1, none⟩ : Addr)) = (some (Value.slice o40 n41 n42))) ∧
(∃ x43 : Int, (((w37.cell? (⟨(hs w), 2, none⟩ : Addr)) = (some (Value.int IntKind.i64 x43))) ∧
(Calls Tryd.prog 17 #[(Value.agg #[(Value.string s39), (Value.slice o40 n41 n42)])] w37 (fun (e44 : Ending) => (fun (w45 : World) => (∃ s46 : ByteArray, (∃ o47 : Option Addr, (∃ n48 : Nat, (∃ n49 : Nat, ((e44 = (Ending.returned (Value.agg #[(Value.string s46), (Value.slice o47 n48 n49)]))) ∧
((Nf.Kept w37 w45 (⟨(hs w), 2, none⟩ : Addr) 1) ∧
(Calls Tryd.prog 19 #[(Value.agg #[(Value.string s46), (Value.slice o47 n48 n49)]), (Value.int IntKind.i64 x43), (Value.bool true)] w45 (fun (e50 : Ending) => (fun (w51 : World) => (∃ o52 : Option Addr, (∃ x53 : Int, ((e50 = (Ending.returned (Value.tuple #[(Value.pointer o52), (Value.int IntKind.i64 x53)]))) ∧
((((!(decide (x36 = 0))) = true) →
((((decide (x36 = x53)) = true) →
(R (Ending.returned (Value.bool true)) w51)) ∧
(((decide (x36 = x53)) = false) →
(R (Ending.returned (Value.bool false)) w51)))) ∧
(((!(decide (x36 = 0))) = false) →
((((!(decide (x53 = 0))) = true) →
((((decide (x36 = x53)) = true) →
(R (Ending.returned (Value.bool true)) w51)) ∧
(((decide (x36 = x53)) = false) →
(R (Ending.returned (Value.bool false)) w51)))) ∧
(((!(decide (x53 = 0))) = false) →
((((Option.isNone o35) = true) →
((((decide (x36 = x53)) = true) →
(R (Ending.returned (Value.bool true)) w51)) ∧
(((decide (x36 = x53)) = false) →
(R (Ending.returned (Value.bool false)) w51)))) ∧
(((Option.isNone o35) = false) →
((((Option.isNone o52) = true) →
((((decide (x36 = x53)) = true) →
(R (Ending.returned (Value.bool true)) w51)) ∧
(((decide (x36 = x53)) = false) →
(R (Ending.returned (Value.bool false)) w51)))) ∧
(((Option.isNone o52) = false) →
(∃ k70 : (Nat → (Int → (World → Prop))), ((∃ n71 : Nat, (k70 n71 0 w51)) ∧
(∀ n72 : Nat, ((Nat → Value) →
(∀ w74 : World, (∀ x75 : Int, ((k70 n72 x75 w74) →
((((decide (x75 < ((l_n : Nat) : Int))) = true) →
(∃ a78 : Addr, ((l = (some a78)) ∧
((((0 : Int) ≤ x75) ∧
(x75 < ((l_n : Nat) : Int))) ∧
(∃ x79 : Int, (((w74.cell? (Addr.add a78 ((x75).toNat * 4))) = (some (Value.int IntKind.i64 x79))) ∧
(∃ x80 : Int, (((w74.cell? (Addr.add (Addr.add a78 ((x75).toNat * 4)) 1)) = (some (Value.int IntKind.i64 x80))) ∧
(∃ x81 : Int, (((w74.cell? (Addr.add (Addr.add a78 ((x75).toNat * 4)) 2)) = (some (Value.int IntKind.i64 x81))) ∧
(∃ s82 : ByteArray, (((w74.cell? (Addr.add (Addr.add a78 ((x75).toNat * 4)) 3)) = (some (Value.string s82))) ∧
(∀ w83 : World, ((w83 = (w74.alloc (Obj.cells #[(Value.int IntKind.i64 0), (Value.int IntKind.i64 0), (Value.int IntKind.i64 0), (Value.string (ByteArray.mk #[]))] 49 (0, 0)))) →
((Nf.There w83 (⟨(hs w74), 0, none⟩ : Addr) 4) ∧
(∀ w85 : World, ((w85 = (Nf.setCells w83 (⟨(hs w74), 0, none⟩ : Addr) [(Value.int IntKind.i64 x79), (Value.int IntKind.i64 x80), (Value.int IntKind.i64 x81), (Value.string s82)] 0)) →
(∀ k87 : (World → Prop), ((∀ w89 : World, (((Nat → Value) →
(Calls Tryd.prog 26 #[(Value.pointer o35)] w89 (fun (e92 : Ending) => (fun (w93 : World) => (∃ x94 : Int, ((e92 = (Ending.returned (Value.int IntKind.i64 x94))) ∧
(Calls Tryd.prog 26 #[(Value.pointer o52)] w93 (fun (e95 : Ending) => (fun (w96 : World) => (∃ x97 : Int, ((e95 = (Ending.returned (Value.int IntKind.i64 x97))) ∧
((((!(decide (x94 = x97))) = true) →
(R (Ending.returned (Value.bool false)) w96)) ∧
(((!(decide (x94 = x97))) = false) →
(Calls Tryd.prog 27 #[(Value.pointer o35)] w96 (fun (e100 : Ending) => (fun (w101 : World) => (∃ o102 : Option Addr, (∃ n103 : Nat, (∃ n104 : Nat, ((e100 = (Ending.returned (Value.slice o102 n103 n104))) ∧
(Calls Tryd.prog 27 #[(Value.pointer o52)] w101 (fun (e105 : Ending) => (fun (w106 : World) => (∃ o107 : Option Addr, (∃ n108 : Nat, (∃ n109 : Nat, ((e105 = (Ending.returned (Value.slice o107 n108 n109))) ∧
(Calls Tryd.prog 23 #[(Value.slice o102 n103 n104), (Value.slice o107 n108 n109)] w106 (fun (e110 : Ending) => (fun (w111 : World) => (∃ b112 : Bool, ((e110 = (Ending.returned (Value.bool b112))) ∧
(((b112 = true) →
(∃ n114 : Nat, ((n114 < n72) ∧
(k70 n114 (IntKind.wrap IntKind.i64 (x75 + 1)) w111)))) ∧
((b112 = false) →
(R (Ending.returned (Value.bool false)) w111))))))))))))))))))))))))))))))))))) →
(k87 w89))) →
(∃ x116 : Int, (((w85.cell? (⟨(hs w74), 0, none⟩ : Addr)) = (some (Value.int IntKind.i64 x116))) ∧
((((decide (x116 = 1)) = true) →
(∀ w118 : World, ((w118 = w85.drew) →
(∃ s120 : ByteArray, (((w118.cell? (⟨(hs w74), 3, none⟩ : Addr)) = (some (Value.string s120))) ∧
(∃ s121 : ByteArray, (((w118.cell? (⟨(hs w74), 3, none⟩ : Addr)) = (some (Value.string s121))) ∧
(Calls Tryd.prog 21 #[(Value.pointer o35), (Value.string s120)] w118 (fun (e122 : Ending) => (fun (w123 : World) => (∃ x124 : Int, ((e122 = (Ending.returned (Value.int IntKind.i64 x124))) ∧
((Nf.Kept w118 w123 (⟨(hs w74), 3, none⟩ : Addr) 1) ∧
(Calls Tryd.prog 21 #[(Value.pointer o52), (Value.string s121)] w123 (fun (e125 : Ending) => (fun (w126 : World) => (∃ x127 : Int, ((e125 = (Ending.returned (Value.int IntKind.i64 x127))) ∧
((((!(decide (x124 = x127))) = true) →
(R (Ending.returned (Value.bool false)) w126)) ∧
(((!(decide (x124 = x127))) = false) →
(k87 w126))))))))))))))))))))) ∧
(((decide (x116 = 1)) = false) →
(∃ x131 : Int, (((w85.cell? (⟨(hs w74), 1, none⟩ : Addr)) = (some (Value.int IntKind.i64 x131))) ∧
(∃ x132 : Int, (((w85.cell? (⟨(hs w74), 2, none⟩ : Addr)) = (some (Value.int IntKind.i64 x132))) ∧
(Calls Tryd.prog 24 #[(Value.pointer o35), (Value.int IntKind.i64 x131), (Value.int IntKind.i64 x132)] w85 (fun (e133 : Ending) => (fun (w134 : World) => (∃ o135 : Option Addr, (∃ n136 : Nat, (∃ n137 : Nat, ((e133 = (Ending.returned (Value.slice o135 n136 n137))) ∧
(∃ x138 : Int, (((w134.cell? (⟨(hs w74), 1, none⟩ : Addr)) = (some (Value.int IntKind.i64 x138))) ∧
(∃ x139 : Int, (((w134.cell? (⟨(hs w74), 2, none⟩ : Addr)) = (some (Value.int IntKind.i64 x139))) ∧
(Calls Tryd.prog 24 #[(Value.pointer o52), (Value.int IntKind.i64 x138), (Value.int IntKind.i64 x139)] w134 (fun (e140 : Ending) => (fun (w141 : World) => (∃ o142 : Option Addr, (∃ n143 : Nat, (∃ n144 : Nat, ((e140 = (Ending.returned (Value.slice o142 n143 n144))) ∧
((((!(decide (((n143 : Nat) : Int) = 0))) = true) →
(R (Ending.returned (Value.bool false)) w141)) ∧
(((!(decide (((n143 : Nat) : Int) = 0))) = false) →
(k87 w141)))))))))))))))))))))))))))))))))))))))))))))))) ∧
(((decide (x75 < ((l_n : Nat) : Int))) = false) →
(R (Ending.returned (Value.bool true)) w74))))))))))))))))))))))))))))))))))))))))))))))))))))))))))))))))))))))) ∧
((b13 = false) →
(Calls Tryd.prog 11 #[] w12 (fun (e149 : Ending) => (fun (w150 : World) => (∃ b151 : Bool, ((e149 = (Ending.returned (Value.bool b151))) ∧
(R (Ending.returned (Value.bool b151)) w150)))))))))))))))))))) ∧
((b5 = false) →
(Calls Tryd.prog 11 #[] w4 (fun (e153 : Ending) => (fun (w154 : World) => (∃ b155 : Bool, ((e153 = (Ending.returned (Value.bool b155))) ∧
(R (Ending.returned (Value.bool b155)) w154)))))))))))))))) :
    Calls Tryd.prog 8 #[(.agg #[(.string x_P_Name), (.slice x_P_Steps x_P_Steps_n x_P_Steps_c), (.int .i64 x_Calm), (.bool x_Drill)]), (.slice l l_n l_c)] w R :=
  calls_of_vc an8 Tryd.func8 rfl (by kernel_rfl) (by kernel_rfl) (Eq.mp (by kernel_rfl) h)

/-- samaritan/samaritanlaw45.SurgeFormat -/
def an9 : An := (.seq (.reg []) (.seq (.seq (.reg [(0, 0, true), (4, 0, true)]) (.cond (.seq (.reg []) .nil) .nil)) (.seq (.reg []) (.seq (.reg []) (.seq (.seq (.reg [(2, 3, true), (6, 0, true)]) (.cond (.seq (.reg []) .nil) .nil)) (.seq (.reg []) (.seq (.regD [(1, 0, true), (6, 0, true), (9, 0, true), (13, 0, true)] [0, 1, 2, 3, 5, 4, 6, 7, 8, 9, 10, 11, 12, 13, 14, 15, 16] [4, 6]) .nil)))))))
set_option maxRecDepth 100000 in
theorem nf9 (p_Name : ByteArray) (p_Steps : Option Addr) (p_Steps_n : Nat) (p_Steps_c : Nat) (w : World) (R : Ending → World → Prop) (h :
(∀ w1 : World, ((w1 = (w.alloc (Obj.cells #[(Value.string p_Name), (Value.slice p_Steps p_Steps_n p_Steps_c)] 32 (0, 0)))) →
(Calls Tryd.prog 11 #[] w1 (fun (e3 : Ending) => (fun (w4 : World) => (∃ b5 : Bool, ((e3 = (Ending.returned (Value.bool b5))) ∧
(((b5 = true) →
(∃ s7 : ByteArray, (((w4.cell? (⟨(hs w), 0, none⟩ : Addr)) = (some (Value.string s7))) ∧
(∃ o8 : Option Addr, (∃ n9 : Nat, (∃ n10 : Nat, (((w4.cell? (⟨(hs w), 1, none⟩ : Addr)) = (some (Value.slice o8 n9 n10))) ∧
(Calls Tryd.prog 15 #[(Value.agg #[(Value.string s7), (Value.slice o8 n9 n10)])] w4 (fun (e11 : Ending) => (fun (w12 : World) => (∃ b13 : Bool, ((e11 = (Ending.returned (Value.bool b13))) ∧
(((b13 = true) →
(∃ s15 : ByteArray, (((w12.cell? (⟨(hs w), 0, none⟩ : Addr)) = (some (Value.string s15))) ∧
(∃ o16 : Option Addr, (∃ n17 : Nat, (∃ n18 : Nat, (((w12.cell? (⟨(hs w), 1, none⟩ : Addr)) = (some (Value.slice o16 n17 n18))) ∧
(Calls Tryd.prog 17 #[(Value.agg #[(Value.string s15), (Value.slice o16 n17 n18)])] w12 (fun (e19 : Ending) => (fun (w20 : World) => (∃ s21 : ByteArray, (∃ o22 : Option Addr, (∃ n23 : Nat, (∃ n24 : Nat, ((e19 = (Ending.returned (Value.agg #[(Value.string s21), (Value.slice o22 n23 n24)]))) ∧
(Calls Tryd.prog 28 #[(Value.agg #[(Value.string s21), (Value.slice o22 n23 n24)])] w20 (fun (e25 : Ending) => (fun (w26 : World) => (∃ s27 : ByteArray, (∃ x28 : Int, ((e25 = (Ending.returned (Value.tuple #[(Value.string s27), (Value.int IntKind.i64 x28)]))) ∧
(∃ s29 : ByteArray, (((w26.cell? (⟨(hs w), 0, none⟩ : Addr)) = (some (Value.string s29))) ∧
(∃ o30 : Option Addr, (∃ n31 : Nat, (∃ n32 : Nat, (((w26.cell? (⟨(hs w), 1, none⟩ : Addr)) = (some (Value.slice o30 n31 n32))) ∧
(Calls Tryd.prog 29 #[(Value.agg #[(Value.string s29), (Value.slice o30 n31 n32)])] w26 (fun (e33 : Ending) => (fun (w34 : World) => (∃ s35 : ByteArray, (∃ x36 : Int, ((e33 = (Ending.returned (Value.tuple #[(Value.string s35), (Value.int IntKind.i64 x36)]))) ∧
((((!(Nf.strEq s27 s35)) = true) →
(R (Ending.returned (Value.bool false)) w34)) ∧
(((!(Nf.strEq s27 s35)) = false) →
((((!(decide (x28 = x36))) = true) →
(R (Ending.returned (Value.bool false)) w34)) ∧
(((!(decide (x28 = x36))) = false) →
(Calls Tryd.prog 30 #[(Value.string s27)] w34 (fun (e41 : Ending) => (fun (w42 : World) => (∃ s43 : ByteArray, (∃ o44 : Option Addr, (∃ n45 : Nat, (∃ n46 : Nat, (∃ x47 : Int, (∃ x48 : Int, ((e41 = (Ending.returned (Value.tuple #[(Value.agg #[(Value.string s43), (Value.slice o44 n45 n46)]), (Value.int IntKind.i64 x47), (Value.int IntKind.i64 x48)]))) ∧
(∀ w49 : World, ((w49 = (w42.alloc (Obj.cells #[(Value.string (ByteArray.mk #[])), (Value.slice none 0 0)] 35 (0, 0)))) →
((Nf.There w49 (⟨(hs w42), 0, none⟩ : Addr) 2) ∧
(∀ w51 : World, ((w51 = (Nf.setCells w49 (⟨(hs w42), 0, none⟩ : Addr) [(Value.string s43), (Value.slice o44 n45 n46)] 0)) →
(∀ w53 : World, ((w53 = w51.drew) →
((((!(decide (x28 = 0))) = true) →
(R (Ending.returned (Value.bool true)) w53)) ∧
(((!(decide (x28 = 0))) = false) →
(∃ s57 : ByteArray, (((w53.cell? (⟨(hs w42), 0, none⟩ : Addr)) = (some (Value.string s57))) ∧
(∃ o58 : Option Addr, (∃ n59 : Nat, (∃ n60 : Nat, (((w53.cell? (⟨(hs w42), 1, none⟩ : Addr)) = (some (Value.slice o58 n59 n60))) ∧
(∃ s61 : ByteArray, (((w53.cell? (⟨(hs w), 0, none⟩ : Addr)) = (some (Value.string s61))) ∧
(∃ o62 : Option Addr, (∃ n63 : Nat, (∃ n64 : Nat, (((w53.cell? (⟨(hs w), 1, none⟩ : Addr)) = (some (Value.slice o62 n63 n64))) ∧
(Calls Tryd.prog 32 #[(Value.agg #[(Value.string s57), (Value.slice o58 n59 n60)])] w53 (fun (e65 : Ending) => (fun (w66 : World) => (∃ s67 : ByteArray, (∃ o68 : Option Addr, (∃ n69 : Nat, (∃ n70 : Nat, ((e65 = (Ending.returned (Value.agg #[(Value.string s67), (Value.slice o68 n69 n70)]))) ∧
((Nf.Kept w53 w66 (⟨(hs w), 0, none⟩ : Addr) 2) ∧
(Calls Tryd.prog 31 #[(Value.agg #[(Value.string s67), (Value.slice o68 n69 n70)]), (Value.agg #[(Value.string s61), (Value.slice o62 n63 n64)])] w66 (fun (e71 : Ending) => (fun (w72 : World) => (∃ b73 : Bool, ((e71 = (Ending.returned (Value.bool b73))) ∧
(((b73 = true) →
((((decide (x47 = 0)) = true) →
((((decide (x48 = 0)) = true) →
(R (Ending.returned (Value.bool true)) w72)) ∧
(((decide (x48 = 0)) = false) →
(R (Ending.returned (Value.bool false)) w72)))) ∧
(((decide (x47 = 0)) = false) →
(R (Ending.returned (Value.bool false)) w72)))) ∧
((b73 = false) →
(R (Ending.returned (Value.bool false)) w72))))))))))))))))))))))))))))))))))))))))))))))))))))))))))))))))))))))))))))))))))))) ∧
((b13 = false) →
(Calls Tryd.prog 11 #[] w12 (fun (e81 : Ending) => (fun (w82 : World) => (∃ b83 : Bool, ((e81 = (Ending.returned (Value.bool b83))) ∧
(R (Ending.returned (Value.bool b83)) w82)))))))))))))))))))) ∧
((b5 = false) →
(Calls Tryd.prog 11 #[] w4 (fun (e85 : Ending) => (fun (w86 : World) => (∃ b87 : Bool, ((e85 = (Ending.returned (Value.bool b87))) ∧
(R (Ending.returned (Value.bool b87)) w86)))))))))))))))) :
    Calls Tryd.prog 9 #[(.agg #[(.string p_Name), (.slice p_Steps p_Steps_n p_Steps_c)])] w R :=
  calls_of_vc an9 Tryd.func9 rfl (by kernel_rfl) (by kernel_rfl) (Eq.mp (by kernel_rfl) h)

/-- samaritan/samaritanlaw45.SurgeParse -/
def an10 : An := (.seq (.reg []) (.seq (.seq (.reg [(0, 0, true), (5, 0, true)]) (.cond (.seq (.reg []) .nil) .nil)) (.seq (.reg []) (.seq (.reg []) (.seq (.seq (.regD [(3, 0, true), (8, 0, true), (13, 0, true)] [0, 2, 1, 3, 4, 5, 6, 7, 8, 9, 10, 11, 12, 13, 14] [1, 3]) (.cond (.seq (.reg []) .nil) .nil)) (.seq (.reg []) (.seq (.reg [(1, 0, true), (5, 3, true), (8, 0, true)]) .nil)))))))
set_option maxRecDepth 100000 in
theorem nf10 (s : ByteArray) (w : World) (R : Ending → World → Prop) (h :
(Calls Tryd.prog 11 #[] w (fun (e1 : Ending) => (fun (w2 : World) => (∃ b3 : Bool, ((e1 = (Ending.returned (Value.bool b3))) ∧
(((b3 = true) →
((((decide ((((ByteArray.size s) : Nat) : Int) > 1500)) = true) →
(Calls Tryd.prog 11 #[] w2 (fun (e6 : Ending) => (fun (w7 : World) => (∃ b8 : Bool, ((e6 = (Ending.returned (Value.bool b8))) ∧
(R (Ending.returned (Value.bool b8)) w7))))))) ∧
(((decide ((((ByteArray.size s) : Nat) : Int) > 1500)) = false) →
(Calls Tryd.prog 30 #[(Value.string s)] w2 (fun (e10 : Ending) => (fun (w11 : World) => (∃ s12 : ByteArray, (∃ o13 : Option Addr, (∃ n14 : Nat, (∃ n15 : Nat, (∃ x16 : Int, (∃ x17 : Int, ((e10 = (Ending.returned (Value.tuple #[(Value.agg #[(Value.string s12), (Value.slice o13 n14 n15)]), (Value.int IntKind.i64 x16), (Value.int IntKind.i64 x17)]))) ∧
(∀ w18 : World, ((w18 = (w11.alloc (Obj.cells #[(Value.string (ByteArray.mk #[])), (Value.slice none 0 0)] 35 (0, 0)))) →
((Nf.There w18 (⟨(hs w11), 0, none⟩ : Addr) 2) ∧
(∀ w20 : World, ((w20 = (Nf.setCells w18 (⟨(hs w11), 0, none⟩ : Addr) [(Value.string s12), (Value.slice o13 n14 n15)] 0)) →
(Calls Tryd.prog 33 #[(Value.string s)] w20 (fun (e22 : Ending) => (fun (w23 : World) => (∃ s24 : ByteArray, (∃ o25 : Option Addr, (∃ n26 : Nat, (∃ n27 : Nat, (∃ x28 : Int, (∃ x29 : Int, ((e22 = (Ending.returned (Value.tuple #[(Value.agg #[(Value.string s24), (Value.slice o25 n26 n27)]), (Value.int IntKind.i64 x28), (Value.int IntKind.i64 x29)]))) ∧
(∀ w30 : World, ((w30 = (w23.alloc (Obj.cells #[(Value.string (ByteArray.mk #[])), (Value.slice none 0 0)] 32 (0, 0)))) →
((Nf.There w30 (⟨(hs w23), 0, none⟩ : Addr) 2) ∧
(∀ w32 : World, ((w32 = (Nf.setCells w30 (⟨(hs w23), 0, none⟩ : Addr) [(Value.string s24), (Value.slice o25 n26 n27)] 0)) →
(∀ w34 : World, ((w34 = w32.drew) →
(∃ s36 : ByteArray, (((w34.cell? (⟨(hs w11), 0, none⟩ : Addr)) = (some (Value.string s36))) ∧
(∃ o37 : Option Addr, (∃ n38 : Nat, (∃ n39 : Nat, (((w34.cell? (⟨(hs w11), 1, none⟩ : Addr)) = (some (Value.slice o37 n38 n39))) ∧
(∃ s40 : ByteArray, (((w34.cell? (⟨(hs w23), 0, none⟩ : Addr)) = (some (Value.string s40))) ∧
(∃ o41 : Option Addr, (∃ n42 : Nat, (∃ n43 : Nat, (((w34.cell? (⟨(hs w23), 1, none⟩ : Addr)) = (some (Value.slice o41 n42 n43))) ∧
(Calls Tryd.prog 32 #[(Value.agg #[(Value.string s36), (Value.slice o37 n38 n39)])] w34 (fun (e44 : Ending) => (fun (w45 : World) => (∃ s46 : ByteArray, (∃ o47 : Option Addr, (∃ n48 : Nat, (∃ n49 : Nat, ((e44 = (Ending.returned (Value.agg #[(Value.string s46), (Value.slice o47 n48 n49)]))) ∧
((Nf.Kept w34 w45 (⟨(hs w23), 0, none⟩ : Addr) 2) ∧
(Calls Tryd.prog 31 #[(Value.agg #[(Value.string s46), (Value.slice o47 n48 n49)]), (Value.agg #[(Value.string s40), (Value.slice o41 n42 n43)])] w45 (fun (e50 : Ending) => (fun (w51 : World) => (∃ b52 : Bool, ((e50 = (Ending.returned (Value.bool b52))) ∧
(((b52 = true) →
((((!(decide (x16 = x28))) = true) →
(R (Ending.returned (Value.bool false)) w51)) ∧
(((!(decide (x16 = x28))) = false) →
((((!(decide (x17 = x29))) = true) →
(R (Ending.returned (Value.bool false)) w51)) ∧
(((!(decide (x17 = x29))) = false) →
(∃ s58 : ByteArray, (((w51.cell? (⟨(hs w11), 0, none⟩ : Addr)) = (some (Value.string s58))) ∧
(∃ o59 : Option Addr, (∃ n60 : Nat, (∃ n61 : Nat, (((w51.cell? (⟨(hs w11), 1, none⟩ : Addr)) = (some (Value.slice o59 n60 n61))) ∧
(Calls Tryd.prog 28 #[(Value.agg #[(Value.string s58), (Value.slice o59 n60 n61)])] w51 (fun (e62 : Ending) => (fun (w63 : World) => (∃ s64 : ByteArray, (∃ x65 : Int, ((e62 = (Ending.returned (Value.tuple #[(Value.string s64), (Value.int IntKind.i64 x65)]))) ∧
((((!(decide (x17 = 0))) = true) →
(R (Ending.returned (Value.bool true)) w63)) ∧
(((!(decide (x17 = 0))) = false) →
((((Nf.strEq s64 s) = true) →
((((decide (x65 = 0)) = true) →
(R (Ending.returned (Value.bool true)) w63)) ∧
(((decide (x65 = 0)) = false) →
(R (Ending.returned (Value.bool false)) w63)))) ∧
(((Nf.strEq s64 s) = false) →
(R (Ending.returned (Value.bool false)) w63)))))))))))))))))))))) ∧
((b52 = false) →
(R (Ending.returned (Value.bool false)) w51)))))))))))))))))))))))))))))))))))))))))))))))))))))))))))))))) ∧
((b3 = false) →
(Calls Tryd.prog 11 #[] w2 (fun (e74 : Ending) => (fun (w75 : World) => (∃ b76 : Bool, ((e74 = (Ending.returned (Value.bool b76))) ∧
(R (Ending.returned (Value.bool b76)) w75)))))))))))))) :
    Calls Tryd.prog 10 #[(.string s)] w R :=
  calls_of_vc an10 Tryd.func10 rfl (by kernel_rfl) (by kernel_rfl) (Eq.mp (by kernel_rfl) h)

end Go.Proofs.YtolpmdmcbciccaaDoor
