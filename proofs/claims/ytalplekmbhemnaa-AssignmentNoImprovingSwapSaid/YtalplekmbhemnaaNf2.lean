/- The contracts' premises: for each function, the proposition that its body comes to (printed by the tool of wip/nf). -/
import Derived.Test.YtalplekmbhemnaaRows
import Derived.Test.YtalplekmbhemnaaNfD
namespace Go.Proofs.Ytalplekmbhemnaa
open Go Go.Nf

/-- samaritan/assignment.newSquare -/
def an22 : An := (.seq (.reg []) (.seq (.reg []) (.seq (.reg []) (.seq (.seq (.reg []) (.blk (.loop [(22, .int .i64)] (.seq (.reg [(0, 0, true)]) (.seq (.cond .nil .nil) (.seq (.blk (.seq (.reg []) (.seq (.reg [(4, 1, false)]) (.cut [] (.seq (.reg [(2, 0, true)]) (.cond (.seq (.seq (.reg []) (.blk (.loop [(9, .int .i64)] (.seq (.seq (.reg [(5, 0, true)]) (.cond .nil .nil)) (.seq (.blk (.reg [])) (.reg [])))))) (.seq (.reg [(5, 1, false)]) (.reg []))) .nil)) (.reg [(7, 1, false)]))))) (.reg []))))))) (.seq (.reg [(5, 1, false)]) (.seq (.reg [(5, 1, false)]) (.seq (.reg [(5, 1, false)]) (.seq (.seq (.reg []) (.blk (.loop [(96, .int .i64)] (.seq (.reg [(0, 0, true)]) (.seq (.cond .nil .nil) (.seq (.blk (.seq (.reg []) (.reg []))) (.reg []))))))) (.seq (.reg []) .nil)))))))))
set_option maxRecDepth 100000 in
theorem nf22 (cost : Option Addr) (cost_n : Nat) (cost_c : Nat) (columns : Int) (w : World) (R : Ending → World → Prop) (h :
(∀ w1 : World, ((w1 = (w.alloc (Obj.cells #[(Value.slice none 0 0), (Value.int IntKind.i64 (IntKind.wrap IntKind.i64 (((cost_n : Nat) : Int) + columns))), (Value.slice none 0 0), (Value.slice none 0 0), (Value.slice none 0 0)] 59 (0, 0)))) →
(∃ x3 : Int, (((w1.cell? (⟨(hs w), 1, none⟩ : Addr)) = (some (Value.int IntKind.i64 x3))) ∧
(∃ k4 : (Nat → (Int → (World → Prop))), ((∃ n5 : Nat, (k4 n5 0 w1)) ∧
(∀ n6 : Nat, ((Nat → Value) →
(∀ w8 : World, (∀ x9 : Int, ((k4 n6 x9 w8) →
((((decide (x9 < x3)) = true) →
(∃ x12 : Int, (((w8.cell? (⟨(hs w), 1, none⟩ : Addr)) = (some (Value.int IntKind.i64 x12))) ∧
(RunOk Try.prog (Nf.Hold (Instr.makeSlice 32 (Value.int IntKind.i64 x12) (Value.int IntKind.i64 x12))) w8 (fun (v13 : Value) => (fun (w14 : World) => (∃ o15 : Option Addr, (∃ n16 : Nat, (∃ n17 : Nat, ((v13 = (Value.slice o15 n16 n17)) ∧
(∀ k18 : (World → Prop), ((∀ w20 : World, (((Nat → Value) →
(∃ o23 : Option Addr, (∃ n24 : Nat, (∃ n25 : Nat, (((w20.cell? (⟨(hs w), 0, none⟩ : Addr)) = (some (Value.slice o23 n24 n25))) ∧
(∀ w26 : World, ((w26 = (w20.alloc (Obj.cells #[(Value.slice o15 n16 n17)] 32 (0, 0)))) →
(RunOk Try.prog (Nf.Hold (Builtin.append_ #[22, 22] 22 #[(Value.slice o23 n24 n25), (Value.slice (some (⟨(hs w20), 0, none⟩ : Addr)) 1 1)])) w26 (fun (v28 : Value) => (fun (w29 : World) => (∃ o30 : Option Addr, (∃ n31 : Nat, (∃ n32 : Nat, ((v28 = (Value.slice o30 n31 n32)) ∧
((Nf.There w29 (⟨(hs w), 0, none⟩ : Addr) 1) ∧
(∀ w33 : World, ((w33 = (Nf.setCells w29 (⟨(hs w), 0, none⟩ : Addr) [(Value.slice o30 n31 n32)] 0)) →
(∃ n35 : Nat, ((n35 < n6) ∧
(k4 n35 (IntKind.wrap IntKind.i64 (x9 + 1)) w33)))))))))))))))))))) →
(k18 w20))) →
((((decide (x9 < ((cost_n : Nat) : Int))) = true) →
(∃ k37 : (Nat → (Int → (World → Prop))), ((∃ n38 : Nat, (k37 n38 columns w14)) ∧
(∀ n39 : Nat, ((Nat → Value) →
(∀ w41 : World, (∀ x42 : Int, ((k37 n39 x42 w41) →
(∃ x44 : Int, (((w41.cell? (⟨(hs w), 1, none⟩ : Addr)) = (some (Value.int IntKind.i64 x44))) ∧
((((decide (x42 < x44)) = true) →
(∃ a46 : Addr, ((o15 = (some a46)) ∧
((((0 : Int) ≤ x42) ∧
(x42 < ((n16 : Nat) : Int))) ∧
((Nf.There w41 (Addr.add a46 ((x42).toNat * 1)) 1) ∧
(∀ w47 : World, ((w47 = (Nf.setCells w41 (Addr.add a46 ((x42).toNat * 1)) [(Value.int IntKind.i64 4611686018427387904)] 0)) →
(∃ n49 : Nat, ((n49 < n39) ∧
(k37 n49 (IntKind.wrap IntKind.i64 (x42 + 1)) w47)))))))))) ∧
(((decide (x42 < x44)) = false) →
(∃ a51 : Addr, ((cost = (some a51)) ∧
((((0 : Int) ≤ x9) ∧
(x9 < ((cost_n : Nat) : Int))) ∧
(∃ o52 : Option Addr, (∃ n53 : Nat, (∃ n54 : Nat, (((w41.cell? (Addr.add a51 ((x9).toNat * 1))) = (some (Value.slice o52 n53 n54))) ∧
(RunOk Try.prog (Nf.Hold (Builtin.copy_ #[32, 32] 3 #[(Value.slice o15 n16 n17), (Value.slice o52 n53 n54)])) w41 (fun (v55 : Value) => (fun (w56 : World) => (∃ x57 : Int, ((v55 = (Value.int IntKind.i64 x57)) ∧
(∃ a58 : Addr, ((o15 = (some a58)) ∧
((((0 : Int) ≤ (IntKind.wrap IntKind.i64 (columns + x9))) ∧
((IntKind.wrap IntKind.i64 (columns + x9)) < ((n16 : Nat) : Int))) ∧
((Nf.There w56 (Addr.add a58 (((IntKind.wrap IntKind.i64 (columns + x9))).toNat * 1)) 1) ∧
(∀ w59 : World, ((w59 = (Nf.setCells w56 (Addr.add a58 (((IntKind.wrap IntKind.i64 (columns + x9))).toNat * 1)) [(Value.int IntKind.i64 140737488355328)] 0)) →
(k18 w59))))))))))))))))))))))))))))))) ∧
(((decide (x9 < ((cost_n : Nat) : Int))) = false) →
(k18 w14))))))))))))))) ∧
(((decide (x9 < x3)) = false) →
(∃ x63 : Int, (((w8.cell? (⟨(hs w), 1, none⟩ : Addr)) = (some (Value.int IntKind.i64 x63))) ∧
(RunOk Try.prog (Nf.Hold (Instr.makeSlice 32 (Value.int IntKind.i64 x63) (Value.int IntKind.i64 x63))) w8 (fun (v64 : Value) => (fun (w65 : World) => (∃ o66 : Option Addr, (∃ n67 : Nat, (∃ n68 : Nat, ((v64 = (Value.slice o66 n67 n68)) ∧
((Nf.There w65 (⟨(hs w), 3, none⟩ : Addr) 1) ∧
(∀ w69 : World, ((w69 = (Nf.setCells w65 (⟨(hs w), 3, none⟩ : Addr) [(Value.slice o66 n67 n68)] 0)) →
(∃ x71 : Int, (((w69.cell? (⟨(hs w), 1, none⟩ : Addr)) = (some (Value.int IntKind.i64 x71))) ∧
(RunOk Try.prog (Nf.Hold (Instr.makeSlice 32 (Value.int IntKind.i64 x71) (Value.int IntKind.i64 x71))) w69 (fun (v72 : Value) => (fun (w73 : World) => (∃ o74 : Option Addr, (∃ n75 : Nat, (∃ n76 : Nat, ((v72 = (Value.slice o74 n75 n76)) ∧
((Nf.There w73 (⟨(hs w), 4, none⟩ : Addr) 1) ∧
(∀ w77 : World, ((w77 = (Nf.setCells w73 (⟨(hs w), 4, none⟩ : Addr) [(Value.slice o74 n75 n76)] 0)) →
(∃ x79 : Int, (((w77.cell? (⟨(hs w), 1, none⟩ : Addr)) = (some (Value.int IntKind.i64 x79))) ∧
(RunOk Try.prog (Nf.Hold (Instr.makeSlice 25 (Value.int IntKind.i64 x79) (Value.int IntKind.i64 x79))) w77 (fun (v80 : Value) => (fun (w81 : World) => (∃ o82 : Option Addr, (∃ n83 : Nat, (∃ n84 : Nat, ((v80 = (Value.slice o82 n83 n84)) ∧
((Nf.There w81 (⟨(hs w), 2, none⟩ : Addr) 1) ∧
(∀ w85 : World, ((w85 = (Nf.setCells w81 (⟨(hs w), 2, none⟩ : Addr) [(Value.slice o82 n83 n84)] 0)) →
(∃ o87 : Option Addr, (∃ n88 : Nat, (∃ n89 : Nat, (((w85.cell? (⟨(hs w), 2, none⟩ : Addr)) = (some (Value.slice o87 n88 n89))) ∧
(∃ k90 : (Nat → (Int → (World → Prop))), ((∃ n91 : Nat, (k90 n91 0 w85)) ∧
(∀ n92 : Nat, ((Nat → Value) →
(∀ w94 : World, (∀ x95 : Int, ((k90 n92 x95 w94) →
((((decide (x95 < ((n88 : Nat) : Int))) = true) →
(∃ o98 : Option Addr, (∃ n99 : Nat, (∃ n100 : Nat, (((w94.cell? (⟨(hs w), 2, none⟩ : Addr)) = (some (Value.slice o98 n99 n100))) ∧
(∃ a101 : Addr, ((o98 = (some a101)) ∧
((((0 : Int) ≤ x95) ∧
(x95 < ((n99 : Nat) : Int))) ∧
((Nf.There w94 (Addr.add a101 ((x95).toNat * 1)) 1) ∧
(∀ w102 : World, ((w102 = (Nf.setCells w94 (Addr.add a101 ((x95).toNat * 1)) [(Value.int IntKind.i64 (-1))] 0)) →
(∃ n104 : Nat, ((n104 < n92) ∧
(k90 n104 (IntKind.wrap IntKind.i64 (x95 + 1)) w102)))))))))))))) ∧
(((decide (x95 < ((n88 : Nat) : Int))) = false) →
(R (Ending.returned (Value.pointer (some (⟨(hs w), 0, none⟩ : Addr)))) w94)))))))))))))))))))))))))))))))))))))))))))))))))))))))))))))))) :
    Calls Try.prog 22 #[(.slice cost cost_n cost_c), (.int .i64 columns)] w R :=
  calls_of_vc an22 Try.func22 rfl (by kernel_rfl) (by kernel_rfl) (Eq.mp (by kernel_rfl) h)

/-- (*samaritan/assignment.square).insert -/
def an23 : An := (.seq (.reg [(4, 1, false)]) (.seq (.reg [(4, 1, false)]) (.seq (.reg [(4, 1, false)]) (.seq (.seq (.reg []) (.blk (.loop [(33, .int .i64)] (.seq (.reg [(0, 0, true)]) (.seq (.cond .nil .nil) (.seq (.blk (.seq (.reg []) (.seq (.reg []) (.reg [])))) (.reg []))))))) (.seq (.reg []) (.seq (.blk (.loop [(8, .int .i64), (9, .int .i64)] (.blk (.seq (.reg []) (.seq (.seq (.reg []) (.blk (.loop [(10, .int .i64), (48, .int .i64)] (.seq (.reg [(0, 0, true)]) (.seq (.cond .nil .nil) (.seq (.blk (.seq (.reg []) (.seq (.seq (.reg [(3, 0, true)]) (.cond .nil .nil)) (.cut [] (.seq (.reg []) (.seq (.reg [(1, 0, true)]) (.cond (.seq (.regD [] [0, 1, 2, 3, 4, 5, 6, 7, 8, 9, 10, 11, 12, 13, 14, 15, 16, 17] []) (.seq (.reg [(5, 0, true)]) (.cond (.reg []) .nil))) .nil))) (.seq (.regD [(1, 0, true), (11, 0, true)] [0, 1, 2, 3, 4, 5, 6, 7, 8, 9, 10, 11, 12] []) (.cond (.reg []) .nil)))))) (.reg []))))))) (.seq (.reg []) (.seq (.reg []) (.seq (.seq (.reg []) (.blk (.loop [(131, .int .i64)] (.seq (.reg [(0, 0, true)]) (.seq (.cond .nil .nil) (.seq (.blk (.seq (.reg []) (.blk (.seq (.reg [(3, 0, true)]) (.cond (.seq (.regD [] [0, 1, 2, 3, 4, 5, 6, 7, 8, 9, 10, 11, 12, 13, 14, 15, 16] [16]) (.reg [])) (.seq (.reg [(4, 0, true)]) (.cond (.reg []) .nil))))))) (.reg []))))))) (.seq (.reg []) (.seq (.reg []) (.seq (.seq (.reg [(7, 0, true)]) (.cond .nil .nil)) (.reg [])))))))))))) (.seq (.blk (.loop [(9, .int .i64)] (.seq (.seq (.reg [(1, 0, true), (7, 0, true)]) (.cond .nil .nil)) (.blk (.seq (.regD [] [0, 1, 2, 3, 4, 5, 6, 7, 8, 9, 10, 11, 12, 13, 14, 15, 16] [16]) (.reg [])))))) (.reg []))))))))
set_option maxRecDepth 100000 in
theorem nf23 (q : Nat) (start : Int) (w : World) (R : Ending → World → Prop) (h :
(∃ x1 : Int, (((w.cell? (⟨q, 1, none⟩ : Addr)) = (some (Value.int IntKind.i64 x1))) ∧
(RunOk Try.prog (Nf.Hold (Instr.makeSlice 32 (Value.int IntKind.i64 x1) (Value.int IntKind.i64 x1))) w (fun (v2 : Value) => (fun (w3 : World) => (∃ o4 : Option Addr, (∃ n5 : Nat, (∃ n6 : Nat, ((v2 = (Value.slice o4 n5 n6)) ∧
(∃ x7 : Int, (((w3.cell? (⟨q, 1, none⟩ : Addr)) = (some (Value.int IntKind.i64 x7))) ∧
(RunOk Try.prog (Nf.Hold (Instr.makeSlice 25 (Value.int IntKind.i64 x7) (Value.int IntKind.i64 x7))) w3 (fun (v8 : Value) => (fun (w9 : World) => (∃ o10 : Option Addr, (∃ n11 : Nat, (∃ n12 : Nat, ((v8 = (Value.slice o10 n11 n12)) ∧
(∃ x13 : Int, (((w9.cell? (⟨q, 1, none⟩ : Addr)) = (some (Value.int IntKind.i64 x13))) ∧
(RunOk Try.prog (Nf.Hold (Instr.makeSlice 33 (Value.int IntKind.i64 x13) (Value.int IntKind.i64 x13))) w9 (fun (v14 : Value) => (fun (w15 : World) => (∃ o16 : Option Addr, (∃ n17 : Nat, (∃ n18 : Nat, ((v14 = (Value.slice o16 n17 n18)) ∧
(∃ k19 : (Nat → (Int → (World → Prop))), ((∃ n20 : Nat, (k19 n20 0 w15)) ∧
(∀ n21 : Nat, ((Nat → Value) →
(∀ w23 : World, (∀ x24 : Int, ((k19 n21 x24 w23) →
((((decide (x24 < ((n5 : Nat) : Int))) = true) →
(∃ a27 : Addr, ((o4 = (some a27)) ∧
((((0 : Int) ≤ x24) ∧
(x24 < ((n5 : Nat) : Int))) ∧
((Nf.There w23 (Addr.add a27 ((x24).toNat * 1)) 1) ∧
(∀ w28 : World, ((w28 = (Nf.setCells w23 (Addr.add a27 ((x24).toNat * 1)) [(Value.int IntKind.i64 4611686018427387904)] 0)) →
(∃ a30 : Addr, ((o10 = (some a30)) ∧
((((0 : Int) ≤ x24) ∧
(x24 < ((n11 : Nat) : Int))) ∧
((Nf.There w28 (Addr.add a30 ((x24).toNat * 1)) 1) ∧
(∀ w31 : World, ((w31 = (Nf.setCells w28 (Addr.add a30 ((x24).toNat * 1)) [(Value.int IntKind.i64 (-1))] 0)) →
(∃ n33 : Nat, ((n33 < n21) ∧
(k19 n33 (IntKind.wrap IntKind.i64 (x24 + 1)) w31)))))))))))))))) ∧
(((decide (x24 < ((n5 : Nat) : Int))) = false) →
(∃ k35 : (Nat → (Int → (Int → (World → Prop)))), ((∃ n36 : Nat, (k35 n36 start (-1) w23)) ∧
(∀ n37 : Nat, ((Nat → Value) →
(∀ w39 : World, (∀ x40 : Int, (∀ x41 : Int, ((k35 n37 x40 x41 w39) →
(∃ x43 : Int, (((w39.cell? (⟨q, 1, none⟩ : Addr)) = (some (Value.int IntKind.i64 x43))) ∧
(∃ k44 : (Nat → (Int → (Int → (World → Prop)))), ((∃ n45 : Nat, (k44 n45 (-1) 0 w39)) ∧
(∀ n46 : Nat, ((Nat → Value) →
(∀ w48 : World, (∀ x49 : Int, (∀ x50 : Int, ((k44 n46 x49 x50 w48) →
((((decide (x50 < x43)) = true) →
(∃ a53 : Addr, ((o16 = (some a53)) ∧
((((0 : Int) ≤ x50) ∧
(x50 < ((n17 : Nat) : Int))) ∧
(∃ b54 : Bool, (((w48.cell? (Addr.add a53 ((x50).toNat * 1))) = (some (Value.bool b54))) ∧
(((b54 = true) →
(∃ n56 : Nat, ((n56 < n46) ∧
(k44 n56 x49 (IntKind.wrap IntKind.i64 (x50 + 1)) w48)))) ∧
((b54 = false) →
(∀ k58 : (World → Prop), ((∀ w60 : World, (((Nat → Value) →
(∀ w63 : World, ((w63 = w60.drew) →
((((decide (x49 < 0)) = true) →
(∃ n66 : Nat, ((n66 < n46) ∧
(k44 n66 x50 (IntKind.wrap IntKind.i64 (x50 + 1)) w63)))) ∧
(((decide (x49 < 0)) = false) →
(∃ a68 : Addr, ((o4 = (some a68)) ∧
((((0 : Int) ≤ x50) ∧
(x50 < ((n5 : Nat) : Int))) ∧
(∃ x69 : Int, (((w63.cell? (Addr.add a68 ((x50).toNat * 1))) = (some (Value.int IntKind.i64 x69))) ∧
(∃ a70 : Addr, ((o4 = (some a70)) ∧
((((0 : Int) ≤ x49) ∧
(x49 < ((n5 : Nat) : Int))) ∧
(∃ x71 : Int, (((w63.cell? (Addr.add a70 ((x49).toNat * 1))) = (some (Value.int IntKind.i64 x71))) ∧
((((decide (x69 < x71)) = true) →
(∃ n73 : Nat, ((n73 < n46) ∧
(k44 n73 x50 (IntKind.wrap IntKind.i64 (x50 + 1)) w63)))) ∧
(((decide (x69 < x71)) = false) →
(∃ n75 : Nat, ((n75 < n46) ∧
(k44 n75 x49 (IntKind.wrap IntKind.i64 (x50 + 1)) w63)))))))))))))))))))) →
(k58 w60))) →
(∃ o76 : Option Addr, (∃ n77 : Nat, (∃ n78 : Nat, (((w48.cell? (⟨q, 0, none⟩ : Addr)) = (some (Value.slice o76 n77 n78))) ∧
(∃ a79 : Addr, ((o76 = (some a79)) ∧
((((0 : Int) ≤ x40) ∧
(x40 < ((n77 : Nat) : Int))) ∧
(∃ o80 : Option Addr, (∃ n81 : Nat, (∃ n82 : Nat, (((w48.cell? (Addr.add a79 ((x40).toNat * 1))) = (some (Value.slice o80 n81 n82))) ∧
(∃ a83 : Addr, ((o80 = (some a83)) ∧
((((0 : Int) ≤ x50) ∧
(x50 < ((n81 : Nat) : Int))) ∧
(∃ x84 : Int, (((w48.cell? (Addr.add a83 ((x50).toNat * 1))) = (some (Value.int IntKind.i64 x84))) ∧
((((!(decide (x84 = 4611686018427387904))) = true) →
(∀ w86 : World, ((w86 = w48.drew) →
(∃ o88 : Option Addr, (∃ n89 : Nat, (∃ n90 : Nat, (((w86.cell? (⟨q, 3, none⟩ : Addr)) = (some (Value.slice o88 n89 n90))) ∧
(∃ a91 : Addr, ((o88 = (some a91)) ∧
((((0 : Int) ≤ x40) ∧
(x40 < ((n89 : Nat) : Int))) ∧
(∃ x92 : Int, (((w86.cell? (Addr.add a91 ((x40).toNat * 1))) = (some (Value.int IntKind.i64 x92))) ∧
(∃ o93 : Option Addr, (∃ n94 : Nat, (∃ n95 : Nat, (((w86.cell? (⟨q, 4, none⟩ : Addr)) = (some (Value.slice o93 n94 n95))) ∧
(∃ a96 : Addr, ((o93 = (some a96)) ∧
((((0 : Int) ≤ x50) ∧
(x50 < ((n94 : Nat) : Int))) ∧
(∃ x97 : Int, (((w86.cell? (Addr.add a96 ((x50).toNat * 1))) = (some (Value.int IntKind.i64 x97))) ∧
(∃ a98 : Addr, ((o4 = (some a98)) ∧
((((0 : Int) ≤ x50) ∧
(x50 < ((n5 : Nat) : Int))) ∧
(∃ x99 : Int, (((w86.cell? (Addr.add a98 ((x50).toNat * 1))) = (some (Value.int IntKind.i64 x99))) ∧
((((decide ((IntKind.wrap IntKind.i64 ((IntKind.wrap IntKind.i64 (x84 - x92)) - x97)) < x99)) = true) →
(∃ a101 : Addr, ((o4 = (some a101)) ∧
((((0 : Int) ≤ x50) ∧
(x50 < ((n5 : Nat) : Int))) ∧
((Nf.There w86 (Addr.add a101 ((x50).toNat * 1)) 1) ∧
(∀ w102 : World, ((w102 = (Nf.setCells w86 (Addr.add a101 ((x50).toNat * 1)) [(Value.int IntKind.i64 (IntKind.wrap IntKind.i64 ((IntKind.wrap IntKind.i64 (x84 - x92)) - x97)))] 0)) →
(∃ a104 : Addr, ((o10 = (some a104)) ∧
((((0 : Int) ≤ x50) ∧
(x50 < ((n11 : Nat) : Int))) ∧
((Nf.There w102 (Addr.add a104 ((x50).toNat * 1)) 1) ∧
(∀ w105 : World, ((w105 = (Nf.setCells w102 (Addr.add a104 ((x50).toNat * 1)) [(Value.int IntKind.i64 x41)] 0)) →
(k58 w105)))))))))))))) ∧
(((decide ((IntKind.wrap IntKind.i64 ((IntKind.wrap IntKind.i64 (x84 - x92)) - x97)) < x99)) = false) →
(k58 w86))))))))))))))))))))))))))))) ∧
(((!(decide (x84 = 4611686018427387904))) = false) →
(k58 w48))))))))))))))))))))))))))))) ∧
(((decide (x50 < x43)) = false) →
(∃ a110 : Addr, ((o4 = (some a110)) ∧
((((0 : Int) ≤ x49) ∧
(x49 < ((n5 : Nat) : Int))) ∧
(∃ x111 : Int, (((w48.cell? (Addr.add a110 ((x49).toNat * 1))) = (some (Value.int IntKind.i64 x111))) ∧
(∃ o112 : Option Addr, (∃ n113 : Nat, (∃ n114 : Nat, (((w48.cell? (⟨q, 3, none⟩ : Addr)) = (some (Value.slice o112 n113 n114))) ∧
(∃ a115 : Addr, ((o112 = (some a115)) ∧
((((0 : Int) ≤ start) ∧
(start < ((n113 : Nat) : Int))) ∧
(∃ x116 : Int, (((w48.cell? (Addr.add a115 ((start).toNat * 1))) = (some (Value.int IntKind.i64 x116))) ∧
(∃ a117 : Addr, ((o112 = (some a117)) ∧
((((0 : Int) ≤ start) ∧
(start < ((n113 : Nat) : Int))) ∧
((Nf.There w48 (Addr.add a117 ((start).toNat * 1)) 1) ∧
(∀ w118 : World, ((w118 = (Nf.setCells w48 (Addr.add a117 ((start).toNat * 1)) [(Value.int IntKind.i64 (IntKind.wrap IntKind.i64 (x116 + x111)))] 0)) →
(∃ x120 : Int, (((w118.cell? (⟨q, 1, none⟩ : Addr)) = (some (Value.int IntKind.i64 x120))) ∧
(∃ k121 : (Nat → (Int → (World → Prop))), ((∃ n122 : Nat, (k121 n122 0 w118)) ∧
(∀ n123 : Nat, ((Nat → Value) →
(∀ w125 : World, (∀ x126 : Int, ((k121 n123 x126 w125) →
((((decide (x126 < x120)) = true) →
(∃ a129 : Addr, ((o16 = (some a129)) ∧
((((0 : Int) ≤ x126) ∧
(x126 < ((n17 : Nat) : Int))) ∧
(∃ b130 : Bool, (((w125.cell? (Addr.add a129 ((x126).toNat * 1))) = (some (Value.bool b130))) ∧
(((b130 = true) →
(∀ w132 : World, ((w132 = w125.drew) →
(∃ o134 : Option Addr, (∃ n135 : Nat, (∃ n136 : Nat, (((w132.cell? (⟨q, 3, none⟩ : Addr)) = (some (Value.slice o134 n135 n136))) ∧
(∃ o137 : Option Addr, (∃ n138 : Nat, (∃ n139 : Nat, (((w132.cell? (⟨q, 2, none⟩ : Addr)) = (some (Value.slice o137 n138 n139))) ∧
(∃ a140 : Addr, ((o137 = (some a140)) ∧
((((0 : Int) ≤ x126) ∧
(x126 < ((n138 : Nat) : Int))) ∧
(∃ x141 : Int, (((w132.cell? (Addr.add a140 ((x126).toNat * 1))) = (some (Value.int IntKind.i64 x141))) ∧
(∃ a142 : Addr, ((o134 = (some a142)) ∧
((((0 : Int) ≤ x141) ∧
(x141 < ((n135 : Nat) : Int))) ∧
(∃ x143 : Int, (((w132.cell? (Addr.add a142 ((x141).toNat * 1))) = (some (Value.int IntKind.i64 x143))) ∧
(∃ a144 : Addr, ((o134 = (some a144)) ∧
((((0 : Int) ≤ x141) ∧
(x141 < ((n135 : Nat) : Int))) ∧
((Nf.There w132 (Addr.add a144 ((x141).toNat * 1)) 1) ∧
(∀ w145 : World, ((w145 = (Nf.setCells w132 (Addr.add a144 ((x141).toNat * 1)) [(Value.int IntKind.i64 (IntKind.wrap IntKind.i64 (x143 + x111)))] 0)) →
(∃ o147 : Option Addr, (∃ n148 : Nat, (∃ n149 : Nat, (((w145.cell? (⟨q, 4, none⟩ : Addr)) = (some (Value.slice o147 n148 n149))) ∧
(∃ a150 : Addr, ((o147 = (some a150)) ∧
((((0 : Int) ≤ x126) ∧
(x126 < ((n148 : Nat) : Int))) ∧
(∃ x151 : Int, (((w145.cell? (Addr.add a150 ((x126).toNat * 1))) = (some (Value.int IntKind.i64 x151))) ∧
(∃ a152 : Addr, ((o147 = (some a152)) ∧
((((0 : Int) ≤ x126) ∧
(x126 < ((n148 : Nat) : Int))) ∧
((Nf.There w145 (Addr.add a152 ((x126).toNat * 1)) 1) ∧
(∀ w153 : World, ((w153 = (Nf.setCells w145 (Addr.add a152 ((x126).toNat * 1)) [(Value.int IntKind.i64 (IntKind.wrap IntKind.i64 (x151 - x111)))] 0)) →
(∃ n155 : Nat, ((n155 < n123) ∧
(k121 n155 (IntKind.wrap IntKind.i64 (x126 + 1)) w153))))))))))))))))))))))))))))))))))))))))))))) ∧
((b130 = false) →
(∃ a157 : Addr, ((o4 = (some a157)) ∧
((((0 : Int) ≤ x126) ∧
(x126 < ((n5 : Nat) : Int))) ∧
(∃ x158 : Int, (((w125.cell? (Addr.add a157 ((x126).toNat * 1))) = (some (Value.int IntKind.i64 x158))) ∧
((((!(decide (x158 = 4611686018427387904))) = true) →
(∃ a160 : Addr, ((o4 = (some a160)) ∧
((((0 : Int) ≤ x126) ∧
(x126 < ((n5 : Nat) : Int))) ∧
(∃ x161 : Int, (((w125.cell? (Addr.add a160 ((x126).toNat * 1))) = (some (Value.int IntKind.i64 x161))) ∧
(∃ a162 : Addr, ((o4 = (some a162)) ∧
((((0 : Int) ≤ x126) ∧
(x126 < ((n5 : Nat) : Int))) ∧
((Nf.There w125 (Addr.add a162 ((x126).toNat * 1)) 1) ∧
(∀ w163 : World, ((w163 = (Nf.setCells w125 (Addr.add a162 ((x126).toNat * 1)) [(Value.int IntKind.i64 (IntKind.wrap IntKind.i64 (x161 - x111)))] 0)) →
(∃ n165 : Nat, ((n165 < n123) ∧
(k121 n165 (IntKind.wrap IntKind.i64 (x126 + 1)) w163))))))))))))))) ∧
(((!(decide (x158 = 4611686018427387904))) = false) →
(∃ n167 : Nat, ((n167 < n123) ∧
(k121 n167 (IntKind.wrap IntKind.i64 (x126 + 1)) w125)))))))))))))))))) ∧
(((decide (x126 < x120)) = false) →
(∃ a169 : Addr, ((o16 = (some a169)) ∧
((((0 : Int) ≤ x49) ∧
(x49 < ((n17 : Nat) : Int))) ∧
((Nf.There w125 (Addr.add a169 ((x49).toNat * 1)) 1) ∧
(∀ w170 : World, ((w170 = (Nf.setCells w125 (Addr.add a169 ((x49).toNat * 1)) [(Value.bool true)] 0)) →
(∃ o172 : Option Addr, (∃ n173 : Nat, (∃ n174 : Nat, (((w170.cell? (⟨q, 2, none⟩ : Addr)) = (some (Value.slice o172 n173 n174))) ∧
(∃ a175 : Addr, ((o172 = (some a175)) ∧
((((0 : Int) ≤ x49) ∧
(x49 < ((n173 : Nat) : Int))) ∧
(∃ x176 : Int, (((w170.cell? (Addr.add a175 ((x49).toNat * 1))) = (some (Value.int IntKind.i64 x176))) ∧
((((decide (x176 < 0)) = true) →
(∃ k178 : (Nat → (Int → (World → Prop))), ((∃ n179 : Nat, (k178 n179 x49 w170)) ∧
(∀ n180 : Nat, ((Nat → Value) →
(∀ w182 : World, (∀ x183 : Int, ((k178 n180 x183 w182) →
((((decide (x183 ≥ 0)) = true) →
(∃ a186 : Addr, ((o10 = (some a186)) ∧
((((0 : Int) ≤ x183) ∧
(x183 < ((n11 : Nat) : Int))) ∧
(∃ x187 : Int, (((w182.cell? (Addr.add a186 ((x183).toNat * 1))) = (some (Value.int IntKind.i64 x187))) ∧
((((decide (x187 ≥ 0)) = true) →
(∀ w189 : World, ((w189 = w182.drew) →
(∃ o191 : Option Addr, (∃ n192 : Nat, (∃ n193 : Nat, (((w189.cell? (⟨q, 2, none⟩ : Addr)) = (some (Value.slice o191 n192 n193))) ∧
(∃ o194 : Option Addr, (∃ n195 : Nat, (∃ n196 : Nat, (((w189.cell? (⟨q, 2, none⟩ : Addr)) = (some (Value.slice o194 n195 n196))) ∧
(∃ a197 : Addr, ((o10 = (some a197)) ∧
((((0 : Int) ≤ x183) ∧
(x183 < ((n11 : Nat) : Int))) ∧
(∃ x198 : Int, (((w189.cell? (Addr.add a197 ((x183).toNat * 1))) = (some (Value.int IntKind.i64 x198))) ∧
(∃ a199 : Addr, ((o194 = (some a199)) ∧
((((0 : Int) ≤ x198) ∧
(x198 < ((n195 : Nat) : Int))) ∧
(∃ x200 : Int, (((w189.cell? (Addr.add a199 ((x198).toNat * 1))) = (some (Value.int IntKind.i64 x200))) ∧
(∃ a201 : Addr, ((o191 = (some a201)) ∧
((((0 : Int) ≤ x183) ∧
(x183 < ((n192 : Nat) : Int))) ∧
((Nf.There w189 (Addr.add a201 ((x183).toNat * 1)) 1) ∧
(∀ w202 : World, ((w202 = (Nf.setCells w189 (Addr.add a201 ((x183).toNat * 1)) [(Value.int IntKind.i64 x200)] 0)) →
(∃ a204 : Addr, ((o10 = (some a204)) ∧
((((0 : Int) ≤ x183) ∧
(x183 < ((n11 : Nat) : Int))) ∧
(∃ x205 : Int, (((w202.cell? (Addr.add a204 ((x183).toNat * 1))) = (some (Value.int IntKind.i64 x205))) ∧
(∃ n206 : Nat, ((n206 < n180) ∧
(k178 n206 x205 w202))))))))))))))))))))))))))))))))))) ∧
(((decide (x187 ≥ 0)) = false) →
(∃ o208 : Option Addr, (∃ n209 : Nat, (∃ n210 : Nat, (((w182.cell? (⟨q, 2, none⟩ : Addr)) = (some (Value.slice o208 n209 n210))) ∧
(∃ a211 : Addr, ((o208 = (some a211)) ∧
((((0 : Int) ≤ x183) ∧
(x183 < ((n209 : Nat) : Int))) ∧
((Nf.There w182 (Addr.add a211 ((x183).toNat * 1)) 1) ∧
(∀ w212 : World, ((w212 = (Nf.setCells w182 (Addr.add a211 ((x183).toNat * 1)) [(Value.int IntKind.i64 start)] 0)) →
(R (Ending.returned (Value.tuple #[])) w212))))))))))))))))))) ∧
(((decide (x183 ≥ 0)) = false) →
(∃ o215 : Option Addr, (∃ n216 : Nat, (∃ n217 : Nat, (((w182.cell? (⟨q, 2, none⟩ : Addr)) = (some (Value.slice o215 n216 n217))) ∧
(∃ a218 : Addr, ((o215 = (some a218)) ∧
((((0 : Int) ≤ x183) ∧
(x183 < ((n216 : Nat) : Int))) ∧
((Nf.There w182 (Addr.add a218 ((x183).toNat * 1)) 1) ∧
(∀ w219 : World, ((w219 = (Nf.setCells w182 (Addr.add a218 ((x183).toNat * 1)) [(Value.int IntKind.i64 start)] 0)) →
(R (Ending.returned (Value.tuple #[])) w219))))))))))))))))))))) ∧
(((decide (x176 < 0)) = false) →
(∃ o222 : Option Addr, (∃ n223 : Nat, (∃ n224 : Nat, (((w170.cell? (⟨q, 2, none⟩ : Addr)) = (some (Value.slice o222 n223 n224))) ∧
(∃ a225 : Addr, ((o222 = (some a225)) ∧
((((0 : Int) ≤ x49) ∧
(x49 < ((n223 : Nat) : Int))) ∧
(∃ x226 : Int, (((w170.cell? (Addr.add a225 ((x49).toNat * 1))) = (some (Value.int IntKind.i64 x226))) ∧
(∃ n227 : Nat, ((n227 < n37) ∧
(k35 n227 x226 x49 w170))))))))))))))))))))))))))))))))))))))))))))))))))))))))))))))))))))))))))))))))))))))))))))))))))))))))))))))))))))) :
    Calls Try.prog 23 #[(.pointer (some ⟨q, 0, none⟩)), (.int .i64 start)] w R :=
  calls_of_vc an23 Try.func23 rfl (by kernel_rfl) (by kernel_rfl) (Eq.mp (by kernel_rfl) h)

/-- (*samaritan/assignment.square).advance -/
def an24 : An := (.seq (.reg []) (.seq (.reg [(4, 1, false)]) (.seq (.seq (.reg []) (.blk (.loop [(24, .int .i64)] (.seq (.reg [(0, 0, true)]) (.seq (.cond .nil .nil) (.seq (.blk (.seq (.reg []) (.reg []))) (.reg []))))))) (.seq (.reg []) (.seq (.blk (.loop [(7, .slice)] (.seq (.seq (.reg [(2, 0, true)]) (.cond .nil .nil)) (.blk (.seq (.reg []) (.seq (.reg [(1, 2, false)]) (.seq (.reg []) (.blk (.loop [(7, .slice), (45, .int .i64)] (.seq (.reg [(0, 0, true)]) (.seq (.cond .nil .nil) (.seq (.blk (.seq (.reg []) (.seq (.seq (.reg [(2, 0, true), (8, 0, true), (19, 0, true)]) (.cond .nil .nil)) (.seq (.reg [(9, 0, true)]) (.cond (.seq (.reg []) (.reg [(3, 1, false)])) .nil))))) (.reg []))))))))))))) (.seq (.reg []) (.blk (.loop [(89, .int .i64)] (.seq (.reg [(0, 0, true)]) (.seq (.cond .nil .nil) (.seq (.blk (.seq (.reg []) (.seq (.seq (.reg [(4, 0, true), (9, 0, true)]) (.cond .nil .nil)) (.seq (.reg []) .nil)))) (.reg []))))))))))))
set_option maxRecDepth 100000 in
theorem nf24 (q : Nat) (row : Int) (w : World) (R : Ending → World → Prop) (h :
(∃ o1 : Option Addr, (∃ n2 : Nat, (∃ n3 : Nat, (((w.cell? (⟨q, 2, none⟩ : Addr)) = (some (Value.slice o1 n2 n3))) ∧
(Calls Try.prog 26 #[(Value.slice o1 n2 n3), (Value.int IntKind.i64 row)] w (fun (e4 : Ending) => (fun (w5 : World) => (∃ x6 : Int, ((e4 = (Ending.returned (Value.int IntKind.i64 x6))) ∧
(∃ x7 : Int, (((w5.cell? (⟨q, 1, none⟩ : Addr)) = (some (Value.int IntKind.i64 x7))) ∧
(RunOk Try.prog (Nf.Hold (Instr.makeSlice 25 (Value.int IntKind.i64 x7) (Value.int IntKind.i64 x7))) w5 (fun (v8 : Value) => (fun (w9 : World) => (∃ o10 : Option Addr, (∃ n11 : Nat, (∃ n12 : Nat, ((v8 = (Value.slice o10 n11 n12)) ∧
(∃ k13 : (Nat → (Int → (World → Prop))), ((∃ n14 : Nat, (k13 n14 0 w9)) ∧
(∀ n15 : Nat, ((Nat → Value) →
(∀ w17 : World, (∀ x18 : Int, ((k13 n15 x18 w17) →
((((decide (x18 < ((n11 : Nat) : Int))) = true) →
(∃ a21 : Addr, ((o10 = (some a21)) ∧
((((0 : Int) ≤ x18) ∧
(x18 < ((n11 : Nat) : Int))) ∧
((Nf.There w17 (Addr.add a21 ((x18).toNat * 1)) 1) ∧
(∀ w22 : World, ((w22 = (Nf.setCells w17 (Addr.add a21 ((x18).toNat * 1)) [(Value.int IntKind.i64 (-1))] 0)) →
(∃ n24 : Nat, ((n24 < n15) ∧
(k13 n24 (IntKind.wrap IntKind.i64 (x18 + 1)) w22)))))))))) ∧
(((decide (x18 < ((n11 : Nat) : Int))) = false) →
(∀ w26 : World, ((w26 = (w17.alloc (Obj.cells #[(Value.int IntKind.i64 x6)] 3 (0, 0)))) →
(∃ k28 : (Nat → (Option Addr → (Nat → (Nat → (World → Prop))))), ((∃ n29 : Nat, (k28 n29 (some (⟨(hs w17), 0, none⟩ : Addr)) 1 1 w26)) ∧
(∀ n30 : Nat, ((Nat → Value) →
(∀ w32 : World, (∀ o33 : Option Addr, (∀ n34 : Nat, (∀ n35 : Nat, ((k28 n30 o33 n34 n35 w32) →
((((decide (((n34 : Nat) : Int) > 0)) = true) →
(∃ a38 : Addr, ((o33 = (some a38)) ∧
((((0 : Int) ≤ 0) ∧
((0 : Int) < ((n34 : Nat) : Int))) ∧
(∃ x39 : Int, (((w32.cell? a38) = (some (Value.int IntKind.i64 x39))) ∧
((((0 : Int) ≤ 1) ∧
((1 : Int) ≤ ((n34 : Nat) : Int))) ∧
(∃ x40 : Int, (((w32.cell? (⟨q, 1, none⟩ : Addr)) = (some (Value.int IntKind.i64 x40))) ∧
(∃ k41 : (Nat → (Option Addr → (Nat → (Nat → (Int → (World → Prop)))))), ((∃ n42 : Nat, (k41 n42 (if (n35 = ((1 : Int)).toNat) then o33 else (Option.map (fun (x : Addr) => (Addr.add x 1)) o33)) (n34 - 1) (n35 - 1) 0 w32)) ∧
(∀ n43 : Nat, ((Nat → Value) →
(∀ w45 : World, (∀ o46 : Option Addr, (∀ n47 : Nat, (∀ n48 : Nat, (∀ x49 : Int, ((k41 n43 o46 n47 n48 x49 w45) →
((((decide (x49 < x40)) = true) →
((((decide (x49 = x6)) = true) →
(∃ n53 : Nat, ((n53 < n43) ∧
(k41 n53 o46 n47 n48 (IntKind.wrap IntKind.i64 (x49 + 1)) w45)))) ∧
(((decide (x49 = x6)) = false) →
(∃ a55 : Addr, ((o10 = (some a55)) ∧
((((0 : Int) ≤ x49) ∧
(x49 < ((n11 : Nat) : Int))) ∧
(∃ x56 : Int, (((w45.cell? (Addr.add a55 ((x49).toNat * 1))) = (some (Value.int IntKind.i64 x56))) ∧
((((decide (x56 ≥ 0)) = true) →
(∃ n58 : Nat, ((n58 < n43) ∧
(k41 n58 o46 n47 n48 (IntKind.wrap IntKind.i64 (x49 + 1)) w45)))) ∧
(((decide (x56 ≥ 0)) = false) →
(∃ o60 : Option Addr, (∃ n61 : Nat, (∃ n62 : Nat, (((w45.cell? (⟨q, 2, none⟩ : Addr)) = (some (Value.slice o60 n61 n62))) ∧
(∃ a63 : Addr, ((o60 = (some a63)) ∧
((((0 : Int) ≤ x49) ∧
(x49 < ((n61 : Nat) : Int))) ∧
(∃ x64 : Int, (((w45.cell? (Addr.add a63 ((x49).toNat * 1))) = (some (Value.int IntKind.i64 x64))) ∧
((((decide (x64 ≤ row)) = true) →
(∃ n66 : Nat, ((n66 < n43) ∧
(k41 n66 o46 n47 n48 (IntKind.wrap IntKind.i64 (x49 + 1)) w45)))) ∧
(((decide (x64 ≤ row)) = false) →
(∃ o68 : Option Addr, (∃ n69 : Nat, (∃ n70 : Nat, (((w45.cell? (⟨q, 2, none⟩ : Addr)) = (some (Value.slice o68 n69 n70))) ∧
(∃ a71 : Addr, ((o68 = (some a71)) ∧
((((0 : Int) ≤ x49) ∧
(x49 < ((n69 : Nat) : Int))) ∧
(∃ x72 : Int, (((w45.cell? (Addr.add a71 ((x49).toNat * 1))) = (some (Value.int IntKind.i64 x72))) ∧
(Calls Try.prog 27 #[(Value.pointer (some (⟨q, 0, none⟩ : Addr))), (Value.int IntKind.i64 x72), (Value.int IntKind.i64 x39)] w45 (fun (e73 : Ending) => (fun (w74 : World) => (∃ b75 : Bool, ((e73 = (Ending.returned (Value.bool b75))) ∧
(((b75 = true) →
(∃ a77 : Addr, ((o10 = (some a77)) ∧
((((0 : Int) ≤ x49) ∧
(x49 < ((n11 : Nat) : Int))) ∧
((Nf.There w74 (Addr.add a77 ((x49).toNat * 1)) 1) ∧
(∀ w78 : World, ((w78 = (Nf.setCells w74 (Addr.add a77 ((x49).toNat * 1)) [(Value.int IntKind.i64 x39)] 0)) →
(∀ w80 : World, ((w80 = (w78.alloc (Obj.cells #[(Value.int IntKind.i64 x49)] 3 (0, 0)))) →
(RunOk Try.prog (Nf.Hold (Builtin.append_ #[25, 25] 25 #[(Value.slice o46 n47 n48), (Value.slice (some (⟨(hs w78), 0, none⟩ : Addr)) 1 1)])) w80 (fun (v82 : Value) => (fun (w83 : World) => (∃ o84 : Option Addr, (∃ n85 : Nat, (∃ n86 : Nat, ((v82 = (Value.slice o84 n85 n86)) ∧
(∃ n87 : Nat, ((n87 < n43) ∧
(k41 n87 o84 n85 n86 (IntKind.wrap IntKind.i64 (x49 + 1)) w83))))))))))))))))))) ∧
((b75 = false) →
(∃ n89 : Nat, ((n89 < n43) ∧
(k41 n89 o46 n47 n48 (IntKind.wrap IntKind.i64 (x49 + 1)) w74)))))))))))))))))))))))))))))))))))))))) ∧
(((decide (x49 < x40)) = false) →
(∃ n91 : Nat, ((n91 < n30) ∧
(k28 n91 o46 n47 n48 w45)))))))))))))))))))))))) ∧
(((decide (((n34 : Nat) : Int) > 0)) = false) →
(∃ k93 : (Nat → (Int → (World → Prop))), ((∃ n94 : Nat, (k93 n94 0 w32)) ∧
(∀ n95 : Nat, ((Nat → Value) →
(∀ w97 : World, (∀ x98 : Int, ((k93 n95 x98 w97) →
((((decide (x98 < x6)) = true) →
(∃ a101 : Addr, ((o10 = (some a101)) ∧
((((0 : Int) ≤ x98) ∧
(x98 < ((n11 : Nat) : Int))) ∧
(∃ x102 : Int, (((w97.cell? (Addr.add a101 ((x98).toNat * 1))) = (some (Value.int IntKind.i64 x102))) ∧
((((decide (x102 < 0)) = true) →
(∃ n104 : Nat, ((n104 < n95) ∧
(k93 n104 (IntKind.wrap IntKind.i64 (x98 + 1)) w97)))) ∧
(((decide (x102 < 0)) = false) →
(Calls Try.prog 27 #[(Value.pointer (some (⟨q, 0, none⟩ : Addr))), (Value.int IntKind.i64 row), (Value.int IntKind.i64 x98)] w97 (fun (e106 : Ending) => (fun (w107 : World) => (∃ b108 : Bool, ((e106 = (Ending.returned (Value.bool b108))) ∧
(((b108 = true) →
(Calls Try.prog 28 #[(Value.pointer (some (⟨q, 0, none⟩ : Addr))), (Value.int IntKind.i64 row), (Value.int IntKind.i64 x98), (Value.slice o10 n11 n12)] w107 (fun (e110 : Ending) => (fun (w111 : World) => ((e110 = (Ending.returned (Value.tuple #[]))) ∧
(R (Ending.returned (Value.tuple #[])) w111)))))) ∧
((b108 = false) →
(∃ n113 : Nat, ((n113 < n95) ∧
(k93 n113 (IntKind.wrap IntKind.i64 (x98 + 1)) w107)))))))))))))))))) ∧
(((decide (x98 < x6)) = false) →
(R (Ending.returned (Value.tuple #[])) w97))))))))))))))))))))))))))))))))))))))))))))))))))) :
    Calls Try.prog 24 #[(.pointer (some ⟨q, 0, none⟩)), (.int .i64 row)] w R :=
  calls_of_vc an24 Try.func24 rfl (by kernel_rfl) (by kernel_rfl) (Eq.mp (by kernel_rfl) h)

/-- samaritan/assignment.solve -/
def an19 : An := (.seq (.reg []) (.seq (.reg []) (.seq (.seq (.reg [(1, 2, false)]) (.blk (.loop [(21, .int .i64)] (.seq (.reg [(0, 0, true)]) (.seq (.cond .nil .nil) (.seq (.blk (.seq (.reg []) (.reg []))) (.reg []))))))) (.seq (.seq (.reg []) (.blk (.loop [(30, .int .i64)] (.seq (.reg [(0, 0, true)]) (.seq (.cond .nil .nil) (.seq (.blk (.seq (.reg []) (.reg []))) (.reg []))))))) (.seq (.reg [(2, 1, false)]) (.seq (.reg []) (.seq (.seq (.reg []) (.blk (.loop [(42, .int .i64)] (.seq (.reg [(0, 0, true)]) (.seq (.cond .nil .nil) (.seq (.blk (.seq (.reg []) (.reg []))) (.reg []))))))) (.seq (.seq (.reg []) (.blk (.loop [(10, .int .i64), (50, .int .i64)] (.seq (.reg [(0, 0, true)]) (.seq (.cond .nil .nil) (.seq (.blk (.seq (.reg []) (.seq (.reg [(1, 2, false)]) (.seq (.reg [(1, 0, true), (6, 0, true)]) (.cond (.seq (.reg []) (.reg [])) .nil))))) (.reg []))))))) (.seq (.reg []) .nil)))))))))
set_option maxRecDepth 100000 in
theorem nf19 (cost : Option Addr) (cost_n : Nat) (cost_c : Nat) (columns : Int) (w : World) (R : Ending → World → Prop) (h :
(Calls Try.prog 22 #[(Value.slice cost cost_n cost_c), (Value.int IntKind.i64 columns)] w (fun (e1 : Ending) => (fun (w2 : World) => (∃ o3 : Option Addr, ((e1 = (Ending.returned (Value.pointer o3))) ∧
(∃ a4 : Addr, ((o3 = (some a4)) ∧
(∃ x5 : Int, (((w2.cell? (Addr.add a4 1)) = (some (Value.int IntKind.i64 x5))) ∧
(∃ k6 : (Nat → (Int → (World → Prop))), ((∃ n7 : Nat, (k6 n7 0 w2)) ∧
(∀ n8 : Nat, ((Nat → Value) →
(∀ w10 : World, (∀ x11 : Int, ((k6 n8 x11 w10) →
((((decide (x11 < x5)) = true) →
(Calls Try.prog 23 #[(Value.pointer o3), (Value.int IntKind.i64 x11)] w10 (fun (e14 : Ending) => (fun (w15 : World) => ((e14 = (Ending.returned (Value.tuple #[]))) ∧
(∃ n16 : Nat, ((n16 < n8) ∧
(k6 n16 (IntKind.wrap IntKind.i64 (x11 + 1)) w15)))))))) ∧
(((decide (x11 < x5)) = false) →
(∃ k18 : (Nat → (Int → (World → Prop))), ((∃ n19 : Nat, (k18 n19 0 w10)) ∧
(∀ n20 : Nat, ((Nat → Value) →
(∀ w22 : World, (∀ x23 : Int, ((k18 n20 x23 w22) →
((((decide (x23 < ((cost_n : Nat) : Int))) = true) →
(Calls Try.prog 24 #[(Value.pointer o3), (Value.int IntKind.i64 x23)] w22 (fun (e26 : Ending) => (fun (w27 : World) => ((e26 = (Ending.returned (Value.tuple #[]))) ∧
(∃ n28 : Nat, ((n28 < n20) ∧
(k18 n28 (IntKind.wrap IntKind.i64 (x23 + 1)) w27)))))))) ∧
(((decide (x23 < ((cost_n : Nat) : Int))) = false) →
(RunOk Try.prog (Nf.Hold (Instr.makeSlice 25 (Value.int IntKind.i64 ((cost_n : Nat) : Int)) (Value.int IntKind.i64 ((cost_n : Nat) : Int)))) w22 (fun (v30 : Value) => (fun (w31 : World) => (∃ o32 : Option Addr, (∃ n33 : Nat, (∃ n34 : Nat, ((v30 = (Value.slice o32 n33 n34)) ∧
(∃ k35 : (Nat → (Int → (World → Prop))), ((∃ n36 : Nat, (k35 n36 0 w31)) ∧
(∀ n37 : Nat, ((Nat → Value) →
(∀ w39 : World, (∀ x40 : Int, ((k35 n37 x40 w39) →
((((decide (x40 < ((n33 : Nat) : Int))) = true) →
(∃ a43 : Addr, ((o32 = (some a43)) ∧
((((0 : Int) ≤ x40) ∧
(x40 < ((n33 : Nat) : Int))) ∧
((Nf.There w39 (Addr.add a43 ((x40).toNat * 1)) 1) ∧
(∀ w44 : World, ((w44 = (Nf.setCells w39 (Addr.add a43 ((x40).toNat * 1)) [(Value.int IntKind.i64 (-1))] 0)) →
(∃ n46 : Nat, ((n46 < n37) ∧
(k35 n46 (IntKind.wrap IntKind.i64 (x40 + 1)) w44)))))))))) ∧
(((decide (x40 < ((n33 : Nat) : Int))) = false) →
(∃ k48 : (Nat → (Int → (Int → (World → Prop)))), ((∃ n49 : Nat, (k48 n49 0 0 w39)) ∧
(∀ n50 : Nat, ((Nat → Value) →
(∀ w52 : World, (∀ x53 : Int, (∀ x54 : Int, ((k48 n50 x53 x54 w52) →
((((decide (x54 < columns)) = true) →
(∃ a57 : Addr, ((o3 = (some a57)) ∧
(∃ o58 : Option Addr, (∃ n59 : Nat, (∃ n60 : Nat, (((w52.cell? (Addr.add a57 2)) = (some (Value.slice o58 n59 n60))) ∧
(∃ a61 : Addr, ((o58 = (some a61)) ∧
((((0 : Int) ≤ x54) ∧
(x54 < ((n59 : Nat) : Int))) ∧
(∃ x62 : Int, (((w52.cell? (Addr.add a61 ((x54).toNat * 1))) = (some (Value.int IntKind.i64 x62))) ∧
((((decide (x62 ≥ 0)) = true) →
((((decide (x62 < ((cost_n : Nat) : Int))) = true) →
(∃ a65 : Addr, ((o32 = (some a65)) ∧
((((0 : Int) ≤ x62) ∧
(x62 < ((n33 : Nat) : Int))) ∧
((Nf.There w52 (Addr.add a65 ((x62).toNat * 1)) 1) ∧
(∀ w66 : World, ((w66 = (Nf.setCells w52 (Addr.add a65 ((x62).toNat * 1)) [(Value.int IntKind.i64 x54)] 0)) →
(∃ a68 : Addr, ((cost = (some a68)) ∧
((((0 : Int) ≤ x62) ∧
(x62 < ((cost_n : Nat) : Int))) ∧
(∃ o69 : Option Addr, (∃ n70 : Nat, (∃ n71 : Nat, (((w66.cell? (Addr.add a68 ((x62).toNat * 1))) = (some (Value.slice o69 n70 n71))) ∧
(∃ a72 : Addr, ((o69 = (some a72)) ∧
((((0 : Int) ≤ x54) ∧
(x54 < ((n70 : Nat) : Int))) ∧
(∃ x73 : Int, (((w66.cell? (Addr.add a72 ((x54).toNat * 1))) = (some (Value.int IntKind.i64 x73))) ∧
(∃ n74 : Nat, ((n74 < n50) ∧
(k48 n74 (IntKind.wrap IntKind.i64 (x53 + x73)) (IntKind.wrap IntKind.i64 (x54 + 1)) w66)))))))))))))))))))))) ∧
(((decide (x62 < ((cost_n : Nat) : Int))) = false) →
(∃ n76 : Nat, ((n76 < n50) ∧
(k48 n76 x53 (IntKind.wrap IntKind.i64 (x54 + 1)) w52)))))) ∧
(((decide (x62 ≥ 0)) = false) →
(∃ n78 : Nat, ((n78 < n50) ∧
(k48 n78 x53 (IntKind.wrap IntKind.i64 (x54 + 1)) w52))))))))))))))))) ∧
(((decide (x54 < columns)) = false) →
(R (Ending.returned (Value.tuple #[(Value.slice o32 n33 n34), (Value.int IntKind.i64 x53)])) w52))))))))))))))))))))))))))))))))))))))))))))))))))))))) :
    Calls Try.prog 19 #[(.slice cost cost_n cost_c), (.int .i64 columns)] w R :=
  calls_of_vc an19 Try.func19 rfl (by kernel_rfl) (by kernel_rfl) (Eq.mp (by kernel_rfl) h)

/-- (*samaritan/assignment.Table).Solve -/
def an15 : An := (.seq (.reg []) (.seq (.regD [] [0, 1, 2, 3, 4, 5, 6, 7, 8, 9, 10, 11, 12] [8]) .nil))
set_option maxRecDepth 100000 in
theorem nf15 (t : Nat) (w : World) (R : Ending → World → Prop) (h :
(∀ w1 : World, ((w1 = w.drew) →
(∃ o3 : Option Addr, (∃ n4 : Nat, (∃ n5 : Nat, (((w1.cell? (⟨t, 0, none⟩ : Addr)) = (some (Value.slice o3 n4 n5))) ∧
(∃ x6 : Int, (((w1.cell? (⟨t, 1, none⟩ : Addr)) = (some (Value.int IntKind.i64 x6))) ∧
(Calls Try.prog 19 #[(Value.slice o3 n4 n5), (Value.int IntKind.i64 x6)] w1 (fun (e7 : Ending) => (fun (w8 : World) => (∃ o9 : Option Addr, (∃ n10 : Nat, (∃ n11 : Nat, (∃ x12 : Int, ((e7 = (Ending.returned (Value.tuple #[(Value.slice o9 n10 n11), (Value.int IntKind.i64 x12)]))) ∧
(R (Ending.returned (Value.tuple #[(Value.slice o9 n10 n11), (Value.int IntKind.i64 x12)])) w8)))))))))))))))))) :
    Calls Try.prog 15 #[(.pointer (some ⟨t, 0, none⟩))] w R :=
  calls_of_vc an15 Try.func15 rfl (by kernel_rfl) (by kernel_rfl) (Eq.mp (by kernel_rfl) h)

/-- samaritan/assignment.Solve -/
def an10 : An := (.seq (.reg []) (.seq (.reg []) (.seq (.seq (.reg [(1, 0, true)]) (.cond (.seq (.reg []) .nil) .nil)) (.seq (.reg []) (.seq (.reg []) .nil)))))
set_option maxRecDepth 100000 in
theorem nf10 (cost : Option Addr) (cost_n : Nat) (cost_c : Nat) (w : World) (R : Ending → World → Prop) (h :
(Calls Try.prog 18 #[(Value.slice cost cost_n cost_c)] w (fun (e1 : Ending) => (fun (w2 : World) => (∃ x3 : Int, (∃ x4 : Int, ((e1 = (Ending.returned (Value.tuple #[(Value.int IntKind.i64 x3), (Value.int IntKind.i64 x4)]))) ∧
((((!(decide (x4 = 0))) = true) →
(R (Ending.returned (Value.tuple #[(Value.slice none 0 0), (Value.int IntKind.i64 0), (Value.int IntKind.i64 x4)])) w2)) ∧
(((!(decide (x4 = 0))) = false) →
(Calls Try.prog 19 #[(Value.slice cost cost_n cost_c), (Value.int IntKind.i64 x3)] w2 (fun (e7 : Ending) => (fun (w8 : World) => (∃ o9 : Option Addr, (∃ n10 : Nat, (∃ n11 : Nat, (∃ x12 : Int, ((e7 = (Ending.returned (Value.tuple #[(Value.slice o9 n10 n11), (Value.int IntKind.i64 x12)]))) ∧
(R (Ending.returned (Value.tuple #[(Value.slice o9 n10 n11), (Value.int IntKind.i64 x12), (Value.int IntKind.i64 0)])) w8)))))))))))))))))) :
    Calls Try.prog 10 #[(.slice cost cost_n cost_c)] w R :=
  calls_of_vc an10 Try.func10 rfl (by kernel_rfl) (by kernel_rfl) (Eq.mp (by kernel_rfl) h)

/-- samaritan/samaritanlaw36.alive -/
def an8 : An := (.seq (.reg []) (.seq (.reg []) (.seq (.reg []) (.seq (.reg [(1, 0, true), (4, 0, true), (9, 0, true), (13, 0, true), (17, 0, true), (22, 0, true)]) .nil))))
set_option maxRecDepth 100000 in
theorem nf8  (w : World) (R : Ending → World → Prop) (h :
(∀ w1 : World, ((w1 = (w.alloc (Obj.cells #[(Value.int IntKind.i64 4), (Value.int IntKind.i64 1)] 2 (0, 0)))) →
(∀ w3 : World, ((w3 = (w1.alloc (Obj.cells #[(Value.int IntKind.i64 2), (Value.int IntKind.i64 4611686018427387904)] 2 (0, 0)))) →
(∀ w5 : World, ((w5 = (w3.alloc (Obj.cells #[(Value.slice (some (⟨(hs w), 0, none⟩ : Addr)) 2 2), (Value.slice (some (⟨(hs w1), 0, none⟩ : Addr)) 2 2)] 32 (0, 0)))) →
(Calls Try.prog 10 #[(Value.slice (some (⟨(hs w3), 0, none⟩ : Addr)) 2 2)] w5 (fun (e7 : Ending) => (fun (w8 : World) => (∃ o9 : Option Addr, (∃ n10 : Nat, (∃ n11 : Nat, (∃ x12 : Int, (∃ x13 : Int, ((e7 = (Ending.returned (Value.tuple #[(Value.slice o9 n10 n11), (Value.int IntKind.i64 x12), (Value.int IntKind.i64 x13)]))) ∧
(∀ w14 : World, ((w14 = (w8.alloc (Obj.cells #[(Value.int IntKind.i64 1)] 2 (0, 0)))) →
(∀ w16 : World, ((w16 = (w14.alloc (Obj.cells #[(Value.int IntKind.i64 1)] 2 (0, 0)))) →
(∀ w18 : World, ((w18 = (w16.alloc (Obj.cells #[(Value.slice (some (⟨(hs w8), 0, none⟩ : Addr)) 1 1), (Value.slice (some (⟨(hs w14), 0, none⟩ : Addr)) 1 1)] 32 (0, 0)))) →
(Calls Try.prog 10 #[(Value.slice (some (⟨(hs w16), 0, none⟩ : Addr)) 2 2)] w18 (fun (e20 : Ending) => (fun (w21 : World) => (∃ o22 : Option Addr, (∃ n23 : Nat, (∃ n24 : Nat, (∃ x25 : Int, (∃ x26 : Int, ((e20 = (Ending.returned (Value.tuple #[(Value.slice o22 n23 n24), (Value.int IntKind.i64 x25), (Value.int IntKind.i64 x26)]))) ∧
((((decide (x13 = 0)) = true) →
((((decide (x12 = 3)) = true) →
(∀ w29 : World, ((w29 = (w21.alloc (Obj.cells #[(Value.int IntKind.i64 1), (Value.int IntKind.i64 0)] 3 (0, 0)))) →
(Calls Try.prog 17 #[(Value.slice o9 n10 n11), (Value.slice (some (⟨(hs w21), 0, none⟩ : Addr)) 2 2)] w29 (fun (e31 : Ending) => (fun (w32 : World) => (∃ b33 : Bool, ((e31 = (Ending.returned (Value.bool b33))) ∧
(((b33 = true) →
((((decide (x26 = 0)) = true) →
((((decide (x25 = 1)) = true) →
(∀ w37 : World, ((w37 = (w32.alloc (Obj.cells #[(Value.int IntKind.i64 0), (Value.int IntKind.i64 (-1))] 3 (0, 0)))) →
(Calls Try.prog 17 #[(Value.slice o22 n23 n24), (Value.slice (some (⟨(hs w32), 0, none⟩ : Addr)) 2 2)] w37 (fun (e39 : Ending) => (fun (w40 : World) => (∃ b41 : Bool, ((e39 = (Ending.returned (Value.bool b41))) ∧
(((b41 = true) →
(R (Ending.returned (Value.bool true)) w40)) ∧
((b41 = false) →
(R (Ending.returned (Value.bool false)) w40))))))))))) ∧
(((decide (x25 = 1)) = false) →
(R (Ending.returned (Value.bool false)) w32)))) ∧
(((decide (x26 = 0)) = false) →
(R (Ending.returned (Value.bool false)) w32)))) ∧
((b33 = false) →
(R (Ending.returned (Value.bool false)) w32))))))))))) ∧
(((decide (x12 = 3)) = false) →
(R (Ending.returned (Value.bool false)) w21)))) ∧
(((decide (x13 = 0)) = false) →
(R (Ending.returned (Value.bool false)) w21)))))))))))))))))))))))))))))))))) :
    Calls Try.prog 8 #[] w R :=
  calls_of_vc an8 Try.func8 rfl (by kernel_rfl) (by kernel_rfl) (Eq.mp (by kernel_rfl) h)

/-- samaritan/samaritanlaw36.AssignmentNoImprovingSwap -/
def an3 : An := (.seq (.reg []) (.seq (.seq (.reg [(0, 0, true)]) (.cond (.seq (.reg []) .nil) .nil)) (.seq (.seq (.reg [(1, 0, true)]) (.cond (.seq (.reg []) .nil) .nil)) (.seq (.reg []) (.seq (.seq (.reg []) (.seq (.reg [(1, 0, true), (4, 0, true)]) (.cond (.seq (.reg [(2, 0, true), (6, 0, true), (10, 0, true)]) .nil) .nil))) (.seq (.seq (.reg []) (.seq (.reg [(1, 0, true), (5, 0, true)]) (.cond (.seq (.reg []) .nil) .nil))) (.seq (.reg []) (.cut [(10, .int .i64)] (.seq (.reg [(2, 0, true)]) (.cond (.reg []) .nil)) (.seq (.reg [(1, 1, false)]) (.seq (.seq (.reg []) (.blk (.loop [(75, .int .i64)] (.seq (.reg [(0, 0, true)]) (.seq (.cond .nil .nil) (.seq (.blk (.seq (.reg []) (.seq (.reg [(1, 0, true)]) (.cond (.reg []) .nil)))) (.reg []))))))) (.seq (.seq (.reg []) (.blk (.loop [(87, .int .i64)] (.seq (.reg [(0, 0, true)]) (.seq (.cond .nil .nil) (.seq (.blk (.seq (.reg []) (.seq (.seq (.reg []) (.blk (.loop [(93, .int .i64)] (.seq (.reg [(0, 0, true)]) (.seq (.cond .nil .nil) (.seq (.blk (.seq (.reg []) (.seq (.seq (.reg [(3, 0, true), (12, 0, true)]) (.cond .nil .nil)) (.seq (.regD [(1, 0, true), (17, 0, true), (34, 0, true), (38, 0, true)] [0, 1, 2, 3, 4, 5, 6, 7, 8, 9, 10, 11, 12, 13, 14, 15, 16, 17, 18, 19, 20, 21, 22, 23, 24, 25, 26, 27, 28, 29, 30, 31, 32, 33, 34, 35, 36, 37, 38, 39, 40] []) (.cond (.seq (.reg []) .nil) .nil))))) (.reg []))))))) (.seq (.reg [(2, 2, false)]) (.blk (.loop [(156, .int .i64)] (.seq (.reg [(0, 0, true)]) (.seq (.cond .nil .nil) (.seq (.blk (.seq (.reg []) (.seq (.seq (.reg [(1, 0, true), (4, 0, true), (14, 0, true), (24, 0, true)]) (.cond .nil .nil)) (.seq (.regD [(30, 0, true)] [0, 1, 2, 3, 4, 5, 6, 7, 8, 9, 10, 11, 12, 13, 14, 15, 16, 17, 18, 19, 20, 21, 22, 23, 24, 25, 26, 27, 28, 29, 30] []) (.cond (.seq (.reg []) .nil) .nil))))) (.reg [])))))))))) (.reg []))))))) (.seq (.reg []) .nil))))))))))))
set_option maxRecDepth 100000 in
theorem nf3 (cost : Option Addr) (cost_n : Nat) (cost_c : Nat) (w : World) (R : Ending → World → Prop) (h :
(Calls Try.prog 8 #[] w (fun (e1 : Ending) => (fun (w2 : World) => (∃ b3 : Bool, ((e1 = (Ending.returned (Value.bool b3))) ∧
(((b3 = true) →
(Calls Try.prog 9 #[(Value.slice cost cost_n cost_c), (Value.int IntKind.i64 40)] w2 (fun (e5 : Ending) => (fun (w6 : World) => (∃ b7 : Bool, ((e5 = (Ending.returned (Value.bool b7))) ∧
(((b7 = true) →
(Calls Try.prog 10 #[(Value.slice cost cost_n cost_c)] w6 (fun (e9 : Ending) => (fun (w10 : World) => (∃ o11 : Option Addr, (∃ n12 : Nat, (∃ n13 : Nat, (∃ x14 : Int, (∃ x15 : Int, ((e9 = (Ending.returned (Value.tuple #[(Value.slice o11 n12 n13), (Value.int IntKind.i64 x14), (Value.int IntKind.i64 x15)]))) ∧
(Calls Try.prog 11 #[(Value.slice cost cost_n cost_c)] w10 (fun (e16 : Ending) => (fun (w17 : World) => (∃ x18 : Int, ((e16 = (Ending.returned (Value.int IntKind.i64 x18))) ∧
((((!(decide (x18 = 0))) = true) →
((((decide (x15 = x18)) = true) →
((((decide (((n12 : Nat) : Int) = 0)) = true) →
((((decide (x14 = 0)) = true) →
(R (Ending.returned (Value.bool true)) w17)) ∧
(((decide (x14 = 0)) = false) →
(R (Ending.returned (Value.bool false)) w17)))) ∧
(((decide (((n12 : Nat) : Int) = 0)) = false) →
(R (Ending.returned (Value.bool false)) w17)))) ∧
(((decide (x15 = x18)) = false) →
(R (Ending.returned (Value.bool false)) w17)))) ∧
(((!(decide (x18 = 0))) = false) →
((((!(decide (x15 = 0))) = true) →
((((decide (x15 = x18)) = true) →
((((decide (((n12 : Nat) : Int) = 0)) = true) →
((((decide (x14 = 0)) = true) →
(R (Ending.returned (Value.bool true)) w17)) ∧
(((decide (x14 = 0)) = false) →
(R (Ending.returned (Value.bool false)) w17)))) ∧
(((decide (((n12 : Nat) : Int) = 0)) = false) →
(R (Ending.returned (Value.bool false)) w17)))) ∧
(((decide (x15 = x18)) = false) →
(R (Ending.returned (Value.bool false)) w17)))) ∧
(((!(decide (x15 = 0))) = false) →
(Calls Try.prog 12 #[(Value.slice cost cost_n cost_c), (Value.slice o11 n12 n13)] w17 (fun (e35 : Ending) => (fun (w36 : World) => (∃ x37 : Int, (∃ x38 : Int, (∃ x39 : Int, ((e35 = (Ending.returned (Value.tuple #[(Value.int IntKind.i64 x37), (Value.int IntKind.i64 x38), (Value.int IntKind.i64 x39)]))) ∧
((((!(decide (x39 = 0))) = true) →
(R (Ending.returned (Value.bool false)) w36)) ∧
(((!(decide (x39 = 0))) = false) →
((((!(decide (x38 = x14))) = true) →
(R (Ending.returned (Value.bool false)) w36)) ∧
(((!(decide (x38 = x14))) = false) →
(∀ k44 : (Int → (World → Prop)), ((∀ w46 : World, (∀ x47 : Int, (((Nat → Value) →
(RunOk Try.prog (Nf.Hold (Instr.makeSlice 33 (Value.int IntKind.i64 x47) (Value.int IntKind.i64 x47))) w46 (fun (v50 : Value) => (fun (w51 : World) => (∃ o52 : Option Addr, (∃ n53 : Nat, (∃ n54 : Nat, ((v50 = (Value.slice o52 n53 n54)) ∧
(∃ k55 : (Nat → (Int → (World → Prop))), ((∃ n56 : Nat, (k55 n56 0 w51)) ∧
(∀ n57 : Nat, ((Nat → Value) →
(∀ w59 : World, (∀ x60 : Int, ((k55 n57 x60 w59) →
((((decide (x60 < ((n12 : Nat) : Int))) = true) →
(∃ a63 : Addr, ((o11 = (some a63)) ∧
((((0 : Int) ≤ x60) ∧
(x60 < ((n12 : Nat) : Int))) ∧
(∃ x64 : Int, (((w59.cell? (Addr.add a63 ((x60).toNat * 1))) = (some (Value.int IntKind.i64 x64))) ∧
((((decide (x64 ≥ 0)) = true) →
(∃ a66 : Addr, ((o52 = (some a66)) ∧
((((0 : Int) ≤ x64) ∧
(x64 < ((n53 : Nat) : Int))) ∧
((Nf.There w59 (Addr.add a66 ((x64).toNat * 1)) 1) ∧
(∀ w67 : World, ((w67 = (Nf.setCells w59 (Addr.add a66 ((x64).toNat * 1)) [(Value.bool true)] 0)) →
(∃ n69 : Nat, ((n69 < n57) ∧
(k55 n69 (IntKind.wrap IntKind.i64 (x60 + 1)) w67)))))))))) ∧
(((decide (x64 ≥ 0)) = false) →
(∃ n71 : Nat, ((n71 < n57) ∧
(k55 n71 (IntKind.wrap IntKind.i64 (x60 + 1)) w59))))))))))) ∧
(((decide (x60 < ((n12 : Nat) : Int))) = false) →
(∃ k73 : (Nat → (Int → (World → Prop))), ((∃ n74 : Nat, (k73 n74 0 w59)) ∧
(∀ n75 : Nat, ((Nat → Value) →
(∀ w77 : World, (∀ x78 : Int, ((k73 n75 x78 w77) →
((((decide (x78 < ((n12 : Nat) : Int))) = true) →
(∃ a81 : Addr, ((o11 = (some a81)) ∧
((((0 : Int) ≤ x78) ∧
(x78 < ((n12 : Nat) : Int))) ∧
(∃ x82 : Int, (((w77.cell? (Addr.add a81 ((x78).toNat * 1))) = (some (Value.int IntKind.i64 x82))) ∧
(∃ k83 : (Nat → (Int → (World → Prop))), ((∃ n84 : Nat, (k83 n84 0 w77)) ∧
(∀ n85 : Nat, ((Nat → Value) →
(∀ w87 : World, (∀ x88 : Int, ((k83 n85 x88 w87) →
((((decide (x88 < x47)) = true) →
(∃ a91 : Addr, ((o52 = (some a91)) ∧
((((0 : Int) ≤ x88) ∧
(x88 < ((n53 : Nat) : Int))) ∧
(∃ b92 : Bool, (((w87.cell? (Addr.add a91 ((x88).toNat * 1))) = (some (Value.bool b92))) ∧
(((b92 = true) →
(∃ n94 : Nat, ((n94 < n85) ∧
(k83 n94 (IntKind.wrap IntKind.i64 (x88 + 1)) w87)))) ∧
((b92 = false) →
(∃ a96 : Addr, ((cost = (some a96)) ∧
((((0 : Int) ≤ x78) ∧
(x78 < ((cost_n : Nat) : Int))) ∧
(∃ o97 : Option Addr, (∃ n98 : Nat, (∃ n99 : Nat, (((w87.cell? (Addr.add a96 ((x78).toNat * 1))) = (some (Value.slice o97 n98 n99))) ∧
(∃ a100 : Addr, ((o97 = (some a100)) ∧
((((0 : Int) ≤ x88) ∧
(x88 < ((n98 : Nat) : Int))) ∧
(∃ x101 : Int, (((w87.cell? (Addr.add a100 ((x88).toNat * 1))) = (some (Value.int IntKind.i64 x101))) ∧
((((decide (x101 = 4611686018427387904)) = true) →
(∃ n103 : Nat, ((n103 < n85) ∧
(k83 n103 (IntKind.wrap IntKind.i64 (x88 + 1)) w87)))) ∧
(((decide (x101 = 4611686018427387904)) = false) →
(∀ w105 : World, ((w105 = w87.drew) →
((((decide (x82 < 0)) = true) →
(R (Ending.returned (Value.bool false)) w105)) ∧
(((decide (x82 < 0)) = false) →
(∃ a109 : Addr, ((cost = (some a109)) ∧
((((0 : Int) ≤ x78) ∧
(x78 < ((cost_n : Nat) : Int))) ∧
(∃ o110 : Option Addr, (∃ n111 : Nat, (∃ n112 : Nat, (((w105.cell? (Addr.add a109 ((x78).toNat * 1))) = (some (Value.slice o110 n111 n112))) ∧
(∃ a113 : Addr, ((o110 = (some a113)) ∧
((((0 : Int) ≤ x88) ∧
(x88 < ((n111 : Nat) : Int))) ∧
(∃ x114 : Int, (((w105.cell? (Addr.add a113 ((x88).toNat * 1))) = (some (Value.int IntKind.i64 x114))) ∧
(∃ a115 : Addr, ((cost = (some a115)) ∧
((((0 : Int) ≤ x78) ∧
(x78 < ((cost_n : Nat) : Int))) ∧
(∃ o116 : Option Addr, (∃ n117 : Nat, (∃ n118 : Nat, (((w105.cell? (Addr.add a115 ((x78).toNat * 1))) = (some (Value.slice o116 n117 n118))) ∧
(∃ a119 : Addr, ((o116 = (some a119)) ∧
((((0 : Int) ≤ x82) ∧
(x82 < ((n117 : Nat) : Int))) ∧
(∃ x120 : Int, (((w105.cell? (Addr.add a119 ((x82).toNat * 1))) = (some (Value.int IntKind.i64 x120))) ∧
((((decide (x114 < x120)) = true) →
(R (Ending.returned (Value.bool false)) w105)) ∧
(((decide (x114 < x120)) = false) →
(∃ a123 : Addr, ((cost = (some a123)) ∧
((((0 : Int) ≤ x78) ∧
(x78 < ((cost_n : Nat) : Int))) ∧
(∃ o124 : Option Addr, (∃ n125 : Nat, (∃ n126 : Nat, (((w105.cell? (Addr.add a123 ((x78).toNat * 1))) = (some (Value.slice o124 n125 n126))) ∧
(∃ a127 : Addr, ((o124 = (some a127)) ∧
((((0 : Int) ≤ x88) ∧
(x88 < ((n125 : Nat) : Int))) ∧
(∃ x128 : Int, (((w105.cell? (Addr.add a127 ((x88).toNat * 1))) = (some (Value.int IntKind.i64 x128))) ∧
(∃ a129 : Addr, ((cost = (some a129)) ∧
((((0 : Int) ≤ x78) ∧
(x78 < ((cost_n : Nat) : Int))) ∧
(∃ o130 : Option Addr, (∃ n131 : Nat, (∃ n132 : Nat, (((w105.cell? (Addr.add a129 ((x78).toNat * 1))) = (some (Value.slice o130 n131 n132))) ∧
(∃ a133 : Addr, ((o130 = (some a133)) ∧
((((0 : Int) ≤ x82) ∧
(x82 < ((n131 : Nat) : Int))) ∧
(∃ x134 : Int, (((w105.cell? (Addr.add a133 ((x82).toNat * 1))) = (some (Value.int IntKind.i64 x134))) ∧
((((decide (x128 = x134)) = true) →
((((decide (x88 < x82)) = true) →
(R (Ending.returned (Value.bool false)) w105)) ∧
(((decide (x88 < x82)) = false) →
(∃ n138 : Nat, ((n138 < n85) ∧
(k83 n138 (IntKind.wrap IntKind.i64 (x88 + 1)) w105)))))) ∧
(((decide (x128 = x134)) = false) →
(∃ n140 : Nat, ((n140 < n85) ∧
(k83 n140 (IntKind.wrap IntKind.i64 (x88 + 1)) w105))))))))))))))))))))))))))))))))))))))))))))))))))))))))))))))))))))))))))))))))) ∧
(((decide (x88 < x47)) = false) →
((((0 : Int) ≤ x78) ∧
(x78 ≤ ((n13 : Nat) : Int))) ∧
(∃ k142 : (Nat → (Int → (World → Prop))), ((∃ n143 : Nat, (k142 n143 0 w87)) ∧
(∀ n144 : Nat, ((Nat → Value) →
(∀ w146 : World, (∀ x147 : Int, ((k142 n144 x147 w146) →
((((decide (x147 < ((((x78).toNat - 0) : Nat) : Int))) = true) →
(∃ a150 : Addr, (((if (n13 = 0) then o11 else (Option.map (fun (x : Addr) => x) o11)) = (some a150)) ∧
((((0 : Int) ≤ x147) ∧
(x147 < ((((x78).toNat - 0) : Nat) : Int))) ∧
(∃ x151 : Int, (((w146.cell? (Addr.add a150 ((x147).toNat * 1))) = (some (Value.int IntKind.i64 x151))) ∧
((((decide (x82 < 0)) = true) →
(∃ n153 : Nat, ((n153 < n144) ∧
(k142 n153 (IntKind.wrap IntKind.i64 (x147 + 1)) w146)))) ∧
(((decide (x82 < 0)) = false) →
((((decide (x151 < 0)) = true) →
(∃ n156 : Nat, ((n156 < n144) ∧
(k142 n156 (IntKind.wrap IntKind.i64 (x147 + 1)) w146)))) ∧
(((decide (x151 < 0)) = false) →
(∃ a158 : Addr, ((cost = (some a158)) ∧
((((0 : Int) ≤ x78) ∧
(x78 < ((cost_n : Nat) : Int))) ∧
(∃ o159 : Option Addr, (∃ n160 : Nat, (∃ n161 : Nat, (((w146.cell? (Addr.add a158 ((x78).toNat * 1))) = (some (Value.slice o159 n160 n161))) ∧
(∃ a162 : Addr, ((o159 = (some a162)) ∧
((((0 : Int) ≤ x151) ∧
(x151 < ((n160 : Nat) : Int))) ∧
(∃ x163 : Int, (((w146.cell? (Addr.add a162 ((x151).toNat * 1))) = (some (Value.int IntKind.i64 x163))) ∧
((((decide (x163 = 4611686018427387904)) = true) →
(∃ n165 : Nat, ((n165 < n144) ∧
(k142 n165 (IntKind.wrap IntKind.i64 (x147 + 1)) w146)))) ∧
(((decide (x163 = 4611686018427387904)) = false) →
(∃ a167 : Addr, ((cost = (some a167)) ∧
((((0 : Int) ≤ x147) ∧
(x147 < ((cost_n : Nat) : Int))) ∧
(∃ o168 : Option Addr, (∃ n169 : Nat, (∃ n170 : Nat, (((w146.cell? (Addr.add a167 ((x147).toNat * 1))) = (some (Value.slice o168 n169 n170))) ∧
(∃ a171 : Addr, ((o168 = (some a171)) ∧
((((0 : Int) ≤ x82) ∧
(x82 < ((n169 : Nat) : Int))) ∧
(∃ x172 : Int, (((w146.cell? (Addr.add a171 ((x82).toNat * 1))) = (some (Value.int IntKind.i64 x172))) ∧
((((decide (x172 = 4611686018427387904)) = true) →
(∃ n174 : Nat, ((n174 < n144) ∧
(k142 n174 (IntKind.wrap IntKind.i64 (x147 + 1)) w146)))) ∧
(((decide (x172 = 4611686018427387904)) = false) →
(∀ w176 : World, ((w176 = w146.drew) →
(∃ a178 : Addr, ((cost = (some a178)) ∧
((((0 : Int) ≤ x78) ∧
(x78 < ((cost_n : Nat) : Int))) ∧
(∃ o179 : Option Addr, (∃ n180 : Nat, (∃ n181 : Nat, (((w176.cell? (Addr.add a178 ((x78).toNat * 1))) = (some (Value.slice o179 n180 n181))) ∧
(∃ a182 : Addr, ((o179 = (some a182)) ∧
((((0 : Int) ≤ x151) ∧
(x151 < ((n180 : Nat) : Int))) ∧
(∃ x183 : Int, (((w176.cell? (Addr.add a182 ((x151).toNat * 1))) = (some (Value.int IntKind.i64 x183))) ∧
(∃ a184 : Addr, ((cost = (some a184)) ∧
((((0 : Int) ≤ x147) ∧
(x147 < ((cost_n : Nat) : Int))) ∧
(∃ o185 : Option Addr, (∃ n186 : Nat, (∃ n187 : Nat, (((w176.cell? (Addr.add a184 ((x147).toNat * 1))) = (some (Value.slice o185 n186 n187))) ∧
(∃ a188 : Addr, ((o185 = (some a188)) ∧
((((0 : Int) ≤ x82) ∧
(x82 < ((n186 : Nat) : Int))) ∧
(∃ x189 : Int, (((w176.cell? (Addr.add a188 ((x82).toNat * 1))) = (some (Value.int IntKind.i64 x189))) ∧
(∃ a190 : Addr, ((cost = (some a190)) ∧
((((0 : Int) ≤ x78) ∧
(x78 < ((cost_n : Nat) : Int))) ∧
(∃ o191 : Option Addr, (∃ n192 : Nat, (∃ n193 : Nat, (((w176.cell? (Addr.add a190 ((x78).toNat * 1))) = (some (Value.slice o191 n192 n193))) ∧
(∃ a194 : Addr, ((o191 = (some a194)) ∧
((((0 : Int) ≤ x82) ∧
(x82 < ((n192 : Nat) : Int))) ∧
(∃ x195 : Int, (((w176.cell? (Addr.add a194 ((x82).toNat * 1))) = (some (Value.int IntKind.i64 x195))) ∧
(∃ a196 : Addr, ((cost = (some a196)) ∧
((((0 : Int) ≤ x147) ∧
(x147 < ((cost_n : Nat) : Int))) ∧
(∃ o197 : Option Addr, (∃ n198 : Nat, (∃ n199 : Nat, (((w176.cell? (Addr.add a196 ((x147).toNat * 1))) = (some (Value.slice o197 n198 n199))) ∧
(∃ a200 : Addr, ((o197 = (some a200)) ∧
((((0 : Int) ≤ x151) ∧
(x151 < ((n198 : Nat) : Int))) ∧
(∃ x201 : Int, (((w176.cell? (Addr.add a200 ((x151).toNat * 1))) = (some (Value.int IntKind.i64 x201))) ∧
((((decide ((IntKind.wrap IntKind.i64 (x183 + x189)) < (IntKind.wrap IntKind.i64 (x195 + x201)))) = true) →
(R (Ending.returned (Value.bool false)) w176)) ∧
(((decide ((IntKind.wrap IntKind.i64 (x183 + x189)) < (IntKind.wrap IntKind.i64 (x195 + x201)))) = false) →
(∃ n204 : Nat, ((n204 < n144) ∧
(k142 n204 (IntKind.wrap IntKind.i64 (x147 + 1)) w176))))))))))))))))))))))))))))))))))))))))))))))))))))))))))))))))))))))))))))))))))))))))))))) ∧
(((decide (x147 < ((((x78).toNat - 0) : Nat) : Int))) = false) →
(∃ n206 : Nat, ((n206 < n75) ∧
(k73 n206 (IntKind.wrap IntKind.i64 (x78 + 1)) w146)))))))))))))))))))))))))))) ∧
(((decide (x78 < ((n12 : Nat) : Int))) = false) →
(R (Ending.returned (Value.bool true)) w77))))))))))))))))))))))))))) →
(k44 x47 w46)))) →
((((decide (((cost_n : Nat) : Int) > 0)) = true) →
(∃ a209 : Addr, ((cost = (some a209)) ∧
((((0 : Int) ≤ 0) ∧
((0 : Int) < ((cost_n : Nat) : Int))) ∧
(∃ o210 : Option Addr, (∃ n211 : Nat, (∃ n212 : Nat, (((w36.cell? a209) = (some (Value.slice o210 n211 n212))) ∧
(k44 ((n211 : Nat) : Int) w36))))))))) ∧
(((decide (((cost_n : Nat) : Int) > 0)) = false) →
(k44 0 w36))))))))))))))))))))))))))))))))))) ∧
((b7 = false) →
(R (Ending.returned (Value.bool true)) w6))))))))) ∧
((b3 = false) →
(R (Ending.returned (Value.bool false)) w2))))))))) :
    Calls Try.prog 3 #[(.slice cost cost_n cost_c)] w R :=
  calls_of_vc an3 Try.func3 rfl (by kernel_rfl) (by kernel_rfl) (Eq.mp (by kernel_rfl) h)

/-- samaritan/samaritanlaw36.AssignmentPermutation -/
def an4 : An := (.seq (.reg []) (.seq (.seq (.reg [(0, 0, true)]) (.cond (.seq (.reg []) .nil) .nil)) (.seq (.seq (.reg [(1, 0, true), (6, 0, true)]) (.cond (.seq (.reg []) .nil) .nil)) (.seq (.reg []) (.seq (.seq (.reg []) (.blk (.loop [(3, .slice), (32, .int .i64)] (.seq (.reg [(0, 0, true)]) (.seq (.cond .nil .nil) (.seq (.blk (.seq (.reg []) (.seq (.reg []) (.seq (.reg []) (.seq (.seq (.reg []) (.blk (.loop [(6, .slice), (45, .int .i64)] (.seq (.reg [(0, 0, true)]) (.seq (.cond .nil .nil) (.seq (.blk (.seq (.reg []) (.reg [(10, 1, false)]))) (.reg []))))))) (.reg [(3, 1, false)])))))) (.reg []))))))) (.seq (.reg []) (.seq (.reg []) (.seq (.seq (.reg [(1, 0, true), (4, 0, true), (9, 0, true)]) (.cond (.seq (.reg []) .nil) .nil)) (.seq (.reg []) (.seq (.reg []) (.seq (.reg [(1, 0, true), (4, 0, true), (9, 0, true)]) .nil)))))))))))
set_option maxRecDepth 100000 in
theorem nf4 (cost : Option Addr) (cost_n : Nat) (cost_c : Nat) (w : World) (R : Ending → World → Prop) (h :
(Calls Try.prog 8 #[] w (fun (e1 : Ending) => (fun (w2 : World) => (∃ b3 : Bool, ((e1 = (Ending.returned (Value.bool b3))) ∧
(((b3 = true) →
(Calls Try.prog 9 #[(Value.slice cost cost_n cost_c), (Value.int IntKind.i64 30)] w2 (fun (e5 : Ending) => (fun (w6 : World) => (∃ b7 : Bool, ((e5 = (Ending.returned (Value.bool b7))) ∧
(((b7 = true) →
(Calls Try.prog 11 #[(Value.slice cost cost_n cost_c)] w6 (fun (e9 : Ending) => (fun (w10 : World) => (∃ x11 : Int, ((e9 = (Ending.returned (Value.int IntKind.i64 x11))) ∧
((((!(decide (x11 = 0))) = true) →
(R (Ending.returned (Value.bool true)) w10)) ∧
(((!(decide (x11 = 0))) = false) →
(∃ k14 : (Nat → (Option Addr → (Nat → (Nat → (Int → (World → Prop)))))), ((∃ n15 : Nat, (k14 n15 none 0 0 0 w10)) ∧
(∀ n16 : Nat, ((Nat → Value) →
(∀ w18 : World, (∀ o19 : Option Addr, (∀ n20 : Nat, (∀ n21 : Nat, (∀ x22 : Int, ((k14 n16 o19 n20 n21 x22 w18) →
((((decide (x22 < ((cost_n : Nat) : Int))) = true) →
(∃ a25 : Addr, ((cost = (some a25)) ∧
((((0 : Int) ≤ (IntKind.wrap IntKind.i64 ((IntKind.wrap IntKind.i64 (((cost_n : Nat) : Int) - 1)) - x22))) ∧
((IntKind.wrap IntKind.i64 ((IntKind.wrap IntKind.i64 (((cost_n : Nat) : Int) - 1)) - x22)) < ((cost_n : Nat) : Int))) ∧
(∃ o26 : Option Addr, (∃ n27 : Nat, (∃ n28 : Nat, (((w18.cell? (Addr.add a25 (((IntKind.wrap IntKind.i64 ((IntKind.wrap IntKind.i64 (((cost_n : Nat) : Int) - 1)) - x22))).toNat * 1))) = (some (Value.slice o26 n27 n28))) ∧
(∃ k29 : (Nat → (Option Addr → (Nat → (Nat → (Int → (World → Prop)))))), ((∃ n30 : Nat, (k29 n30 none 0 0 0 w18)) ∧
(∀ n31 : Nat, ((Nat → Value) →
(∀ w33 : World, (∀ o34 : Option Addr, (∀ n35 : Nat, (∀ n36 : Nat, (∀ x37 : Int, ((k29 n31 o34 n35 n36 x37 w33) →
((((decide (x37 < ((n27 : Nat) : Int))) = true) →
(∃ a40 : Addr, ((o26 = (some a40)) ∧
((((0 : Int) ≤ (IntKind.wrap IntKind.i64 ((IntKind.wrap IntKind.i64 (((n27 : Nat) : Int) - 1)) - x37))) ∧
((IntKind.wrap IntKind.i64 ((IntKind.wrap IntKind.i64 (((n27 : Nat) : Int) - 1)) - x37)) < ((n27 : Nat) : Int))) ∧
(∃ x41 : Int, (((w33.cell? (Addr.add a40 (((IntKind.wrap IntKind.i64 ((IntKind.wrap IntKind.i64 (((n27 : Nat) : Int) - 1)) - x37))).toNat * 1))) = (some (Value.int IntKind.i64 x41))) ∧
(∀ w42 : World, ((w42 = (w33.alloc (Obj.cells #[(Value.int IntKind.i64 x41)] 2 (0, 0)))) →
(RunOk Try.prog (Nf.Hold (Builtin.append_ #[32, 32] 32 #[(Value.slice o34 n35 n36), (Value.slice (some (⟨(hs w33), 0, none⟩ : Addr)) 1 1)])) w42 (fun (v44 : Value) => (fun (w45 : World) => (∃ o46 : Option Addr, (∃ n47 : Nat, (∃ n48 : Nat, ((v44 = (Value.slice o46 n47 n48)) ∧
(∃ n49 : Nat, ((n49 < n31) ∧
(k29 n49 o46 n47 n48 (IntKind.wrap IntKind.i64 (x37 + 1)) w45)))))))))))))))))) ∧
(((decide (x37 < ((n27 : Nat) : Int))) = false) →
(∀ w51 : World, ((w51 = (w33.alloc (Obj.cells #[(Value.slice o34 n35 n36)] 32 (0, 0)))) →
(RunOk Try.prog (Nf.Hold (Builtin.append_ #[22, 22] 22 #[(Value.slice o19 n20 n21), (Value.slice (some (⟨(hs w33), 0, none⟩ : Addr)) 1 1)])) w51 (fun (v53 : Value) => (fun (w54 : World) => (∃ o55 : Option Addr, (∃ n56 : Nat, (∃ n57 : Nat, ((v53 = (Value.slice o55 n56 n57)) ∧
(∃ n58 : Nat, ((n58 < n16) ∧
(k14 n58 o55 n56 n57 (IntKind.wrap IntKind.i64 (x22 + 1)) w54)))))))))))))))))))))))))))))))) ∧
(((decide (x22 < ((cost_n : Nat) : Int))) = false) →
(Calls Try.prog 10 #[(Value.slice cost cost_n cost_c)] w18 (fun (e60 : Ending) => (fun (w61 : World) => (∃ o62 : Option Addr, (∃ n63 : Nat, (∃ n64 : Nat, (∃ x65 : Int, (∃ x66 : Int, ((e60 = (Ending.returned (Value.tuple #[(Value.slice o62 n63 n64), (Value.int IntKind.i64 x65), (Value.int IntKind.i64 x66)]))) ∧
(Calls Try.prog 10 #[(Value.slice o19 n20 n21)] w61 (fun (e67 : Ending) => (fun (w68 : World) => (∃ o69 : Option Addr, (∃ n70 : Nat, (∃ n71 : Nat, (∃ x72 : Int, (∃ x73 : Int, ((e67 = (Ending.returned (Value.tuple #[(Value.slice o69 n70 n71), (Value.int IntKind.i64 x72), (Value.int IntKind.i64 x73)]))) ∧
((((!(decide (x66 = 0))) = true) →
(R (Ending.returned (Value.bool false)) w68)) ∧
(((!(decide (x66 = 0))) = false) →
((((!(decide (x73 = 0))) = true) →
(R (Ending.returned (Value.bool false)) w68)) ∧
(((!(decide (x73 = 0))) = false) →
((((!(decide (x65 = x72))) = true) →
(R (Ending.returned (Value.bool false)) w68)) ∧
(((!(decide (x65 = x72))) = false) →
(Calls Try.prog 12 #[(Value.slice cost cost_n cost_c), (Value.slice o62 n63 n64)] w68 (fun (e80 : Ending) => (fun (w81 : World) => (∃ x82 : Int, (∃ x83 : Int, (∃ x84 : Int, ((e80 = (Ending.returned (Value.tuple #[(Value.int IntKind.i64 x82), (Value.int IntKind.i64 x83), (Value.int IntKind.i64 x84)]))) ∧
(Calls Try.prog 12 #[(Value.slice o19 n20 n21), (Value.slice o69 n70 n71)] w81 (fun (e85 : Ending) => (fun (w86 : World) => (∃ x87 : Int, (∃ x88 : Int, (∃ x89 : Int, ((e85 = (Ending.returned (Value.tuple #[(Value.int IntKind.i64 x87), (Value.int IntKind.i64 x88), (Value.int IntKind.i64 x89)]))) ∧
((((decide (x84 = 0)) = true) →
((((decide (x89 = 0)) = true) →
((((decide (x82 = x87)) = true) →
(R (Ending.returned (Value.bool true)) w86)) ∧
(((decide (x82 = x87)) = false) →
(R (Ending.returned (Value.bool false)) w86)))) ∧
(((decide (x89 = 0)) = false) →
(R (Ending.returned (Value.bool false)) w86)))) ∧
(((decide (x84 = 0)) = false) →
(R (Ending.returned (Value.bool false)) w86))))))))))))))))))))))))))))))))))))))))))))))))))))))))))))) ∧
((b7 = false) →
(R (Ending.returned (Value.bool true)) w6))))))))) ∧
((b3 = false) →
(R (Ending.returned (Value.bool false)) w2))))))))) :
    Calls Try.prog 4 #[(.slice cost cost_n cost_c)] w R :=
  calls_of_vc an4 Try.func4 rfl (by kernel_rfl) (by kernel_rfl) (Eq.mp (by kernel_rfl) h)

/-- samaritan/samaritanlaw36.AssignmentExtraColumn -/
def an5 : An := (.seq (.reg []) (.seq (.seq (.reg [(0, 0, true)]) (.cond (.seq (.reg []) .nil) .nil)) (.seq (.seq (.reg [(1, 0, true), (8, 0, true), (13, 0, true)]) (.cond (.seq (.reg []) .nil) .nil)) (.seq (.reg []) (.seq (.seq (.reg []) (.blk (.loop [(5, .slice), (39, .int .i64)] (.seq (.reg [(0, 0, true)]) (.seq (.cond .nil .nil) (.seq (.blk (.seq (.reg []) (.regD [(3, 1, false), (9, 1, false), (11, 1, false)] [0, 2, 4, 5, 6, 7, 1, 3, 8, 9, 10, 11, 12] [1, 3, 8, 9, 10, 11]))) (.reg []))))))) (.seq (.seq (.reg [(2, 0, true)]) (.cond (.seq (.reg []) .nil) .nil)) (.seq (.reg []) (.seq (.reg []) (.seq (.seq (.reg [(1, 0, true), (4, 0, true)]) (.cond (.seq (.reg []) .nil) .nil)) (.seq (.reg []) (.seq (.reg []) (.seq (.reg [(1, 0, true), (4, 0, true), (9, 0, true), (13, 0, true), (19, 0, true)]) .nil))))))))))))
set_option maxRecDepth 100000 in
theorem nf5 (cost : Option Addr) (cost_n : Nat) (cost_c : Nat) (column : Option Addr) (column_n : Nat) (column_c : Nat) (w : World) (R : Ending → World → Prop) (h :
(Calls Try.prog 8 #[] w (fun (e1 : Ending) => (fun (w2 : World) => (∃ b3 : Bool, ((e1 = (Ending.returned (Value.bool b3))) ∧
(((b3 = true) →
(Calls Try.prog 9 #[(Value.slice cost cost_n cost_c), (Value.int IntKind.i64 30)] w2 (fun (e5 : Ending) => (fun (w6 : World) => (∃ b7 : Bool, ((e5 = (Ending.returned (Value.bool b7))) ∧
(((b7 = true) →
((((!(decide (((column_n : Nat) : Int) = ((cost_n : Nat) : Int)))) = true) →
(R (Ending.returned (Value.bool true)) w6)) ∧
(((!(decide (((column_n : Nat) : Int) = ((cost_n : Nat) : Int)))) = false) →
(Calls Try.prog 11 #[(Value.slice cost cost_n cost_c)] w6 (fun (e11 : Ending) => (fun (w12 : World) => (∃ x13 : Int, ((e11 = (Ending.returned (Value.int IntKind.i64 x13))) ∧
((((!(decide (x13 = 0))) = true) →
(R (Ending.returned (Value.bool true)) w12)) ∧
(((!(decide (x13 = 0))) = false) →
(∃ k16 : (Nat → (Option Addr → (Nat → (Nat → (Int → (World → Prop)))))), ((∃ n17 : Nat, (k16 n17 none 0 0 0 w12)) ∧
(∀ n18 : Nat, ((Nat → Value) →
(∀ w20 : World, (∀ o21 : Option Addr, (∀ n22 : Nat, (∀ n23 : Nat, (∀ x24 : Int, ((k16 n18 o21 n22 n23 x24 w20) →
((((decide (x24 < ((cost_n : Nat) : Int))) = true) →
(∃ a27 : Addr, ((cost = (some a27)) ∧
((((0 : Int) ≤ x24) ∧
(x24 < ((cost_n : Nat) : Int))) ∧
(∃ o28 : Option Addr, (∃ n29 : Nat, (∃ n30 : Nat, (((w20.cell? (Addr.add a27 ((x24).toNat * 1))) = (some (Value.slice o28 n29 n30))) ∧
(∀ w31 : World, ((w31 = w20.drew) →
(∃ a33 : Addr, ((column = (some a33)) ∧
((((0 : Int) ≤ x24) ∧
(x24 < ((column_n : Nat) : Int))) ∧
(∃ x34 : Int, (((w31.cell? (Addr.add a33 ((x24).toNat * 1))) = (some (Value.int IntKind.i64 x34))) ∧
 False))))))))))))))) ∧
(((decide (x24 < ((cost_n : Nat) : Int))) = false) →
(Calls Try.prog 11 #[(Value.slice o21 n22 n23)] w20 (fun (e36 : Ending) => (fun (w37 : World) => (∃ x38 : Int, ((e36 = (Ending.returned (Value.int IntKind.i64 x38))) ∧
((((!(decide (x38 = 0))) = true) →
(R (Ending.returned (Value.bool true)) w37)) ∧
(((!(decide (x38 = 0))) = false) →
(Calls Try.prog 10 #[(Value.slice cost cost_n cost_c)] w37 (fun (e41 : Ending) => (fun (w42 : World) => (∃ o43 : Option Addr, (∃ n44 : Nat, (∃ n45 : Nat, (∃ x46 : Int, (∃ x47 : Int, ((e41 = (Ending.returned (Value.tuple #[(Value.slice o43 n44 n45), (Value.int IntKind.i64 x46), (Value.int IntKind.i64 x47)]))) ∧
(Calls Try.prog 10 #[(Value.slice o21 n22 n23)] w42 (fun (e48 : Ending) => (fun (w49 : World) => (∃ o50 : Option Addr, (∃ n51 : Nat, (∃ n52 : Nat, (∃ x53 : Int, (∃ x54 : Int, ((e48 = (Ending.returned (Value.tuple #[(Value.slice o50 n51 n52), (Value.int IntKind.i64 x53), (Value.int IntKind.i64 x54)]))) ∧
((((!(decide (x47 = 0))) = true) →
(R (Ending.returned (Value.bool false)) w49)) ∧
(((!(decide (x47 = 0))) = false) →
((((!(decide (x54 = 0))) = true) →
(R (Ending.returned (Value.bool false)) w49)) ∧
(((!(decide (x54 = 0))) = false) →
(Calls Try.prog 12 #[(Value.slice cost cost_n cost_c), (Value.slice o43 n44 n45)] w49 (fun (e59 : Ending) => (fun (w60 : World) => (∃ x61 : Int, (∃ x62 : Int, (∃ x63 : Int, ((e59 = (Ending.returned (Value.tuple #[(Value.int IntKind.i64 x61), (Value.int IntKind.i64 x62), (Value.int IntKind.i64 x63)]))) ∧
(Calls Try.prog 12 #[(Value.slice o21 n22 n23), (Value.slice o50 n51 n52)] w60 (fun (e64 : Ending) => (fun (w65 : World) => (∃ x66 : Int, (∃ x67 : Int, (∃ x68 : Int, ((e64 = (Ending.returned (Value.tuple #[(Value.int IntKind.i64 x66), (Value.int IntKind.i64 x67), (Value.int IntKind.i64 x68)]))) ∧
((((decide (x63 = 0)) = true) →
((((decide (x68 = 0)) = true) →
((((decide (x66 = x61)) = true) →
((((decide (x53 ≤ x46)) = true) →
(R (Ending.returned (Value.bool true)) w65)) ∧
(((decide (x53 ≤ x46)) = false) →
((((decide (x66 = (IntKind.wrap IntKind.i64 (x61 + 1)))) = true) →
(R (Ending.returned (Value.bool true)) w65)) ∧
(((decide (x66 = (IntKind.wrap IntKind.i64 (x61 + 1)))) = false) →
(R (Ending.returned (Value.bool false)) w65)))))) ∧
(((decide (x66 = x61)) = false) →
((((decide (x66 = (IntKind.wrap IntKind.i64 (x61 + 1)))) = true) →
(R (Ending.returned (Value.bool true)) w65)) ∧
(((decide (x66 = (IntKind.wrap IntKind.i64 (x61 + 1)))) = false) →
(R (Ending.returned (Value.bool false)) w65)))))) ∧
(((decide (x68 = 0)) = false) →
(R (Ending.returned (Value.bool false)) w65)))) ∧
(((decide (x63 = 0)) = false) →
(R (Ending.returned (Value.bool false)) w65)))))))))))))))))))))))))))))))))))))))))))))))))))))))))))))))))))) ∧
((b7 = false) →
(R (Ending.returned (Value.bool true)) w6))))))))) ∧
((b3 = false) →
(R (Ending.returned (Value.bool false)) w2))))))))) :
    Calls Try.prog 5 #[(.slice cost cost_n cost_c), (.slice column column_n column_c)] w R :=
  calls_of_vc an5 Try.func5 rfl (by kernel_rfl) (by kernel_rfl) (Eq.mp (by kernel_rfl) h)

/-- samaritan/samaritanlaw36.AssignmentTable -/
def an6 : An := (.seq (.reg []) (.seq (.seq (.reg [(0, 0, true)]) (.cond (.seq (.reg []) .nil) .nil)) (.seq (.seq (.reg [(2, 0, true)]) (.cond (.seq (.reg []) .nil) .nil)) (.seq (.regD [] [0, 1, 2, 3, 4, 5, 6, 7, 8, 9] []) (.seq (.reg []) (.seq (.seq (.reg [(1, 0, true)]) (.cond (.seq (.reg []) .nil) .nil)) (.seq (.reg [(1, 1, false)]) (.seq (.seq (.reg []) (.blk (.loop [(44, .int .i64)] (.seq (.reg [(0, 0, true)]) (.seq (.cond .nil .nil) (.seq (.blk (.seq (.reg []) (.seq (.reg []) (.blk (.loop [(48, .int .i64)] (.seq (.reg [(0, 0, true)]) (.seq (.cond .nil .nil) (.seq (.blk (.reg [(7, 1, false)])) (.reg []))))))))) (.reg []))))))) (.seq (.seq (.reg []) (.blk (.loop [(63, .int .i64)] (.seq (.reg [(0, 0, true)]) (.seq (.cond .nil .nil) (.seq (.blk (.seq (.reg []) (.cut [(13, .bool)] (.reg [(2, 0, true), (7, 0, true), (12, 0, true), (18, 0, true), (23, 0, true), (27, 0, true), (32, 0, true)]) (.seq (.seq (.reg [(8, 0, true), (9, 0, true), (10, 0, true)]) (.cond (.seq (.reg []) .nil) .nil)) (.cut [] (.seq (.reg [(0, 0, true)]) (.cond (.regD [] [0, 1, 2, 3, 4, 5, 6, 7, 8, 9, 10] [10]) .nil)) (.seq (.reg []) (.seq (.reg []) (.seq (.reg [(2, 0, true), (6, 0, true)]) (.cond (.seq (.reg []) .nil) .nil))))))))) (.reg []))))))) (.seq (.reg []) .nil))))))))))
set_option maxRecDepth 100000 in
theorem nf6 (size_0 : Int) (size_1 : Int) (l : Option Addr) (l_n : Nat) (l_c : Nat) (w : World) (R : Ending → World → Prop) (h :
(∀ w1 : World, ((w1 = (w.alloc (Obj.cells #[(Value.int IntKind.u8 size_0), (Value.int IntKind.u8 size_1)] 36 (0, 0)))) →
(Calls Try.prog 8 #[] w1 (fun (e3 : Ending) => (fun (w4 : World) => (∃ b5 : Bool, ((e3 = (Ending.returned (Value.bool b5))) ∧
(((b5 = true) →
((((decide (((l_n : Nat) : Int) > 25)) = true) →
(R (Ending.returned (Value.bool true)) w4)) ∧
(((decide (((l_n : Nat) : Int) > 25)) = false) →
(∀ w9 : World, ((w9 = w4.drew) →
((((0 : Int) ≤ 0) ∧
((0 : Int) < 2)) ∧
(∃ x11 : Int, (((w9.cell? (⟨(hs w), 0, none⟩ : Addr)) = (some (Value.int IntKind.u8 x11))) ∧
((((0 : Int) ≤ 1) ∧
((1 : Int) < 2)) ∧
(∃ x12 : Int, (((w9.cell? (⟨(hs w), 1, none⟩ : Addr)) = (some (Value.int IntKind.u8 x12))) ∧
(Calls Try.prog 13 #[(Value.int IntKind.i64 (Int.tmod (IntKind.wrap IntKind.i64 x11) 6)), (Value.int IntKind.i64 (Int.tmod (IntKind.wrap IntKind.i64 x12) 6))] w9 (fun (e13 : Ending) => (fun (w14 : World) => (∃ o15 : Option Addr, (∃ x16 : Int, ((e13 = (Ending.returned (Value.tuple #[(Value.pointer o15), (Value.int IntKind.i64 x16)]))) ∧
((((!(decide (x16 = 0))) = true) →
(R (Ending.returned (Value.bool false)) w14)) ∧
(((!(decide (x16 = 0))) = false) →
(RunOk Try.prog (Nf.Hold (Instr.makeSlice 22 (Value.int IntKind.i64 (Int.tmod (IntKind.wrap IntKind.i64 x11) 6)) (Value.int IntKind.i64 (Int.tmod (IntKind.wrap IntKind.i64 x11) 6)))) w14 (fun (v19 : Value) => (fun (w20 : World) => (∃ o21 : Option Addr, (∃ n22 : Nat, (∃ n23 : Nat, ((v19 = (Value.slice o21 n22 n23)) ∧
(∃ k24 : (Nat → (Int → (World → Prop))), ((∃ n25 : Nat, (k24 n25 0 w20)) ∧
(∀ n26 : Nat, ((Nat → Value) →
(∀ w28 : World, (∀ x29 : Int, ((k24 n26 x29 w28) →
((((decide (x29 < ((n22 : Nat) : Int))) = true) →
(∃ k32 : (Nat → (Int → (World → Prop))), ((∃ n33 : Nat, (k32 n33 0 w28)) ∧
(∀ n34 : Nat, ((Nat → Value) →
(∀ w36 : World, (∀ x37 : Int, ((k32 n34 x37 w36) →
((((decide (x37 < (Int.tmod (IntKind.wrap IntKind.i64 x12) 6))) = true) →
(∃ a40 : Addr, ((o21 = (some a40)) ∧
((((0 : Int) ≤ x29) ∧
(x29 < ((n22 : Nat) : Int))) ∧
(∃ o41 : Option Addr, (∃ n42 : Nat, (∃ n43 : Nat, (((w36.cell? (Addr.add a40 ((x29).toNat * 1))) = (some (Value.slice o41 n42 n43))) ∧
(∀ w44 : World, ((w44 = (w36.alloc (Obj.cells #[(Value.int IntKind.i64 4611686018427387904)] 2 (0, 0)))) →
(RunOk Try.prog (Nf.Hold (Builtin.append_ #[32, 32] 32 #[(Value.slice o41 n42 n43), (Value.slice (some (⟨(hs w36), 0, none⟩ : Addr)) 1 1)])) w44 (fun (v46 : Value) => (fun (w47 : World) => (∃ o48 : Option Addr, (∃ n49 : Nat, (∃ n50 : Nat, ((v46 = (Value.slice o48 n49 n50)) ∧
(∃ a51 : Addr, ((o21 = (some a51)) ∧
((((0 : Int) ≤ x29) ∧
(x29 < ((n22 : Nat) : Int))) ∧
((Nf.There w47 (Addr.add a51 ((x29).toNat * 1)) 1) ∧
(∀ w52 : World, ((w52 = (Nf.setCells w47 (Addr.add a51 ((x29).toNat * 1)) [(Value.slice o48 n49 n50)] 0)) →
(∃ n54 : Nat, ((n54 < n34) ∧
(k32 n54 (IntKind.wrap IntKind.i64 (x37 + 1)) w52)))))))))))))))))))))))))) ∧
(((decide (x37 < (Int.tmod (IntKind.wrap IntKind.i64 x12) 6))) = false) →
(∃ n56 : Nat, ((n56 < n26) ∧
(k24 n56 (IntKind.wrap IntKind.i64 (x29 + 1)) w36))))))))))))) ∧
(((decide (x29 < ((n22 : Nat) : Int))) = false) →
(∃ k58 : (Nat → (Int → (World → Prop))), ((∃ n59 : Nat, (k58 n59 0 w28)) ∧
(∀ n60 : Nat, ((Nat → Value) →
(∀ w62 : World, (∀ x63 : Int, ((k58 n60 x63 w62) →
((((decide (x63 < ((l_n : Nat) : Int))) = true) →
(∃ a66 : Addr, ((l = (some a66)) ∧
((((0 : Int) ≤ x63) ∧
(x63 < ((l_n : Nat) : Int))) ∧
(∃ x67 : Int, (((w62.cell? (Addr.add a66 ((x63).toNat * 3))) = (some (Value.int IntKind.i64 x67))) ∧
(∃ x68 : Int, (((w62.cell? (Addr.add (Addr.add a66 ((x63).toNat * 3)) 1)) = (some (Value.int IntKind.i64 x68))) ∧
(∃ x69 : Int, (((w62.cell? (Addr.add (Addr.add a66 ((x63).toNat * 3)) 2)) = (some (Value.int IntKind.i64 x69))) ∧
(∀ w70 : World, ((w70 = (w62.alloc (Obj.cells #[(Value.int IntKind.i64 0), (Value.int IntKind.i64 0), (Value.int IntKind.i64 0)] 42 (0, 0)))) →
((Nf.There w70 (⟨(hs w62), 0, none⟩ : Addr) 3) ∧
(∀ w72 : World, ((w72 = (Nf.setCells w70 (⟨(hs w62), 0, none⟩ : Addr) [(Value.int IntKind.i64 x67), (Value.int IntKind.i64 x68), (Value.int IntKind.i64 x69)] 0)) →
(∀ k74 : (Bool → (World → Prop)), ((∀ w76 : World, (∀ b77 : Bool, (((Nat → Value) →
(∃ x80 : Int, (((w76.cell? (⟨(hs w62), 0, none⟩ : Addr)) = (some (Value.int IntKind.i64 x80))) ∧
(∃ x81 : Int, (((w76.cell? (⟨(hs w62), 1, none⟩ : Addr)) = (some (Value.int IntKind.i64 x81))) ∧
(∃ x82 : Int, (((w76.cell? (⟨(hs w62), 2, none⟩ : Addr)) = (some (Value.int IntKind.i64 x82))) ∧
(Calls Try.prog 14 #[(Value.pointer o15), (Value.int IntKind.i64 x80), (Value.int IntKind.i64 x81), (Value.int IntKind.i64 x82)] w76 (fun (e83 : Ending) => (fun (w84 : World) => (∃ x85 : Int, ((e83 = (Ending.returned (Value.int IntKind.i64 x85))) ∧
((((decide (x85 = 1)) = true) →
(((b77 = true) →
(((false = true) →
(R (Ending.returned (Value.bool false)) w84)) ∧
((false = false) →
(∀ k90 : (World → Prop), ((∀ w92 : World, (((Nat → Value) →
(Calls Try.prog 15 #[(Value.pointer o15)] w92 (fun (e95 : Ending) => (fun (w96 : World) => (∃ o97 : Option Addr, (∃ n98 : Nat, (∃ n99 : Nat, (∃ x100 : Int, ((e95 = (Ending.returned (Value.tuple #[(Value.slice o97 n98 n99), (Value.int IntKind.i64 x100)]))) ∧
(Calls Try.prog 16 #[(Value.slice o21 n22 n23)] w96 (fun (e101 : Ending) => (fun (w102 : World) => (∃ o103 : Option Addr, (∃ n104 : Nat, (∃ n105 : Nat, (∃ x106 : Int, (∃ x107 : Int, ((e101 = (Ending.returned (Value.tuple #[(Value.slice o103 n104 n105), (Value.int IntKind.i64 x106), (Value.int IntKind.i64 x107)]))) ∧
((((!(decide (x100 = x106))) = true) →
(R (Ending.returned (Value.bool false)) w102)) ∧
(((!(decide (x100 = x106))) = false) →
(Calls Try.prog 17 #[(Value.slice o97 n98 n99), (Value.slice o103 n104 n105)] w102 (fun (e110 : Ending) => (fun (w111 : World) => (∃ b112 : Bool, ((e110 = (Ending.returned (Value.bool b112))) ∧
(((b112 = true) →
(∃ n114 : Nat, ((n114 < n60) ∧
(k58 n114 (IntKind.wrap IntKind.i64 (x63 + 1)) w111)))) ∧
((b112 = false) →
(R (Ending.returned (Value.bool false)) w111)))))))))))))))))))))))))))) →
(k90 w92))) →
(((b77 = true) →
(k90 w84)) ∧
((b77 = false) →
(∀ w118 : World, ((w118 = w84.drew) →
(∃ x120 : Int, (((w118.cell? (⟨(hs w62), 0, none⟩ : Addr)) = (some (Value.int IntKind.i64 x120))) ∧
(∃ a121 : Addr, ((o21 = (some a121)) ∧
((((0 : Int) ≤ x120) ∧
(x120 < ((n22 : Nat) : Int))) ∧
(∃ o122 : Option Addr, (∃ n123 : Nat, (∃ n124 : Nat, (((w118.cell? (Addr.add a121 ((x120).toNat * 1))) = (some (Value.slice o122 n123 n124))) ∧
(∃ x125 : Int, (((w118.cell? (⟨(hs w62), 1, none⟩ : Addr)) = (some (Value.int IntKind.i64 x125))) ∧
(∃ x126 : Int, (((w118.cell? (⟨(hs w62), 2, none⟩ : Addr)) = (some (Value.int IntKind.i64 x126))) ∧
(∃ a127 : Addr, ((o122 = (some a127)) ∧
((((0 : Int) ≤ x125) ∧
(x125 < ((n123 : Nat) : Int))) ∧
((Nf.There w118 (Addr.add a127 ((x125).toNat * 1)) 1) ∧
(∀ w128 : World, ((w128 = (Nf.setCells w118 (Addr.add a127 ((x125).toNat * 1)) [(Value.int IntKind.i64 x126)] 0)) →
(k90 w128))))))))))))))))))))))))))))) ∧
((b77 = false) →
(((true = true) →
(R (Ending.returned (Value.bool false)) w84)) ∧
((true = false) →
(∀ k133 : (World → Prop), ((∀ w135 : World, (((Nat → Value) →
(Calls Try.prog 15 #[(Value.pointer o15)] w135 (fun (e138 : Ending) => (fun (w139 : World) => (∃ o140 : Option Addr, (∃ n141 : Nat, (∃ n142 : Nat, (∃ x143 : Int, ((e138 = (Ending.returned (Value.tuple #[(Value.slice o140 n141 n142), (Value.int IntKind.i64 x143)]))) ∧
(Calls Try.prog 16 #[(Value.slice o21 n22 n23)] w139 (fun (e144 : Ending) => (fun (w145 : World) => (∃ o146 : Option Addr, (∃ n147 : Nat, (∃ n148 : Nat, (∃ x149 : Int, (∃ x150 : Int, ((e144 = (Ending.returned (Value.tuple #[(Value.slice o146 n147 n148), (Value.int IntKind.i64 x149), (Value.int IntKind.i64 x150)]))) ∧
((((!(decide (x143 = x149))) = true) →
(R (Ending.returned (Value.bool false)) w145)) ∧
(((!(decide (x143 = x149))) = false) →
(Calls Try.prog 17 #[(Value.slice o140 n141 n142), (Value.slice o146 n147 n148)] w145 (fun (e153 : Ending) => (fun (w154 : World) => (∃ b155 : Bool, ((e153 = (Ending.returned (Value.bool b155))) ∧
(((b155 = true) →
(∃ n157 : Nat, ((n157 < n60) ∧
(k58 n157 (IntKind.wrap IntKind.i64 (x63 + 1)) w154)))) ∧
((b155 = false) →
(R (Ending.returned (Value.bool false)) w154)))))))))))))))))))))))))))) →
(k133 w135))) →
(((b77 = true) →
(k133 w84)) ∧
((b77 = false) →
(∀ w161 : World, ((w161 = w84.drew) →
(∃ x163 : Int, (((w161.cell? (⟨(hs w62), 0, none⟩ : Addr)) = (some (Value.int IntKind.i64 x163))) ∧
(∃ a164 : Addr, ((o21 = (some a164)) ∧
((((0 : Int) ≤ x163) ∧
(x163 < ((n22 : Nat) : Int))) ∧
(∃ o165 : Option Addr, (∃ n166 : Nat, (∃ n167 : Nat, (((w161.cell? (Addr.add a164 ((x163).toNat * 1))) = (some (Value.slice o165 n166 n167))) ∧
(∃ x168 : Int, (((w161.cell? (⟨(hs w62), 1, none⟩ : Addr)) = (some (Value.int IntKind.i64 x168))) ∧
(∃ x169 : Int, (((w161.cell? (⟨(hs w62), 2, none⟩ : Addr)) = (some (Value.int IntKind.i64 x169))) ∧
(∃ a170 : Addr, ((o165 = (some a170)) ∧
((((0 : Int) ≤ x168) ∧
(x168 < ((n166 : Nat) : Int))) ∧
((Nf.There w161 (Addr.add a170 ((x168).toNat * 1)) 1) ∧
(∀ w171 : World, ((w171 = (Nf.setCells w161 (Addr.add a170 ((x168).toNat * 1)) [(Value.int IntKind.i64 x169)] 0)) →
(k133 w171))))))))))))))))))))))))))))))) ∧
(((decide (x85 = 1)) = false) →
(((b77 = true) →
(((true = true) →
(R (Ending.returned (Value.bool false)) w84)) ∧
((true = false) →
(∀ k177 : (World → Prop), ((∀ w179 : World, (((Nat → Value) →
(Calls Try.prog 15 #[(Value.pointer o15)] w179 (fun (e182 : Ending) => (fun (w183 : World) => (∃ o184 : Option Addr, (∃ n185 : Nat, (∃ n186 : Nat, (∃ x187 : Int, ((e182 = (Ending.returned (Value.tuple #[(Value.slice o184 n185 n186), (Value.int IntKind.i64 x187)]))) ∧
(Calls Try.prog 16 #[(Value.slice o21 n22 n23)] w183 (fun (e188 : Ending) => (fun (w189 : World) => (∃ o190 : Option Addr, (∃ n191 : Nat, (∃ n192 : Nat, (∃ x193 : Int, (∃ x194 : Int, ((e188 = (Ending.returned (Value.tuple #[(Value.slice o190 n191 n192), (Value.int IntKind.i64 x193), (Value.int IntKind.i64 x194)]))) ∧
((((!(decide (x187 = x193))) = true) →
(R (Ending.returned (Value.bool false)) w189)) ∧
(((!(decide (x187 = x193))) = false) →
(Calls Try.prog 17 #[(Value.slice o184 n185 n186), (Value.slice o190 n191 n192)] w189 (fun (e197 : Ending) => (fun (w198 : World) => (∃ b199 : Bool, ((e197 = (Ending.returned (Value.bool b199))) ∧
(((b199 = true) →
(∃ n201 : Nat, ((n201 < n60) ∧
(k58 n201 (IntKind.wrap IntKind.i64 (x63 + 1)) w198)))) ∧
((b199 = false) →
(R (Ending.returned (Value.bool false)) w198)))))))))))))))))))))))))))) →
(k177 w179))) →
(((b77 = true) →
(k177 w84)) ∧
((b77 = false) →
(∀ w205 : World, ((w205 = w84.drew) →
(∃ x207 : Int, (((w205.cell? (⟨(hs w62), 0, none⟩ : Addr)) = (some (Value.int IntKind.i64 x207))) ∧
(∃ a208 : Addr, ((o21 = (some a208)) ∧
((((0 : Int) ≤ x207) ∧
(x207 < ((n22 : Nat) : Int))) ∧
(∃ o209 : Option Addr, (∃ n210 : Nat, (∃ n211 : Nat, (((w205.cell? (Addr.add a208 ((x207).toNat * 1))) = (some (Value.slice o209 n210 n211))) ∧
(∃ x212 : Int, (((w205.cell? (⟨(hs w62), 1, none⟩ : Addr)) = (some (Value.int IntKind.i64 x212))) ∧
(∃ x213 : Int, (((w205.cell? (⟨(hs w62), 2, none⟩ : Addr)) = (some (Value.int IntKind.i64 x213))) ∧
(∃ a214 : Addr, ((o209 = (some a214)) ∧
((((0 : Int) ≤ x212) ∧
(x212 < ((n210 : Nat) : Int))) ∧
((Nf.There w205 (Addr.add a214 ((x212).toNat * 1)) 1) ∧
(∀ w215 : World, ((w215 = (Nf.setCells w205 (Addr.add a214 ((x212).toNat * 1)) [(Value.int IntKind.i64 x213)] 0)) →
(k177 w215))))))))))))))))))))))))))))) ∧
((b77 = false) →
(((false = true) →
(R (Ending.returned (Value.bool false)) w84)) ∧
((false = false) →
(∀ k220 : (World → Prop), ((∀ w222 : World, (((Nat → Value) →
(Calls Try.prog 15 #[(Value.pointer o15)] w222 (fun (e225 : Ending) => (fun (w226 : World) => (∃ o227 : Option Addr, (∃ n228 : Nat, (∃ n229 : Nat, (∃ x230 : Int, ((e225 = (Ending.returned (Value.tuple #[(Value.slice o227 n228 n229), (Value.int IntKind.i64 x230)]))) ∧
(Calls Try.prog 16 #[(Value.slice o21 n22 n23)] w226 (fun (e231 : Ending) => (fun (w232 : World) => (∃ o233 : Option Addr, (∃ n234 : Nat, (∃ n235 : Nat, (∃ x236 : Int, (∃ x237 : Int, ((e231 = (Ending.returned (Value.tuple #[(Value.slice o233 n234 n235), (Value.int IntKind.i64 x236), (Value.int IntKind.i64 x237)]))) ∧
((((!(decide (x230 = x236))) = true) →
(R (Ending.returned (Value.bool false)) w232)) ∧
(((!(decide (x230 = x236))) = false) →
(Calls Try.prog 17 #[(Value.slice o227 n228 n229), (Value.slice o233 n234 n235)] w232 (fun (e240 : Ending) => (fun (w241 : World) => (∃ b242 : Bool, ((e240 = (Ending.returned (Value.bool b242))) ∧
(((b242 = true) →
(∃ n244 : Nat, ((n244 < n60) ∧
(k58 n244 (IntKind.wrap IntKind.i64 (x63 + 1)) w241)))) ∧
((b242 = false) →
(R (Ending.returned (Value.bool false)) w241)))))))))))))))))))))))))))) →
(k220 w222))) →
(((b77 = true) →
(k220 w84)) ∧
((b77 = false) →
(∀ w248 : World, ((w248 = w84.drew) →
(∃ x250 : Int, (((w248.cell? (⟨(hs w62), 0, none⟩ : Addr)) = (some (Value.int IntKind.i64 x250))) ∧
(∃ a251 : Addr, ((o21 = (some a251)) ∧
((((0 : Int) ≤ x250) ∧
(x250 < ((n22 : Nat) : Int))) ∧
(∃ o252 : Option Addr, (∃ n253 : Nat, (∃ n254 : Nat, (((w248.cell? (Addr.add a251 ((x250).toNat * 1))) = (some (Value.slice o252 n253 n254))) ∧
(∃ x255 : Int, (((w248.cell? (⟨(hs w62), 1, none⟩ : Addr)) = (some (Value.int IntKind.i64 x255))) ∧
(∃ x256 : Int, (((w248.cell? (⟨(hs w62), 2, none⟩ : Addr)) = (some (Value.int IntKind.i64 x256))) ∧
(∃ a257 : Addr, ((o252 = (some a257)) ∧
((((0 : Int) ≤ x255) ∧
(x255 < ((n253 : Nat) : Int))) ∧
((Nf.There w248 (Addr.add a257 ((x255).toNat * 1)) 1) ∧
(∀ w258 : World, ((w258 = (Nf.setCells w248 (Addr.add a257 ((x255).toNat * 1)) [(Value.int IntKind.i64 x256)] 0)) →
(k220 w258)))))))))))))))))))))))))))))))))))))))))))) →
(k74 b77 w76)))) →
(∃ x260 : Int, (((w72.cell? (⟨(hs w62), 0, none⟩ : Addr)) = (some (Value.int IntKind.i64 x260))) ∧
((((decide (x260 < 0)) = true) →
(k74 true w72)) ∧
(((decide (x260 < 0)) = false) →
(∃ x263 : Int, (((w72.cell? (⟨(hs w62), 0, none⟩ : Addr)) = (some (Value.int IntKind.i64 x263))) ∧
((((decide (x263 ≥ (Int.tmod (IntKind.wrap IntKind.i64 x11) 6))) = true) →
(k74 true w72)) ∧
(((decide (x263 ≥ (Int.tmod (IntKind.wrap IntKind.i64 x11) 6))) = false) →
(∃ x266 : Int, (((w72.cell? (⟨(hs w62), 1, none⟩ : Addr)) = (some (Value.int IntKind.i64 x266))) ∧
((((decide (x266 < 0)) = true) →
(k74 true w72)) ∧
(((decide (x266 < 0)) = false) →
(∃ x269 : Int, (((w72.cell? (⟨(hs w62), 1, none⟩ : Addr)) = (some (Value.int IntKind.i64 x269))) ∧
((((decide (x269 ≥ (Int.tmod (IntKind.wrap IntKind.i64 x12) 6))) = true) →
(k74 true w72)) ∧
(((decide (x269 ≥ (Int.tmod (IntKind.wrap IntKind.i64 x12) 6))) = false) →
(∃ x272 : Int, (((w72.cell? (⟨(hs w62), 2, none⟩ : Addr)) = (some (Value.int IntKind.i64 x272))) ∧
((((decide (x272 < 0)) = true) →
(∃ x274 : Int, (((w72.cell? (⟨(hs w62), 2, none⟩ : Addr)) = (some (Value.int IntKind.i64 x274))) ∧
((((!(decide (x274 = 4611686018427387904))) = true) →
(k74 true w72)) ∧
(((!(decide (x274 = 4611686018427387904))) = false) →
(k74 false w72)))))) ∧
(((decide (x272 < 0)) = false) →
(∃ x278 : Int, (((w72.cell? (⟨(hs w62), 2, none⟩ : Addr)) = (some (Value.int IntKind.i64 x278))) ∧
((((decide (x278 > 1099511627776)) = true) →
(∃ x280 : Int, (((w72.cell? (⟨(hs w62), 2, none⟩ : Addr)) = (some (Value.int IntKind.i64 x280))) ∧
((((!(decide (x280 = 4611686018427387904))) = true) →
(k74 true w72)) ∧
(((!(decide (x280 = 4611686018427387904))) = false) →
(k74 false w72)))))) ∧
(((decide (x278 > 1099511627776)) = false) →
(k74 false w72)))))))))))))))))))))))))))))))))))))))))) ∧
(((decide (x63 < ((l_n : Nat) : Int))) = false) →
(R (Ending.returned (Value.bool true)) w62))))))))))))))))))))))))))))))))))))))))))))) ∧
((b5 = false) →
(R (Ending.returned (Value.bool false)) w4))))))))))) :
    Calls Try.prog 6 #[(.agg #[(.int .u8 size_0), (.int .u8 size_1)]), (.slice l l_n l_c)] w R :=
  calls_of_vc an6 Try.func6 rfl (by kernel_rfl) (by kernel_rfl) (Eq.mp (by kernel_rfl) h)

/-- samaritan/samaritanlaw36.AssignmentNewTable -/
def an7 : An := (.seq (.reg []) (.seq (.seq (.reg [(0, 0, true)]) (.cond (.seq (.reg []) .nil) .nil)) (.seq (.reg []) (.seq (.reg []) (.cut [(7, .int .i64)] (.seq (.reg [(1, 0, true), (4, 0, true)]) (.cond (.reg []) (.seq (.reg [(1, 0, true), (4, 0, true)]) (.cond (.reg []) .nil)))) (.seq (.seq (.reg [(2, 0, true), (5, 3, true), (7, 0, true), (8, 0, true)]) (.cond (.seq (.reg []) .nil) .nil)) (.seq (.seq (.reg [(1, 3, true)]) (.cond (.seq (.reg []) .nil) .nil)) (.seq (.reg []) (.seq (.seq (.reg []) (.blk (.loop [(51, .int .i64)] (.seq (.reg [(0, 0, true)]) (.seq (.cond .nil .nil) (.seq (.blk (.seq (.reg []) (.seq (.reg [(1, 0, true)]) (.cond (.seq (.reg []) .nil) .nil)))) (.reg []))))))) (.seq (.reg [(3, 0, true), (6, 0, true), (12, 0, true), (18, 0, true)]) .nil))))))))))
set_option maxRecDepth 100000 in
theorem nf7 (rows : Int) (columns : Int) (w : World) (R : Ending → World → Prop) (h :
(Calls Try.prog 8 #[] w (fun (e1 : Ending) => (fun (w2 : World) => (∃ b3 : Bool, ((e1 = (Ending.returned (Value.bool b3))) ∧
(((b3 = true) →
(Calls Try.prog 13 #[(Value.int IntKind.i64 rows), (Value.int IntKind.i64 columns)] w2 (fun (e5 : Ending) => (fun (w6 : World) => (∃ o7 : Option Addr, (∃ x8 : Int, ((e5 = (Ending.returned (Value.tuple #[(Value.pointer o7), (Value.int IntKind.i64 x8)]))) ∧
(∀ k9 : (Int → (World → Prop)), ((∀ w11 : World, (∀ x12 : Int, (((Nat → Value) →
((((!(decide (x8 = x12))) = true) →
(R (Ending.returned (Value.bool false)) w11)) ∧
(((!(decide (x8 = x12))) = false) →
((((Option.isNone o7) = true) →
((((!(decide (x12 = 0))) = true) →
(((false = true) →
(R (Ending.returned (Value.bool false)) w11)) ∧
((false = false) →
((((Option.isNone o7) = true) →
(R (Ending.returned (Value.bool true)) w11)) ∧
(((Option.isNone o7) = false) →
(Calls Try.prog 15 #[(Value.pointer o7)] w11 (fun (e23 : Ending) => (fun (w24 : World) => (∃ o25 : Option Addr, (∃ n26 : Nat, (∃ n27 : Nat, (∃ x28 : Int, ((e23 = (Ending.returned (Value.tuple #[(Value.slice o25 n26 n27), (Value.int IntKind.i64 x28)]))) ∧
(∃ k29 : (Nat → (Int → (World → Prop))), ((∃ n30 : Nat, (k29 n30 0 w24)) ∧
(∀ n31 : Nat, ((Nat → Value) →
(∀ w33 : World, (∀ x34 : Int, ((k29 n31 x34 w33) →
((((decide (x34 < ((n26 : Nat) : Int))) = true) →
(∃ a37 : Addr, ((o25 = (some a37)) ∧
((((0 : Int) ≤ x34) ∧
(x34 < ((n26 : Nat) : Int))) ∧
(∃ x38 : Int, (((w33.cell? (Addr.add a37 ((x34).toNat * 1))) = (some (Value.int IntKind.i64 x38))) ∧
((((!(decide (x38 = (-1)))) = true) →
(R (Ending.returned (Value.bool false)) w33)) ∧
(((!(decide (x38 = (-1)))) = false) →
(∃ n41 : Nat, ((n41 < n31) ∧
(k29 n41 (IntKind.wrap IntKind.i64 (x34 + 1)) w33))))))))))) ∧
(((decide (x34 < ((n26 : Nat) : Int))) = false) →
((((decide (((n26 : Nat) : Int) = rows)) = true) →
((((decide (x28 = 0)) = true) →
(Calls Try.prog 14 #[(Value.pointer o7), (Value.int IntKind.i64 rows), (Value.int IntKind.i64 0), (Value.int IntKind.i64 1)] w33 (fun (e45 : Ending) => (fun (w46 : World) => (∃ x47 : Int, ((e45 = (Ending.returned (Value.int IntKind.i64 x47))) ∧
((((decide (x47 = 1)) = true) →
(Calls Try.prog 14 #[(Value.pointer o7), (Value.int IntKind.i64 0), (Value.int IntKind.i64 columns), (Value.int IntKind.i64 1)] w46 (fun (e49 : Ending) => (fun (w50 : World) => (∃ x51 : Int, ((e49 = (Ending.returned (Value.int IntKind.i64 x51))) ∧
((((decide (x51 = 1)) = true) →
(R (Ending.returned (Value.bool true)) w50)) ∧
(((decide (x51 = 1)) = false) →
(R (Ending.returned (Value.bool false)) w50))))))))) ∧
(((decide (x47 = 1)) = false) →
(R (Ending.returned (Value.bool false)) w46))))))))) ∧
(((decide (x28 = 0)) = false) →
(R (Ending.returned (Value.bool false)) w33)))) ∧
(((decide (((n26 : Nat) : Int) = rows)) = false) →
(R (Ending.returned (Value.bool false)) w33))))))))))))))))))))))))) ∧
(((!(decide (x12 = 0))) = false) →
(((true = true) →
(R (Ending.returned (Value.bool false)) w11)) ∧
((true = false) →
((((Option.isNone o7) = true) →
(R (Ending.returned (Value.bool true)) w11)) ∧
(((Option.isNone o7) = false) →
(Calls Try.prog 15 #[(Value.pointer o7)] w11 (fun (e62 : Ending) => (fun (w63 : World) => (∃ o64 : Option Addr, (∃ n65 : Nat, (∃ n66 : Nat, (∃ x67 : Int, ((e62 = (Ending.returned (Value.tuple #[(Value.slice o64 n65 n66), (Value.int IntKind.i64 x67)]))) ∧
(∃ k68 : (Nat → (Int → (World → Prop))), ((∃ n69 : Nat, (k68 n69 0 w63)) ∧
(∀ n70 : Nat, ((Nat → Value) →
(∀ w72 : World, (∀ x73 : Int, ((k68 n70 x73 w72) →
((((decide (x73 < ((n65 : Nat) : Int))) = true) →
(∃ a76 : Addr, ((o64 = (some a76)) ∧
((((0 : Int) ≤ x73) ∧
(x73 < ((n65 : Nat) : Int))) ∧
(∃ x77 : Int, (((w72.cell? (Addr.add a76 ((x73).toNat * 1))) = (some (Value.int IntKind.i64 x77))) ∧
((((!(decide (x77 = (-1)))) = true) →
(R (Ending.returned (Value.bool false)) w72)) ∧
(((!(decide (x77 = (-1)))) = false) →
(∃ n80 : Nat, ((n80 < n70) ∧
(k68 n80 (IntKind.wrap IntKind.i64 (x73 + 1)) w72))))))))))) ∧
(((decide (x73 < ((n65 : Nat) : Int))) = false) →
((((decide (((n65 : Nat) : Int) = rows)) = true) →
((((decide (x67 = 0)) = true) →
(Calls Try.prog 14 #[(Value.pointer o7), (Value.int IntKind.i64 rows), (Value.int IntKind.i64 0), (Value.int IntKind.i64 1)] w72 (fun (e84 : Ending) => (fun (w85 : World) => (∃ x86 : Int, ((e84 = (Ending.returned (Value.int IntKind.i64 x86))) ∧
((((decide (x86 = 1)) = true) →
(Calls Try.prog 14 #[(Value.pointer o7), (Value.int IntKind.i64 0), (Value.int IntKind.i64 columns), (Value.int IntKind.i64 1)] w85 (fun (e88 : Ending) => (fun (w89 : World) => (∃ x90 : Int, ((e88 = (Ending.returned (Value.int IntKind.i64 x90))) ∧
((((decide (x90 = 1)) = true) →
(R (Ending.returned (Value.bool true)) w89)) ∧
(((decide (x90 = 1)) = false) →
(R (Ending.returned (Value.bool false)) w89))))))))) ∧
(((decide (x86 = 1)) = false) →
(R (Ending.returned (Value.bool false)) w85))))))))) ∧
(((decide (x67 = 0)) = false) →
(R (Ending.returned (Value.bool false)) w72)))) ∧
(((decide (((n65 : Nat) : Int) = rows)) = false) →
(R (Ending.returned (Value.bool false)) w72))))))))))))))))))))))))))) ∧
(((Option.isNone o7) = false) →
((((!(decide (x12 = 0))) = true) →
(((true = true) →
(R (Ending.returned (Value.bool false)) w11)) ∧
((true = false) →
((((Option.isNone o7) = true) →
(R (Ending.returned (Value.bool true)) w11)) ∧
(((Option.isNone o7) = false) →
(Calls Try.prog 15 #[(Value.pointer o7)] w11 (fun (e102 : Ending) => (fun (w103 : World) => (∃ o104 : Option Addr, (∃ n105 : Nat, (∃ n106 : Nat, (∃ x107 : Int, ((e102 = (Ending.returned (Value.tuple #[(Value.slice o104 n105 n106), (Value.int IntKind.i64 x107)]))) ∧
(∃ k108 : (Nat → (Int → (World → Prop))), ((∃ n109 : Nat, (k108 n109 0 w103)) ∧
(∀ n110 : Nat, ((Nat → Value) →
(∀ w112 : World, (∀ x113 : Int, ((k108 n110 x113 w112) →
((((decide (x113 < ((n105 : Nat) : Int))) = true) →
(∃ a116 : Addr, ((o104 = (some a116)) ∧
((((0 : Int) ≤ x113) ∧
(x113 < ((n105 : Nat) : Int))) ∧
(∃ x117 : Int, (((w112.cell? (Addr.add a116 ((x113).toNat * 1))) = (some (Value.int IntKind.i64 x117))) ∧
((((!(decide (x117 = (-1)))) = true) →
(R (Ending.returned (Value.bool false)) w112)) ∧
(((!(decide (x117 = (-1)))) = false) →
(∃ n120 : Nat, ((n120 < n110) ∧
(k108 n120 (IntKind.wrap IntKind.i64 (x113 + 1)) w112))))))))))) ∧
(((decide (x113 < ((n105 : Nat) : Int))) = false) →
((((decide (((n105 : Nat) : Int) = rows)) = true) →
((((decide (x107 = 0)) = true) →
(Calls Try.prog 14 #[(Value.pointer o7), (Value.int IntKind.i64 rows), (Value.int IntKind.i64 0), (Value.int IntKind.i64 1)] w112 (fun (e124 : Ending) => (fun (w125 : World) => (∃ x126 : Int, ((e124 = (Ending.returned (Value.int IntKind.i64 x126))) ∧
((((decide (x126 = 1)) = true) →
(Calls Try.prog 14 #[(Value.pointer o7), (Value.int IntKind.i64 0), (Value.int IntKind.i64 columns), (Value.int IntKind.i64 1)] w125 (fun (e128 : Ending) => (fun (w129 : World) => (∃ x130 : Int, ((e128 = (Ending.returned (Value.int IntKind.i64 x130))) ∧
((((decide (x130 = 1)) = true) →
(R (Ending.returned (Value.bool true)) w129)) ∧
(((decide (x130 = 1)) = false) →
(R (Ending.returned (Value.bool false)) w129))))))))) ∧
(((decide (x126 = 1)) = false) →
(R (Ending.returned (Value.bool false)) w125))))))))) ∧
(((decide (x107 = 0)) = false) →
(R (Ending.returned (Value.bool false)) w112)))) ∧
(((decide (((n105 : Nat) : Int) = rows)) = false) →
(R (Ending.returned (Value.bool false)) w112))))))))))))))))))))))))) ∧
(((!(decide (x12 = 0))) = false) →
(((false = true) →
(R (Ending.returned (Value.bool false)) w11)) ∧
((false = false) →
((((Option.isNone o7) = true) →
(R (Ending.returned (Value.bool true)) w11)) ∧
(((Option.isNone o7) = false) →
(Calls Try.prog 15 #[(Value.pointer o7)] w11 (fun (e141 : Ending) => (fun (w142 : World) => (∃ o143 : Option Addr, (∃ n144 : Nat, (∃ n145 : Nat, (∃ x146 : Int, ((e141 = (Ending.returned (Value.tuple #[(Value.slice o143 n144 n145), (Value.int IntKind.i64 x146)]))) ∧
(∃ k147 : (Nat → (Int → (World → Prop))), ((∃ n148 : Nat, (k147 n148 0 w142)) ∧
(∀ n149 : Nat, ((Nat → Value) →
(∀ w151 : World, (∀ x152 : Int, ((k147 n149 x152 w151) →
((((decide (x152 < ((n144 : Nat) : Int))) = true) →
(∃ a155 : Addr, ((o143 = (some a155)) ∧
((((0 : Int) ≤ x152) ∧
(x152 < ((n144 : Nat) : Int))) ∧
(∃ x156 : Int, (((w151.cell? (Addr.add a155 ((x152).toNat * 1))) = (some (Value.int IntKind.i64 x156))) ∧
((((!(decide (x156 = (-1)))) = true) →
(R (Ending.returned (Value.bool false)) w151)) ∧
(((!(decide (x156 = (-1)))) = false) →
(∃ n159 : Nat, ((n159 < n149) ∧
(k147 n159 (IntKind.wrap IntKind.i64 (x152 + 1)) w151))))))))))) ∧
(((decide (x152 < ((n144 : Nat) : Int))) = false) →
((((decide (((n144 : Nat) : Int) = rows)) = true) →
((((decide (x146 = 0)) = true) →
(Calls Try.prog 14 #[(Value.pointer o7), (Value.int IntKind.i64 rows), (Value.int IntKind.i64 0), (Value.int IntKind.i64 1)] w151 (fun (e163 : Ending) => (fun (w164 : World) => (∃ x165 : Int, ((e163 = (Ending.returned (Value.int IntKind.i64 x165))) ∧
((((decide (x165 = 1)) = true) →
(Calls Try.prog 14 #[(Value.pointer o7), (Value.int IntKind.i64 0), (Value.int IntKind.i64 columns), (Value.int IntKind.i64 1)] w164 (fun (e167 : Ending) => (fun (w168 : World) => (∃ x169 : Int, ((e167 = (Ending.returned (Value.int IntKind.i64 x169))) ∧
((((decide (x169 = 1)) = true) →
(R (Ending.returned (Value.bool true)) w168)) ∧
(((decide (x169 = 1)) = false) →
(R (Ending.returned (Value.bool false)) w168))))))))) ∧
(((decide (x165 = 1)) = false) →
(R (Ending.returned (Value.bool false)) w164))))))))) ∧
(((decide (x146 = 0)) = false) →
(R (Ending.returned (Value.bool false)) w151)))) ∧
(((decide (((n144 : Nat) : Int) = rows)) = false) →
(R (Ending.returned (Value.bool false)) w151))))))))))))))))))))))))))))))) →
(k9 x12 w11)))) →
((((decide (rows < 0)) = true) →
(k9 1 w6)) ∧
(((decide (rows < 0)) = false) →
((((decide (columns < 0)) = true) →
(k9 1 w6)) ∧
(((decide (columns < 0)) = false) →
((((decide (rows > 64)) = true) →
(k9 3 w6)) ∧
(((decide (rows > 64)) = false) →
((((decide (columns > 64)) = true) →
(k9 3 w6)) ∧
(((decide (columns > 64)) = false) →
(k9 0 w6)))))))))))))))))) ∧
((b3 = false) →
(R (Ending.returned (Value.bool false)) w2))))))))) :
    Calls Try.prog 7 #[(.int .i64 rows), (.int .i64 columns)] w R :=
  calls_of_vc an7 Try.func7 rfl (by kernel_rfl) (by kernel_rfl) (Eq.mp (by kernel_rfl) h)

end Go.Proofs.Ytalplekmbhemnaa
