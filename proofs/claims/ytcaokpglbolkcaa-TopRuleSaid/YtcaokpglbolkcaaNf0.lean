/- The contracts' premises: for each function of chapter 36, the proposition that its body comes to (printed by the tool of wip/nf). -/
import Derived.Test.YtcaokpglbolkcaaRows
import Derived.Test.YtcaokpglbolkcaaNfD
namespace Go.Proofs.Ytcaokpglbolkcaa
open Go Go.Nf

/-- samaritan/assignment.isCost -/
def an52 : An := (.seq (.reg []) (.seq (.reg [(1, 0, true), (4, 0, true), (8, 0, true)]) .nil))
set_option maxRecDepth 100000 in
theorem nf52 (c : Int) (w : World) (R : Ending → World → Prop) (h :
((((decide (c ≥ 0)) = true) →
((((decide (c ≤ 1099511627776)) = true) →
(R (Ending.returned (Value.bool true)) w)) ∧
(((decide (c ≤ 1099511627776)) = false) →
((((decide (c = 4611686018427387904)) = true) →
(R (Ending.returned (Value.bool true)) w)) ∧
(((decide (c = 4611686018427387904)) = false) →
(R (Ending.returned (Value.bool false)) w)))))) ∧
(((decide (c ≥ 0)) = false) →
((((decide (c = 4611686018427387904)) = true) →
(R (Ending.returned (Value.bool true)) w)) ∧
(((decide (c = 4611686018427387904)) = false) →
(R (Ending.returned (Value.bool false)) w)))))) :
    Calls Try.prog 52 #[(.int .i64 c)] w R :=
  calls_of_vc an52 Try.func52 rfl (by kernel_rfl) (by kernel_rfl) (Eq.mp (by kernel_rfl) h)

/-- slices.Index[[]int,int] -/
def an72 : An := (.seq (.reg []) (.seq (.seq (.reg []) (.blk (.loop [(8, .int .i64)] (.seq (.reg [(0, 0, true)]) (.seq (.cond .nil .nil) (.seq (.blk (.seq (.reg []) (.seq (.reg [(5, 0, true)]) (.cond (.seq (.reg []) .nil) .nil)))) (.reg []))))))) (.seq (.reg []) .nil)))
set_option maxRecDepth 100000 in
theorem nf72 (s : Option Addr) (s_n : Nat) (s_c : Nat) (v : Int) (w : World) (R : Ending → World → Prop) (h :
(∃ k1 : (Nat → (Int → (World → Prop))), ((∃ n2 : Nat, (k1 n2 0 w)) ∧
(∀ n3 : Nat, ((Nat → Value) →
(∀ w5 : World, (∀ x6 : Int, ((k1 n3 x6 w5) →
((((decide (x6 < ((s_n : Nat) : Int))) = true) →
(∃ a9 : Addr, ((s = (some a9)) ∧
((((0 : Int) ≤ x6) ∧
(x6 < ((s_n : Nat) : Int))) ∧
(∃ x10 : Int, (((w5.cell? (Addr.add a9 ((x6).toNat * 1))) = (some (Value.int IntKind.i64 x10))) ∧
((((decide (v = x10)) = true) →
(R (Ending.returned (Value.int IntKind.i64 x6)) w5)) ∧
(((decide (v = x10)) = false) →
(∃ n13 : Nat, ((n13 < n3) ∧
(k1 n13 (IntKind.wrap IntKind.i64 (x6 + 1)) w5))))))))))) ∧
(((decide (x6 < ((s_n : Nat) : Int))) = false) →
(R (Ending.returned (Value.int IntKind.i64 (-1))) w5))))))))))) :
    Calls Try.prog 72 #[(.slice s s_n s_c), (.int .i64 v)] w R :=
  calls_of_vc an72 Try.func72 rfl (by kernel_rfl) (by kernel_rfl) (Eq.mp (by kernel_rfl) h)

/-- (*samaritan/assignment.square).tight -/
def an73 : An := (.seq (.reg []) (.seq (.regD [(10, 0, true), (37, 0, true)] [0, 1, 2, 3, 4, 5, 6, 7, 8, 9, 10, 11, 12, 13, 14, 15, 16, 17, 18, 19, 20, 21, 22, 23, 24, 25, 26, 27, 28, 29, 30, 31, 32, 33, 34, 35, 36, 37, 38, 39] []) .nil))
set_option maxRecDepth 100000 in
theorem nf73 (q : Nat) (i : Int) (j : Int) (w : World) (R : Ending → World → Prop) (h :
(∀ w1 : World, ((w1 = w.drew) →
(∃ o3 : Option Addr, (∃ n4 : Nat, (∃ n5 : Nat, (((w1.cell? (⟨q, 0, none⟩ : Addr)) = (some (Value.slice o3 n4 n5))) ∧
(∃ a6 : Addr, ((o3 = (some a6)) ∧
((((0 : Int) ≤ i) ∧
(i < ((n4 : Nat) : Int))) ∧
(∃ o7 : Option Addr, (∃ n8 : Nat, (∃ n9 : Nat, (((w1.cell? (Addr.add a6 ((i).toNat * 1))) = (some (Value.slice o7 n8 n9))) ∧
(∃ a10 : Addr, ((o7 = (some a10)) ∧
((((0 : Int) ≤ j) ∧
(j < ((n8 : Nat) : Int))) ∧
(∃ x11 : Int, (((w1.cell? (Addr.add a10 ((j).toNat * 1))) = (some (Value.int IntKind.i64 x11))) ∧
((((!(decide (x11 = 4611686018427387904))) = true) →
(∃ o13 : Option Addr, (∃ n14 : Nat, (∃ n15 : Nat, (((w1.cell? (⟨q, 0, none⟩ : Addr)) = (some (Value.slice o13 n14 n15))) ∧
(∃ a16 : Addr, ((o13 = (some a16)) ∧
((((0 : Int) ≤ i) ∧
(i < ((n14 : Nat) : Int))) ∧
(∃ o17 : Option Addr, (∃ n18 : Nat, (∃ n19 : Nat, (((w1.cell? (Addr.add a16 ((i).toNat * 1))) = (some (Value.slice o17 n18 n19))) ∧
(∃ a20 : Addr, ((o17 = (some a20)) ∧
((((0 : Int) ≤ j) ∧
(j < ((n18 : Nat) : Int))) ∧
(∃ x21 : Int, (((w1.cell? (Addr.add a20 ((j).toNat * 1))) = (some (Value.int IntKind.i64 x21))) ∧
(∃ o22 : Option Addr, (∃ n23 : Nat, (∃ n24 : Nat, (((w1.cell? (⟨q, 3, none⟩ : Addr)) = (some (Value.slice o22 n23 n24))) ∧
(∃ a25 : Addr, ((o22 = (some a25)) ∧
((((0 : Int) ≤ i) ∧
(i < ((n23 : Nat) : Int))) ∧
(∃ x26 : Int, (((w1.cell? (Addr.add a25 ((i).toNat * 1))) = (some (Value.int IntKind.i64 x26))) ∧
(∃ o27 : Option Addr, (∃ n28 : Nat, (∃ n29 : Nat, (((w1.cell? (⟨q, 4, none⟩ : Addr)) = (some (Value.slice o27 n28 n29))) ∧
(∃ a30 : Addr, ((o27 = (some a30)) ∧
((((0 : Int) ≤ j) ∧
(j < ((n28 : Nat) : Int))) ∧
(∃ x31 : Int, (((w1.cell? (Addr.add a30 ((j).toNat * 1))) = (some (Value.int IntKind.i64 x31))) ∧
((((decide (x21 = (IntKind.wrap IntKind.i64 (x26 + x31)))) = true) →
(R (Ending.returned (Value.bool true)) w1)) ∧
(((decide (x21 = (IntKind.wrap IntKind.i64 (x26 + x31)))) = false) →
(R (Ending.returned (Value.bool false)) w1)))))))))))))))))))))))))))))))))))))) ∧
(((!(decide (x11 = 4611686018427387904))) = false) →
(R (Ending.returned (Value.bool false)) w1)))))))))))))))))))))) :
    Calls Try.prog 73 #[(.pointer (some ⟨q, 0, none⟩)), (.int .i64 i), (.int .i64 j)] w R :=
  calls_of_vc an73 Try.func73 rfl (by kernel_rfl) (by kernel_rfl) (Eq.mp (by kernel_rfl) h)

/-- (*samaritan/assignment.square).shift -/
def an74 : An := (.blk (.loop [(1, .int .i64), (2, .int .i64)] (.seq (.seq (.reg [(1, 0, true)]) (.cond .nil .nil)) (.blk (.seq (.regD [] [0, 1, 2, 3, 4, 5, 6, 7, 8, 9, 10, 11, 12, 13, 14, 15] [14]) (.reg []))))))
set_option maxRecDepth 100000 in
theorem nf74 (q : Nat) (row : Int) (column : Int) (toward : Option Addr) (toward_n : Nat) (toward_c : Nat) (w : World) (R : Ending → World → Prop) (h :
(∃ k1 : (Nat → (Int → (Int → (World → Prop)))), ((∃ n2 : Nat, (k1 n2 row column w)) ∧
(∀ n3 : Nat, ((Nat → Value) →
(∀ w5 : World, (∀ x6 : Int, (∀ x7 : Int, ((k1 n3 x6 x7 w5) →
((((decide (x7 ≥ 0)) = true) →
(∀ w10 : World, ((w10 = w5.drew) →
(∃ o12 : Option Addr, (∃ n13 : Nat, (∃ n14 : Nat, (((w10.cell? (⟨q, 2, none⟩ : Addr)) = (some (Value.slice o12 n13 n14))) ∧
(∃ o15 : Option Addr, (∃ n16 : Nat, (∃ n17 : Nat, (((w10.cell? (⟨q, 2, none⟩ : Addr)) = (some (Value.slice o15 n16 n17))) ∧
(∃ a18 : Addr, ((o15 = (some a18)) ∧
((((0 : Int) ≤ x7) ∧
(x7 < ((n16 : Nat) : Int))) ∧
(∃ x19 : Int, (((w10.cell? (Addr.add a18 ((x7).toNat * 1))) = (some (Value.int IntKind.i64 x19))) ∧
(∃ a20 : Addr, ((o12 = (some a20)) ∧
((((0 : Int) ≤ x7) ∧
(x7 < ((n13 : Nat) : Int))) ∧
((Nf.There w10 (Addr.add a20 ((x7).toNat * 1)) 1) ∧
(∀ w21 : World, ((w21 = (Nf.setCells w10 (Addr.add a20 ((x7).toNat * 1)) [(Value.int IntKind.i64 x6)] 0)) →
(∃ a23 : Addr, ((toward = (some a23)) ∧
((((0 : Int) ≤ x7) ∧
(x7 < ((toward_n : Nat) : Int))) ∧
(∃ x24 : Int, (((w21.cell? (Addr.add a23 ((x7).toNat * 1))) = (some (Value.int IntKind.i64 x24))) ∧
(∃ n25 : Nat, ((n25 < n3) ∧
(k1 n25 x19 x24 w21)))))))))))))))))))))))))))))) ∧
(((decide (x7 ≥ 0)) = false) →
(R (Ending.returned (Value.tuple #[])) w5)))))))))))) :
    Calls Try.prog 74 #[(.pointer (some ⟨q, 0, none⟩)), (.int .i64 row), (.int .i64 column), (.slice toward toward_n toward_c)] w R :=
  calls_of_vc an74 Try.func74 rfl (by kernel_rfl) (by kernel_rfl) (Eq.mp (by kernel_rfl) h)

/-- samaritan/assignment.check -/
def an32 : An := (.seq (.reg []) (.seq (.seq (.reg [(2, 0, true)]) (.cond (.seq (.reg []) .nil) .nil)) (.seq (.seq (.reg []) (.blk (.loop [(16, .int .i64)] (.seq (.reg [(0, 0, true)]) (.seq (.cond .nil .nil) (.seq (.blk (.seq (.reg []) (.seq (.reg [(2, 0, true)]) (.cond (.seq (.reg []) .nil) .nil)))) (.reg []))))))) (.seq (.seq (.reg [(2, 0, true)]) (.cond (.seq (.reg []) .nil) .nil)) (.seq (.reg []) (.seq (.seq (.reg []) (.blk (.loop [(33, .int .i64)] (.seq (.reg [(0, 0, true)]) (.seq (.cond .nil .nil) (.seq (.blk (.seq (.reg []) (.seq (.seq (.reg [(3, 0, true)]) (.cond (.seq (.reg []) .nil) .nil)) (.seq (.reg []) (.blk (.loop [(43, .int .i64)] (.seq (.reg [(0, 0, true)]) (.seq (.cond .nil .nil) (.seq (.blk (.seq (.reg []) (.seq (.reg [(1, 0, true)]) (.cond (.seq (.reg []) .nil) .nil)))) (.reg [])))))))))) (.reg []))))))) (.seq (.reg []) .nil)))))))
set_option maxRecDepth 100000 in
theorem nf32 (cost : Option Addr) (cost_n : Nat) (cost_c : Nat) (w : World) (R : Ending → World → Prop) (h :
((((decide (((cost_n : Nat) : Int) > 64)) = true) →
(R (Ending.returned (Value.tuple #[(Value.int IntKind.i64 0), (Value.int IntKind.i64 3)])) w)) ∧
(((decide (((cost_n : Nat) : Int) > 64)) = false) →
(∃ k3 : (Nat → (Int → (World → Prop))), ((∃ n4 : Nat, (k3 n4 0 w)) ∧
(∀ n5 : Nat, ((Nat → Value) →
(∀ w7 : World, (∀ x8 : Int, ((k3 n5 x8 w7) →
((((decide (x8 < ((cost_n : Nat) : Int))) = true) →
(∃ a11 : Addr, ((cost = (some a11)) ∧
((((0 : Int) ≤ x8) ∧
(x8 < ((cost_n : Nat) : Int))) ∧
(∃ o12 : Option Addr, (∃ n13 : Nat, (∃ n14 : Nat, (((w7.cell? (Addr.add a11 ((x8).toNat * 1))) = (some (Value.slice o12 n13 n14))) ∧
((((decide (((n13 : Nat) : Int) > 64)) = true) →
(R (Ending.returned (Value.tuple #[(Value.int IntKind.i64 0), (Value.int IntKind.i64 3)])) w7)) ∧
(((decide (((n13 : Nat) : Int) > 64)) = false) →
(∃ n17 : Nat, ((n17 < n5) ∧
(k3 n17 (IntKind.wrap IntKind.i64 (x8 + 1)) w7))))))))))))) ∧
(((decide (x8 < ((cost_n : Nat) : Int))) = false) →
((((decide (((cost_n : Nat) : Int) = 0)) = true) →
(R (Ending.returned (Value.tuple #[(Value.int IntKind.i64 0), (Value.int IntKind.i64 0)])) w7)) ∧
(((decide (((cost_n : Nat) : Int) = 0)) = false) →
(∃ a21 : Addr, ((cost = (some a21)) ∧
((((0 : Int) ≤ 0) ∧
((0 : Int) < ((cost_n : Nat) : Int))) ∧
(∃ o22 : Option Addr, (∃ n23 : Nat, (∃ n24 : Nat, (((w7.cell? a21) = (some (Value.slice o22 n23 n24))) ∧
(∃ k25 : (Nat → (Int → (World → Prop))), ((∃ n26 : Nat, (k25 n26 0 w7)) ∧
(∀ n27 : Nat, ((Nat → Value) →
(∀ w29 : World, (∀ x30 : Int, ((k25 n27 x30 w29) →
((((decide (x30 < ((cost_n : Nat) : Int))) = true) →
(∃ a33 : Addr, ((cost = (some a33)) ∧
((((0 : Int) ≤ x30) ∧
(x30 < ((cost_n : Nat) : Int))) ∧
(∃ o34 : Option Addr, (∃ n35 : Nat, (∃ n36 : Nat, (((w29.cell? (Addr.add a33 ((x30).toNat * 1))) = (some (Value.slice o34 n35 n36))) ∧
((((!(decide (((n35 : Nat) : Int) = ((n23 : Nat) : Int)))) = true) →
(R (Ending.returned (Value.tuple #[(Value.int IntKind.i64 0), (Value.int IntKind.i64 1)])) w29)) ∧
(((!(decide (((n35 : Nat) : Int) = ((n23 : Nat) : Int)))) = false) →
(∃ k39 : (Nat → (Int → (World → Prop))), ((∃ n40 : Nat, (k39 n40 0 w29)) ∧
(∀ n41 : Nat, ((Nat → Value) →
(∀ w43 : World, (∀ x44 : Int, ((k39 n41 x44 w43) →
((((decide (x44 < ((n35 : Nat) : Int))) = true) →
(∃ a47 : Addr, ((o34 = (some a47)) ∧
((((0 : Int) ≤ x44) ∧
(x44 < ((n35 : Nat) : Int))) ∧
(∃ x48 : Int, (((w43.cell? (Addr.add a47 ((x44).toNat * 1))) = (some (Value.int IntKind.i64 x48))) ∧
(Calls Try.prog 52 #[(Value.int IntKind.i64 x48)] w43 (fun (e49 : Ending) => (fun (w50 : World) => (∃ b51 : Bool, ((e49 = (Ending.returned (Value.bool b51))) ∧
(((b51 = true) →
(∃ n53 : Nat, ((n53 < n41) ∧
(k39 n53 (IntKind.wrap IntKind.i64 (x44 + 1)) w50)))) ∧
((b51 = false) →
(R (Ending.returned (Value.tuple #[(Value.int IntKind.i64 0), (Value.int IntKind.i64 1)])) w50)))))))))))))) ∧
(((decide (x44 < ((n35 : Nat) : Int))) = false) →
(∃ n56 : Nat, ((n56 < n27) ∧
(k25 n56 (IntKind.wrap IntKind.i64 (x30 + 1)) w43)))))))))))))))))))))) ∧
(((decide (x30 < ((cost_n : Nat) : Int))) = false) →
(R (Ending.returned (Value.tuple #[(Value.int IntKind.i64 ((n23 : Nat) : Int)), (Value.int IntKind.i64 0)])) w29))))))))))))))))))))))))))))))) :
    Calls Try.prog 32 #[(.slice cost cost_n cost_c)] w R :=
  calls_of_vc an32 Try.func32 rfl (by kernel_rfl) (by kernel_rfl) (Eq.mp (by kernel_rfl) h)

/-- samaritan/assignment.newSquare -/
def an53 : An := (.seq (.reg []) (.seq (.reg []) (.seq (.reg []) (.seq (.seq (.reg []) (.blk (.loop [(22, .int .i64)] (.seq (.reg [(0, 0, true)]) (.seq (.cond .nil .nil) (.seq (.blk (.seq (.reg []) (.seq (.reg [(4, 1, false)]) (.cut [] (.seq (.reg [(2, 0, true)]) (.cond (.seq (.seq (.reg []) (.blk (.loop [(9, .int .i64)] (.seq (.seq (.reg [(5, 0, true)]) (.cond .nil .nil)) (.seq (.blk (.reg [])) (.reg [])))))) (.seq (.reg [(5, 1, false)]) (.reg []))) .nil)) (.reg [(7, 1, false)]))))) (.reg []))))))) (.seq (.reg [(5, 1, false)]) (.seq (.reg [(5, 1, false)]) (.seq (.reg [(5, 1, false)]) (.seq (.seq (.reg []) (.blk (.loop [(96, .int .i64)] (.seq (.reg [(0, 0, true)]) (.seq (.cond .nil .nil) (.seq (.blk (.seq (.reg []) (.reg []))) (.reg []))))))) (.seq (.reg []) .nil)))))))))
set_option maxRecDepth 100000 in
theorem nf53 (cost : Option Addr) (cost_n : Nat) (cost_c : Nat) (columns : Int) (w : World) (R : Ending → World → Prop) (h :
(∀ w1 : World, ((w1 = (w.alloc (Obj.cells #[(Value.slice none 0 0), (Value.int IntKind.i64 (IntKind.wrap IntKind.i64 (((cost_n : Nat) : Int) + columns))), (Value.slice none 0 0), (Value.slice none 0 0), (Value.slice none 0 0)] 120 (0, 0)))) →
(∃ x3 : Int, (((w1.cell? (⟨(hs w), 1, none⟩ : Addr)) = (some (Value.int IntKind.i64 x3))) ∧
(∃ k4 : (Nat → (Int → (World → Prop))), ((∃ n5 : Nat, (k4 n5 0 w1)) ∧
(∀ n6 : Nat, ((Nat → Value) →
(∀ w8 : World, (∀ x9 : Int, ((k4 n6 x9 w8) →
((((decide (x9 < x3)) = true) →
(∃ x12 : Int, (((w8.cell? (⟨(hs w), 1, none⟩ : Addr)) = (some (Value.int IntKind.i64 x12))) ∧
(RunOk Try.prog (Nf.Hold (Instr.makeSlice 32 (Value.int IntKind.i64 x12) (Value.int IntKind.i64 x12))) w8 (fun (v13 : Value) => (fun (w14 : World) => (∃ o15 : Option Addr, (∃ n16 : Nat, (∃ n17 : Nat, ((v13 = (Value.slice o15 n16 n17)) ∧
(∀ k18 : (World → Prop), ((∀ w20 : World, (((Nat → Value) →
(∃ o23 : Option Addr, (∃ n24 : Nat, (∃ n25 : Nat, (((w20.cell? (⟨(hs w), 0, none⟩ : Addr)) = (some (Value.slice o23 n24 n25))) ∧
(∀ w26 : World, ((w26 = (w20.alloc (Obj.cells #[(Value.slice o15 n16 n17)] 32 (0, 0)))) →
(RunOk Try.prog (Nf.Hold (Builtin.append_ #[48, 48] 48 #[(Value.slice o23 n24 n25), (Value.slice (some (⟨(hs w20), 0, none⟩ : Addr)) 1 1)])) w26 (fun (v28 : Value) => (fun (w29 : World) => (∃ o30 : Option Addr, (∃ n31 : Nat, (∃ n32 : Nat, ((v28 = (Value.slice o30 n31 n32)) ∧
((Nf.There w29 (⟨(hs w), 0, none⟩ : Addr) 1) ∧
(∀ w33 : World, ((w33 = (Nf.setCells w29 (⟨(hs w), 0, none⟩ : Addr) [(Value.slice o30 n31 n32)] 0)) →
(∃ n35 : Nat, ((n35 < n6) ∧
(k4 n35 (IntKind.wrap IntKind.i64 (x9 + 1)) w33)))))))))))))))))))) →
(k18 w20))) →
((((decide (x9 < ((cost_n : Nat) : Int))) = true) →
(∃ k37 : (Nat → (Int → (World → Prop))), ((∃ n38 : Nat, (k37 n38 columns w14)) ∧
(∀ n39 : Nat, ((Nat → Value) →
(∀ w41 : World, (∀ x42 : Int, ((k37 n39 x42 w41) →
(∃ x44 : Int, (((w41.cell? (⟨(hs w), 1, none⟩ : Addr)) = (some (Value.int IntKind.i64 x44))) ∧
((((decide (x42 < x44)) = true) →
(∃ a46 : Addr, ((o15 = (some a46)) ∧
((((0 : Int) ≤ x42) ∧
(x42 < ((n16 : Nat) : Int))) ∧
((Nf.There w41 (Addr.add a46 ((x42).toNat * 1)) 1) ∧
(∀ w47 : World, ((w47 = (Nf.setCells w41 (Addr.add a46 ((x42).toNat * 1)) [(Value.int IntKind.i64 4611686018427387904)] 0)) →
(∃ n49 : Nat, ((n49 < n39) ∧
(k37 n49 (IntKind.wrap IntKind.i64 (x42 + 1)) w47)))))))))) ∧
(((decide (x42 < x44)) = false) →
(∃ a51 : Addr, ((cost = (some a51)) ∧
((((0 : Int) ≤ x9) ∧
(x9 < ((cost_n : Nat) : Int))) ∧
(∃ o52 : Option Addr, (∃ n53 : Nat, (∃ n54 : Nat, (((w41.cell? (Addr.add a51 ((x9).toNat * 1))) = (some (Value.slice o52 n53 n54))) ∧
(RunOk Try.prog (Nf.Hold (Builtin.copy_ #[32, 32] 3 #[(Value.slice o15 n16 n17), (Value.slice o52 n53 n54)])) w41 (fun (v55 : Value) => (fun (w56 : World) => (∃ x57 : Int, ((v55 = (Value.int IntKind.i64 x57)) ∧
(∃ a58 : Addr, ((o15 = (some a58)) ∧
((((0 : Int) ≤ (IntKind.wrap IntKind.i64 (columns + x9))) ∧
((IntKind.wrap IntKind.i64 (columns + x9)) < ((n16 : Nat) : Int))) ∧
((Nf.There w56 (Addr.add a58 (((IntKind.wrap IntKind.i64 (columns + x9))).toNat * 1)) 1) ∧
(∀ w59 : World, ((w59 = (Nf.setCells w56 (Addr.add a58 (((IntKind.wrap IntKind.i64 (columns + x9))).toNat * 1)) [(Value.int IntKind.i64 140737488355328)] 0)) →
(k18 w59))))))))))))))))))))))))))))))) ∧
(((decide (x9 < ((cost_n : Nat) : Int))) = false) →
(k18 w14))))))))))))))) ∧
(((decide (x9 < x3)) = false) →
(∃ x63 : Int, (((w8.cell? (⟨(hs w), 1, none⟩ : Addr)) = (some (Value.int IntKind.i64 x63))) ∧
(RunOk Try.prog (Nf.Hold (Instr.makeSlice 32 (Value.int IntKind.i64 x63) (Value.int IntKind.i64 x63))) w8 (fun (v64 : Value) => (fun (w65 : World) => (∃ o66 : Option Addr, (∃ n67 : Nat, (∃ n68 : Nat, ((v64 = (Value.slice o66 n67 n68)) ∧
((Nf.There w65 (⟨(hs w), 3, none⟩ : Addr) 1) ∧
(∀ w69 : World, ((w69 = (Nf.setCells w65 (⟨(hs w), 3, none⟩ : Addr) [(Value.slice o66 n67 n68)] 0)) →
(∃ x71 : Int, (((w69.cell? (⟨(hs w), 1, none⟩ : Addr)) = (some (Value.int IntKind.i64 x71))) ∧
(RunOk Try.prog (Nf.Hold (Instr.makeSlice 32 (Value.int IntKind.i64 x71) (Value.int IntKind.i64 x71))) w69 (fun (v72 : Value) => (fun (w73 : World) => (∃ o74 : Option Addr, (∃ n75 : Nat, (∃ n76 : Nat, ((v72 = (Value.slice o74 n75 n76)) ∧
((Nf.There w73 (⟨(hs w), 4, none⟩ : Addr) 1) ∧
(∀ w77 : World, ((w77 = (Nf.setCells w73 (⟨(hs w), 4, none⟩ : Addr) [(Value.slice o74 n75 n76)] 0)) →
(∃ x79 : Int, (((w77.cell? (⟨(hs w), 1, none⟩ : Addr)) = (some (Value.int IntKind.i64 x79))) ∧
(RunOk Try.prog (Nf.Hold (Instr.makeSlice 31 (Value.int IntKind.i64 x79) (Value.int IntKind.i64 x79))) w77 (fun (v80 : Value) => (fun (w81 : World) => (∃ o82 : Option Addr, (∃ n83 : Nat, (∃ n84 : Nat, ((v80 = (Value.slice o82 n83 n84)) ∧
((Nf.There w81 (⟨(hs w), 2, none⟩ : Addr) 1) ∧
(∀ w85 : World, ((w85 = (Nf.setCells w81 (⟨(hs w), 2, none⟩ : Addr) [(Value.slice o82 n83 n84)] 0)) →
(∃ o87 : Option Addr, (∃ n88 : Nat, (∃ n89 : Nat, (((w85.cell? (⟨(hs w), 2, none⟩ : Addr)) = (some (Value.slice o87 n88 n89))) ∧
(∃ k90 : (Nat → (Int → (World → Prop))), ((∃ n91 : Nat, (k90 n91 0 w85)) ∧
(∀ n92 : Nat, ((Nat → Value) →
(∀ w94 : World, (∀ x95 : Int, ((k90 n92 x95 w94) →
((((decide (x95 < ((n88 : Nat) : Int))) = true) →
(∃ o98 : Option Addr, (∃ n99 : Nat, (∃ n100 : Nat, (((w94.cell? (⟨(hs w), 2, none⟩ : Addr)) = (some (Value.slice o98 n99 n100))) ∧
(∃ a101 : Addr, ((o98 = (some a101)) ∧
((((0 : Int) ≤ x95) ∧
(x95 < ((n99 : Nat) : Int))) ∧
((Nf.There w94 (Addr.add a101 ((x95).toNat * 1)) 1) ∧
(∀ w102 : World, ((w102 = (Nf.setCells w94 (Addr.add a101 ((x95).toNat * 1)) [(Value.int IntKind.i64 (-1))] 0)) →
(∃ n104 : Nat, ((n104 < n92) ∧
(k90 n104 (IntKind.wrap IntKind.i64 (x95 + 1)) w102)))))))))))))) ∧
(((decide (x95 < ((n88 : Nat) : Int))) = false) →
(R (Ending.returned (Value.pointer (some (⟨(hs w), 0, none⟩ : Addr)))) w94)))))))))))))))))))))))))))))))))))))))))))))))))))))))))))))))) :
    Calls Try.prog 53 #[(.slice cost cost_n cost_c), (.int .i64 columns)] w R :=
  calls_of_vc an53 Try.func53 rfl (by kernel_rfl) (by kernel_rfl) (Eq.mp (by kernel_rfl) h)

/-- (*samaritan/assignment.square).insert -/
def an54 : An := (.seq (.reg [(4, 1, false)]) (.seq (.reg [(4, 1, false)]) (.seq (.reg [(4, 1, false)]) (.seq (.seq (.reg []) (.blk (.loop [(33, .int .i64)] (.seq (.reg [(0, 0, true)]) (.seq (.cond .nil .nil) (.seq (.blk (.seq (.reg []) (.seq (.reg []) (.reg [])))) (.reg []))))))) (.seq (.reg []) (.seq (.blk (.loop [(8, .int .i64), (9, .int .i64)] (.blk (.seq (.reg []) (.seq (.seq (.reg []) (.blk (.loop [(10, .int .i64), (48, .int .i64)] (.seq (.reg [(0, 0, true)]) (.seq (.cond .nil .nil) (.seq (.blk (.seq (.reg []) (.seq (.seq (.reg [(3, 0, true)]) (.cond .nil .nil)) (.cut [] (.seq (.reg []) (.seq (.reg [(1, 0, true)]) (.cond (.seq (.regD [] [0, 1, 2, 3, 4, 5, 6, 7, 8, 9, 10, 11, 12, 13, 14, 15, 16, 17] []) (.seq (.reg [(5, 0, true)]) (.cond (.reg []) .nil))) .nil))) (.seq (.regD [(1, 0, true), (11, 0, true)] [0, 1, 2, 3, 4, 5, 6, 7, 8, 9, 10, 11, 12] []) (.cond (.reg []) .nil)))))) (.reg []))))))) (.seq (.reg []) (.seq (.reg []) (.seq (.seq (.reg []) (.blk (.loop [(131, .int .i64)] (.seq (.reg [(0, 0, true)]) (.seq (.cond .nil .nil) (.seq (.blk (.seq (.reg []) (.blk (.seq (.reg [(3, 0, true)]) (.cond (.seq (.regD [] [0, 1, 2, 3, 4, 5, 6, 7, 8, 9, 10, 11, 12, 13, 14, 15, 16] [16]) (.reg [])) (.seq (.reg [(4, 0, true)]) (.cond (.reg []) .nil))))))) (.reg []))))))) (.seq (.reg []) (.seq (.reg []) (.seq (.seq (.reg [(7, 0, true)]) (.cond .nil .nil)) (.reg [])))))))))))) (.seq (.blk (.loop [(9, .int .i64)] (.seq (.seq (.reg [(1, 0, true), (7, 0, true)]) (.cond .nil .nil)) (.blk (.seq (.regD [] [0, 1, 2, 3, 4, 5, 6, 7, 8, 9, 10, 11, 12, 13, 14, 15, 16] [16]) (.reg [])))))) (.reg []))))))))
set_option maxRecDepth 100000 in
theorem nf54 (q : Nat) (start : Int) (w : World) (R : Ending → World → Prop) (h :
(∃ x1 : Int, (((w.cell? (⟨q, 1, none⟩ : Addr)) = (some (Value.int IntKind.i64 x1))) ∧
(RunOk Try.prog (Nf.Hold (Instr.makeSlice 32 (Value.int IntKind.i64 x1) (Value.int IntKind.i64 x1))) w (fun (v2 : Value) => (fun (w3 : World) => (∃ o4 : Option Addr, (∃ n5 : Nat, (∃ n6 : Nat, ((v2 = (Value.slice o4 n5 n6)) ∧
(∃ x7 : Int, (((w3.cell? (⟨q, 1, none⟩ : Addr)) = (some (Value.int IntKind.i64 x7))) ∧
(RunOk Try.prog (Nf.Hold (Instr.makeSlice 31 (Value.int IntKind.i64 x7) (Value.int IntKind.i64 x7))) w3 (fun (v8 : Value) => (fun (w9 : World) => (∃ o10 : Option Addr, (∃ n11 : Nat, (∃ n12 : Nat, ((v8 = (Value.slice o10 n11 n12)) ∧
(∃ x13 : Int, (((w9.cell? (⟨q, 1, none⟩ : Addr)) = (some (Value.int IntKind.i64 x13))) ∧
(RunOk Try.prog (Nf.Hold (Instr.makeSlice 93 (Value.int IntKind.i64 x13) (Value.int IntKind.i64 x13))) w9 (fun (v14 : Value) => (fun (w15 : World) => (∃ o16 : Option Addr, (∃ n17 : Nat, (∃ n18 : Nat, ((v14 = (Value.slice o16 n17 n18)) ∧
(∃ k19 : (Nat → (Int → (World → Prop))), ((∃ n20 : Nat, (k19 n20 0 w15)) ∧
(∀ n21 : Nat, ((Nat → Value) →
(∀ w23 : World, (∀ x24 : Int, ((k19 n21 x24 w23) →
((((decide (x24 < ((n5 : Nat) : Int))) = true) →
(∃ a27 : Addr, ((o4 = (some a27)) ∧
((((0 : Int) ≤ x24) ∧
(x24 < ((n5 : Nat) : Int))) ∧
((Nf.There w23 (Addr.add a27 ((x24).toNat * 1)) 1) ∧
(∀ w28 : World, ((w28 = (Nf.setCells w23 (Addr.add a27 ((x24).toNat * 1)) [(Value.int IntKind.i64 4611686018427387904)] 0)) →
(∃ a30 : Addr, ((o10 = (some a30)) ∧
((((0 : Int) ≤ x24) ∧
(x24 < ((n11 : Nat) : Int))) ∧
((Nf.There w28 (Addr.add a30 ((x24).toNat * 1)) 1) ∧
(∀ w31 : World, ((w31 = (Nf.setCells w28 (Addr.add a30 ((x24).toNat * 1)) [(Value.int IntKind.i64 (-1))] 0)) →
(∃ n33 : Nat, ((n33 < n21) ∧
(k19 n33 (IntKind.wrap IntKind.i64 (x24 + 1)) w31)))))))))))))))) ∧
(((decide (x24 < ((n5 : Nat) : Int))) = false) →
(∃ k35 : (Nat → (Int → (Int → (World → Prop)))), ((∃ n36 : Nat, (k35 n36 start (-1) w23)) ∧
(∀ n37 : Nat, ((Nat → Value) →
(∀ w39 : World, (∀ x40 : Int, (∀ x41 : Int, ((k35 n37 x40 x41 w39) →
(∃ x43 : Int, (((w39.cell? (⟨q, 1, none⟩ : Addr)) = (some (Value.int IntKind.i64 x43))) ∧
(∃ k44 : (Nat → (Int → (Int → (World → Prop)))), ((∃ n45 : Nat, (k44 n45 (-1) 0 w39)) ∧
(∀ n46 : Nat, ((Nat → Value) →
(∀ w48 : World, (∀ x49 : Int, (∀ x50 : Int, ((k44 n46 x49 x50 w48) →
((((decide (x50 < x43)) = true) →
(∃ a53 : Addr, ((o16 = (some a53)) ∧
((((0 : Int) ≤ x50) ∧
(x50 < ((n17 : Nat) : Int))) ∧
(∃ b54 : Bool, (((w48.cell? (Addr.add a53 ((x50).toNat * 1))) = (some (Value.bool b54))) ∧
(((b54 = true) →
(∃ n56 : Nat, ((n56 < n46) ∧
(k44 n56 x49 (IntKind.wrap IntKind.i64 (x50 + 1)) w48)))) ∧
((b54 = false) →
(∀ k58 : (World → Prop), ((∀ w60 : World, (((Nat → Value) →
(∀ w63 : World, ((w63 = w60.drew) →
((((decide (x49 < 0)) = true) →
(∃ n66 : Nat, ((n66 < n46) ∧
(k44 n66 x50 (IntKind.wrap IntKind.i64 (x50 + 1)) w63)))) ∧
(((decide (x49 < 0)) = false) →
(∃ a68 : Addr, ((o4 = (some a68)) ∧
((((0 : Int) ≤ x50) ∧
(x50 < ((n5 : Nat) : Int))) ∧
(∃ x69 : Int, (((w63.cell? (Addr.add a68 ((x50).toNat * 1))) = (some (Value.int IntKind.i64 x69))) ∧
(∃ a70 : Addr, ((o4 = (some a70)) ∧
((((0 : Int) ≤ x49) ∧
(x49 < ((n5 : Nat) : Int))) ∧
(∃ x71 : Int, (((w63.cell? (Addr.add a70 ((x49).toNat * 1))) = (some (Value.int IntKind.i64 x71))) ∧
((((decide (x69 < x71)) = true) →
(∃ n73 : Nat, ((n73 < n46) ∧
(k44 n73 x50 (IntKind.wrap IntKind.i64 (x50 + 1)) w63)))) ∧
(((decide (x69 < x71)) = false) →
(∃ n75 : Nat, ((n75 < n46) ∧
(k44 n75 x49 (IntKind.wrap IntKind.i64 (x50 + 1)) w63)))))))))))))))))))) →
(k58 w60))) →
(∃ o76 : Option Addr, (∃ n77 : Nat, (∃ n78 : Nat, (((w48.cell? (⟨q, 0, none⟩ : Addr)) = (some (Value.slice o76 n77 n78))) ∧
(∃ a79 : Addr, ((o76 = (some a79)) ∧
((((0 : Int) ≤ x40) ∧
(x40 < ((n77 : Nat) : Int))) ∧
(∃ o80 : Option Addr, (∃ n81 : Nat, (∃ n82 : Nat, (((w48.cell? (Addr.add a79 ((x40).toNat * 1))) = (some (Value.slice o80 n81 n82))) ∧
(∃ a83 : Addr, ((o80 = (some a83)) ∧
((((0 : Int) ≤ x50) ∧
(x50 < ((n81 : Nat) : Int))) ∧
(∃ x84 : Int, (((w48.cell? (Addr.add a83 ((x50).toNat * 1))) = (some (Value.int IntKind.i64 x84))) ∧
((((!(decide (x84 = 4611686018427387904))) = true) →
(∀ w86 : World, ((w86 = w48.drew) →
(∃ o88 : Option Addr, (∃ n89 : Nat, (∃ n90 : Nat, (((w86.cell? (⟨q, 3, none⟩ : Addr)) = (some (Value.slice o88 n89 n90))) ∧
(∃ a91 : Addr, ((o88 = (some a91)) ∧
((((0 : Int) ≤ x40) ∧
(x40 < ((n89 : Nat) : Int))) ∧
(∃ x92 : Int, (((w86.cell? (Addr.add a91 ((x40).toNat * 1))) = (some (Value.int IntKind.i64 x92))) ∧
(∃ o93 : Option Addr, (∃ n94 : Nat, (∃ n95 : Nat, (((w86.cell? (⟨q, 4, none⟩ : Addr)) = (some (Value.slice o93 n94 n95))) ∧
(∃ a96 : Addr, ((o93 = (some a96)) ∧
((((0 : Int) ≤ x50) ∧
(x50 < ((n94 : Nat) : Int))) ∧
(∃ x97 : Int, (((w86.cell? (Addr.add a96 ((x50).toNat * 1))) = (some (Value.int IntKind.i64 x97))) ∧
(∃ a98 : Addr, ((o4 = (some a98)) ∧
((((0 : Int) ≤ x50) ∧
(x50 < ((n5 : Nat) : Int))) ∧
(∃ x99 : Int, (((w86.cell? (Addr.add a98 ((x50).toNat * 1))) = (some (Value.int IntKind.i64 x99))) ∧
((((decide ((IntKind.wrap IntKind.i64 ((IntKind.wrap IntKind.i64 (x84 - x92)) - x97)) < x99)) = true) →
(∃ a101 : Addr, ((o4 = (some a101)) ∧
((((0 : Int) ≤ x50) ∧
(x50 < ((n5 : Nat) : Int))) ∧
((Nf.There w86 (Addr.add a101 ((x50).toNat * 1)) 1) ∧
(∀ w102 : World, ((w102 = (Nf.setCells w86 (Addr.add a101 ((x50).toNat * 1)) [(Value.int IntKind.i64 (IntKind.wrap IntKind.i64 ((IntKind.wrap IntKind.i64 (x84 - x92)) - x97)))] 0)) →
(∃ a104 : Addr, ((o10 = (some a104)) ∧
((((0 : Int) ≤ x50) ∧
(x50 < ((n11 : Nat) : Int))) ∧
((Nf.There w102 (Addr.add a104 ((x50).toNat * 1)) 1) ∧
(∀ w105 : World, ((w105 = (Nf.setCells w102 (Addr.add a104 ((x50).toNat * 1)) [(Value.int IntKind.i64 x41)] 0)) →
(k58 w105)))))))))))))) ∧
(((decide ((IntKind.wrap IntKind.i64 ((IntKind.wrap IntKind.i64 (x84 - x92)) - x97)) < x99)) = false) →
(k58 w86))))))))))))))))))))))))))))) ∧
(((!(decide (x84 = 4611686018427387904))) = false) →
(k58 w48))))))))))))))))))))))))))))) ∧
(((decide (x50 < x43)) = false) →
(∃ a110 : Addr, ((o4 = (some a110)) ∧
((((0 : Int) ≤ x49) ∧
(x49 < ((n5 : Nat) : Int))) ∧
(∃ x111 : Int, (((w48.cell? (Addr.add a110 ((x49).toNat * 1))) = (some (Value.int IntKind.i64 x111))) ∧
(∃ o112 : Option Addr, (∃ n113 : Nat, (∃ n114 : Nat, (((w48.cell? (⟨q, 3, none⟩ : Addr)) = (some (Value.slice o112 n113 n114))) ∧
(∃ a115 : Addr, ((o112 = (some a115)) ∧
((((0 : Int) ≤ start) ∧
(start < ((n113 : Nat) : Int))) ∧
(∃ x116 : Int, (((w48.cell? (Addr.add a115 ((start).toNat * 1))) = (some (Value.int IntKind.i64 x116))) ∧
(∃ a117 : Addr, ((o112 = (some a117)) ∧
((((0 : Int) ≤ start) ∧
(start < ((n113 : Nat) : Int))) ∧
((Nf.There w48 (Addr.add a117 ((start).toNat * 1)) 1) ∧
(∀ w118 : World, ((w118 = (Nf.setCells w48 (Addr.add a117 ((start).toNat * 1)) [(Value.int IntKind.i64 (IntKind.wrap IntKind.i64 (x116 + x111)))] 0)) →
(∃ x120 : Int, (((w118.cell? (⟨q, 1, none⟩ : Addr)) = (some (Value.int IntKind.i64 x120))) ∧
(∃ k121 : (Nat → (Int → (World → Prop))), ((∃ n122 : Nat, (k121 n122 0 w118)) ∧
(∀ n123 : Nat, ((Nat → Value) →
(∀ w125 : World, (∀ x126 : Int, ((k121 n123 x126 w125) →
((((decide (x126 < x120)) = true) →
(∃ a129 : Addr, ((o16 = (some a129)) ∧
((((0 : Int) ≤ x126) ∧
(x126 < ((n17 : Nat) : Int))) ∧
(∃ b130 : Bool, (((w125.cell? (Addr.add a129 ((x126).toNat * 1))) = (some (Value.bool b130))) ∧
(((b130 = true) →
(∀ w132 : World, ((w132 = w125.drew) →
(∃ o134 : Option Addr, (∃ n135 : Nat, (∃ n136 : Nat, (((w132.cell? (⟨q, 3, none⟩ : Addr)) = (some (Value.slice o134 n135 n136))) ∧
(∃ o137 : Option Addr, (∃ n138 : Nat, (∃ n139 : Nat, (((w132.cell? (⟨q, 2, none⟩ : Addr)) = (some (Value.slice o137 n138 n139))) ∧
(∃ a140 : Addr, ((o137 = (some a140)) ∧
((((0 : Int) ≤ x126) ∧
(x126 < ((n138 : Nat) : Int))) ∧
(∃ x141 : Int, (((w132.cell? (Addr.add a140 ((x126).toNat * 1))) = (some (Value.int IntKind.i64 x141))) ∧
(∃ a142 : Addr, ((o134 = (some a142)) ∧
((((0 : Int) ≤ x141) ∧
(x141 < ((n135 : Nat) : Int))) ∧
(∃ x143 : Int, (((w132.cell? (Addr.add a142 ((x141).toNat * 1))) = (some (Value.int IntKind.i64 x143))) ∧
(∃ a144 : Addr, ((o134 = (some a144)) ∧
((((0 : Int) ≤ x141) ∧
(x141 < ((n135 : Nat) : Int))) ∧
((Nf.There w132 (Addr.add a144 ((x141).toNat * 1)) 1) ∧
(∀ w145 : World, ((w145 = (Nf.setCells w132 (Addr.add a144 ((x141).toNat * 1)) [(Value.int IntKind.i64 (IntKind.wrap IntKind.i64 (x143 + x111)))] 0)) →
(∃ o147 : Option Addr, (∃ n148 : Nat, (∃ n149 : Nat, (((w145.cell? (⟨q, 4, none⟩ : Addr)) = (some (Value.slice o147 n148 n149))) ∧
(∃ a150 : Addr, ((o147 = (some a150)) ∧
((((0 : Int) ≤ x126) ∧
(x126 < ((n148 : Nat) : Int))) ∧
(∃ x151 : Int, (((w145.cell? (Addr.add a150 ((x126).toNat * 1))) = (some (Value.int IntKind.i64 x151))) ∧
(∃ a152 : Addr, ((o147 = (some a152)) ∧
((((0 : Int) ≤ x126) ∧
(x126 < ((n148 : Nat) : Int))) ∧
((Nf.There w145 (Addr.add a152 ((x126).toNat * 1)) 1) ∧
(∀ w153 : World, ((w153 = (Nf.setCells w145 (Addr.add a152 ((x126).toNat * 1)) [(Value.int IntKind.i64 (IntKind.wrap IntKind.i64 (x151 - x111)))] 0)) →
(∃ n155 : Nat, ((n155 < n123) ∧
(k121 n155 (IntKind.wrap IntKind.i64 (x126 + 1)) w153))))))))))))))))))))))))))))))))))))))))))))) ∧
((b130 = false) →
(∃ a157 : Addr, ((o4 = (some a157)) ∧
((((0 : Int) ≤ x126) ∧
(x126 < ((n5 : Nat) : Int))) ∧
(∃ x158 : Int, (((w125.cell? (Addr.add a157 ((x126).toNat * 1))) = (some (Value.int IntKind.i64 x158))) ∧
((((!(decide (x158 = 4611686018427387904))) = true) →
(∃ a160 : Addr, ((o4 = (some a160)) ∧
((((0 : Int) ≤ x126) ∧
(x126 < ((n5 : Nat) : Int))) ∧
(∃ x161 : Int, (((w125.cell? (Addr.add a160 ((x126).toNat * 1))) = (some (Value.int IntKind.i64 x161))) ∧
(∃ a162 : Addr, ((o4 = (some a162)) ∧
((((0 : Int) ≤ x126) ∧
(x126 < ((n5 : Nat) : Int))) ∧
((Nf.There w125 (Addr.add a162 ((x126).toNat * 1)) 1) ∧
(∀ w163 : World, ((w163 = (Nf.setCells w125 (Addr.add a162 ((x126).toNat * 1)) [(Value.int IntKind.i64 (IntKind.wrap IntKind.i64 (x161 - x111)))] 0)) →
(∃ n165 : Nat, ((n165 < n123) ∧
(k121 n165 (IntKind.wrap IntKind.i64 (x126 + 1)) w163))))))))))))))) ∧
(((!(decide (x158 = 4611686018427387904))) = false) →
(∃ n167 : Nat, ((n167 < n123) ∧
(k121 n167 (IntKind.wrap IntKind.i64 (x126 + 1)) w125)))))))))))))))))) ∧
(((decide (x126 < x120)) = false) →
(∃ a169 : Addr, ((o16 = (some a169)) ∧
((((0 : Int) ≤ x49) ∧
(x49 < ((n17 : Nat) : Int))) ∧
((Nf.There w125 (Addr.add a169 ((x49).toNat * 1)) 1) ∧
(∀ w170 : World, ((w170 = (Nf.setCells w125 (Addr.add a169 ((x49).toNat * 1)) [(Value.bool true)] 0)) →
(∃ o172 : Option Addr, (∃ n173 : Nat, (∃ n174 : Nat, (((w170.cell? (⟨q, 2, none⟩ : Addr)) = (some (Value.slice o172 n173 n174))) ∧
(∃ a175 : Addr, ((o172 = (some a175)) ∧
((((0 : Int) ≤ x49) ∧
(x49 < ((n173 : Nat) : Int))) ∧
(∃ x176 : Int, (((w170.cell? (Addr.add a175 ((x49).toNat * 1))) = (some (Value.int IntKind.i64 x176))) ∧
((((decide (x176 < 0)) = true) →
(∃ k178 : (Nat → (Int → (World → Prop))), ((∃ n179 : Nat, (k178 n179 x49 w170)) ∧
(∀ n180 : Nat, ((Nat → Value) →
(∀ w182 : World, (∀ x183 : Int, ((k178 n180 x183 w182) →
((((decide (x183 ≥ 0)) = true) →
(∃ a186 : Addr, ((o10 = (some a186)) ∧
((((0 : Int) ≤ x183) ∧
(x183 < ((n11 : Nat) : Int))) ∧
(∃ x187 : Int, (((w182.cell? (Addr.add a186 ((x183).toNat * 1))) = (some (Value.int IntKind.i64 x187))) ∧
((((decide (x187 ≥ 0)) = true) →
(∀ w189 : World, ((w189 = w182.drew) →
(∃ o191 : Option Addr, (∃ n192 : Nat, (∃ n193 : Nat, (((w189.cell? (⟨q, 2, none⟩ : Addr)) = (some (Value.slice o191 n192 n193))) ∧
(∃ o194 : Option Addr, (∃ n195 : Nat, (∃ n196 : Nat, (((w189.cell? (⟨q, 2, none⟩ : Addr)) = (some (Value.slice o194 n195 n196))) ∧
(∃ a197 : Addr, ((o10 = (some a197)) ∧
((((0 : Int) ≤ x183) ∧
(x183 < ((n11 : Nat) : Int))) ∧
(∃ x198 : Int, (((w189.cell? (Addr.add a197 ((x183).toNat * 1))) = (some (Value.int IntKind.i64 x198))) ∧
(∃ a199 : Addr, ((o194 = (some a199)) ∧
((((0 : Int) ≤ x198) ∧
(x198 < ((n195 : Nat) : Int))) ∧
(∃ x200 : Int, (((w189.cell? (Addr.add a199 ((x198).toNat * 1))) = (some (Value.int IntKind.i64 x200))) ∧
(∃ a201 : Addr, ((o191 = (some a201)) ∧
((((0 : Int) ≤ x183) ∧
(x183 < ((n192 : Nat) : Int))) ∧
((Nf.There w189 (Addr.add a201 ((x183).toNat * 1)) 1) ∧
(∀ w202 : World, ((w202 = (Nf.setCells w189 (Addr.add a201 ((x183).toNat * 1)) [(Value.int IntKind.i64 x200)] 0)) →
(∃ a204 : Addr, ((o10 = (some a204)) ∧
((((0 : Int) ≤ x183) ∧
(x183 < ((n11 : Nat) : Int))) ∧
(∃ x205 : Int, (((w202.cell? (Addr.add a204 ((x183).toNat * 1))) = (some (Value.int IntKind.i64 x205))) ∧
(∃ n206 : Nat, ((n206 < n180) ∧
(k178 n206 x205 w202))))))))))))))))))))))))))))))))))) ∧
(((decide (x187 ≥ 0)) = false) →
(∃ o208 : Option Addr, (∃ n209 : Nat, (∃ n210 : Nat, (((w182.cell? (⟨q, 2, none⟩ : Addr)) = (some (Value.slice o208 n209 n210))) ∧
(∃ a211 : Addr, ((o208 = (some a211)) ∧
((((0 : Int) ≤ x183) ∧
(x183 < ((n209 : Nat) : Int))) ∧
((Nf.There w182 (Addr.add a211 ((x183).toNat * 1)) 1) ∧
(∀ w212 : World, ((w212 = (Nf.setCells w182 (Addr.add a211 ((x183).toNat * 1)) [(Value.int IntKind.i64 start)] 0)) →
(R (Ending.returned (Value.tuple #[])) w212))))))))))))))))))) ∧
(((decide (x183 ≥ 0)) = false) →
(∃ o215 : Option Addr, (∃ n216 : Nat, (∃ n217 : Nat, (((w182.cell? (⟨q, 2, none⟩ : Addr)) = (some (Value.slice o215 n216 n217))) ∧
(∃ a218 : Addr, ((o215 = (some a218)) ∧
((((0 : Int) ≤ x183) ∧
(x183 < ((n216 : Nat) : Int))) ∧
((Nf.There w182 (Addr.add a218 ((x183).toNat * 1)) 1) ∧
(∀ w219 : World, ((w219 = (Nf.setCells w182 (Addr.add a218 ((x183).toNat * 1)) [(Value.int IntKind.i64 start)] 0)) →
(R (Ending.returned (Value.tuple #[])) w219))))))))))))))))))))) ∧
(((decide (x176 < 0)) = false) →
(∃ o222 : Option Addr, (∃ n223 : Nat, (∃ n224 : Nat, (((w170.cell? (⟨q, 2, none⟩ : Addr)) = (some (Value.slice o222 n223 n224))) ∧
(∃ a225 : Addr, ((o222 = (some a225)) ∧
((((0 : Int) ≤ x49) ∧
(x49 < ((n223 : Nat) : Int))) ∧
(∃ x226 : Int, (((w170.cell? (Addr.add a225 ((x49).toNat * 1))) = (some (Value.int IntKind.i64 x226))) ∧
(∃ n227 : Nat, ((n227 < n37) ∧
(k35 n227 x226 x49 w170))))))))))))))))))))))))))))))))))))))))))))))))))))))))))))))))))))))))))))))))))))))))))))))))))))))))))))))))))))) :
    Calls Try.prog 54 #[(.pointer (some ⟨q, 0, none⟩)), (.int .i64 start)] w R :=
  calls_of_vc an54 Try.func54 rfl (by kernel_rfl) (by kernel_rfl) (Eq.mp (by kernel_rfl) h)

/-- (*samaritan/assignment.square).advance -/
def an55 : An := (.seq (.reg []) (.seq (.reg [(4, 1, false)]) (.seq (.seq (.reg []) (.blk (.loop [(24, .int .i64)] (.seq (.reg [(0, 0, true)]) (.seq (.cond .nil .nil) (.seq (.blk (.seq (.reg []) (.reg []))) (.reg []))))))) (.seq (.reg []) (.seq (.blk (.loop [(7, .slice)] (.seq (.seq (.reg [(2, 0, true)]) (.cond .nil .nil)) (.blk (.seq (.reg []) (.seq (.reg [(1, 2, false)]) (.seq (.reg []) (.blk (.loop [(7, .slice), (45, .int .i64)] (.seq (.reg [(0, 0, true)]) (.seq (.cond .nil .nil) (.seq (.blk (.seq (.reg []) (.seq (.seq (.reg [(2, 0, true), (8, 0, true), (19, 0, true)]) (.cond .nil .nil)) (.seq (.reg [(9, 0, true)]) (.cond (.seq (.reg []) (.reg [(3, 1, false)])) .nil))))) (.reg []))))))))))))) (.seq (.reg []) (.blk (.loop [(89, .int .i64)] (.seq (.reg [(0, 0, true)]) (.seq (.cond .nil .nil) (.seq (.blk (.seq (.reg []) (.seq (.seq (.reg [(4, 0, true), (9, 0, true)]) (.cond .nil .nil)) (.seq (.reg []) .nil)))) (.reg []))))))))))))
set_option maxRecDepth 100000 in
theorem nf55 (q : Nat) (row : Int) (w : World) (R : Ending → World → Prop) (h :
(∃ o1 : Option Addr, (∃ n2 : Nat, (∃ n3 : Nat, (((w.cell? (⟨q, 2, none⟩ : Addr)) = (some (Value.slice o1 n2 n3))) ∧
(Calls Try.prog 72 #[(Value.slice o1 n2 n3), (Value.int IntKind.i64 row)] w (fun (e4 : Ending) => (fun (w5 : World) => (∃ x6 : Int, ((e4 = (Ending.returned (Value.int IntKind.i64 x6))) ∧
(∃ x7 : Int, (((w5.cell? (⟨q, 1, none⟩ : Addr)) = (some (Value.int IntKind.i64 x7))) ∧
(RunOk Try.prog (Nf.Hold (Instr.makeSlice 31 (Value.int IntKind.i64 x7) (Value.int IntKind.i64 x7))) w5 (fun (v8 : Value) => (fun (w9 : World) => (∃ o10 : Option Addr, (∃ n11 : Nat, (∃ n12 : Nat, ((v8 = (Value.slice o10 n11 n12)) ∧
(∃ k13 : (Nat → (Int → (World → Prop))), ((∃ n14 : Nat, (k13 n14 0 w9)) ∧
(∀ n15 : Nat, ((Nat → Value) →
(∀ w17 : World, (∀ x18 : Int, ((k13 n15 x18 w17) →
((((decide (x18 < ((n11 : Nat) : Int))) = true) →
(∃ a21 : Addr, ((o10 = (some a21)) ∧
((((0 : Int) ≤ x18) ∧
(x18 < ((n11 : Nat) : Int))) ∧
((Nf.There w17 (Addr.add a21 ((x18).toNat * 1)) 1) ∧
(∀ w22 : World, ((w22 = (Nf.setCells w17 (Addr.add a21 ((x18).toNat * 1)) [(Value.int IntKind.i64 (-1))] 0)) →
(∃ n24 : Nat, ((n24 < n15) ∧
(k13 n24 (IntKind.wrap IntKind.i64 (x18 + 1)) w22)))))))))) ∧
(((decide (x18 < ((n11 : Nat) : Int))) = false) →
(∀ w26 : World, ((w26 = (w17.alloc (Obj.cells #[(Value.int IntKind.i64 x6)] 3 (0, 0)))) →
(∃ k28 : (Nat → (Option Addr → (Nat → (Nat → (World → Prop))))), ((∃ n29 : Nat, (k28 n29 (some (⟨(hs w17), 0, none⟩ : Addr)) 1 1 w26)) ∧
(∀ n30 : Nat, ((Nat → Value) →
(∀ w32 : World, (∀ o33 : Option Addr, (∀ n34 : Nat, (∀ n35 : Nat, ((k28 n30 o33 n34 n35 w32) →
((((decide (((n34 : Nat) : Int) > 0)) = true) →
(∃ a38 : Addr, ((o33 = (some a38)) ∧
((((0 : Int) ≤ 0) ∧
((0 : Int) < ((n34 : Nat) : Int))) ∧
(∃ x39 : Int, (((w32.cell? a38) = (some (Value.int IntKind.i64 x39))) ∧
((((0 : Int) ≤ 1) ∧
((1 : Int) ≤ ((n34 : Nat) : Int))) ∧
(∃ x40 : Int, (((w32.cell? (⟨q, 1, none⟩ : Addr)) = (some (Value.int IntKind.i64 x40))) ∧
(∃ k41 : (Nat → (Option Addr → (Nat → (Nat → (Int → (World → Prop)))))), ((∃ n42 : Nat, (k41 n42 (if (n35 = ((1 : Int)).toNat) then o33 else (Option.map (fun (x : Addr) => (Addr.add x 1)) o33)) (n34 - 1) (n35 - 1) 0 w32)) ∧
(∀ n43 : Nat, ((Nat → Value) →
(∀ w45 : World, (∀ o46 : Option Addr, (∀ n47 : Nat, (∀ n48 : Nat, (∀ x49 : Int, ((k41 n43 o46 n47 n48 x49 w45) →
((((decide (x49 < x40)) = true) →
((((decide (x49 = x6)) = true) →
(∃ n53 : Nat, ((n53 < n43) ∧
(k41 n53 o46 n47 n48 (IntKind.wrap IntKind.i64 (x49 + 1)) w45)))) ∧
(((decide (x49 = x6)) = false) →
(∃ a55 : Addr, ((o10 = (some a55)) ∧
((((0 : Int) ≤ x49) ∧
(x49 < ((n11 : Nat) : Int))) ∧
(∃ x56 : Int, (((w45.cell? (Addr.add a55 ((x49).toNat * 1))) = (some (Value.int IntKind.i64 x56))) ∧
((((decide (x56 ≥ 0)) = true) →
(∃ n58 : Nat, ((n58 < n43) ∧
(k41 n58 o46 n47 n48 (IntKind.wrap IntKind.i64 (x49 + 1)) w45)))) ∧
(((decide (x56 ≥ 0)) = false) →
(∃ o60 : Option Addr, (∃ n61 : Nat, (∃ n62 : Nat, (((w45.cell? (⟨q, 2, none⟩ : Addr)) = (some (Value.slice o60 n61 n62))) ∧
(∃ a63 : Addr, ((o60 = (some a63)) ∧
((((0 : Int) ≤ x49) ∧
(x49 < ((n61 : Nat) : Int))) ∧
(∃ x64 : Int, (((w45.cell? (Addr.add a63 ((x49).toNat * 1))) = (some (Value.int IntKind.i64 x64))) ∧
((((decide (x64 ≤ row)) = true) →
(∃ n66 : Nat, ((n66 < n43) ∧
(k41 n66 o46 n47 n48 (IntKind.wrap IntKind.i64 (x49 + 1)) w45)))) ∧
(((decide (x64 ≤ row)) = false) →
(∃ o68 : Option Addr, (∃ n69 : Nat, (∃ n70 : Nat, (((w45.cell? (⟨q, 2, none⟩ : Addr)) = (some (Value.slice o68 n69 n70))) ∧
(∃ a71 : Addr, ((o68 = (some a71)) ∧
((((0 : Int) ≤ x49) ∧
(x49 < ((n69 : Nat) : Int))) ∧
(∃ x72 : Int, (((w45.cell? (Addr.add a71 ((x49).toNat * 1))) = (some (Value.int IntKind.i64 x72))) ∧
(Calls Try.prog 73 #[(Value.pointer (some (⟨q, 0, none⟩ : Addr))), (Value.int IntKind.i64 x72), (Value.int IntKind.i64 x39)] w45 (fun (e73 : Ending) => (fun (w74 : World) => (∃ b75 : Bool, ((e73 = (Ending.returned (Value.bool b75))) ∧
(((b75 = true) →
(∃ a77 : Addr, ((o10 = (some a77)) ∧
((((0 : Int) ≤ x49) ∧
(x49 < ((n11 : Nat) : Int))) ∧
((Nf.There w74 (Addr.add a77 ((x49).toNat * 1)) 1) ∧
(∀ w78 : World, ((w78 = (Nf.setCells w74 (Addr.add a77 ((x49).toNat * 1)) [(Value.int IntKind.i64 x39)] 0)) →
(∀ w80 : World, ((w80 = (w78.alloc (Obj.cells #[(Value.int IntKind.i64 x49)] 3 (0, 0)))) →
(RunOk Try.prog (Nf.Hold (Builtin.append_ #[31, 31] 31 #[(Value.slice o46 n47 n48), (Value.slice (some (⟨(hs w78), 0, none⟩ : Addr)) 1 1)])) w80 (fun (v82 : Value) => (fun (w83 : World) => (∃ o84 : Option Addr, (∃ n85 : Nat, (∃ n86 : Nat, ((v82 = (Value.slice o84 n85 n86)) ∧
(∃ n87 : Nat, ((n87 < n43) ∧
(k41 n87 o84 n85 n86 (IntKind.wrap IntKind.i64 (x49 + 1)) w83))))))))))))))))))) ∧
((b75 = false) →
(∃ n89 : Nat, ((n89 < n43) ∧
(k41 n89 o46 n47 n48 (IntKind.wrap IntKind.i64 (x49 + 1)) w74)))))))))))))))))))))))))))))))))))))))) ∧
(((decide (x49 < x40)) = false) →
(∃ n91 : Nat, ((n91 < n30) ∧
(k28 n91 o46 n47 n48 w45)))))))))))))))))))))))) ∧
(((decide (((n34 : Nat) : Int) > 0)) = false) →
(∃ k93 : (Nat → (Int → (World → Prop))), ((∃ n94 : Nat, (k93 n94 0 w32)) ∧
(∀ n95 : Nat, ((Nat → Value) →
(∀ w97 : World, (∀ x98 : Int, ((k93 n95 x98 w97) →
((((decide (x98 < x6)) = true) →
(∃ a101 : Addr, ((o10 = (some a101)) ∧
((((0 : Int) ≤ x98) ∧
(x98 < ((n11 : Nat) : Int))) ∧
(∃ x102 : Int, (((w97.cell? (Addr.add a101 ((x98).toNat * 1))) = (some (Value.int IntKind.i64 x102))) ∧
((((decide (x102 < 0)) = true) →
(∃ n104 : Nat, ((n104 < n95) ∧
(k93 n104 (IntKind.wrap IntKind.i64 (x98 + 1)) w97)))) ∧
(((decide (x102 < 0)) = false) →
(Calls Try.prog 73 #[(Value.pointer (some (⟨q, 0, none⟩ : Addr))), (Value.int IntKind.i64 row), (Value.int IntKind.i64 x98)] w97 (fun (e106 : Ending) => (fun (w107 : World) => (∃ b108 : Bool, ((e106 = (Ending.returned (Value.bool b108))) ∧
(((b108 = true) →
(Calls Try.prog 74 #[(Value.pointer (some (⟨q, 0, none⟩ : Addr))), (Value.int IntKind.i64 row), (Value.int IntKind.i64 x98), (Value.slice o10 n11 n12)] w107 (fun (e110 : Ending) => (fun (w111 : World) => ((e110 = (Ending.returned (Value.tuple #[]))) ∧
(R (Ending.returned (Value.tuple #[])) w111)))))) ∧
((b108 = false) →
(∃ n113 : Nat, ((n113 < n95) ∧
(k93 n113 (IntKind.wrap IntKind.i64 (x98 + 1)) w107)))))))))))))))))) ∧
(((decide (x98 < x6)) = false) →
(R (Ending.returned (Value.tuple #[])) w97))))))))))))))))))))))))))))))))))))))))))))))))))) :
    Calls Try.prog 55 #[(.pointer (some ⟨q, 0, none⟩)), (.int .i64 row)] w R :=
  calls_of_vc an55 Try.func55 rfl (by kernel_rfl) (by kernel_rfl) (Eq.mp (by kernel_rfl) h)

/-- samaritan/assignment.solve -/
def an33 : An := (.seq (.reg []) (.seq (.reg []) (.seq (.seq (.reg [(1, 2, false)]) (.blk (.loop [(21, .int .i64)] (.seq (.reg [(0, 0, true)]) (.seq (.cond .nil .nil) (.seq (.blk (.seq (.reg []) (.reg []))) (.reg []))))))) (.seq (.seq (.reg []) (.blk (.loop [(30, .int .i64)] (.seq (.reg [(0, 0, true)]) (.seq (.cond .nil .nil) (.seq (.blk (.seq (.reg []) (.reg []))) (.reg []))))))) (.seq (.reg [(2, 1, false)]) (.seq (.reg []) (.seq (.seq (.reg []) (.blk (.loop [(42, .int .i64)] (.seq (.reg [(0, 0, true)]) (.seq (.cond .nil .nil) (.seq (.blk (.seq (.reg []) (.reg []))) (.reg []))))))) (.seq (.seq (.reg []) (.blk (.loop [(10, .int .i64), (50, .int .i64)] (.seq (.reg [(0, 0, true)]) (.seq (.cond .nil .nil) (.seq (.blk (.seq (.reg []) (.seq (.reg [(1, 2, false)]) (.seq (.reg [(1, 0, true), (6, 0, true)]) (.cond (.seq (.reg []) (.reg [])) .nil))))) (.reg []))))))) (.seq (.reg []) .nil)))))))))
set_option maxRecDepth 100000 in
theorem nf33 (cost : Option Addr) (cost_n : Nat) (cost_c : Nat) (columns : Int) (w : World) (R : Ending → World → Prop) (h :
(Calls Try.prog 53 #[(Value.slice cost cost_n cost_c), (Value.int IntKind.i64 columns)] w (fun (e1 : Ending) => (fun (w2 : World) => (∃ o3 : Option Addr, ((e1 = (Ending.returned (Value.pointer o3))) ∧
(∃ a4 : Addr, ((o3 = (some a4)) ∧
(∃ x5 : Int, (((w2.cell? (Addr.add a4 1)) = (some (Value.int IntKind.i64 x5))) ∧
(∃ k6 : (Nat → (Int → (World → Prop))), ((∃ n7 : Nat, (k6 n7 0 w2)) ∧
(∀ n8 : Nat, ((Nat → Value) →
(∀ w10 : World, (∀ x11 : Int, ((k6 n8 x11 w10) →
((((decide (x11 < x5)) = true) →
(Calls Try.prog 54 #[(Value.pointer o3), (Value.int IntKind.i64 x11)] w10 (fun (e14 : Ending) => (fun (w15 : World) => ((e14 = (Ending.returned (Value.tuple #[]))) ∧
(∃ n16 : Nat, ((n16 < n8) ∧
(k6 n16 (IntKind.wrap IntKind.i64 (x11 + 1)) w15)))))))) ∧
(((decide (x11 < x5)) = false) →
(∃ k18 : (Nat → (Int → (World → Prop))), ((∃ n19 : Nat, (k18 n19 0 w10)) ∧
(∀ n20 : Nat, ((Nat → Value) →
(∀ w22 : World, (∀ x23 : Int, ((k18 n20 x23 w22) →
((((decide (x23 < ((cost_n : Nat) : Int))) = true) →
(Calls Try.prog 55 #[(Value.pointer o3), (Value.int IntKind.i64 x23)] w22 (fun (e26 : Ending) => (fun (w27 : World) => ((e26 = (Ending.returned (Value.tuple #[]))) ∧
(∃ n28 : Nat, ((n28 < n20) ∧
(k18 n28 (IntKind.wrap IntKind.i64 (x23 + 1)) w27)))))))) ∧
(((decide (x23 < ((cost_n : Nat) : Int))) = false) →
(RunOk Try.prog (Nf.Hold (Instr.makeSlice 31 (Value.int IntKind.i64 ((cost_n : Nat) : Int)) (Value.int IntKind.i64 ((cost_n : Nat) : Int)))) w22 (fun (v30 : Value) => (fun (w31 : World) => (∃ o32 : Option Addr, (∃ n33 : Nat, (∃ n34 : Nat, ((v30 = (Value.slice o32 n33 n34)) ∧
(∃ k35 : (Nat → (Int → (World → Prop))), ((∃ n36 : Nat, (k35 n36 0 w31)) ∧
(∀ n37 : Nat, ((Nat → Value) →
(∀ w39 : World, (∀ x40 : Int, ((k35 n37 x40 w39) →
((((decide (x40 < ((n33 : Nat) : Int))) = true) →
(∃ a43 : Addr, ((o32 = (some a43)) ∧
((((0 : Int) ≤ x40) ∧
(x40 < ((n33 : Nat) : Int))) ∧
((Nf.There w39 (Addr.add a43 ((x40).toNat * 1)) 1) ∧
(∀ w44 : World, ((w44 = (Nf.setCells w39 (Addr.add a43 ((x40).toNat * 1)) [(Value.int IntKind.i64 (-1))] 0)) →
(∃ n46 : Nat, ((n46 < n37) ∧
(k35 n46 (IntKind.wrap IntKind.i64 (x40 + 1)) w44)))))))))) ∧
(((decide (x40 < ((n33 : Nat) : Int))) = false) →
(∃ k48 : (Nat → (Int → (Int → (World → Prop)))), ((∃ n49 : Nat, (k48 n49 0 0 w39)) ∧
(∀ n50 : Nat, ((Nat → Value) →
(∀ w52 : World, (∀ x53 : Int, (∀ x54 : Int, ((k48 n50 x53 x54 w52) →
((((decide (x54 < columns)) = true) →
(∃ a57 : Addr, ((o3 = (some a57)) ∧
(∃ o58 : Option Addr, (∃ n59 : Nat, (∃ n60 : Nat, (((w52.cell? (Addr.add a57 2)) = (some (Value.slice o58 n59 n60))) ∧
(∃ a61 : Addr, ((o58 = (some a61)) ∧
((((0 : Int) ≤ x54) ∧
(x54 < ((n59 : Nat) : Int))) ∧
(∃ x62 : Int, (((w52.cell? (Addr.add a61 ((x54).toNat * 1))) = (some (Value.int IntKind.i64 x62))) ∧
((((decide (x62 ≥ 0)) = true) →
((((decide (x62 < ((cost_n : Nat) : Int))) = true) →
(∃ a65 : Addr, ((o32 = (some a65)) ∧
((((0 : Int) ≤ x62) ∧
(x62 < ((n33 : Nat) : Int))) ∧
((Nf.There w52 (Addr.add a65 ((x62).toNat * 1)) 1) ∧
(∀ w66 : World, ((w66 = (Nf.setCells w52 (Addr.add a65 ((x62).toNat * 1)) [(Value.int IntKind.i64 x54)] 0)) →
(∃ a68 : Addr, ((cost = (some a68)) ∧
((((0 : Int) ≤ x62) ∧
(x62 < ((cost_n : Nat) : Int))) ∧
(∃ o69 : Option Addr, (∃ n70 : Nat, (∃ n71 : Nat, (((w66.cell? (Addr.add a68 ((x62).toNat * 1))) = (some (Value.slice o69 n70 n71))) ∧
(∃ a72 : Addr, ((o69 = (some a72)) ∧
((((0 : Int) ≤ x54) ∧
(x54 < ((n70 : Nat) : Int))) ∧
(∃ x73 : Int, (((w66.cell? (Addr.add a72 ((x54).toNat * 1))) = (some (Value.int IntKind.i64 x73))) ∧
(∃ n74 : Nat, ((n74 < n50) ∧
(k48 n74 (IntKind.wrap IntKind.i64 (x53 + x73)) (IntKind.wrap IntKind.i64 (x54 + 1)) w66)))))))))))))))))))))) ∧
(((decide (x62 < ((cost_n : Nat) : Int))) = false) →
(∃ n76 : Nat, ((n76 < n50) ∧
(k48 n76 x53 (IntKind.wrap IntKind.i64 (x54 + 1)) w52)))))) ∧
(((decide (x62 ≥ 0)) = false) →
(∃ n78 : Nat, ((n78 < n50) ∧
(k48 n78 x53 (IntKind.wrap IntKind.i64 (x54 + 1)) w52))))))))))))))))) ∧
(((decide (x54 < columns)) = false) →
(R (Ending.returned (Value.tuple #[(Value.slice o32 n33 n34), (Value.int IntKind.i64 x53)])) w52))))))))))))))))))))))))))))))))))))))))))))))))))))))) :
    Calls Try.prog 33 #[(.slice cost cost_n cost_c), (.int .i64 columns)] w R :=
  calls_of_vc an33 Try.func33 rfl (by kernel_rfl) (by kernel_rfl) (Eq.mp (by kernel_rfl) h)

/-- samaritan/assignment.Solve -/
def an14 : An := (.seq (.reg []) (.seq (.reg []) (.seq (.seq (.reg [(1, 0, true)]) (.cond (.seq (.reg []) .nil) .nil)) (.seq (.reg []) (.seq (.reg []) .nil)))))
set_option maxRecDepth 100000 in
theorem nf14 (cost : Option Addr) (cost_n : Nat) (cost_c : Nat) (w : World) (R : Ending → World → Prop) (h :
(Calls Try.prog 32 #[(Value.slice cost cost_n cost_c)] w (fun (e1 : Ending) => (fun (w2 : World) => (∃ x3 : Int, (∃ x4 : Int, ((e1 = (Ending.returned (Value.tuple #[(Value.int IntKind.i64 x3), (Value.int IntKind.i64 x4)]))) ∧
((((!(decide (x4 = 0))) = true) →
(R (Ending.returned (Value.tuple #[(Value.slice none 0 0), (Value.int IntKind.i64 0), (Value.int IntKind.i64 x4)])) w2)) ∧
(((!(decide (x4 = 0))) = false) →
(Calls Try.prog 33 #[(Value.slice cost cost_n cost_c), (Value.int IntKind.i64 x3)] w2 (fun (e7 : Ending) => (fun (w8 : World) => (∃ o9 : Option Addr, (∃ n10 : Nat, (∃ n11 : Nat, (∃ x12 : Int, ((e7 = (Ending.returned (Value.tuple #[(Value.slice o9 n10 n11), (Value.int IntKind.i64 x12)]))) ∧
(R (Ending.returned (Value.tuple #[(Value.slice o9 n10 n11), (Value.int IntKind.i64 x12), (Value.int IntKind.i64 0)])) w8)))))))))))))))))) :
    Calls Try.prog 14 #[(.slice cost cost_n cost_c)] w R :=
  calls_of_vc an14 Try.func14 rfl (by kernel_rfl) (by kernel_rfl) (Eq.mp (by kernel_rfl) h)

end Go.Proofs.Ytcaokpglbolkcaa
