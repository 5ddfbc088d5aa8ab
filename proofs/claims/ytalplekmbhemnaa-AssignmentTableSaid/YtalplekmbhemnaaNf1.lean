/- The contracts' premises: for each function, the proposition that its body comes to (printed by the tool of wip/nf). -/
import Derived.Test.YtalplekmbhemnaaRows
import Derived.Test.YtalplekmbhemnaaNfD
namespace Go.Proofs.Ytalplekmbhemnaa
open Go Go.Nf

/-- samaritan/assignment.isCost -/
def an20 : An := (.seq (.reg []) (.seq (.reg [(1, 0, true), (4, 0, true), (8, 0, true)]) .nil))
set_option maxRecDepth 100000 in
theorem nf20 (c : Int) (w : World) (R : Ending → World → Prop) (h :
((((decide (c ≥ 0)) = true) →
((((decide (c ≤ 1099511627776)) = true) →
(R (Ending.returned (Value.bool true)) w)) ∧
(((decide (c ≤ 1099511627776)) = false) →
((((decide (c = 4611686018427387904)) = true) →
(R (Ending.returned (Value.bool true)) w)) ∧
(((decide (c = 4611686018427387904)) = false) →
(R (Ending.returned (Value.bool false)) w)))))) ∧
(((decide (c ≥ 0)) = false) →
((((decide (c = 4611686018427387904)) = true) →
(R (Ending.returned (Value.bool true)) w)) ∧
(((decide (c = 4611686018427387904)) = false) →
(R (Ending.returned (Value.bool false)) w)))))) :
    Calls Try.prog 20 #[(.int .i64 c)] w R :=
  calls_of_vc an20 Try.func20 rfl (by kernel_rfl) (by kernel_rfl) (Eq.mp (by kernel_rfl) h)

/-- slices.Index[[]int,int] -/
def an26 : An := (.seq (.reg []) (.seq (.seq (.reg []) (.blk (.loop [(8, .int .i64)] (.seq (.reg [(0, 0, true)]) (.seq (.cond .nil .nil) (.seq (.blk (.seq (.reg []) (.seq (.reg [(5, 0, true)]) (.cond (.seq (.reg []) .nil) .nil)))) (.reg []))))))) (.seq (.reg []) .nil)))
set_option maxRecDepth 100000 in
theorem nf26 (s : Option Addr) (s_n : Nat) (s_c : Nat) (v : Int) (w : World) (R : Ending → World → Prop) (h :
(∃ k1 : (Nat → (Int → (World → Prop))), ((∃ n2 : Nat, (k1 n2 0 w)) ∧
(∀ n3 : Nat, ((Nat → Value) →
(∀ w5 : World, (∀ x6 : Int, ((k1 n3 x6 w5) →
((((decide (x6 < ((s_n : Nat) : Int))) = true) →
(∃ a9 : Addr, ((s = (some a9)) ∧
((((0 : Int) ≤ x6) ∧
(x6 < ((s_n : Nat) : Int))) ∧
(∃ x10 : Int, (((w5.cell? (Addr.add a9 ((x6).toNat * 1))) = (some (Value.int IntKind.i64 x10))) ∧
((((decide (v = x10)) = true) →
(R (Ending.returned (Value.int IntKind.i64 x6)) w5)) ∧
(((decide (v = x10)) = false) →
(∃ n13 : Nat, ((n13 < n3) ∧
(k1 n13 (IntKind.wrap IntKind.i64 (x6 + 1)) w5))))))))))) ∧
(((decide (x6 < ((s_n : Nat) : Int))) = false) →
(R (Ending.returned (Value.int IntKind.i64 (-1))) w5))))))))))) :
    Calls Try.prog 26 #[(.slice s s_n s_c), (.int .i64 v)] w R :=
  calls_of_vc an26 Try.func26 rfl (by kernel_rfl) (by kernel_rfl) (Eq.mp (by kernel_rfl) h)

/-- (*samaritan/assignment.square).tight -/
def an27 : An := (.seq (.reg []) (.seq (.regD [(10, 0, true), (37, 0, true)] [0, 1, 2, 3, 4, 5, 6, 7, 8, 9, 10, 11, 12, 13, 14, 15, 16, 17, 18, 19, 20, 21, 22, 23, 24, 25, 26, 27, 28, 29, 30, 31, 32, 33, 34, 35, 36, 37, 38, 39] []) .nil))
set_option maxRecDepth 100000 in
theorem nf27 (q : Nat) (i : Int) (j : Int) (w : World) (R : Ending → World → Prop) (h :
(∀ w1 : World, ((w1 = w.drew) →
(∃ o3 : Option Addr, (∃ n4 : Nat, (∃ n5 : Nat, (((w1.cell? (⟨q, 0, none⟩ : Addr)) = (some (Value.slice o3 n4 n5))) ∧
(∃ a6 : Addr, ((o3 = (some a6)) ∧
((((0 : Int) ≤ i) ∧
(i < ((n4 : Nat) : Int))) ∧
(∃ o7 : Option Addr, (∃ n8 : Nat, (∃ n9 : Nat, (((w1.cell? (Addr.add a6 ((i).toNat * 1))) = (some (Value.slice o7 n8 n9))) ∧
(∃ a10 : Addr, ((o7 = (some a10)) ∧
((((0 : Int) ≤ j) ∧
(j < ((n8 : Nat) : Int))) ∧
(∃ x11 : Int, (((w1.cell? (Addr.add a10 ((j).toNat * 1))) = (some (Value.int IntKind.i64 x11))) ∧
((((!(decide (x11 = 4611686018427387904))) = true) →
(∃ o13 : Option Addr, (∃ n14 : Nat, (∃ n15 : Nat, (((w1.cell? (⟨q, 0, none⟩ : Addr)) = (some (Value.slice o13 n14 n15))) ∧
(∃ a16 : Addr, ((o13 = (some a16)) ∧
((((0 : Int) ≤ i) ∧
(i < ((n14 : Nat) : Int))) ∧
(∃ o17 : Option Addr, (∃ n18 : Nat, (∃ n19 : Nat, (((w1.cell? (Addr.add a16 ((i).toNat * 1))) = (some (Value.slice o17 n18 n19))) ∧
(∃ a20 : Addr, ((o17 = (some a20)) ∧
((((0 : Int) ≤ j) ∧
(j < ((n18 : Nat) : Int))) ∧
(∃ x21 : Int, (((w1.cell? (Addr.add a20 ((j).toNat * 1))) = (some (Value.int IntKind.i64 x21))) ∧
(∃ o22 : Option Addr, (∃ n23 : Nat, (∃ n24 : Nat, (((w1.cell? (⟨q, 3, none⟩ : Addr)) = (some (Value.slice o22 n23 n24))) ∧
(∃ a25 : Addr, ((o22 = (some a25)) ∧
((((0 : Int) ≤ i) ∧
(i < ((n23 : Nat) : Int))) ∧
(∃ x26 : Int, (((w1.cell? (Addr.add a25 ((i).toNat * 1))) = (some (Value.int IntKind.i64 x26))) ∧
(∃ o27 : Option Addr, (∃ n28 : Nat, (∃ n29 : Nat, (((w1.cell? (⟨q, 4, none⟩ : Addr)) = (some (Value.slice o27 n28 n29))) ∧
(∃ a30 : Addr, ((o27 = (some a30)) ∧
((((0 : Int) ≤ j) ∧
(j < ((n28 : Nat) : Int))) ∧
(∃ x31 : Int, (((w1.cell? (Addr.add a30 ((j).toNat * 1))) = (some (Value.int IntKind.i64 x31))) ∧
((((decide (x21 = (IntKind.wrap IntKind.i64 (x26 + x31)))) = true) →
(R (Ending.returned (Value.bool true)) w1)) ∧
(((decide (x21 = (IntKind.wrap IntKind.i64 (x26 + x31)))) = false) →
(R (Ending.returned (Value.bool false)) w1)))))))))))))))))))))))))))))))))))))) ∧
(((!(decide (x11 = 4611686018427387904))) = false) →
(R (Ending.returned (Value.bool false)) w1)))))))))))))))))))))) :
    Calls Try.prog 27 #[(.pointer (some ⟨q, 0, none⟩)), (.int .i64 i), (.int .i64 j)] w R :=
  calls_of_vc an27 Try.func27 rfl (by kernel_rfl) (by kernel_rfl) (Eq.mp (by kernel_rfl) h)

/-- (*samaritan/assignment.square).shift -/
def an28 : An := (.blk (.loop [(1, .int .i64), (2, .int .i64)] (.seq (.seq (.reg [(1, 0, true)]) (.cond .nil .nil)) (.blk (.seq (.regD [] [0, 1, 2, 3, 4, 5, 6, 7, 8, 9, 10, 11, 12, 13, 14, 15] [14]) (.reg []))))))
set_option maxRecDepth 100000 in
theorem nf28 (q : Nat) (row : Int) (column : Int) (toward : Option Addr) (toward_n : Nat) (toward_c : Nat) (w : World) (R : Ending → World → Prop) (h :
(∃ k1 : (Nat → (Int → (Int → (World → Prop)))), ((∃ n2 : Nat, (k1 n2 row column w)) ∧
(∀ n3 : Nat, ((Nat → Value) →
(∀ w5 : World, (∀ x6 : Int, (∀ x7 : Int, ((k1 n3 x6 x7 w5) →
((((decide (x7 ≥ 0)) = true) →
(∀ w10 : World, ((w10 = w5.drew) →
(∃ o12 : Option Addr, (∃ n13 : Nat, (∃ n14 : Nat, (((w10.cell? (⟨q, 2, none⟩ : Addr)) = (some (Value.slice o12 n13 n14))) ∧
(∃ o15 : Option Addr, (∃ n16 : Nat, (∃ n17 : Nat, (((w10.cell? (⟨q, 2, none⟩ : Addr)) = (some (Value.slice o15 n16 n17))) ∧
(∃ a18 : Addr, ((o15 = (some a18)) ∧
((((0 : Int) ≤ x7) ∧
(x7 < ((n16 : Nat) : Int))) ∧
(∃ x19 : Int, (((w10.cell? (Addr.add a18 ((x7).toNat * 1))) = (some (Value.int IntKind.i64 x19))) ∧
(∃ a20 : Addr, ((o12 = (some a20)) ∧
((((0 : Int) ≤ x7) ∧
(x7 < ((n13 : Nat) : Int))) ∧
((Nf.There w10 (Addr.add a20 ((x7).toNat * 1)) 1) ∧
(∀ w21 : World, ((w21 = (Nf.setCells w10 (Addr.add a20 ((x7).toNat * 1)) [(Value.int IntKind.i64 x6)] 0)) →
(∃ a23 : Addr, ((toward = (some a23)) ∧
((((0 : Int) ≤ x7) ∧
(x7 < ((toward_n : Nat) : Int))) ∧
(∃ x24 : Int, (((w21.cell? (Addr.add a23 ((x7).toNat * 1))) = (some (Value.int IntKind.i64 x24))) ∧
(∃ n25 : Nat, ((n25 < n3) ∧
(k1 n25 x19 x24 w21)))))))))))))))))))))))))))))) ∧
(((decide (x7 ≥ 0)) = false) →
(R (Ending.returned (Value.tuple #[])) w5)))))))))))) :
    Calls Try.prog 28 #[(.pointer (some ⟨q, 0, none⟩)), (.int .i64 row), (.int .i64 column), (.slice toward toward_n toward_c)] w R :=
  calls_of_vc an28 Try.func28 rfl (by kernel_rfl) (by kernel_rfl) (Eq.mp (by kernel_rfl) h)

/-- samaritan/assignment.check -/
def an18 : An := (.seq (.reg []) (.seq (.seq (.reg [(2, 0, true)]) (.cond (.seq (.reg []) .nil) .nil)) (.seq (.seq (.reg []) (.blk (.loop [(16, .int .i64)] (.seq (.reg [(0, 0, true)]) (.seq (.cond .nil .nil) (.seq (.blk (.seq (.reg []) (.seq (.reg [(2, 0, true)]) (.cond (.seq (.reg []) .nil) .nil)))) (.reg []))))))) (.seq (.seq (.reg [(2, 0, true)]) (.cond (.seq (.reg []) .nil) .nil)) (.seq (.reg []) (.seq (.seq (.reg []) (.blk (.loop [(33, .int .i64)] (.seq (.reg [(0, 0, true)]) (.seq (.cond .nil .nil) (.seq (.blk (.seq (.reg []) (.seq (.seq (.reg [(3, 0, true)]) (.cond (.seq (.reg []) .nil) .nil)) (.seq (.reg []) (.blk (.loop [(43, .int .i64)] (.seq (.reg [(0, 0, true)]) (.seq (.cond .nil .nil) (.seq (.blk (.seq (.reg []) (.seq (.reg [(1, 0, true)]) (.cond (.seq (.reg []) .nil) .nil)))) (.reg [])))))))))) (.reg []))))))) (.seq (.reg []) .nil)))))))
set_option maxRecDepth 100000 in
theorem nf18 (cost : Option Addr) (cost_n : Nat) (cost_c : Nat) (w : World) (R : Ending → World → Prop) (h :
((((decide (((cost_n : Nat) : Int) > 64)) = true) →
(R (Ending.returned (Value.tuple #[(Value.int IntKind.i64 0), (Value.int IntKind.i64 3)])) w)) ∧
(((decide (((cost_n : Nat) : Int) > 64)) = false) →
(∃ k3 : (Nat → (Int → (World → Prop))), ((∃ n4 : Nat, (k3 n4 0 w)) ∧
(∀ n5 : Nat, ((Nat → Value) →
(∀ w7 : World, (∀ x8 : Int, ((k3 n5 x8 w7) →
((((decide (x8 < ((cost_n : Nat) : Int))) = true) →
(∃ a11 : Addr, ((cost = (some a11)) ∧
((((0 : Int) ≤ x8) ∧
(x8 < ((cost_n : Nat) : Int))) ∧
(∃ o12 : Option Addr, (∃ n13 : Nat, (∃ n14 : Nat, (((w7.cell? (Addr.add a11 ((x8).toNat * 1))) = (some (Value.slice o12 n13 n14))) ∧
((((decide (((n13 : Nat) : Int) > 64)) = true) →
(R (Ending.returned (Value.tuple #[(Value.int IntKind.i64 0), (Value.int IntKind.i64 3)])) w7)) ∧
(((decide (((n13 : Nat) : Int) > 64)) = false) →
(∃ n17 : Nat, ((n17 < n5) ∧
(k3 n17 (IntKind.wrap IntKind.i64 (x8 + 1)) w7))))))))))))) ∧
(((decide (x8 < ((cost_n : Nat) : Int))) = false) →
((((decide (((cost_n : Nat) : Int) = 0)) = true) →
(R (Ending.returned (Value.tuple #[(Value.int IntKind.i64 0), (Value.int IntKind.i64 0)])) w7)) ∧
(((decide (((cost_n : Nat) : Int) = 0)) = false) →
(∃ a21 : Addr, ((cost = (some a21)) ∧
((((0 : Int) ≤ 0) ∧
((0 : Int) < ((cost_n : Nat) : Int))) ∧
(∃ o22 : Option Addr, (∃ n23 : Nat, (∃ n24 : Nat, (((w7.cell? a21) = (some (Value.slice o22 n23 n24))) ∧
(∃ k25 : (Nat → (Int → (World → Prop))), ((∃ n26 : Nat, (k25 n26 0 w7)) ∧
(∀ n27 : Nat, ((Nat → Value) →
(∀ w29 : World, (∀ x30 : Int, ((k25 n27 x30 w29) →
((((decide (x30 < ((cost_n : Nat) : Int))) = true) →
(∃ a33 : Addr, ((cost = (some a33)) ∧
((((0 : Int) ≤ x30) ∧
(x30 < ((cost_n : Nat) : Int))) ∧
(∃ o34 : Option Addr, (∃ n35 : Nat, (∃ n36 : Nat, (((w29.cell? (Addr.add a33 ((x30).toNat * 1))) = (some (Value.slice o34 n35 n36))) ∧
((((!(decide (((n35 : Nat) : Int) = ((n23 : Nat) : Int)))) = true) →
(R (Ending.returned (Value.tuple #[(Value.int IntKind.i64 0), (Value.int IntKind.i64 1)])) w29)) ∧
(((!(decide (((n35 : Nat) : Int) = ((n23 : Nat) : Int)))) = false) →
(∃ k39 : (Nat → (Int → (World → Prop))), ((∃ n40 : Nat, (k39 n40 0 w29)) ∧
(∀ n41 : Nat, ((Nat → Value) →
(∀ w43 : World, (∀ x44 : Int, ((k39 n41 x44 w43) →
((((decide (x44 < ((n35 : Nat) : Int))) = true) →
(∃ a47 : Addr, ((o34 = (some a47)) ∧
((((0 : Int) ≤ x44) ∧
(x44 < ((n35 : Nat) : Int))) ∧
(∃ x48 : Int, (((w43.cell? (Addr.add a47 ((x44).toNat * 1))) = (some (Value.int IntKind.i64 x48))) ∧
(Calls Try.prog 20 #[(Value.int IntKind.i64 x48)] w43 (fun (e49 : Ending) => (fun (w50 : World) => (∃ b51 : Bool, ((e49 = (Ending.returned (Value.bool b51))) ∧
(((b51 = true) →
(∃ n53 : Nat, ((n53 < n41) ∧
(k39 n53 (IntKind.wrap IntKind.i64 (x44 + 1)) w50)))) ∧
((b51 = false) →
(R (Ending.returned (Value.tuple #[(Value.int IntKind.i64 0), (Value.int IntKind.i64 1)])) w50)))))))))))))) ∧
(((decide (x44 < ((n35 : Nat) : Int))) = false) →
(∃ n56 : Nat, ((n56 < n27) ∧
(k25 n56 (IntKind.wrap IntKind.i64 (x30 + 1)) w43)))))))))))))))))))))) ∧
(((decide (x30 < ((cost_n : Nat) : Int))) = false) →
(R (Ending.returned (Value.tuple #[(Value.int IntKind.i64 ((n23 : Nat) : Int)), (Value.int IntKind.i64 0)])) w29))))))))))))))))))))))))))))))) :
    Calls Try.prog 18 #[(.slice cost cost_n cost_c)] w R :=
  calls_of_vc an18 Try.func18 rfl (by kernel_rfl) (by kernel_rfl) (Eq.mp (by kernel_rfl) h)

/-- samaritan/samaritanlaw36.few -/
def an9 : An := (.seq (.reg []) (.seq (.seq (.reg []) (.blk (.loop [(9, .int .i64)] (.seq (.reg [(0, 0, true)]) (.seq (.cond .nil .nil) (.seq (.blk (.seq (.reg []) (.seq (.reg [(2, 0, true)]) (.cond (.seq (.reg []) .nil) .nil)))) (.reg []))))))) (.seq (.reg [(3, 0, true)]) .nil)))
set_option maxRecDepth 100000 in
theorem nf9 (cost : Option Addr) (cost_n : Nat) (cost_c : Nat) (most : Int) (w : World) (R : Ending → World → Prop) (h :
(∃ k1 : (Nat → (Int → (World → Prop))), ((∃ n2 : Nat, (k1 n2 0 w)) ∧
(∀ n3 : Nat, ((Nat → Value) →
(∀ w5 : World, (∀ x6 : Int, ((k1 n3 x6 w5) →
((((decide (x6 < ((cost_n : Nat) : Int))) = true) →
(∃ a9 : Addr, ((cost = (some a9)) ∧
((((0 : Int) ≤ x6) ∧
(x6 < ((cost_n : Nat) : Int))) ∧
(∃ o10 : Option Addr, (∃ n11 : Nat, (∃ n12 : Nat, (((w5.cell? (Addr.add a9 ((x6).toNat * 1))) = (some (Value.slice o10 n11 n12))) ∧
((((decide (((n11 : Nat) : Int) > 70)) = true) →
(R (Ending.returned (Value.bool false)) w5)) ∧
(((decide (((n11 : Nat) : Int) > 70)) = false) →
(∃ n15 : Nat, ((n15 < n3) ∧
(k1 n15 (IntKind.wrap IntKind.i64 (x6 + 1)) w5))))))))))))) ∧
(((decide (x6 < ((cost_n : Nat) : Int))) = false) →
((((decide (((cost_n : Nat) : Int) ≤ most)) = true) →
(R (Ending.returned (Value.bool true)) w5)) ∧
(((decide (((cost_n : Nat) : Int) ≤ most)) = false) →
(R (Ending.returned (Value.bool false)) w5))))))))))))) :
    Calls Try.prog 9 #[(.slice cost cost_n cost_c), (.int .i64 most)] w R :=
  calls_of_vc an9 Try.func9 rfl (by kernel_rfl) (by kernel_rfl) (Eq.mp (by kernel_rfl) h)

/-- samaritan/samaritanref36.Same -/
def an17 : An := (.seq (.reg []) (.seq (.seq (.reg [(4, 0, true)]) (.cond (.seq (.reg []) .nil) .nil)) (.seq (.seq (.reg []) (.blk (.loop [(13, .int .i64)] (.seq (.reg [(0, 0, true)]) (.seq (.cond .nil .nil) (.seq (.blk (.seq (.reg []) (.seq (.regD [(8, 0, true)] [0, 1, 2, 3, 4, 5, 6, 7, 8] []) (.cond (.seq (.reg []) .nil) .nil)))) (.reg []))))))) (.seq (.reg []) .nil))))
set_option maxRecDepth 100000 in
theorem nf17 (a : Option Addr) (a_n : Nat) (a_c : Nat) (b : Option Addr) (b_n : Nat) (b_c : Nat) (w : World) (R : Ending → World → Prop) (h :
((((!(decide (((a_n : Nat) : Int) = ((b_n : Nat) : Int)))) = true) →
(R (Ending.returned (Value.bool false)) w)) ∧
(((!(decide (((a_n : Nat) : Int) = ((b_n : Nat) : Int)))) = false) →
(∃ k3 : (Nat → (Int → (World → Prop))), ((∃ n4 : Nat, (k3 n4 0 w)) ∧
(∀ n5 : Nat, ((Nat → Value) →
(∀ w7 : World, (∀ x8 : Int, ((k3 n5 x8 w7) →
((((decide (x8 < ((a_n : Nat) : Int))) = true) →
(∀ w11 : World, ((w11 = w7.drew) →
(∃ a13 : Addr, ((a = (some a13)) ∧
((((0 : Int) ≤ x8) ∧
(x8 < ((a_n : Nat) : Int))) ∧
(∃ x14 : Int, (((w11.cell? (Addr.add a13 ((x8).toNat * 1))) = (some (Value.int IntKind.i64 x14))) ∧
(∃ a15 : Addr, ((b = (some a15)) ∧
((((0 : Int) ≤ x8) ∧
(x8 < ((b_n : Nat) : Int))) ∧
(∃ x16 : Int, (((w11.cell? (Addr.add a15 ((x8).toNat * 1))) = (some (Value.int IntKind.i64 x16))) ∧
((((!(decide (x14 = x16))) = true) →
(R (Ending.returned (Value.bool false)) w11)) ∧
(((!(decide (x14 = x16))) = false) →
(∃ n19 : Nat, ((n19 < n5) ∧
(k3 n19 (IntKind.wrap IntKind.i64 (x8 + 1)) w11)))))))))))))))))) ∧
(((decide (x8 < ((a_n : Nat) : Int))) = false) →
(R (Ending.returned (Value.bool true)) w7))))))))))))) :
    Calls Try.prog 17 #[(.slice a a_n a_c), (.slice b b_n b_c)] w R :=
  calls_of_vc an17 Try.func17 rfl (by kernel_rfl) (by kernel_rfl) (Eq.mp (by kernel_rfl) h)

/-- samaritan/samaritanref36.ahead -/
def an29 : An := (.seq (.reg []) (.seq (.seq (.reg []) (.blk (.loop [(8, .int .i64)] (.seq (.reg [(0, 0, true)]) (.seq (.cond .nil .nil) (.seq (.blk (.seq (.reg []) (.seq (.regD [(8, 0, true)] [0, 1, 2, 3, 4, 5, 6, 7, 8] []) (.cond (.seq (.regD [(4, 0, true), (10, 0, true), (20, 0, true)] [0, 1, 2, 3, 4, 5, 6, 7, 8, 9, 10, 11, 12, 13, 14, 15, 16, 17, 18, 19, 20, 21, 22, 23] []) .nil) .nil)))) (.reg []))))))) (.seq (.reg []) .nil)))
set_option maxRecDepth 100000 in
theorem nf29 (a : Option Addr) (a_n : Nat) (a_c : Nat) (b : Option Addr) (b_n : Nat) (b_c : Nat) (w : World) (R : Ending → World → Prop) (h :
(∃ k1 : (Nat → (Int → (World → Prop))), ((∃ n2 : Nat, (k1 n2 0 w)) ∧
(∀ n3 : Nat, ((Nat → Value) →
(∀ w5 : World, (∀ x6 : Int, ((k1 n3 x6 w5) →
((((decide (x6 < ((a_n : Nat) : Int))) = true) →
(∀ w9 : World, ((w9 = w5.drew) →
(∃ a11 : Addr, ((a = (some a11)) ∧
((((0 : Int) ≤ x6) ∧
(x6 < ((a_n : Nat) : Int))) ∧
(∃ x12 : Int, (((w9.cell? (Addr.add a11 ((x6).toNat * 1))) = (some (Value.int IntKind.i64 x12))) ∧
(∃ a13 : Addr, ((b = (some a13)) ∧
((((0 : Int) ≤ x6) ∧
(x6 < ((b_n : Nat) : Int))) ∧
(∃ x14 : Int, (((w9.cell? (Addr.add a13 ((x6).toNat * 1))) = (some (Value.int IntKind.i64 x14))) ∧
((((!(decide (x12 = x14))) = true) →
(∀ w16 : World, ((w16 = w9.drew) →
(∃ a18 : Addr, ((a = (some a18)) ∧
((((0 : Int) ≤ x6) ∧
(x6 < ((a_n : Nat) : Int))) ∧
(∃ x19 : Int, (((w16.cell? (Addr.add a18 ((x6).toNat * 1))) = (some (Value.int IntKind.i64 x19))) ∧
((((!(decide (x19 = (-1)))) = true) →
(∃ a21 : Addr, ((b = (some a21)) ∧
((((0 : Int) ≤ x6) ∧
(x6 < ((b_n : Nat) : Int))) ∧
(∃ x22 : Int, (((w16.cell? (Addr.add a21 ((x6).toNat * 1))) = (some (Value.int IntKind.i64 x22))) ∧
((((decide (x22 = (-1))) = true) →
(R (Ending.returned (Value.bool true)) w16)) ∧
(((decide (x22 = (-1))) = false) →
(∃ a25 : Addr, ((a = (some a25)) ∧
((((0 : Int) ≤ x6) ∧
(x6 < ((a_n : Nat) : Int))) ∧
(∃ x26 : Int, (((w16.cell? (Addr.add a25 ((x6).toNat * 1))) = (some (Value.int IntKind.i64 x26))) ∧
(∃ a27 : Addr, ((b = (some a27)) ∧
((((0 : Int) ≤ x6) ∧
(x6 < ((b_n : Nat) : Int))) ∧
(∃ x28 : Int, (((w16.cell? (Addr.add a27 ((x6).toNat * 1))) = (some (Value.int IntKind.i64 x28))) ∧
((((decide (x26 < x28)) = true) →
(R (Ending.returned (Value.bool true)) w16)) ∧
(((decide (x26 < x28)) = false) →
(R (Ending.returned (Value.bool false)) w16))))))))))))))))))))) ∧
(((!(decide (x19 = (-1)))) = false) →
(R (Ending.returned (Value.bool false)) w16))))))))))) ∧
(((!(decide (x12 = x14))) = false) →
(∃ n33 : Nat, ((n33 < n3) ∧
(k1 n33 (IntKind.wrap IntKind.i64 (x6 + 1)) w9)))))))))))))))))) ∧
(((decide (x6 < ((a_n : Nat) : Int))) = false) →
(R (Ending.returned (Value.bool false)) w5))))))))))) :
    Calls Try.prog 29 #[(.slice a a_n a_c), (.slice b b_n b_c)] w R :=
  calls_of_vc an29 Try.func29 rfl (by kernel_rfl) (by kernel_rfl) (Eq.mp (by kernel_rfl) h)

/-- samaritan/samaritanref36.Right -/
def an11 : An := (.seq (.reg []) (.seq (.seq (.reg [(2, 0, true)]) (.cond (.seq (.reg []) .nil) .nil)) (.seq (.seq (.reg []) (.blk (.loop [(14, .int .i64)] (.seq (.reg [(0, 0, true)]) (.seq (.cond .nil .nil) (.seq (.blk (.seq (.reg []) (.seq (.reg [(2, 0, true)]) (.cond (.seq (.reg []) .nil) .nil)))) (.reg []))))))) (.seq (.seq (.reg []) (.blk (.loop [(24, .int .i64)] (.seq (.reg [(0, 0, true)]) (.seq (.cond .nil .nil) (.seq (.blk (.seq (.reg []) (.seq (.seq (.reg [(6, 0, true)]) (.cond (.seq (.reg []) .nil) .nil)) (.seq (.reg []) (.blk (.loop [(37, .int .i64)] (.seq (.reg [(0, 0, true)]) (.seq (.cond .nil .nil) (.seq (.blk (.seq (.reg []) (.seq (.reg [(1, 0, true), (4, 0, true), (8, 0, true)]) (.cond (.seq (.reg []) .nil) .nil)))) (.reg [])))))))))) (.reg []))))))) (.seq (.reg []) .nil)))))
set_option maxRecDepth 100000 in
theorem nf11 (cost : Option Addr) (cost_n : Nat) (cost_c : Nat) (w : World) (R : Ending → World → Prop) (h :
((((decide (((cost_n : Nat) : Int) > 64)) = true) →
(R (Ending.returned (Value.int IntKind.i64 3)) w)) ∧
(((decide (((cost_n : Nat) : Int) > 64)) = false) →
(∃ k3 : (Nat → (Int → (World → Prop))), ((∃ n4 : Nat, (k3 n4 0 w)) ∧
(∀ n5 : Nat, ((Nat → Value) →
(∀ w7 : World, (∀ x8 : Int, ((k3 n5 x8 w7) →
((((decide (x8 < ((cost_n : Nat) : Int))) = true) →
(∃ a11 : Addr, ((cost = (some a11)) ∧
((((0 : Int) ≤ x8) ∧
(x8 < ((cost_n : Nat) : Int))) ∧
(∃ o12 : Option Addr, (∃ n13 : Nat, (∃ n14 : Nat, (((w7.cell? (Addr.add a11 ((x8).toNat * 1))) = (some (Value.slice o12 n13 n14))) ∧
((((decide (((n13 : Nat) : Int) > 64)) = true) →
(R (Ending.returned (Value.int IntKind.i64 3)) w7)) ∧
(((decide (((n13 : Nat) : Int) > 64)) = false) →
(∃ n17 : Nat, ((n17 < n5) ∧
(k3 n17 (IntKind.wrap IntKind.i64 (x8 + 1)) w7))))))))))))) ∧
(((decide (x8 < ((cost_n : Nat) : Int))) = false) →
(∃ k19 : (Nat → (Int → (World → Prop))), ((∃ n20 : Nat, (k19 n20 0 w7)) ∧
(∀ n21 : Nat, ((Nat → Value) →
(∀ w23 : World, (∀ x24 : Int, ((k19 n21 x24 w23) →
((((decide (x24 < ((cost_n : Nat) : Int))) = true) →
(∃ a27 : Addr, ((cost = (some a27)) ∧
((((0 : Int) ≤ x24) ∧
(x24 < ((cost_n : Nat) : Int))) ∧
(∃ o28 : Option Addr, (∃ n29 : Nat, (∃ n30 : Nat, (((w23.cell? (Addr.add a27 ((x24).toNat * 1))) = (some (Value.slice o28 n29 n30))) ∧
(∃ a31 : Addr, ((cost = (some a31)) ∧
((((0 : Int) ≤ 0) ∧
((0 : Int) < ((cost_n : Nat) : Int))) ∧
(∃ o32 : Option Addr, (∃ n33 : Nat, (∃ n34 : Nat, (((w23.cell? a31) = (some (Value.slice o32 n33 n34))) ∧
((((!(decide (((n29 : Nat) : Int) = ((n33 : Nat) : Int)))) = true) →
(R (Ending.returned (Value.int IntKind.i64 1)) w23)) ∧
(((!(decide (((n29 : Nat) : Int) = ((n33 : Nat) : Int)))) = false) →
(∃ k37 : (Nat → (Int → (World → Prop))), ((∃ n38 : Nat, (k37 n38 0 w23)) ∧
(∀ n39 : Nat, ((Nat → Value) →
(∀ w41 : World, (∀ x42 : Int, ((k37 n39 x42 w41) →
((((decide (x42 < ((n29 : Nat) : Int))) = true) →
(∃ a45 : Addr, ((o28 = (some a45)) ∧
((((0 : Int) ≤ x42) ∧
(x42 < ((n29 : Nat) : Int))) ∧
(∃ x46 : Int, (((w41.cell? (Addr.add a45 ((x42).toNat * 1))) = (some (Value.int IntKind.i64 x46))) ∧
((((decide (x46 < 0)) = true) →
((((!(decide (x46 = 4611686018427387904))) = true) →
(R (Ending.returned (Value.int IntKind.i64 1)) w41)) ∧
(((!(decide (x46 = 4611686018427387904))) = false) →
(∃ n50 : Nat, ((n50 < n39) ∧
(k37 n50 (IntKind.wrap IntKind.i64 (x42 + 1)) w41)))))) ∧
(((decide (x46 < 0)) = false) →
((((decide (x46 > 1099511627776)) = true) →
((((!(decide (x46 = 4611686018427387904))) = true) →
(R (Ending.returned (Value.int IntKind.i64 1)) w41)) ∧
(((!(decide (x46 = 4611686018427387904))) = false) →
(∃ n55 : Nat, ((n55 < n39) ∧
(k37 n55 (IntKind.wrap IntKind.i64 (x42 + 1)) w41)))))) ∧
(((decide (x46 > 1099511627776)) = false) →
(∃ n57 : Nat, ((n57 < n39) ∧
(k37 n57 (IntKind.wrap IntKind.i64 (x42 + 1)) w41))))))))))))) ∧
(((decide (x42 < ((n29 : Nat) : Int))) = false) →
(∃ n59 : Nat, ((n59 < n21) ∧
(k19 n59 (IntKind.wrap IntKind.i64 (x24 + 1)) w41))))))))))))))))))))))))))))) ∧
(((decide (x24 < ((cost_n : Nat) : Int))) = false) →
(R (Ending.returned (Value.int IntKind.i64 0)) w23)))))))))))))))))))))) :
    Calls Try.prog 11 #[(.slice cost cost_n cost_c)] w R :=
  calls_of_vc an11 Try.func11 rfl (by kernel_rfl) (by kernel_rfl) (Eq.mp (by kernel_rfl) h)

/-- samaritan/samaritanref36.Cost -/
def an12 : An := (.seq (.reg []) (.seq (.seq (.reg []) (.seq (.reg [(1, 0, true)]) (.cond (.seq (.reg []) .nil) .nil))) (.seq (.seq (.reg [(4, 0, true)]) (.cond (.seq (.reg []) .nil) .nil)) (.seq (.reg []) (.seq (.seq (.reg []) (.blk (.loop [(8, .int .i64), (9, .int .i64), (25, .int .i64)] (.seq (.reg [(0, 0, true)]) (.seq (.cond .nil .nil) (.seq (.blk (.seq (.reg []) (.seq (.seq (.reg [(1, 0, true)]) (.cond .nil .nil)) (.seq (.seq (.reg [(1, 0, true), (9, 0, true), (19, 0, true)]) (.cond (.seq (.reg []) .nil) .nil)) (.seq (.seq (.reg []) (.blk (.loop [(12, .int .i64)] (.seq (.seq (.reg [(2, 0, true)]) (.cond .nil .nil)) (.seq (.blk (.seq (.reg [(5, 0, true)]) (.cond (.seq (.reg []) .nil) .nil))) (.reg [])))))) (.seq (.reg []) (.reg []))))))) (.reg []))))))) (.seq (.reg []) .nil))))))
set_option maxRecDepth 100000 in
theorem nf12 (cost : Option Addr) (cost_n : Nat) (cost_c : Nat) (m : Option Addr) (m_n : Nat) (m_c : Nat) (w : World) (R : Ending → World → Prop) (h :
(Calls Try.prog 11 #[(Value.slice cost cost_n cost_c)] w (fun (e1 : Ending) => (fun (w2 : World) => (∃ x3 : Int, ((e1 = (Ending.returned (Value.int IntKind.i64 x3))) ∧
((((!(decide (x3 = 0))) = true) →
(R (Ending.returned (Value.tuple #[(Value.int IntKind.i64 0), (Value.int IntKind.i64 0), (Value.int IntKind.i64 x3)])) w2)) ∧
(((!(decide (x3 = 0))) = false) →
((((!(decide (((m_n : Nat) : Int) = ((cost_n : Nat) : Int)))) = true) →
(R (Ending.returned (Value.tuple #[(Value.int IntKind.i64 0), (Value.int IntKind.i64 0), (Value.int IntKind.i64 1)])) w2)) ∧
(((!(decide (((m_n : Nat) : Int) = ((cost_n : Nat) : Int)))) = false) →
(∃ k8 : (Nat → (Int → (Int → (Int → (World → Prop))))), ((∃ n9 : Nat, (k8 n9 0 0 0 w2)) ∧
(∀ n10 : Nat, ((Nat → Value) →
(∀ w12 : World, (∀ x13 : Int, (∀ x14 : Int, (∀ x15 : Int, ((k8 n10 x13 x14 x15 w12) →
((((decide (x15 < ((m_n : Nat) : Int))) = true) →
(∃ a18 : Addr, ((m = (some a18)) ∧
((((0 : Int) ≤ x15) ∧
(x15 < ((m_n : Nat) : Int))) ∧
(∃ x19 : Int, (((w12.cell? (Addr.add a18 ((x15).toNat * 1))) = (some (Value.int IntKind.i64 x19))) ∧
((((decide (x19 = (-1))) = true) →
(∃ n21 : Nat, ((n21 < n10) ∧
(k8 n21 x13 x14 (IntKind.wrap IntKind.i64 (x15 + 1)) w12)))) ∧
(((decide (x19 = (-1))) = false) →
((((decide (x19 < 0)) = true) →
(R (Ending.returned (Value.tuple #[(Value.int IntKind.i64 0), (Value.int IntKind.i64 0), (Value.int IntKind.i64 1)])) w12)) ∧
(((decide (x19 < 0)) = false) →
(∃ a25 : Addr, ((cost = (some a25)) ∧
((((0 : Int) ≤ x15) ∧
(x15 < ((cost_n : Nat) : Int))) ∧
(∃ o26 : Option Addr, (∃ n27 : Nat, (∃ n28 : Nat, (((w12.cell? (Addr.add a25 ((x15).toNat * 1))) = (some (Value.slice o26 n27 n28))) ∧
((((decide (x19 ≥ ((n27 : Nat) : Int))) = true) →
(R (Ending.returned (Value.tuple #[(Value.int IntKind.i64 0), (Value.int IntKind.i64 0), (Value.int IntKind.i64 1)])) w12)) ∧
(((decide (x19 ≥ ((n27 : Nat) : Int))) = false) →
(∃ a31 : Addr, ((cost = (some a31)) ∧
((((0 : Int) ≤ x15) ∧
(x15 < ((cost_n : Nat) : Int))) ∧
(∃ o32 : Option Addr, (∃ n33 : Nat, (∃ n34 : Nat, (((w12.cell? (Addr.add a31 ((x15).toNat * 1))) = (some (Value.slice o32 n33 n34))) ∧
(∃ a35 : Addr, ((o32 = (some a35)) ∧
((((0 : Int) ≤ x19) ∧
(x19 < ((n33 : Nat) : Int))) ∧
(∃ x36 : Int, (((w12.cell? (Addr.add a35 ((x19).toNat * 1))) = (some (Value.int IntKind.i64 x36))) ∧
((((decide (x36 = 4611686018427387904)) = true) →
(R (Ending.returned (Value.tuple #[(Value.int IntKind.i64 0), (Value.int IntKind.i64 0), (Value.int IntKind.i64 1)])) w12)) ∧
(((decide (x36 = 4611686018427387904)) = false) →
(∃ k39 : (Nat → (Int → (World → Prop))), ((∃ n40 : Nat, (k39 n40 0 w12)) ∧
(∀ n41 : Nat, ((Nat → Value) →
(∀ w43 : World, (∀ x44 : Int, ((k39 n41 x44 w43) →
((((decide (x44 < x15)) = true) →
(∃ a47 : Addr, ((m = (some a47)) ∧
((((0 : Int) ≤ x44) ∧
(x44 < ((m_n : Nat) : Int))) ∧
(∃ x48 : Int, (((w43.cell? (Addr.add a47 ((x44).toNat * 1))) = (some (Value.int IntKind.i64 x48))) ∧
((((decide (x48 = x19)) = true) →
(R (Ending.returned (Value.tuple #[(Value.int IntKind.i64 0), (Value.int IntKind.i64 0), (Value.int IntKind.i64 1)])) w43)) ∧
(((decide (x48 = x19)) = false) →
(∃ n51 : Nat, ((n51 < n41) ∧
(k39 n51 (IntKind.wrap IntKind.i64 (x44 + 1)) w43))))))))))) ∧
(((decide (x44 < x15)) = false) →
(∃ a53 : Addr, ((cost = (some a53)) ∧
((((0 : Int) ≤ x15) ∧
(x15 < ((cost_n : Nat) : Int))) ∧
(∃ o54 : Option Addr, (∃ n55 : Nat, (∃ n56 : Nat, (((w43.cell? (Addr.add a53 ((x15).toNat * 1))) = (some (Value.slice o54 n55 n56))) ∧
(∃ a57 : Addr, ((o54 = (some a57)) ∧
((((0 : Int) ≤ x19) ∧
(x19 < ((n55 : Nat) : Int))) ∧
(∃ x58 : Int, (((w43.cell? (Addr.add a57 ((x19).toNat * 1))) = (some (Value.int IntKind.i64 x58))) ∧
(∃ n59 : Nat, ((n59 < n10) ∧
(k8 n59 (IntKind.wrap IntKind.i64 (x13 + 1)) (IntKind.wrap IntKind.i64 (x14 + x58)) (IntKind.wrap IntKind.i64 (x15 + 1)) w43))))))))))))))))))))))))))))))))))))))))))))))))))))))))) ∧
(((decide (x15 < ((m_n : Nat) : Int))) = false) →
(R (Ending.returned (Value.tuple #[(Value.int IntKind.i64 x13), (Value.int IntKind.i64 x14), (Value.int IntKind.i64 0)])) w12)))))))))))))))))))))) :
    Calls Try.prog 12 #[(.slice cost cost_n cost_c), (.slice m m_n m_c)] w R :=
  calls_of_vc an12 Try.func12 rfl (by kernel_rfl) (by kernel_rfl) (Eq.mp (by kernel_rfl) h)

/-- samaritan/samaritanref36.better -/
def an25 : An := (.seq (.reg []) (.seq (.reg []) (.seq (.reg []) (.seq (.seq (.reg [(2, 0, true)]) (.cond (.seq (.reg [(2, 0, true)]) .nil) .nil)) (.seq (.seq (.reg [(2, 0, true)]) (.cond (.seq (.reg [(2, 0, true)]) .nil) .nil)) (.seq (.reg [(2, 0, true)]) .nil))))))
set_option maxRecDepth 100000 in
theorem nf25 (cost : Option Addr) (cost_n : Nat) (cost_c : Nat) (a : Option Addr) (a_n : Nat) (a_c : Nat) (b : Option Addr) (b_n : Nat) (b_c : Nat) (w : World) (R : Ending → World → Prop) (h :
(Calls Try.prog 12 #[(Value.slice cost cost_n cost_c), (Value.slice a a_n a_c)] w (fun (e1 : Ending) => (fun (w2 : World) => (∃ x3 : Int, (∃ x4 : Int, (∃ x5 : Int, ((e1 = (Ending.returned (Value.tuple #[(Value.int IntKind.i64 x3), (Value.int IntKind.i64 x4), (Value.int IntKind.i64 x5)]))) ∧
(Calls Try.prog 12 #[(Value.slice cost cost_n cost_c), (Value.slice b b_n b_c)] w2 (fun (e6 : Ending) => (fun (w7 : World) => (∃ x8 : Int, (∃ x9 : Int, (∃ x10 : Int, ((e6 = (Ending.returned (Value.tuple #[(Value.int IntKind.i64 x8), (Value.int IntKind.i64 x9), (Value.int IntKind.i64 x10)]))) ∧
((((!(decide (x3 = x8))) = true) →
((((decide (x3 > x8)) = true) →
(R (Ending.returned (Value.bool true)) w7)) ∧
(((decide (x3 > x8)) = false) →
(R (Ending.returned (Value.bool false)) w7)))) ∧
(((!(decide (x3 = x8))) = false) →
((((!(decide (x4 = x9))) = true) →
((((decide (x4 < x9)) = true) →
(R (Ending.returned (Value.bool true)) w7)) ∧
(((decide (x4 < x9)) = false) →
(R (Ending.returned (Value.bool false)) w7)))) ∧
(((!(decide (x4 = x9))) = false) →
(Calls Try.prog 29 #[(Value.slice a a_n a_c), (Value.slice b b_n b_c)] w7 (fun (e19 : Ending) => (fun (w20 : World) => (∃ b21 : Bool, ((e19 = (Ending.returned (Value.bool b21))) ∧
(((b21 = true) →
(R (Ending.returned (Value.bool true)) w20)) ∧
((b21 = false) →
(R (Ending.returned (Value.bool false)) w20))))))))))))))))))))))))))) :
    Calls Try.prog 25 #[(.slice cost cost_n cost_c), (.slice a a_n a_c), (.slice b b_n b_c)] w R :=
  calls_of_vc an25 Try.func25 rfl (by kernel_rfl) (by kernel_rfl) (Eq.mp (by kernel_rfl) h)

/-- samaritan/samaritanref36.all -/
def an21 : An := (.seq (.reg []) (.seq (.seq (.reg [(4, 0, true)]) (.cond (.seq (.reg []) .nil) .nil)) (.seq (.reg [(3, 1, false), (5, 1, false)]) (.seq (.seq (.reg []) (.blk (.loop [(5, .slice), (30, .int .i64)] (.seq (.reg [(0, 0, true)]) (.seq (.cond .nil .nil) (.seq (.blk (.seq (.reg []) (.seq (.reg [(8, 0, true)]) (.seq (.seq (.reg []) (.blk (.loop [(7, .bool), (44, .int .i64)] (.seq (.reg [(0, 0, true)]) (.seq (.cond .nil .nil) (.seq (.blk (.seq (.reg []) (.reg [(0, 0, true), (4, 0, true)]))) (.reg []))))))) (.seq (.seq (.reg [(0, 0, true)]) (.cond .nil .nil)) (.seq (.reg [(3, 1, false), (6, 1, false)]) (.seq (.reg [(3, 0, true)]) (.cond (.reg []) .nil)))))))) (.reg []))))))) (.seq (.reg []) .nil)))))
set_option maxRecDepth 100000 in
theorem nf21 (cost : Option Addr) (cost_n : Nat) (cost_c : Nat) (m : Option Addr) (m_n : Nat) (m_c : Nat) (w : World) (R : Ending → World → Prop) (h :
((((decide (((m_n : Nat) : Int) = ((cost_n : Nat) : Int))) = true) →
(R (Ending.returned (Value.slice m m_n m_c)) w)) ∧
(((decide (((m_n : Nat) : Int) = ((cost_n : Nat) : Int))) = false) →
(∀ w3 : World, ((w3 = (w.alloc (Obj.cells #[] 3 (0, 0)))) →
(RunOk Try.prog (Nf.Hold (Builtin.append_ #[25, 25] 25 #[(Value.slice (some (⟨(hs w), 0, none⟩ : Addr)) 0 0), (Value.slice m m_n m_c)])) w3 (fun (v5 : Value) => (fun (w6 : World) => (∃ o7 : Option Addr, (∃ n8 : Nat, (∃ n9 : Nat, ((v5 = (Value.slice o7 n8 n9)) ∧
(∀ w10 : World, ((w10 = (w6.alloc (Obj.cells #[(Value.int IntKind.i64 (-1))] 3 (0, 0)))) →
(RunOk Try.prog (Nf.Hold (Builtin.append_ #[25, 25] 25 #[(Value.slice o7 n8 n9), (Value.slice (some (⟨(hs w6), 0, none⟩ : Addr)) 1 1)])) w10 (fun (v12 : Value) => (fun (w13 : World) => (∃ o14 : Option Addr, (∃ n15 : Nat, (∃ n16 : Nat, ((v12 = (Value.slice o14 n15 n16)) ∧
(Calls Try.prog 21 #[(Value.slice cost cost_n cost_c), (Value.slice o14 n15 n16)] w13 (fun (e17 : Ending) => (fun (w18 : World) => (∃ o19 : Option Addr, (∃ n20 : Nat, (∃ n21 : Nat, ((e17 = (Ending.returned (Value.slice o19 n20 n21))) ∧
(∃ a22 : Addr, ((cost = (some a22)) ∧
((((0 : Int) ≤ ((m_n : Nat) : Int)) ∧
(((m_n : Nat) : Int) < ((cost_n : Nat) : Int))) ∧
(∃ o23 : Option Addr, (∃ n24 : Nat, (∃ n25 : Nat, (((w18.cell? (Addr.add a22 ((((m_n : Nat) : Int)).toNat * 1))) = (some (Value.slice o23 n24 n25))) ∧
(∃ k26 : (Nat → (Option Addr → (Nat → (Nat → (Int → (World → Prop)))))), ((∃ n27 : Nat, (k26 n27 o19 n20 n21 0 w18)) ∧
(∀ n28 : Nat, ((Nat → Value) →
(∀ w30 : World, (∀ o31 : Option Addr, (∀ n32 : Nat, (∀ n33 : Nat, (∀ x34 : Int, ((k26 n28 o31 n32 n33 x34 w30) →
((((decide (x34 < ((n24 : Nat) : Int))) = true) →
(∃ a37 : Addr, ((cost = (some a37)) ∧
((((0 : Int) ≤ ((m_n : Nat) : Int)) ∧
(((m_n : Nat) : Int) < ((cost_n : Nat) : Int))) ∧
(∃ o38 : Option Addr, (∃ n39 : Nat, (∃ n40 : Nat, (((w30.cell? (Addr.add a37 ((((m_n : Nat) : Int)).toNat * 1))) = (some (Value.slice o38 n39 n40))) ∧
(∃ a41 : Addr, ((o38 = (some a41)) ∧
((((0 : Int) ≤ x34) ∧
(x34 < ((n39 : Nat) : Int))) ∧
(∃ x42 : Int, (((w30.cell? (Addr.add a41 ((x34).toNat * 1))) = (some (Value.int IntKind.i64 x42))) ∧
((((!(decide (x42 = 4611686018427387904))) = true) →
(∃ k44 : (Nat → (Bool → (Int → (World → Prop)))), ((∃ n45 : Nat, (k44 n45 true 0 w30)) ∧
(∀ n46 : Nat, ((Nat → Value) →
(∀ w48 : World, (∀ b49 : Bool, (∀ x50 : Int, ((k44 n46 b49 x50 w48) →
((((decide (x50 < ((m_n : Nat) : Int))) = true) →
(∃ a53 : Addr, ((m = (some a53)) ∧
((((0 : Int) ≤ x50) ∧
(x50 < ((m_n : Nat) : Int))) ∧
(∃ x54 : Int, (((w48.cell? (Addr.add a53 ((x50).toNat * 1))) = (some (Value.int IntKind.i64 x54))) ∧
(((b49 = true) →
((((!(decide (x54 = x34))) = true) →
(∃ n57 : Nat, ((n57 < n46) ∧
(k44 n57 true (IntKind.wrap IntKind.i64 (x50 + 1)) w48)))) ∧
(((!(decide (x54 = x34))) = false) →
(∃ n59 : Nat, ((n59 < n46) ∧
(k44 n59 false (IntKind.wrap IntKind.i64 (x50 + 1)) w48)))))) ∧
((b49 = false) →
(∃ n61 : Nat, ((n61 < n46) ∧
(k44 n61 false (IntKind.wrap IntKind.i64 (x50 + 1)) w48))))))))))) ∧
(((decide (x50 < ((m_n : Nat) : Int))) = false) →
(((b49 = true) →
(∀ w64 : World, ((w64 = (w48.alloc (Obj.cells #[] 3 (0, 0)))) →
(RunOk Try.prog (Nf.Hold (Builtin.append_ #[25, 25] 25 #[(Value.slice (some (⟨(hs w48), 0, none⟩ : Addr)) 0 0), (Value.slice m m_n m_c)])) w64 (fun (v66 : Value) => (fun (w67 : World) => (∃ o68 : Option Addr, (∃ n69 : Nat, (∃ n70 : Nat, ((v66 = (Value.slice o68 n69 n70)) ∧
(∀ w71 : World, ((w71 = (w67.alloc (Obj.cells #[(Value.int IntKind.i64 x34)] 3 (0, 0)))) →
(RunOk Try.prog (Nf.Hold (Builtin.append_ #[25, 25] 25 #[(Value.slice o68 n69 n70), (Value.slice (some (⟨(hs w67), 0, none⟩ : Addr)) 1 1)])) w71 (fun (v73 : Value) => (fun (w74 : World) => (∃ o75 : Option Addr, (∃ n76 : Nat, (∃ n77 : Nat, ((v73 = (Value.slice o75 n76 n77)) ∧
(Calls Try.prog 21 #[(Value.slice cost cost_n cost_c), (Value.slice o75 n76 n77)] w74 (fun (e78 : Ending) => (fun (w79 : World) => (∃ o80 : Option Addr, (∃ n81 : Nat, (∃ n82 : Nat, ((e78 = (Ending.returned (Value.slice o80 n81 n82))) ∧
(Calls Try.prog 25 #[(Value.slice cost cost_n cost_c), (Value.slice o80 n81 n82), (Value.slice o31 n32 n33)] w79 (fun (e83 : Ending) => (fun (w84 : World) => (∃ b85 : Bool, ((e83 = (Ending.returned (Value.bool b85))) ∧
(((b85 = true) →
(∃ n87 : Nat, ((n87 < n28) ∧
(k26 n87 o80 n81 n82 (IntKind.wrap IntKind.i64 (x34 + 1)) w84)))) ∧
((b85 = false) →
(∃ n89 : Nat, ((n89 < n28) ∧
(k26 n89 o31 n32 n33 (IntKind.wrap IntKind.i64 (x34 + 1)) w84)))))))))))))))))))))))))))))))))))) ∧
((b49 = false) →
(∃ n91 : Nat, ((n91 < n28) ∧
(k26 n91 o31 n32 n33 (IntKind.wrap IntKind.i64 (x34 + 1)) w48)))))))))))))))) ∧
(((!(decide (x42 = 4611686018427387904))) = false) →
(∃ k93 : (Nat → (Bool → (Int → (World → Prop)))), ((∃ n94 : Nat, (k93 n94 false 0 w30)) ∧
(∀ n95 : Nat, ((Nat → Value) →
(∀ w97 : World, (∀ b98 : Bool, (∀ x99 : Int, ((k93 n95 b98 x99 w97) →
((((decide (x99 < ((m_n : Nat) : Int))) = true) →
(∃ a102 : Addr, ((m = (some a102)) ∧
((((0 : Int) ≤ x99) ∧
(x99 < ((m_n : Nat) : Int))) ∧
(∃ x103 : Int, (((w97.cell? (Addr.add a102 ((x99).toNat * 1))) = (some (Value.int IntKind.i64 x103))) ∧
(((b98 = true) →
((((!(decide (x103 = x34))) = true) →
(∃ n106 : Nat, ((n106 < n95) ∧
(k93 n106 true (IntKind.wrap IntKind.i64 (x99 + 1)) w97)))) ∧
(((!(decide (x103 = x34))) = false) →
(∃ n108 : Nat, ((n108 < n95) ∧
(k93 n108 false (IntKind.wrap IntKind.i64 (x99 + 1)) w97)))))) ∧
((b98 = false) →
(∃ n110 : Nat, ((n110 < n95) ∧
(k93 n110 false (IntKind.wrap IntKind.i64 (x99 + 1)) w97))))))))))) ∧
(((decide (x99 < ((m_n : Nat) : Int))) = false) →
(((b98 = true) →
(∀ w113 : World, ((w113 = (w97.alloc (Obj.cells #[] 3 (0, 0)))) →
(RunOk Try.prog (Nf.Hold (Builtin.append_ #[25, 25] 25 #[(Value.slice (some (⟨(hs w97), 0, none⟩ : Addr)) 0 0), (Value.slice m m_n m_c)])) w113 (fun (v115 : Value) => (fun (w116 : World) => (∃ o117 : Option Addr, (∃ n118 : Nat, (∃ n119 : Nat, ((v115 = (Value.slice o117 n118 n119)) ∧
(∀ w120 : World, ((w120 = (w116.alloc (Obj.cells #[(Value.int IntKind.i64 x34)] 3 (0, 0)))) →
(RunOk Try.prog (Nf.Hold (Builtin.append_ #[25, 25] 25 #[(Value.slice o117 n118 n119), (Value.slice (some (⟨(hs w116), 0, none⟩ : Addr)) 1 1)])) w120 (fun (v122 : Value) => (fun (w123 : World) => (∃ o124 : Option Addr, (∃ n125 : Nat, (∃ n126 : Nat, ((v122 = (Value.slice o124 n125 n126)) ∧
(Calls Try.prog 21 #[(Value.slice cost cost_n cost_c), (Value.slice o124 n125 n126)] w123 (fun (e127 : Ending) => (fun (w128 : World) => (∃ o129 : Option Addr, (∃ n130 : Nat, (∃ n131 : Nat, ((e127 = (Ending.returned (Value.slice o129 n130 n131))) ∧
(Calls Try.prog 25 #[(Value.slice cost cost_n cost_c), (Value.slice o129 n130 n131), (Value.slice o31 n32 n33)] w128 (fun (e132 : Ending) => (fun (w133 : World) => (∃ b134 : Bool, ((e132 = (Ending.returned (Value.bool b134))) ∧
(((b134 = true) →
(∃ n136 : Nat, ((n136 < n28) ∧
(k26 n136 o129 n130 n131 (IntKind.wrap IntKind.i64 (x34 + 1)) w133)))) ∧
((b134 = false) →
(∃ n138 : Nat, ((n138 < n28) ∧
(k26 n138 o31 n32 n33 (IntKind.wrap IntKind.i64 (x34 + 1)) w133)))))))))))))))))))))))))))))))))))) ∧
((b98 = false) →
(∃ n140 : Nat, ((n140 < n28) ∧
(k26 n140 o31 n32 n33 (IntKind.wrap IntKind.i64 (x34 + 1)) w97)))))))))))))))))))))))))))))) ∧
(((decide (x34 < ((n24 : Nat) : Int))) = false) →
(R (Ending.returned (Value.slice o31 n32 n33)) w30)))))))))))))))))))))))))))))))))))))))))))))))) :
    Calls Try.prog 21 #[(.slice cost cost_n cost_c), (.slice m m_n m_c)] w R :=
  calls_of_vc an21 Try.func21 rfl (by kernel_rfl) (by kernel_rfl) (Eq.mp (by kernel_rfl) h)

/-- samaritan/samaritanref36.Best -/
def an16 : An := (.seq (.reg []) (.seq (.seq (.reg []) (.seq (.reg [(1, 0, true)]) (.cond (.seq (.reg []) .nil) .nil))) (.seq (.reg []) (.seq (.reg []) (.seq (.reg []) .nil)))))
set_option maxRecDepth 100000 in
theorem nf16 (cost : Option Addr) (cost_n : Nat) (cost_c : Nat) (w : World) (R : Ending → World → Prop) (h :
(Calls Try.prog 11 #[(Value.slice cost cost_n cost_c)] w (fun (e1 : Ending) => (fun (w2 : World) => (∃ x3 : Int, ((e1 = (Ending.returned (Value.int IntKind.i64 x3))) ∧
((((!(decide (x3 = 0))) = true) →
(R (Ending.returned (Value.tuple #[(Value.slice none 0 0), (Value.int IntKind.i64 0), (Value.int IntKind.i64 x3)])) w2)) ∧
(((!(decide (x3 = 0))) = false) →
(Calls Try.prog 21 #[(Value.slice cost cost_n cost_c), (Value.slice none 0 0)] w2 (fun (e6 : Ending) => (fun (w7 : World) => (∃ o8 : Option Addr, (∃ n9 : Nat, (∃ n10 : Nat, ((e6 = (Ending.returned (Value.slice o8 n9 n10))) ∧
(Calls Try.prog 12 #[(Value.slice cost cost_n cost_c), (Value.slice o8 n9 n10)] w7 (fun (e11 : Ending) => (fun (w12 : World) => (∃ x13 : Int, (∃ x14 : Int, (∃ x15 : Int, ((e11 = (Ending.returned (Value.tuple #[(Value.int IntKind.i64 x13), (Value.int IntKind.i64 x14), (Value.int IntKind.i64 x15)]))) ∧
(R (Ending.returned (Value.tuple #[(Value.slice o8 n9 n10), (Value.int IntKind.i64 x14), (Value.int IntKind.i64 0)])) w12))))))))))))))))))))))) :
    Calls Try.prog 16 #[(.slice cost cost_n cost_c)] w R :=
  calls_of_vc an16 Try.func16 rfl (by kernel_rfl) (by kernel_rfl) (Eq.mp (by kernel_rfl) h)

/-- (*samaritan/assignment.Table).Set -/
def an14 : An := (.seq (.reg []) (.seq (.seq (.reg [(1, 0, true), (9, 0, true), (13, 0, true), (21, 0, true), (25, 0, true)]) (.cond (.seq (.reg []) .nil) .nil)) (.seq (.reg []) (.seq (.reg []) .nil))))
set_option maxRecDepth 100000 in
theorem nf14 (t : Nat) (row : Int) (column : Int) (cost : Int) (w : World) (R : Ending → World → Prop) (h :
((((decide (row < 0)) = true) →
(R (Ending.returned (Value.int IntKind.i64 1)) w)) ∧
(((decide (row < 0)) = false) →
(∃ o3 : Option Addr, (∃ n4 : Nat, (∃ n5 : Nat, (((w.cell? (⟨t, 0, none⟩ : Addr)) = (some (Value.slice o3 n4 n5))) ∧
((((decide (row ≥ ((n4 : Nat) : Int))) = true) →
(R (Ending.returned (Value.int IntKind.i64 1)) w)) ∧
(((decide (row ≥ ((n4 : Nat) : Int))) = false) →
((((decide (column < 0)) = true) →
(R (Ending.returned (Value.int IntKind.i64 1)) w)) ∧
(((decide (column < 0)) = false) →
(∃ x10 : Int, (((w.cell? (⟨t, 1, none⟩ : Addr)) = (some (Value.int IntKind.i64 x10))) ∧
((((decide (column ≥ x10)) = true) →
(R (Ending.returned (Value.int IntKind.i64 1)) w)) ∧
(((decide (column ≥ x10)) = false) →
(Calls Try.prog 20 #[(Value.int IntKind.i64 cost)] w (fun (e13 : Ending) => (fun (w14 : World) => (∃ b15 : Bool, ((e13 = (Ending.returned (Value.bool b15))) ∧
(((b15 = true) →
(∃ o17 : Option Addr, (∃ n18 : Nat, (∃ n19 : Nat, (((w14.cell? (⟨t, 0, none⟩ : Addr)) = (some (Value.slice o17 n18 n19))) ∧
(∃ a20 : Addr, ((o17 = (some a20)) ∧
((((0 : Int) ≤ row) ∧
(row < ((n18 : Nat) : Int))) ∧
(∃ o21 : Option Addr, (∃ n22 : Nat, (∃ n23 : Nat, (((w14.cell? (Addr.add a20 ((row).toNat * 1))) = (some (Value.slice o21 n22 n23))) ∧
(∃ a24 : Addr, ((o21 = (some a24)) ∧
((((0 : Int) ≤ column) ∧
(column < ((n22 : Nat) : Int))) ∧
((Nf.There w14 (Addr.add a24 ((column).toNat * 1)) 1) ∧
(∀ w25 : World, ((w25 = (Nf.setCells w14 (Addr.add a24 ((column).toNat * 1)) [(Value.int IntKind.i64 cost)] 0)) →
(R (Ending.returned (Value.int IntKind.i64 0)) w25))))))))))))))))))) ∧
((b15 = false) →
(R (Ending.returned (Value.int IntKind.i64 1)) w14))))))))))))))))))))))) :
    Calls Try.prog 14 #[(.pointer (some ⟨t, 0, none⟩)), (.int .i64 row), (.int .i64 column), (.int .i64 cost)] w R :=
  calls_of_vc an14 Try.func14 rfl (by kernel_rfl) (by kernel_rfl) (Eq.mp (by kernel_rfl) h)

/-- samaritan/assignment.New -/
def an13 : An := (.seq (.reg []) (.seq (.seq (.reg [(1, 0, true), (4, 0, true)]) (.cond (.seq (.reg []) .nil) .nil)) (.seq (.seq (.reg [(1, 0, true), (4, 0, true)]) (.cond (.seq (.reg []) .nil) .nil)) (.seq (.reg []) (.seq (.seq (.reg []) (.blk (.loop [(25, .int .i64)] (.seq (.reg [(0, 0, true)]) (.seq (.cond .nil .nil) (.seq (.blk (.seq (.reg [(1, 1, false)]) (.seq (.seq (.reg []) (.blk (.loop [(31, .int .i64)] (.seq (.reg [(0, 0, true)]) (.seq (.cond .nil .nil) (.seq (.blk (.seq (.reg []) (.reg []))) (.reg []))))))) (.reg [(7, 1, false)])))) (.reg []))))))) (.seq (.reg []) .nil))))))
set_option maxRecDepth 100000 in
theorem nf13 (rows : Int) (columns : Int) (w : World) (R : Ending → World → Prop) (h :
((((decide (rows < 0)) = true) →
(R (Ending.returned (Value.tuple #[(Value.pointer none), (Value.int IntKind.i64 1)])) w)) ∧
(((decide (rows < 0)) = false) →
((((decide (columns < 0)) = true) →
(R (Ending.returned (Value.tuple #[(Value.pointer none), (Value.int IntKind.i64 1)])) w)) ∧
(((decide (columns < 0)) = false) →
((((decide (rows > 64)) = true) →
(R (Ending.returned (Value.tuple #[(Value.pointer none), (Value.int IntKind.i64 3)])) w)) ∧
(((decide (rows > 64)) = false) →
((((decide (columns > 64)) = true) →
(R (Ending.returned (Value.tuple #[(Value.pointer none), (Value.int IntKind.i64 3)])) w)) ∧
(((decide (columns > 64)) = false) →
(∀ w9 : World, ((w9 = (w.alloc (Obj.cells #[(Value.slice none 0 0), (Value.int IntKind.i64 columns)] 53 (0, 0)))) →
(∃ k11 : (Nat → (Int → (World → Prop))), ((∃ n12 : Nat, (k11 n12 0 w9)) ∧
(∀ n13 : Nat, ((Nat → Value) →
(∀ w15 : World, (∀ x16 : Int, ((k11 n13 x16 w15) →
((((decide (x16 < rows)) = true) →
(RunOk Try.prog (Nf.Hold (Instr.makeSlice 32 (Value.int IntKind.i64 columns) (Value.int IntKind.i64 columns))) w15 (fun (v19 : Value) => (fun (w20 : World) => (∃ o21 : Option Addr, (∃ n22 : Nat, (∃ n23 : Nat, ((v19 = (Value.slice o21 n22 n23)) ∧
(∃ k24 : (Nat → (Int → (World → Prop))), ((∃ n25 : Nat, (k24 n25 0 w20)) ∧
(∀ n26 : Nat, ((Nat → Value) →
(∀ w28 : World, (∀ x29 : Int, ((k24 n26 x29 w28) →
((((decide (x29 < ((n22 : Nat) : Int))) = true) →
(∃ a32 : Addr, ((o21 = (some a32)) ∧
((((0 : Int) ≤ x29) ∧
(x29 < ((n22 : Nat) : Int))) ∧
((Nf.There w28 (Addr.add a32 ((x29).toNat * 1)) 1) ∧
(∀ w33 : World, ((w33 = (Nf.setCells w28 (Addr.add a32 ((x29).toNat * 1)) [(Value.int IntKind.i64 4611686018427387904)] 0)) →
(∃ n35 : Nat, ((n35 < n26) ∧
(k24 n35 (IntKind.wrap IntKind.i64 (x29 + 1)) w33)))))))))) ∧
(((decide (x29 < ((n22 : Nat) : Int))) = false) →
(∃ o37 : Option Addr, (∃ n38 : Nat, (∃ n39 : Nat, (((w28.cell? (⟨(hs w), 0, none⟩ : Addr)) = (some (Value.slice o37 n38 n39))) ∧
(∀ w40 : World, ((w40 = (w28.alloc (Obj.cells #[(Value.slice o21 n22 n23)] 32 (0, 0)))) →
(RunOk Try.prog (Nf.Hold (Builtin.append_ #[22, 22] 22 #[(Value.slice o37 n38 n39), (Value.slice (some (⟨(hs w28), 0, none⟩ : Addr)) 1 1)])) w40 (fun (v42 : Value) => (fun (w43 : World) => (∃ o44 : Option Addr, (∃ n45 : Nat, (∃ n46 : Nat, ((v42 = (Value.slice o44 n45 n46)) ∧
((Nf.There w43 (⟨(hs w), 0, none⟩ : Addr) 1) ∧
(∀ w47 : World, ((w47 = (Nf.setCells w43 (⟨(hs w), 0, none⟩ : Addr) [(Value.slice o44 n45 n46)] 0)) →
(∃ n49 : Nat, ((n49 < n13) ∧
(k11 n49 (IntKind.wrap IntKind.i64 (x16 + 1)) w47)))))))))))))))))))))))))))))))))))) ∧
(((decide (x16 < rows)) = false) →
(R (Ending.returned (Value.tuple #[(Value.pointer (some (⟨(hs w), 0, none⟩ : Addr))), (Value.int IntKind.i64 0)])) w15))))))))))))))))))))) :
    Calls Try.prog 13 #[(.int .i64 rows), (.int .i64 columns)] w R :=
  calls_of_vc an13 Try.func13 rfl (by kernel_rfl) (by kernel_rfl) (Eq.mp (by kernel_rfl) h)

end Go.Proofs.Ytalplekmbhemnaa
