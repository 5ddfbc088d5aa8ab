/- The contracts' premises: for each function, the proposition that its body comes to (printed by the tool of wip/nf). -/
import Derived.Test.YtolpmdmcbciccaaDoorRows
import Derived.Test.YtolpmdmcbciccaaDoorNfD
namespace Go.Proofs.YtolpmdmcbciccaaDoor
open Go Go.Nf

/-- samaritan/surge.validName -/
def an40 : An := (.seq (.reg []) (.seq (.seq (.reg [(2, 0, true), (6, 0, true)]) (.cond (.seq (.reg []) .nil) .nil)) (.seq (.seq (.reg []) (.blk (.loop [(3, .int .i64)] (.seq (.seq (.reg [(3, 0, true)]) (.cond .nil .nil)) (.seq (.blk (.seq (.reg [(2, 2, false)]) (.seq (.reg [(1, 0, true), (4, 0, true), (7, 0, true), (12, 0, true), (15, 0, true)]) (.cond (.seq (.reg []) .nil) .nil)))) (.reg [])))))) (.seq (.reg []) .nil))))
set_option maxRecDepth 100000 in
theorem nf40 (s : ByteArray) (w : World) (R : Ending → World → Prop) (h :
((((decide ((((ByteArray.size s) : Nat) : Int) < 1)) = true) →
(R (Ending.returned (Value.bool false)) w)) ∧
(((decide ((((ByteArray.size s) : Nat) : Int) < 1)) = false) →
((((decide ((((ByteArray.size s) : Nat) : Int) > 40)) = true) →
(R (Ending.returned (Value.bool false)) w)) ∧
(((decide ((((ByteArray.size s) : Nat) : Int) > 40)) = false) →
(∃ k5 : (Nat → (Int → (World → Prop))), ((∃ n6 : Nat, (k5 n6 0 w)) ∧
(∀ n7 : Nat, ((Nat → Value) →
(∀ w9 : World, (∀ x10 : Int, ((k5 n7 x10 w9) →
((((decide (x10 < (((ByteArray.size s) : Nat) : Int))) = true) →
(∃ c13 : UInt8, ((((0 : Int) ≤ x10) ∧
((Nf.byteAt s (x10).toNat) = (some c13))) ∧
((((!(decide ((((c13).toNat : Nat) : Int) = 45))) = true) →
((((decide ((((c13).toNat : Nat) : Int) < 97)) = true) →
((((decide ((((c13).toNat : Nat) : Int) < 48)) = true) →
(R (Ending.returned (Value.bool false)) w9)) ∧
(((decide ((((c13).toNat : Nat) : Int) < 48)) = false) →
((((decide ((((c13).toNat : Nat) : Int) > 57)) = true) →
(R (Ending.returned (Value.bool false)) w9)) ∧
(((decide ((((c13).toNat : Nat) : Int) > 57)) = false) →
(∃ n20 : Nat, ((n20 < n7) ∧
(k5 n20 (IntKind.wrap IntKind.i64 (x10 + 1)) w9)))))))) ∧
(((decide ((((c13).toNat : Nat) : Int) < 97)) = false) →
((((decide ((((c13).toNat : Nat) : Int) > 122)) = true) →
((((decide ((((c13).toNat : Nat) : Int) < 48)) = true) →
(R (Ending.returned (Value.bool false)) w9)) ∧
(((decide ((((c13).toNat : Nat) : Int) < 48)) = false) →
((((decide ((((c13).toNat : Nat) : Int) > 57)) = true) →
(R (Ending.returned (Value.bool false)) w9)) ∧
(((decide ((((c13).toNat : Nat) : Int) > 57)) = false) →
(∃ n27 : Nat, ((n27 < n7) ∧
(k5 n27 (IntKind.wrap IntKind.i64 (x10 + 1)) w9)))))))) ∧
(((decide ((((c13).toNat : Nat) : Int) > 122)) = false) →
(∃ n29 : Nat, ((n29 < n7) ∧
(k5 n29 (IntKind.wrap IntKind.i64 (x10 + 1)) w9)))))))) ∧
(((!(decide ((((c13).toNat : Nat) : Int) = 45))) = false) →
(∃ n31 : Nat, ((n31 < n7) ∧
(k5 n31 (IntKind.wrap IntKind.i64 (x10 + 1)) w9)))))))) ∧
(((decide (x10 < (((ByteArray.size s) : Nat) : Int))) = false) →
(R (Ending.returned (Value.bool true)) w9))))))))))))))) :
    Calls Tryd.prog 40 #[(.string s)] w R :=
  calls_of_vc an40 Tryd.func40 rfl (by kernel_rfl) (by kernel_rfl) (Eq.mp (by kernel_rfl) h)

/-- samaritan/surge.validStep -/
def an41 : An := (.seq (.reg []) (.seq (.seq (.reg [(2, 0, true), (6, 0, true), (10, 2, false), (11, 0, true), (18, 2, false), (19, 0, true)]) (.cond (.seq (.reg []) .nil) .nil)) (.seq (.seq (.reg []) (.blk (.loop [(3, .int .i64)] (.seq (.seq (.reg [(3, 0, true)]) (.cond .nil .nil)) (.seq (.blk (.seq (.reg [(2, 2, false), (3, 0, true), (7, 2, false), (8, 0, true)]) (.cond (.seq (.reg []) .nil) .nil))) (.reg [])))))) (.seq (.reg []) .nil))))
set_option maxRecDepth 100000 in
theorem nf41 (s : ByteArray) (w : World) (R : Ending → World → Prop) (h :
((((decide ((((ByteArray.size s) : Nat) : Int) < 1)) = true) →
(R (Ending.returned (Value.bool false)) w)) ∧
(((decide ((((ByteArray.size s) : Nat) : Int) < 1)) = false) →
((((decide ((((ByteArray.size s) : Nat) : Int) > 60)) = true) →
(R (Ending.returned (Value.bool false)) w)) ∧
(((decide ((((ByteArray.size s) : Nat) : Int) > 60)) = false) →
(∃ c5 : UInt8, ((((0 : Int) ≤ 0) ∧
((Nf.byteAt s 0) = (some c5))) ∧
((((decide ((((c5).toNat : Nat) : Int) = 32)) = true) →
(R (Ending.returned (Value.bool false)) w)) ∧
(((decide ((((c5).toNat : Nat) : Int) = 32)) = false) →
(∃ c8 : UInt8, ((((0 : Int) ≤ (IntKind.wrap IntKind.i64 ((((ByteArray.size s) : Nat) : Int) - 1))) ∧
((Nf.byteAt s ((IntKind.wrap IntKind.i64 ((((ByteArray.size s) : Nat) : Int) - 1))).toNat) = (some c8))) ∧
((((decide ((((c8).toNat : Nat) : Int) = 32)) = true) →
(R (Ending.returned (Value.bool false)) w)) ∧
(((decide ((((c8).toNat : Nat) : Int) = 32)) = false) →
(∃ k11 : (Nat → (Int → (World → Prop))), ((∃ n12 : Nat, (k11 n12 0 w)) ∧
(∀ n13 : Nat, ((Nat → Value) →
(∀ w15 : World, (∀ x16 : Int, ((k11 n13 x16 w15) →
((((decide (x16 < (((ByteArray.size s) : Nat) : Int))) = true) →
(∃ c19 : UInt8, ((((0 : Int) ≤ x16) ∧
((Nf.byteAt s (x16).toNat) = (some c19))) ∧
((((decide ((((c19).toNat : Nat) : Int) < 32)) = true) →
(R (Ending.returned (Value.bool false)) w15)) ∧
(((decide ((((c19).toNat : Nat) : Int) < 32)) = false) →
(∃ c22 : UInt8, ((((0 : Int) ≤ x16) ∧
((Nf.byteAt s (x16).toNat) = (some c22))) ∧
((((decide ((((c22).toNat : Nat) : Int) > 126)) = true) →
(R (Ending.returned (Value.bool false)) w15)) ∧
(((decide ((((c22).toNat : Nat) : Int) > 126)) = false) →
(∃ n25 : Nat, ((n25 < n13) ∧
(k11 n25 (IntKind.wrap IntKind.i64 (x16 + 1)) w15)))))))))))) ∧
(((decide (x16 < (((ByteArray.size s) : Nat) : Int))) = false) →
(R (Ending.returned (Value.bool true)) w15))))))))))))))))))))))) :
    Calls Tryd.prog 41 #[(.string s)] w R :=
  calls_of_vc an41 Tryd.func41 rfl (by kernel_rfl) (by kernel_rfl) (Eq.mp (by kernel_rfl) h)

/-- samaritan/samaritanref45.name -/
def an42 : An := (.seq (.reg []) (.seq (.seq (.reg []) (.blk (.loop [(3, .int .i64)] (.seq (.seq (.reg [(3, 0, true)]) (.cond .nil .nil)) (.seq (.blk (.seq (.reg [(2, 2, false)]) (.seq (.reg [(1, 0, true), (4, 0, true), (9, 0, true), (12, 0, true), (18, 0, true)]) (.cond (.seq (.reg []) .nil) .nil)))) (.reg [])))))) (.seq (.reg [(2, 0, true), (6, 0, true)]) .nil)))
set_option maxRecDepth 100000 in
theorem nf42 (s : ByteArray) (w : World) (R : Ending → World → Prop) (h :
(∃ k1 : (Nat → (Int → (World → Prop))), ((∃ n2 : Nat, (k1 n2 0 w)) ∧
(∀ n3 : Nat, ((Nat → Value) →
(∀ w5 : World, (∀ x6 : Int, ((k1 n3 x6 w5) →
((((decide (x6 < (((ByteArray.size s) : Nat) : Int))) = true) →
(∃ c9 : UInt8, ((((0 : Int) ≤ x6) ∧
((Nf.byteAt s (x6).toNat) = (some c9))) ∧
((((decide ((((c9).toNat : Nat) : Int) ≥ 97)) = true) →
((((decide ((((c9).toNat : Nat) : Int) ≤ 122)) = true) →
(∃ n12 : Nat, ((n12 < n3) ∧
(k1 n12 (IntKind.wrap IntKind.i64 (x6 + 1)) w5)))) ∧
(((decide ((((c9).toNat : Nat) : Int) ≤ 122)) = false) →
((((decide ((((c9).toNat : Nat) : Int) ≥ 48)) = true) →
((((decide ((((c9).toNat : Nat) : Int) ≤ 57)) = true) →
(∃ n16 : Nat, ((n16 < n3) ∧
(k1 n16 (IntKind.wrap IntKind.i64 (x6 + 1)) w5)))) ∧
(((decide ((((c9).toNat : Nat) : Int) ≤ 57)) = false) →
((((!(decide ((((c9).toNat : Nat) : Int) = 45))) = true) →
(R (Ending.returned (Value.bool false)) w5)) ∧
(((!(decide ((((c9).toNat : Nat) : Int) = 45))) = false) →
(∃ n20 : Nat, ((n20 < n3) ∧
(k1 n20 (IntKind.wrap IntKind.i64 (x6 + 1)) w5)))))))) ∧
(((decide ((((c9).toNat : Nat) : Int) ≥ 48)) = false) →
((((!(decide ((((c9).toNat : Nat) : Int) = 45))) = true) →
(R (Ending.returned (Value.bool false)) w5)) ∧
(((!(decide ((((c9).toNat : Nat) : Int) = 45))) = false) →
(∃ n24 : Nat, ((n24 < n3) ∧
(k1 n24 (IntKind.wrap IntKind.i64 (x6 + 1)) w5)))))))))) ∧
(((decide ((((c9).toNat : Nat) : Int) ≥ 97)) = false) →
((((decide ((((c9).toNat : Nat) : Int) ≥ 48)) = true) →
((((decide ((((c9).toNat : Nat) : Int) ≤ 57)) = true) →
(∃ n28 : Nat, ((n28 < n3) ∧
(k1 n28 (IntKind.wrap IntKind.i64 (x6 + 1)) w5)))) ∧
(((decide ((((c9).toNat : Nat) : Int) ≤ 57)) = false) →
((((!(decide ((((c9).toNat : Nat) : Int) = 45))) = true) →
(R (Ending.returned (Value.bool false)) w5)) ∧
(((!(decide ((((c9).toNat : Nat) : Int) = 45))) = false) →
(∃ n32 : Nat, ((n32 < n3) ∧
(k1 n32 (IntKind.wrap IntKind.i64 (x6 + 1)) w5)))))))) ∧
(((decide ((((c9).toNat : Nat) : Int) ≥ 48)) = false) →
((((!(decide ((((c9).toNat : Nat) : Int) = 45))) = true) →
(R (Ending.returned (Value.bool false)) w5)) ∧
(((!(decide ((((c9).toNat : Nat) : Int) = 45))) = false) →
(∃ n36 : Nat, ((n36 < n3) ∧
(k1 n36 (IntKind.wrap IntKind.i64 (x6 + 1)) w5)))))))))))) ∧
(((decide (x6 < (((ByteArray.size s) : Nat) : Int))) = false) →
((((decide ((((ByteArray.size s) : Nat) : Int) ≥ 1)) = true) →
((((decide ((((ByteArray.size s) : Nat) : Int) ≤ 40)) = true) →
(R (Ending.returned (Value.bool true)) w5)) ∧
(((decide ((((ByteArray.size s) : Nat) : Int) ≤ 40)) = false) →
(R (Ending.returned (Value.bool false)) w5)))) ∧
(((decide ((((ByteArray.size s) : Nat) : Int) ≥ 1)) = false) →
(R (Ending.returned (Value.bool false)) w5))))))))))))) :
    Calls Tryd.prog 42 #[(.string s)] w R :=
  calls_of_vc an42 Tryd.func42 rfl (by kernel_rfl) (by kernel_rfl) (Eq.mp (by kernel_rfl) h)

/-- samaritan/samaritanref45.phrase -/
def an43 : An := (.seq (.reg []) (.seq (.seq (.reg [(2, 0, true), (6, 0, true), (10, 2, false), (11, 0, true), (18, 2, false), (19, 0, true)]) (.cond (.seq (.reg []) .nil) .nil)) (.seq (.seq (.reg []) (.blk (.loop [(3, .int .i64)] (.seq (.seq (.reg [(3, 0, true)]) (.cond .nil .nil)) (.seq (.blk (.seq (.reg [(2, 2, false), (3, 0, true), (7, 2, false), (8, 0, true)]) (.cond (.seq (.reg []) .nil) .nil))) (.reg [])))))) (.seq (.reg []) .nil))))
set_option maxRecDepth 100000 in
theorem nf43 (s : ByteArray) (w : World) (R : Ending → World → Prop) (h :
((((decide ((((ByteArray.size s) : Nat) : Int) < 1)) = true) →
(R (Ending.returned (Value.bool false)) w)) ∧
(((decide ((((ByteArray.size s) : Nat) : Int) < 1)) = false) →
((((decide ((((ByteArray.size s) : Nat) : Int) > 60)) = true) →
(R (Ending.returned (Value.bool false)) w)) ∧
(((decide ((((ByteArray.size s) : Nat) : Int) > 60)) = false) →
(∃ c5 : UInt8, ((((0 : Int) ≤ 0) ∧
((Nf.byteAt s 0) = (some c5))) ∧
((((decide ((((c5).toNat : Nat) : Int) = 32)) = true) →
(R (Ending.returned (Value.bool false)) w)) ∧
(((decide ((((c5).toNat : Nat) : Int) = 32)) = false) →
(∃ c8 : UInt8, ((((0 : Int) ≤ (IntKind.wrap IntKind.i64 ((((ByteArray.size s) : Nat) : Int) - 1))) ∧
((Nf.byteAt s ((IntKind.wrap IntKind.i64 ((((ByteArray.size s) : Nat) : Int) - 1))).toNat) = (some c8))) ∧
((((decide ((((c8).toNat : Nat) : Int) = 32)) = true) →
(R (Ending.returned (Value.bool false)) w)) ∧
(((decide ((((c8).toNat : Nat) : Int) = 32)) = false) →
(∃ k11 : (Nat → (Int → (World → Prop))), ((∃ n12 : Nat, (k11 n12 0 w)) ∧
(∀ n13 : Nat, ((Nat → Value) →
(∀ w15 : World, (∀ x16 : Int, ((k11 n13 x16 w15) →
((((decide (x16 < (((ByteArray.size s) : Nat) : Int))) = true) →
(∃ c19 : UInt8, ((((0 : Int) ≤ x16) ∧
((Nf.byteAt s (x16).toNat) = (some c19))) ∧
((((decide ((((c19).toNat : Nat) : Int) < 32)) = true) →
(R (Ending.returned (Value.bool false)) w15)) ∧
(((decide ((((c19).toNat : Nat) : Int) < 32)) = false) →
(∃ c22 : UInt8, ((((0 : Int) ≤ x16) ∧
((Nf.byteAt s (x16).toNat) = (some c22))) ∧
((((decide ((((c22).toNat : Nat) : Int) > 126)) = true) →
(R (Ending.returned (Value.bool false)) w15)) ∧
(((decide ((((c22).toNat : Nat) : Int) > 126)) = false) →
(∃ n25 : Nat, ((n25 < n13) ∧
(k11 n25 (IntKind.wrap IntKind.i64 (x16 + 1)) w15)))))))))))) ∧
(((decide (x16 < (((ByteArray.size s) : Nat) : Int))) = false) →
(R (Ending.returned (Value.bool true)) w15))))))))))))))))))))))) :
    Calls Tryd.prog 43 #[(.string s)] w R :=
  calls_of_vc an43 Tryd.func43 rfl (by kernel_rfl) (by kernel_rfl) (Eq.mp (by kernel_rfl) h)

/-- samaritan/samaritanref45.has -/
def an44 : An := (.seq (.reg []) (.seq (.seq (.reg []) (.blk (.loop [(5, .int .i64)] (.seq (.seq (.reg [(3, 0, true)]) (.cond .nil .nil)) (.seq (.blk (.seq (.reg [(5, 3, true)]) (.cond (.seq (.reg []) .nil) .nil))) (.reg [])))))) (.seq (.reg []) .nil)))
set_option maxRecDepth 100000 in
theorem nf44 (l : Option Addr) (l_n : Nat) (l_c : Nat) (s : ByteArray) (w : World) (R : Ending → World → Prop) (h :
(∃ k1 : (Nat → (Int → (World → Prop))), ((∃ n2 : Nat, (k1 n2 0 w)) ∧
(∀ n3 : Nat, ((Nat → Value) →
(∀ w5 : World, (∀ x6 : Int, ((k1 n3 x6 w5) →
((((decide (x6 < ((l_n : Nat) : Int))) = true) →
(∃ a9 : Addr, ((l = (some a9)) ∧
((((0 : Int) ≤ x6) ∧
(x6 < ((l_n : Nat) : Int))) ∧
(∃ s10 : ByteArray, (((w5.cell? (Addr.add a9 ((x6).toNat * 1))) = (some (Value.string s10))) ∧
((((Nf.strEq s10 s) = true) →
(R (Ending.returned (Value.bool true)) w5)) ∧
(((Nf.strEq s10 s) = false) →
(∃ n13 : Nat, ((n13 < n3) ∧
(k1 n13 (IntKind.wrap IntKind.i64 (x6 + 1)) w5))))))))))) ∧
(((decide (x6 < ((l_n : Nat) : Int))) = false) →
(R (Ending.returned (Value.bool false)) w5))))))))))) :
    Calls Tryd.prog 44 #[(.slice l l_n l_c), (.string s)] w R :=
  calls_of_vc an44 Tryd.func44 rfl (by kernel_rfl) (by kernel_rfl) (Eq.mp (by kernel_rfl) h)

/-- samaritan/surge.Validate -/
def an16 : An := (.seq (.reg []) (.seq (.seq (.reg [(2, 0, true), (8, 0, true), (14, 0, true)]) (.cond (.seq (.reg []) .nil) .nil)) (.seq (.reg []) (.seq (.seq (.reg []) (.blk (.loop [(28, .int .i64)] (.seq (.reg [(0, 0, true)]) (.seq (.cond .nil .nil) (.seq (.blk (.seq (.reg []) (.seq (.seq (.reg [(2, 0, true), (6, 0, true)]) (.cond (.seq (.reg []) .nil) .nil)) (.seq (.reg []) (.blk (.loop [(45, .int .i64)] (.seq (.reg [(0, 0, true)]) (.seq (.cond .nil .nil) (.seq (.blk (.seq (.reg []) (.seq (.seq (.reg [(1, 0, true), (6, 1, true)]) (.cond (.seq (.reg []) .nil) .nil)) (.reg [(2, 1, false)])))) (.reg [])))))))))) (.reg []))))))) (.seq (.reg []) .nil)))))
set_option maxRecDepth 100000 in
theorem nf16 (p_Name : ByteArray) (p_Steps : Option Addr) (p_Steps_n : Nat) (p_Steps_c : Nat) (w : World) (R : Ending → World → Prop) (h :
(∀ w1 : World, ((w1 = (w.alloc (Obj.cells #[(Value.string p_Name), (Value.slice p_Steps p_Steps_n p_Steps_c)] 35 (0, 0)))) →
(∃ s3 : ByteArray, (((w1.cell? (⟨(hs w), 0, none⟩ : Addr)) = (some (Value.string s3))) ∧
(Calls Tryd.prog 40 #[(Value.string s3)] w1 (fun (e4 : Ending) => (fun (w5 : World) => (∃ b6 : Bool, ((e4 = (Ending.returned (Value.bool b6))) ∧
(((b6 = true) →
(∃ o8 : Option Addr, (∃ n9 : Nat, (∃ n10 : Nat, (((w5.cell? (⟨(hs w), 1, none⟩ : Addr)) = (some (Value.slice o8 n9 n10))) ∧
((((decide (((n9 : Nat) : Int) < 1)) = true) →
(R (Ending.returned (Value.int IntKind.i64 0)) w5)) ∧
(((decide (((n9 : Nat) : Int) < 1)) = false) →
(∃ o13 : Option Addr, (∃ n14 : Nat, (∃ n15 : Nat, (((w5.cell? (⟨(hs w), 1, none⟩ : Addr)) = (some (Value.slice o13 n14 n15))) ∧
((((decide (((n14 : Nat) : Int) > 5)) = true) →
(R (Ending.returned (Value.int IntKind.i64 0)) w5)) ∧
(((decide (((n14 : Nat) : Int) > 5)) = false) →
(∀ w18 : World, ((w18 = (w5.alloc (Obj.map #[] 0))) →
(∃ o20 : Option Addr, (∃ n21 : Nat, (∃ n22 : Nat, (((w18.cell? (⟨(hs w), 1, none⟩ : Addr)) = (some (Value.slice o20 n21 n22))) ∧
(∃ k23 : (Nat → (Int → (World → Prop))), ((∃ n24 : Nat, (k23 n24 0 w18)) ∧
(∀ n25 : Nat, ((Nat → Value) →
(∀ w27 : World, (∀ x28 : Int, ((k23 n25 x28 w27) →
((((decide (x28 < ((n21 : Nat) : Int))) = true) →
(∃ a31 : Addr, ((o20 = (some a31)) ∧
((((0 : Int) ≤ x28) ∧
(x28 < ((n21 : Nat) : Int))) ∧
(∃ o32 : Option Addr, (∃ n33 : Nat, (∃ n34 : Nat, (((w27.cell? (Addr.add a31 ((x28).toNat * 1))) = (some (Value.slice o32 n33 n34))) ∧
((((decide (((n33 : Nat) : Int) < 1)) = true) →
(R (Ending.returned (Value.int IntKind.i64 (IntKind.wrap IntKind.i64 (x28 + 1)))) w27)) ∧
(((decide (((n33 : Nat) : Int) < 1)) = false) →
((((decide (((n33 : Nat) : Int) > 16)) = true) →
(R (Ending.returned (Value.int IntKind.i64 (IntKind.wrap IntKind.i64 (x28 + 1)))) w27)) ∧
(((decide (((n33 : Nat) : Int) > 16)) = false) →
(∃ k39 : (Nat → (Int → (World → Prop))), ((∃ n40 : Nat, (k39 n40 0 w27)) ∧
(∀ n41 : Nat, ((Nat → Value) →
(∀ w43 : World, (∀ x44 : Int, ((k39 n41 x44 w43) →
((((decide (x44 < ((n33 : Nat) : Int))) = true) →
(∃ a47 : Addr, ((o32 = (some a47)) ∧
((((0 : Int) ≤ x44) ∧
(x44 < ((n33 : Nat) : Int))) ∧
(∃ s48 : ByteArray, (((w43.cell? (Addr.add a47 ((x44).toNat * 1))) = (some (Value.string s48))) ∧
(Calls Tryd.prog 41 #[(Value.string s48)] w43 (fun (e49 : Ending) => (fun (w50 : World) => (∃ b51 : Bool, ((e49 = (Ending.returned (Value.bool b51))) ∧
(((b51 = true) →
(RunOk Tryd.prog (Nf.Hold (Instr.lookup 80 (Value.map (some (hs w5))) (Value.string s48) false)) w50 (fun (v53 : Value) => (fun (w54 : World) => (∃ b55 : Bool, ((v53 = (Value.bool b55)) ∧
(((b55 = true) →
(R (Ending.returned (Value.int IntKind.i64 (IntKind.wrap IntKind.i64 (x28 + 1)))) w54)) ∧
((b55 = false) →
(RunOk Tryd.prog (Nf.Hold (Instr.mapUpdate 80 (Value.map (some (hs w5))) (Value.string s48) (Value.bool true))) w54 (fun (_ : Unit) => (fun (w59 : World) => (∃ n60 : Nat, ((n60 < n41) ∧
(k39 n60 (IntKind.wrap IntKind.i64 (x44 + 1)) w59)))))))))))))) ∧
((b51 = false) →
(R (Ending.returned (Value.int IntKind.i64 (IntKind.wrap IntKind.i64 (x28 + 1)))) w50)))))))))))))) ∧
(((decide (x44 < ((n33 : Nat) : Int))) = false) →
(∃ n63 : Nat, ((n63 < n25) ∧
(k23 n63 (IntKind.wrap IntKind.i64 (x28 + 1)) w43)))))))))))))))))))))))) ∧
(((decide (x28 < ((n21 : Nat) : Int))) = false) →
(R (Ending.returned (Value.int IntKind.i64 (-1))) w27))))))))))))))))))))))))))))) ∧
((b6 = false) →
(R (Ending.returned (Value.int IntKind.i64 0)) w5))))))))))))) :
    Calls Tryd.prog 16 #[(.agg #[(.string p_Name), (.slice p_Steps p_Steps_n p_Steps_c)])] w R :=
  calls_of_vc an16 Tryd.func16 rfl (by kernel_rfl) (by kernel_rfl) (Eq.mp (by kernel_rfl) h)

/-- samaritan/samaritanref45.Right -/
def an18 : An := (.seq (.reg []) (.seq (.seq (.reg [(2, 0, true), (8, 0, true), (14, 0, true)]) (.cond (.seq (.reg []) .nil) .nil)) (.seq (.reg []) (.seq (.seq (.reg []) (.blk (.loop [(3, .slice), (4, .int .i64)] (.seq (.seq (.reg [(4, 0, true)]) (.cond .nil .nil)) (.seq (.blk (.seq (.seq (.reg [(6, 0, true), (14, 0, true)]) (.cond (.seq (.reg []) .nil) .nil)) (.seq (.reg []) (.blk (.loop [(3, .slice), (5, .int .i64)] (.seq (.seq (.reg [(7, 0, true)]) (.cond .nil .nil)) (.seq (.blk (.seq (.reg []) (.seq (.seq (.reg [(1, 0, true), (6, 0, true)]) (.cond (.seq (.reg []) .nil) .nil)) (.reg [(3, 1, false)])))) (.reg [])))))))) (.reg [])))))) (.seq (.reg []) .nil)))))
set_option maxRecDepth 100000 in
theorem nf18 (p_Name : ByteArray) (p_Steps : Option Addr) (p_Steps_n : Nat) (p_Steps_c : Nat) (w : World) (R : Ending → World → Prop) (h :
(∀ w1 : World, ((w1 = (w.alloc (Obj.cells #[(Value.string p_Name), (Value.slice p_Steps p_Steps_n p_Steps_c)] 32 (0, 0)))) →
(∃ s3 : ByteArray, (((w1.cell? (⟨(hs w), 0, none⟩ : Addr)) = (some (Value.string s3))) ∧
(Calls Tryd.prog 42 #[(Value.string s3)] w1 (fun (e4 : Ending) => (fun (w5 : World) => (∃ b6 : Bool, ((e4 = (Ending.returned (Value.bool b6))) ∧
(((b6 = true) →
(∃ o8 : Option Addr, (∃ n9 : Nat, (∃ n10 : Nat, (((w5.cell? (⟨(hs w), 1, none⟩ : Addr)) = (some (Value.slice o8 n9 n10))) ∧
((((decide (((n9 : Nat) : Int) < 1)) = true) →
(R (Ending.returned (Value.int IntKind.i64 0)) w5)) ∧
(((decide (((n9 : Nat) : Int) < 1)) = false) →
(∃ o13 : Option Addr, (∃ n14 : Nat, (∃ n15 : Nat, (((w5.cell? (⟨(hs w), 1, none⟩ : Addr)) = (some (Value.slice o13 n14 n15))) ∧
((((decide (((n14 : Nat) : Int) > 5)) = true) →
(R (Ending.returned (Value.int IntKind.i64 0)) w5)) ∧
(((decide (((n14 : Nat) : Int) > 5)) = false) →
(∀ w18 : World, ((w18 = (w5.alloc (Obj.cells #[] 9 (0, 0)))) →
(∃ k20 : (Nat → (Option Addr → (Nat → (Nat → (Int → (World → Prop)))))), ((∃ n21 : Nat, (k20 n21 (some (⟨(hs w5), 0, none⟩ : Addr)) 0 0 0 w18)) ∧
(∀ n22 : Nat, ((Nat → Value) →
(∀ w24 : World, (∀ o25 : Option Addr, (∀ n26 : Nat, (∀ n27 : Nat, (∀ x28 : Int, ((k20 n22 o25 n26 n27 x28 w24) →
(∃ o30 : Option Addr, (∃ n31 : Nat, (∃ n32 : Nat, (((w24.cell? (⟨(hs w), 1, none⟩ : Addr)) = (some (Value.slice o30 n31 n32))) ∧
((((decide (x28 < ((n31 : Nat) : Int))) = true) →
(∃ o34 : Option Addr, (∃ n35 : Nat, (∃ n36 : Nat, (((w24.cell? (⟨(hs w), 1, none⟩ : Addr)) = (some (Value.slice o34 n35 n36))) ∧
(∃ a37 : Addr, ((o34 = (some a37)) ∧
((((0 : Int) ≤ x28) ∧
(x28 < ((n35 : Nat) : Int))) ∧
(∃ o38 : Option Addr, (∃ n39 : Nat, (∃ n40 : Nat, (((w24.cell? (Addr.add a37 ((x28).toNat * 1))) = (some (Value.slice o38 n39 n40))) ∧
((((decide (((n39 : Nat) : Int) < 1)) = true) →
(R (Ending.returned (Value.int IntKind.i64 (IntKind.wrap IntKind.i64 (x28 + 1)))) w24)) ∧
(((decide (((n39 : Nat) : Int) < 1)) = false) →
(∃ o43 : Option Addr, (∃ n44 : Nat, (∃ n45 : Nat, (((w24.cell? (⟨(hs w), 1, none⟩ : Addr)) = (some (Value.slice o43 n44 n45))) ∧
(∃ a46 : Addr, ((o43 = (some a46)) ∧
((((0 : Int) ≤ x28) ∧
(x28 < ((n44 : Nat) : Int))) ∧
(∃ o47 : Option Addr, (∃ n48 : Nat, (∃ n49 : Nat, (((w24.cell? (Addr.add a46 ((x28).toNat * 1))) = (some (Value.slice o47 n48 n49))) ∧
((((decide (((n48 : Nat) : Int) > 16)) = true) →
(R (Ending.returned (Value.int IntKind.i64 (IntKind.wrap IntKind.i64 (x28 + 1)))) w24)) ∧
(((decide (((n48 : Nat) : Int) > 16)) = false) →
(∃ k52 : (Nat → (Option Addr → (Nat → (Nat → (Int → (World → Prop)))))), ((∃ n53 : Nat, (k52 n53 o25 n26 n27 0 w24)) ∧
(∀ n54 : Nat, ((Nat → Value) →
(∀ w56 : World, (∀ o57 : Option Addr, (∀ n58 : Nat, (∀ n59 : Nat, (∀ x60 : Int, ((k52 n54 o57 n58 n59 x60 w56) →
(∃ o62 : Option Addr, (∃ n63 : Nat, (∃ n64 : Nat, (((w56.cell? (⟨(hs w), 1, none⟩ : Addr)) = (some (Value.slice o62 n63 n64))) ∧
(∃ a65 : Addr, ((o62 = (some a65)) ∧
((((0 : Int) ≤ x28) ∧
(x28 < ((n63 : Nat) : Int))) ∧
(∃ o66 : Option Addr, (∃ n67 : Nat, (∃ n68 : Nat, (((w56.cell? (Addr.add a65 ((x28).toNat * 1))) = (some (Value.slice o66 n67 n68))) ∧
((((decide (x60 < ((n67 : Nat) : Int))) = true) →
(∃ o70 : Option Addr, (∃ n71 : Nat, (∃ n72 : Nat, (((w56.cell? (⟨(hs w), 1, none⟩ : Addr)) = (some (Value.slice o70 n71 n72))) ∧
(∃ a73 : Addr, ((o70 = (some a73)) ∧
((((0 : Int) ≤ x28) ∧
(x28 < ((n71 : Nat) : Int))) ∧
(∃ o74 : Option Addr, (∃ n75 : Nat, (∃ n76 : Nat, (((w56.cell? (Addr.add a73 ((x28).toNat * 1))) = (some (Value.slice o74 n75 n76))) ∧
(∃ a77 : Addr, ((o74 = (some a77)) ∧
((((0 : Int) ≤ x60) ∧
(x60 < ((n75 : Nat) : Int))) ∧
(∃ s78 : ByteArray, (((w56.cell? (Addr.add a77 ((x60).toNat * 1))) = (some (Value.string s78))) ∧
(Calls Tryd.prog 43 #[(Value.string s78)] w56 (fun (e79 : Ending) => (fun (w80 : World) => (∃ b81 : Bool, ((e79 = (Ending.returned (Value.bool b81))) ∧
(((b81 = true) →
(Calls Tryd.prog 44 #[(Value.slice o57 n58 n59), (Value.string s78)] w80 (fun (e83 : Ending) => (fun (w84 : World) => (∃ b85 : Bool, ((e83 = (Ending.returned (Value.bool b85))) ∧
(((b85 = true) →
(R (Ending.returned (Value.int IntKind.i64 (IntKind.wrap IntKind.i64 (x28 + 1)))) w84)) ∧
((b85 = false) →
(∀ w88 : World, ((w88 = (w84.alloc (Obj.cells #[(Value.string s78)] 9 (0, 0)))) →
(RunOk Tryd.prog (Nf.Hold (Builtin.append_ #[52, 52] 52 #[(Value.slice o57 n58 n59), (Value.slice (some (⟨(hs w84), 0, none⟩ : Addr)) 1 1)])) w88 (fun (v90 : Value) => (fun (w91 : World) => (∃ o92 : Option Addr, (∃ n93 : Nat, (∃ n94 : Nat, ((v90 = (Value.slice o92 n93 n94)) ∧
(∃ n95 : Nat, ((n95 < n54) ∧
(k52 n95 o92 n93 n94 (IntKind.wrap IntKind.i64 (x60 + 1)) w91)))))))))))))))))))) ∧
((b81 = false) →
(R (Ending.returned (Value.int IntKind.i64 (IntKind.wrap IntKind.i64 (x28 + 1)))) w80))))))))))))))))))))))))) ∧
(((decide (x60 < ((n67 : Nat) : Int))) = false) →
(∃ n98 : Nat, ((n98 < n22) ∧
(k20 n98 o57 n58 n59 (IntKind.wrap IntKind.i64 (x28 + 1)) w56))))))))))))))))))))))))))))))))))))))))))))))))))))) ∧
(((decide (x28 < ((n31 : Nat) : Int))) = false) →
(R (Ending.returned (Value.int IntKind.i64 (-1))) w24)))))))))))))))))))))))))))))))) ∧
((b6 = false) →
(R (Ending.returned (Value.int IntKind.i64 0)) w5))))))))))))) :
    Calls Tryd.prog 18 #[(.agg #[(.string p_Name), (.slice p_Steps p_Steps_n p_Steps_c)])] w R :=
  calls_of_vc an18 Tryd.func18 rfl (by kernel_rfl) (by kernel_rfl) (Eq.mp (by kernel_rfl) h)

/-- samaritan/samaritanref45.Few -/
def an15 : An := (.seq (.reg []) (.seq (.reg []) (.seq (.seq (.reg []) (.blk (.loop [(3, .int .i64), (4, .int .i64)] (.seq (.seq (.reg [(4, 0, true), (7, 0, true)]) (.cond .nil .nil)) (.seq (.blk (.seq (.reg []) (.blk (.loop [(3, .int .i64), (5, .int .i64)] (.seq (.seq (.reg [(7, 0, true), (10, 0, true)]) (.cond .nil .nil)) (.seq (.blk (.reg [])) (.reg []))))))) (.reg [])))))) (.seq (.reg [(1, 0, true), (6, 0, true)]) .nil))))
set_option maxRecDepth 100000 in
theorem nf15 (p_Name : ByteArray) (p_Steps : Option Addr) (p_Steps_n : Nat) (p_Steps_c : Nat) (w : World) (R : Ending → World → Prop) (h :
(∀ w1 : World, ((w1 = (w.alloc (Obj.cells #[(Value.string p_Name), (Value.slice p_Steps p_Steps_n p_Steps_c)] 32 (0, 0)))) →
(∃ s3 : ByteArray, (((w1.cell? (⟨(hs w), 0, none⟩ : Addr)) = (some (Value.string s3))) ∧
(∃ k4 : (Nat → (Int → (Int → (World → Prop)))), ((∃ n5 : Nat, (k4 n5 (((ByteArray.size s3) : Nat) : Int) 0 w1)) ∧
(∀ n6 : Nat, ((Nat → Value) →
(∀ w8 : World, (∀ x9 : Int, (∀ x10 : Int, ((k4 n6 x9 x10 w8) →
(∃ o12 : Option Addr, (∃ n13 : Nat, (∃ n14 : Nat, (((w8.cell? (⟨(hs w), 1, none⟩ : Addr)) = (some (Value.slice o12 n13 n14))) ∧
((((decide (x10 < ((n13 : Nat) : Int))) = true) →
((((decide (x9 ≤ 3000)) = true) →
(∃ k17 : (Nat → (Int → (Int → (World → Prop)))), ((∃ n18 : Nat, (k17 n18 x9 0 w8)) ∧
(∀ n19 : Nat, ((Nat → Value) →
(∀ w21 : World, (∀ x22 : Int, (∀ x23 : Int, ((k17 n19 x22 x23 w21) →
(∃ o25 : Option Addr, (∃ n26 : Nat, (∃ n27 : Nat, (((w21.cell? (⟨(hs w), 1, none⟩ : Addr)) = (some (Value.slice o25 n26 n27))) ∧
(∃ a28 : Addr, ((o25 = (some a28)) ∧
((((0 : Int) ≤ x10) ∧
(x10 < ((n26 : Nat) : Int))) ∧
(∃ o29 : Option Addr, (∃ n30 : Nat, (∃ n31 : Nat, (((w21.cell? (Addr.add a28 ((x10).toNat * 1))) = (some (Value.slice o29 n30 n31))) ∧
((((decide (x23 < ((n30 : Nat) : Int))) = true) →
((((decide (x22 ≤ 3000)) = true) →
(∃ o34 : Option Addr, (∃ n35 : Nat, (∃ n36 : Nat, (((w21.cell? (⟨(hs w), 1, none⟩ : Addr)) = (some (Value.slice o34 n35 n36))) ∧
(∃ a37 : Addr, ((o34 = (some a37)) ∧
((((0 : Int) ≤ x10) ∧
(x10 < ((n35 : Nat) : Int))) ∧
(∃ o38 : Option Addr, (∃ n39 : Nat, (∃ n40 : Nat, (((w21.cell? (Addr.add a37 ((x10).toNat * 1))) = (some (Value.slice o38 n39 n40))) ∧
(∃ a41 : Addr, ((o38 = (some a41)) ∧
((((0 : Int) ≤ x23) ∧
(x23 < ((n39 : Nat) : Int))) ∧
(∃ s42 : ByteArray, (((w21.cell? (Addr.add a41 ((x23).toNat * 1))) = (some (Value.string s42))) ∧
(∃ n43 : Nat, ((n43 < n19) ∧
(k17 n43 (IntKind.wrap IntKind.i64 ((IntKind.wrap IntKind.i64 (x22 + 3)) + (((ByteArray.size s42) : Nat) : Int))) (IntKind.wrap IntKind.i64 (x23 + 1)) w21)))))))))))))))))))) ∧
(((decide (x22 ≤ 3000)) = false) →
(∃ n45 : Nat, ((n45 < n6) ∧
(k4 n45 x22 (IntKind.wrap IntKind.i64 (x10 + 1)) w21)))))) ∧
(((decide (x23 < ((n30 : Nat) : Int))) = false) →
(∃ n47 : Nat, ((n47 < n6) ∧
(k4 n47 x22 (IntKind.wrap IntKind.i64 (x10 + 1)) w21))))))))))))))))))))))))) ∧
(((decide (x9 ≤ 3000)) = false) →
((((decide (x9 ≤ 3000)) = true) →
(∃ o50 : Option Addr, (∃ n51 : Nat, (∃ n52 : Nat, (((w8.cell? (⟨(hs w), 1, none⟩ : Addr)) = (some (Value.slice o50 n51 n52))) ∧
((((decide (((n51 : Nat) : Int) ≤ 8)) = true) →
(R (Ending.returned (Value.bool true)) w8)) ∧
(((decide (((n51 : Nat) : Int) ≤ 8)) = false) →
(R (Ending.returned (Value.bool false)) w8)))))))) ∧
(((decide (x9 ≤ 3000)) = false) →
(R (Ending.returned (Value.bool false)) w8)))))) ∧
(((decide (x10 < ((n13 : Nat) : Int))) = false) →
((((decide (x9 ≤ 3000)) = true) →
(∃ o58 : Option Addr, (∃ n59 : Nat, (∃ n60 : Nat, (((w8.cell? (⟨(hs w), 1, none⟩ : Addr)) = (some (Value.slice o58 n59 n60))) ∧
((((decide (((n59 : Nat) : Int) ≤ 8)) = true) →
(R (Ending.returned (Value.bool true)) w8)) ∧
(((decide (((n59 : Nat) : Int) ≤ 8)) = false) →
(R (Ending.returned (Value.bool false)) w8)))))))) ∧
(((decide (x9 ≤ 3000)) = false) →
(R (Ending.returned (Value.bool false)) w8)))))))))))))))))))))) :
    Calls Tryd.prog 15 #[(.agg #[(.string p_Name), (.slice p_Steps p_Steps_n p_Steps_c)])] w R :=
  calls_of_vc an15 Tryd.func15 rfl (by kernel_rfl) (by kernel_rfl) (Eq.mp (by kernel_rfl) h)

/-- samaritan/samaritanlaw45.own -/
def an17 : An := (.seq (.reg []) (.seq (.reg []) (.seq (.seq (.reg []) (.blk (.loop [(12, .int .i64)] (.seq (.reg [(0, 0, true)]) (.seq (.cond .nil .nil) (.seq (.blk (.seq (.reg []) (.regD [(4, 1, false), (6, 1, false)] [0, 1, 3, 2, 4, 5, 6, 7, 8] [2, 4, 5, 6, 8]))) (.reg []))))))) (.seq (.reg []) .nil))))
set_option maxRecDepth 100000 in
theorem nf17 (p_Name : ByteArray) (p_Steps : Option Addr) (p_Steps_n : Nat) (p_Steps_c : Nat) (w : World) (R : Ending → World → Prop) (h :
(∀ w1 : World, ((w1 = (w.alloc (Obj.cells #[(Value.string p_Name), (Value.slice p_Steps p_Steps_n p_Steps_c)] 32 (0, 0)))) →
(∀ w3 : World, ((w3 = (w1.alloc (Obj.cells #[(Value.string (ByteArray.mk #[])), (Value.slice none 0 0)] 35 (0, 0)))) →
(∃ s5 : ByteArray, (((w3.cell? (⟨(hs w), 0, none⟩ : Addr)) = (some (Value.string s5))) ∧
(∀ w6 : World, ((w6 = (w3.alloc (Obj.cells #[(Value.string (ByteArray.mk #[])), (Value.slice none 0 0)] 35 (0, 0)))) →
((Nf.There w6 (⟨(hs w3), 0, none⟩ : Addr) 2) ∧
(∀ w8 : World, ((w8 = (Nf.setCells w6 (⟨(hs w3), 0, none⟩ : Addr) [(Value.string s5), (Value.slice none 0 0)] 0)) →
(∃ o10 : Option Addr, (∃ n11 : Nat, (∃ n12 : Nat, (((w8.cell? (⟨(hs w), 1, none⟩ : Addr)) = (some (Value.slice o10 n11 n12))) ∧
(∃ k13 : (Nat → (Int → (World → Prop))), ((∃ n14 : Nat, (k13 n14 0 w8)) ∧
(∀ n15 : Nat, ((Nat → Value) →
(∀ w17 : World, (∀ x18 : Int, ((k13 n15 x18 w17) →
((((decide (x18 < ((n11 : Nat) : Int))) = true) →
(∃ a21 : Addr, ((o10 = (some a21)) ∧
((((0 : Int) ≤ x18) ∧
(x18 < ((n11 : Nat) : Int))) ∧
(∃ o22 : Option Addr, (∃ n23 : Nat, (∃ n24 : Nat, (((w17.cell? (Addr.add a21 ((x18).toNat * 1))) = (some (Value.slice o22 n23 n24))) ∧
(∀ w25 : World, ((w25 = w17.drew) →
(∃ o27 : Option Addr, (∃ n28 : Nat, (∃ n29 : Nat, (((w25.cell? (⟨(hs w3), 1, none⟩ : Addr)) = (some (Value.slice o27 n28 n29))) ∧
(∀ w30 : World, ((w30 = (w25.alloc (Obj.cells #[] 9 (0, 0)))) →
((Nf.Kept w25 w30 (⟨(hs w3), 1, none⟩ : Addr) 1) ∧
(RunOk Tryd.prog (Nf.Hold (Builtin.append_ #[52, 52] 52 #[(Value.slice (some (⟨(hs w25), 0, none⟩ : Addr)) 0 0), (Value.slice o22 n23 n24)])) w30 (fun (v32 : Value) => (fun (w33 : World) => (∃ o34 : Option Addr, (∃ n35 : Nat, (∃ n36 : Nat, ((v32 = (Value.slice o34 n35 n36)) ∧
((Nf.Kept w25 w33 (⟨(hs w3), 1, none⟩ : Addr) 1) ∧
(∀ w37 : World, ((w37 = (w33.alloc (Obj.cells #[(Value.slice o34 n35 n36)] 52 (0, 0)))) →
((Nf.Kept w25 w37 (⟨(hs w3), 1, none⟩ : Addr) 1) ∧
(RunOk Tryd.prog (Nf.Hold (Builtin.append_ #[30, 30] 30 #[(Value.slice o27 n28 n29), (Value.slice (some (⟨(hs w33), 0, none⟩ : Addr)) 1 1)])) w37 (fun (v39 : Value) => (fun (w40 : World) => (∃ o41 : Option Addr, (∃ n42 : Nat, (∃ n43 : Nat, ((v39 = (Value.slice o41 n42 n43)) ∧
((Nf.There w40 (⟨(hs w3), 1, none⟩ : Addr) 1) ∧
(∀ w44 : World, ((w44 = (Nf.setCells w40 (⟨(hs w3), 1, none⟩ : Addr) [(Value.slice o41 n42 n43)] 0)) →
(∃ n46 : Nat, ((n46 < n15) ∧
(k13 n46 (IntKind.wrap IntKind.i64 (x18 + 1)) w44))))))))))))))))))))))))))))))))))))))))) ∧
(((decide (x18 < ((n11 : Nat) : Int))) = false) →
(∃ s48 : ByteArray, (((w17.cell? (⟨(hs w3), 0, none⟩ : Addr)) = (some (Value.string s48))) ∧
(∃ o49 : Option Addr, (∃ n50 : Nat, (∃ n51 : Nat, (((w17.cell? (⟨(hs w3), 1, none⟩ : Addr)) = (some (Value.slice o49 n50 n51))) ∧
((Nf.There w17 (⟨(hs w1), 0, none⟩ : Addr) 2) ∧
(∀ w52 : World, ((w52 = (Nf.setCells w17 (⟨(hs w1), 0, none⟩ : Addr) [(Value.string s48), (Value.slice o49 n50 n51)] 0)) →
(∃ s54 : ByteArray, (((w52.cell? (⟨(hs w1), 0, none⟩ : Addr)) = (some (Value.string s54))) ∧
(∃ o55 : Option Addr, (∃ n56 : Nat, (∃ n57 : Nat, (((w52.cell? (⟨(hs w1), 1, none⟩ : Addr)) = (some (Value.slice o55 n56 n57))) ∧
(R (Ending.returned (Value.agg #[(Value.string s54), (Value.slice o55 n56 n57)])) w52))))))))))))))))))))))))))))))))))))))))) :
    Calls Tryd.prog 17 #[(.agg #[(.string p_Name), (.slice p_Steps p_Steps_n p_Steps_c)])] w R :=
  calls_of_vc an17 Tryd.func17 rfl (by kernel_rfl) (by kernel_rfl) (Eq.mp (by kernel_rfl) h)

/-- samaritan/samaritanlaw45.back -/
def an32 : An := (.seq (.reg []) (.seq (.reg []) .nil))
set_option maxRecDepth 100000 in
theorem nf32 (p_Name : ByteArray) (p_Steps : Option Addr) (p_Steps_n : Nat) (p_Steps_c : Nat) (w : World) (R : Ending → World → Prop) (h :
(∀ w1 : World, ((w1 = (w.alloc (Obj.cells #[(Value.string p_Name), (Value.slice p_Steps p_Steps_n p_Steps_c)] 35 (0, 0)))) →
(∀ w3 : World, ((w3 = (w1.alloc (Obj.cells #[(Value.string (ByteArray.mk #[])), (Value.slice none 0 0)] 32 (0, 0)))) →
(∃ s5 : ByteArray, (((w3.cell? (⟨(hs w), 0, none⟩ : Addr)) = (some (Value.string s5))) ∧
(∃ o6 : Option Addr, (∃ n7 : Nat, (∃ n8 : Nat, (((w3.cell? (⟨(hs w), 1, none⟩ : Addr)) = (some (Value.slice o6 n7 n8))) ∧
((Nf.There w3 (⟨(hs w1), 0, none⟩ : Addr) 2) ∧
(∀ w9 : World, ((w9 = (Nf.setCells w3 (⟨(hs w1), 0, none⟩ : Addr) [(Value.string s5), (Value.slice o6 n7 n8)] 0)) →
(∃ s11 : ByteArray, (((w9.cell? (⟨(hs w1), 0, none⟩ : Addr)) = (some (Value.string s11))) ∧
(∃ o12 : Option Addr, (∃ n13 : Nat, (∃ n14 : Nat, (((w9.cell? (⟨(hs w1), 1, none⟩ : Addr)) = (some (Value.slice o12 n13 n14))) ∧
(R (Ending.returned (Value.agg #[(Value.string s11), (Value.slice o12 n13 n14)])) w9))))))))))))))))))))) :
    Calls Tryd.prog 32 #[(.agg #[(.string p_Name), (.slice p_Steps p_Steps_n p_Steps_c)])] w R :=
  calls_of_vc an32 Tryd.func32 rfl (by kernel_rfl) (by kernel_rfl) (Eq.mp (by kernel_rfl) h)

/-- samaritan/samaritanlaw45.hall -/
def an34 : An := (.seq (.reg []) (.seq (.reg []) .nil))
set_option maxRecDepth 100000 in
theorem nf34  (w : World) (R : Ending → World → Prop) (h :
(∀ w1 : World, ((w1 = (w.alloc (Obj.cells #[(Value.string (ByteArray.mk #[])), (Value.slice none 0 0)] 32 (0, 0)))) →
(∀ w3 : World, ((w3 = (w1.alloc (Obj.cells #[(Value.string (ByteArray.mk #[(99 : UInt8), (97 : UInt8), (108 : UInt8), (108 : UInt8), (32 : UInt8), (105 : UInt8), (110 : UInt8)]))] 9 (0, 0)))) →
(∀ w5 : World, ((w5 = (w3.alloc (Obj.cells #[(Value.string (ByteArray.mk #[(111 : UInt8), (112 : UInt8), (101 : UInt8), (110 : UInt8), (32 : UInt8), (104 : UInt8), (97 : UInt8), (108 : UInt8), (108 : UInt8)]))] 9 (0, 0)))) →
(∀ w7 : World, ((w7 = (w5.alloc (Obj.cells #[(Value.slice (some (⟨(hs w1), 0, none⟩ : Addr)) 1 1), (Value.slice (some (⟨(hs w3), 0, none⟩ : Addr)) 1 1)] 52 (0, 0)))) →
((Nf.There w7 (⟨(hs w), 0, none⟩ : Addr) 2) ∧
(∀ w9 : World, ((w9 = (Nf.setCells w7 (⟨(hs w), 0, none⟩ : Addr) [(Value.string (ByteArray.mk #[(104 : UInt8), (97 : UInt8), (108 : UInt8), (108 : UInt8)])), (Value.slice (some (⟨(hs w5), 0, none⟩ : Addr)) 2 2)] 0)) →
(∃ s11 : ByteArray, (((w9.cell? (⟨(hs w), 0, none⟩ : Addr)) = (some (Value.string s11))) ∧
(∃ o12 : Option Addr, (∃ n13 : Nat, (∃ n14 : Nat, (((w9.cell? (⟨(hs w), 1, none⟩ : Addr)) = (some (Value.slice o12 n13 n14))) ∧
(R (Ending.returned (Value.agg #[(Value.string s11), (Value.slice o12 n13 n14)])) w9))))))))))))))))))) :
    Calls Tryd.prog 34 #[] w R :=
  calls_of_vc an34 Tryd.func34 rfl (by kernel_rfl) (by kernel_rfl) (Eq.mp (by kernel_rfl) h)

/-- samaritan/samaritanref45.Texts -/
def an23 : An := (.seq (.reg []) (.seq (.seq (.reg [(4, 0, true)]) (.cond (.seq (.reg []) .nil) .nil)) (.seq (.seq (.reg []) (.blk (.loop [(5, .int .i64)] (.seq (.seq (.reg [(3, 0, true)]) (.cond .nil .nil)) (.seq (.blk (.seq (.regD [(8, 3, true)] [0, 1, 2, 3, 4, 5, 6, 7, 8] []) (.cond (.seq (.reg []) .nil) .nil))) (.reg [])))))) (.seq (.reg []) .nil))))
set_option maxRecDepth 100000 in
theorem nf23 (a : Option Addr) (a_n : Nat) (a_c : Nat) (b : Option Addr) (b_n : Nat) (b_c : Nat) (w : World) (R : Ending → World → Prop) (h :
((((!(decide (((a_n : Nat) : Int) = ((b_n : Nat) : Int)))) = true) →
(R (Ending.returned (Value.bool false)) w)) ∧
(((!(decide (((a_n : Nat) : Int) = ((b_n : Nat) : Int)))) = false) →
(∃ k3 : (Nat → (Int → (World → Prop))), ((∃ n4 : Nat, (k3 n4 0 w)) ∧
(∀ n5 : Nat, ((Nat → Value) →
(∀ w7 : World, (∀ x8 : Int, ((k3 n5 x8 w7) →
((((decide (x8 < ((a_n : Nat) : Int))) = true) →
(∀ w11 : World, ((w11 = w7.drew) →
(∃ a13 : Addr, ((a = (some a13)) ∧
((((0 : Int) ≤ x8) ∧
(x8 < ((a_n : Nat) : Int))) ∧
(∃ s14 : ByteArray, (((w11.cell? (Addr.add a13 ((x8).toNat * 1))) = (some (Value.string s14))) ∧
(∃ a15 : Addr, ((b = (some a15)) ∧
((((0 : Int) ≤ x8) ∧
(x8 < ((b_n : Nat) : Int))) ∧
(∃ s16 : ByteArray, (((w11.cell? (Addr.add a15 ((x8).toNat * 1))) = (some (Value.string s16))) ∧
((((!(Nf.strEq s14 s16)) = true) →
(R (Ending.returned (Value.bool false)) w11)) ∧
(((!(Nf.strEq s14 s16)) = false) →
(∃ n19 : Nat, ((n19 < n5) ∧
(k3 n19 (IntKind.wrap IntKind.i64 (x8 + 1)) w11)))))))))))))))))) ∧
(((decide (x8 < ((a_n : Nat) : Int))) = false) →
(R (Ending.returned (Value.bool true)) w7))))))))))))) :
    Calls Tryd.prog 23 #[(.slice a a_n a_c), (.slice b b_n b_c)] w R :=
  calls_of_vc an23 Tryd.func23 rfl (by kernel_rfl) (by kernel_rfl) (Eq.mp (by kernel_rfl) h)

/-- samaritan/samaritanref45.Same -/
def an31 : An := (.seq (.reg []) (.seq (.seq (.reg [(4, 3, true), (12, 0, true)]) (.cond (.seq (.reg []) .nil) .nil)) (.seq (.seq (.reg []) (.blk (.loop [(5, .int .i64)] (.seq (.seq (.reg [(4, 0, true)]) (.cond .nil .nil)) (.seq (.blk (.seq (.regD [(10, 0, true)] [0, 1, 2, 3, 4, 5, 6, 7, 8, 9, 10, 11] [10]) (.cond (.seq (.reg []) .nil) .nil))) (.reg [])))))) (.seq (.reg []) .nil))))
set_option maxRecDepth 100000 in
theorem nf31 (a_Name : ByteArray) (a_Steps : Option Addr) (a_Steps_n : Nat) (a_Steps_c : Nat) (b_Name : ByteArray) (b_Steps : Option Addr) (b_Steps_n : Nat) (b_Steps_c : Nat) (w : World) (R : Ending → World → Prop) (h :
(∀ w1 : World, ((w1 = (w.alloc (Obj.cells #[(Value.string a_Name), (Value.slice a_Steps a_Steps_n a_Steps_c)] 32 (0, 0)))) →
(∀ w3 : World, ((w3 = (w1.alloc (Obj.cells #[(Value.string b_Name), (Value.slice b_Steps b_Steps_n b_Steps_c)] 32 (0, 0)))) →
(∃ s5 : ByteArray, (((w3.cell? (⟨(hs w), 0, none⟩ : Addr)) = (some (Value.string s5))) ∧
(∃ s6 : ByteArray, (((w3.cell? (⟨(hs w1), 0, none⟩ : Addr)) = (some (Value.string s6))) ∧
((((!(Nf.strEq s5 s6)) = true) →
(R (Ending.returned (Value.bool false)) w3)) ∧
(((!(Nf.strEq s5 s6)) = false) →
(∃ o9 : Option Addr, (∃ n10 : Nat, (∃ n11 : Nat, (((w3.cell? (⟨(hs w), 1, none⟩ : Addr)) = (some (Value.slice o9 n10 n11))) ∧
(∃ o12 : Option Addr, (∃ n13 : Nat, (∃ n14 : Nat, (((w3.cell? (⟨(hs w1), 1, none⟩ : Addr)) = (some (Value.slice o12 n13 n14))) ∧
((((!(decide (((n10 : Nat) : Int) = ((n13 : Nat) : Int)))) = true) →
(R (Ending.returned (Value.bool false)) w3)) ∧
(((!(decide (((n10 : Nat) : Int) = ((n13 : Nat) : Int)))) = false) →
(∃ k17 : (Nat → (Int → (World → Prop))), ((∃ n18 : Nat, (k17 n18 0 w3)) ∧
(∀ n19 : Nat, ((Nat → Value) →
(∀ w21 : World, (∀ x22 : Int, ((k17 n19 x22 w21) →
(∃ o24 : Option Addr, (∃ n25 : Nat, (∃ n26 : Nat, (((w21.cell? (⟨(hs w), 1, none⟩ : Addr)) = (some (Value.slice o24 n25 n26))) ∧
((((decide (x22 < ((n25 : Nat) : Int))) = true) →
(∀ w28 : World, ((w28 = w21.drew) →
(∃ o30 : Option Addr, (∃ n31 : Nat, (∃ n32 : Nat, (((w28.cell? (⟨(hs w), 1, none⟩ : Addr)) = (some (Value.slice o30 n31 n32))) ∧
(∃ a33 : Addr, ((o30 = (some a33)) ∧
((((0 : Int) ≤ x22) ∧
(x22 < ((n31 : Nat) : Int))) ∧
(∃ o34 : Option Addr, (∃ n35 : Nat, (∃ n36 : Nat, (((w28.cell? (Addr.add a33 ((x22).toNat * 1))) = (some (Value.slice o34 n35 n36))) ∧
(∃ o37 : Option Addr, (∃ n38 : Nat, (∃ n39 : Nat, (((w28.cell? (⟨(hs w1), 1, none⟩ : Addr)) = (some (Value.slice o37 n38 n39))) ∧
(∃ a40 : Addr, ((o37 = (some a40)) ∧
((((0 : Int) ≤ x22) ∧
(x22 < ((n38 : Nat) : Int))) ∧
(∃ o41 : Option Addr, (∃ n42 : Nat, (∃ n43 : Nat, (((w28.cell? (Addr.add a40 ((x22).toNat * 1))) = (some (Value.slice o41 n42 n43))) ∧
(Calls Tryd.prog 23 #[(Value.slice o34 n35 n36), (Value.slice o41 n42 n43)] w28 (fun (e44 : Ending) => (fun (w45 : World) => (∃ b46 : Bool, ((e44 = (Ending.returned (Value.bool b46))) ∧
(((b46 = true) →
(∃ n48 : Nat, ((n48 < n19) ∧
(k17 n48 (IntKind.wrap IntKind.i64 (x22 + 1)) w45)))) ∧
((b46 = false) →
(R (Ending.returned (Value.bool false)) w45))))))))))))))))))))))))))))))))) ∧
(((decide (x22 < ((n25 : Nat) : Int))) = false) →
(R (Ending.returned (Value.bool true)) w21))))))))))))))))))))))))))))))))))) :
    Calls Tryd.prog 31 #[(.agg #[(.string a_Name), (.slice a_Steps a_Steps_n a_Steps_c)]), (.agg #[(.string b_Name), (.slice b_Steps b_Steps_n b_Steps_c)])] w R :=
  calls_of_vc an31 Tryd.func31 rfl (by kernel_rfl) (by kernel_rfl) (Eq.mp (by kernel_rfl) h)

/-- samaritan/samaritanref01.Hold -/
def an46 : An := (.seq (.reg []) (.seq (.seq (.reg [(1, 0, true)]) (.cond (.seq (.reg []) .nil) .nil)) (.seq (.seq (.reg [(2, 0, true)]) (.cond (.seq (.reg []) .nil) .nil)) (.seq (.reg []) .nil))))
set_option maxRecDepth 100000 in
theorem nf46 (t : Int) (w : World) (R : Ending → World → Prop) (h :
((((decide (t < 0)) = true) →
(R (Ending.returned (Value.int IntKind.i64 0)) w)) ∧
(((decide (t < 0)) = false) →
(Calls Tryd.prog 62 #[] w (fun (e3 : Ending) => (fun (w4 : World) => (∃ x5 : Int, ((e3 = (Ending.returned (Value.int IntKind.i64 x5))) ∧
((((decide (t > x5)) = true) →
(Calls Tryd.prog 62 #[] w4 (fun (e7 : Ending) => (fun (w8 : World) => (∃ x9 : Int, ((e7 = (Ending.returned (Value.int IntKind.i64 x9))) ∧
(R (Ending.returned (Value.int IntKind.i64 x9)) w8))))))) ∧
(((decide (t > x5)) = false) →
(R (Ending.returned (Value.int IntKind.i64 t)) w4))))))))))) :
    Calls Tryd.prog 46 #[(.int .i64 t)] w R :=
  calls_of_vc an46 Tryd.func46 rfl (by kernel_rfl) (by kernel_rfl) (Eq.mp (by kernel_rfl) h)

/-- samaritan/samaritanref01.Ago -/
def an48 : An := (.seq (.reg []) (.seq (.reg []) .nil))
set_option maxRecDepth 100000 in
theorem nf48 (now : Int) (then' : Int) (w : World) (R : Ending → World → Prop) (h :
(Calls Tryd.prog 46 #[(Value.int IntKind.i64 now)] w (fun (e1 : Ending) => (fun (w2 : World) => (∃ x3 : Int, ((e1 = (Ending.returned (Value.int IntKind.i64 x3))) ∧
(Calls Tryd.prog 46 #[(Value.int IntKind.i64 then')] w2 (fun (e4 : Ending) => (fun (w5 : World) => (∃ x6 : Int, ((e4 = (Ending.returned (Value.int IntKind.i64 x6))) ∧
(Calls Tryd.prog 46 #[(Value.int IntKind.i64 (IntKind.wrap IntKind.i64 (x3 - x6)))] w5 (fun (e7 : Ending) => (fun (w8 : World) => (∃ x9 : Int, ((e7 = (Ending.returned (Value.int IntKind.i64 x9))) ∧
(R (Ending.returned (Value.int IntKind.i64 x9)) w8))))))))))))))))) :
    Calls Tryd.prog 48 #[(.int .i64 now), (.int .i64 then')] w R :=
  calls_of_vc an48 Tryd.func48 rfl (by kernel_rfl) (by kernel_rfl) (Eq.mp (by kernel_rfl) h)

/-- samaritan/samaritanref01.never -/
def an62 : An := (.seq (.reg []) (.seq (.reg []) .nil))
set_option maxRecDepth 100000 in
theorem nf62  (w : World) (R : Ending → World → Prop) (h :
(R (Ending.returned (Value.int IntKind.i64 4611686018427387904)) w)) :
    Calls Tryd.prog 62 #[] w R :=
  calls_of_vc an62 Tryd.func62 rfl (by kernel_rfl) (by kernel_rfl) (Eq.mp (by kernel_rfl) h)

/-- samaritan/clock.clamp -/
def an69 : An := (.seq (.reg []) (.seq (.reg []) .nil))
set_option maxRecDepth 100000 in
theorem nf69 (n : Int) (w : World) (R : Ending → World → Prop) (h :
(R (Ending.returned (Value.int IntKind.i64 (if (4611686018427387904 < (if (n < 0) then 0 else n)) then 4611686018427387904 else (if (n < 0) then 0 else n)))) w)) :
    Calls Tryd.prog 69 #[(.int .i64 n)] w R :=
  calls_of_vc an69 Tryd.func69 rfl (by kernel_rfl) (by kernel_rfl) (Eq.mp (by kernel_rfl) h)

/-- samaritan/clock.Elapsed -/
def an61 : An := (.seq (.reg []) (.seq (.reg []) .nil))
set_option maxRecDepth 100000 in
theorem nf61 (now : Int) (then' : Int) (w : World) (R : Ending → World → Prop) (h :
(Calls Tryd.prog 69 #[(Value.int IntKind.i64 now)] w (fun (e1 : Ending) => (fun (w2 : World) => (∃ x3 : Int, ((e1 = (Ending.returned (Value.int IntKind.i64 x3))) ∧
(Calls Tryd.prog 69 #[(Value.int IntKind.i64 then')] w2 (fun (e4 : Ending) => (fun (w5 : World) => (∃ x6 : Int, ((e4 = (Ending.returned (Value.int IntKind.i64 x6))) ∧
(R (Ending.returned (Value.int IntKind.i64 (if ((IntKind.wrap IntKind.i64 (x3 - x6)) < 0) then 0 else (IntKind.wrap IntKind.i64 (x3 - x6))))) w5)))))))))))) :
    Calls Tryd.prog 61 #[(.int .i64 now), (.int .i64 then')] w R :=
  calls_of_vc an61 Tryd.func61 rfl (by kernel_rfl) (by kernel_rfl) (Eq.mp (by kernel_rfl) h)

/-- samaritan/samaritanref31.Small -/
def an35 : An := (.seq (.reg []) (.seq (.seq (.reg []) (.blk (.loop [(3, .int .i64)] (.seq (.seq (.reg [(3, 0, true)]) (.cond .nil .nil)) (.seq (.blk (.seq (.reg [(6, 0, true), (14, 0, true)]) (.cond (.seq (.reg []) .nil) .nil))) (.reg [])))))) (.seq (.reg [(2, 0, true)]) .nil)))
set_option maxRecDepth 100000 in
theorem nf35 (l : Option Addr) (l_n : Nat) (l_c : Nat) (w : World) (R : Ending → World → Prop) (h :
(∃ k1 : (Nat → (Int → (World → Prop))), ((∃ n2 : Nat, (k1 n2 0 w)) ∧
(∀ n3 : Nat, ((Nat → Value) →
(∀ w5 : World, (∀ x6 : Int, ((k1 n3 x6 w5) →
((((decide (x6 < ((l_n : Nat) : Int))) = true) →
(∃ a9 : Addr, ((l = (some a9)) ∧
((((0 : Int) ≤ x6) ∧
(x6 < ((l_n : Nat) : Int))) ∧
(∃ s10 : ByteArray, (((w5.cell? (Addr.add a9 ((x6).toNat * 3))) = (some (Value.string s10))) ∧
((((decide ((((ByteArray.size s10) : Nat) : Int) > 100)) = true) →
(R (Ending.returned (Value.bool false)) w5)) ∧
(((decide ((((ByteArray.size s10) : Nat) : Int) > 100)) = false) →
(∃ a13 : Addr, ((l = (some a13)) ∧
((((0 : Int) ≤ x6) ∧
(x6 < ((l_n : Nat) : Int))) ∧
(∃ o14 : Option Addr, (∃ n15 : Nat, (∃ n16 : Nat, (((w5.cell? (Addr.add (Addr.add a13 ((x6).toNat * 3)) 2)) = (some (Value.slice o14 n15 n16))) ∧
((((decide (((n15 : Nat) : Int) > 20)) = true) →
(R (Ending.returned (Value.bool false)) w5)) ∧
(((decide (((n15 : Nat) : Int) > 20)) = false) →
(∃ n19 : Nat, ((n19 < n3) ∧
(k1 n19 (IntKind.wrap IntKind.i64 (x6 + 1)) w5)))))))))))))))))))) ∧
(((decide (x6 < ((l_n : Nat) : Int))) = false) →
((((decide (((l_n : Nat) : Int) ≤ 40)) = true) →
(R (Ending.returned (Value.bool true)) w5)) ∧
(((decide (((l_n : Nat) : Int) ≤ 40)) = false) →
(R (Ending.returned (Value.bool false)) w5))))))))))))) :
    Calls Tryd.prog 35 #[(.slice l l_n l_c)] w R :=
  calls_of_vc an35 Tryd.func35 rfl (by kernel_rfl) (by kernel_rfl) (Eq.mp (by kernel_rfl) h)

/-- samaritan/samaritanref31.Right -/
def an36 : An := (.seq (.reg []) (.seq (.seq (.reg []) (.blk (.loop [(3, .int .i64)] (.seq (.seq (.reg [(3, 0, true)]) (.cond .nil .nil)) (.seq (.blk (.seq (.seq (.reg [(4, 0, true)]) (.cond (.seq (.reg []) .nil) .nil)) (.seq (.reg []) (.blk (.loop [(4, .int .i64)] (.seq (.seq (.reg [(2, 0, true)]) (.cond .nil .nil)) (.seq (.blk (.seq (.regD [(10, 3, true), (22, 0, true)] [0, 1, 2, 3, 4, 5, 6, 7, 8, 9, 10, 11, 12, 13, 14, 15, 16, 17, 18, 19, 20, 21, 22, 23] []) (.cond (.seq (.reg []) .nil) .nil))) (.reg [])))))))) (.reg [])))))) (.seq (.reg []) .nil)))
set_option maxRecDepth 100000 in
theorem nf36 (l : Option Addr) (l_n : Nat) (l_c : Nat) (w : World) (R : Ending → World → Prop) (h :
(∃ k1 : (Nat → (Int → (World → Prop))), ((∃ n2 : Nat, (k1 n2 0 w)) ∧
(∀ n3 : Nat, ((Nat → Value) →
(∀ w5 : World, (∀ x6 : Int, ((k1 n3 x6 w5) →
((((decide (x6 < ((l_n : Nat) : Int))) = true) →
(∃ a9 : Addr, ((l = (some a9)) ∧
((((0 : Int) ≤ x6) ∧
(x6 < ((l_n : Nat) : Int))) ∧
(∃ s10 : ByteArray, (((w5.cell? (Addr.add a9 ((x6).toNat * 3))) = (some (Value.string s10))) ∧
(∃ x11 : Int, (((w5.cell? (Addr.add (Addr.add a9 ((x6).toNat * 3)) 1)) = (some (Value.int IntKind.i64 x11))) ∧
(∃ o12 : Option Addr, (∃ n13 : Nat, (∃ n14 : Nat, (((w5.cell? (Addr.add (Addr.add a9 ((x6).toNat * 3)) 2)) = (some (Value.slice o12 n13 n14))) ∧
(Calls Tryd.prog 56 #[(Value.agg #[(Value.string s10), (Value.int IntKind.i64 x11), (Value.slice o12 n13 n14)])] w5 (fun (e15 : Ending) => (fun (w16 : World) => (∃ b17 : Bool, ((e15 = (Ending.returned (Value.bool b17))) ∧
(((b17 = true) →
(∃ k19 : (Nat → (Int → (World → Prop))), ((∃ n20 : Nat, (k19 n20 0 w16)) ∧
(∀ n21 : Nat, ((Nat → Value) →
(∀ w23 : World, (∀ x24 : Int, ((k19 n21 x24 w23) →
((((decide (x24 < x6)) = true) →
(∀ w27 : World, ((w27 = w23.drew) →
(∃ a29 : Addr, ((l = (some a29)) ∧
((((0 : Int) ≤ x24) ∧
(x24 < ((l_n : Nat) : Int))) ∧
(∃ s30 : ByteArray, (((w27.cell? (Addr.add a29 ((x24).toNat * 3))) = (some (Value.string s30))) ∧
(∃ a31 : Addr, ((l = (some a31)) ∧
((((0 : Int) ≤ x6) ∧
(x6 < ((l_n : Nat) : Int))) ∧
(∃ s32 : ByteArray, (((w27.cell? (Addr.add a31 ((x6).toNat * 3))) = (some (Value.string s32))) ∧
((((Nf.strEq s30 s32) = true) →
(∃ a34 : Addr, ((l = (some a34)) ∧
((((0 : Int) ≤ x24) ∧
(x24 < ((l_n : Nat) : Int))) ∧
(∃ x35 : Int, (((w27.cell? (Addr.add (Addr.add a34 ((x24).toNat * 3)) 1)) = (some (Value.int IntKind.i64 x35))) ∧
(∃ a36 : Addr, ((l = (some a36)) ∧
((((0 : Int) ≤ x6) ∧
(x6 < ((l_n : Nat) : Int))) ∧
(∃ x37 : Int, (((w27.cell? (Addr.add (Addr.add a36 ((x6).toNat * 3)) 1)) = (some (Value.int IntKind.i64 x37))) ∧
((((decide (x35 = x37)) = true) →
(R (Ending.returned (Value.int IntKind.i64 x6)) w27)) ∧
(((decide (x35 = x37)) = false) →
(∃ n40 : Nat, ((n40 < n21) ∧
(k19 n40 (IntKind.wrap IntKind.i64 (x24 + 1)) w27)))))))))))))))) ∧
(((Nf.strEq s30 s32) = false) →
(∃ n42 : Nat, ((n42 < n21) ∧
(k19 n42 (IntKind.wrap IntKind.i64 (x24 + 1)) w27)))))))))))))))))) ∧
(((decide (x24 < x6)) = false) →
(∃ n44 : Nat, ((n44 < n3) ∧
(k1 n44 (IntKind.wrap IntKind.i64 (x6 + 1)) w23))))))))))))) ∧
((b17 = false) →
(R (Ending.returned (Value.int IntKind.i64 x6)) w16)))))))))))))))))))) ∧
(((decide (x6 < ((l_n : Nat) : Int))) = false) →
(R (Ending.returned (Value.int IntKind.i64 (-1))) w5))))))))))) :
    Calls Tryd.prog 36 #[(.slice l l_n l_c)] w R :=
  calls_of_vc an36 Tryd.func36 rfl (by kernel_rfl) (by kernel_rfl) (Eq.mp (by kernel_rfl) h)

/-- samaritan/samaritanref31.One -/
def an56 : An := (.seq (.reg []) (.seq (.seq (.reg [(3, 0, true), (8, 0, true), (13, 0, true), (18, 0, true), (24, 0, true), (30, 0, true)]) (.cond (.seq (.reg []) .nil) .nil)) (.seq (.seq (.reg []) (.blk (.loop [(3, .int .i64)] (.seq (.seq (.reg [(4, 0, true)]) (.cond .nil .nil)) (.seq (.blk (.seq (.reg [(3, 2, false), (4, 0, true), (9, 2, false), (10, 0, true)]) (.cond (.seq (.reg []) .nil) .nil))) (.reg [])))))) (.seq (.seq (.reg []) (.blk (.loop [(4, .int .i64)] (.seq (.seq (.reg [(4, 0, true)]) (.cond .nil .nil)) (.seq (.blk (.seq (.reg [(5, 0, true), (12, 0, true)]) (.cond (.seq (.reg []) .nil) .nil))) (.reg [])))))) (.seq (.reg []) .nil)))))
set_option maxRecDepth 100000 in
theorem nf56 (p_Code : ByteArray) (p_Urgency : Int) (p_Kinds : Option Addr) (p_Kinds_n : Nat) (p_Kinds_c : Nat) (w : World) (R : Ending → World → Prop) (h :
(∀ w1 : World, ((w1 = (w.alloc (Obj.cells #[(Value.string p_Code), (Value.int IntKind.i64 p_Urgency), (Value.slice p_Kinds p_Kinds_n p_Kinds_c)] 108 (0, 0)))) →
(∃ s3 : ByteArray, (((w1.cell? (⟨(hs w), 0, none⟩ : Addr)) = (some (Value.string s3))) ∧
((((decide ((((ByteArray.size s3) : Nat) : Int) < 1)) = true) →
(R (Ending.returned (Value.bool false)) w1)) ∧
(((decide ((((ByteArray.size s3) : Nat) : Int) < 1)) = false) →
(∃ s6 : ByteArray, (((w1.cell? (⟨(hs w), 0, none⟩ : Addr)) = (some (Value.string s6))) ∧
((((decide ((((ByteArray.size s6) : Nat) : Int) > 40)) = true) →
(R (Ending.returned (Value.bool false)) w1)) ∧
(((decide ((((ByteArray.size s6) : Nat) : Int) > 40)) = false) →
(∃ x9 : Int, (((w1.cell? (⟨(hs w), 1, none⟩ : Addr)) = (some (Value.int IntKind.i64 x9))) ∧
((((decide (x9 < 1)) = true) →
(R (Ending.returned (Value.bool false)) w1)) ∧
(((decide (x9 < 1)) = false) →
(∃ x12 : Int, (((w1.cell? (⟨(hs w), 1, none⟩ : Addr)) = (some (Value.int IntKind.i64 x12))) ∧
((((decide (x12 > 5)) = true) →
(R (Ending.returned (Value.bool false)) w1)) ∧
(((decide (x12 > 5)) = false) →
(∃ o15 : Option Addr, (∃ n16 : Nat, (∃ n17 : Nat, (((w1.cell? (⟨(hs w), 2, none⟩ : Addr)) = (some (Value.slice o15 n16 n17))) ∧
((((decide (((n16 : Nat) : Int) < 1)) = true) →
(R (Ending.returned (Value.bool false)) w1)) ∧
(((decide (((n16 : Nat) : Int) < 1)) = false) →
(∃ o20 : Option Addr, (∃ n21 : Nat, (∃ n22 : Nat, (((w1.cell? (⟨(hs w), 2, none⟩ : Addr)) = (some (Value.slice o20 n21 n22))) ∧
((((decide (((n21 : Nat) : Int) > 8)) = true) →
(R (Ending.returned (Value.bool false)) w1)) ∧
(((decide (((n21 : Nat) : Int) > 8)) = false) →
(∃ k25 : (Nat → (Int → (World → Prop))), ((∃ n26 : Nat, (k25 n26 0 w1)) ∧
(∀ n27 : Nat, ((Nat → Value) →
(∀ w29 : World, (∀ x30 : Int, ((k25 n27 x30 w29) →
(∃ s32 : ByteArray, (((w29.cell? (⟨(hs w), 0, none⟩ : Addr)) = (some (Value.string s32))) ∧
((((decide (x30 < (((ByteArray.size s32) : Nat) : Int))) = true) →
(∃ s34 : ByteArray, (((w29.cell? (⟨(hs w), 0, none⟩ : Addr)) = (some (Value.string s34))) ∧
(∃ c35 : UInt8, ((((0 : Int) ≤ x30) ∧
((Nf.byteAt s34 (x30).toNat) = (some c35))) ∧
((((decide ((((c35).toNat : Nat) : Int) < 33)) = true) →
(R (Ending.returned (Value.bool false)) w29)) ∧
(((decide ((((c35).toNat : Nat) : Int) < 33)) = false) →
(∃ s38 : ByteArray, (((w29.cell? (⟨(hs w), 0, none⟩ : Addr)) = (some (Value.string s38))) ∧
(∃ c39 : UInt8, ((((0 : Int) ≤ x30) ∧
((Nf.byteAt s38 (x30).toNat) = (some c39))) ∧
((((decide ((((c39).toNat : Nat) : Int) > 126)) = true) →
(R (Ending.returned (Value.bool false)) w29)) ∧
(((decide ((((c39).toNat : Nat) : Int) > 126)) = false) →
(∃ n42 : Nat, ((n42 < n27) ∧
(k25 n42 (IntKind.wrap IntKind.i64 (x30 + 1)) w29)))))))))))))))) ∧
(((decide (x30 < (((ByteArray.size s32) : Nat) : Int))) = false) →
(∃ k44 : (Nat → (Int → (World → Prop))), ((∃ n45 : Nat, (k44 n45 0 w29)) ∧
(∀ n46 : Nat, ((Nat → Value) →
(∀ w48 : World, (∀ x49 : Int, ((k44 n46 x49 w48) →
(∃ o51 : Option Addr, (∃ n52 : Nat, (∃ n53 : Nat, (((w48.cell? (⟨(hs w), 2, none⟩ : Addr)) = (some (Value.slice o51 n52 n53))) ∧
((((decide (x49 < ((n52 : Nat) : Int))) = true) →
(∃ o55 : Option Addr, (∃ n56 : Nat, (∃ n57 : Nat, (((w48.cell? (⟨(hs w), 2, none⟩ : Addr)) = (some (Value.slice o55 n56 n57))) ∧
(∃ a58 : Addr, ((o55 = (some a58)) ∧
((((0 : Int) ≤ x49) ∧
(x49 < ((n56 : Nat) : Int))) ∧
(∃ x59 : Int, (((w48.cell? (Addr.add a58 ((x49).toNat * 1))) = (some (Value.int IntKind.i64 x59))) ∧
((((decide (x59 < 1)) = true) →
(R (Ending.returned (Value.bool false)) w48)) ∧
(((decide (x59 < 1)) = false) →
(∃ o62 : Option Addr, (∃ n63 : Nat, (∃ n64 : Nat, (((w48.cell? (⟨(hs w), 2, none⟩ : Addr)) = (some (Value.slice o62 n63 n64))) ∧
(∃ a65 : Addr, ((o62 = (some a65)) ∧
((((0 : Int) ≤ x49) ∧
(x49 < ((n63 : Nat) : Int))) ∧
(∃ x66 : Int, (((w48.cell? (Addr.add a65 ((x49).toNat * 1))) = (some (Value.int IntKind.i64 x66))) ∧
((((decide (x66 > 4)) = true) →
(R (Ending.returned (Value.bool false)) w48)) ∧
(((decide (x66 > 4)) = false) →
(∃ n69 : Nat, ((n69 < n46) ∧
(k44 n69 (IntKind.wrap IntKind.i64 (x49 + 1)) w48)))))))))))))))))))))))))) ∧
(((decide (x49 < ((n52 : Nat) : Int))) = false) →
(R (Ending.returned (Value.bool true)) w48)))))))))))))))))))))))))))))))))))))))))))))))))))))))) :
    Calls Tryd.prog 56 #[(.agg #[(.string p_Code), (.int .i64 p_Urgency), (.slice p_Kinds p_Kinds_n p_Kinds_c)])] w R :=
  calls_of_vc an56 Tryd.func56 rfl (by kernel_rfl) (by kernel_rfl) (Eq.mp (by kernel_rfl) h)

/-- samaritan/responseplan.find -/
def an57 : An := (.seq (.reg []) (.seq (.reg []) .nil))
set_option maxRecDepth 100000 in
theorem nf57 (l : Option Addr) (l_n : Nat) (l_c : Nat) (code : ByteArray) (urgency : Int) (w : World) (R : Ending → World → Prop) (h :
(∀ w1 : World, ((w1 = (w.alloc (Obj.cells #[(Value.string code)] 9 (0, 0)))) →
(∀ w3 : World, ((w3 = (w1.alloc (Obj.cells #[(Value.int IntKind.i64 urgency)] 3 (0, 0)))) →
(Calls Tryd.prog 67 #[(Value.slice l l_n l_c), (Value.func (Fn.func 68) #[] #[(Value.pointer (some (⟨(hs w), 0, none⟩ : Addr))), (Value.pointer (some (⟨(hs w1), 0, none⟩ : Addr)))])] w3 (fun (e5 : Ending) => (fun (w6 : World) => (∃ x7 : Int, ((e5 = (Ending.returned (Value.int IntKind.i64 x7))) ∧
(R (Ending.returned (Value.int IntKind.i64 x7)) w6))))))))))) :
    Calls Tryd.prog 57 #[(.slice l l_n l_c), (.string code), (.int .i64 urgency)] w R :=
  calls_of_vc an57 Tryd.func57 rfl (by kernel_rfl) (by kernel_rfl) (Eq.mp (by kernel_rfl) h)

/-- samaritan/responseplan.find$1 -/
def an68 : An := (.seq (.reg []) (.seq (.reg [(3, 3, true), (8, 0, true)]) .nil))
set_option maxRecDepth 100000 in
theorem nf68 (p_Code : ByteArray) (p_Urgency : Int) (p_Kinds : Option Addr) (p_Kinds_n : Nat) (p_Kinds_c : Nat) (c0 : Nat) (c1 : Nat) (w : World) (R : Ending → World → Prop) (h :
(∀ w1 : World, ((w1 = (w.alloc (Obj.cells #[(Value.string p_Code), (Value.int IntKind.i64 p_Urgency), (Value.slice p_Kinds p_Kinds_n p_Kinds_c)] 108 (0, 0)))) →
(∃ s3 : ByteArray, (((w1.cell? (⟨(hs w), 0, none⟩ : Addr)) = (some (Value.string s3))) ∧
(∃ s4 : ByteArray, (((w1.cell? (⟨c0, 0, none⟩ : Addr)) = (some (Value.string s4))) ∧
((((Nf.strEq s3 s4) = true) →
(∃ x6 : Int, (((w1.cell? (⟨(hs w), 1, none⟩ : Addr)) = (some (Value.int IntKind.i64 x6))) ∧
(∃ x7 : Int, (((w1.cell? (⟨c1, 0, none⟩ : Addr)) = (some (Value.int IntKind.i64 x7))) ∧
((((decide (x6 = x7)) = true) →
(R (Ending.returned (Value.bool true)) w1)) ∧
(((decide (x6 = x7)) = false) →
(R (Ending.returned (Value.bool false)) w1)))))))) ∧
(((Nf.strEq s3 s4) = false) →
(R (Ending.returned (Value.bool false)) w1)))))))))) :
    Calls Tryd.prog 68 #[(.agg #[(.string p_Code), (.int .i64 p_Urgency), (.slice p_Kinds p_Kinds_n p_Kinds_c)]), (.pointer (some ⟨c0, 0, none⟩)), (.pointer (some ⟨c1, 0, none⟩))] w R :=
  calls_of_vc an68 Tryd.func68 rfl (by kernel_rfl) (by kernel_rfl) (Eq.mp (by kernel_rfl) h)

/-- samaritan/samaritanref31.Kinds -/
def an60 : An := (.seq (.reg []) (.seq (.seq (.reg []) (.blk (.loop [(7, .int .i64)] (.seq (.seq (.reg [(3, 0, true)]) (.cond .nil .nil)) (.seq (.blk (.seq (.reg [(6, 3, true), (14, 0, true)]) (.cond (.seq (.reg []) .nil) .nil))) (.reg [])))))) (.seq (.seq (.reg []) (.blk (.loop [(8, .int .i64)] (.seq (.seq (.reg [(3, 0, true)]) (.cond .nil .nil)) (.seq (.blk (.seq (.reg [(5, 3, true), (13, 0, true)]) (.cond (.seq (.reg []) .nil) .nil))) (.reg [])))))) (.seq (.reg []) .nil))))
set_option maxRecDepth 100000 in
theorem nf60 (l : Option Addr) (l_n : Nat) (l_c : Nat) (code : ByteArray) (urgency : Int) (w : World) (R : Ending → World → Prop) (h :
(∃ k1 : (Nat → (Int → (World → Prop))), ((∃ n2 : Nat, (k1 n2 0 w)) ∧
(∀ n3 : Nat, ((Nat → Value) →
(∀ w5 : World, (∀ x6 : Int, ((k1 n3 x6 w5) →
((((decide (x6 < ((l_n : Nat) : Int))) = true) →
(∃ a9 : Addr, ((l = (some a9)) ∧
((((0 : Int) ≤ x6) ∧
(x6 < ((l_n : Nat) : Int))) ∧
(∃ s10 : ByteArray, (((w5.cell? (Addr.add a9 ((x6).toNat * 3))) = (some (Value.string s10))) ∧
((((Nf.strEq s10 code) = true) →
(∃ a12 : Addr, ((l = (some a12)) ∧
((((0 : Int) ≤ x6) ∧
(x6 < ((l_n : Nat) : Int))) ∧
(∃ x13 : Int, (((w5.cell? (Addr.add (Addr.add a12 ((x6).toNat * 3)) 1)) = (some (Value.int IntKind.i64 x13))) ∧
((((decide (x13 = urgency)) = true) →
(∃ a15 : Addr, ((l = (some a15)) ∧
((((0 : Int) ≤ x6) ∧
(x6 < ((l_n : Nat) : Int))) ∧
(∃ o16 : Option Addr, (∃ n17 : Nat, (∃ n18 : Nat, (((w5.cell? (Addr.add (Addr.add a15 ((x6).toNat * 3)) 2)) = (some (Value.slice o16 n17 n18))) ∧
(R (Ending.returned (Value.slice o16 n17 n18)) w5))))))))) ∧
(((decide (x13 = urgency)) = false) →
(∃ n20 : Nat, ((n20 < n3) ∧
(k1 n20 (IntKind.wrap IntKind.i64 (x6 + 1)) w5))))))))))) ∧
(((Nf.strEq s10 code) = false) →
(∃ n22 : Nat, ((n22 < n3) ∧
(k1 n22 (IntKind.wrap IntKind.i64 (x6 + 1)) w5))))))))))) ∧
(((decide (x6 < ((l_n : Nat) : Int))) = false) →
(∃ k24 : (Nat → (Int → (World → Prop))), ((∃ n25 : Nat, (k24 n25 0 w5)) ∧
(∀ n26 : Nat, ((Nat → Value) →
(∀ w28 : World, (∀ x29 : Int, ((k24 n26 x29 w28) →
((((decide (x29 < ((l_n : Nat) : Int))) = true) →
(∃ a32 : Addr, ((l = (some a32)) ∧
((((0 : Int) ≤ x29) ∧
(x29 < ((l_n : Nat) : Int))) ∧
(∃ s33 : ByteArray, (((w28.cell? (Addr.add a32 ((x29).toNat * 3))) = (some (Value.string s33))) ∧
((((Nf.strEq s33 (ByteArray.mk #[(42 : UInt8)])) = true) →
(∃ a35 : Addr, ((l = (some a35)) ∧
((((0 : Int) ≤ x29) ∧
(x29 < ((l_n : Nat) : Int))) ∧
(∃ x36 : Int, (((w28.cell? (Addr.add (Addr.add a35 ((x29).toNat * 3)) 1)) = (some (Value.int IntKind.i64 x36))) ∧
((((decide (x36 = urgency)) = true) →
(∃ a38 : Addr, ((l = (some a38)) ∧
((((0 : Int) ≤ x29) ∧
(x29 < ((l_n : Nat) : Int))) ∧
(∃ o39 : Option Addr, (∃ n40 : Nat, (∃ n41 : Nat, (((w28.cell? (Addr.add (Addr.add a38 ((x29).toNat * 3)) 2)) = (some (Value.slice o39 n40 n41))) ∧
(R (Ending.returned (Value.slice o39 n40 n41)) w28))))))))) ∧
(((decide (x36 = urgency)) = false) →
(∃ n43 : Nat, ((n43 < n26) ∧
(k24 n43 (IntKind.wrap IntKind.i64 (x29 + 1)) w28))))))))))) ∧
(((Nf.strEq s33 (ByteArray.mk #[(42 : UInt8)])) = false) →
(∃ n45 : Nat, ((n45 < n26) ∧
(k24 n45 (IntKind.wrap IntKind.i64 (x29 + 1)) w28))))))))))) ∧
(((decide (x29 < ((l_n : Nat) : Int))) = false) →
(∀ w47 : World, ((w47 = (w28.alloc (Obj.cells #[(Value.int IntKind.i64 1)] 3 (0, 0)))) →
(R (Ending.returned (Value.slice (some (⟨(hs w28), 0, none⟩ : Addr)) 1 1)) w47)))))))))))))))))))))) :
    Calls Tryd.prog 60 #[(.slice l l_n l_c), (.string code), (.int .i64 urgency)] w R :=
  calls_of_vc an60 Tryd.func60 rfl (by kernel_rfl) (by kernel_rfl) (Eq.mp (by kernel_rfl) h)

/-- samaritan/responseplan.RequiredKinds -/
def an38 : An := (.seq (.reg []) (.seq (.reg []) (.cut [(7, .int .i64)] (.seq (.reg [(1, 0, true)]) (.cond (.reg []) .nil)) (.seq (.seq (.reg [(1, 0, true)]) (.cond (.seq (.reg []) .nil) .nil)) (.seq (.reg []) .nil)))))
set_option maxRecDepth 100000 in
theorem nf38 (l : Option Addr) (l_n : Nat) (l_c : Nat) (code : ByteArray) (urgency : Int) (w : World) (R : Ending → World → Prop) (h :
(Calls Tryd.prog 57 #[(Value.slice l l_n l_c), (Value.string code), (Value.int IntKind.i64 urgency)] w (fun (e1 : Ending) => (fun (w2 : World) => (∃ x3 : Int, ((e1 = (Ending.returned (Value.int IntKind.i64 x3))) ∧
(∀ k4 : (Int → (World → Prop)), ((∀ w6 : World, (∀ x7 : Int, (((Nat → Value) →
((((decide (x7 < 0)) = true) →
(∀ w11 : World, ((w11 = (w6.alloc (Obj.cells #[(Value.int IntKind.i64 1)] 3 (0, 0)))) →
(R (Ending.returned (Value.slice (some (⟨(hs w6), 0, none⟩ : Addr)) 1 1)) w11)))) ∧
(((decide (x7 < 0)) = false) →
(∃ a14 : Addr, ((l = (some a14)) ∧
((((0 : Int) ≤ x7) ∧
(x7 < ((l_n : Nat) : Int))) ∧
(∃ o15 : Option Addr, (∃ n16 : Nat, (∃ n17 : Nat, (((w6.cell? (Addr.add (Addr.add a14 ((x7).toNat * 3)) 2)) = (some (Value.slice o15 n16 n17))) ∧
(Calls Tryd.prog 58 #[(Value.slice o15 n16 n17)] w6 (fun (e18 : Ending) => (fun (w19 : World) => (∃ o20 : Option Addr, (∃ n21 : Nat, (∃ n22 : Nat, ((e18 = (Ending.returned (Value.slice o20 n21 n22))) ∧
(R (Ending.returned (Value.slice o20 n21 n22)) w19)))))))))))))))))) →
(k4 x7 w6)))) →
((((decide (x3 < 0)) = true) →
(Calls Tryd.prog 57 #[(Value.slice l l_n l_c), (Value.string (ByteArray.mk #[(42 : UInt8)])), (Value.int IntKind.i64 urgency)] w2 (fun (e24 : Ending) => (fun (w25 : World) => (∃ x26 : Int, ((e24 = (Ending.returned (Value.int IntKind.i64 x26))) ∧
(k4 x26 w25))))))) ∧
(((decide (x3 < 0)) = false) →
(k4 x3 w2))))))))))) :
    Calls Tryd.prog 38 #[(.slice l l_n l_c), (.string code), (.int .i64 urgency)] w R :=
  calls_of_vc an38 Tryd.func38 rfl (by kernel_rfl) (by kernel_rfl) (Eq.mp (by kernel_rfl) h)

/-- samaritan/responseplan.Unmet -/
def an37 : An := (.seq (.reg []) (.seq (.reg []) (.seq (.seq (.reg []) (.blk (.loop [(17, .int .i64)] (.seq (.reg [(0, 0, true)]) (.seq (.cond .nil .nil) (.seq (.blk (.seq (.reg []) (.reg [(2, 1, false), (4, 1, false)]))) (.reg []))))))) (.seq (.reg []) (.seq (.seq (.reg []) (.blk (.loop [(8, .slice), (28, .int .i64)] (.seq (.reg [(0, 0, true)]) (.seq (.cond .nil .nil) (.cut [(8, .slice)] (.blk (.seq (.reg []) (.seq (.reg [(2, 1, false), (3, 0, true)]) (.cond (.reg [(2, 1, false), (4, 1, false)]) (.reg [(3, 1, false)]))))) (.reg []))))))) (.seq (.reg []) (.seq (.seq (.reg []) (.blk (.loop [(11, .slice), (47, .int .i64)] (.seq (.reg [(0, 0, true)]) (.seq (.cond .nil .nil) (.cut [(11, .slice)] (.blk (.seq (.reg []) (.seq (.reg [(1, 0, true), (4, 1, false), (5, 0, true)]) (.cond (.reg [(1, 1, false), (3, 1, false)]) (.reg [(3, 1, false)]))))) (.reg []))))))) (.seq (.reg []) .nil))))))))
set_option maxRecDepth 100000 in
theorem nf37 (want : Option Addr) (want_n : Nat) (want_c : Nat) (have' : Option Addr) (have'_n : Nat) (have'_c : Nat) (w : World) (R : Ending → World → Prop) (h :
(∀ w1 : World, ((w1 = (w.alloc (Obj.map #[] 0))) →
(∃ k3 : (Nat → (Int → (World → Prop))), ((∃ n4 : Nat, (k3 n4 0 w1)) ∧
(∀ n5 : Nat, ((Nat → Value) →
(∀ w7 : World, (∀ x8 : Int, ((k3 n5 x8 w7) →
((((decide (x8 < ((have'_n : Nat) : Int))) = true) →
(∃ a11 : Addr, ((have' = (some a11)) ∧
((((0 : Int) ≤ x8) ∧
(x8 < ((have'_n : Nat) : Int))) ∧
(∃ x12 : Int, (((w7.cell? (Addr.add a11 ((x8).toNat * 1))) = (some (Value.int IntKind.i64 x12))) ∧
(RunOk Tryd.prog (Nf.Hold (Instr.lookup 110 (Value.map (some (hs w))) (Value.int IntKind.i64 x12) false)) w7 (fun (v13 : Value) => (fun (w14 : World) => (∃ x15 : Int, ((v13 = (Value.int IntKind.i64 x15)) ∧
(RunOk Tryd.prog (Nf.Hold (Instr.mapUpdate 110 (Value.map (some (hs w))) (Value.int IntKind.i64 x12) (Value.int IntKind.i64 (IntKind.wrap IntKind.i64 (x15 + 1))))) w14 (fun (_ : Unit) => (fun (w17 : World) => (∃ n18 : Nat, ((n18 < n5) ∧
(k3 n18 (IntKind.wrap IntKind.i64 (x8 + 1)) w17))))))))))))))))) ∧
(((decide (x8 < ((have'_n : Nat) : Int))) = false) →
(∃ k20 : (Nat → (Option Addr → (Nat → (Nat → (Int → (World → Prop)))))), ((∃ n21 : Nat, (k20 n21 none 0 0 0 w7)) ∧
(∀ n22 : Nat, ((Nat → Value) →
(∀ w24 : World, (∀ o25 : Option Addr, (∀ n26 : Nat, (∀ n27 : Nat, (∀ x28 : Int, ((k20 n22 o25 n26 n27 x28 w24) →
((((decide (x28 < ((want_n : Nat) : Int))) = true) →
(∀ k31 : (Option Addr → (Nat → (Nat → (World → Prop)))), ((∀ w33 : World, (∀ o34 : Option Addr, (∀ n35 : Nat, (∀ n36 : Nat, (((Nat → Value) →
(∃ n39 : Nat, ((n39 < n22) ∧
(k20 n39 o34 n35 n36 (IntKind.wrap IntKind.i64 (x28 + 1)) w33)))) →
(k31 o34 n35 n36 w33)))))) →
(∃ a40 : Addr, ((want = (some a40)) ∧
((((0 : Int) ≤ x28) ∧
(x28 < ((want_n : Nat) : Int))) ∧
(∃ x41 : Int, (((w24.cell? (Addr.add a40 ((x28).toNat * 1))) = (some (Value.int IntKind.i64 x41))) ∧
(RunOk Tryd.prog (Nf.Hold (Instr.lookup 110 (Value.map (some (hs w))) (Value.int IntKind.i64 x41) false)) w24 (fun (v42 : Value) => (fun (w43 : World) => (∃ x44 : Int, ((v42 = (Value.int IntKind.i64 x44)) ∧
((((decide (x44 > 0)) = true) →
(RunOk Tryd.prog (Nf.Hold (Instr.lookup 110 (Value.map (some (hs w))) (Value.int IntKind.i64 x41) false)) w43 (fun (v46 : Value) => (fun (w47 : World) => (∃ x48 : Int, ((v46 = (Value.int IntKind.i64 x48)) ∧
(RunOk Tryd.prog (Nf.Hold (Instr.mapUpdate 110 (Value.map (some (hs w))) (Value.int IntKind.i64 x41) (Value.int IntKind.i64 (IntKind.wrap IntKind.i64 (x48 - 1))))) w47 (fun (_ : Unit) => (fun (w50 : World) => (k31 o25 n26 n27 w50)))))))))) ∧
(((decide (x44 > 0)) = false) →
(∀ w52 : World, ((w52 = (w43.alloc (Obj.cells #[(Value.int IntKind.i64 x41)] 3 (0, 0)))) →
(RunOk Tryd.prog (Nf.Hold (Builtin.append_ #[71, 71] 71 #[(Value.slice o25 n26 n27), (Value.slice (some (⟨(hs w43), 0, none⟩ : Addr)) 1 1)])) w52 (fun (v54 : Value) => (fun (w55 : World) => (∃ o56 : Option Addr, (∃ n57 : Nat, (∃ n58 : Nat, ((v54 = (Value.slice o56 n57 n58)) ∧
(k31 o56 n57 n58 w55))))))))))))))))))))))))) ∧
(((decide (x28 < ((want_n : Nat) : Int))) = false) →
(∃ k60 : (Nat → (Option Addr → (Nat → (Nat → (Int → (World → Prop)))))), ((∃ n61 : Nat, (k60 n61 none 0 0 0 w24)) ∧
(∀ n62 : Nat, ((Nat → Value) →
(∀ w64 : World, (∀ o65 : Option Addr, (∀ n66 : Nat, (∀ n67 : Nat, (∀ x68 : Int, ((k60 n62 o65 n66 n67 x68 w64) →
((((decide (x68 < ((n26 : Nat) : Int))) = true) →
(∀ k71 : (Option Addr → (Nat → (Nat → (World → Prop)))), ((∀ w73 : World, (∀ o74 : Option Addr, (∀ n75 : Nat, (∀ n76 : Nat, (((Nat → Value) →
(∃ n79 : Nat, ((n79 < n62) ∧
(k60 n79 o74 n75 n76 (IntKind.wrap IntKind.i64 (x68 + 1)) w73)))) →
(k71 o74 n75 n76 w73)))))) →
(∃ a80 : Addr, ((o25 = (some a80)) ∧
((((0 : Int) ≤ x68) ∧
(x68 < ((n26 : Nat) : Int))) ∧
(∃ x81 : Int, (((w64.cell? (Addr.add a80 ((x68).toNat * 1))) = (some (Value.int IntKind.i64 x81))) ∧
((((decide (x81 = 1)) = true) →
(RunOk Tryd.prog (Nf.Hold (Instr.lookup 110 (Value.map (some (hs w))) (Value.int IntKind.i64 2) false)) w64 (fun (v83 : Value) => (fun (w84 : World) => (∃ x85 : Int, ((v83 = (Value.int IntKind.i64 x85)) ∧
((((decide (x85 > 0)) = true) →
(RunOk Tryd.prog (Nf.Hold (Instr.lookup 110 (Value.map (some (hs w))) (Value.int IntKind.i64 2) false)) w84 (fun (v87 : Value) => (fun (w88 : World) => (∃ x89 : Int, ((v87 = (Value.int IntKind.i64 x89)) ∧
(RunOk Tryd.prog (Nf.Hold (Instr.mapUpdate 110 (Value.map (some (hs w))) (Value.int IntKind.i64 2) (Value.int IntKind.i64 (IntKind.wrap IntKind.i64 (x89 - 1))))) w88 (fun (_ : Unit) => (fun (w91 : World) => (k71 o65 n66 n67 w91)))))))))) ∧
(((decide (x85 > 0)) = false) →
(∀ w93 : World, ((w93 = (w84.alloc (Obj.cells #[(Value.int IntKind.i64 x81)] 3 (0, 0)))) →
(RunOk Tryd.prog (Nf.Hold (Builtin.append_ #[71, 71] 71 #[(Value.slice o65 n66 n67), (Value.slice (some (⟨(hs w84), 0, none⟩ : Addr)) 1 1)])) w93 (fun (v95 : Value) => (fun (w96 : World) => (∃ o97 : Option Addr, (∃ n98 : Nat, (∃ n99 : Nat, ((v95 = (Value.slice o97 n98 n99)) ∧
(k71 o97 n98 n99 w96)))))))))))))))))) ∧
(((decide (x81 = 1)) = false) →
(∀ w101 : World, ((w101 = (w64.alloc (Obj.cells #[(Value.int IntKind.i64 x81)] 3 (0, 0)))) →
(RunOk Tryd.prog (Nf.Hold (Builtin.append_ #[71, 71] 71 #[(Value.slice o65 n66 n67), (Value.slice (some (⟨(hs w64), 0, none⟩ : Addr)) 1 1)])) w101 (fun (v103 : Value) => (fun (w104 : World) => (∃ o105 : Option Addr, (∃ n106 : Nat, (∃ n107 : Nat, ((v103 = (Value.slice o105 n106 n107)) ∧
(k71 o105 n106 n107 w104)))))))))))))))))))) ∧
(((decide (x68 < ((n26 : Nat) : Int))) = false) →
(R (Ending.returned (Value.slice o65 n66 n67)) w64))))))))))))))))))))))))))))))))))))) :
    Calls Tryd.prog 37 #[(.slice want want_n want_c), (.slice have' have'_n have'_c)] w R :=
  calls_of_vc an37 Tryd.func37 rfl (by kernel_rfl) (by kernel_rfl) (Eq.mp (by kernel_rfl) h)

/-- samaritan/samaritanref31.Left -/
def an59 : An := (.seq (.reg []) (.seq (.reg []) (.seq (.seq (.reg []) (.blk (.loop [(5, .slice), (6, .int .i64)] (.seq (.seq (.reg [(3, 0, true)]) (.cond .nil .nil)) (.seq (.blk (.reg [(2, 1, false)])) (.reg [])))))) (.seq (.reg []) (.seq (.seq (.reg []) (.blk (.loop [(7, .slice), (8, .int .i64)] (.seq (.seq (.reg [(3, 0, true)]) (.cond .nil .nil)) (.cut [(7, .slice)] (.blk (.seq (.reg []) (.seq (.seq (.reg []) (.blk (.loop [(9, .bool), (10, .int .i64)] (.seq (.seq (.reg [(3, 0, true)]) (.cond .nil .nil)) (.cut [(9, .bool)] (.blk (.seq (.regD [(0, 0, true), (6, 0, true), (18, 0, true)] [0, 1, 2, 3, 4, 5, 6, 7, 8, 9, 10, 11, 12, 13, 14, 15, 16, 17, 18, 19] []) (.cond (.seq (.reg []) (.reg [])) .nil))) (.reg [])))))) (.seq (.reg [(0, 0, true)]) (.cond (.reg [(6, 1, false)]) .nil))))) (.reg [])))))) (.seq (.reg []) (.seq (.seq (.reg []) (.blk (.loop [(11, .slice), (12, .int .i64)] (.seq (.seq (.reg [(3, 0, true)]) (.cond .nil .nil)) (.cut [(11, .slice)] (.blk (.seq (.reg []) (.seq (.seq (.reg []) (.blk (.loop [(13, .bool), (14, .int .i64)] (.seq (.seq (.reg [(3, 0, true)]) (.cond .nil .nil)) (.cut [(13, .bool)] (.blk (.seq (.reg [(0, 0, true), (6, 0, true), (14, 0, true), (21, 0, true)]) (.cond (.seq (.reg []) (.reg [])) .nil))) (.reg [])))))) (.seq (.reg [(0, 0, true)]) (.cond (.reg [(6, 1, false)]) .nil))))) (.reg [])))))) (.seq (.reg []) .nil))))))))
set_option maxRecDepth 100000 in
theorem nf59 (want : Option Addr) (want_n : Nat) (want_c : Nat) (have' : Option Addr) (have'_n : Nat) (have'_c : Nat) (w : World) (R : Ending → World → Prop) (h :
(∃ k1 : (Nat → (Option Addr → (Nat → (Nat → (Int → (World → Prop)))))), ((∃ n2 : Nat, (k1 n2 none 0 0 0 w)) ∧
(∀ n3 : Nat, ((Nat → Value) →
(∀ w5 : World, (∀ o6 : Option Addr, (∀ n7 : Nat, (∀ n8 : Nat, (∀ x9 : Int, ((k1 n3 o6 n7 n8 x9 w5) →
((((decide (x9 < ((have'_n : Nat) : Int))) = true) →
(∀ w12 : World, ((w12 = (w5.alloc (Obj.cells #[(Value.bool false)] 4 (0, 0)))) →
(RunOk Tryd.prog (Nf.Hold (Builtin.append_ #[85, 85] 85 #[(Value.slice o6 n7 n8), (Value.slice (some (⟨(hs w5), 0, none⟩ : Addr)) 1 1)])) w12 (fun (v14 : Value) => (fun (w15 : World) => (∃ o16 : Option Addr, (∃ n17 : Nat, (∃ n18 : Nat, ((v14 = (Value.slice o16 n17 n18)) ∧
(∃ n19 : Nat, ((n19 < n3) ∧
(k1 n19 o16 n17 n18 (IntKind.wrap IntKind.i64 (x9 + 1)) w15))))))))))))) ∧
(((decide (x9 < ((have'_n : Nat) : Int))) = false) →
(∃ k21 : (Nat → (Option Addr → (Nat → (Nat → (Int → (World → Prop)))))), ((∃ n22 : Nat, (k21 n22 none 0 0 0 w5)) ∧
(∀ n23 : Nat, ((Nat → Value) →
(∀ w25 : World, (∀ o26 : Option Addr, (∀ n27 : Nat, (∀ n28 : Nat, (∀ x29 : Int, ((k21 n23 o26 n27 n28 x29 w25) →
((((decide (x29 < ((want_n : Nat) : Int))) = true) →
(∀ k32 : (Option Addr → (Nat → (Nat → (World → Prop)))), ((∀ w34 : World, (∀ o35 : Option Addr, (∀ n36 : Nat, (∀ n37 : Nat, (((Nat → Value) →
(∃ n40 : Nat, ((n40 < n23) ∧
(k21 n40 o35 n36 n37 (IntKind.wrap IntKind.i64 (x29 + 1)) w34)))) →
(k32 o35 n36 n37 w34)))))) →
(∃ k41 : (Nat → (Bool → (Int → (World → Prop)))), ((∃ n42 : Nat, (k41 n42 false 0 w25)) ∧
(∀ n43 : Nat, ((Nat → Value) →
(∀ w45 : World, (∀ b46 : Bool, (∀ x47 : Int, ((k41 n43 b46 x47 w45) →
((((decide (x47 < ((have'_n : Nat) : Int))) = true) →
(∀ k50 : (Bool → (World → Prop)), ((∀ w52 : World, (∀ b53 : Bool, (((Nat → Value) →
(∃ n56 : Nat, ((n56 < n43) ∧
(k41 n56 b53 (IntKind.wrap IntKind.i64 (x47 + 1)) w52)))) →
(k50 b53 w52)))) →
(∀ w57 : World, ((w57 = w45.drew) →
(((b46 = true) →
(k50 b46 w57)) ∧
((b46 = false) →
(∃ a61 : Addr, ((o6 = (some a61)) ∧
((((0 : Int) ≤ x47) ∧
(x47 < ((n7 : Nat) : Int))) ∧
(∃ b62 : Bool, (((w57.cell? (Addr.add a61 ((x47).toNat * 1))) = (some (Value.bool b62))) ∧
(((b62 = true) →
(k50 b46 w57)) ∧
((b62 = false) →
(∃ a65 : Addr, ((have' = (some a65)) ∧
((((0 : Int) ≤ x47) ∧
(x47 < ((have'_n : Nat) : Int))) ∧
(∃ x66 : Int, (((w57.cell? (Addr.add a65 ((x47).toNat * 1))) = (some (Value.int IntKind.i64 x66))) ∧
(∃ a67 : Addr, ((want = (some a67)) ∧
((((0 : Int) ≤ x29) ∧
(x29 < ((want_n : Nat) : Int))) ∧
(∃ x68 : Int, (((w57.cell? (Addr.add a67 ((x29).toNat * 1))) = (some (Value.int IntKind.i64 x68))) ∧
((((decide (x66 = x68)) = true) →
(∃ a70 : Addr, ((o6 = (some a70)) ∧
((((0 : Int) ≤ x47) ∧
(x47 < ((n7 : Nat) : Int))) ∧
((Nf.There w57 (Addr.add a70 ((x47).toNat * 1)) 1) ∧
(∀ w71 : World, ((w71 = (Nf.setCells w57 (Addr.add a70 ((x47).toNat * 1)) [(Value.bool true)] 0)) →
(k50 true w71)))))))) ∧
(((decide (x66 = x68)) = false) →
(k50 b46 w57))))))))))))))))))))))))))) ∧
(((decide (x47 < ((have'_n : Nat) : Int))) = false) →
(((b46 = true) →
(k32 o26 n27 n28 w45)) ∧
((b46 = false) →
(∃ a77 : Addr, ((want = (some a77)) ∧
((((0 : Int) ≤ x29) ∧
(x29 < ((want_n : Nat) : Int))) ∧
(∃ x78 : Int, (((w45.cell? (Addr.add a77 ((x29).toNat * 1))) = (some (Value.int IntKind.i64 x78))) ∧
(∀ w79 : World, ((w79 = (w45.alloc (Obj.cells #[(Value.int IntKind.i64 x78)] 3 (0, 0)))) →
(RunOk Tryd.prog (Nf.Hold (Builtin.append_ #[71, 71] 71 #[(Value.slice o26 n27 n28), (Value.slice (some (⟨(hs w45), 0, none⟩ : Addr)) 1 1)])) w79 (fun (v81 : Value) => (fun (w82 : World) => (∃ o83 : Option Addr, (∃ n84 : Nat, (∃ n85 : Nat, ((v81 = (Value.slice o83 n84 n85)) ∧
(k32 o83 n84 n85 w82)))))))))))))))))))))))))))))) ∧
(((decide (x29 < ((want_n : Nat) : Int))) = false) →
(∃ k87 : (Nat → (Option Addr → (Nat → (Nat → (Int → (World → Prop)))))), ((∃ n88 : Nat, (k87 n88 none 0 0 0 w25)) ∧
(∀ n89 : Nat, ((Nat → Value) →
(∀ w91 : World, (∀ o92 : Option Addr, (∀ n93 : Nat, (∀ n94 : Nat, (∀ x95 : Int, ((k87 n89 o92 n93 n94 x95 w91) →
((((decide (x95 < ((n27 : Nat) : Int))) = true) →
(∀ k98 : (Option Addr → (Nat → (Nat → (World → Prop)))), ((∀ w100 : World, (∀ o101 : Option Addr, (∀ n102 : Nat, (∀ n103 : Nat, (((Nat → Value) →
(∃ n106 : Nat, ((n106 < n89) ∧
(k87 n106 o101 n102 n103 (IntKind.wrap IntKind.i64 (x95 + 1)) w100)))) →
(k98 o101 n102 n103 w100)))))) →
(∃ k107 : (Nat → (Bool → (Int → (World → Prop)))), ((∃ n108 : Nat, (k107 n108 false 0 w91)) ∧
(∀ n109 : Nat, ((Nat → Value) →
(∀ w111 : World, (∀ b112 : Bool, (∀ x113 : Int, ((k107 n109 b112 x113 w111) →
((((decide (x113 < ((have'_n : Nat) : Int))) = true) →
(∀ k116 : (Bool → (World → Prop)), ((∀ w118 : World, (∀ b119 : Bool, (((Nat → Value) →
(∃ n122 : Nat, ((n122 < n109) ∧
(k107 n122 b119 (IntKind.wrap IntKind.i64 (x113 + 1)) w118)))) →
(k116 b119 w118)))) →
(((b112 = true) →
(k116 b112 w111)) ∧
((b112 = false) →
(∃ a125 : Addr, ((o6 = (some a125)) ∧
((((0 : Int) ≤ x113) ∧
(x113 < ((n7 : Nat) : Int))) ∧
(∃ b126 : Bool, (((w111.cell? (Addr.add a125 ((x113).toNat * 1))) = (some (Value.bool b126))) ∧
(((b126 = true) →
(k116 b112 w111)) ∧
((b126 = false) →
(∃ a129 : Addr, ((have' = (some a129)) ∧
((((0 : Int) ≤ x113) ∧
(x113 < ((have'_n : Nat) : Int))) ∧
(∃ x130 : Int, (((w111.cell? (Addr.add a129 ((x113).toNat * 1))) = (some (Value.int IntKind.i64 x130))) ∧
((((decide (x130 = 2)) = true) →
(∃ a132 : Addr, ((o26 = (some a132)) ∧
((((0 : Int) ≤ x95) ∧
(x95 < ((n27 : Nat) : Int))) ∧
(∃ x133 : Int, (((w111.cell? (Addr.add a132 ((x95).toNat * 1))) = (some (Value.int IntKind.i64 x133))) ∧
((((decide (x133 = 1)) = true) →
(∃ a135 : Addr, ((o6 = (some a135)) ∧
((((0 : Int) ≤ x113) ∧
(x113 < ((n7 : Nat) : Int))) ∧
((Nf.There w111 (Addr.add a135 ((x113).toNat * 1)) 1) ∧
(∀ w136 : World, ((w136 = (Nf.setCells w111 (Addr.add a135 ((x113).toNat * 1)) [(Value.bool true)] 0)) →
(k116 true w136)))))))) ∧
(((decide (x133 = 1)) = false) →
(k116 b112 w111))))))))) ∧
(((decide (x130 = 2)) = false) →
(k116 b112 w111)))))))))))))))))))) ∧
(((decide (x113 < ((have'_n : Nat) : Int))) = false) →
(((b112 = true) →
(k98 o92 n93 n94 w111)) ∧
((b112 = false) →
(∃ a143 : Addr, ((o26 = (some a143)) ∧
((((0 : Int) ≤ x95) ∧
(x95 < ((n27 : Nat) : Int))) ∧
(∃ x144 : Int, (((w111.cell? (Addr.add a143 ((x95).toNat * 1))) = (some (Value.int IntKind.i64 x144))) ∧
(∀ w145 : World, ((w145 = (w111.alloc (Obj.cells #[(Value.int IntKind.i64 x144)] 3 (0, 0)))) →
(RunOk Tryd.prog (Nf.Hold (Builtin.append_ #[71, 71] 71 #[(Value.slice o92 n93 n94), (Value.slice (some (⟨(hs w111), 0, none⟩ : Addr)) 1 1)])) w145 (fun (v147 : Value) => (fun (w148 : World) => (∃ o149 : Option Addr, (∃ n150 : Nat, (∃ n151 : Nat, ((v147 = (Value.slice o149 n150 n151)) ∧
(k98 o149 n150 n151 w148)))))))))))))))))))))))))))))) ∧
(((decide (x95 < ((n27 : Nat) : Int))) = false) →
(R (Ending.returned (Value.slice o92 n93 n94)) w91)))))))))))))))))))))))))))))))))))))) :
    Calls Tryd.prog 59 #[(.slice want want_n want_c), (.slice have' have'_n have'_c)] w R :=
  calls_of_vc an59 Tryd.func59 rfl (by kernel_rfl) (by kernel_rfl) (Eq.mp (by kernel_rfl) h)

/-- samaritan/samaritanref45.Lacking -/
def an39 : An := (.seq (.reg []) (.seq (.reg []) (.seq (.seq (.reg []) (.blk (.loop [(7, .int .i64), (8, .int .i64)] (.seq (.seq (.reg [(3, 0, true)]) (.cond .nil .nil)) (.cut [(7, .int .i64)] (.blk (.seq (.reg []) (.seq (.seq (.reg [(2, 0, true), (6, 0, true), (10, 0, true), (15, 0, true)]) (.cond .nil .nil)) (.seq (.reg []) (.seq (.seq (.reg []) (.blk (.loop [(10, .slice), (11, .int .i64)] (.seq (.seq (.reg [(3, 0, true)]) (.cond .nil .nil)) (.cut [(10, .slice)] (.blk (.seq (.regD [(7, 0, true)] [0, 1, 2, 3, 4, 5, 6, 7] []) (.cond (.reg [(7, 1, false)]) .nil))) (.reg [])))))) (.reg [])))))) (.reg [])))))) (.seq (.seq (.reg []) (.blk (.loop [(7, .int .i64), (12, .int .i64)] (.seq (.seq (.reg [(3, 0, true)]) (.cond .nil .nil)) (.cut [(7, .int .i64)] (.blk (.seq (.reg [(5, 0, true)]) (.cond (.reg []) .nil))) (.reg [])))))) (.seq (.reg []) .nil)))))
set_option maxRecDepth 100000 in
theorem nf39 (l : Option Addr) (l_n : Nat) (l_c : Nat) (units : Option Addr) (units_n : Nat) (units_c : Nat) (plans : Option Addr) (plans_n : Nat) (plans_c : Nat) (w : World) (R : Ending → World → Prop) (h :
(∃ k1 : (Nat → (Int → (Int → (World → Prop)))), ((∃ n2 : Nat, (k1 n2 0 0 w)) ∧
(∀ n3 : Nat, ((Nat → Value) →
(∀ w5 : World, (∀ x6 : Int, (∀ x7 : Int, ((k1 n3 x6 x7 w5) →
((((decide (x7 < ((l_n : Nat) : Int))) = true) →
(∀ k10 : (Int → (World → Prop)), ((∀ w12 : World, (∀ x13 : Int, (((Nat → Value) →
(∃ n16 : Nat, ((n16 < n3) ∧
(k1 n16 x13 (IntKind.wrap IntKind.i64 (x7 + 1)) w12)))) →
(k10 x13 w12)))) →
(∃ a17 : Addr, ((l = (some a17)) ∧
((((0 : Int) ≤ x7) ∧
(x7 < ((l_n : Nat) : Int))) ∧
(∃ x18 : Int, (((w5.cell? (Addr.add a17 ((x7).toNat * 10))) = (some (Value.int IntKind.i64 x18))) ∧
(∃ x19 : Int, (((w5.cell? (Addr.add (Addr.add a17 ((x7).toNat * 10)) 1)) = (some (Value.int IntKind.i64 x19))) ∧
(∃ s20 : ByteArray, (((w5.cell? (Addr.add (Addr.add a17 ((x7).toNat * 10)) 2)) = (some (Value.string s20))) ∧
(∃ o21 : Option Addr, (∃ n22 : Nat, (∃ n23 : Nat, (((w5.cell? (Addr.add (Addr.add a17 ((x7).toNat * 10)) 3)) = (some (Value.slice o21 n22 n23))) ∧
(∃ x24 : Int, (((w5.cell? (Addr.add (Addr.add a17 ((x7).toNat * 10)) 4)) = (some (Value.int IntKind.i64 x24))) ∧
(∃ x25 : Int, (((w5.cell? (Addr.add (Addr.add a17 ((x7).toNat * 10)) 5)) = (some (Value.int IntKind.i64 x25))) ∧
(∃ o26 : Option Addr, (∃ n27 : Nat, (∃ n28 : Nat, (((w5.cell? (Addr.add (Addr.add a17 ((x7).toNat * 10)) 6)) = (some (Value.slice o26 n27 n28))) ∧
(∃ o29 : Option Addr, (∃ n30 : Nat, (∃ n31 : Nat, (((w5.cell? (Addr.add (Addr.add a17 ((x7).toNat * 10)) 7)) = (some (Value.slice o29 n30 n31))) ∧
(∃ x32 : Int, (((w5.cell? (Addr.add (Addr.add a17 ((x7).toNat * 10)) 8)) = (some (Value.int IntKind.i64 x32))) ∧
(∃ b33 : Bool, (((w5.cell? (Addr.add (Addr.add a17 ((x7).toNat * 10)) 9)) = (some (Value.bool b33))) ∧
(∀ w34 : World, ((w34 = (w5.alloc (Obj.cells #[(Value.int IntKind.i64 0), (Value.int IntKind.i64 0), (Value.string (ByteArray.mk #[])), (Value.slice none 0 0), (Value.int IntKind.i64 0), (Value.int IntKind.i64 0), (Value.slice none 0 0), (Value.slice none 0 0), (Value.int IntKind.i64 0), (Value.bool false)] 74 (0, 0)))) →
((Nf.There w34 (⟨(hs w5), 0, none⟩ : Addr) 10) ∧
(∀ w36 : World, ((w36 = (Nf.setCells w34 (⟨(hs w5), 0, none⟩ : Addr) [(Value.int IntKind.i64 x18), (Value.int IntKind.i64 x19), (Value.string s20), (Value.slice o21 n22 n23), (Value.int IntKind.i64 x24), (Value.int IntKind.i64 x25), (Value.slice o26 n27 n28), (Value.slice o29 n30 n31), (Value.int IntKind.i64 x32), (Value.bool b33)] 0)) →
(∃ x38 : Int, (((w36.cell? (⟨(hs w5), 1, none⟩ : Addr)) = (some (Value.int IntKind.i64 x38))) ∧
((((decide (x38 < 1)) = true) →
(k10 x6 w36)) ∧
(((decide (x38 < 1)) = false) →
(∃ x41 : Int, (((w36.cell? (⟨(hs w5), 1, none⟩ : Addr)) = (some (Value.int IntKind.i64 x41))) ∧
((((decide (x41 > 2)) = true) →
(k10 x6 w36)) ∧
(((decide (x41 > 2)) = false) →
(∃ b44 : Bool, (((w36.cell? (⟨(hs w5), 9, none⟩ : Addr)) = (some (Value.bool b44))) ∧
(((b44 = true) →
(k10 x6 w36)) ∧
((b44 = false) →
(∃ x47 : Int, (((w36.cell? (⟨(hs w5), 8, none⟩ : Addr)) = (some (Value.int IntKind.i64 x47))) ∧
((((!(decide (x47 = 0))) = true) →
(k10 x6 w36)) ∧
(((!(decide (x47 = 0))) = false) →
(∀ w50 : World, ((w50 = (w36.alloc (Obj.cells #[] 3 (0, 0)))) →
(∃ k52 : (Nat → (Option Addr → (Nat → (Nat → (Int → (World → Prop)))))), ((∃ n53 : Nat, (k52 n53 (some (⟨(hs w36), 0, none⟩ : Addr)) 0 0 0 w50)) ∧
(∀ n54 : Nat, ((Nat → Value) →
(∀ w56 : World, (∀ o57 : Option Addr, (∀ n58 : Nat, (∀ n59 : Nat, (∀ x60 : Int, ((k52 n54 o57 n58 n59 x60 w56) →
((((decide (x60 < ((units_n : Nat) : Int))) = true) →
(∀ k63 : (Option Addr → (Nat → (Nat → (World → Prop)))), ((∀ w65 : World, (∀ o66 : Option Addr, (∀ n67 : Nat, (∀ n68 : Nat, (((Nat → Value) →
(∃ n71 : Nat, ((n71 < n54) ∧
(k52 n71 o66 n67 n68 (IntKind.wrap IntKind.i64 (x60 + 1)) w65)))) →
(k63 o66 n67 n68 w65)))))) →
(∀ w72 : World, ((w72 = w56.drew) →
(∃ a74 : Addr, ((units = (some a74)) ∧
((((0 : Int) ≤ x60) ∧
(x60 < ((units_n : Nat) : Int))) ∧
(∃ x75 : Int, (((w72.cell? (Addr.add (Addr.add a74 ((x60).toNat * 10)) 7)) = (some (Value.int IntKind.i64 x75))) ∧
(∃ x76 : Int, (((w72.cell? (⟨(hs w5), 0, none⟩ : Addr)) = (some (Value.int IntKind.i64 x76))) ∧
((((decide (x75 = x76)) = true) →
(∃ a78 : Addr, ((units = (some a78)) ∧
((((0 : Int) ≤ x60) ∧
(x60 < ((units_n : Nat) : Int))) ∧
(∃ x79 : Int, (((w72.cell? (Addr.add (Addr.add a78 ((x60).toNat * 10)) 1)) = (some (Value.int IntKind.i64 x79))) ∧
(∀ w80 : World, ((w80 = (w72.alloc (Obj.cells #[(Value.int IntKind.i64 x79)] 3 (0, 0)))) →
(RunOk Tryd.prog (Nf.Hold (Builtin.append_ #[71, 71] 71 #[(Value.slice o57 n58 n59), (Value.slice (some (⟨(hs w72), 0, none⟩ : Addr)) 1 1)])) w80 (fun (v82 : Value) => (fun (w83 : World) => (∃ o84 : Option Addr, (∃ n85 : Nat, (∃ n86 : Nat, ((v82 = (Value.slice o84 n85 n86)) ∧
(k63 o84 n85 n86 w83)))))))))))))))) ∧
(((decide (x75 = x76)) = false) →
(k63 o57 n58 n59 w72))))))))))))))) ∧
(((decide (x60 < ((units_n : Nat) : Int))) = false) →
(∃ s89 : ByteArray, (((w56.cell? (⟨(hs w5), 2, none⟩ : Addr)) = (some (Value.string s89))) ∧
(∃ x90 : Int, (((w56.cell? (⟨(hs w5), 1, none⟩ : Addr)) = (some (Value.int IntKind.i64 x90))) ∧
(Calls Tryd.prog 60 #[(Value.slice plans plans_n plans_c), (Value.string s89), (Value.int IntKind.i64 x90)] w56 (fun (e91 : Ending) => (fun (w92 : World) => (∃ o93 : Option Addr, (∃ n94 : Nat, (∃ n95 : Nat, ((e91 = (Ending.returned (Value.slice o93 n94 n95))) ∧
(Calls Tryd.prog 59 #[(Value.slice o93 n94 n95), (Value.slice o57 n58 n59)] w92 (fun (e96 : Ending) => (fun (w97 : World) => (∃ o98 : Option Addr, (∃ n99 : Nat, (∃ n100 : Nat, ((e96 = (Ending.returned (Value.slice o98 n99 n100))) ∧
(k10 (IntKind.wrap IntKind.i64 (x6 + ((n99 : Nat) : Int))) w97)))))))))))))))))))))))))))))))))))))))))))))))))))))))))))))))))))))))))))))))))))))) ∧
(((decide (x7 < ((l_n : Nat) : Int))) = false) →
(∃ k102 : (Nat → (Int → (Int → (World → Prop)))), ((∃ n103 : Nat, (k102 n103 x6 0 w5)) ∧
(∀ n104 : Nat, ((Nat → Value) →
(∀ w106 : World, (∀ x107 : Int, (∀ x108 : Int, ((k102 n104 x107 x108 w106) →
((((decide (x108 < ((units_n : Nat) : Int))) = true) →
(∀ k111 : (Int → (World → Prop)), ((∀ w113 : World, (∀ x114 : Int, (((Nat → Value) →
(∃ n117 : Nat, ((n117 < n104) ∧
(k102 n117 x114 (IntKind.wrap IntKind.i64 (x108 + 1)) w113)))) →
(k111 x114 w113)))) →
(∃ a118 : Addr, ((units = (some a118)) ∧
((((0 : Int) ≤ x108) ∧
(x108 < ((units_n : Nat) : Int))) ∧
(∃ x119 : Int, (((w106.cell? (Addr.add (Addr.add a118 ((x108).toNat * 10)) 3)) = (some (Value.int IntKind.i64 x119))) ∧
((((decide (x119 = 1)) = true) →
(k111 (IntKind.wrap IntKind.i64 (x107 - 1)) w106)) ∧
(((decide (x119 = 1)) = false) →
(k111 x107 w106))))))))))) ∧
(((decide (x108 < ((units_n : Nat) : Int))) = false) →
(R (Ending.returned (Value.int IntKind.i64 x107)) w106)))))))))))))))))))))) :
    Calls Tryd.prog 39 #[(.slice l l_n l_c), (.slice units units_n units_c), (.slice plans plans_n plans_c)] w R :=
  calls_of_vc an39 Tryd.func39 rfl (by kernel_rfl) (by kernel_rfl) (Eq.mp (by kernel_rfl) h)

/-- samaritan/surge.Level -/
def an13 : An := (.seq (.reg []) (.seq (.reg []) (.seq (.seq (.reg []) (.blk (.loop [(7, .int .i64), (19, .int .i64)] (.seq (.reg [(0, 0, true)]) (.seq (.cond .nil .nil) (.cut [(7, .int .i64)] (.blk (.seq (.reg []) (.seq (.seq (.reg [(2, 0, true), (6, 0, true), (10, 0, true), (15, 0, true)]) (.cond .nil .nil)) (.seq (.reg []) (.seq (.seq (.reg []) (.blk (.loop [(10, .slice), (42, .int .i64)] (.seq (.reg [(0, 0, true)]) (.seq (.cond .nil .nil) (.cut [(10, .slice)] (.blk (.seq (.reg []) (.seq (.reg [(4, 0, true)]) (.cond (.reg [(4, 1, false)]) .nil)))) (.reg []))))))) (.reg [])))))) (.reg []))))))) (.seq (.seq (.reg []) (.blk (.loop [(7, .int .i64), (71, .int .i64)] (.seq (.reg [(0, 0, true)]) (.seq (.cond .nil .nil) (.cut [(7, .int .i64)] (.blk (.seq (.reg []) (.seq (.reg [(2, 0, true)]) (.cond (.reg []) .nil)))) (.reg []))))))) (.seq (.seq (.reg []) (.blk (.loop [(82, .int .i64)] (.seq (.reg [(0, 0, true)]) (.seq (.cond .nil .nil) (.seq (.blk (.seq (.reg [(1, 1, false)]) (.seq (.reg [(2, 0, true)]) (.cond (.seq (.reg []) .nil) .nil)))) (.reg []))))))) (.seq (.reg []) .nil))))))
set_option maxRecDepth 100000 in
theorem nf13 (l : Option Addr) (l_n : Nat) (l_c : Nat) (units : Option Addr) (units_n : Nat) (units_c : Nat) (plans : Option Addr) (plans_n : Nat) (plans_c : Nat) (w : World) (R : Ending → World → Prop) (h :
(∃ k1 : (Nat → (Int → (Int → (World → Prop)))), ((∃ n2 : Nat, (k1 n2 0 0 w)) ∧
(∀ n3 : Nat, ((Nat → Value) →
(∀ w5 : World, (∀ x6 : Int, (∀ x7 : Int, ((k1 n3 x6 x7 w5) →
((((decide (x7 < ((l_n : Nat) : Int))) = true) →
(∀ k10 : (Int → (World → Prop)), ((∀ w12 : World, (∀ x13 : Int, (((Nat → Value) →
(∃ n16 : Nat, ((n16 < n3) ∧
(k1 n16 x13 (IntKind.wrap IntKind.i64 (x7 + 1)) w12)))) →
(k10 x13 w12)))) →
(∃ a17 : Addr, ((l = (some a17)) ∧
((((0 : Int) ≤ x7) ∧
(x7 < ((l_n : Nat) : Int))) ∧
(∃ x18 : Int, (((w5.cell? (Addr.add a17 ((x7).toNat * 10))) = (some (Value.int IntKind.i64 x18))) ∧
(∃ x19 : Int, (((w5.cell? (Addr.add (Addr.add a17 ((x7).toNat * 10)) 1)) = (some (Value.int IntKind.i64 x19))) ∧
(∃ s20 : ByteArray, (((w5.cell? (Addr.add (Addr.add a17 ((x7).toNat * 10)) 2)) = (some (Value.string s20))) ∧
(∃ o21 : Option Addr, (∃ n22 : Nat, (∃ n23 : Nat, (((w5.cell? (Addr.add (Addr.add a17 ((x7).toNat * 10)) 3)) = (some (Value.slice o21 n22 n23))) ∧
(∃ x24 : Int, (((w5.cell? (Addr.add (Addr.add a17 ((x7).toNat * 10)) 4)) = (some (Value.int IntKind.i64 x24))) ∧
(∃ x25 : Int, (((w5.cell? (Addr.add (Addr.add a17 ((x7).toNat * 10)) 5)) = (some (Value.int IntKind.i64 x25))) ∧
(∃ o26 : Option Addr, (∃ n27 : Nat, (∃ n28 : Nat, (((w5.cell? (Addr.add (Addr.add a17 ((x7).toNat * 10)) 6)) = (some (Value.slice o26 n27 n28))) ∧
(∃ o29 : Option Addr, (∃ n30 : Nat, (∃ n31 : Nat, (((w5.cell? (Addr.add (Addr.add a17 ((x7).toNat * 10)) 7)) = (some (Value.slice o29 n30 n31))) ∧
(∃ x32 : Int, (((w5.cell? (Addr.add (Addr.add a17 ((x7).toNat * 10)) 8)) = (some (Value.int IntKind.i64 x32))) ∧
(∃ b33 : Bool, (((w5.cell? (Addr.add (Addr.add a17 ((x7).toNat * 10)) 9)) = (some (Value.bool b33))) ∧
(∀ w34 : World, ((w34 = (w5.alloc (Obj.cells #[(Value.int IntKind.i64 0), (Value.int IntKind.i64 0), (Value.string (ByteArray.mk #[])), (Value.slice none 0 0), (Value.int IntKind.i64 0), (Value.int IntKind.i64 0), (Value.slice none 0 0), (Value.slice none 0 0), (Value.int IntKind.i64 0), (Value.bool false)] 74 (0, 0)))) →
((Nf.There w34 (⟨(hs w5), 0, none⟩ : Addr) 10) ∧
(∀ w36 : World, ((w36 = (Nf.setCells w34 (⟨(hs w5), 0, none⟩ : Addr) [(Value.int IntKind.i64 x18), (Value.int IntKind.i64 x19), (Value.string s20), (Value.slice o21 n22 n23), (Value.int IntKind.i64 x24), (Value.int IntKind.i64 x25), (Value.slice o26 n27 n28), (Value.slice o29 n30 n31), (Value.int IntKind.i64 x32), (Value.bool b33)] 0)) →
(∃ x38 : Int, (((w36.cell? (⟨(hs w5), 1, none⟩ : Addr)) = (some (Value.int IntKind.i64 x38))) ∧
((((!(decide (x38 = 1))) = true) →
(∃ x40 : Int, (((w36.cell? (⟨(hs w5), 1, none⟩ : Addr)) = (some (Value.int IntKind.i64 x40))) ∧
((((!(decide (x40 = 2))) = true) →
(k10 x6 w36)) ∧
(((!(decide (x40 = 2))) = false) →
(∃ b43 : Bool, (((w36.cell? (⟨(hs w5), 9, none⟩ : Addr)) = (some (Value.bool b43))) ∧
(((b43 = true) →
(k10 x6 w36)) ∧
((b43 = false) →
(∃ x46 : Int, (((w36.cell? (⟨(hs w5), 8, none⟩ : Addr)) = (some (Value.int IntKind.i64 x46))) ∧
((((!(decide (x46 = 0))) = true) →
(k10 x6 w36)) ∧
(((!(decide (x46 = 0))) = false) →
(∃ k49 : (Nat → (Option Addr → (Nat → (Nat → (Int → (World → Prop)))))), ((∃ n50 : Nat, (k49 n50 none 0 0 0 w36)) ∧
(∀ n51 : Nat, ((Nat → Value) →
(∀ w53 : World, (∀ o54 : Option Addr, (∀ n55 : Nat, (∀ n56 : Nat, (∀ x57 : Int, ((k49 n51 o54 n55 n56 x57 w53) →
((((decide (x57 < ((units_n : Nat) : Int))) = true) →
(∀ k60 : (Option Addr → (Nat → (Nat → (World → Prop)))), ((∀ w62 : World, (∀ o63 : Option Addr, (∀ n64 : Nat, (∀ n65 : Nat, (((Nat → Value) →
(∃ n68 : Nat, ((n68 < n51) ∧
(k49 n68 o63 n64 n65 (IntKind.wrap IntKind.i64 (x57 + 1)) w62)))) →
(k60 o63 n64 n65 w62)))))) →
(∃ a69 : Addr, ((units = (some a69)) ∧
((((0 : Int) ≤ x57) ∧
(x57 < ((units_n : Nat) : Int))) ∧
(∃ x70 : Int, (((w53.cell? (Addr.add a69 ((x57).toNat * 10))) = (some (Value.int IntKind.i64 x70))) ∧
(∃ x71 : Int, (((w53.cell? (Addr.add (Addr.add a69 ((x57).toNat * 10)) 1)) = (some (Value.int IntKind.i64 x71))) ∧
(∃ x72 : Int, (((w53.cell? (Addr.add (Addr.add a69 ((x57).toNat * 10)) 2)) = (some (Value.int IntKind.i64 x72))) ∧
(∃ x73 : Int, (((w53.cell? (Addr.add (Addr.add a69 ((x57).toNat * 10)) 3)) = (some (Value.int IntKind.i64 x73))) ∧
(∃ x74 : Int, (((w53.cell? (Addr.add (Addr.add a69 ((x57).toNat * 10)) 4)) = (some (Value.int IntKind.i64 x74))) ∧
(∃ x75 : Int, (((w53.cell? (Addr.add (Addr.add a69 ((x57).toNat * 10)) 5)) = (some (Value.int IntKind.i64 x75))) ∧
(∃ x76 : Int, (((w53.cell? (Addr.add (Addr.add a69 ((x57).toNat * 10)) 6)) = (some (Value.int IntKind.i64 x76))) ∧
(∃ x77 : Int, (((w53.cell? (Addr.add (Addr.add a69 ((x57).toNat * 10)) 7)) = (some (Value.int IntKind.i64 x77))) ∧
(∃ x78 : Int, (((w53.cell? (Addr.add (Addr.add a69 ((x57).toNat * 10)) 8)) = (some (Value.int IntKind.i64 x78))) ∧
(∃ x79 : Int, (((w53.cell? (Addr.add (Addr.add a69 ((x57).toNat * 10)) 9)) = (some (Value.int IntKind.i64 x79))) ∧
(∀ w80 : World, ((w80 = (w53.alloc (Obj.cells #[(Value.int IntKind.i64 0), (Value.int IntKind.i64 0), (Value.int IntKind.i64 0), (Value.int IntKind.i64 0), (Value.int IntKind.i64 0), (Value.int IntKind.i64 0), (Value.int IntKind.i64 0), (Value.int IntKind.i64 0), (Value.int IntKind.i64 0), (Value.int IntKind.i64 0)] 29 (0, 0)))) →
((Nf.There w80 (⟨(hs w53), 0, none⟩ : Addr) 10) ∧
(∀ w82 : World, ((w82 = (Nf.setCells w80 (⟨(hs w53), 0, none⟩ : Addr) [(Value.int IntKind.i64 x70), (Value.int IntKind.i64 x71), (Value.int IntKind.i64 x72), (Value.int IntKind.i64 x73), (Value.int IntKind.i64 x74), (Value.int IntKind.i64 x75), (Value.int IntKind.i64 x76), (Value.int IntKind.i64 x77), (Value.int IntKind.i64 x78), (Value.int IntKind.i64 x79)] 0)) →
(∃ x84 : Int, (((w82.cell? (⟨(hs w53), 7, none⟩ : Addr)) = (some (Value.int IntKind.i64 x84))) ∧
(∃ x85 : Int, (((w82.cell? (⟨(hs w5), 0, none⟩ : Addr)) = (some (Value.int IntKind.i64 x85))) ∧
((((decide (x84 = x85)) = true) →
(∃ x87 : Int, (((w82.cell? (⟨(hs w53), 1, none⟩ : Addr)) = (some (Value.int IntKind.i64 x87))) ∧
(∀ w88 : World, ((w88 = (w82.alloc (Obj.cells #[(Value.int IntKind.i64 x87)] 3 (0, 0)))) →
(RunOk Tryd.prog (Nf.Hold (Builtin.append_ #[71, 71] 71 #[(Value.slice o54 n55 n56), (Value.slice (some (⟨(hs w82), 0, none⟩ : Addr)) 1 1)])) w88 (fun (v90 : Value) => (fun (w91 : World) => (∃ o92 : Option Addr, (∃ n93 : Nat, (∃ n94 : Nat, ((v90 = (Value.slice o92 n93 n94)) ∧
(k60 o92 n93 n94 w91))))))))))))) ∧
(((decide (x84 = x85)) = false) →
(k60 o54 n55 n56 w82)))))))))))))))))))))))))))))))))))))) ∧
(((decide (x57 < ((units_n : Nat) : Int))) = false) →
(∃ s97 : ByteArray, (((w53.cell? (⟨(hs w5), 2, none⟩ : Addr)) = (some (Value.string s97))) ∧
(∃ x98 : Int, (((w53.cell? (⟨(hs w5), 1, none⟩ : Addr)) = (some (Value.int IntKind.i64 x98))) ∧
(Calls Tryd.prog 38 #[(Value.slice plans plans_n plans_c), (Value.string s97), (Value.int IntKind.i64 x98)] w53 (fun (e99 : Ending) => (fun (w100 : World) => (∃ o101 : Option Addr, (∃ n102 : Nat, (∃ n103 : Nat, ((e99 = (Ending.returned (Value.slice o101 n102 n103))) ∧
(Calls Tryd.prog 37 #[(Value.slice o101 n102 n103), (Value.slice o54 n55 n56)] w100 (fun (e104 : Ending) => (fun (w105 : World) => (∃ o106 : Option Addr, (∃ n107 : Nat, (∃ n108 : Nat, ((e104 = (Ending.returned (Value.slice o106 n107 n108))) ∧
(k10 (IntKind.wrap IntKind.i64 (x6 + ((n107 : Nat) : Int))) w105)))))))))))))))))))))))))))))))))))))))))))) ∧
(((!(decide (x38 = 1))) = false) →
(∃ b110 : Bool, (((w36.cell? (⟨(hs w5), 9, none⟩ : Addr)) = (some (Value.bool b110))) ∧
(((b110 = true) →
(k10 x6 w36)) ∧
((b110 = false) →
(∃ x113 : Int, (((w36.cell? (⟨(hs w5), 8, none⟩ : Addr)) = (some (Value.int IntKind.i64 x113))) ∧
((((!(decide (x113 = 0))) = true) →
(k10 x6 w36)) ∧
(((!(decide (x113 = 0))) = false) →
(∃ k116 : (Nat → (Option Addr → (Nat → (Nat → (Int → (World → Prop)))))), ((∃ n117 : Nat, (k116 n117 none 0 0 0 w36)) ∧
(∀ n118 : Nat, ((Nat → Value) →
(∀ w120 : World, (∀ o121 : Option Addr, (∀ n122 : Nat, (∀ n123 : Nat, (∀ x124 : Int, ((k116 n118 o121 n122 n123 x124 w120) →
((((decide (x124 < ((units_n : Nat) : Int))) = true) →
(∀ k127 : (Option Addr → (Nat → (Nat → (World → Prop)))), ((∀ w129 : World, (∀ o130 : Option Addr, (∀ n131 : Nat, (∀ n132 : Nat, (((Nat → Value) →
(∃ n135 : Nat, ((n135 < n118) ∧
(k116 n135 o130 n131 n132 (IntKind.wrap IntKind.i64 (x124 + 1)) w129)))) →
(k127 o130 n131 n132 w129)))))) →
(∃ a136 : Addr, ((units = (some a136)) ∧
((((0 : Int) ≤ x124) ∧
(x124 < ((units_n : Nat) : Int))) ∧
(∃ x137 : Int, (((w120.cell? (Addr.add a136 ((x124).toNat * 10))) = (some (Value.int IntKind.i64 x137))) ∧
(∃ x138 : Int, (((w120.cell? (Addr.add (Addr.add a136 ((x124).toNat * 10)) 1)) = (some (Value.int IntKind.i64 x138))) ∧
(∃ x139 : Int, (((w120.cell? (Addr.add (Addr.add a136 ((x124).toNat * 10)) 2)) = (some (Value.int IntKind.i64 x139))) ∧
(∃ x140 : Int, (((w120.cell? (Addr.add (Addr.add a136 ((x124).toNat * 10)) 3)) = (some (Value.int IntKind.i64 x140))) ∧
(∃ x141 : Int, (((w120.cell? (Addr.add (Addr.add a136 ((x124).toNat * 10)) 4)) = (some (Value.int IntKind.i64 x141))) ∧
(∃ x142 : Int, (((w120.cell? (Addr.add (Addr.add a136 ((x124).toNat * 10)) 5)) = (some (Value.int IntKind.i64 x142))) ∧
(∃ x143 : Int, (((w120.cell? (Addr.add (Addr.add a136 ((x124).toNat * 10)) 6)) = (some (Value.int IntKind.i64 x143))) ∧
(∃ x144 : Int, (((w120.cell? (Addr.add (Addr.add a136 ((x124).toNat * 10)) 7)) = (some (Value.int IntKind.i64 x144))) ∧
(∃ x145 : Int, (((w120.cell? (Addr.add (Addr.add a136 ((x124).toNat * 10)) 8)) = (some (Value.int IntKind.i64 x145))) ∧
(∃ x146 : Int, (((w120.cell? (Addr.add (Addr.add a136 ((x124).toNat * 10)) 9)) = (some (Value.int IntKind.i64 x146))) ∧
(∀ w147 : World, ((w147 = (w120.alloc (Obj.cells #[(Value.int IntKind.i64 0), (Value.int IntKind.i64 0), (Value.int IntKind.i64 0), (Value.int IntKind.i64 0), (Value.int IntKind.i64 0), (Value.int IntKind.i64 0), (Value.int IntKind.i64 0), (Value.int IntKind.i64 0), (Value.int IntKind.i64 0), (Value.int IntKind.i64 0)] 29 (0, 0)))) →
((Nf.There w147 (⟨(hs w120), 0, none⟩ : Addr) 10) ∧
(∀ w149 : World, ((w149 = (Nf.setCells w147 (⟨(hs w120), 0, none⟩ : Addr) [(Value.int IntKind.i64 x137), (Value.int IntKind.i64 x138), (Value.int IntKind.i64 x139), (Value.int IntKind.i64 x140), (Value.int IntKind.i64 x141), (Value.int IntKind.i64 x142), (Value.int IntKind.i64 x143), (Value.int IntKind.i64 x144), (Value.int IntKind.i64 x145), (Value.int IntKind.i64 x146)] 0)) →
(∃ x151 : Int, (((w149.cell? (⟨(hs w120), 7, none⟩ : Addr)) = (some (Value.int IntKind.i64 x151))) ∧
(∃ x152 : Int, (((w149.cell? (⟨(hs w5), 0, none⟩ : Addr)) = (some (Value.int IntKind.i64 x152))) ∧
((((decide (x151 = x152)) = true) →
(∃ x154 : Int, (((w149.cell? (⟨(hs w120), 1, none⟩ : Addr)) = (some (Value.int IntKind.i64 x154))) ∧
(∀ w155 : World, ((w155 = (w149.alloc (Obj.cells #[(Value.int IntKind.i64 x154)] 3 (0, 0)))) →
(RunOk Tryd.prog (Nf.Hold (Builtin.append_ #[71, 71] 71 #[(Value.slice o121 n122 n123), (Value.slice (some (⟨(hs w149), 0, none⟩ : Addr)) 1 1)])) w155 (fun (v157 : Value) => (fun (w158 : World) => (∃ o159 : Option Addr, (∃ n160 : Nat, (∃ n161 : Nat, ((v157 = (Value.slice o159 n160 n161)) ∧
(k127 o159 n160 n161 w158))))))))))))) ∧
(((decide (x151 = x152)) = false) →
(k127 o121 n122 n123 w149)))))))))))))))))))))))))))))))))))))) ∧
(((decide (x124 < ((units_n : Nat) : Int))) = false) →
(∃ s164 : ByteArray, (((w120.cell? (⟨(hs w5), 2, none⟩ : Addr)) = (some (Value.string s164))) ∧
(∃ x165 : Int, (((w120.cell? (⟨(hs w5), 1, none⟩ : Addr)) = (some (Value.int IntKind.i64 x165))) ∧
(Calls Tryd.prog 38 #[(Value.slice plans plans_n plans_c), (Value.string s164), (Value.int IntKind.i64 x165)] w120 (fun (e166 : Ending) => (fun (w167 : World) => (∃ o168 : Option Addr, (∃ n169 : Nat, (∃ n170 : Nat, ((e166 = (Ending.returned (Value.slice o168 n169 n170))) ∧
(Calls Tryd.prog 37 #[(Value.slice o168 n169 n170), (Value.slice o121 n122 n123)] w167 (fun (e171 : Ending) => (fun (w172 : World) => (∃ o173 : Option Addr, (∃ n174 : Nat, (∃ n175 : Nat, ((e171 = (Ending.returned (Value.slice o173 n174 n175))) ∧
(k10 (IntKind.wrap IntKind.i64 (x6 + ((n174 : Nat) : Int))) w172)))))))))))))))))))))))))))))))))))))))))))))))))))))))))))))))))))))))))))))))) ∧
(((decide (x7 < ((l_n : Nat) : Int))) = false) →
(∃ k177 : (Nat → (Int → (Int → (World → Prop)))), ((∃ n178 : Nat, (k177 n178 x6 0 w5)) ∧
(∀ n179 : Nat, ((Nat → Value) →
(∀ w181 : World, (∀ x182 : Int, (∀ x183 : Int, ((k177 n179 x182 x183 w181) →
((((decide (x183 < ((units_n : Nat) : Int))) = true) →
(∀ k186 : (Int → (World → Prop)), ((∀ w188 : World, (∀ x189 : Int, (((Nat → Value) →
(∃ n192 : Nat, ((n192 < n179) ∧
(k177 n192 x189 (IntKind.wrap IntKind.i64 (x183 + 1)) w188)))) →
(k186 x189 w188)))) →
(∃ a193 : Addr, ((units = (some a193)) ∧
((((0 : Int) ≤ x183) ∧
(x183 < ((units_n : Nat) : Int))) ∧
(∃ x194 : Int, (((w181.cell? (Addr.add a193 ((x183).toNat * 10))) = (some (Value.int IntKind.i64 x194))) ∧
(∃ x195 : Int, (((w181.cell? (Addr.add (Addr.add a193 ((x183).toNat * 10)) 1)) = (some (Value.int IntKind.i64 x195))) ∧
(∃ x196 : Int, (((w181.cell? (Addr.add (Addr.add a193 ((x183).toNat * 10)) 2)) = (some (Value.int IntKind.i64 x196))) ∧
(∃ x197 : Int, (((w181.cell? (Addr.add (Addr.add a193 ((x183).toNat * 10)) 3)) = (some (Value.int IntKind.i64 x197))) ∧
(∃ x198 : Int, (((w181.cell? (Addr.add (Addr.add a193 ((x183).toNat * 10)) 4)) = (some (Value.int IntKind.i64 x198))) ∧
(∃ x199 : Int, (((w181.cell? (Addr.add (Addr.add a193 ((x183).toNat * 10)) 5)) = (some (Value.int IntKind.i64 x199))) ∧
(∃ x200 : Int, (((w181.cell? (Addr.add (Addr.add a193 ((x183).toNat * 10)) 6)) = (some (Value.int IntKind.i64 x200))) ∧
(∃ x201 : Int, (((w181.cell? (Addr.add (Addr.add a193 ((x183).toNat * 10)) 7)) = (some (Value.int IntKind.i64 x201))) ∧
(∃ x202 : Int, (((w181.cell? (Addr.add (Addr.add a193 ((x183).toNat * 10)) 8)) = (some (Value.int IntKind.i64 x202))) ∧
(∃ x203 : Int, (((w181.cell? (Addr.add (Addr.add a193 ((x183).toNat * 10)) 9)) = (some (Value.int IntKind.i64 x203))) ∧
(∀ w204 : World, ((w204 = (w181.alloc (Obj.cells #[(Value.int IntKind.i64 0), (Value.int IntKind.i64 0), (Value.int IntKind.i64 0), (Value.int IntKind.i64 0), (Value.int IntKind.i64 0), (Value.int IntKind.i64 0), (Value.int IntKind.i64 0), (Value.int IntKind.i64 0), (Value.int IntKind.i64 0), (Value.int IntKind.i64 0)] 29 (0, 0)))) →
((Nf.There w204 (⟨(hs w181), 0, none⟩ : Addr) 10) ∧
(∀ w206 : World, ((w206 = (Nf.setCells w204 (⟨(hs w181), 0, none⟩ : Addr) [(Value.int IntKind.i64 x194), (Value.int IntKind.i64 x195), (Value.int IntKind.i64 x196), (Value.int IntKind.i64 x197), (Value.int IntKind.i64 x198), (Value.int IntKind.i64 x199), (Value.int IntKind.i64 x200), (Value.int IntKind.i64 x201), (Value.int IntKind.i64 x202), (Value.int IntKind.i64 x203)] 0)) →
(∃ x208 : Int, (((w206.cell? (⟨(hs w181), 3, none⟩ : Addr)) = (some (Value.int IntKind.i64 x208))) ∧
((((decide (x208 = 1)) = true) →
(k186 (IntKind.wrap IntKind.i64 (x182 - 1)) w206)) ∧
(((decide (x208 = 1)) = false) →
(k186 x182 w206)))))))))))))))))))))))))))))))))))) ∧
(((decide (x183 < ((units_n : Nat) : Int))) = false) →
(∃ k212 : (Nat → (Int → (World → Prop))), ((∃ n213 : Nat, (k212 n213 0 w181)) ∧
(∀ n214 : Nat, ((Nat → Value) →
(∀ w216 : World, (∀ x217 : Int, ((k212 n214 x217 w216) →
((((decide (x217 < 5)) = true) →
(RunOk Tryd.prog (Nf.Hold (Instr.index 79 (Value.agg #[(Value.int IntKind.i64 0), (Value.int IntKind.i64 2), (Value.int IntKind.i64 5), (Value.int IntKind.i64 10), (Value.int IntKind.i64 20)]) (Value.int IntKind.i64 x217))) w216 (fun (v220 : Value) => (fun (w221 : World) => (∃ x222 : Int, ((v220 = (Value.int IntKind.i64 x222)) ∧
((((decide (x182 ≤ x222)) = true) →
(R (Ending.returned (Value.int IntKind.i64 x217)) w221)) ∧
(((decide (x182 ≤ x222)) = false) →
(∃ n225 : Nat, ((n225 < n214) ∧
(k212 n225 (IntKind.wrap IntKind.i64 (x217 + 1)) w221))))))))))) ∧
(((decide (x217 < 5)) = false) →
(R (Ending.returned (Value.int IntKind.i64 5)) w216))))))))))))))))))))))))))))))) :
    Calls Tryd.prog 13 #[(.slice l l_n l_c), (.slice units units_n units_c), (.slice plans plans_n plans_c)] w R :=
  calls_of_vc an13 Tryd.func13 rfl (by kernel_rfl) (by kernel_rfl) (Eq.mp (by kernel_rfl) h)

/-- samaritan/samaritanref45.Level -/
def an14 : An := (.seq (.reg []) (.seq (.reg []) (.seq (.reg []) (.seq (.seq (.reg []) (.blk (.loop [(9, .int .i64)] (.seq (.seq (.reg [(3, 0, true)]) (.cond .nil .nil)) (.seq (.blk (.seq (.reg [(5, 0, true)]) (.cond (.seq (.reg []) .nil) .nil))) (.reg [])))))) (.seq (.reg []) .nil)))))
set_option maxRecDepth 100000 in
theorem nf14 (l : Option Addr) (l_n : Nat) (l_c : Nat) (units : Option Addr) (units_n : Nat) (units_c : Nat) (plans : Option Addr) (plans_n : Nat) (plans_c : Nat) (w : World) (R : Ending → World → Prop) (h :
(Calls Tryd.prog 39 #[(Value.slice l l_n l_c), (Value.slice units units_n units_c), (Value.slice plans plans_n plans_c)] w (fun (e1 : Ending) => (fun (w2 : World) => (∃ x3 : Int, ((e1 = (Ending.returned (Value.int IntKind.i64 x3))) ∧
(∀ w4 : World, ((w4 = (w2.alloc (Obj.cells #[(Value.int IntKind.i64 0), (Value.int IntKind.i64 2), (Value.int IntKind.i64 5), (Value.int IntKind.i64 10), (Value.int IntKind.i64 20)] 3 (0, 0)))) →
(∃ k6 : (Nat → (Int → (World → Prop))), ((∃ n7 : Nat, (k6 n7 0 w4)) ∧
(∀ n8 : Nat, ((Nat → Value) →
(∀ w10 : World, (∀ x11 : Int, ((k6 n8 x11 w10) →
((((decide (x11 < ((5 : Nat) : Int))) = true) →
(∃ a14 : Addr, (((some (⟨(hs w2), 0, none⟩ : Addr)) = (some a14)) ∧
((((0 : Int) ≤ x11) ∧
(x11 < 5)) ∧
(∃ x15 : Int, (((w10.cell? (Addr.add a14 ((x11).toNat * 1))) = (some (Value.int IntKind.i64 x15))) ∧
((((decide (x3 ≤ x15)) = true) →
(R (Ending.returned (Value.int IntKind.i64 x11)) w10)) ∧
(((decide (x3 ≤ x15)) = false) →
(∃ n18 : Nat, ((n18 < n8) ∧
(k6 n18 (IntKind.wrap IntKind.i64 (x11 + 1)) w10))))))))))) ∧
(((decide (x11 < ((5 : Nat) : Int))) = false) →
(R (Ending.returned (Value.int IntKind.i64 5)) w10)))))))))))))))))) :
    Calls Tryd.prog 14 #[(.slice l l_n l_c), (.slice units units_n units_c), (.slice plans plans_n plans_c)] w R :=
  calls_of_vc an14 Tryd.func14 rfl (by kernel_rfl) (by kernel_rfl) (Eq.mp (by kernel_rfl) h)

end Go.Proofs.YtolpmdmcbciccaaDoor
