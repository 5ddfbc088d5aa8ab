/- The contracts' premises: for each function, the proposition that its body comes to (printed by the tool of wip/nf). -/
import Derived.Test.YtbaacpfjecbbgaaRows
import Derived.Test.YtbaacpfjecbbgaaNfD
namespace Go.Proofs.Ytbaacpfjecbbgaa
open Go Go.Nf

/-- samaritan/samaritanlaw13.awake -/
def an55 : An := (.seq (.reg []) (.seq (.reg []) (.seq (.reg []) (.seq (.reg []) (.seq (.reg []) (.seq (.reg []) (.seq (.reg [(4, 0, true)]) (.seq (.reg [(4, 0, true)]) (.seq (.reg []) (.seq (.reg []) (.seq (.reg []) (.seq (.reg [(1, 0, true), (4, 0, true), (8, 0, true), (12, 0, true), (16, 0, true), (20, 0, true), (25, 0, true), (32, 0, true), (39, 0, true), (44, 0, true), (55, 0, true), (59, 0, true), (63, 0, true)]) .nil))))))))))))
set_option maxRecDepth 100000 in
theorem nf55  (w : World) (R : Ending → World → Prop) (h :
(Calls Try.prog 92 #[] w (fun (e1 : Ending) => (fun (w2 : World) => (∃ s3 : ByteArray, (∃ x4 : Int, (∃ o5 : Option Addr, (∃ n6 : Nat, (∃ n7 : Nat, ((e1 = (Ending.returned (Value.agg #[(Value.string s3), (Value.int IntKind.i64 x4), (Value.slice o5 n6 n7)]))) ∧
(∀ w8 : World, ((w8 = (w2.alloc (Obj.cells #[(Value.string (ByteArray.mk #[])), (Value.int IntKind.i64 0), (Value.slice none 0 0)] 24 (0, 0)))) →
((Nf.There w8 (⟨(hs w2), 0, none⟩ : Addr) 3) ∧
(∀ w10 : World, ((w10 = (Nf.setCells w8 (⟨(hs w2), 0, none⟩ : Addr) [(Value.string s3), (Value.int IntKind.i64 x4), (Value.slice o5 n6 n7)] 0)) →
(∃ s12 : ByteArray, (((w10.cell? (⟨(hs w2), 0, none⟩ : Addr)) = (some (Value.string s12))) ∧
(∃ x13 : Int, (((w10.cell? (⟨(hs w2), 1, none⟩ : Addr)) = (some (Value.int IntKind.i64 x13))) ∧
(∃ o14 : Option Addr, (∃ n15 : Nat, (∃ n16 : Nat, (((w10.cell? (⟨(hs w2), 2, none⟩ : Addr)) = (some (Value.slice o14 n15 n16))) ∧
(Calls Try.prog 56 #[(Value.agg #[(Value.string s12), (Value.int IntKind.i64 x13), (Value.slice o14 n15 n16)])] w10 (fun (e17 : Ending) => (fun (w18 : World) => (∃ x19 : Int, (∃ x20 : Int, ((e17 = (Ending.returned (Value.tuple #[(Value.int IntKind.i64 x19), (Value.int IntKind.i64 x20)]))) ∧
(∃ s21 : ByteArray, (((w18.cell? (⟨(hs w2), 0, none⟩ : Addr)) = (some (Value.string s21))) ∧
(∃ x22 : Int, (((w18.cell? (⟨(hs w2), 1, none⟩ : Addr)) = (some (Value.int IntKind.i64 x22))) ∧
(∃ o23 : Option Addr, (∃ n24 : Nat, (∃ n25 : Nat, (((w18.cell? (⟨(hs w2), 2, none⟩ : Addr)) = (some (Value.slice o23 n24 n25))) ∧
(Calls Try.prog 57 #[(Value.agg #[(Value.string s21), (Value.int IntKind.i64 x22), (Value.slice o23 n24 n25)]), (Value.int IntKind.i64 0)] w18 (fun (e26 : Ending) => (fun (w27 : World) => (∃ x28 : Int, (∃ x29 : Int, ((e26 = (Ending.returned (Value.tuple #[(Value.int IntKind.i64 x28), (Value.int IntKind.i64 x29)]))) ∧
(∃ s30 : ByteArray, (((w27.cell? (⟨(hs w2), 0, none⟩ : Addr)) = (some (Value.string s30))) ∧
(∃ x31 : Int, (((w27.cell? (⟨(hs w2), 1, none⟩ : Addr)) = (some (Value.int IntKind.i64 x31))) ∧
(∃ o32 : Option Addr, (∃ n33 : Nat, (∃ n34 : Nat, (((w27.cell? (⟨(hs w2), 2, none⟩ : Addr)) = (some (Value.slice o32 n33 n34))) ∧
(Calls Try.prog 58 #[(Value.agg #[(Value.string s30), (Value.int IntKind.i64 x31), (Value.slice o32 n33 n34)]), (Value.int IntKind.i64 0)] w27 (fun (e35 : Ending) => (fun (w36 : World) => (∃ x37 : Int, (∃ x38 : Int, ((e35 = (Ending.returned (Value.tuple #[(Value.int IntKind.i64 x37), (Value.int IntKind.i64 x38)]))) ∧
(∃ s39 : ByteArray, (((w36.cell? (⟨(hs w2), 0, none⟩ : Addr)) = (some (Value.string s39))) ∧
(∃ x40 : Int, (((w36.cell? (⟨(hs w2), 1, none⟩ : Addr)) = (some (Value.int IntKind.i64 x40))) ∧
(∃ o41 : Option Addr, (∃ n42 : Nat, (∃ n43 : Nat, (((w36.cell? (⟨(hs w2), 2, none⟩ : Addr)) = (some (Value.slice o41 n42 n43))) ∧
(Calls Try.prog 60 #[(Value.agg #[(Value.string s39), (Value.int IntKind.i64 x40), (Value.slice o41 n42 n43)]), (Value.int IntKind.i64 9)] w36 (fun (e44 : Ending) => (fun (w45 : World) => (∃ o46 : Option Addr, (∃ n47 : Nat, (∃ n48 : Nat, ((e44 = (Ending.returned (Value.slice o46 n47 n48))) ∧
(∃ s49 : ByteArray, (((w45.cell? (⟨(hs w2), 0, none⟩ : Addr)) = (some (Value.string s49))) ∧
(∃ x50 : Int, (((w45.cell? (⟨(hs w2), 1, none⟩ : Addr)) = (some (Value.int IntKind.i64 x50))) ∧
(∃ o51 : Option Addr, (∃ n52 : Nat, (∃ n53 : Nat, (((w45.cell? (⟨(hs w2), 2, none⟩ : Addr)) = (some (Value.slice o51 n52 n53))) ∧
(Calls Try.prog 65 #[(Value.agg #[(Value.string s49), (Value.int IntKind.i64 x50), (Value.slice o51 n52 n53)]), (Value.int IntKind.i64 3)] w45 (fun (e54 : Ending) => (fun (w55 : World) => (∃ o56 : Option Addr, (∃ n57 : Nat, (∃ n58 : Nat, (∃ b59 : Bool, ((e54 = (Ending.returned (Value.tuple #[(Value.slice o56 n57 n58), (Value.bool b59)]))) ∧
(((b59 = true) →
(∃ s61 : ByteArray, (((w55.cell? (⟨(hs w2), 0, none⟩ : Addr)) = (some (Value.string s61))) ∧
(∃ x62 : Int, (((w55.cell? (⟨(hs w2), 1, none⟩ : Addr)) = (some (Value.int IntKind.i64 x62))) ∧
(∃ o63 : Option Addr, (∃ n64 : Nat, (∃ n65 : Nat, (((w55.cell? (⟨(hs w2), 2, none⟩ : Addr)) = (some (Value.slice o63 n64 n65))) ∧
(Calls Try.prog 65 #[(Value.agg #[(Value.string s61), (Value.int IntKind.i64 x62), (Value.slice o63 n64 n65)]), (Value.int IntKind.i64 2)] w55 (fun (e66 : Ending) => (fun (w67 : World) => (∃ o68 : Option Addr, (∃ n69 : Nat, (∃ n70 : Nat, (∃ b71 : Bool, ((e66 = (Ending.returned (Value.tuple #[(Value.slice o68 n69 n70), (Value.bool b71)]))) ∧
(((b71 = true) →
(∃ s73 : ByteArray, (((w67.cell? (⟨(hs w2), 0, none⟩ : Addr)) = (some (Value.string s73))) ∧
(∃ x74 : Int, (((w67.cell? (⟨(hs w2), 1, none⟩ : Addr)) = (some (Value.int IntKind.i64 x74))) ∧
(∃ o75 : Option Addr, (∃ n76 : Nat, (∃ n77 : Nat, (((w67.cell? (⟨(hs w2), 2, none⟩ : Addr)) = (some (Value.slice o75 n76 n77))) ∧
(Calls Try.prog 63 #[(Value.agg #[(Value.string s73), (Value.int IntKind.i64 x74), (Value.slice o75 n76 n77)])] w67 (fun (e78 : Ending) => (fun (w79 : World) => (∃ x80 : Int, ((e78 = (Ending.returned (Value.int IntKind.i64 x80))) ∧
(∃ o81 : Option Addr, (∃ n82 : Nat, (∃ n83 : Nat, (((w79.cell? (⟨(hs w2), 2, none⟩ : Addr)) = (some (Value.slice o81 n82 n83))) ∧
(∃ a84 : Addr, ((o81 = (some a84)) ∧
((((0 : Int) ≤ 1) ∧
(1 < ((n82 : Nat) : Int))) ∧
(∃ o85 : Option Addr, (∃ n86 : Nat, (∃ n87 : Nat, (((w79.cell? (Addr.add (Addr.add a84 2) 1)) = (some (Value.slice o85 n86 n87))) ∧
(∃ a88 : Addr, ((o85 = (some a88)) ∧
((((0 : Int) ≤ 0) ∧
(0 < ((n86 : Nat) : Int))) ∧
((Nf.There w79 a88 4) ∧
(∀ w89 : World, ((w89 = (Nf.setCells w79 a88 [(Value.string (ByteArray.mk #[(97 : UInt8), (103 : UInt8), (97 : UInt8), (105 : UInt8), (110 : UInt8)])), (Value.int IntKind.i64 0), (Value.int IntKind.i64 0), (Value.string (ByteArray.mk #[]))] 0)) →
(∃ s91 : ByteArray, (((w89.cell? (⟨(hs w2), 0, none⟩ : Addr)) = (some (Value.string s91))) ∧
(∃ x92 : Int, (((w89.cell? (⟨(hs w2), 1, none⟩ : Addr)) = (some (Value.int IntKind.i64 x92))) ∧
(∃ o93 : Option Addr, (∃ n94 : Nat, (∃ n95 : Nat, (((w89.cell? (⟨(hs w2), 2, none⟩ : Addr)) = (some (Value.slice o93 n94 n95))) ∧
(Calls Try.prog 56 #[(Value.agg #[(Value.string s91), (Value.int IntKind.i64 x92), (Value.slice o93 n94 n95)])] w89 (fun (e96 : Ending) => (fun (w97 : World) => (∃ x98 : Int, (∃ x99 : Int, ((e96 = (Ending.returned (Value.tuple #[(Value.int IntKind.i64 x98), (Value.int IntKind.i64 x99)]))) ∧
((((decide (x19 = (-1))) = true) →
((((decide (x20 = 0)) = true) →
((((decide (x28 = 2)) = true) →
((((decide (x29 = 0)) = true) →
((((decide (x37 = 1)) = true) →
((((decide (x38 = 3)) = true) →
((((decide (((n47 : Nat) : Int) = 2)) = true) →
(∃ a107 : Addr, ((o46 = (some a107)) ∧
((((0 : Int) ≤ 0) ∧
(0 < ((n47 : Nat) : Int))) ∧
(∃ o108 : Option Addr, (∃ n109 : Nat, (∃ n110 : Nat, (((w97.cell? a107) = (some (Value.slice o108 n109 n110))) ∧
(∀ w111 : World, ((w111 = (w97.alloc (Obj.cells #[(Value.int IntKind.i64 0)] 3 (0, 0)))) →
(Calls Try.prog 62 #[(Value.slice o108 n109 n110), (Value.slice (some (⟨(hs w97), 0, none⟩ : Addr)) 1 1)] w111 (fun (e113 : Ending) => (fun (w114 : World) => (∃ b115 : Bool, ((e113 = (Ending.returned (Value.bool b115))) ∧
(((b115 = true) →
(∃ a117 : Addr, ((o46 = (some a117)) ∧
((((0 : Int) ≤ 1) ∧
(1 < ((n47 : Nat) : Int))) ∧
(∃ o118 : Option Addr, (∃ n119 : Nat, (∃ n120 : Nat, (((w114.cell? (Addr.add a117 1)) = (some (Value.slice o118 n119 n120))) ∧
(∀ w121 : World, ((w121 = (w114.alloc (Obj.cells #[(Value.int IntKind.i64 1), (Value.int IntKind.i64 0)] 3 (0, 0)))) →
(Calls Try.prog 62 #[(Value.slice o118 n119 n120), (Value.slice (some (⟨(hs w114), 0, none⟩ : Addr)) 2 2)] w121 (fun (e123 : Ending) => (fun (w124 : World) => (∃ b125 : Bool, ((e123 = (Ending.returned (Value.bool b125))) ∧
(((b125 = true) →
(∀ w127 : World, ((w127 = (w124.alloc (Obj.cells #[(Value.int IntKind.i64 1), (Value.int IntKind.i64 0)] 3 (0, 0)))) →
(Calls Try.prog 62 #[(Value.slice o56 n57 n58), (Value.slice (some (⟨(hs w124), 0, none⟩ : Addr)) 2 2)] w127 (fun (e129 : Ending) => (fun (w130 : World) => (∃ b131 : Bool, ((e129 = (Ending.returned (Value.bool b131))) ∧
(((b131 = true) →
(R (Ending.returned (Value.bool false)) w130)) ∧
((b131 = false) →
(R (Ending.returned (Value.bool false)) w130))))))))))) ∧
((b125 = false) →
(R (Ending.returned (Value.bool false)) w124)))))))))))))))))) ∧
((b115 = false) →
(R (Ending.returned (Value.bool false)) w114)))))))))))))))))) ∧
(((decide (((n47 : Nat) : Int) = 2)) = false) →
(R (Ending.returned (Value.bool false)) w97)))) ∧
(((decide (x38 = 3)) = false) →
(R (Ending.returned (Value.bool false)) w97)))) ∧
(((decide (x37 = 1)) = false) →
(R (Ending.returned (Value.bool false)) w97)))) ∧
(((decide (x29 = 0)) = false) →
(R (Ending.returned (Value.bool false)) w97)))) ∧
(((decide (x28 = 2)) = false) →
(R (Ending.returned (Value.bool false)) w97)))) ∧
(((decide (x20 = 0)) = false) →
(R (Ending.returned (Value.bool false)) w97)))) ∧
(((decide (x19 = (-1))) = false) →
(R (Ending.returned (Value.bool false)) w97)))))))))))))))))))))))))))))))))))))))))))))))) ∧
((b71 = false) →
(∃ s144 : ByteArray, (((w67.cell? (⟨(hs w2), 0, none⟩ : Addr)) = (some (Value.string s144))) ∧
(∃ x145 : Int, (((w67.cell? (⟨(hs w2), 1, none⟩ : Addr)) = (some (Value.int IntKind.i64 x145))) ∧
(∃ o146 : Option Addr, (∃ n147 : Nat, (∃ n148 : Nat, (((w67.cell? (⟨(hs w2), 2, none⟩ : Addr)) = (some (Value.slice o146 n147 n148))) ∧
(Calls Try.prog 63 #[(Value.agg #[(Value.string s144), (Value.int IntKind.i64 x145), (Value.slice o146 n147 n148)])] w67 (fun (e149 : Ending) => (fun (w150 : World) => (∃ x151 : Int, ((e149 = (Ending.returned (Value.int IntKind.i64 x151))) ∧
(∃ o152 : Option Addr, (∃ n153 : Nat, (∃ n154 : Nat, (((w150.cell? (⟨(hs w2), 2, none⟩ : Addr)) = (some (Value.slice o152 n153 n154))) ∧
(∃ a155 : Addr, ((o152 = (some a155)) ∧
((((0 : Int) ≤ 1) ∧
(1 < ((n153 : Nat) : Int))) ∧
(∃ o156 : Option Addr, (∃ n157 : Nat, (∃ n158 : Nat, (((w150.cell? (Addr.add (Addr.add a155 2) 1)) = (some (Value.slice o156 n157 n158))) ∧
(∃ a159 : Addr, ((o156 = (some a159)) ∧
((((0 : Int) ≤ 0) ∧
(0 < ((n157 : Nat) : Int))) ∧
((Nf.There w150 a159 4) ∧
(∀ w160 : World, ((w160 = (Nf.setCells w150 a159 [(Value.string (ByteArray.mk #[(97 : UInt8), (103 : UInt8), (97 : UInt8), (105 : UInt8), (110 : UInt8)])), (Value.int IntKind.i64 0), (Value.int IntKind.i64 0), (Value.string (ByteArray.mk #[]))] 0)) →
(∃ s162 : ByteArray, (((w160.cell? (⟨(hs w2), 0, none⟩ : Addr)) = (some (Value.string s162))) ∧
(∃ x163 : Int, (((w160.cell? (⟨(hs w2), 1, none⟩ : Addr)) = (some (Value.int IntKind.i64 x163))) ∧
(∃ o164 : Option Addr, (∃ n165 : Nat, (∃ n166 : Nat, (((w160.cell? (⟨(hs w2), 2, none⟩ : Addr)) = (some (Value.slice o164 n165 n166))) ∧
(Calls Try.prog 56 #[(Value.agg #[(Value.string s162), (Value.int IntKind.i64 x163), (Value.slice o164 n165 n166)])] w160 (fun (e167 : Ending) => (fun (w168 : World) => (∃ x169 : Int, (∃ x170 : Int, ((e167 = (Ending.returned (Value.tuple #[(Value.int IntKind.i64 x169), (Value.int IntKind.i64 x170)]))) ∧
((((decide (x19 = (-1))) = true) →
((((decide (x20 = 0)) = true) →
((((decide (x28 = 2)) = true) →
((((decide (x29 = 0)) = true) →
((((decide (x37 = 1)) = true) →
((((decide (x38 = 3)) = true) →
((((decide (((n47 : Nat) : Int) = 2)) = true) →
(∃ a178 : Addr, ((o46 = (some a178)) ∧
((((0 : Int) ≤ 0) ∧
(0 < ((n47 : Nat) : Int))) ∧
(∃ o179 : Option Addr, (∃ n180 : Nat, (∃ n181 : Nat, (((w168.cell? a178) = (some (Value.slice o179 n180 n181))) ∧
(∀ w182 : World, ((w182 = (w168.alloc (Obj.cells #[(Value.int IntKind.i64 0)] 3 (0, 0)))) →
(Calls Try.prog 62 #[(Value.slice o179 n180 n181), (Value.slice (some (⟨(hs w168), 0, none⟩ : Addr)) 1 1)] w182 (fun (e184 : Ending) => (fun (w185 : World) => (∃ b186 : Bool, ((e184 = (Ending.returned (Value.bool b186))) ∧
(((b186 = true) →
(∃ a188 : Addr, ((o46 = (some a188)) ∧
((((0 : Int) ≤ 1) ∧
(1 < ((n47 : Nat) : Int))) ∧
(∃ o189 : Option Addr, (∃ n190 : Nat, (∃ n191 : Nat, (((w185.cell? (Addr.add a188 1)) = (some (Value.slice o189 n190 n191))) ∧
(∀ w192 : World, ((w192 = (w185.alloc (Obj.cells #[(Value.int IntKind.i64 1), (Value.int IntKind.i64 0)] 3 (0, 0)))) →
(Calls Try.prog 62 #[(Value.slice o189 n190 n191), (Value.slice (some (⟨(hs w185), 0, none⟩ : Addr)) 2 2)] w192 (fun (e194 : Ending) => (fun (w195 : World) => (∃ b196 : Bool, ((e194 = (Ending.returned (Value.bool b196))) ∧
(((b196 = true) →
(∀ w198 : World, ((w198 = (w195.alloc (Obj.cells #[(Value.int IntKind.i64 1), (Value.int IntKind.i64 0)] 3 (0, 0)))) →
(Calls Try.prog 62 #[(Value.slice o56 n57 n58), (Value.slice (some (⟨(hs w195), 0, none⟩ : Addr)) 2 2)] w198 (fun (e200 : Ending) => (fun (w201 : World) => (∃ b202 : Bool, ((e200 = (Ending.returned (Value.bool b202))) ∧
(((b202 = true) →
((((decide (x151 = 2)) = true) →
((((decide (x169 = 0)) = true) →
((((decide (x170 = 12)) = true) →
(R (Ending.returned (Value.bool true)) w201)) ∧
(((decide (x170 = 12)) = false) →
(R (Ending.returned (Value.bool false)) w201)))) ∧
(((decide (x169 = 0)) = false) →
(R (Ending.returned (Value.bool false)) w201)))) ∧
(((decide (x151 = 2)) = false) →
(R (Ending.returned (Value.bool false)) w201)))) ∧
((b202 = false) →
(R (Ending.returned (Value.bool false)) w201))))))))))) ∧
((b196 = false) →
(R (Ending.returned (Value.bool false)) w195)))))))))))))))))) ∧
((b186 = false) →
(R (Ending.returned (Value.bool false)) w185)))))))))))))))))) ∧
(((decide (((n47 : Nat) : Int) = 2)) = false) →
(R (Ending.returned (Value.bool false)) w168)))) ∧
(((decide (x38 = 3)) = false) →
(R (Ending.returned (Value.bool false)) w168)))) ∧
(((decide (x37 = 1)) = false) →
(R (Ending.returned (Value.bool false)) w168)))) ∧
(((decide (x29 = 0)) = false) →
(R (Ending.returned (Value.bool false)) w168)))) ∧
(((decide (x28 = 2)) = false) →
(R (Ending.returned (Value.bool false)) w168)))) ∧
(((decide (x20 = 0)) = false) →
(R (Ending.returned (Value.bool false)) w168)))) ∧
(((decide (x19 = (-1))) = false) →
(R (Ending.returned (Value.bool false)) w168)))))))))))))))))))))))))))))))))))))))))))))))))))))))))))))))))) ∧
((b59 = false) →
(∃ s221 : ByteArray, (((w55.cell? (⟨(hs w2), 0, none⟩ : Addr)) = (some (Value.string s221))) ∧
(∃ x222 : Int, (((w55.cell? (⟨(hs w2), 1, none⟩ : Addr)) = (some (Value.int IntKind.i64 x222))) ∧
(∃ o223 : Option Addr, (∃ n224 : Nat, (∃ n225 : Nat, (((w55.cell? (⟨(hs w2), 2, none⟩ : Addr)) = (some (Value.slice o223 n224 n225))) ∧
(Calls Try.prog 65 #[(Value.agg #[(Value.string s221), (Value.int IntKind.i64 x222), (Value.slice o223 n224 n225)]), (Value.int IntKind.i64 2)] w55 (fun (e226 : Ending) => (fun (w227 : World) => (∃ o228 : Option Addr, (∃ n229 : Nat, (∃ n230 : Nat, (∃ b231 : Bool, ((e226 = (Ending.returned (Value.tuple #[(Value.slice o228 n229 n230), (Value.bool b231)]))) ∧
(((b231 = true) →
(∃ s233 : ByteArray, (((w227.cell? (⟨(hs w2), 0, none⟩ : Addr)) = (some (Value.string s233))) ∧
(∃ x234 : Int, (((w227.cell? (⟨(hs w2), 1, none⟩ : Addr)) = (some (Value.int IntKind.i64 x234))) ∧
(∃ o235 : Option Addr, (∃ n236 : Nat, (∃ n237 : Nat, (((w227.cell? (⟨(hs w2), 2, none⟩ : Addr)) = (some (Value.slice o235 n236 n237))) ∧
(Calls Try.prog 63 #[(Value.agg #[(Value.string s233), (Value.int IntKind.i64 x234), (Value.slice o235 n236 n237)])] w227 (fun (e238 : Ending) => (fun (w239 : World) => (∃ x240 : Int, ((e238 = (Ending.returned (Value.int IntKind.i64 x240))) ∧
(∃ o241 : Option Addr, (∃ n242 : Nat, (∃ n243 : Nat, (((w239.cell? (⟨(hs w2), 2, none⟩ : Addr)) = (some (Value.slice o241 n242 n243))) ∧
(∃ a244 : Addr, ((o241 = (some a244)) ∧
((((0 : Int) ≤ 1) ∧
(1 < ((n242 : Nat) : Int))) ∧
(∃ o245 : Option Addr, (∃ n246 : Nat, (∃ n247 : Nat, (((w239.cell? (Addr.add (Addr.add a244 2) 1)) = (some (Value.slice o245 n246 n247))) ∧
(∃ a248 : Addr, ((o245 = (some a248)) ∧
((((0 : Int) ≤ 0) ∧
(0 < ((n246 : Nat) : Int))) ∧
((Nf.There w239 a248 4) ∧
(∀ w249 : World, ((w249 = (Nf.setCells w239 a248 [(Value.string (ByteArray.mk #[(97 : UInt8), (103 : UInt8), (97 : UInt8), (105 : UInt8), (110 : UInt8)])), (Value.int IntKind.i64 0), (Value.int IntKind.i64 0), (Value.string (ByteArray.mk #[]))] 0)) →
(∃ s251 : ByteArray, (((w249.cell? (⟨(hs w2), 0, none⟩ : Addr)) = (some (Value.string s251))) ∧
(∃ x252 : Int, (((w249.cell? (⟨(hs w2), 1, none⟩ : Addr)) = (some (Value.int IntKind.i64 x252))) ∧
(∃ o253 : Option Addr, (∃ n254 : Nat, (∃ n255 : Nat, (((w249.cell? (⟨(hs w2), 2, none⟩ : Addr)) = (some (Value.slice o253 n254 n255))) ∧
(Calls Try.prog 56 #[(Value.agg #[(Value.string s251), (Value.int IntKind.i64 x252), (Value.slice o253 n254 n255)])] w249 (fun (e256 : Ending) => (fun (w257 : World) => (∃ x258 : Int, (∃ x259 : Int, ((e256 = (Ending.returned (Value.tuple #[(Value.int IntKind.i64 x258), (Value.int IntKind.i64 x259)]))) ∧
((((decide (x19 = (-1))) = true) →
((((decide (x20 = 0)) = true) →
((((decide (x28 = 2)) = true) →
((((decide (x29 = 0)) = true) →
((((decide (x37 = 1)) = true) →
((((decide (x38 = 3)) = true) →
((((decide (((n47 : Nat) : Int) = 2)) = true) →
(∃ a267 : Addr, ((o46 = (some a267)) ∧
((((0 : Int) ≤ 0) ∧
(0 < ((n47 : Nat) : Int))) ∧
(∃ o268 : Option Addr, (∃ n269 : Nat, (∃ n270 : Nat, (((w257.cell? a267) = (some (Value.slice o268 n269 n270))) ∧
(∀ w271 : World, ((w271 = (w257.alloc (Obj.cells #[(Value.int IntKind.i64 0)] 3 (0, 0)))) →
(Calls Try.prog 62 #[(Value.slice o268 n269 n270), (Value.slice (some (⟨(hs w257), 0, none⟩ : Addr)) 1 1)] w271 (fun (e273 : Ending) => (fun (w274 : World) => (∃ b275 : Bool, ((e273 = (Ending.returned (Value.bool b275))) ∧
(((b275 = true) →
(∃ a277 : Addr, ((o46 = (some a277)) ∧
((((0 : Int) ≤ 1) ∧
(1 < ((n47 : Nat) : Int))) ∧
(∃ o278 : Option Addr, (∃ n279 : Nat, (∃ n280 : Nat, (((w274.cell? (Addr.add a277 1)) = (some (Value.slice o278 n279 n280))) ∧
(∀ w281 : World, ((w281 = (w274.alloc (Obj.cells #[(Value.int IntKind.i64 1), (Value.int IntKind.i64 0)] 3 (0, 0)))) →
(Calls Try.prog 62 #[(Value.slice o278 n279 n280), (Value.slice (some (⟨(hs w274), 0, none⟩ : Addr)) 2 2)] w281 (fun (e283 : Ending) => (fun (w284 : World) => (∃ b285 : Bool, ((e283 = (Ending.returned (Value.bool b285))) ∧
(((b285 = true) →
(∀ w287 : World, ((w287 = (w284.alloc (Obj.cells #[(Value.int IntKind.i64 1), (Value.int IntKind.i64 0)] 3 (0, 0)))) →
(Calls Try.prog 62 #[(Value.slice o56 n57 n58), (Value.slice (some (⟨(hs w284), 0, none⟩ : Addr)) 2 2)] w287 (fun (e289 : Ending) => (fun (w290 : World) => (∃ b291 : Bool, ((e289 = (Ending.returned (Value.bool b291))) ∧
(((b291 = true) →
(R (Ending.returned (Value.bool false)) w290)) ∧
((b291 = false) →
(R (Ending.returned (Value.bool false)) w290))))))))))) ∧
((b285 = false) →
(R (Ending.returned (Value.bool false)) w284)))))))))))))))))) ∧
((b275 = false) →
(R (Ending.returned (Value.bool false)) w274)))))))))))))))))) ∧
(((decide (((n47 : Nat) : Int) = 2)) = false) →
(R (Ending.returned (Value.bool false)) w257)))) ∧
(((decide (x38 = 3)) = false) →
(R (Ending.returned (Value.bool false)) w257)))) ∧
(((decide (x37 = 1)) = false) →
(R (Ending.returned (Value.bool false)) w257)))) ∧
(((decide (x29 = 0)) = false) →
(R (Ending.returned (Value.bool false)) w257)))) ∧
(((decide (x28 = 2)) = false) →
(R (Ending.returned (Value.bool false)) w257)))) ∧
(((decide (x20 = 0)) = false) →
(R (Ending.returned (Value.bool false)) w257)))) ∧
(((decide (x19 = (-1))) = false) →
(R (Ending.returned (Value.bool false)) w257)))))))))))))))))))))))))))))))))))))))))))))))) ∧
((b231 = false) →
(∃ s304 : ByteArray, (((w227.cell? (⟨(hs w2), 0, none⟩ : Addr)) = (some (Value.string s304))) ∧
(∃ x305 : Int, (((w227.cell? (⟨(hs w2), 1, none⟩ : Addr)) = (some (Value.int IntKind.i64 x305))) ∧
(∃ o306 : Option Addr, (∃ n307 : Nat, (∃ n308 : Nat, (((w227.cell? (⟨(hs w2), 2, none⟩ : Addr)) = (some (Value.slice o306 n307 n308))) ∧
(Calls Try.prog 63 #[(Value.agg #[(Value.string s304), (Value.int IntKind.i64 x305), (Value.slice o306 n307 n308)])] w227 (fun (e309 : Ending) => (fun (w310 : World) => (∃ x311 : Int, ((e309 = (Ending.returned (Value.int IntKind.i64 x311))) ∧
(∃ o312 : Option Addr, (∃ n313 : Nat, (∃ n314 : Nat, (((w310.cell? (⟨(hs w2), 2, none⟩ : Addr)) = (some (Value.slice o312 n313 n314))) ∧
(∃ a315 : Addr, ((o312 = (some a315)) ∧
((((0 : Int) ≤ 1) ∧
(1 < ((n313 : Nat) : Int))) ∧
(∃ o316 : Option Addr, (∃ n317 : Nat, (∃ n318 : Nat, (((w310.cell? (Addr.add (Addr.add a315 2) 1)) = (some (Value.slice o316 n317 n318))) ∧
(∃ a319 : Addr, ((o316 = (some a319)) ∧
((((0 : Int) ≤ 0) ∧
(0 < ((n317 : Nat) : Int))) ∧
((Nf.There w310 a319 4) ∧
(∀ w320 : World, ((w320 = (Nf.setCells w310 a319 [(Value.string (ByteArray.mk #[(97 : UInt8), (103 : UInt8), (97 : UInt8), (105 : UInt8), (110 : UInt8)])), (Value.int IntKind.i64 0), (Value.int IntKind.i64 0), (Value.string (ByteArray.mk #[]))] 0)) →
(∃ s322 : ByteArray, (((w320.cell? (⟨(hs w2), 0, none⟩ : Addr)) = (some (Value.string s322))) ∧
(∃ x323 : Int, (((w320.cell? (⟨(hs w2), 1, none⟩ : Addr)) = (some (Value.int IntKind.i64 x323))) ∧
(∃ o324 : Option Addr, (∃ n325 : Nat, (∃ n326 : Nat, (((w320.cell? (⟨(hs w2), 2, none⟩ : Addr)) = (some (Value.slice o324 n325 n326))) ∧
(Calls Try.prog 56 #[(Value.agg #[(Value.string s322), (Value.int IntKind.i64 x323), (Value.slice o324 n325 n326)])] w320 (fun (e327 : Ending) => (fun (w328 : World) => (∃ x329 : Int, (∃ x330 : Int, ((e327 = (Ending.returned (Value.tuple #[(Value.int IntKind.i64 x329), (Value.int IntKind.i64 x330)]))) ∧
((((decide (x19 = (-1))) = true) →
((((decide (x20 = 0)) = true) →
((((decide (x28 = 2)) = true) →
((((decide (x29 = 0)) = true) →
((((decide (x37 = 1)) = true) →
((((decide (x38 = 3)) = true) →
((((decide (((n47 : Nat) : Int) = 2)) = true) →
(∃ a338 : Addr, ((o46 = (some a338)) ∧
((((0 : Int) ≤ 0) ∧
(0 < ((n47 : Nat) : Int))) ∧
(∃ o339 : Option Addr, (∃ n340 : Nat, (∃ n341 : Nat, (((w328.cell? a338) = (some (Value.slice o339 n340 n341))) ∧
(∀ w342 : World, ((w342 = (w328.alloc (Obj.cells #[(Value.int IntKind.i64 0)] 3 (0, 0)))) →
(Calls Try.prog 62 #[(Value.slice o339 n340 n341), (Value.slice (some (⟨(hs w328), 0, none⟩ : Addr)) 1 1)] w342 (fun (e344 : Ending) => (fun (w345 : World) => (∃ b346 : Bool, ((e344 = (Ending.returned (Value.bool b346))) ∧
(((b346 = true) →
(∃ a348 : Addr, ((o46 = (some a348)) ∧
((((0 : Int) ≤ 1) ∧
(1 < ((n47 : Nat) : Int))) ∧
(∃ o349 : Option Addr, (∃ n350 : Nat, (∃ n351 : Nat, (((w345.cell? (Addr.add a348 1)) = (some (Value.slice o349 n350 n351))) ∧
(∀ w352 : World, ((w352 = (w345.alloc (Obj.cells #[(Value.int IntKind.i64 1), (Value.int IntKind.i64 0)] 3 (0, 0)))) →
(Calls Try.prog 62 #[(Value.slice o349 n350 n351), (Value.slice (some (⟨(hs w345), 0, none⟩ : Addr)) 2 2)] w352 (fun (e354 : Ending) => (fun (w355 : World) => (∃ b356 : Bool, ((e354 = (Ending.returned (Value.bool b356))) ∧
(((b356 = true) →
(∀ w358 : World, ((w358 = (w355.alloc (Obj.cells #[(Value.int IntKind.i64 1), (Value.int IntKind.i64 0)] 3 (0, 0)))) →
(Calls Try.prog 62 #[(Value.slice o56 n57 n58), (Value.slice (some (⟨(hs w355), 0, none⟩ : Addr)) 2 2)] w358 (fun (e360 : Ending) => (fun (w361 : World) => (∃ b362 : Bool, ((e360 = (Ending.returned (Value.bool b362))) ∧
(((b362 = true) →
(R (Ending.returned (Value.bool false)) w361)) ∧
((b362 = false) →
(R (Ending.returned (Value.bool false)) w361))))))))))) ∧
((b356 = false) →
(R (Ending.returned (Value.bool false)) w355)))))))))))))))))) ∧
((b346 = false) →
(R (Ending.returned (Value.bool false)) w345)))))))))))))))))) ∧
(((decide (((n47 : Nat) : Int) = 2)) = false) →
(R (Ending.returned (Value.bool false)) w328)))) ∧
(((decide (x38 = 3)) = false) →
(R (Ending.returned (Value.bool false)) w328)))) ∧
(((decide (x37 = 1)) = false) →
(R (Ending.returned (Value.bool false)) w328)))) ∧
(((decide (x29 = 0)) = false) →
(R (Ending.returned (Value.bool false)) w328)))) ∧
(((decide (x28 = 2)) = false) →
(R (Ending.returned (Value.bool false)) w328)))) ∧
(((decide (x20 = 0)) = false) →
(R (Ending.returned (Value.bool false)) w328)))) ∧
(((decide (x19 = (-1))) = false) →
(R (Ending.returned (Value.bool false)) w328))))))))))))))))))))))))))))))))))))))))))))))))))))))))))))))))))))))))))))))))))))))))))))))))))))))))))))))))))))))))))))))))))))))))))))))))))))))))))) :
    Calls Try.prog 55 #[] w R :=
  calls_of_vc an55 Try.func55 rfl (by kernel_rfl) (by kernel_rfl) (Eq.mp (by kernel_rfl) h)

/-- samaritan/samaritanlaw13.ProtocolCheckCheck -/
def an13 : An := (.seq (.reg []) (.seq (.seq (.reg [(0, 0, true), (4, 0, true)]) (.cond (.seq (.reg [(0, 0, true)]) .nil) .nil)) (.seq (.reg []) (.seq (.reg []) (.seq (.reg [(2, 0, true), (6, 0, true)]) .nil)))))
set_option maxRecDepth 100000 in
theorem nf13 (t_Name : ByteArray) (t_Version : Int) (t_Questions : Option Addr) (t_Questions_n : Nat) (t_Questions_c : Nat) (w : World) (R : Ending → World → Prop) (h :
(∀ w1 : World, ((w1 = (w.alloc (Obj.cells #[(Value.string t_Name), (Value.int IntKind.i64 t_Version), (Value.slice t_Questions t_Questions_n t_Questions_c)] 24 (0, 0)))) →
(Calls Try.prog 55 #[] w1 (fun (e3 : Ending) => (fun (w4 : World) => (∃ b5 : Bool, ((e3 = (Ending.returned (Value.bool b5))) ∧
(((b5 = true) →
(∃ s7 : ByteArray, (((w4.cell? (⟨(hs w), 0, none⟩ : Addr)) = (some (Value.string s7))) ∧
(∃ x8 : Int, (((w4.cell? (⟨(hs w), 1, none⟩ : Addr)) = (some (Value.int IntKind.i64 x8))) ∧
(∃ o9 : Option Addr, (∃ n10 : Nat, (∃ n11 : Nat, (((w4.cell? (⟨(hs w), 2, none⟩ : Addr)) = (some (Value.slice o9 n10 n11))) ∧
(Calls Try.prog 23 #[(Value.agg #[(Value.string s7), (Value.int IntKind.i64 x8), (Value.slice o9 n10 n11)])] w4 (fun (e12 : Ending) => (fun (w13 : World) => (∃ b14 : Bool, ((e12 = (Ending.returned (Value.bool b14))) ∧
(((b14 = true) →
(∃ s16 : ByteArray, (((w13.cell? (⟨(hs w), 0, none⟩ : Addr)) = (some (Value.string s16))) ∧
(∃ x17 : Int, (((w13.cell? (⟨(hs w), 1, none⟩ : Addr)) = (some (Value.int IntKind.i64 x17))) ∧
(∃ o18 : Option Addr, (∃ n19 : Nat, (∃ n20 : Nat, (((w13.cell? (⟨(hs w), 2, none⟩ : Addr)) = (some (Value.slice o18 n19 n20))) ∧
(Calls Try.prog 56 #[(Value.agg #[(Value.string s16), (Value.int IntKind.i64 x17), (Value.slice o18 n19 n20)])] w13 (fun (e21 : Ending) => (fun (w22 : World) => (∃ x23 : Int, (∃ x24 : Int, ((e21 = (Ending.returned (Value.tuple #[(Value.int IntKind.i64 x23), (Value.int IntKind.i64 x24)]))) ∧
(∃ s25 : ByteArray, (((w22.cell? (⟨(hs w), 0, none⟩ : Addr)) = (some (Value.string s25))) ∧
(∃ x26 : Int, (((w22.cell? (⟨(hs w), 1, none⟩ : Addr)) = (some (Value.int IntKind.i64 x26))) ∧
(∃ o27 : Option Addr, (∃ n28 : Nat, (∃ n29 : Nat, (((w22.cell? (⟨(hs w), 2, none⟩ : Addr)) = (some (Value.slice o27 n28 n29))) ∧
(Calls Try.prog 31 #[(Value.agg #[(Value.string s25), (Value.int IntKind.i64 x26), (Value.slice o27 n28 n29)])] w22 (fun (e30 : Ending) => (fun (w31 : World) => (∃ x32 : Int, (∃ x33 : Int, ((e30 = (Ending.returned (Value.tuple #[(Value.int IntKind.i64 x32), (Value.int IntKind.i64 x33)]))) ∧
((((decide (x23 = x32)) = true) →
((((decide (x24 = x33)) = true) →
(R (Ending.returned (Value.bool true)) w31)) ∧
(((decide (x24 = x33)) = false) →
(R (Ending.returned (Value.bool false)) w31)))) ∧
(((decide (x23 = x32)) = false) →
(R (Ending.returned (Value.bool false)) w31)))))))))))))))))))))))))))))))) ∧
((b14 = false) →
(Calls Try.prog 55 #[] w13 (fun (e39 : Ending) => (fun (w40 : World) => (∃ b41 : Bool, ((e39 = (Ending.returned (Value.bool b41))) ∧
(((b41 = true) →
(R (Ending.returned (Value.bool true)) w40)) ∧
((b41 = false) →
(R (Ending.returned (Value.bool false)) w40)))))))))))))))))))))))) ∧
((b5 = false) →
(Calls Try.prog 55 #[] w4 (fun (e45 : Ending) => (fun (w46 : World) => (∃ b47 : Bool, ((e45 = (Ending.returned (Value.bool b47))) ∧
(((b47 = true) →
(R (Ending.returned (Value.bool true)) w46)) ∧
((b47 = false) →
(R (Ending.returned (Value.bool false)) w46)))))))))))))))))) :
    Calls Try.prog 13 #[(.agg #[(.string t_Name), (.int .i64 t_Version), (.slice t_Questions t_Questions_n t_Questions_c)])] w R :=
  calls_of_vc an13 Try.func13 rfl (by kernel_rfl) (by kernel_rfl) (Eq.mp (by kernel_rfl) h)

/-- samaritan/samaritanlaw13.ProtocolCheckMaxQuestions -/
def an14 : An := (.seq (.reg []) (.seq (.seq (.reg [(0, 0, true), (4, 0, true)]) (.cond (.seq (.reg [(0, 0, true)]) .nil) .nil)) (.seq (.reg []) (.seq (.reg []) (.seq (.reg [(2, 0, true), (6, 0, true)]) .nil)))))
set_option maxRecDepth 100000 in
theorem nf14 (t_Name : ByteArray) (t_Version : Int) (t_Questions : Option Addr) (t_Questions_n : Nat) (t_Questions_c : Nat) (q : Int) (w : World) (R : Ending → World → Prop) (h :
(∀ w1 : World, ((w1 = (w.alloc (Obj.cells #[(Value.string t_Name), (Value.int IntKind.i64 t_Version), (Value.slice t_Questions t_Questions_n t_Questions_c)] 24 (0, 0)))) →
(Calls Try.prog 55 #[] w1 (fun (e3 : Ending) => (fun (w4 : World) => (∃ b5 : Bool, ((e3 = (Ending.returned (Value.bool b5))) ∧
(((b5 = true) →
(∃ s7 : ByteArray, (((w4.cell? (⟨(hs w), 0, none⟩ : Addr)) = (some (Value.string s7))) ∧
(∃ x8 : Int, (((w4.cell? (⟨(hs w), 1, none⟩ : Addr)) = (some (Value.int IntKind.i64 x8))) ∧
(∃ o9 : Option Addr, (∃ n10 : Nat, (∃ n11 : Nat, (((w4.cell? (⟨(hs w), 2, none⟩ : Addr)) = (some (Value.slice o9 n10 n11))) ∧
(Calls Try.prog 23 #[(Value.agg #[(Value.string s7), (Value.int IntKind.i64 x8), (Value.slice o9 n10 n11)])] w4 (fun (e12 : Ending) => (fun (w13 : World) => (∃ b14 : Bool, ((e12 = (Ending.returned (Value.bool b14))) ∧
(((b14 = true) →
(∃ s16 : ByteArray, (((w13.cell? (⟨(hs w), 0, none⟩ : Addr)) = (some (Value.string s16))) ∧
(∃ x17 : Int, (((w13.cell? (⟨(hs w), 1, none⟩ : Addr)) = (some (Value.int IntKind.i64 x17))) ∧
(∃ o18 : Option Addr, (∃ n19 : Nat, (∃ n20 : Nat, (((w13.cell? (⟨(hs w), 2, none⟩ : Addr)) = (some (Value.slice o18 n19 n20))) ∧
(Calls Try.prog 57 #[(Value.agg #[(Value.string s16), (Value.int IntKind.i64 x17), (Value.slice o18 n19 n20)]), (Value.int IntKind.i64 q)] w13 (fun (e21 : Ending) => (fun (w22 : World) => (∃ x23 : Int, (∃ x24 : Int, ((e21 = (Ending.returned (Value.tuple #[(Value.int IntKind.i64 x23), (Value.int IntKind.i64 x24)]))) ∧
(∃ s25 : ByteArray, (((w22.cell? (⟨(hs w), 0, none⟩ : Addr)) = (some (Value.string s25))) ∧
(∃ x26 : Int, (((w22.cell? (⟨(hs w), 1, none⟩ : Addr)) = (some (Value.int IntKind.i64 x26))) ∧
(∃ o27 : Option Addr, (∃ n28 : Nat, (∃ n29 : Nat, (((w22.cell? (⟨(hs w), 2, none⟩ : Addr)) = (some (Value.slice o27 n28 n29))) ∧
(Calls Try.prog 26 #[(Value.agg #[(Value.string s25), (Value.int IntKind.i64 x26), (Value.slice o27 n28 n29)]), (Value.int IntKind.i64 q)] w22 (fun (e30 : Ending) => (fun (w31 : World) => (∃ x32 : Int, (∃ x33 : Int, ((e30 = (Ending.returned (Value.tuple #[(Value.int IntKind.i64 x32), (Value.int IntKind.i64 x33)]))) ∧
((((decide (x23 = x32)) = true) →
((((decide (x24 = x33)) = true) →
(R (Ending.returned (Value.bool true)) w31)) ∧
(((decide (x24 = x33)) = false) →
(R (Ending.returned (Value.bool false)) w31)))) ∧
(((decide (x23 = x32)) = false) →
(R (Ending.returned (Value.bool false)) w31)))))))))))))))))))))))))))))))) ∧
((b14 = false) →
(Calls Try.prog 55 #[] w13 (fun (e39 : Ending) => (fun (w40 : World) => (∃ b41 : Bool, ((e39 = (Ending.returned (Value.bool b41))) ∧
(((b41 = true) →
(R (Ending.returned (Value.bool true)) w40)) ∧
((b41 = false) →
(R (Ending.returned (Value.bool false)) w40)))))))))))))))))))))))) ∧
((b5 = false) →
(Calls Try.prog 55 #[] w4 (fun (e45 : Ending) => (fun (w46 : World) => (∃ b47 : Bool, ((e45 = (Ending.returned (Value.bool b47))) ∧
(((b47 = true) →
(R (Ending.returned (Value.bool true)) w46)) ∧
((b47 = false) →
(R (Ending.returned (Value.bool false)) w46)))))))))))))))))) :
    Calls Try.prog 14 #[(.agg #[(.string t_Name), (.int .i64 t_Version), (.slice t_Questions t_Questions_n t_Questions_c)]), (.int .i64 q)] w R :=
  calls_of_vc an14 Try.func14 rfl (by kernel_rfl) (by kernel_rfl) (Eq.mp (by kernel_rfl) h)

/-- samaritan/samaritanlaw13.ProtocolCheckUrgencyRange -/
def an15 : An := (.seq (.reg []) (.seq (.seq (.reg [(0, 0, true), (4, 0, true)]) (.cond (.seq (.reg [(0, 0, true)]) .nil) .nil)) (.seq (.reg []) (.seq (.reg []) (.seq (.reg [(2, 0, true), (6, 0, true)]) .nil)))))
set_option maxRecDepth 100000 in
theorem nf15 (t_Name : ByteArray) (t_Version : Int) (t_Questions : Option Addr) (t_Questions_n : Nat) (t_Questions_c : Nat) (q : Int) (w : World) (R : Ending → World → Prop) (h :
(∀ w1 : World, ((w1 = (w.alloc (Obj.cells #[(Value.string t_Name), (Value.int IntKind.i64 t_Version), (Value.slice t_Questions t_Questions_n t_Questions_c)] 24 (0, 0)))) →
(Calls Try.prog 55 #[] w1 (fun (e3 : Ending) => (fun (w4 : World) => (∃ b5 : Bool, ((e3 = (Ending.returned (Value.bool b5))) ∧
(((b5 = true) →
(∃ s7 : ByteArray, (((w4.cell? (⟨(hs w), 0, none⟩ : Addr)) = (some (Value.string s7))) ∧
(∃ x8 : Int, (((w4.cell? (⟨(hs w), 1, none⟩ : Addr)) = (some (Value.int IntKind.i64 x8))) ∧
(∃ o9 : Option Addr, (∃ n10 : Nat, (∃ n11 : Nat, (((w4.cell? (⟨(hs w), 2, none⟩ : Addr)) = (some (Value.slice o9 n10 n11))) ∧
(Calls Try.prog 23 #[(Value.agg #[(Value.string s7), (Value.int IntKind.i64 x8), (Value.slice o9 n10 n11)])] w4 (fun (e12 : Ending) => (fun (w13 : World) => (∃ b14 : Bool, ((e12 = (Ending.returned (Value.bool b14))) ∧
(((b14 = true) →
(∃ s16 : ByteArray, (((w13.cell? (⟨(hs w), 0, none⟩ : Addr)) = (some (Value.string s16))) ∧
(∃ x17 : Int, (((w13.cell? (⟨(hs w), 1, none⟩ : Addr)) = (some (Value.int IntKind.i64 x17))) ∧
(∃ o18 : Option Addr, (∃ n19 : Nat, (∃ n20 : Nat, (((w13.cell? (⟨(hs w), 2, none⟩ : Addr)) = (some (Value.slice o18 n19 n20))) ∧
(Calls Try.prog 58 #[(Value.agg #[(Value.string s16), (Value.int IntKind.i64 x17), (Value.slice o18 n19 n20)]), (Value.int IntKind.i64 q)] w13 (fun (e21 : Ending) => (fun (w22 : World) => (∃ x23 : Int, (∃ x24 : Int, ((e21 = (Ending.returned (Value.tuple #[(Value.int IntKind.i64 x23), (Value.int IntKind.i64 x24)]))) ∧
(∃ s25 : ByteArray, (((w22.cell? (⟨(hs w), 0, none⟩ : Addr)) = (some (Value.string s25))) ∧
(∃ x26 : Int, (((w22.cell? (⟨(hs w), 1, none⟩ : Addr)) = (some (Value.int IntKind.i64 x26))) ∧
(∃ o27 : Option Addr, (∃ n28 : Nat, (∃ n29 : Nat, (((w22.cell? (⟨(hs w), 2, none⟩ : Addr)) = (some (Value.slice o27 n28 n29))) ∧
(Calls Try.prog 59 #[(Value.agg #[(Value.string s25), (Value.int IntKind.i64 x26), (Value.slice o27 n28 n29)]), (Value.int IntKind.i64 q)] w22 (fun (e30 : Ending) => (fun (w31 : World) => (∃ x32 : Int, (∃ x33 : Int, ((e30 = (Ending.returned (Value.tuple #[(Value.int IntKind.i64 x32), (Value.int IntKind.i64 x33)]))) ∧
((((decide (x23 = x32)) = true) →
((((decide (x24 = x33)) = true) →
(R (Ending.returned (Value.bool true)) w31)) ∧
(((decide (x24 = x33)) = false) →
(R (Ending.returned (Value.bool false)) w31)))) ∧
(((decide (x23 = x32)) = false) →
(R (Ending.returned (Value.bool false)) w31)))))))))))))))))))))))))))))))) ∧
((b14 = false) →
(Calls Try.prog 55 #[] w13 (fun (e39 : Ending) => (fun (w40 : World) => (∃ b41 : Bool, ((e39 = (Ending.returned (Value.bool b41))) ∧
(((b41 = true) →
(R (Ending.returned (Value.bool true)) w40)) ∧
((b41 = false) →
(R (Ending.returned (Value.bool false)) w40)))))))))))))))))))))))) ∧
((b5 = false) →
(Calls Try.prog 55 #[] w4 (fun (e45 : Ending) => (fun (w46 : World) => (∃ b47 : Bool, ((e45 = (Ending.returned (Value.bool b47))) ∧
(((b47 = true) →
(R (Ending.returned (Value.bool true)) w46)) ∧
((b47 = false) →
(R (Ending.returned (Value.bool false)) w46)))))))))))))))))) :
    Calls Try.prog 15 #[(.agg #[(.string t_Name), (.int .i64 t_Version), (.slice t_Questions t_Questions_n t_Questions_c)]), (.int .i64 q)] w R :=
  calls_of_vc an15 Try.func15 rfl (by kernel_rfl) (by kernel_rfl) (Eq.mp (by kernel_rfl) h)

/-- samaritan/samaritanlaw13.ProtocolCheckPaths -/
def an16 : An := (.seq (.reg []) (.seq (.seq (.reg [(0, 0, true), (4, 0, true)]) (.cond (.seq (.reg [(0, 0, true)]) .nil) .nil)) (.seq (.reg []) (.seq (.regD [] [0, 1, 3, 4, 2, 5, 6, 7] [2, 5]) (.seq (.seq (.reg [(4, 0, true)]) (.cond (.seq (.reg []) .nil) .nil)) (.seq (.seq (.reg []) (.blk (.loop [(34, .int .i64)] (.seq (.reg [(0, 0, true)]) (.seq (.cond .nil .nil) (.seq (.blk (.seq (.reg []) (.seq (.regD [(8, 0, true)] [0, 1, 2, 3, 4, 5, 6, 7, 8, 9] [8]) (.cond (.seq (.reg []) .nil) .nil)))) (.reg []))))))) (.seq (.reg []) .nil)))))))
set_option maxRecDepth 100000 in
theorem nf16 (t_Name : ByteArray) (t_Version : Int) (t_Questions : Option Addr) (t_Questions_n : Nat) (t_Questions_c : Nat) (most : Int) (w : World) (R : Ending → World → Prop) (h :
(∀ w1 : World, ((w1 = (w.alloc (Obj.cells #[(Value.string t_Name), (Value.int IntKind.i64 t_Version), (Value.slice t_Questions t_Questions_n t_Questions_c)] 24 (0, 0)))) →
(Calls Try.prog 55 #[] w1 (fun (e3 : Ending) => (fun (w4 : World) => (∃ b5 : Bool, ((e3 = (Ending.returned (Value.bool b5))) ∧
(((b5 = true) →
(∃ s7 : ByteArray, (((w4.cell? (⟨(hs w), 0, none⟩ : Addr)) = (some (Value.string s7))) ∧
(∃ x8 : Int, (((w4.cell? (⟨(hs w), 1, none⟩ : Addr)) = (some (Value.int IntKind.i64 x8))) ∧
(∃ o9 : Option Addr, (∃ n10 : Nat, (∃ n11 : Nat, (((w4.cell? (⟨(hs w), 2, none⟩ : Addr)) = (some (Value.slice o9 n10 n11))) ∧
(Calls Try.prog 23 #[(Value.agg #[(Value.string s7), (Value.int IntKind.i64 x8), (Value.slice o9 n10 n11)])] w4 (fun (e12 : Ending) => (fun (w13 : World) => (∃ b14 : Bool, ((e12 = (Ending.returned (Value.bool b14))) ∧
(((b14 = true) →
(∀ w16 : World, ((w16 = w13.drew) →
(∃ s18 : ByteArray, (((w16.cell? (⟨(hs w), 0, none⟩ : Addr)) = (some (Value.string s18))) ∧
(∃ x19 : Int, (((w16.cell? (⟨(hs w), 1, none⟩ : Addr)) = (some (Value.int IntKind.i64 x19))) ∧
(∃ o20 : Option Addr, (∃ n21 : Nat, (∃ n22 : Nat, (((w16.cell? (⟨(hs w), 2, none⟩ : Addr)) = (some (Value.slice o20 n21 n22))) ∧
(∃ s23 : ByteArray, (((w16.cell? (⟨(hs w), 0, none⟩ : Addr)) = (some (Value.string s23))) ∧
(∃ x24 : Int, (((w16.cell? (⟨(hs w), 1, none⟩ : Addr)) = (some (Value.int IntKind.i64 x24))) ∧
(∃ o25 : Option Addr, (∃ n26 : Nat, (∃ n27 : Nat, (((w16.cell? (⟨(hs w), 2, none⟩ : Addr)) = (some (Value.slice o25 n26 n27))) ∧
(Calls Try.prog 60 #[(Value.agg #[(Value.string s18), (Value.int IntKind.i64 x19), (Value.slice o20 n21 n22)]), (Value.int IntKind.i64 (IntKind.wrap IntKind.i64 ((Int.tmod (IntKind.wrap IntKind.i64 most) 60) + 1)))] w16 (fun (e28 : Ending) => (fun (w29 : World) => (∃ o30 : Option Addr, (∃ n31 : Nat, (∃ n32 : Nat, ((e28 = (Ending.returned (Value.slice o30 n31 n32))) ∧
((Nf.Kept w16 w29 (⟨(hs w), 0, none⟩ : Addr) 3) ∧
(Calls Try.prog 61 #[(Value.agg #[(Value.string s23), (Value.int IntKind.i64 x24), (Value.slice o25 n26 n27)]), (Value.int IntKind.i64 (IntKind.wrap IntKind.i64 ((Int.tmod (IntKind.wrap IntKind.i64 most) 60) + 1)))] w29 (fun (e33 : Ending) => (fun (w34 : World) => (∃ o35 : Option Addr, (∃ n36 : Nat, (∃ n37 : Nat, ((e33 = (Ending.returned (Value.slice o35 n36 n37))) ∧
((((!(decide (((n31 : Nat) : Int) = ((n36 : Nat) : Int)))) = true) →
(R (Ending.returned (Value.bool false)) w34)) ∧
(((!(decide (((n31 : Nat) : Int) = ((n36 : Nat) : Int)))) = false) →
(∃ k40 : (Nat → (Int → (World → Prop))), ((∃ n41 : Nat, (k40 n41 0 w34)) ∧
(∀ n42 : Nat, ((Nat → Value) →
(∀ w44 : World, (∀ x45 : Int, ((k40 n42 x45 w44) →
((((decide (x45 < ((n31 : Nat) : Int))) = true) →
(∀ w48 : World, ((w48 = w44.drew) →
(∃ a50 : Addr, ((o30 = (some a50)) ∧
((((0 : Int) ≤ x45) ∧
(x45 < ((n31 : Nat) : Int))) ∧
(∃ o51 : Option Addr, (∃ n52 : Nat, (∃ n53 : Nat, (((w48.cell? (Addr.add a50 ((x45).toNat * 1))) = (some (Value.slice o51 n52 n53))) ∧
(∃ a54 : Addr, ((o35 = (some a54)) ∧
((((0 : Int) ≤ x45) ∧
(x45 < ((n36 : Nat) : Int))) ∧
(∃ o55 : Option Addr, (∃ n56 : Nat, (∃ n57 : Nat, (((w48.cell? (Addr.add a54 ((x45).toNat * 1))) = (some (Value.slice o55 n56 n57))) ∧
(Calls Try.prog 62 #[(Value.slice o51 n52 n53), (Value.slice o55 n56 n57)] w48 (fun (e58 : Ending) => (fun (w59 : World) => (∃ b60 : Bool, ((e58 = (Ending.returned (Value.bool b60))) ∧
(((b60 = true) →
(∃ n62 : Nat, ((n62 < n42) ∧
(k40 n62 (IntKind.wrap IntKind.i64 (x45 + 1)) w59)))) ∧
((b60 = false) →
(R (Ending.returned (Value.bool false)) w59))))))))))))))))))))))))) ∧
(((decide (x45 < ((n31 : Nat) : Int))) = false) →
(R (Ending.returned (Value.bool true)) w44)))))))))))))))))))))))))))))))))))))))))))))) ∧
((b14 = false) →
(Calls Try.prog 55 #[] w13 (fun (e66 : Ending) => (fun (w67 : World) => (∃ b68 : Bool, ((e66 = (Ending.returned (Value.bool b68))) ∧
(((b68 = true) →
(R (Ending.returned (Value.bool true)) w67)) ∧
((b68 = false) →
(R (Ending.returned (Value.bool false)) w67)))))))))))))))))))))))) ∧
((b5 = false) →
(Calls Try.prog 55 #[] w4 (fun (e72 : Ending) => (fun (w73 : World) => (∃ b74 : Bool, ((e72 = (Ending.returned (Value.bool b74))) ∧
(((b74 = true) →
(R (Ending.returned (Value.bool true)) w73)) ∧
((b74 = false) →
(R (Ending.returned (Value.bool false)) w73)))))))))))))))))) :
    Calls Try.prog 16 #[(.agg #[(.string t_Name), (.int .i64 t_Version), (.slice t_Questions t_Questions_n t_Questions_c)]), (.int .u8 most)] w R :=
  calls_of_vc an16 Try.func16 rfl (by kernel_rfl) (by kernel_rfl) (Eq.mp (by kernel_rfl) h)

/-- samaritan/samaritanlaw13.ProtocolCheckCountPaths -/
def an17 : An := (.seq (.reg []) (.seq (.seq (.reg [(0, 0, true), (4, 0, true)]) (.cond (.seq (.reg [(0, 0, true)]) .nil) .nil)) (.seq (.reg []) (.seq (.reg [(3, 0, true), (6, 0, true), (12, 0, true)]) .nil))))
set_option maxRecDepth 100000 in
theorem nf17 (t_Name : ByteArray) (t_Version : Int) (t_Questions : Option Addr) (t_Questions_n : Nat) (t_Questions_c : Nat) (w : World) (R : Ending → World → Prop) (h :
(∀ w1 : World, ((w1 = (w.alloc (Obj.cells #[(Value.string t_Name), (Value.int IntKind.i64 t_Version), (Value.slice t_Questions t_Questions_n t_Questions_c)] 24 (0, 0)))) →
(Calls Try.prog 55 #[] w1 (fun (e3 : Ending) => (fun (w4 : World) => (∃ b5 : Bool, ((e3 = (Ending.returned (Value.bool b5))) ∧
(((b5 = true) →
(∃ s7 : ByteArray, (((w4.cell? (⟨(hs w), 0, none⟩ : Addr)) = (some (Value.string s7))) ∧
(∃ x8 : Int, (((w4.cell? (⟨(hs w), 1, none⟩ : Addr)) = (some (Value.int IntKind.i64 x8))) ∧
(∃ o9 : Option Addr, (∃ n10 : Nat, (∃ n11 : Nat, (((w4.cell? (⟨(hs w), 2, none⟩ : Addr)) = (some (Value.slice o9 n10 n11))) ∧
(Calls Try.prog 23 #[(Value.agg #[(Value.string s7), (Value.int IntKind.i64 x8), (Value.slice o9 n10 n11)])] w4 (fun (e12 : Ending) => (fun (w13 : World) => (∃ b14 : Bool, ((e12 = (Ending.returned (Value.bool b14))) ∧
(((b14 = true) →
(∃ s16 : ByteArray, (((w13.cell? (⟨(hs w), 0, none⟩ : Addr)) = (some (Value.string s16))) ∧
(∃ x17 : Int, (((w13.cell? (⟨(hs w), 1, none⟩ : Addr)) = (some (Value.int IntKind.i64 x17))) ∧
(∃ o18 : Option Addr, (∃ n19 : Nat, (∃ n20 : Nat, (((w13.cell? (⟨(hs w), 2, none⟩ : Addr)) = (some (Value.slice o18 n19 n20))) ∧
(Calls Try.prog 63 #[(Value.agg #[(Value.string s16), (Value.int IntKind.i64 x17), (Value.slice o18 n19 n20)])] w13 (fun (e21 : Ending) => (fun (w22 : World) => (∃ x23 : Int, ((e21 = (Ending.returned (Value.int IntKind.i64 x23))) ∧
(∃ s24 : ByteArray, (((w22.cell? (⟨(hs w), 0, none⟩ : Addr)) = (some (Value.string s24))) ∧
(∃ x25 : Int, (((w22.cell? (⟨(hs w), 1, none⟩ : Addr)) = (some (Value.int IntKind.i64 x25))) ∧
(∃ o26 : Option Addr, (∃ n27 : Nat, (∃ n28 : Nat, (((w22.cell? (⟨(hs w), 2, none⟩ : Addr)) = (some (Value.slice o26 n27 n28))) ∧
(Calls Try.prog 64 #[(Value.agg #[(Value.string s24), (Value.int IntKind.i64 x25), (Value.slice o26 n27 n28)])] w22 (fun (e29 : Ending) => (fun (w30 : World) => (∃ x31 : Int, ((e29 = (Ending.returned (Value.int IntKind.i64 x31))) ∧
((((decide (x23 = x31)) = true) →
((((decide (x23 > 100)) = true) →
(R (Ending.returned (Value.bool true)) w30)) ∧
(((decide (x23 > 100)) = false) →
(∃ s35 : ByteArray, (((w30.cell? (⟨(hs w), 0, none⟩ : Addr)) = (some (Value.string s35))) ∧
(∃ x36 : Int, (((w30.cell? (⟨(hs w), 1, none⟩ : Addr)) = (some (Value.int IntKind.i64 x36))) ∧
(∃ o37 : Option Addr, (∃ n38 : Nat, (∃ n39 : Nat, (((w30.cell? (⟨(hs w), 2, none⟩ : Addr)) = (some (Value.slice o37 n38 n39))) ∧
(Calls Try.prog 60 #[(Value.agg #[(Value.string s35), (Value.int IntKind.i64 x36), (Value.slice o37 n38 n39)]), (Value.int IntKind.i64 101)] w30 (fun (e40 : Ending) => (fun (w41 : World) => (∃ o42 : Option Addr, (∃ n43 : Nat, (∃ n44 : Nat, ((e40 = (Ending.returned (Value.slice o42 n43 n44))) ∧
((((decide (((n43 : Nat) : Int) = x23)) = true) →
(R (Ending.returned (Value.bool true)) w41)) ∧
(((decide (((n43 : Nat) : Int) = x23)) = false) →
(R (Ending.returned (Value.bool false)) w41))))))))))))))))))))) ∧
(((decide (x23 = x31)) = false) →
(R (Ending.returned (Value.bool false)) w30)))))))))))))))))))))))))))))) ∧
((b14 = false) →
(Calls Try.prog 55 #[] w13 (fun (e49 : Ending) => (fun (w50 : World) => (∃ b51 : Bool, ((e49 = (Ending.returned (Value.bool b51))) ∧
(((b51 = true) →
(R (Ending.returned (Value.bool true)) w50)) ∧
((b51 = false) →
(R (Ending.returned (Value.bool false)) w50)))))))))))))))))))))))) ∧
((b5 = false) →
(Calls Try.prog 55 #[] w4 (fun (e55 : Ending) => (fun (w56 : World) => (∃ b57 : Bool, ((e55 = (Ending.returned (Value.bool b57))) ∧
(((b57 = true) →
(R (Ending.returned (Value.bool true)) w56)) ∧
((b57 = false) →
(R (Ending.returned (Value.bool false)) w56)))))))))))))))))) :
    Calls Try.prog 17 #[(.agg #[(.string t_Name), (.int .i64 t_Version), (.slice t_Questions t_Questions_n t_Questions_c)])] w R :=
  calls_of_vc an17 Try.func17 rfl (by kernel_rfl) (by kernel_rfl) (Eq.mp (by kernel_rfl) h)

/-- samaritan/samaritanlaw13.ProtocolCheckShortestPath -/
def an18 : An := (.seq (.reg []) (.seq (.seq (.reg [(0, 0, true), (4, 0, true)]) (.cond (.seq (.reg [(0, 0, true)]) .nil) .nil)) (.seq (.reg [(5, 0, true)]) (.seq (.reg [(5, 0, true)]) (.seq (.seq (.reg [(2, 0, true), (6, 0, true)]) (.cond (.seq (.reg []) .nil) .nil)) (.seq (.seq (.reg []) (.blk (.loop [(43, .int .i64)] (.seq (.reg [(0, 0, true)]) (.seq (.cond .nil .nil) (.seq (.blk (.seq (.reg []) (.seq (.reg [(4, 0, true), (13, 0, true)]) (.cond (.seq (.reg []) .nil) .nil)))) (.reg []))))))) (.seq (.reg []) .nil)))))))
set_option maxRecDepth 100000 in
theorem nf18 (t_Name : ByteArray) (t_Version : Int) (t_Questions : Option Addr) (t_Questions_n : Nat) (t_Questions_c : Nat) (urgency : Int) (w : World) (R : Ending → World → Prop) (h :
(∀ w1 : World, ((w1 = (w.alloc (Obj.cells #[(Value.string t_Name), (Value.int IntKind.i64 t_Version), (Value.slice t_Questions t_Questions_n t_Questions_c)] 24 (0, 0)))) →
(Calls Try.prog 55 #[] w1 (fun (e3 : Ending) => (fun (w4 : World) => (∃ b5 : Bool, ((e3 = (Ending.returned (Value.bool b5))) ∧
(((b5 = true) →
(∃ s7 : ByteArray, (((w4.cell? (⟨(hs w), 0, none⟩ : Addr)) = (some (Value.string s7))) ∧
(∃ x8 : Int, (((w4.cell? (⟨(hs w), 1, none⟩ : Addr)) = (some (Value.int IntKind.i64 x8))) ∧
(∃ o9 : Option Addr, (∃ n10 : Nat, (∃ n11 : Nat, (((w4.cell? (⟨(hs w), 2, none⟩ : Addr)) = (some (Value.slice o9 n10 n11))) ∧
(Calls Try.prog 23 #[(Value.agg #[(Value.string s7), (Value.int IntKind.i64 x8), (Value.slice o9 n10 n11)])] w4 (fun (e12 : Ending) => (fun (w13 : World) => (∃ b14 : Bool, ((e12 = (Ending.returned (Value.bool b14))) ∧
(((b14 = true) →
(∃ s16 : ByteArray, (((w13.cell? (⟨(hs w), 0, none⟩ : Addr)) = (some (Value.string s16))) ∧
(∃ x17 : Int, (((w13.cell? (⟨(hs w), 1, none⟩ : Addr)) = (some (Value.int IntKind.i64 x17))) ∧
(∃ o18 : Option Addr, (∃ n19 : Nat, (∃ n20 : Nat, (((w13.cell? (⟨(hs w), 2, none⟩ : Addr)) = (some (Value.slice o18 n19 n20))) ∧
(Calls Try.prog 65 #[(Value.agg #[(Value.string s16), (Value.int IntKind.i64 x17), (Value.slice o18 n19 n20)]), (Value.int IntKind.i64 urgency)] w13 (fun (e21 : Ending) => (fun (w22 : World) => (∃ o23 : Option Addr, (∃ n24 : Nat, (∃ n25 : Nat, (∃ b26 : Bool, ((e21 = (Ending.returned (Value.tuple #[(Value.slice o23 n24 n25), (Value.bool b26)]))) ∧
(((b26 = true) →
(∃ s28 : ByteArray, (((w22.cell? (⟨(hs w), 0, none⟩ : Addr)) = (some (Value.string s28))) ∧
(∃ x29 : Int, (((w22.cell? (⟨(hs w), 1, none⟩ : Addr)) = (some (Value.int IntKind.i64 x29))) ∧
(∃ o30 : Option Addr, (∃ n31 : Nat, (∃ n32 : Nat, (((w22.cell? (⟨(hs w), 2, none⟩ : Addr)) = (some (Value.slice o30 n31 n32))) ∧
(Calls Try.prog 66 #[(Value.agg #[(Value.string s28), (Value.int IntKind.i64 x29), (Value.slice o30 n31 n32)]), (Value.int IntKind.i64 urgency)] w22 (fun (e33 : Ending) => (fun (w34 : World) => (∃ o35 : Option Addr, (∃ n36 : Nat, (∃ n37 : Nat, (∃ b38 : Bool, ((e33 = (Ending.returned (Value.tuple #[(Value.slice o35 n36 n37), (Value.bool b38)]))) ∧
(((b38 = true) →
(((false = true) →
(R (Ending.returned (Value.bool false)) w34)) ∧
((false = false) →
(Calls Try.prog 62 #[(Value.slice o23 n24 n25), (Value.slice o35 n36 n37)] w34 (fun (e42 : Ending) => (fun (w43 : World) => (∃ b44 : Bool, ((e42 = (Ending.returned (Value.bool b44))) ∧
(((b44 = true) →
(∃ s46 : ByteArray, (((w43.cell? (⟨(hs w), 0, none⟩ : Addr)) = (some (Value.string s46))) ∧
(∃ x47 : Int, (((w43.cell? (⟨(hs w), 1, none⟩ : Addr)) = (some (Value.int IntKind.i64 x47))) ∧
(∃ o48 : Option Addr, (∃ n49 : Nat, (∃ n50 : Nat, (((w43.cell? (⟨(hs w), 2, none⟩ : Addr)) = (some (Value.slice o48 n49 n50))) ∧
(Calls Try.prog 60 #[(Value.agg #[(Value.string s46), (Value.int IntKind.i64 x47), (Value.slice o48 n49 n50)]), (Value.int IntKind.i64 60)] w43 (fun (e51 : Ending) => (fun (w52 : World) => (∃ o53 : Option Addr, (∃ n54 : Nat, (∃ n55 : Nat, ((e51 = (Ending.returned (Value.slice o53 n54 n55))) ∧
(∃ k56 : (Nat → (Int → (World → Prop))), ((∃ n57 : Nat, (k56 n57 0 w52)) ∧
(∀ n58 : Nat, ((Nat → Value) →
(∀ w60 : World, (∀ x61 : Int, ((k56 n58 x61 w60) →
((((decide (x61 < ((n54 : Nat) : Int))) = true) →
(∃ a64 : Addr, ((o53 = (some a64)) ∧
((((0 : Int) ≤ x61) ∧
(x61 < ((n54 : Nat) : Int))) ∧
(∃ o65 : Option Addr, (∃ n66 : Nat, (∃ n67 : Nat, (((w60.cell? (Addr.add a64 ((x61).toNat * 1))) = (some (Value.slice o65 n66 n67))) ∧
(∃ s68 : ByteArray, (((w60.cell? (⟨(hs w), 0, none⟩ : Addr)) = (some (Value.string s68))) ∧
(∃ x69 : Int, (((w60.cell? (⟨(hs w), 1, none⟩ : Addr)) = (some (Value.int IntKind.i64 x69))) ∧
(∃ o70 : Option Addr, (∃ n71 : Nat, (∃ n72 : Nat, (((w60.cell? (⟨(hs w), 2, none⟩ : Addr)) = (some (Value.slice o70 n71 n72))) ∧
(Calls Try.prog 67 #[(Value.agg #[(Value.string s68), (Value.int IntKind.i64 x69), (Value.slice o70 n71 n72)]), (Value.slice o65 n66 n67)] w60 (fun (e73 : Ending) => (fun (w74 : World) => (∃ x75 : Int, ((e73 = (Ending.returned (Value.int IntKind.i64 x75))) ∧
((((decide (x75 = urgency)) = true) →
((((decide (((n66 : Nat) : Int) < ((n24 : Nat) : Int))) = true) →
(R (Ending.returned (Value.bool false)) w74)) ∧
(((decide (((n66 : Nat) : Int) < ((n24 : Nat) : Int))) = false) →
(∃ n79 : Nat, ((n79 < n58) ∧
(k56 n79 (IntKind.wrap IntKind.i64 (x61 + 1)) w74)))))) ∧
(((decide (x75 = urgency)) = false) →
(∃ n81 : Nat, ((n81 < n58) ∧
(k56 n81 (IntKind.wrap IntKind.i64 (x61 + 1)) w74)))))))))))))))))))))))))) ∧
(((decide (x61 < ((n54 : Nat) : Int))) = false) →
(R (Ending.returned (Value.bool true)) w60)))))))))))))))))))))))))) ∧
((b44 = false) →
(R (Ending.returned (Value.bool false)) w43))))))))))) ∧
((b38 = false) →
(((true = true) →
(R (Ending.returned (Value.bool false)) w34)) ∧
((true = false) →
(Calls Try.prog 62 #[(Value.slice o23 n24 n25), (Value.slice o35 n36 n37)] w34 (fun (e87 : Ending) => (fun (w88 : World) => (∃ b89 : Bool, ((e87 = (Ending.returned (Value.bool b89))) ∧
(((b89 = true) →
(∃ s91 : ByteArray, (((w88.cell? (⟨(hs w), 0, none⟩ : Addr)) = (some (Value.string s91))) ∧
(∃ x92 : Int, (((w88.cell? (⟨(hs w), 1, none⟩ : Addr)) = (some (Value.int IntKind.i64 x92))) ∧
(∃ o93 : Option Addr, (∃ n94 : Nat, (∃ n95 : Nat, (((w88.cell? (⟨(hs w), 2, none⟩ : Addr)) = (some (Value.slice o93 n94 n95))) ∧
(Calls Try.prog 60 #[(Value.agg #[(Value.string s91), (Value.int IntKind.i64 x92), (Value.slice o93 n94 n95)]), (Value.int IntKind.i64 60)] w88 (fun (e96 : Ending) => (fun (w97 : World) => (∃ o98 : Option Addr, (∃ n99 : Nat, (∃ n100 : Nat, ((e96 = (Ending.returned (Value.slice o98 n99 n100))) ∧
(∃ k101 : (Nat → (Int → (World → Prop))), ((∃ n102 : Nat, (k101 n102 0 w97)) ∧
(∀ n103 : Nat, ((Nat → Value) →
(∀ w105 : World, (∀ x106 : Int, ((k101 n103 x106 w105) →
((((decide (x106 < ((n99 : Nat) : Int))) = true) →
(∃ a109 : Addr, ((o98 = (some a109)) ∧
((((0 : Int) ≤ x106) ∧
(x106 < ((n99 : Nat) : Int))) ∧
(∃ o110 : Option Addr, (∃ n111 : Nat, (∃ n112 : Nat, (((w105.cell? (Addr.add a109 ((x106).toNat * 1))) = (some (Value.slice o110 n111 n112))) ∧
(∃ s113 : ByteArray, (((w105.cell? (⟨(hs w), 0, none⟩ : Addr)) = (some (Value.string s113))) ∧
(∃ x114 : Int, (((w105.cell? (⟨(hs w), 1, none⟩ : Addr)) = (some (Value.int IntKind.i64 x114))) ∧
(∃ o115 : Option Addr, (∃ n116 : Nat, (∃ n117 : Nat, (((w105.cell? (⟨(hs w), 2, none⟩ : Addr)) = (some (Value.slice o115 n116 n117))) ∧
(Calls Try.prog 67 #[(Value.agg #[(Value.string s113), (Value.int IntKind.i64 x114), (Value.slice o115 n116 n117)]), (Value.slice o110 n111 n112)] w105 (fun (e118 : Ending) => (fun (w119 : World) => (∃ x120 : Int, ((e118 = (Ending.returned (Value.int IntKind.i64 x120))) ∧
((((decide (x120 = urgency)) = true) →
((((decide (((n111 : Nat) : Int) < ((n24 : Nat) : Int))) = true) →
(R (Ending.returned (Value.bool false)) w119)) ∧
(((decide (((n111 : Nat) : Int) < ((n24 : Nat) : Int))) = false) →
(∃ n124 : Nat, ((n124 < n103) ∧
(k101 n124 (IntKind.wrap IntKind.i64 (x106 + 1)) w119)))))) ∧
(((decide (x120 = urgency)) = false) →
(∃ n126 : Nat, ((n126 < n103) ∧
(k101 n126 (IntKind.wrap IntKind.i64 (x106 + 1)) w119)))))))))))))))))))))))))) ∧
(((decide (x106 < ((n99 : Nat) : Int))) = false) →
(R (Ending.returned (Value.bool true)) w105)))))))))))))))))))))))))) ∧
((b89 = false) →
(R (Ending.returned (Value.bool false)) w88))))))))))))))))))))))))))))) ∧
((b26 = false) →
(∃ s130 : ByteArray, (((w22.cell? (⟨(hs w), 0, none⟩ : Addr)) = (some (Value.string s130))) ∧
(∃ x131 : Int, (((w22.cell? (⟨(hs w), 1, none⟩ : Addr)) = (some (Value.int IntKind.i64 x131))) ∧
(∃ o132 : Option Addr, (∃ n133 : Nat, (∃ n134 : Nat, (((w22.cell? (⟨(hs w), 2, none⟩ : Addr)) = (some (Value.slice o132 n133 n134))) ∧
(Calls Try.prog 66 #[(Value.agg #[(Value.string s130), (Value.int IntKind.i64 x131), (Value.slice o132 n133 n134)]), (Value.int IntKind.i64 urgency)] w22 (fun (e135 : Ending) => (fun (w136 : World) => (∃ o137 : Option Addr, (∃ n138 : Nat, (∃ n139 : Nat, (∃ b140 : Bool, ((e135 = (Ending.returned (Value.tuple #[(Value.slice o137 n138 n139), (Value.bool b140)]))) ∧
(((b140 = true) →
(((true = true) →
(R (Ending.returned (Value.bool false)) w136)) ∧
((true = false) →
(Calls Try.prog 62 #[(Value.slice o23 n24 n25), (Value.slice o137 n138 n139)] w136 (fun (e144 : Ending) => (fun (w145 : World) => (∃ b146 : Bool, ((e144 = (Ending.returned (Value.bool b146))) ∧
(((b146 = true) →
(∃ s148 : ByteArray, (((w145.cell? (⟨(hs w), 0, none⟩ : Addr)) = (some (Value.string s148))) ∧
(∃ x149 : Int, (((w145.cell? (⟨(hs w), 1, none⟩ : Addr)) = (some (Value.int IntKind.i64 x149))) ∧
(∃ o150 : Option Addr, (∃ n151 : Nat, (∃ n152 : Nat, (((w145.cell? (⟨(hs w), 2, none⟩ : Addr)) = (some (Value.slice o150 n151 n152))) ∧
(Calls Try.prog 60 #[(Value.agg #[(Value.string s148), (Value.int IntKind.i64 x149), (Value.slice o150 n151 n152)]), (Value.int IntKind.i64 60)] w145 (fun (e153 : Ending) => (fun (w154 : World) => (∃ o155 : Option Addr, (∃ n156 : Nat, (∃ n157 : Nat, ((e153 = (Ending.returned (Value.slice o155 n156 n157))) ∧
(∃ k158 : (Nat → (Int → (World → Prop))), ((∃ n159 : Nat, (k158 n159 0 w154)) ∧
(∀ n160 : Nat, ((Nat → Value) →
(∀ w162 : World, (∀ x163 : Int, ((k158 n160 x163 w162) →
((((decide (x163 < ((n156 : Nat) : Int))) = true) →
(∃ a166 : Addr, ((o155 = (some a166)) ∧
((((0 : Int) ≤ x163) ∧
(x163 < ((n156 : Nat) : Int))) ∧
(∃ o167 : Option Addr, (∃ n168 : Nat, (∃ n169 : Nat, (((w162.cell? (Addr.add a166 ((x163).toNat * 1))) = (some (Value.slice o167 n168 n169))) ∧
(∃ s170 : ByteArray, (((w162.cell? (⟨(hs w), 0, none⟩ : Addr)) = (some (Value.string s170))) ∧
(∃ x171 : Int, (((w162.cell? (⟨(hs w), 1, none⟩ : Addr)) = (some (Value.int IntKind.i64 x171))) ∧
(∃ o172 : Option Addr, (∃ n173 : Nat, (∃ n174 : Nat, (((w162.cell? (⟨(hs w), 2, none⟩ : Addr)) = (some (Value.slice o172 n173 n174))) ∧
(Calls Try.prog 67 #[(Value.agg #[(Value.string s170), (Value.int IntKind.i64 x171), (Value.slice o172 n173 n174)]), (Value.slice o167 n168 n169)] w162 (fun (e175 : Ending) => (fun (w176 : World) => (∃ x177 : Int, ((e175 = (Ending.returned (Value.int IntKind.i64 x177))) ∧
((((decide (x177 = urgency)) = true) →
(R (Ending.returned (Value.bool false)) w176)) ∧
(((decide (x177 = urgency)) = false) →
(∃ n180 : Nat, ((n180 < n160) ∧
(k158 n180 (IntKind.wrap IntKind.i64 (x163 + 1)) w176)))))))))))))))))))))))))) ∧
(((decide (x163 < ((n156 : Nat) : Int))) = false) →
(R (Ending.returned (Value.bool true)) w162)))))))))))))))))))))))))) ∧
((b146 = false) →
(R (Ending.returned (Value.bool false)) w145))))))))))) ∧
((b140 = false) →
(((false = true) →
(R (Ending.returned (Value.bool false)) w136)) ∧
((false = false) →
(Calls Try.prog 62 #[(Value.slice o23 n24 n25), (Value.slice o137 n138 n139)] w136 (fun (e186 : Ending) => (fun (w187 : World) => (∃ b188 : Bool, ((e186 = (Ending.returned (Value.bool b188))) ∧
(((b188 = true) →
(∃ s190 : ByteArray, (((w187.cell? (⟨(hs w), 0, none⟩ : Addr)) = (some (Value.string s190))) ∧
(∃ x191 : Int, (((w187.cell? (⟨(hs w), 1, none⟩ : Addr)) = (some (Value.int IntKind.i64 x191))) ∧
(∃ o192 : Option Addr, (∃ n193 : Nat, (∃ n194 : Nat, (((w187.cell? (⟨(hs w), 2, none⟩ : Addr)) = (some (Value.slice o192 n193 n194))) ∧
(Calls Try.prog 60 #[(Value.agg #[(Value.string s190), (Value.int IntKind.i64 x191), (Value.slice o192 n193 n194)]), (Value.int IntKind.i64 60)] w187 (fun (e195 : Ending) => (fun (w196 : World) => (∃ o197 : Option Addr, (∃ n198 : Nat, (∃ n199 : Nat, ((e195 = (Ending.returned (Value.slice o197 n198 n199))) ∧
(∃ k200 : (Nat → (Int → (World → Prop))), ((∃ n201 : Nat, (k200 n201 0 w196)) ∧
(∀ n202 : Nat, ((Nat → Value) →
(∀ w204 : World, (∀ x205 : Int, ((k200 n202 x205 w204) →
((((decide (x205 < ((n198 : Nat) : Int))) = true) →
(∃ a208 : Addr, ((o197 = (some a208)) ∧
((((0 : Int) ≤ x205) ∧
(x205 < ((n198 : Nat) : Int))) ∧
(∃ o209 : Option Addr, (∃ n210 : Nat, (∃ n211 : Nat, (((w204.cell? (Addr.add a208 ((x205).toNat * 1))) = (some (Value.slice o209 n210 n211))) ∧
(∃ s212 : ByteArray, (((w204.cell? (⟨(hs w), 0, none⟩ : Addr)) = (some (Value.string s212))) ∧
(∃ x213 : Int, (((w204.cell? (⟨(hs w), 1, none⟩ : Addr)) = (some (Value.int IntKind.i64 x213))) ∧
(∃ o214 : Option Addr, (∃ n215 : Nat, (∃ n216 : Nat, (((w204.cell? (⟨(hs w), 2, none⟩ : Addr)) = (some (Value.slice o214 n215 n216))) ∧
(Calls Try.prog 67 #[(Value.agg #[(Value.string s212), (Value.int IntKind.i64 x213), (Value.slice o214 n215 n216)]), (Value.slice o209 n210 n211)] w204 (fun (e217 : Ending) => (fun (w218 : World) => (∃ x219 : Int, ((e217 = (Ending.returned (Value.int IntKind.i64 x219))) ∧
((((decide (x219 = urgency)) = true) →
(R (Ending.returned (Value.bool false)) w218)) ∧
(((decide (x219 = urgency)) = false) →
(∃ n222 : Nat, ((n222 < n202) ∧
(k200 n222 (IntKind.wrap IntKind.i64 (x205 + 1)) w218)))))))))))))))))))))))))) ∧
(((decide (x205 < ((n198 : Nat) : Int))) = false) →
(R (Ending.returned (Value.bool true)) w204)))))))))))))))))))))))))) ∧
((b188 = false) →
(R (Ending.returned (Value.bool false)) w187))))))))))))))))))))))))))))))))))))))))))))))) ∧
((b14 = false) →
(Calls Try.prog 55 #[] w13 (fun (e226 : Ending) => (fun (w227 : World) => (∃ b228 : Bool, ((e226 = (Ending.returned (Value.bool b228))) ∧
(((b228 = true) →
(R (Ending.returned (Value.bool true)) w227)) ∧
((b228 = false) →
(R (Ending.returned (Value.bool false)) w227)))))))))))))))))))))))) ∧
((b5 = false) →
(Calls Try.prog 55 #[] w4 (fun (e232 : Ending) => (fun (w233 : World) => (∃ b234 : Bool, ((e232 = (Ending.returned (Value.bool b234))) ∧
(((b234 = true) →
(R (Ending.returned (Value.bool true)) w233)) ∧
((b234 = false) →
(R (Ending.returned (Value.bool false)) w233)))))))))))))))))) :
    Calls Try.prog 18 #[(.agg #[(.string t_Name), (.int .i64 t_Version), (.slice t_Questions t_Questions_n t_Questions_c)]), (.int .i64 urgency)] w R :=
  calls_of_vc an18 Try.func18 rfl (by kernel_rfl) (by kernel_rfl) (Eq.mp (by kernel_rfl) h)

/-- samaritan/samaritanlaw13.ProtocolCheckPathsEnd -/
def an19 : An := (.seq (.reg []) (.seq (.seq (.reg [(0, 0, true), (4, 0, true)]) (.cond (.seq (.reg [(0, 0, true)]) .nil) .nil)) (.seq (.reg []) (.seq (.reg []) (.seq (.seq (.reg [(1, 0, true)]) (.cond (.seq (.reg [(2, 0, true), (6, 0, true)]) .nil) .nil)) (.seq (.reg []) (.seq (.reg []) (.seq (.seq (.reg [(1, 0, true), (5, 0, true)]) (.cond (.seq (.reg []) .nil) .nil)) (.seq (.seq (.reg []) (.blk (.loop [(57, .int .i64)] (.seq (.reg [(0, 0, true)]) (.seq (.cond .nil .nil) (.seq (.blk (.seq (.reg []) (.seq (.reg []) (.seq (.reg [(2, 0, true), (6, 0, true), (10, 0, true), (16, 0, true)]) (.cond (.seq (.reg []) .nil) .nil))))) (.reg []))))))) (.seq (.reg []) .nil))))))))))
set_option maxRecDepth 100000 in
theorem nf19 (t_Name : ByteArray) (t_Version : Int) (t_Questions : Option Addr) (t_Questions_n : Nat) (t_Questions_c : Nat) (w : World) (R : Ending → World → Prop) (h :
(∀ w1 : World, ((w1 = (w.alloc (Obj.cells #[(Value.string t_Name), (Value.int IntKind.i64 t_Version), (Value.slice t_Questions t_Questions_n t_Questions_c)] 24 (0, 0)))) →
(Calls Try.prog 55 #[] w1 (fun (e3 : Ending) => (fun (w4 : World) => (∃ b5 : Bool, ((e3 = (Ending.returned (Value.bool b5))) ∧
(((b5 = true) →
(∃ s7 : ByteArray, (((w4.cell? (⟨(hs w), 0, none⟩ : Addr)) = (some (Value.string s7))) ∧
(∃ x8 : Int, (((w4.cell? (⟨(hs w), 1, none⟩ : Addr)) = (some (Value.int IntKind.i64 x8))) ∧
(∃ o9 : Option Addr, (∃ n10 : Nat, (∃ n11 : Nat, (((w4.cell? (⟨(hs w), 2, none⟩ : Addr)) = (some (Value.slice o9 n10 n11))) ∧
(Calls Try.prog 23 #[(Value.agg #[(Value.string s7), (Value.int IntKind.i64 x8), (Value.slice o9 n10 n11)])] w4 (fun (e12 : Ending) => (fun (w13 : World) => (∃ b14 : Bool, ((e12 = (Ending.returned (Value.bool b14))) ∧
(((b14 = true) →
(∃ s16 : ByteArray, (((w13.cell? (⟨(hs w), 0, none⟩ : Addr)) = (some (Value.string s16))) ∧
(∃ x17 : Int, (((w13.cell? (⟨(hs w), 1, none⟩ : Addr)) = (some (Value.int IntKind.i64 x17))) ∧
(∃ o18 : Option Addr, (∃ n19 : Nat, (∃ n20 : Nat, (((w13.cell? (⟨(hs w), 2, none⟩ : Addr)) = (some (Value.slice o18 n19 n20))) ∧
(Calls Try.prog 56 #[(Value.agg #[(Value.string s16), (Value.int IntKind.i64 x17), (Value.slice o18 n19 n20)])] w13 (fun (e21 : Ending) => (fun (w22 : World) => (∃ x23 : Int, (∃ x24 : Int, ((e21 = (Ending.returned (Value.tuple #[(Value.int IntKind.i64 x23), (Value.int IntKind.i64 x24)]))) ∧
(∃ s25 : ByteArray, (((w22.cell? (⟨(hs w), 0, none⟩ : Addr)) = (some (Value.string s25))) ∧
(∃ x26 : Int, (((w22.cell? (⟨(hs w), 1, none⟩ : Addr)) = (some (Value.int IntKind.i64 x26))) ∧
(∃ o27 : Option Addr, (∃ n28 : Nat, (∃ n29 : Nat, (((w22.cell? (⟨(hs w), 2, none⟩ : Addr)) = (some (Value.slice o27 n28 n29))) ∧
(Calls Try.prog 60 #[(Value.agg #[(Value.string s25), (Value.int IntKind.i64 x26), (Value.slice o27 n28 n29)]), (Value.int IntKind.i64 60)] w22 (fun (e30 : Ending) => (fun (w31 : World) => (∃ o32 : Option Addr, (∃ n33 : Nat, (∃ n34 : Nat, ((e30 = (Ending.returned (Value.slice o32 n33 n34))) ∧
((((!(decide (x24 = 0))) = true) →
((((decide (((n33 : Nat) : Int) = 0)) = true) →
(∃ s37 : ByteArray, (((w31.cell? (⟨(hs w), 0, none⟩ : Addr)) = (some (Value.string s37))) ∧
(∃ x38 : Int, (((w31.cell? (⟨(hs w), 1, none⟩ : Addr)) = (some (Value.int IntKind.i64 x38))) ∧
(∃ o39 : Option Addr, (∃ n40 : Nat, (∃ n41 : Nat, (((w31.cell? (⟨(hs w), 2, none⟩ : Addr)) = (some (Value.slice o39 n40 n41))) ∧
(Calls Try.prog 63 #[(Value.agg #[(Value.string s37), (Value.int IntKind.i64 x38), (Value.slice o39 n40 n41)])] w31 (fun (e42 : Ending) => (fun (w43 : World) => (∃ x44 : Int, ((e42 = (Ending.returned (Value.int IntKind.i64 x44))) ∧
((((decide (x44 = 0)) = true) →
(R (Ending.returned (Value.bool true)) w43)) ∧
(((decide (x44 = 0)) = false) →
(R (Ending.returned (Value.bool false)) w43))))))))))))))))) ∧
(((decide (((n33 : Nat) : Int) = 0)) = false) →
(R (Ending.returned (Value.bool false)) w31)))) ∧
(((!(decide (x24 = 0))) = false) →
(∃ s49 : ByteArray, (((w31.cell? (⟨(hs w), 0, none⟩ : Addr)) = (some (Value.string s49))) ∧
(∃ x50 : Int, (((w31.cell? (⟨(hs w), 1, none⟩ : Addr)) = (some (Value.int IntKind.i64 x50))) ∧
(∃ o51 : Option Addr, (∃ n52 : Nat, (∃ n53 : Nat, (((w31.cell? (⟨(hs w), 2, none⟩ : Addr)) = (some (Value.slice o51 n52 n53))) ∧
(Calls Try.prog 57 #[(Value.agg #[(Value.string s49), (Value.int IntKind.i64 x50), (Value.slice o51 n52 n53)]), (Value.int IntKind.i64 0)] w31 (fun (e54 : Ending) => (fun (w55 : World) => (∃ x56 : Int, (∃ x57 : Int, ((e54 = (Ending.returned (Value.tuple #[(Value.int IntKind.i64 x56), (Value.int IntKind.i64 x57)]))) ∧
(∃ s58 : ByteArray, (((w55.cell? (⟨(hs w), 0, none⟩ : Addr)) = (some (Value.string s58))) ∧
(∃ x59 : Int, (((w55.cell? (⟨(hs w), 1, none⟩ : Addr)) = (some (Value.int IntKind.i64 x59))) ∧
(∃ o60 : Option Addr, (∃ n61 : Nat, (∃ n62 : Nat, (((w55.cell? (⟨(hs w), 2, none⟩ : Addr)) = (some (Value.slice o60 n61 n62))) ∧
(Calls Try.prog 58 #[(Value.agg #[(Value.string s58), (Value.int IntKind.i64 x59), (Value.slice o60 n61 n62)]), (Value.int IntKind.i64 0)] w55 (fun (e63 : Ending) => (fun (w64 : World) => (∃ x65 : Int, (∃ x66 : Int, ((e63 = (Ending.returned (Value.tuple #[(Value.int IntKind.i64 x65), (Value.int IntKind.i64 x66)]))) ∧
((((!(decide (x57 = 0))) = true) →
(R (Ending.returned (Value.bool false)) w64)) ∧
(((!(decide (x57 = 0))) = false) →
((((decide (((n33 : Nat) : Int) = 0)) = true) →
(R (Ending.returned (Value.bool false)) w64)) ∧
(((decide (((n33 : Nat) : Int) = 0)) = false) →
(∃ k71 : (Nat → (Int → (World → Prop))), ((∃ n72 : Nat, (k71 n72 0 w64)) ∧
(∀ n73 : Nat, ((Nat → Value) →
(∀ w75 : World, (∀ x76 : Int, ((k71 n73 x76 w75) →
((((decide (x76 < ((n33 : Nat) : Int))) = true) →
(∃ a79 : Addr, ((o32 = (some a79)) ∧
((((0 : Int) ≤ x76) ∧
(x76 < ((n33 : Nat) : Int))) ∧
(∃ o80 : Option Addr, (∃ n81 : Nat, (∃ n82 : Nat, (((w75.cell? (Addr.add a79 ((x76).toNat * 1))) = (some (Value.slice o80 n81 n82))) ∧
(∃ s83 : ByteArray, (((w75.cell? (⟨(hs w), 0, none⟩ : Addr)) = (some (Value.string s83))) ∧
(∃ x84 : Int, (((w75.cell? (⟨(hs w), 1, none⟩ : Addr)) = (some (Value.int IntKind.i64 x84))) ∧
(∃ o85 : Option Addr, (∃ n86 : Nat, (∃ n87 : Nat, (((w75.cell? (⟨(hs w), 2, none⟩ : Addr)) = (some (Value.slice o85 n86 n87))) ∧
(Calls Try.prog 67 #[(Value.agg #[(Value.string s83), (Value.int IntKind.i64 x84), (Value.slice o85 n86 n87)]), (Value.slice o80 n81 n82)] w75 (fun (e88 : Ending) => (fun (w89 : World) => (∃ x90 : Int, ((e88 = (Ending.returned (Value.int IntKind.i64 x90))) ∧
((((decide (x90 < x65)) = true) →
(R (Ending.returned (Value.bool false)) w89)) ∧
(((decide (x90 < x65)) = false) →
((((decide (x90 > x66)) = true) →
(R (Ending.returned (Value.bool false)) w89)) ∧
(((decide (x90 > x66)) = false) →
((((decide (x90 = 0)) = true) →
(R (Ending.returned (Value.bool false)) w89)) ∧
(((decide (x90 = 0)) = false) →
((((decide (((n81 : Nat) : Int) > x56)) = true) →
(R (Ending.returned (Value.bool false)) w89)) ∧
(((decide (((n81 : Nat) : Int) > x56)) = false) →
(∃ n99 : Nat, ((n99 < n73) ∧
(k71 n99 (IntKind.wrap IntKind.i64 (x76 + 1)) w89)))))))))))))))))))))))))))))))) ∧
(((decide (x76 < ((n33 : Nat) : Int))) = false) →
(R (Ending.returned (Value.bool true)) w75)))))))))))))))))))))))))))))))))))))))))))))))))))))))))))))))))))))))))) ∧
((b14 = false) →
(Calls Try.prog 55 #[] w13 (fun (e102 : Ending) => (fun (w103 : World) => (∃ b104 : Bool, ((e102 = (Ending.returned (Value.bool b104))) ∧
(((b104 = true) →
(R (Ending.returned (Value.bool true)) w103)) ∧
((b104 = false) →
(R (Ending.returned (Value.bool false)) w103)))))))))))))))))))))))) ∧
((b5 = false) →
(Calls Try.prog 55 #[] w4 (fun (e108 : Ending) => (fun (w109 : World) => (∃ b110 : Bool, ((e108 = (Ending.returned (Value.bool b110))) ∧
(((b110 = true) →
(R (Ending.returned (Value.bool true)) w109)) ∧
((b110 = false) →
(R (Ending.returned (Value.bool false)) w109)))))))))))))))))) :
    Calls Try.prog 19 #[(.agg #[(.string t_Name), (.int .i64 t_Version), (.slice t_Questions t_Questions_n t_Questions_c)])] w R :=
  calls_of_vc an19 Try.func19 rfl (by kernel_rfl) (by kernel_rfl) (Eq.mp (by kernel_rfl) h)

/-- samaritan/samaritanlaw13.ProtocolCheckCycle -/
def an20 : An := (.seq (.reg []) (.seq (.seq (.reg [(0, 0, true), (4, 0, true)]) (.cond (.seq (.reg [(0, 0, true)]) .nil) .nil)) (.seq (.reg []) (.seq (.seq (.reg [(1, 0, true), (4, 0, true), (11, 0, true), (15, 0, true), (26, 0, true)]) (.cond (.seq (.reg []) .nil) .nil)) (.seq (.seq (.reg []) (.blk (.loop [(57, .int .i64)] (.seq (.reg [(0, 0, true)]) (.seq (.cond .nil .nil) (.cut [] (.blk (.seq (.reg []) (.seq (.seq (.reg [(5, 0, true)]) (.cond .nil .nil)) (.seq (.reg []) (.seq (.reg [(3, 1, false)]) (.seq (.regD [(10, 1, false)] [0, 1, 2, 4, 5, 6, 7, 8, 9, 3, 10, 11, 12, 13] [3, 10, 13]) (.seq (.reg []) (.seq (.reg []) (.seq (.reg [(1, 0, true), (4, 0, true), (9, 0, true)]) (.cond (.seq (.reg []) .nil) .nil)))))))))) (.reg []))))))) (.seq (.reg []) .nil))))))
set_option maxRecDepth 100000 in
theorem nf20 (t_Name : ByteArray) (t_Version : Int) (t_Questions : Option Addr) (t_Questions_n : Nat) (t_Questions_c : Nat) (q : Int) (a : Int) (w : World) (R : Ending → World → Prop) (h :
(∀ w1 : World, ((w1 = (w.alloc (Obj.cells #[(Value.string t_Name), (Value.int IntKind.i64 t_Version), (Value.slice t_Questions t_Questions_n t_Questions_c)] 24 (0, 0)))) →
(Calls Try.prog 55 #[] w1 (fun (e3 : Ending) => (fun (w4 : World) => (∃ b5 : Bool, ((e3 = (Ending.returned (Value.bool b5))) ∧
(((b5 = true) →
(∃ s7 : ByteArray, (((w4.cell? (⟨(hs w), 0, none⟩ : Addr)) = (some (Value.string s7))) ∧
(∃ x8 : Int, (((w4.cell? (⟨(hs w), 1, none⟩ : Addr)) = (some (Value.int IntKind.i64 x8))) ∧
(∃ o9 : Option Addr, (∃ n10 : Nat, (∃ n11 : Nat, (((w4.cell? (⟨(hs w), 2, none⟩ : Addr)) = (some (Value.slice o9 n10 n11))) ∧
(Calls Try.prog 23 #[(Value.agg #[(Value.string s7), (Value.int IntKind.i64 x8), (Value.slice o9 n10 n11)])] w4 (fun (e12 : Ending) => (fun (w13 : World) => (∃ b14 : Bool, ((e12 = (Ending.returned (Value.bool b14))) ∧
(((b14 = true) →
(∃ s16 : ByteArray, (((w13.cell? (⟨(hs w), 0, none⟩ : Addr)) = (some (Value.string s16))) ∧
(∃ x17 : Int, (((w13.cell? (⟨(hs w), 1, none⟩ : Addr)) = (some (Value.int IntKind.i64 x17))) ∧
(∃ o18 : Option Addr, (∃ n19 : Nat, (∃ n20 : Nat, (((w13.cell? (⟨(hs w), 2, none⟩ : Addr)) = (some (Value.slice o18 n19 n20))) ∧
(Calls Try.prog 56 #[(Value.agg #[(Value.string s16), (Value.int IntKind.i64 x17), (Value.slice o18 n19 n20)])] w13 (fun (e21 : Ending) => (fun (w22 : World) => (∃ x23 : Int, (∃ x24 : Int, ((e21 = (Ending.returned (Value.tuple #[(Value.int IntKind.i64 x23), (Value.int IntKind.i64 x24)]))) ∧
((((!(decide (x24 = 0))) = true) →
(R (Ending.returned (Value.bool true)) w22)) ∧
(((!(decide (x24 = 0))) = false) →
((((decide (q < 0)) = true) →
(R (Ending.returned (Value.bool true)) w22)) ∧
(((decide (q < 0)) = false) →
(∃ o29 : Option Addr, (∃ n30 : Nat, (∃ n31 : Nat, (((w22.cell? (⟨(hs w), 2, none⟩ : Addr)) = (some (Value.slice o29 n30 n31))) ∧
((((decide (q ≥ ((n30 : Nat) : Int))) = true) →
(R (Ending.returned (Value.bool true)) w22)) ∧
(((decide (q ≥ ((n30 : Nat) : Int))) = false) →
((((decide (a < 0)) = true) →
(R (Ending.returned (Value.bool true)) w22)) ∧
(((decide (a < 0)) = false) →
(∃ o36 : Option Addr, (∃ n37 : Nat, (∃ n38 : Nat, (((w22.cell? (⟨(hs w), 2, none⟩ : Addr)) = (some (Value.slice o36 n37 n38))) ∧
(∃ a39 : Addr, ((o36 = (some a39)) ∧
((((0 : Int) ≤ q) ∧
(q < ((n37 : Nat) : Int))) ∧
(∃ o40 : Option Addr, (∃ n41 : Nat, (∃ n42 : Nat, (((w22.cell? (Addr.add (Addr.add a39 ((q).toNat * 2)) 1)) = (some (Value.slice o40 n41 n42))) ∧
((((decide (a ≥ ((n41 : Nat) : Int))) = true) →
(R (Ending.returned (Value.bool true)) w22)) ∧
(((decide (a ≥ ((n41 : Nat) : Int))) = false) →
(∃ o45 : Option Addr, (∃ n46 : Nat, (∃ n47 : Nat, (((w22.cell? (⟨(hs w), 2, none⟩ : Addr)) = (some (Value.slice o45 n46 n47))) ∧
(∃ k48 : (Nat → (Int → (World → Prop))), ((∃ n49 : Nat, (k48 n49 0 w22)) ∧
(∀ n50 : Nat, ((Nat → Value) →
(∀ w52 : World, (∀ x53 : Int, ((k48 n50 x53 w52) →
((((decide (x53 < ((n46 : Nat) : Int))) = true) →
(∀ k56 : (World → Prop), ((∀ w58 : World, (((Nat → Value) →
(∃ n61 : Nat, ((n61 < n50) ∧
(k48 n61 (IntKind.wrap IntKind.i64 (x53 + 1)) w58)))) →
(k56 w58))) →
(∃ s62 : ByteArray, (((w52.cell? (⟨(hs w), 0, none⟩ : Addr)) = (some (Value.string s62))) ∧
(∃ x63 : Int, (((w52.cell? (⟨(hs w), 1, none⟩ : Addr)) = (some (Value.int IntKind.i64 x63))) ∧
(∃ o64 : Option Addr, (∃ n65 : Nat, (∃ n66 : Nat, (((w52.cell? (⟨(hs w), 2, none⟩ : Addr)) = (some (Value.slice o64 n65 n66))) ∧
(Calls Try.prog 68 #[(Value.agg #[(Value.string s62), (Value.int IntKind.i64 x63), (Value.slice o64 n65 n66)]), (Value.int IntKind.i64 x53)] w52 (fun (e67 : Ending) => (fun (w68 : World) => (∃ o69 : Option Addr, (∃ n70 : Nat, (∃ n71 : Nat, ((e67 = (Ending.returned (Value.slice o69 n70 n71))) ∧
(∃ a72 : Addr, ((o69 = (some a72)) ∧
((((0 : Int) ≤ q) ∧
(q < ((n70 : Nat) : Int))) ∧
(∃ b73 : Bool, (((w68.cell? (Addr.add a72 ((q).toNat * 1))) = (some (Value.bool b73))) ∧
(((b73 = true) →
(∃ s75 : ByteArray, (((w68.cell? (⟨(hs w), 0, none⟩ : Addr)) = (some (Value.string s75))) ∧
(∃ x76 : Int, (((w68.cell? (⟨(hs w), 1, none⟩ : Addr)) = (some (Value.int IntKind.i64 x76))) ∧
(∃ o77 : Option Addr, (∃ n78 : Nat, (∃ n79 : Nat, (((w68.cell? (⟨(hs w), 2, none⟩ : Addr)) = (some (Value.slice o77 n78 n79))) ∧
(∀ w80 : World, ((w80 = (w68.alloc (Obj.cells #[(Value.string (ByteArray.mk #[])), (Value.int IntKind.i64 0), (Value.slice none 0 0)] 24 (0, 0)))) →
((Nf.There w80 (⟨(hs w68), 0, none⟩ : Addr) 3) ∧
(∀ w82 : World, ((w82 = (Nf.setCells w80 (⟨(hs w68), 0, none⟩ : Addr) [(Value.string s75), (Value.int IntKind.i64 x76), (Value.slice o77 n78 n79)] 0)) →
(∀ w84 : World, ((w84 = (w82.alloc (Obj.cells #[] 38 (0, 0)))) →
(∃ o86 : Option Addr, (∃ n87 : Nat, (∃ n88 : Nat, (((w84.cell? (⟨(hs w), 2, none⟩ : Addr)) = (some (Value.slice o86 n87 n88))) ∧
(RunOk Try.prog (Nf.Hold (Builtin.append_ #[22, 22] 22 #[(Value.slice (some (⟨(hs w82), 0, none⟩ : Addr)) 0 0), (Value.slice o86 n87 n88)])) w84 (fun (v89 : Value) => (fun (w90 : World) => (∃ o91 : Option Addr, (∃ n92 : Nat, (∃ n93 : Nat, ((v89 = (Value.slice o91 n92 n93)) ∧
((Nf.There w90 (⟨(hs w68), 2, none⟩ : Addr) 1) ∧
(∀ w94 : World, ((w94 = (Nf.setCells w90 (⟨(hs w68), 2, none⟩ : Addr) [(Value.slice o91 n92 n93)] 0)) →
(∀ w96 : World, ((w96 = w94.drew) →
(∃ o98 : Option Addr, (∃ n99 : Nat, (∃ n100 : Nat, (((w96.cell? (⟨(hs w68), 2, none⟩ : Addr)) = (some (Value.slice o98 n99 n100))) ∧
(∃ o101 : Option Addr, (∃ n102 : Nat, (∃ n103 : Nat, (((w96.cell? (⟨(hs w), 2, none⟩ : Addr)) = (some (Value.slice o101 n102 n103))) ∧
(∃ a104 : Addr, ((o101 = (some a104)) ∧
((((0 : Int) ≤ q) ∧
(q < ((n102 : Nat) : Int))) ∧
(∃ o105 : Option Addr, (∃ n106 : Nat, (∃ n107 : Nat, (((w96.cell? (Addr.add (Addr.add a104 ((q).toNat * 2)) 1)) = (some (Value.slice o105 n106 n107))) ∧
(∀ w108 : World, ((w108 = (w96.alloc (Obj.cells #[] 58 (0, 0)))) →
((Nf.Kept w96 w108 (Addr.add (Addr.add a104 ((q).toNat * 2)) 1) 1) ∧
((Nf.Kept w96 w108 (⟨(hs w), 2, none⟩ : Addr) 1) ∧
((Nf.Kept w96 w108 (⟨(hs w68), 2, none⟩ : Addr) 1) ∧
(RunOk Try.prog (Nf.Hold (Builtin.append_ #[36, 36] 36 #[(Value.slice (some (⟨(hs w96), 0, none⟩ : Addr)) 0 0), (Value.slice o105 n106 n107)])) w108 (fun (v110 : Value) => (fun (w111 : World) => (∃ o112 : Option Addr, (∃ n113 : Nat, (∃ n114 : Nat, ((v110 = (Value.slice o112 n113 n114)) ∧
((Nf.Kept w96 w111 (⟨(hs w68), 2, none⟩ : Addr) 1) ∧
(∃ a115 : Addr, ((o98 = (some a115)) ∧
((((0 : Int) ≤ q) ∧
(q < ((n99 : Nat) : Int))) ∧
((Nf.There w111 (Addr.add (Addr.add a115 ((q).toNat * 2)) 1) 1) ∧
(∀ w116 : World, ((w116 = (Nf.setCells w111 (Addr.add (Addr.add a115 ((q).toNat * 2)) 1) [(Value.slice o112 n113 n114)] 0)) →
(∃ o118 : Option Addr, (∃ n119 : Nat, (∃ n120 : Nat, (((w116.cell? (⟨(hs w68), 2, none⟩ : Addr)) = (some (Value.slice o118 n119 n120))) ∧
(∃ a121 : Addr, ((o118 = (some a121)) ∧
((((0 : Int) ≤ q) ∧
(q < ((n119 : Nat) : Int))) ∧
(∃ o122 : Option Addr, (∃ n123 : Nat, (∃ n124 : Nat, (((w116.cell? (Addr.add (Addr.add a121 ((q).toNat * 2)) 1)) = (some (Value.slice o122 n123 n124))) ∧
(∃ a125 : Addr, ((o122 = (some a125)) ∧
((((0 : Int) ≤ a) ∧
(a < ((n123 : Nat) : Int))) ∧
((Nf.There w116 (Addr.add a125 ((a).toNat * 4)) 4) ∧
(∀ w126 : World, ((w126 = (Nf.setCells w116 (Addr.add a125 ((a).toNat * 4)) [(Value.string (ByteArray.mk #[(98 : UInt8), (97 : UInt8), (99 : UInt8), (107 : UInt8)])), (Value.int IntKind.i64 x53), (Value.int IntKind.i64 0), (Value.string (ByteArray.mk #[]))] 0)) →
(∃ s128 : ByteArray, (((w126.cell? (⟨(hs w68), 0, none⟩ : Addr)) = (some (Value.string s128))) ∧
(∃ x129 : Int, (((w126.cell? (⟨(hs w68), 1, none⟩ : Addr)) = (some (Value.int IntKind.i64 x129))) ∧
(∃ o130 : Option Addr, (∃ n131 : Nat, (∃ n132 : Nat, (((w126.cell? (⟨(hs w68), 2, none⟩ : Addr)) = (some (Value.slice o130 n131 n132))) ∧
(Calls Try.prog 56 #[(Value.agg #[(Value.string s128), (Value.int IntKind.i64 x129), (Value.slice o130 n131 n132)])] w126 (fun (e133 : Ending) => (fun (w134 : World) => (∃ x135 : Int, (∃ x136 : Int, ((e133 = (Ending.returned (Value.tuple #[(Value.int IntKind.i64 x135), (Value.int IntKind.i64 x136)]))) ∧
((((!(decide (x136 = 12))) = true) →
(R (Ending.returned (Value.bool false)) w134)) ∧
(((!(decide (x136 = 12))) = false) →
((((decide (x135 < 0)) = true) →
(R (Ending.returned (Value.bool false)) w134)) ∧
(((decide (x135 < 0)) = false) →
((((decide (x135 > q)) = true) →
(R (Ending.returned (Value.bool false)) w134)) ∧
(((decide (x135 > q)) = false) →
(k56 w134)))))))))))))))))))))))))))))))))))))))))))))))))))))))))))))))))))))))))))))))))))))))))))))))))))))))) ∧
((b73 = false) →
(k56 w68)))))))))))))))))))))))))) ∧
(((decide (x53 < ((n46 : Nat) : Int))) = false) →
(R (Ending.returned (Value.bool true)) w52)))))))))))))))))))))))))))))))))))))))))))))))))))))) ∧
((b14 = false) →
(Calls Try.prog 55 #[] w13 (fun (e146 : Ending) => (fun (w147 : World) => (∃ b148 : Bool, ((e146 = (Ending.returned (Value.bool b148))) ∧
(((b148 = true) →
(R (Ending.returned (Value.bool true)) w147)) ∧
((b148 = false) →
(R (Ending.returned (Value.bool false)) w147)))))))))))))))))))))))) ∧
((b5 = false) →
(Calls Try.prog 55 #[] w4 (fun (e152 : Ending) => (fun (w153 : World) => (∃ b154 : Bool, ((e152 = (Ending.returned (Value.bool b154))) ∧
(((b154 = true) →
(R (Ending.returned (Value.bool true)) w153)) ∧
((b154 = false) →
(R (Ending.returned (Value.bool false)) w153)))))))))))))))))) :
    Calls Try.prog 20 #[(.agg #[(.string t_Name), (.int .i64 t_Version), (.slice t_Questions t_Questions_n t_Questions_c)]), (.int .i64 q), (.int .i64 a)] w R :=
  calls_of_vc an20 Try.func20 rfl (by kernel_rfl) (by kernel_rfl) (Eq.mp (by kernel_rfl) h)

end Go.Proofs.Ytbaacpfjecbbgaa
