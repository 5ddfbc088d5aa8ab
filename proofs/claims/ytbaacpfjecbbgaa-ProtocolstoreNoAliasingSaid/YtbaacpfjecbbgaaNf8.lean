/- The contracts' premises: for each function, the proposition that its body comes to (printed by the tool of wip/nf). -/
import Derived.Test.YtbaacpfjecbbgaaRows
import Derived.Test.YtbaacpfjecbbgaaNfD
namespace Go.Proofs.Ytbaacpfjecbbgaa
open Go Go.Nf

/-- samaritan/samaritanlaw15.same -/
def an69n : An := (.seq (.reg []) (.seq (.seq (.regD [(4, 0, true)] [0, 2, 1, 3, 4, 5] [1, 3, 4]) (.cond (.seq (.reg []) .nil) .nil)) (.seq (.seq (.reg []) (.blk (.loop [(30, .int .i64)] (.seq (.reg [(0, 0, true)]) (.seq (.cond .nil .nil) (.seq (.blk (.seq (.reg []) (.seq (.reg [(5, 0, true)]) (.seq (.reg []) (.seq (.regD [(5, 0, true), (15, 0, true)] [0, 1, 2, 3, 4, 5, 6, 7, 8, 9, 10, 12, 13, 11, 14, 15, 16, 17] [5, 11, 14, 15]) (.cond (.seq (.reg []) .nil) .nil)))))) (.reg []))))))) (.seq (.reg []) (.seq (.reg []) (.seq (.reg []) (.seq (.reg []) (.seq (.reg [(2, 0, true), (6, 0, true), (11, 0, true)]) .nil))))))))
set_option maxRecDepth 100000 in
theorem nf69n (b : Option Addr) (x_L : Option Addr) (x_L_n : Nat) (x_L_c : Nat) (x_P : Option Addr) (x_P_n : Nat) (x_P_c : Nat) (a_Kind : Int) (a_T_Name : ByteArray) (a_T_Version : Int) (a_T_Questions : Option Addr) (a_T_Questions_n : Nat) (a_T_Questions_c : Nat) (a_Call : Int) (a_Name : ByteArray) (a_Version : Int) (w : World) (R : Ending → World → Prop) (h :
(∀ w1 : World, ((w1 = (w.alloc (Obj.cells #[(Value.slice x_L x_L_n x_L_c), (Value.slice x_P x_P_n x_P_c)] 74 (0, 0)))) →
(∀ w3 : World, ((w3 = (w1.alloc (Obj.cells #[(Value.int IntKind.u8 a_Kind), (Value.string a_T_Name), (Value.int IntKind.i64 a_T_Version), (Value.slice a_T_Questions a_T_Questions_n a_T_Questions_c), (Value.int IntKind.i64 a_Call), (Value.string a_Name), (Value.int IntKind.i64 a_Version)] 70 (0, 0)))) →
(∀ w5 : World, ((w5 = w3.drew) →
(∃ o7 : Option Addr, (∃ n8 : Nat, (∃ n9 : Nat, (((w5.cell? (⟨(hs w), 0, none⟩ : Addr)) = (some (Value.slice o7 n8 n9))) ∧
(∃ o10 : Option Addr, (∃ n11 : Nat, (∃ n12 : Nat, (((w5.cell? (⟨(hs w), 1, none⟩ : Addr)) = (some (Value.slice o10 n11 n12))) ∧
(Calls Try.prog 52 #[(Value.pointer b)] w5 (fun (e13 : Ending) => (fun (w14 : World) => (∃ o15 : Option Addr, (∃ n16 : Nat, (∃ n17 : Nat, ((e13 = (Ending.returned (Value.slice o15 n16 n17))) ∧
((Nf.Kept w5 w14 (⟨(hs w), 0, none⟩ : Addr) 2) ∧
(Calls Try.prog 104 #[(Value.agg #[(Value.slice o7 n8 n9), (Value.slice o10 n11 n12)])] w14 (fun (e18 : Ending) => (fun (w19 : World) => (∃ o20 : Option Addr, (∃ n21 : Nat, (∃ n22 : Nat, ((e18 = (Ending.returned (Value.slice o20 n21 n22))) ∧
(Calls Try.prog 103 #[(Value.slice o15 n16 n17), (Value.slice o20 n21 n22)] w19 (fun (e23 : Ending) => (fun (w24 : World) => (∃ b25 : Bool, ((e23 = (Ending.returned (Value.bool b25))) ∧
(((b25 = true) →
(∃ o27 : Option Addr, (∃ n28 : Nat, (∃ n29 : Nat, (((w24.cell? (⟨(hs w), 0, none⟩ : Addr)) = (some (Value.slice o27 n28 n29))) ∧
(∃ o30 : Option Addr, (∃ n31 : Nat, (∃ n32 : Nat, (((w24.cell? (⟨(hs w), 1, none⟩ : Addr)) = (some (Value.slice o30 n31 n32))) ∧
(Calls Try.prog 104 #[(Value.agg #[(Value.slice o27 n28 n29), (Value.slice o30 n31 n32)])] w24 (fun (e33 : Ending) => (fun (w34 : World) => (∃ o35 : Option Addr, (∃ n36 : Nat, (∃ n37 : Nat, ((e33 = (Ending.returned (Value.slice o35 n36 n37))) ∧
(∃ k38 : (Nat → (Int → (World → Prop))), ((∃ n39 : Nat, (k38 n39 0 w34)) ∧
(∀ n40 : Nat, ((Nat → Value) →
(∀ w42 : World, (∀ x43 : Int, ((k38 n40 x43 w42) →
((((decide (x43 < ((n36 : Nat) : Int))) = true) →
(∃ a46 : Addr, ((o35 = (some a46)) ∧
((((0 : Int) ≤ x43) ∧
(x43 < ((n36 : Nat) : Int))) ∧
(∃ s47 : ByteArray, (((w42.cell? (Addr.add a46 ((x43).toNat * 1))) = (some (Value.string s47))) ∧
(Calls Try.prog 50 #[(Value.pointer b), (Value.string s47)] w42 (fun (e48 : Ending) => (fun (w49 : World) => (∃ s50 : ByteArray, (∃ x51 : Int, (∃ o52 : Option Addr, (∃ n53 : Nat, (∃ n54 : Nat, (∃ b55 : Bool, ((e48 = (Ending.returned (Value.tuple #[(Value.agg #[(Value.string s50), (Value.int IntKind.i64 x51), (Value.slice o52 n53 n54)]), (Value.bool b55)]))) ∧
(((b55 = true) →
(∀ w57 : World, ((w57 = (w49.alloc (Obj.cells #[(Value.string (ByteArray.mk #[])), (Value.int IntKind.i64 0), (Value.slice none 0 0)] 24 (0, 0)))) →
((Nf.There w57 (⟨(hs w49), 0, none⟩ : Addr) 3) ∧
(∀ w59 : World, ((w59 = (Nf.setCells w57 (⟨(hs w49), 0, none⟩ : Addr) [(Value.string s50), (Value.int IntKind.i64 x51), (Value.slice o52 n53 n54)] 0)) →
(∃ o61 : Option Addr, (∃ n62 : Nat, (∃ n63 : Nat, (((w59.cell? (⟨(hs w), 0, none⟩ : Addr)) = (some (Value.slice o61 n62 n63))) ∧
(∃ o64 : Option Addr, (∃ n65 : Nat, (∃ n66 : Nat, (((w59.cell? (⟨(hs w), 1, none⟩ : Addr)) = (some (Value.slice o64 n65 n66))) ∧
(Calls Try.prog 105 #[(Value.agg #[(Value.slice o61 n62 n63), (Value.slice o64 n65 n66)]), (Value.string s47)] w59 (fun (e67 : Ending) => (fun (w68 : World) => (∃ s69 : ByteArray, (∃ x70 : Int, (∃ o71 : Option Addr, (∃ n72 : Nat, (∃ n73 : Nat, (∃ b74 : Bool, ((e67 = (Ending.returned (Value.tuple #[(Value.agg #[(Value.string s69), (Value.int IntKind.i64 x70), (Value.slice o71 n72 n73)]), (Value.bool b74)]))) ∧
(∀ w75 : World, ((w75 = (w68.alloc (Obj.cells #[(Value.string (ByteArray.mk #[])), (Value.int IntKind.i64 0), (Value.slice none 0 0)] 24 (0, 0)))) →
((Nf.There w75 (⟨(hs w68), 0, none⟩ : Addr) 3) ∧
(∀ w77 : World, ((w77 = (Nf.setCells w75 (⟨(hs w68), 0, none⟩ : Addr) [(Value.string s69), (Value.int IntKind.i64 x70), (Value.slice o71 n72 n73)] 0)) →
(∀ w79 : World, ((w79 = w77.drew) →
(∃ s81 : ByteArray, (((w79.cell? (⟨(hs w49), 0, none⟩ : Addr)) = (some (Value.string s81))) ∧
(∃ x82 : Int, (((w79.cell? (⟨(hs w49), 1, none⟩ : Addr)) = (some (Value.int IntKind.i64 x82))) ∧
(∃ o83 : Option Addr, (∃ n84 : Nat, (∃ n85 : Nat, (((w79.cell? (⟨(hs w49), 2, none⟩ : Addr)) = (some (Value.slice o83 n84 n85))) ∧
(∃ s86 : ByteArray, (((w79.cell? (⟨(hs w68), 0, none⟩ : Addr)) = (some (Value.string s86))) ∧
(∃ x87 : Int, (((w79.cell? (⟨(hs w68), 1, none⟩ : Addr)) = (some (Value.int IntKind.i64 x87))) ∧
(∃ o88 : Option Addr, (∃ n89 : Nat, (∃ n90 : Nat, (((w79.cell? (⟨(hs w68), 2, none⟩ : Addr)) = (some (Value.slice o88 n89 n90))) ∧
(Calls Try.prog 38 #[(Value.agg #[(Value.string s81), (Value.int IntKind.i64 x82), (Value.slice o83 n84 n85)]), (Value.agg #[(Value.string s86), (Value.int IntKind.i64 x87), (Value.slice o88 n89 n90)])] w79 (fun (e91 : Ending) => (fun (w92 : World) => (∃ b93 : Bool, ((e91 = (Ending.returned (Value.bool b93))) ∧
(((b93 = true) →
(∃ o95 : Option Addr, (∃ n96 : Nat, (∃ n97 : Nat, (((w92.cell? (⟨(hs w), 0, none⟩ : Addr)) = (some (Value.slice o95 n96 n97))) ∧
(∃ o98 : Option Addr, (∃ n99 : Nat, (∃ n100 : Nat, (((w92.cell? (⟨(hs w), 1, none⟩ : Addr)) = (some (Value.slice o98 n99 n100))) ∧
(Calls Try.prog 54 #[(Value.pointer b), (Value.string s47)] w92 (fun (e101 : Ending) => (fun (w102 : World) => (∃ o103 : Option Addr, (∃ n104 : Nat, (∃ n105 : Nat, ((e101 = (Ending.returned (Value.slice o103 n104 n105))) ∧
((Nf.Kept w92 w102 (⟨(hs w), 0, none⟩ : Addr) 2) ∧
(Calls Try.prog 107 #[(Value.agg #[(Value.slice o95 n96 n97), (Value.slice o98 n99 n100)]), (Value.string s47)] w102 (fun (e106 : Ending) => (fun (w107 : World) => (∃ o108 : Option Addr, (∃ n109 : Nat, (∃ n110 : Nat, ((e106 = (Ending.returned (Value.slice o108 n109 n110))) ∧
(Calls Try.prog 106 #[(Value.slice o103 n104 n105), (Value.slice o108 n109 n110)] w107 (fun (e111 : Ending) => (fun (w112 : World) => (∃ b113 : Bool, ((e111 = (Ending.returned (Value.bool b113))) ∧
(((b113 = true) →
(∃ n115 : Nat, ((n115 < n40) ∧
(k38 n115 (IntKind.wrap IntKind.i64 (x43 + 1)) w112)))) ∧
((b113 = false) →
(R (Ending.returned (Value.bool false)) w112)))))))))))))))))))))))))))))))) ∧
((b93 = false) →
(R (Ending.returned (Value.bool false)) w92))))))))))))))))))))))))))))))))))))))))))))))))))))))) ∧
((b55 = false) →
(∀ w119 : World, ((w119 = (w49.alloc (Obj.cells #[(Value.string (ByteArray.mk #[])), (Value.int IntKind.i64 0), (Value.slice none 0 0)] 24 (0, 0)))) →
((Nf.There w119 (⟨(hs w49), 0, none⟩ : Addr) 3) ∧
(∀ w121 : World, ((w121 = (Nf.setCells w119 (⟨(hs w49), 0, none⟩ : Addr) [(Value.string s50), (Value.int IntKind.i64 x51), (Value.slice o52 n53 n54)] 0)) →
(∃ o123 : Option Addr, (∃ n124 : Nat, (∃ n125 : Nat, (((w121.cell? (⟨(hs w), 0, none⟩ : Addr)) = (some (Value.slice o123 n124 n125))) ∧
(∃ o126 : Option Addr, (∃ n127 : Nat, (∃ n128 : Nat, (((w121.cell? (⟨(hs w), 1, none⟩ : Addr)) = (some (Value.slice o126 n127 n128))) ∧
(Calls Try.prog 105 #[(Value.agg #[(Value.slice o123 n124 n125), (Value.slice o126 n127 n128)]), (Value.string s47)] w121 (fun (e129 : Ending) => (fun (w130 : World) => (∃ s131 : ByteArray, (∃ x132 : Int, (∃ o133 : Option Addr, (∃ n134 : Nat, (∃ n135 : Nat, (∃ b136 : Bool, ((e129 = (Ending.returned (Value.tuple #[(Value.agg #[(Value.string s131), (Value.int IntKind.i64 x132), (Value.slice o133 n134 n135)]), (Value.bool b136)]))) ∧
(∀ w137 : World, ((w137 = (w130.alloc (Obj.cells #[(Value.string (ByteArray.mk #[])), (Value.int IntKind.i64 0), (Value.slice none 0 0)] 24 (0, 0)))) →
((Nf.There w137 (⟨(hs w130), 0, none⟩ : Addr) 3) ∧
(∀ w139 : World, ((w139 = (Nf.setCells w137 (⟨(hs w130), 0, none⟩ : Addr) [(Value.string s131), (Value.int IntKind.i64 x132), (Value.slice o133 n134 n135)] 0)) →
(∀ w141 : World, ((w141 = w139.drew) →
(R (Ending.returned (Value.bool false)) w141))))))))))))))))))))))))))))))))))))))))))))))))) ∧
(((decide (x43 < ((n36 : Nat) : Int))) = false) →
(∃ x144 : Int, (((w42.cell? (⟨(hs w1), 4, none⟩ : Addr)) = (some (Value.int IntKind.i64 x144))) ∧
(Calls Try.prog 46 #[(Value.pointer b), (Value.int IntKind.i64 x144)] w42 (fun (e145 : Ending) => (fun (w146 : World) => (∃ s147 : ByteArray, (∃ x148 : Int, (∃ o149 : Option Addr, (∃ n150 : Nat, (∃ n151 : Nat, (∃ b152 : Bool, ((e145 = (Ending.returned (Value.tuple #[(Value.agg #[(Value.string s147), (Value.int IntKind.i64 x148), (Value.slice o149 n150 n151)]), (Value.bool b152)]))) ∧
(∀ w153 : World, ((w153 = (w146.alloc (Obj.cells #[(Value.string (ByteArray.mk #[])), (Value.int IntKind.i64 0), (Value.slice none 0 0)] 24 (0, 0)))) →
((Nf.There w153 (⟨(hs w146), 0, none⟩ : Addr) 3) ∧
(∀ w155 : World, ((w155 = (Nf.setCells w153 (⟨(hs w146), 0, none⟩ : Addr) [(Value.string s147), (Value.int IntKind.i64 x148), (Value.slice o149 n150 n151)] 0)) →
(∃ o157 : Option Addr, (∃ n158 : Nat, (∃ n159 : Nat, (((w155.cell? (⟨(hs w), 0, none⟩ : Addr)) = (some (Value.slice o157 n158 n159))) ∧
(∃ o160 : Option Addr, (∃ n161 : Nat, (∃ n162 : Nat, (((w155.cell? (⟨(hs w), 1, none⟩ : Addr)) = (some (Value.slice o160 n161 n162))) ∧
(∃ x163 : Int, (((w155.cell? (⟨(hs w1), 4, none⟩ : Addr)) = (some (Value.int IntKind.i64 x163))) ∧
(Calls Try.prog 108 #[(Value.agg #[(Value.slice o157 n158 n159), (Value.slice o160 n161 n162)]), (Value.int IntKind.i64 x163)] w155 (fun (e164 : Ending) => (fun (w165 : World) => (∃ s166 : ByteArray, (∃ x167 : Int, (∃ o168 : Option Addr, (∃ n169 : Nat, (∃ n170 : Nat, (∃ b171 : Bool, ((e164 = (Ending.returned (Value.tuple #[(Value.agg #[(Value.string s166), (Value.int IntKind.i64 x167), (Value.slice o168 n169 n170)]), (Value.bool b171)]))) ∧
(∀ w172 : World, ((w172 = (w165.alloc (Obj.cells #[(Value.string (ByteArray.mk #[])), (Value.int IntKind.i64 0), (Value.slice none 0 0)] 24 (0, 0)))) →
((Nf.There w172 (⟨(hs w165), 0, none⟩ : Addr) 3) ∧
(∀ w174 : World, ((w174 = (Nf.setCells w172 (⟨(hs w165), 0, none⟩ : Addr) [(Value.string s166), (Value.int IntKind.i64 x167), (Value.slice o168 n169 n170)] 0)) →
(∃ s176 : ByteArray, (((w174.cell? (⟨(hs w1), 5, none⟩ : Addr)) = (some (Value.string s176))) ∧
(∃ x177 : Int, (((w174.cell? (⟨(hs w1), 6, none⟩ : Addr)) = (some (Value.int IntKind.i64 x177))) ∧
(Calls Try.prog 49 #[(Value.pointer b), (Value.string s176), (Value.int IntKind.i64 x177)] w174 (fun (e178 : Ending) => (fun (w179 : World) => (∃ s180 : ByteArray, (∃ x181 : Int, (∃ o182 : Option Addr, (∃ n183 : Nat, (∃ n184 : Nat, (∃ b185 : Bool, ((e178 = (Ending.returned (Value.tuple #[(Value.agg #[(Value.string s180), (Value.int IntKind.i64 x181), (Value.slice o182 n183 n184)]), (Value.bool b185)]))) ∧
(∀ w186 : World, ((w186 = (w179.alloc (Obj.cells #[(Value.string (ByteArray.mk #[])), (Value.int IntKind.i64 0), (Value.slice none 0 0)] 24 (0, 0)))) →
((Nf.There w186 (⟨(hs w179), 0, none⟩ : Addr) 3) ∧
(∀ w188 : World, ((w188 = (Nf.setCells w186 (⟨(hs w179), 0, none⟩ : Addr) [(Value.string s180), (Value.int IntKind.i64 x181), (Value.slice o182 n183 n184)] 0)) →
(∃ o190 : Option Addr, (∃ n191 : Nat, (∃ n192 : Nat, (((w188.cell? (⟨(hs w), 0, none⟩ : Addr)) = (some (Value.slice o190 n191 n192))) ∧
(∃ o193 : Option Addr, (∃ n194 : Nat, (∃ n195 : Nat, (((w188.cell? (⟨(hs w), 1, none⟩ : Addr)) = (some (Value.slice o193 n194 n195))) ∧
(∃ s196 : ByteArray, (((w188.cell? (⟨(hs w1), 5, none⟩ : Addr)) = (some (Value.string s196))) ∧
(∃ x197 : Int, (((w188.cell? (⟨(hs w1), 6, none⟩ : Addr)) = (some (Value.int IntKind.i64 x197))) ∧
(Calls Try.prog 109 #[(Value.agg #[(Value.slice o190 n191 n192), (Value.slice o193 n194 n195)]), (Value.string s196), (Value.int IntKind.i64 x197)] w188 (fun (e198 : Ending) => (fun (w199 : World) => (∃ s200 : ByteArray, (∃ x201 : Int, (∃ o202 : Option Addr, (∃ n203 : Nat, (∃ n204 : Nat, (∃ b205 : Bool, ((e198 = (Ending.returned (Value.tuple #[(Value.agg #[(Value.string s200), (Value.int IntKind.i64 x201), (Value.slice o202 n203 n204)]), (Value.bool b205)]))) ∧
(∀ w206 : World, ((w206 = (w199.alloc (Obj.cells #[(Value.string (ByteArray.mk #[])), (Value.int IntKind.i64 0), (Value.slice none 0 0)] 24 (0, 0)))) →
((Nf.There w206 (⟨(hs w199), 0, none⟩ : Addr) 3) ∧
(∀ w208 : World, ((w208 = (Nf.setCells w206 (⟨(hs w199), 0, none⟩ : Addr) [(Value.string s200), (Value.int IntKind.i64 x201), (Value.slice o202 n203 n204)] 0)) →
((((decide (b152 = b171)) = true) →
(∃ s211 : ByteArray, (((w208.cell? (⟨(hs w146), 0, none⟩ : Addr)) = (some (Value.string s211))) ∧
(∃ x212 : Int, (((w208.cell? (⟨(hs w146), 1, none⟩ : Addr)) = (some (Value.int IntKind.i64 x212))) ∧
(∃ o213 : Option Addr, (∃ n214 : Nat, (∃ n215 : Nat, (((w208.cell? (⟨(hs w146), 2, none⟩ : Addr)) = (some (Value.slice o213 n214 n215))) ∧
(∃ s216 : ByteArray, (((w208.cell? (⟨(hs w165), 0, none⟩ : Addr)) = (some (Value.string s216))) ∧
(∃ x217 : Int, (((w208.cell? (⟨(hs w165), 1, none⟩ : Addr)) = (some (Value.int IntKind.i64 x217))) ∧
(∃ o218 : Option Addr, (∃ n219 : Nat, (∃ n220 : Nat, (((w208.cell? (⟨(hs w165), 2, none⟩ : Addr)) = (some (Value.slice o218 n219 n220))) ∧
(Calls Try.prog 38 #[(Value.agg #[(Value.string s211), (Value.int IntKind.i64 x212), (Value.slice o213 n214 n215)]), (Value.agg #[(Value.string s216), (Value.int IntKind.i64 x217), (Value.slice o218 n219 n220)])] w208 (fun (e221 : Ending) => (fun (w222 : World) => (∃ b223 : Bool, ((e221 = (Ending.returned (Value.bool b223))) ∧
(((b223 = true) →
((((decide (b185 = b205)) = true) →
(∃ s226 : ByteArray, (((w222.cell? (⟨(hs w179), 0, none⟩ : Addr)) = (some (Value.string s226))) ∧
(∃ x227 : Int, (((w222.cell? (⟨(hs w179), 1, none⟩ : Addr)) = (some (Value.int IntKind.i64 x227))) ∧
(∃ o228 : Option Addr, (∃ n229 : Nat, (∃ n230 : Nat, (((w222.cell? (⟨(hs w179), 2, none⟩ : Addr)) = (some (Value.slice o228 n229 n230))) ∧
(∃ s231 : ByteArray, (((w222.cell? (⟨(hs w199), 0, none⟩ : Addr)) = (some (Value.string s231))) ∧
(∃ x232 : Int, (((w222.cell? (⟨(hs w199), 1, none⟩ : Addr)) = (some (Value.int IntKind.i64 x232))) ∧
(∃ o233 : Option Addr, (∃ n234 : Nat, (∃ n235 : Nat, (((w222.cell? (⟨(hs w199), 2, none⟩ : Addr)) = (some (Value.slice o233 n234 n235))) ∧
(Calls Try.prog 38 #[(Value.agg #[(Value.string s226), (Value.int IntKind.i64 x227), (Value.slice o228 n229 n230)]), (Value.agg #[(Value.string s231), (Value.int IntKind.i64 x232), (Value.slice o233 n234 n235)])] w222 (fun (e236 : Ending) => (fun (w237 : World) => (∃ b238 : Bool, ((e236 = (Ending.returned (Value.bool b238))) ∧
(R (Ending.returned (Value.bool b238)) w237))))))))))))))))))))))) ∧
(((decide (b185 = b205)) = false) →
(R (Ending.returned (Value.bool false)) w222)))) ∧
((b223 = false) →
(R (Ending.returned (Value.bool false)) w222))))))))))))))))))))))))) ∧
(((decide (b152 = b171)) = false) →
(R (Ending.returned (Value.bool false)) w208)))))))))))))))))))))))))))))))))))))))))))))))))))))))))))))))))))))))))))))))))))))))))))))))))))))))))))))))))))) ∧
((b25 = false) →
(R (Ending.returned (Value.bool false)) w24)))))))))))))))))))))))))))))))))))))) :
    Calls Try.prog 69 #[(.pointer b), (.agg #[(.slice x_L x_L_n x_L_c), (.slice x_P x_P_n x_P_c)]), (.agg #[(.int .u8 a_Kind), (.string a_T_Name), (.int .i64 a_T_Version), (.slice a_T_Questions a_T_Questions_n a_T_Questions_c), (.int .i64 a_Call), (.string a_Name), (.int .i64 a_Version)])] w R :=
  calls_of_vc an69n Try.func69 rfl (by kernel_rfl) (by kernel_rfl) (Eq.mp (by kernel_rfl) h)

/-- samaritan/samaritanlaw15.do -/
def an45n : An := (.seq (.reg []) (.seq (.seq (.reg []) (.blk (.seq (.reg [(0, 0, true)]) (.cond (.seq (.reg []) (.seq (.regD [(6, 0, true)] [0, 1, 2, 3, 5, 4, 6, 7, 8] [4, 7]) .nil)) (.seq (.reg [(0, 0, true)]) (.cond (.seq (.reg []) (.seq (.reg []) (.seq (.reg [(3, 0, true), (7, 0, true)]) .nil))) (.seq (.reg [(0, 0, true)]) (.cond (.seq (.reg []) (.seq (.regD [(6, 0, true)] [0, 1, 2, 3, 5, 4, 6, 7, 8] [4, 7]) .nil)) .nil)))))))) (.seq (.reg []) (.seq (.regD [(8, 0, true)] [0, 1, 2, 3, 4, 5, 7, 6, 8, 9, 10] [6, 9]) .nil))))
set_option maxRecDepth 100000 in
theorem nf45n (b : Option Addr) (x_L : Option Addr) (x_L_n : Nat) (x_L_c : Nat) (x_P : Option Addr) (x_P_n : Nat) (x_P_c : Nat) (a_Kind : Int) (a_T_Name : ByteArray) (a_T_Version : Int) (a_T_Questions : Option Addr) (a_T_Questions_n : Nat) (a_T_Questions_c : Nat) (a_Call : Int) (a_Name : ByteArray) (a_Version : Int) (w : World) (R : Ending → World → Prop) (h :
(∀ w1 : World, ((w1 = (w.alloc (Obj.cells #[(Value.slice x_L x_L_n x_L_c), (Value.slice x_P x_P_n x_P_c)] 74 (0, 0)))) →
(∀ w3 : World, ((w3 = (w1.alloc (Obj.cells #[(Value.int IntKind.u8 a_Kind), (Value.string a_T_Name), (Value.int IntKind.i64 a_T_Version), (Value.slice a_T_Questions a_T_Questions_n a_T_Questions_c), (Value.int IntKind.i64 a_Call), (Value.string a_Name), (Value.int IntKind.i64 a_Version)] 70 (0, 0)))) →
(∀ w5 : World, ((w5 = (w3.alloc (Obj.cells #[(Value.slice none 0 0), (Value.slice none 0 0)] 74 (0, 0)))) →
(∃ x7 : Int, (((w5.cell? (⟨(hs w1), 0, none⟩ : Addr)) = (some (Value.int IntKind.u8 x7))) ∧
((((decide ((Int.tmod x7 4) = 0)) = true) →
(∃ o9 : Option Addr, (∃ n10 : Nat, (∃ n11 : Nat, (((w5.cell? (⟨(hs w), 0, none⟩ : Addr)) = (some (Value.slice o9 n10 n11))) ∧
(∃ o12 : Option Addr, (∃ n13 : Nat, (∃ n14 : Nat, (((w5.cell? (⟨(hs w), 1, none⟩ : Addr)) = (some (Value.slice o12 n13 n14))) ∧
(∃ s15 : ByteArray, (((w5.cell? (⟨(hs w1), 1, none⟩ : Addr)) = (some (Value.string s15))) ∧
(∃ x16 : Int, (((w5.cell? (⟨(hs w1), 2, none⟩ : Addr)) = (some (Value.int IntKind.i64 x16))) ∧
(∃ o17 : Option Addr, (∃ n18 : Nat, (∃ n19 : Nat, (((w5.cell? (⟨(hs w1), 3, none⟩ : Addr)) = (some (Value.slice o17 n18 n19))) ∧
(Calls Try.prog 86 #[(Value.agg #[(Value.slice o9 n10 n11), (Value.slice o12 n13 n14)]), (Value.agg #[(Value.string s15), (Value.int IntKind.i64 x16), (Value.slice o17 n18 n19)])] w5 (fun (e20 : Ending) => (fun (w21 : World) => (∃ o22 : Option Addr, (∃ n23 : Nat, (∃ n24 : Nat, (∃ o25 : Option Addr, (∃ n26 : Nat, (∃ n27 : Nat, (∃ x28 : Int, ((e20 = (Ending.returned (Value.tuple #[(Value.agg #[(Value.slice o22 n23 n24), (Value.slice o25 n26 n27)]), (Value.int IntKind.i64 x28)]))) ∧
(∀ w29 : World, ((w29 = (w21.alloc (Obj.cells #[(Value.slice none 0 0), (Value.slice none 0 0)] 74 (0, 0)))) →
((Nf.There w29 (⟨(hs w21), 0, none⟩ : Addr) 2) ∧
(∀ w31 : World, ((w31 = (Nf.setCells w29 (⟨(hs w21), 0, none⟩ : Addr) [(Value.slice o22 n23 n24), (Value.slice o25 n26 n27)] 0)) →
(∀ w33 : World, ((w33 = w31.drew) →
(∃ o35 : Option Addr, (∃ n36 : Nat, (∃ n37 : Nat, (((w33.cell? (⟨(hs w21), 0, none⟩ : Addr)) = (some (Value.slice o35 n36 n37))) ∧
(∃ o38 : Option Addr, (∃ n39 : Nat, (∃ n40 : Nat, (((w33.cell? (⟨(hs w21), 1, none⟩ : Addr)) = (some (Value.slice o38 n39 n40))) ∧
(∃ s41 : ByteArray, (((w33.cell? (⟨(hs w1), 1, none⟩ : Addr)) = (some (Value.string s41))) ∧
(∃ x42 : Int, (((w33.cell? (⟨(hs w1), 2, none⟩ : Addr)) = (some (Value.int IntKind.i64 x42))) ∧
(∃ o43 : Option Addr, (∃ n44 : Nat, (∃ n45 : Nat, (((w33.cell? (⟨(hs w1), 3, none⟩ : Addr)) = (some (Value.slice o43 n44 n45))) ∧
(Calls Try.prog 42 #[(Value.pointer b), (Value.agg #[(Value.string s41), (Value.int IntKind.i64 x42), (Value.slice o43 n44 n45)])] w33 (fun (e46 : Ending) => (fun (w47 : World) => (∃ x48 : Int, ((e46 = (Ending.returned (Value.int IntKind.i64 x48))) ∧
((Nf.Kept w33 w47 (⟨(hs w21), 0, none⟩ : Addr) 2) ∧
((((decide (x48 = x28)) = true) →
((Nf.There w47 (⟨(hs w3), 0, none⟩ : Addr) 2) ∧
(∀ w50 : World, ((w50 = (Nf.setCells w47 (⟨(hs w3), 0, none⟩ : Addr) [(Value.slice o35 n36 n37), (Value.slice o38 n39 n40)] 0)) →
(∃ o52 : Option Addr, (∃ n53 : Nat, (∃ n54 : Nat, (((w50.cell? (⟨(hs w3), 0, none⟩ : Addr)) = (some (Value.slice o52 n53 n54))) ∧
(∃ o55 : Option Addr, (∃ n56 : Nat, (∃ n57 : Nat, (((w50.cell? (⟨(hs w3), 1, none⟩ : Addr)) = (some (Value.slice o55 n56 n57))) ∧
(R (Ending.returned (Value.tuple #[(Value.agg #[(Value.slice o52 n53 n54), (Value.slice o55 n56 n57)]), (Value.bool true)])) w50))))))))))))) ∧
(((decide (x48 = x28)) = false) →
((Nf.There w47 (⟨(hs w3), 0, none⟩ : Addr) 2) ∧
(∀ w59 : World, ((w59 = (Nf.setCells w47 (⟨(hs w3), 0, none⟩ : Addr) [(Value.slice o35 n36 n37), (Value.slice o38 n39 n40)] 0)) →
(∃ o61 : Option Addr, (∃ n62 : Nat, (∃ n63 : Nat, (((w59.cell? (⟨(hs w3), 0, none⟩ : Addr)) = (some (Value.slice o61 n62 n63))) ∧
(∃ o64 : Option Addr, (∃ n65 : Nat, (∃ n66 : Nat, (((w59.cell? (⟨(hs w3), 1, none⟩ : Addr)) = (some (Value.slice o64 n65 n66))) ∧
(R (Ending.returned (Value.tuple #[(Value.agg #[(Value.slice o61 n62 n63), (Value.slice o64 n65 n66)]), (Value.bool false)])) w59))))))))))))))))))))))))))))))))))))))))))))))))))))))))))))))))))))))) ∧
(((decide ((Int.tmod x7 4) = 0)) = false) →
((((decide ((Int.tmod x7 4) = 1)) = true) →
(∃ o69 : Option Addr, (∃ n70 : Nat, (∃ n71 : Nat, (((w5.cell? (⟨(hs w), 0, none⟩ : Addr)) = (some (Value.slice o69 n70 n71))) ∧
(∃ o72 : Option Addr, (∃ n73 : Nat, (∃ n74 : Nat, (((w5.cell? (⟨(hs w), 1, none⟩ : Addr)) = (some (Value.slice o72 n73 n74))) ∧
(∃ x75 : Int, (((w5.cell? (⟨(hs w1), 4, none⟩ : Addr)) = (some (Value.int IntKind.i64 x75))) ∧
(∃ s76 : ByteArray, (((w5.cell? (⟨(hs w1), 5, none⟩ : Addr)) = (some (Value.string s76))) ∧
(Calls Try.prog 87 #[(Value.agg #[(Value.slice o69 n70 n71), (Value.slice o72 n73 n74)]), (Value.int IntKind.i64 x75), (Value.string s76)] w5 (fun (e77 : Ending) => (fun (w78 : World) => (∃ o79 : Option Addr, (∃ n80 : Nat, (∃ n81 : Nat, (∃ o82 : Option Addr, (∃ n83 : Nat, (∃ n84 : Nat, (∃ x85 : Int, (∃ x86 : Int, ((e77 = (Ending.returned (Value.tuple #[(Value.agg #[(Value.slice o79 n80 n81), (Value.slice o82 n83 n84)]), (Value.int IntKind.i64 x85), (Value.int IntKind.i64 x86)]))) ∧
(∀ w87 : World, ((w87 = (w78.alloc (Obj.cells #[(Value.slice none 0 0), (Value.slice none 0 0)] 74 (0, 0)))) →
((Nf.There w87 (⟨(hs w78), 0, none⟩ : Addr) 2) ∧
(∀ w89 : World, ((w89 = (Nf.setCells w87 (⟨(hs w78), 0, none⟩ : Addr) [(Value.slice o79 n80 n81), (Value.slice o82 n83 n84)] 0)) →
(∃ x91 : Int, (((w89.cell? (⟨(hs w1), 4, none⟩ : Addr)) = (some (Value.int IntKind.i64 x91))) ∧
(∃ s92 : ByteArray, (((w89.cell? (⟨(hs w1), 5, none⟩ : Addr)) = (some (Value.string s92))) ∧
(Calls Try.prog 44 #[(Value.pointer b), (Value.int IntKind.i64 x91), (Value.string s92)] w89 (fun (e93 : Ending) => (fun (w94 : World) => (∃ x95 : Int, (∃ x96 : Int, ((e93 = (Ending.returned (Value.tuple #[(Value.int IntKind.i64 x95), (Value.int IntKind.i64 x96)]))) ∧
(∃ o97 : Option Addr, (∃ n98 : Nat, (∃ n99 : Nat, (((w94.cell? (⟨(hs w78), 0, none⟩ : Addr)) = (some (Value.slice o97 n98 n99))) ∧
(∃ o100 : Option Addr, (∃ n101 : Nat, (∃ n102 : Nat, (((w94.cell? (⟨(hs w78), 1, none⟩ : Addr)) = (some (Value.slice o100 n101 n102))) ∧
((((decide (x95 = x85)) = true) →
((((decide (x96 = x86)) = true) →
((Nf.There w94 (⟨(hs w3), 0, none⟩ : Addr) 2) ∧
(∀ w105 : World, ((w105 = (Nf.setCells w94 (⟨(hs w3), 0, none⟩ : Addr) [(Value.slice o97 n98 n99), (Value.slice o100 n101 n102)] 0)) →
(∃ o107 : Option Addr, (∃ n108 : Nat, (∃ n109 : Nat, (((w105.cell? (⟨(hs w3), 0, none⟩ : Addr)) = (some (Value.slice o107 n108 n109))) ∧
(∃ o110 : Option Addr, (∃ n111 : Nat, (∃ n112 : Nat, (((w105.cell? (⟨(hs w3), 1, none⟩ : Addr)) = (some (Value.slice o110 n111 n112))) ∧
(R (Ending.returned (Value.tuple #[(Value.agg #[(Value.slice o107 n108 n109), (Value.slice o110 n111 n112)]), (Value.bool true)])) w105))))))))))))) ∧
(((decide (x96 = x86)) = false) →
((Nf.There w94 (⟨(hs w3), 0, none⟩ : Addr) 2) ∧
(∀ w114 : World, ((w114 = (Nf.setCells w94 (⟨(hs w3), 0, none⟩ : Addr) [(Value.slice o97 n98 n99), (Value.slice o100 n101 n102)] 0)) →
(∃ o116 : Option Addr, (∃ n117 : Nat, (∃ n118 : Nat, (((w114.cell? (⟨(hs w3), 0, none⟩ : Addr)) = (some (Value.slice o116 n117 n118))) ∧
(∃ o119 : Option Addr, (∃ n120 : Nat, (∃ n121 : Nat, (((w114.cell? (⟨(hs w3), 1, none⟩ : Addr)) = (some (Value.slice o119 n120 n121))) ∧
(R (Ending.returned (Value.tuple #[(Value.agg #[(Value.slice o116 n117 n118), (Value.slice o119 n120 n121)]), (Value.bool false)])) w114))))))))))))))) ∧
(((decide (x95 = x85)) = false) →
((Nf.There w94 (⟨(hs w3), 0, none⟩ : Addr) 2) ∧
(∀ w123 : World, ((w123 = (Nf.setCells w94 (⟨(hs w3), 0, none⟩ : Addr) [(Value.slice o97 n98 n99), (Value.slice o100 n101 n102)] 0)) →
(∃ o125 : Option Addr, (∃ n126 : Nat, (∃ n127 : Nat, (((w123.cell? (⟨(hs w3), 0, none⟩ : Addr)) = (some (Value.slice o125 n126 n127))) ∧
(∃ o128 : Option Addr, (∃ n129 : Nat, (∃ n130 : Nat, (((w123.cell? (⟨(hs w3), 1, none⟩ : Addr)) = (some (Value.slice o128 n129 n130))) ∧
(R (Ending.returned (Value.tuple #[(Value.agg #[(Value.slice o125 n126 n127), (Value.slice o128 n129 n130)]), (Value.bool false)])) w123)))))))))))))))))))))))))))))))))))))))))))))))))))))))))))))) ∧
(((decide ((Int.tmod x7 4) = 1)) = false) →
((((decide ((Int.tmod x7 4) = 2)) = true) →
(∃ o133 : Option Addr, (∃ n134 : Nat, (∃ n135 : Nat, (((w5.cell? (⟨(hs w), 0, none⟩ : Addr)) = (some (Value.slice o133 n134 n135))) ∧
(∃ o136 : Option Addr, (∃ n137 : Nat, (∃ n138 : Nat, (((w5.cell? (⟨(hs w), 1, none⟩ : Addr)) = (some (Value.slice o136 n137 n138))) ∧
(∃ x139 : Int, (((w5.cell? (⟨(hs w1), 4, none⟩ : Addr)) = (some (Value.int IntKind.i64 x139))) ∧
(Calls Try.prog 88 #[(Value.agg #[(Value.slice o133 n134 n135), (Value.slice o136 n137 n138)]), (Value.int IntKind.i64 x139)] w5 (fun (e140 : Ending) => (fun (w141 : World) => (∃ o142 : Option Addr, (∃ n143 : Nat, (∃ n144 : Nat, (∃ o145 : Option Addr, (∃ n146 : Nat, (∃ n147 : Nat, (∃ b148 : Bool, ((e140 = (Ending.returned (Value.tuple #[(Value.agg #[(Value.slice o142 n143 n144), (Value.slice o145 n146 n147)]), (Value.bool b148)]))) ∧
(∀ w149 : World, ((w149 = (w141.alloc (Obj.cells #[(Value.slice none 0 0), (Value.slice none 0 0)] 74 (0, 0)))) →
((Nf.There w149 (⟨(hs w141), 0, none⟩ : Addr) 2) ∧
(∀ w151 : World, ((w151 = (Nf.setCells w149 (⟨(hs w141), 0, none⟩ : Addr) [(Value.slice o142 n143 n144), (Value.slice o145 n146 n147)] 0)) →
(∀ w153 : World, ((w153 = w151.drew) →
(∃ o155 : Option Addr, (∃ n156 : Nat, (∃ n157 : Nat, (((w153.cell? (⟨(hs w141), 0, none⟩ : Addr)) = (some (Value.slice o155 n156 n157))) ∧
(∃ o158 : Option Addr, (∃ n159 : Nat, (∃ n160 : Nat, (((w153.cell? (⟨(hs w141), 1, none⟩ : Addr)) = (some (Value.slice o158 n159 n160))) ∧
(∃ x161 : Int, (((w153.cell? (⟨(hs w1), 4, none⟩ : Addr)) = (some (Value.int IntKind.i64 x161))) ∧
(Calls Try.prog 47 #[(Value.pointer b), (Value.int IntKind.i64 x161)] w153 (fun (e162 : Ending) => (fun (w163 : World) => (∃ b164 : Bool, ((e162 = (Ending.returned (Value.bool b164))) ∧
((Nf.Kept w153 w163 (⟨(hs w141), 0, none⟩ : Addr) 2) ∧
((((decide (b164 = b148)) = true) →
((Nf.There w163 (⟨(hs w3), 0, none⟩ : Addr) 2) ∧
(∀ w166 : World, ((w166 = (Nf.setCells w163 (⟨(hs w3), 0, none⟩ : Addr) [(Value.slice o155 n156 n157), (Value.slice o158 n159 n160)] 0)) →
(∃ o168 : Option Addr, (∃ n169 : Nat, (∃ n170 : Nat, (((w166.cell? (⟨(hs w3), 0, none⟩ : Addr)) = (some (Value.slice o168 n169 n170))) ∧
(∃ o171 : Option Addr, (∃ n172 : Nat, (∃ n173 : Nat, (((w166.cell? (⟨(hs w3), 1, none⟩ : Addr)) = (some (Value.slice o171 n172 n173))) ∧
(R (Ending.returned (Value.tuple #[(Value.agg #[(Value.slice o168 n169 n170), (Value.slice o171 n172 n173)]), (Value.bool true)])) w166))))))))))))) ∧
(((decide (b164 = b148)) = false) →
((Nf.There w163 (⟨(hs w3), 0, none⟩ : Addr) 2) ∧
(∀ w175 : World, ((w175 = (Nf.setCells w163 (⟨(hs w3), 0, none⟩ : Addr) [(Value.slice o155 n156 n157), (Value.slice o158 n159 n160)] 0)) →
(∃ o177 : Option Addr, (∃ n178 : Nat, (∃ n179 : Nat, (((w175.cell? (⟨(hs w3), 0, none⟩ : Addr)) = (some (Value.slice o177 n178 n179))) ∧
(∃ o180 : Option Addr, (∃ n181 : Nat, (∃ n182 : Nat, (((w175.cell? (⟨(hs w3), 1, none⟩ : Addr)) = (some (Value.slice o180 n181 n182))) ∧
(R (Ending.returned (Value.tuple #[(Value.agg #[(Value.slice o177 n178 n179), (Value.slice o180 n181 n182)]), (Value.bool false)])) w175))))))))))))))))))))))))))))))))))))))))))))))))))))))))))) ∧
(((decide ((Int.tmod x7 4) = 2)) = false) →
(∃ o184 : Option Addr, (∃ n185 : Nat, (∃ n186 : Nat, (((w5.cell? (⟨(hs w), 0, none⟩ : Addr)) = (some (Value.slice o184 n185 n186))) ∧
(∃ o187 : Option Addr, (∃ n188 : Nat, (∃ n189 : Nat, (((w5.cell? (⟨(hs w), 1, none⟩ : Addr)) = (some (Value.slice o187 n188 n189))) ∧
(∃ s190 : ByteArray, (((w5.cell? (⟨(hs w1), 5, none⟩ : Addr)) = (some (Value.string s190))) ∧
(∃ x191 : Int, (((w5.cell? (⟨(hs w1), 6, none⟩ : Addr)) = (some (Value.int IntKind.i64 x191))) ∧
(Calls Try.prog 89 #[(Value.agg #[(Value.slice o184 n185 n186), (Value.slice o187 n188 n189)]), (Value.string s190), (Value.int IntKind.i64 x191)] w5 (fun (e192 : Ending) => (fun (w193 : World) => (∃ o194 : Option Addr, (∃ n195 : Nat, (∃ n196 : Nat, (∃ o197 : Option Addr, (∃ n198 : Nat, (∃ n199 : Nat, (∃ x200 : Int, ((e192 = (Ending.returned (Value.tuple #[(Value.agg #[(Value.slice o194 n195 n196), (Value.slice o197 n198 n199)]), (Value.int IntKind.i64 x200)]))) ∧
(∀ w201 : World, ((w201 = (w193.alloc (Obj.cells #[(Value.slice none 0 0), (Value.slice none 0 0)] 74 (0, 0)))) →
((Nf.There w201 (⟨(hs w193), 0, none⟩ : Addr) 2) ∧
(∀ w203 : World, ((w203 = (Nf.setCells w201 (⟨(hs w193), 0, none⟩ : Addr) [(Value.slice o194 n195 n196), (Value.slice o197 n198 n199)] 0)) →
(∀ w205 : World, ((w205 = w203.drew) →
(∃ o207 : Option Addr, (∃ n208 : Nat, (∃ n209 : Nat, (((w205.cell? (⟨(hs w193), 0, none⟩ : Addr)) = (some (Value.slice o207 n208 n209))) ∧
(∃ o210 : Option Addr, (∃ n211 : Nat, (∃ n212 : Nat, (((w205.cell? (⟨(hs w193), 1, none⟩ : Addr)) = (some (Value.slice o210 n211 n212))) ∧
(∃ s213 : ByteArray, (((w205.cell? (⟨(hs w1), 5, none⟩ : Addr)) = (some (Value.string s213))) ∧
(∃ x214 : Int, (((w205.cell? (⟨(hs w1), 6, none⟩ : Addr)) = (some (Value.int IntKind.i64 x214))) ∧
(Calls Try.prog 53 #[(Value.pointer b), (Value.string s213), (Value.int IntKind.i64 x214)] w205 (fun (e215 : Ending) => (fun (w216 : World) => (∃ x217 : Int, ((e215 = (Ending.returned (Value.int IntKind.i64 x217))) ∧
((Nf.Kept w205 w216 (⟨(hs w193), 0, none⟩ : Addr) 2) ∧
((((decide (x217 = x200)) = true) →
((Nf.There w216 (⟨(hs w3), 0, none⟩ : Addr) 2) ∧
(∀ w219 : World, ((w219 = (Nf.setCells w216 (⟨(hs w3), 0, none⟩ : Addr) [(Value.slice o207 n208 n209), (Value.slice o210 n211 n212)] 0)) →
(∃ o221 : Option Addr, (∃ n222 : Nat, (∃ n223 : Nat, (((w219.cell? (⟨(hs w3), 0, none⟩ : Addr)) = (some (Value.slice o221 n222 n223))) ∧
(∃ o224 : Option Addr, (∃ n225 : Nat, (∃ n226 : Nat, (((w219.cell? (⟨(hs w3), 1, none⟩ : Addr)) = (some (Value.slice o224 n225 n226))) ∧
(R (Ending.returned (Value.tuple #[(Value.agg #[(Value.slice o221 n222 n223), (Value.slice o224 n225 n226)]), (Value.bool true)])) w219))))))))))))) ∧
(((decide (x217 = x200)) = false) →
((Nf.There w216 (⟨(hs w3), 0, none⟩ : Addr) 2) ∧
(∀ w228 : World, ((w228 = (Nf.setCells w216 (⟨(hs w3), 0, none⟩ : Addr) [(Value.slice o207 n208 n209), (Value.slice o210 n211 n212)] 0)) →
(∃ o230 : Option Addr, (∃ n231 : Nat, (∃ n232 : Nat, (((w228.cell? (⟨(hs w3), 0, none⟩ : Addr)) = (some (Value.slice o230 n231 n232))) ∧
(∃ o233 : Option Addr, (∃ n234 : Nat, (∃ n235 : Nat, (((w228.cell? (⟨(hs w3), 1, none⟩ : Addr)) = (some (Value.slice o233 n234 n235))) ∧
(R (Ending.returned (Value.tuple #[(Value.agg #[(Value.slice o230 n231 n232), (Value.slice o233 n234 n235)]), (Value.bool false)])) w228))))))))))))))))))))))))))))))))))))))))))))))))))))))))))))))))))))))))))))) :
    Calls Try.prog 45 #[(.pointer b), (.agg #[(.slice x_L x_L_n x_L_c), (.slice x_P x_P_n x_P_c)]), (.agg #[(.int .u8 a_Kind), (.string a_T_Name), (.int .i64 a_T_Version), (.slice a_T_Questions a_T_Questions_n a_T_Questions_c), (.int .i64 a_Call), (.string a_Name), (.int .i64 a_Version)])] w R :=
  calls_of_vc an45n Try.func45 rfl (by kernel_rfl) (by kernel_rfl) (Eq.mp (by kernel_rfl) h)

/-- samaritan/samaritanref07.Same -/
def an106 : An := (.seq (.reg []) (.seq (.seq (.reg [(4, 0, true)]) (.cond (.seq (.reg []) .nil) .nil)) (.seq (.seq (.reg []) (.blk (.loop [(5, .int .i64)] (.seq (.seq (.reg [(3, 0, true)]) (.cond .nil .nil)) (.seq (.blk (.seq (.regD [(8, 0, true)] [0, 1, 2, 3, 4, 5, 6, 7, 8] []) (.cond (.seq (.reg []) .nil) .nil))) (.reg [])))))) (.seq (.reg []) .nil))))
set_option maxRecDepth 100000 in
theorem nf106 (a : Option Addr) (a_n : Nat) (a_c : Nat) (b : Option Addr) (b_n : Nat) (b_c : Nat) (w : World) (R : Ending → World → Prop) (h :
((((!(decide (((a_n : Nat) : Int) = ((b_n : Nat) : Int)))) = true) →
(R (Ending.returned (Value.bool false)) w)) ∧
(((!(decide (((a_n : Nat) : Int) = ((b_n : Nat) : Int)))) = false) →
(∃ k3 : (Nat → (Int → (World → Prop))), ((∃ n4 : Nat, (k3 n4 0 w)) ∧
(∀ n5 : Nat, ((Nat → Value) →
(∀ w7 : World, (∀ x8 : Int, ((k3 n5 x8 w7) →
((((decide (x8 < ((a_n : Nat) : Int))) = true) →
(∀ w11 : World, ((w11 = w7.drew) →
(∃ a13 : Addr, ((a = (some a13)) ∧
((((0 : Int) ≤ x8) ∧
(x8 < ((a_n : Nat) : Int))) ∧
(∃ x14 : Int, (((w11.cell? (Addr.add a13 ((x8).toNat * 1))) = (some (Value.int IntKind.i64 x14))) ∧
(∃ a15 : Addr, ((b = (some a15)) ∧
((((0 : Int) ≤ x8) ∧
(x8 < ((b_n : Nat) : Int))) ∧
(∃ x16 : Int, (((w11.cell? (Addr.add a15 ((x8).toNat * 1))) = (some (Value.int IntKind.i64 x16))) ∧
((((!(decide (x14 = x16))) = true) →
(R (Ending.returned (Value.bool false)) w11)) ∧
(((!(decide (x14 = x16))) = false) →
(∃ n19 : Nat, ((n19 < n5) ∧
(k3 n19 (IntKind.wrap IntKind.i64 (x8 + 1)) w11)))))))))))))))))) ∧
(((decide (x8 < ((a_n : Nat) : Int))) = false) →
(R (Ending.returned (Value.bool true)) w7))))))))))))) :
    Calls Try.prog 106 #[(.slice a a_n a_c), (.slice b b_n b_c)] w R :=
  calls_of_vc an106 Try.func106 rfl (by kernel_rfl) (by kernel_rfl) (Eq.mp (by kernel_rfl) h)

/-- samaritan/samaritanlaw15.wakes -/
def an39n : An := (.seq (.reg []) (.seq (.reg []) (.seq (.seq (.reg [(1, 3, true), (6, 0, true)]) (.cond (.seq (.reg []) .nil) .nil)) (.seq (.reg []) (.seq (.reg []) (.seq (.reg [(4, 0, true)]) (.seq (.reg [(4, 0, true)]) (.seq (.reg []) (.seq (.reg [(1, 0, true)]) (.seq (.reg [(1, 0, true), (4, 0, true), (9, 0, true), (17, 0, true), (24, 0, true), (32, 0, true)]) .nil))))))))))
set_option maxRecDepth 100000 in
theorem nf39n  (w : World) (R : Ending → World → Prop) (h :
(Calls Try.prog 41 #[] w (fun (e1 : Ending) => (fun (w2 : World) => (∃ o3 : Option Addr, ((e1 = (Ending.returned (Value.pointer o3))) ∧
((((Option.isNone o3) = true) →
(R (Ending.returned (Value.bool false)) w2)) ∧
(((Option.isNone o3) = false) →
(Calls Try.prog 43 #[(Value.string (ByteArray.mk #[(109 : UInt8), (97 : UInt8), (105 : UInt8), (110 : UInt8)])), (Value.int IntKind.i64 1)] w2 (fun (e6 : Ending) => (fun (w7 : World) => (∃ s8 : ByteArray, (∃ x9 : Int, (∃ o10 : Option Addr, (∃ n11 : Nat, (∃ n12 : Nat, ((e6 = (Ending.returned (Value.agg #[(Value.string s8), (Value.int IntKind.i64 x9), (Value.slice o10 n11 n12)]))) ∧
(Calls Try.prog 42 #[(Value.pointer o3), (Value.agg #[(Value.string s8), (Value.int IntKind.i64 x9), (Value.slice o10 n11 n12)])] w7 (fun (e13 : Ending) => (fun (w14 : World) => (∃ x15 : Int, ((e13 = (Ending.returned (Value.int IntKind.i64 x15))) ∧
((((!(decide (x15 = 0))) = true) →
(R (Ending.returned (Value.bool false)) w14)) ∧
(((!(decide (x15 = 0))) = false) →
(Calls Try.prog 44 #[(Value.pointer o3), (Value.int IntKind.i64 7), (Value.string (ByteArray.mk #[(109 : UInt8), (97 : UInt8), (105 : UInt8), (110 : UInt8)]))] w14 (fun (e18 : Ending) => (fun (w19 : World) => (∃ x20 : Int, (∃ x21 : Int, ((e18 = (Ending.returned (Value.tuple #[(Value.int IntKind.i64 x20), (Value.int IntKind.i64 x21)]))) ∧
(Calls Try.prog 43 #[(Value.string (ByteArray.mk #[(109 : UInt8), (97 : UInt8), (105 : UInt8), (110 : UInt8)])), (Value.int IntKind.i64 2)] w19 (fun (e22 : Ending) => (fun (w23 : World) => (∃ s24 : ByteArray, (∃ x25 : Int, (∃ o26 : Option Addr, (∃ n27 : Nat, (∃ n28 : Nat, ((e22 = (Ending.returned (Value.agg #[(Value.string s24), (Value.int IntKind.i64 x25), (Value.slice o26 n27 n28)]))) ∧
(Calls Try.prog 42 #[(Value.pointer o3), (Value.agg #[(Value.string s24), (Value.int IntKind.i64 x25), (Value.slice o26 n27 n28)])] w23 (fun (e29 : Ending) => (fun (w30 : World) => (∃ x31 : Int, ((e29 = (Ending.returned (Value.int IntKind.i64 x31))) ∧
(Calls Try.prog 46 #[(Value.pointer o3), (Value.int IntKind.i64 7)] w30 (fun (e32 : Ending) => (fun (w33 : World) => (∃ s34 : ByteArray, (∃ x35 : Int, (∃ o36 : Option Addr, (∃ n37 : Nat, (∃ n38 : Nat, (∃ b39 : Bool, ((e32 = (Ending.returned (Value.tuple #[(Value.agg #[(Value.string s34), (Value.int IntKind.i64 x35), (Value.slice o36 n37 n38)]), (Value.bool b39)]))) ∧
(((b39 = true) →
(∀ w41 : World, ((w41 = (w33.alloc (Obj.cells #[(Value.string (ByteArray.mk #[])), (Value.int IntKind.i64 0), (Value.slice none 0 0)] 24 (0, 0)))) →
((Nf.There w41 (⟨(hs w33), 0, none⟩ : Addr) 3) ∧
(∀ w43 : World, ((w43 = (Nf.setCells w41 (⟨(hs w33), 0, none⟩ : Addr) [(Value.string s34), (Value.int IntKind.i64 x35), (Value.slice o36 n37 n38)] 0)) →
(Calls Try.prog 50 #[(Value.pointer o3), (Value.string (ByteArray.mk #[(109 : UInt8), (97 : UInt8), (105 : UInt8), (110 : UInt8)]))] w43 (fun (e45 : Ending) => (fun (w46 : World) => (∃ s47 : ByteArray, (∃ x48 : Int, (∃ o49 : Option Addr, (∃ n50 : Nat, (∃ n51 : Nat, (∃ b52 : Bool, ((e45 = (Ending.returned (Value.tuple #[(Value.agg #[(Value.string s47), (Value.int IntKind.i64 x48), (Value.slice o49 n50 n51)]), (Value.bool b52)]))) ∧
(((b52 = true) →
(∀ w54 : World, ((w54 = (w46.alloc (Obj.cells #[(Value.string (ByteArray.mk #[])), (Value.int IntKind.i64 0), (Value.slice none 0 0)] 24 (0, 0)))) →
((Nf.There w54 (⟨(hs w46), 0, none⟩ : Addr) 3) ∧
(∀ w56 : World, ((w56 = (Nf.setCells w54 (⟨(hs w46), 0, none⟩ : Addr) [(Value.string s47), (Value.int IntKind.i64 x48), (Value.slice o49 n50 n51)] 0)) →
(Calls Try.prog 53 #[(Value.pointer o3), (Value.string (ByteArray.mk #[(109 : UInt8), (97 : UInt8), (105 : UInt8), (110 : UInt8)])), (Value.int IntKind.i64 1)] w56 (fun (e58 : Ending) => (fun (w59 : World) => (∃ x60 : Int, ((e58 = (Ending.returned (Value.int IntKind.i64 x60))) ∧
(Calls Try.prog 47 #[(Value.pointer o3), (Value.int IntKind.i64 7)] w59 (fun (e61 : Ending) => (fun (w62 : World) => (∃ b63 : Bool, ((e61 = (Ending.returned (Value.bool b63))) ∧
(((b63 = true) →
((((decide (x20 = 1)) = true) →
((((decide (x21 = 0)) = true) →
(∃ x67 : Int, (((w62.cell? (⟨(hs w33), 1, none⟩ : Addr)) = (some (Value.int IntKind.i64 x67))) ∧
((((decide (x67 = 1)) = true) →
(∃ x69 : Int, (((w62.cell? (⟨(hs w46), 1, none⟩ : Addr)) = (some (Value.int IntKind.i64 x69))) ∧
((((decide (x69 = 2)) = true) →
((((decide (x60 = 10)) = true) →
(Calls Try.prog 53 #[(Value.pointer o3), (Value.string (ByteArray.mk #[(109 : UInt8), (97 : UInt8), (105 : UInt8), (110 : UInt8)])), (Value.int IntKind.i64 1)] w62 (fun (e72 : Ending) => (fun (w73 : World) => (∃ x74 : Int, ((e72 = (Ending.returned (Value.int IntKind.i64 x74))) ∧
((((decide (x74 = 0)) = true) →
(R (Ending.returned (Value.bool true)) w73)) ∧
(((decide (x74 = 0)) = false) →
(R (Ending.returned (Value.bool false)) w73))))))))) ∧
(((decide (x60 = 10)) = false) →
(R (Ending.returned (Value.bool false)) w62)))) ∧
(((decide (x69 = 2)) = false) →
(R (Ending.returned (Value.bool false)) w62)))))) ∧
(((decide (x67 = 1)) = false) →
(R (Ending.returned (Value.bool false)) w62)))))) ∧
(((decide (x21 = 0)) = false) →
(R (Ending.returned (Value.bool false)) w62)))) ∧
(((decide (x20 = 1)) = false) →
(R (Ending.returned (Value.bool false)) w62)))) ∧
((b63 = false) →
((((decide (x20 = 1)) = true) →
((((decide (x21 = 0)) = true) →
(∃ x85 : Int, (((w62.cell? (⟨(hs w33), 1, none⟩ : Addr)) = (some (Value.int IntKind.i64 x85))) ∧
((((decide (x85 = 1)) = true) →
(∃ x87 : Int, (((w62.cell? (⟨(hs w46), 1, none⟩ : Addr)) = (some (Value.int IntKind.i64 x87))) ∧
((((decide (x87 = 2)) = true) →
((((decide (x60 = 10)) = true) →
(R (Ending.returned (Value.bool false)) w62)) ∧
(((decide (x60 = 10)) = false) →
(R (Ending.returned (Value.bool false)) w62)))) ∧
(((decide (x87 = 2)) = false) →
(R (Ending.returned (Value.bool false)) w62)))))) ∧
(((decide (x85 = 1)) = false) →
(R (Ending.returned (Value.bool false)) w62)))))) ∧
(((decide (x21 = 0)) = false) →
(R (Ending.returned (Value.bool false)) w62)))) ∧
(((decide (x20 = 1)) = false) →
(R (Ending.returned (Value.bool false)) w62))))))))))))))))))))) ∧
((b52 = false) →
(∀ w96 : World, ((w96 = (w46.alloc (Obj.cells #[(Value.string (ByteArray.mk #[])), (Value.int IntKind.i64 0), (Value.slice none 0 0)] 24 (0, 0)))) →
((Nf.There w96 (⟨(hs w46), 0, none⟩ : Addr) 3) ∧
(∀ w98 : World, ((w98 = (Nf.setCells w96 (⟨(hs w46), 0, none⟩ : Addr) [(Value.string s47), (Value.int IntKind.i64 x48), (Value.slice o49 n50 n51)] 0)) →
(Calls Try.prog 53 #[(Value.pointer o3), (Value.string (ByteArray.mk #[(109 : UInt8), (97 : UInt8), (105 : UInt8), (110 : UInt8)])), (Value.int IntKind.i64 1)] w98 (fun (e100 : Ending) => (fun (w101 : World) => (∃ x102 : Int, ((e100 = (Ending.returned (Value.int IntKind.i64 x102))) ∧
(Calls Try.prog 47 #[(Value.pointer o3), (Value.int IntKind.i64 7)] w101 (fun (e103 : Ending) => (fun (w104 : World) => (∃ b105 : Bool, ((e103 = (Ending.returned (Value.bool b105))) ∧
(((b105 = true) →
((((decide (x20 = 1)) = true) →
((((decide (x21 = 0)) = true) →
(∃ x109 : Int, (((w104.cell? (⟨(hs w33), 1, none⟩ : Addr)) = (some (Value.int IntKind.i64 x109))) ∧
((((decide (x109 = 1)) = true) →
(∃ x111 : Int, (((w104.cell? (⟨(hs w46), 1, none⟩ : Addr)) = (some (Value.int IntKind.i64 x111))) ∧
((((decide (x111 = 2)) = true) →
(R (Ending.returned (Value.bool false)) w104)) ∧
(((decide (x111 = 2)) = false) →
(R (Ending.returned (Value.bool false)) w104)))))) ∧
(((decide (x109 = 1)) = false) →
(R (Ending.returned (Value.bool false)) w104)))))) ∧
(((decide (x21 = 0)) = false) →
(R (Ending.returned (Value.bool false)) w104)))) ∧
(((decide (x20 = 1)) = false) →
(R (Ending.returned (Value.bool false)) w104)))) ∧
((b105 = false) →
((((decide (x20 = 1)) = true) →
((((decide (x21 = 0)) = true) →
(∃ x120 : Int, (((w104.cell? (⟨(hs w33), 1, none⟩ : Addr)) = (some (Value.int IntKind.i64 x120))) ∧
((((decide (x120 = 1)) = true) →
(∃ x122 : Int, (((w104.cell? (⟨(hs w46), 1, none⟩ : Addr)) = (some (Value.int IntKind.i64 x122))) ∧
((((decide (x122 = 2)) = true) →
(R (Ending.returned (Value.bool false)) w104)) ∧
(((decide (x122 = 2)) = false) →
(R (Ending.returned (Value.bool false)) w104)))))) ∧
(((decide (x120 = 1)) = false) →
(R (Ending.returned (Value.bool false)) w104)))))) ∧
(((decide (x21 = 0)) = false) →
(R (Ending.returned (Value.bool false)) w104)))) ∧
(((decide (x20 = 1)) = false) →
(R (Ending.returned (Value.bool false)) w104)))))))))))))))))))))))))))))))))))))) ∧
((b39 = false) →
(∀ w129 : World, ((w129 = (w33.alloc (Obj.cells #[(Value.string (ByteArray.mk #[])), (Value.int IntKind.i64 0), (Value.slice none 0 0)] 24 (0, 0)))) →
((Nf.There w129 (⟨(hs w33), 0, none⟩ : Addr) 3) ∧
(∀ w131 : World, ((w131 = (Nf.setCells w129 (⟨(hs w33), 0, none⟩ : Addr) [(Value.string s34), (Value.int IntKind.i64 x35), (Value.slice o36 n37 n38)] 0)) →
(Calls Try.prog 50 #[(Value.pointer o3), (Value.string (ByteArray.mk #[(109 : UInt8), (97 : UInt8), (105 : UInt8), (110 : UInt8)]))] w131 (fun (e133 : Ending) => (fun (w134 : World) => (∃ s135 : ByteArray, (∃ x136 : Int, (∃ o137 : Option Addr, (∃ n138 : Nat, (∃ n139 : Nat, (∃ b140 : Bool, ((e133 = (Ending.returned (Value.tuple #[(Value.agg #[(Value.string s135), (Value.int IntKind.i64 x136), (Value.slice o137 n138 n139)]), (Value.bool b140)]))) ∧
(((b140 = true) →
(∀ w142 : World, ((w142 = (w134.alloc (Obj.cells #[(Value.string (ByteArray.mk #[])), (Value.int IntKind.i64 0), (Value.slice none 0 0)] 24 (0, 0)))) →
((Nf.There w142 (⟨(hs w134), 0, none⟩ : Addr) 3) ∧
(∀ w144 : World, ((w144 = (Nf.setCells w142 (⟨(hs w134), 0, none⟩ : Addr) [(Value.string s135), (Value.int IntKind.i64 x136), (Value.slice o137 n138 n139)] 0)) →
(Calls Try.prog 53 #[(Value.pointer o3), (Value.string (ByteArray.mk #[(109 : UInt8), (97 : UInt8), (105 : UInt8), (110 : UInt8)])), (Value.int IntKind.i64 1)] w144 (fun (e146 : Ending) => (fun (w147 : World) => (∃ x148 : Int, ((e146 = (Ending.returned (Value.int IntKind.i64 x148))) ∧
(Calls Try.prog 47 #[(Value.pointer o3), (Value.int IntKind.i64 7)] w147 (fun (e149 : Ending) => (fun (w150 : World) => (∃ b151 : Bool, ((e149 = (Ending.returned (Value.bool b151))) ∧
(((b151 = true) →
((((decide (x20 = 1)) = true) →
((((decide (x21 = 0)) = true) →
(∃ x155 : Int, (((w150.cell? (⟨(hs w33), 1, none⟩ : Addr)) = (some (Value.int IntKind.i64 x155))) ∧
((((decide (x155 = 1)) = true) →
(R (Ending.returned (Value.bool false)) w150)) ∧
(((decide (x155 = 1)) = false) →
(R (Ending.returned (Value.bool false)) w150)))))) ∧
(((decide (x21 = 0)) = false) →
(R (Ending.returned (Value.bool false)) w150)))) ∧
(((decide (x20 = 1)) = false) →
(R (Ending.returned (Value.bool false)) w150)))) ∧
((b151 = false) →
((((decide (x20 = 1)) = true) →
((((decide (x21 = 0)) = true) →
(∃ x163 : Int, (((w150.cell? (⟨(hs w33), 1, none⟩ : Addr)) = (some (Value.int IntKind.i64 x163))) ∧
((((decide (x163 = 1)) = true) →
(R (Ending.returned (Value.bool false)) w150)) ∧
(((decide (x163 = 1)) = false) →
(R (Ending.returned (Value.bool false)) w150)))))) ∧
(((decide (x21 = 0)) = false) →
(R (Ending.returned (Value.bool false)) w150)))) ∧
(((decide (x20 = 1)) = false) →
(R (Ending.returned (Value.bool false)) w150))))))))))))))))))))) ∧
((b140 = false) →
(∀ w169 : World, ((w169 = (w134.alloc (Obj.cells #[(Value.string (ByteArray.mk #[])), (Value.int IntKind.i64 0), (Value.slice none 0 0)] 24 (0, 0)))) →
((Nf.There w169 (⟨(hs w134), 0, none⟩ : Addr) 3) ∧
(∀ w171 : World, ((w171 = (Nf.setCells w169 (⟨(hs w134), 0, none⟩ : Addr) [(Value.string s135), (Value.int IntKind.i64 x136), (Value.slice o137 n138 n139)] 0)) →
(Calls Try.prog 53 #[(Value.pointer o3), (Value.string (ByteArray.mk #[(109 : UInt8), (97 : UInt8), (105 : UInt8), (110 : UInt8)])), (Value.int IntKind.i64 1)] w171 (fun (e173 : Ending) => (fun (w174 : World) => (∃ x175 : Int, ((e173 = (Ending.returned (Value.int IntKind.i64 x175))) ∧
(Calls Try.prog 47 #[(Value.pointer o3), (Value.int IntKind.i64 7)] w174 (fun (e176 : Ending) => (fun (w177 : World) => (∃ b178 : Bool, ((e176 = (Ending.returned (Value.bool b178))) ∧
(((b178 = true) →
((((decide (x20 = 1)) = true) →
((((decide (x21 = 0)) = true) →
(∃ x182 : Int, (((w177.cell? (⟨(hs w33), 1, none⟩ : Addr)) = (some (Value.int IntKind.i64 x182))) ∧
((((decide (x182 = 1)) = true) →
(R (Ending.returned (Value.bool false)) w177)) ∧
(((decide (x182 = 1)) = false) →
(R (Ending.returned (Value.bool false)) w177)))))) ∧
(((decide (x21 = 0)) = false) →
(R (Ending.returned (Value.bool false)) w177)))) ∧
(((decide (x20 = 1)) = false) →
(R (Ending.returned (Value.bool false)) w177)))) ∧
((b178 = false) →
((((decide (x20 = 1)) = true) →
((((decide (x21 = 0)) = true) →
(∃ x190 : Int, (((w177.cell? (⟨(hs w33), 1, none⟩ : Addr)) = (some (Value.int IntKind.i64 x190))) ∧
((((decide (x190 = 1)) = true) →
(R (Ending.returned (Value.bool false)) w177)) ∧
(((decide (x190 = 1)) = false) →
(R (Ending.returned (Value.bool false)) w177)))))) ∧
(((decide (x21 = 0)) = false) →
(R (Ending.returned (Value.bool false)) w177)))) ∧
(((decide (x20 = 1)) = false) →
(R (Ending.returned (Value.bool false)) w177))))))))))))))))))))))))))))))))))))))))))))))))))))))))))))))))))))))))))))))))))))))))))))) :
    Calls Try.prog 39 #[] w R :=
  calls_of_vc an39n Try.func39 rfl (by kernel_rfl) (by kernel_rfl) (Eq.mp (by kernel_rfl) h)

/-- samaritan/samaritanlaw15.ProtocolstorePinStability -/
def an9n : An := (.seq (.reg []) (.seq (.seq (.reg [(0, 0, true)]) (.cond (.seq (.reg []) .nil) .nil)) (.seq (.seq (.reg [(1, 0, true), (5, 0, true)]) (.cond (.seq (.reg []) .nil) .nil)) (.seq (.reg []) (.seq (.reg []) (.seq (.seq (.reg []) (.seq (.reg [(1, 0, true)]) (.cond (.seq (.reg []) .nil) .nil))) (.seq (.seq (.reg []) (.blk (.loop [(35, .int .i64)] (.seq (.reg [(0, 0, true)]) (.seq (.cond .nil .nil) (.cut [] (.blk (.seq (.reg []) (.seq (.seq (.reg [(3, 0, true), (8, 0, true)]) (.cond .nil .nil)) (.seq (.reg []) (.seq (.reg [(5, 0, true)]) (.seq (.regD [(5, 0, true)] [0, 1, 2, 3, 4, 5, 6, 7] [4, 5]) (.cond (.seq (.reg []) .nil) .nil))))))) (.reg []))))))) (.seq (.reg [(2, 0, true)]) .nil))))))))
set_option maxRecDepth 100000 in
theorem nf9n (l : Option Addr) (l_n : Nat) (l_c : Nat) (call : Int) (w : World) (R : Ending → World → Prop) (h :
(Calls Try.prog 39 #[] w (fun (e1 : Ending) => (fun (w2 : World) => (∃ b3 : Bool, ((e1 = (Ending.returned (Value.bool b3))) ∧
(((b3 = true) →
(Calls Try.prog 40 #[(Value.slice l l_n l_c)] w2 (fun (e5 : Ending) => (fun (w6 : World) => (∃ b7 : Bool, ((e5 = (Ending.returned (Value.bool b7))) ∧
(((b7 = true) →
((((decide (call < 1)) = true) →
(R (Ending.returned (Value.bool true)) w6)) ∧
(((decide (call < 1)) = false) →
(Calls Try.prog 41 #[] w6 (fun (e11 : Ending) => (fun (w12 : World) => (∃ o13 : Option Addr, ((e11 = (Ending.returned (Value.pointer o13))) ∧
(Calls Try.prog 43 #[(Value.string (ByteArray.mk #[(109 : UInt8), (97 : UInt8), (105 : UInt8), (110 : UInt8)])), (Value.int IntKind.i64 1)] w12 (fun (e14 : Ending) => (fun (w15 : World) => (∃ s16 : ByteArray, (∃ x17 : Int, (∃ o18 : Option Addr, (∃ n19 : Nat, (∃ n20 : Nat, ((e14 = (Ending.returned (Value.agg #[(Value.string s16), (Value.int IntKind.i64 x17), (Value.slice o18 n19 n20)]))) ∧
(Calls Try.prog 42 #[(Value.pointer o13), (Value.agg #[(Value.string s16), (Value.int IntKind.i64 x17), (Value.slice o18 n19 n20)])] w15 (fun (e21 : Ending) => (fun (w22 : World) => (∃ x23 : Int, ((e21 = (Ending.returned (Value.int IntKind.i64 x23))) ∧
(Calls Try.prog 44 #[(Value.pointer o13), (Value.int IntKind.i64 call), (Value.string (ByteArray.mk #[(109 : UInt8), (97 : UInt8), (105 : UInt8), (110 : UInt8)]))] w22 (fun (e24 : Ending) => (fun (w25 : World) => (∃ x26 : Int, (∃ x27 : Int, ((e24 = (Ending.returned (Value.tuple #[(Value.int IntKind.i64 x26), (Value.int IntKind.i64 x27)]))) ∧
((((!(decide (x27 = 0))) = true) →
(R (Ending.returned (Value.bool false)) w25)) ∧
(((!(decide (x27 = 0))) = false) →
(∃ k30 : (Nat → (Int → (World → Prop))), ((∃ n31 : Nat, (k30 n31 0 w25)) ∧
(∀ n32 : Nat, ((Nat → Value) →
(∀ w34 : World, (∀ x35 : Int, ((k30 n32 x35 w34) →
((((decide (x35 < ((l_n : Nat) : Int))) = true) →
(∀ k38 : (World → Prop), ((∀ w40 : World, (((Nat → Value) →
(∃ n43 : Nat, ((n43 < n32) ∧
(k30 n43 (IntKind.wrap IntKind.i64 (x35 + 1)) w40)))) →
(k38 w40))) →
(∃ a44 : Addr, ((l = (some a44)) ∧
((((0 : Int) ≤ x35) ∧
(x35 < ((l_n : Nat) : Int))) ∧
(∃ x45 : Int, (((w34.cell? (Addr.add a44 ((x35).toNat * 7))) = (some (Value.int IntKind.u8 x45))) ∧
(∃ s46 : ByteArray, (((w34.cell? (Addr.add (Addr.add a44 ((x35).toNat * 7)) 1)) = (some (Value.string s46))) ∧
(∃ x47 : Int, (((w34.cell? (Addr.add (Addr.add a44 ((x35).toNat * 7)) 2)) = (some (Value.int IntKind.i64 x47))) ∧
(∃ o48 : Option Addr, (∃ n49 : Nat, (∃ n50 : Nat, (((w34.cell? (Addr.add (Addr.add a44 ((x35).toNat * 7)) 3)) = (some (Value.slice o48 n49 n50))) ∧
(∃ x51 : Int, (((w34.cell? (Addr.add (Addr.add a44 ((x35).toNat * 7)) 4)) = (some (Value.int IntKind.i64 x51))) ∧
(∃ s52 : ByteArray, (((w34.cell? (Addr.add (Addr.add a44 ((x35).toNat * 7)) 5)) = (some (Value.string s52))) ∧
(∃ x53 : Int, (((w34.cell? (Addr.add (Addr.add a44 ((x35).toNat * 7)) 6)) = (some (Value.int IntKind.i64 x53))) ∧
(∀ w54 : World, ((w54 = (w34.alloc (Obj.cells #[(Value.int IntKind.u8 0), (Value.string (ByteArray.mk #[])), (Value.int IntKind.i64 0), (Value.slice none 0 0), (Value.int IntKind.i64 0), (Value.string (ByteArray.mk #[])), (Value.int IntKind.i64 0)] 70 (0, 0)))) →
((Nf.There w54 (⟨(hs w34), 0, none⟩ : Addr) 7) ∧
(∀ w56 : World, ((w56 = (Nf.setCells w54 (⟨(hs w34), 0, none⟩ : Addr) [(Value.int IntKind.u8 x45), (Value.string s46), (Value.int IntKind.i64 x47), (Value.slice o48 n49 n50), (Value.int IntKind.i64 x51), (Value.string s52), (Value.int IntKind.i64 x53)] 0)) →
(∃ x58 : Int, (((w56.cell? (⟨(hs w34), 0, none⟩ : Addr)) = (some (Value.int IntKind.u8 x58))) ∧
((((decide ((Int.tmod x58 4) = 2)) = true) →
(∃ x60 : Int, (((w56.cell? (⟨(hs w34), 4, none⟩ : Addr)) = (some (Value.int IntKind.i64 x60))) ∧
((((decide (x60 = call)) = true) →
(k38 w56)) ∧
(((decide (x60 = call)) = false) →
(∃ x63 : Int, (((w56.cell? (⟨(hs w34), 0, none⟩ : Addr)) = (some (Value.int IntKind.u8 x63))) ∧
(∃ s64 : ByteArray, (((w56.cell? (⟨(hs w34), 1, none⟩ : Addr)) = (some (Value.string s64))) ∧
(∃ x65 : Int, (((w56.cell? (⟨(hs w34), 2, none⟩ : Addr)) = (some (Value.int IntKind.i64 x65))) ∧
(∃ o66 : Option Addr, (∃ n67 : Nat, (∃ n68 : Nat, (((w56.cell? (⟨(hs w34), 3, none⟩ : Addr)) = (some (Value.slice o66 n67 n68))) ∧
(∃ x69 : Int, (((w56.cell? (⟨(hs w34), 4, none⟩ : Addr)) = (some (Value.int IntKind.i64 x69))) ∧
(∃ s70 : ByteArray, (((w56.cell? (⟨(hs w34), 5, none⟩ : Addr)) = (some (Value.string s70))) ∧
(∃ x71 : Int, (((w56.cell? (⟨(hs w34), 6, none⟩ : Addr)) = (some (Value.int IntKind.i64 x71))) ∧
(Calls Try.prog 45 #[(Value.pointer o13), (Value.agg #[(Value.slice none 0 0), (Value.slice none 0 0)]), (Value.agg #[(Value.int IntKind.u8 x63), (Value.string s64), (Value.int IntKind.i64 x65), (Value.slice o66 n67 n68), (Value.int IntKind.i64 x69), (Value.string s70), (Value.int IntKind.i64 x71)])] w56 (fun (e72 : Ending) => (fun (w73 : World) => (∃ o74 : Option Addr, (∃ n75 : Nat, (∃ n76 : Nat, (∃ o77 : Option Addr, (∃ n78 : Nat, (∃ n79 : Nat, (∃ b80 : Bool, ((e72 = (Ending.returned (Value.tuple #[(Value.agg #[(Value.slice o74 n75 n76), (Value.slice o77 n78 n79)]), (Value.bool b80)]))) ∧
(Calls Try.prog 46 #[(Value.pointer o13), (Value.int IntKind.i64 call)] w73 (fun (e81 : Ending) => (fun (w82 : World) => (∃ s83 : ByteArray, (∃ x84 : Int, (∃ o85 : Option Addr, (∃ n86 : Nat, (∃ n87 : Nat, (∃ b88 : Bool, ((e81 = (Ending.returned (Value.tuple #[(Value.agg #[(Value.string s83), (Value.int IntKind.i64 x84), (Value.slice o85 n86 n87)]), (Value.bool b88)]))) ∧
(((b88 = true) →
(∀ w90 : World, ((w90 = (w82.alloc (Obj.cells #[(Value.string (ByteArray.mk #[])), (Value.int IntKind.i64 0), (Value.slice none 0 0)] 24 (0, 0)))) →
((Nf.There w90 (⟨(hs w82), 0, none⟩ : Addr) 3) ∧
(∀ w92 : World, ((w92 = (Nf.setCells w90 (⟨(hs w82), 0, none⟩ : Addr) [(Value.string s83), (Value.int IntKind.i64 x84), (Value.slice o85 n86 n87)] 0)) →
(∀ w94 : World, ((w94 = w92.drew) →
(∃ s96 : ByteArray, (((w94.cell? (⟨(hs w82), 0, none⟩ : Addr)) = (some (Value.string s96))) ∧
(∃ x97 : Int, (((w94.cell? (⟨(hs w82), 1, none⟩ : Addr)) = (some (Value.int IntKind.i64 x97))) ∧
(∃ o98 : Option Addr, (∃ n99 : Nat, (∃ n100 : Nat, (((w94.cell? (⟨(hs w82), 2, none⟩ : Addr)) = (some (Value.slice o98 n99 n100))) ∧
(Calls Try.prog 43 #[(Value.string (ByteArray.mk #[(109 : UInt8), (97 : UInt8), (105 : UInt8), (110 : UInt8)])), (Value.int IntKind.i64 1)] w94 (fun (e101 : Ending) => (fun (w102 : World) => (∃ s103 : ByteArray, (∃ x104 : Int, (∃ o105 : Option Addr, (∃ n106 : Nat, (∃ n107 : Nat, ((e101 = (Ending.returned (Value.agg #[(Value.string s103), (Value.int IntKind.i64 x104), (Value.slice o105 n106 n107)]))) ∧
((Nf.Kept w94 w102 (⟨(hs w82), 0, none⟩ : Addr) 3) ∧
(Calls Try.prog 38 #[(Value.agg #[(Value.string s96), (Value.int IntKind.i64 x97), (Value.slice o98 n99 n100)]), (Value.agg #[(Value.string s103), (Value.int IntKind.i64 x104), (Value.slice o105 n106 n107)])] w102 (fun (e108 : Ending) => (fun (w109 : World) => (∃ b110 : Bool, ((e108 = (Ending.returned (Value.bool b110))) ∧
(((b110 = true) →
(k38 w109)) ∧
((b110 = false) →
(R (Ending.returned (Value.bool false)) w109)))))))))))))))))))))))))))))))))) ∧
((b88 = false) →
(∀ w114 : World, ((w114 = (w82.alloc (Obj.cells #[(Value.string (ByteArray.mk #[])), (Value.int IntKind.i64 0), (Value.slice none 0 0)] 24 (0, 0)))) →
((Nf.There w114 (⟨(hs w82), 0, none⟩ : Addr) 3) ∧
(∀ w116 : World, ((w116 = (Nf.setCells w114 (⟨(hs w82), 0, none⟩ : Addr) [(Value.string s83), (Value.int IntKind.i64 x84), (Value.slice o85 n86 n87)] 0)) →
(∀ w118 : World, ((w118 = w116.drew) →
(R (Ending.returned (Value.bool false)) w118)))))))))))))))))))))))))))))))))))))))))))))))))))) ∧
(((decide ((Int.tmod x58 4) = 2)) = false) →
(∃ x121 : Int, (((w56.cell? (⟨(hs w34), 0, none⟩ : Addr)) = (some (Value.int IntKind.u8 x121))) ∧
(∃ s122 : ByteArray, (((w56.cell? (⟨(hs w34), 1, none⟩ : Addr)) = (some (Value.string s122))) ∧
(∃ x123 : Int, (((w56.cell? (⟨(hs w34), 2, none⟩ : Addr)) = (some (Value.int IntKind.i64 x123))) ∧
(∃ o124 : Option Addr, (∃ n125 : Nat, (∃ n126 : Nat, (((w56.cell? (⟨(hs w34), 3, none⟩ : Addr)) = (some (Value.slice o124 n125 n126))) ∧
(∃ x127 : Int, (((w56.cell? (⟨(hs w34), 4, none⟩ : Addr)) = (some (Value.int IntKind.i64 x127))) ∧
(∃ s128 : ByteArray, (((w56.cell? (⟨(hs w34), 5, none⟩ : Addr)) = (some (Value.string s128))) ∧
(∃ x129 : Int, (((w56.cell? (⟨(hs w34), 6, none⟩ : Addr)) = (some (Value.int IntKind.i64 x129))) ∧
(Calls Try.prog 45 #[(Value.pointer o13), (Value.agg #[(Value.slice none 0 0), (Value.slice none 0 0)]), (Value.agg #[(Value.int IntKind.u8 x121), (Value.string s122), (Value.int IntKind.i64 x123), (Value.slice o124 n125 n126), (Value.int IntKind.i64 x127), (Value.string s128), (Value.int IntKind.i64 x129)])] w56 (fun (e130 : Ending) => (fun (w131 : World) => (∃ o132 : Option Addr, (∃ n133 : Nat, (∃ n134 : Nat, (∃ o135 : Option Addr, (∃ n136 : Nat, (∃ n137 : Nat, (∃ b138 : Bool, ((e130 = (Ending.returned (Value.tuple #[(Value.agg #[(Value.slice o132 n133 n134), (Value.slice o135 n136 n137)]), (Value.bool b138)]))) ∧
(Calls Try.prog 46 #[(Value.pointer o13), (Value.int IntKind.i64 call)] w131 (fun (e139 : Ending) => (fun (w140 : World) => (∃ s141 : ByteArray, (∃ x142 : Int, (∃ o143 : Option Addr, (∃ n144 : Nat, (∃ n145 : Nat, (∃ b146 : Bool, ((e139 = (Ending.returned (Value.tuple #[(Value.agg #[(Value.string s141), (Value.int IntKind.i64 x142), (Value.slice o143 n144 n145)]), (Value.bool b146)]))) ∧
(((b146 = true) →
(∀ w148 : World, ((w148 = (w140.alloc (Obj.cells #[(Value.string (ByteArray.mk #[])), (Value.int IntKind.i64 0), (Value.slice none 0 0)] 24 (0, 0)))) →
((Nf.There w148 (⟨(hs w140), 0, none⟩ : Addr) 3) ∧
(∀ w150 : World, ((w150 = (Nf.setCells w148 (⟨(hs w140), 0, none⟩ : Addr) [(Value.string s141), (Value.int IntKind.i64 x142), (Value.slice o143 n144 n145)] 0)) →
(∀ w152 : World, ((w152 = w150.drew) →
(∃ s154 : ByteArray, (((w152.cell? (⟨(hs w140), 0, none⟩ : Addr)) = (some (Value.string s154))) ∧
(∃ x155 : Int, (((w152.cell? (⟨(hs w140), 1, none⟩ : Addr)) = (some (Value.int IntKind.i64 x155))) ∧
(∃ o156 : Option Addr, (∃ n157 : Nat, (∃ n158 : Nat, (((w152.cell? (⟨(hs w140), 2, none⟩ : Addr)) = (some (Value.slice o156 n157 n158))) ∧
(Calls Try.prog 43 #[(Value.string (ByteArray.mk #[(109 : UInt8), (97 : UInt8), (105 : UInt8), (110 : UInt8)])), (Value.int IntKind.i64 1)] w152 (fun (e159 : Ending) => (fun (w160 : World) => (∃ s161 : ByteArray, (∃ x162 : Int, (∃ o163 : Option Addr, (∃ n164 : Nat, (∃ n165 : Nat, ((e159 = (Ending.returned (Value.agg #[(Value.string s161), (Value.int IntKind.i64 x162), (Value.slice o163 n164 n165)]))) ∧
((Nf.Kept w152 w160 (⟨(hs w140), 0, none⟩ : Addr) 3) ∧
(Calls Try.prog 38 #[(Value.agg #[(Value.string s154), (Value.int IntKind.i64 x155), (Value.slice o156 n157 n158)]), (Value.agg #[(Value.string s161), (Value.int IntKind.i64 x162), (Value.slice o163 n164 n165)])] w160 (fun (e166 : Ending) => (fun (w167 : World) => (∃ b168 : Bool, ((e166 = (Ending.returned (Value.bool b168))) ∧
(((b168 = true) →
(k38 w167)) ∧
((b168 = false) →
(R (Ending.returned (Value.bool false)) w167)))))))))))))))))))))))))))))))))) ∧
((b146 = false) →
(∀ w172 : World, ((w172 = (w140.alloc (Obj.cells #[(Value.string (ByteArray.mk #[])), (Value.int IntKind.i64 0), (Value.slice none 0 0)] 24 (0, 0)))) →
((Nf.There w172 (⟨(hs w140), 0, none⟩ : Addr) 3) ∧
(∀ w174 : World, ((w174 = (Nf.setCells w172 (⟨(hs w140), 0, none⟩ : Addr) [(Value.string s141), (Value.int IntKind.i64 x142), (Value.slice o143 n144 n145)] 0)) →
(∀ w176 : World, ((w176 = w174.drew) →
(R (Ending.returned (Value.bool false)) w176)))))))))))))))))))))))))))))))))))))))))))))))))))))))))))))))))))))))))))))) ∧
(((decide (x35 < ((l_n : Nat) : Int))) = false) →
(Calls Try.prog 47 #[(Value.pointer o13), (Value.int IntKind.i64 call)] w34 (fun (e179 : Ending) => (fun (w180 : World) => (∃ b181 : Bool, ((e179 = (Ending.returned (Value.bool b181))) ∧
(((b181 = true) →
(Calls Try.prog 47 #[(Value.pointer o13), (Value.int IntKind.i64 call)] w180 (fun (e183 : Ending) => (fun (w184 : World) => (∃ b185 : Bool, ((e183 = (Ending.returned (Value.bool b185))) ∧
(R (Ending.returned (Value.bool (!b185))) w184))))))) ∧
((b181 = false) →
(R (Ending.returned (Value.bool false)) w180))))))))))))))))))))))))))))))))))))))))))))))) ∧
((b7 = false) →
(R (Ending.returned (Value.bool true)) w6))))))))) ∧
((b3 = false) →
(R (Ending.returned (Value.bool false)) w2))))))))) :
    Calls Try.prog 9 #[(.slice l l_n l_c), (.int .i64 call)] w R :=
  calls_of_vc an9n Try.func9 rfl (by kernel_rfl) (by kernel_rfl) (Eq.mp (by kernel_rfl) h)

/-- samaritan/samaritanlaw15.ProtocolstoreNoAliasing -/
def an10n : An := (.seq (.reg []) (.seq (.seq (.reg [(0, 0, true)]) (.cond (.seq (.reg []) .nil) .nil)) (.seq (.reg []) (.seq (.seq (.reg [(1, 0, true), (7, 0, true)]) (.cond (.seq (.reg []) .nil) .nil)) (.seq (.reg []) (.seq (.reg [(3, 1, false)]) (.seq (.regD [(8, 1, false)] [0, 1, 3, 4, 5, 6, 7, 2, 8, 9, 10, 11] [2, 8, 11]) (.seq (.seq (.reg [(3, 0, true)]) (.cond (.seq (.reg []) .nil) .nil)) (.seq (.reg []) (.seq (.reg []) (.seq (.reg []) (.seq (.seq (.reg [(2, 0, true)]) (.cond (.seq (.reg []) .nil) .nil)) (.seq (.reg []) (.seq (.reg []) (.seq (.reg [(6, 0, true)]) (.seq (.reg []) .nil))))))))))))))))
set_option maxRecDepth 100000 in
theorem nf10n (t_Name : ByteArray) (t_Version : Int) (t_Questions : Option Addr) (t_Questions_n : Nat) (t_Questions_c : Nat) (w : World) (R : Ending → World → Prop) (h :
(∀ w1 : World, ((w1 = (w.alloc (Obj.cells #[(Value.string t_Name), (Value.int IntKind.i64 t_Version), (Value.slice t_Questions t_Questions_n t_Questions_c)] 24 (0, 0)))) →
(Calls Try.prog 39 #[] w1 (fun (e3 : Ending) => (fun (w4 : World) => (∃ b5 : Bool, ((e3 = (Ending.returned (Value.bool b5))) ∧
(((b5 = true) →
(Calls Try.prog 41 #[] w4 (fun (e7 : Ending) => (fun (w8 : World) => (∃ o9 : Option Addr, ((e7 = (Ending.returned (Value.pointer o9))) ∧
(∃ s10 : ByteArray, (((w8.cell? (⟨(hs w), 0, none⟩ : Addr)) = (some (Value.string s10))) ∧
(∃ x11 : Int, (((w8.cell? (⟨(hs w), 1, none⟩ : Addr)) = (some (Value.int IntKind.i64 x11))) ∧
(∃ o12 : Option Addr, (∃ n13 : Nat, (∃ n14 : Nat, (((w8.cell? (⟨(hs w), 2, none⟩ : Addr)) = (some (Value.slice o12 n13 n14))) ∧
(Calls Try.prog 48 #[(Value.agg #[(Value.string s10), (Value.int IntKind.i64 x11), (Value.slice o12 n13 n14)])] w8 (fun (e15 : Ending) => (fun (w16 : World) => (∃ b17 : Bool, ((e15 = (Ending.returned (Value.bool b17))) ∧
(((b17 = true) →
(∃ o19 : Option Addr, (∃ n20 : Nat, (∃ n21 : Nat, (((w16.cell? (⟨(hs w), 2, none⟩ : Addr)) = (some (Value.slice o19 n20 n21))) ∧
((((decide (((n20 : Nat) : Int) = 0)) = true) →
(R (Ending.returned (Value.bool true)) w16)) ∧
(((decide (((n20 : Nat) : Int) = 0)) = false) →
(∃ s24 : ByteArray, (((w16.cell? (⟨(hs w), 0, none⟩ : Addr)) = (some (Value.string s24))) ∧
(∃ x25 : Int, (((w16.cell? (⟨(hs w), 1, none⟩ : Addr)) = (some (Value.int IntKind.i64 x25))) ∧
(∃ o26 : Option Addr, (∃ n27 : Nat, (∃ n28 : Nat, (((w16.cell? (⟨(hs w), 2, none⟩ : Addr)) = (some (Value.slice o26 n27 n28))) ∧
(∀ w29 : World, ((w29 = (w16.alloc (Obj.cells #[(Value.string (ByteArray.mk #[])), (Value.int IntKind.i64 0), (Value.slice none 0 0)] 24 (0, 0)))) →
((Nf.There w29 (⟨(hs w16), 0, none⟩ : Addr) 3) ∧
(∀ w31 : World, ((w31 = (Nf.setCells w29 (⟨(hs w16), 0, none⟩ : Addr) [(Value.string s24), (Value.int IntKind.i64 x25), (Value.slice o26 n27 n28)] 0)) →
(∀ w33 : World, ((w33 = (w31.alloc (Obj.cells #[] 38 (0, 0)))) →
(∃ o35 : Option Addr, (∃ n36 : Nat, (∃ n37 : Nat, (((w33.cell? (⟨(hs w), 2, none⟩ : Addr)) = (some (Value.slice o35 n36 n37))) ∧
(RunOk Try.prog (Nf.Hold (Builtin.append_ #[22, 22] 22 #[(Value.slice (some (⟨(hs w31), 0, none⟩ : Addr)) 0 0), (Value.slice o35 n36 n37)])) w33 (fun (v38 : Value) => (fun (w39 : World) => (∃ o40 : Option Addr, (∃ n41 : Nat, (∃ n42 : Nat, ((v38 = (Value.slice o40 n41 n42)) ∧
((Nf.There w39 (⟨(hs w16), 2, none⟩ : Addr) 1) ∧
(∀ w43 : World, ((w43 = (Nf.setCells w39 (⟨(hs w16), 2, none⟩ : Addr) [(Value.slice o40 n41 n42)] 0)) →
(∀ w45 : World, ((w45 = w43.drew) →
(∃ o47 : Option Addr, (∃ n48 : Nat, (∃ n49 : Nat, (((w45.cell? (⟨(hs w16), 2, none⟩ : Addr)) = (some (Value.slice o47 n48 n49))) ∧
(∃ o50 : Option Addr, (∃ n51 : Nat, (∃ n52 : Nat, (((w45.cell? (⟨(hs w), 2, none⟩ : Addr)) = (some (Value.slice o50 n51 n52))) ∧
(∃ a53 : Addr, ((o50 = (some a53)) ∧
((((0 : Int) ≤ 0) ∧
(0 < ((n51 : Nat) : Int))) ∧
(∃ o54 : Option Addr, (∃ n55 : Nat, (∃ n56 : Nat, (((w45.cell? (Addr.add a53 1)) = (some (Value.slice o54 n55 n56))) ∧
(∀ w57 : World, ((w57 = (w45.alloc (Obj.cells #[] 58 (0, 0)))) →
((Nf.Kept w45 w57 (Addr.add a53 1) 1) ∧
((Nf.Kept w45 w57 (⟨(hs w), 2, none⟩ : Addr) 1) ∧
((Nf.Kept w45 w57 (⟨(hs w16), 2, none⟩ : Addr) 1) ∧
(RunOk Try.prog (Nf.Hold (Builtin.append_ #[36, 36] 36 #[(Value.slice (some (⟨(hs w45), 0, none⟩ : Addr)) 0 0), (Value.slice o54 n55 n56)])) w57 (fun (v59 : Value) => (fun (w60 : World) => (∃ o61 : Option Addr, (∃ n62 : Nat, (∃ n63 : Nat, ((v59 = (Value.slice o61 n62 n63)) ∧
((Nf.Kept w45 w60 (⟨(hs w16), 2, none⟩ : Addr) 1) ∧
(∃ a64 : Addr, ((o47 = (some a64)) ∧
((((0 : Int) ≤ 0) ∧
(0 < ((n48 : Nat) : Int))) ∧
((Nf.There w60 (Addr.add a64 1) 1) ∧
(∀ w65 : World, ((w65 = (Nf.setCells w60 (Addr.add a64 1) [(Value.slice o61 n62 n63)] 0)) →
(∃ s67 : ByteArray, (((w65.cell? (⟨(hs w16), 0, none⟩ : Addr)) = (some (Value.string s67))) ∧
(∃ x68 : Int, (((w65.cell? (⟨(hs w16), 1, none⟩ : Addr)) = (some (Value.int IntKind.i64 x68))) ∧
(∃ o69 : Option Addr, (∃ n70 : Nat, (∃ n71 : Nat, (((w65.cell? (⟨(hs w16), 2, none⟩ : Addr)) = (some (Value.slice o69 n70 n71))) ∧
(Calls Try.prog 42 #[(Value.pointer o9), (Value.agg #[(Value.string s67), (Value.int IntKind.i64 x68), (Value.slice o69 n70 n71)])] w65 (fun (e72 : Ending) => (fun (w73 : World) => (∃ x74 : Int, ((e72 = (Ending.returned (Value.int IntKind.i64 x74))) ∧
((((!(decide (x74 = 0))) = true) →
(R (Ending.returned (Value.bool true)) w73)) ∧
(((!(decide (x74 = 0))) = false) →
(∃ o77 : Option Addr, (∃ n78 : Nat, (∃ n79 : Nat, (((w73.cell? (⟨(hs w16), 2, none⟩ : Addr)) = (some (Value.slice o77 n78 n79))) ∧
(∃ a80 : Addr, ((o77 = (some a80)) ∧
((((0 : Int) ≤ 0) ∧
(0 < ((n78 : Nat) : Int))) ∧
((Nf.There w73 a80 1) ∧
(∀ w81 : World, ((w81 = (Nf.setCells w73 a80 [(Value.string (ByteArray.mk #[(115 : UInt8), (112 : UInt8), (111 : UInt8), (105 : UInt8), (108 : UInt8), (116 : UInt8)]))] 0)) →
(∃ o83 : Option Addr, (∃ n84 : Nat, (∃ n85 : Nat, (((w81.cell? (⟨(hs w16), 2, none⟩ : Addr)) = (some (Value.slice o83 n84 n85))) ∧
(∃ a86 : Addr, ((o83 = (some a86)) ∧
((((0 : Int) ≤ 0) ∧
(0 < ((n84 : Nat) : Int))) ∧
(∃ o87 : Option Addr, (∃ n88 : Nat, (∃ n89 : Nat, (((w81.cell? (Addr.add a86 1)) = (some (Value.slice o87 n88 n89))) ∧
(∃ a90 : Addr, ((o87 = (some a90)) ∧
((((0 : Int) ≤ 0) ∧
(0 < ((n88 : Nat) : Int))) ∧
((Nf.There w81 a90 1) ∧
(∀ w91 : World, ((w91 = (Nf.setCells w81 a90 [(Value.string (ByteArray.mk #[(115 : UInt8), (112 : UInt8), (111 : UInt8), (105 : UInt8), (108 : UInt8), (116 : UInt8)]))] 0)) →
(∃ s93 : ByteArray, (((w91.cell? (⟨(hs w), 0, none⟩ : Addr)) = (some (Value.string s93))) ∧
(∃ x94 : Int, (((w91.cell? (⟨(hs w), 1, none⟩ : Addr)) = (some (Value.int IntKind.i64 x94))) ∧
(Calls Try.prog 49 #[(Value.pointer o9), (Value.string s93), (Value.int IntKind.i64 x94)] w91 (fun (e95 : Ending) => (fun (w96 : World) => (∃ s97 : ByteArray, (∃ x98 : Int, (∃ o99 : Option Addr, (∃ n100 : Nat, (∃ n101 : Nat, (∃ b102 : Bool, ((e95 = (Ending.returned (Value.tuple #[(Value.agg #[(Value.string s97), (Value.int IntKind.i64 x98), (Value.slice o99 n100 n101)]), (Value.bool b102)]))) ∧
(∀ w103 : World, ((w103 = (w96.alloc (Obj.cells #[(Value.string (ByteArray.mk #[])), (Value.int IntKind.i64 0), (Value.slice none 0 0)] 24 (0, 0)))) →
((Nf.There w103 (⟨(hs w96), 0, none⟩ : Addr) 3) ∧
(∀ w105 : World, ((w105 = (Nf.setCells w103 (⟨(hs w96), 0, none⟩ : Addr) [(Value.string s97), (Value.int IntKind.i64 x98), (Value.slice o99 n100 n101)] 0)) →
(∃ s107 : ByteArray, (((w105.cell? (⟨(hs w96), 0, none⟩ : Addr)) = (some (Value.string s107))) ∧
(∃ x108 : Int, (((w105.cell? (⟨(hs w96), 1, none⟩ : Addr)) = (some (Value.int IntKind.i64 x108))) ∧
(∃ o109 : Option Addr, (∃ n110 : Nat, (∃ n111 : Nat, (((w105.cell? (⟨(hs w96), 2, none⟩ : Addr)) = (some (Value.slice o109 n110 n111))) ∧
(∃ s112 : ByteArray, (((w105.cell? (⟨(hs w), 0, none⟩ : Addr)) = (some (Value.string s112))) ∧
(∃ x113 : Int, (((w105.cell? (⟨(hs w), 1, none⟩ : Addr)) = (some (Value.int IntKind.i64 x113))) ∧
(∃ o114 : Option Addr, (∃ n115 : Nat, (∃ n116 : Nat, (((w105.cell? (⟨(hs w), 2, none⟩ : Addr)) = (some (Value.slice o114 n115 n116))) ∧
(Calls Try.prog 38 #[(Value.agg #[(Value.string s107), (Value.int IntKind.i64 x108), (Value.slice o109 n110 n111)]), (Value.agg #[(Value.string s112), (Value.int IntKind.i64 x113), (Value.slice o114 n115 n116)])] w105 (fun (e117 : Ending) => (fun (w118 : World) => (∃ b119 : Bool, ((e117 = (Ending.returned (Value.bool b119))) ∧
(((b119 = true) →
(∃ o121 : Option Addr, (∃ n122 : Nat, (∃ n123 : Nat, (((w118.cell? (⟨(hs w96), 2, none⟩ : Addr)) = (some (Value.slice o121 n122 n123))) ∧
(∃ a124 : Addr, ((o121 = (some a124)) ∧
((((0 : Int) ≤ 0) ∧
(0 < ((n122 : Nat) : Int))) ∧
(∃ o125 : Option Addr, (∃ n126 : Nat, (∃ n127 : Nat, (((w118.cell? (Addr.add a124 1)) = (some (Value.slice o125 n126 n127))) ∧
(∃ a128 : Addr, ((o125 = (some a128)) ∧
((((0 : Int) ≤ 0) ∧
(0 < ((n126 : Nat) : Int))) ∧
((Nf.There w118 (Addr.add a128 3) 1) ∧
(∀ w129 : World, ((w129 = (Nf.setCells w118 (Addr.add a128 3) [(Value.string (ByteArray.mk #[(115 : UInt8), (112 : UInt8), (111 : UInt8), (105 : UInt8), (108 : UInt8), (116 : UInt8)]))] 0)) →
(∃ o131 : Option Addr, (∃ n132 : Nat, (∃ n133 : Nat, (((w129.cell? (⟨(hs w96), 2, none⟩ : Addr)) = (some (Value.slice o131 n132 n133))) ∧
(∃ a134 : Addr, ((o131 = (some a134)) ∧
((((0 : Int) ≤ 0) ∧
(0 < ((n132 : Nat) : Int))) ∧
((Nf.There w129 a134 1) ∧
(∀ w135 : World, ((w135 = (Nf.setCells w129 a134 [(Value.string (ByteArray.mk #[(115 : UInt8), (112 : UInt8), (111 : UInt8), (105 : UInt8), (108 : UInt8), (116 : UInt8)]))] 0)) →
(∃ s137 : ByteArray, (((w135.cell? (⟨(hs w), 0, none⟩ : Addr)) = (some (Value.string s137))) ∧
(Calls Try.prog 50 #[(Value.pointer o9), (Value.string s137)] w135 (fun (e138 : Ending) => (fun (w139 : World) => (∃ s140 : ByteArray, (∃ x141 : Int, (∃ o142 : Option Addr, (∃ n143 : Nat, (∃ n144 : Nat, (∃ b145 : Bool, ((e138 = (Ending.returned (Value.tuple #[(Value.agg #[(Value.string s140), (Value.int IntKind.i64 x141), (Value.slice o142 n143 n144)]), (Value.bool b145)]))) ∧
(((b145 = true) →
(∀ w147 : World, ((w147 = (w139.alloc (Obj.cells #[(Value.string (ByteArray.mk #[])), (Value.int IntKind.i64 0), (Value.slice none 0 0)] 24 (0, 0)))) →
((Nf.There w147 (⟨(hs w139), 0, none⟩ : Addr) 3) ∧
(∀ w149 : World, ((w149 = (Nf.setCells w147 (⟨(hs w139), 0, none⟩ : Addr) [(Value.string s140), (Value.int IntKind.i64 x141), (Value.slice o142 n143 n144)] 0)) →
(∃ s151 : ByteArray, (((w149.cell? (⟨(hs w139), 0, none⟩ : Addr)) = (some (Value.string s151))) ∧
(∃ x152 : Int, (((w149.cell? (⟨(hs w139), 1, none⟩ : Addr)) = (some (Value.int IntKind.i64 x152))) ∧
(∃ o153 : Option Addr, (∃ n154 : Nat, (∃ n155 : Nat, (((w149.cell? (⟨(hs w139), 2, none⟩ : Addr)) = (some (Value.slice o153 n154 n155))) ∧
(∃ s156 : ByteArray, (((w149.cell? (⟨(hs w), 0, none⟩ : Addr)) = (some (Value.string s156))) ∧
(∃ x157 : Int, (((w149.cell? (⟨(hs w), 1, none⟩ : Addr)) = (some (Value.int IntKind.i64 x157))) ∧
(∃ o158 : Option Addr, (∃ n159 : Nat, (∃ n160 : Nat, (((w149.cell? (⟨(hs w), 2, none⟩ : Addr)) = (some (Value.slice o158 n159 n160))) ∧
(Calls Try.prog 38 #[(Value.agg #[(Value.string s151), (Value.int IntKind.i64 x152), (Value.slice o153 n154 n155)]), (Value.agg #[(Value.string s156), (Value.int IntKind.i64 x157), (Value.slice o158 n159 n160)])] w149 (fun (e161 : Ending) => (fun (w162 : World) => (∃ b163 : Bool, ((e161 = (Ending.returned (Value.bool b163))) ∧
(R (Ending.returned (Value.bool b163)) w162)))))))))))))))))))))))))))) ∧
((b145 = false) →
(∀ w165 : World, ((w165 = (w139.alloc (Obj.cells #[(Value.string (ByteArray.mk #[])), (Value.int IntKind.i64 0), (Value.slice none 0 0)] 24 (0, 0)))) →
((Nf.There w165 (⟨(hs w139), 0, none⟩ : Addr) 3) ∧
(∀ w167 : World, ((w167 = (Nf.setCells w165 (⟨(hs w139), 0, none⟩ : Addr) [(Value.string s140), (Value.int IntKind.i64 x141), (Value.slice o142 n143 n144)] 0)) →
(R (Ending.returned (Value.bool false)) w167)))))))))))))))))))))))))))))))))))))))))))))))) ∧
((b119 = false) →
(R (Ending.returned (Value.bool false)) w118))))))))))))))))))))))))))))))))))))))))))))))))))))))))))))))))))))))))))))))))))))))))))))))))))))))))))))))))))))))))))))))))))))))))))))))))))))))))))))) ∧
((b17 = false) →
(R (Ending.returned (Value.bool true)) w16)))))))))))))))))))))) ∧
((b5 = false) →
(R (Ending.returned (Value.bool false)) w4))))))))))) :
    Calls Try.prog 10 #[(.agg #[(.string t_Name), (.int .i64 t_Version), (.slice t_Questions t_Questions_n t_Questions_c)])] w R :=
  calls_of_vc an10n Try.func10 rfl (by kernel_rfl) (by kernel_rfl) (Eq.mp (by kernel_rfl) h)

/-- samaritan/samaritanlaw15.ProtocolstorePutValidation -/
def an11n : An := (.seq (.reg []) (.seq (.seq (.reg [(0, 0, true)]) (.cond (.seq (.reg []) .nil) .nil)) (.seq (.seq (.reg [(1, 0, true)]) (.cond (.seq (.reg []) .nil) .nil)) (.seq (.reg []) (.seq (.reg []) (.seq (.reg []) (.cut [(6, .int .i64)] (.seq (.reg [(1, 0, true)]) (.cond (.reg []) .nil)) (.seq (.reg [(8, 0, true)]) (.seq (.reg [(6, 0, true)]) (.seq (.seq (.reg [(1, 0, true)]) (.cond (.seq (.reg [(2, 0, true), (15, 0, true)]) .nil) .nil)) (.seq (.reg [(1, 0, true), (11, 0, true), (16, 0, true), (22, 0, true)]) .nil)))))))))))
set_option maxRecDepth 100000 in
theorem nf11n (t_Name : ByteArray) (t_Version : Int) (t_Questions : Option Addr) (t_Questions_n : Nat) (t_Questions_c : Nat) (w : World) (R : Ending → World → Prop) (h :
(∀ w1 : World, ((w1 = (w.alloc (Obj.cells #[(Value.string t_Name), (Value.int IntKind.i64 t_Version), (Value.slice t_Questions t_Questions_n t_Questions_c)] 24 (0, 0)))) →
(Calls Try.prog 39 #[] w1 (fun (e3 : Ending) => (fun (w4 : World) => (∃ b5 : Bool, ((e3 = (Ending.returned (Value.bool b5))) ∧
(((b5 = true) →
(∃ s7 : ByteArray, (((w4.cell? (⟨(hs w), 0, none⟩ : Addr)) = (some (Value.string s7))) ∧
(∃ x8 : Int, (((w4.cell? (⟨(hs w), 1, none⟩ : Addr)) = (some (Value.int IntKind.i64 x8))) ∧
(∃ o9 : Option Addr, (∃ n10 : Nat, (∃ n11 : Nat, (((w4.cell? (⟨(hs w), 2, none⟩ : Addr)) = (some (Value.slice o9 n10 n11))) ∧
(Calls Try.prog 48 #[(Value.agg #[(Value.string s7), (Value.int IntKind.i64 x8), (Value.slice o9 n10 n11)])] w4 (fun (e12 : Ending) => (fun (w13 : World) => (∃ b14 : Bool, ((e12 = (Ending.returned (Value.bool b14))) ∧
(((b14 = true) →
(Calls Try.prog 41 #[] w13 (fun (e16 : Ending) => (fun (w17 : World) => (∃ o18 : Option Addr, ((e16 = (Ending.returned (Value.pointer o18))) ∧
(∃ s19 : ByteArray, (((w17.cell? (⟨(hs w), 0, none⟩ : Addr)) = (some (Value.string s19))) ∧
(∃ x20 : Int, (((w17.cell? (⟨(hs w), 1, none⟩ : Addr)) = (some (Value.int IntKind.i64 x20))) ∧
(∃ o21 : Option Addr, (∃ n22 : Nat, (∃ n23 : Nat, (((w17.cell? (⟨(hs w), 2, none⟩ : Addr)) = (some (Value.slice o21 n22 n23))) ∧
(Calls Try.prog 42 #[(Value.pointer o18), (Value.agg #[(Value.string s19), (Value.int IntKind.i64 x20), (Value.slice o21 n22 n23)])] w17 (fun (e24 : Ending) => (fun (w25 : World) => (∃ x26 : Int, ((e24 = (Ending.returned (Value.int IntKind.i64 x26))) ∧
(∃ s27 : ByteArray, (((w25.cell? (⟨(hs w), 0, none⟩ : Addr)) = (some (Value.string s27))) ∧
(∃ x28 : Int, (((w25.cell? (⟨(hs w), 1, none⟩ : Addr)) = (some (Value.int IntKind.i64 x28))) ∧
(∃ o29 : Option Addr, (∃ n30 : Nat, (∃ n31 : Nat, (((w25.cell? (⟨(hs w), 2, none⟩ : Addr)) = (some (Value.slice o29 n30 n31))) ∧
(Calls Try.prog 51 #[(Value.agg #[(Value.string s27), (Value.int IntKind.i64 x28), (Value.slice o29 n30 n31)])] w25 (fun (e32 : Ending) => (fun (w33 : World) => (∃ x34 : Int, (∃ x35 : Int, ((e32 = (Ending.returned (Value.tuple #[(Value.int IntKind.i64 x34), (Value.int IntKind.i64 x35)]))) ∧
(∀ k36 : (Int → (World → Prop)), ((∀ w38 : World, (∀ x39 : Int, (((Nat → Value) →
(∃ s42 : ByteArray, (((w38.cell? (⟨(hs w), 0, none⟩ : Addr)) = (some (Value.string s42))) ∧
(∃ x43 : Int, (((w38.cell? (⟨(hs w), 1, none⟩ : Addr)) = (some (Value.int IntKind.i64 x43))) ∧
(Calls Try.prog 49 #[(Value.pointer o18), (Value.string s42), (Value.int IntKind.i64 x43)] w38 (fun (e44 : Ending) => (fun (w45 : World) => (∃ s46 : ByteArray, (∃ x47 : Int, (∃ o48 : Option Addr, (∃ n49 : Nat, (∃ n50 : Nat, (∃ b51 : Bool, ((e44 = (Ending.returned (Value.tuple #[(Value.agg #[(Value.string s46), (Value.int IntKind.i64 x47), (Value.slice o48 n49 n50)]), (Value.bool b51)]))) ∧
(((b51 = true) →
(∀ w53 : World, ((w53 = (w45.alloc (Obj.cells #[(Value.string (ByteArray.mk #[])), (Value.int IntKind.i64 0), (Value.slice none 0 0)] 24 (0, 0)))) →
((Nf.There w53 (⟨(hs w45), 0, none⟩ : Addr) 3) ∧
(∀ w55 : World, ((w55 = (Nf.setCells w53 (⟨(hs w45), 0, none⟩ : Addr) [(Value.string s46), (Value.int IntKind.i64 x47), (Value.slice o48 n49 n50)] 0)) →
(∃ s57 : ByteArray, (((w55.cell? (⟨(hs w), 0, none⟩ : Addr)) = (some (Value.string s57))) ∧
(Calls Try.prog 50 #[(Value.pointer o18), (Value.string s57)] w55 (fun (e58 : Ending) => (fun (w59 : World) => (∃ s60 : ByteArray, (∃ x61 : Int, (∃ o62 : Option Addr, (∃ n63 : Nat, (∃ n64 : Nat, (∃ b65 : Bool, ((e58 = (Ending.returned (Value.tuple #[(Value.agg #[(Value.string s60), (Value.int IntKind.i64 x61), (Value.slice o62 n63 n64)]), (Value.bool b65)]))) ∧
(((b65 = true) →
(∀ w67 : World, ((w67 = (w59.alloc (Obj.cells #[(Value.string (ByteArray.mk #[])), (Value.int IntKind.i64 0), (Value.slice none 0 0)] 24 (0, 0)))) →
((Nf.There w67 (⟨(hs w59), 0, none⟩ : Addr) 3) ∧
(∀ w69 : World, ((w69 = (Nf.setCells w67 (⟨(hs w59), 0, none⟩ : Addr) [(Value.string s60), (Value.int IntKind.i64 x61), (Value.slice o62 n63 n64)] 0)) →
((((!(decide (x39 = 0))) = true) →
((((decide (x26 = x39)) = true) →
(R (Ending.returned (Value.bool false)) w69)) ∧
(((decide (x26 = x39)) = false) →
(R (Ending.returned (Value.bool false)) w69)))) ∧
(((!(decide (x39 = 0))) = false) →
((((decide (x26 = 0)) = true) →
(∃ s76 : ByteArray, (((w69.cell? (⟨(hs w45), 0, none⟩ : Addr)) = (some (Value.string s76))) ∧
(∃ x77 : Int, (((w69.cell? (⟨(hs w45), 1, none⟩ : Addr)) = (some (Value.int IntKind.i64 x77))) ∧
(∃ o78 : Option Addr, (∃ n79 : Nat, (∃ n80 : Nat, (((w69.cell? (⟨(hs w45), 2, none⟩ : Addr)) = (some (Value.slice o78 n79 n80))) ∧
(∃ s81 : ByteArray, (((w69.cell? (⟨(hs w), 0, none⟩ : Addr)) = (some (Value.string s81))) ∧
(∃ x82 : Int, (((w69.cell? (⟨(hs w), 1, none⟩ : Addr)) = (some (Value.int IntKind.i64 x82))) ∧
(∃ o83 : Option Addr, (∃ n84 : Nat, (∃ n85 : Nat, (((w69.cell? (⟨(hs w), 2, none⟩ : Addr)) = (some (Value.slice o83 n84 n85))) ∧
(Calls Try.prog 38 #[(Value.agg #[(Value.string s76), (Value.int IntKind.i64 x77), (Value.slice o78 n79 n80)]), (Value.agg #[(Value.string s81), (Value.int IntKind.i64 x82), (Value.slice o83 n84 n85)])] w69 (fun (e86 : Ending) => (fun (w87 : World) => (∃ b88 : Bool, ((e86 = (Ending.returned (Value.bool b88))) ∧
(((b88 = true) →
(∃ s90 : ByteArray, (((w87.cell? (⟨(hs w59), 0, none⟩ : Addr)) = (some (Value.string s90))) ∧
(∃ x91 : Int, (((w87.cell? (⟨(hs w59), 1, none⟩ : Addr)) = (some (Value.int IntKind.i64 x91))) ∧
(∃ o92 : Option Addr, (∃ n93 : Nat, (∃ n94 : Nat, (((w87.cell? (⟨(hs w59), 2, none⟩ : Addr)) = (some (Value.slice o92 n93 n94))) ∧
(∃ s95 : ByteArray, (((w87.cell? (⟨(hs w), 0, none⟩ : Addr)) = (some (Value.string s95))) ∧
(∃ x96 : Int, (((w87.cell? (⟨(hs w), 1, none⟩ : Addr)) = (some (Value.int IntKind.i64 x96))) ∧
(∃ o97 : Option Addr, (∃ n98 : Nat, (∃ n99 : Nat, (((w87.cell? (⟨(hs w), 2, none⟩ : Addr)) = (some (Value.slice o97 n98 n99))) ∧
(Calls Try.prog 38 #[(Value.agg #[(Value.string s90), (Value.int IntKind.i64 x91), (Value.slice o92 n93 n94)]), (Value.agg #[(Value.string s95), (Value.int IntKind.i64 x96), (Value.slice o97 n98 n99)])] w87 (fun (e100 : Ending) => (fun (w101 : World) => (∃ b102 : Bool, ((e100 = (Ending.returned (Value.bool b102))) ∧
(((b102 = true) →
(∃ s104 : ByteArray, (((w101.cell? (⟨(hs w), 0, none⟩ : Addr)) = (some (Value.string s104))) ∧
(∃ x105 : Int, (((w101.cell? (⟨(hs w), 1, none⟩ : Addr)) = (some (Value.int IntKind.i64 x105))) ∧
(∃ o106 : Option Addr, (∃ n107 : Nat, (∃ n108 : Nat, (((w101.cell? (⟨(hs w), 2, none⟩ : Addr)) = (some (Value.slice o106 n107 n108))) ∧
(Calls Try.prog 42 #[(Value.pointer o18), (Value.agg #[(Value.string s104), (Value.int IntKind.i64 x105), (Value.slice o106 n107 n108)])] w101 (fun (e109 : Ending) => (fun (w110 : World) => (∃ x111 : Int, ((e109 = (Ending.returned (Value.int IntKind.i64 x111))) ∧
((((decide (x111 = 5)) = true) →
(R (Ending.returned (Value.bool true)) w110)) ∧
(((decide (x111 = 5)) = false) →
(R (Ending.returned (Value.bool false)) w110))))))))))))))))) ∧
((b102 = false) →
(R (Ending.returned (Value.bool false)) w101))))))))))))))))))))))))) ∧
((b88 = false) →
(R (Ending.returned (Value.bool false)) w87))))))))))))))))))))))))) ∧
(((decide (x26 = 0)) = false) →
(R (Ending.returned (Value.bool false)) w69))))))))))) ∧
((b65 = false) →
(∀ w118 : World, ((w118 = (w59.alloc (Obj.cells #[(Value.string (ByteArray.mk #[])), (Value.int IntKind.i64 0), (Value.slice none 0 0)] 24 (0, 0)))) →
((Nf.There w118 (⟨(hs w59), 0, none⟩ : Addr) 3) ∧
(∀ w120 : World, ((w120 = (Nf.setCells w118 (⟨(hs w59), 0, none⟩ : Addr) [(Value.string s60), (Value.int IntKind.i64 x61), (Value.slice o62 n63 n64)] 0)) →
((((!(decide (x39 = 0))) = true) →
((((decide (x26 = x39)) = true) →
(R (Ending.returned (Value.bool false)) w120)) ∧
(((decide (x26 = x39)) = false) →
(R (Ending.returned (Value.bool false)) w120)))) ∧
(((!(decide (x39 = 0))) = false) →
((((decide (x26 = 0)) = true) →
(R (Ending.returned (Value.bool false)) w120)) ∧
(((decide (x26 = 0)) = false) →
(R (Ending.returned (Value.bool false)) w120)))))))))))))))))))))))))))))) ∧
((b51 = false) →
(∀ w129 : World, ((w129 = (w45.alloc (Obj.cells #[(Value.string (ByteArray.mk #[])), (Value.int IntKind.i64 0), (Value.slice none 0 0)] 24 (0, 0)))) →
((Nf.There w129 (⟨(hs w45), 0, none⟩ : Addr) 3) ∧
(∀ w131 : World, ((w131 = (Nf.setCells w129 (⟨(hs w45), 0, none⟩ : Addr) [(Value.string s46), (Value.int IntKind.i64 x47), (Value.slice o48 n49 n50)] 0)) →
(∃ s133 : ByteArray, (((w131.cell? (⟨(hs w), 0, none⟩ : Addr)) = (some (Value.string s133))) ∧
(Calls Try.prog 50 #[(Value.pointer o18), (Value.string s133)] w131 (fun (e134 : Ending) => (fun (w135 : World) => (∃ s136 : ByteArray, (∃ x137 : Int, (∃ o138 : Option Addr, (∃ n139 : Nat, (∃ n140 : Nat, (∃ b141 : Bool, ((e134 = (Ending.returned (Value.tuple #[(Value.agg #[(Value.string s136), (Value.int IntKind.i64 x137), (Value.slice o138 n139 n140)]), (Value.bool b141)]))) ∧
(((b141 = true) →
(∀ w143 : World, ((w143 = (w135.alloc (Obj.cells #[(Value.string (ByteArray.mk #[])), (Value.int IntKind.i64 0), (Value.slice none 0 0)] 24 (0, 0)))) →
((Nf.There w143 (⟨(hs w135), 0, none⟩ : Addr) 3) ∧
(∀ w145 : World, ((w145 = (Nf.setCells w143 (⟨(hs w135), 0, none⟩ : Addr) [(Value.string s136), (Value.int IntKind.i64 x137), (Value.slice o138 n139 n140)] 0)) →
((((!(decide (x39 = 0))) = true) →
((((decide (x26 = x39)) = true) →
(R (Ending.returned (Value.bool false)) w145)) ∧
(((decide (x26 = x39)) = false) →
(R (Ending.returned (Value.bool false)) w145)))) ∧
(((!(decide (x39 = 0))) = false) →
((((decide (x26 = 0)) = true) →
(R (Ending.returned (Value.bool false)) w145)) ∧
(((decide (x26 = 0)) = false) →
(R (Ending.returned (Value.bool false)) w145))))))))))) ∧
((b141 = false) →
(∀ w154 : World, ((w154 = (w135.alloc (Obj.cells #[(Value.string (ByteArray.mk #[])), (Value.int IntKind.i64 0), (Value.slice none 0 0)] 24 (0, 0)))) →
((Nf.There w154 (⟨(hs w135), 0, none⟩ : Addr) 3) ∧
(∀ w156 : World, ((w156 = (Nf.setCells w154 (⟨(hs w135), 0, none⟩ : Addr) [(Value.string s136), (Value.int IntKind.i64 x137), (Value.slice o138 n139 n140)] 0)) →
((((!(decide (x39 = 0))) = true) →
((((decide (x26 = x39)) = true) →
(Calls Try.prog 52 #[(Value.pointer o18)] w156 (fun (e160 : Ending) => (fun (w161 : World) => (∃ o162 : Option Addr, (∃ n163 : Nat, (∃ n164 : Nat, ((e160 = (Ending.returned (Value.slice o162 n163 n164))) ∧
((((decide (((n163 : Nat) : Int) = 0)) = true) →
(R (Ending.returned (Value.bool true)) w161)) ∧
(((decide (((n163 : Nat) : Int) = 0)) = false) →
(R (Ending.returned (Value.bool false)) w161))))))))))) ∧
(((decide (x26 = x39)) = false) →
(R (Ending.returned (Value.bool false)) w156)))) ∧
(((!(decide (x39 = 0))) = false) →
((((decide (x26 = 0)) = true) →
(R (Ending.returned (Value.bool false)) w156)) ∧
(((decide (x26 = 0)) = false) →
(R (Ending.returned (Value.bool false)) w156)))))))))))))))))))))))))))))))))))))))))))))) →
(k36 x39 w38)))) →
((((decide (x35 = 0)) = true) →
(∃ s172 : ByteArray, (((w33.cell? (⟨(hs w), 0, none⟩ : Addr)) = (some (Value.string s172))) ∧
(∃ x173 : Int, (((w33.cell? (⟨(hs w), 1, none⟩ : Addr)) = (some (Value.int IntKind.i64 x173))) ∧
(∃ o174 : Option Addr, (∃ n175 : Nat, (∃ n176 : Nat, (((w33.cell? (⟨(hs w), 2, none⟩ : Addr)) = (some (Value.slice o174 n175 n176))) ∧
(Calls Try.prog 31 #[(Value.agg #[(Value.string s172), (Value.int IntKind.i64 x173), (Value.slice o174 n175 n176)])] w33 (fun (e177 : Ending) => (fun (w178 : World) => (∃ x179 : Int, (∃ x180 : Int, ((e177 = (Ending.returned (Value.tuple #[(Value.int IntKind.i64 x179), (Value.int IntKind.i64 x180)]))) ∧
(k36 x180 w178)))))))))))))))) ∧
(((decide (x35 = 0)) = false) →
(k36 x35 w33)))))))))))))))))))))))))))))))))))))) ∧
((b14 = false) →
(R (Ending.returned (Value.bool true)) w13))))))))))))))))) ∧
((b5 = false) →
(R (Ending.returned (Value.bool false)) w4))))))))))) :
    Calls Try.prog 11 #[(.agg #[(.string t_Name), (.int .i64 t_Version), (.slice t_Questions t_Questions_n t_Questions_c)])] w R :=
  calls_of_vc an11n Try.func11 rfl (by kernel_rfl) (by kernel_rfl) (Eq.mp (by kernel_rfl) h)

/-- samaritan/samaritanlaw15.ProtocolstoreCapacity -/
def an12n : An := (.seq (.reg []) (.seq (.seq (.reg [(0, 0, true)]) (.cond (.seq (.reg []) .nil) .nil)) (.seq (.reg []) (.seq (.reg []) (.seq (.seq (.reg []) (.blk (.loop [(14, .int .i64)] (.seq (.reg [(0, 0, true)]) (.seq (.cond .nil .nil) (.seq (.blk (.seq (.reg []) (.seq (.reg [(6, 0, true)]) (.cond (.seq (.reg []) .nil) .nil)))) (.reg []))))))) (.seq (.seq (.reg [(5, 0, true), (10, 0, true), (21, 0, true)]) (.cond (.seq (.reg []) .nil) .nil)) (.seq (.reg [(3, 0, true), (10, 0, true), (16, 0, true)]) .nil)))))))
set_option maxRecDepth 100000 in
theorem nf12n (first : Int) (k : Int) (w : World) (R : Ending → World → Prop) (h :
(Calls Try.prog 39 #[] w (fun (e1 : Ending) => (fun (w2 : World) => (∃ b3 : Bool, ((e1 = (Ending.returned (Value.bool b3))) ∧
(((b3 = true) →
(Calls Try.prog 41 #[] w2 (fun (e5 : Ending) => (fun (w6 : World) => (∃ o7 : Option Addr, ((e5 = (Ending.returned (Value.pointer o7))) ∧
(∃ k8 : (Nat → (Int → (World → Prop))), ((∃ n9 : Nat, (k8 n9 0 w6)) ∧
(∀ n10 : Nat, ((Nat → Value) →
(∀ w12 : World, (∀ x13 : Int, ((k8 n10 x13 w12) →
((((decide (x13 < 100)) = true) →
(Calls Try.prog 43 #[(Value.string (ByteArray.mk #[(109 : UInt8), (97 : UInt8), (105 : UInt8), (110 : UInt8)])), (Value.int IntKind.i64 (IntKind.wrap IntKind.i64 ((IntKind.wrap IntKind.i64 (1 + (IntKind.wrap IntKind.i64 first))) + x13)))] w12 (fun (e16 : Ending) => (fun (w17 : World) => (∃ s18 : ByteArray, (∃ x19 : Int, (∃ o20 : Option Addr, (∃ n21 : Nat, (∃ n22 : Nat, ((e16 = (Ending.returned (Value.agg #[(Value.string s18), (Value.int IntKind.i64 x19), (Value.slice o20 n21 n22)]))) ∧
(Calls Try.prog 42 #[(Value.pointer o7), (Value.agg #[(Value.string s18), (Value.int IntKind.i64 x19), (Value.slice o20 n21 n22)])] w17 (fun (e23 : Ending) => (fun (w24 : World) => (∃ x25 : Int, ((e23 = (Ending.returned (Value.int IntKind.i64 x25))) ∧
((((!(decide (x25 = 0))) = true) →
(R (Ending.returned (Value.bool false)) w24)) ∧
(((!(decide (x25 = 0))) = false) →
(∃ n28 : Nat, ((n28 < n10) ∧
(k8 n28 (IntKind.wrap IntKind.i64 (x13 + 1)) w24)))))))))))))))))))) ∧
(((decide (x13 < 100)) = false) →
(Calls Try.prog 43 #[(Value.string (ByteArray.mk #[(109 : UInt8), (97 : UInt8), (105 : UInt8), (110 : UInt8)])), (Value.int IntKind.i64 (IntKind.wrap IntKind.i64 ((IntKind.wrap IntKind.i64 (1 + (IntKind.wrap IntKind.i64 first))) + 100)))] w12 (fun (e30 : Ending) => (fun (w31 : World) => (∃ s32 : ByteArray, (∃ x33 : Int, (∃ o34 : Option Addr, (∃ n35 : Nat, (∃ n36 : Nat, ((e30 = (Ending.returned (Value.agg #[(Value.string s32), (Value.int IntKind.i64 x33), (Value.slice o34 n35 n36)]))) ∧
(Calls Try.prog 42 #[(Value.pointer o7), (Value.agg #[(Value.string s32), (Value.int IntKind.i64 x33), (Value.slice o34 n35 n36)])] w31 (fun (e37 : Ending) => (fun (w38 : World) => (∃ x39 : Int, ((e37 = (Ending.returned (Value.int IntKind.i64 x39))) ∧
((((!(decide (x39 = 3))) = true) →
(R (Ending.returned (Value.bool false)) w38)) ∧
(((!(decide (x39 = 3))) = false) →
(Calls Try.prog 43 #[(Value.string (ByteArray.mk #[(120 : UInt8)])), (Value.int IntKind.i64 1)] w38 (fun (e42 : Ending) => (fun (w43 : World) => (∃ s44 : ByteArray, (∃ x45 : Int, (∃ o46 : Option Addr, (∃ n47 : Nat, (∃ n48 : Nat, ((e42 = (Ending.returned (Value.agg #[(Value.string s44), (Value.int IntKind.i64 x45), (Value.slice o46 n47 n48)]))) ∧
(Calls Try.prog 42 #[(Value.pointer o7), (Value.agg #[(Value.string s44), (Value.int IntKind.i64 x45), (Value.slice o46 n47 n48)])] w43 (fun (e49 : Ending) => (fun (w50 : World) => (∃ x51 : Int, ((e49 = (Ending.returned (Value.int IntKind.i64 x51))) ∧
((((!(decide (x51 = 3))) = true) →
(R (Ending.returned (Value.bool false)) w50)) ∧
(((!(decide (x51 = 3))) = false) →
(Calls Try.prog 43 #[(Value.string (ByteArray.mk #[(109 : UInt8), (97 : UInt8), (105 : UInt8), (110 : UInt8)])), (Value.int IntKind.i64 (IntKind.wrap IntKind.i64 ((IntKind.wrap IntKind.i64 (1 + (IntKind.wrap IntKind.i64 first))) + (Int.tmod (IntKind.wrap IntKind.i64 k) 100))))] w50 (fun (e54 : Ending) => (fun (w55 : World) => (∃ s56 : ByteArray, (∃ x57 : Int, (∃ o58 : Option Addr, (∃ n59 : Nat, (∃ n60 : Nat, ((e54 = (Ending.returned (Value.agg #[(Value.string s56), (Value.int IntKind.i64 x57), (Value.slice o58 n59 n60)]))) ∧
(Calls Try.prog 42 #[(Value.pointer o7), (Value.agg #[(Value.string s56), (Value.int IntKind.i64 x57), (Value.slice o58 n59 n60)])] w55 (fun (e61 : Ending) => (fun (w62 : World) => (∃ x63 : Int, ((e61 = (Ending.returned (Value.int IntKind.i64 x63))) ∧
((((!(decide (x63 = 5))) = true) →
(R (Ending.returned (Value.bool false)) w62)) ∧
(((!(decide (x63 = 5))) = false) →
(Calls Try.prog 53 #[(Value.pointer o7), (Value.string (ByteArray.mk #[(109 : UInt8), (97 : UInt8), (105 : UInt8), (110 : UInt8)])), (Value.int IntKind.i64 (IntKind.wrap IntKind.i64 (1 + (IntKind.wrap IntKind.i64 first))))] w62 (fun (e66 : Ending) => (fun (w67 : World) => (∃ x68 : Int, ((e66 = (Ending.returned (Value.int IntKind.i64 x68))) ∧
((((decide (x68 = 0)) = true) →
(Calls Try.prog 43 #[(Value.string (ByteArray.mk #[(109 : UInt8), (97 : UInt8), (105 : UInt8), (110 : UInt8)])), (Value.int IntKind.i64 (IntKind.wrap IntKind.i64 ((IntKind.wrap IntKind.i64 (1 + (IntKind.wrap IntKind.i64 first))) + 100)))] w67 (fun (e70 : Ending) => (fun (w71 : World) => (∃ s72 : ByteArray, (∃ x73 : Int, (∃ o74 : Option Addr, (∃ n75 : Nat, (∃ n76 : Nat, ((e70 = (Ending.returned (Value.agg #[(Value.string s72), (Value.int IntKind.i64 x73), (Value.slice o74 n75 n76)]))) ∧
(Calls Try.prog 42 #[(Value.pointer o7), (Value.agg #[(Value.string s72), (Value.int IntKind.i64 x73), (Value.slice o74 n75 n76)])] w71 (fun (e77 : Ending) => (fun (w78 : World) => (∃ x79 : Int, ((e77 = (Ending.returned (Value.int IntKind.i64 x79))) ∧
((((decide (x79 = 0)) = true) →
(Calls Try.prog 54 #[(Value.pointer o7), (Value.string (ByteArray.mk #[(109 : UInt8), (97 : UInt8), (105 : UInt8), (110 : UInt8)]))] w78 (fun (e81 : Ending) => (fun (w82 : World) => (∃ o83 : Option Addr, (∃ n84 : Nat, (∃ n85 : Nat, ((e81 = (Ending.returned (Value.slice o83 n84 n85))) ∧
((((decide (((n84 : Nat) : Int) = 100)) = true) →
(R (Ending.returned (Value.bool true)) w82)) ∧
(((decide (((n84 : Nat) : Int) = 100)) = false) →
(R (Ending.returned (Value.bool false)) w82))))))))))) ∧
(((decide (x79 = 0)) = false) →
(R (Ending.returned (Value.bool false)) w78)))))))))))))))))) ∧
(((decide (x68 = 0)) = false) →
(R (Ending.returned (Value.bool false)) w67))))))))))))))))))))))))))))))))))))))))))))))))))))))))))))))))))))))) ∧
((b3 = false) →
(R (Ending.returned (Value.bool false)) w2))))))))) :
    Calls Try.prog 12 #[(.int .u16 first), (.int .u8 k)] w R :=
  calls_of_vc an12n Try.func12 rfl (by kernel_rfl) (by kernel_rfl) (Eq.mp (by kernel_rfl) h)

/-- samaritan/samaritanlaw15.ProtocolstoreMatchesModel -/
def an21n : An := (.seq (.reg []) (.seq (.seq (.reg [(0, 0, true)]) (.cond (.seq (.reg []) .nil) .nil)) (.seq (.seq (.reg [(1, 0, true)]) (.cond (.seq (.reg []) .nil) .nil)) (.seq (.reg []) (.seq (.reg []) (.seq (.seq (.reg []) (.blk (.loop [(17, .int .i64)] (.seq (.reg [(0, 0, true)]) (.seq (.cond .nil .nil) (.seq (.blk (.seq (.reg []) (.seq (.reg [(6, 0, true)]) (.seq (.reg []) (.seq (.reg [(6, 0, true)]) (.cond (.seq (.reg []) .nil) .nil)))))) (.reg []))))))) (.seq (.reg []) .nil)))))))
set_option maxRecDepth 100000 in
theorem nf21n (l : Option Addr) (l_n : Nat) (l_c : Nat) (w : World) (R : Ending → World → Prop) (h :
(Calls Try.prog 39 #[] w (fun (e1 : Ending) => (fun (w2 : World) => (∃ b3 : Bool, ((e1 = (Ending.returned (Value.bool b3))) ∧
(((b3 = true) →
(Calls Try.prog 40 #[(Value.slice l l_n l_c)] w2 (fun (e5 : Ending) => (fun (w6 : World) => (∃ b7 : Bool, ((e5 = (Ending.returned (Value.bool b7))) ∧
(((b7 = true) →
(Calls Try.prog 41 #[] w6 (fun (e9 : Ending) => (fun (w10 : World) => (∃ o11 : Option Addr, ((e9 = (Ending.returned (Value.pointer o11))) ∧
(∀ w12 : World, ((w12 = (w10.alloc (Obj.cells #[(Value.slice none 0 0), (Value.slice none 0 0)] 74 (0, 0)))) →
(∃ k14 : (Nat → (Int → (World → Prop))), ((∃ n15 : Nat, (k14 n15 0 w12)) ∧
(∀ n16 : Nat, ((Nat → Value) →
(∀ w18 : World, (∀ x19 : Int, ((k14 n16 x19 w18) →
((((decide (x19 < ((l_n : Nat) : Int))) = true) →
(∃ a22 : Addr, ((l = (some a22)) ∧
((((0 : Int) ≤ x19) ∧
(x19 < ((l_n : Nat) : Int))) ∧
(∃ x23 : Int, (((w18.cell? (Addr.add a22 ((x19).toNat * 7))) = (some (Value.int IntKind.u8 x23))) ∧
(∃ s24 : ByteArray, (((w18.cell? (Addr.add (Addr.add a22 ((x19).toNat * 7)) 1)) = (some (Value.string s24))) ∧
(∃ x25 : Int, (((w18.cell? (Addr.add (Addr.add a22 ((x19).toNat * 7)) 2)) = (some (Value.int IntKind.i64 x25))) ∧
(∃ o26 : Option Addr, (∃ n27 : Nat, (∃ n28 : Nat, (((w18.cell? (Addr.add (Addr.add a22 ((x19).toNat * 7)) 3)) = (some (Value.slice o26 n27 n28))) ∧
(∃ x29 : Int, (((w18.cell? (Addr.add (Addr.add a22 ((x19).toNat * 7)) 4)) = (some (Value.int IntKind.i64 x29))) ∧
(∃ s30 : ByteArray, (((w18.cell? (Addr.add (Addr.add a22 ((x19).toNat * 7)) 5)) = (some (Value.string s30))) ∧
(∃ x31 : Int, (((w18.cell? (Addr.add (Addr.add a22 ((x19).toNat * 7)) 6)) = (some (Value.int IntKind.i64 x31))) ∧
(∀ w32 : World, ((w32 = (w18.alloc (Obj.cells #[(Value.int IntKind.u8 0), (Value.string (ByteArray.mk #[])), (Value.int IntKind.i64 0), (Value.slice none 0 0), (Value.int IntKind.i64 0), (Value.string (ByteArray.mk #[])), (Value.int IntKind.i64 0)] 70 (0, 0)))) →
((Nf.There w32 (⟨(hs w18), 0, none⟩ : Addr) 7) ∧
(∀ w34 : World, ((w34 = (Nf.setCells w32 (⟨(hs w18), 0, none⟩ : Addr) [(Value.int IntKind.u8 x23), (Value.string s24), (Value.int IntKind.i64 x25), (Value.slice o26 n27 n28), (Value.int IntKind.i64 x29), (Value.string s30), (Value.int IntKind.i64 x31)] 0)) →
(∃ o36 : Option Addr, (∃ n37 : Nat, (∃ n38 : Nat, (((w34.cell? (⟨(hs w10), 0, none⟩ : Addr)) = (some (Value.slice o36 n37 n38))) ∧
(∃ o39 : Option Addr, (∃ n40 : Nat, (∃ n41 : Nat, (((w34.cell? (⟨(hs w10), 1, none⟩ : Addr)) = (some (Value.slice o39 n40 n41))) ∧
(∃ x42 : Int, (((w34.cell? (⟨(hs w18), 0, none⟩ : Addr)) = (some (Value.int IntKind.u8 x42))) ∧
(∃ s43 : ByteArray, (((w34.cell? (⟨(hs w18), 1, none⟩ : Addr)) = (some (Value.string s43))) ∧
(∃ x44 : Int, (((w34.cell? (⟨(hs w18), 2, none⟩ : Addr)) = (some (Value.int IntKind.i64 x44))) ∧
(∃ o45 : Option Addr, (∃ n46 : Nat, (∃ n47 : Nat, (((w34.cell? (⟨(hs w18), 3, none⟩ : Addr)) = (some (Value.slice o45 n46 n47))) ∧
(∃ x48 : Int, (((w34.cell? (⟨(hs w18), 4, none⟩ : Addr)) = (some (Value.int IntKind.i64 x48))) ∧
(∃ s49 : ByteArray, (((w34.cell? (⟨(hs w18), 5, none⟩ : Addr)) = (some (Value.string s49))) ∧
(∃ x50 : Int, (((w34.cell? (⟨(hs w18), 6, none⟩ : Addr)) = (some (Value.int IntKind.i64 x50))) ∧
(Calls Try.prog 45 #[(Value.pointer o11), (Value.agg #[(Value.slice o36 n37 n38), (Value.slice o39 n40 n41)]), (Value.agg #[(Value.int IntKind.u8 x42), (Value.string s43), (Value.int IntKind.i64 x44), (Value.slice o45 n46 n47), (Value.int IntKind.i64 x48), (Value.string s49), (Value.int IntKind.i64 x50)])] w34 (fun (e51 : Ending) => (fun (w52 : World) => (∃ o53 : Option Addr, (∃ n54 : Nat, (∃ n55 : Nat, (∃ o56 : Option Addr, (∃ n57 : Nat, (∃ n58 : Nat, (∃ b59 : Bool, ((e51 = (Ending.returned (Value.tuple #[(Value.agg #[(Value.slice o53 n54 n55), (Value.slice o56 n57 n58)]), (Value.bool b59)]))) ∧
(((b59 = true) →
(∀ w61 : World, ((w61 = (w52.alloc (Obj.cells #[(Value.slice none 0 0), (Value.slice none 0 0)] 74 (0, 0)))) →
((Nf.There w61 (⟨(hs w52), 0, none⟩ : Addr) 2) ∧
(∀ w63 : World, ((w63 = (Nf.setCells w61 (⟨(hs w52), 0, none⟩ : Addr) [(Value.slice o53 n54 n55), (Value.slice o56 n57 n58)] 0)) →
(∃ o65 : Option Addr, (∃ n66 : Nat, (∃ n67 : Nat, (((w63.cell? (⟨(hs w52), 0, none⟩ : Addr)) = (some (Value.slice o65 n66 n67))) ∧
(∃ o68 : Option Addr, (∃ n69 : Nat, (∃ n70 : Nat, (((w63.cell? (⟨(hs w52), 1, none⟩ : Addr)) = (some (Value.slice o68 n69 n70))) ∧
((Nf.There w63 (⟨(hs w10), 0, none⟩ : Addr) 2) ∧
(∀ w71 : World, ((w71 = (Nf.setCells w63 (⟨(hs w10), 0, none⟩ : Addr) [(Value.slice o65 n66 n67), (Value.slice o68 n69 n70)] 0)) →
(∃ o73 : Option Addr, (∃ n74 : Nat, (∃ n75 : Nat, (((w71.cell? (⟨(hs w10), 0, none⟩ : Addr)) = (some (Value.slice o73 n74 n75))) ∧
(∃ o76 : Option Addr, (∃ n77 : Nat, (∃ n78 : Nat, (((w71.cell? (⟨(hs w10), 1, none⟩ : Addr)) = (some (Value.slice o76 n77 n78))) ∧
(∃ x79 : Int, (((w71.cell? (⟨(hs w18), 0, none⟩ : Addr)) = (some (Value.int IntKind.u8 x79))) ∧
(∃ s80 : ByteArray, (((w71.cell? (⟨(hs w18), 1, none⟩ : Addr)) = (some (Value.string s80))) ∧
(∃ x81 : Int, (((w71.cell? (⟨(hs w18), 2, none⟩ : Addr)) = (some (Value.int IntKind.i64 x81))) ∧
(∃ o82 : Option Addr, (∃ n83 : Nat, (∃ n84 : Nat, (((w71.cell? (⟨(hs w18), 3, none⟩ : Addr)) = (some (Value.slice o82 n83 n84))) ∧
(∃ x85 : Int, (((w71.cell? (⟨(hs w18), 4, none⟩ : Addr)) = (some (Value.int IntKind.i64 x85))) ∧
(∃ s86 : ByteArray, (((w71.cell? (⟨(hs w18), 5, none⟩ : Addr)) = (some (Value.string s86))) ∧
(∃ x87 : Int, (((w71.cell? (⟨(hs w18), 6, none⟩ : Addr)) = (some (Value.int IntKind.i64 x87))) ∧
(Calls Try.prog 69 #[(Value.pointer o11), (Value.agg #[(Value.slice o73 n74 n75), (Value.slice o76 n77 n78)]), (Value.agg #[(Value.int IntKind.u8 x79), (Value.string s80), (Value.int IntKind.i64 x81), (Value.slice o82 n83 n84), (Value.int IntKind.i64 x85), (Value.string s86), (Value.int IntKind.i64 x87)])] w71 (fun (e88 : Ending) => (fun (w89 : World) => (∃ b90 : Bool, ((e88 = (Ending.returned (Value.bool b90))) ∧
(((b90 = true) →
(∃ n92 : Nat, ((n92 < n16) ∧
(k14 n92 (IntKind.wrap IntKind.i64 (x19 + 1)) w89)))) ∧
((b90 = false) →
(R (Ending.returned (Value.bool false)) w89))))))))))))))))))))))))))))))))))))))))))))))))) ∧
((b59 = false) →
(∀ w95 : World, ((w95 = (w52.alloc (Obj.cells #[(Value.slice none 0 0), (Value.slice none 0 0)] 74 (0, 0)))) →
((Nf.There w95 (⟨(hs w52), 0, none⟩ : Addr) 2) ∧
(∀ w97 : World, ((w97 = (Nf.setCells w95 (⟨(hs w52), 0, none⟩ : Addr) [(Value.slice o53 n54 n55), (Value.slice o56 n57 n58)] 0)) →
(∃ o99 : Option Addr, (∃ n100 : Nat, (∃ n101 : Nat, (((w97.cell? (⟨(hs w52), 0, none⟩ : Addr)) = (some (Value.slice o99 n100 n101))) ∧
(∃ o102 : Option Addr, (∃ n103 : Nat, (∃ n104 : Nat, (((w97.cell? (⟨(hs w52), 1, none⟩ : Addr)) = (some (Value.slice o102 n103 n104))) ∧
((Nf.There w97 (⟨(hs w10), 0, none⟩ : Addr) 2) ∧
(∀ w105 : World, ((w105 = (Nf.setCells w97 (⟨(hs w10), 0, none⟩ : Addr) [(Value.slice o99 n100 n101), (Value.slice o102 n103 n104)] 0)) →
(R (Ending.returned (Value.bool false)) w105))))))))))))))))))))))))))))))))))))))))))))))))))))))))))))))))))))))))))))))) ∧
(((decide (x19 < ((l_n : Nat) : Int))) = false) →
(R (Ending.returned (Value.bool true)) w18)))))))))))))))))) ∧
((b7 = false) →
(R (Ending.returned (Value.bool true)) w6))))))))) ∧
((b3 = false) →
(R (Ending.returned (Value.bool false)) w2))))))))) :
    Calls Try.prog 21 #[(.slice l l_n l_c)] w R :=
  calls_of_vc an21n Try.func21 rfl (by kernel_rfl) (by kernel_rfl) (Eq.mp (by kernel_rfl) h)

/-- samaritan/samaritanlaw15.ProtocolstoreOnlyTerminating -/
def an22n : An := (.seq (.reg []) (.seq (.seq (.reg [(0, 0, true)]) (.cond (.seq (.reg []) .nil) .nil)) (.seq (.seq (.reg [(1, 0, true)]) (.cond (.seq (.reg []) .nil) .nil)) (.seq (.reg []) (.seq (.seq (.reg []) (.blk (.loop [(27, .int .i64)] (.seq (.reg [(0, 0, true)]) (.seq (.cond .nil .nil) (.seq (.blk (.seq (.reg []) (.reg []))) (.reg []))))))) (.seq (.seq (.reg []) (.blk (.loop [(39, .int .i64)] (.seq (.reg [(0, 0, true)]) (.seq (.cond .nil .nil) (.seq (.blk (.seq (.reg []) (.seq (.reg []) (.seq (.seq (.reg []) (.blk (.loop [(8, .int .i64), (47, .int .i64)] (.seq (.reg [(0, 0, true)]) (.seq (.cond .nil .nil) (.seq (.blk (.seq (.reg []) (.seq (.reg [(6, 0, true)]) (.seq (.reg []) (.seq (.reg []) (.seq (.seq (.reg [(4, 0, true), (8, 0, true), (14, 3, true), (20, 0, true), (25, 0, true)]) (.cond (.seq (.reg []) .nil) .nil)) (.reg []))))))) (.reg []))))))) (.seq (.reg [(5, 0, true)]) (.seq (.reg [(6, 0, true)]) (.cond (.seq (.reg []) .nil) .nil))))))) (.reg []))))))) (.seq (.reg []) .nil)))))))
set_option maxRecDepth 100000 in
theorem nf22n (l : Option Addr) (l_n : Nat) (l_c : Nat) (w : World) (R : Ending → World → Prop) (h :
(Calls Try.prog 39 #[] w (fun (e1 : Ending) => (fun (w2 : World) => (∃ b3 : Bool, ((e1 = (Ending.returned (Value.bool b3))) ∧
(((b3 = true) →
(Calls Try.prog 40 #[(Value.slice l l_n l_c)] w2 (fun (e5 : Ending) => (fun (w6 : World) => (∃ b7 : Bool, ((e5 = (Ending.returned (Value.bool b7))) ∧
(((b7 = true) →
(Calls Try.prog 41 #[] w6 (fun (e9 : Ending) => (fun (w10 : World) => (∃ o11 : Option Addr, ((e9 = (Ending.returned (Value.pointer o11))) ∧
(∃ k12 : (Nat → (Int → (World → Prop))), ((∃ n13 : Nat, (k12 n13 0 w10)) ∧
(∀ n14 : Nat, ((Nat → Value) →
(∀ w16 : World, (∀ x17 : Int, ((k12 n14 x17 w16) →
((((decide (x17 < ((l_n : Nat) : Int))) = true) →
(∃ a20 : Addr, ((l = (some a20)) ∧
((((0 : Int) ≤ x17) ∧
(x17 < ((l_n : Nat) : Int))) ∧
(∃ x21 : Int, (((w16.cell? (Addr.add a20 ((x17).toNat * 7))) = (some (Value.int IntKind.u8 x21))) ∧
(∃ s22 : ByteArray, (((w16.cell? (Addr.add (Addr.add a20 ((x17).toNat * 7)) 1)) = (some (Value.string s22))) ∧
(∃ x23 : Int, (((w16.cell? (Addr.add (Addr.add a20 ((x17).toNat * 7)) 2)) = (some (Value.int IntKind.i64 x23))) ∧
(∃ o24 : Option Addr, (∃ n25 : Nat, (∃ n26 : Nat, (((w16.cell? (Addr.add (Addr.add a20 ((x17).toNat * 7)) 3)) = (some (Value.slice o24 n25 n26))) ∧
(∃ x27 : Int, (((w16.cell? (Addr.add (Addr.add a20 ((x17).toNat * 7)) 4)) = (some (Value.int IntKind.i64 x27))) ∧
(∃ s28 : ByteArray, (((w16.cell? (Addr.add (Addr.add a20 ((x17).toNat * 7)) 5)) = (some (Value.string s28))) ∧
(∃ x29 : Int, (((w16.cell? (Addr.add (Addr.add a20 ((x17).toNat * 7)) 6)) = (some (Value.int IntKind.i64 x29))) ∧
(∀ w30 : World, ((w30 = (w16.alloc (Obj.cells #[(Value.int IntKind.u8 0), (Value.string (ByteArray.mk #[])), (Value.int IntKind.i64 0), (Value.slice none 0 0), (Value.int IntKind.i64 0), (Value.string (ByteArray.mk #[])), (Value.int IntKind.i64 0)] 70 (0, 0)))) →
((Nf.There w30 (⟨(hs w16), 0, none⟩ : Addr) 7) ∧
(∀ w32 : World, ((w32 = (Nf.setCells w30 (⟨(hs w16), 0, none⟩ : Addr) [(Value.int IntKind.u8 x21), (Value.string s22), (Value.int IntKind.i64 x23), (Value.slice o24 n25 n26), (Value.int IntKind.i64 x27), (Value.string s28), (Value.int IntKind.i64 x29)] 0)) →
(∃ x34 : Int, (((w32.cell? (⟨(hs w16), 0, none⟩ : Addr)) = (some (Value.int IntKind.u8 x34))) ∧
(∃ s35 : ByteArray, (((w32.cell? (⟨(hs w16), 1, none⟩ : Addr)) = (some (Value.string s35))) ∧
(∃ x36 : Int, (((w32.cell? (⟨(hs w16), 2, none⟩ : Addr)) = (some (Value.int IntKind.i64 x36))) ∧
(∃ o37 : Option Addr, (∃ n38 : Nat, (∃ n39 : Nat, (((w32.cell? (⟨(hs w16), 3, none⟩ : Addr)) = (some (Value.slice o37 n38 n39))) ∧
(∃ x40 : Int, (((w32.cell? (⟨(hs w16), 4, none⟩ : Addr)) = (some (Value.int IntKind.i64 x40))) ∧
(∃ s41 : ByteArray, (((w32.cell? (⟨(hs w16), 5, none⟩ : Addr)) = (some (Value.string s41))) ∧
(∃ x42 : Int, (((w32.cell? (⟨(hs w16), 6, none⟩ : Addr)) = (some (Value.int IntKind.i64 x42))) ∧
(Calls Try.prog 45 #[(Value.pointer o11), (Value.agg #[(Value.slice none 0 0), (Value.slice none 0 0)]), (Value.agg #[(Value.int IntKind.u8 x34), (Value.string s35), (Value.int IntKind.i64 x36), (Value.slice o37 n38 n39), (Value.int IntKind.i64 x40), (Value.string s41), (Value.int IntKind.i64 x42)])] w32 (fun (e43 : Ending) => (fun (w44 : World) => (∃ o45 : Option Addr, (∃ n46 : Nat, (∃ n47 : Nat, (∃ o48 : Option Addr, (∃ n49 : Nat, (∃ n50 : Nat, (∃ b51 : Bool, ((e43 = (Ending.returned (Value.tuple #[(Value.agg #[(Value.slice o45 n46 n47), (Value.slice o48 n49 n50)]), (Value.bool b51)]))) ∧
(∃ n52 : Nat, ((n52 < n14) ∧
(k12 n52 (IntKind.wrap IntKind.i64 (x17 + 1)) w44))))))))))))))))))))))))))))))))))))))))))))))))))))))) ∧
(((decide (x17 < ((l_n : Nat) : Int))) = false) →
(Calls Try.prog 52 #[(Value.pointer o11)] w16 (fun (e54 : Ending) => (fun (w55 : World) => (∃ o56 : Option Addr, (∃ n57 : Nat, (∃ n58 : Nat, ((e54 = (Ending.returned (Value.slice o56 n57 n58))) ∧
(∃ k59 : (Nat → (Int → (World → Prop))), ((∃ n60 : Nat, (k59 n60 0 w55)) ∧
(∀ n61 : Nat, ((Nat → Value) →
(∀ w63 : World, (∀ x64 : Int, ((k59 n61 x64 w63) →
((((decide (x64 < ((n57 : Nat) : Int))) = true) →
(∃ a67 : Addr, ((o56 = (some a67)) ∧
((((0 : Int) ≤ x64) ∧
(x64 < ((n57 : Nat) : Int))) ∧
(∃ s68 : ByteArray, (((w63.cell? (Addr.add a67 ((x64).toNat * 1))) = (some (Value.string s68))) ∧
(Calls Try.prog 54 #[(Value.pointer o11), (Value.string s68)] w63 (fun (e69 : Ending) => (fun (w70 : World) => (∃ o71 : Option Addr, (∃ n72 : Nat, (∃ n73 : Nat, ((e69 = (Ending.returned (Value.slice o71 n72 n73))) ∧
(∃ k74 : (Nat → (Int → (Int → (World → Prop)))), ((∃ n75 : Nat, (k74 n75 0 0 w70)) ∧
(∀ n76 : Nat, ((Nat → Value) →
(∀ w78 : World, (∀ x79 : Int, (∀ x80 : Int, ((k74 n76 x79 x80 w78) →
((((decide (x80 < ((n72 : Nat) : Int))) = true) →
(∃ a83 : Addr, ((o71 = (some a83)) ∧
((((0 : Int) ≤ x80) ∧
(x80 < ((n72 : Nat) : Int))) ∧
(∃ x84 : Int, (((w78.cell? (Addr.add a83 ((x80).toNat * 1))) = (some (Value.int IntKind.i64 x84))) ∧
(Calls Try.prog 49 #[(Value.pointer o11), (Value.string s68), (Value.int IntKind.i64 x84)] w78 (fun (e85 : Ending) => (fun (w86 : World) => (∃ s87 : ByteArray, (∃ x88 : Int, (∃ o89 : Option Addr, (∃ n90 : Nat, (∃ n91 : Nat, (∃ b92 : Bool, ((e85 = (Ending.returned (Value.tuple #[(Value.agg #[(Value.string s87), (Value.int IntKind.i64 x88), (Value.slice o89 n90 n91)]), (Value.bool b92)]))) ∧
(((b92 = true) →
(∀ w94 : World, ((w94 = (w86.alloc (Obj.cells #[(Value.string (ByteArray.mk #[])), (Value.int IntKind.i64 0), (Value.slice none 0 0)] 24 (0, 0)))) →
((Nf.There w94 (⟨(hs w86), 0, none⟩ : Addr) 3) ∧
(∀ w96 : World, ((w96 = (Nf.setCells w94 (⟨(hs w86), 0, none⟩ : Addr) [(Value.string s87), (Value.int IntKind.i64 x88), (Value.slice o89 n90 n91)] 0)) →
(∃ s98 : ByteArray, (((w96.cell? (⟨(hs w86), 0, none⟩ : Addr)) = (some (Value.string s98))) ∧
(∃ x99 : Int, (((w96.cell? (⟨(hs w86), 1, none⟩ : Addr)) = (some (Value.int IntKind.i64 x99))) ∧
(∃ o100 : Option Addr, (∃ n101 : Nat, (∃ n102 : Nat, (((w96.cell? (⟨(hs w86), 2, none⟩ : Addr)) = (some (Value.slice o100 n101 n102))) ∧
(Calls Try.prog 51 #[(Value.agg #[(Value.string s98), (Value.int IntKind.i64 x99), (Value.slice o100 n101 n102)])] w96 (fun (e103 : Ending) => (fun (w104 : World) => (∃ x105 : Int, (∃ x106 : Int, ((e103 = (Ending.returned (Value.tuple #[(Value.int IntKind.i64 x105), (Value.int IntKind.i64 x106)]))) ∧
(∃ s107 : ByteArray, (((w104.cell? (⟨(hs w86), 0, none⟩ : Addr)) = (some (Value.string s107))) ∧
(∃ x108 : Int, (((w104.cell? (⟨(hs w86), 1, none⟩ : Addr)) = (some (Value.int IntKind.i64 x108))) ∧
(∃ o109 : Option Addr, (∃ n110 : Nat, (∃ n111 : Nat, (((w104.cell? (⟨(hs w86), 2, none⟩ : Addr)) = (some (Value.slice o109 n110 n111))) ∧
(Calls Try.prog 31 #[(Value.agg #[(Value.string s107), (Value.int IntKind.i64 x108), (Value.slice o109 n110 n111)])] w104 (fun (e112 : Ending) => (fun (w113 : World) => (∃ x114 : Int, (∃ x115 : Int, ((e112 = (Ending.returned (Value.tuple #[(Value.int IntKind.i64 x114), (Value.int IntKind.i64 x115)]))) ∧
((((!(decide (x106 = 0))) = true) →
(R (Ending.returned (Value.bool false)) w113)) ∧
(((!(decide (x106 = 0))) = false) →
((((!(decide (x115 = 0))) = true) →
(R (Ending.returned (Value.bool false)) w113)) ∧
(((!(decide (x115 = 0))) = false) →
(∃ s120 : ByteArray, (((w113.cell? (⟨(hs w86), 0, none⟩ : Addr)) = (some (Value.string s120))) ∧
((((!(Nf.strEq s120 s68)) = true) →
(R (Ending.returned (Value.bool false)) w113)) ∧
(((!(Nf.strEq s120 s68)) = false) →
(∃ x123 : Int, (((w113.cell? (⟨(hs w86), 1, none⟩ : Addr)) = (some (Value.int IntKind.i64 x123))) ∧
((((!(decide (x123 = x84))) = true) →
(R (Ending.returned (Value.bool false)) w113)) ∧
(((!(decide (x123 = x84))) = false) →
((((decide (x84 ≤ x79)) = true) →
(R (Ending.returned (Value.bool false)) w113)) ∧
(((decide (x84 ≤ x79)) = false) →
(∃ n128 : Nat, ((n128 < n76) ∧
(k74 n128 x84 (IntKind.wrap IntKind.i64 (x80 + 1)) w113))))))))))))))))))))))))))))))))))))))))))))))))))) ∧
((b92 = false) →
(∀ w130 : World, ((w130 = (w86.alloc (Obj.cells #[(Value.string (ByteArray.mk #[])), (Value.int IntKind.i64 0), (Value.slice none 0 0)] 24 (0, 0)))) →
((Nf.There w130 (⟨(hs w86), 0, none⟩ : Addr) 3) ∧
(∀ w132 : World, ((w132 = (Nf.setCells w130 (⟨(hs w86), 0, none⟩ : Addr) [(Value.string s87), (Value.int IntKind.i64 x88), (Value.slice o89 n90 n91)] 0)) →
(∃ s134 : ByteArray, (((w132.cell? (⟨(hs w86), 0, none⟩ : Addr)) = (some (Value.string s134))) ∧
(∃ x135 : Int, (((w132.cell? (⟨(hs w86), 1, none⟩ : Addr)) = (some (Value.int IntKind.i64 x135))) ∧
(∃ o136 : Option Addr, (∃ n137 : Nat, (∃ n138 : Nat, (((w132.cell? (⟨(hs w86), 2, none⟩ : Addr)) = (some (Value.slice o136 n137 n138))) ∧
(Calls Try.prog 51 #[(Value.agg #[(Value.string s134), (Value.int IntKind.i64 x135), (Value.slice o136 n137 n138)])] w132 (fun (e139 : Ending) => (fun (w140 : World) => (∃ x141 : Int, (∃ x142 : Int, ((e139 = (Ending.returned (Value.tuple #[(Value.int IntKind.i64 x141), (Value.int IntKind.i64 x142)]))) ∧
(∃ s143 : ByteArray, (((w140.cell? (⟨(hs w86), 0, none⟩ : Addr)) = (some (Value.string s143))) ∧
(∃ x144 : Int, (((w140.cell? (⟨(hs w86), 1, none⟩ : Addr)) = (some (Value.int IntKind.i64 x144))) ∧
(∃ o145 : Option Addr, (∃ n146 : Nat, (∃ n147 : Nat, (((w140.cell? (⟨(hs w86), 2, none⟩ : Addr)) = (some (Value.slice o145 n146 n147))) ∧
(Calls Try.prog 31 #[(Value.agg #[(Value.string s143), (Value.int IntKind.i64 x144), (Value.slice o145 n146 n147)])] w140 (fun (e148 : Ending) => (fun (w149 : World) => (∃ x150 : Int, (∃ x151 : Int, ((e148 = (Ending.returned (Value.tuple #[(Value.int IntKind.i64 x150), (Value.int IntKind.i64 x151)]))) ∧
(R (Ending.returned (Value.bool false)) w149)))))))))))))))))))))))))))))))))))))))))))))))))))) ∧
(((decide (x80 < ((n72 : Nat) : Int))) = false) →
(Calls Try.prog 50 #[(Value.pointer o11), (Value.string s68)] w78 (fun (e153 : Ending) => (fun (w154 : World) => (∃ s155 : ByteArray, (∃ x156 : Int, (∃ o157 : Option Addr, (∃ n158 : Nat, (∃ n159 : Nat, (∃ b160 : Bool, ((e153 = (Ending.returned (Value.tuple #[(Value.agg #[(Value.string s155), (Value.int IntKind.i64 x156), (Value.slice o157 n158 n159)]), (Value.bool b160)]))) ∧
(((b160 = true) →
(∀ w162 : World, ((w162 = (w154.alloc (Obj.cells #[(Value.string (ByteArray.mk #[])), (Value.int IntKind.i64 0), (Value.slice none 0 0)] 24 (0, 0)))) →
((Nf.There w162 (⟨(hs w154), 0, none⟩ : Addr) 3) ∧
(∀ w164 : World, ((w164 = (Nf.setCells w162 (⟨(hs w154), 0, none⟩ : Addr) [(Value.string s155), (Value.int IntKind.i64 x156), (Value.slice o157 n158 n159)] 0)) →
(∃ x166 : Int, (((w164.cell? (⟨(hs w154), 1, none⟩ : Addr)) = (some (Value.int IntKind.i64 x166))) ∧
((((!(decide (x166 = x79))) = true) →
(R (Ending.returned (Value.bool false)) w164)) ∧
(((!(decide (x166 = x79))) = false) →
(∃ n169 : Nat, ((n169 < n61) ∧
(k59 n169 (IntKind.wrap IntKind.i64 (x64 + 1)) w164))))))))))))) ∧
((b160 = false) →
(∀ w171 : World, ((w171 = (w154.alloc (Obj.cells #[(Value.string (ByteArray.mk #[])), (Value.int IntKind.i64 0), (Value.slice none 0 0)] 24 (0, 0)))) →
((Nf.There w171 (⟨(hs w154), 0, none⟩ : Addr) 3) ∧
(∀ w173 : World, ((w173 = (Nf.setCells w171 (⟨(hs w154), 0, none⟩ : Addr) [(Value.string s155), (Value.int IntKind.i64 x156), (Value.slice o157 n158 n159)] 0)) →
(R (Ending.returned (Value.bool false)) w173))))))))))))))))))))))))))))))))))))))))) ∧
(((decide (x64 < ((n57 : Nat) : Int))) = false) →
(R (Ending.returned (Value.bool true)) w63)))))))))))))))))))))))))))))))) ∧
((b7 = false) →
(R (Ending.returned (Value.bool true)) w6))))))))) ∧
((b3 = false) →
(R (Ending.returned (Value.bool false)) w2))))))))) :
    Calls Try.prog 22 #[(.slice l l_n l_c)] w R :=
  calls_of_vc an22n Try.func22 rfl (by kernel_rfl) (by kernel_rfl) (Eq.mp (by kernel_rfl) h)

end Go.Proofs.Ytbaacpfjecbbgaa
