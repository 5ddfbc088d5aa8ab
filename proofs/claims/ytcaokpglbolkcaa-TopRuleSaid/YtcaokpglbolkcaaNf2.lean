/- The contracts' premises: for each function, the proposition that its body comes to (printed by the tool of wip/nf). -/
import Derived.Test.YtcaokpglbolkcaaRows
import Derived.Test.YtcaokpglbolkcaaNfD
namespace Go.Proofs.Ytcaokpglbolkcaa
open Go Go.Nf

/-- samaritan/samaritantop.awake -/
def an4 : An := (.seq (.reg []) (.seq (.reg [(1, 0, true)]) .nil))
set_option maxRecDepth 100000 in
theorem nf4  (w : World) (R : Ending → World → Prop) (h :
(Calls Try.prog 17 #[(Value.slice none 0 0)] w (fun (e1 : Ending) => (fun (w2 : World) => (∃ x3 : Int, ((e1 = (Ending.returned (Value.int IntKind.u64 x3))) ∧
((((!(decide (x3 = 0))) = true) →
(R (Ending.returned (Value.bool true)) w2)) ∧
(((!(decide (x3 = 0))) = false) →
(R (Ending.returned (Value.bool false)) w2))))))))) :
    Calls Try.prog 4 #[] w R :=
  calls_of_vc an4 Try.func4 rfl (by kernel_rfl) (by kernel_rfl) (Eq.mp (by kernel_rfl) h)

/-- samaritan/samaritantop.few -/
def an5 : An := (.seq (.reg []) (.seq (.reg [(2, 0, true)]) .nil))
set_option maxRecDepth 100000 in
theorem nf5 (l : Option Addr) (l_n : Nat) (l_c : Nat) (w : World) (R : Ending → World → Prop) (h :
((((decide (((l_n : Nat) : Int) ≤ 24)) = true) →
(R (Ending.returned (Value.bool true)) w)) ∧
(((decide (((l_n : Nat) : Int) ≤ 24)) = false) →
(R (Ending.returned (Value.bool false)) w)))) :
    Calls Try.prog 5 #[(.slice l l_n l_c)] w R :=
  calls_of_vc an5 Try.func5 rfl (by kernel_rfl) (by kernel_rfl) (Eq.mp (by kernel_rfl) h)

/-- samaritan/checksum.Sum -/
def an17 : An := (.seq (.reg []) (.seq (.reg []) .nil))
set_option maxRecDepth 100000 in
theorem nf17 (b : Option Addr) (b_n : Nat) (b_c : Nat) (w : World) (R : Ending → World → Prop) (h :
(Calls Try.prog 40 #[(Value.int IntKind.u64 14695981039346656037), (Value.slice b b_n b_c)] w (fun (e1 : Ending) => (fun (w2 : World) => (∃ x3 : Int, ((e1 = (Ending.returned (Value.int IntKind.u64 x3))) ∧
(R (Ending.returned (Value.int IntKind.u64 x3)) w2))))))) :
    Calls Try.prog 17 #[(.slice b b_n b_c)] w R :=
  calls_of_vc an17 Try.func17 rfl (by kernel_rfl) (by kernel_rfl) (Eq.mp (by kernel_rfl) h)

/-- samaritan/checksum.Update -/
def an40 : An := (.seq (.reg []) (.seq (.seq (.reg []) (.blk (.loop [(0, .int .u64), (9, .int .i64)] (.seq (.reg [(0, 0, true)]) (.seq (.cond .nil .nil) (.seq (.blk (.seq (.reg []) (.reg []))) (.reg []))))))) (.seq (.reg []) .nil)))
set_option maxRecDepth 100000 in
theorem nf40 (sum : Int) (b : Option Addr) (b_n : Nat) (b_c : Nat) (w : World) (R : Ending → World → Prop) (h :
(∃ k1 : (Nat → (Int → (Int → (World → Prop)))), ((∃ n2 : Nat, (k1 n2 sum 0 w)) ∧
(∀ n3 : Nat, ((Nat → Value) →
(∀ w5 : World, (∀ x6 : Int, (∀ x7 : Int, ((k1 n3 x6 x7 w5) →
((((decide (x7 < ((b_n : Nat) : Int))) = true) →
(∃ a10 : Addr, ((b = (some a10)) ∧
((((0 : Int) ≤ x7) ∧
(x7 < ((b_n : Nat) : Int))) ∧
(∃ x11 : Int, (((w5.cell? (Addr.add a10 ((x7).toNat * 1))) = (some (Value.int IntKind.u8 x11))) ∧
(Calls Try.prog 57 #[(Value.int IntKind.u64 x6), (Value.int IntKind.u8 x11)] w5 (fun (e12 : Ending) => (fun (w13 : World) => (∃ x14 : Int, ((e12 = (Ending.returned (Value.int IntKind.u64 x14))) ∧
(∃ n15 : Nat, ((n15 < n3) ∧
(k1 n15 x14 (IntKind.wrap IntKind.i64 (x7 + 1)) w13)))))))))))))) ∧
(((decide (x7 < ((b_n : Nat) : Int))) = false) →
(R (Ending.returned (Value.int IntKind.u64 x6)) w5)))))))))))) :
    Calls Try.prog 40 #[(.int .u64 sum), (.slice b b_n b_c)] w R :=
  calls_of_vc an40 Try.func40 rfl (by kernel_rfl) (by kernel_rfl) (Eq.mp (by kernel_rfl) h)

/-- samaritan/roadgraph.New -/
def an6 : An := (.seq (.reg []) (.seq (.seq (.reg [(1, 0, true), (4, 0, true)]) (.cond (.seq (.reg []) .nil) .nil)) (.seq (.seq (.reg [(2, 0, true)]) (.cond (.seq (.reg []) .nil) .nil)) (.seq (.seq (.reg []) (.blk (.loop [(19, .int .i64)] (.seq (.reg [(0, 0, true)]) (.seq (.cond .nil .nil) (.seq (.blk (.seq (.reg []) (.seq (.seq (.reg [(2, 0, true), (7, 0, true), (12, 0, true), (18, 0, true)]) (.cond (.seq (.reg []) .nil) .nil)) (.seq (.reg [(2, 0, true), (6, 0, true), (11, 0, true)]) (.cond (.seq (.reg []) .nil) .nil))))) (.reg []))))))) (.seq (.reg []) .nil)))))
set_option maxRecDepth 100000 in
theorem nf6 (nodes : Int) (l : Option Addr) (l_n : Nat) (l_c : Nat) (w : World) (R : Ending → World → Prop) (h :
((((decide (nodes < 1)) = true) →
(R (Ending.returned (Value.tuple #[(Value.pointer none), (Value.int IntKind.i64 1)])) w)) ∧
(((decide (nodes < 1)) = false) →
((((decide (nodes > 4096)) = true) →
(R (Ending.returned (Value.tuple #[(Value.pointer none), (Value.int IntKind.i64 1)])) w)) ∧
(((decide (nodes > 4096)) = false) →
((((decide (((l_n : Nat) : Int) > 16384)) = true) →
(R (Ending.returned (Value.tuple #[(Value.pointer none), (Value.int IntKind.i64 3)])) w)) ∧
(((decide (((l_n : Nat) : Int) > 16384)) = false) →
(∃ k7 : (Nat → (Int → (World → Prop))), ((∃ n8 : Nat, (k7 n8 0 w)) ∧
(∀ n9 : Nat, ((Nat → Value) →
(∀ w11 : World, (∀ x12 : Int, ((k7 n9 x12 w11) →
((((decide (x12 < ((l_n : Nat) : Int))) = true) →
(∃ a15 : Addr, ((l = (some a15)) ∧
((((0 : Int) ≤ x12) ∧
(x12 < ((l_n : Nat) : Int))) ∧
(∃ x16 : Int, (((w11.cell? (Addr.add a15 ((x12).toNat * 3))) = (some (Value.int IntKind.i64 x16))) ∧
(∃ x17 : Int, (((w11.cell? (Addr.add (Addr.add a15 ((x12).toNat * 3)) 1)) = (some (Value.int IntKind.i64 x17))) ∧
(∃ x18 : Int, (((w11.cell? (Addr.add (Addr.add a15 ((x12).toNat * 3)) 2)) = (some (Value.int IntKind.i64 x18))) ∧
(∀ w19 : World, ((w19 = (w11.alloc (Obj.cells #[(Value.int IntKind.i64 0), (Value.int IntKind.i64 0), (Value.int IntKind.i64 0)] 65 (0, 0)))) →
((Nf.There w19 (⟨(hs w11), 0, none⟩ : Addr) 3) ∧
(∀ w21 : World, ((w21 = (Nf.setCells w19 (⟨(hs w11), 0, none⟩ : Addr) [(Value.int IntKind.i64 x16), (Value.int IntKind.i64 x17), (Value.int IntKind.i64 x18)] 0)) →
(∃ x23 : Int, (((w21.cell? (⟨(hs w11), 0, none⟩ : Addr)) = (some (Value.int IntKind.i64 x23))) ∧
((((decide (x23 < 0)) = true) →
(R (Ending.returned (Value.tuple #[(Value.pointer none), (Value.int IntKind.i64 1)])) w21)) ∧
(((decide (x23 < 0)) = false) →
(∃ x26 : Int, (((w21.cell? (⟨(hs w11), 0, none⟩ : Addr)) = (some (Value.int IntKind.i64 x26))) ∧
((((decide (x26 ≥ nodes)) = true) →
(R (Ending.returned (Value.tuple #[(Value.pointer none), (Value.int IntKind.i64 1)])) w21)) ∧
(((decide (x26 ≥ nodes)) = false) →
(∃ x29 : Int, (((w21.cell? (⟨(hs w11), 1, none⟩ : Addr)) = (some (Value.int IntKind.i64 x29))) ∧
((((decide (x29 < 0)) = true) →
(R (Ending.returned (Value.tuple #[(Value.pointer none), (Value.int IntKind.i64 1)])) w21)) ∧
(((decide (x29 < 0)) = false) →
(∃ x32 : Int, (((w21.cell? (⟨(hs w11), 1, none⟩ : Addr)) = (some (Value.int IntKind.i64 x32))) ∧
((((decide (x32 ≥ nodes)) = true) →
(R (Ending.returned (Value.tuple #[(Value.pointer none), (Value.int IntKind.i64 1)])) w21)) ∧
(((decide (x32 ≥ nodes)) = false) →
(∃ x35 : Int, (((w21.cell? (⟨(hs w11), 2, none⟩ : Addr)) = (some (Value.int IntKind.i64 x35))) ∧
((((decide (x35 < 1)) = true) →
(∃ x37 : Int, (((w21.cell? (⟨(hs w11), 2, none⟩ : Addr)) = (some (Value.int IntKind.i64 x37))) ∧
((((!(decide (x37 = 4611686018427387904))) = true) →
(R (Ending.returned (Value.tuple #[(Value.pointer none), (Value.int IntKind.i64 1)])) w21)) ∧
(((!(decide (x37 = 4611686018427387904))) = false) →
(∃ n40 : Nat, ((n40 < n9) ∧
(k7 n40 (IntKind.wrap IntKind.i64 (x12 + 1)) w21)))))))) ∧
(((decide (x35 < 1)) = false) →
(∃ x42 : Int, (((w21.cell? (⟨(hs w11), 2, none⟩ : Addr)) = (some (Value.int IntKind.i64 x42))) ∧
((((decide (x42 > 1048576)) = true) →
(∃ x44 : Int, (((w21.cell? (⟨(hs w11), 2, none⟩ : Addr)) = (some (Value.int IntKind.i64 x44))) ∧
((((!(decide (x44 = 4611686018427387904))) = true) →
(R (Ending.returned (Value.tuple #[(Value.pointer none), (Value.int IntKind.i64 1)])) w21)) ∧
(((!(decide (x44 = 4611686018427387904))) = false) →
(∃ n47 : Nat, ((n47 < n9) ∧
(k7 n47 (IntKind.wrap IntKind.i64 (x12 + 1)) w21)))))))) ∧
(((decide (x42 > 1048576)) = false) →
(∃ n49 : Nat, ((n49 < n9) ∧
(k7 n49 (IntKind.wrap IntKind.i64 (x12 + 1)) w21)))))))))))))))))))))))))))))))))))))))))) ∧
(((decide (x12 < ((l_n : Nat) : Int))) = false) →
(Calls Try.prog 19 #[(Value.slice l l_n l_c)] w11 (fun (e51 : Ending) => (fun (w52 : World) => (∃ o53 : Option Addr, (∃ n54 : Nat, (∃ n55 : Nat, ((e51 = (Ending.returned (Value.slice o53 n54 n55))) ∧
(Calls Try.prog 18 #[(Value.int IntKind.i64 nodes), (Value.slice o53 n54 n55)] w52 (fun (e56 : Ending) => (fun (w57 : World) => (∃ o58 : Option Addr, ((e56 = (Ending.returned (Value.pointer o58))) ∧
(R (Ending.returned (Value.tuple #[(Value.pointer o58), (Value.int IntKind.i64 0)])) w57))))))))))))))))))))))))))))) :
    Calls Try.prog 6 #[(.int .i64 nodes), (.slice l l_n l_c)] w R :=
  calls_of_vc an6 Try.func6 rfl (by kernel_rfl) (by kernel_rfl) (Eq.mp (by kernel_rfl) h)

/-- samaritan/roadgraph.build -/
def an18 : An := (.seq (.reg []) (.seq (.regE [(2, 1, false), (4, 1, false)] (.take 0 (.take 1 (.take 3 (.eff (.alt (.one 2 (.eff (.one 4 (.take 5 (.eff (.one 6 (.take 7 .nil))))))) (.one 4 (.eff (.one 2 (.take 5 (.eff (.one 6 (.take 7 .nil)))))))))))) [2, 4, 6]) (.seq (.seq (.reg []) (.blk (.loop [(17, .int .i64)] (.seq (.reg [(0, 0, true)]) (.seq (.cond .nil .nil) (.seq (.blk (.seq (.reg []) (.seq (.regD [(16, 1, false)] [0, 1, 2, 3, 4, 5, 6, 7, 8, 9, 10, 11, 12, 13, 14, 15, 16, 17, 18] [15, 16, 18]) (.regD [(16, 1, false)] [0, 1, 2, 3, 4, 5, 6, 7, 8, 9, 10, 11, 12, 13, 14, 15, 16, 17, 18] [15, 16, 18])))) (.reg []))))))) (.seq (.reg []) .nil))))
set_option maxRecDepth 100000 in
theorem nf18 (nodes : Int) (edges : Option Addr) (edges_n : Nat) (edges_c : Nat) (w : World) (R : Ending → World → Prop) (h :
(∀ w1 : World, ((w1 = w.drew) →
((RunOk Try.prog (Nf.Hold (Instr.makeSlice 68 (Value.int IntKind.i64 nodes) (Value.int IntKind.i64 nodes))) w1 (fun (v3 : Value) => (fun (w4 : World) => (∃ o5 : Option Addr, (∃ n6 : Nat, (∃ n7 : Nat, ((v3 = (Value.slice o5 n6 n7)) ∧
(RunOk Try.prog (Nf.Hold (Instr.makeSlice 68 (Value.int IntKind.i64 nodes) (Value.int IntKind.i64 nodes))) w4 (fun (v8 : Value) => (fun (w9 : World) => (∃ o10 : Option Addr, (∃ n11 : Nat, (∃ n12 : Nat, ((v8 = (Value.slice o10 n11 n12)) ∧
(∀ w13 : World, ((w13 = (w9.alloc (Obj.cells #[(Value.slice edges edges_n edges_c), (Value.slice o5 n6 n7), (Value.slice o10 n11 n12)] 70 (0, 0)))) →
(∃ k15 : (Nat → (Int → (World → Prop))), ((∃ n16 : Nat, (k15 n16 0 w13)) ∧
(∀ n17 : Nat, ((Nat → Value) →
(∀ w19 : World, (∀ x20 : Int, ((k15 n17 x20 w19) →
((((decide (x20 < ((edges_n : Nat) : Int))) = true) →
(∃ a23 : Addr, ((edges = (some a23)) ∧
((((0 : Int) ≤ x20) ∧
(x20 < ((edges_n : Nat) : Int))) ∧
(∃ x24 : Int, (((w19.cell? (Addr.add a23 ((x20).toNat * 3))) = (some (Value.int IntKind.i64 x24))) ∧
(∃ x25 : Int, (((w19.cell? (Addr.add (Addr.add a23 ((x20).toNat * 3)) 1)) = (some (Value.int IntKind.i64 x25))) ∧
(∃ x26 : Int, (((w19.cell? (Addr.add (Addr.add a23 ((x20).toNat * 3)) 2)) = (some (Value.int IntKind.i64 x26))) ∧
(∀ w27 : World, ((w27 = (w19.alloc (Obj.cells #[(Value.int IntKind.i64 0), (Value.int IntKind.i64 0), (Value.int IntKind.i64 0)] 65 (0, 0)))) →
((Nf.There w27 (⟨(hs w19), 0, none⟩ : Addr) 3) ∧
(∀ w29 : World, ((w29 = (Nf.setCells w27 (⟨(hs w19), 0, none⟩ : Addr) [(Value.int IntKind.i64 x24), (Value.int IntKind.i64 x25), (Value.int IntKind.i64 x26)] 0)) →
(∀ w31 : World, ((w31 = w29.drew) →
(∃ o33 : Option Addr, (∃ n34 : Nat, (∃ n35 : Nat, (((w31.cell? (⟨(hs w9), 1, none⟩ : Addr)) = (some (Value.slice o33 n34 n35))) ∧
(∃ x36 : Int, (((w31.cell? (⟨(hs w19), 0, none⟩ : Addr)) = (some (Value.int IntKind.i64 x36))) ∧
(∃ o37 : Option Addr, (∃ n38 : Nat, (∃ n39 : Nat, (((w31.cell? (⟨(hs w9), 1, none⟩ : Addr)) = (some (Value.slice o37 n38 n39))) ∧
(∃ x40 : Int, (((w31.cell? (⟨(hs w19), 0, none⟩ : Addr)) = (some (Value.int IntKind.i64 x40))) ∧
(∃ a41 : Addr, ((o37 = (some a41)) ∧
((((0 : Int) ≤ x40) ∧
(x40 < ((n38 : Nat) : Int))) ∧
(∃ o42 : Option Addr, (∃ n43 : Nat, (∃ n44 : Nat, (((w31.cell? (Addr.add a41 ((x40).toNat * 1))) = (some (Value.slice o42 n43 n44))) ∧
(∀ w45 : World, ((w45 = (w31.alloc (Obj.cells #[(Value.int IntKind.i64 x20)] 3 (0, 0)))) →
((Nf.Kept w31 w45 (Addr.add a41 ((x40).toNat * 1)) 1) ∧
((Nf.Kept w31 w45 (⟨(hs w19), 0, none⟩ : Addr) 1) ∧
((Nf.Kept w31 w45 (⟨(hs w9), 1, none⟩ : Addr) 1) ∧
((Nf.Kept w31 w45 (⟨(hs w19), 0, none⟩ : Addr) 1) ∧
((Nf.Kept w31 w45 (⟨(hs w9), 1, none⟩ : Addr) 1) ∧
(RunOk Try.prog (Nf.Hold (Builtin.append_ #[31, 31] 31 #[(Value.slice o42 n43 n44), (Value.slice (some (⟨(hs w31), 0, none⟩ : Addr)) 1 1)])) w45 (fun (v47 : Value) => (fun (w48 : World) => (∃ o49 : Option Addr, (∃ n50 : Nat, (∃ n51 : Nat, ((v47 = (Value.slice o49 n50 n51)) ∧
((Nf.Kept w31 w48 (⟨(hs w19), 0, none⟩ : Addr) 1) ∧
((Nf.Kept w31 w48 (⟨(hs w9), 1, none⟩ : Addr) 1) ∧
(∃ a52 : Addr, ((o33 = (some a52)) ∧
((((0 : Int) ≤ x36) ∧
(x36 < ((n34 : Nat) : Int))) ∧
((Nf.There w48 (Addr.add a52 ((x36).toNat * 1)) 1) ∧
(∀ w53 : World, ((w53 = (Nf.setCells w48 (Addr.add a52 ((x36).toNat * 1)) [(Value.slice o49 n50 n51)] 0)) →
(∀ w55 : World, ((w55 = w53.drew) →
(∃ o57 : Option Addr, (∃ n58 : Nat, (∃ n59 : Nat, (((w55.cell? (⟨(hs w9), 2, none⟩ : Addr)) = (some (Value.slice o57 n58 n59))) ∧
(∃ x60 : Int, (((w55.cell? (⟨(hs w19), 1, none⟩ : Addr)) = (some (Value.int IntKind.i64 x60))) ∧
(∃ o61 : Option Addr, (∃ n62 : Nat, (∃ n63 : Nat, (((w55.cell? (⟨(hs w9), 2, none⟩ : Addr)) = (some (Value.slice o61 n62 n63))) ∧
(∃ x64 : Int, (((w55.cell? (⟨(hs w19), 1, none⟩ : Addr)) = (some (Value.int IntKind.i64 x64))) ∧
(∃ a65 : Addr, ((o61 = (some a65)) ∧
((((0 : Int) ≤ x64) ∧
(x64 < ((n62 : Nat) : Int))) ∧
(∃ o66 : Option Addr, (∃ n67 : Nat, (∃ n68 : Nat, (((w55.cell? (Addr.add a65 ((x64).toNat * 1))) = (some (Value.slice o66 n67 n68))) ∧
(∀ w69 : World, ((w69 = (w55.alloc (Obj.cells #[(Value.int IntKind.i64 x20)] 3 (0, 0)))) →
((Nf.Kept w55 w69 (Addr.add a65 ((x64).toNat * 1)) 1) ∧
((Nf.Kept w55 w69 (⟨(hs w19), 1, none⟩ : Addr) 1) ∧
((Nf.Kept w55 w69 (⟨(hs w9), 2, none⟩ : Addr) 1) ∧
((Nf.Kept w55 w69 (⟨(hs w19), 1, none⟩ : Addr) 1) ∧
((Nf.Kept w55 w69 (⟨(hs w9), 2, none⟩ : Addr) 1) ∧
(RunOk Try.prog (Nf.Hold (Builtin.append_ #[31, 31] 31 #[(Value.slice o66 n67 n68), (Value.slice (some (⟨(hs w55), 0, none⟩ : Addr)) 1 1)])) w69 (fun (v71 : Value) => (fun (w72 : World) => (∃ o73 : Option Addr, (∃ n74 : Nat, (∃ n75 : Nat, ((v71 = (Value.slice o73 n74 n75)) ∧
((Nf.Kept w55 w72 (⟨(hs w19), 1, none⟩ : Addr) 1) ∧
((Nf.Kept w55 w72 (⟨(hs w9), 2, none⟩ : Addr) 1) ∧
(∃ a76 : Addr, ((o57 = (some a76)) ∧
((((0 : Int) ≤ x60) ∧
(x60 < ((n58 : Nat) : Int))) ∧
((Nf.There w72 (Addr.add a76 ((x60).toNat * 1)) 1) ∧
(∀ w77 : World, ((w77 = (Nf.setCells w72 (Addr.add a76 ((x60).toNat * 1)) [(Value.slice o73 n74 n75)] 0)) →
(∃ n79 : Nat, ((n79 < n17) ∧
(k15 n79 (IntKind.wrap IntKind.i64 (x20 + 1)) w77)))))))))))))))))))))))))))))))))))))))))))))))))))))))))))))))))))))))))))))))))))))))))))))))))))))))) ∧
(((decide (x20 < ((edges_n : Nat) : Int))) = false) →
(R (Ending.returned (Value.pointer (some (⟨(hs w9), 0, none⟩ : Addr)))) w19)))))))))))))))))))))))))) ∧
(RunOk Try.prog (Nf.Hold (Instr.makeSlice 68 (Value.int IntKind.i64 nodes) (Value.int IntKind.i64 nodes))) w1 (fun (v81 : Value) => (fun (w82 : World) => (∃ o83 : Option Addr, (∃ n84 : Nat, (∃ n85 : Nat, ((v81 = (Value.slice o83 n84 n85)) ∧
(RunOk Try.prog (Nf.Hold (Instr.makeSlice 68 (Value.int IntKind.i64 nodes) (Value.int IntKind.i64 nodes))) w82 (fun (v86 : Value) => (fun (w87 : World) => (∃ o88 : Option Addr, (∃ n89 : Nat, (∃ n90 : Nat, ((v86 = (Value.slice o88 n89 n90)) ∧
(∀ w91 : World, ((w91 = (w87.alloc (Obj.cells #[(Value.slice edges edges_n edges_c), (Value.slice o88 n89 n90), (Value.slice o83 n84 n85)] 70 (0, 0)))) →
(∃ k93 : (Nat → (Int → (World → Prop))), ((∃ n94 : Nat, (k93 n94 0 w91)) ∧
(∀ n95 : Nat, ((Nat → Value) →
(∀ w97 : World, (∀ x98 : Int, ((k93 n95 x98 w97) →
((((decide (x98 < ((edges_n : Nat) : Int))) = true) →
(∃ a101 : Addr, ((edges = (some a101)) ∧
((((0 : Int) ≤ x98) ∧
(x98 < ((edges_n : Nat) : Int))) ∧
(∃ x102 : Int, (((w97.cell? (Addr.add a101 ((x98).toNat * 3))) = (some (Value.int IntKind.i64 x102))) ∧
(∃ x103 : Int, (((w97.cell? (Addr.add (Addr.add a101 ((x98).toNat * 3)) 1)) = (some (Value.int IntKind.i64 x103))) ∧
(∃ x104 : Int, (((w97.cell? (Addr.add (Addr.add a101 ((x98).toNat * 3)) 2)) = (some (Value.int IntKind.i64 x104))) ∧
(∀ w105 : World, ((w105 = (w97.alloc (Obj.cells #[(Value.int IntKind.i64 0), (Value.int IntKind.i64 0), (Value.int IntKind.i64 0)] 65 (0, 0)))) →
((Nf.There w105 (⟨(hs w97), 0, none⟩ : Addr) 3) ∧
(∀ w107 : World, ((w107 = (Nf.setCells w105 (⟨(hs w97), 0, none⟩ : Addr) [(Value.int IntKind.i64 x102), (Value.int IntKind.i64 x103), (Value.int IntKind.i64 x104)] 0)) →
(∀ w109 : World, ((w109 = w107.drew) →
(∃ o111 : Option Addr, (∃ n112 : Nat, (∃ n113 : Nat, (((w109.cell? (⟨(hs w87), 1, none⟩ : Addr)) = (some (Value.slice o111 n112 n113))) ∧
(∃ x114 : Int, (((w109.cell? (⟨(hs w97), 0, none⟩ : Addr)) = (some (Value.int IntKind.i64 x114))) ∧
(∃ o115 : Option Addr, (∃ n116 : Nat, (∃ n117 : Nat, (((w109.cell? (⟨(hs w87), 1, none⟩ : Addr)) = (some (Value.slice o115 n116 n117))) ∧
(∃ x118 : Int, (((w109.cell? (⟨(hs w97), 0, none⟩ : Addr)) = (some (Value.int IntKind.i64 x118))) ∧
(∃ a119 : Addr, ((o115 = (some a119)) ∧
((((0 : Int) ≤ x118) ∧
(x118 < ((n116 : Nat) : Int))) ∧
(∃ o120 : Option Addr, (∃ n121 : Nat, (∃ n122 : Nat, (((w109.cell? (Addr.add a119 ((x118).toNat * 1))) = (some (Value.slice o120 n121 n122))) ∧
(∀ w123 : World, ((w123 = (w109.alloc (Obj.cells #[(Value.int IntKind.i64 x98)] 3 (0, 0)))) →
((Nf.Kept w109 w123 (Addr.add a119 ((x118).toNat * 1)) 1) ∧
((Nf.Kept w109 w123 (⟨(hs w97), 0, none⟩ : Addr) 1) ∧
((Nf.Kept w109 w123 (⟨(hs w87), 1, none⟩ : Addr) 1) ∧
((Nf.Kept w109 w123 (⟨(hs w97), 0, none⟩ : Addr) 1) ∧
((Nf.Kept w109 w123 (⟨(hs w87), 1, none⟩ : Addr) 1) ∧
(RunOk Try.prog (Nf.Hold (Builtin.append_ #[31, 31] 31 #[(Value.slice o120 n121 n122), (Value.slice (some (⟨(hs w109), 0, none⟩ : Addr)) 1 1)])) w123 (fun (v125 : Value) => (fun (w126 : World) => (∃ o127 : Option Addr, (∃ n128 : Nat, (∃ n129 : Nat, ((v125 = (Value.slice o127 n128 n129)) ∧
((Nf.Kept w109 w126 (⟨(hs w97), 0, none⟩ : Addr) 1) ∧
((Nf.Kept w109 w126 (⟨(hs w87), 1, none⟩ : Addr) 1) ∧
(∃ a130 : Addr, ((o111 = (some a130)) ∧
((((0 : Int) ≤ x114) ∧
(x114 < ((n112 : Nat) : Int))) ∧
((Nf.There w126 (Addr.add a130 ((x114).toNat * 1)) 1) ∧
(∀ w131 : World, ((w131 = (Nf.setCells w126 (Addr.add a130 ((x114).toNat * 1)) [(Value.slice o127 n128 n129)] 0)) →
(∀ w133 : World, ((w133 = w131.drew) →
(∃ o135 : Option Addr, (∃ n136 : Nat, (∃ n137 : Nat, (((w133.cell? (⟨(hs w87), 2, none⟩ : Addr)) = (some (Value.slice o135 n136 n137))) ∧
(∃ x138 : Int, (((w133.cell? (⟨(hs w97), 1, none⟩ : Addr)) = (some (Value.int IntKind.i64 x138))) ∧
(∃ o139 : Option Addr, (∃ n140 : Nat, (∃ n141 : Nat, (((w133.cell? (⟨(hs w87), 2, none⟩ : Addr)) = (some (Value.slice o139 n140 n141))) ∧
(∃ x142 : Int, (((w133.cell? (⟨(hs w97), 1, none⟩ : Addr)) = (some (Value.int IntKind.i64 x142))) ∧
(∃ a143 : Addr, ((o139 = (some a143)) ∧
((((0 : Int) ≤ x142) ∧
(x142 < ((n140 : Nat) : Int))) ∧
(∃ o144 : Option Addr, (∃ n145 : Nat, (∃ n146 : Nat, (((w133.cell? (Addr.add a143 ((x142).toNat * 1))) = (some (Value.slice o144 n145 n146))) ∧
(∀ w147 : World, ((w147 = (w133.alloc (Obj.cells #[(Value.int IntKind.i64 x98)] 3 (0, 0)))) →
((Nf.Kept w133 w147 (Addr.add a143 ((x142).toNat * 1)) 1) ∧
((Nf.Kept w133 w147 (⟨(hs w97), 1, none⟩ : Addr) 1) ∧
((Nf.Kept w133 w147 (⟨(hs w87), 2, none⟩ : Addr) 1) ∧
((Nf.Kept w133 w147 (⟨(hs w97), 1, none⟩ : Addr) 1) ∧
((Nf.Kept w133 w147 (⟨(hs w87), 2, none⟩ : Addr) 1) ∧
(RunOk Try.prog (Nf.Hold (Builtin.append_ #[31, 31] 31 #[(Value.slice o144 n145 n146), (Value.slice (some (⟨(hs w133), 0, none⟩ : Addr)) 1 1)])) w147 (fun (v149 : Value) => (fun (w150 : World) => (∃ o151 : Option Addr, (∃ n152 : Nat, (∃ n153 : Nat, ((v149 = (Value.slice o151 n152 n153)) ∧
((Nf.Kept w133 w150 (⟨(hs w97), 1, none⟩ : Addr) 1) ∧
((Nf.Kept w133 w150 (⟨(hs w87), 2, none⟩ : Addr) 1) ∧
(∃ a154 : Addr, ((o135 = (some a154)) ∧
((((0 : Int) ≤ x138) ∧
(x138 < ((n136 : Nat) : Int))) ∧
((Nf.There w150 (Addr.add a154 ((x138).toNat * 1)) 1) ∧
(∀ w155 : World, ((w155 = (Nf.setCells w150 (Addr.add a154 ((x138).toNat * 1)) [(Value.slice o151 n152 n153)] 0)) →
(∃ n157 : Nat, ((n157 < n95) ∧
(k93 n157 (IntKind.wrap IntKind.i64 (x98 + 1)) w155)))))))))))))))))))))))))))))))))))))))))))))))))))))))))))))))))))))))))))))))))))))))))))))))))))))))) ∧
(((decide (x98 < ((edges_n : Nat) : Int))) = false) →
(R (Ending.returned (Value.pointer (some (⟨(hs w87), 0, none⟩ : Addr)))) w97)))))))))))))))))))))))))))))) :
    Calls Try.prog 18 #[(.int .i64 nodes), (.slice edges edges_n edges_c)] w R :=
  calls_of_vc an18 Try.func18 rfl (by kernel_rfl) (by kernel_rfl) (Eq.mp (by kernel_rfl) h)

/-- slices.Clone[[]samaritan/api.Edge,samaritan/api.Edge] -/
def an19 : An := (.seq (.reg []) (.seq (.seq (.reg [(1, 3, true)]) (.cond (.seq (.reg []) .nil) .nil)) (.seq (.reg [(2, 1, false)]) .nil)))
set_option maxRecDepth 100000 in
theorem nf19 (s : Option Addr) (s_n : Nat) (s_c : Nat) (w : World) (R : Ending → World → Prop) (h :
((((Option.isNone s) = true) →
(R (Ending.returned (Value.slice none 0 0)) w)) ∧
(((Option.isNone s) = false) →
(∀ w3 : World, ((w3 = (w.alloc (Obj.cells #[] 65 (0, 0)))) →
(RunOk Try.prog (Nf.Hold (Builtin.append_ #[22, 22] 22 #[(Value.slice (some (⟨(hs w), 0, none⟩ : Addr)) 0 0), (Value.slice s s_n s_c)])) w3 (fun (v5 : Value) => (fun (w6 : World) => (∃ o7 : Option Addr, (∃ n8 : Nat, (∃ n9 : Nat, ((v5 = (Value.slice o7 n8 n9)) ∧
(R (Ending.returned (Value.slice o7 n8 n9)) w6))))))))))))) :
    Calls Try.prog 19 #[(.slice s s_n s_c)] w R :=
  calls_of_vc an19 Try.func19 rfl (by kernel_rfl) (by kernel_rfl) (Eq.mp (by kernel_rfl) h)

/-- (*samaritan/roadgraph.Graph).TravelTimes -/
def an7 : An := (.seq (.reg []) (.seq (.reg [(5, 1, false)]) (.seq (.seq (.reg []) (.blk (.loop [(17, .int .i64)] (.seq (.reg [(0, 0, true)]) (.seq (.cond .nil .nil) (.seq (.blk (.seq (.reg []) (.reg []))) (.reg []))))))) (.seq (.reg []) .nil))))
set_option maxRecDepth 100000 in
theorem nf7 (n : Nat) (w : World) (R : Ending → World → Prop) (h :
(∃ o1 : Option Addr, (∃ n2 : Nat, (∃ n3 : Nat, (((w.cell? (⟨n, 0, none⟩ : Addr)) = (some (Value.slice o1 n2 n3))) ∧
(RunOk Try.prog (Nf.Hold (Instr.makeSlice 32 (Value.int IntKind.i64 ((n2 : Nat) : Int)) (Value.int IntKind.i64 ((n2 : Nat) : Int)))) w (fun (v4 : Value) => (fun (w5 : World) => (∃ o6 : Option Addr, (∃ n7 : Nat, (∃ n8 : Nat, ((v4 = (Value.slice o6 n7 n8)) ∧
(∃ o9 : Option Addr, (∃ n10 : Nat, (∃ n11 : Nat, (((w5.cell? (⟨n, 0, none⟩ : Addr)) = (some (Value.slice o9 n10 n11))) ∧
(∃ k12 : (Nat → (Int → (World → Prop))), ((∃ n13 : Nat, (k12 n13 0 w5)) ∧
(∀ n14 : Nat, ((Nat → Value) →
(∀ w16 : World, (∀ x17 : Int, ((k12 n14 x17 w16) →
((((decide (x17 < ((n10 : Nat) : Int))) = true) →
(∃ a20 : Addr, ((o9 = (some a20)) ∧
((((0 : Int) ≤ x17) ∧
(x17 < ((n10 : Nat) : Int))) ∧
(∃ x21 : Int, (((w16.cell? (Addr.add a20 ((x17).toNat * 3))) = (some (Value.int IntKind.i64 x21))) ∧
(∃ x22 : Int, (((w16.cell? (Addr.add (Addr.add a20 ((x17).toNat * 3)) 1)) = (some (Value.int IntKind.i64 x22))) ∧
(∃ x23 : Int, (((w16.cell? (Addr.add (Addr.add a20 ((x17).toNat * 3)) 2)) = (some (Value.int IntKind.i64 x23))) ∧
(∀ w24 : World, ((w24 = (w16.alloc (Obj.cells #[(Value.int IntKind.i64 0), (Value.int IntKind.i64 0), (Value.int IntKind.i64 0)] 65 (0, 0)))) →
((Nf.There w24 (⟨(hs w16), 0, none⟩ : Addr) 3) ∧
(∀ w26 : World, ((w26 = (Nf.setCells w24 (⟨(hs w16), 0, none⟩ : Addr) [(Value.int IntKind.i64 x21), (Value.int IntKind.i64 x22), (Value.int IntKind.i64 x23)] 0)) →
(∃ x28 : Int, (((w26.cell? (⟨(hs w16), 2, none⟩ : Addr)) = (some (Value.int IntKind.i64 x28))) ∧
(∃ a29 : Addr, ((o6 = (some a29)) ∧
((((0 : Int) ≤ x17) ∧
(x17 < ((n7 : Nat) : Int))) ∧
((Nf.There w26 (Addr.add a29 ((x17).toNat * 1)) 1) ∧
(∀ w30 : World, ((w30 = (Nf.setCells w26 (Addr.add a29 ((x17).toNat * 1)) [(Value.int IntKind.i64 x28)] 0)) →
(∃ n32 : Nat, ((n32 < n14) ∧
(k12 n32 (IntKind.wrap IntKind.i64 (x17 + 1)) w30)))))))))))))))))))))))))) ∧
(((decide (x17 < ((n10 : Nat) : Int))) = false) →
(R (Ending.returned (Value.slice o6 n7 n8)) w16)))))))))))))))))))))))))) :
    Calls Try.prog 7 #[(.pointer (some ⟨n, 0, none⟩))] w R :=
  calls_of_vc an7 Try.func7 rfl (by kernel_rfl) (by kernel_rfl) (Eq.mp (by kernel_rfl) h)

/-- (*samaritan/roadgraph.Graph).Nodes -/
def an63 : An := (.seq (.reg []) (.seq (.reg []) .nil))
set_option maxRecDepth 100000 in
theorem nf63 (n : Nat) (w : World) (R : Ending → World → Prop) (h :
(∃ o1 : Option Addr, (∃ n2 : Nat, (∃ n3 : Nat, (((w.cell? (⟨n, 1, none⟩ : Addr)) = (some (Value.slice o1 n2 n3))) ∧
(R (Ending.returned (Value.int IntKind.i64 ((n2 : Nat) : Int))) w)))))) :
    Calls Try.prog 63 #[(.pointer (some ⟨n, 0, none⟩))] w R :=
  calls_of_vc an63 Try.func63 rfl (by kernel_rfl) (by kernel_rfl) (Eq.mp (by kernel_rfl) h)

/-- (*samaritan/roadgraph.Graph).Edge -/
def an69 : An := (.seq (.reg []) (.seq (.seq (.reg [(1, 0, true), (9, 0, true)]) (.cond (.seq (.reg []) .nil) .nil)) (.seq (.reg []) .nil)))
set_option maxRecDepth 100000 in
theorem nf69 (n : Nat) (i : Int) (w : World) (R : Ending → World → Prop) (h :
(∀ w1 : World, ((w1 = (w.alloc (Obj.cells #[(Value.int IntKind.i64 0), (Value.int IntKind.i64 0), (Value.int IntKind.i64 0)] 65 (0, 0)))) →
((((decide (i < 0)) = true) →
((Nf.There w1 (⟨(hs w), 0, none⟩ : Addr) 3) ∧
(∀ w4 : World, ((w4 = (Nf.setCells w1 (⟨(hs w), 0, none⟩ : Addr) [(Value.int IntKind.i64 0), (Value.int IntKind.i64 0), (Value.int IntKind.i64 0)] 0)) →
(∃ x6 : Int, (((w4.cell? (⟨(hs w), 0, none⟩ : Addr)) = (some (Value.int IntKind.i64 x6))) ∧
(∃ x7 : Int, (((w4.cell? (⟨(hs w), 1, none⟩ : Addr)) = (some (Value.int IntKind.i64 x7))) ∧
(∃ x8 : Int, (((w4.cell? (⟨(hs w), 2, none⟩ : Addr)) = (some (Value.int IntKind.i64 x8))) ∧
(R (Ending.returned (Value.tuple #[(Value.agg #[(Value.int IntKind.i64 x6), (Value.int IntKind.i64 x7), (Value.int IntKind.i64 x8)]), (Value.bool false)])) w4))))))))))) ∧
(((decide (i < 0)) = false) →
(∃ o10 : Option Addr, (∃ n11 : Nat, (∃ n12 : Nat, (((w1.cell? (⟨n, 0, none⟩ : Addr)) = (some (Value.slice o10 n11 n12))) ∧
((((decide (i ≥ ((n11 : Nat) : Int))) = true) →
((Nf.There w1 (⟨(hs w), 0, none⟩ : Addr) 3) ∧
(∀ w14 : World, ((w14 = (Nf.setCells w1 (⟨(hs w), 0, none⟩ : Addr) [(Value.int IntKind.i64 0), (Value.int IntKind.i64 0), (Value.int IntKind.i64 0)] 0)) →
(∃ x16 : Int, (((w14.cell? (⟨(hs w), 0, none⟩ : Addr)) = (some (Value.int IntKind.i64 x16))) ∧
(∃ x17 : Int, (((w14.cell? (⟨(hs w), 1, none⟩ : Addr)) = (some (Value.int IntKind.i64 x17))) ∧
(∃ x18 : Int, (((w14.cell? (⟨(hs w), 2, none⟩ : Addr)) = (some (Value.int IntKind.i64 x18))) ∧
(R (Ending.returned (Value.tuple #[(Value.agg #[(Value.int IntKind.i64 x16), (Value.int IntKind.i64 x17), (Value.int IntKind.i64 x18)]), (Value.bool false)])) w14))))))))))) ∧
(((decide (i ≥ ((n11 : Nat) : Int))) = false) →
(∃ o20 : Option Addr, (∃ n21 : Nat, (∃ n22 : Nat, (((w1.cell? (⟨n, 0, none⟩ : Addr)) = (some (Value.slice o20 n21 n22))) ∧
(∃ a23 : Addr, ((o20 = (some a23)) ∧
((((0 : Int) ≤ i) ∧
(i < ((n21 : Nat) : Int))) ∧
(∃ x24 : Int, (((w1.cell? (Addr.add a23 ((i).toNat * 3))) = (some (Value.int IntKind.i64 x24))) ∧
(∃ x25 : Int, (((w1.cell? (Addr.add (Addr.add a23 ((i).toNat * 3)) 1)) = (some (Value.int IntKind.i64 x25))) ∧
(∃ x26 : Int, (((w1.cell? (Addr.add (Addr.add a23 ((i).toNat * 3)) 2)) = (some (Value.int IntKind.i64 x26))) ∧
((Nf.There w1 (⟨(hs w), 0, none⟩ : Addr) 3) ∧
(∀ w27 : World, ((w27 = (Nf.setCells w1 (⟨(hs w), 0, none⟩ : Addr) [(Value.int IntKind.i64 x24), (Value.int IntKind.i64 x25), (Value.int IntKind.i64 x26)] 0)) →
(∃ x29 : Int, (((w27.cell? (⟨(hs w), 0, none⟩ : Addr)) = (some (Value.int IntKind.i64 x29))) ∧
(∃ x30 : Int, (((w27.cell? (⟨(hs w), 1, none⟩ : Addr)) = (some (Value.int IntKind.i64 x30))) ∧
(∃ x31 : Int, (((w27.cell? (⟨(hs w), 2, none⟩ : Addr)) = (some (Value.int IntKind.i64 x31))) ∧
(R (Ending.returned (Value.tuple #[(Value.agg #[(Value.int IntKind.i64 x29), (Value.int IntKind.i64 x30), (Value.int IntKind.i64 x31)]), (Value.bool true)])) w27)))))))))))))))))))))))))))))))))) :
    Calls Try.prog 69 #[(.pointer (some ⟨n, 0, none⟩)), (.int .i64 i)] w R :=
  calls_of_vc an69 Try.func69 rfl (by kernel_rfl) (by kernel_rfl) (Eq.mp (by kernel_rfl) h)

/-- (*samaritan/roadgraph.Graph).Edges -/
def an70 : An := (.seq (.reg []) (.seq (.reg []) .nil))
set_option maxRecDepth 100000 in
theorem nf70 (n : Nat) (w : World) (R : Ending → World → Prop) (h :
(∃ o1 : Option Addr, (∃ n2 : Nat, (∃ n3 : Nat, (((w.cell? (⟨n, 0, none⟩ : Addr)) = (some (Value.slice o1 n2 n3))) ∧
(R (Ending.returned (Value.int IntKind.i64 ((n2 : Nat) : Int))) w)))))) :
    Calls Try.prog 70 #[(.pointer (some ⟨n, 0, none⟩))] w R :=
  calls_of_vc an70 Try.func70 rfl (by kernel_rfl) (by kernel_rfl) (Eq.mp (by kernel_rfl) h)

/-- (*samaritan/roadgraph.Graph).InEdges -/
def an66 : An := (.seq (.reg []) (.seq (.reg []) .nil))
set_option maxRecDepth 100000 in
theorem nf66 (n : Nat) (node : Int) (w : World) (R : Ending → World → Prop) (h :
(∃ o1 : Option Addr, (∃ n2 : Nat, (∃ n3 : Nat, (((w.cell? (⟨n, 2, none⟩ : Addr)) = (some (Value.slice o1 n2 n3))) ∧
(Calls Try.prog 77 #[(Value.slice o1 n2 n3), (Value.int IntKind.i64 node)] w (fun (e4 : Ending) => (fun (w5 : World) => (∃ f6 : Fn, (∃ a7 : Array Value, (∃ a8 : Array Value, ((e4 = (Ending.returned (Value.func f6 a7 a8))) ∧
(R (Ending.returned (Value.func f6 a7 a8)) w5))))))))))))) :
    Calls Try.prog 66 #[(.pointer (some ⟨n, 0, none⟩)), (.int .i64 node)] w R :=
  calls_of_vc an66 Try.func66 rfl (by kernel_rfl) (by kernel_rfl) (Eq.mp (by kernel_rfl) h)

/-- (*samaritan/roadgraph.Graph).OutEdges -/
def an67 : An := (.seq (.reg []) (.seq (.reg []) .nil))
set_option maxRecDepth 100000 in
theorem nf67 (n : Nat) (node : Int) (w : World) (R : Ending → World → Prop) (h :
(∃ o1 : Option Addr, (∃ n2 : Nat, (∃ n3 : Nat, (((w.cell? (⟨n, 1, none⟩ : Addr)) = (some (Value.slice o1 n2 n3))) ∧
(Calls Try.prog 77 #[(Value.slice o1 n2 n3), (Value.int IntKind.i64 node)] w (fun (e4 : Ending) => (fun (w5 : World) => (∃ f6 : Fn, (∃ a7 : Array Value, (∃ a8 : Array Value, ((e4 = (Ending.returned (Value.func f6 a7 a8))) ∧
(R (Ending.returned (Value.func f6 a7 a8)) w5))))))))))))) :
    Calls Try.prog 67 #[(.pointer (some ⟨n, 0, none⟩)), (.int .i64 node)] w R :=
  calls_of_vc an67 Try.func67 rfl (by kernel_rfl) (by kernel_rfl) (Eq.mp (by kernel_rfl) h)

/-- samaritan/roadgraph.enumerate -/
def an77 : An := (.seq (.reg []) (.seq (.reg []) .nil))
set_option maxRecDepth 100000 in
theorem nf77 (lists : Option Addr) (lists_n : Nat) (lists_c : Nat) (node : Int) (w : World) (R : Ending → World → Prop) (h :
(∀ w1 : World, ((w1 = (w.alloc (Obj.cells #[(Value.slice lists lists_n lists_c)] 68 (0, 0)))) →
(∀ w3 : World, ((w3 = (w1.alloc (Obj.cells #[(Value.int IntKind.i64 node)] 3 (0, 0)))) →
(R (Ending.returned (Value.func (Fn.func 79) #[] #[(Value.pointer (some (⟨(hs w1), 0, none⟩ : Addr))), (Value.pointer (some (⟨(hs w), 0, none⟩ : Addr)))])) w3)))))) :
    Calls Try.prog 77 #[(.slice lists lists_n lists_c), (.int .i64 node)] w R :=
  calls_of_vc an77 Try.func77 rfl (by kernel_rfl) (by kernel_rfl) (Eq.mp (by kernel_rfl) h)

/-- samaritan/roadgraph.enumerate$1 -/
def an79 : An := (.seq (.seq (.reg [(1, 0, true), (6, 0, true)]) (.cond .nil .nil)) (.seq (.reg []) (.blk (.loop [(19, .int .i64)] (.seq (.reg [(0, 0, true)]) (.seq (.cond .nil .nil) (.seq (.blk (.seq (.reg []) (.seq (.reg [(2, 1, true)]) (.cond .nil .nil)))) (.reg []))))))))
set_option maxRecDepth 100000 in
theorem nf79 (yield_f : Fn) (yield_a : Array Value) (yield_c : Array Value) (c0 : Nat) (c1 : Nat) (w : World) (R : Ending → World → Prop) (h :
(∃ x1 : Int, (((w.cell? (⟨c0, 0, none⟩ : Addr)) = (some (Value.int IntKind.i64 x1))) ∧
((((decide (x1 < 0)) = true) →
(R (Ending.returned (Value.tuple #[])) w)) ∧
(((decide (x1 < 0)) = false) →
(∃ x4 : Int, (((w.cell? (⟨c0, 0, none⟩ : Addr)) = (some (Value.int IntKind.i64 x4))) ∧
(∃ o5 : Option Addr, (∃ n6 : Nat, (∃ n7 : Nat, (((w.cell? (⟨c1, 0, none⟩ : Addr)) = (some (Value.slice o5 n6 n7))) ∧
((((decide (x4 ≥ ((n6 : Nat) : Int))) = true) →
(R (Ending.returned (Value.tuple #[])) w)) ∧
(((decide (x4 ≥ ((n6 : Nat) : Int))) = false) →
(∃ o10 : Option Addr, (∃ n11 : Nat, (∃ n12 : Nat, (((w.cell? (⟨c1, 0, none⟩ : Addr)) = (some (Value.slice o10 n11 n12))) ∧
(∃ x13 : Int, (((w.cell? (⟨c0, 0, none⟩ : Addr)) = (some (Value.int IntKind.i64 x13))) ∧
(∃ a14 : Addr, ((o10 = (some a14)) ∧
((((0 : Int) ≤ x13) ∧
(x13 < ((n11 : Nat) : Int))) ∧
(∃ o15 : Option Addr, (∃ n16 : Nat, (∃ n17 : Nat, (((w.cell? (Addr.add a14 ((x13).toNat * 1))) = (some (Value.slice o15 n16 n17))) ∧
(∃ k18 : (Nat → (Int → (World → Prop))), ((∃ n19 : Nat, (k18 n19 0 w)) ∧
(∀ n20 : Nat, ((Nat → Value) →
(∀ w22 : World, (∀ x23 : Int, ((k18 n20 x23 w22) →
((((decide (x23 < ((n16 : Nat) : Int))) = true) →
(∃ a26 : Addr, ((o15 = (some a26)) ∧
((((0 : Int) ≤ x23) ∧
(x23 < ((n16 : Nat) : Int))) ∧
(∃ x27 : Int, (((w22.cell? (Addr.add a26 ((x23).toNat * 1))) = (some (Value.int IntKind.i64 x27))) ∧
(CallsV Try.prog (Value.func yield_f yield_a yield_c) [(Value.int IntKind.i64 x27)] w22 (fun (e28 : Ending) => (fun (w29 : World) => (∃ b30 : Bool, ((e28 = (Ending.returned (Value.bool b30))) ∧
(((b30 = true) →
(∃ n32 : Nat, ((n32 < n20) ∧
(k18 n32 (IntKind.wrap IntKind.i64 (x23 + 1)) w29)))) ∧
((b30 = false) →
(R (Ending.returned (Value.tuple #[])) w29)))))))))))))) ∧
(((decide (x23 < ((n16 : Nat) : Int))) = false) →
(R (Ending.returned (Value.tuple #[])) w22)))))))))))))))))))))))))))))))))))) :
    Calls Try.prog 79 #[(.func yield_f yield_a yield_c), (.pointer (some ⟨c0, 0, none⟩)), (.pointer (some ⟨c1, 0, none⟩))] w R :=
  calls_of_vc an79 Try.func79 rfl (by kernel_rfl) (by kernel_rfl) (Eq.mp (by kernel_rfl) h)

/-- slices.Clone[[]samaritan/api.Unit,samaritan/api.Unit] -/
def an20 : An := (.seq (.reg []) (.seq (.seq (.reg [(1, 3, true)]) (.cond (.seq (.reg []) .nil) .nil)) (.seq (.reg [(2, 1, false)]) .nil)))
set_option maxRecDepth 100000 in
theorem nf20 (s : Option Addr) (s_n : Nat) (s_c : Nat) (w : World) (R : Ending → World → Prop) (h :
((((Option.isNone s) = true) →
(R (Ending.returned (Value.slice none 0 0)) w)) ∧
(((Option.isNone s) = false) →
(∀ w3 : World, ((w3 = (w.alloc (Obj.cells #[] 29 (0, 0)))) →
(RunOk Try.prog (Nf.Hold (Builtin.append_ #[24, 24] 24 #[(Value.slice (some (⟨(hs w), 0, none⟩ : Addr)) 0 0), (Value.slice s s_n s_c)])) w3 (fun (v5 : Value) => (fun (w6 : World) => (∃ o7 : Option Addr, (∃ n8 : Nat, (∃ n9 : Nat, ((v5 = (Value.slice o7 n8 n9)) ∧
(R (Ending.returned (Value.slice o7 n8 n9)) w6))))))))))))) :
    Calls Try.prog 20 #[(.slice s s_n s_c)] w R :=
  calls_of_vc an20 Try.func20 rfl (by kernel_rfl) (by kernel_rfl) (Eq.mp (by kernel_rfl) h)

/-- samaritan/dispatch.send -/
def an23 : An := (.seq (.reg []) (.seq (.reg []) (.blk (.loop [(7, .int .i64)] (.seq (.reg [(0, 0, true)]) (.seq (.cond .nil .nil) (.cut [] (.blk (.seq (.reg []) (.seq (.regD [(7, 0, true)] [0, 1, 2, 3, 4, 5, 6, 7] []) (.cond (.seq (.reg []) (.reg [])) .nil)))) (.reg []))))))))
set_option maxRecDepth 100000 in
theorem nf23 (units : Option Addr) (units_n : Nat) (units_c : Nat) (c_Incident : Int) (c_Kind : Int) (c_Unit : Int) (c_Time : Int) (w : World) (R : Ending → World → Prop) (h :
(∀ w1 : World, ((w1 = (w.alloc (Obj.cells #[(Value.int IntKind.i64 c_Incident), (Value.int IntKind.i64 c_Kind), (Value.int IntKind.i64 c_Unit), (Value.int IntKind.i64 c_Time)] 51 (0, 0)))) →
(∃ k3 : (Nat → (Int → (World → Prop))), ((∃ n4 : Nat, (k3 n4 0 w1)) ∧
(∀ n5 : Nat, ((Nat → Value) →
(∀ w7 : World, (∀ x8 : Int, ((k3 n5 x8 w7) →
((((decide (x8 < ((units_n : Nat) : Int))) = true) →
(∀ k11 : (World → Prop), ((∀ w13 : World, (((Nat → Value) →
(∃ n16 : Nat, ((n16 < n5) ∧
(k3 n16 (IntKind.wrap IntKind.i64 (x8 + 1)) w13)))) →
(k11 w13))) →
(∀ w17 : World, ((w17 = w7.drew) →
(∃ a19 : Addr, ((units = (some a19)) ∧
((((0 : Int) ≤ x8) ∧
(x8 < ((units_n : Nat) : Int))) ∧
(∃ x20 : Int, (((w17.cell? (Addr.add a19 ((x8).toNat * 10))) = (some (Value.int IntKind.i64 x20))) ∧
(∃ x21 : Int, (((w17.cell? (⟨(hs w), 2, none⟩ : Addr)) = (some (Value.int IntKind.i64 x21))) ∧
((((decide (x20 = x21)) = true) →
(∃ a23 : Addr, ((units = (some a23)) ∧
((((0 : Int) ≤ x8) ∧
(x8 < ((units_n : Nat) : Int))) ∧
((Nf.There w17 (Addr.add (Addr.add a23 ((x8).toNat * 10)) 3) 1) ∧
(∀ w24 : World, ((w24 = (Nf.setCells w17 (Addr.add (Addr.add a23 ((x8).toNat * 10)) 3) [(Value.int IntKind.i64 2)] 0)) →
(∃ x26 : Int, (((w24.cell? (⟨(hs w), 0, none⟩ : Addr)) = (some (Value.int IntKind.i64 x26))) ∧
(∃ a27 : Addr, ((units = (some a27)) ∧
((((0 : Int) ≤ x8) ∧
(x8 < ((units_n : Nat) : Int))) ∧
((Nf.There w24 (Addr.add (Addr.add a27 ((x8).toNat * 10)) 7) 1) ∧
(∀ w28 : World, ((w28 = (Nf.setCells w24 (Addr.add (Addr.add a27 ((x8).toNat * 10)) 7) [(Value.int IntKind.i64 x26)] 0)) →
(k11 w28)))))))))))))))) ∧
(((decide (x20 = x21)) = false) →
(k11 w17))))))))))))))) ∧
(((decide (x8 < ((units_n : Nat) : Int))) = false) →
(R (Ending.returned (Value.tuple #[])) w7))))))))))))) :
    Calls Try.prog 23 #[(.slice units units_n units_c), (.agg #[(.int .i64 c_Incident), (.int .i64 c_Kind), (.int .i64 c_Unit), (.int .i64 c_Time)])] w R :=
  calls_of_vc an23 Try.func23 rfl (by kernel_rfl) (by kernel_rfl) (Eq.mp (by kernel_rfl) h)

/-- slices.Clone[[]int,int] -/
def an27 : An := (.seq (.reg []) (.seq (.seq (.reg [(1, 3, true)]) (.cond (.seq (.reg []) .nil) .nil)) (.seq (.reg [(2, 1, false)]) .nil)))
set_option maxRecDepth 100000 in
theorem nf27 (s : Option Addr) (s_n : Nat) (s_c : Nat) (w : World) (R : Ending → World → Prop) (h :
((((Option.isNone s) = true) →
(R (Ending.returned (Value.slice none 0 0)) w)) ∧
(((Option.isNone s) = false) →
(∀ w3 : World, ((w3 = (w.alloc (Obj.cells #[] 3 (0, 0)))) →
(RunOk Try.prog (Nf.Hold (Builtin.append_ #[31, 31] 31 #[(Value.slice (some (⟨(hs w), 0, none⟩ : Addr)) 0 0), (Value.slice s s_n s_c)])) w3 (fun (v5 : Value) => (fun (w6 : World) => (∃ o7 : Option Addr, (∃ n8 : Nat, (∃ n9 : Nat, ((v5 = (Value.slice o7 n8 n9)) ∧
(R (Ending.returned (Value.slice o7 n8 n9)) w6))))))))))))) :
    Calls Try.prog 27 #[(.slice s s_n s_c)] w R :=
  calls_of_vc an27 Try.func27 rfl (by kernel_rfl) (by kernel_rfl) (Eq.mp (by kernel_rfl) h)

/-- slices.Equal[[]int,int] -/
def an28 : An := (.seq (.reg []) (.seq (.seq (.reg [(4, 0, true)]) (.cond (.seq (.reg []) .nil) .nil)) (.seq (.seq (.reg []) (.blk (.loop [(13, .int .i64)] (.seq (.reg [(0, 0, true)]) (.seq (.cond .nil .nil) (.seq (.blk (.seq (.reg []) (.seq (.regD [(8, 0, true)] [0, 1, 2, 3, 4, 5, 6, 7, 8] []) (.cond (.seq (.reg []) .nil) .nil)))) (.reg []))))))) (.seq (.reg []) .nil))))
set_option maxRecDepth 100000 in
theorem nf28 (s1 : Option Addr) (s1_n : Nat) (s1_c : Nat) (s2 : Option Addr) (s2_n : Nat) (s2_c : Nat) (w : World) (R : Ending → World → Prop) (h :
((((!(decide (((s1_n : Nat) : Int) = ((s2_n : Nat) : Int)))) = true) →
(R (Ending.returned (Value.bool false)) w)) ∧
(((!(decide (((s1_n : Nat) : Int) = ((s2_n : Nat) : Int)))) = false) →
(∃ k3 : (Nat → (Int → (World → Prop))), ((∃ n4 : Nat, (k3 n4 0 w)) ∧
(∀ n5 : Nat, ((Nat → Value) →
(∀ w7 : World, (∀ x8 : Int, ((k3 n5 x8 w7) →
((((decide (x8 < ((s1_n : Nat) : Int))) = true) →
(∀ w11 : World, ((w11 = w7.drew) →
(∃ a13 : Addr, ((s1 = (some a13)) ∧
((((0 : Int) ≤ x8) ∧
(x8 < ((s1_n : Nat) : Int))) ∧
(∃ x14 : Int, (((w11.cell? (Addr.add a13 ((x8).toNat * 1))) = (some (Value.int IntKind.i64 x14))) ∧
(∃ a15 : Addr, ((s2 = (some a15)) ∧
((((0 : Int) ≤ x8) ∧
(x8 < ((s2_n : Nat) : Int))) ∧
(∃ x16 : Int, (((w11.cell? (Addr.add a15 ((x8).toNat * 1))) = (some (Value.int IntKind.i64 x16))) ∧
((((!(decide (x14 = x16))) = true) →
(R (Ending.returned (Value.bool false)) w11)) ∧
(((!(decide (x14 = x16))) = false) →
(∃ n19 : Nat, ((n19 < n5) ∧
(k3 n19 (IntKind.wrap IntKind.i64 (x8 + 1)) w11)))))))))))))))))) ∧
(((decide (x8 < ((s1_n : Nat) : Int))) = false) →
(R (Ending.returned (Value.bool true)) w7))))))))))))) :
    Calls Try.prog 28 #[(.slice s1 s1_n s1_c), (.slice s2 s2_n s2_c)] w R :=
  calls_of_vc an28 Try.func28 rfl (by kernel_rfl) (by kernel_rfl) (Eq.mp (by kernel_rfl) h)

/-- samaritan/responseplan.Satisfies -/
def an29 : An := (.seq (.reg []) (.seq (.seq (.reg [(1, 0, true), (5, 0, true)]) (.cond (.seq (.reg []) .nil) .nil)) (.seq (.reg [(2, 0, true), (5, 0, true), (8, 0, true)]) .nil)))
set_option maxRecDepth 100000 in
theorem nf29 (kind : Int) (want : Int) (w : World) (R : Ending → World → Prop) (h :
(Calls Try.prog 49 #[(Value.int IntKind.i64 kind)] w (fun (e1 : Ending) => (fun (w2 : World) => (∃ b3 : Bool, ((e1 = (Ending.returned (Value.bool b3))) ∧
(((b3 = true) →
(Calls Try.prog 49 #[(Value.int IntKind.i64 want)] w2 (fun (e5 : Ending) => (fun (w6 : World) => (∃ b7 : Bool, ((e5 = (Ending.returned (Value.bool b7))) ∧
(((b7 = true) →
((((decide (kind = want)) = true) →
(R (Ending.returned (Value.bool true)) w6)) ∧
(((decide (kind = want)) = false) →
((((decide (kind = 2)) = true) →
((((decide (want = 1)) = true) →
(R (Ending.returned (Value.bool true)) w6)) ∧
(((decide (want = 1)) = false) →
(R (Ending.returned (Value.bool false)) w6)))) ∧
(((decide (kind = 2)) = false) →
(R (Ending.returned (Value.bool false)) w6)))))) ∧
((b7 = false) →
(R (Ending.returned (Value.bool false)) w6))))))))) ∧
((b3 = false) →
(R (Ending.returned (Value.bool false)) w2))))))))) :
    Calls Try.prog 29 #[(.int .i64 kind), (.int .i64 want)] w R :=
  calls_of_vc an29 Try.func29 rfl (by kernel_rfl) (by kernel_rfl) (Eq.mp (by kernel_rfl) h)

/-- samaritan/responseplan.isKind -/
def an49 : An := (.seq (.reg []) (.seq (.reg [(1, 0, true), (4, 0, true)]) .nil))
set_option maxRecDepth 100000 in
theorem nf49 (kind : Int) (w : World) (R : Ending → World → Prop) (h :
((((decide (kind ≥ 1)) = true) →
((((decide (kind ≤ 4)) = true) →
(R (Ending.returned (Value.bool true)) w)) ∧
(((decide (kind ≤ 4)) = false) →
(R (Ending.returned (Value.bool false)) w)))) ∧
(((decide (kind ≥ 1)) = false) →
(R (Ending.returned (Value.bool false)) w)))) :
    Calls Try.prog 49 #[(.int .i64 kind)] w R :=
  calls_of_vc an49 Try.func49 rfl (by kernel_rfl) (by kernel_rfl) (Eq.mp (by kernel_rfl) h)

/-- samaritan/dispatch.limited[samaritan/dispatchcost.Slot] -/
def an41 : An := (.seq (.reg []) (.seq (.reg [(4, 2, false)]) .nil))
set_option maxRecDepth 100000 in
theorem nf41 (l : Option Addr) (l_n : Nat) (l_c : Nat) (w : World) (R : Ending → World → Prop) (h :
((((0 : Int) ≤ (if (64 < ((l_n : Nat) : Int)) then 64 else ((l_n : Nat) : Int))) ∧
((if (64 < ((l_n : Nat) : Int)) then 64 else ((l_n : Nat) : Int)) ≤ ((l_c : Nat) : Int))) ∧
(R (Ending.returned (Value.slice (if (l_c = 0) then l else (Option.map (fun (x : Addr) => x) l)) (((if (64 < ((l_n : Nat) : Int)) then 64 else ((l_n : Nat) : Int))).toNat - 0) (l_c - 0))) w))) :
    Calls Try.prog 41 #[(.slice l l_n l_c)] w R :=
  calls_of_vc an41 Try.func41 rfl (by kernel_rfl) (by kernel_rfl) (Eq.mp (by kernel_rfl) h)

/-- samaritan/dispatch.limited[int] -/
def an42 : An := (.seq (.reg []) (.seq (.reg [(4, 2, false)]) .nil))
set_option maxRecDepth 100000 in
theorem nf42 (l : Option Addr) (l_n : Nat) (l_c : Nat) (w : World) (R : Ending → World → Prop) (h :
((((0 : Int) ≤ (if (64 < ((l_n : Nat) : Int)) then 64 else ((l_n : Nat) : Int))) ∧
((if (64 < ((l_n : Nat) : Int)) then 64 else ((l_n : Nat) : Int)) ≤ ((l_c : Nat) : Int))) ∧
(R (Ending.returned (Value.slice (if (l_c = 0) then l else (Option.map (fun (x : Addr) => x) l)) (((if (64 < ((l_n : Nat) : Int)) then 64 else ((l_n : Nat) : Int))).toNat - 0) (l_c - 0))) w))) :
    Calls Try.prog 42 #[(.slice l l_n l_c)] w R :=
  calls_of_vc an42 Try.func42 rfl (by kernel_rfl) (by kernel_rfl) (Eq.mp (by kernel_rfl) h)

/-- samaritan/dispatchcost.openOnes$1 -/
def an44 : An := (.seq (.reg []) (.seq (.regD [] [0, 1, 2, 3, 5, 6, 7, 8, 10, 11, 12, 13, 4, 9, 14, 15, 16, 17] [4, 9, 14, 15, 16]) .nil))
set_option maxRecDepth 100000 in
theorem nf44 (a_ID : Int) (a_Urgency : Int) (a_Code : ByteArray) (a_Nodes : Option Addr) (a_Nodes_n : Nat) (a_Nodes_c : Nat) (a_District : Int) (a_Since : Int) (a_Calls : Option Addr) (a_Calls_n : Nat) (a_Calls_c : Nat) (a_Units : Option Addr) (a_Units_n : Nat) (a_Units_c : Nat) (a_MergedInto : Int) (a_Closed : Bool) (b_ID : Int) (b_Urgency : Int) (b_Code : ByteArray) (b_Nodes : Option Addr) (b_Nodes_n : Nat) (b_Nodes_c : Nat) (b_District : Int) (b_Since : Int) (b_Calls : Option Addr) (b_Calls_n : Nat) (b_Calls_c : Nat) (b_Units : Option Addr) (b_Units_n : Nat) (b_Units_c : Nat) (b_MergedInto : Int) (b_Closed : Bool) (w : World) (R : Ending → World → Prop) (h :
(∀ w1 : World, ((w1 = (w.alloc (Obj.cells #[(Value.int IntKind.i64 a_ID), (Value.int IntKind.i64 a_Urgency), (Value.string a_Code), (Value.slice a_Nodes a_Nodes_n a_Nodes_c), (Value.int IntKind.i64 a_District), (Value.int IntKind.i64 a_Since), (Value.slice a_Calls a_Calls_n a_Calls_c), (Value.slice a_Units a_Units_n a_Units_c), (Value.int IntKind.i64 a_MergedInto), (Value.bool a_Closed)] 34 (0, 0)))) →
(∀ w3 : World, ((w3 = (w1.alloc (Obj.cells #[(Value.int IntKind.i64 b_ID), (Value.int IntKind.i64 b_Urgency), (Value.string b_Code), (Value.slice b_Nodes b_Nodes_n b_Nodes_c), (Value.int IntKind.i64 b_District), (Value.int IntKind.i64 b_Since), (Value.slice b_Calls b_Calls_n b_Calls_c), (Value.slice b_Units b_Units_n b_Units_c), (Value.int IntKind.i64 b_MergedInto), (Value.bool b_Closed)] 34 (0, 0)))) →
(∀ w5 : World, ((w5 = w3.drew) →
(∃ x7 : Int, (((w5.cell? (⟨(hs w), 1, none⟩ : Addr)) = (some (Value.int IntKind.i64 x7))) ∧
(∃ x8 : Int, (((w5.cell? (⟨(hs w1), 1, none⟩ : Addr)) = (some (Value.int IntKind.i64 x8))) ∧
(∃ x9 : Int, (((w5.cell? (⟨(hs w), 5, none⟩ : Addr)) = (some (Value.int IntKind.i64 x9))) ∧
(∃ x10 : Int, (((w5.cell? (⟨(hs w1), 5, none⟩ : Addr)) = (some (Value.int IntKind.i64 x10))) ∧
(∃ x11 : Int, (((w5.cell? (⟨(hs w), 0, none⟩ : Addr)) = (some (Value.int IntKind.i64 x11))) ∧
(∃ x12 : Int, (((w5.cell? (⟨(hs w1), 0, none⟩ : Addr)) = (some (Value.int IntKind.i64 x12))) ∧
(Calls Try.prog 46 #[(Value.int IntKind.i64 x7), (Value.int IntKind.i64 x8)] w5 (fun (e13 : Ending) => (fun (w14 : World) => (∃ x15 : Int, ((e13 = (Ending.returned (Value.int IntKind.i64 x15))) ∧
((Nf.Kept w5 w14 (⟨(hs w1), 0, none⟩ : Addr) 1) ∧
((Nf.Kept w5 w14 (⟨(hs w), 0, none⟩ : Addr) 1) ∧
((Nf.Kept w5 w14 (⟨(hs w1), 5, none⟩ : Addr) 1) ∧
((Nf.Kept w5 w14 (⟨(hs w), 5, none⟩ : Addr) 1) ∧
(Calls Try.prog 47 #[(Value.int IntKind.i64 x9), (Value.int IntKind.i64 x10)] w14 (fun (e16 : Ending) => (fun (w17 : World) => (∃ x18 : Int, ((e16 = (Ending.returned (Value.int IntKind.i64 x18))) ∧
((Nf.Kept w5 w17 (⟨(hs w1), 0, none⟩ : Addr) 1) ∧
((Nf.Kept w5 w17 (⟨(hs w), 0, none⟩ : Addr) 1) ∧
(Calls Try.prog 47 #[(Value.int IntKind.i64 x11), (Value.int IntKind.i64 x12)] w17 (fun (e19 : Ending) => (fun (w20 : World) => (∃ x21 : Int, ((e19 = (Ending.returned (Value.int IntKind.i64 x21))) ∧
(∀ w22 : World, ((w22 = (w20.alloc (Obj.cells #[(Value.int IntKind.i64 x15), (Value.int IntKind.i64 x18), (Value.int IntKind.i64 x21)] 3 (0, 0)))) →
(Calls Try.prog 45 #[(Value.slice (some (⟨(hs w20), 0, none⟩ : Addr)) 3 3)] w22 (fun (e24 : Ending) => (fun (w25 : World) => (∃ x26 : Int, ((e24 = (Ending.returned (Value.int IntKind.i64 x26))) ∧
(R (Ending.returned (Value.int IntKind.i64 x26)) w25)))))))))))))))))))))))))))))))))))))))))))))))) :
    Calls Try.prog 44 #[(.agg #[(.int .i64 a_ID), (.int .i64 a_Urgency), (.string a_Code), (.slice a_Nodes a_Nodes_n a_Nodes_c), (.int .i64 a_District), (.int .i64 a_Since), (.slice a_Calls a_Calls_n a_Calls_c), (.slice a_Units a_Units_n a_Units_c), (.int .i64 a_MergedInto), (.bool a_Closed)]), (.agg #[(.int .i64 b_ID), (.int .i64 b_Urgency), (.string b_Code), (.slice b_Nodes b_Nodes_n b_Nodes_c), (.int .i64 b_District), (.int .i64 b_Since), (.slice b_Calls b_Calls_n b_Calls_c), (.slice b_Units b_Units_n b_Units_c), (.int .i64 b_MergedInto), (.bool b_Closed)])] w R :=
  calls_of_vc an44 Try.func44 rfl (by kernel_rfl) (by kernel_rfl) (Eq.mp (by kernel_rfl) h)

/-- cmp.Or[int] -/
def an45 : An := (.seq (.reg []) (.seq (.reg []) (.seq (.seq (.reg []) (.blk (.loop [(8, .int .i64)] (.seq (.reg [(0, 0, true)]) (.seq (.cond .nil .nil) (.seq (.blk (.seq (.reg []) (.seq (.reg [(2, 0, true)]) (.cond (.seq (.reg []) .nil) .nil)))) (.reg []))))))) (.seq (.reg []) .nil))))
set_option maxRecDepth 100000 in
theorem nf45 (vals : Option Addr) (vals_n : Nat) (vals_c : Nat) (w : World) (R : Ending → World → Prop) (h :
(∃ k1 : (Nat → (Int → (World → Prop))), ((∃ n2 : Nat, (k1 n2 0 w)) ∧
(∀ n3 : Nat, ((Nat → Value) →
(∀ w5 : World, (∀ x6 : Int, ((k1 n3 x6 w5) →
((((decide (x6 < ((vals_n : Nat) : Int))) = true) →
(∃ a9 : Addr, ((vals = (some a9)) ∧
((((0 : Int) ≤ x6) ∧
(x6 < ((vals_n : Nat) : Int))) ∧
(∃ x10 : Int, (((w5.cell? (Addr.add a9 ((x6).toNat * 1))) = (some (Value.int IntKind.i64 x10))) ∧
((((!(decide (x10 = 0))) = true) →
(R (Ending.returned (Value.int IntKind.i64 x10)) w5)) ∧
(((!(decide (x10 = 0))) = false) →
(∃ n13 : Nat, ((n13 < n3) ∧
(k1 n13 (IntKind.wrap IntKind.i64 (x6 + 1)) w5))))))))))) ∧
(((decide (x6 < ((vals_n : Nat) : Int))) = false) →
(R (Ending.returned (Value.int IntKind.i64 0)) w5))))))))))) :
    Calls Try.prog 45 #[(.slice vals vals_n vals_c)] w R :=
  calls_of_vc an45 Try.func45 rfl (by kernel_rfl) (by kernel_rfl) (Eq.mp (by kernel_rfl) h)

/-- cmp.Compare[int] -/
def an46 : An := (.seq (.reg []) (.seq (.reg [(1, 0, true)]) (.seq (.reg [(1, 0, true)]) (.seq (.seq (.reg []) (.cond (.seq (.seq (.reg []) (.cond (.seq (.reg []) .nil) .nil)) (.seq (.reg []) .nil)) .nil)) (.seq (.seq (.reg []) (.cond (.seq (.reg []) .nil) .nil)) (.seq (.seq (.reg [(2, 0, true)]) (.cond (.seq (.reg []) .nil) .nil)) (.seq (.seq (.reg [(2, 0, true)]) (.cond (.seq (.reg []) .nil) .nil)) (.seq (.reg []) .nil))))))))
set_option maxRecDepth 100000 in
theorem nf46 (x : Int) (y : Int) (w : World) (R : Ending → World → Prop) (h :
(Calls Try.prog 59 #[(Value.int IntKind.i64 x)] w (fun (e1 : Ending) => (fun (w2 : World) => (∃ b3 : Bool, ((e1 = (Ending.returned (Value.bool b3))) ∧
(((b3 = true) →
(Calls Try.prog 59 #[(Value.int IntKind.i64 y)] w2 (fun (e5 : Ending) => (fun (w6 : World) => (∃ b7 : Bool, ((e5 = (Ending.returned (Value.bool b7))) ∧
(((b7 = true) →
(R (Ending.returned (Value.int IntKind.i64 0)) w6)) ∧
((b7 = false) →
(R (Ending.returned (Value.int IntKind.i64 (-1))) w6))))))))) ∧
((b3 = false) →
(Calls Try.prog 59 #[(Value.int IntKind.i64 y)] w2 (fun (e11 : Ending) => (fun (w12 : World) => (∃ b13 : Bool, ((e11 = (Ending.returned (Value.bool b13))) ∧
(((b13 = true) →
(R (Ending.returned (Value.int IntKind.i64 1)) w12)) ∧
((b13 = false) →
((((decide (x < y)) = true) →
(R (Ending.returned (Value.int IntKind.i64 (-1))) w12)) ∧
(((decide (x < y)) = false) →
((((decide (x > y)) = true) →
(R (Ending.returned (Value.int IntKind.i64 1)) w12)) ∧
(((decide (x > y)) = false) →
(R (Ending.returned (Value.int IntKind.i64 0)) w12)))))))))))))))))))) :
    Calls Try.prog 46 #[(.int .i64 x), (.int .i64 y)] w R :=
  calls_of_vc an46 Try.func46 rfl (by kernel_rfl) (by kernel_rfl) (Eq.mp (by kernel_rfl) h)

/-- cmp.Compare[int64] -/
def an47 : An := (.seq (.reg []) (.seq (.reg [(1, 0, true)]) (.seq (.reg [(1, 0, true)]) (.seq (.seq (.reg []) (.cond (.seq (.seq (.reg []) (.cond (.seq (.reg []) .nil) .nil)) (.seq (.reg []) .nil)) .nil)) (.seq (.seq (.reg []) (.cond (.seq (.reg []) .nil) .nil)) (.seq (.seq (.reg [(2, 0, true)]) (.cond (.seq (.reg []) .nil) .nil)) (.seq (.seq (.reg [(2, 0, true)]) (.cond (.seq (.reg []) .nil) .nil)) (.seq (.reg []) .nil))))))))
set_option maxRecDepth 100000 in
theorem nf47 (x : Int) (y : Int) (w : World) (R : Ending → World → Prop) (h :
(Calls Try.prog 60 #[(Value.int IntKind.i64 x)] w (fun (e1 : Ending) => (fun (w2 : World) => (∃ b3 : Bool, ((e1 = (Ending.returned (Value.bool b3))) ∧
(((b3 = true) →
(Calls Try.prog 60 #[(Value.int IntKind.i64 y)] w2 (fun (e5 : Ending) => (fun (w6 : World) => (∃ b7 : Bool, ((e5 = (Ending.returned (Value.bool b7))) ∧
(((b7 = true) →
(R (Ending.returned (Value.int IntKind.i64 0)) w6)) ∧
((b7 = false) →
(R (Ending.returned (Value.int IntKind.i64 (-1))) w6))))))))) ∧
((b3 = false) →
(Calls Try.prog 60 #[(Value.int IntKind.i64 y)] w2 (fun (e11 : Ending) => (fun (w12 : World) => (∃ b13 : Bool, ((e11 = (Ending.returned (Value.bool b13))) ∧
(((b13 = true) →
(R (Ending.returned (Value.int IntKind.i64 1)) w12)) ∧
((b13 = false) →
((((decide (x < y)) = true) →
(R (Ending.returned (Value.int IntKind.i64 (-1))) w12)) ∧
(((decide (x < y)) = false) →
((((decide (x > y)) = true) →
(R (Ending.returned (Value.int IntKind.i64 1)) w12)) ∧
(((decide (x > y)) = false) →
(R (Ending.returned (Value.int IntKind.i64 0)) w12)))))))))))))))))))) :
    Calls Try.prog 47 #[(.int .i64 x), (.int .i64 y)] w R :=
  calls_of_vc an47 Try.func47 rfl (by kernel_rfl) (by kernel_rfl) (Eq.mp (by kernel_rfl) h)

/-- cmp.isNaN[int] -/
def an59 : An := (.seq (.reg []) (.seq (.reg [(2, 0, true)]) .nil))
set_option maxRecDepth 100000 in
theorem nf59 (x : Int) (w : World) (R : Ending → World → Prop) (h :
((((!(decide (x = x))) = true) →
(R (Ending.returned (Value.bool true)) w)) ∧
(((!(decide (x = x))) = false) →
(R (Ending.returned (Value.bool false)) w)))) :
    Calls Try.prog 59 #[(.int .i64 x)] w R :=
  calls_of_vc an59 Try.func59 rfl (by kernel_rfl) (by kernel_rfl) (Eq.mp (by kernel_rfl) h)

/-- cmp.isNaN[int64] -/
def an60 : An := (.seq (.reg []) (.seq (.reg [(2, 0, true)]) .nil))
set_option maxRecDepth 100000 in
theorem nf60 (x : Int) (w : World) (R : Ending → World → Prop) (h :
((((!(decide (x = x))) = true) →
(R (Ending.returned (Value.bool true)) w)) ∧
(((!(decide (x = x))) = false) →
(R (Ending.returned (Value.bool false)) w)))) :
    Calls Try.prog 60 #[(.int .i64 x)] w R :=
  calls_of_vc an60 Try.func60 rfl (by kernel_rfl) (by kernel_rfl) (Eq.mp (by kernel_rfl) h)

/-- slices.SortStableFunc[[]samaritan/api.Incident,samaritan/api.Incident] -/
def an43 : An := (.reg [])
set_option maxRecDepth 100000 in
theorem nf43 (x : Option Addr) (x_n : Nat) (x_c : Nat) (cmp_f : Fn) (cmp_a : Array Value) (cmp_c : Array Value) (w : World) (R : Ending → World → Prop) (h :
(Calls Try.prog 58 #[(Value.slice x x_n x_c), (Value.int IntKind.i64 ((x_n : Nat) : Int)), (Value.func cmp_f cmp_a cmp_c)] w (fun (e1 : Ending) => (fun (w2 : World) => ((e1 = (Ending.returned (Value.tuple #[]))) ∧
(R (Ending.returned (Value.tuple #[])) w2)))))) :
    Calls Try.prog 43 #[(.slice x x_n x_c), (.func cmp_f cmp_a cmp_c)] w R :=
  calls_of_vc an43 Try.func43 rfl (by kernel_rfl) (by kernel_rfl) (Eq.mp (by kernel_rfl) h)

/-- slices.stableCmpFunc[samaritan/api.Incident] -/
def an58 : An := (.seq (.reg []) (.seq (.reg []) (.seq (.blk (.loop [(7, .int .i64), (8, .int .i64)] (.seq (.seq (.reg [(2, 0, true)]) (.cond .nil .nil)) (.blk (.seq (.reg []) (.seq (.reg []) (.reg []))))))) (.seq (.reg []) (.blk (.loop [(6, .int .i64)] (.seq (.seq (.reg [(2, 0, true)]) (.cond .nil .nil)) (.blk (.seq (.reg []) (.seq (.blk (.loop [(7, .int .i64), (8, .int .i64)] (.seq (.seq (.reg [(2, 0, true)]) (.cond .nil .nil)) (.blk (.seq (.reg []) (.seq (.reg []) (.reg []))))))) (.cut [] (.seq (.reg []) (.seq (.reg [(2, 0, true)]) (.cond (.reg []) .nil))) (.reg []))))))))))))
set_option maxRecDepth 100000 in
theorem nf58 (data : Option Addr) (data_n : Nat) (data_c : Nat) (n : Int) (cmp_f : Fn) (cmp_a : Array Value) (cmp_c : Array Value) (w : World) (R : Ending → World → Prop) (h :
(∃ k1 : (Nat → (Int → (Int → (World → Prop)))), ((∃ n2 : Nat, (k1 n2 0 20 w)) ∧
(∀ n3 : Nat, ((Nat → Value) →
(∀ w5 : World, (∀ x6 : Int, (∀ x7 : Int, ((k1 n3 x6 x7 w5) →
((((decide (x7 ≤ n)) = true) →
(Calls Try.prog 75 #[(Value.slice data data_n data_c), (Value.int IntKind.i64 x6), (Value.int IntKind.i64 x7), (Value.func cmp_f cmp_a cmp_c)] w5 (fun (e10 : Ending) => (fun (w11 : World) => ((e10 = (Ending.returned (Value.tuple #[]))) ∧
(∃ n12 : Nat, ((n12 < n3) ∧
(k1 n12 x7 (IntKind.wrap IntKind.i64 (x7 + 20)) w11)))))))) ∧
(((decide (x7 ≤ n)) = false) →
(Calls Try.prog 75 #[(Value.slice data data_n data_c), (Value.int IntKind.i64 x6), (Value.int IntKind.i64 n), (Value.func cmp_f cmp_a cmp_c)] w5 (fun (e14 : Ending) => (fun (w15 : World) => ((e14 = (Ending.returned (Value.tuple #[]))) ∧
(∃ k16 : (Nat → (Int → (World → Prop))), ((∃ n17 : Nat, (k16 n17 20 w15)) ∧
(∀ n18 : Nat, ((Nat → Value) →
(∀ w20 : World, (∀ x21 : Int, ((k16 n18 x21 w20) →
((((decide (x21 < n)) = true) →
(∃ k24 : (Nat → (Int → (Int → (World → Prop)))), ((∃ n25 : Nat, (k24 n25 0 (IntKind.wrap IntKind.i64 (2 * x21)) w20)) ∧
(∀ n26 : Nat, ((Nat → Value) →
(∀ w28 : World, (∀ x29 : Int, (∀ x30 : Int, ((k24 n26 x29 x30 w28) →
((((decide (x30 ≤ n)) = true) →
(Calls Try.prog 76 #[(Value.slice data data_n data_c), (Value.int IntKind.i64 x29), (Value.int IntKind.i64 (IntKind.wrap IntKind.i64 (x29 + x21))), (Value.int IntKind.i64 x30), (Value.func cmp_f cmp_a cmp_c)] w28 (fun (e33 : Ending) => (fun (w34 : World) => ((e33 = (Ending.returned (Value.tuple #[]))) ∧
(∃ n35 : Nat, ((n35 < n26) ∧
(k24 n35 x30 (IntKind.wrap IntKind.i64 (x30 + (IntKind.wrap IntKind.i64 (2 * x21)))) w34)))))))) ∧
(((decide (x30 ≤ n)) = false) →
(∀ k37 : (World → Prop), ((∀ w39 : World, (((Nat → Value) →
(∃ n42 : Nat, ((n42 < n18) ∧
(k16 n42 (IntKind.wrap IntKind.i64 (x21 * 2)) w39)))) →
(k37 w39))) →
((((decide ((IntKind.wrap IntKind.i64 (x29 + x21)) < n)) = true) →
(Calls Try.prog 76 #[(Value.slice data data_n data_c), (Value.int IntKind.i64 x29), (Value.int IntKind.i64 (IntKind.wrap IntKind.i64 (x29 + x21))), (Value.int IntKind.i64 n), (Value.func cmp_f cmp_a cmp_c)] w28 (fun (e44 : Ending) => (fun (w45 : World) => ((e44 = (Ending.returned (Value.tuple #[]))) ∧
(k37 w45)))))) ∧
(((decide ((IntKind.wrap IntKind.i64 (x29 + x21)) < n)) = false) →
(k37 w28)))))))))))))))) ∧
(((decide (x21 < n)) = false) →
(R (Ending.returned (Value.tuple #[])) w20))))))))))))))))))))))))) :
    Calls Try.prog 58 #[(.slice data data_n data_c), (.int .i64 n), (.func cmp_f cmp_a cmp_c)] w R :=
  calls_of_vc an58 Try.func58 rfl (by kernel_rfl) (by kernel_rfl) (Eq.mp (by kernel_rfl) h)

/-- slices.insertionSortCmpFunc[samaritan/api.Incident] -/
def an75 : An := (.seq (.reg []) (.blk (.loop [(8, .int .i64)] (.seq (.seq (.reg [(2, 0, true)]) (.cond .nil .nil)) (.seq (.blk (.seq (.reg []) (.blk (.loop [(9, .int .i64)] (.seq (.seq (.regD [(2, 0, true), (14, 1, false), (15, 0, true)] [0, 1, 2, 3, 4, 5, 6, 7, 8, 9, 10, 11, 12, 13, 14, 15, 16] [14]) (.cond .nil .nil)) (.seq (.blk (.regD [] [0, 1, 2, 3, 4, 5, 6, 7, 8, 9, 10, 11, 12, 13, 14, 15, 16, 17] [15, 17])) (.reg []))))))) (.reg []))))))
set_option maxRecDepth 100000 in
theorem nf75 (data : Option Addr) (data_n : Nat) (data_c : Nat) (a : Int) (b : Int) (cmp_f : Fn) (cmp_a : Array Value) (cmp_c : Array Value) (w : World) (R : Ending → World → Prop) (h :
(∃ k1 : (Nat → (Int → (World → Prop))), ((∃ n2 : Nat, (k1 n2 (IntKind.wrap IntKind.i64 (a + 1)) w)) ∧
(∀ n3 : Nat, ((Nat → Value) →
(∀ w5 : World, (∀ x6 : Int, ((k1 n3 x6 w5) →
((((decide (x6 < b)) = true) →
(∃ k9 : (Nat → (Int → (World → Prop))), ((∃ n10 : Nat, (k9 n10 x6 w5)) ∧
(∀ n11 : Nat, ((Nat → Value) →
(∀ w13 : World, (∀ x14 : Int, ((k9 n11 x14 w13) →
(∀ w16 : World, ((w16 = w13.drew) →
((((decide (x14 > a)) = true) →
(∃ a19 : Addr, ((data = (some a19)) ∧
((((0 : Int) ≤ x14) ∧
(x14 < ((data_n : Nat) : Int))) ∧
(∃ x20 : Int, (((w16.cell? (Addr.add a19 ((x14).toNat * 10))) = (some (Value.int IntKind.i64 x20))) ∧
(∃ x21 : Int, (((w16.cell? (Addr.add (Addr.add a19 ((x14).toNat * 10)) 1)) = (some (Value.int IntKind.i64 x21))) ∧
(∃ s22 : ByteArray, (((w16.cell? (Addr.add (Addr.add a19 ((x14).toNat * 10)) 2)) = (some (Value.string s22))) ∧
(∃ o23 : Option Addr, (∃ n24 : Nat, (∃ n25 : Nat, (((w16.cell? (Addr.add (Addr.add a19 ((x14).toNat * 10)) 3)) = (some (Value.slice o23 n24 n25))) ∧
(∃ x26 : Int, (((w16.cell? (Addr.add (Addr.add a19 ((x14).toNat * 10)) 4)) = (some (Value.int IntKind.i64 x26))) ∧
(∃ x27 : Int, (((w16.cell? (Addr.add (Addr.add a19 ((x14).toNat * 10)) 5)) = (some (Value.int IntKind.i64 x27))) ∧
(∃ o28 : Option Addr, (∃ n29 : Nat, (∃ n30 : Nat, (((w16.cell? (Addr.add (Addr.add a19 ((x14).toNat * 10)) 6)) = (some (Value.slice o28 n29 n30))) ∧
(∃ o31 : Option Addr, (∃ n32 : Nat, (∃ n33 : Nat, (((w16.cell? (Addr.add (Addr.add a19 ((x14).toNat * 10)) 7)) = (some (Value.slice o31 n32 n33))) ∧
(∃ x34 : Int, (((w16.cell? (Addr.add (Addr.add a19 ((x14).toNat * 10)) 8)) = (some (Value.int IntKind.i64 x34))) ∧
(∃ b35 : Bool, (((w16.cell? (Addr.add (Addr.add a19 ((x14).toNat * 10)) 9)) = (some (Value.bool b35))) ∧
(∃ a36 : Addr, ((data = (some a36)) ∧
((((0 : Int) ≤ (IntKind.wrap IntKind.i64 (x14 - 1))) ∧
((IntKind.wrap IntKind.i64 (x14 - 1)) < ((data_n : Nat) : Int))) ∧
(∃ x37 : Int, (((w16.cell? (Addr.add a36 (((IntKind.wrap IntKind.i64 (x14 - 1))).toNat * 10))) = (some (Value.int IntKind.i64 x37))) ∧
(∃ x38 : Int, (((w16.cell? (Addr.add (Addr.add a36 (((IntKind.wrap IntKind.i64 (x14 - 1))).toNat * 10)) 1)) = (some (Value.int IntKind.i64 x38))) ∧
(∃ s39 : ByteArray, (((w16.cell? (Addr.add (Addr.add a36 (((IntKind.wrap IntKind.i64 (x14 - 1))).toNat * 10)) 2)) = (some (Value.string s39))) ∧
(∃ o40 : Option Addr, (∃ n41 : Nat, (∃ n42 : Nat, (((w16.cell? (Addr.add (Addr.add a36 (((IntKind.wrap IntKind.i64 (x14 - 1))).toNat * 10)) 3)) = (some (Value.slice o40 n41 n42))) ∧
(∃ x43 : Int, (((w16.cell? (Addr.add (Addr.add a36 (((IntKind.wrap IntKind.i64 (x14 - 1))).toNat * 10)) 4)) = (some (Value.int IntKind.i64 x43))) ∧
(∃ x44 : Int, (((w16.cell? (Addr.add (Addr.add a36 (((IntKind.wrap IntKind.i64 (x14 - 1))).toNat * 10)) 5)) = (some (Value.int IntKind.i64 x44))) ∧
(∃ o45 : Option Addr, (∃ n46 : Nat, (∃ n47 : Nat, (((w16.cell? (Addr.add (Addr.add a36 (((IntKind.wrap IntKind.i64 (x14 - 1))).toNat * 10)) 6)) = (some (Value.slice o45 n46 n47))) ∧
(∃ o48 : Option Addr, (∃ n49 : Nat, (∃ n50 : Nat, (((w16.cell? (Addr.add (Addr.add a36 (((IntKind.wrap IntKind.i64 (x14 - 1))).toNat * 10)) 7)) = (some (Value.slice o48 n49 n50))) ∧
(∃ x51 : Int, (((w16.cell? (Addr.add (Addr.add a36 (((IntKind.wrap IntKind.i64 (x14 - 1))).toNat * 10)) 8)) = (some (Value.int IntKind.i64 x51))) ∧
(∃ b52 : Bool, (((w16.cell? (Addr.add (Addr.add a36 (((IntKind.wrap IntKind.i64 (x14 - 1))).toNat * 10)) 9)) = (some (Value.bool b52))) ∧
(CallsV Try.prog (Value.func cmp_f cmp_a cmp_c) [(Value.agg #[(Value.int IntKind.i64 x20), (Value.int IntKind.i64 x21), (Value.string s22), (Value.slice o23 n24 n25), (Value.int IntKind.i64 x26), (Value.int IntKind.i64 x27), (Value.slice o28 n29 n30), (Value.slice o31 n32 n33), (Value.int IntKind.i64 x34), (Value.bool b35)]), (Value.agg #[(Value.int IntKind.i64 x37), (Value.int IntKind.i64 x38), (Value.string s39), (Value.slice o40 n41 n42), (Value.int IntKind.i64 x43), (Value.int IntKind.i64 x44), (Value.slice o45 n46 n47), (Value.slice o48 n49 n50), (Value.int IntKind.i64 x51), (Value.bool b52)])] w16 (fun (e53 : Ending) => (fun (w54 : World) => (∃ x55 : Int, ((e53 = (Ending.returned (Value.int IntKind.i64 x55))) ∧
((((decide (x55 < 0)) = true) →
(∀ w57 : World, ((w57 = w54.drew) →
(∃ a59 : Addr, ((data = (some a59)) ∧
((((0 : Int) ≤ (IntKind.wrap IntKind.i64 (x14 - 1))) ∧
((IntKind.wrap IntKind.i64 (x14 - 1)) < ((data_n : Nat) : Int))) ∧
(∃ x60 : Int, (((w57.cell? (Addr.add a59 (((IntKind.wrap IntKind.i64 (x14 - 1))).toNat * 10))) = (some (Value.int IntKind.i64 x60))) ∧
(∃ x61 : Int, (((w57.cell? (Addr.add (Addr.add a59 (((IntKind.wrap IntKind.i64 (x14 - 1))).toNat * 10)) 1)) = (some (Value.int IntKind.i64 x61))) ∧
(∃ s62 : ByteArray, (((w57.cell? (Addr.add (Addr.add a59 (((IntKind.wrap IntKind.i64 (x14 - 1))).toNat * 10)) 2)) = (some (Value.string s62))) ∧
(∃ o63 : Option Addr, (∃ n64 : Nat, (∃ n65 : Nat, (((w57.cell? (Addr.add (Addr.add a59 (((IntKind.wrap IntKind.i64 (x14 - 1))).toNat * 10)) 3)) = (some (Value.slice o63 n64 n65))) ∧
(∃ x66 : Int, (((w57.cell? (Addr.add (Addr.add a59 (((IntKind.wrap IntKind.i64 (x14 - 1))).toNat * 10)) 4)) = (some (Value.int IntKind.i64 x66))) ∧
(∃ x67 : Int, (((w57.cell? (Addr.add (Addr.add a59 (((IntKind.wrap IntKind.i64 (x14 - 1))).toNat * 10)) 5)) = (some (Value.int IntKind.i64 x67))) ∧
(∃ o68 : Option Addr, (∃ n69 : Nat, (∃ n70 : Nat, (((w57.cell? (Addr.add (Addr.add a59 (((IntKind.wrap IntKind.i64 (x14 - 1))).toNat * 10)) 6)) = (some (Value.slice o68 n69 n70))) ∧
(∃ o71 : Option Addr, (∃ n72 : Nat, (∃ n73 : Nat, (((w57.cell? (Addr.add (Addr.add a59 (((IntKind.wrap IntKind.i64 (x14 - 1))).toNat * 10)) 7)) = (some (Value.slice o71 n72 n73))) ∧
(∃ x74 : Int, (((w57.cell? (Addr.add (Addr.add a59 (((IntKind.wrap IntKind.i64 (x14 - 1))).toNat * 10)) 8)) = (some (Value.int IntKind.i64 x74))) ∧
(∃ b75 : Bool, (((w57.cell? (Addr.add (Addr.add a59 (((IntKind.wrap IntKind.i64 (x14 - 1))).toNat * 10)) 9)) = (some (Value.bool b75))) ∧
(∃ a76 : Addr, ((data = (some a76)) ∧
((((0 : Int) ≤ x14) ∧
(x14 < ((data_n : Nat) : Int))) ∧
(∃ x77 : Int, (((w57.cell? (Addr.add a76 ((x14).toNat * 10))) = (some (Value.int IntKind.i64 x77))) ∧
(∃ x78 : Int, (((w57.cell? (Addr.add (Addr.add a76 ((x14).toNat * 10)) 1)) = (some (Value.int IntKind.i64 x78))) ∧
(∃ s79 : ByteArray, (((w57.cell? (Addr.add (Addr.add a76 ((x14).toNat * 10)) 2)) = (some (Value.string s79))) ∧
(∃ o80 : Option Addr, (∃ n81 : Nat, (∃ n82 : Nat, (((w57.cell? (Addr.add (Addr.add a76 ((x14).toNat * 10)) 3)) = (some (Value.slice o80 n81 n82))) ∧
(∃ x83 : Int, (((w57.cell? (Addr.add (Addr.add a76 ((x14).toNat * 10)) 4)) = (some (Value.int IntKind.i64 x83))) ∧
(∃ x84 : Int, (((w57.cell? (Addr.add (Addr.add a76 ((x14).toNat * 10)) 5)) = (some (Value.int IntKind.i64 x84))) ∧
(∃ o85 : Option Addr, (∃ n86 : Nat, (∃ n87 : Nat, (((w57.cell? (Addr.add (Addr.add a76 ((x14).toNat * 10)) 6)) = (some (Value.slice o85 n86 n87))) ∧
(∃ o88 : Option Addr, (∃ n89 : Nat, (∃ n90 : Nat, (((w57.cell? (Addr.add (Addr.add a76 ((x14).toNat * 10)) 7)) = (some (Value.slice o88 n89 n90))) ∧
(∃ x91 : Int, (((w57.cell? (Addr.add (Addr.add a76 ((x14).toNat * 10)) 8)) = (some (Value.int IntKind.i64 x91))) ∧
(∃ b92 : Bool, (((w57.cell? (Addr.add (Addr.add a76 ((x14).toNat * 10)) 9)) = (some (Value.bool b92))) ∧
(∃ a93 : Addr, ((data = (some a93)) ∧
((((0 : Int) ≤ x14) ∧
(x14 < ((data_n : Nat) : Int))) ∧
((Nf.There w57 (Addr.add a93 ((x14).toNat * 10)) 10) ∧
(∀ w94 : World, ((w94 = (Nf.setCells w57 (Addr.add a93 ((x14).toNat * 10)) [(Value.int IntKind.i64 x60), (Value.int IntKind.i64 x61), (Value.string s62), (Value.slice o63 n64 n65), (Value.int IntKind.i64 x66), (Value.int IntKind.i64 x67), (Value.slice o68 n69 n70), (Value.slice o71 n72 n73), (Value.int IntKind.i64 x74), (Value.bool b75)] 0)) →
(∃ a96 : Addr, ((data = (some a96)) ∧
((((0 : Int) ≤ (IntKind.wrap IntKind.i64 (x14 - 1))) ∧
((IntKind.wrap IntKind.i64 (x14 - 1)) < ((data_n : Nat) : Int))) ∧
((Nf.There w94 (Addr.add a96 (((IntKind.wrap IntKind.i64 (x14 - 1))).toNat * 10)) 10) ∧
(∀ w97 : World, ((w97 = (Nf.setCells w94 (Addr.add a96 (((IntKind.wrap IntKind.i64 (x14 - 1))).toNat * 10)) [(Value.int IntKind.i64 x77), (Value.int IntKind.i64 x78), (Value.string s79), (Value.slice o80 n81 n82), (Value.int IntKind.i64 x83), (Value.int IntKind.i64 x84), (Value.slice o85 n86 n87), (Value.slice o88 n89 n90), (Value.int IntKind.i64 x91), (Value.bool b92)] 0)) →
(∃ n99 : Nat, ((n99 < n11) ∧
(k9 n99 (IntKind.wrap IntKind.i64 (x14 - 1)) w97)))))))))))))))))))))))))))))))))))))))))))))))))))))))))))))))))))))))))))) ∧
(((decide (x55 < 0)) = false) →
(∃ n101 : Nat, ((n101 < n3) ∧
(k1 n101 (IntKind.wrap IntKind.i64 (x6 + 1)) w54))))))))))))))))))))))))))))))))))))))))))))))))))))))))))))))))))))) ∧
(((decide (x14 > a)) = false) →
(∃ n103 : Nat, ((n103 < n3) ∧
(k1 n103 (IntKind.wrap IntKind.i64 (x6 + 1)) w16))))))))))))))) ∧
(((decide (x6 < b)) = false) →
(R (Ending.returned (Value.tuple #[])) w5))))))))))) :
    Calls Try.prog 75 #[(.slice data data_n data_c), (.int .i64 a), (.int .i64 b), (.func cmp_f cmp_a cmp_c)] w R :=
  calls_of_vc an75 Try.func75 rfl (by kernel_rfl) (by kernel_rfl) (Eq.mp (by kernel_rfl) h)

/-- samaritan/responseplan.find -/
def an48 : An := (.seq (.reg []) (.seq (.reg []) .nil))
set_option maxRecDepth 100000 in
theorem nf48 (l : Option Addr) (l_n : Nat) (l_c : Nat) (code : ByteArray) (urgency : Int) (w : World) (R : Ending → World → Prop) (h :
(∀ w1 : World, ((w1 = (w.alloc (Obj.cells #[(Value.string code)] 9 (0, 0)))) →
(∀ w3 : World, ((w3 = (w1.alloc (Obj.cells #[(Value.int IntKind.i64 urgency)] 3 (0, 0)))) →
(Calls Try.prog 61 #[(Value.slice l l_n l_c), (Value.func (Fn.func 62) #[] #[(Value.pointer (some (⟨(hs w), 0, none⟩ : Addr))), (Value.pointer (some (⟨(hs w1), 0, none⟩ : Addr)))])] w3 (fun (e5 : Ending) => (fun (w6 : World) => (∃ x7 : Int, ((e5 = (Ending.returned (Value.int IntKind.i64 x7))) ∧
(R (Ending.returned (Value.int IntKind.i64 x7)) w6))))))))))) :
    Calls Try.prog 48 #[(.slice l l_n l_c), (.string code), (.int .i64 urgency)] w R :=
  calls_of_vc an48 Try.func48 rfl (by kernel_rfl) (by kernel_rfl) (Eq.mp (by kernel_rfl) h)

/-- slices.IndexFunc[[]samaritan/api.ResponsePlan,samaritan/api.ResponsePlan] -/
def an61 : An := (.seq (.reg []) (.seq (.seq (.reg []) (.blk (.loop [(8, .int .i64)] (.seq (.reg [(0, 0, true)]) (.seq (.cond .nil .nil) (.seq (.blk (.seq (.reg []) (.seq (.reg [(5, 1, true)]) (.cond (.seq (.reg []) .nil) .nil)))) (.reg []))))))) (.seq (.reg []) .nil)))
set_option maxRecDepth 100000 in
theorem nf61 (s : Option Addr) (s_n : Nat) (s_c : Nat) (f_f : Fn) (f_a : Array Value) (f_c : Array Value) (w : World) (R : Ending → World → Prop) (h :
(∃ k1 : (Nat → (Int → (World → Prop))), ((∃ n2 : Nat, (k1 n2 0 w)) ∧
(∀ n3 : Nat, ((Nat → Value) →
(∀ w5 : World, (∀ x6 : Int, ((k1 n3 x6 w5) →
((((decide (x6 < ((s_n : Nat) : Int))) = true) →
(∃ a9 : Addr, ((s = (some a9)) ∧
((((0 : Int) ≤ x6) ∧
(x6 < ((s_n : Nat) : Int))) ∧
(∃ s10 : ByteArray, (((w5.cell? (Addr.add a9 ((x6).toNat * 3))) = (some (Value.string s10))) ∧
(∃ x11 : Int, (((w5.cell? (Addr.add (Addr.add a9 ((x6).toNat * 3)) 1)) = (some (Value.int IntKind.i64 x11))) ∧
(∃ o12 : Option Addr, (∃ n13 : Nat, (∃ n14 : Nat, (((w5.cell? (Addr.add (Addr.add a9 ((x6).toNat * 3)) 2)) = (some (Value.slice o12 n13 n14))) ∧
(CallsV Try.prog (Value.func f_f f_a f_c) [(Value.agg #[(Value.string s10), (Value.int IntKind.i64 x11), (Value.slice o12 n13 n14)])] w5 (fun (e15 : Ending) => (fun (w16 : World) => (∃ b17 : Bool, ((e15 = (Ending.returned (Value.bool b17))) ∧
(((b17 = true) →
(R (Ending.returned (Value.int IntKind.i64 x6)) w16)) ∧
((b17 = false) →
(∃ n20 : Nat, ((n20 < n3) ∧
(k1 n20 (IntKind.wrap IntKind.i64 (x6 + 1)) w16)))))))))))))))))))))) ∧
(((decide (x6 < ((s_n : Nat) : Int))) = false) →
(R (Ending.returned (Value.int IntKind.i64 (-1))) w5))))))))))) :
    Calls Try.prog 61 #[(.slice s s_n s_c), (.func f_f f_a f_c)] w R :=
  calls_of_vc an61 Try.func61 rfl (by kernel_rfl) (by kernel_rfl) (Eq.mp (by kernel_rfl) h)

/-- samaritan/responseplan.RequiredKinds -/
def an25 : An := (.seq (.reg []) (.seq (.reg []) (.cut [(7, .int .i64)] (.seq (.reg [(1, 0, true)]) (.cond (.reg []) .nil)) (.seq (.seq (.reg [(1, 0, true)]) (.cond (.seq (.reg []) .nil) .nil)) (.seq (.reg []) .nil)))))
set_option maxRecDepth 100000 in
theorem nf25 (l : Option Addr) (l_n : Nat) (l_c : Nat) (code : ByteArray) (urgency : Int) (w : World) (R : Ending → World → Prop) (h :
(Calls Try.prog 48 #[(Value.slice l l_n l_c), (Value.string code), (Value.int IntKind.i64 urgency)] w (fun (e1 : Ending) => (fun (w2 : World) => (∃ x3 : Int, ((e1 = (Ending.returned (Value.int IntKind.i64 x3))) ∧
(∀ k4 : (Int → (World → Prop)), ((∀ w6 : World, (∀ x7 : Int, (((Nat → Value) →
((((decide (x7 < 0)) = true) →
(∀ w11 : World, ((w11 = (w6.alloc (Obj.cells #[(Value.int IntKind.i64 1)] 3 (0, 0)))) →
(R (Ending.returned (Value.slice (some (⟨(hs w6), 0, none⟩ : Addr)) 1 1)) w11)))) ∧
(((decide (x7 < 0)) = false) →
(∃ a14 : Addr, ((l = (some a14)) ∧
((((0 : Int) ≤ x7) ∧
(x7 < ((l_n : Nat) : Int))) ∧
(∃ o15 : Option Addr, (∃ n16 : Nat, (∃ n17 : Nat, (((w6.cell? (Addr.add (Addr.add a14 ((x7).toNat * 3)) 2)) = (some (Value.slice o15 n16 n17))) ∧
(Calls Try.prog 27 #[(Value.slice o15 n16 n17)] w6 (fun (e18 : Ending) => (fun (w19 : World) => (∃ o20 : Option Addr, (∃ n21 : Nat, (∃ n22 : Nat, ((e18 = (Ending.returned (Value.slice o20 n21 n22))) ∧
(R (Ending.returned (Value.slice o20 n21 n22)) w19)))))))))))))))))) →
(k4 x7 w6)))) →
((((decide (x3 < 0)) = true) →
(Calls Try.prog 48 #[(Value.slice l l_n l_c), (Value.string (ByteArray.mk #[(42 : UInt8)])), (Value.int IntKind.i64 urgency)] w2 (fun (e24 : Ending) => (fun (w25 : World) => (∃ x26 : Int, ((e24 = (Ending.returned (Value.int IntKind.i64 x26))) ∧
(k4 x26 w25))))))) ∧
(((decide (x3 < 0)) = false) →
(k4 x3 w2))))))))))) :
    Calls Try.prog 25 #[(.slice l l_n l_c), (.string code), (.int .i64 urgency)] w R :=
  calls_of_vc an25 Try.func25 rfl (by kernel_rfl) (by kernel_rfl) (Eq.mp (by kernel_rfl) h)

/-- samaritan/responseplan.Unmet -/
def an26 : An := (.seq (.reg []) (.seq (.reg []) (.seq (.seq (.reg []) (.blk (.loop [(17, .int .i64)] (.seq (.reg [(0, 0, true)]) (.seq (.cond .nil .nil) (.seq (.blk (.seq (.reg []) (.reg [(2, 1, false), (4, 1, false)]))) (.reg []))))))) (.seq (.reg []) (.seq (.seq (.reg []) (.blk (.loop [(8, .slice), (28, .int .i64)] (.seq (.reg [(0, 0, true)]) (.seq (.cond .nil .nil) (.cut [(8, .slice)] (.blk (.seq (.reg []) (.seq (.reg [(2, 1, false), (3, 0, true)]) (.cond (.reg [(2, 1, false), (4, 1, false)]) (.reg [(3, 1, false)]))))) (.reg []))))))) (.seq (.reg []) (.seq (.seq (.reg []) (.blk (.loop [(11, .slice), (47, .int .i64)] (.seq (.reg [(0, 0, true)]) (.seq (.cond .nil .nil) (.cut [(11, .slice)] (.blk (.seq (.reg []) (.seq (.reg [(1, 0, true), (4, 1, false), (5, 0, true)]) (.cond (.reg [(1, 1, false), (3, 1, false)]) (.reg [(3, 1, false)]))))) (.reg []))))))) (.seq (.reg []) .nil))))))))
set_option maxRecDepth 100000 in
theorem nf26 (want : Option Addr) (want_n : Nat) (want_c : Nat) (have' : Option Addr) (have'_n : Nat) (have'_c : Nat) (w : World) (R : Ending → World → Prop) (h :
(∀ w1 : World, ((w1 = (w.alloc (Obj.map #[] 0))) →
(∃ k3 : (Nat → (Int → (World → Prop))), ((∃ n4 : Nat, (k3 n4 0 w1)) ∧
(∀ n5 : Nat, ((Nat → Value) →
(∀ w7 : World, (∀ x8 : Int, ((k3 n5 x8 w7) →
((((decide (x8 < ((have'_n : Nat) : Int))) = true) →
(∃ a11 : Addr, ((have' = (some a11)) ∧
((((0 : Int) ≤ x8) ∧
(x8 < ((have'_n : Nat) : Int))) ∧
(∃ x12 : Int, (((w7.cell? (Addr.add a11 ((x8).toNat * 1))) = (some (Value.int IntKind.i64 x12))) ∧
(RunOk Try.prog (Nf.Hold (Instr.lookup 82 (Value.map (some (hs w))) (Value.int IntKind.i64 x12) false)) w7 (fun (v13 : Value) => (fun (w14 : World) => (∃ x15 : Int, ((v13 = (Value.int IntKind.i64 x15)) ∧
(RunOk Try.prog (Nf.Hold (Instr.mapUpdate 82 (Value.map (some (hs w))) (Value.int IntKind.i64 x12) (Value.int IntKind.i64 (IntKind.wrap IntKind.i64 (x15 + 1))))) w14 (fun (k16 : Unit) => (fun (w17 : World) => (∃ n18 : Nat, ((n18 < n5) ∧
(k3 n18 (IntKind.wrap IntKind.i64 (x8 + 1)) w17))))))))))))))))) ∧
(((decide (x8 < ((have'_n : Nat) : Int))) = false) →
(∃ k20 : (Nat → (Option Addr → (Nat → (Nat → (Int → (World → Prop)))))), ((∃ n21 : Nat, (k20 n21 none 0 0 0 w7)) ∧
(∀ n22 : Nat, ((Nat → Value) →
(∀ w24 : World, (∀ o25 : Option Addr, (∀ n26 : Nat, (∀ n27 : Nat, (∀ x28 : Int, ((k20 n22 o25 n26 n27 x28 w24) →
((((decide (x28 < ((want_n : Nat) : Int))) = true) →
(∀ k31 : (Option Addr → (Nat → (Nat → (World → Prop)))), ((∀ w33 : World, (∀ o34 : Option Addr, (∀ n35 : Nat, (∀ n36 : Nat, (((Nat → Value) →
(∃ n39 : Nat, ((n39 < n22) ∧
(k20 n39 o34 n35 n36 (IntKind.wrap IntKind.i64 (x28 + 1)) w33)))) →
(k31 o34 n35 n36 w33)))))) →
(∃ a40 : Addr, ((want = (some a40)) ∧
((((0 : Int) ≤ x28) ∧
(x28 < ((want_n : Nat) : Int))) ∧
(∃ x41 : Int, (((w24.cell? (Addr.add a40 ((x28).toNat * 1))) = (some (Value.int IntKind.i64 x41))) ∧
(RunOk Try.prog (Nf.Hold (Instr.lookup 82 (Value.map (some (hs w))) (Value.int IntKind.i64 x41) false)) w24 (fun (v42 : Value) => (fun (w43 : World) => (∃ x44 : Int, ((v42 = (Value.int IntKind.i64 x44)) ∧
((((decide (x44 > 0)) = true) →
(RunOk Try.prog (Nf.Hold (Instr.lookup 82 (Value.map (some (hs w))) (Value.int IntKind.i64 x41) false)) w43 (fun (v46 : Value) => (fun (w47 : World) => (∃ x48 : Int, ((v46 = (Value.int IntKind.i64 x48)) ∧
(RunOk Try.prog (Nf.Hold (Instr.mapUpdate 82 (Value.map (some (hs w))) (Value.int IntKind.i64 x41) (Value.int IntKind.i64 (IntKind.wrap IntKind.i64 (x48 - 1))))) w47 (fun (k49 : Unit) => (fun (w50 : World) => (k31 o25 n26 n27 w50)))))))))) ∧
(((decide (x44 > 0)) = false) →
(∀ w52 : World, ((w52 = (w43.alloc (Obj.cells #[(Value.int IntKind.i64 x41)] 3 (0, 0)))) →
(RunOk Try.prog (Nf.Hold (Builtin.append_ #[31, 31] 31 #[(Value.slice o25 n26 n27), (Value.slice (some (⟨(hs w43), 0, none⟩ : Addr)) 1 1)])) w52 (fun (v54 : Value) => (fun (w55 : World) => (∃ o56 : Option Addr, (∃ n57 : Nat, (∃ n58 : Nat, ((v54 = (Value.slice o56 n57 n58)) ∧
(k31 o56 n57 n58 w55))))))))))))))))))))))))) ∧
(((decide (x28 < ((want_n : Nat) : Int))) = false) →
(∃ k60 : (Nat → (Option Addr → (Nat → (Nat → (Int → (World → Prop)))))), ((∃ n61 : Nat, (k60 n61 none 0 0 0 w24)) ∧
(∀ n62 : Nat, ((Nat → Value) →
(∀ w64 : World, (∀ o65 : Option Addr, (∀ n66 : Nat, (∀ n67 : Nat, (∀ x68 : Int, ((k60 n62 o65 n66 n67 x68 w64) →
((((decide (x68 < ((n26 : Nat) : Int))) = true) →
(∀ k71 : (Option Addr → (Nat → (Nat → (World → Prop)))), ((∀ w73 : World, (∀ o74 : Option Addr, (∀ n75 : Nat, (∀ n76 : Nat, (((Nat → Value) →
(∃ n79 : Nat, ((n79 < n62) ∧
(k60 n79 o74 n75 n76 (IntKind.wrap IntKind.i64 (x68 + 1)) w73)))) →
(k71 o74 n75 n76 w73)))))) →
(∃ a80 : Addr, ((o25 = (some a80)) ∧
((((0 : Int) ≤ x68) ∧
(x68 < ((n26 : Nat) : Int))) ∧
(∃ x81 : Int, (((w64.cell? (Addr.add a80 ((x68).toNat * 1))) = (some (Value.int IntKind.i64 x81))) ∧
((((decide (x81 = 1)) = true) →
(RunOk Try.prog (Nf.Hold (Instr.lookup 82 (Value.map (some (hs w))) (Value.int IntKind.i64 2) false)) w64 (fun (v83 : Value) => (fun (w84 : World) => (∃ x85 : Int, ((v83 = (Value.int IntKind.i64 x85)) ∧
((((decide (x85 > 0)) = true) →
(RunOk Try.prog (Nf.Hold (Instr.lookup 82 (Value.map (some (hs w))) (Value.int IntKind.i64 2) false)) w84 (fun (v87 : Value) => (fun (w88 : World) => (∃ x89 : Int, ((v87 = (Value.int IntKind.i64 x89)) ∧
(RunOk Try.prog (Nf.Hold (Instr.mapUpdate 82 (Value.map (some (hs w))) (Value.int IntKind.i64 2) (Value.int IntKind.i64 (IntKind.wrap IntKind.i64 (x89 - 1))))) w88 (fun (k90 : Unit) => (fun (w91 : World) => (k71 o65 n66 n67 w91)))))))))) ∧
(((decide (x85 > 0)) = false) →
(∀ w93 : World, ((w93 = (w84.alloc (Obj.cells #[(Value.int IntKind.i64 x81)] 3 (0, 0)))) →
(RunOk Try.prog (Nf.Hold (Builtin.append_ #[31, 31] 31 #[(Value.slice o65 n66 n67), (Value.slice (some (⟨(hs w84), 0, none⟩ : Addr)) 1 1)])) w93 (fun (v95 : Value) => (fun (w96 : World) => (∃ o97 : Option Addr, (∃ n98 : Nat, (∃ n99 : Nat, ((v95 = (Value.slice o97 n98 n99)) ∧
(k71 o97 n98 n99 w96)))))))))))))))))) ∧
(((decide (x81 = 1)) = false) →
(∀ w101 : World, ((w101 = (w64.alloc (Obj.cells #[(Value.int IntKind.i64 x81)] 3 (0, 0)))) →
(RunOk Try.prog (Nf.Hold (Builtin.append_ #[31, 31] 31 #[(Value.slice o65 n66 n67), (Value.slice (some (⟨(hs w64), 0, none⟩ : Addr)) 1 1)])) w101 (fun (v103 : Value) => (fun (w104 : World) => (∃ o105 : Option Addr, (∃ n106 : Nat, (∃ n107 : Nat, ((v103 = (Value.slice o105 n106 n107)) ∧
(k71 o105 n106 n107 w104)))))))))))))))))))) ∧
(((decide (x68 < ((n26 : Nat) : Int))) = false) →
(R (Ending.returned (Value.slice o65 n66 n67)) w64))))))))))))))))))))))))))))))))))))) :
    Calls Try.prog 26 #[(.slice want want_n want_c), (.slice have' have'_n have'_c)] w R :=
  calls_of_vc an26 Try.func26 rfl (by kernel_rfl) (by kernel_rfl) (Eq.mp (by kernel_rfl) h)

/-- samaritan/dispatchcost.openOnes -/
def an24 : An := (.seq (.reg []) (.seq (.reg []) (.seq (.seq (.reg []) (.blk (.loop [(3, .slice), (8, .int .i64)] (.seq (.reg [(0, 0, true)]) (.seq (.cond .nil .nil) (.cut [(3, .slice)] (.blk (.seq (.reg []) (.seq (.reg [(1, 0, true), (6, 0, true)]) (.cond (.reg [(3, 1, false)]) .nil)))) (.reg []))))))) (.seq (.reg []) (.seq (.reg []) .nil)))))
set_option maxRecDepth 100000 in
theorem nf24 (l : Option Addr) (l_n : Nat) (l_c : Nat) (w : World) (R : Ending → World → Prop) (h :
(∃ k1 : (Nat → (Option Addr → (Nat → (Nat → (Int → (World → Prop)))))), ((∃ n2 : Nat, (k1 n2 none 0 0 0 w)) ∧
(∀ n3 : Nat, ((Nat → Value) →
(∀ w5 : World, (∀ o6 : Option Addr, (∀ n7 : Nat, (∀ n8 : Nat, (∀ x9 : Int, ((k1 n3 o6 n7 n8 x9 w5) →
((((decide (x9 < ((l_n : Nat) : Int))) = true) →
(∀ k12 : (Option Addr → (Nat → (Nat → (World → Prop)))), ((∀ w14 : World, (∀ o15 : Option Addr, (∀ n16 : Nat, (∀ n17 : Nat, (((Nat → Value) →
(∃ n20 : Nat, ((n20 < n3) ∧
(k1 n20 o15 n16 n17 (IntKind.wrap IntKind.i64 (x9 + 1)) w14)))) →
(k12 o15 n16 n17 w14)))))) →
(∃ a21 : Addr, ((l = (some a21)) ∧
((((0 : Int) ≤ x9) ∧
(x9 < ((l_n : Nat) : Int))) ∧
(∃ x22 : Int, (((w5.cell? (Addr.add a21 ((x9).toNat * 10))) = (some (Value.int IntKind.i64 x22))) ∧
(∃ x23 : Int, (((w5.cell? (Addr.add (Addr.add a21 ((x9).toNat * 10)) 1)) = (some (Value.int IntKind.i64 x23))) ∧
(∃ s24 : ByteArray, (((w5.cell? (Addr.add (Addr.add a21 ((x9).toNat * 10)) 2)) = (some (Value.string s24))) ∧
(∃ o25 : Option Addr, (∃ n26 : Nat, (∃ n27 : Nat, (((w5.cell? (Addr.add (Addr.add a21 ((x9).toNat * 10)) 3)) = (some (Value.slice o25 n26 n27))) ∧
(∃ x28 : Int, (((w5.cell? (Addr.add (Addr.add a21 ((x9).toNat * 10)) 4)) = (some (Value.int IntKind.i64 x28))) ∧
(∃ x29 : Int, (((w5.cell? (Addr.add (Addr.add a21 ((x9).toNat * 10)) 5)) = (some (Value.int IntKind.i64 x29))) ∧
(∃ o30 : Option Addr, (∃ n31 : Nat, (∃ n32 : Nat, (((w5.cell? (Addr.add (Addr.add a21 ((x9).toNat * 10)) 6)) = (some (Value.slice o30 n31 n32))) ∧
(∃ o33 : Option Addr, (∃ n34 : Nat, (∃ n35 : Nat, (((w5.cell? (Addr.add (Addr.add a21 ((x9).toNat * 10)) 7)) = (some (Value.slice o33 n34 n35))) ∧
(∃ x36 : Int, (((w5.cell? (Addr.add (Addr.add a21 ((x9).toNat * 10)) 8)) = (some (Value.int IntKind.i64 x36))) ∧
(∃ b37 : Bool, (((w5.cell? (Addr.add (Addr.add a21 ((x9).toNat * 10)) 9)) = (some (Value.bool b37))) ∧
(∀ w38 : World, ((w38 = (w5.alloc (Obj.cells #[(Value.int IntKind.i64 0), (Value.int IntKind.i64 0), (Value.string (ByteArray.mk #[])), (Value.slice none 0 0), (Value.int IntKind.i64 0), (Value.int IntKind.i64 0), (Value.slice none 0 0), (Value.slice none 0 0), (Value.int IntKind.i64 0), (Value.bool false)] 34 (0, 0)))) →
((Nf.There w38 (⟨(hs w5), 0, none⟩ : Addr) 10) ∧
(∀ w40 : World, ((w40 = (Nf.setCells w38 (⟨(hs w5), 0, none⟩ : Addr) [(Value.int IntKind.i64 x22), (Value.int IntKind.i64 x23), (Value.string s24), (Value.slice o25 n26 n27), (Value.int IntKind.i64 x28), (Value.int IntKind.i64 x29), (Value.slice o30 n31 n32), (Value.slice o33 n34 n35), (Value.int IntKind.i64 x36), (Value.bool b37)] 0)) →
(∃ b42 : Bool, (((w40.cell? (⟨(hs w5), 9, none⟩ : Addr)) = (some (Value.bool b42))) ∧
(((b42 = true) →
(k12 o6 n7 n8 w40)) ∧
((b42 = false) →
(∃ x45 : Int, (((w40.cell? (⟨(hs w5), 8, none⟩ : Addr)) = (some (Value.int IntKind.i64 x45))) ∧
((((decide (x45 = 0)) = true) →
(∃ x47 : Int, (((w40.cell? (⟨(hs w5), 0, none⟩ : Addr)) = (some (Value.int IntKind.i64 x47))) ∧
(∃ x48 : Int, (((w40.cell? (⟨(hs w5), 1, none⟩ : Addr)) = (some (Value.int IntKind.i64 x48))) ∧
(∃ s49 : ByteArray, (((w40.cell? (⟨(hs w5), 2, none⟩ : Addr)) = (some (Value.string s49))) ∧
(∃ o50 : Option Addr, (∃ n51 : Nat, (∃ n52 : Nat, (((w40.cell? (⟨(hs w5), 3, none⟩ : Addr)) = (some (Value.slice o50 n51 n52))) ∧
(∃ x53 : Int, (((w40.cell? (⟨(hs w5), 4, none⟩ : Addr)) = (some (Value.int IntKind.i64 x53))) ∧
(∃ x54 : Int, (((w40.cell? (⟨(hs w5), 5, none⟩ : Addr)) = (some (Value.int IntKind.i64 x54))) ∧
(∃ o55 : Option Addr, (∃ n56 : Nat, (∃ n57 : Nat, (((w40.cell? (⟨(hs w5), 6, none⟩ : Addr)) = (some (Value.slice o55 n56 n57))) ∧
(∃ o58 : Option Addr, (∃ n59 : Nat, (∃ n60 : Nat, (((w40.cell? (⟨(hs w5), 7, none⟩ : Addr)) = (some (Value.slice o58 n59 n60))) ∧
(∃ x61 : Int, (((w40.cell? (⟨(hs w5), 8, none⟩ : Addr)) = (some (Value.int IntKind.i64 x61))) ∧
(∃ b62 : Bool, (((w40.cell? (⟨(hs w5), 9, none⟩ : Addr)) = (some (Value.bool b62))) ∧
(∀ w63 : World, ((w63 = (w40.alloc (Obj.cells #[(Value.int IntKind.i64 x47), (Value.int IntKind.i64 x48), (Value.string s49), (Value.slice o50 n51 n52), (Value.int IntKind.i64 x53), (Value.int IntKind.i64 x54), (Value.slice o55 n56 n57), (Value.slice o58 n59 n60), (Value.int IntKind.i64 x61), (Value.bool b62)] 34 (0, 0)))) →
(RunOk Try.prog (Nf.Hold (Builtin.append_ #[23, 23] 23 #[(Value.slice o6 n7 n8), (Value.slice (some (⟨(hs w40), 0, none⟩ : Addr)) 1 1)])) w63 (fun (v65 : Value) => (fun (w66 : World) => (∃ o67 : Option Addr, (∃ n68 : Nat, (∃ n69 : Nat, ((v65 = (Value.slice o67 n68 n69)) ∧
(k12 o67 n68 n69 w66))))))))))))))))))))))))))))))))))))) ∧
(((decide (x45 = 0)) = false) →
(k12 o6 n7 n8 w40)))))))))))))))))))))))))))))))))))))))))))))) ∧
(((decide (x9 < ((l_n : Nat) : Int))) = false) →
(Calls Try.prog 43 #[(Value.slice o6 n7 n8), (Value.func (Fn.func 44) #[] #[])] w5 (fun (e72 : Ending) => (fun (w73 : World) => ((e72 = (Ending.returned (Value.tuple #[]))) ∧
(R (Ending.returned (Value.slice o6 n7 n8)) w73)))))))))))))))))) :
    Calls Try.prog 24 #[(.slice l l_n l_c)] w R :=
  calls_of_vc an24 Try.func24 rfl (by kernel_rfl) (by kernel_rfl) (Eq.mp (by kernel_rfl) h)

/-- samaritan/shortestpath.From -/
def an30 : An := (.seq (.reg []) (.seq (.reg []) .nil))
set_option maxRecDepth 100000 in
theorem nf30 (n : Nat) (times : Option Addr) (times_n : Nat) (times_c : Nat) (src : Option Addr) (src_n : Nat) (src_c : Nat) (w : World) (R : Ending → World → Prop) (h :
(Calls Try.prog 51 #[(Value.pointer (some (⟨n, 0, none⟩ : Addr))), (Value.slice times times_n times_c)] w (fun (e1 : Ending) => (fun (w2 : World) => (∃ o3 : Option Addr, (∃ n4 : Nat, (∃ n5 : Nat, ((e1 = (Ending.returned (Value.slice o3 n4 n5))) ∧
(Calls Try.prog 50 #[(Value.pointer (some (⟨n, 0, none⟩ : Addr))), (Value.slice o3 n4 n5), (Value.slice src src_n src_c), (Value.bool true)] w2 (fun (e6 : Ending) => (fun (w7 : World) => (∃ o8 : Option Addr, (∃ n9 : Nat, (∃ n10 : Nat, ((e6 = (Ending.returned (Value.slice o8 n9 n10))) ∧
(R (Ending.returned (Value.slice o8 n9 n10)) w7)))))))))))))))) :
    Calls Try.prog 30 #[(.pointer (some ⟨n, 0, none⟩)), (.slice times times_n times_c), (.slice src src_n src_c)] w R :=
  calls_of_vc an30 Try.func30 rfl (by kernel_rfl) (by kernel_rfl) (Eq.mp (by kernel_rfl) h)

/-- samaritan/shortestpath.travelTimes -/
def an51 : An := (.seq (.reg []) (.seq (.reg [(2, 1, false)]) (.seq (.seq (.reg []) (.blk (.loop [(12, .int .i64)] (.seq (.reg [(0, 0, true)]) (.seq (.cond .nil .nil) (.seq (.blk (.seq (.reg []) (.reg []))) (.reg []))))))) (.seq (.reg []) .nil))))
set_option maxRecDepth 100000 in
theorem nf51 (n : Nat) (times : Option Addr) (times_n : Nat) (times_c : Nat) (w : World) (R : Ending → World → Prop) (h :
(Calls Try.prog 70 #[(Value.pointer (some (⟨n, 0, none⟩ : Addr)))] w (fun (e1 : Ending) => (fun (w2 : World) => (∃ x3 : Int, ((e1 = (Ending.returned (Value.int IntKind.i64 x3))) ∧
(RunOk Try.prog (Nf.Hold (Instr.makeSlice 32 (Value.int IntKind.i64 x3) (Value.int IntKind.i64 x3))) w2 (fun (v4 : Value) => (fun (w5 : World) => (∃ o6 : Option Addr, (∃ n7 : Nat, (∃ n8 : Nat, ((v4 = (Value.slice o6 n7 n8)) ∧
(∃ k9 : (Nat → (Int → (World → Prop))), ((∃ n10 : Nat, (k9 n10 0 w5)) ∧
(∀ n11 : Nat, ((Nat → Value) →
(∀ w13 : World, (∀ x14 : Int, ((k9 n11 x14 w13) →
((((decide (x14 < ((n7 : Nat) : Int))) = true) →
(Calls Try.prog 71 #[(Value.slice times times_n times_c), (Value.int IntKind.i64 x14)] w13 (fun (e17 : Ending) => (fun (w18 : World) => (∃ x19 : Int, ((e17 = (Ending.returned (Value.int IntKind.i64 x19))) ∧
(∃ a20 : Addr, ((o6 = (some a20)) ∧
((((0 : Int) ≤ x14) ∧
(x14 < ((n7 : Nat) : Int))) ∧
((Nf.There w18 (Addr.add a20 ((x14).toNat * 1)) 1) ∧
(∀ w21 : World, ((w21 = (Nf.setCells w18 (Addr.add a20 ((x14).toNat * 1)) [(Value.int IntKind.i64 x19)] 0)) →
(∃ n23 : Nat, ((n23 < n11) ∧
(k9 n23 (IntKind.wrap IntKind.i64 (x14 + 1)) w21))))))))))))))) ∧
(((decide (x14 < ((n7 : Nat) : Int))) = false) →
(R (Ending.returned (Value.slice o6 n7 n8)) w13))))))))))))))))))))))) :
    Calls Try.prog 51 #[(.pointer (some ⟨n, 0, none⟩)), (.slice times times_n times_c)] w R :=
  calls_of_vc an51 Try.func51 rfl (by kernel_rfl) (by kernel_rfl) (Eq.mp (by kernel_rfl) h)

/-- samaritan/shortestpath.travelTime -/
def an71 : An := (.seq (.reg []) (.seq (.seq (.reg [(3, 0, true), (9, 0, true), (16, 0, true)]) (.cond (.seq (.reg []) .nil) .nil)) (.seq (.reg []) .nil)))
set_option maxRecDepth 100000 in
theorem nf71 (times : Option Addr) (times_n : Nat) (times_c : Nat) (edge : Int) (w : World) (R : Ending → World → Prop) (h :
((((decide (edge ≥ ((times_n : Nat) : Int))) = true) →
(R (Ending.returned (Value.int IntKind.i64 4611686018427387904)) w)) ∧
(((decide (edge ≥ ((times_n : Nat) : Int))) = false) →
(∃ a3 : Addr, ((times = (some a3)) ∧
((((0 : Int) ≤ edge) ∧
(edge < ((times_n : Nat) : Int))) ∧
(∃ x4 : Int, (((w.cell? (Addr.add a3 ((edge).toNat * 1))) = (some (Value.int IntKind.i64 x4))) ∧
((((decide (x4 < 1)) = true) →
(R (Ending.returned (Value.int IntKind.i64 4611686018427387904)) w)) ∧
(((decide (x4 < 1)) = false) →
(∃ a7 : Addr, ((times = (some a7)) ∧
((((0 : Int) ≤ edge) ∧
(edge < ((times_n : Nat) : Int))) ∧
(∃ x8 : Int, (((w.cell? (Addr.add a7 ((edge).toNat * 1))) = (some (Value.int IntKind.i64 x8))) ∧
((((decide (x8 > 1048576)) = true) →
(R (Ending.returned (Value.int IntKind.i64 4611686018427387904)) w)) ∧
(((decide (x8 > 1048576)) = false) →
(∃ a11 : Addr, ((times = (some a11)) ∧
((((0 : Int) ≤ edge) ∧
(edge < ((times_n : Nat) : Int))) ∧
(∃ x12 : Int, (((w.cell? (Addr.add a11 ((edge).toNat * 1))) = (some (Value.int IntKind.i64 x12))) ∧
(R (Ending.returned (Value.int IntKind.i64 x12)) w))))))))))))))))))))))) :
    Calls Try.prog 71 #[(.slice times times_n times_c), (.int .i64 edge)] w R :=
  calls_of_vc an71 Try.func71 rfl (by kernel_rfl) (by kernel_rfl) (Eq.mp (by kernel_rfl) h)

/-- samaritan/shortestpath.isNode -/
def an64 : An := (.seq (.reg []) (.seq (.reg [(1, 0, true), (6, 0, true)]) .nil))
set_option maxRecDepth 100000 in
theorem nf64 (n : Nat) (node : Int) (w : World) (R : Ending → World → Prop) (h :
((((decide (node ≥ 0)) = true) →
(Calls Try.prog 63 #[(Value.pointer (some (⟨n, 0, none⟩ : Addr)))] w (fun (e2 : Ending) => (fun (w3 : World) => (∃ x4 : Int, ((e2 = (Ending.returned (Value.int IntKind.i64 x4))) ∧
((((decide (node < x4)) = true) →
(R (Ending.returned (Value.bool true)) w3)) ∧
(((decide (node < x4)) = false) →
(R (Ending.returned (Value.bool false)) w3))))))))) ∧
(((decide (node ≥ 0)) = false) →
(R (Ending.returned (Value.bool false)) w)))) :
    Calls Try.prog 64 #[(.pointer (some ⟨n, 0, none⟩)), (.int .i64 node)] w R :=
  calls_of_vc an64 Try.func64 rfl (by kernel_rfl) (by kernel_rfl) (Eq.mp (by kernel_rfl) h)

/-- (*samaritan/shortestpath.queue).push -/
def an65 : An := (.seq (.reg [(8, 1, false)]) (.seq (.reg []) (.seq (.blk (.loop [(7, .int .i64)] (.seq (.seq (.regD [(1, 0, true), (13, 0, true)] [0, 1, 2, 3, 4, 5, 6, 7, 8, 9, 10, 11, 12, 13, 14] []) (.cond .nil .nil)) (.blk (.seq (.regD [] [0, 1, 2, 3, 4, 5, 6, 7, 8, 9, 10, 11, 12, 13, 14, 15, 16, 17, 18, 19] [17, 19]) (.reg [])))))) (.reg []))))
set_option maxRecDepth 100000 in
theorem nf65 (q : Nat) (distance : Int) (node : Int) (w : World) (R : Ending → World → Prop) (h :
(∃ o1 : Option Addr, (∃ n2 : Nat, (∃ n3 : Nat, (((w.cell? (⟨q, 0, none⟩ : Addr)) = (some (Value.slice o1 n2 n3))) ∧
(∀ w4 : World, ((w4 = (w.alloc (Obj.cells #[(Value.int IntKind.i64 (IntKind.wrap IntKind.i64 ((IntKind.wrap IntKind.i64 (distance * 4096)) + node)))] 2 (0, 0)))) →
(RunOk Try.prog (Nf.Hold (Builtin.append_ #[128, 128] 128 #[(Value.slice o1 n2 n3), (Value.slice (some (⟨(hs w), 0, none⟩ : Addr)) 1 1)])) w4 (fun (v6 : Value) => (fun (w7 : World) => (∃ o8 : Option Addr, (∃ n9 : Nat, (∃ n10 : Nat, ((v6 = (Value.slice o8 n9 n10)) ∧
(∃ k11 : (Nat → (Int → (World → Prop))), ((∃ n12 : Nat, (k11 n12 (IntKind.wrap IntKind.i64 (((n9 : Nat) : Int) - 1)) w7)) ∧
(∀ n13 : Nat, ((Nat → Value) →
(∀ w15 : World, (∀ x16 : Int, ((k11 n13 x16 w15) →
(∀ w18 : World, ((w18 = w15.drew) →
((((decide (x16 > 0)) = true) →
(∃ a21 : Addr, ((o8 = (some a21)) ∧
((((0 : Int) ≤ x16) ∧
(x16 < ((n9 : Nat) : Int))) ∧
(∃ x22 : Int, (((w18.cell? (Addr.add a21 ((x16).toNat * 1))) = (some (Value.int IntKind.i64 x22))) ∧
(∃ a23 : Addr, ((o8 = (some a23)) ∧
((((0 : Int) ≤ (IntKind.wrap IntKind.i64 (Int.tdiv (IntKind.wrap IntKind.i64 (x16 - 1)) 2))) ∧
((IntKind.wrap IntKind.i64 (Int.tdiv (IntKind.wrap IntKind.i64 (x16 - 1)) 2)) < ((n9 : Nat) : Int))) ∧
(∃ x24 : Int, (((w18.cell? (Addr.add a23 (((IntKind.wrap IntKind.i64 (Int.tdiv (IntKind.wrap IntKind.i64 (x16 - 1)) 2))).toNat * 1))) = (some (Value.int IntKind.i64 x24))) ∧
((((decide (x22 < x24)) = true) →
(∀ w26 : World, ((w26 = w18.drew) →
(∃ a28 : Addr, ((o8 = (some a28)) ∧
((((0 : Int) ≤ (IntKind.wrap IntKind.i64 (Int.tdiv (IntKind.wrap IntKind.i64 (x16 - 1)) 2))) ∧
((IntKind.wrap IntKind.i64 (Int.tdiv (IntKind.wrap IntKind.i64 (x16 - 1)) 2)) < ((n9 : Nat) : Int))) ∧
(∃ x29 : Int, (((w26.cell? (Addr.add a28 (((IntKind.wrap IntKind.i64 (Int.tdiv (IntKind.wrap IntKind.i64 (x16 - 1)) 2))).toNat * 1))) = (some (Value.int IntKind.i64 x29))) ∧
(∃ a30 : Addr, ((o8 = (some a30)) ∧
((((0 : Int) ≤ x16) ∧
(x16 < ((n9 : Nat) : Int))) ∧
(∃ x31 : Int, (((w26.cell? (Addr.add a30 ((x16).toNat * 1))) = (some (Value.int IntKind.i64 x31))) ∧
(∃ a32 : Addr, ((o8 = (some a32)) ∧
((((0 : Int) ≤ x16) ∧
(x16 < ((n9 : Nat) : Int))) ∧
((Nf.There w26 (Addr.add a32 ((x16).toNat * 1)) 1) ∧
(∀ w33 : World, ((w33 = (Nf.setCells w26 (Addr.add a32 ((x16).toNat * 1)) [(Value.int IntKind.i64 x29)] 0)) →
(∃ a35 : Addr, ((o8 = (some a35)) ∧
((((0 : Int) ≤ (IntKind.wrap IntKind.i64 (Int.tdiv (IntKind.wrap IntKind.i64 (x16 - 1)) 2))) ∧
((IntKind.wrap IntKind.i64 (Int.tdiv (IntKind.wrap IntKind.i64 (x16 - 1)) 2)) < ((n9 : Nat) : Int))) ∧
((Nf.There w33 (Addr.add a35 (((IntKind.wrap IntKind.i64 (Int.tdiv (IntKind.wrap IntKind.i64 (x16 - 1)) 2))).toNat * 1)) 1) ∧
(∀ w36 : World, ((w36 = (Nf.setCells w33 (Addr.add a35 (((IntKind.wrap IntKind.i64 (Int.tdiv (IntKind.wrap IntKind.i64 (x16 - 1)) 2))).toNat * 1)) [(Value.int IntKind.i64 x31)] 0)) →
(∃ n38 : Nat, ((n38 < n13) ∧
(k11 n38 (IntKind.wrap IntKind.i64 (Int.tdiv (IntKind.wrap IntKind.i64 (x16 - 1)) 2)) w36)))))))))))))))))))))))))))) ∧
(((decide (x22 < x24)) = false) →
((Nf.There w18 (⟨q, 0, none⟩ : Addr) 1) ∧
(∀ w40 : World, ((w40 = (Nf.setCells w18 (⟨q, 0, none⟩ : Addr) [(Value.slice o8 n9 n10)] 0)) →
(R (Ending.returned (Value.tuple #[])) w40))))))))))))))))) ∧
(((decide (x16 > 0)) = false) →
((Nf.There w18 (⟨q, 0, none⟩ : Addr) 1) ∧
(∀ w43 : World, ((w43 = (Nf.setCells w18 (⟨q, 0, none⟩ : Addr) [(Value.slice o8 n9 n10)] 0)) →
(R (Ending.returned (Value.tuple #[])) w43))))))))))))))))))))))))))))) :
    Calls Try.prog 65 #[(.pointer (some ⟨q, 0, none⟩)), (.int .i64 distance), (.int .i64 node)] w R :=
  calls_of_vc an65 Try.func65 rfl (by kernel_rfl) (by kernel_rfl) (Eq.mp (by kernel_rfl) h)

/-- (*samaritan/shortestpath.queue).pop -/
def an68 : An := (.seq (.reg []) (.seq (.reg []) (.seq (.reg []) (.seq (.reg []) (.seq (.reg [(2, 2, false)]) (.cut [] (.seq (.reg []) (.blk (.loop [(7, .int .i64)] (.blk (.seq (.reg []) (.seq (.seq (.reg [(3, 0, true)]) (.cond .nil .nil)) (.cut [(8, .int .i64)] (.seq (.regD [(4, 0, true), (15, 0, true)] [0, 1, 2, 3, 4, 5, 6, 7, 8, 9, 10, 11, 12, 13, 14, 15, 16] []) (.cond (.reg []) .nil)) (.seq (.seq (.regD [(8, 0, true)] [0, 1, 2, 3, 4, 5, 6, 7, 8] []) (.cond .nil .nil)) (.seq (.regD [] [0, 1, 2, 3, 4, 5, 6, 7, 8, 9, 10, 11, 12, 13, 14, 15] [13, 15]) (.reg [])))))))))) (.seq (.reg []) (.seq (.reg []) .nil))))))))
set_option maxRecDepth 100000 in
theorem nf68 (q : Nat) (w : World) (R : Ending → World → Prop) (h :
(∃ o1 : Option Addr, (∃ n2 : Nat, (∃ n3 : Nat, (((w.cell? (⟨q, 0, none⟩ : Addr)) = (some (Value.slice o1 n2 n3))) ∧
(∃ a4 : Addr, ((o1 = (some a4)) ∧
((((0 : Int) ≤ 0) ∧
(0 < ((n2 : Nat) : Int))) ∧
(∃ x5 : Int, (((w.cell? a4) = (some (Value.int IntKind.i64 x5))) ∧
(∃ a6 : Addr, ((o1 = (some a6)) ∧
((((0 : Int) ≤ (IntKind.wrap IntKind.i64 (((n2 : Nat) : Int) - 1))) ∧
((IntKind.wrap IntKind.i64 (((n2 : Nat) : Int) - 1)) < ((n2 : Nat) : Int))) ∧
(∃ x7 : Int, (((w.cell? (Addr.add a6 (((IntKind.wrap IntKind.i64 (((n2 : Nat) : Int) - 1))).toNat * 1))) = (some (Value.int IntKind.i64 x7))) ∧
(∃ a8 : Addr, ((o1 = (some a8)) ∧
((((0 : Int) ≤ 0) ∧
(0 < ((n2 : Nat) : Int))) ∧
((Nf.There w a8 1) ∧
(∀ w9 : World, ((w9 = (Nf.setCells w a8 [(Value.int IntKind.i64 x7)] 0)) →
((((0 : Int) ≤ (IntKind.wrap IntKind.i64 (((n2 : Nat) : Int) - 1))) ∧
((IntKind.wrap IntKind.i64 (((n2 : Nat) : Int) - 1)) ≤ ((n3 : Nat) : Int))) ∧
(∀ k11 : (World → Prop), ((∀ w13 : World, (((Nat → Value) →
((Nf.There w13 (⟨q, 0, none⟩ : Addr) 1) ∧
(∀ w16 : World, ((w16 = (Nf.setCells w13 (⟨q, 0, none⟩ : Addr) [(Value.slice (if (n3 = 0) then o1 else (Option.map (fun (x : Addr) => x) o1)) (((IntKind.wrap IntKind.i64 (((n2 : Nat) : Int) - 1))).toNat - 0) (n3 - 0))] 0)) →
(R (Ending.returned (Value.tuple #[(Value.int IntKind.i64 (IntKind.wrap IntKind.i64 (Int.tdiv x5 4096))), (Value.int IntKind.i64 (Int.tmod x5 4096))])) w16))))) →
(k11 w13))) →
(∃ k18 : (Nat → (Int → (World → Prop))), ((∃ n19 : Nat, (k18 n19 0 w9)) ∧
(∀ n20 : Nat, ((Nat → Value) →
(∀ w22 : World, (∀ x23 : Int, ((k18 n20 x23 w22) →
((((decide ((IntKind.wrap IntKind.i64 ((IntKind.wrap IntKind.i64 (2 * x23)) + 1)) ≥ (((((IntKind.wrap IntKind.i64 (((n2 : Nat) : Int) - 1))).toNat - 0) : Nat) : Int))) = true) →
(k11 w22)) ∧
(((decide ((IntKind.wrap IntKind.i64 ((IntKind.wrap IntKind.i64 (2 * x23)) + 1)) ≥ (((((IntKind.wrap IntKind.i64 (((n2 : Nat) : Int) - 1))).toNat - 0) : Nat) : Int))) = false) →
(∀ k27 : (Int → (World → Prop)), ((∀ w29 : World, (∀ x30 : Int, (((Nat → Value) →
(∀ w33 : World, ((w33 = w29.drew) →
(∃ a35 : Addr, (((if (n3 = 0) then o1 else (Option.map (fun (x : Addr) => x) o1)) = (some a35)) ∧
((((0 : Int) ≤ x23) ∧
(x23 < (((((IntKind.wrap IntKind.i64 (((n2 : Nat) : Int) - 1))).toNat - 0) : Nat) : Int))) ∧
(∃ x36 : Int, (((w33.cell? (Addr.add a35 ((x23).toNat * 1))) = (some (Value.int IntKind.i64 x36))) ∧
(∃ a37 : Addr, (((if (n3 = 0) then o1 else (Option.map (fun (x : Addr) => x) o1)) = (some a37)) ∧
((((0 : Int) ≤ x30) ∧
(x30 < (((((IntKind.wrap IntKind.i64 (((n2 : Nat) : Int) - 1))).toNat - 0) : Nat) : Int))) ∧
(∃ x38 : Int, (((w33.cell? (Addr.add a37 ((x30).toNat * 1))) = (some (Value.int IntKind.i64 x38))) ∧
((((decide (x36 ≤ x38)) = true) →
(k11 w33)) ∧
(((decide (x36 ≤ x38)) = false) →
(∀ w41 : World, ((w41 = w33.drew) →
(∃ a43 : Addr, (((if (n3 = 0) then o1 else (Option.map (fun (x : Addr) => x) o1)) = (some a43)) ∧
((((0 : Int) ≤ x30) ∧
(x30 < (((((IntKind.wrap IntKind.i64 (((n2 : Nat) : Int) - 1))).toNat - 0) : Nat) : Int))) ∧
(∃ x44 : Int, (((w41.cell? (Addr.add a43 ((x30).toNat * 1))) = (some (Value.int IntKind.i64 x44))) ∧
(∃ a45 : Addr, (((if (n3 = 0) then o1 else (Option.map (fun (x : Addr) => x) o1)) = (some a45)) ∧
((((0 : Int) ≤ x23) ∧
(x23 < (((((IntKind.wrap IntKind.i64 (((n2 : Nat) : Int) - 1))).toNat - 0) : Nat) : Int))) ∧
(∃ x46 : Int, (((w41.cell? (Addr.add a45 ((x23).toNat * 1))) = (some (Value.int IntKind.i64 x46))) ∧
(∃ a47 : Addr, (((if (n3 = 0) then o1 else (Option.map (fun (x : Addr) => x) o1)) = (some a47)) ∧
((((0 : Int) ≤ x23) ∧
(x23 < (((((IntKind.wrap IntKind.i64 (((n2 : Nat) : Int) - 1))).toNat - 0) : Nat) : Int))) ∧
((Nf.There w41 (Addr.add a47 ((x23).toNat * 1)) 1) ∧
(∀ w48 : World, ((w48 = (Nf.setCells w41 (Addr.add a47 ((x23).toNat * 1)) [(Value.int IntKind.i64 x44)] 0)) →
(∃ a50 : Addr, (((if (n3 = 0) then o1 else (Option.map (fun (x : Addr) => x) o1)) = (some a50)) ∧
((((0 : Int) ≤ x30) ∧
(x30 < (((((IntKind.wrap IntKind.i64 (((n2 : Nat) : Int) - 1))).toNat - 0) : Nat) : Int))) ∧
((Nf.There w48 (Addr.add a50 ((x30).toNat * 1)) 1) ∧
(∀ w51 : World, ((w51 = (Nf.setCells w48 (Addr.add a50 ((x30).toNat * 1)) [(Value.int IntKind.i64 x46)] 0)) →
(∃ n53 : Nat, ((n53 < n20) ∧
(k18 n53 x30 w51)))))))))))))))))))))))))))))))))))))))))) →
(k27 x30 w29)))) →
(∀ w54 : World, ((w54 = w22.drew) →
((((decide ((IntKind.wrap IntKind.i64 ((IntKind.wrap IntKind.i64 ((IntKind.wrap IntKind.i64 (2 * x23)) + 1)) + 1)) < (((((IntKind.wrap IntKind.i64 (((n2 : Nat) : Int) - 1))).toNat - 0) : Nat) : Int))) = true) →
(∃ a57 : Addr, (((if (n3 = 0) then o1 else (Option.map (fun (x : Addr) => x) o1)) = (some a57)) ∧
((((0 : Int) ≤ (IntKind.wrap IntKind.i64 ((IntKind.wrap IntKind.i64 ((IntKind.wrap IntKind.i64 (2 * x23)) + 1)) + 1))) ∧
((IntKind.wrap IntKind.i64 ((IntKind.wrap IntKind.i64 ((IntKind.wrap IntKind.i64 (2 * x23)) + 1)) + 1)) < (((((IntKind.wrap IntKind.i64 (((n2 : Nat) : Int) - 1))).toNat - 0) : Nat) : Int))) ∧
(∃ x58 : Int, (((w54.cell? (Addr.add a57 (((IntKind.wrap IntKind.i64 ((IntKind.wrap IntKind.i64 ((IntKind.wrap IntKind.i64 (2 * x23)) + 1)) + 1))).toNat * 1))) = (some (Value.int IntKind.i64 x58))) ∧
(∃ a59 : Addr, (((if (n3 = 0) then o1 else (Option.map (fun (x : Addr) => x) o1)) = (some a59)) ∧
((((0 : Int) ≤ (IntKind.wrap IntKind.i64 ((IntKind.wrap IntKind.i64 (2 * x23)) + 1))) ∧
((IntKind.wrap IntKind.i64 ((IntKind.wrap IntKind.i64 (2 * x23)) + 1)) < (((((IntKind.wrap IntKind.i64 (((n2 : Nat) : Int) - 1))).toNat - 0) : Nat) : Int))) ∧
(∃ x60 : Int, (((w54.cell? (Addr.add a59 (((IntKind.wrap IntKind.i64 ((IntKind.wrap IntKind.i64 (2 * x23)) + 1))).toNat * 1))) = (some (Value.int IntKind.i64 x60))) ∧
((((decide (x58 < x60)) = true) →
(k27 (IntKind.wrap IntKind.i64 ((IntKind.wrap IntKind.i64 ((IntKind.wrap IntKind.i64 (2 * x23)) + 1)) + 1)) w54)) ∧
(((decide (x58 < x60)) = false) →
(k27 (IntKind.wrap IntKind.i64 ((IntKind.wrap IntKind.i64 (2 * x23)) + 1)) w54)))))))))))))) ∧
(((decide ((IntKind.wrap IntKind.i64 ((IntKind.wrap IntKind.i64 ((IntKind.wrap IntKind.i64 (2 * x23)) + 1)) + 1)) < (((((IntKind.wrap IntKind.i64 (((n2 : Nat) : Int) - 1))).toNat - 0) : Nat) : Int))) = false) →
(k27 (IntKind.wrap IntKind.i64 ((IntKind.wrap IntKind.i64 (2 * x23)) + 1)) w54)))))))))))))))))))))))))))))))))))))))) :
    Calls Try.prog 68 #[(.pointer (some ⟨q, 0, none⟩))] w R :=
  calls_of_vc an68 Try.func68 rfl (by kernel_rfl) (by kernel_rfl) (Eq.mp (by kernel_rfl) h)

/-- samaritan/dispatchcost.farthest -/
def an31 : An := (.seq (.reg []) (.seq (.seq (.reg [(2, 0, true)]) (.cond (.seq (.reg []) .nil) .nil)) (.seq (.reg []) (.seq (.seq (.reg []) (.blk (.loop [(5, .int .i64), (13, .int .i64)] (.seq (.reg [(0, 0, true)]) (.seq (.cond .nil .nil) (.seq (.blk (.seq (.reg []) (.seq (.seq (.reg [(1, 0, true), (6, 0, true)]) (.cond (.seq (.reg []) .nil) .nil)) (.reg [])))) (.reg []))))))) (.seq (.reg []) .nil)))))
set_option maxRecDepth 100000 in
theorem nf31 (distances : Option Addr) (distances_n : Nat) (distances_c : Nat) (nodes : Option Addr) (nodes_n : Nat) (nodes_c : Nat) (w : World) (R : Ending → World → Prop) (h :
((((decide (((nodes_n : Nat) : Int) = 0)) = true) →
(R (Ending.returned (Value.int IntKind.i64 4611686018427387904)) w)) ∧
(((decide (((nodes_n : Nat) : Int) = 0)) = false) →
(∃ k3 : (Nat → (Int → (Int → (World → Prop)))), ((∃ n4 : Nat, (k3 n4 0 0 w)) ∧
(∀ n5 : Nat, ((Nat → Value) →
(∀ w7 : World, (∀ x8 : Int, (∀ x9 : Int, ((k3 n5 x8 x9 w7) →
((((decide (x9 < ((nodes_n : Nat) : Int))) = true) →
(∃ a12 : Addr, ((nodes = (some a12)) ∧
((((0 : Int) ≤ x9) ∧
(x9 < ((nodes_n : Nat) : Int))) ∧
(∃ x13 : Int, (((w7.cell? (Addr.add a12 ((x9).toNat * 1))) = (some (Value.int IntKind.i64 x13))) ∧
((((decide (x13 < 0)) = true) →
(R (Ending.returned (Value.int IntKind.i64 4611686018427387904)) w7)) ∧
(((decide (x13 < 0)) = false) →
((((decide (x13 ≥ ((distances_n : Nat) : Int))) = true) →
(R (Ending.returned (Value.int IntKind.i64 4611686018427387904)) w7)) ∧
(((decide (x13 ≥ ((distances_n : Nat) : Int))) = false) →
(∃ a18 : Addr, ((distances = (some a18)) ∧
((((0 : Int) ≤ x13) ∧
(x13 < ((distances_n : Nat) : Int))) ∧
(∃ x19 : Int, (((w7.cell? (Addr.add a18 ((x13).toNat * 1))) = (some (Value.int IntKind.i64 x19))) ∧
(∃ n20 : Nat, ((n20 < n5) ∧
(k3 n20 (if (x8 < x19) then x19 else x8) (IntKind.wrap IntKind.i64 (x9 + 1)) w7)))))))))))))))))) ∧
(((decide (x9 < ((nodes_n : Nat) : Int))) = false) →
(R (Ending.returned (Value.int IntKind.i64 x8)) w7)))))))))))))) :
    Calls Try.prog 31 #[(.slice distances distances_n distances_c), (.slice nodes nodes_n nodes_c)] w R :=
  calls_of_vc an31 Try.func31 rfl (by kernel_rfl) (by kernel_rfl) (Eq.mp (by kernel_rfl) h)

/-- samaritan/dispatchcost.Dispatchable -/
def an11 : An := (.seq (.reg []) (.cut [(2, .int .i64)] (.seq (.reg [(1, 0, true), (4, 0, true)]) (.cond (.reg []) .nil)) (.seq (.reg []) (.seq (.reg []) (.seq (.seq (.reg []) (.blk (.loop [(8, .slice), (20, .int .i64)] (.seq (.reg [(0, 0, true)]) (.seq (.cond .nil .nil) (.cut [(8, .slice)] (.blk (.seq (.reg []) (.seq (.seq (.reg [(2, 0, true)]) (.cond .nil .nil)) (.seq (.seq (.reg [(3, 1, false), (5, 0, true)]) (.cond (.seq (.reg [(3, 1, false), (5, 1, false)]) .nil) .nil)) (.reg [(3, 1, false)]))))) (.reg []))))))) (.seq (.reg []) .nil))))))
set_option maxRecDepth 100000 in
theorem nf11 (units : Option Addr) (units_n : Nat) (units_c : Nat) (urgency : Int) (reserve : Int) (w : World) (R : Ending → World → Prop) (h :
(∀ k1 : (Int → (World → Prop)), ((∀ w3 : World, (∀ x4 : Int, (((Nat → Value) →
(∀ w7 : World, ((w7 = (w3.alloc (Obj.map #[] 0))) →
(∃ k9 : (Nat → (Option Addr → (Nat → (Nat → (Int → (World → Prop)))))), ((∃ n10 : Nat, (k9 n10 none 0 0 0 w7)) ∧
(∀ n11 : Nat, ((Nat → Value) →
(∀ w13 : World, (∀ o14 : Option Addr, (∀ n15 : Nat, (∀ n16 : Nat, (∀ x17 : Int, ((k9 n11 o14 n15 n16 x17 w13) →
((((decide (x17 < ((units_n : Nat) : Int))) = true) →
(∀ k20 : (Option Addr → (Nat → (Nat → (World → Prop)))), ((∀ w22 : World, (∀ o23 : Option Addr, (∀ n24 : Nat, (∀ n25 : Nat, (((Nat → Value) →
(∃ n28 : Nat, ((n28 < n11) ∧
(k9 n28 o23 n24 n25 (IntKind.wrap IntKind.i64 (x17 + 1)) w22)))) →
(k20 o23 n24 n25 w22)))))) →
(∃ a29 : Addr, ((units = (some a29)) ∧
((((0 : Int) ≤ x17) ∧
(x17 < ((units_n : Nat) : Int))) ∧
(∃ x30 : Int, (((w13.cell? (Addr.add a29 ((x17).toNat * 10))) = (some (Value.int IntKind.i64 x30))) ∧
(∃ x31 : Int, (((w13.cell? (Addr.add (Addr.add a29 ((x17).toNat * 10)) 1)) = (some (Value.int IntKind.i64 x31))) ∧
(∃ x32 : Int, (((w13.cell? (Addr.add (Addr.add a29 ((x17).toNat * 10)) 2)) = (some (Value.int IntKind.i64 x32))) ∧
(∃ x33 : Int, (((w13.cell? (Addr.add (Addr.add a29 ((x17).toNat * 10)) 3)) = (some (Value.int IntKind.i64 x33))) ∧
(∃ x34 : Int, (((w13.cell? (Addr.add (Addr.add a29 ((x17).toNat * 10)) 4)) = (some (Value.int IntKind.i64 x34))) ∧
(∃ x35 : Int, (((w13.cell? (Addr.add (Addr.add a29 ((x17).toNat * 10)) 5)) = (some (Value.int IntKind.i64 x35))) ∧
(∃ x36 : Int, (((w13.cell? (Addr.add (Addr.add a29 ((x17).toNat * 10)) 6)) = (some (Value.int IntKind.i64 x36))) ∧
(∃ x37 : Int, (((w13.cell? (Addr.add (Addr.add a29 ((x17).toNat * 10)) 7)) = (some (Value.int IntKind.i64 x37))) ∧
(∃ x38 : Int, (((w13.cell? (Addr.add (Addr.add a29 ((x17).toNat * 10)) 8)) = (some (Value.int IntKind.i64 x38))) ∧
(∃ x39 : Int, (((w13.cell? (Addr.add (Addr.add a29 ((x17).toNat * 10)) 9)) = (some (Value.int IntKind.i64 x39))) ∧
(∀ w40 : World, ((w40 = (w13.alloc (Obj.cells #[(Value.int IntKind.i64 0), (Value.int IntKind.i64 0), (Value.int IntKind.i64 0), (Value.int IntKind.i64 0), (Value.int IntKind.i64 0), (Value.int IntKind.i64 0), (Value.int IntKind.i64 0), (Value.int IntKind.i64 0), (Value.int IntKind.i64 0), (Value.int IntKind.i64 0)] 29 (0, 0)))) →
((Nf.There w40 (⟨(hs w13), 0, none⟩ : Addr) 10) ∧
(∀ w42 : World, ((w42 = (Nf.setCells w40 (⟨(hs w13), 0, none⟩ : Addr) [(Value.int IntKind.i64 x30), (Value.int IntKind.i64 x31), (Value.int IntKind.i64 x32), (Value.int IntKind.i64 x33), (Value.int IntKind.i64 x34), (Value.int IntKind.i64 x35), (Value.int IntKind.i64 x36), (Value.int IntKind.i64 x37), (Value.int IntKind.i64 x38), (Value.int IntKind.i64 x39)] 0)) →
(∃ x44 : Int, (((w42.cell? (⟨(hs w13), 3, none⟩ : Addr)) = (some (Value.int IntKind.i64 x44))) ∧
((((!(decide (x44 = 1))) = true) →
(k20 o14 n15 n16 w42)) ∧
(((!(decide (x44 = 1))) = false) →
(∃ x47 : Int, (((w42.cell? (⟨(hs w13), 2, none⟩ : Addr)) = (some (Value.int IntKind.i64 x47))) ∧
(RunOk Try.prog (Nf.Hold (Instr.lookup 82 (Value.map (some (hs w3))) (Value.int IntKind.i64 x47) false)) w42 (fun (v48 : Value) => (fun (w49 : World) => (∃ x50 : Int, ((v48 = (Value.int IntKind.i64 x50)) ∧
((((decide (x50 < x4)) = true) →
(∃ x52 : Int, (((w49.cell? (⟨(hs w13), 2, none⟩ : Addr)) = (some (Value.int IntKind.i64 x52))) ∧
(RunOk Try.prog (Nf.Hold (Instr.lookup 82 (Value.map (some (hs w3))) (Value.int IntKind.i64 x52) false)) w49 (fun (v53 : Value) => (fun (w54 : World) => (∃ x55 : Int, ((v53 = (Value.int IntKind.i64 x55)) ∧
(RunOk Try.prog (Nf.Hold (Instr.mapUpdate 82 (Value.map (some (hs w3))) (Value.int IntKind.i64 x52) (Value.int IntKind.i64 (IntKind.wrap IntKind.i64 (x55 + 1))))) w54 (fun (k56 : Unit) => (fun (w57 : World) => (k20 o14 n15 n16 w57)))))))))))) ∧
(((decide (x50 < x4)) = false) →
(∃ x59 : Int, (((w49.cell? (⟨(hs w13), 0, none⟩ : Addr)) = (some (Value.int IntKind.i64 x59))) ∧
(∃ x60 : Int, (((w49.cell? (⟨(hs w13), 1, none⟩ : Addr)) = (some (Value.int IntKind.i64 x60))) ∧
(∃ x61 : Int, (((w49.cell? (⟨(hs w13), 2, none⟩ : Addr)) = (some (Value.int IntKind.i64 x61))) ∧
(∃ x62 : Int, (((w49.cell? (⟨(hs w13), 3, none⟩ : Addr)) = (some (Value.int IntKind.i64 x62))) ∧
(∃ x63 : Int, (((w49.cell? (⟨(hs w13), 4, none⟩ : Addr)) = (some (Value.int IntKind.i64 x63))) ∧
(∃ x64 : Int, (((w49.cell? (⟨(hs w13), 5, none⟩ : Addr)) = (some (Value.int IntKind.i64 x64))) ∧
(∃ x65 : Int, (((w49.cell? (⟨(hs w13), 6, none⟩ : Addr)) = (some (Value.int IntKind.i64 x65))) ∧
(∃ x66 : Int, (((w49.cell? (⟨(hs w13), 7, none⟩ : Addr)) = (some (Value.int IntKind.i64 x66))) ∧
(∃ x67 : Int, (((w49.cell? (⟨(hs w13), 8, none⟩ : Addr)) = (some (Value.int IntKind.i64 x67))) ∧
(∃ x68 : Int, (((w49.cell? (⟨(hs w13), 9, none⟩ : Addr)) = (some (Value.int IntKind.i64 x68))) ∧
(∀ w69 : World, ((w69 = (w49.alloc (Obj.cells #[(Value.int IntKind.i64 x59), (Value.int IntKind.i64 x60), (Value.int IntKind.i64 x61), (Value.int IntKind.i64 x62), (Value.int IntKind.i64 x63), (Value.int IntKind.i64 x64), (Value.int IntKind.i64 x65), (Value.int IntKind.i64 x66), (Value.int IntKind.i64 x67), (Value.int IntKind.i64 x68)] 29 (0, 0)))) →
(RunOk Try.prog (Nf.Hold (Builtin.append_ #[24, 24] 24 #[(Value.slice o14 n15 n16), (Value.slice (some (⟨(hs w49), 0, none⟩ : Addr)) 1 1)])) w69 (fun (v71 : Value) => (fun (w72 : World) => (∃ o73 : Option Addr, (∃ n74 : Nat, (∃ n75 : Nat, ((v71 = (Value.slice o73 n74 n75)) ∧
(k20 o73 n74 n75 w72)))))))))))))))))))))))))))))))))))))))))))))))))))))))))))))))))))))))))) ∧
(((decide (x17 < ((units_n : Nat) : Int))) = false) →
(R (Ending.returned (Value.slice o14 n15 n16)) w13)))))))))))))))) →
(k1 x4 w3)))) →
((((decide (urgency = 1)) = true) →
(k1 0 w)) ∧
(((decide (urgency = 1)) = false) →
((((decide (urgency = 2)) = true) →
(k1 0 w)) ∧
(((decide (urgency = 2)) = false) →
(k1 reserve w)))))))) :
    Calls Try.prog 11 #[(.slice units units_n units_c), (.int .i64 urgency), (.int .i64 reserve)] w R :=
  calls_of_vc an11 Try.func11 rfl (by kernel_rfl) (by kernel_rfl) (Eq.mp (by kernel_rfl) h)

/-- samaritan/dispatch.slotsOf -/
def an21 : An := (.seq (.reg []) (.seq (.reg []) (.seq (.seq (.reg []) (.blk (.loop [(9, .slice), (17, .int .i64)] (.seq (.reg [(0, 0, true)]) (.seq (.cond .nil .nil) (.cut [(9, .slice)] (.blk (.seq (.reg []) (.seq (.reg [(3, 0, true)]) (.cond (.reg [(3, 1, false)]) .nil)))) (.reg []))))))) (.seq (.reg []) .nil))))
set_option maxRecDepth 100000 in
theorem nf21 (l : Option Addr) (l_n : Nat) (l_c : Nat) (units : Option Addr) (units_n : Nat) (units_c : Nat) (plans : Option Addr) (plans_n : Nat) (plans_c : Nat) (urgency : Int) (w : World) (R : Ending → World → Prop) (h :
(Calls Try.prog 10 #[(Value.slice l l_n l_c), (Value.slice units units_n units_c), (Value.slice plans plans_n plans_c)] w (fun (e1 : Ending) => (fun (w2 : World) => (∃ o3 : Option Addr, (∃ n4 : Nat, (∃ n5 : Nat, ((e1 = (Ending.returned (Value.slice o3 n4 n5))) ∧
(∃ k6 : (Nat → (Option Addr → (Nat → (Nat → (Int → (World → Prop)))))), ((∃ n7 : Nat, (k6 n7 none 0 0 0 w2)) ∧
(∀ n8 : Nat, ((Nat → Value) →
(∀ w10 : World, (∀ o11 : Option Addr, (∀ n12 : Nat, (∀ n13 : Nat, (∀ x14 : Int, ((k6 n8 o11 n12 n13 x14 w10) →
((((decide (x14 < ((n4 : Nat) : Int))) = true) →
(∀ k17 : (Option Addr → (Nat → (Nat → (World → Prop)))), ((∀ w19 : World, (∀ o20 : Option Addr, (∀ n21 : Nat, (∀ n22 : Nat, (((Nat → Value) →
(∃ n25 : Nat, ((n25 < n8) ∧
(k6 n25 o20 n21 n22 (IntKind.wrap IntKind.i64 (x14 + 1)) w19)))) →
(k17 o20 n21 n22 w19)))))) →
(∃ a26 : Addr, ((o3 = (some a26)) ∧
((((0 : Int) ≤ x14) ∧
(x14 < ((n4 : Nat) : Int))) ∧
(∃ x27 : Int, (((w10.cell? (Addr.add a26 ((x14).toNat * 5))) = (some (Value.int IntKind.i64 x27))) ∧
(∃ x28 : Int, (((w10.cell? (Addr.add (Addr.add a26 ((x14).toNat * 5)) 1)) = (some (Value.int IntKind.i64 x28))) ∧
(∃ x29 : Int, (((w10.cell? (Addr.add (Addr.add a26 ((x14).toNat * 5)) 2)) = (some (Value.int IntKind.i64 x29))) ∧
(∃ x30 : Int, (((w10.cell? (Addr.add (Addr.add a26 ((x14).toNat * 5)) 3)) = (some (Value.int IntKind.i64 x30))) ∧
(∃ o31 : Option Addr, (∃ n32 : Nat, (∃ n33 : Nat, (((w10.cell? (Addr.add (Addr.add a26 ((x14).toNat * 5)) 4)) = (some (Value.slice o31 n32 n33))) ∧
(∀ w34 : World, ((w34 = (w10.alloc (Obj.cells #[(Value.int IntKind.i64 0), (Value.int IntKind.i64 0), (Value.int IntKind.i64 0), (Value.int IntKind.i64 0), (Value.slice none 0 0)] 46 (0, 0)))) →
((Nf.There w34 (⟨(hs w10), 0, none⟩ : Addr) 5) ∧
(∀ w36 : World, ((w36 = (Nf.setCells w34 (⟨(hs w10), 0, none⟩ : Addr) [(Value.int IntKind.i64 x27), (Value.int IntKind.i64 x28), (Value.int IntKind.i64 x29), (Value.int IntKind.i64 x30), (Value.slice o31 n32 n33)] 0)) →
(∃ x38 : Int, (((w36.cell? (⟨(hs w10), 1, none⟩ : Addr)) = (some (Value.int IntKind.i64 x38))) ∧
((((decide (x38 = urgency)) = true) →
(∃ x40 : Int, (((w36.cell? (⟨(hs w10), 0, none⟩ : Addr)) = (some (Value.int IntKind.i64 x40))) ∧
(∃ x41 : Int, (((w36.cell? (⟨(hs w10), 1, none⟩ : Addr)) = (some (Value.int IntKind.i64 x41))) ∧
(∃ x42 : Int, (((w36.cell? (⟨(hs w10), 2, none⟩ : Addr)) = (some (Value.int IntKind.i64 x42))) ∧
(∃ x43 : Int, (((w36.cell? (⟨(hs w10), 3, none⟩ : Addr)) = (some (Value.int IntKind.i64 x43))) ∧
(∃ o44 : Option Addr, (∃ n45 : Nat, (∃ n46 : Nat, (((w36.cell? (⟨(hs w10), 4, none⟩ : Addr)) = (some (Value.slice o44 n45 n46))) ∧
(∀ w47 : World, ((w47 = (w36.alloc (Obj.cells #[(Value.int IntKind.i64 x40), (Value.int IntKind.i64 x41), (Value.int IntKind.i64 x42), (Value.int IntKind.i64 x43), (Value.slice o44 n45 n46)] 46 (0, 0)))) →
(RunOk Try.prog (Nf.Hold (Builtin.append_ #[43, 43] 43 #[(Value.slice o11 n12 n13), (Value.slice (some (⟨(hs w36), 0, none⟩ : Addr)) 1 1)])) w47 (fun (v49 : Value) => (fun (w50 : World) => (∃ o51 : Option Addr, (∃ n52 : Nat, (∃ n53 : Nat, ((v49 = (Value.slice o51 n52 n53)) ∧
(k17 o51 n52 n53 w50))))))))))))))))))))))) ∧
(((decide (x38 = urgency)) = false) →
(k17 o11 n12 n13 w36)))))))))))))))))))))))))))) ∧
(((decide (x14 < ((n4 : Nat) : Int))) = false) →
(Calls Try.prog 41 #[(Value.slice o11 n12 n13)] w10 (fun (e56 : Ending) => (fun (w57 : World) => (∃ o58 : Option Addr, (∃ n59 : Nat, (∃ n60 : Nat, ((e56 = (Ending.returned (Value.slice o58 n59 n60))) ∧
(R (Ending.returned (Value.slice o58 n59 n60)) w57)))))))))))))))))))))))))))) :
    Calls Try.prog 21 #[(.slice l l_n l_c), (.slice units units_n units_c), (.slice plans plans_n plans_c), (.int .i64 urgency)] w R :=
  calls_of_vc an21 Try.func21 rfl (by kernel_rfl) (by kernel_rfl) (Eq.mp (by kernel_rfl) h)

end Go.Proofs.Ytcaokpglbolkcaa
