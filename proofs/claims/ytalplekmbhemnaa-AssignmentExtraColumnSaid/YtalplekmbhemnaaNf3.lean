/- The contracts' premises: for each function, the proposition that its body comes to (printed by the tool of wip/nf). -/
import Derived.Test.YtalplekmbhemnaaRows
import Derived.Test.YtalplekmbhemnaaNfD
namespace Go.Proofs.Ytalplekmbhemnaa
open Go Go.Nf

/-- samaritan/samaritanlaw36.AssignmentExtraColumn -/
def an5 : An := (.seq (.reg []) (.seq (.seq (.reg [(0, 0, true)]) (.cond (.seq (.reg []) .nil) .nil)) (.seq (.seq (.reg [(1, 0, true), (8, 0, true), (13, 0, true)]) (.cond (.seq (.reg []) .nil) .nil)) (.seq (.reg []) (.seq (.seq (.reg []) (.blk (.loop [(5, .slice), (39, .int .i64)] (.seq (.reg [(0, 0, true)]) (.seq (.cond .nil .nil) (.seq (.blk (.seq (.reg []) (.regE [(3, 1, false), (9, 1, false), (11, 1, false)] (.take 0 (.take 2 (.take 4 (.take 5 (.take 6 (.take 7 (.eff (.alt (.one 1 (.eff (.alt (.one 3 (.eff (.one 8 (.eff (.one 9 (.eff (.one 10 (.eff (.one 11 (.take 12 .nil)))))))))) (.one 8 (.eff (.one 3 (.eff (.one 9 (.eff (.one 10 (.eff (.one 11 (.take 12 .nil))))))))))))) (.one 8 (.eff (.one 1 (.eff (.one 3 (.eff (.one 9 (.eff (.one 10 (.eff (.one 11 (.take 12 .nil)))))))))))))))))))) [1, 3, 8, 9, 10, 11]))) (.reg []))))))) (.seq (.seq (.reg [(2, 0, true)]) (.cond (.seq (.reg []) .nil) .nil)) (.seq (.reg []) (.seq (.reg []) (.seq (.seq (.reg [(1, 0, true), (4, 0, true)]) (.cond (.seq (.reg []) .nil) .nil)) (.seq (.reg []) (.seq (.reg []) (.seq (.reg [(1, 0, true), (4, 0, true), (9, 0, true), (13, 0, true), (19, 0, true)]) .nil))))))))))))
set_option maxRecDepth 100000 in
theorem nf5 (cost : Option Addr) (cost_n : Nat) (cost_c : Nat) (column : Option Addr) (column_n : Nat) (column_c : Nat) (w : World) (R : Ending → World → Prop) (h :
(Calls Try.prog 8 #[] w (fun (e1 : Ending) => (fun (w2 : World) => (∃ b3 : Bool, ((e1 = (Ending.returned (Value.bool b3))) ∧
(((b3 = true) →
(Calls Try.prog 9 #[(Value.slice cost cost_n cost_c), (Value.int IntKind.i64 30)] w2 (fun (e5 : Ending) => (fun (w6 : World) => (∃ b7 : Bool, ((e5 = (Ending.returned (Value.bool b7))) ∧
(((b7 = true) →
((((!(decide (((column_n : Nat) : Int) = ((cost_n : Nat) : Int)))) = true) →
(R (Ending.returned (Value.bool true)) w6)) ∧
(((!(decide (((column_n : Nat) : Int) = ((cost_n : Nat) : Int)))) = false) →
(Calls Try.prog 11 #[(Value.slice cost cost_n cost_c)] w6 (fun (e11 : Ending) => (fun (w12 : World) => (∃ x13 : Int, ((e11 = (Ending.returned (Value.int IntKind.i64 x13))) ∧
((((!(decide (x13 = 0))) = true) →
(R (Ending.returned (Value.bool true)) w12)) ∧
(((!(decide (x13 = 0))) = false) →
(∃ k16 : (Nat → (Option Addr → (Nat → (Nat → (Int → (World → Prop)))))), ((∃ n17 : Nat, (k16 n17 none 0 0 0 w12)) ∧
(∀ n18 : Nat, ((Nat → Value) →
(∀ w20 : World, (∀ o21 : Option Addr, (∀ n22 : Nat, (∀ n23 : Nat, (∀ x24 : Int, ((k16 n18 o21 n22 n23 x24 w20) →
((((decide (x24 < ((cost_n : Nat) : Int))) = true) →
(∃ a27 : Addr, ((cost = (some a27)) ∧
(((0 ≤ x24) ∧
(x24 < ((cost_n : Nat) : Int))) ∧
(∃ o28 : Option Addr, (∃ n29 : Nat, (∃ n30 : Nat, (((w20.cell? (Addr.add a27 ((x24).toNat * 1))) = (some (Value.slice o28 n29 n30))) ∧
(∀ w31 : World, ((w31 = w20.drew) →
(∃ a33 : Addr, ((column = (some a33)) ∧
(((0 ≤ x24) ∧
(x24 < ((column_n : Nat) : Int))) ∧
(∃ x34 : Int, (((w31.cell? (Addr.add a33 ((x24).toNat * 1))) = (some (Value.int IntKind.i64 x34))) ∧
((∀ w35 : World, ((w35 = (w31.alloc (Obj.cells #[] 2 (0, 0)))) →
((Nf.Kept w31 w35 (Addr.add a33 ((x24).toNat * 1)) 1) ∧
((RunOk Try.prog (Nf.Hold (Builtin.append_ #[32, 32] 32 #[(Value.slice (some (⟨(hs w31), 0, none⟩ : Addr)) 0 0), (Value.slice o28 n29 n30)])) w35 (fun (v37 : Value) => (fun (w38 : World) => (∃ o39 : Option Addr, (∃ n40 : Nat, (∃ n41 : Nat, ((v37 = (Value.slice o39 n40 n41)) ∧
((Nf.Kept w31 w38 (Addr.add a33 ((x24).toNat * 1)) 1) ∧
(∀ w42 : World, ((w42 = (w38.alloc (Obj.cells #[(Value.int IntKind.i64 x34)] 2 (0, 0)))) →
(RunOk Try.prog (Nf.Hold (Builtin.append_ #[32, 32] 32 #[(Value.slice o39 n40 n41), (Value.slice (some (⟨(hs w38), 0, none⟩ : Addr)) 1 1)])) w42 (fun (v44 : Value) => (fun (w45 : World) => (∃ o46 : Option Addr, (∃ n47 : Nat, (∃ n48 : Nat, ((v44 = (Value.slice o46 n47 n48)) ∧
(∀ w49 : World, ((w49 = (w45.alloc (Obj.cells #[(Value.slice o46 n47 n48)] 32 (0, 0)))) →
(RunOk Try.prog (Nf.Hold (Builtin.append_ #[22, 22] 22 #[(Value.slice o21 n22 n23), (Value.slice (some (⟨(hs w45), 0, none⟩ : Addr)) 1 1)])) w49 (fun (v51 : Value) => (fun (w52 : World) => (∃ o53 : Option Addr, (∃ n54 : Nat, (∃ n55 : Nat, ((v51 = (Value.slice o53 n54 n55)) ∧
(∃ n56 : Nat, ((n56 < n18) ∧
(k16 n56 o53 n54 n55 (IntKind.wrap IntKind.i64 (x24 + 1)) w52))))))))))))))))))))))))))))) ∧
(∀ w57 : World, ((w57 = (w35.alloc (Obj.cells #[(Value.int IntKind.i64 x34)] 2 (0, 0)))) →
(RunOk Try.prog (Nf.Hold (Builtin.append_ #[32, 32] 32 #[(Value.slice (some (⟨(hs w31), 0, none⟩ : Addr)) 0 0), (Value.slice o28 n29 n30)])) w57 (fun (v59 : Value) => (fun (w60 : World) => (∃ o61 : Option Addr, (∃ n62 : Nat, (∃ n63 : Nat, ((v59 = (Value.slice o61 n62 n63)) ∧
(RunOk Try.prog (Nf.Hold (Builtin.append_ #[32, 32] 32 #[(Value.slice o61 n62 n63), (Value.slice (some (⟨(hs w35), 0, none⟩ : Addr)) 1 1)])) w60 (fun (v64 : Value) => (fun (w65 : World) => (∃ o66 : Option Addr, (∃ n67 : Nat, (∃ n68 : Nat, ((v64 = (Value.slice o66 n67 n68)) ∧
(∀ w69 : World, ((w69 = (w65.alloc (Obj.cells #[(Value.slice o66 n67 n68)] 32 (0, 0)))) →
(RunOk Try.prog (Nf.Hold (Builtin.append_ #[22, 22] 22 #[(Value.slice o21 n22 n23), (Value.slice (some (⟨(hs w65), 0, none⟩ : Addr)) 1 1)])) w69 (fun (v71 : Value) => (fun (w72 : World) => (∃ o73 : Option Addr, (∃ n74 : Nat, (∃ n75 : Nat, ((v71 = (Value.slice o73 n74 n75)) ∧
(∃ n76 : Nat, ((n76 < n18) ∧
(k16 n76 o73 n74 n75 (IntKind.wrap IntKind.i64 (x24 + 1)) w72)))))))))))))))))))))))))))))))) ∧
(∀ w77 : World, ((w77 = (w31.alloc (Obj.cells #[(Value.int IntKind.i64 x34)] 2 (0, 0)))) →
(∀ w79 : World, ((w79 = (w77.alloc (Obj.cells #[] 2 (0, 0)))) →
(RunOk Try.prog (Nf.Hold (Builtin.append_ #[32, 32] 32 #[(Value.slice (some (⟨(hs w77), 0, none⟩ : Addr)) 0 0), (Value.slice o28 n29 n30)])) w79 (fun (v81 : Value) => (fun (w82 : World) => (∃ o83 : Option Addr, (∃ n84 : Nat, (∃ n85 : Nat, ((v81 = (Value.slice o83 n84 n85)) ∧
(RunOk Try.prog (Nf.Hold (Builtin.append_ #[32, 32] 32 #[(Value.slice o83 n84 n85), (Value.slice (some (⟨(hs w31), 0, none⟩ : Addr)) 1 1)])) w82 (fun (v86 : Value) => (fun (w87 : World) => (∃ o88 : Option Addr, (∃ n89 : Nat, (∃ n90 : Nat, ((v86 = (Value.slice o88 n89 n90)) ∧
(∀ w91 : World, ((w91 = (w87.alloc (Obj.cells #[(Value.slice o88 n89 n90)] 32 (0, 0)))) →
(RunOk Try.prog (Nf.Hold (Builtin.append_ #[22, 22] 22 #[(Value.slice o21 n22 n23), (Value.slice (some (⟨(hs w87), 0, none⟩ : Addr)) 1 1)])) w91 (fun (v93 : Value) => (fun (w94 : World) => (∃ o95 : Option Addr, (∃ n96 : Nat, (∃ n97 : Nat, ((v93 = (Value.slice o95 n96 n97)) ∧
(∃ n98 : Nat, ((n98 < n18) ∧
(k16 n98 o95 n96 n97 (IntKind.wrap IntKind.i64 (x24 + 1)) w94)))))))))))))))))))))))))))))))))))))))))))))) ∧
(((decide (x24 < ((cost_n : Nat) : Int))) = false) →
(Calls Try.prog 11 #[(Value.slice o21 n22 n23)] w20 (fun (e100 : Ending) => (fun (w101 : World) => (∃ x102 : Int, ((e100 = (Ending.returned (Value.int IntKind.i64 x102))) ∧
((((!(decide (x102 = 0))) = true) →
(R (Ending.returned (Value.bool true)) w101)) ∧
(((!(decide (x102 = 0))) = false) →
(Calls Try.prog 10 #[(Value.slice cost cost_n cost_c)] w101 (fun (e105 : Ending) => (fun (w106 : World) => (∃ o107 : Option Addr, (∃ n108 : Nat, (∃ n109 : Nat, (∃ x110 : Int, (∃ x111 : Int, ((e105 = (Ending.returned (Value.tuple #[(Value.slice o107 n108 n109), (Value.int IntKind.i64 x110), (Value.int IntKind.i64 x111)]))) ∧
(Calls Try.prog 10 #[(Value.slice o21 n22 n23)] w106 (fun (e112 : Ending) => (fun (w113 : World) => (∃ o114 : Option Addr, (∃ n115 : Nat, (∃ n116 : Nat, (∃ x117 : Int, (∃ x118 : Int, ((e112 = (Ending.returned (Value.tuple #[(Value.slice o114 n115 n116), (Value.int IntKind.i64 x117), (Value.int IntKind.i64 x118)]))) ∧
((((!(decide (x111 = 0))) = true) →
(R (Ending.returned (Value.bool false)) w113)) ∧
(((!(decide (x111 = 0))) = false) →
((((!(decide (x118 = 0))) = true) →
(R (Ending.returned (Value.bool false)) w113)) ∧
(((!(decide (x118 = 0))) = false) →
(Calls Try.prog 12 #[(Value.slice cost cost_n cost_c), (Value.slice o107 n108 n109)] w113 (fun (e123 : Ending) => (fun (w124 : World) => (∃ x125 : Int, (∃ x126 : Int, (∃ x127 : Int, ((e123 = (Ending.returned (Value.tuple #[(Value.int IntKind.i64 x125), (Value.int IntKind.i64 x126), (Value.int IntKind.i64 x127)]))) ∧
(Calls Try.prog 12 #[(Value.slice o21 n22 n23), (Value.slice o114 n115 n116)] w124 (fun (e128 : Ending) => (fun (w129 : World) => (∃ x130 : Int, (∃ x131 : Int, (∃ x132 : Int, ((e128 = (Ending.returned (Value.tuple #[(Value.int IntKind.i64 x130), (Value.int IntKind.i64 x131), (Value.int IntKind.i64 x132)]))) ∧
((((decide (x127 = 0)) = true) →
((((decide (x132 = 0)) = true) →
((((decide (x130 = x125)) = true) →
((((decide (x117 ≤ x110)) = true) →
(R (Ending.returned (Value.bool true)) w129)) ∧
(((decide (x117 ≤ x110)) = false) →
((((decide (x130 = (IntKind.wrap IntKind.i64 (x125 + 1)))) = true) →
(R (Ending.returned (Value.bool true)) w129)) ∧
(((decide (x130 = (IntKind.wrap IntKind.i64 (x125 + 1)))) = false) →
(R (Ending.returned (Value.bool false)) w129)))))) ∧
(((decide (x130 = x125)) = false) →
((((decide (x130 = (IntKind.wrap IntKind.i64 (x125 + 1)))) = true) →
(R (Ending.returned (Value.bool true)) w129)) ∧
(((decide (x130 = (IntKind.wrap IntKind.i64 (x125 + 1)))) = false) →
(R (Ending.returned (Value.bool false)) w129)))))) ∧
(((decide (x132 = 0)) = false) →
(R (Ending.returned (Value.bool false)) w129)))) ∧
(((decide (x127 = 0)) = false) →
(R (Ending.returned (Value.bool false)) w129)))))))))))))))))))))))))))))))))))))))))))))))))))))))))))))))))))) ∧
((b7 = false) →
(R (Ending.returned (Value.bool true)) w6))))))))) ∧
((b3 = false) →
(R (Ending.returned (Value.bool false)) w2))))))))) :
    Calls Try.prog 5 #[(.slice cost cost_n cost_c), (.slice column column_n column_c)] w R :=
  calls_of_vc an5 Try.func5 rfl (by kernel_rfl) (by kernel_rfl) (Eq.mp (by kernel_rfl) h)

end Go.Proofs.Ytalplekmbhemnaa
