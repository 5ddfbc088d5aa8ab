/- The contracts' premises: for each function, the proposition that its body comes to (printed by the tool of wip/nf). -/
import Derived.Test.YtneklhmkiememaaDoorRows
import Derived.Test.YtneklhmkiememaaDoorNfD
namespace Go.Proofs.YtneklhmkiememaaDoor
open Go Go.Nf

/-- samaritan/samaritanlaw37.CertificateOptimal -/
def an6 : An := (.seq (.reg []) (.seq (.seq (.reg [(0, 0, true), (5, 0, true)]) (.cond (.seq (.reg [(0, 0, true)]) .nil) .nil)) (.seq (.seq (.reg []) (.blk (.loop [(21, .int .i64)] (.seq (.reg [(0, 0, true)]) (.seq (.cond .nil .nil) (.seq (.blk (.seq (.reg []) (.seq (.reg [(2, 0, true)]) (.cond (.seq (.reg []) .nil) .nil)))) (.reg []))))))) (.seq (.reg []) (.seq (.reg []) (.seq (.seq (.reg []) (.seq (.reg [(1, 0, true)]) (.cond (.seq (.reg [(2, 0, true), (6, 0, true), (10, 0, true)]) .nil) .nil))) (.seq (.regD [(1, 0, true), (4, 0, true), (11, 0, true), (18, 0, true), (26, 0, true)] [0, 1, 2, 3, 4, 5, 6, 7, 8, 9, 10, 11, 12, 13, 14, 15, 16, 17, 18, 19, 20, 21, 23, 25, 22, 24, 26, 27, 28] [17, 18, 22, 24, 26]) .nil)))))))
set_option maxRecDepth 100000 in
theorem nf6 (cost : Option Addr) (cost_n : Nat) (cost_c : Nat) (w : World) (R : Ending → World → Prop) (h :
(Calls Tryd.prog 9 #[] w (fun (e1 : Ending) => (fun (w2 : World) => (∃ b3 : Bool, ((e1 = (Ending.returned (Value.bool b3))) ∧
(((b3 = true) →
((((decide (((cost_n : Nat) : Int) > 30)) = true) →
(Calls Tryd.prog 9 #[] w2 (fun (e6 : Ending) => (fun (w7 : World) => (∃ b8 : Bool, ((e6 = (Ending.returned (Value.bool b8))) ∧
(((b8 = true) →
(R (Ending.returned (Value.bool true)) w7)) ∧
((b8 = false) →
(R (Ending.returned (Value.bool false)) w7))))))))) ∧
(((decide (((cost_n : Nat) : Int) > 30)) = false) →
(∃ k12 : (Nat → (Int → (World → Prop))), ((∃ n13 : Nat, (k12 n13 0 w2)) ∧
(∀ n14 : Nat, ((Nat → Value) →
(∀ w16 : World, (∀ x17 : Int, ((k12 n14 x17 w16) →
((((decide (x17 < ((cost_n : Nat) : Int))) = true) →
(∃ a20 : Addr, ((cost = (some a20)) ∧
((((0 : Int) ≤ x17) ∧
(x17 < ((cost_n : Nat) : Int))) ∧
(∃ o21 : Option Addr, (∃ n22 : Nat, (∃ n23 : Nat, (((w16.cell? (Addr.add a20 ((x17).toNat * 1))) = (some (Value.slice o21 n22 n23))) ∧
((((decide (((n22 : Nat) : Int) > 30)) = true) →
(R (Ending.returned (Value.bool true)) w16)) ∧
(((decide (((n22 : Nat) : Int) > 30)) = false) →
(∃ n26 : Nat, ((n26 < n14) ∧
(k12 n26 (IntKind.wrap IntKind.i64 (x17 + 1)) w16))))))))))))) ∧
(((decide (x17 < ((cost_n : Nat) : Int))) = false) →
(Calls Tryd.prog 12 #[(Value.slice cost cost_n cost_c)] w16 (fun (e28 : Ending) => (fun (w29 : World) => (∃ o30 : Option Addr, (∃ n31 : Nat, (∃ n32 : Nat, ((e28 = (Ending.returned (Value.slice o30 n31 n32))) ∧
(Calls Tryd.prog 21 #[(Value.slice o30 n31 n32)] w29 (fun (e33 : Ending) => (fun (w34 : World) => (∃ o35 : Option Addr, (∃ n36 : Nat, (∃ n37 : Nat, (∃ x38 : Int, (∃ x39 : Int, ((e33 = (Ending.returned (Value.tuple #[(Value.slice o35 n36 n37), (Value.int IntKind.i64 x38), (Value.int IntKind.i64 x39)]))) ∧
(Calls Tryd.prog 12 #[(Value.slice cost cost_n cost_c)] w34 (fun (e40 : Ending) => (fun (w41 : World) => (∃ o42 : Option Addr, (∃ n43 : Nat, (∃ n44 : Nat, ((e40 = (Ending.returned (Value.slice o42 n43 n44))) ∧
(Calls Tryd.prog 13 #[(Value.slice o35 n36 n37)] w41 (fun (e45 : Ending) => (fun (w46 : World) => (∃ o47 : Option Addr, (∃ n48 : Nat, (∃ n49 : Nat, ((e45 = (Ending.returned (Value.slice o47 n48 n49))) ∧
(Calls Tryd.prog 11 #[(Value.slice o42 n43 n44), (Value.slice o47 n48 n49)] w46 (fun (e50 : Ending) => (fun (w51 : World) => (∃ o52 : Option Addr, (∃ n53 : Nat, (∃ n54 : Nat, (∃ o55 : Option Addr, (∃ n56 : Nat, (∃ n57 : Nat, (∃ o58 : Option Addr, (∃ n59 : Nat, (∃ n60 : Nat, (∃ x61 : Int, ((e50 = (Ending.returned (Value.tuple #[(Value.agg #[(Value.slice o52 n53 n54), (Value.slice o55 n56 n57), (Value.slice o58 n59 n60)]), (Value.int IntKind.i64 x61)]))) ∧
(∀ w62 : World, ((w62 = (w51.alloc (Obj.cells #[(Value.slice none 0 0), (Value.slice none 0 0), (Value.slice none 0 0)] 28 (0, 0)))) →
((Nf.There w62 (⟨(hs w51), 0, none⟩ : Addr) 3) ∧
(∀ w64 : World, ((w64 = (Nf.setCells w62 (⟨(hs w51), 0, none⟩ : Addr) [(Value.slice o52 n53 n54), (Value.slice o55 n56 n57), (Value.slice o58 n59 n60)] 0)) →
(Calls Tryd.prog 22 #[(Value.slice cost cost_n cost_c)] w64 (fun (e66 : Ending) => (fun (w67 : World) => (∃ x68 : Int, ((e66 = (Ending.returned (Value.int IntKind.i64 x68))) ∧
((((!(decide (x68 = 0))) = true) →
((((decide (x39 = x68)) = true) →
((((decide (x61 = x68)) = true) →
(R (Ending.returned (Value.bool true)) w67)) ∧
(((decide (x61 = x68)) = false) →
((((decide (((cost_n : Nat) : Int) > 0)) = true) →
(R (Ending.returned (Value.bool true)) w67)) ∧
(((decide (((cost_n : Nat) : Int) > 0)) = false) →
(R (Ending.returned (Value.bool false)) w67)))))) ∧
(((decide (x39 = x68)) = false) →
(R (Ending.returned (Value.bool false)) w67)))) ∧
(((!(decide (x68 = 0))) = false) →
(∀ w77 : World, ((w77 = w67.drew) →
((((decide (x39 = 0)) = true) →
((((decide (x61 = 0)) = true) →
((((decide (((n36 : Nat) : Int) = ((cost_n : Nat) : Int))) = true) →
(∃ o82 : Option Addr, (∃ n83 : Nat, (∃ n84 : Nat, (((w77.cell? (⟨(hs w51), 0, none⟩ : Addr)) = (some (Value.slice o82 n83 n84))) ∧
(∃ o85 : Option Addr, (∃ n86 : Nat, (∃ n87 : Nat, (((w77.cell? (⟨(hs w51), 1, none⟩ : Addr)) = (some (Value.slice o85 n86 n87))) ∧
(∃ o88 : Option Addr, (∃ n89 : Nat, (∃ n90 : Nat, (((w77.cell? (⟨(hs w51), 2, none⟩ : Addr)) = (some (Value.slice o88 n89 n90))) ∧
(Calls Tryd.prog 17 #[(Value.agg #[(Value.slice o82 n83 n84), (Value.slice o85 n86 n87), (Value.slice o88 n89 n90)])] w77 (fun (e91 : Ending) => (fun (w92 : World) => (∃ o93 : Option Addr, (∃ n94 : Nat, (∃ n95 : Nat, (∃ o96 : Option Addr, (∃ n97 : Nat, (∃ n98 : Nat, (∃ o99 : Option Addr, (∃ n100 : Nat, (∃ n101 : Nat, ((e91 = (Ending.returned (Value.agg #[(Value.slice o93 n94 n95), (Value.slice o96 n97 n98), (Value.slice o99 n100 n101)]))) ∧
(Calls Tryd.prog 16 #[(Value.slice cost cost_n cost_c), (Value.slice o35 n36 n37), (Value.agg #[(Value.slice o93 n94 n95), (Value.slice o96 n97 n98), (Value.slice o99 n100 n101)])] w92 (fun (e102 : Ending) => (fun (w103 : World) => (∃ b104 : Bool, ((e102 = (Ending.returned (Value.bool b104))) ∧
(((b104 = true) →
(∃ o106 : Option Addr, (∃ n107 : Nat, (∃ n108 : Nat, (((w103.cell? (⟨(hs w51), 0, none⟩ : Addr)) = (some (Value.slice o106 n107 n108))) ∧
(∃ o109 : Option Addr, (∃ n110 : Nat, (∃ n111 : Nat, (((w103.cell? (⟨(hs w51), 1, none⟩ : Addr)) = (some (Value.slice o109 n110 n111))) ∧
(∃ o112 : Option Addr, (∃ n113 : Nat, (∃ n114 : Nat, (((w103.cell? (⟨(hs w51), 2, none⟩ : Addr)) = (some (Value.slice o112 n113 n114))) ∧
(Calls Tryd.prog 12 #[(Value.slice cost cost_n cost_c)] w103 (fun (e115 : Ending) => (fun (w116 : World) => (∃ o117 : Option Addr, (∃ n118 : Nat, (∃ n119 : Nat, ((e115 = (Ending.returned (Value.slice o117 n118 n119))) ∧
((Nf.Kept w103 w116 (⟨(hs w51), 0, none⟩ : Addr) 3) ∧
(Calls Tryd.prog 13 #[(Value.slice o35 n36 n37)] w116 (fun (e120 : Ending) => (fun (w121 : World) => (∃ o122 : Option Addr, (∃ n123 : Nat, (∃ n124 : Nat, ((e120 = (Ending.returned (Value.slice o122 n123 n124))) ∧
((Nf.Kept w103 w121 (⟨(hs w51), 0, none⟩ : Addr) 3) ∧
(Calls Tryd.prog 19 #[(Value.slice o117 n118 n119), (Value.slice o122 n123 n124), (Value.agg #[(Value.slice o106 n107 n108), (Value.slice o109 n110 n111), (Value.slice o112 n113 n114)])] w121 (fun (e125 : Ending) => (fun (w126 : World) => (∃ b127 : Bool, ((e125 = (Ending.returned (Value.bool b127))) ∧
(((b127 = true) →
(R (Ending.returned (Value.bool true)) w126)) ∧
((b127 = false) →
(R (Ending.returned (Value.bool false)) w126))))))))))))))))))))))))))))))))))))) ∧
((b104 = false) →
(R (Ending.returned (Value.bool false)) w103)))))))))))))))))))))))))))))))))) ∧
(((decide (((n36 : Nat) : Int) = ((cost_n : Nat) : Int))) = false) →
(R (Ending.returned (Value.bool false)) w77)))) ∧
(((decide (x61 = 0)) = false) →
(R (Ending.returned (Value.bool false)) w77)))) ∧
(((decide (x39 = 0)) = false) →
(R (Ending.returned (Value.bool false)) w77))))))))))))))))))))))))))))))))))))))))))))))))))))))))))))))))))))))))) ∧
((b3 = false) →
(Calls Tryd.prog 9 #[] w2 (fun (e135 : Ending) => (fun (w136 : World) => (∃ b137 : Bool, ((e135 = (Ending.returned (Value.bool b137))) ∧
(((b137 = true) →
(R (Ending.returned (Value.bool true)) w136)) ∧
((b137 = false) →
(R (Ending.returned (Value.bool false)) w136)))))))))))))))) :
    Calls Tryd.prog 6 #[(.slice cost cost_n cost_c)] w R :=
  calls_of_vc an6 Tryd.func6 rfl (by kernel_rfl) (by kernel_rfl) (Eq.mp (by kernel_rfl) h)

end Go.Proofs.YtneklhmkiememaaDoor
