/- The contracts' premises of the certificate's functions (printed by the tool of wip/nf). -/
import Derived.Test.YtcaokpglbolkcaaRows
import Derived.Test.YtcaokpglbolkcaaNfD
namespace Go.Proofs.Ytcaokpglbolkcaa
open Go Go.Nf

/-- samaritan/assignment.Cost -/
def an13 : An := (.seq (.reg []) (.seq (.reg []) (.seq (.seq (.reg [(1, 0, true)]) (.cond (.seq (.reg []) .nil) .nil)) (.seq (.seq (.reg [(4, 0, true)]) (.cond (.seq (.reg []) .nil) .nil)) (.seq (.reg [(1, 1, false)]) (.seq (.reg []) (.seq (.seq (.reg []) (.blk (.loop [(10, .int .i64), (11, .int .i64), (31, .int .i64)] (.seq (.reg [(0, 0, true)]) (.seq (.cond .nil .nil) (.cut [(10, .int .i64), (11, .int .i64)] (.blk (.seq (.reg []) (.seq (.seq (.reg [(1, 0, true)]) (.cond .nil .nil)) (.seq (.seq (.reg [(1, 0, true), (5, 0, true), (11, 0, true), (21, 0, true)]) (.cond (.seq (.reg []) .nil) .nil)) (.seq (.reg []) (.seq (.reg []) (.reg []))))))) (.reg []))))))) (.seq (.reg []) .nil))))))))
set_option maxRecDepth 100000 in
theorem nf13 (cost : Option Addr) (cost_n : Nat) (cost_c : Nat) (m : Option Addr) (m_n : Nat) (m_c : Nat) (w : World) (R : Ending → World → Prop) (h :
(Calls Try.prog 32 #[(Value.slice cost cost_n cost_c)] w (fun (e1 : Ending) => (fun (w2 : World) => (∃ x3 : Int, (∃ x4 : Int, ((e1 = (Ending.returned (Value.tuple #[(Value.int IntKind.i64 x3), (Value.int IntKind.i64 x4)]))) ∧
((((!(decide (x4 = 0))) = true) →
(R (Ending.returned (Value.tuple #[(Value.int IntKind.i64 0), (Value.int IntKind.i64 0), (Value.int IntKind.i64 x4)])) w2)) ∧
(((!(decide (x4 = 0))) = false) →
((((!(decide (((m_n : Nat) : Int) = ((cost_n : Nat) : Int)))) = true) →
(R (Ending.returned (Value.tuple #[(Value.int IntKind.i64 0), (Value.int IntKind.i64 0), (Value.int IntKind.i64 1)])) w2)) ∧
(((!(decide (((m_n : Nat) : Int) = ((cost_n : Nat) : Int)))) = false) →
(RunOk Try.prog (Nf.Hold (Instr.makeSlice 93 (Value.int IntKind.i64 x3) (Value.int IntKind.i64 x3))) w2 (fun (v9 : Value) => (fun (w10 : World) => (∃ o11 : Option Addr, (∃ n12 : Nat, (∃ n13 : Nat, ((v9 = (Value.slice o11 n12 n13)) ∧
(∃ k14 : (Nat → (Int → (Int → (Int → (World → Prop))))), ((∃ n15 : Nat, (k14 n15 0 0 0 w10)) ∧
(∀ n16 : Nat, ((Nat → Value) →
(∀ w18 : World, (∀ x19 : Int, (∀ x20 : Int, (∀ x21 : Int, ((k14 n16 x19 x20 x21 w18) →
((((decide (x21 < ((m_n : Nat) : Int))) = true) →
(∀ k24 : (Int → (Int → (World → Prop))), ((∀ w26 : World, (∀ x27 : Int, (∀ x28 : Int, (((Nat → Value) →
(∃ n31 : Nat, ((n31 < n16) ∧
(k14 n31 x27 x28 (IntKind.wrap IntKind.i64 (x21 + 1)) w26)))) →
(k24 x27 x28 w26))))) →
(∃ a32 : Addr, ((m = (some a32)) ∧
((((0 : Int) ≤ x21) ∧
(x21 < ((m_n : Nat) : Int))) ∧
(∃ x33 : Int, (((w18.cell? (Addr.add a32 ((x21).toNat * 1))) = (some (Value.int IntKind.i64 x33))) ∧
((((decide (x33 = (-1))) = true) →
(k24 x19 x20 w18)) ∧
(((decide (x33 = (-1))) = false) →
((((decide (x33 < 0)) = true) →
(R (Ending.returned (Value.tuple #[(Value.int IntKind.i64 0), (Value.int IntKind.i64 0), (Value.int IntKind.i64 1)])) w18)) ∧
(((decide (x33 < 0)) = false) →
((((decide (x33 ≥ x3)) = true) →
(R (Ending.returned (Value.tuple #[(Value.int IntKind.i64 0), (Value.int IntKind.i64 0), (Value.int IntKind.i64 1)])) w18)) ∧
(((decide (x33 ≥ x3)) = false) →
(∃ a40 : Addr, ((o11 = (some a40)) ∧
((((0 : Int) ≤ x33) ∧
(x33 < ((n12 : Nat) : Int))) ∧
(∃ b41 : Bool, (((w18.cell? (Addr.add a40 ((x33).toNat * 1))) = (some (Value.bool b41))) ∧
(((b41 = true) →
(R (Ending.returned (Value.tuple #[(Value.int IntKind.i64 0), (Value.int IntKind.i64 0), (Value.int IntKind.i64 1)])) w18)) ∧
((b41 = false) →
(∃ a44 : Addr, ((cost = (some a44)) ∧
((((0 : Int) ≤ x21) ∧
(x21 < ((cost_n : Nat) : Int))) ∧
(∃ o45 : Option Addr, (∃ n46 : Nat, (∃ n47 : Nat, (((w18.cell? (Addr.add a44 ((x21).toNat * 1))) = (some (Value.slice o45 n46 n47))) ∧
(∃ a48 : Addr, ((o45 = (some a48)) ∧
((((0 : Int) ≤ x33) ∧
(x33 < ((n46 : Nat) : Int))) ∧
(∃ x49 : Int, (((w18.cell? (Addr.add a48 ((x33).toNat * 1))) = (some (Value.int IntKind.i64 x49))) ∧
((((decide (x49 = 4611686018427387904)) = true) →
(R (Ending.returned (Value.tuple #[(Value.int IntKind.i64 0), (Value.int IntKind.i64 0), (Value.int IntKind.i64 1)])) w18)) ∧
(((decide (x49 = 4611686018427387904)) = false) →
(∃ a52 : Addr, ((o11 = (some a52)) ∧
((((0 : Int) ≤ x33) ∧
(x33 < ((n12 : Nat) : Int))) ∧
((Nf.There w18 (Addr.add a52 ((x33).toNat * 1)) 1) ∧
(∀ w53 : World, ((w53 = (Nf.setCells w18 (Addr.add a52 ((x33).toNat * 1)) [(Value.bool true)] 0)) →
(∃ a55 : Addr, ((cost = (some a55)) ∧
((((0 : Int) ≤ x21) ∧
(x21 < ((cost_n : Nat) : Int))) ∧
(∃ o56 : Option Addr, (∃ n57 : Nat, (∃ n58 : Nat, (((w53.cell? (Addr.add a55 ((x21).toNat * 1))) = (some (Value.slice o56 n57 n58))) ∧
(∃ a59 : Addr, ((o56 = (some a59)) ∧
((((0 : Int) ≤ x33) ∧
(x33 < ((n57 : Nat) : Int))) ∧
(∃ x60 : Int, (((w53.cell? (Addr.add a59 ((x33).toNat * 1))) = (some (Value.int IntKind.i64 x60))) ∧
(k24 (IntKind.wrap IntKind.i64 (x19 + 1)) (IntKind.wrap IntKind.i64 (x20 + x60)) w53)))))))))))))))))))))))))))))))))))))))))))))))))))))) ∧
(((decide (x21 < ((m_n : Nat) : Int))) = false) →
(R (Ending.returned (Value.tuple #[(Value.int IntKind.i64 x19), (Value.int IntKind.i64 x20), (Value.int IntKind.i64 0)])) w18)))))))))))))))))))))))))))))) :
    Calls Try.prog 13 #[(.slice cost cost_n cost_c), (.slice m m_n m_c)] w R :=
  calls_of_vc an13 Try.func13 rfl (by kernel_rfl) (by kernel_rfl) (Eq.mp (by kernel_rfl) h)

/-- samaritan/certificate.Verify -/
def an16 : An := (.seq (.reg []) (.seq (.reg []) (.seq (.seq (.regD [(1, 0, true), (8, 0, true)] [0, 1, 2, 3, 4, 5, 6, 7, 8, 9, 10] [7, 8]) (.cond (.seq (.reg []) .nil) .nil)) (.seq (.reg [(3, 0, true), (11, 0, true)]) .nil))))
set_option maxRecDepth 100000 in
theorem nf16 (cost : Option Addr) (cost_n : Nat) (cost_c : Nat) (m : Option Addr) (m_n : Nat) (m_c : Nat) (p_RowPrices : Option Addr) (p_RowPrices_n : Nat) (p_RowPrices_c : Nat) (p_ColumnPrices : Option Addr) (p_ColumnPrices_n : Nat) (p_ColumnPrices_c : Nat) (p_HallRows : Option Addr) (p_HallRows_n : Nat) (p_HallRows_c : Nat) (w : World) (R : Ending → World → Prop) (h :
(∀ w1 : World, ((w1 = (w.alloc (Obj.cells #[(Value.slice p_RowPrices p_RowPrices_n p_RowPrices_c), (Value.slice p_ColumnPrices p_ColumnPrices_n p_ColumnPrices_c), (Value.slice p_HallRows p_HallRows_n p_HallRows_c)] 57 (0, 0)))) →
(Calls Try.prog 13 #[(Value.slice cost cost_n cost_c), (Value.slice m m_n m_c)] w1 (fun (e3 : Ending) => (fun (w4 : World) => (∃ x5 : Int, (∃ x6 : Int, (∃ x7 : Int, ((e3 = (Ending.returned (Value.tuple #[(Value.int IntKind.i64 x5), (Value.int IntKind.i64 x6), (Value.int IntKind.i64 x7)]))) ∧
(∀ w8 : World, ((w8 = w4.drew) →
((((!(decide (x7 = 0))) = true) →
(R (Ending.returned (Value.bool false)) w8)) ∧
(((!(decide (x7 = 0))) = false) →
(∃ o12 : Option Addr, (∃ n13 : Nat, (∃ n14 : Nat, (((w8.cell? (⟨(hs w), 0, none⟩ : Addr)) = (some (Value.slice o12 n13 n14))) ∧
(∃ o15 : Option Addr, (∃ n16 : Nat, (∃ n17 : Nat, (((w8.cell? (⟨(hs w), 1, none⟩ : Addr)) = (some (Value.slice o15 n16 n17))) ∧
(∃ o18 : Option Addr, (∃ n19 : Nat, (∃ n20 : Nat, (((w8.cell? (⟨(hs w), 2, none⟩ : Addr)) = (some (Value.slice o18 n19 n20))) ∧
(Calls Try.prog 37 #[(Value.slice cost cost_n cost_c)] w8 (fun (e21 : Ending) => (fun (w22 : World) => (∃ x23 : Int, ((e21 = (Ending.returned (Value.int IntKind.i64 x23))) ∧
((Nf.Kept w8 w22 (⟨(hs w), 0, none⟩ : Addr) 3) ∧
(Calls Try.prog 36 #[(Value.agg #[(Value.slice o12 n13 n14), (Value.slice o15 n16 n17), (Value.slice o18 n19 n20)]), (Value.int IntKind.i64 ((cost_n : Nat) : Int)), (Value.int IntKind.i64 x23)] w22 (fun (e24 : Ending) => (fun (w25 : World) => (∃ b26 : Bool, ((e24 = (Ending.returned (Value.bool b26))) ∧
(((b26 = true) →
(∃ o28 : Option Addr, (∃ n29 : Nat, (∃ n30 : Nat, (((w25.cell? (⟨(hs w), 0, none⟩ : Addr)) = (some (Value.slice o28 n29 n30))) ∧
(∃ o31 : Option Addr, (∃ n32 : Nat, (∃ n33 : Nat, (((w25.cell? (⟨(hs w), 1, none⟩ : Addr)) = (some (Value.slice o31 n32 n33))) ∧
(∃ o34 : Option Addr, (∃ n35 : Nat, (∃ n36 : Nat, (((w25.cell? (⟨(hs w), 2, none⟩ : Addr)) = (some (Value.slice o34 n35 n36))) ∧
(Calls Try.prog 38 #[(Value.slice cost cost_n cost_c), (Value.slice m m_n m_c), (Value.agg #[(Value.slice o28 n29 n30), (Value.slice o31 n32 n33), (Value.slice o34 n35 n36)])] w25 (fun (e37 : Ending) => (fun (w38 : World) => (∃ b39 : Bool, ((e37 = (Ending.returned (Value.bool b39))) ∧
(((b39 = true) →
(∃ o41 : Option Addr, (∃ n42 : Nat, (∃ n43 : Nat, (((w38.cell? (⟨(hs w), 0, none⟩ : Addr)) = (some (Value.slice o41 n42 n43))) ∧
(∃ o44 : Option Addr, (∃ n45 : Nat, (∃ n46 : Nat, (((w38.cell? (⟨(hs w), 1, none⟩ : Addr)) = (some (Value.slice o44 n45 n46))) ∧
(∃ o47 : Option Addr, (∃ n48 : Nat, (∃ n49 : Nat, (((w38.cell? (⟨(hs w), 2, none⟩ : Addr)) = (some (Value.slice o47 n48 n49))) ∧
(Calls Try.prog 39 #[(Value.slice cost cost_n cost_c), (Value.int IntKind.i64 (IntKind.wrap IntKind.i64 (((cost_n : Nat) : Int) - x5))), (Value.agg #[(Value.slice o41 n42 n43), (Value.slice o44 n45 n46), (Value.slice o47 n48 n49)])] w38 (fun (e50 : Ending) => (fun (w51 : World) => (∃ b52 : Bool, ((e50 = (Ending.returned (Value.bool b52))) ∧
(((b52 = true) →
(R (Ending.returned (Value.bool true)) w51)) ∧
((b52 = false) →
(R (Ending.returned (Value.bool false)) w51))))))))))))))))))))) ∧
((b39 = false) →
(R (Ending.returned (Value.bool false)) w38))))))))))))))))))))) ∧
((b26 = false) →
(R (Ending.returned (Value.bool false)) w25)))))))))))))))))))))))))))))))))))))))) :
    Calls Try.prog 16 #[(.slice cost cost_n cost_c), (.slice m m_n m_c), (.agg #[(.slice p_RowPrices p_RowPrices_n p_RowPrices_c), (.slice p_ColumnPrices p_ColumnPrices_n p_ColumnPrices_c), (.slice p_HallRows p_HallRows_n p_HallRows_c)])] w R :=
  calls_of_vc an16 Try.func16 rfl (by kernel_rfl) (by kernel_rfl) (Eq.mp (by kernel_rfl) h)

/-- samaritan/certificate.Certify -/
def an15 : An := (.seq (.reg []) (.seq (.reg []) (.seq (.seq (.reg [(1, 0, true)]) (.cond (.seq (.reg []) .nil) .nil)) (.seq (.reg []) (.seq (.seq (.reg [(1, 0, true)]) (.cond (.seq (.reg []) .nil) .nil)) (.seq (.reg []) (.seq (.seq (.reg [(1, 0, true), (5, 0, true), (10, 0, true)]) (.cond (.seq (.reg []) .nil) .nil)) (.seq (.reg [(6, 0, true)]) (.seq (.seq (.reg []) (.cond (.seq (.reg []) .nil) .nil)) (.seq (.reg []) .nil))))))))))
set_option maxRecDepth 100000 in
theorem nf15 (cost : Option Addr) (cost_n : Nat) (cost_c : Nat) (m : Option Addr) (m_n : Nat) (m_c : Nat) (w : World) (R : Ending → World → Prop) (h :
(∀ w1 : World, ((w1 = (w.alloc (Obj.cells #[(Value.slice none 0 0), (Value.slice none 0 0), (Value.slice none 0 0)] 57 (0, 0)))) →
(Calls Try.prog 13 #[(Value.slice cost cost_n cost_c), (Value.slice m m_n m_c)] w1 (fun (e3 : Ending) => (fun (w4 : World) => (∃ x5 : Int, (∃ x6 : Int, (∃ x7 : Int, ((e3 = (Ending.returned (Value.tuple #[(Value.int IntKind.i64 x5), (Value.int IntKind.i64 x6), (Value.int IntKind.i64 x7)]))) ∧
((((!(decide (x7 = 0))) = true) →
((Nf.There w4 (⟨(hs w), 0, none⟩ : Addr) 3) ∧
(∀ w9 : World, ((w9 = (Nf.setCells w4 (⟨(hs w), 0, none⟩ : Addr) [(Value.slice none 0 0), (Value.slice none 0 0), (Value.slice none 0 0)] 0)) →
(∃ o11 : Option Addr, (∃ n12 : Nat, (∃ n13 : Nat, (((w9.cell? (⟨(hs w), 0, none⟩ : Addr)) = (some (Value.slice o11 n12 n13))) ∧
(∃ o14 : Option Addr, (∃ n15 : Nat, (∃ n16 : Nat, (((w9.cell? (⟨(hs w), 1, none⟩ : Addr)) = (some (Value.slice o14 n15 n16))) ∧
(∃ o17 : Option Addr, (∃ n18 : Nat, (∃ n19 : Nat, (((w9.cell? (⟨(hs w), 2, none⟩ : Addr)) = (some (Value.slice o17 n18 n19))) ∧
(R (Ending.returned (Value.tuple #[(Value.agg #[(Value.slice o11 n12 n13), (Value.slice o14 n15 n16), (Value.slice o17 n18 n19)]), (Value.int IntKind.i64 x7)])) w9))))))))))))))))) ∧
(((!(decide (x7 = 0))) = false) →
(Calls Try.prog 14 #[(Value.slice cost cost_n cost_c)] w4 (fun (e21 : Ending) => (fun (w22 : World) => (∃ o23 : Option Addr, (∃ n24 : Nat, (∃ n25 : Nat, (∃ x26 : Int, (∃ x27 : Int, ((e21 = (Ending.returned (Value.tuple #[(Value.slice o23 n24 n25), (Value.int IntKind.i64 x26), (Value.int IntKind.i64 x27)]))) ∧
((((!(decide (x27 = 0))) = true) →
((Nf.There w22 (⟨(hs w), 0, none⟩ : Addr) 3) ∧
(∀ w29 : World, ((w29 = (Nf.setCells w22 (⟨(hs w), 0, none⟩ : Addr) [(Value.slice none 0 0), (Value.slice none 0 0), (Value.slice none 0 0)] 0)) →
(∃ o31 : Option Addr, (∃ n32 : Nat, (∃ n33 : Nat, (((w29.cell? (⟨(hs w), 0, none⟩ : Addr)) = (some (Value.slice o31 n32 n33))) ∧
(∃ o34 : Option Addr, (∃ n35 : Nat, (∃ n36 : Nat, (((w29.cell? (⟨(hs w), 1, none⟩ : Addr)) = (some (Value.slice o34 n35 n36))) ∧
(∃ o37 : Option Addr, (∃ n38 : Nat, (∃ n39 : Nat, (((w29.cell? (⟨(hs w), 2, none⟩ : Addr)) = (some (Value.slice o37 n38 n39))) ∧
(R (Ending.returned (Value.tuple #[(Value.agg #[(Value.slice o31 n32 n33), (Value.slice o34 n35 n36), (Value.slice o37 n38 n39)]), (Value.int IntKind.i64 x27)])) w29))))))))))))))))) ∧
(((!(decide (x27 = 0))) = false) →
(Calls Try.prog 13 #[(Value.slice cost cost_n cost_c), (Value.slice o23 n24 n25)] w22 (fun (e41 : Ending) => (fun (w42 : World) => (∃ x43 : Int, (∃ x44 : Int, (∃ x45 : Int, ((e41 = (Ending.returned (Value.tuple #[(Value.int IntKind.i64 x43), (Value.int IntKind.i64 x44), (Value.int IntKind.i64 x45)]))) ∧
((((!(decide (x45 = 0))) = true) →
((Nf.There w42 (⟨(hs w), 0, none⟩ : Addr) 3) ∧
(∀ w47 : World, ((w47 = (Nf.setCells w42 (⟨(hs w), 0, none⟩ : Addr) [(Value.slice none 0 0), (Value.slice none 0 0), (Value.slice none 0 0)] 0)) →
(∃ o49 : Option Addr, (∃ n50 : Nat, (∃ n51 : Nat, (((w47.cell? (⟨(hs w), 0, none⟩ : Addr)) = (some (Value.slice o49 n50 n51))) ∧
(∃ o52 : Option Addr, (∃ n53 : Nat, (∃ n54 : Nat, (((w47.cell? (⟨(hs w), 1, none⟩ : Addr)) = (some (Value.slice o52 n53 n54))) ∧
(∃ o55 : Option Addr, (∃ n56 : Nat, (∃ n57 : Nat, (((w47.cell? (⟨(hs w), 2, none⟩ : Addr)) = (some (Value.slice o55 n56 n57))) ∧
(R (Ending.returned (Value.tuple #[(Value.agg #[(Value.slice o49 n50 n51), (Value.slice o52 n53 n54), (Value.slice o55 n56 n57)]), (Value.int IntKind.i64 14)])) w47))))))))))))))))) ∧
(((!(decide (x45 = 0))) = false) →
((((!(decide (x5 = x43))) = true) →
((Nf.There w42 (⟨(hs w), 0, none⟩ : Addr) 3) ∧
(∀ w60 : World, ((w60 = (Nf.setCells w42 (⟨(hs w), 0, none⟩ : Addr) [(Value.slice none 0 0), (Value.slice none 0 0), (Value.slice none 0 0)] 0)) →
(∃ o62 : Option Addr, (∃ n63 : Nat, (∃ n64 : Nat, (((w60.cell? (⟨(hs w), 0, none⟩ : Addr)) = (some (Value.slice o62 n63 n64))) ∧
(∃ o65 : Option Addr, (∃ n66 : Nat, (∃ n67 : Nat, (((w60.cell? (⟨(hs w), 1, none⟩ : Addr)) = (some (Value.slice o65 n66 n67))) ∧
(∃ o68 : Option Addr, (∃ n69 : Nat, (∃ n70 : Nat, (((w60.cell? (⟨(hs w), 2, none⟩ : Addr)) = (some (Value.slice o68 n69 n70))) ∧
(R (Ending.returned (Value.tuple #[(Value.agg #[(Value.slice o62 n63 n64), (Value.slice o65 n66 n67), (Value.slice o68 n69 n70)]), (Value.int IntKind.i64 14)])) w60))))))))))))))))) ∧
(((!(decide (x5 = x43))) = false) →
((((!(decide (x6 = x26))) = true) →
((Nf.There w42 (⟨(hs w), 0, none⟩ : Addr) 3) ∧
(∀ w73 : World, ((w73 = (Nf.setCells w42 (⟨(hs w), 0, none⟩ : Addr) [(Value.slice none 0 0), (Value.slice none 0 0), (Value.slice none 0 0)] 0)) →
(∃ o75 : Option Addr, (∃ n76 : Nat, (∃ n77 : Nat, (((w73.cell? (⟨(hs w), 0, none⟩ : Addr)) = (some (Value.slice o75 n76 n77))) ∧
(∃ o78 : Option Addr, (∃ n79 : Nat, (∃ n80 : Nat, (((w73.cell? (⟨(hs w), 1, none⟩ : Addr)) = (some (Value.slice o78 n79 n80))) ∧
(∃ o81 : Option Addr, (∃ n82 : Nat, (∃ n83 : Nat, (((w73.cell? (⟨(hs w), 2, none⟩ : Addr)) = (some (Value.slice o81 n82 n83))) ∧
(R (Ending.returned (Value.tuple #[(Value.agg #[(Value.slice o75 n76 n77), (Value.slice o78 n79 n80), (Value.slice o81 n82 n83)]), (Value.int IntKind.i64 14)])) w73))))))))))))))))) ∧
(((!(decide (x6 = x26))) = false) →
(Calls Try.prog 34 #[(Value.slice cost cost_n cost_c), (Value.slice m m_n m_c)] w42 (fun (e85 : Ending) => (fun (w86 : World) => (∃ o87 : Option Addr, (∃ n88 : Nat, (∃ n89 : Nat, (∃ o90 : Option Addr, (∃ n91 : Nat, (∃ n92 : Nat, (∃ b93 : Bool, ((e85 = (Ending.returned (Value.tuple #[(Value.slice o87 n88 n89), (Value.slice o90 n91 n92), (Value.bool b93)]))) ∧
(((b93 = true) →
(Calls Try.prog 35 #[(Value.slice cost cost_n cost_c), (Value.slice m m_n m_c)] w86 (fun (e95 : Ending) => (fun (w96 : World) => (∃ o97 : Option Addr, (∃ n98 : Nat, (∃ n99 : Nat, ((e95 = (Ending.returned (Value.slice o97 n98 n99))) ∧
((Nf.There w96 (⟨(hs w), 0, none⟩ : Addr) 3) ∧
(∀ w100 : World, ((w100 = (Nf.setCells w96 (⟨(hs w), 0, none⟩ : Addr) [(Value.slice o87 n88 n89), (Value.slice o90 n91 n92), (Value.slice o97 n98 n99)] 0)) →
(∃ o102 : Option Addr, (∃ n103 : Nat, (∃ n104 : Nat, (((w100.cell? (⟨(hs w), 0, none⟩ : Addr)) = (some (Value.slice o102 n103 n104))) ∧
(∃ o105 : Option Addr, (∃ n106 : Nat, (∃ n107 : Nat, (((w100.cell? (⟨(hs w), 1, none⟩ : Addr)) = (some (Value.slice o105 n106 n107))) ∧
(∃ o108 : Option Addr, (∃ n109 : Nat, (∃ n110 : Nat, (((w100.cell? (⟨(hs w), 2, none⟩ : Addr)) = (some (Value.slice o108 n109 n110))) ∧
(R (Ending.returned (Value.tuple #[(Value.agg #[(Value.slice o102 n103 n104), (Value.slice o105 n106 n107), (Value.slice o108 n109 n110)]), (Value.int IntKind.i64 0)])) w100)))))))))))))))))))))))) ∧
((b93 = false) →
((Nf.There w86 (⟨(hs w), 0, none⟩ : Addr) 3) ∧
(∀ w112 : World, ((w112 = (Nf.setCells w86 (⟨(hs w), 0, none⟩ : Addr) [(Value.slice none 0 0), (Value.slice none 0 0), (Value.slice none 0 0)] 0)) →
(∃ o114 : Option Addr, (∃ n115 : Nat, (∃ n116 : Nat, (((w112.cell? (⟨(hs w), 0, none⟩ : Addr)) = (some (Value.slice o114 n115 n116))) ∧
(∃ o117 : Option Addr, (∃ n118 : Nat, (∃ n119 : Nat, (((w112.cell? (⟨(hs w), 1, none⟩ : Addr)) = (some (Value.slice o117 n118 n119))) ∧
(∃ o120 : Option Addr, (∃ n121 : Nat, (∃ n122 : Nat, (((w112.cell? (⟨(hs w), 2, none⟩ : Addr)) = (some (Value.slice o120 n121 n122))) ∧
(R (Ending.returned (Value.tuple #[(Value.agg #[(Value.slice o114 n115 n116), (Value.slice o117 n118 n119), (Value.slice o120 n121 n122)]), (Value.int IntKind.i64 14)])) w112))))))))))))))))))))))))))))))))))))))))))))))))))))))))))))))))) :
    Calls Try.prog 15 #[(.slice cost cost_n cost_c), (.slice m m_n m_c)] w R :=
  calls_of_vc an15 Try.func15 rfl (by kernel_rfl) (by kernel_rfl) (Eq.mp (by kernel_rfl) h)

/-- samaritan/certificate.prices -/
def an34 : An := (.seq (.reg []) (.seq (.regE [(2, 1, false), (5, 1, false)] (.take 0 (.take 1 (.take 3 (.eff (.alt (.one 2 (.eff (.one 4 (.take 6 (.eff (.one 5 (.take 7 .nil))))))) (.one 4 (.eff (.alt (.one 2 (.take 6 (.eff (.one 5 (.take 7 .nil))))) (.one 5 (.eff (.one 2 (.take 6 (.take 7 .nil))))))))))))) [2, 4, 5]) (.seq (.reg []) (.seq (.seq (.reg []) (.blk (.loop [(27, .int .i64)] (.seq (.reg [(0, 0, true)]) (.seq (.cond .nil .nil) (.cut [] (.blk (.seq (.reg []) (.seq (.reg []) (.seq (.reg [(1, 0, true)]) (.cond (.reg []) .nil))))) (.reg []))))))) (.seq (.seq (.reg []) (.blk (.loop [(54, .int .i64)] (.seq (.reg [(0, 0, true)]) (.seq (.cond .nil .nil) (.seq (.blk (.seq (.reg []) (.seq (.seq (.reg []) (.blk (.loop [(12, .bool), (58, .int .i64)] (.seq (.reg [(0, 0, true)]) (.seq (.cond .nil .nil) (.seq (.blk (.seq (.reg []) (.seq (.reg []) (.blk (.loop [(12, .bool), (63, .int .i64)] (.seq (.reg [(0, 0, true)]) (.seq (.cond .nil .nil) (.cut [(12, .bool)] (.blk (.seq (.reg []) (.seq (.seq (.regD [(7, 0, true), (25, 0, true)] [0, 1, 2, 3, 4, 5, 6, 7, 8, 9, 10, 11, 12, 13, 14, 15, 16, 17, 18, 19, 20, 21, 22, 23, 24, 25, 26] []) (.cond .nil .nil)) (.seq (.seq (.reg [(4, 0, true)]) (.cond (.seq (.reg []) .nil) .nil)) (.seq (.regD [] [0, 1, 2, 3, 4, 5, 6, 7, 8, 9, 10, 11, 12, 13, 14, 15] [15]) (.seq (.regD [] [0, 1, 2, 3, 4, 5, 6, 7, 8, 9, 10, 11, 12, 13, 14, 15, 16, 17, 18, 19, 20, 21] [21]) (.reg []))))))) (.reg []))))))))) (.reg []))))))) (.seq (.reg [(0, 0, true)]) (.cond (.seq (.reg []) .nil) .nil))))) (.reg []))))))) (.seq (.reg []) .nil))))))
set_option maxRecDepth 100000 in
theorem nf34 (cost : Option Addr) (cost_n : Nat) (cost_c : Nat) (m : Option Addr) (m_n : Nat) (m_c : Nat) (w : World) (R : Ending → World → Prop) (h :
(∀ w1 : World, ((w1 = w.drew) →
((RunOk Try.prog (Nf.Hold (Instr.makeSlice 32 (Value.int IntKind.i64 ((cost_n : Nat) : Int)) (Value.int IntKind.i64 ((cost_n : Nat) : Int)))) w1 (fun (v3 : Value) => (fun (w4 : World) => (∃ o5 : Option Addr, (∃ n6 : Nat, (∃ n7 : Nat, ((v3 = (Value.slice o5 n6 n7)) ∧
(Calls Try.prog 37 #[(Value.slice cost cost_n cost_c)] w4 (fun (e8 : Ending) => (fun (w9 : World) => (∃ x10 : Int, ((e8 = (Ending.returned (Value.int IntKind.i64 x10))) ∧
(RunOk Try.prog (Nf.Hold (Instr.makeSlice 32 (Value.int IntKind.i64 x10) (Value.int IntKind.i64 x10))) w9 (fun (v11 : Value) => (fun (w12 : World) => (∃ o13 : Option Addr, (∃ n14 : Nat, (∃ n15 : Nat, ((v11 = (Value.slice o13 n14 n15)) ∧
(Calls Try.prog 56 #[(Value.int IntKind.i64 ((n14 : Nat) : Int)), (Value.slice m m_n m_c)] w12 (fun (e16 : Ending) => (fun (w17 : World) => (∃ o18 : Option Addr, (∃ n19 : Nat, (∃ n20 : Nat, ((e16 = (Ending.returned (Value.slice o18 n19 n20))) ∧
(∃ k21 : (Nat → (Int → (World → Prop))), ((∃ n22 : Nat, (k21 n22 0 w17)) ∧
(∀ n23 : Nat, ((Nat → Value) →
(∀ w25 : World, (∀ x26 : Int, ((k21 n23 x26 w25) →
((((decide (x26 < ((m_n : Nat) : Int))) = true) →
(∀ k29 : (World → Prop), ((∀ w31 : World, (((Nat → Value) →
(∃ n34 : Nat, ((n34 < n23) ∧
(k21 n34 (IntKind.wrap IntKind.i64 (x26 + 1)) w31)))) →
(k29 w31))) →
(∃ a35 : Addr, ((m = (some a35)) ∧
((((0 : Int) ≤ x26) ∧
(x26 < ((m_n : Nat) : Int))) ∧
(∃ x36 : Int, (((w25.cell? (Addr.add a35 ((x26).toNat * 1))) = (some (Value.int IntKind.i64 x36))) ∧
(∃ a37 : Addr, ((o5 = (some a37)) ∧
((((0 : Int) ≤ x26) ∧
(x26 < ((n6 : Nat) : Int))) ∧
((Nf.There w25 (Addr.add a37 ((x26).toNat * 1)) 1) ∧
(∀ w38 : World, ((w38 = (Nf.setCells w25 (Addr.add a37 ((x26).toNat * 1)) [(Value.int IntKind.i64 1125899906842624)] 0)) →
((((decide (x36 ≥ 0)) = true) →
(∃ a41 : Addr, ((cost = (some a41)) ∧
((((0 : Int) ≤ x26) ∧
(x26 < ((cost_n : Nat) : Int))) ∧
(∃ o42 : Option Addr, (∃ n43 : Nat, (∃ n44 : Nat, (((w38.cell? (Addr.add a41 ((x26).toNat * 1))) = (some (Value.slice o42 n43 n44))) ∧
(∃ a45 : Addr, ((o42 = (some a45)) ∧
((((0 : Int) ≤ x36) ∧
(x36 < ((n43 : Nat) : Int))) ∧
(∃ x46 : Int, (((w38.cell? (Addr.add a45 ((x36).toNat * 1))) = (some (Value.int IntKind.i64 x46))) ∧
(∃ a47 : Addr, ((o5 = (some a47)) ∧
((((0 : Int) ≤ x26) ∧
(x26 < ((n6 : Nat) : Int))) ∧
((Nf.There w38 (Addr.add a47 ((x26).toNat * 1)) 1) ∧
(∀ w48 : World, ((w48 = (Nf.setCells w38 (Addr.add a47 ((x26).toNat * 1)) [(Value.int IntKind.i64 x46)] 0)) →
(k29 w48)))))))))))))))))))) ∧
(((decide (x36 ≥ 0)) = false) →
(k29 w38))))))))))))))))) ∧
(((decide (x26 < ((m_n : Nat) : Int))) = false) →
(∃ k52 : (Nat → (Int → (World → Prop))), ((∃ n53 : Nat, (k52 n53 0 w25)) ∧
(∀ n54 : Nat, ((Nat → Value) →
(∀ w56 : World, (∀ x57 : Int, ((k52 n54 x57 w56) →
((((decide (x57 < (IntKind.wrap IntKind.i64 ((IntKind.wrap IntKind.i64 (((n6 : Nat) : Int) + ((n14 : Nat) : Int))) + 2)))) = true) →
(∃ k60 : (Nat → (Bool → (Int → (World → Prop)))), ((∃ n61 : Nat, (k60 n61 false 0 w56)) ∧
(∀ n62 : Nat, ((Nat → Value) →
(∀ w64 : World, (∀ b65 : Bool, (∀ x66 : Int, ((k60 n62 b65 x66 w64) →
((((decide (x66 < ((n6 : Nat) : Int))) = true) →
(∃ k69 : (Nat → (Bool → (Int → (World → Prop)))), ((∃ n70 : Nat, (k69 n70 b65 0 w64)) ∧
(∀ n71 : Nat, ((Nat → Value) →
(∀ w73 : World, (∀ b74 : Bool, (∀ x75 : Int, ((k69 n71 b74 x75 w73) →
((((decide (x75 < ((n14 : Nat) : Int))) = true) →
(∀ k78 : (Bool → (World → Prop)), ((∀ w80 : World, (∀ b81 : Bool, (((Nat → Value) →
(∃ n84 : Nat, ((n84 < n71) ∧
(k69 n84 b81 (IntKind.wrap IntKind.i64 (x75 + 1)) w80)))) →
(k78 b81 w80)))) →
(∀ w85 : World, ((w85 = w73.drew) →
(∃ a87 : Addr, ((cost = (some a87)) ∧
((((0 : Int) ≤ x66) ∧
(x66 < ((cost_n : Nat) : Int))) ∧
(∃ o88 : Option Addr, (∃ n89 : Nat, (∃ n90 : Nat, (((w85.cell? (Addr.add a87 ((x66).toNat * 1))) = (some (Value.slice o88 n89 n90))) ∧
(∃ a91 : Addr, ((o88 = (some a91)) ∧
((((0 : Int) ≤ x75) ∧
(x75 < ((n89 : Nat) : Int))) ∧
(∃ x92 : Int, (((w85.cell? (Addr.add a91 ((x75).toNat * 1))) = (some (Value.int IntKind.i64 x92))) ∧
((((decide (x92 = 4611686018427387904)) = true) →
(k78 b74 w85)) ∧
(((decide (x92 = 4611686018427387904)) = false) →
(∃ a95 : Addr, ((o5 = (some a95)) ∧
((((0 : Int) ≤ x66) ∧
(x66 < ((n6 : Nat) : Int))) ∧
(∃ x96 : Int, (((w85.cell? (Addr.add a95 ((x66).toNat * 1))) = (some (Value.int IntKind.i64 x96))) ∧
(∃ a97 : Addr, ((o13 = (some a97)) ∧
((((0 : Int) ≤ x75) ∧
(x75 < ((n14 : Nat) : Int))) ∧
(∃ x98 : Int, (((w85.cell? (Addr.add a97 ((x75).toNat * 1))) = (some (Value.int IntKind.i64 x98))) ∧
(∃ a99 : Addr, ((cost = (some a99)) ∧
((((0 : Int) ≤ x66) ∧
(x66 < ((cost_n : Nat) : Int))) ∧
(∃ o100 : Option Addr, (∃ n101 : Nat, (∃ n102 : Nat, (((w85.cell? (Addr.add a99 ((x66).toNat * 1))) = (some (Value.slice o100 n101 n102))) ∧
(∃ a103 : Addr, ((o100 = (some a103)) ∧
((((0 : Int) ≤ x75) ∧
(x75 < ((n101 : Nat) : Int))) ∧
(∃ x104 : Int, (((w85.cell? (Addr.add a103 ((x75).toNat * 1))) = (some (Value.int IntKind.i64 x104))) ∧
((((decide ((IntKind.wrap IntKind.i64 (x96 + x98)) ≤ x104)) = true) →
(k78 b74 w85)) ∧
(((decide ((IntKind.wrap IntKind.i64 (x96 + x98)) ≤ x104)) = false) →
(∃ a107 : Addr, ((o18 = (some a107)) ∧
((((0 : Int) ≤ x75) ∧
(x75 < ((n19 : Nat) : Int))) ∧
(∃ x108 : Int, (((w85.cell? (Addr.add a107 ((x75).toNat * 1))) = (some (Value.int IntKind.i64 x108))) ∧
((((decide (x108 < 0)) = true) →
(R (Ending.returned (Value.tuple #[(Value.slice none 0 0), (Value.slice none 0 0), (Value.bool false)])) w85)) ∧
(((decide (x108 < 0)) = false) →
(∀ w111 : World, ((w111 = w85.drew) →
(∃ a113 : Addr, ((cost = (some a113)) ∧
((((0 : Int) ≤ x66) ∧
(x66 < ((cost_n : Nat) : Int))) ∧
(∃ o114 : Option Addr, (∃ n115 : Nat, (∃ n116 : Nat, (((w111.cell? (Addr.add a113 ((x66).toNat * 1))) = (some (Value.slice o114 n115 n116))) ∧
(∃ a117 : Addr, ((o114 = (some a117)) ∧
((((0 : Int) ≤ x75) ∧
(x75 < ((n115 : Nat) : Int))) ∧
(∃ x118 : Int, (((w111.cell? (Addr.add a117 ((x75).toNat * 1))) = (some (Value.int IntKind.i64 x118))) ∧
(∃ a119 : Addr, ((o5 = (some a119)) ∧
((((0 : Int) ≤ x66) ∧
(x66 < ((n6 : Nat) : Int))) ∧
(∃ x120 : Int, (((w111.cell? (Addr.add a119 ((x66).toNat * 1))) = (some (Value.int IntKind.i64 x120))) ∧
(∃ a121 : Addr, ((o13 = (some a121)) ∧
((((0 : Int) ≤ x75) ∧
(x75 < ((n14 : Nat) : Int))) ∧
((Nf.There w111 (Addr.add a121 ((x75).toNat * 1)) 1) ∧
(∀ w122 : World, ((w122 = (Nf.setCells w111 (Addr.add a121 ((x75).toNat * 1)) [(Value.int IntKind.i64 (IntKind.wrap IntKind.i64 (x118 - x120)))] 0)) →
(∀ w124 : World, ((w124 = w122.drew) →
(∃ a126 : Addr, ((o18 = (some a126)) ∧
((((0 : Int) ≤ x75) ∧
(x75 < ((n19 : Nat) : Int))) ∧
(∃ x127 : Int, (((w124.cell? (Addr.add a126 ((x75).toNat * 1))) = (some (Value.int IntKind.i64 x127))) ∧
(∃ a128 : Addr, ((o18 = (some a128)) ∧
((((0 : Int) ≤ x75) ∧
(x75 < ((n19 : Nat) : Int))) ∧
(∃ x129 : Int, (((w124.cell? (Addr.add a128 ((x75).toNat * 1))) = (some (Value.int IntKind.i64 x129))) ∧
(∃ a130 : Addr, ((cost = (some a130)) ∧
((((0 : Int) ≤ x129) ∧
(x129 < ((cost_n : Nat) : Int))) ∧
(∃ o131 : Option Addr, (∃ n132 : Nat, (∃ n133 : Nat, (((w124.cell? (Addr.add a130 ((x129).toNat * 1))) = (some (Value.slice o131 n132 n133))) ∧
(∃ a134 : Addr, ((o131 = (some a134)) ∧
((((0 : Int) ≤ x75) ∧
(x75 < ((n132 : Nat) : Int))) ∧
(∃ x135 : Int, (((w124.cell? (Addr.add a134 ((x75).toNat * 1))) = (some (Value.int IntKind.i64 x135))) ∧
(∃ a136 : Addr, ((o13 = (some a136)) ∧
((((0 : Int) ≤ x75) ∧
(x75 < ((n14 : Nat) : Int))) ∧
(∃ x137 : Int, (((w124.cell? (Addr.add a136 ((x75).toNat * 1))) = (some (Value.int IntKind.i64 x137))) ∧
(∃ a138 : Addr, ((o5 = (some a138)) ∧
((((0 : Int) ≤ x127) ∧
(x127 < ((n6 : Nat) : Int))) ∧
((Nf.There w124 (Addr.add a138 ((x127).toNat * 1)) 1) ∧
(∀ w139 : World, ((w139 = (Nf.setCells w124 (Addr.add a138 ((x127).toNat * 1)) [(Value.int IntKind.i64 (IntKind.wrap IntKind.i64 (x135 - x137)))] 0)) →
(k78 true w139))))))))))))))))))))))))))))))))))))))))))))))))))))))))))))))))))))))))))))))))))))))))))))))))))))))))))))))) ∧
(((decide (x75 < ((n14 : Nat) : Int))) = false) →
(∃ n142 : Nat, ((n142 < n62) ∧
(k60 n142 b74 (IntKind.wrap IntKind.i64 (x66 + 1)) w73)))))))))))))) ∧
(((decide (x66 < ((n6 : Nat) : Int))) = false) →
(((b65 = true) →
(∃ n145 : Nat, ((n145 < n54) ∧
(k52 n145 (IntKind.wrap IntKind.i64 (x57 + 1)) w64)))) ∧
((b65 = false) →
(R (Ending.returned (Value.tuple #[(Value.slice o5 n6 n7), (Value.slice o13 n14 n15), (Value.bool true)])) w64)))))))))))))) ∧
(((decide (x57 < (IntKind.wrap IntKind.i64 ((IntKind.wrap IntKind.i64 (((n6 : Nat) : Int) + ((n14 : Nat) : Int))) + 2)))) = false) →
(R (Ending.returned (Value.tuple #[(Value.slice none 0 0), (Value.slice none 0 0), (Value.bool false)])) w56))))))))))))))))))))))))))))))))))))))))))))) ∧
(Calls Try.prog 37 #[(Value.slice cost cost_n cost_c)] w1 (fun (e148 : Ending) => (fun (w149 : World) => (∃ x150 : Int, ((e148 = (Ending.returned (Value.int IntKind.i64 x150))) ∧
((RunOk Try.prog (Nf.Hold (Instr.makeSlice 32 (Value.int IntKind.i64 ((cost_n : Nat) : Int)) (Value.int IntKind.i64 ((cost_n : Nat) : Int)))) w149 (fun (v151 : Value) => (fun (w152 : World) => (∃ o153 : Option Addr, (∃ n154 : Nat, (∃ n155 : Nat, ((v151 = (Value.slice o153 n154 n155)) ∧
(RunOk Try.prog (Nf.Hold (Instr.makeSlice 32 (Value.int IntKind.i64 x150) (Value.int IntKind.i64 x150))) w152 (fun (v156 : Value) => (fun (w157 : World) => (∃ o158 : Option Addr, (∃ n159 : Nat, (∃ n160 : Nat, ((v156 = (Value.slice o158 n159 n160)) ∧
(Calls Try.prog 56 #[(Value.int IntKind.i64 ((n159 : Nat) : Int)), (Value.slice m m_n m_c)] w157 (fun (e161 : Ending) => (fun (w162 : World) => (∃ o163 : Option Addr, (∃ n164 : Nat, (∃ n165 : Nat, ((e161 = (Ending.returned (Value.slice o163 n164 n165))) ∧
(∃ k166 : (Nat → (Int → (World → Prop))), ((∃ n167 : Nat, (k166 n167 0 w162)) ∧
(∀ n168 : Nat, ((Nat → Value) →
(∀ w170 : World, (∀ x171 : Int, ((k166 n168 x171 w170) →
((((decide (x171 < ((m_n : Nat) : Int))) = true) →
(∀ k174 : (World → Prop), ((∀ w176 : World, (((Nat → Value) →
(∃ n179 : Nat, ((n179 < n168) ∧
(k166 n179 (IntKind.wrap IntKind.i64 (x171 + 1)) w176)))) →
(k174 w176))) →
(∃ a180 : Addr, ((m = (some a180)) ∧
((((0 : Int) ≤ x171) ∧
(x171 < ((m_n : Nat) : Int))) ∧
(∃ x181 : Int, (((w170.cell? (Addr.add a180 ((x171).toNat * 1))) = (some (Value.int IntKind.i64 x181))) ∧
(∃ a182 : Addr, ((o153 = (some a182)) ∧
((((0 : Int) ≤ x171) ∧
(x171 < ((n154 : Nat) : Int))) ∧
((Nf.There w170 (Addr.add a182 ((x171).toNat * 1)) 1) ∧
(∀ w183 : World, ((w183 = (Nf.setCells w170 (Addr.add a182 ((x171).toNat * 1)) [(Value.int IntKind.i64 1125899906842624)] 0)) →
((((decide (x181 ≥ 0)) = true) →
(∃ a186 : Addr, ((cost = (some a186)) ∧
((((0 : Int) ≤ x171) ∧
(x171 < ((cost_n : Nat) : Int))) ∧
(∃ o187 : Option Addr, (∃ n188 : Nat, (∃ n189 : Nat, (((w183.cell? (Addr.add a186 ((x171).toNat * 1))) = (some (Value.slice o187 n188 n189))) ∧
(∃ a190 : Addr, ((o187 = (some a190)) ∧
((((0 : Int) ≤ x181) ∧
(x181 < ((n188 : Nat) : Int))) ∧
(∃ x191 : Int, (((w183.cell? (Addr.add a190 ((x181).toNat * 1))) = (some (Value.int IntKind.i64 x191))) ∧
(∃ a192 : Addr, ((o153 = (some a192)) ∧
((((0 : Int) ≤ x171) ∧
(x171 < ((n154 : Nat) : Int))) ∧
((Nf.There w183 (Addr.add a192 ((x171).toNat * 1)) 1) ∧
(∀ w193 : World, ((w193 = (Nf.setCells w183 (Addr.add a192 ((x171).toNat * 1)) [(Value.int IntKind.i64 x191)] 0)) →
(k174 w193)))))))))))))))))))) ∧
(((decide (x181 ≥ 0)) = false) →
(k174 w183))))))))))))))))) ∧
(((decide (x171 < ((m_n : Nat) : Int))) = false) →
(∃ k197 : (Nat → (Int → (World → Prop))), ((∃ n198 : Nat, (k197 n198 0 w170)) ∧
(∀ n199 : Nat, ((Nat → Value) →
(∀ w201 : World, (∀ x202 : Int, ((k197 n199 x202 w201) →
((((decide (x202 < (IntKind.wrap IntKind.i64 ((IntKind.wrap IntKind.i64 (((n154 : Nat) : Int) + ((n159 : Nat) : Int))) + 2)))) = true) →
(∃ k205 : (Nat → (Bool → (Int → (World → Prop)))), ((∃ n206 : Nat, (k205 n206 false 0 w201)) ∧
(∀ n207 : Nat, ((Nat → Value) →
(∀ w209 : World, (∀ b210 : Bool, (∀ x211 : Int, ((k205 n207 b210 x211 w209) →
((((decide (x211 < ((n154 : Nat) : Int))) = true) →
(∃ k214 : (Nat → (Bool → (Int → (World → Prop)))), ((∃ n215 : Nat, (k214 n215 b210 0 w209)) ∧
(∀ n216 : Nat, ((Nat → Value) →
(∀ w218 : World, (∀ b219 : Bool, (∀ x220 : Int, ((k214 n216 b219 x220 w218) →
((((decide (x220 < ((n159 : Nat) : Int))) = true) →
(∀ k223 : (Bool → (World → Prop)), ((∀ w225 : World, (∀ b226 : Bool, (((Nat → Value) →
(∃ n229 : Nat, ((n229 < n216) ∧
(k214 n229 b226 (IntKind.wrap IntKind.i64 (x220 + 1)) w225)))) →
(k223 b226 w225)))) →
(∀ w230 : World, ((w230 = w218.drew) →
(∃ a232 : Addr, ((cost = (some a232)) ∧
((((0 : Int) ≤ x211) ∧
(x211 < ((cost_n : Nat) : Int))) ∧
(∃ o233 : Option Addr, (∃ n234 : Nat, (∃ n235 : Nat, (((w230.cell? (Addr.add a232 ((x211).toNat * 1))) = (some (Value.slice o233 n234 n235))) ∧
(∃ a236 : Addr, ((o233 = (some a236)) ∧
((((0 : Int) ≤ x220) ∧
(x220 < ((n234 : Nat) : Int))) ∧
(∃ x237 : Int, (((w230.cell? (Addr.add a236 ((x220).toNat * 1))) = (some (Value.int IntKind.i64 x237))) ∧
((((decide (x237 = 4611686018427387904)) = true) →
(k223 b219 w230)) ∧
(((decide (x237 = 4611686018427387904)) = false) →
(∃ a240 : Addr, ((o153 = (some a240)) ∧
((((0 : Int) ≤ x211) ∧
(x211 < ((n154 : Nat) : Int))) ∧
(∃ x241 : Int, (((w230.cell? (Addr.add a240 ((x211).toNat * 1))) = (some (Value.int IntKind.i64 x241))) ∧
(∃ a242 : Addr, ((o158 = (some a242)) ∧
((((0 : Int) ≤ x220) ∧
(x220 < ((n159 : Nat) : Int))) ∧
(∃ x243 : Int, (((w230.cell? (Addr.add a242 ((x220).toNat * 1))) = (some (Value.int IntKind.i64 x243))) ∧
(∃ a244 : Addr, ((cost = (some a244)) ∧
((((0 : Int) ≤ x211) ∧
(x211 < ((cost_n : Nat) : Int))) ∧
(∃ o245 : Option Addr, (∃ n246 : Nat, (∃ n247 : Nat, (((w230.cell? (Addr.add a244 ((x211).toNat * 1))) = (some (Value.slice o245 n246 n247))) ∧
(∃ a248 : Addr, ((o245 = (some a248)) ∧
((((0 : Int) ≤ x220) ∧
(x220 < ((n246 : Nat) : Int))) ∧
(∃ x249 : Int, (((w230.cell? (Addr.add a248 ((x220).toNat * 1))) = (some (Value.int IntKind.i64 x249))) ∧
((((decide ((IntKind.wrap IntKind.i64 (x241 + x243)) ≤ x249)) = true) →
(k223 b219 w230)) ∧
(((decide ((IntKind.wrap IntKind.i64 (x241 + x243)) ≤ x249)) = false) →
(∃ a252 : Addr, ((o163 = (some a252)) ∧
((((0 : Int) ≤ x220) ∧
(x220 < ((n164 : Nat) : Int))) ∧
(∃ x253 : Int, (((w230.cell? (Addr.add a252 ((x220).toNat * 1))) = (some (Value.int IntKind.i64 x253))) ∧
((((decide (x253 < 0)) = true) →
(R (Ending.returned (Value.tuple #[(Value.slice none 0 0), (Value.slice none 0 0), (Value.bool false)])) w230)) ∧
(((decide (x253 < 0)) = false) →
(∀ w256 : World, ((w256 = w230.drew) →
(∃ a258 : Addr, ((cost = (some a258)) ∧
((((0 : Int) ≤ x211) ∧
(x211 < ((cost_n : Nat) : Int))) ∧
(∃ o259 : Option Addr, (∃ n260 : Nat, (∃ n261 : Nat, (((w256.cell? (Addr.add a258 ((x211).toNat * 1))) = (some (Value.slice o259 n260 n261))) ∧
(∃ a262 : Addr, ((o259 = (some a262)) ∧
((((0 : Int) ≤ x220) ∧
(x220 < ((n260 : Nat) : Int))) ∧
(∃ x263 : Int, (((w256.cell? (Addr.add a262 ((x220).toNat * 1))) = (some (Value.int IntKind.i64 x263))) ∧
(∃ a264 : Addr, ((o153 = (some a264)) ∧
((((0 : Int) ≤ x211) ∧
(x211 < ((n154 : Nat) : Int))) ∧
(∃ x265 : Int, (((w256.cell? (Addr.add a264 ((x211).toNat * 1))) = (some (Value.int IntKind.i64 x265))) ∧
(∃ a266 : Addr, ((o158 = (some a266)) ∧
((((0 : Int) ≤ x220) ∧
(x220 < ((n159 : Nat) : Int))) ∧
((Nf.There w256 (Addr.add a266 ((x220).toNat * 1)) 1) ∧
(∀ w267 : World, ((w267 = (Nf.setCells w256 (Addr.add a266 ((x220).toNat * 1)) [(Value.int IntKind.i64 (IntKind.wrap IntKind.i64 (x263 - x265)))] 0)) →
(∀ w269 : World, ((w269 = w267.drew) →
(∃ a271 : Addr, ((o163 = (some a271)) ∧
((((0 : Int) ≤ x220) ∧
(x220 < ((n164 : Nat) : Int))) ∧
(∃ x272 : Int, (((w269.cell? (Addr.add a271 ((x220).toNat * 1))) = (some (Value.int IntKind.i64 x272))) ∧
(∃ a273 : Addr, ((o163 = (some a273)) ∧
((((0 : Int) ≤ x220) ∧
(x220 < ((n164 : Nat) : Int))) ∧
(∃ x274 : Int, (((w269.cell? (Addr.add a273 ((x220).toNat * 1))) = (some (Value.int IntKind.i64 x274))) ∧
(∃ a275 : Addr, ((cost = (some a275)) ∧
((((0 : Int) ≤ x274) ∧
(x274 < ((cost_n : Nat) : Int))) ∧
(∃ o276 : Option Addr, (∃ n277 : Nat, (∃ n278 : Nat, (((w269.cell? (Addr.add a275 ((x274).toNat * 1))) = (some (Value.slice o276 n277 n278))) ∧
(∃ a279 : Addr, ((o276 = (some a279)) ∧
((((0 : Int) ≤ x220) ∧
(x220 < ((n277 : Nat) : Int))) ∧
(∃ x280 : Int, (((w269.cell? (Addr.add a279 ((x220).toNat * 1))) = (some (Value.int IntKind.i64 x280))) ∧
(∃ a281 : Addr, ((o158 = (some a281)) ∧
((((0 : Int) ≤ x220) ∧
(x220 < ((n159 : Nat) : Int))) ∧
(∃ x282 : Int, (((w269.cell? (Addr.add a281 ((x220).toNat * 1))) = (some (Value.int IntKind.i64 x282))) ∧
(∃ a283 : Addr, ((o153 = (some a283)) ∧
((((0 : Int) ≤ x272) ∧
(x272 < ((n154 : Nat) : Int))) ∧
((Nf.There w269 (Addr.add a283 ((x272).toNat * 1)) 1) ∧
(∀ w284 : World, ((w284 = (Nf.setCells w269 (Addr.add a283 ((x272).toNat * 1)) [(Value.int IntKind.i64 (IntKind.wrap IntKind.i64 (x280 - x282)))] 0)) →
(k223 true w284))))))))))))))))))))))))))))))))))))))))))))))))))))))))))))))))))))))))))))))))))))))))))))))))))))))))))))))) ∧
(((decide (x220 < ((n159 : Nat) : Int))) = false) →
(∃ n287 : Nat, ((n287 < n207) ∧
(k205 n287 b219 (IntKind.wrap IntKind.i64 (x211 + 1)) w218)))))))))))))) ∧
(((decide (x211 < ((n154 : Nat) : Int))) = false) →
(((b210 = true) →
(∃ n290 : Nat, ((n290 < n199) ∧
(k197 n290 (IntKind.wrap IntKind.i64 (x202 + 1)) w209)))) ∧
((b210 = false) →
(R (Ending.returned (Value.tuple #[(Value.slice o153 n154 n155), (Value.slice o158 n159 n160), (Value.bool true)])) w209)))))))))))))) ∧
(((decide (x202 < (IntKind.wrap IntKind.i64 ((IntKind.wrap IntKind.i64 (((n154 : Nat) : Int) + ((n159 : Nat) : Int))) + 2)))) = false) →
(R (Ending.returned (Value.tuple #[(Value.slice none 0 0), (Value.slice none 0 0), (Value.bool false)])) w201)))))))))))))))))))))))))))))))))))))))) ∧
(RunOk Try.prog (Nf.Hold (Instr.makeSlice 32 (Value.int IntKind.i64 x150) (Value.int IntKind.i64 x150))) w149 (fun (v293 : Value) => (fun (w294 : World) => (∃ o295 : Option Addr, (∃ n296 : Nat, (∃ n297 : Nat, ((v293 = (Value.slice o295 n296 n297)) ∧
(RunOk Try.prog (Nf.Hold (Instr.makeSlice 32 (Value.int IntKind.i64 ((cost_n : Nat) : Int)) (Value.int IntKind.i64 ((cost_n : Nat) : Int)))) w294 (fun (v298 : Value) => (fun (w299 : World) => (∃ o300 : Option Addr, (∃ n301 : Nat, (∃ n302 : Nat, ((v298 = (Value.slice o300 n301 n302)) ∧
(Calls Try.prog 56 #[(Value.int IntKind.i64 ((n296 : Nat) : Int)), (Value.slice m m_n m_c)] w299 (fun (e303 : Ending) => (fun (w304 : World) => (∃ o305 : Option Addr, (∃ n306 : Nat, (∃ n307 : Nat, ((e303 = (Ending.returned (Value.slice o305 n306 n307))) ∧
(∃ k308 : (Nat → (Int → (World → Prop))), ((∃ n309 : Nat, (k308 n309 0 w304)) ∧
(∀ n310 : Nat, ((Nat → Value) →
(∀ w312 : World, (∀ x313 : Int, ((k308 n310 x313 w312) →
((((decide (x313 < ((m_n : Nat) : Int))) = true) →
(∀ k316 : (World → Prop), ((∀ w318 : World, (((Nat → Value) →
(∃ n321 : Nat, ((n321 < n310) ∧
(k308 n321 (IntKind.wrap IntKind.i64 (x313 + 1)) w318)))) →
(k316 w318))) →
(∃ a322 : Addr, ((m = (some a322)) ∧
((((0 : Int) ≤ x313) ∧
(x313 < ((m_n : Nat) : Int))) ∧
(∃ x323 : Int, (((w312.cell? (Addr.add a322 ((x313).toNat * 1))) = (some (Value.int IntKind.i64 x323))) ∧
(∃ a324 : Addr, ((o300 = (some a324)) ∧
((((0 : Int) ≤ x313) ∧
(x313 < ((n301 : Nat) : Int))) ∧
((Nf.There w312 (Addr.add a324 ((x313).toNat * 1)) 1) ∧
(∀ w325 : World, ((w325 = (Nf.setCells w312 (Addr.add a324 ((x313).toNat * 1)) [(Value.int IntKind.i64 1125899906842624)] 0)) →
((((decide (x323 ≥ 0)) = true) →
(∃ a328 : Addr, ((cost = (some a328)) ∧
((((0 : Int) ≤ x313) ∧
(x313 < ((cost_n : Nat) : Int))) ∧
(∃ o329 : Option Addr, (∃ n330 : Nat, (∃ n331 : Nat, (((w325.cell? (Addr.add a328 ((x313).toNat * 1))) = (some (Value.slice o329 n330 n331))) ∧
(∃ a332 : Addr, ((o329 = (some a332)) ∧
((((0 : Int) ≤ x323) ∧
(x323 < ((n330 : Nat) : Int))) ∧
(∃ x333 : Int, (((w325.cell? (Addr.add a332 ((x323).toNat * 1))) = (some (Value.int IntKind.i64 x333))) ∧
(∃ a334 : Addr, ((o300 = (some a334)) ∧
((((0 : Int) ≤ x313) ∧
(x313 < ((n301 : Nat) : Int))) ∧
((Nf.There w325 (Addr.add a334 ((x313).toNat * 1)) 1) ∧
(∀ w335 : World, ((w335 = (Nf.setCells w325 (Addr.add a334 ((x313).toNat * 1)) [(Value.int IntKind.i64 x333)] 0)) →
(k316 w335)))))))))))))))))))) ∧
(((decide (x323 ≥ 0)) = false) →
(k316 w325))))))))))))))))) ∧
(((decide (x313 < ((m_n : Nat) : Int))) = false) →
(∃ k339 : (Nat → (Int → (World → Prop))), ((∃ n340 : Nat, (k339 n340 0 w312)) ∧
(∀ n341 : Nat, ((Nat → Value) →
(∀ w343 : World, (∀ x344 : Int, ((k339 n341 x344 w343) →
((((decide (x344 < (IntKind.wrap IntKind.i64 ((IntKind.wrap IntKind.i64 (((n301 : Nat) : Int) + ((n296 : Nat) : Int))) + 2)))) = true) →
(∃ k347 : (Nat → (Bool → (Int → (World → Prop)))), ((∃ n348 : Nat, (k347 n348 false 0 w343)) ∧
(∀ n349 : Nat, ((Nat → Value) →
(∀ w351 : World, (∀ b352 : Bool, (∀ x353 : Int, ((k347 n349 b352 x353 w351) →
((((decide (x353 < ((n301 : Nat) : Int))) = true) →
(∃ k356 : (Nat → (Bool → (Int → (World → Prop)))), ((∃ n357 : Nat, (k356 n357 b352 0 w351)) ∧
(∀ n358 : Nat, ((Nat → Value) →
(∀ w360 : World, (∀ b361 : Bool, (∀ x362 : Int, ((k356 n358 b361 x362 w360) →
((((decide (x362 < ((n296 : Nat) : Int))) = true) →
(∀ k365 : (Bool → (World → Prop)), ((∀ w367 : World, (∀ b368 : Bool, (((Nat → Value) →
(∃ n371 : Nat, ((n371 < n358) ∧
(k356 n371 b368 (IntKind.wrap IntKind.i64 (x362 + 1)) w367)))) →
(k365 b368 w367)))) →
(∀ w372 : World, ((w372 = w360.drew) →
(∃ a374 : Addr, ((cost = (some a374)) ∧
((((0 : Int) ≤ x353) ∧
(x353 < ((cost_n : Nat) : Int))) ∧
(∃ o375 : Option Addr, (∃ n376 : Nat, (∃ n377 : Nat, (((w372.cell? (Addr.add a374 ((x353).toNat * 1))) = (some (Value.slice o375 n376 n377))) ∧
(∃ a378 : Addr, ((o375 = (some a378)) ∧
((((0 : Int) ≤ x362) ∧
(x362 < ((n376 : Nat) : Int))) ∧
(∃ x379 : Int, (((w372.cell? (Addr.add a378 ((x362).toNat * 1))) = (some (Value.int IntKind.i64 x379))) ∧
((((decide (x379 = 4611686018427387904)) = true) →
(k365 b361 w372)) ∧
(((decide (x379 = 4611686018427387904)) = false) →
(∃ a382 : Addr, ((o300 = (some a382)) ∧
((((0 : Int) ≤ x353) ∧
(x353 < ((n301 : Nat) : Int))) ∧
(∃ x383 : Int, (((w372.cell? (Addr.add a382 ((x353).toNat * 1))) = (some (Value.int IntKind.i64 x383))) ∧
(∃ a384 : Addr, ((o295 = (some a384)) ∧
((((0 : Int) ≤ x362) ∧
(x362 < ((n296 : Nat) : Int))) ∧
(∃ x385 : Int, (((w372.cell? (Addr.add a384 ((x362).toNat * 1))) = (some (Value.int IntKind.i64 x385))) ∧
(∃ a386 : Addr, ((cost = (some a386)) ∧
((((0 : Int) ≤ x353) ∧
(x353 < ((cost_n : Nat) : Int))) ∧
(∃ o387 : Option Addr, (∃ n388 : Nat, (∃ n389 : Nat, (((w372.cell? (Addr.add a386 ((x353).toNat * 1))) = (some (Value.slice o387 n388 n389))) ∧
(∃ a390 : Addr, ((o387 = (some a390)) ∧
((((0 : Int) ≤ x362) ∧
(x362 < ((n388 : Nat) : Int))) ∧
(∃ x391 : Int, (((w372.cell? (Addr.add a390 ((x362).toNat * 1))) = (some (Value.int IntKind.i64 x391))) ∧
((((decide ((IntKind.wrap IntKind.i64 (x383 + x385)) ≤ x391)) = true) →
(k365 b361 w372)) ∧
(((decide ((IntKind.wrap IntKind.i64 (x383 + x385)) ≤ x391)) = false) →
(∃ a394 : Addr, ((o305 = (some a394)) ∧
((((0 : Int) ≤ x362) ∧
(x362 < ((n306 : Nat) : Int))) ∧
(∃ x395 : Int, (((w372.cell? (Addr.add a394 ((x362).toNat * 1))) = (some (Value.int IntKind.i64 x395))) ∧
((((decide (x395 < 0)) = true) →
(R (Ending.returned (Value.tuple #[(Value.slice none 0 0), (Value.slice none 0 0), (Value.bool false)])) w372)) ∧
(((decide (x395 < 0)) = false) →
(∀ w398 : World, ((w398 = w372.drew) →
(∃ a400 : Addr, ((cost = (some a400)) ∧
((((0 : Int) ≤ x353) ∧
(x353 < ((cost_n : Nat) : Int))) ∧
(∃ o401 : Option Addr, (∃ n402 : Nat, (∃ n403 : Nat, (((w398.cell? (Addr.add a400 ((x353).toNat * 1))) = (some (Value.slice o401 n402 n403))) ∧
(∃ a404 : Addr, ((o401 = (some a404)) ∧
((((0 : Int) ≤ x362) ∧
(x362 < ((n402 : Nat) : Int))) ∧
(∃ x405 : Int, (((w398.cell? (Addr.add a404 ((x362).toNat * 1))) = (some (Value.int IntKind.i64 x405))) ∧
(∃ a406 : Addr, ((o300 = (some a406)) ∧
((((0 : Int) ≤ x353) ∧
(x353 < ((n301 : Nat) : Int))) ∧
(∃ x407 : Int, (((w398.cell? (Addr.add a406 ((x353).toNat * 1))) = (some (Value.int IntKind.i64 x407))) ∧
(∃ a408 : Addr, ((o295 = (some a408)) ∧
((((0 : Int) ≤ x362) ∧
(x362 < ((n296 : Nat) : Int))) ∧
((Nf.There w398 (Addr.add a408 ((x362).toNat * 1)) 1) ∧
(∀ w409 : World, ((w409 = (Nf.setCells w398 (Addr.add a408 ((x362).toNat * 1)) [(Value.int IntKind.i64 (IntKind.wrap IntKind.i64 (x405 - x407)))] 0)) →
(∀ w411 : World, ((w411 = w409.drew) →
(∃ a413 : Addr, ((o305 = (some a413)) ∧
((((0 : Int) ≤ x362) ∧
(x362 < ((n306 : Nat) : Int))) ∧
(∃ x414 : Int, (((w411.cell? (Addr.add a413 ((x362).toNat * 1))) = (some (Value.int IntKind.i64 x414))) ∧
(∃ a415 : Addr, ((o305 = (some a415)) ∧
((((0 : Int) ≤ x362) ∧
(x362 < ((n306 : Nat) : Int))) ∧
(∃ x416 : Int, (((w411.cell? (Addr.add a415 ((x362).toNat * 1))) = (some (Value.int IntKind.i64 x416))) ∧
(∃ a417 : Addr, ((cost = (some a417)) ∧
((((0 : Int) ≤ x416) ∧
(x416 < ((cost_n : Nat) : Int))) ∧
(∃ o418 : Option Addr, (∃ n419 : Nat, (∃ n420 : Nat, (((w411.cell? (Addr.add a417 ((x416).toNat * 1))) = (some (Value.slice o418 n419 n420))) ∧
(∃ a421 : Addr, ((o418 = (some a421)) ∧
((((0 : Int) ≤ x362) ∧
(x362 < ((n419 : Nat) : Int))) ∧
(∃ x422 : Int, (((w411.cell? (Addr.add a421 ((x362).toNat * 1))) = (some (Value.int IntKind.i64 x422))) ∧
(∃ a423 : Addr, ((o295 = (some a423)) ∧
((((0 : Int) ≤ x362) ∧
(x362 < ((n296 : Nat) : Int))) ∧
(∃ x424 : Int, (((w411.cell? (Addr.add a423 ((x362).toNat * 1))) = (some (Value.int IntKind.i64 x424))) ∧
(∃ a425 : Addr, ((o300 = (some a425)) ∧
((((0 : Int) ≤ x414) ∧
(x414 < ((n301 : Nat) : Int))) ∧
((Nf.There w411 (Addr.add a425 ((x414).toNat * 1)) 1) ∧
(∀ w426 : World, ((w426 = (Nf.setCells w411 (Addr.add a425 ((x414).toNat * 1)) [(Value.int IntKind.i64 (IntKind.wrap IntKind.i64 (x422 - x424)))] 0)) →
(k365 true w426))))))))))))))))))))))))))))))))))))))))))))))))))))))))))))))))))))))))))))))))))))))))))))))))))))))))))))))) ∧
(((decide (x362 < ((n296 : Nat) : Int))) = false) →
(∃ n429 : Nat, ((n429 < n349) ∧
(k347 n429 b361 (IntKind.wrap IntKind.i64 (x353 + 1)) w360)))))))))))))) ∧
(((decide (x353 < ((n301 : Nat) : Int))) = false) →
(((b352 = true) →
(∃ n432 : Nat, ((n432 < n341) ∧
(k339 n432 (IntKind.wrap IntKind.i64 (x344 + 1)) w351)))) ∧
((b352 = false) →
(R (Ending.returned (Value.tuple #[(Value.slice o300 n301 n302), (Value.slice o295 n296 n297), (Value.bool true)])) w351)))))))))))))) ∧
(((decide (x344 < (IntKind.wrap IntKind.i64 ((IntKind.wrap IntKind.i64 (((n301 : Nat) : Int) + ((n296 : Nat) : Int))) + 2)))) = false) →
(R (Ending.returned (Value.tuple #[(Value.slice none 0 0), (Value.slice none 0 0), (Value.bool false)])) w343)))))))))))))))))))))))))))))))))))))))))))))))))) :
    Calls Try.prog 34 #[(.slice cost cost_n cost_c), (.slice m m_n m_c)] w R :=
  calls_of_vc an34 Try.func34 rfl (by kernel_rfl) (by kernel_rfl) (Eq.mp (by kernel_rfl) h)

/-- samaritan/certificate.hallRows -/
def an35 : An := (.seq (.reg []) (.seq (.reg []) (.seq (.reg [(2, 1, false)]) (.seq (.reg []) (.seq (.seq (.reg []) (.blk (.loop [(7, .slice), (25, .int .i64)] (.seq (.reg [(0, 0, true)]) (.seq (.cond .nil .nil) (.cut [(7, .slice)] (.blk (.seq (.reg []) (.seq (.reg [(1, 0, true)]) (.cond (.seq (.reg []) (.reg [(3, 1, false)])) .nil)))) (.reg []))))))) (.seq (.blk (.loop [(7, .slice)] (.seq (.seq (.reg [(2, 0, true)]) (.cond .nil .nil)) (.blk (.seq (.reg []) (.seq (.reg [(1, 2, false)]) (.seq (.reg []) (.blk (.loop [(7, .slice), (53, .int .i64)] (.seq (.reg [(0, 0, true)]) (.seq (.cond .nil .nil) (.cut [(7, .slice)] (.blk (.seq (.reg []) (.seq (.seq (.reg [(1, 0, true), (7, 0, true), (16, 0, true)]) (.cond .nil .nil)) (.seq (.reg []) (.reg [(6, 1, false)]))))) (.reg []))))))))))))) (.seq (.reg []) (.seq (.seq (.reg []) (.blk (.loop [(13, .slice), (92, .int .i64)] (.seq (.reg [(0, 0, true)]) (.seq (.cond .nil .nil) (.cut [(13, .slice)] (.blk (.seq (.reg [(2, 0, true)]) (.seq (.reg []) (.cond (.reg [(3, 1, false)]) .nil)))) (.reg []))))))) (.seq (.reg []) .nil)))))))))
set_option maxRecDepth 100000 in
theorem nf35 (cost : Option Addr) (cost_n : Nat) (cost_c : Nat) (m : Option Addr) (m_n : Nat) (m_c : Nat) (w : World) (R : Ending → World → Prop) (h :
(Calls Try.prog 37 #[(Value.slice cost cost_n cost_c)] w (fun (e1 : Ending) => (fun (w2 : World) => (∃ x3 : Int, ((e1 = (Ending.returned (Value.int IntKind.i64 x3))) ∧
(Calls Try.prog 56 #[(Value.int IntKind.i64 x3), (Value.slice m m_n m_c)] w2 (fun (e4 : Ending) => (fun (w5 : World) => (∃ o6 : Option Addr, (∃ n7 : Nat, (∃ n8 : Nat, ((e4 = (Ending.returned (Value.slice o6 n7 n8))) ∧
(RunOk Try.prog (Nf.Hold (Instr.makeSlice 93 (Value.int IntKind.i64 ((cost_n : Nat) : Int)) (Value.int IntKind.i64 ((cost_n : Nat) : Int)))) w5 (fun (v9 : Value) => (fun (w10 : World) => (∃ o11 : Option Addr, (∃ n12 : Nat, (∃ n13 : Nat, ((v9 = (Value.slice o11 n12 n13)) ∧
(∃ k14 : (Nat → (Option Addr → (Nat → (Nat → (Int → (World → Prop)))))), ((∃ n15 : Nat, (k14 n15 none 0 0 0 w10)) ∧
(∀ n16 : Nat, ((Nat → Value) →
(∀ w18 : World, (∀ o19 : Option Addr, (∀ n20 : Nat, (∀ n21 : Nat, (∀ x22 : Int, ((k14 n16 o19 n20 n21 x22 w18) →
((((decide (x22 < ((m_n : Nat) : Int))) = true) →
(∀ k25 : (Option Addr → (Nat → (Nat → (World → Prop)))), ((∀ w27 : World, (∀ o28 : Option Addr, (∀ n29 : Nat, (∀ n30 : Nat, (((Nat → Value) →
(∃ n33 : Nat, ((n33 < n16) ∧
(k14 n33 o28 n29 n30 (IntKind.wrap IntKind.i64 (x22 + 1)) w27)))) →
(k25 o28 n29 n30 w27)))))) →
(∃ a34 : Addr, ((m = (some a34)) ∧
((((0 : Int) ≤ x22) ∧
(x22 < ((m_n : Nat) : Int))) ∧
(∃ x35 : Int, (((w18.cell? (Addr.add a34 ((x22).toNat * 1))) = (some (Value.int IntKind.i64 x35))) ∧
((((decide (x35 < 0)) = true) →
(∃ a37 : Addr, ((o11 = (some a37)) ∧
((((0 : Int) ≤ x22) ∧
(x22 < ((n12 : Nat) : Int))) ∧
((Nf.There w18 (Addr.add a37 ((x22).toNat * 1)) 1) ∧
(∀ w38 : World, ((w38 = (Nf.setCells w18 (Addr.add a37 ((x22).toNat * 1)) [(Value.bool true)] 0)) →
(∀ w40 : World, ((w40 = (w38.alloc (Obj.cells #[(Value.int IntKind.i64 x22)] 3 (0, 0)))) →
(RunOk Try.prog (Nf.Hold (Builtin.append_ #[31, 31] 31 #[(Value.slice o19 n20 n21), (Value.slice (some (⟨(hs w38), 0, none⟩ : Addr)) 1 1)])) w40 (fun (v42 : Value) => (fun (w43 : World) => (∃ o44 : Option Addr, (∃ n45 : Nat, (∃ n46 : Nat, ((v42 = (Value.slice o44 n45 n46)) ∧
(k25 o44 n45 n46 w43))))))))))))))))) ∧
(((decide (x35 < 0)) = false) →
(k25 o19 n20 n21 w18))))))))))) ∧
(((decide (x22 < ((m_n : Nat) : Int))) = false) →
(∃ k49 : (Nat → (Option Addr → (Nat → (Nat → (World → Prop))))), ((∃ n50 : Nat, (k49 n50 o19 n20 n21 w18)) ∧
(∀ n51 : Nat, ((Nat → Value) →
(∀ w53 : World, (∀ o54 : Option Addr, (∀ n55 : Nat, (∀ n56 : Nat, ((k49 n51 o54 n55 n56 w53) →
((((decide (((n55 : Nat) : Int) > 0)) = true) →
(∃ a59 : Addr, ((o54 = (some a59)) ∧
((((0 : Int) ≤ 0) ∧
(0 < ((n55 : Nat) : Int))) ∧
(∃ x60 : Int, (((w53.cell? a59) = (some (Value.int IntKind.i64 x60))) ∧
((((0 : Int) ≤ 1) ∧
(1 ≤ ((n55 : Nat) : Int))) ∧
(∃ a61 : Addr, ((cost = (some a61)) ∧
((((0 : Int) ≤ x60) ∧
(x60 < ((cost_n : Nat) : Int))) ∧
(∃ o62 : Option Addr, (∃ n63 : Nat, (∃ n64 : Nat, (((w53.cell? (Addr.add a61 ((x60).toNat * 1))) = (some (Value.slice o62 n63 n64))) ∧
(∃ k65 : (Nat → (Option Addr → (Nat → (Nat → (Int → (World → Prop)))))), ((∃ n66 : Nat, (k65 n66 (if (n56 = ((1 : Int)).toNat) then o54 else (Option.map (fun (x : Addr) => (Addr.add x 1)) o54)) (n55 - 1) (n56 - 1) 0 w53)) ∧
(∀ n67 : Nat, ((Nat → Value) →
(∀ w69 : World, (∀ o70 : Option Addr, (∀ n71 : Nat, (∀ n72 : Nat, (∀ x73 : Int, ((k65 n67 o70 n71 n72 x73 w69) →
((((decide (x73 < ((n63 : Nat) : Int))) = true) →
(∀ k76 : (Option Addr → (Nat → (Nat → (World → Prop)))), ((∀ w78 : World, (∀ o79 : Option Addr, (∀ n80 : Nat, (∀ n81 : Nat, (((Nat → Value) →
(∃ n84 : Nat, ((n84 < n67) ∧
(k65 n84 o79 n80 n81 (IntKind.wrap IntKind.i64 (x73 + 1)) w78)))) →
(k76 o79 n80 n81 w78)))))) →
(∃ a85 : Addr, ((o62 = (some a85)) ∧
((((0 : Int) ≤ x73) ∧
(x73 < ((n63 : Nat) : Int))) ∧
(∃ x86 : Int, (((w69.cell? (Addr.add a85 ((x73).toNat * 1))) = (some (Value.int IntKind.i64 x86))) ∧
((((decide (x86 = 4611686018427387904)) = true) →
(k76 o70 n71 n72 w69)) ∧
(((decide (x86 = 4611686018427387904)) = false) →
(∃ a89 : Addr, ((o6 = (some a89)) ∧
((((0 : Int) ≤ x73) ∧
(x73 < ((n7 : Nat) : Int))) ∧
(∃ x90 : Int, (((w69.cell? (Addr.add a89 ((x73).toNat * 1))) = (some (Value.int IntKind.i64 x90))) ∧
((((decide (x90 < 0)) = true) →
(k76 o70 n71 n72 w69)) ∧
(((decide (x90 < 0)) = false) →
(∃ a93 : Addr, ((o6 = (some a93)) ∧
((((0 : Int) ≤ x73) ∧
(x73 < ((n7 : Nat) : Int))) ∧
(∃ x94 : Int, (((w69.cell? (Addr.add a93 ((x73).toNat * 1))) = (some (Value.int IntKind.i64 x94))) ∧
(∃ a95 : Addr, ((o11 = (some a95)) ∧
((((0 : Int) ≤ x94) ∧
(x94 < ((n12 : Nat) : Int))) ∧
(∃ b96 : Bool, (((w69.cell? (Addr.add a95 ((x94).toNat * 1))) = (some (Value.bool b96))) ∧
(((b96 = true) →
(k76 o70 n71 n72 w69)) ∧
((b96 = false) →
(∃ a99 : Addr, ((o6 = (some a99)) ∧
((((0 : Int) ≤ x73) ∧
(x73 < ((n7 : Nat) : Int))) ∧
(∃ x100 : Int, (((w69.cell? (Addr.add a99 ((x73).toNat * 1))) = (some (Value.int IntKind.i64 x100))) ∧
(∃ a101 : Addr, ((o11 = (some a101)) ∧
((((0 : Int) ≤ x100) ∧
(x100 < ((n12 : Nat) : Int))) ∧
((Nf.There w69 (Addr.add a101 ((x100).toNat * 1)) 1) ∧
(∀ w102 : World, ((w102 = (Nf.setCells w69 (Addr.add a101 ((x100).toNat * 1)) [(Value.bool true)] 0)) →
(∃ a104 : Addr, ((o6 = (some a104)) ∧
((((0 : Int) ≤ x73) ∧
(x73 < ((n7 : Nat) : Int))) ∧
(∃ x105 : Int, (((w102.cell? (Addr.add a104 ((x73).toNat * 1))) = (some (Value.int IntKind.i64 x105))) ∧
(∀ w106 : World, ((w106 = (w102.alloc (Obj.cells #[(Value.int IntKind.i64 x105)] 3 (0, 0)))) →
(RunOk Try.prog (Nf.Hold (Builtin.append_ #[31, 31] 31 #[(Value.slice o70 n71 n72), (Value.slice (some (⟨(hs w102), 0, none⟩ : Addr)) 1 1)])) w106 (fun (v108 : Value) => (fun (w109 : World) => (∃ o110 : Option Addr, (∃ n111 : Nat, (∃ n112 : Nat, ((v108 = (Value.slice o110 n111 n112)) ∧
(k76 o110 n111 n112 w109))))))))))))))))))))))))))))))))))))))))))))))))))))))) ∧
(((decide (x73 < ((n63 : Nat) : Int))) = false) →
(∃ n114 : Nat, ((n114 < n51) ∧
(k49 n114 o70 n71 n72 w69))))))))))))))))))))))))))))) ∧
(((decide (((n55 : Nat) : Int) > 0)) = false) →
(∃ k116 : (Nat → (Option Addr → (Nat → (Nat → (Int → (World → Prop)))))), ((∃ n117 : Nat, (k116 n117 none 0 0 0 w53)) ∧
(∀ n118 : Nat, ((Nat → Value) →
(∀ w120 : World, (∀ o121 : Option Addr, (∀ n122 : Nat, (∀ n123 : Nat, (∀ x124 : Int, ((k116 n118 o121 n122 n123 x124 w120) →
((((decide (x124 < ((n12 : Nat) : Int))) = true) →
(∀ k127 : (Option Addr → (Nat → (Nat → (World → Prop)))), ((∀ w129 : World, (∀ o130 : Option Addr, (∀ n131 : Nat, (∀ n132 : Nat, (((Nat → Value) →
(∃ n135 : Nat, ((n135 < n118) ∧
(k116 n135 o130 n131 n132 (IntKind.wrap IntKind.i64 (x124 + 1)) w129)))) →
(k127 o130 n131 n132 w129)))))) →
(∃ a136 : Addr, ((o11 = (some a136)) ∧
((((0 : Int) ≤ x124) ∧
(x124 < ((n12 : Nat) : Int))) ∧
(∃ b137 : Bool, (((w120.cell? (Addr.add a136 ((x124).toNat * 1))) = (some (Value.bool b137))) ∧
(((b137 = true) →
(∀ w139 : World, ((w139 = (w120.alloc (Obj.cells #[(Value.int IntKind.i64 x124)] 3 (0, 0)))) →
(RunOk Try.prog (Nf.Hold (Builtin.append_ #[31, 31] 31 #[(Value.slice o121 n122 n123), (Value.slice (some (⟨(hs w120), 0, none⟩ : Addr)) 1 1)])) w139 (fun (v141 : Value) => (fun (w142 : World) => (∃ o143 : Option Addr, (∃ n144 : Nat, (∃ n145 : Nat, ((v141 = (Value.slice o143 n144 n145)) ∧
(k127 o143 n144 n145 w142))))))))))) ∧
((b137 = false) →
(k127 o121 n122 n123 w120))))))))))) ∧
(((decide (x124 < ((n12 : Nat) : Int))) = false) →
(R (Ending.returned (Value.slice o121 n122 n123)) w120)))))))))))))))))))))))))))))))))))))))))))))))))))))))) :
    Calls Try.prog 35 #[(.slice cost cost_n cost_c), (.slice m m_n m_c)] w R :=
  calls_of_vc an35 Try.func35 rfl (by kernel_rfl) (by kernel_rfl) (Eq.mp (by kernel_rfl) h)

/-- samaritan/certificate.inRange -/
def an36 : An := (.seq (.reg []) (.seq (.seq (.reg [(4, 0, true), (10, 0, true)]) (.cond (.seq (.reg []) .nil) .nil)) (.seq (.seq (.reg []) (.blk (.loop [(26, .int .i64)] (.seq (.reg [(0, 0, true)]) (.seq (.cond .nil .nil) (.seq (.blk (.seq (.reg []) (.seq (.reg [(1, 0, true), (4, 0, true)]) (.cond (.seq (.reg []) .nil) .nil)))) (.reg []))))))) (.seq (.seq (.reg []) (.blk (.loop [(40, .int .i64)] (.seq (.reg [(0, 0, true)]) (.seq (.cond .nil .nil) (.seq (.blk (.seq (.reg []) (.seq (.reg [(1, 0, true), (4, 0, true)]) (.cond (.seq (.reg []) .nil) .nil)))) (.reg []))))))) (.seq (.reg []) .nil)))))
set_option maxRecDepth 100000 in
theorem nf36 (p_RowPrices : Option Addr) (p_RowPrices_n : Nat) (p_RowPrices_c : Nat) (p_ColumnPrices : Option Addr) (p_ColumnPrices_n : Nat) (p_ColumnPrices_c : Nat) (p_HallRows : Option Addr) (p_HallRows_n : Nat) (p_HallRows_c : Nat) (rows : Int) (columns : Int) (w : World) (R : Ending → World → Prop) (h :
(∀ w1 : World, ((w1 = (w.alloc (Obj.cells #[(Value.slice p_RowPrices p_RowPrices_n p_RowPrices_c), (Value.slice p_ColumnPrices p_ColumnPrices_n p_ColumnPrices_c), (Value.slice p_HallRows p_HallRows_n p_HallRows_c)] 57 (0, 0)))) →
(∃ o3 : Option Addr, (∃ n4 : Nat, (∃ n5 : Nat, (((w1.cell? (⟨(hs w), 0, none⟩ : Addr)) = (some (Value.slice o3 n4 n5))) ∧
((((!(decide (((n4 : Nat) : Int) = rows))) = true) →
(R (Ending.returned (Value.bool false)) w1)) ∧
(((!(decide (((n4 : Nat) : Int) = rows))) = false) →
(∃ o8 : Option Addr, (∃ n9 : Nat, (∃ n10 : Nat, (((w1.cell? (⟨(hs w), 1, none⟩ : Addr)) = (some (Value.slice o8 n9 n10))) ∧
((((!(decide (((n9 : Nat) : Int) = columns))) = true) →
(R (Ending.returned (Value.bool false)) w1)) ∧
(((!(decide (((n9 : Nat) : Int) = columns))) = false) →
(∃ o13 : Option Addr, (∃ n14 : Nat, (∃ n15 : Nat, (((w1.cell? (⟨(hs w), 0, none⟩ : Addr)) = (some (Value.slice o13 n14 n15))) ∧
(∃ k16 : (Nat → (Int → (World → Prop))), ((∃ n17 : Nat, (k16 n17 0 w1)) ∧
(∀ n18 : Nat, ((Nat → Value) →
(∀ w20 : World, (∀ x21 : Int, ((k16 n18 x21 w20) →
((((decide (x21 < ((n14 : Nat) : Int))) = true) →
(∃ a24 : Addr, ((o13 = (some a24)) ∧
((((0 : Int) ≤ x21) ∧
(x21 < ((n14 : Nat) : Int))) ∧
(∃ x25 : Int, (((w20.cell? (Addr.add a24 ((x21).toNat * 1))) = (some (Value.int IntKind.i64 x25))) ∧
((((decide (x25 < (-72057594037927936))) = true) →
(R (Ending.returned (Value.bool false)) w20)) ∧
(((decide (x25 < (-72057594037927936))) = false) →
((((decide (x25 > 1125899906842624)) = true) →
(R (Ending.returned (Value.bool false)) w20)) ∧
(((decide (x25 > 1125899906842624)) = false) →
(∃ n30 : Nat, ((n30 < n18) ∧
(k16 n30 (IntKind.wrap IntKind.i64 (x21 + 1)) w20))))))))))))) ∧
(((decide (x21 < ((n14 : Nat) : Int))) = false) →
(∃ o32 : Option Addr, (∃ n33 : Nat, (∃ n34 : Nat, (((w20.cell? (⟨(hs w), 1, none⟩ : Addr)) = (some (Value.slice o32 n33 n34))) ∧
(∃ k35 : (Nat → (Int → (World → Prop))), ((∃ n36 : Nat, (k35 n36 0 w20)) ∧
(∀ n37 : Nat, ((Nat → Value) →
(∀ w39 : World, (∀ x40 : Int, ((k35 n37 x40 w39) →
((((decide (x40 < ((n33 : Nat) : Int))) = true) →
(∃ a43 : Addr, ((o32 = (some a43)) ∧
((((0 : Int) ≤ x40) ∧
(x40 < ((n33 : Nat) : Int))) ∧
(∃ x44 : Int, (((w39.cell? (Addr.add a43 ((x40).toNat * 1))) = (some (Value.int IntKind.i64 x44))) ∧
((((decide (x44 < (-72057594037927936))) = true) →
(R (Ending.returned (Value.bool false)) w39)) ∧
(((decide (x44 < (-72057594037927936))) = false) →
((((decide (x44 > 0)) = true) →
(R (Ending.returned (Value.bool false)) w39)) ∧
(((decide (x44 > 0)) = false) →
(∃ n49 : Nat, ((n49 < n37) ∧
(k35 n49 (IntKind.wrap IntKind.i64 (x40 + 1)) w39))))))))))))) ∧
(((decide (x40 < ((n33 : Nat) : Int))) = false) →
(R (Ending.returned (Value.bool true)) w39)))))))))))))))))))))))))))))))))))))))))) :
    Calls Try.prog 36 #[(.agg #[(.slice p_RowPrices p_RowPrices_n p_RowPrices_c), (.slice p_ColumnPrices p_ColumnPrices_n p_ColumnPrices_c), (.slice p_HallRows p_HallRows_n p_HallRows_c)]), (.int .i64 rows), (.int .i64 columns)] w R :=
  calls_of_vc an36 Try.func36 rfl (by kernel_rfl) (by kernel_rfl) (Eq.mp (by kernel_rfl) h)

/-- samaritan/certificate.width -/
def an37 : An := (.seq (.reg []) (.seq (.seq (.reg [(2, 0, true)]) (.cond (.seq (.reg []) .nil) .nil)) (.seq (.reg []) .nil)))
set_option maxRecDepth 100000 in
theorem nf37 (cost : Option Addr) (cost_n : Nat) (cost_c : Nat) (w : World) (R : Ending → World → Prop) (h :
((((decide (((cost_n : Nat) : Int) = 0)) = true) →
(R (Ending.returned (Value.int IntKind.i64 0)) w)) ∧
(((decide (((cost_n : Nat) : Int) = 0)) = false) →
(∃ a3 : Addr, ((cost = (some a3)) ∧
((((0 : Int) ≤ 0) ∧
(0 < ((cost_n : Nat) : Int))) ∧
(∃ o4 : Option Addr, (∃ n5 : Nat, (∃ n6 : Nat, (((w.cell? a3) = (some (Value.slice o4 n5 n6))) ∧
(R (Ending.returned (Value.int IntKind.i64 ((n5 : Nat) : Int))) w))))))))))) :
    Calls Try.prog 37 #[(.slice cost cost_n cost_c)] w R :=
  calls_of_vc an37 Try.func37 rfl (by kernel_rfl) (by kernel_rfl) (Eq.mp (by kernel_rfl) h)

/-- samaritan/certificate.provesCost -/
def an38 : An := (.seq (.reg []) (.seq (.seq (.reg []) (.blk (.loop [(19, .int .i64)] (.seq (.reg [(0, 0, true)]) (.seq (.cond .nil .nil) (.seq (.blk (.seq (.reg []) (.seq (.reg [(1, 0, true), (8, 0, true)]) (.cond (.seq (.reg []) .nil) .nil)))) (.reg []))))))) (.seq (.seq (.reg []) (.blk (.loop [(37, .int .i64)] (.seq (.reg [(0, 0, true)]) (.seq (.cond .nil .nil) (.seq (.blk (.seq (.reg []) (.seq (.seq (.reg [(4, 0, true), (11, 0, true)]) (.cond (.seq (.reg []) .nil) .nil)) (.seq (.reg []) (.blk (.loop [(57, .int .i64)] (.seq (.reg [(0, 0, true)]) (.seq (.cond .nil .nil) (.seq (.blk (.seq (.reg []) (.seq (.regD [] [0, 1, 2, 3, 4, 5, 6, 7, 8, 9, 10, 11] []) (.seq (.reg [(1, 0, true), (5, 0, true), (12, 0, true), (16, 0, true)]) (.cond (.seq (.reg []) .nil) .nil))))) (.reg [])))))))))) (.reg []))))))) (.seq (.reg []) .nil))))
set_option maxRecDepth 100000 in
theorem nf38 (cost : Option Addr) (cost_n : Nat) (cost_c : Nat) (m : Option Addr) (m_n : Nat) (m_c : Nat) (p_RowPrices : Option Addr) (p_RowPrices_n : Nat) (p_RowPrices_c : Nat) (p_ColumnPrices : Option Addr) (p_ColumnPrices_n : Nat) (p_ColumnPrices_c : Nat) (p_HallRows : Option Addr) (p_HallRows_n : Nat) (p_HallRows_c : Nat) (w : World) (R : Ending → World → Prop) (h :
(∀ w1 : World, ((w1 = (w.alloc (Obj.cells #[(Value.slice p_RowPrices p_RowPrices_n p_RowPrices_c), (Value.slice p_ColumnPrices p_ColumnPrices_n p_ColumnPrices_c), (Value.slice p_HallRows p_HallRows_n p_HallRows_c)] 57 (0, 0)))) →
(Calls Try.prog 37 #[(Value.slice cost cost_n cost_c)] w1 (fun (e3 : Ending) => (fun (w4 : World) => (∃ x5 : Int, ((e3 = (Ending.returned (Value.int IntKind.i64 x5))) ∧
(Calls Try.prog 56 #[(Value.int IntKind.i64 x5), (Value.slice m m_n m_c)] w4 (fun (e6 : Ending) => (fun (w7 : World) => (∃ o8 : Option Addr, (∃ n9 : Nat, (∃ n10 : Nat, ((e6 = (Ending.returned (Value.slice o8 n9 n10))) ∧
(∃ k11 : (Nat → (Int → (World → Prop))), ((∃ n12 : Nat, (k11 n12 0 w7)) ∧
(∀ n13 : Nat, ((Nat → Value) →
(∀ w15 : World, (∀ x16 : Int, ((k11 n13 x16 w15) →
((((decide (x16 < ((n9 : Nat) : Int))) = true) →
(∃ a19 : Addr, ((o8 = (some a19)) ∧
((((0 : Int) ≤ x16) ∧
(x16 < ((n9 : Nat) : Int))) ∧
(∃ x20 : Int, (((w15.cell? (Addr.add a19 ((x16).toNat * 1))) = (some (Value.int IntKind.i64 x20))) ∧
((((decide (x20 < 0)) = true) →
(∃ o22 : Option Addr, (∃ n23 : Nat, (∃ n24 : Nat, (((w15.cell? (⟨(hs w), 1, none⟩ : Addr)) = (some (Value.slice o22 n23 n24))) ∧
(∃ a25 : Addr, ((o22 = (some a25)) ∧
((((0 : Int) ≤ x16) ∧
(x16 < ((n23 : Nat) : Int))) ∧
(∃ x26 : Int, (((w15.cell? (Addr.add a25 ((x16).toNat * 1))) = (some (Value.int IntKind.i64 x26))) ∧
((((!(decide (x26 = 0))) = true) →
(R (Ending.returned (Value.bool false)) w15)) ∧
(((!(decide (x26 = 0))) = false) →
(∃ n29 : Nat, ((n29 < n13) ∧
(k11 n29 (IntKind.wrap IntKind.i64 (x16 + 1)) w15))))))))))))))) ∧
(((decide (x20 < 0)) = false) →
(∃ n31 : Nat, ((n31 < n13) ∧
(k11 n31 (IntKind.wrap IntKind.i64 (x16 + 1)) w15))))))))))) ∧
(((decide (x16 < ((n9 : Nat) : Int))) = false) →
(∃ k33 : (Nat → (Int → (World → Prop))), ((∃ n34 : Nat, (k33 n34 0 w15)) ∧
(∀ n35 : Nat, ((Nat → Value) →
(∀ w37 : World, (∀ x38 : Int, ((k33 n35 x38 w37) →
((((decide (x38 < ((cost_n : Nat) : Int))) = true) →
(∃ a41 : Addr, ((cost = (some a41)) ∧
((((0 : Int) ≤ x38) ∧
(x38 < ((cost_n : Nat) : Int))) ∧
(∃ o42 : Option Addr, (∃ n43 : Nat, (∃ n44 : Nat, (((w37.cell? (Addr.add a41 ((x38).toNat * 1))) = (some (Value.slice o42 n43 n44))) ∧
(∃ a45 : Addr, ((m = (some a45)) ∧
((((0 : Int) ≤ x38) ∧
(x38 < ((m_n : Nat) : Int))) ∧
(∃ x46 : Int, (((w37.cell? (Addr.add a45 ((x38).toNat * 1))) = (some (Value.int IntKind.i64 x46))) ∧
((((decide (x46 < 0)) = true) →
(∃ o48 : Option Addr, (∃ n49 : Nat, (∃ n50 : Nat, (((w37.cell? (⟨(hs w), 0, none⟩ : Addr)) = (some (Value.slice o48 n49 n50))) ∧
(∃ a51 : Addr, ((o48 = (some a51)) ∧
((((0 : Int) ≤ x38) ∧
(x38 < ((n49 : Nat) : Int))) ∧
(∃ x52 : Int, (((w37.cell? (Addr.add a51 ((x38).toNat * 1))) = (some (Value.int IntKind.i64 x52))) ∧
((((!(decide (x52 = 1125899906842624))) = true) →
(R (Ending.returned (Value.bool false)) w37)) ∧
(((!(decide (x52 = 1125899906842624))) = false) →
(∃ k55 : (Nat → (Int → (World → Prop))), ((∃ n56 : Nat, (k55 n56 0 w37)) ∧
(∀ n57 : Nat, ((Nat → Value) →
(∀ w59 : World, (∀ x60 : Int, ((k55 n57 x60 w59) →
((((decide (x60 < ((n43 : Nat) : Int))) = true) →
(∃ a63 : Addr, ((o42 = (some a63)) ∧
((((0 : Int) ≤ x60) ∧
(x60 < ((n43 : Nat) : Int))) ∧
(∃ x64 : Int, (((w59.cell? (Addr.add a63 ((x60).toNat * 1))) = (some (Value.int IntKind.i64 x64))) ∧
(∀ w65 : World, ((w65 = w59.drew) →
(∃ o67 : Option Addr, (∃ n68 : Nat, (∃ n69 : Nat, (((w65.cell? (⟨(hs w), 0, none⟩ : Addr)) = (some (Value.slice o67 n68 n69))) ∧
(∃ a70 : Addr, ((o67 = (some a70)) ∧
((((0 : Int) ≤ x38) ∧
(x38 < ((n68 : Nat) : Int))) ∧
(∃ x71 : Int, (((w65.cell? (Addr.add a70 ((x38).toNat * 1))) = (some (Value.int IntKind.i64 x71))) ∧
(∃ o72 : Option Addr, (∃ n73 : Nat, (∃ n74 : Nat, (((w65.cell? (⟨(hs w), 1, none⟩ : Addr)) = (some (Value.slice o72 n73 n74))) ∧
(∃ a75 : Addr, ((o72 = (some a75)) ∧
((((0 : Int) ≤ x60) ∧
(x60 < ((n73 : Nat) : Int))) ∧
(∃ x76 : Int, (((w65.cell? (Addr.add a75 ((x60).toNat * 1))) = (some (Value.int IntKind.i64 x76))) ∧
((((!(decide (x64 = 4611686018427387904))) = true) →
((((decide (x64 < (IntKind.wrap IntKind.i64 (x71 + x76)))) = true) →
(R (Ending.returned (Value.bool false)) w65)) ∧
(((decide (x64 < (IntKind.wrap IntKind.i64 (x71 + x76)))) = false) →
(∃ a80 : Addr, ((m = (some a80)) ∧
((((0 : Int) ≤ x38) ∧
(x38 < ((m_n : Nat) : Int))) ∧
(∃ x81 : Int, (((w65.cell? (Addr.add a80 ((x38).toNat * 1))) = (some (Value.int IntKind.i64 x81))) ∧
((((decide (x81 = x60)) = true) →
((((!(decide (x64 = (IntKind.wrap IntKind.i64 (x71 + x76))))) = true) →
(R (Ending.returned (Value.bool false)) w65)) ∧
(((!(decide (x64 = (IntKind.wrap IntKind.i64 (x71 + x76))))) = false) →
(∃ n85 : Nat, ((n85 < n57) ∧
(k55 n85 (IntKind.wrap IntKind.i64 (x60 + 1)) w65)))))) ∧
(((decide (x81 = x60)) = false) →
(∃ n87 : Nat, ((n87 < n57) ∧
(k55 n87 (IntKind.wrap IntKind.i64 (x60 + 1)) w65))))))))))))) ∧
(((!(decide (x64 = 4611686018427387904))) = false) →
(∃ n89 : Nat, ((n89 < n57) ∧
(k55 n89 (IntKind.wrap IntKind.i64 (x60 + 1)) w65))))))))))))))))))))))))))))))) ∧
(((decide (x60 < ((n43 : Nat) : Int))) = false) →
(∃ n91 : Nat, ((n91 < n35) ∧
(k33 n91 (IntKind.wrap IntKind.i64 (x38 + 1)) w59)))))))))))))))))))))))) ∧
(((decide (x46 < 0)) = false) →
(∃ k93 : (Nat → (Int → (World → Prop))), ((∃ n94 : Nat, (k93 n94 0 w37)) ∧
(∀ n95 : Nat, ((Nat → Value) →
(∀ w97 : World, (∀ x98 : Int, ((k93 n95 x98 w97) →
((((decide (x98 < ((n43 : Nat) : Int))) = true) →
(∃ a101 : Addr, ((o42 = (some a101)) ∧
((((0 : Int) ≤ x98) ∧
(x98 < ((n43 : Nat) : Int))) ∧
(∃ x102 : Int, (((w97.cell? (Addr.add a101 ((x98).toNat * 1))) = (some (Value.int IntKind.i64 x102))) ∧
(∀ w103 : World, ((w103 = w97.drew) →
(∃ o105 : Option Addr, (∃ n106 : Nat, (∃ n107 : Nat, (((w103.cell? (⟨(hs w), 0, none⟩ : Addr)) = (some (Value.slice o105 n106 n107))) ∧
(∃ a108 : Addr, ((o105 = (some a108)) ∧
((((0 : Int) ≤ x38) ∧
(x38 < ((n106 : Nat) : Int))) ∧
(∃ x109 : Int, (((w103.cell? (Addr.add a108 ((x38).toNat * 1))) = (some (Value.int IntKind.i64 x109))) ∧
(∃ o110 : Option Addr, (∃ n111 : Nat, (∃ n112 : Nat, (((w103.cell? (⟨(hs w), 1, none⟩ : Addr)) = (some (Value.slice o110 n111 n112))) ∧
(∃ a113 : Addr, ((o110 = (some a113)) ∧
((((0 : Int) ≤ x98) ∧
(x98 < ((n111 : Nat) : Int))) ∧
(∃ x114 : Int, (((w103.cell? (Addr.add a113 ((x98).toNat * 1))) = (some (Value.int IntKind.i64 x114))) ∧
((((!(decide (x102 = 4611686018427387904))) = true) →
((((decide (x102 < (IntKind.wrap IntKind.i64 (x109 + x114)))) = true) →
(R (Ending.returned (Value.bool false)) w103)) ∧
(((decide (x102 < (IntKind.wrap IntKind.i64 (x109 + x114)))) = false) →
(∃ a118 : Addr, ((m = (some a118)) ∧
((((0 : Int) ≤ x38) ∧
(x38 < ((m_n : Nat) : Int))) ∧
(∃ x119 : Int, (((w103.cell? (Addr.add a118 ((x38).toNat * 1))) = (some (Value.int IntKind.i64 x119))) ∧
((((decide (x119 = x98)) = true) →
((((!(decide (x102 = (IntKind.wrap IntKind.i64 (x109 + x114))))) = true) →
(R (Ending.returned (Value.bool false)) w103)) ∧
(((!(decide (x102 = (IntKind.wrap IntKind.i64 (x109 + x114))))) = false) →
(∃ n123 : Nat, ((n123 < n95) ∧
(k93 n123 (IntKind.wrap IntKind.i64 (x98 + 1)) w103)))))) ∧
(((decide (x119 = x98)) = false) →
(∃ n125 : Nat, ((n125 < n95) ∧
(k93 n125 (IntKind.wrap IntKind.i64 (x98 + 1)) w103))))))))))))) ∧
(((!(decide (x102 = 4611686018427387904))) = false) →
(∃ n127 : Nat, ((n127 < n95) ∧
(k93 n127 (IntKind.wrap IntKind.i64 (x98 + 1)) w103))))))))))))))))))))))))))))))) ∧
(((decide (x98 < ((n43 : Nat) : Int))) = false) →
(∃ n129 : Nat, ((n129 < n35) ∧
(k33 n129 (IntKind.wrap IntKind.i64 (x38 + 1)) w97))))))))))))))))))))))))))) ∧
(((decide (x38 < ((cost_n : Nat) : Int))) = false) →
(R (Ending.returned (Value.bool true)) w37)))))))))))))))))))))))))))))))))) :
    Calls Try.prog 38 #[(.slice cost cost_n cost_c), (.slice m m_n m_c), (.agg #[(.slice p_RowPrices p_RowPrices_n p_RowPrices_c), (.slice p_ColumnPrices p_ColumnPrices_n p_ColumnPrices_c), (.slice p_HallRows p_HallRows_n p_HallRows_c)])] w R :=
  calls_of_vc an38 Try.func38 rfl (by kernel_rfl) (by kernel_rfl) (Eq.mp (by kernel_rfl) h)

/-- samaritan/certificate.provesCount -/
def an39 : An := (.seq (.reg []) (.seq (.reg [(2, 1, false)]) (.seq (.seq (.reg []) (.blk (.loop [(21, .int .i64)] (.seq (.reg [(0, 0, true)]) (.seq (.cond .nil .nil) (.seq (.blk (.seq (.reg []) (.seq (.seq (.reg [(1, 0, true), (6, 0, true), (10, 0, true), (19, 0, true)]) (.cond (.seq (.reg []) .nil) .nil)) (.seq (.reg []) (.blk (.loop [(53, .int .i64)] (.seq (.reg [(0, 0, true)]) (.seq (.cond .nil .nil) (.cut [] (.blk (.seq (.reg []) (.seq (.reg [(1, 0, true)]) (.cond (.reg []) .nil)))) (.reg [])))))))))) (.reg []))))))) (.seq (.reg []) (.seq (.seq (.reg []) (.blk (.loop [(12, .int .i64), (70, .int .i64)] (.seq (.reg [(0, 0, true)]) (.seq (.cond .nil .nil) (.cut [(12, .int .i64)] (.blk (.seq (.reg [(1, 0, true)]) (.seq (.reg []) (.cond (.reg []) .nil)))) (.reg []))))))) (.seq (.reg [(2, 0, true)]) .nil))))))
set_option maxRecDepth 100000 in
theorem nf39 (cost : Option Addr) (cost_n : Nat) (cost_c : Nat) (unassigned : Int) (p_RowPrices : Option Addr) (p_RowPrices_n : Nat) (p_RowPrices_c : Nat) (p_ColumnPrices : Option Addr) (p_ColumnPrices_n : Nat) (p_ColumnPrices_c : Nat) (p_HallRows : Option Addr) (p_HallRows_n : Nat) (p_HallRows_c : Nat) (w : World) (R : Ending → World → Prop) (h :
(∀ w1 : World, ((w1 = (w.alloc (Obj.cells #[(Value.slice p_RowPrices p_RowPrices_n p_RowPrices_c), (Value.slice p_ColumnPrices p_ColumnPrices_n p_ColumnPrices_c), (Value.slice p_HallRows p_HallRows_n p_HallRows_c)] 57 (0, 0)))) →
(Calls Try.prog 37 #[(Value.slice cost cost_n cost_c)] w1 (fun (e3 : Ending) => (fun (w4 : World) => (∃ x5 : Int, ((e3 = (Ending.returned (Value.int IntKind.i64 x5))) ∧
(RunOk Try.prog (Nf.Hold (Instr.makeSlice 93 (Value.int IntKind.i64 x5) (Value.int IntKind.i64 x5))) w4 (fun (v6 : Value) => (fun (w7 : World) => (∃ o8 : Option Addr, (∃ n9 : Nat, (∃ n10 : Nat, ((v6 = (Value.slice o8 n9 n10)) ∧
(∃ o11 : Option Addr, (∃ n12 : Nat, (∃ n13 : Nat, (((w7.cell? (⟨(hs w), 2, none⟩ : Addr)) = (some (Value.slice o11 n12 n13))) ∧
(∃ k14 : (Nat → (Int → (World → Prop))), ((∃ n15 : Nat, (k14 n15 0 w7)) ∧
(∀ n16 : Nat, ((Nat → Value) →
(∀ w18 : World, (∀ x19 : Int, ((k14 n16 x19 w18) →
((((decide (x19 < ((n12 : Nat) : Int))) = true) →
(∃ a22 : Addr, ((o11 = (some a22)) ∧
((((0 : Int) ≤ x19) ∧
(x19 < ((n12 : Nat) : Int))) ∧
(∃ x23 : Int, (((w18.cell? (Addr.add a22 ((x19).toNat * 1))) = (some (Value.int IntKind.i64 x23))) ∧
((((decide (x23 < 0)) = true) →
(R (Ending.returned (Value.bool false)) w18)) ∧
(((decide (x23 < 0)) = false) →
((((decide (x23 ≥ ((cost_n : Nat) : Int))) = true) →
(R (Ending.returned (Value.bool false)) w18)) ∧
(((decide (x23 ≥ ((cost_n : Nat) : Int))) = false) →
((((decide (x19 > 0)) = true) →
(∃ o29 : Option Addr, (∃ n30 : Nat, (∃ n31 : Nat, (((w18.cell? (⟨(hs w), 2, none⟩ : Addr)) = (some (Value.slice o29 n30 n31))) ∧
(∃ a32 : Addr, ((o29 = (some a32)) ∧
((((0 : Int) ≤ (IntKind.wrap IntKind.i64 (x19 - 1))) ∧
((IntKind.wrap IntKind.i64 (x19 - 1)) < ((n30 : Nat) : Int))) ∧
(∃ x33 : Int, (((w18.cell? (Addr.add a32 (((IntKind.wrap IntKind.i64 (x19 - 1))).toNat * 1))) = (some (Value.int IntKind.i64 x33))) ∧
((((decide (x23 ≤ x33)) = true) →
(R (Ending.returned (Value.bool false)) w18)) ∧
(((decide (x23 ≤ x33)) = false) →
(∃ a36 : Addr, ((cost = (some a36)) ∧
((((0 : Int) ≤ x23) ∧
(x23 < ((cost_n : Nat) : Int))) ∧
(∃ o37 : Option Addr, (∃ n38 : Nat, (∃ n39 : Nat, (((w18.cell? (Addr.add a36 ((x23).toNat * 1))) = (some (Value.slice o37 n38 n39))) ∧
(∃ k40 : (Nat → (Int → (World → Prop))), ((∃ n41 : Nat, (k40 n41 0 w18)) ∧
(∀ n42 : Nat, ((Nat → Value) →
(∀ w44 : World, (∀ x45 : Int, ((k40 n42 x45 w44) →
((((decide (x45 < ((n38 : Nat) : Int))) = true) →
(∀ k48 : (World → Prop), ((∀ w50 : World, (((Nat → Value) →
(∃ n53 : Nat, ((n53 < n42) ∧
(k40 n53 (IntKind.wrap IntKind.i64 (x45 + 1)) w50)))) →
(k48 w50))) →
(∃ a54 : Addr, ((o37 = (some a54)) ∧
((((0 : Int) ≤ x45) ∧
(x45 < ((n38 : Nat) : Int))) ∧
(∃ x55 : Int, (((w44.cell? (Addr.add a54 ((x45).toNat * 1))) = (some (Value.int IntKind.i64 x55))) ∧
((((!(decide (x55 = 4611686018427387904))) = true) →
(∃ a57 : Addr, ((o8 = (some a57)) ∧
((((0 : Int) ≤ x45) ∧
(x45 < ((n9 : Nat) : Int))) ∧
((Nf.There w44 (Addr.add a57 ((x45).toNat * 1)) 1) ∧
(∀ w58 : World, ((w58 = (Nf.setCells w44 (Addr.add a57 ((x45).toNat * 1)) [(Value.bool true)] 0)) →
(k48 w58)))))))) ∧
(((!(decide (x55 = 4611686018427387904))) = false) →
(k48 w44))))))))))) ∧
(((decide (x45 < ((n38 : Nat) : Int))) = false) →
(∃ n62 : Nat, ((n62 < n16) ∧
(k14 n62 (IntKind.wrap IntKind.i64 (x19 + 1)) w44))))))))))))))))))))))))))))))) ∧
(((decide (x19 > 0)) = false) →
(∃ a64 : Addr, ((cost = (some a64)) ∧
((((0 : Int) ≤ x23) ∧
(x23 < ((cost_n : Nat) : Int))) ∧
(∃ o65 : Option Addr, (∃ n66 : Nat, (∃ n67 : Nat, (((w18.cell? (Addr.add a64 ((x23).toNat * 1))) = (some (Value.slice o65 n66 n67))) ∧
(∃ k68 : (Nat → (Int → (World → Prop))), ((∃ n69 : Nat, (k68 n69 0 w18)) ∧
(∀ n70 : Nat, ((Nat → Value) →
(∀ w72 : World, (∀ x73 : Int, ((k68 n70 x73 w72) →
((((decide (x73 < ((n66 : Nat) : Int))) = true) →
(∀ k76 : (World → Prop), ((∀ w78 : World, (((Nat → Value) →
(∃ n81 : Nat, ((n81 < n70) ∧
(k68 n81 (IntKind.wrap IntKind.i64 (x73 + 1)) w78)))) →
(k76 w78))) →
(∃ a82 : Addr, ((o65 = (some a82)) ∧
((((0 : Int) ≤ x73) ∧
(x73 < ((n66 : Nat) : Int))) ∧
(∃ x83 : Int, (((w72.cell? (Addr.add a82 ((x73).toNat * 1))) = (some (Value.int IntKind.i64 x83))) ∧
((((!(decide (x83 = 4611686018427387904))) = true) →
(∃ a85 : Addr, ((o8 = (some a85)) ∧
((((0 : Int) ≤ x73) ∧
(x73 < ((n9 : Nat) : Int))) ∧
((Nf.There w72 (Addr.add a85 ((x73).toNat * 1)) 1) ∧
(∀ w86 : World, ((w86 = (Nf.setCells w72 (Addr.add a85 ((x73).toNat * 1)) [(Value.bool true)] 0)) →
(k76 w86)))))))) ∧
(((!(decide (x83 = 4611686018427387904))) = false) →
(k76 w72))))))))))) ∧
(((decide (x73 < ((n66 : Nat) : Int))) = false) →
(∃ n90 : Nat, ((n90 < n16) ∧
(k14 n90 (IntKind.wrap IntKind.i64 (x19 + 1)) w72))))))))))))))))))))))))))))))) ∧
(((decide (x19 < ((n12 : Nat) : Int))) = false) →
(∃ o92 : Option Addr, (∃ n93 : Nat, (∃ n94 : Nat, (((w18.cell? (⟨(hs w), 2, none⟩ : Addr)) = (some (Value.slice o92 n93 n94))) ∧
(∃ k95 : (Nat → (Int → (Int → (World → Prop)))), ((∃ n96 : Nat, (k95 n96 ((n93 : Nat) : Int) 0 w18)) ∧
(∀ n97 : Nat, ((Nat → Value) →
(∀ w99 : World, (∀ x100 : Int, (∀ x101 : Int, ((k95 n97 x100 x101 w99) →
((((decide (x101 < ((n9 : Nat) : Int))) = true) →
(∀ k104 : (Int → (World → Prop)), ((∀ w106 : World, (∀ x107 : Int, (((Nat → Value) →
(∃ n110 : Nat, ((n110 < n97) ∧
(k95 n110 x107 (IntKind.wrap IntKind.i64 (x101 + 1)) w106)))) →
(k104 x107 w106)))) →
(∃ a111 : Addr, ((o8 = (some a111)) ∧
((((0 : Int) ≤ x101) ∧
(x101 < ((n9 : Nat) : Int))) ∧
(∃ b112 : Bool, (((w99.cell? (Addr.add a111 ((x101).toNat * 1))) = (some (Value.bool b112))) ∧
(((b112 = true) →
(k104 (IntKind.wrap IntKind.i64 (x100 - 1)) w99)) ∧
((b112 = false) →
(k104 x100 w99))))))))))) ∧
(((decide (x101 < ((n9 : Nat) : Int))) = false) →
((((decide (x100 = unassigned)) = true) →
(R (Ending.returned (Value.bool true)) w99)) ∧
(((decide (x100 = unassigned)) = false) →
(R (Ending.returned (Value.bool false)) w99))))))))))))))))))))))))))))))))))))))))))))) :
    Calls Try.prog 39 #[(.slice cost cost_n cost_c), (.int .i64 unassigned), (.agg #[(.slice p_RowPrices p_RowPrices_n p_RowPrices_c), (.slice p_ColumnPrices p_ColumnPrices_n p_ColumnPrices_c), (.slice p_HallRows p_HallRows_n p_HallRows_c)])] w R :=
  calls_of_vc an39 Try.func39 rfl (by kernel_rfl) (by kernel_rfl) (Eq.mp (by kernel_rfl) h)

/-- samaritan/certificate.rowsOf -/
def an56 : An := (.seq (.reg []) (.seq (.reg [(1, 1, false)]) (.seq (.seq (.reg []) (.blk (.loop [(13, .int .i64)] (.seq (.reg [(0, 0, true)]) (.seq (.cond .nil .nil) (.seq (.blk (.seq (.reg []) (.reg []))) (.reg []))))))) (.seq (.seq (.reg []) (.blk (.loop [(22, .int .i64)] (.seq (.reg [(0, 0, true)]) (.seq (.cond .nil .nil) (.cut [] (.blk (.seq (.reg []) (.seq (.reg [(1, 0, true)]) (.cond (.reg []) .nil)))) (.reg []))))))) (.seq (.reg []) .nil)))))
set_option maxRecDepth 100000 in
theorem nf56 (columns : Int) (m : Option Addr) (m_n : Nat) (m_c : Nat) (w : World) (R : Ending → World → Prop) (h :
(RunOk Try.prog (Nf.Hold (Instr.makeSlice 31 (Value.int IntKind.i64 columns) (Value.int IntKind.i64 columns))) w (fun (v1 : Value) => (fun (w2 : World) => (∃ o3 : Option Addr, (∃ n4 : Nat, (∃ n5 : Nat, ((v1 = (Value.slice o3 n4 n5)) ∧
(∃ k6 : (Nat → (Int → (World → Prop))), ((∃ n7 : Nat, (k6 n7 0 w2)) ∧
(∀ n8 : Nat, ((Nat → Value) →
(∀ w10 : World, (∀ x11 : Int, ((k6 n8 x11 w10) →
((((decide (x11 < ((n4 : Nat) : Int))) = true) →
(∃ a14 : Addr, ((o3 = (some a14)) ∧
((((0 : Int) ≤ x11) ∧
(x11 < ((n4 : Nat) : Int))) ∧
((Nf.There w10 (Addr.add a14 ((x11).toNat * 1)) 1) ∧
(∀ w15 : World, ((w15 = (Nf.setCells w10 (Addr.add a14 ((x11).toNat * 1)) [(Value.int IntKind.i64 (-1))] 0)) →
(∃ n17 : Nat, ((n17 < n8) ∧
(k6 n17 (IntKind.wrap IntKind.i64 (x11 + 1)) w15)))))))))) ∧
(((decide (x11 < ((n4 : Nat) : Int))) = false) →
(∃ k19 : (Nat → (Int → (World → Prop))), ((∃ n20 : Nat, (k19 n20 0 w10)) ∧
(∀ n21 : Nat, ((Nat → Value) →
(∀ w23 : World, (∀ x24 : Int, ((k19 n21 x24 w23) →
((((decide (x24 < ((m_n : Nat) : Int))) = true) →
(∀ k27 : (World → Prop), ((∀ w29 : World, (((Nat → Value) →
(∃ n32 : Nat, ((n32 < n21) ∧
(k19 n32 (IntKind.wrap IntKind.i64 (x24 + 1)) w29)))) →
(k27 w29))) →
(∃ a33 : Addr, ((m = (some a33)) ∧
((((0 : Int) ≤ x24) ∧
(x24 < ((m_n : Nat) : Int))) ∧
(∃ x34 : Int, (((w23.cell? (Addr.add a33 ((x24).toNat * 1))) = (some (Value.int IntKind.i64 x34))) ∧
((((decide (x34 ≥ 0)) = true) →
(∃ a36 : Addr, ((o3 = (some a36)) ∧
((((0 : Int) ≤ x34) ∧
(x34 < ((n4 : Nat) : Int))) ∧
((Nf.There w23 (Addr.add a36 ((x34).toNat * 1)) 1) ∧
(∀ w37 : World, ((w37 = (Nf.setCells w23 (Addr.add a36 ((x34).toNat * 1)) [(Value.int IntKind.i64 x24)] 0)) →
(k27 w37)))))))) ∧
(((decide (x34 ≥ 0)) = false) →
(k27 w23))))))))))) ∧
(((decide (x24 < ((m_n : Nat) : Int))) = false) →
(R (Ending.returned (Value.slice o3 n4 n5)) w23))))))))))))))))))))))))))) :
    Calls Try.prog 56 #[(.int .i64 columns), (.slice m m_n m_c)] w R :=
  calls_of_vc an56 Try.func56 rfl (by kernel_rfl) (by kernel_rfl) (Eq.mp (by kernel_rfl) h)

end Go.Proofs.Ytcaokpglbolkcaa
