/- The contracts' premises: for each function, the proposition that its body comes to (printed by the tool of wip/nf). -/
import Derived.Test.YtcaokpglbolkcaaRows
import Derived.Test.YtcaokpglbolkcaaNfD
namespace Go.Proofs.Ytcaokpglbolkcaa
open Go Go.Nf

/-- samaritan/dispatch.Assign -/
def an8 : An := (.seq (.reg []) (.seq (.reg []) (.seq (.reg []) (.seq (.seq (.reg []) (.blk (.loop [(14, .slice), (15, .int .i64)] (.seq (.seq (.reg [(1, 0, true)]) (.cond .nil .nil)) (.cut [(14, .slice)] (.blk (.seq (.reg []) (.seq (.seq (.reg [(2, 0, true)]) (.cond .nil .nil)) (.seq (.reg []) (.seq (.reg []) (.seq (.seq (.reg [(1, 0, true)]) (.cond .nil .nil)) (.seq (.reg []) (.blk (.loop [(14, .slice), (60, .int .i64)] (.seq (.reg [(0, 0, true)]) (.seq (.cond .nil .nil) (.cut [(14, .slice)] (.blk (.seq (.reg []) (.seq (.seq (.reg [(1, 0, true)]) (.cond .nil .nil)) (.seq (.regD [] [0, 1, 2, 3, 4, 5, 6, 7, 8, 9, 10, 11, 12, 13, 14, 15, 16, 17, 18, 19, 20, 21, 22, 23, 24] [23, 24]) (.seq (.reg [(3, 1, false)]) (.reg [])))))) (.reg []))))))))))))) (.reg [])))))) (.seq (.reg []) .nil)))))
set_option maxRecDepth 100000 in
theorem nf8 (n : Option Addr) (times : Option Addr) (times_n : Nat) (times_c : Nat) (l : Option Addr) (l_n : Nat) (l_c : Nat) (units : Option Addr) (units_n : Nat) (units_c : Nat) (plans : Option Addr) (plans_n : Nat) (plans_c : Nat) (reserve : Int) (w : World) (R : Ending → World → Prop) (h :
(Calls Try.prog 20 #[(Value.slice units units_n units_c)] w (fun (e1 : Ending) => (fun (w2 : World) => (∃ o3 : Option Addr, (∃ n4 : Nat, (∃ n5 : Nat, ((e1 = (Ending.returned (Value.slice o3 n4 n5))) ∧
(∃ k6 : (Nat → (Option Addr → (Nat → (Nat → (Int → (World → Prop)))))), ((∃ n7 : Nat, (k6 n7 none 0 0 1 w2)) ∧
(∀ n8 : Nat, ((Nat → Value) →
(∀ w10 : World, (∀ o11 : Option Addr, (∀ n12 : Nat, (∀ n13 : Nat, (∀ x14 : Int, ((k6 n8 o11 n12 n13 x14 w10) →
((((decide (x14 ≤ 5)) = true) →
(∀ k17 : (Option Addr → (Nat → (Nat → (World → Prop)))), ((∀ w19 : World, (∀ o20 : Option Addr, (∀ n21 : Nat, (∀ n22 : Nat, (((Nat → Value) →
(∃ n25 : Nat, ((n25 < n8) ∧
(k6 n25 o20 n21 n22 (IntKind.wrap IntKind.i64 (x14 + 1)) w19)))) →
(k17 o20 n21 n22 w19)))))) →
(Calls Try.prog 21 #[(Value.slice l l_n l_c), (Value.slice o3 n4 n5), (Value.slice plans plans_n plans_c), (Value.int IntKind.i64 x14)] w10 (fun (e26 : Ending) => (fun (w27 : World) => (∃ o28 : Option Addr, (∃ n29 : Nat, (∃ n30 : Nat, ((e26 = (Ending.returned (Value.slice o28 n29 n30))) ∧
((((decide (((n29 : Nat) : Int) = 0)) = true) →
(k17 o11 n12 n13 w27)) ∧
(((decide (((n29 : Nat) : Int) = 0)) = false) →
(Calls Try.prog 11 #[(Value.slice o3 n4 n5), (Value.int IntKind.i64 x14), (Value.int IntKind.i64 reserve)] w27 (fun (e33 : Ending) => (fun (w34 : World) => (∃ o35 : Option Addr, (∃ n36 : Nat, (∃ n37 : Nat, ((e33 = (Ending.returned (Value.slice o35 n36 n37))) ∧
(Calls Try.prog 22 #[(Value.pointer n), (Value.slice times times_n times_c), (Value.slice o28 n29 n30), (Value.slice o35 n36 n37)] w34 (fun (e38 : Ending) => (fun (w39 : World) => (∃ o40 : Option Addr, (∃ n41 : Nat, (∃ n42 : Nat, (∃ o43 : Option Addr, (∃ n44 : Nat, (∃ n45 : Nat, ((e38 = (Ending.returned (Value.tuple #[(Value.slice o40 n41 n42), (Value.slice o43 n44 n45)]))) ∧
(Calls Try.prog 14 #[(Value.slice o43 n44 n45)] w39 (fun (e46 : Ending) => (fun (w47 : World) => (∃ o48 : Option Addr, (∃ n49 : Nat, (∃ n50 : Nat, (∃ x51 : Int, (∃ x52 : Int, ((e46 = (Ending.returned (Value.tuple #[(Value.slice o48 n49 n50), (Value.int IntKind.i64 x51), (Value.int IntKind.i64 x52)]))) ∧
((((!(decide (x52 = 0))) = true) →
(k17 o11 n12 n13 w47)) ∧
(((!(decide (x52 = 0))) = false) →
(∃ k55 : (Nat → (Option Addr → (Nat → (Nat → (Int → (World → Prop)))))), ((∃ n56 : Nat, (k55 n56 o11 n12 n13 0 w47)) ∧
(∀ n57 : Nat, ((Nat → Value) →
(∀ w59 : World, (∀ o60 : Option Addr, (∀ n61 : Nat, (∀ n62 : Nat, (∀ x63 : Int, ((k55 n57 o60 n61 n62 x63 w59) →
((((decide (x63 < ((n49 : Nat) : Int))) = true) →
(∀ k66 : (Option Addr → (Nat → (Nat → (World → Prop)))), ((∀ w68 : World, (∀ o69 : Option Addr, (∀ n70 : Nat, (∀ n71 : Nat, (((Nat → Value) →
(∃ n74 : Nat, ((n74 < n57) ∧
(k55 n74 o69 n70 n71 (IntKind.wrap IntKind.i64 (x63 + 1)) w68)))) →
(k66 o69 n70 n71 w68)))))) →
(∃ a75 : Addr, ((o48 = (some a75)) ∧
((((0 : Int) ≤ x63) ∧
(x63 < ((n49 : Nat) : Int))) ∧
(∃ x76 : Int, (((w59.cell? (Addr.add a75 ((x63).toNat * 1))) = (some (Value.int IntKind.i64 x76))) ∧
((((decide (x76 < 0)) = true) →
(k66 o60 n61 n62 w59)) ∧
(((decide (x76 < 0)) = false) →
(∀ w79 : World, ((w79 = w59.drew) →
(∃ a81 : Addr, ((o28 = (some a81)) ∧
((((0 : Int) ≤ x63) ∧
(x63 < ((n29 : Nat) : Int))) ∧
(∃ x82 : Int, (((w79.cell? (Addr.add a81 ((x63).toNat * 5))) = (some (Value.int IntKind.i64 x82))) ∧
(∃ a83 : Addr, ((o28 = (some a83)) ∧
((((0 : Int) ≤ x63) ∧
(x63 < ((n29 : Nat) : Int))) ∧
(∃ x84 : Int, (((w79.cell? (Addr.add (Addr.add a83 ((x63).toNat * 5)) 3)) = (some (Value.int IntKind.i64 x84))) ∧
(∃ a85 : Addr, ((o40 = (some a85)) ∧
((((0 : Int) ≤ x76) ∧
(x76 < ((n41 : Nat) : Int))) ∧
(∃ x86 : Int, (((w79.cell? (Addr.add a85 ((x76).toNat * 10))) = (some (Value.int IntKind.i64 x86))) ∧
(∃ a87 : Addr, ((o43 = (some a87)) ∧
((((0 : Int) ≤ x63) ∧
(x63 < ((n44 : Nat) : Int))) ∧
(∃ o88 : Option Addr, (∃ n89 : Nat, (∃ n90 : Nat, (((w79.cell? (Addr.add a87 ((x63).toNat * 1))) = (some (Value.slice o88 n89 n90))) ∧
(∃ a91 : Addr, ((o88 = (some a91)) ∧
((((0 : Int) ≤ x76) ∧
(x76 < ((n89 : Nat) : Int))) ∧
(∃ x92 : Int, (((w79.cell? (Addr.add a91 ((x76).toNat * 1))) = (some (Value.int IntKind.i64 x92))) ∧
(∀ w93 : World, ((w93 = (w79.alloc (Obj.cells #[(Value.int IntKind.i64 0), (Value.int IntKind.i64 0), (Value.int IntKind.i64 0), (Value.int IntKind.i64 0)] 51 (0, 0)))) →
((Nf.Kept w79 w93 (Addr.add a91 ((x76).toNat * 1)) 1) ∧
((Nf.Kept w79 w93 (Addr.add a87 ((x63).toNat * 1)) 1) ∧
((Nf.Kept w79 w93 (Addr.add a85 ((x76).toNat * 10)) 1) ∧
((Nf.Kept w79 w93 (Addr.add (Addr.add a83 ((x63).toNat * 5)) 3) 1) ∧
((Nf.Kept w79 w93 (Addr.add a81 ((x63).toNat * 5)) 1) ∧
((Nf.There w93 (⟨(hs w79), 0, none⟩ : Addr) 4) ∧
(∀ w95 : World, ((w95 = (Nf.setCells w93 (⟨(hs w79), 0, none⟩ : Addr) [(Value.int IntKind.i64 x82), (Value.int IntKind.i64 x84), (Value.int IntKind.i64 x86), (Value.int IntKind.i64 x92)] 0)) →
(∃ x97 : Int, (((w95.cell? (⟨(hs w79), 0, none⟩ : Addr)) = (some (Value.int IntKind.i64 x97))) ∧
(∃ x98 : Int, (((w95.cell? (⟨(hs w79), 1, none⟩ : Addr)) = (some (Value.int IntKind.i64 x98))) ∧
(∃ x99 : Int, (((w95.cell? (⟨(hs w79), 2, none⟩ : Addr)) = (some (Value.int IntKind.i64 x99))) ∧
(∃ x100 : Int, (((w95.cell? (⟨(hs w79), 3, none⟩ : Addr)) = (some (Value.int IntKind.i64 x100))) ∧
(∀ w101 : World, ((w101 = (w95.alloc (Obj.cells #[(Value.int IntKind.i64 x97), (Value.int IntKind.i64 x98), (Value.int IntKind.i64 x99), (Value.int IntKind.i64 x100)] 51 (0, 0)))) →
(RunOk Try.prog (Nf.Hold (Builtin.append_ #[40, 40] 40 #[(Value.slice o60 n61 n62), (Value.slice (some (⟨(hs w95), 0, none⟩ : Addr)) 1 1)])) w101 (fun (v103 : Value) => (fun (w104 : World) => (∃ o105 : Option Addr, (∃ n106 : Nat, (∃ n107 : Nat, ((v103 = (Value.slice o105 n106 n107)) ∧
(∃ x108 : Int, (((w104.cell? (⟨(hs w79), 0, none⟩ : Addr)) = (some (Value.int IntKind.i64 x108))) ∧
(∃ x109 : Int, (((w104.cell? (⟨(hs w79), 1, none⟩ : Addr)) = (some (Value.int IntKind.i64 x109))) ∧
(∃ x110 : Int, (((w104.cell? (⟨(hs w79), 2, none⟩ : Addr)) = (some (Value.int IntKind.i64 x110))) ∧
(∃ x111 : Int, (((w104.cell? (⟨(hs w79), 3, none⟩ : Addr)) = (some (Value.int IntKind.i64 x111))) ∧
(Calls Try.prog 23 #[(Value.slice o3 n4 n5), (Value.agg #[(Value.int IntKind.i64 x108), (Value.int IntKind.i64 x109), (Value.int IntKind.i64 x110), (Value.int IntKind.i64 x111)])] w104 (fun (e112 : Ending) => (fun (w113 : World) => ((e112 = (Ending.returned (Value.tuple #[]))) ∧
(k66 o105 n106 n107 w113))))))))))))))))))))))))))))))))))))))))))))))))))))))))))))))))))))))))))))))) ∧
(((decide (x63 < ((n49 : Nat) : Int))) = false) →
(k17 o60 n61 n62 w59))))))))))))))))))))))))))))))))))))))))))))))))))))) ∧
(((decide (x14 ≤ 5)) = false) →
(R (Ending.returned (Value.slice o11 n12 n13)) w10))))))))))))))))))))) :
    Calls Try.prog 8 #[(.pointer n), (.slice times times_n times_c), (.slice l l_n l_c), (.slice units units_n units_c), (.slice plans plans_n plans_c), (.int .i64 reserve)] w R :=
  calls_of_vc an8 Try.func8 rfl (by kernel_rfl) (by kernel_rfl) (Eq.mp (by kernel_rfl) h)

/-- samaritan/dispatch.Verify -/
def an9 : An := (.seq (.reg []) (.seq (.reg []) (.seq (.seq (.reg []) (.blk (.loop [(29, .int .i64)] (.seq (.reg [(0, 0, true)]) (.seq (.cond .nil .nil) (.seq (.blk (.seq (.reg []) (.seq (.regD [(8, 3, true)] [0, 1, 2, 3, 4, 5, 6, 7, 8] []) (.cond (.seq (.reg []) .nil) .nil)))) (.reg []))))))) (.seq (.seq (.reg [(4, 0, true)]) (.cond (.seq (.reg []) .nil) .nil)) (.seq (.reg []) .nil)))))
set_option maxRecDepth 100000 in
theorem nf9 (n : Option Addr) (times : Option Addr) (times_n : Nat) (times_c : Nat) (l : Option Addr) (l_n : Nat) (l_c : Nat) (units : Option Addr) (units_n : Nat) (units_c : Nat) (plans : Option Addr) (plans_n : Nat) (plans_c : Nat) (reserve : Int) (c : Option Addr) (c_n : Nat) (c_c : Nat) (w : World) (R : Ending → World → Prop) (h :
(Calls Try.prog 8 #[(Value.pointer n), (Value.slice times times_n times_c), (Value.slice l l_n l_c), (Value.slice units units_n units_c), (Value.slice plans plans_n plans_c), (Value.int IntKind.i64 reserve)] w (fun (e1 : Ending) => (fun (w2 : World) => (∃ o3 : Option Addr, (∃ n4 : Nat, (∃ n5 : Nat, ((e1 = (Ending.returned (Value.slice o3 n4 n5))) ∧
(∃ k6 : (Nat → (Int → (World → Prop))), ((∃ n7 : Nat, (k6 n7 0 w2)) ∧
(∀ n8 : Nat, ((Nat → Value) →
(∀ w10 : World, (∀ x11 : Int, ((k6 n8 x11 w10) →
((((decide (x11 < (if (((c_n : Nat) : Int) < ((n4 : Nat) : Int)) then ((c_n : Nat) : Int) else ((n4 : Nat) : Int)))) = true) →
(∀ w14 : World, ((w14 = w10.drew) →
(∃ a16 : Addr, ((c = (some a16)) ∧
((((0 : Int) ≤ x11) ∧
(x11 < ((c_n : Nat) : Int))) ∧
(∃ x17 : Int, (((w14.cell? (Addr.add a16 ((x11).toNat * 4))) = (some (Value.int IntKind.i64 x17))) ∧
(∃ x18 : Int, (((w14.cell? (Addr.add (Addr.add a16 ((x11).toNat * 4)) 1)) = (some (Value.int IntKind.i64 x18))) ∧
(∃ x19 : Int, (((w14.cell? (Addr.add (Addr.add a16 ((x11).toNat * 4)) 2)) = (some (Value.int IntKind.i64 x19))) ∧
(∃ x20 : Int, (((w14.cell? (Addr.add (Addr.add a16 ((x11).toNat * 4)) 3)) = (some (Value.int IntKind.i64 x20))) ∧
(∃ a21 : Addr, ((o3 = (some a21)) ∧
((((0 : Int) ≤ x11) ∧
(x11 < ((n4 : Nat) : Int))) ∧
(∃ x22 : Int, (((w14.cell? (Addr.add a21 ((x11).toNat * 4))) = (some (Value.int IntKind.i64 x22))) ∧
(∃ x23 : Int, (((w14.cell? (Addr.add (Addr.add a21 ((x11).toNat * 4)) 1)) = (some (Value.int IntKind.i64 x23))) ∧
(∃ x24 : Int, (((w14.cell? (Addr.add (Addr.add a21 ((x11).toNat * 4)) 2)) = (some (Value.int IntKind.i64 x24))) ∧
(∃ x25 : Int, (((w14.cell? (Addr.add (Addr.add a21 ((x11).toNat * 4)) 3)) = (some (Value.int IntKind.i64 x25))) ∧
((((!(Nf.andB (decide (x17 = x22)) (Nf.andB (decide (x18 = x23)) (Nf.andB (decide (x19 = x24)) (decide (x20 = x25)))))) = true) →
(R (Ending.returned (Value.int IntKind.i64 x11)) w14)) ∧
(((!(Nf.andB (decide (x17 = x22)) (Nf.andB (decide (x18 = x23)) (Nf.andB (decide (x19 = x24)) (decide (x20 = x25)))))) = false) →
(∃ n28 : Nat, ((n28 < n8) ∧
(k6 n28 (IntKind.wrap IntKind.i64 (x11 + 1)) w14)))))))))))))))))))))))))))))) ∧
(((decide (x11 < (if (((c_n : Nat) : Int) < ((n4 : Nat) : Int)) then ((c_n : Nat) : Int) else ((n4 : Nat) : Int)))) = false) →
((((!(decide (((c_n : Nat) : Int) = ((n4 : Nat) : Int)))) = true) →
(R (Ending.returned (Value.int IntKind.i64 (if (((n4 : Nat) : Int) < ((c_n : Nat) : Int)) then ((n4 : Nat) : Int) else ((c_n : Nat) : Int)))) w10)) ∧
(((!(decide (((c_n : Nat) : Int) = ((n4 : Nat) : Int)))) = false) →
(R (Ending.returned (Value.int IntKind.i64 (-1))) w10)))))))))))))))))))) :
    Calls Try.prog 9 #[(.pointer n), (.slice times times_n times_c), (.slice l l_n l_c), (.slice units units_n units_c), (.slice plans plans_n plans_c), (.int .i64 reserve), (.slice c c_n c_c)] w R :=
  calls_of_vc an9 Try.func9 rfl (by kernel_rfl) (by kernel_rfl) (Eq.mp (by kernel_rfl) h)

/-- samaritan/dispatchcost.Slots -/
def an10 : An := (.seq (.reg []) (.seq (.reg []) (.seq (.seq (.reg []) (.blk (.loop [(19, .int .i64)] (.seq (.reg [(0, 0, true)]) (.seq (.cond .nil .nil) (.seq (.blk (.seq (.reg []) (.regE [(6, 1, false), (10, 1, false), (11, 1, false)] (.take 0 (.take 1 (.take 2 (.take 3 (.take 4 (.take 5 (.take 7 (.take 8 (.eff (.alt (.one 6 (.eff (.one 9 (.eff (.one 10 (.eff (.one 11 .nil))))))) (.one 9 (.eff (.one 6 (.eff (.one 10 (.eff (.one 11 .nil))))))))))))))))) [6, 9, 10, 11]))) (.reg []))))))) (.seq (.reg []) (.seq (.seq (.reg []) (.blk (.loop [(10, .slice), (38, .int .i64)] (.seq (.reg [(0, 0, true)]) (.seq (.cond .nil .nil) (.seq (.blk (.seq (.reg []) (.seq (.reg []) (.seq (.reg [(4, 1, false)]) (.blk (.loop [(10, .slice), (55, .int .i64)] (.seq (.reg [(0, 0, true)]) (.seq (.cond .nil .nil) (.seq (.blk (.seq (.reg []) (.regD [(13, 1, false)] [0, 1, 2, 3, 4, 5, 6, 7, 8, 9, 10, 11, 12, 13, 14] [10, 12, 13]))) (.reg [])))))))))) (.reg []))))))) (.seq (.reg []) .nil))))))
set_option maxRecDepth 100000 in
theorem nf10 (l : Option Addr) (l_n : Nat) (l_c : Nat) (units : Option Addr) (units_n : Nat) (units_c : Nat) (plans : Option Addr) (plans_n : Nat) (plans_c : Nat) (w : World) (R : Ending → World → Prop) (h :
(∀ w1 : World, ((w1 = (w.alloc (Obj.map #[] 0))) →
(∃ k3 : (Nat → (Int → (World → Prop))), ((∃ n4 : Nat, (k3 n4 0 w1)) ∧
(∀ n5 : Nat, ((Nat → Value) →
(∀ w7 : World, (∀ x8 : Int, ((k3 n5 x8 w7) →
((((decide (x8 < ((units_n : Nat) : Int))) = true) →
(∃ a11 : Addr, ((units = (some a11)) ∧
((((0 : Int) ≤ x8) ∧
(x8 < ((units_n : Nat) : Int))) ∧
(∃ x12 : Int, (((w7.cell? (Addr.add a11 ((x8).toNat * 10))) = (some (Value.int IntKind.i64 x12))) ∧
(∃ x13 : Int, (((w7.cell? (Addr.add (Addr.add a11 ((x8).toNat * 10)) 1)) = (some (Value.int IntKind.i64 x13))) ∧
(∃ x14 : Int, (((w7.cell? (Addr.add (Addr.add a11 ((x8).toNat * 10)) 2)) = (some (Value.int IntKind.i64 x14))) ∧
(∃ x15 : Int, (((w7.cell? (Addr.add (Addr.add a11 ((x8).toNat * 10)) 3)) = (some (Value.int IntKind.i64 x15))) ∧
(∃ x16 : Int, (((w7.cell? (Addr.add (Addr.add a11 ((x8).toNat * 10)) 4)) = (some (Value.int IntKind.i64 x16))) ∧
(∃ x17 : Int, (((w7.cell? (Addr.add (Addr.add a11 ((x8).toNat * 10)) 5)) = (some (Value.int IntKind.i64 x17))) ∧
(∃ x18 : Int, (((w7.cell? (Addr.add (Addr.add a11 ((x8).toNat * 10)) 6)) = (some (Value.int IntKind.i64 x18))) ∧
(∃ x19 : Int, (((w7.cell? (Addr.add (Addr.add a11 ((x8).toNat * 10)) 7)) = (some (Value.int IntKind.i64 x19))) ∧
(∃ x20 : Int, (((w7.cell? (Addr.add (Addr.add a11 ((x8).toNat * 10)) 8)) = (some (Value.int IntKind.i64 x20))) ∧
(∃ x21 : Int, (((w7.cell? (Addr.add (Addr.add a11 ((x8).toNat * 10)) 9)) = (some (Value.int IntKind.i64 x21))) ∧
(∀ w22 : World, ((w22 = (w7.alloc (Obj.cells #[(Value.int IntKind.i64 0), (Value.int IntKind.i64 0), (Value.int IntKind.i64 0), (Value.int IntKind.i64 0), (Value.int IntKind.i64 0), (Value.int IntKind.i64 0), (Value.int IntKind.i64 0), (Value.int IntKind.i64 0), (Value.int IntKind.i64 0), (Value.int IntKind.i64 0)] 29 (0, 0)))) →
((Nf.There w22 (⟨(hs w7), 0, none⟩ : Addr) 10) ∧
(∀ w24 : World, ((w24 = (Nf.setCells w22 (⟨(hs w7), 0, none⟩ : Addr) [(Value.int IntKind.i64 x12), (Value.int IntKind.i64 x13), (Value.int IntKind.i64 x14), (Value.int IntKind.i64 x15), (Value.int IntKind.i64 x16), (Value.int IntKind.i64 x17), (Value.int IntKind.i64 x18), (Value.int IntKind.i64 x19), (Value.int IntKind.i64 x20), (Value.int IntKind.i64 x21)] 0)) →
(∀ w26 : World, ((w26 = w24.drew) →
(∃ x28 : Int, (((w26.cell? (⟨(hs w7), 7, none⟩ : Addr)) = (some (Value.int IntKind.i64 x28))) ∧
(∃ x29 : Int, (((w26.cell? (⟨(hs w7), 7, none⟩ : Addr)) = (some (Value.int IntKind.i64 x29))) ∧
(∃ x30 : Int, (((w26.cell? (⟨(hs w7), 1, none⟩ : Addr)) = (some (Value.int IntKind.i64 x30))) ∧
((RunOk Try.prog (Nf.Hold (Instr.lookup 77 (Value.map (some (hs w))) (Value.int IntKind.i64 x29) false)) w26 (fun (v31 : Value) => (fun (w32 : World) => (∃ o33 : Option Addr, (∃ n34 : Nat, (∃ n35 : Nat, ((v31 = (Value.slice o33 n34 n35)) ∧
((Nf.Kept w26 w32 (⟨(hs w7), 1, none⟩ : Addr) 1) ∧
((Nf.Kept w26 w32 (⟨(hs w7), 7, none⟩ : Addr) 1) ∧
(∀ w36 : World, ((w36 = (w32.alloc (Obj.cells #[(Value.int IntKind.i64 x30)] 3 (0, 0)))) →
((Nf.Kept w26 w36 (⟨(hs w7), 7, none⟩ : Addr) 1) ∧
(RunOk Try.prog (Nf.Hold (Builtin.append_ #[31, 31] 31 #[(Value.slice o33 n34 n35), (Value.slice (some (⟨(hs w32), 0, none⟩ : Addr)) 1 1)])) w36 (fun (v38 : Value) => (fun (w39 : World) => (∃ o40 : Option Addr, (∃ n41 : Nat, (∃ n42 : Nat, ((v38 = (Value.slice o40 n41 n42)) ∧
((Nf.Kept w26 w39 (⟨(hs w7), 7, none⟩ : Addr) 1) ∧
(RunOk Try.prog (Nf.Hold (Instr.mapUpdate 77 (Value.map (some (hs w))) (Value.int IntKind.i64 x28) (Value.slice o40 n41 n42))) w39 (fun (k43 : Unit) => (fun (w44 : World) => (∃ n45 : Nat, ((n45 < n5) ∧
(k3 n45 (IntKind.wrap IntKind.i64 (x8 + 1)) w44)))))))))))))))))))))))))) ∧
(∀ w46 : World, ((w46 = (w26.alloc (Obj.cells #[(Value.int IntKind.i64 x30)] 3 (0, 0)))) →
((Nf.Kept w26 w46 (⟨(hs w7), 7, none⟩ : Addr) 1) ∧
((Nf.Kept w26 w46 (⟨(hs w7), 7, none⟩ : Addr) 1) ∧
(RunOk Try.prog (Nf.Hold (Instr.lookup 77 (Value.map (some (hs w))) (Value.int IntKind.i64 x29) false)) w46 (fun (v48 : Value) => (fun (w49 : World) => (∃ o50 : Option Addr, (∃ n51 : Nat, (∃ n52 : Nat, ((v48 = (Value.slice o50 n51 n52)) ∧
((Nf.Kept w26 w49 (⟨(hs w7), 7, none⟩ : Addr) 1) ∧
(RunOk Try.prog (Nf.Hold (Builtin.append_ #[31, 31] 31 #[(Value.slice o50 n51 n52), (Value.slice (some (⟨(hs w26), 0, none⟩ : Addr)) 1 1)])) w49 (fun (v53 : Value) => (fun (w54 : World) => (∃ o55 : Option Addr, (∃ n56 : Nat, (∃ n57 : Nat, ((v53 = (Value.slice o55 n56 n57)) ∧
((Nf.Kept w26 w54 (⟨(hs w7), 7, none⟩ : Addr) 1) ∧
(RunOk Try.prog (Nf.Hold (Instr.mapUpdate 77 (Value.map (some (hs w))) (Value.int IntKind.i64 x28) (Value.slice o55 n56 n57))) w54 (fun (k58 : Unit) => (fun (w59 : World) => (∃ n60 : Nat, ((n60 < n5) ∧
(k3 n60 (IntKind.wrap IntKind.i64 (x8 + 1)) w59)))))))))))))))))))))))))))))))))))))))))))))))))))))))))))))))) ∧
(((decide (x8 < ((units_n : Nat) : Int))) = false) →
(Calls Try.prog 24 #[(Value.slice l l_n l_c)] w7 (fun (e62 : Ending) => (fun (w63 : World) => (∃ o64 : Option Addr, (∃ n65 : Nat, (∃ n66 : Nat, ((e62 = (Ending.returned (Value.slice o64 n65 n66))) ∧
(∃ k67 : (Nat → (Option Addr → (Nat → (Nat → (Int → (World → Prop)))))), ((∃ n68 : Nat, (k67 n68 none 0 0 0 w63)) ∧
(∀ n69 : Nat, ((Nat → Value) →
(∀ w71 : World, (∀ o72 : Option Addr, (∀ n73 : Nat, (∀ n74 : Nat, (∀ x75 : Int, ((k67 n69 o72 n73 n74 x75 w71) →
((((decide (x75 < ((n65 : Nat) : Int))) = true) →
(∃ a78 : Addr, ((o64 = (some a78)) ∧
((((0 : Int) ≤ x75) ∧
(x75 < ((n65 : Nat) : Int))) ∧
(∃ x79 : Int, (((w71.cell? (Addr.add a78 ((x75).toNat * 10))) = (some (Value.int IntKind.i64 x79))) ∧
(∃ x80 : Int, (((w71.cell? (Addr.add (Addr.add a78 ((x75).toNat * 10)) 1)) = (some (Value.int IntKind.i64 x80))) ∧
(∃ s81 : ByteArray, (((w71.cell? (Addr.add (Addr.add a78 ((x75).toNat * 10)) 2)) = (some (Value.string s81))) ∧
(∃ o82 : Option Addr, (∃ n83 : Nat, (∃ n84 : Nat, (((w71.cell? (Addr.add (Addr.add a78 ((x75).toNat * 10)) 3)) = (some (Value.slice o82 n83 n84))) ∧
(∃ x85 : Int, (((w71.cell? (Addr.add (Addr.add a78 ((x75).toNat * 10)) 4)) = (some (Value.int IntKind.i64 x85))) ∧
(∃ x86 : Int, (((w71.cell? (Addr.add (Addr.add a78 ((x75).toNat * 10)) 5)) = (some (Value.int IntKind.i64 x86))) ∧
(∃ o87 : Option Addr, (∃ n88 : Nat, (∃ n89 : Nat, (((w71.cell? (Addr.add (Addr.add a78 ((x75).toNat * 10)) 6)) = (some (Value.slice o87 n88 n89))) ∧
(∃ o90 : Option Addr, (∃ n91 : Nat, (∃ n92 : Nat, (((w71.cell? (Addr.add (Addr.add a78 ((x75).toNat * 10)) 7)) = (some (Value.slice o90 n91 n92))) ∧
(∃ x93 : Int, (((w71.cell? (Addr.add (Addr.add a78 ((x75).toNat * 10)) 8)) = (some (Value.int IntKind.i64 x93))) ∧
(∃ b94 : Bool, (((w71.cell? (Addr.add (Addr.add a78 ((x75).toNat * 10)) 9)) = (some (Value.bool b94))) ∧
(∀ w95 : World, ((w95 = (w71.alloc (Obj.cells #[(Value.int IntKind.i64 0), (Value.int IntKind.i64 0), (Value.string (ByteArray.mk #[])), (Value.slice none 0 0), (Value.int IntKind.i64 0), (Value.int IntKind.i64 0), (Value.slice none 0 0), (Value.slice none 0 0), (Value.int IntKind.i64 0), (Value.bool false)] 34 (0, 0)))) →
((Nf.There w95 (⟨(hs w71), 0, none⟩ : Addr) 10) ∧
(∀ w97 : World, ((w97 = (Nf.setCells w95 (⟨(hs w71), 0, none⟩ : Addr) [(Value.int IntKind.i64 x79), (Value.int IntKind.i64 x80), (Value.string s81), (Value.slice o82 n83 n84), (Value.int IntKind.i64 x85), (Value.int IntKind.i64 x86), (Value.slice o87 n88 n89), (Value.slice o90 n91 n92), (Value.int IntKind.i64 x93), (Value.bool b94)] 0)) →
(∃ s99 : ByteArray, (((w97.cell? (⟨(hs w71), 2, none⟩ : Addr)) = (some (Value.string s99))) ∧
(∃ x100 : Int, (((w97.cell? (⟨(hs w71), 1, none⟩ : Addr)) = (some (Value.int IntKind.i64 x100))) ∧
(Calls Try.prog 25 #[(Value.slice plans plans_n plans_c), (Value.string s99), (Value.int IntKind.i64 x100)] w97 (fun (e101 : Ending) => (fun (w102 : World) => (∃ o103 : Option Addr, (∃ n104 : Nat, (∃ n105 : Nat, ((e101 = (Ending.returned (Value.slice o103 n104 n105))) ∧
(∃ x106 : Int, (((w102.cell? (⟨(hs w71), 0, none⟩ : Addr)) = (some (Value.int IntKind.i64 x106))) ∧
(RunOk Try.prog (Nf.Hold (Instr.lookup 77 (Value.map (some (hs w))) (Value.int IntKind.i64 x106) false)) w102 (fun (v107 : Value) => (fun (w108 : World) => (∃ o109 : Option Addr, (∃ n110 : Nat, (∃ n111 : Nat, ((v107 = (Value.slice o109 n110 n111)) ∧
(Calls Try.prog 26 #[(Value.slice o103 n104 n105), (Value.slice o109 n110 n111)] w108 (fun (e112 : Ending) => (fun (w113 : World) => (∃ o114 : Option Addr, (∃ n115 : Nat, (∃ n116 : Nat, ((e112 = (Ending.returned (Value.slice o114 n115 n116))) ∧
(∃ k117 : (Nat → (Option Addr → (Nat → (Nat → (Int → (World → Prop)))))), ((∃ n118 : Nat, (k117 n118 o72 n73 n74 0 w113)) ∧
(∀ n119 : Nat, ((Nat → Value) →
(∀ w121 : World, (∀ o122 : Option Addr, (∀ n123 : Nat, (∀ n124 : Nat, (∀ x125 : Int, ((k117 n119 o122 n123 n124 x125 w121) →
((((decide (x125 < ((n115 : Nat) : Int))) = true) →
(∃ a128 : Addr, ((o114 = (some a128)) ∧
((((0 : Int) ≤ x125) ∧
(x125 < ((n115 : Nat) : Int))) ∧
(∃ x129 : Int, (((w121.cell? (Addr.add a128 ((x125).toNat * 1))) = (some (Value.int IntKind.i64 x129))) ∧
(∀ w130 : World, ((w130 = w121.drew) →
(∃ x132 : Int, (((w130.cell? (⟨(hs w71), 0, none⟩ : Addr)) = (some (Value.int IntKind.i64 x132))) ∧
(∃ x133 : Int, (((w130.cell? (⟨(hs w71), 1, none⟩ : Addr)) = (some (Value.int IntKind.i64 x133))) ∧
(∃ x134 : Int, (((w130.cell? (⟨(hs w71), 5, none⟩ : Addr)) = (some (Value.int IntKind.i64 x134))) ∧
(∃ o135 : Option Addr, (∃ n136 : Nat, (∃ n137 : Nat, (((w130.cell? (⟨(hs w71), 3, none⟩ : Addr)) = (some (Value.slice o135 n136 n137))) ∧
(Calls Try.prog 27 #[(Value.slice o135 n136 n137)] w130 (fun (e138 : Ending) => (fun (w139 : World) => (∃ o140 : Option Addr, (∃ n141 : Nat, (∃ n142 : Nat, ((e138 = (Ending.returned (Value.slice o140 n141 n142))) ∧
((Nf.Kept w130 w139 (⟨(hs w71), 5, none⟩ : Addr) 1) ∧
((Nf.Kept w130 w139 (⟨(hs w71), 1, none⟩ : Addr) 1) ∧
((Nf.Kept w130 w139 (⟨(hs w71), 0, none⟩ : Addr) 1) ∧
(∀ w143 : World, ((w143 = (w139.alloc (Obj.cells #[(Value.int IntKind.i64 x132), (Value.int IntKind.i64 x133), (Value.int IntKind.i64 x134), (Value.int IntKind.i64 x129), (Value.slice o140 n141 n142)] 46 (0, 0)))) →
(RunOk Try.prog (Nf.Hold (Builtin.append_ #[43, 43] 43 #[(Value.slice o122 n123 n124), (Value.slice (some (⟨(hs w139), 0, none⟩ : Addr)) 1 1)])) w143 (fun (v145 : Value) => (fun (w146 : World) => (∃ o147 : Option Addr, (∃ n148 : Nat, (∃ n149 : Nat, ((v145 = (Value.slice o147 n148 n149)) ∧
(∃ n150 : Nat, ((n150 < n119) ∧
(k117 n150 o147 n148 n149 (IntKind.wrap IntKind.i64 (x125 + 1)) w146)))))))))))))))))))))))))))))))))))))))) ∧
(((decide (x125 < ((n115 : Nat) : Int))) = false) →
(∃ n152 : Nat, ((n152 < n69) ∧
(k67 n152 o122 n123 n124 (IntKind.wrap IntKind.i64 (x75 + 1)) w121))))))))))))))))))))))))))))))))))))))))))))))))))))))))))))))))))))))))))))) ∧
(((decide (x75 < ((n65 : Nat) : Int))) = false) →
(R (Ending.returned (Value.slice o72 n73 n74)) w71)))))))))))))))))))))))))))))))) :
    Calls Try.prog 10 #[(.slice l l_n l_c), (.slice units units_n units_c), (.slice plans plans_n plans_c)] w R :=
  calls_of_vc an10 Try.func10 rfl (by kernel_rfl) (by kernel_rfl) (Eq.mp (by kernel_rfl) h)

/-- samaritan/dispatchcost.CostMatrix -/
def an12 : An := (.seq (.reg []) (.seq (.reg []) (.seq (.reg [(2, 1, false)]) (.seq (.reg []) (.seq (.seq (.reg []) (.blk (.loop [(11, .map), (26, .int .i64)] (.seq (.reg [(0, 0, true)]) (.seq (.cond .nil .nil) (.seq (.blk (.seq (.reg []) (.cut [(11, .map)] (.seq (.regD [(1, 0, true), (11, 0, true)] [0, 1, 2, 3, 4, 5, 6, 7, 8, 9, 10, 11, 12, 13] [11]) (.cond (.reg []) .nil)) (.seq (.reg [(4, 1, false)]) (.seq (.reg []) (.blk (.loop [(54, .int .i64)] (.seq (.reg [(0, 0, true)]) (.seq (.cond .nil .nil) (.cut [] (.blk (.seq (.reg []) (.seq (.reg []) (.seq (.seq (.reg [(4, 0, true)]) (.cond .nil .nil)) (.seq (.reg [(3, 1, false), (6, 0, true)]) (.cut [(16, .int .i64)] (.seq (.reg []) (.cond (.seq (.reg [(3, 1, false), (6, 0, true)]) (.cut [(18, .slice)] (.seq (.reg []) (.cond (.seq (.reg []) (.reg [(4, 1, false)])) .nil)) (.seq (.reg []) (.reg [(4, 1, false)])))) .nil)) (.reg []))))))) (.reg []))))))))))) (.reg []))))))) (.seq (.reg []) .nil))))))
set_option maxRecDepth 100000 in
theorem nf12 (n : Option Addr) (times : Option Addr) (times_n : Nat) (times_c : Nat) (slots : Option Addr) (slots_n : Nat) (slots_c : Nat) (units : Option Addr) (units_n : Nat) (units_c : Nat) (w : World) (R : Ending → World → Prop) (h :
(∀ w1 : World, ((w1 = (w.alloc (Obj.map #[] 0))) →
(RunOk Try.prog (Nf.Hold (Instr.makeSlice 48 (Value.int IntKind.i64 ((slots_n : Nat) : Int)) (Value.int IntKind.i64 ((slots_n : Nat) : Int)))) w1 (fun (v3 : Value) => (fun (w4 : World) => (∃ o5 : Option Addr, (∃ n6 : Nat, (∃ n7 : Nat, ((v3 = (Value.slice o5 n6 n7)) ∧
(∃ k8 : (Nat → (Option Nat → (Int → (World → Prop)))), ((∃ n9 : Nat, (k8 n9 none 0 w4)) ∧
(∀ n10 : Nat, ((Nat → Value) →
(∀ w12 : World, (∀ o13 : Option Nat, (∀ x14 : Int, ((k8 n10 o13 x14 w12) →
((((decide (x14 < ((slots_n : Nat) : Int))) = true) →
(∃ a17 : Addr, ((slots = (some a17)) ∧
((((0 : Int) ≤ x14) ∧
(x14 < ((slots_n : Nat) : Int))) ∧
(∃ x18 : Int, (((w12.cell? (Addr.add a17 ((x14).toNat * 5))) = (some (Value.int IntKind.i64 x18))) ∧
(∃ x19 : Int, (((w12.cell? (Addr.add (Addr.add a17 ((x14).toNat * 5)) 1)) = (some (Value.int IntKind.i64 x19))) ∧
(∃ x20 : Int, (((w12.cell? (Addr.add (Addr.add a17 ((x14).toNat * 5)) 2)) = (some (Value.int IntKind.i64 x20))) ∧
(∃ x21 : Int, (((w12.cell? (Addr.add (Addr.add a17 ((x14).toNat * 5)) 3)) = (some (Value.int IntKind.i64 x21))) ∧
(∃ o22 : Option Addr, (∃ n23 : Nat, (∃ n24 : Nat, (((w12.cell? (Addr.add (Addr.add a17 ((x14).toNat * 5)) 4)) = (some (Value.slice o22 n23 n24))) ∧
(∀ w25 : World, ((w25 = (w12.alloc (Obj.cells #[(Value.int IntKind.i64 0), (Value.int IntKind.i64 0), (Value.int IntKind.i64 0), (Value.int IntKind.i64 0), (Value.slice none 0 0)] 46 (0, 0)))) →
((Nf.There w25 (⟨(hs w12), 0, none⟩ : Addr) 5) ∧
(∀ w27 : World, ((w27 = (Nf.setCells w25 (⟨(hs w12), 0, none⟩ : Addr) [(Value.int IntKind.i64 x18), (Value.int IntKind.i64 x19), (Value.int IntKind.i64 x20), (Value.int IntKind.i64 x21), (Value.slice o22 n23 n24)] 0)) →
(∀ k29 : (Option Nat → (World → Prop)), ((∀ w31 : World, (∀ o32 : Option Nat, (((Nat → Value) →
(RunOk Try.prog (Nf.Hold (Instr.makeSlice 32 (Value.int IntKind.i64 ((units_n : Nat) : Int)) (Value.int IntKind.i64 ((units_n : Nat) : Int)))) w31 (fun (v35 : Value) => (fun (w36 : World) => (∃ o37 : Option Addr, (∃ n38 : Nat, (∃ n39 : Nat, ((v35 = (Value.slice o37 n38 n39)) ∧
(∃ a40 : Addr, ((o5 = (some a40)) ∧
((((0 : Int) ≤ x14) ∧
(x14 < ((n6 : Nat) : Int))) ∧
((Nf.There w36 (Addr.add a40 ((x14).toNat * 1)) 1) ∧
(∀ w41 : World, ((w41 = (Nf.setCells w36 (Addr.add a40 ((x14).toNat * 1)) [(Value.slice o37 n38 n39)] 0)) →
(∃ k43 : (Nat → (Int → (World → Prop))), ((∃ n44 : Nat, (k43 n44 0 w41)) ∧
(∀ n45 : Nat, ((Nat → Value) →
(∀ w47 : World, (∀ x48 : Int, ((k43 n45 x48 w47) →
((((decide (x48 < ((units_n : Nat) : Int))) = true) →
(∀ k51 : (World → Prop), ((∀ w53 : World, (((Nat → Value) →
(∃ n56 : Nat, ((n56 < n45) ∧
(k43 n56 (IntKind.wrap IntKind.i64 (x48 + 1)) w53)))) →
(k51 w53))) →
(∃ a57 : Addr, ((units = (some a57)) ∧
((((0 : Int) ≤ x48) ∧
(x48 < ((units_n : Nat) : Int))) ∧
(∃ x58 : Int, (((w47.cell? (Addr.add a57 ((x48).toNat * 10))) = (some (Value.int IntKind.i64 x58))) ∧
(∃ x59 : Int, (((w47.cell? (Addr.add (Addr.add a57 ((x48).toNat * 10)) 1)) = (some (Value.int IntKind.i64 x59))) ∧
(∃ x60 : Int, (((w47.cell? (Addr.add (Addr.add a57 ((x48).toNat * 10)) 2)) = (some (Value.int IntKind.i64 x60))) ∧
(∃ x61 : Int, (((w47.cell? (Addr.add (Addr.add a57 ((x48).toNat * 10)) 3)) = (some (Value.int IntKind.i64 x61))) ∧
(∃ x62 : Int, (((w47.cell? (Addr.add (Addr.add a57 ((x48).toNat * 10)) 4)) = (some (Value.int IntKind.i64 x62))) ∧
(∃ x63 : Int, (((w47.cell? (Addr.add (Addr.add a57 ((x48).toNat * 10)) 5)) = (some (Value.int IntKind.i64 x63))) ∧
(∃ x64 : Int, (((w47.cell? (Addr.add (Addr.add a57 ((x48).toNat * 10)) 6)) = (some (Value.int IntKind.i64 x64))) ∧
(∃ x65 : Int, (((w47.cell? (Addr.add (Addr.add a57 ((x48).toNat * 10)) 7)) = (some (Value.int IntKind.i64 x65))) ∧
(∃ x66 : Int, (((w47.cell? (Addr.add (Addr.add a57 ((x48).toNat * 10)) 8)) = (some (Value.int IntKind.i64 x66))) ∧
(∃ x67 : Int, (((w47.cell? (Addr.add (Addr.add a57 ((x48).toNat * 10)) 9)) = (some (Value.int IntKind.i64 x67))) ∧
(∀ w68 : World, ((w68 = (w47.alloc (Obj.cells #[(Value.int IntKind.i64 0), (Value.int IntKind.i64 0), (Value.int IntKind.i64 0), (Value.int IntKind.i64 0), (Value.int IntKind.i64 0), (Value.int IntKind.i64 0), (Value.int IntKind.i64 0), (Value.int IntKind.i64 0), (Value.int IntKind.i64 0), (Value.int IntKind.i64 0)] 29 (0, 0)))) →
((Nf.There w68 (⟨(hs w47), 0, none⟩ : Addr) 10) ∧
(∀ w70 : World, ((w70 = (Nf.setCells w68 (⟨(hs w47), 0, none⟩ : Addr) [(Value.int IntKind.i64 x58), (Value.int IntKind.i64 x59), (Value.int IntKind.i64 x60), (Value.int IntKind.i64 x61), (Value.int IntKind.i64 x62), (Value.int IntKind.i64 x63), (Value.int IntKind.i64 x64), (Value.int IntKind.i64 x65), (Value.int IntKind.i64 x66), (Value.int IntKind.i64 x67)] 0)) →
(∃ a72 : Addr, ((o5 = (some a72)) ∧
((((0 : Int) ≤ x14) ∧
(x14 < ((n6 : Nat) : Int))) ∧
(∃ o73 : Option Addr, (∃ n74 : Nat, (∃ n75 : Nat, (((w70.cell? (Addr.add a72 ((x14).toNat * 1))) = (some (Value.slice o73 n74 n75))) ∧
(∃ a76 : Addr, ((o73 = (some a76)) ∧
((((0 : Int) ≤ x48) ∧
(x48 < ((n74 : Nat) : Int))) ∧
((Nf.There w70 (Addr.add a76 ((x48).toNat * 1)) 1) ∧
(∀ w77 : World, ((w77 = (Nf.setCells w70 (Addr.add a76 ((x48).toNat * 1)) [(Value.int IntKind.i64 4611686018427387904)] 0)) →
(∃ x79 : Int, (((w77.cell? (⟨(hs w47), 1, none⟩ : Addr)) = (some (Value.int IntKind.i64 x79))) ∧
(∃ x80 : Int, (((w77.cell? (⟨(hs w12), 3, none⟩ : Addr)) = (some (Value.int IntKind.i64 x80))) ∧
(Calls Try.prog 29 #[(Value.int IntKind.i64 x79), (Value.int IntKind.i64 x80)] w77 (fun (e81 : Ending) => (fun (w82 : World) => (∃ b83 : Bool, ((e81 = (Ending.returned (Value.bool b83))) ∧
(((b83 = true) →
(∃ x85 : Int, (((w82.cell? (⟨(hs w47), 4, none⟩ : Addr)) = (some (Value.int IntKind.i64 x85))) ∧
(RunOk Try.prog (Nf.Hold (Instr.lookup 84 (Value.map o32) (Value.int IntKind.i64 x85) true)) w82 (fun (v86 : Value) => (fun (w87 : World) => (∃ x88 : Int, (∃ b89 : Bool, ((v86 = (Value.tuple #[(Value.int IntKind.i64 x88), (Value.bool b89)])) ∧
(((b89 = true) →
(∀ k91 : (Int → (World → Prop)), ((∀ w93 : World, (∀ x94 : Int, (((Nat → Value) →
(∃ a97 : Addr, ((o5 = (some a97)) ∧
((((0 : Int) ≤ x14) ∧
(x14 < ((n6 : Nat) : Int))) ∧
(∃ o98 : Option Addr, (∃ n99 : Nat, (∃ n100 : Nat, (((w93.cell? (Addr.add a97 ((x14).toNat * 1))) = (some (Value.slice o98 n99 n100))) ∧
(∃ a101 : Addr, ((o98 = (some a101)) ∧
((((0 : Int) ≤ x48) ∧
(x48 < ((n99 : Nat) : Int))) ∧
((Nf.There w93 (Addr.add a101 ((x48).toNat * 1)) 1) ∧
(∀ w102 : World, ((w102 = (Nf.setCells w93 (Addr.add a101 ((x48).toNat * 1)) [(Value.int IntKind.i64 x94)] 0)) →
(k51 w102))))))))))))))) →
(k91 x94 w93)))) →
(k91 x88 w87)))) ∧
((b89 = false) →
(∀ k105 : (Int → (World → Prop)), ((∀ w107 : World, (∀ x108 : Int, (((Nat → Value) →
(∃ a111 : Addr, ((o5 = (some a111)) ∧
((((0 : Int) ≤ x14) ∧
(x14 < ((n6 : Nat) : Int))) ∧
(∃ o112 : Option Addr, (∃ n113 : Nat, (∃ n114 : Nat, (((w107.cell? (Addr.add a111 ((x14).toNat * 1))) = (some (Value.slice o112 n113 n114))) ∧
(∃ a115 : Addr, ((o112 = (some a115)) ∧
((((0 : Int) ≤ x48) ∧
(x48 < ((n113 : Nat) : Int))) ∧
((Nf.There w107 (Addr.add a115 ((x48).toNat * 1)) 1) ∧
(∀ w116 : World, ((w116 = (Nf.setCells w107 (Addr.add a115 ((x48).toNat * 1)) [(Value.int IntKind.i64 x108)] 0)) →
(k51 w116))))))))))))))) →
(k105 x108 w107)))) →
(∃ x118 : Int, (((w87.cell? (⟨(hs w47), 4, none⟩ : Addr)) = (some (Value.int IntKind.i64 x118))) ∧
(RunOk Try.prog (Nf.Hold (Instr.lookup 83 (Value.map (some (hs w))) (Value.int IntKind.i64 x118) true)) w87 (fun (v119 : Value) => (fun (w120 : World) => (∃ o121 : Option Addr, (∃ n122 : Nat, (∃ n123 : Nat, (∃ b124 : Bool, ((v119 = (Value.tuple #[(Value.slice o121 n122 n123), (Value.bool b124)])) ∧
(((b124 = true) →
(∀ k126 : (Option Addr → (Nat → (Nat → (World → Prop)))), ((∀ w128 : World, (∀ o129 : Option Addr, (∀ n130 : Nat, (∀ n131 : Nat, (((Nat → Value) →
(∃ o134 : Option Addr, (∃ n135 : Nat, (∃ n136 : Nat, (((w128.cell? (⟨(hs w12), 4, none⟩ : Addr)) = (some (Value.slice o134 n135 n136))) ∧
(Calls Try.prog 31 #[(Value.slice o129 n130 n131), (Value.slice o134 n135 n136)] w128 (fun (e137 : Ending) => (fun (w138 : World) => (∃ x139 : Int, ((e137 = (Ending.returned (Value.int IntKind.i64 x139))) ∧
(∃ x140 : Int, (((w138.cell? (⟨(hs w47), 4, none⟩ : Addr)) = (some (Value.int IntKind.i64 x140))) ∧
(RunOk Try.prog (Nf.Hold (Instr.mapUpdate 84 (Value.map o32) (Value.int IntKind.i64 x140) (Value.int IntKind.i64 x139))) w138 (fun (k141 : Unit) => (fun (w142 : World) => (k105 x139 w142)))))))))))))))) →
(k126 o129 n130 n131 w128)))))) →
(k126 o121 n122 n123 w120)))) ∧
((b124 = false) →
(∀ k144 : (Option Addr → (Nat → (Nat → (World → Prop)))), ((∀ w146 : World, (∀ o147 : Option Addr, (∀ n148 : Nat, (∀ n149 : Nat, (((Nat → Value) →
(∃ o152 : Option Addr, (∃ n153 : Nat, (∃ n154 : Nat, (((w146.cell? (⟨(hs w12), 4, none⟩ : Addr)) = (some (Value.slice o152 n153 n154))) ∧
(Calls Try.prog 31 #[(Value.slice o147 n148 n149), (Value.slice o152 n153 n154)] w146 (fun (e155 : Ending) => (fun (w156 : World) => (∃ x157 : Int, ((e155 = (Ending.returned (Value.int IntKind.i64 x157))) ∧
(∃ x158 : Int, (((w156.cell? (⟨(hs w47), 4, none⟩ : Addr)) = (some (Value.int IntKind.i64 x158))) ∧
(RunOk Try.prog (Nf.Hold (Instr.mapUpdate 84 (Value.map o32) (Value.int IntKind.i64 x158) (Value.int IntKind.i64 x157))) w156 (fun (k159 : Unit) => (fun (w160 : World) => (k105 x157 w160)))))))))))))))) →
(k144 o147 n148 n149 w146)))))) →
(∃ x161 : Int, (((w120.cell? (⟨(hs w47), 4, none⟩ : Addr)) = (some (Value.int IntKind.i64 x161))) ∧
(∀ w162 : World, ((w162 = (w120.alloc (Obj.cells #[(Value.int IntKind.i64 x161)] 3 (0, 0)))) →
(Calls Try.prog 30 #[(Value.pointer n), (Value.slice times times_n times_c), (Value.slice (some (⟨(hs w120), 0, none⟩ : Addr)) 1 1)] w162 (fun (e164 : Ending) => (fun (w165 : World) => (∃ o166 : Option Addr, (∃ n167 : Nat, (∃ n168 : Nat, ((e164 = (Ending.returned (Value.slice o166 n167 n168))) ∧
(∃ x169 : Int, (((w165.cell? (⟨(hs w47), 4, none⟩ : Addr)) = (some (Value.int IntKind.i64 x169))) ∧
(RunOk Try.prog (Nf.Hold (Instr.mapUpdate 83 (Value.map (some (hs w))) (Value.int IntKind.i64 x169) (Value.slice o166 n167 n168))) w165 (fun (k170 : Unit) => (fun (w171 : World) => (k144 o166 n167 n168 w171)))))))))))))))))))))))))))))))))))))))))))) ∧
((b83 = false) →
(k51 w82)))))))))))))))))))))))))))))))))))))))))))))))))))))))) ∧
(((decide (x48 < ((units_n : Nat) : Int))) = false) →
(∃ n174 : Nat, ((n174 < n10) ∧
(k8 n174 o32 (IntKind.wrap IntKind.i64 (x14 + 1)) w47)))))))))))))))))))))))))) →
(k29 o32 w31)))) →
(∀ w175 : World, ((w175 = w27.drew) →
((((decide (x14 = 0)) = true) →
(∀ w178 : World, ((w178 = (w175.alloc (Obj.map #[] 0))) →
(k29 (some (hs w175)) w178)))) ∧
(((decide (x14 = 0)) = false) →
(∃ o181 : Option Addr, (∃ n182 : Nat, (∃ n183 : Nat, (((w175.cell? (⟨(hs w12), 4, none⟩ : Addr)) = (some (Value.slice o181 n182 n183))) ∧
(∃ a184 : Addr, ((slots = (some a184)) ∧
((((0 : Int) ≤ (IntKind.wrap IntKind.i64 (x14 - 1))) ∧
((IntKind.wrap IntKind.i64 (x14 - 1)) < ((slots_n : Nat) : Int))) ∧
(∃ o185 : Option Addr, (∃ n186 : Nat, (∃ n187 : Nat, (((w175.cell? (Addr.add (Addr.add a184 (((IntKind.wrap IntKind.i64 (x14 - 1))).toNat * 5)) 4)) = (some (Value.slice o185 n186 n187))) ∧
(Calls Try.prog 28 #[(Value.slice o181 n182 n183), (Value.slice o185 n186 n187)] w175 (fun (e188 : Ending) => (fun (w189 : World) => (∃ b190 : Bool, ((e188 = (Ending.returned (Value.bool b190))) ∧
(((b190 = true) →
(k29 o13 w189)) ∧
((b190 = false) →
(∀ w193 : World, ((w193 = (w189.alloc (Obj.map #[] 0))) →
(k29 (some (hs w189)) w193)))))))))))))))))))))))))))))))))))))))))))))))) ∧
(((decide (x14 < ((slots_n : Nat) : Int))) = false) →
(R (Ending.returned (Value.slice o5 n6 n7)) w12))))))))))))))))))))) :
    Calls Try.prog 12 #[(.pointer n), (.slice times times_n times_c), (.slice slots slots_n slots_c), (.slice units units_n units_c)] w R :=
  calls_of_vc an12 Try.func12 rfl (by kernel_rfl) (by kernel_rfl) (Eq.mp (by kernel_rfl) h)

/-- samaritan/dispatch.candidates -/
def an22 : An := (.seq (.reg []) (.seq (.reg []) (.seq (.reg []) (.seq (.seq (.reg []) (.blk (.loop [(11, .slice), (28, .int .i64)] (.seq (.reg [(0, 0, true)]) (.seq (.cond .nil .nil) (.cut [(11, .slice)] (.blk (.seq (.reg []) (.seq (.reg []) (.blk (.loop [(11, .slice), (33, .int .i64)] (.seq (.reg [(0, 0, true)]) (.seq (.cond .nil .nil) (.seq (.blk (.seq (.reg []) (.seq (.reg [(7, 0, true)]) (.cond (.seq (.reg [(3, 1, false)]) .nil) .nil)))) (.reg []))))))))) (.reg []))))))) (.seq (.reg []) (.seq (.reg []) (.seq (.seq (.reg []) (.blk (.loop [(14, .slice), (54, .int .i64)] (.seq (.reg [(0, 0, true)]) (.seq (.cond .nil .nil) (.seq (.blk (.seq (.reg []) (.reg [(6, 1, false)]))) (.reg []))))))) (.seq (.reg [(2, 1, false)]) (.seq (.seq (.reg []) (.blk (.loop [(71, .int .i64)] (.seq (.reg [(0, 0, true)]) (.seq (.cond .nil .nil) (.seq (.blk (.seq (.reg []) (.seq (.reg []) (.blk (.loop [(76, .int .i64)] (.seq (.reg [(0, 0, true)]) (.seq (.cond .nil .nil) (.seq (.blk (.seq (.reg []) (.regD [(14, 1, false)] [0, 1, 2, 3, 4, 5, 6, 7, 8, 9, 10, 11, 12, 13, 14, 15, 16] [13, 14, 16]))) (.reg []))))))))) (.reg []))))))) (.seq (.reg []) .nil))))))))))
set_option maxRecDepth 100000 in
theorem nf22 (n : Option Addr) (times : Option Addr) (times_n : Nat) (times_c : Nat) (slots : Option Addr) (slots_n : Nat) (slots_c : Nat) (units : Option Addr) (units_n : Nat) (units_c : Nat) (w : World) (R : Ending → World → Prop) (h :
(Calls Try.prog 12 #[(Value.pointer n), (Value.slice times times_n times_c), (Value.slice slots slots_n slots_c), (Value.slice units units_n units_c)] w (fun (e1 : Ending) => (fun (w2 : World) => (∃ o3 : Option Addr, (∃ n4 : Nat, (∃ n5 : Nat, ((e1 = (Ending.returned (Value.slice o3 n4 n5))) ∧
(∃ k6 : (Nat → (Option Addr → (Nat → (Nat → (Int → (World → Prop)))))), ((∃ n7 : Nat, (k6 n7 none 0 0 0 w2)) ∧
(∀ n8 : Nat, ((Nat → Value) →
(∀ w10 : World, (∀ o11 : Option Addr, (∀ n12 : Nat, (∀ n13 : Nat, (∀ x14 : Int, ((k6 n8 o11 n12 n13 x14 w10) →
((((decide (x14 < ((units_n : Nat) : Int))) = true) →
(∀ k17 : (Option Addr → (Nat → (Nat → (World → Prop)))), ((∀ w19 : World, (∀ o20 : Option Addr, (∀ n21 : Nat, (∀ n22 : Nat, (((Nat → Value) →
(∃ n25 : Nat, ((n25 < n8) ∧
(k6 n25 o20 n21 n22 (IntKind.wrap IntKind.i64 (x14 + 1)) w19)))) →
(k17 o20 n21 n22 w19)))))) →
(∃ k26 : (Nat → (Option Addr → (Nat → (Nat → (Int → (World → Prop)))))), ((∃ n27 : Nat, (k26 n27 o11 n12 n13 0 w10)) ∧
(∀ n28 : Nat, ((Nat → Value) →
(∀ w30 : World, (∀ o31 : Option Addr, (∀ n32 : Nat, (∀ n33 : Nat, (∀ x34 : Int, ((k26 n28 o31 n32 n33 x34 w30) →
((((decide (x34 < ((slots_n : Nat) : Int))) = true) →
(∃ a37 : Addr, ((o3 = (some a37)) ∧
((((0 : Int) ≤ x34) ∧
(x34 < ((n4 : Nat) : Int))) ∧
(∃ o38 : Option Addr, (∃ n39 : Nat, (∃ n40 : Nat, (((w30.cell? (Addr.add a37 ((x34).toNat * 1))) = (some (Value.slice o38 n39 n40))) ∧
(∃ a41 : Addr, ((o38 = (some a41)) ∧
((((0 : Int) ≤ x14) ∧
(x14 < ((n39 : Nat) : Int))) ∧
(∃ x42 : Int, (((w30.cell? (Addr.add a41 ((x14).toNat * 1))) = (some (Value.int IntKind.i64 x42))) ∧
((((!(decide (x42 = 4611686018427387904))) = true) →
(∀ w44 : World, ((w44 = (w30.alloc (Obj.cells #[(Value.int IntKind.i64 x14)] 3 (0, 0)))) →
(RunOk Try.prog (Nf.Hold (Builtin.append_ #[31, 31] 31 #[(Value.slice o31 n32 n33), (Value.slice (some (⟨(hs w30), 0, none⟩ : Addr)) 1 1)])) w44 (fun (v46 : Value) => (fun (w47 : World) => (∃ o48 : Option Addr, (∃ n49 : Nat, (∃ n50 : Nat, ((v46 = (Value.slice o48 n49 n50)) ∧
(k17 o48 n49 n50 w47))))))))))) ∧
(((!(decide (x42 = 4611686018427387904))) = false) →
(∃ n52 : Nat, ((n52 < n28) ∧
(k26 n52 o31 n32 n33 (IntKind.wrap IntKind.i64 (x34 + 1)) w30)))))))))))))))))) ∧
(((decide (x34 < ((slots_n : Nat) : Int))) = false) →
(k17 o31 n32 n33 w30)))))))))))))))) ∧
(((decide (x14 < ((units_n : Nat) : Int))) = false) →
(Calls Try.prog 42 #[(Value.slice o11 n12 n13)] w10 (fun (e55 : Ending) => (fun (w56 : World) => (∃ o57 : Option Addr, (∃ n58 : Nat, (∃ n59 : Nat, ((e55 = (Ending.returned (Value.slice o57 n58 n59))) ∧
(∃ k60 : (Nat → (Option Addr → (Nat → (Nat → (Int → (World → Prop)))))), ((∃ n61 : Nat, (k60 n61 none 0 0 0 w56)) ∧
(∀ n62 : Nat, ((Nat → Value) →
(∀ w64 : World, (∀ o65 : Option Addr, (∀ n66 : Nat, (∀ n67 : Nat, (∀ x68 : Int, ((k60 n62 o65 n66 n67 x68 w64) →
((((decide (x68 < ((n58 : Nat) : Int))) = true) →
(∃ a71 : Addr, ((o57 = (some a71)) ∧
((((0 : Int) ≤ x68) ∧
(x68 < ((n58 : Nat) : Int))) ∧
(∃ x72 : Int, (((w64.cell? (Addr.add a71 ((x68).toNat * 1))) = (some (Value.int IntKind.i64 x72))) ∧
(∃ a73 : Addr, ((units = (some a73)) ∧
((((0 : Int) ≤ x72) ∧
(x72 < ((units_n : Nat) : Int))) ∧
(∃ x74 : Int, (((w64.cell? (Addr.add a73 ((x72).toNat * 10))) = (some (Value.int IntKind.i64 x74))) ∧
(∃ x75 : Int, (((w64.cell? (Addr.add (Addr.add a73 ((x72).toNat * 10)) 1)) = (some (Value.int IntKind.i64 x75))) ∧
(∃ x76 : Int, (((w64.cell? (Addr.add (Addr.add a73 ((x72).toNat * 10)) 2)) = (some (Value.int IntKind.i64 x76))) ∧
(∃ x77 : Int, (((w64.cell? (Addr.add (Addr.add a73 ((x72).toNat * 10)) 3)) = (some (Value.int IntKind.i64 x77))) ∧
(∃ x78 : Int, (((w64.cell? (Addr.add (Addr.add a73 ((x72).toNat * 10)) 4)) = (some (Value.int IntKind.i64 x78))) ∧
(∃ x79 : Int, (((w64.cell? (Addr.add (Addr.add a73 ((x72).toNat * 10)) 5)) = (some (Value.int IntKind.i64 x79))) ∧
(∃ x80 : Int, (((w64.cell? (Addr.add (Addr.add a73 ((x72).toNat * 10)) 6)) = (some (Value.int IntKind.i64 x80))) ∧
(∃ x81 : Int, (((w64.cell? (Addr.add (Addr.add a73 ((x72).toNat * 10)) 7)) = (some (Value.int IntKind.i64 x81))) ∧
(∃ x82 : Int, (((w64.cell? (Addr.add (Addr.add a73 ((x72).toNat * 10)) 8)) = (some (Value.int IntKind.i64 x82))) ∧
(∃ x83 : Int, (((w64.cell? (Addr.add (Addr.add a73 ((x72).toNat * 10)) 9)) = (some (Value.int IntKind.i64 x83))) ∧
(∀ w84 : World, ((w84 = (w64.alloc (Obj.cells #[(Value.int IntKind.i64 x74), (Value.int IntKind.i64 x75), (Value.int IntKind.i64 x76), (Value.int IntKind.i64 x77), (Value.int IntKind.i64 x78), (Value.int IntKind.i64 x79), (Value.int IntKind.i64 x80), (Value.int IntKind.i64 x81), (Value.int IntKind.i64 x82), (Value.int IntKind.i64 x83)] 29 (0, 0)))) →
(RunOk Try.prog (Nf.Hold (Builtin.append_ #[24, 24] 24 #[(Value.slice o65 n66 n67), (Value.slice (some (⟨(hs w64), 0, none⟩ : Addr)) 1 1)])) w84 (fun (v86 : Value) => (fun (w87 : World) => (∃ o88 : Option Addr, (∃ n89 : Nat, (∃ n90 : Nat, ((v86 = (Value.slice o88 n89 n90)) ∧
(∃ n91 : Nat, ((n91 < n62) ∧
(k60 n91 o88 n89 n90 (IntKind.wrap IntKind.i64 (x68 + 1)) w87))))))))))))))))))))))))))))))))))))))))) ∧
(((decide (x68 < ((n58 : Nat) : Int))) = false) →
(RunOk Try.prog (Nf.Hold (Instr.makeSlice 48 (Value.int IntKind.i64 ((slots_n : Nat) : Int)) (Value.int IntKind.i64 ((slots_n : Nat) : Int)))) w64 (fun (v93 : Value) => (fun (w94 : World) => (∃ o95 : Option Addr, (∃ n96 : Nat, (∃ n97 : Nat, ((v93 = (Value.slice o95 n96 n97)) ∧
(∃ k98 : (Nat → (Int → (World → Prop))), ((∃ n99 : Nat, (k98 n99 0 w94)) ∧
(∀ n100 : Nat, ((Nat → Value) →
(∀ w102 : World, (∀ x103 : Int, ((k98 n100 x103 w102) →
((((decide (x103 < ((slots_n : Nat) : Int))) = true) →
(∃ k106 : (Nat → (Int → (World → Prop))), ((∃ n107 : Nat, (k106 n107 0 w102)) ∧
(∀ n108 : Nat, ((Nat → Value) →
(∀ w110 : World, (∀ x111 : Int, ((k106 n108 x111 w110) →
((((decide (x111 < ((n58 : Nat) : Int))) = true) →
(∃ a114 : Addr, ((o57 = (some a114)) ∧
((((0 : Int) ≤ x111) ∧
(x111 < ((n58 : Nat) : Int))) ∧
(∃ x115 : Int, (((w110.cell? (Addr.add a114 ((x111).toNat * 1))) = (some (Value.int IntKind.i64 x115))) ∧
(∀ w116 : World, ((w116 = w110.drew) →
(∃ a118 : Addr, ((o95 = (some a118)) ∧
((((0 : Int) ≤ x103) ∧
(x103 < ((n96 : Nat) : Int))) ∧
(∃ o119 : Option Addr, (∃ n120 : Nat, (∃ n121 : Nat, (((w116.cell? (Addr.add a118 ((x103).toNat * 1))) = (some (Value.slice o119 n120 n121))) ∧
(∃ a122 : Addr, ((o3 = (some a122)) ∧
((((0 : Int) ≤ x103) ∧
(x103 < ((n4 : Nat) : Int))) ∧
(∃ o123 : Option Addr, (∃ n124 : Nat, (∃ n125 : Nat, (((w116.cell? (Addr.add a122 ((x103).toNat * 1))) = (some (Value.slice o123 n124 n125))) ∧
(∃ a126 : Addr, ((o123 = (some a126)) ∧
((((0 : Int) ≤ x115) ∧
(x115 < ((n124 : Nat) : Int))) ∧
(∃ x127 : Int, (((w116.cell? (Addr.add a126 ((x115).toNat * 1))) = (some (Value.int IntKind.i64 x127))) ∧
(∀ w128 : World, ((w128 = (w116.alloc (Obj.cells #[(Value.int IntKind.i64 x127)] 2 (0, 0)))) →
((Nf.Kept w116 w128 (Addr.add a118 ((x103).toNat * 1)) 1) ∧
(RunOk Try.prog (Nf.Hold (Builtin.append_ #[32, 32] 32 #[(Value.slice o119 n120 n121), (Value.slice (some (⟨(hs w116), 0, none⟩ : Addr)) 1 1)])) w128 (fun (v130 : Value) => (fun (w131 : World) => (∃ o132 : Option Addr, (∃ n133 : Nat, (∃ n134 : Nat, ((v130 = (Value.slice o132 n133 n134)) ∧
(∃ a135 : Addr, ((o95 = (some a135)) ∧
((((0 : Int) ≤ x103) ∧
(x103 < ((n96 : Nat) : Int))) ∧
((Nf.There w131 (Addr.add a135 ((x103).toNat * 1)) 1) ∧
(∀ w136 : World, ((w136 = (Nf.setCells w131 (Addr.add a135 ((x103).toNat * 1)) [(Value.slice o132 n133 n134)] 0)) →
(∃ n138 : Nat, ((n138 < n108) ∧
(k106 n138 (IntKind.wrap IntKind.i64 (x111 + 1)) w136)))))))))))))))))))))))))))))))))))))))))))))) ∧
(((decide (x111 < ((n58 : Nat) : Int))) = false) →
(∃ n140 : Nat, ((n140 < n100) ∧
(k98 n140 (IntKind.wrap IntKind.i64 (x103 + 1)) w110))))))))))))) ∧
(((decide (x103 < ((slots_n : Nat) : Int))) = false) →
(R (Ending.returned (Value.tuple #[(Value.slice o65 n66 n67), (Value.slice o95 n96 n97)])) w102)))))))))))))))))))))))))))))))))))))))))))))))))))))))) :
    Calls Try.prog 22 #[(.pointer n), (.slice times times_n times_c), (.slice slots slots_n slots_c), (.slice units units_n units_c)] w R :=
  calls_of_vc an22 Try.func22 rfl (by kernel_rfl) (by kernel_rfl) (Eq.mp (by kernel_rfl) h)

/-- samaritan/shortestpath.search -/
def an50 : An := (.seq (.reg []) (.seq (.reg [(2, 1, false)]) (.seq (.seq (.reg []) (.blk (.loop [(26, .int .i64)] (.seq (.reg [(0, 0, true)]) (.seq (.cond .nil .nil) (.seq (.blk (.seq (.reg []) (.reg []))) (.reg []))))))) (.seq (.reg []) (.seq (.seq (.reg []) (.blk (.loop [(35, .int .i64)] (.seq (.reg [(0, 0, true)]) (.seq (.cond .nil .nil) (.seq (.blk (.seq (.reg []) (.seq (.reg [(2, 0, true), (8, 0, true)]) (.cond (.seq (.reg []) (.reg [])) .nil)))) (.reg []))))))) (.seq (.reg []) (.cut [(14, .fn)] (.seq (.reg [(0, 0, true)]) (.cond (.reg []) .nil)) (.seq (.blk (.loop [] (.seq (.seq (.reg [(2, 0, true)]) (.cond .nil .nil)) (.blk (.seq (.reg []) (.seq (.seq (.regD [(5, 0, true)] [0, 1, 2, 3, 4, 5] []) (.cond .nil .nil)) (.seq (.reg [(2, 1, false)]) (.blk .nil)))))))) (.seq (.reg []) .nil)))))))))
set_option maxRecDepth 100000 in
theorem nf50 (n : Nat) (weights : Option Addr) (weights_n : Nat) (weights_c : Nat) (ends : Option Addr) (ends_n : Nat) (ends_c : Nat) (forward : Bool) (w : World) (R : Ending → World → Prop) (h :
(∀ w1 : World, ((w1 = (w.alloc (Obj.cells #[(Value.pointer (some (⟨n, 0, none⟩ : Addr)))] 35 (0, 0)))) →
(∀ w3 : World, ((w3 = (w1.alloc (Obj.cells #[(Value.slice weights weights_n weights_c)] 32 (0, 0)))) →
(∀ w5 : World, ((w5 = (w3.alloc (Obj.cells #[(Value.bool forward)] 4 (0, 0)))) →
(∃ o7 : Option Addr, (((w5.cell? (⟨(hs w), 0, none⟩ : Addr)) = (some (Value.pointer o7))) ∧
(Calls Try.prog 63 #[(Value.pointer o7)] w5 (fun (e8 : Ending) => (fun (w9 : World) => (∃ x10 : Int, ((e8 = (Ending.returned (Value.int IntKind.i64 x10))) ∧
(RunOk Try.prog (Nf.Hold (Instr.makeSlice 32 (Value.int IntKind.i64 x10) (Value.int IntKind.i64 x10))) w9 (fun (v11 : Value) => (fun (w12 : World) => (∃ o13 : Option Addr, (∃ n14 : Nat, (∃ n15 : Nat, ((v11 = (Value.slice o13 n14 n15)) ∧
(∀ w16 : World, ((w16 = (w12.alloc (Obj.cells #[(Value.slice none 0 0)] 32 (0, 0)))) →
((Nf.There w16 (⟨(hs w12), 0, none⟩ : Addr) 1) ∧
(∀ w18 : World, ((w18 = (Nf.setCells w16 (⟨(hs w12), 0, none⟩ : Addr) [(Value.slice o13 n14 n15)] 0)) →
(∃ o20 : Option Addr, (∃ n21 : Nat, (∃ n22 : Nat, (((w18.cell? (⟨(hs w12), 0, none⟩ : Addr)) = (some (Value.slice o20 n21 n22))) ∧
(∃ k23 : (Nat → (Int → (World → Prop))), ((∃ n24 : Nat, (k23 n24 0 w18)) ∧
(∀ n25 : Nat, ((Nat → Value) →
(∀ w27 : World, (∀ x28 : Int, ((k23 n25 x28 w27) →
((((decide (x28 < ((n21 : Nat) : Int))) = true) →
(∃ o31 : Option Addr, (∃ n32 : Nat, (∃ n33 : Nat, (((w27.cell? (⟨(hs w12), 0, none⟩ : Addr)) = (some (Value.slice o31 n32 n33))) ∧
(∃ a34 : Addr, ((o31 = (some a34)) ∧
((((0 : Int) ≤ x28) ∧
(x28 < ((n32 : Nat) : Int))) ∧
((Nf.There w27 (Addr.add a34 ((x28).toNat * 1)) 1) ∧
(∀ w35 : World, ((w35 = (Nf.setCells w27 (Addr.add a34 ((x28).toNat * 1)) [(Value.int IntKind.i64 4611686018427387904)] 0)) →
(∃ n37 : Nat, ((n37 < n25) ∧
(k23 n37 (IntKind.wrap IntKind.i64 (x28 + 1)) w35)))))))))))))) ∧
(((decide (x28 < ((n21 : Nat) : Int))) = false) →
(∀ w39 : World, ((w39 = (w27.alloc (Obj.cells #[(Value.slice none 0 0)] 128 (0, 0)))) →
(∃ k41 : (Nat → (Int → (World → Prop))), ((∃ n42 : Nat, (k41 n42 0 w39)) ∧
(∀ n43 : Nat, ((Nat → Value) →
(∀ w45 : World, (∀ x46 : Int, ((k41 n43 x46 w45) →
((((decide (x46 < ((ends_n : Nat) : Int))) = true) →
(∃ a49 : Addr, ((ends = (some a49)) ∧
((((0 : Int) ≤ x46) ∧
(x46 < ((ends_n : Nat) : Int))) ∧
(∃ x50 : Int, (((w45.cell? (Addr.add a49 ((x46).toNat * 1))) = (some (Value.int IntKind.i64 x50))) ∧
(∃ o51 : Option Addr, (((w45.cell? (⟨(hs w), 0, none⟩ : Addr)) = (some (Value.pointer o51))) ∧
(Calls Try.prog 64 #[(Value.pointer o51), (Value.int IntKind.i64 x50)] w45 (fun (e52 : Ending) => (fun (w53 : World) => (∃ b54 : Bool, ((e52 = (Ending.returned (Value.bool b54))) ∧
(((b54 = true) →
(∃ o56 : Option Addr, (∃ n57 : Nat, (∃ n58 : Nat, (((w53.cell? (⟨(hs w12), 0, none⟩ : Addr)) = (some (Value.slice o56 n57 n58))) ∧
(∃ a59 : Addr, ((o56 = (some a59)) ∧
((((0 : Int) ≤ x50) ∧
(x50 < ((n57 : Nat) : Int))) ∧
(∃ x60 : Int, (((w53.cell? (Addr.add a59 ((x50).toNat * 1))) = (some (Value.int IntKind.i64 x60))) ∧
((((!(decide (x60 = 0))) = true) →
(∃ o62 : Option Addr, (∃ n63 : Nat, (∃ n64 : Nat, (((w53.cell? (⟨(hs w12), 0, none⟩ : Addr)) = (some (Value.slice o62 n63 n64))) ∧
(∃ a65 : Addr, ((o62 = (some a65)) ∧
((((0 : Int) ≤ x50) ∧
(x50 < ((n63 : Nat) : Int))) ∧
((Nf.There w53 (Addr.add a65 ((x50).toNat * 1)) 1) ∧
(∀ w66 : World, ((w66 = (Nf.setCells w53 (Addr.add a65 ((x50).toNat * 1)) [(Value.int IntKind.i64 0)] 0)) →
(Calls Try.prog 65 #[(Value.pointer (some (⟨(hs w27), 0, none⟩ : Addr))), (Value.int IntKind.i64 0), (Value.int IntKind.i64 x50)] w66 (fun (e68 : Ending) => (fun (w69 : World) => ((e68 = (Ending.returned (Value.tuple #[]))) ∧
(∃ n70 : Nat, ((n70 < n43) ∧
(k41 n70 (IntKind.wrap IntKind.i64 (x46 + 1)) w69)))))))))))))))))) ∧
(((!(decide (x60 = 0))) = false) →
(∃ n72 : Nat, ((n72 < n43) ∧
(k41 n72 (IntKind.wrap IntKind.i64 (x46 + 1)) w53))))))))))))))) ∧
((b54 = false) →
(∃ n74 : Nat, ((n74 < n43) ∧
(k41 n74 (IntKind.wrap IntKind.i64 (x46 + 1)) w53)))))))))))))))))) ∧
(((decide (x46 < ((ends_n : Nat) : Int))) = false) →
(∃ o76 : Option Addr, (((w45.cell? (⟨(hs w), 0, none⟩ : Addr)) = (some (Value.pointer o76))) ∧
(∀ k77 : (Fn → (Array Value → (Array Value → (World → Prop)))), ((∀ w79 : World, (∀ f80 : Fn, (∀ a81 : Array Value, (∀ a82 : Array Value, (((Nat → Value) →
(∃ k85 : (Nat → (World → Prop)), ((∃ n86 : Nat, (k85 n86 w79)) ∧
(∀ n87 : Nat, ((Nat → Value) →
(∀ w89 : World, ((k85 n87 w89) →
(∃ o91 : Option Addr, (∃ n92 : Nat, (∃ n93 : Nat, (((w89.cell? (⟨(hs w27), 0, none⟩ : Addr)) = (some (Value.slice o91 n92 n93))) ∧
((((decide (((n92 : Nat) : Int) > 0)) = true) →
(Calls Try.prog 68 #[(Value.pointer (some (⟨(hs w27), 0, none⟩ : Addr)))] w89 (fun (e95 : Ending) => (fun (w96 : World) => (∃ x97 : Int, (∃ x98 : Int, ((e95 = (Ending.returned (Value.tuple #[(Value.int IntKind.i64 x97), (Value.int IntKind.i64 x98)]))) ∧
(∀ w99 : World, ((w99 = (w96.alloc (Obj.cells #[(Value.int IntKind.i64 0)] 2 (0, 0)))) →
((Nf.There w99 (⟨(hs w96), 0, none⟩ : Addr) 1) ∧
(∀ w101 : World, ((w101 = (Nf.setCells w99 (⟨(hs w96), 0, none⟩ : Addr) [(Value.int IntKind.i64 x97)] 0)) →
(∀ w103 : World, ((w103 = w101.drew) →
(∃ x105 : Int, (((w103.cell? (⟨(hs w96), 0, none⟩ : Addr)) = (some (Value.int IntKind.i64 x105))) ∧
(∃ o106 : Option Addr, (∃ n107 : Nat, (∃ n108 : Nat, (((w103.cell? (⟨(hs w12), 0, none⟩ : Addr)) = (some (Value.slice o106 n107 n108))) ∧
(∃ a109 : Addr, ((o106 = (some a109)) ∧
((((0 : Int) ≤ x98) ∧
(x98 < ((n107 : Nat) : Int))) ∧
(∃ x110 : Int, (((w103.cell? (Addr.add a109 ((x98).toNat * 1))) = (some (Value.int IntKind.i64 x110))) ∧
((((decide (x105 > x110)) = true) →
(∃ n112 : Nat, ((n112 < n87) ∧
(k85 n112 w103)))) ∧
(((decide (x105 > x110)) = false) →
(CallsV Try.prog (Value.func f80 a81 a82) [(Value.int IntKind.i64 x98)] w103 (fun (e114 : Ending) => (fun (w115 : World) => (∃ f116 : Fn, (∃ a117 : Array Value, (∃ a118 : Array Value, ((e114 = (Ending.returned (Value.func f116 a117 a118))) ∧
 False)))))))))))))))))))))))))))))))))) ∧
(((decide (((n92 : Nat) : Int) > 0)) = false) →
(∃ o120 : Option Addr, (∃ n121 : Nat, (∃ n122 : Nat, (((w89.cell? (⟨(hs w12), 0, none⟩ : Addr)) = (some (Value.slice o120 n121 n122))) ∧
(R (Ending.returned (Value.slice o120 n121 n122)) w89)))))))))))))))))) →
(k77 f80 a81 a82 w79)))))) →
(∃ b123 : Bool, (((w45.cell? (⟨(hs w3), 0, none⟩ : Addr)) = (some (Value.bool b123))) ∧
(((b123 = true) →
(∃ o125 : Option Addr, (((w45.cell? (⟨(hs w), 0, none⟩ : Addr)) = (some (Value.pointer o125))) ∧
(k77 (Fn.func 67) #[(Value.pointer o125)] #[] w45)))) ∧
((b123 = false) →
(k77 (Fn.func 66) #[(Value.pointer o76)] #[] w45))))))))))))))))))))))))))))))))))))))))))))))))))))))))))) :
    Calls Try.prog 50 #[(.pointer (some ⟨n, 0, none⟩)), (.slice weights weights_n weights_c), (.slice ends ends_n ends_c), (.bool forward)] w R :=
  calls_of_vc an50 Try.func50 rfl (by kernel_rfl) (by kernel_rfl) (Eq.mp (by kernel_rfl) h)

/-- samaritan/samaritantop.TopRule -/
def an3 : An := (.seq (.reg []) (.seq (.seq (.reg [(0, 0, true)]) (.cond (.seq (.reg []) .nil) .nil)) (.seq (.seq (.reg [(1, 0, true), (6, 0, true), (11, 0, true)]) (.cond (.seq (.reg []) .nil) .nil)) (.seq (.reg []) (.seq (.seq (.reg []) (.blk (.loop [(58, .int .i64)] (.seq (.reg [(0, 0, true)]) (.seq (.cond .nil .nil) (.seq (.blk (.seq (.reg []) (.seq (.seq (.reg [(3, 1, true), (7, 0, true), (12, 0, true)]) (.cond (.seq (.reg []) .nil) .nil)) (.reg [(3, 1, false)])))) (.reg []))))))) (.seq (.reg []) (.seq (.seq (.reg []) (.blk (.loop [(83, .int .i64)] (.seq (.reg [(0, 0, true)]) (.seq (.cond .nil .nil) (.seq (.blk (.seq (.reg []) (.seq (.seq (.reg [(3, 0, true), (8, 0, true), (14, 1, true)]) (.cond (.seq (.reg []) .nil) .nil)) (.reg [(3, 1, false)])))) (.reg []))))))) (.seq (.reg []) (.seq (.seq (.reg [(1, 0, true), (4, 3, true)]) (.cond (.seq (.reg [(2, 0, true)]) .nil) .nil)) (.seq (.reg []) (.seq (.reg []) (.seq (.seq (.reg [(6, 0, true)]) (.cond (.seq (.reg []) .nil) .nil)) (.seq (.reg []) (.seq (.seq (.reg []) (.blk (.loop [(17, .slice), (139, .int .i64)] (.seq (.reg [(0, 0, true)]) (.seq (.cond .nil .nil) (.cut [(17, .slice)] (.blk (.seq (.reg []) (.seq (.reg [(2, 0, true)]) (.cond (.reg [(3, 1, false)]) .nil)))) (.reg []))))))) (.seq (.reg []) (.seq (.reg []) (.seq (.reg [(2, 1, false)]) (.seq (.reg [(2, 1, false)]) (.seq (.reg []) (.seq (.seq (.reg []) (.blk (.loop [(23, .slice), (24, .int .i64), (166, .int .i64)] (.seq (.reg [(0, 0, true)]) (.seq (.cond .nil .nil) (.cut [(23, .slice), (24, .int .i64)] (.blk (.seq (.reg []) (.seq (.reg []) (.seq (.seq (.regD [(2, 0, true), (10, 0, true)] [0, 1, 2, 3, 4, 5, 6, 7, 8, 9, 10, 11] []) (.cond .nil .nil)) (.seq (.seq (.reg []) (.blk (.loop [(188, .int .i64)] (.seq (.reg [(0, 0, true)]) (.seq (.cond .nil .nil) (.cut [] (.blk (.seq (.reg []) (.seq (.regD [(6, 0, true)] [0, 1, 2, 3, 4, 5, 6] []) (.cond (.reg []) .nil)))) (.reg []))))))) (.seq (.reg []) (.reg [(1, 2, false)]))))))) (.reg []))))))) (.seq (.reg []) (.seq (.reg []) (.seq (.reg []) (.seq (.seq (.reg [(1, 0, true), (4, 0, true), (8, 0, true), (13, 0, true), (18, 0, true)]) (.cond (.seq (.reg []) .nil) .nil)) (.seq (.reg []) (.seq (.seq (.reg []) (.blk (.loop [(37, .int .i64), (255, .int .i64)] (.seq (.reg [(0, 0, true)]) (.seq (.cond .nil .nil) (.cut [(37, .int .i64)] (.blk (.seq (.reg []) (.seq (.reg [(1, 0, true)]) (.cond (.reg []) .nil)))) (.reg []))))))) (.seq (.reg [(2, 0, true)]) .nil)))))))))))))))))))))))))))
set_option maxRecDepth 100000 in
theorem nf3 (l : Option Addr) (l_n : Nat) (l_c : Nat) (incidents : Option Addr) (incidents_n : Nat) (incidents_c : Nat) (units : Option Addr) (units_n : Nat) (units_c : Nat) (w : World) (R : Ending → World → Prop) (h :
(Calls Try.prog 4 #[] w (fun (e1 : Ending) => (fun (w2 : World) => (∃ b3 : Bool, ((e1 = (Ending.returned (Value.bool b3))) ∧
(((b3 = true) →
(Calls Try.prog 5 #[(Value.slice l l_n l_c)] w2 (fun (e5 : Ending) => (fun (w6 : World) => (∃ b7 : Bool, ((e5 = (Ending.returned (Value.bool b7))) ∧
(((b7 = true) →
((((decide (((incidents_n : Nat) : Int) > 5)) = true) →
(R (Ending.returned (Value.bool true)) w6)) ∧
(((decide (((incidents_n : Nat) : Int) > 5)) = false) →
((((decide (((units_n : Nat) : Int) > 6)) = true) →
(R (Ending.returned (Value.bool true)) w6)) ∧
(((decide (((units_n : Nat) : Int) > 6)) = false) →
(∀ w13 : World, ((w13 = (w6.alloc (Obj.map #[] 0))) →
(∃ k15 : (Nat → (Int → (World → Prop))), ((∃ n16 : Nat, (k15 n16 0 w13)) ∧
(∀ n17 : Nat, ((Nat → Value) →
(∀ w19 : World, (∀ x20 : Int, ((k15 n17 x20 w19) →
((((decide (x20 < ((units_n : Nat) : Int))) = true) →
(∃ a23 : Addr, ((units = (some a23)) ∧
((((0 : Int) ≤ x20) ∧
(x20 < ((units_n : Nat) : Int))) ∧
(∃ x24 : Int, (((w19.cell? (Addr.add a23 ((x20).toNat * 10))) = (some (Value.int IntKind.i64 x24))) ∧
(∃ x25 : Int, (((w19.cell? (Addr.add (Addr.add a23 ((x20).toNat * 10)) 1)) = (some (Value.int IntKind.i64 x25))) ∧
(∃ x26 : Int, (((w19.cell? (Addr.add (Addr.add a23 ((x20).toNat * 10)) 2)) = (some (Value.int IntKind.i64 x26))) ∧
(∃ x27 : Int, (((w19.cell? (Addr.add (Addr.add a23 ((x20).toNat * 10)) 3)) = (some (Value.int IntKind.i64 x27))) ∧
(∃ x28 : Int, (((w19.cell? (Addr.add (Addr.add a23 ((x20).toNat * 10)) 4)) = (some (Value.int IntKind.i64 x28))) ∧
(∃ x29 : Int, (((w19.cell? (Addr.add (Addr.add a23 ((x20).toNat * 10)) 5)) = (some (Value.int IntKind.i64 x29))) ∧
(∃ x30 : Int, (((w19.cell? (Addr.add (Addr.add a23 ((x20).toNat * 10)) 6)) = (some (Value.int IntKind.i64 x30))) ∧
(∃ x31 : Int, (((w19.cell? (Addr.add (Addr.add a23 ((x20).toNat * 10)) 7)) = (some (Value.int IntKind.i64 x31))) ∧
(∃ x32 : Int, (((w19.cell? (Addr.add (Addr.add a23 ((x20).toNat * 10)) 8)) = (some (Value.int IntKind.i64 x32))) ∧
(∃ x33 : Int, (((w19.cell? (Addr.add (Addr.add a23 ((x20).toNat * 10)) 9)) = (some (Value.int IntKind.i64 x33))) ∧
(∀ w34 : World, ((w34 = (w19.alloc (Obj.cells #[(Value.int IntKind.i64 0), (Value.int IntKind.i64 0), (Value.int IntKind.i64 0), (Value.int IntKind.i64 0), (Value.int IntKind.i64 0), (Value.int IntKind.i64 0), (Value.int IntKind.i64 0), (Value.int IntKind.i64 0), (Value.int IntKind.i64 0), (Value.int IntKind.i64 0)] 29 (0, 0)))) →
((Nf.There w34 (⟨(hs w19), 0, none⟩ : Addr) 10) ∧
(∀ w36 : World, ((w36 = (Nf.setCells w34 (⟨(hs w19), 0, none⟩ : Addr) [(Value.int IntKind.i64 x24), (Value.int IntKind.i64 x25), (Value.int IntKind.i64 x26), (Value.int IntKind.i64 x27), (Value.int IntKind.i64 x28), (Value.int IntKind.i64 x29), (Value.int IntKind.i64 x30), (Value.int IntKind.i64 x31), (Value.int IntKind.i64 x32), (Value.int IntKind.i64 x33)] 0)) →
(∃ x38 : Int, (((w36.cell? (⟨(hs w19), 0, none⟩ : Addr)) = (some (Value.int IntKind.i64 x38))) ∧
(RunOk Try.prog (Nf.Hold (Instr.lookup 27 (Value.map (some (hs w6))) (Value.int IntKind.i64 x38) false)) w36 (fun (v39 : Value) => (fun (w40 : World) => (∃ b41 : Bool, ((v39 = (Value.bool b41)) ∧
(((b41 = true) →
(R (Ending.returned (Value.bool true)) w40)) ∧
((b41 = false) →
(∃ x44 : Int, (((w40.cell? (⟨(hs w19), 0, none⟩ : Addr)) = (some (Value.int IntKind.i64 x44))) ∧
((((decide (x44 < 0)) = true) →
(R (Ending.returned (Value.bool true)) w40)) ∧
(((decide (x44 < 0)) = false) →
(∃ x47 : Int, (((w40.cell? (⟨(hs w19), 0, none⟩ : Addr)) = (some (Value.int IntKind.i64 x47))) ∧
((((decide (x47 > 255)) = true) →
(R (Ending.returned (Value.bool true)) w40)) ∧
(((decide (x47 > 255)) = false) →
(∃ x50 : Int, (((w40.cell? (⟨(hs w19), 0, none⟩ : Addr)) = (some (Value.int IntKind.i64 x50))) ∧
(RunOk Try.prog (Nf.Hold (Instr.mapUpdate 27 (Value.map (some (hs w6))) (Value.int IntKind.i64 x50) (Value.bool true))) w40 (fun (k51 : Unit) => (fun (w52 : World) => (∃ n53 : Nat, ((n53 < n17) ∧
(k15 n53 (IntKind.wrap IntKind.i64 (x20 + 1)) w52)))))))))))))))))))))))))))))))))))))))))))))))))))))) ∧
(((decide (x20 < ((units_n : Nat) : Int))) = false) →
(∀ w55 : World, ((w55 = (w19.alloc (Obj.map #[] 0))) →
(∃ k57 : (Nat → (Int → (World → Prop))), ((∃ n58 : Nat, (k57 n58 0 w55)) ∧
(∀ n59 : Nat, ((Nat → Value) →
(∀ w61 : World, (∀ x62 : Int, ((k57 n59 x62 w61) →
((((decide (x62 < ((incidents_n : Nat) : Int))) = true) →
(∃ a65 : Addr, ((incidents = (some a65)) ∧
((((0 : Int) ≤ x62) ∧
(x62 < ((incidents_n : Nat) : Int))) ∧
(∃ x66 : Int, (((w61.cell? (Addr.add a65 ((x62).toNat * 10))) = (some (Value.int IntKind.i64 x66))) ∧
(∃ x67 : Int, (((w61.cell? (Addr.add (Addr.add a65 ((x62).toNat * 10)) 1)) = (some (Value.int IntKind.i64 x67))) ∧
(∃ s68 : ByteArray, (((w61.cell? (Addr.add (Addr.add a65 ((x62).toNat * 10)) 2)) = (some (Value.string s68))) ∧
(∃ o69 : Option Addr, (∃ n70 : Nat, (∃ n71 : Nat, (((w61.cell? (Addr.add (Addr.add a65 ((x62).toNat * 10)) 3)) = (some (Value.slice o69 n70 n71))) ∧
(∃ x72 : Int, (((w61.cell? (Addr.add (Addr.add a65 ((x62).toNat * 10)) 4)) = (some (Value.int IntKind.i64 x72))) ∧
(∃ x73 : Int, (((w61.cell? (Addr.add (Addr.add a65 ((x62).toNat * 10)) 5)) = (some (Value.int IntKind.i64 x73))) ∧
(∃ o74 : Option Addr, (∃ n75 : Nat, (∃ n76 : Nat, (((w61.cell? (Addr.add (Addr.add a65 ((x62).toNat * 10)) 6)) = (some (Value.slice o74 n75 n76))) ∧
(∃ o77 : Option Addr, (∃ n78 : Nat, (∃ n79 : Nat, (((w61.cell? (Addr.add (Addr.add a65 ((x62).toNat * 10)) 7)) = (some (Value.slice o77 n78 n79))) ∧
(∃ x80 : Int, (((w61.cell? (Addr.add (Addr.add a65 ((x62).toNat * 10)) 8)) = (some (Value.int IntKind.i64 x80))) ∧
(∃ b81 : Bool, (((w61.cell? (Addr.add (Addr.add a65 ((x62).toNat * 10)) 9)) = (some (Value.bool b81))) ∧
(∀ w82 : World, ((w82 = (w61.alloc (Obj.cells #[(Value.int IntKind.i64 0), (Value.int IntKind.i64 0), (Value.string (ByteArray.mk #[])), (Value.slice none 0 0), (Value.int IntKind.i64 0), (Value.int IntKind.i64 0), (Value.slice none 0 0), (Value.slice none 0 0), (Value.int IntKind.i64 0), (Value.bool false)] 34 (0, 0)))) →
((Nf.There w82 (⟨(hs w61), 0, none⟩ : Addr) 10) ∧
(∀ w84 : World, ((w84 = (Nf.setCells w82 (⟨(hs w61), 0, none⟩ : Addr) [(Value.int IntKind.i64 x66), (Value.int IntKind.i64 x67), (Value.string s68), (Value.slice o69 n70 n71), (Value.int IntKind.i64 x72), (Value.int IntKind.i64 x73), (Value.slice o74 n75 n76), (Value.slice o77 n78 n79), (Value.int IntKind.i64 x80), (Value.bool b81)] 0)) →
(∃ o86 : Option Addr, (∃ n87 : Nat, (∃ n88 : Nat, (((w84.cell? (⟨(hs w61), 3, none⟩ : Addr)) = (some (Value.slice o86 n87 n88))) ∧
((((decide (((n87 : Nat) : Int) > 8)) = true) →
(R (Ending.returned (Value.bool true)) w84)) ∧
(((decide (((n87 : Nat) : Int) > 8)) = false) →
(∃ s91 : ByteArray, (((w84.cell? (⟨(hs w61), 2, none⟩ : Addr)) = (some (Value.string s91))) ∧
((((decide ((((ByteArray.size s91) : Nat) : Int) > 60)) = true) →
(R (Ending.returned (Value.bool true)) w84)) ∧
(((decide ((((ByteArray.size s91) : Nat) : Int) > 60)) = false) →
(∃ x94 : Int, (((w84.cell? (⟨(hs w61), 0, none⟩ : Addr)) = (some (Value.int IntKind.i64 x94))) ∧
(RunOk Try.prog (Nf.Hold (Instr.lookup 30 (Value.map (some (hs w19))) (Value.int IntKind.i64 x94) false)) w84 (fun (v95 : Value) => (fun (w96 : World) => (∃ b97 : Bool, ((v95 = (Value.bool b97)) ∧
(((b97 = true) →
(R (Ending.returned (Value.bool true)) w96)) ∧
((b97 = false) →
(∃ x100 : Int, (((w96.cell? (⟨(hs w61), 0, none⟩ : Addr)) = (some (Value.int IntKind.i64 x100))) ∧
(RunOk Try.prog (Nf.Hold (Instr.mapUpdate 30 (Value.map (some (hs w19))) (Value.int IntKind.i64 x100) (Value.bool true))) w96 (fun (k101 : Unit) => (fun (w102 : World) => (∃ n103 : Nat, ((n103 < n59) ∧
(k57 n103 (IntKind.wrap IntKind.i64 (x62 + 1)) w102)))))))))))))))))))))))))))))))))))))))))))))))))))))))))))))) ∧
(((decide (x62 < ((incidents_n : Nat) : Int))) = false) →
(Calls Try.prog 6 #[(Value.int IntKind.i64 8), (Value.slice l l_n l_c)] w61 (fun (e105 : Ending) => (fun (w106 : World) => (∃ o107 : Option Addr, (∃ x108 : Int, ((e105 = (Ending.returned (Value.tuple #[(Value.pointer o107), (Value.int IntKind.i64 x108)]))) ∧
((((!(decide (x108 = 0))) = true) →
((((decide (((l_n : Nat) : Int) > 0)) = true) →
(R (Ending.returned (Value.bool true)) w106)) ∧
(((decide (((l_n : Nat) : Int) > 0)) = false) →
(R (Ending.returned (Value.bool false)) w106)))) ∧
(((!(decide (x108 = 0))) = false) →
((((Option.isNone o107) = true) →
((((decide (((l_n : Nat) : Int) > 0)) = true) →
(R (Ending.returned (Value.bool true)) w106)) ∧
(((decide (((l_n : Nat) : Int) > 0)) = false) →
(R (Ending.returned (Value.bool false)) w106)))) ∧
(((Option.isNone o107) = false) →
(Calls Try.prog 7 #[(Value.pointer o107)] w106 (fun (e117 : Ending) => (fun (w118 : World) => (∃ o119 : Option Addr, (∃ n120 : Nat, (∃ n121 : Nat, ((e117 = (Ending.returned (Value.slice o119 n120 n121))) ∧
(Calls Try.prog 8 #[(Value.pointer o107), (Value.slice o119 n120 n121), (Value.slice incidents incidents_n incidents_c), (Value.slice units units_n units_c), (Value.slice none 0 0), (Value.int IntKind.i64 0)] w118 (fun (e122 : Ending) => (fun (w123 : World) => (∃ o124 : Option Addr, (∃ n125 : Nat, (∃ n126 : Nat, ((e122 = (Ending.returned (Value.slice o124 n125 n126))) ∧
(Calls Try.prog 9 #[(Value.pointer o107), (Value.slice o119 n120 n121), (Value.slice incidents incidents_n incidents_c), (Value.slice units units_n units_c), (Value.slice none 0 0), (Value.int IntKind.i64 0), (Value.slice o124 n125 n126)] w123 (fun (e127 : Ending) => (fun (w128 : World) => (∃ x129 : Int, ((e127 = (Ending.returned (Value.int IntKind.i64 x129))) ∧
((((!(decide (x129 = (-1)))) = true) →
(R (Ending.returned (Value.bool false)) w128)) ∧
(((!(decide (x129 = (-1)))) = false) →
(Calls Try.prog 10 #[(Value.slice incidents incidents_n incidents_c), (Value.slice units units_n units_c), (Value.slice none 0 0)] w128 (fun (e132 : Ending) => (fun (w133 : World) => (∃ o134 : Option Addr, (∃ n135 : Nat, (∃ n136 : Nat, ((e132 = (Ending.returned (Value.slice o134 n135 n136))) ∧
(∃ k137 : (Nat → (Option Addr → (Nat → (Nat → (Int → (World → Prop)))))), ((∃ n138 : Nat, (k137 n138 none 0 0 0 w133)) ∧
(∀ n139 : Nat, ((Nat → Value) →
(∀ w141 : World, (∀ o142 : Option Addr, (∀ n143 : Nat, (∀ n144 : Nat, (∀ x145 : Int, ((k137 n139 o142 n143 n144 x145 w141) →
((((decide (x145 < ((n135 : Nat) : Int))) = true) →
(∀ k148 : (Option Addr → (Nat → (Nat → (World → Prop)))), ((∀ w150 : World, (∀ o151 : Option Addr, (∀ n152 : Nat, (∀ n153 : Nat, (((Nat → Value) →
(∃ n156 : Nat, ((n156 < n139) ∧
(k137 n156 o151 n152 n153 (IntKind.wrap IntKind.i64 (x145 + 1)) w150)))) →
(k148 o151 n152 n153 w150)))))) →
(∃ a157 : Addr, ((o134 = (some a157)) ∧
((((0 : Int) ≤ x145) ∧
(x145 < ((n135 : Nat) : Int))) ∧
(∃ x158 : Int, (((w141.cell? (Addr.add a157 ((x145).toNat * 5))) = (some (Value.int IntKind.i64 x158))) ∧
(∃ x159 : Int, (((w141.cell? (Addr.add (Addr.add a157 ((x145).toNat * 5)) 1)) = (some (Value.int IntKind.i64 x159))) ∧
(∃ x160 : Int, (((w141.cell? (Addr.add (Addr.add a157 ((x145).toNat * 5)) 2)) = (some (Value.int IntKind.i64 x160))) ∧
(∃ x161 : Int, (((w141.cell? (Addr.add (Addr.add a157 ((x145).toNat * 5)) 3)) = (some (Value.int IntKind.i64 x161))) ∧
(∃ o162 : Option Addr, (∃ n163 : Nat, (∃ n164 : Nat, (((w141.cell? (Addr.add (Addr.add a157 ((x145).toNat * 5)) 4)) = (some (Value.slice o162 n163 n164))) ∧
(∀ w165 : World, ((w165 = (w141.alloc (Obj.cells #[(Value.int IntKind.i64 0), (Value.int IntKind.i64 0), (Value.int IntKind.i64 0), (Value.int IntKind.i64 0), (Value.slice none 0 0)] 46 (0, 0)))) →
((Nf.There w165 (⟨(hs w141), 0, none⟩ : Addr) 5) ∧
(∀ w167 : World, ((w167 = (Nf.setCells w165 (⟨(hs w141), 0, none⟩ : Addr) [(Value.int IntKind.i64 x158), (Value.int IntKind.i64 x159), (Value.int IntKind.i64 x160), (Value.int IntKind.i64 x161), (Value.slice o162 n163 n164)] 0)) →
(∃ x169 : Int, (((w167.cell? (⟨(hs w141), 1, none⟩ : Addr)) = (some (Value.int IntKind.i64 x169))) ∧
((((decide (x169 = 1)) = true) →
(∃ x171 : Int, (((w167.cell? (⟨(hs w141), 0, none⟩ : Addr)) = (some (Value.int IntKind.i64 x171))) ∧
(∃ x172 : Int, (((w167.cell? (⟨(hs w141), 1, none⟩ : Addr)) = (some (Value.int IntKind.i64 x172))) ∧
(∃ x173 : Int, (((w167.cell? (⟨(hs w141), 2, none⟩ : Addr)) = (some (Value.int IntKind.i64 x173))) ∧
(∃ x174 : Int, (((w167.cell? (⟨(hs w141), 3, none⟩ : Addr)) = (some (Value.int IntKind.i64 x174))) ∧
(∃ o175 : Option Addr, (∃ n176 : Nat, (∃ n177 : Nat, (((w167.cell? (⟨(hs w141), 4, none⟩ : Addr)) = (some (Value.slice o175 n176 n177))) ∧
(∀ w178 : World, ((w178 = (w167.alloc (Obj.cells #[(Value.int IntKind.i64 x171), (Value.int IntKind.i64 x172), (Value.int IntKind.i64 x173), (Value.int IntKind.i64 x174), (Value.slice o175 n176 n177)] 46 (0, 0)))) →
(RunOk Try.prog (Nf.Hold (Builtin.append_ #[43, 43] 43 #[(Value.slice o142 n143 n144), (Value.slice (some (⟨(hs w167), 0, none⟩ : Addr)) 1 1)])) w178 (fun (v180 : Value) => (fun (w181 : World) => (∃ o182 : Option Addr, (∃ n183 : Nat, (∃ n184 : Nat, ((v180 = (Value.slice o182 n183 n184)) ∧
(k148 o182 n183 n184 w181))))))))))))))))))))))) ∧
(((decide (x169 = 1)) = false) →
(k148 o142 n143 n144 w167)))))))))))))))))))))))))))) ∧
(((decide (x145 < ((n135 : Nat) : Int))) = false) →
(Calls Try.prog 11 #[(Value.slice units units_n units_c), (Value.int IntKind.i64 1), (Value.int IntKind.i64 0)] w141 (fun (e187 : Ending) => (fun (w188 : World) => (∃ o189 : Option Addr, (∃ n190 : Nat, (∃ n191 : Nat, ((e187 = (Ending.returned (Value.slice o189 n190 n191))) ∧
(Calls Try.prog 12 #[(Value.pointer o107), (Value.slice o119 n120 n121), (Value.slice o142 n143 n144), (Value.slice o189 n190 n191)] w188 (fun (e192 : Ending) => (fun (w193 : World) => (∃ o194 : Option Addr, (∃ n195 : Nat, (∃ n196 : Nat, ((e192 = (Ending.returned (Value.slice o194 n195 n196))) ∧
(RunOk Try.prog (Nf.Hold (Instr.makeSlice 31 (Value.int IntKind.i64 ((n143 : Nat) : Int)) (Value.int IntKind.i64 ((n143 : Nat) : Int)))) w193 (fun (v197 : Value) => (fun (w198 : World) => (∃ o199 : Option Addr, (∃ n200 : Nat, (∃ n201 : Nat, ((v197 = (Value.slice o199 n200 n201)) ∧
(∀ w202 : World, ((w202 = (w198.alloc (Obj.cells #[] 51 (0, 0)))) →
(RunOk Try.prog (Nf.Hold (Builtin.append_ #[40, 40] 40 #[(Value.slice (some (⟨(hs w198), 0, none⟩ : Addr)) 0 0), (Value.slice o124 n125 n126)])) w202 (fun (v204 : Value) => (fun (w205 : World) => (∃ o206 : Option Addr, (∃ n207 : Nat, (∃ n208 : Nat, ((v204 = (Value.slice o206 n207 n208)) ∧
(∃ k209 : (Nat → (Option Addr → (Nat → (Nat → (Int → (Int → (World → Prop))))))), ((∃ n210 : Nat, (k209 n210 o206 n207 n208 0 0 w205)) ∧
(∀ n211 : Nat, ((Nat → Value) →
(∀ w213 : World, (∀ o214 : Option Addr, (∀ n215 : Nat, (∀ n216 : Nat, (∀ x217 : Int, (∀ x218 : Int, ((k209 n211 o214 n215 n216 x217 x218 w213) →
((((decide (x218 < ((n143 : Nat) : Int))) = true) →
(∀ k221 : (Option Addr → (Nat → (Nat → (Int → (World → Prop))))), ((∀ w223 : World, (∀ o224 : Option Addr, (∀ n225 : Nat, (∀ n226 : Nat, (∀ x227 : Int, (((Nat → Value) →
(∃ n230 : Nat, ((n230 < n211) ∧
(k209 n230 o224 n225 n226 x227 (IntKind.wrap IntKind.i64 (x218 + 1)) w223)))) →
(k221 o224 n225 n226 x227 w223))))))) →
(∃ a231 : Addr, ((o142 = (some a231)) ∧
((((0 : Int) ≤ x218) ∧
(x218 < ((n143 : Nat) : Int))) ∧
(∃ x232 : Int, (((w213.cell? (Addr.add a231 ((x218).toNat * 5))) = (some (Value.int IntKind.i64 x232))) ∧
(∃ x233 : Int, (((w213.cell? (Addr.add (Addr.add a231 ((x218).toNat * 5)) 1)) = (some (Value.int IntKind.i64 x233))) ∧
(∃ x234 : Int, (((w213.cell? (Addr.add (Addr.add a231 ((x218).toNat * 5)) 2)) = (some (Value.int IntKind.i64 x234))) ∧
(∃ x235 : Int, (((w213.cell? (Addr.add (Addr.add a231 ((x218).toNat * 5)) 3)) = (some (Value.int IntKind.i64 x235))) ∧
(∃ o236 : Option Addr, (∃ n237 : Nat, (∃ n238 : Nat, (((w213.cell? (Addr.add (Addr.add a231 ((x218).toNat * 5)) 4)) = (some (Value.slice o236 n237 n238))) ∧
(∀ w239 : World, ((w239 = (w213.alloc (Obj.cells #[(Value.int IntKind.i64 0), (Value.int IntKind.i64 0), (Value.int IntKind.i64 0), (Value.int IntKind.i64 0), (Value.slice none 0 0)] 46 (0, 0)))) →
((Nf.There w239 (⟨(hs w213), 0, none⟩ : Addr) 5) ∧
(∀ w241 : World, ((w241 = (Nf.setCells w239 (⟨(hs w213), 0, none⟩ : Addr) [(Value.int IntKind.i64 x232), (Value.int IntKind.i64 x233), (Value.int IntKind.i64 x234), (Value.int IntKind.i64 x235), (Value.slice o236 n237 n238)] 0)) →
(∃ a243 : Addr, ((o199 = (some a243)) ∧
((((0 : Int) ≤ x218) ∧
(x218 < ((n200 : Nat) : Int))) ∧
((Nf.There w241 (Addr.add a243 ((x218).toNat * 1)) 1) ∧
(∀ w244 : World, ((w244 = (Nf.setCells w241 (Addr.add a243 ((x218).toNat * 1)) [(Value.int IntKind.i64 (-1))] 0)) →
(∀ w246 : World, ((w246 = w244.drew) →
((((decide (((n215 : Nat) : Int) = 0)) = true) →
(k221 o214 n215 n216 x217 w246)) ∧
(((decide (((n215 : Nat) : Int) = 0)) = false) →
(∃ a250 : Addr, ((o214 = (some a250)) ∧
((((0 : Int) ≤ 0) ∧
(0 < ((n215 : Nat) : Int))) ∧
(∃ x251 : Int, (((w246.cell? a250) = (some (Value.int IntKind.i64 x251))) ∧
(∃ x252 : Int, (((w246.cell? (⟨(hs w213), 0, none⟩ : Addr)) = (some (Value.int IntKind.i64 x252))) ∧
((((!(decide (x251 = x252))) = true) →
(k221 o214 n215 n216 x217 w246)) ∧
(((!(decide (x251 = x252))) = false) →
(∃ k255 : (Nat → (Int → (World → Prop))), ((∃ n256 : Nat, (k255 n256 0 w246)) ∧
(∀ n257 : Nat, ((Nat → Value) →
(∀ w259 : World, (∀ x260 : Int, ((k255 n257 x260 w259) →
((((decide (x260 < ((n190 : Nat) : Int))) = true) →
(∀ k263 : (World → Prop), ((∀ w265 : World, (((Nat → Value) →
(∃ n268 : Nat, ((n268 < n257) ∧
(k255 n268 (IntKind.wrap IntKind.i64 (x260 + 1)) w265)))) →
(k263 w265))) →
(∃ a269 : Addr, ((o189 = (some a269)) ∧
((((0 : Int) ≤ x260) ∧
(x260 < ((n190 : Nat) : Int))) ∧
(∃ x270 : Int, (((w259.cell? (Addr.add a269 ((x260).toNat * 10))) = (some (Value.int IntKind.i64 x270))) ∧
(∃ x271 : Int, (((w259.cell? (Addr.add (Addr.add a269 ((x260).toNat * 10)) 1)) = (some (Value.int IntKind.i64 x271))) ∧
(∃ x272 : Int, (((w259.cell? (Addr.add (Addr.add a269 ((x260).toNat * 10)) 2)) = (some (Value.int IntKind.i64 x272))) ∧
(∃ x273 : Int, (((w259.cell? (Addr.add (Addr.add a269 ((x260).toNat * 10)) 3)) = (some (Value.int IntKind.i64 x273))) ∧
(∃ x274 : Int, (((w259.cell? (Addr.add (Addr.add a269 ((x260).toNat * 10)) 4)) = (some (Value.int IntKind.i64 x274))) ∧
(∃ x275 : Int, (((w259.cell? (Addr.add (Addr.add a269 ((x260).toNat * 10)) 5)) = (some (Value.int IntKind.i64 x275))) ∧
(∃ x276 : Int, (((w259.cell? (Addr.add (Addr.add a269 ((x260).toNat * 10)) 6)) = (some (Value.int IntKind.i64 x276))) ∧
(∃ x277 : Int, (((w259.cell? (Addr.add (Addr.add a269 ((x260).toNat * 10)) 7)) = (some (Value.int IntKind.i64 x277))) ∧
(∃ x278 : Int, (((w259.cell? (Addr.add (Addr.add a269 ((x260).toNat * 10)) 8)) = (some (Value.int IntKind.i64 x278))) ∧
(∃ x279 : Int, (((w259.cell? (Addr.add (Addr.add a269 ((x260).toNat * 10)) 9)) = (some (Value.int IntKind.i64 x279))) ∧
(∀ w280 : World, ((w280 = (w259.alloc (Obj.cells #[(Value.int IntKind.i64 0), (Value.int IntKind.i64 0), (Value.int IntKind.i64 0), (Value.int IntKind.i64 0), (Value.int IntKind.i64 0), (Value.int IntKind.i64 0), (Value.int IntKind.i64 0), (Value.int IntKind.i64 0), (Value.int IntKind.i64 0), (Value.int IntKind.i64 0)] 29 (0, 0)))) →
((Nf.There w280 (⟨(hs w259), 0, none⟩ : Addr) 10) ∧
(∀ w282 : World, ((w282 = (Nf.setCells w280 (⟨(hs w259), 0, none⟩ : Addr) [(Value.int IntKind.i64 x270), (Value.int IntKind.i64 x271), (Value.int IntKind.i64 x272), (Value.int IntKind.i64 x273), (Value.int IntKind.i64 x274), (Value.int IntKind.i64 x275), (Value.int IntKind.i64 x276), (Value.int IntKind.i64 x277), (Value.int IntKind.i64 x278), (Value.int IntKind.i64 x279)] 0)) →
(∀ w284 : World, ((w284 = w282.drew) →
(∃ x286 : Int, (((w284.cell? (⟨(hs w259), 0, none⟩ : Addr)) = (some (Value.int IntKind.i64 x286))) ∧
(∃ a287 : Addr, ((o214 = (some a287)) ∧
((((0 : Int) ≤ 0) ∧
(0 < ((n215 : Nat) : Int))) ∧
(∃ x288 : Int, (((w284.cell? (Addr.add a287 2)) = (some (Value.int IntKind.i64 x288))) ∧
((((decide (x286 = x288)) = true) →
(∃ a290 : Addr, ((o199 = (some a290)) ∧
((((0 : Int) ≤ x218) ∧
(x218 < ((n200 : Nat) : Int))) ∧
((Nf.There w284 (Addr.add a290 ((x218).toNat * 1)) 1) ∧
(∀ w291 : World, ((w291 = (Nf.setCells w284 (Addr.add a290 ((x218).toNat * 1)) [(Value.int IntKind.i64 x260)] 0)) →
(k263 w291)))))))) ∧
(((decide (x286 = x288)) = false) →
(k263 w284))))))))))))))))))))))))))))))))))))))))))) ∧
(((decide (x260 < ((n190 : Nat) : Int))) = false) →
(∃ a295 : Addr, ((o214 = (some a295)) ∧
((((0 : Int) ≤ 0) ∧
(0 < ((n215 : Nat) : Int))) ∧
(∃ x296 : Int, (((w259.cell? (Addr.add a295 3)) = (some (Value.int IntKind.i64 x296))) ∧
((((0 : Int) ≤ 1) ∧
(1 ≤ ((n215 : Nat) : Int))) ∧
(k221 (if (n216 = ((1 : Int)).toNat) then o214 else (Option.map (fun (x : Addr) => (Addr.add x 4)) o214)) (n215 - 1) (n216 - 1) (IntKind.wrap IntKind.i64 (x217 + x296)) w259)))))))))))))))))))))))))))))))))))))))))))))))))))))))))) ∧
(((decide (x218 < ((n143 : Nat) : Int))) = false) →
(Calls Try.prog 13 #[(Value.slice o194 n195 n196), (Value.slice o199 n200 n201)] w213 (fun (e298 : Ending) => (fun (w299 : World) => (∃ x300 : Int, (∃ x301 : Int, (∃ x302 : Int, ((e298 = (Ending.returned (Value.tuple #[(Value.int IntKind.i64 x300), (Value.int IntKind.i64 x301), (Value.int IntKind.i64 x302)]))) ∧
(Calls Try.prog 14 #[(Value.slice o194 n195 n196)] w299 (fun (e303 : Ending) => (fun (w304 : World) => (∃ o305 : Option Addr, (∃ n306 : Nat, (∃ n307 : Nat, (∃ x308 : Int, (∃ x309 : Int, ((e303 = (Ending.returned (Value.tuple #[(Value.slice o305 n306 n307), (Value.int IntKind.i64 x308), (Value.int IntKind.i64 x309)]))) ∧
(Calls Try.prog 15 #[(Value.slice o194 n195 n196), (Value.slice o199 n200 n201)] w304 (fun (e310 : Ending) => (fun (w311 : World) => (∃ o312 : Option Addr, (∃ n313 : Nat, (∃ n314 : Nat, (∃ o315 : Option Addr, (∃ n316 : Nat, (∃ n317 : Nat, (∃ o318 : Option Addr, (∃ n319 : Nat, (∃ n320 : Nat, (∃ x321 : Int, ((e310 = (Ending.returned (Value.tuple #[(Value.agg #[(Value.slice o312 n313 n314), (Value.slice o315 n316 n317), (Value.slice o318 n319 n320)]), (Value.int IntKind.i64 x321)]))) ∧
(∀ w322 : World, ((w322 = (w311.alloc (Obj.cells #[(Value.slice none 0 0), (Value.slice none 0 0), (Value.slice none 0 0)] 57 (0, 0)))) →
((Nf.There w322 (⟨(hs w311), 0, none⟩ : Addr) 3) ∧
(∀ w324 : World, ((w324 = (Nf.setCells w322 (⟨(hs w311), 0, none⟩ : Addr) [(Value.slice o312 n313 n314), (Value.slice o315 n316 n317), (Value.slice o318 n319 n320)] 0)) →
((((!(decide (x302 = 0))) = true) →
(R (Ending.returned (Value.bool false)) w324)) ∧
(((!(decide (x302 = 0))) = false) →
((((!(decide (x309 = 0))) = true) →
(R (Ending.returned (Value.bool false)) w324)) ∧
(((!(decide (x309 = 0))) = false) →
((((!(decide (x321 = 0))) = true) →
(R (Ending.returned (Value.bool false)) w324)) ∧
(((!(decide (x321 = 0))) = false) →
((((!(decide (x301 = x217))) = true) →
(R (Ending.returned (Value.bool false)) w324)) ∧
(((!(decide (x301 = x217))) = false) →
((((!(decide (x301 = x308))) = true) →
(R (Ending.returned (Value.bool false)) w324)) ∧
(((!(decide (x301 = x308))) = false) →
(∃ k336 : (Nat → (Int → (Int → (World → Prop)))), ((∃ n337 : Nat, (k336 n337 0 0 w324)) ∧
(∀ n338 : Nat, ((Nat → Value) →
(∀ w340 : World, (∀ x341 : Int, (∀ x342 : Int, ((k336 n338 x341 x342 w340) →
((((decide (x342 < ((n200 : Nat) : Int))) = true) →
(∀ k345 : (Int → (World → Prop)), ((∀ w347 : World, (∀ x348 : Int, (((Nat → Value) →
(∃ n351 : Nat, ((n351 < n338) ∧
(k336 n351 x348 (IntKind.wrap IntKind.i64 (x342 + 1)) w347)))) →
(k345 x348 w347)))) →
(∃ a352 : Addr, ((o199 = (some a352)) ∧
((((0 : Int) ≤ x342) ∧
(x342 < ((n200 : Nat) : Int))) ∧
(∃ x353 : Int, (((w340.cell? (Addr.add a352 ((x342).toNat * 1))) = (some (Value.int IntKind.i64 x353))) ∧
((((decide (x353 ≥ 0)) = true) →
(k345 (IntKind.wrap IntKind.i64 (x341 + 1)) w340)) ∧
(((decide (x353 ≥ 0)) = false) →
(k345 x341 w340))))))))))) ∧
(((decide (x342 < ((n200 : Nat) : Int))) = false) →
((((decide (x300 = x341)) = true) →
(∃ o358 : Option Addr, (∃ n359 : Nat, (∃ n360 : Nat, (((w340.cell? (⟨(hs w311), 0, none⟩ : Addr)) = (some (Value.slice o358 n359 n360))) ∧
(∃ o361 : Option Addr, (∃ n362 : Nat, (∃ n363 : Nat, (((w340.cell? (⟨(hs w311), 1, none⟩ : Addr)) = (some (Value.slice o361 n362 n363))) ∧
(∃ o364 : Option Addr, (∃ n365 : Nat, (∃ n366 : Nat, (((w340.cell? (⟨(hs w311), 2, none⟩ : Addr)) = (some (Value.slice o364 n365 n366))) ∧
(Calls Try.prog 16 #[(Value.slice o194 n195 n196), (Value.slice o199 n200 n201), (Value.agg #[(Value.slice o358 n359 n360), (Value.slice o361 n362 n363), (Value.slice o364 n365 n366)])] w340 (fun (e367 : Ending) => (fun (w368 : World) => (∃ b369 : Bool, ((e367 = (Ending.returned (Value.bool b369))) ∧
(R (Ending.returned (Value.bool b369)) w368))))))))))))))))))) ∧
(((decide (x300 = x341)) = false) →
(R (Ending.returned (Value.bool false)) w340)))))))))))))))))))))))))))))))))))))))))))))))))))))))))))))))))))))))))))))))))))))))))))))))))))))))))))))))))))))))))))))))))))))))))))))))))))))))))))))))))))))))))))))))))) ∧
((b7 = false) →
(R (Ending.returned (Value.bool true)) w6))))))))) ∧
((b3 = false) →
(R (Ending.returned (Value.bool false)) w2))))))))) :
    Calls Try.prog 3 #[(.slice l l_n l_c), (.slice incidents incidents_n incidents_c), (.slice units units_n units_c)] w R :=
  calls_of_vc an3 Try.func3 rfl (by kernel_rfl) (by kernel_rfl) (Eq.mp (by kernel_rfl) h)

end Go.Proofs.Ytcaokpglbolkcaa
