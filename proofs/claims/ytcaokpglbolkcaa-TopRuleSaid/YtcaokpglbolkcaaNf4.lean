/- shortestpath.search (50) in stages: each as the proposition that it comes to (printed by wip/nf/gen_tf.py). -/
import Derived.Test.YtcaokpglbolkcaaNf2
import Derived.Test.YtcaokpglbolkcaaNfT
namespace Go.Proofs.Ytcaokpglbolkcaa
open Go Go.Nf

/-- a piece of code, by the way to it -/
def sub : List Nat → Code → Code
  | [], c => c
  | i :: l, .seq a b => sub l (bif Nat.beq i 0 then a else b)
  | _ :: l, .block _ a => sub l a
  | _ :: l, .loop a => sub l a
  | i :: l, .cond _ a b => sub l (bif Nat.beq i 0 then a else b)
  | i :: l, .rangeFunc _ _ a b => sub l (bif Nat.beq i 0 then a else b)
  | _, c => c
def at50 (b : Option Code) (l : List Nat) : Code := sub l (b.getD .skip)
def pA : List Nat := [1, 1, 1, 1, 1, 1, 1, 0, 0, 0, 0]
def pB : List Nat := [1, 1, 1, 1, 1, 1, 1, 0, 0, 0, 1, 0]
def pC : List Nat := [1, 1, 1, 1, 1, 1, 1, 0, 0, 0, 1, 0, 1, 1, 1, 0, 1]
def pS : List Nat := [1, 1, 1, 1, 1, 1, 1, 0, 0, 0, 1, 0, 1, 1, 1, 0, 0]
def pD : List Nat := [1, 1, 1, 1, 1, 1, 1, 1]
def an50P : An := (.seq (.reg []) (.seq (.reg [(2, 1, false)]) (.seq (.seq (.reg []) (.blk (.loop [(26, .int .i64)] (.seq (.reg [(0, 0, true)]) (.seq (.cond .nil .nil) (.seq (.blk (.seq (.reg []) (.reg []))) (.reg []))))))) (.seq (.reg []) (.seq (.seq (.reg []) (.blk (.loop [(35, .int .i64)] (.seq (.reg [(0, 0, true)]) (.seq (.cond .nil .nil) (.seq (.blk (.seq (.reg []) (.seq (.reg [(2, 0, true), (8, 0, true)]) (.cond (.seq (.reg []) (.reg [])) .nil)))) (.reg []))))))) (.seq (.reg []) (.seq (.seq (.reg [(0, 0, true)]) (.cond (.reg []) .nil)) .nil)))))))
def an50A : An := .seq (.reg [(2, 0, true)]) (.cond .nil .nil)
def an50B : An := .seq (.reg []) (.seq (.seq (.regD [(5, 0, true)] [0, 1, 2, 3, 4, 5] []) (.cond .nil .nil)) (.seq (.reg [(2, 1, false)]) .nil))
def an50C : An := .blk (.seq (.reg []) (.seq (.reg []) (.seq (.seq (.reg [(0, 0, true)]) (.cond (.reg []) .nil)) (.seq (.regD [(4, 0, true), (16, 0, true)] [0, 1, 2, 3, 4, 5, 6, 7, 8, 9, 10, 11, 12, 13, 14, 15, 16, 17] []) (.cond (.seq (.regD [] [0, 1, 2, 3, 4, 5, 6, 7, 8, 9] [9]) (.reg [])) .nil)))))
def an50D : An := .seq (.reg []) .nil
def L6 : List Nat := [4, 5, 7, 9, 11, 14]
set_option maxRecDepth 100000 in
theorem nf50P (n : Nat) (weights : Option Addr) (weights_n weights_c : Nat) (ends : Option Addr) (ends_n ends_c : Nat) (w : World) (K : List Value → World → Prop) (h :
(∀ w1 : World, ((w1 = (w.alloc (Obj.cells #[(Value.pointer (some (⟨n, 0, none⟩ : Addr)))] 35 (0, 0)))) →
(∀ w3 : World, ((w3 = (w1.alloc (Obj.cells #[(Value.slice weights weights_n weights_c)] 32 (0, 0)))) →
(∀ w5 : World, ((w5 = (w3.alloc (Obj.cells #[(Value.bool true)] 4 (0, 0)))) →
(∃ o7 : Option Addr, (((w5.cell? (⟨(hs w), 0, none⟩ : Addr)) = (some (Value.pointer o7))) ∧
(Calls Try.prog 63 #[(Value.pointer o7)] w5 (fun (e8 : Ending) => (fun (w9 : World) => (∃ x10 : Int, ((e8 = (Ending.returned (Value.int IntKind.i64 x10))) ∧
(RunOk Try.prog (Nf.Hold (Instr.makeSlice 32 (Value.int IntKind.i64 x10) (Value.int IntKind.i64 x10))) w9 (fun (v11 : Value) => (fun (w12 : World) => (∃ o13 : Option Addr, (∃ n14 : Nat, (∃ n15 : Nat, ((v11 = (Value.slice o13 n14 n15)) ∧
(∀ w16 : World, ((w16 = (w12.alloc (Obj.cells #[(Value.slice none 0 0)] 32 (0, 0)))) →
((Nf.There w16 (⟨(hs w12), 0, none⟩ : Addr) 1) ∧
(∀ w18 : World, ((w18 = (Nf.setCells w16 (⟨(hs w12), 0, none⟩ : Addr) [(Value.slice o13 n14 n15)] 0)) →
(∃ o20 : Option Addr, (∃ n21 : Nat, (∃ n22 : Nat, (((w18.cell? (⟨(hs w12), 0, none⟩ : Addr)) = (some (Value.slice o20 n21 n22))) ∧
(∃ k23 : (Nat → (Int → (World → Prop))), ((∃ n24 : Nat, (k23 n24 0 w18)) ∧
(∀ n25 : Nat, ((Nat → Value) →
(∀ w27 : World, (∀ x28 : Int, ((k23 n25 x28 w27) →
((((decide (x28 < ((n21 : Nat) : Int))) = true) →
(∃ o31 : Option Addr, (∃ n32 : Nat, (∃ n33 : Nat, (((w27.cell? (⟨(hs w12), 0, none⟩ : Addr)) = (some (Value.slice o31 n32 n33))) ∧
(∃ a34 : Addr, ((o31 = (some a34)) ∧
((((0 : Int) ≤ x28) ∧
(x28 < ((n32 : Nat) : Int))) ∧
((Nf.There w27 (Addr.add a34 ((x28).toNat * 1)) 1) ∧
(∀ w35 : World, ((w35 = (Nf.setCells w27 (Addr.add a34 ((x28).toNat * 1)) [(Value.int IntKind.i64 4611686018427387904)] 0)) →
(∃ n37 : Nat, ((n37 < n25) ∧
(k23 n37 (IntKind.wrap IntKind.i64 (x28 + 1)) w35)))))))))))))) ∧
(((decide (x28 < ((n21 : Nat) : Int))) = false) →
(∀ w39 : World, ((w39 = (w27.alloc (Obj.cells #[(Value.slice none 0 0)] 128 (0, 0)))) →
(∃ k41 : (Nat → (Int → (World → Prop))), ((∃ n42 : Nat, (k41 n42 0 w39)) ∧
(∀ n43 : Nat, ((Nat → Value) →
(∀ w45 : World, (∀ x46 : Int, ((k41 n43 x46 w45) →
((((decide (x46 < ((ends_n : Nat) : Int))) = true) →
(∃ a49 : Addr, ((ends = (some a49)) ∧
((((0 : Int) ≤ x46) ∧
(x46 < ((ends_n : Nat) : Int))) ∧
(∃ x50 : Int, (((w45.cell? (Addr.add a49 ((x46).toNat * 1))) = (some (Value.int IntKind.i64 x50))) ∧
(∃ o51 : Option Addr, (((w45.cell? (⟨(hs w), 0, none⟩ : Addr)) = (some (Value.pointer o51))) ∧
(Calls Try.prog 64 #[(Value.pointer o51), (Value.int IntKind.i64 x50)] w45 (fun (e52 : Ending) => (fun (w53 : World) => (∃ b54 : Bool, ((e52 = (Ending.returned (Value.bool b54))) ∧
(((b54 = true) →
(∃ o56 : Option Addr, (∃ n57 : Nat, (∃ n58 : Nat, (((w53.cell? (⟨(hs w12), 0, none⟩ : Addr)) = (some (Value.slice o56 n57 n58))) ∧
(∃ a59 : Addr, ((o56 = (some a59)) ∧
((((0 : Int) ≤ x50) ∧
(x50 < ((n57 : Nat) : Int))) ∧
(∃ x60 : Int, (((w53.cell? (Addr.add a59 ((x50).toNat * 1))) = (some (Value.int IntKind.i64 x60))) ∧
((((!(decide (x60 = 0))) = true) →
(∃ o62 : Option Addr, (∃ n63 : Nat, (∃ n64 : Nat, (((w53.cell? (⟨(hs w12), 0, none⟩ : Addr)) = (some (Value.slice o62 n63 n64))) ∧
(∃ a65 : Addr, ((o62 = (some a65)) ∧
((((0 : Int) ≤ x50) ∧
(x50 < ((n63 : Nat) : Int))) ∧
((Nf.There w53 (Addr.add a65 ((x50).toNat * 1)) 1) ∧
(∀ w66 : World, ((w66 = (Nf.setCells w53 (Addr.add a65 ((x50).toNat * 1)) [(Value.int IntKind.i64 0)] 0)) →
(Calls Try.prog 65 #[(Value.pointer (some (⟨(hs w27), 0, none⟩ : Addr))), (Value.int IntKind.i64 0), (Value.int IntKind.i64 x50)] w66 (fun (e68 : Ending) => (fun (w69 : World) => ((e68 = (Ending.returned (Value.tuple #[]))) ∧
(∃ n70 : Nat, ((n70 < n43) ∧
(k41 n70 (IntKind.wrap IntKind.i64 (x46 + 1)) w69)))))))))))))))))) ∧
(((!(decide (x60 = 0))) = false) →
(∃ n72 : Nat, ((n72 < n43) ∧
(k41 n72 (IntKind.wrap IntKind.i64 (x46 + 1)) w53))))))))))))))) ∧
((b54 = false) →
(∃ n74 : Nat, ((n74 < n43) ∧
(k41 n74 (IntKind.wrap IntKind.i64 (x46 + 1)) w53)))))))))))))))))) ∧
(((decide (x46 < ((ends_n : Nat) : Int))) = false) →
(∃ o76 : Option Addr, (((w45.cell? (⟨(hs w), 0, none⟩ : Addr)) = (some (Value.pointer o76))) ∧
(∃ b77 : Bool, (((w45.cell? (⟨(hs w3), 0, none⟩ : Addr)) = (some (Value.bool b77))) ∧
(((b77 = true) →
(∃ o79 : Option Addr, (((w45.cell? (⟨(hs w), 0, none⟩ : Addr)) = (some (Value.pointer o79))) ∧
(K [(Value.pointer (some (⟨(hs w), 0, none⟩ : Addr))), (Value.pointer (some (⟨(hs w1), 0, none⟩ : Addr))), (Value.pointer (some (⟨(hs w3), 0, none⟩ : Addr))), (Value.pointer (some (⟨(hs w12), 0, none⟩ : Addr))), (Value.pointer (some (⟨(hs w27), 0, none⟩ : Addr))), (Value.func (Fn.func 67) #[(Value.pointer o79)] #[])] w45)))) ∧
((b77 = false) →
(K [(Value.pointer (some (⟨(hs w), 0, none⟩ : Addr))), (Value.pointer (some (⟨(hs w1), 0, none⟩ : Addr))), (Value.pointer (some (⟨(hs w3), 0, none⟩ : Addr))), (Value.pointer (some (⟨(hs w12), 0, none⟩ : Addr))), (Value.pointer (some (⟨(hs w27), 0, none⟩ : Addr))), (Value.func (Fn.func 66) #[(Value.pointer o76)] #[])] w45))))))))))))))))))))))))))))))))))))))))))))))))))))))))) :
    vcN Try.prog (fun _ _ _ => False) 7 (at50 Try.f50.body []) an50P (argEnv #[.pointer (some ⟨n, 0, none⟩), .slice weights weights_n weights_c, .slice ends ends_n ends_c, .bool true]) w (fun ρ w => K (L6.map ρ) w) :=
  Eq.mp (by kernel_rfl) h
set_option maxRecDepth 100000 in
theorem nf50A (g : Env) (p4 p5 p7 p9 p11 q : Nat) (w : World) (K1 K2 : List Value → World → Prop) (h :
(∃ o1 : Option Addr, (∃ n2 : Nat, (∃ n3 : Nat, (((w.cell? (⟨p11, 0, none⟩ : Addr)) = (some (Value.slice o1 n2 n3))) ∧
((((decide (((n2 : Nat) : Int) > 0)) = true) →
(K1 [(Value.pointer (some (⟨p4, 0, none⟩ : Addr))), (Value.pointer (some (⟨p5, 0, none⟩ : Addr))), (Value.pointer (some (⟨p7, 0, none⟩ : Addr))), (Value.pointer (some (⟨p9, 0, none⟩ : Addr))), (Value.pointer (some (⟨p11, 0, none⟩ : Addr))), (Value.func (Fn.func 67) #[(Value.pointer (some (⟨q, 0, none⟩ : Addr)))] #[])] w)) ∧
(((decide (((n2 : Nat) : Int) > 0)) = false) →
(K2 [(Value.pointer (some (⟨p4, 0, none⟩ : Addr))), (Value.pointer (some (⟨p5, 0, none⟩ : Addr))), (Value.pointer (some (⟨p7, 0, none⟩ : Addr))), (Value.pointer (some (⟨p9, 0, none⟩ : Addr))), (Value.pointer (some (⟨p11, 0, none⟩ : Addr))), (Value.func (Fn.func 67) #[(Value.pointer (some (⟨q, 0, none⟩ : Addr)))] #[])] w)))))))) :
    vc Try.prog (at50 Try.f50.body pA) an50A (fun e ρ w => match e with | .normal => K1 (L6.map ρ) w | .exit i => bif Nat.beq i 4 then K2 (L6.map ρ) w else False | _ => False) (g.fill L6 [(.pointer (some ⟨p4, 0, none⟩)), (.pointer (some ⟨p5, 0, none⟩)), (.pointer (some ⟨p7, 0, none⟩)), (.pointer (some ⟨p9, 0, none⟩)), (.pointer (some ⟨p11, 0, none⟩)), (.func (.func 67) #[.pointer (some ⟨q, 0, none⟩)] #[])]) w :=
  Eq.mp (by kernel_rfl) h
set_option maxRecDepth 100000 in
theorem nf50B (g : Env) (p4 p5 p7 p9 p11 q : Nat) (w : World) (K1 K2 : List Value → World → Prop) (h :
(Calls Try.prog 68 #[(Value.pointer (some (⟨p11, 0, none⟩ : Addr)))] w (fun (e1 : Ending) => (fun (w2 : World) => (∃ x3 : Int, (∃ x4 : Int, ((e1 = (Ending.returned (Value.tuple #[(Value.int IntKind.i64 x3), (Value.int IntKind.i64 x4)]))) ∧
(∀ w5 : World, ((w5 = (w2.alloc (Obj.cells #[(Value.int IntKind.i64 0)] 2 (0, 0)))) →
((Nf.There w5 (⟨(hs w2), 0, none⟩ : Addr) 1) ∧
(∀ w7 : World, ((w7 = (Nf.setCells w5 (⟨(hs w2), 0, none⟩ : Addr) [(Value.int IntKind.i64 x3)] 0)) →
(∀ w9 : World, ((w9 = w7.drew) →
(∃ x11 : Int, (((w9.cell? (⟨(hs w2), 0, none⟩ : Addr)) = (some (Value.int IntKind.i64 x11))) ∧
(∃ o12 : Option Addr, (∃ n13 : Nat, (∃ n14 : Nat, (((w9.cell? (⟨p9, 0, none⟩ : Addr)) = (some (Value.slice o12 n13 n14))) ∧
(∃ a15 : Addr, ((o12 = (some a15)) ∧
((((0 : Int) ≤ x4) ∧
(x4 < ((n13 : Nat) : Int))) ∧
(∃ x16 : Int, (((w9.cell? (Addr.add a15 ((x4).toNat * 1))) = (some (Value.int IntKind.i64 x16))) ∧
((((decide (x11 > x16)) = true) →
(K2 [(Value.pointer (some (⟨p4, 0, none⟩ : Addr))), (Value.pointer (some (⟨p5, 0, none⟩ : Addr))), (Value.pointer (some (⟨p7, 0, none⟩ : Addr))), (Value.pointer (some (⟨p9, 0, none⟩ : Addr))), (Value.pointer (some (⟨p11, 0, none⟩ : Addr))), (Value.func (Fn.func 67) #[(Value.pointer (some (⟨q, 0, none⟩ : Addr)))] #[])] w9)) ∧
(((decide (x11 > x16)) = false) →
(CallsV Try.prog (Value.func (Fn.func 67) #[(Value.pointer (some (⟨q, 0, none⟩ : Addr)))] #[]) [(Value.int IntKind.i64 x4)] w9 (fun (e19 : Ending) => (fun (w20 : World) => (∃ f21 : Fn, (∃ a22 : Array Value, (∃ a23 : Array Value, ((e19 = (Ending.returned (Value.func f21 a22 a23))) ∧
(K1 [(Value.pointer (some (⟨p4, 0, none⟩ : Addr))), (Value.pointer (some (⟨p5, 0, none⟩ : Addr))), (Value.pointer (some (⟨p7, 0, none⟩ : Addr))), (Value.pointer (some (⟨p9, 0, none⟩ : Addr))), (Value.pointer (some (⟨p11, 0, none⟩ : Addr))), (Value.func (Fn.func 67) #[(Value.pointer (some (⟨q, 0, none⟩ : Addr)))] #[]), (Value.pointer (some (⟨(hs w2), 0, none⟩ : Addr))), (Value.int IntKind.i64 x4), (Value.func f21 a22 a23)] w20))))))))))))))))))))))))))))))))))) :
    vcN Try.prog (fun e ρ w => match e with | .exit i => bif Nat.beq i 5 then K2 (L6.map ρ) w else False | _ => False) 3 (at50 Try.f50.body pB) an50B (g.fill L6 [(.pointer (some ⟨p4, 0, none⟩)), (.pointer (some ⟨p5, 0, none⟩)), (.pointer (some ⟨p7, 0, none⟩)), (.pointer (some ⟨p9, 0, none⟩)), (.pointer (some ⟨p11, 0, none⟩)), (.func (.func 67) #[.pointer (some ⟨q, 0, none⟩)] #[])]) w (fun ρ w => K1 ([4, 5, 7, 9, 11, 14, 15, 16, 75].map ρ) w) :=
  Eq.mp (by kernel_rfl) h
set_option maxRecDepth 100000 in
theorem nf50S (g : Env) (p4 p5 p7 p9 p11 q : Nat) (p15 : Nat) (node : Int) (v : Value) (w : World) (K : List Value → World → Prop) (h :
(K [(Value.pointer (some (⟨p4, 0, none⟩ : Addr))), (Value.pointer (some (⟨p5, 0, none⟩ : Addr))), (Value.pointer (some (⟨p7, 0, none⟩ : Addr))), (Value.pointer (some (⟨p9, 0, none⟩ : Addr))), (Value.pointer (some (⟨p11, 0, none⟩ : Addr))), (Value.func (Fn.func 67) #[(Value.pointer (some (⟨q, 0, none⟩ : Addr)))] #[]), (Value.pointer (some (⟨p15, 0, none⟩ : Addr))), (Value.int IntKind.i64 node), v] w)) :
    vc Try.prog (at50 Try.f50.body pS) (.reg []) (fun e ρ w => match e with | .normal => K ([4, 5, 7, 9, 11, 14, 15, 16, 17].map ρ) w | _ => False) (g.fill [4, 5, 7, 9, 11, 14, 15, 16, 76] [(.pointer (some ⟨p4, 0, none⟩)), (.pointer (some ⟨p5, 0, none⟩)), (.pointer (some ⟨p7, 0, none⟩)), (.pointer (some ⟨p9, 0, none⟩)), (.pointer (some ⟨p11, 0, none⟩)), (.func (.func 67) #[.pointer (some ⟨q, 0, none⟩)] #[]), (.pointer (some ⟨p15, 0, none⟩)), (.int .i64 node), v]) w :=
  Eq.mp (by kernel_rfl) h
set_option maxRecDepth 100000 in
theorem nf50C (g : Env) (p4 p5 p7 p9 p11 q : Nat) (p15 : Nat) (node i : Int) (w : World) (K : World → Prop) (h :
(∃ o1 : Option Addr, (((w.cell? (⟨p4, 0, none⟩ : Addr)) = (some (Value.pointer o1))) ∧
(Calls Try.prog 69 #[(Value.pointer o1), (Value.int IntKind.i64 i)] w (fun (e2 : Ending) => (fun (w3 : World) => (∃ x4 : Int, (∃ x5 : Int, (∃ x6 : Int, (∃ b7 : Bool, ((e2 = (Ending.returned (Value.tuple #[(Value.agg #[(Value.int IntKind.i64 x4), (Value.int IntKind.i64 x5), (Value.int IntKind.i64 x6)]), (Value.bool b7)]))) ∧
(∀ w8 : World, ((w8 = (w3.alloc (Obj.cells #[(Value.int IntKind.i64 0), (Value.int IntKind.i64 0), (Value.int IntKind.i64 0)] 65 (0, 0)))) →
((Nf.There w8 (⟨(hs w3), 0, none⟩ : Addr) 3) ∧
(∀ w10 : World, ((w10 = (Nf.setCells w8 (⟨(hs w3), 0, none⟩ : Addr) [(Value.int IntKind.i64 x4), (Value.int IntKind.i64 x5), (Value.int IntKind.i64 x6)] 0)) →
(∃ x12 : Int, (((w10.cell? (⟨(hs w3), 0, none⟩ : Addr)) = (some (Value.int IntKind.i64 x12))) ∧
(∃ b13 : Bool, (((w10.cell? (⟨p7, 0, none⟩ : Addr)) = (some (Value.bool b13))) ∧
(((b13 = true) →
(∃ x15 : Int, (((w10.cell? (⟨(hs w3), 1, none⟩ : Addr)) = (some (Value.int IntKind.i64 x15))) ∧
(∀ w16 : World, ((w16 = w10.drew) →
(∃ o18 : Option Addr, (∃ n19 : Nat, (∃ n20 : Nat, (((w16.cell? (⟨p5, 0, none⟩ : Addr)) = (some (Value.slice o18 n19 n20))) ∧
(∃ a21 : Addr, ((o18 = (some a21)) ∧
((((0 : Int) ≤ i) ∧
(i < ((n19 : Nat) : Int))) ∧
(∃ x22 : Int, (((w16.cell? (Addr.add a21 ((i).toNat * 1))) = (some (Value.int IntKind.i64 x22))) ∧
((((!(decide (x22 = 4611686018427387904))) = true) →
(∃ x24 : Int, (((w16.cell? (⟨p15, 0, none⟩ : Addr)) = (some (Value.int IntKind.i64 x24))) ∧
(∃ o25 : Option Addr, (∃ n26 : Nat, (∃ n27 : Nat, (((w16.cell? (⟨p5, 0, none⟩ : Addr)) = (some (Value.slice o25 n26 n27))) ∧
(∃ a28 : Addr, ((o25 = (some a28)) ∧
((((0 : Int) ≤ i) ∧
(i < ((n26 : Nat) : Int))) ∧
(∃ x29 : Int, (((w16.cell? (Addr.add a28 ((i).toNat * 1))) = (some (Value.int IntKind.i64 x29))) ∧
(∃ o30 : Option Addr, (∃ n31 : Nat, (∃ n32 : Nat, (((w16.cell? (⟨p9, 0, none⟩ : Addr)) = (some (Value.slice o30 n31 n32))) ∧
(∃ a33 : Addr, ((o30 = (some a33)) ∧
((((0 : Int) ≤ x15) ∧
(x15 < ((n31 : Nat) : Int))) ∧
(∃ x34 : Int, (((w16.cell? (Addr.add a33 ((x15).toNat * 1))) = (some (Value.int IntKind.i64 x34))) ∧
((((decide ((IntKind.wrap IntKind.i64 (x24 + x29)) < x34)) = true) →
(∀ w36 : World, ((w36 = w16.drew) →
(∃ o38 : Option Addr, (∃ n39 : Nat, (∃ n40 : Nat, (((w36.cell? (⟨p9, 0, none⟩ : Addr)) = (some (Value.slice o38 n39 n40))) ∧
(∃ x41 : Int, (((w36.cell? (⟨p15, 0, none⟩ : Addr)) = (some (Value.int IntKind.i64 x41))) ∧
(∃ o42 : Option Addr, (∃ n43 : Nat, (∃ n44 : Nat, (((w36.cell? (⟨p5, 0, none⟩ : Addr)) = (some (Value.slice o42 n43 n44))) ∧
(∃ a45 : Addr, ((o42 = (some a45)) ∧
((((0 : Int) ≤ i) ∧
(i < ((n43 : Nat) : Int))) ∧
(∃ x46 : Int, (((w36.cell? (Addr.add a45 ((i).toNat * 1))) = (some (Value.int IntKind.i64 x46))) ∧
(∃ a47 : Addr, ((o38 = (some a47)) ∧
((((0 : Int) ≤ x15) ∧
(x15 < ((n39 : Nat) : Int))) ∧
((Nf.There w36 (Addr.add a47 ((x15).toNat * 1)) 1) ∧
(∀ w48 : World, ((w48 = (Nf.setCells w36 (Addr.add a47 ((x15).toNat * 1)) [(Value.int IntKind.i64 (IntKind.wrap IntKind.i64 (x41 + x46)))] 0)) →
(∃ o50 : Option Addr, (∃ n51 : Nat, (∃ n52 : Nat, (((w48.cell? (⟨p9, 0, none⟩ : Addr)) = (some (Value.slice o50 n51 n52))) ∧
(∃ a53 : Addr, ((o50 = (some a53)) ∧
((((0 : Int) ≤ x15) ∧
(x15 < ((n51 : Nat) : Int))) ∧
(∃ x54 : Int, (((w48.cell? (Addr.add a53 ((x15).toNat * 1))) = (some (Value.int IntKind.i64 x54))) ∧
(Calls Try.prog 65 #[(Value.pointer (some (⟨p11, 0, none⟩ : Addr))), (Value.int IntKind.i64 x54), (Value.int IntKind.i64 x15)] w48 (fun (e55 : Ending) => (fun (w56 : World) => ((e55 = (Ending.returned (Value.tuple #[]))) ∧
(K w56)))))))))))))))))))))))))))))))))))))) ∧
(((decide ((IntKind.wrap IntKind.i64 (x24 + x29)) < x34)) = false) →
(K w16)))))))))))))))))))))))) ∧
(((!(decide (x22 = 4611686018427387904))) = false) →
(K w16))))))))))))))))) ∧
((b13 = false) →
(∀ w60 : World, ((w60 = w10.drew) →
(∃ o62 : Option Addr, (∃ n63 : Nat, (∃ n64 : Nat, (((w60.cell? (⟨p5, 0, none⟩ : Addr)) = (some (Value.slice o62 n63 n64))) ∧
(∃ a65 : Addr, ((o62 = (some a65)) ∧
((((0 : Int) ≤ i) ∧
(i < ((n63 : Nat) : Int))) ∧
(∃ x66 : Int, (((w60.cell? (Addr.add a65 ((i).toNat * 1))) = (some (Value.int IntKind.i64 x66))) ∧
((((!(decide (x66 = 4611686018427387904))) = true) →
(∃ x68 : Int, (((w60.cell? (⟨p15, 0, none⟩ : Addr)) = (some (Value.int IntKind.i64 x68))) ∧
(∃ o69 : Option Addr, (∃ n70 : Nat, (∃ n71 : Nat, (((w60.cell? (⟨p5, 0, none⟩ : Addr)) = (some (Value.slice o69 n70 n71))) ∧
(∃ a72 : Addr, ((o69 = (some a72)) ∧
((((0 : Int) ≤ i) ∧
(i < ((n70 : Nat) : Int))) ∧
(∃ x73 : Int, (((w60.cell? (Addr.add a72 ((i).toNat * 1))) = (some (Value.int IntKind.i64 x73))) ∧
(∃ o74 : Option Addr, (∃ n75 : Nat, (∃ n76 : Nat, (((w60.cell? (⟨p9, 0, none⟩ : Addr)) = (some (Value.slice o74 n75 n76))) ∧
(∃ a77 : Addr, ((o74 = (some a77)) ∧
((((0 : Int) ≤ x12) ∧
(x12 < ((n75 : Nat) : Int))) ∧
(∃ x78 : Int, (((w60.cell? (Addr.add a77 ((x12).toNat * 1))) = (some (Value.int IntKind.i64 x78))) ∧
((((decide ((IntKind.wrap IntKind.i64 (x68 + x73)) < x78)) = true) →
(∀ w80 : World, ((w80 = w60.drew) →
(∃ o82 : Option Addr, (∃ n83 : Nat, (∃ n84 : Nat, (((w80.cell? (⟨p9, 0, none⟩ : Addr)) = (some (Value.slice o82 n83 n84))) ∧
(∃ x85 : Int, (((w80.cell? (⟨p15, 0, none⟩ : Addr)) = (some (Value.int IntKind.i64 x85))) ∧
(∃ o86 : Option Addr, (∃ n87 : Nat, (∃ n88 : Nat, (((w80.cell? (⟨p5, 0, none⟩ : Addr)) = (some (Value.slice o86 n87 n88))) ∧
(∃ a89 : Addr, ((o86 = (some a89)) ∧
((((0 : Int) ≤ i) ∧
(i < ((n87 : Nat) : Int))) ∧
(∃ x90 : Int, (((w80.cell? (Addr.add a89 ((i).toNat * 1))) = (some (Value.int IntKind.i64 x90))) ∧
(∃ a91 : Addr, ((o82 = (some a91)) ∧
((((0 : Int) ≤ x12) ∧
(x12 < ((n83 : Nat) : Int))) ∧
((Nf.There w80 (Addr.add a91 ((x12).toNat * 1)) 1) ∧
(∀ w92 : World, ((w92 = (Nf.setCells w80 (Addr.add a91 ((x12).toNat * 1)) [(Value.int IntKind.i64 (IntKind.wrap IntKind.i64 (x85 + x90)))] 0)) →
(∃ o94 : Option Addr, (∃ n95 : Nat, (∃ n96 : Nat, (((w92.cell? (⟨p9, 0, none⟩ : Addr)) = (some (Value.slice o94 n95 n96))) ∧
(∃ a97 : Addr, ((o94 = (some a97)) ∧
((((0 : Int) ≤ x12) ∧
(x12 < ((n95 : Nat) : Int))) ∧
(∃ x98 : Int, (((w92.cell? (Addr.add a97 ((x12).toNat * 1))) = (some (Value.int IntKind.i64 x98))) ∧
(Calls Try.prog 65 #[(Value.pointer (some (⟨p11, 0, none⟩ : Addr))), (Value.int IntKind.i64 x98), (Value.int IntKind.i64 x12)] w92 (fun (e99 : Ending) => (fun (w100 : World) => ((e99 = (Ending.returned (Value.tuple #[]))) ∧
(K w100)))))))))))))))))))))))))))))))))))))) ∧
(((decide ((IntKind.wrap IntKind.i64 (x68 + x73)) < x78)) = false) →
(K w60)))))))))))))))))))))))) ∧
(((!(decide (x66 = 4611686018427387904))) = false) →
(K w60)))))))))))))))))))))))))))))))))))) :
    vc Try.prog (at50 Try.f50.body pC) an50C (fun e _ w => match e with | .normal => K w | _ => False) (g.fill [4, 5, 7, 9, 11, 14, 15, 16, 17] [(.pointer (some ⟨p4, 0, none⟩)), (.pointer (some ⟨p5, 0, none⟩)), (.pointer (some ⟨p7, 0, none⟩)), (.pointer (some ⟨p9, 0, none⟩)), (.pointer (some ⟨p11, 0, none⟩)), (.func (.func 67) #[.pointer (some ⟨q, 0, none⟩)] #[]), (.pointer (some ⟨p15, 0, none⟩)), (.int .i64 node), (.int .i64 i)]) w :=
  Eq.mp (by kernel_rfl) h
set_option maxRecDepth 100000 in
theorem nf50D (g : Env) (p4 p5 p7 p9 p11 q : Nat) (w : World) (K : Value → World → Prop) (h :
(∃ o1 : Option Addr, (∃ n2 : Nat, (∃ n3 : Nat, (((w.cell? (⟨p9, 0, none⟩ : Addr)) = (some (Value.slice o1 n2 n3))) ∧
(K (Value.slice o1 n2 n3) w)))))) :
    vc Try.prog (at50 Try.f50.body pD) an50D (fun e ρ w => match e with | .ret => K (ρ 8) w | _ => False) (g.fill L6 [(.pointer (some ⟨p4, 0, none⟩)), (.pointer (some ⟨p5, 0, none⟩)), (.pointer (some ⟨p7, 0, none⟩)), (.pointer (some ⟨p9, 0, none⟩)), (.pointer (some ⟨p11, 0, none⟩)), (.func (.func 67) #[.pointer (some ⟨q, 0, none⟩)] #[])]) w :=
  Eq.mp (by kernel_rfl) h
end Go.Proofs.Ytcaokpglbolkcaa
