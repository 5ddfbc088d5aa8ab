/- The function awake (9) in stages: each stage as the proposition that it comes to (printed by wip/nf/gen_nf3.py from the tool's output). -/
import Derived.Test.YtneklhmkiememaaDoorNf1
import Derived.Test.YtneklhmkiememaaDoorNfT
namespace Go.Proofs.YtneklhmkiememaaDoor
open Go Go.Nf

def ops9 (b : Option Code) : Array Oper := regOps (seqL (seqR 5 (b.getD .skip)))
def ms9 : Marks := [(51, 3, false)]
def dl9 : Deads := [(15, 14), (22, 21)]
def effs9 : List Nat := [12, 13, 15, 19, 20, 22, 27, 28, 29, 30, 32, 36, 37, 42, 43, 47, 48, 50]
def t9A : OT := (.take 0 (.take 1 (.take 2 (.take 3 (.take 4 (.take 5 (.take 6 (.take 7 (.take 8 (.take 9 (.take 10 (.take 11 (.take 14 (.eff (.alt (.one 12 (.eff (.one 13 (.eff (.one 15 (.take 16 (.take 17 .nil))))))) (.one 13 (.eff (.one 12 (.eff (.one 15 (.take 16 (.take 17 .nil))))))))))))))))))))))
def t9B : OT := (.take 18 (.take 21 (.eff (.alt (.one 19 (.eff (.one 20 (.eff (.one 22 (.take 23 (.take 24 (.take 25 .nil)))))))) (.one 20 (.eff (.one 19 (.eff (.one 22 (.take 23 (.take 24 (.take 25 .nil))))))))))))
def t9C : OT := (.take 26 (.eff (.alt (.one 27 (.eff (.alt (.one 28 (.eff (.alt (.one 29 (.eff (.one 30 (.take 31 (.eff (.one 32 (.take 33 (.take 34 .nil)))))))) (.one 30 (.eff (.one 29 (.take 31 (.eff (.one 32 (.take 33 (.take 34 .nil))))))))))) (.alt (.one 29 (.eff (.alt (.one 28 (.eff (.one 30 (.take 31 (.eff (.one 32 (.take 33 (.take 34 .nil)))))))) (.one 30 (.take 31 (.eff (.one 28 (.eff (.one 32 (.take 33 (.take 34 .nil))))))))))) (.one 30 (.eff (.alt (.one 28 (.eff (.one 29 (.take 31 (.eff (.one 32 (.take 33 (.take 34 .nil)))))))) (.one 29 (.take 31 (.eff (.one 28 (.eff (.one 32 (.take 33 (.take 34 .nil))))))))))))))) (.alt (.one 28 (.eff (.alt (.one 27 (.eff (.alt (.one 29 (.eff (.one 30 (.take 31 (.eff (.one 32 (.take 33 (.take 34 .nil)))))))) (.one 30 (.eff (.one 29 (.take 31 (.eff (.one 32 (.take 33 (.take 34 .nil))))))))))) (.alt (.one 29 (.eff (.alt (.one 27 (.eff (.one 30 (.take 31 (.eff (.one 32 (.take 33 (.take 34 .nil)))))))) (.one 30 (.take 31 (.eff (.one 27 (.eff (.one 32 (.take 33 (.take 34 .nil))))))))))) (.one 30 (.eff (.alt (.one 27 (.eff (.one 29 (.take 31 (.eff (.one 32 (.take 33 (.take 34 .nil)))))))) (.one 29 (.take 31 (.eff (.one 27 (.eff (.one 32 (.take 33 (.take 34 .nil))))))))))))))) (.alt (.one 29 (.eff (.alt (.one 27 (.eff (.alt (.one 28 (.eff (.one 30 (.take 31 (.eff (.one 32 (.take 33 (.take 34 .nil)))))))) (.one 30 (.take 31 (.eff (.one 28 (.eff (.one 32 (.take 33 (.take 34 .nil))))))))))) (.alt (.one 28 (.eff (.alt (.one 27 (.eff (.one 30 (.take 31 (.eff (.one 32 (.take 33 (.take 34 .nil)))))))) (.one 30 (.take 31 (.eff (.one 27 (.eff (.one 32 (.take 33 (.take 34 .nil))))))))))) (.one 30 (.take 31 (.eff (.alt (.one 27 (.eff (.one 28 (.eff (.one 32 (.take 33 (.take 34 .nil))))))) (.one 28 (.eff (.one 27 (.eff (.one 32 (.take 33 (.take 34 .nil))))))))))))))) (.one 30 (.eff (.alt (.one 27 (.eff (.alt (.one 28 (.eff (.one 29 (.take 31 (.eff (.one 32 (.take 33 (.take 34 .nil)))))))) (.one 29 (.take 31 (.eff (.one 28 (.eff (.one 32 (.take 33 (.take 34 .nil))))))))))) (.alt (.one 28 (.eff (.alt (.one 27 (.eff (.one 29 (.take 31 (.eff (.one 32 (.take 33 (.take 34 .nil)))))))) (.one 29 (.take 31 (.eff (.one 27 (.eff (.one 32 (.take 33 (.take 34 .nil))))))))))) (.one 29 (.take 31 (.eff (.alt (.one 27 (.eff (.one 28 (.eff (.one 32 (.take 33 (.take 34 .nil))))))) (.one 28 (.eff (.one 27 (.eff (.one 32 (.take 33 (.take 34 .nil))))))))))))))))))))
def t9D : OT := (.take 35 (.eff (.one 36 (.eff (.one 37 (.take 38 (.take 39 (.take 40 .nil))))))))
def t9E : OT := (.take 41 (.eff (.one 42 (.eff (.one 43 (.take 44 (.take 45 (.take 46 .nil))))))))
def t9F : OT := (.eff (.alt (.one 47 (.eff (.one 48 (.take 49 (.eff (.one 50 (.take 51 (.take 52 (.take 53 .nil))))))))) (.one 48 (.eff (.one 47 (.take 49 (.eff (.one 50 (.take 51 (.take 52 (.take 53 .nil)))))))))))
def t9 : OT := OT.graft (OT.graft (OT.graft (OT.graft (OT.graft t9F t9E) t9D) t9C) t9B) t9A
def an9 : An := .seq (.reg []) (.seq (.reg []) (.seq (.reg []) (.seq (.reg []) (.seq (.reg []) (.seq (.regE ms9 t9 effs9) .nil)))))
set_option maxRecDepth 100000 in
theorem nf9P (w : World) (R : Ending → World → Prop) (K : List Value → World → Prop) (h :
(∀ w1 : World, ((w1 = (w.alloc (Obj.cells #[(Value.int IntKind.i64 4), (Value.int IntKind.i64 1)] 2 (0, 0)))) →
(∀ w3 : World, ((w3 = (w1.alloc (Obj.cells #[(Value.int IntKind.i64 2), (Value.int IntKind.i64 4611686018427387904)] 2 (0, 0)))) →
(∀ w5 : World, ((w5 = (w3.alloc (Obj.cells #[(Value.slice (some (⟨(hs w), 0, none⟩ : Addr)) 2 2), (Value.slice (some (⟨(hs w1), 0, none⟩ : Addr)) 2 2)] 26 (0, 0)))) →
(Calls Tryd.prog 12 #[(Value.slice (some (⟨(hs w3), 0, none⟩ : Addr)) 2 2)] w5 (fun (e7 : Ending) => (fun (w8 : World) => (∃ o9 : Option Addr, (∃ n10 : Nat, (∃ n11 : Nat, ((e7 = (Ending.returned (Value.slice o9 n10 n11))) ∧
(∀ w12 : World, ((w12 = (w8.alloc (Obj.cells #[(Value.int IntKind.i64 1), (Value.int IntKind.i64 0)] 3 (0, 0)))) →
(Calls Tryd.prog 11 #[(Value.slice o9 n10 n11), (Value.slice (some (⟨(hs w8), 0, none⟩ : Addr)) 2 2)] w12 (fun (e14 : Ending) => (fun (w15 : World) => (∃ o16 : Option Addr, (∃ n17 : Nat, (∃ n18 : Nat, (∃ o19 : Option Addr, (∃ n20 : Nat, (∃ n21 : Nat, (∃ o22 : Option Addr, (∃ n23 : Nat, (∃ n24 : Nat, (∃ x25 : Int, ((e14 = (Ending.returned (Value.tuple #[(Value.agg #[(Value.slice o16 n17 n18), (Value.slice o19 n20 n21), (Value.slice o22 n23 n24)]), (Value.int IntKind.i64 x25)]))) ∧
(∀ w26 : World, ((w26 = (w15.alloc (Obj.cells #[(Value.slice none 0 0), (Value.slice none 0 0), (Value.slice none 0 0)] 28 (0, 0)))) →
((Nf.There w26 (⟨(hs w15), 0, none⟩ : Addr) 3) ∧
(∀ w28 : World, ((w28 = (Nf.setCells w26 (⟨(hs w15), 0, none⟩ : Addr) [(Value.slice o16 n17 n18), (Value.slice o19 n20 n21), (Value.slice o22 n23 n24)] 0)) →
(Calls Tryd.prog 12 #[(Value.slice (some (⟨(hs w3), 0, none⟩ : Addr)) 2 2)] w28 (fun (e30 : Ending) => (fun (w31 : World) => (∃ o32 : Option Addr, (∃ n33 : Nat, (∃ n34 : Nat, ((e30 = (Ending.returned (Value.slice o32 n33 n34))) ∧
(∀ w35 : World, ((w35 = (w31.alloc (Obj.cells #[(Value.int IntKind.i64 0), (Value.int IntKind.i64 (-1))] 3 (0, 0)))) →
(Calls Tryd.prog 11 #[(Value.slice o32 n33 n34), (Value.slice (some (⟨(hs w31), 0, none⟩ : Addr)) 2 2)] w35 (fun (e37 : Ending) => (fun (w38 : World) => (∃ o39 : Option Addr, (∃ n40 : Nat, (∃ n41 : Nat, (∃ o42 : Option Addr, (∃ n43 : Nat, (∃ n44 : Nat, (∃ o45 : Option Addr, (∃ n46 : Nat, (∃ n47 : Nat, (∃ x48 : Int, ((e37 = (Ending.returned (Value.tuple #[(Value.agg #[(Value.slice o39 n40 n41), (Value.slice o42 n43 n44), (Value.slice o45 n46 n47)]), (Value.int IntKind.i64 x48)]))) ∧
(∀ w49 : World, ((w49 = (w38.alloc (Obj.cells #[(Value.slice none 0 0), (Value.slice none 0 0), (Value.slice none 0 0)] 28 (0, 0)))) →
((Nf.There w49 (⟨(hs w38), 0, none⟩ : Addr) 3) ∧
(∀ w51 : World, ((w51 = (Nf.setCells w49 (⟨(hs w38), 0, none⟩ : Addr) [(Value.slice o39 n40 n41), (Value.slice o42 n43 n44), (Value.slice o45 n46 n47)] 0)) →
(Calls Tryd.prog 12 #[(Value.slice (some (⟨(hs w3), 0, none⟩ : Addr)) 2 2)] w51 (fun (e53 : Ending) => (fun (w54 : World) => (∃ o55 : Option Addr, (∃ n56 : Nat, (∃ n57 : Nat, ((e53 = (Ending.returned (Value.slice o55 n56 n57))) ∧
(∀ w58 : World, ((w58 = (w54.alloc (Obj.cells #[(Value.int IntKind.i64 1), (Value.int IntKind.i64 1)] 3 (0, 0)))) →
(Calls Tryd.prog 11 #[(Value.slice o55 n56 n57), (Value.slice (some (⟨(hs w54), 0, none⟩ : Addr)) 2 2)] w58 (fun (e60 : Ending) => (fun (w61 : World) => (∃ o62 : Option Addr, (∃ n63 : Nat, (∃ n64 : Nat, (∃ o65 : Option Addr, (∃ n66 : Nat, (∃ n67 : Nat, (∃ o68 : Option Addr, (∃ n69 : Nat, (∃ n70 : Nat, (∃ x71 : Int, ((e60 = (Ending.returned (Value.tuple #[(Value.agg #[(Value.slice o62 n63 n64), (Value.slice o65 n66 n67), (Value.slice o68 n69 n70)]), (Value.int IntKind.i64 x71)]))) ∧
(∀ w72 : World, ((w72 = (w61.alloc (Obj.cells #[(Value.slice none 0 0), (Value.slice none 0 0), (Value.slice none 0 0)] 28 (0, 0)))) →
((Nf.There w72 (⟨(hs w61), 0, none⟩ : Addr) 3) ∧
(∀ w74 : World, ((w74 = (Nf.setCells w72 (⟨(hs w61), 0, none⟩ : Addr) [(Value.slice o62 n63 n64), (Value.slice o65 n66 n67), (Value.slice o68 n69 n70)] 0)) →
(K [(Value.slice (some (⟨(hs w3), 0, none⟩ : Addr)) 2 2), (Value.pointer (some (⟨(hs w15), 0, none⟩ : Addr))), (Value.int IntKind.i64 x25), (Value.int IntKind.i64 x48), (Value.int IntKind.i64 x71)] w74)))))))))))))))))))))))))))))))))))))))))))))))))))))))))))))))))))))))))))))))))))))))))))) :
    vcN Tryd.prog (retQ Tryd.prog Tryd.f9 R) 5 (Tryd.f9.body.getD .skip) an9 (argEnv #[]) w (fun ρ w => K ([1, 2, 3, 5, 7].map ρ) w) :=
  Eq.mp (by kernel_rfl) h
set_option maxRecDepth 100000 in
theorem nf9A (g : Env) (o : Option Addr) (n c : Nat) (a : Addr) (w : World) (K : List Value → World → Prop) (h :
(∃ o1 : Option Addr, (∃ n2 : Nat, (∃ n3 : Nat, (((w.cell? a) = (some (Value.slice o1 n2 n3))) ∧
(∃ o4 : Option Addr, (∃ n5 : Nat, (∃ n6 : Nat, (((w.cell? (Addr.add a 1)) = (some (Value.slice o4 n5 n6))) ∧
(∃ o7 : Option Addr, (∃ n8 : Nat, (∃ n9 : Nat, (((w.cell? (Addr.add a 2)) = (some (Value.slice o7 n8 n9))) ∧
((Calls Tryd.prog 12 #[(Value.slice o n c)] w (fun (e10 : Ending) => (fun (w11 : World) => (∃ o12 : Option Addr, (∃ n13 : Nat, (∃ n14 : Nat, ((e10 = (Ending.returned (Value.slice o12 n13 n14))) ∧
((Nf.Kept w w11 a 3) ∧
(∀ w15 : World, ((w15 = (w11.alloc (Obj.cells #[(Value.int IntKind.i64 1), (Value.int IntKind.i64 0)] 3 (0, 0)))) →
((Nf.Kept w w15 a 3) ∧
(Calls Tryd.prog 19 #[(Value.slice o12 n13 n14), (Value.slice (some (⟨(hs w11), 0, none⟩ : Addr)) 2 2), (Value.agg #[(Value.slice o1 n2 n3), (Value.slice o4 n5 n6), (Value.slice o7 n8 n9)])] w15 (fun (e17 : Ending) => (fun (w18 : World) => (∃ b19 : Bool, ((e17 = (Ending.returned (Value.bool b19))) ∧
(K [(Value.slice o n c), (Value.pointer (some a)), (Value.bool b19)] w18))))))))))))))))) ∧
(∀ w20 : World, ((w20 = (w.alloc (Obj.cells #[(Value.int IntKind.i64 1), (Value.int IntKind.i64 0)] 3 (0, 0)))) →
((Nf.Kept w w20 a 3) ∧
(Calls Tryd.prog 12 #[(Value.slice o n c)] w20 (fun (e22 : Ending) => (fun (w23 : World) => (∃ o24 : Option Addr, (∃ n25 : Nat, (∃ n26 : Nat, ((e22 = (Ending.returned (Value.slice o24 n25 n26))) ∧
((Nf.Kept w w23 a 3) ∧
(Calls Tryd.prog 19 #[(Value.slice o24 n25 n26), (Value.slice (some (⟨(hs w), 0, none⟩ : Addr)) 2 2), (Value.agg #[(Value.slice o1 n2 n3), (Value.slice o4 n5 n6), (Value.slice o7 n8 n9)])] w23 (fun (e27 : Ending) => (fun (w28 : World) => (∃ b29 : Bool, ((e27 = (Ending.returned (Value.bool b29))) ∧
(K [(Value.slice o n c), (Value.pointer (some a)), (Value.bool b29)] w28))))))))))))))))))))))))))))))) :
    vcG Tryd.prog (ops9 Tryd.f9.body) ms9 effs9 dl9 t9A (upTo 0 54) [] (g.fill [1, 2, 3, 5, 7] [(.slice o n c), (.pointer (some a)), (.int .i64 0), (.int .i64 14), (.int .i64 1)]) w (stop dl9 (upTo 18 36) [1, 2, 49] K) :=
  Eq.mp (by kernel_rfl) h
set_option maxRecDepth 100000 in
theorem nf9B (g : Env) (o : Option Addr) (n c : Nat) (a : Addr) (w : World) (K : List Value → World → Prop) (h :
(∃ o1 : Option Addr, (∃ n2 : Nat, (∃ n3 : Nat, (((w.cell? a) = (some (Value.slice o1 n2 n3))) ∧
(∃ o4 : Option Addr, (∃ n5 : Nat, (∃ n6 : Nat, (((w.cell? (Addr.add a 1)) = (some (Value.slice o4 n5 n6))) ∧
(∃ o7 : Option Addr, (∃ n8 : Nat, (∃ n9 : Nat, (((w.cell? (Addr.add a 2)) = (some (Value.slice o7 n8 n9))) ∧
((Calls Tryd.prog 12 #[(Value.slice o n c)] w (fun (e10 : Ending) => (fun (w11 : World) => (∃ o12 : Option Addr, (∃ n13 : Nat, (∃ n14 : Nat, ((e10 = (Ending.returned (Value.slice o12 n13 n14))) ∧
((Nf.Kept w w11 a 3) ∧
(∀ w15 : World, ((w15 = (w11.alloc (Obj.cells #[(Value.int IntKind.i64 0), (Value.int IntKind.i64 (-1))] 3 (0, 0)))) →
((Nf.Kept w w15 a 3) ∧
(Calls Tryd.prog 19 #[(Value.slice o12 n13 n14), (Value.slice (some (⟨(hs w11), 0, none⟩ : Addr)) 2 2), (Value.agg #[(Value.slice o1 n2 n3), (Value.slice o4 n5 n6), (Value.slice o7 n8 n9)])] w15 (fun (e17 : Ending) => (fun (w18 : World) => (∃ b19 : Bool, ((e17 = (Ending.returned (Value.bool b19))) ∧
(K [(Value.slice o n c), (Value.bool (!b19))] w18))))))))))))))))) ∧
(∀ w20 : World, ((w20 = (w.alloc (Obj.cells #[(Value.int IntKind.i64 0), (Value.int IntKind.i64 (-1))] 3 (0, 0)))) →
((Nf.Kept w w20 a 3) ∧
(Calls Tryd.prog 12 #[(Value.slice o n c)] w20 (fun (e22 : Ending) => (fun (w23 : World) => (∃ o24 : Option Addr, (∃ n25 : Nat, (∃ n26 : Nat, ((e22 = (Ending.returned (Value.slice o24 n25 n26))) ∧
((Nf.Kept w w23 a 3) ∧
(Calls Tryd.prog 19 #[(Value.slice o24 n25 n26), (Value.slice (some (⟨(hs w), 0, none⟩ : Addr)) 2 2), (Value.agg #[(Value.slice o1 n2 n3), (Value.slice o4 n5 n6), (Value.slice o7 n8 n9)])] w23 (fun (e27 : Ending) => (fun (w28 : World) => (∃ b29 : Bool, ((e27 = (Ending.returned (Value.bool b29))) ∧
(K [(Value.slice o n c), (Value.bool (!b29))] w28))))))))))))))))))))))))))))))) :
    vcG Tryd.prog (ops9 Tryd.f9.body) ms9 effs9 dl9 t9B (upTo 18 36) [] (g.fill [1, 2, 49] [(.slice o n c), (.pointer (some a)), (.bool true)]) w (stop dl9 (upTo 26 28) [1, 57] K) :=
  Eq.mp (by kernel_rfl) h
set_option maxRecDepth 100000 in
theorem nf9C (g : Env) (o : Option Addr) (n c : Nat) (w : World) (K : List Value → World → Prop) (h :
((Calls Tryd.prog 12 #[(Value.slice o n c)] w (fun (e1 : Ending) => (fun (w2 : World) => (∃ o3 : Option Addr, (∃ n4 : Nat, (∃ n5 : Nat, ((e1 = (Ending.returned (Value.slice o3 n4 n5))) ∧
((∀ w6 : World, ((w6 = (w2.alloc (Obj.cells #[(Value.int IntKind.i64 1), (Value.int IntKind.i64 0)] 3 (0, 0)))) →
((∀ w8 : World, ((w8 = (w6.alloc (Obj.cells #[(Value.int IntKind.i64 1), (Value.int IntKind.i64 2)] 2 (0, 0)))) →
(∀ w10 : World, ((w10 = (w8.alloc (Obj.cells #[(Value.int IntKind.i64 0), (Value.int IntKind.i64 0)] 2 (0, 0)))) →
(Calls Tryd.prog 19 #[(Value.slice o3 n4 n5), (Value.slice (some (⟨(hs w2), 0, none⟩ : Addr)) 2 2), (Value.agg #[(Value.slice (some (⟨(hs w6), 0, none⟩ : Addr)) 2 2), (Value.slice (some (⟨(hs w8), 0, none⟩ : Addr)) 2 2), (Value.slice none 0 0)])] w10 (fun (e12 : Ending) => (fun (w13 : World) => (∃ b14 : Bool, ((e12 = (Ending.returned (Value.bool b14))) ∧
(K [(Value.slice o n c), (Value.bool b14)] w13)))))))))) ∧
(∀ w15 : World, ((w15 = (w6.alloc (Obj.cells #[(Value.int IntKind.i64 0), (Value.int IntKind.i64 0)] 2 (0, 0)))) →
(∀ w17 : World, ((w17 = (w15.alloc (Obj.cells #[(Value.int IntKind.i64 1), (Value.int IntKind.i64 2)] 2 (0, 0)))) →
(Calls Tryd.prog 19 #[(Value.slice o3 n4 n5), (Value.slice (some (⟨(hs w2), 0, none⟩ : Addr)) 2 2), (Value.agg #[(Value.slice (some (⟨(hs w15), 0, none⟩ : Addr)) 2 2), (Value.slice (some (⟨(hs w6), 0, none⟩ : Addr)) 2 2), (Value.slice none 0 0)])] w17 (fun (e19 : Ending) => (fun (w20 : World) => (∃ b21 : Bool, ((e19 = (Ending.returned (Value.bool b21))) ∧
(K [(Value.slice o n c), (Value.bool b21)] w20))))))))))))) ∧
((∀ w22 : World, ((w22 = (w2.alloc (Obj.cells #[(Value.int IntKind.i64 1), (Value.int IntKind.i64 2)] 2 (0, 0)))) →
((∀ w24 : World, ((w24 = (w22.alloc (Obj.cells #[(Value.int IntKind.i64 1), (Value.int IntKind.i64 0)] 3 (0, 0)))) →
(∀ w26 : World, ((w26 = (w24.alloc (Obj.cells #[(Value.int IntKind.i64 0), (Value.int IntKind.i64 0)] 2 (0, 0)))) →
(Calls Tryd.prog 19 #[(Value.slice o3 n4 n5), (Value.slice (some (⟨(hs w22), 0, none⟩ : Addr)) 2 2), (Value.agg #[(Value.slice (some (⟨(hs w2), 0, none⟩ : Addr)) 2 2), (Value.slice (some (⟨(hs w24), 0, none⟩ : Addr)) 2 2), (Value.slice none 0 0)])] w26 (fun (e28 : Ending) => (fun (w29 : World) => (∃ b30 : Bool, ((e28 = (Ending.returned (Value.bool b30))) ∧
(K [(Value.slice o n c), (Value.bool b30)] w29)))))))))) ∧
(∀ w31 : World, ((w31 = (w22.alloc (Obj.cells #[(Value.int IntKind.i64 0), (Value.int IntKind.i64 0)] 2 (0, 0)))) →
(∀ w33 : World, ((w33 = (w31.alloc (Obj.cells #[(Value.int IntKind.i64 1), (Value.int IntKind.i64 0)] 3 (0, 0)))) →
(Calls Tryd.prog 19 #[(Value.slice o3 n4 n5), (Value.slice (some (⟨(hs w31), 0, none⟩ : Addr)) 2 2), (Value.agg #[(Value.slice (some (⟨(hs w2), 0, none⟩ : Addr)) 2 2), (Value.slice (some (⟨(hs w22), 0, none⟩ : Addr)) 2 2), (Value.slice none 0 0)])] w33 (fun (e35 : Ending) => (fun (w36 : World) => (∃ b37 : Bool, ((e35 = (Ending.returned (Value.bool b37))) ∧
(K [(Value.slice o n c), (Value.bool b37)] w36))))))))))))) ∧
(∀ w38 : World, ((w38 = (w2.alloc (Obj.cells #[(Value.int IntKind.i64 0), (Value.int IntKind.i64 0)] 2 (0, 0)))) →
((∀ w40 : World, ((w40 = (w38.alloc (Obj.cells #[(Value.int IntKind.i64 1), (Value.int IntKind.i64 0)] 3 (0, 0)))) →
(∀ w42 : World, ((w42 = (w40.alloc (Obj.cells #[(Value.int IntKind.i64 1), (Value.int IntKind.i64 2)] 2 (0, 0)))) →
(Calls Tryd.prog 19 #[(Value.slice o3 n4 n5), (Value.slice (some (⟨(hs w38), 0, none⟩ : Addr)) 2 2), (Value.agg #[(Value.slice (some (⟨(hs w40), 0, none⟩ : Addr)) 2 2), (Value.slice (some (⟨(hs w2), 0, none⟩ : Addr)) 2 2), (Value.slice none 0 0)])] w42 (fun (e44 : Ending) => (fun (w45 : World) => (∃ b46 : Bool, ((e44 = (Ending.returned (Value.bool b46))) ∧
(K [(Value.slice o n c), (Value.bool b46)] w45)))))))))) ∧
(∀ w47 : World, ((w47 = (w38.alloc (Obj.cells #[(Value.int IntKind.i64 1), (Value.int IntKind.i64 2)] 2 (0, 0)))) →
(∀ w49 : World, ((w49 = (w47.alloc (Obj.cells #[(Value.int IntKind.i64 1), (Value.int IntKind.i64 0)] 3 (0, 0)))) →
(Calls Tryd.prog 19 #[(Value.slice o3 n4 n5), (Value.slice (some (⟨(hs w47), 0, none⟩ : Addr)) 2 2), (Value.agg #[(Value.slice (some (⟨(hs w38), 0, none⟩ : Addr)) 2 2), (Value.slice (some (⟨(hs w2), 0, none⟩ : Addr)) 2 2), (Value.slice none 0 0)])] w49 (fun (e51 : Ending) => (fun (w52 : World) => (∃ b53 : Bool, ((e51 = (Ending.returned (Value.bool b53))) ∧
(K [(Value.slice o n c), (Value.bool b53)] w52)))))))))))))))))))))) ∧
((∀ w54 : World, ((w54 = (w.alloc (Obj.cells #[(Value.int IntKind.i64 1), (Value.int IntKind.i64 0)] 3 (0, 0)))) →
((Calls Tryd.prog 12 #[(Value.slice o n c)] w54 (fun (e56 : Ending) => (fun (w57 : World) => (∃ o58 : Option Addr, (∃ n59 : Nat, (∃ n60 : Nat, ((e56 = (Ending.returned (Value.slice o58 n59 n60))) ∧
((∀ w61 : World, ((w61 = (w57.alloc (Obj.cells #[(Value.int IntKind.i64 1), (Value.int IntKind.i64 2)] 2 (0, 0)))) →
(∀ w63 : World, ((w63 = (w61.alloc (Obj.cells #[(Value.int IntKind.i64 0), (Value.int IntKind.i64 0)] 2 (0, 0)))) →
(Calls Tryd.prog 19 #[(Value.slice o58 n59 n60), (Value.slice (some (⟨(hs w), 0, none⟩ : Addr)) 2 2), (Value.agg #[(Value.slice (some (⟨(hs w57), 0, none⟩ : Addr)) 2 2), (Value.slice (some (⟨(hs w61), 0, none⟩ : Addr)) 2 2), (Value.slice none 0 0)])] w63 (fun (e65 : Ending) => (fun (w66 : World) => (∃ b67 : Bool, ((e65 = (Ending.returned (Value.bool b67))) ∧
(K [(Value.slice o n c), (Value.bool b67)] w66)))))))))) ∧
(∀ w68 : World, ((w68 = (w57.alloc (Obj.cells #[(Value.int IntKind.i64 0), (Value.int IntKind.i64 0)] 2 (0, 0)))) →
(∀ w70 : World, ((w70 = (w68.alloc (Obj.cells #[(Value.int IntKind.i64 1), (Value.int IntKind.i64 2)] 2 (0, 0)))) →
(Calls Tryd.prog 19 #[(Value.slice o58 n59 n60), (Value.slice (some (⟨(hs w), 0, none⟩ : Addr)) 2 2), (Value.agg #[(Value.slice (some (⟨(hs w68), 0, none⟩ : Addr)) 2 2), (Value.slice (some (⟨(hs w57), 0, none⟩ : Addr)) 2 2), (Value.slice none 0 0)])] w70 (fun (e72 : Ending) => (fun (w73 : World) => (∃ b74 : Bool, ((e72 = (Ending.returned (Value.bool b74))) ∧
(K [(Value.slice o n c), (Value.bool b74)] w73)))))))))))))))))) ∧
((∀ w75 : World, ((w75 = (w54.alloc (Obj.cells #[(Value.int IntKind.i64 1), (Value.int IntKind.i64 2)] 2 (0, 0)))) →
((Calls Tryd.prog 12 #[(Value.slice o n c)] w75 (fun (e77 : Ending) => (fun (w78 : World) => (∃ o79 : Option Addr, (∃ n80 : Nat, (∃ n81 : Nat, ((e77 = (Ending.returned (Value.slice o79 n80 n81))) ∧
(∀ w82 : World, ((w82 = (w78.alloc (Obj.cells #[(Value.int IntKind.i64 0), (Value.int IntKind.i64 0)] 2 (0, 0)))) →
(Calls Tryd.prog 19 #[(Value.slice o79 n80 n81), (Value.slice (some (⟨(hs w), 0, none⟩ : Addr)) 2 2), (Value.agg #[(Value.slice (some (⟨(hs w54), 0, none⟩ : Addr)) 2 2), (Value.slice (some (⟨(hs w78), 0, none⟩ : Addr)) 2 2), (Value.slice none 0 0)])] w82 (fun (e84 : Ending) => (fun (w85 : World) => (∃ b86 : Bool, ((e84 = (Ending.returned (Value.bool b86))) ∧
(K [(Value.slice o n c), (Value.bool b86)] w85))))))))))))))) ∧
(∀ w87 : World, ((w87 = (w75.alloc (Obj.cells #[(Value.int IntKind.i64 0), (Value.int IntKind.i64 0)] 2 (0, 0)))) →
(Calls Tryd.prog 12 #[(Value.slice o n c)] w87 (fun (e89 : Ending) => (fun (w90 : World) => (∃ o91 : Option Addr, (∃ n92 : Nat, (∃ n93 : Nat, ((e89 = (Ending.returned (Value.slice o91 n92 n93))) ∧
(Calls Tryd.prog 19 #[(Value.slice o91 n92 n93), (Value.slice (some (⟨(hs w), 0, none⟩ : Addr)) 2 2), (Value.agg #[(Value.slice (some (⟨(hs w54), 0, none⟩ : Addr)) 2 2), (Value.slice (some (⟨(hs w75), 0, none⟩ : Addr)) 2 2), (Value.slice none 0 0)])] w90 (fun (e94 : Ending) => (fun (w95 : World) => (∃ b96 : Bool, ((e94 = (Ending.returned (Value.bool b96))) ∧
(K [(Value.slice o n c), (Value.bool b96)] w95)))))))))))))))))) ∧
(∀ w97 : World, ((w97 = (w54.alloc (Obj.cells #[(Value.int IntKind.i64 0), (Value.int IntKind.i64 0)] 2 (0, 0)))) →
((Calls Tryd.prog 12 #[(Value.slice o n c)] w97 (fun (e99 : Ending) => (fun (w100 : World) => (∃ o101 : Option Addr, (∃ n102 : Nat, (∃ n103 : Nat, ((e99 = (Ending.returned (Value.slice o101 n102 n103))) ∧
(∀ w104 : World, ((w104 = (w100.alloc (Obj.cells #[(Value.int IntKind.i64 1), (Value.int IntKind.i64 2)] 2 (0, 0)))) →
(Calls Tryd.prog 19 #[(Value.slice o101 n102 n103), (Value.slice (some (⟨(hs w), 0, none⟩ : Addr)) 2 2), (Value.agg #[(Value.slice (some (⟨(hs w100), 0, none⟩ : Addr)) 2 2), (Value.slice (some (⟨(hs w54), 0, none⟩ : Addr)) 2 2), (Value.slice none 0 0)])] w104 (fun (e106 : Ending) => (fun (w107 : World) => (∃ b108 : Bool, ((e106 = (Ending.returned (Value.bool b108))) ∧
(K [(Value.slice o n c), (Value.bool b108)] w107))))))))))))))) ∧
(∀ w109 : World, ((w109 = (w97.alloc (Obj.cells #[(Value.int IntKind.i64 1), (Value.int IntKind.i64 2)] 2 (0, 0)))) →
(Calls Tryd.prog 12 #[(Value.slice o n c)] w109 (fun (e111 : Ending) => (fun (w112 : World) => (∃ o113 : Option Addr, (∃ n114 : Nat, (∃ n115 : Nat, ((e111 = (Ending.returned (Value.slice o113 n114 n115))) ∧
(Calls Tryd.prog 19 #[(Value.slice o113 n114 n115), (Value.slice (some (⟨(hs w), 0, none⟩ : Addr)) 2 2), (Value.agg #[(Value.slice (some (⟨(hs w97), 0, none⟩ : Addr)) 2 2), (Value.slice (some (⟨(hs w54), 0, none⟩ : Addr)) 2 2), (Value.slice none 0 0)])] w112 (fun (e116 : Ending) => (fun (w117 : World) => (∃ b118 : Bool, ((e116 = (Ending.returned (Value.bool b118))) ∧
(K [(Value.slice o n c), (Value.bool b118)] w117)))))))))))))))))))))) ∧
((∀ w119 : World, ((w119 = (w.alloc (Obj.cells #[(Value.int IntKind.i64 1), (Value.int IntKind.i64 2)] 2 (0, 0)))) →
((Calls Tryd.prog 12 #[(Value.slice o n c)] w119 (fun (e121 : Ending) => (fun (w122 : World) => (∃ o123 : Option Addr, (∃ n124 : Nat, (∃ n125 : Nat, ((e121 = (Ending.returned (Value.slice o123 n124 n125))) ∧
((∀ w126 : World, ((w126 = (w122.alloc (Obj.cells #[(Value.int IntKind.i64 1), (Value.int IntKind.i64 0)] 3 (0, 0)))) →
(∀ w128 : World, ((w128 = (w126.alloc (Obj.cells #[(Value.int IntKind.i64 0), (Value.int IntKind.i64 0)] 2 (0, 0)))) →
(Calls Tryd.prog 19 #[(Value.slice o123 n124 n125), (Value.slice (some (⟨(hs w122), 0, none⟩ : Addr)) 2 2), (Value.agg #[(Value.slice (some (⟨(hs w), 0, none⟩ : Addr)) 2 2), (Value.slice (some (⟨(hs w126), 0, none⟩ : Addr)) 2 2), (Value.slice none 0 0)])] w128 (fun (e130 : Ending) => (fun (w131 : World) => (∃ b132 : Bool, ((e130 = (Ending.returned (Value.bool b132))) ∧
(K [(Value.slice o n c), (Value.bool b132)] w131)))))))))) ∧
(∀ w133 : World, ((w133 = (w122.alloc (Obj.cells #[(Value.int IntKind.i64 0), (Value.int IntKind.i64 0)] 2 (0, 0)))) →
(∀ w135 : World, ((w135 = (w133.alloc (Obj.cells #[(Value.int IntKind.i64 1), (Value.int IntKind.i64 0)] 3 (0, 0)))) →
(Calls Tryd.prog 19 #[(Value.slice o123 n124 n125), (Value.slice (some (⟨(hs w133), 0, none⟩ : Addr)) 2 2), (Value.agg #[(Value.slice (some (⟨(hs w), 0, none⟩ : Addr)) 2 2), (Value.slice (some (⟨(hs w122), 0, none⟩ : Addr)) 2 2), (Value.slice none 0 0)])] w135 (fun (e137 : Ending) => (fun (w138 : World) => (∃ b139 : Bool, ((e137 = (Ending.returned (Value.bool b139))) ∧
(K [(Value.slice o n c), (Value.bool b139)] w138)))))))))))))))))) ∧
((∀ w140 : World, ((w140 = (w119.alloc (Obj.cells #[(Value.int IntKind.i64 1), (Value.int IntKind.i64 0)] 3 (0, 0)))) →
((Calls Tryd.prog 12 #[(Value.slice o n c)] w140 (fun (e142 : Ending) => (fun (w143 : World) => (∃ o144 : Option Addr, (∃ n145 : Nat, (∃ n146 : Nat, ((e142 = (Ending.returned (Value.slice o144 n145 n146))) ∧
(∀ w147 : World, ((w147 = (w143.alloc (Obj.cells #[(Value.int IntKind.i64 0), (Value.int IntKind.i64 0)] 2 (0, 0)))) →
(Calls Tryd.prog 19 #[(Value.slice o144 n145 n146), (Value.slice (some (⟨(hs w119), 0, none⟩ : Addr)) 2 2), (Value.agg #[(Value.slice (some (⟨(hs w), 0, none⟩ : Addr)) 2 2), (Value.slice (some (⟨(hs w143), 0, none⟩ : Addr)) 2 2), (Value.slice none 0 0)])] w147 (fun (e149 : Ending) => (fun (w150 : World) => (∃ b151 : Bool, ((e149 = (Ending.returned (Value.bool b151))) ∧
(K [(Value.slice o n c), (Value.bool b151)] w150))))))))))))))) ∧
(∀ w152 : World, ((w152 = (w140.alloc (Obj.cells #[(Value.int IntKind.i64 0), (Value.int IntKind.i64 0)] 2 (0, 0)))) →
(Calls Tryd.prog 12 #[(Value.slice o n c)] w152 (fun (e154 : Ending) => (fun (w155 : World) => (∃ o156 : Option Addr, (∃ n157 : Nat, (∃ n158 : Nat, ((e154 = (Ending.returned (Value.slice o156 n157 n158))) ∧
(Calls Tryd.prog 19 #[(Value.slice o156 n157 n158), (Value.slice (some (⟨(hs w119), 0, none⟩ : Addr)) 2 2), (Value.agg #[(Value.slice (some (⟨(hs w), 0, none⟩ : Addr)) 2 2), (Value.slice (some (⟨(hs w140), 0, none⟩ : Addr)) 2 2), (Value.slice none 0 0)])] w155 (fun (e159 : Ending) => (fun (w160 : World) => (∃ b161 : Bool, ((e159 = (Ending.returned (Value.bool b161))) ∧
(K [(Value.slice o n c), (Value.bool b161)] w160)))))))))))))))))) ∧
(∀ w162 : World, ((w162 = (w119.alloc (Obj.cells #[(Value.int IntKind.i64 0), (Value.int IntKind.i64 0)] 2 (0, 0)))) →
((Calls Tryd.prog 12 #[(Value.slice o n c)] w162 (fun (e164 : Ending) => (fun (w165 : World) => (∃ o166 : Option Addr, (∃ n167 : Nat, (∃ n168 : Nat, ((e164 = (Ending.returned (Value.slice o166 n167 n168))) ∧
(∀ w169 : World, ((w169 = (w165.alloc (Obj.cells #[(Value.int IntKind.i64 1), (Value.int IntKind.i64 0)] 3 (0, 0)))) →
(Calls Tryd.prog 19 #[(Value.slice o166 n167 n168), (Value.slice (some (⟨(hs w165), 0, none⟩ : Addr)) 2 2), (Value.agg #[(Value.slice (some (⟨(hs w), 0, none⟩ : Addr)) 2 2), (Value.slice (some (⟨(hs w119), 0, none⟩ : Addr)) 2 2), (Value.slice none 0 0)])] w169 (fun (e171 : Ending) => (fun (w172 : World) => (∃ b173 : Bool, ((e171 = (Ending.returned (Value.bool b173))) ∧
(K [(Value.slice o n c), (Value.bool b173)] w172))))))))))))))) ∧
(∀ w174 : World, ((w174 = (w162.alloc (Obj.cells #[(Value.int IntKind.i64 1), (Value.int IntKind.i64 0)] 3 (0, 0)))) →
(Calls Tryd.prog 12 #[(Value.slice o n c)] w174 (fun (e176 : Ending) => (fun (w177 : World) => (∃ o178 : Option Addr, (∃ n179 : Nat, (∃ n180 : Nat, ((e176 = (Ending.returned (Value.slice o178 n179 n180))) ∧
(Calls Tryd.prog 19 #[(Value.slice o178 n179 n180), (Value.slice (some (⟨(hs w162), 0, none⟩ : Addr)) 2 2), (Value.agg #[(Value.slice (some (⟨(hs w), 0, none⟩ : Addr)) 2 2), (Value.slice (some (⟨(hs w119), 0, none⟩ : Addr)) 2 2), (Value.slice none 0 0)])] w177 (fun (e181 : Ending) => (fun (w182 : World) => (∃ b183 : Bool, ((e181 = (Ending.returned (Value.bool b183))) ∧
(K [(Value.slice o n c), (Value.bool b183)] w182)))))))))))))))))))))) ∧
(∀ w184 : World, ((w184 = (w.alloc (Obj.cells #[(Value.int IntKind.i64 0), (Value.int IntKind.i64 0)] 2 (0, 0)))) →
((Calls Tryd.prog 12 #[(Value.slice o n c)] w184 (fun (e186 : Ending) => (fun (w187 : World) => (∃ o188 : Option Addr, (∃ n189 : Nat, (∃ n190 : Nat, ((e186 = (Ending.returned (Value.slice o188 n189 n190))) ∧
((∀ w191 : World, ((w191 = (w187.alloc (Obj.cells #[(Value.int IntKind.i64 1), (Value.int IntKind.i64 0)] 3 (0, 0)))) →
(∀ w193 : World, ((w193 = (w191.alloc (Obj.cells #[(Value.int IntKind.i64 1), (Value.int IntKind.i64 2)] 2 (0, 0)))) →
(Calls Tryd.prog 19 #[(Value.slice o188 n189 n190), (Value.slice (some (⟨(hs w187), 0, none⟩ : Addr)) 2 2), (Value.agg #[(Value.slice (some (⟨(hs w191), 0, none⟩ : Addr)) 2 2), (Value.slice (some (⟨(hs w), 0, none⟩ : Addr)) 2 2), (Value.slice none 0 0)])] w193 (fun (e195 : Ending) => (fun (w196 : World) => (∃ b197 : Bool, ((e195 = (Ending.returned (Value.bool b197))) ∧
(K [(Value.slice o n c), (Value.bool b197)] w196)))))))))) ∧
(∀ w198 : World, ((w198 = (w187.alloc (Obj.cells #[(Value.int IntKind.i64 1), (Value.int IntKind.i64 2)] 2 (0, 0)))) →
(∀ w200 : World, ((w200 = (w198.alloc (Obj.cells #[(Value.int IntKind.i64 1), (Value.int IntKind.i64 0)] 3 (0, 0)))) →
(Calls Tryd.prog 19 #[(Value.slice o188 n189 n190), (Value.slice (some (⟨(hs w198), 0, none⟩ : Addr)) 2 2), (Value.agg #[(Value.slice (some (⟨(hs w187), 0, none⟩ : Addr)) 2 2), (Value.slice (some (⟨(hs w), 0, none⟩ : Addr)) 2 2), (Value.slice none 0 0)])] w200 (fun (e202 : Ending) => (fun (w203 : World) => (∃ b204 : Bool, ((e202 = (Ending.returned (Value.bool b204))) ∧
(K [(Value.slice o n c), (Value.bool b204)] w203)))))))))))))))))) ∧
((∀ w205 : World, ((w205 = (w184.alloc (Obj.cells #[(Value.int IntKind.i64 1), (Value.int IntKind.i64 0)] 3 (0, 0)))) →
((Calls Tryd.prog 12 #[(Value.slice o n c)] w205 (fun (e207 : Ending) => (fun (w208 : World) => (∃ o209 : Option Addr, (∃ n210 : Nat, (∃ n211 : Nat, ((e207 = (Ending.returned (Value.slice o209 n210 n211))) ∧
(∀ w212 : World, ((w212 = (w208.alloc (Obj.cells #[(Value.int IntKind.i64 1), (Value.int IntKind.i64 2)] 2 (0, 0)))) →
(Calls Tryd.prog 19 #[(Value.slice o209 n210 n211), (Value.slice (some (⟨(hs w184), 0, none⟩ : Addr)) 2 2), (Value.agg #[(Value.slice (some (⟨(hs w208), 0, none⟩ : Addr)) 2 2), (Value.slice (some (⟨(hs w), 0, none⟩ : Addr)) 2 2), (Value.slice none 0 0)])] w212 (fun (e214 : Ending) => (fun (w215 : World) => (∃ b216 : Bool, ((e214 = (Ending.returned (Value.bool b216))) ∧
(K [(Value.slice o n c), (Value.bool b216)] w215))))))))))))))) ∧
(∀ w217 : World, ((w217 = (w205.alloc (Obj.cells #[(Value.int IntKind.i64 1), (Value.int IntKind.i64 2)] 2 (0, 0)))) →
(Calls Tryd.prog 12 #[(Value.slice o n c)] w217 (fun (e219 : Ending) => (fun (w220 : World) => (∃ o221 : Option Addr, (∃ n222 : Nat, (∃ n223 : Nat, ((e219 = (Ending.returned (Value.slice o221 n222 n223))) ∧
(Calls Tryd.prog 19 #[(Value.slice o221 n222 n223), (Value.slice (some (⟨(hs w184), 0, none⟩ : Addr)) 2 2), (Value.agg #[(Value.slice (some (⟨(hs w205), 0, none⟩ : Addr)) 2 2), (Value.slice (some (⟨(hs w), 0, none⟩ : Addr)) 2 2), (Value.slice none 0 0)])] w220 (fun (e224 : Ending) => (fun (w225 : World) => (∃ b226 : Bool, ((e224 = (Ending.returned (Value.bool b226))) ∧
(K [(Value.slice o n c), (Value.bool b226)] w225)))))))))))))))))) ∧
(∀ w227 : World, ((w227 = (w184.alloc (Obj.cells #[(Value.int IntKind.i64 1), (Value.int IntKind.i64 2)] 2 (0, 0)))) →
((Calls Tryd.prog 12 #[(Value.slice o n c)] w227 (fun (e229 : Ending) => (fun (w230 : World) => (∃ o231 : Option Addr, (∃ n232 : Nat, (∃ n233 : Nat, ((e229 = (Ending.returned (Value.slice o231 n232 n233))) ∧
(∀ w234 : World, ((w234 = (w230.alloc (Obj.cells #[(Value.int IntKind.i64 1), (Value.int IntKind.i64 0)] 3 (0, 0)))) →
(Calls Tryd.prog 19 #[(Value.slice o231 n232 n233), (Value.slice (some (⟨(hs w230), 0, none⟩ : Addr)) 2 2), (Value.agg #[(Value.slice (some (⟨(hs w184), 0, none⟩ : Addr)) 2 2), (Value.slice (some (⟨(hs w), 0, none⟩ : Addr)) 2 2), (Value.slice none 0 0)])] w234 (fun (e236 : Ending) => (fun (w237 : World) => (∃ b238 : Bool, ((e236 = (Ending.returned (Value.bool b238))) ∧
(K [(Value.slice o n c), (Value.bool b238)] w237))))))))))))))) ∧
(∀ w239 : World, ((w239 = (w227.alloc (Obj.cells #[(Value.int IntKind.i64 1), (Value.int IntKind.i64 0)] 3 (0, 0)))) →
(Calls Tryd.prog 12 #[(Value.slice o n c)] w239 (fun (e241 : Ending) => (fun (w242 : World) => (∃ o243 : Option Addr, (∃ n244 : Nat, (∃ n245 : Nat, ((e241 = (Ending.returned (Value.slice o243 n244 n245))) ∧
(Calls Tryd.prog 19 #[(Value.slice o243 n244 n245), (Value.slice (some (⟨(hs w227), 0, none⟩ : Addr)) 2 2), (Value.agg #[(Value.slice (some (⟨(hs w184), 0, none⟩ : Addr)) 2 2), (Value.slice (some (⟨(hs w), 0, none⟩ : Addr)) 2 2), (Value.slice none 0 0)])] w242 (fun (e246 : Ending) => (fun (w247 : World) => (∃ b248 : Bool, ((e246 = (Ending.returned (Value.bool b248))) ∧
(K [(Value.slice o n c), (Value.bool b248)] w247)))))))))))))))))))))))))) :
    vcG Tryd.prog (ops9 Tryd.f9.body) ms9 effs9 dl9 t9C (upTo 26 28) [] (g.fill [1, 57] [(.slice o n c), (.bool true)]) w (stop dl9 (upTo 35 19) [1, 66] K) :=
  Eq.mp (by kernel_rfl) h
set_option maxRecDepth 100000 in
theorem nf9D (g : Env) (o : Option Addr) (n c : Nat) (w : World) (K : List Value → World → Prop) (h :
(Calls Tryd.prog 12 #[(Value.slice o n c)] w (fun (e1 : Ending) => (fun (w2 : World) => (∃ o3 : Option Addr, (∃ n4 : Nat, (∃ n5 : Nat, ((e1 = (Ending.returned (Value.slice o3 n4 n5))) ∧
(Calls Tryd.prog 26 #[(Value.slice o3 n4 n5), (Value.int IntKind.i64 1), (Value.int IntKind.i64 0)] w2 (fun (e6 : Ending) => (fun (w7 : World) => (∃ x8 : Int, ((e6 = (Ending.returned (Value.int IntKind.i64 x8))) ∧
(K [(Value.slice o n c), (Value.bool (decide (x8 = 0)))] w7)))))))))))))) :
    vcG Tryd.prog (ops9 Tryd.f9.body) ms9 effs9 dl9 t9D (upTo 35 19) [] (g.fill [1, 66] [(.slice o n c), (.bool true)]) w (stop dl9 (upTo 41 13) [1, 72] K) :=
  Eq.mp (by kernel_rfl) h
set_option maxRecDepth 100000 in
theorem nf9E (g : Env) (o : Option Addr) (n c : Nat) (w : World) (K : List Value → World → Prop) (h :
(Calls Tryd.prog 12 #[(Value.slice o n c)] w (fun (e1 : Ending) => (fun (w2 : World) => (∃ o3 : Option Addr, (∃ n4 : Nat, (∃ n5 : Nat, ((e1 = (Ending.returned (Value.slice o3 n4 n5))) ∧
(Calls Tryd.prog 26 #[(Value.slice o3 n4 n5), (Value.int IntKind.i64 0), (Value.int IntKind.i64 0)] w2 (fun (e6 : Ending) => (fun (w7 : World) => (∃ x8 : Int, ((e6 = (Ending.returned (Value.int IntKind.i64 x8))) ∧
(K [(Value.bool (decide (x8 = 4611686018427387904)))] w7)))))))))))))) :
    vcG Tryd.prog (ops9 Tryd.f9.body) ms9 effs9 dl9 t9E (upTo 41 13) [] (g.fill [1, 72] [(.slice o n c), (.bool true)]) w (stop dl9 (upTo 47 7) [78] K) :=
  Eq.mp (by kernel_rfl) h
set_option maxRecDepth 100000 in
theorem nf9F (g : Env) (w : World) (R : Ending → World → Prop) (h :
((∀ w1 : World, ((w1 = (w.alloc (Obj.cells #[(Value.int IntKind.i64 1), (Value.int IntKind.i64 (-12))] 2 (0, 0)))) →
(∀ w3 : World, ((w3 = (w1.alloc (Obj.cells #[(Value.int IntKind.i64 0)] 3 (0, 0)))) →
(Calls Tryd.prog 23 #[(Value.agg #[(Value.slice (some (⟨(hs w), 0, none⟩ : Addr)) 2 2), (Value.slice none 0 0), (Value.slice (some (⟨(hs w1), 0, none⟩ : Addr)) 1 1)])] w3 (fun (e5 : Ending) => (fun (w6 : World) => (∃ s7 : ByteArray, ((e5 = (Ending.returned (Value.string s7))) ∧
(R (Ending.returned (Value.bool (Nf.strEq s7 (ByteArray.mk #[(114 : UInt8), (111 : UInt8), (119 : UInt8), (115 : UInt8), (32 : UInt8), (49 : UInt8), (32 : UInt8), (45 : UInt8), (49 : UInt8), (50 : UInt8), (10 : UInt8), (99 : UInt8), (111 : UInt8), (108 : UInt8), (117 : UInt8), (109 : UInt8), (110 : UInt8), (115 : UInt8), (10 : UInt8), (115 : UInt8), (104 : UInt8), (111 : UInt8), (114 : UInt8), (116 : UInt8), (32 : UInt8), (48 : UInt8), (10 : UInt8)])))) w6)))))))))) ∧
(∀ w8 : World, ((w8 = (w.alloc (Obj.cells #[(Value.int IntKind.i64 0)] 3 (0, 0)))) →
(∀ w10 : World, ((w10 = (w8.alloc (Obj.cells #[(Value.int IntKind.i64 1), (Value.int IntKind.i64 (-12))] 2 (0, 0)))) →
(Calls Tryd.prog 23 #[(Value.agg #[(Value.slice (some (⟨(hs w8), 0, none⟩ : Addr)) 2 2), (Value.slice none 0 0), (Value.slice (some (⟨(hs w), 0, none⟩ : Addr)) 1 1)])] w10 (fun (e12 : Ending) => (fun (w13 : World) => (∃ s14 : ByteArray, ((e12 = (Ending.returned (Value.string s14))) ∧
(R (Ending.returned (Value.bool (Nf.strEq s14 (ByteArray.mk #[(114 : UInt8), (111 : UInt8), (119 : UInt8), (115 : UInt8), (32 : UInt8), (49 : UInt8), (32 : UInt8), (45 : UInt8), (49 : UInt8), (50 : UInt8), (10 : UInt8), (99 : UInt8), (111 : UInt8), (108 : UInt8), (117 : UInt8), (109 : UInt8), (110 : UInt8), (115 : UInt8), (10 : UInt8), (115 : UInt8), (104 : UInt8), (111 : UInt8), (114 : UInt8), (116 : UInt8), (32 : UInt8), (48 : UInt8), (10 : UInt8)])))) w13)))))))))))) :
    vcE Tryd.prog (ops9 Tryd.f9.body) ms9 effs9 t9F (upTo 47 7) [] (g.fill [78] [(.bool true)]) w (fun ρ w => R (.returned (ρ 0)) w) :=
  Eq.mp (by kernel_rfl) h
set_option maxRecDepth 100000 in
theorem nf9 (w : World) (R : Ending → World → Prop) (h : vc Tryd.prog (Tryd.f9.body.getD .skip) an9 (retQ Tryd.prog Tryd.f9 R) (argEnv #[]) w) : Calls Tryd.prog 9 #[] w R :=
  calls_of_vc an9 Tryd.func9 (by kernel_rfl) (by kernel_rfl) (by kernel_rfl) h
set_option maxRecDepth 100000 in
theorem nf9R (g : Env) (vs : List Value) (w : World) (R : Ending → World → Prop) (h : ∀ w1 : World, w1 = w.drew → vcE Tryd.prog (ops9 Tryd.f9.body) ms9 effs9 t9 (upTo 0 54) [] (g.fill [1, 2, 3, 5, 7] vs) w1 (fun ρ w => R (.returned (ρ 0)) w)) :
    vc Tryd.prog (seqR 5 (Tryd.f9.body.getD .skip)) (anR 5 an9) (retQ Tryd.prog Tryd.f9 R) (g.fill [1, 2, 3, 5, 7] vs) w :=
  Eq.mp (by kernel_rfl) h
set_option maxRecDepth 100000 in
theorem deads9 : deadsOk (ops9 Tryd.f9.body) effs9 dl9 = true := by kernel_rfl
end Go.Proofs.YtneklhmkiememaaDoor
