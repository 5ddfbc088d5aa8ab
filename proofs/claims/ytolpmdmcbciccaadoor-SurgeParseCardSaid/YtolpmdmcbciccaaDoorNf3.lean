/- The contracts' premises: for each function, the proposition that its body comes to (printed by the tool of wip/nf). -/
import Derived.Test.YtolpmdmcbciccaaDoorRows
import Derived.Test.YtolpmdmcbciccaaDoorNfD
namespace Go.Proofs.YtolpmdmcbciccaaDoor
open Go Go.Nf

/-- slices.IndexFunc[[]samaritan/api.ResponsePlan,samaritan/api.ResponsePlan] -/
def an67 : An := (.seq (.reg []) (.seq (.seq (.reg []) (.blk (.loop [(8, .int .i64)] (.seq (.reg [(0, 0, true)]) (.seq (.cond .nil .nil) (.seq (.blk (.seq (.reg []) (.seq (.reg [(5, 1, true)]) (.cond (.seq (.reg []) .nil) .nil)))) (.reg []))))))) (.seq (.reg []) .nil)))
set_option maxRecDepth 100000 in
theorem nf67 (s : Option Addr) (s_n : Nat) (s_c : Nat) (f_f : Fn) (f_a : Array Value) (f_c : Array Value) (w : World) (R : Ending → World → Prop) (h :
(∃ k1 : (Nat → (Int → (World → Prop))), ((∃ n2 : Nat, (k1 n2 0 w)) ∧
(∀ n3 : Nat, ((Nat → Value) →
(∀ w5 : World, (∀ x6 : Int, ((k1 n3 x6 w5) →
((((decide (x6 < ((s_n : Nat) : Int))) = true) →
(∃ a9 : Addr, ((s = (some a9)) ∧
((((0 : Int) ≤ x6) ∧
(x6 < ((s_n : Nat) : Int))) ∧
(∃ s10 : ByteArray, (((w5.cell? (Addr.add a9 ((x6).toNat * 3))) = (some (Value.string s10))) ∧
(∃ x11 : Int, (((w5.cell? (Addr.add (Addr.add a9 ((x6).toNat * 3)) 1)) = (some (Value.int IntKind.i64 x11))) ∧
(∃ o12 : Option Addr, (∃ n13 : Nat, (∃ n14 : Nat, (((w5.cell? (Addr.add (Addr.add a9 ((x6).toNat * 3)) 2)) = (some (Value.slice o12 n13 n14))) ∧
(CallsV Tryd.prog (Value.func f_f f_a f_c) [(Value.agg #[(Value.string s10), (Value.int IntKind.i64 x11), (Value.slice o12 n13 n14)])] w5 (fun (e15 : Ending) => (fun (w16 : World) => (∃ b17 : Bool, ((e15 = (Ending.returned (Value.bool b17))) ∧
(((b17 = true) →
(R (Ending.returned (Value.int IntKind.i64 x6)) w16)) ∧
((b17 = false) →
(∃ n20 : Nat, ((n20 < n3) ∧
(k1 n20 (IntKind.wrap IntKind.i64 (x6 + 1)) w16)))))))))))))))))))))) ∧
(((decide (x6 < ((s_n : Nat) : Int))) = false) →
(R (Ending.returned (Value.int IntKind.i64 (-1))) w5))))))))))) :
    Calls Tryd.prog 67 #[(.slice s s_n s_c), (.func f_f f_a f_c)] w R :=
  calls_of_vc an67 Tryd.func67 rfl (by kernel_rfl) (by kernel_rfl) (Eq.mp (by kernel_rfl) h)

/-- slices.Clone[[]int,int] -/
def an58 : An := (.seq (.reg []) (.seq (.seq (.reg [(1, 3, true)]) (.cond (.seq (.reg []) .nil) .nil)) (.seq (.reg [(2, 1, false)]) .nil)))
set_option maxRecDepth 100000 in
theorem nf58 (s : Option Addr) (s_n : Nat) (s_c : Nat) (w : World) (R : Ending → World → Prop) (h :
((((Option.isNone s) = true) →
(R (Ending.returned (Value.slice none 0 0)) w)) ∧
(((Option.isNone s) = false) →
(∀ w3 : World, ((w3 = (w.alloc (Obj.cells #[] 3 (0, 0)))) →
(RunOk Tryd.prog (Nf.Hold (Builtin.append_ #[71, 71] 71 #[(Value.slice (some (⟨(hs w), 0, none⟩ : Addr)) 0 0), (Value.slice s s_n s_c)])) w3 (fun (v5 : Value) => (fun (w6 : World) => (∃ o7 : Option Addr, (∃ n8 : Nat, (∃ n9 : Nat, ((v5 = (Value.slice o7 n8 n9)) ∧
(R (Ending.returned (Value.slice o7 n8 n9)) w6))))))))))))) :
    Calls Tryd.prog 58 #[(.slice s s_n s_c)] w R :=
  calls_of_vc an58 Tryd.func58 rfl (by kernel_rfl) (by kernel_rfl) (Eq.mp (by kernel_rfl) h)

/-- internal/stringslite.HasPrefix -/
def an82 : An := (.seq (.reg []) (.seq (.reg [(4, 0, true), (9, 2, false), (11, 3, true)]) .nil))
set_option maxRecDepth 100000 in
theorem nf82 (s : ByteArray) (pfx : ByteArray) (w : World) (R : Ending → World → Prop) (h :
((((decide ((((ByteArray.size s) : Nat) : Int) ≥ (((ByteArray.size pfx) : Nat) : Int))) = true) →
((((0 : Int) ≤ (((ByteArray.size pfx) : Nat) : Int)) ∧
((((ByteArray.size pfx) : Nat) : Int) ≤ (((ByteArray.size s) : Nat) : Int))) ∧
((((Nf.strEq (ByteArray.extract s 0 ((((ByteArray.size pfx) : Nat) : Int)).toNat) pfx) = true) →
(R (Ending.returned (Value.bool true)) w)) ∧
(((Nf.strEq (ByteArray.extract s 0 ((((ByteArray.size pfx) : Nat) : Int)).toNat) pfx) = false) →
(R (Ending.returned (Value.bool false)) w))))) ∧
(((decide ((((ByteArray.size s) : Nat) : Int) ≥ (((ByteArray.size pfx) : Nat) : Int))) = false) →
(R (Ending.returned (Value.bool false)) w)))) :
    Calls Tryd.prog 82 #[(.string s), (.string pfx)] w R :=
  calls_of_vc an82 Tryd.func82 rfl (by kernel_rfl) (by kernel_rfl) (Eq.mp (by kernel_rfl) h)

/-- internal/stringslite.CutPrefix -/
def an73 : An := (.seq (.reg []) (.seq (.seq (.reg [(2, 0, true)]) (.cond (.seq (.reg []) .nil) .nil)) (.seq (.reg [(3, 2, false)]) .nil)))
set_option maxRecDepth 100000 in
theorem nf73 (s : ByteArray) (pfx : ByteArray) (w : World) (R : Ending → World → Prop) (h :
(Calls Tryd.prog 82 #[(Value.string s), (Value.string pfx)] w (fun (e1 : Ending) => (fun (w2 : World) => (∃ b3 : Bool, ((e1 = (Ending.returned (Value.bool b3))) ∧
(((b3 = true) →
((((0 : Int) ≤ (((ByteArray.size pfx) : Nat) : Int)) ∧
((((ByteArray.size pfx) : Nat) : Int) ≤ (((ByteArray.size s) : Nat) : Int))) ∧
(R (Ending.returned (Value.tuple #[(Value.string (ByteArray.extract s ((((ByteArray.size pfx) : Nat) : Int)).toNat (ByteArray.size s))), (Value.bool true)])) w2))) ∧
((b3 = false) →
(R (Ending.returned (Value.tuple #[(Value.string s), (Value.bool false)])) w2))))))))) :
    Calls Tryd.prog 73 #[(.string s), (.string pfx)] w R :=
  calls_of_vc an73 Tryd.func73 rfl (by kernel_rfl) (by kernel_rfl) (Eq.mp (by kernel_rfl) h)

/-- strings.CutPrefix -/
def an66 : An := (.seq (.reg []) (.seq (.reg []) .nil))
set_option maxRecDepth 100000 in
theorem nf66 (s : ByteArray) (pfx : ByteArray) (w : World) (R : Ending → World → Prop) (h :
(Calls Tryd.prog 73 #[(Value.string s), (Value.string pfx)] w (fun (e1 : Ending) => (fun (w2 : World) => (∃ s3 : ByteArray, (∃ b4 : Bool, ((e1 = (Ending.returned (Value.tuple #[(Value.string s3), (Value.bool b4)]))) ∧
(R (Ending.returned (Value.tuple #[(Value.string s3), (Value.bool b4)])) w2)))))))) :
    Calls Tryd.prog 66 #[(.string s), (.string pfx)] w R :=
  calls_of_vc an66 Tryd.func66 rfl (by kernel_rfl) (by kernel_rfl) (Eq.mp (by kernel_rfl) h)

/-- (*strings.Builder).WriteString -/
def an49 : An := (.seq (.reg []) (.seq (.reg []) (.seq (.reg [(2, 2, false), (6, 1, false), (7, 2, false)]) (.seq (.reg []) .nil))))
set_option maxRecDepth 100000 in
theorem nf49 (b : Option Addr) (s : ByteArray) (w : World) (R : Ending → World → Prop) (h :
(Calls Tryd.prog 63 #[(Value.pointer b)] w (fun (e1 : Ending) => (fun (w2 : World) => ((e1 = (Ending.returned (Value.tuple #[]))) ∧
(∃ a3 : Addr, ((b = (some a3)) ∧
(∃ o4 : Option Addr, (∃ n5 : Nat, (∃ n6 : Nat, (((w2.cell? (Addr.add a3 1)) = (some (Value.slice o4 n5 n6))) ∧
(RunOk Tryd.prog (Nf.Hold (Builtin.append_ #[91, 9] 91 #[(Value.slice o4 n5 n6), (Value.string s)])) w2 (fun (v7 : Value) => (fun (w8 : World) => (∃ o9 : Option Addr, (∃ n10 : Nat, (∃ n11 : Nat, ((v7 = (Value.slice o9 n10 n11)) ∧
(∃ a12 : Addr, ((b = (some a12)) ∧
((Nf.There w8 (Addr.add a12 1) 1) ∧
(∀ w13 : World, ((w13 = (Nf.setCells w8 (Addr.add a12 1) [(Value.slice o9 n10 n11)] 0)) →
(R (Ending.returned (Value.tuple #[(Value.int IntKind.i64 (((ByteArray.size s) : Nat) : Int)), Value.nilIface])) w13)))))))))))))))))))))))) :
    Calls Tryd.prog 49 #[(.pointer b), (.string s)] w R :=
  calls_of_vc an49 Tryd.func49 rfl (by kernel_rfl) (by kernel_rfl) (Eq.mp (by kernel_rfl) h)

/-- strings.Cut -/
def an53 : An := (.seq (.reg []) (.seq (.reg []) .nil))
set_option maxRecDepth 100000 in
theorem nf53 (s : ByteArray) (sep : ByteArray) (w : World) (R : Ending → World → Prop) (h :
(Calls Tryd.prog 65 #[(Value.string s), (Value.string sep)] w (fun (e1 : Ending) => (fun (w2 : World) => (∃ s3 : ByteArray, (∃ s4 : ByteArray, (∃ b5 : Bool, ((e1 = (Ending.returned (Value.tuple #[(Value.string s3), (Value.string s4), (Value.bool b5)]))) ∧
(R (Ending.returned (Value.tuple #[(Value.string s3), (Value.string s4), (Value.bool b5)])) w2))))))))) :
    Calls Tryd.prog 53 #[(.string s), (.string sep)] w R :=
  calls_of_vc an53 Tryd.func53 rfl (by kernel_rfl) (by kernel_rfl) (Eq.mp (by kernel_rfl) h)

/-- internal/stringslite.Cut -/
def an65 : An := (.seq (.reg []) (.seq (.seq (.reg []) (.seq (.reg [(1, 0, true)]) (.cond (.seq (.regD [(2, 2, false), (8, 2, false)] [0, 1, 2, 3, 4, 5, 6, 7, 8, 9, 10, 11] []) .nil) .nil))) (.seq (.reg []) .nil)))
set_option maxRecDepth 100000 in
theorem nf65 (s : ByteArray) (sep : ByteArray) (w : World) (R : Ending → World → Prop) (h :
(Calls Tryd.prog 72 #[(Value.string s), (Value.string sep)] w (fun (e1 : Ending) => (fun (w2 : World) => (∃ x3 : Int, ((e1 = (Ending.returned (Value.int IntKind.i64 x3))) ∧
((((decide (x3 ≥ 0)) = true) →
(∀ w5 : World, ((w5 = w2.drew) →
((((0 : Int) ≤ x3) ∧
(x3 ≤ (((ByteArray.size s) : Nat) : Int))) ∧
((((0 : Int) ≤ (IntKind.wrap IntKind.i64 (x3 + (((ByteArray.size sep) : Nat) : Int)))) ∧
((IntKind.wrap IntKind.i64 (x3 + (((ByteArray.size sep) : Nat) : Int))) ≤ (((ByteArray.size s) : Nat) : Int))) ∧
(R (Ending.returned (Value.tuple #[(Value.string (ByteArray.extract s 0 (x3).toNat)), (Value.string (ByteArray.extract s ((IntKind.wrap IntKind.i64 (x3 + (((ByteArray.size sep) : Nat) : Int)))).toNat (ByteArray.size s))), (Value.bool true)])) w5)))))) ∧
(((decide (x3 ≥ 0)) = false) →
(R (Ending.returned (Value.tuple #[(Value.string s), (Value.string (ByteArray.mk #[])), (Value.bool false)])) w2))))))))) :
    Calls Tryd.prog 65 #[(.string s), (.string sep)] w R :=
  calls_of_vc an65 Tryd.func65 rfl (by kernel_rfl) (by kernel_rfl) (Eq.mp (by kernel_rfl) h)

end Go.Proofs.YtolpmdmcbciccaaDoor
