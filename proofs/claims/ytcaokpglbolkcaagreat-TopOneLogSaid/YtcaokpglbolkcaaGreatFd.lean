/- What TopOneLog looks at after each turn. -/
import Derived.Test.YtcaokpglbolkcaaGreatFc
namespace Go.Proofs.YtcaokpglbolkcaaGreat
open Go Go.Nf Go.RowKit Go.MapKept

def CheckP (pa mb : Nat) (o0 : Option Addr) (n0 c0 : Nat) (K : Option Addr → Nat → Nat → World → Prop) (R : Ending → World → Prop) (w0 : World) : Prop :=
(∃ k105 : (Nat → (Option Addr → (Nat → (Nat → (Int → (World → Prop)))))), ((∃ n106 : Nat, (k105 n106 o0 n0 c0 0 w0)) ∧
(∀ n107 : Nat, ((Nat → Value) →
(∀ w109 : World, (∀ o110 : Option Addr, (∀ n111 : Nat, (∀ n112 : Nat, (∀ x113 : Int, ((k105 n107 o110 n111 n112 x113 w109) →
((((decide (x113 < 5)) = true) →
(∀ k116 : (World → Prop), ((∀ w118 : World, (((Nat → Value) →
(∀ w121 : World, ((w121 = w118.drew) →
((((0 : Int) ≤ x113) ∧
(x113 < 5)) ∧
(∃ o123 : Option Addr, (((w121.cell? (Addr.add (⟨pa, 0, none⟩ : Addr) ((x113).toNat * 1))) = (some (Value.pointer o123))) ∧
((((0 : Int) ≤ x113) ∧
(x113 < 5)) ∧
(∃ o124 : Option Addr, (((w121.cell? (Addr.add (⟨pa, 0, none⟩ : Addr) ((x113).toNat * 1))) = (some (Value.pointer o124))) ∧
(Calls Tryz.prog 17 #[(Value.pointer o123)] w121 (fun (e125 : Ending) => (fun (w126 : World) => (∃ x127 : Int, ((e125 = (Ending.returned (Value.int IntKind.i64 x127))) ∧
((Nf.Kept w121 w126 (Addr.add (⟨pa, 0, none⟩ : Addr) ((x113).toNat * 1)) 1) ∧
(Calls Tryz.prog 20 #[(Value.pointer o124)] w126 (fun (e128 : Ending) => (fun (w129 : World) => (∃ x130 : Int, ((e128 = (Ending.returned (Value.int IntKind.i64 x130))) ∧
((((decide (x127 > x130)) = true) →
(R (Ending.returned (Value.bool false)) w129)) ∧
(((decide (x127 > x130)) = false) →
(∃ k133 : (Nat → (Option Addr → (Nat → (Nat → (Int → (World → Prop)))))), ((∃ n134 : Nat, (k133 n134 o110 n111 n112 1 w129)) ∧
(∀ n135 : Nat, ((Nat → Value) →
(∀ w137 : World, (∀ o138 : Option Addr, (∀ n139 : Nat, (∀ n140 : Nat, (∀ x141 : Int, ((k133 n135 o138 n139 n140 x141 w137) →
((((0 : Int) ≤ x113) ∧
(x113 < 5)) ∧
(∃ o143 : Option Addr, (((w137.cell? (Addr.add (⟨pa, 0, none⟩ : Addr) ((x113).toNat * 1))) = (some (Value.pointer o143))) ∧
(Calls Tryz.prog 17 #[(Value.pointer o143)] w137 (fun (e144 : Ending) => (fun (w145 : World) => (∃ x146 : Int, ((e144 = (Ending.returned (Value.int IntKind.i64 x146))) ∧
((((decide (x141 ≤ x146)) = true) →
((((0 : Int) ≤ x113) ∧
(x113 < 5)) ∧
(∃ o148 : Option Addr, (((w145.cell? (Addr.add (⟨pa, 0, none⟩ : Addr) ((x113).toNat * 1))) = (some (Value.pointer o148))) ∧
(Calls Tryz.prog 16 #[(Value.pointer o148), (Value.int IntKind.i64 x141)] w145 (fun (e149 : Ending) => (fun (w150 : World) => (∃ x151 : Int, (∃ x152 : Int, (∃ o153 : Option Addr, (∃ n154 : Nat, (∃ n155 : Nat, (∃ b156 : Bool, ((e149 = (Ending.returned (Value.tuple #[(Value.agg #[(Value.int IntKind.i64 x151), (Value.int IntKind.i64 x152), (Value.slice o153 n154 n155)]), (Value.bool b156)]))) ∧
(((b156 = true) →
(∀ w158 : World, ((w158 = (w150.alloc (Obj.cells #[(Value.int IntKind.i64 0), (Value.int IntKind.i64 0), (Value.slice none 0 0)] 49 (0, 0)))) →
((Nf.There w158 (⟨(hs w150), 0, none⟩ : Addr) 3) ∧
(∀ w160 : World, ((w160 = (Nf.setCells w158 (⟨(hs w150), 0, none⟩ : Addr) [(Value.int IntKind.i64 x151), (Value.int IntKind.i64 x152), (Value.slice o153 n154 n155)] 0)) →
(∀ k162 : (Option Addr → (Nat → (Nat → (World → Prop)))), ((∀ w164 : World, (∀ o165 : Option Addr, (∀ n166 : Nat, (∀ n167 : Nat, (((Nat → Value) →
(∃ a170 : Addr, ((o165 = (some a170)) ∧
((((0 : Int) ≤ (IntKind.wrap IntKind.i64 (x141 - 1))) ∧
((IntKind.wrap IntKind.i64 (x141 - 1)) < ((n166 : Nat) : Int))) ∧
(∃ x171 : Int, (((w164.cell? (Addr.add a170 (((IntKind.wrap IntKind.i64 (x141 - 1))).toNat * 3))) = (some (Value.int IntKind.i64 x171))) ∧
(∃ x172 : Int, (((w164.cell? (Addr.add (Addr.add a170 (((IntKind.wrap IntKind.i64 (x141 - 1))).toNat * 3)) 1)) = (some (Value.int IntKind.i64 x172))) ∧
(∃ o173 : Option Addr, (∃ n174 : Nat, (∃ n175 : Nat, (((w164.cell? (Addr.add (Addr.add a170 (((IntKind.wrap IntKind.i64 (x141 - 1))).toNat * 3)) 2)) = (some (Value.slice o173 n174 n175))) ∧
(∀ w176 : World, ((w176 = (w164.alloc (Obj.cells #[(Value.int IntKind.i64 0), (Value.int IntKind.i64 0), (Value.slice none 0 0)] 49 (0, 0)))) →
((Nf.There w176 (⟨(hs w164), 0, none⟩ : Addr) 3) ∧
(∀ w178 : World, ((w178 = (Nf.setCells w176 (⟨(hs w164), 0, none⟩ : Addr) [(Value.int IntKind.i64 x171), (Value.int IntKind.i64 x172), (Value.slice o173 n174 n175)] 0)) →
(∃ x180 : Int, (((w178.cell? (⟨(hs w164), 0, none⟩ : Addr)) = (some (Value.int IntKind.i64 x180))) ∧
(∃ x181 : Int, (((w178.cell? (⟨(hs w150), 0, none⟩ : Addr)) = (some (Value.int IntKind.i64 x181))) ∧
((((!(decide (x180 = x181))) = true) →
(R (Ending.returned (Value.bool false)) w178)) ∧
(((!(decide (x180 = x181))) = false) →
(∃ x184 : Int, (((w178.cell? (⟨(hs w164), 1, none⟩ : Addr)) = (some (Value.int IntKind.i64 x184))) ∧
(∃ x185 : Int, (((w178.cell? (⟨(hs w150), 1, none⟩ : Addr)) = (some (Value.int IntKind.i64 x185))) ∧
((((!(decide (x184 = x185))) = true) →
(R (Ending.returned (Value.bool false)) w178)) ∧
(((!(decide (x184 = x185))) = false) →
(∃ o188 : Option Addr, (∃ n189 : Nat, (∃ n190 : Nat, (((w178.cell? (⟨(hs w164), 2, none⟩ : Addr)) = (some (Value.slice o188 n189 n190))) ∧
(RunOk Tryz.prog (Nf.Hold (convert 42 9 (Value.slice o188 n189 n190))) w178 (fun (v191 : Value) => (fun (w192 : World) => (∃ s193 : ByteArray, ((v191 = (Value.string s193)) ∧
(∃ o194 : Option Addr, (∃ n195 : Nat, (∃ n196 : Nat, (((w192.cell? (⟨(hs w150), 2, none⟩ : Addr)) = (some (Value.slice o194 n195 n196))) ∧
(RunOk Tryz.prog (Nf.Hold (convert 42 9 (Value.slice o194 n195 n196))) w192 (fun (v197 : Value) => (fun (w198 : World) => (∃ s199 : ByteArray, ((v197 = (Value.string s199)) ∧
((((!(Nf.strEq s193 s199)) = true) →
(R (Ending.returned (Value.bool false)) w198)) ∧
(((!(Nf.strEq s193 s199)) = false) →
(∃ n202 : Nat, ((n202 < n135) ∧
(k133 n202 o165 n166 n167 (IntKind.wrap IntKind.i64 (x141 + 1)) w198)))))))))))))))))))))))))))))))))))))))))))))))))))) →
(k162 o165 n166 n167 w164)))))) →
((((decide (x141 > ((n139 : Nat) : Int))) = true) →
(∃ x204 : Int, (((w160.cell? (⟨(hs w150), 0, none⟩ : Addr)) = (some (Value.int IntKind.i64 x204))) ∧
(∃ x205 : Int, (((w160.cell? (⟨(hs w150), 1, none⟩ : Addr)) = (some (Value.int IntKind.i64 x205))) ∧
(∃ o206 : Option Addr, (∃ n207 : Nat, (∃ n208 : Nat, (((w160.cell? (⟨(hs w150), 2, none⟩ : Addr)) = (some (Value.slice o206 n207 n208))) ∧
(∀ w209 : World, ((w209 = (w160.alloc (Obj.cells #[(Value.int IntKind.i64 x204), (Value.int IntKind.i64 x205), (Value.slice o206 n207 n208)] 49 (0, 0)))) →
(RunOk Tryz.prog (Nf.Hold (Builtin.append_ #[43, 43] 43 #[(Value.slice o138 n139 n140), (Value.slice (some (⟨(hs w160), 0, none⟩ : Addr)) 1 1)])) w209 (fun (v211 : Value) => (fun (w212 : World) => (∃ o213 : Option Addr, (∃ n214 : Nat, (∃ n215 : Nat, ((v211 = (Value.slice o213 n214 n215)) ∧
(k162 o213 n214 n215 w212))))))))))))))))))) ∧
(((decide (x141 > ((n139 : Nat) : Int))) = false) →
(k162 o138 n139 n140 w160))))))))))) ∧
((b156 = false) →
(∀ w218 : World, ((w218 = (w150.alloc (Obj.cells #[(Value.int IntKind.i64 0), (Value.int IntKind.i64 0), (Value.slice none 0 0)] 49 (0, 0)))) →
((Nf.There w218 (⟨(hs w150), 0, none⟩ : Addr) 3) ∧
(∀ w220 : World, ((w220 = (Nf.setCells w218 (⟨(hs w150), 0, none⟩ : Addr) [(Value.int IntKind.i64 x151), (Value.int IntKind.i64 x152), (Value.slice o153 n154 n155)] 0)) →
(R (Ending.returned (Value.bool false)) w220)))))))))))))))))))))) ∧
(((decide (x141 ≤ x146)) = false) →
(∃ n223 : Nat, ((n223 < n107) ∧
(k105 n223 o138 n139 n140 (IntKind.wrap IntKind.i64 (x113 + 1)) w145))))))))))))))))))))))))))))))))))))))))))))) →
(k116 w118))) →
((((0 : Int) ≤ x113) ∧
(x113 < 5)) ∧
(∃ o224 : Option Addr, (((w109.cell? (Addr.add (⟨pa, 0, none⟩ : Addr) ((x113).toNat * 1))) = (some (Value.pointer o224))) ∧
(Calls Tryz.prog 15 #[(Value.pointer o224)] w109 (fun (e225 : Ending) => (fun (w226 : World) => (∃ x227 : Int, ((e225 = (Ending.returned (Value.int IntKind.i64 x227))) ∧
((((decide (x227 = 3)) = true) →
((((0 : Int) ≤ x113) ∧
(x113 < 5)) ∧
(∃ o229 : Option Addr, (((w226.cell? (Addr.add (⟨pa, 0, none⟩ : Addr) ((x113).toNat * 1))) = (some (Value.pointer o229))) ∧
(Calls Tryz.prog 19 #[(Value.pointer o229)] w226 (fun (e230 : Ending) => (fun (w231 : World) => (∃ x232 : Int, ((e230 = (Ending.returned (Value.int IntKind.i64 x232))) ∧
(RunOk Tryz.prog (Nf.Hold (Instr.lookup 56 (Value.map (some mb)) (Value.int IntKind.i64 x232) true)) w231 (fun (v233 : Value) => (fun (w234 : World) => (∃ x235 : Int, (∃ b236 : Bool, ((v233 = (Value.tuple #[(Value.int IntKind.i64 x235), (Value.bool b236)])) ∧
(((b236 = true) →
((((!(decide (x235 = x113))) = true) →
(R (Ending.returned (Value.bool false)) w234)) ∧
(((!(decide (x235 = x113))) = false) →
((((0 : Int) ≤ x113) ∧
(x113 < 5)) ∧
(∃ o240 : Option Addr, (((w234.cell? (Addr.add (⟨pa, 0, none⟩ : Addr) ((x113).toNat * 1))) = (some (Value.pointer o240))) ∧
(Calls Tryz.prog 19 #[(Value.pointer o240)] w234 (fun (e241 : Ending) => (fun (w242 : World) => (∃ x243 : Int, ((e241 = (Ending.returned (Value.int IntKind.i64 x243))) ∧
(RunOk Tryz.prog (Nf.Hold (Instr.mapUpdate 56 (Value.map (some mb)) (Value.int IntKind.i64 x243) (Value.int IntKind.i64 x113))) w242 (fun (k244 : Unit) => (fun (w245 : World) => (k116 w245))))))))))))))) ∧
((b236 = false) →
((((0 : Int) ≤ x113) ∧
(x113 < 5)) ∧
(∃ o247 : Option Addr, (((w234.cell? (Addr.add (⟨pa, 0, none⟩ : Addr) ((x113).toNat * 1))) = (some (Value.pointer o247))) ∧
(Calls Tryz.prog 19 #[(Value.pointer o247)] w234 (fun (e248 : Ending) => (fun (w249 : World) => (∃ x250 : Int, ((e248 = (Ending.returned (Value.int IntKind.i64 x250))) ∧
(RunOk Tryz.prog (Nf.Hold (Instr.mapUpdate 56 (Value.map (some mb)) (Value.int IntKind.i64 x250) (Value.int IntKind.i64 x113))) w249 (fun (k251 : Unit) => (fun (w252 : World) => (k116 w252))))))))))))))))))))))))))))) ∧
(((decide (x227 = 3)) = false) →
(k116 w226)))))))))))))) ∧
(((decide (x113 < 5)) = false) →
(K o110 n111 n112 w109)))))))))))))
section
variable {w0 w w' : World} {nn c0 r b : Nat} {W E : Nat → Prop} {nd : Nat → Nd} {PB : Nat → Nat} {all ms : List Msg} {es : List Ent} {fo ao : Option Addr} {fn fc an ac : Nat} {g : G}
theorem LS.agree {gg ce : Nat} {oe : Option Addr} {e : Ent} {K : Value → World → Prop} (h : LS w0 w nn c0 r W E nd PB b all ms es fo fn fc ao an ac g) (hr : Row w gg 49 [.int .i64 (e.term : Int), .int .i64 (e.kind : Int), .slice oe e.body.length ce]) (hb : Byts w E oe e.body) (hl : an ≤ 100000) (ha : Agreed g (es ++ [e]))
    (hK : ∀ o' c' w' W', LS w0 w' nn c0 r W' E nd PB b all ms (es ++ [e]) fo fn fc o' (an + 1) c' g → (∀ b, W b → W' b) → Only W w w' → K (.slice o' (an + 1) c') w') :
    RunOk Tryz.prog (Hold (Builtin.append_ #[43, 43] 43 #[.slice ao an ac, .slice (some ⟨gg, 0, none⟩) 1 1])) w K := by
  have hbase := h.base
  refine h.agr.push (fun b hb => (h.net.wz b hb).2.2) hr hb hl fun o' c' w' p1 p2 p3 => ?_
  have hS := h.agr.inW
  have hE : ∀ b, E b → ¬ inBlock ao b := fun b hb k => (h.net.wz b (hS b k)).2.2 hb
  have hW : ∀ b, W b → W b ∨ inBlock o' b := fun b hb => .inl hb
  refine hK o' c' w' (fun b => W b ∨ inBlock o' b) { h with net := ?_, gw := h.gw.trans p2 fun b hb k => by have := (h.net.wz b (hS b k)).1; omega, conf := ⟨h.conf.1.keep p2 (hE _ h.conf.2), h.conf.2⟩, old := ⟨h.old.1.keep p2 (hE _ h.old.2), h.old.2⟩, pr := ⟨h.pr.1.keep p2 (h.agr.apart h.pr.1 (by decide)), hW _ h.pr.2⟩, tr := ⟨h.tr.1.keep p2 (hE _ h.tr.2), h.tr.2⟩, fly := (h.fly.keepB p2 fun b hb => hb.elim (fun hb k => ?_) (hE b)).mono hW fun _ h => h, agr := p1, lead := ⟨h.lead.1.keep p2 fun k => ?_, hW _ h.lead.2⟩, agd := ha } hW (p2.mono fun b _ hb => hS b hb)
  · refine h.net.own (p2.mono fun b _ hb => hS b hb) fun b hb => ?_
    rcases hb with hb | hb
    · exact .inl hb
    · rcases p3 b hb with k | k
      · exact .inl k
      · exact .inr ⟨by omega, k.1, k.2⟩
  · obtain ⟨l, hr'⟩ := h.agr.row k
    exact h.fly.apart hr' (by decide) hb
  · obtain ⟨l, hr'⟩ := h.agr.row k
    exact h.lead.1.norow hr'
theorem LS.led {T i : Nat} {K : Unit → World → Prop} (h : LS w0 w nn c0 r W E nd PB b all ms es fo fn fc ao an ac g) (hT : g.el T = some i)
    (hK : ∀ w', LS w0 w' nn c0 r W E nd PB b all ms es fo fn fc ao an ac g → K () w') : RunOk Tryz.prog (Hold (Instr.mapUpdate 56 (.map (some r)) (.int .i64 (T : Int)) (.int .i64 (i : Int)))) w K := by
  refine lead_put h.lead.1 hT fun w' hl hO => hK w' ?_
  have hbase := h.base
  have hrW := h.lead.2
  have hE : ∀ b, E b → ¬ b = r := fun b hb k => (h.net.wz b (k ▸ hrW)).2.2 hb
  have hrow : ∀ {T l b}, Row w b T l → ¬ b = r := fun k e => h.lead.1.norow (e ▸ k)
  refine { h with net := h.net.own (hO.mono fun b _ hb => hb ▸ hrW) fun b hb => .inl hb, gw := h.gw.trans hO fun b hb k => by have := (h.net.wz r hrW).1; omega, conf := ⟨h.conf.1.keep hO (hE _ h.conf.2), h.conf.2⟩, old := ⟨h.old.1.keep hO (hE _ h.old.2), h.old.2⟩, pr := ⟨h.pr.1.keep hO (hrow h.pr.1), h.pr.2⟩, tr := ⟨h.tr.1.keep hO (hE _ h.tr.2), h.tr.2⟩, fly := h.fly.keepB hO fun b hb => hb.elim (fun hb k => ?_) (hE b), agr := h.agr.keepB hO fun b hb => hb.elim (fun hb k => ?_) (hE b), lead := ⟨hl, h.lead.2⟩ }
  · obtain ⟨ps, h1, h2, h3, h4, h5⟩ := h.fly
    obtain ⟨l, hr'⟩ := h3.row b hb
    exact hrow hr' k
  · obtain ⟨l, hr'⟩ := h.agr.row hb
    exact hrow hr' k
theorem LS.wf (h : LS w0 w nn c0 r W E nd PB b all ms es fo fn fc ao an ac g) {i : Nat} (hi : i < nn) : Wf (nd i).s (nd i).k := (h.good i hi).1.w.up (h.net.node i hi)
theorem strEq_refl (xs : List UInt8) : strEq ⟨xs.toArray⟩ ⟨xs.toArray⟩ = true := by unfold strEq; show (xs.toArray == xs.toArray) = true; exact beq_self_eq_true _
set_option maxHeartbeats 2000000 in
theorem check_c {n : Nat} {K : Option Addr → Nat → Nat → World → Prop} {R : Ending → World → Prop} (h : LS w0 w 5 c0 r W E nd PB b all ms es fo fn fc ao an ac g) (hPB : ∀ j, j < 5 → PB j ≤ 1000) (han : an ≤ 60000)
    (fin : ∀ o' n' c' w' W' E' es', LS w0 w' 5 c0 r W' E' nd PB b all ms es' fo fn fc o' n' c' g → n' ≤ 60000 → (∀ b, E b → E' b) → K o' n' c' w') : CheckP (c0 + 2) r ao an ac K R w := by
  have hkb : ∀ j, j < 5 → (nd j).s.log.length ≤ 50000 := fun j hj => by
    have h1 := (h.good j hj).2
    have h2 := (h.good j hj).1.w.ll
    have := hPB j hj
    omega
  unfold CheckP
  refine ⟨fun kk o' n' c' x w' => ∃ (i : Nat) (W' E' : Nat → Prop) (es' : List Ent), x = (i : Int) ∧ i ≤ 5 ∧ kk = 5 - i ∧ LS w0 w' 5 c0 r W' E' nd PB b all ms es' fo fn fc o' n' c' g ∧ n' ≤ 60000 ∧ ∀ b, E b → E' b, ⟨_, 0, W, E, es, rfl, by decide, rfl, h, han, fun _ h => h⟩, ?_⟩
  rintro kk _ w109 o110 n111 n112 x ⟨i, W1, E1, es1, rfl, hi, rfl, h109, hn1, hE1⟩
  refine ⟨fun hlt k116 hk116 => ?_, fun hge => ?_⟩
  · have hlt : i < 5 := by have := dT hlt; omega
    have s5 : (0 : Int) ≤ (i : Int) ∧ (i : Int) < 5 := ⟨by omega, by omega⟩
    -- after the leaders
    have rest : ∀ w118, LS w0 w118 5 c0 r W1 E1 nd PB b all ms es1 fo fn fc o110 n111 n112 g → k116 w118 := by
      intro w118 h118
      refine hk116 w118 fun _ w121 e121 => ?_
      have h121 := h118.grow (only_drew e121)
      have n121 := h121.net.node i hlt
      have hll := hkb i hlt
      refine ⟨s5, _, h121.pcell hlt, s5, _, h121.pcell hlt, (commitIndex_c n121).mono ?_⟩
      rintro _ w126 ⟨rfl, e126⟩
      have e126 := e126.symm
      subst e126
      have hlv := (h121.sys.live i hlt).1
      have hcl := hlv.comLe
      refine ⟨_, rfl, fun _ _ => rfl, (lastIndex_c n121 (by omega)).mono ?_⟩
      rintro _ w129 ⟨rfl, g129⟩
      have h129 := h121.grow g129
      refine ⟨_, rfl, no (by show ¬ (((nd i).s.commit : Int) > ((nd i).s.log.length : Int)); have : (nd i).s.commit ≤ (nd i).s.log.length := hcl; omega) ?_⟩
      refine ⟨fun kk o' n' c' x w' => ∃ (q : Nat) (W' E' : Nat → Prop) (es' : List Ent), x = (q : Int) ∧ 1 ≤ q ∧ q ≤ (nd i).s.commit + 1 ∧ kk = (nd i).s.commit + 1 - q ∧ q - 1 ≤ es'.length ∧ LS w0 w' 5 c0 r W' E' nd PB b all ms es' fo fn fc o' n' c' g ∧ n' ≤ 60000 ∧ ∀ b, E b → E' b, ⟨_, 1, W1, E1, es1, rfl, by omega, by omega, rfl, by omega, h129, hn1, hE1⟩, ?_⟩
      rintro kk _ w137 o138 n139 n140 x ⟨q, W2, E2, es2, rfl, hq1, hq2, rfl, hq3, h137, hn2, hE2⟩
      have n137 := h137.net.node i hlt
      refine ⟨s5, _, h137.pcell hlt, (commitIndex_c n137).mono ?_⟩
      rintro _ w145 ⟨rfl, e145⟩
      have e145 := e145.symm
      subst e145
      refine ⟨_, rfl, fun hle => ?_, fun hgt => ?_⟩
      · have hle : q ≤ (nd i).s.commit := by have : (q : Int) ≤ ((nd i).s.commit : Int) := dT hle; omega
        have hql : q - 1 < (nd i).s.log.length := by omega
        have hat := List.getElem?_eq_getElem hql
        have hok := ((h137.wf hlt).ent _ (List.getElem_mem hql)).1
        obtain ⟨ag1, ag2⟩ := hlv.agrees h137.agd
        have ag1 : ∀ n, n < (nd i).s.commit → n < es2.length → es2[n]? = (nd i).s.log[n]? := ag1
        have ag2 : ∀ n, n ≤ (nd i).s.commit → es2.length ≤ n → Agreed g ((nd i).s.log.take n) := ag2
        have htk := List.take_succ_eq_append_getElem hql
        generalize (nd i).s.log[q - 1] = e at *
        refine ⟨s5, _, h137.pcell hlt, (entry_some (e := e) n137 (by omega) hq1 hat (by have := hok.b; omega)).mono ?_⟩
        rintro _ w150 ⟨oe, ce, rfl, b150, g150⟩
        have z150 := g150.size
        refine ⟨_, _, _, _, _, _, rfl, bT fun w158 e158 => ⟨(Row.new (l := [_, _, _]) e158).there (by simp), fun w160 e160 => ?_⟩⟩
        obtain ⟨r160, g160⟩ := loc (l := [_, _, _]) (vs := [.int .i64 (e.term : Int), .int .i64 (e.kind : Int), .slice oe e.body.length ce]) e158 e160 rfl
        have z160 := g160.size
        have lr160 := r160.lt
        have G160 := g150.trans' g160
        have hN : ∀ j, j < 5 → ∀ bb, (nd j).N bb → bb < hs w137 := fun j hj bb hbb => h137.net.lt hj bb (.inl hbb)
        have h160 := (h137.grow G160).read (E' := fun bb => E2 bb ∨ (hs w137 ≤ bb ∧ bb < hs w160)) (fun bb hbb => hbb.imp id fun k => ⟨k.2, fun kW => by have := (h137.net.wz bb kW).2.1; omega, fun j hj kN => by have := hN j hj bb kN; omega⟩) fun bb hbb => .inl hbb
        have hb160 : Byts w160 (fun bb => E2 bb ∨ (hs w137 ≤ bb ∧ bb < hs w160)) oe e.body := (b150.grow g160).mono fun bb hbb => .inr ⟨hbb.1, by omega⟩
        have E160 : (hs w150 : Nat) < hs w160 := lr160
        intro k162 hk162
        have hEq : ∀ es3 : List Ent, es3[q - 1]? = some e → ∀ w164 o165 n166 n167 W3, LS w0 w164 5 c0 r W3 (fun bb => E2 bb ∨ (hs w137 ≤ bb ∧ bb < hs w160)) nd PB b all ms es3 fo fn fc o165 n166 n167 g → n166 ≤ 60000 → Row w164 (hs w150) 49 [.int .i64 (e.term : Int), .int .i64 (e.kind : Int), .slice oe e.body.length ce] → Byts w164 (fun bb => E2 bb ∨ (hs w137 ≤ bb ∧ bb < hs w160)) oe e.body → k162 o165 n166 n167 w164 := by
          intro es3 h3 w164 o165 n166 n167 W3 h164 hn3 r164 hb164
          refine hk162 w164 o165 n166 n167 fun _ => ?_
          obtain ⟨a, oy, cy, ha, y0, y1, y2, yb⟩ := h164.agr.at h3
          have hlen3 : n166 = es3.length := by
            obtain ⟨ps, q1, q2, -⟩ := h164.agr
            exact q2
          have hq3l := (List.getElem?_eq_some_iff.1 h3).1
          have eq1 : IntKind.wrap .i64 ((q : Int) - 1) = ((q - 1 : Nat) : Int) := by rw [wr (by omega)]; omega
          have eq2 : IntKind.wrap .i64 ((q : Int) + 1) = ((q + 1 : Nat) : Int) := by rw [wr (by omega)]; omega
          refine ⟨a, ha, ?_⟩
          rw [eq1, toNat_cast, eq2]
          refine ⟨⟨by omega, by omega⟩, _, y0, _, y1, _, _, _, y2, fun w176 e176 => ⟨(Row.new (l := [_, _, _]) e176).there (by simp), fun w178 e178 => ?_⟩⟩
          obtain ⟨r178, g178⟩ := loc (l := [_, _, _]) (vs := [.int .i64 (e.term : Int), .int .i64 (e.kind : Int), .slice oy e.body.length cy]) e176 e178 rfl
          have x178 := r164.grow g178
          refine ⟨_, r178.cell rfl, _, x178.cell rfl, nno rfl ⟨_, r178.cell rfl, _, x178.cell rfl, nno rfl ⟨_, _, _, r178.cell rfl, conv_c (yb.grow g178) ⟨_, rfl, _, _, _, x178.cell rfl, conv_c (hb164.grow g178) ⟨_, rfl, ?_⟩⟩⟩⟩⟩
          rw [strEq_refl]
          refine ⟨fun k => (by cases k), fun _ => ⟨_, ?_, q + 1, W3, _, es3, rfl, by omega, by omega, rfl, by omega, h164.grow g178, hn3, fun bb hbb => .inl (hE2 bb hbb)⟩⟩
          omega
        have hlen2 : n139 = es2.length := by
          obtain ⟨ps, q1, q2, -⟩ := h137.agr
          exact q2
        refine ⟨fun hgt => ?_, fun hle2 => ?_⟩
        · have hgt : n139 < q := by have : (q : Int) > (n139 : Int) := dT hgt; omega
          have hes : es2.length = q - 1 := by omega
          have hes2 : es2 = (nd i).s.log.take (q - 1) := by
            apply List.ext_getElem?
            intro j
            by_cases hj : j < q - 1
            · rw [List.getElem?_take, if_pos hj]
              exact ag1 j (by omega) (by omega)
            · rw [List.getElem?_eq_none (by omega), List.getElem?_eq_none (by rw [List.length_take]; omega)]
          have hqq : q - 1 + 1 = q := by omega
          rw [hqq] at htk
          have hagr : Agreed g (es2 ++ [e]) := by
            have := ag2 q hle (by omega)
            rw [htk, ← hes2] at this
            exact this
          refine ⟨_, r160.cell rfl, _, r160.cell rfl, _, _, _, r160.cell rfl, fun w209 e209 => ?_⟩
          have r209 := Row.new (l := [.int .i64 (e.term : Int), .int .i64 (e.kind : Int), .slice oe e.body.length ce]) e209
          have g209 : Grow w160 w209 := only_alloc e209
          have h209 := h160.grow g209
          refine h209.agree (e := e) r209 (hb160.grow g209) (by omega) hagr fun o' c' w' W' hls hW hO => ⟨_, _, _, rfl, ?_⟩
          have nE : ∀ bb, (E2 bb ∨ (hs w137 ≤ bb ∧ bb < hs w160)) → ¬ W2 bb := fun bb hbb k => (h209.net.wz bb k).2.2 hbb
          refine hEq (es2 ++ [e]) (by rw [← hes, List.getElem?_append_right (Nat.le_refl _), Nat.sub_self]; rfl) w' o' _ c' W' hls (by have := hkb i hlt; omega) ((r160.grow g209).keep hO (nE _ (.inr ⟨by omega, lr160⟩))) ((hb160.grow g209).keep hO nE)
        · have hle2 : q ≤ n139 := by have : ¬ (q : Int) > (n139 : Int) := dF hle2; omega
          refine hEq es2 ?_ w160 o138 n139 n140 W2 h160 hn2 r160 hb160
          rw [ag1 (q - 1) (by omega) (by omega), hat]
      · have hgt : ¬ q ≤ (nd i).s.commit := by have : ¬ (q : Int) ≤ ((nd i).s.commit : Int) := dF hgt; omega
        exact ⟨_, by omega, i + 1, W2, E2, es2, by rw [wr (by omega)]; omega, hlt, rfl, h137, hn2, hE2⟩
    have n109 := h109.net.node i hlt
    have hlv := (h109.sys.live i hlt)
    refine ⟨s5, _, h109.pcell hlt, (role_c n109).mono ?_⟩
    rintro _ w226 ⟨rfl, e226⟩
    have e226 := e226.symm
    subst e226
    refine ⟨_, rfl, fun hr => ?_, fun hr => rest w109 h109⟩
    have hr : (nd i).s.role = 3 := by have : ((nd i).s.role : Int) = 3 := dT hr; omega
    have hel : g.el (nd i).s.term = some i := by
      have := hlv.1.el hr
      rw [hlv.2] at this
      exact this
    refine ⟨s5, _, h109.pcell hlt, (termN_c n109).mono ?_⟩
    rintro _ w231 ⟨rfl, e231⟩
    have e231 := e231.symm
    subst e231
    have put : Calls Tryz.prog 19 #[.pointer (some ⟨(nd i).p, 0, none⟩)] w109 fun e241 w242 => ∃ x243 : Int, e241 = .returned (.int .i64 x243) ∧ RunOk Tryz.prog (Hold (Instr.mapUpdate 56 (.map (some r)) (.int .i64 x243) (.int .i64 (i : Int)))) w242 fun _ w245 => k116 w245 := by
      refine (termN_c n109).mono ?_
      rintro _ w242 ⟨rfl, e242⟩
      have e242 := e242.symm
      subst e242
      exact ⟨_, rfl, h109.led hel fun w' h' => rest w' h'⟩
    refine ⟨_, rfl, lead_get (T := (nd i).s.term) h109.lead.1 ⟨_, _, rfl, fun k => (by cases k), fun _ => ⟨s5, _, h109.pcell hlt, put⟩⟩ fun j hj => ⟨_, _, rfl, fun _ => ?_, fun k => (by cases k)⟩⟩
    have hj : g.el (nd i).s.term = some j := hj
    rw [hel] at hj
    cases hj
    exact nno rfl ⟨s5, _, h109.pcell hlt, put⟩
  · have : i = 5 := by have := dF hge; omega
    subst this
    exact fin _ _ _ w109 W1 E1 es1 h109 hn1 hE1
end
end Go.Proofs.YtcaokpglbolkcaaGreat
