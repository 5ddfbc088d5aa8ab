/- search: from one node, the shortest distances to all. -/
import Derived.Test.YtcaokpglbolkcaaTf
namespace Go.Proofs.Ytcaokpglbolkcaa
open Go Go.Nf Go.RowKit

def vals6 (p4 p5 p7 p9 p11 q : Nat) : List Value := [.pointer (some ⟨p4, 0, none⟩), .pointer (some ⟨p5, 0, none⟩), .pointer (some ⟨p7, 0, none⟩), .pointer (some ⟨p9, 0, none⟩), .pointer (some ⟨p11, 0, none⟩), .func (.func 67) #[.pointer (some ⟨q, 0, none⟩)] #[]]
theorem hm50 : Try.prog.follows .mixedOrders = true := by kernel_rfl
theorem body50 : Try.f50.body = some (at50 Try.f50.body []) := by kernel_rfl
theorem shape7 : seqR 7 (at50 Try.f50.body []) = .seq (.block 4 (.loop (.seq (at50 Try.f50.body pA) (.block 5 (at50 Try.f50.body pB))))) (at50 Try.f50.body pD) := by kernel_rfl
theorem shapeB : seqR 3 (at50 Try.f50.body pB) = .block 6 (.rangeFunc (.tmp 75) #[76] (at50 Try.f50.body pS) (at50 Try.f50.body pC)) := by kernel_rfl
theorem okP50 : okC 122 (at50 Try.f50.body []) = true := by kernel_rfl
theorem okA50 : okC 122 (at50 Try.f50.body pA) = true := by kernel_rfl
theorem okB50 : okC 122 (at50 Try.f50.body pB) = true := by kernel_rfl
theorem okC50 : okC 122 (at50 Try.f50.body pC) = true := by kernel_rfl
theorem okS50 : okC 122 (at50 Try.f50.body pS) = true := by kernel_rfl
theorem okD50 : okC 122 (at50 Try.f50.body pD) = true := by kernel_rfl
theorem inBlock_ne' {id id' : Nat} {Q : Exit → Act → World → Prop} {a : Act} {w : World} (h : id' ≠ id) (hq : Q (.exit id') a w) : Exit.inBlock id Q (.exit id') a w := by
  simpa [Exit.inBlock, h] using hq
theorem inBlock_eq' {id : Nat} {Q : Exit → Act → World → Prop} {a : Act} {w : World} (hq : Q .normal a w) : Exit.inBlock id Q (.exit id) a w := by
  simpa [Exit.inBlock] using hq
def mkD (r : Nat) : Deferred := { target := .collected r, args := #[] }
theorem leaves_marks {P : Program} {fn : Func} {tmps : Array Value} {R : Ending → World → Prop} : ∀ (ds : List Nat) (w : World), ds.Nodup → (∀ r ∈ ds, w.heap[r]? = some (.deferred (some []))) →
    (∀ w', Only (fun b => b ∈ ds) w w' → LeavesInM Fence.wide 0 P fn tmps R [] .returning w') → LeavesInM Fence.wide 0 P fn tmps R (ds.map mkD) .returning w
  | [], w, _, _, h => h w (Only.refl _ _)
  | r :: ds, w, hn, hd, h => by
    have hn := List.nodup_cons.1 hn
    refine ⟨by simp, .inl ⟨r, _, rfl, run_takeDeferred (hd r (.head _)), leaves_marks ds _ hn.2 (fun r' hr' => ?_) fun w' g => h w' ?_⟩⟩
    · rw [World.putObj_heap_other (fun e => hn.1 (by rw [← e]; exact hr'))]; exact hd r' (.tail _ hr')
    · exact (only_putObj.mono fun b _ e => by rw [e]; exact .head _).trans' (g.mono fun b _ hb => .tail _ hb)
def Marks (w0 : World) (ds : List Nat) (S : Nat → Prop) (w : World) : Prop := ds.Nodup ∧ ∀ r ∈ ds, w.heap[r]? = some (.deferred (some [])) ∧ hs w0 ≤ r ∧ ¬ S r
theorem Marks.lt {w0 : World} {ds : List Nat} {S : Nat → Prop} {w : World} (h : Marks w0 ds S w) {r : Nat} (hr : r ∈ ds) : r < hs w := (Array.getElem?_eq_some_iff.1 (h.2 r hr).1).1
theorem Marks.keep {w0 : World} {ds : List Nat} {S S' X : Nat → Prop} {w w' : World} (h : Marks w0 ds S w) (g : Only X w w') (hX : ∀ r ∈ ds, ¬ X r) (hS : ∀ b, S' b → S b ∨ hs w ≤ b) : Marks w0 ds S' w' :=
  ⟨h.1, fun r hr => ⟨(g.block r (h.lt hr) (hX r hr)).trans (h.2 r hr).1, (h.2 r hr).2.1, fun k => by
    rcases hS r k with k | k
    · exact (h.2 r hr).2.2 k
    · have := h.lt hr; omega⟩⟩
theorem Marks.noRow {w0 : World} {ds : List Nat} {S : Nat → Prop} {w : World} (h : Marks w0 ds S w) {b : Nat} {T : TypeId} {l : List Value} (hb : Row w b T l) : b ∉ ds := fun k => by
  have := (h.2 b k).1
  unfold Row at hb
  rw [this] at hb
  cases hb
set_option maxRecDepth 100000 in
set_option maxHeartbeats 4000000 in
theorem search_start {w : World} {q : Nat} {E : List Edg} {n : Nat} {ow oe : Option Addr} {cw ce : Nat} {wt : Nat → Int} {s : Int} {A B : Nat → Prop} (hG : GraphAt w A q E (insL E n) (outsL E n)) (hn : n ≤ 10) (hs1 : Nums w B oe [s]) :
    vcN Try.prog (fun _ _ _ => False) 7 (at50 Try.f50.body []) an50P (argEnv #[.pointer (some ⟨q, 0, none⟩), .slice ow E.length cw, .slice oe 1 ce, .bool true]) w (fun ρ w' => ∃ p4 p5 p7 p9 p11 bd D xs S, L6.map ρ = vals6 p4 p5 p7 p9 p11 q ∧
      St w q ow E.length cw n p4 p5 p7 p9 p11 bd D xs S w' ∧ Lab E wt n s D xs 0 (fun _ => False)) := by
  refine nf50P q ow E.length cw oe 1 ce w (fun vs w' => ∃ p4 p5 p7 p9 p11 bd D xs S, vs = vals6 p4 p5 p7 p9 p11 q ∧ St w q ow E.length cw n p4 p5 p7 p9 p11 bd D xs S w' ∧ Lab E wt n s D xs 0 (fun _ => False)) ?_
  intro w1 e1 w3 e3 w5 e5
  have g1 : Grow w w1 := only_alloc e1
  have g3 : Grow w1 w3 := only_alloc e3
  have g5 : Grow w3 w5 := only_alloc e5
  have z1 := hs_alloc e1
  have z3 := hs_alloc e3
  have z5 := hs_alloc e5
  have r4 := ((Row.new (l := [.pointer (some ⟨q, 0, none⟩)]) e1).grow g3).grow g5
  have r5 := (Row.new (l := [.slice ow E.length cw]) e3).grow g5
  have r7 := Row.new (l := [.bool true]) e5
  refine ⟨_, r4.cell rfl, (nodes_c (((hG.grow g1).grow g3).grow g5)).mono ?_⟩
  rintro _ _ ⟨rfl, rfl⟩
  rw [outsL_len]
  refine ⟨_, rfl, make_z (by omega) fun w12 r12 g12 z12 => ⟨_, _, _, rfl, fun w16 e16 => ?_⟩⟩
  have g16 : Grow w12 w16 := only_alloc e16
  have z16 := hs_alloc e16
  have r16 := Row.new e16
  refine ⟨r16.there (by simp), fun w18 e18 => ?_⟩
  have r18 := r16.set e18
  have g18 : Grow w12 w18 := g16.trans (only_set e18) fun b hb e => by omega
  have z18 := (only_set e18).size
  have r418 := (r4.grow g12).grow g18
  have r518 := (r5.grow g12).grow g18
  have r718 := (r7.grow g12).grow g18
  have rb18 := r12.grow g18
  refine ⟨_, _, _, r18.cell rfl, fun k x w' => ∃ i : Nat, x = (i : Int) ∧ i ≤ n ∧ k = n - i ∧ Row w' (hs w5) 2 (intsV (List.replicate i FarT ++ List.replicate (n - i) 0)) ∧ Only (fun b => b = hs w5) w18 w', ⟨_, 0, rfl, Nat.zero_le _, rfl, by simpa using rb18, Only.refl _ _⟩, ?_⟩
  rintro k _ w27 x ⟨i, rfl, hi, rfl, rb27, o27⟩
  have z27 := o27.size
  have r427 := r418.keep o27 (by omega)
  have r527 := r518.keep o27 (by omega)
  have r727 := r718.keep o27 (by omega)
  have r27 := r18.keep o27 (by omega)
  refine ⟨fun hlt => ?_, fun hge => ?_⟩
  · have hlt : i < n := by have := dT hlt; omega
    refine ⟨_, _, _, r27.cell rfl, _, rfl, ⟨by omega, by omega⟩, rb27.thereAdd (by rw [toNat_cast, Nat.mul_one, intsV_len, List.length_append, List.length_replicate, List.length_replicate]; omega), fun w35 e35 => ⟨_, by omega, i + 1, by rw [wr (by omega)]; omega, hlt, rfl, ?_, o27.trans' (only_setAdd e35)⟩⟩
    have r35 := rb27.setAdd e35
    have hf := fill_step FarT (List.replicate i FarT) n i hlt (by simp) 0
    rw [intsV_set _ _ _ (by rw [List.length_append, List.length_replicate, List.length_replicate]; omega), hf] at r35
    rw [List.replicate_succ']
    exact r35
  · have hin : i = n := by have := dF hge; omega
    subst hin
    rw [Nat.sub_self, List.replicate_zero, List.append_nil] at rb27
    intro w39 e39
    have g39 : Grow w27 w39 := only_alloc e39
    have z39 := hs_alloc e39
    have r39 := Row.new e39
    have G : Grow w w39 := (((((g1.trans' g3).trans' g5).trans' g12).trans' g18).trans o27 fun b hb e => by omega).trans' g39
    have st : St w q ow E.length cw i (hs w) (hs w1) (hs w3) (hs w12) (hs w27) (hs w5) (List.replicate i FarT) [] (fun b => b = hs w27) w39 :=
      ⟨G, r427.grow g39, r527.grow g39, r727.grow g39, r27.grow g39, rb27.grow g39, ⟨⟨_, _, r39, own_nil _ _ _ _, fun b ⟨a, ha, _⟩ => by cases ha⟩, rfl, fun b hb => by omega⟩, by omega, by omega, fun b hb => by omega, by omega⟩
    refine ⟨fun k x w' => (x = 0 ∧ k = 1 ∧ w' = w39) ∨ (x = 1 ∧ k = 0 ∧ ∃ D xs S, St w q ow E.length cw i (hs w) (hs w1) (hs w3) (hs w12) (hs w27) (hs w5) D xs S w' ∧ Lab E wt i s D xs 0 (fun _ => False)), ⟨_, .inl ⟨rfl, rfl, rfl⟩⟩, ?_⟩
    rintro k _ w45 x (⟨rfl, rfl, rfl⟩ | ⟨rfl, rfl, D, xs, S, st', lab'⟩)
    · refine ⟨fun _ => ?_, fun h => absurd (by decide) (dF h)⟩
      obtain ⟨a, ha, hc⟩ := (hs1.grow G).get (j := 0) (by simp)
      refine ⟨a, ha, ⟨by omega, by omega⟩, _, hc, _, st.r4.cell rfl, (isNode_c (hG.grow G) s).mono ?_⟩
      rintro _ _ ⟨rfl, rfl⟩
      rw [outsL_len]
      refine ⟨_, rfl, fun hb => ?_, fun hb => ⟨0, by omega, .inr ⟨by rw [wr (by omega)]; rfl, rfl, _, _, _, st, Lab.none fun ⟨v, hv, e⟩ => ?_⟩⟩⟩
      · simp only [Bool.and_eq_true] at hb
        have h1 := dT hb.1
        have h2 := dT hb.2
        obtain ⟨v, rfl⟩ : ∃ v : Nat, s = (v : Int) := ⟨s.toNat, by omega⟩
        have hv : v < i := by omega
        have hvl : v < (List.replicate i FarT).length := by simpa using hv
        have hB2 : (0 : Int) ≤ (v : Int) ∧ (v : Int) < ((i : Nat) : Int) := ⟨by omega, by omega⟩
        have eF : gD (List.replicate i FarT) v = FarT := by rw [gD_at hvl]; simp
        refine ⟨_, _, _, st.r9.cell rfl, _, rfl, hB2, _, st.get hvl, fun _ => ?_, fun hz => ?_⟩
        · refine ⟨_, _, _, st.r9.cell rfl, _, rfl, hB2, st.room hvl, fun w66 e66 => ?_⟩
          obtain ⟨st66, o66⟩ := st.put hvl e66
          refine (push_c st66.qa (by simp) 0 (v : Int) (by omega) (by omega)).mono ?_
          rintro _ w69 ⟨rfl, ys, S', hp, q69, o69, hS'⟩
          exact ⟨rfl, 0, by omega, .inr ⟨by rw [wr (by omega)]; rfl, rfl, _, _, _, st66.queue q69 o69 hS', Lab.first hv rfl (by simpa [key] using hp)⟩⟩
        · rw [eF] at hz
          exact absurd (nF hz) (by decide)
      · subst e
        rw [decide_eq_true (by omega), decide_eq_true (by omega)] at hb
        cases hb
    · refine ⟨fun h => absurd (dT h) (by decide), fun _ => ⟨_, st'.r4.cell rfl, _, st'.r7.cell rfl, fun _ => ⟨_, st'.r4.cell rfl, _, _, _, _, _, _, _, _, _, rfl, st', lab'⟩, fun h => by cases h⟩⟩
end Go.Proofs.Ytcaokpglbolkcaa
