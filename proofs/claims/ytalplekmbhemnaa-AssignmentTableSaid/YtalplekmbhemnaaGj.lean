/- The memory of an insertion: slacks, predecessors, marks; the square's prices written. -/
import Derived.Test.YtalplekmbhemnaaPd
namespace Go.Proofs.Ytalplekmbhemnaa
open Go Go.Nf

theorem elem33 : Elem Try.prog 33 4 1 1 := elem_of (by kernel_rfl)
theorem zero4 : zeroL Try.prog 4 = some [.bool false] := by kernel_rfl
def boolsV (xs : List Bool) : List Value := xs.map fun x => .bool x
theorem rep_bools (n : Nat) : (List.replicate n [Value.bool false]).flatten = boolsV (List.replicate n false) := by
  induction n with
  | zero => rfl
  | succ n ih => rw [List.replicate_succ, List.flatten_cons, ih, List.replicate_succ]; rfl
theorem boolsV_len (xs : List Bool) : (boolsV xs).length = xs.length := by simp [boolsV]
theorem boolsV_set (xs : List Bool) (j : Nat) (x : Bool) : setFrom (boolsV xs) ((j : Int).toNat * 1) [.bool x] = boolsV (xs.set j x) := by
  rw [toNat_cast, Nat.mul_one]
  simp [setFrom, boolsV, List.map_set]
theorem make_bools {w : World} {n : Nat} {K : Value → World → Prop} (hn : n ≤ 200)
    (h : ∀ w', Row w' (hs w) 4 (boolsV (List.replicate n false)) → Grow w w' → hs w' = hs w + 1 → K (.slice (some ⟨hs w, 0, none⟩) n n) w') : RunOk Try.prog (Hold (Instr.makeSlice 33 (.int .i64 (n : Int)) (.int .i64 (n : Int)))) w K := by
  refine run_make_row elem33 zero4 (by omega) (by omega) (by omega) (by omega) fun w1 e1 => ?_
  rw [toNat_cast] at *
  refine h w1 ?_ (only_alloc e1) (hs_alloc e1)
  rw [← rep_bools]; exact Row.new e1
theorem Row.int {w : World} {b : Nat} {T : TypeId} {xs : List Int} {j : Nat} (h : Row w b T (intsV xs)) (hj : j < xs.length) : w.cell? ((⟨b, 0, none⟩ : Addr).add ((j : Int).toNat * 1)) = some (.int .i64 (gI xs j)) := by
  rw [gI_get hj]; exact h.cellAdd (intsV_get hj)
theorem Row.bool {w : World} {b : Nat} {T : TypeId} {xs : List Bool} {j : Nat} (h : Row w b T (boolsV xs)) (hj : j < xs.length) : w.cell? ((⟨b, 0, none⟩ : Addr).add ((j : Int).toNat * 1)) = some (.bool (gB xs j)) := by
  refine h.cellAdd ?_
  rw [toNat_cast, Nat.mul_one]; simp [boolsV, gB, hj]
theorem Row.thereI {w : World} {b : Nat} {T : TypeId} {xs : List Int} {j : Nat} (h : Row w b T (intsV xs)) (hj : j < xs.length) : There w ((⟨b, 0, none⟩ : Addr).add ((j : Int).toNat * 1)) 1 :=
  h.thereAdd (by rw [intsV_len, toNat_cast]; omega)
theorem Row.thereB {w : World} {b : Nat} {T : TypeId} {xs : List Bool} {j : Nat} (h : Row w b T (boolsV xs)) (hj : j < xs.length) : There w ((⟨b, 0, none⟩ : Addr).add ((j : Int).toNat * 1)) 1 :=
  h.thereAdd (by rw [boolsV_len, toNat_cast]; omega)
theorem Row.setI {w w1 : World} {b : Nat} {T : TypeId} {xs : List Int} {j : Nat} {x : Int} (h : Row w b T (intsV xs)) (hj : j < xs.length) (e : w1 = setCells w ((⟨b, 0, none⟩ : Addr).add ((j : Int).toNat * 1)) [.int .i64 x] 0) : Row w1 b T (intsV (xs.set j x)) := by
  rw [← intsV_set _ _ _ hj]; exact h.setAdd e
theorem Row.setB {w w1 : World} {b : Nat} {T : TypeId} {xs : List Bool} {j : Nat} {x : Bool} (h : Row w b T (boolsV xs)) (e : w1 = setCells w ((⟨b, 0, none⟩ : Addr).add ((j : Int).toNat * 1)) [.bool x] 0) : Row w1 b T (boolsV (xs.set j x)) := by
  rw [← boolsV_set]; exact h.setAdd e

/-! ### the square, read and written -/
theorem SqAt.costCell {w : World} {q br bu bv : Nat} {A : Nat → Prop} {Q : Sq} (h : SqAt w q br bu bv A Q) {i j : Nat} (hi : i < Q.size) (hj : j < Q.size) :
    ∃ oc cc, w.cell? ⟨q, 0, none⟩ = some (.slice oc Q.size cc) ∧ ∃ a, oc = some a ∧ ∃ oi ci, w.cell? (a.add ((i : Int).toNat * 1)) = some (.slice oi Q.size ci) ∧ ∃ a', oi = some a' ∧ w.cell? (a'.add ((j : Int).toNat * 1)) = some (.int .i64 (Q.c i j)) := by
  obtain ⟨oc, cc, hq, hm⟩ := h.hq
  obtain ⟨l1, l2, l3, l4, l5⟩ := h.len
  have hic : i < Q.cost.length := by omega
  obtain ⟨a, oi, ci, ha, hc, hn⟩ := hm.get hic
  have hrl : Q.cost[i].length = Q.size := l2 _ (List.getElem_mem hic)
  have hjc : j < Q.cost[i].length := by omega
  obtain ⟨a', ha', hc'⟩ := hn.get hjc
  have ec : Q.c i j = Q.cost[i][j] := by unfold Sq.c; rw [List.getElem?_eq_getElem hic]; simp [hjc]
  rw [← ec] at hc'
  rw [hrl] at hc
  exact ⟨oc, cc, hq.cell rfl, a, ha, oi, ci, hc, a', ha', hc'⟩
theorem SqAt.f1 {w : World} {q br bu bv : Nat} {A : Nat → Prop} {Q : Sq} (h : SqAt w q br bu bv A Q) : w.cell? ⟨q, 1, none⟩ = some (.int .i64 (Q.size : Int)) := by
  obtain ⟨_, _, hq, _⟩ := h.hq; exact hq.cell rfl
theorem SqAt.f2 {w : World} {q br bu bv : Nat} {A : Nat → Prop} {Q : Sq} (h : SqAt w q br bu bv A Q) : w.cell? ⟨q, 2, none⟩ = some (.slice (some ⟨br, 0, none⟩) Q.size Q.size) := by
  obtain ⟨_, _, hq, _⟩ := h.hq; exact hq.cell rfl
theorem SqAt.f3 {w : World} {q br bu bv : Nat} {A : Nat → Prop} {Q : Sq} (h : SqAt w q br bu bv A Q) : w.cell? ⟨q, 3, none⟩ = some (.slice (some ⟨bu, 0, none⟩) Q.size Q.size) := by
  obtain ⟨_, _, hq, _⟩ := h.hq; exact hq.cell rfl
theorem SqAt.f4 {w : World} {q br bu bv : Nat} {A : Nat → Prop} {Q : Sq} (h : SqAt w q br bu bv A Q) : w.cell? ⟨q, 4, none⟩ = some (.slice (some ⟨bv, 0, none⟩) Q.size Q.size) := by
  obtain ⟨_, _, hq, _⟩ := h.hq; exact hq.cell rfl
theorem SqAt.setU {w w' : World} {q br bu bv : Nat} {A : Nat → Prop} {Q : Sq} {j : Nat} {x : Int} (h : SqAt w q br bu bv A Q) (hj : j < Q.size) (e : w' = setCells w ((⟨bu, 0, none⟩ : Addr).add ((j : Int).toNat * 1)) [.int .i64 x] 0) :
    SqAt w' q br bu bv A { Q with rowD := Q.rowD.set j x } := by
  have g := only_setAdd e
  obtain ⟨oc, cc, k1, k2⟩ := h.hq
  obtain ⟨n1, n2, n3, n4, n5, n6⟩ := h.ne
  obtain ⟨a1, a2, a3, a4⟩ := h.hA
  obtain ⟨l1, l2, l3, l4, l5⟩ := h.len
  exact ⟨⟨oc, cc, k1.keep g n2, k2.keep g fun b hb hbe => a3 (hbe ▸ hb)⟩, h.hr.keep g n4, Row.setI h.hu (by omega) e, h.hv.keep g (fun hh => n6 hh.symm), h.ne, h.hA, ⟨l1, l2, l3, by simpa using l4, l5⟩, h.small⟩
theorem SqAt.setV {w w' : World} {q br bu bv : Nat} {A : Nat → Prop} {Q : Sq} {j : Nat} {x : Int} (h : SqAt w q br bu bv A Q) (hj : j < Q.size) (e : w' = setCells w ((⟨bv, 0, none⟩ : Addr).add ((j : Int).toNat * 1)) [.int .i64 x] 0) :
    SqAt w' q br bu bv A { Q with colD := Q.colD.set j x } := by
  have g := only_setAdd e
  obtain ⟨oc, cc, k1, k2⟩ := h.hq
  obtain ⟨n1, n2, n3, n4, n5, n6⟩ := h.ne
  obtain ⟨a1, a2, a3, a4⟩ := h.hA
  obtain ⟨l1, l2, l3, l4, l5⟩ := h.len
  exact ⟨⟨oc, cc, k1.keep g n3, k2.keep g fun b hb hbe => a4 (hbe ▸ hb)⟩, h.hr.keep g n5, h.hu.keep g n6, Row.setI h.hv (by omega) e, h.ne, h.hA, ⟨l1, l2, l3, l4, by simpa using l5⟩, h.small⟩

/-! ### the memory within an insertion: blocks from B on are the call's own -/
structure InsAt (w : World) (B q br bu bv : Nat) (A : Nat → Prop) (Q : Sq) (b1 b2 b3 : Nat) (s b : List Int) (d : List Bool) : Prop where
  sq : SqAt w q br bu bv A Q
  h1 : Row w b1 2 (intsV s)
  h2 : Row w b2 3 (intsV b)
  h3 : Row w b3 4 (boolsV d)
  ne : b1 ≠ b2 ∧ b1 ≠ b3 ∧ b2 ≠ b3
  old : q < B ∧ br < B ∧ bu < B ∧ bv < B ∧ (∀ x, A x → x < B)
  new : B ≤ b1 ∧ B ≤ b2 ∧ B ≤ b3
  len : s.length = Q.size ∧ b.length = Q.size ∧ d.length = Q.size
section
variable {w w' : World} {B q br bu bv : Nat} {A : Nat → Prop} {Q : Sq} {b1 b2 b3 : Nat} {s b : List Int} {d : List Bool} {j : Nat} {x : Int}
theorem SqAt.own {S : Nat → Prop} (h : SqAt w q br bu bv A Q) (o : q < B ∧ br < B ∧ bu < B ∧ bv < B ∧ (∀ x, A x → x < B)) (g : Only S w w') (hS : ∀ x, S x → B ≤ x) : SqAt w' q br bu bv A Q :=
  h.keep g (fun k => by have := hS _ k; omega) (fun k => by have := hS _ k; omega) (fun k => by have := hS _ k; omega) (fun k => by have := hS _ k; omega) fun x hx k => by have := hS _ k; have := o.2.2.2.2 x hx; omega
theorem InsAt.keep {S : Nat → Prop} (h : InsAt w B q br bu bv A Q b1 b2 b3 s b d) (g : Only S w w') (hS : ∀ x, S x → B ≤ x) (k1 : ¬ S b1) (k2 : ¬ S b2) (k3 : ¬ S b3) : InsAt w' B q br bu bv A Q b1 b2 b3 s b d :=
  ⟨h.sq.own h.old g hS, h.h1.keep g k1, h.h2.keep g k2, h.h3.keep g k3, h.ne, h.old, h.new, h.len⟩
theorem InsAt.drew (h : InsAt w B q br bu bv A Q b1 b2 b3 s b d) (e : w' = w.drew) : InsAt w' B q br bu bv A Q b1 b2 b3 s b d :=
  h.keep (S := none') (only_drew e) (fun _ h => h.elim) (fun h => h) (fun h => h) fun h => h
theorem InsAt.setS (h : InsAt w B q br bu bv A Q b1 b2 b3 s b d) (hj : j < Q.size) (e : w' = setCells w ((⟨b1, 0, none⟩ : Addr).add ((j : Int).toNat * 1)) [.int .i64 x] 0) : InsAt w' B q br bu bv A Q b1 b2 b3 (s.set j x) b d := by
  have g := only_setAdd e
  exact ⟨h.sq.own h.old g (fun x hx => by have := h.new; omega), Row.setI h.h1 (by have := h.len; omega) e, h.h2.keep g (fun k => h.ne.1 k.symm), h.h3.keep g (fun k => h.ne.2.1 k.symm), h.ne, h.old, h.new, by simpa using h.len⟩
theorem InsAt.setP (h : InsAt w B q br bu bv A Q b1 b2 b3 s b d) (hj : j < Q.size) (e : w' = setCells w ((⟨b2, 0, none⟩ : Addr).add ((j : Int).toNat * 1)) [.int .i64 x] 0) : InsAt w' B q br bu bv A Q b1 b2 b3 s (b.set j x) d := by
  have g := only_setAdd e
  exact ⟨h.sq.own h.old g (fun x hx => by have := h.new; omega), h.h1.keep g h.ne.1, Row.setI h.h2 (by have := h.len; omega) e, h.h3.keep g (fun k => h.ne.2.2 k.symm), h.ne, h.old, h.new, by simpa using h.len⟩
theorem InsAt.setD {x : Bool} (h : InsAt w B q br bu bv A Q b1 b2 b3 s b d) (e : w' = setCells w ((⟨b3, 0, none⟩ : Addr).add ((j : Int).toNat * 1)) [.bool x] 0) : InsAt w' B q br bu bv A Q b1 b2 b3 s b (d.set j x) := by
  have g := only_setAdd e
  exact ⟨h.sq.own h.old g (fun x hx => by have := h.new; omega), h.h1.keep g h.ne.2.1, h.h2.keep g h.ne.2.2, Row.setB h.h3 e, h.ne, h.old, h.new, by simpa using h.len⟩
theorem InsAt.setU (h : InsAt w B q br bu bv A Q b1 b2 b3 s b d) (hj : j < Q.size) (e : w' = setCells w ((⟨bu, 0, none⟩ : Addr).add ((j : Int).toNat * 1)) [.int .i64 x] 0) : InsAt w' B q br bu bv A { Q with rowD := Q.rowD.set j x } b1 b2 b3 s b d := by
  have g := only_setAdd e
  have h1 := h.new
  have h2 := h.old
  exact ⟨h.sq.setU hj e, h.h1.keep g (by omega), h.h2.keep g (by omega), h.h3.keep g (by omega), h.ne, h.old, h.new, h.len⟩
theorem InsAt.setV (h : InsAt w B q br bu bv A Q b1 b2 b3 s b d) (hj : j < Q.size) (e : w' = setCells w ((⟨bv, 0, none⟩ : Addr).add ((j : Int).toNat * 1)) [.int .i64 x] 0) : InsAt w' B q br bu bv A { Q with colD := Q.colD.set j x } b1 b2 b3 s b d := by
  have g := only_setAdd e
  have h1 := h.new
  have h2 := h.old
  exact ⟨h.sq.setV hj e, h.h1.keep g (by omega), h.h2.keep g (by omega), h.h3.keep g (by omega), h.ne, h.old, h.new, h.len⟩
end
/-- what an insertion writes of what stood -/
def W3 (br bu bv : Nat) : Nat → Prop := fun x => x = br ∨ x = bu ∨ x = bv
theorem Only.w3 {br bu bv B b : Nat} {w0 w w' : World} (h : Only (W3 br bu bv) w0 w) (hB : hs w0 = B) (g : Only (fun k => k = b) w w') (hb : B ≤ b ∨ b = br ∨ b = bu ∨ b = bv) : Only (W3 br bu bv) w0 w' :=
  h.trans g fun i hi e => by
    subst e
    rcases hb with hb | hb
    · omega
    · exact hb
theorem count_mark : ∀ (d : List Bool) (p : Nat), p < d.length → gB d p = false → (d.set p true).count false < d.count false
  | [], p, h, _ => by simp at h
  | x :: d, 0, _, h => by
    simp only [gB, List.getElem?_cons_zero, Option.getD_some] at h
    subst h
    simp
  | x :: d, p + 1, h, h' => by
    have := count_mark d p (by simpa using h) (by simpa [gB] using h')
    simp only [List.set_cons_succ, List.count_cons]
    omega
end Go.Proofs.Ytalplekmbhemnaa
