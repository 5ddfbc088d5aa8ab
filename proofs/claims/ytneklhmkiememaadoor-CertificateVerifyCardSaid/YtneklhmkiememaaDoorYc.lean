/- Contracts of chapter 36: insertion, search, Solve. -/
import Derived.Test.YtneklhmkiememaaDoorYb
namespace Go.Proofs.YtneklhmkiememaaDoor
open Go Go.Nf

theorem elem73 : Elem Tryd.prog 73 4 1 1 := elem_of (by kernel_rfl)
theorem zero4 : zeroL Tryd.prog 4 = some [.bool false] := by kernel_rfl
def boolsV (xs : List Bool) : List Value := xs.map fun x => .bool x
theorem rep_bools (n : Nat) : (List.replicate n [Value.bool false]).flatten = boolsV (List.replicate n false) := by
  induction n with
  | zero => rfl
  | succ n ih => rw [List.replicate_succ, List.flatten_cons, ih, List.replicate_succ]; rfl
theorem boolsV_len (xs : List Bool) : (boolsV xs).length = xs.length := by simp [boolsV]
theorem boolsV_set (xs : List Bool) (j : Nat) (x : Bool) : setFrom (boolsV xs) ((j : Int).toNat * 1) [.bool x] = boolsV (xs.set j x) := by
  rw [toNat_cast, Nat.mul_one]
  simp [setFrom, boolsV, List.map_set]
theorem make_bools {w : World} {n : Nat} {K : Value → World → Prop} (hn : n ≤ 200)
    (h : ∀ w', Row w' (hs w) 4 (boolsV (List.replicate n false)) → Grow w w' → hs w' = hs w + 1 → K (.slice (some ⟨hs w, 0, none⟩) n n) w') : RunOk Tryd.prog (Hold (Instr.makeSlice 73 (.int .i64 (n : Int)) (.int .i64 (n : Int)))) w K := by
  refine run_make_row elem73 zero4 (by omega) (by omega) (by omega) (by omega) fun w1 e1 => ?_
  rw [toNat_cast] at *
  refine h w1 ?_ (only_alloc e1) (hs_alloc e1)
  rw [← rep_bools]; exact Row.new e1
theorem Row.int {w : World} {b : Nat} {T : TypeId} {xs : List Int} {j : Nat} (h : Row w b T (intsV xs)) (hj : j < xs.length) : w.cell? ((⟨b, 0, none⟩ : Addr).add ((j : Int).toNat * 1)) = some (.int .i64 (gI xs j)) := by
  rw [gI_get hj]; exact h.cellAdd (intsV_get hj)
theorem Row.bool {w : World} {b : Nat} {T : TypeId} {xs : List Bool} {j : Nat} (h : Row w b T (boolsV xs)) (hj : j < xs.length) : w.cell? ((⟨b, 0, none⟩ : Addr).add ((j : Int).toNat * 1)) = some (.bool (gB xs j)) := by
  refine h.cellAdd ?_
  rw [toNat_cast, Nat.mul_one]; simp [boolsV, gB, hj]
theorem Row.thereI {w : World} {b : Nat} {T : TypeId} {xs : List Int} {j : Nat} (h : Row w b T (intsV xs)) (hj : j < xs.length) : There w ((⟨b, 0, none⟩ : Addr).add ((j : Int).toNat * 1)) 1 :=
  h.thereAdd (by rw [intsV_len, toNat_cast]; omega)
theorem Row.thereB {w : World} {b : Nat} {T : TypeId} {xs : List Bool} {j : Nat} (h : Row w b T (boolsV xs)) (hj : j < xs.length) : There w ((⟨b, 0, none⟩ : Addr).add ((j : Int).toNat * 1)) 1 :=
  h.thereAdd (by rw [boolsV_len, toNat_cast]; omega)
theorem Row.setI {w w1 : World} {b : Nat} {T : TypeId} {xs : List Int} {j : Nat} {x : Int} (h : Row w b T (intsV xs)) (hj : j < xs.length) (e : w1 = setCells w ((⟨b, 0, none⟩ : Addr).add ((j : Int).toNat * 1)) [.int .i64 x] 0) : Row w1 b T (intsV (xs.set j x)) := by
  rw [← intsV_set _ _ _ hj]; exact h.setAdd e
theorem Row.setB {w w1 : World} {b : Nat} {T : TypeId} {xs : List Bool} {j : Nat} {x : Bool} (h : Row w b T (boolsV xs)) (e : w1 = setCells w ((⟨b, 0, none⟩ : Addr).add ((j : Int).toNat * 1)) [.bool x] 0) : Row w1 b T (boolsV (xs.set j x)) := by
  rw [← boolsV_set]; exact h.setAdd e

/-! ### the square, read and written -/
theorem SqAt.costCell {w : World} {q br bu bv : Nat} {A : Nat → Prop} {Q : Sq} (h : SqAt w q br bu bv A Q) {i j : Nat} (hi : i < Q.size) (hj : j < Q.size) :
    ∃ oc cc, w.cell? ⟨q, 0, none⟩ = some (.slice oc Q.size cc) ∧ ∃ a, oc = some a ∧ ∃ oi ci, w.cell? (a.add ((i : Int).toNat * 1)) = some (.slice oi Q.size ci) ∧ ∃ a', oi = some a' ∧ w.cell? (a'.add ((j : Int).toNat * 1)) = some (.int .i64 (Q.c i j)) := by
  obtain ⟨oc, cc, hq, hm⟩ := h.hq
  obtain ⟨l1, l2, l3, l4, l5⟩ := h.len
  have hic : i < Q.cost.length := by omega
  obtain ⟨a, oi, ci, ha, hc, hn⟩ := hm.get hic
  have hrl : Q.cost[i].length = Q.size := l2 _ (List.getElem_mem hic)
  have hjc : j < Q.cost[i].length := by omega
  obtain ⟨a', ha', hc'⟩ := hn.get hjc
  have ec : Q.c i j = Q.cost[i][j] := by unfold Sq.c; rw [List.getElem?_eq_getElem hic]; simp [hjc]
  rw [← ec] at hc'
  rw [hrl] at hc
  exact ⟨oc, cc, hq.cell rfl, a, ha, oi, ci, hc, a', ha', hc'⟩
theorem SqAt.f1 {w : World} {q br bu bv : Nat} {A : Nat → Prop} {Q : Sq} (h : SqAt w q br bu bv A Q) : w.cell? ⟨q, 1, none⟩ = some (.int .i64 (Q.size : Int)) := by
  obtain ⟨_, _, hq, _⟩ := h.hq; exact hq.cell rfl
theorem SqAt.f2 {w : World} {q br bu bv : Nat} {A : Nat → Prop} {Q : Sq} (h : SqAt w q br bu bv A Q) : w.cell? ⟨q, 2, none⟩ = some (.slice (some ⟨br, 0, none⟩) Q.size Q.size) := by
  obtain ⟨_, _, hq, _⟩ := h.hq; exact hq.cell rfl
theorem SqAt.f3 {w : World} {q br bu bv : Nat} {A : Nat → Prop} {Q : Sq} (h : SqAt w q br bu bv A Q) : w.cell? ⟨q, 3, none⟩ = some (.slice (some ⟨bu, 0, none⟩) Q.size Q.size) := by
  obtain ⟨_, _, hq, _⟩ := h.hq; exact hq.cell rfl
theorem SqAt.f4 {w : World} {q br bu bv : Nat} {A : Nat → Prop} {Q : Sq} (h : SqAt w q br bu bv A Q) : w.cell? ⟨q, 4, none⟩ = some (.slice (some ⟨bv, 0, none⟩) Q.size Q.size) := by
  obtain ⟨_, _, hq, _⟩ := h.hq; exact hq.cell rfl
theorem SqAt.setU {w w' : World} {q br bu bv : Nat} {A : Nat → Prop} {Q : Sq} {j : Nat} {x : Int} (h : SqAt w q br bu bv A Q) (hj : j < Q.size) (e : w' = setCells w ((⟨bu, 0, none⟩ : Addr).add ((j : Int).toNat * 1)) [.int .i64 x] 0) :
    SqAt w' q br bu bv A { Q with rowD := Q.rowD.set j x } := by
  have g := only_setAdd e
  obtain ⟨oc, cc, k1, k2⟩ := h.hq
  obtain ⟨n1, n2, n3, n4, n5, n6⟩ := h.ne
  obtain ⟨a1, a2, a3, a4⟩ := h.hA
  obtain ⟨l1, l2, l3, l4, l5⟩ := h.len
  exact ⟨⟨oc, cc, k1.keep g n2, k2.keep g fun b hb hbe => a3 (hbe ▸ hb)⟩, h.hr.keep g n4, Row.setI h.hu (by omega) e, h.hv.keep g (fun hh => n6 hh.symm), h.ne, h.hA, ⟨l1, l2, l3, by simpa using l4, l5⟩, h.small⟩
theorem SqAt.setV {w w' : World} {q br bu bv : Nat} {A : Nat → Prop} {Q : Sq} {j : Nat} {x : Int} (h : SqAt w q br bu bv A Q) (hj : j < Q.size) (e : w' = setCells w ((⟨bv, 0, none⟩ : Addr).add ((j : Int).toNat * 1)) [.int .i64 x] 0) :
    SqAt w' q br bu bv A { Q with colD := Q.colD.set j x } := by
  have g := only_setAdd e
  obtain ⟨oc, cc, k1, k2⟩ := h.hq
  obtain ⟨n1, n2, n3, n4, n5, n6⟩ := h.ne
  obtain ⟨a1, a2, a3, a4⟩ := h.hA
  obtain ⟨l1, l2, l3, l4, l5⟩ := h.len
  exact ⟨⟨oc, cc, k1.keep g n3, k2.keep g fun b hb hbe => a4 (hbe ▸ hb)⟩, h.hr.keep g n5, h.hu.keep g n6, Row.setI h.hv (by omega) e, h.ne, h.hA, ⟨l1, l2, l3, l4, by simpa using l5⟩, h.small⟩

/-! ### the memory within an insertion: blocks from B on are the call's own -/
structure InsAt (w : World) (B q br bu bv : Nat) (A : Nat → Prop) (Q : Sq) (b1 b2 b3 : Nat) (s b : List Int) (d : List Bool) : Prop where
  sq : SqAt w q br bu bv A Q
  h1 : Row w b1 2 (intsV s)
  h2 : Row w b2 3 (intsV b)
  h3 : Row w b3 4 (boolsV d)
  ne : b1 ≠ b2 ∧ b1 ≠ b3 ∧ b2 ≠ b3
  old : q < B ∧ br < B ∧ bu < B ∧ bv < B ∧ (∀ x, A x → x < B)
  new : B ≤ b1 ∧ B ≤ b2 ∧ B ≤ b3
  len : s.length = Q.size ∧ b.length = Q.size ∧ d.length = Q.size
section
variable {w w' : World} {B q br bu bv : Nat} {A : Nat → Prop} {Q : Sq} {b1 b2 b3 : Nat} {s b : List Int} {d : List Bool} {j : Nat} {x : Int}
theorem SqAt.own {S : Nat → Prop} (h : SqAt w q br bu bv A Q) (o : q < B ∧ br < B ∧ bu < B ∧ bv < B ∧ (∀ x, A x → x < B)) (g : Only S w w') (hS : ∀ x, S x → B ≤ x) : SqAt w' q br bu bv A Q :=
  h.keep g (fun k => by have := hS _ k; omega) (fun k => by have := hS _ k; omega) (fun k => by have := hS _ k; omega) (fun k => by have := hS _ k; omega) fun x hx k => by have := hS _ k; have := o.2.2.2.2 x hx; omega
theorem InsAt.keep {S : Nat → Prop} (h : InsAt w B q br bu bv A Q b1 b2 b3 s b d) (g : Only S w w') (hS : ∀ x, S x → B ≤ x) (k1 : ¬ S b1) (k2 : ¬ S b2) (k3 : ¬ S b3) : InsAt w' B q br bu bv A Q b1 b2 b3 s b d :=
  ⟨h.sq.own h.old g hS, h.h1.keep g k1, h.h2.keep g k2, h.h3.keep g k3, h.ne, h.old, h.new, h.len⟩
theorem InsAt.drew (h : InsAt w B q br bu bv A Q b1 b2 b3 s b d) (e : w' = w.drew) : InsAt w' B q br bu bv A Q b1 b2 b3 s b d :=
  h.keep (S := none') (only_drew e) (fun _ h => h.elim) (fun h => h) (fun h => h) fun h => h
theorem InsAt.setS (h : InsAt w B q br bu bv A Q b1 b2 b3 s b d) (hj : j < Q.size) (e : w' = setCells w ((⟨b1, 0, none⟩ : Addr).add ((j : Int).toNat * 1)) [.int .i64 x] 0) : InsAt w' B q br bu bv A Q b1 b2 b3 (s.set j x) b d := by
  have g := only_setAdd e
  exact ⟨h.sq.own h.old g (fun x hx => by have := h.new; omega), Row.setI h.h1 (by have := h.len; omega) e, h.h2.keep g (fun k => h.ne.1 k.symm), h.h3.keep g (fun k => h.ne.2.1 k.symm), h.ne, h.old, h.new, by simpa using h.len⟩
theorem InsAt.setP (h : InsAt w B q br bu bv A Q b1 b2 b3 s b d) (hj : j < Q.size) (e : w' = setCells w ((⟨b2, 0, none⟩ : Addr).add ((j : Int).toNat * 1)) [.int .i64 x] 0) : InsAt w' B q br bu bv A Q b1 b2 b3 s (b.set j x) d := by
  have g := only_setAdd e
  exact ⟨h.sq.own h.old g (fun x hx => by have := h.new; omega), h.h1.keep g h.ne.1, Row.setI h.h2 (by have := h.len; omega) e, h.h3.keep g (fun k => h.ne.2.2 k.symm), h.ne, h.old, h.new, by simpa using h.len⟩
theorem InsAt.setD {x : Bool} (h : InsAt w B q br bu bv A Q b1 b2 b3 s b d) (e : w' = setCells w ((⟨b3, 0, none⟩ : Addr).add ((j : Int).toNat * 1)) [.bool x] 0) : InsAt w' B q br bu bv A Q b1 b2 b3 s b (d.set j x) := by
  have g := only_setAdd e
  exact ⟨h.sq.own h.old g (fun x hx => by have := h.new; omega), h.h1.keep g h.ne.2.1, h.h2.keep g h.ne.2.2, Row.setB h.h3 e, h.ne, h.old, h.new, by simpa using h.len⟩
theorem InsAt.setU (h : InsAt w B q br bu bv A Q b1 b2 b3 s b d) (hj : j < Q.size) (e : w' = setCells w ((⟨bu, 0, none⟩ : Addr).add ((j : Int).toNat * 1)) [.int .i64 x] 0) : InsAt w' B q br bu bv A { Q with rowD := Q.rowD.set j x } b1 b2 b3 s b d := by
  have g := only_setAdd e
  have h1 := h.new
  have h2 := h.old
  exact ⟨h.sq.setU hj e, h.h1.keep g (by omega), h.h2.keep g (by omega), h.h3.keep g (by omega), h.ne, h.old, h.new, h.len⟩
theorem InsAt.setV (h : InsAt w B q br bu bv A Q b1 b2 b3 s b d) (hj : j < Q.size) (e : w' = setCells w ((⟨bv, 0, none⟩ : Addr).add ((j : Int).toNat * 1)) [.int .i64 x] 0) : InsAt w' B q br bu bv A { Q with colD := Q.colD.set j x } b1 b2 b3 s b d := by
  have g := only_setAdd e
  have h1 := h.new
  have h2 := h.old
  exact ⟨h.sq.setV hj e, h.h1.keep g (by omega), h.h2.keep g (by omega), h.h3.keep g (by omega), h.ne, h.old, h.new, h.len⟩
end
/-- what an insertion writes of what stood -/
def W3 (br bu bv : Nat) : Nat → Prop := fun x => x = br ∨ x = bu ∨ x = bv
theorem Only.w3 {br bu bv B b : Nat} {w0 w w' : World} (h : Only (W3 br bu bv) w0 w) (hB : hs w0 = B) (g : Only (fun k => k = b) w w') (hb : B ≤ b ∨ b = br ∨ b = bu ∨ b = bv) : Only (W3 br bu bv) w0 w' :=
  h.trans g fun i hi e => by
    subst e
    rcases hb with hb | hb
    · omega
    · exact hb
theorem count_mark : ∀ (d : List Bool) (p : Nat), p < d.length → gB d p = false → (d.set p true).count false < d.count false
  | [], p, h, _ => by simp at h
  | x :: d, 0, _, h => by
    simp only [gB, List.getElem?_cons_zero, Option.getD_some] at h
    subst h
    simp
  | x :: d, p + 1, h, h' => by
    have := count_mark d p (by simpa using h) (by simpa [gB] using h')
    simp only [List.set_cons_succ, List.count_cons]
    omega

def lastOf : List Nat → Int
  | [] => -1
  | p :: _ => (p : Int)
def headT : List Nat → Int → Prop
  | [] => fun _ => False
  | _ :: l => InT l
theorem headT_inT {ord : List Nat} {p : Int} (h : headT ord p ∨ p = lastOf ord) : InT ord p := by
  cases ord with
  | nil => rcases h with h | h
           · exact h.elim
           · exact .inl h
  | cons x l =>
    rcases h with (h | ⟨y, hy, h⟩) | h
    · exact .inl h
    · exact .inr ⟨y, List.mem_cons_of_mem _ hy, h⟩
    · exact .inr ⟨x, by simp, h⟩
theorem lastOf_inT (ord : List Nat) : InT ord (lastOf ord) := headT_inT (.inr rfl)
theorem inT_headT {ord : List Nat} {p : Int} (h : InT ord p) : headT ord p ∨ p = lastOf ord := by
  cases ord with
  | nil => rcases h with h | ⟨y, hy, h⟩
           · exact .inr h
           · cases hy
  | cons x l =>
    rcases h with h | ⟨y, hy, h⟩
    · exact .inl (.inl h)
    · rcases List.mem_cons.1 hy with rfl | hy
      · exact .inr h
      · exact .inl (.inr ⟨y, hy, h⟩)
/-- the least unmarked column so far -/
def Nx (d : List Bool) (F : Nat → Int) (j : Nat) (x : Int) : Prop :=
  (x = -1 ∧ ∀ i, i < j → gB d i = true) ∨ ∃ p : Nat, x = (p : Int) ∧ p < j ∧ gB d p = false ∧ ∀ i, i < j → gB d i = false → F p ≤ F i
theorem Tree.scan' {Q : Sq} {R C k : Nat} {D V s b : List Int} {used : List Bool} {ord : List Nat} (h : Tree Q R C k D V s b used ord (headT ord)) :
    Tree Q R C k D V (mix (scanS Q k D V s used (lastOf ord)) s Q.size) (mix (scanB Q k D V s b used (lastOf ord)) b Q.size) used ord (InT ord) := by
  have T := h.scan (lastOf ord)
  refine { T with low := fun j hj hjo p hp => T.low j hj hjo p (inT_headT hp), att := fun j hj hjo => ?_ }
  rcases T.att j hj hjo with h | ⟨h, h'⟩
  · exact .inl h
  · exact .inr ⟨headT_inT h, h'⟩
/-- row i has been raised by the first t columns -/
def Up (Q : Sq) (k : Nat) (d : List Bool) (t i : Nat) : Prop := i = k ∨ ∃ x, x < t ∧ gB d x = true ∧ gI Q.rowOf x = (i : Int)

set_option maxRecDepth 10000 in
set_option maxHeartbeats 4000000 in
theorem insert_c (q br bu bv : Nat) (A : Nat → Prop) (Q : Sq) (R C k : Nat) (w : World) (h : SqAt w q br bu bv A Q) (hA : ∀ x, A x → x < hs w) (hi : Inv Q R C k) (hk : k < Q.size) :
    Calls Tryd.prog 49 #[.pointer (some ⟨q, 0, none⟩), .int .i64 (k : Int)] w fun e w' => e = .returned (.tuple #[]) ∧
      ∃ r D V, SqAt w' q br bu bv A { Q with rowOf := r, rowD := D, colD := V } ∧ Inv { Q with rowOf := r, rowD := D, colD := V } R C (k + 1) ∧ Only (W3 br bu bv) w w' := by
  have hsm := h.small
  have hold : q < hs w ∧ br < hs w ∧ bu < hs w ∧ bv < hs w ∧ (∀ x, A x → x < hs w) := by
    obtain ⟨_, _, hq, _⟩ := h.hq
    exact ⟨hq.lt, h.hr.lt, h.hu.lt, h.hv.lt, hA⟩
  refine nf49 q k w _ ⟨_, h.f1, make_zeros elem26 zero2 (by omega) fun w1 r1 g1 l1 => ⟨_, _, _, rfl, _, (h.grow g1).f1, make_zeros elem23 zero3 (by omega) fun w2 r2 g2 l2 => ⟨_, _, _, rfl, _, ((h.grow g1).grow g2).f1, make_bools (by omega) fun w3 r3 g3 l3 => ⟨_, _, _, rfl, ?_⟩⟩⟩⟩
  have I3 : InsAt w3 (hs w) q br bu bv A Q (hs w) (hs w1) (hs w2) (List.replicate Q.size 0) (List.replicate Q.size 0) (List.replicate Q.size false) :=
    ⟨((h.grow g1).grow g2).grow g3, (r1.grow g2).grow g3, r2.grow g3, r3, ⟨by omega, by omega, by omega⟩, hold, ⟨by omega, by omega, by omega⟩, by simp⟩
  have G3 : Only (W3 br bu bv) w w3 := ((g1.only.trans' g2.only).trans' g3.only)
  clear r1 g1 r2 g2 r3 g3 h
  generalize hB : hs w = B at *
  have hb1 : B ≤ B := Nat.le_refl B
  have hb2 : B ≤ hs w1 := by omega
  have hb3 : B ≤ hs w2 := by omega
  generalize hs w1 = b2 at *
  generalize hs w2 = b3 at *
  refine ⟨fun n x w' => ∃ t : Nat, x = (t : Int) ∧ t ≤ Q.size ∧ n = Q.size - t ∧ InsAt w' B q br bu bv A Q B b2 b3 (mix (fun _ => Inf) (List.replicate Q.size 0) t) (mix (fun _ => -1) (List.replicate Q.size 0) t) (List.replicate Q.size false) ∧ Only (W3 br bu bv) w w', ⟨_, 0, rfl, Nat.zero_le _, rfl, by rw [mix_zero, mix_zero]; exact I3, G3⟩, ?_⟩
  rintro n _ w4 x ⟨t, rfl, ht, rfl, I4, G4⟩
  refine ⟨fun hlt => ?_, fun hge => ?_⟩
  · have hlt : t < Q.size := by have := dT hlt; omega
    refine ⟨_, rfl, ⟨by omega, by omega⟩, Row.thereI I4.h1 (by have := I4.len; omega), fun w5 e5 => ?_⟩
    have I5 := I4.setS hlt e5
    have G5 := Only.w3 G4 hB (only_setAdd e5) (.inl hb1)
    refine ⟨_, rfl, ⟨by omega, by omega⟩, Row.thereI I5.h2 (by have := I5.len; omega), fun w6 e6 => ?_⟩
    have I6 := I5.setP hlt e6
    have G6 := Only.w3 G5 hB (only_setAdd e6) (.inl hb2)
    refine ⟨_, by omega, t + 1, by rw [wr (by omega)]; omega, hlt, rfl, ?_, G6⟩
    rw [← mix_set (by simpa using hlt), ← mix_set (by simpa using hlt)]
    exact I6
  have hge := dF hge
  obtain rfl : t = Q.size := by omega
  clear hge I3 G3
  have e1 : mix (fun _ => Inf) (List.replicate Q.size 0) Q.size = List.replicate Q.size Inf := by
    apply List.ext_getElem
    · simp [mix]
    · intro i h1 h2; simp at h2; simp [mix, h2]
  have e2 : mix (fun _ => -1) (List.replicate Q.size 0) Q.size = List.replicate Q.size (-1) := by
    apply List.ext_getElem
    · simp [mix]
    · intro i h1 h2; simp at h2; simp [mix, h2]
  rw [e1, e2] at I4
  refine ⟨fun n x y w' => ∃ D V s b d ord, Tree Q R C k D V s b d ord (headT ord) ∧ (∀ p, p ∈ ord → 0 ≤ gI Q.rowOf p) ∧ y = lastOf ord ∧ x = ((rowAt Q k y : Nat) : Int) ∧ n = d.count false ∧ InsAt w' B q br bu bv A { Q with rowD := D, colD := V } B b2 b3 s b d ∧ Only (W3 br bu bv) w w', ⟨_, _, _, _, _, _, [], Tree.start hi hk, by simp, rfl, rfl, rfl, I4, G4⟩, ?_⟩
  clear I4 G4 w4
  rintro n _ w4 x _ ⟨D, V, s, b, d, ord, T, hm, rfl, rfl, rfl, I4, G4⟩
  refine ⟨_, I4.sq.f1, ?_⟩
  have T2 := T.scan' 
  obtain ⟨hrl, -⟩ := T.bounds hm _ (lastOf_inT ord)
  obtain ⟨l1', l2', l3', l4', l5'⟩ := T.len
  have hdk := T.dk hm
  have hbD := T.dlo _ hrl
  have hbu := hi.bu _ hrl
  generalize hF : scanS Q k D V s d (lastOf ord) = F at *
  generalize hG : scanB Q k D V s b d (lastOf ord) = G at *
  have hh : ∀ j, F j = if hit Q k D V s d (lastOf ord) j then Q.c (rowAt Q k (lastOf ord)) j - gI D (rowAt Q k (lastOf ord)) - gI V j else gI s j := fun j => by rw [← hF]; rfl
  have hg : ∀ j, G j = if hit Q k D V s d (lastOf ord) j then lastOf ord else gI b j := fun j => by rw [← hG]; rfl
  refine ⟨fun n x y w' => ∃ j : Nat, y = (j : Int) ∧ j ≤ Q.size ∧ n = Q.size - j ∧ Nx d F j x ∧ InsAt w' B q br bu bv A { Q with rowD := D, colD := V } B b2 b3 (mix F s j) (mix G b j) d ∧ Only (W3 br bu bv) w w', ⟨_, 0, rfl, Nat.zero_le _, rfl, .inl ⟨rfl, fun i h => absurd h (by omega)⟩, by rw [mix_zero, mix_zero]; exact I4, G4⟩, ?_⟩
  clear I4 G4 w4
  rintro n _ w4 x _ ⟨j, rfl, hj, rfl, N, I4, G4⟩
  refine ⟨fun hlt => ?_, fun hge => ?_⟩
  · have hlt : j < Q.size := by have : (j : Int) < (Q.size : Int) := dT hlt; omega
    have hbV := T.vlo j hlt
    have hbv := hi.bv j hlt
    have hbn := T.vneg j hlt
    have hbf := (hi.free j hlt).1
    refine ⟨_, rfl, ⟨by omega, by omega⟩, _, Row.bool I4.h3 (by omega), fun hu => ?_, fun hu k58 hk58 => ?_⟩
    · have hnh : ¬ hit Q k D V s d (lastOf ord) j = true := fun h => by have := (hit_of.1 h).1; rw [hu] at this; cases this
      refine ⟨_, by omega, j + 1, by rw [wr (by omega)]; omega, hlt, rfl, ?_, ?_, G4⟩
      · rcases N with ⟨rfl, N⟩ | ⟨p, rfl, N1, N2, N3⟩
        · refine .inl ⟨rfl, fun i hi' => ?_⟩
          rcases Nat.lt_or_ge i j with h | h
          · exact N i h
          · obtain rfl : i = j := by omega
            exact hu
        · refine .inr ⟨p, rfl, by omega, N2, fun i hi' hd => ?_⟩
          rcases Nat.lt_or_ge i j with h | h
          · exact N3 i h hd
          · obtain rfl : i = j := by omega
            rw [hu] at hd; cases hd
      · rw [← mix_same (by omega) (by rw [hh, if_neg hnh]), ← mix_same (by omega) (by rw [hg, if_neg hnh])]
        exact I4
    have key : ∀ w', InsAt w' B q br bu bv A { Q with rowD := D, colD := V } B b2 b3 (mix F s (j + 1)) (mix G b (j + 1)) d → Only (W3 br bu bv) w w' → k58 w' := fun w5 I5 G5 => hk58 w5 fun _ w6 e6 => by
      have I6 := I5.drew e6
      have G6 := G5.trans' (only_drew e6)
      have ej : gI (mix F s (j + 1)) j = F j := by rw [mix_get (by omega), if_pos (by omega)]
      refine ⟨fun hx => ?_, fun hx => ?_⟩
      · have hx := dT hx
        refine ⟨_, by omega, j + 1, by rw [wr (by omega)]; omega, hlt, rfl, .inr ⟨j, rfl, by omega, hu, fun i hi' hd => ?_⟩, I6, G6⟩
        rcases N with ⟨-, N⟩ | ⟨p, rfl, -⟩
        · rcases Nat.lt_or_ge i j with h | h
          · rw [N i h] at hd; cases hd
          · obtain rfl : i = j := by omega
            exact Int.le_refl _
        · omega
      · have hx := dF hx
        rcases N with ⟨rfl, -⟩ | ⟨p, rfl, N1, N2, N3⟩
        · omega
        have ep : gI (mix F s (j + 1)) p = F p := by rw [mix_get (by omega), if_pos (by omega)]
        refine ⟨_, rfl, ⟨by omega, by omega⟩, _, Row.int I6.h1 (by rw [mix_len]; omega), _, rfl, ⟨by omega, by omega⟩, _, Row.int I6.h1 (by rw [mix_len]; omega), fun hc => ?_, fun hc => ?_⟩
        · have hc := dT hc
          rw [ej, ep] at hc
          refine ⟨_, by omega, j + 1, by rw [wr (by omega)]; omega, hlt, rfl, .inr ⟨j, rfl, by omega, hu, fun i hi' hd => ?_⟩, I6, G6⟩
          rcases Nat.lt_or_ge i j with h | h
          · have := N3 i h hd; omega
          · obtain rfl : i = j := by omega
            exact Int.le_refl _
        · have hc := dF hc
          rw [ej, ep] at hc
          refine ⟨_, by omega, j + 1, by rw [wr (by omega)]; omega, hlt, rfl, .inr ⟨p, rfl, by omega, N2, fun i hi' hd => ?_⟩, I6, G6⟩
          rcases Nat.lt_or_ge i j with h | h
          · exact N3 i h hd
          · obtain rfl : i = j := by omega
            omega
    obtain ⟨oc, cc, c1, a, ha, oi, ci, c2, a', ha', c3⟩ := I4.sq.costCell (i := rowAt Q k (lastOf ord)) (j := j) hrl hlt
    change _ = some (Value.int .i64 (Q.c (rowAt Q k (lastOf ord)) j)) at c3
    refine ⟨_, _, _, c1, a, ha, ⟨by omega, by simp only; omega⟩, _, _, _, c2, a', ha', ⟨by omega, by simp only; omega⟩, _, c3, fun hfin => ?_, fun hfin => ?_⟩
    · have hfin := nT hfin
      intro w5 e5
      have I5 := I4.drew e5
      have G5 := G4.trans' (only_drew e5)
      have hbc := hi.cost.bd hrl hlt hfin
      have cu : w5.cell? ((⟨bu, 0, none⟩ : Addr).add (((rowAt Q k (lastOf ord) : Nat) : Int).toNat * 1)) = some (.int .i64 (gI D (rowAt Q k (lastOf ord)))) := Row.int I5.sq.hu (by omega)
      have cv : w5.cell? ((⟨bv, 0, none⟩ : Addr).add ((j : Int).toNat * 1)) = some (.int .i64 (gI V j)) := Row.int I5.sq.hv (by omega)
      have cs := Row.int I5.h1 (j := j) (by rw [mix_len]; omega)
      rw [mix_get (by omega), if_neg (by omega)] at cs
      have e1 : IntKind.wrap .i64 (IntKind.wrap .i64 (Q.c (rowAt Q k (lastOf ord)) j - gI D (rowAt Q k (lastOf ord))) - gI V j) = Q.c (rowAt Q k (lastOf ord)) j - gI D (rowAt Q k (lastOf ord)) - gI V j := by
        rw [wr (x := Q.c (rowAt Q k (lastOf ord)) j - gI D (rowAt Q k (lastOf ord))) (by omega), wr (by omega)]
      refine ⟨_, _, _, I5.sq.f3, _, rfl, ⟨by omega, by simp only; omega⟩, _, cu, _, _, _, I5.sq.f4, _, rfl, ⟨by omega, by simp only; omega⟩, _, cv, _, rfl, ⟨by omega, by omega⟩, _, cs, ?_⟩
      rw [e1]
      refine ⟨fun hc => ?_, fun hc => ?_⟩
      · have hhit : hit Q k D V s d (lastOf ord) j = true := hit_of.2 ⟨hu, hfin, dT hc⟩
        refine ⟨_, rfl, ⟨by omega, by omega⟩, Row.thereI I5.h1 (by rw [mix_len]; omega), fun w6 e6 => ?_⟩
        have I6 := I5.setS hlt e6
        have G6 := Only.w3 G5 hB (only_setAdd e6) (.inl hb1)
        refine ⟨_, rfl, ⟨by omega, by omega⟩, Row.thereI I6.h2 (by rw [mix_len]; omega), fun w7 e7 => ?_⟩
        have I7 := I6.setP hlt e7
        have G7 := Only.w3 G6 hB (only_setAdd e7) (.inl hb2)
        refine key w7 ?_ G7
        rw [← mix_set (by omega), ← mix_set (by omega), hh, hg, if_pos hhit, if_pos hhit]
        exact I7
      · have hnh : ¬ hit Q k D V s d (lastOf ord) j = true := fun h => by have := (hit_of.1 h).2.2; have := dF hc; omega
        refine key w5 ?_ G5
        rw [← mix_same (by omega) (by rw [hh, if_neg hnh]), ← mix_same (by omega) (by rw [hg, if_neg hnh])]
        exact I5
    · have hfin := nF hfin
      have hnh : ¬ hit Q k D V s d (lastOf ord) j = true := fun h => (hit_of.1 h).2.1 hfin
      refine key w4 ?_ G4
      rw [← mix_same (by omega) (by rw [hh, if_neg hnh]), ← mix_same (by omega) (by rw [hg, if_neg hnh])]
      exact I4
  have hge : ¬ (j : Int) < (Q.size : Int) := dF hge
  obtain rfl : j = Q.size := by omega
  have hun : ∀ i, i < Q.size → (gB d i = false ↔ i ∉ ord) := fun i hi => by
    have := T.use i hi
    cases h : gB d i
    · rw [h] at this; exact ⟨fun _ hh => Bool.noConfusion (this.2 hh), fun _ => rfl⟩
    · rw [h] at this; exact ⟨fun hh => Bool.noConfusion hh, fun hh => absurd (this.1 rfl) hh⟩
  obtain ⟨f, hf1, hf2, hf3⟩ := T2.next hm
  rcases N with ⟨-, N⟩ | ⟨p, rfl, N1, N2, N3⟩
  · have := N f hf1; rw [(hun f hf1).2 hf2] at this; cases this
  have hpo := (hun p N1).1 N2
  have es : ∀ i, i < Q.size → gI (mix F s Q.size) i = F i := fun i hi => by rw [mix_get (by omega), if_pos hi]
  have hls : (mix F s Q.size).length = Q.size := by rw [mix_len]; exact l3'
  have hlb : (mix G b Q.size).length = Q.size := by rw [mix_len]; exact l4'
  clear hh hg hF hG hge hj
  generalize mix F s Q.size = s1 at *
  generalize mix G b Q.size = bb at *
  have hmin : ∀ j, j < Q.size → j ∉ ord → gI s1 p ≤ gI s1 j := fun i hi ho => by rw [es p N1, es i hi]; exact N3 i hi ((hun i hi).2 ho)
  have hsf := hmin f hf1 hf2
  have hsp := (T2.slack (fun _ h => h) hm N1 hpo).1
  generalize hdl : gI s1 p = δ at *
  clear N3 es
  refine ⟨_, rfl, ⟨by omega, by omega⟩, _, Row.int I4.h1 (by omega), _, _, _, I4.sq.f3, _, rfl, ⟨by omega, by simp only; omega⟩, _, Row.int I4.sq.hu (by simp only; omega), _, rfl, ⟨by omega, by simp only; omega⟩, Row.thereI I4.sq.hu (by simp only; omega), fun w5 e5 => ?_⟩
  rw [hdl] at e5
  have hwk : IntKind.wrap .i64 (gI D k + δ) = gI D k + δ := wr (by omega)
  have I5 := I4.setU (j := k) hk e5
  rw [hdl]
  have G5 := Only.w3 G4 hB (only_setAdd e5) (.inr (.inr (.inl rfl)))
  refine ⟨_, I5.sq.f1, ?_⟩
  rw [hwk] at I5
  let FV : Nat → Int := fun j => if gB d j then gI V j - δ else gI V j
  let FSq : Nat → Int := fun j => if gB d j = true ∨ gI s1 j = Inf then gI s1 j else gI s1 j - δ
  refine ⟨fun n x w' => ∃ (t : Nat) (D' : List Int), x = (t : Int) ∧ t ≤ Q.size ∧ n = Q.size - t ∧ D'.length = Q.size ∧ (∀ i, i < Q.size → (Up Q k d t i → gI D' i = gI D i + δ) ∧ (¬ Up Q k d t i → gI D' i = gI D i)) ∧ InsAt w' B q br bu bv A { Q with rowD := D', colD := mix FV V t } B b2 b3 (mix FSq s1 t) bb d ∧ Only (W3 br bu bv) w w', ⟨_, 0, D.set k (gI D k + δ), rfl, Nat.zero_le _, rfl, by simpa using l1', fun i hi => ⟨fun hu => ?_, fun hu => ?_⟩, by rw [mix_zero, mix_zero]; exact I5, G5⟩, ?_⟩
  · rcases hu with e | ⟨x, hx, _⟩
    · rw [gI_set (by omega), if_pos e, e]
    · omega
  · rw [gI_set (by omega), if_neg (fun e => hu (.inl e))]
  clear I5 G5 I4 G4 e5 w5 w4
  rintro n _ w4 x ⟨t, D', rfl, ht, rfl, lD, hD, I4, G4⟩
  refine ⟨fun hlt => ?_, fun hge => ?_⟩
  · have hlt : t < Q.size := by have : (t : Int) < (Q.size : Int) := dT hlt; omega
    have hbV := T.vlo t hlt
    have hbv := hi.bv t hlt
    have hbn := T.vneg t hlt
    have hbf := (hi.free t hlt).1
    refine ⟨_, rfl, ⟨by omega, by omega⟩, _, Row.bool I4.h3 (by omega), fun hu w5 e5 => ?_, fun hu => ?_⟩
    · have I5 := I4.drew e5
      have G5 := G4.trans' (only_drew e5)
      have hto := (T.use t hlt).1 hu
      have hm0 := hm t hto
      obtain ⟨r, hr, hrk⟩ : ∃ r : Nat, gI Q.rowOf t = (r : Int) ∧ r < k := ⟨(gI Q.rowOf t).toNat, by omega, by rcases hi.row t hlt with h | h <;> omega⟩
      have hnu : ¬ Up Q k d t r := by
        rintro (e | ⟨x, hx, hxd, hxr⟩)
        · omega
        · have := hi.inj x t (by omega) hlt (by omega) (by omega); omega
      have hDr := (hD r (by omega)).2 hnu
      have hb1 := T.dlo r (by omega)
      have hb2' := hi.bu r (by omega)
      have cr : w5.cell? ((⟨br, 0, none⟩ : Addr).add ((t : Int).toNat * 1)) = some (.int .i64 (r : Int)) := by rw [← hr]; exact Row.int I5.sq.hr (by have := hi.len.1; omega)
      have cd : w5.cell? ((⟨bu, 0, none⟩ : Addr).add ((r : Int).toNat * 1)) = some (.int .i64 (gI D r)) := by rw [← hDr]; exact Row.int I5.sq.hu (by omega)
      refine ⟨_, _, _, I5.sq.f3, _, _, _, I5.sq.f2, _, rfl, ⟨by omega, by simp only; omega⟩, _, cr, _, rfl, ⟨by omega, by simp only; omega⟩, _, cd, _, rfl, ⟨by omega, by simp only; omega⟩, Row.thereI I5.sq.hu (by simp only; omega), fun w6 e6 => ?_⟩
      rw [wr (x := gI D r + δ) (by omega)] at e6
      have I6 := I5.setU (by show r < Q.size; omega) e6
      have G6 := Only.w3 G5 hB (only_setAdd e6) (.inr (.inr (.inl rfl)))
      have cv : w6.cell? ((⟨bv, 0, none⟩ : Addr).add ((t : Int).toNat * 1)) = some (.int .i64 (gI V t)) := by
        have := Row.int I6.sq.hv (j := t) (by simp only; rw [mix_len]; omega)
        rw [mix_get (by omega), if_neg (by omega)] at this; exact this
      refine ⟨_, _, _, I6.sq.f4, _, rfl, ⟨by omega, by simp only; omega⟩, _, cv, _, rfl, ⟨by omega, by simp only; omega⟩, Row.thereI I6.sq.hv (by simp only; rw [mix_len]; omega), fun w7 e7 => ?_⟩
      rw [wr (x := gI V t - δ) (by omega)] at e7
      have I7 := I6.setV (by show t < Q.size; omega) e7
      have G7 := Only.w3 G6 hB (only_setAdd e7) (.inr (.inr (.inr rfl)))
      refine ⟨_, by omega, t + 1, D'.set r (gI D r + δ), by rw [wr (by omega)]; omega, hlt, rfl, by simpa using lD, fun i hi' => ?_, ?_, G7⟩
      · rw [gI_set (by omega)]
        by_cases e : i = r
        · subst e
          exact ⟨fun _ => by rw [if_pos rfl], fun hn => absurd (.inr ⟨t, by omega, hu, hr⟩) hn⟩
        · rw [if_neg e]
          refine ⟨fun hn => (hD i hi').1 ?_, fun hn => (hD i hi').2 fun h => hn ?_⟩
          · rcases hn with h | ⟨x, hx, hxd, hxr⟩
            · exact .inl h
            · rcases Nat.lt_or_ge x t with h | h
              · exact .inr ⟨x, h, hxd, hxr⟩
              · obtain rfl : x = t := by omega
                omega
          · rcases h with h | ⟨x, hx, hxd, hxr⟩
            · exact .inl h
            · exact .inr ⟨x, by omega, hxd, hxr⟩
      · rw [← mix_set (F := FV) (P := V) (by omega), ← mix_same (F := FSq) (P := s1) (by omega) (by show (if _ then _ else _) = _; rw [if_pos (.inl hu)])]
        have : FV t = gI V t - δ := by show (if _ then _ else _) = _; rw [if_pos hu]
        rw [this]
        exact I7
    · have hto := (hun t hlt).1 hu
      have cs : w4.cell? ((⟨B, 0, none⟩ : Addr).add ((t : Int).toNat * 1)) = some (.int .i64 (gI s1 t)) := by
        have := Row.int I4.h1 (j := t) (by rw [mix_len]; omega)
        rw [mix_get (by omega), if_neg (by omega)] at this; exact this
      have hup : ∀ i, i < Q.size → (Up Q k d (t + 1) i → gI D' i = gI D i + δ) ∧ (¬ Up Q k d (t + 1) i → gI D' i = gI D i) := fun i hi' => by
        refine ⟨fun hn => (hD i hi').1 ?_, fun hn => (hD i hi').2 fun h => hn ?_⟩
        · rcases hn with h | ⟨x, hx, hxd, hxr⟩
          · exact .inl h
          · rcases Nat.lt_or_ge x t with h | h
            · exact .inr ⟨x, h, hxd, hxr⟩
            · obtain rfl : x = t := by omega
              rw [hu] at hxd; cases hxd
        · rcases h with h | ⟨x, hx, hxd, hxr⟩
          · exact .inl h
          · exact .inr ⟨x, by omega, hxd, hxr⟩
      have hfv : FV t = gI V t := by show (if _ then _ else _) = _; rw [if_neg (by rw [hu]; exact Bool.noConfusion)]
      refine ⟨_, rfl, ⟨by omega, by omega⟩, _, cs, fun hfin => ?_, fun hfin => ?_⟩
      · have hfin := nT hfin
        have hsl := T2.slack (fun _ h => h) hm hlt hto
        have hsl2 := hsl.2.resolve_left hfin
        refine ⟨_, rfl, ⟨by omega, by omega⟩, _, cs, _, rfl, ⟨by omega, by omega⟩, Row.thereI I4.h1 (by rw [mix_len]; omega), fun w5 e5 => ?_⟩
        rw [wr (x := gI s1 t - δ) (by omega)] at e5
        have I5 := I4.setS (by show t < Q.size; omega) e5
        have G5 := Only.w3 G4 hB (only_setAdd e5) (.inl hb1)
        refine ⟨_, by omega, t + 1, D', by rw [wr (by omega)]; omega, hlt, rfl, lD, hup, ?_, G5⟩
        have : FSq t = gI s1 t - δ := by
          show (if _ then _ else _) = _
          rw [if_neg]
          rintro (h | h)
          · rw [hu] at h; cases h
          · exact hfin h
        rw [← mix_set (F := FSq) (P := s1) (by omega), ← mix_same (F := FV) (P := V) (by omega) hfv, this]
        exact I5
      · have hfin := nF hfin
        refine ⟨_, by omega, t + 1, D', by rw [wr (by omega)]; omega, hlt, rfl, lD, hup, ?_, G4⟩
        have : FSq t = gI s1 t := by
          show (if _ then _ else _) = _
          rw [if_pos (.inr hfin)]
        rw [← mix_same (F := FSq) (P := s1) (by omega) this, ← mix_same (F := FV) (P := V) (by omega) hfv]
        exact I4
  have hge : ¬ (t : Int) < (Q.size : Int) := dF hge
  obtain rfl : t = Q.size := by omega
  have hup : ∀ i, InTree Q k ord i ↔ Up Q k d Q.size i := fun i => by
    refine ⟨fun h => ?_, fun h => ?_⟩
    · rcases h with h | ⟨x, hx, hxr⟩
      · exact .inl h
      · have := T.path.lt x hx
        exact .inr ⟨x, this, (T.use x this).2 hx, hxr⟩
    · rcases h with h | ⟨x, hx, hxd, hxr⟩
      · exact .inl h
      · exact .inr ⟨x, (T.use x hx).1 hxd, hxr⟩
  have T3 : Tree Q R C k D' (mix FV V Q.size) (mix FSq s1 Q.size) bb (d.set p true) (p :: ord) (InT ord) := by
    refine T2.raise hm N1 hpo (fun i hi ho => by rw [hdl]; exact hmin i hi ho) ⟨lD, by rw [mix_len]; exact l2', by rw [mix_len]; exact hls⟩ (fun i hi => ?_) (fun i hi => ?_) fun i hi ho => ?_
    · rw [hup, hdl]; exact hD i hi
    · rw [mix_get (by omega), if_pos hi, hdl]
      refine ⟨fun ho => ?_, fun ho => ?_⟩
      · show (if _ then _ else _) = _
        rw [if_pos ((T.use i hi).2 ho)]
      · show (if _ then _ else _) = _
        rw [if_neg (by rw [(hun i hi).2 ho]; exact Bool.noConfusion)]
    · rw [mix_get (by omega), if_pos hi, hdl]
      refine ⟨fun hf => ?_, fun hf => ?_⟩
      · show (if _ then _ else _) = _
        rw [if_neg]
        rintro (h | h)
        · rw [(hun i hi).2 ho] at h; cases h
        · exact hf h
      · show (if _ then _ else _) = _
        rw [if_pos (.inr hf)]; exact hf
  generalize mix FV V Q.size = V' at *
  generalize mix FSq s1 Q.size = s' at *
  have hDk := (hD k hk).1 (.inl rfl)
  clear hup hD FV FSq hge ht
  have hdk' := T3.dlo k hk
  refine ⟨_, rfl, ⟨by omega, by omega⟩, Row.thereB I4.h3 (by omega), fun w5 e5 => ?_⟩
  have I5 := I4.setD e5
  have G5 := Only.w3 G4 hB (only_setAdd e5) (.inl hb3)
  refine ⟨_, _, _, I5.sq.f2, _, rfl, ⟨by omega, by simp only; omega⟩, _, Row.int I5.sq.hr (by have := hi.len.1; simp only; omega), fun hfr => ?_, fun hfr => ?_⟩
  · have hfr : gI Q.rowOf p < 0 := dT hfr
    have H := T3.hole hm hfr
    refine ⟨fun n x w' => ∃ (p : Nat) (l : List Nat) (r : List Int), x = (p : Int) ∧ n = l.length ∧ Hole Q k D' V' bb r p l ∧ SqAt w' q br bu bv A { Q with rowOf := r, rowD := D', colD := V' } ∧ Row w' b2 3 (intsV bb) ∧ Only (W3 br bu bv) w w', ⟨_, p, ord, _, rfl, rfl, H, I5.sq, I5.h2, G5⟩, ?_⟩
    clear I4 G4 e5
    rintro n _ w6 x ⟨p', l, r, rfl, rfl, H, S6, B6, G6⟩
    have hpl := H.path.2.1
    have hrl' := H.len
    refine ⟨fun hx => ⟨_, rfl, ⟨by omega, by omega⟩, _, Row.int B6 (by omega), fun hb => ?_, fun hb => ?_⟩, fun hx => absurd (by omega) (dF hx)⟩
    · have hb := dT hb
      intro w7 e7
      have S7 := S6.grow (only_drew e7)
      have B7 := B6.grow (only_drew e7)
      have G7 := G6.trans' (only_drew e7)
      obtain ⟨p2, hp2, hp2l, l', hl', H'⟩ := H.step hb
      have cb : w7.cell? ((⟨b2, 0, none⟩ : Addr).add ((p' : Int).toNat * 1)) = some (.int .i64 (p2 : Int)) := by rw [← hp2]; exact Row.int B7 (by omega)
      refine ⟨_, _, _, S7.f2, _, _, _, S7.f2, _, rfl, ⟨by omega, by omega⟩, _, cb, _, rfl, ⟨by omega, by simp only; omega⟩, _, Row.int S7.hr (by simp only; omega), _, rfl, ⟨by omega, by simp only; omega⟩, Row.thereI S7.hr (by simp only; omega), fun w8 e8 => ?_⟩
      have S8 := S7.setR (by show p' < Q.size; omega) e8
      have G8 := Only.w3 G7 hB (only_setAdd e8) (.inr (.inl rfl))
      have B8 := B7.keep (only_setAdd e8) (by omega)
      have cb8 : w8.cell? ((⟨b2, 0, none⟩ : Addr).add ((p' : Int).toNat * 1)) = some (.int .i64 (p2 : Int)) := by rw [← hp2]; exact Row.int B8 (by omega)
      exact ⟨_, rfl, ⟨by omega, by omega⟩, _, cb8, _, hl', p2, l', _, rfl, rfl, H', S8, B8, G8⟩
    · have hb := dF hb
      refine ⟨_, _, _, S6.f2, _, rfl, ⟨by omega, by simp only; omega⟩, Row.thereI S6.hr (by simp only; omega), fun w7 e7 => ?_⟩
      have S7 := S6.setR (by show p' < Q.size; omega) e7
      have G7 := Only.w3 G6 hB (only_setAdd e7) (.inr (.inl rfl))
      exact ⟨rfl, _, _, _, S7, H.last (by omega) T3 (by omega), G7⟩
  · have hfr : ¬ gI Q.rowOf p < 0 := dF hfr
    refine ⟨_, _, _, I5.sq.f2, _, rfl, ⟨by omega, by simp only; omega⟩, _, Row.int I5.sq.hr (by have := hi.len.1; simp only; omega), (d.set p true).count false, count_mark d p (by omega) N2, D', V', s', bb, d.set p true, p :: ord, T3, fun x hx => ?_, rfl, ?_, rfl, I5, G5⟩
    · rcases List.mem_cons.1 hx with rfl | hx
      · omega
      · exact hm x hx
    · rw [rowAt_nat]; show gI Q.rowOf p = _; omega

theorem idxOf_some (v : Int) : ∀ (xs : List Int) (k j : Nat), gI xs j = v → j < xs.length → ∃ h : Nat, idxOf v xs (k : Int) = ((k + h : Nat) : Int) ∧ h < xs.length ∧ gI xs h = v
  | [], _, _, _, h => by simp at h
  | x :: xs, k, j, e, h => by
    unfold idxOf
    by_cases hx : v = x
    · rw [if_pos hx]; exact ⟨0, rfl, by simp, hx.symm⟩
    · rw [if_neg hx]
      cases j with
      | zero => exact absurd (e.symm : v = x) hx
      | succ j =>
        obtain ⟨h', e', hl, hg⟩ := idxOf_some v xs (k + 1) j e (by simpa using h)
        refine ⟨h' + 1, ?_, by simpa using hl, hg⟩
        have : ((k : Int) + 1) = ((k + 1 : Nat) : Int) := by omega
        rw [this, e']; omega
theorem count_neg : ∀ (d : List Int) (p : Nat) (v : Int), p < d.length → gI d p = -1 → v ≠ -1 → (d.set p v).count (-1) + 1 = d.count (-1)
  | [], p, v, h, _, _ => by simp at h
  | x :: d, 0, v, _, h, hv => by
    simp only [gI, List.getElem?_cons_zero, Option.getD_some] at h
    subst h
    simp only [List.set_cons_zero, List.count_cons, beq_self_eq_true, if_true]
    rw [if_neg (by simpa using hv)]
  | x :: d, p + 1, v, h, h', hv => by
    have := count_neg d p v (by simpa using h) (by simpa [gI] using h') hv
    simp only [List.set_cons_succ, List.count_cons]
    omega
def natsV (xs : List Nat) : List Value := xs.map fun x => .int .i64 ((x : Nat) : Int)

set_option maxRecDepth 10000 in
set_option maxHeartbeats 4000000 in
theorem advance_c (q br bu bv : Nat) (A : Nat → Prop) (Q : Sq) (R C i : Nat) (w : World) (h : SqAt w q br bu bv A Q) (hA : ∀ x, A x → x < hs w) (hp : Perf Q R C) (hi : i < Q.size) (hl : Lex Q i) :
    Calls Tryd.prog 50 #[.pointer (some ⟨q, 0, none⟩), .int .i64 (i : Int)] w fun e w' => e = .returned (.tuple #[]) ∧
      ∃ r, SqAt w' q br bu bv A { Q with rowOf := r } ∧ Perf { Q with rowOf := r } R C ∧ Lex { Q with rowOf := r } (i + 1) ∧ Only (fun b => b = br) w w' := by
  have hsm := h.small
  have hold : q < hs w ∧ br < hs w ∧ bu < hs w ∧ bv < hs w ∧ (∀ x, A x → x < hs w) := by
    obtain ⟨_, _, hq, _⟩ := h.hq
    exact ⟨hq.lt, h.hr.lt, h.hu.lt, h.hv.lt, hA⟩
  have hlr := hp.len.1
  have ic := index_c (some ⟨br, 0, none⟩) Q.size Q.rowOf i w (A := fun b => b = br) (h.hr.nums rfl) (by omega)
  rw [hlr] at ic
  obtain ⟨j0, hj0, ej0⟩ := hp.all i hi
  obtain ⟨home, eh, hh, hhi⟩ := idxOf_some (i : Int) Q.rowOf 0 j0 ej0 (by omega)
  rw [hlr] at hh
  rw [Nat.zero_add] at eh
  refine nf50 q i w _ ⟨_, _, _, h.f2, ic.mono ?_⟩
  rintro e4 _ ⟨rfl, rfl⟩
  refine ⟨_, by rw [show (0 : Int) = ((0 : Nat) : Int) from rfl, eh], _, h.f1, make_zeros elem23 zero3 (by omega) fun w1 r1 g1 l1 => ⟨_, _, _, rfl, ?_⟩⟩
  have S1 := h.grow g1
  clear h ic
  generalize hB : hs w = B at *
  refine ⟨fun n x w' => ∃ t : Nat, x = (t : Int) ∧ t ≤ Q.size ∧ n = Q.size - t ∧ SqAt w' q br bu bv A Q ∧ Row w' B 3 (intsV (mix (fun _ => -1) (List.replicate Q.size 0) t)) ∧ hs w' = B + 1 ∧ Grow w w', ⟨_, 0, rfl, Nat.zero_le _, rfl, S1, by rw [mix_zero]; exact r1, l1, g1⟩, ?_⟩
  rintro n _ w2 x ⟨t, rfl, ht, rfl, S2, r2, l2, g2⟩
  refine ⟨fun hlt => ?_, fun hge w3 e3 => ?_⟩
  · have hlt : t < Q.size := by have := dT hlt; omega
    refine ⟨_, rfl, ⟨by omega, by omega⟩, Row.thereI r2 (by rw [mix_len]; simpa using hlt), fun w3 e3 => ⟨_, by omega, t + 1, by rw [wr (by omega)]; omega, hlt, rfl, ?_, ?_, ?_, ?_⟩⟩
    · exact S2.own hold (only_setAdd e3) (fun x hx => by omega)
    · have := Row.setI r2 (by rw [mix_len]; simpa using hlt) e3
      rw [← mix_set (by simpa using hlt)]; exact this
    · have := (only_setAdd e3).size; subst e3; rw [← l2]; exact (setCells_facts _ _ _ _).2.2.2.1
    · exact g2.trans (only_setAdd e3) fun x hx e => by omega
  have hge := dF hge
  obtain rfl : t = Q.size := by omega
  have e2 : mix (fun _ => -1) (List.replicate Q.size 0) Q.size = List.replicate Q.size (-1) := by
    apply List.ext_getElem
    · simp [mix]
    · intro i h1 h2; simp at h2; simp [mix, h2]
  rw [e2] at r2
  have S3 := S2.grow (only_alloc e3)
  have r3 := r2.grow (only_alloc e3)
  have g3 := g2.trans' (only_alloc e3)
  have q3 : Que w3 (B + 1) 3 (some ⟨hs w2, 0, none⟩) 1 1 (natsV [home]) := Row.que (Row.new e3) (by omega)
  refine ⟨fun n o m c w' => ∃ t L qs, Bfs Q i home t L qs (fun _ _ => False) ∧ Que w' (B + 1) 3 o m c (natsV qs) ∧ Row w' B 3 (intsV t) ∧ SqAt w' q br bu bv A Q ∧ Grow w w' ∧ n = 2 * t.count (-1) + qs.length ∧ 2 * t.count (-1) + qs.length ≤ 2 * Q.size + 1, ⟨_, _, _, _, Bfs.start hh, q3, r3, S3, g3, rfl, by simp⟩, ?_⟩
  clear S1 S2 S3 r1 r2 r3 g1 g2 g3 q3 e3 l1 l2 w1 w2 w3
  rintro n _ w1 o m c ⟨t, L, qs, F, hq, r1, S1, g1, rfl, hms0⟩
  have hm : m = qs.length := by obtain ⟨g, off, l, -, -, -, -, -, -, -, hxs⟩ := hq; simpa [natsV] using hxs.symm
  refine ⟨fun hgt => ?_, fun hle => ?_⟩
  · have hgt := dT hgt
    cases qs with
    | nil => simp at hm; omega
    | cons x qs =>
    obtain ⟨a, rfl, hc, -⟩ := hq.head
    have hxL := F.sub x (by simp)
    have hxS := F.rp.lt hh x hxL
    refine ⟨a, rfl, ⟨by omega, by omega⟩, _, hc, ⟨by omega, by omega⟩, _, S1.f1, fun n o m c y w' => ∃ (j : Nat) (t' : List Int) (L' qs' : List Nat), y = (j : Int) ∧ j ≤ Q.size ∧ n = Q.size - j ∧ Bfs Q i home t' L' qs' (fun y k => y = x ∧ j ≤ k) ∧ x ∈ L' ∧ Que w' (B + 1) 3 o m c (natsV qs') ∧ Row w' B 3 (intsV t') ∧ SqAt w' q br bu bv A Q ∧ Grow w w' ∧ 2 * t'.count (-1) + qs'.length < 2 * t.count (-1) + (x :: qs).length, ⟨_, 0, t, L, qs, rfl, Nat.zero_le _, rfl, ?_, hxL, hq.tail, r1, S1, g1, by simp⟩, ?_⟩
    · refine { F.pop with closed := fun y hy hq' k hk he => F.pop.closed y hy hq' k hk fun e => he ⟨e, by omega⟩ }
    clear r1 S1 g1 hq F hc hxL
    rintro n _ w2 o m c y ⟨j, t', L', qs', rfl, hj, rfl, F, hxL, hq, r2, S2, g2, hms⟩
    refine ⟨fun hlt => ?_, fun hge => ?_⟩
    · have hlt : j < Q.size := by have := dT hlt; omega
      have hrow := hp.row j hlt
      have htl := F.len
      have skip : ∀ w', (j = home ∨ 0 ≤ gI t' j ∨ gI Q.rowOf j ≤ (i : Int) ∨ ¬ Edge Q (gI Q.rowOf j).toNat x) → Grow w2 w' → ∃ n53, n53 < Q.size - j ∧ ∃ (j' : Nat) (t' : List Int) (L' qs' : List Nat), IntKind.wrap .i64 ((j : Int) + 1) = (j' : Int) ∧ j' ≤ Q.size ∧ n53 = Q.size - j' ∧ Bfs Q i home t' L' qs' (fun y k => y = x ∧ j' ≤ k) ∧ x ∈ L' ∧ Que w' (B + 1) 3 o m c (natsV qs') ∧ Row w' B 3 (intsV t') ∧ SqAt w' q br bu bv A Q ∧ Grow w w' ∧ 2 * t'.count (-1) + qs'.length < 2 * t.count (-1) + (x :: qs).length := fun w' hn g =>
        ⟨_, by omega, j + 1, t', L', qs', by rw [wr (by omega)]; omega, hlt, rfl, F.skip hn, hxL, hq.grow g, r2.grow g, S2.grow g, g2.trans' g, hms⟩
      refine ⟨fun hc => skip w2 (.inl (by have := dT hc; omega)) (Only.refl _ _), fun hc => ⟨_, rfl, ⟨by omega, by omega⟩, _, Row.int r2 (by omega), fun hc2 => skip w2 (.inr (.inl (dT hc2))) (Only.refl _ _), fun hc2 => ⟨_, _, _, S2.f2, _, rfl, ⟨by omega, by omega⟩, _, Row.int S2.hr (by omega), fun hc3 => skip w2 (.inr (.inr (.inl (dT hc3)))) (Only.refl _ _), fun hc3 => ?_⟩⟩⟩
      have hne : j ≠ home := by have := dF hc; omega
      have hc2 := dF hc2
      have hc3 := dF hc3
      obtain ⟨r, hr⟩ : ∃ r : Nat, gI Q.rowOf j = (r : Int) := ⟨(gI Q.rowOf j).toNat, by omega⟩
      have cr : w2.cell? ((⟨br, 0, none⟩ : Addr).add ((j : Int).toNat * 1)) = some (.int .i64 (r : Int)) := by rw [← hr]; exact Row.int S2.hr (by omega)
      refine ⟨_, _, _, S2.f2, _, rfl, ⟨by omega, by omega⟩, _, cr, (tight_c q br bu bv A Q r x w2 S2 (by omega) hxS).mono ?_⟩
      rintro e3 w3 ⟨rfl, g3⟩
      refine ⟨_, rfl, fun hb => ?_, fun hb => ?_⟩
      · have he := (hp.tight_iff (by omega) hxS).1 hb
        refine ⟨_, rfl, ⟨by omega, by omega⟩, Row.thereI (r2.grow g3) (by omega), fun w4 e4 w5 e5 => ?_⟩
        have o4 := only_setAdd e4
        have r4 := Row.setI (r2.grow g3) (by omega) e4
        have g4 := (g2.trans' g3).trans o4 fun x hx e => by omega
        have S4 := (S2.grow g3).own hold o4 (fun x hx => by omega)
        have q4 := (hq.grow g3).keep o4 fun b hb e => by have := (hq.base b hb).1; omega
        refine Que.push elem23 (q4.grow (only_alloc e5)) (Row.new e5) rfl ?_ ?_ ?_ fun o' c' w6 q6 o6 => ⟨_, _, _, rfl, _, ?_, j + 1, _, _, _, by rw [wr (by omega)]; omega, hlt, rfl, F.push hxL hlt hne hc2 (by omega) (by rw [hr, Int.toNat_natCast]; exact he), List.mem_cons_of_mem _ hxL, ?_, ?_, ?_, ?_, ?_⟩
        · have hqm : m = qs'.length := by obtain ⟨g, off, l, -, -, -, -, -, -, -, hxs⟩ := hq; simpa [natsV] using hxs.symm
          unfold maxLen; omega
        · have hqm : m = qs'.length := by obtain ⟨g, off, l, -, -, -, -, -, -, -, hxs⟩ := hq; simpa [natsV] using hxs.symm
          omega
        · have := r4.lt; have := hs_alloc e5; omega
        · omega
        · have e : natsV (qs' ++ [j]) = natsV qs' ++ [.int .i64 (j : Int)] := by simp [natsV]
          rw [e]; exact q6
        · exact (r4.grow (only_alloc e5)).keep o6 fun hb => by have := (hq.base _ hb).1; omega
        · exact (S4.grow (only_alloc e5)).own hold o6 fun x hx => by have := (hq.base _ hx).1; omega
        · exact (g4.trans' (only_alloc e5)).trans o6 fun x hx hb => by have := (hq.base _ hb).1; omega
        · have := count_neg t' j (x : Int) (by omega) ((F.neg j hlt).resolve_right hc2) (by omega)
          simp only [List.length_append, List.length_cons, List.length_nil] at *
          omega
      · refine skip w3 (.inr (.inr (.inr fun he => ?_))) g3
        rw [hr, Int.toNat_natCast] at he
        rw [(hp.tight_iff (by omega) hxS).2 he] at hb
        cases hb
    · have hge := dF hge
      obtain rfl : j = Q.size := by omega
      exact ⟨_, hms, t', L', qs', { F with closed := fun y hy hq k hk _ => F.closed y hy hq k hk fun e => by have := e.2; omega }, hq, r2, S2, g2, rfl, by omega⟩
  have hle := dF hle
  have hq0 : qs = [] := List.eq_nil_of_length_eq_zero (by omega)
  subst hq0
  have htl := F.len
  refine ⟨fun n x w' => ∃ j : Nat, x = (j : Int) ∧ j ≤ home ∧ n = home - j ∧ (∀ k, k < j → gI t k < 0 ∨ ¬ Edge Q i k) ∧ Row w' B 3 (intsV t) ∧ SqAt w' q br bu bv A Q ∧ Grow w w', ⟨_, 0, rfl, Nat.zero_le _, rfl, fun k hk => absurd hk (by omega), r1, S1, g1⟩, ?_⟩
  clear r1 S1 g1 hq
  rintro n _ w2 x ⟨j, rfl, hj, rfl, hno, r2, S2, g2⟩
  refine ⟨fun hlt => ?_, fun hge => ?_⟩
  · have hlt : j < home := by have := dT hlt; omega
    have skip : ∀ w', (gI t j < 0 ∨ ¬ Edge Q i j) → Grow w2 w' → ∃ n, n < home - j ∧ ∃ j' : Nat, IntKind.wrap .i64 ((j : Int) + 1) = (j' : Int) ∧ j' ≤ home ∧ n = home - j' ∧ (∀ k, k < j' → gI t k < 0 ∨ ¬ Edge Q i k) ∧ Row w' B 3 (intsV t) ∧ SqAt w' q br bu bv A Q ∧ Grow w w' := fun w' hn g =>
      ⟨_, by omega, j + 1, by rw [wr (by omega)]; omega, hlt, rfl, fun k hk => by
        rcases Nat.lt_or_ge k j with h | h
        · exact hno k h
        · obtain rfl : k = j := by omega
          exact hn, r2.grow g, S2.grow g, g2.trans' g⟩
    refine ⟨_, rfl, ⟨by omega, by omega⟩, _, Row.int r2 (by omega), fun hc => skip w2 (.inl (dT hc)) (Only.refl _ _), fun hc => (tight_c q br bu bv A Q i j w2 S2 hi (by omega)).mono ?_⟩
    rintro e3 w3 ⟨rfl, g3⟩
    refine ⟨_, rfl, fun hb => ?_, fun hb => skip w3 (.inr fun he => by rw [(hp.tight_iff hi (by omega)).2 he] at hb; cases hb) g3⟩
    have he := (hp.tight_iff hi (by omega)).1 hb
    obtain ⟨cs, c1, c2, c3⟩ := F.move hp hi hh hhi hl hlt (by have := dF hc; omega) he hno
    have sc := shift_c q br bu bv A (fun b => b = B) Q (i : Int) (j : Int) (some ⟨B, 0, none⟩) Q.size t cs w3 (S2.grow g3) ((r2.grow g3).nums rfl) (by omega) htl c1
    rw [htl] at sc
    refine sc.mono ?_
    rintro e4 w4 ⟨rfl, S4, g4⟩
    exact ⟨rfl, rfl, _, S4, c2, c3, (Grow.only (g2.trans' g3)).trans' g4⟩
  · have hge := dF hge
    obtain rfl : j = home := by omega
    exact ⟨rfl, Q.rowOf, S2, hp, F.stay hp hi hh hhi hl hno, g2.only⟩

theorem at2_get {rows : List (List Int)} {i j : Nat} (hi : i < rows.length) (hj : j < rows[i].length) : at2 rows i (j : Int) = rows[i][j] := by
  unfold at2; rw [List.getElem?_eq_getElem hi]; simp [hj]
theorem sq0_c {rows : List (List Int)} {C i j : Nat} (hi : i < rows.length + C) : (sq0 rows C).c i j = ((sqRow rows C i)[j]?).getD 0 := by
  unfold Sq.c sq0
  simp only [List.getElem?_map, List.getElem?_range hi, Option.map_some, Option.getD_some]
theorem sq0_ok {rows : List (List Int)} {C : Nat} (hrow : ∀ r ∈ rows, r.length = C) (hcost : ∀ r ∈ rows, ∀ c ∈ r, isCost c = true) (hR : rows.length ≤ 64) (hC : C ≤ 64) :
    CostOk (sq0 rows C) rows.length C ∧ ∀ i j, i < rows.length → j < C → (sq0 rows C).c i j = at2 rows i (j : Int) := by
  have hreal : ∀ i j, i < rows.length → j < C → (sq0 rows C).c i j = at2 rows i (j : Int) := fun i j hi hj => by
    have hl : rows[i].length = C := hrow _ (List.getElem_mem hi)
    rw [sq0_c (by omega), at2_get hi (by omega)]
    unfold sqRow
    rw [if_pos hi, List.getElem?_eq_getElem hi, List.getElem?_append_left (by simp; omega)]
    simp [hl, hj]
  refine ⟨⟨rfl, ⟨hR, hC⟩, fun i j hi hj => ?_, fun i hi => ?_, fun i j hi h1 h2 h3 => ?_, fun i j h1 h2 h3 => ?_⟩, hreal⟩
  · have hl : rows[i].length = C := hrow _ (List.getElem_mem hi)
    rw [hreal i j hi hj, at2_get hi (by omega)]
    have := hcost _ (List.getElem_mem hi) _ (List.getElem_mem (show j < rows[i].length by omega))
    by_cases e : rows[i][j]'(by omega) = Inf
    · exact .inl e
    · exact .inr (isCost_bd this e)
  · have hl : rows[i].length = C := hrow _ (List.getElem_mem hi)
    rw [sq0_c (by omega)]
    unfold sqRow
    rw [if_pos hi, List.getElem?_eq_getElem hi, List.getElem?_append_right (by simp; omega)]
    simp [hl, hi]
  · have hl : rows[i].length = C := hrow _ (List.getElem_mem hi)
    rw [sq0_c (by omega)]
    unfold sqRow
    rw [if_pos hi, List.getElem?_eq_getElem hi, List.getElem?_append_right (by simp; omega)]
    simp only [Option.getD_some, hl]
    rw [List.getElem?_set_ne (by omega), List.getElem?_replicate, if_pos (by omega)]; rfl
  · rw [sq0_c h2]
    unfold sqRow
    rw [if_neg (by omega), List.getElem?_replicate, if_pos (by omega)]; rfl
theorem gI_rep {n i : Nat} {x : Int} (h : i < n) : gI (List.replicate n x) i = x := by
  unfold gI; rw [List.getElem?_replicate, if_pos h]; rfl
theorem sq0_inv {rows : List (List Int)} {C : Nat} (h : CostOk (sq0 rows C) rows.length C) : Inv (sq0 rows C) rows.length C 0 := by
  refine ⟨h, Nat.zero_le _, by simp [sq0], fun j hj => .inl (gI_rep hj), fun j j' hj _ _ h0 => ?_, fun i j hi hj hf => ?_, fun i hi => by omega, fun i j hj e => ?_, fun j hj => ?_, fun i _ hi => gI_rep hi, fun i hi => ?_, fun j hj => ?_⟩
  · rw [show gI (sq0 rows C).rowOf j = -1 from gI_rep hj] at h0; omega
  · rw [show gI (sq0 rows C).rowD i = 0 from gI_rep hi, show gI (sq0 rows C).colD j = 0 from gI_rep hj]
    have := h.bd hi hj hf; omega
  · rw [show gI (sq0 rows C).rowOf j = -1 from gI_rep hj] at e; omega
  · rw [show gI (sq0 rows C).colD j = 0 from gI_rep hj]; omega
  · rw [show gI (sq0 rows C).rowD i = 0 from gI_rep hi]; omega
  · rw [show gI (sq0 rows C).colD j = 0 from gI_rep hj]; omega
theorem gm_set {m : List Int} {i k : Nat} {x : Int} (h : i < m.length) : gm (m.set i x) k = if k = i then x else gm m k := by
  unfold gm
  rw [List.getElem?_set]
  by_cases e : i = k
  · subst e; simp [h]
  · rw [if_neg e, if_neg (fun h => e h.symm)]
theorem tot_set {rows : List (List Int)} {m : List Int} {i : Nat} {x : Int} (h : i < m.length) (h1 : gm m i = -1) (h2 : x ≠ -1) : ∀ n, tot rows (m.set i x) n = tot rows m n + if i < n then at2 rows i x else 0
  | 0 => by simp [tot]
  | n + 1 => by
    rw [tot, tot, tot_set h h1 h2 n, gm_set h]
    by_cases e : n = i
    · subst e
      rw [if_neg (by omega), if_pos rfl, if_neg h2, h1, if_pos rfl, if_pos (by omega)]
    · rw [if_neg e]
      generalize (if gm m n = -1 then 0 else at2 rows n (gm m n)) = z
      by_cases e2 : i < n
      · rw [if_pos e2, if_pos (by omega)]; omega
      · rw [if_neg e2, if_neg (by omega)]; omega
theorem tot_bound {rows : List (List Int)} {m : List Int} {R : Nat} (h : ∀ i, i < R → gm m i = -1 ∨ (0 ≤ at2 rows i (gm m i) ∧ at2 rows i (gm m i) ≤ 1099511627776)) : ∀ n, n ≤ R → 0 ≤ tot rows m n ∧ tot rows m n ≤ 1099511627776 * n
  | 0, _ => by simp [tot]
  | n + 1, hn => by
    have := tot_bound h n (by omega)
    rw [tot]
    rcases h n (by omega) with e | e
    · rw [if_pos e]; omega
    · split <;> omega

set_option maxRecDepth 10000 in
set_option maxHeartbeats 4000000 in
theorem solve_c (o : Option Addr) (c : Nat) (rows : List (List Int)) (C : Nat) (w : World) {A0 : Nat → Prop} (h : Mat w A0 o rows) (hrow : ∀ r ∈ rows, r.length = C) (hcost : ∀ r ∈ rows, ∀ c ∈ r, isCost c = true) (hR : rows.length ≤ 64) (hC : C ≤ 64) :
    Calls Tryd.prog 40 #[.slice o rows.length c, .int .i64 (C : Int)] w fun e w' => ∃ b m, e = .returned (.tuple #[.slice (some ⟨b, 0, none⟩) rows.length rows.length, .int .i64 (tot rows m rows.length)]) ∧
      Row w' b 3 (intsV m) ∧ hs w ≤ b ∧ (Best rows C m ∧ Opt rows C (big rows m)) ∧ Grow w w' := by
  obtain ⟨ok, hreal⟩ := sq0_ok hrow hcost hR hC
  refine nf40 o rows.length c C w _ ((newSquare_c o c rows C w h hrow hR hC).mono ?_)
  rintro e w1 ⟨q, br, bu, bv, A, rfl, S1, hA, k1, k2, k3, k4, g1⟩
  refine ⟨_, rfl, _, rfl, _, by rw [Addr.add_lit]; exact S1.f1, ?_⟩
  have hsz : (sq0 rows C).size = rows.length + C := rfl
  rw [hsz]
  refine ⟨fun n x w' => ∃ (k : Nat) (r D V : List Int), x = (k : Int) ∧ k ≤ rows.length + C ∧ n = rows.length + C - k ∧ SqAt w' q br bu bv A { sq0 rows C with rowOf := r, rowD := D, colD := V } ∧ Inv { sq0 rows C with rowOf := r, rowD := D, colD := V } rows.length C k ∧ (∀ b, A b → b < hs w') ∧ Grow w w', ⟨_, 0, _, _, _, rfl, Nat.zero_le _, rfl, S1, sq0_inv ok, fun b hb => (hA b hb).2, g1⟩, ?_⟩
  clear S1 g1
  rintro n _ w2 x ⟨k, r, D, V, rfl, hk, rfl, S2, I2, hA2, g2⟩
  refine ⟨fun hlt => ?_, fun hge => ?_⟩
  · have hlt : k < rows.length + C := by have := dT hlt; omega
    refine (insert_c q br bu bv A _ rows.length C k w2 S2 hA2 I2 hlt).mono ?_
    rintro e w3 ⟨rfl, r', D', V', S3, I3, g3⟩
    refine ⟨rfl, _, ?_, k + 1, r', D', V', by rw [wr (by omega)]; omega, hlt, rfl, S3, I3, fun b hb => by have := hA2 b hb; have := g3.size; omega, g2.trans g3 fun i hi e => by unfold W3 at e; omega⟩
    omega
  have hge := dF hge
  obtain rfl : k = rows.length + C := by omega
  have P2 : Perf { sq0 rows C with rowOf := r, rowD := D, colD := V } rows.length C := Inv.perf I2
  clear I2
  refine ⟨fun n x w' => ∃ (i : Nat) (r : List Int), x = (i : Int) ∧ i ≤ rows.length ∧ n = rows.length - i ∧ SqAt w' q br bu bv A { sq0 rows C with rowOf := r, rowD := D, colD := V } ∧ Perf { sq0 rows C with rowOf := r, rowD := D, colD := V } rows.length C ∧ Lex { sq0 rows C with rowOf := r, rowD := D, colD := V } i ∧ (∀ b, A b → b < hs w') ∧ Grow w w', ⟨_, 0, r, rfl, Nat.zero_le _, rfl, S2, P2, fun g _ a ha => by omega, hA2, g2⟩, ?_⟩
  clear S2 P2 hA2 g2 r
  rintro n _ w3 x ⟨i, r, rfl, hi, rfl, S3, P3, L3, hA3, g3⟩
  refine ⟨fun hlt => ?_, fun hge => ?_⟩
  · have hlt : i < rows.length := by have := dT hlt; omega
    refine (advance_c q br bu bv A _ rows.length C i w3 S3 hA3 P3 (by show i < rows.length + C; omega) L3).mono ?_
    rintro e w4 ⟨rfl, r', S4, P4, L4, g4⟩
    exact ⟨rfl, _, by omega, i + 1, r', by rw [wr (by omega)]; omega, hlt, rfl, S4, P4, L4, fun b hb => by have := hA3 b hb; have := g4.size; omega, g3.trans g4 fun i hi e => by omega⟩
  have hge := dF hge
  obtain rfl : i = rows.length := by omega
  refine make_zeros elem23 zero3 (by omega) fun w4 r4 g4 l4 => ⟨_, _, _, rfl, fun n x w' => ∃ t : Nat, x = (t : Int) ∧ t ≤ rows.length ∧ n = rows.length - t ∧ Row w' (hs w3) 3 (intsV (mix (fun _ => -1) (List.replicate rows.length 0) t)) ∧ Only (fun b => b = hs w3) w3 w', ⟨_, 0, rfl, Nat.zero_le _, rfl, by rw [mix_zero]; exact r4, g4.only⟩, ?_⟩
  clear r4 g4 l4
  rintro n _ w5 x ⟨t, rfl, ht, rfl, r5, g5⟩
  refine ⟨fun hlt => ?_, fun hge => ?_⟩
  · have hlt : t < rows.length := by have := dT hlt; omega
    refine ⟨_, rfl, ⟨by omega, by omega⟩, Row.thereI r5 (by rw [mix_len]; simpa using hlt), fun w6 e6 => ⟨_, by omega, t + 1, by rw [wr (by omega)]; omega, hlt, rfl, ?_, g5.trans' (only_setAdd e6)⟩⟩
    rw [← mix_set (by simpa using hlt)]
    exact Row.setI r5 (by rw [mix_len]; simpa using hlt) e6
  have hge := dF hge
  obtain rfl : t = rows.length := by omega
  have e2 : mix (fun _ => -1) (List.replicate rows.length 0) rows.length = List.replicate rows.length (-1) := by
    apply List.ext_getElem
    · simp [mix]
    · intro i h1 h2; simp at h2; simp [mix, h2]
  rw [e2] at r5
  have htot0 : ∀ n, tot rows (List.replicate rows.length (-1)) n = 0 := fun n => by
    induction n with
    | zero => rfl
    | succ n ih =>
      rw [tot, ih]
      unfold gm
      rw [List.getElem?_replicate]
      split <;> rfl
  have hq3 : q < hs w3 ∧ br < hs w3 := by
    obtain ⟨_, _, hq, _⟩ := S3.hq
    exact ⟨hq.lt, S3.hr.lt⟩
  have g0 := g3.size
  refine ⟨fun n x y w' => ∃ (j : Nat) (m : List Int), y = (j : Int) ∧ j ≤ C ∧ n = C - j ∧ x = tot rows m rows.length ∧ m.length = rows.length ∧ (∀ i : Nat, i < rows.length → (gm m i = -1 ∧ ∀ j', j' < j → gI r j' ≠ (i : Int)) ∨ ∃ j', j' < j ∧ gI r j' = (i : Int) ∧ gm m i = (j' : Int)) ∧ Row w' (hs w3) 3 (intsV m) ∧ Only (fun b => b = hs w3) w3 w', ⟨_, 0, _, rfl, Nat.zero_le _, rfl, (htot0 _).symm, by simp, fun i hi => .inl ⟨by simp [gm, hi], fun j' hj => by omega⟩, r5, g5⟩, ?_⟩
  clear r5 g5 e2 ht hge
  rintro n _ w6 _ _ ⟨j, m, rfl, hj, rfl, rfl, lm, hm, r6, g6⟩
  have S6 := S3.keep g6 (by omega) (by have := S3.hr.lt; omega) (by have := S3.hu.lt; omega) (by have := S3.hv.lt; omega) fun b hb e => by have := hA3 b hb; omega
  have gw6 : Grow w w6 := g3.trans g6 fun i hi e => by omega
  have hin : ∀ i j : Nat, i < rows.length → j < C → gI r j = (i : Int) → 0 ≤ at2 rows i (j : Int) ∧ at2 rows i (j : Int) ≤ 1099511627776 := fun i j hi hj e => by
    have ht : at2 rows i (j : Int) ≠ Inf := by rw [← hreal i j hi hj]; exact (P3.tight i j (by show j < rows.length + C; omega) e).1
    have := (ok.real i j hi hj).resolve_left (by rw [hreal i j hi hj]; exact ht)
    rw [hreal i j hi hj] at this; exact this
  have hbd := tot_bound (rows := rows) (m := m) (R := rows.length) (fun i hi => by
    rcases hm i hi with h | ⟨j', h1, h2, h3⟩
    · exact .inl h.1
    · rw [h3]; exact .inr (hin i j' hi (by omega) h2)) rows.length (Nat.le_refl _)
  have hlr : r.length = rows.length + C := P3.len.1
  refine ⟨fun hlt => ?_, fun hge => ?_⟩
  · have hlt : j < C := by have := dT hlt; omega
    have hrj := P3.row j (by show j < rows.length + C; omega)
    have hrj : 0 ≤ gI r j ∧ gI r j < ((rows.length + C : Nat) : Int) := hrj
    obtain ⟨i, hri⟩ : ∃ i : Nat, gI r j = (i : Int) := ⟨(gI r j).toNat, by omega⟩
    have cr : w6.cell? ((⟨br, 0, none⟩ : Addr).add ((j : Int).toNat * 1)) = some (.int .i64 (i : Int)) := by rw [← hri]; exact Row.int S6.hr (by show j < r.length; omega)
    refine ⟨_, rfl, _, _, _, by rw [Addr.add_lit]; exact S6.f2, _, rfl, ⟨by omega, by show (j : Int) < ((rows.length + C : Nat) : Int); omega⟩, _, cr, fun h0 => ⟨fun hlt2 => ?_, fun hge2 => ?_⟩, fun h0 => absurd (by omega) (dF h0)⟩
    · have hiR : i < rows.length := by have := dT hlt2; omega
      have hgm : gm m i = -1 := by
        rcases hm i hiR with h | ⟨j', h1, h2, h3⟩
        · exact h.1
        · have := P3.inj j j' (by show j < rows.length + C; omega) (by show j' < rows.length + C; omega) (by show gI r j = gI r j'; omega)
          omega
      refine ⟨_, rfl, ⟨by omega, by omega⟩, Row.thereI r6 (by omega), fun w7 e7 => ?_⟩
      have r7 := Row.setI r6 (by omega) e7
      have g7 := g6.trans' (only_setAdd e7)
      have gw7 : Grow w w7 := g3.trans g7 fun i hi e => by omega
      obtain ⟨a, oi, ci, ha, hc, hn⟩ := (h.grow gw7).get hiR
      have hlC : rows[i].length = C := hrow _ (List.getElem_mem hiR)
      obtain ⟨a', ha', hc'⟩ := hn.get (j := j) (by omega)
      rw [← at2_get hiR (by omega)] at hc'
      have hb := hin i j hiR hlt hri
      have hts := tot_set (rows := rows) (m := m) (i := i) (x := (j : Int)) (by omega) hgm (by omega) rows.length
      rw [if_pos hiR] at hts
      refine ⟨a, ha, ⟨by omega, by omega⟩, _, _, _, hc, a', ha', ⟨by omega, by omega⟩, _, hc', _, ?_, j + 1, m.set i (j : Int), by rw [wr (by omega)]; omega, hlt, rfl, by rw [wr (by omega), hts], by simpa using lm, fun k hk => ?_, r7, g7⟩
      · omega
      · rw [gm_set (by omega)]
        by_cases e : k = i
        · subst e; rw [if_pos rfl]; exact .inr ⟨j, by omega, hri, rfl⟩
        · rw [if_neg e]
          rcases hm k hk with h | ⟨j', h1, h2, h3⟩
          · refine .inl ⟨h.1, fun j' hj' => ?_⟩
            by_cases e2 : j' = j
            · subst e2; omega
            · exact h.2 j' (by omega)
          · exact .inr ⟨j', by omega, h2, h3⟩
    · have hge2 := dF hge2
      refine ⟨_, ?_, j + 1, m, by rw [wr (by omega)]; omega, hlt, rfl, rfl, lm, fun k hk => ?_, r6, g6⟩
      · omega
      · rcases hm k hk with h | ⟨j', h1, h2, h3⟩
        · refine .inl ⟨h.1, fun j' hj' => ?_⟩
          by_cases e2 : j' = j
          · subst e2; omega
          · exact h.2 j' (by omega)
        · exact .inr ⟨j', by omega, h2, h3⟩
  · have hge := dF hge
    obtain rfl : j = C := by omega
    have hReads : Reads { sq0 rows j with rowOf := r, rowD := D, colD := V } rows.length j m := ⟨lm, fun i hi => ?_⟩
    · exact ⟨hs w3, m, rfl, r6, g3.size, ⟨P3.best L3 hreal hReads, P3.total (P3.best L3 hreal hReads).valid hreal hReads⟩, gw6⟩
    obtain ⟨j', h1, h2⟩ := P3.all i (by show i < rows.length + j; omega)
    refine ⟨j', h1, h2, ?_⟩
    have h2 : gI r j' = (i : Int) := h2
    rcases hm i hi with h | ⟨j2, k1, k2, k3⟩
    · rw [if_neg (fun hh => h.2 j' hh h2)]; exact h.1
    · have := P3.inj j' j2 h1 (by show j2 < rows.length + j; omega) (by show gI r j' = gI r j2; omega)
      subst this
      rw [if_pos k1]; exact k3

theorem first_le {rows : List (List Int)} (h : errOf rows = 0) : first rows ≤ 64 := by
  cases rows with
  | nil => simp [first]
  | cons r rows => exact (err0 h).2.1 r (by simp)
theorem Solve_c (o : Option Addr) (c : Nat) (rows : List (List Int)) (w : World) {A0 : Nat → Prop} (h : Mat w A0 o rows) :
    Calls Tryd.prog 21 #[.slice o rows.length c] w fun e w' => Grow w w' ∧ ((errOf rows ≠ 0 ∧ e = .returned (.tuple #[.slice none 0 0, .int .i64 0, .int .i64 (errOf rows)])) ∨
      (errOf rows = 0 ∧ ∃ b m, e = .returned (.tuple #[.slice (some ⟨b, 0, none⟩) rows.length rows.length, .int .i64 (tot rows m rows.length), .int .i64 0]) ∧ Row w' b 3 (intsV m) ∧ hs w ≤ b ∧ Best rows (first rows) m ∧ Opt rows (first rows) (big rows m))) := by
  refine nf21 o rows.length c w _ ((check_c o c rows w h).mono ?_)
  rintro _ _ ⟨rfl, rfl⟩
  refine ⟨_, _, rfl, fun he => ⟨Only.refl _ _, .inl ⟨nT he, rfl⟩⟩, fun he => ?_⟩
  have he := nF he
  rw [if_pos he]
  obtain ⟨h1, h2, h3⟩ := err0 he
  refine (solve_c o c rows (first rows) w h (fun r hr => (h3 r hr).1) (fun r hr => (h3 r hr).2) h1 (first_le he)).mono ?_
  rintro _ w1 ⟨b, m, rfl, r1, hb, hbest, g1⟩
  exact ⟨_, _, _, _, rfl, g1, .inr ⟨he, b, m, rfl, r1, hb, hbest⟩⟩

end Go.Proofs.YtneklhmkiememaaDoor
