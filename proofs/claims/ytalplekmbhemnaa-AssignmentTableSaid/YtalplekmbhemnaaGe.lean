/- The square problem in memory, and the contract of 'tight'. -/
import Derived.Test.YtalplekmbhemnaaGd
import Derived.Test.YtalplekmbhemnaaNfZ
namespace Go.Proofs.Ytalplekmbhemnaa
open Go Go.Nf

structure Sq where
  size : Nat
  cost : List (List Int)
  rowOf : List Int
  rowD : List Int
  colD : List Int
def Sq.c (Q : Sq) (i j : Nat) : Int := (((Q.cost[i]?).getD [])[j]?).getD 0
def Sq.u (Q : Sq) (i : Nat) : Int := (Q.rowD[i]?).getD 0
def Sq.v (Q : Sq) (j : Nat) : Int := (Q.colD[j]?).getD 0
def Sq.r (Q : Sq) (j : Nat) : Int := (Q.rowOf[j]?).getD 0
structure SqAt (w : World) (q br bu bv : Nat) (A : Nat → Prop) (Q : Sq) : Prop where
  hq : ∃ oc cc, Row w q 59 [.slice oc Q.size cc, .int .i64 (Q.size : Int), .slice (some ⟨br, 0, none⟩) Q.size Q.size, .slice (some ⟨bu, 0, none⟩) Q.size Q.size, .slice (some ⟨bv, 0, none⟩) Q.size Q.size] ∧ Mat w A oc Q.cost
  hr : Row w br 3 (intsV Q.rowOf)
  hu : Row w bu 2 (intsV Q.rowD)
  hv : Row w bv 2 (intsV Q.colD)
  ne : q ≠ br ∧ q ≠ bu ∧ q ≠ bv ∧ br ≠ bu ∧ br ≠ bv ∧ bu ≠ bv
  hA : ¬ A q ∧ ¬ A br ∧ ¬ A bu ∧ ¬ A bv
  len : Q.cost.length = Q.size ∧ (∀ r ∈ Q.cost, r.length = Q.size) ∧ Q.rowOf.length = Q.size ∧ Q.rowD.length = Q.size ∧ Q.colD.length = Q.size
  small : Q.size ≤ 128
theorem SqAt.keep {w w' : World} {q br bu bv : Nat} {A S : Nat → Prop} {Q : Sq} (h : SqAt w q br bu bv A Q) (g : Only S w w') (h1 : ¬ S q) (h2 : ¬ S br) (h3 : ¬ S bu) (h4 : ¬ S bv) (h5 : ∀ b, A b → ¬ S b) : SqAt w' q br bu bv A Q := by
  obtain ⟨oc, cc, k1, k2⟩ := h.hq
  exact ⟨⟨oc, cc, k1.keep g h1, k2.keep g h5⟩, h.hr.keep g h2, h.hu.keep g h3, h.hv.keep g h4, h.ne, h.hA, h.len, h.small⟩
theorem SqAt.grow {w w' : World} {q br bu bv : Nat} {A : Nat → Prop} {Q : Sq} (h : SqAt w q br bu bv A Q) (g : Grow w w') : SqAt w' q br bu bv A Q :=
  h.keep g (fun h => h) (fun h => h) (fun h => h) (fun h => h) fun _ _ h => h
theorem intsV_get {xs : List Int} {j : Nat} (h : j < xs.length) : (intsV xs)[(j : Int).toNat * 1]? = some (.int .i64 xs[j]) := by rw [toNat_cast, Nat.mul_one]; simp [intsV, h]
def Sq.tight (Q : Sq) (i j : Nat) : Bool := !decide (Q.c i j = 4611686018427387904) && decide (Q.c i j = IntKind.wrap .i64 (Q.u i + Q.v j))

theorem tight_c (q br bu bv : Nat) (A : Nat → Prop) (Q : Sq) (i j : Nat) (w : World) (h : SqAt w q br bu bv A Q) (hi : i < Q.size) (hj : j < Q.size) :
    Calls Try.prog 27 #[.pointer (some ⟨q, 0, none⟩), .int .i64 (i : Int), .int .i64 (j : Int)] w fun e w' => e = .returned (.bool (Q.tight i j)) ∧ Grow w w' := by
  refine nf27 q i j w _ fun w1 e1 => ?_
  have g1 : Grow w w1 := only_drew e1
  have h := h.grow g1
  obtain ⟨oc, cc, hq, hm⟩ := h.hq
  obtain ⟨l1, l2, l3, l4, l5⟩ := h.len
  have hic : i < Q.cost.length := by omega
  obtain ⟨a, oi, ci, ha, hc, hn⟩ := hm.get hic
  have hrl : Q.cost[i].length = Q.size := l2 _ (List.getElem_mem hic)
  have hjc : j < Q.cost[i].length := by omega
  obtain ⟨a', ha', hc'⟩ := hn.get hjc
  have ec : Q.c i j = Q.cost[i][j] := by unfold Sq.c; rw [List.getElem?_eq_getElem hic]; simp [hjc]
  have eu : Q.u i = Q.rowD[i]'(by omega) := by unfold Sq.u; rw [List.getElem?_eq_getElem (by omega)]; rfl
  have ev : Q.v j = Q.colD[j]'(by omega) := by unfold Sq.v; rw [List.getElem?_eq_getElem (by omega)]; rfl
  rw [← ec] at hc'
  have cu := h.hu.cellAdd (intsV_get (xs := Q.rowD) (j := i) (by omega))
  have cv := h.hv.cellAdd (intsV_get (xs := Q.colD) (j := j) (by omega))
  rw [← eu] at cu
  rw [← ev] at cv
  refine ⟨_, _, _, hq.cell rfl, a, ha, ⟨by omega, by omega⟩, _, _, _, hc, a', ha', ⟨by omega, by omega⟩, _, hc', fun hfin => ⟨_, _, _, hq.cell rfl, a, ha, ⟨by omega, by omega⟩, _, _, _, hc, a', ha', ⟨by omega, by omega⟩, _, hc', _, _, _, hq.cell rfl, _, rfl, ⟨by omega, by omega⟩, _, cu, _, _, _, hq.cell rfl, _, rfl, ⟨by omega, by omega⟩, _, cv, fun ht => ⟨ret_bool ?_, g1⟩, fun ht => ⟨ret_bool ?_, g1⟩⟩, fun hinf => ⟨ret_bool ?_, g1⟩⟩
  · unfold Sq.tight; rw [hfin, ht]; rfl
  · unfold Sq.tight; rw [hfin, ht]; rfl
  · unfold Sq.tight; rw [hinf]; rfl
end Go.Proofs.Ytalplekmbhemnaa
