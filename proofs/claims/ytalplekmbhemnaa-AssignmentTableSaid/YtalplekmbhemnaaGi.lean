/- Contract: shift moves the rows along a chain of columns. -/
import Derived.Test.YtalplekmbhemnaaGh
namespace Go.Proofs.Ytalplekmbhemnaa
open Go Go.Nf

def shiftF : List Int → Int → List Nat → List Int
  | R, _, [] => R
  | R, row, c :: cs => shiftF (R.set c row) ((R[c]?).getD 0) cs
def Chain (t : List Int) : Int → List Nat → Prop
  | c, [] => c < 0
  | c, k :: ks => c = (k : Int) ∧ k < t.length ∧ Chain t ((t[k]?).getD 0) ks
theorem SqAt.setR {w w' : World} {q br bu bv : Nat} {A : Nat → Prop} {Q : Sq} {j : Nat} {x : Int} (h : SqAt w q br bu bv A Q) (hj : j < Q.size) (e : w' = setCells w ((⟨br, 0, none⟩ : Addr).add ((j : Int).toNat * 1)) [.int .i64 x] 0) :
    SqAt w' q br bu bv A { Q with rowOf := Q.rowOf.set j x } := by
  have g := only_setAdd e
  obtain ⟨oc, cc, k1, k2⟩ := h.hq
  obtain ⟨n1, n2, n3, n4, n5, n6⟩ := h.ne
  obtain ⟨a1, a2, a3, a4⟩ := h.hA
  obtain ⟨l1, l2, l3, l4, l5⟩ := h.len
  have hr := h.hr.setAdd e
  rw [intsV_set _ _ _ (by omega)] at hr
  exact ⟨⟨oc, cc, k1.keep g n1, k2.keep g fun b hb hbe => a2 (hbe ▸ hb)⟩, hr, h.hu.keep g (fun hh => n4 hh.symm), h.hv.keep g (fun hh => n5 hh.symm), h.ne, h.hA, ⟨l1, l2, by simpa using l3, l4, l5⟩, h.small⟩

theorem shift_c (q br bu bv : Nat) (A A' : Nat → Prop) (Q : Sq) (row column : Int) (o : Option Addr) (c : Nat) (toward : List Int) (cs : List Nat) (w : World) (h : SqAt w q br bu bv A Q) (ht : Nums w A' o toward) (hA' : ¬ A' br) (hlen : toward.length = Q.size) (hch : Chain toward column cs) :
    Calls Try.prog 28 #[.pointer (some ⟨q, 0, none⟩), .int .i64 row, .int .i64 column, .slice o toward.length c] w fun e w' =>
      e = .returned (.tuple #[]) ∧ SqAt w' q br bu bv A { Q with rowOf := shiftF Q.rowOf row cs } ∧ Only (fun b => b = br) w w' := by
  refine nf28 q row column o toward.length c w _ ⟨fun k x y w' => ∃ ks R, Chain toward y ks ∧ k = ks.length ∧ SqAt w' q br bu bv A { Q with rowOf := R } ∧ shiftF R x ks = shiftF Q.rowOf row cs ∧ Only (fun b => b = br) w w', ⟨_, cs, Q.rowOf, hch, rfl, h, rfl, Only.refl _ _⟩, ?_⟩
  rintro k _ w1 x y ⟨ks, R, hc, rfl, h1, hI, g⟩
  refine ⟨fun hge w2 e2 => ?_, fun hlt => ?_⟩
  · have hge := dT hge
    cases ks with
    | nil => simp only [Chain] at hc; omega
    | cons k ks =>
      obtain ⟨rfl, hk, hc⟩ := hc
      have g2 : Only (fun b => b = br) w w2 := g.trans' (only_drew e2)
      have h2 := h1.grow (only_drew e2)
      obtain ⟨oc, cc, hq, hm⟩ := h2.hq
      obtain ⟨l1, l2, l3, l4, l5⟩ := h2.len
      simp only at l3 hq
      have cr := h2.hr.cellAdd (intsV_get (xs := R) (j := k) (by omega))
      refine ⟨_, _, _, hq.cell rfl, _, _, _, hq.cell rfl, _, rfl, ⟨by omega, by omega⟩, _, cr, _, rfl, ⟨by omega, by omega⟩, h2.hr.thereAdd (by rw [intsV_len, toNat_cast]; simp only; omega), fun w3 e3 => ?_⟩
      have h3 := h2.setR (j := k) (x := x) (by simp only; omega) e3
      have g3 := g2.trans' (only_setAdd e3)
      obtain ⟨a, ha, hct⟩ := (ht.keep g3 fun b hb hbe => hA' (hbe ▸ hb)).get hk
      refine ⟨a, ha, ⟨by omega, by omega⟩, _, hct, _, by simp, ks, R.set k x, ?_, rfl, h3, ?_, g3⟩
      · rw [List.getElem?_eq_getElem hk] at hc; exact hc
      · rw [← hI]; simp only [shiftF]
        rw [List.getElem?_eq_getElem (show k < R.length by omega)]; rfl
  · have hlt := dF hlt
    cases ks with
    | nil => simp only [shiftF] at hI; subst hI; exact ⟨rfl, h1, g⟩
    | cons k ks => obtain ⟨rfl, -, -⟩ := hc; omega
end Go.Proofs.Ytalplekmbhemnaa
