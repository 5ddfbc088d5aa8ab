/- Contract: Certify. -/
import Derived.Test.YtcaokpglbolkcaaZd
namespace Go.Proofs.Ytcaokpglbolkcaa
open Go Go.Nf

/-- no matching is better -/
def TopM (rows : List (List Int)) (m : List Int) : Prop := ∀ m', Valid rows (first rows) m' → cnt m' rows.length ≤ cnt m rows.length ∧ (cnt m' rows.length = cnt m rows.length → tot rows m rows.length ≤ tot rows m' rows.length)
theorem best_top {rows : List (List Int)} {m : List Int} (h : Best rows (first rows) m) : TopM rows m := fun m' hv => ⟨h.most m' hv, h.least m' hv⟩
theorem TopM.same {rows : List (List Int)} {m m' : List Int} (h : TopM rows m) (hv : Valid rows (first rows) m) (hv' : Valid rows (first rows) m') : TopM rows m' ↔ cnt m' rows.length = cnt m rows.length ∧ tot rows m' rows.length = tot rows m rows.length := by
  constructor
  · intro h'
    have a := h m' hv'
    have b := h' m hv
    have e : cnt m' rows.length = cnt m rows.length := by omega
    have := a.2 e
    have := b.2 e.symm
    exact ⟨e, by omega⟩
  · rintro ⟨e1, e2⟩ m'' hv''
    rw [e1, e2]
    exact h m'' hv''
/-- a result of three slices is stored in its block and read again -/
theorem answer {w : World} {b : Nat} {T : TypeId} {l : List Value} (h : Row w b T l) (hl : l.length = 3) (o1 o2 o3 : Option Addr) (n1 c1 n2 c2 n3 c3 : Nat) (x : Int) {R : Ending → World → Prop}
    (hR : ∀ w', w' = setCells w ⟨b, 0, none⟩ [.slice o1 n1 c1, .slice o2 n2 c2, .slice o3 n3 c3] 0 → R (.returned (.tuple #[certV o1 n1 c1 o2 n2 c2 o3 n3 c3, .int .i64 x])) w') :
    There w ⟨b, 0, none⟩ 3 ∧ ∀ w9 : World, w9 = setCells w ⟨b, 0, none⟩ [.slice o1 n1 c1, .slice o2 n2 c2, .slice o3 n3 c3] 0 →
      ∃ oa : Option Addr, ∃ na ca : Nat, w9.cell? ⟨b, 0, none⟩ = some (.slice oa na ca) ∧ ∃ ob : Option Addr, ∃ nb cb : Nat, w9.cell? ⟨b, 1, none⟩ = some (.slice ob nb cb) ∧ ∃ oc : Option Addr, ∃ nc cc : Nat, w9.cell? ⟨b, 2, none⟩ = some (.slice oc nc cc) ∧
        R (.returned (.tuple #[.agg #[.slice oa na ca, .slice ob nb cb, .slice oc nc cc], .int .i64 x])) w9 := by
  refine ⟨h.there (by omega), fun w9 e9 => ?_⟩
  have r9 := h.set e9
  have key : setFrom l 0 [Value.slice o1 n1 c1, .slice o2 n2 c2, .slice o3 n3 c3] = [.slice o1 n1 c1, .slice o2 n2 c2, .slice o3 n3 c3] := by
    match l, hl with
    | [_, _, _], _ => rfl
  rw [key] at r9
  exact ⟨_, _, _, r9.cell rfl, _, _, _, r9.cell rfl, _, _, _, r9.cell rfl, hR w9 e9⟩
def CertPost (w : World) (rows : List (List Int)) (m : List Int) (e : Ending) (w' : World) : Prop :=
  ((costE rows m ≠ 0 ∧ e = .returned (.tuple #[certV none 0 0 none 0 0 none 0 0, .int .i64 (costE rows m)])) ∨
   (costE rows m = 0 ∧ ¬ TopM rows m ∧ e = .returned (.tuple #[certV none 0 0 none 0 0 none 0 0, .int .i64 14])) ∨
   (costE rows m = 0 ∧ TopM rows m ∧ ∃ oU oV oH cU cV cH U V H, e = .returned (.tuple #[certV oU U.length cU oV V.length cV oH H.length cH, .int .i64 0]) ∧ Nums w' (fun _ => True) oU U ∧ Nums w' (fun _ => True) oV V ∧ Nums w' (fun _ => True) oH H ∧
     U.length = rows.length ∧ V.length = first rows ∧ H.length ≤ rows.length ∧ certP rows (first rows) m U V H)) ∧ Grow w w'
set_option maxHeartbeats 1000000 in
theorem Certify_c (o o' : Option Addr) (c c' : Nat) (rows : List (List Int)) (m : List Int) (w : World) {A A' : Nat → Prop} (h : Mat w A o rows) (h' : Nums w A' o' m) :
    Calls Try.prog 15 #[.slice o rows.length c, .slice o' m.length c'] w (CertPost w rows m) := by
  refine nf15 o rows.length c o' m.length c' w _ fun w1 e1 => ?_
  have r1 := Row.new e1
  have g1 : Grow w w1 := only_alloc e1
  refine (Cost_c o o' c c' rows m w1 (h.grow g1) (h'.grow g1)).mono ?_
  rintro _ w4 ⟨rfl, g4⟩
  have G4 := g1.trans' g4
  have r4 := r1.grow g4
  have fin : ∀ {w5 w6 : World} {l : List Value}, Grow w w5 → w6 = setCells w5 ⟨hs w, 0, none⟩ l 0 → Grow w w6 := fun G e => G.trans (only_set e) fun b hb e => by omega
  refine ⟨_, _, _, rfl, fun hne => answer (R := CertPost w rows m) r4 rfl none none none 0 0 0 0 0 0 (costE rows m) fun w9 e9 => ⟨.inl ⟨nT hne, rfl⟩, fin G4 e9⟩, fun hz => ?_⟩
  have hz := nF hz
  obtain ⟨he, hv⟩ := valid_of hz
  have hml := hv.len
  have hcs := err_costs he
  refine (Solve_c o c rows w4 (h.grow G4)).mono ?_
  rintro _ w22 ⟨g22, ⟨k, -⟩ | ⟨-, b, m0, rfl, rm, hb, hbest, hopt⟩⟩
  · exact absurd he k
  have G22 := G4.trans' g22
  have r22 := r4.grow g22
  have hl0 := hbest.valid.len
  obtain ⟨z1, z2, z3⟩ := hbest.valid.costs he
  obtain ⟨y1, y2, y3⟩ := hv.costs he
  refine ⟨_, _, _, _, _, rfl, fun hne => absurd rfl (nT hne), fun _ => ?_⟩
  have n0 : Nums w22 (fun _ => True) (some ⟨b, 0, none⟩) m0 := rm.nums trivial
  have cc := Cost_c o (some ⟨b, 0, none⟩) c rows.length rows m0 w22 (h.grow G22) n0
  rw [hl0] at cc
  refine cc.mono ?_
  rintro _ w42 ⟨rfl, g42⟩
  have G42 := G22.trans' g42
  have r42 := r22.grow g42
  have same := (best_top hbest).same hbest.valid hv
  refine ⟨_, _, _, rfl, fun hne => absurd z1 (nT hne), fun _ => ⟨fun hn => answer (R := CertPost w rows m) r42 rfl none none none 0 0 0 0 0 0 14 fun w60 e60 => ⟨.inr (.inl ⟨hz, fun k => ?_, rfl⟩), fin G42 e60⟩, fun hn => ⟨fun hc => answer (R := CertPost w rows m) r42 rfl none none none 0 0 0 0 0 0 14 fun w60 e60 => ⟨.inr (.inl ⟨hz, fun k => ?_, rfl⟩), fin G42 e60⟩, fun hc => ?_⟩⟩⟩
  · have := (same.1 k).1
    exact nT hn (by rw [y2, z2]; exact this)
  · have := (same.1 k).2
    exact nT hc (by rw [y3]; exact this)
  have hn := nF hn
  have hc := nF hc
  have q1 : cnt m rows.length = cnt m0 rows.length := by rw [← y2, ← z2]; exact hn
  have q2 : tot rows m rows.length = tot rows m0 rows.length := by rw [← y3]; exact hc
  have hM : TopM rows m := same.2 ⟨q1, q2⟩
  have hop : Opt rows (first rows) (big rows m) := by
    have : big rows m = big rows m0 := by unfold big; rw [q1, q2]
    rw [this]; exact hopt
  obtain ⟨us, vs, d⟩ := dearest (hop.dual hv hcs)
  refine (prices_c o o' c c' rows m he hv d w42 (h.grow G42) (h'.grow G42)).mono ?_
  rintro _ w86 ⟨bu, bv, U, V, rfl, rU, rV, hit, hf, zu, zv, g86⟩
  have G86 := G42.trans' g86
  have r86 := r42.grow g86
  refine ⟨_, _, _, _, _, _, _, rfl, fun _ => ?_, fun k => by cases k⟩
  refine (hallRows_c o o' c c' rows m he hv w86 (h.grow G86) (h'.grow G86)).mono ?_
  rintro _ w96 ⟨B, oH, cH, rfl, hO, hB, g96⟩
  have G96 := G86.trans' g96
  have r96 := r86.grow g96
  have lt1 := r1.lt
  refine ⟨_, _, _, rfl, answer (R := CertPost w rows m) r96 rfl (some ⟨bu, 0, none⟩) (some ⟨bv, 0, none⟩) oH rows.length rows.length (first rows) (first rows) (rowsUp B rows.length).length cH 0 fun w100 e100 => ⟨.inr (.inr ⟨hz, hM, ?_⟩), fin G96 e100⟩⟩
  have os := only_set e100
  have k42 := g42.size
  have k22 := g22.size
  have k4 := g4.size
  have hne : hs w < hs w42 := by omega
  have k86 := g86.size
  refine ⟨_, _, oH, _, _, cH, U, V, rowsUp B rows.length, by rw [hit.lenU, hit.lenV], ?_, ?_, ?_, hit.lenU, hit.lenV, by rw [rowsUp_len]; exact cntN_le _ _, cert_of hit d.dual hv hcs hf hB⟩
  · exact ((rU.grow g96).nums (A := fun b => b ≠ hs w) (by omega)).keep os (fun b hb e => hb e) |>.mono fun _ _ => trivial
  · exact ((rV.grow g96).nums (A := fun b => b ≠ hs w) (by omega)).keep os (fun b hb e => hb e) |>.mono fun _ _ => trivial
  · exact (hO.nums.keep os (fun b hb e => by omega)).mono fun _ _ => trivial
end Go.Proofs.Ytcaokpglbolkcaa
