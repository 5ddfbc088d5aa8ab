/- The graph of a protocol; Check. -/
import Derived.Test.YtbaacpfjecbbgaaHh
namespace Go.Proofs.Ytbaacpfjecbbgaa
open Go Go.Nf

def nxP (qs : List Qst) (q : Nat) : List Nat := match qs[q]? with
  | some s => (s.ans.filter fun a => decide (0 ≤ a.next)).map fun a => a.next.toNat
  | none => []
theorem mem_nxP {qs : List Qst} {q y : Nat} : y ∈ nxP qs q ↔ Sx qs q y := by
  unfold nxP Sx
  rw [toNat_cast]
  cases h : qs[q]? with
  | none => simp
  | some s =>
    simp only [List.mem_map, List.mem_filter, decide_eq_true_eq]
    constructor
    · rintro ⟨a, ⟨ha, h0⟩, rfl⟩
      exact ⟨by omega, by omega, s, rfl, a, ha, by omega⟩
    · rintro ⟨-, -, s', hs, a, ha, e⟩
      cases hs
      exact ⟨a, ⟨ha, by omega⟩, by omega⟩
theorem mem_nxR {qs : List Qst} {rows : List (List Int)} (h : IsRows qs rows) {q y : Nat} : y ∈ nxR rows q ↔ Sx qs q y := by
  unfold nxR
  cases hr : rows[q]? with
  | none =>
    have hl : qs.length ≤ q := by
      rw [List.getElem?_eq_none_iff] at hr
      have := h.len; omega
    simp only [Option.getD_none, List.map_nil, List.not_mem_nil, false_iff]
    exact Sx_out (.inr (by omega)) _
  | some r =>
    have := (h.mem q r hr).2
    simp only [Option.getD_some, List.mem_map]
    constructor
    · rintro ⟨x, hx, rfl⟩
      have hx' := (this x).1 hx
      rw [show ((x.toNat : Nat) : Int) = x from Int.toNat_of_nonneg hx'.1]
      exact hx'
    · exact fun hy => ⟨_, (this _).2 hy, Int.toNat_natCast _⟩
theorem same_nx {qs : List Qst} {rows : List (List Int)} (h : IsRows qs rows) : ∀ q x, x ∈ nxR rows q ↔ x ∈ nxP qs q := fun q x => by rw [mem_nxR h, mem_nxP]
theorem rch_same {nx nx' : Nat → List Nat} (h : ∀ q x, x ∈ nx q ↔ x ∈ nx' q) (x y : Nat) : Rch nx x y ↔ Rch nx' x y := ⟨Rch.mono fun q x => (h q x).1, Rch.mono fun q x => (h q x).2⟩
theorem cyc_same {nx nx' : Nat → List Nat} (h : ∀ q x, x ∈ nx q ↔ x ∈ nx' q) (q : Nat) : Cyc nx q ↔ Cyc nx' q :=
  ⟨fun ⟨x, h1, h2⟩ => ⟨x, (h q x).1 h1, (rch_same h _ _).1 h2⟩, fun ⟨x, h1, h2⟩ => ⟨x, (h q x).2 h1, (rch_same h _ _).2 h2⟩⟩
theorem ok_rows {qs : List Qst} {rows : List (List Int)} (h : IsRows qs rows) (hi : Inside qs) : OkRows rows := fun i r hr => by
  obtain ⟨h1, h2⟩ := h.mem i r hr
  refine ⟨h1, fun y hy => ?_⟩
  have := (h2 y).1 hy
  rw [h.len]
  exact ⟨this.1, hi _ _ this⟩
structure Valid (p : Prot) : Prop where
  pos : 1 ≤ p.qs.length
  top : p.qs.length ≤ 64
  ans : ∀ s, s ∈ p.qs → s.ans.length ≤ 20
  inside : Inside p.qs
theorem valid_of {p : Prot} (h : validB p = true) : Valid p := by
  unfold validB at h
  simp only [Bool.and_eq_true, decide_eq_true_eq] at h
  obtain ⟨⟨⟨⟨⟨h1, -⟩, -⟩, -⟩, h2⟩, h3⟩ := h
  have hq : ∀ s, s ∈ p.qs → qstB p.qs.length s = true := fun s hs => List.all_eq_true.1 h1 s hs
  refine ⟨h2, h3, fun s hs => ?_, fun q y hy => ?_⟩
  · have := hq s hs
    unfold qstB at this
    simp only [Bool.and_eq_true, decide_eq_true_eq] at this
    omega
  · obtain ⟨h0, -, s, hs, a, ha, rfl⟩ := hy
    have := hq s (List.mem_of_getElem? hs)
    unfold qstB at this
    simp only [Bool.and_eq_true] at this
    have := List.all_eq_true.1 this.2 a ha
    unfold ansB at this
    rw [if_neg (by omega)] at this
    simp only [Bool.and_eq_true, decide_eq_true_eq] at this
    omega
theorem isValid_c (o : Option Addr) (c : Nat) (p : Prot) (hf : p.qs.length ≤ 9223372036854775807) (w : World) {A : Nat → Prop} (h : Qs w A o p.qs) :
    Calls Try.prog 93 #[.agg #[.string p.name, .int .i64 p.version, .slice o p.qs.length c]] w fun e w' => e = .returned (.bool (validB p)) ∧ Grow w w' := by
  refine nf93 p.name p.version o p.qs.length c w _ fun w1 e1 => ?_
  have r := Row.new e1
  have g : Grow w w1 := only_alloc e1
  refine ⟨_, r.cell rfl, _, r.cell rfl, _, _, _, r.cell rfl, (validate_c o c p hf w1 (h.grow g)).mono ?_⟩
  rintro _ w2 ⟨⟨x, rfl⟩, g2⟩
  refine ⟨_, _, rfl, fun hb => ⟨ret_bool ?_, g.trans' g2⟩, fun hb => ⟨ret_bool ?_, g.trans' g2⟩⟩
  · have := dT hb
    cases hv : validB p
    · rw [hv] at this; cases this
    · rfl
  · have := dF hb
    cases hv : validB p
    · rfl
    · rw [hv] at this; exact absurd rfl this
/-- what Check and the reference's Ends tell -/
def Ending' (p : Prot) (x e : Int) : Prop :=
  (validB p = false ∧ x = 0 ∧ e = 1) ∨
  (validB p = true ∧ ∃ i : Nat, i < p.qs.length ∧ x = i ∧ Cyc (nxP p.qs) i ∧ (∀ j, j < i → ¬ Cyc (nxP p.qs) j) ∧ e = 12) ∨
  (validB p = true ∧ (∀ j, j < p.qs.length → ¬ Cyc (nxP p.qs) j) ∧ ∃ i : Nat, i < p.qs.length ∧ x = i ∧ ¬ Rch (nxP p.qs) 0 i ∧ (∀ j, j < i → Rch (nxP p.qs) 0 j) ∧ e = 4) ∨
  (validB p = true ∧ (∀ j, j < p.qs.length → ¬ Cyc (nxP p.qs) j) ∧ (∀ j, j < p.qs.length → Rch (nxP p.qs) 0 j) ∧ x = -1 ∧ e = 0)
theorem ending_one {p : Prot} {x e x' e' : Int} (h : Ending' p x e) (h' : Ending' p x' e') : x = x' ∧ e = e' := by
  have least : ∀ (P : Nat → Prop) (i i' : Nat), P i → (∀ j, j < i → ¬ P j) → P i' → (∀ j, j < i' → ¬ P j) → i = i' := fun P i i' h1 h2 h3 h4 => by
    rcases Nat.lt_trichotomy i i' with h | h | h
    · exact absurd h1 (h4 _ h)
    · exact h
    · exact absurd h3 (h2 _ h)
  rcases h with ⟨hv, rfl, rfl⟩ | ⟨hv, i, hi, rfl, hc, hl, rfl⟩ | ⟨hv, hn, i, hi, rfl, hc, hl, rfl⟩ | ⟨hv, hn, hr, rfl, rfl⟩ <;>
  rcases h' with ⟨hv', rfl, rfl⟩ | ⟨hv', i', hi', rfl, hc', hl', rfl⟩ | ⟨hv', hn', i', hi', rfl, hc', hl', rfl⟩ | ⟨hv', hn', hr', rfl, rfl⟩ <;>
  first
    | exact ⟨rfl, rfl⟩
    | (rw [hv] at hv'; exact absurd hv' (by decide))
    | exact ⟨by rw [least (fun j => Cyc (nxP p.qs) j) i i' hc hl hc' hl'], rfl⟩
    | exact ⟨by rw [least (fun j => ¬ Rch (nxP p.qs) 0 j) i i' hc (fun j hj => fun k => k (hl j hj)) hc' (fun j hj => fun k => k (hl' j hj))], rfl⟩
    | exact absurd hc (hn' _ hi)
    | exact absurd hc' (hn _ hi')
    | exact absurd (hr' _ hi) hc
    | exact absurd (hr _ hi') hc'
set_option maxHeartbeats 1000000 in
theorem check_c (o : Option Addr) (c : Nat) (p : Prot) (hf : p.qs.length ≤ 9223372036854775807) (w : World) {A : Nat → Prop} (h : Qs w A o p.qs) :
    Calls Try.prog 56 #[.agg #[.string p.name, .int .i64 p.version, .slice o p.qs.length c]] w fun e w' => ∃ x y, e = .returned (.tuple #[.int .i64 x, .int .i64 y]) ∧ Ending' p x y ∧ Grow w w' := by
  refine nf56 p.name p.version o p.qs.length c w _ fun w1 e1 => ?_
  have r := Row.new e1
  have g : Grow w w1 := only_alloc e1
  refine ⟨_, r.cell rfl, _, r.cell rfl, _, _, _, r.cell rfl, (isValid_c o c p hf w1 (h.grow g)).mono ?_⟩
  rintro _ w2 ⟨rfl, g2⟩
  refine ⟨_, rfl, fun hv => ?_, fun hv => ⟨_, _, rfl, .inl ⟨hv, rfl, rfl⟩, g.trans' g2⟩⟩
  have V := valid_of hv
  have htop := V.top
  have hpos := V.pos
  have r2 := r.grow g2
  refine ⟨_, r2.cell rfl, _, r2.cell rfl, _, _, _, r2.cell rfl, (followers_c o c p (by omega) V.ans w2 ((h.grow g).grow g2)).mono ?_⟩
  rintro _ w3 ⟨o3, c3, rows, rfl, hR, hM, g3⟩
  have G3 := (g.trans' g2).trans' g3
  have hlen := hR.len
  have hok := ok_rows hR V.inside
  refine ⟨_, _, _, rfl, fun k x w' => ∃ j : Nat, x = (j : Int) ∧ j ≤ p.qs.length ∧ k = p.qs.length - j ∧ (∀ i, i < j → ¬ Cyc (nxP p.qs) i) ∧ Grow w3 w', ⟨_, 0, rfl, Nat.zero_le _, rfl, fun i hi => by omega, Only.refl _ _⟩, ?_⟩
  rintro k _ w4 x ⟨j, rfl, hj, rfl, hI, g4⟩
  refine ⟨fun hlt => ?_, fun hge w5 e5 => ?_⟩
  · have hlt : j < p.qs.length := by have := dT hlt; omega
    have hcyc := cyclic_c o3 c3 rows j (by omega) hok (by omega) w4 (hM.grow g4)
    rw [hlen] at hcyc
    refine hcyc.mono ?_
    rintro _ w5 ⟨b, rfl, hb, g5⟩
    rw [cyc_same (same_nx hR)] at hb
    refine ⟨_, rfl, fun h1 => ⟨_, _, rfl, .inr (.inl ⟨hv, j, hlt, rfl, hb.1 h1, hI, rfl⟩), (G3.trans' g4).trans' g5⟩, fun h1 => ⟨_, by omega, j + 1, by rw [wr (by omega)]; omega, hlt, rfl, fun i hi => ?_, g4.trans' g5⟩⟩
    by_cases e : i = j
    · subst e; intro hc; rw [hb.2 hc] at h1; cases h1
    · exact hI i (by omega)
  · have := dF hge
    obtain rfl : j = p.qs.length := by omega
    have r5 : Row w5 (hs w4) 3 (intsV (castL [0])) := Row.new e5
    have g5 : Grow w4 w5 := only_alloc e5
    have hre := reachable_c o3 (some ⟨hs w4, 0, none⟩) c3 1 rows [0] (by omega) hok (by simp) (fun x hx => by rw [List.mem_singleton] at hx; omega) w5 ((hM.grow g4).grow g5) (r5.nums (A := fun _ => True) trivial)
    rw [hlen] at hre
    refine hre.mono ?_
    rintro _ w6 ⟨d, rfl, r6, hd, hrc, g6⟩
    have hrc' : ∀ q, gB d q = true ↔ Rch (nxP p.qs) 0 q := fun q => by
      rw [hrc]
      constructor
      · rintro ⟨f, hf, hr⟩
        rw [List.mem_singleton] at hf
        subst hf
        exact (rch_same (same_nx hR) _ _).1 hr
      · exact fun hr => ⟨0, by simp, (rch_same (same_nx hR) _ _).2 hr⟩
    have G6 := ((G3.trans' g4).trans' g5).trans' g6
    refine ⟨_, _, _, rfl, fun k x w' => ∃ j : Nat, x = (j : Int) ∧ j ≤ p.qs.length ∧ k = p.qs.length - j ∧ (∀ i, i < j → Rch (nxP p.qs) 0 i) ∧ w' = w6, ⟨_, 0, rfl, Nat.zero_le _, rfl, fun i hi => by omega, rfl⟩, ?_⟩
    rintro k _ _ x ⟨j, rfl, hj, rfl, hI2, rfl⟩
    refine ⟨fun hlt => ?_, fun hge => ⟨_, _, rfl, .inr (.inr (.inr ⟨hv, hI, fun i hi => hI2 i ?_, rfl, rfl⟩)), G6⟩⟩
    · have hlt : j < p.qs.length := by have := dT hlt; omega
      refine ⟨_, rfl, ⟨by omega, by omega⟩, _, r6.cellAdd (boolsV_get (by omega)), fun hb => ⟨_, by omega, j + 1, by rw [wr (by omega)]; omega, hlt, rfl, fun i hi => ?_, rfl⟩, fun hb => ⟨_, _, rfl, .inr (.inr (.inl ⟨hv, hI, j, hlt, rfl, fun hr => ?_, hI2, rfl⟩)), G6⟩⟩
      · by_cases e : i = j
        · subst e; exact (hrc' _).1 hb
        · exact hI2 i (by omega)
      · rw [(hrc' _).2 hr] at hb; cases hb
    · have := dF hge; omega
end Go.Proofs.Ytbaacpfjecbbgaa
