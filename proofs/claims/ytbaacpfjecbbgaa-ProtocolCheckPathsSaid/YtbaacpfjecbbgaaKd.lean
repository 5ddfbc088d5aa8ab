/- Paths: the iterator's maker. -/
import Derived.Test.YtbaacpfjecbbgaaKc
namespace Go.Proofs.Ytbaacpfjecbbgaa
open Go Go.Nf

/-- the ways that are given: none where the protocol does not terminate -/
def waysB (p : Prot) (y : Int) : List (List Int) := if y = 0 then paths p.qs 0 else []
theorem ending_acyclic {p : Prot} {x : Int} (h : Ending' p x 0) : ∀ j, j < p.qs.length → ¬ Cyc (nxP p.qs) j := by
  rcases h with ⟨-, -, h⟩ | ⟨-, i, -, -, -, -, h⟩ | ⟨-, -, i, -, -, -, -, h⟩ | ⟨-, h, -⟩
  · cases h
  · cases h
  · cases h
  · exact h
theorem valid_in {p : Prot} (hv : validB p = true) : ∀ q x, x ∈ nxP p.qs q → x < p.qs.length := fun q x hx => by
  have := (valid_of hv).inside _ _ (mem_nxP.1 hx)
  omega
theorem terminates_c (o : Option Addr) (c : Nat) (p : Prot) (hf : p.qs.length ≤ 9223372036854775807) (w : World) {A : Nat → Prop} (h : Qs w A o p.qs) :
    Calls Try.prog 101 #[.agg #[.string p.name, .int .i64 p.version, .slice o p.qs.length c]] w fun e w' => ∃ x y, e = .returned (.bool (decide (y = 0))) ∧ Ending' p x y ∧ Grow w w' := by
  refine nf101 p.name p.version o p.qs.length c w _ fun w1 e1 => ?_
  have r := Row.new e1
  have g : Grow w w1 := only_alloc e1
  refine ⟨_, r.cell rfl, _, r.cell rfl, _, _, _, r.cell rfl, (check_c o c p hf w1 (h.grow g)).mono ?_⟩
  rintro _ w2 ⟨x, y, rfl, hE, g2⟩
  exact ⟨_, _, rfl, fun hy => ⟨x, y, ret_bool (by rw [hy]), hE, g.trans' g2⟩, fun hy => ⟨x, y, ret_bool (by rw [hy]), hE, g.trans' g2⟩⟩
set_option maxHeartbeats 1000000 in
theorem paths1_c {w : World} {cn c : Nat} {o : Option Addr} {p : Prot} {y x : Int} {A M0 : Nat → Prop} (hE : Ending' p x y) (hr : Row w cn 91 [.slice o (if y = 0 then p.qs.length else 0) c]) (ho : o = none ↔ y ≠ 0) (hM : y = 0 → Mat w A o (nextsOf p.qs)) (hA : ∀ b, A b → M0 b) (hcn : M0 cn) (hlt : ∀ b, M0 b → b < hs w) :
    Gives Try.prog ValW 123 #[.pointer (some ⟨cn, 0, none⟩)] M0 w (waysB p y) := by
  intro l R Rx W hY g hR
  show Calls Try.prog 123 #[.func (.yield l) #[] #[], .pointer (some ⟨cn, 0, none⟩)] W _
  refine nf123 (.yield l) #[] #[] cn W _ fun w1 e1 w3 e3 w5 e5 => ⟨(Row.new e5).there (by simp), fun w7 e7 => ?_⟩
  have r1 : Row w1 (hs W) 160 [.func (.yield l) #[] #[]] := Row.new e1
  have r3 : Row w3 (hs w1) 48 [.slice none 0 0] := Row.new e3
  obtain ⟨r7, g7⟩ := loc e5 e7 rfl
  have g1 : Grow W w1 := only_alloc e1
  have g3 : Grow w1 w3 := only_alloc e3
  have s1 := r1.lt
  have s3 := r3.lt
  have s7 := r7.lt
  have s13 := g3.size
  have s37 := g7.size
  have G : Grow W w7 := (g1.trans' g3).trans' g7
  have sW := g.size
  have hrn := (hr.grow g).grow G
  obtain ⟨M, hMd⟩ : ∃ M : Nat → Prop, M = fun b => M0 b ∨ (hs W ≤ b ∧ b < hs w7) := ⟨_, rfl⟩
  have hR7 : R [] M w7 := hY.step _ M0 M W w7 hR G.only fun b hb => by rw [hMd] at hb; exact hb
  refine ⟨_, _, _, hrn.cell rfl, fun hnn => ?_, fun hnn => ⟨⟨_, rfl⟩, .inl ⟨M, ?_⟩⟩⟩
  · have hy : y = 0 := Classical.byContradiction fun h => by rw [ho.2 h] at hnn; cases hnn
    subst hy
    have hv := ending_valid hE
    have V := valid_of hv
    have htop := V.top
    have hpos := V.pos
    have hac := ending_acyclic hE
    refine ⟨_, _, _, r7.cell rfl, .inl ⟨124, #[], _, rfl, by kernel_rfl, (follow_c (by omega) V.ans (valid_in hv) hY p.qs.length w7 0 [] none 0 M [] (fun d hd => walk_le (valid_in hv) hac hd (by omega)) (by omega) (by simp; omega)
      ⟨hrn, r3.grow g7, ((r1.grow g3).grow g7), r7, own_nil _ _ _ _, by rw [hMd]; exact .inl hcn, by rw [hMd]; exact .inr ⟨by omega, by omega⟩, by rw [hMd]; exact .inr ⟨by omega, by omega⟩, by rw [hMd]; exact .inr ⟨by omega, by omega⟩,
       fun b ⟨a, ha, _⟩ => (by cases ha), fun b hb => by rw [hMd]; exact .inl (hA b hb), fun b ⟨a, ha, _⟩ => (by cases ha), fun h => by have := hlt _ (hA _ h); omega, fun b hb => by
        rw [hMd] at hb
        rcases hb with h | h
        · have := hlt b h; omega
        · exact h.2⟩ (((hM rfl).grow g).grow G) hR7).mono ?_⟩⟩
    have hnil : ([] ++ (pathsF p.qs p.qs.length 0).map (([] : List Int) ++ ·)) = waysB p 0 := by
      rw [List.nil_append, show ((([] : List Int) ++ ·)) = id from funext fun _ => rfl, List.map_id]; rfl
    rintro e w8 (⟨rfl, M', po', pc', -, hR8, -⟩ | ⟨rfl, m, hm, hx⟩)
    · rw [hnil] at hR8
      exact ⟨_, rfl, fun _ => ⟨⟨_, rfl⟩, .inl ⟨M', hR8⟩⟩, fun h => (by cases h)⟩
    · refine ⟨_, rfl, fun h => (by cases h), fun _ => ⟨⟨_, rfl⟩, .inr ⟨m, ?_, by simpa using hx⟩⟩⟩
      rw [← hnil]; simpa using hm
  · have hy : y ≠ 0 := fun h => by
      cases o with
      | none => exact (ho.1 rfl) h
      | some a => cases hnn
    rw [show waysB p y = [] from if_neg hy]
    exact hR7
set_option maxHeartbeats 1000000 in
theorem paths_c (o : Option Addr) (c : Nat) (p : Prot) (hf : p.qs.length ≤ 9223372036854775807) (w : World) {A : Nat → Prop} (h : Qs w A o p.qs) :
    Calls Try.prog 99 #[.agg #[.string p.name, .int .i64 p.version, .slice o p.qs.length c]] w fun e w' => ∃ x y cn M0, e = .returned (.func (.func 123) #[] #[.pointer (some ⟨cn, 0, none⟩)]) ∧ Ending' p x y ∧ (∀ b, M0 b → hs w ≤ b ∧ b < hs w') ∧
      (∀ w'', Grow w' w'' → Gives Try.prog ValW 123 #[.pointer (some ⟨cn, 0, none⟩)] M0 w'' (waysB p y)) ∧ Grow w w' := by
  refine nf99 p.name p.version o p.qs.length c w _ fun w1 e1 w3 e3 K hK => ?_
  have r1 := Row.new e1
  have g1 : Grow w w1 := only_alloc e1
  have r3 : Row w3 (hs w1) 91 [.slice none 0 0] := Row.new e3
  have g3 : Grow w1 w3 := only_alloc e3
  have G3 := g1.trans' g3
  have r13 := r1.grow g3
  have s1 := g1.size
  have s3 := r3.lt
  refine ⟨_, r13.cell rfl, _, r13.cell rfl, _, _, _, r13.cell rfl, (terminates_c o c p hf w3 (h.grow G3)).mono ?_⟩
  rintro _ w4 ⟨x, y, rfl, hE, g4⟩
  have s4 := g4.size
  have r14 := r13.grow g4
  have r34 := r3.grow g4
  have G4 := G3.trans' g4
  refine ⟨_, rfl, fun hy => ?_, fun hy => hK _ fun _ => ⟨x, y, hs w1, fun b => b = hs w1, rfl, hE, fun b hb => by rw [hb]; exact ⟨s1, r34.lt⟩, fun w'' g => ?_, G4⟩⟩
  · have hy := dT hy
    subst hy
    have hv := ending_valid hE
    have V := valid_of hv
    have htop := V.top
    refine ⟨_, r14.cell rfl, _, r14.cell rfl, _, _, _, r14.cell rfl, (nextQ_c o c p (by omega) V.ans w4 (h.grow G4)).mono ?_⟩
    rintro _ w5 ⟨o5, c5, rfl, hM, g5, hnn⟩
    have r35 := r34.grow g5
    refine ⟨_, _, _, rfl, r35.there (by simp), fun w6 e6 => hK _ fun _ => ?_⟩
    have g6 : Only (fun b => b = hs w1) w5 w6 := only_set e6
    have r36 : Row w6 (hs w1) 91 [.slice o5 p.qs.length c5] := r35.set e6
    have s5 := g5.size
    have s6 := g6.size
    have hM6 := hM.keep g6 fun b hb e => by omega
    refine ⟨x, 0, hs w1, fun b => b = hs w1 ∨ (hs w4 ≤ b ∧ b < hs w5), rfl, hE, fun b hb => ?_, fun w'' g => ?_, (G4.trans' g5).trans g6 fun b hb e => by omega⟩
    · rcases hb with rfl | hb
      · exact ⟨s1, r36.lt⟩
      · omega
    · have sg := g.size
      refine paths1_c (A := fun b => hs w4 ≤ b ∧ b < hs w5) hE (r36.grow g) ⟨fun h => absurd (hnn h).2 (fun h => h), fun h => absurd rfl h⟩ (fun _ => hM6.grow g) (fun b hb => .inr hb) (.inl rfl) fun b hb => ?_
      rcases hb with rfl | hb
      · have := r36.lt; omega
      · omega
  · have hy := dF hy
    have r3g := r34.grow g
    exact paths1_c (A := fun _ => False) (c := 0) hE (by rw [if_neg hy]; exact r3g) ⟨fun _ => hy, fun _ => rfl⟩ (fun h => absurd h hy) (fun b hb => hb.elim) rfl fun b hb => by rw [hb]; exact r3g.lt
end Go.Proofs.Ytbaacpfjecbbgaa
