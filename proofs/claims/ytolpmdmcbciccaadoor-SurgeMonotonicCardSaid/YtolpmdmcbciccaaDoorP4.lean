/- One incident more or one free unit less never lowers the level. No condition. -/
import Derived.Test.YtolpmdmcbciccaaDoorXr
import Derived.Test.YtolpmdmcbciccaaDoorO
import Derived.Test.YtolpmdmcbciccaaDoorCards
import Derived.Test.YtolpmdmcbciccaaDoorTie
namespace Go.Proofs.YtolpmdmcbciccaaDoor
open Go Go.Nf Go.ChangeShapes Go.WideShapes Go.RowKit

theorem lifted4 (os : Os) (started : os.Started) (H : Type) (enc : TypeId × Value → H) :
    ReturnsInHanded {} Tryd.checked os 4 .any (fun w args => (Rows.surgeMonotonicSpec.pre enc Tryd.prog Tryd.f4 [] false w args ∧ laidMetH Tryd.prog laid3 w) ∧ sizedMet enc Tryd.prog Tryd.f4 (OpenSpec.ofChange Rows.surgeMonotonicSpec) false w args) (Rows.surgeMonotonicSpec.post enc Tryd.prog Tryd.f4 false true false false) := by
  refine lift_laid (C := Tryd.checked) (ts := [22, 23, 24]) (tb := 4) (X := fun w _ => laidMetH Tryd.prog laid3 w) (fun _ _ _ hh h => h.of_heap hh) own laidOut started (by kernel_rfl) Tryd.func4 (by kernel_rfl) (by kernel_rfl) (by kernel_rfl) (by kernel_rfl) rfl
    (fun ds h => by match ds, h with | [_, _, _], _ => exact ⟨rfl, rfl, rfl⟩)
    (ChangeSpec.witness_shaped (enc := enc) (C := Tryd.checked) (os := os) (X := fun w _ => laidMetH Tryd.prog laid3 w) false (World.doorLaid Tryd.prog 400 os) #[.slice none 0 0, .slice none 0 0, .slice none 0 0] 8 rfl (World.shaped_of_RefB (by kernel_rfl) (by kernel_rfl)) (by kernel_rfl) (by kernel_rfl) (by kernel_rfl) (door_met os _)) ?_
  intro W args ds ps hok rch r
  obtain ⟨v0, vs0, d0, ds0, p0, q0, rfl, rfl, rfl, h0, r⟩ := trodAll_cons r
  obtain ⟨v1, vs1, d1, ds1, p1, q1, rfl, rfl, rfl, h1, r⟩ := trodAll_cons r
  obtain ⟨v2, vs2, d2, ds2, p2, q2, rfl, rfl, rfl, h2, r⟩ := trodAll_cons r
  obtain ⟨rfl, rfl, rfl⟩ := trodAll_nil r
  obtain ⟨o0, c0, x0, rfl, m0, l0⟩ := incs_in (hok 0 22 v0 rfl rfl) h0
  obtain ⟨o1, c1, x1, rfl, m1, l1⟩ := units_in (hok 1 23 v1 rfl rfl) h1
  obtain ⟨o2, c2, x2, rfl, m2, f2⟩ := plans_in (hok 2 24 v2 rfl rfl) h2 (rch 2 24 d2 rfl rfl)
  exact law4_c o0 o1 o2 c0 c1 c2 x0 x1 x2 f2 l0 l1 W m0 m1 m2

theorem closed4 : joinedFacts Tryd.checked.prog 4 Tryd.f4 Rows.surgeMonotonicSpec Rows.surgeMonotonicRow = true := by
  show joinedFacts Tryd.prog _ _ _ _ = true
  unfold joinedFacts
  rw [enters, lifts, makes]
  kernel_rfl

theorem row4 : Rows.SurgeMonotonicSaid :=
  OpenClaim.holds_of_wide 4 Tryd.f4 rfl rfl rfl rfl rfl rfl rfl ⟨rfl, rfl, rfl, rfl, rfl⟩ rfl rfl rfl rfl rfl (by kernel_rfl) Tryd.func4 closed4
    (of_decide_eq_true (by kernel_rfl)) (by unfold Func.isWrapper; first | (rw [if_pos (by decide +kernel)]; kernel_rfl) | (rw [if_neg (by decide +kernel)]; exact ⟨rfl, rfl⟩))
    (fun os started H enc _ => lifted4 os started H enc)
theorem said4 : Rows.SurgeMonotonicCardSaid :=
  Claim7.holds_tied_plain_at .later [] [.data, .data, .data] true (true, "78234702a0cbdad6e79645c4088f982d14f4b37458bfff9f9906028201a214e6") false
    row4 (fun _ h => by cases h) (by kernel_rfl) (fun _ h => by cases h) surgeMonotonic_row_tie rfl ⟨rfl, rfl⟩ (by kernel_rfl) rfl
    (fun f fn hf hfn => by
      obtain rfl : f = 4 := Option.some.inj ((show Tryd.prog.funcNamed "samaritan/samaritanlaw45.SurgeMonotonic" = some 4 by kernel_rfl).symm.trans hf) |>.symm
      obtain rfl : fn = Tryd.f4 := (Option.some.inj (Tryd.func4.symm.trans hfn)).symm
      exact ⟨by kernel_rfl, fun j t ht => by
        have hp : Tryd.f4.params = #[22, 23, 24] := by kernel_rfl
        rw [hp] at ht
        have hm : t ∈ [22, 23, 24] := by simpa using Array.mem_of_getElem? ht
        have hall : ([22, 23, 24].all fun u => !Tryd.prog.wantsStandIn u) = true := by kernel_rfl
        exact (show Tryd.prog.wantsStandIn t = false by simpa using List.all_eq_true.1 hall t hm)⟩)
    (by kernel_rfl)
#print axioms said4
end Go.Proofs.YtolpmdmcbciccaaDoor
