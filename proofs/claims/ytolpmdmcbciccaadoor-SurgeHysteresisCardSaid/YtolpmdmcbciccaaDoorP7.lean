/- The level does not fall while it is set again within the period of calm. No condition. -/
import Derived.Test.YtolpmdmcbciccaaDoorXr
import Derived.Test.YtolpmdmcbciccaaDoorO
import Derived.Test.YtolpmdmcbciccaaDoorCards
import Derived.Test.YtolpmdmcbciccaaDoorTie
namespace Go.Proofs.YtolpmdmcbciccaaDoor
open Go Go.Nf Go.ChangeShapes Go.WideShapes Go.RowKit

theorem lifted7 (os : Os) (started : os.Started) (H : Type) (enc : TypeId × Value → H) :
    ReturnsInHanded {} Tryd.checked os 7 .any (fun w args => (Rows.surgeHysteresisSpec.pre enc Tryd.prog Tryd.f7 [] false w args ∧ laidMetH Tryd.prog laid3 w) ∧ sizedMet enc Tryd.prog Tryd.f7 (OpenSpec.ofChange Rows.surgeHysteresisSpec) false w args) (Rows.surgeHysteresisSpec.post enc Tryd.prog Tryd.f7 false true false false) := by
  refine lift_laid (C := Tryd.checked) (ts := [39, 40, 2]) (tb := 4) (X := fun w _ => laidMetH Tryd.prog laid3 w) (fun _ _ _ hh h => h.of_heap hh) own laidOut started (by kernel_rfl) Tryd.func7 (by kernel_rfl) (by kernel_rfl) (by kernel_rfl) (by kernel_rfl) rfl
    (fun ds h => by match ds, h with | [_, _, _], _ => exact ⟨rfl, rfl, rfl⟩)
    (ChangeSpec.witness_shaped (enc := enc) (C := Tryd.checked) (os := os) (X := fun w _ => laidMetH Tryd.prog laid3 w) false (World.doorLaid Tryd.prog 400 os) #[.agg #[.string (ByteArray.mk #[]), .slice none 0 0, .int .i64 0, .bool false], .slice none 0 0, .int .i64 0] 8 rfl (World.shaped_of_RefB (by kernel_rfl) (by kernel_rfl)) (by kernel_rfl) (by kernel_rfl) (by kernel_rfl) (door_met os _)) ?_
  intro W args ds ps hok rch r
  obtain ⟨v0, vs0, d0, ds0, p0, q0, rfl, rfl, rfl, h0, r⟩ := trodAll_cons r
  obtain ⟨v1, vs1, d1, ds1, p1, q1, rfl, rfl, rfl, h1, r⟩ := trodAll_cons r
  obtain ⟨v2, vs2, d2, ds2, p2, q2, rfl, rfl, rfl, h2, r⟩ := trodAll_cons r
  obtain ⟨rfl, rfl, rfl⟩ := trodAll_nil r
  obtain ⟨o0, c0, x0, y0, z0, rfl, m0, f0⟩ := made_in (hok 0 39 v0 rfl rfl) h0 (rch 0 39 d0 rfl rfl)
  obtain ⟨o1, c1, x1, rfl, m1⟩ := acts_in (hok 1 40 v1 rfl rfl) h1
  obtain ⟨x2, rfl⟩ := tick_in (hok 2 2 v2 rfl rfl)
  exact law7_c o0 c0 x0 y0 z0 o1 c1 x1 x2 f0 W m0 m1

theorem closed7 : joinedFacts Tryd.checked.prog 7 Tryd.f7 Rows.surgeHysteresisSpec Rows.surgeHysteresisRow = true := by
  show joinedFacts Tryd.prog _ _ _ _ = true
  unfold joinedFacts
  rw [enters, lifts, makes]
  kernel_rfl

theorem row7 : Rows.SurgeHysteresisSaid :=
  OpenClaim.holds_of_wide 7 Tryd.f7 rfl rfl rfl rfl rfl rfl rfl ⟨rfl, rfl, rfl, rfl, rfl⟩ rfl rfl rfl rfl rfl (by kernel_rfl) Tryd.func7 closed7
    (of_decide_eq_true (by kernel_rfl)) (by unfold Func.isWrapper; first | (rw [if_pos (by decide +kernel)]; kernel_rfl) | (rw [if_neg (by decide +kernel)]; exact ⟨rfl, rfl⟩))
    (fun os started H enc _ => lifted7 os started H enc)
theorem said7 : Rows.SurgeHysteresisCardSaid :=
  Claim7.holds_tied_plain_at .later [] [.data, .data, .data] true (true, "78234702a0cbdad6e79645c4088f982d14f4b37458bfff9f9906028201a214e6") false
    row7 (fun _ h => by cases h) (by kernel_rfl) (fun _ h => by cases h) surgeHysteresis_row_tie rfl ⟨rfl, rfl⟩ (by kernel_rfl) rfl
    (fun f fn hf hfn => by
      obtain rfl : f = 7 := Option.some.inj ((show Tryd.prog.funcNamed "samaritan/samaritanlaw45.SurgeHysteresis" = some 7 by kernel_rfl).symm.trans hf) |>.symm
      obtain rfl : fn = Tryd.f7 := (Option.some.inj (Tryd.func7.symm.trans hfn)).symm
      exact ⟨by kernel_rfl, fun j t ht => by
        have hp : Tryd.f7.params = #[39, 40, 2] := by kernel_rfl
        rw [hp] at ht
        have hm : t ∈ [39, 40, 2] := by simpa using Array.mem_of_getElem? ht
        have hall : ([39, 40, 2].all fun u => !Tryd.prog.wantsStandIn u) = true := by kernel_rfl
        exact (show Tryd.prog.wantsStandIn t = false by simpa using List.all_eq_true.1 hall t hm)⟩)
    (by kernel_rfl)
#print axioms said7
end Go.Proofs.YtolpmdmcbciccaaDoor
