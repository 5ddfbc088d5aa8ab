/- Format returns the specified text or error, and Parse restores the plan. No condition. -/
import Derived.Test.YtolpmdmcbciccaaDoorXr
import Derived.Test.YtolpmdmcbciccaaDoorO
import Derived.Test.YtolpmdmcbciccaaDoorCards
import Derived.Test.YtolpmdmcbciccaaDoorTie
namespace Go.Proofs.YtolpmdmcbciccaaDoor
open Go Go.Nf Go.ChangeShapes Go.WideShapes Go.RowKit

theorem lifted9 (os : Os) (started : os.Started) (H : Type) (enc : TypeId × Value → H) :
    ReturnsInHanded {} Tryd.checked os 9 .any (fun w args => (Rows.surgeFormatSpec.pre enc Tryd.prog Tryd.f9 [] false w args ∧ laidMetH Tryd.prog laid3 w) ∧ sizedMet enc Tryd.prog Tryd.f9 (OpenSpec.ofChange Rows.surgeFormatSpec) false w args) (Rows.surgeFormatSpec.post enc Tryd.prog Tryd.f9 false true false false) := by
  refine lift_laid (C := Tryd.checked) (ts := [32]) (tb := 4) (X := fun w _ => laidMetH Tryd.prog laid3 w) (fun _ _ _ hh h => h.of_heap hh) own laidOut started (by kernel_rfl) Tryd.func9 (by kernel_rfl) (by kernel_rfl) (by kernel_rfl) (by kernel_rfl) rfl
    (fun ds h => by match ds, h with | [_], _ => exact ⟨rfl, rfl, rfl⟩)
    (ChangeSpec.witness_shaped (enc := enc) (C := Tryd.checked) (os := os) (X := fun w _ => laidMetH Tryd.prog laid3 w) false (World.doorLaid Tryd.prog 400 os) #[.agg #[.string (ByteArray.mk #[]), .slice none 0 0]] 8 rfl (World.shaped_of_RefB (by kernel_rfl) (by kernel_rfl)) (by kernel_rfl) (by kernel_rfl) (by kernel_rfl) (door_met os _)) ?_
  intro W args ds ps hok rch r
  obtain ⟨v0, vs0, d0, ds0, p0, q0, rfl, rfl, rfl, h0, r⟩ := trodAll_cons r
  obtain ⟨rfl, rfl, rfl⟩ := trodAll_nil r
  obtain ⟨o0, c0, x0, rfl, m0, f0⟩ := plan_in (hok 0 32 v0 rfl rfl) h0 (rch 0 32 d0 rfl rfl)
  exact law9_c o0 c0 x0 f0 W m0

theorem closed9 : joinedFacts Tryd.checked.prog 9 Tryd.f9 Rows.surgeFormatSpec Rows.surgeFormatRow = true := by
  show joinedFacts Tryd.prog _ _ _ _ = true
  unfold joinedFacts
  rw [enters, lifts, makes]
  kernel_rfl

theorem row9 : Rows.SurgeFormatSaid :=
  OpenClaim.holds_of_wide 9 Tryd.f9 rfl rfl rfl rfl rfl rfl rfl ⟨rfl, rfl, rfl, rfl, rfl⟩ rfl rfl rfl rfl rfl (by kernel_rfl) Tryd.func9 closed9
    (of_decide_eq_true (by kernel_rfl)) (by unfold Func.isWrapper; first | (rw [if_pos (by decide +kernel)]; kernel_rfl) | (rw [if_neg (by decide +kernel)]; exact ⟨rfl, rfl⟩))
    (fun os started H enc _ => lifted9 os started H enc)
theorem said9 : Rows.SurgeFormatCardSaid :=
  Claim7.holds_tied_plain_at .later [] [.data, .data, .data] true (true, "78234702a0cbdad6e79645c4088f982d14f4b37458bfff9f9906028201a214e6") false
    row9 (fun _ h => by cases h) (by kernel_rfl) (fun _ h => by cases h) surgeFormat_row_tie rfl ⟨rfl, rfl⟩ (by kernel_rfl) rfl
    (fun f fn hf hfn => by
      obtain rfl : f = 9 := Option.some.inj ((show Tryd.prog.funcNamed "samaritan/samaritanlaw45.SurgeFormat" = some 9 by kernel_rfl).symm.trans hf) |>.symm
      obtain rfl : fn = Tryd.f9 := (Option.some.inj (Tryd.func9.symm.trans hfn)).symm
      exact ⟨by kernel_rfl, fun j t ht => by
        have hp : Tryd.f9.params = #[32] := by kernel_rfl
        rw [hp] at ht
        have hm : t ∈ [32] := by simpa using Array.mem_of_getElem? ht
        have hall : ([32].all fun u => !Tryd.prog.wantsStandIn u) = true := by kernel_rfl
        exact (show Tryd.prog.wantsStandIn t = false by simpa using List.all_eq_true.1 hall t hm)⟩)
    (by kernel_rfl)
#print axioms said9
end Go.Proofs.YtolpmdmcbciccaaDoor
