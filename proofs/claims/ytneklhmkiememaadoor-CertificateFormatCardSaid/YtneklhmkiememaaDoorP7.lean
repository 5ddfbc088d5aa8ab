/- Format returns the specified text. No condition. -/
import Derived.Test.YtneklhmkiememaaDoorXr
import Derived.Test.YtneklhmkiememaaDoorO
import Derived.Test.YtneklhmkiememaaDoorCards
import Derived.Test.YtneklhmkiememaaDoorTie
namespace Go.Proofs.YtneklhmkiememaaDoor
open Go Go.Nf Go.ChangeShapes Go.WideShapes Go.RowKit

theorem lifted7 (os : Os) (started : os.Started) (H : Type) (enc : TypeId × Value → H) :
    ReturnsInHanded {} Tryd.checked os 7 .any (fun w args => (Rows.certificateFormatSpec.pre enc Tryd.prog Tryd.f7 [] false w args ∧ laidMetH Tryd.prog laid3 w) ∧ sizedMet enc Tryd.prog Tryd.f7 (OpenSpec.ofChange Rows.certificateFormatSpec) false w args) (Rows.certificateFormatSpec.post enc Tryd.prog Tryd.f7 false true false false) := by
  refine lift_laidX (C := Tryd.checked) (ts := [40]) (tb := 4) (X := fun w _ => laidMetH Tryd.prog laid3 w) (fun _ _ _ hh h => h.of_heap hh) own laidOut started (by kernel_rfl) Tryd.func7 (by kernel_rfl) (by kernel_rfl) (by kernel_rfl) (by kernel_rfl) rfl
    (fun ds h => by match ds, h with | [_], _ => exact ⟨rfl, rfl, rfl⟩)
    (ChangeSpec.witness_shaped (enc := enc) (C := Tryd.checked) (os := os) (X := fun w _ => laidMetH Tryd.prog laid3 w) false (World.doorLaid Tryd.prog 400 os) #[.agg #[.slice none 0 0, .slice none 0 0, .slice none 0 0]] 8 rfl (World.shaped_of_RefB (by kernel_rfl) (by kernel_rfl)) (by kernel_rfl) (by kernel_rfl) (by kernel_rfl) (door_met os _)) ?_
  intro W args ds ps hok rch r hx
  obtain ⟨v0, vs0, d0, ds0, p0, q0, rfl, rfl, rfl, h0, r⟩ := trodAll_cons r
  obtain ⟨rfl, rfl, rfl⟩ := trodAll_nil r
  obtain ⟨oU, oV, oH, cU, cV, cH, U, V, Hs, rfl, nU, nV, nH, iU, iV, iH⟩ := proof_in (hok 0 40 v0 rfl rfl) h0
  exact law7_c oU oV oH cU cV cH U V Hs W (awakeOk W (tab_of hx)) (tab_of hx) nU nV nH iU iV iH

theorem closed7 : joinedFacts Tryd.checked.prog 7 Tryd.f7 Rows.certificateFormatSpec Rows.certificateFormatRow = true := by
  show joinedFacts Tryd.prog _ _ _ _ = true
  unfold joinedFacts
  rw [enters, lifts, makes]
  kernel_rfl

theorem row7 : Rows.CertificateFormatSaid :=
  OpenClaim.holds_of_wide 7 Tryd.f7 rfl rfl rfl rfl rfl rfl rfl ⟨rfl, rfl, rfl, rfl, rfl⟩ rfl rfl rfl rfl rfl (by kernel_rfl) Tryd.func7 closed7
    (of_decide_eq_true (by kernel_rfl)) (by unfold Func.isWrapper; first | (rw [if_pos (by decide +kernel)]; kernel_rfl) | (rw [if_neg (by decide +kernel)]; exact ⟨rfl, rfl⟩))
    (fun os started H enc _ => lifted7 os started H enc)
theorem said7 : Rows.CertificateFormatCardSaid :=
  Claim7.holds_tied_plain_at .later [] [.data, .data, .data] true (true, "3b24e310ab752fe8e9f95a014410dd49984a482fe6d5f697129e1d7df81b741a") false
    row7 (fun _ h => by cases h) (by kernel_rfl) (fun _ h => by cases h) certificateFormat_row_tie rfl ⟨rfl, rfl⟩ (by kernel_rfl) rfl
    (fun f fn hf hfn => by
      obtain rfl : f = 7 := Option.some.inj ((show Tryd.prog.funcNamed "samaritan/samaritanlaw37.CertificateFormat" = some 7 by kernel_rfl).symm.trans hf) |>.symm
      obtain rfl : fn = Tryd.f7 := (Option.some.inj (Tryd.func7.symm.trans hfn)).symm
      exact ⟨by kernel_rfl, fun j t ht => by
        have hp : Tryd.f7.params = #[40] := by kernel_rfl
        rw [hp] at ht
        have hm : t ∈ [40] := by simpa using Array.mem_of_getElem? ht
        have hall : ([40].all fun u => !Tryd.prog.wantsStandIn u) = true := by kernel_rfl
        exact (show Tryd.prog.wantsStandIn t = false by simpa using List.all_eq_true.1 hall t hm)⟩)
    (by kernel_rfl)
#print axioms said7
end Go.Proofs.YtneklhmkiememaaDoor
