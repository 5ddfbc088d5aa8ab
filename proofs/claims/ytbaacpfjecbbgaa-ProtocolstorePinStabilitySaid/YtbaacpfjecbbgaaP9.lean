/- A pinned version stays; the store's pins tell. No condition. -/
import Derived.Test.YtbaacpfjecbbgaaR4
import Derived.Test.YtbaacpfjecbbgaaQv
import Derived.Test.YtbaacpfjecbbgaaO
namespace Go.Proofs.Ytbaacpfjecbbgaa
open Go Go.Nf Go.ChangeShapes Go.WideShapes Go.RowKit

theorem lifted9 (os : Os) (started : os.Started) (H : Type) (enc : TypeId × Value → H) :
    ReturnsInHanded {} Try.checked os 9 .any (Rows.protocolstorePinStabilitySpec.pre6 enc Try.prog Try.f9 Rows.protocolstorePinStabilityRow.domain false) (Rows.protocolstorePinStabilitySpec.post enc Try.prog Try.f9 false true false false) := by
  refine lift_true (C := Try.checked) (ts := [62, 2]) (tb := 4) own laidOut started (by kernel_rfl) Try.func9 (by kernel_rfl) (by kernel_rfl) (by kernel_rfl) (by kernel_rfl) rfl
    (fun ds h => by match ds, h with | [_, _], _ => exact ⟨rfl, rfl, rfl⟩)
    (ChangeSpec.witness6 (enc := enc) (C := Try.checked) false ⟨#[], #[.slice none 0 0, .int .i64 0], []⟩ 8 (by kernel_rfl) (by kernel_rfl) (by kernel_rfl) (by kernel_rfl)) ?_
  intro W args ds ps hok r
  obtain ⟨v0, vs0, d0, ds0, p0, q0, rfl, rfl, rfl, h0, r⟩ := trodAll_cons r
  obtain ⟨v1, vs1, d1, ds1, p1, q1, rfl, rfl, rfl, h1, r⟩ := trodAll_cons r
  obtain ⟨rfl, rfl, rfl⟩ := trodAll_nil r
  obtain ⟨o0, c0, x0, rfl, m0, f0, l0⟩ := ops_in (hok 0 62 v0 rfl rfl) h0
  obtain ⟨x1, rfl⟩ := int2_in (hok 1 2 v1 rfl rfl)
  exact law9_c o0 c0 x0 x1 f0 l0 W m0

theorem closed9 : joinedFacts Try.checked.prog 9 Try.f9 Rows.protocolstorePinStabilitySpec Rows.protocolstorePinStabilityRow = true := by
  show joinedFacts Try.prog _ _ _ _ = true
  unfold joinedFacts
  rw [enters, lifts, makes]
  kernel_rfl

theorem said9 : Rows.ProtocolstorePinStabilitySaid :=
  OpenClaim.holds_of_wide 9 Try.f9 rfl rfl rfl rfl rfl rfl rfl ⟨rfl, rfl, rfl, rfl, rfl⟩ rfl rfl rfl rfl rfl (by kernel_rfl) Try.func9 closed9
    (of_decide_eq_true (by kernel_rfl)) (by unfold Func.isWrapper; first | (rw [if_pos (by decide +kernel)]; kernel_rfl) | (rw [if_neg (by decide +kernel)]; exact ⟨rfl, rfl⟩))
    (fun os started H enc _ => lifted9 os started H enc)
#print axioms said9
end Go.Proofs.Ytbaacpfjecbbgaa
