/- A store holds up to a hundred protocols. No condition. -/
import Derived.Test.YtbaacpfjecbbgaaR4
import Derived.Test.YtbaacpfjecbbgaaQw
import Derived.Test.YtbaacpfjecbbgaaO
namespace Go.Proofs.Ytbaacpfjecbbgaa
open Go Go.Nf Go.ChangeShapes Go.WideShapes Go.RowKit

theorem lifted12 (os : Os) (started : os.Started) (H : Type) (enc : TypeId × Value → H) :
    ReturnsInHanded {} Try.checked os 12 .any (Rows.protocolstoreCapacitySpec.pre6 enc Try.prog Try.f12 Rows.protocolstoreCapacityRow.domain false) (Rows.protocolstoreCapacitySpec.post enc Try.prog Try.f12 false true false false) := by
  refine lift_true (C := Try.checked) (ts := [85, 5]) (tb := 4) own laidOut started (by kernel_rfl) Try.func12 (by kernel_rfl) (by kernel_rfl) (by kernel_rfl) (by kernel_rfl) rfl
    (fun ds h => by match ds, h with | [_, _], _ => exact ⟨rfl, rfl, rfl⟩)
    (ChangeSpec.witness6 (enc := enc) (C := Try.checked) false ⟨#[], #[.int .u16 0, .int .u8 0], []⟩ 8 (by kernel_rfl) (by kernel_rfl) (by kernel_rfl) (by kernel_rfl)) ?_
  intro W args ds ps hok r
  obtain ⟨v0, vs0, d0, ds0, p0, q0, rfl, rfl, rfl, h0, r⟩ := trodAll_cons r
  obtain ⟨v1, vs1, d1, ds1, p1, q1, rfl, rfl, rfl, h1, r⟩ := trodAll_cons r
  obtain ⟨rfl, rfl, rfl⟩ := trodAll_nil r
  obtain ⟨x0, rfl, m0⟩ := u16_in (hok 0 85 v0 rfl rfl)
  obtain ⟨x1, rfl, m1⟩ := u8_in (hok 1 5 v1 rfl rfl)
  exact law12_c x0 x1 m0 m1 W

theorem closed12 : joinedFacts Try.checked.prog 12 Try.f12 Rows.protocolstoreCapacitySpec Rows.protocolstoreCapacityRow = true := by
  show joinedFacts Try.prog _ _ _ _ = true
  unfold joinedFacts
  rw [enters, lifts, makes]
  kernel_rfl

theorem said12 : Rows.ProtocolstoreCapacitySaid :=
  OpenClaim.holds_of_wide 12 Try.f12 rfl rfl rfl rfl rfl rfl rfl ⟨rfl, rfl, rfl, rfl, rfl⟩ rfl rfl rfl rfl rfl (by kernel_rfl) Try.func12 closed12
    (of_decide_eq_true (by kernel_rfl)) (by unfold Func.isWrapper; first | (rw [if_pos (by decide +kernel)]; kernel_rfl) | (rw [if_neg (by decide +kernel)]; exact ⟨rfl, rfl⟩))
    (fun os started H enc _ => lifted12 os started H enc)
#print axioms said12
end Go.Proofs.Ytbaacpfjecbbgaa
