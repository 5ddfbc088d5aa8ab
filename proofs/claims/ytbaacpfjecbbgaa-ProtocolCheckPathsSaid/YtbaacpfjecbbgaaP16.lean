/- For every protocol, Paths yields exactly the specified paths in the specified order, until the consumer stops. No condition. -/
import Derived.Test.YtbaacpfjecbbgaaR
import Derived.Test.YtbaacpfjecbbgaaMp
import Derived.Test.YtbaacpfjecbbgaaO
namespace Go.Proofs.Ytbaacpfjecbbgaa
open Go Go.Nf Go.ChangeShapes Go.WideShapes Go.RowKit

theorem lifted16 (os : Os) (started : os.Started) (H : Type) (enc : TypeId × Value → H) :
    ReturnsInHanded {} Try.checked os 16 .any (Rows.protocolCheckPathsSpec.pre6 enc Try.prog Try.f16 Rows.protocolCheckPathsRow.domain false) (Rows.protocolCheckPathsSpec.post enc Try.prog Try.f16 false true false false) := by
  refine lift_true (C := Try.checked) (ts := [24, 5]) (tb := 4) own laidOut started (by kernel_rfl) Try.func16 (by kernel_rfl) (by kernel_rfl) (by kernel_rfl) (by kernel_rfl) rfl
    (fun ds h => by match ds, h with | [_, _], _ => exact ⟨rfl, rfl, rfl⟩)
    (ChangeSpec.witness6 (enc := enc) (C := Try.checked) false ⟨#[], #[.agg #[.string (ByteArray.mk #[]), .int .i64 0, .slice none 0 0], .int .u8 0], []⟩ 8 (by kernel_rfl) (by kernel_rfl) (by kernel_rfl) (by kernel_rfl)) ?_
  intro W args ds ps hok r
  obtain ⟨v0, vs0, d0, ds0, p0, q0, rfl, rfl, rfl, h0, r⟩ := trodAll_cons r
  obtain ⟨v1, vs1, d1, ds1, p1, q1, rfl, rfl, rfl, h1, r⟩ := trodAll_cons r
  obtain ⟨rfl, rfl, rfl⟩ := trodAll_nil r
  obtain ⟨o0, c0, x0, rfl, m0, f0⟩ := protocol_in (hok 0 24 v0 rfl rfl) h0
  obtain ⟨x1, rfl, m1⟩ := u8_in (hok 1 5 v1 rfl rfl)
  exact law16_c o0 c0 x0 x1 m1 f0 W m0

theorem closed16 : joinedFacts Try.checked.prog 16 Try.f16 Rows.protocolCheckPathsSpec Rows.protocolCheckPathsRow = true := by
  show joinedFacts Try.prog _ _ _ _ = true
  unfold joinedFacts
  rw [enters, lifts, makes]
  kernel_rfl

theorem said16 : Rows.ProtocolCheckPathsSaid :=
  OpenClaim.holds_of_wide 16 Try.f16 rfl rfl rfl rfl rfl rfl rfl ⟨rfl, rfl, rfl, rfl, rfl⟩ rfl rfl rfl rfl rfl (by kernel_rfl) Try.func16 closed16
    (of_decide_eq_true (by kernel_rfl)) (by unfold Func.isWrapper; first | (rw [if_pos (by decide +kernel)]; kernel_rfl) | (rw [if_neg (by decide +kernel)]; exact ⟨rfl, rfl⟩))
    (fun os started H enc _ => lifted16 os started H enc)
#print axioms said16
end Go.Proofs.Ytbaacpfjecbbgaa
