/- Every path ends in an urgency within UrgencyRange after at most MaxQuestions answers; a protocol that passes Check has at least one path, any other protocol has none. No condition. -/
import Derived.Test.YtbaacpfjecbbgaaR
import Derived.Test.YtbaacpfjecbbgaaMf
import Derived.Test.YtbaacpfjecbbgaaO
namespace Go.Proofs.Ytbaacpfjecbbgaa
open Go Go.Nf Go.ChangeShapes Go.WideShapes Go.RowKit

theorem lifted19 (os : Os) (started : os.Started) (H : Type) (enc : TypeId × Value → H) :
    ReturnsInHanded {} Try.checked os 19 .any (Rows.protocolCheckPathsEndSpec.pre6 enc Try.prog Try.f19 Rows.protocolCheckPathsEndRow.domain false) (Rows.protocolCheckPathsEndSpec.post enc Try.prog Try.f19 false true false false) := by
  refine lift_true (C := Try.checked) (ts := [24]) (tb := 4) own laidOut started (by kernel_rfl) Try.func19 (by kernel_rfl) (by kernel_rfl) (by kernel_rfl) (by kernel_rfl) rfl
    (fun ds h => by match ds, h with | [_], _ => exact ⟨rfl, rfl, rfl⟩)
    (ChangeSpec.witness6 (enc := enc) (C := Try.checked) false ⟨#[], #[.agg #[.string (ByteArray.mk #[]), .int .i64 0, .slice none 0 0]], []⟩ 8 (by kernel_rfl) (by kernel_rfl) (by kernel_rfl) (by kernel_rfl)) ?_
  intro W args ds ps hok r
  obtain ⟨v0, vs0, d0, ds0, p0, q0, rfl, rfl, rfl, h0, r⟩ := trodAll_cons r
  obtain ⟨rfl, rfl, rfl⟩ := trodAll_nil r
  obtain ⟨o0, c0, x0, rfl, m0, f0⟩ := protocol_in (hok 0 24 v0 rfl rfl) h0
  exact law19_c o0 c0 x0 f0 W m0

theorem closed19 : joinedFacts Try.checked.prog 19 Try.f19 Rows.protocolCheckPathsEndSpec Rows.protocolCheckPathsEndRow = true := by
  show joinedFacts Try.prog _ _ _ _ = true
  unfold joinedFacts
  rw [enters, lifts, makes]
  kernel_rfl

theorem said19 : Rows.ProtocolCheckPathsEndSaid :=
  OpenClaim.holds_of_wide 19 Try.f19 rfl rfl rfl rfl rfl rfl rfl ⟨rfl, rfl, rfl, rfl, rfl⟩ rfl rfl rfl rfl rfl (by kernel_rfl) Try.func19 closed19
    (of_decide_eq_true (by kernel_rfl)) (by unfold Func.isWrapper; first | (rw [if_pos (by decide +kernel)]; kernel_rfl) | (rw [if_neg (by decide +kernel)]; exact ⟨rfl, rfl⟩))
    (fun os started H enc _ => lifted19 os started H enc)
#print axioms said19
end Go.Proofs.Ytbaacpfjecbbgaa
