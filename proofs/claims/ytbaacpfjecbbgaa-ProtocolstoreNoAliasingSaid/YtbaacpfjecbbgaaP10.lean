/- What was handed in to Put, or returned by Get, is no part of the store. No condition. -/
import Derived.Test.YtbaacpfjecbbgaaR5
import Derived.Test.YtbaacpfjecbbgaaQy
import Derived.Test.YtbaacpfjecbbgaaO
namespace Go.Proofs.Ytbaacpfjecbbgaa
open Go Go.Nf Go.ChangeShapes Go.WideShapes Go.RowKit

theorem lifted10 (os : Os) (started : os.Started) (H : Type) (enc : TypeId × Value → H) :
    ReturnsInHanded {} Try.checked os 10 .any (Rows.protocolstoreNoAliasingSpec.pre6 enc Try.prog Try.f10 Rows.protocolstoreNoAliasingRow.domain false) (Rows.protocolstoreNoAliasingSpec.post enc Try.prog Try.f10 false true false false) := by
  refine lift_trueB (C := Try.checked) (ts := [24]) (tb := 4) own laidOut started (by kernel_rfl) Try.func10 (by kernel_rfl) (by kernel_rfl) (by kernel_rfl) (by kernel_rfl) rfl
    (fun ds h => by match ds, h with | [_], _ => exact ⟨rfl, rfl, rfl⟩)
    (ChangeSpec.witness6 (enc := enc) (C := Try.checked) false ⟨#[], #[.agg #[.string (ByteArray.mk #[]), .int .i64 0, .slice none 0 0]], []⟩ 8 (by kernel_rfl) (by kernel_rfl) (by kernel_rfl) (by kernel_rfl)) ?_
  intro W args ds ps hok rch r
  obtain ⟨v0, vs0, d0, ds0, p0, q0, rfl, rfl, rfl, h0, r⟩ := trodAll_cons r
  obtain ⟨rfl, rfl, rfl⟩ := trodAll_nil r
  obtain ⟨o0, c0, x0, rfl, m0, f0, z0⟩ := protocol_inB (hok 0 24 v0 rfl rfl) h0 (rch 0 24 d0 rfl rfl)
  exact law10_c o0 c0 x0 f0 z0 W m0

theorem closed10 : joinedFacts Try.checked.prog 10 Try.f10 Rows.protocolstoreNoAliasingSpec Rows.protocolstoreNoAliasingRow = true := by
  show joinedFacts Try.prog _ _ _ _ = true
  unfold joinedFacts
  rw [enters, lifts, makes]
  kernel_rfl

theorem said10 : Rows.ProtocolstoreNoAliasingSaid :=
  OpenClaim.holds_of_wide 10 Try.f10 rfl rfl rfl rfl rfl rfl rfl ⟨rfl, rfl, rfl, rfl, rfl⟩ rfl rfl rfl rfl rfl (by kernel_rfl) Try.func10 closed10
    (of_decide_eq_true (by kernel_rfl)) (by unfold Func.isWrapper; first | (rw [if_pos (by decide +kernel)]; kernel_rfl) | (rw [if_neg (by decide +kernel)]; exact ⟨rfl, rfl⟩))
    (fun os started H enc _ => lifted10 os started H enc)
#print axioms said10
end Go.Proofs.Ytbaacpfjecbbgaa
