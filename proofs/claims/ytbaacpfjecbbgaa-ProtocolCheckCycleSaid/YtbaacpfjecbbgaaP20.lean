/- A protocol in which an answer leads back to its own question, or to a question from which its own question is reachable, is reported as cyclic. No condition. -/
import Derived.Test.YtbaacpfjecbbgaaR3
import Derived.Test.YtbaacpfjecbbgaaMg
import Derived.Test.YtbaacpfjecbbgaaO
namespace Go.Proofs.Ytbaacpfjecbbgaa
open Go Go.Nf Go.ChangeShapes Go.WideShapes Go.RowKit

theorem lifted20 (os : Os) (started : os.Started) (H : Type) (enc : TypeId × Value → H) :
    ReturnsInHanded {} Try.checked os 20 .any (Rows.protocolCheckCycleSpec.pre6 enc Try.prog Try.f20 Rows.protocolCheckCycleRow.domain false) (Rows.protocolCheckCycleSpec.post enc Try.prog Try.f20 false true false false) := by
  refine lift_true (C := Try.checked) (ts := [24, 3, 3]) (tb := 4) own laidOut started (by kernel_rfl) Try.func20 (by kernel_rfl) (by kernel_rfl) (by kernel_rfl) (by kernel_rfl) rfl
    (fun ds h => by match ds, h with | [_, _, _], _ => exact ⟨rfl, rfl, rfl⟩)
    (ChangeSpec.witness6 (enc := enc) (C := Try.checked) false ⟨#[], #[.agg #[.string (ByteArray.mk #[]), .int .i64 0, .slice none 0 0], .int .i64 0, .int .i64 0], []⟩ 8 (by kernel_rfl) (by kernel_rfl) (by kernel_rfl) (by kernel_rfl)) ?_
  intro W args ds ps hok r
  obtain ⟨v0, vs0, d0, ds0, p0, q0, rfl, rfl, rfl, h0, r⟩ := trodAll_cons r
  obtain ⟨v1, vs1, d1, ds1, p1, q1, rfl, rfl, rfl, h1, r⟩ := trodAll_cons r
  obtain ⟨v2, vs2, d2, ds2, p2, q2, rfl, rfl, rfl, h2, r⟩ := trodAll_cons r
  obtain ⟨rfl, rfl, rfl⟩ := trodAll_nil r
  obtain ⟨o0, c0, x0, rfl, m0, f0⟩ := protocol_in (hok 0 24 v0 rfl rfl) h0
  obtain ⟨x1, rfl⟩ := int_in (hok 1 3 v1 rfl rfl)
  obtain ⟨x2, rfl⟩ := int_in (hok 2 3 v2 rfl rfl)
  exact law20_c o0 c0 x0 x1 x2 f0 W m0

theorem closed20 : joinedFacts Try.checked.prog 20 Try.f20 Rows.protocolCheckCycleSpec Rows.protocolCheckCycleRow = true := by
  show joinedFacts Try.prog _ _ _ _ = true
  unfold joinedFacts
  rw [enters, lifts, makes]
  kernel_rfl

theorem said20 : Rows.ProtocolCheckCycleSaid :=
  OpenClaim.holds_of_wide 20 Try.f20 rfl rfl rfl rfl rfl rfl rfl ⟨rfl, rfl, rfl, rfl, rfl⟩ rfl rfl rfl rfl rfl (by kernel_rfl) Try.func20 closed20
    (of_decide_eq_true (by kernel_rfl)) (by unfold Func.isWrapper; first | (rw [if_pos (by decide +kernel)]; kernel_rfl) | (rw [if_neg (by decide +kernel)]; exact ⟨rfl, rfl⟩))
    (fun os started H enc _ => lifted20 os started H enc)
#print axioms said20
end Go.Proofs.Ytbaacpfjecbbgaa
