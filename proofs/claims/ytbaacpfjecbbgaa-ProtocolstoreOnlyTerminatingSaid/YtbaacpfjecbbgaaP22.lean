/- Every protocol in a store is valid and terminates, versions ascend, the newest is the last. No condition. -/
import Derived.Test.YtbaacpfjecbbgaaR4
import Derived.Test.YtbaacpfjecbbgaaQu
import Derived.Test.YtbaacpfjecbbgaaO
namespace Go.Proofs.Ytbaacpfjecbbgaa
open Go Go.Nf Go.ChangeShapes Go.WideShapes Go.RowKit

theorem lifted22 (os : Os) (started : os.Started) (H : Type) (enc : TypeId × Value → H) :
    ReturnsInHanded {} Try.checked os 22 .any (Rows.protocolstoreOnlyTerminatingSpec.pre6 enc Try.prog Try.f22 Rows.protocolstoreOnlyTerminatingRow.domain false) (Rows.protocolstoreOnlyTerminatingSpec.post enc Try.prog Try.f22 false true false false) := by
  refine lift_true (C := Try.checked) (ts := [62]) (tb := 4) own laidOut started (by kernel_rfl) Try.func22 (by kernel_rfl) (by kernel_rfl) (by kernel_rfl) (by kernel_rfl) rfl
    (fun ds h => by match ds, h with | [_], _ => exact ⟨rfl, rfl, rfl⟩)
    (ChangeSpec.witness6 (enc := enc) (C := Try.checked) false ⟨#[], #[.slice none 0 0], []⟩ 8 (by kernel_rfl) (by kernel_rfl) (by kernel_rfl) (by kernel_rfl)) ?_
  intro W args ds ps hok r
  obtain ⟨v0, vs0, d0, ds0, p0, q0, rfl, rfl, rfl, h0, r⟩ := trodAll_cons r
  obtain ⟨rfl, rfl, rfl⟩ := trodAll_nil r
  obtain ⟨o0, c0, x0, rfl, m0, f0, l0⟩ := ops_in (hok 0 62 v0 rfl rfl) h0
  exact law22_c o0 c0 x0 f0 l0 W m0

theorem closed22 : joinedFacts Try.checked.prog 22 Try.f22 Rows.protocolstoreOnlyTerminatingSpec Rows.protocolstoreOnlyTerminatingRow = true := by
  show joinedFacts Try.prog _ _ _ _ = true
  unfold joinedFacts
  rw [enters, lifts, makes]
  kernel_rfl

theorem said22 : Rows.ProtocolstoreOnlyTerminatingSaid :=
  OpenClaim.holds_of_wide 22 Try.f22 rfl rfl rfl rfl rfl rfl rfl ⟨rfl, rfl, rfl, rfl, rfl⟩ rfl rfl rfl rfl rfl (by kernel_rfl) Try.func22 closed22
    (of_decide_eq_true (by kernel_rfl)) (by unfold Func.isWrapper; first | (rw [if_pos (by decide +kernel)]; kernel_rfl) | (rw [if_neg (by decide +kernel)]; exact ⟨rfl, rfl⟩))
    (fun os started H enc _ => lifted22 os started H enc)
#print axioms said22
end Go.Proofs.Ytbaacpfjecbbgaa
