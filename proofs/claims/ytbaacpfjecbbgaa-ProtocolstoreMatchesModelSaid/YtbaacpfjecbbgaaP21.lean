/- After every operation of any sequence the store agrees with the reference model. No condition. -/
import Derived.Test.YtbaacpfjecbbgaaR4
import Derived.Test.YtbaacpfjecbbgaaQt
import Derived.Test.YtbaacpfjecbbgaaO
namespace Go.Proofs.Ytbaacpfjecbbgaa
open Go Go.Nf Go.ChangeShapes Go.WideShapes Go.RowKit

theorem lifted21 (os : Os) (started : os.Started) (H : Type) (enc : TypeId × Value → H) :
    ReturnsInHanded {} Try.checked os 21 .any (Rows.protocolstoreMatchesModelSpec.pre6 enc Try.prog Try.f21 Rows.protocolstoreMatchesModelRow.domain false) (Rows.protocolstoreMatchesModelSpec.post enc Try.prog Try.f21 false true false false) := by
  refine lift_true (C := Try.checked) (ts := [62]) (tb := 4) own laidOut started (by kernel_rfl) Try.func21 (by kernel_rfl) (by kernel_rfl) (by kernel_rfl) (by kernel_rfl) rfl
    (fun ds h => by match ds, h with | [_], _ => exact ⟨rfl, rfl, rfl⟩)
    (ChangeSpec.witness6 (enc := enc) (C := Try.checked) false ⟨#[], #[.slice none 0 0], []⟩ 8 (by kernel_rfl) (by kernel_rfl) (by kernel_rfl) (by kernel_rfl)) ?_
  intro W args ds ps hok r
  obtain ⟨v0, vs0, d0, ds0, p0, q0, rfl, rfl, rfl, h0, r⟩ := trodAll_cons r
  obtain ⟨rfl, rfl, rfl⟩ := trodAll_nil r
  obtain ⟨o0, c0, x0, rfl, m0, f0, l0⟩ := ops_in (hok 0 62 v0 rfl rfl) h0
  exact law21_c o0 c0 x0 f0 l0 W m0

theorem closed21 : joinedFacts Try.checked.prog 21 Try.f21 Rows.protocolstoreMatchesModelSpec Rows.protocolstoreMatchesModelRow = true := by
  show joinedFacts Try.prog _ _ _ _ = true
  unfold joinedFacts
  rw [enters, lifts, makes]
  kernel_rfl

theorem said21 : Rows.ProtocolstoreMatchesModelSaid :=
  OpenClaim.holds_of_wide 21 Try.f21 rfl rfl rfl rfl rfl rfl rfl ⟨rfl, rfl, rfl, rfl, rfl⟩ rfl rfl rfl rfl rfl (by kernel_rfl) Try.func21 closed21
    (of_decide_eq_true (by kernel_rfl)) (by unfold Func.isWrapper; first | (rw [if_pos (by decide +kernel)]; kernel_rfl) | (rw [if_neg (by decide +kernel)]; exact ⟨rfl, rfl⟩))
    (fun os started H enc _ => lifted21 os started H enc)
#print axioms said21
end Go.Proofs.Ytbaacpfjecbbgaa
