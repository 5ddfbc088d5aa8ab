/- For every group and every start: failuredetector.New answers as the reference's New says (FailureDetectorNew). No condition. -/
import Derived.Test.YthddcccffiofbaaR
namespace Go.Proofs.Ythddcccffiofbaa
open Go Go.Nf Go.ChangeShapes Go.WideShapes Go.RowKit

theorem lifted4 (os : Os) (started : os.Started) (H : Type) (enc : TypeId × Value → H) :
    ReturnsInHanded {} Try.checked os 4 .any (Rows.failureDetectorNewSpec.pre6 enc Try.prog Try.f4 Rows.failureDetectorNewRow.domain false) (Rows.failureDetectorNewSpec.post enc Try.prog Try.f4 false true false false) := by
  refine lift_true (C := Try.checked) (ts := [23]) (tb := 4) own laidOut started (by kernel_rfl) Try.func4 (by kernel_rfl) (by kernel_rfl) (by kernel_rfl) (by kernel_rfl) rfl
    (fun ds h => by match ds, h with | [_], _ => exact ⟨rfl, rfl, rfl⟩)
    (ChangeSpec.witness6 (enc := enc) (C := Try.checked) false ⟨#[], #[.agg #[.int .i64 0, .int .i64 0, .int .i64 0, .int .i64 0, .int .i64 0]], []⟩ 8 (by kernel_rfl) (by kernel_rfl) (by kernel_rfl) (by kernel_rfl)) ?_
  intro W args ds ps hok h
  obtain ⟨v0, vs0, d0, ds0, p0, q0, rfl, rfl, rfl, h0, r0⟩ := trodAll_cons h
  obtain ⟨rfl, rfl, rfl⟩ := trodAll_nil r0
  obtain ⟨s, a, pa, m, n, rfl⟩ := made_in (hok 0 23 v0 rfl rfl) h0
  exact new_law s a pa m n W

theorem new_said : Rows.FailureDetectorNewSaid :=
  OpenClaim.holds_of_wide 4 Try.f4 rfl rfl rfl rfl rfl rfl rfl ⟨rfl, rfl, rfl, rfl, rfl⟩ rfl rfl rfl rfl rfl (by kernel_rfl) Try.func4 (by kernel_rfl)
    (of_decide_eq_true (by kernel_rfl)) (by unfold Func.isWrapper; first | (rw [if_pos (by decide +kernel)]; kernel_rfl) | (rw [if_neg (by decide +kernel)]; exact ⟨rfl, rfl⟩))
    (fun os started H enc _ => lifted4 os started H enc)
#print axioms new_said
end Go.Proofs.Ythddcccffiofbaa
