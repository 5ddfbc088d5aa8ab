/- For every cost matrix: the result of Solve bears no improvement by one row or by an exchange of two rows (AssignmentNoImprovingSwap). No condition. -/
import Derived.Test.YtalplekmbhemnaaR
import Derived.Test.YtalplekmbhemnaaGo
namespace Go.Proofs.Ytalplekmbhemnaa
open Go Go.Nf Go.ChangeShapes Go.WideShapes Go.RowKit

theorem lifted3 (os : Os) (started : os.Started) (H : Type) (enc : TypeId × Value → H) :
    ReturnsInHanded {} Try.checked os 3 .any (Rows.assignmentNoImprovingSwapSpec.pre6 enc Try.prog Try.f3 Rows.assignmentNoImprovingSwapRow.domain false) (Rows.assignmentNoImprovingSwapSpec.post enc Try.prog Try.f3 false true false false) := by
  refine lift_true (C := Try.checked) (ts := [22]) (tb := 4) own laidOut started (by kernel_rfl) Try.func3 (by kernel_rfl) (by kernel_rfl) (by kernel_rfl) (by kernel_rfl) rfl
    (fun ds h => by match ds, h with | [_], _ => exact ⟨rfl, rfl, rfl⟩)
    (ChangeSpec.witness6 (enc := enc) (C := Try.checked) false ⟨#[], #[.slice none 0 0], []⟩ 8 (by kernel_rfl) (by kernel_rfl) (by kernel_rfl) (by kernel_rfl)) ?_
  intro W args ds ps hok r
  obtain ⟨v0, vs0, d0, ds0, p0, q0, rfl, rfl, rfl, h0, r⟩ := trodAll_cons r
  obtain ⟨rfl, rfl, rfl⟩ := trodAll_nil r
  obtain ⟨o, c, rows, rfl, hm, hl⟩ := matrix_in (hok 0 22 v0 rfl rfl) h0
  exact swap_law o c rows W hm hl

theorem said3 : Rows.AssignmentNoImprovingSwapSaid :=
  OpenClaim.holds_of_wide 3 Try.f3 rfl rfl rfl rfl rfl rfl rfl ⟨rfl, rfl, rfl, rfl, rfl⟩ rfl rfl rfl rfl rfl (by kernel_rfl) Try.func3 (by kernel_rfl)
    (of_decide_eq_true (by kernel_rfl)) (by unfold Func.isWrapper; first | (rw [if_pos (by decide +kernel)]; kernel_rfl) | (rw [if_neg (by decide +kernel)]; exact ⟨rfl, rfl⟩))
    (fun os started H enc _ => lifted3 os started H enc)
#print axioms said3
end Go.Proofs.Ytalplekmbhemnaa
