/- For all sizes: New takes just the valid ones, and a new table assigns no row (AssignmentNewTable). No condition. -/
import Derived.Test.YtalplekmbhemnaaR
import Derived.Test.YtalplekmbhemnaaGs
namespace Go.Proofs.Ytalplekmbhemnaa
open Go Go.Nf Go.ChangeShapes Go.WideShapes Go.RowKit

theorem lifted7 (os : Os) (started : os.Started) (H : Type) (enc : TypeId × Value → H) :
    ReturnsInHanded {} Try.checked os 7 .any (Rows.assignmentNewTableSpec.pre6 enc Try.prog Try.f7 Rows.assignmentNewTableRow.domain false) (Rows.assignmentNewTableSpec.post enc Try.prog Try.f7 false true false false) := by
  refine lift_true (C := Try.checked) (ts := [3, 3]) (tb := 4) own laidOut started (by kernel_rfl) Try.func7 (by kernel_rfl) (by kernel_rfl) (by kernel_rfl) (by kernel_rfl) rfl
    (fun ds h => by match ds, h with | [_, _], _ => exact ⟨rfl, rfl, rfl⟩)
    (ChangeSpec.witness6 (enc := enc) (C := Try.checked) false ⟨#[], #[.int .i64 0, .int .i64 0], []⟩ 8 (by kernel_rfl) (by kernel_rfl) (by kernel_rfl) (by kernel_rfl)) ?_
  intro W args ds ps hok r
  obtain ⟨v0, vs0, d0, ds0, p0, q0, rfl, rfl, rfl, h0, r⟩ := trodAll_cons r
  obtain ⟨v1, vs1, d1, ds1, p1, q1, rfl, rfl, rfl, h1, r⟩ := trodAll_cons r
  obtain ⟨rfl, rfl, rfl⟩ := trodAll_nil r
  obtain ⟨x0, rfl⟩ := int_in (hok 0 3 v0 rfl rfl)
  obtain ⟨x1, rfl⟩ := int_in (hok 1 3 v1 rfl rfl)
  exact new_law x0 x1 W 

theorem said7 : Rows.AssignmentNewTableSaid :=
  OpenClaim.holds_of_wide 7 Try.f7 rfl rfl rfl rfl rfl rfl rfl ⟨rfl, rfl, rfl, rfl, rfl⟩ rfl rfl rfl rfl rfl (by kernel_rfl) Try.func7 (by kernel_rfl)
    (of_decide_eq_true (by kernel_rfl)) (by unfold Func.isWrapper; first | (rw [if_pos (by decide +kernel)]; kernel_rfl) | (rw [if_neg (by decide +kernel)]; exact ⟨rfl, rfl⟩))
    (fun os started H enc _ => lifted7 os started H enc)
#print axioms said7
end Go.Proofs.Ytalplekmbhemnaa
