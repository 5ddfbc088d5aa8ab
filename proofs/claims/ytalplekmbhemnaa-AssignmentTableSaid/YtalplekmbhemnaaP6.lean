/- For all sizes and all sequences of changes: the table returns what the exhaustive search returns (AssignmentTable). No condition. -/
import Derived.Test.YtalplekmbhemnaaR2
namespace Go.Proofs.Ytalplekmbhemnaa
open Go Go.Nf Go.ChangeShapes Go.WideShapes Go.RowKit

theorem lifted6 (os : Os) (started : os.Started) (H : Type) (enc : TypeId × Value → H) :
    ReturnsInHanded {} Try.checked os 6 .any (Rows.assignmentTableSpec.pre6 enc Try.prog Try.f6 Rows.assignmentTableRow.domain false) (Rows.assignmentTableSpec.post enc Try.prog Try.f6 false true false false) := by
  refine lift_true (C := Try.checked) (ts := [36, 37]) (tb := 4) own laidOut started (by kernel_rfl) Try.func6 (by kernel_rfl) (by kernel_rfl) (by kernel_rfl) (by kernel_rfl) rfl
    (fun ds h => by match ds, h with | [_, _], _ => exact ⟨rfl, rfl, rfl⟩)
    (ChangeSpec.witness6 (enc := enc) (C := Try.checked) false ⟨#[], #[.agg #[.int .u8 0, .int .u8 0], .slice none 0 0], []⟩ 8 (by kernel_rfl) (by kernel_rfl) (by kernel_rfl) (by kernel_rfl)) ?_
  intro W args ds ps hok r
  obtain ⟨v0, vs0, d0, ds0, p0, q0, rfl, rfl, rfl, h0, r⟩ := trodAll_cons r
  obtain ⟨v1, vs1, d1, ds1, p1, q1, rfl, rfl, rfl, h1, r⟩ := trodAll_cons r
  obtain ⟨rfl, rfl, rfl⟩ := trodAll_nil r
  obtain ⟨x0, y0, rfl, m0⟩ := size_in (hok 0 36 v0 rfl rfl) h0
  obtain ⟨o1, c1, x1, rfl, m1⟩ := steps_in (hok 1 37 v1 rfl rfl) h1
  exact table_law x0 y0 o1 c1 x1 W m0.1 m0.2 m1

theorem said6 : Rows.AssignmentTableSaid :=
  OpenClaim.holds_of_wide 6 Try.f6 rfl rfl rfl rfl rfl rfl rfl ⟨rfl, rfl, rfl, rfl, rfl⟩ rfl rfl rfl rfl rfl (by kernel_rfl) Try.func6 (by kernel_rfl)
    (of_decide_eq_true (by kernel_rfl)) (by unfold Func.isWrapper; first | (rw [if_pos (by decide +kernel)]; kernel_rfl) | (rw [if_neg (by decide +kernel)]; exact ⟨rfl, rfl⟩))
    (fun os started H enc _ => lifted6 os started H enc)
#print axioms said6
end Go.Proofs.Ytalplekmbhemnaa
