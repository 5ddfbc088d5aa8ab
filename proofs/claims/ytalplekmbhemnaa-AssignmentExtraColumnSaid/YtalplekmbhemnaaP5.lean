/- For every cost matrix and every column: the column added brings at most one row more, and no greater cost for as many (AssignmentExtraColumn). No condition. -/
import Derived.Test.YtalplekmbhemnaaR
import Derived.Test.YtalplekmbhemnaaGq
namespace Go.Proofs.Ytalplekmbhemnaa
open Go Go.Nf Go.ChangeShapes Go.WideShapes Go.RowKit

theorem lifted5 (os : Os) (started : os.Started) (H : Type) (enc : TypeId × Value → H) :
    ReturnsInHanded {} Try.checked os 5 .any (Rows.assignmentExtraColumnSpec.pre6 enc Try.prog Try.f5 Rows.assignmentExtraColumnRow.domain false) (Rows.assignmentExtraColumnSpec.post enc Try.prog Try.f5 false true false false) := by
  refine lift_true (C := Try.checked) (ts := [22, 32]) (tb := 4) own laidOut started (by kernel_rfl) Try.func5 (by kernel_rfl) (by kernel_rfl) (by kernel_rfl) (by kernel_rfl) rfl
    (fun ds h => by match ds, h with | [_, _], _ => exact ⟨rfl, rfl, rfl⟩)
    (ChangeSpec.witness6 (enc := enc) (C := Try.checked) false ⟨#[], #[.slice none 0 0, .slice none 0 0], []⟩ 8 (by kernel_rfl) (by kernel_rfl) (by kernel_rfl) (by kernel_rfl)) ?_
  intro W args ds ps hok r
  obtain ⟨v0, vs0, d0, ds0, p0, q0, rfl, rfl, rfl, h0, r⟩ := trodAll_cons r
  obtain ⟨v1, vs1, d1, ds1, p1, q1, rfl, rfl, rfl, h1, r⟩ := trodAll_cons r
  obtain ⟨rfl, rfl, rfl⟩ := trodAll_nil r
  obtain ⟨o0, c0, x0, rfl, m0, l0⟩ := matrix_in (hok 0 22 v0 rfl rfl) h0
  obtain ⟨o1, c1, x1, rfl, m1, l1⟩ := row_in (hok 1 32 v1 rfl rfl) h1
  exact wide_law o0 c0 x0 o1 c1 x1 W m0 l0 m1

theorem said5 : Rows.AssignmentExtraColumnSaid :=
  OpenClaim.holds_of_wide 5 Try.f5 rfl rfl rfl rfl rfl rfl rfl ⟨rfl, rfl, rfl, rfl, rfl⟩ rfl rfl rfl rfl rfl (by kernel_rfl) Try.func5 (by kernel_rfl)
    (of_decide_eq_true (by kernel_rfl)) (by unfold Func.isWrapper; first | (rw [if_pos (by decide +kernel)]; kernel_rfl) | (rw [if_neg (by decide +kernel)]; exact ⟨rfl, rfl⟩))
    (fun os started H enc _ => lifted5 os started H enc)
#print axioms said5
end Go.Proofs.Ytalplekmbhemnaa
