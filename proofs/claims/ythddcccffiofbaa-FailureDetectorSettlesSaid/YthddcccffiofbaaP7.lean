/- For every group with at least two members and heartbeats that come within a bound: the member is suspected wrongly no more often than the patience must double to reach the bound (FailureDetectorSettles). No condition. -/
import Derived.Test.YthddcccffiofbaaLc
namespace Go.Proofs.Ythddcccffiofbaa
open Go Go.Nf Go.ChangeShapes Go.WideShapes Go.RowKit

theorem lifted7 (os : Os) (started : os.Started) (H : Type) (enc : TypeId × Value → H) :
    ReturnsInHanded {} Try.checked os 7 .any (Rows.failureDetectorSettlesSpec.pre6 enc Try.prog Try.f7 Rows.failureDetectorSettlesRow.domain false) (Rows.failureDetectorSettlesSpec.post enc Try.prog Try.f7 false true false false) := by
  refine lift_true (C := Try.checked) (ts := [23, 2, 41]) (tb := 4) own laidOut started (by kernel_rfl) Try.func7 (by kernel_rfl) (by kernel_rfl) (by kernel_rfl) (by kernel_rfl) rfl
    (fun ds h => by match ds, h with | [_, _, _], _ => exact ⟨rfl, rfl, rfl⟩)
    (ChangeSpec.witness6 (enc := enc) (C := Try.checked) false ⟨#[], #[.agg #[.int .i64 0, .int .i64 0, .int .i64 0, .int .i64 0, .int .i64 0], .int .i64 0, .slice none 0 0], []⟩ 8 (by kernel_rfl) (by kernel_rfl) (by kernel_rfl) (by kernel_rfl)) ?_
  intro W args ds ps hok r
  obtain ⟨v0, vs0, d0, ds0, p0, q0, rfl, rfl, rfl, h0, r⟩ := trodAll_cons r
  obtain ⟨v1, vs1, d1, ds1, p1, q1, rfl, rfl, rfl, h1, r⟩ := trodAll_cons r
  obtain ⟨v2, vs2, d2, ds2, p2, q2, rfl, rfl, rfl, h2, r⟩ := trodAll_cons r
  obtain ⟨rfl, rfl, rfl⟩ := trodAll_nil r
  obtain ⟨s, a, pa, m, n, rfl⟩ := made_in (hok 0 23 v0 rfl rfl) h0
  obtain ⟨x, rfl⟩ := int_in (d := d1) (p := p1) (hok 1 2 v1 rfl rfl)
  obtain ⟨o, c, gaps, rfl, hrd, hg⟩ := gaps_in (hok 2 41 v2 rfl rfl) h2
  exact settles_law s a pa m n x o c gaps W hrd hg

theorem said7 : Rows.FailureDetectorSettlesSaid :=
  OpenClaim.holds_of_wide 7 Try.f7 rfl rfl rfl rfl rfl rfl rfl ⟨rfl, rfl, rfl, rfl, rfl⟩ rfl rfl rfl rfl rfl (by kernel_rfl) Try.func7 (by kernel_rfl)
    (of_decide_eq_true (by kernel_rfl)) (by unfold Func.isWrapper; first | (rw [if_pos (by decide +kernel)]; kernel_rfl) | (rw [if_neg (by decide +kernel)]; exact ⟨rfl, rfl⟩))
    (fun os started H enc _ => lifted7 os started H enc)
#print axioms said7
end Go.Proofs.Ythddcccffiofbaa
