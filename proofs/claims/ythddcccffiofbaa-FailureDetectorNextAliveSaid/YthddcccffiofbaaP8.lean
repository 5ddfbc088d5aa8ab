/- For every group, list of heartbeats, member and time: NextAlive gives the first member behind the given one that is not suspected, or -1 where the given one is no member (FailureDetectorNextAlive). No condition. -/
import Derived.Test.YthddcccffiofbaaLe
namespace Go.Proofs.Ythddcccffiofbaa
open Go Go.Nf Go.ChangeShapes Go.WideShapes Go.RowKit

theorem lifted8 (os : Os) (started : os.Started) (H : Type) (enc : TypeId × Value → H) :
    ReturnsInHanded {} Try.checked os 8 .any (Rows.failureDetectorNextAliveSpec.pre6 enc Try.prog Try.f8 Rows.failureDetectorNextAliveRow.domain false) (Rows.failureDetectorNextAliveSpec.post enc Try.prog Try.f8 false true false false) := by
  refine lift_true (C := Try.checked) (ts := [23, 24, 50]) (tb := 4) own laidOut started (by kernel_rfl) Try.func8 (by kernel_rfl) (by kernel_rfl) (by kernel_rfl) (by kernel_rfl) rfl
    (fun ds h => by match ds, h with | [_, _, _], _ => exact ⟨rfl, rfl, rfl⟩)
    (ChangeSpec.witness6 (enc := enc) (C := Try.checked) false ⟨#[], #[.agg #[.int .i64 0, .int .i64 0, .int .i64 0, .int .i64 0, .int .i64 0], .slice none 0 0, .agg #[.int .i64 0, .int .i64 0]], []⟩ 8 (by kernel_rfl) (by kernel_rfl) (by kernel_rfl) (by kernel_rfl)) ?_
  intro W args ds ps hok r
  obtain ⟨v0, vs0, d0, ds0, p0, q0, rfl, rfl, rfl, h0, r⟩ := trodAll_cons r
  obtain ⟨v1, vs1, d1, ds1, p1, q1, rfl, rfl, rfl, h1, r⟩ := trodAll_cons r
  obtain ⟨v2, vs2, d2, ds2, p2, q2, rfl, rfl, rfl, h2, r⟩ := trodAll_cons r
  obtain ⟨rfl, rfl, rfl⟩ := trodAll_nil r
  obtain ⟨s, a, pa, m, n, rfl⟩ := made_in (hok 0 23 v0 rfl rfl) h0
  obtain ⟨o, c, acts, rfl, hrd⟩ := acts_in (hok 1 24 v1 rfl rfl) h1
  obtain ⟨y0, y1, rfl⟩ := pair_in (hok 2 50 v2 rfl rfl) h2
  exact nextAlive_law s a pa m n o c acts y0 y1 W hrd

theorem said8 : Rows.FailureDetectorNextAliveSaid :=
  OpenClaim.holds_of_wide 8 Try.f8 rfl rfl rfl rfl rfl rfl rfl ⟨rfl, rfl, rfl, rfl, rfl⟩ rfl rfl rfl rfl rfl (by kernel_rfl) Try.func8 (by kernel_rfl)
    (of_decide_eq_true (by kernel_rfl)) (by unfold Func.isWrapper; first | (rw [if_pos (by decide +kernel)]; kernel_rfl) | (rw [if_neg (by decide +kernel)]; exact ⟨rfl, rfl⟩))
    (fun os started H enc _ => lifted8 os started H enc)
#print axioms said8
end Go.Proofs.Ythddcccffiofbaa
