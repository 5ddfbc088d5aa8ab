/- For every group and list of heartbeats: a member's patience never falls, moves only by that member's heartbeat, and is the first patience doubled once for each false suspicion, up to the most (FailureDetectorTimeouts). No condition. -/
import Derived.Test.YthddcccffiofbaaLd
namespace Go.Proofs.Ythddcccffiofbaa
open Go Go.Nf Go.ChangeShapes Go.WideShapes Go.RowKit

theorem lifted6 (os : Os) (started : os.Started) (H : Type) (enc : TypeId × Value → H) :
    ReturnsInHanded {} Try.checked os 6 .any (Rows.failureDetectorTimeoutsSpec.pre6 enc Try.prog Try.f6 Rows.failureDetectorTimeoutsRow.domain false) (Rows.failureDetectorTimeoutsSpec.post enc Try.prog Try.f6 false true false false) := by
  refine lift_true (C := Try.checked) (ts := [23, 24]) (tb := 4) own laidOut started (by kernel_rfl) Try.func6 (by kernel_rfl) (by kernel_rfl) (by kernel_rfl) (by kernel_rfl) rfl
    (fun ds h => by match ds, h with | [_, _], _ => exact ⟨rfl, rfl, rfl⟩)
    (ChangeSpec.witness6 (enc := enc) (C := Try.checked) false ⟨#[], #[.agg #[.int .i64 0, .int .i64 0, .int .i64 0, .int .i64 0, .int .i64 0], .slice none 0 0], []⟩ 8 (by kernel_rfl) (by kernel_rfl) (by kernel_rfl) (by kernel_rfl)) ?_
  intro W args ds ps hok r
  obtain ⟨v0, vs0, d0, ds0, p0, q0, rfl, rfl, rfl, h0, r⟩ := trodAll_cons r
  obtain ⟨v1, vs1, d1, ds1, p1, q1, rfl, rfl, rfl, h1, r⟩ := trodAll_cons r
  obtain ⟨rfl, rfl, rfl⟩ := trodAll_nil r
  obtain ⟨s, a, pa, m, n, rfl⟩ := made_in (hok 0 23 v0 rfl rfl) h0
  obtain ⟨o, c, acts, rfl, hrd⟩ := acts_in (hok 1 24 v1 rfl rfl) h1
  exact timeouts_law s a pa m n o c acts W hrd

theorem said6 : Rows.FailureDetectorTimeoutsSaid :=
  OpenClaim.holds_of_wide 6 Try.f6 rfl rfl rfl rfl rfl rfl rfl ⟨rfl, rfl, rfl, rfl, rfl⟩ rfl rfl rfl rfl rfl (by kernel_rfl) Try.func6 (by kernel_rfl)
    (of_decide_eq_true (by kernel_rfl)) (by unfold Func.isWrapper; first | (rw [if_pos (by decide +kernel)]; kernel_rfl) | (rw [if_neg (by decide +kernel)]; exact ⟨rfl, rfl⟩))
    (fun os started H enc _ => lifted6 os started H enc)
#print axioms said6
end Go.Proofs.Ythddcccffiofbaa
