/- An interview is not affected by changes of the protocol passed to it, or of the values it returned. No condition. -/
import Derived.Test.YtbaacpfjecbbgaaR
import Derived.Test.YtbaacpfjecbbgaaLd
import Derived.Test.YtbaacpfjecbbgaaO
namespace Go.Proofs.Ytbaacpfjecbbgaa
open Go Go.Nf Go.ChangeShapes Go.WideShapes Go.RowKit

theorem lifted7 (os : Os) (started : os.Started) (H : Type) (enc : TypeId × Value → H) :
    ReturnsInHanded {} Try.checked os 7 .any (Rows.interviewCopiesSpec.pre6 enc Try.prog Try.f7 Rows.interviewCopiesRow.domain false) (Rows.interviewCopiesSpec.post enc Try.prog Try.f7 false true false false) := by
  refine lift_true (C := Try.checked) (ts := [24, 48]) (tb := 4) own laidOut started (by kernel_rfl) Try.func7 (by kernel_rfl) (by kernel_rfl) (by kernel_rfl) (by kernel_rfl) rfl
    (fun ds h => by match ds, h with | [_, _], _ => exact ⟨rfl, rfl, rfl⟩)
    (ChangeSpec.witness6 (enc := enc) (C := Try.checked) false ⟨#[], #[.agg #[.string (ByteArray.mk #[]), .int .i64 0, .slice none 0 0], .slice none 0 0], []⟩ 8 (by kernel_rfl) (by kernel_rfl) (by kernel_rfl) (by kernel_rfl)) ?_
  intro W args ds ps hok r
  obtain ⟨v0, vs0, d0, ds0, p0, q0, rfl, rfl, rfl, h0, r⟩ := trodAll_cons r
  obtain ⟨v1, vs1, d1, ds1, p1, q1, rfl, rfl, rfl, h1, r⟩ := trodAll_cons r
  obtain ⟨rfl, rfl, rfl⟩ := trodAll_nil r
  obtain ⟨o0, c0, x0, rfl, m0, f0⟩ := protocol_in (hok 0 24 v0 rfl rfl) h0
  obtain ⟨o1, c1, x1, rfl, m1, l1, k1⟩ := row_in (hok 1 48 v1 rfl rfl) h1
  exact law7_c o0 o1 c0 c1 x0 x1 f0 k1 l1 W m0 m1

theorem closed7 : joinedFacts Try.checked.prog 7 Try.f7 Rows.interviewCopiesSpec Rows.interviewCopiesRow = true := by
  show joinedFacts Try.prog _ _ _ _ = true
  unfold joinedFacts
  rw [enters, lifts, makes]
  kernel_rfl

theorem said7 : Rows.InterviewCopiesSaid :=
  OpenClaim.holds_of_wide 7 Try.f7 rfl rfl rfl rfl rfl rfl rfl ⟨rfl, rfl, rfl, rfl, rfl⟩ rfl rfl rfl rfl rfl (by kernel_rfl) Try.func7 closed7
    (of_decide_eq_true (by kernel_rfl)) (by unfold Func.isWrapper; first | (rw [if_pos (by decide +kernel)]; kernel_rfl) | (rw [if_neg (by decide +kernel)]; exact ⟨rfl, rfl⟩))
    (fun os started H enc _ => lifted7 os started H enc)
#print axioms said7
end Go.Proofs.Ytbaacpfjecbbgaa
