/- The urgency range only narrows, and an interview finishes within it after at most the number of answers given by layer 13. No condition. -/
import Derived.Test.YtbaacpfjecbbgaaR2
import Derived.Test.YtbaacpfjecbbgaaLc
import Derived.Test.YtbaacpfjecbbgaaO
namespace Go.Proofs.Ytbaacpfjecbbgaa
open Go Go.Nf Go.ChangeShapes Go.WideShapes Go.RowKit

theorem lifted3 (os : Os) (started : os.Started) (H : Type) (enc : TypeId × Value → H) :
    ReturnsInHanded {} Try.checked os 3 .any (Rows.interviewNarrowsSpec.pre6 enc Try.prog Try.f3 Rows.interviewNarrowsRow.domain false) (Rows.interviewNarrowsSpec.post enc Try.prog Try.f3 false true false false) := by
  refine lift_true (C := Try.checked) (ts := [24, 25]) (tb := 4) own laidOut started (by kernel_rfl) Try.func3 (by kernel_rfl) (by kernel_rfl) (by kernel_rfl) (by kernel_rfl) rfl
    (fun ds h => by match ds, h with | [_, _], _ => exact ⟨rfl, rfl, rfl⟩)
    (ChangeSpec.witness6 (enc := enc) (C := Try.checked) false ⟨#[], #[.agg #[.string (ByteArray.mk #[]), .int .i64 0, .slice none 0 0], .slice none 0 0], []⟩ 8 (by kernel_rfl) (by kernel_rfl) (by kernel_rfl) (by kernel_rfl)) ?_
  intro W args ds ps hok r
  obtain ⟨v0, vs0, d0, ds0, p0, q0, rfl, rfl, rfl, h0, r⟩ := trodAll_cons r
  obtain ⟨v1, vs1, d1, ds1, p1, q1, rfl, rfl, rfl, h1, r⟩ := trodAll_cons r
  obtain ⟨rfl, rfl, rfl⟩ := trodAll_nil r
  obtain ⟨o0, c0, x0, rfl, m0, f0⟩ := protocol_in (hok 0 24 v0 rfl rfl) h0
  obtain ⟨o1, c1, x1, rfl, m1, l1, k1⟩ := bytes_in (hok 1 25 v1 rfl rfl) h1
  exact law3_c o0 o1 c0 c1 x0 x1 f0 l1 k1 W m0 m1

theorem closed3 : joinedFacts Try.checked.prog 3 Try.f3 Rows.interviewNarrowsSpec Rows.interviewNarrowsRow = true := by
  show joinedFacts Try.prog _ _ _ _ = true
  unfold joinedFacts
  rw [enters, lifts, makes]
  kernel_rfl

theorem said3 : Rows.InterviewNarrowsSaid :=
  OpenClaim.holds_of_wide 3 Try.f3 rfl rfl rfl rfl rfl rfl rfl ⟨rfl, rfl, rfl, rfl, rfl⟩ rfl rfl rfl rfl rfl (by kernel_rfl) Try.func3 closed3
    (of_decide_eq_true (by kernel_rfl)) (by unfold Func.isWrapper; first | (rw [if_pos (by decide +kernel)]; kernel_rfl) | (rw [if_neg (by decide +kernel)]; exact ⟨rfl, rfl⟩))
    (fun os started H enc _ => lifted3 os started H enc)
#print axioms said3
end Go.Proofs.Ytbaacpfjecbbgaa
