/- Undoing any number of answers gives the state after the remaining ones. No condition. -/
import Derived.Test.YtbaacpfjecbbgaaR
import Derived.Test.YtbaacpfjecbbgaaLa
import Derived.Test.YtbaacpfjecbbgaaO
namespace Go.Proofs.Ytbaacpfjecbbgaa
open Go Go.Nf Go.ChangeShapes Go.WideShapes Go.RowKit

theorem lifted8 (os : Os) (started : os.Started) (H : Type) (enc : TypeId × Value → H) :
    ReturnsInHanded {} Try.checked os 8 .any (Rows.interviewUndoSpec.pre6 enc Try.prog Try.f8 Rows.interviewUndoRow.domain false) (Rows.interviewUndoSpec.post enc Try.prog Try.f8 false true false false) := by
  refine lift_true (C := Try.checked) (ts := [24, 48, 5]) (tb := 4) own laidOut started (by kernel_rfl) Try.func8 (by kernel_rfl) (by kernel_rfl) (by kernel_rfl) (by kernel_rfl) rfl
    (fun ds h => by match ds, h with | [_, _, _], _ => exact ⟨rfl, rfl, rfl⟩)
    (ChangeSpec.witness6 (enc := enc) (C := Try.checked) false ⟨#[], #[.agg #[.string (ByteArray.mk #[]), .int .i64 0, .slice none 0 0], .slice none 0 0, .int .u8 0], []⟩ 8 (by kernel_rfl) (by kernel_rfl) (by kernel_rfl) (by kernel_rfl)) ?_
  intro W args ds ps hok r
  obtain ⟨v0, vs0, d0, ds0, p0, q0, rfl, rfl, rfl, h0, r⟩ := trodAll_cons r
  obtain ⟨v1, vs1, d1, ds1, p1, q1, rfl, rfl, rfl, h1, r⟩ := trodAll_cons r
  obtain ⟨v2, vs2, d2, ds2, p2, q2, rfl, rfl, rfl, h2, r⟩ := trodAll_cons r
  obtain ⟨rfl, rfl, rfl⟩ := trodAll_nil r
  obtain ⟨o0, c0, x0, rfl, m0, f0⟩ := protocol_in (hok 0 24 v0 rfl rfl) h0
  obtain ⟨o1, c1, x1, rfl, m1, l1, k1⟩ := row_in (hok 1 48 v1 rfl rfl) h1
  obtain ⟨x2, rfl, m2⟩ := u8_in (hok 2 5 v2 rfl rfl)
  exact law8_c o0 o1 c0 c1 x0 x1 x2 f0 k1 l1 m2 W m0 m1

theorem closed8 : joinedFacts Try.checked.prog 8 Try.f8 Rows.interviewUndoSpec Rows.interviewUndoRow = true := by
  show joinedFacts Try.prog _ _ _ _ = true
  unfold joinedFacts
  rw [enters, lifts, makes]
  kernel_rfl

theorem said8 : Rows.InterviewUndoSaid :=
  OpenClaim.holds_of_wide 8 Try.f8 rfl rfl rfl rfl rfl rfl rfl ⟨rfl, rfl, rfl, rfl, rfl⟩ rfl rfl rfl rfl rfl (by kernel_rfl) Try.func8 closed8
    (of_decide_eq_true (by kernel_rfl)) (by unfold Func.isWrapper; first | (rw [if_pos (by decide +kernel)]; kernel_rfl) | (rw [if_neg (by decide +kernel)]; exact ⟨rfl, rfl⟩))
    (fun os started H enc _ => lifted8 os started H enc)
#print axioms said8
end Go.Proofs.Ytbaacpfjecbbgaa
