/- TopRule: the most urgent requirements are served best. No condition. -/
import Derived.Test.YtcaokpglbolkcaaR
import Derived.Test.YtcaokpglbolkcaaO
namespace Go.Proofs.Ytcaokpglbolkcaa
open Go Go.Nf Go.ChangeShapes Go.WideShapes Go.RowKit

theorem lifted3 (os : Os) (started : os.Started) (H : Type) (enc : TypeId × Value → H) :
    ReturnsInHanded {} Try.checked os 3 .any (Rows.topRuleSpec.pre6 enc Try.prog Try.f3 Rows.topRuleRow.domain false) (Rows.topRuleSpec.post enc Try.prog Try.f3 false true false false) := by
  refine lift_true (C := Try.checked) (ts := [22, 23, 24]) (tb := 4) own laidOut started (by kernel_rfl) Try.func3 (by kernel_rfl) (by kernel_rfl) (by kernel_rfl) (by kernel_rfl) rfl
    (fun ds h => by match ds, h with | [_, _, _], _ => exact ⟨rfl, rfl, rfl⟩)
    (ChangeSpec.witness6 (enc := enc) (C := Try.checked) false ⟨#[], #[.slice none 0 0, .slice none 0 0, .slice none 0 0], []⟩ 8 (by kernel_rfl) (by kernel_rfl) (by kernel_rfl) (by kernel_rfl)) ?_
  intro W args ds ps hok r
  obtain ⟨v0, vs0, d0, ds0, p0, q0, rfl, rfl, rfl, h0, r⟩ := trodAll_cons r
  obtain ⟨v1, vs1, d1, ds1, p1, q1, rfl, rfl, rfl, h1, r⟩ := trodAll_cons r
  obtain ⟨v2, vs2, d2, ds2, p2, q2, rfl, rfl, rfl, h2, r⟩ := trodAll_cons r
  obtain ⟨rfl, rfl, rfl⟩ := trodAll_nil r
  obtain ⟨o0, c0, x0, rfl, m0⟩ := edges_in (hok 0 22 v0 rfl rfl) h0
  obtain ⟨o1, c1, x1, rfl, m1⟩ := incs_in (hok 1 23 v1 rfl rfl) h1
  obtain ⟨o2, c2, x2, rfl, m2⟩ := units_in (hok 2 24 v2 rfl rfl) h2
  exact law3_c o0 c0 x0 o1 c1 x1 o2 c2 x2 W m0 m1 m2

theorem closed3 : joinedFacts Try.checked.prog 3 Try.f3 Rows.topRuleSpec Rows.topRuleRow = true := by
  show joinedFacts Try.prog _ _ _ _ = true
  unfold joinedFacts
  rw [enters, lifts, makes]
  kernel_rfl

theorem said3 : Rows.TopRuleSaid :=
  OpenClaim.holds_of_wide 3 Try.f3 rfl rfl rfl rfl rfl rfl rfl ⟨rfl, rfl, rfl, rfl, rfl⟩ rfl rfl rfl rfl rfl (by kernel_rfl) Try.func3 closed3
    (of_decide_eq_true (by kernel_rfl)) (by unfold Func.isWrapper; first | (rw [if_pos (by decide +kernel)]; kernel_rfl) | (rw [if_neg (by decide +kernel)]; exact ⟨rfl, rfl⟩))
    (fun os started H enc _ => lifted3 os started H enc)
#print axioms said3
end Go.Proofs.Ytcaokpglbolkcaa
