/- For five nodes, three of them initial members, two nodes never commit different entries at the same index, and at most one node leads in each term. No condition. -/
import Derived.Test.YtcaokpglbolkcaaGreatR
import Derived.Test.YtcaokpglbolkcaaGreatO
namespace Go.Proofs.YtcaokpglbolkcaaGreat
open Go Go.Nf Go.ChangeShapes Go.WideShapes Go.RowKit

theorem lifted4 (os : Os) (started : os.Started) (H : Type) (enc : TypeId × Value → H) :
    ReturnsInHanded {} Tryz.checked os 4 .any (Rows.topOneLogSpec.pre6 enc Tryz.prog Tryz.f4 Rows.topOneLogRow.domain false) (Rows.topOneLogSpec.post enc Tryz.prog Tryz.f4 false true false false) := by
  refine lift_true (C := Tryz.checked) (ts := [22]) (tb := 4) own laidOut started (by kernel_rfl) Tryz.func4 (by kernel_rfl) (by kernel_rfl) (by kernel_rfl) (by kernel_rfl) rfl
    (fun ds h => by match ds, h with | [_], _ => exact ⟨rfl, rfl, rfl⟩)
    (ChangeSpec.witness6 (enc := enc) (C := Tryz.checked) false ⟨#[], #[.slice none 0 0], []⟩ 8 (by kernel_rfl) (by kernel_rfl) (by kernel_rfl) (by kernel_rfl)) ?_
  intro W args ds ps hok r
  obtain ⟨v0, vs0, d0, ds0, p0, q0, rfl, rfl, rfl, h0, r⟩ := trodAll_cons r
  obtain ⟨rfl, rfl, rfl⟩ := trodAll_nil r
  obtain ⟨o0, c0, x0, rfl, m0⟩ := turns_in (hok 0 22 v0 rfl rfl) h0
  exact law4_c W m0 fun b hb => hb

theorem closed4 : joinedFacts Tryz.checked.prog 4 Tryz.f4 Rows.topOneLogSpec Rows.topOneLogRow = true := by
  show joinedFacts Tryz.prog _ _ _ _ = true
  unfold joinedFacts
  rw [enters, lifts, makes]
  kernel_rfl

theorem said4 : Rows.TopOneLogSaid :=
  OpenClaim.holds_of_wide 4 Tryz.f4 rfl rfl rfl rfl rfl rfl rfl ⟨rfl, rfl, rfl, rfl, rfl⟩ rfl rfl rfl rfl rfl (by kernel_rfl) Tryz.func4 closed4
    (of_decide_eq_true (by kernel_rfl)) (by unfold Func.isWrapper; first | (rw [if_pos (by decide +kernel)]; kernel_rfl) | (rw [if_neg (by decide +kernel)]; exact ⟨rfl, rfl⟩))
    (fun os started H enc _ => lifted4 os started H enc)
#print axioms said4
end Go.Proofs.YtcaokpglbolkcaaGreat
