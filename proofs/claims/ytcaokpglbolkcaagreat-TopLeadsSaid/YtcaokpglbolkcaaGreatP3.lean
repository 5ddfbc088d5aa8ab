/- After any loss, delay, duplication and crashes, once all packets are delivered, one node becomes the leader, all others know it, and an entry that is proposed to it is committed by all. No condition. -/
import Derived.Test.YtcaokpglbolkcaaGreatR2
import Derived.Test.YtcaokpglbolkcaaGreatO
namespace Go.Proofs.YtcaokpglbolkcaaGreat
open Go Go.Nf Go.ChangeShapes Go.WideShapes Go.RowKit
theorem lifted3 (os : Os) (started : os.Started) (H : Type) (enc : TypeId × Value → H) :
  ReturnsInHanded {} Tryz.checked os 3 .any (Rows.topLeadsSpec.pre6 enc Tryz.prog Tryz.f3 Rows.topLeadsRow.domain false) (Rows.topLeadsSpec.post enc Tryz.prog Tryz.f3 false true false false) := by
 refine lift_true (C := Tryz.checked) (ts := [22]) (tb := 4) ownK laidOut started (by kernel_rfl) Tryz.func3 (by kernel_rfl) (by kernel_rfl) (by kernel_rfl) (by kernel_rfl) rfl
  (fun ds h => by match ds, h with | [_], _ => exact ⟨rfl, rfl, rfl⟩)
  (ChangeSpec.witness6 (enc := enc) (C := Tryz.checked) false ⟨#[], #[.slice none 0 0], []⟩ 8 (by kernel_rfl) (by kernel_rfl) (by kernel_rfl) (by kernel_rfl)) ?_
 intro W args ds ps hok r
 obtain ⟨v0, vs0, d0, ds0, p0, q0, rfl, rfl, rfl, h0, r⟩ := trodAll_cons r
 obtain ⟨rfl, rfl, rfl⟩ := trodAll_nil r
 obtain ⟨o0, c0, x0, rfl, m0⟩ := turns_in (hok 0 22 v0 rfl rfl) h0
 exact law3_c W m0 fun b hb => hb
theorem closed3 : joinedFacts Tryz.checked.prog 3 Tryz.f3 Rows.topLeadsSpec Rows.topLeadsRow = true := by
 show joinedFacts Tryz.prog _ _ _ _ = true
 unfold joinedFacts
 rw [enters, lifts, makes]
 kernel_rfl
theorem said3 : Rows.TopLeadsSaid :=
 OpenClaim.holds_of_wide 3 Tryz.f3 rfl rfl rfl rfl rfl rfl rfl ⟨rfl, rfl, rfl, rfl, rfl⟩ rfl rfl rfl rfl rfl (by kernel_rfl) Tryz.func3 closed3
  (of_decide_eq_true (by kernel_rfl)) (by unfold Func.isWrapper; first | (rw [if_pos (by decide +kernel)]; kernel_rfl) | (rw [if_neg (by decide +kernel)]; exact ⟨rfl, rfl⟩))
  (fun os started H enc _ => lifted3 os started H enc)
#print axioms said3
end Go.Proofs.YtcaokpglbolkcaaGreat
