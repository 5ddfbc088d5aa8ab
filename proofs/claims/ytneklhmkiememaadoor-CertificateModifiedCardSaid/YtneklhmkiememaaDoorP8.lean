/- A changed certificate is accepted only if the specification says so. No condition. -/
import Derived.Test.YtneklhmkiememaaDoorXr
import Derived.Test.YtneklhmkiememaaDoorO
import Derived.Test.YtneklhmkiememaaDoorCards
import Derived.Test.YtneklhmkiememaaDoorTie
namespace Go.Proofs.YtneklhmkiememaaDoor
open Go Go.Nf Go.ChangeShapes Go.WideShapes Go.RowKit

theorem lifted8 (os : Os) (started : os.Started) (H : Type) (enc : TypeId × Value → H) :
    ReturnsInHanded {} Tryd.checked os 8 .any (fun w args => (Rows.certificateModifiedSpec.pre enc Tryd.prog Tryd.f8 [] false w args ∧ laidMetH Tryd.prog laid3 w) ∧ sizedMet enc Tryd.prog Tryd.f8 (OpenSpec.ofChange Rows.certificateModifiedSpec) false w args) (Rows.certificateModifiedSpec.post enc Tryd.prog Tryd.f8 false true false false) := by
  refine lift_laidX (C := Tryd.checked) (ts := [22, 23, 52]) (tb := 4) (X := fun w _ => laidMetH Tryd.prog laid3 w) (fun _ _ _ hh h => h.of_heap hh) own laidOut started (by kernel_rfl) Tryd.func8 (by kernel_rfl) (by kernel_rfl) (by kernel_rfl) (by kernel_rfl) rfl
    (fun ds h => by match ds, h with | [_, _, _], _ => exact ⟨rfl, rfl, rfl⟩)
    (ChangeSpec.witness_shaped (enc := enc) (C := Tryd.checked) (os := os) (X := fun w _ => laidMetH Tryd.prog laid3 w) false (World.doorLaid Tryd.prog 400 os) #[.slice none 0 0, .slice none 0 0, .agg #[.int .i64 0, .int .i64 0, .int .i64 0]] 8 rfl (World.shaped_of_RefB (by kernel_rfl) (by kernel_rfl)) (by kernel_rfl) (by kernel_rfl) (by kernel_rfl) (door_met os _)) ?_
  intro W args ds ps hok rch r hx
  obtain ⟨v0, vs0, d0, ds0, p0, q0, rfl, rfl, rfl, h0, r⟩ := trodAll_cons r
  obtain ⟨v1, vs1, d1, ds1, p1, q1, rfl, rfl, rfl, h1, r⟩ := trodAll_cons r
  obtain ⟨v2, vs2, d2, ds2, p2, q2, rfl, rfl, rfl, h2, r⟩ := trodAll_cons r
  obtain ⟨rfl, rfl, rfl⟩ := trodAll_nil r
  obtain ⟨o0, c0, x0, rfl, m0⟩ := mat_in (hok 0 22 v0 rfl rfl) h0
  obtain ⟨o1, c1, x1, rfl, m1⟩ := ints_in (hok 1 23 v1 rfl rfl) h1
  obtain ⟨xa, xb, xc, rfl⟩ := spoil_in (hok 2 52 v2 rfl rfl) h2
  exact law8_c o0 o1 c0 c1 x0 x1 xa xb xc W (awakeOk W (tab_of hx)) m0 m1

theorem closed8 : joinedFacts Tryd.checked.prog 8 Tryd.f8 Rows.certificateModifiedSpec Rows.certificateModifiedRow = true := by
  show joinedFacts Tryd.prog _ _ _ _ = true
  unfold joinedFacts
  rw [enters, lifts, makes]
  kernel_rfl

theorem row8 : Rows.CertificateModifiedSaid :=
  OpenClaim.holds_of_wide 8 Tryd.f8 rfl rfl rfl rfl rfl rfl rfl ⟨rfl, rfl, rfl, rfl, rfl⟩ rfl rfl rfl rfl rfl (by kernel_rfl) Tryd.func8 closed8
    (of_decide_eq_true (by kernel_rfl)) (by unfold Func.isWrapper; first | (rw [if_pos (by decide +kernel)]; kernel_rfl) | (rw [if_neg (by decide +kernel)]; exact ⟨rfl, rfl⟩))
    (fun os started H enc _ => lifted8 os started H enc)
theorem said8 : Rows.CertificateModifiedCardSaid :=
  Claim7.holds_tied_plain_at .later [] [.data, .data, .data] true (true, "3b24e310ab752fe8e9f95a014410dd49984a482fe6d5f697129e1d7df81b741a") false
    row8 (fun _ h => by cases h) (by kernel_rfl) (fun _ h => by cases h) certificateModified_row_tie rfl ⟨rfl, rfl⟩ (by kernel_rfl) rfl
    (fun f fn hf hfn => by
      obtain rfl : f = 8 := Option.some.inj ((show Tryd.prog.funcNamed "samaritan/samaritanlaw37.CertificateModified" = some 8 by kernel_rfl).symm.trans hf) |>.symm
      obtain rfl : fn = Tryd.f8 := (Option.some.inj (Tryd.func8.symm.trans hfn)).symm
      exact ⟨by kernel_rfl, fun j t ht => by
        have hp : Tryd.f8.params = #[22, 23, 52] := by kernel_rfl
        rw [hp] at ht
        have hm : t ∈ [22, 23, 52] := by simpa using Array.mem_of_getElem? ht
        have hall : ([22, 23, 52].all fun u => !Tryd.prog.wantsStandIn u) = true := by kernel_rfl
        exact (show Tryd.prog.wantsStandIn t = false by simpa using List.all_eq_true.1 hall t hm)⟩)
    (by kernel_rfl)
#print axioms said8
end Go.Proofs.YtneklhmkiememaaDoor
