/-
  DERIVED. GIVEN WITH THE SEED: THE CARDS: each row of YtneklhmkiememaaDoorRows.lean that lists a variable, with what it lists TIED to the program's text (the seventh form; the later family's looks); each row that meets fmt, with fmt's text TOLD by the authors' own Lean function (tested against real Go, not proved from fmt's source: count such statements apart). THE CARD IS WHAT COUNTS. Prove the row's statement (the work); the ties are given (YtneklhmkiememaaDoorTie.lean); close each card by the builder's one call (the guide's Derived/Test/ToyasCard.lean, 'card_holds'). Laid BY PROGRAM, IN A SANDBOX (cutbox-door.mjs). By AI agents, Wed Nov 11 2026. No macro, syntax, notation, axiom, sorry.
-/
import Derived.Test.YtneklhmkiememaaDoorRows
import GoSem.ClaimSeven
namespace Go.Proofs.YtneklhmkiememaaDoor
namespace Rows

/-- THE TIED CARD OF 'samaritanlaw37.CertificateCertify'. -/
def certificateCertifyCard : Claim7 := { stood := { row := certificateCertifyRow, standIns := [], harness := (true, "3b24e310ab752fe8e9f95a014410dd49984a482fe6d5f697129e1d7df81b741a"), looks := false }, kinds := [], alts := [], laidByText := true, laidKinds := [.data, .data, .data], laidTests := true, laidLooks := .later }
def CertificateCertifyCardSaid : Prop := Claim7.holds Tryd.pinned (.plain (OpenSpec.ofChange certificateCertifySpec)) certificateCertifyCard

/-- THE TIED CARD OF 'samaritanlaw37.CertificateVerify'. -/
def certificateVerifyCard : Claim7 := { stood := { row := certificateVerifyRow, standIns := [], harness := (true, "3b24e310ab752fe8e9f95a014410dd49984a482fe6d5f697129e1d7df81b741a"), looks := false }, kinds := [], alts := [], laidByText := true, laidKinds := [.data, .data, .data], laidTests := true, laidLooks := .later }
def CertificateVerifyCardSaid : Prop := Claim7.holds Tryd.pinned (.plain (OpenSpec.ofChange certificateVerifySpec)) certificateVerifyCard

/-- THE TIED CARD OF 'samaritanlaw37.CertificateSound'. -/
def certificateSoundCard : Claim7 := { stood := { row := certificateSoundRow, standIns := [], harness := (true, "3b24e310ab752fe8e9f95a014410dd49984a482fe6d5f697129e1d7df81b741a"), looks := false }, kinds := [], alts := [], laidByText := true, laidKinds := [.data, .data, .data], laidTests := true, laidLooks := .later }
def CertificateSoundCardSaid : Prop := Claim7.holds Tryd.pinned (.plain (OpenSpec.ofChange certificateSoundSpec)) certificateSoundCard

/-- THE TIED CARD OF 'samaritanlaw37.CertificateOptimal'. -/
def certificateOptimalCard : Claim7 := { stood := { row := certificateOptimalRow, standIns := [], harness := (true, "3b24e310ab752fe8e9f95a014410dd49984a482fe6d5f697129e1d7df81b741a"), looks := false }, kinds := [], alts := [], laidByText := true, laidKinds := [.data, .data, .data], laidTests := true, laidLooks := .later }
def CertificateOptimalCardSaid : Prop := Claim7.holds Tryd.pinned (.plain (OpenSpec.ofChange certificateOptimalSpec)) certificateOptimalCard

/-- THE TIED CARD OF 'samaritanlaw37.CertificateFormat'. -/
def certificateFormatCard : Claim7 := { stood := { row := certificateFormatRow, standIns := [], harness := (true, "3b24e310ab752fe8e9f95a014410dd49984a482fe6d5f697129e1d7df81b741a"), looks := false }, kinds := [], alts := [], laidByText := true, laidKinds := [.data, .data, .data], laidTests := true, laidLooks := .later }
def CertificateFormatCardSaid : Prop := Claim7.holds Tryd.pinned (.plain (OpenSpec.ofChange certificateFormatSpec)) certificateFormatCard

/-- THE TIED CARD OF 'samaritanlaw37.CertificateModified'. -/
def certificateModifiedCard : Claim7 := { stood := { row := certificateModifiedRow, standIns := [], harness := (true, "3b24e310ab752fe8e9f95a014410dd49984a482fe6d5f697129e1d7df81b741a"), looks := false }, kinds := [], alts := [], laidByText := true, laidKinds := [.data, .data, .data], laidTests := true, laidLooks := .later }
def CertificateModifiedCardSaid : Prop := Claim7.holds Tryd.pinned (.plain (OpenSpec.ofChange certificateModifiedSpec)) certificateModifiedCard

/-- THE SECOND FORM's CARD OF 'samaritanlaw37.CertificateCertify'. -/
def certificateCertifyUptoCard : Claim7 := { stood := { row := certificateCertifyUptoRow, standIns := [], harness := (true, "3b24e310ab752fe8e9f95a014410dd49984a482fe6d5f697129e1d7df81b741a"), looks := false }, kinds := [], alts := [], laidByText := true, laidKinds := [.data, .data, .data], laidTests := true, laidLooks := .later }
def CertificateCertifyUptoCardSaid : Prop := Claim7.holds Tryd.pinned (.plain (OpenSpec.upto certificateCertifySpec)) certificateCertifyUptoCard

/-- THE SECOND FORM's CARD OF 'samaritanlaw37.CertificateVerify'. -/
def certificateVerifyUptoCard : Claim7 := { stood := { row := certificateVerifyUptoRow, standIns := [], harness := (true, "3b24e310ab752fe8e9f95a014410dd49984a482fe6d5f697129e1d7df81b741a"), looks := false }, kinds := [], alts := [], laidByText := true, laidKinds := [.data, .data, .data], laidTests := true, laidLooks := .later }
def CertificateVerifyUptoCardSaid : Prop := Claim7.holds Tryd.pinned (.plain (OpenSpec.upto certificateVerifySpec)) certificateVerifyUptoCard

/-- THE SECOND FORM's CARD OF 'samaritanlaw37.CertificateSound'. -/
def certificateSoundUptoCard : Claim7 := { stood := { row := certificateSoundUptoRow, standIns := [], harness := (true, "3b24e310ab752fe8e9f95a014410dd49984a482fe6d5f697129e1d7df81b741a"), looks := false }, kinds := [], alts := [], laidByText := true, laidKinds := [.data, .data, .data], laidTests := true, laidLooks := .later }
def CertificateSoundUptoCardSaid : Prop := Claim7.holds Tryd.pinned (.plain (OpenSpec.upto certificateSoundSpec)) certificateSoundUptoCard

/-- THE SECOND FORM's CARD OF 'samaritanlaw37.CertificateOptimal'. -/
def certificateOptimalUptoCard : Claim7 := { stood := { row := certificateOptimalUptoRow, standIns := [], harness := (true, "3b24e310ab752fe8e9f95a014410dd49984a482fe6d5f697129e1d7df81b741a"), looks := false }, kinds := [], alts := [], laidByText := true, laidKinds := [.data, .data, .data], laidTests := true, laidLooks := .later }
def CertificateOptimalUptoCardSaid : Prop := Claim7.holds Tryd.pinned (.plain (OpenSpec.upto certificateOptimalSpec)) certificateOptimalUptoCard

/-- THE SECOND FORM's CARD OF 'samaritanlaw37.CertificateFormat'. -/
def certificateFormatUptoCard : Claim7 := { stood := { row := certificateFormatUptoRow, standIns := [], harness := (true, "3b24e310ab752fe8e9f95a014410dd49984a482fe6d5f697129e1d7df81b741a"), looks := false }, kinds := [], alts := [], laidByText := true, laidKinds := [.data, .data, .data], laidTests := true, laidLooks := .later }
def CertificateFormatUptoCardSaid : Prop := Claim7.holds Tryd.pinned (.plain (OpenSpec.upto certificateFormatSpec)) certificateFormatUptoCard

/-- THE SECOND FORM's CARD OF 'samaritanlaw37.CertificateModified'. -/
def certificateModifiedUptoCard : Claim7 := { stood := { row := certificateModifiedUptoRow, standIns := [], harness := (true, "3b24e310ab752fe8e9f95a014410dd49984a482fe6d5f697129e1d7df81b741a"), looks := false }, kinds := [], alts := [], laidByText := true, laidKinds := [.data, .data, .data], laidTests := true, laidLooks := .later }
def CertificateModifiedUptoCardSaid : Prop := Claim7.holds Tryd.pinned (.plain (OpenSpec.upto certificateModifiedSpec)) certificateModifiedUptoCard
end Rows
end Go.Proofs.YtneklhmkiememaaDoor
