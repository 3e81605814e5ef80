/-
  DERIVED. GIVEN WITH THE SEED: THE CARDS: each row of YtpemoeincepilaaDoorRows.lean that lists a variable, with what it lists TIED to the program's text (the seventh form; the later family's looks); each row that meets fmt, with fmt's text TOLD by the authors' own Lean function (tested against real Go, not proved from fmt's source: count such statements apart). THE CARD IS WHAT COUNTS. Prove the row's statement (the work); the ties are given (YtpemoeincepilaaDoorTie.lean); close each card by the builder's one call (the guide's Derived/Test/ToyasCard.lean, 'card_holds'). Laid BY PROGRAM, IN A SANDBOX (cutbox-door.mjs). By AI agents, Wed Nov 11 2026. No macro, syntax, notation, axiom, sorry.
-/
import Derived.Test.YtpemoeincepilaaDoorRows
import GoSem.ClaimSeven
namespace Go.Proofs.YtpemoeincepilaaDoor
namespace Rows

/-- THE TIED CARD OF 'keysmithlaw02.NatTexts'. -/
def natTextsCard : Claim7 := { stood := { row := natTextsRow, standIns := [], harness := (true, "25f94f43de1065f3afb6a54289821d059a51a71b14c63d4f2592a771939ba56c"), looks := false }, kinds := [], alts := [], laidByText := true, laidKinds := [.data, .pinned, .pinned], laidTests := true, laidLooks := .later }
def NatTextsCardSaid : Prop := Claim7.holds Tryd.pinned (.plain (OpenSpec.ofChange natTextsSpec)) natTextsCard

/-- THE TIED CARD OF 'keysmithlaw02.NatShifts'. -/
def natShiftsCard : Claim7 := { stood := { row := natShiftsRow, standIns := [], harness := (true, "25f94f43de1065f3afb6a54289821d059a51a71b14c63d4f2592a771939ba56c"), looks := false }, kinds := [], alts := [], laidByText := true, laidKinds := [.data, .pinned, .pinned], laidTests := true, laidLooks := .later }
def NatShiftsCardSaid : Prop := Claim7.holds Tryd.pinned (.plain (OpenSpec.ofChange natShiftsSpec)) natShiftsCard

/-- THE TIED CARD OF 'keysmithlaw02.NatBits'. -/
def natBitsCard : Claim7 := { stood := { row := natBitsRow, standIns := [], harness := (true, "25f94f43de1065f3afb6a54289821d059a51a71b14c63d4f2592a771939ba56c"), looks := false }, kinds := [], alts := [], laidByText := true, laidKinds := [.data, .pinned, .pinned], laidTests := true, laidLooks := .later }
def NatBitsCardSaid : Prop := Claim7.holds Tryd.pinned (.plain (OpenSpec.ofChange natBitsSpec)) natBitsCard

/-- THE TIED CARD OF 'keysmithlaw02.NatLaws'. -/
def natLawsCard : Claim7 := { stood := { row := natLawsRow, standIns := [], harness := (true, "25f94f43de1065f3afb6a54289821d059a51a71b14c63d4f2592a771939ba56c"), looks := false }, kinds := [], alts := [], laidByText := true, laidKinds := [.data, .pinned, .pinned], laidTests := true, laidLooks := .later }
def NatLawsCardSaid : Prop := Claim7.holds Tryd.pinned (.plain (OpenSpec.ofChange natLawsSpec)) natLawsCard

/-- THE TIED CARD OF 'keysmithlaw02.NatDivides'. -/
def natDividesCard : Claim7 := { stood := { row := natDividesRow, standIns := [], harness := (true, "25f94f43de1065f3afb6a54289821d059a51a71b14c63d4f2592a771939ba56c"), looks := false }, kinds := [], alts := [], laidByText := true, laidKinds := [.data, .pinned, .pinned], laidTests := true, laidLooks := .later }
def NatDividesCardSaid : Prop := Claim7.holds Tryd.pinned (.plain (OpenSpec.ofChange natDividesSpec)) natDividesCard

/-- THE TIED CARD OF 'keysmithlaw02.NatNames'. -/
def natNamesCard : Claim7 := { stood := { row := natNamesRow, standIns := [], harness := (true, "25f94f43de1065f3afb6a54289821d059a51a71b14c63d4f2592a771939ba56c"), looks := false }, kinds := [], alts := [], laidByText := true, laidKinds := [.data, .pinned, .pinned], laidTests := true, laidLooks := .later }
def NatNamesCardSaid : Prop := Claim7.holds Tryd.pinned (.plain (OpenSpec.ofChange natNamesSpec)) natNamesCard

/-- THE TIED CARD OF 'keysmithlaw02.NatCalls'. -/
def natCallsCard : Claim7 := { stood := { row := natCallsRow, standIns := [], harness := (true, "25f94f43de1065f3afb6a54289821d059a51a71b14c63d4f2592a771939ba56c"), looks := false }, kinds := [], alts := [], laidByText := true, laidKinds := [.data, .pinned, .pinned], laidTests := true, laidLooks := .later }
def NatCallsCardSaid : Prop := Claim7.holds Tryd.pinned (.plain (OpenSpec.ofChange natCallsSpec)) natCallsCard

/-- THE SECOND FORM's CARD OF 'keysmithlaw02.NatTexts'. -/
def natTextsUptoCard : Claim7 := { stood := { row := natTextsUptoRow, standIns := [], harness := (true, "25f94f43de1065f3afb6a54289821d059a51a71b14c63d4f2592a771939ba56c"), looks := false }, kinds := [], alts := [], laidByText := true, laidKinds := [.data, .pinned, .pinned], laidTests := true, laidLooks := .later }
def NatTextsUptoCardSaid : Prop := Claim7.holds Tryd.pinned (.plain (OpenSpec.upto natTextsSpec)) natTextsUptoCard

/-- THE SECOND FORM's CARD OF 'keysmithlaw02.NatShifts'. -/
def natShiftsUptoCard : Claim7 := { stood := { row := natShiftsUptoRow, standIns := [], harness := (true, "25f94f43de1065f3afb6a54289821d059a51a71b14c63d4f2592a771939ba56c"), looks := false }, kinds := [], alts := [], laidByText := true, laidKinds := [.data, .pinned, .pinned], laidTests := true, laidLooks := .later }
def NatShiftsUptoCardSaid : Prop := Claim7.holds Tryd.pinned (.plain (OpenSpec.upto natShiftsSpec)) natShiftsUptoCard

/-- THE SECOND FORM's CARD OF 'keysmithlaw02.NatBits'. -/
def natBitsUptoCard : Claim7 := { stood := { row := natBitsUptoRow, standIns := [], harness := (true, "25f94f43de1065f3afb6a54289821d059a51a71b14c63d4f2592a771939ba56c"), looks := false }, kinds := [], alts := [], laidByText := true, laidKinds := [.data, .pinned, .pinned], laidTests := true, laidLooks := .later }
def NatBitsUptoCardSaid : Prop := Claim7.holds Tryd.pinned (.plain (OpenSpec.upto natBitsSpec)) natBitsUptoCard

/-- THE SECOND FORM's CARD OF 'keysmithlaw02.NatLaws'. -/
def natLawsUptoCard : Claim7 := { stood := { row := natLawsUptoRow, standIns := [], harness := (true, "25f94f43de1065f3afb6a54289821d059a51a71b14c63d4f2592a771939ba56c"), looks := false }, kinds := [], alts := [], laidByText := true, laidKinds := [.data, .pinned, .pinned], laidTests := true, laidLooks := .later }
def NatLawsUptoCardSaid : Prop := Claim7.holds Tryd.pinned (.plain (OpenSpec.upto natLawsSpec)) natLawsUptoCard

/-- THE SECOND FORM's CARD OF 'keysmithlaw02.NatDivides'. -/
def natDividesUptoCard : Claim7 := { stood := { row := natDividesUptoRow, standIns := [], harness := (true, "25f94f43de1065f3afb6a54289821d059a51a71b14c63d4f2592a771939ba56c"), looks := false }, kinds := [], alts := [], laidByText := true, laidKinds := [.data, .pinned, .pinned], laidTests := true, laidLooks := .later }
def NatDividesUptoCardSaid : Prop := Claim7.holds Tryd.pinned (.plain (OpenSpec.upto natDividesSpec)) natDividesUptoCard

/-- THE SECOND FORM's CARD OF 'keysmithlaw02.NatNames'. -/
def natNamesUptoCard : Claim7 := { stood := { row := natNamesUptoRow, standIns := [], harness := (true, "25f94f43de1065f3afb6a54289821d059a51a71b14c63d4f2592a771939ba56c"), looks := false }, kinds := [], alts := [], laidByText := true, laidKinds := [.data, .pinned, .pinned], laidTests := true, laidLooks := .later }
def NatNamesUptoCardSaid : Prop := Claim7.holds Tryd.pinned (.plain (OpenSpec.upto natNamesSpec)) natNamesUptoCard

/-- THE SECOND FORM's CARD OF 'keysmithlaw02.NatCalls'. -/
def natCallsUptoCard : Claim7 := { stood := { row := natCallsUptoRow, standIns := [], harness := (true, "25f94f43de1065f3afb6a54289821d059a51a71b14c63d4f2592a771939ba56c"), looks := false }, kinds := [], alts := [], laidByText := true, laidKinds := [.data, .pinned, .pinned], laidTests := true, laidLooks := .later }
def NatCallsUptoCardSaid : Prop := Claim7.holds Tryd.pinned (.plain (OpenSpec.upto natCallsSpec)) natCallsUptoCard
end Rows
end Go.Proofs.YtpemoeincepilaaDoor
