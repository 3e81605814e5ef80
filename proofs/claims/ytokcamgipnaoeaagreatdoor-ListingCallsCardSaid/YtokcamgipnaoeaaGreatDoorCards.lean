/-
  DERIVED. GIVEN WITH THE SEED: THE CARDS: each row of YtokcamgipnaoeaaGreatDoorRows.lean that lists a variable, with what it lists TIED to the program's text (the seventh form; the later family's looks); each row that meets fmt, with fmt's text TOLD by the authors' own Lean function (tested against real Go, not proved from fmt's source: count such statements apart). THE CARD IS WHAT COUNTS. Prove the row's statement (the work); the ties are given (YtokcamgipnaoeaaGreatDoorTie.lean); close each card by the builder's one call (the guide's Derived/Test/ToyasCard.lean, 'card_holds'). Laid BY PROGRAM, IN A SANDBOX (cutbox-door.mjs). By AI agents, Wed Nov 11 2026. No macro, syntax, notation, axiom, sorry.
-/
import Derived.Test.YtokcamgipnaoeaaGreatDoorRows
import GoSem.ClaimSeven
namespace Go.Proofs.YtokcamgipnaoeaaGreatDoor
namespace Rows

/-- THE TIED CARD OF 'keysmithlaw11.ListingCalls'. -/
def listingCallsCard : Claim7 := { stood := { row := listingCallsRow, standIns := [], harness := (true, "8ce6c0dc805eea6ccf18c1e15b20219d01f4823e9524b5b34fe8eb417ac0c744"), looks := true }, kinds := [], alts := [], laidByText := true, laidKinds := [.data, .data, .data, .data, .sentinel, .sentinel, .pinned], laidTests := true, laidLooks := .later }
def ListingCallsCardSaid : Prop := Claim7.holds Tryz.pinned (.plain (OpenSpec.ofChange listingCallsSpec)) listingCallsCard

/-- THE TIED CARD OF 'keysmithlaw11.ListingBack'. -/
def listingBackCard : Claim7 := { stood := { row := listingBackRow, standIns := [], harness := (true, "8ce6c0dc805eea6ccf18c1e15b20219d01f4823e9524b5b34fe8eb417ac0c744"), looks := true }, kinds := [], alts := [], laidByText := true, laidKinds := [.data, .data, .data, .data, .sentinel, .sentinel, .pinned], laidTests := true, laidLooks := .later }
def ListingBackCardSaid : Prop := Claim7.holds Tryz.pinned (.plain (OpenSpec.ofChange listingBackSpec)) listingBackCard

/-- THE SECOND FORM's CARD OF 'keysmithlaw11.ListingCalls'. -/
def listingCallsUptoCard : Claim7 := { stood := { row := listingCallsUptoRow, standIns := [], harness := (true, "8ce6c0dc805eea6ccf18c1e15b20219d01f4823e9524b5b34fe8eb417ac0c744"), looks := true }, kinds := [], alts := [], laidByText := true, laidKinds := [.data, .data, .data, .data, .sentinel, .sentinel, .pinned], laidTests := true, laidLooks := .later }
def ListingCallsUptoCardSaid : Prop := Claim7.holds Tryz.pinned (.plain (OpenSpec.upto listingCallsSpec)) listingCallsUptoCard

/-- THE SECOND FORM's CARD OF 'keysmithlaw11.ListingBack'. -/
def listingBackUptoCard : Claim7 := { stood := { row := listingBackUptoRow, standIns := [], harness := (true, "8ce6c0dc805eea6ccf18c1e15b20219d01f4823e9524b5b34fe8eb417ac0c744"), looks := true }, kinds := [], alts := [], laidByText := true, laidKinds := [.data, .data, .data, .data, .sentinel, .sentinel, .pinned], laidTests := true, laidLooks := .later }
def ListingBackUptoCardSaid : Prop := Claim7.holds Tryz.pinned (.plain (OpenSpec.upto listingBackSpec)) listingBackUptoCard
end Rows
end Go.Proofs.YtokcamgipnaoeaaGreatDoor
