/-
  DERIVED. GIVEN WITH THE SEED: THE CARDS: each row of YtokcamgipnaoeaaDoorRows.lean that lists a variable, with what it lists TIED to the program's text (the seventh form; the later family's looks); each row that meets fmt, with fmt's text TOLD by the authors' own Lean function (tested against real Go, not proved from fmt's source: count such statements apart). THE CARD IS WHAT COUNTS. Prove the row's statement (the work); the ties are given (YtokcamgipnaoeaaDoorTie.lean); close each card by the builder's one call (the guide's Derived/Test/ToyasCard.lean, 'card_holds'). Laid BY PROGRAM, IN A SANDBOX (cutbox-door.mjs). By AI agents, Wed Nov 11 2026. No macro, syntax, notation, axiom, sorry.
-/
import Derived.Test.YtokcamgipnaoeaaDoorRows
import GoSem.ClaimSeven
namespace Go.Proofs.YtokcamgipnaoeaaDoor
namespace Rows

/-- THE TIED CARD OF 'keysmithlaw11.ListingNames'. -/
def listingNamesCard : Claim7 := { stood := { row := listingNamesRow, standIns := [], harness := (true, "07cbe657010e33089193c0029eefdc84b61849c01063a6273d1f4fbd83c92d8b"), looks := true }, kinds := [], alts := [], laidByText := true, laidKinds := [.data, .data, .data, .data, .sentinel, .sentinel, .pinned], laidTests := true, laidLooks := .later }
def ListingNamesCardSaid : Prop := Claim7.holds Tryd.pinned (.plain (OpenSpec.ofChange listingNamesSpec)) listingNamesCard

/-- THE TIED CARD OF 'keysmithlaw11.ListingReads'. -/
def listingReadsCard : Claim7 := { stood := { row := listingReadsRow, standIns := [], harness := (true, "07cbe657010e33089193c0029eefdc84b61849c01063a6273d1f4fbd83c92d8b"), looks := true }, kinds := [], alts := [], laidByText := true, laidKinds := [.data, .data, .data, .data, .sentinel, .sentinel, .pinned], laidTests := true, laidLooks := .later }
def ListingReadsCardSaid : Prop := Claim7.holds Tryd.pinned (.plain (OpenSpec.ofChange listingReadsSpec)) listingReadsCard

/-- THE SECOND FORM's CARD OF 'keysmithlaw11.ListingNames'. -/
def listingNamesUptoCard : Claim7 := { stood := { row := listingNamesUptoRow, standIns := [], harness := (true, "07cbe657010e33089193c0029eefdc84b61849c01063a6273d1f4fbd83c92d8b"), looks := true }, kinds := [], alts := [], laidByText := true, laidKinds := [.data, .data, .data, .data, .sentinel, .sentinel, .pinned], laidTests := true, laidLooks := .later }
def ListingNamesUptoCardSaid : Prop := Claim7.holds Tryd.pinned (.plain (OpenSpec.upto listingNamesSpec)) listingNamesUptoCard

/-- THE SECOND FORM's CARD OF 'keysmithlaw11.ListingReads'. -/
def listingReadsUptoCard : Claim7 := { stood := { row := listingReadsUptoRow, standIns := [], harness := (true, "07cbe657010e33089193c0029eefdc84b61849c01063a6273d1f4fbd83c92d8b"), looks := true }, kinds := [], alts := [], laidByText := true, laidKinds := [.data, .data, .data, .data, .sentinel, .sentinel, .pinned], laidTests := true, laidLooks := .later }
def ListingReadsUptoCardSaid : Prop := Claim7.holds Tryd.pinned (.plain (OpenSpec.upto listingReadsSpec)) listingReadsUptoCard
end Rows
end Go.Proofs.YtokcamgipnaoeaaDoor
