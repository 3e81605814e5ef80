/- Listing: the law ListingNames, from what is laid. Conditions: those of the row. -/
import Derived.Test.YtokcamgipnaoeaaDoorLsN
import Derived.Test.YtokcamgipnaoeaaDoorLsW
set_option linter.unusedVariables false
namespace Go.Proofs.YtokcamgipnaoeaaDoor.Ls
open Go Go.RowKit SL Go.Shelf Go.Lib
theorem _root_.Go.Proofs.YtokcamgipnaoeaaDoor.listingNames_walk (w : World) (hL : laidMetH Tryd.prog lsLaid w) (hS : w.ShapedOpen Tryd.prog) :
    Calls Tryd.prog 3 #[] w fun e w' => e = .returned (.bool true) ∧ Below w.heap.size w w' := by
  refine (names_S w (by simp [keys]) (by simp) (lw_of hL hS)).mono fun e w' he => ?_
  obtain ⟨v, B, rfl, ⟨rfl, rfl⟩, hw⟩ := he
  exact ⟨rfl, hw.keeps.below⟩
end Go.Proofs.YtokcamgipnaoeaaDoor.Ls
