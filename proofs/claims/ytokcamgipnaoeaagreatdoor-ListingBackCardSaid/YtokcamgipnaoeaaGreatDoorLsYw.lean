/- Listing: the law ListingBack, from what is laid. Conditions: those of the row. -/
import Derived.Test.YtokcamgipnaoeaaGreatDoorLsY
import Derived.Test.YtokcamgipnaoeaaGreatDoorLsX
import Derived.Test.YtokcamgipnaoeaaGreatDoorFrI
set_option linter.unusedVariables false
namespace Go.Proofs.YtokcamgipnaoeaaGreatDoor.Ls
open Go Go.RowKit SL Go.Shelf Go.Lib
theorem _root_.Go.Proofs.YtokcamgipnaoeaaGreatDoor.listingBack_walk (a : Ins) (ha : a.ok) (b : Ins) (hb : b.ok) (v : Value) (l : List Ins) (w : World) (hl : Insts w v l) (hL : laidMetH Tryz.prog lsLaid w) (hS : w.ShapedOpen Tryz.prog) :
    Calls Tryz.prog 4 #[a.val, b.val, v] w fun e w' => e = .returned (.bool true) ∧ Below w.heap.size w w' := by
  refine (back_S a b v l ha hb hl.1 w (by simp [keys]) (by simp) ⟨lw_of hL hS, hl.2.2⟩).mono fun e w' he => ?_
  obtain ⟨u, B, rfl, ⟨rfl, rfl⟩, hw⟩ := he
  exact ⟨rfl, hw.keeps.below⟩
end Go.Proofs.YtokcamgipnaoeaaGreatDoor.Ls
