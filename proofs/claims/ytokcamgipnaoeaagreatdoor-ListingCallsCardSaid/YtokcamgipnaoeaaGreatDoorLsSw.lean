/- Listing: the law ListingCalls, from what is laid. Conditions: those of the row. -/
import Derived.Test.YtokcamgipnaoeaaGreatDoorLsS
import Derived.Test.YtokcamgipnaoeaaGreatDoorLsX
import Derived.Test.YtokcamgipnaoeaaGreatDoorFrI
set_option linter.unusedVariables false
namespace Go.Proofs.YtokcamgipnaoeaaGreatDoor.Ls
open Go Go.RowKit SL Go.Shelf Go.Lib
theorem _root_.Go.Proofs.YtokcamgipnaoeaaGreatDoor.listingCalls_walk (i : Ins) (hi : i.ok) (v : Value) (l : List Ins) (s t : ByteArray) (w : World) (hl : Insts w v l) (hL : laidMetH Tryz.prog lsLaid w) (hS : w.ShapedOpen Tryz.prog) :
    Calls Tryz.prog 3 #[i.val, v, .string s, .string t] w fun e w' => e = .returned (.bool true) ∧ Below w.heap.size w w' := by
  obtain ⟨⟨s⟩⟩ := s
  obtain ⟨⟨t⟩⟩ := t
  refine (calls_S i v l s t hi hl.1 w (by simp [keys]) (by simp) ⟨lw_of hL hS, hl.2.2⟩).mono fun e w' he => ?_
  obtain ⟨u, B, rfl, ⟨rfl, rfl⟩, hw⟩ := he
  exact ⟨rfl, hw.keeps.below⟩
end Go.Proofs.YtokcamgipnaoeaaGreatDoor.Ls
