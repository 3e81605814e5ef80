/- A law's walk, as the frame takes it. No program in sight. -/
import Derived.Test.YtbackpcohkblfaaSep
namespace Go.Proofs.Ytbackpcohkblfaa.SL
open Go Go.RowKit
theorem Ctr.true {P : Program} {f : FuncId} {args : List Value} {pre : World → Prop} (h : Ctr P f args [] pre (is (.bool Bool.true) [])) (w : World) (hp : pre w) :
    Calls P f args.toArray w fun e w' => e = .returned (.bool Bool.true) ∧ Below w.heap.size w w' := by
  refine (h w (by simp [keys]) (by simp) hp).mono ?_
  rintro e w' ⟨v, B, rfl, ⟨rfl, rfl⟩, hA⟩
  exact ⟨rfl, hA.keeps.below⟩
end Go.Proofs.Ytbackpcohkblfaa.SL
