/- SecrecyNames: as the frame takes it. -/
import Derived.Test.YtkjlgapkcdcmgaaLk27
import Derived.Test.YtkjlgapkcdcmgaaFin
namespace Go.Proofs.Ytkjlgapkcdcmgaa
open Go Go.RowKit SL
theorem names13_walk (w : World) : Calls Try.prog 6 #[] w fun e w' => e = .returned (.bool true) ∧ Below w.heap.size w w' := names13_S.true w trivial
end Go.Proofs.Ytkjlgapkcdcmgaa
