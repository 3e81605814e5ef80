/- SecrecyLess: as the frame takes it. -/
import Derived.Test.YtkjlgapkcdcmgaaLk21
import Derived.Test.YtkjlgapkcdcmgaaFrP
import Derived.Test.YtkjlgapkcdcmgaaFin
namespace Go.Proofs.Ytkjlgapkcdcmgaa
open Go Go.RowKit SL
theorem less_walk (v : Value) (regs : Int) (vb vo : Value) (bs : List Bf) (os : List Lop) (a : Int) (wa : (Lit.int .i64 a).wf = true) (w : World) (hp : Prog w v regs vb vo bs os) :
    Calls Try.prog 3 #[v, .int .i64 a] w fun e w' => e = .returned (.bool true) ∧ Below w.heap.size w w' := by
  obtain ⟨rfl, _, _, _, hbl, hol, rb, ro⟩ := hp
  exact (less_S regs a vb vo bs os hbl hol (int_of_wf wa)).true w ⟨rb, ro⟩
end Go.Proofs.Ytkjlgapkcdcmgaa
