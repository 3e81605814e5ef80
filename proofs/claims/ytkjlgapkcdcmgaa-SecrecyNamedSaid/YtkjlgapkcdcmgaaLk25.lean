/- SecrecyNamed: as the frame takes it. -/
import Derived.Test.YtkjlgapkcdcmgaaLk24
import Derived.Test.YtkjlgapkcdcmgaaFrP
import Derived.Test.YtkjlgapkcdcmgaaFin
namespace Go.Proofs.Ytkjlgapkcdcmgaa
open Go Go.RowKit SL
theorem named_walk (v : Value) (regs : Int) (vb vo : Value) (bs : List Bf) (os : List Lop) (a : Int) (wa : (Lit.int .u64 a).wf = true) (w : World) (hp : Prog w v regs vb vo bs os) :
    Calls Try.prog 4 #[v, .int .u64 a] w fun e w' => e = .returned (.bool true) ∧ Below w.heap.size w w' := by
  obtain ⟨rfl, _, _, hok, hbl, hol, rb, ro⟩ := hp
  exact (named_S regs a vb vo bs os hbl hol (u64_of_wf wa) (fun o ho => (hok o ho).buf)).true w ⟨rb, ro⟩
end Go.Proofs.Ytkjlgapkcdcmgaa
