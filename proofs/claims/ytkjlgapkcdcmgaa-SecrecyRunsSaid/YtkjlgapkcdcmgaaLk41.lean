/- SecrecyRuns: as the frame takes it. -/
import Derived.Test.YtkjlgapkcdcmgaaLk40
import Derived.Test.YtkjlgapkcdcmgaaFrR
import Derived.Test.YtkjlgapkcdcmgaaFin
namespace Go.Proofs.Ytkjlgapkcdcmgaa
open Go Go.RowKit SL
theorem runs_walk (v : Value) (regs : Int) (vb vo : Value) (bs : List Bf) (os : List Lop) (u : Value) (rs : Rws) (a : Int) (_wa : (Lit.int .u64 a).wf = true) (w : World) (hp : Prog w v regs vb vo bs os) (hq : RowsA w u rs) :
    Calls Try.prog 5 #[v, u, .int .u64 a] w fun e w' => e = .returned (.bool true) ∧ Below w.heap.size w w' := by
  obtain ⟨rfl, _, _, _, hbl, hol, rb, ro⟩ := hp
  exact (runs_S regs a vb vo u bs os rs hbl hol hq.len).true w ⟨⟨rb, ro⟩, hq.rd⟩
end Go.Proofs.Ytkjlgapkcdcmgaa
