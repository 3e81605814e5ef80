/- The separation logic's rules for strings.Builder: pointers compared, turned to unsafe ones and back; a text appended to bytes; bytes told as a text. No program in sight. -/
import Derived.Test.YtakmpnmmcjnecaaSepU
import Derived.Lib.UnsafeStr
import Derived.Lib.Builder
set_option linter.unusedVariables false
set_option linter.unusedSimpArgs false
namespace Go.Proofs.Ytakmpnmmcjnecaa.SL
open Go Go.RowKit

def enc8 (l : List UInt8) : List Value := l.map fun b => Value.int .u8 b.toNat
/-- The builder's slice: nil as long as nothing is in it. -/
def bG (bs : List UInt8) (y : OS) : Prop := osG 1 bs.length (enc8 bs) y ∧ (y = none ↔ bs = [])
section
variable {P : Program} {ops : Array Oper} {Q : Exit → Act → World → Prop} {s : St} {E : Env} {M : Hp} {rest : List Oper} {d t : Nat} {pos : String} {af : Array Edge}

end
end Go.Proofs.Ytakmpnmmcjnecaa.SL
