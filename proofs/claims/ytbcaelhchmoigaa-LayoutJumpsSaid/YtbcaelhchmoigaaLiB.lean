/- layout.Lines: the lines of code. Conditions: the code is short. -/
import Derived.Test.YtbcaelhchmoigaaLiA
set_option linter.unusedVariables false
set_option linter.unusedSimpArgs false
namespace Go.Proofs.Ytbcaelhchmoigaa.Ly
open Go Go.RowKit Calm SL
section
variable {P : Program} {ops : Array Oper} {Q : Exit → Act → World → Prop} {s : St} {E : Env} {M : Hp} {rest : List Oper} {d t : Nat} {pos : String} {af : Array Edge}
end
attribute [local irreducible] SL.L SL.C SL.D SL.N SL.H SL.QL SL.QW SL.QP

def lsOf (R pre : List (Nat × Ins)) : List Ln := pre.flatMap (fun r => lab1 R r.1 ++ [line1 R r])
end Go.Proofs.Ytbcaelhchmoigaa.Ly
