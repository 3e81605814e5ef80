
/- Several texts, one behind the other. -/
import Derived.Test.YtbcaelhchmoigaaDB
import Derived.Test.YtbcaelhchmoigaaMR
set_option linter.unusedVariables false
set_option linter.unusedSimpArgs false
/- What the laws of chapter 7 call beside: keysmithref06, Pick. -/
namespace Go.Proofs.Ytbcaelhchmoigaa
open Go.RowKit Calm SL
attribute [local irreducible] SL.L SL.C SL.D SL.N SL.H SL.QL

theorem rinst_S (x : Ins) (h : x.ok) : Ctr Try.prog 31 [x.V] [] tt (is (.tuple #[.string x.out, .int .i64 (errOf x.chk)]) []) :=
  spec_below (fun w => rinst_any x.op x.d x.s x.t x.mb x.mi x.ms x.md x.imm w h.2)
/-- Pick. -/
def pickI (n m : Int) : Int := if m < 1 then 0 else n % m
end Go.Proofs.Ytbcaelhchmoigaa

/- Plain laws of the rows that are read. No program in sight. -/
namespace Go.Proofs.Ytbcaelhchmoigaa

end Go.Proofs.Ytbcaelhchmoigaa
