/- The law DecodeCut's walk, as its frame takes it. -/
import Derived.Test.YtakmpnmmcjnecaaDCut
import Derived.Test.YtakmpnmmcjnecaaFin
import Derived.Test.YtakmpnmmcjnecaaFrame
set_option linter.unusedVariables false
namespace Go.Proofs.Ytakmpnmmcjnecaa
open Go.RowKit Calm SL
theorem cut_walk (op d s t mb mi ms md imm : Int) (bop : I64 op) (bd : I64 d) (bs : I64 s) (bt : I64 t) (bmb : I64 mb) (bmi : I64 mi) (bms : I64 ms) (bmd : I64 md) (bimm : I64 imm) (code : ByteArray) (cut : Int) (hcut : (Lit.int .i64 cut).wf = true) (w : World) :
    Calls Try.prog 11 #[(⟨op, d, s, t, mb, mi, ms, md, imm⟩ : Ins).V, .string code, .int .i64 cut] w fun e w' => e = .returned (.bool true) ∧ Below w.heap.size w w' := by
  by_cases h : 120 < code.size
  · exact (cut_many ⟨op, d, s, t, mb, mi, ms, md, imm⟩ code cut h).true w trivial
  · exact (cut_few ⟨op, d, s, t, mb, mi, ms, md, imm⟩ ⟨bmd, bimm⟩ code cut (by omega) (int_of_wf hcut)).true w trivial
end Go.Proofs.Ytakmpnmmcjnecaa
