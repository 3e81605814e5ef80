/- What is put of what was read: plain. -/
import Derived.Test.YtakmpnmmcjnecaaDC
import Derived.Test.YtakmpnmmcjnecaaDC
namespace Go.Proofs.Ytakmpnmmcjnecaa
open Go.RowKit Calm SL
attribute [local irreducible] SL.L SL.C SL.D SL.N SL.H SL.QL

theorem out_bytes {x : Ins} (hc : x.chk = true) : bytesOf x.out = x.enc := by rw [Ins.out_ok hc, bytesOf_strB (Ins.enc_bytes hc).1]
theorem out_size {x : Ins} (hc : x.chk = true) : x.out.size = x.enc.length := by rw [← bytesOf_length, out_bytes hc]
end Go.Proofs.Ytakmpnmmcjnecaa
