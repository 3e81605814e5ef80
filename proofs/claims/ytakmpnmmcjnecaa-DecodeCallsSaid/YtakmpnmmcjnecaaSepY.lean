/- Calls that hand back slices, left behind to be read at once. No program in sight. -/
import Derived.Test.YtakmpnmmcjnecaaSepX
set_option linter.unusedVariables false
set_option linter.unusedSimpArgs false
namespace Go.Proofs.Ytakmpnmmcjnecaa.SL
open Go Go.RowKit
section
variable {P : Program} {ops : Array Oper} {Q : Exit → Act → World → Prop} {s : St} {E : Env} {M : Hp} {rest : List Oper} {d t : Nat} {pos : String} {af : Array Edge}
theorem L.loadF {x : Operand} {T b o off i : Nat} {l : List Value} [hT : Sgl P T] {v : Value} (h : Old s.w0 s.A b off l) (hv : l[i]? = some v) (hn : Nat.blt d s.n = true := by exact rfl) (hx : ev E x = some (.pointer (some ⟨b, o, none⟩)) := by exact rfl) (ho : o = off + i := by exact rfl)
    (c : L P ops Q rest s ((d, v) :: E) M) : L P ops Q (⟨some d, .load T x, t, pos, af, none⟩ :: rest) s E M := L.loadO (n := 0) h hn hx ho hv c
end
end Go.Proofs.Ytakmpnmmcjnecaa.SL
