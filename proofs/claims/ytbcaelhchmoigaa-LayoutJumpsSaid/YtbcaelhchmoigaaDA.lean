
/- Several texts, one behind the other. -/
import Derived.Test.YtbcaelhchmoigaaMG
import Derived.Test.YtbcaelhchmoigaaSep
import Derived.Test.YtbcaelhchmoigaaMH
set_option linter.unusedVariables false
set_option linter.unusedSimpArgs false
/- decode.cursor.wide (layer 7), way by way. Conditions: the bytes are few. -/
namespace Go.Proofs.Ytbcaelhchmoigaa
open Go.RowKit Calm SL
attribute [local irreducible] SL.L SL.C SL.D SL.N

def mapR (es : Array MapEntry) (k : Nat) : Value → Hp → Prop := fun v B => ∃ n, v = .map (some n) ∧ B = [(n, .map es k)]
def groupsR : Value → Hp → Prop := fun v B => ∃ n es k, v = .map (some n) ∧ B = [(n, .map es k)] ∧ GroupsE es
def hits (x : Int) (v : Value) : Prop := ∀ (w : World) (m : Nat), w.heap[m]? = some (.map takersE 12) → (Instr.lookup 126 (.map (some m)) (.int .i64 x) true).run Try.prog w = .ok v w
end Go.Proofs.Ytbcaelhchmoigaa

/- decode.cursor.any (layer 7), way by way, joined by induction on the rest of the bytes. Conditions: the bytes are few. -/
namespace Go.Proofs.Ytbcaelhchmoigaa
open Go.RowKit Calm SL
attribute [local irreducible] SL.L SL.C SL.D SL.N

def xor1 (x : Int) : Int := if x % 2 = 0 then x + 1 else x - 1
end Go.Proofs.Ytbcaelhchmoigaa
