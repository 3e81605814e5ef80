/- layout.Lines' closures: where a jump goes; a label is put. Plain: the lines of code. Conditions: numbers are numbers of 64 bits. -/
import Derived.Test.YtbcaelhchmoigaaLyF
import Derived.Test.YtbcaelhchmoigaaDB
set_option linter.unusedVariables false
set_option linter.unusedSimpArgs false
namespace Go.Proofs.Ytbcaelhchmoigaa.Ly
open Go Go.RowKit Calm SL
section
variable {P : Program} {ops : Array Oper} {Q : Exit → Act → World → Prop} {s : St} {E : Env} {M : Hp} {rest : List Oper} {d t : Nat} {pos : String} {af : Array Edge}
end
attribute [local irreducible] SL.L SL.C SL.D SL.N SL.H SL.QL SL.QW SL.QP

/-! ### Plain -/
def goalI (r : Nat × Ins) : Int := r.1 + r.2.out.size + r.2.imm
def hitN (R : List (Nat × Ins)) (n : Int) : Nat := R.countP (fun r => r.2.jump && goalI r == n)
def numB (R : List (Nat × Ins)) (k : Nat) : Nat := (List.range k).countP (fun (a : Nat) => decide (0 < hitN R (a : Int)))
def labB (R : List (Nat × Ins)) (a : Int) : Int := if 0 < hitN R a then numB R (a.toNat + 1) else 0
def lab1 (R : List (Nat × Ins)) (a : Int) : List Ln := if 0 < hitN R a then [⟨labB R a, ⟨0, 0, 0, 0, 0, 0, 0, 0, 0⟩, 0⟩] else []
def line1 (R : List (Nat × Ins)) (r : Nat × Ins) : Ln := if r.2.jump = true then ⟨0, ⟨r.2.op, r.2.d, r.2.s, r.2.t, r.2.mb, r.2.mi, r.2.ms, r.2.md, 0⟩, labB R (goalI r)⟩ else ⟨0, r.2, 0⟩
def atB (R : List (Nat × Ins)) (len : Nat) (n : Int) : Bool := n == len || R.any (fun r => (r.1 : Int) == n)
def linesM (R : List (Nat × Ins)) (len : Nat) (e : Int) : List Ln × Int :=
  if e ≠ 0 then ([], e) else if R.all (fun r => !r.2.jump || atB R len (goalI r)) = true then (R.flatMap (fun r => lab1 R r.1 ++ [line1 R r]) ++ lab1 R len, 0) else ([], 4)
/-- What the label's closure holds. -/
abbrev lbM (b8 b7 b17 mh mb : Nat) (n : Nat) (y : OS) : Hp :=
  (b8, ob [.map (some mh)] 54) :: (b7, ob [.map (some mb)] 54) :: (b17, ob [osV n y] 22) :: osC 37 y []
def lbl (n : Int) : Ln := ⟨n, ⟨0, 0, 0, 0, 0, 0, 0, 0, 0⟩, 0⟩
end Go.Proofs.Ytbcaelhchmoigaa.Ly
