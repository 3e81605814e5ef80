/- The separation logic's rule for a drawn region that turns nothing of one's own, whose calls may make memory: what is made is told by a relation that lasts; whoever looks at it may use it. No program in sight. -/
import Derived.Test.YtakmpnmmcjnecaaSepP
set_option linter.unusedVariables false
set_option linter.unusedSimpArgs false
namespace Go.Proofs.Ytakmpnmmcjnecaa.SL
open Go Go.RowKit

/-- An operation of such a region: of which operations it uses what they made; a known value, or what it makes. -/
inductive Pf where
  | val (js : List Nat) (v : Value)
  | mk (js : List Nat) (R : World → Value → Prop)
def Pf.js : Pf → List Nat
  | .val js _ => js
  | .mk js _ => js
def Pf.isMk : Pf → Bool
  | .val _ _ => false
  | .mk _ _ => true
def gotF (ops : Array Oper) (pl : List Pf) (w : World) : List Nat → Env → Prop
  | [], [] => True
  | j :: js, xu :: us => (∃ js' R o, pl[j]? = some (.mk js' R) ∧ ops[j]? = some o ∧ o.dst = some xu.1 ∧ R w xu.2) ∧ gotF ops pl w js us
  | _, _ => False
def EndsJ (s : St) (d : Nat) (J : Value → World → Prop) : Exit → Act → World → Prop := fun e a w => e = .normal ∧ ∃ v, a.tmps[d]? = some v ∧ a.defers = s.dl ∧ J v w
def Lasts (M : Hp) (R : World → Value → Prop) : Prop := ∀ w w' u, At w (keys M) M w' → R w u → R w' u
def pfJ (w1 : World) (M : Hp) : Pf → Value → World → Prop
  | .val _ v => fun u w => u = v ∧ At w1 (keys M) M w
  | .mk _ R => fun u w => R w u ∧ At w1 (keys M) M w
def StepF (P : Program) (ops : Array Oper) (s : St) (M : Hp) (o : Oper) (E : Env) (ahead : List Pf) (p : Pf) : Prop :=
  ∃ d, o.dst = some d ∧ d < s.n ∧ (∀ js R, p = .mk js R → Lasts M R) ∧ ∀ w1 us, At s.w0 s.A M w1 → gotF ops ahead w1 p.js us → L P ops (EndsJ (bas s w1 M) d (pfJ w1 M p)) [o] (bas s w1 M) (us ++ E) M
def fE (o : Oper) (p : Pf) (E : Env) : Env := match p, o.dst with
  | .val _ v, some d => (d, v) :: E
  | _, _ => E
def okF (ops : Array Oper) (tags : List (Bool × List Nat)) : Bool := qOk ops && Nat.beq tags.length ops.size && (List.range ops.size).all fun i => match ops[i]?, tags[i]? with
  | some o, some t => t.2.all fun j => Nat.blt j i && (match ops[j]?, tags[j]? with
    | some q, some u => u.1 && (match q.dst with
      | some x => (o.looksAt ops).contains x
      | none => false)
    | _, _ => false)
  | _, _ => false
def noDst (ops : Array Oper) (E : Env) : Bool := (List.range ops.size).all fun j => E.all fun x => match (ops[j]?).bind (·.dst) with
  | some d => !(Nat.beq d x.1)
  | none => true
def QF (P : Program) (ops : Array Oper) (Q : Exit → Act → World → Prop) (M : Hp) (s : St) : List Oper → List Pf → Env → Prop
  | [], acc, E => okF ops (acc.reverse.map fun p => (p.isMk, p.js)) = true ∧ ∃ fins : List Nat, (∀ j ∈ fins, ∃ js R, acc.reverse[j]? = some (.mk js R)) ∧ ∀ w1 us, At s.w0 s.A M w1 → gotF ops acc.reverse w1 fins us → D Q .normal (bas s w1 M) (us ++ E) M
  | o :: rest, acc, E => ∃ p, StepF P ops s M o E acc.reverse p ∧ QF P ops Q M s rest (p :: acc) (fE o p E)
def fEnv : List Oper → List Pf → Env → Env
  | o :: os, p :: ps, E => fEnv os ps (fE o p E)
  | _, _, E => E
section
variable {P : Program} {ops : Array Oper} {Q : Exit → Act → World → Prop} {s : St} {E : Env} {M : Hp}
attribute [local irreducible] SL.L SL.D SL.QF SL.gotF SL.StepF
variable {o : Oper} {rest : List Oper} {acc : List Pf} {d : Nat}
end
end Go.Proofs.Ytakmpnmmcjnecaa.SL
