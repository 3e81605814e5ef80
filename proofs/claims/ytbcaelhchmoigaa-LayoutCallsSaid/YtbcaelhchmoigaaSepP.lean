import Derived.Test.YtbcaelhchmoigaaSepY
set_option linter.unusedVariables false
set_option linter.unusedSimpArgs false
namespace Go.Proofs.Ytbcaelhchmoigaa.SL
open Go Go.RowKit
structure Mk where
  takes : List Nat
  init : Hp
  R : Env → Hp → Prop
inductive Pl where
  | quiet (v : Value) (nd : List Nat) (I : Hp)
  | make (m : Mk)
def Pl.tk : Pl → Option (List Nat)
  | .quiet _ _ _ => none
  | .make m => some m.takes
def Pl.ini : Pl → Hp
  | .quiet _ _ _ => []
  | .make m => m.init
def Pl.nd : Pl → List Nat
  | .quiet _ nd _ => nd
  | .make _ => []
def iniAt (pl : List Pl) (j : Nat) : Hp := match pl[j]? with
  | some p => p.ini
  | none => []
def NdOk (pl : List Pl) : List Pl → Prop
  | [] => True
  | .quiet _ nd I :: r => I = nd.flatMap (iniAt pl) ∧ NdOk pl r
  | .make _ :: r => NdOk pl r
def Got (pl : List Pl) : List Nat → List (Env × Hp) → Prop
  | [], [] => True
  | j :: js, x :: xs => (∃ m, pl[j]? = some (.make m) ∧ m.R x.1 x.2) ∧ Got pl js xs
  | _, _ => False
def hps (xs : List (Env × Hp)) : Hp := xs.flatMap (·.2)
def envs (xs : List (Env × Hp)) : Env := xs.flatMap (·.1)
def tkAt (tks : List (Option (List Nat))) (j : Nat) : List Nat := ((tks[j]?).getD none).getD []
def isMk (tks : List (Option (List Nat))) (j : Nat) : Bool := ((tks[j]?).getD none).isSome
def finals (tks : List (Option (List Nat))) : List Nat := (List.range tks.length).filter fun j => isMk tks j && !((List.range tks.length).any fun k => (tkAt tks k).contains j)
def ndAt (nds : List (List Nat)) (j : Nat) : List Nat := (nds[j]?).getD []
def okP (ops : Array Oper) (tks : List (Option (List Nat))) (nds : List (List Nat)) : Bool := Nat.beq tks.length ops.size && (List.range ops.size).all fun i => match ops[i]? with
  | some o => plainOp o.op && o.after.all (fun e => !Region.binds .any e || Nat.blt e.on i) &&
    (o.looksAt ops).all (fun x => (List.range ops.size).all fun j => match ops[j]? with
      | some p => p.dst != some x || ((o.after.any fun e => Region.binds .any e && e.on == j) || j == i || (Nat.blt i j && (ancs ops ops.size (edgesOf p)).contains i))
      | none => true) &&
    (List.range ops.size).all (fun j => j == i || match ops[j]? with
      | some p => p.dst.isNone || p.dst != o.dst
      | none => true) &&
    (tkAt tks i).all (fun j => (ancs ops ops.size (edgesOf o)).contains j && isMk tks j && Nat.blt j i) && (tkAt tks i).Nodup &&
    (List.range i).all (fun k => (tkAt tks k).all fun j => !(tkAt tks i).contains j) &&
    (ndAt nds i).all (fun j => isMk tks j && Nat.blt j ops.size && (match ops[j]? with
      | some q => (ancs ops ops.size (edgesOf q)).contains i
      | none => false)) && (ndAt nds i).Nodup
  | none => false
def EndsP (s : St) (M0 : Hp) (w1 : World) (Mall : Hp) (o : Oper) (R : Env → Hp → Prop) (inh : Env) : Exit → Act → World → Prop := fun e a w => e = .normal ∧ a.defers = s.dl ∧
  ∃ F B, At w1 (keys Mall) (B ++ M0) w ∧ R F B ∧ ∀ x u, lk F x = some u → (o.dst = some x ∧ a.tmps[x]? = some u) ∨ lk inh x = some u
abbrev bas (s : St) (w1 : World) (B : Hp) : St := { w0 := w1, A := keys B, n := s.n, ro := s.ro, dl := s.dl }
def StepP (P : Program) (ops : Array Oper) (s : St) (M0 : Hp) (o : Oper) (E : Env) (ahead : List Pl) : Pl → Prop
  | .quiet v _ I => ∃ d, o.dst = some d ∧ d < s.n ∧ ∀ w1, At s.w0 s.A (I ++ M0) w1 → L P ops (EndsQ (bas s w1 (I ++ M0)) d v (I ++ M0)) [o] (bas s w1 (I ++ M0)) E (I ++ M0)
  | .make m => (∀ d, o.dst = some d → d < s.n) ∧ ∀ xs, Got ahead m.takes xs → ∀ w1, At s.w0 s.A (hps xs ++ (m.init ++ M0)) w1 →
      L P ops (EndsP s M0 w1 (hps xs ++ (m.init ++ M0)) o m.R (envs xs)) [o] (bas s w1 (hps xs ++ (m.init ++ M0))) (envs xs ++ E) (hps xs ++ (m.init ++ M0))
def qE (o : Oper) (p : Pl) (E : Env) : Env := match p, o.dst with
  | .quiet v _ _, some d => (d, v) :: E
  | _, _ => E
def e3B (l : List Oper) (E : Env) : Bool := (List.range l.length).all fun i => match l[i]? with
  | some o => (o.looksAt l.toArray).all fun x => !(E.any fun y => Nat.beq y.1 x) || (List.range l.length).all fun j => match l[j]? with
    | some p => p.dst != some x || j == i || (Nat.blt i j && (ancs l.toArray l.length (edgesOf p)).contains i)
    | none => true
  | none => true
def ncE (ops : Array Oper) (tks : List (Option (List Nat))) (E : Env) : Bool := (List.range ops.size).all fun j => !isMk tks j || E.all fun x => match (ops[j]?).bind (·.dst) with
  | some d => !(Nat.beq d x.1)
  | none => true
def QP (P : Program) (ops : Array Oper) (Q : Exit → Act → World → Prop) (M0 : Hp) (s : St) (M : Hp) : List Oper → List Pl → Env → Prop
  | [], acc, E => ∃ tks nds E', acc.reverse.map Pl.tk = tks ∧ acc.reverse.map Pl.nd = nds ∧ NdOk acc.reverse acc.reverse ∧ okP ops tks nds = true ∧ M.Perm (acc.reverse.flatMap Pl.ini ++ M0) ∧ (∀ x v, lk E' x = some v → lk E x = some v ∧ ∀ (j : Nat) (o : Oper), ops[j]? = some o → isMk tks j = true → o.dst ≠ some x) ∧ ∀ xs, Got acc.reverse (finals tks) xs → D Q .normal s (envs xs ++ E') (hps xs ++ M0)
  | o :: rest, acc, E => ∃ p, StepP P ops s M0 o E acc.reverse p ∧ QP P ops Q M0 s M rest (p :: acc) (qE o p E)
def pEnv : List Oper → List Pl → Env → Env
  | o :: os, p :: ps, E => pEnv os ps (qE o p E)
  | _, _, E => E
section
variable {P : Program} {ops : Array Oper} {Q : Exit → Act → World → Prop} {s : St} {E : Env} {M M0 : Hp}
def takesOf (pl : List Pl) (k : Nat) : List Nat := match pl[k]? with
  | some (.make m) => m.takes
  | _ => []
def usedB (pl : List Pl) (listed : Array Bool) (j : Nat) : Bool := (List.range pl.length).any fun k => listed.getD k true && (takesOf pl k).contains j
def cellP (pl : List Pl) (listed : Array Bool) (prod : Nat → Env × Hp) (j : Nat) : Hp := match pl[j]? with
  | some (.make m) => if listed.getD j true = true then (if usedB pl listed j = true then [] else (prod j).2) else m.init
  | _ => []
def heapP (pl : List Pl) (listed : Array Bool) (prod : Nat → Env × Hp) : Hp := (List.range pl.length).flatMap (cellP pl listed prod)
end
section
variable {P : Program} {ops : Array Oper} {Q : Exit → Act → World → Prop} {s : St} {E : Env} {M M0 : Hp} {rest : List Oper} {acc : List Pl} {o : Oper} {d : Nat}
theorem C.perm {M' : Hp} {c : Code} (hp : M'.Perm M) (k : C P c Q s E M') : C P c Q s E M := fun a w hs => k a w ⟨hs.at_.perm hp, hs.defers, hs.size, hs.env⟩
theorem D.perm {M' : Hp} {e : Exit} (hp : M'.Perm M) (k : D Q e s E M') : D Q e s E M := fun a w hs => k a w ⟨hs.at_.perm hp, hs.defers, hs.size, hs.env⟩
end
end Go.Proofs.Ytbcaelhchmoigaa.SL
