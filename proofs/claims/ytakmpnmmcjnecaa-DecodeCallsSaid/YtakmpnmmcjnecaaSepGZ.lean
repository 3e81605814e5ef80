/- Several texts, one behind the other. -/
import Derived.Test.YtakmpnmmcjnecaaSepP
import Derived.Laws.MakeOwn
import Derived.ScopeJumps
import Derived.Laws.CopyRow
set_option linter.unusedVariables false
set_option linter.unusedSimpArgs false
namespace Go.Proofs.Ytakmpnmmcjnecaa.SL
open Go Go.RowKit
section
variable {P : Program} {ops : Array Oper} {Q : Exit → Act → World → Prop} {s : St} {E : Env} {M : Hp}
def EndsG (s : St) (E : Env) (M : Hp) (d : Nat) (v : Value) : Exit → Act → World → Prop := fun e a w => e = .normal ∧ Sat s ((d, v) :: E) M a w
end
end Go.Proofs.Ytakmpnmmcjnecaa.SL
namespace Go.Proofs.Ytakmpnmmcjnecaa.SL
open Go Go.RowKit
section
variable {P : Program} {ops : Array Oper} {Q : Exit → Act → World → Prop} {s : St} {E : Env} {M : Hp} {rest : List Oper} {d t : Nat} {pos : String} {af : Array Edge}
def blA (n : Nat) : List Value → List (Nat × Value) → Option (List Value)
  | l, [] => some l
  | l, (i, v) :: r => match Nat.beq (cl v).length n, Nat.ble (i * n + n) l.length with
    | true, true => blA n (setL l (i * n) (cl v)) r
    | _, _ => none
end
end Go.Proofs.Ytakmpnmmcjnecaa.SL
namespace Go.Proofs.Ytakmpnmmcjnecaa.SL
open Go Go.RowKit
section
variable {P : Program} {ops : Array Oper} {Q : Exit → Act → World → Prop} {s : St} {E : Env} {M : Hp} {rest : List Oper} {d t : Nat} {pos : String} {af : Array Edge}
end
end Go.Proofs.Ytakmpnmmcjnecaa.SL
namespace Go.Proofs.Ytakmpnmmcjnecaa.SL
open Go Go.RowKit
section
variable {P : Program} {ops : Array Oper} {Q : Exit → Act → World → Prop} {s : St} {E : Env} {M : Hp} {rest : List Oper} {d t : Nat} {pos : String} {af : Array Edge}
end
end Go.Proofs.Ytakmpnmmcjnecaa.SL
namespace Go.Proofs.Ytakmpnmmcjnecaa.SL
open Go Go.RowKit
def qOkA (ops : Array Oper) : Bool := (List.range ops.size).all fun i => match ops[i]? with
  | none => false
  | some o => o.dst.isSome && plainOp o.op && o.after.all (fun e => !Region.binds .any e || Nat.blt e.on i) &&
    (o.looksAt ops).all (fun x => (List.range ops.size).all fun j => match ops[j]? with
      | some p => p.dst != some x || ((o.after.any fun e => Region.binds .any e && e.on == j) || j == i || (Nat.blt i j && (ancs ops ops.size (edgesOf p)).contains i))
      | none => true) &&
    (List.range ops.size).all (fun j => j == i || match ops[j]? with
      | some p => p.dst != o.dst
      | none => true)
section
variable {P : Program} {ops : Array Oper} {Q : Exit → Act → World → Prop} {s : St} {E : Env} {M : Hp}
end
end Go.Proofs.Ytakmpnmmcjnecaa.SL
namespace Go.Proofs.Ytakmpnmmcjnecaa.SL
open Go Go.RowKit
def osSet : OS → Nat → Value → OS
  | none, _, _ => none
  | some (b, l, cap), k, v => some (b, l.set k v, cap)
def osSetL : OS → Nat → List Value → OS
  | none, _, _ => none
  | some (b, l, cap), k, vs => some (b, setL l k vs, cap)
section
variable {P : Program} {ops : Array Oper} {Q : Exit → Act → World → Prop} {s : St} {E : Env} {M M0 : Hp} {rest : List Oper} {acc : List Pl} {d t : Nat} {pos : String} {af : Array Edge}
/-- The cells of an own slice, in the world; its block is among those known. -/
theorem osG.rdm {n m T : Nat} {cs : List Value} {y : OS} {w0 w : World} {A : List Nat} (h : osG n m cs y) (hw : At w0 A M w) (hsub : ∀ x ∈ osC T y [], x ∈ M) : Rd w [] (osV m y) m cs := by
  rcases y with _ | ⟨b, l, cap⟩
  · obtain ⟨rfl, rfl⟩ := h; exact Rd.nil
  · obtain ⟨h1, h2, h3, h4⟩ := h
    exact Rd.own (hw.holds (b, ob l T) (hsub _ List.mem_cons_self)) (by simp) h2 _ h4
theorem QP.fin3 (tks : List (Option (List Nat))) (j1 j2 j3 : Nat) {m1 m2 m3 : Mk} (ht : acc.reverse.map Pl.tk = tks := by exact rfl) (nds : List (List Nat)) (hnd : acc.reverse.map Pl.nd = nds := by exact rfl) (hok : okP ops tks nds = true := by decide +kernel) (hno : NdOk acc.reverse acc.reverse := by repeat (first | exact trivial | refine ⟨rfl, ?_⟩)) (hf : finals tks = [j1, j2, j3] := by decide +kernel) (hnc : ncE ops tks E = true := by kernel_rfl)
    (hM : M.Perm (acc.reverse.flatMap Pl.ini ++ M0)) (hj1 : acc.reverse[j1]? = some (.make m1) := by exact rfl) (hj2 : acc.reverse[j2]? = some (.make m2) := by exact rfl) (hj3 : acc.reverse[j3]? = some (.make m3) := by exact rfl)
    (k : ∀ F1 B1 F2 B2 F3 B3, m1.R F1 B1 → m2.R F2 B2 → m3.R F3 B3 → D Q .normal s (F1 ++ (F2 ++ (F3 ++ E))) (B1 ++ (B2 ++ (B3 ++ M0)))) : QP P ops Q M0 s M [] acc E :=
  ⟨tks, nds, E, ht, hnd, hno, hok, hM, fun x v hx => ⟨hx, ncE_ok hnc hx⟩, fun xs hx => by
    rw [hf] at hx
    match xs, hx with
    | [(F1, B1), (F2, B2), (F3, B3)], ⟨⟨m, h1, h2⟩, ⟨m', h3, h4⟩, ⟨m'', h5, h6⟩, _⟩ =>
      rw [hj1] at h1; cases h1
      rw [hj2] at h3; cases h3
      rw [hj3] at h5; cases h5
      have e1 : hps [(F1, B1), (F2, B2), (F3, B3)] ++ M0 = B1 ++ (B2 ++ (B3 ++ M0)) := by simp [hps]
      have e2 : envs [(F1, B1), (F2, B2), (F3, B3)] ++ E = F1 ++ (F2 ++ (F3 ++ E)) := by simp [envs]
      rw [e1, e2]
      exact k F1 B1 F2 B2 F3 B3 h2 h4 h6⟩
end
end Go.Proofs.Ytakmpnmmcjnecaa.SL
namespace Go
section
variable {F : Fence} {n : Nat} {P : Program} {Q : Exit → Act → World → Prop} {a : Act} {w : World} {b : Frame} {k : List Item} {cs : List Frame}
end
end Go
namespace Go.Proofs.Ytakmpnmmcjnecaa.SL
open Go Go.RowKit
section
variable {P : Program} {Q : Exit → Act → World → Prop} {s : St} {E : Env} {M : Hp} {x y c : Code}
end
section
variable {P : Program} {ops : Array Oper} {Q : Exit → Act → World → Prop} {s : St} {E : Env} {M : Hp} {rest : List Oper} {d t : Nat} {pos : String} {af : Array Edge}
end
end Go.Proofs.Ytakmpnmmcjnecaa.SL
namespace Go.Proofs.Ytakmpnmmcjnecaa.SL
open Go Go.RowKit
section
variable {P : Program} {ops : Array Oper} {Q : Exit → Act → World → Prop} {s : St} {E : Env} {M : Hp} {rest : List Oper} {d t : Nat} {pos : String} {af : Array Edge}
end
end Go.Proofs.Ytakmpnmmcjnecaa.SL
