import Derived.Test.YtbcaelhchmoigaaSepP
import Derived.Laws.MakeOwn
import Derived.ScopeJumps
import Derived.Laws.CopyRow
set_option linter.unusedVariables false
set_option linter.unusedSimpArgs false
namespace Go.Proofs.Ytbcaelhchmoigaa.SL
open Go Go.RowKit
section
variable {P : Program} {ops : Array Oper} {Q : Exit → Act → World → Prop} {s : St} {E : Env} {M : Hp}
def EndsG (s : St) (E : Env) (M : Hp) (d : Nat) (v : Value) : Exit → Act → World → Prop := fun e a w => e = .normal ∧ Sat s ((d, v) :: E) M a w
end
end Go.Proofs.Ytbcaelhchmoigaa.SL
namespace Go.Proofs.Ytbcaelhchmoigaa.SL
open Go Go.RowKit
section
variable {P : Program} {ops : Array Oper} {Q : Exit → Act → World → Prop} {s : St} {E : Env} {M : Hp} {rest : List Oper} {d t : Nat} {pos : String} {af : Array Edge}
def blA (n : Nat) : List Value → List (Nat × Value) → Option (List Value)
  | l, [] => some l
  | l, (i, v) :: r => match Nat.beq (cl v).length n, Nat.ble (i * n + n) l.length with
    | true, true => blA n (setL l (i * n) (cl v)) r
    | _, _ => none
end
end Go.Proofs.Ytbcaelhchmoigaa.SL
namespace Go.Proofs.Ytbcaelhchmoigaa.SL
open Go Go.RowKit
section
variable {P : Program} {ops : Array Oper} {Q : Exit → Act → World → Prop} {s : St} {E : Env} {M : Hp} {rest : List Oper} {d t : Nat} {pos : String} {af : Array Edge}
theorem made_one (z : Value) (m : Nat) : madeCells #[z] (m * 1) = (List.replicate m z).toArray := by
  apply Array.ext
  · simp [madeCells]
  · intro i h1 h2
    simp [madeCells, Nat.mod_one]
theorem L.makeZ {T e m bs : Nat} {z : Value} {x y : Operand} {q q' : IntKind} {i : Int} [hT : Und P T (.slice e)] [hR : Row P e 1 bs] [hz : Zer P e z [z]] (hi : i = (m : Int)) (hb : bs * m ≤ 281474976710656) (h63 : m ≤ maxLen)
    (hd : Nat.blt d s.n = true := by exact rfl) (hx : ev E x = some (.int q i) := by exact rfl) (hy : ev E y = some (.int q' i) := by exact rfl)
    (c : ∀ b, L P ops Q rest s ((d, .slice (some ⟨b, 0, none⟩) m m) :: E) ((b, ob (List.replicate m z) e) :: M)) : L P ops Q (⟨some d, .makeSlice T x y, t, pos, af, none⟩ :: rest) s E M := by
  refine L.newB (f := fun b => .slice (some ⟨b, 0, none⟩) m m) (o := ob (List.replicate m z) e) hd ?_ c
  intro a w hs
  show Sem.run P (do pure (Next.value (← Instr.makeSlice T (a.eval x) (a.eval y)))) w = _
  refine run_value ?_
  rw [hs.ev hx, hs.ev hy, hi]
  obtain ⟨inf, z', h1, h2, h3, h4, h5, h6⟩ := hR.out
  have hz1 : z' = z := by
    have := hz.out
    rw [h1] at this
    simp only [Option.bind_some, h2] at this
    cases this; rfl
  subst hz1
  have h63' : (m : Int) ≤ 9223372036854775807 := by
    have h := h63
    simp [maxLen] at h
    omega
  have hb' : (inf.bytes : Int) * (m : Int) ≤ 281474976710656 := by
    have h : ((inf.bytes * m : Nat) : Int) ≤ 281474976710656 := by rw [h4]; omega
    rwa [Int.natCast_mul] at h
  have hr := run_make (P := P) w T e inf z' hT.out h1 h2 q q' m m (by omega) (Int.le_refl _) hb' h63'
  simp only [Int.toNat_natCast, h3, hz.cells] at hr
  rw [made_one] at hr
  exact hr
theorem L.storeK (i : Nat) {x y : Operand} {T T' b o k : Nat} {l : List Value} {v : Value} [hz : Siz P T 1] (hk : k < l.length) (ho : o = k) (hx : ev E x = some (.pointer (some ⟨b, o, none⟩)) := by exact rfl) (hy : ev E y = some v := by exact rfl) (hi : hat M i = some (b, ob l T') := by exact rfl)
    (hc : v.cells = [v].toArray := by exact rfl) (h1 : oneB v = true := by exact rfl) {M' : Hp} (hM : hset M i (ob (l.set k v) T') = M' := by simp only [hset]; rfl)
    (c : L P ops Q rest s E M') : L P ops Q (⟨none, .store T x y, t, pos, af, none⟩ :: rest) s E M := by
  subst ho
  exact L.storeV i (vs := [v]) (l' := l.set o v) hx hy hi hc rfl (by simp [h1]) (Nat.ble_eq_true_of_le hk) rfl hM c
theorem L.loadK (i : Nat) {x : Operand} {T T' b o k : Nat} {l : List Value} {v : Value} {ds : TypeDesc} [Und P T ds] (hv : l[k]? = some v) (ho : o = k) (hn : Nat.blt d s.n = true := by exact rfl) (hx : ev E x = some (.pointer (some ⟨b, o, none⟩)) := by exact rfl) (hi : hat M i = some (b, ob l T') := by exact rfl)
    (hg : aggB ds = false := by exact rfl) (c : L P ops Q rest s ((d, v) :: E) M) : L P ops Q (⟨some d, .load T x, t, pos, af, none⟩ :: rest) s E M := by
  subst ho
  exact L.load1 i hn hx hi hg hv c
end
end Go.Proofs.Ytbcaelhchmoigaa.SL
namespace Go.Proofs.Ytbcaelhchmoigaa.SL
open Go Go.RowKit
section
variable {P : Program} {ops : Array Oper} {Q : Exit → Act → World → Prop} {s : St} {E : Env} {M : Hp} {rest : List Oper} {d t : Nat} {pos : String} {af : Array Edge}
end
end Go.Proofs.Ytbcaelhchmoigaa.SL
namespace Go.Proofs.Ytbcaelhchmoigaa.SL
open Go Go.RowKit
def qOkA (ops : Array Oper) : Bool := (List.range ops.size).all fun i => match ops[i]? with
  | none => false
  | some o => o.dst.isSome && plainOp o.op && o.after.all (fun e => !Region.binds .any e || Nat.blt e.on i) &&
    (o.looksAt ops).all (fun x => (List.range ops.size).all fun j => match ops[j]? with
      | some p => p.dst != some x || ((o.after.any fun e => Region.binds .any e && e.on == j) || j == i || (Nat.blt i j && (ancs ops ops.size (edgesOf p)).contains i))
      | none => true) &&
    (List.range ops.size).all (fun j => j == i || match ops[j]? with
      | some p => p.dst != o.dst
      | none => true)
section
variable {P : Program} {ops : Array Oper} {Q : Exit → Act → World → Prop} {s : St} {E : Env} {M : Hp}
end
end Go.Proofs.Ytbcaelhchmoigaa.SL
namespace Go.Proofs.Ytbcaelhchmoigaa.SL
open Go Go.RowKit
def osSet : OS → Nat → Value → OS
  | none, _, _ => none
  | some (b, l, cap), k, v => some (b, l.set k v, cap)
def osSetL : OS → Nat → List Value → OS
  | none, _, _ => none
  | some (b, l, cap), k, vs => some (b, setL l k vs, cap)
section
variable {P : Program} {ops : Array Oper} {Q : Exit → Act → World → Prop} {s : St} {E : Env} {M M0 : Hp} {rest : List Oper} {acc : List Pl} {d t : Nat} {pos : String} {af : Array Edge}
end
end Go.Proofs.Ytbcaelhchmoigaa.SL
namespace Go
section
variable {F : Fence} {n : Nat} {P : Program} {Q : Exit → Act → World → Prop} {a : Act} {w : World} {b : Frame} {k : List Item} {cs : List Frame}
end
end Go
namespace Go.Proofs.Ytbcaelhchmoigaa.SL
open Go Go.RowKit
section
variable {P : Program} {Q : Exit → Act → World → Prop} {s : St} {E : Env} {M : Hp} {x y c : Code}
end
section
variable {P : Program} {ops : Array Oper} {Q : Exit → Act → World → Prop} {s : St} {E : Env} {M : Hp} {rest : List Oper} {d t : Nat} {pos : String} {af : Array Edge}
end
end Go.Proofs.Ytbcaelhchmoigaa.SL
namespace Go.Proofs.Ytbcaelhchmoigaa.SL
open Go Go.RowKit
section
variable {P : Program} {ops : Array Oper} {Q : Exit → Act → World → Prop} {s : St} {E : Env} {M : Hp} {rest : List Oper} {d t : Nat} {pos : String} {af : Array Edge}
end
end Go.Proofs.Ytbcaelhchmoigaa.SL
