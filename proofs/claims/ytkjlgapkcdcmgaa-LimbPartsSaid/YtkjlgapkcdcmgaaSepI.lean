/- The separation logic's rules for arrays: built, indexed, the place of an element. No program in sight. -/
import Derived.Test.YtkjlgapkcdcmgaaSepG
set_option linter.unusedVariables false
set_option linter.unusedSimpArgs false
namespace Go.Proofs.Ytkjlgapkcdcmgaa.SL
open Go Go.RowKit
section
variable {P : Program} {ops : Array Oper} {Q : Exit → Act → World → Prop} {s : St} {E : Env} {M : Hp} {rest : List Oper} {d t : Nat} {pos : String} {af : Array Edge}
def blA (n : Nat) : List Value → List (Nat × Value) → Option (List Value)
  | l, [] => some l
  | l, (i, v) :: r => match Nat.beq (cl v).length n, Nat.ble (i * n + n) l.length with
    | true, true => blA n (setL l (i * n) (cl v)) r
    | _, _ => none
theorem blA_fill {n : Nat} : ∀ {r : List (Nat × Value)} {l l' : List Value}, blA n l r = some l' → Instr.fill (fun i => some (i * n, n)) l.toArray r = some l'.toArray
  | [], l, l', h => by cases h; rfl
  | (i, v) :: r, l, l', h => by
    unfold blA at h
    split at h
    · rename_i h1 h2
      have h1' : v.cells.size = n := by have := Nat.eq_of_beq_eq_true h1; simpa [cl] using this
      have h2' := Nat.le_of_ble_eq_true h2
      unfold Instr.fill
      simp only [h1', List.size_toArray]
      rw [if_neg (by simp; omega)]
      have hz := zip_set (cl v) l (i * n) 0 (by rw [Nat.eq_of_beq_eq_true h1]; omega)
      have e : (v.cells.zipIdx.foldl (fun cs (x : Value × Nat) => cs.setIfInBounds (i * n + x.2) x.1) l.toArray) = (setL l (i * n) (cl v)).toArray := by
        rw [← Array.foldl_toList, Array.toList_zipIdx]; exact hz
      exact (congrArg (fun z => Instr.fill (fun i => some (i * n, n)) z r) e).trans (blA_fill h)
    · cases h
theorem L.buildA {T e len n : Nat} {parts : List (Nat × Operand)} {vs : List (Nat × Value)} {z : Value} {l l' : List Value} [hz : Zer P T z l] [hu : Und P T (.array len e)] [hS : Siz P e n] (hn : Nat.blt d s.n = true := by exact rfl) (hx : pvs E parts = some vs := by exact rfl) (hl : blA n l vs = some l' := by simp only [blA, cl, setL, Value.cells, List.getElem?_cons_zero, List.getElem?_cons_succ, List.length_cons, List.length_nil, List.set_cons_zero, List.set_cons_succ]; rfl)
    (c : L P ops Q rest s ((d, .agg l'.toArray) :: E) M) : L P ops Q (⟨some d, .build T parts.toArray, t, pos, af, none⟩ :: rest) s E M :=
  L.calm (S := fun ρ => Instr.build T (parts.toArray.map fun (i, x) => (i, ρ x))) hn (fun _ => rfl) (fun a w hs => by
    show (Instr.build T (parts.toArray.map fun (i, x) => (i, a.eval x))).run P w = _
    rw [List.map_toArray, pvs_map hs hx]
    unfold Instr.build
    rw [run_bind_ok (zer_run hz.out), run_bind_ok und_run]
    simp only
    rw [run_bind_ok (siz_run hS.out)]
    rw [hz.cells]
    have hb := blA_fill hl
    simp only [hb]; rfl) c
theorem L.indexG {T e len n k : Nat} {x y : Operand} {cs vs : List Value} {q : IntKind} {i : Int} [hT : Und P T (.array len e)] [hA : Agl P e] [hS : Siz P e n] (hi : i = (k : Int)) (hk : k < len) (hv : (cs.drop (k * n)).take n = vs)
    (hn : Nat.blt d s.n = true := by exact rfl) (hx : ev E x = some (.agg cs.toArray) := by exact rfl) (hy : ev E y = some (.int q i) := by exact rfl)
    (c : L P ops Q rest s ((d, .agg vs.toArray) :: E) M) : L P ops Q (⟨some d, .index T x y, t, pos, af, none⟩ :: rest) s E M :=
  L.calm (S := fun ρ => Instr.index T (ρ x) (ρ y)) hn (fun _ => rfl) (fun a w hs => by
    show (Instr.index T (a.eval x) (a.eval y)).run P w = _
    rw [hs.ev hx, hs.ev hy, hi]
    unfold Instr.index
    have e : (asIntOf (.int q (k : Int)) : Sem (IntKind × Int)).run P w = .ok (q, (k : Int)) w := rfl
    rw [run_bind_ok e]
    show Sem.run P (underlying T >>= _) w = _
    rw [run_bind_ok und_run]
    simp only
    rw [if_pos ⟨by omega, by omega⟩, run_bind_ok (siz_run hS.out)]
    obtain ⟨ds, hu, hg⟩ := hA.out
    have hu : Und P _ ds := ⟨hu⟩
    unfold part
    rw [run_bind_ok agg_run, hg]
    simp only [if_true]
    rw [run_bind_ok (siz_run hS.out)]
    rw [← hv]
    simp) c
theorem L.indexArr {T e len n k b o : Nat} {x y : Operand} {q : IntKind} {i : Int} [hT : Und P T (.array len e)] [hS : Siz P e n] (hi : i = (k : Int)) (hk : k < len)
    (hn : Nat.blt d s.n = true := by exact rfl) (hx : ev E x = some (.pointer (some ⟨b, o, none⟩)) := by exact rfl) (hy : ev E y = some (.int q i) := by exact rfl)
    (c : L P ops Q rest s ((d, .pointer (some ⟨b, o + k * n, none⟩)) :: E) M) : L P ops Q (⟨some d, .indexAddr T x y, t, pos, af, none⟩ :: rest) s E M :=
  L.val hn (fun a w hs => ⟨w, by
    refine run_value (s := Instr.indexAt T (a.eval x) (a.eval y)) ?_
    rw [hs.ev hx, hs.ev hy, hi]
    unfold Instr.indexAt
    simp [Sem.run_bind, run_underlying hT.out, asIntOf, Result.andThen, hk, siz_run hS.out, add_at, Instr.sureAddr], hs.at_⟩) c
/-- A branch of unknown truth: what is found out is told of the slot. -/
theorem C.condE {x y : Code} {c : Nat} {b : Bool} (hv : lk E c = some (.bool b) := by exact rfl) (h1 : b = true → C P x Q s ((c, .bool true) :: E) M) (h2 : b = false → C P y Q s ((c, .bool false) :: E) M) : C P (.cond (.tmp c) x y) Q s E M :=
  fun a w hs => C.cond (v := .tmp c) (t := b) (E := E) hv (fun h a w hs => h1 h a w (hs.known hv h)) (fun h a w hs => h2 h a w (hs.known hv h)) a w hs
theorem C.yesH {x y : Code} {v : Operand} {b : Bool} (hv : ev E v = some (.bool b) := by exact rfl) (hb : b = true := by with_reducible assumption) (h1 : C P x Q s E M) : C P (.cond v x y) Q s E M :=
  C.cond hv (fun _ => h1) (fun h => by rw [hb] at h; cases h)
theorem C.noH {x y : Code} {v : Operand} {b : Bool} (hv : ev E v = some (.bool b) := by exact rfl) (hb : b = false := by with_reducible assumption) (h1 : C P y Q s E M) : C P (.cond v x y) Q s E M :=
  C.cond hv (fun h => by rw [hb] at h; cases h) (fun _ => h1)
end
end Go.Proofs.Ytkjlgapkcdcmgaa.SL
