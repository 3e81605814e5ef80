/- keysmithref12.Check: plain. -/
import Derived.Test.YtkjlgapkcdcmgaaLk6
import Derived.Test.YtkjlgapkcdcmgaaSepGZ
set_option linter.unusedVariables false
set_option linter.unusedSimpArgs false
namespace Go.Proofs.Ytkjlgapkcdcmgaa
open Go Go.RowKit SL
attribute [local irreducible] SL.L SL.C SL.D SL.N SL.H SL.QL SL.QW SL.QP

/-- What a checker knows: which registers are made, the loops' registers, the outmost first. -/
structure Ck where
  made : List Bool
  loops : List Int
def mdAt (l : List Bool) (r : Int) : Bool := (l[r.toNat]?).getD false
def rhead (regs : Int) (bs : List Bf) (no : Nat) : Option Int :=
  if (cm .gtr regs 64 || cm .gtr bs.length 32) || cm .gtr no 65536 then some 3
  else if bs.any (fun b => cm .gtr b.size 65536) then some 3
  else if cm .lss regs 0 then some 2
  else if bs.any (fun b => (cm .lss b.size 1 || cm .lss b.kind 1) || cm .gtr b.kind 3) then some 2
  else none
def setAll (l : List Bool) (rs : List Int) : List Bool := rs.foldl (fun l r => l.set r.toNat true) l
def rstep (regs : Int) (bs : List Bf) (c : Ck) (o : Lop) : Int ⊕ Ck :=
  if rfields regs bs o then
    if cm .eql o.k 17 then
      (match c.loops.getLast? with
      | none => .inl 9
      | some r => .inr ⟨c.made.set r.toNat false, c.loops.dropLast⟩)
    else if (makesM o).any (fun r => c.loops.contains r) then .inl 9
    else if cm .eql o.k 16 && mdAt c.made o.d then .inl 9
    else if cm .eql o.k 16 && cm .eql c.loops.length 8 then .inl 10
    else if (takesM o).any (fun r => !mdAt c.made r) then .inl 5
    else .inr ⟨setAll c.made (makesM o), if cm .eql o.k 16 then c.loops ++ [o.d] else c.loops⟩
  else .inl 2
def rrun (regs : Int) (bs : List Bf) : List Lop → Nat → Ck → Int × Int
  | [], i, c => (i, if c.loops = [] then 0 else 9)
  | o :: os, i, c => match rstep regs bs c o with
    | .inl e => (i, e)
    | .inr c' => rrun regs bs os (i + 1) c'
def checkM (regs : Int) (bs : List Bf) (os : List Lop) : Int × Int :=
  match rhead regs bs os.length with
  | some e => (0, e)
  | none => rrun regs bs os 0 ⟨List.replicate regs.toNat false, []⟩
/-- The loops are registers; the made ones are told of each register. -/
def Ck.ok (regs : Int) (c : Ck) : Prop := c.made.length = regs.toNat ∧ c.loops.length ≤ 8 ∧ ∀ r ∈ c.loops, 0 ≤ r ∧ r < regs
theorem setAll_len (rs : List Int) : ∀ l : List Bool, (setAll l rs).length = l.length := by
  induction rs with
  | nil => intro l; rfl
  | cons r rs ih => intro l; show (setAll (l.set r.toNat true) rs).length = _; rw [ih, List.length_set]
end Go.Proofs.Ytkjlgapkcdcmgaa
