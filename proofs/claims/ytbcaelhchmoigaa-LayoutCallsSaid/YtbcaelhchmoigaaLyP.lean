import Derived.Test.YtbcaelhchmoigaaME
namespace Go.Proofs.Ytbcaelhchmoigaa.Ly
open Go.RowKit Calm
structure Ln where
  lab : Int
  ins : Ins
  to : Int
def Ln.vs (x : Ln) : List Value := [.int .i64 x.lab, .int .i64 x.ins.op, .int .i64 x.ins.d, .int .i64 x.ins.s, .int .i64 x.ins.t, .int .i64 x.ins.mb, .int .i64 x.ins.mi, .int .i64 x.ins.ms, .int .i64 x.ins.md, .int .i64 x.ins.imm, .int .i64 x.to]
def Ln.V (x : Ln) : Value := .agg #[.int .i64 x.lab, .int .i64 x.ins.op, .int .i64 x.ins.d, .int .i64 x.ins.s, .int .i64 x.ins.t, .int .i64 x.ins.mb, .int .i64 x.ins.mi, .int .i64 x.ins.ms, .int .i64 x.ins.md, .int .i64 x.ins.imm, .int .i64 x.to]
def Ln.ok (x : Ln) : Prop := (-9223372036854775808 ≤ x.lab ∧ x.lab ≤ 9223372036854775807) ∧ x.ins.ok ∧ (-9223372036854775808 ≤ x.to ∧ x.to ≤ 9223372036854775807)
def _root_.Go.Proofs.Ytbcaelhchmoigaa.Ins.isZ (x : Ins) : Bool := (x.op == 0) && ((x.d == 0) && ((x.s == 0) && ((x.t == 0) && ((x.mb == 0) && ((x.mi == 0) && ((x.ms == 0) && ((x.md == 0) && ((x.imm == 0) && true))))))))
def _root_.Go.Proofs.Ytbcaelhchmoigaa.Ins.jump (x : Ins) : Bool := (x.op == 30 || x.op == 31 || x.op == 32) && x.chk
def Ln.size (x : Ln) : Nat := if x.lab = 0 then x.ins.out.size else 0
def cnt (l : List Ln) (n : Int) : Nat := l.countP (fun x => x.lab == n)
def lineE (a n : Nat) (x : Ln) : Int :=
  if x.lab < 0 ∨ (0 < x.lab ∧ (x.ins.isZ = false ∨ x.to ≠ 0)) then 2
  else if 0 < x.lab ∧ 0 < a then 6
  else if 0 < x.lab then 0
  else if x.ins.chk = false ∨ (x.ins.jump = true ∧ x.ins.imm ≠ 0) ∨ (x.ins.jump = false ∧ x.to ≠ 0) then 2
  else if x.ins.jump = true ∧ (x.to < 1 ∨ n = 0) then 5 else 0
def firstE (all : List Ln) : List Ln → List Ln → Option (Nat × Int)
  | _, [] => none
  | pre, x :: r => if lineE (cnt pre x.lab) (cnt all x.to) x = 0 then firstE all (pre ++ [x]) r else some (pre.length, lineE (cnt pre x.lab) (cnt all x.to) x)
def total (l : List Ln) : Nat := (l.map Ln.size).sum
def lcheck (l : List Ln) : Nat × Int := match firstE l [] l with
  | some p => p
  | none => (l.length, if 1048576 < total l then 10 else 0)
def places : Nat → List Ln → List Nat
  | _, [] => []
  | a, x :: r => a :: places (a + x.size) r
def goalP (n : Int) : Nat → Int → List Ln → Int
  | _, d, [] => d
  | a, d, x :: r => goalP n (a + x.size) (if 0 < x.lab ∧ x.lab = n then (a : Int) else d) r
def fix (g : Int) (a : Nat) (x : Ln) : Ins := if x.ins.jump = true then { x.ins with imm := g - a - x.size } else x.ins
def lgo (g : Int → Int) : Nat → List Ln → ByteArray → ByteArray × Int
  | _, [], acc => (acc, 0)
  | a, x :: r, acc => if x.size = 0 then lgo g a r acc else
      if (fix (g x.to) a x).chk = true then lgo g (a + x.size) r (acc ++ (fix (g x.to) a x).out) else (⟨#[]⟩, 2)
def lbytes (l : List Ln) : ByteArray × Int := if (lcheck l).2 = 0 then lgo (fun n => goalP n 0 0 l) 0 l ⟨#[]⟩ else (⟨#[]⟩, (lcheck l).2)
def sh (b : Int) (n : Int) : Int := if 0 < n then n + b else n
def Ln.sh (b : Int) (x : Ln) : Ln := ⟨Ly.sh b x.lab, x.ins, Ly.sh b x.to⟩
theorem cnt_app (l m : List Ln) (n : Int) : cnt (l ++ m) n = cnt l n + cnt m n := by unfold cnt; rw [List.countP_append]
theorem goalP_skip (n : Int) : ∀ (l : List Ln) (a : Nat) (d : Int), (∀ x ∈ l, ¬ (0 < x.lab ∧ x.lab = n)) → goalP n a d l = d
  | [], a, d, _ => rfl
  | x :: r, a, d, h => by
    rw [goalP, if_neg (h x List.mem_cons_self)]; exact goalP_skip n r _ d (fun y hy => h y (List.mem_cons_of_mem _ hy))
theorem total_cons (x : Ln) (l : List Ln) : total (x :: l) = x.size + total l := rfl
theorem total_app (l m : List Ln) : total (l ++ m) = total l + total m := by unfold total; simp
theorem goalP_app (n : Int) : ∀ (l m : List Ln) (a : Nat) (d : Int), goalP n a d (l ++ m) = goalP n (a + total l) (goalP n a d l) m
  | [], m, a, d => rfl
  | x :: l, m, a, d => by
    simp only [List.cons_append, goalP]
    rw [goalP_app n l m, total_cons, Nat.add_assoc]
theorem lcheck_ok {l : List Ln} (hs : total l ≤ 1048576) : (lcheck l).2 = 0 ↔ firstE l [] l = none := by
  unfold lcheck
  cases h : firstE l [] l with
  | none => simp [show ¬ 1048576 < total l by omega]
  | some p =>
    simp only [reduceCtorEq, iff_false]
    have : ∀ (all r pre : List Ln), firstE all pre r = some p → p.2 ≠ 0 := by
      intro all r
      induction r with
      | nil => intro pre h; cases h
      | cons x r ih =>
        intro pre h
        simp only [firstE] at h
        split at h
        · exact ih _ h
        · rename_i hn; cases h; exact hn
    exact this _ _ _ h
end Go.Proofs.Ytbcaelhchmoigaa.Ly
