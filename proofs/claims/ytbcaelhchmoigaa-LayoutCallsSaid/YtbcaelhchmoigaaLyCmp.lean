import Derived.Test.YtbcaelhchmoigaaSepP
import Derived.Test.YtbcaelhchmoigaaTy
set_option linter.unusedVariables false
set_option linter.unusedSimpArgs false
namespace Go.Proofs.Ytbcaelhchmoigaa.Ly
open Go Go.RowKit SL
attribute [local irreducible] SL.L SL.C SL.D SL.N SL.H SL.QL SL.QW SL.QP
theorem cm_no {a b : Int} (h : a ≠ b) : cm .eql a b = false := by show (a == b) = false; rwa [beq_eq_false_iff_ne]
theorem cm_yes {a b : Int} (h : a = b) : cm .eql a b = true := by show (a == b) = true; rwa [beq_iff_eq]
theorem cm_ne {a b : Int} (h : a ≠ b) : cm .neq a b = true := by show (a != b) = true; simpa using h
theorem cm_ne' {a b : Int} (h : a = b) : cm .neq a b = false := by show (a != b) = false; simpa using h
theorem cm_lo {a b : Int} (h : a < b) : cm .lss a b = true := by show decide (a < b) = true; simpa using h
theorem cm_lo' {a b : Int} (h : b ≤ a) : cm .lss a b = false := by show decide (a < b) = false; simpa using h
theorem cm_gt {a b : Int} (h : b < a) : cm .gtr a b = true := by show decide (a > b) = true; simpa using h
theorem cm_gt' {a b : Int} (h : a ≤ b) : cm .gtr a b = false := by show decide (a > b) = false; simpa using h
theorem cm_le {a b : Int} (h : a ≤ b) : cm .leq a b = true := by show decide (a ≤ b) = true; simpa using h
theorem cm_le' {a b : Int} (h : b < a) : cm .leq a b = false := by show decide (a ≤ b) = false; simpa using h
theorem cm_ge {a b : Int} (h : b ≤ a) : cm .geq a b = true := by show decide (a ≥ b) = true; simpa using h
theorem cm_ge' {a b : Int} (h : a < b) : cm .geq a b = false := by show decide (a ≥ b) = false; simpa using h
theorem wrap_nat {n : Int} (h : 0 ≤ n ∧ n ≤ 2000000) : IntKind.i64.wrap n = n := by
  simp only [IntKind.wrap, IntKind.bits, IntKind.signed]
  simp
  split <;> omega
theorem flat_len {α : Type} {n : Nat} {enc : α → List Value} (he : ∀ x, (enc x).length = n) (xs : List α) : (xs.flatMap enc).length = xs.length * n := by
  induction xs with
  | nil => simp
  | cons x xs ih => rw [List.flatMap_cons, List.length_append, ih, he, List.length_cons, Nat.add_mul]; omega
theorem flat_get {α : Type} {n : Nat} {enc : α → List Value} (he : ∀ x, (enc x).length = n) : ∀ (xs : List α) (i : Nat) (x : α), xs[i]? = some x → ∀ j, j < n → (xs.flatMap enc)[i * n + j]? = (enc x)[j]?
  | [], i, x, h, _, _ => by simp at h
  | y :: xs, 0, x, h, j, hj => by
    cases h
    rw [List.flatMap_cons, List.getElem?_append_left (by rw [he]; omega)]; simp
  | y :: xs, i + 1, x, h, j, hj => by
    rw [List.flatMap_cons, List.getElem?_append_right (by rw [he, Nat.add_mul]; omega), he]
    have e : (i + 1) * n + j - n = i * n + j := by rw [Nat.add_mul]; omega
    rw [e]
    exact flat_get he xs i x (by simpa using h) j hj
theorem flat_at {α : Type} {n : Nat} {enc : α → List Value} (he : ∀ x, (enc x).length = n) {xs : List α} {i : Nat} {x : α} (hx : xs[i]? = some x) : ((xs.flatMap enc).drop (i * n)).take n = enc x ∧ i * n + n ≤ (xs.flatMap enc).length := by
  have hi : i < xs.length := (List.getElem?_eq_some_iff.1 hx).1
  have hle : i * n + n ≤ (xs.flatMap enc).length := by
    rw [flat_len he]
    have := Nat.mul_le_mul_right n (show i + 1 ≤ xs.length by omega)
    rw [Nat.add_mul] at this; omega
  refine ⟨?_, hle⟩
  apply List.ext_getElem?
  intro j
  rw [List.getElem?_take]
  split
  · rename_i hj
    rw [List.getElem?_drop]
    exact flat_get he xs i x hx j hj
  · rename_i hj
    rw [List.getElem?_eq_none (by rw [he]; omega)]
theorem take_succ_eq {α : Type} {xs : List α} {i : Nat} {x : α} (h : xs[i]? = some x) : xs.take (i + 1) = xs.take i ++ [x] := by
  rw [List.take_add_one, h]; rfl
def pickI (n m : Int) : Int := if m < 1 then 0 else n % m
end Go.Proofs.Ytbcaelhchmoigaa.Ly
