/- Plain: the lines of code, laid out, are the code; labels are numbered by their places, and each is jumped to. -/
import Derived.Test.YtbcaelhchmoigaaLiB
set_option linter.unusedVariables false
set_option linter.unusedSimpArgs false
namespace Go.Proofs.Ytbcaelhchmoigaa.Ly
open Go Go.RowKit Calm SL

theorem out_enc {x : Ins} (hc : x.chk = true) : x.out.size = x.enc.length := by rw [← bytesOf_length, Ins.out_ok hc, bytesOf_strB (Ins.enc_bytes hc).1]
theorem out_pos {x : Ins} (hc : x.chk = true) : 1 ≤ x.out.size ∧ x.out.size ≤ 11 := by rw [out_enc hc]; exact (Ins.enc_bytes hc).2
theorem jump_chk {x : Ins} (h : x.jump = true) : x.chk = true := by unfold Ins.jump at h; simp only [Bool.and_eq_true] at h; exact h.2
def nul (x : Ins) : Ins := ⟨x.op, x.d, x.s, x.t, x.mb, x.mi, x.ms, x.md, 0⟩
section
variable (R : List (Nat × Ins)) (len : Nat)
/-- Rows one behind the other up to the end, no goal within one. -/
def chainG : Nat → List (Nat × Ins) → Prop
  | a, [] => a = len
  | a, r :: S => r.1 = a ∧ r.2.chk = true ∧ (∀ b : Nat, 0 < hitN R (b : Int) → b ≤ a ∨ a + r.2.out.size ≤ b) ∧ chainG (a + r.2.out.size) S
variable {R : List (Nat × Ins)} {len : Nat}
/-- The lines that are left. -/
def Ls (R : List (Nat × Ins)) (len : Nat) (S : List (Nat × Ins)) : List Ln := lsOf R S ++ lab1 R (len : Int)
/-- The code of rows. -/
def catR : List (Nat × Ins) → ByteArray
  | [] => ⟨#[]⟩
  | r :: S => r.2.out ++ catR S
/-! ### Checked -/
/-! ### Labels by their places -/
def labsOK (all : List Ln) : Nat → List Ln → Prop
  | _, [] => True
  | n, x :: r => if x.lab = 0 then labsOK all n r else x.lab = ((n + 1 : Nat) : Int) ∧ (∃ y ∈ all, y.to = x.lab) ∧ labsOK all (n + 1) r
/-! ### Rows that were read -/
end
end Go.Proofs.Ytbcaelhchmoigaa.Ly
