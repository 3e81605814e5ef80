import Derived.Test.YtbcaelhchmoigaaLiB
set_option linter.unusedVariables false
set_option linter.unusedSimpArgs false
namespace Go.Proofs.Ytbcaelhchmoigaa.Ly
open Go Go.RowKit Calm SL
theorem out_enc {x : Ins} (hc : x.chk = true) : x.out.size = x.enc.length := by rw [← bytesOf_length, Ins.out_ok hc, bytesOf_strB (Ins.enc_bytes hc).1]
theorem out_pos {x : Ins} (hc : x.chk = true) : 1 ≤ x.out.size ∧ x.out.size ≤ 11 := by rw [out_enc hc]; exact (Ins.enc_bytes hc).2
theorem jump_chk {x : Ins} (h : x.jump = true) : x.chk = true := by unfold Ins.jump at h; simp only [Bool.and_eq_true] at h; exact h.2
def nul (x : Ins) : Ins := ⟨x.op, x.d, x.s, x.t, x.mb, x.mi, x.ms, x.md, 0⟩
section
variable (R : List (Nat × Ins)) (len : Nat)
def chainG : Nat → List (Nat × Ins) → Prop
  | a, [] => a = len
  | a, r :: S => r.1 = a ∧ r.2.chk = true ∧ (∀ b : Nat, 0 < hitN R (b : Int) → b ≤ a ∨ a + r.2.out.size ≤ b) ∧ chainG (a + r.2.out.size) S
variable {R : List (Nat × Ins)} {len : Nat}
theorem numB_gap {a b : Nat} (h : a ≤ b) (hno : ∀ c : Nat, a ≤ c → c < b → ¬ 0 < hitN R (c : Int)) : numB R b = numB R a := by
  induction b with
  | zero => have : a = 0 := by omega
            subst this; rfl
  | succ b ih =>
    rcases Nat.lt_or_ge a (b + 1) with h1 | h1
    · rw [numB_succ, if_neg (hno b (by omega) (by omega)), ih (by omega) (fun c h2 h3 => hno c h2 (by omega)), Nat.add_zero]
    · have : a = b + 1 := by omega
      subst this; rfl
theorem labB_nat {a : Nat} (h : 0 < hitN R (a : Int)) : labB R (a : Int) = ((numB R a + 1 : Nat) : Int) := by
  unfold labB; rw [if_pos h, Int.toNat_natCast, numB_succ, if_pos h]
def Ls (R : List (Nat × Ins)) (len : Nat) (S : List (Nat × Ins)) : List Ln := lsOf R S ++ lab1 R (len : Int)
def catR : List (Nat × Ins) → ByteArray
  | [] => ⟨#[]⟩
  | r :: S => r.2.out ++ catR S
def labsOK (all : List Ln) : Nat → List Ln → Prop
  | _, [] => True
  | n, x :: r => if x.lab = 0 then labsOK all n r else x.lab = ((n + 1 : Nat) : Int) ∧ (∃ y ∈ all, y.to = x.lab) ∧ labsOK all (n + 1) r
theorem hit_row {b : Int} (h : 0 < hitN R b) : ∃ r ∈ R, r.2.jump = true ∧ goalI r = b := by
  unfold hitN at h
  obtain ⟨r, hr, hh⟩ := List.countP_pos_iff.1 h
  simp only [Bool.and_eq_true, beq_iff_eq] at hh
  exact ⟨r, hr, hh.1, hh.2⟩
end
end Go.Proofs.Ytbcaelhchmoigaa.Ly
