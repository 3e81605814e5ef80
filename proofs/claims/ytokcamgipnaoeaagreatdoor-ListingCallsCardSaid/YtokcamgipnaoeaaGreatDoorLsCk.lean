/- What inst.Check asks of each operation (from wip/inst: XEAny's plain half). -/
import Derived.Test.YtokcamgipnaoeaaGreatDoorMA
set_option linter.unusedVariables false
set_option linter.unusedSimpArgs false
namespace Go.Proofs.YtokcamgipnaoeaaGreatDoor
open Go.RowKit Calm
def Reg (r : Int) : Prop := 0 ≤ r ∧ r ≤ 15
theorem reg_of {x : Int} (h : reg x = true) : Reg x := by unfold reg at h; simp only [Bool.and_eq_true, decide_eq_true_eq] at h; exact h
theorem of_reg {x : Int} (h : Reg x) : reg x = true := by unfold reg; unfold Reg at h; simp only [Bool.and_eq_true, decide_eq_true_eq]; exact h
theorem fldT {f k x : Int} (hk : has f k = true) : (fld f k x = true) = Reg x := by
  unfold fld; rw [if_pos hk]; exact propext ⟨reg_of, of_reg⟩
theorem fldF {f k x : Int} (hk : has f k = false) : (fld f k x = true) = (x = 0) := by
  unfold fld; rw [if_neg (by rw [hk]; decide)]; simp
theorem memT {f mb mi ms md : Int} (hk : has f 8 = true) : (memOk f mb mi ms md = true) = (plc mb mi ms md = true) := by
  unfold memOk; rw [if_pos hk]
theorem memF {f mb mi ms md : Int} (hk : has f 8 = false) : (memOk f mb mi ms md = true) = (mb = 0 ∧ mi = 0 ∧ ms = 0 ∧ md = 0) := by
  unfold memOk memZ; rw [if_neg (by rw [hk]; decide)]; simp [and_assoc]
theorem num32 {f n : Int} (h1 : has f 32 = false) (h2 : has f 16 = true) : (numOk f n = true) = (-2147483648 ≤ n ∧ n ≤ 2147483647) := by
  unfold numOk smallB; rw [if_neg (by rw [h1]; decide), if_pos h2]; simp
theorem num63 {f n : Int} (h1 : has f 32 = false) (h2 : has f 16 = false) (h3 : has f 64 = true) : (numOk f n = true) = (1 ≤ n ∧ n ≤ 63) := by
  unfold numOk; rw [if_neg (by rw [h1]; decide), if_neg (by rw [h2]; decide), if_pos h3]; simp
theorem num0 {f n : Int} (h1 : has f 32 = false) (h2 : has f 16 = false) (h3 : has f 64 = false) : (numOk f n = true) = (n = 0) := by
  unfold numOk; rw [if_neg (by rw [h1]; decide), if_neg (by rw [h2]; decide), if_neg (by rw [h3]; decide)]; simp
theorem num64 {f n : Int} (h1 : has f 32 = true) : (numOk f n = true) = True := by
  unfold numOk; rw [if_pos h1]; simp
theorem chk_open (op d s t mb mi ms md imm : Int) : (chk op d s t mb mi ms md imm = true) =
    (((((((fName op).toList.isEmpty = false ∧ numOk (fIs op) imm = true) ∧ fld (fIs op) 1 d = true) ∧ fld (fIs op) 2 s = true) ∧ fld (fIs op) 4 t = true) ∧ memOk (fIs op) mb mi ms md = true) ∧ (has (fIs op) 4 = false ∨ ¬ d = s)) := by
  unfold chk
  simp only [Bool.and_eq_true, Bool.not_eq_true', Bool.and_eq_false_imp, beq_eq_false_iff_ne, ne_eq]
  by_cases h : has (fIs op) 4 = true
  · simp [h]
  · simp [Bool.not_eq_true] at h; simp [h]
theorem chk_range {op d s t mb mi ms md imm : Int} (h : chk op d s t mb mi ms md imm = true) : 1 ≤ op ∧ op ≤ 33 := by
  rw [chk_open] at h
  have h := h.1.1.1.1.1.1
  by_cases h1 : 0 ≤ op ∧ op < 34
  · rcases Int.lt_or_le 0 op with h2 | h2
    · omega
    · have : op = 0 := by omega
      subst this
      exact absurd h (by decide +kernel)
  · unfold fName at h
    rw [if_neg h1] at h
    exact absurd h (by decide +kernel)
theorem chk_1 (d s t mb mi ms md imm : Int) : (chk 1 d s t mb mi ms md imm = true) = (imm = 0 ∧ Reg d ∧ Reg s ∧ t = 0 ∧ (mb = 0 ∧ mi = 0 ∧ ms = 0 ∧ md = 0)) := by
  have e : (fName 1).toList.isEmpty = false := by decide +kernel
  have h4 : has (fIs 1) 4 = false := by decide +kernel
  rw [chk_open, e, h4, num0 (f := fIs 1) (by decide +kernel) (by decide +kernel) (by decide +kernel), fldT (f := fIs 1) (k := 1) (by decide +kernel), fldT (f := fIs 1) (k := 2) (by decide +kernel), fldF (f := fIs 1) (k := 4) (by decide +kernel), memF (f := fIs 1) (by decide +kernel)]
  simp [and_assoc]
theorem chk_2 (d s t mb mi ms md imm : Int) : (chk 2 d s t mb mi ms md imm = true) = (True ∧ Reg d ∧ s = 0 ∧ t = 0 ∧ (mb = 0 ∧ mi = 0 ∧ ms = 0 ∧ md = 0)) := by
  have e : (fName 2).toList.isEmpty = false := by decide +kernel
  have h4 : has (fIs 2) 4 = false := by decide +kernel
  rw [chk_open, e, h4, num64 (f := fIs 2) (by decide +kernel), fldT (f := fIs 2) (k := 1) (by decide +kernel), fldF (f := fIs 2) (k := 2) (by decide +kernel), fldF (f := fIs 2) (k := 4) (by decide +kernel), memF (f := fIs 2) (by decide +kernel)]
  simp [and_assoc]
theorem chk_3 (d s t mb mi ms md imm : Int) : (chk 3 d s t mb mi ms md imm = true) = (imm = 0 ∧ Reg d ∧ s = 0 ∧ t = 0 ∧ plc mb mi ms md = true) := by
  have e : (fName 3).toList.isEmpty = false := by decide +kernel
  have h4 : has (fIs 3) 4 = false := by decide +kernel
  rw [chk_open, e, h4, num0 (f := fIs 3) (by decide +kernel) (by decide +kernel) (by decide +kernel), fldT (f := fIs 3) (k := 1) (by decide +kernel), fldF (f := fIs 3) (k := 2) (by decide +kernel), fldF (f := fIs 3) (k := 4) (by decide +kernel), memT (f := fIs 3) (by decide +kernel)]
  simp [and_assoc]
theorem chk_4 (d s t mb mi ms md imm : Int) : (chk 4 d s t mb mi ms md imm = true) = (imm = 0 ∧ d = 0 ∧ Reg s ∧ t = 0 ∧ plc mb mi ms md = true) := by
  have e : (fName 4).toList.isEmpty = false := by decide +kernel
  have h4 : has (fIs 4) 4 = false := by decide +kernel
  rw [chk_open, e, h4, num0 (f := fIs 4) (by decide +kernel) (by decide +kernel) (by decide +kernel), fldF (f := fIs 4) (k := 1) (by decide +kernel), fldT (f := fIs 4) (k := 2) (by decide +kernel), fldF (f := fIs 4) (k := 4) (by decide +kernel), memT (f := fIs 4) (by decide +kernel)]
  simp [and_assoc]
theorem chk_5 (d s t mb mi ms md imm : Int) : (chk 5 d s t mb mi ms md imm = true) = (imm = 0 ∧ Reg d ∧ s = 0 ∧ t = 0 ∧ plc mb mi ms md = true) := by
  have e : (fName 5).toList.isEmpty = false := by decide +kernel
  have h4 : has (fIs 5) 4 = false := by decide +kernel
  rw [chk_open, e, h4, num0 (f := fIs 5) (by decide +kernel) (by decide +kernel) (by decide +kernel), fldT (f := fIs 5) (k := 1) (by decide +kernel), fldF (f := fIs 5) (k := 2) (by decide +kernel), fldF (f := fIs 5) (k := 4) (by decide +kernel), memT (f := fIs 5) (by decide +kernel)]
  simp [and_assoc]
theorem chk_6 (d s t mb mi ms md imm : Int) : (chk 6 d s t mb mi ms md imm = true) = (imm = 0 ∧ Reg d ∧ Reg s ∧ t = 0 ∧ (mb = 0 ∧ mi = 0 ∧ ms = 0 ∧ md = 0)) := by
  have e : (fName 6).toList.isEmpty = false := by decide +kernel
  have h4 : has (fIs 6) 4 = false := by decide +kernel
  rw [chk_open, e, h4, num0 (f := fIs 6) (by decide +kernel) (by decide +kernel) (by decide +kernel), fldT (f := fIs 6) (k := 1) (by decide +kernel), fldT (f := fIs 6) (k := 2) (by decide +kernel), fldF (f := fIs 6) (k := 4) (by decide +kernel), memF (f := fIs 6) (by decide +kernel)]
  simp [and_assoc]
theorem chk_7 (d s t mb mi ms md imm : Int) : (chk 7 d s t mb mi ms md imm = true) = (imm = 0 ∧ Reg d ∧ Reg s ∧ t = 0 ∧ (mb = 0 ∧ mi = 0 ∧ ms = 0 ∧ md = 0)) := by
  have e : (fName 7).toList.isEmpty = false := by decide +kernel
  have h4 : has (fIs 7) 4 = false := by decide +kernel
  rw [chk_open, e, h4, num0 (f := fIs 7) (by decide +kernel) (by decide +kernel) (by decide +kernel), fldT (f := fIs 7) (k := 1) (by decide +kernel), fldT (f := fIs 7) (k := 2) (by decide +kernel), fldF (f := fIs 7) (k := 4) (by decide +kernel), memF (f := fIs 7) (by decide +kernel)]
  simp [and_assoc]
theorem chk_8 (d s t mb mi ms md imm : Int) : (chk 8 d s t mb mi ms md imm = true) = (imm = 0 ∧ Reg d ∧ Reg s ∧ t = 0 ∧ (mb = 0 ∧ mi = 0 ∧ ms = 0 ∧ md = 0)) := by
  have e : (fName 8).toList.isEmpty = false := by decide +kernel
  have h4 : has (fIs 8) 4 = false := by decide +kernel
  rw [chk_open, e, h4, num0 (f := fIs 8) (by decide +kernel) (by decide +kernel) (by decide +kernel), fldT (f := fIs 8) (k := 1) (by decide +kernel), fldT (f := fIs 8) (k := 2) (by decide +kernel), fldF (f := fIs 8) (k := 4) (by decide +kernel), memF (f := fIs 8) (by decide +kernel)]
  simp [and_assoc]
theorem chk_9 (d s t mb mi ms md imm : Int) : (chk 9 d s t mb mi ms md imm = true) = (imm = 0 ∧ Reg d ∧ Reg s ∧ t = 0 ∧ (mb = 0 ∧ mi = 0 ∧ ms = 0 ∧ md = 0)) := by
  have e : (fName 9).toList.isEmpty = false := by decide +kernel
  have h4 : has (fIs 9) 4 = false := by decide +kernel
  rw [chk_open, e, h4, num0 (f := fIs 9) (by decide +kernel) (by decide +kernel) (by decide +kernel), fldT (f := fIs 9) (k := 1) (by decide +kernel), fldT (f := fIs 9) (k := 2) (by decide +kernel), fldF (f := fIs 9) (k := 4) (by decide +kernel), memF (f := fIs 9) (by decide +kernel)]
  simp [and_assoc]
theorem chk_10 (d s t mb mi ms md imm : Int) : (chk 10 d s t mb mi ms md imm = true) = (imm = 0 ∧ Reg d ∧ Reg s ∧ t = 0 ∧ (mb = 0 ∧ mi = 0 ∧ ms = 0 ∧ md = 0)) := by
  have e : (fName 10).toList.isEmpty = false := by decide +kernel
  have h4 : has (fIs 10) 4 = false := by decide +kernel
  rw [chk_open, e, h4, num0 (f := fIs 10) (by decide +kernel) (by decide +kernel) (by decide +kernel), fldT (f := fIs 10) (k := 1) (by decide +kernel), fldT (f := fIs 10) (k := 2) (by decide +kernel), fldF (f := fIs 10) (k := 4) (by decide +kernel), memF (f := fIs 10) (by decide +kernel)]
  simp [and_assoc]
theorem chk_11 (d s t mb mi ms md imm : Int) : (chk 11 d s t mb mi ms md imm = true) = (imm = 0 ∧ Reg d ∧ Reg s ∧ t = 0 ∧ (mb = 0 ∧ mi = 0 ∧ ms = 0 ∧ md = 0)) := by
  have e : (fName 11).toList.isEmpty = false := by decide +kernel
  have h4 : has (fIs 11) 4 = false := by decide +kernel
  rw [chk_open, e, h4, num0 (f := fIs 11) (by decide +kernel) (by decide +kernel) (by decide +kernel), fldT (f := fIs 11) (k := 1) (by decide +kernel), fldT (f := fIs 11) (k := 2) (by decide +kernel), fldF (f := fIs 11) (k := 4) (by decide +kernel), memF (f := fIs 11) (by decide +kernel)]
  simp [and_assoc]
theorem chk_12 (d s t mb mi ms md imm : Int) : (chk 12 d s t mb mi ms md imm = true) = (imm = 0 ∧ Reg d ∧ Reg s ∧ t = 0 ∧ (mb = 0 ∧ mi = 0 ∧ ms = 0 ∧ md = 0)) := by
  have e : (fName 12).toList.isEmpty = false := by decide +kernel
  have h4 : has (fIs 12) 4 = false := by decide +kernel
  rw [chk_open, e, h4, num0 (f := fIs 12) (by decide +kernel) (by decide +kernel) (by decide +kernel), fldT (f := fIs 12) (k := 1) (by decide +kernel), fldT (f := fIs 12) (k := 2) (by decide +kernel), fldF (f := fIs 12) (k := 4) (by decide +kernel), memF (f := fIs 12) (by decide +kernel)]
  simp [and_assoc]
theorem chk_13 (d s t mb mi ms md imm : Int) : (chk 13 d s t mb mi ms md imm = true) = (imm = 0 ∧ Reg d ∧ Reg s ∧ t = 0 ∧ (mb = 0 ∧ mi = 0 ∧ ms = 0 ∧ md = 0)) := by
  have e : (fName 13).toList.isEmpty = false := by decide +kernel
  have h4 : has (fIs 13) 4 = false := by decide +kernel
  rw [chk_open, e, h4, num0 (f := fIs 13) (by decide +kernel) (by decide +kernel) (by decide +kernel), fldT (f := fIs 13) (k := 1) (by decide +kernel), fldT (f := fIs 13) (k := 2) (by decide +kernel), fldF (f := fIs 13) (k := 4) (by decide +kernel), memF (f := fIs 13) (by decide +kernel)]
  simp [and_assoc]
theorem chk_14 (d s t mb mi ms md imm : Int) : (chk 14 d s t mb mi ms md imm = true) = (imm = 0 ∧ Reg d ∧ Reg s ∧ t = 0 ∧ (mb = 0 ∧ mi = 0 ∧ ms = 0 ∧ md = 0)) := by
  have e : (fName 14).toList.isEmpty = false := by decide +kernel
  have h4 : has (fIs 14) 4 = false := by decide +kernel
  rw [chk_open, e, h4, num0 (f := fIs 14) (by decide +kernel) (by decide +kernel) (by decide +kernel), fldT (f := fIs 14) (k := 1) (by decide +kernel), fldT (f := fIs 14) (k := 2) (by decide +kernel), fldF (f := fIs 14) (k := 4) (by decide +kernel), memF (f := fIs 14) (by decide +kernel)]
  simp [and_assoc]
theorem chk_15 (d s t mb mi ms md imm : Int) : (chk 15 d s t mb mi ms md imm = true) = ((-2147483648 ≤ imm ∧ imm ≤ 2147483647) ∧ Reg d ∧ s = 0 ∧ t = 0 ∧ (mb = 0 ∧ mi = 0 ∧ ms = 0 ∧ md = 0)) := by
  have e : (fName 15).toList.isEmpty = false := by decide +kernel
  have h4 : has (fIs 15) 4 = false := by decide +kernel
  rw [chk_open, e, h4, num32 (f := fIs 15) (by decide +kernel) (by decide +kernel), fldT (f := fIs 15) (k := 1) (by decide +kernel), fldF (f := fIs 15) (k := 2) (by decide +kernel), fldF (f := fIs 15) (k := 4) (by decide +kernel), memF (f := fIs 15) (by decide +kernel)]
  simp [and_assoc]
theorem chk_16 (d s t mb mi ms md imm : Int) : (chk 16 d s t mb mi ms md imm = true) = ((-2147483648 ≤ imm ∧ imm ≤ 2147483647) ∧ Reg d ∧ s = 0 ∧ t = 0 ∧ (mb = 0 ∧ mi = 0 ∧ ms = 0 ∧ md = 0)) := by
  have e : (fName 16).toList.isEmpty = false := by decide +kernel
  have h4 : has (fIs 16) 4 = false := by decide +kernel
  rw [chk_open, e, h4, num32 (f := fIs 16) (by decide +kernel) (by decide +kernel), fldT (f := fIs 16) (k := 1) (by decide +kernel), fldF (f := fIs 16) (k := 2) (by decide +kernel), fldF (f := fIs 16) (k := 4) (by decide +kernel), memF (f := fIs 16) (by decide +kernel)]
  simp [and_assoc]
theorem chk_17 (d s t mb mi ms md imm : Int) : (chk 17 d s t mb mi ms md imm = true) = ((-2147483648 ≤ imm ∧ imm ≤ 2147483647) ∧ Reg d ∧ s = 0 ∧ t = 0 ∧ (mb = 0 ∧ mi = 0 ∧ ms = 0 ∧ md = 0)) := by
  have e : (fName 17).toList.isEmpty = false := by decide +kernel
  have h4 : has (fIs 17) 4 = false := by decide +kernel
  rw [chk_open, e, h4, num32 (f := fIs 17) (by decide +kernel) (by decide +kernel), fldT (f := fIs 17) (k := 1) (by decide +kernel), fldF (f := fIs 17) (k := 2) (by decide +kernel), fldF (f := fIs 17) (k := 4) (by decide +kernel), memF (f := fIs 17) (by decide +kernel)]
  simp [and_assoc]
theorem chk_18 (d s t mb mi ms md imm : Int) : (chk 18 d s t mb mi ms md imm = true) = ((-2147483648 ≤ imm ∧ imm ≤ 2147483647) ∧ Reg d ∧ s = 0 ∧ t = 0 ∧ (mb = 0 ∧ mi = 0 ∧ ms = 0 ∧ md = 0)) := by
  have e : (fName 18).toList.isEmpty = false := by decide +kernel
  have h4 : has (fIs 18) 4 = false := by decide +kernel
  rw [chk_open, e, h4, num32 (f := fIs 18) (by decide +kernel) (by decide +kernel), fldT (f := fIs 18) (k := 1) (by decide +kernel), fldF (f := fIs 18) (k := 2) (by decide +kernel), fldF (f := fIs 18) (k := 4) (by decide +kernel), memF (f := fIs 18) (by decide +kernel)]
  simp [and_assoc]
theorem chk_19 (d s t mb mi ms md imm : Int) : (chk 19 d s t mb mi ms md imm = true) = (imm = 0 ∧ Reg d ∧ Reg s ∧ Reg t ∧ (mb = 0 ∧ mi = 0 ∧ ms = 0 ∧ md = 0) ∧ d ≠ s) := by
  have e : (fName 19).toList.isEmpty = false := by decide +kernel
  have h4 : has (fIs 19) 4 = true := by decide +kernel
  rw [chk_open, e, h4, num0 (f := fIs 19) (by decide +kernel) (by decide +kernel) (by decide +kernel), fldT (f := fIs 19) (k := 1) (by decide +kernel), fldT (f := fIs 19) (k := 2) (by decide +kernel), fldT (f := fIs 19) (k := 4) (by decide +kernel), memF (f := fIs 19) (by decide +kernel)]
  simp [and_assoc]
theorem chk_20 (d s t mb mi ms md imm : Int) : (chk 20 d s t mb mi ms md imm = true) = (imm = 0 ∧ Reg d ∧ Reg s ∧ t = 0 ∧ (mb = 0 ∧ mi = 0 ∧ ms = 0 ∧ md = 0)) := by
  have e : (fName 20).toList.isEmpty = false := by decide +kernel
  have h4 : has (fIs 20) 4 = false := by decide +kernel
  rw [chk_open, e, h4, num0 (f := fIs 20) (by decide +kernel) (by decide +kernel) (by decide +kernel), fldT (f := fIs 20) (k := 1) (by decide +kernel), fldT (f := fIs 20) (k := 2) (by decide +kernel), fldF (f := fIs 20) (k := 4) (by decide +kernel), memF (f := fIs 20) (by decide +kernel)]
  simp [and_assoc]
theorem chk_21 (d s t mb mi ms md imm : Int) : (chk 21 d s t mb mi ms md imm = true) = (imm = 0 ∧ Reg d ∧ Reg s ∧ t = 0 ∧ (mb = 0 ∧ mi = 0 ∧ ms = 0 ∧ md = 0)) := by
  have e : (fName 21).toList.isEmpty = false := by decide +kernel
  have h4 : has (fIs 21) 4 = false := by decide +kernel
  rw [chk_open, e, h4, num0 (f := fIs 21) (by decide +kernel) (by decide +kernel) (by decide +kernel), fldT (f := fIs 21) (k := 1) (by decide +kernel), fldT (f := fIs 21) (k := 2) (by decide +kernel), fldF (f := fIs 21) (k := 4) (by decide +kernel), memF (f := fIs 21) (by decide +kernel)]
  simp [and_assoc]
theorem chk_22 (d s t mb mi ms md imm : Int) : (chk 22 d s t mb mi ms md imm = true) = (imm = 0 ∧ Reg d ∧ s = 0 ∧ t = 0 ∧ (mb = 0 ∧ mi = 0 ∧ ms = 0 ∧ md = 0)) := by
  have e : (fName 22).toList.isEmpty = false := by decide +kernel
  have h4 : has (fIs 22) 4 = false := by decide +kernel
  rw [chk_open, e, h4, num0 (f := fIs 22) (by decide +kernel) (by decide +kernel) (by decide +kernel), fldT (f := fIs 22) (k := 1) (by decide +kernel), fldF (f := fIs 22) (k := 2) (by decide +kernel), fldF (f := fIs 22) (k := 4) (by decide +kernel), memF (f := fIs 22) (by decide +kernel)]
  simp [and_assoc]
theorem chk_23 (d s t mb mi ms md imm : Int) : (chk 23 d s t mb mi ms md imm = true) = (imm = 0 ∧ Reg d ∧ s = 0 ∧ t = 0 ∧ (mb = 0 ∧ mi = 0 ∧ ms = 0 ∧ md = 0)) := by
  have e : (fName 23).toList.isEmpty = false := by decide +kernel
  have h4 : has (fIs 23) 4 = false := by decide +kernel
  rw [chk_open, e, h4, num0 (f := fIs 23) (by decide +kernel) (by decide +kernel) (by decide +kernel), fldT (f := fIs 23) (k := 1) (by decide +kernel), fldF (f := fIs 23) (k := 2) (by decide +kernel), fldF (f := fIs 23) (k := 4) (by decide +kernel), memF (f := fIs 23) (by decide +kernel)]
  simp [and_assoc]
theorem chk_24 (d s t mb mi ms md imm : Int) : (chk 24 d s t mb mi ms md imm = true) = ((1 ≤ imm ∧ imm ≤ 63) ∧ Reg d ∧ s = 0 ∧ t = 0 ∧ (mb = 0 ∧ mi = 0 ∧ ms = 0 ∧ md = 0)) := by
  have e : (fName 24).toList.isEmpty = false := by decide +kernel
  have h4 : has (fIs 24) 4 = false := by decide +kernel
  rw [chk_open, e, h4, num63 (f := fIs 24) (by decide +kernel) (by decide +kernel) (by decide +kernel), fldT (f := fIs 24) (k := 1) (by decide +kernel), fldF (f := fIs 24) (k := 2) (by decide +kernel), fldF (f := fIs 24) (k := 4) (by decide +kernel), memF (f := fIs 24) (by decide +kernel)]
  simp [and_assoc]
theorem chk_25 (d s t mb mi ms md imm : Int) : (chk 25 d s t mb mi ms md imm = true) = ((1 ≤ imm ∧ imm ≤ 63) ∧ Reg d ∧ s = 0 ∧ t = 0 ∧ (mb = 0 ∧ mi = 0 ∧ ms = 0 ∧ md = 0)) := by
  have e : (fName 25).toList.isEmpty = false := by decide +kernel
  have h4 : has (fIs 25) 4 = false := by decide +kernel
  rw [chk_open, e, h4, num63 (f := fIs 25) (by decide +kernel) (by decide +kernel) (by decide +kernel), fldT (f := fIs 25) (k := 1) (by decide +kernel), fldF (f := fIs 25) (k := 2) (by decide +kernel), fldF (f := fIs 25) (k := 4) (by decide +kernel), memF (f := fIs 25) (by decide +kernel)]
  simp [and_assoc]
theorem chk_26 (d s t mb mi ms md imm : Int) : (chk 26 d s t mb mi ms md imm = true) = (imm = 0 ∧ Reg d ∧ Reg s ∧ t = 0 ∧ (mb = 0 ∧ mi = 0 ∧ ms = 0 ∧ md = 0)) := by
  have e : (fName 26).toList.isEmpty = false := by decide +kernel
  have h4 : has (fIs 26) 4 = false := by decide +kernel
  rw [chk_open, e, h4, num0 (f := fIs 26) (by decide +kernel) (by decide +kernel) (by decide +kernel), fldT (f := fIs 26) (k := 1) (by decide +kernel), fldT (f := fIs 26) (k := 2) (by decide +kernel), fldF (f := fIs 26) (k := 4) (by decide +kernel), memF (f := fIs 26) (by decide +kernel)]
  simp [and_assoc]
theorem chk_27 (d s t mb mi ms md imm : Int) : (chk 27 d s t mb mi ms md imm = true) = (imm = 0 ∧ Reg d ∧ Reg s ∧ t = 0 ∧ (mb = 0 ∧ mi = 0 ∧ ms = 0 ∧ md = 0)) := by
  have e : (fName 27).toList.isEmpty = false := by decide +kernel
  have h4 : has (fIs 27) 4 = false := by decide +kernel
  rw [chk_open, e, h4, num0 (f := fIs 27) (by decide +kernel) (by decide +kernel) (by decide +kernel), fldT (f := fIs 27) (k := 1) (by decide +kernel), fldT (f := fIs 27) (k := 2) (by decide +kernel), fldF (f := fIs 27) (k := 4) (by decide +kernel), memF (f := fIs 27) (by decide +kernel)]
  simp [and_assoc]
theorem chk_28 (d s t mb mi ms md imm : Int) : (chk 28 d s t mb mi ms md imm = true) = (imm = 0 ∧ d = 0 ∧ Reg s ∧ t = 0 ∧ (mb = 0 ∧ mi = 0 ∧ ms = 0 ∧ md = 0)) := by
  have e : (fName 28).toList.isEmpty = false := by decide +kernel
  have h4 : has (fIs 28) 4 = false := by decide +kernel
  rw [chk_open, e, h4, num0 (f := fIs 28) (by decide +kernel) (by decide +kernel) (by decide +kernel), fldF (f := fIs 28) (k := 1) (by decide +kernel), fldT (f := fIs 28) (k := 2) (by decide +kernel), fldF (f := fIs 28) (k := 4) (by decide +kernel), memF (f := fIs 28) (by decide +kernel)]
  simp [and_assoc]
theorem chk_29 (d s t mb mi ms md imm : Int) : (chk 29 d s t mb mi ms md imm = true) = (imm = 0 ∧ Reg d ∧ s = 0 ∧ t = 0 ∧ (mb = 0 ∧ mi = 0 ∧ ms = 0 ∧ md = 0)) := by
  have e : (fName 29).toList.isEmpty = false := by decide +kernel
  have h4 : has (fIs 29) 4 = false := by decide +kernel
  rw [chk_open, e, h4, num0 (f := fIs 29) (by decide +kernel) (by decide +kernel) (by decide +kernel), fldT (f := fIs 29) (k := 1) (by decide +kernel), fldF (f := fIs 29) (k := 2) (by decide +kernel), fldF (f := fIs 29) (k := 4) (by decide +kernel), memF (f := fIs 29) (by decide +kernel)]
  simp [and_assoc]
theorem chk_30 (d s t mb mi ms md imm : Int) : (chk 30 d s t mb mi ms md imm = true) = ((-2147483648 ≤ imm ∧ imm ≤ 2147483647) ∧ d = 0 ∧ s = 0 ∧ t = 0 ∧ (mb = 0 ∧ mi = 0 ∧ ms = 0 ∧ md = 0)) := by
  have e : (fName 30).toList.isEmpty = false := by decide +kernel
  have h4 : has (fIs 30) 4 = false := by decide +kernel
  rw [chk_open, e, h4, num32 (f := fIs 30) (by decide +kernel) (by decide +kernel), fldF (f := fIs 30) (k := 1) (by decide +kernel), fldF (f := fIs 30) (k := 2) (by decide +kernel), fldF (f := fIs 30) (k := 4) (by decide +kernel), memF (f := fIs 30) (by decide +kernel)]
  simp [and_assoc]
theorem chk_31 (d s t mb mi ms md imm : Int) : (chk 31 d s t mb mi ms md imm = true) = ((-2147483648 ≤ imm ∧ imm ≤ 2147483647) ∧ d = 0 ∧ s = 0 ∧ t = 0 ∧ (mb = 0 ∧ mi = 0 ∧ ms = 0 ∧ md = 0)) := by
  have e : (fName 31).toList.isEmpty = false := by decide +kernel
  have h4 : has (fIs 31) 4 = false := by decide +kernel
  rw [chk_open, e, h4, num32 (f := fIs 31) (by decide +kernel) (by decide +kernel), fldF (f := fIs 31) (k := 1) (by decide +kernel), fldF (f := fIs 31) (k := 2) (by decide +kernel), fldF (f := fIs 31) (k := 4) (by decide +kernel), memF (f := fIs 31) (by decide +kernel)]
  simp [and_assoc]
theorem chk_32 (d s t mb mi ms md imm : Int) : (chk 32 d s t mb mi ms md imm = true) = ((-2147483648 ≤ imm ∧ imm ≤ 2147483647) ∧ d = 0 ∧ s = 0 ∧ t = 0 ∧ (mb = 0 ∧ mi = 0 ∧ ms = 0 ∧ md = 0)) := by
  have e : (fName 32).toList.isEmpty = false := by decide +kernel
  have h4 : has (fIs 32) 4 = false := by decide +kernel
  rw [chk_open, e, h4, num32 (f := fIs 32) (by decide +kernel) (by decide +kernel), fldF (f := fIs 32) (k := 1) (by decide +kernel), fldF (f := fIs 32) (k := 2) (by decide +kernel), fldF (f := fIs 32) (k := 4) (by decide +kernel), memF (f := fIs 32) (by decide +kernel)]
  simp [and_assoc]
theorem chk_33 (d s t mb mi ms md imm : Int) : (chk 33 d s t mb mi ms md imm = true) = (imm = 0 ∧ d = 0 ∧ s = 0 ∧ t = 0 ∧ (mb = 0 ∧ mi = 0 ∧ ms = 0 ∧ md = 0)) := by
  have e : (fName 33).toList.isEmpty = false := by decide +kernel
  have h4 : has (fIs 33) 4 = false := by decide +kernel
  rw [chk_open, e, h4, num0 (f := fIs 33) (by decide +kernel) (by decide +kernel) (by decide +kernel), fldF (f := fIs 33) (k := 1) (by decide +kernel), fldF (f := fIs 33) (k := 2) (by decide +kernel), fldF (f := fIs 33) (k := 4) (by decide +kernel), memF (f := fIs 33) (by decide +kernel)]
  simp [and_assoc]
end Go.Proofs.YtokcamgipnaoeaaGreatDoor
