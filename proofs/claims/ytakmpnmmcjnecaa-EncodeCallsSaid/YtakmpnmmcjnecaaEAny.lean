/- encode.Inst (layer 6), of any instruction: what it tells. Conditions: numbers are numbers of 64 bits. -/
import Derived.Test.YtakmpnmmcjnecaaEInst
namespace Go.Proofs.Ytakmpnmmcjnecaa
open Go.RowKit Calm

def encL (op d s t mb mi ms md imm : Int) : List Int :=
  if op = 2 then ([rexI 0 0 d, 184 + loR d] ++ littleL imm 8) else
  if op = 3 then ([rexI d mi mb, 139] ++ placeL d mb mi ms md) else
  if op = 4 then ([rexI s mi mb, 137] ++ placeL s mb mi ms md) else
  if op = 5 then ([rexI d mi mb, 141] ++ placeL d mb mi ms md) else
  if op = 15 then ([rexI 0 0 d, 129, bothI 0 d] ++ littleL imm 4) else
  if op = 16 then ([rexI 0 0 d, 129, bothI 4 d] ++ littleL imm 4) else
  if op = 17 then ([rexI 0 0 d, 129, bothI 5 d] ++ littleL imm 4) else
  if op = 18 then ([rexI 0 0 d, 129, bothI 7 d] ++ littleL imm 4) else
  if op = 19 then [196, mulx1 d t, mulx2 s, 246, bothI d t] else
  if op = 20 then [102, rexI d 0 s, 15, 56, 246, bothI d s] else
  if op = 21 then [243, rexI d 0 s, 15, 56, 246, bothI d s] else
  if op = 22 then [rexI 0 0 d, 247, bothI 3 d] else
  if op = 23 then [rexI 0 0 d, 247, bothI 2 d] else
  if op = 24 then ([rexI 0 0 d, 193, bothI 4 d] ++ [imm]) else
  if op = 25 then ([rexI 0 0 d, 193, bothI 5 d] ++ [imm]) else
  if op = 26 then [rexI d 0 s, 15, 66, bothI d s] else
  if op = 27 then [rexI d 0 s, 15, 69, bothI d s] else
  if op = 28 then stackL 80 s else
  if op = 29 then stackL 88 d else
  if op = 30 then jumpL 233 0 imm else
  if op = 31 then jumpL 15 133 imm else
  if op = 32 then jumpL 15 130 imm else
  if op = 33 then [195] else
  [rexI s 0 d, (if op = 1 then 137 else if op = 6 then 1 else if op = 7 then 17 else if op = 8 then 41 else if op = 9 then 25 else if op = 10 then 33 else if op = 11 then 9 else if op = 12 then 49 else if op = 13 then 57 else 133), bothI s d]
theorem reg_of {x : Int} (h : reg x = true) : Reg x := by unfold reg at h; simp only [Bool.and_eq_true, decide_eq_true_eq] at h; exact h
theorem of_reg {x : Int} (h : Reg x) : reg x = true := by unfold reg; unfold Reg at h; simp only [Bool.and_eq_true, decide_eq_true_eq]; exact h
theorem fldT {f k x : Int} (hk : has f k = true) : (fld f k x = true) = Reg x := by
  unfold fld; rw [if_pos hk]; exact propext ⟨reg_of, of_reg⟩
theorem fldF {f k x : Int} (hk : has f k = false) : (fld f k x = true) = (x = 0) := by
  unfold fld; rw [if_neg (by rw [hk]; decide)]; simp
theorem memT {f mb mi ms md : Int} (hk : has f 8 = true) : (memOk f mb mi ms md = true) = (plc mb mi ms md = true) := by
  unfold memOk; rw [if_pos hk]
theorem memF {f mb mi ms md : Int} (hk : has f 8 = false) : (memOk f mb mi ms md = true) = (mb = 0 ∧ mi = 0 ∧ ms = 0 ∧ md = 0) := by
  unfold memOk memZ; rw [if_neg (by rw [hk]; decide)]; simp [and_assoc]
theorem num32 {f n : Int} (h1 : has f 32 = false) (h2 : has f 16 = true) : (numOk f n = true) = (-2147483648 ≤ n ∧ n ≤ 2147483647) := by
  unfold numOk smallB; rw [if_neg (by rw [h1]; decide), if_pos h2]; simp
theorem num63 {f n : Int} (h1 : has f 32 = false) (h2 : has f 16 = false) (h3 : has f 64 = true) : (numOk f n = true) = (1 ≤ n ∧ n ≤ 63) := by
  unfold numOk; rw [if_neg (by rw [h1]; decide), if_neg (by rw [h2]; decide), if_pos h3]; simp
theorem num0 {f n : Int} (h1 : has f 32 = false) (h2 : has f 16 = false) (h3 : has f 64 = false) : (numOk f n = true) = (n = 0) := by
  unfold numOk; rw [if_neg (by rw [h1]; decide), if_neg (by rw [h2]; decide), if_neg (by rw [h3]; decide)]; simp
theorem num64 {f n : Int} (h1 : has f 32 = true) : (numOk f n = true) = True := by
  unfold numOk; rw [if_pos h1]; simp
theorem chk_open (op d s t mb mi ms md imm : Int) : (chk op d s t mb mi ms md imm = true) =
    (((((((fName op).toList.isEmpty = false ∧ numOk (fIs op) imm = true) ∧ fld (fIs op) 1 d = true) ∧ fld (fIs op) 2 s = true) ∧ fld (fIs op) 4 t = true) ∧ memOk (fIs op) mb mi ms md = true) ∧ (has (fIs op) 4 = false ∨ ¬ d = s)) := by
  unfold chk
  simp only [Bool.and_eq_true, Bool.not_eq_true', Bool.and_eq_false_imp, beq_eq_false_iff_ne, ne_eq]
  by_cases h : has (fIs op) 4 = true
  · simp [h]
  · simp [Bool.not_eq_true] at h; simp [h]
theorem chk_range {op d s t mb mi ms md imm : Int} (h : chk op d s t mb mi ms md imm = true) : 1 ≤ op ∧ op ≤ 33 := by
  rw [chk_open] at h
  have h := h.1.1.1.1.1.1
  by_cases h1 : 0 ≤ op ∧ op < 34
  · rcases Int.lt_or_le 0 op with h2 | h2
    · omega
    · have : op = 0 := by omega
      subst this
      exact absurd h (by decide +kernel)
  · unfold fName at h
    rw [if_neg h1] at h
    exact absurd h (by decide +kernel)
theorem chk_1 (d s t mb mi ms md imm : Int) : (chk 1 d s t mb mi ms md imm = true) = (imm = 0 ∧ Reg d ∧ Reg s ∧ t = 0 ∧ (mb = 0 ∧ mi = 0 ∧ ms = 0 ∧ md = 0)) := by
  have e : (fName 1).toList.isEmpty = false := by decide +kernel
  have h4 : has (fIs 1) 4 = false := by decide +kernel
  rw [chk_open, e, h4, num0 (f := fIs 1) (by decide +kernel) (by decide +kernel) (by decide +kernel), fldT (f := fIs 1) (k := 1) (by decide +kernel), fldT (f := fIs 1) (k := 2) (by decide +kernel), fldF (f := fIs 1) (k := 4) (by decide +kernel), memF (f := fIs 1) (by decide +kernel)]
  simp [and_assoc]
theorem chk_2 (d s t mb mi ms md imm : Int) : (chk 2 d s t mb mi ms md imm = true) = (True ∧ Reg d ∧ s = 0 ∧ t = 0 ∧ (mb = 0 ∧ mi = 0 ∧ ms = 0 ∧ md = 0)) := by
  have e : (fName 2).toList.isEmpty = false := by decide +kernel
  have h4 : has (fIs 2) 4 = false := by decide +kernel
  rw [chk_open, e, h4, num64 (f := fIs 2) (by decide +kernel), fldT (f := fIs 2) (k := 1) (by decide +kernel), fldF (f := fIs 2) (k := 2) (by decide +kernel), fldF (f := fIs 2) (k := 4) (by decide +kernel), memF (f := fIs 2) (by decide +kernel)]
  simp [and_assoc]
theorem chk_3 (d s t mb mi ms md imm : Int) : (chk 3 d s t mb mi ms md imm = true) = (imm = 0 ∧ Reg d ∧ s = 0 ∧ t = 0 ∧ plc mb mi ms md = true) := by
  have e : (fName 3).toList.isEmpty = false := by decide +kernel
  have h4 : has (fIs 3) 4 = false := by decide +kernel
  rw [chk_open, e, h4, num0 (f := fIs 3) (by decide +kernel) (by decide +kernel) (by decide +kernel), fldT (f := fIs 3) (k := 1) (by decide +kernel), fldF (f := fIs 3) (k := 2) (by decide +kernel), fldF (f := fIs 3) (k := 4) (by decide +kernel), memT (f := fIs 3) (by decide +kernel)]
  simp [and_assoc]
theorem chk_4 (d s t mb mi ms md imm : Int) : (chk 4 d s t mb mi ms md imm = true) = (imm = 0 ∧ d = 0 ∧ Reg s ∧ t = 0 ∧ plc mb mi ms md = true) := by
  have e : (fName 4).toList.isEmpty = false := by decide +kernel
  have h4 : has (fIs 4) 4 = false := by decide +kernel
  rw [chk_open, e, h4, num0 (f := fIs 4) (by decide +kernel) (by decide +kernel) (by decide +kernel), fldF (f := fIs 4) (k := 1) (by decide +kernel), fldT (f := fIs 4) (k := 2) (by decide +kernel), fldF (f := fIs 4) (k := 4) (by decide +kernel), memT (f := fIs 4) (by decide +kernel)]
  simp [and_assoc]
theorem chk_5 (d s t mb mi ms md imm : Int) : (chk 5 d s t mb mi ms md imm = true) = (imm = 0 ∧ Reg d ∧ s = 0 ∧ t = 0 ∧ plc mb mi ms md = true) := by
  have e : (fName 5).toList.isEmpty = false := by decide +kernel
  have h4 : has (fIs 5) 4 = false := by decide +kernel
  rw [chk_open, e, h4, num0 (f := fIs 5) (by decide +kernel) (by decide +kernel) (by decide +kernel), fldT (f := fIs 5) (k := 1) (by decide +kernel), fldF (f := fIs 5) (k := 2) (by decide +kernel), fldF (f := fIs 5) (k := 4) (by decide +kernel), memT (f := fIs 5) (by decide +kernel)]
  simp [and_assoc]
theorem chk_6 (d s t mb mi ms md imm : Int) : (chk 6 d s t mb mi ms md imm = true) = (imm = 0 ∧ Reg d ∧ Reg s ∧ t = 0 ∧ (mb = 0 ∧ mi = 0 ∧ ms = 0 ∧ md = 0)) := by
  have e : (fName 6).toList.isEmpty = false := by decide +kernel
  have h4 : has (fIs 6) 4 = false := by decide +kernel
  rw [chk_open, e, h4, num0 (f := fIs 6) (by decide +kernel) (by decide +kernel) (by decide +kernel), fldT (f := fIs 6) (k := 1) (by decide +kernel), fldT (f := fIs 6) (k := 2) (by decide +kernel), fldF (f := fIs 6) (k := 4) (by decide +kernel), memF (f := fIs 6) (by decide +kernel)]
  simp [and_assoc]
theorem chk_7 (d s t mb mi ms md imm : Int) : (chk 7 d s t mb mi ms md imm = true) = (imm = 0 ∧ Reg d ∧ Reg s ∧ t = 0 ∧ (mb = 0 ∧ mi = 0 ∧ ms = 0 ∧ md = 0)) := by
  have e : (fName 7).toList.isEmpty = false := by decide +kernel
  have h4 : has (fIs 7) 4 = false := by decide +kernel
  rw [chk_open, e, h4, num0 (f := fIs 7) (by decide +kernel) (by decide +kernel) (by decide +kernel), fldT (f := fIs 7) (k := 1) (by decide +kernel), fldT (f := fIs 7) (k := 2) (by decide +kernel), fldF (f := fIs 7) (k := 4) (by decide +kernel), memF (f := fIs 7) (by decide +kernel)]
  simp [and_assoc]
theorem chk_8 (d s t mb mi ms md imm : Int) : (chk 8 d s t mb mi ms md imm = true) = (imm = 0 ∧ Reg d ∧ Reg s ∧ t = 0 ∧ (mb = 0 ∧ mi = 0 ∧ ms = 0 ∧ md = 0)) := by
  have e : (fName 8).toList.isEmpty = false := by decide +kernel
  have h4 : has (fIs 8) 4 = false := by decide +kernel
  rw [chk_open, e, h4, num0 (f := fIs 8) (by decide +kernel) (by decide +kernel) (by decide +kernel), fldT (f := fIs 8) (k := 1) (by decide +kernel), fldT (f := fIs 8) (k := 2) (by decide +kernel), fldF (f := fIs 8) (k := 4) (by decide +kernel), memF (f := fIs 8) (by decide +kernel)]
  simp [and_assoc]
theorem chk_9 (d s t mb mi ms md imm : Int) : (chk 9 d s t mb mi ms md imm = true) = (imm = 0 ∧ Reg d ∧ Reg s ∧ t = 0 ∧ (mb = 0 ∧ mi = 0 ∧ ms = 0 ∧ md = 0)) := by
  have e : (fName 9).toList.isEmpty = false := by decide +kernel
  have h4 : has (fIs 9) 4 = false := by decide +kernel
  rw [chk_open, e, h4, num0 (f := fIs 9) (by decide +kernel) (by decide +kernel) (by decide +kernel), fldT (f := fIs 9) (k := 1) (by decide +kernel), fldT (f := fIs 9) (k := 2) (by decide +kernel), fldF (f := fIs 9) (k := 4) (by decide +kernel), memF (f := fIs 9) (by decide +kernel)]
  simp [and_assoc]
theorem chk_10 (d s t mb mi ms md imm : Int) : (chk 10 d s t mb mi ms md imm = true) = (imm = 0 ∧ Reg d ∧ Reg s ∧ t = 0 ∧ (mb = 0 ∧ mi = 0 ∧ ms = 0 ∧ md = 0)) := by
  have e : (fName 10).toList.isEmpty = false := by decide +kernel
  have h4 : has (fIs 10) 4 = false := by decide +kernel
  rw [chk_open, e, h4, num0 (f := fIs 10) (by decide +kernel) (by decide +kernel) (by decide +kernel), fldT (f := fIs 10) (k := 1) (by decide +kernel), fldT (f := fIs 10) (k := 2) (by decide +kernel), fldF (f := fIs 10) (k := 4) (by decide +kernel), memF (f := fIs 10) (by decide +kernel)]
  simp [and_assoc]
theorem chk_11 (d s t mb mi ms md imm : Int) : (chk 11 d s t mb mi ms md imm = true) = (imm = 0 ∧ Reg d ∧ Reg s ∧ t = 0 ∧ (mb = 0 ∧ mi = 0 ∧ ms = 0 ∧ md = 0)) := by
  have e : (fName 11).toList.isEmpty = false := by decide +kernel
  have h4 : has (fIs 11) 4 = false := by decide +kernel
  rw [chk_open, e, h4, num0 (f := fIs 11) (by decide +kernel) (by decide +kernel) (by decide +kernel), fldT (f := fIs 11) (k := 1) (by decide +kernel), fldT (f := fIs 11) (k := 2) (by decide +kernel), fldF (f := fIs 11) (k := 4) (by decide +kernel), memF (f := fIs 11) (by decide +kernel)]
  simp [and_assoc]
theorem chk_12 (d s t mb mi ms md imm : Int) : (chk 12 d s t mb mi ms md imm = true) = (imm = 0 ∧ Reg d ∧ Reg s ∧ t = 0 ∧ (mb = 0 ∧ mi = 0 ∧ ms = 0 ∧ md = 0)) := by
  have e : (fName 12).toList.isEmpty = false := by decide +kernel
  have h4 : has (fIs 12) 4 = false := by decide +kernel
  rw [chk_open, e, h4, num0 (f := fIs 12) (by decide +kernel) (by decide +kernel) (by decide +kernel), fldT (f := fIs 12) (k := 1) (by decide +kernel), fldT (f := fIs 12) (k := 2) (by decide +kernel), fldF (f := fIs 12) (k := 4) (by decide +kernel), memF (f := fIs 12) (by decide +kernel)]
  simp [and_assoc]
theorem chk_13 (d s t mb mi ms md imm : Int) : (chk 13 d s t mb mi ms md imm = true) = (imm = 0 ∧ Reg d ∧ Reg s ∧ t = 0 ∧ (mb = 0 ∧ mi = 0 ∧ ms = 0 ∧ md = 0)) := by
  have e : (fName 13).toList.isEmpty = false := by decide +kernel
  have h4 : has (fIs 13) 4 = false := by decide +kernel
  rw [chk_open, e, h4, num0 (f := fIs 13) (by decide +kernel) (by decide +kernel) (by decide +kernel), fldT (f := fIs 13) (k := 1) (by decide +kernel), fldT (f := fIs 13) (k := 2) (by decide +kernel), fldF (f := fIs 13) (k := 4) (by decide +kernel), memF (f := fIs 13) (by decide +kernel)]
  simp [and_assoc]
theorem chk_14 (d s t mb mi ms md imm : Int) : (chk 14 d s t mb mi ms md imm = true) = (imm = 0 ∧ Reg d ∧ Reg s ∧ t = 0 ∧ (mb = 0 ∧ mi = 0 ∧ ms = 0 ∧ md = 0)) := by
  have e : (fName 14).toList.isEmpty = false := by decide +kernel
  have h4 : has (fIs 14) 4 = false := by decide +kernel
  rw [chk_open, e, h4, num0 (f := fIs 14) (by decide +kernel) (by decide +kernel) (by decide +kernel), fldT (f := fIs 14) (k := 1) (by decide +kernel), fldT (f := fIs 14) (k := 2) (by decide +kernel), fldF (f := fIs 14) (k := 4) (by decide +kernel), memF (f := fIs 14) (by decide +kernel)]
  simp [and_assoc]
theorem chk_15 (d s t mb mi ms md imm : Int) : (chk 15 d s t mb mi ms md imm = true) = ((-2147483648 ≤ imm ∧ imm ≤ 2147483647) ∧ Reg d ∧ s = 0 ∧ t = 0 ∧ (mb = 0 ∧ mi = 0 ∧ ms = 0 ∧ md = 0)) := by
  have e : (fName 15).toList.isEmpty = false := by decide +kernel
  have h4 : has (fIs 15) 4 = false := by decide +kernel
  rw [chk_open, e, h4, num32 (f := fIs 15) (by decide +kernel) (by decide +kernel), fldT (f := fIs 15) (k := 1) (by decide +kernel), fldF (f := fIs 15) (k := 2) (by decide +kernel), fldF (f := fIs 15) (k := 4) (by decide +kernel), memF (f := fIs 15) (by decide +kernel)]
  simp [and_assoc]
theorem chk_16 (d s t mb mi ms md imm : Int) : (chk 16 d s t mb mi ms md imm = true) = ((-2147483648 ≤ imm ∧ imm ≤ 2147483647) ∧ Reg d ∧ s = 0 ∧ t = 0 ∧ (mb = 0 ∧ mi = 0 ∧ ms = 0 ∧ md = 0)) := by
  have e : (fName 16).toList.isEmpty = false := by decide +kernel
  have h4 : has (fIs 16) 4 = false := by decide +kernel
  rw [chk_open, e, h4, num32 (f := fIs 16) (by decide +kernel) (by decide +kernel), fldT (f := fIs 16) (k := 1) (by decide +kernel), fldF (f := fIs 16) (k := 2) (by decide +kernel), fldF (f := fIs 16) (k := 4) (by decide +kernel), memF (f := fIs 16) (by decide +kernel)]
  simp [and_assoc]
theorem chk_17 (d s t mb mi ms md imm : Int) : (chk 17 d s t mb mi ms md imm = true) = ((-2147483648 ≤ imm ∧ imm ≤ 2147483647) ∧ Reg d ∧ s = 0 ∧ t = 0 ∧ (mb = 0 ∧ mi = 0 ∧ ms = 0 ∧ md = 0)) := by
  have e : (fName 17).toList.isEmpty = false := by decide +kernel
  have h4 : has (fIs 17) 4 = false := by decide +kernel
  rw [chk_open, e, h4, num32 (f := fIs 17) (by decide +kernel) (by decide +kernel), fldT (f := fIs 17) (k := 1) (by decide +kernel), fldF (f := fIs 17) (k := 2) (by decide +kernel), fldF (f := fIs 17) (k := 4) (by decide +kernel), memF (f := fIs 17) (by decide +kernel)]
  simp [and_assoc]
theorem chk_18 (d s t mb mi ms md imm : Int) : (chk 18 d s t mb mi ms md imm = true) = ((-2147483648 ≤ imm ∧ imm ≤ 2147483647) ∧ Reg d ∧ s = 0 ∧ t = 0 ∧ (mb = 0 ∧ mi = 0 ∧ ms = 0 ∧ md = 0)) := by
  have e : (fName 18).toList.isEmpty = false := by decide +kernel
  have h4 : has (fIs 18) 4 = false := by decide +kernel
  rw [chk_open, e, h4, num32 (f := fIs 18) (by decide +kernel) (by decide +kernel), fldT (f := fIs 18) (k := 1) (by decide +kernel), fldF (f := fIs 18) (k := 2) (by decide +kernel), fldF (f := fIs 18) (k := 4) (by decide +kernel), memF (f := fIs 18) (by decide +kernel)]
  simp [and_assoc]
theorem chk_19 (d s t mb mi ms md imm : Int) : (chk 19 d s t mb mi ms md imm = true) = (imm = 0 ∧ Reg d ∧ Reg s ∧ Reg t ∧ (mb = 0 ∧ mi = 0 ∧ ms = 0 ∧ md = 0) ∧ d ≠ s) := by
  have e : (fName 19).toList.isEmpty = false := by decide +kernel
  have h4 : has (fIs 19) 4 = true := by decide +kernel
  rw [chk_open, e, h4, num0 (f := fIs 19) (by decide +kernel) (by decide +kernel) (by decide +kernel), fldT (f := fIs 19) (k := 1) (by decide +kernel), fldT (f := fIs 19) (k := 2) (by decide +kernel), fldT (f := fIs 19) (k := 4) (by decide +kernel), memF (f := fIs 19) (by decide +kernel)]
  simp [and_assoc]
theorem chk_20 (d s t mb mi ms md imm : Int) : (chk 20 d s t mb mi ms md imm = true) = (imm = 0 ∧ Reg d ∧ Reg s ∧ t = 0 ∧ (mb = 0 ∧ mi = 0 ∧ ms = 0 ∧ md = 0)) := by
  have e : (fName 20).toList.isEmpty = false := by decide +kernel
  have h4 : has (fIs 20) 4 = false := by decide +kernel
  rw [chk_open, e, h4, num0 (f := fIs 20) (by decide +kernel) (by decide +kernel) (by decide +kernel), fldT (f := fIs 20) (k := 1) (by decide +kernel), fldT (f := fIs 20) (k := 2) (by decide +kernel), fldF (f := fIs 20) (k := 4) (by decide +kernel), memF (f := fIs 20) (by decide +kernel)]
  simp [and_assoc]
theorem chk_21 (d s t mb mi ms md imm : Int) : (chk 21 d s t mb mi ms md imm = true) = (imm = 0 ∧ Reg d ∧ Reg s ∧ t = 0 ∧ (mb = 0 ∧ mi = 0 ∧ ms = 0 ∧ md = 0)) := by
  have e : (fName 21).toList.isEmpty = false := by decide +kernel
  have h4 : has (fIs 21) 4 = false := by decide +kernel
  rw [chk_open, e, h4, num0 (f := fIs 21) (by decide +kernel) (by decide +kernel) (by decide +kernel), fldT (f := fIs 21) (k := 1) (by decide +kernel), fldT (f := fIs 21) (k := 2) (by decide +kernel), fldF (f := fIs 21) (k := 4) (by decide +kernel), memF (f := fIs 21) (by decide +kernel)]
  simp [and_assoc]
theorem chk_22 (d s t mb mi ms md imm : Int) : (chk 22 d s t mb mi ms md imm = true) = (imm = 0 ∧ Reg d ∧ s = 0 ∧ t = 0 ∧ (mb = 0 ∧ mi = 0 ∧ ms = 0 ∧ md = 0)) := by
  have e : (fName 22).toList.isEmpty = false := by decide +kernel
  have h4 : has (fIs 22) 4 = false := by decide +kernel
  rw [chk_open, e, h4, num0 (f := fIs 22) (by decide +kernel) (by decide +kernel) (by decide +kernel), fldT (f := fIs 22) (k := 1) (by decide +kernel), fldF (f := fIs 22) (k := 2) (by decide +kernel), fldF (f := fIs 22) (k := 4) (by decide +kernel), memF (f := fIs 22) (by decide +kernel)]
  simp [and_assoc]
theorem chk_23 (d s t mb mi ms md imm : Int) : (chk 23 d s t mb mi ms md imm = true) = (imm = 0 ∧ Reg d ∧ s = 0 ∧ t = 0 ∧ (mb = 0 ∧ mi = 0 ∧ ms = 0 ∧ md = 0)) := by
  have e : (fName 23).toList.isEmpty = false := by decide +kernel
  have h4 : has (fIs 23) 4 = false := by decide +kernel
  rw [chk_open, e, h4, num0 (f := fIs 23) (by decide +kernel) (by decide +kernel) (by decide +kernel), fldT (f := fIs 23) (k := 1) (by decide +kernel), fldF (f := fIs 23) (k := 2) (by decide +kernel), fldF (f := fIs 23) (k := 4) (by decide +kernel), memF (f := fIs 23) (by decide +kernel)]
  simp [and_assoc]
theorem chk_24 (d s t mb mi ms md imm : Int) : (chk 24 d s t mb mi ms md imm = true) = ((1 ≤ imm ∧ imm ≤ 63) ∧ Reg d ∧ s = 0 ∧ t = 0 ∧ (mb = 0 ∧ mi = 0 ∧ ms = 0 ∧ md = 0)) := by
  have e : (fName 24).toList.isEmpty = false := by decide +kernel
  have h4 : has (fIs 24) 4 = false := by decide +kernel
  rw [chk_open, e, h4, num63 (f := fIs 24) (by decide +kernel) (by decide +kernel) (by decide +kernel), fldT (f := fIs 24) (k := 1) (by decide +kernel), fldF (f := fIs 24) (k := 2) (by decide +kernel), fldF (f := fIs 24) (k := 4) (by decide +kernel), memF (f := fIs 24) (by decide +kernel)]
  simp [and_assoc]
theorem chk_25 (d s t mb mi ms md imm : Int) : (chk 25 d s t mb mi ms md imm = true) = ((1 ≤ imm ∧ imm ≤ 63) ∧ Reg d ∧ s = 0 ∧ t = 0 ∧ (mb = 0 ∧ mi = 0 ∧ ms = 0 ∧ md = 0)) := by
  have e : (fName 25).toList.isEmpty = false := by decide +kernel
  have h4 : has (fIs 25) 4 = false := by decide +kernel
  rw [chk_open, e, h4, num63 (f := fIs 25) (by decide +kernel) (by decide +kernel) (by decide +kernel), fldT (f := fIs 25) (k := 1) (by decide +kernel), fldF (f := fIs 25) (k := 2) (by decide +kernel), fldF (f := fIs 25) (k := 4) (by decide +kernel), memF (f := fIs 25) (by decide +kernel)]
  simp [and_assoc]
theorem chk_26 (d s t mb mi ms md imm : Int) : (chk 26 d s t mb mi ms md imm = true) = (imm = 0 ∧ Reg d ∧ Reg s ∧ t = 0 ∧ (mb = 0 ∧ mi = 0 ∧ ms = 0 ∧ md = 0)) := by
  have e : (fName 26).toList.isEmpty = false := by decide +kernel
  have h4 : has (fIs 26) 4 = false := by decide +kernel
  rw [chk_open, e, h4, num0 (f := fIs 26) (by decide +kernel) (by decide +kernel) (by decide +kernel), fldT (f := fIs 26) (k := 1) (by decide +kernel), fldT (f := fIs 26) (k := 2) (by decide +kernel), fldF (f := fIs 26) (k := 4) (by decide +kernel), memF (f := fIs 26) (by decide +kernel)]
  simp [and_assoc]
theorem chk_27 (d s t mb mi ms md imm : Int) : (chk 27 d s t mb mi ms md imm = true) = (imm = 0 ∧ Reg d ∧ Reg s ∧ t = 0 ∧ (mb = 0 ∧ mi = 0 ∧ ms = 0 ∧ md = 0)) := by
  have e : (fName 27).toList.isEmpty = false := by decide +kernel
  have h4 : has (fIs 27) 4 = false := by decide +kernel
  rw [chk_open, e, h4, num0 (f := fIs 27) (by decide +kernel) (by decide +kernel) (by decide +kernel), fldT (f := fIs 27) (k := 1) (by decide +kernel), fldT (f := fIs 27) (k := 2) (by decide +kernel), fldF (f := fIs 27) (k := 4) (by decide +kernel), memF (f := fIs 27) (by decide +kernel)]
  simp [and_assoc]
theorem chk_28 (d s t mb mi ms md imm : Int) : (chk 28 d s t mb mi ms md imm = true) = (imm = 0 ∧ d = 0 ∧ Reg s ∧ t = 0 ∧ (mb = 0 ∧ mi = 0 ∧ ms = 0 ∧ md = 0)) := by
  have e : (fName 28).toList.isEmpty = false := by decide +kernel
  have h4 : has (fIs 28) 4 = false := by decide +kernel
  rw [chk_open, e, h4, num0 (f := fIs 28) (by decide +kernel) (by decide +kernel) (by decide +kernel), fldF (f := fIs 28) (k := 1) (by decide +kernel), fldT (f := fIs 28) (k := 2) (by decide +kernel), fldF (f := fIs 28) (k := 4) (by decide +kernel), memF (f := fIs 28) (by decide +kernel)]
  simp [and_assoc]
theorem chk_29 (d s t mb mi ms md imm : Int) : (chk 29 d s t mb mi ms md imm = true) = (imm = 0 ∧ Reg d ∧ s = 0 ∧ t = 0 ∧ (mb = 0 ∧ mi = 0 ∧ ms = 0 ∧ md = 0)) := by
  have e : (fName 29).toList.isEmpty = false := by decide +kernel
  have h4 : has (fIs 29) 4 = false := by decide +kernel
  rw [chk_open, e, h4, num0 (f := fIs 29) (by decide +kernel) (by decide +kernel) (by decide +kernel), fldT (f := fIs 29) (k := 1) (by decide +kernel), fldF (f := fIs 29) (k := 2) (by decide +kernel), fldF (f := fIs 29) (k := 4) (by decide +kernel), memF (f := fIs 29) (by decide +kernel)]
  simp [and_assoc]
theorem chk_30 (d s t mb mi ms md imm : Int) : (chk 30 d s t mb mi ms md imm = true) = ((-2147483648 ≤ imm ∧ imm ≤ 2147483647) ∧ d = 0 ∧ s = 0 ∧ t = 0 ∧ (mb = 0 ∧ mi = 0 ∧ ms = 0 ∧ md = 0)) := by
  have e : (fName 30).toList.isEmpty = false := by decide +kernel
  have h4 : has (fIs 30) 4 = false := by decide +kernel
  rw [chk_open, e, h4, num32 (f := fIs 30) (by decide +kernel) (by decide +kernel), fldF (f := fIs 30) (k := 1) (by decide +kernel), fldF (f := fIs 30) (k := 2) (by decide +kernel), fldF (f := fIs 30) (k := 4) (by decide +kernel), memF (f := fIs 30) (by decide +kernel)]
  simp [and_assoc]
theorem chk_31 (d s t mb mi ms md imm : Int) : (chk 31 d s t mb mi ms md imm = true) = ((-2147483648 ≤ imm ∧ imm ≤ 2147483647) ∧ d = 0 ∧ s = 0 ∧ t = 0 ∧ (mb = 0 ∧ mi = 0 ∧ ms = 0 ∧ md = 0)) := by
  have e : (fName 31).toList.isEmpty = false := by decide +kernel
  have h4 : has (fIs 31) 4 = false := by decide +kernel
  rw [chk_open, e, h4, num32 (f := fIs 31) (by decide +kernel) (by decide +kernel), fldF (f := fIs 31) (k := 1) (by decide +kernel), fldF (f := fIs 31) (k := 2) (by decide +kernel), fldF (f := fIs 31) (k := 4) (by decide +kernel), memF (f := fIs 31) (by decide +kernel)]
  simp [and_assoc]
theorem chk_32 (d s t mb mi ms md imm : Int) : (chk 32 d s t mb mi ms md imm = true) = ((-2147483648 ≤ imm ∧ imm ≤ 2147483647) ∧ d = 0 ∧ s = 0 ∧ t = 0 ∧ (mb = 0 ∧ mi = 0 ∧ ms = 0 ∧ md = 0)) := by
  have e : (fName 32).toList.isEmpty = false := by decide +kernel
  have h4 : has (fIs 32) 4 = false := by decide +kernel
  rw [chk_open, e, h4, num32 (f := fIs 32) (by decide +kernel) (by decide +kernel), fldF (f := fIs 32) (k := 1) (by decide +kernel), fldF (f := fIs 32) (k := 2) (by decide +kernel), fldF (f := fIs 32) (k := 4) (by decide +kernel), memF (f := fIs 32) (by decide +kernel)]
  simp [and_assoc]
theorem chk_33 (d s t mb mi ms md imm : Int) : (chk 33 d s t mb mi ms md imm = true) = (imm = 0 ∧ d = 0 ∧ s = 0 ∧ t = 0 ∧ (mb = 0 ∧ mi = 0 ∧ ms = 0 ∧ md = 0)) := by
  have e : (fName 33).toList.isEmpty = false := by decide +kernel
  have h4 : has (fIs 33) 4 = false := by decide +kernel
  rw [chk_open, e, h4, num0 (f := fIs 33) (by decide +kernel) (by decide +kernel) (by decide +kernel), fldF (f := fIs 33) (k := 1) (by decide +kernel), fldF (f := fIs 33) (k := 2) (by decide +kernel), fldF (f := fIs 33) (k := 4) (by decide +kernel), memF (f := fIs 33) (by decide +kernel)]
  simp [and_assoc]
attribute [local irreducible] placeL loR hiR rexI bothI littleL mulx1 mulx2 stackL jumpL
theorem put_1 (d s t mb mi ms md imm : Int) (w : World) (hd : -9223372036854775808 ≤ md ∧ md ≤ 9223372036854775807) (hi : -9223372036854775808 ≤ imm ∧ imm ≤ 9223372036854775807) (hc : chk 1 d s t mb mi ms md imm = true) :
    Calls Try.prog 17 #[.agg #[.int .i64 1, .int .i64 d, .int .i64 s, .int .i64 t, .int .i64 mb, .int .i64 mi, .int .i64 ms, .int .i64 md, .int .i64 imm]] w
      fun e w' => e = .returned (.tuple #[.string (strB (encL 1 d s t mb mi ms md imm)), .int .i64 0]) ∧ Below w.heap.size w w' := by
  have e : encL 1 d s t mb mi ms md imm = [rexI s 0 d, 137, bothI s d] := rfl
  rw [e]
  refine inst_put 1 d s t mb mi ms md imm 137 0 48 _ w hd hi (by rw [hc]; rfl) (looks _ _ _ _ (fun r => by kernel_rfl) (fun r => by kernel_rfl)) (fun x y => Try.call48 x y) ?_
  rw [chk_1] at hc
  have h := hc
  clear hc e
  intro V
  exact two_any 137 0 1 d s t mb mi ms md imm V h.2.1 h.2.2.1
theorem put_2 (d s t mb mi ms md imm : Int) (w : World) (hd : -9223372036854775808 ≤ md ∧ md ≤ 9223372036854775807) (hi : -9223372036854775808 ≤ imm ∧ imm ≤ 9223372036854775807) (hc : chk 2 d s t mb mi ms md imm = true) :
    Calls Try.prog 17 #[.agg #[.int .i64 2, .int .i64 d, .int .i64 s, .int .i64 t, .int .i64 mb, .int .i64 mi, .int .i64 ms, .int .i64 md, .int .i64 imm]] w
      fun e w' => e = .returned (.tuple #[.string (strB (encL 2 d s t mb mi ms md imm)), .int .i64 0]) ∧ Below w.heap.size w w' := by
  have e : encL 2 d s t mb mi ms md imm = ([rexI 0 0 d, 184 + loR d] ++ littleL imm 8) := rfl
  rw [e]
  refine inst_put 2 d s t mb mi ms md imm 184 0 49 _ w hd hi (by rw [hc]; rfl) (looks _ _ _ _ (fun r => by kernel_rfl) (fun r => by kernel_rfl)) (fun x y => Try.call49 x y) ?_
  rw [chk_2] at hc
  have h := hc
  clear hc e
  intro V
  exact mwide_any 184 0 2 d s t mb mi ms md imm V h.2.1 (by omega) hi
theorem put_3 (d s t mb mi ms md imm : Int) (w : World) (hd : -9223372036854775808 ≤ md ∧ md ≤ 9223372036854775807) (hi : -9223372036854775808 ≤ imm ∧ imm ≤ 9223372036854775807) (hc : chk 3 d s t mb mi ms md imm = true) :
    Calls Try.prog 17 #[.agg #[.int .i64 3, .int .i64 d, .int .i64 s, .int .i64 t, .int .i64 mb, .int .i64 mi, .int .i64 ms, .int .i64 md, .int .i64 imm]] w
      fun e w' => e = .returned (.tuple #[.string (strB (encL 3 d s t mb mi ms md imm)), .int .i64 0]) ∧ Below w.heap.size w w' := by
  have e : encL 3 d s t mb mi ms md imm = ([rexI d mi mb, 139] ++ placeL d mb mi ms md) := rfl
  rw [e]
  refine inst_put 3 d s t mb mi ms md imm 139 0 50 _ w hd hi (by rw [hc]; rfl) (looks _ _ _ _ (fun r => by kernel_rfl) (fun r => by kernel_rfl)) (fun x y => Try.call50 x y) ?_
  rw [chk_3] at hc
  have h := hc
  clear hc e
  intro V
  exact mtoD_any 139 0 3 d s t mb mi ms md imm V h.2.1 h.2.2.2.2
theorem put_4 (d s t mb mi ms md imm : Int) (w : World) (hd : -9223372036854775808 ≤ md ∧ md ≤ 9223372036854775807) (hi : -9223372036854775808 ≤ imm ∧ imm ≤ 9223372036854775807) (hc : chk 4 d s t mb mi ms md imm = true) :
    Calls Try.prog 17 #[.agg #[.int .i64 4, .int .i64 d, .int .i64 s, .int .i64 t, .int .i64 mb, .int .i64 mi, .int .i64 ms, .int .i64 md, .int .i64 imm]] w
      fun e w' => e = .returned (.tuple #[.string (strB (encL 4 d s t mb mi ms md imm)), .int .i64 0]) ∧ Below w.heap.size w w' := by
  have e : encL 4 d s t mb mi ms md imm = ([rexI s mi mb, 137] ++ placeL s mb mi ms md) := rfl
  rw [e]
  refine inst_put 4 d s t mb mi ms md imm 137 0 51 _ w hd hi (by rw [hc]; rfl) (looks _ _ _ _ (fun r => by kernel_rfl) (fun r => by kernel_rfl)) (fun x y => Try.call51 x y) ?_
  rw [chk_4] at hc
  have h := hc
  clear hc e
  intro V
  exact mfromS_any 137 0 4 d s t mb mi ms md imm V h.2.2.1 h.2.2.2.2
theorem put_5 (d s t mb mi ms md imm : Int) (w : World) (hd : -9223372036854775808 ≤ md ∧ md ≤ 9223372036854775807) (hi : -9223372036854775808 ≤ imm ∧ imm ≤ 9223372036854775807) (hc : chk 5 d s t mb mi ms md imm = true) :
    Calls Try.prog 17 #[.agg #[.int .i64 5, .int .i64 d, .int .i64 s, .int .i64 t, .int .i64 mb, .int .i64 mi, .int .i64 ms, .int .i64 md, .int .i64 imm]] w
      fun e w' => e = .returned (.tuple #[.string (strB (encL 5 d s t mb mi ms md imm)), .int .i64 0]) ∧ Below w.heap.size w w' := by
  have e : encL 5 d s t mb mi ms md imm = ([rexI d mi mb, 141] ++ placeL d mb mi ms md) := rfl
  rw [e]
  refine inst_put 5 d s t mb mi ms md imm 141 0 50 _ w hd hi (by rw [hc]; rfl) (looks _ _ _ _ (fun r => by kernel_rfl) (fun r => by kernel_rfl)) (fun x y => Try.call50 x y) ?_
  rw [chk_5] at hc
  have h := hc
  clear hc e
  intro V
  exact mtoD_any 141 0 5 d s t mb mi ms md imm V h.2.1 h.2.2.2.2
theorem put_6 (d s t mb mi ms md imm : Int) (w : World) (hd : -9223372036854775808 ≤ md ∧ md ≤ 9223372036854775807) (hi : -9223372036854775808 ≤ imm ∧ imm ≤ 9223372036854775807) (hc : chk 6 d s t mb mi ms md imm = true) :
    Calls Try.prog 17 #[.agg #[.int .i64 6, .int .i64 d, .int .i64 s, .int .i64 t, .int .i64 mb, .int .i64 mi, .int .i64 ms, .int .i64 md, .int .i64 imm]] w
      fun e w' => e = .returned (.tuple #[.string (strB (encL 6 d s t mb mi ms md imm)), .int .i64 0]) ∧ Below w.heap.size w w' := by
  have e : encL 6 d s t mb mi ms md imm = [rexI s 0 d, 1, bothI s d] := rfl
  rw [e]
  refine inst_put 6 d s t mb mi ms md imm 1 0 48 _ w hd hi (by rw [hc]; rfl) (looks _ _ _ _ (fun r => by kernel_rfl) (fun r => by kernel_rfl)) (fun x y => Try.call48 x y) ?_
  rw [chk_6] at hc
  have h := hc
  clear hc e
  intro V
  exact two_any 1 0 6 d s t mb mi ms md imm V h.2.1 h.2.2.1
theorem put_7 (d s t mb mi ms md imm : Int) (w : World) (hd : -9223372036854775808 ≤ md ∧ md ≤ 9223372036854775807) (hi : -9223372036854775808 ≤ imm ∧ imm ≤ 9223372036854775807) (hc : chk 7 d s t mb mi ms md imm = true) :
    Calls Try.prog 17 #[.agg #[.int .i64 7, .int .i64 d, .int .i64 s, .int .i64 t, .int .i64 mb, .int .i64 mi, .int .i64 ms, .int .i64 md, .int .i64 imm]] w
      fun e w' => e = .returned (.tuple #[.string (strB (encL 7 d s t mb mi ms md imm)), .int .i64 0]) ∧ Below w.heap.size w w' := by
  have e : encL 7 d s t mb mi ms md imm = [rexI s 0 d, 17, bothI s d] := rfl
  rw [e]
  refine inst_put 7 d s t mb mi ms md imm 17 0 48 _ w hd hi (by rw [hc]; rfl) (looks _ _ _ _ (fun r => by kernel_rfl) (fun r => by kernel_rfl)) (fun x y => Try.call48 x y) ?_
  rw [chk_7] at hc
  have h := hc
  clear hc e
  intro V
  exact two_any 17 0 7 d s t mb mi ms md imm V h.2.1 h.2.2.1
theorem put_8 (d s t mb mi ms md imm : Int) (w : World) (hd : -9223372036854775808 ≤ md ∧ md ≤ 9223372036854775807) (hi : -9223372036854775808 ≤ imm ∧ imm ≤ 9223372036854775807) (hc : chk 8 d s t mb mi ms md imm = true) :
    Calls Try.prog 17 #[.agg #[.int .i64 8, .int .i64 d, .int .i64 s, .int .i64 t, .int .i64 mb, .int .i64 mi, .int .i64 ms, .int .i64 md, .int .i64 imm]] w
      fun e w' => e = .returned (.tuple #[.string (strB (encL 8 d s t mb mi ms md imm)), .int .i64 0]) ∧ Below w.heap.size w w' := by
  have e : encL 8 d s t mb mi ms md imm = [rexI s 0 d, 41, bothI s d] := rfl
  rw [e]
  refine inst_put 8 d s t mb mi ms md imm 41 0 48 _ w hd hi (by rw [hc]; rfl) (looks _ _ _ _ (fun r => by kernel_rfl) (fun r => by kernel_rfl)) (fun x y => Try.call48 x y) ?_
  rw [chk_8] at hc
  have h := hc
  clear hc e
  intro V
  exact two_any 41 0 8 d s t mb mi ms md imm V h.2.1 h.2.2.1
theorem put_9 (d s t mb mi ms md imm : Int) (w : World) (hd : -9223372036854775808 ≤ md ∧ md ≤ 9223372036854775807) (hi : -9223372036854775808 ≤ imm ∧ imm ≤ 9223372036854775807) (hc : chk 9 d s t mb mi ms md imm = true) :
    Calls Try.prog 17 #[.agg #[.int .i64 9, .int .i64 d, .int .i64 s, .int .i64 t, .int .i64 mb, .int .i64 mi, .int .i64 ms, .int .i64 md, .int .i64 imm]] w
      fun e w' => e = .returned (.tuple #[.string (strB (encL 9 d s t mb mi ms md imm)), .int .i64 0]) ∧ Below w.heap.size w w' := by
  have e : encL 9 d s t mb mi ms md imm = [rexI s 0 d, 25, bothI s d] := rfl
  rw [e]
  refine inst_put 9 d s t mb mi ms md imm 25 0 48 _ w hd hi (by rw [hc]; rfl) (looks _ _ _ _ (fun r => by kernel_rfl) (fun r => by kernel_rfl)) (fun x y => Try.call48 x y) ?_
  rw [chk_9] at hc
  have h := hc
  clear hc e
  intro V
  exact two_any 25 0 9 d s t mb mi ms md imm V h.2.1 h.2.2.1
theorem put_10 (d s t mb mi ms md imm : Int) (w : World) (hd : -9223372036854775808 ≤ md ∧ md ≤ 9223372036854775807) (hi : -9223372036854775808 ≤ imm ∧ imm ≤ 9223372036854775807) (hc : chk 10 d s t mb mi ms md imm = true) :
    Calls Try.prog 17 #[.agg #[.int .i64 10, .int .i64 d, .int .i64 s, .int .i64 t, .int .i64 mb, .int .i64 mi, .int .i64 ms, .int .i64 md, .int .i64 imm]] w
      fun e w' => e = .returned (.tuple #[.string (strB (encL 10 d s t mb mi ms md imm)), .int .i64 0]) ∧ Below w.heap.size w w' := by
  have e : encL 10 d s t mb mi ms md imm = [rexI s 0 d, 33, bothI s d] := rfl
  rw [e]
  refine inst_put 10 d s t mb mi ms md imm 33 0 48 _ w hd hi (by rw [hc]; rfl) (looks _ _ _ _ (fun r => by kernel_rfl) (fun r => by kernel_rfl)) (fun x y => Try.call48 x y) ?_
  rw [chk_10] at hc
  have h := hc
  clear hc e
  intro V
  exact two_any 33 0 10 d s t mb mi ms md imm V h.2.1 h.2.2.1
theorem put_11 (d s t mb mi ms md imm : Int) (w : World) (hd : -9223372036854775808 ≤ md ∧ md ≤ 9223372036854775807) (hi : -9223372036854775808 ≤ imm ∧ imm ≤ 9223372036854775807) (hc : chk 11 d s t mb mi ms md imm = true) :
    Calls Try.prog 17 #[.agg #[.int .i64 11, .int .i64 d, .int .i64 s, .int .i64 t, .int .i64 mb, .int .i64 mi, .int .i64 ms, .int .i64 md, .int .i64 imm]] w
      fun e w' => e = .returned (.tuple #[.string (strB (encL 11 d s t mb mi ms md imm)), .int .i64 0]) ∧ Below w.heap.size w w' := by
  have e : encL 11 d s t mb mi ms md imm = [rexI s 0 d, 9, bothI s d] := rfl
  rw [e]
  refine inst_put 11 d s t mb mi ms md imm 9 0 48 _ w hd hi (by rw [hc]; rfl) (looks _ _ _ _ (fun r => by kernel_rfl) (fun r => by kernel_rfl)) (fun x y => Try.call48 x y) ?_
  rw [chk_11] at hc
  have h := hc
  clear hc e
  intro V
  exact two_any 9 0 11 d s t mb mi ms md imm V h.2.1 h.2.2.1
theorem put_12 (d s t mb mi ms md imm : Int) (w : World) (hd : -9223372036854775808 ≤ md ∧ md ≤ 9223372036854775807) (hi : -9223372036854775808 ≤ imm ∧ imm ≤ 9223372036854775807) (hc : chk 12 d s t mb mi ms md imm = true) :
    Calls Try.prog 17 #[.agg #[.int .i64 12, .int .i64 d, .int .i64 s, .int .i64 t, .int .i64 mb, .int .i64 mi, .int .i64 ms, .int .i64 md, .int .i64 imm]] w
      fun e w' => e = .returned (.tuple #[.string (strB (encL 12 d s t mb mi ms md imm)), .int .i64 0]) ∧ Below w.heap.size w w' := by
  have e : encL 12 d s t mb mi ms md imm = [rexI s 0 d, 49, bothI s d] := rfl
  rw [e]
  refine inst_put 12 d s t mb mi ms md imm 49 0 48 _ w hd hi (by rw [hc]; rfl) (looks _ _ _ _ (fun r => by kernel_rfl) (fun r => by kernel_rfl)) (fun x y => Try.call48 x y) ?_
  rw [chk_12] at hc
  have h := hc
  clear hc e
  intro V
  exact two_any 49 0 12 d s t mb mi ms md imm V h.2.1 h.2.2.1
theorem put_13 (d s t mb mi ms md imm : Int) (w : World) (hd : -9223372036854775808 ≤ md ∧ md ≤ 9223372036854775807) (hi : -9223372036854775808 ≤ imm ∧ imm ≤ 9223372036854775807) (hc : chk 13 d s t mb mi ms md imm = true) :
    Calls Try.prog 17 #[.agg #[.int .i64 13, .int .i64 d, .int .i64 s, .int .i64 t, .int .i64 mb, .int .i64 mi, .int .i64 ms, .int .i64 md, .int .i64 imm]] w
      fun e w' => e = .returned (.tuple #[.string (strB (encL 13 d s t mb mi ms md imm)), .int .i64 0]) ∧ Below w.heap.size w w' := by
  have e : encL 13 d s t mb mi ms md imm = [rexI s 0 d, 57, bothI s d] := rfl
  rw [e]
  refine inst_put 13 d s t mb mi ms md imm 57 0 48 _ w hd hi (by rw [hc]; rfl) (looks _ _ _ _ (fun r => by kernel_rfl) (fun r => by kernel_rfl)) (fun x y => Try.call48 x y) ?_
  rw [chk_13] at hc
  have h := hc
  clear hc e
  intro V
  exact two_any 57 0 13 d s t mb mi ms md imm V h.2.1 h.2.2.1
theorem put_14 (d s t mb mi ms md imm : Int) (w : World) (hd : -9223372036854775808 ≤ md ∧ md ≤ 9223372036854775807) (hi : -9223372036854775808 ≤ imm ∧ imm ≤ 9223372036854775807) (hc : chk 14 d s t mb mi ms md imm = true) :
    Calls Try.prog 17 #[.agg #[.int .i64 14, .int .i64 d, .int .i64 s, .int .i64 t, .int .i64 mb, .int .i64 mi, .int .i64 ms, .int .i64 md, .int .i64 imm]] w
      fun e w' => e = .returned (.tuple #[.string (strB (encL 14 d s t mb mi ms md imm)), .int .i64 0]) ∧ Below w.heap.size w w' := by
  have e : encL 14 d s t mb mi ms md imm = [rexI s 0 d, 133, bothI s d] := rfl
  rw [e]
  refine inst_put 14 d s t mb mi ms md imm 133 0 48 _ w hd hi (by rw [hc]; rfl) (looks _ _ _ _ (fun r => by kernel_rfl) (fun r => by kernel_rfl)) (fun x y => Try.call48 x y) ?_
  rw [chk_14] at hc
  have h := hc
  clear hc e
  intro V
  exact two_any 133 0 14 d s t mb mi ms md imm V h.2.1 h.2.2.1
theorem put_15 (d s t mb mi ms md imm : Int) (w : World) (hd : -9223372036854775808 ≤ md ∧ md ≤ 9223372036854775807) (hi : -9223372036854775808 ≤ imm ∧ imm ≤ 9223372036854775807) (hc : chk 15 d s t mb mi ms md imm = true) :
    Calls Try.prog 17 #[.agg #[.int .i64 15, .int .i64 d, .int .i64 s, .int .i64 t, .int .i64 mb, .int .i64 mi, .int .i64 ms, .int .i64 md, .int .i64 imm]] w
      fun e w' => e = .returned (.tuple #[.string (strB (encL 15 d s t mb mi ms md imm)), .int .i64 0]) ∧ Below w.heap.size w w' := by
  have e : encL 15 d s t mb mi ms md imm = ([rexI 0 0 d, 129, bothI 0 d] ++ littleL imm 4) := rfl
  rw [e]
  refine inst_put 15 d s t mb mi ms md imm 129 0 52 _ w hd hi (by rw [hc]; rfl) (looks _ _ _ _ (fun r => by kernel_rfl) (fun r => by kernel_rfl)) (fun x y => Try.call52 x y) ?_
  rw [chk_15] at hc
  have h := hc
  clear hc e
  intro V
  exact mnumber_any 129 0 15 d s t mb mi ms md imm V h.2.1 (by omega) hi
theorem put_16 (d s t mb mi ms md imm : Int) (w : World) (hd : -9223372036854775808 ≤ md ∧ md ≤ 9223372036854775807) (hi : -9223372036854775808 ≤ imm ∧ imm ≤ 9223372036854775807) (hc : chk 16 d s t mb mi ms md imm = true) :
    Calls Try.prog 17 #[.agg #[.int .i64 16, .int .i64 d, .int .i64 s, .int .i64 t, .int .i64 mb, .int .i64 mi, .int .i64 ms, .int .i64 md, .int .i64 imm]] w
      fun e w' => e = .returned (.tuple #[.string (strB (encL 16 d s t mb mi ms md imm)), .int .i64 0]) ∧ Below w.heap.size w w' := by
  have e : encL 16 d s t mb mi ms md imm = ([rexI 0 0 d, 129, bothI 4 d] ++ littleL imm 4) := rfl
  rw [e]
  refine inst_put 16 d s t mb mi ms md imm 129 4 52 _ w hd hi (by rw [hc]; rfl) (looks _ _ _ _ (fun r => by kernel_rfl) (fun r => by kernel_rfl)) (fun x y => Try.call52 x y) ?_
  rw [chk_16] at hc
  have h := hc
  clear hc e
  intro V
  exact mnumber_any 129 4 16 d s t mb mi ms md imm V h.2.1 (by omega) hi
theorem put_17 (d s t mb mi ms md imm : Int) (w : World) (hd : -9223372036854775808 ≤ md ∧ md ≤ 9223372036854775807) (hi : -9223372036854775808 ≤ imm ∧ imm ≤ 9223372036854775807) (hc : chk 17 d s t mb mi ms md imm = true) :
    Calls Try.prog 17 #[.agg #[.int .i64 17, .int .i64 d, .int .i64 s, .int .i64 t, .int .i64 mb, .int .i64 mi, .int .i64 ms, .int .i64 md, .int .i64 imm]] w
      fun e w' => e = .returned (.tuple #[.string (strB (encL 17 d s t mb mi ms md imm)), .int .i64 0]) ∧ Below w.heap.size w w' := by
  have e : encL 17 d s t mb mi ms md imm = ([rexI 0 0 d, 129, bothI 5 d] ++ littleL imm 4) := rfl
  rw [e]
  refine inst_put 17 d s t mb mi ms md imm 129 5 52 _ w hd hi (by rw [hc]; rfl) (looks _ _ _ _ (fun r => by kernel_rfl) (fun r => by kernel_rfl)) (fun x y => Try.call52 x y) ?_
  rw [chk_17] at hc
  have h := hc
  clear hc e
  intro V
  exact mnumber_any 129 5 17 d s t mb mi ms md imm V h.2.1 (by omega) hi
theorem put_18 (d s t mb mi ms md imm : Int) (w : World) (hd : -9223372036854775808 ≤ md ∧ md ≤ 9223372036854775807) (hi : -9223372036854775808 ≤ imm ∧ imm ≤ 9223372036854775807) (hc : chk 18 d s t mb mi ms md imm = true) :
    Calls Try.prog 17 #[.agg #[.int .i64 18, .int .i64 d, .int .i64 s, .int .i64 t, .int .i64 mb, .int .i64 mi, .int .i64 ms, .int .i64 md, .int .i64 imm]] w
      fun e w' => e = .returned (.tuple #[.string (strB (encL 18 d s t mb mi ms md imm)), .int .i64 0]) ∧ Below w.heap.size w w' := by
  have e : encL 18 d s t mb mi ms md imm = ([rexI 0 0 d, 129, bothI 7 d] ++ littleL imm 4) := rfl
  rw [e]
  refine inst_put 18 d s t mb mi ms md imm 129 7 52 _ w hd hi (by rw [hc]; rfl) (looks _ _ _ _ (fun r => by kernel_rfl) (fun r => by kernel_rfl)) (fun x y => Try.call52 x y) ?_
  rw [chk_18] at hc
  have h := hc
  clear hc e
  intro V
  exact mnumber_any 129 7 18 d s t mb mi ms md imm V h.2.1 (by omega) hi
theorem put_19 (d s t mb mi ms md imm : Int) (w : World) (hd : -9223372036854775808 ≤ md ∧ md ≤ 9223372036854775807) (hi : -9223372036854775808 ≤ imm ∧ imm ≤ 9223372036854775807) (hc : chk 19 d s t mb mi ms md imm = true) :
    Calls Try.prog 17 #[.agg #[.int .i64 19, .int .i64 d, .int .i64 s, .int .i64 t, .int .i64 mb, .int .i64 mi, .int .i64 ms, .int .i64 md, .int .i64 imm]] w
      fun e w' => e = .returned (.tuple #[.string (strB (encL 19 d s t mb mi ms md imm)), .int .i64 0]) ∧ Below w.heap.size w w' := by
  have e : encL 19 d s t mb mi ms md imm = [196, mulx1 d t, mulx2 s, 246, bothI d t] := rfl
  rw [e]
  refine inst_put 19 d s t mb mi ms md imm 196 246 53 _ w hd hi (by rw [hc]; rfl) (looks _ _ _ _ (fun r => by kernel_rfl) (fun r => by kernel_rfl)) (fun x y => Try.call53 x y) ?_
  rw [chk_19] at hc
  have h := hc
  clear hc e
  intro V
  exact mulx_any 196 246 19 d s t mb mi ms md imm V h.2.1 h.2.2.2.1 h.2.2.1
theorem put_20 (d s t mb mi ms md imm : Int) (w : World) (hd : -9223372036854775808 ≤ md ∧ md ≤ 9223372036854775807) (hi : -9223372036854775808 ≤ imm ∧ imm ≤ 9223372036854775807) (hc : chk 20 d s t mb mi ms md imm = true) :
    Calls Try.prog 17 #[.agg #[.int .i64 20, .int .i64 d, .int .i64 s, .int .i64 t, .int .i64 mb, .int .i64 mi, .int .i64 ms, .int .i64 md, .int .i64 imm]] w
      fun e w' => e = .returned (.tuple #[.string (strB (encL 20 d s t mb mi ms md imm)), .int .i64 0]) ∧ Below w.heap.size w w' := by
  have e : encL 20 d s t mb mi ms md imm = [102, rexI d 0 s, 15, 56, 246, bothI d s] := rfl
  rw [e]
  refine inst_put 20 d s t mb mi ms md imm 102 246 54 _ w hd hi (by rw [hc]; rfl) (looks _ _ _ _ (fun r => by kernel_rfl) (fun r => by kernel_rfl)) (fun x y => Try.call54 x y) ?_
  rw [chk_20] at hc
  have h := hc
  clear hc e
  intro V
  exact chain_any 102 246 20 d s t mb mi ms md imm V h.2.1 h.2.2.1
theorem put_21 (d s t mb mi ms md imm : Int) (w : World) (hd : -9223372036854775808 ≤ md ∧ md ≤ 9223372036854775807) (hi : -9223372036854775808 ≤ imm ∧ imm ≤ 9223372036854775807) (hc : chk 21 d s t mb mi ms md imm = true) :
    Calls Try.prog 17 #[.agg #[.int .i64 21, .int .i64 d, .int .i64 s, .int .i64 t, .int .i64 mb, .int .i64 mi, .int .i64 ms, .int .i64 md, .int .i64 imm]] w
      fun e w' => e = .returned (.tuple #[.string (strB (encL 21 d s t mb mi ms md imm)), .int .i64 0]) ∧ Below w.heap.size w w' := by
  have e : encL 21 d s t mb mi ms md imm = [243, rexI d 0 s, 15, 56, 246, bothI d s] := rfl
  rw [e]
  refine inst_put 21 d s t mb mi ms md imm 243 246 54 _ w hd hi (by rw [hc]; rfl) (looks _ _ _ _ (fun r => by kernel_rfl) (fun r => by kernel_rfl)) (fun x y => Try.call54 x y) ?_
  rw [chk_21] at hc
  have h := hc
  clear hc e
  intro V
  exact chain_any 243 246 21 d s t mb mi ms md imm V h.2.1 h.2.2.1
theorem put_22 (d s t mb mi ms md imm : Int) (w : World) (hd : -9223372036854775808 ≤ md ∧ md ≤ 9223372036854775807) (hi : -9223372036854775808 ≤ imm ∧ imm ≤ 9223372036854775807) (hc : chk 22 d s t mb mi ms md imm = true) :
    Calls Try.prog 17 #[.agg #[.int .i64 22, .int .i64 d, .int .i64 s, .int .i64 t, .int .i64 mb, .int .i64 mi, .int .i64 ms, .int .i64 md, .int .i64 imm]] w
      fun e w' => e = .returned (.tuple #[.string (strB (encL 22 d s t mb mi ms md imm)), .int .i64 0]) ∧ Below w.heap.size w w' := by
  have e : encL 22 d s t mb mi ms md imm = [rexI 0 0 d, 247, bothI 3 d] := rfl
  rw [e]
  refine inst_put 22 d s t mb mi ms md imm 247 3 55 _ w hd hi (by rw [hc]; rfl) (looks _ _ _ _ (fun r => by kernel_rfl) (fun r => by kernel_rfl)) (fun x y => Try.call55 x y) ?_
  rw [chk_22] at hc
  have h := hc
  clear hc e
  intro V
  exact one_any 247 3 22 d s t mb mi ms md imm V h.2.1 (by omega)
theorem put_23 (d s t mb mi ms md imm : Int) (w : World) (hd : -9223372036854775808 ≤ md ∧ md ≤ 9223372036854775807) (hi : -9223372036854775808 ≤ imm ∧ imm ≤ 9223372036854775807) (hc : chk 23 d s t mb mi ms md imm = true) :
    Calls Try.prog 17 #[.agg #[.int .i64 23, .int .i64 d, .int .i64 s, .int .i64 t, .int .i64 mb, .int .i64 mi, .int .i64 ms, .int .i64 md, .int .i64 imm]] w
      fun e w' => e = .returned (.tuple #[.string (strB (encL 23 d s t mb mi ms md imm)), .int .i64 0]) ∧ Below w.heap.size w w' := by
  have e : encL 23 d s t mb mi ms md imm = [rexI 0 0 d, 247, bothI 2 d] := rfl
  rw [e]
  refine inst_put 23 d s t mb mi ms md imm 247 2 55 _ w hd hi (by rw [hc]; rfl) (looks _ _ _ _ (fun r => by kernel_rfl) (fun r => by kernel_rfl)) (fun x y => Try.call55 x y) ?_
  rw [chk_23] at hc
  have h := hc
  clear hc e
  intro V
  exact one_any 247 2 23 d s t mb mi ms md imm V h.2.1 (by omega)
theorem put_24 (d s t mb mi ms md imm : Int) (w : World) (hd : -9223372036854775808 ≤ md ∧ md ≤ 9223372036854775807) (hi : -9223372036854775808 ≤ imm ∧ imm ≤ 9223372036854775807) (hc : chk 24 d s t mb mi ms md imm = true) :
    Calls Try.prog 17 #[.agg #[.int .i64 24, .int .i64 d, .int .i64 s, .int .i64 t, .int .i64 mb, .int .i64 mi, .int .i64 ms, .int .i64 md, .int .i64 imm]] w
      fun e w' => e = .returned (.tuple #[.string (strB (encL 24 d s t mb mi ms md imm)), .int .i64 0]) ∧ Below w.heap.size w w' := by
  have e : encL 24 d s t mb mi ms md imm = ([rexI 0 0 d, 193, bothI 4 d] ++ [imm]) := rfl
  rw [e]
  refine inst_put 24 d s t mb mi ms md imm 193 4 56 _ w hd hi (by rw [hc]; rfl) (looks _ _ _ _ (fun r => by kernel_rfl) (fun r => by kernel_rfl)) (fun x y => Try.call56 x y) ?_
  rw [chk_24] at hc
  have h := hc
  clear hc e
  intro V
  exact mshift_any 193 4 24 d s t mb mi ms md imm V h.2.1 (by omega) (by have := h.1; omega)
theorem put_25 (d s t mb mi ms md imm : Int) (w : World) (hd : -9223372036854775808 ≤ md ∧ md ≤ 9223372036854775807) (hi : -9223372036854775808 ≤ imm ∧ imm ≤ 9223372036854775807) (hc : chk 25 d s t mb mi ms md imm = true) :
    Calls Try.prog 17 #[.agg #[.int .i64 25, .int .i64 d, .int .i64 s, .int .i64 t, .int .i64 mb, .int .i64 mi, .int .i64 ms, .int .i64 md, .int .i64 imm]] w
      fun e w' => e = .returned (.tuple #[.string (strB (encL 25 d s t mb mi ms md imm)), .int .i64 0]) ∧ Below w.heap.size w w' := by
  have e : encL 25 d s t mb mi ms md imm = ([rexI 0 0 d, 193, bothI 5 d] ++ [imm]) := rfl
  rw [e]
  refine inst_put 25 d s t mb mi ms md imm 193 5 56 _ w hd hi (by rw [hc]; rfl) (looks _ _ _ _ (fun r => by kernel_rfl) (fun r => by kernel_rfl)) (fun x y => Try.call56 x y) ?_
  rw [chk_25] at hc
  have h := hc
  clear hc e
  intro V
  exact mshift_any 193 5 25 d s t mb mi ms md imm V h.2.1 (by omega) (by have := h.1; omega)
theorem put_26 (d s t mb mi ms md imm : Int) (w : World) (hd : -9223372036854775808 ≤ md ∧ md ≤ 9223372036854775807) (hi : -9223372036854775808 ≤ imm ∧ imm ≤ 9223372036854775807) (hc : chk 26 d s t mb mi ms md imm = true) :
    Calls Try.prog 17 #[.agg #[.int .i64 26, .int .i64 d, .int .i64 s, .int .i64 t, .int .i64 mb, .int .i64 mi, .int .i64 ms, .int .i64 md, .int .i64 imm]] w
      fun e w' => e = .returned (.tuple #[.string (strB (encL 26 d s t mb mi ms md imm)), .int .i64 0]) ∧ Below w.heap.size w w' := by
  have e : encL 26 d s t mb mi ms md imm = [rexI d 0 s, 15, 66, bothI d s] := rfl
  rw [e]
  refine inst_put 26 d s t mb mi ms md imm 15 66 57 _ w hd hi (by rw [hc]; rfl) (looks _ _ _ _ (fun r => by kernel_rfl) (fun r => by kernel_rfl)) (fun x y => Try.call57 x y) ?_
  rw [chk_26] at hc
  have h := hc
  clear hc e
  intro V
  exact move_any 15 66 26 d s t mb mi ms md imm V h.2.1 h.2.2.1
theorem put_27 (d s t mb mi ms md imm : Int) (w : World) (hd : -9223372036854775808 ≤ md ∧ md ≤ 9223372036854775807) (hi : -9223372036854775808 ≤ imm ∧ imm ≤ 9223372036854775807) (hc : chk 27 d s t mb mi ms md imm = true) :
    Calls Try.prog 17 #[.agg #[.int .i64 27, .int .i64 d, .int .i64 s, .int .i64 t, .int .i64 mb, .int .i64 mi, .int .i64 ms, .int .i64 md, .int .i64 imm]] w
      fun e w' => e = .returned (.tuple #[.string (strB (encL 27 d s t mb mi ms md imm)), .int .i64 0]) ∧ Below w.heap.size w w' := by
  have e : encL 27 d s t mb mi ms md imm = [rexI d 0 s, 15, 69, bothI d s] := rfl
  rw [e]
  refine inst_put 27 d s t mb mi ms md imm 15 69 57 _ w hd hi (by rw [hc]; rfl) (looks _ _ _ _ (fun r => by kernel_rfl) (fun r => by kernel_rfl)) (fun x y => Try.call57 x y) ?_
  rw [chk_27] at hc
  have h := hc
  clear hc e
  intro V
  exact move_any 15 69 27 d s t mb mi ms md imm V h.2.1 h.2.2.1
theorem put_28 (d s t mb mi ms md imm : Int) (w : World) (hd : -9223372036854775808 ≤ md ∧ md ≤ 9223372036854775807) (hi : -9223372036854775808 ≤ imm ∧ imm ≤ 9223372036854775807) (hc : chk 28 d s t mb mi ms md imm = true) :
    Calls Try.prog 17 #[.agg #[.int .i64 28, .int .i64 d, .int .i64 s, .int .i64 t, .int .i64 mb, .int .i64 mi, .int .i64 ms, .int .i64 md, .int .i64 imm]] w
      fun e w' => e = .returned (.tuple #[.string (strB (encL 28 d s t mb mi ms md imm)), .int .i64 0]) ∧ Below w.heap.size w w' := by
  have e : encL 28 d s t mb mi ms md imm = stackL 80 s := rfl
  rw [e]
  refine inst_put 28 d s t mb mi ms md imm 80 0 58 _ w hd hi (by rw [hc]; rfl) (looks _ _ _ _ (fun r => by kernel_rfl) (fun r => by kernel_rfl)) (fun x y => Try.call58 x y) ?_
  rw [chk_28] at hc
  have h := hc
  clear hc e
  intro V
  exact mstackS_any 80 0 28 d s t mb mi ms md imm V h.2.2.1 h.2.1 (by omega)
theorem put_29 (d s t mb mi ms md imm : Int) (w : World) (hd : -9223372036854775808 ≤ md ∧ md ≤ 9223372036854775807) (hi : -9223372036854775808 ≤ imm ∧ imm ≤ 9223372036854775807) (hc : chk 29 d s t mb mi ms md imm = true) :
    Calls Try.prog 17 #[.agg #[.int .i64 29, .int .i64 d, .int .i64 s, .int .i64 t, .int .i64 mb, .int .i64 mi, .int .i64 ms, .int .i64 md, .int .i64 imm]] w
      fun e w' => e = .returned (.tuple #[.string (strB (encL 29 d s t mb mi ms md imm)), .int .i64 0]) ∧ Below w.heap.size w w' := by
  have e : encL 29 d s t mb mi ms md imm = stackL 88 d := rfl
  rw [e]
  refine inst_put 29 d s t mb mi ms md imm 88 0 58 _ w hd hi (by rw [hc]; rfl) (looks _ _ _ _ (fun r => by kernel_rfl) (fun r => by kernel_rfl)) (fun x y => Try.call58 x y) ?_
  rw [chk_29] at hc
  have h := hc
  clear hc e
  intro V
  exact mstackD_any 88 0 29 d s t mb mi ms md imm V h.2.1 h.2.2.1 (by omega)
theorem put_30 (d s t mb mi ms md imm : Int) (w : World) (hd : -9223372036854775808 ≤ md ∧ md ≤ 9223372036854775807) (hi : -9223372036854775808 ≤ imm ∧ imm ≤ 9223372036854775807) (hc : chk 30 d s t mb mi ms md imm = true) :
    Calls Try.prog 17 #[.agg #[.int .i64 30, .int .i64 d, .int .i64 s, .int .i64 t, .int .i64 mb, .int .i64 mi, .int .i64 ms, .int .i64 md, .int .i64 imm]] w
      fun e w' => e = .returned (.tuple #[.string (strB (encL 30 d s t mb mi ms md imm)), .int .i64 0]) ∧ Below w.heap.size w w' := by
  have e : encL 30 d s t mb mi ms md imm = jumpL 233 0 imm := rfl
  rw [e]
  refine inst_put 30 d s t mb mi ms md imm 233 0 59 _ w hd hi (by rw [hc]; rfl) (looks _ _ _ _ (fun r => by kernel_rfl) (fun r => by kernel_rfl)) (fun x y => Try.call59 x y) ?_
  rw [chk_30] at hc
  have h := hc
  clear hc e
  intro V
  exact mjump_any 233 0 30 d s t mb mi ms md imm V hi
theorem put_31 (d s t mb mi ms md imm : Int) (w : World) (hd : -9223372036854775808 ≤ md ∧ md ≤ 9223372036854775807) (hi : -9223372036854775808 ≤ imm ∧ imm ≤ 9223372036854775807) (hc : chk 31 d s t mb mi ms md imm = true) :
    Calls Try.prog 17 #[.agg #[.int .i64 31, .int .i64 d, .int .i64 s, .int .i64 t, .int .i64 mb, .int .i64 mi, .int .i64 ms, .int .i64 md, .int .i64 imm]] w
      fun e w' => e = .returned (.tuple #[.string (strB (encL 31 d s t mb mi ms md imm)), .int .i64 0]) ∧ Below w.heap.size w w' := by
  have e : encL 31 d s t mb mi ms md imm = jumpL 15 133 imm := rfl
  rw [e]
  refine inst_put 31 d s t mb mi ms md imm 15 133 59 _ w hd hi (by rw [hc]; rfl) (looks _ _ _ _ (fun r => by kernel_rfl) (fun r => by kernel_rfl)) (fun x y => Try.call59 x y) ?_
  rw [chk_31] at hc
  have h := hc
  clear hc e
  intro V
  exact mjump_any 15 133 31 d s t mb mi ms md imm V hi
theorem put_32 (d s t mb mi ms md imm : Int) (w : World) (hd : -9223372036854775808 ≤ md ∧ md ≤ 9223372036854775807) (hi : -9223372036854775808 ≤ imm ∧ imm ≤ 9223372036854775807) (hc : chk 32 d s t mb mi ms md imm = true) :
    Calls Try.prog 17 #[.agg #[.int .i64 32, .int .i64 d, .int .i64 s, .int .i64 t, .int .i64 mb, .int .i64 mi, .int .i64 ms, .int .i64 md, .int .i64 imm]] w
      fun e w' => e = .returned (.tuple #[.string (strB (encL 32 d s t mb mi ms md imm)), .int .i64 0]) ∧ Below w.heap.size w w' := by
  have e : encL 32 d s t mb mi ms md imm = jumpL 15 130 imm := rfl
  rw [e]
  refine inst_put 32 d s t mb mi ms md imm 15 130 59 _ w hd hi (by rw [hc]; rfl) (looks _ _ _ _ (fun r => by kernel_rfl) (fun r => by kernel_rfl)) (fun x y => Try.call59 x y) ?_
  rw [chk_32] at hc
  have h := hc
  clear hc e
  intro V
  exact mjump_any 15 130 32 d s t mb mi ms md imm V hi
theorem put_33 (d s t mb mi ms md imm : Int) (w : World) (hd : -9223372036854775808 ≤ md ∧ md ≤ 9223372036854775807) (hi : -9223372036854775808 ≤ imm ∧ imm ≤ 9223372036854775807) (hc : chk 33 d s t mb mi ms md imm = true) :
    Calls Try.prog 17 #[.agg #[.int .i64 33, .int .i64 d, .int .i64 s, .int .i64 t, .int .i64 mb, .int .i64 mi, .int .i64 ms, .int .i64 md, .int .i64 imm]] w
      fun e w' => e = .returned (.tuple #[.string (strB (encL 33 d s t mb mi ms md imm)), .int .i64 0]) ∧ Below w.heap.size w w' := by
  have e : encL 33 d s t mb mi ms md imm = [195] := rfl
  rw [e]
  refine inst_put 33 d s t mb mi ms md imm 195 0 60 _ w hd hi (by rw [hc]; rfl) (looks _ _ _ _ (fun r => by kernel_rfl) (fun r => by kernel_rfl)) (fun x y => Try.call60 x y) ?_
  rw [chk_33] at hc
  have h := hc
  clear hc e
  intro V
  exact mret_any 195 0 33 d s t mb mi ms md imm V
def outE (op d s t mb mi ms md imm : Int) : ByteArray := if chk op d s t mb mi ms md imm = true then strB (encL op d s t mb mi ms md imm) else ⟨#[]⟩
theorem einst_any (op d s t mb mi ms md imm : Int) (w : World) (hd : -9223372036854775808 ≤ md ∧ md ≤ 9223372036854775807) (hi : -9223372036854775808 ≤ imm ∧ imm ≤ 9223372036854775807) :
    Calls Try.prog 17 #[.agg #[.int .i64 op, .int .i64 d, .int .i64 s, .int .i64 t, .int .i64 mb, .int .i64 mi, .int .i64 ms, .int .i64 md, .int .i64 imm]] w
      fun e w' => e = .returned (.tuple #[.string (outE op d s t mb mi ms md imm), .int .i64 (errOf (chk op d s t mb mi ms md imm))]) ∧ Below w.heap.size w w' := by
  unfold outE
  by_cases hc : chk op d s t mb mi ms md imm = true
  · rw [if_pos hc, show errOf (chk op d s t mb mi ms md imm) = 0 by rw [hc]; rfl]
    have hr := chk_range hc
    have : op = 1 ∨ op = 2 ∨ op = 3 ∨ op = 4 ∨ op = 5 ∨ op = 6 ∨ op = 7 ∨ op = 8 ∨ op = 9 ∨ op = 10 ∨ op = 11 ∨ op = 12 ∨ op = 13 ∨ op = 14 ∨ op = 15 ∨ op = 16 ∨ op = 17 ∨ op = 18 ∨ op = 19 ∨ op = 20 ∨ op = 21 ∨ op = 22 ∨ op = 23 ∨ op = 24 ∨ op = 25 ∨ op = 26 ∨ op = 27 ∨ op = 28 ∨ op = 29 ∨ op = 30 ∨ op = 31 ∨ op = 32 ∨ op = 33 := by omega
    rcases this with rfl | rfl | rfl | rfl | rfl | rfl | rfl | rfl | rfl | rfl | rfl | rfl | rfl | rfl | rfl | rfl | rfl | rfl | rfl | rfl | rfl | rfl | rfl | rfl | rfl | rfl | rfl | rfl | rfl | rfl | rfl | rfl | rfl
    · exact put_1 d s t mb mi ms md imm w hd hi hc
    · exact put_2 d s t mb mi ms md imm w hd hi hc
    · exact put_3 d s t mb mi ms md imm w hd hi hc
    · exact put_4 d s t mb mi ms md imm w hd hi hc
    · exact put_5 d s t mb mi ms md imm w hd hi hc
    · exact put_6 d s t mb mi ms md imm w hd hi hc
    · exact put_7 d s t mb mi ms md imm w hd hi hc
    · exact put_8 d s t mb mi ms md imm w hd hi hc
    · exact put_9 d s t mb mi ms md imm w hd hi hc
    · exact put_10 d s t mb mi ms md imm w hd hi hc
    · exact put_11 d s t mb mi ms md imm w hd hi hc
    · exact put_12 d s t mb mi ms md imm w hd hi hc
    · exact put_13 d s t mb mi ms md imm w hd hi hc
    · exact put_14 d s t mb mi ms md imm w hd hi hc
    · exact put_15 d s t mb mi ms md imm w hd hi hc
    · exact put_16 d s t mb mi ms md imm w hd hi hc
    · exact put_17 d s t mb mi ms md imm w hd hi hc
    · exact put_18 d s t mb mi ms md imm w hd hi hc
    · exact put_19 d s t mb mi ms md imm w hd hi hc
    · exact put_20 d s t mb mi ms md imm w hd hi hc
    · exact put_21 d s t mb mi ms md imm w hd hi hc
    · exact put_22 d s t mb mi ms md imm w hd hi hc
    · exact put_23 d s t mb mi ms md imm w hd hi hc
    · exact put_24 d s t mb mi ms md imm w hd hi hc
    · exact put_25 d s t mb mi ms md imm w hd hi hc
    · exact put_26 d s t mb mi ms md imm w hd hi hc
    · exact put_27 d s t mb mi ms md imm w hd hi hc
    · exact put_28 d s t mb mi ms md imm w hd hi hc
    · exact put_29 d s t mb mi ms md imm w hd hi hc
    · exact put_30 d s t mb mi ms md imm w hd hi hc
    · exact put_31 d s t mb mi ms md imm w hd hi hc
    · exact put_32 d s t mb mi ms md imm w hd hi hc
    · exact put_33 d s t mb mi ms md imm w hd hi hc
  · rw [if_neg hc]
    refine inst_err op d s t mb mi ms md imm w hd hi ?_
    rw [show chk op d s t mb mi ms md imm = false by simpa using hc]; rfl
end Go.Proofs.Ytakmpnmmcjnecaa
