/- keysmithref05.Check of any instruction: it answers as inst.Check does. Conditions: none. -/
import Derived.Test.YtakmpnmmcjnecaaRefCA
import Derived.Test.YtakmpnmmcjnecaaRefCB
import Derived.Test.YtakmpnmmcjnecaaRefCC
import Derived.Test.YtakmpnmmcjnecaaRefCD
import Derived.Test.YtakmpnmmcjnecaaEAny
namespace Go.Proofs.Ytakmpnmmcjnecaa
open Go.RowKit Calm

theorem reg_iff (x : Int) : (reg x = true) = Reg x := propext ⟨reg_of, of_reg⟩
theorem memZ_iff (a b c d : Int) : (memZ a b c d = true) = (a = 0 ∧ b = 0 ∧ c = 0 ∧ d = 0) := by unfold memZ; simp [and_assoc]
theorem smallB_iff (n : Int) : (smallB n = true) = (-2147483648 ≤ n ∧ n ≤ 2147483647) := by unfold smallB; simp
theorem chkX_1 (d s t mb mi ms md imm : Int) : chk 1 d s t mb mi ms md imm = (reg d && reg s && (t == 0) && memZ mb mi ms md && (imm == 0)) := by
  rw [Bool.eq_iff_iff, chk_1]
  simp only [Bool.and_eq_true, reg_iff, beq_iff_eq, memZ_iff]
  constructor <;> (intro h; simp_all)
theorem chkX_2 (d s t mb mi ms md imm : Int) : chk 2 d s t mb mi ms md imm = (reg d && (s == 0) && (t == 0) && memZ mb mi ms md) := by
  rw [Bool.eq_iff_iff, chk_2]
  simp only [Bool.and_eq_true, reg_iff, beq_iff_eq, memZ_iff]
  constructor <;> (intro h; simp_all)
theorem chkX_3 (d s t mb mi ms md imm : Int) : chk 3 d s t mb mi ms md imm = (reg d && (s == 0) && (t == 0) && plc mb mi ms md && (imm == 0)) := by
  rw [Bool.eq_iff_iff, chk_3]
  simp only [Bool.and_eq_true, reg_iff, beq_iff_eq]
  constructor <;> (intro h; simp_all)
theorem chkX_4 (d s t mb mi ms md imm : Int) : chk 4 d s t mb mi ms md imm = ((d == 0) && reg s && (t == 0) && plc mb mi ms md && (imm == 0)) := by
  rw [Bool.eq_iff_iff, chk_4]
  simp only [Bool.and_eq_true, reg_iff, beq_iff_eq]
  constructor <;> (intro h; simp_all)
theorem chkX_5 (d s t mb mi ms md imm : Int) : chk 5 d s t mb mi ms md imm = (reg d && (s == 0) && (t == 0) && plc mb mi ms md && (imm == 0)) := by
  rw [Bool.eq_iff_iff, chk_5]
  simp only [Bool.and_eq_true, reg_iff, beq_iff_eq]
  constructor <;> (intro h; simp_all)
theorem chkX_6 (d s t mb mi ms md imm : Int) : chk 6 d s t mb mi ms md imm = (reg d && reg s && (t == 0) && memZ mb mi ms md && (imm == 0)) := by
  rw [Bool.eq_iff_iff, chk_6]
  simp only [Bool.and_eq_true, reg_iff, beq_iff_eq, memZ_iff]
  constructor <;> (intro h; simp_all)
theorem chkX_7 (d s t mb mi ms md imm : Int) : chk 7 d s t mb mi ms md imm = (reg d && reg s && (t == 0) && memZ mb mi ms md && (imm == 0)) := by
  rw [Bool.eq_iff_iff, chk_7]
  simp only [Bool.and_eq_true, reg_iff, beq_iff_eq, memZ_iff]
  constructor <;> (intro h; simp_all)
theorem chkX_8 (d s t mb mi ms md imm : Int) : chk 8 d s t mb mi ms md imm = (reg d && reg s && (t == 0) && memZ mb mi ms md && (imm == 0)) := by
  rw [Bool.eq_iff_iff, chk_8]
  simp only [Bool.and_eq_true, reg_iff, beq_iff_eq, memZ_iff]
  constructor <;> (intro h; simp_all)
theorem chkX_9 (d s t mb mi ms md imm : Int) : chk 9 d s t mb mi ms md imm = (reg d && reg s && (t == 0) && memZ mb mi ms md && (imm == 0)) := by
  rw [Bool.eq_iff_iff, chk_9]
  simp only [Bool.and_eq_true, reg_iff, beq_iff_eq, memZ_iff]
  constructor <;> (intro h; simp_all)
theorem chkX_10 (d s t mb mi ms md imm : Int) : chk 10 d s t mb mi ms md imm = (reg d && reg s && (t == 0) && memZ mb mi ms md && (imm == 0)) := by
  rw [Bool.eq_iff_iff, chk_10]
  simp only [Bool.and_eq_true, reg_iff, beq_iff_eq, memZ_iff]
  constructor <;> (intro h; simp_all)
theorem chkX_11 (d s t mb mi ms md imm : Int) : chk 11 d s t mb mi ms md imm = (reg d && reg s && (t == 0) && memZ mb mi ms md && (imm == 0)) := by
  rw [Bool.eq_iff_iff, chk_11]
  simp only [Bool.and_eq_true, reg_iff, beq_iff_eq, memZ_iff]
  constructor <;> (intro h; simp_all)
theorem chkX_12 (d s t mb mi ms md imm : Int) : chk 12 d s t mb mi ms md imm = (reg d && reg s && (t == 0) && memZ mb mi ms md && (imm == 0)) := by
  rw [Bool.eq_iff_iff, chk_12]
  simp only [Bool.and_eq_true, reg_iff, beq_iff_eq, memZ_iff]
  constructor <;> (intro h; simp_all)
theorem chkX_13 (d s t mb mi ms md imm : Int) : chk 13 d s t mb mi ms md imm = (reg d && reg s && (t == 0) && memZ mb mi ms md && (imm == 0)) := by
  rw [Bool.eq_iff_iff, chk_13]
  simp only [Bool.and_eq_true, reg_iff, beq_iff_eq, memZ_iff]
  constructor <;> (intro h; simp_all)
theorem chkX_14 (d s t mb mi ms md imm : Int) : chk 14 d s t mb mi ms md imm = (reg d && reg s && (t == 0) && memZ mb mi ms md && (imm == 0)) := by
  rw [Bool.eq_iff_iff, chk_14]
  simp only [Bool.and_eq_true, reg_iff, beq_iff_eq, memZ_iff]
  constructor <;> (intro h; simp_all)
theorem chkX_15 (d s t mb mi ms md imm : Int) : chk 15 d s t mb mi ms md imm = (reg d && (s == 0) && (t == 0) && memZ mb mi ms md && smallB imm) := by
  rw [Bool.eq_iff_iff, chk_15]
  simp only [Bool.and_eq_true, reg_iff, beq_iff_eq, memZ_iff, smallB_iff]
  constructor <;> (intro h; simp_all)
theorem chkX_16 (d s t mb mi ms md imm : Int) : chk 16 d s t mb mi ms md imm = (reg d && (s == 0) && (t == 0) && memZ mb mi ms md && smallB imm) := by
  rw [Bool.eq_iff_iff, chk_16]
  simp only [Bool.and_eq_true, reg_iff, beq_iff_eq, memZ_iff, smallB_iff]
  constructor <;> (intro h; simp_all)
theorem chkX_17 (d s t mb mi ms md imm : Int) : chk 17 d s t mb mi ms md imm = (reg d && (s == 0) && (t == 0) && memZ mb mi ms md && smallB imm) := by
  rw [Bool.eq_iff_iff, chk_17]
  simp only [Bool.and_eq_true, reg_iff, beq_iff_eq, memZ_iff, smallB_iff]
  constructor <;> (intro h; simp_all)
theorem chkX_18 (d s t mb mi ms md imm : Int) : chk 18 d s t mb mi ms md imm = (reg d && (s == 0) && (t == 0) && memZ mb mi ms md && smallB imm) := by
  rw [Bool.eq_iff_iff, chk_18]
  simp only [Bool.and_eq_true, reg_iff, beq_iff_eq, memZ_iff, smallB_iff]
  constructor <;> (intro h; simp_all)
theorem chkX_19 (d s t mb mi ms md imm : Int) : chk 19 d s t mb mi ms md imm = (reg d && reg s && reg t && (d != s) && memZ mb mi ms md && (imm == 0)) := by
  rw [Bool.eq_iff_iff, chk_19]
  simp only [Bool.and_eq_true, reg_iff, beq_iff_eq, bne_iff_ne, ne_eq, memZ_iff]
  constructor <;> (intro h; simp_all)
theorem chkX_20 (d s t mb mi ms md imm : Int) : chk 20 d s t mb mi ms md imm = (reg d && reg s && (t == 0) && memZ mb mi ms md && (imm == 0)) := by
  rw [Bool.eq_iff_iff, chk_20]
  simp only [Bool.and_eq_true, reg_iff, beq_iff_eq, memZ_iff]
  constructor <;> (intro h; simp_all)
theorem chkX_21 (d s t mb mi ms md imm : Int) : chk 21 d s t mb mi ms md imm = (reg d && reg s && (t == 0) && memZ mb mi ms md && (imm == 0)) := by
  rw [Bool.eq_iff_iff, chk_21]
  simp only [Bool.and_eq_true, reg_iff, beq_iff_eq, memZ_iff]
  constructor <;> (intro h; simp_all)
theorem chkX_22 (d s t mb mi ms md imm : Int) : chk 22 d s t mb mi ms md imm = (reg d && (s == 0) && (t == 0) && memZ mb mi ms md && (imm == 0)) := by
  rw [Bool.eq_iff_iff, chk_22]
  simp only [Bool.and_eq_true, reg_iff, beq_iff_eq, memZ_iff]
  constructor <;> (intro h; simp_all)
theorem chkX_23 (d s t mb mi ms md imm : Int) : chk 23 d s t mb mi ms md imm = (reg d && (s == 0) && (t == 0) && memZ mb mi ms md && (imm == 0)) := by
  rw [Bool.eq_iff_iff, chk_23]
  simp only [Bool.and_eq_true, reg_iff, beq_iff_eq, memZ_iff]
  constructor <;> (intro h; simp_all)
theorem chkX_24 (d s t mb mi ms md imm : Int) : chk 24 d s t mb mi ms md imm = (reg d && (s == 0) && (t == 0) && memZ mb mi ms md && decide (1 ≤ imm) && decide (imm ≤ 63)) := by
  rw [Bool.eq_iff_iff, chk_24]
  simp only [Bool.and_eq_true, reg_iff, beq_iff_eq, decide_eq_true_eq, memZ_iff]
  constructor <;> (intro h; simp_all)
theorem chkX_25 (d s t mb mi ms md imm : Int) : chk 25 d s t mb mi ms md imm = (reg d && (s == 0) && (t == 0) && memZ mb mi ms md && decide (1 ≤ imm) && decide (imm ≤ 63)) := by
  rw [Bool.eq_iff_iff, chk_25]
  simp only [Bool.and_eq_true, reg_iff, beq_iff_eq, decide_eq_true_eq, memZ_iff]
  constructor <;> (intro h; simp_all)
theorem chkX_26 (d s t mb mi ms md imm : Int) : chk 26 d s t mb mi ms md imm = (reg d && reg s && (t == 0) && memZ mb mi ms md && (imm == 0)) := by
  rw [Bool.eq_iff_iff, chk_26]
  simp only [Bool.and_eq_true, reg_iff, beq_iff_eq, memZ_iff]
  constructor <;> (intro h; simp_all)
theorem chkX_27 (d s t mb mi ms md imm : Int) : chk 27 d s t mb mi ms md imm = (reg d && reg s && (t == 0) && memZ mb mi ms md && (imm == 0)) := by
  rw [Bool.eq_iff_iff, chk_27]
  simp only [Bool.and_eq_true, reg_iff, beq_iff_eq, memZ_iff]
  constructor <;> (intro h; simp_all)
theorem chkX_28 (d s t mb mi ms md imm : Int) : chk 28 d s t mb mi ms md imm = ((d == 0) && reg s && (t == 0) && memZ mb mi ms md && (imm == 0)) := by
  rw [Bool.eq_iff_iff, chk_28]
  simp only [Bool.and_eq_true, reg_iff, beq_iff_eq, memZ_iff]
  constructor <;> (intro h; simp_all)
theorem chkX_29 (d s t mb mi ms md imm : Int) : chk 29 d s t mb mi ms md imm = (reg d && (s == 0) && (t == 0) && memZ mb mi ms md && (imm == 0)) := by
  rw [Bool.eq_iff_iff, chk_29]
  simp only [Bool.and_eq_true, reg_iff, beq_iff_eq, memZ_iff]
  constructor <;> (intro h; simp_all)
theorem chkX_30 (d s t mb mi ms md imm : Int) : chk 30 d s t mb mi ms md imm = ((d == 0) && (s == 0) && (t == 0) && memZ mb mi ms md && smallB imm) := by
  rw [Bool.eq_iff_iff, chk_30]
  simp only [Bool.and_eq_true, beq_iff_eq, memZ_iff, smallB_iff]
  constructor <;> (intro h; simp_all)
theorem chkX_31 (d s t mb mi ms md imm : Int) : chk 31 d s t mb mi ms md imm = ((d == 0) && (s == 0) && (t == 0) && memZ mb mi ms md && smallB imm) := by
  rw [Bool.eq_iff_iff, chk_31]
  simp only [Bool.and_eq_true, beq_iff_eq, memZ_iff, smallB_iff]
  constructor <;> (intro h; simp_all)
theorem chkX_32 (d s t mb mi ms md imm : Int) : chk 32 d s t mb mi ms md imm = ((d == 0) && (s == 0) && (t == 0) && memZ mb mi ms md && smallB imm) := by
  rw [Bool.eq_iff_iff, chk_32]
  simp only [Bool.and_eq_true, beq_iff_eq, memZ_iff, smallB_iff]
  constructor <;> (intro h; simp_all)
theorem chkX_33 (d s t mb mi ms md imm : Int) : chk 33 d s t mb mi ms md imm = ((d == 0) && (s == 0) && (t == 0) && memZ mb mi ms md && (imm == 0)) := by
  rw [Bool.eq_iff_iff, chk_33]
  simp only [Bool.and_eq_true, beq_iff_eq, memZ_iff]
  constructor <;> (intro h; simp_all)
theorem chk_out (op d s t mb mi ms md imm : Int) (h : op ≤ 0 ∨ 34 ≤ op) : chk op d s t mb mi ms md imm = false := by
  cases e : chk op d s t mb mi ms md imm
  · rfl
  · have := chk_range e; omega
theorem formB_out (op : Int) (h : op ≤ 0 ∨ 34 ≤ op) : formB op = ⟨#[]⟩ := by unfold formB; repeat rw [if_neg (by omega)]
theorem rcheck_any (op d s t mb mi ms md imm : Int) (w : World) :
    Calls Try.prog 14 #[.agg #[.int .i64 op, .int .i64 d, .int .i64 s, .int .i64 t, .int .i64 mb, .int .i64 mi, .int .i64 ms, .int .i64 md, .int .i64 imm]] w fun e w' => e = .returned (.int .i64 (errOf (chk op d s t mb mi ms md imm))) ∧ Below w.heap.size w w' := by
  by_cases h : op ≤ 0 ∨ 34 ≤ op
  · rw [chk_out op d s t mb mi ms md imm h]
    exact rcheck_none op d s t mb mi ms md imm w (formB_out op h)
  have : op = 1 ∨ op = 2 ∨ op = 3 ∨ op = 4 ∨ op = 5 ∨ op = 6 ∨ op = 7 ∨ op = 8 ∨ op = 9 ∨ op = 10 ∨ op = 11 ∨ op = 12 ∨ op = 13 ∨ op = 14 ∨ op = 15 ∨ op = 16 ∨ op = 17 ∨ op = 18 ∨ op = 19 ∨ op = 20 ∨ op = 21 ∨ op = 22 ∨ op = 23 ∨ op = 24 ∨ op = 25 ∨ op = 26 ∨ op = 27 ∨ op = 28 ∨ op = 29 ∨ op = 30 ∨ op = 31 ∨ op = 32 ∨ op = 33 := by omega
  rcases this with rfl | rfl | rfl | rfl | rfl | rfl | rfl | rfl | rfl | rfl | rfl | rfl | rfl | rfl | rfl | rfl | rfl | rfl | rfl | rfl | rfl | rfl | rfl | rfl | rfl | rfl | rfl | rfl | rfl | rfl | rfl | rfl | rfl
  · rw [chkX_1]; exact rcheck_DS 1 d s t mb mi ms md imm w rfl
  · rw [chkX_2]; exact rcheck_Di64 2 d s t mb mi ms md imm w rfl
  · rw [chkX_3]; exact rcheck_DM 3 d s t mb mi ms md imm w rfl
  · rw [chkX_4]; exact rcheck_SM 4 d s t mb mi ms md imm w rfl
  · rw [chkX_5]; exact rcheck_DM 5 d s t mb mi ms md imm w rfl
  · rw [chkX_6]; exact rcheck_DS 6 d s t mb mi ms md imm w rfl
  · rw [chkX_7]; exact rcheck_DS 7 d s t mb mi ms md imm w rfl
  · rw [chkX_8]; exact rcheck_DS 8 d s t mb mi ms md imm w rfl
  · rw [chkX_9]; exact rcheck_DS 9 d s t mb mi ms md imm w rfl
  · rw [chkX_10]; exact rcheck_DS 10 d s t mb mi ms md imm w rfl
  · rw [chkX_11]; exact rcheck_DS 11 d s t mb mi ms md imm w rfl
  · rw [chkX_12]; exact rcheck_DS 12 d s t mb mi ms md imm w rfl
  · rw [chkX_13]; exact rcheck_DS 13 d s t mb mi ms md imm w rfl
  · rw [chkX_14]; exact rcheck_DS 14 d s t mb mi ms md imm w rfl
  · rw [chkX_15]; exact rcheck_Di32 15 d s t mb mi ms md imm w rfl
  · rw [chkX_16]; exact rcheck_Di32 16 d s t mb mi ms md imm w rfl
  · rw [chkX_17]; exact rcheck_Di32 17 d s t mb mi ms md imm w rfl
  · rw [chkX_18]; exact rcheck_Di32 18 d s t mb mi ms md imm w rfl
  · rw [chkX_19]; exact rcheck_DST 19 d s t mb mi ms md imm w rfl
  · rw [chkX_20]; exact rcheck_DS 20 d s t mb mi ms md imm w rfl
  · rw [chkX_21]; exact rcheck_DS 21 d s t mb mi ms md imm w rfl
  · rw [chkX_22]; exact rcheck_D 22 d s t mb mi ms md imm w rfl
  · rw [chkX_23]; exact rcheck_D 23 d s t mb mi ms md imm w rfl
  · rw [chkX_24]; exact rcheck_Db 24 d s t mb mi ms md imm w rfl
  · rw [chkX_25]; exact rcheck_Db 25 d s t mb mi ms md imm w rfl
  · rw [chkX_26]; exact rcheck_DS 26 d s t mb mi ms md imm w rfl
  · rw [chkX_27]; exact rcheck_DS 27 d s t mb mi ms md imm w rfl
  · rw [chkX_28]; exact rcheck_S 28 d s t mb mi ms md imm w rfl
  · rw [chkX_29]; exact rcheck_D 29 d s t mb mi ms md imm w rfl
  · rw [chkX_30]; exact rcheck_i 30 d s t mb mi ms md imm w rfl
  · rw [chkX_31]; exact rcheck_i 31 d s t mb mi ms md imm w rfl
  · rw [chkX_32]; exact rcheck_i 32 d s t mb mi ms md imm w rfl
  · rw [chkX_33]; exact rcheck_ret 33 d s t mb mi ms md imm w rfl
end Go.Proofs.Ytakmpnmmcjnecaa
