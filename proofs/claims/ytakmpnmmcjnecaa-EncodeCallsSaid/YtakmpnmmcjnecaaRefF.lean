/- keysmithref05 (the document's answer for layer 5): Form, Has, register, small, place. Conditions: numbers are numbers of 64 bits. -/
import Derived.Test.YtakmpnmmcjnecaaCheck
namespace Go.Proofs.Ytakmpnmmcjnecaa
open Go.RowKit Calm

def formB (op : Int) : ByteArray :=
  if op = 1 then ⟨#[68, 83]⟩ else
  if op = 2 then ⟨#[68, 73]⟩ else
  if op = 3 then ⟨#[68, 77]⟩ else
  if op = 4 then ⟨#[83, 77]⟩ else
  if op = 5 then ⟨#[68, 77]⟩ else
  if op = 6 then ⟨#[68, 83]⟩ else
  if op = 7 then ⟨#[68, 83]⟩ else
  if op = 8 then ⟨#[68, 83]⟩ else
  if op = 9 then ⟨#[68, 83]⟩ else
  if op = 10 then ⟨#[68, 83]⟩ else
  if op = 11 then ⟨#[68, 83]⟩ else
  if op = 12 then ⟨#[68, 83]⟩ else
  if op = 13 then ⟨#[68, 83]⟩ else
  if op = 14 then ⟨#[68, 83]⟩ else
  if op = 15 then ⟨#[68, 105]⟩ else
  if op = 16 then ⟨#[68, 105]⟩ else
  if op = 17 then ⟨#[68, 105]⟩ else
  if op = 18 then ⟨#[68, 105]⟩ else
  if op = 19 then ⟨#[68, 83, 84]⟩ else
  if op = 20 then ⟨#[68, 83]⟩ else
  if op = 21 then ⟨#[68, 83]⟩ else
  if op = 22 then ⟨#[68]⟩ else
  if op = 23 then ⟨#[68]⟩ else
  if op = 24 then ⟨#[68, 98]⟩ else
  if op = 25 then ⟨#[68, 98]⟩ else
  if op = 26 then ⟨#[68, 83]⟩ else
  if op = 27 then ⟨#[68, 83]⟩ else
  if op = 28 then ⟨#[83]⟩ else
  if op = 29 then ⟨#[68]⟩ else
  if op = 30 then ⟨#[105]⟩ else
  if op = 31 then ⟨#[105]⟩ else
  if op = 32 then ⟨#[105]⟩ else
  if op = 33 then ⟨#[45]⟩ else
  ⟨#[]⟩
theorem form_1 (w : World) : Calls Try.prog 16 #[.int .i64 1] w fun e w' => e = .returned (.string ⟨#[68, 83]⟩) ∧ w = w' := by
  go_enter Try.func16, Try.ntmps16
  go_wp2
  go_ret
  exact ⟨rfl, rfl⟩
theorem form_2 (w : World) : Calls Try.prog 16 #[.int .i64 2] w fun e w' => e = .returned (.string ⟨#[68, 73]⟩) ∧ w = w' := by
  go_enter Try.func16, Try.ntmps16
  go_wp2
  go_ret
  exact ⟨rfl, rfl⟩
theorem form_3 (w : World) : Calls Try.prog 16 #[.int .i64 3] w fun e w' => e = .returned (.string ⟨#[68, 77]⟩) ∧ w = w' := by
  go_enter Try.func16, Try.ntmps16
  go_wp2
  go_ret
  exact ⟨rfl, rfl⟩
theorem form_4 (w : World) : Calls Try.prog 16 #[.int .i64 4] w fun e w' => e = .returned (.string ⟨#[83, 77]⟩) ∧ w = w' := by
  go_enter Try.func16, Try.ntmps16
  go_wp2
  go_ret
  exact ⟨rfl, rfl⟩
theorem form_5 (w : World) : Calls Try.prog 16 #[.int .i64 5] w fun e w' => e = .returned (.string ⟨#[68, 77]⟩) ∧ w = w' := by
  go_enter Try.func16, Try.ntmps16
  go_wp2
  go_ret
  exact ⟨rfl, rfl⟩
theorem form_6 (w : World) : Calls Try.prog 16 #[.int .i64 6] w fun e w' => e = .returned (.string ⟨#[68, 83]⟩) ∧ w = w' := by
  go_enter Try.func16, Try.ntmps16
  go_wp2
  go_ret
  exact ⟨rfl, rfl⟩
theorem form_7 (w : World) : Calls Try.prog 16 #[.int .i64 7] w fun e w' => e = .returned (.string ⟨#[68, 83]⟩) ∧ w = w' := by
  go_enter Try.func16, Try.ntmps16
  go_wp2
  go_ret
  exact ⟨rfl, rfl⟩
theorem form_8 (w : World) : Calls Try.prog 16 #[.int .i64 8] w fun e w' => e = .returned (.string ⟨#[68, 83]⟩) ∧ w = w' := by
  go_enter Try.func16, Try.ntmps16
  go_wp2
  go_ret
  exact ⟨rfl, rfl⟩
theorem form_9 (w : World) : Calls Try.prog 16 #[.int .i64 9] w fun e w' => e = .returned (.string ⟨#[68, 83]⟩) ∧ w = w' := by
  go_enter Try.func16, Try.ntmps16
  go_wp2
  go_ret
  exact ⟨rfl, rfl⟩
theorem form_10 (w : World) : Calls Try.prog 16 #[.int .i64 10] w fun e w' => e = .returned (.string ⟨#[68, 83]⟩) ∧ w = w' := by
  go_enter Try.func16, Try.ntmps16
  go_wp2
  go_ret
  exact ⟨rfl, rfl⟩
theorem form_11 (w : World) : Calls Try.prog 16 #[.int .i64 11] w fun e w' => e = .returned (.string ⟨#[68, 83]⟩) ∧ w = w' := by
  go_enter Try.func16, Try.ntmps16
  go_wp2
  go_ret
  exact ⟨rfl, rfl⟩
theorem form_12 (w : World) : Calls Try.prog 16 #[.int .i64 12] w fun e w' => e = .returned (.string ⟨#[68, 83]⟩) ∧ w = w' := by
  go_enter Try.func16, Try.ntmps16
  go_wp2
  go_ret
  exact ⟨rfl, rfl⟩
theorem form_13 (w : World) : Calls Try.prog 16 #[.int .i64 13] w fun e w' => e = .returned (.string ⟨#[68, 83]⟩) ∧ w = w' := by
  go_enter Try.func16, Try.ntmps16
  go_wp2
  go_ret
  exact ⟨rfl, rfl⟩
theorem form_14 (w : World) : Calls Try.prog 16 #[.int .i64 14] w fun e w' => e = .returned (.string ⟨#[68, 83]⟩) ∧ w = w' := by
  go_enter Try.func16, Try.ntmps16
  go_wp2
  go_ret
  exact ⟨rfl, rfl⟩
theorem form_15 (w : World) : Calls Try.prog 16 #[.int .i64 15] w fun e w' => e = .returned (.string ⟨#[68, 105]⟩) ∧ w = w' := by
  go_enter Try.func16, Try.ntmps16
  go_wp2
  go_ret
  exact ⟨rfl, rfl⟩
theorem form_16 (w : World) : Calls Try.prog 16 #[.int .i64 16] w fun e w' => e = .returned (.string ⟨#[68, 105]⟩) ∧ w = w' := by
  go_enter Try.func16, Try.ntmps16
  go_wp2
  go_ret
  exact ⟨rfl, rfl⟩
theorem form_17 (w : World) : Calls Try.prog 16 #[.int .i64 17] w fun e w' => e = .returned (.string ⟨#[68, 105]⟩) ∧ w = w' := by
  go_enter Try.func16, Try.ntmps16
  go_wp2
  go_ret
  exact ⟨rfl, rfl⟩
theorem form_18 (w : World) : Calls Try.prog 16 #[.int .i64 18] w fun e w' => e = .returned (.string ⟨#[68, 105]⟩) ∧ w = w' := by
  go_enter Try.func16, Try.ntmps16
  go_wp2
  go_ret
  exact ⟨rfl, rfl⟩
theorem form_19 (w : World) : Calls Try.prog 16 #[.int .i64 19] w fun e w' => e = .returned (.string ⟨#[68, 83, 84]⟩) ∧ w = w' := by
  go_enter Try.func16, Try.ntmps16
  go_wp2
  go_ret
  exact ⟨rfl, rfl⟩
theorem form_20 (w : World) : Calls Try.prog 16 #[.int .i64 20] w fun e w' => e = .returned (.string ⟨#[68, 83]⟩) ∧ w = w' := by
  go_enter Try.func16, Try.ntmps16
  go_wp2
  go_ret
  exact ⟨rfl, rfl⟩
theorem form_21 (w : World) : Calls Try.prog 16 #[.int .i64 21] w fun e w' => e = .returned (.string ⟨#[68, 83]⟩) ∧ w = w' := by
  go_enter Try.func16, Try.ntmps16
  go_wp2
  go_ret
  exact ⟨rfl, rfl⟩
theorem form_22 (w : World) : Calls Try.prog 16 #[.int .i64 22] w fun e w' => e = .returned (.string ⟨#[68]⟩) ∧ w = w' := by
  go_enter Try.func16, Try.ntmps16
  go_wp2
  go_ret
  exact ⟨rfl, rfl⟩
theorem form_23 (w : World) : Calls Try.prog 16 #[.int .i64 23] w fun e w' => e = .returned (.string ⟨#[68]⟩) ∧ w = w' := by
  go_enter Try.func16, Try.ntmps16
  go_wp2
  go_ret
  exact ⟨rfl, rfl⟩
theorem form_24 (w : World) : Calls Try.prog 16 #[.int .i64 24] w fun e w' => e = .returned (.string ⟨#[68, 98]⟩) ∧ w = w' := by
  go_enter Try.func16, Try.ntmps16
  go_wp2
  go_ret
  exact ⟨rfl, rfl⟩
theorem form_25 (w : World) : Calls Try.prog 16 #[.int .i64 25] w fun e w' => e = .returned (.string ⟨#[68, 98]⟩) ∧ w = w' := by
  go_enter Try.func16, Try.ntmps16
  go_wp2
  go_ret
  exact ⟨rfl, rfl⟩
theorem form_26 (w : World) : Calls Try.prog 16 #[.int .i64 26] w fun e w' => e = .returned (.string ⟨#[68, 83]⟩) ∧ w = w' := by
  go_enter Try.func16, Try.ntmps16
  go_wp2
  go_ret
  exact ⟨rfl, rfl⟩
theorem form_27 (w : World) : Calls Try.prog 16 #[.int .i64 27] w fun e w' => e = .returned (.string ⟨#[68, 83]⟩) ∧ w = w' := by
  go_enter Try.func16, Try.ntmps16
  go_wp2
  go_ret
  exact ⟨rfl, rfl⟩
theorem form_28 (w : World) : Calls Try.prog 16 #[.int .i64 28] w fun e w' => e = .returned (.string ⟨#[83]⟩) ∧ w = w' := by
  go_enter Try.func16, Try.ntmps16
  go_wp2
  go_ret
  exact ⟨rfl, rfl⟩
theorem form_29 (w : World) : Calls Try.prog 16 #[.int .i64 29] w fun e w' => e = .returned (.string ⟨#[68]⟩) ∧ w = w' := by
  go_enter Try.func16, Try.ntmps16
  go_wp2
  go_ret
  exact ⟨rfl, rfl⟩
theorem form_30 (w : World) : Calls Try.prog 16 #[.int .i64 30] w fun e w' => e = .returned (.string ⟨#[105]⟩) ∧ w = w' := by
  go_enter Try.func16, Try.ntmps16
  go_wp2
  go_ret
  exact ⟨rfl, rfl⟩
theorem form_31 (w : World) : Calls Try.prog 16 #[.int .i64 31] w fun e w' => e = .returned (.string ⟨#[105]⟩) ∧ w = w' := by
  go_enter Try.func16, Try.ntmps16
  go_wp2
  go_ret
  exact ⟨rfl, rfl⟩
theorem form_32 (w : World) : Calls Try.prog 16 #[.int .i64 32] w fun e w' => e = .returned (.string ⟨#[105]⟩) ∧ w = w' := by
  go_enter Try.func16, Try.ntmps16
  go_wp2
  go_ret
  exact ⟨rfl, rfl⟩
theorem form_33 (w : World) : Calls Try.prog 16 #[.int .i64 33] w fun e w' => e = .returned (.string ⟨#[45]⟩) ∧ w = w' := by
  go_enter Try.func16, Try.ntmps16
  go_wp2
  go_ret
  exact ⟨rfl, rfl⟩
theorem form_lo (op : Int) (w : World) (h : op ≤ 0) : Calls Try.prog 16 #[.int .i64 op] w fun e w' => e = .returned (.string ⟨#[]⟩) ∧ w = w' := by
  have e1 : (op == 1) = false := by simp; omega
  have e20 : (op == 20) = false := by simp; omega
  have e21 : (op == 21) = false := by simp; omega
  have e26 : (op == 26) = false := by simp; omega
  have e27 : (op == 27) = false := by simp; omega
  have e2 : (op == 2) = false := by simp; omega
  have e3 : (op == 3) = false := by simp; omega
  have e5 : (op == 5) = false := by simp; omega
  have e4 : (op == 4) = false := by simp; omega
  have e19 : (op == 19) = false := by simp; omega
  have e22 : (op == 22) = false := by simp; omega
  have e23 : (op == 23) = false := by simp; omega
  have e29 : (op == 29) = false := by simp; omega
  have e24 : (op == 24) = false := by simp; omega
  have e25 : (op == 25) = false := by simp; omega
  have e28 : (op == 28) = false := by simp; omega
  have e30 : (op == 30) = false := by simp; omega
  have e31 : (op == 31) = false := by simp; omega
  have e32 : (op == 32) = false := by simp; omega
  have e33 : (op == 33) = false := by simp; omega
  have g0 : decide (6 ≤ op) = false := by simp; omega
  have g1 : decide (15 ≤ op) = false := by simp; omega
  go_enter Try.func16, Try.ntmps16
  go_wp2
  go_ret
  exact ⟨rfl, rfl⟩
theorem form_hi (op : Int) (w : World) (h : 34 ≤ op) : Calls Try.prog 16 #[.int .i64 op] w fun e w' => e = .returned (.string ⟨#[]⟩) ∧ w = w' := by
  have e1 : (op == 1) = false := by simp; omega
  have e20 : (op == 20) = false := by simp; omega
  have e21 : (op == 21) = false := by simp; omega
  have e26 : (op == 26) = false := by simp; omega
  have e27 : (op == 27) = false := by simp; omega
  have e2 : (op == 2) = false := by simp; omega
  have e3 : (op == 3) = false := by simp; omega
  have e5 : (op == 5) = false := by simp; omega
  have e4 : (op == 4) = false := by simp; omega
  have e19 : (op == 19) = false := by simp; omega
  have e22 : (op == 22) = false := by simp; omega
  have e23 : (op == 23) = false := by simp; omega
  have e29 : (op == 29) = false := by simp; omega
  have e24 : (op == 24) = false := by simp; omega
  have e25 : (op == 25) = false := by simp; omega
  have e28 : (op == 28) = false := by simp; omega
  have e30 : (op == 30) = false := by simp; omega
  have e31 : (op == 31) = false := by simp; omega
  have e32 : (op == 32) = false := by simp; omega
  have e33 : (op == 33) = false := by simp; omega
  have g0 : decide (6 ≤ op) = true := by simp; omega
  have g1 : decide (op ≤ 14) = false := by simp; omega
  have g2 : decide (15 ≤ op) = true := by simp; omega
  have g3 : decide (op ≤ 18) = false := by simp; omega
  go_enter Try.func16, Try.ntmps16
  go_wp2
  go_ret
  exact ⟨rfl, rfl⟩
theorem form_any (op : Int) (w : World) : Calls Try.prog 16 #[.int .i64 op] w fun e w' => e = .returned (.string (formB op)) ∧ w = w' := by
  by_cases hl : op ≤ 0
  · have : formB op = ⟨#[]⟩ := by unfold formB; repeat rw [if_neg (by omega)]
    rw [this]; exact form_lo op w hl
  by_cases hh : 34 ≤ op
  · have : formB op = ⟨#[]⟩ := by unfold formB; repeat rw [if_neg (by omega)]
    rw [this]; exact form_hi op w hh
  have : op = 1 ∨ op = 2 ∨ op = 3 ∨ op = 4 ∨ op = 5 ∨ op = 6 ∨ op = 7 ∨ op = 8 ∨ op = 9 ∨ op = 10 ∨ op = 11 ∨ op = 12 ∨ op = 13 ∨ op = 14 ∨ op = 15 ∨ op = 16 ∨ op = 17 ∨ op = 18 ∨ op = 19 ∨ op = 20 ∨ op = 21 ∨ op = 22 ∨ op = 23 ∨ op = 24 ∨ op = 25 ∨ op = 26 ∨ op = 27 ∨ op = 28 ∨ op = 29 ∨ op = 30 ∨ op = 31 ∨ op = 32 ∨ op = 33 := by omega
  rcases this with rfl | rfl | rfl | rfl | rfl | rfl | rfl | rfl | rfl | rfl | rfl | rfl | rfl | rfl | rfl | rfl | rfl | rfl | rfl | rfl | rfl | rfl | rfl | rfl | rfl | rfl | rfl | rfl | rfl | rfl | rfl | rfl | rfl
  · exact form_1 w
  · exact form_2 w
  · exact form_3 w
  · exact form_4 w
  · exact form_5 w
  · exact form_6 w
  · exact form_7 w
  · exact form_8 w
  · exact form_9 w
  · exact form_10 w
  · exact form_11 w
  · exact form_12 w
  · exact form_13 w
  · exact form_14 w
  · exact form_15 w
  · exact form_16 w
  · exact form_17 w
  · exact form_18 w
  · exact form_19 w
  · exact form_20 w
  · exact form_21 w
  · exact form_22 w
  · exact form_23 w
  · exact form_24 w
  · exact form_25 w
  · exact form_26 w
  · exact form_27 w
  · exact form_28 w
  · exact form_29 w
  · exact form_30 w
  · exact form_31 w
  · exact form_32 w
  · exact form_33 w
theorem rregister_any (r : Int) (w : World) :
    Calls Try.prog 34 #[.int .i64 r] w fun e w' => e = .returned (.bool (reg r)) ∧ w = w' := by
  by_cases h : 0 ≤ r
  · have h2 : Hid (decide (r ≤ 15) = reg r) := by show _ = _; simp [reg, h]
    go_enter Try.func34, Try.ntmps34
    go_wp2
    go_ret
    exact ⟨ret_bool (by first | exact h2.out | (rw [← h2.out]; simp)), rfl⟩
  · have h2 : Hid (false = reg r) := by show _ = _; simp [reg, h]
    have h3 : decide (0 ≤ r) = false := by simpa using h
    go_enter Try.func34, Try.ntmps34
    go_wp2
    go_ret
    exact ⟨ret_bool h2.out, rfl⟩
theorem rsmall_any (n : Int) (w : World) :
    Calls Try.prog 36 #[.int .i64 n] w fun e w' => e = .returned (.bool (smallB n)) ∧ w = w' := by
  by_cases h : -2147483648 ≤ n
  · have h2 : Hid (decide (n < 2147483648) = smallB n) := by show _ = _; simp only [smallB, h, decide_true, Bool.true_and, decide_eq_decide]; omega
    go_enter Try.func36, Try.ntmps36
    go_wp2
    go_ret
    exact ⟨ret_bool (by first | exact h2.out | (rw [← h2.out]; simp)), rfl⟩
  · have h2 : Hid (false = smallB n) := by show _ = _; simp [smallB, h]
    have h3 : decide (-2147483648 ≤ n) = false := by simpa using h
    go_enter Try.func36, Try.ntmps36
    go_wp2
    go_ret
    exact ⟨ret_bool h2.out, rfl⟩
end Go.Proofs.Ytakmpnmmcjnecaa
