import Derived.Test.YtbcaelhchmoigaaMA
import Derived.Test.YtbcaelhchmoigaaMD
import Derived.Test.YtbcaelhchmoigaaSepP
import Derived.Test.YtbcaelhchmoigaaTy
set_option linter.unusedVariables false
set_option linter.unusedSimpArgs false
namespace Go.Proofs.Ytbcaelhchmoigaa
open Go.RowKit Calm
def formB (op : Int) : ByteArray :=
  if op = 1 then ⟨#[68, 83]⟩ else
  if op = 2 then ⟨#[68, 73]⟩ else
  if op = 3 then ⟨#[68, 77]⟩ else
  if op = 4 then ⟨#[83, 77]⟩ else
  if op = 5 then ⟨#[68, 77]⟩ else
  if op = 6 then ⟨#[68, 83]⟩ else
  if op = 7 then ⟨#[68, 83]⟩ else
  if op = 8 then ⟨#[68, 83]⟩ else
  if op = 9 then ⟨#[68, 83]⟩ else
  if op = 10 then ⟨#[68, 83]⟩ else
  if op = 11 then ⟨#[68, 83]⟩ else
  if op = 12 then ⟨#[68, 83]⟩ else
  if op = 13 then ⟨#[68, 83]⟩ else
  if op = 14 then ⟨#[68, 83]⟩ else
  if op = 15 then ⟨#[68, 105]⟩ else
  if op = 16 then ⟨#[68, 105]⟩ else
  if op = 17 then ⟨#[68, 105]⟩ else
  if op = 18 then ⟨#[68, 105]⟩ else
  if op = 19 then ⟨#[68, 83, 84]⟩ else
  if op = 20 then ⟨#[68, 83]⟩ else
  if op = 21 then ⟨#[68, 83]⟩ else
  if op = 22 then ⟨#[68]⟩ else
  if op = 23 then ⟨#[68]⟩ else
  if op = 24 then ⟨#[68, 98]⟩ else
  if op = 25 then ⟨#[68, 98]⟩ else
  if op = 26 then ⟨#[68, 83]⟩ else
  if op = 27 then ⟨#[68, 83]⟩ else
  if op = 28 then ⟨#[83]⟩ else
  if op = 29 then ⟨#[68]⟩ else
  if op = 30 then ⟨#[105]⟩ else
  if op = 31 then ⟨#[105]⟩ else
  if op = 32 then ⟨#[105]⟩ else
  if op = 33 then ⟨#[45]⟩ else
  ⟨#[]⟩
theorem form_1 (w : World) : Calls Try.prog 48 #[.int .i64 1] w fun e w' => e = .returned (.string ⟨#[68, 83]⟩) ∧ w = w' := by
  go_enter Try.func48, Try.ntmps48
  go_wp2
  go_ret
  exact ⟨rfl, rfl⟩
theorem form_2 (w : World) : Calls Try.prog 48 #[.int .i64 2] w fun e w' => e = .returned (.string ⟨#[68, 73]⟩) ∧ w = w' := by
  go_enter Try.func48, Try.ntmps48
  go_wp2
  go_ret
  exact ⟨rfl, rfl⟩
theorem form_3 (w : World) : Calls Try.prog 48 #[.int .i64 3] w fun e w' => e = .returned (.string ⟨#[68, 77]⟩) ∧ w = w' := by
  go_enter Try.func48, Try.ntmps48
  go_wp2
  go_ret
  exact ⟨rfl, rfl⟩
theorem form_4 (w : World) : Calls Try.prog 48 #[.int .i64 4] w fun e w' => e = .returned (.string ⟨#[83, 77]⟩) ∧ w = w' := by
  go_enter Try.func48, Try.ntmps48
  go_wp2
  go_ret
  exact ⟨rfl, rfl⟩
theorem form_5 (w : World) : Calls Try.prog 48 #[.int .i64 5] w fun e w' => e = .returned (.string ⟨#[68, 77]⟩) ∧ w = w' := by
  go_enter Try.func48, Try.ntmps48
  go_wp2
  go_ret
  exact ⟨rfl, rfl⟩
theorem form_6 (w : World) : Calls Try.prog 48 #[.int .i64 6] w fun e w' => e = .returned (.string ⟨#[68, 83]⟩) ∧ w = w' := by
  go_enter Try.func48, Try.ntmps48
  go_wp2
  go_ret
  exact ⟨rfl, rfl⟩
theorem form_7 (w : World) : Calls Try.prog 48 #[.int .i64 7] w fun e w' => e = .returned (.string ⟨#[68, 83]⟩) ∧ w = w' := by
  go_enter Try.func48, Try.ntmps48
  go_wp2
  go_ret
  exact ⟨rfl, rfl⟩
theorem form_8 (w : World) : Calls Try.prog 48 #[.int .i64 8] w fun e w' => e = .returned (.string ⟨#[68, 83]⟩) ∧ w = w' := by
  go_enter Try.func48, Try.ntmps48
  go_wp2
  go_ret
  exact ⟨rfl, rfl⟩
theorem form_9 (w : World) : Calls Try.prog 48 #[.int .i64 9] w fun e w' => e = .returned (.string ⟨#[68, 83]⟩) ∧ w = w' := by
  go_enter Try.func48, Try.ntmps48
  go_wp2
  go_ret
  exact ⟨rfl, rfl⟩
theorem form_10 (w : World) : Calls Try.prog 48 #[.int .i64 10] w fun e w' => e = .returned (.string ⟨#[68, 83]⟩) ∧ w = w' := by
  go_enter Try.func48, Try.ntmps48
  go_wp2
  go_ret
  exact ⟨rfl, rfl⟩
theorem form_11 (w : World) : Calls Try.prog 48 #[.int .i64 11] w fun e w' => e = .returned (.string ⟨#[68, 83]⟩) ∧ w = w' := by
  go_enter Try.func48, Try.ntmps48
  go_wp2
  go_ret
  exact ⟨rfl, rfl⟩
theorem form_12 (w : World) : Calls Try.prog 48 #[.int .i64 12] w fun e w' => e = .returned (.string ⟨#[68, 83]⟩) ∧ w = w' := by
  go_enter Try.func48, Try.ntmps48
  go_wp2
  go_ret
  exact ⟨rfl, rfl⟩
theorem form_13 (w : World) : Calls Try.prog 48 #[.int .i64 13] w fun e w' => e = .returned (.string ⟨#[68, 83]⟩) ∧ w = w' := by
  go_enter Try.func48, Try.ntmps48
  go_wp2
  go_ret
  exact ⟨rfl, rfl⟩
theorem form_14 (w : World) : Calls Try.prog 48 #[.int .i64 14] w fun e w' => e = .returned (.string ⟨#[68, 83]⟩) ∧ w = w' := by
  go_enter Try.func48, Try.ntmps48
  go_wp2
  go_ret
  exact ⟨rfl, rfl⟩
theorem form_15 (w : World) : Calls Try.prog 48 #[.int .i64 15] w fun e w' => e = .returned (.string ⟨#[68, 105]⟩) ∧ w = w' := by
  go_enter Try.func48, Try.ntmps48
  go_wp2
  go_ret
  exact ⟨rfl, rfl⟩
theorem form_16 (w : World) : Calls Try.prog 48 #[.int .i64 16] w fun e w' => e = .returned (.string ⟨#[68, 105]⟩) ∧ w = w' := by
  go_enter Try.func48, Try.ntmps48
  go_wp2
  go_ret
  exact ⟨rfl, rfl⟩
theorem form_17 (w : World) : Calls Try.prog 48 #[.int .i64 17] w fun e w' => e = .returned (.string ⟨#[68, 105]⟩) ∧ w = w' := by
  go_enter Try.func48, Try.ntmps48
  go_wp2
  go_ret
  exact ⟨rfl, rfl⟩
theorem form_18 (w : World) : Calls Try.prog 48 #[.int .i64 18] w fun e w' => e = .returned (.string ⟨#[68, 105]⟩) ∧ w = w' := by
  go_enter Try.func48, Try.ntmps48
  go_wp2
  go_ret
  exact ⟨rfl, rfl⟩
theorem form_19 (w : World) : Calls Try.prog 48 #[.int .i64 19] w fun e w' => e = .returned (.string ⟨#[68, 83, 84]⟩) ∧ w = w' := by
  go_enter Try.func48, Try.ntmps48
  go_wp2
  go_ret
  exact ⟨rfl, rfl⟩
theorem form_20 (w : World) : Calls Try.prog 48 #[.int .i64 20] w fun e w' => e = .returned (.string ⟨#[68, 83]⟩) ∧ w = w' := by
  go_enter Try.func48, Try.ntmps48
  go_wp2
  go_ret
  exact ⟨rfl, rfl⟩
theorem form_21 (w : World) : Calls Try.prog 48 #[.int .i64 21] w fun e w' => e = .returned (.string ⟨#[68, 83]⟩) ∧ w = w' := by
  go_enter Try.func48, Try.ntmps48
  go_wp2
  go_ret
  exact ⟨rfl, rfl⟩
theorem form_22 (w : World) : Calls Try.prog 48 #[.int .i64 22] w fun e w' => e = .returned (.string ⟨#[68]⟩) ∧ w = w' := by
  go_enter Try.func48, Try.ntmps48
  go_wp2
  go_ret
  exact ⟨rfl, rfl⟩
theorem form_23 (w : World) : Calls Try.prog 48 #[.int .i64 23] w fun e w' => e = .returned (.string ⟨#[68]⟩) ∧ w = w' := by
  go_enter Try.func48, Try.ntmps48
  go_wp2
  go_ret
  exact ⟨rfl, rfl⟩
theorem form_24 (w : World) : Calls Try.prog 48 #[.int .i64 24] w fun e w' => e = .returned (.string ⟨#[68, 98]⟩) ∧ w = w' := by
  go_enter Try.func48, Try.ntmps48
  go_wp2
  go_ret
  exact ⟨rfl, rfl⟩
theorem form_25 (w : World) : Calls Try.prog 48 #[.int .i64 25] w fun e w' => e = .returned (.string ⟨#[68, 98]⟩) ∧ w = w' := by
  go_enter Try.func48, Try.ntmps48
  go_wp2
  go_ret
  exact ⟨rfl, rfl⟩
theorem form_26 (w : World) : Calls Try.prog 48 #[.int .i64 26] w fun e w' => e = .returned (.string ⟨#[68, 83]⟩) ∧ w = w' := by
  go_enter Try.func48, Try.ntmps48
  go_wp2
  go_ret
  exact ⟨rfl, rfl⟩
theorem form_27 (w : World) : Calls Try.prog 48 #[.int .i64 27] w fun e w' => e = .returned (.string ⟨#[68, 83]⟩) ∧ w = w' := by
  go_enter Try.func48, Try.ntmps48
  go_wp2
  go_ret
  exact ⟨rfl, rfl⟩
theorem form_28 (w : World) : Calls Try.prog 48 #[.int .i64 28] w fun e w' => e = .returned (.string ⟨#[83]⟩) ∧ w = w' := by
  go_enter Try.func48, Try.ntmps48
  go_wp2
  go_ret
  exact ⟨rfl, rfl⟩
theorem form_29 (w : World) : Calls Try.prog 48 #[.int .i64 29] w fun e w' => e = .returned (.string ⟨#[68]⟩) ∧ w = w' := by
  go_enter Try.func48, Try.ntmps48
  go_wp2
  go_ret
  exact ⟨rfl, rfl⟩
theorem form_30 (w : World) : Calls Try.prog 48 #[.int .i64 30] w fun e w' => e = .returned (.string ⟨#[105]⟩) ∧ w = w' := by
  go_enter Try.func48, Try.ntmps48
  go_wp2
  go_ret
  exact ⟨rfl, rfl⟩
theorem form_31 (w : World) : Calls Try.prog 48 #[.int .i64 31] w fun e w' => e = .returned (.string ⟨#[105]⟩) ∧ w = w' := by
  go_enter Try.func48, Try.ntmps48
  go_wp2
  go_ret
  exact ⟨rfl, rfl⟩
theorem form_32 (w : World) : Calls Try.prog 48 #[.int .i64 32] w fun e w' => e = .returned (.string ⟨#[105]⟩) ∧ w = w' := by
  go_enter Try.func48, Try.ntmps48
  go_wp2
  go_ret
  exact ⟨rfl, rfl⟩
theorem form_33 (w : World) : Calls Try.prog 48 #[.int .i64 33] w fun e w' => e = .returned (.string ⟨#[45]⟩) ∧ w = w' := by
  go_enter Try.func48, Try.ntmps48
  go_wp2
  go_ret
  exact ⟨rfl, rfl⟩
theorem form_lo (op : Int) (w : World) (h : op ≤ 0) : Calls Try.prog 48 #[.int .i64 op] w fun e w' => e = .returned (.string ⟨#[]⟩) ∧ w = w' := by
  have e1 : (op == 1) = false := by simp; omega
  have e20 : (op == 20) = false := by simp; omega
  have e21 : (op == 21) = false := by simp; omega
  have e26 : (op == 26) = false := by simp; omega
  have e27 : (op == 27) = false := by simp; omega
  have e2 : (op == 2) = false := by simp; omega
  have e3 : (op == 3) = false := by simp; omega
  have e5 : (op == 5) = false := by simp; omega
  have e4 : (op == 4) = false := by simp; omega
  have e19 : (op == 19) = false := by simp; omega
  have e22 : (op == 22) = false := by simp; omega
  have e23 : (op == 23) = false := by simp; omega
  have e29 : (op == 29) = false := by simp; omega
  have e24 : (op == 24) = false := by simp; omega
  have e25 : (op == 25) = false := by simp; omega
  have e28 : (op == 28) = false := by simp; omega
  have e30 : (op == 30) = false := by simp; omega
  have e31 : (op == 31) = false := by simp; omega
  have e32 : (op == 32) = false := by simp; omega
  have e33 : (op == 33) = false := by simp; omega
  have g0 : decide (6 ≤ op) = false := by simp; omega
  have g1 : decide (15 ≤ op) = false := by simp; omega
  go_enter Try.func48, Try.ntmps48
  go_wp2
  go_ret
  exact ⟨rfl, rfl⟩
theorem form_hi (op : Int) (w : World) (h : 34 ≤ op) : Calls Try.prog 48 #[.int .i64 op] w fun e w' => e = .returned (.string ⟨#[]⟩) ∧ w = w' := by
  have e1 : (op == 1) = false := by simp; omega
  have e20 : (op == 20) = false := by simp; omega
  have e21 : (op == 21) = false := by simp; omega
  have e26 : (op == 26) = false := by simp; omega
  have e27 : (op == 27) = false := by simp; omega
  have e2 : (op == 2) = false := by simp; omega
  have e3 : (op == 3) = false := by simp; omega
  have e5 : (op == 5) = false := by simp; omega
  have e4 : (op == 4) = false := by simp; omega
  have e19 : (op == 19) = false := by simp; omega
  have e22 : (op == 22) = false := by simp; omega
  have e23 : (op == 23) = false := by simp; omega
  have e29 : (op == 29) = false := by simp; omega
  have e24 : (op == 24) = false := by simp; omega
  have e25 : (op == 25) = false := by simp; omega
  have e28 : (op == 28) = false := by simp; omega
  have e30 : (op == 30) = false := by simp; omega
  have e31 : (op == 31) = false := by simp; omega
  have e32 : (op == 32) = false := by simp; omega
  have e33 : (op == 33) = false := by simp; omega
  have g0 : decide (6 ≤ op) = true := by simp; omega
  have g1 : decide (op ≤ 14) = false := by simp; omega
  have g2 : decide (15 ≤ op) = true := by simp; omega
  have g3 : decide (op ≤ 18) = false := by simp; omega
  go_enter Try.func48, Try.ntmps48
  go_wp2
  go_ret
  exact ⟨rfl, rfl⟩
theorem form_any (op : Int) (w : World) : Calls Try.prog 48 #[.int .i64 op] w fun e w' => e = .returned (.string (formB op)) ∧ w = w' := by
  by_cases hl : op ≤ 0
  · have : formB op = ⟨#[]⟩ := by unfold formB; repeat rw [if_neg (by omega)]
    rw [this]; exact form_lo op w hl
  by_cases hh : 34 ≤ op
  · have : formB op = ⟨#[]⟩ := by unfold formB; repeat rw [if_neg (by omega)]
    rw [this]; exact form_hi op w hh
  have : op = 1 ∨ op = 2 ∨ op = 3 ∨ op = 4 ∨ op = 5 ∨ op = 6 ∨ op = 7 ∨ op = 8 ∨ op = 9 ∨ op = 10 ∨ op = 11 ∨ op = 12 ∨ op = 13 ∨ op = 14 ∨ op = 15 ∨ op = 16 ∨ op = 17 ∨ op = 18 ∨ op = 19 ∨ op = 20 ∨ op = 21 ∨ op = 22 ∨ op = 23 ∨ op = 24 ∨ op = 25 ∨ op = 26 ∨ op = 27 ∨ op = 28 ∨ op = 29 ∨ op = 30 ∨ op = 31 ∨ op = 32 ∨ op = 33 := by omega
  rcases this with rfl | rfl | rfl | rfl | rfl | rfl | rfl | rfl | rfl | rfl | rfl | rfl | rfl | rfl | rfl | rfl | rfl | rfl | rfl | rfl | rfl | rfl | rfl | rfl | rfl | rfl | rfl | rfl | rfl | rfl | rfl | rfl | rfl
  · exact form_1 w
  · exact form_2 w
  · exact form_3 w
  · exact form_4 w
  · exact form_5 w
  · exact form_6 w
  · exact form_7 w
  · exact form_8 w
  · exact form_9 w
  · exact form_10 w
  · exact form_11 w
  · exact form_12 w
  · exact form_13 w
  · exact form_14 w
  · exact form_15 w
  · exact form_16 w
  · exact form_17 w
  · exact form_18 w
  · exact form_19 w
  · exact form_20 w
  · exact form_21 w
  · exact form_22 w
  · exact form_23 w
  · exact form_24 w
  · exact form_25 w
  · exact form_26 w
  · exact form_27 w
  · exact form_28 w
  · exact form_29 w
  · exact form_30 w
  · exact form_31 w
  · exact form_32 w
  · exact form_33 w
theorem rregister_any (r : Int) (w : World) :
    Calls Try.prog 50 #[.int .i64 r] w fun e w' => e = .returned (.bool (reg r)) ∧ w = w' := by
  by_cases h : 0 ≤ r
  · have h2 : Hid (decide (r ≤ 15) = reg r) := by show _ = _; simp [reg, h]
    go_enter Try.func50, Try.ntmps50
    go_wp2
    go_ret
    exact ⟨ret_bool (by first | exact h2.out | (rw [← h2.out]; simp)), rfl⟩
  · have h2 : Hid (false = reg r) := by show _ = _; simp [reg, h]
    have h3 : decide (0 ≤ r) = false := by simpa using h
    go_enter Try.func50, Try.ntmps50
    go_wp2
    go_ret
    exact ⟨ret_bool h2.out, rfl⟩
theorem rsmall_any (n : Int) (w : World) :
    Calls Try.prog 52 #[.int .i64 n] w fun e w' => e = .returned (.bool (smallB n)) ∧ w = w' := by
  by_cases h : -2147483648 ≤ n
  · have h2 : Hid (decide (n < 2147483648) = smallB n) := by show _ = _; simp only [smallB, h, decide_true, Bool.true_and, decide_eq_decide]; omega
    go_enter Try.func52, Try.ntmps52
    go_wp2
    go_ret
    exact ⟨ret_bool (by first | exact h2.out | (rw [← h2.out]; simp)), rfl⟩
  · have h2 : Hid (false = smallB n) := by show _ = _; simp [smallB, h]
    have h3 : decide (-2147483648 ≤ n) = false := by simpa using h
    go_enter Try.func52, Try.ntmps52
    go_wp2
    go_ret
    exact ⟨ret_bool h2.out, rfl⟩
end Go.Proofs.Ytbcaelhchmoigaa
namespace Go.Proofs.Ytbcaelhchmoigaa
open Go.RowKit Calm
def hasC (s : ByteArray) (c : Int) : Bool := (List.range s.size).any fun i => ((s.get! i).toNat : Int) == c
theorem hasC_true {s : ByteArray} {c : Int} {k : Nat} (hk : k < s.size) (he : (((s.get! k).toNat : Int) == c) = true) : hasC s c = true := by
  unfold hasC; rw [List.any_eq_true]; exact ⟨k, List.mem_range.2 hk, he⟩
theorem hasC_false {s : ByteArray} {c : Int} (h : ∀ j, j < s.size → (((s.get! j).toNat : Int) == c) = false) : hasC s c = false := by
  unfold hasC; rw [List.any_eq_false]; intro j hj; rw [h j (List.mem_range.1 hj)]; decide
theorem rhas_any (s : ByteArray) (c : Int) (w : World) (hl : s.size ≤ 1000) :
    Calls Try.prog 49 #[.string s, .int .u8 c] w fun e w' => e = .returned (.bool (hasC s c)) ∧ w = w' := by
  go_enter Try.func49, Try.ntmps49
  go_wp2
  go_loop [5] (fun i => ∃ k : Nat, k ≤ s.size ∧ i = .int .i64 k ∧ Hid (∀ j, j < k → (((s.get! j).toNat : Int) == c) = false)) (fun i => s.size - (intOf i).toNat)
  case atStart => exact ⟨0, by omega, rfl, fun j h => absurd h (by omega)⟩
  case round =>
    obtain ⟨k, hk, rfl, hn⟩ := hrel
    by_cases hlt : k < s.size
    · have e : s.get! k = s[k] := by
        show s.data[k]! = s.data[k]
        exact getElem!_pos _ _ _
      go_wp2
      · go_ret
        rename_i h1 _
        exact ⟨ret_bool (hasC_true hlt (by rw [e]; exact h1)).symm, rfl⟩
      · refine ⟨⟨k + 1, by omega, rfl, ?_⟩, by simp [intOf]; omega⟩
        rename_i h1
        intro j hj
        by_cases hjk : j = k
        · subst hjk; rw [e]; exact h1
        · exact hn.out j (by omega)
    · have hn2 : hasC s c = false := hasC_false fun j hj => hn.out j (by omega)
      have hge : ¬ ((k : Int) < (s.size : Int)) := by omega
      have hn2 := hidd hn2
      go_wp2
      go_ret
      exact ⟨by first | rfl | exact ret_bool hn2.out.symm, rfl⟩
end Go.Proofs.Ytbcaelhchmoigaa
namespace Go.Proofs.Ytbcaelhchmoigaa
open Go.RowKit Calm
theorem rplace_a (mb mi ms md : Int) (w : World) (h0 : reg mb = false) :
    Calls Try.prog 51 #[.agg #[.int .i64 mb, .int .i64 mi, .int .i64 ms, .int .i64 md]] w fun e w' => e = .returned (.bool false) ∧ Below w.heap.size w w' := by
  have B1 : ∀ o, Below w.heap.size w (w.alloc o) := fun o => (Below.refl _ _).alloc (Nat.le_refl _) o
  go_enter Try.func51, Try.ntmps51
  go_wp2_with (first | (go_at_call 50; refine (rregister_any _ _).mono ?_; rintro e w' ⟨rfl, rfl⟩) | (go_at_call 52; refine (rsmall_any _ _).mono ?_; rintro e w' ⟨rfl, rfl⟩))
  go_ret
  exact ⟨rfl, B1 _⟩
theorem rplace_b (mb mi ms md : Int) (w : World) (h0 : reg mb = true) (h1 : smallB md = false) :
    Calls Try.prog 51 #[.agg #[.int .i64 mb, .int .i64 mi, .int .i64 ms, .int .i64 md]] w fun e w' => e = .returned (.bool false) ∧ Below w.heap.size w w' := by
  have B1 : ∀ o, Below w.heap.size w (w.alloc o) := fun o => (Below.refl _ _).alloc (Nat.le_refl _) o
  go_enter Try.func51, Try.ntmps51
  go_wp2_with (first | (go_at_call 50; refine (rregister_any _ _).mono ?_; rintro e w' ⟨rfl, rfl⟩) | (go_at_call 52; refine (rsmall_any _ _).mono ?_; rintro e w' ⟨rfl, rfl⟩))
  go_ret
  exact ⟨rfl, B1 _⟩
theorem rplace_c (mb mi ms md : Int) (w : World) (h0 : reg mb = true) (h1 : smallB md = true) (h2 : (mi == -1) = true) (h3 : (ms == 1) = true) :
    Calls Try.prog 51 #[.agg #[.int .i64 mb, .int .i64 mi, .int .i64 ms, .int .i64 md]] w fun e w' => e = .returned (.bool true) ∧ Below w.heap.size w w' := by
  have B1 : ∀ o, Below w.heap.size w (w.alloc o) := fun o => (Below.refl _ _).alloc (Nat.le_refl _) o
  go_enter Try.func51, Try.ntmps51
  go_wp2_with (first | (go_at_call 50; refine (rregister_any _ _).mono ?_; rintro e w' ⟨rfl, rfl⟩) | (go_at_call 52; refine (rsmall_any _ _).mono ?_; rintro e w' ⟨rfl, rfl⟩))
  go_ret
  exact ⟨rfl, B1 _⟩
theorem rplace_d (mb mi ms md : Int) (w : World) (h0 : reg mb = true) (h1 : smallB md = true) (h2 : (mi == -1) = true) (h3 : (ms == 1) = false) :
    Calls Try.prog 51 #[.agg #[.int .i64 mb, .int .i64 mi, .int .i64 ms, .int .i64 md]] w fun e w' => e = .returned (.bool false) ∧ Below w.heap.size w w' := by
  have B1 : ∀ o, Below w.heap.size w (w.alloc o) := fun o => (Below.refl _ _).alloc (Nat.le_refl _) o
  go_enter Try.func51, Try.ntmps51
  go_wp2_with (first | (go_at_call 50; refine (rregister_any _ _).mono ?_; rintro e w' ⟨rfl, rfl⟩) | (go_at_call 52; refine (rsmall_any _ _).mono ?_; rintro e w' ⟨rfl, rfl⟩))
  go_ret
  exact ⟨rfl, B1 _⟩
theorem rplace_e (mb mi ms md : Int) (w : World) (h0 : reg mb = true) (h1 : smallB md = true) (h2 : (mi == -1) = false) (h3 : reg mi = false) :
    Calls Try.prog 51 #[.agg #[.int .i64 mb, .int .i64 mi, .int .i64 ms, .int .i64 md]] w fun e w' => e = .returned (.bool false) ∧ Below w.heap.size w w' := by
  have B1 : ∀ o, Below w.heap.size w (w.alloc o) := fun o => (Below.refl _ _).alloc (Nat.le_refl _) o
  go_enter Try.func51, Try.ntmps51
  go_wp2_with (first | (go_at_call 50; refine (rregister_any _ _).mono ?_; rintro e w' ⟨rfl, rfl⟩) | (go_at_call 52; refine (rsmall_any _ _).mono ?_; rintro e w' ⟨rfl, rfl⟩))
  go_ret
  exact ⟨rfl, B1 _⟩
theorem rplace_f (mb mi ms md : Int) (w : World) (h0 : reg mb = true) (h1 : smallB md = true) (h2 : (mi == -1) = false) (h3 : reg mi = true) (h4 : (mi != 4) = false) :
    Calls Try.prog 51 #[.agg #[.int .i64 mb, .int .i64 mi, .int .i64 ms, .int .i64 md]] w fun e w' => e = .returned (.bool false) ∧ Below w.heap.size w w' := by
  have B1 : ∀ o, Below w.heap.size w (w.alloc o) := fun o => (Below.refl _ _).alloc (Nat.le_refl _) o
  go_enter Try.func51, Try.ntmps51
  go_wp2_with (first | (go_at_call 50; refine (rregister_any _ _).mono ?_; rintro e w' ⟨rfl, rfl⟩) | (go_at_call 52; refine (rsmall_any _ _).mono ?_; rintro e w' ⟨rfl, rfl⟩))
  go_ret
  exact ⟨rfl, B1 _⟩
theorem rplace_g1 (mb mi ms md : Int) (w : World) (h0 : reg mb = true) (h1 : smallB md = true) (h2 : (mi == -1) = false) (h3 : reg mi = true) (h4 : (mi != 4) = true) (h5 : (ms == 1) = true) :
    Calls Try.prog 51 #[.agg #[.int .i64 mb, .int .i64 mi, .int .i64 ms, .int .i64 md]] w fun e w' => e = .returned (.bool true) ∧ Below w.heap.size w w' := by
  have B1 : ∀ o, Below w.heap.size w (w.alloc o) := fun o => (Below.refl _ _).alloc (Nat.le_refl _) o
  go_enter Try.func51, Try.ntmps51
  go_wp2_with (first | (go_at_call 50; refine (rregister_any _ _).mono ?_; rintro e w' ⟨rfl, rfl⟩) | (go_at_call 52; refine (rsmall_any _ _).mono ?_; rintro e w' ⟨rfl, rfl⟩))
  go_ret
  exact ⟨rfl, B1 _⟩
theorem rplace_g2 (mb mi ms md : Int) (w : World) (h0 : reg mb = true) (h1 : smallB md = true) (h2 : (mi == -1) = false) (h3 : reg mi = true) (h4 : (mi != 4) = true) (h5 : (ms == 1) = false) (h6 : (ms == 2) = true) :
    Calls Try.prog 51 #[.agg #[.int .i64 mb, .int .i64 mi, .int .i64 ms, .int .i64 md]] w fun e w' => e = .returned (.bool true) ∧ Below w.heap.size w w' := by
  have B1 : ∀ o, Below w.heap.size w (w.alloc o) := fun o => (Below.refl _ _).alloc (Nat.le_refl _) o
  go_enter Try.func51, Try.ntmps51
  go_wp2_with (first | (go_at_call 50; refine (rregister_any _ _).mono ?_; rintro e w' ⟨rfl, rfl⟩) | (go_at_call 52; refine (rsmall_any _ _).mono ?_; rintro e w' ⟨rfl, rfl⟩))
  go_ret
  exact ⟨rfl, B1 _⟩
theorem rplace_g4 (mb mi ms md : Int) (w : World) (h0 : reg mb = true) (h1 : smallB md = true) (h2 : (mi == -1) = false) (h3 : reg mi = true) (h4 : (mi != 4) = true) (h5 : (ms == 1) = false) (h6 : (ms == 2) = false) (h7 : (ms == 4) = true) :
    Calls Try.prog 51 #[.agg #[.int .i64 mb, .int .i64 mi, .int .i64 ms, .int .i64 md]] w fun e w' => e = .returned (.bool true) ∧ Below w.heap.size w w' := by
  have B1 : ∀ o, Below w.heap.size w (w.alloc o) := fun o => (Below.refl _ _).alloc (Nat.le_refl _) o
  go_enter Try.func51, Try.ntmps51
  go_wp2_with (first | (go_at_call 50; refine (rregister_any _ _).mono ?_; rintro e w' ⟨rfl, rfl⟩) | (go_at_call 52; refine (rsmall_any _ _).mono ?_; rintro e w' ⟨rfl, rfl⟩))
  go_ret
  exact ⟨rfl, B1 _⟩
theorem rplace_g8 (mb mi ms md : Int) (w : World) (h0 : reg mb = true) (h1 : smallB md = true) (h2 : (mi == -1) = false) (h3 : reg mi = true) (h4 : (mi != 4) = true) (h5 : (ms == 1) = false) (h6 : (ms == 2) = false) (h7 : (ms == 4) = false) (h8 : (ms == 8) = true) :
    Calls Try.prog 51 #[.agg #[.int .i64 mb, .int .i64 mi, .int .i64 ms, .int .i64 md]] w fun e w' => e = .returned (.bool true) ∧ Below w.heap.size w w' := by
  have B1 : ∀ o, Below w.heap.size w (w.alloc o) := fun o => (Below.refl _ _).alloc (Nat.le_refl _) o
  go_enter Try.func51, Try.ntmps51
  go_wp2_with (first | (go_at_call 50; refine (rregister_any _ _).mono ?_; rintro e w' ⟨rfl, rfl⟩) | (go_at_call 52; refine (rsmall_any _ _).mono ?_; rintro e w' ⟨rfl, rfl⟩))
  go_ret
  exact ⟨rfl, B1 _⟩
theorem rplace_h (mb mi ms md : Int) (w : World) (h0 : reg mb = true) (h1 : smallB md = true) (h2 : (mi == -1) = false) (h3 : reg mi = true) (h4 : (mi != 4) = true) (h5 : (ms == 1) = false) (h6 : (ms == 2) = false) (h7 : (ms == 4) = false) (h8 : (ms == 8) = false) :
    Calls Try.prog 51 #[.agg #[.int .i64 mb, .int .i64 mi, .int .i64 ms, .int .i64 md]] w fun e w' => e = .returned (.bool false) ∧ Below w.heap.size w w' := by
  have B1 : ∀ o, Below w.heap.size w (w.alloc o) := fun o => (Below.refl _ _).alloc (Nat.le_refl _) o
  go_enter Try.func51, Try.ntmps51
  go_wp2_with (first | (go_at_call 50; refine (rregister_any _ _).mono ?_; rintro e w' ⟨rfl, rfl⟩) | (go_at_call 52; refine (rsmall_any _ _).mono ?_; rintro e w' ⟨rfl, rfl⟩))
  go_ret
  exact ⟨rfl, B1 _⟩
theorem rplace_any (mb mi ms md : Int) (w : World) :
    Calls Try.prog 51 #[.agg #[.int .i64 mb, .int .i64 mi, .int .i64 ms, .int .i64 md]] w fun e w' => e = .returned (.bool (plc mb mi ms md)) ∧ Below w.heap.size w w' := by
  have hp : plc mb mi ms md = (reg mb && (smallB md && (if (mi == -1) = true then (ms == 1) else reg mi && (mi != 4 && ((ms == 1) || ((ms == 2) || ((ms == 4) || (ms == 8)))))))) := by
    unfold plc; simp only [beq_iff_eq, Bool.and_assoc]; congr 2; split <;> (simp; try rfl)
  rw [hp]
  cases h0 : reg mb
  · simpa using rplace_a mb mi ms md w h0
  cases h1 : smallB md
  · simpa using rplace_b mb mi ms md w h0 h1
  cases h2 : (mi == -1)
  · rw [if_neg (by decide)]
    cases h3 : reg mi
    · simpa using rplace_e mb mi ms md w h0 h1 h2 h3
    cases h4 : (mi != 4)
    · simpa using rplace_f mb mi ms md w h0 h1 h2 h3 h4
    cases k1 : (ms == 1)
    · cases k2 : (ms == 2)
      · cases k4 : (ms == 4)
        · cases k8 : (ms == 8)
          · simpa using rplace_h mb mi ms md w h0 h1 h2 h3 h4 k1 k2 k4 k8
          · simpa using rplace_g8 mb mi ms md w h0 h1 h2 h3 h4 k1 k2 k4 k8
        · simpa using rplace_g4 mb mi ms md w h0 h1 h2 h3 h4 k1 k2 k4
      · simpa using rplace_g2 mb mi ms md w h0 h1 h2 h3 h4 k1 k2
    · simpa using rplace_g1 mb mi ms md w h0 h1 h2 h3 h4 k1
  · rw [if_pos rfl]
    cases k1 : (ms == 1)
    · simpa using rplace_d mb mi ms md w h0 h1 h2 k1
    · simpa using rplace_c mb mi ms md w h0 h1 h2 k1
end Go.Proofs.Ytbcaelhchmoigaa
set_option linter.unusedVariables false
set_option linter.unusedSimpArgs false
namespace Go.Proofs.Ytbcaelhchmoigaa
open Go.RowKit Calm
theorem reg_iff (x : Int) : (reg x = true) = Reg x := propext ⟨reg_of, of_reg⟩
theorem memZ_iff (a b c d : Int) : (memZ a b c d = true) = (a = 0 ∧ b = 0 ∧ c = 0 ∧ d = 0) := by unfold memZ; simp [and_assoc]
theorem smallB_iff (n : Int) : (smallB n = true) = (-2147483648 ≤ n ∧ n ≤ 2147483647) := by unfold smallB; simp
theorem chkX_1 (d s t mb mi ms md imm : Int) : chk 1 d s t mb mi ms md imm = (reg d && reg s && (t == 0) && memZ mb mi ms md && (imm == 0)) := by
  rw [Bool.eq_iff_iff, chk_1]
  simp only [Bool.and_eq_true, reg_iff, beq_iff_eq, memZ_iff]
  constructor <;> (intro h; simp_all)
theorem chkX_2 (d s t mb mi ms md imm : Int) : chk 2 d s t mb mi ms md imm = (reg d && (s == 0) && (t == 0) && memZ mb mi ms md) := by
  rw [Bool.eq_iff_iff, chk_2]
  simp only [Bool.and_eq_true, reg_iff, beq_iff_eq, memZ_iff]
  constructor <;> (intro h; simp_all)
theorem chkX_3 (d s t mb mi ms md imm : Int) : chk 3 d s t mb mi ms md imm = (reg d && (s == 0) && (t == 0) && plc mb mi ms md && (imm == 0)) := by
  rw [Bool.eq_iff_iff, chk_3]
  simp only [Bool.and_eq_true, reg_iff, beq_iff_eq]
  constructor <;> (intro h; simp_all)
theorem chkX_4 (d s t mb mi ms md imm : Int) : chk 4 d s t mb mi ms md imm = ((d == 0) && reg s && (t == 0) && plc mb mi ms md && (imm == 0)) := by
  rw [Bool.eq_iff_iff, chk_4]
  simp only [Bool.and_eq_true, reg_iff, beq_iff_eq]
  constructor <;> (intro h; simp_all)
theorem chkX_5 (d s t mb mi ms md imm : Int) : chk 5 d s t mb mi ms md imm = (reg d && (s == 0) && (t == 0) && plc mb mi ms md && (imm == 0)) := by
  rw [Bool.eq_iff_iff, chk_5]
  simp only [Bool.and_eq_true, reg_iff, beq_iff_eq]
  constructor <;> (intro h; simp_all)
theorem chkX_6 (d s t mb mi ms md imm : Int) : chk 6 d s t mb mi ms md imm = (reg d && reg s && (t == 0) && memZ mb mi ms md && (imm == 0)) := by
  rw [Bool.eq_iff_iff, chk_6]
  simp only [Bool.and_eq_true, reg_iff, beq_iff_eq, memZ_iff]
  constructor <;> (intro h; simp_all)
theorem chkX_7 (d s t mb mi ms md imm : Int) : chk 7 d s t mb mi ms md imm = (reg d && reg s && (t == 0) && memZ mb mi ms md && (imm == 0)) := by
  rw [Bool.eq_iff_iff, chk_7]
  simp only [Bool.and_eq_true, reg_iff, beq_iff_eq, memZ_iff]
  constructor <;> (intro h; simp_all)
theorem chkX_8 (d s t mb mi ms md imm : Int) : chk 8 d s t mb mi ms md imm = (reg d && reg s && (t == 0) && memZ mb mi ms md && (imm == 0)) := by
  rw [Bool.eq_iff_iff, chk_8]
  simp only [Bool.and_eq_true, reg_iff, beq_iff_eq, memZ_iff]
  constructor <;> (intro h; simp_all)
theorem chkX_9 (d s t mb mi ms md imm : Int) : chk 9 d s t mb mi ms md imm = (reg d && reg s && (t == 0) && memZ mb mi ms md && (imm == 0)) := by
  rw [Bool.eq_iff_iff, chk_9]
  simp only [Bool.and_eq_true, reg_iff, beq_iff_eq, memZ_iff]
  constructor <;> (intro h; simp_all)
theorem chkX_10 (d s t mb mi ms md imm : Int) : chk 10 d s t mb mi ms md imm = (reg d && reg s && (t == 0) && memZ mb mi ms md && (imm == 0)) := by
  rw [Bool.eq_iff_iff, chk_10]
  simp only [Bool.and_eq_true, reg_iff, beq_iff_eq, memZ_iff]
  constructor <;> (intro h; simp_all)
theorem chkX_11 (d s t mb mi ms md imm : Int) : chk 11 d s t mb mi ms md imm = (reg d && reg s && (t == 0) && memZ mb mi ms md && (imm == 0)) := by
  rw [Bool.eq_iff_iff, chk_11]
  simp only [Bool.and_eq_true, reg_iff, beq_iff_eq, memZ_iff]
  constructor <;> (intro h; simp_all)
theorem chkX_12 (d s t mb mi ms md imm : Int) : chk 12 d s t mb mi ms md imm = (reg d && reg s && (t == 0) && memZ mb mi ms md && (imm == 0)) := by
  rw [Bool.eq_iff_iff, chk_12]
  simp only [Bool.and_eq_true, reg_iff, beq_iff_eq, memZ_iff]
  constructor <;> (intro h; simp_all)
theorem chkX_13 (d s t mb mi ms md imm : Int) : chk 13 d s t mb mi ms md imm = (reg d && reg s && (t == 0) && memZ mb mi ms md && (imm == 0)) := by
  rw [Bool.eq_iff_iff, chk_13]
  simp only [Bool.and_eq_true, reg_iff, beq_iff_eq, memZ_iff]
  constructor <;> (intro h; simp_all)
theorem chkX_14 (d s t mb mi ms md imm : Int) : chk 14 d s t mb mi ms md imm = (reg d && reg s && (t == 0) && memZ mb mi ms md && (imm == 0)) := by
  rw [Bool.eq_iff_iff, chk_14]
  simp only [Bool.and_eq_true, reg_iff, beq_iff_eq, memZ_iff]
  constructor <;> (intro h; simp_all)
theorem chkX_15 (d s t mb mi ms md imm : Int) : chk 15 d s t mb mi ms md imm = (reg d && (s == 0) && (t == 0) && memZ mb mi ms md && smallB imm) := by
  rw [Bool.eq_iff_iff, chk_15]
  simp only [Bool.and_eq_true, reg_iff, beq_iff_eq, memZ_iff, smallB_iff]
  constructor <;> (intro h; simp_all)
theorem chkX_16 (d s t mb mi ms md imm : Int) : chk 16 d s t mb mi ms md imm = (reg d && (s == 0) && (t == 0) && memZ mb mi ms md && smallB imm) := by
  rw [Bool.eq_iff_iff, chk_16]
  simp only [Bool.and_eq_true, reg_iff, beq_iff_eq, memZ_iff, smallB_iff]
  constructor <;> (intro h; simp_all)
theorem chkX_17 (d s t mb mi ms md imm : Int) : chk 17 d s t mb mi ms md imm = (reg d && (s == 0) && (t == 0) && memZ mb mi ms md && smallB imm) := by
  rw [Bool.eq_iff_iff, chk_17]
  simp only [Bool.and_eq_true, reg_iff, beq_iff_eq, memZ_iff, smallB_iff]
  constructor <;> (intro h; simp_all)
theorem chkX_18 (d s t mb mi ms md imm : Int) : chk 18 d s t mb mi ms md imm = (reg d && (s == 0) && (t == 0) && memZ mb mi ms md && smallB imm) := by
  rw [Bool.eq_iff_iff, chk_18]
  simp only [Bool.and_eq_true, reg_iff, beq_iff_eq, memZ_iff, smallB_iff]
  constructor <;> (intro h; simp_all)
theorem chkX_19 (d s t mb mi ms md imm : Int) : chk 19 d s t mb mi ms md imm = (reg d && reg s && reg t && (d != s) && memZ mb mi ms md && (imm == 0)) := by
  rw [Bool.eq_iff_iff, chk_19]
  simp only [Bool.and_eq_true, reg_iff, beq_iff_eq, bne_iff_ne, ne_eq, memZ_iff]
  constructor <;> (intro h; simp_all)
theorem chkX_20 (d s t mb mi ms md imm : Int) : chk 20 d s t mb mi ms md imm = (reg d && reg s && (t == 0) && memZ mb mi ms md && (imm == 0)) := by
  rw [Bool.eq_iff_iff, chk_20]
  simp only [Bool.and_eq_true, reg_iff, beq_iff_eq, memZ_iff]
  constructor <;> (intro h; simp_all)
theorem chkX_21 (d s t mb mi ms md imm : Int) : chk 21 d s t mb mi ms md imm = (reg d && reg s && (t == 0) && memZ mb mi ms md && (imm == 0)) := by
  rw [Bool.eq_iff_iff, chk_21]
  simp only [Bool.and_eq_true, reg_iff, beq_iff_eq, memZ_iff]
  constructor <;> (intro h; simp_all)
theorem chkX_22 (d s t mb mi ms md imm : Int) : chk 22 d s t mb mi ms md imm = (reg d && (s == 0) && (t == 0) && memZ mb mi ms md && (imm == 0)) := by
  rw [Bool.eq_iff_iff, chk_22]
  simp only [Bool.and_eq_true, reg_iff, beq_iff_eq, memZ_iff]
  constructor <;> (intro h; simp_all)
theorem chkX_23 (d s t mb mi ms md imm : Int) : chk 23 d s t mb mi ms md imm = (reg d && (s == 0) && (t == 0) && memZ mb mi ms md && (imm == 0)) := by
  rw [Bool.eq_iff_iff, chk_23]
  simp only [Bool.and_eq_true, reg_iff, beq_iff_eq, memZ_iff]
  constructor <;> (intro h; simp_all)
theorem chkX_24 (d s t mb mi ms md imm : Int) : chk 24 d s t mb mi ms md imm = (reg d && (s == 0) && (t == 0) && memZ mb mi ms md && decide (1 ≤ imm) && decide (imm ≤ 63)) := by
  rw [Bool.eq_iff_iff, chk_24]
  simp only [Bool.and_eq_true, reg_iff, beq_iff_eq, decide_eq_true_eq, memZ_iff]
  constructor <;> (intro h; simp_all)
theorem chkX_25 (d s t mb mi ms md imm : Int) : chk 25 d s t mb mi ms md imm = (reg d && (s == 0) && (t == 0) && memZ mb mi ms md && decide (1 ≤ imm) && decide (imm ≤ 63)) := by
  rw [Bool.eq_iff_iff, chk_25]
  simp only [Bool.and_eq_true, reg_iff, beq_iff_eq, decide_eq_true_eq, memZ_iff]
  constructor <;> (intro h; simp_all)
theorem chkX_26 (d s t mb mi ms md imm : Int) : chk 26 d s t mb mi ms md imm = (reg d && reg s && (t == 0) && memZ mb mi ms md && (imm == 0)) := by
  rw [Bool.eq_iff_iff, chk_26]
  simp only [Bool.and_eq_true, reg_iff, beq_iff_eq, memZ_iff]
  constructor <;> (intro h; simp_all)
theorem chkX_27 (d s t mb mi ms md imm : Int) : chk 27 d s t mb mi ms md imm = (reg d && reg s && (t == 0) && memZ mb mi ms md && (imm == 0)) := by
  rw [Bool.eq_iff_iff, chk_27]
  simp only [Bool.and_eq_true, reg_iff, beq_iff_eq, memZ_iff]
  constructor <;> (intro h; simp_all)
theorem chkX_28 (d s t mb mi ms md imm : Int) : chk 28 d s t mb mi ms md imm = ((d == 0) && reg s && (t == 0) && memZ mb mi ms md && (imm == 0)) := by
  rw [Bool.eq_iff_iff, chk_28]
  simp only [Bool.and_eq_true, reg_iff, beq_iff_eq, memZ_iff]
  constructor <;> (intro h; simp_all)
theorem chkX_29 (d s t mb mi ms md imm : Int) : chk 29 d s t mb mi ms md imm = (reg d && (s == 0) && (t == 0) && memZ mb mi ms md && (imm == 0)) := by
  rw [Bool.eq_iff_iff, chk_29]
  simp only [Bool.and_eq_true, reg_iff, beq_iff_eq, memZ_iff]
  constructor <;> (intro h; simp_all)
theorem chkX_30 (d s t mb mi ms md imm : Int) : chk 30 d s t mb mi ms md imm = ((d == 0) && (s == 0) && (t == 0) && memZ mb mi ms md && smallB imm) := by
  rw [Bool.eq_iff_iff, chk_30]
  simp only [Bool.and_eq_true, beq_iff_eq, memZ_iff, smallB_iff]
  constructor <;> (intro h; simp_all)
theorem chkX_31 (d s t mb mi ms md imm : Int) : chk 31 d s t mb mi ms md imm = ((d == 0) && (s == 0) && (t == 0) && memZ mb mi ms md && smallB imm) := by
  rw [Bool.eq_iff_iff, chk_31]
  simp only [Bool.and_eq_true, beq_iff_eq, memZ_iff, smallB_iff]
  constructor <;> (intro h; simp_all)
theorem chkX_32 (d s t mb mi ms md imm : Int) : chk 32 d s t mb mi ms md imm = ((d == 0) && (s == 0) && (t == 0) && memZ mb mi ms md && smallB imm) := by
  rw [Bool.eq_iff_iff, chk_32]
  simp only [Bool.and_eq_true, beq_iff_eq, memZ_iff, smallB_iff]
  constructor <;> (intro h; simp_all)
theorem chkX_33 (d s t mb mi ms md imm : Int) : chk 33 d s t mb mi ms md imm = ((d == 0) && (s == 0) && (t == 0) && memZ mb mi ms md && (imm == 0)) := by
  rw [Bool.eq_iff_iff, chk_33]
  simp only [Bool.and_eq_true, beq_iff_eq, memZ_iff]
  constructor <;> (intro h; simp_all)
theorem chk_out (op d s t mb mi ms md imm : Int) (h : op ≤ 0 ∨ 34 ≤ op) : chk op d s t mb mi ms md imm = false := by
  cases e : chk op d s t mb mi ms md imm
  · rfl
  · have := chk_range e; omega
theorem formB_out (op : Int) (h : op ≤ 0 ∨ 34 ≤ op) : formB op = ⟨#[]⟩ := by unfold formB; repeat rw [if_neg (by omega)]
end Go.Proofs.Ytbcaelhchmoigaa
namespace Go.Proofs.Ytbcaelhchmoigaa.Rk
open Go Go.RowKit Calm SL
section
variable {P : Program} {Q : Exit → Act → World → Prop} {s : St} {E : Env} {M : Hp} {x y : Code}
theorem C.join {α : Type} (G : α → Prop) (EI : α → Env) (MI : α → Hp) (h : C P x (Exit.then (fun a w => ∃ z, G z ∧ Sat s (EI z) (MI z) a w) Q) s E M)
    (k : ∀ z, G z → C P y Q s (EI z) (MI z)) : C P (.seq x y) Q s E M := by
  refine C.seq fun a w hs => wpIn_mono (h a w hs) ?_
  intro e a' w' hq
  cases e with
  | normal => obtain ⟨z, hz, hsz⟩ := hq; exact k z hz a' w' hsz
  | exit id => exact hq
  | goto l => exact hq
  | ret => exact hq
  | panic ch => exact hq
  | outgrown => exact hq
end
attribute [local irreducible] SL.L SL.C SL.D SL.N SL.H SL.QL SL.QW SL.QP
theorem spec_p {f : Nat} {args : List Value} {v : Value} (h : ∀ w, Calls Try.prog f args.toArray w fun e w' => e = .returned v ∧ w = w') : Ctr Try.prog f args [] tt (is v []) := by
  intro w _ _ _
  refine (h w).mono ?_
  rintro e w' ⟨rfl, rfl⟩
  exact ⟨v, [], rfl, ⟨rfl, rfl⟩, Keeps.refl _ _, by simp [keys], by simp, by simp⟩
theorem spec_b {f : Nat} {args : List Value} {v : Value} (h : ∀ w, Calls Try.prog f args.toArray w fun e w' => e = .returned v ∧ Below w.heap.size w w') : Ctr Try.prog f args [] tt (is v []) := by
  intro w _ _ _
  refine (h w).mono ?_
  rintro e w' ⟨rfl, hb⟩
  exact ⟨v, [], rfl, ⟨rfl, rfl⟩, Keeps.of_below hb _, by simp [keys], by simp, by simp⟩
def ok4 (f : ByteArray) (d s t mb mi ms md : Int) : Bool :=
  (((sne f ⟨#[]⟩ && ((hasC f 68 && reg d) || (!hasC f 68 && cm .eql d 0))) && ((hasC f 83 && reg s) || (!hasC f 83 && cm .eql s 0))) && (((hasC f 84 && reg t) && cm .neq d s) || (!hasC f 84 && cm .eql t 0))) && ((hasC f 77 && plc mb mi ms md) || (!hasC f 77 && (mb == 0 && (mi == 0 && (ms == 0 && (md == 0 && true))))))
def okE (f : ByteArray) (d s t mb mi ms md imm : Int) : Bool :=
  if hasC f 105 = true then ok4 f d s t mb mi ms md && smallB imm else if hasC f 98 = true then (ok4 f d s t mb mi ms md && cm .geq imm 1) && cm .leq imm 63 else if hasC f 73 = true then ok4 f d s t mb mi ms md else ok4 f d s t mb mi ms md && cm .eql imm 0
theorem formB_size (op : Int) : (formB op).size ≤ 1000 := by
  by_cases h : op ≤ 0 ∨ 34 ≤ op
  · rw [formB_out op h]; decide
  have : op = 1 ∨ op = 2 ∨ op = 3 ∨ op = 4 ∨ op = 5 ∨ op = 6 ∨ op = 7 ∨ op = 8 ∨ op = 9 ∨ op = 10 ∨ op = 11 ∨ op = 12 ∨ op = 13 ∨ op = 14 ∨ op = 15 ∨ op = 16 ∨ op = 17 ∨ op = 18 ∨ op = 19 ∨ op = 20 ∨ op = 21 ∨ op = 22 ∨ op = 23 ∨ op = 24 ∨ op = 25 ∨ op = 26 ∨ op = 27 ∨ op = 28 ∨ op = 29 ∨ op = 30 ∨ op = 31 ∨ op = 32 ∨ op = 33 := by omega
  rcases this with rfl | rfl | rfl | rfl | rfl | rfl | rfl | rfl | rfl | rfl | rfl | rfl | rfl | rfl | rfl | rfl | rfl | rfl | rfl | rfl | rfl | rfl | rfl | rfl | rfl | rfl | rfl | rfl | rfl | rfl | rfl | rfl | rfl <;> decide
set_option maxRecDepth 100000 in
set_option maxHeartbeats 16000000 in
theorem rcheck_S (op d s t mb mi ms md imm : Int) : Ctr Try.prog 32 [.agg #[.int .i64 op, .int .i64 d, .int .i64 s, .int .i64 t, .int .i64 mb, .int .i64 mi, .int .i64 ms, .int .i64 md, .int .i64 imm]] [] tt (is (.int .i64 (errOf (okE (formB op) d s t mb mi ms md imm))) []) := by
  have hF : Ctr Try.prog 48 [.int .i64 op] [] tt (is (.string (formB op)) []) := spec_p (fun w => form_any op w)
  have hH := fun c : Int => (spec_p (fun w => rhas_any (formB op) c w (formB_size op)) : Ctr Try.prog 49 [.string (formB op), .int .u8 c] [] tt (is (.bool (hasC (formB op) c)) []))
  have hRd : Ctr Try.prog 50 [.int .i64 d] [] tt (is (.bool (reg d)) []) := spec_p (fun w => rregister_any d w)
  have hRs : Ctr Try.prog 50 [.int .i64 s] [] tt (is (.bool (reg s)) []) := spec_p (fun w => rregister_any s w)
  have hRt : Ctr Try.prog 50 [.int .i64 t] [] tt (is (.bool (reg t)) []) := spec_p (fun w => rregister_any t w)
  have hS : Ctr Try.prog 52 [.int .i64 imm] [] tt (is (.bool (smallB imm)) []) := spec_p (fun w => rsmall_any imm w)
  have hP : Ctr Try.prog 51 [.agg #[.int .i64 mb, .int .i64 mi, .int .i64 ms, .int .i64 md]] [] tt (is (.bool (plc mb mi ms md)) []) := spec_b (fun w => rplace_any mb mi ms md w)
  obtain ⟨Z, hZ⟩ : ∃ Z, okE (formB op) d s t mb mi ms md imm = Z := ⟨_, rfl⟩
  rw [hZ]
  unfold okE ok4 at hZ
  generalize formB op = f at *
  have h68 := hH 68; have h83 := hH 83; have h84 := hH 84; have h77 := hH 77; have h105 := hH 105; have h98 := hH 98; have h73 := hH 73
  clear hH
  generalize hasC f 68 = c68 at *; generalize hasC f 83 = c83 at *; generalize hasC f 84 = c84 at *; generalize hasC f 77 = c77 at *; generalize hasC f 105 = c105 at *; generalize hasC f 98 = c98 at *; generalize hasC f 73 = c73 at *
  generalize reg d = pd at *; generalize reg s = ps at *; generalize reg t = pt at *; generalize plc mb mi ms md = pp at *; generalize smallB imm = pi at *
  refine Ctr.enter Try.func32 Try.ntmps32 rfl rfl (fun w _ => ?_)
  iterate 21 (first | refine Af ?_ | refine Ac ?_ | refine Aa ?_ | refine Ae ?_ | refine Ad ?_ | refine Ag ?_ | refine Ay ?_ | refine Ak 0 ?_ | refine L.box (c := fun _ => ?_) | refine L.strNe (c := ?_) | refine Au (hF) ?_)
  rename_i b1
  generalize sne f ⟨#[]⟩ = a0 at *
  refine C.join (x := .region 3 _ _) (fun z : Bool => z = (a0 && ((c68 && pd) || (!c68 && cm .eql d 0)))) (fun z => [(1, .pointer (some ⟨b1, 0, none⟩)), (3, .string f), (4, .bool z)]) (fun _ => [(b1, ob [.int .i64 op, .int .i64 d, .int .i64 s, .int .i64 t, .int .i64 mb, .int .i64 mi, .int .i64 ms, .int .i64 md, .int .i64 imm] 35)]) ?_ ?_
  · generalize hq : cm .eql d 0 = q; rcases (by cases a0 <;> cases c68 <;> cases pd <;> cases q <;> simp : a0 = false ∨ (a0 = true ∧ c68 = true ∧ pd = true) ∨ (a0 = true ∧ c68 = true ∧ pd = false) ∨ (a0 = true ∧ c68 = false ∧ q = true) ∨ (a0 = true ∧ c68 = false ∧ q = false)) with rfl | ⟨rfl, rfl, rfl⟩ | ⟨rfl, rfl, rfl⟩ | ⟨rfl, rfl, rfl⟩ | ⟨rfl, rfl, rfl⟩
    all_goals repeat (first | refine Ac ?_ | refine Aa ?_ | refine Ad ?_ | refine Ag ?_ | refine Ah ?_ | refine Ay ?_ | refine Ak 0 ?_ | refine Be ?_ | refine Ax ?_ | refine Aw ?_ | refine Bf ?_ | refine L.not (c := ?_) | refine L.passU (k := ?_) | refine Au (h68) ?_ | refine Au (hRd) ?_)
    all_goals exact D.then_ fun a1 w1 hs => ⟨_, rfl, hs.lessE rfl (lk_cons rfl (lk_cons rfl (lk_cons rfl (fun _ _ h => lk_nil h))))⟩
  rintro a1 ea1
  refine C.join (x := .region 4 _ _) (fun z : Bool => z = (a1 && ((c83 && ps) || (!c83 && cm .eql s 0)))) (fun z => [(1, .pointer (some ⟨b1, 0, none⟩)), (3, .string f), (4, .bool z)]) (fun _ => [(b1, ob [.int .i64 op, .int .i64 d, .int .i64 s, .int .i64 t, .int .i64 mb, .int .i64 mi, .int .i64 ms, .int .i64 md, .int .i64 imm] 35)]) ?_ ?_
  · generalize hq : cm .eql s 0 = q; rcases (by cases a1 <;> cases c83 <;> cases ps <;> cases q <;> simp : a1 = false ∨ (a1 = true ∧ c83 = true ∧ ps = true) ∨ (a1 = true ∧ c83 = true ∧ ps = false) ∨ (a1 = true ∧ c83 = false ∧ q = true) ∨ (a1 = true ∧ c83 = false ∧ q = false)) with rfl | ⟨rfl, rfl, rfl⟩ | ⟨rfl, rfl, rfl⟩ | ⟨rfl, rfl, rfl⟩ | ⟨rfl, rfl, rfl⟩
    all_goals repeat (first | refine Ac ?_ | refine Aa ?_ | refine Ad ?_ | refine Ag ?_ | refine Ah ?_ | refine Ay ?_ | refine Ak 0 ?_ | refine Be ?_ | refine Ax ?_ | refine Aw ?_ | refine Bf ?_ | refine L.not (c := ?_) | refine L.passU (k := ?_) | refine Au (h83) ?_ | refine Au (hRs) ?_)
    all_goals exact D.then_ fun a1 w1 hs => ⟨_, rfl, hs.lessE rfl (lk_cons rfl (lk_cons rfl (lk_cons rfl (fun _ _ h => lk_nil h))))⟩
  rintro a2 ea2
  refine C.join (x := .region 5 _ _) (fun z : Bool => z = (a2 && (((c84 && pt) && cm .neq d s) || (!c84 && cm .eql t 0)))) (fun z => [(1, .pointer (some ⟨b1, 0, none⟩)), (3, .string f), (4, .bool z)]) (fun _ => [(b1, ob [.int .i64 op, .int .i64 d, .int .i64 s, .int .i64 t, .int .i64 mb, .int .i64 mi, .int .i64 ms, .int .i64 md, .int .i64 imm] 35)]) ?_ ?_
  · generalize hq : cm .eql t 0 = q; generalize hr : cm .neq d s = r; rcases (by cases a2 <;> cases c84 <;> cases pt <;> cases q <;> cases r <;> simp : a2 = false ∨ (a2 = true ∧ c84 = true ∧ pt = true ∧ r = true) ∨ (a2 = true ∧ c84 = true ∧ pt = true ∧ r = false) ∨ (a2 = true ∧ c84 = true ∧ pt = false) ∨ (a2 = true ∧ c84 = false ∧ q = true) ∨ (a2 = true ∧ c84 = false ∧ q = false)) with rfl | ⟨rfl, rfl, rfl, rfl⟩ | ⟨rfl, rfl, rfl, rfl⟩ | ⟨rfl, rfl, rfl⟩ | ⟨rfl, rfl, rfl⟩ | ⟨rfl, rfl, rfl⟩
    all_goals repeat (first | refine Ac ?_ | refine Aa ?_ | refine Ad ?_ | refine Ag ?_ | refine Ah ?_ | refine Ay ?_ | refine Ak 0 ?_ | refine Be ?_ | refine Ax ?_ | refine Aw ?_ | refine Bf ?_ | refine L.not (c := ?_) | refine L.passU (k := ?_) | refine Au (h84) ?_ | refine Au (hRt) ?_)
    all_goals exact D.then_ fun a1 w1 hs => ⟨_, rfl, hs.lessE rfl (lk_cons rfl (lk_cons rfl (lk_cons rfl (fun _ _ h => lk_nil h))))⟩
  rintro a3 ea3
  refine C.join (x := .region 6 _ _) (fun z : Bool => z = (a3 && ((c77 && pp) || (!c77 && (mb == 0 && (mi == 0 && (ms == 0 && (md == 0 && true)))))))) (fun z => [(1, .pointer (some ⟨b1, 0, none⟩)), (3, .string f), (4, .bool z)]) (fun _ => [(b1, ob [.int .i64 op, .int .i64 d, .int .i64 s, .int .i64 t, .int .i64 mb, .int .i64 mi, .int .i64 ms, .int .i64 md, .int .i64 imm] 35)]) ?_ ?_
  · generalize hq : (mb == 0 && (mi == 0 && (ms == 0 && (md == 0 && true)))) = q; rcases (by cases a3 <;> cases c77 <;> cases pp <;> cases q <;> simp : a3 = false ∨ (a3 = true ∧ c77 = true ∧ pp = true) ∨ (a3 = true ∧ c77 = true ∧ pp = false) ∨ (a3 = true ∧ c77 = false ∧ q = true) ∨ (a3 = true ∧ c77 = false ∧ q = false)) with rfl | ⟨rfl, rfl, rfl⟩ | ⟨rfl, rfl, rfl⟩ | ⟨rfl, rfl, rfl⟩ | ⟨rfl, rfl, rfl⟩
    all_goals repeat (first | refine L.eqA (b := true) (he := by exact congrArg some hq) (c := ?_) | refine L.eqA (b := false) (he := by exact congrArg some hq) (c := ?_) | refine Ac ?_ | refine Aa ?_ | refine Ad ?_ | refine Ag ?_ | refine Ay ?_ | refine Al 0 ?_ | refine As ?_ | refine Be ?_ | refine Ax ?_ | refine Aw ?_ | refine Bf ?_ | refine L.not (c := ?_) | refine L.passU (k := ?_) | refine Au (h77) ?_ | refine Au (hP) ?_)
    all_goals exact D.then_ fun a1 w1 hs => ⟨_, rfl, hs.lessE rfl (lk_cons rfl (lk_cons rfl (lk_cons rfl (fun _ _ h => lk_nil h))))⟩
  rintro a4 ea4
  refine C.join (fun z : Bool => z = (if c105 = true then a4 && pi else if c98 = true then (a4 && cm .geq imm 1) && cm .leq imm 63 else if c73 = true then a4 else a4 && cm .eql imm 0)) (fun z => [(1, .pointer (some ⟨b1, 0, none⟩)), (3, .string f), (4, .bool z)]) (fun _ => [(b1, ob [.int .i64 op, .int .i64 d, .int .i64 s, .int .i64 t, .int .i64 mb, .int .i64 mi, .int .i64 ms, .int .i64 md, .int .i64 imm] 35)]) ?_ ?_
  · generalize hq : cm .geq imm 1 = q; generalize hr : cm .leq imm 63 = r; generalize hu : cm .eql imm 0 = u
    rcases (by cases c105 <;> cases c98 <;> cases c73 <;> cases a4 <;> cases pi <;> cases q <;> cases r <;> cases u <;> simp : (c105 = true ∧ a4 = false) ∨ (c105 = true ∧ a4 = true ∧ pi = true) ∨ (c105 = true ∧ a4 = true ∧ pi = false) ∨ (c105 = false ∧ c98 = true ∧ a4 = false) ∨ (c105 = false ∧ c98 = true ∧ a4 = true ∧ q = false) ∨ (c105 = false ∧ c98 = true ∧ a4 = true ∧ q = true ∧ r = false) ∨ (c105 = false ∧ c98 = true ∧ a4 = true ∧ q = true ∧ r = true) ∨ (c105 = false ∧ c98 = false ∧ c73 = true) ∨ (c105 = false ∧ c98 = false ∧ c73 = false ∧ a4 = false) ∨ (c105 = false ∧ c98 = false ∧ c73 = false ∧ a4 = true ∧ u = true) ∨ (c105 = false ∧ c98 = false ∧ c73 = false ∧ a4 = true ∧ u = false)) with ⟨rfl, rfl⟩ | ⟨rfl, rfl, rfl⟩ | ⟨rfl, rfl, rfl⟩ | ⟨rfl, rfl, rfl⟩ | ⟨rfl, rfl, rfl, rfl⟩ | ⟨rfl, rfl, rfl, rfl, rfl⟩ | ⟨rfl, rfl, rfl, rfl, rfl⟩ | ⟨rfl, rfl, rfl⟩ | ⟨rfl, rfl, rfl, rfl⟩ | ⟨rfl, rfl, rfl, rfl, rfl⟩ | ⟨rfl, rfl, rfl, rfl, rfl⟩
    all_goals repeat (first | refine Af ?_ | refine Ac ?_ | refine Aa ?_ | refine Ae ?_ | refine Ad ?_ | refine Ag ?_ | refine Ah ?_ | refine Ay ?_ | refine Ak 0 ?_ | refine Am ?_ | refine Aj ?_ | refine Be ?_ | refine Ax ?_ | refine Aw ?_ | refine Bf ?_ | refine L.not (c := ?_) | refine Ai ?_ | refine Ar ?_ | refine Ap ?_ | refine Au (h105) ?_ | refine Au (h98) ?_ | refine Au (h73) ?_ | refine Au (hS) ?_)
    all_goals exact D.then_ fun a1 w1 hs => ⟨_, rfl, hs.lessE rfl (lk_cons rfl (lk_cons rfl (lk_cons rfl (fun _ _ h => lk_nil h))))⟩
  rintro z hz
  rw [ea4, ea3, ea2, ea1, hZ] at hz
  subst hz
  clear hZ
  cases z
  all_goals repeat (first | refine Af ?_ | refine Ac ?_ | refine Aa ?_ | refine Ae ?_ | refine Ad ?_ | refine Ag ?_ | refine Am ?_ | refine Aj ?_ | refine L.not (c := ?_) | refine An ?_ | refine Av ?_ | refine Ap ?_)
  all_goals (refine D.ret (vs := [_]) (RV.tmp rfl RV.nil) ?_; intro w' hw; exact Post.mk (is := []) hw List.nodup_nil rfl ⟨rfl, rfl⟩)
theorem okE_lit {f : ByteArray} {e0 e1 e2 e3 e4 e5 e6 e7 : Bool} (h0 : sne f ⟨#[]⟩ = e0) (h1 : hasC f 68 = e1) (h2 : hasC f 83 = e2) (h3 : hasC f 84 = e3) (h4 : hasC f 77 = e4) (h5 : hasC f 105 = e5) (h6 : hasC f 98 = e6) (h7 : hasC f 73 = e7) (d s t mb mi ms md imm : Int) :
    okE f d s t mb mi ms md imm = (let b4 := (((e0 && ((e1 && reg d) || (!e1 && (d == 0)))) && ((e2 && reg s) || (!e2 && (s == 0)))) && (((e3 && reg t) && (d != s)) || (!e3 && (t == 0)))) && ((e4 && plc mb mi ms md) || (!e4 && memZ mb mi ms md));
      if e5 = true then b4 && smallB imm else if e6 = true then (b4 && decide (1 ≤ imm)) && decide (imm ≤ 63) else if e7 = true then b4 else b4 && (imm == 0)) := by
  subst h0 h1 h2 h3 h4 h5 h6 h7
  have hm : (mb == 0 && (mi == 0 && (ms == 0 && (md == 0 && true)))) = memZ mb mi ms md := by unfold memZ; simp [Bool.and_assoc]
  unfold okE ok4
  rw [hm]; rfl
theorem okE_chk (op d s t mb mi ms md imm : Int) : okE (formB op) d s t mb mi ms md imm = chk op d s t mb mi ms md imm := by
  by_cases h : op ≤ 0 ∨ 34 ≤ op
  · rw [chk_out op d s t mb mi ms md imm h, formB_out op h, okE_lit (e0 := false) (e1 := false) (e2 := false) (e3 := false) (e4 := false) (e5 := false) (e6 := false) (e7 := false) (by decide +kernel) (by decide +kernel) (by decide +kernel) (by decide +kernel) (by decide +kernel) (by decide +kernel) (by decide +kernel) (by decide +kernel)]
    simp
  have : op = 1 ∨ op = 2 ∨ op = 3 ∨ op = 4 ∨ op = 5 ∨ op = 6 ∨ op = 7 ∨ op = 8 ∨ op = 9 ∨ op = 10 ∨ op = 11 ∨ op = 12 ∨ op = 13 ∨ op = 14 ∨ op = 15 ∨ op = 16 ∨ op = 17 ∨ op = 18 ∨ op = 19 ∨ op = 20 ∨ op = 21 ∨ op = 22 ∨ op = 23 ∨ op = 24 ∨ op = 25 ∨ op = 26 ∨ op = 27 ∨ op = 28 ∨ op = 29 ∨ op = 30 ∨ op = 31 ∨ op = 32 ∨ op = 33 := by omega
  rcases this with rfl | rfl | rfl | rfl | rfl | rfl | rfl | rfl | rfl | rfl | rfl | rfl | rfl | rfl | rfl | rfl | rfl | rfl | rfl | rfl | rfl | rfl | rfl | rfl | rfl | rfl | rfl | rfl | rfl | rfl | rfl | rfl | rfl
  · rw [chkX_1, okE_lit (e0 := true) (e1 := true) (e2 := true) (e3 := false) (e4 := false) (e5 := false) (e6 := false) (e7 := false) (by decide +kernel) (by decide +kernel) (by decide +kernel) (by decide +kernel) (by decide +kernel) (by decide +kernel) (by decide +kernel) (by decide +kernel)]; simp [Bool.and_assoc]
  · rw [chkX_2, okE_lit (e0 := true) (e1 := true) (e2 := false) (e3 := false) (e4 := false) (e5 := false) (e6 := false) (e7 := true) (by decide +kernel) (by decide +kernel) (by decide +kernel) (by decide +kernel) (by decide +kernel) (by decide +kernel) (by decide +kernel) (by decide +kernel)]; simp [Bool.and_assoc]
  · rw [chkX_3, okE_lit (e0 := true) (e1 := true) (e2 := false) (e3 := false) (e4 := true) (e5 := false) (e6 := false) (e7 := false) (by decide +kernel) (by decide +kernel) (by decide +kernel) (by decide +kernel) (by decide +kernel) (by decide +kernel) (by decide +kernel) (by decide +kernel)]; simp [Bool.and_assoc]
  · rw [chkX_4, okE_lit (e0 := true) (e1 := false) (e2 := true) (e3 := false) (e4 := true) (e5 := false) (e6 := false) (e7 := false) (by decide +kernel) (by decide +kernel) (by decide +kernel) (by decide +kernel) (by decide +kernel) (by decide +kernel) (by decide +kernel) (by decide +kernel)]; simp [Bool.and_assoc]
  · rw [chkX_5, okE_lit (e0 := true) (e1 := true) (e2 := false) (e3 := false) (e4 := true) (e5 := false) (e6 := false) (e7 := false) (by decide +kernel) (by decide +kernel) (by decide +kernel) (by decide +kernel) (by decide +kernel) (by decide +kernel) (by decide +kernel) (by decide +kernel)]; simp [Bool.and_assoc]
  · rw [chkX_6, okE_lit (e0 := true) (e1 := true) (e2 := true) (e3 := false) (e4 := false) (e5 := false) (e6 := false) (e7 := false) (by decide +kernel) (by decide +kernel) (by decide +kernel) (by decide +kernel) (by decide +kernel) (by decide +kernel) (by decide +kernel) (by decide +kernel)]; simp [Bool.and_assoc]
  · rw [chkX_7, okE_lit (e0 := true) (e1 := true) (e2 := true) (e3 := false) (e4 := false) (e5 := false) (e6 := false) (e7 := false) (by decide +kernel) (by decide +kernel) (by decide +kernel) (by decide +kernel) (by decide +kernel) (by decide +kernel) (by decide +kernel) (by decide +kernel)]; simp [Bool.and_assoc]
  · rw [chkX_8, okE_lit (e0 := true) (e1 := true) (e2 := true) (e3 := false) (e4 := false) (e5 := false) (e6 := false) (e7 := false) (by decide +kernel) (by decide +kernel) (by decide +kernel) (by decide +kernel) (by decide +kernel) (by decide +kernel) (by decide +kernel) (by decide +kernel)]; simp [Bool.and_assoc]
  · rw [chkX_9, okE_lit (e0 := true) (e1 := true) (e2 := true) (e3 := false) (e4 := false) (e5 := false) (e6 := false) (e7 := false) (by decide +kernel) (by decide +kernel) (by decide +kernel) (by decide +kernel) (by decide +kernel) (by decide +kernel) (by decide +kernel) (by decide +kernel)]; simp [Bool.and_assoc]
  · rw [chkX_10, okE_lit (e0 := true) (e1 := true) (e2 := true) (e3 := false) (e4 := false) (e5 := false) (e6 := false) (e7 := false) (by decide +kernel) (by decide +kernel) (by decide +kernel) (by decide +kernel) (by decide +kernel) (by decide +kernel) (by decide +kernel) (by decide +kernel)]; simp [Bool.and_assoc]
  · rw [chkX_11, okE_lit (e0 := true) (e1 := true) (e2 := true) (e3 := false) (e4 := false) (e5 := false) (e6 := false) (e7 := false) (by decide +kernel) (by decide +kernel) (by decide +kernel) (by decide +kernel) (by decide +kernel) (by decide +kernel) (by decide +kernel) (by decide +kernel)]; simp [Bool.and_assoc]
  · rw [chkX_12, okE_lit (e0 := true) (e1 := true) (e2 := true) (e3 := false) (e4 := false) (e5 := false) (e6 := false) (e7 := false) (by decide +kernel) (by decide +kernel) (by decide +kernel) (by decide +kernel) (by decide +kernel) (by decide +kernel) (by decide +kernel) (by decide +kernel)]; simp [Bool.and_assoc]
  · rw [chkX_13, okE_lit (e0 := true) (e1 := true) (e2 := true) (e3 := false) (e4 := false) (e5 := false) (e6 := false) (e7 := false) (by decide +kernel) (by decide +kernel) (by decide +kernel) (by decide +kernel) (by decide +kernel) (by decide +kernel) (by decide +kernel) (by decide +kernel)]; simp [Bool.and_assoc]
  · rw [chkX_14, okE_lit (e0 := true) (e1 := true) (e2 := true) (e3 := false) (e4 := false) (e5 := false) (e6 := false) (e7 := false) (by decide +kernel) (by decide +kernel) (by decide +kernel) (by decide +kernel) (by decide +kernel) (by decide +kernel) (by decide +kernel) (by decide +kernel)]; simp [Bool.and_assoc]
  · rw [chkX_15, okE_lit (e0 := true) (e1 := true) (e2 := false) (e3 := false) (e4 := false) (e5 := true) (e6 := false) (e7 := false) (by decide +kernel) (by decide +kernel) (by decide +kernel) (by decide +kernel) (by decide +kernel) (by decide +kernel) (by decide +kernel) (by decide +kernel)]; simp [Bool.and_assoc]
  · rw [chkX_16, okE_lit (e0 := true) (e1 := true) (e2 := false) (e3 := false) (e4 := false) (e5 := true) (e6 := false) (e7 := false) (by decide +kernel) (by decide +kernel) (by decide +kernel) (by decide +kernel) (by decide +kernel) (by decide +kernel) (by decide +kernel) (by decide +kernel)]; simp [Bool.and_assoc]
  · rw [chkX_17, okE_lit (e0 := true) (e1 := true) (e2 := false) (e3 := false) (e4 := false) (e5 := true) (e6 := false) (e7 := false) (by decide +kernel) (by decide +kernel) (by decide +kernel) (by decide +kernel) (by decide +kernel) (by decide +kernel) (by decide +kernel) (by decide +kernel)]; simp [Bool.and_assoc]
  · rw [chkX_18, okE_lit (e0 := true) (e1 := true) (e2 := false) (e3 := false) (e4 := false) (e5 := true) (e6 := false) (e7 := false) (by decide +kernel) (by decide +kernel) (by decide +kernel) (by decide +kernel) (by decide +kernel) (by decide +kernel) (by decide +kernel) (by decide +kernel)]; simp [Bool.and_assoc]
  · rw [chkX_19, okE_lit (e0 := true) (e1 := true) (e2 := true) (e3 := true) (e4 := false) (e5 := false) (e6 := false) (e7 := false) (by decide +kernel) (by decide +kernel) (by decide +kernel) (by decide +kernel) (by decide +kernel) (by decide +kernel) (by decide +kernel) (by decide +kernel)]; simp [Bool.and_assoc]
  · rw [chkX_20, okE_lit (e0 := true) (e1 := true) (e2 := true) (e3 := false) (e4 := false) (e5 := false) (e6 := false) (e7 := false) (by decide +kernel) (by decide +kernel) (by decide +kernel) (by decide +kernel) (by decide +kernel) (by decide +kernel) (by decide +kernel) (by decide +kernel)]; simp [Bool.and_assoc]
  · rw [chkX_21, okE_lit (e0 := true) (e1 := true) (e2 := true) (e3 := false) (e4 := false) (e5 := false) (e6 := false) (e7 := false) (by decide +kernel) (by decide +kernel) (by decide +kernel) (by decide +kernel) (by decide +kernel) (by decide +kernel) (by decide +kernel) (by decide +kernel)]; simp [Bool.and_assoc]
  · rw [chkX_22, okE_lit (e0 := true) (e1 := true) (e2 := false) (e3 := false) (e4 := false) (e5 := false) (e6 := false) (e7 := false) (by decide +kernel) (by decide +kernel) (by decide +kernel) (by decide +kernel) (by decide +kernel) (by decide +kernel) (by decide +kernel) (by decide +kernel)]; simp [Bool.and_assoc]
  · rw [chkX_23, okE_lit (e0 := true) (e1 := true) (e2 := false) (e3 := false) (e4 := false) (e5 := false) (e6 := false) (e7 := false) (by decide +kernel) (by decide +kernel) (by decide +kernel) (by decide +kernel) (by decide +kernel) (by decide +kernel) (by decide +kernel) (by decide +kernel)]; simp [Bool.and_assoc]
  · rw [chkX_24, okE_lit (e0 := true) (e1 := true) (e2 := false) (e3 := false) (e4 := false) (e5 := false) (e6 := true) (e7 := false) (by decide +kernel) (by decide +kernel) (by decide +kernel) (by decide +kernel) (by decide +kernel) (by decide +kernel) (by decide +kernel) (by decide +kernel)]; simp [Bool.and_assoc]
  · rw [chkX_25, okE_lit (e0 := true) (e1 := true) (e2 := false) (e3 := false) (e4 := false) (e5 := false) (e6 := true) (e7 := false) (by decide +kernel) (by decide +kernel) (by decide +kernel) (by decide +kernel) (by decide +kernel) (by decide +kernel) (by decide +kernel) (by decide +kernel)]; simp [Bool.and_assoc]
  · rw [chkX_26, okE_lit (e0 := true) (e1 := true) (e2 := true) (e3 := false) (e4 := false) (e5 := false) (e6 := false) (e7 := false) (by decide +kernel) (by decide +kernel) (by decide +kernel) (by decide +kernel) (by decide +kernel) (by decide +kernel) (by decide +kernel) (by decide +kernel)]; simp [Bool.and_assoc]
  · rw [chkX_27, okE_lit (e0 := true) (e1 := true) (e2 := true) (e3 := false) (e4 := false) (e5 := false) (e6 := false) (e7 := false) (by decide +kernel) (by decide +kernel) (by decide +kernel) (by decide +kernel) (by decide +kernel) (by decide +kernel) (by decide +kernel) (by decide +kernel)]; simp [Bool.and_assoc]
  · rw [chkX_28, okE_lit (e0 := true) (e1 := false) (e2 := true) (e3 := false) (e4 := false) (e5 := false) (e6 := false) (e7 := false) (by decide +kernel) (by decide +kernel) (by decide +kernel) (by decide +kernel) (by decide +kernel) (by decide +kernel) (by decide +kernel) (by decide +kernel)]; simp [Bool.and_assoc]
  · rw [chkX_29, okE_lit (e0 := true) (e1 := true) (e2 := false) (e3 := false) (e4 := false) (e5 := false) (e6 := false) (e7 := false) (by decide +kernel) (by decide +kernel) (by decide +kernel) (by decide +kernel) (by decide +kernel) (by decide +kernel) (by decide +kernel) (by decide +kernel)]; simp [Bool.and_assoc]
  · rw [chkX_30, okE_lit (e0 := true) (e1 := false) (e2 := false) (e3 := false) (e4 := false) (e5 := true) (e6 := false) (e7 := false) (by decide +kernel) (by decide +kernel) (by decide +kernel) (by decide +kernel) (by decide +kernel) (by decide +kernel) (by decide +kernel) (by decide +kernel)]; simp [Bool.and_assoc]
  · rw [chkX_31, okE_lit (e0 := true) (e1 := false) (e2 := false) (e3 := false) (e4 := false) (e5 := true) (e6 := false) (e7 := false) (by decide +kernel) (by decide +kernel) (by decide +kernel) (by decide +kernel) (by decide +kernel) (by decide +kernel) (by decide +kernel) (by decide +kernel)]; simp [Bool.and_assoc]
  · rw [chkX_32, okE_lit (e0 := true) (e1 := false) (e2 := false) (e3 := false) (e4 := false) (e5 := true) (e6 := false) (e7 := false) (by decide +kernel) (by decide +kernel) (by decide +kernel) (by decide +kernel) (by decide +kernel) (by decide +kernel) (by decide +kernel) (by decide +kernel)]; simp [Bool.and_assoc]
  · rw [chkX_33, okE_lit (e0 := true) (e1 := false) (e2 := false) (e3 := false) (e4 := false) (e5 := false) (e6 := false) (e7 := false) (by decide +kernel) (by decide +kernel) (by decide +kernel) (by decide +kernel) (by decide +kernel) (by decide +kernel) (by decide +kernel) (by decide +kernel)]; simp [Bool.and_assoc]
end Go.Proofs.Ytbcaelhchmoigaa.Rk
namespace Go.Proofs.Ytbcaelhchmoigaa
open Go Go.RowKit Calm SL
theorem rcheck_any (op d s t mb mi ms md imm : Int) (w : World) :
    Calls Try.prog 32 #[.agg #[.int .i64 op, .int .i64 d, .int .i64 s, .int .i64 t, .int .i64 mb, .int .i64 mi, .int .i64 ms, .int .i64 md, .int .i64 imm]] w fun e w' => e = .returned (.int .i64 (errOf (chk op d s t mb mi ms md imm))) ∧ Below w.heap.size w w' := by
  have h := Rk.rcheck_S op d s t mb mi ms md imm
  rw [Rk.okE_chk] at h
  refine (h w (by simp [keys]) (by simp) trivial).mono ?_
  rintro e w' ⟨v, B, rfl, ⟨rfl, rfl⟩, hA⟩
  exact ⟨rfl, (show Keeps [] w w' from hA.keeps).below⟩
end Go.Proofs.Ytbcaelhchmoigaa
