
/- Several texts, one behind the other. -/
import Derived.Test.YtbcaelhchmoigaaMA
import Derived.Test.YtbcaelhchmoigaaMD
set_option linter.unusedVariables false
set_option linter.unusedSimpArgs false
/- keysmithref05 (the document's answer for layer 5): Form, Has, register, small, place. Conditions: numbers are numbers of 64 bits. -/
namespace Go.Proofs.Ytbcaelhchmoigaa
open Go.RowKit Calm

def formB (op : Int) : ByteArray :=
  if op = 1 then ⟨#[68, 83]⟩ else
  if op = 2 then ⟨#[68, 73]⟩ else
  if op = 3 then ⟨#[68, 77]⟩ else
  if op = 4 then ⟨#[83, 77]⟩ else
  if op = 5 then ⟨#[68, 77]⟩ else
  if op = 6 then ⟨#[68, 83]⟩ else
  if op = 7 then ⟨#[68, 83]⟩ else
  if op = 8 then ⟨#[68, 83]⟩ else
  if op = 9 then ⟨#[68, 83]⟩ else
  if op = 10 then ⟨#[68, 83]⟩ else
  if op = 11 then ⟨#[68, 83]⟩ else
  if op = 12 then ⟨#[68, 83]⟩ else
  if op = 13 then ⟨#[68, 83]⟩ else
  if op = 14 then ⟨#[68, 83]⟩ else
  if op = 15 then ⟨#[68, 105]⟩ else
  if op = 16 then ⟨#[68, 105]⟩ else
  if op = 17 then ⟨#[68, 105]⟩ else
  if op = 18 then ⟨#[68, 105]⟩ else
  if op = 19 then ⟨#[68, 83, 84]⟩ else
  if op = 20 then ⟨#[68, 83]⟩ else
  if op = 21 then ⟨#[68, 83]⟩ else
  if op = 22 then ⟨#[68]⟩ else
  if op = 23 then ⟨#[68]⟩ else
  if op = 24 then ⟨#[68, 98]⟩ else
  if op = 25 then ⟨#[68, 98]⟩ else
  if op = 26 then ⟨#[68, 83]⟩ else
  if op = 27 then ⟨#[68, 83]⟩ else
  if op = 28 then ⟨#[83]⟩ else
  if op = 29 then ⟨#[68]⟩ else
  if op = 30 then ⟨#[105]⟩ else
  if op = 31 then ⟨#[105]⟩ else
  if op = 32 then ⟨#[105]⟩ else
  if op = 33 then ⟨#[45]⟩ else
  ⟨#[]⟩
theorem form_1 (w : World) : Calls Try.prog 48 #[.int .i64 1] w fun e w' => e = .returned (.string ⟨#[68, 83]⟩) ∧ w = w' := by
  go_enter Try.func48, Try.ntmps48
  go_wp2
  go_ret
  exact ⟨rfl, rfl⟩
theorem form_2 (w : World) : Calls Try.prog 48 #[.int .i64 2] w fun e w' => e = .returned (.string ⟨#[68, 73]⟩) ∧ w = w' := by
  go_enter Try.func48, Try.ntmps48
  go_wp2
  go_ret
  exact ⟨rfl, rfl⟩
theorem form_3 (w : World) : Calls Try.prog 48 #[.int .i64 3] w fun e w' => e = .returned (.string ⟨#[68, 77]⟩) ∧ w = w' := by
  go_enter Try.func48, Try.ntmps48
  go_wp2
  go_ret
  exact ⟨rfl, rfl⟩
theorem form_4 (w : World) : Calls Try.prog 48 #[.int .i64 4] w fun e w' => e = .returned (.string ⟨#[83, 77]⟩) ∧ w = w' := by
  go_enter Try.func48, Try.ntmps48
  go_wp2
  go_ret
  exact ⟨rfl, rfl⟩
theorem form_5 (w : World) : Calls Try.prog 48 #[.int .i64 5] w fun e w' => e = .returned (.string ⟨#[68, 77]⟩) ∧ w = w' := by
  go_enter Try.func48, Try.ntmps48
  go_wp2
  go_ret
  exact ⟨rfl, rfl⟩
theorem form_6 (w : World) : Calls Try.prog 48 #[.int .i64 6] w fun e w' => e = .returned (.string ⟨#[68, 83]⟩) ∧ w = w' := by
  go_enter Try.func48, Try.ntmps48
  go_wp2
  go_ret
  exact ⟨rfl, rfl⟩
theorem form_7 (w : World) : Calls Try.prog 48 #[.int .i64 7] w fun e w' => e = .returned (.string ⟨#[68, 83]⟩) ∧ w = w' := by
  go_enter Try.func48, Try.ntmps48
  go_wp2
  go_ret
  exact ⟨rfl, rfl⟩
theorem form_8 (w : World) : Calls Try.prog 48 #[.int .i64 8] w fun e w' => e = .returned (.string ⟨#[68, 83]⟩) ∧ w = w' := by
  go_enter Try.func48, Try.ntmps48
  go_wp2
  go_ret
  exact ⟨rfl, rfl⟩
theorem form_9 (w : World) : Calls Try.prog 48 #[.int .i64 9] w fun e w' => e = .returned (.string ⟨#[68, 83]⟩) ∧ w = w' := by
  go_enter Try.func48, Try.ntmps48
  go_wp2
  go_ret
  exact ⟨rfl, rfl⟩
theorem form_10 (w : World) : Calls Try.prog 48 #[.int .i64 10] w fun e w' => e = .returned (.string ⟨#[68, 83]⟩) ∧ w = w' := by
  go_enter Try.func48, Try.ntmps48
  go_wp2
  go_ret
  exact ⟨rfl, rfl⟩
theorem form_11 (w : World) : Calls Try.prog 48 #[.int .i64 11] w fun e w' => e = .returned (.string ⟨#[68, 83]⟩) ∧ w = w' := by
  go_enter Try.func48, Try.ntmps48
  go_wp2
  go_ret
  exact ⟨rfl, rfl⟩
theorem form_12 (w : World) : Calls Try.prog 48 #[.int .i64 12] w fun e w' => e = .returned (.string ⟨#[68, 83]⟩) ∧ w = w' := by
  go_enter Try.func48, Try.ntmps48
  go_wp2
  go_ret
  exact ⟨rfl, rfl⟩
theorem form_13 (w : World) : Calls Try.prog 48 #[.int .i64 13] w fun e w' => e = .returned (.string ⟨#[68, 83]⟩) ∧ w = w' := by
  go_enter Try.func48, Try.ntmps48
  go_wp2
  go_ret
  exact ⟨rfl, rfl⟩
theorem form_14 (w : World) : Calls Try.prog 48 #[.int .i64 14] w fun e w' => e = .returned (.string ⟨#[68, 83]⟩) ∧ w = w' := by
  go_enter Try.func48, Try.ntmps48
  go_wp2
  go_ret
  exact ⟨rfl, rfl⟩
theorem form_15 (w : World) : Calls Try.prog 48 #[.int .i64 15] w fun e w' => e = .returned (.string ⟨#[68, 105]⟩) ∧ w = w' := by
  go_enter Try.func48, Try.ntmps48
  go_wp2
  go_ret
  exact ⟨rfl, rfl⟩
theorem form_16 (w : World) : Calls Try.prog 48 #[.int .i64 16] w fun e w' => e = .returned (.string ⟨#[68, 105]⟩) ∧ w = w' := by
  go_enter Try.func48, Try.ntmps48
  go_wp2
  go_ret
  exact ⟨rfl, rfl⟩
theorem form_17 (w : World) : Calls Try.prog 48 #[.int .i64 17] w fun e w' => e = .returned (.string ⟨#[68, 105]⟩) ∧ w = w' := by
  go_enter Try.func48, Try.ntmps48
  go_wp2
  go_ret
  exact ⟨rfl, rfl⟩
theorem form_18 (w : World) : Calls Try.prog 48 #[.int .i64 18] w fun e w' => e = .returned (.string ⟨#[68, 105]⟩) ∧ w = w' := by
  go_enter Try.func48, Try.ntmps48
  go_wp2
  go_ret
  exact ⟨rfl, rfl⟩
theorem form_19 (w : World) : Calls Try.prog 48 #[.int .i64 19] w fun e w' => e = .returned (.string ⟨#[68, 83, 84]⟩) ∧ w = w' := by
  go_enter Try.func48, Try.ntmps48
  go_wp2
  go_ret
  exact ⟨rfl, rfl⟩
theorem form_20 (w : World) : Calls Try.prog 48 #[.int .i64 20] w fun e w' => e = .returned (.string ⟨#[68, 83]⟩) ∧ w = w' := by
  go_enter Try.func48, Try.ntmps48
  go_wp2
  go_ret
  exact ⟨rfl, rfl⟩
theorem form_21 (w : World) : Calls Try.prog 48 #[.int .i64 21] w fun e w' => e = .returned (.string ⟨#[68, 83]⟩) ∧ w = w' := by
  go_enter Try.func48, Try.ntmps48
  go_wp2
  go_ret
  exact ⟨rfl, rfl⟩
theorem form_22 (w : World) : Calls Try.prog 48 #[.int .i64 22] w fun e w' => e = .returned (.string ⟨#[68]⟩) ∧ w = w' := by
  go_enter Try.func48, Try.ntmps48
  go_wp2
  go_ret
  exact ⟨rfl, rfl⟩
theorem form_23 (w : World) : Calls Try.prog 48 #[.int .i64 23] w fun e w' => e = .returned (.string ⟨#[68]⟩) ∧ w = w' := by
  go_enter Try.func48, Try.ntmps48
  go_wp2
  go_ret
  exact ⟨rfl, rfl⟩
theorem form_24 (w : World) : Calls Try.prog 48 #[.int .i64 24] w fun e w' => e = .returned (.string ⟨#[68, 98]⟩) ∧ w = w' := by
  go_enter Try.func48, Try.ntmps48
  go_wp2
  go_ret
  exact ⟨rfl, rfl⟩
theorem form_25 (w : World) : Calls Try.prog 48 #[.int .i64 25] w fun e w' => e = .returned (.string ⟨#[68, 98]⟩) ∧ w = w' := by
  go_enter Try.func48, Try.ntmps48
  go_wp2
  go_ret
  exact ⟨rfl, rfl⟩
theorem form_26 (w : World) : Calls Try.prog 48 #[.int .i64 26] w fun e w' => e = .returned (.string ⟨#[68, 83]⟩) ∧ w = w' := by
  go_enter Try.func48, Try.ntmps48
  go_wp2
  go_ret
  exact ⟨rfl, rfl⟩
theorem form_27 (w : World) : Calls Try.prog 48 #[.int .i64 27] w fun e w' => e = .returned (.string ⟨#[68, 83]⟩) ∧ w = w' := by
  go_enter Try.func48, Try.ntmps48
  go_wp2
  go_ret
  exact ⟨rfl, rfl⟩
theorem form_28 (w : World) : Calls Try.prog 48 #[.int .i64 28] w fun e w' => e = .returned (.string ⟨#[83]⟩) ∧ w = w' := by
  go_enter Try.func48, Try.ntmps48
  go_wp2
  go_ret
  exact ⟨rfl, rfl⟩
theorem form_29 (w : World) : Calls Try.prog 48 #[.int .i64 29] w fun e w' => e = .returned (.string ⟨#[68]⟩) ∧ w = w' := by
  go_enter Try.func48, Try.ntmps48
  go_wp2
  go_ret
  exact ⟨rfl, rfl⟩
theorem form_30 (w : World) : Calls Try.prog 48 #[.int .i64 30] w fun e w' => e = .returned (.string ⟨#[105]⟩) ∧ w = w' := by
  go_enter Try.func48, Try.ntmps48
  go_wp2
  go_ret
  exact ⟨rfl, rfl⟩
theorem form_31 (w : World) : Calls Try.prog 48 #[.int .i64 31] w fun e w' => e = .returned (.string ⟨#[105]⟩) ∧ w = w' := by
  go_enter Try.func48, Try.ntmps48
  go_wp2
  go_ret
  exact ⟨rfl, rfl⟩
theorem form_32 (w : World) : Calls Try.prog 48 #[.int .i64 32] w fun e w' => e = .returned (.string ⟨#[105]⟩) ∧ w = w' := by
  go_enter Try.func48, Try.ntmps48
  go_wp2
  go_ret
  exact ⟨rfl, rfl⟩
theorem form_33 (w : World) : Calls Try.prog 48 #[.int .i64 33] w fun e w' => e = .returned (.string ⟨#[45]⟩) ∧ w = w' := by
  go_enter Try.func48, Try.ntmps48
  go_wp2
  go_ret
  exact ⟨rfl, rfl⟩
theorem form_lo (op : Int) (w : World) (h : op ≤ 0) : Calls Try.prog 48 #[.int .i64 op] w fun e w' => e = .returned (.string ⟨#[]⟩) ∧ w = w' := by
  have e1 : (op == 1) = false := by simp; omega
  have e20 : (op == 20) = false := by simp; omega
  have e21 : (op == 21) = false := by simp; omega
  have e26 : (op == 26) = false := by simp; omega
  have e27 : (op == 27) = false := by simp; omega
  have e2 : (op == 2) = false := by simp; omega
  have e3 : (op == 3) = false := by simp; omega
  have e5 : (op == 5) = false := by simp; omega
  have e4 : (op == 4) = false := by simp; omega
  have e19 : (op == 19) = false := by simp; omega
  have e22 : (op == 22) = false := by simp; omega
  have e23 : (op == 23) = false := by simp; omega
  have e29 : (op == 29) = false := by simp; omega
  have e24 : (op == 24) = false := by simp; omega
  have e25 : (op == 25) = false := by simp; omega
  have e28 : (op == 28) = false := by simp; omega
  have e30 : (op == 30) = false := by simp; omega
  have e31 : (op == 31) = false := by simp; omega
  have e32 : (op == 32) = false := by simp; omega
  have e33 : (op == 33) = false := by simp; omega
  have g0 : decide (6 ≤ op) = false := by simp; omega
  have g1 : decide (15 ≤ op) = false := by simp; omega
  go_enter Try.func48, Try.ntmps48
  go_wp2
  go_ret
  exact ⟨rfl, rfl⟩
theorem form_hi (op : Int) (w : World) (h : 34 ≤ op) : Calls Try.prog 48 #[.int .i64 op] w fun e w' => e = .returned (.string ⟨#[]⟩) ∧ w = w' := by
  have e1 : (op == 1) = false := by simp; omega
  have e20 : (op == 20) = false := by simp; omega
  have e21 : (op == 21) = false := by simp; omega
  have e26 : (op == 26) = false := by simp; omega
  have e27 : (op == 27) = false := by simp; omega
  have e2 : (op == 2) = false := by simp; omega
  have e3 : (op == 3) = false := by simp; omega
  have e5 : (op == 5) = false := by simp; omega
  have e4 : (op == 4) = false := by simp; omega
  have e19 : (op == 19) = false := by simp; omega
  have e22 : (op == 22) = false := by simp; omega
  have e23 : (op == 23) = false := by simp; omega
  have e29 : (op == 29) = false := by simp; omega
  have e24 : (op == 24) = false := by simp; omega
  have e25 : (op == 25) = false := by simp; omega
  have e28 : (op == 28) = false := by simp; omega
  have e30 : (op == 30) = false := by simp; omega
  have e31 : (op == 31) = false := by simp; omega
  have e32 : (op == 32) = false := by simp; omega
  have e33 : (op == 33) = false := by simp; omega
  have g0 : decide (6 ≤ op) = true := by simp; omega
  have g1 : decide (op ≤ 14) = false := by simp; omega
  have g2 : decide (15 ≤ op) = true := by simp; omega
  have g3 : decide (op ≤ 18) = false := by simp; omega
  go_enter Try.func48, Try.ntmps48
  go_wp2
  go_ret
  exact ⟨rfl, rfl⟩
theorem form_any (op : Int) (w : World) : Calls Try.prog 48 #[.int .i64 op] w fun e w' => e = .returned (.string (formB op)) ∧ w = w' := by
  by_cases hl : op ≤ 0
  · have : formB op = ⟨#[]⟩ := by unfold formB; repeat rw [if_neg (by omega)]
    rw [this]; exact form_lo op w hl
  by_cases hh : 34 ≤ op
  · have : formB op = ⟨#[]⟩ := by unfold formB; repeat rw [if_neg (by omega)]
    rw [this]; exact form_hi op w hh
  have : op = 1 ∨ op = 2 ∨ op = 3 ∨ op = 4 ∨ op = 5 ∨ op = 6 ∨ op = 7 ∨ op = 8 ∨ op = 9 ∨ op = 10 ∨ op = 11 ∨ op = 12 ∨ op = 13 ∨ op = 14 ∨ op = 15 ∨ op = 16 ∨ op = 17 ∨ op = 18 ∨ op = 19 ∨ op = 20 ∨ op = 21 ∨ op = 22 ∨ op = 23 ∨ op = 24 ∨ op = 25 ∨ op = 26 ∨ op = 27 ∨ op = 28 ∨ op = 29 ∨ op = 30 ∨ op = 31 ∨ op = 32 ∨ op = 33 := by omega
  rcases this with rfl | rfl | rfl | rfl | rfl | rfl | rfl | rfl | rfl | rfl | rfl | rfl | rfl | rfl | rfl | rfl | rfl | rfl | rfl | rfl | rfl | rfl | rfl | rfl | rfl | rfl | rfl | rfl | rfl | rfl | rfl | rfl | rfl
  · exact form_1 w
  · exact form_2 w
  · exact form_3 w
  · exact form_4 w
  · exact form_5 w
  · exact form_6 w
  · exact form_7 w
  · exact form_8 w
  · exact form_9 w
  · exact form_10 w
  · exact form_11 w
  · exact form_12 w
  · exact form_13 w
  · exact form_14 w
  · exact form_15 w
  · exact form_16 w
  · exact form_17 w
  · exact form_18 w
  · exact form_19 w
  · exact form_20 w
  · exact form_21 w
  · exact form_22 w
  · exact form_23 w
  · exact form_24 w
  · exact form_25 w
  · exact form_26 w
  · exact form_27 w
  · exact form_28 w
  · exact form_29 w
  · exact form_30 w
  · exact form_31 w
  · exact form_32 w
  · exact form_33 w
theorem rregister_any (r : Int) (w : World) :
    Calls Try.prog 50 #[.int .i64 r] w fun e w' => e = .returned (.bool (reg r)) ∧ w = w' := by
  by_cases h : 0 ≤ r
  · have h2 : Hid (decide (r ≤ 15) = reg r) := by show _ = _; simp [reg, h]
    go_enter Try.func50, Try.ntmps50
    go_wp2
    go_ret
    exact ⟨ret_bool (by first | exact h2.out | (rw [← h2.out]; simp)), rfl⟩
  · have h2 : Hid (false = reg r) := by show _ = _; simp [reg, h]
    have h3 : decide (0 ≤ r) = false := by simpa using h
    go_enter Try.func50, Try.ntmps50
    go_wp2
    go_ret
    exact ⟨ret_bool h2.out, rfl⟩
theorem rsmall_any (n : Int) (w : World) :
    Calls Try.prog 52 #[.int .i64 n] w fun e w' => e = .returned (.bool (smallB n)) ∧ w = w' := by
  by_cases h : -2147483648 ≤ n
  · have h2 : Hid (decide (n < 2147483648) = smallB n) := by show _ = _; simp only [smallB, h, decide_true, Bool.true_and, decide_eq_decide]; omega
    go_enter Try.func52, Try.ntmps52
    go_wp2
    go_ret
    exact ⟨ret_bool (by first | exact h2.out | (rw [← h2.out]; simp)), rfl⟩
  · have h2 : Hid (false = smallB n) := by show _ = _; simp [smallB, h]
    have h3 : decide (-2147483648 ≤ n) = false := by simpa using h
    go_enter Try.func52, Try.ntmps52
    go_wp2
    go_ret
    exact ⟨ret_bool h2.out, rfl⟩
end Go.Proofs.Ytbcaelhchmoigaa

/- keysmithref05.Has: is a letter among a word? Condition: the word has at most 1000 letters. -/
namespace Go.Proofs.Ytbcaelhchmoigaa
open Go.RowKit Calm
def hasC (s : ByteArray) (c : Int) : Bool := (List.range s.size).any fun i => ((s.get! i).toNat : Int) == c
theorem hasC_true {s : ByteArray} {c : Int} {k : Nat} (hk : k < s.size) (he : (((s.get! k).toNat : Int) == c) = true) : hasC s c = true := by
  unfold hasC; rw [List.any_eq_true]; exact ⟨k, List.mem_range.2 hk, he⟩
theorem hasC_false {s : ByteArray} {c : Int} (h : ∀ j, j < s.size → (((s.get! j).toNat : Int) == c) = false) : hasC s c = false := by
  unfold hasC; rw [List.any_eq_false]; intro j hj; rw [h j (List.mem_range.1 hj)]; decide
theorem rhas_any (s : ByteArray) (c : Int) (w : World) (hl : s.size ≤ 1000) :
    Calls Try.prog 49 #[.string s, .int .u8 c] w fun e w' => e = .returned (.bool (hasC s c)) ∧ w = w' := by
  go_enter Try.func49, Try.ntmps49
  go_wp2
  go_loop [5] (fun i => ∃ k : Nat, k ≤ s.size ∧ i = .int .i64 k ∧ Hid (∀ j, j < k → (((s.get! j).toNat : Int) == c) = false)) (fun i => s.size - (intOf i).toNat)
  case atStart => exact ⟨0, by omega, rfl, fun j h => absurd h (by omega)⟩
  case round =>
    obtain ⟨k, hk, rfl, hn⟩ := hrel
    by_cases hlt : k < s.size
    · have e : s.get! k = s[k] := by
        show s.data[k]! = s.data[k]
        exact getElem!_pos _ _ _
      go_wp2
      · go_ret
        rename_i h1 _
        exact ⟨ret_bool (hasC_true hlt (by rw [e]; exact h1)).symm, rfl⟩
      · refine ⟨⟨k + 1, by omega, rfl, ?_⟩, by simp [intOf]; omega⟩
        rename_i h1
        intro j hj
        by_cases hjk : j = k
        · subst hjk; rw [e]; exact h1
        · exact hn.out j (by omega)
    · have hn2 : hasC s c = false := hasC_false fun j hj => hn.out j (by omega)
      have hge : ¬ ((k : Int) < (s.size : Int)) := by omega
      have hn2 := hidd hn2
      go_wp2
      go_ret
      exact ⟨by first | rfl | exact ret_bool hn2.out.symm, rfl⟩
end Go.Proofs.Ytbcaelhchmoigaa

/- keysmithref05 (the document's answer for layer 5): place, Check. Conditions: numbers are numbers of 64 bits. -/
namespace Go.Proofs.Ytbcaelhchmoigaa
open Go.RowKit Calm

theorem rplace_a (mb mi ms md : Int) (w : World) (h0 : reg mb = false) :
    Calls Try.prog 51 #[.agg #[.int .i64 mb, .int .i64 mi, .int .i64 ms, .int .i64 md]] w fun e w' => e = .returned (.bool false) ∧ Below w.heap.size w w' := by
  have B1 : ∀ o, Below w.heap.size w (w.alloc o) := fun o => (Below.refl _ _).alloc (Nat.le_refl _) o
  go_enter Try.func51, Try.ntmps51
  go_wp2_with (first | (go_at_call 50; refine (rregister_any _ _).mono ?_; rintro e w' ⟨rfl, rfl⟩) | (go_at_call 52; refine (rsmall_any _ _).mono ?_; rintro e w' ⟨rfl, rfl⟩))
  go_ret
  exact ⟨rfl, B1 _⟩
theorem rplace_b (mb mi ms md : Int) (w : World) (h0 : reg mb = true) (h1 : smallB md = false) :
    Calls Try.prog 51 #[.agg #[.int .i64 mb, .int .i64 mi, .int .i64 ms, .int .i64 md]] w fun e w' => e = .returned (.bool false) ∧ Below w.heap.size w w' := by
  have B1 : ∀ o, Below w.heap.size w (w.alloc o) := fun o => (Below.refl _ _).alloc (Nat.le_refl _) o
  go_enter Try.func51, Try.ntmps51
  go_wp2_with (first | (go_at_call 50; refine (rregister_any _ _).mono ?_; rintro e w' ⟨rfl, rfl⟩) | (go_at_call 52; refine (rsmall_any _ _).mono ?_; rintro e w' ⟨rfl, rfl⟩))
  go_ret
  exact ⟨rfl, B1 _⟩
theorem rplace_c (mb mi ms md : Int) (w : World) (h0 : reg mb = true) (h1 : smallB md = true) (h2 : (mi == -1) = true) (h3 : (ms == 1) = true) :
    Calls Try.prog 51 #[.agg #[.int .i64 mb, .int .i64 mi, .int .i64 ms, .int .i64 md]] w fun e w' => e = .returned (.bool true) ∧ Below w.heap.size w w' := by
  have B1 : ∀ o, Below w.heap.size w (w.alloc o) := fun o => (Below.refl _ _).alloc (Nat.le_refl _) o
  go_enter Try.func51, Try.ntmps51
  go_wp2_with (first | (go_at_call 50; refine (rregister_any _ _).mono ?_; rintro e w' ⟨rfl, rfl⟩) | (go_at_call 52; refine (rsmall_any _ _).mono ?_; rintro e w' ⟨rfl, rfl⟩))
  go_ret
  exact ⟨rfl, B1 _⟩
theorem rplace_d (mb mi ms md : Int) (w : World) (h0 : reg mb = true) (h1 : smallB md = true) (h2 : (mi == -1) = true) (h3 : (ms == 1) = false) :
    Calls Try.prog 51 #[.agg #[.int .i64 mb, .int .i64 mi, .int .i64 ms, .int .i64 md]] w fun e w' => e = .returned (.bool false) ∧ Below w.heap.size w w' := by
  have B1 : ∀ o, Below w.heap.size w (w.alloc o) := fun o => (Below.refl _ _).alloc (Nat.le_refl _) o
  go_enter Try.func51, Try.ntmps51
  go_wp2_with (first | (go_at_call 50; refine (rregister_any _ _).mono ?_; rintro e w' ⟨rfl, rfl⟩) | (go_at_call 52; refine (rsmall_any _ _).mono ?_; rintro e w' ⟨rfl, rfl⟩))
  go_ret
  exact ⟨rfl, B1 _⟩
theorem rplace_e (mb mi ms md : Int) (w : World) (h0 : reg mb = true) (h1 : smallB md = true) (h2 : (mi == -1) = false) (h3 : reg mi = false) :
    Calls Try.prog 51 #[.agg #[.int .i64 mb, .int .i64 mi, .int .i64 ms, .int .i64 md]] w fun e w' => e = .returned (.bool false) ∧ Below w.heap.size w w' := by
  have B1 : ∀ o, Below w.heap.size w (w.alloc o) := fun o => (Below.refl _ _).alloc (Nat.le_refl _) o
  go_enter Try.func51, Try.ntmps51
  go_wp2_with (first | (go_at_call 50; refine (rregister_any _ _).mono ?_; rintro e w' ⟨rfl, rfl⟩) | (go_at_call 52; refine (rsmall_any _ _).mono ?_; rintro e w' ⟨rfl, rfl⟩))
  go_ret
  exact ⟨rfl, B1 _⟩
theorem rplace_f (mb mi ms md : Int) (w : World) (h0 : reg mb = true) (h1 : smallB md = true) (h2 : (mi == -1) = false) (h3 : reg mi = true) (h4 : (mi != 4) = false) :
    Calls Try.prog 51 #[.agg #[.int .i64 mb, .int .i64 mi, .int .i64 ms, .int .i64 md]] w fun e w' => e = .returned (.bool false) ∧ Below w.heap.size w w' := by
  have B1 : ∀ o, Below w.heap.size w (w.alloc o) := fun o => (Below.refl _ _).alloc (Nat.le_refl _) o
  go_enter Try.func51, Try.ntmps51
  go_wp2_with (first | (go_at_call 50; refine (rregister_any _ _).mono ?_; rintro e w' ⟨rfl, rfl⟩) | (go_at_call 52; refine (rsmall_any _ _).mono ?_; rintro e w' ⟨rfl, rfl⟩))
  go_ret
  exact ⟨rfl, B1 _⟩
theorem rplace_g1 (mb mi ms md : Int) (w : World) (h0 : reg mb = true) (h1 : smallB md = true) (h2 : (mi == -1) = false) (h3 : reg mi = true) (h4 : (mi != 4) = true) (h5 : (ms == 1) = true) :
    Calls Try.prog 51 #[.agg #[.int .i64 mb, .int .i64 mi, .int .i64 ms, .int .i64 md]] w fun e w' => e = .returned (.bool true) ∧ Below w.heap.size w w' := by
  have B1 : ∀ o, Below w.heap.size w (w.alloc o) := fun o => (Below.refl _ _).alloc (Nat.le_refl _) o
  go_enter Try.func51, Try.ntmps51
  go_wp2_with (first | (go_at_call 50; refine (rregister_any _ _).mono ?_; rintro e w' ⟨rfl, rfl⟩) | (go_at_call 52; refine (rsmall_any _ _).mono ?_; rintro e w' ⟨rfl, rfl⟩))
  go_ret
  exact ⟨rfl, B1 _⟩
theorem rplace_g2 (mb mi ms md : Int) (w : World) (h0 : reg mb = true) (h1 : smallB md = true) (h2 : (mi == -1) = false) (h3 : reg mi = true) (h4 : (mi != 4) = true) (h5 : (ms == 1) = false) (h6 : (ms == 2) = true) :
    Calls Try.prog 51 #[.agg #[.int .i64 mb, .int .i64 mi, .int .i64 ms, .int .i64 md]] w fun e w' => e = .returned (.bool true) ∧ Below w.heap.size w w' := by
  have B1 : ∀ o, Below w.heap.size w (w.alloc o) := fun o => (Below.refl _ _).alloc (Nat.le_refl _) o
  go_enter Try.func51, Try.ntmps51
  go_wp2_with (first | (go_at_call 50; refine (rregister_any _ _).mono ?_; rintro e w' ⟨rfl, rfl⟩) | (go_at_call 52; refine (rsmall_any _ _).mono ?_; rintro e w' ⟨rfl, rfl⟩))
  go_ret
  exact ⟨rfl, B1 _⟩
theorem rplace_g4 (mb mi ms md : Int) (w : World) (h0 : reg mb = true) (h1 : smallB md = true) (h2 : (mi == -1) = false) (h3 : reg mi = true) (h4 : (mi != 4) = true) (h5 : (ms == 1) = false) (h6 : (ms == 2) = false) (h7 : (ms == 4) = true) :
    Calls Try.prog 51 #[.agg #[.int .i64 mb, .int .i64 mi, .int .i64 ms, .int .i64 md]] w fun e w' => e = .returned (.bool true) ∧ Below w.heap.size w w' := by
  have B1 : ∀ o, Below w.heap.size w (w.alloc o) := fun o => (Below.refl _ _).alloc (Nat.le_refl _) o
  go_enter Try.func51, Try.ntmps51
  go_wp2_with (first | (go_at_call 50; refine (rregister_any _ _).mono ?_; rintro e w' ⟨rfl, rfl⟩) | (go_at_call 52; refine (rsmall_any _ _).mono ?_; rintro e w' ⟨rfl, rfl⟩))
  go_ret
  exact ⟨rfl, B1 _⟩
theorem rplace_g8 (mb mi ms md : Int) (w : World) (h0 : reg mb = true) (h1 : smallB md = true) (h2 : (mi == -1) = false) (h3 : reg mi = true) (h4 : (mi != 4) = true) (h5 : (ms == 1) = false) (h6 : (ms == 2) = false) (h7 : (ms == 4) = false) (h8 : (ms == 8) = true) :
    Calls Try.prog 51 #[.agg #[.int .i64 mb, .int .i64 mi, .int .i64 ms, .int .i64 md]] w fun e w' => e = .returned (.bool true) ∧ Below w.heap.size w w' := by
  have B1 : ∀ o, Below w.heap.size w (w.alloc o) := fun o => (Below.refl _ _).alloc (Nat.le_refl _) o
  go_enter Try.func51, Try.ntmps51
  go_wp2_with (first | (go_at_call 50; refine (rregister_any _ _).mono ?_; rintro e w' ⟨rfl, rfl⟩) | (go_at_call 52; refine (rsmall_any _ _).mono ?_; rintro e w' ⟨rfl, rfl⟩))
  go_ret
  exact ⟨rfl, B1 _⟩
theorem rplace_h (mb mi ms md : Int) (w : World) (h0 : reg mb = true) (h1 : smallB md = true) (h2 : (mi == -1) = false) (h3 : reg mi = true) (h4 : (mi != 4) = true) (h5 : (ms == 1) = false) (h6 : (ms == 2) = false) (h7 : (ms == 4) = false) (h8 : (ms == 8) = false) :
    Calls Try.prog 51 #[.agg #[.int .i64 mb, .int .i64 mi, .int .i64 ms, .int .i64 md]] w fun e w' => e = .returned (.bool false) ∧ Below w.heap.size w w' := by
  have B1 : ∀ o, Below w.heap.size w (w.alloc o) := fun o => (Below.refl _ _).alloc (Nat.le_refl _) o
  go_enter Try.func51, Try.ntmps51
  go_wp2_with (first | (go_at_call 50; refine (rregister_any _ _).mono ?_; rintro e w' ⟨rfl, rfl⟩) | (go_at_call 52; refine (rsmall_any _ _).mono ?_; rintro e w' ⟨rfl, rfl⟩))
  go_ret
  exact ⟨rfl, B1 _⟩
theorem rplace_any (mb mi ms md : Int) (w : World) :
    Calls Try.prog 51 #[.agg #[.int .i64 mb, .int .i64 mi, .int .i64 ms, .int .i64 md]] w fun e w' => e = .returned (.bool (plc mb mi ms md)) ∧ Below w.heap.size w w' := by
  have hp : plc mb mi ms md = (reg mb && (smallB md && (if (mi == -1) = true then (ms == 1) else reg mi && (mi != 4 && ((ms == 1) || ((ms == 2) || ((ms == 4) || (ms == 8)))))))) := by
    unfold plc; simp only [beq_iff_eq, Bool.and_assoc]; congr 2; split <;> (simp; try rfl)
  rw [hp]
  cases h0 : reg mb
  · simpa using rplace_a mb mi ms md w h0
  cases h1 : smallB md
  · simpa using rplace_b mb mi ms md w h0 h1
  cases h2 : (mi == -1)
  · rw [if_neg (by decide)]
    cases h3 : reg mi
    · simpa using rplace_e mb mi ms md w h0 h1 h2 h3
    cases h4 : (mi != 4)
    · simpa using rplace_f mb mi ms md w h0 h1 h2 h3 h4
    cases k1 : (ms == 1)
    · cases k2 : (ms == 2)
      · cases k4 : (ms == 4)
        · cases k8 : (ms == 8)
          · simpa using rplace_h mb mi ms md w h0 h1 h2 h3 h4 k1 k2 k4 k8
          · simpa using rplace_g8 mb mi ms md w h0 h1 h2 h3 h4 k1 k2 k4 k8
        · simpa using rplace_g4 mb mi ms md w h0 h1 h2 h3 h4 k1 k2 k4
      · simpa using rplace_g2 mb mi ms md w h0 h1 h2 h3 h4 k1 k2
    · simpa using rplace_g1 mb mi ms md w h0 h1 h2 h3 h4 k1
  · rw [if_pos rfl]
    cases k1 : (ms == 1)
    · simpa using rplace_d mb mi ms md w h0 h1 h2 k1
    · simpa using rplace_c mb mi ms md w h0 h1 h2 k1
theorem mem_eql (mb mi ms md : Int) (w : World) : (binOp .eql 33 (.agg #[.int .i64 mb, .int .i64 mi, .int .i64 ms, .int .i64 md]) (.agg #[.int .i64 0, .int .i64 0, .int .i64 0, .int .i64 0])).run Try.prog w = .ok (.bool (memZ mb mi ms md)) w := by
  unfold memZ
  by_cases h1 : mb = 0
  · by_cases h2 : mi = 0
    · by_cases h3 : ms = 0
      · by_cases h4 : md = 0
        · subst h1 h2 h3 h4; kernel_rfl
        · subst h1 h2 h3; have h4' : (md == 0) = false := by simpa using h4
          rw [h4']; go_simp
      · subst h1 h2; have h3' : (ms == 0) = false := by simpa using h3
        rw [h3']; go_simp
    · subst h1; have h2' : (mi == 0) = false := by simpa using h2
      rw [h2']; go_simp
  · have h1' : (mb == 0) = false := by simpa using h1
    rw [h1']; go_simp
end Go.Proofs.Ytbcaelhchmoigaa

/- keysmithref05 (the document's answer for layer 5): Check, its cases A. Conditions: none. -/
namespace Go.Proofs.Ytbcaelhchmoigaa
open Go.RowKit Calm

set_option maxRecDepth 100000 in
set_option maxHeartbeats 2000000 in
theorem rcheck_DS_0 (op d s t mb mi ms md imm : Int) (w : World) (hf : formB op = ⟨#[68, 83]⟩) (h0 : reg d = false) :
    Calls Try.prog 32 #[.agg #[.int .i64 op, .int .i64 d, .int .i64 s, .int .i64 t, .int .i64 mb, .int .i64 mi, .int .i64 ms, .int .i64 md, .int .i64 imm]] w fun e w' => e = .returned (.int .i64 2) ∧ Below w.heap.size w w' := by
  have B1 : ∀ o, Below w.heap.size w (w.alloc o) := fun o => (Below.refl _ _).alloc (Nat.le_refl _) o
  have c68 : hasC ⟨#[68, 83]⟩ 68 = true := by decide +kernel
  have c83 : hasC ⟨#[68, 83]⟩ 83 = true := by decide +kernel
  have c84 : hasC ⟨#[68, 83]⟩ 84 = false := by decide +kernel
  have c77 : hasC ⟨#[68, 83]⟩ 77 = false := by decide +kernel
  have c105 : hasC ⟨#[68, 83]⟩ 105 = false := by decide +kernel
  have c98 : hasC ⟨#[68, 83]⟩ 98 = false := by decide +kernel
  have c73 : hasC ⟨#[68, 83]⟩ 73 = false := by decide +kernel
  go_enter Try.func32, Try.ntmps32
  go_wp2_with (first | (go_at_call 48; refine (form_any _ _).mono ?_; rw [hf]; rintro e w' ⟨rfl, rfl⟩) | (go_at_call 49; refine (rhas_any _ _ _ (by decide)).mono ?_; (first | rw [c68] | rw [c83] | rw [c84] | rw [c77] | rw [c105] | rw [c98] | rw [c73]); rintro e w' ⟨rfl, rfl⟩) | (go_at_call 50; refine (rregister_any _ _).mono ?_; (first | rw [h0]); rintro e w' ⟨rfl, rfl⟩))
  go_ret
  first | exact ⟨rfl, B1 _⟩ | exact ⟨rfl, (B1 _).trans (hb1.mono (by simp))⟩
set_option maxRecDepth 100000 in
set_option maxHeartbeats 2000000 in
theorem rcheck_DS_1 (op d s t mb mi ms md imm : Int) (w : World) (hf : formB op = ⟨#[68, 83]⟩) (h0 : reg d = true) (h1 : reg s = false) :
    Calls Try.prog 32 #[.agg #[.int .i64 op, .int .i64 d, .int .i64 s, .int .i64 t, .int .i64 mb, .int .i64 mi, .int .i64 ms, .int .i64 md, .int .i64 imm]] w fun e w' => e = .returned (.int .i64 2) ∧ Below w.heap.size w w' := by
  have B1 : ∀ o, Below w.heap.size w (w.alloc o) := fun o => (Below.refl _ _).alloc (Nat.le_refl _) o
  have c68 : hasC ⟨#[68, 83]⟩ 68 = true := by decide +kernel
  have c83 : hasC ⟨#[68, 83]⟩ 83 = true := by decide +kernel
  have c84 : hasC ⟨#[68, 83]⟩ 84 = false := by decide +kernel
  have c77 : hasC ⟨#[68, 83]⟩ 77 = false := by decide +kernel
  have c105 : hasC ⟨#[68, 83]⟩ 105 = false := by decide +kernel
  have c98 : hasC ⟨#[68, 83]⟩ 98 = false := by decide +kernel
  have c73 : hasC ⟨#[68, 83]⟩ 73 = false := by decide +kernel
  go_enter Try.func32, Try.ntmps32
  go_wp2_with (first | (go_at_call 48; refine (form_any _ _).mono ?_; rw [hf]; rintro e w' ⟨rfl, rfl⟩) | (go_at_call 49; refine (rhas_any _ _ _ (by decide)).mono ?_; (first | rw [c68] | rw [c83] | rw [c84] | rw [c77] | rw [c105] | rw [c98] | rw [c73]); rintro e w' ⟨rfl, rfl⟩) | (go_at_call 50; refine (rregister_any _ _).mono ?_; (first | rw [h0] | rw [h1]); rintro e w' ⟨rfl, rfl⟩))
  go_ret
  first | exact ⟨rfl, B1 _⟩ | exact ⟨rfl, (B1 _).trans (hb1.mono (by simp))⟩
set_option maxRecDepth 100000 in
set_option maxHeartbeats 2000000 in
theorem rcheck_DS_2 (op d s t mb mi ms md imm : Int) (w : World) (hf : formB op = ⟨#[68, 83]⟩) (h0 : reg d = true) (h1 : reg s = true) (h2 : (t == 0) = false) :
    Calls Try.prog 32 #[.agg #[.int .i64 op, .int .i64 d, .int .i64 s, .int .i64 t, .int .i64 mb, .int .i64 mi, .int .i64 ms, .int .i64 md, .int .i64 imm]] w fun e w' => e = .returned (.int .i64 2) ∧ Below w.heap.size w w' := by
  have B1 : ∀ o, Below w.heap.size w (w.alloc o) := fun o => (Below.refl _ _).alloc (Nat.le_refl _) o
  have c68 : hasC ⟨#[68, 83]⟩ 68 = true := by decide +kernel
  have c83 : hasC ⟨#[68, 83]⟩ 83 = true := by decide +kernel
  have c84 : hasC ⟨#[68, 83]⟩ 84 = false := by decide +kernel
  have c77 : hasC ⟨#[68, 83]⟩ 77 = false := by decide +kernel
  have c105 : hasC ⟨#[68, 83]⟩ 105 = false := by decide +kernel
  have c98 : hasC ⟨#[68, 83]⟩ 98 = false := by decide +kernel
  have c73 : hasC ⟨#[68, 83]⟩ 73 = false := by decide +kernel
  go_enter Try.func32, Try.ntmps32
  go_wp2_with (first | (go_at_call 48; refine (form_any _ _).mono ?_; rw [hf]; rintro e w' ⟨rfl, rfl⟩) | (go_at_call 49; refine (rhas_any _ _ _ (by decide)).mono ?_; (first | rw [c68] | rw [c83] | rw [c84] | rw [c77] | rw [c105] | rw [c98] | rw [c73]); rintro e w' ⟨rfl, rfl⟩) | (go_at_call 50; refine (rregister_any _ _).mono ?_; (first | rw [h0] | rw [h1]); rintro e w' ⟨rfl, rfl⟩))
  go_ret
  first | exact ⟨rfl, B1 _⟩ | exact ⟨rfl, (B1 _).trans (hb1.mono (by simp))⟩
set_option maxRecDepth 100000 in
set_option maxHeartbeats 2000000 in
theorem rcheck_DS_3 (op d s t mb mi ms md imm : Int) (w : World) (hf : formB op = ⟨#[68, 83]⟩) (h0 : reg d = true) (h1 : reg s = true) (h2 : (t == 0) = true) (h3 : memZ mb mi ms md = false) :
    Calls Try.prog 32 #[.agg #[.int .i64 op, .int .i64 d, .int .i64 s, .int .i64 t, .int .i64 mb, .int .i64 mi, .int .i64 ms, .int .i64 md, .int .i64 imm]] w fun e w' => e = .returned (.int .i64 2) ∧ Below w.heap.size w w' := by
  have B1 : ∀ o, Below w.heap.size w (w.alloc o) := fun o => (Below.refl _ _).alloc (Nat.le_refl _) o
  have hne := fun w => mem_eql mb mi ms md w
  rw [h3] at hne
  have c68 : hasC ⟨#[68, 83]⟩ 68 = true := by decide +kernel
  have c83 : hasC ⟨#[68, 83]⟩ 83 = true := by decide +kernel
  have c84 : hasC ⟨#[68, 83]⟩ 84 = false := by decide +kernel
  have c77 : hasC ⟨#[68, 83]⟩ 77 = false := by decide +kernel
  have c105 : hasC ⟨#[68, 83]⟩ 105 = false := by decide +kernel
  have c98 : hasC ⟨#[68, 83]⟩ 98 = false := by decide +kernel
  have c73 : hasC ⟨#[68, 83]⟩ 73 = false := by decide +kernel
  go_enter Try.func32, Try.ntmps32
  go_wp2_with (first | (go_at_call 48; refine (form_any _ _).mono ?_; rw [hf]; rintro e w' ⟨rfl, rfl⟩) | (go_at_call 49; refine (rhas_any _ _ _ (by decide)).mono ?_; (first | rw [c68] | rw [c83] | rw [c84] | rw [c77] | rw [c105] | rw [c98] | rw [c73]); rintro e w' ⟨rfl, rfl⟩) | (go_at_call 50; refine (rregister_any _ _).mono ?_; (first | rw [h0] | rw [h1]); rintro e w' ⟨rfl, rfl⟩))
  go_ret
  first | exact ⟨rfl, B1 _⟩ | exact ⟨rfl, (B1 _).trans (hb1.mono (by simp))⟩
set_option maxRecDepth 100000 in
set_option maxHeartbeats 2000000 in
theorem rcheck_DS_4 (op d s t mb mi ms md imm : Int) (w : World) (hf : formB op = ⟨#[68, 83]⟩) (h0 : reg d = true) (h1 : reg s = true) (h2 : (t == 0) = true) (h3 : memZ mb mi ms md = true) (h4 : (imm == 0) = false) :
    Calls Try.prog 32 #[.agg #[.int .i64 op, .int .i64 d, .int .i64 s, .int .i64 t, .int .i64 mb, .int .i64 mi, .int .i64 ms, .int .i64 md, .int .i64 imm]] w fun e w' => e = .returned (.int .i64 2) ∧ Below w.heap.size w w' := by
  have B1 : ∀ o, Below w.heap.size w (w.alloc o) := fun o => (Below.refl _ _).alloc (Nat.le_refl _) o
  have hne := fun w => mem_eql mb mi ms md w
  rw [h3] at hne
  have c68 : hasC ⟨#[68, 83]⟩ 68 = true := by decide +kernel
  have c83 : hasC ⟨#[68, 83]⟩ 83 = true := by decide +kernel
  have c84 : hasC ⟨#[68, 83]⟩ 84 = false := by decide +kernel
  have c77 : hasC ⟨#[68, 83]⟩ 77 = false := by decide +kernel
  have c105 : hasC ⟨#[68, 83]⟩ 105 = false := by decide +kernel
  have c98 : hasC ⟨#[68, 83]⟩ 98 = false := by decide +kernel
  have c73 : hasC ⟨#[68, 83]⟩ 73 = false := by decide +kernel
  go_enter Try.func32, Try.ntmps32
  go_wp2_with (first | (go_at_call 48; refine (form_any _ _).mono ?_; rw [hf]; rintro e w' ⟨rfl, rfl⟩) | (go_at_call 49; refine (rhas_any _ _ _ (by decide)).mono ?_; (first | rw [c68] | rw [c83] | rw [c84] | rw [c77] | rw [c105] | rw [c98] | rw [c73]); rintro e w' ⟨rfl, rfl⟩) | (go_at_call 50; refine (rregister_any _ _).mono ?_; (first | rw [h0] | rw [h1]); rintro e w' ⟨rfl, rfl⟩))
  go_ret
  first | exact ⟨rfl, B1 _⟩ | exact ⟨rfl, (B1 _).trans (hb1.mono (by simp))⟩
set_option maxRecDepth 100000 in
set_option maxHeartbeats 2000000 in
theorem rcheck_DS_5 (op d s t mb mi ms md imm : Int) (w : World) (hf : formB op = ⟨#[68, 83]⟩) (h0 : reg d = true) (h1 : reg s = true) (h2 : (t == 0) = true) (h3 : memZ mb mi ms md = true) (h4 : (imm == 0) = true) :
    Calls Try.prog 32 #[.agg #[.int .i64 op, .int .i64 d, .int .i64 s, .int .i64 t, .int .i64 mb, .int .i64 mi, .int .i64 ms, .int .i64 md, .int .i64 imm]] w fun e w' => e = .returned (.int .i64 0) ∧ Below w.heap.size w w' := by
  have B1 : ∀ o, Below w.heap.size w (w.alloc o) := fun o => (Below.refl _ _).alloc (Nat.le_refl _) o
  have hne := fun w => mem_eql mb mi ms md w
  rw [h3] at hne
  have c68 : hasC ⟨#[68, 83]⟩ 68 = true := by decide +kernel
  have c83 : hasC ⟨#[68, 83]⟩ 83 = true := by decide +kernel
  have c84 : hasC ⟨#[68, 83]⟩ 84 = false := by decide +kernel
  have c77 : hasC ⟨#[68, 83]⟩ 77 = false := by decide +kernel
  have c105 : hasC ⟨#[68, 83]⟩ 105 = false := by decide +kernel
  have c98 : hasC ⟨#[68, 83]⟩ 98 = false := by decide +kernel
  have c73 : hasC ⟨#[68, 83]⟩ 73 = false := by decide +kernel
  go_enter Try.func32, Try.ntmps32
  go_wp2_with (first | (go_at_call 48; refine (form_any _ _).mono ?_; rw [hf]; rintro e w' ⟨rfl, rfl⟩) | (go_at_call 49; refine (rhas_any _ _ _ (by decide)).mono ?_; (first | rw [c68] | rw [c83] | rw [c84] | rw [c77] | rw [c105] | rw [c98] | rw [c73]); rintro e w' ⟨rfl, rfl⟩) | (go_at_call 50; refine (rregister_any _ _).mono ?_; (first | rw [h0] | rw [h1]); rintro e w' ⟨rfl, rfl⟩))
  go_ret
  first | exact ⟨rfl, B1 _⟩ | exact ⟨rfl, (B1 _).trans (hb1.mono (by simp))⟩
theorem rcheck_DS (op d s t mb mi ms md imm : Int) (w : World) (hf : formB op = ⟨#[68, 83]⟩) :
    Calls Try.prog 32 #[.agg #[.int .i64 op, .int .i64 d, .int .i64 s, .int .i64 t, .int .i64 mb, .int .i64 mi, .int .i64 ms, .int .i64 md, .int .i64 imm]] w fun e w' => e = .returned (.int .i64 (errOf (reg d && reg s && (t == 0) && memZ mb mi ms md && (imm == 0)))) ∧ Below w.heap.size w w' := by
  cases h0 : reg d
  · have e : errOf (reg d && reg s && (t == 0) && memZ mb mi ms md && (imm == 0)) = 2 := by simp [errOf, h0]
    rw [h0] at e
    exact rcheck_DS_0 op d s t mb mi ms md imm w hf h0
  cases h1 : reg s
  · have e : errOf (reg d && reg s && (t == 0) && memZ mb mi ms md && (imm == 0)) = 2 := by simp [errOf, h0, h1]
    simp only [h0] at e; rw [h1] at e
    exact rcheck_DS_1 op d s t mb mi ms md imm w hf h0 h1
  cases h2 : (t == 0)
  · have e : errOf (reg d && reg s && (t == 0) && memZ mb mi ms md && (imm == 0)) = 2 := by simp [errOf, h0, h1, h2]
    simp only [h0, h1] at e; rw [h2] at e
    exact rcheck_DS_2 op d s t mb mi ms md imm w hf h0 h1 h2
  cases h3 : memZ mb mi ms md
  · have e : errOf (reg d && reg s && (t == 0) && memZ mb mi ms md && (imm == 0)) = 2 := by simp [errOf, h0, h1, h2, h3]
    simp only [h0, h1, h2] at e; rw [h3] at e
    exact rcheck_DS_3 op d s t mb mi ms md imm w hf h0 h1 h2 h3
  cases h4 : (imm == 0)
  · have e : errOf (reg d && reg s && (t == 0) && memZ mb mi ms md && (imm == 0)) = 2 := by simp [errOf, h0, h1, h2, h3, h4]
    simp only [h0, h1, h2, h3] at e; rw [h4] at e
    exact rcheck_DS_4 op d s t mb mi ms md imm w hf h0 h1 h2 h3 h4
  exact rcheck_DS_5 op d s t mb mi ms md imm w hf h0 h1 h2 h3 h4
set_option maxRecDepth 100000 in
set_option maxHeartbeats 2000000 in
theorem rcheck_Di64_0 (op d s t mb mi ms md imm : Int) (w : World) (hf : formB op = ⟨#[68, 73]⟩) (h0 : reg d = false) :
    Calls Try.prog 32 #[.agg #[.int .i64 op, .int .i64 d, .int .i64 s, .int .i64 t, .int .i64 mb, .int .i64 mi, .int .i64 ms, .int .i64 md, .int .i64 imm]] w fun e w' => e = .returned (.int .i64 2) ∧ Below w.heap.size w w' := by
  have B1 : ∀ o, Below w.heap.size w (w.alloc o) := fun o => (Below.refl _ _).alloc (Nat.le_refl _) o
  have c68 : hasC ⟨#[68, 73]⟩ 68 = true := by decide +kernel
  have c83 : hasC ⟨#[68, 73]⟩ 83 = false := by decide +kernel
  have c84 : hasC ⟨#[68, 73]⟩ 84 = false := by decide +kernel
  have c77 : hasC ⟨#[68, 73]⟩ 77 = false := by decide +kernel
  have c105 : hasC ⟨#[68, 73]⟩ 105 = false := by decide +kernel
  have c98 : hasC ⟨#[68, 73]⟩ 98 = false := by decide +kernel
  have c73 : hasC ⟨#[68, 73]⟩ 73 = true := by decide +kernel
  go_enter Try.func32, Try.ntmps32
  go_wp2_with (first | (go_at_call 48; refine (form_any _ _).mono ?_; rw [hf]; rintro e w' ⟨rfl, rfl⟩) | (go_at_call 49; refine (rhas_any _ _ _ (by decide)).mono ?_; (first | rw [c68] | rw [c83] | rw [c84] | rw [c77] | rw [c105] | rw [c98] | rw [c73]); rintro e w' ⟨rfl, rfl⟩) | (go_at_call 50; refine (rregister_any _ _).mono ?_; (first | rw [h0]); rintro e w' ⟨rfl, rfl⟩))
  go_ret
  first | exact ⟨rfl, B1 _⟩ | exact ⟨rfl, (B1 _).trans (hb1.mono (by simp))⟩
set_option maxRecDepth 100000 in
set_option maxHeartbeats 2000000 in
theorem rcheck_Di64_1 (op d s t mb mi ms md imm : Int) (w : World) (hf : formB op = ⟨#[68, 73]⟩) (h0 : reg d = true) (h1 : (s == 0) = false) :
    Calls Try.prog 32 #[.agg #[.int .i64 op, .int .i64 d, .int .i64 s, .int .i64 t, .int .i64 mb, .int .i64 mi, .int .i64 ms, .int .i64 md, .int .i64 imm]] w fun e w' => e = .returned (.int .i64 2) ∧ Below w.heap.size w w' := by
  have B1 : ∀ o, Below w.heap.size w (w.alloc o) := fun o => (Below.refl _ _).alloc (Nat.le_refl _) o
  have c68 : hasC ⟨#[68, 73]⟩ 68 = true := by decide +kernel
  have c83 : hasC ⟨#[68, 73]⟩ 83 = false := by decide +kernel
  have c84 : hasC ⟨#[68, 73]⟩ 84 = false := by decide +kernel
  have c77 : hasC ⟨#[68, 73]⟩ 77 = false := by decide +kernel
  have c105 : hasC ⟨#[68, 73]⟩ 105 = false := by decide +kernel
  have c98 : hasC ⟨#[68, 73]⟩ 98 = false := by decide +kernel
  have c73 : hasC ⟨#[68, 73]⟩ 73 = true := by decide +kernel
  go_enter Try.func32, Try.ntmps32
  go_wp2_with (first | (go_at_call 48; refine (form_any _ _).mono ?_; rw [hf]; rintro e w' ⟨rfl, rfl⟩) | (go_at_call 49; refine (rhas_any _ _ _ (by decide)).mono ?_; (first | rw [c68] | rw [c83] | rw [c84] | rw [c77] | rw [c105] | rw [c98] | rw [c73]); rintro e w' ⟨rfl, rfl⟩) | (go_at_call 50; refine (rregister_any _ _).mono ?_; (first | rw [h0]); rintro e w' ⟨rfl, rfl⟩))
  go_ret
  first | exact ⟨rfl, B1 _⟩ | exact ⟨rfl, (B1 _).trans (hb1.mono (by simp))⟩
set_option maxRecDepth 100000 in
set_option maxHeartbeats 2000000 in
theorem rcheck_Di64_2 (op d s t mb mi ms md imm : Int) (w : World) (hf : formB op = ⟨#[68, 73]⟩) (h0 : reg d = true) (h1 : (s == 0) = true) (h2 : (t == 0) = false) :
    Calls Try.prog 32 #[.agg #[.int .i64 op, .int .i64 d, .int .i64 s, .int .i64 t, .int .i64 mb, .int .i64 mi, .int .i64 ms, .int .i64 md, .int .i64 imm]] w fun e w' => e = .returned (.int .i64 2) ∧ Below w.heap.size w w' := by
  have B1 : ∀ o, Below w.heap.size w (w.alloc o) := fun o => (Below.refl _ _).alloc (Nat.le_refl _) o
  have c68 : hasC ⟨#[68, 73]⟩ 68 = true := by decide +kernel
  have c83 : hasC ⟨#[68, 73]⟩ 83 = false := by decide +kernel
  have c84 : hasC ⟨#[68, 73]⟩ 84 = false := by decide +kernel
  have c77 : hasC ⟨#[68, 73]⟩ 77 = false := by decide +kernel
  have c105 : hasC ⟨#[68, 73]⟩ 105 = false := by decide +kernel
  have c98 : hasC ⟨#[68, 73]⟩ 98 = false := by decide +kernel
  have c73 : hasC ⟨#[68, 73]⟩ 73 = true := by decide +kernel
  go_enter Try.func32, Try.ntmps32
  go_wp2_with (first | (go_at_call 48; refine (form_any _ _).mono ?_; rw [hf]; rintro e w' ⟨rfl, rfl⟩) | (go_at_call 49; refine (rhas_any _ _ _ (by decide)).mono ?_; (first | rw [c68] | rw [c83] | rw [c84] | rw [c77] | rw [c105] | rw [c98] | rw [c73]); rintro e w' ⟨rfl, rfl⟩) | (go_at_call 50; refine (rregister_any _ _).mono ?_; (first | rw [h0]); rintro e w' ⟨rfl, rfl⟩))
  go_ret
  first | exact ⟨rfl, B1 _⟩ | exact ⟨rfl, (B1 _).trans (hb1.mono (by simp))⟩
set_option maxRecDepth 100000 in
set_option maxHeartbeats 2000000 in
theorem rcheck_Di64_3 (op d s t mb mi ms md imm : Int) (w : World) (hf : formB op = ⟨#[68, 73]⟩) (h0 : reg d = true) (h1 : (s == 0) = true) (h2 : (t == 0) = true) (h3 : memZ mb mi ms md = false) :
    Calls Try.prog 32 #[.agg #[.int .i64 op, .int .i64 d, .int .i64 s, .int .i64 t, .int .i64 mb, .int .i64 mi, .int .i64 ms, .int .i64 md, .int .i64 imm]] w fun e w' => e = .returned (.int .i64 2) ∧ Below w.heap.size w w' := by
  have B1 : ∀ o, Below w.heap.size w (w.alloc o) := fun o => (Below.refl _ _).alloc (Nat.le_refl _) o
  have hne := fun w => mem_eql mb mi ms md w
  rw [h3] at hne
  have c68 : hasC ⟨#[68, 73]⟩ 68 = true := by decide +kernel
  have c83 : hasC ⟨#[68, 73]⟩ 83 = false := by decide +kernel
  have c84 : hasC ⟨#[68, 73]⟩ 84 = false := by decide +kernel
  have c77 : hasC ⟨#[68, 73]⟩ 77 = false := by decide +kernel
  have c105 : hasC ⟨#[68, 73]⟩ 105 = false := by decide +kernel
  have c98 : hasC ⟨#[68, 73]⟩ 98 = false := by decide +kernel
  have c73 : hasC ⟨#[68, 73]⟩ 73 = true := by decide +kernel
  go_enter Try.func32, Try.ntmps32
  go_wp2_with (first | (go_at_call 48; refine (form_any _ _).mono ?_; rw [hf]; rintro e w' ⟨rfl, rfl⟩) | (go_at_call 49; refine (rhas_any _ _ _ (by decide)).mono ?_; (first | rw [c68] | rw [c83] | rw [c84] | rw [c77] | rw [c105] | rw [c98] | rw [c73]); rintro e w' ⟨rfl, rfl⟩) | (go_at_call 50; refine (rregister_any _ _).mono ?_; (first | rw [h0]); rintro e w' ⟨rfl, rfl⟩))
  go_ret
  first | exact ⟨rfl, B1 _⟩ | exact ⟨rfl, (B1 _).trans (hb1.mono (by simp))⟩
set_option maxRecDepth 100000 in
set_option maxHeartbeats 2000000 in
theorem rcheck_Di64_4 (op d s t mb mi ms md imm : Int) (w : World) (hf : formB op = ⟨#[68, 73]⟩) (h0 : reg d = true) (h1 : (s == 0) = true) (h2 : (t == 0) = true) (h3 : memZ mb mi ms md = true) :
    Calls Try.prog 32 #[.agg #[.int .i64 op, .int .i64 d, .int .i64 s, .int .i64 t, .int .i64 mb, .int .i64 mi, .int .i64 ms, .int .i64 md, .int .i64 imm]] w fun e w' => e = .returned (.int .i64 0) ∧ Below w.heap.size w w' := by
  have B1 : ∀ o, Below w.heap.size w (w.alloc o) := fun o => (Below.refl _ _).alloc (Nat.le_refl _) o
  have hne := fun w => mem_eql mb mi ms md w
  rw [h3] at hne
  have c68 : hasC ⟨#[68, 73]⟩ 68 = true := by decide +kernel
  have c83 : hasC ⟨#[68, 73]⟩ 83 = false := by decide +kernel
  have c84 : hasC ⟨#[68, 73]⟩ 84 = false := by decide +kernel
  have c77 : hasC ⟨#[68, 73]⟩ 77 = false := by decide +kernel
  have c105 : hasC ⟨#[68, 73]⟩ 105 = false := by decide +kernel
  have c98 : hasC ⟨#[68, 73]⟩ 98 = false := by decide +kernel
  have c73 : hasC ⟨#[68, 73]⟩ 73 = true := by decide +kernel
  go_enter Try.func32, Try.ntmps32
  go_wp2_with (first | (go_at_call 48; refine (form_any _ _).mono ?_; rw [hf]; rintro e w' ⟨rfl, rfl⟩) | (go_at_call 49; refine (rhas_any _ _ _ (by decide)).mono ?_; (first | rw [c68] | rw [c83] | rw [c84] | rw [c77] | rw [c105] | rw [c98] | rw [c73]); rintro e w' ⟨rfl, rfl⟩) | (go_at_call 50; refine (rregister_any _ _).mono ?_; (first | rw [h0]); rintro e w' ⟨rfl, rfl⟩))
  go_ret
  first | exact ⟨rfl, B1 _⟩ | exact ⟨rfl, (B1 _).trans (hb1.mono (by simp))⟩
theorem rcheck_Di64 (op d s t mb mi ms md imm : Int) (w : World) (hf : formB op = ⟨#[68, 73]⟩) :
    Calls Try.prog 32 #[.agg #[.int .i64 op, .int .i64 d, .int .i64 s, .int .i64 t, .int .i64 mb, .int .i64 mi, .int .i64 ms, .int .i64 md, .int .i64 imm]] w fun e w' => e = .returned (.int .i64 (errOf (reg d && (s == 0) && (t == 0) && memZ mb mi ms md))) ∧ Below w.heap.size w w' := by
  cases h0 : reg d
  · have e : errOf (reg d && (s == 0) && (t == 0) && memZ mb mi ms md) = 2 := by simp [errOf, h0]
    rw [h0] at e
    exact rcheck_Di64_0 op d s t mb mi ms md imm w hf h0
  cases h1 : (s == 0)
  · have e : errOf (reg d && (s == 0) && (t == 0) && memZ mb mi ms md) = 2 := by simp [errOf, h0, h1]
    simp only [h0] at e; rw [h1] at e
    exact rcheck_Di64_1 op d s t mb mi ms md imm w hf h0 h1
  cases h2 : (t == 0)
  · have e : errOf (reg d && (s == 0) && (t == 0) && memZ mb mi ms md) = 2 := by simp [errOf, h0, h1, h2]
    simp only [h0, h1] at e; rw [h2] at e
    exact rcheck_Di64_2 op d s t mb mi ms md imm w hf h0 h1 h2
  cases h3 : memZ mb mi ms md
  · have e : errOf (reg d && (s == 0) && (t == 0) && memZ mb mi ms md) = 2 := by simp [errOf, h0, h1, h2, h3]
    simp only [h0, h1, h2] at e; rw [h3] at e
    exact rcheck_Di64_3 op d s t mb mi ms md imm w hf h0 h1 h2 h3
  exact rcheck_Di64_4 op d s t mb mi ms md imm w hf h0 h1 h2 h3
set_option maxRecDepth 100000 in
set_option maxHeartbeats 2000000 in
theorem rcheck_DM_0 (op d s t mb mi ms md imm : Int) (w : World) (hf : formB op = ⟨#[68, 77]⟩) (h0 : reg d = false) :
    Calls Try.prog 32 #[.agg #[.int .i64 op, .int .i64 d, .int .i64 s, .int .i64 t, .int .i64 mb, .int .i64 mi, .int .i64 ms, .int .i64 md, .int .i64 imm]] w fun e w' => e = .returned (.int .i64 2) ∧ Below w.heap.size w w' := by
  have B1 : ∀ o, Below w.heap.size w (w.alloc o) := fun o => (Below.refl _ _).alloc (Nat.le_refl _) o
  have c68 : hasC ⟨#[68, 77]⟩ 68 = true := by decide +kernel
  have c83 : hasC ⟨#[68, 77]⟩ 83 = false := by decide +kernel
  have c84 : hasC ⟨#[68, 77]⟩ 84 = false := by decide +kernel
  have c77 : hasC ⟨#[68, 77]⟩ 77 = true := by decide +kernel
  have c105 : hasC ⟨#[68, 77]⟩ 105 = false := by decide +kernel
  have c98 : hasC ⟨#[68, 77]⟩ 98 = false := by decide +kernel
  have c73 : hasC ⟨#[68, 77]⟩ 73 = false := by decide +kernel
  go_enter Try.func32, Try.ntmps32
  go_wp2_with (first | (go_at_call 48; refine (form_any _ _).mono ?_; rw [hf]; rintro e w' ⟨rfl, rfl⟩) | (go_at_call 49; refine (rhas_any _ _ _ (by decide)).mono ?_; (first | rw [c68] | rw [c83] | rw [c84] | rw [c77] | rw [c105] | rw [c98] | rw [c73]); rintro e w' ⟨rfl, rfl⟩) | (go_at_call 50; refine (rregister_any _ _).mono ?_; (first | rw [h0]); rintro e w' ⟨rfl, rfl⟩))
  go_ret
  first | exact ⟨rfl, B1 _⟩ | exact ⟨rfl, (B1 _).trans (hb1.mono (by simp))⟩
set_option maxRecDepth 100000 in
set_option maxHeartbeats 2000000 in
theorem rcheck_DM_1 (op d s t mb mi ms md imm : Int) (w : World) (hf : formB op = ⟨#[68, 77]⟩) (h0 : reg d = true) (h1 : (s == 0) = false) :
    Calls Try.prog 32 #[.agg #[.int .i64 op, .int .i64 d, .int .i64 s, .int .i64 t, .int .i64 mb, .int .i64 mi, .int .i64 ms, .int .i64 md, .int .i64 imm]] w fun e w' => e = .returned (.int .i64 2) ∧ Below w.heap.size w w' := by
  have B1 : ∀ o, Below w.heap.size w (w.alloc o) := fun o => (Below.refl _ _).alloc (Nat.le_refl _) o
  have c68 : hasC ⟨#[68, 77]⟩ 68 = true := by decide +kernel
  have c83 : hasC ⟨#[68, 77]⟩ 83 = false := by decide +kernel
  have c84 : hasC ⟨#[68, 77]⟩ 84 = false := by decide +kernel
  have c77 : hasC ⟨#[68, 77]⟩ 77 = true := by decide +kernel
  have c105 : hasC ⟨#[68, 77]⟩ 105 = false := by decide +kernel
  have c98 : hasC ⟨#[68, 77]⟩ 98 = false := by decide +kernel
  have c73 : hasC ⟨#[68, 77]⟩ 73 = false := by decide +kernel
  go_enter Try.func32, Try.ntmps32
  go_wp2_with (first | (go_at_call 48; refine (form_any _ _).mono ?_; rw [hf]; rintro e w' ⟨rfl, rfl⟩) | (go_at_call 49; refine (rhas_any _ _ _ (by decide)).mono ?_; (first | rw [c68] | rw [c83] | rw [c84] | rw [c77] | rw [c105] | rw [c98] | rw [c73]); rintro e w' ⟨rfl, rfl⟩) | (go_at_call 50; refine (rregister_any _ _).mono ?_; (first | rw [h0]); rintro e w' ⟨rfl, rfl⟩))
  go_ret
  first | exact ⟨rfl, B1 _⟩ | exact ⟨rfl, (B1 _).trans (hb1.mono (by simp))⟩
set_option maxRecDepth 100000 in
set_option maxHeartbeats 2000000 in
theorem rcheck_DM_2 (op d s t mb mi ms md imm : Int) (w : World) (hf : formB op = ⟨#[68, 77]⟩) (h0 : reg d = true) (h1 : (s == 0) = true) (h2 : (t == 0) = false) :
    Calls Try.prog 32 #[.agg #[.int .i64 op, .int .i64 d, .int .i64 s, .int .i64 t, .int .i64 mb, .int .i64 mi, .int .i64 ms, .int .i64 md, .int .i64 imm]] w fun e w' => e = .returned (.int .i64 2) ∧ Below w.heap.size w w' := by
  have B1 : ∀ o, Below w.heap.size w (w.alloc o) := fun o => (Below.refl _ _).alloc (Nat.le_refl _) o
  have c68 : hasC ⟨#[68, 77]⟩ 68 = true := by decide +kernel
  have c83 : hasC ⟨#[68, 77]⟩ 83 = false := by decide +kernel
  have c84 : hasC ⟨#[68, 77]⟩ 84 = false := by decide +kernel
  have c77 : hasC ⟨#[68, 77]⟩ 77 = true := by decide +kernel
  have c105 : hasC ⟨#[68, 77]⟩ 105 = false := by decide +kernel
  have c98 : hasC ⟨#[68, 77]⟩ 98 = false := by decide +kernel
  have c73 : hasC ⟨#[68, 77]⟩ 73 = false := by decide +kernel
  go_enter Try.func32, Try.ntmps32
  go_wp2_with (first | (go_at_call 48; refine (form_any _ _).mono ?_; rw [hf]; rintro e w' ⟨rfl, rfl⟩) | (go_at_call 49; refine (rhas_any _ _ _ (by decide)).mono ?_; (first | rw [c68] | rw [c83] | rw [c84] | rw [c77] | rw [c105] | rw [c98] | rw [c73]); rintro e w' ⟨rfl, rfl⟩) | (go_at_call 50; refine (rregister_any _ _).mono ?_; (first | rw [h0]); rintro e w' ⟨rfl, rfl⟩))
  go_ret
  first | exact ⟨rfl, B1 _⟩ | exact ⟨rfl, (B1 _).trans (hb1.mono (by simp))⟩
set_option maxRecDepth 100000 in
set_option maxHeartbeats 2000000 in
theorem rcheck_DM_3 (op d s t mb mi ms md imm : Int) (w : World) (hf : formB op = ⟨#[68, 77]⟩) (h0 : reg d = true) (h1 : (s == 0) = true) (h2 : (t == 0) = true) (h3 : plc mb mi ms md = false) :
    Calls Try.prog 32 #[.agg #[.int .i64 op, .int .i64 d, .int .i64 s, .int .i64 t, .int .i64 mb, .int .i64 mi, .int .i64 ms, .int .i64 md, .int .i64 imm]] w fun e w' => e = .returned (.int .i64 2) ∧ Below w.heap.size w w' := by
  have B1 : ∀ o, Below w.heap.size w (w.alloc o) := fun o => (Below.refl _ _).alloc (Nat.le_refl _) o
  have c68 : hasC ⟨#[68, 77]⟩ 68 = true := by decide +kernel
  have c83 : hasC ⟨#[68, 77]⟩ 83 = false := by decide +kernel
  have c84 : hasC ⟨#[68, 77]⟩ 84 = false := by decide +kernel
  have c77 : hasC ⟨#[68, 77]⟩ 77 = true := by decide +kernel
  have c105 : hasC ⟨#[68, 77]⟩ 105 = false := by decide +kernel
  have c98 : hasC ⟨#[68, 77]⟩ 98 = false := by decide +kernel
  have c73 : hasC ⟨#[68, 77]⟩ 73 = false := by decide +kernel
  go_enter Try.func32, Try.ntmps32
  go_wp2_with (first | (go_at_call 48; refine (form_any _ _).mono ?_; rw [hf]; rintro e w' ⟨rfl, rfl⟩) | (go_at_call 49; refine (rhas_any _ _ _ (by decide)).mono ?_; (first | rw [c68] | rw [c83] | rw [c84] | rw [c77] | rw [c105] | rw [c98] | rw [c73]); rintro e w' ⟨rfl, rfl⟩) | (go_at_call 50; refine (rregister_any _ _).mono ?_; (first | rw [h0]); rintro e w' ⟨rfl, rfl⟩) | (go_at_call 51; refine (rplace_any _ _ _ _ _).mono ?_; rw [h3]; rintro e w1 ⟨rfl, hb1⟩; have hc8 : w1.cell? ⟨w.heap.size, 8, none⟩ = some (.int .i64 imm) := ((bcell hb1).1 _ _ (by simp)).trans (by go_simp)))
  go_ret
  first | exact ⟨rfl, B1 _⟩ | exact ⟨rfl, (B1 _).trans (hb1.mono (by simp))⟩
set_option maxRecDepth 100000 in
set_option maxHeartbeats 2000000 in
theorem rcheck_DM_4 (op d s t mb mi ms md imm : Int) (w : World) (hf : formB op = ⟨#[68, 77]⟩) (h0 : reg d = true) (h1 : (s == 0) = true) (h2 : (t == 0) = true) (h3 : plc mb mi ms md = true) (h4 : (imm == 0) = false) :
    Calls Try.prog 32 #[.agg #[.int .i64 op, .int .i64 d, .int .i64 s, .int .i64 t, .int .i64 mb, .int .i64 mi, .int .i64 ms, .int .i64 md, .int .i64 imm]] w fun e w' => e = .returned (.int .i64 2) ∧ Below w.heap.size w w' := by
  have B1 : ∀ o, Below w.heap.size w (w.alloc o) := fun o => (Below.refl _ _).alloc (Nat.le_refl _) o
  have c68 : hasC ⟨#[68, 77]⟩ 68 = true := by decide +kernel
  have c83 : hasC ⟨#[68, 77]⟩ 83 = false := by decide +kernel
  have c84 : hasC ⟨#[68, 77]⟩ 84 = false := by decide +kernel
  have c77 : hasC ⟨#[68, 77]⟩ 77 = true := by decide +kernel
  have c105 : hasC ⟨#[68, 77]⟩ 105 = false := by decide +kernel
  have c98 : hasC ⟨#[68, 77]⟩ 98 = false := by decide +kernel
  have c73 : hasC ⟨#[68, 77]⟩ 73 = false := by decide +kernel
  go_enter Try.func32, Try.ntmps32
  go_wp2_with (first | (go_at_call 48; refine (form_any _ _).mono ?_; rw [hf]; rintro e w' ⟨rfl, rfl⟩) | (go_at_call 49; refine (rhas_any _ _ _ (by decide)).mono ?_; (first | rw [c68] | rw [c83] | rw [c84] | rw [c77] | rw [c105] | rw [c98] | rw [c73]); rintro e w' ⟨rfl, rfl⟩) | (go_at_call 50; refine (rregister_any _ _).mono ?_; (first | rw [h0]); rintro e w' ⟨rfl, rfl⟩) | (go_at_call 51; refine (rplace_any _ _ _ _ _).mono ?_; rw [h3]; rintro e w1 ⟨rfl, hb1⟩; have hc8 : w1.cell? ⟨w.heap.size, 8, none⟩ = some (.int .i64 imm) := ((bcell hb1).1 _ _ (by simp)).trans (by go_simp)))
  go_ret
  first | exact ⟨rfl, B1 _⟩ | exact ⟨rfl, (B1 _).trans (hb1.mono (by simp))⟩
set_option maxRecDepth 100000 in
set_option maxHeartbeats 2000000 in
theorem rcheck_DM_5 (op d s t mb mi ms md imm : Int) (w : World) (hf : formB op = ⟨#[68, 77]⟩) (h0 : reg d = true) (h1 : (s == 0) = true) (h2 : (t == 0) = true) (h3 : plc mb mi ms md = true) (h4 : (imm == 0) = true) :
    Calls Try.prog 32 #[.agg #[.int .i64 op, .int .i64 d, .int .i64 s, .int .i64 t, .int .i64 mb, .int .i64 mi, .int .i64 ms, .int .i64 md, .int .i64 imm]] w fun e w' => e = .returned (.int .i64 0) ∧ Below w.heap.size w w' := by
  have B1 : ∀ o, Below w.heap.size w (w.alloc o) := fun o => (Below.refl _ _).alloc (Nat.le_refl _) o
  have c68 : hasC ⟨#[68, 77]⟩ 68 = true := by decide +kernel
  have c83 : hasC ⟨#[68, 77]⟩ 83 = false := by decide +kernel
  have c84 : hasC ⟨#[68, 77]⟩ 84 = false := by decide +kernel
  have c77 : hasC ⟨#[68, 77]⟩ 77 = true := by decide +kernel
  have c105 : hasC ⟨#[68, 77]⟩ 105 = false := by decide +kernel
  have c98 : hasC ⟨#[68, 77]⟩ 98 = false := by decide +kernel
  have c73 : hasC ⟨#[68, 77]⟩ 73 = false := by decide +kernel
  go_enter Try.func32, Try.ntmps32
  go_wp2_with (first | (go_at_call 48; refine (form_any _ _).mono ?_; rw [hf]; rintro e w' ⟨rfl, rfl⟩) | (go_at_call 49; refine (rhas_any _ _ _ (by decide)).mono ?_; (first | rw [c68] | rw [c83] | rw [c84] | rw [c77] | rw [c105] | rw [c98] | rw [c73]); rintro e w' ⟨rfl, rfl⟩) | (go_at_call 50; refine (rregister_any _ _).mono ?_; (first | rw [h0]); rintro e w' ⟨rfl, rfl⟩) | (go_at_call 51; refine (rplace_any _ _ _ _ _).mono ?_; rw [h3]; rintro e w1 ⟨rfl, hb1⟩; have hc8 : w1.cell? ⟨w.heap.size, 8, none⟩ = some (.int .i64 imm) := ((bcell hb1).1 _ _ (by simp)).trans (by go_simp)))
  go_ret
  first | exact ⟨rfl, B1 _⟩ | exact ⟨rfl, (B1 _).trans (hb1.mono (by simp))⟩
theorem rcheck_DM (op d s t mb mi ms md imm : Int) (w : World) (hf : formB op = ⟨#[68, 77]⟩) :
    Calls Try.prog 32 #[.agg #[.int .i64 op, .int .i64 d, .int .i64 s, .int .i64 t, .int .i64 mb, .int .i64 mi, .int .i64 ms, .int .i64 md, .int .i64 imm]] w fun e w' => e = .returned (.int .i64 (errOf (reg d && (s == 0) && (t == 0) && plc mb mi ms md && (imm == 0)))) ∧ Below w.heap.size w w' := by
  cases h0 : reg d
  · have e : errOf (reg d && (s == 0) && (t == 0) && plc mb mi ms md && (imm == 0)) = 2 := by simp [errOf, h0]
    rw [h0] at e
    exact rcheck_DM_0 op d s t mb mi ms md imm w hf h0
  cases h1 : (s == 0)
  · have e : errOf (reg d && (s == 0) && (t == 0) && plc mb mi ms md && (imm == 0)) = 2 := by simp [errOf, h0, h1]
    simp only [h0] at e; rw [h1] at e
    exact rcheck_DM_1 op d s t mb mi ms md imm w hf h0 h1
  cases h2 : (t == 0)
  · have e : errOf (reg d && (s == 0) && (t == 0) && plc mb mi ms md && (imm == 0)) = 2 := by simp [errOf, h0, h1, h2]
    simp only [h0, h1] at e; rw [h2] at e
    exact rcheck_DM_2 op d s t mb mi ms md imm w hf h0 h1 h2
  cases h3 : plc mb mi ms md
  · have e : errOf (reg d && (s == 0) && (t == 0) && plc mb mi ms md && (imm == 0)) = 2 := by simp [errOf, h0, h1, h2, h3]
    simp only [h0, h1, h2] at e; rw [h3] at e
    exact rcheck_DM_3 op d s t mb mi ms md imm w hf h0 h1 h2 h3
  cases h4 : (imm == 0)
  · have e : errOf (reg d && (s == 0) && (t == 0) && plc mb mi ms md && (imm == 0)) = 2 := by simp [errOf, h0, h1, h2, h3, h4]
    simp only [h0, h1, h2, h3] at e; rw [h4] at e
    exact rcheck_DM_4 op d s t mb mi ms md imm w hf h0 h1 h2 h3 h4
  exact rcheck_DM_5 op d s t mb mi ms md imm w hf h0 h1 h2 h3 h4
set_option maxRecDepth 100000 in
set_option maxHeartbeats 2000000 in
theorem rcheck_none (op d s t mb mi ms md imm : Int) (w : World) (hf : formB op = ⟨#[]⟩)  :
    Calls Try.prog 32 #[.agg #[.int .i64 op, .int .i64 d, .int .i64 s, .int .i64 t, .int .i64 mb, .int .i64 mi, .int .i64 ms, .int .i64 md, .int .i64 imm]] w fun e w' => e = .returned (.int .i64 2) ∧ Below w.heap.size w w' := by
  have B1 : ∀ o, Below w.heap.size w (w.alloc o) := fun o => (Below.refl _ _).alloc (Nat.le_refl _) o
  have c68 : hasC ⟨#[]⟩ 68 = false := by decide +kernel
  have c83 : hasC ⟨#[]⟩ 83 = false := by decide +kernel
  have c84 : hasC ⟨#[]⟩ 84 = false := by decide +kernel
  have c77 : hasC ⟨#[]⟩ 77 = false := by decide +kernel
  have c105 : hasC ⟨#[]⟩ 105 = false := by decide +kernel
  have c98 : hasC ⟨#[]⟩ 98 = false := by decide +kernel
  have c73 : hasC ⟨#[]⟩ 73 = false := by decide +kernel
  go_enter Try.func32, Try.ntmps32
  go_wp2_with (first | (go_at_call 48; refine (form_any _ _).mono ?_; rw [hf]; rintro e w' ⟨rfl, rfl⟩) | (go_at_call 49; refine (rhas_any _ _ _ (by decide)).mono ?_; (first | rw [c68] | rw [c83] | rw [c84] | rw [c77] | rw [c105] | rw [c98] | rw [c73]); rintro e w' ⟨rfl, rfl⟩))
  go_ret
  first | exact ⟨rfl, B1 _⟩ | exact ⟨rfl, (B1 _).trans (hb1.mono (by simp))⟩
end Go.Proofs.Ytbcaelhchmoigaa

/- keysmithref05 (the document's answer for layer 5): Check, its cases B. Conditions: none. -/
namespace Go.Proofs.Ytbcaelhchmoigaa
open Go.RowKit Calm

set_option maxRecDepth 100000 in
set_option maxHeartbeats 2000000 in
theorem rcheck_SM_0 (op d s t mb mi ms md imm : Int) (w : World) (hf : formB op = ⟨#[83, 77]⟩) (h0 : (d == 0) = false) :
    Calls Try.prog 32 #[.agg #[.int .i64 op, .int .i64 d, .int .i64 s, .int .i64 t, .int .i64 mb, .int .i64 mi, .int .i64 ms, .int .i64 md, .int .i64 imm]] w fun e w' => e = .returned (.int .i64 2) ∧ Below w.heap.size w w' := by
  have B1 : ∀ o, Below w.heap.size w (w.alloc o) := fun o => (Below.refl _ _).alloc (Nat.le_refl _) o
  have c68 : hasC ⟨#[83, 77]⟩ 68 = false := by decide +kernel
  have c83 : hasC ⟨#[83, 77]⟩ 83 = true := by decide +kernel
  have c84 : hasC ⟨#[83, 77]⟩ 84 = false := by decide +kernel
  have c77 : hasC ⟨#[83, 77]⟩ 77 = true := by decide +kernel
  have c105 : hasC ⟨#[83, 77]⟩ 105 = false := by decide +kernel
  have c98 : hasC ⟨#[83, 77]⟩ 98 = false := by decide +kernel
  have c73 : hasC ⟨#[83, 77]⟩ 73 = false := by decide +kernel
  go_enter Try.func32, Try.ntmps32
  go_wp2_with (first | (go_at_call 48; refine (form_any _ _).mono ?_; rw [hf]; rintro e w' ⟨rfl, rfl⟩) | (go_at_call 49; refine (rhas_any _ _ _ (by decide)).mono ?_; (first | rw [c68] | rw [c83] | rw [c84] | rw [c77] | rw [c105] | rw [c98] | rw [c73]); rintro e w' ⟨rfl, rfl⟩))
  go_ret
  first | exact ⟨rfl, B1 _⟩ | exact ⟨rfl, (B1 _).trans (hb1.mono (by simp))⟩
set_option maxRecDepth 100000 in
set_option maxHeartbeats 2000000 in
theorem rcheck_SM_1 (op d s t mb mi ms md imm : Int) (w : World) (hf : formB op = ⟨#[83, 77]⟩) (h0 : (d == 0) = true) (h1 : reg s = false) :
    Calls Try.prog 32 #[.agg #[.int .i64 op, .int .i64 d, .int .i64 s, .int .i64 t, .int .i64 mb, .int .i64 mi, .int .i64 ms, .int .i64 md, .int .i64 imm]] w fun e w' => e = .returned (.int .i64 2) ∧ Below w.heap.size w w' := by
  have B1 : ∀ o, Below w.heap.size w (w.alloc o) := fun o => (Below.refl _ _).alloc (Nat.le_refl _) o
  have c68 : hasC ⟨#[83, 77]⟩ 68 = false := by decide +kernel
  have c83 : hasC ⟨#[83, 77]⟩ 83 = true := by decide +kernel
  have c84 : hasC ⟨#[83, 77]⟩ 84 = false := by decide +kernel
  have c77 : hasC ⟨#[83, 77]⟩ 77 = true := by decide +kernel
  have c105 : hasC ⟨#[83, 77]⟩ 105 = false := by decide +kernel
  have c98 : hasC ⟨#[83, 77]⟩ 98 = false := by decide +kernel
  have c73 : hasC ⟨#[83, 77]⟩ 73 = false := by decide +kernel
  go_enter Try.func32, Try.ntmps32
  go_wp2_with (first | (go_at_call 48; refine (form_any _ _).mono ?_; rw [hf]; rintro e w' ⟨rfl, rfl⟩) | (go_at_call 49; refine (rhas_any _ _ _ (by decide)).mono ?_; (first | rw [c68] | rw [c83] | rw [c84] | rw [c77] | rw [c105] | rw [c98] | rw [c73]); rintro e w' ⟨rfl, rfl⟩) | (go_at_call 50; refine (rregister_any _ _).mono ?_; (first | rw [h1]); rintro e w' ⟨rfl, rfl⟩))
  go_ret
  first | exact ⟨rfl, B1 _⟩ | exact ⟨rfl, (B1 _).trans (hb1.mono (by simp))⟩
set_option maxRecDepth 100000 in
set_option maxHeartbeats 2000000 in
theorem rcheck_SM_2 (op d s t mb mi ms md imm : Int) (w : World) (hf : formB op = ⟨#[83, 77]⟩) (h0 : (d == 0) = true) (h1 : reg s = true) (h2 : (t == 0) = false) :
    Calls Try.prog 32 #[.agg #[.int .i64 op, .int .i64 d, .int .i64 s, .int .i64 t, .int .i64 mb, .int .i64 mi, .int .i64 ms, .int .i64 md, .int .i64 imm]] w fun e w' => e = .returned (.int .i64 2) ∧ Below w.heap.size w w' := by
  have B1 : ∀ o, Below w.heap.size w (w.alloc o) := fun o => (Below.refl _ _).alloc (Nat.le_refl _) o
  have c68 : hasC ⟨#[83, 77]⟩ 68 = false := by decide +kernel
  have c83 : hasC ⟨#[83, 77]⟩ 83 = true := by decide +kernel
  have c84 : hasC ⟨#[83, 77]⟩ 84 = false := by decide +kernel
  have c77 : hasC ⟨#[83, 77]⟩ 77 = true := by decide +kernel
  have c105 : hasC ⟨#[83, 77]⟩ 105 = false := by decide +kernel
  have c98 : hasC ⟨#[83, 77]⟩ 98 = false := by decide +kernel
  have c73 : hasC ⟨#[83, 77]⟩ 73 = false := by decide +kernel
  go_enter Try.func32, Try.ntmps32
  go_wp2_with (first | (go_at_call 48; refine (form_any _ _).mono ?_; rw [hf]; rintro e w' ⟨rfl, rfl⟩) | (go_at_call 49; refine (rhas_any _ _ _ (by decide)).mono ?_; (first | rw [c68] | rw [c83] | rw [c84] | rw [c77] | rw [c105] | rw [c98] | rw [c73]); rintro e w' ⟨rfl, rfl⟩) | (go_at_call 50; refine (rregister_any _ _).mono ?_; (first | rw [h1]); rintro e w' ⟨rfl, rfl⟩))
  go_ret
  first | exact ⟨rfl, B1 _⟩ | exact ⟨rfl, (B1 _).trans (hb1.mono (by simp))⟩
set_option maxRecDepth 100000 in
set_option maxHeartbeats 2000000 in
theorem rcheck_SM_3 (op d s t mb mi ms md imm : Int) (w : World) (hf : formB op = ⟨#[83, 77]⟩) (h0 : (d == 0) = true) (h1 : reg s = true) (h2 : (t == 0) = true) (h3 : plc mb mi ms md = false) :
    Calls Try.prog 32 #[.agg #[.int .i64 op, .int .i64 d, .int .i64 s, .int .i64 t, .int .i64 mb, .int .i64 mi, .int .i64 ms, .int .i64 md, .int .i64 imm]] w fun e w' => e = .returned (.int .i64 2) ∧ Below w.heap.size w w' := by
  have B1 : ∀ o, Below w.heap.size w (w.alloc o) := fun o => (Below.refl _ _).alloc (Nat.le_refl _) o
  have c68 : hasC ⟨#[83, 77]⟩ 68 = false := by decide +kernel
  have c83 : hasC ⟨#[83, 77]⟩ 83 = true := by decide +kernel
  have c84 : hasC ⟨#[83, 77]⟩ 84 = false := by decide +kernel
  have c77 : hasC ⟨#[83, 77]⟩ 77 = true := by decide +kernel
  have c105 : hasC ⟨#[83, 77]⟩ 105 = false := by decide +kernel
  have c98 : hasC ⟨#[83, 77]⟩ 98 = false := by decide +kernel
  have c73 : hasC ⟨#[83, 77]⟩ 73 = false := by decide +kernel
  go_enter Try.func32, Try.ntmps32
  go_wp2_with (first | (go_at_call 48; refine (form_any _ _).mono ?_; rw [hf]; rintro e w' ⟨rfl, rfl⟩) | (go_at_call 49; refine (rhas_any _ _ _ (by decide)).mono ?_; (first | rw [c68] | rw [c83] | rw [c84] | rw [c77] | rw [c105] | rw [c98] | rw [c73]); rintro e w' ⟨rfl, rfl⟩) | (go_at_call 50; refine (rregister_any _ _).mono ?_; (first | rw [h1]); rintro e w' ⟨rfl, rfl⟩) | (go_at_call 51; refine (rplace_any _ _ _ _ _).mono ?_; rw [h3]; rintro e w1 ⟨rfl, hb1⟩; have hc8 : w1.cell? ⟨w.heap.size, 8, none⟩ = some (.int .i64 imm) := ((bcell hb1).1 _ _ (by simp)).trans (by go_simp)))
  go_ret
  first | exact ⟨rfl, B1 _⟩ | exact ⟨rfl, (B1 _).trans (hb1.mono (by simp))⟩
set_option maxRecDepth 100000 in
set_option maxHeartbeats 2000000 in
theorem rcheck_SM_4 (op d s t mb mi ms md imm : Int) (w : World) (hf : formB op = ⟨#[83, 77]⟩) (h0 : (d == 0) = true) (h1 : reg s = true) (h2 : (t == 0) = true) (h3 : plc mb mi ms md = true) (h4 : (imm == 0) = false) :
    Calls Try.prog 32 #[.agg #[.int .i64 op, .int .i64 d, .int .i64 s, .int .i64 t, .int .i64 mb, .int .i64 mi, .int .i64 ms, .int .i64 md, .int .i64 imm]] w fun e w' => e = .returned (.int .i64 2) ∧ Below w.heap.size w w' := by
  have B1 : ∀ o, Below w.heap.size w (w.alloc o) := fun o => (Below.refl _ _).alloc (Nat.le_refl _) o
  have c68 : hasC ⟨#[83, 77]⟩ 68 = false := by decide +kernel
  have c83 : hasC ⟨#[83, 77]⟩ 83 = true := by decide +kernel
  have c84 : hasC ⟨#[83, 77]⟩ 84 = false := by decide +kernel
  have c77 : hasC ⟨#[83, 77]⟩ 77 = true := by decide +kernel
  have c105 : hasC ⟨#[83, 77]⟩ 105 = false := by decide +kernel
  have c98 : hasC ⟨#[83, 77]⟩ 98 = false := by decide +kernel
  have c73 : hasC ⟨#[83, 77]⟩ 73 = false := by decide +kernel
  go_enter Try.func32, Try.ntmps32
  go_wp2_with (first | (go_at_call 48; refine (form_any _ _).mono ?_; rw [hf]; rintro e w' ⟨rfl, rfl⟩) | (go_at_call 49; refine (rhas_any _ _ _ (by decide)).mono ?_; (first | rw [c68] | rw [c83] | rw [c84] | rw [c77] | rw [c105] | rw [c98] | rw [c73]); rintro e w' ⟨rfl, rfl⟩) | (go_at_call 50; refine (rregister_any _ _).mono ?_; (first | rw [h1]); rintro e w' ⟨rfl, rfl⟩) | (go_at_call 51; refine (rplace_any _ _ _ _ _).mono ?_; rw [h3]; rintro e w1 ⟨rfl, hb1⟩; have hc8 : w1.cell? ⟨w.heap.size, 8, none⟩ = some (.int .i64 imm) := ((bcell hb1).1 _ _ (by simp)).trans (by go_simp)))
  go_ret
  first | exact ⟨rfl, B1 _⟩ | exact ⟨rfl, (B1 _).trans (hb1.mono (by simp))⟩
set_option maxRecDepth 100000 in
set_option maxHeartbeats 2000000 in
theorem rcheck_SM_5 (op d s t mb mi ms md imm : Int) (w : World) (hf : formB op = ⟨#[83, 77]⟩) (h0 : (d == 0) = true) (h1 : reg s = true) (h2 : (t == 0) = true) (h3 : plc mb mi ms md = true) (h4 : (imm == 0) = true) :
    Calls Try.prog 32 #[.agg #[.int .i64 op, .int .i64 d, .int .i64 s, .int .i64 t, .int .i64 mb, .int .i64 mi, .int .i64 ms, .int .i64 md, .int .i64 imm]] w fun e w' => e = .returned (.int .i64 0) ∧ Below w.heap.size w w' := by
  have B1 : ∀ o, Below w.heap.size w (w.alloc o) := fun o => (Below.refl _ _).alloc (Nat.le_refl _) o
  have c68 : hasC ⟨#[83, 77]⟩ 68 = false := by decide +kernel
  have c83 : hasC ⟨#[83, 77]⟩ 83 = true := by decide +kernel
  have c84 : hasC ⟨#[83, 77]⟩ 84 = false := by decide +kernel
  have c77 : hasC ⟨#[83, 77]⟩ 77 = true := by decide +kernel
  have c105 : hasC ⟨#[83, 77]⟩ 105 = false := by decide +kernel
  have c98 : hasC ⟨#[83, 77]⟩ 98 = false := by decide +kernel
  have c73 : hasC ⟨#[83, 77]⟩ 73 = false := by decide +kernel
  go_enter Try.func32, Try.ntmps32
  go_wp2_with (first | (go_at_call 48; refine (form_any _ _).mono ?_; rw [hf]; rintro e w' ⟨rfl, rfl⟩) | (go_at_call 49; refine (rhas_any _ _ _ (by decide)).mono ?_; (first | rw [c68] | rw [c83] | rw [c84] | rw [c77] | rw [c105] | rw [c98] | rw [c73]); rintro e w' ⟨rfl, rfl⟩) | (go_at_call 50; refine (rregister_any _ _).mono ?_; (first | rw [h1]); rintro e w' ⟨rfl, rfl⟩) | (go_at_call 51; refine (rplace_any _ _ _ _ _).mono ?_; rw [h3]; rintro e w1 ⟨rfl, hb1⟩; have hc8 : w1.cell? ⟨w.heap.size, 8, none⟩ = some (.int .i64 imm) := ((bcell hb1).1 _ _ (by simp)).trans (by go_simp)))
  go_ret
  first | exact ⟨rfl, B1 _⟩ | exact ⟨rfl, (B1 _).trans (hb1.mono (by simp))⟩
theorem rcheck_SM (op d s t mb mi ms md imm : Int) (w : World) (hf : formB op = ⟨#[83, 77]⟩) :
    Calls Try.prog 32 #[.agg #[.int .i64 op, .int .i64 d, .int .i64 s, .int .i64 t, .int .i64 mb, .int .i64 mi, .int .i64 ms, .int .i64 md, .int .i64 imm]] w fun e w' => e = .returned (.int .i64 (errOf ((d == 0) && reg s && (t == 0) && plc mb mi ms md && (imm == 0)))) ∧ Below w.heap.size w w' := by
  cases h0 : (d == 0)
  · have e : errOf ((d == 0) && reg s && (t == 0) && plc mb mi ms md && (imm == 0)) = 2 := by simp [errOf, h0]
    rw [h0] at e
    exact rcheck_SM_0 op d s t mb mi ms md imm w hf h0
  cases h1 : reg s
  · have e : errOf ((d == 0) && reg s && (t == 0) && plc mb mi ms md && (imm == 0)) = 2 := by simp [errOf, h0, h1]
    simp only [h0] at e; rw [h1] at e
    exact rcheck_SM_1 op d s t mb mi ms md imm w hf h0 h1
  cases h2 : (t == 0)
  · have e : errOf ((d == 0) && reg s && (t == 0) && plc mb mi ms md && (imm == 0)) = 2 := by simp [errOf, h0, h1, h2]
    simp only [h0, h1] at e; rw [h2] at e
    exact rcheck_SM_2 op d s t mb mi ms md imm w hf h0 h1 h2
  cases h3 : plc mb mi ms md
  · have e : errOf ((d == 0) && reg s && (t == 0) && plc mb mi ms md && (imm == 0)) = 2 := by simp [errOf, h0, h1, h2, h3]
    simp only [h0, h1, h2] at e; rw [h3] at e
    exact rcheck_SM_3 op d s t mb mi ms md imm w hf h0 h1 h2 h3
  cases h4 : (imm == 0)
  · have e : errOf ((d == 0) && reg s && (t == 0) && plc mb mi ms md && (imm == 0)) = 2 := by simp [errOf, h0, h1, h2, h3, h4]
    simp only [h0, h1, h2, h3] at e; rw [h4] at e
    exact rcheck_SM_4 op d s t mb mi ms md imm w hf h0 h1 h2 h3 h4
  exact rcheck_SM_5 op d s t mb mi ms md imm w hf h0 h1 h2 h3 h4
set_option maxRecDepth 100000 in
set_option maxHeartbeats 2000000 in
theorem rcheck_Di32_0 (op d s t mb mi ms md imm : Int) (w : World) (hf : formB op = ⟨#[68, 105]⟩) (h0 : reg d = false) :
    Calls Try.prog 32 #[.agg #[.int .i64 op, .int .i64 d, .int .i64 s, .int .i64 t, .int .i64 mb, .int .i64 mi, .int .i64 ms, .int .i64 md, .int .i64 imm]] w fun e w' => e = .returned (.int .i64 2) ∧ Below w.heap.size w w' := by
  have B1 : ∀ o, Below w.heap.size w (w.alloc o) := fun o => (Below.refl _ _).alloc (Nat.le_refl _) o
  have c68 : hasC ⟨#[68, 105]⟩ 68 = true := by decide +kernel
  have c83 : hasC ⟨#[68, 105]⟩ 83 = false := by decide +kernel
  have c84 : hasC ⟨#[68, 105]⟩ 84 = false := by decide +kernel
  have c77 : hasC ⟨#[68, 105]⟩ 77 = false := by decide +kernel
  have c105 : hasC ⟨#[68, 105]⟩ 105 = true := by decide +kernel
  have c98 : hasC ⟨#[68, 105]⟩ 98 = false := by decide +kernel
  have c73 : hasC ⟨#[68, 105]⟩ 73 = false := by decide +kernel
  go_enter Try.func32, Try.ntmps32
  go_wp2_with (first | (go_at_call 48; refine (form_any _ _).mono ?_; rw [hf]; rintro e w' ⟨rfl, rfl⟩) | (go_at_call 49; refine (rhas_any _ _ _ (by decide)).mono ?_; (first | rw [c68] | rw [c83] | rw [c84] | rw [c77] | rw [c105] | rw [c98] | rw [c73]); rintro e w' ⟨rfl, rfl⟩) | (go_at_call 50; refine (rregister_any _ _).mono ?_; (first | rw [h0]); rintro e w' ⟨rfl, rfl⟩))
  go_ret
  first | exact ⟨rfl, B1 _⟩ | exact ⟨rfl, (B1 _).trans (hb1.mono (by simp))⟩
set_option maxRecDepth 100000 in
set_option maxHeartbeats 2000000 in
theorem rcheck_Di32_1 (op d s t mb mi ms md imm : Int) (w : World) (hf : formB op = ⟨#[68, 105]⟩) (h0 : reg d = true) (h1 : (s == 0) = false) :
    Calls Try.prog 32 #[.agg #[.int .i64 op, .int .i64 d, .int .i64 s, .int .i64 t, .int .i64 mb, .int .i64 mi, .int .i64 ms, .int .i64 md, .int .i64 imm]] w fun e w' => e = .returned (.int .i64 2) ∧ Below w.heap.size w w' := by
  have B1 : ∀ o, Below w.heap.size w (w.alloc o) := fun o => (Below.refl _ _).alloc (Nat.le_refl _) o
  have c68 : hasC ⟨#[68, 105]⟩ 68 = true := by decide +kernel
  have c83 : hasC ⟨#[68, 105]⟩ 83 = false := by decide +kernel
  have c84 : hasC ⟨#[68, 105]⟩ 84 = false := by decide +kernel
  have c77 : hasC ⟨#[68, 105]⟩ 77 = false := by decide +kernel
  have c105 : hasC ⟨#[68, 105]⟩ 105 = true := by decide +kernel
  have c98 : hasC ⟨#[68, 105]⟩ 98 = false := by decide +kernel
  have c73 : hasC ⟨#[68, 105]⟩ 73 = false := by decide +kernel
  go_enter Try.func32, Try.ntmps32
  go_wp2_with (first | (go_at_call 48; refine (form_any _ _).mono ?_; rw [hf]; rintro e w' ⟨rfl, rfl⟩) | (go_at_call 49; refine (rhas_any _ _ _ (by decide)).mono ?_; (first | rw [c68] | rw [c83] | rw [c84] | rw [c77] | rw [c105] | rw [c98] | rw [c73]); rintro e w' ⟨rfl, rfl⟩) | (go_at_call 50; refine (rregister_any _ _).mono ?_; (first | rw [h0]); rintro e w' ⟨rfl, rfl⟩))
  go_ret
  first | exact ⟨rfl, B1 _⟩ | exact ⟨rfl, (B1 _).trans (hb1.mono (by simp))⟩
set_option maxRecDepth 100000 in
set_option maxHeartbeats 2000000 in
theorem rcheck_Di32_2 (op d s t mb mi ms md imm : Int) (w : World) (hf : formB op = ⟨#[68, 105]⟩) (h0 : reg d = true) (h1 : (s == 0) = true) (h2 : (t == 0) = false) :
    Calls Try.prog 32 #[.agg #[.int .i64 op, .int .i64 d, .int .i64 s, .int .i64 t, .int .i64 mb, .int .i64 mi, .int .i64 ms, .int .i64 md, .int .i64 imm]] w fun e w' => e = .returned (.int .i64 2) ∧ Below w.heap.size w w' := by
  have B1 : ∀ o, Below w.heap.size w (w.alloc o) := fun o => (Below.refl _ _).alloc (Nat.le_refl _) o
  have c68 : hasC ⟨#[68, 105]⟩ 68 = true := by decide +kernel
  have c83 : hasC ⟨#[68, 105]⟩ 83 = false := by decide +kernel
  have c84 : hasC ⟨#[68, 105]⟩ 84 = false := by decide +kernel
  have c77 : hasC ⟨#[68, 105]⟩ 77 = false := by decide +kernel
  have c105 : hasC ⟨#[68, 105]⟩ 105 = true := by decide +kernel
  have c98 : hasC ⟨#[68, 105]⟩ 98 = false := by decide +kernel
  have c73 : hasC ⟨#[68, 105]⟩ 73 = false := by decide +kernel
  go_enter Try.func32, Try.ntmps32
  go_wp2_with (first | (go_at_call 48; refine (form_any _ _).mono ?_; rw [hf]; rintro e w' ⟨rfl, rfl⟩) | (go_at_call 49; refine (rhas_any _ _ _ (by decide)).mono ?_; (first | rw [c68] | rw [c83] | rw [c84] | rw [c77] | rw [c105] | rw [c98] | rw [c73]); rintro e w' ⟨rfl, rfl⟩) | (go_at_call 50; refine (rregister_any _ _).mono ?_; (first | rw [h0]); rintro e w' ⟨rfl, rfl⟩))
  go_ret
  first | exact ⟨rfl, B1 _⟩ | exact ⟨rfl, (B1 _).trans (hb1.mono (by simp))⟩
set_option maxRecDepth 100000 in
set_option maxHeartbeats 2000000 in
theorem rcheck_Di32_3 (op d s t mb mi ms md imm : Int) (w : World) (hf : formB op = ⟨#[68, 105]⟩) (h0 : reg d = true) (h1 : (s == 0) = true) (h2 : (t == 0) = true) (h3 : memZ mb mi ms md = false) :
    Calls Try.prog 32 #[.agg #[.int .i64 op, .int .i64 d, .int .i64 s, .int .i64 t, .int .i64 mb, .int .i64 mi, .int .i64 ms, .int .i64 md, .int .i64 imm]] w fun e w' => e = .returned (.int .i64 2) ∧ Below w.heap.size w w' := by
  have B1 : ∀ o, Below w.heap.size w (w.alloc o) := fun o => (Below.refl _ _).alloc (Nat.le_refl _) o
  have hne := fun w => mem_eql mb mi ms md w
  rw [h3] at hne
  have c68 : hasC ⟨#[68, 105]⟩ 68 = true := by decide +kernel
  have c83 : hasC ⟨#[68, 105]⟩ 83 = false := by decide +kernel
  have c84 : hasC ⟨#[68, 105]⟩ 84 = false := by decide +kernel
  have c77 : hasC ⟨#[68, 105]⟩ 77 = false := by decide +kernel
  have c105 : hasC ⟨#[68, 105]⟩ 105 = true := by decide +kernel
  have c98 : hasC ⟨#[68, 105]⟩ 98 = false := by decide +kernel
  have c73 : hasC ⟨#[68, 105]⟩ 73 = false := by decide +kernel
  go_enter Try.func32, Try.ntmps32
  go_wp2_with (first | (go_at_call 48; refine (form_any _ _).mono ?_; rw [hf]; rintro e w' ⟨rfl, rfl⟩) | (go_at_call 49; refine (rhas_any _ _ _ (by decide)).mono ?_; (first | rw [c68] | rw [c83] | rw [c84] | rw [c77] | rw [c105] | rw [c98] | rw [c73]); rintro e w' ⟨rfl, rfl⟩) | (go_at_call 50; refine (rregister_any _ _).mono ?_; (first | rw [h0]); rintro e w' ⟨rfl, rfl⟩))
  go_ret
  first | exact ⟨rfl, B1 _⟩ | exact ⟨rfl, (B1 _).trans (hb1.mono (by simp))⟩
set_option maxRecDepth 100000 in
set_option maxHeartbeats 2000000 in
theorem rcheck_Di32_4 (op d s t mb mi ms md imm : Int) (w : World) (hf : formB op = ⟨#[68, 105]⟩) (h0 : reg d = true) (h1 : (s == 0) = true) (h2 : (t == 0) = true) (h3 : memZ mb mi ms md = true) (h4 : smallB imm = false) :
    Calls Try.prog 32 #[.agg #[.int .i64 op, .int .i64 d, .int .i64 s, .int .i64 t, .int .i64 mb, .int .i64 mi, .int .i64 ms, .int .i64 md, .int .i64 imm]] w fun e w' => e = .returned (.int .i64 2) ∧ Below w.heap.size w w' := by
  have B1 : ∀ o, Below w.heap.size w (w.alloc o) := fun o => (Below.refl _ _).alloc (Nat.le_refl _) o
  have hne := fun w => mem_eql mb mi ms md w
  rw [h3] at hne
  have c68 : hasC ⟨#[68, 105]⟩ 68 = true := by decide +kernel
  have c83 : hasC ⟨#[68, 105]⟩ 83 = false := by decide +kernel
  have c84 : hasC ⟨#[68, 105]⟩ 84 = false := by decide +kernel
  have c77 : hasC ⟨#[68, 105]⟩ 77 = false := by decide +kernel
  have c105 : hasC ⟨#[68, 105]⟩ 105 = true := by decide +kernel
  have c98 : hasC ⟨#[68, 105]⟩ 98 = false := by decide +kernel
  have c73 : hasC ⟨#[68, 105]⟩ 73 = false := by decide +kernel
  go_enter Try.func32, Try.ntmps32
  go_wp2_with (first | (go_at_call 48; refine (form_any _ _).mono ?_; rw [hf]; rintro e w' ⟨rfl, rfl⟩) | (go_at_call 49; refine (rhas_any _ _ _ (by decide)).mono ?_; (first | rw [c68] | rw [c83] | rw [c84] | rw [c77] | rw [c105] | rw [c98] | rw [c73]); rintro e w' ⟨rfl, rfl⟩) | (go_at_call 50; refine (rregister_any _ _).mono ?_; (first | rw [h0]); rintro e w' ⟨rfl, rfl⟩) | (go_at_call 52; refine (rsmall_any _ _).mono ?_; rw [h4]; rintro e w' ⟨rfl, rfl⟩))
  go_ret
  first | exact ⟨rfl, B1 _⟩ | exact ⟨rfl, (B1 _).trans (hb1.mono (by simp))⟩
set_option maxRecDepth 100000 in
set_option maxHeartbeats 2000000 in
theorem rcheck_Di32_5 (op d s t mb mi ms md imm : Int) (w : World) (hf : formB op = ⟨#[68, 105]⟩) (h0 : reg d = true) (h1 : (s == 0) = true) (h2 : (t == 0) = true) (h3 : memZ mb mi ms md = true) (h4 : smallB imm = true) :
    Calls Try.prog 32 #[.agg #[.int .i64 op, .int .i64 d, .int .i64 s, .int .i64 t, .int .i64 mb, .int .i64 mi, .int .i64 ms, .int .i64 md, .int .i64 imm]] w fun e w' => e = .returned (.int .i64 0) ∧ Below w.heap.size w w' := by
  have B1 : ∀ o, Below w.heap.size w (w.alloc o) := fun o => (Below.refl _ _).alloc (Nat.le_refl _) o
  have hne := fun w => mem_eql mb mi ms md w
  rw [h3] at hne
  have c68 : hasC ⟨#[68, 105]⟩ 68 = true := by decide +kernel
  have c83 : hasC ⟨#[68, 105]⟩ 83 = false := by decide +kernel
  have c84 : hasC ⟨#[68, 105]⟩ 84 = false := by decide +kernel
  have c77 : hasC ⟨#[68, 105]⟩ 77 = false := by decide +kernel
  have c105 : hasC ⟨#[68, 105]⟩ 105 = true := by decide +kernel
  have c98 : hasC ⟨#[68, 105]⟩ 98 = false := by decide +kernel
  have c73 : hasC ⟨#[68, 105]⟩ 73 = false := by decide +kernel
  go_enter Try.func32, Try.ntmps32
  go_wp2_with (first | (go_at_call 48; refine (form_any _ _).mono ?_; rw [hf]; rintro e w' ⟨rfl, rfl⟩) | (go_at_call 49; refine (rhas_any _ _ _ (by decide)).mono ?_; (first | rw [c68] | rw [c83] | rw [c84] | rw [c77] | rw [c105] | rw [c98] | rw [c73]); rintro e w' ⟨rfl, rfl⟩) | (go_at_call 50; refine (rregister_any _ _).mono ?_; (first | rw [h0]); rintro e w' ⟨rfl, rfl⟩) | (go_at_call 52; refine (rsmall_any _ _).mono ?_; rw [h4]; rintro e w' ⟨rfl, rfl⟩))
  go_ret
  first | exact ⟨rfl, B1 _⟩ | exact ⟨rfl, (B1 _).trans (hb1.mono (by simp))⟩
theorem rcheck_Di32 (op d s t mb mi ms md imm : Int) (w : World) (hf : formB op = ⟨#[68, 105]⟩) :
    Calls Try.prog 32 #[.agg #[.int .i64 op, .int .i64 d, .int .i64 s, .int .i64 t, .int .i64 mb, .int .i64 mi, .int .i64 ms, .int .i64 md, .int .i64 imm]] w fun e w' => e = .returned (.int .i64 (errOf (reg d && (s == 0) && (t == 0) && memZ mb mi ms md && smallB imm))) ∧ Below w.heap.size w w' := by
  cases h0 : reg d
  · have e : errOf (reg d && (s == 0) && (t == 0) && memZ mb mi ms md && smallB imm) = 2 := by simp [errOf, h0]
    rw [h0] at e
    exact rcheck_Di32_0 op d s t mb mi ms md imm w hf h0
  cases h1 : (s == 0)
  · have e : errOf (reg d && (s == 0) && (t == 0) && memZ mb mi ms md && smallB imm) = 2 := by simp [errOf, h0, h1]
    simp only [h0] at e; rw [h1] at e
    exact rcheck_Di32_1 op d s t mb mi ms md imm w hf h0 h1
  cases h2 : (t == 0)
  · have e : errOf (reg d && (s == 0) && (t == 0) && memZ mb mi ms md && smallB imm) = 2 := by simp [errOf, h0, h1, h2]
    simp only [h0, h1] at e; rw [h2] at e
    exact rcheck_Di32_2 op d s t mb mi ms md imm w hf h0 h1 h2
  cases h3 : memZ mb mi ms md
  · have e : errOf (reg d && (s == 0) && (t == 0) && memZ mb mi ms md && smallB imm) = 2 := by simp [errOf, h0, h1, h2, h3]
    simp only [h0, h1, h2] at e; rw [h3] at e
    exact rcheck_Di32_3 op d s t mb mi ms md imm w hf h0 h1 h2 h3
  cases h4 : smallB imm
  · have e : errOf (reg d && (s == 0) && (t == 0) && memZ mb mi ms md && smallB imm) = 2 := by simp [errOf, h0, h1, h2, h3, h4]
    simp only [h0, h1, h2, h3] at e; rw [h4] at e
    exact rcheck_Di32_4 op d s t mb mi ms md imm w hf h0 h1 h2 h3 h4
  exact rcheck_Di32_5 op d s t mb mi ms md imm w hf h0 h1 h2 h3 h4
set_option maxRecDepth 100000 in
set_option maxHeartbeats 2000000 in
theorem rcheck_DST_0 (op d s t mb mi ms md imm : Int) (w : World) (hf : formB op = ⟨#[68, 83, 84]⟩) (h0 : reg d = false) :
    Calls Try.prog 32 #[.agg #[.int .i64 op, .int .i64 d, .int .i64 s, .int .i64 t, .int .i64 mb, .int .i64 mi, .int .i64 ms, .int .i64 md, .int .i64 imm]] w fun e w' => e = .returned (.int .i64 2) ∧ Below w.heap.size w w' := by
  have B1 : ∀ o, Below w.heap.size w (w.alloc o) := fun o => (Below.refl _ _).alloc (Nat.le_refl _) o
  have c68 : hasC ⟨#[68, 83, 84]⟩ 68 = true := by decide +kernel
  have c83 : hasC ⟨#[68, 83, 84]⟩ 83 = true := by decide +kernel
  have c84 : hasC ⟨#[68, 83, 84]⟩ 84 = true := by decide +kernel
  have c77 : hasC ⟨#[68, 83, 84]⟩ 77 = false := by decide +kernel
  have c105 : hasC ⟨#[68, 83, 84]⟩ 105 = false := by decide +kernel
  have c98 : hasC ⟨#[68, 83, 84]⟩ 98 = false := by decide +kernel
  have c73 : hasC ⟨#[68, 83, 84]⟩ 73 = false := by decide +kernel
  go_enter Try.func32, Try.ntmps32
  go_wp2_with (first | (go_at_call 48; refine (form_any _ _).mono ?_; rw [hf]; rintro e w' ⟨rfl, rfl⟩) | (go_at_call 49; refine (rhas_any _ _ _ (by decide)).mono ?_; (first | rw [c68] | rw [c83] | rw [c84] | rw [c77] | rw [c105] | rw [c98] | rw [c73]); rintro e w' ⟨rfl, rfl⟩) | (go_at_call 50; refine (rregister_any _ _).mono ?_; (first | rw [h0]); rintro e w' ⟨rfl, rfl⟩))
  go_ret
  first | exact ⟨rfl, B1 _⟩ | exact ⟨rfl, (B1 _).trans (hb1.mono (by simp))⟩
set_option maxRecDepth 100000 in
set_option maxHeartbeats 2000000 in
theorem rcheck_DST_1 (op d s t mb mi ms md imm : Int) (w : World) (hf : formB op = ⟨#[68, 83, 84]⟩) (h0 : reg d = true) (h1 : reg s = false) :
    Calls Try.prog 32 #[.agg #[.int .i64 op, .int .i64 d, .int .i64 s, .int .i64 t, .int .i64 mb, .int .i64 mi, .int .i64 ms, .int .i64 md, .int .i64 imm]] w fun e w' => e = .returned (.int .i64 2) ∧ Below w.heap.size w w' := by
  have B1 : ∀ o, Below w.heap.size w (w.alloc o) := fun o => (Below.refl _ _).alloc (Nat.le_refl _) o
  have c68 : hasC ⟨#[68, 83, 84]⟩ 68 = true := by decide +kernel
  have c83 : hasC ⟨#[68, 83, 84]⟩ 83 = true := by decide +kernel
  have c84 : hasC ⟨#[68, 83, 84]⟩ 84 = true := by decide +kernel
  have c77 : hasC ⟨#[68, 83, 84]⟩ 77 = false := by decide +kernel
  have c105 : hasC ⟨#[68, 83, 84]⟩ 105 = false := by decide +kernel
  have c98 : hasC ⟨#[68, 83, 84]⟩ 98 = false := by decide +kernel
  have c73 : hasC ⟨#[68, 83, 84]⟩ 73 = false := by decide +kernel
  go_enter Try.func32, Try.ntmps32
  go_wp2_with (first | (go_at_call 48; refine (form_any _ _).mono ?_; rw [hf]; rintro e w' ⟨rfl, rfl⟩) | (go_at_call 49; refine (rhas_any _ _ _ (by decide)).mono ?_; (first | rw [c68] | rw [c83] | rw [c84] | rw [c77] | rw [c105] | rw [c98] | rw [c73]); rintro e w' ⟨rfl, rfl⟩) | (go_at_call 50; refine (rregister_any _ _).mono ?_; (first | rw [h0] | rw [h1]); rintro e w' ⟨rfl, rfl⟩))
  go_ret
  first | exact ⟨rfl, B1 _⟩ | exact ⟨rfl, (B1 _).trans (hb1.mono (by simp))⟩
set_option maxRecDepth 100000 in
set_option maxHeartbeats 2000000 in
theorem rcheck_DST_2 (op d s t mb mi ms md imm : Int) (w : World) (hf : formB op = ⟨#[68, 83, 84]⟩) (h0 : reg d = true) (h1 : reg s = true) (h2 : reg t = false) :
    Calls Try.prog 32 #[.agg #[.int .i64 op, .int .i64 d, .int .i64 s, .int .i64 t, .int .i64 mb, .int .i64 mi, .int .i64 ms, .int .i64 md, .int .i64 imm]] w fun e w' => e = .returned (.int .i64 2) ∧ Below w.heap.size w w' := by
  have B1 : ∀ o, Below w.heap.size w (w.alloc o) := fun o => (Below.refl _ _).alloc (Nat.le_refl _) o
  have c68 : hasC ⟨#[68, 83, 84]⟩ 68 = true := by decide +kernel
  have c83 : hasC ⟨#[68, 83, 84]⟩ 83 = true := by decide +kernel
  have c84 : hasC ⟨#[68, 83, 84]⟩ 84 = true := by decide +kernel
  have c77 : hasC ⟨#[68, 83, 84]⟩ 77 = false := by decide +kernel
  have c105 : hasC ⟨#[68, 83, 84]⟩ 105 = false := by decide +kernel
  have c98 : hasC ⟨#[68, 83, 84]⟩ 98 = false := by decide +kernel
  have c73 : hasC ⟨#[68, 83, 84]⟩ 73 = false := by decide +kernel
  go_enter Try.func32, Try.ntmps32
  go_wp2_with (first | (go_at_call 48; refine (form_any _ _).mono ?_; rw [hf]; rintro e w' ⟨rfl, rfl⟩) | (go_at_call 49; refine (rhas_any _ _ _ (by decide)).mono ?_; (first | rw [c68] | rw [c83] | rw [c84] | rw [c77] | rw [c105] | rw [c98] | rw [c73]); rintro e w' ⟨rfl, rfl⟩) | (go_at_call 50; refine (rregister_any _ _).mono ?_; (first | rw [h0] | rw [h1] | rw [h2]); rintro e w' ⟨rfl, rfl⟩))
  go_ret
  first | exact ⟨rfl, B1 _⟩ | exact ⟨rfl, (B1 _).trans (hb1.mono (by simp))⟩
set_option maxRecDepth 100000 in
set_option maxHeartbeats 2000000 in
theorem rcheck_DST_3 (op d s t mb mi ms md imm : Int) (w : World) (hf : formB op = ⟨#[68, 83, 84]⟩) (h0 : reg d = true) (h1 : reg s = true) (h2 : reg t = true) (h3 : (d != s) = false) :
    Calls Try.prog 32 #[.agg #[.int .i64 op, .int .i64 d, .int .i64 s, .int .i64 t, .int .i64 mb, .int .i64 mi, .int .i64 ms, .int .i64 md, .int .i64 imm]] w fun e w' => e = .returned (.int .i64 2) ∧ Below w.heap.size w w' := by
  have B1 : ∀ o, Below w.heap.size w (w.alloc o) := fun o => (Below.refl _ _).alloc (Nat.le_refl _) o
  have c68 : hasC ⟨#[68, 83, 84]⟩ 68 = true := by decide +kernel
  have c83 : hasC ⟨#[68, 83, 84]⟩ 83 = true := by decide +kernel
  have c84 : hasC ⟨#[68, 83, 84]⟩ 84 = true := by decide +kernel
  have c77 : hasC ⟨#[68, 83, 84]⟩ 77 = false := by decide +kernel
  have c105 : hasC ⟨#[68, 83, 84]⟩ 105 = false := by decide +kernel
  have c98 : hasC ⟨#[68, 83, 84]⟩ 98 = false := by decide +kernel
  have c73 : hasC ⟨#[68, 83, 84]⟩ 73 = false := by decide +kernel
  go_enter Try.func32, Try.ntmps32
  go_wp2_with (first | (go_at_call 48; refine (form_any _ _).mono ?_; rw [hf]; rintro e w' ⟨rfl, rfl⟩) | (go_at_call 49; refine (rhas_any _ _ _ (by decide)).mono ?_; (first | rw [c68] | rw [c83] | rw [c84] | rw [c77] | rw [c105] | rw [c98] | rw [c73]); rintro e w' ⟨rfl, rfl⟩) | (go_at_call 50; refine (rregister_any _ _).mono ?_; (first | rw [h0] | rw [h1] | rw [h2]); rintro e w' ⟨rfl, rfl⟩))
  go_ret
  first | exact ⟨rfl, B1 _⟩ | exact ⟨rfl, (B1 _).trans (hb1.mono (by simp))⟩
set_option maxRecDepth 100000 in
set_option maxHeartbeats 2000000 in
theorem rcheck_DST_4 (op d s t mb mi ms md imm : Int) (w : World) (hf : formB op = ⟨#[68, 83, 84]⟩) (h0 : reg d = true) (h1 : reg s = true) (h2 : reg t = true) (h3 : (d != s) = true) (h4 : memZ mb mi ms md = false) :
    Calls Try.prog 32 #[.agg #[.int .i64 op, .int .i64 d, .int .i64 s, .int .i64 t, .int .i64 mb, .int .i64 mi, .int .i64 ms, .int .i64 md, .int .i64 imm]] w fun e w' => e = .returned (.int .i64 2) ∧ Below w.heap.size w w' := by
  have B1 : ∀ o, Below w.heap.size w (w.alloc o) := fun o => (Below.refl _ _).alloc (Nat.le_refl _) o
  have hne := fun w => mem_eql mb mi ms md w
  rw [h4] at hne
  have c68 : hasC ⟨#[68, 83, 84]⟩ 68 = true := by decide +kernel
  have c83 : hasC ⟨#[68, 83, 84]⟩ 83 = true := by decide +kernel
  have c84 : hasC ⟨#[68, 83, 84]⟩ 84 = true := by decide +kernel
  have c77 : hasC ⟨#[68, 83, 84]⟩ 77 = false := by decide +kernel
  have c105 : hasC ⟨#[68, 83, 84]⟩ 105 = false := by decide +kernel
  have c98 : hasC ⟨#[68, 83, 84]⟩ 98 = false := by decide +kernel
  have c73 : hasC ⟨#[68, 83, 84]⟩ 73 = false := by decide +kernel
  go_enter Try.func32, Try.ntmps32
  go_wp2_with (first | (go_at_call 48; refine (form_any _ _).mono ?_; rw [hf]; rintro e w' ⟨rfl, rfl⟩) | (go_at_call 49; refine (rhas_any _ _ _ (by decide)).mono ?_; (first | rw [c68] | rw [c83] | rw [c84] | rw [c77] | rw [c105] | rw [c98] | rw [c73]); rintro e w' ⟨rfl, rfl⟩) | (go_at_call 50; refine (rregister_any _ _).mono ?_; (first | rw [h0] | rw [h1] | rw [h2]); rintro e w' ⟨rfl, rfl⟩))
  go_ret
  first | exact ⟨rfl, B1 _⟩ | exact ⟨rfl, (B1 _).trans (hb1.mono (by simp))⟩
set_option maxRecDepth 100000 in
set_option maxHeartbeats 2000000 in
theorem rcheck_DST_5 (op d s t mb mi ms md imm : Int) (w : World) (hf : formB op = ⟨#[68, 83, 84]⟩) (h0 : reg d = true) (h1 : reg s = true) (h2 : reg t = true) (h3 : (d != s) = true) (h4 : memZ mb mi ms md = true) (h5 : (imm == 0) = false) :
    Calls Try.prog 32 #[.agg #[.int .i64 op, .int .i64 d, .int .i64 s, .int .i64 t, .int .i64 mb, .int .i64 mi, .int .i64 ms, .int .i64 md, .int .i64 imm]] w fun e w' => e = .returned (.int .i64 2) ∧ Below w.heap.size w w' := by
  have B1 : ∀ o, Below w.heap.size w (w.alloc o) := fun o => (Below.refl _ _).alloc (Nat.le_refl _) o
  have hne := fun w => mem_eql mb mi ms md w
  rw [h4] at hne
  have c68 : hasC ⟨#[68, 83, 84]⟩ 68 = true := by decide +kernel
  have c83 : hasC ⟨#[68, 83, 84]⟩ 83 = true := by decide +kernel
  have c84 : hasC ⟨#[68, 83, 84]⟩ 84 = true := by decide +kernel
  have c77 : hasC ⟨#[68, 83, 84]⟩ 77 = false := by decide +kernel
  have c105 : hasC ⟨#[68, 83, 84]⟩ 105 = false := by decide +kernel
  have c98 : hasC ⟨#[68, 83, 84]⟩ 98 = false := by decide +kernel
  have c73 : hasC ⟨#[68, 83, 84]⟩ 73 = false := by decide +kernel
  go_enter Try.func32, Try.ntmps32
  go_wp2_with (first | (go_at_call 48; refine (form_any _ _).mono ?_; rw [hf]; rintro e w' ⟨rfl, rfl⟩) | (go_at_call 49; refine (rhas_any _ _ _ (by decide)).mono ?_; (first | rw [c68] | rw [c83] | rw [c84] | rw [c77] | rw [c105] | rw [c98] | rw [c73]); rintro e w' ⟨rfl, rfl⟩) | (go_at_call 50; refine (rregister_any _ _).mono ?_; (first | rw [h0] | rw [h1] | rw [h2]); rintro e w' ⟨rfl, rfl⟩))
  go_ret
  first | exact ⟨rfl, B1 _⟩ | exact ⟨rfl, (B1 _).trans (hb1.mono (by simp))⟩
set_option maxRecDepth 100000 in
set_option maxHeartbeats 2000000 in
theorem rcheck_DST_6 (op d s t mb mi ms md imm : Int) (w : World) (hf : formB op = ⟨#[68, 83, 84]⟩) (h0 : reg d = true) (h1 : reg s = true) (h2 : reg t = true) (h3 : (d != s) = true) (h4 : memZ mb mi ms md = true) (h5 : (imm == 0) = true) :
    Calls Try.prog 32 #[.agg #[.int .i64 op, .int .i64 d, .int .i64 s, .int .i64 t, .int .i64 mb, .int .i64 mi, .int .i64 ms, .int .i64 md, .int .i64 imm]] w fun e w' => e = .returned (.int .i64 0) ∧ Below w.heap.size w w' := by
  have B1 : ∀ o, Below w.heap.size w (w.alloc o) := fun o => (Below.refl _ _).alloc (Nat.le_refl _) o
  have hne := fun w => mem_eql mb mi ms md w
  rw [h4] at hne
  have c68 : hasC ⟨#[68, 83, 84]⟩ 68 = true := by decide +kernel
  have c83 : hasC ⟨#[68, 83, 84]⟩ 83 = true := by decide +kernel
  have c84 : hasC ⟨#[68, 83, 84]⟩ 84 = true := by decide +kernel
  have c77 : hasC ⟨#[68, 83, 84]⟩ 77 = false := by decide +kernel
  have c105 : hasC ⟨#[68, 83, 84]⟩ 105 = false := by decide +kernel
  have c98 : hasC ⟨#[68, 83, 84]⟩ 98 = false := by decide +kernel
  have c73 : hasC ⟨#[68, 83, 84]⟩ 73 = false := by decide +kernel
  go_enter Try.func32, Try.ntmps32
  go_wp2_with (first | (go_at_call 48; refine (form_any _ _).mono ?_; rw [hf]; rintro e w' ⟨rfl, rfl⟩) | (go_at_call 49; refine (rhas_any _ _ _ (by decide)).mono ?_; (first | rw [c68] | rw [c83] | rw [c84] | rw [c77] | rw [c105] | rw [c98] | rw [c73]); rintro e w' ⟨rfl, rfl⟩) | (go_at_call 50; refine (rregister_any _ _).mono ?_; (first | rw [h0] | rw [h1] | rw [h2]); rintro e w' ⟨rfl, rfl⟩))
  go_ret
  first | exact ⟨rfl, B1 _⟩ | exact ⟨rfl, (B1 _).trans (hb1.mono (by simp))⟩
theorem rcheck_DST (op d s t mb mi ms md imm : Int) (w : World) (hf : formB op = ⟨#[68, 83, 84]⟩) :
    Calls Try.prog 32 #[.agg #[.int .i64 op, .int .i64 d, .int .i64 s, .int .i64 t, .int .i64 mb, .int .i64 mi, .int .i64 ms, .int .i64 md, .int .i64 imm]] w fun e w' => e = .returned (.int .i64 (errOf (reg d && reg s && reg t && (d != s) && memZ mb mi ms md && (imm == 0)))) ∧ Below w.heap.size w w' := by
  cases h0 : reg d
  · have e : errOf (reg d && reg s && reg t && (d != s) && memZ mb mi ms md && (imm == 0)) = 2 := by simp [errOf, h0]
    rw [h0] at e
    exact rcheck_DST_0 op d s t mb mi ms md imm w hf h0
  cases h1 : reg s
  · have e : errOf (reg d && reg s && reg t && (d != s) && memZ mb mi ms md && (imm == 0)) = 2 := by simp [errOf, h0, h1]
    simp only [h0] at e; rw [h1] at e
    exact rcheck_DST_1 op d s t mb mi ms md imm w hf h0 h1
  cases h2 : reg t
  · have e : errOf (reg d && reg s && reg t && (d != s) && memZ mb mi ms md && (imm == 0)) = 2 := by simp [errOf, h0, h1, h2]
    simp only [h0, h1] at e; rw [h2] at e
    exact rcheck_DST_2 op d s t mb mi ms md imm w hf h0 h1 h2
  cases h3 : (d != s)
  · have e : errOf (reg d && reg s && reg t && (d != s) && memZ mb mi ms md && (imm == 0)) = 2 := by simp [errOf, h0, h1, h2, h3]
    simp only [h0, h1, h2] at e; rw [h3] at e
    exact rcheck_DST_3 op d s t mb mi ms md imm w hf h0 h1 h2 h3
  cases h4 : memZ mb mi ms md
  · have e : errOf (reg d && reg s && reg t && (d != s) && memZ mb mi ms md && (imm == 0)) = 2 := by simp [errOf, h0, h1, h2, h3, h4]
    simp only [h0, h1, h2, h3] at e; rw [h4] at e
    exact rcheck_DST_4 op d s t mb mi ms md imm w hf h0 h1 h2 h3 h4
  cases h5 : (imm == 0)
  · have e : errOf (reg d && reg s && reg t && (d != s) && memZ mb mi ms md && (imm == 0)) = 2 := by simp [errOf, h0, h1, h2, h3, h4, h5]
    simp only [h0, h1, h2, h3, h4] at e; rw [h5] at e
    exact rcheck_DST_5 op d s t mb mi ms md imm w hf h0 h1 h2 h3 h4 h5
  exact rcheck_DST_6 op d s t mb mi ms md imm w hf h0 h1 h2 h3 h4 h5
end Go.Proofs.Ytbcaelhchmoigaa

/- keysmithref05 (the document's answer for layer 5): Check, its cases C. Conditions: none. -/
namespace Go.Proofs.Ytbcaelhchmoigaa
open Go.RowKit Calm

set_option maxRecDepth 100000 in
set_option maxHeartbeats 2000000 in
theorem rcheck_D_0 (op d s t mb mi ms md imm : Int) (w : World) (hf : formB op = ⟨#[68]⟩) (h0 : reg d = false) :
    Calls Try.prog 32 #[.agg #[.int .i64 op, .int .i64 d, .int .i64 s, .int .i64 t, .int .i64 mb, .int .i64 mi, .int .i64 ms, .int .i64 md, .int .i64 imm]] w fun e w' => e = .returned (.int .i64 2) ∧ Below w.heap.size w w' := by
  have B1 : ∀ o, Below w.heap.size w (w.alloc o) := fun o => (Below.refl _ _).alloc (Nat.le_refl _) o
  have c68 : hasC ⟨#[68]⟩ 68 = true := by decide +kernel
  have c83 : hasC ⟨#[68]⟩ 83 = false := by decide +kernel
  have c84 : hasC ⟨#[68]⟩ 84 = false := by decide +kernel
  have c77 : hasC ⟨#[68]⟩ 77 = false := by decide +kernel
  have c105 : hasC ⟨#[68]⟩ 105 = false := by decide +kernel
  have c98 : hasC ⟨#[68]⟩ 98 = false := by decide +kernel
  have c73 : hasC ⟨#[68]⟩ 73 = false := by decide +kernel
  go_enter Try.func32, Try.ntmps32
  go_wp2_with (first | (go_at_call 48; refine (form_any _ _).mono ?_; rw [hf]; rintro e w' ⟨rfl, rfl⟩) | (go_at_call 49; refine (rhas_any _ _ _ (by decide)).mono ?_; (first | rw [c68] | rw [c83] | rw [c84] | rw [c77] | rw [c105] | rw [c98] | rw [c73]); rintro e w' ⟨rfl, rfl⟩) | (go_at_call 50; refine (rregister_any _ _).mono ?_; (first | rw [h0]); rintro e w' ⟨rfl, rfl⟩))
  go_ret
  first | exact ⟨rfl, B1 _⟩ | exact ⟨rfl, (B1 _).trans (hb1.mono (by simp))⟩
set_option maxRecDepth 100000 in
set_option maxHeartbeats 2000000 in
theorem rcheck_D_1 (op d s t mb mi ms md imm : Int) (w : World) (hf : formB op = ⟨#[68]⟩) (h0 : reg d = true) (h1 : (s == 0) = false) :
    Calls Try.prog 32 #[.agg #[.int .i64 op, .int .i64 d, .int .i64 s, .int .i64 t, .int .i64 mb, .int .i64 mi, .int .i64 ms, .int .i64 md, .int .i64 imm]] w fun e w' => e = .returned (.int .i64 2) ∧ Below w.heap.size w w' := by
  have B1 : ∀ o, Below w.heap.size w (w.alloc o) := fun o => (Below.refl _ _).alloc (Nat.le_refl _) o
  have c68 : hasC ⟨#[68]⟩ 68 = true := by decide +kernel
  have c83 : hasC ⟨#[68]⟩ 83 = false := by decide +kernel
  have c84 : hasC ⟨#[68]⟩ 84 = false := by decide +kernel
  have c77 : hasC ⟨#[68]⟩ 77 = false := by decide +kernel
  have c105 : hasC ⟨#[68]⟩ 105 = false := by decide +kernel
  have c98 : hasC ⟨#[68]⟩ 98 = false := by decide +kernel
  have c73 : hasC ⟨#[68]⟩ 73 = false := by decide +kernel
  go_enter Try.func32, Try.ntmps32
  go_wp2_with (first | (go_at_call 48; refine (form_any _ _).mono ?_; rw [hf]; rintro e w' ⟨rfl, rfl⟩) | (go_at_call 49; refine (rhas_any _ _ _ (by decide)).mono ?_; (first | rw [c68] | rw [c83] | rw [c84] | rw [c77] | rw [c105] | rw [c98] | rw [c73]); rintro e w' ⟨rfl, rfl⟩) | (go_at_call 50; refine (rregister_any _ _).mono ?_; (first | rw [h0]); rintro e w' ⟨rfl, rfl⟩))
  go_ret
  first | exact ⟨rfl, B1 _⟩ | exact ⟨rfl, (B1 _).trans (hb1.mono (by simp))⟩
set_option maxRecDepth 100000 in
set_option maxHeartbeats 2000000 in
theorem rcheck_D_2 (op d s t mb mi ms md imm : Int) (w : World) (hf : formB op = ⟨#[68]⟩) (h0 : reg d = true) (h1 : (s == 0) = true) (h2 : (t == 0) = false) :
    Calls Try.prog 32 #[.agg #[.int .i64 op, .int .i64 d, .int .i64 s, .int .i64 t, .int .i64 mb, .int .i64 mi, .int .i64 ms, .int .i64 md, .int .i64 imm]] w fun e w' => e = .returned (.int .i64 2) ∧ Below w.heap.size w w' := by
  have B1 : ∀ o, Below w.heap.size w (w.alloc o) := fun o => (Below.refl _ _).alloc (Nat.le_refl _) o
  have c68 : hasC ⟨#[68]⟩ 68 = true := by decide +kernel
  have c83 : hasC ⟨#[68]⟩ 83 = false := by decide +kernel
  have c84 : hasC ⟨#[68]⟩ 84 = false := by decide +kernel
  have c77 : hasC ⟨#[68]⟩ 77 = false := by decide +kernel
  have c105 : hasC ⟨#[68]⟩ 105 = false := by decide +kernel
  have c98 : hasC ⟨#[68]⟩ 98 = false := by decide +kernel
  have c73 : hasC ⟨#[68]⟩ 73 = false := by decide +kernel
  go_enter Try.func32, Try.ntmps32
  go_wp2_with (first | (go_at_call 48; refine (form_any _ _).mono ?_; rw [hf]; rintro e w' ⟨rfl, rfl⟩) | (go_at_call 49; refine (rhas_any _ _ _ (by decide)).mono ?_; (first | rw [c68] | rw [c83] | rw [c84] | rw [c77] | rw [c105] | rw [c98] | rw [c73]); rintro e w' ⟨rfl, rfl⟩) | (go_at_call 50; refine (rregister_any _ _).mono ?_; (first | rw [h0]); rintro e w' ⟨rfl, rfl⟩))
  go_ret
  first | exact ⟨rfl, B1 _⟩ | exact ⟨rfl, (B1 _).trans (hb1.mono (by simp))⟩
set_option maxRecDepth 100000 in
set_option maxHeartbeats 2000000 in
theorem rcheck_D_3 (op d s t mb mi ms md imm : Int) (w : World) (hf : formB op = ⟨#[68]⟩) (h0 : reg d = true) (h1 : (s == 0) = true) (h2 : (t == 0) = true) (h3 : memZ mb mi ms md = false) :
    Calls Try.prog 32 #[.agg #[.int .i64 op, .int .i64 d, .int .i64 s, .int .i64 t, .int .i64 mb, .int .i64 mi, .int .i64 ms, .int .i64 md, .int .i64 imm]] w fun e w' => e = .returned (.int .i64 2) ∧ Below w.heap.size w w' := by
  have B1 : ∀ o, Below w.heap.size w (w.alloc o) := fun o => (Below.refl _ _).alloc (Nat.le_refl _) o
  have hne := fun w => mem_eql mb mi ms md w
  rw [h3] at hne
  have c68 : hasC ⟨#[68]⟩ 68 = true := by decide +kernel
  have c83 : hasC ⟨#[68]⟩ 83 = false := by decide +kernel
  have c84 : hasC ⟨#[68]⟩ 84 = false := by decide +kernel
  have c77 : hasC ⟨#[68]⟩ 77 = false := by decide +kernel
  have c105 : hasC ⟨#[68]⟩ 105 = false := by decide +kernel
  have c98 : hasC ⟨#[68]⟩ 98 = false := by decide +kernel
  have c73 : hasC ⟨#[68]⟩ 73 = false := by decide +kernel
  go_enter Try.func32, Try.ntmps32
  go_wp2_with (first | (go_at_call 48; refine (form_any _ _).mono ?_; rw [hf]; rintro e w' ⟨rfl, rfl⟩) | (go_at_call 49; refine (rhas_any _ _ _ (by decide)).mono ?_; (first | rw [c68] | rw [c83] | rw [c84] | rw [c77] | rw [c105] | rw [c98] | rw [c73]); rintro e w' ⟨rfl, rfl⟩) | (go_at_call 50; refine (rregister_any _ _).mono ?_; (first | rw [h0]); rintro e w' ⟨rfl, rfl⟩))
  go_ret
  first | exact ⟨rfl, B1 _⟩ | exact ⟨rfl, (B1 _).trans (hb1.mono (by simp))⟩
set_option maxRecDepth 100000 in
set_option maxHeartbeats 2000000 in
theorem rcheck_D_4 (op d s t mb mi ms md imm : Int) (w : World) (hf : formB op = ⟨#[68]⟩) (h0 : reg d = true) (h1 : (s == 0) = true) (h2 : (t == 0) = true) (h3 : memZ mb mi ms md = true) (h4 : (imm == 0) = false) :
    Calls Try.prog 32 #[.agg #[.int .i64 op, .int .i64 d, .int .i64 s, .int .i64 t, .int .i64 mb, .int .i64 mi, .int .i64 ms, .int .i64 md, .int .i64 imm]] w fun e w' => e = .returned (.int .i64 2) ∧ Below w.heap.size w w' := by
  have B1 : ∀ o, Below w.heap.size w (w.alloc o) := fun o => (Below.refl _ _).alloc (Nat.le_refl _) o
  have hne := fun w => mem_eql mb mi ms md w
  rw [h3] at hne
  have c68 : hasC ⟨#[68]⟩ 68 = true := by decide +kernel
  have c83 : hasC ⟨#[68]⟩ 83 = false := by decide +kernel
  have c84 : hasC ⟨#[68]⟩ 84 = false := by decide +kernel
  have c77 : hasC ⟨#[68]⟩ 77 = false := by decide +kernel
  have c105 : hasC ⟨#[68]⟩ 105 = false := by decide +kernel
  have c98 : hasC ⟨#[68]⟩ 98 = false := by decide +kernel
  have c73 : hasC ⟨#[68]⟩ 73 = false := by decide +kernel
  go_enter Try.func32, Try.ntmps32
  go_wp2_with (first | (go_at_call 48; refine (form_any _ _).mono ?_; rw [hf]; rintro e w' ⟨rfl, rfl⟩) | (go_at_call 49; refine (rhas_any _ _ _ (by decide)).mono ?_; (first | rw [c68] | rw [c83] | rw [c84] | rw [c77] | rw [c105] | rw [c98] | rw [c73]); rintro e w' ⟨rfl, rfl⟩) | (go_at_call 50; refine (rregister_any _ _).mono ?_; (first | rw [h0]); rintro e w' ⟨rfl, rfl⟩))
  go_ret
  first | exact ⟨rfl, B1 _⟩ | exact ⟨rfl, (B1 _).trans (hb1.mono (by simp))⟩
set_option maxRecDepth 100000 in
set_option maxHeartbeats 2000000 in
theorem rcheck_D_5 (op d s t mb mi ms md imm : Int) (w : World) (hf : formB op = ⟨#[68]⟩) (h0 : reg d = true) (h1 : (s == 0) = true) (h2 : (t == 0) = true) (h3 : memZ mb mi ms md = true) (h4 : (imm == 0) = true) :
    Calls Try.prog 32 #[.agg #[.int .i64 op, .int .i64 d, .int .i64 s, .int .i64 t, .int .i64 mb, .int .i64 mi, .int .i64 ms, .int .i64 md, .int .i64 imm]] w fun e w' => e = .returned (.int .i64 0) ∧ Below w.heap.size w w' := by
  have B1 : ∀ o, Below w.heap.size w (w.alloc o) := fun o => (Below.refl _ _).alloc (Nat.le_refl _) o
  have hne := fun w => mem_eql mb mi ms md w
  rw [h3] at hne
  have c68 : hasC ⟨#[68]⟩ 68 = true := by decide +kernel
  have c83 : hasC ⟨#[68]⟩ 83 = false := by decide +kernel
  have c84 : hasC ⟨#[68]⟩ 84 = false := by decide +kernel
  have c77 : hasC ⟨#[68]⟩ 77 = false := by decide +kernel
  have c105 : hasC ⟨#[68]⟩ 105 = false := by decide +kernel
  have c98 : hasC ⟨#[68]⟩ 98 = false := by decide +kernel
  have c73 : hasC ⟨#[68]⟩ 73 = false := by decide +kernel
  go_enter Try.func32, Try.ntmps32
  go_wp2_with (first | (go_at_call 48; refine (form_any _ _).mono ?_; rw [hf]; rintro e w' ⟨rfl, rfl⟩) | (go_at_call 49; refine (rhas_any _ _ _ (by decide)).mono ?_; (first | rw [c68] | rw [c83] | rw [c84] | rw [c77] | rw [c105] | rw [c98] | rw [c73]); rintro e w' ⟨rfl, rfl⟩) | (go_at_call 50; refine (rregister_any _ _).mono ?_; (first | rw [h0]); rintro e w' ⟨rfl, rfl⟩))
  go_ret
  first | exact ⟨rfl, B1 _⟩ | exact ⟨rfl, (B1 _).trans (hb1.mono (by simp))⟩
theorem rcheck_D (op d s t mb mi ms md imm : Int) (w : World) (hf : formB op = ⟨#[68]⟩) :
    Calls Try.prog 32 #[.agg #[.int .i64 op, .int .i64 d, .int .i64 s, .int .i64 t, .int .i64 mb, .int .i64 mi, .int .i64 ms, .int .i64 md, .int .i64 imm]] w fun e w' => e = .returned (.int .i64 (errOf (reg d && (s == 0) && (t == 0) && memZ mb mi ms md && (imm == 0)))) ∧ Below w.heap.size w w' := by
  cases h0 : reg d
  · have e : errOf (reg d && (s == 0) && (t == 0) && memZ mb mi ms md && (imm == 0)) = 2 := by simp [errOf, h0]
    rw [h0] at e
    exact rcheck_D_0 op d s t mb mi ms md imm w hf h0
  cases h1 : (s == 0)
  · have e : errOf (reg d && (s == 0) && (t == 0) && memZ mb mi ms md && (imm == 0)) = 2 := by simp [errOf, h0, h1]
    simp only [h0] at e; rw [h1] at e
    exact rcheck_D_1 op d s t mb mi ms md imm w hf h0 h1
  cases h2 : (t == 0)
  · have e : errOf (reg d && (s == 0) && (t == 0) && memZ mb mi ms md && (imm == 0)) = 2 := by simp [errOf, h0, h1, h2]
    simp only [h0, h1] at e; rw [h2] at e
    exact rcheck_D_2 op d s t mb mi ms md imm w hf h0 h1 h2
  cases h3 : memZ mb mi ms md
  · have e : errOf (reg d && (s == 0) && (t == 0) && memZ mb mi ms md && (imm == 0)) = 2 := by simp [errOf, h0, h1, h2, h3]
    simp only [h0, h1, h2] at e; rw [h3] at e
    exact rcheck_D_3 op d s t mb mi ms md imm w hf h0 h1 h2 h3
  cases h4 : (imm == 0)
  · have e : errOf (reg d && (s == 0) && (t == 0) && memZ mb mi ms md && (imm == 0)) = 2 := by simp [errOf, h0, h1, h2, h3, h4]
    simp only [h0, h1, h2, h3] at e; rw [h4] at e
    exact rcheck_D_4 op d s t mb mi ms md imm w hf h0 h1 h2 h3 h4
  exact rcheck_D_5 op d s t mb mi ms md imm w hf h0 h1 h2 h3 h4
set_option maxRecDepth 100000 in
set_option maxHeartbeats 2000000 in
theorem rcheck_Db_0 (op d s t mb mi ms md imm : Int) (w : World) (hf : formB op = ⟨#[68, 98]⟩) (h0 : reg d = false) :
    Calls Try.prog 32 #[.agg #[.int .i64 op, .int .i64 d, .int .i64 s, .int .i64 t, .int .i64 mb, .int .i64 mi, .int .i64 ms, .int .i64 md, .int .i64 imm]] w fun e w' => e = .returned (.int .i64 2) ∧ Below w.heap.size w w' := by
  have B1 : ∀ o, Below w.heap.size w (w.alloc o) := fun o => (Below.refl _ _).alloc (Nat.le_refl _) o
  have c68 : hasC ⟨#[68, 98]⟩ 68 = true := by decide +kernel
  have c83 : hasC ⟨#[68, 98]⟩ 83 = false := by decide +kernel
  have c84 : hasC ⟨#[68, 98]⟩ 84 = false := by decide +kernel
  have c77 : hasC ⟨#[68, 98]⟩ 77 = false := by decide +kernel
  have c105 : hasC ⟨#[68, 98]⟩ 105 = false := by decide +kernel
  have c98 : hasC ⟨#[68, 98]⟩ 98 = true := by decide +kernel
  have c73 : hasC ⟨#[68, 98]⟩ 73 = false := by decide +kernel
  go_enter Try.func32, Try.ntmps32
  go_wp2_with (first | (go_at_call 48; refine (form_any _ _).mono ?_; rw [hf]; rintro e w' ⟨rfl, rfl⟩) | (go_at_call 49; refine (rhas_any _ _ _ (by decide)).mono ?_; (first | rw [c68] | rw [c83] | rw [c84] | rw [c77] | rw [c105] | rw [c98] | rw [c73]); rintro e w' ⟨rfl, rfl⟩) | (go_at_call 50; refine (rregister_any _ _).mono ?_; (first | rw [h0]); rintro e w' ⟨rfl, rfl⟩))
  go_ret
  first | exact ⟨rfl, B1 _⟩ | exact ⟨rfl, (B1 _).trans (hb1.mono (by simp))⟩
set_option maxRecDepth 100000 in
set_option maxHeartbeats 2000000 in
theorem rcheck_Db_1 (op d s t mb mi ms md imm : Int) (w : World) (hf : formB op = ⟨#[68, 98]⟩) (h0 : reg d = true) (h1 : (s == 0) = false) :
    Calls Try.prog 32 #[.agg #[.int .i64 op, .int .i64 d, .int .i64 s, .int .i64 t, .int .i64 mb, .int .i64 mi, .int .i64 ms, .int .i64 md, .int .i64 imm]] w fun e w' => e = .returned (.int .i64 2) ∧ Below w.heap.size w w' := by
  have B1 : ∀ o, Below w.heap.size w (w.alloc o) := fun o => (Below.refl _ _).alloc (Nat.le_refl _) o
  have c68 : hasC ⟨#[68, 98]⟩ 68 = true := by decide +kernel
  have c83 : hasC ⟨#[68, 98]⟩ 83 = false := by decide +kernel
  have c84 : hasC ⟨#[68, 98]⟩ 84 = false := by decide +kernel
  have c77 : hasC ⟨#[68, 98]⟩ 77 = false := by decide +kernel
  have c105 : hasC ⟨#[68, 98]⟩ 105 = false := by decide +kernel
  have c98 : hasC ⟨#[68, 98]⟩ 98 = true := by decide +kernel
  have c73 : hasC ⟨#[68, 98]⟩ 73 = false := by decide +kernel
  go_enter Try.func32, Try.ntmps32
  go_wp2_with (first | (go_at_call 48; refine (form_any _ _).mono ?_; rw [hf]; rintro e w' ⟨rfl, rfl⟩) | (go_at_call 49; refine (rhas_any _ _ _ (by decide)).mono ?_; (first | rw [c68] | rw [c83] | rw [c84] | rw [c77] | rw [c105] | rw [c98] | rw [c73]); rintro e w' ⟨rfl, rfl⟩) | (go_at_call 50; refine (rregister_any _ _).mono ?_; (first | rw [h0]); rintro e w' ⟨rfl, rfl⟩))
  go_ret
  first | exact ⟨rfl, B1 _⟩ | exact ⟨rfl, (B1 _).trans (hb1.mono (by simp))⟩
set_option maxRecDepth 100000 in
set_option maxHeartbeats 2000000 in
theorem rcheck_Db_2 (op d s t mb mi ms md imm : Int) (w : World) (hf : formB op = ⟨#[68, 98]⟩) (h0 : reg d = true) (h1 : (s == 0) = true) (h2 : (t == 0) = false) :
    Calls Try.prog 32 #[.agg #[.int .i64 op, .int .i64 d, .int .i64 s, .int .i64 t, .int .i64 mb, .int .i64 mi, .int .i64 ms, .int .i64 md, .int .i64 imm]] w fun e w' => e = .returned (.int .i64 2) ∧ Below w.heap.size w w' := by
  have B1 : ∀ o, Below w.heap.size w (w.alloc o) := fun o => (Below.refl _ _).alloc (Nat.le_refl _) o
  have c68 : hasC ⟨#[68, 98]⟩ 68 = true := by decide +kernel
  have c83 : hasC ⟨#[68, 98]⟩ 83 = false := by decide +kernel
  have c84 : hasC ⟨#[68, 98]⟩ 84 = false := by decide +kernel
  have c77 : hasC ⟨#[68, 98]⟩ 77 = false := by decide +kernel
  have c105 : hasC ⟨#[68, 98]⟩ 105 = false := by decide +kernel
  have c98 : hasC ⟨#[68, 98]⟩ 98 = true := by decide +kernel
  have c73 : hasC ⟨#[68, 98]⟩ 73 = false := by decide +kernel
  go_enter Try.func32, Try.ntmps32
  go_wp2_with (first | (go_at_call 48; refine (form_any _ _).mono ?_; rw [hf]; rintro e w' ⟨rfl, rfl⟩) | (go_at_call 49; refine (rhas_any _ _ _ (by decide)).mono ?_; (first | rw [c68] | rw [c83] | rw [c84] | rw [c77] | rw [c105] | rw [c98] | rw [c73]); rintro e w' ⟨rfl, rfl⟩) | (go_at_call 50; refine (rregister_any _ _).mono ?_; (first | rw [h0]); rintro e w' ⟨rfl, rfl⟩))
  go_ret
  first | exact ⟨rfl, B1 _⟩ | exact ⟨rfl, (B1 _).trans (hb1.mono (by simp))⟩
set_option maxRecDepth 100000 in
set_option maxHeartbeats 2000000 in
theorem rcheck_Db_3 (op d s t mb mi ms md imm : Int) (w : World) (hf : formB op = ⟨#[68, 98]⟩) (h0 : reg d = true) (h1 : (s == 0) = true) (h2 : (t == 0) = true) (h3 : memZ mb mi ms md = false) :
    Calls Try.prog 32 #[.agg #[.int .i64 op, .int .i64 d, .int .i64 s, .int .i64 t, .int .i64 mb, .int .i64 mi, .int .i64 ms, .int .i64 md, .int .i64 imm]] w fun e w' => e = .returned (.int .i64 2) ∧ Below w.heap.size w w' := by
  have B1 : ∀ o, Below w.heap.size w (w.alloc o) := fun o => (Below.refl _ _).alloc (Nat.le_refl _) o
  have hne := fun w => mem_eql mb mi ms md w
  rw [h3] at hne
  have c68 : hasC ⟨#[68, 98]⟩ 68 = true := by decide +kernel
  have c83 : hasC ⟨#[68, 98]⟩ 83 = false := by decide +kernel
  have c84 : hasC ⟨#[68, 98]⟩ 84 = false := by decide +kernel
  have c77 : hasC ⟨#[68, 98]⟩ 77 = false := by decide +kernel
  have c105 : hasC ⟨#[68, 98]⟩ 105 = false := by decide +kernel
  have c98 : hasC ⟨#[68, 98]⟩ 98 = true := by decide +kernel
  have c73 : hasC ⟨#[68, 98]⟩ 73 = false := by decide +kernel
  go_enter Try.func32, Try.ntmps32
  go_wp2_with (first | (go_at_call 48; refine (form_any _ _).mono ?_; rw [hf]; rintro e w' ⟨rfl, rfl⟩) | (go_at_call 49; refine (rhas_any _ _ _ (by decide)).mono ?_; (first | rw [c68] | rw [c83] | rw [c84] | rw [c77] | rw [c105] | rw [c98] | rw [c73]); rintro e w' ⟨rfl, rfl⟩) | (go_at_call 50; refine (rregister_any _ _).mono ?_; (first | rw [h0]); rintro e w' ⟨rfl, rfl⟩))
  go_ret
  first | exact ⟨rfl, B1 _⟩ | exact ⟨rfl, (B1 _).trans (hb1.mono (by simp))⟩
set_option maxRecDepth 100000 in
set_option maxHeartbeats 2000000 in
theorem rcheck_Db_4 (op d s t mb mi ms md imm : Int) (w : World) (hf : formB op = ⟨#[68, 98]⟩) (h0 : reg d = true) (h1 : (s == 0) = true) (h2 : (t == 0) = true) (h3 : memZ mb mi ms md = true) (h4 : decide (1 ≤ imm) = false) :
    Calls Try.prog 32 #[.agg #[.int .i64 op, .int .i64 d, .int .i64 s, .int .i64 t, .int .i64 mb, .int .i64 mi, .int .i64 ms, .int .i64 md, .int .i64 imm]] w fun e w' => e = .returned (.int .i64 2) ∧ Below w.heap.size w w' := by
  have B1 : ∀ o, Below w.heap.size w (w.alloc o) := fun o => (Below.refl _ _).alloc (Nat.le_refl _) o
  have hne := fun w => mem_eql mb mi ms md w
  rw [h3] at hne
  have c68 : hasC ⟨#[68, 98]⟩ 68 = true := by decide +kernel
  have c83 : hasC ⟨#[68, 98]⟩ 83 = false := by decide +kernel
  have c84 : hasC ⟨#[68, 98]⟩ 84 = false := by decide +kernel
  have c77 : hasC ⟨#[68, 98]⟩ 77 = false := by decide +kernel
  have c105 : hasC ⟨#[68, 98]⟩ 105 = false := by decide +kernel
  have c98 : hasC ⟨#[68, 98]⟩ 98 = true := by decide +kernel
  have c73 : hasC ⟨#[68, 98]⟩ 73 = false := by decide +kernel
  go_enter Try.func32, Try.ntmps32
  go_wp2_with (first | (go_at_call 48; refine (form_any _ _).mono ?_; rw [hf]; rintro e w' ⟨rfl, rfl⟩) | (go_at_call 49; refine (rhas_any _ _ _ (by decide)).mono ?_; (first | rw [c68] | rw [c83] | rw [c84] | rw [c77] | rw [c105] | rw [c98] | rw [c73]); rintro e w' ⟨rfl, rfl⟩) | (go_at_call 50; refine (rregister_any _ _).mono ?_; (first | rw [h0]); rintro e w' ⟨rfl, rfl⟩))
  go_ret
  first | exact ⟨rfl, B1 _⟩ | exact ⟨rfl, (B1 _).trans (hb1.mono (by simp))⟩
set_option maxRecDepth 100000 in
set_option maxHeartbeats 2000000 in
theorem rcheck_Db_5 (op d s t mb mi ms md imm : Int) (w : World) (hf : formB op = ⟨#[68, 98]⟩) (h0 : reg d = true) (h1 : (s == 0) = true) (h2 : (t == 0) = true) (h3 : memZ mb mi ms md = true) (h4 : decide (1 ≤ imm) = true) (h5 : decide (imm ≤ 63) = false) :
    Calls Try.prog 32 #[.agg #[.int .i64 op, .int .i64 d, .int .i64 s, .int .i64 t, .int .i64 mb, .int .i64 mi, .int .i64 ms, .int .i64 md, .int .i64 imm]] w fun e w' => e = .returned (.int .i64 2) ∧ Below w.heap.size w w' := by
  have B1 : ∀ o, Below w.heap.size w (w.alloc o) := fun o => (Below.refl _ _).alloc (Nat.le_refl _) o
  have hne := fun w => mem_eql mb mi ms md w
  rw [h3] at hne
  have c68 : hasC ⟨#[68, 98]⟩ 68 = true := by decide +kernel
  have c83 : hasC ⟨#[68, 98]⟩ 83 = false := by decide +kernel
  have c84 : hasC ⟨#[68, 98]⟩ 84 = false := by decide +kernel
  have c77 : hasC ⟨#[68, 98]⟩ 77 = false := by decide +kernel
  have c105 : hasC ⟨#[68, 98]⟩ 105 = false := by decide +kernel
  have c98 : hasC ⟨#[68, 98]⟩ 98 = true := by decide +kernel
  have c73 : hasC ⟨#[68, 98]⟩ 73 = false := by decide +kernel
  go_enter Try.func32, Try.ntmps32
  go_wp2_with (first | (go_at_call 48; refine (form_any _ _).mono ?_; rw [hf]; rintro e w' ⟨rfl, rfl⟩) | (go_at_call 49; refine (rhas_any _ _ _ (by decide)).mono ?_; (first | rw [c68] | rw [c83] | rw [c84] | rw [c77] | rw [c105] | rw [c98] | rw [c73]); rintro e w' ⟨rfl, rfl⟩) | (go_at_call 50; refine (rregister_any _ _).mono ?_; (first | rw [h0]); rintro e w' ⟨rfl, rfl⟩))
  go_ret
  first | exact ⟨rfl, B1 _⟩ | exact ⟨rfl, (B1 _).trans (hb1.mono (by simp))⟩
set_option maxRecDepth 100000 in
set_option maxHeartbeats 2000000 in
theorem rcheck_Db_6 (op d s t mb mi ms md imm : Int) (w : World) (hf : formB op = ⟨#[68, 98]⟩) (h0 : reg d = true) (h1 : (s == 0) = true) (h2 : (t == 0) = true) (h3 : memZ mb mi ms md = true) (h4 : decide (1 ≤ imm) = true) (h5 : decide (imm ≤ 63) = true) :
    Calls Try.prog 32 #[.agg #[.int .i64 op, .int .i64 d, .int .i64 s, .int .i64 t, .int .i64 mb, .int .i64 mi, .int .i64 ms, .int .i64 md, .int .i64 imm]] w fun e w' => e = .returned (.int .i64 0) ∧ Below w.heap.size w w' := by
  have B1 : ∀ o, Below w.heap.size w (w.alloc o) := fun o => (Below.refl _ _).alloc (Nat.le_refl _) o
  have hne := fun w => mem_eql mb mi ms md w
  rw [h3] at hne
  have c68 : hasC ⟨#[68, 98]⟩ 68 = true := by decide +kernel
  have c83 : hasC ⟨#[68, 98]⟩ 83 = false := by decide +kernel
  have c84 : hasC ⟨#[68, 98]⟩ 84 = false := by decide +kernel
  have c77 : hasC ⟨#[68, 98]⟩ 77 = false := by decide +kernel
  have c105 : hasC ⟨#[68, 98]⟩ 105 = false := by decide +kernel
  have c98 : hasC ⟨#[68, 98]⟩ 98 = true := by decide +kernel
  have c73 : hasC ⟨#[68, 98]⟩ 73 = false := by decide +kernel
  go_enter Try.func32, Try.ntmps32
  go_wp2_with (first | (go_at_call 48; refine (form_any _ _).mono ?_; rw [hf]; rintro e w' ⟨rfl, rfl⟩) | (go_at_call 49; refine (rhas_any _ _ _ (by decide)).mono ?_; (first | rw [c68] | rw [c83] | rw [c84] | rw [c77] | rw [c105] | rw [c98] | rw [c73]); rintro e w' ⟨rfl, rfl⟩) | (go_at_call 50; refine (rregister_any _ _).mono ?_; (first | rw [h0]); rintro e w' ⟨rfl, rfl⟩))
  go_ret
  first | exact ⟨rfl, B1 _⟩ | exact ⟨rfl, (B1 _).trans (hb1.mono (by simp))⟩
theorem rcheck_Db (op d s t mb mi ms md imm : Int) (w : World) (hf : formB op = ⟨#[68, 98]⟩) :
    Calls Try.prog 32 #[.agg #[.int .i64 op, .int .i64 d, .int .i64 s, .int .i64 t, .int .i64 mb, .int .i64 mi, .int .i64 ms, .int .i64 md, .int .i64 imm]] w fun e w' => e = .returned (.int .i64 (errOf (reg d && (s == 0) && (t == 0) && memZ mb mi ms md && decide (1 ≤ imm) && decide (imm ≤ 63)))) ∧ Below w.heap.size w w' := by
  cases h0 : reg d
  · have e : errOf (reg d && (s == 0) && (t == 0) && memZ mb mi ms md && decide (1 ≤ imm) && decide (imm ≤ 63)) = 2 := by simp [errOf, h0]
    rw [h0] at e
    exact rcheck_Db_0 op d s t mb mi ms md imm w hf h0
  cases h1 : (s == 0)
  · have e : errOf (reg d && (s == 0) && (t == 0) && memZ mb mi ms md && decide (1 ≤ imm) && decide (imm ≤ 63)) = 2 := by simp [errOf, h0, h1]
    simp only [h0] at e; rw [h1] at e
    exact rcheck_Db_1 op d s t mb mi ms md imm w hf h0 h1
  cases h2 : (t == 0)
  · have e : errOf (reg d && (s == 0) && (t == 0) && memZ mb mi ms md && decide (1 ≤ imm) && decide (imm ≤ 63)) = 2 := by simp [errOf, h0, h1, h2]
    simp only [h0, h1] at e; rw [h2] at e
    exact rcheck_Db_2 op d s t mb mi ms md imm w hf h0 h1 h2
  cases h3 : memZ mb mi ms md
  · have e : errOf (reg d && (s == 0) && (t == 0) && memZ mb mi ms md && decide (1 ≤ imm) && decide (imm ≤ 63)) = 2 := by simp [errOf, h0, h1, h2, h3]
    simp only [h0, h1, h2] at e; rw [h3] at e
    exact rcheck_Db_3 op d s t mb mi ms md imm w hf h0 h1 h2 h3
  cases h4 : decide (1 ≤ imm)
  · have e : errOf (reg d && (s == 0) && (t == 0) && memZ mb mi ms md && decide (1 ≤ imm) && decide (imm ≤ 63)) = 2 := by simp [errOf, h0, h1, h2, h3, h4]
    simp only [h0, h1, h2, h3] at e; rw [h4] at e
    exact rcheck_Db_4 op d s t mb mi ms md imm w hf h0 h1 h2 h3 h4
  cases h5 : decide (imm ≤ 63)
  · have e : errOf (reg d && (s == 0) && (t == 0) && memZ mb mi ms md && decide (1 ≤ imm) && decide (imm ≤ 63)) = 2 := by simp [errOf, h0, h1, h2, h3, h4, h5]
    simp only [h0, h1, h2, h3, h4] at e; rw [h5] at e
    exact rcheck_Db_5 op d s t mb mi ms md imm w hf h0 h1 h2 h3 h4 h5
  exact rcheck_Db_6 op d s t mb mi ms md imm w hf h0 h1 h2 h3 h4 h5
set_option maxRecDepth 100000 in
set_option maxHeartbeats 2000000 in
theorem rcheck_S_0 (op d s t mb mi ms md imm : Int) (w : World) (hf : formB op = ⟨#[83]⟩) (h0 : (d == 0) = false) :
    Calls Try.prog 32 #[.agg #[.int .i64 op, .int .i64 d, .int .i64 s, .int .i64 t, .int .i64 mb, .int .i64 mi, .int .i64 ms, .int .i64 md, .int .i64 imm]] w fun e w' => e = .returned (.int .i64 2) ∧ Below w.heap.size w w' := by
  have B1 : ∀ o, Below w.heap.size w (w.alloc o) := fun o => (Below.refl _ _).alloc (Nat.le_refl _) o
  have c68 : hasC ⟨#[83]⟩ 68 = false := by decide +kernel
  have c83 : hasC ⟨#[83]⟩ 83 = true := by decide +kernel
  have c84 : hasC ⟨#[83]⟩ 84 = false := by decide +kernel
  have c77 : hasC ⟨#[83]⟩ 77 = false := by decide +kernel
  have c105 : hasC ⟨#[83]⟩ 105 = false := by decide +kernel
  have c98 : hasC ⟨#[83]⟩ 98 = false := by decide +kernel
  have c73 : hasC ⟨#[83]⟩ 73 = false := by decide +kernel
  go_enter Try.func32, Try.ntmps32
  go_wp2_with (first | (go_at_call 48; refine (form_any _ _).mono ?_; rw [hf]; rintro e w' ⟨rfl, rfl⟩) | (go_at_call 49; refine (rhas_any _ _ _ (by decide)).mono ?_; (first | rw [c68] | rw [c83] | rw [c84] | rw [c77] | rw [c105] | rw [c98] | rw [c73]); rintro e w' ⟨rfl, rfl⟩))
  go_ret
  first | exact ⟨rfl, B1 _⟩ | exact ⟨rfl, (B1 _).trans (hb1.mono (by simp))⟩
set_option maxRecDepth 100000 in
set_option maxHeartbeats 2000000 in
theorem rcheck_S_1 (op d s t mb mi ms md imm : Int) (w : World) (hf : formB op = ⟨#[83]⟩) (h0 : (d == 0) = true) (h1 : reg s = false) :
    Calls Try.prog 32 #[.agg #[.int .i64 op, .int .i64 d, .int .i64 s, .int .i64 t, .int .i64 mb, .int .i64 mi, .int .i64 ms, .int .i64 md, .int .i64 imm]] w fun e w' => e = .returned (.int .i64 2) ∧ Below w.heap.size w w' := by
  have B1 : ∀ o, Below w.heap.size w (w.alloc o) := fun o => (Below.refl _ _).alloc (Nat.le_refl _) o
  have c68 : hasC ⟨#[83]⟩ 68 = false := by decide +kernel
  have c83 : hasC ⟨#[83]⟩ 83 = true := by decide +kernel
  have c84 : hasC ⟨#[83]⟩ 84 = false := by decide +kernel
  have c77 : hasC ⟨#[83]⟩ 77 = false := by decide +kernel
  have c105 : hasC ⟨#[83]⟩ 105 = false := by decide +kernel
  have c98 : hasC ⟨#[83]⟩ 98 = false := by decide +kernel
  have c73 : hasC ⟨#[83]⟩ 73 = false := by decide +kernel
  go_enter Try.func32, Try.ntmps32
  go_wp2_with (first | (go_at_call 48; refine (form_any _ _).mono ?_; rw [hf]; rintro e w' ⟨rfl, rfl⟩) | (go_at_call 49; refine (rhas_any _ _ _ (by decide)).mono ?_; (first | rw [c68] | rw [c83] | rw [c84] | rw [c77] | rw [c105] | rw [c98] | rw [c73]); rintro e w' ⟨rfl, rfl⟩) | (go_at_call 50; refine (rregister_any _ _).mono ?_; (first | rw [h1]); rintro e w' ⟨rfl, rfl⟩))
  go_ret
  first | exact ⟨rfl, B1 _⟩ | exact ⟨rfl, (B1 _).trans (hb1.mono (by simp))⟩
set_option maxRecDepth 100000 in
set_option maxHeartbeats 2000000 in
theorem rcheck_S_2 (op d s t mb mi ms md imm : Int) (w : World) (hf : formB op = ⟨#[83]⟩) (h0 : (d == 0) = true) (h1 : reg s = true) (h2 : (t == 0) = false) :
    Calls Try.prog 32 #[.agg #[.int .i64 op, .int .i64 d, .int .i64 s, .int .i64 t, .int .i64 mb, .int .i64 mi, .int .i64 ms, .int .i64 md, .int .i64 imm]] w fun e w' => e = .returned (.int .i64 2) ∧ Below w.heap.size w w' := by
  have B1 : ∀ o, Below w.heap.size w (w.alloc o) := fun o => (Below.refl _ _).alloc (Nat.le_refl _) o
  have c68 : hasC ⟨#[83]⟩ 68 = false := by decide +kernel
  have c83 : hasC ⟨#[83]⟩ 83 = true := by decide +kernel
  have c84 : hasC ⟨#[83]⟩ 84 = false := by decide +kernel
  have c77 : hasC ⟨#[83]⟩ 77 = false := by decide +kernel
  have c105 : hasC ⟨#[83]⟩ 105 = false := by decide +kernel
  have c98 : hasC ⟨#[83]⟩ 98 = false := by decide +kernel
  have c73 : hasC ⟨#[83]⟩ 73 = false := by decide +kernel
  go_enter Try.func32, Try.ntmps32
  go_wp2_with (first | (go_at_call 48; refine (form_any _ _).mono ?_; rw [hf]; rintro e w' ⟨rfl, rfl⟩) | (go_at_call 49; refine (rhas_any _ _ _ (by decide)).mono ?_; (first | rw [c68] | rw [c83] | rw [c84] | rw [c77] | rw [c105] | rw [c98] | rw [c73]); rintro e w' ⟨rfl, rfl⟩) | (go_at_call 50; refine (rregister_any _ _).mono ?_; (first | rw [h1]); rintro e w' ⟨rfl, rfl⟩))
  go_ret
  first | exact ⟨rfl, B1 _⟩ | exact ⟨rfl, (B1 _).trans (hb1.mono (by simp))⟩
set_option maxRecDepth 100000 in
set_option maxHeartbeats 2000000 in
theorem rcheck_S_3 (op d s t mb mi ms md imm : Int) (w : World) (hf : formB op = ⟨#[83]⟩) (h0 : (d == 0) = true) (h1 : reg s = true) (h2 : (t == 0) = true) (h3 : memZ mb mi ms md = false) :
    Calls Try.prog 32 #[.agg #[.int .i64 op, .int .i64 d, .int .i64 s, .int .i64 t, .int .i64 mb, .int .i64 mi, .int .i64 ms, .int .i64 md, .int .i64 imm]] w fun e w' => e = .returned (.int .i64 2) ∧ Below w.heap.size w w' := by
  have B1 : ∀ o, Below w.heap.size w (w.alloc o) := fun o => (Below.refl _ _).alloc (Nat.le_refl _) o
  have hne := fun w => mem_eql mb mi ms md w
  rw [h3] at hne
  have c68 : hasC ⟨#[83]⟩ 68 = false := by decide +kernel
  have c83 : hasC ⟨#[83]⟩ 83 = true := by decide +kernel
  have c84 : hasC ⟨#[83]⟩ 84 = false := by decide +kernel
  have c77 : hasC ⟨#[83]⟩ 77 = false := by decide +kernel
  have c105 : hasC ⟨#[83]⟩ 105 = false := by decide +kernel
  have c98 : hasC ⟨#[83]⟩ 98 = false := by decide +kernel
  have c73 : hasC ⟨#[83]⟩ 73 = false := by decide +kernel
  go_enter Try.func32, Try.ntmps32
  go_wp2_with (first | (go_at_call 48; refine (form_any _ _).mono ?_; rw [hf]; rintro e w' ⟨rfl, rfl⟩) | (go_at_call 49; refine (rhas_any _ _ _ (by decide)).mono ?_; (first | rw [c68] | rw [c83] | rw [c84] | rw [c77] | rw [c105] | rw [c98] | rw [c73]); rintro e w' ⟨rfl, rfl⟩) | (go_at_call 50; refine (rregister_any _ _).mono ?_; (first | rw [h1]); rintro e w' ⟨rfl, rfl⟩))
  go_ret
  first | exact ⟨rfl, B1 _⟩ | exact ⟨rfl, (B1 _).trans (hb1.mono (by simp))⟩
set_option maxRecDepth 100000 in
set_option maxHeartbeats 2000000 in
theorem rcheck_S_4 (op d s t mb mi ms md imm : Int) (w : World) (hf : formB op = ⟨#[83]⟩) (h0 : (d == 0) = true) (h1 : reg s = true) (h2 : (t == 0) = true) (h3 : memZ mb mi ms md = true) (h4 : (imm == 0) = false) :
    Calls Try.prog 32 #[.agg #[.int .i64 op, .int .i64 d, .int .i64 s, .int .i64 t, .int .i64 mb, .int .i64 mi, .int .i64 ms, .int .i64 md, .int .i64 imm]] w fun e w' => e = .returned (.int .i64 2) ∧ Below w.heap.size w w' := by
  have B1 : ∀ o, Below w.heap.size w (w.alloc o) := fun o => (Below.refl _ _).alloc (Nat.le_refl _) o
  have hne := fun w => mem_eql mb mi ms md w
  rw [h3] at hne
  have c68 : hasC ⟨#[83]⟩ 68 = false := by decide +kernel
  have c83 : hasC ⟨#[83]⟩ 83 = true := by decide +kernel
  have c84 : hasC ⟨#[83]⟩ 84 = false := by decide +kernel
  have c77 : hasC ⟨#[83]⟩ 77 = false := by decide +kernel
  have c105 : hasC ⟨#[83]⟩ 105 = false := by decide +kernel
  have c98 : hasC ⟨#[83]⟩ 98 = false := by decide +kernel
  have c73 : hasC ⟨#[83]⟩ 73 = false := by decide +kernel
  go_enter Try.func32, Try.ntmps32
  go_wp2_with (first | (go_at_call 48; refine (form_any _ _).mono ?_; rw [hf]; rintro e w' ⟨rfl, rfl⟩) | (go_at_call 49; refine (rhas_any _ _ _ (by decide)).mono ?_; (first | rw [c68] | rw [c83] | rw [c84] | rw [c77] | rw [c105] | rw [c98] | rw [c73]); rintro e w' ⟨rfl, rfl⟩) | (go_at_call 50; refine (rregister_any _ _).mono ?_; (first | rw [h1]); rintro e w' ⟨rfl, rfl⟩))
  go_ret
  first | exact ⟨rfl, B1 _⟩ | exact ⟨rfl, (B1 _).trans (hb1.mono (by simp))⟩
set_option maxRecDepth 100000 in
set_option maxHeartbeats 2000000 in
theorem rcheck_S_5 (op d s t mb mi ms md imm : Int) (w : World) (hf : formB op = ⟨#[83]⟩) (h0 : (d == 0) = true) (h1 : reg s = true) (h2 : (t == 0) = true) (h3 : memZ mb mi ms md = true) (h4 : (imm == 0) = true) :
    Calls Try.prog 32 #[.agg #[.int .i64 op, .int .i64 d, .int .i64 s, .int .i64 t, .int .i64 mb, .int .i64 mi, .int .i64 ms, .int .i64 md, .int .i64 imm]] w fun e w' => e = .returned (.int .i64 0) ∧ Below w.heap.size w w' := by
  have B1 : ∀ o, Below w.heap.size w (w.alloc o) := fun o => (Below.refl _ _).alloc (Nat.le_refl _) o
  have hne := fun w => mem_eql mb mi ms md w
  rw [h3] at hne
  have c68 : hasC ⟨#[83]⟩ 68 = false := by decide +kernel
  have c83 : hasC ⟨#[83]⟩ 83 = true := by decide +kernel
  have c84 : hasC ⟨#[83]⟩ 84 = false := by decide +kernel
  have c77 : hasC ⟨#[83]⟩ 77 = false := by decide +kernel
  have c105 : hasC ⟨#[83]⟩ 105 = false := by decide +kernel
  have c98 : hasC ⟨#[83]⟩ 98 = false := by decide +kernel
  have c73 : hasC ⟨#[83]⟩ 73 = false := by decide +kernel
  go_enter Try.func32, Try.ntmps32
  go_wp2_with (first | (go_at_call 48; refine (form_any _ _).mono ?_; rw [hf]; rintro e w' ⟨rfl, rfl⟩) | (go_at_call 49; refine (rhas_any _ _ _ (by decide)).mono ?_; (first | rw [c68] | rw [c83] | rw [c84] | rw [c77] | rw [c105] | rw [c98] | rw [c73]); rintro e w' ⟨rfl, rfl⟩) | (go_at_call 50; refine (rregister_any _ _).mono ?_; (first | rw [h1]); rintro e w' ⟨rfl, rfl⟩))
  go_ret
  first | exact ⟨rfl, B1 _⟩ | exact ⟨rfl, (B1 _).trans (hb1.mono (by simp))⟩
theorem rcheck_S (op d s t mb mi ms md imm : Int) (w : World) (hf : formB op = ⟨#[83]⟩) :
    Calls Try.prog 32 #[.agg #[.int .i64 op, .int .i64 d, .int .i64 s, .int .i64 t, .int .i64 mb, .int .i64 mi, .int .i64 ms, .int .i64 md, .int .i64 imm]] w fun e w' => e = .returned (.int .i64 (errOf ((d == 0) && reg s && (t == 0) && memZ mb mi ms md && (imm == 0)))) ∧ Below w.heap.size w w' := by
  cases h0 : (d == 0)
  · have e : errOf ((d == 0) && reg s && (t == 0) && memZ mb mi ms md && (imm == 0)) = 2 := by simp [errOf, h0]
    rw [h0] at e
    exact rcheck_S_0 op d s t mb mi ms md imm w hf h0
  cases h1 : reg s
  · have e : errOf ((d == 0) && reg s && (t == 0) && memZ mb mi ms md && (imm == 0)) = 2 := by simp [errOf, h0, h1]
    simp only [h0] at e; rw [h1] at e
    exact rcheck_S_1 op d s t mb mi ms md imm w hf h0 h1
  cases h2 : (t == 0)
  · have e : errOf ((d == 0) && reg s && (t == 0) && memZ mb mi ms md && (imm == 0)) = 2 := by simp [errOf, h0, h1, h2]
    simp only [h0, h1] at e; rw [h2] at e
    exact rcheck_S_2 op d s t mb mi ms md imm w hf h0 h1 h2
  cases h3 : memZ mb mi ms md
  · have e : errOf ((d == 0) && reg s && (t == 0) && memZ mb mi ms md && (imm == 0)) = 2 := by simp [errOf, h0, h1, h2, h3]
    simp only [h0, h1, h2] at e; rw [h3] at e
    exact rcheck_S_3 op d s t mb mi ms md imm w hf h0 h1 h2 h3
  cases h4 : (imm == 0)
  · have e : errOf ((d == 0) && reg s && (t == 0) && memZ mb mi ms md && (imm == 0)) = 2 := by simp [errOf, h0, h1, h2, h3, h4]
    simp only [h0, h1, h2, h3] at e; rw [h4] at e
    exact rcheck_S_4 op d s t mb mi ms md imm w hf h0 h1 h2 h3 h4
  exact rcheck_S_5 op d s t mb mi ms md imm w hf h0 h1 h2 h3 h4
end Go.Proofs.Ytbcaelhchmoigaa

/- keysmithref05 (the document's answer for layer 5): Check, its cases D. Conditions: none. -/
namespace Go.Proofs.Ytbcaelhchmoigaa
open Go.RowKit Calm

set_option maxRecDepth 100000 in
set_option maxHeartbeats 2000000 in
theorem rcheck_i_0 (op d s t mb mi ms md imm : Int) (w : World) (hf : formB op = ⟨#[105]⟩) (h0 : (d == 0) = false) :
    Calls Try.prog 32 #[.agg #[.int .i64 op, .int .i64 d, .int .i64 s, .int .i64 t, .int .i64 mb, .int .i64 mi, .int .i64 ms, .int .i64 md, .int .i64 imm]] w fun e w' => e = .returned (.int .i64 2) ∧ Below w.heap.size w w' := by
  have B1 : ∀ o, Below w.heap.size w (w.alloc o) := fun o => (Below.refl _ _).alloc (Nat.le_refl _) o
  have c68 : hasC ⟨#[105]⟩ 68 = false := by decide +kernel
  have c83 : hasC ⟨#[105]⟩ 83 = false := by decide +kernel
  have c84 : hasC ⟨#[105]⟩ 84 = false := by decide +kernel
  have c77 : hasC ⟨#[105]⟩ 77 = false := by decide +kernel
  have c105 : hasC ⟨#[105]⟩ 105 = true := by decide +kernel
  have c98 : hasC ⟨#[105]⟩ 98 = false := by decide +kernel
  have c73 : hasC ⟨#[105]⟩ 73 = false := by decide +kernel
  go_enter Try.func32, Try.ntmps32
  go_wp2_with (first | (go_at_call 48; refine (form_any _ _).mono ?_; rw [hf]; rintro e w' ⟨rfl, rfl⟩) | (go_at_call 49; refine (rhas_any _ _ _ (by decide)).mono ?_; (first | rw [c68] | rw [c83] | rw [c84] | rw [c77] | rw [c105] | rw [c98] | rw [c73]); rintro e w' ⟨rfl, rfl⟩))
  go_ret
  first | exact ⟨rfl, B1 _⟩ | exact ⟨rfl, (B1 _).trans (hb1.mono (by simp))⟩
set_option maxRecDepth 100000 in
set_option maxHeartbeats 2000000 in
theorem rcheck_i_1 (op d s t mb mi ms md imm : Int) (w : World) (hf : formB op = ⟨#[105]⟩) (h0 : (d == 0) = true) (h1 : (s == 0) = false) :
    Calls Try.prog 32 #[.agg #[.int .i64 op, .int .i64 d, .int .i64 s, .int .i64 t, .int .i64 mb, .int .i64 mi, .int .i64 ms, .int .i64 md, .int .i64 imm]] w fun e w' => e = .returned (.int .i64 2) ∧ Below w.heap.size w w' := by
  have B1 : ∀ o, Below w.heap.size w (w.alloc o) := fun o => (Below.refl _ _).alloc (Nat.le_refl _) o
  have c68 : hasC ⟨#[105]⟩ 68 = false := by decide +kernel
  have c83 : hasC ⟨#[105]⟩ 83 = false := by decide +kernel
  have c84 : hasC ⟨#[105]⟩ 84 = false := by decide +kernel
  have c77 : hasC ⟨#[105]⟩ 77 = false := by decide +kernel
  have c105 : hasC ⟨#[105]⟩ 105 = true := by decide +kernel
  have c98 : hasC ⟨#[105]⟩ 98 = false := by decide +kernel
  have c73 : hasC ⟨#[105]⟩ 73 = false := by decide +kernel
  go_enter Try.func32, Try.ntmps32
  go_wp2_with (first | (go_at_call 48; refine (form_any _ _).mono ?_; rw [hf]; rintro e w' ⟨rfl, rfl⟩) | (go_at_call 49; refine (rhas_any _ _ _ (by decide)).mono ?_; (first | rw [c68] | rw [c83] | rw [c84] | rw [c77] | rw [c105] | rw [c98] | rw [c73]); rintro e w' ⟨rfl, rfl⟩))
  go_ret
  first | exact ⟨rfl, B1 _⟩ | exact ⟨rfl, (B1 _).trans (hb1.mono (by simp))⟩
set_option maxRecDepth 100000 in
set_option maxHeartbeats 2000000 in
theorem rcheck_i_2 (op d s t mb mi ms md imm : Int) (w : World) (hf : formB op = ⟨#[105]⟩) (h0 : (d == 0) = true) (h1 : (s == 0) = true) (h2 : (t == 0) = false) :
    Calls Try.prog 32 #[.agg #[.int .i64 op, .int .i64 d, .int .i64 s, .int .i64 t, .int .i64 mb, .int .i64 mi, .int .i64 ms, .int .i64 md, .int .i64 imm]] w fun e w' => e = .returned (.int .i64 2) ∧ Below w.heap.size w w' := by
  have B1 : ∀ o, Below w.heap.size w (w.alloc o) := fun o => (Below.refl _ _).alloc (Nat.le_refl _) o
  have c68 : hasC ⟨#[105]⟩ 68 = false := by decide +kernel
  have c83 : hasC ⟨#[105]⟩ 83 = false := by decide +kernel
  have c84 : hasC ⟨#[105]⟩ 84 = false := by decide +kernel
  have c77 : hasC ⟨#[105]⟩ 77 = false := by decide +kernel
  have c105 : hasC ⟨#[105]⟩ 105 = true := by decide +kernel
  have c98 : hasC ⟨#[105]⟩ 98 = false := by decide +kernel
  have c73 : hasC ⟨#[105]⟩ 73 = false := by decide +kernel
  go_enter Try.func32, Try.ntmps32
  go_wp2_with (first | (go_at_call 48; refine (form_any _ _).mono ?_; rw [hf]; rintro e w' ⟨rfl, rfl⟩) | (go_at_call 49; refine (rhas_any _ _ _ (by decide)).mono ?_; (first | rw [c68] | rw [c83] | rw [c84] | rw [c77] | rw [c105] | rw [c98] | rw [c73]); rintro e w' ⟨rfl, rfl⟩))
  go_ret
  first | exact ⟨rfl, B1 _⟩ | exact ⟨rfl, (B1 _).trans (hb1.mono (by simp))⟩
set_option maxRecDepth 100000 in
set_option maxHeartbeats 2000000 in
theorem rcheck_i_3 (op d s t mb mi ms md imm : Int) (w : World) (hf : formB op = ⟨#[105]⟩) (h0 : (d == 0) = true) (h1 : (s == 0) = true) (h2 : (t == 0) = true) (h3 : memZ mb mi ms md = false) :
    Calls Try.prog 32 #[.agg #[.int .i64 op, .int .i64 d, .int .i64 s, .int .i64 t, .int .i64 mb, .int .i64 mi, .int .i64 ms, .int .i64 md, .int .i64 imm]] w fun e w' => e = .returned (.int .i64 2) ∧ Below w.heap.size w w' := by
  have B1 : ∀ o, Below w.heap.size w (w.alloc o) := fun o => (Below.refl _ _).alloc (Nat.le_refl _) o
  have hne := fun w => mem_eql mb mi ms md w
  rw [h3] at hne
  have c68 : hasC ⟨#[105]⟩ 68 = false := by decide +kernel
  have c83 : hasC ⟨#[105]⟩ 83 = false := by decide +kernel
  have c84 : hasC ⟨#[105]⟩ 84 = false := by decide +kernel
  have c77 : hasC ⟨#[105]⟩ 77 = false := by decide +kernel
  have c105 : hasC ⟨#[105]⟩ 105 = true := by decide +kernel
  have c98 : hasC ⟨#[105]⟩ 98 = false := by decide +kernel
  have c73 : hasC ⟨#[105]⟩ 73 = false := by decide +kernel
  go_enter Try.func32, Try.ntmps32
  go_wp2_with (first | (go_at_call 48; refine (form_any _ _).mono ?_; rw [hf]; rintro e w' ⟨rfl, rfl⟩) | (go_at_call 49; refine (rhas_any _ _ _ (by decide)).mono ?_; (first | rw [c68] | rw [c83] | rw [c84] | rw [c77] | rw [c105] | rw [c98] | rw [c73]); rintro e w' ⟨rfl, rfl⟩))
  go_ret
  first | exact ⟨rfl, B1 _⟩ | exact ⟨rfl, (B1 _).trans (hb1.mono (by simp))⟩
set_option maxRecDepth 100000 in
set_option maxHeartbeats 2000000 in
theorem rcheck_i_4 (op d s t mb mi ms md imm : Int) (w : World) (hf : formB op = ⟨#[105]⟩) (h0 : (d == 0) = true) (h1 : (s == 0) = true) (h2 : (t == 0) = true) (h3 : memZ mb mi ms md = true) (h4 : smallB imm = false) :
    Calls Try.prog 32 #[.agg #[.int .i64 op, .int .i64 d, .int .i64 s, .int .i64 t, .int .i64 mb, .int .i64 mi, .int .i64 ms, .int .i64 md, .int .i64 imm]] w fun e w' => e = .returned (.int .i64 2) ∧ Below w.heap.size w w' := by
  have B1 : ∀ o, Below w.heap.size w (w.alloc o) := fun o => (Below.refl _ _).alloc (Nat.le_refl _) o
  have hne := fun w => mem_eql mb mi ms md w
  rw [h3] at hne
  have c68 : hasC ⟨#[105]⟩ 68 = false := by decide +kernel
  have c83 : hasC ⟨#[105]⟩ 83 = false := by decide +kernel
  have c84 : hasC ⟨#[105]⟩ 84 = false := by decide +kernel
  have c77 : hasC ⟨#[105]⟩ 77 = false := by decide +kernel
  have c105 : hasC ⟨#[105]⟩ 105 = true := by decide +kernel
  have c98 : hasC ⟨#[105]⟩ 98 = false := by decide +kernel
  have c73 : hasC ⟨#[105]⟩ 73 = false := by decide +kernel
  go_enter Try.func32, Try.ntmps32
  go_wp2_with (first | (go_at_call 48; refine (form_any _ _).mono ?_; rw [hf]; rintro e w' ⟨rfl, rfl⟩) | (go_at_call 49; refine (rhas_any _ _ _ (by decide)).mono ?_; (first | rw [c68] | rw [c83] | rw [c84] | rw [c77] | rw [c105] | rw [c98] | rw [c73]); rintro e w' ⟨rfl, rfl⟩) | (go_at_call 52; refine (rsmall_any _ _).mono ?_; rw [h4]; rintro e w' ⟨rfl, rfl⟩))
  go_ret
  first | exact ⟨rfl, B1 _⟩ | exact ⟨rfl, (B1 _).trans (hb1.mono (by simp))⟩
set_option maxRecDepth 100000 in
set_option maxHeartbeats 2000000 in
theorem rcheck_i_5 (op d s t mb mi ms md imm : Int) (w : World) (hf : formB op = ⟨#[105]⟩) (h0 : (d == 0) = true) (h1 : (s == 0) = true) (h2 : (t == 0) = true) (h3 : memZ mb mi ms md = true) (h4 : smallB imm = true) :
    Calls Try.prog 32 #[.agg #[.int .i64 op, .int .i64 d, .int .i64 s, .int .i64 t, .int .i64 mb, .int .i64 mi, .int .i64 ms, .int .i64 md, .int .i64 imm]] w fun e w' => e = .returned (.int .i64 0) ∧ Below w.heap.size w w' := by
  have B1 : ∀ o, Below w.heap.size w (w.alloc o) := fun o => (Below.refl _ _).alloc (Nat.le_refl _) o
  have hne := fun w => mem_eql mb mi ms md w
  rw [h3] at hne
  have c68 : hasC ⟨#[105]⟩ 68 = false := by decide +kernel
  have c83 : hasC ⟨#[105]⟩ 83 = false := by decide +kernel
  have c84 : hasC ⟨#[105]⟩ 84 = false := by decide +kernel
  have c77 : hasC ⟨#[105]⟩ 77 = false := by decide +kernel
  have c105 : hasC ⟨#[105]⟩ 105 = true := by decide +kernel
  have c98 : hasC ⟨#[105]⟩ 98 = false := by decide +kernel
  have c73 : hasC ⟨#[105]⟩ 73 = false := by decide +kernel
  go_enter Try.func32, Try.ntmps32
  go_wp2_with (first | (go_at_call 48; refine (form_any _ _).mono ?_; rw [hf]; rintro e w' ⟨rfl, rfl⟩) | (go_at_call 49; refine (rhas_any _ _ _ (by decide)).mono ?_; (first | rw [c68] | rw [c83] | rw [c84] | rw [c77] | rw [c105] | rw [c98] | rw [c73]); rintro e w' ⟨rfl, rfl⟩) | (go_at_call 52; refine (rsmall_any _ _).mono ?_; rw [h4]; rintro e w' ⟨rfl, rfl⟩))
  go_ret
  first | exact ⟨rfl, B1 _⟩ | exact ⟨rfl, (B1 _).trans (hb1.mono (by simp))⟩
theorem rcheck_i (op d s t mb mi ms md imm : Int) (w : World) (hf : formB op = ⟨#[105]⟩) :
    Calls Try.prog 32 #[.agg #[.int .i64 op, .int .i64 d, .int .i64 s, .int .i64 t, .int .i64 mb, .int .i64 mi, .int .i64 ms, .int .i64 md, .int .i64 imm]] w fun e w' => e = .returned (.int .i64 (errOf ((d == 0) && (s == 0) && (t == 0) && memZ mb mi ms md && smallB imm))) ∧ Below w.heap.size w w' := by
  cases h0 : (d == 0)
  · have e : errOf ((d == 0) && (s == 0) && (t == 0) && memZ mb mi ms md && smallB imm) = 2 := by simp [errOf, h0]
    rw [h0] at e
    exact rcheck_i_0 op d s t mb mi ms md imm w hf h0
  cases h1 : (s == 0)
  · have e : errOf ((d == 0) && (s == 0) && (t == 0) && memZ mb mi ms md && smallB imm) = 2 := by simp [errOf, h0, h1]
    simp only [h0] at e; rw [h1] at e
    exact rcheck_i_1 op d s t mb mi ms md imm w hf h0 h1
  cases h2 : (t == 0)
  · have e : errOf ((d == 0) && (s == 0) && (t == 0) && memZ mb mi ms md && smallB imm) = 2 := by simp [errOf, h0, h1, h2]
    simp only [h0, h1] at e; rw [h2] at e
    exact rcheck_i_2 op d s t mb mi ms md imm w hf h0 h1 h2
  cases h3 : memZ mb mi ms md
  · have e : errOf ((d == 0) && (s == 0) && (t == 0) && memZ mb mi ms md && smallB imm) = 2 := by simp [errOf, h0, h1, h2, h3]
    simp only [h0, h1, h2] at e; rw [h3] at e
    exact rcheck_i_3 op d s t mb mi ms md imm w hf h0 h1 h2 h3
  cases h4 : smallB imm
  · have e : errOf ((d == 0) && (s == 0) && (t == 0) && memZ mb mi ms md && smallB imm) = 2 := by simp [errOf, h0, h1, h2, h3, h4]
    simp only [h0, h1, h2, h3] at e; rw [h4] at e
    exact rcheck_i_4 op d s t mb mi ms md imm w hf h0 h1 h2 h3 h4
  exact rcheck_i_5 op d s t mb mi ms md imm w hf h0 h1 h2 h3 h4
set_option maxRecDepth 100000 in
set_option maxHeartbeats 2000000 in
theorem rcheck_ret_0 (op d s t mb mi ms md imm : Int) (w : World) (hf : formB op = ⟨#[45]⟩) (h0 : (d == 0) = false) :
    Calls Try.prog 32 #[.agg #[.int .i64 op, .int .i64 d, .int .i64 s, .int .i64 t, .int .i64 mb, .int .i64 mi, .int .i64 ms, .int .i64 md, .int .i64 imm]] w fun e w' => e = .returned (.int .i64 2) ∧ Below w.heap.size w w' := by
  have B1 : ∀ o, Below w.heap.size w (w.alloc o) := fun o => (Below.refl _ _).alloc (Nat.le_refl _) o
  have c68 : hasC ⟨#[45]⟩ 68 = false := by decide +kernel
  have c83 : hasC ⟨#[45]⟩ 83 = false := by decide +kernel
  have c84 : hasC ⟨#[45]⟩ 84 = false := by decide +kernel
  have c77 : hasC ⟨#[45]⟩ 77 = false := by decide +kernel
  have c105 : hasC ⟨#[45]⟩ 105 = false := by decide +kernel
  have c98 : hasC ⟨#[45]⟩ 98 = false := by decide +kernel
  have c73 : hasC ⟨#[45]⟩ 73 = false := by decide +kernel
  go_enter Try.func32, Try.ntmps32
  go_wp2_with (first | (go_at_call 48; refine (form_any _ _).mono ?_; rw [hf]; rintro e w' ⟨rfl, rfl⟩) | (go_at_call 49; refine (rhas_any _ _ _ (by decide)).mono ?_; (first | rw [c68] | rw [c83] | rw [c84] | rw [c77] | rw [c105] | rw [c98] | rw [c73]); rintro e w' ⟨rfl, rfl⟩))
  go_ret
  first | exact ⟨rfl, B1 _⟩ | exact ⟨rfl, (B1 _).trans (hb1.mono (by simp))⟩
set_option maxRecDepth 100000 in
set_option maxHeartbeats 2000000 in
theorem rcheck_ret_1 (op d s t mb mi ms md imm : Int) (w : World) (hf : formB op = ⟨#[45]⟩) (h0 : (d == 0) = true) (h1 : (s == 0) = false) :
    Calls Try.prog 32 #[.agg #[.int .i64 op, .int .i64 d, .int .i64 s, .int .i64 t, .int .i64 mb, .int .i64 mi, .int .i64 ms, .int .i64 md, .int .i64 imm]] w fun e w' => e = .returned (.int .i64 2) ∧ Below w.heap.size w w' := by
  have B1 : ∀ o, Below w.heap.size w (w.alloc o) := fun o => (Below.refl _ _).alloc (Nat.le_refl _) o
  have c68 : hasC ⟨#[45]⟩ 68 = false := by decide +kernel
  have c83 : hasC ⟨#[45]⟩ 83 = false := by decide +kernel
  have c84 : hasC ⟨#[45]⟩ 84 = false := by decide +kernel
  have c77 : hasC ⟨#[45]⟩ 77 = false := by decide +kernel
  have c105 : hasC ⟨#[45]⟩ 105 = false := by decide +kernel
  have c98 : hasC ⟨#[45]⟩ 98 = false := by decide +kernel
  have c73 : hasC ⟨#[45]⟩ 73 = false := by decide +kernel
  go_enter Try.func32, Try.ntmps32
  go_wp2_with (first | (go_at_call 48; refine (form_any _ _).mono ?_; rw [hf]; rintro e w' ⟨rfl, rfl⟩) | (go_at_call 49; refine (rhas_any _ _ _ (by decide)).mono ?_; (first | rw [c68] | rw [c83] | rw [c84] | rw [c77] | rw [c105] | rw [c98] | rw [c73]); rintro e w' ⟨rfl, rfl⟩))
  go_ret
  first | exact ⟨rfl, B1 _⟩ | exact ⟨rfl, (B1 _).trans (hb1.mono (by simp))⟩
set_option maxRecDepth 100000 in
set_option maxHeartbeats 2000000 in
theorem rcheck_ret_2 (op d s t mb mi ms md imm : Int) (w : World) (hf : formB op = ⟨#[45]⟩) (h0 : (d == 0) = true) (h1 : (s == 0) = true) (h2 : (t == 0) = false) :
    Calls Try.prog 32 #[.agg #[.int .i64 op, .int .i64 d, .int .i64 s, .int .i64 t, .int .i64 mb, .int .i64 mi, .int .i64 ms, .int .i64 md, .int .i64 imm]] w fun e w' => e = .returned (.int .i64 2) ∧ Below w.heap.size w w' := by
  have B1 : ∀ o, Below w.heap.size w (w.alloc o) := fun o => (Below.refl _ _).alloc (Nat.le_refl _) o
  have c68 : hasC ⟨#[45]⟩ 68 = false := by decide +kernel
  have c83 : hasC ⟨#[45]⟩ 83 = false := by decide +kernel
  have c84 : hasC ⟨#[45]⟩ 84 = false := by decide +kernel
  have c77 : hasC ⟨#[45]⟩ 77 = false := by decide +kernel
  have c105 : hasC ⟨#[45]⟩ 105 = false := by decide +kernel
  have c98 : hasC ⟨#[45]⟩ 98 = false := by decide +kernel
  have c73 : hasC ⟨#[45]⟩ 73 = false := by decide +kernel
  go_enter Try.func32, Try.ntmps32
  go_wp2_with (first | (go_at_call 48; refine (form_any _ _).mono ?_; rw [hf]; rintro e w' ⟨rfl, rfl⟩) | (go_at_call 49; refine (rhas_any _ _ _ (by decide)).mono ?_; (first | rw [c68] | rw [c83] | rw [c84] | rw [c77] | rw [c105] | rw [c98] | rw [c73]); rintro e w' ⟨rfl, rfl⟩))
  go_ret
  first | exact ⟨rfl, B1 _⟩ | exact ⟨rfl, (B1 _).trans (hb1.mono (by simp))⟩
set_option maxRecDepth 100000 in
set_option maxHeartbeats 2000000 in
theorem rcheck_ret_3 (op d s t mb mi ms md imm : Int) (w : World) (hf : formB op = ⟨#[45]⟩) (h0 : (d == 0) = true) (h1 : (s == 0) = true) (h2 : (t == 0) = true) (h3 : memZ mb mi ms md = false) :
    Calls Try.prog 32 #[.agg #[.int .i64 op, .int .i64 d, .int .i64 s, .int .i64 t, .int .i64 mb, .int .i64 mi, .int .i64 ms, .int .i64 md, .int .i64 imm]] w fun e w' => e = .returned (.int .i64 2) ∧ Below w.heap.size w w' := by
  have B1 : ∀ o, Below w.heap.size w (w.alloc o) := fun o => (Below.refl _ _).alloc (Nat.le_refl _) o
  have hne := fun w => mem_eql mb mi ms md w
  rw [h3] at hne
  have c68 : hasC ⟨#[45]⟩ 68 = false := by decide +kernel
  have c83 : hasC ⟨#[45]⟩ 83 = false := by decide +kernel
  have c84 : hasC ⟨#[45]⟩ 84 = false := by decide +kernel
  have c77 : hasC ⟨#[45]⟩ 77 = false := by decide +kernel
  have c105 : hasC ⟨#[45]⟩ 105 = false := by decide +kernel
  have c98 : hasC ⟨#[45]⟩ 98 = false := by decide +kernel
  have c73 : hasC ⟨#[45]⟩ 73 = false := by decide +kernel
  go_enter Try.func32, Try.ntmps32
  go_wp2_with (first | (go_at_call 48; refine (form_any _ _).mono ?_; rw [hf]; rintro e w' ⟨rfl, rfl⟩) | (go_at_call 49; refine (rhas_any _ _ _ (by decide)).mono ?_; (first | rw [c68] | rw [c83] | rw [c84] | rw [c77] | rw [c105] | rw [c98] | rw [c73]); rintro e w' ⟨rfl, rfl⟩))
  go_ret
  first | exact ⟨rfl, B1 _⟩ | exact ⟨rfl, (B1 _).trans (hb1.mono (by simp))⟩
set_option maxRecDepth 100000 in
set_option maxHeartbeats 2000000 in
theorem rcheck_ret_4 (op d s t mb mi ms md imm : Int) (w : World) (hf : formB op = ⟨#[45]⟩) (h0 : (d == 0) = true) (h1 : (s == 0) = true) (h2 : (t == 0) = true) (h3 : memZ mb mi ms md = true) (h4 : (imm == 0) = false) :
    Calls Try.prog 32 #[.agg #[.int .i64 op, .int .i64 d, .int .i64 s, .int .i64 t, .int .i64 mb, .int .i64 mi, .int .i64 ms, .int .i64 md, .int .i64 imm]] w fun e w' => e = .returned (.int .i64 2) ∧ Below w.heap.size w w' := by
  have B1 : ∀ o, Below w.heap.size w (w.alloc o) := fun o => (Below.refl _ _).alloc (Nat.le_refl _) o
  have hne := fun w => mem_eql mb mi ms md w
  rw [h3] at hne
  have c68 : hasC ⟨#[45]⟩ 68 = false := by decide +kernel
  have c83 : hasC ⟨#[45]⟩ 83 = false := by decide +kernel
  have c84 : hasC ⟨#[45]⟩ 84 = false := by decide +kernel
  have c77 : hasC ⟨#[45]⟩ 77 = false := by decide +kernel
  have c105 : hasC ⟨#[45]⟩ 105 = false := by decide +kernel
  have c98 : hasC ⟨#[45]⟩ 98 = false := by decide +kernel
  have c73 : hasC ⟨#[45]⟩ 73 = false := by decide +kernel
  go_enter Try.func32, Try.ntmps32
  go_wp2_with (first | (go_at_call 48; refine (form_any _ _).mono ?_; rw [hf]; rintro e w' ⟨rfl, rfl⟩) | (go_at_call 49; refine (rhas_any _ _ _ (by decide)).mono ?_; (first | rw [c68] | rw [c83] | rw [c84] | rw [c77] | rw [c105] | rw [c98] | rw [c73]); rintro e w' ⟨rfl, rfl⟩))
  go_ret
  first | exact ⟨rfl, B1 _⟩ | exact ⟨rfl, (B1 _).trans (hb1.mono (by simp))⟩
set_option maxRecDepth 100000 in
set_option maxHeartbeats 2000000 in
theorem rcheck_ret_5 (op d s t mb mi ms md imm : Int) (w : World) (hf : formB op = ⟨#[45]⟩) (h0 : (d == 0) = true) (h1 : (s == 0) = true) (h2 : (t == 0) = true) (h3 : memZ mb mi ms md = true) (h4 : (imm == 0) = true) :
    Calls Try.prog 32 #[.agg #[.int .i64 op, .int .i64 d, .int .i64 s, .int .i64 t, .int .i64 mb, .int .i64 mi, .int .i64 ms, .int .i64 md, .int .i64 imm]] w fun e w' => e = .returned (.int .i64 0) ∧ Below w.heap.size w w' := by
  have B1 : ∀ o, Below w.heap.size w (w.alloc o) := fun o => (Below.refl _ _).alloc (Nat.le_refl _) o
  have hne := fun w => mem_eql mb mi ms md w
  rw [h3] at hne
  have c68 : hasC ⟨#[45]⟩ 68 = false := by decide +kernel
  have c83 : hasC ⟨#[45]⟩ 83 = false := by decide +kernel
  have c84 : hasC ⟨#[45]⟩ 84 = false := by decide +kernel
  have c77 : hasC ⟨#[45]⟩ 77 = false := by decide +kernel
  have c105 : hasC ⟨#[45]⟩ 105 = false := by decide +kernel
  have c98 : hasC ⟨#[45]⟩ 98 = false := by decide +kernel
  have c73 : hasC ⟨#[45]⟩ 73 = false := by decide +kernel
  go_enter Try.func32, Try.ntmps32
  go_wp2_with (first | (go_at_call 48; refine (form_any _ _).mono ?_; rw [hf]; rintro e w' ⟨rfl, rfl⟩) | (go_at_call 49; refine (rhas_any _ _ _ (by decide)).mono ?_; (first | rw [c68] | rw [c83] | rw [c84] | rw [c77] | rw [c105] | rw [c98] | rw [c73]); rintro e w' ⟨rfl, rfl⟩))
  go_ret
  first | exact ⟨rfl, B1 _⟩ | exact ⟨rfl, (B1 _).trans (hb1.mono (by simp))⟩
theorem rcheck_ret (op d s t mb mi ms md imm : Int) (w : World) (hf : formB op = ⟨#[45]⟩) :
    Calls Try.prog 32 #[.agg #[.int .i64 op, .int .i64 d, .int .i64 s, .int .i64 t, .int .i64 mb, .int .i64 mi, .int .i64 ms, .int .i64 md, .int .i64 imm]] w fun e w' => e = .returned (.int .i64 (errOf ((d == 0) && (s == 0) && (t == 0) && memZ mb mi ms md && (imm == 0)))) ∧ Below w.heap.size w w' := by
  cases h0 : (d == 0)
  · have e : errOf ((d == 0) && (s == 0) && (t == 0) && memZ mb mi ms md && (imm == 0)) = 2 := by simp [errOf, h0]
    rw [h0] at e
    exact rcheck_ret_0 op d s t mb mi ms md imm w hf h0
  cases h1 : (s == 0)
  · have e : errOf ((d == 0) && (s == 0) && (t == 0) && memZ mb mi ms md && (imm == 0)) = 2 := by simp [errOf, h0, h1]
    simp only [h0] at e; rw [h1] at e
    exact rcheck_ret_1 op d s t mb mi ms md imm w hf h0 h1
  cases h2 : (t == 0)
  · have e : errOf ((d == 0) && (s == 0) && (t == 0) && memZ mb mi ms md && (imm == 0)) = 2 := by simp [errOf, h0, h1, h2]
    simp only [h0, h1] at e; rw [h2] at e
    exact rcheck_ret_2 op d s t mb mi ms md imm w hf h0 h1 h2
  cases h3 : memZ mb mi ms md
  · have e : errOf ((d == 0) && (s == 0) && (t == 0) && memZ mb mi ms md && (imm == 0)) = 2 := by simp [errOf, h0, h1, h2, h3]
    simp only [h0, h1, h2] at e; rw [h3] at e
    exact rcheck_ret_3 op d s t mb mi ms md imm w hf h0 h1 h2 h3
  cases h4 : (imm == 0)
  · have e : errOf ((d == 0) && (s == 0) && (t == 0) && memZ mb mi ms md && (imm == 0)) = 2 := by simp [errOf, h0, h1, h2, h3, h4]
    simp only [h0, h1, h2, h3] at e; rw [h4] at e
    exact rcheck_ret_4 op d s t mb mi ms md imm w hf h0 h1 h2 h3 h4
  exact rcheck_ret_5 op d s t mb mi ms md imm w hf h0 h1 h2 h3 h4
end Go.Proofs.Ytbcaelhchmoigaa

/- keysmithref05.Check of any instruction: it answers as inst.Check does. Conditions: none. -/
namespace Go.Proofs.Ytbcaelhchmoigaa
open Go.RowKit Calm

theorem reg_iff (x : Int) : (reg x = true) = Reg x := propext ⟨reg_of, of_reg⟩
theorem memZ_iff (a b c d : Int) : (memZ a b c d = true) = (a = 0 ∧ b = 0 ∧ c = 0 ∧ d = 0) := by unfold memZ; simp [and_assoc]
theorem smallB_iff (n : Int) : (smallB n = true) = (-2147483648 ≤ n ∧ n ≤ 2147483647) := by unfold smallB; simp
theorem chkX_1 (d s t mb mi ms md imm : Int) : chk 1 d s t mb mi ms md imm = (reg d && reg s && (t == 0) && memZ mb mi ms md && (imm == 0)) := by
  rw [Bool.eq_iff_iff, chk_1]
  simp only [Bool.and_eq_true, reg_iff, beq_iff_eq, memZ_iff]
  constructor <;> (intro h; simp_all)
theorem chkX_2 (d s t mb mi ms md imm : Int) : chk 2 d s t mb mi ms md imm = (reg d && (s == 0) && (t == 0) && memZ mb mi ms md) := by
  rw [Bool.eq_iff_iff, chk_2]
  simp only [Bool.and_eq_true, reg_iff, beq_iff_eq, memZ_iff]
  constructor <;> (intro h; simp_all)
theorem chkX_3 (d s t mb mi ms md imm : Int) : chk 3 d s t mb mi ms md imm = (reg d && (s == 0) && (t == 0) && plc mb mi ms md && (imm == 0)) := by
  rw [Bool.eq_iff_iff, chk_3]
  simp only [Bool.and_eq_true, reg_iff, beq_iff_eq]
  constructor <;> (intro h; simp_all)
theorem chkX_4 (d s t mb mi ms md imm : Int) : chk 4 d s t mb mi ms md imm = ((d == 0) && reg s && (t == 0) && plc mb mi ms md && (imm == 0)) := by
  rw [Bool.eq_iff_iff, chk_4]
  simp only [Bool.and_eq_true, reg_iff, beq_iff_eq]
  constructor <;> (intro h; simp_all)
theorem chkX_5 (d s t mb mi ms md imm : Int) : chk 5 d s t mb mi ms md imm = (reg d && (s == 0) && (t == 0) && plc mb mi ms md && (imm == 0)) := by
  rw [Bool.eq_iff_iff, chk_5]
  simp only [Bool.and_eq_true, reg_iff, beq_iff_eq]
  constructor <;> (intro h; simp_all)
theorem chkX_6 (d s t mb mi ms md imm : Int) : chk 6 d s t mb mi ms md imm = (reg d && reg s && (t == 0) && memZ mb mi ms md && (imm == 0)) := by
  rw [Bool.eq_iff_iff, chk_6]
  simp only [Bool.and_eq_true, reg_iff, beq_iff_eq, memZ_iff]
  constructor <;> (intro h; simp_all)
theorem chkX_7 (d s t mb mi ms md imm : Int) : chk 7 d s t mb mi ms md imm = (reg d && reg s && (t == 0) && memZ mb mi ms md && (imm == 0)) := by
  rw [Bool.eq_iff_iff, chk_7]
  simp only [Bool.and_eq_true, reg_iff, beq_iff_eq, memZ_iff]
  constructor <;> (intro h; simp_all)
theorem chkX_8 (d s t mb mi ms md imm : Int) : chk 8 d s t mb mi ms md imm = (reg d && reg s && (t == 0) && memZ mb mi ms md && (imm == 0)) := by
  rw [Bool.eq_iff_iff, chk_8]
  simp only [Bool.and_eq_true, reg_iff, beq_iff_eq, memZ_iff]
  constructor <;> (intro h; simp_all)
theorem chkX_9 (d s t mb mi ms md imm : Int) : chk 9 d s t mb mi ms md imm = (reg d && reg s && (t == 0) && memZ mb mi ms md && (imm == 0)) := by
  rw [Bool.eq_iff_iff, chk_9]
  simp only [Bool.and_eq_true, reg_iff, beq_iff_eq, memZ_iff]
  constructor <;> (intro h; simp_all)
theorem chkX_10 (d s t mb mi ms md imm : Int) : chk 10 d s t mb mi ms md imm = (reg d && reg s && (t == 0) && memZ mb mi ms md && (imm == 0)) := by
  rw [Bool.eq_iff_iff, chk_10]
  simp only [Bool.and_eq_true, reg_iff, beq_iff_eq, memZ_iff]
  constructor <;> (intro h; simp_all)
theorem chkX_11 (d s t mb mi ms md imm : Int) : chk 11 d s t mb mi ms md imm = (reg d && reg s && (t == 0) && memZ mb mi ms md && (imm == 0)) := by
  rw [Bool.eq_iff_iff, chk_11]
  simp only [Bool.and_eq_true, reg_iff, beq_iff_eq, memZ_iff]
  constructor <;> (intro h; simp_all)
theorem chkX_12 (d s t mb mi ms md imm : Int) : chk 12 d s t mb mi ms md imm = (reg d && reg s && (t == 0) && memZ mb mi ms md && (imm == 0)) := by
  rw [Bool.eq_iff_iff, chk_12]
  simp only [Bool.and_eq_true, reg_iff, beq_iff_eq, memZ_iff]
  constructor <;> (intro h; simp_all)
theorem chkX_13 (d s t mb mi ms md imm : Int) : chk 13 d s t mb mi ms md imm = (reg d && reg s && (t == 0) && memZ mb mi ms md && (imm == 0)) := by
  rw [Bool.eq_iff_iff, chk_13]
  simp only [Bool.and_eq_true, reg_iff, beq_iff_eq, memZ_iff]
  constructor <;> (intro h; simp_all)
theorem chkX_14 (d s t mb mi ms md imm : Int) : chk 14 d s t mb mi ms md imm = (reg d && reg s && (t == 0) && memZ mb mi ms md && (imm == 0)) := by
  rw [Bool.eq_iff_iff, chk_14]
  simp only [Bool.and_eq_true, reg_iff, beq_iff_eq, memZ_iff]
  constructor <;> (intro h; simp_all)
theorem chkX_15 (d s t mb mi ms md imm : Int) : chk 15 d s t mb mi ms md imm = (reg d && (s == 0) && (t == 0) && memZ mb mi ms md && smallB imm) := by
  rw [Bool.eq_iff_iff, chk_15]
  simp only [Bool.and_eq_true, reg_iff, beq_iff_eq, memZ_iff, smallB_iff]
  constructor <;> (intro h; simp_all)
theorem chkX_16 (d s t mb mi ms md imm : Int) : chk 16 d s t mb mi ms md imm = (reg d && (s == 0) && (t == 0) && memZ mb mi ms md && smallB imm) := by
  rw [Bool.eq_iff_iff, chk_16]
  simp only [Bool.and_eq_true, reg_iff, beq_iff_eq, memZ_iff, smallB_iff]
  constructor <;> (intro h; simp_all)
theorem chkX_17 (d s t mb mi ms md imm : Int) : chk 17 d s t mb mi ms md imm = (reg d && (s == 0) && (t == 0) && memZ mb mi ms md && smallB imm) := by
  rw [Bool.eq_iff_iff, chk_17]
  simp only [Bool.and_eq_true, reg_iff, beq_iff_eq, memZ_iff, smallB_iff]
  constructor <;> (intro h; simp_all)
theorem chkX_18 (d s t mb mi ms md imm : Int) : chk 18 d s t mb mi ms md imm = (reg d && (s == 0) && (t == 0) && memZ mb mi ms md && smallB imm) := by
  rw [Bool.eq_iff_iff, chk_18]
  simp only [Bool.and_eq_true, reg_iff, beq_iff_eq, memZ_iff, smallB_iff]
  constructor <;> (intro h; simp_all)
theorem chkX_19 (d s t mb mi ms md imm : Int) : chk 19 d s t mb mi ms md imm = (reg d && reg s && reg t && (d != s) && memZ mb mi ms md && (imm == 0)) := by
  rw [Bool.eq_iff_iff, chk_19]
  simp only [Bool.and_eq_true, reg_iff, beq_iff_eq, bne_iff_ne, ne_eq, memZ_iff]
  constructor <;> (intro h; simp_all)
theorem chkX_20 (d s t mb mi ms md imm : Int) : chk 20 d s t mb mi ms md imm = (reg d && reg s && (t == 0) && memZ mb mi ms md && (imm == 0)) := by
  rw [Bool.eq_iff_iff, chk_20]
  simp only [Bool.and_eq_true, reg_iff, beq_iff_eq, memZ_iff]
  constructor <;> (intro h; simp_all)
theorem chkX_21 (d s t mb mi ms md imm : Int) : chk 21 d s t mb mi ms md imm = (reg d && reg s && (t == 0) && memZ mb mi ms md && (imm == 0)) := by
  rw [Bool.eq_iff_iff, chk_21]
  simp only [Bool.and_eq_true, reg_iff, beq_iff_eq, memZ_iff]
  constructor <;> (intro h; simp_all)
theorem chkX_22 (d s t mb mi ms md imm : Int) : chk 22 d s t mb mi ms md imm = (reg d && (s == 0) && (t == 0) && memZ mb mi ms md && (imm == 0)) := by
  rw [Bool.eq_iff_iff, chk_22]
  simp only [Bool.and_eq_true, reg_iff, beq_iff_eq, memZ_iff]
  constructor <;> (intro h; simp_all)
theorem chkX_23 (d s t mb mi ms md imm : Int) : chk 23 d s t mb mi ms md imm = (reg d && (s == 0) && (t == 0) && memZ mb mi ms md && (imm == 0)) := by
  rw [Bool.eq_iff_iff, chk_23]
  simp only [Bool.and_eq_true, reg_iff, beq_iff_eq, memZ_iff]
  constructor <;> (intro h; simp_all)
theorem chkX_24 (d s t mb mi ms md imm : Int) : chk 24 d s t mb mi ms md imm = (reg d && (s == 0) && (t == 0) && memZ mb mi ms md && decide (1 ≤ imm) && decide (imm ≤ 63)) := by
  rw [Bool.eq_iff_iff, chk_24]
  simp only [Bool.and_eq_true, reg_iff, beq_iff_eq, decide_eq_true_eq, memZ_iff]
  constructor <;> (intro h; simp_all)
theorem chkX_25 (d s t mb mi ms md imm : Int) : chk 25 d s t mb mi ms md imm = (reg d && (s == 0) && (t == 0) && memZ mb mi ms md && decide (1 ≤ imm) && decide (imm ≤ 63)) := by
  rw [Bool.eq_iff_iff, chk_25]
  simp only [Bool.and_eq_true, reg_iff, beq_iff_eq, decide_eq_true_eq, memZ_iff]
  constructor <;> (intro h; simp_all)
theorem chkX_26 (d s t mb mi ms md imm : Int) : chk 26 d s t mb mi ms md imm = (reg d && reg s && (t == 0) && memZ mb mi ms md && (imm == 0)) := by
  rw [Bool.eq_iff_iff, chk_26]
  simp only [Bool.and_eq_true, reg_iff, beq_iff_eq, memZ_iff]
  constructor <;> (intro h; simp_all)
theorem chkX_27 (d s t mb mi ms md imm : Int) : chk 27 d s t mb mi ms md imm = (reg d && reg s && (t == 0) && memZ mb mi ms md && (imm == 0)) := by
  rw [Bool.eq_iff_iff, chk_27]
  simp only [Bool.and_eq_true, reg_iff, beq_iff_eq, memZ_iff]
  constructor <;> (intro h; simp_all)
theorem chkX_28 (d s t mb mi ms md imm : Int) : chk 28 d s t mb mi ms md imm = ((d == 0) && reg s && (t == 0) && memZ mb mi ms md && (imm == 0)) := by
  rw [Bool.eq_iff_iff, chk_28]
  simp only [Bool.and_eq_true, reg_iff, beq_iff_eq, memZ_iff]
  constructor <;> (intro h; simp_all)
theorem chkX_29 (d s t mb mi ms md imm : Int) : chk 29 d s t mb mi ms md imm = (reg d && (s == 0) && (t == 0) && memZ mb mi ms md && (imm == 0)) := by
  rw [Bool.eq_iff_iff, chk_29]
  simp only [Bool.and_eq_true, reg_iff, beq_iff_eq, memZ_iff]
  constructor <;> (intro h; simp_all)
theorem chkX_30 (d s t mb mi ms md imm : Int) : chk 30 d s t mb mi ms md imm = ((d == 0) && (s == 0) && (t == 0) && memZ mb mi ms md && smallB imm) := by
  rw [Bool.eq_iff_iff, chk_30]
  simp only [Bool.and_eq_true, beq_iff_eq, memZ_iff, smallB_iff]
  constructor <;> (intro h; simp_all)
theorem chkX_31 (d s t mb mi ms md imm : Int) : chk 31 d s t mb mi ms md imm = ((d == 0) && (s == 0) && (t == 0) && memZ mb mi ms md && smallB imm) := by
  rw [Bool.eq_iff_iff, chk_31]
  simp only [Bool.and_eq_true, beq_iff_eq, memZ_iff, smallB_iff]
  constructor <;> (intro h; simp_all)
theorem chkX_32 (d s t mb mi ms md imm : Int) : chk 32 d s t mb mi ms md imm = ((d == 0) && (s == 0) && (t == 0) && memZ mb mi ms md && smallB imm) := by
  rw [Bool.eq_iff_iff, chk_32]
  simp only [Bool.and_eq_true, beq_iff_eq, memZ_iff, smallB_iff]
  constructor <;> (intro h; simp_all)
theorem chkX_33 (d s t mb mi ms md imm : Int) : chk 33 d s t mb mi ms md imm = ((d == 0) && (s == 0) && (t == 0) && memZ mb mi ms md && (imm == 0)) := by
  rw [Bool.eq_iff_iff, chk_33]
  simp only [Bool.and_eq_true, beq_iff_eq, memZ_iff]
  constructor <;> (intro h; simp_all)
theorem chk_out (op d s t mb mi ms md imm : Int) (h : op ≤ 0 ∨ 34 ≤ op) : chk op d s t mb mi ms md imm = false := by
  cases e : chk op d s t mb mi ms md imm
  · rfl
  · have := chk_range e; omega
theorem formB_out (op : Int) (h : op ≤ 0 ∨ 34 ≤ op) : formB op = ⟨#[]⟩ := by unfold formB; repeat rw [if_neg (by omega)]
theorem rcheck_any (op d s t mb mi ms md imm : Int) (w : World) :
    Calls Try.prog 32 #[.agg #[.int .i64 op, .int .i64 d, .int .i64 s, .int .i64 t, .int .i64 mb, .int .i64 mi, .int .i64 ms, .int .i64 md, .int .i64 imm]] w fun e w' => e = .returned (.int .i64 (errOf (chk op d s t mb mi ms md imm))) ∧ Below w.heap.size w w' := by
  by_cases h : op ≤ 0 ∨ 34 ≤ op
  · rw [chk_out op d s t mb mi ms md imm h]
    exact rcheck_none op d s t mb mi ms md imm w (formB_out op h)
  have : op = 1 ∨ op = 2 ∨ op = 3 ∨ op = 4 ∨ op = 5 ∨ op = 6 ∨ op = 7 ∨ op = 8 ∨ op = 9 ∨ op = 10 ∨ op = 11 ∨ op = 12 ∨ op = 13 ∨ op = 14 ∨ op = 15 ∨ op = 16 ∨ op = 17 ∨ op = 18 ∨ op = 19 ∨ op = 20 ∨ op = 21 ∨ op = 22 ∨ op = 23 ∨ op = 24 ∨ op = 25 ∨ op = 26 ∨ op = 27 ∨ op = 28 ∨ op = 29 ∨ op = 30 ∨ op = 31 ∨ op = 32 ∨ op = 33 := by omega
  rcases this with rfl | rfl | rfl | rfl | rfl | rfl | rfl | rfl | rfl | rfl | rfl | rfl | rfl | rfl | rfl | rfl | rfl | rfl | rfl | rfl | rfl | rfl | rfl | rfl | rfl | rfl | rfl | rfl | rfl | rfl | rfl | rfl | rfl
  · rw [chkX_1]; exact rcheck_DS 1 d s t mb mi ms md imm w rfl
  · rw [chkX_2]; exact rcheck_Di64 2 d s t mb mi ms md imm w rfl
  · rw [chkX_3]; exact rcheck_DM 3 d s t mb mi ms md imm w rfl
  · rw [chkX_4]; exact rcheck_SM 4 d s t mb mi ms md imm w rfl
  · rw [chkX_5]; exact rcheck_DM 5 d s t mb mi ms md imm w rfl
  · rw [chkX_6]; exact rcheck_DS 6 d s t mb mi ms md imm w rfl
  · rw [chkX_7]; exact rcheck_DS 7 d s t mb mi ms md imm w rfl
  · rw [chkX_8]; exact rcheck_DS 8 d s t mb mi ms md imm w rfl
  · rw [chkX_9]; exact rcheck_DS 9 d s t mb mi ms md imm w rfl
  · rw [chkX_10]; exact rcheck_DS 10 d s t mb mi ms md imm w rfl
  · rw [chkX_11]; exact rcheck_DS 11 d s t mb mi ms md imm w rfl
  · rw [chkX_12]; exact rcheck_DS 12 d s t mb mi ms md imm w rfl
  · rw [chkX_13]; exact rcheck_DS 13 d s t mb mi ms md imm w rfl
  · rw [chkX_14]; exact rcheck_DS 14 d s t mb mi ms md imm w rfl
  · rw [chkX_15]; exact rcheck_Di32 15 d s t mb mi ms md imm w rfl
  · rw [chkX_16]; exact rcheck_Di32 16 d s t mb mi ms md imm w rfl
  · rw [chkX_17]; exact rcheck_Di32 17 d s t mb mi ms md imm w rfl
  · rw [chkX_18]; exact rcheck_Di32 18 d s t mb mi ms md imm w rfl
  · rw [chkX_19]; exact rcheck_DST 19 d s t mb mi ms md imm w rfl
  · rw [chkX_20]; exact rcheck_DS 20 d s t mb mi ms md imm w rfl
  · rw [chkX_21]; exact rcheck_DS 21 d s t mb mi ms md imm w rfl
  · rw [chkX_22]; exact rcheck_D 22 d s t mb mi ms md imm w rfl
  · rw [chkX_23]; exact rcheck_D 23 d s t mb mi ms md imm w rfl
  · rw [chkX_24]; exact rcheck_Db 24 d s t mb mi ms md imm w rfl
  · rw [chkX_25]; exact rcheck_Db 25 d s t mb mi ms md imm w rfl
  · rw [chkX_26]; exact rcheck_DS 26 d s t mb mi ms md imm w rfl
  · rw [chkX_27]; exact rcheck_DS 27 d s t mb mi ms md imm w rfl
  · rw [chkX_28]; exact rcheck_S 28 d s t mb mi ms md imm w rfl
  · rw [chkX_29]; exact rcheck_D 29 d s t mb mi ms md imm w rfl
  · rw [chkX_30]; exact rcheck_i 30 d s t mb mi ms md imm w rfl
  · rw [chkX_31]; exact rcheck_i 31 d s t mb mi ms md imm w rfl
  · rw [chkX_32]; exact rcheck_i 32 d s t mb mi ms md imm w rfl
  · rw [chkX_33]; exact rcheck_ret 33 d s t mb mi ms md imm w rfl
end Go.Proofs.Ytbcaelhchmoigaa
