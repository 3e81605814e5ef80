/- The laws of chapter 1, walked out of the contracts of package word: each returns true. -/
import Derived.Test.YtamkbbpjbmoipaaWordW
namespace Go.Proofs.Ytamkbbpjbmoipaa
open Go.RowKit Wd

theorem inU_max : InU 18446744073709551615 := by unfold InU; omega
theorem inU_0 : InU 0 := by unfold InU; omega
theorem inU_3 : InU 3 := by unfold InU; omega

set_option maxHeartbeats 400000 in
theorem lives_any (w : World) :
    Calls Try.prog 9 #[] w fun e w' => e = .returned (.bool true) ∧ w = w' := by
  have e1 : addS 18446744073709551615 0 true = 0 := by decide +kernel
  have e2 : addC 18446744073709551615 0 true = true := by decide +kernel
  have e3 : inv 3 = 12297829382473034411 := by decide +kernel
  have e4 : odd 3 = true := by decide +kernel
  go_enter Try.func9, Try.ntmps9
  go_wp2_with (first | (go_at_call 12; refine (add_any _ _ _ _ inU_max inU_0).mono ?_; rintro e w' ⟨rfl, rfl⟩) | (go_at_call 10; refine (inverse_any _ _ inU_3).mono ?_; rintro e w' ⟨rfl, rfl⟩))
  go_ret
  exact ⟨rfl, rfl⟩

set_option maxHeartbeats 400000 in
theorem wordInverse_walk (a b : Int) (w : World) (ha : InU a) (hb : InU b) :
    Calls Try.prog 3 #[.int .u64 a, .int .u64 b] w fun e w' => e = .returned (.bool true) ∧ w = w' := by
  by_cases ho : a % 2 = 1
  · have h1 := inv_ok a ho
    have h2 := inU_inv a ha
    have e1 : (IntKind.u64.wrap (a * inv a) == 1) = true := by rw [wu, h1]; rfl
    have e2 : odd a = true := by simp [odd, ho]
    have hi1 : inv a * a % 18446744073709551616 = 1 := by rw [Int.mul_comm]; exact h1
    have e3 : a = inv (inv a) := inv_is _ _ h2 ha hi1
    have e4 : odd (inv a) = true := by
      by_cases h : inv a % 2 = 1
      · simp [odd, h]
      · rw [inv, if_neg h] at e3; omega
    have e5 : ((IntKind.u64.wrap (a * b) == 1) == (b == inv a)) = true := by
      rw [wu]
      by_cases h : a * b % 18446744073709551616 = 1
      · have := inv_is a b ha hb h; subst this; simp [h]
      · have h' : ¬ b = inv a := fun e => h (by rw [e]; exact h1)
        rw [beq_eq_false_iff_ne.2 h, beq_eq_false_iff_ne.2 h']; rfl
    have e6 : (inv (inv a) == a) = true := by rw [← e3]; simp
    have e7 : (a.tmod 2 == 0) = false := by rw [Int.tmod_eq_emod_of_nonneg ha.1]; simp; omega
    clear h1 ho e3 hi1
    go_enter Try.func3, Try.ntmps3
    go_wp2_with (first | (go_at_call 9; refine (lives_any _).mono ?_; rintro e w' ⟨rfl, rfl⟩) | (go_at_call 10; refine (inverse_any _ _ (by assumption)).mono ?_; rintro e w' ⟨rfl, rfl⟩))
    go_ret
    exact ⟨rfl, rfl⟩
  · have e1 : odd a = false := by simp [odd, ho]
    have e2 : inv a = 0 := by simp [inv, ho]
    have e7 : (a.tmod 2 == 0) = true := by rw [Int.tmod_eq_emod_of_nonneg ha.1]; simp; omega
    have h2 := inU_0
    clear ho
    go_enter Try.func3, Try.ntmps3
    go_wp2_with (first | (go_at_call 9; refine (lives_any _).mono ?_; rintro e w' ⟨rfl, rfl⟩) | (go_at_call 10; refine (inverse_any _ _ (by assumption)).mono ?_; rintro e w' ⟨rfl, rfl⟩))
    go_ret
    exact ⟨rfl, rfl⟩

/-! Products spread -/
theorem spread_lin (A B a : Int) (cy : Bool) (hA : 0 ≤ A ∧ A ≤ 340282366920938463426481119284349108225) (hB : 0 ≤ B ∧ B ≤ 340282366920938463426481119284349108225)
    (hS : 0 ≤ A + B - (if cy then a * 18446744073709551616 else 0) ∧ A + B - (if cy then a * 18446744073709551616 else 0) ≤ 340282366920938463426481119284349108225) :
    addS (A % 18446744073709551616) (B % 18446744073709551616) false = (A + B - (if cy then a * 18446744073709551616 else 0)) % 18446744073709551616 ∧
    (cy = false → addS (A / 18446744073709551616) (B / 18446744073709551616) (addC (A % 18446744073709551616) (B % 18446744073709551616) false) = (A + B - (if cy then a * 18446744073709551616 else 0)) / 18446744073709551616 ∧
      addC (A / 18446744073709551616) (B / 18446744073709551616) (addC (A % 18446744073709551616) (B % 18446744073709551616) false) = false) ∧
    (cy = true → addS (A / 18446744073709551616) (B / 18446744073709551616) (addC (A % 18446744073709551616) (B % 18446744073709551616) false) = addS ((A + B - (if cy then a * 18446744073709551616 else 0)) / 18446744073709551616) a false) := by
  unfold addS addC
  have eA : A = 18446744073709551616 * (A / 18446744073709551616) + A % 18446744073709551616 := by omega
  have eB : B = 18446744073709551616 * (B / 18446744073709551616) + B % 18446744073709551616 := by omega
  have bA : 0 ≤ A / 18446744073709551616 ∧ A / 18446744073709551616 < 18446744073709551616 ∧ 0 ≤ A % 18446744073709551616 ∧ A % 18446744073709551616 < 18446744073709551616 := by omega
  have bB : 0 ≤ B / 18446744073709551616 ∧ B / 18446744073709551616 < 18446744073709551616 ∧ 0 ≤ B % 18446744073709551616 ∧ B % 18446744073709551616 < 18446744073709551616 := by omega
  generalize A / 18446744073709551616 = p at *
  generalize A % 18446744073709551616 = q at *
  generalize B / 18446744073709551616 = r at *
  generalize B % 18446744073709551616 = t at *
  subst eA eB
  clear hA hB
  by_cases hk : 18446744073709551616 ≤ q + t
  · have hk' : decide (18446744073709551616 ≤ q + t + (if false = true then 1 else 0)) = true := by simpa using hk
    rw [hk']
    cases cy <;> simp at hS ⊢ <;> omega
  · have hk' : decide (18446744073709551616 ≤ q + t + (if false = true then 1 else 0)) = false := by simpa using hk
    rw [hk']
    cases cy <;> simp at hS ⊢ <;> omega
theorem spread (a b c : Int) (ha : InU a) (hb : InU b) (hc : InU c) :
    addS (lo a b) (lo a c) false = lo a (addS b c false) ∧ hi b a = hi a b ∧ lo b a = lo a b ∧
    (addC b c false = false → addS (hi a b) (hi a c) (addC (lo a b) (lo a c) false) = hi a (addS b c false) ∧ addC (hi a b) (hi a c) (addC (lo a b) (lo a c) false) = false) ∧
    (addC b c false = true → addS (hi a b) (hi a c) (addC (lo a b) (lo a c) false) = addS (hi a (addS b c false)) a false) := by
  have hs : InU (addS b c false) := inU_addS _ _ _
  have hA := word_mul a b ha hb
  have hB := word_mul a c ha hc
  have hS := word_mul a _ ha hs
  have e0 : addS b c false = b + c - (if addC b c false = true then 18446744073709551616 else 0) := by
    simp only [addS, addC]; unfold InU at *; simp only [decide_eq_true_eq]; split <;> simp at * <;> omega
  have e1 : a * addS b c false = a * b + a * c - (if addC b c false = true then a * 18446744073709551616 else 0) := by
    rw [e0]; split <;> grind
  rw [e1] at hS
  have h := spread_lin (a * b) (a * c) a (addC b c false) hA hB hS
  rw [← e1] at h
  exact ⟨h.1, by unfold hi; rw [Int.mul_comm], by unfold lo; rw [Int.mul_comm], h.2.1, h.2.2⟩
set_option maxHeartbeats 400000 in
theorem wordSpreads_walk (a b c : Int) (w : World) (ha : InU a) (hb : InU b) (hc : InU c) :
    Calls Try.prog 4 #[.int .u64 a, .int .u64 b, .int .u64 c] w fun e w' => e = .returned (.bool true) ∧ w = w' := by
  have hs := inU_addS b c false
  have h1 := inU_lo a b
  have h2 := inU_lo a c
  have h3 := inU_hi a b ha hb
  have h4 := inU_hi a c ha hc
  have h5 := inU_hi a _ ha hs
  obtain ⟨e1, e2, e3, e4, e5⟩ := spread a b c ha hb hc
  have e1 : (addS (lo a b) (lo a c) false == lo a (addS b c false)) = true := by rw [e1]; simp
  have e2 : (hi b a == hi a b) = true := by rw [e2]; simp
  have e3 : (lo b a == lo a b) = true := by rw [e3]; simp
  cases hcc : addC b c false with
  | false =>
    obtain ⟨e6, e7⟩ := e4 hcc
    have e6 : (addS (hi a b) (hi a c) (addC (lo a b) (lo a c) false) == hi a (addS b c false)) = true := by rw [e6]; simp
    clear e4 e5
    go_enter Try.func4, Try.ntmps4
    go_wp2_with (first | (go_at_call 9; refine (lives_any _).mono ?_; rintro e w' ⟨rfl, rfl⟩) | (go_at_call 11; refine (mul_any _ _ _ (by assumption) (by assumption)).mono ?_; rintro e w' ⟨rfl, rfl⟩) | (go_at_call 12; refine (add_any _ _ _ _ (by assumption) (by assumption)).mono ?_; rintro e w' ⟨rfl, rfl⟩))
    go_ret
    exact ⟨rfl, rfl⟩
  | true =>
    have e6 : (addS (hi a b) (hi a c) (addC (lo a b) (lo a c) false) == addS (hi a (addS b c false)) a false) = true := by rw [e5 hcc]; simp
    clear e4 e5
    go_enter Try.func4, Try.ntmps4
    go_wp2_with (first | (go_at_call 9; refine (lives_any _).mono ?_; rintro e w' ⟨rfl, rfl⟩) | (go_at_call 11; refine (mul_any _ _ _ (by assumption) (by assumption)).mono ?_; rintro e w' ⟨rfl, rfl⟩) | (go_at_call 12; refine (add_any _ _ _ _ (by assumption) (by assumption)).mono ?_; rintro e w' ⟨rfl, rfl⟩))
    go_ret
    exact ⟨rfl, rfl⟩
end Go.Proofs.Ytamkbbpjbmoipaa
