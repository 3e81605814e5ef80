/- The law WordBack: Sub undoes Add, Div undoes Mul. -/
import Derived.Test.YtamkbbpjbmoipaaWordV
import Derived.Test.YtamkbbpjbmoipaaWordL
namespace Go.Proofs.Ytamkbbpjbmoipaa
open Go.RowKit Wd

theorem back_add (a b : Int) (c : Bool) (ha : InU a) (hb : InU b) : subS (addS a b c) b c = a ∧ subC (addS a b c) b c = addC a b c := by
  unfold InU at *
  unfold subS addS subC addC
  refine ⟨by cases c <;> simp <;> omega, ?_⟩
  rw [Bool.eq_iff_iff]
  cases c <;> simp <;> omega
theorem carry_lin (A r : Int) (hA : 0 ≤ A ∧ A ≤ 340282366920938463426481119284349108225) (hr : 0 ≤ r ∧ r < 18446744073709551616) (hs : A + r < 340282366920938463463374607431768211456) :
    addS (A / 18446744073709551616) 0 (addC (A % 18446744073709551616) r false) * 18446744073709551616 + addS (A % 18446744073709551616) r false = A + r := by
  unfold addS addC
  have eA : A = 18446744073709551616 * (A / 18446744073709551616) + A % 18446744073709551616 := by omega
  have bA : 0 ≤ A / 18446744073709551616 ∧ A / 18446744073709551616 < 18446744073709551616 ∧ 0 ≤ A % 18446744073709551616 ∧ A % 18446744073709551616 < 18446744073709551616 := by omega
  generalize A / 18446744073709551616 = p at *
  generalize A % 18446744073709551616 = q at *
  subst eA
  clear hA
  by_cases hk : 18446744073709551616 ≤ q + r
  · have hk' : decide (18446744073709551616 ≤ q + r + (if false = true then 1 else 0)) = true := by simpa using hk
    rw [hk']; simp; omega
  · have hk' : decide (18446744073709551616 ≤ q + r + (if false = true then 1 else 0)) = false := by simpa using hk
    rw [hk']; simp; omega
theorem back_div (a b c : Int) (ha : InU a) (hb : InU b) (h0 : 0 < b) :
    let r := c % b
    let t := addS (lo a b) r false; let more := addC (lo a b) r false
    let u := addS (hi a b) 0 more
    u < b ∧ quo u t b = a ∧ rem u t b = r := by
  intro r t more u
  have hr : 0 ≤ r ∧ r < b := ⟨Int.emod_nonneg _ (by omega), Int.emod_lt_of_pos _ h0⟩
  have hA := word_mul a b ha hb
  have hN : a * b + r < b * 18446744073709551616 := by
    have h1 : a * b ≤ 18446744073709551615 * b := Int.mul_le_mul_of_nonneg_right (by have := ha.2; omega) (by omega)
    omega
  have e : u * 18446744073709551616 + t = a * b + r := carry_lin (a * b) r hA ⟨hr.1, by have := hb.2; omega⟩ (by have := hb.2; omega)
  have ht : 0 ≤ t := (inU_addS _ _ _).1
  have hu : u < b := by omega
  have q := euclid (a * b + r) b r a hr.1 hr.2 (by rw [Int.mul_comm]; omega)
  refine ⟨hu, ?_, ?_⟩
  · unfold quo; rw [if_pos hu, e]; exact q.1.symm
  · unfold rem; rw [if_pos hu, e]; exact q.2.symm
set_option maxHeartbeats 2000000 in
set_option maxRecDepth 100000 in
theorem wordBack_walk (a b c : Int) (carry : Bool) (w : World) (ha : InU a) (hb : InU b) (hc : InU c) :
    Calls Try.prog 6 #[.int .u64 a, .int .u64 b, .int .u64 c, .bool carry] w fun e w' => e = .returned (.bool true) ∧ w = w' := by
  obtain ⟨e1, e2⟩ := back_add a b carry ha hb
  have i1 := inU_addS a b carry
  have i0 := inU_0
  by_cases h0 : b = 0
  · subst h0
    have e3 : hi a 0 = 0 := by simp [hi]
    have e4 : lo a 0 = 0 := by simp [lo]
    have g1 : (a != a) = false := by simp
    have g2 : (addC a 0 carry != addC a 0 carry) = false := by simp
    go_enter Try.func6, Try.ntmps6
    go_wp2_with (first | (go_at_call 9; refine (lives_any _).mono ?_; rintro e w' ⟨rfl, rfl⟩) | (go_at_call 11; refine (mul_any _ _ _ (by assumption) (by assumption)).mono ?_; rintro e w' ⟨rfl, rfl⟩) | (go_at_call 12; refine (add_any _ _ _ _ (by assumption) (by assumption)).mono ?_; rintro e w' ⟨rfl, rfl⟩) | (go_at_call 17; refine (sub_any _ _ _ _ (by assumption) (by assumption)).mono ?_; rintro e w' ⟨rfl, rfl⟩))
    go_ret
    exact ⟨rfl, rfl⟩
  · have hb0 : 0 < b := by have := hb.1; omega
    have h := back_div a b c ha hb hb0
    dsimp only at h
    have hr : c.tmod b = c % b := Int.tmod_eq_emod_of_nonneg hc.1
    rw [← hr] at h
    obtain ⟨q1, q2, q3⟩ := h
    have i2 : InU (c.tmod b) := by rw [hr]; have := Int.emod_nonneg c (show b ≠ 0 by omega); have := Int.emod_lt_of_pos c hb0; have := hb.2; unfold InU; omega
    have i3 := inU_lo a b
    have i4 := inU_hi a b ha hb
    have i5 := inU_addS (lo a b) (c.tmod b) false
    have i6 := inU_addS (hi a b) 0 (addC (lo a b) (c.tmod b) false)
    have g1 : (a != a) = false := by simp
    have g2 : (addC a b carry != addC a b carry) = false := by simp
    have g3 : (b == 0) = false := by simp; omega
    clear hr
    go_enter Try.func6, Try.ntmps6
    go_wp2_with (first | (go_at_call 9; refine (lives_any _).mono ?_; rintro e w' ⟨rfl, rfl⟩) | (go_at_call 11; refine (mul_any _ _ _ (by assumption) (by assumption)).mono ?_; rintro e w' ⟨rfl, rfl⟩) | (go_at_call 12; refine (add_any _ _ _ _ (by assumption) (by assumption)).mono ?_; rintro e w' ⟨rfl, rfl⟩) | (go_at_call 17; refine (sub_any _ _ _ _ (by assumption) (by assumption)).mono ?_; rintro e w' ⟨rfl, rfl⟩) | (go_at_call 18; refine (div_any _ _ _ _ (by assumption) (by assumption) (by assumption)).mono ?_; rintro e w' ⟨rfl, rfl⟩))
    go_ret
    exact ⟨rfl, rfl⟩
end Go.Proofs.Ytamkbbpjbmoipaa
