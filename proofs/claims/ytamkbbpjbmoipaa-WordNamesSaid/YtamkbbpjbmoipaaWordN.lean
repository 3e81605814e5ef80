/- The law WordNames: the chapter's examples. -/
import Derived.Test.YtamkbbpjbmoipaaWordV
import Derived.Test.YtamkbbpjbmoipaaWordL
namespace Go.Proofs.Ytamkbbpjbmoipaa
open Go.RowKit Wd

theorem inU_lit (n : Int) (h : (decide (0 ≤ n) && decide (n < 18446744073709551616)) = true) : InU n := by
  simp at h; exact h
set_option maxHeartbeats 4000000 in
set_option maxRecDepth 100000 in
theorem wordNames_walk (w : World) :
    Calls Try.prog 7 #[] w fun e w' => e = .returned (.bool true) ∧ ∃ q, w' = w.drewN q := by
  have i0 : InU 0 := inU_lit _ (by decide +kernel)
  have i1 : InU 1 := inU_lit _ (by decide +kernel)
  have i5 : InU 5 := inU_lit _ (by decide +kernel)
  have i6 : InU 6 := inU_lit _ (by decide +kernel)
  have i10 : InU 10 := inU_lit _ (by decide +kernel)
  have i11 : InU 9223372036854775808 := inU_lit _ (by decide +kernel)
  have im := inU_max
  have a1 : subS 0 0 true = 18446744073709551615 := by decide +kernel
  have a2 : subC 0 0 true = true := by decide +kernel
  have a3 : hi 18446744073709551615 18446744073709551615 = 18446744073709551614 := by decide +kernel
  have a4 : lo 18446744073709551615 18446744073709551615 = 1 := by decide +kernel
  have a5 : quo 1 5 10 = 1844674407370955162 := by decide +kernel
  have a6 : rem 1 5 10 = 1 := by decide +kernel
  have a7 : odd 6 = false := by decide +kernel
  have a8 : maskOf true = 18446744073709551615 := by decide +kernel
  have a9 : maskOf false = 0 := by decide +kernel
  have a10 : chooseI 240 171 205 = 173 := by decide +kernel
  have a11 : blen 0 = 0 := by decide +kernel
  have a12 : blen 9223372036854775808 = 64 := by decide +kernel
  have a13 : blen 5 = 3 := by decide +kernel
  go_enter Try.func7, Try.ntmps7
  go_wp2_with (first | (go_at_call 9; refine (lives_any _).mono ?_; rintro e w' ⟨rfl, rfl⟩) | (go_at_call 11; refine (mul_any _ _ _ (by assumption) (by assumption)).mono ?_; rintro e w' ⟨rfl, rfl⟩) | (go_at_call 10; refine (inverse_any _ _ (by assumption)).mono ?_; rintro e w' ⟨rfl, rfl⟩) | (go_at_call 17; refine (sub_any _ _ _ _ (by assumption) (by assumption)).mono ?_; rintro e w' ⟨rfl, rfl⟩) | (go_at_call 18; refine (div_any _ _ _ _ (by assumption) (by assumption) (by assumption)).mono ?_; rintro e w' ⟨rfl, rfl⟩) | (go_at_call 15; refine (mask_any _ _).mono ?_; rintro e w' ⟨rfl, rfl⟩) | (go_at_call 14; refine (choose_any _ _ _ _).mono ?_; rintro e w' ⟨rfl, rfl⟩) | (go_at_call 16; refine (bits_any _ _ (by assumption)).mono ?_; rintro e w' ⟨rfl, q, rfl⟩))
  go_ret
  exact ⟨rfl, _, rfl⟩
end Go.Proofs.Ytamkbbpjbmoipaa
